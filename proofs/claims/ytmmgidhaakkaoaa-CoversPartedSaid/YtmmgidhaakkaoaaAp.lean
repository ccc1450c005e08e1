/- CoversApart: the walk of the law. -/
import Derived.Test.YtmmgidhaakkaoaaCvL
namespace Go.Proofs.Ytmmgidhaakkaoaa
open Go Go.RowKit GhC

def W64 (L : List (Int × Int)) : Prop := ∀ p ∈ L, -9223372036854775808 ≤ p.1 ∧ p.1 ≤ 9223372036854775807 ∧ -9223372036854775808 ≤ p.2 ∧ p.2 ≤ 9223372036854775807
theorem W64.take {L : List (Int × Int)} (h : W64 L) (k : Nat) : W64 (L.take k) := fun p hp => h p (List.mem_of_mem_take hp)

theorem take12 {L : List (Int × Int)} (h : L.length ≤ 12) : L.take 12 = L := List.take_of_length_le h
theorem valid_take (L : List (Int × Int)) : validL (L.take 12) = validL L := by
  by_cases h : L.length ≤ 12
  · rw [take12 h]
  · rw [validL_no (L := L) (fun hs => by have := hs.2.1; omega), validL_no (L := L.take 12) (fun hs => by have := hs.2.1; rw [List.length_take] at this; omega)]
theorem valid_len {L : List (Int × Int)} (h : validL L = true) : L.take 12 = L := take12 (by have := (validL_yes h).2.1; omega)

/-- whether the pair at a place is apart from the first j -/
def apIn (L : List (Int × Int)) (p : Int × Int) (j : Nat) : Bool := (L.take j).all (fun q => apartP p q)
def apUp (L : List (Int × Int)) (k : Nat) : Bool := (List.range k).all (fun i => apIn L (L.getD i (0, 0)) i)
theorem apIn_succ {L : List (Int × Int)} {p q : Int × Int} {j : Nat} (h : L[j]? = some q) : apIn L p (j + 1) = (apIn L p j && apartP p q) := by
  unfold apIn; rw [take_at h, List.all_append]; simp
theorem apUp_succ {L : List (Int × Int)} {k : Nat} {p : Int × Int} (h : L[k]? = some p) : apUp L (k + 1) = (apUp L k && apIn L p k) := by
  unfold apUp; rw [List.range_succ, List.all_append]; simp [h]

theorem apUp_iff {L : List (Int × Int)} : apUp L L.length = true ↔ ∀ i j : Nat, ∀ p q : Int × Int, j < i → L[i]? = some p → L[j]? = some q → apartP p q = true := by
  unfold apUp
  rw [List.all_eq_true]
  constructor
  · intro h i j p q hij hp hq
    have hi : i < L.length := (List.getElem?_eq_some_iff.1 hp).1
    have := h i (List.mem_range.2 hi)
    unfold apIn at this
    rw [List.all_eq_true] at this
    have e : L.getD i (0, 0) = p := by rw [List.getD_eq_getElem?_getD, hp]; rfl
    rw [e] at this
    refine this q ?_
    rw [List.mem_take_iff_getElem]
    obtain ⟨hj, e2⟩ := List.getElem?_eq_some_iff.1 hq
    exact ⟨j, by omega, e2⟩
  · intro h i hi
    have hi := List.mem_range.1 hi
    unfold apIn
    rw [List.all_eq_true]
    intro q hq
    rw [List.mem_take_iff_getElem] at hq
    obtain ⟨j, hj, e⟩ := hq
    refine h i j _ q (by omega) (by rw [List.getD_eq_getElem?_getD, List.getElem?_eq_getElem hi]; rfl) (by rw [List.getElem?_eq_getElem (by omega), e])

theorem tmod_ne (x m : Int) : (x.tmod m != 0) = !(x % m == 0) := by
  rw [← tmod_zero]; rfl

set_option maxRecDepth 100000 in
set_option maxHeartbeats 1000000 in
theorem apart_walk (A : Option Addr) (l c : Nat) (L : List (Int × Int)) (w : World) (h : Row w w.heap.size A l L) (hw : W64 L) (hlc : l ≤ c) (hc : c ≤ maxLen) (hA : A = none → l = 0 ∧ c = 0) :
    Calls Try.prog 4 #[.slice A l c] w fun e w' => e = .returned (.bool true) ∧ Below w.heap.size w w' := by
  have hl : l ≤ 9223372036854775807 := by unfold maxLen at hc; omega
  have HR := Lib.hid h
  have HW := Lib.hid hw
  have HL := Lib.hid h.1
  have HP := Lib.hid (pairs_any A l c L w h hlc hc hA)
  clear h hw
  cases hv : validL L with
  | false =>
    have HV := Lib.hid hv
    have HV2 : Hid (validL (L.take 12) = false) := Lib.hid (by rw [valid_take]; exact hv)
    clear hv
    go_enter Try.func4, Try.ntmps4
    go_wp2_with fail
    refine HP.out.mono ?_; rintro e w1 ⟨A1, n1, c1, rfl, hr1, hb1⟩
    go_wp2_with fail
    have HN : Hid (n1 ≤ 9223372036854775807) := Lib.hid (by have := hr1.1; rw [List.length_take] at this; omega)
    refine (twice_no A1 n1 c1 (L.take 12) w1 hr1 (HW.out.take 12) HN.out HV2.out).mono ?_; rintro e w2 ⟨rfl, hb2⟩
    have HR2 := Lib.hid (((HR.out.below hb1).more hb1.size).below hb2 |>.more hb2.size)
    clear hr1
    go_wp2_with fail
    refine (rvalid_any A l c L w2 HR2.out HW.out hl).mono ?_; rw [HV.out]; rintro e w3 ⟨rfl, hb3⟩
    go_wp2_with fail
    refine (awake_any _).mono ?_; rintro e w4 ⟨rfl, hb4⟩
    go_wp2_with fail
    go_ret
    exact ⟨rfl, bt (bt (bt hb1 hb2) hb3) hb4⟩
  | true =>
    have HV := Lib.hid hv
    have HS := Lib.hid (validL_yes hv)
    have HT := Lib.hid (valid_len hv)
    have hl10 : l ≤ 10 := by have := HS.out.2.1; have := HL.out; omega
    have HE : Hid (apUp L L.length = (fstE true L == 4)) := Lib.hid (by
      rw [Bool.eq_iff_iff, apUp_iff, ← apart_iff HS.out]; simp)
    have hlast : ∀ w2 : World, Below w.heap.size w w2 → True := fun _ _ => trivial
    clear hv hlast
    rcases fstE_cases true L with hE | hE
    · have HF := Lib.hid hE
      have HAP : Hid (apUp L L.length = false) := Lib.hid (by rw [HE.out, hE]; rfl)
      clear hE
      go_enter Try.func4, Try.ntmps4
      go_wp2_with fail
      refine HP.out.mono ?_; rw [HT.out]; rintro e w1 ⟨A1, n1, c1, rfl, hr1, hb1⟩
      go_wp2_with fail
      have HN : Hid (n1 ≤ 9223372036854775807) := Lib.hid (by have := hr1.1; have := HS.out.2.1; omega)
      refine (twice_yes A1 n1 c1 L w1 hr1 HW.out HN.out HV.out).mono ?_; rw [HF.out]; rintro e w2 ⟨rfl, hb2⟩
      have HB2 := Lib.hid (bt hb1 hb2)
      clear hr1 hb1 hb2
      have HR2 := Lib.hid ((HR.out.below HB2.out).more HB2.out.size)
      go_wp2_with fail
      refine (rvalid_any A l c L w2 HR2.out HW.out hl).mono ?_; rw [HV.out]; rintro e w3 ⟨rfl, hb3⟩
      have HB3 := Lib.hid (bt HB2.out hb3)
      clear hb3
      go_wp2_with fail
      go_loopw [5, 35] (fun o x wr => ∃ k : Nat, k ≤ l ∧ o = .bool (apUp L k) ∧ x = .int .i64 (k : Int) ∧ Below w.heap.size w wr) (fun _ x _ => l - (intOf x).toNat)
      case atStart => exact ⟨0, by omega, rfl, rfl, HB3.out⟩
      case round =>
        obtain ⟨k, hk, rfl, rfl, hb⟩ := hrel
        obtain ⟨wo, hwo⟩ : ∃ wo : World, wo = wr := ⟨_, rfl⟩
        subst hwo
        by_cases hlt : k < l
        · obtain ⟨b, off, x, m, hx, rfl, hB, g1, g2⟩ := (HR.out.below hb).at_ hlt
          obtain ⟨m1, m2, x1, x2⟩ := HS.out.2.2.1 (x, m) (List.mem_of_getElem? hx)
          simp only at m1 m2 x1 x2
          obtain ⟨M, rfl⟩ : ∃ M : Nat, m = M := ⟨m.toNat, by omega⟩
          have HX := Lib.hid hx
          clear hx
          go_wp2_with fail
          go_loopw [5, 47] (fun o z wr => ∃ j : Nat, j ≤ k ∧ o = .bool (apUp L k && apIn L (x, (M : Int)) j) ∧ z = .int .i64 (j : Int) ∧ Below (wo.heap.size + 1) (wo.alloc (Obj.cells #[.int .i64 x, .int .i64 (M : Int)] 29)) wr) (fun _ z _ => k - (intOf z).toNat)
          case atStart => exact ⟨0, by omega, by simp [apIn], rfl, Below.refl _ _⟩
          case round =>
            obtain ⟨j, hj, rfl, rfl, hbj⟩ := hrel
            have hbox1 := hbj.cell (p := ⟨wo.heap.size, 0, none⟩) (by simp)
            have hbox2 := hbj.cell (p := ⟨wo.heap.size, 1, none⟩) (by simp)
            simp at hbox1 hbox2
            have hbw : Below w.heap.size w wr := bt hb (((Below.refl _ _).alloc (Nat.le_refl _) _).trans (hbj.mono (by simp)))
            have hsz : wo.heap.size < wr.heap.size := by have := hbj.size; simp at this; omega
            by_cases hjk : j < k
            · obtain ⟨b', off', y, n, hy, hbb, hB', g3, g4⟩ := (HR.out.below hbw).at_ (k := j) (by omega)
              injection hbb with hbb
              injection hbb with hbb1 hbb2
              subst hbb1 hbb2
              obtain ⟨n1', n2', y1, y2⟩ := HS.out.2.2.1 (y, n) (List.mem_of_getElem? hy)
              simp only at n1' n2' y1 y2
              obtain ⟨N, rfl⟩ : ∃ N : Nat, n = N := ⟨n.toNat, by omega⟩
              have HI := Lib.hid (apIn_succ (p := (x, (M : Int))) hy)
              have hbn : Below (wo.heap.size + 1) (wo.alloc (Obj.cells #[.int .i64 x, .int .i64 (M : Int)] 29)) (wr.alloc (Obj.cells #[.int .i64 y, .int .i64 (N : Int)] 29)) := hbj.alloc (by omega) _
              have HBN := Lib.hid hbn
              have t0 : ((x - y).tmod ((Nat.gcd M N : Nat) : Int) != 0) = apartP (x, (M : Int)) (y, (N : Int)) := tmod_ne _ _
              cases hap : apUp L k && apIn L (x, (M : Int)) j with
              | true =>
                have HI2 : Hid ((apUp L k && apIn L (x, (M : Int)) (j + 1)) = apartP (x, (M : Int)) (y, (N : Int))) := Lib.hid (by
                  rw [HI.out, ← Bool.and_assoc, hap, Bool.true_and])
                cases hpp : apartP (x, (M : Int)) (y, (N : Int)) with
                | true =>
                  rw [hpp] at t0
                  have HPP := Lib.hid hpp
                  clear hap hpp hy hbn hbj hbw
                  go_wp2_with fail
                  go_quiet ((go_at_call 20; refine Calls.quiet_of (lgcd_any M N _ (by omega) (by omega))))
                  go_wp2_with fail
                  go_roundw
                  case rel => exact ⟨j + 1, by omega, by rw [HI2.out, HPP.out], by go_num, bdN HBN.out _⟩
                  case measure => simp [intOf]; omega
                | false =>
                  rw [hpp] at t0
                  have HPP := Lib.hid hpp
                  clear hap hpp hy hbn hbj hbw
                  go_wp2_with fail
                  go_quiet ((go_at_call 20; refine Calls.quiet_of (lgcd_any M N _ (by omega) (by omega))))
                  go_wp2_with fail
                  go_roundw
                  case rel => exact ⟨j + 1, by omega, by rw [HI2.out, HPP.out], by go_num, bdN HBN.out _⟩
                  case measure => simp [intOf]; omega
              | false =>
                have HI2 : Hid ((apUp L k && apIn L (x, (M : Int)) (j + 1)) = false) := Lib.hid (by
                  rw [HI.out, ← Bool.and_assoc, hap, Bool.false_and])
                clear hap hy hbn hbj hbw t0
                go_wp2_with fail
                go_quiet (fail)
                go_wp2_with fail
                go_roundw
                case rel => exact ⟨j + 1, by omega, by rw [HI2.out], by go_num, bdN HBN.out _⟩
                case measure => simp [intOf]; omega
            · have e : j = k := by omega
              subst e
              have HU := Lib.hid (apUp_succ HX.out)
              have HBW := Lib.hid hbw
              clear hbw hbj
              go_wp2_with fail
              go_roundw
              case rel => exact ⟨j + 1, by omega, by rw [HU.out], by go_num, HBW.out⟩
              case measure => simp [intOf]; omega
        · have e : k = l := by omega
          subst e
          rw [HL.out, HAP.out]
          go_wp2_with fail
          refine (awake_any _).mono ?_; rintro e w4 ⟨rfl, hb4⟩
          go_wp2_with fail
          go_ret
          exact ⟨rfl, bt hb hb4⟩
    · have HF := Lib.hid hE
      have HAP : Hid (apUp L L.length = true) := Lib.hid (by rw [HE.out, hE]; rfl)
      clear hE
      go_enter Try.func4, Try.ntmps4
      go_wp2_with fail
      refine HP.out.mono ?_; rw [HT.out]; rintro e w1 ⟨A1, n1, c1, rfl, hr1, hb1⟩
      go_wp2_with fail
      have HN : Hid (n1 ≤ 9223372036854775807) := Lib.hid (by have := hr1.1; have := HS.out.2.1; omega)
      refine (twice_yes A1 n1 c1 L w1 hr1 HW.out HN.out HV.out).mono ?_; rw [HF.out]; rintro e w2 ⟨rfl, hb2⟩
      have HB2 := Lib.hid (bt hb1 hb2)
      clear hr1 hb1 hb2
      have HR2 := Lib.hid ((HR.out.below HB2.out).more HB2.out.size)
      go_wp2_with fail
      refine (rvalid_any A l c L w2 HR2.out HW.out hl).mono ?_; rw [HV.out]; rintro e w3 ⟨rfl, hb3⟩
      have HB3 := Lib.hid (bt HB2.out hb3)
      clear hb3
      go_wp2_with fail
      go_loopw [5, 35] (fun o x wr => ∃ k : Nat, k ≤ l ∧ o = .bool (apUp L k) ∧ x = .int .i64 (k : Int) ∧ Below w.heap.size w wr) (fun _ x _ => l - (intOf x).toNat)
      case atStart => exact ⟨0, by omega, rfl, rfl, HB3.out⟩
      case round =>
        obtain ⟨k, hk, rfl, rfl, hb⟩ := hrel
        obtain ⟨wo, hwo⟩ : ∃ wo : World, wo = wr := ⟨_, rfl⟩
        subst hwo
        by_cases hlt : k < l
        · obtain ⟨b, off, x, m, hx, rfl, hB, g1, g2⟩ := (HR.out.below hb).at_ hlt
          obtain ⟨m1, m2, x1, x2⟩ := HS.out.2.2.1 (x, m) (List.mem_of_getElem? hx)
          simp only at m1 m2 x1 x2
          obtain ⟨M, rfl⟩ : ∃ M : Nat, m = M := ⟨m.toNat, by omega⟩
          have HX := Lib.hid hx
          clear hx
          go_wp2_with fail
          go_loopw [5, 47] (fun o z wr => ∃ j : Nat, j ≤ k ∧ o = .bool (apUp L k && apIn L (x, (M : Int)) j) ∧ z = .int .i64 (j : Int) ∧ Below (wo.heap.size + 1) (wo.alloc (Obj.cells #[.int .i64 x, .int .i64 (M : Int)] 29)) wr) (fun _ z _ => k - (intOf z).toNat)
          case atStart => exact ⟨0, by omega, by simp [apIn], rfl, Below.refl _ _⟩
          case round =>
            obtain ⟨j, hj, rfl, rfl, hbj⟩ := hrel
            have hbox1 := hbj.cell (p := ⟨wo.heap.size, 0, none⟩) (by simp)
            have hbox2 := hbj.cell (p := ⟨wo.heap.size, 1, none⟩) (by simp)
            simp at hbox1 hbox2
            have hbw : Below w.heap.size w wr := bt hb (((Below.refl _ _).alloc (Nat.le_refl _) _).trans (hbj.mono (by simp)))
            have hsz : wo.heap.size < wr.heap.size := by have := hbj.size; simp at this; omega
            by_cases hjk : j < k
            · obtain ⟨b', off', y, n, hy, hbb, hB', g3, g4⟩ := (HR.out.below hbw).at_ (k := j) (by omega)
              injection hbb with hbb
              injection hbb with hbb1 hbb2
              subst hbb1 hbb2
              obtain ⟨n1', n2', y1, y2⟩ := HS.out.2.2.1 (y, n) (List.mem_of_getElem? hy)
              simp only at n1' n2' y1 y2
              obtain ⟨N, rfl⟩ : ∃ N : Nat, n = N := ⟨n.toNat, by omega⟩
              have HI := Lib.hid (apIn_succ (p := (x, (M : Int))) hy)
              have hbn : Below (wo.heap.size + 1) (wo.alloc (Obj.cells #[.int .i64 x, .int .i64 (M : Int)] 29)) (wr.alloc (Obj.cells #[.int .i64 y, .int .i64 (N : Int)] 29)) := hbj.alloc (by omega) _
              have HBN := Lib.hid hbn
              have t0 : ((x - y).tmod ((Nat.gcd M N : Nat) : Int) != 0) = apartP (x, (M : Int)) (y, (N : Int)) := tmod_ne _ _
              cases hap : apUp L k && apIn L (x, (M : Int)) j with
              | true =>
                have HI2 : Hid ((apUp L k && apIn L (x, (M : Int)) (j + 1)) = apartP (x, (M : Int)) (y, (N : Int))) := Lib.hid (by
                  rw [HI.out, ← Bool.and_assoc, hap, Bool.true_and])
                cases hpp : apartP (x, (M : Int)) (y, (N : Int)) with
                | true =>
                  rw [hpp] at t0
                  have HPP := Lib.hid hpp
                  clear hap hpp hy hbn hbj hbw
                  go_wp2_with fail
                  go_quiet ((go_at_call 20; refine Calls.quiet_of (lgcd_any M N _ (by omega) (by omega))))
                  go_wp2_with fail
                  go_roundw
                  case rel => exact ⟨j + 1, by omega, by rw [HI2.out, HPP.out], by go_num, bdN HBN.out _⟩
                  case measure => simp [intOf]; omega
                | false =>
                  rw [hpp] at t0
                  have HPP := Lib.hid hpp
                  clear hap hpp hy hbn hbj hbw
                  go_wp2_with fail
                  go_quiet ((go_at_call 20; refine Calls.quiet_of (lgcd_any M N _ (by omega) (by omega))))
                  go_wp2_with fail
                  go_roundw
                  case rel => exact ⟨j + 1, by omega, by rw [HI2.out, HPP.out], by go_num, bdN HBN.out _⟩
                  case measure => simp [intOf]; omega
              | false =>
                have HI2 : Hid ((apUp L k && apIn L (x, (M : Int)) (j + 1)) = false) := Lib.hid (by
                  rw [HI.out, ← Bool.and_assoc, hap, Bool.false_and])
                clear hap hy hbn hbj hbw t0
                go_wp2_with fail
                go_quiet (fail)
                go_wp2_with fail
                go_roundw
                case rel => exact ⟨j + 1, by omega, by rw [HI2.out], by go_num, bdN HBN.out _⟩
                case measure => simp [intOf]; omega
            · have e : j = k := by omega
              subst e
              have HU := Lib.hid (apUp_succ HX.out)
              have HBW := Lib.hid hbw
              clear hbw hbj
              go_wp2_with fail
              go_roundw
              case rel => exact ⟨j + 1, by omega, by rw [HU.out], by go_num, HBW.out⟩
              case measure => simp [intOf]; omega
        · have e : k = l := by omega
          subst e
          rw [HL.out, HAP.out]
          go_wp2_with fail
          refine (awake_any _).mono ?_; rintro e w4 ⟨rfl, hb4⟩
          go_wp2_with fail
          go_ret
          exact ⟨rfl, bt hb hb4⟩
end Go.Proofs.Ytmmgidhaakkaoaa
