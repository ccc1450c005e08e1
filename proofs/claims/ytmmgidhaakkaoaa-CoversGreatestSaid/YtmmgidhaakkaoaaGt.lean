/- CoversGreatest: the walk of the law. -/
import Derived.Test.YtmmgidhaakkaoaaGr
import Derived.Test.YtmmgidhaakkaoaaAp
namespace Go.Proofs.Ytmmgidhaakkaoaa
open Go Go.RowKit GhC

/-- the greatest modulus so far, and how often it came -/
def mst (s : Int × Int) (p : Int × Int) : Int × Int := if s.1 < p.2 then (p.2, 1) else if p.2 = s.1 then (s.1, s.2 + 1) else s
def mfold (L : List (Int × Int)) : Int × Int := L.foldl mst (0, 0)
theorem mfold_succ {L : List (Int × Int)} {k : Nat} {p : Int × Int} (h : L[k]? = some p) : mfold (L.take (k + 1)) = mst (mfold (L.take k)) p := by
  unfold mfold; rw [take_at h, List.foldl_append]; rfl

theorem ofM_cons (p : Int × Int) (L : List (Int × Int)) (m : Int) : (ofM (p :: L) m).length = (if p.2 = m then 1 else 0) + (ofM L m).length := by
  unfold ofM
  rw [List.filter_cons]
  by_cases h : p.2 = m
  · rw [if_pos (by simpa using h), if_pos h, List.length_cons]; omega
  · rw [if_neg (by simpa using h), if_neg h]; omega

theorem mfold_inv : ∀ (L : List (Int × Int)) (s : Int × Int), s.1 ≤ (L.foldl mst s).1 ∧ (∀ q ∈ L, q.2 ≤ (L.foldl mst s).1) ∧
    (((L.foldl mst s).1 = s.1 ∧ (L.foldl mst s).2 = s.2 + ((ofM L s.1).length : Int)) ∨
     (s.1 < (L.foldl mst s).1 ∧ (∃ q ∈ L, q.2 = (L.foldl mst s).1) ∧ (L.foldl mst s).2 = ((ofM L (L.foldl mst s).1).length : Int)))
  | [], s => ⟨Int.le_refl _, (fun q h => (by cases h)), .inl ⟨rfl, by simp [ofM]⟩⟩
  | p :: L, s => by
    obtain ⟨h1, h2, h3⟩ := mfold_inv L (mst s p)
    rw [List.foldl_cons]
    have hs : s.1 ≤ (mst s p).1 ∧ p.2 ≤ (mst s p).1 := by
      unfold mst; split
      · exact ⟨by show s.1 ≤ p.2; omega, Int.le_refl _⟩
      · split
        · exact ⟨Int.le_refl _, by show p.2 ≤ s.1; omega⟩
        · exact ⟨Int.le_refl _, by omega⟩
    refine ⟨by omega, ?_, ?_⟩
    · intro q hq
      rcases List.mem_cons.1 hq with rfl | hq
      · omega
      · exact h2 q hq
    · rcases h3 with ⟨e1, e2⟩ | ⟨e1, ⟨q, hq, e2⟩, e3⟩
      · by_cases c1 : s.1 < p.2
        · have em : mst s p = (p.2, 1) := by unfold mst; rw [if_pos c1]
          rw [em] at e1 e2 ⊢
          refine .inr ⟨by rw [e1]; exact c1, ⟨p, List.mem_cons_self .., e1.symm⟩, ?_⟩
          rw [e2, e1, ofM_cons, if_pos rfl]; omega
        · by_cases c2 : p.2 = s.1
          · have em : mst s p = (s.1, s.2 + 1) := by unfold mst; rw [if_neg c1, if_pos c2]
            rw [em] at e1 e2 ⊢
            refine .inl ⟨e1, ?_⟩
            rw [e2, ofM_cons, if_pos c2]; simp only; omega
          · have em : mst s p = s := by unfold mst; rw [if_neg c1, if_neg c2]
            rw [em] at e1 e2 ⊢
            refine .inl ⟨e1, ?_⟩
            rw [e2, ofM_cons, if_neg c2]; omega
      · refine .inr ⟨by omega, ⟨q, List.mem_cons_of_mem _ hq, e2⟩, ?_⟩
        rw [e3, ofM_cons, if_neg (by omega)]; omega

theorem mfold_bd {L : List (Int × Int)} (h : ∀ q ∈ L, 1 ≤ q.2 ∧ q.2 ≤ 60) : 0 ≤ (mfold L).1 ∧ (mfold L).1 ≤ 60 ∧ 0 ≤ (mfold L).2 ∧ (mfold L).2 ≤ L.length := by
  obtain ⟨h1, h2, h3⟩ := mfold_inv L (0, 0)
  have e : mfold L = L.foldl mst (0, 0) := rfl
  rw [← e] at h1 h2 h3
  have hl : ∀ m, (ofM L m).length ≤ L.length := fun m => List.length_filter_le _ _
  rcases h3 with ⟨e1, e2⟩ | ⟨e1, ⟨q, hq, e2⟩, e3⟩
  · simp only at h1 e1 e2
    have := hl 0
    refine ⟨by omega, by omega, by omega, by omega⟩
  · simp only at h1 e1
    have := hl (mfold L).1
    have := h q hq
    refine ⟨by omega, by omega, by omega, by omega⟩

/-- an exact system of at least two pairs -/
theorem great_end {L : List (Int × Int)} (hs : Sys L) (h0 : fstE false L = 4) (h1 : fstE true L = 4) (h2 : 2 ≤ L.length) :
    ∃ M C : Nat, mfold L = ((M : Int), (C : Int)) ∧ 2 ≤ M ∧ M ≤ 60 ∧ ∀ p : Nat, (∀ d, 2 ≤ d → d < p → M % d ≠ 0) → p ≤ C := by
  have hone : ∀ n : Int, cnt L n = 1 := by
    intro n
    have a := (fstE_none hs).1 h0 n
    have b := (fstE_none hs).1 h1 n
    unfold askB at a b
    simp at a b
    omega
  obtain ⟨b1, b2, b3, b4⟩ := mfold_bd (L := L) (fun q hq => ⟨(hs.2.2.1 q hq).1, (hs.2.2.1 q hq).2.1⟩)
  obtain ⟨g1, g2, g3⟩ := mfold_inv L (0, 0)
  have e : mfold L = L.foldl mst (0, 0) := rfl
  rw [← e] at g1 g2 g3
  obtain ⟨x, hx⟩ : ∃ x, x ∈ L := by
    cases L with
    | nil => simp at h2
    | cons a l => exact ⟨a, List.mem_cons_self ..⟩
  have hx1 := (hs.2.2.1 x hx).1
  have hx2 := g2 x hx
  rcases g3 with ⟨e1, _⟩ | ⟨_, hex, e3⟩
  · simp only at e1; omega
  have hM2 : 2 ≤ (mfold L).1 := by
    apply Classical.byContradiction
    intro hc
    have hall : ∀ q ∈ L, cov q 0 = true := by
      intro q hq
      have a1 := (hs.2.2.1 q hq).1
      have a2 := g2 q hq
      have : q.2 = 1 := by omega
      rw [cov_iff, this]; exact Int.emod_one _
    have : cnt L 0 = L.length := by
      unfold cnt
      rw [List.filter_eq_self.2 (fun q hq => hall q hq)]
    have := hone 0
    omega
  refine ⟨(mfold L).1.toNat, (mfold L).2.toNat, ?_, by omega, by omega, fun p hp => ?_⟩
  · rw [Int.toNat_of_nonneg b1, Int.toNat_of_nonneg b3]
  · have hMe : (((mfold L).1.toNat : Nat) : Int) = (mfold L).1 := Int.toNat_of_nonneg b1
    have := greatest hs hone (m := (mfold L).1.toNat) (p := p) (by omega) (fun q hq => by rw [hMe]; exact g2 q hq) (by rw [hMe]; exact hex) hp
    rw [hMe] at this
    omega

set_option maxRecDepth 100000 in
set_option maxHeartbeats 1000000 in
theorem great_walk (A : Option Addr) (l c : Nat) (L : List (Int × Int)) (w : World) (h : Row w w.heap.size A l L) (hw : W64 L) (hlc : l ≤ c) (hc : c ≤ maxLen) (hA : A = none → l = 0 ∧ c = 0) :
    Calls Try.prog 3 #[.slice A l c] w fun e w' => e = .returned (.bool true) ∧ Below w.heap.size w w' := by
  have hl : l ≤ 9223372036854775807 := by unfold maxLen at hc; omega
  have HR := Lib.hid h
  have HW := Lib.hid hw
  have HL := Lib.hid h.1
  have HP : Hid (∀ w1 : World, Below w.heap.size w w1 → Calls Try.prog 16 #[.slice A l c] w1 (GivesRow w1 (L.take 12))) := Lib.hid (fun w1 hb => pairs_any A l c L w1 ((h.below hb).more hb.size) hlc hc hA)
  have HNL : Hid (∀ (w1 : World) (A1 : Option Addr) (n1 : Nat), Row w1 w1.heap.size A1 n1 (L.take 12) → n1 ≤ 9223372036854775807) := Lib.hid (fun w1 A1 n1 hr => by have := hr.1; rw [List.length_take] at this; omega)
  clear h hw
  cases hv : validL L with
  | false =>
    have HV := Lib.hid hv
    have HV2 : Hid (validL (L.take 12) = false) := Lib.hid (by rw [valid_take]; exact hv)
    clear hv
    go_enter Try.func3, Try.ntmps3
    go_wp2_with fail
    refine (HP.out w (Below.refl _ _)).mono ?_; rintro e w1 ⟨A1, n1, c1, rfl, hr1, hb1⟩
    go_wp2_with fail
    refine (left_no A1 n1 c1 (L.take 12) w1 hr1 (HW.out.take 12) (HNL.out w1 A1 n1 hr1) HV2.out).mono ?_; rintro e w2 ⟨rfl, hb2⟩
    have HB2 := Lib.hid (bt hb1 hb2)
    clear hr1 hb1 hb2
    go_wp2_with fail
    refine (HP.out w2 HB2.out).mono ?_; rintro e w3 ⟨A3, n3, c3, rfl, hr3, hb3⟩
    go_wp2_with fail
    refine (twice_no A3 n3 c3 (L.take 12) w3 hr3 (HW.out.take 12) (HNL.out w3 A3 n3 hr3) HV2.out).mono ?_; rintro e w4 ⟨rfl, hb4⟩
    have HB4 := Lib.hid (bt (bt HB2.out hb3) hb4)
    clear hr3 hb3 hb4
    go_wp2_with fail
    refine (awake_any _).mono ?_; rintro e w5 ⟨rfl, hb5⟩
    go_wp2_with fail
    go_ret
    exact ⟨rfl, bt HB4.out hb5⟩
  | true =>
    have HV := Lib.hid hv
    have HS := Lib.hid (validL_yes hv)
    have HT := Lib.hid (valid_len hv)
    have hl10 : l ≤ 10 := by have := HS.out.2.1; have := HL.out; omega
    clear hv
    have start : ∀ (Q : Prop), True := fun _ => trivial
    clear start
    rcases fstE_cases false L with hE | hE
    · have HF := Lib.hid hE
      clear hE
      rcases fstE_cases true L with hG | hG
      all_goals
        have HG := Lib.hid hG
        clear hG
        go_enter Try.func3, Try.ntmps3
        go_wp2_with fail
        refine (HP.out w (Below.refl _ _)).mono ?_; rintro e w1 ⟨A1, n1, c1, rfl, hr1, hb1⟩
        have HN1 := Lib.hid (HNL.out w1 A1 n1 hr1)
        rw [HT.out] at hr1
        go_wp2_with fail
        refine (left_yes A1 n1 c1 L w1 hr1 HW.out HN1.out HV.out).mono ?_; rw [HF.out]; rintro e w2 ⟨rfl, hb2⟩
        have HB2 := Lib.hid (bt hb1 hb2)
        clear hr1 hb1 hb2
        go_wp2_with fail
        refine (HP.out w2 HB2.out).mono ?_; rintro e w3 ⟨A3, n3, c3, rfl, hr3, hb3⟩
        have HN3 := Lib.hid (HNL.out w3 A3 n3 hr3)
        rw [HT.out] at hr3
        go_wp2_with fail
        refine (twice_yes A3 n3 c3 L w3 hr3 HW.out HN3.out HV.out).mono ?_; rw [HG.out]; rintro e w4 ⟨rfl, hb4⟩
        have HB4 := Lib.hid (bt (bt HB2.out hb3) hb4)
        have HR4 := Lib.hid ((HR.out.below HB4.out).more HB4.out.size)
        clear hr3 hb3 hb4
        go_wp2_with fail
        refine (rvalid_any A l c L w4 HR4.out HW.out hl).mono ?_; rw [HV.out]; rintro e w5 ⟨rfl, hb5⟩
        go_wp2_with fail
        refine (awake_any _).mono ?_; rintro e w6 ⟨rfl, hb6⟩
        go_wp2_with fail
        go_ret
        exact ⟨rfl, bt (bt HB4.out hb5) hb6⟩
    · have HF := Lib.hid hE
      rcases fstE_cases true L with hG | hG
      · have HG := Lib.hid hG
        clear hG hE
        go_enter Try.func3, Try.ntmps3
        go_wp2_with fail
        refine (HP.out w (Below.refl _ _)).mono ?_; rintro e w1 ⟨A1, n1, c1, rfl, hr1, hb1⟩
        have HN1 := Lib.hid (HNL.out w1 A1 n1 hr1)
        rw [HT.out] at hr1
        go_wp2_with fail
        refine (left_yes A1 n1 c1 L w1 hr1 HW.out HN1.out HV.out).mono ?_; rw [HF.out]; rintro e w2 ⟨rfl, hb2⟩
        have HB2 := Lib.hid (bt hb1 hb2)
        clear hr1 hb1 hb2
        go_wp2_with fail
        refine (HP.out w2 HB2.out).mono ?_; rintro e w3 ⟨A3, n3, c3, rfl, hr3, hb3⟩
        have HN3 := Lib.hid (HNL.out w3 A3 n3 hr3)
        rw [HT.out] at hr3
        go_wp2_with fail
        refine (twice_yes A3 n3 c3 L w3 hr3 HW.out HN3.out HV.out).mono ?_; rw [HG.out]; rintro e w4 ⟨rfl, hb4⟩
        have HB4 := Lib.hid (bt (bt HB2.out hb3) hb4)
        have HR4 := Lib.hid ((HR.out.below HB4.out).more HB4.out.size)
        clear hr3 hb3 hb4
        go_wp2_with fail
        refine (rvalid_any A l c L w4 HR4.out HW.out hl).mono ?_; rw [HV.out]; rintro e w5 ⟨rfl, hb5⟩
        go_wp2_with fail
        refine (awake_any _).mono ?_; rintro e w6 ⟨rfl, hb6⟩
        go_wp2_with fail
        go_ret
        exact ⟨rfl, bt (bt HB4.out hb5) hb6⟩
      · have HG := Lib.hid hG
        by_cases hl2 : l < 2
        · clear hG hE
          go_enter Try.func3, Try.ntmps3
          go_wp2_with fail
          refine (HP.out w (Below.refl _ _)).mono ?_; rintro e w1 ⟨A1, n1, c1, rfl, hr1, hb1⟩
          have HN1 := Lib.hid (HNL.out w1 A1 n1 hr1)
          rw [HT.out] at hr1
          go_wp2_with fail
          refine (left_yes A1 n1 c1 L w1 hr1 HW.out HN1.out HV.out).mono ?_; rw [HF.out]; rintro e w2 ⟨rfl, hb2⟩
          have HB2 := Lib.hid (bt hb1 hb2)
          clear hr1 hb1 hb2
          go_wp2_with fail
          refine (HP.out w2 HB2.out).mono ?_; rintro e w3 ⟨A3, n3, c3, rfl, hr3, hb3⟩
          have HN3 := Lib.hid (HNL.out w3 A3 n3 hr3)
          rw [HT.out] at hr3
          go_wp2_with fail
          refine (twice_yes A3 n3 c3 L w3 hr3 HW.out HN3.out HV.out).mono ?_; rw [HG.out]; rintro e w4 ⟨rfl, hb4⟩
          have HB4 := Lib.hid (bt (bt HB2.out hb3) hb4)
          have HR4 := Lib.hid ((HR.out.below HB4.out).more HB4.out.size)
          clear hr3 hb3 hb4
          go_wp2_with fail
          refine (rvalid_any A l c L w4 HR4.out HW.out hl).mono ?_; rw [HV.out]; rintro e w5 ⟨rfl, hb5⟩
          go_wp2_with fail
          refine (awake_any _).mono ?_; rintro e w6 ⟨rfl, hb6⟩
          go_wp2_with fail
          go_ret
          exact ⟨rfl, bt (bt HB4.out hb5) hb6⟩
        · obtain ⟨M, C, hmf, hM2, hM60, hgt⟩ := great_end HS.out hE hG (by rw [← HL.out]; omega)
          have HMF := Lib.hid hmf
          have HGT := Lib.hid hgt
          have hC : C ≤ 10 := by
            have := (mfold_bd (L := L) (fun q hq => ⟨(HS.out.2.2.1 q hq).1, (HS.out.2.2.1 q hq).2.1⟩)).2.2.2
            rw [hmf] at this
            have := HS.out.2.1
            simp only at *
            omega
          clear hG hE hmf hgt
          go_enter Try.func3, Try.ntmps3
          go_wp2_with fail
          refine (HP.out w (Below.refl _ _)).mono ?_; rintro e w1 ⟨A1, n1, c1, rfl, hr1, hb1⟩
          have HN1 := Lib.hid (HNL.out w1 A1 n1 hr1)
          rw [HT.out] at hr1
          go_wp2_with fail
          refine (left_yes A1 n1 c1 L w1 hr1 HW.out HN1.out HV.out).mono ?_; rw [HF.out]; rintro e w2 ⟨rfl, hb2⟩
          have HB2 := Lib.hid (bt hb1 hb2)
          clear hr1 hb1 hb2
          go_wp2_with fail
          refine (HP.out w2 HB2.out).mono ?_; rintro e w3 ⟨A3, n3, c3, rfl, hr3, hb3⟩
          have HN3 := Lib.hid (HNL.out w3 A3 n3 hr3)
          rw [HT.out] at hr3
          go_wp2_with fail
          refine (twice_yes A3 n3 c3 L w3 hr3 HW.out HN3.out HV.out).mono ?_; rw [HG.out]; rintro e w4 ⟨rfl, hb4⟩
          have HB4 := Lib.hid (bt (bt HB2.out hb3) hb4)
          have HR4 := Lib.hid ((HR.out.below HB4.out).more HB4.out.size)
          clear hr3 hb3 hb4
          go_wp2_with fail
          refine (rvalid_any A l c L w4 HR4.out HW.out hl).mono ?_; rw [HV.out]; rintro e w5 ⟨rfl, hb5⟩
          have HB5 := Lib.hid (bt HB4.out hb5)
          clear hb5
          go_wp2_with fail
          go_loopw [7, 8, 58] (fun o n x wr => ∃ k : Nat, k ≤ l ∧ o = .int .i64 (mfold (L.take k)).1 ∧ n = .int .i64 (mfold (L.take k)).2 ∧ x = .int .i64 (k : Int) ∧ Below w.heap.size w wr) (fun _ _ x _ => l - (intOf x).toNat)
          case atStart => exact ⟨0, by omega, rfl, rfl, rfl, HB5.out⟩
          case round =>
            obtain ⟨k, hk, rfl, rfl, rfl, hb⟩ := hrel
            by_cases hlt : k < l
            · obtain ⟨b, off, x, m, hx, rfl, hB, g1, g2⟩ := (HR.out.below hb).at_ hlt
              obtain ⟨m1, m2, _, _⟩ := HS.out.2.2.1 (x, m) (List.mem_of_getElem? hx)
              simp only at m1 m2
              obtain ⟨b1, b2, b3, b4⟩ := mfold_bd (L := L.take k) (fun q hq => ⟨(HS.out.2.2.1 q (List.mem_of_mem_take hq)).1, (HS.out.2.2.1 q (List.mem_of_mem_take hq)).2.1⟩)
              rw [List.length_take] at b4
              have HX := Lib.hid (mfold_succ hx)
              obtain ⟨s1, s2, hsv⟩ : ∃ s1 s2, mfold (L.take k) = (s1, s2) := ⟨_, _, rfl⟩
              rw [hsv] at b1 b2 b3 b4 ⊢
              have HX2 : Hid (mfold (L.take (k + 1)) = mst (s1, s2) (x, m)) := Lib.hid (by rw [HX.out, hsv])
              simp only at b1 b2 b3 b4
              have hb4 : s2 ≤ 10 := by omega
              clear hx hsv b4
              by_cases c1' : s1 < m
              · have HM : Hid (mfold (L.take (k + 1)) = (m, 1)) := Lib.hid (by rw [HX2.out]; unfold mst; rw [if_pos c1'])
                go_wp2_with fail
                go_roundw
                case rel => exact ⟨k + 1, by omega, by rw [HM.out], by rw [HM.out], by go_num, bt hb ((Below.refl _ _).alloc (Nat.le_refl _) _)⟩
                case measure => simp [intOf]; omega
              · by_cases c2' : m = s1
                · have HM : Hid (mfold (L.take (k + 1)) = (s1, s2 + 1)) := Lib.hid (by rw [HX2.out]; unfold mst; rw [if_neg c1', if_pos c2'])
                  subst c2'
                  go_wp2_with fail
                  go_roundw
                  case rel => exact ⟨k + 1, by omega, by rw [HM.out], by rw [HM.out], by go_num, bt hb ((Below.refl _ _).alloc (Nat.le_refl _) _)⟩
                  case measure => simp [intOf]; omega
                · have HM : Hid (mfold (L.take (k + 1)) = (s1, s2)) := Lib.hid (by rw [HX2.out]; unfold mst; rw [if_neg c1', if_neg c2'])
                  have t1 : (m == s1) = false := by simpa using c2'
                  clear c2'
                  go_wp2_with fail
                  go_roundw
                  case rel => exact ⟨k + 1, by omega, by rw [HM.out], by rw [HM.out], by go_num, bt hb ((Below.refl _ _).alloc (Nat.le_refl _) _)⟩
                  case measure => simp [intOf]; omega
            · have e : k = l := by omega
              subst e
              have HT2 : Hid (mfold (L.take k) = ((M : Int), (C : Int))) := Lib.hid (by rw [List.take_of_length_le (by rw [← HL.out]; omega)]; exact HMF.out)
              rw [HT2.out]
              simp only
              have HB := Lib.hid hb
              clear hb
              go_wp2_with fail
              go_loopw [11] (fun x wv => ∃ d : Nat, 2 ≤ d ∧ d ≤ M ∧ x = .int .i64 (d : Int) ∧ Hid (∀ e, 2 ≤ e → e < d → M % e ≠ 0) ∧ Below w.heap.size w wv) (fun x _ => M - (intOf x).toNat)
              case atStart => exact ⟨2, by omega, by omega, rfl, Lib.hid (fun e h1 h2 => by omega), HB.out⟩
              case round =>
                obtain ⟨d, hd2, hdM, rfl, hnd, hbv⟩ := hrel
                have hcast : (M : Int) % (d : Int) = ((M % d : Nat) : Int) := by rw [Int.natCast_emod]
                by_cases hz : M % d = 0
                · have t2 : ((M : Int) % (d : Int) != 0) = false := by rw [hcast, hz]; rfl
                  have hfin := HGT.out d hnd.out
                  clear hcast hz
                  go_wp2_with fail
                  refine (awake_any _).mono ?_; rintro e w6 ⟨rfl, hb6⟩
                  go_wp2_with fail
                  go_ret
                  exact ⟨rfl, bt hbv hb6⟩
                · have t2 : ((M : Int) % (d : Int) != 0) = true := by rw [hcast]; simp; omega
                  have hdlt : d < M := by
                    apply Classical.byContradiction; intro g
                    have : d = M := by omega
                    subst this; exact hz (Nat.mod_self _)
                  have HN : Hid (∀ e, 2 ≤ e → e < d + 1 → M % e ≠ 0) := Lib.hid (fun e h1 h2 => by
                    by_cases he : e = d
                    · subst he; exact hz
                    · exact hnd.out e h1 (by omega))
                  clear hcast hz
                  go_wp2_with fail
                  go_roundw
                  case rel => exact ⟨d + 1, by omega, by omega, by go_num, HN, hbv⟩
                  case measure => simp [intOf]; omega
end Go.Proofs.Ytmmgidhaakkaoaa
