/- The reference's Always. -/
import Derived.Test.YtmmgidhaakkaoaaRda
namespace Go.Proofs.Ytmmgidhaakkaoaa
open Go Go.RowKit GhN

theorem cov_ref' {x m : Int} {n : Nat} (h : okP (x, m)) : (((n : Int) % m) == x) = cov (x, m) (n : Int) := by
  obtain ⟨h1, h2, h3, h4⟩ := h
  simp only at h1 h2 h3 h4
  unfold cov
  rw [Bool.eq_iff_iff, beq_iff_eq, beq_iff_eq]
  constructor
  · intro e
    rw [← e]
    exact Int.emod_eq_zero_of_dvd (Int.dvd_self_sub_emod ..)
  · intro e
    have e2 : (n : Int) % m = x % m := (Int.emod_eq_emod_iff_emod_sub_eq_zero).2 e
    rw [e2, Int.emod_eq_of_lt h3 h4]
def anyUp (D : List (Int × Int)) (n j : Nat) : Bool := (D.take j).any (fun p => cov p (n : Int))
theorem anyUp_succ {D : List (Int × Int)} {n j : Nat} {p : Int × Int} (h : D[j]? = some p) : anyUp D n (j + 1) = (anyUp D n j || cov p (n : Int)) := by
  unfold anyUp; rw [take_at h, List.any_append]; simp
theorem anyUp_cnt {D : List (Int × Int)} {n : Nat} : (cnt D (n : Int) == 0) = !(anyUp D n D.length) := by
  unfold anyUp cnt
  rw [List.take_length, Bool.eq_iff_iff, beq_iff_eq, List.length_eq_zero_iff, List.filter_eq_nil_iff, Bool.not_eq_true', List.any_eq_false]

set_option maxRecDepth 100000 in
set_option maxHeartbeats 2000000 in
theorem ralways_any (K : Nat) (A : Option Addr) (l c : Nat) (L : List Int) (w : World) (h : IRow w w.heap.size A l L) (hok : allOk L = true) (hl8 : l ≤ 8) (hK : K ≤ 1000000) (r : Option Nat) (hr : fstL false (dL K L) (wh (dL K L) 1) 1 = r) :
    Calls Try.prog 39 #[.int .i64 (K : Int), .slice A l c] w fun e w' => e = .returned (.tuple #[.int .i64 (if dOk K L = true then rV r else 0), .int .i64 (if dOk K L = true then rE r else 6)]) ∧ Below w.heap.size w w' := by
  have HD : Hid (∀ w', Below w.heap.size w w' → Calls Try.prog 38 #[.int .i64 (K : Int), .slice A l c] w' (GivesPE w' (if dOk K L = true then dL K L else []) (if dOk K L = true then 0 else 6))) := Lib.hid (fun w' hb => rdays_any K A l c L w' (h.next hb) hok hl8 hK)
  have hlen : (dL K L).length ≤ 8 := Nat.le_trans (dL_len K L) (by have := h.1; omega)
  cases hd : dOk K L with
  | false =>
    rw [hd] at HD
    rw [if_neg (by decide), if_neg (by decide)] at HD ⊢
    clear h hok hr hlen hd
    go_enter Try.func39, Try.ntmps39
    go_wp2_with fail
    refine (HD.out _ (Below.refl _ _)).mono ?_; rintro e w1 ⟨A1, n1, c1, rfl, _, _, hb1⟩
    go_wp2_with fail
    go_ret2
    exact ⟨rfl, hb1⟩
  | true =>
    have hokp := dL_ok hok hd
    have hw2 := (dOk_yes hd).2
    rw [hd] at HD
    rw [if_pos rfl, if_pos rfl] at HD ⊢
    obtain ⟨D, hD⟩ : ∃ D, dL K L = D := ⟨_, rfl⟩
    rw [hD] at hlen hr hokp hw2 HD
    have HOP := Lib.hid hokp
    have hmods := Sys.mods hokp
    have hwr : whR D 1 = wh D 1 := (whR_ok D 1 (by omega) (by omega) hmods hw2).1
    obtain ⟨N, hN⟩ : ∃ N, wh D 1 = N := ⟨_, rfl⟩
    rw [hN] at hr hw2 hwr
    have HR := Lib.hid hr
    have HWR := Lib.hid hwr
    clear h hok hr hd hD hokp hmods hwr hN
    go_enter Try.func39, Try.ntmps39
    go_wp2_with fail
    refine (HD.out _ (Below.refl _ _)).mono ?_; rintro e w2 ⟨A2, n2, c2, rfl, hr2, hA2, hb2⟩
    have HR2 := Lib.hid hr2
    have HL2 := Lib.hid hr2.1
    have hn8 : n2 ≤ 8 := by have := hr2.1; omega
    have HB2 := Lib.hid hb2
    have HW64 : Hid (∀ p ∈ D, -9223372036854775808 ≤ p.1 ∧ p.1 ≤ 9223372036854775807 ∧ -9223372036854775808 ≤ p.2 ∧ p.2 ≤ 9223372036854775807) := Lib.hid (fun q hq => by
      have h1 := HOP.out q hq
      unfold okP at h1; omega)
    have HWH : Hid (∀ w', Below w2.heap.size w2 w' → Calls Try.prog 22 #[.slice A2 n2 c2] w' fun e w'' => e = .returned (.int .i64 (N : Int)) ∧ Below w'.heap.size w' w'') := Lib.hid (fun w' hb => by
      have h5 := rwhole_any A2 n2 c2 D w' ((HR2.out.below hb).more hb.size) HW64.out (by omega)
      rw [HWR.out] at h5
      exact h5)
    clear hb2 hr2 hA2
    go_wp2_with fail
    go_loopw [8] (fun x wr => ∃ j : Nat, 1 ≤ j ∧ j ≤ N + 1 ∧ x = .int .i64 (j : Int) ∧ Hid (fstL false D (N + 1 - j) j = r) ∧ Hid (Below w2.heap.size w2 wr)) (fun x _ => N + 1 - (intOf x).toNat)
    case atStart => exact ⟨1, by omega, by omega, rfl, Lib.hid (by rw [Nat.add_sub_cancel]; exact HR.out), Lib.hid (Below.refl _ _)⟩
    case round =>
      obtain ⟨j, hj1, hjN, rfl, hf, hbr⟩ := hrel
      by_cases hlt : j ≤ N
      case neg =>
        have HRR : Hid (r = none) := Lib.hid (by
          rw [← hf.out, show N + 1 - j = 0 by omega]; rfl)
        have hji : (N : Int) < (j : Int) := by omega
        have HRV := HRR.out
        subst HRV
        go_wp2_with fail
        refine (HWH.out _ hbr.out).mono ?_; rintro e w3 ⟨rfl, hb3⟩
        have HB3 := Lib.hid (bt hbr.out hb3)
        clear hb3
        go_wp2_with fail
        go_ret2
        exact ⟨rfl, bt HB2.out HB3.out⟩
      case pos =>
        have hji : (j : Int) ≤ (N : Int) := by omega
        go_wp2_with fail
        refine (HWH.out _ hbr.out).mono ?_; rintro e w3 ⟨rfl, hb3⟩
        have HB3 := Lib.hid (bt hbr.out hb3)
        clear hb3
        go_wp2_with fail
        go_loopw [9, 29] (fun s z wr2 => ∃ i : Nat, i ≤ n2 ∧ s = .bool (anyUp D j i) ∧ z = .int .i64 (i : Int) ∧ Hid (Below w2.heap.size w2 wr2)) (fun _ z _ => n2 - (intOf z).toNat)
        case atStart => exact ⟨0, by omega, rfl, rfl, HB3⟩
        case round =>
          obtain ⟨i, hi, rfl, rfl, hbi⟩ := hrel
          by_cases hin : i < n2
          · obtain ⟨b, off, x, m, hx, rfl, hB, c1, c2⟩ := (HR2.out.below hbi.out).at_ hin
            have ho := HOP.out _ (List.mem_of_getElem? hx)
            obtain ⟨o1, o2, o3, o4⟩ := ho
            simp only at o1 o2 o3 o4
            obtain ⟨cc, hcc⟩ : ∃ cc, cov (x, m) (j : Int) = cc := ⟨_, rfl⟩
            have tc : (((j : Int) % m) == x) = cc := by rw [cov_ref' ⟨o1, o2, o3, o4⟩, hcc]
            obtain ⟨s0, hs0⟩ : ∃ s0, anyUp D j i = s0 := ⟨_, rfl⟩
            have HS1 : Hid (anyUp D j (i + 1) = (s0 || cc)) := Lib.hid (by rw [anyUp_succ hx, hs0, hcc])
            rw [hs0]
            have hii : (i : Int) < (n2 : Int) := by omega
            clear hx hcc hs0
            rcases s0 with _ | _
            · go_wp2_with fail
              go_quiet (fail)
              go_wp2_with fail
              go_roundw
              case rel => exact ⟨i + 1, by omega, by rw [HS1.out]; rfl, by go_num, Lib.hid (bdN (hbi.out.alloc hbi.out.size _) _)⟩
              case measure => simp [intOf]; omega
            · go_wp2_with fail
              go_quiet (fail)
              go_wp2_with fail
              go_roundw
              case rel => exact ⟨i + 1, by omega, by rw [HS1.out]; rfl, by go_num, Lib.hid (bdN (hbi.out.alloc hbi.out.size _) _)⟩
              case measure => simp [intOf]; omega
          · have hie : i = n2 := by omega
            subst hie
            obtain ⟨s0, hs0⟩ : ∃ s0, anyUp D j i = s0 := ⟨_, rfl⟩
            have HC : Hid (askB false (cnt D (j : Int)) = !s0) := Lib.hid (by
              show (cnt D (j : Int) == 0) = !s0
              rw [anyUp_cnt, ← HL2.out, hs0])
            rw [hs0]
            clear hs0
            rcases s0 with _ | _
            · have HRR : Hid (r = some j) := Lib.hid (by
                rw [← hf.out, show N + 1 - j = (N - j) + 1 by omega]
                exact fst_found HC.out)
              have HRV := HRR.out
              subst HRV
              go_wp2_with fail
              go_ret2
              exact ⟨rfl, bt HB2.out hbi.out⟩
            · have HRR : Hid (fstL false D (N + 1 - (j + 1)) (j + 1) = r) := Lib.hid (by
                have h9 := hf.out
                rw [show N + 1 - j = (N + 1 - (j + 1)) + 1 by omega, fst_step HC.out] at h9
                exact h9)
              go_wp2_with fail
              go_roundw
              case rel => exact ⟨j + 1, by omega, by omega, by go_num, HRR, hbi⟩
              case measure => simp [intOf]; omega
end Go.Proofs.Ytmmgidhaakkaoaa
