/- TopHalf: the walk of the law. -/
import Derived.Test.YtdombadhmaanfaaAg3
import Derived.Test.YtdombadhmaanfaaLa
namespace Go.Proofs.Ytdombadhmaanfaa
open Go Go.RowKit GhN

theorem signs_any (w : World) : Calls Try.prog 38 #[] w fun e w' => e = .returned (.bool true) ∧ Below w.heap.size w w' := by
  have HV := Lib.hid (show validB 2 7 = true from validB_mk (by decide))
  have HJ := Lib.hid jz27
  go_enter Try.func38, Try.ntmps38
  go_wp2_with (go_at_call 18; refine (jacobi_yes _ _ _ HV.out).mono ?_; rw [HJ.out]; rintro e w1 ⟨rfl, hb⟩)
  go_ret
  exact ⟨rfl, hb⟩

set_option maxRecDepth 100000 in
set_option maxHeartbeats 1000000 in
theorem half_walk (p : Int) (w : World) (_l1 : -9223372036854775808 ≤ p) :
    Calls Try.prog 10 #[.int .i64 p] w fun e w' => e = .returned (.bool true) ∧ Below w.heap.size w w' := by
  obtain ⟨q, hq⟩ : ∃ q, opB 10000 p = q := ⟨_, rfl⟩
  have HQ := Lib.hid hq
  cases q with
  | false =>
    clear hq
    go_enter Try.func10, Try.ntmps10
    go_wp2_with fail
    refine (rprime_any p w).mono ?_; rw [HQ.out]; rintro e w1 ⟨rfl, rfl⟩
    go_wp2_with fail
    refine (signs_any _).mono ?_; rintro e w2 ⟨rfl, hb2⟩
    go_wp2_with fail
    go_ret
    exact ⟨rfl, hb2⟩
  | true =>
    obtain ⟨h3, h4, hpr⟩ := opB_yes hq
    have hodd := opB_odd hq
    clear hq
    by_cases h1000 : 1000 < p
    · clear hpr hodd
      go_enter Try.func10, Try.ntmps10
      go_wp2_with fail
      refine (rprime_any p w).mono ?_; rw [HQ.out]; rintro e w1 ⟨rfl, rfl⟩
      go_wp2_with fail
      refine (signs_any _).mono ?_; rintro e w2 ⟨rfl, hb2⟩
      go_wp2_with fail
      go_ret
      exact ⟨rfl, hb2⟩
    · obtain ⟨P, rfl⟩ : ∃ P : Nat, p = P := ⟨p.toNat, by omega⟩
      rw [Int.toNat_natCast] at hpr hodd
      obtain ⟨t, ht, htl⟩ := ex_ord hpr hodd
      have hh := Ord2.half hpr hodd ht
      have ht1 : 1 ≤ t := ht.1
      have HAG : Hid (∀ w', Calls Try.prog 39 #[.int .i64 1, .int .i64 (P : Int), .int .i64 2] w' fun e w'' => e = .returned (.tuple #[.int .i64 1, .int .i64 (t : Int), .int .i64 0]) ∧ Below w'.heap.size w' w'') := Lib.hid (fun w' => again_any P t w' hpr hodd (by omega) ht)
      have HV : Hid (validB 2 (P : Int) = true) := Lib.hid (validB_mk ⟨by omega, by omega, by omega, by omega, by omega⟩)
      have ej : jz 2 (P : Int) = jn 2 P := by
        show ji 2 (P : Int).toNat = jn 2 P
        rw [Int.toNat_natCast]; exact ji_nat 2 P
      have hti : (1 : Int) ≤ (t : Int) := by omega
      have e1 : ((P : Int) - 1) % (t : Int) = (((P - 1) % t : Nat) : Int) := by
        rw [Int.natCast_emod]; congr 1; omega
      have e2 : ((P : Int) - 1) / 2 % (t : Int) = (((P - 1) / 2 % t : Nat) : Int) := by
        rw [Int.natCast_emod, Int.natCast_ediv]; congr 1; omega
      have t1 : (((P : Int) - 1) % (t : Int) == 0) = true := by rw [e1, hh.1]; rfl
      obtain ⟨j, hj⟩ : ∃ j, jz 2 (P : Int) = j := ⟨_, rfl⟩
      have HJ := Lib.hid hj
      have t2 : ∃ q : Bool, (j == 1) = q ∧ (((P : Int) - 1) / 2 % (t : Int) == 0) = q := by
        refine ⟨_, rfl, ?_⟩
        rw [e2, Bool.eq_iff_iff, beq_iff_eq, beq_iff_eq, ← hj, ej, hh.2]
        omega
      obtain ⟨q, t2, t3⟩ := t2
      have hP1000 : (P : Int) ≤ 1000 := by omega
      clear hh ht htl ej e1 e2 hj hpr hodd
      go_enter Try.func10, Try.ntmps10
      go_wp2_with fail
      refine (rprime_any _ w).mono ?_; rw [HQ.out]; rintro e w1 ⟨rfl, rfl⟩
      go_wp2_with fail
      refine (jacobi_yes _ _ _ HV.out).mono ?_; rw [HJ.out]; rintro e w2 ⟨rfl, hb2⟩
      have HB2 := Lib.hid hb2
      clear hb2
      go_wp2_with fail
      refine (HAG.out _).mono ?_; rintro e w3 ⟨rfl, hb3⟩
      have HB3 := Lib.hid hb3
      clear hb3
      go_wp2_with fail
      refine (signs_any _).mono ?_; rintro e w4 ⟨rfl, hb4⟩
      have HB4 := Lib.hid hb4
      clear hb4
      go_wp2_with fail
      go_ret
      exact ⟨rfl, agbt (agbt HB2.out HB3.out) HB4.out⟩
end Go.Proofs.Ytdombadhmaanfaa
