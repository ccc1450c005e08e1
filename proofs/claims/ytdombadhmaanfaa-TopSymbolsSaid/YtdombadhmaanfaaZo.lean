/- SumsZolotarev: of an odd number the sign of an order is the symbol; signs multiply. The walk of the law. -/
import Derived.Test.YtdombadhmaanfaaLa
namespace Go.Proofs.Ytdombadhmaanfaa
open Go Go.RowKit GhN

theorem zs_pm (a n : Nat) : zs a n = 1 ∨ zs a n = -1 := by unfold zs sgn; split <;> simp

theorem tuB_mk {a n : Nat} (h1 : 1 ≤ n) (h2 : n ≤ 200) (h3 : a < n) (h4 : Nat.gcd a n = 1) : tuB (a : Int) (n : Int) = true := by
  unfold tuB; exact decide_eq_true ⟨by omega, by omega, by omega, by omega, h4⟩

theorem zolo_walk (a b n : Int) (w : World) :
    Calls Try.prog 4 #[.int .i64 a, .int .i64 b, .int .i64 n] w fun e w' => e = .returned (.bool true) ∧ Below w.heap.size w w' := by
  cases ha : tuB a n with
  | false =>
    have H1 := Lib.hid ha
    clear ha
    go_enter Try.func4, Try.ntmps4
    go_wp2_with fail
    refine (turns_no a n _ H1.out).mono ?_; rintro e w1 ⟨rfl, hb1⟩
    go_wp2_with fail
    refine (awake_any _).mono ?_; rintro e w2 ⟨rfl, hb2⟩
    go_wp2_with fail
    go_ret
    exact ⟨rfl, hb1.trans (hb2.mono hb1.size)⟩
  | true =>
    obtain ⟨n1, n2, a1, a2, a3⟩ := tuB_yes ha
    obtain ⟨A, rfl⟩ : ∃ A : Nat, a = A := ⟨a.toNat, by omega⟩
    obtain ⟨N, rfl⟩ : ∃ N : Nat, n = N := ⟨n.toNat, by omega⟩
    have hz := zs_pm A N
    have hz1 : -1 ≤ zs A N := by omega
    have hz2 : zs A N ≤ 1 := by omega
    have hc : Nat.gcd A N = 1 := a3
    have HA := Lib.hid ha
    clear ha hz
    cases hb : tuB b (N : Int) with
    | false =>
      have HB := Lib.hid hb
      clear hb
      by_cases ho : N % 2 = 1
      · have HV : Hid (validB (A : Int) (N : Int) = true) := Lib.hid (validB_mk ⟨by omega, by omega, by omega, by omega, by omega⟩)
        have HJ : Hid (jz (A : Int) (N : Int) = zs A N) := Lib.hid ((ji_nat A N).trans (zs_odd ho hc).symm)
        have t1 : ((N : Int) % 2 == 1) = true := by simp; omega
        clear ho
        go_enter Try.func4, Try.ntmps4
        go_wp2_with fail
        refine (turns_yes A N _ HA.out).mono ?_; rintro e w1 ⟨rfl, hb1⟩
        go_wp2_with fail
        refine (jacobi_yes _ _ _ HV.out).mono ?_; rw [HJ.out]; rintro e w2 ⟨rfl, hb2⟩
        go_wp2_with fail
        refine (turns_no b N _ HB.out).mono ?_; rintro e w3 ⟨rfl, hb3⟩
        go_wp2_with fail
        refine (awake_any _).mono ?_; rintro e w4 ⟨rfl, hb4⟩
        go_wp2_with fail
        go_ret
        exact ⟨rfl, ((hb1.trans (hb2.mono hb1.size)).trans (hb3.mono (Nat.le_trans hb1.size hb2.size))).trans (hb4.mono (Nat.le_trans (Nat.le_trans hb1.size hb2.size) hb3.size))⟩
      · have t1 : ((N : Int) % 2 == 1) = false := by simp; omega
        clear ho
        go_enter Try.func4, Try.ntmps4
        go_wp2_with fail
        refine (turns_yes A N _ HA.out).mono ?_; rintro e w1 ⟨rfl, hb1⟩
        go_wp2_with fail
        refine (turns_no b N _ HB.out).mono ?_; rintro e w3 ⟨rfl, hb3⟩
        go_wp2_with fail
        refine (awake_any _).mono ?_; rintro e w4 ⟨rfl, hb4⟩
        go_wp2_with fail
        go_ret
        exact ⟨rfl, (hb1.trans (hb3.mono hb1.size)).trans (hb4.mono (Nat.le_trans hb1.size hb3.size))⟩
    | true =>
      obtain ⟨_, _, b1, b2, b3⟩ := tuB_yes hb
      obtain ⟨B, rfl⟩ : ∃ B : Nat, b = B := ⟨b.toNat, by omega⟩
      have hcb : Nat.gcd B N = 1 := b3
      have hyb := zs_pm B N
      have hy1 : -1 ≤ zs B N := by omega
      have hy2 : zs B N ≤ 1 := by omega
      have hcab : Nat.gcd (A * B % N) N = 1 := by rw [gcd_mod_l]; exact gcd_mul_one.2 ⟨hc, hcb⟩
      have HB := Lib.hid hb
      have HAB := Lib.hid (tuB_mk (a := A * B % N) (n := N) (by omega) (by omega) (Nat.mod_lt _ (by omega)) hcab)
      have HZ : Hid (zs (A * B % N) N = zs A N * zs B N) := Lib.hid (by rw [zs_mod, zs_mul (by omega) hc hcb])
      have HE : Hid ((A : Int) * B % N = ((A * B % N : Nat) : Int)) := Lib.hid (by rw [Int.natCast_emod, Int.natCast_mul])
      have q1 : 0 ≤ (A : Int) * B := Int.mul_nonneg (by omega) (by omega)
      have q2 : (A : Int) * B ≤ 40000 := by
        have : (A : Int) * B ≤ 200 * 200 := Int.mul_le_mul (by omega) (by omega) (by omega) (by omega)
        omega
      have q3 : -1 ≤ zs A N * zs B N := by
        rcases zs_pm A N with e | e <;> rcases zs_pm B N with e' | e' <;> rw [e, e'] <;> decide
      have q4 : zs A N * zs B N ≤ 1 := by
        rcases zs_pm A N with e | e <;> rcases zs_pm B N with e' | e' <;> rw [e, e'] <;> decide
      have t5 : (zs (A * B % N) N == zs A N * zs B N) = true := by rw [HZ.out]; simp
      clear hb hyb
      by_cases ho : N % 2 = 1
      · have HV : Hid (validB (A : Int) (N : Int) = true) := Lib.hid (validB_mk ⟨by omega, by omega, by omega, by omega, by omega⟩)
        have HJ : Hid (jz (A : Int) (N : Int) = zs A N) := Lib.hid ((ji_nat A N).trans (zs_odd ho hc).symm)
        have t1 : ((N : Int) % 2 == 1) = true := by simp; omega
        clear ho
        go_enter Try.func4, Try.ntmps4
        go_wp2_with fail
        refine (turns_yes A N _ HA.out).mono ?_; rintro e w1 ⟨rfl, hb1⟩
        go_wp2_with fail
        refine (jacobi_yes _ _ _ HV.out).mono ?_; rw [HJ.out]; rintro e w2 ⟨rfl, hb2⟩
        go_wp2_with fail
        refine (turns_yes B N _ HB.out).mono ?_; rintro e w3 ⟨rfl, hb3⟩
        go_wp2_with fail
        rw [HE.out]
        refine (turns_yes (A * B % N) N _ HAB.out).mono ?_; rintro e w4 ⟨rfl, hb4⟩
        go_wp2_with fail
        refine (awake_any _).mono ?_; rintro e w5 ⟨rfl, hb5⟩
        go_wp2_with fail
        go_ret
        exact ⟨rfl, (((hb1.trans (hb2.mono hb1.size)).trans (hb3.mono (Nat.le_trans hb1.size hb2.size))).trans (hb4.mono (Nat.le_trans (Nat.le_trans hb1.size hb2.size) hb3.size))).trans (hb5.mono (Nat.le_trans (Nat.le_trans (Nat.le_trans hb1.size hb2.size) hb3.size) hb4.size))⟩
      · have t1 : ((N : Int) % 2 == 1) = false := by simp; omega
        clear ho
        go_enter Try.func4, Try.ntmps4
        go_wp2_with fail
        refine (turns_yes A N _ HA.out).mono ?_; rintro e w1 ⟨rfl, hb1⟩
        go_wp2_with fail
        refine (turns_yes B N _ HB.out).mono ?_; rintro e w3 ⟨rfl, hb3⟩
        go_wp2_with fail
        rw [HE.out]
        refine (turns_yes (A * B % N) N _ HAB.out).mono ?_; rintro e w4 ⟨rfl, hb4⟩
        go_wp2_with fail
        refine (awake_any _).mono ?_; rintro e w5 ⟨rfl, hb5⟩
        go_wp2_with fail
        go_ret
        exact ⟨rfl, ((hb1.trans (hb3.mono hb1.size)).trans (hb4.mono (Nat.le_trans hb1.size hb3.size))).trans (hb5.mono (Nat.le_trans (Nat.le_trans hb1.size hb3.size) hb4.size))⟩
end Go.Proofs.Ytdombadhmaanfaa
