/- SumsEisenstein: the symbol of two odd primes is the sign of how many points lie below the line; the points on both sides are all. No condition. -/
import Derived.Test.YtdombadhmaanfaaLa
namespace Go.Proofs.Ytdombadhmaanfaa
open Go Go.RowKit GhN

theorem fl_sign {q p : Nat} (hp2 : p % 2 = 1) (hq2 : q % 2 = 1) (hc : Nat.gcd q p = 1) : jz (q : Int) (p : Int) = 1 - 2 * (((fl q p : Nat) : Int) % 2) := by
  have h1 : jz (q : Int) (p : Int) = jn q p := ji_nat q p
  rw [h1]
  unfold jn
  rw [if_pos hc, sgn_mod (gs_fl hp2 hq2 hc)]
  unfold sgn
  split <;> omega

theorem primes_cop {p q : Nat} (hp : Pr p) (hq : Pr q) (h : p ≠ q) : Nat.gcd q p = 1 := by
  refine hp.cop (fun e => ?_)
  rcases hq.2 p (Nat.dvd_of_mod_eq_zero e) with e1 | e1
  · have := hp.1; omega
  · exact h e1

theorem eis_walk (p q : Int) (w : World) (hp : -9223372036854775808 ≤ p) (hq : -9223372036854775808 ≤ q) :
    Calls Try.prog 3 #[.int .i64 p, .int .i64 q] w fun e w' => e = .returned (.bool true) ∧ Below w.heap.size w w' := by
  cases hb : ptB p q with
  | false =>
    have hb2 : ptB q p = false := by
      unfold ptB at hb ⊢
      cases e1 : opB 200 p <;> cases e2 : opB 200 q <;> rw [e1, e2] at hb <;> simp at hb ⊢
      exact hb.symm
    have H1 := Lib.hid hb
    have H2 := Lib.hid hb2
    clear hb hb2
    go_enter Try.func3, Try.ntmps3
    go_wp2_with fail
    refine (points_no p q _ hp hq H1.out).mono ?_; rintro e w' ⟨rfl, rfl⟩
    go_wp2_with fail
    refine (points_no q p _ hq hp H2.out).mono ?_; rintro e w' ⟨rfl, rfl⟩
    go_wp2_with (go_at_call 17; refine (awake_any _).mono ?_; rintro e w1 ⟨rfl, hb⟩)
    go_ret
    exact ⟨rfl, hb⟩
  | true =>
    have e1 : opB 200 p = true := by unfold ptB at hb; simp only [Bool.and_eq_true] at hb; exact hb.1.1
    have e2 : opB 200 q = true := by unfold ptB at hb; simp only [Bool.and_eq_true] at hb; exact hb.1.2
    have hne : p ≠ q := by
      unfold ptB at hb; simp only [Bool.and_eq_true, Bool.not_eq_true'] at hb; simpa using hb.2
    obtain ⟨p1, p2, p3⟩ := opB_yes e1
    obtain ⟨q1, q2, q3⟩ := opB_yes e2
    have o1 := opB_odd e1
    have o2 := opB_odd e2
    obtain ⟨P, rfl⟩ : ∃ P : Nat, p = P := ⟨p.toNat, by omega⟩
    obtain ⟨Q, rfl⟩ : ∃ Q : Nat, q = Q := ⟨q.toNat, by omega⟩
    have hc : Nat.gcd Q P = 1 := primes_cop p3 q3 (by omega)
    have HB := Lib.hid hb
    have HB2 : Hid (ptB (Q : Int) (P : Int) = true) := Lib.hid (by
      unfold ptB; rw [e1, e2]; simpa using fun e => hne e.symm)
    have HP : Hid (opB 10000 (P : Int) = true) := Lib.hid (opB_mk (by omega) (by omega) p3)
    have HQ : Hid (opB 10000 (Q : Int) = true) := Lib.hid (opB_mk (by omega) (by omega) q3)
    have HV : Hid (validB (Q : Int) (P : Int) = true) := Lib.hid (validB_mk ⟨by omega, by omega, by omega, by omega, by have : P % 2 = 1 := o1; omega⟩)
    have HJ := Lib.hid (fl_sign (q := Q) (p := P) o1 o2 hc)
    have HF := Lib.hid (fl_both (a := Q) (n := P) o1 o2 hc)
    have b1 : fl Q P ≤ 20200 * (P / 2) := flk_bd Q P (P / 2) (by omega) (by omega)
    have b2 : fl P Q ≤ 20200 * (Q / 2) := flk_bd P Q (Q / 2) (by omega) (by omega)
    have HM : Hid ((((fl Q P : Nat) : Int) + ((fl P Q : Nat) : Int) == ((P : Int) - 1) / 2 * (((Q : Int) - 1) / 2)) = true) := Lib.hid (by
      have h1 : ((P : Int) - 1) / 2 = ((P / 2 : Nat) : Int) := by have : P % 2 = 1 := o1; omega
      have h2 : ((Q : Int) - 1) / 2 = ((Q / 2 : Nat) : Int) := by have : Q % 2 = 1 := o2; omega
      rw [h1, h2, ← Int.natCast_add, HF.out, Int.natCast_mul, Int.mul_comm]; simp)
    clear hb e1 e2 hne p3 q3 o1 o2 hc
    go_enter Try.func3, Try.ntmps3
    go_wp2_with fail
    refine (points_yes P Q _ HB.out).mono ?_; rintro e w' ⟨rfl, rfl⟩
    go_wp2_with fail
    refine (points_yes Q P _ HB2.out).mono ?_; rintro e w' ⟨rfl, rfl⟩
    go_wp2_with fail
    refine (rprime_any _ _).mono ?_; rw [HP.out]; rintro e w' ⟨rfl, rfl⟩
    go_wp2_with fail
    refine (rprime_any _ _).mono ?_; rw [HQ.out]; rintro e w' ⟨rfl, rfl⟩
    go_wp2_with fail
    refine (jacobi_yes _ _ _ HV.out).mono ?_; rintro e w1 ⟨rfl, hb1⟩
    have t1 : (jz (Q : Int) (P : Int) == 1 - 2 * (((fl Q P : Nat) : Int) % 2)) = true := by rw [HJ.out]; simp
    have t2 : (((fl Q P : Nat) : Int) + ((fl P Q : Nat) : Int) == wrap64 (((P : Int) - 1) / 2 * (((Q : Int) - 1) / 2))) = true := by
      have h1 : ((P : Int) - 1) / 2 * (((Q : Int) - 1) / 2) ≤ 200 * 200 := Int.mul_le_mul (by omega) (by omega) (by omega) (by omega)
      have h2 : 0 ≤ ((P : Int) - 1) / 2 * (((Q : Int) - 1) / 2) := Int.mul_nonneg (by omega) (by omega)
      have h3 : wrap64 (((P : Int) - 1) / 2 * (((Q : Int) - 1) / 2)) = ((P : Int) - 1) / 2 * (((Q : Int) - 1) / 2) := by unfold wrap64; omega
      rw [h3]; exact HM.out
    go_wp2_with (go_at_call 17; refine (awake_any _).mono ?_; rintro e w2 ⟨rfl, hb2⟩)
    go_ret
    exact ⟨rfl, hb1.trans (hb2.mono hb1.size)⟩
end Go.Proofs.Ytdombadhmaanfaa
