/- Curves: whether one is valid, the rest modulo the prime, the far point, whether a point lies on a curve. -/
import Derived.Test.YtdombadhmaanfaaCv2
import Derived.Test.YtdombadhmaanfaaLgd
namespace Go.Proofs.Ytdombadhmaanfaa
open Go Go.RowKit GhN

set_option maxRecDepth 100000 in
set_option maxHeartbeats 1000000 in
theorem cvalid_yes (P A B : Nat) (w : World) (hP : P ∈ smallP) (hA : A < P) (hB : B < P) (hd : dsc A B % P ≠ 0) :
    Calls Try.prog 64 #[crv P A B] w fun e w' => e = .returned (.bool true) ∧ Below w.heap.size w w' := by
  have HPR : Hid (∀ w', Calls Try.prog 83 #[.int .i64 (P : Int)] w' fun e w'' => e = .returned (.bool true) ∧ w' = w'') := Lib.hid (fun w' => field_yes P w' hP)
  have hb := smallP_bd P hP
  obtain ⟨x1, x2, x3⟩ := dsc_bd (A := A) (B := B) (by omega) (by omega)
  have hP5 : (5 : Int) ≤ (P : Int) := by omega
  have tv : ((4 * (A : Int) * (A : Int) * (A : Int) + 27 * (B : Int) * (B : Int)) % (P : Int) != 0) = true := by
    rw [dsc_int, ← Int.natCast_emod, bne_iff_ne]; omega
  clear hP hd
  go_enter Try.func64, Try.ntmps64
  go_wp2_with fail
  refine (HPR.out _).mono ?_; rintro e w1 ⟨rfl, rfl⟩
  go_wp2_with fail
  go_ret
  exact ⟨rfl, (Below.refl _ _).alloc (Nat.le_refl _) _⟩

set_option maxRecDepth 100000 in
set_option maxHeartbeats 1000000 in
theorem cmod_any (P : Nat) (a b n : Int) (w : World) (h1 : 5 ≤ P) (h2 : P ≤ 31) (_h3 : -1000000000 ≤ n) (_h4 : n ≤ 1000000000) :
    Calls Try.prog 66 #[crv P a b, .int .i64 n] w fun e w' => e = .returned (.int .i64 (n % (P : Int))) ∧ Below w.heap.size w w' := by
  have hr := tmod_rest n (p := P) (by omega)
  obtain ⟨t1, t2⟩ := tmod_bd n (show (0 : Int) < (P : Int) by omega)
  have s1 : IntKind.i64.wrap (n.tmod P + P) = n.tmod P + P := IntWalk.i64_in _ (by omega)
  go_enter Try.func66, Try.ntmps66
  go_wp2_with fail
  go_quiet (fail)
  go_wp2_with fail
  go_ret
  exact ⟨by first | rfl | rw [hr], bdN ((Below.refl _ _).alloc (Nat.le_refl _) _) _⟩

abbrev ptV (x y : Int) (f : Bool) : Value := .agg #[.int .i64 x, .int .i64 y, .bool f]
theorem cfar (w : World) : Calls Try.prog 85 #[] w fun e w' => e = .returned (ptV 0 0 true) ∧ Below w.heap.size w w' := by
  go_enter Try.func85, Try.ntmps85
  go_wp2_with fail
  refine bodyPost_ret (v := ptV 0 0 true) (by simp [results, Try.results85, go_sem]) rfl ⟨rfl, ?_⟩
  exact (Below.refl _ _).alloc (Nat.le_refl _) _

theorem con_eq {P A B x y : Nat} : (((y : Int) * y - (x : Int) * x * x - (A : Int) * x - (B : Int)) % (P : Int) == 0) = decide (y * y % P = cub A B x % P) := by
  rw [Bool.eq_iff_iff, beq_iff_eq, decide_eq_true_iff]
  have e : (y : Int) * y - (x : Int) * x * x - (A : Int) * x - (B : Int) = ((y * y : Nat) : Int) - ((cub A B x : Nat) : Int) := by
    unfold cub; push_cast; omega
  rw [e, ← Int.emod_eq_emod_iff_emod_sub_eq_zero, ← Int.natCast_emod, ← Int.natCast_emod]
  omega
end Go.Proofs.Ytdombadhmaanfaa
