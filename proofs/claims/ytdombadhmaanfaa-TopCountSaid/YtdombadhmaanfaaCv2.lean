/- Curves: valid ones, the rest modulo the prime, the far point, whether a point lies on a curve. -/
import Derived.Test.YtdombadhmaanfaaCv1
namespace Go.Proofs.Ytdombadhmaanfaa
open Go Go.RowKit GhN

def vcB (p a b : Int) : Bool := p9B p && decide (0 ≤ a ∧ a < p ∧ 0 ≤ b ∧ b < p ∧ dsc a.toNat b.toNat % p.toNat ≠ 0)
theorem vc_yes {p a b : Int} (h : vcB p a b = true) : ∃ P A B : Nat, p = P ∧ a = A ∧ b = B ∧ P ∈ smallP ∧ A < P ∧ B < P ∧ dsc A B % P ≠ 0 := by
  unfold vcB at h
  rw [Bool.and_eq_true] at h
  obtain ⟨P, rfl, hP⟩ := p9_yes h.1
  have h2 := of_decide_eq_true h.2
  exact ⟨P, a.toNat, b.toNat, rfl, by omega, by omega, hP, by omega, by omega, by have := h2.2.2.2.2; rwa [Int.toNat_natCast] at this⟩
theorem dsc_int (A B : Nat) : 4 * (A : Int) * (A : Int) * (A : Int) + 27 * (B : Int) * (B : Int) = ((dsc A B : Nat) : Int) := by
  unfold dsc; push_cast; rfl
theorem dsc_bd {A B : Nat} (h1 : A < 31) (h2 : B < 31) : (0 ≤ 4 * (A : Int) * (A : Int) ∧ 4 * (A : Int) * (A : Int) ≤ 120 * 30) ∧ (0 ≤ 4 * (A : Int) * (A : Int) * (A : Int) ∧ 4 * (A : Int) * (A : Int) * (A : Int) ≤ 120 * 30 * 30) ∧ (0 ≤ 27 * (B : Int) * (B : Int) ∧ 27 * (B : Int) * (B : Int) ≤ 810 * 30) := by
  have a1 := mulbd (x := 4 * (A : Int)) (y := (A : Int)) (a := 120) (b := 30) (by omega) (by omega) (by omega) (by omega)
  have a2 := mulbd (y := (A : Int)) (b := 30) a1.1 a1.2 (by omega) (by omega)
  have a3 := mulbd (x := 27 * (B : Int)) (y := (B : Int)) (a := 810) (b := 30) (by omega) (by omega) (by omega) (by omega)
  exact ⟨a1, a2, a3⟩

set_option maxRecDepth 100000 in
set_option maxHeartbeats 1000000 in
theorem rvalid9_any (p a b : Int) (w : World) :
    Calls Try.prog 40 #[crv p a b] w fun e w' => e = .returned (.bool (vcB p a b)) ∧ Below w.heap.size w w' := by
  obtain ⟨q, hq⟩ : ∃ q, p9B p = q := ⟨_, rfl⟩
  have HPR : Hid (∀ w', Calls Try.prog 63 #[.int .i64 p] w' fun e w'' => e = .returned (.bool q) ∧ w' = w'') := Lib.hid (fun w' => by rw [← hq]; exact rprime9_any p w')
  cases q with
  | false =>
    have e : vcB p a b = false := by unfold vcB; rw [hq]; rfl
    rw [e]
    clear e hq
    go_enter Try.func40, Try.ntmps40
    go_wp2_with fail
    refine (HPR.out _).mono ?_; rintro e w1 ⟨rfl, rfl⟩
    go_wp2_with fail
    go_ret
    exact ⟨rfl, (Below.refl _ _).alloc (Nat.le_refl _) _⟩
  | true =>
    obtain ⟨P, rfl, hP⟩ := p9_yes hq
    have hb := smallP_bd P hP
    obtain ⟨v, hv⟩ : ∃ v, vcB (P : Int) a b = v := ⟨_, rfl⟩
    have hvd : v = decide (0 ≤ a ∧ a < (P : Int) ∧ 0 ≤ b ∧ b < (P : Int) ∧ dsc a.toNat b.toNat % (P : Int).toNat ≠ 0) := by rw [← hv]; unfold vcB; rw [hq, Bool.true_and]
    rw [hv]
    have HV := Lib.hid hvd
    clear hq hv hvd hP
    by_cases a0 : 0 ≤ a
    case neg =>
      obtain rfl : v = false := HV.out.trans (decide_eq_false (fun h => a0 h.1))
      have t : decide ((0 : Int) ≤ a) = false := decide_eq_false a0
      go_enter Try.func40, Try.ntmps40
      go_wp2_with fail
      refine (HPR.out _).mono ?_; rintro e w1 ⟨rfl, rfl⟩
      go_wp2_with fail
      go_ret
      exact ⟨rfl, (Below.refl _ _).alloc (Nat.le_refl _) _⟩
    case pos =>
    by_cases a1 : a < (P : Int)
    case neg =>
      obtain rfl : v = false := HV.out.trans (decide_eq_false (fun h => a1 h.2.1))
      have t : decide (a < (P : Int)) = false := decide_eq_false a1
      go_enter Try.func40, Try.ntmps40
      go_wp2_with fail
      refine (HPR.out _).mono ?_; rintro e w1 ⟨rfl, rfl⟩
      go_wp2_with fail
      go_ret
      exact ⟨rfl, (Below.refl _ _).alloc (Nat.le_refl _) _⟩
    case pos =>
    by_cases b0 : 0 ≤ b
    case neg =>
      obtain rfl : v = false := HV.out.trans (decide_eq_false (fun h => b0 h.2.2.1))
      have t : decide ((0 : Int) ≤ b) = false := decide_eq_false b0
      go_enter Try.func40, Try.ntmps40
      go_wp2_with fail
      refine (HPR.out _).mono ?_; rintro e w1 ⟨rfl, rfl⟩
      go_wp2_with fail
      go_ret
      exact ⟨rfl, (Below.refl _ _).alloc (Nat.le_refl _) _⟩
    case pos =>
    by_cases b1 : b < (P : Int)
    case neg =>
      obtain rfl : v = false := HV.out.trans (decide_eq_false (fun h => b1 h.2.2.2.1))
      have t : decide (b < (P : Int)) = false := decide_eq_false b1
      go_enter Try.func40, Try.ntmps40
      go_wp2_with fail
      refine (HPR.out _).mono ?_; rintro e w1 ⟨rfl, rfl⟩
      go_wp2_with fail
      go_ret
      exact ⟨rfl, (Below.refl _ _).alloc (Nat.le_refl _) _⟩
    case pos =>
    obtain ⟨A, rfl⟩ : ∃ A : Nat, a = A := ⟨a.toNat, by omega⟩
    obtain ⟨B, rfl⟩ : ∃ B : Nat, b = B := ⟨b.toNat, by omega⟩
    obtain ⟨x1, x2, x3⟩ := dsc_bd (A := A) (B := B) (by omega) (by omega)
    have hP5 : (5 : Int) ≤ (P : Int) := by omega
    have tv : ((4 * (A : Int) * (A : Int) * (A : Int) + 27 * (B : Int) * (B : Int)) % (P : Int) != 0) = v := by
      rw [HV.out, dsc_int, ← Int.natCast_emod, Bool.eq_iff_iff, bne_iff_ne, decide_eq_true_iff, Int.toNat_natCast, Int.toNat_natCast, Int.toNat_natCast]
      constructor
      · intro h; exact ⟨a0, a1, b0, b1, by omega⟩
      · intro h; have := h.2.2.2.2; omega
    have ta : A < P := by omega
    have tb : B < P := by omega
    go_enter Try.func40, Try.ntmps40
    go_wp2_with fail
    refine (HPR.out _).mono ?_; rintro e w1 ⟨rfl, rfl⟩
    go_wp2_with fail
    go_ret
    exact ⟨rfl, (Below.refl _ _).alloc (Nat.le_refl _) _⟩
end Go.Proofs.Ytdombadhmaanfaa
