/- Whether a number is a prime: the walk of isPrime. -/
import Derived.Test.YtmmgidhaakkaoaaLeg
import Derived.Test.YtmmgidhaakkaoaaRt
import Derived.Test.YtmmgidhaakkaoaaChn
import Derived.WalkKit
import Derived.Lib.Hide
import Derived.IntWalk
import Derived.Test.YtmmgidhaakkaoaaProg
namespace Go.Proofs.Ytmmgidhaakkaoaa
open Go.RowKit GhN

open Classical in
noncomputable def prB (n : Int) : Bool := decide (Pr n.toNat)

theorem prB_yes {n : Int} (h : Pr n.toNat) : prB n = true := by unfold prB; exact @decide_eq_true _ (_) h
theorem prB_no {n : Int} (h : ¬ Pr n.toNat) : prB n = false := by unfold prB; exact @decide_eq_false _ (_) h
theorem prB_pr {n : Int} (h : prB n = true) : Pr n.toNat := by
  unfold prB at h; exact @of_decide_eq_true _ (_) h
theorem prB_not {n : Int} (h : prB n = false) : ¬ Pr n.toNat := fun hp => by rw [prB_yes hp] at h; cases h

theorem toNat_mod {n : Int} (h : 0 ≤ n) (k : Nat) : ((n.toNat % k : Nat) : Int) = n % (k : Int) := by
  rw [Int.natCast_emod, Int.toNat_of_nonneg h]

def NoDiv (n : Int) (k : Nat) : Prop := ∀ d : Nat, 2 ≤ d → d < k → n.toNat % d ≠ 0

theorem noDiv_step {n : Int} {k : Nat} (h : NoDiv n k) (h0 : 0 ≤ n) (hk : ¬ (n % (k : Int) = 0)) : NoDiv n (k + 1) := by
  intro d h2 hd
  by_cases e : d = k
  · subst e; have := toNat_mod h0 d; omega
  · exact h d h2 (by omega)

theorem noDiv_found {n : Int} {k : Nat} (h2 : 2 ≤ k) (hk : (k : Int) * k ≤ n) (hd : n % (k : Int) = 0) : prB n = false := by
  refine prB_no (fun hp => ?_)
  have h1 : k * k ≤ n.toNat := by
    have := Int.toNat_le_toNat hk
    have e : ((k : Int) * k).toNat = k * k := by rw [← Int.natCast_mul]; rfl
    omega
  have h3 : k < n.toNat := by
    have : k * 2 ≤ k * k := Nat.mul_le_mul_left k h2
    omega
  exact hp.nodiv h2 h3 (by have := toNat_mod (n := n) (by omega) k; omega)

theorem noDiv_end {n : Int} {k : Nat} (h : NoDiv n k) (hk : n < (k : Int) * k) : decide (1 < n) = prB n := by
  by_cases h1 : 1 < n
  · rw [prB_yes (prime_of_nodiv (by omega) h (by
      have e : ((k : Int) * k).toNat = k * k := by rw [← Int.natCast_mul]; rfl
      omega))]
    exact decide_eq_true h1
  · rw [prB_no (fun hp => by have := hp.1; omega)]
    exact decide_eq_false h1

set_option maxHeartbeats 400000 in
theorem isPrime_any (n : Int) (w : World) (h1 : -9223372036854775808 ≤ n) (h2 : n ≤ 10000) :
    Calls Try.prog 66 #[.int .i64 n] w fun e w' => e = .returned (.bool (prB n)) ∧ w = w' := by
  go_enter Try.func66, Try.ntmps66
  go_wp2
  go_loop [3] (fun d => ∃ k : Nat, 2 ≤ k ∧ k ≤ 101 ∧ Hid (NoDiv n k) ∧ d = .int .i64 k) (fun d => (101 - intOf d).toNat)
  case atStart => exact ⟨2, by omega, by omega, (fun d h h' => by omega), rfl⟩
  case round =>
    obtain ⟨k, hk2, hk, hN, rfl⟩ := hrel
    have hb : (k : Int) * k ≤ 10201 := by
      have : (k : Int) * k ≤ 101 * 101 := Int.mul_le_mul (by omega) (by omega) (by omega) (by omega)
      omega
    have hb0 : 0 ≤ (k : Int) * k := Int.mul_nonneg (by omega) (by omega)
    go_wp2
    · have h3 : (n % (k : Int) == 0) = true := by assumption
      rw [noDiv_found hk2 (by assumption) (by simpa using h3)]
      go_ret
      exact ⟨rfl, rfl⟩
    · have h3 : (n % (k : Int) == 0) = false := by assumption
      have h4 : (k : Int) * k ≤ n := by assumption
      have hk100 : k ≤ 100 := by
        apply Classical.byContradiction; intro h
        have : (101 : Int) * 101 ≤ (k : Int) * k := Int.mul_le_mul (by omega) (by omega) (by omega) (by omega)
        omega
      go_round
      case rel =>
        exact ⟨k + 1, by omega, by omega, noDiv_step hN (by omega) (by simpa using h3), by go_num⟩
      case measure => simp [intOf]; omega
    · have h4 : n < (k : Int) * k := by assumption
      rw [← noDiv_end hN h4]
      go_ret
      exact ⟨rfl, rfl⟩
end Go.Proofs.Ytmmgidhaakkaoaa
