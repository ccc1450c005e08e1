/- The sign of the order in which multiples stand: the walk of Turns. -/
import Derived.Test.YtdombadhmaanfaaNt
import Derived.BigQuiet
import Derived.Deep.QuietTactic
namespace Go.Proofs.Ytdombadhmaanfaa
open Go Go.RowKit GhN

/-- what Turns asks -/
def tuB (a n : Int) : Bool := decide (1 ≤ n ∧ n ≤ 200 ∧ 0 ≤ a ∧ a < n ∧ Nat.gcd a.toNat n.toNat = 1)
theorem tuB_yes {a n : Int} (h : tuB a n = true) : 1 ≤ n ∧ n ≤ 200 ∧ 0 ≤ a ∧ a < n ∧ Nat.gcd a.toNat n.toNat = 1 := by
  unfold tuB at h; exact of_decide_eq_true h
theorem tuB_no {a n : Int} (h : tuB a n = false) : ¬ (1 ≤ n ∧ n ≤ 200 ∧ 0 ≤ a ∧ a < n ∧ Nat.gcd a.toNat n.toNat = 1) := by
  unfold tuB at h; exact of_decide_eq_false h

def inrow (a n i j : Nat) : Nat := sm (fun j => if (a * i) % n < (a * j) % n then 1 else 0) j
def invk (a n i : Nat) : Nat := sm (fun i => inrow a n i i) i
theorem inv_invk (a n : Nat) : inv a n = invk a n n := rfl

theorem sgn_pm (k : Nat) : -1 ≤ sgn k ∧ sgn k ≤ 1 := by unfold sgn; split <;> omega
theorem sgn_succ (k : Nat) : sgn (k + 1) = -sgn k := by
  unfold sgn
  by_cases h : k % 2 = 0
  · rw [if_pos h, if_neg (by omega)]
  · rw [if_neg h, if_pos (by omega)]; rfl

theorem turns_no (a n : Int) (w : World) (h : tuB a n = false) :
    Calls Try.prog 19 #[.int .i64 a, .int .i64 n] w fun e w' => e = .returned (.tuple #[.int .i64 0, .int .i64 2]) ∧ Below w.heap.size w w' := by
  have h0 := tuB_no h
  clear h
  by_cases h1 : 1 ≤ n
  · by_cases h2 : n ≤ 200
    · by_cases h3 : 0 ≤ a
      · by_cases h4 : a < n
        · have h5 : Nat.gcd a.toNat n.toNat ≠ 1 := fun e => h0 ⟨h1, h2, h3, h4, e⟩
          obtain ⟨A, rfl⟩ : ∃ A : Nat, a = A := ⟨a.toNat, by omega⟩
          obtain ⟨N, rfl⟩ : ∃ N : Nat, n = N := ⟨n.toNat, by omega⟩
          have h6 : (((Nat.gcd A N : Nat) : Int) != 1) = true := by
            have : Nat.gcd A N ≠ 1 := h5
            simp; omega
          clear h0 h5
          go_enter Try.func19, Try.ntmps19
          go_wp2_with (go_at_call 55; refine (sgcd_any A N _ (by omega) (by omega)).mono ?_; rintro e w1 ⟨rfl, hb⟩)
          go_ret2
          exact ⟨rfl, hb⟩
        · clear h0
          go_enter Try.func19, Try.ntmps19
          go_wp2_with fail
          go_ret2
          exact ⟨rfl, Below.refl _ _⟩
      · clear h0
        go_enter Try.func19, Try.ntmps19
        go_wp2_with fail
        go_ret2
        exact ⟨rfl, Below.refl _ _⟩
    · clear h0
      go_enter Try.func19, Try.ntmps19
      go_wp2_with fail
      go_ret2
      exact ⟨rfl, Below.refl _ _⟩
  · clear h0
    go_enter Try.func19, Try.ntmps19
    go_wp2_with fail
    go_ret2
    exact ⟨rfl, Below.refl _ _⟩

theorem turns_yes (a n : Nat) (w : World) (h : tuB a n = true) :
    Calls Try.prog 19 #[.int .i64 (a : Int), .int .i64 (n : Int)] w fun e w' => e = .returned (.tuple #[.int .i64 (zs a n), .int .i64 0]) ∧ Below w.heap.size w w' := by
  obtain ⟨h1, h2, h3, h4, h5⟩ := tuB_yes h
  have h6 : (((Nat.gcd a n : Nat) : Int) != 1) = false := by
    have : Nat.gcd a n = 1 := h5
    rw [this]; rfl
  have t1 : decide ((n : Int) < 1) = false := decide_eq_false (by omega)
  have t2 : decide (200 < (n : Int)) = false := decide_eq_false (by omega)
  have t3 : decide ((a : Int) < 0) = false := decide_eq_false (by omega)
  have t4 : decide (n ≤ a) = false := decide_eq_false (by omega)
  clear h h5
  go_enter Try.func19, Try.ntmps19
  go_wp2_with (go_at_call 55; refine (sgcd_any a n _ (by omega) (by omega)).mono ?_; rintro e w1 ⟨rfl, hb⟩)
  go_loopw [6, 31] (fun sg c wr => ∃ k : Nat, k ≤ n ∧ sg = .int .i64 (sgn (invk a n k)) ∧ c = .int .i64 (k : Int) ∧ Below w.heap.size w wr) (fun _ c _ => n - (intOf c).toNat)
  case atStart => exact ⟨0, by omega, rfl, rfl, hb⟩
  case round =>
    obtain ⟨k, hk, rfl, rfl, hbk⟩ := hrel
    obtain ⟨wo, hwo⟩ : ∃ wo : World, wo = wr := ⟨_, rfl⟩
    subst hwo
    by_cases hlt : k < n
    · go_wp2_with (fail)
      go_loopw [6, 35] (fun sg c wr => ∃ m : Nat, m ≤ k ∧ sg = .int .i64 (sgn (invk a n k + inrow a n k m)) ∧ c = .int .i64 (m : Int) ∧ Below w.heap.size w wr) (fun _ c _ => k - (intOf c).toNat)
      case atStart => exact ⟨0, by omega, rfl, rfl, hbk⟩
      case round =>
        obtain ⟨m, hm, rfl, rfl, hbm⟩ := hrel
        by_cases hlt2 : m < k
        · have q1 : 0 ≤ (a : Int) * m := Int.mul_nonneg (by omega) (by omega)
          have q2 : (a : Int) * m ≤ 40000 := by
            have : (a : Int) * m ≤ 200 * 200 := Int.mul_le_mul (by omega) (by omega) (by omega) (by omega)
            omega
          have q3 : 0 ≤ (a : Int) * k := Int.mul_nonneg (by omega) (by omega)
          have q4 : (a : Int) * k ≤ 40000 := by
            have : (a : Int) * k ≤ 200 * 200 := Int.mul_le_mul (by omega) (by omega) (by omega) (by omega)
            omega
          have hs := sgn_pm (invk a n k + inrow a n k m)
          obtain ⟨s1, s2⟩ := hs
          have hz : (((a * k % n : Nat) : Int) < ((a * m % n : Nat) : Int)) ↔ (a * k) % n < (a * m) % n := by omega
          by_cases hi : (a * k) % n < (a * m) % n
          · have hi2 : (a : Int) * k % n < (a : Int) * m % n := by have := hz.2 hi; simpa using this
            have HS : Hid (-sgn (invk a n k + inrow a n k m) = sgn (invk a n k + inrow a n k (m + 1))) := Lib.hid (by
              have : inrow a n k (m + 1) = inrow a n k m + 1 := by unfold inrow; simp only [sm]; rw [if_pos hi]
              rw [this, ← Nat.add_assoc, sgn_succ])
            clear hz hi
            go_wp2_with (fail)
            go_quiet (fail)
            go_wp2_with (fail)
            go_roundw
            case rel => exact ⟨m + 1, by omega, by rw [HS.out], by go_num, by exact ⟨hbm.os, hbm.tape, hbm.output, hbm.size, hbm.block⟩⟩
            case measure => simp [intOf]; omega
          · have hi2 : ¬ (a : Int) * k % n < (a : Int) * m % n := by have := fun h => hi (hz.1 h); simpa using this
            have HS : Hid (sgn (invk a n k + inrow a n k m) = sgn (invk a n k + inrow a n k (m + 1))) := Lib.hid (by
              have : inrow a n k (m + 1) = inrow a n k m := by unfold inrow; simp only [sm]; rw [if_neg hi]; rfl
              rw [this])
            clear hz hi
            go_wp2_with (fail)
            go_quiet (fail)
            go_wp2_with (fail)
            go_roundw
            case rel => exact ⟨m + 1, by omega, by rw [HS.out], by go_num, by exact ⟨hbm.os, hbm.tape, hbm.output, hbm.size, hbm.block⟩⟩
            case measure => simp [intOf]; omega
        · have e : m = k := by omega
          subst e
          go_wp2_with (fail)
          go_roundw
          case rel => exact ⟨m + 1, by omega, rfl, by go_num, hbm⟩
          case measure => simp [intOf]; omega
    · have e : k = n := by omega
      subst e
      go_wp2_with (fail)
      go_ret2
      exact ⟨rfl, hbk⟩
end Go.Proofs.Ytdombadhmaanfaa
