/- Square roots modulo an odd prime: there is a number that has none; the least such number is a prime, and those before it have the symbol 1; the least root is at most half of the prime. -/
import Derived.Test.YtmmgidhaakkaoaaLeg
namespace GhN

/-- some number from 2 on, below p, has no square root -/
theorem ex_nonsquare {p : Nat} (hp : Pr p) (h2 : p % 2 = 1) : ∃ a, 2 ≤ a ∧ a < p ∧ jn a p = -1 := by
  have hp1 : 2 ≤ p := hp.1
  apply Classical.byContradiction
  intro hno
  have hall : ∀ a, a < p → ∃ x, x < p ∧ (x * x) % p = a := by
    intro a ha
    rcases Nat.lt_or_ge a 2 with h | h
    · have : a = 0 ∨ a = 1 := by omega
      rcases this with rfl | rfl
      · exact ⟨0, by omega, by simp⟩
      · exact ⟨1, by omega, by rw [Nat.mod_eq_of_lt (by omega)]⟩
    · have h3 := (square_iff (a := a) hp h2).2 (fun e => hno ⟨a, h, ha, e⟩)
      obtain ⟨x, hx, hxx⟩ := h3
      exact ⟨x, hx, by rw [hxx, Nat.mod_eq_of_lt ha]⟩
  -- the least root of each number
  let r : Nat → Nat := fun a => if h : ∃ x, x < p ∧ (x * x) % p = a then (if a = 1 then 1 else Classical.choose h) else 0
  have hr : ∀ a, a < p → r a < p ∧ (r a * r a) % p = a := by
    intro a ha
    have h := hall a ha
    simp only [r, dif_pos h]
    split
    · next e => subst e; exact ⟨by omega, by rw [Nat.mod_eq_of_lt (by omega)]⟩
    · exact Classical.choose_spec h
  obtain ⟨k, hk, e⟩ := surj_of_inj (m := p) (s := r) (fun k hk => (hr k hk).1) (fun k l hk hl e => by
    have a1 := (hr k hk).2; have a2 := (hr l hl).2; rw [e] at a1; omega) (p - 1) (by omega)
  have h1 := (hr k hk).2
  rw [e, neg_one_sq p (by omega)] at h1
  subst h1
  have : r 1 = 1 := by simp only [r, dif_pos (hall 1 (by omega))]; rfl
  omega

theorem jn_pm {p a : Nat} (hp : Pr p) (ha : 0 < a) (hlt : a < p) (h : jn a p ≠ -1) : jn a p = 1 := by
  rcases jn_cases a p with e | e | e
  · have := (jn_zero_iff a p).1 e
    exact absurd (hp.cop (a := a) (by rw [Nat.mod_eq_of_lt hlt]; omega)) this
  · exact e
  · exact absurd e h

/-- the least number without a root has no divisor -/
theorem least_prime {p n : Nat} (hp : Pr p) (h2 : p % 2 = 1) (hn : n < p) (hj : jn n p = -1) (hl : ∀ d, 2 ≤ d → d < n → jn d p ≠ -1) :
    ∀ d, 2 ≤ d → d < n → n % d ≠ 0 := by
  intro d hd hdn h
  obtain ⟨e, rfl⟩ := Nat.dvd_of_mod_eq_zero h
  have he0 : 0 < e := by
    rcases Nat.eq_zero_or_pos e with h' | h'
    · subst h'; omega
    · exact h'
  have he1 : e ≠ 1 := by rintro rfl; omega
  have hed : e < d * e := by
    have : 2 * e ≤ d * e := Nat.mul_le_mul_right e hd
    omega
  have a1 := jn_pm hp (by omega) (by omega) (hl d hd hdn)
  have a2 := jn_pm hp (by omega) (by omega) (hl e (by omega) hed)
  rw [jn_mul d e h2, a1, a2] at hj
  exact absurd hj (by decide)

/-- a least root is no greater than half -/
theorem root_half {p a x : Nat} (hx : x < p) (hxx : (x * x) % p = a) (hl : ∀ y, y < x → (y * y) % p ≠ a) : 2 * x ≤ p := by
  apply Classical.byContradiction
  intro h
  refine hl (p - x) (by omega) ?_
  rw [← hxx]
  have e : (p - x) * (p - x) + p * (2 * x) = x * x + p * p := by
    obtain ⟨y, rfl⟩ := Nat.exists_eq_add_of_le (Nat.le_of_lt hx)
    rw [Nat.add_sub_cancel_left]
    simp only [Nat.add_mul, Nat.mul_add, Nat.mul_comm y x, Nat.two_mul]; omega
  have h1 : ((p - x) * (p - x) + p * (2 * x)) % p = (x * x + p * p) % p := by rw [e]
  rwa [Nat.add_mul_mod_self_left, Nat.add_mul_mod_self_left] at h1

end GhN
