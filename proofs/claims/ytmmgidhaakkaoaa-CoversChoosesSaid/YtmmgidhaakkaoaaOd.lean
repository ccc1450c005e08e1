/- The order of 2 modulo an odd prime; the rests of one divided by the prime, digit by digit in base 2. -/
import Derived.Test.YtmmgidhaakkaoaaLeg
namespace GhN

/-- t is the least power from 1 on at which 2 comes to 1 -/
def Ord2 (p t : Nat) : Prop := 1 ≤ t ∧ 2 ^ t % p = 1 ∧ ∀ i, 1 ≤ i → i < t → 2 ^ i % p ≠ 1

theorem two_half {p : Nat} (hp : Pr p) (h2 : p % 2 = 1) : 2 ^ (p / 2) % p = if jn 2 p = 1 then 1 else p - 1 := by
  have h := euler (a := 2) hp h2
  have hp1 : 2 ≤ p := hp.1
  have h0 : jn 2 p ≠ 0 := fun e => (jn_zero_iff 2 p).1 e (hp.cop (by
    have : 3 ≤ p := by omega
    rw [Nat.mod_eq_of_lt (by omega)]; decide))
  rw [if_neg h0] at h
  exact h

theorem two_fermat {p : Nat} (hp : Pr p) (h2 : p % 2 = 1) : 2 ^ (p - 1) % p = 1 := by
  have hp1 : 2 ≤ p := hp.1
  have e : p - 1 = p / 2 + p / 2 := by omega
  rw [e, Nat.pow_add, Nat.mul_mod, two_half hp h2]
  split
  · rw [Nat.mod_eq_of_lt (by omega)]
  · exact neg_one_sq p (by omega)

theorem ex_ord {p : Nat} (hp : Pr p) (h2 : p % 2 = 1) : ∃ t, Ord2 p t ∧ t < p := by
  have hp1 : 2 ≤ p := hp.1
  have key : ∀ k a, a < k → 1 ≤ a → 2 ^ a % p = 1 → ∃ t, Ord2 p t ∧ t ≤ a := by
    intro k
    induction k with
    | zero => intro a h; omega
    | succ k ih =>
      intro a hk h1 h3
      by_cases hd : ∃ d, 1 ≤ d ∧ d < a ∧ 2 ^ d % p = 1
      · obtain ⟨d, d1, d2, d3⟩ := hd
        obtain ⟨t, ht, hl⟩ := ih d (by omega) d1 d3
        exact ⟨t, ht, by omega⟩
      · exact ⟨a, ⟨h1, h3, fun d d1 d2 e => hd ⟨d, d1, d2, e⟩⟩, Nat.le_refl _⟩
  obtain ⟨t, ht, hl⟩ := key (p - 1 + 1) (p - 1) (by omega) (by omega) (two_fermat hp h2)
  exact ⟨t, ht, by omega⟩

theorem Ord2.dvd {p t k : Nat} (h : Ord2 p t) (hp : 1 < p) : 2 ^ k % p = 1 ↔ k % t = 0 := by
  obtain ⟨h1, h2, h3⟩ := h
  have e : 2 ^ k % p = 2 ^ (k % t) % p := by
    conv => lhs; rw [← Nat.div_add_mod k t]
    rw [Nat.pow_add, Nat.pow_mul, Nat.mul_mod, Nat.pow_mod, h2, Nat.one_pow, Nat.mod_eq_of_lt hp, Nat.one_mul, Nat.mod_mod]
  rw [e]
  have hlt : k % t < t := Nat.mod_lt _ h1
  constructor
  · intro h
    apply Classical.byContradiction
    intro hk
    exact h3 (k % t) (by omega) hlt h
  · intro h
    rw [h]; exact Nat.mod_eq_of_lt hp

theorem Ord2.uniq {p t u : Nat} (h : Ord2 p t) (k : Ord2 p u) : t = u := by
  rcases Nat.lt_trichotomy t u with e | e | e
  · exact absurd h.2.1 (k.2.2 t h.1 e)
  · exact e
  · exact absurd k.2.1 (h.2.2 u k.1 e)

/-- the order divides half of the prime less 1 exactly if 2 has a square root -/
theorem Ord2.half {p t : Nat} (hp : Pr p) (h2 : p % 2 = 1) (h : Ord2 p t) : (p - 1) % t = 0 ∧ (jn 2 p = 1 ↔ (p - 1) / 2 % t = 0) := by
  have hp1 : 2 ≤ p := hp.1
  refine ⟨(h.dvd (by omega)).1 (two_fermat hp h2), ?_⟩
  have e : (p - 1) / 2 = p / 2 := by omega
  rw [e, ← h.dvd (by omega), two_half hp h2]
  constructor
  · intro e; rw [if_pos e]
  · intro e
    apply Classical.byContradiction
    intro hn
    rw [if_neg hn] at e
    omega

/-- what is left of a number, digit by digit -/
def lst (p a : Int) : Int := if a % 2 = 0 then a / 2 else (a - p) / 2
def lseq (p : Nat) : Nat → Int
  | 0 => 1
  | n + 1 => lst p (lseq p n)

theorem lst_two {p : Nat} (h2 : p % 2 = 1) (a : Int) : ∃ d : Int, (d = 0 ∨ d = 1) ∧ lst p a * 2 = a - d * p := by
  unfold lst
  split
  · exact ⟨0, .inl rfl, by omega⟩
  · exact ⟨1, .inr rfl, by omega⟩

theorem lseq_cong {p : Nat} (h2 : p % 2 = 1) : ∀ n, ∃ q : Int, lseq p n * 2 ^ n = 1 + p * q
  | 0 => ⟨0, by simp [lseq]⟩
  | n + 1 => by
    obtain ⟨q, hq⟩ := lseq_cong h2 n
    obtain ⟨d, _, hd⟩ := lst_two h2 (lseq p n)
    refine ⟨q - d * 2 ^ n, ?_⟩
    rw [lseq, Int.pow_succ, Int.mul_comm (2 ^ n : Int) 2, ← Int.mul_assoc, hd, Int.sub_mul, hq, Int.mul_sub, Int.mul_assoc, Int.mul_left_comm d (p : Int)]
    omega

theorem lseq_rng {p : Nat} (h2 : p % 2 = 1) (hp : 1 < p) : ∀ n, -(p : Int) < lseq p (n + 1) ∧ lseq p (n + 1) < 0 := by
  have key : ∀ n, -(p : Int) < lseq p (n + 1) ∧ lseq p (n + 1) ≤ 0 := by
    intro n
    induction n with
    | zero =>
      have e : lseq p (0 + 1) = (1 - p) / 2 := by show lst p 1 = _; unfold lst; rw [if_neg (by decide)]
      rw [e]; omega
    | succ n ih =>
      rw [lseq]
      unfold lst
      split <;> omega
  intro n
  refine ⟨(key n).1, ?_⟩
  have hk := (key n).2
  rcases Int.lt_or_eq_of_le hk with h | h
  · exact h
  · exfalso
    obtain ⟨q, hq⟩ := lseq_cong h2 (n + 1)
    rw [h, Int.zero_mul] at hq
    have h1 : (1 : Int) = p * (-q) := by rw [Int.mul_neg]; omega
    have h3 : (p : Int) ∣ 1 := ⟨-q, h1⟩
    have := Int.le_of_dvd (by decide) h3
    omega

theorem lseq_bd {p : Nat} (h2 : p % 2 = 1) (hp : 1 < p) (n : Nat) : -(p : Int) < lseq p n ∧ lseq p n ≤ 1 := by
  cases n with
  | zero => simp [lseq]; omega
  | succ n => have := lseq_rng h2 hp n; omega

theorem two_pow_mod {p k : Nat} (h : ∃ q : Int, (2 : Int) ^ k = 1 + p * q) (hp : 1 < p) : 2 ^ k % p = 1 := by
  obtain ⟨q, hq⟩ := h
  have h1 : ((2 ^ k % p : Nat) : Int) = 1 := by
    rw [Int.natCast_emod, Int.natCast_pow]
    show (2 : Int) ^ k % p = 1
    rw [hq, Int.add_mul_emod_self_left]
    exact Int.emod_eq_of_lt (by decide) (by omega)
  omega

theorem two_pow_int {p k : Nat} (h : 2 ^ k % p = 1) : ∃ q : Int, (2 : Int) ^ k = 1 + p * q := by
  refine ⟨((2 ^ k / p : Nat) : Int), ?_⟩
  have h1 := Nat.div_add_mod (2 ^ k) p
  rw [h] at h1
  have h2 : ((2 ^ k : Nat) : Int) = ((p * (2 ^ k / p) + 1 : Nat) : Int) := by rw [h1]
  rw [Int.natCast_pow] at h2
  rw [show ((2 : Nat) : Int) = 2 from rfl] at h2
  rw [h2]; push_cast; omega

/-- two rests are alike only where the order divides the difference of their numbers -/
theorem lseq_same {p i j : Nat} (h2 : p % 2 = 1) (hp : 1 < p) (hij : i ≤ j) (h : lseq p i = lseq p j) : 2 ^ (j - i) % p = 1 := by
  obtain ⟨q, hq⟩ := lseq_cong h2 i
  obtain ⟨r, hr⟩ := lseq_cong h2 j
  rw [← h] at hr
  have e : (2 : Int) ^ j = 2 ^ i * 2 ^ (j - i) := by rw [← Int.pow_add]; congr 1; omega
  rw [e, ← Int.mul_assoc, hq, Int.add_mul, Int.one_mul] at hr
  refine two_pow_mod ⟨r - q * 2 ^ (j - i), ?_⟩ hp
  rw [Int.mul_sub, ← Int.mul_assoc]
  omega

theorem lseq_back {p t : Nat} (hp : Pr p) (h2 : p % 2 = 1) (h : Ord2 p t) : lseq p (1 + t) = lseq p 1 := by
  have hp1 : 2 ≤ p := hp.1
  obtain ⟨q, hq⟩ := lseq_cong h2 (1 + t)
  obtain ⟨r, hr⟩ := lseq_cong h2 1
  obtain ⟨s, hs⟩ := two_pow_int h.2.1
  have b1 := lseq_rng h2 (by omega) 0
  have b2 := lseq_rng h2 (by omega) t
  rw [show t + 1 = 1 + t by omega] at b2
  rw [show (0 : Nat) + 1 = 1 from rfl] at b1
  rw [Int.pow_add, hs] at hq
  rw [Int.pow_succ, Int.pow_zero, Int.one_mul] at hq hr
  generalize lseq p (1 + t) = x at *
  generalize lseq p 1 = y at *
  -- 2 x = 1 + p * .. ; 2 y = 1 + p * r
  have e1 : (x - y) * 2 = (p : Int) * (q - x * 2 * s - r) := by
    have e2 : x * (2 * (1 + (p : Int) * s)) = x * 2 + p * (x * 2 * s) := by
      rw [← Int.mul_assoc, Int.mul_add, Int.mul_one, Int.mul_left_comm]
    rw [e2] at hq
    rw [Int.mul_sub, Int.mul_sub, Int.sub_mul]
    omega
  generalize q - x * 2 * s - r = z at e1
  -- |x - y| < p
  have hz : z = 0 := by
    have u1 : (x - y) * 2 < p * 2 := by omega
    have u2 : -((p : Int) * 2) < (x - y) * 2 := by omega
    rw [e1] at u1 u2
    have u3 : z < 2 := Int.lt_of_mul_lt_mul_left u1 (by omega)
    have u4 : -2 < z := by
      rw [← Int.mul_neg] at u2
      exact Int.lt_of_mul_lt_mul_left u2 (by omega)
    rcases (show z = 0 ∨ z = 1 ∨ z = -1 by omega) with e | e | e
    · exact e
    · subst e; omega
    · subst e; omega
  subst hz
  omega

/-- the first t + 1 rests are all unlike -/
theorem lseq_inj {p t i j : Nat} (hp : Pr p) (h2 : p % 2 = 1) (h : Ord2 p t) (hij : i < j) (hj : j ≤ t) : lseq p i ≠ lseq p j := by
  intro e
  have hp1 : 2 ≤ p := hp.1
  cases i with
  | zero =>
    obtain ⟨k, rfl⟩ : ∃ k, j = k + 1 := ⟨j - 1, by omega⟩
    have := lseq_rng h2 (by omega) k
    rw [← e] at this
    simp [lseq] at this
  | succ i => exact h.2.2 _ (by omega) (by omega) (lseq_same h2 (by omega) (by omega) e)
end GhN
