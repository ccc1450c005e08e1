/- The day of a prime: the first power at which k times 2 to it, and 1 more, is divisible; it comes again after the order of 2. -/
import Derived.Test.YtmmgidhaakkaoaaOd
namespace GhN

/-- the first number from n on, of f of them, at which the prime divides -/
def dyF (k p : Nat) : Nat → Nat → Option Nat
  | 0, _ => none
  | f + 1, n => if (k * 2 ^ n + 1) % p = 0 then some n else dyF k p f (n + 1)

theorem dyF_snoc (k p : Nat) : ∀ f n, dyF k p (f + 1) n = match dyF k p f n with | some m => some m | none => if (k * 2 ^ (n + f) + 1) % p = 0 then some (n + f) else none
  | 0, n => by simp [dyF]
  | f + 1, n => by
    rw [dyF]
    conv => rhs; rw [dyF]
    split
    · rfl
    · rw [dyF_snoc k p f (n + 1), show n + 1 + f = n + (f + 1) by omega]

theorem dyF_some {k p : Nat} : ∀ {f n m}, dyF k p f n = some m → n ≤ m ∧ m < n + f ∧ (k * 2 ^ m + 1) % p = 0 ∧ ∀ i, n ≤ i → i < m → (k * 2 ^ i + 1) % p ≠ 0
  | 0, n, m, h => by cases h
  | f + 1, n, m, h => by
    rw [dyF] at h
    split at h
    · next h0 => injection h with h; subst h; exact ⟨by omega, by omega, h0, fun i h1 h2 => by omega⟩
    · next h0 =>
      obtain ⟨h1, h2, h3, h4⟩ := dyF_some h
      refine ⟨by omega, by omega, h3, fun i i1 i2 => ?_⟩
      rcases Nat.lt_or_eq_of_le i1 with h5 | h5
      · exact h4 i (by omega) i2
      · subst h5; exact h0

theorem dyF_none {k p : Nat} : ∀ {f n}, dyF k p f n = none → ∀ i, n ≤ i → i < n + f → (k * 2 ^ i + 1) % p ≠ 0
  | 0, n, _, i, h1, h2 => by omega
  | f + 1, n, h, i, h1, h2 => by
    rw [dyF] at h
    split at h
    · cases h
    · next h0 =>
      rcases Nat.lt_or_eq_of_le h1 with h5 | h5
      · exact dyF_none h i (by omega) (by omega)
      · subst h5; exact h0

/-- the value that the program keeps: -1 as long as there is none -/
def atV (k p f : Nat) : Int := match dyF k p f 1 with | some m => (m : Int) | none => -1
theorem atV_zero (k p : Nat) : atV k p 0 = -1 := rfl
theorem atV_bd (k p f : Nat) : -1 ≤ atV k p f ∧ atV k p f ≤ f := by
  unfold atV
  split
  · next h => have := dyF_some h; omega
  · omega
theorem atV_set {k p f : Nat} (h : (k * 2 ^ (f + 1) + 1) % p = 0) (h0 : atV k p f < 0) : atV k p (f + 1) = ((f + 1 : Nat) : Int) := by
  unfold atV at *
  rw [dyF_snoc, show 1 + f = f + 1 by omega]
  split at h0
  · omega
  · simp only [if_pos h]
theorem atV_keep {k p f : Nat} (h : ¬ ((k * 2 ^ (f + 1) + 1) % p = 0 ∧ atV k p f < 0)) : atV k p (f + 1) = atV k p f := by
  unfold atV at *
  rw [dyF_snoc, show 1 + f = f + 1 by omega]
  cases e : dyF k p f 1 with
  | some m => rfl
  | none =>
    rw [e] at h
    have : ¬ (k * 2 ^ (f + 1) + 1) % p = 0 := fun h1 => h ⟨h1, by decide⟩
    simp only [if_neg this]

/-- the same divisibility comes again after the order -/
theorem day_same {k p t : Nat} (h : Ord2 p t) {a b : Nat} (hab : a % t = b % t) : (k * 2 ^ a + 1) % p = (k * 2 ^ b + 1) % p := by
  have e : ∀ a, 2 ^ a % p = 2 ^ (a % t) % p := fun a => by
    conv => lhs; rw [← Nat.div_add_mod a t]
    rw [Nat.pow_add, Nat.pow_mul, Nat.mul_mod, Nat.pow_mod, h.2.1, Nat.one_pow, ← Nat.mul_mod, Nat.one_mul]
  have e2 : 2 ^ a % p = 2 ^ b % p := by rw [e a, e b, hab]
  rw [Nat.add_mod, Nat.mul_mod, e2, ← Nat.mul_mod, ← Nat.add_mod]

/-- the prime divides at just the numbers of its day -/
theorem day_iff {k p t : Nat} (hp : Pr p) (h2 : p % 2 = 1) (h : Ord2 p t) (n : Nat) : (k * 2 ^ n + 1) % p = 0 ↔ ∃ m, dyF k p t 1 = some m ∧ n % t = m % t := by
  have hp1 : 2 ≤ p := hp.1
  have h1 := h.1
  constructor
  · intro hn
    -- the number in 1 .. t that is alike
    obtain ⟨c, c1, c2, c3⟩ : ∃ c, 1 ≤ c ∧ c ≤ t ∧ c % t = n % t := by
      by_cases h0 : n % t = 0
      · exact ⟨t, h1, Nat.le_refl _, by rw [Nat.mod_self, h0]⟩
      · exact ⟨n % t, by omega, Nat.le_of_lt (Nat.mod_lt _ h1), Nat.mod_mod _ _⟩
    have hc : (k * 2 ^ c + 1) % p = 0 := by rw [day_same h c3]; exact hn
    cases e : dyF k p t 1 with
    | none => exact absurd hc (dyF_none e c c1 (by omega))
    | some m =>
      refine ⟨m, rfl, ?_⟩
      obtain ⟨m1, m2, m3, m4⟩ := dyF_some e
      have hmc : m ≤ c := by
        rcases Nat.lt_or_ge c m with h5 | h5
        · exact absurd hc (m4 c c1 h5)
        · exact h5
      -- k 2^m = k 2^c modulo p, so 2^(c - m) = 1
      have hk : Nat.gcd (k * 2 ^ m) p = 1 := by
        apply hp.cop
        intro h0
        rw [Nat.add_mod, h0, Nat.zero_add, Nat.mod_mod, Nat.mod_eq_of_lt (by omega)] at m3
        cases m3
      have e3 : (2 ^ (c - m) * (k * 2 ^ m)) % p = (1 * (k * 2 ^ m)) % p := by
        have e4 : 2 ^ (c - m) * (k * 2 ^ m) = k * 2 ^ c := by
          rw [Nat.mul_left_comm, ← Nat.pow_add]; congr 2; omega
        rw [e4, Nat.one_mul]
        have a1 : (k * 2 ^ c % p + 1) % p = 0 := by rw [Nat.mod_add_mod]; exact hc
        have a2 : (k * 2 ^ m % p + 1) % p = 0 := by rw [Nat.mod_add_mod]; exact m3
        have b1 : k * 2 ^ c % p < p := Nat.mod_lt _ (by omega)
        have b2 : k * 2 ^ m % p < p := Nat.mod_lt _ (by omega)
        generalize k * 2 ^ c % p = x at *
        generalize k * 2 ^ m % p = y at *
        have c1 := Nat.le_of_dvd (by omega) (Nat.dvd_of_mod_eq_zero a1)
        have c2 := Nat.le_of_dvd (by omega) (Nat.dvd_of_mod_eq_zero a2)
        omega
      have e5 := cancel_mod hk e3
      rw [Nat.mod_eq_of_lt (show 1 < p by omega)] at e5
      have e6 := (h.dvd (by omega)).1 e5
      rw [← c3]
      obtain ⟨d, rfl⟩ : ∃ d, c = m + d := ⟨c - m, by omega⟩
      rw [Nat.add_sub_cancel_left] at e6
      rw [Nat.add_mod, e6, Nat.add_zero, Nat.mod_mod]
  · rintro ⟨m, hm, hn⟩
    rw [day_same h hn]
    exact (dyF_some hm).2.2.1

open Classical in
/-- the order of 2 as a function -/
noncomputable def ordF (p : Nat) : Nat := if h : ∃ t, Ord2 p t then Classical.choose h else 0
theorem ordF_spec {p : Nat} (hp : Pr p) (h2 : p % 2 = 1) : Ord2 p (ordF p) ∧ ordF p < p := by
  obtain ⟨t, ht, hl⟩ := ex_ord hp h2
  have he : ∃ t, Ord2 p t := ⟨t, ht⟩
  have e : Ord2 p (ordF p) := by unfold ordF; rw [dif_pos he]; exact Classical.choose_spec he
  exact ⟨e, by rw [e.uniq ht]; exact hl⟩

/-- the pair of a prime, and those of some -/
noncomputable def dyP (k p : Nat) : Option (Int × Int) := (dyF k p (ordF p) 1).map fun m => (((m % ordF p : Nat) : Int), ((ordF p : Nat) : Int))
noncomputable def dys (k : Nat) (L : List Nat) : List (Int × Int) := L.filterMap (dyP k)
theorem dyP_none {k p : Nat} (h : dyF k p (ordF p) 1 = none) : dyP k p = none := by unfold dyP; rw [h]; rfl
theorem dyP_some {k p m : Nat} (h : dyF k p (ordF p) 1 = some m) : dyP k p = some (((m % ordF p : Nat) : Int), ((ordF p : Nat) : Int)) := by unfold dyP; rw [h]; rfl
end GhN
