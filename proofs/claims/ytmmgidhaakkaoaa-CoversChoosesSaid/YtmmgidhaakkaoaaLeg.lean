/- Odd primes: the power of half the prime, by the lemma of Gauss, is the symbol; a number has a square root exactly if the symbol is not -1. -/
import Derived.Test.YtmmgidhaakkaoaaJac
namespace GhN

/-- a prime -/
def Pr (p : Nat) : Prop := 2 ≤ p ∧ ∀ d, d ∣ p → d = 1 ∨ d = p

theorem Pr.cop {p a : Nat} (hp : Pr p) (h : a % p ≠ 0) : Nat.gcd a p = 1 := by
  rcases hp.2 _ (Nat.gcd_dvd_right a p) with e | e
  · exact e
  · exact absurd (Nat.mod_eq_zero_of_dvd (e ▸ Nat.gcd_dvd_left a p)) h

theorem Pr.gcd_ne {p a : Nat} (hp : Pr p) (h : a % p = 0) : Nat.gcd a p ≠ 1 := by
  intro e
  have h1 : p ∣ a := Nat.dvd_of_mod_eq_zero h
  have h2 : p ∣ Nat.gcd a p := Nat.dvd_gcd h1 (Nat.dvd_refl p)
  rw [e] at h2
  have := Nat.le_of_dvd (by omega) h2
  have := hp.1
  omega

theorem Pr.dvd_mul {p a b : Nat} (hp : Pr p) (h : (a * b) % p = 0) : a % p = 0 ∨ b % p = 0 := by
  by_cases ha : a % p = 0
  · exact .inl ha
  · have hc := hp.cop ha
    have hd : p ∣ a * b := Nat.dvd_of_mod_eq_zero h
    exact .inr (Nat.mod_eq_zero_of_dvd (Nat.Coprime.dvd_of_dvd_mul_left (Nat.Coprime.symm hc) hd))

theorem Pr.odd {p : Nat} (hp : Pr p) (h : p ≠ 2) : p % 2 = 1 := by
  by_cases e : p % 2 = 0
  · rcases hp.2 2 (Nat.dvd_of_mod_eq_zero e) with h' | h' <;> omega
  · omega

/-- products -/
def pm (f : Nat → Nat) : Nat → Nat
  | 0 => 1
  | m+1 => pm f m * f m

theorem pm_congr {f g : Nat → Nat} {m : Nat} (h : ∀ k, k < m → f k = g k) : pm f m = pm g m := by
  induction m with
  | zero => rfl
  | succ m ih => simp only [pm]; rw [ih (fun k hk => h k (by omega)), h m (by omega)]

theorem pm_mul (f g : Nat → Nat) (m : Nat) : pm (fun k => f k * g k) m = pm f m * pm g m := by
  induction m with
  | zero => rfl
  | succ m ih =>
    simp only [pm, ih]
    rw [Nat.mul_assoc, Nat.mul_assoc, Nat.mul_left_comm (pm g m)]

theorem pm_const (c m : Nat) : pm (fun _ => c) m = c ^ m := by
  induction m with
  | zero => rfl
  | succ m ih => simp only [pm, ih, Nat.pow_succ]

theorem pm_mod_congr {n : Nat} {f g : Nat → Nat} {m : Nat} (h : ∀ k, k < m → f k % n = g k % n) : pm f m % n = pm g m % n := by
  induction m with
  | zero => rfl
  | succ m ih =>
    simp only [pm]
    rw [Nat.mul_mod, ih (fun k hk => h k (by omega)), h m (by omega), ← Nat.mul_mod]

theorem pm_list (f : Nat → Nat) (m : Nat) : ((List.range m).map f).prod = pm f m := by
  induction m with
  | zero => rfl
  | succ m ih => rw [List.range_succ, List.map_append, List.prod_append_nat, ih]; simp [pm]

theorem pm_inj {m : Nat} {s : Nat → Nat} (hs : ∀ k, k < m → s k < m) (hi : ∀ k l, k < m → l < m → s k = s l → k = l) (f : Nat → Nat) :
    pm (fun k => f (s k)) m = pm f m := by
  rw [← pm_list f, ← pm_list]
  have h := (perm_of_inj hs hi).map f
  rw [List.map_map] at h
  exact h.prod_nat

theorem pm_pow_sm (c : Nat) (f : Nat → Nat) (m : Nat) : pm (fun k => c ^ f k) m = c ^ sm f m := by
  induction m with
  | zero => rfl
  | succ m ih => simp only [pm, sm, ih, Nat.pow_add]

theorem pm_cop {n : Nat} {f : Nat → Nat} {m : Nat} (h : ∀ k, k < m → Nat.gcd (f k) n = 1) : Nat.gcd (pm f m) n = 1 := by
  induction m with
  | zero => simp [pm]
  | succ m ih => exact gcd_mul_one.2 ⟨ih (fun k hk => h k (by omega)), h m (by omega)⟩

theorem cancel_mod {n x y c : Nat} (hc : Nat.gcd c n = 1) (h : (x * c) % n = (y * c) % n) : x % n = y % n := by
  by_cases h0 : n = 0
  · subst h0; simp at hc h; subst hc; simpa using h
  · refine eq_of_mul_mod hc (Nat.mod_lt _ (by omega)) (Nat.mod_lt _ (by omega)) ?_
    rw [Nat.mul_mod_mod, Nat.mul_mod_mod, Nat.mul_comm, h, Nat.mul_comm]

theorem neg_one_sq (n : Nat) (hn : 1 < n) : ((n - 1) * (n - 1)) % n = 1 := by
  have e : (n - 1) * (n - 1) = 1 + n * (n - 2) := by
    obtain ⟨k, rfl⟩ : ∃ k, n = k + 2 := ⟨n - 2, by omega⟩
    rw [show k + 2 - 1 = k + 1 from rfl, Nat.add_sub_cancel]
    simp only [Nat.mul_add, Nat.add_mul, Nat.one_mul, Nat.mul_one]; omega
  rw [e, Nat.add_mul_mod_self_left, Nat.mod_eq_of_lt hn]

theorem neg_one_pow (n : Nat) (hn : 1 < n) (k : Nat) : ((n - 1) ^ k) % n = if k % 2 = 0 then 1 else n - 1 := by
  induction k with
  | zero => simp [Nat.mod_eq_of_lt hn]
  | succ k ih =>
    rw [Nat.pow_succ, Nat.mul_mod, ih]
    by_cases h : k % 2 = 0
    · rw [if_pos h, if_neg (by omega), Nat.one_mul, Nat.mod_mod, Nat.mod_eq_of_lt (by omega)]
    · rw [if_neg h, if_pos (by omega), Nat.mul_mod_mod, neg_one_sq n hn]

/-- **the lemma of Gauss** -/
theorem gauss {a p : Nat} (hp : Pr p) (h2 : p % 2 = 1) (ha : a % p ≠ 0) : (a ^ (p / 2)) % p = if gs a p % 2 = 0 then 1 else p - 1 := by
  have hc := hp.cop ha
  have hp1 : 1 < p := hp.1
  have e1 : pm (fun k => a * (k + 1)) (p / 2) = a ^ (p / 2) * pm (fun k => k + 1) (p / 2) := by rw [pm_mul, pm_const]
  have e2 : pm (fun k => a * (k + 1)) (p / 2) % p = pm (fun k => (p - 1) ^ (if p < 2 * ((a * (k + 1)) % p) then 1 else 0) * (sg a p k + 1)) (p / 2) % p := by
    refine pm_mod_congr (fun k hk => ?_)
    have hs := sg_succ h2 hc hk
    have hr : (a * (k + 1)) % p < p := Nat.mod_lt _ (by omega)
    have hr0 := not_dvd_of_cop hc (k := k + 1) (by omega) (by omega)
    rw [hs]
    generalize (a * (k + 1)) % p = r at *
    split
    · rw [Nat.pow_one]
      have e : (p - 1) * (p - r) = r + p * (p - 1 - r) := by
        obtain ⟨t, rfl⟩ : ∃ t, p = r + 1 + t := ⟨p - r - 1, by omega⟩
        rw [show r + 1 + t - 1 = r + t from by omega, show r + 1 + t - r = t + 1 from by omega, show r + t - r = t from by omega, Nat.mul_add, Nat.add_mul (r + 1), Nat.add_mul r]; simp only [Nat.add_mul, Nat.one_mul, Nat.mul_one]; omega
      rw [e, Nat.add_mul_mod_self_left, Nat.mod_eq_of_lt hr]
    · rw [Nat.pow_zero, Nat.one_mul, Nat.mod_eq_of_lt hr]
  rw [e1, pm_mul, pm_pow_sm, pm_inj (s := sg a p) (fun k hk => sg_lt h2 hc hk) (fun k l hk hl h => sg_inj h2 hc hk hl h) (fun k => k + 1)] at e2
  have e3 := cancel_mod (pm_cop (fun k hk => hp.cop (by rw [Nat.mod_eq_of_lt (by omega)]; omega))) e2
  rw [e3]
  exact neg_one_pow p hp1 _

/-- the power of half the prime is the symbol -/
theorem euler {a p : Nat} (hp : Pr p) (h2 : p % 2 = 1) : (a ^ (p / 2)) % p = if jn a p = 0 then 0 else if jn a p = 1 then 1 else p - 1 := by
  by_cases ha : a % p = 0
  · have : jn a p = 0 := (jn_zero_iff a p).2 (hp.gcd_ne ha)
    have hp1 : 2 ≤ p := hp.1
    rw [if_pos this, Nat.pow_mod, ha, Nat.zero_pow (by omega), Nat.zero_mod]
  · rw [gauss hp h2 ha]
    have hc := hp.cop ha
    unfold jn sgn
    simp only [hc, if_true]
    split <;> simp

/-- products over a list that is closed under a change of partners -/
theorem pair_prod (p c : Nat) (f : Nat → Nat) : ∀ (n : Nat) (l : List Nat), l.length = n → l.Nodup → (∀ x ∈ l, f x ∈ l ∧ f (f x) = x ∧ f x ≠ x ∧ (x * f x) % p = c % p) → l.prod % p = c ^ (l.length / 2) % p ∧ l.length % 2 = 0 := by
  intro n
  induction n using Nat.strongRecOn with
  | ind n ih =>
    intro l hl hd hf
    cases l with
    | nil => simp
    | cons x t =>
      obtain ⟨h1, h2, h3, h4⟩ := hf x (by simp)
      have hx : f x ∈ t := by
        rcases List.mem_cons.1 h1 with e | e
        · exact absurd e h3
        · exact e
      have hd' := (List.nodup_cons.1 hd)
      have hperm : t.Perm (f x :: t.erase (f x)) := List.perm_cons_erase hx
      have hlen : (t.erase (f x)).length + 1 = t.length := by
        have := hperm.length_eq; simp at this; omega
      have key := ih (t.erase (f x)).length (by simp at hl; omega) (t.erase (f x)) rfl (hd'.2.erase _) (by
        intro y hy
        have hy' := (hd'.2.mem_erase_iff).1 hy
        obtain ⟨k1, k2, k3, k4⟩ := hf y (by simp [hy'.2])
        refine ⟨?_, k2, k3, k4⟩
        refine (hd'.2.mem_erase_iff).2 ⟨?_, ?_⟩
        · intro e
          have : y = x := by rw [← k2, e, h2]
          exact hd'.1 (this ▸ hy'.2)
        · rcases List.mem_cons.1 k1 with e | e
          · exfalso
            apply hy'.1
            rw [← k2, e]
          · exact e)
      constructor
      · have e1 : (x :: t).prod = x * f x * (t.erase (f x)).prod := by
          simp only [List.prod_cons]
          rw [hperm.prod_nat, List.prod_cons, Nat.mul_assoc]
        have e2 : (x :: t).length / 2 = (t.erase (f x)).length / 2 + 1 := by
          simp only [List.length_cons]; omega
        rw [e1, e2, Nat.mul_mod, h4, key.1, ← Nat.mul_mod, Nat.pow_succ, Nat.mul_comm]
      · simp only [List.length_cons]; omega

/-- each number has a partner: one that times it is c -/
theorem partner {p x : Nat} (hp : Pr p) (hx : x % p ≠ 0) (c : Nat) : ∃ y, y < p ∧ (x * y) % p = c % p := by
  have hp1 : 2 ≤ p := hp.1
  have hc := hp.cop hx
  obtain ⟨y, hy, e⟩ := surj_of_inj (m := p) (s := fun k => (x * k) % p) (fun k _ => Nat.mod_lt _ (by omega)) (fun k l hk hl h => eq_of_mul_mod hc hk hl h) (c % p) (Nat.mod_lt _ (by omega))
  exact ⟨y, hy, e⟩

/-- the first partner -/
noncomputable def pt (p c x : Nat) : Nat := if h : ∃ y, y < p ∧ (x * y) % p = c % p then Classical.choose h else 0

theorem pt_spec {p x : Nat} (hp : Pr p) (hx : x % p ≠ 0) (c : Nat) : pt p c x < p ∧ (x * pt p c x) % p = c % p := by
  have h := partner hp hx c
  unfold pt
  rw [dif_pos h]
  exact Classical.choose_spec h

theorem pt_ne {p x c : Nat} (hp : Pr p) (hx : x % p ≠ 0) (hc : c % p ≠ 0) : pt p c x ≠ 0 := by
  intro e
  have := (pt_spec hp hx c).2
  rw [e, Nat.mul_zero, Nat.zero_mod] at this
  exact hc this.symm

theorem pt_unique {p x y c : Nat} (hp : Pr p) (hx : x % p ≠ 0) (hy : y < p) (h : (x * y) % p = c % p) : pt p c x = y :=
  eq_of_mul_mod (hp.cop hx) (pt_spec hp hx c).1 hy ((pt_spec hp hx c).2.trans h.symm)

theorem pt_pt {p x c : Nat} (hp : Pr p) (hx0 : 0 < x) (hx : x < p) (hc : c % p ≠ 0) : pt p c (pt p c x) = x := by
  have hx' : x % p ≠ 0 := by rw [Nat.mod_eq_of_lt hx]; omega
  have h := pt_spec hp hx' c
  have h0 := pt_ne hp hx' hc
  refine pt_unique hp (by rw [Nat.mod_eq_of_lt h.1]; exact h0) hx ?_
  rw [Nat.mul_comm]; exact h.2

/-- the numbers from 1 below p -/
def upto (p : Nat) : List Nat := (List.range (p - 1)).map (· + 1)

theorem mem_upto {p x : Nat} : x ∈ upto p ↔ 0 < x ∧ x < p := by
  unfold upto
  simp only [List.mem_map, List.mem_range]
  constructor
  · rintro ⟨k, hk, rfl⟩; omega
  · rintro ⟨h1, h2⟩; exact ⟨x - 1, by omega, by omega⟩

theorem nodup_upto (p : Nat) : (upto p).Nodup := by
  unfold upto
  rw [List.nodup_iff_pairwise_ne, List.pairwise_map]
  have : (List.range (p - 1)).Nodup := List.nodup_range
  rw [List.nodup_iff_pairwise_ne] at this
  exact this.imp (fun h e => h (by omega))

theorem length_upto (p : Nat) : (upto p).length = p - 1 := by simp [upto]

/-- no square root: the product of all is the power -/
theorem prod_nonsquare {p c : Nat} (hp : Pr p) (hc : c % p ≠ 0) (hns : ∀ x, x < p → (x * x) % p ≠ c % p) : (upto p).prod % p = c ^ ((p - 1) / 2) % p := by
  have h := pair_prod p c (pt p c) _ (upto p) rfl (nodup_upto p) (by
    intro x hx
    rw [mem_upto] at hx
    have hx' : x % p ≠ 0 := by rw [Nat.mod_eq_of_lt hx.2]; omega
    have hs := pt_spec hp hx' c
    have h0 := pt_ne hp hx' hc
    refine ⟨mem_upto.2 ⟨by omega, hs.1⟩, pt_pt hp hx.1 hx.2 hc, ?_, hs.2⟩
    intro e
    rw [e] at hs
    exact hns x hx.2 hs.2)
  rw [length_upto] at h
  exact h.1

/-- a square root: the product of all is the opposite of the power -/
theorem prod_square {p c r : Nat} (hp : Pr p) (h2 : p % 2 = 1) (hc : c % p ≠ 0) (hr : r < p) (hrr : (r * r) % p = c % p) : (upto p).prod % p = ((p - 1) * c ^ ((p - 1) / 2)) % p := by
  have hp1 : 2 ≤ p := hp.1
  have hr0 : 0 < r := by
    rcases Nat.eq_zero_or_pos r with e | e
    · subst e; simp at hrr; exact absurd hrr.symm hc
    · exact e
  have hr' : r % p ≠ 0 := by rw [Nat.mod_eq_of_lt hr]; omega
  have hne : p - r ≠ r := by omega
  have hpr' : (p - r) % p ≠ 0 := by rw [Nat.mod_eq_of_lt (by omega)]; omega
  have hneg : (r * (p - r)) % p = p - c % p := by
    have := mul_neg_mod (a := r) (n := p) (s := r) (by omega) (by rw [hrr]; exact hc) (by omega)
    rw [this, hrr]
  have hneg2 : ((p - r) * (p - r)) % p = c % p := by
    have h1 := mul_neg_mod (a := p - r) (n := p) (s := r) (by omega) (by rw [Nat.mul_comm, hneg]; have := Nat.mod_lt c (show 0 < p by omega); omega) (by omega)
    rw [h1, Nat.mul_comm, hneg]
    have := Nat.mod_lt c (show 0 < p by omega)
    omega
  have m1 : r ∈ upto p := mem_upto.2 ⟨hr0, hr⟩
  have p1 := List.perm_cons_erase m1
  have d1 : ((upto p).erase r).Nodup := (nodup_upto p).erase _
  have m2 : p - r ∈ (upto p).erase r := ((nodup_upto p).mem_erase_iff).2 ⟨hne, mem_upto.2 ⟨by omega, by omega⟩⟩
  have p2 := List.perm_cons_erase m2
  have hmem : ∀ x, x ∈ ((upto p).erase r).erase (p - r) ↔ x ≠ p - r ∧ x ≠ r ∧ 0 < x ∧ x < p := by
    intro x
    rw [d1.mem_erase_iff, (nodup_upto p).mem_erase_iff, mem_upto]
  have h := pair_prod p c (pt p c) _ (((upto p).erase r).erase (p - r)) rfl (d1.erase _) (by
    intro x hx
    rw [hmem] at hx
    obtain ⟨hx1, hx2, hx3, hx4⟩ := hx
    have hx' : x % p ≠ 0 := by rw [Nat.mod_eq_of_lt hx4]; omega
    have hs := pt_spec hp hx' c
    have h0 := pt_ne hp hx' hc
    have hpp := pt_pt hp hx3 hx4 hc
    refine ⟨(hmem _).2 ⟨?_, ?_, by omega, hs.1⟩, hpp, ?_, hs.2⟩
    · intro e
      have : pt p c (p - r) = p - r := pt_unique hp hpr' (by omega) hneg2
      rw [e, this] at hpp
      exact hx1 hpp.symm
    · intro e
      have : pt p c r = r := pt_unique hp hr' hr hrr
      rw [e, this] at hpp
      exact hx2 hpp.symm
    · intro e
      rw [e] at hs
      have hs2 := hs.2
      -- x x = r r: x = r or x = p - r
      have hz : ((x + r) * (x + (p - r))) % p = 0 := by
        have e1 : (x + r) * (x + (p - r)) = x * x + r * (p - r) + x * p := by
          have : (x + r) * (x + (p - r)) = x * x + r * (p - r) + x * (r + (p - r)) := by
            simp only [Nat.mul_add, Nat.add_mul, Nat.mul_comm r x]; omega
          rw [this, Nat.add_sub_of_le (by omega)]
        rw [e1, Nat.add_mul_mod_self_right, Nat.add_mod, hs2, hneg]
        have := Nat.mod_lt c (show 0 < p by omega)
        rw [Nat.add_sub_of_le (by omega), Nat.mod_self]
      rcases hp.dvd_mul hz with e' | e'
      · have : x + r = p := by
          have h3 := Nat.dvd_of_mod_eq_zero e'
          obtain ⟨t, ht⟩ := h3
          have : t < 2 := by
            apply Nat.lt_of_mul_lt_mul_left (a := p); omega
          have ht' : t = 0 ∨ t = 1 := by omega
          rcases ht' with rfl | rfl <;> omega
        omega
      · have h3 := Nat.dvd_of_mod_eq_zero e'
        obtain ⟨t, ht⟩ := h3
        have : t < 2 := by
          apply Nat.lt_of_mul_lt_mul_left (a := p); omega
        have ht' : t = 0 ∨ t = 1 := by omega
        rcases ht' with rfl | rfl <;> omega)
  have hlen : (((upto p).erase r).erase (p - r)).length + 2 = p - 1 := by
    have a1 := p1.length_eq
    have a2 := p2.length_eq
    rw [length_upto] at a1
    simp only [List.length_cons] at a1 a2
    omega
  have hprod : (upto p).prod = r * (p - r) * (((upto p).erase r).erase (p - r)).prod := by
    rw [p1.prod_nat, List.prod_cons, p2.prod_nat, List.prod_cons, Nat.mul_assoc]
  have hl2 : (p - 1) / 2 = (((upto p).erase r).erase (p - r)).length / 2 + 1 := by omega
  have hcneg : (p - c % p) % p = ((p - 1) * c) % p := by
    have h1 := mul_neg_mod (a := c) (n := p) (s := 1) (by omega) (by simpa using hc) (by omega)
    rw [Nat.mul_one] at h1
    have := Nat.mod_lt c (show 0 < p by omega)
    rw [Nat.mul_comm, h1, Nat.mod_eq_of_lt (by omega)]
  rw [hprod, hl2, Nat.mul_mod, hneg, h.1, Nat.mul_mod_mod, Nat.mul_mod, hcneg, Nat.mod_mul_mod, Nat.pow_succ]
  rw [Nat.mul_mod_mod, Nat.mul_assoc, Nat.mul_comm c]

theorem wilson {p : Nat} (hp : Pr p) (h2 : p % 2 = 1) : (upto p).prod % p = p - 1 := by
  have hp1 : 2 ≤ p := hp.1
  have h := prod_square (c := 1) (r := 1) hp h2 (by rw [Nat.mod_eq_of_lt (by omega)]; omega) (by omega) rfl
  rw [h, Nat.one_pow, Nat.mul_one, Nat.mod_eq_of_lt (by omega)]

/-- **Euler's criterion**: there is a square root exactly if the symbol is not -1 -/
theorem square_iff {p a : Nat} (hp : Pr p) (h2 : p % 2 = 1) : (∃ x, x < p ∧ (x * x) % p = a % p) ↔ jn a p ≠ -1 := by
  have hp1 : 2 ≤ p := hp.1
  by_cases ha : a % p = 0
  · have : jn a p = 0 := (jn_zero_iff a p).2 (hp.gcd_ne ha)
    rw [this]
    exact ⟨fun _ => by decide, fun _ => ⟨0, by omega, by rw [ha]; simp⟩⟩
  · have hj0 : jn a p ≠ 0 := fun e => (jn_zero_iff a p).1 e (hp.cop ha)
    have he := euler (a := a) hp h2
    rw [if_neg hj0] at he
    constructor
    · rintro ⟨x, hx, hxx⟩ e
      have h := prod_square hp h2 ha hx hxx
      rw [wilson hp h2, Nat.mul_mod, show (p - 1) / 2 = p / 2 by omega, he, e, if_neg (by decide), Nat.mod_eq_of_lt (by omega : p - 1 < p), neg_one_sq p (by omega)] at h
      omega
    · intro hne
      have h1 : jn a p = 1 := by
        rcases jn_cases a p with e | e | e
        · exact absurd e hj0
        · exact e
        · exact absurd e hne
      by_cases hx : ∃ x, x < p ∧ (x * x) % p = a % p
      · exact hx
      · have h := prod_nonsquare hp ha (fun x hxp e => hx ⟨x, hxp, e⟩)
        rw [wilson hp h2, show (p - 1) / 2 = p / 2 by omega, he, h1, if_pos rfl] at h
        omega

end GhN
