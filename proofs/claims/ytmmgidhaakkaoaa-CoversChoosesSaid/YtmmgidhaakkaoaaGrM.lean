/- Differences along several steps; a function that has one of the steps as a period goes away; one whose places are few stays. Plain mathematics. -/
import Derived.Test.YtmmgidhaakkaoaaCvM
namespace GhC

/-- differences along all steps -/
def Df : List Int → (Int → Int) → Int → Int
  | [], g, n => g n
  | k :: ks, g, n => Df ks g n - Df ks g (n + k)

theorem Df_congr {f g : Int → Int} (h : ∀ n, f n = g n) : ∀ (ks : List Int) (n : Int), Df ks f n = Df ks g n
  | [], n => h n
  | k :: ks, n => by simp only [Df]; rw [Df_congr h ks, Df_congr h ks]

theorem Df_add (f g : Int → Int) : ∀ (ks : List Int) (n : Int), Df ks (fun n => f n + g n) n = Df ks f n + Df ks g n
  | [], n => rfl
  | k :: ks, n => by simp only [Df]; rw [Df_add f g ks, Df_add f g ks]; omega

theorem Df_zero : ∀ (ks : List Int) (n : Int), Df ks (fun _ => 0) n = 0
  | [], _ => rfl
  | k :: ks, n => by simp only [Df]; rw [Df_zero ks, Df_zero ks]; rfl

theorem Df_mul (c : Int) (g : Int → Int) : ∀ (ks : List Int) (n : Int), Df ks (fun n => c * g n) n = c * Df ks g n
  | [], n => rfl
  | k :: ks, n => by simp only [Df]; rw [Df_mul c g ks, Df_mul c g ks, Int.mul_sub]

theorem Df_period {f : Int → Int} {P : Int} (h : ∀ n, f (n + P) = f n) : ∀ (ks : List Int) (n : Int), Df ks f (n + P) = Df ks f n
  | [], n => h n
  | k :: ks, n => by
    simp only [Df]
    rw [Df_period h ks, show n + P + k = n + k + P by omega, Df_period h ks]

/-- a step that is a period: nothing is left -/
theorem Df_kill {f : Int → Int} : ∀ (ks : List Int), (∃ k ∈ ks, ∀ n, f (n + k) = f n) → ∀ n, Df ks f n = 0
  | [], h, n => by obtain ⟨k, hk, _⟩ := h; cases hk
  | k :: ks, h, n => by
    obtain ⟨k', hk, hp⟩ := h
    simp only [Df]
    rcases List.mem_cons.1 hk with rfl | hk
    · rw [Df_period hp]; omega
    · rw [Df_kill ks ⟨k', hk, hp⟩, Df_kill ks ⟨k', hk, hp⟩]; rfl

/-- nothing near z: nothing is left -/
theorem Df_far {g : Int → Int} {M : Int} {z : Int} : ∀ (ks : List Int), (∀ k ∈ ks, M ∣ k) → (∀ y, M ∣ y - z → g y = 0) → ∀ y, M ∣ y - z → Df ks g y = 0
  | [], _, h, y, hy => h y hy
  | k :: ks, hk, h, y, hy => by
    simp only [Df]
    have hks := fun k' hk' => hk k' (List.mem_cons_of_mem _ hk')
    rw [Df_far ks hks h y hy, Df_far ks hks h (y + k) (by
      have e : y + k - z = (y - z) + k := by omega
      rw [e]; exact Int.dvd_add hy (hk k (List.mem_cons_self ..)))]
    rfl

/-- steps with their moduli: each step is a multiple of the moduli of the others -/
def Steps : List (Int × Int) → Prop
  | [] => True
  | s :: ss => (∀ t ∈ ss, s.2 ∣ t.1 ∧ t.2 ∣ s.1) ∧ Steps ss

/-- where g is nothing at all numbers that lie like x + k to some modulus, just g x is left -/
theorem Df_left {g : Int → Int} {x : Int} : ∀ (ss : List (Int × Int)), Steps ss → (∀ s ∈ ss, ∀ y, s.2 ∣ y - (x + s.1) → g y = 0) → Df (ss.map (·.1)) g x = g x
  | [], _, _ => rfl
  | s :: ss, hs, h => by
    simp only [List.map_cons, Df]
    rw [Df_left ss hs.2 (fun t ht => h t (List.mem_cons_of_mem _ ht))]
    rw [Df_far (M := s.2) (z := x + s.1) (ss.map (·.1)) (fun k hk => by
      obtain ⟨t, ht, rfl⟩ := List.mem_map.1 hk
      exact (hs.1 t ht).1) (h s (List.mem_cons_self ..)) (x + s.1) (by simp)]
    omega

/-- a map of the first n numbers into fewer than n meets some twice -/
theorem pigeon : ∀ (m n : Nat) (f : Nat → Nat), m < n → (∀ k, k < n → f k < m) → ∃ k l, k < l ∧ l < n ∧ f k = f l
  | 0, n, f, h, hf => absurd (hf 0 h) (by omega)
  | m + 1, n, f, h, hf => by
    obtain ⟨n', rfl⟩ : ∃ n', n = n' + 1 := ⟨n - 1, by omega⟩
    by_cases hx : ∃ k, k < n' ∧ f k = f n'
    · obtain ⟨k, hk, e⟩ := hx
      exact ⟨k, n', hk, by omega, e⟩
    · -- the last value is met once: take it out
      let g : Nat → Nat := fun k => if f k < f n' then f k else f k - 1
      have hne : ∀ k, k < n' → f k ≠ f n' := fun k hk e => hx ⟨k, hk, e⟩
      obtain ⟨k, l, h1, h2, h3⟩ := pigeon m n' g (by omega) (fun k hk => by
        have a1 := hf k (by omega)
        have a2 := hf n' (by omega)
        have a3 := hne k hk
        simp only [g]; split <;> omega)
      refine ⟨k, l, h1, by omega, ?_⟩
      have a3 := hne k (by omega)
      have a4 := hne l h2
      simp only [g] at h3
      split at h3 <;> split at h3 <;> omega

/-- among q steps one is met by none of fewer than q numbers -/
theorem free_step {as : List Int} {q : Nat} {x c M : Int} (hlen : as.length < q) (hq : ∀ k l : Nat, k < l → l < q → ¬ M ∣ ((l : Int) - k) * c) :
    ∃ k, k < q ∧ ∀ a ∈ as, ¬ M ∣ a - (x + k * c) := by
  apply Classical.byContradiction
  intro hno
  have hall : ∀ k, k < q → ∃ i, i < as.length ∧ M ∣ as.getD i 0 - (x + k * c) := by
    intro k hk
    apply Classical.byContradiction
    intro h
    refine hno ⟨k, hk, fun a ha hd => h ?_⟩
    obtain ⟨i, hi⟩ := List.getElem?_of_mem ha
    have hi2 := (List.getElem?_eq_some_iff.1 hi).1
    exact ⟨i, hi2, by rw [List.getD_eq_getElem?_getD, hi]; exact hd⟩
  let f : Nat → Nat := fun k => if h : k < q then Classical.choose (hall k h) else 0
  have hf : ∀ k (h : k < q), f k < as.length ∧ M ∣ as.getD (f k) 0 - (x + k * c) := fun k h => by
    simp only [f, dif_pos h]; exact Classical.choose_spec (hall k h)
  obtain ⟨k, l, h1, h2, h3⟩ := pigeon as.length q f hlen (fun k hk => (hf k hk).1)
  have d1 := (hf k (by omega)).2
  have d2 := (hf l h2).2
  rw [h3] at d1
  refine hq k l h1 h2 ?_
  have := Int.dvd_sub d1 d2
  have e : as.getD (f l) 0 - (x + (k : Int) * c) - (as.getD (f l) 0 - (x + (l : Int) * c)) = ((l : Int) - k) * c := by rw [Int.sub_mul]; omega
  rwa [e] at this

/-- the primes of a number, each with the greatest power of it that divides the number -/
def qs (m : Nat) : List Nat := (List.range (m + 1)).filter fun q => decide (2 ≤ q) && m % q == 0 && (List.range q).all fun d => decide (d < 2) || q % d != 0
def pw (m q : Nat) : Nat := (List.range (m + 1)).foldl (fun b e => if m % (q ^ e) == 0 && decide (e < 7) then q ^ e else b) 1

/-- what is asked of them, for one number -/
def okm (m : Nat) : Bool :=
  !(qs m).isEmpty &&
  (qs m).all (fun q => m % pw m q == 0 && m % q == 0 && (List.range q).all (fun k => k == 0 || (k * (m / q)) % pw m q != 0) && (qs m).all (fun r => r == q || (m / r) % pw m q == 0)) &&
  (List.range m).all (fun g => g == 0 || m % g != 0 || (qs m).any (fun q => (m / q) % g == 0))

theorem ok60 : (List.range 61).all (fun m => decide (m < 2) || okm m) = true := by decide +kernel

theorem okm_of {m : Nat} (h1 : 2 ≤ m) (h2 : m ≤ 60) : okm m = true := by
  have := List.all_eq_true.1 ok60 m (List.mem_range.2 (by omega))
  rw [Bool.or_eq_true] at this
  rcases this with h | h
  · exact absurd (of_decide_eq_true h) (by omega)
  · exact h

end GhC
