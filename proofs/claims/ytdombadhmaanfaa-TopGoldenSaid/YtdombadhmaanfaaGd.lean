/- The golden numbers: y is one of them exactly if 5 y y + 4 or 5 y y - 4 is a square; the numeral of a number has one index exactly if it is one of them. -/
import Derived.Test.YtdombadhmaanfaaSm
namespace GhN

def fib : Nat → Nat
  | 0 => 0
  | 1 => 1
  | n + 2 => fib n + fib (n + 1)

theorem fib_two (n : Nat) : fib (n + 2) = fib n + fib (n + 1) := rfl
theorem fib_pos : ∀ n, 1 ≤ n → 1 ≤ fib n
  | 0, h => by omega
  | 1, _ => by decide
  | n + 2, _ => by rw [fib_two]; have := fib_pos (n + 1) (by omega); omega
theorem fib_mono1 (n : Nat) : fib n ≤ fib (n + 1) := by
  cases n with
  | zero => decide
  | succ n => rw [fib_two]; omega
theorem fib_mono {m n : Nat} (h : m ≤ n) : fib m ≤ fib n := by
  induction n with
  | zero => have : m = 0 := by omega
            subst this; exact Nat.le_refl _
  | succ n ih =>
    rcases Nat.lt_or_eq_of_le h with h1 | h1
    · exact Nat.le_trans (ih (by omega)) (fib_mono1 n)
    · subst h1; exact Nat.le_refl _
theorem fib_strict {m n : Nat} (h2 : 2 ≤ m) (h : m < n) : fib m < fib n := by
  have h1 : fib m < fib (m + 1) := by
    obtain ⟨k, rfl⟩ : ∃ k, m = k + 1 := ⟨m - 1, by omega⟩
    rw [fib_two]
    have := fib_pos k (by omega)
    omega
  exact Nat.lt_of_lt_of_le h1 (fib_mono (by omega))

/-- the law of two neighbours -/
theorem fib_law : ∀ k : Nat, ((fib (k + 1) : Int) * fib (k + 1) - fib (k + 1) * fib k - fib k * fib k) = if k % 2 = 0 then 1 else -1
  | 0 => by decide
  | k + 1 => by
    have ih := fib_law k
    rw [fib_two]
    push_cast
    generalize (fib k : Int) = a at *
    generalize (fib (k + 1) : Int) = b at *
    have e : (a + b) * (a + b) - (a + b) * b - b * b = -(b * b - b * a - a * a) := by
      rw [Int.add_mul, Int.mul_add, Int.mul_add, Int.add_mul, Int.mul_comm a b]; omega
    rw [e, ih]
    split <;> split <;> omega

/-- twice the neighbour, less the number: the x of the solution -/
theorem fib_sol (k : Nat) : (2 * (fib (k + 1) : Int) - fib k) * (2 * fib (k + 1) - fib k) = 5 * (fib k * fib k) + if k % 2 = 0 then 4 else -4 := by
  have h := fib_law k
  generalize (fib k : Int) = a at *
  generalize (fib (k + 1) : Int) = b at *
  have e : (2 * b - a) * (2 * b - a) = 4 * (b * b - b * a - a * a) + 5 * (a * a) := by
    rw [Int.sub_mul, Int.mul_sub, Int.mul_sub, Int.mul_comm a (2 * b), Int.mul_assoc 2 b a, Int.mul_assoc 2 b (2 * b), Int.mul_left_comm b 2 b]; omega
  rw [e, h]
  split <;> omega

theorem sq_lt {x y : Int} (hy : 0 ≤ y) (h : x * x < y * y) : x < y := by
  apply Classical.byContradiction
  intro hn
  have h1 : y ≤ x := by omega
  have := Int.mul_le_mul h1 h1 hy (by omega)
  omega

/-- every solution is one of those -/
theorem golden : ∀ (n : Nat) (x y : Int), y ≤ n → 1 ≤ y → 0 ≤ x → (x * x = 5 * (y * y) + 4 ∨ x * x = 5 * (y * y) - 4) → ∃ k : Nat, 1 ≤ k ∧ y = fib k ∧ x = 2 * (fib (k + 1) : Int) - fib k
  | 0, x, y, h1, h2, _, _ => by omega
  | n + 1, x, y, h1, h2, h3, h4 => by
    by_cases hy : y = 1
    · subst hy
      have hx : x < 4 := sq_lt (by decide) (by omega)
      rcases (show x = 0 ∨ x = 1 ∨ x = 2 ∨ x = 3 by omega) with rfl | rfl | rfl | rfl
      · omega
      · exact ⟨1, by decide, by decide, by decide⟩
      · omega
      · exact ⟨2, by decide, by decide, by decide⟩
    · have y2 : 2 ≤ y := by omega
      have yy : 4 ≤ y * y := by have := Int.mul_le_mul y2 y2 (by decide) (by omega); omega
      have hxy : y < x := sq_lt h3 (by omega)
      have hx3 : x < 3 * y := sq_lt (by omega) (by
        have e : 3 * y * (3 * y) = 9 * (y * y) := by rw [Int.mul_assoc, Int.mul_left_comm y 3 y]; omega
        omega)
      -- x and y are alike modulo 2
      have hpar : ∃ u : Int, x = y + 2 * u := by
        have e1 : (x * x) % 2 = (y * y) % 2 := by omega
        refine ⟨(x - y) / 2, ?_⟩
        have : x % 2 = y % 2 := by
          rcases Int.emod_two_eq x with a | a <;> rcases Int.emod_two_eq y with b | b <;> rw [Int.mul_emod x x, Int.mul_emod y y, a, b] at e1 <;> omega
        omega
      obtain ⟨u, rfl⟩ := hpar
      -- y' = u, x' = 2 y - u
      have hu1 : 1 ≤ u := by omega
      have hu2 : u < y := by omega
      have e : (y + 2 * u) * (y + 2 * u) = y * y + 4 * (u * y) + 4 * (u * u) := by
        rw [Int.add_mul, Int.mul_add, Int.mul_add, Int.mul_comm y (2 * u), Int.mul_assoc 2 u y, Int.mul_assoc 2 u (2 * u), Int.mul_left_comm u 2 u]; omega
      have e' : (2 * y - u) * (2 * y - u) = 4 * (y * y) - 4 * (u * y) + u * u := by
        rw [Int.sub_mul, Int.mul_sub, Int.mul_sub, Int.mul_comm (2 * y) u, Int.mul_left_comm u 2 y, Int.mul_assoc 2 y (2 * y), Int.mul_left_comm y 2 y]; omega
      obtain ⟨k, k1, k2, k3⟩ := golden n (2 * y - u) u (by omega) hu1 (by omega) (by rw [e']; rw [e] at h4; rcases h4 with h | h <;> omega)
      refine ⟨k + 1, by omega, ?_, ?_⟩
      · omega
      · rw [fib_two]; push_cast; omega

/-- y is a y of a solution for 4 or for -4 -/
def solB (y : Nat) : Prop := ∃ x : Nat, x * x = 5 * (y * y) + 4 ∨ x * x + 4 = 5 * (y * y)

theorem solB_iff (y : Nat) (hy : 1 ≤ y) : solB y ↔ ∃ k, 1 ≤ k ∧ y = fib k := by
  constructor
  · rintro ⟨x, hx⟩
    obtain ⟨k, k1, k2, _⟩ := golden y x y (Int.le_refl _) (by omega) (by omega) (by
      rcases hx with h | h
      · left
        have : ((x * x : Nat) : Int) = ((5 * (y * y) + 4 : Nat) : Int) := by rw [h]
        push_cast at this; exact this
      · right
        have : ((x * x + 4 : Nat) : Int) = ((5 * (y * y) : Nat) : Int) := by rw [h]
        push_cast at this; omega)
    exact ⟨k, k1, by omega⟩
  · rintro ⟨k, k1, rfl⟩
    have h := fib_sol k
    have h0 : fib k ≤ 2 * fib (k + 1) := by have := fib_mono1 k; omega
    refine ⟨2 * fib (k + 1) - fib k, ?_⟩
    have e : ((2 * fib (k + 1) - fib k : Nat) : Int) = 2 * (fib (k + 1) : Int) - fib k := by omega
    generalize 2 * fib (k + 1) - fib k = x at *
    rw [← e] at h
    have e2 : ((x * x : Nat) : Int) = 5 * ((fib k * fib k : Nat) : Int) + if k % 2 = 0 then 4 else -4 := by push_cast; exact h
    split at e2 <;> omega

/-- the numeral of a number, the greatest index first -/
def encF : Nat → Nat → List Int
  | 0, _ => []
  | k + 1, n => if n = 0 then [] else if fib (k + 1) ≤ n then ((k + 1 : Nat) : Int) :: encF k (n - fib (k + 1)) else encF k n

theorem encF_zero (k : Nat) : encF k 0 = [] := by cases k <;> simp [encF]
/-- while the number is less than the next one the numeral comes to its end ahead of the index 1 -/
theorem encF_ne {k n : Nat} (hk : 2 ≤ k) (hn : 1 ≤ n) : encF k n ≠ [] := by
  induction k with
  | zero => omega
  | succ k ih =>
    rw [encF, if_neg (by omega)]
    split
    · simp
    · next h =>
      rcases Nat.lt_or_ge k 2 with h2 | h2
      · have : k = 1 := by omega
        subst this
        simp [fib] at h
        omega
      · exact ih h2
theorem encF_one : ∀ {k n : Nat}, 2 ≤ k → 1 ≤ n → n < fib (k + 1) → ((encF k n).length < 2 ↔ ∃ j, 1 ≤ j ∧ n = fib j)
  | 0, _, h, _, _ => by omega
  | 1, _, h, _, _ => by omega
  | k + 2, n, h, hn, hlt => by
    rw [encF, if_neg (by omega)]
    split
    · next hf =>
      have hle : n - fib (k + 1 + 1) < fib (k + 1) := by rw [show k + 2 + 1 = (k + 1) + 2 by omega, fib_two] at hlt; rw [show k + 1 + 1 = k + 2 by omega] at *; omega
      rw [List.length_cons]
      constructor
      · intro hl
        have h0 : encF (k + 1) (n - fib (k + 1 + 1)) = [] := List.length_eq_zero_iff.1 (by omega)
        rcases Nat.eq_zero_or_pos (n - fib (k + 1 + 1)) with e | e
        · exact ⟨k + 1 + 1, by omega, by omega⟩
        · rcases Nat.lt_or_ge (k + 1) 2 with h2 | h2
          · have : k = 0 := by omega
            subst this
            have h0' : n - fib (0 + 1 + 1) < 1 := hle
            omega
          · exact absurd h0 (encF_ne h2 e)
      · rintro ⟨j, j1, rfl⟩
        have : fib j = fib (k + 1 + 1) := by
          rcases Nat.lt_or_ge j (k + 1 + 1) with h5 | h5
          · exact Nat.le_antisymm (fib_mono (by omega)) hf
          · rcases Nat.lt_or_eq_of_le h5 with h6 | h6
            · have := fib_mono (show k + 2 + 1 ≤ j by omega)
              omega
            · rw [h6]
        rw [this, Nat.sub_self, encF_zero]; decide
    · next hf =>
      have hf' : n < fib (k + 1 + 1) := by omega
      rcases Nat.lt_or_ge (k + 1) 2 with h2 | h2
      · have : k = 0 := by omega
        subst this
        simp [fib] at hf'
        omega
      · exact encF_one h2 hn hf'
end GhN
