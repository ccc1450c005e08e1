/- How many points a curve has: the prime and 1 and the symbols; its twist has those with the opposite symbols. -/
import Derived.Test.YtdombadhmaanfaaLeg
namespace GhN

/-- how many numbers below p have the square a -/
def sqs (p a : Nat) : Nat := sm (fun y => if (y * y) % p = a % p then 1 else 0) p
def smallP : List Nat := [5, 7, 11, 13, 17, 19, 23, 29, 31]
theorem sqs_all : ∀ p ∈ smallP, ∀ a, a < p → (sqs p a : Int) = 1 + jn a p := by decide +kernel
theorem smallP_iff : ∀ p, p < 32 → ((5 ≤ p ∧ ∀ d, d < p → 2 ≤ d → p % d ≠ 0) ↔ p ∈ smallP) := by decide +kernel
theorem smallP_bd : ∀ p ∈ smallP, 5 ≤ p ∧ p ≤ 31 ∧ p % 2 = 1 := by decide +kernel
theorem smallP_pr {p : Nat} (h : p ∈ smallP) : Pr p := by
  have hb := smallP_bd p h
  have h1 := ((smallP_iff p (by omega)).2 h).2
  refine ⟨by omega, fun d hd => ?_⟩
  have hle := Nat.le_of_dvd (by omega) hd
  have hd0 : 0 < d := Nat.pos_of_dvd_of_pos hd (by omega)
  rcases Nat.lt_or_ge d 2 with h2 | h2
  · exact .inl (by omega)
  · rcases Nat.lt_or_eq_of_le hle with h3 | h3
    · exact absurd (Nat.mod_eq_zero_of_dvd hd) (h1 d h3 h2)
    · exact .inr h3

theorem sqs_jn {p : Nat} (h : p ∈ smallP) (a : Nat) : (sqs p a : Int) = 1 + jn a p := by
  have hb := smallP_bd p h
  have h1 := sqs_all p h (a % p) (Nat.mod_lt _ (by omega))
  rw [jn_mod] at h1
  rw [← h1]
  unfold sqs
  rw [Nat.mod_mod]

/-- the polynomial of a curve -/
def cub (A B x : Nat) : Nat := x * x * x + A * x + B
/-- the points but the far one -/
def npt (p A B : Nat) : Nat := sm (fun x => sqs p (cub A B x)) p
/-- the sum of the symbols -/
def jsum (p A B : Nat) : Nat → Int
  | 0 => 0
  | n + 1 => jsum p A B n + jn (cub A B n) p

theorem npt_sum {p : Nat} (h : p ∈ smallP) (A B : Nat) : ∀ n, (sm (fun x => sqs p (cub A B x)) n : Int) = n + jsum p A B n
  | 0 => by simp [sm, jsum]
  | n + 1 => by
    rw [jsum, sm]
    push_cast
    rw [npt_sum h A B n, sqs_jn h]; omega
theorem npt_eq {p : Nat} (h : p ∈ smallP) (A B : Nat) : (npt p A B : Int) = p + jsum p A B p := npt_sum h A B p

theorem mm {n a b c d : Nat} (h : a % n = b % n) (k : c % n = d % n) : (a * c) % n = (b * d) % n := by rw [Nat.mul_mod, h, k, ← Nat.mul_mod]
theorem ma {n a b c d : Nat} (h : a % n = b % n) (k : c % n = d % n) : (a + c) % n = (b + d) % n := by rw [Nat.add_mod, h, k, ← Nat.add_mod]
theorem cub_twist {p A B u x : Nat} : cub (A * u * u % p) (B * u * u * u % p) (u * x % p) % p = (u * u * u) * cub A B x % p := by
  unfold cub
  have hx : u * x % p % p = u * x % p := Nat.mod_mod _ _
  have hA : A * u * u % p % p = A * u * u % p := Nat.mod_mod _ _
  have hB : B * u * u * u % p % p = B * u * u * u % p := Nat.mod_mod _ _
  rw [ma (ma (mm (mm hx hx) hx) (mm hA hx)) hB]
  congr 1
  rw [Nat.mul_add, Nat.mul_add]
  congr 1
  · congr 1
    · simp only [Nat.mul_comm, Nat.mul_left_comm]
    · simp only [Nat.mul_comm, Nat.mul_left_comm]
  · simp only [Nat.mul_comm, Nat.mul_left_comm]

/-- a curve and its twist have together twice the prime -/
theorem npt_twist {p A B u : Nat} (h : p ∈ smallP) (hu : jn u p = -1) : npt p A B + npt p (A * u * u % p) (B * u * u * u % p) = 2 * p := by
  have hb := smallP_bd p h
  have hc : Nat.gcd u p = 1 := by
    apply Classical.byContradiction
    intro hn
    have := (jn_zero_iff u p).2 hn
    omega
  have e : npt p (A * u * u % p) (B * u * u * u % p) = sm (fun x => sqs p (cub (A * u * u % p) (B * u * u * u % p) (u * x % p))) p :=
    (sm_inj (s := fun x => u * x % p) (fun k _ => Nat.mod_lt _ (by omega)) (fun k l hk hl e => eq_of_mul_mod hc hk hl e) (fun x => sqs p (cub (A * u * u % p) (B * u * u * u % p) x))).symm
  rw [e, npt, ← sm_add, ← sm_const 2 p]
  refine sm_congr (fun x _ => ?_)
  have h1 := sqs_jn h (cub A B x)
  have h2 := sqs_jn h (cub (A * u * u % p) (B * u * u * u % p) (u * x % p))
  rw [jn_congr (cub_twist (p := p) (A := A) (B := B) (u := u) (x := x)), jn_mul _ _ hb.2.2, jn_mul _ _ hb.2.2, jn_mul _ _ hb.2.2, hu] at h2
  have h3 : (-1 : Int) * -1 * -1 = -1 := by decide
  rw [h3] at h2
  omega

/-- the number that may not be divisible -/
def dsc (A B : Nat) : Nat := 4 * A * A * A + 27 * B * B
theorem dsc_twist {p A B u : Nat} (h : p ∈ smallP) (hu : jn u p = -1) (hd : dsc A B % p ≠ 0) : dsc (A * u * u % p) (B * u * u * u % p) % p ≠ 0 := by
  have hp := smallP_pr h
  have hb := smallP_bd p h
  have hu0 : u % p ≠ 0 := by
    intro e
    have := (jn_zero_iff u p).2 (hp.gcd_ne e)
    omega
  have e : dsc (A * u * u % p) (B * u * u * u % p) % p = (u * u * u * (u * u * u)) * dsc A B % p := by
    unfold dsc
    have hA : A * u * u % p % p = A * u * u % p := Nat.mod_mod _ _
    have hB : B * u * u * u % p % p = B * u * u * u % p := Nat.mod_mod _ _
    rw [ma (mm (mm (mm (rfl : 4 % p = 4 % p) hA) hA) hA) (mm (mm (rfl : 27 % p = 27 % p) hB) hB)]
    congr 1
    rw [Nat.mul_add]
    congr 1
    · simp only [Nat.mul_comm, Nat.mul_left_comm, Nat.mul_assoc]
    · simp only [Nat.mul_comm, Nat.mul_left_comm, Nat.mul_assoc]
  rw [e]
  intro h0
  rcases hp.dvd_mul h0 with h1 | h1
  · rcases hp.dvd_mul h1 with h2 | h2 <;> rcases hp.dvd_mul h2 with h3 | h3
    · rcases hp.dvd_mul h3 with h4 | h4 <;> exact hu0 h4
    · exact hu0 h3
    · rcases hp.dvd_mul h3 with h4 | h4 <;> exact hu0 h4
    · exact hu0 h3
  · exact hd h1
end GhN
