/- Congruences: two of them have a common number exactly if the greatest common factor of their moduli divides the difference; what is so below the whole is so everywhere. Plain mathematics. -/
namespace GhC

theorem bezout (a b : Nat) : ∃ u v : Int, ((Nat.gcd a b : Nat) : Int) = a * u + b * v := by
  induction a, b using Nat.gcd.induction with
  | H0 n => exact ⟨0, 1, by simp⟩
  | H1 m n hm ih =>
    obtain ⟨u, v, h⟩ := ih
    refine ⟨v - (n / m : Nat) * u, u, ?_⟩
    rw [Nat.gcd_rec, h]
    have hd : (n : Int) = (m : Int) * ((n / m : Nat) : Int) + ((n % m : Nat) : Int) := by
      rw [← Int.natCast_mul, ← Int.natCast_add, Nat.div_add_mod]
    have e1 : (m : Int) * (v - ((n / m : Nat) : Int) * u) = m * v - (m * ((n / m : Nat) : Int)) * u := by
      rw [Int.mul_sub, Int.mul_assoc]
    have e2 : (n : Int) * u = (m * ((n / m : Nat) : Int)) * u + ((n % m : Nat) : Int) * u := by
      rw [← Int.add_mul, ← hd]
    rw [e1, e2]; omega

/-- a common number of two congruences -/
theorem crt {m l : Nat} {x y : Int} (h : (x - y) % ((Nat.gcd m l : Nat) : Int) = 0) : ∃ n : Int, (n - x) % (m : Int) = 0 ∧ (n - y) % (l : Int) = 0 := by
  obtain ⟨u, v, hb⟩ := bezout m l
  obtain ⟨q, hq⟩ := Int.dvd_of_emod_eq_zero h
  refine ⟨x - m * (u * q), ?_, ?_⟩
  · have : x - m * (u * q) - x = m * (-(u * q)) := by rw [Int.mul_neg]; omega
    rw [this]; exact Int.mul_emod_right _ _
  · have e : x - m * (u * q) - y = l * (v * q) := by
      have h1 : x - y = (m * u + l * v) * q := by rw [hq, hb]
      rw [Int.add_mul, Int.mul_assoc, Int.mul_assoc] at h1
      omega
    rw [e]; exact Int.mul_emod_right _ _

theorem crt_back {m l : Nat} {x y n : Int} (h1 : (n - x) % (m : Int) = 0) (h2 : (n - y) % (l : Int) = 0) : (x - y) % ((Nat.gcd m l : Nat) : Int) = 0 := by
  have d1 : ((Nat.gcd m l : Nat) : Int) ∣ n - x := Int.dvd_trans (Int.natCast_dvd_natCast.2 (Nat.gcd_dvd_left _ _)) (Int.dvd_of_emod_eq_zero h1)
  have d2 : ((Nat.gcd m l : Nat) : Int) ∣ n - y := Int.dvd_trans (Int.natCast_dvd_natCast.2 (Nat.gcd_dvd_right _ _)) (Int.dvd_of_emod_eq_zero h2)
  have := Int.dvd_sub d2 d1
  have e : n - y - (n - x) = x - y := by omega
  rw [e] at this
  exact Int.emod_eq_zero_of_dvd this

/-- a number and its rest modulo a multiple of the modulus -/
theorem cong_rest {n x m W : Int} (h : m ∣ W) : (n % W - x) % m = (n - x) % m := by
  rw [Int.sub_emod, Int.emod_emod_of_dvd _ h, ← Int.sub_emod]

end GhC
