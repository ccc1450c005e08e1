/- The symbol of a prime by the power of half of it: the walk of the reference's Legendre. -/
import Derived.Test.YtdombadhmaanfaaJc
import Derived.IntWalk
import Derived.BigQuiet
import Derived.Deep.QuietTactic
namespace Go.Proofs.Ytdombadhmaanfaa
open Go Go.RowKit GhN

theorem tmod_bd (a : Int) {n : Int} (hn : 0 < n) : -n < a.tmod n ∧ a.tmod n < n := by
  rcases Int.le_total 0 a with h | h
  · rw [Int.tmod_eq_emod_of_nonneg h]
    have := Int.emod_nonneg a (show n ≠ 0 by omega)
    have := Int.emod_lt_of_pos a hn
    omega
  · have h3 : a.tmod n = -((-a) % n) := by
      have := Int.neg_tmod (-a) n
      rw [Int.neg_neg] at this
      rw [this, Int.tmod_eq_emod_of_nonneg (by omega)]
    have := Int.emod_nonneg (-a) (show n ≠ 0 by omega)
    have := Int.emod_lt_of_pos (-a) hn
    omega

theorem bdN {B : Nat} {a w : World} (h : Below B a w) (n : Nat) : Below B a (w.drewN n) := ⟨h.os, h.tape, h.output, h.size, h.block⟩

theorem pow_odd {x y e p : Nat} (h : e % 2 = 1) : (x * y % p) * (y * y % p) ^ (e / 2) % p = x * y ^ e % p := by
  have he : e = 2 * (e / 2) + 1 := by omega
  conv => rhs; rw [he, Nat.pow_succ, Nat.pow_mul, Nat.pow_two]
  rw [Nat.mul_mod, Nat.mod_mod, ← Nat.pow_mod, ← Nat.mul_mod, Nat.mul_assoc, Nat.mul_comm y]
theorem pow_even {x y e p : Nat} (h : e % 2 ≠ 1) : x * (y * y % p) ^ (e / 2) % p = x * y ^ e % p := by
  have he : e = 2 * (e / 2) := by omega
  conv => rhs; rw [he, Nat.pow_mul, Nat.pow_two]
  rw [Nat.mul_mod, ← Nat.pow_mod, ← Nat.mul_mod]

theorem tmod_rest (a : Int) {p : Nat} (hp : 0 < p) : (a.tmod p + p).tmod p = a % (p : Int) := by
  have h1 : -(p : Int) < a.tmod p := (tmod_bd a (by omega)).1
  rw [Int.tmod_eq_emod_of_nonneg (by omega), Int.add_emod_right]
  have e := Int.tmod_add_mul_tdiv a p
  have h2 : a.tmod p = a + (p : Int) * (-(a.tdiv p)) := by rw [Int.mul_neg]; omega
  rw [h2, Int.add_mul_emod_self_left]

set_option maxRecDepth 100000 in
set_option maxHeartbeats 1000000 in
theorem legendre_any (a : Int) (p : Nat) (w : World) (hp : Pr p) (h2 : p % 2 = 1) (hpb : p ≤ 1000000000) :
    Calls Try.prog 59 #[.int .i64 a, .int .i64 (p : Int)] w fun e w' => e = .returned (.int .i64 (ji a p)) ∧ Below w.heap.size w w' := by
  have hp2 := hp.1
  have hr := tmod_rest a (p := p) (by omega)
  have hm0 := Int.emod_nonneg a (show (p : Int) ≠ 0 by omega)
  have hm1 := Int.emod_lt_of_pos a (show (0 : Int) < (p : Int) by omega)
  obtain ⟨Y0, hY⟩ : ∃ Y0 : Nat, a % (p : Int) = Y0 := ⟨(a % (p : Int)).toNat, by omega⟩
  have hL : (if Y0 ^ (p / 2) % p = p - 1 then (-1 : Int) else ((Y0 ^ (p / 2) % p : Nat) : Int)) = ji a p := by
    rw [legendre hp h2 Y0]
    unfold ji
    rw [hY, Int.toNat_natCast]
  have HL := Lib.hid hL
  rw [hY] at hr hm1
  obtain ⟨t1, t2⟩ := tmod_bd a (show (0 : Int) < (p : Int) by omega)
  have s1 : IntKind.i64.wrap (a.tmod p + p) = a.tmod p + p := IntWalk.i64_in _ (by omega)
  have hpe : ((p : Int) - 1) / 2 = ((p / 2 : Nat) : Int) := by omega
  have HPE := Lib.hid hpe
  clear hL hp h2 hY hpe hm0
  go_enter Try.func59, Try.ntmps59
  go_wp2_with fail
  go_quiet (fail)
  go_wp2_with fail
  try rw [HPE.out]
  go_loopw [5, 6, 7] (fun x y e wr => ∃ x' y' e' : Nat, x' < p ∧ y' < p ∧ e' ≤ p ∧ x = .int .i64 (x' : Int) ∧ y = .int .i64 (y' : Int) ∧ e = .int .i64 (e' : Int) ∧ Hid (x' * y' ^ e' % p = Y0 ^ (p / 2) % p) ∧ Below w.heap.size w wr) (fun _ _ e _ => (intOf e).toNat)
  case atStart => exact ⟨1, Y0, p / 2, by omega, by omega, by omega, rfl, rfl, rfl, Lib.hid (by rw [Nat.one_mul]), bdN (Below.refl _ _) _⟩
  case round =>
    obtain ⟨x, y, e, hx, hy, he, rfl, rfl, rfl, hinv, hb⟩ := hrel
    by_cases h0 : e = 0
    · subst h0
      have hxv : Y0 ^ (p / 2) % p = x := by rw [← hinv.out, Nat.pow_zero, Nat.mul_one, Nat.mod_eq_of_lt hx]
      have HX := Lib.hid hxv
      by_cases h1 : x = p - 1
      · have t1' : ((x : Int) == (p : Int) - 1) = true := by simp; omega
        have HE : Hid (ji a p = -1) := Lib.hid (by rw [← HL.out, hxv, if_pos h1])
        clear hxv h1
        go_wp2_with fail
        go_ret
        exact ⟨by rw [HE.out]; rfl, hb⟩
      · have t1' : ((x : Int) == (p : Int) - 1) = false := by simp; omega
        have HE : Hid (ji a p = (x : Int)) := Lib.hid (by rw [← HL.out, hxv, if_neg h1])
        clear hxv h1
        go_wp2_with fail
        go_ret
        exact ⟨by rw [HE.out]; rfl, hb⟩
    · have hp0 : (0 : Int) < (p : Int) := by omega
      have a1 : (x : Int) * (y : Int) ≤ 1000000000 * 1000000000 := Int.mul_le_mul (by omega) (by omega) (by omega) (by omega)
      have a2 : 0 ≤ (x : Int) * (y : Int) := Int.mul_nonneg (by omega) (by omega)
      have b1 : (y : Int) * (y : Int) ≤ 1000000000 * 1000000000 := Int.mul_le_mul (by omega) (by omega) (by omega) (by omega)
      have b2 : 0 ≤ (y : Int) * (y : Int) := Int.mul_nonneg (by omega) (by omega)
      have e1 : (x : Int) * (y : Int) % (p : Int) = ((x * y % p : Nat) : Int) := by rw [Int.natCast_emod, Int.natCast_mul]
      have e2 : (y : Int) * (y : Int) % (p : Int) = ((y * y % p : Nat) : Int) := by rw [Int.natCast_emod, Int.natCast_mul]
      have l1 : x * y % p < p := Nat.mod_lt _ (by omega)
      have l2 : y * y % p < p := Nat.mod_lt _ (by omega)
      by_cases h1 : e % 2 = 1
      · have t1' : ((e : Int) % 2 == 1) = true := by simp; omega
        have HI2 : Hid ((x * y % p) * (y * y % p) ^ (e / 2) % p = Y0 ^ (p / 2) % p) := Lib.hid (by rw [pow_odd h1, hinv.out])
        obtain ⟨X2, hX2⟩ : ∃ X2, x * y % p = X2 := ⟨_, rfl⟩
        obtain ⟨Y2, hY2⟩ : ∃ Y2, y * y % p = Y2 := ⟨_, rfl⟩
        rw [hX2] at e1 l1 HI2
        rw [hY2] at e2 l2 HI2
        clear h1 hX2 hY2
        go_wp2_with fail
        go_roundw
        case rel => exact ⟨X2, Y2, e / 2, l1, l2, by omega, by first | rfl | rw [e1], by first | rfl | rw [e2], by go_num, HI2, hb⟩
        case measure => simp [intOf]; omega
      · have t1' : ((e : Int) % 2 == 1) = false := by simp; omega
        have HI2 : Hid (x * (y * y % p) ^ (e / 2) % p = Y0 ^ (p / 2) % p) := Lib.hid (by rw [pow_even h1, hinv.out])
        obtain ⟨Y2, hY2⟩ : ∃ Y2, y * y % p = Y2 := ⟨_, rfl⟩
        rw [hY2] at e2 l2 HI2
        clear h1 hY2
        go_wp2_with fail
        go_roundw
        case rel => exact ⟨x, Y2, e / 2, hx, l2, by omega, rfl, by first | rfl | rw [e2], by go_num, HI2, hb⟩
        case measure => simp [intOf]; omega

end Go.Proofs.Ytdombadhmaanfaa
