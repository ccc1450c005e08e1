/- The reference's symbol: Legendre by a power, Jacobi prime by prime. -/
import Derived.Test.YtdombadhmaanfaaCr
import Derived.IntWalk
namespace Go.Proofs.Ytdombadhmaanfaa
open Go Go.RowKit GhN

theorem bdN {B : Nat} {a w : World} (h : Below B a w) (n : Nat) : Below B a (w.drewN n) := ⟨h.os, h.tape, h.output, h.size, h.block⟩

theorem pow_odd {x y e p : Nat} (h : e % 2 = 1) : (x * y % p) * (y * y % p) ^ (e / 2) % p = x * y ^ e % p := by
  have he : e = 2 * (e / 2) + 1 := by omega
  conv => rhs; rw [he, Nat.pow_succ, Nat.pow_mul, Nat.pow_two]
  rw [Nat.mul_mod, Nat.mod_mod, ← Nat.pow_mod, ← Nat.mul_mod, Nat.mul_assoc, Nat.mul_comm y]
theorem pow_even {x y e p : Nat} (h : e % 2 ≠ 1) : x * (y * y % p) ^ (e / 2) % p = x * y ^ e % p := by
  have he : e = 2 * (e / 2) := by omega
  conv => rhs; rw [he, Nat.pow_mul, Nat.pow_two]
  rw [Nat.mul_mod, ← Nat.pow_mod, ← Nat.mul_mod]

theorem tmod_rest (a : Int) {p : Nat} (hp : 0 < p) : (a.tmod p + p).tmod p = a % (p : Int) := by
  have h1 : -(p : Int) < a.tmod p := (tmod_bd a (by omega)).1
  rw [Int.tmod_eq_emod_of_nonneg (by omega), Int.add_emod_right]
  have e := Int.tmod_add_mul_tdiv a p
  have h2 : a.tmod p = a + (p : Int) * (-(a.tdiv p)) := by rw [Int.mul_neg]; omega
  rw [h2, Int.add_mul_emod_self_left]

set_option maxRecDepth 100000 in
set_option maxHeartbeats 1000000 in
theorem legendre_any (a : Int) (p : Nat) (w : World) (hp : Pr p) (h2 : p % 2 = 1) (hpb : p ≤ 1000000000) :
    Calls Try.prog 59 #[.int .i64 a, .int .i64 (p : Int)] w fun e w' => e = .returned (.int .i64 (ji a p)) ∧ Below w.heap.size w w' := by
  have hp2 := hp.1
  have hr := tmod_rest a (p := p) (by omega)
  have hm0 := Int.emod_nonneg a (show (p : Int) ≠ 0 by omega)
  have hm1 := Int.emod_lt_of_pos a (show (0 : Int) < (p : Int) by omega)
  obtain ⟨Y0, hY⟩ : ∃ Y0 : Nat, a % (p : Int) = Y0 := ⟨(a % (p : Int)).toNat, by omega⟩
  have hL : (if Y0 ^ (p / 2) % p = p - 1 then (-1 : Int) else ((Y0 ^ (p / 2) % p : Nat) : Int)) = ji a p := by
    rw [legendre hp h2 Y0]
    unfold ji
    rw [hY, Int.toNat_natCast]
  have HL := Lib.hid hL
  rw [hY] at hr hm1
  obtain ⟨t1, t2⟩ := tmod_bd a (show (0 : Int) < (p : Int) by omega)
  have s1 : IntKind.i64.wrap (a.tmod p + p) = a.tmod p + p := IntWalk.i64_in _ (by omega)
  have hpe : ((p : Int) - 1) / 2 = ((p / 2 : Nat) : Int) := by omega
  have HPE := Lib.hid hpe
  clear hL hp h2 hY hpe hm0
  go_enter Try.func59, Try.ntmps59
  go_wp2_with fail
  go_quiet (fail)
  go_wp2_with fail
  try rw [HPE.out]
  go_loopw [5, 6, 7] (fun x y e wr => ∃ x' y' e' : Nat, x' < p ∧ y' < p ∧ e' ≤ p ∧ x = .int .i64 (x' : Int) ∧ y = .int .i64 (y' : Int) ∧ e = .int .i64 (e' : Int) ∧ Hid (x' * y' ^ e' % p = Y0 ^ (p / 2) % p) ∧ Below w.heap.size w wr) (fun _ _ e _ => (intOf e).toNat)
  case atStart => exact ⟨1, Y0, p / 2, by omega, by omega, by omega, rfl, rfl, rfl, Lib.hid (by rw [Nat.one_mul]), bdN (Below.refl _ _) _⟩
  case round =>
    obtain ⟨x, y, e, hx, hy, he, rfl, rfl, rfl, hinv, hb⟩ := hrel
    by_cases h0 : e = 0
    · subst h0
      have hxv : Y0 ^ (p / 2) % p = x := by rw [← hinv.out, Nat.pow_zero, Nat.mul_one, Nat.mod_eq_of_lt hx]
      have HX := Lib.hid hxv
      by_cases h1 : x = p - 1
      · have t1' : ((x : Int) == (p : Int) - 1) = true := by simp; omega
        have HE : Hid (ji a p = -1) := Lib.hid (by rw [← HL.out, hxv, if_pos h1])
        clear hxv h1
        go_wp2_with fail
        go_ret
        exact ⟨by rw [HE.out]; rfl, hb⟩
      · have t1' : ((x : Int) == (p : Int) - 1) = false := by simp; omega
        have HE : Hid (ji a p = (x : Int)) := Lib.hid (by rw [← HL.out, hxv, if_neg h1])
        clear hxv h1
        go_wp2_with fail
        go_ret
        exact ⟨by rw [HE.out]; rfl, hb⟩
    · have hp0 : (0 : Int) < (p : Int) := by omega
      have a1 : (x : Int) * (y : Int) ≤ 1000000000 * 1000000000 := Int.mul_le_mul (by omega) (by omega) (by omega) (by omega)
      have a2 : 0 ≤ (x : Int) * (y : Int) := Int.mul_nonneg (by omega) (by omega)
      have b1 : (y : Int) * (y : Int) ≤ 1000000000 * 1000000000 := Int.mul_le_mul (by omega) (by omega) (by omega) (by omega)
      have b2 : 0 ≤ (y : Int) * (y : Int) := Int.mul_nonneg (by omega) (by omega)
      have e1 : (x : Int) * (y : Int) % (p : Int) = ((x * y % p : Nat) : Int) := by rw [Int.natCast_emod, Int.natCast_mul]
      have e2 : (y : Int) * (y : Int) % (p : Int) = ((y * y % p : Nat) : Int) := by rw [Int.natCast_emod, Int.natCast_mul]
      have l1 : x * y % p < p := Nat.mod_lt _ (by omega)
      have l2 : y * y % p < p := Nat.mod_lt _ (by omega)
      by_cases h1 : e % 2 = 1
      · have t1' : ((e : Int) % 2 == 1) = true := by simp; omega
        have HI2 : Hid ((x * y % p) * (y * y % p) ^ (e / 2) % p = Y0 ^ (p / 2) % p) := Lib.hid (by rw [pow_odd h1, hinv.out])
        obtain ⟨X2, hX2⟩ : ∃ X2, x * y % p = X2 := ⟨_, rfl⟩
        obtain ⟨Y2, hY2⟩ : ∃ Y2, y * y % p = Y2 := ⟨_, rfl⟩
        rw [hX2] at e1 l1 HI2
        rw [hY2] at e2 l2 HI2
        clear h1 hX2 hY2
        go_wp2_with fail
        go_roundw
        case rel => exact ⟨X2, Y2, e / 2, l1, l2, by omega, by first | rfl | rw [e1], by first | rfl | rw [e2], by go_num, HI2, hb⟩
        case measure => simp [intOf]; omega
      · have t1' : ((e : Int) % 2 == 1) = false := by simp; omega
        have HI2 : Hid (x * (y * y % p) ^ (e / 2) % p = Y0 ^ (p / 2) % p) := Lib.hid (by rw [pow_even h1, hinv.out])
        obtain ⟨Y2, hY2⟩ : ∃ Y2, y * y % p = Y2 := ⟨_, rfl⟩
        rw [hY2] at e2 l2 HI2
        clear h1 hY2
        go_wp2_with fail
        go_roundw
        case rel => exact ⟨x, Y2, e / 2, hx, l2, by omega, rfl, by first | rfl | rw [e2], by go_num, HI2, hb⟩
        case measure => simp [intOf]; omega

theorem nodiv_ge {n p : Nat} (hn : 2 ≤ n) (h : ∀ d, 2 ≤ d → d < p → n % d ≠ 0) : p ≤ n := by
  apply Classical.byContradiction
  intro g
  exact h n hn (by omega) (Nat.mod_self n)
theorem nodiv_div {n p q : Nat} (hd : n % q = 0) (h : ∀ d, 2 ≤ d → d < p → n % d ≠ 0) : ∀ d, 2 ≤ d → d < p → n / q % d ≠ 0 := by
  intro d h2 hp hz
  have h1 : n = q * (n / q) := (Nat.mul_div_cancel' (Nat.dvd_of_mod_eq_zero hd)).symm
  apply h d h2 hp
  rw [h1]
  exact Nat.mod_eq_zero_of_dvd (Nat.dvd_trans (Nat.dvd_of_mod_eq_zero hz) (Nat.dvd_mul_left _ _))
theorem odd_div {n q : Nat} (hn : n % 2 = 1) (hd : n % q = 0) : n / q % 2 = 1 ∧ q % 2 = 1 := by
  have h1 : n = q * (n / q) := (Nat.mul_div_cancel' (Nat.dvd_of_mod_eq_zero hd)).symm
  rw [h1, Nat.mul_mod] at hn
  have a : n / q % 2 < 2 := Nat.mod_lt _ (by omega)
  have b : q % 2 < 2 := Nat.mod_lt _ (by omega)
  have a' : n / q % 2 = 0 ∨ n / q % 2 = 1 := by omega
  have b' : q % 2 = 0 ∨ q % 2 = 1 := by omega
  rcases a' with a' | a' <;> rcases b' with b' | b' <;> rw [a', b'] at hn <;> simp at hn
  exact ⟨a', b'⟩

set_option maxRecDepth 100000 in
set_option maxHeartbeats 2000000 in
theorem rjacobi_any (a n0 : Int) (w : World) (hv : validB a n0 = true) :
    Calls Try.prog 29 #[.int .i64 a, .int .i64 n0] w fun e w' => e = .returned (.int .i64 (jz a n0)) ∧ Below w.heap.size w w' := by
  obtain ⟨a1, a2, n1, n2, n3⟩ := validB_yes hv
  obtain ⟨N, rfl⟩ : ∃ N : Nat, n0 = N := ⟨n0.toNat, by omega⟩
  obtain ⟨J, hJ⟩ : ∃ J, jz a N = J := ⟨_, rfl⟩
  have HJ : Hid (ji a N = J) := Lib.hid (by rw [← hJ]; unfold jz; rw [Int.toNat_natCast])
  have hNo : N % 2 = 1 := by omega
  rw [hJ]
  clear hv hJ n3
  go_enter Try.func29, Try.ntmps29
  go_wp2_with fail
  go_loopw [1, 5, 6] (fun n o p wr => ∃ n' p' : Nat, ∃ o' : Int, n = .int .i64 (n' : Int) ∧ o = .int .i64 o' ∧ p = .int .i64 (p' : Int) ∧ -1 ≤ o' ∧ o' ≤ 1 ∧ 1 ≤ n' ∧ n' ≤ N ∧ n' % 2 = 1 ∧ p' % 2 = 1 ∧ 3 ≤ p' ∧ Hid (∀ d, 2 ≤ d → d < p' → n' % d ≠ 0) ∧ Hid (o' * ji a n' = J) ∧ Below w.heap.size w wr) (fun n _ p _ => 2 * (intOf n).toNat - (intOf p).toNat)
  case atStart =>
    have h0 : ∀ d, 2 ≤ d → d < 3 → N % d ≠ 0 := fun d h1 h2 => by
      obtain rfl : d = 2 := by omega
      omega
    exact ⟨N, 3, 1, rfl, rfl, rfl, by omega, by omega, by omega, by omega, hNo, by omega, by omega, Lib.hid h0, Lib.hid (by rw [HJ.out, Int.one_mul]), Below.refl _ _⟩
  case round =>
    obtain ⟨n, p, o, rfl, rfl, rfl, o1, o2, hn1, hnN, hno, hpo, hp3, hnd, hinv, hb⟩ := hrel
    obtain ⟨wo, hwo⟩ : ∃ wo : World, wo = wr := ⟨_, rfl⟩
    subst hwo
    by_cases hn : n = 1
    · subst hn
      have HE : Hid (o = J) := Lib.hid (by have := hinv.out; rwa [ji_one, Int.mul_one] at this)
      go_wp2_with fail
      go_ret
      exact ⟨by rw [← HE.out]; rfl, hb⟩
    · have dn : decide ((1 : Int) < (n : Int)) = true := decide_eq_true (by omega)
      have hpn : p ≤ n := nodiv_ge (by omega) hnd.out
      have q1 : (p : Int) * (p : Int) ≤ 1000000000 * 1000000000 := Int.mul_le_mul (by omega) (by omega) (by omega) (by omega)
      have q2 : 0 ≤ (p : Int) * (p : Int) := Int.mul_nonneg (by omega) (by omega)
      have qc : (p : Int) * (p : Int) = ((p * p : Nat) : Int) := (Int.natCast_mul _ _).symm
      by_cases hpp : n < p * p
      · have q3 : (n : Int) < (p : Int) * (p : Int) := by rw [qc]; omega
        have HPR : Hid (Pr n) := Lib.hid (prime_of_nodiv (by omega) hnd.out hpp)
        clear qc hpp
        go_wp2_with fail
        have HND0 : Hid (∀ d, 2 ≤ d → d < n → n % d ≠ 0) := Lib.hid (fun d h1 h2 => HPR.out.nodiv h1 h2)
        go_loopw [1, 5] (fun n' o' wr => ∃ n2 : Nat, ∃ o2 : Int, n' = .int .i64 (n2 : Int) ∧ o' = .int .i64 o2 ∧ -1 ≤ o2 ∧ o2 ≤ 1 ∧ 1 ≤ n2 ∧ n2 ≤ n ∧ n2 % 2 = 1 ∧ Hid (∀ d, 2 ≤ d → d < n → n2 % d ≠ 0) ∧ Hid (o2 * ji a n2 = J) ∧ Below w.heap.size w wr) (fun n' _ _ => (intOf n').toNat)
        case atStart => exact ⟨n, o, rfl, rfl, o1, o2, hn1, Nat.le_refl _, hno, HND0, hinv, hb⟩
        case round =>
          obtain ⟨n2, o2, rfl, rfl, oo1, oo2, hm1, hmn, hmo, hmd, hmi, hb2⟩ := hrel
          have hPi : (3 : Int) ≤ (n : Int) := by omega
          by_cases hz : n2 % n = 0
          · have t1 : ((n2 : Int) % (n : Int) == 0) = true := by
              have : (n2 : Int) % (n : Int) = ((n2 % n : Nat) : Int) := (Int.natCast_emod _ _).symm
              rw [this, hz]; rfl
            have Hn : Hid (Pr n) := Lib.hid (prime_div (by omega) hmd.out hz)
            obtain ⟨od1, od2⟩ := odd_div hmo hz
            have HO2 := Lib.hid od2
            have hdl : n2 / n < n2 := Nat.div_lt_self (by omega) (by omega)
            have hd1 : 1 ≤ n2 / n := Nat.div_pos (Nat.le_of_dvd (by omega) (Nat.dvd_of_mod_eq_zero hz)) (by omega)
            have hdc : (n2 : Int) / (n : Int) = ((n2 / n : Nat) : Int) := (Int.natCast_ediv _ _).symm
            have HND2 := Lib.hid (nodiv_div hz hmd.out)
            have hji : ji a n2 = ji a n * ji a (n2 / n) := by
              have h1 : n2 = n * (n2 / n) := (Nat.mul_div_cancel' (Nat.dvd_of_mod_eq_zero hz)).symm
              conv => lhs; rw [h1]
              exact ji_mul_lower a od2 od1
            have hlc := ji_cases a n
            obtain ⟨Lg, hLg⟩ : ∃ Lg, ji a n = Lg := ⟨_, rfl⟩
            have HLG := Lib.hid hLg
            rw [hLg] at hlc hji
            have hp : -1 ≤ o2 * Lg ∧ o2 * Lg ≤ 1 := by
              rcases hlc with h | h | h <;> rw [h] <;> omega
            obtain ⟨pq1, pq2⟩ := hp
            have HMI2 : Hid (o2 * Lg * ji a (n2 / n) = J) := Lib.hid (by rw [Int.mul_assoc, ← hji, hmi.out])
            obtain ⟨D, hD⟩ : ∃ D, n2 / n = D := ⟨_, rfl⟩
            rw [hD] at hdc hd1 hdl od1 HND2 HMI2
            clear hz od2 hji hlc hLg hD
            go_wp2_with fail
            refine (legendre_any a n wr Hn.out HO2.out (by omega)).mono ?_; rw [HLG.out]; rintro e w3 ⟨rfl, hb3⟩
            go_wp2_with fail
            go_roundw
            case rel => exact ⟨D, o2 * Lg, by first | rfl | rw [hdc], rfl, pq1, pq2, hd1, by omega, od1, HND2, HMI2, bt hb2 hb3⟩
            case measure => simp [intOf]; omega
          · have t1 : ((n2 : Int) % (n : Int) == 0) = false := by
              have : (n2 : Int) % (n : Int) = ((n2 % n : Nat) : Int) := (Int.natCast_emod _ _).symm
              rw [this]; simp; omega
            have HND3 : Hid (∀ d, 2 ≤ d → d < n + 2 → n2 % d ≠ 0) := Lib.hid (fun d h1 h2 hc => by
              by_cases e1 : d < n
              · exact hmd.out d h1 e1 hc
              · by_cases e2 : d = n
                · subst e2; exact hz hc
                · have e3 : d = n + 1 := by omega
                  have := (odd_div hmo hc).2
                  omega)
            clear hz
            go_wp2_with fail
            go_roundw
            case rel => exact ⟨n2, n + 2, o2, rfl, rfl, by go_num, oo1, oo2, hm1, by omega, hmo, by omega, by omega, HND3, hmi, hb2⟩
            case measure => simp [intOf]; omega
      · have q3 : ¬ (n : Int) < (p : Int) * (p : Int) := by rw [qc]; omega
        clear qc
        go_wp2_with fail
        have HND0 := hnd
        go_loopw [1, 5] (fun n' o' wr => ∃ n2 : Nat, ∃ o2 : Int, n' = .int .i64 (n2 : Int) ∧ o' = .int .i64 o2 ∧ -1 ≤ o2 ∧ o2 ≤ 1 ∧ 1 ≤ n2 ∧ n2 ≤ n ∧ n2 % 2 = 1 ∧ Hid (∀ d, 2 ≤ d → d < p → n2 % d ≠ 0) ∧ Hid (o2 * ji a n2 = J) ∧ Below w.heap.size w wr) (fun n' _ _ => (intOf n').toNat)
        case atStart => exact ⟨n, o, rfl, rfl, o1, o2, hn1, Nat.le_refl _, hno, HND0, hinv, hb⟩
        case round =>
          obtain ⟨n2, o2, rfl, rfl, oo1, oo2, hm1, hmn, hmo, hmd, hmi, hb2⟩ := hrel
          have hPi : (3 : Int) ≤ (p : Int) := by omega
          by_cases hz : n2 % p = 0
          · have t1 : ((n2 : Int) % (p : Int) == 0) = true := by
              have : (n2 : Int) % (p : Int) = ((n2 % p : Nat) : Int) := (Int.natCast_emod _ _).symm
              rw [this, hz]; rfl
            have Hp : Hid (Pr p) := Lib.hid (prime_div (by omega) hmd.out hz)
            obtain ⟨od1, od2⟩ := odd_div hmo hz
            have HO2 := Lib.hid od2
            have hdl : n2 / p < n2 := Nat.div_lt_self (by omega) (by omega)
            have hd1 : 1 ≤ n2 / p := Nat.div_pos (Nat.le_of_dvd (by omega) (Nat.dvd_of_mod_eq_zero hz)) (by omega)
            have hdc : (n2 : Int) / (p : Int) = ((n2 / p : Nat) : Int) := (Int.natCast_ediv _ _).symm
            have HND2 := Lib.hid (nodiv_div hz hmd.out)
            have hji : ji a n2 = ji a p * ji a (n2 / p) := by
              have h1 : n2 = p * (n2 / p) := (Nat.mul_div_cancel' (Nat.dvd_of_mod_eq_zero hz)).symm
              conv => lhs; rw [h1]
              exact ji_mul_lower a od2 od1
            have hlc := ji_cases a p
            obtain ⟨Lg, hLg⟩ : ∃ Lg, ji a p = Lg := ⟨_, rfl⟩
            have HLG := Lib.hid hLg
            rw [hLg] at hlc hji
            have hp : -1 ≤ o2 * Lg ∧ o2 * Lg ≤ 1 := by
              rcases hlc with h | h | h <;> rw [h] <;> omega
            obtain ⟨pq1, pq2⟩ := hp
            have HMI2 : Hid (o2 * Lg * ji a (n2 / p) = J) := Lib.hid (by rw [Int.mul_assoc, ← hji, hmi.out])
            obtain ⟨D, hD⟩ : ∃ D, n2 / p = D := ⟨_, rfl⟩
            rw [hD] at hdc hd1 hdl od1 HND2 HMI2
            clear hz od2 hji hlc hLg hD
            go_wp2_with fail
            refine (legendre_any a p wr Hp.out HO2.out (by omega)).mono ?_; rw [HLG.out]; rintro e w3 ⟨rfl, hb3⟩
            go_wp2_with fail
            go_roundw
            case rel => exact ⟨D, o2 * Lg, by first | rfl | rw [hdc], rfl, pq1, pq2, hd1, by omega, od1, HND2, HMI2, bt hb2 hb3⟩
            case measure => simp [intOf]; omega
          · have t1 : ((n2 : Int) % (p : Int) == 0) = false := by
              have : (n2 : Int) % (p : Int) = ((n2 % p : Nat) : Int) := (Int.natCast_emod _ _).symm
              rw [this]; simp; omega
            have HND3 : Hid (∀ d, 2 ≤ d → d < p + 2 → n2 % d ≠ 0) := Lib.hid (fun d h1 h2 hc => by
              by_cases e1 : d < p
              · exact hmd.out d h1 e1 hc
              · by_cases e2 : d = p
                · subst e2; exact hz hc
                · have e3 : d = p + 1 := by omega
                  have := (odd_div hmo hc).2
                  omega)
            clear hz
            go_wp2_with fail
            go_roundw
            case rel => exact ⟨n2, p + 2, o2, rfl, rfl, by go_num, oo1, oo2, hm1, by omega, hmo, by omega, by omega, HND3, hmi, hb2⟩
            case measure => simp [intOf]; omega
end Go.Proofs.Ytdombadhmaanfaa
