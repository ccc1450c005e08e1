/- SumsSigns: the reference's gcd, Turns, Sign and Points; the walk of the law. -/
import Derived.Test.YtdombadhmaanfaaLa
namespace Go.Proofs.Ytdombadhmaanfaa
open Go Go.RowKit GhN

theorem bt2 {a b c : World} (h : Below a.heap.size a b) (k : Below b.heap.size b c) : Below a.heap.size a c := h.trans (k.mono h.size)

theorem rgcd_any (a b : Nat) (w : World) (ha : a ≤ 4000000000000000000) (hb : b ≤ 4000000000000000000) :
    Calls Try.prog 60 #[.int .i64 (a : Int), .int .i64 (b : Int)] w fun e w' => e = .returned (.int .i64 ((Nat.gcd a b : Nat) : Int)) ∧ Below w.heap.size w w' := by
  go_enter Try.func60, Try.ntmps60
  go_wp2
  go_loopw [0, 1] (fun x y wr => ∃ c d : Nat, c ≤ 4000000000000000000 ∧ d ≤ 4000000000000000000 ∧ Hid (Nat.gcd c d = Nat.gcd a b) ∧ x = .int .i64 (c : Int) ∧ y = .int .i64 (d : Int) ∧ Below w.heap.size w wr) (fun _ y _ => (intOf y).toNat)
  case atStart => exact ⟨a, b, ha, hb, rfl, rfl, rfl, Below.refl _ _⟩
  case round =>
    obtain ⟨c, d, hc, hd, hg, rfl, rfl, hbl⟩ := hrel
    by_cases h0 : d = 0
    · subst h0
      have HG : Hid (c = Nat.gcd a b) := Lib.hid (by have := hg.out; rwa [Nat.gcd_zero_right] at this)
      go_wp2
      all_goals
        go_ret
        refine ⟨?_, hbl⟩
        rw [← HG.out]
        try rfl
    · have h1 : ((d : Int) == 0) = false := by simp; omega
      have h2 : (c : Int) % (d : Int) = ((c % d : Nat) : Int) := by omega
      have h3 : c % d < d := Nat.mod_lt _ (by omega)
      have H2 := Lib.hid h2
      clear h2
      go_wp2
      go_region
      go_wp2
      go_roundw
      case rel => exact ⟨d, c % d, hd, by omega, Lib.hid (by rw [← hg.out, Nat.gcd_comm d, ← Nat.gcd_rec, Nat.gcd_comm]), rfl, by rw [H2.out], hbl.drew⟩
      case measure => have := H2.out; simp [intOf]; omega

def rtuB (n t : Nat) : Bool := decide (1 ≤ t ∧ t ≤ n ∧ Nat.gcd t n = 1)

theorem rturns_any (n t : Nat) (w : World) (hn : n ≤ 200) :
    Calls Try.prog 34 #[.int .i64 (n : Int), .int .i64 (t : Int)] w fun e w' => e = .returned (.bool (rtuB n t)) ∧ Below w.heap.size w w' := by
  by_cases h1 : 1 ≤ t
  · by_cases h2 : t ≤ n
    · by_cases h3 : Nat.gcd t n = 1
      · have HB : Hid (rtuB n t = true) := Lib.hid (decide_eq_true ⟨h1, h2, h3⟩)
        have t1 : (((Nat.gcd t n : Nat) : Int) == 1) = true := by rw [h3]; rfl
        clear h3
        go_enter Try.func34, Try.ntmps34
        go_wp2_with fail
        refine (rgcd_any t n _ (by omega) (by omega)).mono ?_; rintro e w1 ⟨rfl, hb⟩
        go_wp2_with fail
        go_ret
        exact ⟨by rw [HB.out]; rfl, hb⟩
      · have HB : Hid (rtuB n t = false) := Lib.hid (decide_eq_false (fun h => h3 h.2.2))
        have t1 : (((Nat.gcd t n : Nat) : Int) == 1) = false := by simp; omega
        clear h3
        go_enter Try.func34, Try.ntmps34
        go_wp2_with fail
        refine (rgcd_any t n _ (by omega) (by omega)).mono ?_; rintro e w1 ⟨rfl, hb⟩
        go_wp2_with fail
        go_ret
        exact ⟨by rw [HB.out]; rfl, hb⟩
    · have HB : Hid (rtuB n t = false) := Lib.hid (decide_eq_false (fun h => h2 h.2.1))
      go_enter Try.func34, Try.ntmps34
      go_wp2_with fail
      go_ret
      exact ⟨by rw [HB.out]; rfl, Below.refl _ _⟩
  · have HB : Hid (rtuB n t = false) := Lib.hid (decide_eq_false (fun h => h1 h.1))
    go_enter Try.func34, Try.ntmps34
    go_wp2_with fail
    go_ret
    exact ⟨by rw [HB.out]; rfl, Below.refl _ _⟩

theorem rsign_any (a n : Nat) (w : World) (h1 : 1 ≤ n) (h2 : n ≤ 200) (h4 : a < n) :
    Calls Try.prog 35 #[.int .i64 (a : Int), .int .i64 (n : Int)] w fun e w' => e = .returned (.int .i64 (zs a n)) ∧ Below w.heap.size w w' := by
  go_enter Try.func35, Try.ntmps35
  go_wp2_with (fail)
  go_loopw [5, 9] (fun sg c wr => ∃ k : Nat, k ≤ n ∧ sg = .int .i64 (sgn (invk a n k)) ∧ c = .int .i64 (k : Int) ∧ Below w.heap.size w wr) (fun _ c _ => n - (intOf c).toNat)
  case atStart => exact ⟨0, by omega, rfl, rfl, Below.refl _ _⟩
  case round =>
    obtain ⟨k, hk, rfl, rfl, hbk⟩ := hrel
    obtain ⟨wo, hwo⟩ : ∃ wo : World, wo = wr := ⟨_, rfl⟩
    subst hwo
    by_cases hlt : k < n
    · go_wp2_with (fail)
      go_loopw [5, 13] (fun sg c wr => ∃ m : Nat, m ≤ k ∧ sg = .int .i64 (sgn (invk a n k + inrow a n k m)) ∧ c = .int .i64 (m : Int) ∧ Below w.heap.size w wr) (fun _ c _ => k - (intOf c).toNat)
      case atStart => exact ⟨0, by omega, rfl, rfl, hbk⟩
      case round =>
        obtain ⟨m, hm, rfl, rfl, hbm⟩ := hrel
        by_cases hlt2 : m < k
        · have q1 : 0 ≤ (a : Int) * m := Int.mul_nonneg (by omega) (by omega)
          have q2 : (a : Int) * m ≤ 40000 := by
            have : (a : Int) * m ≤ 200 * 200 := Int.mul_le_mul (by omega) (by omega) (by omega) (by omega)
            omega
          have q3 : 0 ≤ (a : Int) * k := Int.mul_nonneg (by omega) (by omega)
          have q4 : (a : Int) * k ≤ 40000 := by
            have : (a : Int) * k ≤ 200 * 200 := Int.mul_le_mul (by omega) (by omega) (by omega) (by omega)
            omega
          have hs := sgn_pm (invk a n k + inrow a n k m)
          obtain ⟨s1, s2⟩ := hs
          have hz : (((a * k % n : Nat) : Int) < ((a * m % n : Nat) : Int)) ↔ (a * k) % n < (a * m) % n := by omega
          by_cases hi : (a * k) % n < (a * m) % n
          · have hi2 : (a : Int) * k % n < (a : Int) * m % n := by have := hz.2 hi; simpa using this
            have HS : Hid (-sgn (invk a n k + inrow a n k m) = sgn (invk a n k + inrow a n k (m + 1))) := Lib.hid (by
              have : inrow a n k (m + 1) = inrow a n k m + 1 := by unfold inrow; simp only [sm]; rw [if_pos hi]
              rw [this, ← Nat.add_assoc, sgn_succ])
            clear hz hi
            go_wp2_with (fail)
            go_quiet (fail)
            go_wp2_with (fail)
            go_roundw
            case rel => exact ⟨m + 1, by omega, by rw [HS.out], by go_num, by exact ⟨hbm.os, hbm.tape, hbm.output, hbm.size, hbm.block⟩⟩
            case measure => simp [intOf]; omega
          · have hi2 : ¬ (a : Int) * k % n < (a : Int) * m % n := by have := fun h => hi (hz.1 h); simpa using this
            have HS : Hid (sgn (invk a n k + inrow a n k m) = sgn (invk a n k + inrow a n k (m + 1))) := Lib.hid (by
              have : inrow a n k (m + 1) = inrow a n k m := by unfold inrow; simp only [sm]; rw [if_neg hi]; rfl
              rw [this])
            clear hz hi
            go_wp2_with (fail)
            go_quiet (fail)
            go_wp2_with (fail)
            go_roundw
            case rel => exact ⟨m + 1, by omega, by rw [HS.out], by go_num, by exact ⟨hbm.os, hbm.tape, hbm.output, hbm.size, hbm.block⟩⟩
            case measure => simp [intOf]; omega
        · have e : m = k := by omega
          subst e
          go_wp2_with (fail)
          go_roundw
          case rel => exact ⟨m + 1, by omega, rfl, by go_num, hbm⟩
          case measure => simp [intOf]; omega
    · have e : k = n := by omega
      subst e
      go_wp2_with (fail)
      go_ret
      exact ⟨rfl, hbk⟩

/-- points below the line, one by one: of the first k columns, and of the first j of the next -/
def pin (p q k j : Nat) : Nat := sm (fun l => if p * (l + 1) < q * (k + 1) then 1 else 0) j
def pup (p q k : Nat) : Nat := sm (fun k => pin p q k (q / 2)) k
theorem pin_le (p q k j : Nat) : pin p q k j ≤ j := by
  unfold pin
  have := sm_le (f := fun l => if p * (l + 1) < q * (k + 1) then 1 else 0) (g := fun _ => 1) (m := j) (fun l _ => by split <;> omega)
  rwa [sm_one] at this
theorem pup_le (p q k : Nat) : pup p q k ≤ q / 2 * k := by
  unfold pup
  rw [← sm_const]
  exact sm_le (fun l _ => pin_le _ _ _ _)
theorem pup_fl {p q : Nat} (hp : p % 2 = 1) (hq : q % 2 = 1) (hc : Nat.gcd q p = 1) : pup p q (p / 2) = fl q p := (fl_count hp hq hc).symm

theorem rpoints_any (p q : Nat) (w : World) (hp : p ≤ 200) (hq : q ≤ 200) (hpo : p % 2 = 1) (hqo : q % 2 = 1) :
    Calls Try.prog 33 #[.int .i64 (p : Int), .int .i64 (q : Int)] w fun e w' => e = .returned (.int .i64 ((pup p q (p / 2) : Nat) : Int)) ∧ w = w' := by
  have HP := Lib.hid hpo
  have HQ := Lib.hid hqo
  clear hpo hqo
  go_enter Try.func33, Try.ntmps33
  go_wp2_with (fail)
  go_loop [5, 6] (fun o x => ∃ k : Nat, k ≤ p / 2 ∧ o = .int .i64 ((pup p q k : Nat) : Int) ∧ x = .int .i64 ((k + 1 : Nat) : Int)) (fun _ x => p - (intOf x).toNat)
  case atStart => exact ⟨0, by omega, rfl, rfl⟩
  case round =>
    obtain ⟨k, hk, rfl, rfl⟩ := hrel
    have hb := pup_le p q k
    have hb2 : q / 2 * k ≤ 100 * 100 := Nat.mul_le_mul (by omega) (by omega)
    by_cases hlt : 2 * (k + 1) < p
    · go_wp2_with (fail)
      go_loop [5, 7] (fun o y => ∃ j : Nat, j ≤ q / 2 ∧ o = .int .i64 ((pup p q k + pin p q k j : Nat) : Int) ∧ y = .int .i64 ((j + 1 : Nat) : Int)) (fun _ y => q - (intOf y).toNat)
      case atStart => exact ⟨0, by omega, rfl, rfl⟩
      case round =>
        obtain ⟨j, hj, rfl, rfl⟩ := hrel
        have hj2 := pin_le p q k j
        by_cases hlt2 : 2 * (j + 1) < q
        · have m1 : 0 ≤ (p : Int) * (j + 1) := Int.mul_nonneg (by omega) (by omega)
          have m2 : (p : Int) * (j + 1) ≤ 20200 := by
            have : (p : Int) * (j + 1) ≤ 200 * 101 := Int.mul_le_mul (by omega) (by omega) (by omega) (by omega)
            omega
          have m3 : 0 ≤ (q : Int) * (k + 1) := Int.mul_nonneg (by omega) (by omega)
          have m4 : (q : Int) * (k + 1) ≤ 20200 := by
            have : (q : Int) * (k + 1) ≤ 200 * 101 := Int.mul_le_mul (by omega) (by omega) (by omega) (by omega)
            omega
          have hz : ((p : Int) * (j + 1) < (q : Int) * (k + 1)) ↔ p * (j + 1) < q * (k + 1) := by
            have e1 : (p : Int) * (j + 1) = ((p * (j + 1) : Nat) : Int) := by rw [Int.natCast_mul]; rfl
            have e2 : (q : Int) * (k + 1) = ((q * (k + 1) : Nat) : Int) := by rw [Int.natCast_mul]; rfl
            rw [e1, e2]; omega
          by_cases hi : p * (j + 1) < q * (k + 1)
          · have hi2 := hz.2 hi
            have HS : Hid (pin p q k (j + 1) = pin p q k j + 1) := Lib.hid (by unfold pin; simp only [sm]; rw [if_pos hi])
            clear hz hi
            go_wp2_with (fail)
            go_round
            case rel => exact ⟨j + 1, by omega, by rw [HS.out]; go_num, by go_num⟩
            case measure => simp [intOf]; omega
          · have hi2 : ¬ (p : Int) * (j + 1) < (q : Int) * (k + 1) := fun h => hi (hz.1 h)
            have HS : Hid (pin p q k (j + 1) = pin p q k j) := Lib.hid (by unfold pin; simp only [sm]; rw [if_neg hi]; rfl)
            clear hz hi
            go_wp2_with (fail)
            go_round
            case rel => exact ⟨j + 1, by omega, by rw [HS.out], by go_num⟩
            case measure => simp [intOf]; omega
        · have e : j = q / 2 := by have := HQ.out; omega
          subst e
          have HS : Hid (pup p q (k + 1) = pup p q k + pin p q k (q / 2)) := Lib.hid (by unfold pup; simp only [sm])
          go_wp2_with (fail)
          go_round
          case rel => exact ⟨k + 1, by omega, by rw [HS.out], by go_num⟩
          case measure => simp [intOf]; omega
    · have : k = p / 2 := by have := HP.out; omega
      subst this
      go_wp2_with (fail)
      go_ret
      exact ⟨rfl, rfl⟩

theorem primes_cop2 {p q : Nat} (hp : Pr p) (hq : Pr q) (h : p ≠ q) : Nat.gcd q p = 1 := by
  refine hp.cop (fun e => ?_)
  rcases hq.2 p (Nat.dvd_of_mod_eq_zero e) with e1 | e1
  · have := hp.1; omega
  · exact h e1
end Go.Proofs.Ytdombadhmaanfaa
