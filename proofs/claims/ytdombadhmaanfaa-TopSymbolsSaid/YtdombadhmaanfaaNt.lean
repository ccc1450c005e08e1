/- Walks of small functions on numbers: greatest common divisors, odd primes, points below a line, signs of orders, square roots. -/
import Derived.Test.YtdombadhmaanfaaJc
import Derived.Test.YtdombadhmaanfaaZol
namespace Go.Proofs.Ytdombadhmaanfaa
open Go Go.RowKit GhN

theorem sgcd_any (a b : Nat) (w : World) (ha : a ≤ 4000000000000000000) (hb : b ≤ 4000000000000000000) :
    Calls Try.prog 55 #[.int .i64 (a : Int), .int .i64 (b : Int)] w fun e w' => e = .returned (.int .i64 ((Nat.gcd a b : Nat) : Int)) ∧ Below w.heap.size w w' := by
  go_enter Try.func55, Try.ntmps55
  go_wp2
  go_loopw [0, 1] (fun x y wr => ∃ c d : Nat, c ≤ 4000000000000000000 ∧ d ≤ 4000000000000000000 ∧ Hid (Nat.gcd c d = Nat.gcd a b) ∧ x = .int .i64 (c : Int) ∧ y = .int .i64 (d : Int) ∧ Below w.heap.size w wr) (fun _ y _ => (intOf y).toNat)
  case atStart => exact ⟨a, b, ha, hb, rfl, rfl, rfl, Below.refl _ _⟩
  case round =>
    obtain ⟨c, d, hc, hd, hg, rfl, rfl, hbl⟩ := hrel
    by_cases h0 : d = 0
    · subst h0
      have HG : Hid (c = Nat.gcd a b) := Lib.hid (by have := hg.out; rwa [Nat.gcd_zero_right] at this)
      go_wp2
      all_goals
        go_ret
        refine ⟨?_, hbl⟩
        rw [← HG.out]
        try rfl
    · have h1 : ((d : Int) == 0) = false := by simp; omega
      have h2 : (c : Int) % (d : Int) = ((c % d : Nat) : Int) := by omega
      have h3 : c % d < d := Nat.mod_lt _ (by omega)
      have H2 := Lib.hid h2
      clear h2
      go_wp2
      go_region
      go_wp2
      go_roundw
      case rel => exact ⟨d, c % d, hd, by omega, Lib.hid (by rw [← hg.out, Nat.gcd_comm d, ← Nat.gcd_rec, Nat.gcd_comm]), rfl, by rw [H2.out], hbl.drew⟩
      case measure => have := H2.out; simp [intOf]; omega

/-- an odd prime up to m -/
noncomputable def opB (m x : Int) : Bool := decide (3 ≤ x ∧ x ≤ m) && prB x
theorem opB_yes {m x : Int} (h : opB m x = true) : 3 ≤ x ∧ x ≤ m ∧ Pr x.toNat := by
  unfold opB at h; rw [Bool.and_eq_true] at h
  have := of_decide_eq_true h.1
  exact ⟨this.1, this.2, prB_pr h.2⟩
theorem opB_mk {m x : Int} (h1 : 3 ≤ x) (h2 : x ≤ m) (h3 : Pr x.toNat) : opB m x = true := by
  unfold opB; rw [prB_yes h3, decide_eq_true ⟨h1, h2⟩]; rfl
theorem opB_eq {m x : Int} (h1 : 3 ≤ x) (h2 : x ≤ m) : opB m x = prB x := by
  unfold opB; rw [decide_eq_true ⟨h1, h2⟩]; rfl
theorem opB_no {m x : Int} (h : ¬ (3 ≤ x ∧ x ≤ m)) : opB m x = false := by
  unfold opB; rw [decide_eq_false h]; rfl
theorem opB_odd {m x : Int} (h : opB m x = true) : x.toNat % 2 = 1 := by
  obtain ⟨h1, _, h3⟩ := opB_yes h
  exact h3.odd (by omega)

set_option maxHeartbeats 400000 in
theorem rprime_any (n : Int) (w : World) :
    Calls Try.prog 16 #[.int .i64 n] w fun e w' => e = .returned (.bool (opB 10000 n)) ∧ w = w' := by
  by_cases h2 : n ≤ 10000
  · go_enter Try.func16, Try.ntmps16
    go_wp2
    go_loop [3] (fun d => ∃ k : Nat, 2 ≤ k ∧ k ≤ 101 ∧ Hid (NoDiv n k) ∧ d = .int .i64 k) (fun d => (101 - intOf d).toNat)
    case atStart => exact ⟨2, by omega, by omega, (fun d h h' => by omega), rfl⟩
    case round =>
      obtain ⟨k, hk2, hk, hN, rfl⟩ := hrel
      have hb : (k : Int) * k ≤ 10201 := by
        have : (k : Int) * k ≤ 101 * 101 := Int.mul_le_mul (by omega) (by omega) (by omega) (by omega)
        omega
      have hb0 : 4 ≤ (k : Int) * k := by
        have : (2 : Int) * 2 ≤ (k : Int) * k := Int.mul_le_mul (by omega) (by omega) (by omega) (by omega)
        omega
      by_cases h4 : (k : Int) * k ≤ n
      · by_cases h3 : n % (k : Int) = 0
        · have h5 : (n % (k : Int) == 0) = true := by simpa using h3
          have HF : Hid (opB 10000 n = false) := Lib.hid (by rw [opB_eq (by omega) h2]; exact noDiv_found hk2 h4 h3)
          clear h3
          go_wp2
          rw [HF.out]
          go_ret
          exact ⟨rfl, rfl⟩
        · have h5 : (n % (k : Int) == 0) = false := by simpa using h3
          have hk100 : k ≤ 100 := by
            apply Classical.byContradiction; intro h
            have : (101 : Int) * 101 ≤ (k : Int) * k := Int.mul_le_mul (by omega) (by omega) (by omega) (by omega)
            omega
          have HN := Lib.hid (noDiv_step hN.out (by omega) h3)
          clear h3
          go_wp2
          go_round
          case rel => exact ⟨k + 1, by omega, by omega, HN, by go_num⟩
          case measure => simp [intOf]; omega
      · have HE : Hid (decide (3 ≤ n ∧ n ≤ 10000) = opB 10000 n) := Lib.hid (by
          by_cases h3 : 3 ≤ n
          · rw [opB_eq h3 h2, ← noDiv_end hN.out (by omega), decide_eq_true ⟨h3, h2⟩, decide_eq_true (by omega)]
          · rw [opB_no (by omega), decide_eq_false (by omega)])
        by_cases h3 : 3 ≤ n
        · have HT : Hid (opB 10000 n = true) := Lib.hid (by rw [← HE.out]; exact decide_eq_true ⟨h3, h2⟩)
          go_wp2
          rw [HT.out]
          go_ret
          exact ⟨rfl, rfl⟩
        · have HT : Hid (opB 10000 n = false) := Lib.hid (by rw [← HE.out]; exact decide_eq_false (by omega))
          go_wp2
          rw [HT.out]
          go_ret
          exact ⟨rfl, rfl⟩
  · rw [opB_no (by omega)]
    go_enter Try.func16, Try.ntmps16
    go_wp2
    go_loop [3] (fun d => d = .int .i64 2) (fun _ => 0)
    case atStart => rfl
    case round =>
      subst hrel
      go_wp2
      go_ret
      exact ⟨rfl, rfl⟩

theorem field_any (n : Int) (w : World) (h1 : -9223372036854775808 ≤ n) :
    Calls Try.prog 56 #[.int .i64 n] w fun e w' => e = .returned (.bool (opB 10000 n)) ∧ w = w' := by
  by_cases h3 : 3 ≤ n
  · by_cases h2 : n ≤ 10000
    · rw [opB_eq h3 h2]
      go_enter Try.func56, Try.ntmps56
      go_wp2_with (go_at_call 52; refine (isPrime_any _ _ h1 h2).mono ?_; rintro e w' ⟨rfl, rfl⟩)
      go_ret
      exact ⟨rfl, rfl⟩
    · rw [opB_no (by omega)]
      go_enter Try.func56, Try.ntmps56
      go_wp2_with fail
      go_ret
      exact ⟨rfl, rfl⟩
  · rw [opB_no (by omega)]
    go_enter Try.func56, Try.ntmps56
    go_wp2_with fail
    go_ret
    exact ⟨rfl, rfl⟩

theorem odd_any (n : Int) (w : World) (h1 : -9223372036854775808 ≤ n) :
    Calls Try.prog 51 #[.int .i64 n] w fun e w' => e = .returned (.bool (opB 200 n)) ∧ w = w' := by
  by_cases h3 : 3 ≤ n
  · by_cases h2 : n ≤ 200
    · rw [opB_eq h3 h2]
      go_enter Try.func51, Try.ntmps51
      go_wp2_with (go_at_call 52; refine (isPrime_any _ _ h1 (by omega)).mono ?_; rintro e w' ⟨rfl, rfl⟩)
      go_ret
      exact ⟨rfl, rfl⟩
    · rw [opB_no (by omega)]
      go_enter Try.func51, Try.ntmps51
      go_wp2_with fail
      go_ret
      exact ⟨rfl, rfl⟩
  · rw [opB_no (by omega)]
    go_enter Try.func51, Try.ntmps51
    go_wp2_with fail
    go_ret
    exact ⟨rfl, rfl⟩

/-- what Points asks -/
noncomputable def ptB (p q : Int) : Bool := opB 200 p && opB 200 q && !(p == q)

theorem points_no (p q : Int) (w : World) (h1 : -9223372036854775808 ≤ p) (h2 : -9223372036854775808 ≤ q) (h : ptB p q = false) :
    Calls Try.prog 15 #[.int .i64 p, .int .i64 q] w fun e w' => e = .returned (.tuple #[.int .i64 0, .int .i64 2]) ∧ w = w' := by
  cases hp : opB 200 p with
  | false =>
    have HP := Lib.hid hp
    clear hp h
    go_enter Try.func15, Try.ntmps15
    go_wp2_with (go_at_call 51; refine (odd_any p _ h1).mono ?_; rw [HP.out]; rintro e w' ⟨rfl, rfl⟩)
    go_ret2
    exact ⟨rfl, rfl⟩
  | true =>
    cases hq : opB 200 q with
    | false =>
      have HP := Lib.hid hp
      have HQ := Lib.hid hq
      clear hp hq h
      go_enter Try.func15, Try.ntmps15
      go_wp2_with (fail)
      refine (odd_any p _ h1).mono ?_; rw [HP.out]; rintro e w' ⟨rfl, rfl⟩
      go_wp2_with (fail)
      refine (odd_any q _ h2).mono ?_; rw [HQ.out]; rintro e w' ⟨rfl, rfl⟩
      go_wp2_with (fail)
      go_ret2
      exact ⟨rfl, rfl⟩
    | true =>
      have hpq : p = q := by unfold ptB at h; rw [hp, hq] at h; simpa using h
      subst hpq
      have HP := Lib.hid hp
      clear hp hq h
      go_enter Try.func15, Try.ntmps15
      go_wp2_with (go_at_call 51; refine (odd_any p _ h1).mono ?_; rw [HP.out]; rintro e w' ⟨rfl, rfl⟩)
      go_ret2
      exact ⟨rfl, rfl⟩

/-- points below the line, as the loop adds them -/
def flk (q p k : Nat) : Nat := sm (fun j => q * (j + 1) / p) k
theorem flk_bd (q p k : Nat) (hq : q ≤ 200) (hk : k ≤ 100) : flk q p k ≤ 20200 * k := by
  unfold flk
  rw [← sm_const]
  refine sm_le (fun j hj => ?_)
  have h1 : q * (j + 1) ≤ 200 * 101 := Nat.mul_le_mul hq (by omega)
  have h2 : q * (j + 1) / p ≤ q * (j + 1) := Nat.div_le_self _ _
  omega

theorem points_yes (p q : Nat) (w : World) (h : ptB p q = true) :
    Calls Try.prog 15 #[.int .i64 (p : Int), .int .i64 (q : Int)] w fun e w' => e = .returned (.tuple #[.int .i64 ((fl q p : Nat) : Int), .int .i64 0]) ∧ w = w' := by
  have hp : opB 200 p = true := by unfold ptB at h; simp only [Bool.and_eq_true] at h; exact h.1.1
  have hq : opB 200 q = true := by unfold ptB at h; simp only [Bool.and_eq_true] at h; exact h.1.2
  have hne : ((p : Int) == (q : Int)) = false := by
    unfold ptB at h; simp only [Bool.and_eq_true, Bool.not_eq_true'] at h; exact h.2
  obtain ⟨p1, p2, p3⟩ := opB_yes hp
  obtain ⟨q1, q2, q3⟩ := opB_yes hq
  have hodd : p % 2 = 1 := opB_odd hp
  have HP := Lib.hid hp
  have HQ := Lib.hid hq
  have HO := Lib.hid hodd
  clear hp hq h p3 q3 hodd
  go_enter Try.func15, Try.ntmps15
  go_wp2_with (fail)
  refine (odd_any p _ (by omega)).mono ?_; rw [HP.out]; rintro e w' ⟨rfl, rfl⟩
  go_wp2_with (fail)
  refine (odd_any q _ (by omega)).mono ?_; rw [HQ.out]; rintro e w' ⟨rfl, rfl⟩
  go_wp2_with (fail)
  go_loop [7, 8] (fun o x => ∃ k : Nat, k ≤ p / 2 ∧ o = .int .i64 ((flk q p k : Nat) : Int) ∧ x = .int .i64 ((k + 1 : Nat) : Int)) (fun _ x => p - (intOf x).toNat)
  case atStart => exact ⟨0, by omega, rfl, rfl⟩
  case round =>
    obtain ⟨k, hk, rfl, rfl⟩ := hrel
    have hb := flk_bd q p k (by omega) (by omega)
    by_cases hlt : 2 * (k + 1) < p
    · have hm1 : (q : Int) * (k + 1) ≤ 20200 := by
        have : (q : Int) * (k + 1) ≤ 200 * 101 := Int.mul_le_mul (by omega) (by omega) (by omega) (by omega)
        omega
      have hm0 : 0 ≤ (q : Int) * (k + 1) := Int.mul_nonneg (by omega) (by omega)
      have hd0 : 0 ≤ (q : Int) * (k + 1) / p := Int.ediv_nonneg hm0 (by omega)
      have hd1 : (q : Int) * (k + 1) / p ≤ 20200 := Int.le_trans (Int.ediv_le_self _ hm0) hm1
      have HS : Hid (((flk q p k : Nat) : Int) + (q : Int) * (k + 1) / p = ((flk q p (k + 1) : Nat) : Int)) := Lib.hid (by
        unfold flk; simp only [sm]; rw [Int.natCast_add, Int.natCast_ediv, Int.natCast_mul]; rfl)
      go_wp2_with (fail)
      go_round
      case rel => exact ⟨k + 1, by omega, by rw [HS.out], by go_num⟩
      case measure => simp [intOf]; omega
    · have : k = p / 2 := by have := HO.out; omega
      subst this
      go_wp2_with (fail)
      go_ret2
      exact ⟨rfl, rfl⟩
end Go.Proofs.Ytdombadhmaanfaa
