/- Curves: primes, valid ones, the rest modulo the prime, the far point, whether a point lies on a curve. -/
import Derived.Test.YtdombadhmaanfaaCt
import Derived.Test.YtdombadhmaanfaaAg
namespace Go.Proofs.Ytdombadhmaanfaa
open Go Go.RowKit GhN

abbrev crv (p a b : Int) : Value := .agg #[.int .i64 p, .int .i64 a, .int .i64 b]
theorem mulbd {x y a b : Int} (h1 : 0 ≤ x) (h2 : x ≤ a) (h3 : 0 ≤ y) (h4 : y ≤ b) : 0 ≤ x * y ∧ x * y ≤ a * b :=
  ⟨Int.mul_nonneg h1 h3, Int.mul_le_mul h2 h4 h3 (Int.le_trans h1 h2)⟩

def p9B (p : Int) : Bool := decide (0 ≤ p ∧ p.toNat ∈ smallP)
theorem p9_yes {p : Int} (h : p9B p = true) : ∃ P : Nat, p = P ∧ P ∈ smallP := by
  unfold p9B at h
  have h2 := of_decide_eq_true h
  exact ⟨p.toNat, by omega, h2.2⟩
theorem p9_mk {P : Nat} (h : P ∈ smallP) : p9B (P : Int) = true := by unfold p9B; exact decide_eq_true ⟨by omega, by rw [Int.toNat_natCast]; exact h⟩
theorem p9_big {p : Int} (h : 31 < p) : p9B p = false := by
  unfold p9B
  refine decide_eq_false (fun h2 => ?_)
  have := smallP_bd _ h2.2
  omega
theorem p9_low {p : Int} (h : p < 5) : p9B p = false := by
  unfold p9B
  refine decide_eq_false (fun h2 => ?_)
  have := smallP_bd _ h2.2
  omega
theorem p9_div {P d : Nat} (h1 : 2 ≤ d) (h2 : d < P) (h : P % d = 0) : p9B (P : Int) = false := by
  unfold p9B
  refine decide_eq_false (fun h3 => ?_)
  rw [Int.toNat_natCast] at h3
  have hb := smallP_bd _ h3.2
  exact ((smallP_iff P (by omega)).2 h3.2).2 d h2 h1 h
theorem p9_end {P : Nat} (h1 : 5 ≤ P) (h2 : P ≤ 31) (h : ∀ d, 2 ≤ d → d < P → P % d ≠ 0) : p9B (P : Int) = true :=
  p9_mk ((smallP_iff P (by omega)).1 ⟨h1, fun d h3 h4 => h d h4 h3⟩)

set_option maxHeartbeats 400000 in
theorem rprime9_any (p : Int) (w : World) :
    Calls Try.prog 63 #[.int .i64 p] w fun e w' => e = .returned (.bool (p9B p)) ∧ w = w' := by
  by_cases h31 : p ≤ 31
  case neg =>
    have e := p9_big (p := p) (by omega)
    have HE := Lib.hid e
    have h31' : decide (p ≤ 31) = false := decide_eq_false h31
    clear e
    go_enter Try.func63, Try.ntmps63
    go_wp2_with fail
    go_loop [3] (fun z => z = .int .i64 2) (fun _ => 0)
    case atStart => rfl
    case round =>
      subst hrel
      have t5 : (5 : Int) ≤ p := by omega
      go_wp2_with fail
      go_ret
      exact ⟨by rw [HE.out]; rfl, rfl⟩
  case pos =>
    by_cases h5 : 5 ≤ p
    case neg =>
      have e := p9_low (p := p) (by omega)
      have HE := Lib.hid e
      have h5' : decide ((5 : Int) ≤ p) = false := decide_eq_false h5
      clear e
      go_enter Try.func63, Try.ntmps63
      go_wp2_with fail
      go_loop [3] (fun z => ∃ d : Nat, 2 ≤ d ∧ d ≤ 5 ∧ z = .int .i64 (d : Int)) (fun z => (5 - intOf z).toNat)
      case atStart => exact ⟨2, by omega, by omega, rfl⟩
      case round =>
        obtain ⟨d, hd1, hd2, rfl⟩ := hrel
        by_cases hlt : (d : Int) < p
        · obtain ⟨c, hc⟩ : ∃ c, (p % (d : Int) == 0) = c := ⟨_, rfl⟩
          have h0p : 0 ≤ p := by omega
          have hd0 : (2 : Int) ≤ (d : Int) := by omega
          cases c with
          | true =>
            go_wp2_with fail
            go_ret
            exact ⟨by rw [HE.out]; rfl, rfl⟩
          | false =>
            go_wp2_with fail
            go_round
            case rel => exact ⟨d + 1, by omega, by omega, by go_num⟩
            case measure => simp [intOf]; omega
        · have hlt' : decide ((d : Int) < p) = false := decide_eq_false hlt
          go_wp2_with fail
          go_ret
          exact ⟨by rw [HE.out]; rfl, rfl⟩
    case pos =>
      obtain ⟨P, rfl⟩ : ∃ P : Nat, p = P := ⟨p.toNat, by omega⟩
      obtain ⟨q, hq⟩ : ∃ q, p9B (P : Int) = q := ⟨_, rfl⟩
      rw [hq]
      have HQ := Lib.hid hq
      clear hq
      go_enter Try.func63, Try.ntmps63
      go_wp2_with fail
      go_loop [3] (fun z => ∃ d : Nat, 2 ≤ d ∧ d ≤ P ∧ z = .int .i64 (d : Int) ∧ Hid (∀ x, 2 ≤ x → x < d → P % x ≠ 0)) (fun z => P - (intOf z).toNat)
      case atStart => exact ⟨2, by omega, by omega, rfl, Lib.hid (fun x h1 h2 => by omega)⟩
      case round =>
        obtain ⟨d, hd1, hd2, rfl, hnd⟩ := hrel
        have hd0 : (2 : Int) ≤ (d : Int) := by omega
        have e1 : (P : Int) % (d : Int) = ((P % d : Nat) : Int) := (Int.natCast_emod _ _).symm
        by_cases hlt : d < P
        · have hlti : (d : Int) < (P : Int) := by omega
          by_cases hm : P % d = 0
          · have t1 : ((P : Int) % (d : Int) == 0) = true := by rw [e1, hm]; rfl
            obtain rfl : q = false := by rw [← HQ.out]; exact p9_div hd1 hlt hm
            clear hm e1
            go_wp2_with fail
            go_ret
            exact ⟨rfl, rfl⟩
          · have t1 : ((P : Int) % (d : Int) == 0) = false := by rw [e1]; exact beq_eq_false_iff_ne.2 (fun e => hm (Int.ofNat.inj e))
            have HN : Hid (∀ x, 2 ≤ x → x < d + 1 → P % x ≠ 0) := Lib.hid (fun x h1 h2 => by
              rcases Nat.lt_or_eq_of_le (Nat.le_of_lt_succ h2) with h5 | h5
              · exact hnd.out x h1 h5
              · rw [h5]; exact hm)
            clear hm e1
            go_wp2_with fail
            go_round
            case rel => exact ⟨d + 1, by omega, by omega, by go_num, HN⟩
            case measure => simp [intOf]; omega
        · obtain rfl : q = true := by rw [← HQ.out]; exact p9_end (by omega) (by omega) (fun x h1 h2 => hnd.out x h1 (by omega))
          have hge : ¬ (d : Int) < (P : Int) := by omega
          have hgd : decide (d < P) = false := decide_eq_false hlt
          clear e1
          go_wp2_with fail
          go_ret
          exact ⟨rfl, rfl⟩

theorem field_yes (P : Nat) (w : World) (h : P ∈ smallP) :
    Calls Try.prog 83 #[.int .i64 (P : Int)] w fun e w' => e = .returned (.bool true) ∧ w = w' := by
  have hb := smallP_bd P h
  have HN := Lib.hid ((smallP_iff P (by omega)).2 h).2
  have h1 : (5 : Int) ≤ (P : Int) := by omega
  have h2 : (P : Int) ≤ 31 := by omega
  clear h
  go_enter Try.func83, Try.ntmps83
  go_wp2_with fail
  go_loop [3] (fun z => ∃ d : Nat, 2 ≤ d ∧ d ≤ P ∧ z = .int .i64 (d : Int)) (fun z => P - (intOf z).toNat)
  case atStart => exact ⟨2, by omega, by omega, rfl⟩
  case round =>
    obtain ⟨d, hd1, hd2, rfl⟩ := hrel
    have hd0 : (2 : Int) ≤ (d : Int) := by omega
    have e1 : (P : Int) % (d : Int) = ((P % d : Nat) : Int) := (Int.natCast_emod _ _).symm
    by_cases hlt : d < P
    · have hlti : (d : Int) < (P : Int) := by omega
      have hm := HN.out d hlt hd1
      have t1 : ((P : Int) % (d : Int) == 0) = false := by rw [e1]; exact beq_eq_false_iff_ne.2 (fun e => hm (Int.ofNat.inj e))
      clear hm e1
      go_wp2_with fail
      go_round
      case rel => exact ⟨d + 1, by omega, by omega, by go_num⟩
      case measure => simp [intOf]; omega
    · have hge : (P : Int) ≤ (d : Int) := by omega
      clear e1
      go_wp2_with fail
      go_ret
      exact ⟨rfl, rfl⟩
end Go.Proofs.Ytdombadhmaanfaa
