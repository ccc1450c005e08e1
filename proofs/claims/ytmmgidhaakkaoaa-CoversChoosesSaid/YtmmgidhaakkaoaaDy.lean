/- covers.day: the day of a prime. -/
import Derived.Test.YtmmgidhaakkaoaaCoE
import Derived.Test.YtmmgidhaakkaoaaDyP
import Derived.Test.YtmmgidhaakkaoaaPrC
import Derived.Test.YtmmgidhaakkaoaaIx
import Derived.RegionTactic
import Derived.ChangeAlike
namespace Go.Proofs.Ytmmgidhaakkaoaa
open Go Go.RowKit GhN

abbrev prV (x m : Int) : Value := .agg #[.int .i64 x, .int .i64 m]
noncomputable def dayX (k p : Nat) : Int := match dyF k p (ordF p) 1 with | some m => ((m % ordF p : Nat) : Int) | none => 0
noncomputable def dayH (k p : Nat) : Bool := (dyF k p (ordF p) 1).isSome
theorem day_res (k p : Nat) (_h1 : 1 ≤ ordF p) : max (atV k p (ordF p)) 0 % ((ordF p : Nat) : Int) = dayX k p ∧ decide (0 ≤ atV k p (ordF p)) = dayH k p := by
  unfold atV dayX dayH
  cases h : dyF k p (ordF p) 1 with
  | some m =>
    refine ⟨?_, ?_⟩
    · show max (m : Int) 0 % _ = ((m % ordF p : Nat) : Int)
      rw [Int.max_eq_left (by omega), Int.natCast_emod]
    · simp
  | none => exact ⟨by show max (-1 : Int) 0 % _ = 0; rw [Int.max_eq_right (by decide), Int.zero_emod], by simp⟩

theorem two_step {i p u v : Nat} (hu : 2 ^ i % p = u) (hv : u * 2 % p = v) : 2 ^ (i + 1) % p = v := by
  rw [Nat.pow_succ, Nat.mul_mod, hu, ← hv, Nat.mul_mod_mod]
theorem day_test {k i p v : Nat} (hv : 2 ^ (i + 1) % p = v) : (k * v + 1) % p = (k * 2 ^ (i + 1) + 1) % p := by
  rw [Nat.add_mod, Nat.mul_mod, ← hv, Nat.mod_mod, ← Nat.mul_mod, ← Nat.add_mod]

set_option maxRecDepth 100000 in
set_option maxHeartbeats 1000000 in
theorem day_any (k p : Nat) (w : World) (hp : Pr p) (h2 : p % 2 = 1) (hb : p ≤ 300) (hk : k ≤ 1000000) :
    Calls Try.prog 68 #[.int .i64 (k : Int), .int .i64 (p : Int)] w fun e w' => e = .returned (.tuple #[prV (dayX k p) (ordF p : Nat), .bool (dayH k p)]) ∧ Below w.heap.size w w' := by
  have hp1 : 2 ≤ p := hp.1
  obtain ⟨hord, hlt⟩ := ordF_spec hp h2
  have hres := day_res k p hord.1
  have ht1 : 1 ≤ ordF p := hord.1
  obtain ⟨t, ht⟩ : ∃ t, ordF p = t := ⟨_, rfl⟩
  obtain ⟨X, hX⟩ : ∃ X, dayX k p = X := ⟨_, rfl⟩
  obtain ⟨H, hH⟩ : ∃ H, dayH k p = H := ⟨_, rfl⟩
  rw [ht] at hord hlt hres ht1 ⊢
  rw [hX, hH] at hres ⊢
  have HO := Lib.hid hord
  have HRES := Lib.hid hres
  clear hord hres ht hX hH hp h2
  go_enter Try.func68, Try.ntmps68
  go_wp2_with fail
  go_loop [6, 7, 8] (fun pw at_ n => ∃ i u : Nat, ∃ a : Int, i < t ∧ u < p ∧ Hid (2 ^ i % p = u) ∧ Hid (atV k p i = a) ∧ -1 ≤ a ∧ a ≤ 300 ∧ pw = .int .i64 (u : Int) ∧ at_ = .int .i64 a ∧ n = .int .i64 ((i : Int) + 1)) (fun _ _ n => t + 1 - (intOf n).toNat)
  case atStart => exact ⟨0, 1, -1, by omega, by omega, Lib.hid (Nat.mod_eq_of_lt (by omega)), Lib.hid rfl, by omega, by omega, rfl, rfl, rfl⟩
  case round =>
    obtain ⟨i, u, a, hi, hu, HU, HA, ha1, ha2, rfl, rfl, rfl⟩ := hrel
    obtain ⟨v, hv⟩ : ∃ v, u * 2 % p = v := ⟨_, rfl⟩
    have hvp : v < p := by rw [← hv]; exact Nat.mod_lt _ (by omega)
    have HV := Lib.hid (two_step HU.out hv)
    have ev : (u : Int) * 2 % (p : Int) = (v : Int) := by rw [← hv, Int.natCast_emod]; rfl
    have hkv : (k : Int) * (v : Int) ≤ 300000000 := by
      have : (k : Int) * (v : Int) ≤ 1000000 * 300 := Int.mul_le_mul (by omega) (by omega) (by omega) (by omega)
      omega
    have hkv0 : 0 ≤ (k : Int) * (v : Int) := Int.mul_nonneg (by omega) (by omega)
    have e1 : ((k : Int) * (v : Int) + 1) % (p : Int) = (((k * 2 ^ (i + 1) + 1) % p : Nat) : Int) := by rw [← day_test HV.out, Int.natCast_emod]; rfl
    have hab := atV_bd k p (i + 1)
    obtain ⟨c3, t3, hc3⟩ : ∃ c3, ((v : Int) == 1) = c3 ∧ (c3 = true ↔ i + 1 = t) := by
      refine ⟨_, rfl, ?_⟩
      rw [beq_iff_eq]
      constructor
      · intro h
        apply Classical.byContradiction
        intro hne
        exact HO.out.2.2 (i + 1) (by omega) (by omega) (by rw [HV.out]; omega)
      · intro h
        have := HO.out.2.1
        rw [← h, HV.out] at this
        omega
    have hpi : ¬ ((p : Int) = 0) := by omega
    by_cases hc : (k * 2 ^ (i + 1) + 1) % p = 0 ∧ atV k p i < 0
    · have HA2 := Lib.hid (atV_set hc.1 hc.2)
      have t1 : (((k : Int) * (v : Int) + 1) % (p : Int) == 0) = true := by rw [e1, hc.1]; rfl
      have t2 : a < 0 := by have := hc.2; rw [HA.out] at this; exact this
      rcases c3 with _ | _
      · have hit : i + 1 < t := by have : ¬ (i + 1 = t) := fun e => by simpa using hc3.2 e
                                   omega
        have HC := Lib.hid hc3
        clear hc hv e1 hab hc3
        go_wp2_with fail
        go_round
        case rel => exact ⟨i + 1, v, (i : Int) + 1, by omega, by omega, HV, Lib.hid (by rw [HA2.out]; omega), by omega, by omega, by first | rfl | rw [ev], by go_num, by go_num⟩
        case measure => simp [intOf]; omega
      · have hit : i + 1 = t := hc3.1 rfl
        have hX : X = 0 ∧ H = true := by
          have h9 := HRES.out
          rw [← hit, HA2.out] at h9
          rw [← h9.1, ← h9.2]
          refine ⟨?_, decide_eq_true (by omega)⟩
          rw [Int.max_eq_left (by omega), Int.emod_self]
        obtain ⟨rfl, rfl⟩ := hX
        have t5 : decide (0 ≤ (i : Int) + 1) = true := decide_eq_true (by omega)
        have HT := Lib.hid hit
        clear hc hv e1 hab hc3 hit
        go_wp2_with fail
        refine bodyPost_ret (v := .tuple #[prV 0 (t : Nat), .bool true]) (by simp [results, Try.results68, go_sem]; have := HT.out; omega) rfl ⟨rfl, ?_⟩
        exact (Below.refl _ _).alloc (Nat.le_refl _) _
    · have HA2 : Hid (atV k p (i + 1) = a) := Lib.hid ((atV_keep hc).trans HA.out)
      have tt : ((((k : Int) * (v : Int) + 1) % (p : Int) == 0) = false) ∨ ((((k : Int) * (v : Int) + 1) % (p : Int) == 0) = true ∧ 0 ≤ a) := by
        rw [e1]
        by_cases h0 : (k * 2 ^ (i + 1) + 1) % p = 0
        · right
          rw [h0]
          refine ⟨rfl, ?_⟩
          have : ¬ atV k p i < 0 := fun h => hc ⟨h0, h⟩
          rw [HA.out] at this; omega
        · left; exact beq_eq_false_iff_ne.2 (fun e => h0 (Int.ofNat.inj e))
      rcases c3 with _ | _
      · have hit : i + 1 < t := by have : ¬ (i + 1 = t) := fun e => by simpa using hc3.2 e
                                   omega
        have HC := Lib.hid hc3
        clear hc hv e1 hab hc3
        rcases tt with t1 | ⟨t1, t2⟩
        all_goals
          go_wp2_with fail
          go_round
          case rel => exact ⟨i + 1, v, a, by omega, by omega, HV, HA2, by omega, by omega, by first | rfl | rw [ev], rfl, by go_num⟩
          case measure => simp [intOf]; omega
      · have hit : i + 1 = t := hc3.1 rfl
        have hX : (a < 0 ∧ X = 0 ∧ H = false) ∨ (0 ≤ a ∧ a % ((i : Int) + 1) = X ∧ H = true) := by
          have h9 := HRES.out
          rw [← hit, HA2.out] at h9
          rcases Int.lt_or_le a 0 with h | h
          · left
            rw [← h9.1, ← h9.2]
            exact ⟨h, by rw [Int.max_eq_right (by omega), Int.zero_emod], decide_eq_false (by omega)⟩
          · right
            rw [← h9.1, ← h9.2]
            exact ⟨h, by rw [Int.max_eq_left h, show ((i + 1 : Nat) : Int) = (i : Int) + 1 by omega], decide_eq_true h⟩
        have HT := Lib.hid hit
        clear hc hv e1 hab hc3 hit
        rcases hX with ⟨h0, rfl, rfl⟩ | ⟨h0, hx, rfl⟩
        · have t5 : decide (0 ≤ a) = false := decide_eq_false (by omega)
          rcases tt with t1 | ⟨t1, t2⟩
          · go_wp2_with fail
            refine bodyPost_ret (v := .tuple #[prV 0 (t : Nat), .bool false]) (by simp [results, Try.results68, go_sem]; have := HT.out; omega) rfl ⟨rfl, ?_⟩
            exact (Below.refl _ _).alloc (Nat.le_refl _) _
          · omega
        · have t5 : decide (0 ≤ a) = true := decide_eq_true h0
          rcases tt with t1 | ⟨t1, t2⟩
          all_goals
            go_wp2_with fail
            refine bodyPost_ret (v := .tuple #[prV X (t : Nat), .bool true]) (by simp [results, Try.results68, go_sem]; have := HT.out; omega) rfl ⟨rfl, ?_⟩
            exact (Below.refl _ _).alloc (Nat.le_refl _) _
end Go.Proofs.Ytmmgidhaakkaoaa
