/- CoversAlways: the law, for every input. -/
import Derived.Test.YtmmgidhaakkaoaaAl
namespace Go.Proofs.Ytmmgidhaakkaoaa
open Go Go.RowKit GhN GhC

set_option maxRecDepth 100000 in
set_option maxHeartbeats 2000000 in
theorem calw_law (k : Int) (A : Option Addr) (l c : Nat) (L : List Int) (w : World) (lo : -9223372036854775808 ≤ k) (_hi : k ≤ 9223372036854775807)
    (h : IRow w w.heap.size A l L) (hw : ∀ x ∈ L, -9223372036854775808 ≤ x ∧ x ≤ 9223372036854775807) (hlc : l ≤ c) (hc : c ≤ maxLen) (hA : A = none → l = 0 ∧ c = 0) :
    Calls Try.prog 10 #[.int .i64 k, .slice A l c] w fun e w' => e = .returned (.bool true) ∧ Below w.heap.size w w' := by
  by_cases h0 : daysE k (L.take 12) = 0
  case pos =>
    have hp : prmB k (L.take 12) = true ∧ dOk k.toNat (L.take 12) = true := by
      unfold daysE at h0
      cases h1 : prmB k (L.take 12) with
      | false => rw [h1, if_neg (by decide)] at h0; omega
      | true =>
        rw [h1, if_pos rfl] at h0
        cases h2 : dOk k.toNat (L.take 12) with
        | false => rw [h2, if_neg (by decide)] at h0; omega
        | true => exact ⟨rfl, rfl⟩
    obtain ⟨hp1, hp2⟩ := hp
    have hq := hp1
    rw [prm_take, Bool.and_eq_true] at hq
    obtain ⟨hse, hpr⟩ := hq
    obtain ⟨ht, hok, hl8⟩ := rpr_short hpr
    rw [ht] at h0 hp1 hp2
    obtain ⟨p1, p2, _, _, _, _⟩ := prm_yes hp1
    obtain ⟨K, rfl⟩ : ∃ K : Nat, k = K := ⟨k.toNat, by omega⟩
    rw [Int.toNat_natCast] at hp2
    have hDA : daysL (K : Int) L = dL K L ∧ daysE (K : Int) L = 0 := by
      refine ⟨?_, h0⟩
      unfold daysL
      rw [if_pos hp1, Int.toNat_natCast, if_pos hp2]
    obtain ⟨r, hr⟩ : ∃ r, fstL false (dL K L) (wh (dL K L) 1) 1 = r := ⟨_, rfl⟩
    have hAL : alwV (K : Int) L = rV r ∧ alwE (K : Int) L = rE r := by
      unfold alwV alwE
      rw [if_pos h0, if_pos h0, Int.toNat_natCast, hr]
      exact ⟨rfl, rfl⟩
    have hll : l = L.length := h.1
    have hDL : (dL K L).length ≤ 8 := Nat.le_trans (dL_len K L) hl8
    have hokp := dL_ok hok hp2
    have hw64 : ∀ p ∈ dL K L, -9223372036854775808 ≤ p.1 ∧ p.1 ≤ 9223372036854775807 ∧ -9223372036854775808 ≤ p.2 ∧ p.2 ≤ 9223372036854775807 := fun q hq => by
      have h1 := hokp q hq
      unfold okP at h1; omega
    have hlenpos : validL (dL K L) = true → 1 ≤ (dL K L).length := fun hv => (validL_yes hv).1
    have hyes : validL (dL K L) = true → ∀ le, fstE false (dL K L) = le → ∀ A1 n1 c1 w', Row w' w'.heap.size A1 n1 (dL K L) → Calls Try.prog 15 #[.slice A1 n1 c1] w' fun e w'' => (∃ lv : Int, e = .returned (.tuple #[.int .i64 lv, .int .i64 le])) ∧ Below w'.heap.size w' w'' := fun hv le hle A1 n1 c1 w' hr => by
      refine (left_yes A1 n1 c1 (dL K L) w' hr hw64 (by have := hr.1; omega) hv).mono ?_
      rintro e w1 ⟨rfl, hb⟩
      rw [hle]
      exact ⟨⟨_, rfl⟩, hb⟩
    rcases alw_cases hok hp2 hl8 r hr with ⟨rfl, hv, hf, hso⟩ | ⟨n, rfl, n1, n2, hv, hso1, hso2⟩
    · exact calw_tail K A l c L (dL K L) 4 0 4 200 w h hw hlc hc hA hok (by omega) (by omega) hDL hse hpr hDA hAL (hyes hv 4 hf) (.inl ⟨rfl, rfl, rfl, hlenpos hv, rfl⟩) (fun i _ _ => by rw [hso i]; rfl)
    · have hso : ∀ i : Nat, 1 ≤ i → i ≤ n → soUp L K i L.length = ((0 : Int) == 4 || decide ((i : Int) < ((n : Nat) : Int))) := fun i h1 h2 => by
        rcases Nat.lt_or_eq_of_le h2 with h3 | h3
        · rw [hso1 i h1 h3, decide_eq_true (by omega)]; rfl
        · rw [h3, hso2, decide_eq_false (by omega)]; rfl
      rcases hv with ⟨hv, hf⟩ | hnil
      · exact calw_tail K A l c L (dL K L) 0 n 0 n w h hw hlc hc hA hok (by omega) (by omega) hDL hse hpr hDA hAL (hyes hv 0 hf) (.inr (.inl ⟨rfl, rfl, n1, n2, hlenpos hv, rfl⟩)) hso
      · refine calw_tail K A l c L (dL K L) 0 n 2 n w h hw hlc hc hA hok (by omega) (by omega) hDL hse hpr hDA hAL (fun A1 n1 c1 w' hr => ?_) (.inr (.inr ⟨rfl, rfl, n1, n2, by rw [hnil]; rfl, rfl⟩)) hso
        refine (left_no A1 n1 c1 (dL K L) w' hr hw64 (by have := hr.1; omega) (validL_no (fun hs => by have := hs.1; rw [hnil] at this; simp at this))).mono ?_
        rintro e w1 ⟨rfl, hb⟩
        exact ⟨⟨_, rfl⟩, hb⟩
  case neg =>
    have hc9 : c ≤ 9223372036854775807 := by unfold maxLen at hc; omega
    have HLI : Hid (∀ w', Below w.heap.size w w' → Calls Try.prog 34 #[.slice A l c] w' (GivesI w' (L.take 12))) := Lib.hid (fun w' hb => list_any A l c L w' (h.next hb) hlc hc hA)
    have HWT : Hid (∀ x ∈ L.take 12, -9223372036854775808 ≤ x ∧ x ≤ 9223372036854775807) := Lib.hid (fun x hx => hw x (List.mem_of_mem_take hx))
    have hE : daysE k (L.take 12) = 2 ∨ daysE k (L.take 12) = 6 := by
      unfold daysE at h0 ⊢
      split at h0
      · next h1 =>
        rw [if_pos h1]
        split at h0
        · next h2 => exact absurd rfl h0
        · next h2 => rw [if_neg h2]; right; rfl
      · next h1 => rw [if_neg h1]; left; rfl
    obtain ⟨E, hEE⟩ : ∃ E, daysE k (L.take 12) = E := ⟨_, rfl⟩
    have hV : alwV k (L.take 12) = 0 := by unfold alwV; rw [if_neg h0]
    have hF : alwE k (L.take 12) = E := by unfold alwE; rw [if_neg h0, hEE]
    have HDA : Hid (∀ w' A1 n1 c1, IRow w' w'.heap.size A1 n1 (L.take 12) → n1 ≤ c1 → c1 ≤ 9223372036854775807 → Calls Try.prog 35 #[.int .i64 k, .slice A1 n1 c1] w' (GivesPE w' (daysL k (L.take 12)) E)) := Lib.hid (fun w' A1 n1 c1 h1 h2 h3 => by rw [← hEE]; exact Days_any k A1 n1 c1 (L.take 12) w' h1 lo HWT.out h2 h3)
    have HAL : Hid (∀ w' A1 n1 c1, IRow w' w'.heap.size A1 n1 (L.take 12) → n1 ≤ c1 → c1 ≤ 9223372036854775807 → Calls Try.prog 33 #[.int .i64 k, .slice A1 n1 c1] w' fun e w'' => e = .returned (.tuple #[.int .i64 0, .int .i64 E]) ∧ Below w'.heap.size w' w'') := Lib.hid (fun w' A1 n1 c1 h1 h2 h3 => by
      have h5 := Always_any k A1 n1 c1 (L.take 12) w' h1 lo HWT.out h2 h3
      rw [hV, hF] at h5; exact h5)
    rw [hEE] at hE
    clear h hw hA h0 hEE hV hF
    rcases hE with rfl | rfl
    all_goals
      go_enter Try.func10, Try.ntmps10
      go_wp2_with fail
      refine (HLI.out _ (Below.refl _ _)).mono ?_; rintro e w1 ⟨A1, n1, c1, rfl, how1, hA1, hb1⟩
      have HI1 := Lib.hid (IRow.of_own how1)
      have HC1 := Lib.hid (own_cap how1)
      have HB1 := Lib.hid hb1
      clear how1 hA1 hb1
      go_wp2_with fail
      refine (HAL.out _ _ _ _ HI1.out HC1.out.1 HC1.out.2).mono ?_; rintro e w2 ⟨rfl, hb2⟩
      have HB2 := Lib.hid (bt HB1.out hb2)
      clear hb2
      go_wp2_with fail
      refine (HLI.out _ HB2.out).mono ?_; rintro e w3 ⟨A3, n3, c3, rfl, how3, hA3, hb3⟩
      have HI3 := Lib.hid (IRow.of_own how3)
      have HC3 := Lib.hid (own_cap how3)
      have HB3 := Lib.hid (bt HB2.out hb3)
      clear how3 hA3 hb3
      go_wp2_with fail
      refine (HDA.out _ _ _ _ HI3.out HC3.out.1 HC3.out.2).mono ?_; rintro e w4 ⟨A4, n4, c4, rfl, hr4, hA4, hb4⟩
      have HB4 := Lib.hid (bt HB3.out hb4)
      clear hr4 hA4 hb4
      go_wp2_with fail
      refine (awake_any _).mono ?_; rintro e w5 ⟨rfl, hb5⟩
      have HB5 := Lib.hid (bt HB4.out hb5)
      clear hb5
      go_wp2_with fail
      go_ret
      exact ⟨rfl, HB5.out⟩
end Go.Proofs.Ytmmgidhaakkaoaa
