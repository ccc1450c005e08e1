/- CoversDays: the walk of the law. -/
import Derived.Test.YtmmgidhaakkaoaaRdb
import Derived.Test.YtmmgidhaakkaoaaEqp
import Derived.Test.YtmmgidhaakkaoaaIcl
namespace Go.Proofs.Ytmmgidhaakkaoaa
open Go Go.RowKit GhN

theorem prm_take (k : Int) (L : List Int) : prmB k (L.take 12) = (seedB k && rprB L) := by
  by_cases h : L.length ≤ 12
  · rw [List.take_of_length_le h]; rfl
  · have h1 : rprB (L.take 12) = false := by
      unfold rprB
      rw [decide_eq_false (by rw [List.length_take]; omega), Bool.and_false]
    have h2 : rprB L = false := by
      unfold rprB
      rw [decide_eq_false (by omega), Bool.and_false]
    unfold prmB
    rw [h1, h2]
theorem rpr_short {L : List Int} (h : rprB L = true) : L.take 12 = L ∧ allOk L = true ∧ L.length ≤ 8 := by
  unfold rprB at h
  rw [Bool.and_eq_true] at h
  have h2 := of_decide_eq_true h.2
  exact ⟨List.take_of_length_le (by omega), h.1, h2.2⟩

set_option maxRecDepth 100000 in
set_option maxHeartbeats 2000000 in
theorem cdays_law (k : Int) (A : Option Addr) (l c : Nat) (L : List Int) (w : World) (lo : -9223372036854775808 ≤ k) (_hi : k ≤ 9223372036854775807)
    (h : IRow w w.heap.size A l L) (hw : ∀ x ∈ L, -9223372036854775808 ≤ x ∧ x ≤ 9223372036854775807) (hlc : l ≤ c) (hc : c ≤ maxLen) (hA : A = none → l = 0 ∧ c = 0) :
    Calls Try.prog 11 #[.int .i64 k, .slice A l c] w fun e w' => e = .returned (.bool true) ∧ Below w.heap.size w w' := by
  have hc9 : c ≤ 9223372036854775807 := by unfold maxLen at hc; omega
  have HRR := Lib.hid h
  have HLI : Hid (∀ w', Below w.heap.size w w' → Calls Try.prog 34 #[.slice A l c] w' (GivesI w' (L.take 12))) := Lib.hid (fun w' hb => list_any A l c L w' (h.next hb) hlc hc hA)
  have HWT : Hid (∀ x ∈ L.take 12, -9223372036854775808 ≤ x ∧ x ≤ 9223372036854775807) := Lib.hid (fun x hx => hw x (List.mem_of_mem_take hx))
  have HLT : Hid ((L.take 12).length ≤ 12) := Lib.hid (by rw [List.length_take]; omega)
  have HDA : Hid (∀ w' A1 n1 c1, IRow w' w'.heap.size A1 n1 (L.take 12) → n1 ≤ c1 → c1 ≤ 9223372036854775807 → Calls Try.prog 35 #[.int .i64 k, .slice A1 n1 c1] w' (GivesPE w' (daysL k (L.take 12)) (daysE k (L.take 12)))) := Lib.hid (fun w' A1 n1 c1 h1 h2 h3 => Days_any k A1 n1 c1 (L.take 12) w' h1 lo HWT.out h2 h3)
  have HAL : Hid (∀ w' A1 n1 c1, IRow w' w'.heap.size A1 n1 (L.take 12) → n1 ≤ c1 → c1 ≤ 9223372036854775807 → Calls Try.prog 33 #[.int .i64 k, .slice A1 n1 c1] w' fun e w'' => e = .returned (.tuple #[.int .i64 (alwV k (L.take 12)), .int .i64 (alwE k (L.take 12))]) ∧ Below w'.heap.size w' w'') := Lib.hid (fun w' A1 n1 c1 h1 h2 h3 => Always_any k A1 n1 c1 (L.take 12) w' h1 lo HWT.out h2 h3)
  have HSE : Hid (∀ w', Calls Try.prog 36 #[.int .i64 k] w' fun e w'' => e = .returned (.bool (seedB k)) ∧ w' = w'') := Lib.hid (fun w' => seed_any k w' lo)
  have HPR : Hid (∀ w', Below w.heap.size w w' → Calls Try.prog 37 #[.slice A l c] w' fun e w'' => e = .returned (.bool (rprB L)) ∧ Below w'.heap.size w' w'') := Lib.hid (fun w' hb => rprimes_any A l c L w' (h.next hb) hw hlc hc9)
  have hpt := prm_take k L
  obtain ⟨D, hD⟩ : ∃ D, daysL k (L.take 12) = D := ⟨_, rfl⟩
  obtain ⟨E, hE⟩ : ∃ E, daysE k (L.take 12) = E := ⟨_, rfl⟩
  obtain ⟨V, hV⟩ : ∃ V, alwV k (L.take 12) = V := ⟨_, rfl⟩
  obtain ⟨F, hF⟩ : ∃ F, alwE k (L.take 12) = F := ⟨_, rfl⟩
  rw [hD, hE] at HDA
  rw [hV, hF] at HAL
  obtain ⟨s, hs⟩ : ∃ s, seedB k = s := ⟨_, rfl⟩
  obtain ⟨q, hq⟩ : ∃ q, rprB L = q := ⟨_, rfl⟩
  rw [hs] at HSE hpt
  rw [hq] at HPR hpt
  have HNO : Hid ((s && q) = false → D = [] ∧ E = 2 ∧ V = 0 ∧ F = 2) := Lib.hid (fun hf => by
    rw [hf] at hpt
    rw [← hD, ← hE, ← hV, ← hF]
    unfold daysL alwV alwE daysE
    rw [hpt]
    exact ⟨rfl, rfl, rfl, rfl⟩)
  have HYE : Hid ((s && q) = true → ∃ K : Nat, k = K ∧ K ≤ 1000000 ∧ allOk L = true ∧ L.length ≤ 8 ∧ D = (if dOk K L = true then dL K L else []) ∧ E = (if dOk K L = true then 0 else 6) ∧ V = (if dOk K L = true then rV (fstL false (dL K L) (wh (dL K L) 1) 1) else 0) ∧ F = (if dOk K L = true then rE (fstL false (dL K L) (wh (dL K L) 1) 1) else 6)) := Lib.hid (fun hf => by
    have hf2 := hf
    rw [Bool.and_eq_true] at hf2
    obtain ⟨r1, r2, r3⟩ := rpr_short (hq.trans hf2.2)
    have hsd := hs.trans hf2.1
    unfold seedB at hsd
    have h4 := of_decide_eq_true hsd
    refine ⟨k.toNat, by omega, by omega, r2, r3, ?_⟩
    rw [hf, r1] at hpt
    rw [r1] at hD hE hV hF
    rw [← hD, ← hE, ← hV, ← hF]
    unfold daysL alwV alwE daysE
    rw [hpt]
    cases dOk k.toNat L <;> exact ⟨rfl, rfl, rfl, rfl⟩)
  clear hpt hD hE hV hF hs hq
  by_cases hsq : (s && q) = true
  case neg =>
    have hsq : (s && q) = false := by simpa using hsq
    obtain ⟨rfl, rfl, rfl, rfl⟩ := HNO.out hsq
    clear h hw hA
    go_enter Try.func11, Try.ntmps11
    go_wp2_with fail
    refine (HLI.out _ (Below.refl _ _)).mono ?_; rintro e w1 ⟨A1, n1, c1, rfl, how1, hA1, hb1⟩
    have HI1 := Lib.hid (IRow.of_own how1)
    have HC1 := Lib.hid (own_cap how1)
    have HB1 := Lib.hid hb1
    clear how1 hA1 hb1
    go_wp2_with fail
    refine (HDA.out _ _ _ _ HI1.out HC1.out.1 HC1.out.2).mono ?_; rintro e w2 ⟨A2, n2, c2, rfl, hr2, hA2, hb2⟩
    have HB2 := Lib.hid (bt HB1.out hb2)
    obtain rfl : n2 = 0 := hr2.1
    clear hr2 hA2 hb2
    go_wp2_with fail
    refine (HLI.out _ HB2.out).mono ?_; rintro e w3 ⟨A3, n3, c3, rfl, how3, hA3, hb3⟩
    have HI3 := Lib.hid (IRow.of_own how3)
    have HC3 := Lib.hid (own_cap how3)
    have HB3 := Lib.hid (bt HB2.out hb3)
    clear how3 hA3 hb3
    go_wp2_with fail
    refine (HAL.out _ _ _ _ HI3.out HC3.out.1 HC3.out.2).mono ?_; rintro e w4 ⟨rfl, hb4⟩
    have HB4 := Lib.hid (bt HB3.out hb4)
    clear hb4
    go_wp2_with fail
    refine (HSE.out _).mono ?_; rintro e w5 ⟨rfl, rfl⟩
    cases s with
    | false =>
      go_wp2_with fail
      refine (awake_any _).mono ?_; rintro e w6 ⟨rfl, hb6⟩
      have HB6 := Lib.hid (bt HB4.out hb6)
      clear hb6
      go_wp2_with fail
      go_ret
      exact ⟨rfl, HB6.out⟩
    | true =>
      obtain rfl : q = false := hsq
      go_wp2_with fail
      refine (HPR.out _ HB4.out).mono ?_; rintro e w5 ⟨rfl, hb5⟩
      have HB5 := Lib.hid (bt HB4.out hb5)
      clear hb5
      go_wp2_with fail
      refine (awake_any _).mono ?_; rintro e w6 ⟨rfl, hb6⟩
      have HB6 := Lib.hid (bt HB5.out hb6)
      clear hb6
      go_wp2_with fail
      go_ret
      exact ⟨rfl, HB6.out⟩
  case pos =>
    obtain ⟨K, rfl, hK, hok, hl8, hD, hE, hV, hF⟩ := HYE.out hsq
    have hsq2 := hsq
    rw [Bool.and_eq_true] at hsq2
    obtain ⟨rfl, rfl⟩ := hsq2
    have HRD : Hid (∀ w', Below w.heap.size w w' → Calls Try.prog 38 #[.int .i64 (K : Int), .slice A l c] w' (GivesPE w' D E)) := Lib.hid (fun w' hb => by
      rw [hD, hE]; exact rdays_any K A l c L w' (h.next hb) hok (by have := h.1; omega) hK)
    have HRA : Hid (∀ w', Below w.heap.size w w' → Calls Try.prog 39 #[.int .i64 (K : Int), .slice A l c] w' fun e w'' => e = .returned (.tuple #[.int .i64 V, .int .i64 F]) ∧ Below w'.heap.size w' w'') := Lib.hid (fun w' hb => by
      rw [hV, hF]; exact ralways_any K A l c L w' (h.next hb) hok (by have := h.1; omega) hK _ rfl)
    have HDL : Hid (D.length ≤ 8) := Lib.hid (by
      rw [hD]; split
      · exact Nat.le_trans (dL_len K L) hl8
      · simp)
    clear h hw hA hD hE hV hF hok hsq HNO HYE
    go_enter Try.func11, Try.ntmps11
    go_wp2_with fail
    refine (HLI.out _ (Below.refl _ _)).mono ?_; rintro e w1 ⟨A1, n1, c1, rfl, how1, hA1, hb1⟩
    have HI1 := Lib.hid (IRow.of_own how1)
    have HC1 := Lib.hid (own_cap how1)
    have HB1 := Lib.hid hb1
    clear how1 hA1 hb1
    go_wp2_with fail
    refine (HDA.out _ _ _ _ HI1.out HC1.out.1 HC1.out.2).mono ?_; rintro e w2 ⟨A2, n2, c2, rfl, hr2, hA2, hb2⟩
    have HB2 := Lib.hid (bt HB1.out hb2)
    have HR2 := Lib.hid hr2
    have hn2 : n2 ≤ 8 := by have := hr2.1; have := HDL.out; omega
    clear hr2 hA2 hb2
    go_wp2_with fail
    refine (HLI.out _ HB2.out).mono ?_; rintro e w3 ⟨A3, n3, c3, rfl, how3, hA3, hb3⟩
    have HI3 := Lib.hid (IRow.of_own how3)
    have HC3 := Lib.hid (own_cap how3)
    have HB3 := Lib.hid (bt HB2.out hb3)
    have HR3 := Lib.hid ((HR2.out.below hb3).more hb3.size)
    clear how3 hA3 hb3
    go_wp2_with fail
    refine (HAL.out _ _ _ _ HI3.out HC3.out.1 HC3.out.2).mono ?_; rintro e w4 ⟨rfl, hb4⟩
    have HB4 := Lib.hid (bt HB3.out hb4)
    have HR4 := Lib.hid ((HR3.out.below hb4).more hb4.size)
    clear hb4
    go_wp2_with fail
    refine (HSE.out _).mono ?_; rintro e w5 ⟨rfl, rfl⟩
    go_wp2_with fail
    refine (HPR.out _ HB4.out).mono ?_; rintro e w5 ⟨rfl, hb5⟩
    have HB5 := Lib.hid (bt HB4.out hb5)
    have HR5 := Lib.hid ((HR4.out.below hb5).more hb5.size)
    clear hb5
    go_wp2_with fail
    refine (HRD.out _ HB5.out).mono ?_; rintro e w6 ⟨A6, n6, c6, rfl, hr6, hA6, hb6⟩
    have HB6 := Lib.hid (bt HB5.out hb6)
    have HR6 := Lib.hid ((HR5.out.below hb6).more hb6.size)
    have HS6 := Lib.hid hr6
    obtain rfl : n6 = n2 := by rw [hr6.1, HR6.out.1]
    clear hr6 hA6 hb6
    go_wp2_with fail
    refine (HRA.out _ HB6.out).mono ?_; rintro e w7 ⟨rfl, hb7⟩
    have HB7 := Lib.hid (bt HB6.out hb7)
    have HR7 := Lib.hid ((HR6.out.below hb7).more hb7.size)
    have HS7 := Lib.hid ((HS6.out.below hb7).more hb7.size)
    clear hb7
    go_wp2_with fail
    refine (equal_pairs A2 A6 n6 c2 c6 D w7 HR7.out HS7.out (by omega)).mono ?_; rintro e w8 ⟨rfl, hb8⟩
    have HB8 := Lib.hid (bt HB7.out hb8)
    clear hb8
    go_wp2_with fail
    refine (awake_any _).mono ?_; rintro e w9 ⟨rfl, hb9⟩
    have HB9 := Lib.hid (bt HB8.out hb9)
    clear hb9
    go_wp2_with fail
    go_ret
    exact ⟨rfl, HB9.out⟩
end Go.Proofs.Ytmmgidhaakkaoaa
