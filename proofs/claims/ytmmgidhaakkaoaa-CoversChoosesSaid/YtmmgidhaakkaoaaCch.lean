/- CoversChooses: the walk of the law. -/
import Derived.Test.YtmmgidhaakkaoaaRf3
import Derived.Test.YtmmgidhaakkaoaaEqp
namespace Go.Proofs.Ytmmgidhaakkaoaa
open Go Go.RowKit

set_option maxRecDepth 100000 in
set_option maxHeartbeats 2000000 in
theorem chooses_no (A : Option Addr) (l c : Nat) (L : List Int) (w : World) (h : IRow w w.heap.size A l L) (hlc : l ≤ c) (hc : c ≤ maxLen) (hA : A = none → l = 0 ∧ c = 0) (hmd : mdB L = false) :
    Calls Try.prog 13 #[.slice A l c] w fun e w' => e = .returned (.bool true) ∧ Below w.heap.size w w' := by
  have hc9 : c ≤ 9223372036854775807 := by unfold maxLen at hc; exact hc
  have HLI : Hid (∀ w', Below w.heap.size w w' → Calls Try.prog 34 #[.slice A l c] w' (GivesI w' (L.take 12))) := Lib.hid (fun w' hb => list_any A l c L w' (h.next hb) hlc hc hA)
  have hmt := (md_take L).2 hmd
  have HCH : Hid (∀ w' A1 n1 c1, IRow w' w'.heap.size A1 n1 (L.take 12) → n1 ≤ c1 → c1 ≤ 9223372036854775807 → Calls Try.prog 40 #[.slice A1 n1 c1] w' (GivesPE w' [] 2)) := Lib.hid (fun w' A1 n1 c1 h1 h2 h3 => by
    have := Choose_any A1 n1 c1 (L.take 12) w' h1 h2 h3
    rw [chE_bad hmt] at this
    unfold chL at this
    rw [hmt] at this
    exact this)
  have HFI : Hid (∀ w' A1 n1 c1, IRow w' w'.heap.size A1 n1 (L.take 12) → n1 ≤ c1 → c1 ≤ 9223372036854775807 → Calls Try.prog 41 #[.slice A1 n1 c1] w' (GivesPE w' [] 2)) := Lib.hid (fun w' A1 n1 c1 h1 h2 h3 => by
    have := Fit_any A1 n1 c1 (L.take 12) w' h1 h2 h3
    rw [chE_bad hmt] at this
    unfold chL at this
    rw [hmt] at this
    exact this)
  have HMO : Hid (∀ w', Below w.heap.size w w' → Calls Try.prog 42 #[.slice A l c] w' fun e w'' => e = .returned (.bool false) ∧ Below w'.heap.size w' w'') := Lib.hid (fun w' hb => by
    have := rmoduli_any A l c L w' (h.next hb) (by omega)
    rwa [hmd] at this)
  have HAW := Lib.hid (fun w' => awake_any w')
  clear h hmd hmt
  go_enter Try.func13, Try.ntmps13
  go_wp2_with fail
  refine (HLI.out _ (Below.refl _ _)).mono ?_; rintro e w1 ⟨A1, n1, c1, rfl, ho1, _, hb1⟩
  have HB1 := Lib.hid hb1
  have HC1 := Lib.hid (HCH.out w1 A1 n1 c1 (IRow.of_own ho1) (own_cap ho1).1 (own_cap ho1).2)
  clear ho1 hb1
  go_wp2_with fail
  refine HC1.out.mono ?_; rintro e w2 ⟨A2, n2, c2, rfl, hr2, _, hb2⟩
  have HB2 := Lib.hid (ibt HB1.out hb2)
  obtain rfl : n2 = 0 := hr2.1
  clear hb2 hr2
  go_wp2_with fail
  refine (HLI.out _ HB2.out).mono ?_; rintro e w3 ⟨A3, n3, c3, rfl, ho3, _, hb3⟩
  have HB3 := Lib.hid (ibt HB2.out hb3)
  have HC3 := Lib.hid (HFI.out w3 A3 n3 c3 (IRow.of_own ho3) (own_cap ho3).1 (own_cap ho3).2)
  clear ho3 hb3
  go_wp2_with fail
  refine HC3.out.mono ?_; rintro e w4 ⟨A4, n4, c4, rfl, hr4, _, hb4⟩
  have HB4 := Lib.hid (ibt HB3.out hb4)
  obtain rfl : n4 = 0 := hr4.1
  clear hb4 hr4
  go_wp2_with fail
  refine (HMO.out _ HB4.out).mono ?_; rintro e w5 ⟨rfl, hb5⟩
  have HB5 := Lib.hid (ibt HB4.out hb5)
  clear hb5
  go_wp2_with fail
  refine (HAW.out _).mono ?_; rintro e w6 ⟨rfl, hb6⟩
  have HB6 := Lib.hid (ibt HB5.out hb6)
  clear hb6
  go_wp2_with fail
  go_ret
  exact ⟨rfl, HB6.out⟩

set_option maxRecDepth 100000 in
set_option maxHeartbeats 2000000 in
theorem chooses_yes (b0 off l c : Nat) (L : List Int) (w : World) (h : IRow w w.heap.size (some ⟨b0, off, none⟩) l L) (hlc : l ≤ c) (hc : c ≤ maxLen) (hmd : mdB L = true) :
    Calls Try.prog 13 #[.slice (some ⟨b0, off, none⟩) l c] w fun e w' => e = .returned (.bool true) ∧ Below w.heap.size w w' := by
  obtain ⟨ht, h7, h1⟩ := (md_take L).1 hmd
  have hc9 : c ≤ 9223372036854775807 := by unfold maxLen at hc; exact hc
  have HLI : Hid (∀ w', Below w.heap.size w w' → Calls Try.prog 34 #[.slice (some ⟨b0, off, none⟩) l c] w' (GivesI w' L)) := Lib.hid (fun w' hb => by
    have := list_any (some ⟨b0, off, none⟩) l c L w' (h.next hb) hlc hc (fun e => by cases e)
    rwa [ht] at this)
  have hdl : ∀ ex, (chL ex L).length ≤ 7 := fun ex => by
    unfold chL
    rw [if_pos hmd]
    cases hr : sRes ex L with
    | none => exact Nat.zero_le _
    | some D =>
      have h5 := srch_len hr
      unfold nat1 at h5
      rw [List.length_map] at h5
      show D.length ≤ 7
      simp at h5; omega
  obtain ⟨D, hD⟩ : ∃ D, chL false L = D := ⟨_, rfl⟩
  obtain ⟨E, hE⟩ : ∃ E, chE false L = E := ⟨_, rfl⟩
  obtain ⟨D2, hD2⟩ : ∃ D2, chL true L = D2 := ⟨_, rfl⟩
  obtain ⟨E2, hE2⟩ : ∃ E2, chE true L = E2 := ⟨_, rfl⟩
  have HDL : Hid (D.length ≤ 7 ∧ D2.length ≤ 7) := Lib.hid ⟨by rw [← hD]; exact hdl false, by rw [← hD2]; exact hdl true⟩
  have HCH : Hid (∀ w' A1 n1 c1, IRow w' w'.heap.size A1 n1 L → n1 ≤ c1 → c1 ≤ 9223372036854775807 → Calls Try.prog 40 #[.slice A1 n1 c1] w' (GivesPE w' D E)) := Lib.hid (fun w' A1 n1 c1 h1 h2 h3 => by rw [← hD, ← hE]; exact Choose_any A1 n1 c1 L w' h1 h2 h3)
  have HFI : Hid (∀ w' A1 n1 c1, IRow w' w'.heap.size A1 n1 L → n1 ≤ c1 → c1 ≤ 9223372036854775807 → Calls Try.prog 41 #[.slice A1 n1 c1] w' (GivesPE w' D2 E2)) := Lib.hid (fun w' A1 n1 c1 h1 h2 h3 => by rw [← hD2, ← hE2]; exact Fit_any A1 n1 c1 L w' h1 h2 h3)
  have HRC : Hid (∀ w', Below w.heap.size w w' → Calls Try.prog 44 #[.slice (some ⟨b0, off, none⟩) l c] w' (GivesPE w' D E)) := Lib.hid (fun w' hb => by rw [← hD, ← hE]; exact rChoose_any b0 off l c L w' (h.next hb) hlc hc9 hmd)
  have HRF : Hid (∀ w', Below w.heap.size w w' → Calls Try.prog 45 #[.slice (some ⟨b0, off, none⟩) l c] w' (GivesPE w' D2 E2)) := Lib.hid (fun w' hb => by rw [← hD2, ← hE2]; exact rFit_any b0 off l c L w' (h.next hb) hlc hc9 hmd)
  have HMO : Hid (∀ w', Below w.heap.size w w' → Calls Try.prog 42 #[.slice (some ⟨b0, off, none⟩) l c] w' fun e w'' => e = .returned (.bool true) ∧ Below w'.heap.size w' w'') := Lib.hid (fun w' hb => by
    have := rmoduli_any (some ⟨b0, off, none⟩) l c L w' (h.next hb) (by omega)
    rwa [hmd] at this)
  have HAW := Lib.hid (fun w' => awake_any w')
  clear h hmd ht hdl hD hE hD2 hE2
  go_enter Try.func13, Try.ntmps13
  go_wp2_with fail
  refine (HLI.out _ (Below.refl _ _)).mono ?_; rintro e w1 ⟨A1, n1, c1, rfl, ho1, _, hb1⟩
  have HB1 := Lib.hid hb1
  have HC1 := Lib.hid (HCH.out w1 A1 n1 c1 (IRow.of_own ho1) (own_cap ho1).1 (own_cap ho1).2)
  clear ho1 hb1
  go_wp2_with fail
  refine HC1.out.mono ?_; rintro e w2 ⟨A2, n2, c2, rfl, hr2, _, hb2⟩
  have HB2 := Lib.hid (ibt HB1.out hb2)
  have HR2 := Lib.hid hr2
  have hn2 : n2 ≤ 7 := by have := hr2.1; have := HDL.out.1; omega
  clear hb2 hr2
  go_wp2_with fail
  refine (HLI.out _ HB2.out).mono ?_; rintro e w3 ⟨A3, n3, c3, rfl, ho3, _, hb3⟩
  have HB23 := Lib.hid hb3
  have HB3 := Lib.hid (ibt HB2.out hb3)
  have HC3 := Lib.hid (HFI.out w3 A3 n3 c3 (IRow.of_own ho3) (own_cap ho3).1 (own_cap ho3).2)
  clear ho3 hb3
  go_wp2_with fail
  refine HC3.out.mono ?_; rintro e w4 ⟨A4, n4, c4, rfl, hr4, _, hb4⟩
  have HB24 := Lib.hid (ibt HB23.out hb4)
  have HB4 := Lib.hid (ibt HB3.out hb4)
  have HR4 := Lib.hid hr4
  have hn4 : n4 ≤ 7 := by have := hr4.1; have := HDL.out.2; omega
  clear hb4 hr4
  go_wp2_with fail
  refine (HMO.out _ HB4.out).mono ?_; rintro e w5 ⟨rfl, hb5⟩
  have HB25 := Lib.hid (ibt HB24.out hb5)
  have HB45 := Lib.hid hb5
  have HB5 := Lib.hid (ibt HB4.out hb5)
  clear hb5
  go_wp2_with fail
  refine (HRC.out _ HB5.out).mono ?_; rintro e w6 ⟨A6, n6, c6, rfl, hr6, _, hb6⟩
  have HB26 := Lib.hid (ibt HB25.out hb6)
  have HB46 := Lib.hid (ibt HB45.out hb6)
  have HB6 := Lib.hid (ibt HB5.out hb6)
  have HR6 := Lib.hid hr6
  obtain rfl : n6 = n2 := hr6.1.trans HR2.out.1.symm
  clear hb6 hr6
  go_wp2_with fail
  refine (HRF.out _ HB6.out).mono ?_; rintro e w7 ⟨A7, n7, c7, rfl, hr7, _, hb7⟩
  have HB7 := Lib.hid (ibt HB6.out hb7)
  have HR7 := Lib.hid hr7
  have HR27 := Lib.hid ((HR2.out.below (ibt HB26.out hb7)).more (ibt HB26.out hb7).size)
  have HR47 := Lib.hid ((HR4.out.below (ibt HB46.out hb7)).more (ibt HB46.out hb7).size)
  have HR67 := Lib.hid ((HR6.out.below hb7).more hb7.size)
  obtain rfl : n7 = n4 := hr7.1.trans HR4.out.1.symm
  clear hb7 hr7
  go_wp2_with fail
  refine (equal_pairs A2 A6 n6 c2 c6 D w7 HR27.out HR67.out (by omega)).mono ?_; rintro e w8 ⟨rfl, hb8⟩
  have HB8 := Lib.hid (ibt HB7.out hb8)
  have HR48 := Lib.hid ((HR47.out.below hb8).more hb8.size)
  have HR78 := Lib.hid ((HR7.out.below hb8).more hb8.size)
  clear hb8
  go_wp2_with fail
  refine (equal_pairs A4 A7 n7 c4 c7 D2 w8 HR48.out HR78.out (by omega)).mono ?_; rintro e w9 ⟨rfl, hb9⟩
  have HB9 := Lib.hid (ibt HB8.out hb9)
  clear hb9
  go_wp2_with fail
  refine (HAW.out _).mono ?_; rintro e w10 ⟨rfl, hb10⟩
  have HB10 := Lib.hid (ibt HB9.out hb10)
  clear hb10
  go_wp2_with fail
  go_ret
  exact ⟨rfl, HB10.out⟩

theorem chooses_law (A : Option Addr) (l c : Nat) (L : List Int) (w : World) (h : IRow w w.heap.size A l L) (_hw : ∀ x ∈ L, -9223372036854775808 ≤ x ∧ x ≤ 9223372036854775807) (hlc : l ≤ c) (hc : c ≤ maxLen) (hA : A = none → l = 0 ∧ c = 0) :
    Calls Try.prog 13 #[.slice A l c] w fun e w' => e = .returned (.bool true) ∧ Below w.heap.size w w' := by
  cases hmd : mdB L with
  | false => exact chooses_no A l c L w h hlc hc hA hmd
  | true =>
    have h1 := (mdB_yes hmd).1
    obtain ⟨b0, off, rfl, _⟩ := h.2 (by have := h.1; omega)
    exact chooses_yes b0 off l c L w h hlc hc hmd
end Go.Proofs.Ytmmgidhaakkaoaa
