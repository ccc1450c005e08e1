/- CoversRefines: the walk of the law. -/
import Derived.Test.YtmmgidhaakkaoaaCoS
import Derived.Test.YtmmgidhaakkaoaaCoH
namespace Go.Proofs.Ytmmgidhaakkaoaa
open Go Go.RowKit GhC

theorem own_addr {w : World} {base n c sz : Nat} {e : TypeId} {A : Option Addr} {xs : List Value} (h : w.ownsRow base e sz (.slice A n c) n xs) (hn : 1 ≤ n) : ∃ g, A = some ⟨g, 0, none⟩ ∧ base ≤ g ∧ n ≤ c ∧ c ≤ maxLen := by
  rcases h.2 with ⟨_, h0⟩ | ⟨g, cap, cur, hv, hg, _, h1, h2, _⟩
  · omega
  · injection hv with hA _ hc
    exact ⟨g, hA, hg, by omega, by omega⟩

set_option maxRecDepth 100000 in
set_option maxHeartbeats 1000000 in
theorem refines_walk (A : Option Addr) (l c : Nat) (i r : Int) (L : List (Int × Int)) (w : World) (h : Row w w.heap.size A l L) (hw : W64 L) (hlc : l ≤ c) (hc : c ≤ maxLen) (hA : A = none → l = 0 ∧ c = 0)
    (_hi1 : -9223372036854775808 ≤ i) (_hi2 : i ≤ 9223372036854775807) (_hr1 : -9223372036854775808 ≤ r) (_hr2 : r ≤ 9223372036854775807) :
    Calls Try.prog 6 #[.slice A l c, .int .i64 i, .int .i64 r] w fun e w' => e = .returned (.bool true) ∧ Below w.heap.size w w' := by
  have hl : l ≤ 9223372036854775807 := by unfold maxLen at hc; omega
  have HR := Lib.hid h
  have HW := Lib.hid hw
  have HL := Lib.hid h.1
  have HPO : Hid (∀ w1 : World, Below w.heap.size w w1 → Calls Try.prog 16 #[.slice A l c] w1 (GivesOwn w1 (L.take 12))) := Lib.hid (fun w1 hb => pairs_own A l c L w1 ((h.below hb).more hb.size) hlc hc hA)
  have HNL : Hid (∀ (w1 : World) (A1 : Option Addr) (n1 : Nat), Row w1 w1.heap.size A1 n1 (L.take 12) → n1 ≤ 9223372036854775807) := Lib.hid (fun w1 A1 n1 hr => by have := hr.1; rw [List.length_take] at this; omega)
  have hgo := h.2
  clear h hw
  cases hv : validL L with
  | false =>
    have HV := Lib.hid hv
    have HV2 : Hid (validL (L.take 12) = false) := Lib.hid (by rw [valid_take]; exact hv)
    clear hv hgo
    go_enter Try.func6, Try.ntmps6
    go_wp2_with fail
    refine (HPO.out w (Below.refl _ _)).mono ?_; rintro e w1 ⟨A1, n1, c1, rfl, how1, hb1⟩
    have hr1 := Row.of_own how1
    go_wp2_with fail
    refine (refine_bad A1 n1 c1 i r (L.take 12) w1 hr1 (HW.out.take 12) (HNL.out w1 A1 n1 hr1) HV2.out).mono ?_; rintro e w2 ⟨rfl, hb2⟩
    have HB2 := Lib.hid (bt hb1 hb2)
    have HR2 := Lib.hid ((HR.out.below HB2.out).more HB2.out.size)
    clear hr1 hb1 hb2 how1
    go_wp2_with fail
    refine (rvalid_any A l c L w2 HR2.out HW.out hl).mono ?_; rw [HV.out]; rintro e w3 ⟨rfl, hb3⟩
    go_wp2_with fail
    refine (awake_any _).mono ?_; rintro e w4 ⟨rfl, hb4⟩
    go_wp2_with fail
    go_ret
    exact ⟨rfl, bt (bt HB2.out hb3) hb4⟩
  | true =>
    have HV := Lib.hid hv
    have HS := Lib.hid (validL_yes hv)
    have HT := Lib.hid (valid_len hv)
    have hl10 : l ≤ 10 := by have := HS.out.2.1; have := HL.out; omega
    have hl1 : 1 ≤ l := by have := HS.out.1; have := HL.out; omega
    obtain ⟨ab, ao, rfl, hab, _⟩ := hgo (by omega)
    clear hgo hv
    by_cases hin : 0 ≤ i ∧ i < (l : Int) ∧ 2 ≤ r ∧ r ≤ 5
    · obtain ⟨i1, i2, r1, r2⟩ := hin
      obtain ⟨I, rfl⟩ : ∃ I : Nat, i = I := ⟨i.toNat, by omega⟩
      obtain ⟨R, rfl⟩ : ∃ R : Nat, r = R := ⟨r.toNat, by omega⟩
      obtain ⟨x, m, hx⟩ : ∃ x m, L[I]? = some (x, m) := by
        have : I < L.length := by have := HL.out; omega
        exact ⟨L[I].1, L[I].2, List.getElem?_eq_getElem this⟩
      have HX := Lib.hid hx
      have hR2 : 2 ≤ R := by omega
      have hR5 : R ≤ 5 := by omega
      have HPLN : Hid ((part L I R).length ≤ 1000000) := Lib.hid (by
        rw [pu_part hx, List.length_append, pu_len (by have := (List.getElem?_eq_some_iff.1 hx).1; exact this), List.length_drop]
        have := HL.out
        omega)
      clear hx i1 i2 r1 r2
      go_enter Try.func6, Try.ntmps6
      go_wp2_with fail
      refine (HPO.out w (Below.refl _ _)).mono ?_; rintro e w1 ⟨A1, n1, c1, rfl, how1, hb1⟩
      rw [HT.out] at how1
      have hn1 : n1 = l := by
        have h1 := how1.1
        rw [flat_len] at h1
        have := HL.out
        omega
      subst hn1
      obtain ⟨g, rfl, hg, hc1, hc2⟩ := own_addr how1 hl1
      have HR1 := Lib.hid (Row.of_own how1)
      have HB1 := Lib.hid hb1
      clear how1 hb1
      go_wp2_with fail
      refine (refine_yes g 0 n1 c1 I R x m L w1 HR1.out hc1 hc2 HV.out HX.out hR2 hR5).mono ?_; rintro e w2 ⟨hb2, hcase⟩
      have HB2 := Lib.hid (bt HB1.out hb2)
      have HR2 := Lib.hid ((HR.out.below HB2.out).more HB2.out.size)
      clear hb2
      rcases hcase with ⟨hvp, A2, n2, c2, rfl, hr2⟩ | ⟨hvp, rfl⟩
      · have HVP := Lib.hid hvp
        have HR22 := Lib.hid hr2
        have hn2 : n2 ≤ 1000000 := by have := hr2.1; have := HPLN.out; omega
        clear hvp hr2
        go_wp2_with fail
        refine (rvalid_any (some ⟨ab, ao, none⟩) n1 c L w2 HR2.out HW.out hl).mono ?_; rw [HV.out]; rintro e w3 ⟨rfl, hb3⟩
        have HR3 := Lib.hid ((HR2.out.below hb3).more hb3.size)
        go_wp2_with fail
        refine (rrefine_yes ab ao n1 c I R x m L w3 HR3.out hlc hc HV.out HX.out hR2 hR5).mono ?_; rintro e w4 ⟨hb4, A4, n4, c4, rfl, hr4⟩
        rw [HVP.out]
        have hn4 : n2 = n4 := HR22.out.1.trans hr4.1.symm
        subst hn4
        have HB24 := Lib.hid (bt hb3 hb4)
        have HQ1 : Hid (Row w4 w4.heap.size A2 n2 (part L I R)) := Lib.hid ((HR22.out.below HB24.out).more HB24.out.size)
        have HQ2 := Lib.hid hr4
        clear hb3 hb4 hr4
        go_wp2_with fail
        refine (equal_pairs A2 A4 n2 c2 c4 (part L I R) w4 HQ1.out HQ2.out hn2).mono ?_; rintro e w5 ⟨rfl, hb5⟩
        go_wp2_with fail
        refine (awake_any _).mono ?_; rintro e w6 ⟨rfl, hb6⟩
        go_wp2_with fail
        go_ret
        exact ⟨rfl, bt (bt (bt HB2.out HB24.out) hb5) hb6⟩
      · have HVP := Lib.hid hvp
        clear hvp
        go_wp2_with fail
        refine (rvalid_any (some ⟨ab, ao, none⟩) n1 c L w2 HR2.out HW.out hl).mono ?_; rw [HV.out]; rintro e w3 ⟨rfl, hb3⟩
        have HR3 := Lib.hid ((HR2.out.below hb3).more hb3.size)
        go_wp2_with fail
        refine (rrefine_yes ab ao n1 c I R x m L w3 HR3.out hlc hc HV.out HX.out hR2 hR5).mono ?_; rintro e w4 ⟨hb4, A4, n4, c4, rfl, hr4⟩
        rw [HVP.out]
        have HB24 := Lib.hid (bt hb3 hb4)
        clear hb3 hb4 hr4
        go_wp2_with fail
        refine (awake_any _).mono ?_; rintro e w6 ⟨rfl, hb6⟩
        go_wp2_with fail
        go_ret
        exact ⟨rfl, bt (bt HB2.out HB24.out) hb6⟩
    · have HIN := Lib.hid hin
      clear hin
      go_enter Try.func6, Try.ntmps6
      go_wp2_with fail
      refine (HPO.out w (Below.refl _ _)).mono ?_; rintro e w1 ⟨A1, n1, c1, rfl, how1, hb1⟩
      rw [HT.out] at how1
      have hn1 : n1 = l := by
        have h1 := how1.1
        rw [flat_len] at h1
        have := HL.out
        omega
      subst hn1
      have HR1 := Lib.hid (Row.of_own how1)
      have HB1 := Lib.hid hb1
      clear how1 hb1
      go_wp2_with fail
      refine (refine_out A1 n1 c1 i r L w1 HR1.out HW.out (by omega) HV.out HIN.out).mono ?_; rintro e w2 ⟨rfl, hb2⟩
      have HB2 := Lib.hid (bt HB1.out hb2)
      have HR2 := Lib.hid ((HR.out.below HB2.out).more HB2.out.size)
      clear hb2
      go_wp2_with fail
      refine (rvalid_any (some ⟨ab, ao, none⟩) n1 c L w2 HR2.out HW.out hl).mono ?_; rw [HV.out]; rintro e w3 ⟨rfl, hb3⟩
      go_wp2_with fail
      refine (rrefine_out (some ⟨ab, ao, none⟩) n1 c i r w3 HIN.out).mono ?_; rintro e w4 ⟨rfl, hb4⟩
      go_wp2_with fail
      refine (awake_any _).mono ?_; rintro e w6 ⟨rfl, hb6⟩
      go_wp2_with fail
      go_ret
      exact ⟨rfl, bt (bt (bt HB2.out hb3) hb4) hb6⟩
end Go.Proofs.Ytmmgidhaakkaoaa
