/- CoversParted: the walk of the law. -/
import Derived.Test.YtmmgidhaakkaoaaRe
namespace Go.Proofs.Ytmmgidhaakkaoaa
open Go Go.RowKit GhC

set_option maxRecDepth 100000 in
set_option maxHeartbeats 1000000 in
theorem parted_walk (A : Option Addr) (l c : Nat) (i r : Int) (L : List (Int × Int)) (w : World) (h : Row w w.heap.size A l L) (hw : W64 L) (hlc : l ≤ c) (hc : c ≤ maxLen) (hA : A = none → l = 0 ∧ c = 0)
    (_hi1 : -9223372036854775808 ≤ i) (_hi2 : i ≤ 9223372036854775807) (_hr1 : -9223372036854775808 ≤ r) (_hr2 : r ≤ 9223372036854775807) :
    Calls Try.prog 7 #[.slice A l c, .int .i64 i, .int .i64 r] w fun e w' => e = .returned (.bool true) ∧ Below w.heap.size w w' := by
  have hl : l ≤ 9223372036854775807 := by unfold maxLen at hc; omega
  have HR := Lib.hid h
  have HW := Lib.hid hw
  have HL := Lib.hid h.1
  have HPO : Hid (∀ w1 : World, Below w.heap.size w w1 → Calls Try.prog 16 #[.slice A l c] w1 (GivesOwn w1 (L.take 12))) := Lib.hid (fun w1 hb => pairs_own A l c L w1 ((h.below hb).more hb.size) hlc hc hA)
  have HNL : Hid (∀ (w1 : World) (A1 : Option Addr) (n1 : Nat), Row w1 w1.heap.size A1 n1 (L.take 12) → n1 ≤ 9223372036854775807) := Lib.hid (fun w1 A1 n1 hr => by have := hr.1; rw [List.length_take] at this; omega)
  have HP0 : Hid (∀ w1 : World, Below w.heap.size w w1 → Calls Try.prog 16 #[.slice A l c] w1 (GivesRow w1 (L.take 12))) := Lib.hid (fun w1 hb => pairs_any A l c L w1 ((h.below hb).more hb.size) hlc hc hA)
  have hgo := h.2
  clear h hw
  cases hv : validL L with
  | false =>
    have HV := Lib.hid hv
    have HV2 : Hid (validL (L.take 12) = false) := Lib.hid (by rw [valid_take]; exact hv)
    clear hv hgo
    go_enter Try.func7, Try.ntmps7
    go_wp2_with fail
    refine (HPO.out w (Below.refl _ _)).mono ?_; rintro e w1 ⟨A1, n1, c1, rfl, how1, hb1⟩
    have hr1 := Row.of_own how1
    go_wp2_with fail
    refine (refine_bad A1 n1 c1 i r (L.take 12) w1 hr1 (HW.out.take 12) (HNL.out w1 A1 n1 hr1) HV2.out).mono ?_; rintro e w2 ⟨rfl, hb2⟩
    have HB2 := Lib.hid (bt hb1 hb2)
    have HR2 := Lib.hid ((HR.out.below HB2.out).more HB2.out.size)
    clear hr1 hb1 hb2 how1
    go_wp2_with fail
    refine (awake_any _).mono ?_; rintro e w4 ⟨rfl, hb4⟩
    go_wp2_with fail
    go_ret
    exact ⟨rfl, bt HB2.out hb4⟩
  | true =>
    have HV := Lib.hid hv
    have HS := Lib.hid (validL_yes hv)
    have HT := Lib.hid (valid_len hv)
    have hl10 : l ≤ 10 := by have := HS.out.2.1; have := HL.out; omega
    have hl1 : 1 ≤ l := by have := HS.out.1; have := HL.out; omega
    obtain ⟨ab, ao, rfl, hab, _⟩ := hgo (by omega)
    clear hgo hv
    by_cases hin : 0 ≤ i ∧ i < (l : Int) ∧ 2 ≤ r ∧ r ≤ 5
    · obtain ⟨i1, i2, r1, r2⟩ := hin
      obtain ⟨I, rfl⟩ : ∃ I : Nat, i = I := ⟨i.toNat, by omega⟩
      obtain ⟨R, rfl⟩ : ∃ R : Nat, r = R := ⟨r.toNat, by omega⟩
      obtain ⟨x, m, hx⟩ : ∃ x m, L[I]? = some (x, m) := by
        have : I < L.length := by have := HL.out; omega
        exact ⟨L[I].1, L[I].2, List.getElem?_eq_getElem this⟩
      have HX := Lib.hid hx
      have hR2 : 2 ≤ R := by omega
      have hR5 : R ≤ 5 := by omega
      have HPLN : Hid ((part L I R).length ≤ 1000000) := Lib.hid (by
        rw [pu_part hx, List.length_append, pu_len (by have := (List.getElem?_eq_some_iff.1 hx).1; exact this), List.length_drop]
        have := HL.out
        omega)
      clear hx i1 i2 r1 r2
      go_enter Try.func7, Try.ntmps7
      go_wp2_with fail
      refine (HPO.out w (Below.refl _ _)).mono ?_; rintro e w1 ⟨A1, n1, c1, rfl, how1, hb1⟩
      rw [HT.out] at how1
      have hn1 : n1 = l := by
        have h1 := how1.1
        rw [flat_len] at h1
        have := HL.out
        omega
      subst hn1
      obtain ⟨g, rfl, hg, hc1, hc2⟩ := own_addr how1 hl1
      have HR1 := Lib.hid (Row.of_own how1)
      have HB1 := Lib.hid hb1
      clear how1 hb1
      go_wp2_with fail
      refine (refine_yes g 0 n1 c1 I R x m L w1 HR1.out hc1 hc2 HV.out HX.out hR2 hR5).mono ?_; rintro e w2 ⟨hb2, hcase⟩
      have HB2 := Lib.hid (bt HB1.out hb2)
      have HR2 := Lib.hid ((HR.out.below HB2.out).more HB2.out.size)
      clear hb2
      rcases hcase with ⟨hvp, A2, n2, c2, rfl, hr2⟩ | ⟨hvp, rfl⟩
      · have HVP := Lib.hid hvp
        have HR22 := Lib.hid hr2
        have hn2 : n2 ≤ 1000000 := by have := hr2.1; have := HPLN.out; omega
        clear hvp hr2
        have HPS : Hid (Sys (part L I R)) := Lib.hid (validL_yes HVP.out)
        have HCN : Hid (∀ n, cnt (part L I R) n = cnt L n) := Lib.hid (fun n => cnt_parted HX.out (HS.out.2.2.1 _ (List.mem_of_getElem? HX.out)).1 (by omega) n)
        have HV1 : Hid (fstV false (part L I R) = fstV false L ∧ fstE false (part L I R) = fstE false L) := Lib.hid (fstV_same false HS.out HPS.out HCN.out)
        have HV2 : Hid (fstV true (part L I R) = fstV true L ∧ fstE true (part L I R) = fstE true L) := Lib.hid (fstV_same true HS.out HPS.out HCN.out)
        have HSH : Hid (shN (part L I R) = shN L ∧ shD (part L I R) = shD L) := Lib.hid (share_same HS.out HPS.out HCN.out)
        obtain ⟨P, hP⟩ : ∃ P, part L I R = P := ⟨_, rfl⟩
        have HWP : Hid (W64 (part L I R)) := Lib.hid (part_w HS.out HX.out hR5)
        rw [hP] at HPS HV1 HV2 HSH HWP HR22 HVP HPLN
        clear hP HCN
        have HPX : Hid (∀ w', Below w2.heap.size w2 w' → Calls Try.prog 16 #[.slice (some ⟨ab, ao, none⟩) n1 c] w' (GivesRow w' L)) := Lib.hid (fun w' hb => by
          have := HP0.out w' (bt HB2.out hb)
          rwa [HT.out] at this)
        have HMR : Hid (∀ w', Below w2.heap.size w2 w' → Row w' w'.heap.size A2 n2 P) := Lib.hid (fun w' hb => (HR22.out.below hb).more hb.size)
        have HNA : Hid (A2 = none → n2 = 0) := Lib.hid (fun e => by
          apply Classical.byContradiction
          intro h0
          obtain ⟨b', o', hA', _⟩ := HR22.out.2 (by omega)
          rw [e] at hA'
          cases hA')
        have hn2p : n2 ≤ P.length := by have := HR22.out.1; omega
        have hn2q : P.length ≤ n2 := by have := HR22.out.1; omega
        have hLk1 : L.length ≤ n1 := by have := HL.out; omega
        have hwl : w2.heap.size ≤ w2.heap.size := Nat.le_refl _
        obtain ⟨E, hE⟩ : ∃ E, fstE false L = E := ⟨_, rfl⟩
        obtain ⟨F, hF⟩ : ∃ F, fstE true L = F := ⟨_, rfl⟩
        obtain ⟨V, hVe⟩ : ∃ V, fstV false L = V := ⟨_, rfl⟩
        obtain ⟨U, hUe⟩ : ∃ U, fstV true L = U := ⟨_, rfl⟩
        obtain ⟨X, hXe⟩ : ∃ X, shN L = X := ⟨_, rfl⟩
        obtain ⟨Y, hYe⟩ : ∃ Y, shD L = Y := ⟨_, rfl⟩
        rw [hE, hVe] at HV1
        rw [hF, hUe] at HV2
        rw [hXe, hYe] at HSH
        have HL1 : Hid (fstV false L = V ∧ fstE false L = E) := Lib.hid ⟨hVe, hE⟩
        have HL2 : Hid (fstV true L = U ∧ fstE true L = F) := Lib.hid ⟨hUe, hF⟩
        have HL3 : Hid (shN L = X ∧ shD L = Y) := Lib.hid ⟨hXe, hYe⟩
        have t1 : (V == V) = true := beq_self_eq_true _
        have t2 : (U == U) = true := beq_self_eq_true _
        have t3 : (E == E) = true := beq_self_eq_true _
        have t4 : (F == F) = true := beq_self_eq_true _
        clear hE hF hVe hUe hXe hYe
        go_wp2_with fail
        refine (rvalid_any (some ⟨ab, ao, none⟩) n1 c L w2 HR2.out HW.out hl).mono ?_; rw [HV.out]; rintro e v1 ⟨rfl, hv1⟩
        have HY1 := Lib.hid hv1
        clear hv1
        go_wp2_with fail
        refine (HPX.out _ HY1.out).mono ?_; rintro e v4 ⟨A7, n7, c7, rfl, hr7, hv4⟩
        have hn7 : n7 ≤ 9223372036854775807 := by have h1 := hr7.1; omega
        go_wp2_with fail
        refine (left_yes A7 n7 c7 L v4 hr7 HW.out hn7 HV.out).mono ?_; rw [HL1.out.1, HL1.out.2]; rintro e v5 ⟨rfl, hv5⟩
        have HY5 := Lib.hid (bt (bt HY1.out hv4) hv5)
        clear hr7 hv4 hv5
        go_wp2_with fail
        refine (clone_any A2 n2 c2 P v5 (HMR.out _ HY5.out) hn2 HNA.out).mono ?_; rintro e v6 ⟨A8, n8, c8, rfl, hr8, hv6⟩
        have hn8 : n8 ≤ 9223372036854775807 := by have h1 := hr8.1; omega
        go_wp2_with fail
        refine (left_yes A8 n8 c8 P v6 hr8 HWP.out hn8 HVP.out).mono ?_; rw [HV1.out.1, HV1.out.2]; rintro e v7 ⟨rfl, hv7⟩
        have HY7 := Lib.hid (bt (bt HY5.out hv6) hv7)
        clear hr8 hv6 hv7
        go_wp2_with fail
        refine (HPX.out _ HY7.out).mono ?_; rintro e v8 ⟨A9, n9, c9, rfl, hr9, hv8⟩
        have hn9 : n9 ≤ 9223372036854775807 := by have h1 := hr9.1; omega
        go_wp2_with fail
        refine (twice_yes A9 n9 c9 L v8 hr9 HW.out hn9 HV.out).mono ?_; rw [HL2.out.1, HL2.out.2]; rintro e v9 ⟨rfl, hv9⟩
        have HY9 := Lib.hid (bt (bt HY7.out hv8) hv9)
        clear hr9 hv8 hv9
        go_wp2_with fail
        refine (clone_any A2 n2 c2 P v9 (HMR.out _ HY9.out) hn2 HNA.out).mono ?_; rintro e va ⟨Aa, na, ca, rfl, hra, hva⟩
        have hna : na ≤ 9223372036854775807 := by have h1 := hra.1; omega
        go_wp2_with fail
        refine (twice_yes Aa na ca P va hra HWP.out hna HVP.out).mono ?_; rw [HV2.out.1, HV2.out.2]; rintro e vb ⟨rfl, hvb⟩
        have HYB := Lib.hid (bt (bt HY9.out hva) hvb)
        clear hra hva hvb
        go_wp2_with fail
        refine (HPX.out _ HYB.out).mono ?_; rintro e vc ⟨Ac, nc, cc, rfl, hrc, hvc⟩
        have hnc : nc ≤ 9223372036854775807 := by have h1 := hrc.1; omega
        go_wp2_with fail
        refine (share_yes Ac nc cc L vc hrc HW.out hnc HV.out).mono ?_; rw [HL3.out.1, HL3.out.2]; rintro e vd ⟨rfl, hvd⟩
        have HYD := Lib.hid (bt (bt HYB.out hvc) hvd)
        have HYE : Hid (Below w2.heap.size w2 (vd.alloc (Obj.cells #[.int .i64 (X : Int), .int .i64 (Y : Int)] 32))) := Lib.hid (HYD.out.alloc HYD.out.size _)
        clear hrc hvc hvd
        go_wp2_with fail
        refine (share_yes A2 n2 c2 P _ (HMR.out _ HYE.out) HWP.out (by omega) HVP.out).mono ?_; rw [HSH.out.1, HSH.out.2]; rintro e ve ⟨rfl, hve⟩
        have HYF := Lib.hid (bt HYE.out hve)
        have hsd : vd.heap.size < ve.heap.size := by have := hve.size; simp at this; omega
        have k2 := hve.cell (p := ⟨vd.heap.size, 0, none⟩) (by simp)
        have k3 := hve.cell (p := ⟨vd.heap.size, 1, none⟩) (by simp)
        simp at k2 k3
        clear hve
        go_wp2_with fail
        refine (awake_any _).mono ?_; rintro e vg ⟨rfl, hvg⟩
        go_wp2_with fail
        go_ret
        exact ⟨rfl, bt HB2.out (bt (HYF.out.alloc HYF.out.size _) hvg)⟩
      · have HVP := Lib.hid hvp
        clear hvp
        go_wp2_with fail
        refine (awake_any _).mono ?_; rintro e w6 ⟨rfl, hb6⟩
        go_wp2_with fail
        go_ret
        exact ⟨rfl, bt HB2.out hb6⟩
    · have HIN := Lib.hid hin
      clear hin
      go_enter Try.func7, Try.ntmps7
      go_wp2_with fail
      refine (HPO.out w (Below.refl _ _)).mono ?_; rintro e w1 ⟨A1, n1, c1, rfl, how1, hb1⟩
      rw [HT.out] at how1
      have hn1 : n1 = l := by
        have h1 := how1.1
        rw [flat_len] at h1
        have := HL.out
        omega
      subst hn1
      have HR1 := Lib.hid (Row.of_own how1)
      have HB1 := Lib.hid hb1
      clear how1 hb1
      go_wp2_with fail
      refine (refine_out A1 n1 c1 i r L w1 HR1.out HW.out (by omega) HV.out HIN.out).mono ?_; rintro e w2 ⟨rfl, hb2⟩
      have HB2 := Lib.hid (bt HB1.out hb2)
      have HR2 := Lib.hid ((HR.out.below HB2.out).more HB2.out.size)
      clear hb2
      go_wp2_with fail
      refine (awake_any _).mono ?_; rintro e w6 ⟨rfl, hb6⟩
      go_wp2_with fail
      go_ret
      exact ⟨rfl, bt HB2.out hb6⟩
end Go.Proofs.Ytmmgidhaakkaoaa
