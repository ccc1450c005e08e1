/- CoversMoves: the walk of the law. -/
import Derived.Test.YtmmgidhaakkaoaaCoH
import Derived.Test.YtmmgidhaakkaoaaAp
import Derived.Test.YtmmgidhaakkaoaaCvP
import Derived.Test.YtmmgidhaakkaoaaCoO
import Derived.Deep.RegionHeld3
import Derived.BigRegion
namespace Go.Proofs.Ytmmgidhaakkaoaa
open Go Go.RowKit GhC

/-- the first k pairs moved -/
def mvUp (b : Int) (L : List (Int × Int)) (k : Nat) : List (Int × Int) := (L.take k).map (mv b) ++ L.drop k
theorem mvUp_zero (b : Int) (L : List (Int × Int)) : mvUp b L 0 = L := by simp [mvUp]
theorem mvUp_all (b : Int) (L : List (Int × Int)) : mvUp b L L.length = L.map (mv b) := by simp [mvUp]
theorem mvUp_len (b : Int) (L : List (Int × Int)) (k : Nat) : (mvUp b L k).length = L.length := by
  unfold mvUp
  rw [List.length_append, List.length_map, List.length_take, List.length_drop]; omega
theorem mvUp_at {b : Int} {L : List (Int × Int)} {k : Nat} {p : Int × Int} (h : L[k]? = some p) : (mvUp b L k)[k]? = some p := by
  have hk := (List.getElem?_eq_some_iff.1 h).1
  unfold mvUp
  have hl : ((L.take k).map (mv b)).length = k := by rw [List.length_map, List.length_take]; omega
  rw [List.getElem?_append_right (by omega), hl, Nat.sub_self, List.getElem?_drop, Nat.add_zero, h]
theorem flat_cons (p : Int × Int) (L : List (Int × Int)) : flat (p :: L) = .int .i64 p.1 :: .int .i64 p.2 :: flat L := rfl
theorem mvUp_set {b : Int} {L : List (Int × Int)} {k : Nat} {x m : Int} (h : L[k]? = some (x, m)) : (flat (mvUp b L k)).set (k * 2) (.int .i64 ((x + b) % m)) = flat (mvUp b L (k + 1)) := by
  obtain ⟨hk, e⟩ := List.getElem?_eq_some_iff.1 h
  unfold mvUp
  have hl : (flat ((L.take k).map (mv b))).length = k * 2 := by rw [flat_len, List.length_map, List.length_take]; congr 1; omega
  rw [flat_append, List.set_append_right _ _ (by omega), hl, Nat.sub_self, List.drop_eq_getElem_cons hk, e, flat_cons, List.set_cons_zero, take_at h, List.map_append, List.append_assoc, flat_append]
  rfl

set_option maxRecDepth 100000 in
set_option maxHeartbeats 1000000 in
theorem moves_walk (A : Option Addr) (l c : Nat) (by_ : Int) (L : List (Int × Int)) (w : World) (h : Row w w.heap.size A l L) (hw : W64 L) (hlc : l ≤ c) (hc : c ≤ maxLen) (hA : A = none → l = 0 ∧ c = 0) (_hlo : -9223372036854775808 ≤ by_) (_hhi : by_ ≤ 9223372036854775807) :
    Calls Try.prog 9 #[.slice A l c, .int .i64 by_] w fun e w' => e = .returned (.bool true) ∧ Below w.heap.size w w' := by
  have hl : l ≤ 9223372036854775807 := by unfold maxLen at hc; omega
  have HR := Lib.hid h
  have HW := Lib.hid hw
  have HL := Lib.hid h.1
  have HP : Hid (∀ w1 : World, Below w.heap.size w w1 → Calls Try.prog 16 #[.slice A l c] w1 (GivesRow w1 (L.take 12))) := Lib.hid (fun w1 hb => pairs_any A l c L w1 ((h.below hb).more hb.size) hlc hc hA)
  have HPO : Hid (∀ w1 : World, Below w.heap.size w w1 → Calls Try.prog 16 #[.slice A l c] w1 (GivesOwn w1 (L.take 12))) := Lib.hid (fun w1 hb => pairs_own A l c L w1 ((h.below hb).more hb.size) hlc hc hA)
  have HNL : Hid (∀ (w1 : World) (A1 : Option Addr) (n1 : Nat), Row w1 w1.heap.size A1 n1 (L.take 12) → n1 ≤ 9223372036854775807) := Lib.hid (fun w1 A1 n1 hr => by have := hr.1; rw [List.length_take] at this; omega)
  clear h hw
  cases hv : validL L with
  | false =>
    have HV := Lib.hid hv
    have HV2 : Hid (validL (L.take 12) = false) := Lib.hid (by rw [valid_take]; exact hv)
    clear hv
    go_enter Try.func9, Try.ntmps9
    go_wp2_with fail
    refine (HP.out w (Below.refl _ _)).mono ?_; rintro e w1 ⟨A1, n1, c1, rfl, hr1, hb1⟩
    go_wp2_with fail
    refine (share_no A1 n1 c1 (L.take 12) w1 hr1 (HW.out.take 12) (HNL.out w1 A1 n1 hr1) HV2.out).mono ?_; rintro e w2 ⟨rfl, hb2⟩
    have HB2 := Lib.hid (bt hb1 hb2)
    clear hr1 hb1 hb2
    go_wp2_with fail
    refine (awake_any _).mono ?_; rintro e w3 ⟨rfl, hb3⟩
    go_wp2_with fail
    go_ret
    exact ⟨rfl, bt (HB2.out.alloc HB2.out.size _) hb3⟩
  | true =>
    have HV := Lib.hid hv
    have HS := Lib.hid (validL_yes hv)
    have HT := Lib.hid (valid_len hv)
    have hl10 : l ≤ 10 := by have := HS.out.2.1; have := HL.out; omega
    obtain ⟨X, hX⟩ : ∃ X, shN L = X := ⟨_, rfl⟩
    obtain ⟨Y, hY⟩ : ∃ Y, shD L = Y := ⟨_, rfl⟩
    have HX := Lib.hid hX
    have HY := Lib.hid hY
    clear hv hX hY
    go_enter Try.func9, Try.ntmps9
    go_wp2_with fail
    refine (HP.out w (Below.refl _ _)).mono ?_; rintro e w1 ⟨A1, n1, c1, rfl, hr1, hb1⟩
    have HN1 := Lib.hid (HNL.out w1 A1 n1 hr1)
    rw [HT.out] at hr1
    go_wp2_with fail
    refine (share_yes A1 n1 c1 L w1 hr1 HW.out HN1.out HV.out).mono ?_; rw [HX.out, HY.out]; rintro e w2 ⟨rfl, hb2⟩
    have HB2 := Lib.hid (bt hb1 hb2)
    have HB3 : Hid (Below w.heap.size w (w2.alloc (Obj.cells #[.int .i64 (X : Int), .int .i64 (Y : Int)] 32))) := Lib.hid (HB2.out.alloc HB2.out.size _)
    have HR3 := Lib.hid ((HR.out.below HB3.out).more HB3.out.size)
    clear hr1 hb1 hb2
    go_wp2_with fail
    refine (rvalid_any A l c L _ HR3.out HW.out hl).mono ?_; rw [HV.out]; rintro e w4 ⟨rfl, hb4⟩
    have HB4 := Lib.hid (bt HB3.out hb4)
    have hbv : ∃ b : Nat, b < 10080 ∧ wrap64 ((IntKind.u64.wrap by_).tmod 10080) = (b : Int) := by
      have h0 : 0 ≤ IntKind.u64.wrap by_ := by rw [IntKind.wrap_u64]; omega
      rw [Int.tmod_eq_emod_of_nonneg h0]
      have h1 := Int.emod_nonneg (IntKind.u64.wrap by_) (show (10080 : Int) ≠ 0 by omega)
      have h2 := Int.emod_lt_of_pos (IntKind.u64.wrap by_) (show (0 : Int) < 10080 by omega)
      refine ⟨(IntKind.u64.wrap by_ % 10080).toNat, by omega, ?_⟩
      rw [w64 _ (by omega) (by omega), Int.toNat_of_nonneg h1]
    obtain ⟨b, hb1, hb2⟩ := hbv
    have HBV := Lib.hid hb2
    have hbx4 : Below (w2.heap.size + 1) (w2.alloc (Obj.cells #[.int .i64 (X : Int), .int .i64 (Y : Int)] 32)) w4 := by have := hb4; simp at this; exact this
    have hs4 : w2.heap.size + 1 ≤ w4.heap.size := by have := hb4.size; simpa using this
    have HBX4 := Lib.hid hbx4
    clear hb2 hb4 hbx4
    go_wp2_with fail
    rw [HBV.out]
    refine (HPO.out w4 HB4.out).mono ?_; rintro e w5 ⟨A5, n5, c5, rfl, how5, hb5⟩
    rw [HT.out] at how5
    have hn5 : n5 = l := by
      have h1 := how5.1
      rw [flat_len] at h1
      have := HL.out
      omega
    subst hn5
    have hn1 : 1 ≤ n5 := by have := HL.out; have := HS.out.1; omega
    obtain ⟨g, rfl, hg⟩ : ∃ g, A5 = some ⟨g, 0, none⟩ ∧ w4.heap.size ≤ g := by
      rcases how5.2 with ⟨_, h0⟩ | ⟨g, cap, cur, hv, hg, _⟩
      · omega
      · injection hv with hA _ _
        exact ⟨g, hA, hg⟩
    have HOW5 := Lib.hid how5
    have HB5 := Lib.hid (bt HB4.out hb5)
    have HB45 := Lib.hid hb5
    clear how5 hb5
    go_wp2_with fail
    go_loopw [8, 49] (fun _ x wr => ∃ k : Nat, k ≤ n5 ∧ x = .int .i64 (k : Int) ∧ Hid (wr.ownsRow w4.heap.size 29 2 (.slice (some ⟨g, 0, none⟩) n5 c5) n5 (flat (mvUp (b : Int) L k))) ∧ Below w4.heap.size w4 wr) (fun _ x _ => n5 - (intOf x).toNat)
    case atStart => exact ⟨0, by omega, rfl, Lib.hid (by rw [mvUp_zero]; exact HOW5.out), HB45.out⟩
    case round =>
      obtain ⟨k, hk, rfl, how, hb⟩ := hrel
      by_cases hlt : k < n5
      · obtain ⟨x, m, hx⟩ : ∃ x m, L[k]? = some (x, m) := by
          have : k < L.length := by have := HL.out; omega
          exact ⟨L[k].1, L[k].2, List.getElem?_eq_getElem this⟩
        obtain ⟨m1, m2, x1, x2⟩ := HS.out.2.2.1 (x, m) (List.mem_of_getElem? hx)
        simp only at m1 m2 x1 x2
        obtain ⟨f1, f2⟩ := flat_at _ k _ (mvUp_at (b := (b : Int)) hx)
        have g1 := how.out.cellAt (k * 2) (by omega)
        have g2 := how.out.cellAt (k * 2 + 1) (by omega)
        rw [f1] at g1
        rw [f2] at g2
        have g3 := how.out.frozenAt (k * 2)
        have HSET := Lib.hid (mvUp_set (b := (b : Int)) hx)
        have hki : (k : Int) < (n5 : Int) := by omega
        have s1 : IntKind.i64.wrap (x + (b : Int)) = x + (b : Int) := IntWalk.i64_in _ (by omega)
        have s2 : (x + (b : Int)).tmod m = (x + (b : Int)) % m := Int.tmod_eq_emod_of_nonneg (by omega)
        have hgs : g < wr.heap.size := (how.out.lt g rfl).2
        clear hx f1 f2
        go_wp2_with fail
        go_region
        go_wp2_with fail
        go_roundw
        case rel => exact ⟨k + 1, by omega, by go_num, Lib.hid (by rw [← HSET.out]; exact (how.out.stored (k * 2) (.int .i64 ((x + (b : Int)) % m))).1), (hb.setCell (p := ⟨g, k * 2, none⟩) hg _).drew⟩
        case measure => simp [intOf]; omega
      · have e : k = n5 := by omega
        subst e
        obtain ⟨M, hM⟩ : ∃ M, L.map (mv (b : Int)) = M := ⟨_, rfl⟩
        have HML := Lib.hid hM
        have hMU : mvUp (b : Int) L k = M := by rw [← hM, ← mvUp_all, ← HL.out]
        rw [hMU] at how
        have HSM : Hid (Sys M) := Lib.hid (by rw [← hM]; exact sys_mv HS.out)
        have HVM : Hid (validL M = true) := Lib.hid (validL_mk HSM.out)
        have HWM : Hid (W64 M) := Lib.hid (fun p hp => by
          obtain ⟨h1, h2, h3, h4⟩ := HSM.out.2.2.1 p hp
          omega)
        have HXM : Hid (shN M = X ∧ shD M = Y) := Lib.hid (by rw [← hM, (share_mv HS.out).1, (share_mv HS.out).2, HX.out, HY.out]; exact ⟨rfl, rfl⟩)
        have HEM : Hid (∀ t, fstE t M = fstE t L) := Lib.hid (fun t => by rw [← hM]; exact fstE_mv t HS.out)
        have HNM : Hid (ndUp M M.length = ndUp L L.length) := Lib.hid (by rw [← hM]; exact ndUp_mv HS.out)
        have HMR : Hid (∀ w', Below wr.heap.size wr w' → Row w' w'.heap.size (some ⟨g, 0, none⟩) k M) := Lib.hid (fun w' hb => ((Row.of_own how.out).below hb).more hb.size)
        have HBA : Hid (Below w.heap.size w wr) := Lib.hid (bt HB4.out hb)
        have HPX : Hid (∀ w', Below wr.heap.size wr w' → Calls Try.prog 16 #[.slice A k c] w' (GivesRow w' L)) := Lib.hid (fun w' hb => by have := HP.out w' (bt HBA.out hb); rwa [HT.out] at this)
        have hbb : Below (w2.heap.size + 1) (w2.alloc (Obj.cells #[.int .i64 (X : Int), .int .i64 (Y : Int)] 32)) wr := HBX4.out.trans (hb.mono hs4)
        have hsr : w2.heap.size + 1 ≤ wr.heap.size := by have := hb.size; omega
        have HK1 : Hid (∀ w', Below wr.heap.size wr w' → w'.cell? ⟨w2.heap.size, 0, none⟩ = some (.int .i64 (X : Int)) ∧ w'.cell? ⟨w2.heap.size, 1, none⟩ = some (.int .i64 (Y : Int))) := Lib.hid (fun w' hb => by
          have h2 := hbb.trans (hb.mono hsr)
          have k0 := h2.cell (p := ⟨w2.heap.size, 0, none⟩) (by simp)
          have k1 := h2.cell (p := ⟨w2.heap.size, 1, none⟩) (by simp)
          simp at k0 k1
          exact ⟨k0, k1⟩)
        obtain ⟨E, hE⟩ : ∃ E, fstE false L = E := ⟨_, rfl⟩
        obtain ⟨F, hF⟩ : ∃ F, fstE true L = F := ⟨_, rfl⟩
        have HE := Lib.hid hE
        have HF := Lib.hid hF
        have HE2 : Hid (fstE false M = E) := Lib.hid (by rw [HEM.out, hE])
        have HF2 : Hid (fstE true M = F) := Lib.hid (by rw [HEM.out, hF])
        have hk10 : k ≤ 1000000 := by omega
        have hND := ndUp_len L L.length
        have hLk1 : L.length ≤ k := by have := HL.out; omega
        have t3 : (E == E) = true := beq_self_eq_true _
        have t4 : (F == F) = true := beq_self_eq_true _
        clear how hb hbb hE hF hM hMU
        have HZ : Hid (Below wr.heap.size wr wr) := Lib.hid (Below.refl _ _)
        go_wp2_with fail
        refine (clone_any (some ⟨g, 0, none⟩) k c5 M wr (HMR.out _ HZ.out) hk10 (fun h => by cases h)).mono ?_; rintro e v1 ⟨A6, n6, c6, rfl, hr6, hv1⟩
        have hn6 : n6 ≤ 9223372036854775807 := by have h1 := hr6.1; have h2 := (HMR.out _ HZ.out).1; omega
        go_wp2_with fail
        refine (share_yes A6 n6 c6 M v1 hr6 HWM.out hn6 HVM.out).mono ?_; rw [HXM.out.1, HXM.out.2]; rintro e v2 ⟨rfl, hv2⟩
        have HV2 := Lib.hid (bt hv1 hv2)
        have HV3 : Hid (Below wr.heap.size wr (v2.alloc (Obj.cells #[.int .i64 (X : Int), .int .i64 (Y : Int)] 32))) := Lib.hid (HV2.out.alloc HV2.out.size _)
        clear hr6 hv1 hv2
        go_wp2_with fail
        refine (HPX.out _ HV3.out).mono ?_; rintro e v4 ⟨A7, n7, c7, rfl, hr7, hv4⟩
        have hn7 : n7 ≤ 9223372036854775807 := by have h1 := hr7.1; omega
        have HBX := Lib.hid hv4
        go_wp2_with fail
        refine (left_yes A7 n7 c7 L v4 hr7 HW.out hn7 HV.out).mono ?_; rw [HE.out]; rintro e v5 ⟨rfl, hv5⟩
        have HV5 := Lib.hid (bt (bt HV3.out hv4) hv5)
        have HC5 := Lib.hid (bt hv4 hv5)
        clear hr7 hv4 hv5 HBX
        go_wp2_with fail
        refine (clone_any (some ⟨g, 0, none⟩) k c5 M v5 (HMR.out _ HV5.out) hk10 (fun h => by cases h)).mono ?_; rintro e v6 ⟨A8, n8, c8, rfl, hr8, hv6⟩
        have hn8 : n8 ≤ 9223372036854775807 := by have h1 := hr8.1; have h2 := (HMR.out _ HZ.out).1; omega
        go_wp2_with fail
        refine (left_yes A8 n8 c8 M v6 hr8 HWM.out hn8 HVM.out).mono ?_; rw [HE2.out]; rintro e v7 ⟨rfl, hv7⟩
        have HV7 := Lib.hid (bt (bt HV5.out hv6) hv7)
        have HC7 := Lib.hid (bt HC5.out (bt hv6 hv7))
        clear hr8 hv6 hv7
        go_wp2_with fail
        refine (HPX.out _ HV7.out).mono ?_; rintro e v8 ⟨A9, n9, c9, rfl, hr9, hv8⟩
        have hn9 : n9 ≤ 9223372036854775807 := by have h1 := hr9.1; omega
        go_wp2_with fail
        refine (twice_yes A9 n9 c9 L v8 hr9 HW.out hn9 HV.out).mono ?_; rw [HF.out]; rintro e v9 ⟨rfl, hv9⟩
        have HV9 := Lib.hid (bt (bt HV7.out hv8) hv9)
        have HC9 := Lib.hid (bt HC7.out (bt hv8 hv9))
        clear hr9 hv8 hv9
        go_wp2_with fail
        refine (clone_any (some ⟨g, 0, none⟩) k c5 M v9 (HMR.out _ HV9.out) hk10 (fun h => by cases h)).mono ?_; rintro e va ⟨Aa, na, ca, rfl, hra, hva⟩
        have hna : na ≤ 9223372036854775807 := by have h1 := hra.1; have h2 := (HMR.out _ HZ.out).1; omega
        go_wp2_with fail
        refine (twice_yes Aa na ca M va hra HWM.out hna HVM.out).mono ?_; rw [HF2.out]; rintro e vb ⟨rfl, hvb⟩
        have HVB := Lib.hid (bt (bt HV9.out hva) hvb)
        have HCB := Lib.hid (bt HC9.out (bt hva hvb))
        clear hra hva hvb
        go_wp2_with fail
        refine (HPX.out _ HVB.out).mono ?_; rintro e vc ⟨Ac, nc, cc, rfl, hrc, hvc⟩
        have hnc : nc ≤ 9223372036854775807 := by have h1 := hrc.1; omega
        go_wp2_with fail
        refine (needless_yes Ac nc cc L vc hrc HW.out hnc HV.out).mono ?_; rintro e vd ⟨Ad, nd, cd, rfl, hrd, hvd⟩
        have HVD := Lib.hid (bt (bt HVB.out hvc) hvd)
        have HCD := Lib.hid (bt HCB.out (bt hvc hvd))
        have HID := Lib.hid hrd
        clear hrc hvc hvd hrd
        go_wp2_with fail
        refine (needless_yes (some ⟨g, 0, none⟩) k c5 M vd (HMR.out _ HVD.out) HWM.out (by omega) HVM.out).mono ?_; rw [HNM.out]; rintro e ve ⟨Ae, ne, ce, rfl, hre, hve⟩
        have HVE := Lib.hid (bt HVD.out hve)
        have HCE := Lib.hid (bt HCD.out hve)
        have hnd : nd = ne := HID.out.1.trans hre.1.symm
        subst hnd
        have HI1 : Hid (IRow ve ve.heap.size Ad nd (ndUp L L.length)) := Lib.hid ((HID.out.below hve).more hve.size)
        have HI2 := Lib.hid hre
        have hnd10 : nd ≤ 1000000 := by have := hre.1; omega
        obtain ⟨k0, k1⟩ := HK1.out _ HVE.out
        have k2 := HCE.out.cell (p := ⟨v2.heap.size, 0, none⟩) (by simp)
        have k3 := HCE.out.cell (p := ⟨v2.heap.size, 1, none⟩) (by simp)
        simp at k2 k3
        clear hre hve
        go_wp2_with fail
        refine (equal_ints Ad Ae nd cd ce (ndUp L L.length) ve HI1.out HI2.out hnd10).mono ?_; rintro e vf ⟨rfl, hvf⟩
        go_wp2_with fail
        refine (awake_any _).mono ?_; rintro e vg ⟨rfl, hvg⟩
        go_wp2_with fail
        go_ret
        exact ⟨rfl, bt HBA.out (bt (bt HVE.out hvf) hvg)⟩
end Go.Proofs.Ytmmgidhaakkaoaa
