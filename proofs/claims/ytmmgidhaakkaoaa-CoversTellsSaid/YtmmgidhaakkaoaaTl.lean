/- CoversTells: the walk of the law. -/
import Derived.Test.YtmmgidhaakkaoaaCoH
import Derived.Test.YtmmgidhaakkaoaaAp
import Derived.Deep.RegionWith
import Derived.Deep.RegionHeld3
namespace Go.Proofs.Ytmmgidhaakkaoaa
open Go Go.RowKit GhC

set_option maxRecDepth 100000 in
set_option maxHeartbeats 1000000 in
theorem tells_walk (A : Option Addr) (l c : Nat) (L : List (Int × Int)) (w : World) (h : Row w w.heap.size A l L) (hw : W64 L) (hlc : l ≤ c) (hc : c ≤ maxLen) (hA : A = none → l = 0 ∧ c = 0) :
    Calls Try.prog 8 #[.slice A l c] w fun e w' => e = .returned (.bool true) ∧ Below w.heap.size w w' := by
  have hl : l ≤ 9223372036854775807 := by unfold maxLen at hc; omega
  have HR := Lib.hid h
  have HW := Lib.hid hw
  have HL := Lib.hid h.1
  have HP : Hid (∀ w1 : World, Below w.heap.size w w1 → Calls Try.prog 16 #[.slice A l c] w1 (GivesRow w1 (L.take 12))) := Lib.hid (fun w1 hb => pairs_any A l c L w1 ((h.below hb).more hb.size) hlc hc hA)
  have HNL : Hid (∀ (w1 : World) (A1 : Option Addr) (n1 : Nat), Row w1 w1.heap.size A1 n1 (L.take 12) → n1 ≤ 9223372036854775807) := Lib.hid (fun w1 A1 n1 hr => by have := hr.1; rw [List.length_take] at this; omega)
  clear h hw
  cases hv : validL L with
  | false =>
    have HV := Lib.hid hv
    have HV2 : Hid (validL (L.take 12) = false) := Lib.hid (by rw [valid_take]; exact hv)
    clear hv
    go_enter Try.func8, Try.ntmps8
    go_wp2_with fail
    refine (HP.out w (Below.refl _ _)).mono ?_; rintro e w1 ⟨A1, n1, c1, rfl, hr1, hb1⟩
    go_wp2_with fail
    refine (left_no A1 n1 c1 (L.take 12) w1 hr1 (HW.out.take 12) (HNL.out w1 A1 n1 hr1) HV2.out).mono ?_; rintro e w2 ⟨rfl, hb2⟩
    have HB2 := Lib.hid (bt hb1 hb2)
    clear hr1 hb1 hb2
    go_wp2_with fail
    refine (HP.out w2 HB2.out).mono ?_; rintro e w3 ⟨A3, n3, c3, rfl, hr3, hb3⟩
    go_wp2_with fail
    refine (twice_no A3 n3 c3 (L.take 12) w3 hr3 (HW.out.take 12) (HNL.out w3 A3 n3 hr3) HV2.out).mono ?_; rintro e w4 ⟨rfl, hb4⟩
    have HB4 := Lib.hid (bt (bt HB2.out hb3) hb4)
    clear hr3 hb3 hb4
    go_wp2_with fail
    refine (HP.out w4 HB4.out).mono ?_; rintro e w5 ⟨A5, n5, c5, rfl, hr5, hb5⟩
    go_wp2_with fail
    refine (share_no A5 n5 c5 (L.take 12) w5 hr5 (HW.out.take 12) (HNL.out w5 A5 n5 hr5) HV2.out).mono ?_; rintro e w6 ⟨rfl, hb6⟩
    have HB6 := Lib.hid (bt (bt HB4.out hb5) hb6)
    have HB7 : Hid (Below w.heap.size w (w6.alloc (Obj.cells #[.int .i64 0, .int .i64 0] 32))) := Lib.hid (HB6.out.alloc HB6.out.size _)
    clear hr5 hb5 hb6
    go_wp2_with fail
    refine (HP.out _ HB7.out).mono ?_; rintro e w7 ⟨A7, n7, c7, rfl, hr7, hb7⟩
    go_wp2_with fail
    refine (needless_no A7 n7 c7 (L.take 12) w7 hr7 (HW.out.take 12) (HNL.out w7 A7 n7 hr7) HV2.out).mono ?_; rintro e w8 ⟨rfl, hb8⟩
    have HB8 := Lib.hid (bt (bt HB7.out hb7) hb8)
    have HR8 := Lib.hid ((HR.out.below HB8.out).more HB8.out.size)
    have hbx : Below (w6.alloc (Obj.cells #[.int .i64 0, .int .i64 0] 32)).heap.size (w6.alloc (Obj.cells #[.int .i64 0, .int .i64 0] 32)) w8 := bt hb7 hb8
    have hs8 : w6.heap.size < w8.heap.size := by have := hbx.size; simp at this; omega
    have k0 := hbx.cell (p := ⟨w6.heap.size, 0, none⟩) (by simp)
    have k1 := hbx.cell (p := ⟨w6.heap.size, 1, none⟩) (by simp)
    simp at k0 k1
    clear hr7 hb7 hb8 hbx
    go_wp2_with fail
    refine (rvalid_any A l c L w8 HR8.out HW.out hl).mono ?_; rw [HV.out]; rintro e w9 ⟨rfl, hb9⟩
    have k2 := hb9.cell (p := ⟨w6.heap.size, 0, none⟩) hs8
    have k3 := hb9.cell (p := ⟨w6.heap.size, 1, none⟩) hs8
    rw [k0] at k2
    rw [k1] at k3
    clear k0 k1
    go_wp2_with fail
    refine (awake_any _).mono ?_; rintro e w10 ⟨rfl, hb10⟩
    go_wp2_with fail
    go_ret
    exact ⟨rfl, bt (bt HB8.out hb9) hb10⟩
  | true =>
    have HV := Lib.hid hv
    have HS := Lib.hid (validL_yes hv)
    have HT := Lib.hid (valid_len hv)
    have hl10 : l ≤ 10 := by have := HS.out.2.1; have := HL.out; omega
    obtain ⟨E, hE⟩ : ∃ E, fstE false L = E := ⟨_, rfl⟩
    obtain ⟨F, hF⟩ : ∃ F, fstE true L = F := ⟨_, rfl⟩
    have HE := Lib.hid hE
    have HF := Lib.hid hF
    obtain ⟨X, hX⟩ : ∃ X, shN L = X := ⟨_, rfl⟩
    obtain ⟨Y, hY⟩ : ∃ Y, shD L = Y := ⟨_, rfl⟩
    have HX := Lib.hid hX
    have HY := Lib.hid hY
    clear hv hE hF hX hY
    go_enter Try.func8, Try.ntmps8
    go_wp2_with fail
    refine (HP.out w (Below.refl _ _)).mono ?_; rintro e w1 ⟨A1, n1, c1, rfl, hr1, hb1⟩
    have HN1 := Lib.hid (HNL.out w1 A1 n1 hr1)
    rw [HT.out] at hr1
    go_wp2_with fail
    refine (left_yes A1 n1 c1 L w1 hr1 HW.out HN1.out HV.out).mono ?_; rw [HE.out]; rintro e w2 ⟨rfl, hb2⟩
    have HB2 := Lib.hid (bt hb1 hb2)
    clear hr1 hb1 hb2
    go_wp2_with fail
    refine (HP.out w2 HB2.out).mono ?_; rintro e w3 ⟨A3, n3, c3, rfl, hr3, hb3⟩
    have HN3 := Lib.hid (HNL.out w3 A3 n3 hr3)
    rw [HT.out] at hr3
    go_wp2_with fail
    refine (twice_yes A3 n3 c3 L w3 hr3 HW.out HN3.out HV.out).mono ?_; rw [HF.out]; rintro e w4 ⟨rfl, hb4⟩
    have HB4 := Lib.hid (bt (bt HB2.out hb3) hb4)
    clear hr3 hb3 hb4
    go_wp2_with fail
    refine (HP.out w4 HB4.out).mono ?_; rintro e w5 ⟨A5, n5, c5, rfl, hr5, hb5⟩
    have HN5 := Lib.hid (HNL.out w5 A5 n5 hr5)
    rw [HT.out] at hr5
    go_wp2_with fail
    refine (share_yes A5 n5 c5 L w5 hr5 HW.out HN5.out HV.out).mono ?_; rw [HX.out, HY.out]; rintro e w6 ⟨rfl, hb6⟩
    have HB6 := Lib.hid (bt (bt HB4.out hb5) hb6)
    have HB7 : Hid (Below w.heap.size w (w6.alloc (Obj.cells #[.int .i64 (X : Int), .int .i64 (Y : Int)] 32))) := Lib.hid (HB6.out.alloc HB6.out.size _)
    clear hr5 hb5 hb6
    go_wp2_with fail
    refine (HP.out _ HB7.out).mono ?_; rintro e w7 ⟨A7, n7, c7, rfl, hr7, hb7⟩
    have HN7 := Lib.hid (HNL.out w7 A7 n7 hr7)
    rw [HT.out] at hr7
    go_wp2_with fail
    refine (needless_yes A7 n7 c7 L w7 hr7 HW.out HN7.out HV.out).mono ?_; rintro e w8 ⟨A8, n8, c8, rfl, hr8, hb8⟩
    have HB8 := Lib.hid (bt (bt HB7.out hb7) hb8)
    have HR8 := Lib.hid ((HR.out.below HB8.out).more HB8.out.size)
    have HND := Lib.hid hr8
    have hn8 : n8 ≤ 10 := by
      have h1 := hr8.1
      have h2 := ndUp_len L L.length
      have h3 := HS.out.2.1
      omega
    have hbx : Below (w6.alloc (Obj.cells #[.int .i64 (X : Int), .int .i64 (Y : Int)] 32)).heap.size (w6.alloc (Obj.cells #[.int .i64 (X : Int), .int .i64 (Y : Int)] 32)) w8 := bt hb7 hb8
    have hs8 : w6.heap.size < w8.heap.size := by have := hbx.size; simp at this; omega
    have k0 := hbx.cell (p := ⟨w6.heap.size, 0, none⟩) (by simp)
    have k1 := hbx.cell (p := ⟨w6.heap.size, 1, none⟩) (by simp)
    simp at k0 k1
    have K0 := Lib.hid k0
    have K1 := Lib.hid k1
    clear hr7 hb7 hb8 hbx hr8 k0 k1
    go_wp2_with fail
    refine (rvalid_any A l c L w8 HR8.out HW.out hl).mono ?_; rw [HV.out]; rintro e w9 ⟨rfl, hb9⟩
    have HR9 := Lib.hid ((HR8.out.below hb9).more hb9.size)
    go_wp2_with fail
    refine (rleft_any A l c L w9 HR9.out HS.out).mono ?_; rw [HE.out]; rintro e w10 ⟨rfl, hb10⟩
    have HR10 := Lib.hid ((HR9.out.below hb10).more hb10.size)
    go_wp2_with fail
    refine (rtwice_any A l c L w10 HR10.out HS.out).mono ?_; rw [HF.out]; rintro e w11 ⟨rfl, hb11⟩
    have HB11 : Hid (Below w8.heap.size w8 w11) := Lib.hid (bt (bt hb9 hb10) hb11)
    have HRX : Hid (∀ w', Below w8.heap.size w8 w' → Row w' w'.heap.size A l L) := Lib.hid (fun w' hb => (HR8.out.below hb).more hb.size)
    have HNX : Hid (∀ w', Below w8.heap.size w8 w' → IRow w' w'.heap.size A8 n8 (ndUp L L.length)) := Lib.hid (fun w' hb => (HND.out.below hb).more hb.size)
    have HKX : Hid (∀ w', Below w8.heap.size w8 w' → w'.cell? ⟨w6.heap.size, 0, none⟩ = some (.int .i64 (X : Int)) ∧ w'.cell? ⟨w6.heap.size, 1, none⟩ = some (.int .i64 (Y : Int))) := Lib.hid (fun w' hb => ⟨(hb.cell (p := ⟨w6.heap.size, 0, none⟩) hs8).trans K0.out, (hb.cell (p := ⟨w6.heap.size, 1, none⟩) hs8).trans K1.out⟩)
    clear hb9 hb10 hb11
    obtain ⟨k0, k1⟩ := HKX.out _ HB11.out
    have t1 : (fstV false L == fstV false L) = true := beq_self_eq_true _
    have t2 : (fstV true L == fstV true L) = true := beq_self_eq_true _
    have t3 : (E == E) = true := beq_self_eq_true _
    have t4 : (F == F) = true := beq_self_eq_true _
    go_wp2_with fail
    go_region_held3 (fun w' => w'.cell? ⟨w6.heap.size, 0, none⟩ = some (.int .i64 (X : Int)) ∧ w'.cell? ⟨w6.heap.size, 1, none⟩ = some (.int .i64 (Y : Int))) (first | exact ⟨k0, k1⟩ | exact ⟨ka0, ka1⟩ | exact ⟨kb0, kb1⟩ | exact ⟨kc0, kc1⟩ | exact ⟨kd0, kd1⟩ | go_keep)
      (first
      | (go_at_call 30; refine (rshare_any A l c L _ (HRX.out _ HB11.out.drew) HS.out).mono ?_; rw [HX.out, HY.out]; rintro e wa ⟨rfl, hba⟩; obtain ⟨ka0, ka1⟩ := HKX.out _ (bt HB11.out.drew hba))
      | (go_at_call 32; refine (rneedless_any A l c L _ (HRX.out _ (bt HB11.out.drew hba)) HS.out).mono ?_; rintro e wb ⟨Ab, nb, cb, rfl, hrb, hbb⟩; obtain ⟨kb0, kb1⟩ := HKX.out _ (bt (bt HB11.out.drew hba) hbb); obtain rfl : nb = n8 := (hrb.1.trans HND.out.1.symm))
      | (go_at_call 31; refine (equal_ints A8 Ab _ c8 cb (ndUp L L.length) _ (HNX.out _ (bt (bt HB11.out.drew hba) hbb)) hrb (by omega)).mono ?_; rintro e wc ⟨rfl, hbc⟩; obtain ⟨kc0, kc1⟩ := HKX.out _ (bt (bt (bt HB11.out.drew hba) hbb) hbc))
      | (go_at_call 19; refine (awake_any _).mono ?_; rintro e wd ⟨rfl, hbd⟩; obtain ⟨kd0, kd1⟩ := HKX.out _ (bt (bt (bt (bt HB11.out.drew hba) hbb) hbc) hbd)))
    go_wp2_with fail
    go_ret
    exact ⟨rfl, bt HB8.out (bt (bt (bt (bt HB11.out.drew hba) hbb) hbc) hbd)⟩
end Go.Proofs.Ytmmgidhaakkaoaa
