/- CoversSums: the walk of the law. -/
import Derived.Test.YtmmgidhaakkaoaaCoF
import Derived.Test.YtmmgidhaakkaoaaAp
namespace Go.Proofs.Ytmmgidhaakkaoaa
open Go Go.RowKit GhC

set_option maxRecDepth 100000 in
set_option maxHeartbeats 1000000 in
theorem sums_walk (A : Option Addr) (l c : Nat) (L : List (Int × Int)) (w : World) (h : Row w w.heap.size A l L) (hw : W64 L) (hlc : l ≤ c) (hc : c ≤ maxLen) (hA : A = none → l = 0 ∧ c = 0) :
    Calls Try.prog 5 #[.slice A l c] w fun e w' => e = .returned (.bool true) ∧ Below w.heap.size w w' := by
  have hl : l ≤ 9223372036854775807 := by unfold maxLen at hc; omega
  have HR := Lib.hid h
  have HW := Lib.hid hw
  have HL := Lib.hid h.1
  have HP : Hid (∀ w1 : World, Below w.heap.size w w1 → Calls Try.prog 16 #[.slice A l c] w1 (GivesRow w1 (L.take 12))) := Lib.hid (fun w1 hb => pairs_any A l c L w1 ((h.below hb).more hb.size) hlc hc hA)
  have HNL : Hid (∀ (w1 : World) (A1 : Option Addr) (n1 : Nat), Row w1 w1.heap.size A1 n1 (L.take 12) → n1 ≤ 9223372036854775807) := Lib.hid (fun w1 A1 n1 hr => by have := hr.1; rw [List.length_take] at this; omega)
  clear h hw
  cases hv : validL L with
  | false =>
    have HV := Lib.hid hv
    have HV2 : Hid (validL (L.take 12) = false) := Lib.hid (by rw [valid_take]; exact hv)
    clear hv
    go_enter Try.func5, Try.ntmps5
    go_wp2_with fail
    refine (HP.out w (Below.refl _ _)).mono ?_; rintro e w1 ⟨A1, n1, c1, rfl, hr1, hb1⟩
    go_wp2_with fail
    refine (left_no A1 n1 c1 (L.take 12) w1 hr1 (HW.out.take 12) (HNL.out w1 A1 n1 hr1) HV2.out).mono ?_; rintro e w2 ⟨rfl, hb2⟩
    have HB2 := Lib.hid (bt hb1 hb2)
    clear hr1 hb1 hb2
    go_wp2_with fail
    refine (HP.out w2 HB2.out).mono ?_; rintro e w3 ⟨A3, n3, c3, rfl, hr3, hb3⟩
    go_wp2_with fail
    refine (twice_no A3 n3 c3 (L.take 12) w3 hr3 (HW.out.take 12) (HNL.out w3 A3 n3 hr3) HV2.out).mono ?_; rintro e w4 ⟨rfl, hb4⟩
    have HB4 := Lib.hid (bt (bt HB2.out hb3) hb4)
    clear hr3 hb3 hb4
    go_wp2_with fail
    refine (HP.out w4 HB4.out).mono ?_; rintro e w5 ⟨A5, n5, c5, rfl, hr5, hb5⟩
    go_wp2_with fail
    refine (share_no A5 n5 c5 (L.take 12) w5 hr5 (HW.out.take 12) (HNL.out w5 A5 n5 hr5) HV2.out).mono ?_; rintro e w6 ⟨rfl, hb6⟩
    have HB6 := Lib.hid (bt (bt HB4.out hb5) hb6)
    have HB7 : Hid (Below w.heap.size w (w6.alloc (Obj.cells #[.int .i64 0, .int .i64 0] 32))) := Lib.hid (HB6.out.alloc HB6.out.size _)
    have HR6 := Lib.hid ((HR.out.below HB7.out).more HB7.out.size)
    clear hr5 hb5 hb6
    go_wp2_with fail
    refine (rwhole_any A l c L _ HR6.out HW.out hl).mono ?_; rintro e w7 ⟨rfl, hb7⟩
    go_wp2_with fail
    refine (awake_any _).mono ?_; rintro e w8 ⟨rfl, hb8⟩
    go_wp2_with fail
    go_ret
    exact ⟨rfl, bt (bt HB7.out hb7) hb8⟩
  | true =>
    have HV := Lib.hid hv
    have HS := Lib.hid (validL_yes hv)
    have HT := Lib.hid (valid_len hv)
    have hl10 : l ≤ 10 := by have := HS.out.2.1; have := HL.out; omega
    have hW := HS.out.pos
    have hW2 := HS.out.2.2.2
    have HWR := Lib.hid (whR_ok L 1 (by omega) (by omega) (Sys.mods HS.out.2.2.1) HS.out.2.2.2).1
    obtain ⟨W, hWe⟩ : ∃ W, wh L 1 = W := ⟨_, rfl⟩
    have HWe := Lib.hid hWe
    rw [hWe] at hW hW2 HWR
    have hW0 : ((W : Int) == 0) = false := by simp; omega
    obtain ⟨E, hE⟩ : ∃ E, fstE false L = E := ⟨_, rfl⟩
    obtain ⟨F, hF⟩ : ∃ F, fstE true L = F := ⟨_, rfl⟩
    have HE := Lib.hid hE
    have HF := Lib.hid hF
    obtain ⟨X, hX⟩ : ∃ X, shN L = X := ⟨_, rfl⟩
    obtain ⟨Y, hY⟩ : ∃ Y, shD L = Y := ⟨_, rfl⟩
    have HX := Lib.hid hX
    have HY := Lib.hid hY
    clear hv hE hF hX hY hWe
    go_enter Try.func5, Try.ntmps5
    go_wp2_with fail
    refine (HP.out w (Below.refl _ _)).mono ?_; rintro e w1 ⟨A1, n1, c1, rfl, hr1, hb1⟩
    have HN1 := Lib.hid (HNL.out w1 A1 n1 hr1)
    rw [HT.out] at hr1
    go_wp2_with fail
    refine (left_yes A1 n1 c1 L w1 hr1 HW.out HN1.out HV.out).mono ?_; rw [HE.out]; rintro e w2 ⟨rfl, hb2⟩
    have HB2 := Lib.hid (bt hb1 hb2)
    clear hr1 hb1 hb2
    go_wp2_with fail
    refine (HP.out w2 HB2.out).mono ?_; rintro e w3 ⟨A3, n3, c3, rfl, hr3, hb3⟩
    have HN3 := Lib.hid (HNL.out w3 A3 n3 hr3)
    rw [HT.out] at hr3
    go_wp2_with fail
    refine (twice_yes A3 n3 c3 L w3 hr3 HW.out HN3.out HV.out).mono ?_; rw [HF.out]; rintro e w4 ⟨rfl, hb4⟩
    have HB4 := Lib.hid (bt (bt HB2.out hb3) hb4)
    clear hr3 hb3 hb4
    go_wp2_with fail
    refine (HP.out w4 HB4.out).mono ?_; rintro e w5 ⟨A5, n5, c5, rfl, hr5, hb5⟩
    have HN5 := Lib.hid (HNL.out w5 A5 n5 hr5)
    rw [HT.out] at hr5
    go_wp2_with fail
    refine (share_yes A5 n5 c5 L w5 hr5 HW.out HN5.out HV.out).mono ?_; rw [HX.out, HY.out]; rintro e w6 ⟨rfl, hb6⟩
    have HB6 := Lib.hid (bt (bt HB4.out hb5) hb6)
    have HB7 : Hid (Below w.heap.size w (w6.alloc (Obj.cells #[.int .i64 (X : Int), .int .i64 (Y : Int)] 32))) := Lib.hid (HB6.out.alloc HB6.out.size _)
    have HR6 := Lib.hid ((HR.out.below HB7.out).more HB7.out.size)
    clear hr5 hb5 hb6
    go_wp2_with fail
    refine (rwhole_any A l c L _ HR6.out HW.out hl).mono ?_; rw [HWR.out]; rintro e w7 ⟨rfl, hb7⟩
    have HB8 := Lib.hid (bt HB7.out hb7)
    have hsz : w6.heap.size + 1 ≤ w7.heap.size := by have := hb7.size; simpa using this
    have hbx : Below (w6.heap.size + 1) (w6.alloc (Obj.cells #[.int .i64 (X : Int), .int .i64 (Y : Int)] 32)) w7 := by have := hb7; simp at this; exact this
    go_wp2_with fail
    go_loopw [10, 54] (fun o x wr => ∃ k : Nat, k ≤ l ∧ o = .int .i64 (sumW (W : Int) (L.take k)) ∧ x = .int .i64 (k : Int) ∧ Below w7.heap.size w7 wr) (fun _ x _ => l - (intOf x).toNat)
    case atStart => exact ⟨0, by omega, rfl, rfl, Below.refl _ _⟩
    case round =>
      obtain ⟨k, hk, rfl, rfl, hb⟩ := hrel
      have HBR := Lib.hid (bt HB8.out hb)
      obtain ⟨s1, s2⟩ := sumW_bd (W := W) (L := L.take k) (fun p hp => (HS.out.2.2.1 p (List.mem_of_mem_take hp)).1)
      rw [List.length_take] at s2
      have s3 : sumW (W : Int) (L.take k) ≤ 10 * 10080 := by
        refine Int.le_trans s2 ?_
        refine Int.mul_le_mul (by have := HS.out.2.1; omega) (by omega) (by omega) (by omega)
      clear s2
      by_cases hlt : k < l
      · obtain ⟨b, off, x, m, hx, rfl, hB, g1, g2⟩ := (HR.out.below HBR.out).at_ hlt
        obtain ⟨m1, m2, x1, x2⟩ := HS.out.2.2.1 (x, m) (List.mem_of_getElem? hx)
        simp only at m1 m2 x1 x2
        have HSU : Hid (sumW (W : Int) (L.take (k + 1)) = sumW (W : Int) (L.take k) + (W : Int) / m) := Lib.hid (sumW_succ hx)
        have q1 : 0 ≤ (W : Int) / m := Int.ediv_nonneg (by omega) (by omega)
        have q2 : (W : Int) / m ≤ W := Int.ediv_le_self _ (by omega)
        obtain ⟨S, hS⟩ : ∃ S, sumW (W : Int) (L.take k) = S := ⟨_, rfl⟩
        obtain ⟨q, hq⟩ : ∃ q, (W : Int) / m = q := ⟨_, rfl⟩
        rw [hS] at s1 s3 HSU ⊢
        rw [hq] at q1 q2 HSU
        clear hx hS
        go_wp2_with fail
        go_roundw
        case rel => exact ⟨k + 1, by omega, by rw [HSU.out], by go_num, bt hb ((Below.refl _ _).alloc (Nat.le_refl _) _)⟩
        case measure => simp [intOf]; omega
      · have e : k = l := by omega
        subst e
        have HTK : Hid (L.take k = L) := Lib.hid (List.take_of_length_le (by rw [← HL.out]; omega))
        rw [HTK.out] at s1 s3 ⊢
        have hbx2 := hbx.trans (hb.mono hsz)
        have k0 := hbx2.cell (p := ⟨w6.heap.size, 0, none⟩) (by simp)
        have k1 := hbx2.cell (p := ⟨w6.heap.size, 1, none⟩) (by simp)
        simp at k0 k1
        clear hbx2
        rcases fstE_cases false L with hE0 | hE4
        · have HNE : Hid (¬ (X = 1 ∧ Y = 1)) := Lib.hid (fun hd => by
            have := (share_one HS.out).1 ⟨by rw [HX.out]; exact hd.1, by rw [HY.out]; exact hd.2⟩
            omega)
          rcases fstE_cases true L with hF0 | hF4
          · obtain rfl : E = 0 := by rw [← HE.out, hE0]
            obtain rfl : F = 0 := by rw [← HF.out, hF0]
            clear hE0 hF0
            go_wp2_with fail
            all_goals first
              | (have := HNE.out; omega)
              | (refine (awake_any _).mono ?_; rintro e w9 ⟨rfl, hb9⟩
                 go_wp2_with fail
                 go_ret
                 exact ⟨rfl, bt HBR.out hb9⟩)
          · have hlt2 := sums_less HS.out hE0 hF4
            rw [HWe.out] at hlt2
            obtain rfl : E = 0 := by rw [← HE.out, hE0]
            obtain rfl : F = 4 := by rw [← HF.out, hF4]
            clear hE0 hF4
            go_wp2_with fail
            all_goals first
              | (have := HNE.out; omega)
              | (refine (awake_any _).mono ?_; rintro e w9 ⟨rfl, hb9⟩
                 go_wp2_with fail
                 go_ret
                 exact ⟨rfl, bt HBR.out hb9⟩)
        · obtain ⟨t1, t2⟩ := (share_one HS.out).2 hE4
          obtain rfl : X = 1 := by rw [← HX.out, t1]
          obtain rfl : Y = 1 := by rw [← HY.out, t2]
          obtain ⟨a1, a2⟩ := sums_all HS.out hE4
          rw [HWe.out] at a1 a2
          obtain rfl : E = 4 := by rw [← HE.out, hE4]
          clear t1 t2 hE4
          rcases fstE_cases true L with hF0 | hF4
          · have a3 : (sumW (W : Int) L == (W : Int)) = false := by
              rw [beq_eq_false_iff_ne]; intro e; have := a2.1 e; omega
            obtain rfl : F = 0 := by rw [← HF.out, hF0]
            clear a2 hF0
            go_wp2_with fail
            all_goals
              refine (awake_any _).mono ?_; rintro e w9 ⟨rfl, hb9⟩
              go_wp2_with fail
              go_ret
              exact ⟨rfl, bt HBR.out hb9⟩
          · have a3 : (sumW (W : Int) L == (W : Int)) = true := by
              rw [beq_iff_eq]; exact a2.2 hF4
            obtain rfl : F = 4 := by rw [← HF.out, hF4]
            clear a2 hF4
            go_wp2_with fail
            all_goals
              refine (awake_any _).mono ?_; rintro e w9 ⟨rfl, hb9⟩
              go_wp2_with fail
              go_ret
              exact ⟨rfl, bt HBR.out hb9⟩
end Go.Proofs.Ytmmgidhaakkaoaa
