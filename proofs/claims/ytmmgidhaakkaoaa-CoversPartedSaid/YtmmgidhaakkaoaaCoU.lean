/- The reference: Left, Twice, Share and Needless of a system. -/
import Derived.Test.YtmmgidhaakkaoaaCoT
import Derived.Test.YtmmgidhaakkaoaaCoF
namespace Go.Proofs.Ytmmgidhaakkaoaa
open Go Go.RowKit GhC

set_option maxRecDepth 100000 in
set_option maxHeartbeats 1000000 in
theorem rleft_any (A : Option Addr) (l c : Nat) (L : List (Int × Int)) (w : World) (h : Row w w.heap.size A l L) (hs : Sys L) :
    Calls Try.prog 28 #[.slice A l c] w fun e w' => e = .returned (.tuple #[.int .i64 (fstV false L), .int .i64 (fstE false L)]) ∧ Below w.heap.size w w' := by
  have hl10 := hs.2.1
  have hw := hs.2.2.2
  have HR := Lib.hid h
  have HSY := Lib.hid hs
  have HT := Lib.hid (times_any A l c L w h hs)
  obtain ⟨N, hN⟩ : ∃ N, wh L 1 = N := ⟨_, rfl⟩
  have HN := Lib.hid hN
  rw [hN] at hw
  clear h hs hN
  go_enter Try.func28, Try.ntmps28
  go_wp2_with fail
  refine HT.out.mono ?_; rw [HN.out]; rintro e w1 ⟨b, rfl, _, hf, hb1⟩
  have HF := Lib.hid hf
  clear hf
  go_wp2_with fail
  go_loopw [9] (fun x wr => ∃ k : Nat, k ≤ N ∧ x = .int .i64 (k : Int) ∧ Below w1.heap.size w1 wr ∧ Hid (fstL false L N 0 = fstL false L (N - k) k)) (fun x _ => N - (intOf x).toNat)
  case atStart => exact ⟨0, by omega, rfl, Below.refl _ _, Lib.hid rfl⟩
  case round =>
    obtain ⟨k, hk, rfl, hb, hf⟩ := hrel
    have hcl : cnt L (k : Int) ≤ 10 := Nat.le_trans (cnt_le _ _) hl10
    by_cases hlt : k < N
    · have HS : Hid (fstL false L (N - k) k = if askB false (cnt L (k : Int)) then some k else fstL false L (N - (k + 1)) (k + 1)) := Lib.hid (by
        have : N - k = (N - (k + 1)) + 1 := by omega
        rw [this]; rfl)
      obtain ⟨b', off', hA, hB, hcell⟩ := (HF.out.below hb).at_ hlt
      injection hA with hA
      injection hA with hA1 hA2
      subst hA1 hA2
      obtain ⟨C, hC⟩ : ∃ C, cnt L (k : Int) = C := ⟨_, rfl⟩
      have HC := Lib.hid hC
      simp only [hC] at hcell hcl
      rw [Nat.zero_add] at hcell
      clear hC
      cases hc : askB false C with
      | true =>
        have HK := Lib.hid hc
        have t1 : ((C : Int) == 0) = true := by have : C = 0 := by simpa [askB] using hc
                                                simp [this]
        have HE : Hid (fstV false L = (k : Int) ∧ fstE false L = 0) := Lib.hid (by
          have e : fstL false L (wh L 1) 0 = some k := by rw [HN.out, hf.out, HS.out, HC.out, if_pos HK.out]
          unfold fstV fstE; rw [e]; exact ⟨rfl, rfl⟩)
        clear hc
        go_wp2_with fail
        go_ret2
        exact ⟨by rw [HE.out.1, HE.out.2]; rfl, bt hb1 hb⟩
      | false =>
        have HK := Lib.hid hc
        have t1 : ((C : Int) == 0) = false := by have : C ≠ 0 := by simpa [askB] using hc
                                                 simp; omega
        have HE : Hid (fstL false L N 0 = fstL false L (N - (k + 1)) (k + 1)) := Lib.hid (by rw [hf.out, HS.out, HC.out, if_neg (by rw [HK.out]; decide)])
        clear hc
        go_wp2_with fail
        go_roundw
        case rel => exact ⟨k + 1, by omega, by go_num, hb, HE⟩
        case measure => simp [intOf]; omega
    · have e : k = N := by omega
      subst e
      have HE : Hid (fstV false L = 0 ∧ fstE false L = 4) := Lib.hid (by
        have e : fstL false L (wh L 1) 0 = none := by rw [HN.out, hf.out, Nat.sub_self]; rfl
        unfold fstV fstE; rw [e]; exact ⟨rfl, rfl⟩)
      go_wp2_with fail
      go_ret2
      exact ⟨by rw [HE.out.1, HE.out.2]; rfl, bt hb1 hb⟩

set_option maxRecDepth 100000 in
set_option maxHeartbeats 1000000 in
theorem rtwice_any (A : Option Addr) (l c : Nat) (L : List (Int × Int)) (w : World) (h : Row w w.heap.size A l L) (hs : Sys L) :
    Calls Try.prog 29 #[.slice A l c] w fun e w' => e = .returned (.tuple #[.int .i64 (fstV true L), .int .i64 (fstE true L)]) ∧ Below w.heap.size w w' := by
  have hl10 := hs.2.1
  have hw := hs.2.2.2
  have HR := Lib.hid h
  have HSY := Lib.hid hs
  have HT := Lib.hid (times_any A l c L w h hs)
  obtain ⟨N, hN⟩ : ∃ N, wh L 1 = N := ⟨_, rfl⟩
  have HN := Lib.hid hN
  rw [hN] at hw
  clear h hs hN
  go_enter Try.func29, Try.ntmps29
  go_wp2_with fail
  refine HT.out.mono ?_; rw [HN.out]; rintro e w1 ⟨b, rfl, _, hf, hb1⟩
  have HF := Lib.hid hf
  clear hf
  go_wp2_with fail
  go_loopw [9] (fun x wr => ∃ k : Nat, k ≤ N ∧ x = .int .i64 (k : Int) ∧ Below w1.heap.size w1 wr ∧ Hid (fstL true L N 0 = fstL true L (N - k) k)) (fun x _ => N - (intOf x).toNat)
  case atStart => exact ⟨0, by omega, rfl, Below.refl _ _, Lib.hid rfl⟩
  case round =>
    obtain ⟨k, hk, rfl, hb, hf⟩ := hrel
    have hcl : cnt L (k : Int) ≤ 10 := Nat.le_trans (cnt_le _ _) hl10
    by_cases hlt : k < N
    · have HS : Hid (fstL true L (N - k) k = if askB true (cnt L (k : Int)) then some k else fstL true L (N - (k + 1)) (k + 1)) := Lib.hid (by
        have : N - k = (N - (k + 1)) + 1 := by omega
        rw [this]; rfl)
      obtain ⟨b', off', hA, hB, hcell⟩ := (HF.out.below hb).at_ hlt
      injection hA with hA
      injection hA with hA1 hA2
      subst hA1 hA2
      obtain ⟨C, hC⟩ : ∃ C, cnt L (k : Int) = C := ⟨_, rfl⟩
      have HC := Lib.hid hC
      simp only [hC] at hcell hcl
      rw [Nat.zero_add] at hcell
      clear hC
      cases hc : askB true C with
      | true =>
        have HK := Lib.hid hc
        have t1 : (1 : Int) < (C : Int) := by have : 1 < C := by simpa [askB] using hc
                                              omega
        have HE : Hid (fstV true L = (k : Int) ∧ fstE true L = 0) := Lib.hid (by
          have e : fstL true L (wh L 1) 0 = some k := by rw [HN.out, hf.out, HS.out, HC.out, if_pos HK.out]
          unfold fstV fstE; rw [e]; exact ⟨rfl, rfl⟩)
        clear hc
        go_wp2_with fail
        go_ret2
        exact ⟨by rw [HE.out.1, HE.out.2]; rfl, bt hb1 hb⟩
      | false =>
        have HK := Lib.hid hc
        have t1 : ¬ (1 : Int) < (C : Int) := by have : ¬ 1 < C := by simpa [askB] using hc
                                                omega
        have HE : Hid (fstL true L N 0 = fstL true L (N - (k + 1)) (k + 1)) := Lib.hid (by rw [hf.out, HS.out, HC.out, if_neg (by rw [HK.out]; decide)])
        clear hc
        go_wp2_with fail
        go_roundw
        case rel => exact ⟨k + 1, by omega, by go_num, hb, HE⟩
        case measure => simp [intOf]; omega
    · have e : k = N := by omega
      subst e
      have HE : Hid (fstV true L = 0 ∧ fstE true L = 4) := Lib.hid (by
        have e : fstL true L (wh L 1) 0 = none := by rw [HN.out, hf.out, Nat.sub_self]; rfl
        unfold fstV fstE; rw [e]; exact ⟨rfl, rfl⟩)
      go_wp2_with fail
      go_ret2
      exact ⟨by rw [HE.out.1, HE.out.2]; rfl, bt hb1 hb⟩

set_option maxRecDepth 100000 in
set_option maxHeartbeats 1000000 in
theorem rshare_any (A : Option Addr) (l c : Nat) (L : List (Int × Int)) (w : World) (h : Row w w.heap.size A l L) (hs : Sys L) :
    Calls Try.prog 30 #[.slice A l c] w fun e w' => e = .returned (.agg #[.int .i64 (shN L : Int), .int .i64 (shD L : Int)]) ∧ Below w.heap.size w w' := by
  have hl10 := hs.2.1
  have hN2 := hs.2.2.2
  have HP := hs.pos
  have hb0 : Below w.heap.size w (w.alloc (Obj.cells #[.int .i64 0, .int .i64 0] 32)) := (Below.refl _ _).alloc (Nat.le_refl _) _
  have HB0 := Lib.hid hb0
  have HT := Lib.hid (times_any A l c L _ ((h.below hb0).more hb0.size) hs)
  obtain ⟨N, hN⟩ : ∃ N, wh L 1 = N := ⟨_, rfl⟩
  have HN := Lib.hid hN
  rw [hN] at hN2 HP
  clear h hs hN hb0
  go_enter Try.func30, Try.ntmps30
  go_wp2_with fail
  refine HT.out.mono ?_; rw [HN.out]; rintro e w1 ⟨b, rfl, _, hf, hb1⟩
  have HF := Lib.hid hf
  have hsz : w.heap.size < w1.heap.size := by have := hb1.size; simp at this; omega
  have HB1 := Lib.hid (bt HB0.out hb1)
  have HBX : Hid (Below (w.heap.size + 1) (w.alloc (Obj.cells #[.int .i64 0, .int .i64 0] 32)) w1) := Lib.hid (by have := hb1; simp at this; exact this)
  clear hf hb1
  go_wp2_with fail
  go_loopw [3, 4, 11] (fun o p x wr => ∃ k : Nat, k ≤ N ∧ o = .int .i64 ((covd L k : Nat) : Int) ∧ p = .int .i64 (k : Int) ∧ x = .int .i64 (k : Int) ∧ Below w1.heap.size w1 wr) (fun _ _ x _ => N - (intOf x).toNat)
  case atStart => exact ⟨0, by omega, rfl, rfl, rfl, Below.refl _ _⟩
  case round =>
    obtain ⟨k, hk, rfl, rfl, rfl, hb⟩ := hrel
    have hcd := covd_le L k
    by_cases hlt : k < N
    · have HS := Lib.hid (covd_succ L k)
      have hcl : cnt L (k : Int) ≤ 10 := Nat.le_trans (cnt_le _ _) hl10
      obtain ⟨b', off', hA, hB, hcell⟩ := (HF.out.below hb).at_ hlt
      injection hA with hA
      injection hA with hA1 hA2
      subst hA1 hA2
      obtain ⟨C, hC⟩ : ∃ C, cnt L (k : Int) = C := ⟨_, rfl⟩
      have HC := Lib.hid hC
      simp only [hC] at hcell hcl
      rw [Nat.zero_add] at hcell
      clear hC
      by_cases h0 : C = 0
      · subst h0
        go_wp2_with fail
        go_roundw
        case rel => exact ⟨k + 1, by omega, by rw [HS.out, HC.out, if_pos rfl]; rfl, by go_num, by go_num, hb⟩
        case measure => simp [intOf]; omega
      · have h1 : (0 : Int) < (C : Int) := by omega
        have H0 := Lib.hid h0
        clear h0
        go_wp2_with fail
        go_roundw
        case rel => exact ⟨k + 1, by omega, by rw [HS.out, HC.out, if_neg H0.out]; go_num, by go_num, by go_num, hb⟩
        case measure => simp [intOf]; omega
    · have e : k = N := by omega
      subst e
      have hg0 : 0 < Nat.gcd (covd L k) k := Nat.gcd_pos_of_pos_right _ (by omega)
      have hgk : Nat.gcd (covd L k) k ≤ k := Nat.gcd_le_right _ (by omega)
      have hbw : Below (w.heap.size + 1) (w.alloc (Obj.cells #[.int .i64 0, .int .i64 0] 32)) wr := HBX.out.trans (hb.mono (by omega))
      have k0 := hbw.cell (p := ⟨w.heap.size, 0, none⟩) (by simp)
      have k1 := hbw.cell (p := ⟨w.heap.size, 1, none⟩) (by simp)
      have k2 := hbw.frozen (p := ⟨w.heap.size, 0, none⟩) (by simp)
      have k3 := hbw.frozen (p := ⟨w.heap.size, 1, none⟩) (by simp)
      simp at k0 k1 k2 k3
      have HSH : Hid (shN L = covd L k / Nat.gcd (covd L k) k ∧ shD L = k / Nat.gcd (covd L k) k) := Lib.hid (by unfold shN shD; rw [HN.out]; exact ⟨rfl, rfl⟩)
      have HBW := Lib.hid (bt HB1.out hb)
      have d1 : ((covd L k : Nat) : Int) / ((Nat.gcd (covd L k) k : Nat) : Int) = ((covd L k / Nat.gcd (covd L k) k : Nat) : Int) := by rw [Int.natCast_ediv]
      have d2 : ((k : Nat) : Int) / ((Nat.gcd (covd L k) k : Nat) : Int) = ((k / Nat.gcd (covd L k) k : Nat) : Int) := by rw [Int.natCast_ediv]
      have hx1 : covd L k / Nat.gcd (covd L k) k ≤ covd L k := Nat.div_le_self _ _
      have hx2 : k / Nat.gcd (covd L k) k ≤ k := Nat.div_le_self _ _
      clear hbw hb
      obtain ⟨G, hG⟩ : ∃ G, Nat.gcd (covd L k) k = G := ⟨_, rfl⟩
      have HG := Lib.hid hG
      rw [hG] at hg0 hgk HSH d1 d2 hx1 hx2
      clear hG
      obtain ⟨X, hX⟩ : ∃ X, covd L k / G = X := ⟨_, rfl⟩
      obtain ⟨Y, hY⟩ : ∃ Y, k / G = Y := ⟨_, rfl⟩
      rw [hX] at HSH d1 hx1
      rw [hY] at HSH d2 hx2
      clear hX hY
      go_wp2_with fail
      refine (rgcd_any (covd L k) k wr (by omega) (by omega)).mono ?_; rw [HG.out]; rintro e w3 ⟨rfl, j, rfl⟩
      go_wp2_with fail
      go_region
      go_wp2_with fail
      refine bodyPost_ret (v := .agg #[.int .i64 (X : Int), .int .i64 (Y : Int)]) (by simp [results, Try.results30, go_sem, k0, k1]) rfl ⟨by rw [HSH.out.1, HSH.out.2], ?_⟩
      exact ((bdN HBW.out (j + 1)).setCell (p := ⟨w.heap.size, 0, none⟩) (Nat.le_refl _) _).setCell (p := ⟨w.heap.size, 1, none⟩) (Nat.le_refl _) _
end Go.Proofs.Ytmmgidhaakkaoaa
