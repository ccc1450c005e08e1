/- Share: which part is covered. -/
import Derived.Test.YtmmgidhaakkaoaaCvS
namespace Go.Proofs.Ytmmgidhaakkaoaa
open Go Go.RowKit GhC

theorem covd_succ (L : List (Int × Int)) (k : Nat) : covd L (k + 1) = covd L k + if cnt L (k : Int) = 0 then 0 else 1 := rfl

/-- what Share returns of a system -/
def shV (L : List (Int × Int)) : Value := .agg #[.int .i64 (shN L : Int), .int .i64 (shD L : Int)]

set_option maxRecDepth 100000 in
set_option maxHeartbeats 1000000 in
theorem share_yes (A : Option Addr) (l c : Nat) (L : List (Int × Int)) (w : World) (h : Row w w.heap.size A l L) (hw : ∀ p ∈ L, -9223372036854775808 ≤ p.1 ∧ p.1 ≤ 9223372036854775807 ∧ -9223372036854775808 ≤ p.2 ∧ p.2 ≤ 9223372036854775807) (hl : l ≤ 9223372036854775807) (hv : validL L = true) :
    Calls Try.prog 21 #[.slice A l c] w fun e w' => e = .returned (.tuple #[.agg #[.int .i64 (shN L : Int), .int .i64 (shD L : Int)], .int .i64 0]) ∧ Below w.heap.size w w' := by
  have hs := validL_yes hv
  have hb0 : Below w.heap.size w (w.alloc (Obj.cells #[.int .i64 0, .int .i64 0] 32)) := (Below.refl _ _).alloc (Nat.le_refl _) _
  have HR := Lib.hid ((h.below hb0).more hb0.size)
  have HB0 := Lib.hid hb0
  have HW := Lib.hid hw
  have HV := Lib.hid hv
  have HM := Lib.hid (Sys.mods hs.2.2.1)
  have HF := Lib.hid (Sys.fits hs.2.2.1)
  have HP := hs.pos
  obtain ⟨N, hN⟩ : ∃ N, wh L 1 = N := ⟨_, rfl⟩
  have HN := Lib.hid hN
  have hN2 := hs.2.2.2
  have hl10 := hs.2.1
  rw [hN] at hN2 HP
  clear h hw hv hs hN hb0
  go_enter Try.func21, Try.ntmps21
  go_wp2_with fail
  refine (read_any A l c L _ HR.out HW.out hl).mono ?_; rintro e w1 ⟨A1, n1, c1, rfl, hr, hb1⟩
  rw [HV.out]
  have HR1 := Lib.hid (hr HV.out)
  have hsz : w.heap.size < w1.heap.size := by have := hb1.size; simp at this; omega
  have hl1 : n1 ≤ 10 := by have := HR1.out.1; omega
  have HB1 := Lib.hid (bt HB0.out hb1)
  have HBX : Hid (Below (w.heap.size + 1) (w.alloc (Obj.cells #[.int .i64 0, .int .i64 0] 32)) w1) := Lib.hid (by have := hb1; simp at this; exact this)
  clear hr hb1
  go_wp2_with fail
  refine (whole_any A1 n1 c1 L w1 HR1.out HM.out (by omega)).mono ?_; rw [HN.out]; rintro e w2 ⟨rfl, hb2⟩
  have HB2 := Lib.hid (bt HB1.out hb2)
  go_wp2_with fail
  go_loopw [6, 21] (fun o x wr => ∃ k : Nat, k ≤ N ∧ o = .int .i64 ((covd L k : Nat) : Int) ∧ x = .int .i64 (k : Int) ∧ Below w1.heap.size w1 wr) (fun _ x _ => N - (intOf x).toNat)
  case atStart => exact ⟨0, by omega, rfl, rfl, hb2⟩
  case round =>
    obtain ⟨k, hk, rfl, rfl, hb⟩ := hrel
    have hcd := covd_le L k
    by_cases hlt : k < N
    · have HRW : Hid (Row wr wr.heap.size A1 n1 L) := Lib.hid ((HR1.out.below hb).more hb.size)
      have HS := Lib.hid (covd_succ L k)
      have hcl : cnt L (k : Int) ≤ 10 := Nat.le_trans (cnt_le _ _) hl10
      obtain ⟨C, hC⟩ : ∃ C, cnt L (k : Int) = C := ⟨_, rfl⟩
      have HC := Lib.hid hC
      rw [hC] at hcl
      clear hC
      go_wp2_with fail
      refine (count_any A1 n1 c1 L k wr HRW.out HF.out (by omega) (by omega) (by omega)).mono ?_; rw [HC.out]; rintro e w3 ⟨rfl, hb3⟩
      go_wp2_with fail
      go_roundw
      case rel => exact ⟨k + 1, by omega, by
        rw [HS.out, HC.out]
        by_cases h0 : C = 0
        · rw [if_pos h0]; go_num
        · rw [if_neg h0]; go_num, by go_num, bt hb hb3⟩
      case measure => simp [intOf]; omega
    · have e : k = N := by omega
      subst e
      have hg0 : 0 < Nat.gcd (covd L k) k := Nat.gcd_pos_of_pos_right _ (by omega)
      have hgk : Nat.gcd (covd L k) k ≤ k := Nat.gcd_le_right _ (by omega)
      have hbw : Below (w.heap.size + 1) (w.alloc (Obj.cells #[.int .i64 0, .int .i64 0] 32)) wr := HBX.out.trans (hb.mono (by omega))
      have k0 := hbw.cell (p := ⟨w.heap.size, 0, none⟩) (by simp)
      have k1 := hbw.cell (p := ⟨w.heap.size, 1, none⟩) (by simp)
      have k2 := hbw.frozen (p := ⟨w.heap.size, 0, none⟩) (by simp)
      have k3 := hbw.frozen (p := ⟨w.heap.size, 1, none⟩) (by simp)
      simp at k0 k1 k2 k3
      have HSH : Hid (shN L = covd L k / Nat.gcd (covd L k) k ∧ shD L = k / Nat.gcd (covd L k) k) := Lib.hid (by unfold shN shD; rw [HN.out]; exact ⟨rfl, rfl⟩)
      have HBW := Lib.hid (bt HB1.out hb)
      have d1 : ((covd L k : Nat) : Int) / ((Nat.gcd (covd L k) k : Nat) : Int) = ((covd L k / Nat.gcd (covd L k) k : Nat) : Int) := by rw [Int.natCast_ediv]
      have d2 : ((k : Nat) : Int) / ((Nat.gcd (covd L k) k : Nat) : Int) = ((k / Nat.gcd (covd L k) k : Nat) : Int) := by rw [Int.natCast_ediv]
      have hx1 : covd L k / Nat.gcd (covd L k) k ≤ covd L k := Nat.div_le_self _ _
      have hx2 : k / Nat.gcd (covd L k) k ≤ k := Nat.div_le_self _ _
      clear hbw hb
      obtain ⟨G, hG⟩ : ∃ G, Nat.gcd (covd L k) k = G := ⟨_, rfl⟩
      have HG := Lib.hid hG
      rw [hG] at hg0 hgk HSH d1 d2 hx1 hx2
      clear hG
      obtain ⟨X, hX⟩ : ∃ X, covd L k / G = X := ⟨_, rfl⟩
      obtain ⟨Y, hY⟩ : ∃ Y, k / G = Y := ⟨_, rfl⟩
      rw [hX] at HSH d1 hx1
      rw [hY] at HSH d2 hx2
      clear hX hY
      go_wp2_with fail
      refine (cgcd_any (covd L k) k wr (by omega) (by omega)).mono ?_; rw [HG.out]; rintro e w3 ⟨rfl, j, rfl⟩
      go_wp2_with fail
      go_region
      go_wp2_with fail
      refine bodyPost_ret (v := .tuple #[.agg #[.int .i64 (X : Int), .int .i64 (Y : Int)], .int .i64 0]) (by simp [results, Try.results21, go_sem, k0, k1]) rfl ⟨by rw [HSH.out.1, HSH.out.2], ?_⟩
      exact ((bdN HBW.out (j + 1)).setCell (p := ⟨w.heap.size, 0, none⟩) (Nat.le_refl _) _).setCell (p := ⟨w.heap.size, 1, none⟩) (Nat.le_refl _) _

theorem share_no (A : Option Addr) (l c : Nat) (L : List (Int × Int)) (w : World) (h : Row w w.heap.size A l L) (hw : ∀ p ∈ L, -9223372036854775808 ≤ p.1 ∧ p.1 ≤ 9223372036854775807 ∧ -9223372036854775808 ≤ p.2 ∧ p.2 ≤ 9223372036854775807) (hl : l ≤ 9223372036854775807) (hv : validL L = false) :
    Calls Try.prog 21 #[.slice A l c] w fun e w' => e = .returned (.tuple #[.agg #[.int .i64 0, .int .i64 0], .int .i64 2]) ∧ Below w.heap.size w w' := by
  have hb0 : Below w.heap.size w (w.alloc (Obj.cells #[.int .i64 0, .int .i64 0] 32)) := (Below.refl _ _).alloc (Nat.le_refl _) _
  have HR := Lib.hid ((h.below hb0).more hb0.size)
  have HB0 := Lib.hid hb0
  have HW := Lib.hid hw
  have HV := Lib.hid hv
  clear h hw hv hb0
  go_enter Try.func21, Try.ntmps21
  go_wp2_with fail
  refine (read_any A l c L _ HR.out HW.out hl).mono ?_; rintro e w1 ⟨A1, n1, c1, rfl, hr, hb1⟩
  rw [HV.out]
  have HB1 := Lib.hid (bt HB0.out hb1)
  have k0 := hb1.cell (p := ⟨w.heap.size, 0, none⟩) (by simp)
  have k1 := hb1.cell (p := ⟨w.heap.size, 1, none⟩) (by simp)
  have k2 := hb1.frozen (p := ⟨w.heap.size, 0, none⟩) (by simp)
  have k3 := hb1.frozen (p := ⟨w.heap.size, 1, none⟩) (by simp)
  simp at k0 k1 k2 k3
  clear hr hb1
  go_wp2_with fail
  refine bodyPost_ret (v := .tuple #[.agg #[.int .i64 0, .int .i64 0], .int .i64 2]) (by simp [results, Try.results21, go_sem, k0, k1]) rfl ⟨rfl, ?_⟩
  exact (HB1.out.setCell (p := ⟨w.heap.size, 0, none⟩) (Nat.le_refl _) _).setCell (p := ⟨w.heap.size, 1, none⟩) (Nat.le_refl _) _
end Go.Proofs.Ytmmgidhaakkaoaa
