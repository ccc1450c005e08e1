/- The search of residues: mark. -/
import Derived.Test.YtmmgidhaakkaoaaSr1
namespace Go.Proofs.Ytmmgidhaakkaoaa
open Go Go.RowKit

/-- no day twice -/
noncomputable def onB (f : Nat → Int) (a m : Nat) (W : Nat) : Bool := open Classical in decide (∀ j, j < W → cov ((a : Int), (m : Int)) (j : Int) = true → f j + 1 < 2)
theorem cov_step {a m k : Nat} : cov ((a : Int), (m : Int)) ((a + k * m : Nat) : Int) = true := by
  unfold cov
  rw [beq_iff_eq]
  have : (((a + k * m : Nat) : Int) - (a : Int)) = (m : Int) * (k : Int) := by push_cast; rw [Int.mul_comm]; omega
  show (((a + k * m : Nat) : Int) - (a : Int)) % (m : Int) = 0
  rw [this]; exact Int.mul_emod_right _ _
theorem onc_end {f : Nat → Int} {a m i W : Nat} (hm : 1 ≤ m) (ha : a < m) (h : W ≤ a + i * m) (hl : ∀ k, k < i → a + k * m < W) : oncF f a m 1 i = onB f a m W := by
  rw [Bool.eq_iff_iff, oncF_iff]
  unfold onB
  rw [decide_eq_true_iff]
  constructor
  · intro h1 j hj hc
    have h2 := stpF_end (f := fun _ => 0) (b := 1) hm ha h j hj
    rw [stpF_at _ _ hm, addF, if_pos hc] at h2
    by_cases h3 : ∃ k, k < i ∧ j = a + k * m
    · obtain ⟨k, hk, rfl⟩ := h3
      exact h1 k hk
    · rw [if_neg h3] at h2; omega
  · intro h1 k hk
    exact h1 _ (hl k hk) cov_step

abbrev pbW (w : World) (a m : Nat) : World := w.alloc (Obj.cells #[.int .i64 (a : Int), .int .i64 (m : Int)] 68)
theorem pb_cells {w wr : World} {S G a m : Nat} (h : Frm (pbW w a m) wr S G) (hS : S < w.heap.size) (hG : G < w.heap.size) :
    wr.cell? ⟨w.heap.size, 0, none⟩ = some (.int .i64 (a : Int)) ∧ wr.cell? ⟨w.heap.size, 1, none⟩ = some (.int .i64 (m : Int)) := by
  have hb := h.block w.heap.size (by simp) (by omega) (by omega)
  exact ⟨(World.cell?_of_block (w := pbW w a m) hb).trans (by simp), (World.cell?_of_block (w := pbW w a m) hb).trans (by simp)⟩
theorem SS.day {w : World} {S G W n : Nat} {mv v : Value} {f : Nat → Int} {left : Int} {ex : Bool} (h : SS w S G mv W f left ex v) (hn : n < W) : w.cell? ⟨G, n, none⟩ = some (.int .i64 (f n)) ∧ w.frozen? ⟨G, n, none⟩ = false :=
  ⟨(h.own.cell (tab_at hn)).1, (h.own.cell (tab_at hn)).2.1⟩

set_option maxRecDepth 100000 in
set_option maxHeartbeats 2000000 in
theorem mark_up (S G a m W : Nat) (mv v : Value) (f : Nat → Int) (ex : Bool) (w : World) (ha : a < m) (hm : m ≤ 60) (hW : W ≤ 10080) (hf : ∀ j, j < W → 0 ≤ f j ∧ f j ≤ 100) (h : SS w S G mv W f (lf f W) ex v) :
    Calls Try.prog 79 #[.pointer (some ⟨S, 0, none⟩), .agg #[.int .i64 (a : Int), .int .i64 (m : Int)], .int .i64 (1)] w fun e w' => (∃ o : Bool, e = .returned (.bool o) ∧ o = onB f a m W) ∧ SS w' S G mv W (addF f a m (1)) (lf (addF f a m (1)) W) ex v ∧ Frm w w' S G := by
  have hm1 : 1 ≤ m := by omega
  have hSl := h.lt
  have hGl := h.glt
  have HF := Lib.hid hf
  have HS0 : Hid (SS (pbW w a m) S G mv W f (lf f W) ex v) := Lib.hid (h.below ((Below.refl _ _).alloc (Nat.le_refl _) _))
  have HST : Hid (∀ i j, stpF f a m (1) (i + 1) j = upd (stpF f a m (1) i) (a + i * m) (stpF f a m (1) i (a + i * m) + 1) j) := Lib.hid (fun i j => rfl)
  have HNW : Hid (∀ i, stpF f a m (1) i (a + i * m) = f (a + i * m)) := Lib.hid (fun i => stpF_new f (1) hm1 i)
  have HLB := Lib.hid (fun g : Nat → Int => lf_bd g W)
  clear h hf
  go_enter Try.func79, Try.ntmps79
  go_wp2_with fail
  go_loopw [7, 8] (fun o z wr => ∃ i N : Nat, ∃ ob : Bool, N ≤ W + m ∧ Hid (a + i * m = N) ∧ Hid (∀ k, k < i → a + k * m < W) ∧ Hid (oncF f a m (1) i = ob) ∧ o = .bool ob ∧ z = .int .i64 (N : Int) ∧ Hid (SS wr S G mv W (stpF f a m (1) i) (lf (stpF f a m (1) i) W) ex v) ∧ Hid (Frm (pbW w a m) wr S G)) (fun _ z _ => W + m - (intOf z).toNat)
  case atStart => exact ⟨0, a, true, by omega, Lib.hid (by omega), Lib.hid (fun k hk => by omega), Lib.hid rfl, rfl, rfl, HS0, Lib.hid (Frm.refl _ _ _)⟩
  case round =>
    obtain ⟨i, N, ob, hN, hNe, hlo, hob, rfl, rfl, hss, hfr⟩ := hrel
    obtain ⟨g0, g1⟩ := pb_cells hfr.out hSl hGl
    have c1 := hss.out.c1
    by_cases hlt : N < W
    · have hlti : (N : Int) < (W : Int) := by omega
      have hN0 : (0 : Int) ≤ (N : Int) := by omega
      obtain ⟨y, hy⟩ : ∃ y, f N = y := ⟨_, rfl⟩
      have hyb := HF.out N hlt
      rw [hy] at hyb
      obtain ⟨y0, y1⟩ := hyb
      have hsy : stpF f a m (1) i N = y := by rw [← hy, ← hNe.out]; exact HNW.out i
      obtain ⟨d0, d1⟩ := hss.out.day hlt
      rw [hsy] at d0
      have c2 := hss.out.c2
      have f2 := hss.out.f2
      obtain ⟨L, hL⟩ : ∃ L, lf (stpF f a m (1) i) W = L := ⟨_, rfl⟩
      have hLb := HLB.out (stpF f a m (1) i)
      rw [hL] at c2 hLb hss
      obtain ⟨L0, L1⟩ := hLb
      have HLU : Hid (lf (stpF f a m (1) (i + 1)) W = L + ((if y + 1 = 0 then 1 else 0) - (if y = 0 then 1 else 0))) := Lib.hid (by
        have e : stpF f a m (1) (i + 1) = upd (stpF f a m (1) i) N (y + 1) := by
          show upd (stpF f a m (1) i) (a + i * m) (stpF f a m (1) i (a + i * m) + 1) = _
          rw [hNe.out, hsy]
        rw [e, lf_upd, hL, hsy, if_pos hlt])
      have HE : Hid (stpF f a m (1) (i + 1) = upd (stpF f a m (1) i) N (y + 1)) := Lib.hid (by
        show upd (stpF f a m (1) i) (a + i * m) (stpF f a m (1) i (a + i * m) + 1) = _
        rw [hNe.out, hsy])
      have HON : Hid (oncF f a m (1) (i + 1) = (ob && decide (y + 1 < 2))) := Lib.hid (by rw [oncF, hob.out, hNe.out, hy])
      have HN2 : Hid (a + (i + 1) * m = N + m) := Lib.hid (by rw [Nat.succ_mul, ← hNe.out]; omega)
      have HLO2 : Hid (∀ k, k < i + 1 → a + k * m < W) := Lib.hid (fun k hk => by
        by_cases e : k = i
        · rw [e, hNe.out]; exact hlt
        · exact hlo.out k (by omega))
      clear hy hsy hL
      by_cases hq : y = 0
      · have hs2 := hss.out.setL (L - 1)
        have hs3 := hs2.setD N (y + 1)
        obtain ⟨e0, e1⟩ := hs2.day hlt
        have e2 := hs2.c1
        have e3 := hs3.c1
        obtain ⟨e4, e5⟩ := hs3.day hlt
        rw [upd_same] at e4
        have e0' : (wr.setCell ⟨S, 2, none⟩ (.int .i64 (L - 1))).cell? ⟨G, N, none⟩ = some (.int .i64 y) := (World.cell?_setCell_other _ _ _ _ (bne' (fun e => hss.out.ne e.symm))).trans d0
        have hs4 : SS ((wr.setCell ⟨S, 2, none⟩ (.int .i64 (L - 1))).setCell ⟨G, N, none⟩ (.int .i64 (y + 1))) S G mv W (stpF f a m (1) (i + 1)) (lf (stpF f a m (1) (i + 1)) W) ex v := by
          rw [HLU.out, HE.out]
          have e : L + ((if y + 1 = 0 then 1 else 0) - (if y = 0 then 1 else 0)) = L - 1 := by
            rw [hq]; first | (rw [if_neg (by omega), if_pos rfl]; omega) | (rw [if_pos (by omega), if_neg (by omega)]; omega)
          rw [e]; exact hs3
        have hf4 : Frm (pbW w a m) ((wr.setCell ⟨S, 2, none⟩ (.int .i64 (L - 1))).setCell ⟨G, N, none⟩ (.int .i64 (y + 1))) S G := (hfr.out.set (.inl rfl) _).set (.inr rfl) _
        have HS4 := Lib.hid hs4
        have HF4 := Lib.hid hf4
        obtain ⟨k0, k1⟩ := pb_cells hf4 hSl hGl
        clear hs2 hs3 hs4 hf4 e0
        cases ob with
        | true =>
          subst hq
          simp only [show (0 : Int) + 1 = 1 from rfl] at e3 e4 e5 HS4 HF4 HON k0 k1
          go_wp2_with fail
          go_roundw
          case rel => exact ⟨i + 1, N + m, _, by omega, HN2, HLO2, HON, by first | rfl | simp, by go_num, HS4, HF4⟩
          case measure => simp [intOf]; omega
        | false =>
          subst hq
          simp only [show (0 : Int) + 1 = 1 from rfl] at e3 e4 e5 HS4 HF4 HON k0 k1
          go_wp2_with fail
          go_roundw
          case rel => exact ⟨i + 1, N + m, _, by omega, HN2, HLO2, HON, by first | rfl | simp, by go_num, HS4, HF4⟩
          case measure => simp [intOf]; omega
      · have hs3 := hss.out.setD N (y + 1)
        have tq : (y == 0) = false := beq_eq_false_iff_ne.2 hq
        have e3 := hs3.c1
        obtain ⟨e4, e5⟩ := hs3.day hlt
        rw [upd_same] at e4
        have hs4 : SS (wr.setCell ⟨G, N, none⟩ (.int .i64 (y + 1))) S G mv W (stpF f a m (1) (i + 1)) (lf (stpF f a m (1) (i + 1)) W) ex v := by
          rw [HLU.out, HE.out]
          have e : L + ((if y + 1 = 0 then 1 else 0) - (if y = 0 then 1 else 0)) = L := by
            rw [if_neg (by omega), if_neg (by omega)]; omega
          rw [e]; exact hs3
        have hf4 : Frm (pbW w a m) (wr.setCell ⟨G, N, none⟩ (.int .i64 (y + 1))) S G := hfr.out.set (.inr rfl) _
        have HS4 := Lib.hid hs4
        have HF4 := Lib.hid hf4
        obtain ⟨k0, k1⟩ := pb_cells hf4 hSl hGl
        clear hs3 hs4 hf4
        cases ob with
        | true =>
          go_wp2_with fail
          go_roundw
          case rel => exact ⟨i + 1, N + m, _, by omega, HN2, HLO2, HON, by first | rfl | simp, by go_num, HS4, HF4⟩
          case measure => simp [intOf]; omega
        | false =>
          go_wp2_with fail
          go_roundw
          case rel => exact ⟨i + 1, N + m, _, by omega, HN2, HLO2, HON, by first | rfl | simp, by go_num, HS4, HF4⟩
          case measure => simp [intOf]; omega
    · have hge : W ≤ N := by omega
      go_wp2_with fail
      go_ret
      have hend : ∀ j, j < W → stpF f a m (1) i j = addF f a m (1) j := fun j hj => stpF_end hm1 ha (by rw [hNe.out]; exact hge) j hj
      refine ⟨⟨ob, rfl, ?_⟩, ?_, ?_⟩
      · rw [← hob.out]; exact onc_end hm1 ha (by rw [hNe.out]; exact hge) hlo.out
      · have := hss.out.congr hend
        rwa [lf_congr W hend] at this
      · exact (Frm.of_below ((Below.refl _ _).alloc (Nat.le_refl _) _)).trans hfr.out

set_option maxRecDepth 100000 in
set_option maxHeartbeats 2000000 in
theorem mark_dn (S G a m W : Nat) (mv v : Value) (f : Nat → Int) (ex : Bool) (w : World) (ha : a < m) (hm : m ≤ 60) (hW : W ≤ 10080) (hf : ∀ j, j < W → 0 ≤ f j ∧ f j ≤ 100) (hc : ∀ j, j < W → cov ((a : Int), (m : Int)) (j : Int) = true → 1 ≤ f j) (h : SS w S G mv W f (lf f W) ex v) :
    Calls Try.prog 79 #[.pointer (some ⟨S, 0, none⟩), .agg #[.int .i64 (a : Int), .int .i64 (m : Int)], .int .i64 (-1)] w fun e w' => (∃ o : Bool, e = .returned (.bool o)) ∧ SS w' S G mv W (addF f a m (-1)) (lf (addF f a m (-1)) W) ex v ∧ Frm w w' S G := by
  have hm1 : 1 ≤ m := by omega
  have hSl := h.lt
  have hGl := h.glt
  have HF := Lib.hid hf
  have HC := Lib.hid hc
  have HS0 : Hid (SS (pbW w a m) S G mv W f (lf f W) ex v) := Lib.hid (h.below ((Below.refl _ _).alloc (Nat.le_refl _) _))
  have HST : Hid (∀ i j, stpF f a m (-1) (i + 1) j = upd (stpF f a m (-1) i) (a + i * m) (stpF f a m (-1) i (a + i * m) + -1) j) := Lib.hid (fun i j => rfl)
  have HNW : Hid (∀ i, stpF f a m (-1) i (a + i * m) = f (a + i * m)) := Lib.hid (fun i => stpF_new f (-1) hm1 i)
  have HLB := Lib.hid (fun g : Nat → Int => lf_bd g W)
  clear h hf hc
  go_enter Try.func79, Try.ntmps79
  go_wp2_with fail
  go_loopw [7, 8] (fun o z wr => ∃ i N : Nat, ∃ ob : Bool, N ≤ W + m ∧ Hid (a + i * m = N) ∧ Hid (∀ k, k < i → a + k * m < W) ∧ Hid (oncF f a m (-1) i = ob) ∧ o = .bool ob ∧ z = .int .i64 (N : Int) ∧ Hid (SS wr S G mv W (stpF f a m (-1) i) (lf (stpF f a m (-1) i) W) ex v) ∧ Hid (Frm (pbW w a m) wr S G)) (fun _ z _ => W + m - (intOf z).toNat)
  case atStart => exact ⟨0, a, true, by omega, Lib.hid (by omega), Lib.hid (fun k hk => by omega), Lib.hid rfl, rfl, rfl, HS0, Lib.hid (Frm.refl _ _ _)⟩
  case round =>
    obtain ⟨i, N, ob, hN, hNe, hlo, hob, rfl, rfl, hss, hfr⟩ := hrel
    obtain ⟨g0, g1⟩ := pb_cells hfr.out hSl hGl
    have c1 := hss.out.c1
    by_cases hlt : N < W
    · have hlti : (N : Int) < (W : Int) := by omega
      have hN0 : (0 : Int) ≤ (N : Int) := by omega
      obtain ⟨y, hy⟩ : ∃ y, f N = y := ⟨_, rfl⟩
      have hyb := HF.out N hlt
      rw [hy] at hyb
      obtain ⟨y0, y1⟩ := hyb
      have y2 : 1 ≤ y := by rw [← hy]; refine HC.out N hlt ?_; rw [← hNe.out]; exact cov_step
      have hsy : stpF f a m (-1) i N = y := by rw [← hy, ← hNe.out]; exact HNW.out i
      obtain ⟨d0, d1⟩ := hss.out.day hlt
      rw [hsy] at d0
      have c2 := hss.out.c2
      have f2 := hss.out.f2
      obtain ⟨L, hL⟩ : ∃ L, lf (stpF f a m (-1) i) W = L := ⟨_, rfl⟩
      have hLb := HLB.out (stpF f a m (-1) i)
      rw [hL] at c2 hLb hss
      obtain ⟨L0, L1⟩ := hLb
      have HLU : Hid (lf (stpF f a m (-1) (i + 1)) W = L + ((if y + -1 = 0 then 1 else 0) - (if y = 0 then 1 else 0))) := Lib.hid (by
        have e : stpF f a m (-1) (i + 1) = upd (stpF f a m (-1) i) N (y + -1) := by
          show upd (stpF f a m (-1) i) (a + i * m) (stpF f a m (-1) i (a + i * m) + -1) = _
          rw [hNe.out, hsy]
        rw [e, lf_upd, hL, hsy, if_pos hlt])
      have HE : Hid (stpF f a m (-1) (i + 1) = upd (stpF f a m (-1) i) N (y + -1)) := Lib.hid (by
        show upd (stpF f a m (-1) i) (a + i * m) (stpF f a m (-1) i (a + i * m) + -1) = _
        rw [hNe.out, hsy])
      have HON : Hid (oncF f a m (-1) (i + 1) = (ob && decide (y + -1 < 2))) := Lib.hid (by rw [oncF, hob.out, hNe.out, hy])
      have HN2 : Hid (a + (i + 1) * m = N + m) := Lib.hid (by rw [Nat.succ_mul, ← hNe.out]; omega)
      have HLO2 : Hid (∀ k, k < i + 1 → a + k * m < W) := Lib.hid (fun k hk => by
        by_cases e : k = i
        · rw [e, hNe.out]; exact hlt
        · exact hlo.out k (by omega))
      clear hy hsy hL
      by_cases hq : y = 1
      · have hs2 := hss.out.setL (L + 1)
        have hs3 := hs2.setD N (y + -1)
        obtain ⟨e0, e1⟩ := hs2.day hlt
        have e2 := hs2.c1
        have e3 := hs3.c1
        obtain ⟨e4, e5⟩ := hs3.day hlt
        rw [upd_same] at e4
        have e0' : (wr.setCell ⟨S, 2, none⟩ (.int .i64 (L + 1))).cell? ⟨G, N, none⟩ = some (.int .i64 y) := (World.cell?_setCell_other _ _ _ _ (bne' (fun e => hss.out.ne e.symm))).trans d0
        have hs4 : SS ((wr.setCell ⟨S, 2, none⟩ (.int .i64 (L + 1))).setCell ⟨G, N, none⟩ (.int .i64 (y + -1))) S G mv W (stpF f a m (-1) (i + 1)) (lf (stpF f a m (-1) (i + 1)) W) ex v := by
          rw [HLU.out, HE.out]
          have e : L + ((if y + -1 = 0 then 1 else 0) - (if y = 0 then 1 else 0)) = L + 1 := by
            rw [hq]; first | (rw [if_neg (by omega), if_pos rfl]; omega) | (rw [if_pos (by omega), if_neg (by omega)]; omega)
          rw [e]; exact hs3
        have hf4 : Frm (pbW w a m) ((wr.setCell ⟨S, 2, none⟩ (.int .i64 (L + 1))).setCell ⟨G, N, none⟩ (.int .i64 (y + -1))) S G := (hfr.out.set (.inl rfl) _).set (.inr rfl) _
        have HS4 := Lib.hid hs4
        have HF4 := Lib.hid hf4
        obtain ⟨k0, k1⟩ := pb_cells hf4 hSl hGl
        clear hs2 hs3 hs4 hf4 e0
        cases ob with
        | true =>
          subst hq
          simp only [show (1 : Int) + -1 = 0 from rfl] at e3 e4 e5 HS4 HF4 HON k0 k1
          go_wp2_with fail
          go_roundw
          case rel => exact ⟨i + 1, N + m, _, by omega, HN2, HLO2, HON, by first | rfl | simp, by go_num, HS4, HF4⟩
          case measure => simp [intOf]; omega
        | false =>
          subst hq
          simp only [show (1 : Int) + -1 = 0 from rfl] at e3 e4 e5 HS4 HF4 HON k0 k1
          go_wp2_with fail
          go_roundw
          case rel => exact ⟨i + 1, N + m, _, by omega, HN2, HLO2, HON, by first | rfl | simp, by go_num, HS4, HF4⟩
          case measure => simp [intOf]; omega
      · have hs3 := hss.out.setD N (y + -1)
        have tq : (y == 1) = false := beq_eq_false_iff_ne.2 hq
        have e3 := hs3.c1
        obtain ⟨e4, e5⟩ := hs3.day hlt
        rw [upd_same] at e4
        have hs4 : SS (wr.setCell ⟨G, N, none⟩ (.int .i64 (y + -1))) S G mv W (stpF f a m (-1) (i + 1)) (lf (stpF f a m (-1) (i + 1)) W) ex v := by
          rw [HLU.out, HE.out]
          have e : L + ((if y + -1 = 0 then 1 else 0) - (if y = 0 then 1 else 0)) = L := by
            rw [if_neg (by omega), if_neg (by omega)]; omega
          rw [e]; exact hs3
        have hf4 : Frm (pbW w a m) (wr.setCell ⟨G, N, none⟩ (.int .i64 (y + -1))) S G := hfr.out.set (.inr rfl) _
        have HS4 := Lib.hid hs4
        have HF4 := Lib.hid hf4
        obtain ⟨k0, k1⟩ := pb_cells hf4 hSl hGl
        clear hs3 hs4 hf4
        cases ob with
        | true =>
          go_wp2_with fail
          go_roundw
          case rel => exact ⟨i + 1, N + m, _, by omega, HN2, HLO2, HON, by first | rfl | simp, by go_num, HS4, HF4⟩
          case measure => simp [intOf]; omega
        | false =>
          go_wp2_with fail
          go_roundw
          case rel => exact ⟨i + 1, N + m, _, by omega, HN2, HLO2, HON, by first | rfl | simp, by go_num, HS4, HF4⟩
          case measure => simp [intOf]; omega
    · have hge : W ≤ N := by omega
      go_wp2_with fail
      go_ret
      have hend : ∀ j, j < W → stpF f a m (-1) i j = addF f a m (-1) j := fun j hj => stpF_end hm1 ha (by rw [hNe.out]; exact hge) j hj
      refine ⟨⟨ob, rfl⟩, ?_, ?_⟩
      · have := hss.out.congr hend
        rwa [lf_congr W hend] at this
      · exact (Frm.of_below ((Below.refl _ _).alloc (Nat.le_refl _) _)).trans hfr.out
end Go.Proofs.Ytmmgidhaakkaoaa
