/- The reference's division: the walk of rest. -/
import Derived.Test.YtmljndjiipgpdaaPw
namespace Go.Proofs.Ytmljndjiipgpdaa
open Go Go.RowKit GhP

/-- the quotient, where there is one -/
def quoZ (g f : List Int) : List Int := overGo g (f.length + 1 - g.length) f []

/-- two slices of the call's own: the quotient and what is left -/
def GivesRest (w : World) (F G : List Int) (e : Ending) (w' : World) : Prop :=
  ∃ A1 n1 c1 g2 n2 c2, e = .returned (.tuple #[.slice A1 n1 c1, .slice (some ⟨g2, 0, none⟩) n2 c2]) ∧ Own w' w.heap.size A1 n1 c1 (wl (quoZ G F)) ∧ Own w' w.heap.size (some ⟨g2, 0, none⟩) n2 c2 ((wl (remZ G F)).take (G.length - 1)) ∧ Below w.heap.size w w'

set_option maxRecDepth 100000 in
set_option maxHeartbeats 1000000 in
theorem rest_long (A B : Option Addr) (n m c d : Nat) (F G : List Int) (w : World) (h : IRow w w.heap.size A n (wl F)) (g : IRow w w.heap.size B m (wl G)) (hm : 1 ≤ m) (hmn : m ≤ n + 1) (hn : n ≤ 200) (hn1 : 1 ≤ n) :
    Calls Try.prog 38 #[.slice A n c, .slice B m d] w (GivesRest w F G) := by
  have hFl : F.length = n := by have := h.1; rw [wl_len] at this; omega
  have hGl : G.length = m := by have := g.1; rw [wl_len] at this; omega
  obtain ⟨b0, o0, x0, hx0, rfl, hb0, hc0⟩ := h.at_ (k := 0) (by omega)
  clear hx0 hc0
  have HF := Lib.hid h
  have HG := Lib.hid g
  have HFL := Lib.hid hFl
  have HGL := Lib.hid hGl
  obtain ⟨M, hM⟩ : ∃ M : Nat, (m : Int) - 1 = (M : Int) := ⟨m - 1, by omega⟩
  have HMm : Hid (m = M + 1) := Lib.hid (by omega)
  obtain ⟨q, hq⟩ : ∃ q : Nat, (n : Int) - (M : Int) = (q : Int) := ⟨n - M, by omega⟩
  have hqn : n = M + q := by omega
  have HOZ : Hid (overGo G q F [] = quoZ G F) := Lib.hid (by unfold quoZ; rw [hFl, hGl]; congr 1; omega)
  have HRZ : Hid (remGo G q F = remZ G F) := Lib.hid (by unfold remZ; rw [hFl, hGl]; congr 1; omega)
  have hq200 : q ≤ 200 := by omega
  clear h g hFl hGl hqn
  obtain ⟨i0, hi, hz0, hz1, hz2⟩ := info_parts infoI
  have hown : (w.alloc (Obj.cells #[] 3)).ownsRow w.heap.size 3 1 (.slice (some ⟨w.heap.size, 0, none⟩) 0 0) 0 [] :=
    ⟨rfl, .inr ⟨w.heap.size, 0, #[], rfl, Nat.le_refl _, (by show (w.heap.push _)[w.heap.size]? = _; simp), Nat.le_refl _, by decide, rfl, rfl⟩⟩
  have hnews : ∀ j u, (ints (wl F))[j]? = some u → (w.alloc (Obj.cells #[] 3)).cell? ((⟨b0, o0, none⟩ : Addr).add j) = some u := by
    intro j u hu
    have := HF.out.ints j u hu
    rw [iadd] at this ⊢
    rw [World.cell?_alloc_lt _ _ _ hb0]; exact this
  have HO := Lib.hid hown
  have HN := Lib.hid hnews
  have H1 : Hid ((ints (wl F)).length = n * 1) := Lib.hid (by rw [ints_len, wl_len, HFL.out]; omega)
  have H3 : Hid (0 + n ≤ maxLen) := Lib.hid (by unfold maxLen; omega)
  have H4 : Hid ((0 + n) * 8 ≤ 140737488355328) := Lib.hid (by omega)
  have H5 : Hid (w.heap.size ≤ (w.alloc (Obj.cells #[] 3)).heap.size) := Lib.hid (by simp)
  have hmk := run_make_row' (P := Try.prog) 22 3 (.int .i64 0) 8 Try.underlying22 infoI rfl .i64 .i64 q (by omega) (by omega)
  clear hown hnews
  go_enter Try.func38, Try.ntmps38
  go_wp2_with (at_builtin; refine wpList_append_own _ rfl _ _ 22 rfl w.heap.size 3 i0 (.int .i64 0) 1 8 Try.underlying22 hi hz0 hz1 hz2 rfl (by decide) _ 0 [] rfl HO.out ⟨b0, o0, none⟩ n c (ints (wl F)) rfl H1.out HN.out (ints_one (wl F)) H3.out H4.out H5.out ?_; intro v' w1 hown' hgrow _)
  rw [Nat.zero_add, List.nil_append] at hown'
  have HB1 : Hid (Below w.heap.size w w1) := Lib.hid (((Below.refl _ _).alloc (Nat.le_refl _) _).grown hgrow (by simp) (fun k e => by cases e; exact Nat.le_refl _))
  obtain ⟨A1, c1, rfl, hA1⟩ := iown_sl hown'
  obtain ⟨G1, rfl⟩ := Own.form hown' (by omega)
  have how1 : Own w1 w.heap.size (some ⟨G1, 0, none⟩) n c1 (wl F) := hown'
  obtain ⟨w2, hw2⟩ : ∃ w2, w1.alloc (Obj.cells (madeCells #[Value.int .i64 0] q) 3) = w2 := ⟨_, rfl⟩
  have HOW2 : Hid (Own w2 w.heap.size (some ⟨w1.heap.size, 0, none⟩) q q (List.replicate q 0 ++ wl [])) := Lib.hid (by
    rw [← hw2]
    have := own_made (w := w1) (n := q) HB1.out.size (by unfold maxLen; omega)
    simpa [wl] using this)
  have HOX2 : Hid (Own w2 w.heap.size (some ⟨G1, 0, none⟩) n c1 (wl F)) := Lib.hid (by rw [← hw2]; exact how1.alloc _)
  have HB2 : Hid (Below w.heap.size w w2) := Lib.hid (by rw [← hw2]; exact HB1.out.alloc HB1.out.size _)
  obtain ⟨G2, hG2⟩ : ∃ G2, w1.heap.size = G2 := ⟨_, rfl⟩
  have HNE : Hid (G1 ≠ G2 ∧ w.heap.size ≤ G1 ∧ w.heap.size ≤ G2) := Lib.hid (by
    have := how1.lt G1 rfl
    have h2 := HB1.out.size
    refine ⟨by omega, this.1, by omega⟩)
  have hnc : n ≤ c1 := by
    rcases how1.2 with ⟨h0, _⟩ | ⟨g', cap, cur, hv, hg, hh, h1, _⟩
    · cases h0
    · injection hv with _ _ hc; omega
  have hc1 : c1 ≤ maxLen := by
    rcases how1.2 with ⟨h0, _⟩ | ⟨g', cap, cur, hv, hg, hh, h1, h2, _⟩
    · cases h0
    · injection hv with _ _ hc; omega
  have hMn : M ≤ n := by omega
  rw [hG2] at HOW2
  have HNC := Lib.hid hnc
  have HC1 := Lib.hid hc1
  clear how1 hA1 HB1 hown' hgrow hnc hc1 hi hz0 hz1 hz2
  go_wp2_with fail
  try rw [hw2]
  try rw [hG2]
  rw [run_len_slice (P := Try.prog) (w := w2) 22 3 (some ⟨G1, 0, none⟩) n c1 (by kernel_rfl)]
  go_wp2_with fail
  clear hw2 hG2 hmk
  have hstart : (n : Int) - 1 = (q : Int) + (m : Int) - 2 := by omega
  have HSTART := Lib.hid hstart
  clear hstart
  go_loopw [9] (fun iv wr => ∃ (k : Nat) (L Q : List Int), k ≤ q ∧ iv = .int .i64 ((k : Int) + (M : Int) - 1) ∧ Hid (overGo G k L Q = quoZ G F) ∧ Hid (remGo G k L = remZ G F) ∧ Hid (L.length = n) ∧ Hid (Own wr w.heap.size (some ⟨G1, 0, none⟩) n c1 (wl L)) ∧ Hid (Own wr w.heap.size (some ⟨G2, 0, none⟩) q q (List.replicate k 0 ++ wl Q)) ∧ Below w.heap.size w wr) (fun iv _ => (intOf iv + 1 - M).toNat)
  case atStart => exact ⟨q, F, [], by omega, by have := HMm.out; have := HSTART.out; congr 1; omega, HOZ, HRZ, HFL, HOX2, HOW2, HB2.out⟩
  case round =>
    obtain ⟨k, L, Q, hk, rfl, hov, hre, hLl, how1, how2, hb⟩ := hrel
    obtain ⟨wo, hwo⟩ : ∃ wo : World, wo = wr := ⟨_, rfl⟩
    subst hwo
    by_cases hk0 : k = 0
    · subst hk0
      have HE : Hid (Q = quoZ G F) := Lib.hid hov.out
      have HE2 : Hid (L = remZ G F) := Lib.hid hre.out
      have hnc := HNC.out
      have hMc : M ≤ c1 := by omega
      have hMi : (M : Int) ≤ (n : Int) := by omega
      have hmin : min (M : Int) (n : Int) = (M : Int) := by omega
      have HO1 : Hid (Own wo w.heap.size (some ⟨G1, 0, none⟩) M c1 ((wl (remZ G F)).take (G.length - 1))) := Lib.hid (by
        have e : G.length - 1 = M := by have h1 := HGL.out; have h2 := HMm.out; omega
        rw [e, ← HE2.out]; exact how1.out.take hMn)
      have HO2 : Hid (Own wo w.heap.size (some ⟨G2, 0, none⟩) q q (wl (quoZ G F))) := Lib.hid (by
        have := how2.out
        rw [HE.out] at this
        simpa using this)
      go_wp2_with fail
      go_region
      go_wp2_with fail
      go_ret2
      first
        | exact ⟨_, q, q, G1, M, c1, rfl, HO2.out, HO1.out, hb⟩
        | exact ⟨_, q, q, G1, M, c1, rfl, HO2.out.drew, HO1.out.drew, hb.drew⟩
    · obtain ⟨i, rfl⟩ : ∃ i, k = i + 1 := ⟨k - 1, by omega⟩
      have hki : ((i + 1 : Nat) : Int) + (M : Int) - 1 = ((i + M : Nat) : Int) := by omega
      rw [hki]
      have hLl2 := hLl.out
      obtain ⟨C, hC⟩ : ∃ C, L[i + M]? = some C := ⟨_, List.getElem?_eq_getElem (by omega)⟩
      obtain ⟨g1, g2, g3, g4⟩ := how1.out.cell (wl_at hC)
      have HCC : Hid (L.getD (i + m - 1) 0 = C) := Lib.hid (by rw [List.getD_eq_getElem?_getD, show i + m - 1 = i + M by have := HMm.out; omega, hC]; rfl)
      obtain ⟨c', hc'⟩ : ∃ c', wrap64 C = c' := ⟨_, rfl⟩
      have HC' := Lib.hid hc'
      rw [hc'] at g1
      have hidx : ((i + M : Nat) : Int) - (M : Int) = (i : Int) := by omega
      have hin : i + M < n := by omega
      have hiM : (M : Int) ≤ ((i + M : Nat) : Int) := by omega
      obtain ⟨g5, g6, g7, g8⟩ := how2.out.cell (k := i) (x := 0) (by rw [List.getElem?_append_left (by simp)]; simp)
      have HO2 : Hid (Own (wo.setCell ⟨G2, i, none⟩ (.int .i64 c')) w.heap.size (some ⟨G2, 0, none⟩) q q (List.replicate i 0 ++ wl (C :: Q))) := Lib.hid (by
        have := how2.out.store i c'
        rw [set_out, ← hc'] at this
        rw [← hc']; exact this)
      have HO1 : Hid (Own (wo.setCell ⟨G2, i, none⟩ (.int .i64 c')) w.heap.size (some ⟨G1, 0, none⟩) n c1 (wl (sub i L C (G.take 0)))) := Lib.hid (by
        rw [List.take_zero, sub_nil]
        exact how1.out.other (Below.heap_setCell _ _ _ _ HNE.out.1))
      have HBO : Hid (Below w.heap.size w (wo.setCell ⟨G2, i, none⟩ (.int .i64 c'))) := Lib.hid (hb.setCell (p := ⟨G2, i, none⟩) HNE.out.2.2 _)
      obtain ⟨iM, hiMe⟩ : ∃ iM : Nat, i + M = iM := ⟨_, rfl⟩
      rw [hiMe] at g1 g2 hidx hin hiM ⊢
      have HIM := Lib.hid hiMe
      clear hki hC hLl2 hc' hb hiMe
      go_wp2_with fail
      go_loopw [45] (fun z wr => ∃ j : Nat, j ≤ m ∧ z = .int .i64 (j : Int) ∧ Hid (Own wr w.heap.size (some ⟨G1, 0, none⟩) n c1 (wl (sub i L C (G.take j)))) ∧ Hid (Own wr w.heap.size (some ⟨G2, 0, none⟩) q q (List.replicate i 0 ++ wl (C :: Q))) ∧ Below w.heap.size w wr) (fun z _ => m - (intOf z).toNat)
      case atStart => exact ⟨0, by omega, rfl, HO1, HO2, HBO.out⟩
      case round =>
        obtain ⟨j, hj, rfl, how3, how4, hbj⟩ := hrel
        by_cases hjm : j < m
        · obtain ⟨b, off, x, hx, rfl, hB, g9⟩ := (HG.out.below hbj).at_ hjm
          obtain ⟨X, hX, hxX⟩ := wl_cell hx
          have hij : i + j < L.length := by have := hLl.out; have := HIM.out; have := HMm.out; omega
          obtain ⟨Y, hY⟩ : ∃ Y, L[i + j]? = some Y := ⟨_, List.getElem?_eq_getElem hij⟩
          have hY2 : (sub i L C (G.take j))[i + j]? = some Y := by rw [sub_at]; exact hY
          obtain ⟨y, hy⟩ : ∃ y, wrap64 Y = y := ⟨_, rfl⟩
          have hcell3 := how3.out.cell (wl_at hY2)
          rw [hy] at hcell3
          obtain ⟨g10, g11, g12, g13⟩ := hcell3
          have HST : Hid (wl (sub i L C (G.take (j + 1))) = (wl (sub i L C (G.take j))).set (i + j) (wrap64 (y - wrap64 (c' * x)))) := Lib.hid (by
            rw [sub_take hX hY, wl_set, ← hy, hxX, ← HC'.out, w_sm])
          have hijn : i + j < n := by have := HIM.out; have := HMm.out; omega
          clear hx hX hxX hY hY2 hy hij
          go_wp2_with fail
          go_roundw
          case rel => exact ⟨j + 1, by omega, by go_num, by rw [HST.out]; exact Lib.hid (how3.out.store (i + j) _), Lib.hid (how4.out.other (Below.heap_setCell _ _ _ _ (Ne.symm HNE.out.1))), hbj.setCell (p := ⟨G1, i + j, none⟩) HNE.out.2.1 _⟩
          case measure => simp [intOf]; omega
        · have e : j = m := by omega
          subst e
          have HT : Hid (G.take j = G) := Lib.hid (List.take_of_length_le (by rw [HGL.out]; omega))
          have HOV : Hid (overGo G i (sub i L C G) (C :: Q) = quoZ G F) := Lib.hid (by
            rw [← hov.out, overGo, HGL.out, HCC.out])
          have HRE : Hid (remGo G i (sub i L C G) = remZ G F) := Lib.hid (by
            rw [← hre.out, remGo, HGL.out, HCC.out])
          rw [HT.out] at how3
          go_wp2_with fail
          go_roundw
          case rel => exact ⟨i, sub i L C G, C :: Q, by omega, by have := HIM.out; congr 1; omega, HOV, HRE, Lib.hid (by rw [sub_len]; exact hLl.out), how3, how4, hbj⟩
          case measure => simp [intOf]; omega
set_option maxRecDepth 100000 in
set_option maxHeartbeats 1000000 in
theorem rest_short (A B : Option Addr) (n m c d : Nat) (F G : List Int) (w : World) (h : IRow w w.heap.size A n (wl F)) (g : IRow w w.heap.size B m (wl G)) (hm : 1 ≤ m) (hmn : n + 1 < m) (hm2 : m ≤ 200) (hn : n ≤ 200) (hn1 : 1 ≤ n) :
    Calls Try.prog 38 #[.slice A n c, .slice B m d] w (GivesRest w F G) := by
  have hFl : F.length = n := by have := h.1; rw [wl_len] at this; omega
  have hGl : G.length = m := by have := g.1; rw [wl_len] at this; omega
  obtain ⟨b0, o0, x0, hx0, rfl, hb0, hc0⟩ := h.at_ (k := 0) (by omega)
  clear hx0 hc0
  have HF := Lib.hid h
  have HG := Lib.hid g
  have HFL := Lib.hid hFl
  have HGL := Lib.hid hGl
  obtain ⟨M, hM⟩ : ∃ M : Nat, (m : Int) - 1 = (M : Int) := ⟨m - 1, by omega⟩
  have HMm : Hid (m = M + 1) := Lib.hid (by omega)
  obtain ⟨q, hq0⟩ : ∃ q : Nat, q = 0 := ⟨0, rfl⟩
  have HOZ : Hid (overGo G q F [] = quoZ G F) := Lib.hid (by unfold quoZ; rw [hFl, hGl, hq0, show n + 1 - m = 0 by omega])
  have HRZ : Hid (remGo G q F = remZ G F) := Lib.hid (by unfold remZ; rw [hFl, hGl, hq0, show n + 1 - m = 0 by omega])
  have hq200 : q ≤ 200 := by omega
  have HQ0 := Lib.hid hq0
  clear h g hFl hGl hq0 hq200
  obtain ⟨i0, hi, hz0, hz1, hz2⟩ := info_parts infoI
  have hown : (w.alloc (Obj.cells #[] 3)).ownsRow w.heap.size 3 1 (.slice (some ⟨w.heap.size, 0, none⟩) 0 0) 0 [] :=
    ⟨rfl, .inr ⟨w.heap.size, 0, #[], rfl, Nat.le_refl _, (by show (w.heap.push _)[w.heap.size]? = _; simp), Nat.le_refl _, by decide, rfl, rfl⟩⟩
  have hnews : ∀ j u, (ints (wl F))[j]? = some u → (w.alloc (Obj.cells #[] 3)).cell? ((⟨b0, o0, none⟩ : Addr).add j) = some u := by
    intro j u hu
    have := HF.out.ints j u hu
    rw [iadd] at this ⊢
    rw [World.cell?_alloc_lt _ _ _ hb0]; exact this
  have HO := Lib.hid hown
  have HN := Lib.hid hnews
  have H1 : Hid ((ints (wl F)).length = n * 1) := Lib.hid (by rw [ints_len, wl_len, HFL.out]; omega)
  have H3 : Hid (0 + n ≤ maxLen) := Lib.hid (by unfold maxLen; omega)
  have H4 : Hid ((0 + n) * 8 ≤ 140737488355328) := Lib.hid (by omega)
  have H5 : Hid (w.heap.size ≤ (w.alloc (Obj.cells #[] 3)).heap.size) := Lib.hid (by simp)
  obtain rfl : q = 0 := HQ0.out
  have hmk : ∀ w, Sem.run Try.prog (Instr.makeSlice 22 (Value.int IntKind.i64 0) (Value.int IntKind.i64 0)) w = Result.ok (Value.slice (some ⟨w.heap.size, 0, none⟩) 0 0) (w.alloc (Obj.cells (madeCells #[Value.int IntKind.i64 0] 0) 3)) :=
    run_make_row' (P := Try.prog) 22 3 (.int .i64 0) 8 Try.underlying22 infoI rfl .i64 .i64 0 (by omega) (by omega)
  clear hown hnews
  go_enter Try.func38, Try.ntmps38
  go_wp2_with (at_builtin; refine wpList_append_own _ rfl _ _ 22 rfl w.heap.size 3 i0 (.int .i64 0) 1 8 Try.underlying22 hi hz0 hz1 hz2 rfl (by decide) _ 0 [] rfl HO.out ⟨b0, o0, none⟩ n c (ints (wl F)) rfl H1.out HN.out (ints_one (wl F)) H3.out H4.out H5.out ?_; intro v' w1 hown' hgrow _)
  rw [Nat.zero_add, List.nil_append] at hown'
  have HB1 : Hid (Below w.heap.size w w1) := Lib.hid (((Below.refl _ _).alloc (Nat.le_refl _) _).grown hgrow (by simp) (fun k e => by cases e; exact Nat.le_refl _))
  obtain ⟨A1, c1, rfl, hA1⟩ := iown_sl hown'
  obtain ⟨G1, rfl⟩ := Own.form hown' (by omega)
  have how1 : Own w1 w.heap.size (some ⟨G1, 0, none⟩) n c1 (wl F) := hown'
  obtain ⟨w2, hw2⟩ : ∃ w2, w1.alloc (Obj.cells (madeCells #[Value.int .i64 0] 0) 3) = w2 := ⟨_, rfl⟩
  have HOW2 : Hid (Own w2 w.heap.size (some ⟨w1.heap.size, 0, none⟩) 0 0 (List.replicate 0 0 ++ wl [])) := Lib.hid (by
    rw [← hw2]
    have := own_made (w := w1) (n := 0) HB1.out.size (by unfold maxLen; omega)
    simpa [wl] using this)
  have HOX2 : Hid (Own w2 w.heap.size (some ⟨G1, 0, none⟩) n c1 (wl F)) := Lib.hid (by rw [← hw2]; exact how1.alloc _)
  have HB2 : Hid (Below w.heap.size w w2) := Lib.hid (by rw [← hw2]; exact HB1.out.alloc HB1.out.size _)
  obtain ⟨G2, hG2⟩ : ∃ G2, w1.heap.size = G2 := ⟨_, rfl⟩
  have HNE : Hid (G1 ≠ G2 ∧ w.heap.size ≤ G1 ∧ w.heap.size ≤ G2) := Lib.hid (by
    have := how1.lt G1 rfl
    have h2 := HB1.out.size
    refine ⟨by omega, this.1, by omega⟩)
  have hnc : n ≤ c1 := by
    rcases how1.2 with ⟨h0, _⟩ | ⟨g', cap, cur, hv, hg, hh, h1, _⟩
    · cases h0
    · injection hv with _ _ hc; omega
  have hc1 : c1 ≤ maxLen := by
    rcases how1.2 with ⟨h0, _⟩ | ⟨g', cap, cur, hv, hg, hh, h1, h2, _⟩
    · cases h0
    · injection hv with _ _ hc; omega
  have hMn : n < M := by omega
  rw [hG2] at HOW2
  have HNC := Lib.hid hnc
  have HC1 := Lib.hid hc1
  clear how1 hA1 HB1 hown' hgrow hnc hc1 hi hz0 hz1 hz2
  go_wp2_with fail
  try rw [hw2]
  try rw [hG2]
  rw [run_len_slice (P := Try.prog) (w := w2) 22 3 (some ⟨G1, 0, none⟩) n c1 (by kernel_rfl)]
  go_wp2_with fail
  clear hw2 hG2 hmk
  go_loopw [9] (fun iv wr => iv = .int .i64 ((n : Int) - 1) ∧ wr = w2) (fun _ _ => 0)
  case atStart => exact ⟨rfl, rfl⟩
  case round =>
    obtain ⟨rfl, rfl⟩ := hrel
    have hnc := HNC.out
    have hlt : (n : Int) - 1 < (M : Int) := by omega
    have hmin : min (M : Int) (n : Int) = (n : Int) := by omega
    have HO1 : Hid (Own wr w.heap.size (some ⟨G1, 0, none⟩) n c1 ((wl (remZ G F)).take (G.length - 1))) := Lib.hid (by
      have e : G.length - 1 = M := by have h1 := HGL.out; have h2 := HMm.out; omega
      have h3 : F = remZ G F := by rw [← HRZ.out]; rfl
      rw [e, ← h3, List.take_of_length_le (by rw [wl_len, HFL.out]; omega)]
      exact HOX2.out)
    have HO2 : Hid (Own wr w.heap.size (some ⟨G2, 0, none⟩) 0 0 (wl (quoZ G F))) := Lib.hid (by
      have h3 : ([] : List Int) = quoZ G F := by rw [← HOZ.out]; rfl
      have := HOW2.out
      rw [← h3]
      simpa using this)
    have hb := HB2.out
    go_wp2_with fail
    go_region
    go_wp2_with fail
    go_ret2
    first
      | exact ⟨_, 0, 0, G1, n, c1, rfl, HO2.out, HO1.out, hb⟩
      | exact ⟨_, 0, 0, G1, n, c1, rfl, HO2.out.drew, HO1.out.drew, hb.drew⟩

end Go.Proofs.Ytmljndjiipgpdaa
