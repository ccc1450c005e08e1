/- Numbers of an order in the program: the walks of degree and lowest. -/
import Derived.Test.YtmljndjiipgpdaaRcy
import Derived.Laws.CopyOwn
namespace Go.Proofs.Ytmljndjiipgpdaa
open Go Go.RowKit GhP

abbrev rgV (n : Nat) (B : Option Addr) (m d : Nat) : Value := .agg #[.int .i64 (n : Int), .slice B m d]

theorem degree_any (n : Nat) (B : Option Addr) (m d : Nat) (w : World) (hm : 1 ≤ m) (hm2 : m ≤ 1000) :
    Calls Try.prog 53 #[rgV n B m d] w fun e w' => e = .returned (.int .i64 ((m : Int) - 1)) ∧ Below w.heap.size w w' := by
  go_enter Try.func53, Try.ntmps53
  go_wp2_with fail
  go_ret
  exact ⟨rfl, (Below.refl _ _).alloc (Nat.le_refl _) _⟩

abbrev rgBox (w : World) (n : Nat) (B : Option Addr) (m d : Nat) : World := w.alloc (Obj.cells #[.int .i64 (n : Int), .slice B m d] 52)
theorem rg_cells {w w' : World} {n : Nat} {B : Option Addr} {m d : Nat} (hb : Below (w.heap.size + 1) (rgBox w n B m d) w') :
    w'.cell? ⟨w.heap.size, 0, none⟩ = some (.int .i64 (n : Int)) ∧ w'.cell? ⟨w.heap.size, 1, none⟩ = some (.slice B m d) := by
  have h1 := hb.cell (p := ⟨w.heap.size, 0, none⟩) (by simp)
  have h2 := hb.cell (p := ⟨w.heap.size, 1, none⟩) (by simp)
  rw [h1, h2]
  exact ⟨by simp, by simp⟩

set_option maxRecDepth 100000 in
set_option maxHeartbeats 1000000 in
theorem lowest_any (n : Nat) (A B : Option Addr) (m d l c : Nat) (F G : List Int) (w : World) (g : IRow w w.heap.size B m (wl G)) (h : IRow w w.heap.size A l (wl F)) (hm : 2 ≤ m) (hml : m ≤ l + 1) (hl : l ≤ 150) :
    Calls Try.prog 37 #[rgV n B m d, .slice A l c] w (GivesI w (wl (redZ G F))) := by
  have hFl : F.length = l := by have := h.1; rw [wl_len] at this; omega
  have hGl : G.length = m := by have := g.1; rw [wl_len] at this; omega
  have HNN : Hid (A = none → l = 0) := Lib.hid (fun e => by
    apply Classical.byContradiction
    intro hn0
    obtain ⟨b, off, x, _, hA, _⟩ := h.at_ (k := 0) (by omega)
    rw [e] at hA; cases hA)
  obtain ⟨w0, hw0⟩ : ∃ w0, rgBox w n B m d = w0 := ⟨_, rfl⟩
  have hb0 : Below w.heap.size w w0 := by rw [← hw0]; exact (Below.refl _ _).alloc (Nat.le_refl _) _
  have hs0 : w0.heap.size = w.heap.size + 1 := by rw [← hw0]; simp
  have HS0 := Lib.hid hs0
  have HF := Lib.hid (h.next hb0)
  have HG := Lib.hid (g.next hb0)
  have HB0 := Lib.hid hb0
  have HRB : Hid (∀ w', Below w0.heap.size w0 w' → w'.cell? ⟨w.heap.size, 0, none⟩ = some (.int .i64 (n : Int)) ∧ w'.cell? ⟨w.heap.size, 1, none⟩ = some (.slice B m d)) := Lib.hid (fun w' hb => by
    rw [hs0, ← hw0] at hb; exact rg_cells hb)
  have HFL := Lib.hid hFl
  have HGL := Lib.hid hGl
  obtain ⟨M, hM⟩ : ∃ M : Nat, (m : Int) - 1 = (M : Int) := ⟨m - 1, by omega⟩
  have HMm : Hid (m = M + 1) := Lib.hid (by omega)
  have hM1 : 1 ≤ M := by omega
  obtain ⟨q, hq⟩ : ∃ q : Nat, (l : Int) - (M : Int) = (q : Int) := ⟨l - M, by omega⟩
  have hlq : l = M + q := by omega
  have HLQ := Lib.hid hlq
  have HRZ : Hid (remGo G q F = remZ G F) := Lib.hid (by unfold remZ; rw [hFl, hGl]; congr 1; omega)
  have hMl : M ≤ l := by omega
  clear h g hFl hGl hlq hs0 hb0 hq
  go_enter Try.func37, Try.ntmps37
  go_wp2_with fail
  try rw [hw0]
  refine (clone_poly A l c (wl F) w0 HF.out (by omega) HNN.out).mono ?_; rintro e w1 ⟨A1, n1, c1, rfl, how1, hA1, hb1⟩
  obtain rfl : n1 = l := by have := how1.len; rw [wl_len, HFL.out] at this; exact this
  obtain ⟨G1, rfl⟩ := how1.form (by omega)
  have HG1 := Lib.hid (how1.lt G1 rfl)
  have HO1 := Lib.hid how1
  have HB1 := Lib.hid hb1
  clear how1 hA1 hb1 hw0
  go_wp2_with fail
  go_loopw [5] (fun iv wr => ∃ (k : Nat) (L : List Int), k ≤ q ∧ iv = .int .i64 ((k : Int) + (M : Int) - 1) ∧ Hid (remGo G k L = remZ G F) ∧ Hid (L.length = n1) ∧ Hid (Own wr w0.heap.size (some ⟨G1, 0, none⟩) n1 c1 (wl L)) ∧ Below w0.heap.size w0 wr) (fun iv _ => (intOf iv + 1 - M).toNat)
  case atStart => exact ⟨q, F, by omega, by have := HLQ.out; congr 1; omega, HRZ, HFL, HO1, HB1.out⟩
  case round =>
    obtain ⟨k, L, hk, rfl, hre, hLl, how1, hb⟩ := hrel
    obtain ⟨wo, hwo⟩ : ∃ wo : World, wo = wr := ⟨_, rfl⟩
    subst hwo
    obtain ⟨x1, x2⟩ := HRB.out wo hb
    by_cases hk0 : k = 0
    · subst hk0
      have HE2 : Hid (L = remZ G F) := Lib.hid hre.out
      have HBO := Lib.hid hb
      clear hb
      have hlt : ((0 : Nat) : Int) + (M : Int) - 1 < (M : Int) := by omega
      go_wp2_with fail
      refine (degree_any n B m d wo (by omega) (by omega)).mono ?_; rw [hM]; rintro e w4 ⟨rfl, hb4⟩
      have HB4 := Lib.hid (ibt HBO.out hb4)
      have HO4 := Lib.hid (iown_bel how1.out hb4)
      obtain ⟨x3, x4⟩ := HRB.out w4 HB4.out
      clear hb4 x1 x2
      go_wp2_with fail
      refine (degree_any n B m d w4 (by omega) (by omega)).mono ?_; rw [hM]; rintro e w5 ⟨rfl, hb5⟩
      have HB5 := Lib.hid (ibt HB4.out hb5)
      have HO5 := Lib.hid (iown_bel HO4.out hb5)
      have hmk := run_make_row' (P := Try.prog) 22 3 (.int .i64 0) 8 Try.underlying22 infoI rfl .i64 .i64 M (by omega) (by omega)
      obtain ⟨w6, hw6⟩ : ∃ w6, w5.alloc (Obj.cells (madeCells #[Value.int .i64 0] M) 3) = w6 := ⟨_, rfl⟩
      have HW6 : Hid (w6.heap[w5.heap.size]? = some (.cells (List.replicate M (Value.int .i64 0)).toArray 3 (0, 0))) := Lib.hid (by
        rw [← hw6, ← toList_madeCells_one]
        show (w5.heap.push _)[w5.heap.size]? = _
        simp)
      have HB6 : Hid (Below w0.heap.size w0 w6) := Lib.hid (by rw [← hw6]; exact HB5.out.alloc HB5.out.size _)
      have HO6 : Hid (Own w6 w0.heap.size (some ⟨G1, 0, none⟩) n1 c1 (wl L)) := Lib.hid (by rw [← hw6]; exact HO5.out.alloc _)
      have HS56 := Lib.hid HB5.out.size
      obtain ⟨G2, hG2⟩ : ∃ G2, w5.heap.size = G2 := ⟨_, rfl⟩
      rw [hG2] at HW6 HS56
      have HCL : Hid ((ints ((wl L).take M)).length = M) := Lib.hid (by rw [ints_len, List.length_take, wl_len, hLl.out]; omega)
      have HSRC : Hid (∀ j v, (ints ((wl L).take M))[j]? = some v → w6.cell? ((⟨G1, 0, none⟩ : Addr).add j) = some v) := Lib.hid (fun j v hv => by
        have h1 := HO6.out.cells (g := G1) rfl j v
        refine h1 ?_
        unfold ints at hv ⊢
        rw [List.getElem?_map, List.getElem?_take] at hv
        rw [List.getElem?_map]
        split at hv
        · exact hv
        · cases hv)
      have hcopy : ∃ w7, (Builtin.copy_ #[22, 48] 3 #[.slice (some ⟨G2, 0, none⟩) M M, .slice (some ⟨G1, 0, none⟩) n1 c1]).run Try.prog w6 = .ok (.int .i64 (M : Int)) w7 ∧ Own w7 w0.heap.size (some ⟨G2, 0, none⟩) M M ((wl L).take M) ∧ Below w0.heap.size w0 w7 := by
        refine ⟨w6.setRow G2 (ints ((wl L).take M)).toArray, ?_, ?_, below_setRow (g := G2) HB6.out HS56.out (ints ((wl L).take M)).toArray⟩
        · have := run_copy_row (P := Try.prog) w6 22 48 3 3 G2 0 M M ⟨G1, 0, none⟩ n1 c1 _ 3 (ints ((wl L).take M)) Try.underlying22 (by kernel_rfl) HW6.out (by rw [HCL.out]; exact (Nat.min_eq_right hMl).symm) HSRC.out (by rw [HCL.out]; simp) (ints_one _)
          rw [this, HCL.out]
          have e : (List.replicate M (Value.int IntKind.i64 0)).toArray.toList.take 0 ++ ints ((wl L).take M) ++ (List.replicate M (Value.int IntKind.i64 0)).toArray.toList.drop (0 + M) = ints ((wl L).take M) := by
            rw [List.take_zero, List.nil_append, List.drop_of_length_le (by simp), List.append_nil]
          rw [e]
          rfl
        · have hh := setRow_heap w6 G2 _ (ints ((wl L).take M)).toArray _ _ HW6.out
          refine ⟨by rw [HCL.out]; omega, .inr ⟨G2, M, _, rfl, HS56.out, hh, Nat.le_refl _, by unfold maxLen; omega, by simp [HCL.out], ?_⟩⟩
          have := HCL.out
          rw [List.take_of_length_le (by simp; omega)]
      obtain ⟨w7, hcopy, how7, hb7⟩ := hcopy
      have HO7 : Hid (Own w7 w.heap.size (some ⟨G2, 0, none⟩) M M (wl (redZ G F))) := Lib.hid (by
        have e : (wl L).take M = wl (redZ G F) := by
          have h1 := pad_red G F (m := M) (k := 0) (by have h2 := HFL.out; have h3 := HGL.out; have h4 := HMm.out; omega) (by have h3 := HGL.out; have h4 := HMm.out; omega)
          rw [List.replicate_zero, List.append_nil] at h1
          rw [HE2.out, ← h1]
          have h3 := HGL.out
          have h4 := HMm.out
          congr 1; omega
        rw [← e]; exact how7.low HB0.out.size)
      have HB7 := Lib.hid (ibt HB0.out hb7)
      clear hb5 x3 x4 how7 hb7
      go_wp2_with fail
      go_ret
      exact ⟨_, M, M, rfl, HO7.out, (fun e => by cases e), HB7.out⟩
    · obtain ⟨i, rfl⟩ : ∃ i, k = i + 1 := ⟨k - 1, by omega⟩
      have hki : ((i + 1 : Nat) : Int) + (M : Int) - 1 = ((i + M : Nat) : Int) := by omega
      rw [hki]
      have hLl2 := hLl.out
      have hlq := HLQ.out
      obtain ⟨C, hC⟩ : ∃ C, L[i + M]? = some C := ⟨_, List.getElem?_eq_getElem (by omega)⟩
      have HCC : Hid (L.getD (i + m - 1) 0 = C) := Lib.hid (by rw [List.getD_eq_getElem?_getD, show i + m - 1 = i + M by have := HMm.out; omega, hC]; rfl)
      obtain ⟨c', hc'⟩ : ∃ c', wrap64 C = c' := ⟨_, rfl⟩
      have HC' := Lib.hid hc'
      have HIN : Hid (i + M < n1) := Lib.hid (by omega)
      have HWC := Lib.hid (wl_at hC)
      obtain ⟨iM, hiMe⟩ : ∃ iM : Nat, i + M = iM := ⟨_, rfl⟩
      have HIM := Lib.hid hiMe
      have hidx : (iM : Int) - (M : Int) = (i : Int) := by omega
      have hin : iM < n1 := by omega
      have hiM : (M : Int) ≤ (iM : Int) := by omega
      rw [hiMe, hc'] at HWC
      rw [hiMe]
      have HBO := Lib.hid hb
      clear hki hC hLl2 hlq hc' hb hiMe
      go_wp2_with fail
      refine (degree_any n B m d wo (by omega) (by omega)).mono ?_; rw [hM]; rintro e w4 ⟨rfl, hb4⟩
      have HB4 := Lib.hid (ibt HBO.out hb4)
      have HO4 : Hid (Own w4 w0.heap.size (some ⟨G1, 0, none⟩) n1 c1 (wl (sub i L C (G.take 0)))) := Lib.hid (by
        rw [List.take_zero, sub_nil]; exact iown_bel how1.out hb4)
      obtain ⟨g1, g2, g3, g4⟩ := Own.cell (iown_bel how1.out hb4) HWC.out
      obtain ⟨x3, x4⟩ := HRB.out w4 HB4.out
      clear hb4 x1 x2
      go_wp2_with fail
      clear g1 g2 g3 g4 x3 x4
      go_loopw [28] (fun z wr => ∃ j : Nat, j ≤ m ∧ z = .int .i64 (j : Int) ∧ Hid (Own wr w0.heap.size (some ⟨G1, 0, none⟩) n1 c1 (wl (sub i L C (G.take j)))) ∧ Below w0.heap.size w0 wr) (fun z _ => m - (intOf z).toNat)
      case atStart => exact ⟨0, by omega, rfl, HO4, HB4.out⟩
      case round =>
        obtain ⟨j, hj, rfl, how3, hbj⟩ := hrel
        obtain ⟨wp, hwp⟩ : ∃ wp : World, wp = wr := ⟨_, rfl⟩
        subst hwp
        by_cases hjm : j < m
        · obtain ⟨b, off, x, hx, rfl, hB, g9⟩ := (HG.out.below hbj).at_ hjm
          obtain ⟨X, hX, hxX⟩ := wl_cell hx
          have hij : i + j < L.length := by have := hLl.out; have := HIN.out; have := HMm.out; omega
          obtain ⟨Y, hY⟩ : ∃ Y, L[i + j]? = some Y := ⟨_, List.getElem?_eq_getElem hij⟩
          have hY2 : (sub i L C (G.take j))[i + j]? = some Y := by rw [sub_at]; exact hY
          obtain ⟨y, hy⟩ : ∃ y, wrap64 Y = y := ⟨_, rfl⟩
          have HWY := Lib.hid (wl_at hY2)
          rw [hy] at HWY
          have HST : Hid (wl (sub i L C (G.take (j + 1))) = (wl (sub i L C (G.take j))).set (i + j) (wrap64 (y - wrap64 (c' * x)))) := Lib.hid (by
            rw [sub_take hX hY, wl_set, ← hy, hxX, ← HC'.out, w_sm])
          have hijn : i + j < n1 := by have := HIN.out; have := HMm.out; omega
          obtain ⟨x1, x2⟩ := HRB.out wp hbj
          have HBJ := Lib.hid hbj
          clear hx hX hxX hY hY2 hy hij hbj
          go_wp2_with fail
          refine (degree_any n (some ⟨b, off, none⟩) m d wp (by omega) (by omega)).mono ?_; rw [hM]; rintro e w5 ⟨rfl, hb5⟩
          have HO5 := Lib.hid (iown_bel how3.out hb5)
          have HB5 := Lib.hid (ibt HBJ.out hb5)
          obtain ⟨g10, g11, g12, g13⟩ := Own.cell HO5.out HWY.out
          clear hb5
          go_wp2_with fail
          go_roundw
          case rel => exact ⟨j + 1, by omega, by go_num, by rw [HST.out]; exact Lib.hid (Own.store HO5.out (i + j) _), HB5.out.setCell (p := ⟨G1, i + j, none⟩) HG1.out.1 _⟩
          case measure => simp [intOf]; omega
        · have e : j = m := by omega
          subst e
          have HT : Hid (G.take j = G) := Lib.hid (List.take_of_length_le (by rw [HGL.out]; omega))
          have HRE : Hid (remGo G i (sub i L C G) = remZ G F) := Lib.hid (by
            rw [← hre.out, remGo, HGL.out, HCC.out])
          rw [HT.out] at how3
          go_wp2_with fail
          go_roundw
          case rel => exact ⟨i, sub i L C G, by omega, by have := HIM.out; congr 1; omega, HRE, Lib.hid (by rw [sub_len]; exact hLl.out), how3, hbj⟩
          case measure => have := HIM.out; simp [intOf]; omega
end Go.Proofs.Ytmljndjiipgpdaa
