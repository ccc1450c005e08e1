/- Polynomials in memory: the walks of a copy, a quotient, and of the polynomial of an order. -/
import Derived.Test.YtmljndjiipgpdaaIb
import Derived.Test.YtmljndjiipgpdaaPoC
namespace Go.Proofs.Ytmljndjiipgpdaa
open Go Go.RowKit GhP

set_option maxHeartbeats 400000 in
set_option maxRecDepth 100000 in
theorem clone_poly (A : Option Addr) (n c : Nat) (L : List Int) (w : World) (h : IRow w w.heap.size A n L) (hn : n ≤ 1000000) (hA : A = none → n = 0) :
    Calls Try.prog 57 #[.slice A n c] w (GivesI w L) := by
  have HR := Lib.hid h
  have HL := Lib.hid h.1
  clear h
  cases A with
  | none =>
    obtain rfl := hA rfl
    have heq := fun (w : World) => Lib.run_eql_slice_nil (P := Try.prog) w 48 3 none 0 c 0 0 Try.underlying48
    go_enter Try.func57, Try.ntmps57
    go_wp2
    go_ret
    have hL : L = [] := List.length_eq_zero_iff.1 HL.out.symm
    subst hL
    exact ⟨none, 0, 0, rfl, World.ownsRow_nil .., fun _ => rfl, Below.refl _ _⟩
  | some ad =>
    obtain ⟨i0, hi, hz0, hz1, hz2⟩ := info_parts infoI
    go_enter Try.func57, Try.ntmps57
    have hown : (w.alloc (Obj.cells #[] 3)).ownsRow w.heap.size 3 1 (.slice (some ⟨w.heap.size, 0, none⟩) 0 0) 0 [] :=
      ⟨rfl, .inr ⟨w.heap.size, 0, #[], rfl, Nat.le_refl _, (by show (w.heap.push _)[w.heap.size]? = _; simp), Nat.le_refl _, by decide, rfl, rfl⟩⟩
    have hnews : ∀ j u, (ints L)[j]? = some u → (w.alloc (Obj.cells #[] 3)).cell? (ad.add j) = some u := by
      intro j u hu
      have hn0 : 0 < n := by
        have := (List.getElem?_eq_some_iff.1 hu).1
        rw [ints_len, ← HL.out] at this; omega
      obtain ⟨b, off, e, hb, _⟩ := HR.out.2 hn0
      injection e with e
      subst e
      have := HR.out.ints j u hu
      rw [iadd] at this ⊢
      rw [World.cell?_alloc_lt _ _ _ hb]; exact this
    have HO := Lib.hid hown
    have HN := Lib.hid hnews
    have H1 : Hid ((ints L).length = n * 1) := Lib.hid (by rw [ints_len, HL.out]; omega)
    have H3 : Hid (0 + n ≤ maxLen) := Lib.hid (by unfold maxLen; omega)
    have H4 : Hid ((0 + n) * 8 ≤ 140737488355328) := Lib.hid (by omega)
    have H5 : Hid (w.heap.size ≤ (w.alloc (Obj.cells #[] 3)).heap.size) := Lib.hid (by simp)
    clear hown hnews
    have heq2 := Lib.run_eql_slice_nil (P := Try.prog) w 48 3 (some ad) n c 0 0 Try.underlying48
    go_wp2_with (at_builtin; refine wpList_append_own _ rfl _ _ 48 rfl w.heap.size 3 i0 (.int .i64 0) 1 8 Try.underlying48 hi hz0 hz1 hz2 rfl (by decide) _ 0 [] rfl HO.out ad n c (ints L) rfl H1.out HN.out (ints_one L) H3.out H4.out H5.out ?_; intro v' w1 hown' hgrow _)
    go_ret
    rw [Nat.zero_add, List.nil_append] at hown'
    have hbw : Below w.heap.size w w1 := ((Below.refl _ _).alloc (Nat.le_refl _) _).grown hgrow (by simp) (fun k e => by cases e; exact Nat.le_refl _)
    obtain ⟨A2, c2, rfl, hA2⟩ := iown_sl hown'
    exact ⟨A2, n, c2, rfl, hown', hA2, hbw⟩

theorem wl_at {L : List Int} {k : Nat} {x : Int} (h : L[k]? = some x) : (wl L)[k]? = some (wrap64 x) := by unfold wl; rw [List.getElem?_map, h]; rfl
theorem wl_set (L : List Int) (k : Nat) (x : Int) : wl (L.set k x) = (wl L).set k (wrap64 x) := by unfold wl; rw [List.map_set]
theorem wl_cell {L : List Int} {k : Nat} {x : Int} (h : (wl L)[k]? = some x) : ∃ X, L[k]? = some X ∧ x = wrap64 X := by
  unfold wl at h
  rw [List.getElem?_map] at h
  cases hx : L[k]? with
  | none => rw [hx] at h; cases h
  | some X => rw [hx] at h; injection h with h; exact ⟨X, rfl, h.symm⟩
theorem w_sm (Y C X : Int) : wrap64 (wrap64 Y - wrap64 (wrap64 C * wrap64 X)) = wrap64 (Y - C * X) := by
  refine w_sub (w_w _) ?_
  rw [w_w]
  exact w_mul (w_w _) (w_w _)

theorem set_out (k : Nat) (Q : List Int) (x : Int) : (List.replicate (k + 1) 0 ++ Q).set k x = List.replicate k 0 ++ x :: Q := by
  rw [List.replicate_succ', List.append_assoc, List.set_append_right _ _ (by simp)]
  simp

set_option maxRecDepth 100000 in
set_option maxHeartbeats 1000000 in
theorem over_any (A B : Option Addr) (n m c d : Nat) (F G : List Int) (w : World) (h : IRow w w.heap.size A n (wl F)) (g : IRow w w.heap.size B m (wl G)) (hm : 1 ≤ m) (hmn : m ≤ n) (hn : n ≤ 100) :
    Calls Try.prog 50 #[.slice A n c, .slice B m d] w (GivesI w (wl (overZ F G))) := by
  have HF := Lib.hid h
  have HG := Lib.hid g
  have hFl : F.length = n := by have := h.1; rw [wl_len] at this; omega
  have hGl : G.length = m := by have := g.1; rw [wl_len] at this; omega
  have HFL := Lib.hid hFl
  have HGL := Lib.hid hGl
  have HNN : Hid (A = none → n = 0) := Lib.hid (fun e => by
    apply Classical.byContradiction
    intro hn0
    obtain ⟨b, off, x, _, hA, _⟩ := h.at_ (k := 0) (by omega)
    rw [e] at hA; cases hA)
  obtain ⟨q, hq⟩ : ∃ q : Nat, (n : Int) - (m : Int) + 1 = (q : Int) := ⟨n - m + 1, by omega⟩
  have hq1 : 1 ≤ q := by omega
  have hqn : m + q = n + 1 := by omega
  have HOZ : Hid (overGo G q F [] = overZ F G) := Lib.hid (by unfold overZ; rw [hFl, hGl]; congr 1; omega)
  clear h g hFl hGl
  go_enter Try.func50, Try.ntmps50
  go_wp2_with fail
  refine (clone_poly A n c (wl F) w HF.out (by omega) HNN.out).mono ?_; rintro e w1 ⟨A1, n1, c1, rfl, how1, hA1, hb1⟩
  obtain rfl : n1 = n := by have := how1.len; rw [wl_len, HFL.out] at this; exact this
  obtain ⟨G1, rfl⟩ := how1.form (by omega)
  have hmk := run_make_row' (P := Try.prog) 48 3 (.int .i64 0) 8 Try.underlying48 infoI rfl .i64 .i64 q (by omega) (by omega)
  have HOW1 := Lib.hid how1
  have HB1 := Lib.hid hb1
  obtain ⟨w2, hw2⟩ : ∃ w2, w1.alloc (Obj.cells (madeCells #[Value.int .i64 0] q) 3) = w2 := ⟨_, rfl⟩
  have HOW2 : Hid (Own w2 w.heap.size (some ⟨w1.heap.size, 0, none⟩) q q (List.replicate q 0 ++ wl [])) := Lib.hid (by
    rw [← hw2]
    have := own_made (w := w1) (n := q) HB1.out.size (by unfold maxLen; omega)
    simpa [wl] using this)
  have HOX2 : Hid (Own w2 w.heap.size (some ⟨G1, 0, none⟩) n1 c1 (wl F)) := Lib.hid (by rw [← hw2]; exact HOW1.out.alloc _)
  have HB2 : Hid (Below w.heap.size w w2) := Lib.hid (by rw [← hw2]; exact HB1.out.alloc HB1.out.size _)
  obtain ⟨G2, hG2⟩ : ∃ G2, w1.heap.size = G2 := ⟨_, rfl⟩
  have HNE : Hid (G1 ≠ G2 ∧ w.heap.size ≤ G1 ∧ w.heap.size ≤ G2) := Lib.hid (by
    have := how1.lt G1 rfl
    have h2 := hb1.size
    refine ⟨by omega, this.1, by omega⟩)
  rw [hG2] at HOW2
  clear how1 hA1 hb1
  go_wp2_with fail
  try rw [hw2]
  try rw [hG2]
  clear hw2 hG2 hmk HB1 HOW1
  go_loopw [7] (fun iv wr => ∃ (k : Nat) (L Q : List Int), k ≤ q ∧ iv = .int .i64 ((k : Int) - 1) ∧ Hid (overGo G k L Q = overZ F G) ∧ Hid (L.length = n1) ∧ Hid (Own wr w.heap.size (some ⟨G1, 0, none⟩) n1 c1 (wl L)) ∧ Hid (Own wr w.heap.size (some ⟨G2, 0, none⟩) q q (List.replicate k 0 ++ wl Q)) ∧ Below w.heap.size w wr) (fun iv _ => (intOf iv + 1).toNat)
  case atStart => exact ⟨q, F, [], by omega, rfl, HOZ, HFL, HOX2, HOW2, HB2.out⟩
  case round =>
    obtain ⟨k, L, Q, hk, rfl, hov, hLl, how1, how2, hb⟩ := hrel
    obtain ⟨wo, hwo⟩ : ∃ wo : World, wo = wr := ⟨_, rfl⟩
    subst hwo
    by_cases hk0 : k = 0
    · subst hk0
      have HE : Hid (Q = overZ F G) := Lib.hid hov.out
      go_wp2_with fail
      go_ret
      have := how2.out
      rw [HE.out] at this
      exact ⟨_, _, _, rfl, by simpa using this, (fun e => by cases e), hb⟩
    · obtain ⟨i, rfl⟩ : ∃ i, k = i + 1 := ⟨k - 1, by omega⟩
      have hki : ((i + 1 : Nat) : Int) - 1 = (i : Int) := by omega
      rw [hki]
      have hLl2 := hLl.out
      obtain ⟨C, hC⟩ : ∃ C, L[i + m - 1]? = some C := ⟨_, List.getElem?_eq_getElem (by omega)⟩
      have hcell := how1.out.cell (wl_at hC)
      obtain ⟨g1, g2, g3, g4⟩ := hcell
      have HCC : Hid (L.getD (i + m - 1) 0 = C) := Lib.hid (by rw [List.getD_eq_getElem?_getD, hC]; rfl)
      have hidx : (i : Int) + (m : Int) - 1 = ((i + m - 1 : Nat) : Int) := by omega
      obtain ⟨c', hc'⟩ : ∃ c', wrap64 C = c' := ⟨_, rfl⟩
      have HC' := Lib.hid hc'
      rw [hc'] at g1
      have hcell2 := how2.out.cell (k := i) (x := 0) (by rw [List.getElem?_append_left (by simp)]; simp)
      obtain ⟨g5, g6, g7, g8⟩ := hcell2
      have HO2 : Hid (Own (wo.setCell ⟨G2, i, none⟩ (.int .i64 c')) w.heap.size (some ⟨G2, 0, none⟩) q q (List.replicate i 0 ++ wl (C :: Q))) := Lib.hid (by
        have := how2.out.store i c'
        rw [set_out, ← hc'] at this
        rw [← hc']; exact this)
      have HO1 : Hid (Own (wo.setCell ⟨G2, i, none⟩ (.int .i64 c')) w.heap.size (some ⟨G1, 0, none⟩) n1 c1 (wl (sub i L C (G.take 0)))) := Lib.hid (by
        rw [List.take_zero, sub_nil]
        exact how1.out.other (Below.heap_setCell _ _ _ _ HNE.out.1))
      have HBO : Hid (Below w.heap.size w (wo.setCell ⟨G2, i, none⟩ (.int .i64 c'))) := Lib.hid (hb.setCell (p := ⟨G2, i, none⟩) HNE.out.2.2 _)
      clear hki hC hLl2 hc' hidx hb
      go_wp2_with fail
      go_loopw [41] (fun z wr => ∃ j : Nat, j ≤ m ∧ z = .int .i64 (j : Int) ∧ Hid (Own wr w.heap.size (some ⟨G1, 0, none⟩) n1 c1 (wl (sub i L C (G.take j)))) ∧ Hid (Own wr w.heap.size (some ⟨G2, 0, none⟩) q q (List.replicate i 0 ++ wl (C :: Q))) ∧ Below w.heap.size w wr) (fun z _ => m - (intOf z).toNat)
      case atStart => exact ⟨0, by omega, rfl, HO1, HO2, HBO.out⟩
      case round =>
        obtain ⟨j, hj, rfl, how3, how4, hbj⟩ := hrel
        by_cases hjm : j < m
        · obtain ⟨b, off, x, hx, rfl, hB, g9⟩ := (HG.out.below hbj).at_ hjm
          obtain ⟨X, hX, hxX⟩ := wl_cell hx
          have hij : i + j < L.length := by have := hLl.out; omega
          obtain ⟨Y, hY⟩ : ∃ Y, L[i + j]? = some Y := ⟨_, List.getElem?_eq_getElem hij⟩
          have hY2 : (sub i L C (G.take j))[i + j]? = some Y := by rw [sub_at]; exact hY
          obtain ⟨y, hy⟩ : ∃ y, wrap64 Y = y := ⟨_, rfl⟩
          have hcell3 := how3.out.cell (wl_at hY2)
          rw [hy] at hcell3
          obtain ⟨g10, g11, g12, g13⟩ := hcell3
          have HST : Hid (wl (sub i L C (G.take (j + 1))) = (wl (sub i L C (G.take j))).set (i + j) (wrap64 (y - wrap64 (c' * x)))) := Lib.hid (by
            rw [sub_take hX hY, wl_set, ← hy, hxX, ← HC'.out, w_sm])
          have hijn : i + j < n1 := by omega
          clear hx hX hxX hY hY2 hy hij
          go_wp2_with fail
          go_roundw
          case rel => exact ⟨j + 1, by omega, by go_num, by rw [HST.out]; exact Lib.hid (how3.out.store (i + j) _), Lib.hid (how4.out.other (Below.heap_setCell _ _ _ _ (Ne.symm HNE.out.1))), hbj.setCell (p := ⟨G1, i + j, none⟩) HNE.out.2.1 _⟩
          case measure => simp [intOf]; omega
        · have e : j = m := by omega
          subst e
          have HT : Hid (G.take j = G) := Lib.hid (List.take_of_length_le (by rw [HGL.out]; omega))
          have HOV : Hid (overGo G i (sub i L C G) (C :: Q) = overZ F G) := Lib.hid (by
            rw [← hov.out, overGo, HGL.out, HCC.out])
          rw [HT.out] at how3
          go_wp2_with fail
          go_roundw
          case rel => exact ⟨i, sub i L C G, C :: Q, by omega, rfl, HOV, Lib.hid (by rw [sub_len]; exact hLl.out), how3, how4, hbj⟩
          case measure => simp [intOf]
end Go.Proofs.Ytmljndjiipgpdaa
