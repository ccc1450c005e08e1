/- The iterator over the steps of a chain. -/
import Derived.Test.YtdombadhmaanfaaRf
import Derived.Test.YtdombadhmaanfaaSy
namespace Go.Proofs.Ytdombadhmaanfaa
open Go Go.RowKit Go.Shelf GhN
attribute [local go_sem] Oper.semAt_some

abbrev stepOf (x : Int × Int × Int × Int) : Value := stepV x.1 x.2.1 x.2.2.1 x.2.2.2

/-- a symbol within the limits -/
def inr (a n s : Int) : Prop := okc a n s ∧ -1000000000 ≤ a ∧ a ≤ 1000000000 ∧ n ≤ 1000000000

theorem nx_inr {a n s : Int} (h : inr a n s) (ha : a ≠ 0) (hn : n ≠ 1) : inr (nx a n s).2.1 (nx a n s).2.2.1 (nx a n s).2.2.2 := by
  obtain ⟨h0, h1, h2, h3⟩ := h
  refine ⟨nx_ok h0 ha hn, ?_⟩
  obtain ⟨g1, g2, g3⟩ := h0
  unfold nx
  split
  · have h4 := Int.emod_nonneg a (show n ≠ 0 by omega)
    have h5 := Int.emod_lt_of_pos a (show 0 < n by omega)
    exact ⟨by show -1000000000 ≤ a % n; omega, by show a % n ≤ _; omega, h3⟩
  split
  · exact ⟨by show -1000000000 ≤ a / 2; omega, by show a / 2 ≤ _; omega, h3⟩
  · exact ⟨by show -1000000000 ≤ n; omega, by show n ≤ _; omega, by show a ≤ _; omega⟩

theorem next_any (a n s : Int) (w : World) (h : inr a n s) :
    Calls Try.prog 81 #[symV a n s] w fun e w' => e = .returned (stepOf (nx a n s)) ∧ Below w.heap.size w w' := by
  obtain ⟨⟨h1, h2, h3⟩, h4, h5, h6⟩ := h
  by_cases c1 : a < 0 ∨ n ≤ a
  · have e : nx a n s = (0, a % n, n, s) := by unfold nx; rw [if_pos c1]
    rw [e]
    by_cases c2 : a < 0
    · exact next_reduce_neg a n s w h1 h6 c2 h4
    · exact next_reduce_pos a n s w h1 h6 (by omega) h5
  · by_cases c2 : a % 2 = 0
    · have e : nx a n s = (1, a / 2, n, hs n * s) := by unfold nx; rw [if_neg c1, if_pos c2]
      rw [e]
      by_cases c3 : n % 8 = 3 ∨ n % 8 = 5
      · have e2 : hs n * s = -s := by unfold hs; rw [if_pos c3]; omega
        rw [e2]
        exact next_halve_neg a n s w (by omega) (by omega) h6 c2 h3 c3
      · have e2 : hs n * s = s := by unfold hs; rw [if_neg c3]; omega
        rw [e2]
        exact next_halve_pos a n s w (by omega) (by omega) h6 c2 h3 c3
    · have e : nx a n s = (2, n, a, es a n * s) := by unfold nx; rw [if_neg c1, if_neg c2]
      rw [e]
      by_cases c3 : a % 4 = 3 ∧ n % 4 = 3
      · have e2 : es a n * s = -s := by unfold es; rw [if_pos c3]; omega
        rw [e2]
        exact next_exchange_neg a n s w (by omega) (by omega) h6 c3.1 c3.2 h3
      · have e2 : es a n * s = s := by unfold es; rw [if_neg c3]; omega
        rw [e2]
        exact next_exchange_pos a n s w (by omega) (by omega) h6 (by omega) c3 h3

/-- the number in a cell -/
def cI (w : World) (b o : Nat) : Int := match w.cell? ⟨b, o, none⟩ with | some v => intOf v | none => 0
theorem cI_of {w : World} {b o : Nat} {k : IntKind} {x : Int} (h : w.cell? ⟨b, o, none⟩ = some (.int k x)) : cI w b o = x := by unfold cI; rw [h]; rfl

/-- a box that holds a symbol -/
def SymBox (w : World) (b : Nat) (a n s : Int) : Prop :=
  w.cell? ⟨b, 0, none⟩ = some (.int .i64 a) ∧ w.cell? ⟨b, 1, none⟩ = some (.int .i64 n) ∧ w.cell? ⟨b, 2, none⟩ = some (.int .i64 s) ∧
  w.frozen? ⟨b, 0, none⟩ = false ∧ w.frozen? ⟨b, 1, none⟩ = false ∧ w.frozen? ⟨b, 2, none⟩ = false ∧ b < w.heap.size

theorem SymBox.below {w w' : World} {b : Nat} {a n s : Int} (h : SymBox w b a n s) (hb : Below w.heap.size w w') : SymBox w' b a n s := by
  obtain ⟨h1, h2, h3, h4, h5, h6, h7⟩ := h
  exact ⟨(hb.cell (p := ⟨b, 0, none⟩) h7).trans h1, (hb.cell (p := ⟨b, 1, none⟩) h7).trans h2, (hb.cell (p := ⟨b, 2, none⟩) h7).trans h3,
    (hb.frozen (p := ⟨b, 0, none⟩) h7).trans h4, (hb.frozen (p := ⟨b, 1, none⟩) h7).trans h5, (hb.frozen (p := ⟨b, 2, none⟩) h7).trans h6, Nat.lt_of_lt_of_le h7 hb.size⟩

theorem SymBox.store {w : World} {b : Nat} {a n s : Int} (h : SymBox w b a n s) (a' n' s' : Int) :
    SymBox (((w.setCell ⟨b, 0, none⟩ (.int .i64 a')).setCell ⟨b, 1, none⟩ (.int .i64 n')).setCell ⟨b, 2, none⟩ (.int .i64 s')) b a' n' s' := by
  obtain ⟨h1, h2, h3, h4, h5, h6, h7⟩ := h
  have ne : ∀ i j : Nat, i ≠ j → (⟨b, i, none⟩ : Addr) ≠ ⟨b, j, none⟩ := fun i j h e => by injection e with _ e2 _; exact h e2
  refine ⟨?_, ?_, ?_, by simp [h4], by simp [h5], by simp [h6], by simpa using h7⟩
  · rw [World.cell?_setCell_other _ _ _ _ (ne 2 0 (by decide)), World.cell?_setCell_other _ _ _ _ (ne 1 0 (by decide))]
    exact World.cell?_setCell_same' _ _ _ (by rw [h1]; rfl)
  · rw [World.cell?_setCell_other _ _ _ _ (ne 2 1 (by decide))]
    exact World.cell?_setCell_same' _ _ _ (by rw [World.cell?_setCell_other _ _ _ _ (ne 0 1 (by decide)), h2]; rfl)
  · exact World.cell?_setCell_same' _ _ _ (by rw [World.cell?_setCell_other _ _ _ _ (ne 1 2 (by decide)), World.cell?_setCell_other _ _ _ _ (ne 0 2 (by decide)), h3]; rfl)

theorem SymBox.of_block {w w' : World} {b : Nat} {a n s : Int} (h : SymBox w b a n s) (hb : w'.heap[b]? = w.heap[b]?) (hs : w.heap.size ≤ w'.heap.size) : SymBox w' b a n s := by
  obtain ⟨h1, h2, h3, h4, h5, h6, h7⟩ := h
  exact ⟨(World.cell?_of_block (w := w) hb).trans h1, (World.cell?_of_block (w := w) hb).trans h2, (World.cell?_of_block (w := w) hb).trans h3,
    (World.frozen?_of_block (w := w) hb).trans h4, (World.frozen?_of_block (w := w) hb).trans h5, (World.frozen?_of_block (w := w) hb).trans h6, Nat.lt_of_lt_of_le h7 hs⟩

def ItRel (J : List (Int × Int × Int × Int) → World → Prop) (W : World) (a n s : Int) (wr : World) : Prop :=
  ∃ pre a' n' s', SymBox wr W.heap.size a' n' s' ∧ J pre wr ∧ chain a n s = pre ++ chain a' n' s' ∧ inr a' n' s' ∧ W.heap.size < wr.heap.size

set_option maxRecDepth 100000 in
set_option maxHeartbeats 1000000 in
theorem chain_seq (n0 : Nat) (a n s : Int) (w0 : World) (h : inr a n s) :
    SeqB Fence.wide n0 Try.prog 57 #[symV a n s] (fun x => #[stepOf x]) (chain a n s) w0 := fun l J W _ hJ hY hJ0 => by
  have HJ := Lib.hid hJ
  have HY := Lib.hid hY
  have HJ0 := Lib.hid hJ0
  have HI := Lib.hid h
  clear hJ hY hJ0 h
  refine callsIn_of_wp Try.func57 rfl trivial ?_ rfl
  simp only [Try.ntmps57, List.size_toArray, List.length_cons, List.length_nil, Nat.reduceAdd, Nat.reduceSub, Array.replicate_succ, Array.replicate_zero, List.push_toArray, List.append_toArray, List.nil_append, List.cons_append]
  gi_wp2_with fail
  gi_loopw [4] (fun x wr => ItRel J W a n s wr) (fun _ wr => mu (cI wr W.heap.size 0) (cI wr W.heap.size 1))
  case atStart =>
    exact ⟨[], a, n, s, ⟨by simp, by simp, by simp, by simp, by simp, by simp, by simp⟩, HJ.out _ _ _ HJ0.out (Near.of_below ((Below.refl _ _).alloc (Nat.le_refl _) _)), rfl, HI.out, by simp⟩
  case round =>
    obtain ⟨pre, a', n', s', hb, hj, hch, hin, hsz⟩ := hrel
    have HBX := Lib.hid hb
    by_cases he : a' = 0 ∨ n' = 1
    · obtain ⟨c1, c2, c3, f1, f2, f3, hlt⟩ := hb
      have HK := Lib.hid he
      have HC := Lib.hid hch
      have HN := Lib.hid hin
      have HJ1 := Lib.hid hj
      clear he hch hin hj
      gi_wp2_with (refine ⟨trivial, (fun h => absurd h (by decide)), ?_⟩; gi_at_call 80; refine (callsIn_wide.2 (done_yes _ _ _ _ HK.out)).mono ?_; rintro e w1 ⟨rfl, hb1⟩)
      go_end0
      exact ⟨⟨_, rfl⟩, by rw [HC.out, chain_end HK.out, List.append_nil]; exact HJ.out _ _ _ HJ1.out (Near.of_below hb1)⟩
    · obtain ⟨c1, c2, c3, f1, f2, f3, hlt⟩ := hb
      have ha : a' ≠ 0 := fun e => he (.inl e)
      have hn : n' ≠ 1 := fun e => he (.inr e)
      have HA := Lib.hid ha
      have HO := Lib.hid hn
      have HC := Lib.hid hch
      have HN := Lib.hid hin
      have HJ1 := Lib.hid hj
      clear he hch hin hj ha hn
      gi_wp2_with (first | (refine ⟨trivial, (fun h => absurd h (by decide)), ?_⟩; gi_at_call 80; refine (callsIn_wide.2 (done_no _ _ _ _ HA.out HO.out)).mono ?_; rintro e w1 ⟨rfl, hb1⟩; obtain ⟨d1, d2, d3, g1, g2, g3, hlt1⟩ := HBX.out.below hb1) | (refine ⟨trivial, (fun h => absurd h (by decide)), ?_⟩; gi_at_call 81; refine (callsIn_wide.2 (next_any _ _ _ _ HN.out)).mono ?_; rintro e w2 ⟨rfl, hb2⟩; obtain ⟨e1, e2, e3, k1, k2, k3, hlt2⟩ := (HBX.out.below hb1).below hb2))
      obtain ⟨W3, hW3⟩ : ∃ W3, ((((w2.setCell ⟨W.heap.size, 0, none⟩ (.int .i64 (nx a' n' s').2.1)).setCell ⟨W.heap.size, 1, none⟩ (.int .i64 (nx a' n' s').2.2.1)).setCell ⟨W.heap.size, 2, none⟩ (.int .i64 (nx a' n' s').2.2.2)).alloc (Obj.cells #[.int .i64 (nx a' n' s').1, .int .i64 (nx a' n' s').2.1, .int .i64 (nx a' n' s').2.2.1, .int .i64 (nx a' n' s').2.2.2] 48)) = W3 := ⟨_, rfl⟩
      have hB3 : Near W.heap.size 1 wr W3 := by
        rw [← hW3]
        exact ((((((Near.of_below hb1).trans (Near.of_below hb2)).setCell (p := ⟨W.heap.size, 0, none⟩) (Nat.le_refl _) (Nat.lt_succ_self _) _).setCell (p := ⟨W.heap.size, 1, none⟩) (Nat.le_refl _) (Nat.lt_succ_self _) _).setCell (p := ⟨W.heap.size, 2, none⟩) (Nat.le_refl _) (Nat.lt_succ_self _) _).trans (Near.of_below ((Below.refl _ _).alloc (Nat.le_refl _) _)))
      have hS3 : SymBox W3 W.heap.size (nx a' n' s').2.1 (nx a' n' s').2.2.1 (nx a' n' s').2.2.2 := by
        rw [← hW3]
        exact (((((HBX.out.below hb1).below hb2).store _ _ _).below ((Below.refl _ _).alloc (Nat.le_refl _) _)))
      have hN3 := chain_next HN.out.1 HA.out HO.out
      obtain ⟨fn, tmps, assign, body, hy, hR⟩ := HY.out pre (nx a' n' s') W3 (HJ.out _ _ _ HJ1.out hB3) (by have := hS3.2.2.2.2.2.2; omega) ⟨_, by rw [HC.out, hN3]⟩
      rw [hW3]
      have hy' : Sem.run Try.prog (Instr.yield l #[Value.agg #[.int .i64 (nx a' n' s').1, .int .i64 (nx a' n' s').2.1, .int .i64 (nx a' n' s').2.2.1, .int .i64 (nx a' n' s').2.2.2]]) W3 = _ := hy
      rw [hy']
      clear hy hy'
      have HS3 := Lib.hid hS3
      have HB3 := Lib.hid hB3
      have HN3 := Lib.hid hN3
      have HR := Lib.hid hR
      clear hS3 hB3 hN3 hW3 hb1 hb2 c1 c2 c3 f1 f2 f3 hlt d1 d2 d3 g1 g2 g3 hlt1 e1 e2 e3 k1 k2 k3 hlt2 hR
      gi_wp2
      refine ⟨(fun h => absurd h (by decide)), HR.out.mono ?_⟩
      rintro e W4 ⟨rfl, hj4, hs4, hk4⟩
      have HK4 := Lib.hid hk4
      clear hk4
      gi_wp2
      have hb4 := HS3.out.of_block HK4.out hs4
      go_roundw
      case rel => exact ⟨_, _, _, _, hb4, hj4, by rw [HC.out, HN3.out, List.append_assoc]; rfl, nx_inr HN.out HA.out HO.out, hb4.2.2.2.2.2.2⟩
      case measure =>
        rw [cI_of hb4.1, cI_of hb4.2.1, cI_of HBX.out.1, cI_of HBX.out.2.1]
        exact nx_mu HN.out.1 HA.out
end Go.Proofs.Ytdombadhmaanfaa
