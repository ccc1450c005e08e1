/- The chain of a symbol as a slice: the walk of Chain. -/
import Derived.Test.YtdombadhmaanfaaJc
import Derived.Test.YtdombadhmaanfaaRw
import Derived.Test.YtdombadhmaanfaaRo
import Derived.WalkSpells
import Derived.RangeFuncBox
import Derived.Deep.Onto
namespace Go.Proofs.Ytdombadhmaanfaa
open Go Go.RowKit Go.Shelf GhN
attribute [local go_sem] Oper.semAt_some

/-- the cells of a step -/
def encS (x : Int × Int × Int × Int) : List Value := [.int .i64 x.1, .int .i64 x.2.1, .int .i64 x.2.2.1, .int .i64 x.2.2.2]
theorem encS_len (x : Int × Int × Int × Int) : (encS x).length = 4 := rfl
theorem encS_one (x : Int × Int × Int × Int) : ∀ u ∈ encS x, u.oneCell' = true := by
  intro u hu
  simp [encS] at hu
  rcases hu with rfl | rfl | rfl | rfl <;> simp [Value.oneCell']
abbrev SRw (w : World) (B : Nat) (A : Option Addr) (n : Nat) (L : List (Int × Int × Int × Int)) : Prop := Rw 4 encS w B A n L

theorem infoS : (Try.prog.info? 48).map (fun i => (i.zero, i.size, i.bytes)) = some (some (.agg #[.int .i64 0, .int .i64 0, .int .i64 0, .int .i64 0]), 4, 32) := by kernel_rfl
theorem infoR : (Try.prog.info? 42).map (fun i => (i.zero, i.size, i.bytes)) = some (some (.agg #[.int .i64 0, .int .i64 0, .int .i64 0, .int .i64 0]), 4, 32) := by kernel_rfl

theorem chain_no (a n : Int) (w : World) (h : validB a n = false) :
    Calls Try.prog 24 #[.int .i64 a, .int .i64 n] w fun e w' => e = .returned (.tuple #[.slice none 0 0, .int .i64 2]) ∧ Below w.heap.size w w' := by
  have HV := Lib.hid h
  clear h
  go_enter Try.func24, Try.ntmps24
  go_wp2_with (go_at_call 53; refine (valid_any _ _ _ _).mono ?_; rw [HV.out]; rintro e w1 ⟨rfl, hb1⟩)
  go_ret2
  exact ⟨rfl, ((Below.refl _ _).alloc (Nat.le_refl _) _).trans (hb1.mono (by simp))⟩

/-- a result that is a chain, and 0 -/
def GivesChain (w : World) (L : List (Int × Int × Int × Int)) (e : Ending) (w' : World) : Prop :=
  ∃ A n c, e = .returned (.tuple #[.slice A n c, .int .i64 0]) ∧ w'.ownsRow w.heap.size 48 4 (.slice A n c) n (L.flatMap encS) ∧ Below w.heap.size w w'

/-- a box that holds a slice -/
def SlBox (w : World) (b : Nat) (v : Value) : Prop := w.cell? ⟨b, 0, none⟩ = some v ∧ w.frozen? ⟨b, 0, none⟩ = false ∧ b < w.heap.size
theorem SlBox.of_block {w w' : World} {b : Nat} {v : Value} (h : SlBox w b v) (hb : w'.heap[b]? = w.heap[b]?) (hs : w.heap.size ≤ w'.heap.size) : SlBox w' b v :=
  ⟨(World.cell?_of_block (w := w) hb).trans h.1, (World.frozen?_of_block (w := w) hb).trans h.2.1, Nat.lt_of_lt_of_le h.2.2 hs⟩

theorem own_block {w w' : World} {base sz n : Nat} {e : TypeId} {v : Value} {xs : List Value} (h : w.ownsRow base e sz v n xs) (hk : ∀ g, base ≤ g → g < w.heap.size → w'.heap[g]? = w.heap[g]?) : w'.ownsRow base e sz v n xs := by
  rcases h.2 with h2 | ⟨g, cap, cur, hv, hg, hh, r⟩
  · exact ⟨h.1, .inl h2⟩
  · exact ⟨h.1, .inr ⟨g, cap, cur, hv, hg, (hk g hg (Array.getElem?_eq_some_iff.1 hh).1).trans hh, r⟩⟩

theorem grown_low {w0 W2 : World} {base sz n : Nat} {e : TypeId} {v : Value} {xs : List Value} (how : w0.ownsRow base e sz v n xs) (hg : w0.grownBy W2 v.ownBlock) {k : Nat} (hk : k < base) (hk2 : k < w0.heap.size) : W2.heap[k]? = w0.heap[k]? :=
  hg.block k hk2 (fun e => by have := (how.lt k e.symm).1; omega)

theorem own_belowS {w wr w1 : World} {base B sz n : Nat} {e : TypeId} {v : Value} {xs : List Value} (h : wr.ownsRow base e sz v n xs) (hg : wr.grownBy w1 v.ownBlock) (hb : Below B w wr) (hB : B ≤ base) (hs : base ≤ wr.heap.size) : Below B w w1 := by
  refine hb.grown hg (by omega) (fun g e => ?_)
  rcases h.2 with ⟨rfl, _⟩ | ⟨g', cap, cur, rfl, hb, _⟩
  · cases e
  · injection e with e; subst e; exact Nat.le_trans hB hb
theorem flat_snoc (pre : List (Int × Int × Int × Int)) (x : Int × Int × Int × Int) : (pre ++ [x]).flatMap encS = pre.flatMap encS ++ encS x := by simp

/-- what Chain keeps while it goes through the steps: out lies in box B, its row from block R on -/
def ChRel (w : World) (B R : Nat) (pre : List (Int × Int × Int × Int)) (W : World) : Prop :=
  Below w.heap.size w W ∧ ∃ v, SlBox W B v ∧ W.ownsRow R 48 4 v pre.length (pre.flatMap encS)

theorem ChRel.near {w A C : World} {B R : Nat} {pre : List (Int × Int × Int × Int)} (h : ChRel w B R pre A) (hab : Near (B + 1) 3 A C) (hB : w.heap.size ≤ B) (hR : R = B + 4) : ChRel w B R pre C := by
  obtain ⟨h1, v, h2, h3⟩ := h
  have hlt := h2.2.2
  refine ⟨h1.trans ((hab.below (by omega)).mono (by omega)), v, h2.of_block (hab.block _ hlt (.inl (by omega))) hab.size, own_block h3 (fun g hg hs => hab.block g hs (.inr (by omega)))⟩

theorem newsS {w : World} (x : Int × Int × Int × Int) : ∀ j u, (encS x)[j]? = some u → (w.alloc (Obj.cells #[.int .i64 x.1, .int .i64 x.2.1, .int .i64 x.2.2.1, .int .i64 x.2.2.2] 48)).cell? ((⟨w.heap.size, 0, none⟩ : Addr).add j) = some u := by
  intro j u hu
  rw [radd]
  rcases j with _ | _ | _ | _ | j
  · simp [encS] at hu; subst hu; simp
  · simp [encS] at hu; subst hu; simp
  · simp [encS] at hu; subst hu; simp
  · simp [encS] at hu; subst hu; simp
  · simp [encS] at hu

set_option maxRecDepth 100000 in
set_option maxHeartbeats 1000000 in
theorem chain_yes (a n : Int) (w : World) (h : validB a n = true) :
    Calls Try.prog 24 #[.int .i64 a, .int .i64 n] w (GivesChain w (chain a n 1)) := by
  have HV := Lib.hid h
  have HI := Lib.hid (validB_inr h)
  clear h
  obtain ⟨i0, hi, hz0, hz1, hz2⟩ := info_parts infoS
  refine (callsIn_wide (n := 3)).1 ?_
  refine callsIn_of_wp_marks Try.func24 rfl trivial ?_ rfl
  simp only [Try.ntmps24, List.size_toArray, List.length_cons, List.length_nil, Nat.reduceAdd, Nat.reduceSub, Array.replicate_succ, Array.replicate_zero, List.push_toArray, List.append_toArray, List.nil_append, List.cons_append]
  gi_wp2_with fail
  refine ⟨trivial, (callsIn_wide.2 (valid_any _ _ _ _)).mono ?_⟩
  rw [HV.out]
  rintro e w1 ⟨rfl, hb1⟩
  have hs1 : w.heap.size < w1.heap.size := by have := hb1.size; simp at this; omega
  have c1 := hb1.cell (p := ⟨w.heap.size, 0, none⟩) (by simp)
  have c2 := hb1.cell (p := ⟨w.heap.size, 1, none⟩) (by simp)
  have c3 := hb1.cell (p := ⟨w.heap.size, 2, none⟩) (by simp)
  simp at c1 c2 c3
  gi_wp2_with fail
  have hb1w : Below w.heap.size w w1 := bt ((Below.refl _ _).alloc (Nat.le_refl _) _) hb1
  have HB1 : Hid (Below w.heap.size w (w1.alloc (Obj.cells #[.slice none 0 0] 32))) := Lib.hid (hb1w.alloc hb1w.size _)
  have HLEN := Lib.hid (chain_len (s := 1) HI.out.1 HI.out.2.2.2)
  clear hb1 hb1w c1 c2 c3
  refine range_bound rfl (by decide) (gf := 57) (fst := #[symV a n 1]) rfl trivial (enters_of Try.func57 (by kernel_rfl) rfl)
    (chain_seq _ a n 1 w HI.out) HB1.out (fun _ => rfl)
    (ChRel w w1.heap.size (w1.heap.size + 4))
    (fun pre A C hs hab => hs.near (by simpa using hab) (by omega) rfl)
    ⟨HB1.out, .slice none 0 0, ⟨by simp, by simp, by simp⟩, World.ownsRow_nil ..⟩
    (fun x a' W => ∃ Bx, StepBox W Bx x ∧ a' = { tmps := #[.int .i64 a, .int .i64 n, undef, undef, .slice none 0 0, .int .i64 0, .pointer (some ⟨w.heap.size, 0, none⟩), .pointer (some ⟨w1.heap.size, 0, none⟩), .pointer (some ⟨Bx, 0, none⟩), .int .i64 a, .int .i64 n, symV a n 1, symV a n 1, .bool true, .bool false, symV a n 1, .func (.func 57) #[symV a n 1] #[], stepOf x, undef, undef, undef, undef, undef], defers := [] })
    ?assign ?body ?done
  case assign =>
    intro l pre x W K hi hsz hK
    gi_wp2
    have hbl : Below W.heap.size W (W.alloc (Obj.cells #[.int .i64 x.1, .int .i64 x.2.1, .int .i64 x.2.2.1, .int .i64 x.2.2.2] 48)) := (Below.refl _ _).alloc (Nat.le_refl _) _
    have hst : StepBox (W.alloc (Obj.cells #[.int .i64 x.1, .int .i64 x.2.1, .int .i64 x.2.2.1, .int .i64 x.2.2.2] 48)) W.heap.size x := ⟨by simp, by simp, by simp, by simp⟩
    refine hK _ _ (hi.near (Near.of_below hbl) (by omega) rfl) hbl.size (fun k _ h => hbl.block k (by omega)) ⟨W.heap.size, hst, rfl⟩ (fun lr o hlr => ⟨W.heap.size, hst.of_block (World.putObj_heap_other (by omega)), rfl⟩)
  case body =>
    rintro l pre x a' W hs hsz ⟨Bx, ⟨x0, x1, x2, x3⟩, rfl⟩ ⟨rest, hrest⟩
    obtain ⟨hbw, v, ⟨k0, k1, k2⟩, hown⟩ := hs
    have hpl : pre.length ≤ 119 := by
      have h1 := HLEN.out
      rw [hrest, List.length_append] at h1
      omega
    have hws : w1.heap.size + 4 ≤ W.heap.size := by simp at hsz; omega
    have HOW : Hid ((W.alloc (Obj.cells #[.int .i64 x.1, .int .i64 x.2.1, .int .i64 x.2.2.1, .int .i64 x.2.2.2] 48)).ownsRow (w1.heap.size + 4) 48 4 v pre.length (pre.flatMap encS)) := Lib.hid (hown.alloc _)
    have HNE := Lib.hid (newsS (w := W) x)
    have H1 := Lib.hid (encS_one x)
    have H3 : Hid (pre.length + 1 ≤ maxLen) := Lib.hid (by unfold maxLen; omega)
    have H4 : Hid ((pre.length + 1) * 32 ≤ 140737488355328) := Lib.hid (by omega)
    have H5 : Hid (w1.heap.size + 4 ≤ (W.alloc (Obj.cells #[.int .i64 x.1, .int .i64 x.2.1, .int .i64 x.2.2.1, .int .i64 x.2.2.2] 48)).heap.size) := Lib.hid (by simp; omega)
    have HBW : Hid (Below w.heap.size w (W.alloc (Obj.cells #[.int .i64 x.1, .int .i64 x.2.1, .int .i64 x.2.2.1, .int .i64 x.2.2.2] 48))) := Lib.hid (hbw.alloc hbw.size _)
    have HK1 : Hid (w1.heap.size < w1.heap.size + 4) := Lib.hid (by omega)
    have HK2 : Hid (w1.heap.size < (W.alloc (Obj.cells #[.int .i64 x.1, .int .i64 x.2.1, .int .i64 x.2.2.1, .int .i64 x.2.2.2] 48)).heap.size) := Lib.hid (by simp; omega)
    have HKA : Hid ((W.alloc (Obj.cells #[.int .i64 x.1, .int .i64 x.2.1, .int .i64 x.2.2.1, .int .i64 x.2.2.2] 48)).cell? ⟨w1.heap.size, 0, none⟩ = some v) := Lib.hid ((World.cell?_alloc_lt _ _ _ k2).trans k0)
    have HKF : Hid ((W.alloc (Obj.cells #[.int .i64 x.1, .int .i64 x.2.1, .int .i64 x.2.2.1, .int .i64 x.2.2.2] 48)).frozen? ⟨w1.heap.size, 0, none⟩ = false) := Lib.hid ((World.frozen?_of_block (w := W) (Below.heap_alloc _ _ _ k2)).trans k1)
    clear hown hbw
    gi_wp2_with (gi_at_builtin; refine wpListIn_append_own _ rfl _ _ 32 rfl (w1.heap.size + 4) 48 i0 (.agg #[.int .i64 0, .int .i64 0, .int .i64 0, .int .i64 0]) 4 32 Try.underlying32 hi hz0 hz1 hz2 rfl (by decide) v pre.length (pre.flatMap encS) rfl HOW.out ⟨W.heap.size, 0, none⟩ 1 1 (encS x) rfl rfl HNE.out H1.out H3.out H4.out H5.out ?_; intro v' W2 hown' hgrow _; have q0 := grown_low HOW.out hgrow HK1.out HK2.out; have q1 := (World.cell?_of_block (w := W.alloc (Obj.cells #[.int .i64 x.1, .int .i64 x.2.1, .int .i64 x.2.2.1, .int .i64 x.2.2.2] 48)) q0).trans HKA.out; have q2 := (World.frozen?_of_block (w := W.alloc (Obj.cells #[.int .i64 x.1, .int .i64 x.2.1, .int .i64 x.2.2.1, .int .i64 x.2.2.2] 48)) q0).trans HKF.out; obtain ⟨A2, c2, rfl, _⟩ := own_slice hown')
    have hb2 : Below w.heap.size w W2 := own_belowS HOW.out hgrow HBW.out (by omega) H5.out
    refine ⟨⟨hb2.setCell (p := ⟨w1.heap.size, 0, none⟩) (by show w.heap.size ≤ w1.heap.size; omega) _, .slice A2 (pre.length + 1) c2, ⟨World.cell?_setCell_same' _ _ _ (by rw [q1]; rfl), by simpa using q2, ?_⟩, ?_⟩, ?_, fun k hk1 hk3 => ?_⟩
    · have h1 := Nat.lt_of_lt_of_le HK2.out hgrow.size
      simpa using h1
    · rw [List.length_append, flat_snoc]
      exact ownsRow_setCell_below hown' (by show w1.heap.size < w1.heap.size + 4; omega) _
    · have h1 := hgrow.size; simp at h1 ⊢; omega
    · simp only [World.size_alloc] at hk1 hk3
      rw [Below.heap_setCell _ _ _ _ (by simp; omega), grown_low HOW.out hgrow (by omega) (by simp; omega), Below.heap_alloc _ _ _ (by omega)]
  case done =>
    rintro W ⟨hbw, v, ⟨k0, k1, k2⟩, hown⟩ hD
    obtain ⟨Av, cv, rfl, hnil⟩ := own_slice hown
    have HBW := Lib.hid hbw
    have HCL := Lib.hid hown
    clear hown hbw hnil
    gi_wp2
    refine ⟨by simp, .inl ⟨_, _, rfl, run_takeDeferred hD, ?_⟩⟩
    refine ⟨_, results_tmp2 rfl _ _ _, Av, _, cv, rfl, ?_, HBW.out.trans (below_putObj _ (by simp; omega))⟩
    exact (ownsRow_putObj HCL.out _ hD rfl).mono (by omega)
end Go.Proofs.Ytdombadhmaanfaa
