/- A range over a method value that keeps its own state in cells: the caller's blocks lie below those of the iterator. -/
import Derived.RangeFuncNested
import Derived.RangeFuncBound
import Derived.RangeFuncCalls
import Derived.RangeFuncLeaves
import Derived.Shelf.Abstract
import Derived.WalkKit
import Derived.OwnWalkIn
import Derived.TacticsInMore
import Derived.LoopNIn
import Derived.LoopIn
import Derived.Lib.Hide
namespace Go.Proofs.Ytdombadhmaanfaa
open Go Go.RowKit

/-- but for n blocks from B on, C is as A was, with new blocks -/
structure Near (B n : Nat) (A C : World) : Prop where
  os : C.os = A.os
  tape : C.tape = A.tape
  output : C.output = A.output
  size : A.heap.size ≤ C.heap.size
  block : ∀ k, k < A.heap.size → (k < B ∨ B + n ≤ k) → C.heap[k]? = A.heap[k]?

theorem Near.refl (B n : Nat) (A : World) : Near B n A A := ⟨rfl, rfl, rfl, Nat.le_refl _, fun _ _ _ => rfl⟩
theorem Near.trans {B n : Nat} {A C D : World} (h : Near B n A C) (k : Near B n C D) : Near B n A D :=
  ⟨k.os.trans h.os, k.tape.trans h.tape, k.output.trans h.output, Nat.le_trans h.size k.size, fun i hi hb => (k.block i (Nat.lt_of_lt_of_le hi h.size) hb).trans (h.block i hi hb)⟩
theorem Near.of_below {B n : Nat} {A C : World} (h : Below A.heap.size A C) : Near B n A C := ⟨h.os, h.tape, h.output, h.size, fun k hk _ => h.block k hk⟩
theorem Near.setCell {B n : Nat} {A C : World} (h : Near B n A C) {p : Addr} (h1 : B ≤ p.block) (h2 : p.block < B + n) (u : Value) : Near B n A (C.setCell p u) :=
  h.trans ⟨rfl, rfl, rfl, by simp [World.setCell], fun k _ hb => Below.heap_setCell _ _ _ _ (by omega)⟩
theorem Near.putObj {B n : Nat} {A C : World} (h : Near B n A C) {l : Nat} (h1 : B ≤ l) (h2 : l < B + n) (o : Obj) : Near B n A (C.putObj l o) :=
  h.trans ⟨rfl, rfl, rfl, by simp [World.putObj], fun k _ hb => World.putObj_heap_other (by omega)⟩
theorem Near.wide {B n B' n' : Nat} {A C : World} (h : Near B n A C) (h1 : B' ≤ B) (h2 : B + n ≤ B' + n') : Near B' n' A C :=
  ⟨h.os, h.tape, h.output, h.size, fun k hk hb => h.block k hk (by omega)⟩
/-- what lies below B is as it was -/
theorem Near.below {B n : Nat} {A C : World} (h : Near B n A C) (hs : B ≤ A.heap.size) : Below B A C := ⟨h.os, h.tape, h.output, h.size, fun k hk => h.block k (by omega) (.inl hk)⟩

/-- how a round ends: it goes on; the three blocks from B on are as they were -/
def RoundEnd (B : Nat) (I : World → Prop) (W : World) : Exit → Act → World → Prop
  | .normal, _, W' => I W' ∧ W.heap.size ≤ W'.heap.size ∧ ∀ k, B ≤ k → k < B + 3 → W'.heap[k]? = W.heap[k]?
  | _, _, _ => False

/-- the iterator hands out just xs, to whoever keeps its one block -/
def SeqB {α : Type} (F : Fence) (n : Nat) (P : Program) (g : Nat) (fst : Array Value) (encs : α → Array Value) (xs : List α) (w0 : World) : Prop :=
  ∀ (l : Nat) (J : List α → World → Prop) (W : World), Below w0.heap.size w0 W → (∀ pre A B, J pre A → Near W.heap.size 1 A B → J pre B) →
    (∀ pre x W1, J pre W1 → W.heap.size < W1.heap.size → (∃ rest, xs = pre ++ x :: rest) → YieldAt F (n - 1) P l (encs x) W1 fun e W' =>
      e = .returned (.bool true) ∧ J (pre ++ [x]) W' ∧ W1.heap.size ≤ W'.heap.size ∧ W'.heap[W.heap.size]? = W1.heap[W.heap.size]?) →
    J [] W →
    CallsIn F n P g (fst ++ #[.func (.yield l) #[] #[]]) W fun e W' => (∃ v, e = .returned v) ∧ J xs W'

theorem range_bound {α : Type} {F : Fence} {n : Nat} {P : Program} {g : Operand} {ps : Array Tmp} {assign body : Code} {Q : Exit → Act → World → Prop} {a : Act} {w : World}
    (hro : F.round = none) (h1 : 1 ≤ n) {gf : Nat} {fst : Array Value} (hg : a.eval g = .func (.func gf) fst #[]) (hFg : F.fn gf) (eg : ∀ args w, (callFunc gf args).run P w = .ok (.enter gf args) w)
    {encs : α → Array Value} {xs : List α} {w0 : World} (hseq : SeqB F (n - 1) P gf fst encs xs w0) (hb0 : Below w0.heap.size w0 w) (hps : ∀ x, (encs x).size = ps.size)
    (I : List α → World → Prop) (hI : ∀ pre A B, I pre A → Near w.heap.size 3 A B → I pre B) (h0 : I [] w) (Ax : α → Act → World → Prop)
    (hassign : ∀ (l : Nat) (pre : List α) (x : α) (W : World) (K : Act → World → Prop), I pre W → w.heap.size + 3 ≤ W.heap.size →
      (∀ a₁ W', I pre W' → W.heap.size ≤ W'.heap.size → (∀ k, w.heap.size ≤ k → k < w.heap.size + 3 → W'.heap[k]? = W.heap[k]?) → Ax x a₁ W' → (∀ (lr : Nat) (o : Obj), lr < W.heap.size → Ax x a₁ (W'.putObj lr o)) → K a₁ W') →
      assign.wpIn (F.inRound l) (n - 1 - 1) P (Exit.then K (fun _ _ _ => False)) { tmps := (ps.zip (encs x)).foldl (fun t (p, v) => t.setIfInBounds p v) a.tmps, defers := [] } W)
    (hbody : ∀ (l : Nat) (pre : List α) (x : α) (a₁ : Act) (W : World), I pre W → w.heap.size + 3 ≤ W.heap.size → Ax x a₁ W → (∃ rest, xs = pre ++ x :: rest) →
      body.wpIn (F.inRound l) (n - 1 - 1) P (RoundEnd w.heap.size (I (pre ++ [x])) W) a₁ W)
    (hdone : ∀ (W : World), I xs W → W.heap[w.heap.size]? = some (.deferred (some [])) → Q .normal { a with defers := { target := .collected w.heap.size, args := #[] } :: a.defers } W) :
    (Code.rangeFunc g ps assign body).wpIn F n P Q a w := by
  refine wpIn_rangeFunc ?_
  intro fn hfn
  rw [hro]
  obtain ⟨rec, hrec⟩ : ∃ rec : LoopState → Option Code → Loop, rec = fun st pe => { state := st, pending := pe, fn, tmps := a.tmps, params := ps, assign, body, defers := w.heap.size } := ⟨_, rfl⟩
  obtain ⟨W1, hW1⟩ : ∃ W1, (w.alloc (.deferred (some []))).alloc (.loop (rec .ready none)) = W1 := ⟨_, rfl⟩
  have hL1 : W1.heap[w.heap.size + 1]? = some (.loop (rec .ready none)) := by
    rw [← hW1]; have := World.alloc_heap_new (w.alloc (.deferred (some []))) (.loop (rec .ready none)); rwa [World.size_alloc] at this
  have hK1 : W1.heap[w.heap.size]? = some (.deferred (some [])) := by
    rw [← hW1]; exact (Below.heap_alloc _ _ _ (by simp)).trans (World.alloc_heap_new w _)
  have hbw : Below w.heap.size w W1 := by
    rw [← hW1]; exact ((Below.refl _ w).alloc (Nat.le_refl _) _).alloc (by simp) _
  have hs1 : W1.heap.size = w.heap.size + 2 := by rw [← hW1]; simp
  refine ⟨w.heap.size + 1, [{ target := .collected w.heap.size, args := #[] }], W1, { target := .fn (.func gf) #[], args := fst ++ #[.func (.yield (w.heap.size + 1)) #[] #[]] }, W1, gf,
    fst ++ #[.func (.yield (w.heap.size + 1)) #[] #[]], W1, ?_, ?_, ?_, ?_, fun _ => h1, ?_⟩
  · rw [← hW1, hrec]; exact run_enterLoop_outer _ _ _ _ _
  · simp only [resolve, hg]
    simp [go_sem]
  · intro f' hf'; simp [Target.leads] at hf'; subst hf'; exact hFg
  · simp [invoke, eg]
  · refine (hseq (w.heap.size + 1)
      (fun pre W => I pre W ∧ W.heap[w.heap.size + 1]? = some (.loop (rec .ready none)) ∧ W.heap[w.heap.size]? = some (.deferred (some [])))
      W1 (hb0.trans (hbw.mono hb0.size))
      (fun pre A B hs hab => by
        have hlt := (Array.getElem?_eq_some_iff.1 hs.2.1).1
        exact ⟨hI pre A B hs.1 (hab.wide (by omega) (by omega)), (hab.block _ hlt (.inl (by omega))).trans hs.2.1, (hab.block _ (by omega) (.inl (by omega))).trans hs.2.2⟩)
      ?_ ⟨hI _ _ _ h0 (Near.of_below hbw), hL1, hK1⟩).mono ?_
    · rintro pre x W ⟨hi, hl, hk⟩ hsz hin
      have hlt : w.heap.size + 1 < W.heap.size := (Array.getElem?_eq_some_iff.1 hl).1
      have hy := run_yield (P := P) (args := encs x) hl (by rw [hrec]; exact hps x)
      rw [hrec] at hy
      refine ⟨fn, _, assign, body, hy, roundIn_of_wpIn hfn (hassign _ pre x W _ hi (by omega) ?_)⟩
      intro a₁ W2 hi2 hsz2 hkeep2 hax hax2
      have hl2 : W2.heap[w.heap.size + 1]? = some (.loop (rec .ready none)) := (hkeep2 _ (by omega) (by omega)).trans hl
      have hk2 : W2.heap[w.heap.size]? = some (.deferred (some [])) := (hkeep2 _ (by omega) (by omega)).trans hk
      refine ⟨_, run_beginRound hl2 (by rw [hrec]), ?_⟩
      have hl3 : (W2.putObj (w.heap.size + 1) (.loop { rec .ready none with state := .busy })).heap[w.heap.size + 1]? = some (.loop { rec .ready none with state := .busy }) := World.putObj_heap_same (by omega)
      have hs3 : (W2.putObj (w.heap.size + 1) (.loop { rec .ready none with state := .busy })).heap.size = W2.heap.size := by simp [World.putObj]
      refine wpIn_mono (hbody _ pre x a₁ _ (hI _ _ _ hi2 ((Near.refl _ _ _).putObj (by omega) (by omega) _)) (by rw [hs3]; omega) (hax2 _ _ hlt) hin) ?_
      rintro e a3 W3 hp
      cases e with
      | normal =>
        obtain ⟨hi3, hsz3, hkeep3⟩ := hp
        have hl4 := (hkeep3 _ (by omega) (by omega)).trans hl3
        have hr := run_endRound (P := P) none hl4
        refine ⟨_, _, hr, ?_, ?_, ?_, ?_⟩
        · simp
        · refine ⟨hI _ _ _ hi3 ((Near.refl _ _ _).putObj (by omega) (by omega) _), ?_, ?_⟩
          · rw [World.putObj_heap_same (Array.getElem?_eq_some_iff.1 hl4).1, hrec]; simp
          · rw [World.putObj_heap_other (by omega), hkeep3 _ (Nat.le_refl _) (by omega), World.putObj_heap_other (by omega)]; exact hk2
        · simp only [World.putObj, Array.size_setIfInBounds] at hs3 hsz3 ⊢
          omega
        · rw [World.putObj_heap_other (by omega), hkeep3 _ (by omega) (by omega), World.putObj_heap_other (by omega)]
          exact hkeep2 _ (by omega) (by omega)
      | _ => exact hp.elim
    · rintro e W2 ⟨⟨v, rfl⟩, hi, hl, hk⟩
      exact ⟨none, _, by have := run_endLoop (P := P) hl (by rw [hrec]; simp); rw [hrec] at this; exact this, hdone _ (hI _ _ _ hi ((Near.refl _ _ _).putObj (by omega) (by omega) _)) ((World.putObj_heap_other (by omega)).trans hk)⟩

theorem below_putObj {B l : Nat} {W : World} (o : Obj) (h : B ≤ l) : Below B W (W.putObj l o) :=
  ⟨rfl, rfl, rfl, by simp [World.putObj], fun k hk => World.putObj_heap_other (by omega)⟩
end Go.Proofs.Ytdombadhmaanfaa
