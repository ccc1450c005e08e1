/- The search of residues: its memory, and mark. -/
import Derived.Test.YtmmgidhaakkaoaaIh
import Derived.Test.YtmmgidhaakkaoaaCoB
namespace Go.Proofs.Ytmmgidhaakkaoaa
open Go Go.RowKit

/-! ### tables -/
def tab (W : Nat) (f : Nat → Int) : List Int := (List.range W).map f
theorem tab_at {W : Nat} {f : Nat → Int} {n : Nat} (h : n < W) : (tab W f)[n]? = some (f n) := by
  unfold tab; rw [List.getElem?_map, List.getElem?_range h]; rfl
theorem tab_len (W : Nat) (f : Nat → Int) : (tab W f).length = W := by unfold tab; rw [List.length_map, List.length_range]
def upd (f : Nat → Int) (n : Nat) (x : Int) : Nat → Int := fun j => if j = n then x else f j
theorem upd_same (f : Nat → Int) (n : Nat) (x : Int) : upd f n x n = x := if_pos rfl
theorem upd_ne (f : Nat → Int) {n j : Nat} (x : Int) (h : j ≠ n) : upd f n x j = f j := if_neg h
theorem tab_set (W : Nat) (f : Nat → Int) (n : Nat) (x : Int) : (tab W f).set n x = tab W (upd f n x) := by
  apply List.ext_getElem?
  intro j
  rw [List.getElem?_set]
  by_cases hj : j < W
  · rw [tab_at (f := upd f n x) hj]
    by_cases e : n = j
    · subst e
      rw [if_pos rfl, if_pos (by rw [tab_len]; exact hj)]
      rw [upd_same]
    · rw [if_neg e, tab_at hj, upd_ne f x (fun h => e h.symm)]
  · have h1 : (tab W f)[j]? = none := List.getElem?_eq_none (by rw [tab_len]; omega)
    have h2 : (tab W (upd f n x))[j]? = none := List.getElem?_eq_none (by rw [tab_len]; omega)
    rw [h1, h2]
    split
    · split
      · next h => rw [tab_len] at h; omega
      · rfl
    · rfl
theorem tab_congr {W : Nat} {f g : Nat → Int} (h : ∀ j, j < W → f j = g j) : tab W f = tab W g := by
  unfold tab
  exact List.map_congr_left (fun j hj => h j (List.mem_range.1 hj))
/-- how many places are 0 -/
def lf (f : Nat → Int) : Nat → Int
  | 0 => 0
  | k + 1 => lf f k + (if f k = 0 then 1 else 0)
theorem lf_congr {f g : Nat → Int} : ∀ k, (∀ j, j < k → f j = g j) → lf f k = lf g k
  | 0, _ => rfl
  | k + 1, h => by rw [lf, lf, lf_congr k (fun j hj => h j (by omega)), h k (by omega)]
theorem lf_upd (f : Nat → Int) (n : Nat) (x : Int) : ∀ k, lf (upd f n x) k = lf f k + (if n < k then (if x = 0 then 1 else 0) - (if f n = 0 then 1 else 0) else 0)
  | 0 => by simp [lf]
  | k + 1 => by
    rw [lf, lf, lf_upd f n x k]
    by_cases e : k = n
    · subst e
      rw [upd_same]
      repeat' split
      all_goals omega
    · rw [upd_ne f x e]
      repeat' split
      all_goals omega
theorem lf_bd (f : Nat → Int) : ∀ k : Nat, 0 ≤ lf f k ∧ lf f k ≤ k
  | 0 => by simp [lf]
  | k + 1 => by
    have := lf_bd f k
    rw [lf]
    split <;> omega

/-- behind i steps -/
def stpF (f : Nat → Int) (a m : Nat) (b : Int) : Nat → Nat → Int
  | 0 => f
  | i + 1 => upd (stpF f a m b i) (a + i * m) (stpF f a m b i (a + i * m) + b)
theorem stpF_at {a m : Nat} (f : Nat → Int) (b : Int) (hm : 1 ≤ m) : ∀ (i j : Nat), stpF f a m b i j = f j + (if ∃ k, k < i ∧ j = a + k * m then b else 0)
  | 0, j => by
    rw [stpF, if_neg (by rintro ⟨k, h, _⟩; omega)]; omega
  | i + 1, j => by
    rw [stpF]
    unfold upd
    by_cases e : j = a + i * m
    · rw [if_pos e, stpF_at f b hm i]
      rw [if_neg (fun ⟨k, h1, h2⟩ => by
        have h3 : k * m = i * m := by omega
        have := Nat.eq_of_mul_eq_mul_right (by omega) h3
        omega), if_pos ⟨i, by omega, e⟩, e]
      omega
    · rw [if_neg e, stpF_at f b hm i]
      congr 1
      by_cases h : ∃ k, k < i ∧ j = a + k * m
      · obtain ⟨k, h1, h2⟩ := h
        rw [if_pos ⟨k, h1, h2⟩, if_pos ⟨k, by omega, h2⟩]
      · rw [if_neg h, if_neg]
        rintro ⟨k, h1, h2⟩
        by_cases h3 : k = i
        · subst h3; exact e h2
        · exact h ⟨k, by omega, h2⟩
/-- the day is as it was until its step -/
theorem stpF_new {a m : Nat} (f : Nat → Int) (b : Int) (hm : 1 ≤ m) (i : Nat) : stpF f a m b i (a + i * m) = f (a + i * m) := by
  rw [stpF_at f b hm, if_neg, Int.add_zero]
  rintro ⟨k, h1, h2⟩
  have h3 : k * m = i * m := by omega
  have := Nat.eq_of_mul_eq_mul_right (by omega) h3
  omega
/-- the pair added b times -/
def addF (f : Nat → Int) (a m : Nat) (b : Int) : Nat → Int := fun j => f j + (if cov ((a : Int), (m : Int)) (j : Int) = true then b else 0)
theorem stpF_end {f : Nat → Int} {a m i W : Nat} {b : Int} (hm : 1 ≤ m) (ha : a < m) (h : W ≤ a + i * m) (j : Nat) (hj : j < W) : stpF f a m b i j = addF f a m b j := by
  rw [stpF_at f b hm, addF]
  congr 1
  have key : (∃ k, k < i ∧ j = a + k * m) ↔ cov ((a : Int), (m : Int)) (j : Int) = true := by
    unfold cov
    rw [beq_iff_eq]
    constructor
    · rintro ⟨k, _, rfl⟩
      have : (((a + k * m : Nat) : Int) - (a : Int)) = (m : Int) * (k : Int) := by push_cast; rw [Int.mul_comm]; omega
      show (((a + k * m : Nat) : Int) - (a : Int)) % (m : Int) = 0
      rw [this]; exact Int.mul_emod_right _ _
    · intro h1
      obtain ⟨q, hq⟩ := Int.dvd_of_emod_eq_zero h1
      have hq0 : 0 ≤ q := by
        apply Classical.byContradiction; intro hn
        have h2 : q ≤ -1 := by omega
        have h3 := Int.mul_le_mul_of_nonneg_left h2 (show (0 : Int) ≤ (m : Int) by omega)
        show False
        have h4 : ((j : Int) - (a : Int)) = (m : Int) * q := hq
        omega
      obtain ⟨k, rfl⟩ : ∃ k : Nat, q = k := ⟨q.toNat, by omega⟩
      have h4 : ((j : Int) - (a : Int)) = ((m * k : Nat) : Int) := by rw [Int.natCast_mul]; exact hq
      have h5 : j = a + k * m := by rw [Nat.mul_comm]; omega
      refine ⟨k, ?_, h5⟩
      apply Classical.byContradiction; intro hn
      have := Nat.mul_le_mul_right m (show i ≤ k by omega)
      omega
  by_cases h1 : ∃ k, k < i ∧ j = a + k * m
  · rw [if_pos h1, if_pos (key.1 h1)]
  · rw [if_neg h1, if_neg (fun h2 => h1 (key.2 h2))]
/-- no day twice, up to a step -/
def oncF (f : Nat → Int) (a m : Nat) (b : Int) : Nat → Bool
  | 0 => true
  | i + 1 => oncF f a m b i && decide (f (a + i * m) + b < 2)
theorem oncF_iff {f : Nat → Int} {a m : Nat} {b : Int} : ∀ i, oncF f a m b i = true ↔ ∀ k, k < i → f (a + k * m) + b < 2
  | 0 => by simp [oncF]
  | i + 1 => by
    rw [oncF, Bool.and_eq_true, oncF_iff i, decide_eq_true_iff]
    constructor
    · rintro ⟨h1, h2⟩ k hk
      by_cases e : k = i
      · subst e; exact h2
      · exact h1 k (by omega)
    · intro h; exact ⟨fun k hk => h k (by omega), h i (by omega)⟩

/-! ### the search's memory -/
/-- the search lies in block S, its days in block G -/
structure SS (w : World) (S G : Nat) (mv : Value) (W : Nat) (f : Nat → Int) (left : Int) (ex : Bool) (v : Value) : Prop where
  c0 : w.cell? ⟨S, 0, none⟩ = some mv
  c1 : w.cell? ⟨S, 1, none⟩ = some (.slice (some ⟨G, 0, none⟩) W W)
  c2 : w.cell? ⟨S, 2, none⟩ = some (.int .i64 left)
  c3 : w.cell? ⟨S, 3, none⟩ = some (.bool ex)
  c4 : w.cell? ⟨S, 4, none⟩ = some v
  f2 : w.frozen? ⟨S, 2, none⟩ = false
  f4 : w.frozen? ⟨S, 4, none⟩ = false
  lt : S < w.heap.size
  own : Own w G (some ⟨G, 0, none⟩) W W (tab W f)
  ne : G ≠ S
/-- what is left as it was: all blocks but two -/
structure Frm (w w' : World) (S G : Nat) : Prop where
  os : w'.os = w.os
  tape : w'.tape = w.tape
  output : w'.output = w.output
  size : w.heap.size ≤ w'.heap.size
  block : ∀ k, k < w.heap.size → k ≠ S → k ≠ G → w'.heap[k]? = w.heap[k]?
theorem Frm.refl (w : World) (S G : Nat) : Frm w w S G := ⟨rfl, rfl, rfl, Nat.le_refl _, fun _ _ _ _ => rfl⟩
theorem Frm.trans {a b c : World} {S G : Nat} (h : Frm a b S G) (k : Frm b c S G) : Frm a c S G :=
  ⟨k.os.trans h.os, k.tape.trans h.tape, k.output.trans h.output, Nat.le_trans h.size k.size, fun j h1 h2 h3 => (k.block j (Nat.lt_of_lt_of_le h1 h.size) h2 h3).trans (h.block j h1 h2 h3)⟩
theorem Frm.of_below {w w' : World} {S G : Nat} (h : Below w.heap.size w w') : Frm w w' S G := ⟨h.os, h.tape, h.output, h.size, fun k h1 _ _ => h.block k h1⟩
theorem Frm.below {w w' : World} {S G B : Nat} (h : Frm w w' S G) (hS : B ≤ S) (hG : B ≤ G) (hB : B ≤ w.heap.size) : Below B w w' :=
  ⟨h.os, h.tape, h.output, h.size, fun k hk => h.block k (by omega) (by omega) (by omega)⟩
theorem sne {b i j : Nat} (h : i ≠ j) : (⟨b, i, none⟩ : Addr) ≠ ⟨b, j, none⟩ := fun e => by injection e with _ e2 _; exact h e2
theorem bne' {b c i j : Nat} (h : b ≠ c) : (⟨b, i, none⟩ : Addr) ≠ ⟨c, j, none⟩ := fun e => by injection e with e2 _ _; exact h e2
theorem set_size (w : World) (a : Addr) (x : Value) : (w.setCell a x).heap.size = w.heap.size := by simp [World.setCell]
theorem set_heap {w : World} {a : Addr} {x : Value} {k : Nat} (h : k ≠ a.block) : (w.setCell a x).heap[k]? = w.heap[k]? := by
  simp only [World.setCell, Array.getElem?_modify]
  rw [if_neg (fun e => h e.symm)]
theorem Frm.set {w w' : World} {S G : Nat} (h : Frm w w' S G) {a : Addr} (ha : a.block = S ∨ a.block = G) (x : Value) : Frm w (w'.setCell a x) S G :=
  ⟨h.os, h.tape, h.output, by rw [set_size]; exact h.size, fun k h1 h2 h3 => by
    rw [set_heap (by rcases ha with e | e <;> rw [e] <;> assumption)]
    exact h.block k h1 h2 h3⟩
theorem SS.of_blocks {w w' : World} {S G W : Nat} {mv v : Value} {f : Nat → Int} {left : Int} {ex : Bool} (h : SS w S G mv W f left ex v) (hS : w'.heap[S]? = w.heap[S]?) (hG : w'.heap[G]? = w.heap[G]?) (hs : w.heap.size ≤ w'.heap.size) : SS w' S G mv W f left ex v :=
  ⟨(World.cell?_of_block (w := w) hS).trans h.c0, (World.cell?_of_block (w := w) hS).trans h.c1, (World.cell?_of_block (w := w) hS).trans h.c2, (World.cell?_of_block (w := w) hS).trans h.c3, (World.cell?_of_block (w := w) hS).trans h.c4,
    (World.frozen?_of_block (w := w) hS).trans h.f2, (World.frozen?_of_block (w := w) hS).trans h.f4, Nat.lt_of_lt_of_le h.lt hs, h.own.other hG, h.ne⟩
theorem SS.glt {w : World} {S G W : Nat} {mv v : Value} {f : Nat → Int} {left : Int} {ex : Bool} (h : SS w S G mv W f left ex v) : G < w.heap.size := (h.own.lt G rfl).2
theorem SS.below {w w' : World} {S G W : Nat} {mv v : Value} {f : Nat → Int} {left : Int} {ex : Bool} (h : SS w S G mv W f left ex v) (hb : Below w.heap.size w w') : SS w' S G mv W f left ex v :=
  h.of_blocks (hb.block _ h.lt) (hb.block _ h.glt) hb.size
theorem SS.setL {w : World} {S G W : Nat} {mv v : Value} {f : Nat → Int} {left : Int} {ex : Bool} (h : SS w S G mv W f left ex v) (x : Int) : SS (w.setCell ⟨S, 2, none⟩ (.int .i64 x)) S G mv W f x ex v :=
  ⟨(World.cell?_setCell_other _ _ _ _ (sne (by decide))).trans h.c0, (World.cell?_setCell_other _ _ _ _ (sne (by decide))).trans h.c1, World.cell?_setCell_same' _ _ _ (by rw [h.c2]; rfl), (World.cell?_setCell_other _ _ _ _ (sne (by decide))).trans h.c3, (World.cell?_setCell_other _ _ _ _ (sne (by decide))).trans h.c4,
    by simp [h.f2], by simp [h.f4], by rw [set_size]; exact h.lt, h.own.other (set_heap h.ne), h.ne⟩
theorem SS.setV {w : World} {S G W : Nat} {mv v : Value} {f : Nat → Int} {left : Int} {ex : Bool} (h : SS w S G mv W f left ex v) (x : Value) : SS (w.setCell ⟨S, 4, none⟩ x) S G mv W f left ex x :=
  ⟨(World.cell?_setCell_other _ _ _ _ (sne (by decide))).trans h.c0, (World.cell?_setCell_other _ _ _ _ (sne (by decide))).trans h.c1, (World.cell?_setCell_other _ _ _ _ (sne (by decide))).trans h.c2, (World.cell?_setCell_other _ _ _ _ (sne (by decide))).trans h.c3, World.cell?_setCell_same' _ _ _ (by rw [h.c4]; rfl),
    by simp [h.f2], by simp [h.f4], by rw [set_size]; exact h.lt, h.own.other (set_heap h.ne), h.ne⟩
theorem SS.setD {w : World} {S G W : Nat} {mv v : Value} {f : Nat → Int} {left : Int} {ex : Bool} (h : SS w S G mv W f left ex v) (n : Nat) (x : Int) : SS (w.setCell ⟨G, n, none⟩ (.int .i64 x)) S G mv W (upd f n x) left ex v := by
  have hs : (w.setCell ⟨G, n, none⟩ (.int .i64 x)).heap[S]? = w.heap[S]? := set_heap (fun e => h.ne e.symm)
  have ho := h.own.store n x
  rw [tab_set] at ho
  exact ⟨(World.cell?_of_block (w := w) hs).trans h.c0, (World.cell?_of_block (w := w) hs).trans h.c1, (World.cell?_of_block (w := w) hs).trans h.c2, (World.cell?_of_block (w := w) hs).trans h.c3, (World.cell?_of_block (w := w) hs).trans h.c4,
    (World.frozen?_of_block (w := w) hs).trans h.f2, (World.frozen?_of_block (w := w) hs).trans h.f4, by rw [set_size]; exact h.lt, ho, h.ne⟩
theorem SS.congr {w : World} {S G W : Nat} {mv v : Value} {f g : Nat → Int} {left : Int} {ex : Bool} (h : SS w S G mv W f left ex v) (e : ∀ j, j < W → f j = g j) : SS w S G mv W g left ex v :=
  ⟨h.c0, h.c1, h.c2, h.c3, h.c4, h.f2, h.f4, h.lt, by rw [← tab_congr e]; exact h.own, h.ne⟩
end Go.Proofs.Ytmmgidhaakkaoaa
