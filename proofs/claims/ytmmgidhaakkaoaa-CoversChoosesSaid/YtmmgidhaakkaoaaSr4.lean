/- The search of residues: choose, its parts. -/
import Derived.Test.YtmmgidhaakkaoaaSr3
import Derived.Test.YtmmgidhaakkaoaaDa
import Derived.Deep.RegionHeld3
import Derived.Deep.AppendLies
import Derived.Deep.DeepCutAuto
namespace Go.Proofs.Ytmmgidhaakkaoaa
open Go Go.RowKit

/-- all blocks but two, and that of a row -/
structure FrmV (w w' : World) (S G : Nat) (v : Value) : Prop where
  os : w'.os = w.os
  tape : w'.tape = w.tape
  output : w'.output = w.output
  size : w.heap.size ≤ w'.heap.size
  block : ∀ k, k < w.heap.size → k ≠ S → k ≠ G → v.ownBlock ≠ some k → w'.heap[k]? = w.heap[k]?
/-- a row's block is that of another one, or new -/
def OB (w : World) (v v' : Value) : Prop := ∀ g, v'.ownBlock = some g → v.ownBlock = some g ∨ w.heap.size ≤ g
theorem OB.refl (w : World) (v : Value) : OB w v v := fun _ h => .inl h
theorem OB.trans {w w1 : World} {v v1 v2 : Value} (h : OB w v v1) (hs : w.heap.size ≤ w1.heap.size) (k : OB w1 v1 v2) : OB w v v2 := fun g hg => by
  rcases k g hg with h1 | h1
  · exact h g h1
  · exact .inr (Nat.le_trans hs h1)
theorem FrmV.refl (w : World) (S G : Nat) (v : Value) : FrmV w w S G v := ⟨rfl, rfl, rfl, Nat.le_refl _, fun _ _ _ _ _ => rfl⟩
theorem FrmV.trans {a b c : World} {S G : Nat} {v v1 : Value} (h : FrmV a b S G v) (ho : OB a v v1) (k : FrmV b c S G v1) : FrmV a c S G v :=
  ⟨k.os.trans h.os, k.tape.trans h.tape, k.output.trans h.output, Nat.le_trans h.size k.size, fun j h1 h2 h3 h4 => (k.block j (Nat.lt_of_lt_of_le h1 h.size) h2 h3 (fun e => by
    rcases ho j e with h5 | h5
    · exact h4 h5
    · omega)).trans (h.block j h1 h2 h3 h4)⟩
theorem Frm.V {w w' : World} {S G : Nat} (h : Frm w w' S G) (v : Value) : FrmV w w' S G v := ⟨h.os, h.tape, h.output, h.size, fun k h1 h2 h3 _ => h.block k h1 h2 h3⟩
theorem FrmV.of_below {w w' : World} {S G : Nat} {v : Value} (h : Below w.heap.size w w') : FrmV w w' S G v := ⟨h.os, h.tape, h.output, h.size, fun k h1 _ _ _ => h.block k h1⟩
theorem FrmV.of_grown {w w' : World} {S G : Nat} {v : Value} (h : w.grownBy w' v.ownBlock) : FrmV w w' S G v := ⟨h.os, h.tape, h.output, h.size, fun k h1 _ _ h2 => h.block k h1 (fun e => h2 e.symm)⟩
theorem FrmV.set {w w' : World} {S G : Nat} {v : Value} (h : FrmV w w' S G v) {a : Addr} (ha : a.block = S ∨ a.block = G) (x : Value) : FrmV w (w'.setCell a x) S G v :=
  ⟨h.os, h.tape, h.output, by rw [set_size]; exact h.size, fun k h1 h2 h3 h4 => by
    rw [set_heap (by rcases ha with e | e <;> rw [e] <;> assumption)]
    exact h.block k h1 h2 h3 h4⟩
theorem own_ge {w : World} {B n : Nat} {T : TypeId} {v : Value} {xs : List Value} (h : w.ownsRow B T 2 v n xs) {g : Nat} (hg : v.ownBlock = some g) : B ≤ g ∧ g < w.heap.size := h.lt g hg
theorem FrmV.row {B B0 : Nat} {w w' : World} {S G n' : Nat} {T : TypeId} {v : Value} {xs : List Value} {A : Option Addr} {n : Nat} {L : List Int} (h : FrmV w w' S G v) (hv : w.ownsRow B T 2 v n' xs) (hS : B0 ≤ S) (hG : B0 ≤ G) (hB : B0 ≤ B) (hs : B0 ≤ w.heap.size) (hr : IRow w B0 A n L) : IRow w' B0 A n L :=
  hr.keep fun b o hb => World.cell?_of_block (w := w) (h.block b (by omega) (by omega) (by omega) (fun e => by have := own_ge hv e; omega))
theorem FrmV.low {B' B : Nat} {w w' : World} {S G n : Nat} {T : TypeId} {v : Value} {xs : List Value} (h : FrmV w w' S G v) (hv : w.ownsRow B T 2 v n xs) (hS : B' ≤ S) (hG : B' ≤ G) (hB : B' ≤ B) (hs : B' ≤ w.heap.size) : Below B' w w' :=
  ⟨h.os, h.tape, h.output, h.size, fun k hk => h.block k (by omega) (by omega) (by omega) (fun e => by have := own_ge hv e; omega)⟩
/-- the search as it stands with some pairs chosen -/
structure ST (w : World) (S G B : Nat) (mv : Value) (W : Nat) (F : List (Int × Int)) (ex : Bool) (v : Value) : Prop where
  ss : SS w S G mv W (cf F) (lf (cf F) W) ex v
  own : w.ownsRow B 68 2 v F.length (flat F)
  hS : S < B
  hG : G < B
  hB : B ≤ w.heap.size
theorem own_blocks {w w' : World} {B n : Nat} {T : TypeId} {v : Value} {xs : List Value} (h : w.ownsRow B T 2 v n xs) (hb : ∀ g, v.ownBlock = some g → w'.heap[g]? = w.heap[g]?) : w'.ownsRow B T 2 v n xs := by
  rcases h.2 with h2 | ⟨g, cap, cur, hv, hg, hh, r⟩
  · exact ⟨h.1, .inl h2⟩
  · exact ⟨h.1, .inr ⟨g, cap, cur, hv, hg, (hb g (by rw [hv]; rfl)).trans hh, r⟩⟩
theorem ST.frm {w w' : World} {S G B W : Nat} {mv v : Value} {F F' : List (Int × Int)} {ex : Bool} (h : ST w S G B mv W F ex v) (hf : Frm w w' S G) (hs : SS w' S G mv W (cf F') (lf (cf F') W) ex v) (e : flat F' = flat F) (el : F'.length = F.length) : ST w' S G B mv W F' ex v :=
  ⟨hs, by rw [e, el]; exact own_blocks h.own (fun g hg => by have := h.own.lt g hg; exact hf.block g this.2 (by have := h.hS; omega) (by have := h.hG; omega)), h.hS, h.hG, Nat.le_trans h.hB hf.size⟩
theorem ST.below {w w' : World} {S G B W : Nat} {mv v : Value} {F : List (Int × Int)} {ex : Bool} (h : ST w S G B mv W F ex v) (hb : Below w.heap.size w w') : ST w' S G B mv W F ex v :=
  h.frm (Frm.of_below hb) (h.ss.below hb) rfl rfl
theorem ST.drewN {w : World} {S G B W : Nat} {mv v : Value} {F : List (Int × Int)} {ex : Bool} (h : ST w S G B mv W F ex v) (n : Nat) : ST (w.drewN n) S G B mv W F ex v := h.below (bdN (Below.refl _ _) n)
/-- a row cut short -/
theorem own_cut {w : World} {B g n c k : Nat} {T : TypeId} {L : List (Int × Int)} (h : w.ownsRow B T 2 (.slice (some ⟨g, 0, none⟩) n c) n (flat L)) (hk : k ≤ n) : w.ownsRow B T 2 (.slice (some ⟨g, 0, none⟩) k c) k (flat (L.take k)) := by
  have hl : n = L.length := by have := h.1; rw [flat_len] at this; omega
  rcases h.2 with ⟨h0, _⟩ | ⟨g', cap, cur, hv, hg, hh, h1, h2, h3, h4⟩
  · cases h0
  · injection hv with hA hn hc
    subst hc
    injection hA with hA
    injection hA with hA _ _
    subst hA
    refine ⟨by rw [flat_len, List.length_take]; omega, .inr ⟨g, c, cur, rfl, hg, hh, by omega, h2, h3, ?_⟩⟩
    have h5 : flat L = flat (L.take k) ++ flat (L.drop k) := by rw [← flat_append, List.take_append_drop]
    have h6 : (flat (L.take k)).length = k * 2 := by rw [flat_len, List.length_take]; omega
    have h7 : cur.toList.take (k * 2) = (cur.toList.take (n * 2)).take (k * 2) := by rw [List.take_take]; congr 1; omega
    rw [h7, h4, h5, List.take_append_of_le_length (by omega), List.take_of_length_le (by omega)]
theorem own_cap2 {w : World} {B g n c : Nat} {T : TypeId} {xs : List Value} (h : w.ownsRow B T 2 (.slice (some ⟨g, 0, none⟩) n c) n xs) : n ≤ c ∧ c ≤ maxLen := by
  rcases h.2 with ⟨h0, _⟩ | ⟨g', cap, cur, hv, hg, hh, h1, h2, _⟩
  · cases h0
  · injection hv with _ _ hc
    subst hc
    exact ⟨h1, h2⟩

theorem fst_found' {α : Type} {g : Nat → Option α} {a : Nat} {x : α} (h1 : fst' a g = none) (h2 : g a = some x) : ∀ m, a < m → fst' m g = some x
  | 0, h => by omega
  | m + 1, h => by
    rw [fst']
    by_cases e : m = a
    · subst e; rw [h1]; exact h2
    · rw [fst_found' h1 h2 m (by omega)]
theorem fst_next' {α : Type} {g : Nat → Option α} {a : Nat} (h1 : fst' a g = none) (h2 : g a = none) : fst' (a + 1) g = none := by rw [fst', h1]; exact h2
theorem info68 : (Try.prog.info? 68).map (fun i => (i.zero, i.size, i.bytes)) = some (some (.agg #[.int .i64 0, .int .i64 0]), 2, 16) := by kernel_rfl
end Go.Proofs.Ytmmgidhaakkaoaa
