/- Two rows that one region makes, with a call between them or not. -/
import Derived.Test.YtmljndjiipgpdaaNo
namespace Go.Proofs.Ytmljndjiipgpdaa
open Go Go.RowKit GhP

abbrev zC (P : Nat) : Obj := Obj.cells (madeCells #[Value.int IntKind.i64 0] P) 3
theorem made_a {w v x1 x2 : World} {P : Nat} (hP : P ≤ 1000) (hb : Below w.heap.size w v) (h1 : Below v.heap.size v x1) (h2 : Below (x1.alloc (zC P)).heap.size (x1.alloc (zC P)) x2) :
    x1.heap.size ≠ x2.heap.size ∧ Hid (Own (x2.alloc (zC P)) w.heap.size (some ⟨x1.heap.size, 0, none⟩) P P (List.replicate P 0)) ∧ Hid (Own (x2.alloc (zC P)) w.heap.size (some ⟨x2.heap.size, 0, none⟩) P P (List.replicate P 0)) ∧ Hid (Below w.heap.size w (x2.alloc (zC P))) := by
  have b1 := ibt hb h1
  have b3 : Below w.heap.size w (x1.alloc (zC P)) := b1.alloc b1.size _
  have b4 := ibt b3 h2
  have s : (x1.alloc (zC P)).heap.size = x1.heap.size + 1 := by simp
  have hm : P ≤ maxLen := by unfold maxLen; omega
  have o1 := own_made (w := x1) (base := w.heap.size) (n := P) b1.size hm
  have o2 := iown_bel o1 h2
  have o3 := iown_bel o2 ((Below.refl _ x2).alloc (Nat.le_refl _) (zC P))
  exact ⟨by have := h2.size; omega, Lib.hid o3, Lib.hid (own_made b4.size hm), Lib.hid (b4.alloc b4.size _)⟩
theorem made_b {w v x1 x2 : World} {P : Nat} (hP : P ≤ 1000) (hb : Below w.heap.size w v) (h1 : Below v.heap.size v x1) (h2 : Below x1.heap.size x1 x2) :
    x2.heap.size ≠ x2.heap.size + 1 ∧ Hid (Own ((x2.alloc (zC P)).alloc (zC P)) w.heap.size (some ⟨x2.heap.size, 0, none⟩) P P (List.replicate P 0)) ∧ Hid (Own ((x2.alloc (zC P)).alloc (zC P)) w.heap.size (some ⟨x2.heap.size + 1, 0, none⟩) P P (List.replicate P 0)) ∧ Hid (Below w.heap.size w ((x2.alloc (zC P)).alloc (zC P))) := by
  have b2 := ibt (ibt hb h1) h2
  have b3 : Below w.heap.size w (x2.alloc (zC P)) := b2.alloc b2.size _
  have s : (x2.alloc (zC P)).heap.size = x2.heap.size + 1 := by simp
  have hm : P ≤ maxLen := by unfold maxLen; omega
  have o1 := own_made (w := x2) (base := w.heap.size) (n := P) b2.size hm
  have o3 := iown_bel o1 ((Below.refl _ (x2.alloc (zC P))).alloc (Nat.le_refl _) (zC P))
  have o4 := own_made (w := x2.alloc (zC P)) (base := w.heap.size) (n := P) b3.size hm
  rw [s] at o4
  exact ⟨by omega, Lib.hid o3, Lib.hid o4, Lib.hid (b3.alloc b3.size _)⟩
end Go.Proofs.Ytmljndjiipgpdaa
