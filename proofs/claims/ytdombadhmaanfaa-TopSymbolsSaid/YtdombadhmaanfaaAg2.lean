/- lift.Again: the loop with its map. -/
import Derived.Test.YtdombadhmaanfaaAg
namespace Go.Proofs.Ytdombadhmaanfaa
open Go Go.RowKit GhN Go.Maps

theorem aglaid : laidOutB Try.prog = true := by kernel_rfl
theorem ratrow : (78 : TypeId) < Try.prog.types.size := of_decide_eq_true (by kernel_rfl)
theorem ratwide : (match Try.prog.underlying 78 with | some (.array _ _) | some (.struct _) => true | _ => false) = true := by kernel_rfl
set_option maxRecDepth 100000 in
theorem ratlaw : Go.WideMaps.KeyLaw Try.prog 78 := deep_law_laid aglaid (m := 3) (by omega) ratrow (by kernel_rfl) ratwide
theorem ratkeyT : Try.prog.keyType 78 = true := by kernel_rfl
theorem cells78 : Try.prog.cellsOf 78 = 3 := by kernel_rfl
theorem cells3 : Try.prog.cellsOf 3 = 1 := by kernel_rfl
theorem int_lits {a : Int} (m : Nat) (ha : (Lit.int .i64 a).wf = true) : Try.prog.keyLits (m + 1) 3 [.int .i64 a] = some [.int .i64 a] := by
  unfold Program.keyLits
  rw [Try.underlying3]
  simp only [ha, and_self, if_true]
theorem pos_of {a b : Nat} (h : a < b) : ∃ m, b = m + 1 := ⟨b - 1, by omega⟩
theorem types_pos : ∃ m, Try.prog.types.size = m + 1 := pos_of ratrow
theorem rat_key (a p : Int) (ha : (Lit.int .i64 a).wf = true) (hp : (Lit.int .i64 p).wf = true) : ∃ kl, keyOf Try.prog 78 (ratV a p 2) = some kl := by
  refine ⟨.string (keyBytes [.int .i64 a, .int .i64 p, .int .i64 2]), ?_⟩
  have h2 : (Lit.int .i64 2).wf = true := by decide
  have hf : (ratV a p 2).formed Try.prog 78 = true := by kernel_rfl
  have hc : (ratV a p 2).cells.toList = [.int .i64 a, .int .i64 p, .int .i64 2] := rfl
  unfold keyOf
  rw [Try.underlying78]
  simp only [ratkeyT, hf, hc, Bool.and_self, if_true]
  obtain ⟨m, hm⟩ := types_pos
  rw [hm]
  unfold Program.keyLits
  rw [Try.underlying78]
  simp [cells78, cells3, int_lits m ha, int_lits m hp, int_lits m h2]

/-- a box that holds a ratio -/
def RatBox (w : World) (b : Nat) (a n s : Int) : Prop :=
  w.cell? ⟨b, 0, none⟩ = some (.int .i64 a) ∧ w.cell? ⟨b, 1, none⟩ = some (.int .i64 n) ∧ w.cell? ⟨b, 2, none⟩ = some (.int .i64 s) ∧
  w.frozen? ⟨b, 0, none⟩ = false ∧ w.frozen? ⟨b, 1, none⟩ = false ∧ w.frozen? ⟨b, 2, none⟩ = false ∧ b < w.heap.size
theorem RatBox.below {w w' : World} {b : Nat} {a n s : Int} (h : RatBox w b a n s) (hb : Below w.heap.size w w') : RatBox w' b a n s := by
  obtain ⟨h1, h2, h3, h4, h5, h6, h7⟩ := h
  exact ⟨(hb.cell (p := ⟨b, 0, none⟩) h7).trans h1, (hb.cell (p := ⟨b, 1, none⟩) h7).trans h2, (hb.cell (p := ⟨b, 2, none⟩) h7).trans h3,
    (hb.frozen (p := ⟨b, 0, none⟩) h7).trans h4, (hb.frozen (p := ⟨b, 1, none⟩) h7).trans h5, (hb.frozen (p := ⟨b, 2, none⟩) h7).trans h6, Nat.lt_of_lt_of_le h7 hb.size⟩
theorem RatBox.store {w : World} {b : Nat} {a n s : Int} (h : RatBox w b a n s) (a' n' s' : Int) :
    RatBox (((w.setCell ⟨b, 0, none⟩ (.int .i64 a')).setCell ⟨b, 1, none⟩ (.int .i64 n')).setCell ⟨b, 2, none⟩ (.int .i64 s')) b a' n' s' := by
  obtain ⟨h1, h2, h3, h4, h5, h6, h7⟩ := h
  have ne : ∀ i j : Nat, i ≠ j → (⟨b, i, none⟩ : Addr) ≠ ⟨b, j, none⟩ := fun i j h e => by injection e with _ e2 _; exact h e2
  refine ⟨?_, ?_, ?_, by simp [h4], by simp [h5], by simp [h6], by simpa using h7⟩
  · rw [World.cell?_setCell_other _ _ _ _ (ne 2 0 (by decide)), World.cell?_setCell_other _ _ _ _ (ne 1 0 (by decide))]
    exact World.cell?_setCell_same' _ _ _ (by rw [h1]; rfl)
  · rw [World.cell?_setCell_other _ _ _ _ (ne 2 1 (by decide))]
    exact World.cell?_setCell_same' _ _ _ (by rw [World.cell?_setCell_other _ _ _ _ (ne 0 1 (by decide)), h2]; rfl)
  · exact World.cell?_setCell_same' _ _ _ (by rw [World.cell?_setCell_other _ _ _ _ (ne 1 2 (by decide)), World.cell?_setCell_other _ _ _ _ (ne 0 2 (by decide)), h3]; rfl)
theorem RatBox.of_block {w w' : World} {b : Nat} {a n s : Int} (h : RatBox w b a n s) (hb : w'.heap[b]? = w.heap[b]?) (hs : w.heap.size ≤ w'.heap.size) : RatBox w' b a n s := by
  obtain ⟨h1, h2, h3, h4, h5, h6, h7⟩ := h
  exact ⟨(World.cell?_of_block (w := w) hb).trans h1, (World.cell?_of_block (w := w) hb).trans h2, (World.cell?_of_block (w := w) hb).trans h3,
    (World.frozen?_of_block (w := w) hb).trans h4, (World.frozen?_of_block (w := w) hb).trans h5, (World.frozen?_of_block (w := w) hb).trans h6, Nat.lt_of_lt_of_le h7 hs⟩

/-! ### the map of the rests -/
set_option maxRecDepth 100000 in
noncomputable def kOf (p : Nat) (a : Int) : Lit := (keyOf Try.prog 78 (ratV a p 2)).getD (.bool false)
theorem kOf_key {p : Nat} {a : Int} (hp : p ≤ 1000) (h1 : -1000 ≤ a) (h2 : a ≤ 1000) : keyOf Try.prog 78 (ratV a p 2) = some (kOf p a) := by
  obtain ⟨kl, h⟩ := rat_key a p (WalkArith.wf_i64 ⟨by omega, by omega⟩) (WalkArith.wf_i64 ⟨by omega, by omega⟩)
  unfold kOf; rw [h]; rfl
set_option maxRecDepth 100000 in
theorem kOf_inj {p : Nat} {a b : Int} (hp : p ≤ 1000) (h1 : -1000 ≤ a) (h2 : a ≤ 1000) (h3 : -1000 ≤ b) (h4 : b ≤ 1000) (h : kOf p a = kOf p b) : a = b := by
  have k2 := kOf_key hp h3 h4
  rw [← h] at k2
  have e := ratlaw.inj (kOf_key hp h1 h2) k2
  simp [ratV] at e
  exact e
noncomputable def agD (p : Nat) : Nat → DataW Unit
  | 0 => .map []
  | n + 1 => (agD p n).put (kOf p (lseq p n)) (.lit (.int .i64 n))
theorem agD_map (p : Nat) : ∀ n, IsMap (agD p n)
  | 0 => ⟨[], rfl⟩
  | n + 1 => (agD_map p n).put _ _
theorem agD_not {p : Nat} (h2 : p % 2 = 1) (hp : 1 < p) (hb : p ≤ 1000) {a : Int} (h3 : -1000 ≤ a) (h4 : a ≤ 1000) : ∀ n, (∀ j, j < n → lseq p j ≠ a) → has (agD p n) (kOf p a) = false
  | 0, _ => rfl
  | n + 1, h => by
    have hr := lseq_bd h2 hp n
    rw [agD, has_put_other (fun e => h n (by omega) (kOf_inj hb (by omega) (by omega) h3 h4 e.symm))]
    exact agD_not h2 hp hb h3 h4 n (fun j hj => h j (by omega))
set_option maxRecDepth 100000 in
theorem agD_at {p : Nat} (h2 : p % 2 = 1) (hp : 1 < p) (hb : p ≤ 1000) {i : Nat} (z : DataW Unit) : ∀ n, i < n → (∀ j, j < n → i < j → lseq p i ≠ lseq p j) → has (agD p n) (kOf p (lseq p i)) = true ∧ (agD p n).atKey (kOf p (lseq p i)) z = .lit (.int .i64 i)
  | 0, h, _ => by omega
  | n + 1, h, hne => by
    have hr := lseq_bd h2 hp n
    have hi := lseq_bd h2 hp i
    rw [agD]
    by_cases e : i = n
    · subst e
      have hk := (Keyed.of_law ratlaw).key (kOf_key (p := p) (a := lseq p i) hb (by omega) (by omega))
      exact ⟨has_put_same (agD_map p i) hk _, atKey_put_same (agD_map p i) hk _ _⟩
    · have ne : kOf p (lseq p i) ≠ kOf p (lseq p n) := fun e2 => hne n (by omega) (by omega) (kOf_inj hb (by omega) (by omega) (by omega) (by omega) e2)
      rw [has_put_other ne, atKey_put_other ne]
      exact agD_at h2 hp hb z n (by omega) (fun j hj => hne j (by omega))
theorem zeroI (w : World) : (zeroValue 3).run Try.prog w = .ok (.int .i64 0) w := by kernel_rfl
end Go.Proofs.Ytdombadhmaanfaa
