/- The value of a symbol: what its chain shows. -/
import Derived.Test.YtdombadhmaanfaaIt
namespace Go.Proofs.Ytdombadhmaanfaa
open Go Go.RowKit Go.Shelf GhN
attribute [local go_sem] Oper.semAt_some

theorem lastOf_snoc (a n s : Int) (pre : List (Int × Int × Int × Int)) (x : Int × Int × Int × Int) : lastOf a n s (pre ++ [x]) = x.2 := by
  unfold lastOf; rw [List.getLast?_concat]

/-- a box that holds a step -/
def StepBox (w : World) (b : Nat) (x : Int × Int × Int × Int) : Prop :=
  w.cell? ⟨b, 0, none⟩ = some (.int .i64 x.1) ∧ w.cell? ⟨b, 1, none⟩ = some (.int .i64 x.2.1) ∧ w.cell? ⟨b, 2, none⟩ = some (.int .i64 x.2.2.1) ∧ w.cell? ⟨b, 3, none⟩ = some (.int .i64 x.2.2.2)

theorem StepBox.of_block {w w' : World} {b : Nat} {x : Int × Int × Int × Int} (h : StepBox w b x) (hb : w'.heap[b]? = w.heap[b]?) : StepBox w' b x :=
  ⟨(World.cell?_of_block (w := w) hb).trans h.1, (World.cell?_of_block (w := w) hb).trans h.2.1, (World.cell?_of_block (w := w) hb).trans h.2.2.1, (World.cell?_of_block (w := w) hb).trans h.2.2.2⟩

set_option maxRecDepth 100000 in
set_option maxHeartbeats 1000000 in
theorem value_any (a n s : Int) (w : World) (h : inr a n s) :
    Calls Try.prog 54 #[symV a n s] w fun e w' => e = .returned (.int .i64 (sv a n s)) ∧ Below w.heap.size w w' := by
  have HI := Lib.hid h
  clear h
  refine (callsIn_wide (n := 3)).1 ?_
  refine callsIn_of_wp_marks Try.func54 rfl trivial ?_ rfl
  simp only [Try.ntmps54, List.size_toArray, List.length_cons, List.length_nil, Nat.reduceAdd, Nat.reduceSub, Array.replicate_succ, Array.replicate_zero, List.push_toArray, List.append_toArray, List.nil_append, List.cons_append]
  gi_wp2
  refine range_bound rfl (by decide) (gf := 57) (fst := #[symV a n s]) rfl trivial (enters_of Try.func57 (by kernel_rfl) rfl)
    (chain_seq _ a n s w HI.out) ((Below.refl _ _).alloc (Nat.le_refl _) _) (fun _ => rfl)
    (fun pre W => SymBox W w.heap.size (lastOf a n s pre).1 (lastOf a n s pre).2.1 (lastOf a n s pre).2.2 ∧ Below w.heap.size w W)
    (fun pre A B hs hab => ⟨hs.1.of_block (hab.block _ hs.1.2.2.2.2.2.2 (.inl (by simp))) hab.size, hs.2.trans ((hab.below (by have := hs.1.2.2.2.2.2.2; simp; omega)).mono (by simp))⟩)
    ⟨⟨by simp [lastOf_nil], by simp [lastOf_nil], by simp [lastOf_nil], by simp, by simp, by simp, by simp⟩, (Below.refl _ _).alloc (Nat.le_refl _) _⟩
    (fun x a' W => ∃ Bx, StepBox W Bx x ∧ a' = { tmps := #[symV a n s, .pointer (some ⟨w.heap.size, 0, none⟩), .int .i64 0, .pointer (some ⟨Bx, 0, none⟩), symV a n s, .func (.func 57) #[symV a n s] #[], stepOf x, undef, undef, undef, undef, undef, undef, undef, undef, undef, undef, undef, undef], defers := [] })
    ?assign ?body ?done
  case assign =>
    intro l pre x W K hi hsz hK
    gi_wp2
    have hbl : Below W.heap.size W (W.alloc (Obj.cells #[.int .i64 x.1, .int .i64 x.2.1, .int .i64 x.2.2.1, .int .i64 x.2.2.2] 48)) := (Below.refl _ _).alloc (Nat.le_refl _) _
    have hst : StepBox (W.alloc (Obj.cells #[.int .i64 x.1, .int .i64 x.2.1, .int .i64 x.2.2.1, .int .i64 x.2.2.2] 48)) W.heap.size x := ⟨by simp, by simp, by simp, by simp⟩
    refine hK _ _ ⟨hi.1.below hbl, hi.2.trans (hbl.mono (by simp at hsz; omega))⟩ hbl.size (fun k _ h => hbl.block k (by omega)) ⟨W.heap.size, hst, rfl⟩ (fun lr o hlr => ⟨W.heap.size, hst.of_block (World.putObj_heap_other (by omega)), rfl⟩)
  case body =>
    rintro l pre x a' W ⟨hs, hbw⟩ hsz ⟨Bx, ⟨x0, x1, x2, x3⟩, rfl⟩ _
    have HS := Lib.hid hs
    obtain ⟨c1, c2, c3, f1, f2, f3, hlt⟩ := hs
    gi_wp2
    refine ⟨⟨?_, ?_⟩, by simp, fun k hk1 _ => ?_⟩
    · rw [lastOf_snoc]; exact HS.out.store _ _ _
    · exact ((hbw.setCell (p := ⟨w.heap.size, 0, none⟩) (Nat.le_refl _) _).setCell (p := ⟨w.heap.size, 1, none⟩) (Nat.le_refl _) _).setCell (p := ⟨w.heap.size, 2, none⟩) (Nat.le_refl _) _
    · simp only [World.size_alloc] at hk1
      rw [Below.heap_setCell _ _ _ _ (by simp; omega), Below.heap_setCell _ _ _ _ (by simp; omega), Below.heap_setCell _ _ _ _ (by simp; omega)]
  case done =>
    rintro W ⟨hs, hbw⟩ hD
    have HV := Lib.hid (chain_shows a n s HI.out.1)
    obtain ⟨z, hz⟩ : ∃ z, lastOf a n s (chain a n s) = z := ⟨_, rfl⟩
    rw [hz] at hs HV
    clear hz
    obtain ⟨c1, c2, c3, f1, f2, f3, hlt⟩ := hs
    rw [World.size_alloc] at hD
    by_cases h1 : 1 < z.2.1
    · have HE : Hid ((0 : Int) = sv a n s) := Lib.hid (by have e := HV.out; simpa only [h1, if_true] using e)
      gi_wp2
      refine ⟨by simp, .inl ⟨_, _, rfl, run_takeDeferred hD, ?_⟩⟩
      exact ⟨_, results_tmp rfl _ _ _, by rw [← HE.out]; rfl, hbw.trans (below_putObj _ (by simp))⟩
    · have HE : Hid (z.2.2 = sv a n s) := Lib.hid (by have e := HV.out; simpa only [h1, if_false] using e)
      gi_wp2
      refine ⟨by simp, .inl ⟨_, _, rfl, run_takeDeferred hD, ?_⟩⟩
      exact ⟨_, results_tmp rfl _ _ _, by rw [← HE.out]; rfl, hbw.trans (below_putObj _ (by simp))⟩

end Go.Proofs.Ytdombadhmaanfaa
