/- The library's sort, on a slice of the call's own. -/
import Derived.Test.YtdombadhmaanfaaAg
import Derived.Test.YtdombadhmaanfaaSh
import Derived.Sort.OwnSortedInts
namespace Go.Proofs.Ytdombadhmaanfaa
open Go Go.RowKit Go.Sort

def srt (L : List Int) : List Int := L.mergeSort fun x y => decide (x ≤ y)
theorem srt_len (L : List Int) : (srt L).length = L.length := List.length_mergeSort L

theorem sort_own (A : Option Addr) (n c base : Nat) (L : List Int) (w : World) (h : Own w base A n c L) (hn : n ≤ 1000000) :
    Calls Try.prog 89 #[.slice A n c] w fun e w' => e = .returned (.tuple #[]) ∧ Own w' base A n c (srt L) ∧ Below base w w' ∧ w.heap.size ≤ w'.heap.size := by
  have hl := h.len
  rcases h.2 with ⟨hv, h0⟩ | ⟨g, cap, cur, hv, hg, hh, h1, h2, h3, h4⟩
  · injection hv with e1 e2 e3
    subst e1 e2 e3
    have hL : L = [] := List.length_eq_zero_iff.1 hl.symm
    subst hL
    refine (Try.slices_Sort_int_none none 0 w).mono ?_
    rintro e w' ⟨rfl, rfl⟩
    exact ⟨rfl, by rw [show srt [] = [] from by simp [srt]]; exact h, Below.refl _ _, Nat.le_refl _⟩
  · injection hv with e1 e2 e3
    subst e1 e3 hl
    rw [Nat.mul_one] at h4
    have hlt : g < w.heap.size := (Array.getElem?_eq_some_iff.1 hh).1
    refine (Try.slices_Sort_int g 0 c L w (holds_of_blockI hh h4) hlt (by omega)).mono ?_
    rintro e w' ⟨rfl, k, os, rfl⟩
    have hb := grownBy_sortedI (w := w) (g := g) (n := k) (os := os) (srt L).toArray
    exact ⟨rfl, ownsRow_sortedI (srt_len L) hg hh h1 h2 h3, (Below.refl base w).grown hb (Nat.le_trans hg (Nat.le_of_lt hlt)) (fun j e => by injection e with e; omega), hb.size⟩
end Go.Proofs.Ytdombadhmaanfaa
