/- What is so of each order up to 15: found by calculating. -/
import Derived.Test.YtmljndjiipgpdaaPoD
namespace GhP
open Go.RowKit

def zeros (g : List Int) : List Int := List.replicate (g.length - 1) 0
def goodB (n t : Nat) : Bool := redZ (cyc n) (-1 :: (List.replicate (n - 1) 0 ++ [1])) == zeros (cyc n) && turnZ (cyc n) n t (cyc n) == zeros (cyc n)
def permB (n r : Nat) : Bool := ((units n).map fun t => r * t % n).isPerm ((units n).map fun t => t % n)
def ordB (n : Nat) : Bool := cyc n == (cyc n).dropLast ++ [1] && (units n).all (fun t => goodB n t && permB n t) && decide (1 ≤ (units n).length) && decide (2 ≤ (cyc n).length) && (cyc n).length == phi n + 1
theorem ord_all : ∀ n, n < 16 → 1 ≤ n → ordB n = true := by decide +kernel
def traceB (n : Nat) : Bool := (List.range ((cyc n).length - 1)).all fun l => (traceZ n (List.replicate l 0 ++ [1])).tail.all fun x => x == 0
theorem trace_all : ∀ n, n < 16 → 1 ≤ n → traceB n = true := by decide +kernel

theorem ord_of {n : Nat} (h1 : 1 ≤ n) (h2 : n < 16) : Ord n (cyc n).dropLast := by
  have h := ord_all n h2 h1
  unfold ordB at h
  simp only [Bool.and_eq_true, List.all_eq_true, beq_iff_eq, decide_eq_true_eq] at h
  obtain ⟨⟨⟨⟨e, ha⟩, _⟩, _⟩, _⟩ := h
  refine ⟨e, fun t ht => ?_, fun r hr => ?_⟩
  · have h := (ha t ht).1
    unfold goodB at h
    simp only [Bool.and_eq_true, beq_iff_eq] at h
    exact ⟨h1, h.1, h.2⟩
  · have h := (ha r hr).2
    unfold permB at h
    exact List.isPerm_iff.1 h
theorem ord_len {n : Nat} (h1 : 1 ≤ n) (h2 : n < 16) : (cyc n).dropLast.length = phi n ∧ (cyc n).length = phi n + 1 ∧ 1 ≤ phi n ∧ 1 ≤ (units n).length := by
  have h := ord_all n h2 h1
  unfold ordB at h
  simp only [Bool.and_eq_true, List.all_eq_true, beq_iff_eq, decide_eq_true_eq] at h
  obtain ⟨⟨⟨⟨e, ha⟩, h3⟩, h4⟩, h5⟩ := h
  rw [List.length_dropLast]
  omega
theorem trace_of {n : Nat} (h1 : 1 ≤ n) (h2 : n < 16) : ∀ l k, l < (cyc n).dropLast.length → 1 ≤ k → (traceZ n (List.replicate l 0 ++ [1])).getD k 0 = 0 := by
  intro l k hl hk
  have h := trace_all n h2 h1
  unfold traceB at h
  simp only [List.all_eq_true, beq_iff_eq, List.mem_range] at h
  rw [List.length_dropLast] at hl
  have h3 := h l hl
  obtain ⟨k, rfl⟩ : ∃ m, k = m + 1 := ⟨k - 1, by omega⟩
  rw [List.getD_eq_getElem?_getD, ← List.getElem?_tail]
  by_cases hk : k < (traceZ n (List.replicate l 0 ++ [1])).tail.length
  · rw [List.getElem?_eq_getElem hk]
    exact h3 _ (List.getElem_mem hk)
  · rw [List.getElem?_eq_none (by omega)]; rfl

theorem norm_mul0 {n : Nat} (h1 : 1 ≤ n) (h2 : n < 16) (a b : List Int) : (normZ n (timesZ (cyc n) a b)).getD 0 0 = (normZ n a).getD 0 0 * (normZ n b).getD 0 0 :=
  norm_first (ord_of h1 h2) (trace_of h1 h2) (ord_len h1 h2).2.2.2 (by rw [(ord_len h1 h2).1]; exact (ord_len h1 h2).2.2.1) a b
end GhP
