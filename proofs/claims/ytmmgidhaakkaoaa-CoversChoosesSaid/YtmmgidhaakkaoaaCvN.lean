/- Needless pairs: plain mathematics. -/
import Derived.Test.YtmmgidhaakkaoaaCvL
namespace Go.Proofs.Ytmmgidhaakkaoaa
open Go Go.RowKit GhC

/-- whether a pair can be left out: no number that it covers is covered once -/
def ndB (L : List (Int × Int)) (p : Int × Int) : Bool := (List.range (wh L 1)).all (fun n => !(cov p (n : Int)) || !(cnt L (n : Int) == 1))
theorem ndB_iff {L : List (Int × Int)} {p : Int × Int} : ndB L p = true ↔ ∀ n : Nat, n < wh L 1 → cov p (n : Int) = true → cnt L (n : Int) ≠ 1 := by
  unfold ndB
  rw [List.all_eq_true]
  constructor
  · intro h n hn hc
    have := h n (List.mem_range.2 hn)
    rw [hc] at this
    simpa using this
  · intro h n hn
    have := h n (List.mem_range.1 hn)
    cases hc : cov p (n : Int) with
    | false => rfl
    | true => simpa [hc] using this hc

/-- the places of the needless ones among the first k -/
def ndUp (L : List (Int × Int)) (k : Nat) : List Int := List.map (fun (i : Nat) => (i : Int)) ((List.range k).filter (fun i => ndB L (L.getD i (0, 0))))
theorem ndUp_succ {L : List (Int × Int)} {k : Nat} {p : Int × Int} (h : L[k]? = some p) : ndUp L (k + 1) = ndUp L k ++ (if ndB L p then [(k : Int)] else []) := by
  unfold ndUp
  rw [List.range_succ, List.filter_append, List.map_append]
  have e : L.getD k (0, 0) = p := by rw [List.getD_eq_getElem?_getD, h]; rfl
  rw [List.filter_cons, e]
  cases ndB L p <;> rfl
theorem ndUp_len (L : List (Int × Int)) (k : Nat) : (ndUp L k).length ≤ k := by
  unfold ndUp
  rw [List.length_map]
  have := List.length_filter_le (fun i => ndB L (L.getD i (0, 0))) (List.range k)
  rwa [List.length_range] at this

/-- whether one of the first t numbers that a pair covers is covered once -/
def alB (L : List (Int × Int)) (X M : Nat) (t : Nat) : Bool := (List.range t).any (fun i => cnt L ((X + i * M : Nat) : Int) == 1)
theorem alB_succ (L : List (Int × Int)) (X M t : Nat) : alB L X M (t + 1) = (alB L X M t || (cnt L ((X + t * M : Nat) : Int) == 1)) := by
  unfold alB; rw [List.range_succ, List.any_append]; simp
/-- whether all of them are covered more than once -/
def moB (L : List (Int × Int)) (X M : Nat) (t : Nat) : Bool := (List.range t).all (fun i => decide (1 < cnt L ((X + i * M : Nat) : Int)))
theorem moB_succ (L : List (Int × Int)) (X M t : Nat) : moB L X M (t + 1) = (moB L X M t && decide (1 < cnt L ((X + t * M : Nat) : Int))) := by
  unfold moB; rw [List.range_succ, List.all_append]; simp

theorem cov_steps {X M n : Nat} (hM : 1 ≤ M) (hX : X < M) : cov ((X : Int), (M : Int)) (n : Int) = true ↔ ∃ i, n = X + i * M := by
  rw [cov_iff]
  constructor
  · intro h
    obtain ⟨c, hc⟩ := Int.dvd_of_emod_eq_zero h
    simp only at hc
    have hc0 : 0 ≤ c := by
      apply Classical.byContradiction
      intro g
      have : (M : Int) * c ≤ (M : Int) * (-1) := Int.mul_le_mul_of_nonneg_left (by omega) (by omega)
      omega
    refine ⟨c.toNat, ?_⟩
    have e : ((c.toNat * M : Nat) : Int) = c * M := by rw [Int.natCast_mul, Int.toNat_of_nonneg hc0]
    rw [Int.mul_comm] at e
    omega
  · rintro ⟨i, rfl⟩
    simp only
    have e : (((X + i * M : Nat) : Int) - X) = (i : Int) * M := by rw [Int.natCast_add, Int.natCast_mul]; omega
    rw [e]; exact Int.mul_emod_left _ _

theorem cnt_pos {L : List (Int × Int)} {p : Int × Int} {n : Int} (h : p ∈ L) (hc : cov p n = true) : 0 < cnt L n := by
  unfold cnt
  rw [List.length_pos_iff_exists_mem]
  exact ⟨p, List.mem_filter.2 ⟨h, hc⟩⟩

theorem alB_end {L : List (Int × Int)} {X M t : Nat} (hM : 1 ≤ M) (hX : X < M) (h : wh L 1 ≤ X + t * M) (hb : ∀ i, i < t → X + i * M < wh L 1) : alB L X M t = !(ndB L ((X : Int), (M : Int))) := by
  rw [Bool.eq_iff_iff, Bool.not_eq_true']
  have e : ndB L ((X : Int), (M : Int)) = false ↔ ¬ (∀ n : Nat, n < wh L 1 → cov ((X : Int), (M : Int)) (n : Int) = true → cnt L (n : Int) ≠ 1) := by
    rw [← ndB_iff]; simp
  rw [e]
  unfold alB
  rw [List.any_eq_true]
  constructor
  · rintro ⟨i, hi, hc⟩ hall
    have hi := List.mem_range.1 hi
    exact hall _ (hb i hi) ((cov_steps hM hX).2 ⟨i, rfl⟩) (eq_of_beq hc)
  · intro hn
    apply Classical.byContradiction
    intro hc
    apply hn
    intro n hnW hcov h1
    obtain ⟨i, rfl⟩ := (cov_steps hM hX).1 hcov
    have hi : i < t := by
      apply Classical.byContradiction
      intro g
      have := Nat.mul_le_mul_right M (show t ≤ i by omega)
      omega
    exact hc ⟨i, List.mem_range.2 hi, by simpa using h1⟩

theorem moB_end {L : List (Int × Int)} {X M t : Nat} (hm : ((X : Int), (M : Int)) ∈ L) (hM : 1 ≤ M) (hX : X < M) (h : wh L 1 ≤ X + t * M) (hb : ∀ i, i < t → X + i * M < wh L 1) : moB L X M t = ndB L ((X : Int), (M : Int)) := by
  have e : moB L X M t = !(alB L X M t) := by
    unfold moB alB
    rw [Bool.eq_iff_iff, Bool.not_eq_true', List.all_eq_true, List.any_eq_false]
    constructor
    · intro ha i hi hc
      have := of_decide_eq_true (ha i hi)
      have := eq_of_beq hc
      omega
    · intro ha i hi
      have h1 := ha i hi
      have h2 := cnt_pos hm ((cov_steps (n := X + i * M) hM hX).2 ⟨i, rfl⟩)
      have h3 : cnt L ((X + i * M : Nat) : Int) ≠ 1 := by simpa using h1
      exact decide_eq_true (by omega)
  rw [e, alB_end hM hX h hb, Bool.not_not]
end Go.Proofs.Ytmmgidhaakkaoaa
