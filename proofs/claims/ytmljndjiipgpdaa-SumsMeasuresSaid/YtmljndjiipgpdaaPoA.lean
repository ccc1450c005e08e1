/- Polynomials as lists of integers: taking a multiple of one from another, dividing, reducing; sums against a sequence. -/
import Derived.RowKit
namespace GhP
open Go.RowKit

/-- L less c times g, from its beginning on -/
def sub0 : List Int → Int → List Int → List Int
  | [], _, _ => []
  | a :: L, _, [] => a :: L
  | a :: L, c, x :: g => (a - c * x) :: sub0 L c g
/-- L less c times g, from place i on -/
def sub : Nat → List Int → Int → List Int → List Int
  | 0, L, c, g => sub0 L c g
  | _ + 1, [], _, _ => []
  | i + 1, a :: L, c, g => a :: sub i L c g

theorem sub0_len : ∀ (L : List Int) (c : Int) (g : List Int), (sub0 L c g).length = L.length
  | [], _, _ => rfl
  | _ :: _, _, [] => rfl
  | a :: L, c, x :: g => by simp [sub0, sub0_len L c g]
theorem sub_len : ∀ (i : Nat) (L : List Int) (c : Int) (g : List Int), (sub i L c g).length = L.length
  | 0, L, c, g => sub0_len L c g
  | _ + 1, [], _, _ => rfl
  | i + 1, a :: L, c, g => by simp [sub, sub_len i L c g]

theorem sub0_get : ∀ (L : List Int) (c : Int) (g : List Int) (k : Nat), (sub0 L c g)[k]? = (L[k]?).map (fun a => a - c * g.getD k 0)
  | [], _, _, k => by simp [sub0]
  | a :: L, c, [], k => by simp [sub0]
  | a :: L, c, x :: g, 0 => by simp [sub0]
  | a :: L, c, x :: g, k + 1 => by simp [sub0, sub0_get L c g k]
theorem sub_get : ∀ (i : Nat) (L : List Int) (c : Int) (g : List Int) (k : Nat), (sub i L c g)[k]? = (L[k]?).map (fun a => if i ≤ k then a - c * g.getD (k - i) 0 else a)
  | 0, L, c, g, k => by simp [sub, sub0_get]
  | i + 1, [], _, _, k => by simp [sub]
  | i + 1, a :: L, c, g, 0 => by simp [sub]
  | i + 1, a :: L, c, g, k + 1 => by simp [sub, sub_get i L c g k]

theorem sub_take {i j : Nat} {L g : List Int} {c x y : Int} (hg : g[j]? = some x) (hy : L[i + j]? = some y) : sub i L c (g.take (j + 1)) = (sub i L c (g.take j)).set (i + j) (y - c * x) := by
  apply List.ext_getElem?
  intro k
  have hL : i + j < L.length := (List.getElem?_eq_some_iff.1 hy).1
  rw [List.getElem?_set, sub_get, sub_get, sub_len]
  by_cases hk : i + j = k
  · subst hk
    rw [if_pos rfl, if_pos hL, hy]
    have : (g.take (j + 1)).getD (i + j - i) 0 = x := by
      rw [List.getD_eq_getElem?_getD, show i + j - i = j by omega, List.getElem?_take, if_pos (by omega), hg]; rfl
    simp only [Option.map_some, if_pos (show i ≤ i + j by omega), this]
  · rw [if_neg hk]
    congr 1
    funext a
    by_cases h1 : i ≤ k
    · rw [if_pos h1, if_pos h1]
      have : (g.take (j + 1)).getD (k - i) 0 = (g.take j).getD (k - i) 0 := by
        rw [List.getD_eq_getElem?_getD, List.getD_eq_getElem?_getD, List.getElem?_take, List.getElem?_take]
        by_cases h2 : k - i < j
        · rw [if_pos h2, if_pos (by omega)]
        · rw [if_neg h2, if_neg (by omega)]
      rw [this]
    · rw [if_neg h1, if_neg h1]
theorem sub_at {i j : Nat} {L g : List Int} {c : Int} : (sub i L c (g.take j))[i + j]? = L[i + j]? := by
  rw [sub_get]
  have : (g.take j).getD (i + j - i) 0 = 0 := by
    rw [List.getD_eq_getElem?_getD, List.getElem?_take, if_neg (by omega)]; rfl
  rw [this]
  cases L[i + j]? <;> simp
theorem sub_nil (i : Nat) (L : List Int) (c : Int) : sub i L c [] = L := by
  apply List.ext_getElem?
  intro k
  rw [sub_get]
  cases L[k]? <;> simp

/-- the quotient: i places are still to come -/
def overGo (g : List Int) : Nat → List Int → List Int → List Int
  | 0, _, Q => Q
  | i + 1, L, Q => overGo g i (sub i L (L.getD (i + g.length - 1) 0) g) (L.getD (i + g.length - 1) 0 :: Q)
def overZ (f g : List Int) : List Int := overGo g (f.length - g.length + 1) f []
/-- what is left -/
def remGo (g : List Int) : Nat → List Int → List Int
  | 0, L => L
  | i + 1, L => remGo g i (sub i L (L.getD (i + g.length - 1) 0) g)
def remZ (g f : List Int) : List Int := remGo g (f.length + 1 - g.length) f
/-- what is left, as a number of the order -/
def redZ (g f : List Int) : List Int := (List.range (g.length - 1)).map fun k => (remZ g f).getD k 0

theorem remGo_len (g : List Int) : ∀ (i : Nat) (L : List Int), (remGo g i L).length = L.length
  | 0, _ => rfl
  | i + 1, L => by rw [remGo, remGo_len g i, sub_len]
theorem redZ_len (g f : List Int) : (redZ g f).length = g.length - 1 := by simp [redZ]

/-- the sum of the elements times those of a sequence -/
def ev : (Nat → Int) → List Int → Int
  | _, [] => 0
  | s, x :: L => x * s 0 + ev (fun i => s (i + 1)) L

theorem ev_congr : ∀ {L : List Int} {s t : Nat → Int}, (∀ i, i < L.length → s i = t i) → ev s L = ev t L
  | [], _, _, _ => rfl
  | x :: L, s, t, h => by
    rw [ev, ev, h 0 (by simp), ev_congr (L := L) (fun i hi => h (i + 1) (by simpa using hi))]
theorem ev_add : ∀ (L : List Int) (s t : Nat → Int), ev (fun i => s i + t i) L = ev s L + ev t L
  | [], _, _ => rfl
  | x :: L, s, t => by
    rw [ev, ev, ev, ev_add L (fun i => s (i + 1)) (fun i => t (i + 1)), Int.mul_add]; omega
theorem ev_mul (c : Int) : ∀ (L : List Int) (s : Nat → Int), ev (fun i => c * s i) L = c * ev s L
  | [], _ => by simp [ev]
  | x :: L, s => by
    rw [ev, ev, ev_mul c L (fun i => s (i + 1)), Int.mul_add, Int.mul_left_comm]
theorem ev_zero : ∀ (L : List Int), ev (fun _ => 0) L = 0
  | [] => rfl
  | x :: L => by rw [ev, ev_zero L]; omega
theorem ev_zeros (s : Nat → Int) (n : Nat) : ev s (List.replicate n 0) = 0 := by
  induction n generalizing s with
  | zero => rfl
  | succ n ih => rw [List.replicate_succ, ev, ih]; omega
theorem ev_app : ∀ (L M : List Int) (s : Nat → Int), ev s (L ++ M) = ev s L + ev (fun i => s (L.length + i)) M
  | [], M, s => by simp [ev]
  | x :: L, M, s => by
    rw [List.cons_append, ev, ev, ev_app L M]
    have : (fun i => s (L.length + i + 1)) = fun i => s ((x :: L).length + i) := by funext i; rw [List.length_cons]; congr 1; omega
    rw [this]; omega
theorem ev_swap : ∀ (A B : List Int) (s : Nat → Nat → Int), ev (fun i => ev (fun j => s i j) B) A = ev (fun j => ev (fun i => s i j) A) B
  | [], B, s => by rw [ev]; simp only [ev]; rw [ev_zero]
  | x :: A, B, s => by
    rw [ev, ev_swap A B (fun i j => s (i + 1) j)]
    have : (fun j => ev (fun i => s i j) (x :: A)) = fun j => x * s 0 j + ev (fun i => s (i + 1) j) A := by funext j; rw [ev]
    rw [this, ev_add B, ev_mul]
theorem ev_sub0 : ∀ (L : List Int) (c : Int) (g : List Int) (s : Nat → Int), g.length ≤ L.length → ev s (sub0 L c g) = ev s L - c * ev s g
  | [], c, [], s, _ => by simp [sub0, ev]
  | a :: L, c, [], s, _ => by simp [sub0, ev]
  | a :: L, c, x :: g, s, h => by
    rw [sub0, ev, ev, ev, ev_sub0 L c g _ (by simpa using h), Int.sub_mul, Int.mul_add, Int.mul_assoc]; omega
theorem ev_sub : ∀ (i : Nat) (L : List Int) (c : Int) (g : List Int) (s : Nat → Int), i + g.length ≤ L.length → ev s (sub i L c g) = ev s L - c * ev (fun j => s (i + j)) g
  | 0, L, c, g, s, h => by simp only [Nat.zero_add]; exact ev_sub0 L c g s (by omega)
  | i + 1, [], c, g, s, h => by simp at h
  | i + 1, a :: L, c, g, s, h => by
    rw [sub, ev, ev, ev_sub i L c g _ (by simp at h; omega)]
    have : (fun j => s (i + j + 1)) = fun j => s (i + 1 + j) := by funext j; congr 1; omega
    rw [this]; omega

/-- a sequence that the polynomial g takes to 0, wherever it begins -/
def Rec (g : List Int) (s : Nat → Int) : Prop := ∀ j, ev (fun l => s (l + j)) g = 0
theorem Rec.shift {g : List Int} {s : Nat → Int} (h : Rec g s) (m : Nat) : Rec g (fun i => s (m + i)) := fun j => by
  have := h (m + j)
  have e : (fun l => s (m + (l + j))) = fun l => s (l + (m + j)) := by funext l; congr 1; omega
  rw [e]; exact this
theorem Rec.against {g : List Int} {s : Nat → Int} (h : Rec g s) (b : List Int) : Rec g (fun i => ev (fun j => s (i + j)) b) := fun m => by
  rw [ev_swap g b (fun l j => s (l + m + j))]
  have e : (fun j => ev (fun i => s (i + m + j)) g) = fun _ => 0 := by
    funext j
    have := h (m + j)
    have e : (fun l => s (l + m + j)) = fun l => s (l + (m + j)) := by funext l; congr 1; omega
    rw [e]; exact this
  rw [e, ev_zero]

theorem ev_remGo {g : List Int} {s : Nat → Int} (h : Rec g s) : ∀ (i : Nat) (L : List Int), i + g.length ≤ L.length + 1 → ev s (remGo g i L) = ev s L
  | 0, _, _ => rfl
  | i + 1, L, hl => by
    rw [remGo, ev_remGo h i _ (by rw [sub_len]; omega), ev_sub i L _ g s (by omega)]
    have := h i
    have e : (fun j => s (i + j)) = fun l => s (l + i) := by funext j; congr 1; omega
    rw [e, this]; omega

theorem remGo_low (g : List Int) (hg : 1 ≤ g.length) : ∀ (i : Nat) (L : List Int) (k : Nat), i + g.length - 1 ≤ k → (remGo g i L)[k]? = L[k]?
  | 0, _, _, _ => rfl
  | i + 1, L, k, hk => by
    rw [remGo, remGo_low g hg i _ k (by omega), sub_get]
    have : g.getD (k - i) 0 = 0 := by rw [List.getD_eq_getElem?_getD, List.getElem?_eq_none (by omega)]; rfl
    rw [this]
    cases L[k]? <;> simp
theorem remGo_zero {g g' : List Int} (hg : g = g' ++ [1]) : ∀ (i : Nat) (L : List Int) (k : Nat), i + g.length ≤ L.length + 1 → g'.length ≤ k → k < i + g'.length → (remGo g i L)[k]? = some 0
  | 0, _, _, _, _, _ => by omega
  | i + 1, L, k, hl, h1, h2 => by
    have hgl : g.length = g'.length + 1 := by rw [hg]; simp
    rw [remGo]
    by_cases hk : k = i + g'.length
    · rw [remGo_low g (by omega) i _ k (by omega), sub_get]
      have e1 : g.getD (k - i) 0 = 1 := by rw [hg, List.getD_eq_getElem?_getD, show k - i = g'.length by omega]; simp
      have hkl : k < L.length := by omega
      have e2 : L.getD (i + g.length - 1) 0 = L[k] := by
        rw [List.getD_eq_getElem?_getD, show i + g.length - 1 = k by omega, List.getElem?_eq_getElem hkl]; rfl
      rw [e1, e2, List.getElem?_eq_getElem hkl]
      simp only [Option.map_some, if_pos (show i ≤ k by omega), Int.mul_one, Int.sub_self]
    · exact remGo_zero hg i _ k (by rw [sub_len]; omega) h1 (by omega)

theorem ev_of_zero : ∀ (L : List Int) (n : Nat) (s : Nat → Int), (∀ k, n ≤ k → k < L.length → L[k]? = some 0) → ev s L = ev s ((List.range n).map fun k => L.getD k 0)
  | [], n, s, _ => by
    have : ((List.range n).map fun k => ([] : List Int).getD k 0) = List.replicate n 0 := by
      apply List.ext_getElem?; intro j; by_cases hj : j < n <;> simp [hj]
    rw [this, ev_zeros]; rfl
  | x :: L, 0, s, h => by
    have h0 := h 0 (by omega) (by simp)
    simp at h0
    have := ev_of_zero L 0 (fun i => s (i + 1)) (fun k _ hk => by have := h (k + 1) (by omega) (by simpa using hk); simpa using this)
    rw [ev, this, h0]; simp [ev]
  | x :: L, n + 1, s, h => by
    have := ev_of_zero L n (fun i => s (i + 1)) (fun k hn hk => by have := h (k + 1) (by omega) (by simpa using hk); simpa using this)
    rw [ev, this, List.range_succ_eq_map, List.map_cons, ev, List.map_map]
    rfl

theorem ev_red {g g' : List Int} {s : Nat → Int} (hg : g = g' ++ [1]) (h : Rec g s) (f : List Int) : ev s (redZ g f) = ev s f := by
  have hgl : g.length = g'.length + 1 := by rw [hg]; simp
  unfold redZ remZ
  by_cases hf : g'.length ≤ f.length
  · rw [← ev_remGo h (f.length + 1 - g.length) f (by omega)]
    refine (ev_of_zero _ _ _ fun k h1 h2 => ?_).symm
    rw [remGo_len] at h2
    exact remGo_zero hg _ _ _ (by omega) (by omega) (by omega)
  · have : f.length + 1 - g.length = 0 := by omega
    rw [this]
    refine (ev_of_zero _ _ _ fun k h1 h2 => ?_).symm
    rw [remGo_len] at h2
    omega

/-- the next places of a sequence -/
def nxt (g' st : List Int) : List Int := st.tail ++ [-(ev (fun i => st.getD i 0) g')]
def its (g' : List Int) : Nat → List Int → List Int
  | 0, st => st
  | i + 1, st => nxt g' (its g' i st)
theorem its_len {g' st : List Int} (h : st.length = g'.length) (h0 : 1 ≤ g'.length) : ∀ i, (its g' i st).length = g'.length
  | 0 => h
  | i + 1 => by rw [its, nxt, List.length_append, List.length_tail, its_len h h0 i]; simp; omega
theorem its_at {g' st : List Int} (h : st.length = g'.length) (h0 : 1 ≤ g'.length) : ∀ (l i : Nat), l < g'.length → (its g' i st).getD l 0 = (its g' (i + l) st).getD 0 0
  | 0, i, _ => rfl
  | l + 1, i, hl => by
    have h1 := its_at h h0 l (i + 1) (by omega)
    rw [show i + (l + 1) = i + 1 + l by omega, ← h1, its, nxt]
    have hlen := its_len h h0 i
    rw [List.getD_eq_getElem?_getD, List.getD_eq_getElem?_getD, List.getElem?_append_left (by rw [List.length_tail]; omega), List.getElem?_tail]
theorem rec_its {g g' st : List Int} (hg : g = g' ++ [1]) (h : st.length = g'.length) (h0 : 1 ≤ g'.length) : Rec g (fun i => (its g' i st).getD 0 0) := fun j => by
  have e1 : ev (fun l => (its g' (l + j) st).getD 0 0) g' = ev (fun l => (its g' j st).getD l 0) g' :=
    ev_congr fun l hl => by rw [its_at h h0 l j hl, Nat.add_comm]
  have e2 : (its g' (g'.length + j) st).getD 0 0 = -(ev (fun l => (its g' j st).getD l 0) g') := by
    have h1 := its_at h h0 (g'.length - 1) (j + 1) (by omega)
    rw [show j + 1 + (g'.length - 1) = g'.length + j by omega] at h1
    rw [← h1, its, nxt]
    have hlen := its_len h h0 j
    rw [List.getD_eq_getElem?_getD, List.getElem?_append_right (by rw [List.length_tail]; omega), List.length_tail, hlen]
    simp
  rw [hg, ev_app, e1]
  simp only [ev, Nat.add_zero]
  rw [e2]; omega

theorem ev_delta : ∀ (L : List Int) (k : Nat), ev (fun i => if i = k then 1 else 0) L = L.getD k 0
  | [], k => by simp [ev]
  | x :: L, 0 => by
    rw [ev]
    have : ev (fun i => if i + 1 = 0 then (1 : Int) else 0) L = 0 := by
      rw [show (fun i : Nat => if i + 1 = 0 then (1 : Int) else 0) = fun _ => 0 from by funext i; simp]; exact ev_zero L
    rw [this]; simp
  | x :: L, k + 1 => by
    have := ev_delta L k
    rw [ev]
    have e : (fun i : Nat => if i + 1 = k + 1 then (1 : Int) else 0) = fun i => if i = k then 1 else 0 := by funext i; simp
    rw [e, this]; simp

/-- a sequence that finds the element at place k -/
theorem probe {g g' : List Int} (hg : g = g' ++ [1]) {k : Nat} (hk : k < g'.length) : ∃ s, Rec g s ∧ ∀ C : List Int, C.length = g'.length → ev s C = C.getD k 0 := by
  have h0 : 1 ≤ g'.length := by omega
  have hst : ((List.range g'.length).map fun i => if i = k then (1 : Int) else 0).length = g'.length := by simp
  refine ⟨_, rec_its hg hst h0, fun C hC => ?_⟩
  rw [← ev_delta]
  refine ev_congr fun i hi => ?_
  have := its_at hst h0 i 0 (by omega)
  rw [Nat.zero_add] at this
  rw [← this, its, List.getD_eq_getElem?_getD]
  simp [show i < g'.length by omega]

/-- lists of the same sums are the same -/
theorem ev_uniq {g g' A B : List Int} (hg : g = g' ++ [1]) (hA : A.length = g'.length) (hB : B.length = g'.length) (h : ∀ s, Rec g s → ev s A = ev s B) : A = B := by
  apply List.ext_getElem?
  intro k
  by_cases hk : k < g'.length
  · obtain ⟨s, hs, e⟩ := probe hg hk
    have hr := h s hs
    rw [e A hA, e B hB, List.getD_eq_getElem?_getD, List.getD_eq_getElem?_getD, List.getElem?_eq_getElem (by omega), List.getElem?_eq_getElem (by omega)] at hr
    rw [List.getElem?_eq_getElem (by omega), List.getElem?_eq_getElem (by omega)]
    simpa using hr
  · rw [List.getElem?_eq_none (by omega), List.getElem?_eq_none (by omega)]
end GhP
