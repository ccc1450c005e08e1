/- Norm and trace: the product and the sum of all turned ones. -/
import Derived.Test.YtmljndjiipgpdaaPoC
namespace GhP
open Go.RowKit

/-- the order n's facts -/
structure Ord (n : Nat) (g' : List Int) : Prop where
  split : cyc n = g' ++ [1]
  good : ∀ t ∈ units n, Good (cyc n) n t
  perm : ∀ r ∈ units n, ((units n).map fun t => r * t % n).Perm ((units n).map fun t => t % n)

def one (g : List Int) : List Int := redZ g [1]
def normL (n : Nat) (l : List Nat) (v a : List Int) : List Int := l.foldl (fun v t => timesZ (cyc n) v (turnZ (cyc n) n t a)) v
def normZ (n : Nat) (a : List Int) : List Int := normL n (units n) (one (cyc n)) a
def traceL (n : Nat) (l : List Nat) (v a : List Int) : List Int := l.foldl (fun v t => addZ v (turnZ (cyc n) n t a)) v
def traceZ (n : Nat) (a : List Int) : List Int := traceL n (units n) (List.replicate ((cyc n).length - 1) 0) a

section
variable {n : Nat} {g' : List Int} (O : Ord n g')
include O

theorem norm_mul (a b : List Int) : ∀ (l : List Nat) (v w : List Int), (∀ t ∈ l, t ∈ units n) → normL n l (timesZ (cyc n) v w) (timesZ (cyc n) a b) = timesZ (cyc n) (normL n l v a) (normL n l w b)
  | [], _, _, _ => rfl
  | t :: l, v, w, h => by
    have hG := O.good t (h t (by simp))
    simp only [normL, List.foldl_cons]
    rw [turn_times O.split hG, times_four O.split]
    exact norm_mul a b l _ _ fun u hu => h u (by simp [hu])

theorem one_one : timesZ (cyc n) (one (cyc n)) (one (cyc n)) = one (cyc n) :=
  red_uniq O.split (times_len ..) (redZ_len ..) fun s hs => by
    rw [ev_times O.split hs]
    unfold one
    rw [ev_red O.split (hs.against _), ev, ev]
    simp only [Nat.zero_add]
    rw [ev_red O.split hs]
    omega

theorem normZ_mul (a b : List Int) : normZ n (timesZ (cyc n) a b) = timesZ (cyc n) (normZ n a) (normZ n b) := by
  unfold normZ
  rw [← norm_mul O a b (units n) _ _ fun t h => h, one_one O]

theorem turn_one {r : Nat} (hr : r ∈ units n) : turnZ (cyc n) n r (one (cyc n)) = one (cyc n) :=
  red_uniq O.split (turn_len ..) (redZ_len ..) fun s hs => by
    have hG := O.good r hr
    rw [ev_turn O.split hG.pos hs]
    unfold one
    rw [ev_red O.split (hs.turned O.split hG), ev_red O.split hs]
    simp [ev]

/-- by the list of the turns, less multiples of n -/
theorem norm_turn (a : List Int) {r : Nat} (hr : r ∈ units n) : ∀ (l : List Nat) (v : List Int), (∀ t ∈ l, t ∈ units n) →
    turnZ (cyc n) n r (normL n l v a) = normL n (l.map fun t => r * t % n) (turnZ (cyc n) n r v) a
  | [], _, _ => rfl
  | t :: l, v, h => by
    have hG := O.good t (h t (by simp))
    simp only [normL, List.foldl_cons, List.map_cons]
    have := norm_turn a hr l (timesZ (cyc n) v (turnZ (cyc n) n t a)) fun u hu => h u (by simp [hu])
    unfold normL at this
    rw [this, turn_times O.split (O.good r hr), turn_turn O.split hG (O.good r hr)]

theorem norm_mod (a : List Int) : ∀ (l : List Nat) (v : List Int), (∀ t ∈ l, t ∈ units n) → normL n (l.map fun t => t % n) v a = normL n l v a
  | [], _, _ => rfl
  | t :: l, v, h => by
    simp only [normL, List.foldl_cons, List.map_cons]
    rw [turn_mod O.split (O.good t (h t (by simp)))]
    have := norm_mod a l (timesZ (cyc n) v (turnZ (cyc n) n t a)) fun u hu => h u (by simp [hu])
    unfold normL at this
    rw [this]

theorem norm_perm (a v : List Int) {l m : List Nat} (h : l.Perm m) : normL n l v a = normL n m v a := by
  unfold normL
  refine h.foldl_eq' ?_ v
  intro x _ y _ z
  exact times_right O.split _ _ _

theorem norm_fixed (a : List Int) {r : Nat} (hr : r ∈ units n) : turnZ (cyc n) n r (normZ n a) = normZ n a := by
  unfold normZ
  rw [norm_turn O a hr (units n) _ fun t h => h, turn_one O hr, norm_perm O a _ (O.perm r hr), norm_mod O a (units n) _ fun t h => h]

theorem ev_trace {s : Nat → Int} (hs : Rec (cyc n) s) (a : List Int) : ∀ (l : List Nat) (v : List Int), (∀ t ∈ l, t ∈ units n) → v.length = (cyc n).length - 1 →
    ev s (traceL n l v a) = ev s v + ev (fun i => (l.map fun t => s (i * t % n)).foldr (· + ·) 0) a
  | [], v, _, _ => by simp only [traceL, List.foldl_nil, List.map_nil, List.foldr_nil]; rw [ev_zero]; omega
  | t :: l, v, h, hv => by
    have hG := O.good t (h t (by simp))
    have := ev_trace hs a l (addZ v (turnZ (cyc n) n t a)) (fun u hu => h u (by simp [hu])) (by rw [addZ_len (by rw [hv, turn_len]), turn_len])
    unfold traceL at this ⊢
    rw [List.foldl_cons, this, ev_addZ _ _ _ (by rw [hv, turn_len]), ev_turn O.split hG.pos hs]
    simp only [List.map_cons, List.foldr_cons]
    rw [ev_add]; omega
omit O in
theorem traceL_len (a : List Int) : ∀ (l : List Nat) (v : List Int), v.length = (cyc n).length - 1 → (traceL n l v a).length = (cyc n).length - 1
  | [], _, h => h
  | t :: l, v, h => traceL_len a l _ (by rw [addZ_len (by rw [h, turn_len]), turn_len])

theorem trace_add (a b : List Int) (h : a.length = b.length) : traceZ n (addZ a b) = addZ (traceZ n a) (traceZ n b) :=
  red_uniq O.split (traceL_len _ _ _ (by simp)) (by rw [addZ_len (by unfold traceZ; rw [traceL_len _ _ _ (by simp), traceL_len _ _ _ (by simp)])]; exact traceL_len _ _ _ (by simp)) fun s hs => by
    rw [ev_addZ _ _ _ (by unfold traceZ; rw [traceL_len _ _ _ (by simp), traceL_len _ _ _ (by simp)])]
    unfold traceZ
    rw [ev_trace O hs _ _ _ (fun t h => h) (by simp), ev_trace O hs _ _ _ (fun t h => h) (by simp), ev_trace O hs _ _ _ (fun t h => h) (by simp), ev_zeros, ev_addZ _ _ _ h]
    omega

omit O in
theorem trace_fixed_go (v : List Int) (h : ∀ r ∈ units n, turnZ (cyc n) n r v = v) : ∀ (l : List Nat) (u : List Int), (∀ t ∈ l, t ∈ units n) → traceL n l u v = l.foldl (fun u _ => addZ u v) u
  | [], _, _ => rfl
  | t :: l, u, hl => by
    have := trace_fixed_go v h l (addZ u (turnZ (cyc n) n t v)) fun x hx => hl x (by simp [hx])
    unfold traceL at this ⊢
    rw [List.foldl_cons, List.foldl_cons, this, h t (hl t (by simp))]

omit O in
theorem addZ_get (a b : List Int) (h : a.length = b.length) (k : Nat) : (addZ a b).getD k 0 = a.getD k 0 + b.getD k 0 := by
  unfold addZ
  rw [List.getD_eq_getElem?_getD, List.getD_eq_getElem?_getD, List.getD_eq_getElem?_getD, List.getElem?_zipWith]
  by_cases hk : k < a.length
  · rw [List.getElem?_eq_getElem hk, List.getElem?_eq_getElem (by omega)]; rfl
  · rw [List.getElem?_eq_none (by omega), List.getElem?_eq_none (by omega)]; rfl
omit O in
theorem add_times (v : List Int) (k : Nat) : ∀ (l : List Nat) (u : List Int), u.length = v.length → (l.foldl (fun u _ => addZ u v) u).getD k 0 = u.getD k 0 + l.length * v.getD k 0
  | [], _, _ => by simp
  | t :: l, u, h => by
    rw [List.foldl_cons, add_times v k l _ (by rw [addZ_len h]), addZ_get _ _ h, List.length_cons, Int.natCast_succ, Int.add_mul]; omega

/-- what no turn changes is a whole number -/
theorem fixed_whole (hT : ∀ l k, l < g'.length → 1 ≤ k → (traceZ n (List.replicate l 0 ++ [1])).getD k 0 = 0) (hU : 1 ≤ (units n).length)
    (v : List Int) (hv : v.length = g'.length) (h : ∀ r ∈ units n, turnZ (cyc n) n r v = v) : ∀ k, 1 ≤ k → v.getD k 0 = 0 := by
  intro k hk
  have hgl : (cyc n).length - 1 = g'.length := by rw [O.split]; simp
  by_cases hkl : k < g'.length
  · obtain ⟨s, hs, e⟩ := probe O.split hkl
    have h1 : (traceZ n v).getD k 0 = ((units n).length : Int) * v.getD k 0 := by
      unfold traceZ
      rw [trace_fixed_go v h (units n) _ fun t h => h, add_times v k _ _ (by simp [hgl, hv])]
      have : (List.replicate ((cyc n).length - 1) (0 : Int)).getD k 0 = 0 := by simp [List.getD_eq_getElem?_getD, hgl, hkl]
      rw [this]; omega
    have h2 : (traceZ n v).getD k 0 = 0 := by
      have hl : (traceZ n v).length = g'.length := by unfold traceZ; rw [traceL_len _ _ _ (by simp), hgl]
      rw [← e _ hl]
      unfold traceZ
      rw [ev_trace O hs _ _ _ (fun t h => h) (by simp), ev_zeros]
      have hz : ev (fun i => ((units n).map fun t => s (i * t % n)).foldr (· + ·) 0) v = ev (fun _ => 0) v := ev_congr fun l hl => ?_
      · rw [hz, ev_zero]; rfl
      have h3 := hT l k (by omega) hk
      have hl3 : (traceZ n (List.replicate l 0 ++ [1])).length = g'.length := by unfold traceZ; rw [traceL_len _ _ _ (by simp), hgl]
      rw [← e _ hl3] at h3
      unfold traceZ at h3
      rw [ev_trace O hs _ _ _ (fun t h => h) (by simp), ev_zeros, ev_app, ev_zeros, ev] at h3
      simp only [ev, List.length_replicate, Nat.add_zero] at h3
      omega
    rw [h2] at h1
    have hU' : (1 : Int) ≤ ((units n).length : Int) := by omega
    rcases Int.mul_eq_zero.1 h1.symm with h3 | h3
    · omega
    · exact h3
  · rw [List.getD_eq_getElem?_getD, List.getElem?_eq_none (by omega)]; rfl

/-- the norm of a product -/
theorem norm_first (hT : ∀ l k, l < g'.length → 1 ≤ k → (traceZ n (List.replicate l 0 ++ [1])).getD k 0 = 0) (hU : 1 ≤ (units n).length) (hg : 1 ≤ g'.length) (a b : List Int) :
    (normZ n (timesZ (cyc n) a b)).getD 0 0 = (normZ n a).getD 0 0 * (normZ n b).getD 0 0 := by
  have hgl : (cyc n).length - 1 = g'.length := by rw [O.split]; simp
  have hn : ∀ a, (normZ n a).length = g'.length := fun a => by
    have : ∀ (l : List Nat) (v : List Int), v.length = g'.length → (normL n l v a).length = g'.length := by
      intro l
      induction l with
      | nil => intro v h; exact h
      | cons t l ih => intro v h; exact ih _ (by rw [times_len, hgl])
    exact this _ _ (by unfold one; rw [redZ_len, hgl])
  rw [normZ_mul O]
  obtain ⟨s, hs, e⟩ := probe O.split (k := 0) (by omega)
  have hA := fixed_whole O hT hU (normZ n a) (hn a) fun r hr => norm_fixed O a hr
  have hB := fixed_whole O hT hU (normZ n b) (hn b) fun r hr => norm_fixed O b hr
  have hform : ∀ v : List Int, v.length = g'.length → (∀ k, 1 ≤ k → v.getD k 0 = 0) → ∀ t : Nat → Int, ev t v = v.getD 0 0 * t 0 := by
    intro v hv hz t
    match v, hv with
    | [], hv => simp at hv; omega
    | x :: v, hv =>
      rw [ev, List.getD_cons_zero]
      have : ev (fun i => t (i + 1)) v = 0 := by
        have h0 : ∀ (w : List Int) (t : Nat → Int), (∀ k, w.getD k 0 = 0) → ev t w = 0 := by
          intro w
          induction w with
          | nil => intro t _; rfl
          | cons y w ih =>
            intro t h
            have h1 := h 0
            rw [List.getD_cons_zero] at h1
            rw [ev, ih _ fun k => by have := h (k + 1); rwa [List.getD_cons_succ] at this, h1]; omega
        exact h0 v _ fun k => by have := hz (k + 1) (by omega); rwa [List.getD_cons_succ] at this
      rw [this]; omega
  rw [← e _ (by rw [times_len, hgl]), ev_times O.split hs, hform _ (hn a) hA, hform _ (hn b) hB]
  have hs0 : s 0 = 1 := by
    have h1 := e (1 :: List.replicate (g'.length - 1) 0) (by simp; omega)
    rw [ev, ev_zeros, List.getD_cons_zero] at h1
    omega
  simp only [Nat.add_zero, hs0, Int.mul_one]
end
end GhP
