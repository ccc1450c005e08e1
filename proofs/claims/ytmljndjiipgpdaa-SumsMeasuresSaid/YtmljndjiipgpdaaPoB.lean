/- Numbers of an order: product, sum, turning; their laws; the same with elements that wrap. -/
import Derived.Test.YtmljndjiipgpdaaPoA
namespace GhP
open Go.RowKit

def mulGo (b : List Int) : List Int → Nat → List Int → List Int
  | [], _, F => F
  | x :: a, i, F => mulGo b a (i + 1) (sub i F (-x) b)
/-- the product of two polynomials, in len places -/
def mulZ (len : Nat) (a b : List Int) : List Int := mulGo b a 0 (List.replicate len 0)
def timesZ (g a b : List Int) : List Int := redZ g (mulZ (a.length + b.length) a b)
def turnGo (n t : Nat) : List Int → Nat → List Int → List Int
  | [], _, F => F
  | x :: a, k, F => turnGo n t a (k + 1) (F.set (k * t % n) (F.getD (k * t % n) 0 + x))
/-- the powers of x, turned -/
def turnL (n t : Nat) (a : List Int) : List Int := turnGo n t a 0 (List.replicate n 0)
def turnZ (g : List Int) (n t : Nat) (a : List Int) : List Int := redZ g (turnL n t a)
def addZ (a b : List Int) : List Int := List.zipWith (· + ·) a b

theorem mulGo_len (b : List Int) : ∀ (a : List Int) (i : Nat) (F : List Int), (mulGo b a i F).length = F.length
  | [], _, _ => rfl
  | x :: a, i, F => by rw [mulGo, mulGo_len b a, sub_len]
theorem mulZ_len (len : Nat) (a b : List Int) : (mulZ len a b).length = len := by rw [mulZ, mulGo_len]; simp
theorem ev_mulGo (b : List Int) (s : Nat → Int) : ∀ (a : List Int) (i : Nat) (F : List Int), i + a.length + b.length ≤ F.length + 1 → ev s (mulGo b a i F) = ev s F + ev (fun k => ev (fun j => s (i + k + j)) b) a
  | [], _, _, _ => by rw [mulGo, ev]; omega
  | x :: a, i, F, h => by
    simp only [List.length_cons] at h
    rw [mulGo, ev_mulGo b s a (i + 1) _ (by rw [sub_len]; omega), ev_sub i F _ b s (by omega), ev]
    have e : (fun k => ev (fun j => s (i + 1 + k + j)) b) = fun k => ev (fun j => s (i + (k + 1) + j)) b := by
      funext k; congr 1; funext j; congr 1; omega
    rw [e, Int.neg_mul]
    simp only [Nat.add_zero]
    omega
theorem ev_mulZ {len : Nat} {a b : List Int} (s : Nat → Int) (h : a.length + b.length ≤ len + 1) : ev s (mulZ len a b) = ev (fun i => ev (fun j => s (i + j)) b) a := by
  unfold mulZ
  rw [ev_mulGo b s a 0 _ (by simp; omega), ev_zeros]
  simp only [Nat.zero_add]
  omega
theorem ev_times {g g' : List Int} {s : Nat → Int} (hg : g = g' ++ [1]) (h : Rec g s) (a b : List Int) : ev s (timesZ g a b) = ev (fun i => ev (fun j => s (i + j)) b) a := by
  unfold timesZ; rw [ev_red hg h, ev_mulZ s (by omega)]
theorem times_len (g a b : List Int) : (timesZ g a b).length = g.length - 1 := redZ_len _ _
/-- the program's product lies in one place less -/
theorem times_less {g g' : List Int} (hg : g = g' ++ [1]) {len : Nat} (a b : List Int) (h : a.length + b.length ≤ len + 1) : redZ g (mulZ len a b) = timesZ g a b := by
  refine ev_uniq hg (by rw [redZ_len, hg]; simp) (by rw [times_len, hg]; simp) fun s hs => ?_
  rw [ev_times hg hs, ev_red hg hs, ev_mulZ s h]

theorem ev_set : ∀ (F : List Int) (p : Nat) (x : Int) (s : Nat → Int), p < F.length → ev s (F.set p (F.getD p 0 + x)) = ev s F + x * s p
  | [], p, x, s, h => by simp at h
  | y :: F, 0, x, s, _ => by
    simp only [List.set_cons_zero, ev, List.getD_cons_zero, Int.add_mul]; omega
  | y :: F, p + 1, x, s, h => by
    simp only [List.set_cons_succ, ev, List.getD_cons_succ]
    rw [ev_set F p x _ (by simpa using h)]; omega
theorem turnGo_len (n t : Nat) : ∀ (a : List Int) (k : Nat) (F : List Int), (turnGo n t a k F).length = F.length
  | [], _, _ => rfl
  | x :: a, k, F => by rw [turnGo, turnGo_len n t a]; simp
theorem ev_turnGo {n t : Nat} (hn : 0 < n) (s : Nat → Int) : ∀ (a : List Int) (k : Nat) (F : List Int), F.length = n → ev s (turnGo n t a k F) = ev s F + ev (fun i => s ((k + i) * t % n)) a
  | [], _, _, _ => by rw [turnGo, ev]; omega
  | x :: a, k, F, h => by
    rw [turnGo, ev_turnGo hn s a (k + 1) _ (by simpa using h), ev_set F _ x s (by rw [h]; exact Nat.mod_lt _ hn), ev]
    have e : (fun i => s ((k + 1 + i) * t % n)) = fun i => s ((k + (i + 1)) * t % n) := by funext i; congr 3; omega
    rw [e]
    simp only [Nat.add_zero]
    omega
theorem ev_turnL {n t : Nat} (hn : 0 < n) (s : Nat → Int) (a : List Int) : ev s (turnL n t a) = ev (fun i => s (i * t % n)) a := by
  unfold turnL
  rw [ev_turnGo hn s a 0 _ (by simp), ev_zeros]
  simp only [Nat.zero_add]
  omega
theorem ev_turn {g g' : List Int} {n t : Nat} {s : Nat → Int} (hg : g = g' ++ [1]) (hn : 0 < n) (h : Rec g s) (a : List Int) : ev s (turnZ g n t a) = ev (fun i => s (i * t % n)) a := by
  unfold turnZ; rw [ev_red hg h, ev_turnL hn]
theorem turn_len (g : List Int) (n t : Nat) (a : List Int) : (turnZ g n t a).length = g.length - 1 := redZ_len _ _

theorem ev_addZ : ∀ (a b : List Int) (s : Nat → Int), a.length = b.length → ev s (addZ a b) = ev s a + ev s b
  | [], [], s, _ => rfl
  | [], _ :: _, s, h => by simp at h
  | _ :: _, [], s, h => by simp at h
  | x :: a, y :: b, s, h => by
    have := ev_addZ a b (fun i => s (i + 1)) (by simpa using h)
    unfold addZ at this ⊢
    rw [List.zipWith_cons_cons, ev, ev, ev, this, Int.add_mul]; omega
theorem addZ_len {a b : List Int} (h : a.length = b.length) : (addZ a b).length = b.length := by unfold addZ; rw [List.length_zipWith]; omega

section
variable {g g' : List Int} (hg : g = g' ++ [1])
include hg
theorem red_uniq {A B : List Int} (hA : A.length = g.length - 1) (hB : B.length = g.length - 1) (h : ∀ s, Rec g s → ev s A = ev s B) : A = B :=
  ev_uniq hg (by rw [hA, hg]; simp) (by rw [hB, hg]; simp) h

theorem times_comm (a b : List Int) : timesZ g a b = timesZ g b a :=
  red_uniq hg (times_len ..) (times_len ..) fun s hs => by
    rw [ev_times hg hs, ev_times hg hs, ev_swap]
    refine ev_congr fun i _ => ev_congr fun j _ => ?_
    rw [Nat.add_comm]
theorem times_assoc (a b c : List Int) : timesZ g (timesZ g a b) c = timesZ g a (timesZ g b c) :=
  red_uniq hg (times_len ..) (times_len ..) fun s hs => by
    rw [ev_times hg hs, ev_times hg (hs.against c), ev_times hg hs]
    refine ev_congr fun i _ => ?_
    rw [ev_times hg (hs.shift i)]
    refine ev_congr fun j _ => ev_congr fun k _ => ?_
    rw [Nat.add_assoc]
theorem times_right (a b c : List Int) : timesZ g (timesZ g a b) c = timesZ g (timesZ g a c) b := by
  rw [times_assoc hg, times_comm hg b c, ← times_assoc hg]
theorem times_four (a b c d : List Int) : timesZ g (timesZ g a b) (timesZ g c d) = timesZ g (timesZ g a c) (timesZ g b d) := by
  rw [times_assoc hg, ← times_assoc hg b c d, times_comm hg b c, times_assoc hg c b d, ← times_assoc hg]
end

/-- what turning by t asks of an order: x^n is 1, and the polynomial divides itself, turned -/
structure Good (g : List Int) (n t : Nat) : Prop where
  pos : 0 < n
  per : redZ g (-1 :: (List.replicate (n - 1) 0 ++ [1])) = List.replicate (g.length - 1) 0
  inv : turnZ g n t g = List.replicate (g.length - 1) 0

section
variable {g g' : List Int} {n t : Nat} {s : Nat → Int} (hg : g = g' ++ [1])
include hg
theorem per1 (G : Good g n t) (h : Rec g s) (j : Nat) : s (n + j) = s j := by
  have h2 := h.shift j
  have e := ev_red hg h2 (-1 :: (List.replicate (n - 1) 0 ++ [1]))
  rw [G.per, ev_zeros, ev, ev_app, ev_zeros] at e
  simp only [ev, List.length_replicate, Nat.add_zero] at e
  have hn := G.pos
  rw [show j + (n - 1 + 1) = n + j by omega] at e
  omega
theorem perM (G : Good g n t) (h : Rec g s) (j : Nat) : ∀ m, s (m * n + j) = s j
  | 0 => by rw [Nat.zero_mul, Nat.zero_add]
  | m + 1 => by
    have := perM G h j m
    have e := per1 hg G h (m * n + j)
    rw [show n + (m * n + j) = (m + 1) * n + j by rw [Nat.add_mul]; omega] at e
    rw [e, this]
theorem per (G : Good g n t) (h : Rec g s) (i : Nat) : s (i % n) = s i := by
  have := perM hg G h (i % n) (i / n)
  have e : i / n * n + i % n = i := by rw [Nat.mul_comm]; exact Nat.div_add_mod i n
  rw [e] at this
  exact this.symm
theorem Rec.turned (G : Good g n t) (h : Rec g s) : Rec g (fun i => s (i * t % n)) := fun j => by
  have h2 := h.shift (j * t)
  have e := ev_turn (t := t) hg G.pos h2 g
  rw [G.inv, ev_zeros] at e
  rw [e]
  refine ev_congr fun l _ => ?_
  simp only
  rw [per hg G h, per hg G h2, Nat.add_mul, Nat.add_comm]
theorem turn_times (G : Good g n t) (a b : List Int) : turnZ g n t (timesZ g a b) = timesZ g (turnZ g n t a) (turnZ g n t b) :=
  red_uniq hg (turn_len ..) (times_len ..) fun s hs => by
    rw [ev_turn hg G.pos hs, ev_times hg (hs.turned hg G), ev_times hg hs, ev_turn hg G.pos (hs.against _)]
    refine ev_congr fun i _ => ?_
    rw [ev_turn hg G.pos (hs.shift _)]
    refine ev_congr fun j _ => ?_
    rw [per hg G hs, Nat.add_mul]
    have h3 := per hg G (hs.shift (i * t % n)) (j * t)
    rw [h3, Nat.add_comm (i * t % n), ← per hg G hs (j * t + i * t % n), Nat.add_mod_mod, per hg G hs, Nat.add_comm]
theorem turn_add (G : Good g n t) (a b : List Int) (h : a.length = b.length) : turnZ g n t (addZ a b) = addZ (turnZ g n t a) (turnZ g n t b) :=
  red_uniq hg (turn_len ..) (by rw [addZ_len (by rw [turn_len, turn_len]), turn_len]) fun s hs => by
    rw [ev_turn hg G.pos hs, ev_addZ _ _ _ h, ev_addZ _ _ _ (by rw [turn_len, turn_len]), ev_turn hg G.pos hs, ev_turn hg G.pos hs]
theorem turn_turn {u : Nat} (G : Good g n t) (hu : Good g n u) (a : List Int) : turnZ g n u (turnZ g n t a) = turnZ g n (u * t % n) a :=
  red_uniq hg (turn_len ..) (turn_len ..) fun s hs => by
    rw [ev_turn hg G.pos hs, ev_turn hg G.pos (hs.turned hg hu), ev_turn hg G.pos hs]
    refine ev_congr fun i _ => ?_
    congr 1
    rw [Nat.mod_mul_mod, Nat.mul_mod_mod, Nat.mul_assoc, Nat.mul_comm t u]
theorem turn_mod (G : Good g n t) (a : List Int) : turnZ g n (t % n) a = turnZ g n t a :=
  red_uniq hg (turn_len ..) (turn_len ..) fun s hs => by
    rw [ev_turn hg G.pos hs, ev_turn hg G.pos hs]
    refine ev_congr fun i _ => ?_
    rw [Nat.mul_mod_mod]
end

/-! elements that wrap -/
def wl (L : List Int) : List Int := L.map wrap64
theorem wl_len (L : List Int) : (wl L).length = L.length := List.length_map _
theorem w_dvd (a : Int) : ∃ q, wrap64 a = a + 18446744073709551616 * q := ⟨-((a + 9223372036854775808) / 18446744073709551616), by unfold wrap64; omega⟩
theorem w_of {a b : Int} (q : Int) (h : a = b + 18446744073709551616 * q) : wrap64 a = wrap64 b := by subst h; unfold wrap64; omega
theorem w_w (a : Int) : wrap64 (wrap64 a) = wrap64 a := by unfold wrap64; omega
theorem w_add {a b c d : Int} (h : wrap64 a = wrap64 b) (k : wrap64 c = wrap64 d) : wrap64 (a + c) = wrap64 (b + d) := by unfold wrap64 at *; omega
theorem w_sub {a b c d : Int} (h : wrap64 a = wrap64 b) (k : wrap64 c = wrap64 d) : wrap64 (a - c) = wrap64 (b - d) := by unfold wrap64 at *; omega
theorem w_mul {a b c d : Int} (h : wrap64 a = wrap64 b) (k : wrap64 c = wrap64 d) : wrap64 (a * c) = wrap64 (b * d) := by
  obtain ⟨p, hp⟩ : ∃ p, a = b + 18446744073709551616 * p := ⟨(a - b) / 18446744073709551616, by unfold wrap64 at h; omega⟩
  obtain ⟨q, hq⟩ : ∃ q, c = d + 18446744073709551616 * q := ⟨(c - d) / 18446744073709551616, by unfold wrap64 at k; omega⟩
  refine w_of (p * c + b * q) ?_
  rw [hp, Int.add_mul, hq, Int.mul_add, Int.mul_add, Int.mul_add, Int.mul_add]
  simp only [Int.mul_assoc, Int.mul_left_comm b 18446744073709551616]
  omega
theorem w_ev : ∀ {L M : List Int} {s t : Nat → Int}, wl L = wl M → (∀ i, wrap64 (s i) = wrap64 (t i)) → wrap64 (ev s L) = wrap64 (ev t M)
  | [], [], _, _, _, _ => rfl
  | [], _ :: _, _, _, h, _ => by simp [wl] at h
  | _ :: _, [], _, _, h, _ => by simp [wl] at h
  | x :: L, y :: M, s, t, h, hs => by
    simp only [wl, List.map_cons, List.cons.injEq] at h
    rw [ev, ev]
    exact w_add (w_mul h.1 (hs 0)) (w_ev (L := L) (M := M) h.2 fun i => hs (i + 1))
theorem wl_uniq {g g' A B : List Int} (hg : g = g' ++ [1]) (hA : A.length = g.length - 1) (hB : B.length = g.length - 1) (h : ∀ s, Rec g s → wrap64 (ev s A) = wrap64 (ev s B)) : wl A = wl B := by
  have hA : A.length = g'.length := by rw [hA, hg]; simp
  have hB : B.length = g'.length := by rw [hB, hg]; simp
  apply List.ext_getElem?
  intro k
  by_cases hk : k < g'.length
  · obtain ⟨s, hs, e⟩ := probe hg hk
    have hr := h s hs
    rw [e A hA, e B hB, List.getD_eq_getElem?_getD, List.getD_eq_getElem?_getD, List.getElem?_eq_getElem (by omega), List.getElem?_eq_getElem (by omega)] at hr
    unfold wl
    rw [List.getElem?_map, List.getElem?_map, List.getElem?_eq_getElem (by omega), List.getElem?_eq_getElem (by omega)]
    simpa using hr
  · unfold wl
    rw [List.getElem?_map, List.getElem?_map, List.getElem?_eq_none (by omega), List.getElem?_eq_none (by omega)]
theorem wl_wl (L : List Int) : wl (wl L) = wl L := by unfold wl; rw [List.map_map]; refine List.map_congr_left fun x _ => w_w x

section
variable {g g' : List Int} (hg : g = g' ++ [1])
include hg
theorem wl_times {a b c d : List Int} (h : wl a = wl b) (k : wl c = wl d) : wl (timesZ g a c) = wl (timesZ g b d) :=
  wl_uniq hg (times_len ..) (times_len ..) fun s hs => by
    rw [ev_times hg hs, ev_times hg hs]
    exact w_ev h fun i => w_ev k fun j => rfl
theorem wl_red {a b : List Int} (h : wl a = wl b) : wl (redZ g a) = wl (redZ g b) :=
  wl_uniq hg (redZ_len ..) (redZ_len ..) fun s hs => by
    rw [ev_red hg hs, ev_red hg hs]
    exact w_ev h fun i => rfl
theorem wl_turn {n t : Nat} (hn : 0 < n) {a b : List Int} (h : wl a = wl b) : wl (turnZ g n t a) = wl (turnZ g n t b) :=
  wl_uniq hg (turn_len ..) (turn_len ..) fun s hs => by
    rw [ev_turn hg hn hs, ev_turn hg hn hs]
    exact w_ev h fun i => rfl
end
theorem wl_add : ∀ {a b c d : List Int}, wl a = wl b → wl c = wl d → wl (addZ a c) = wl (addZ b d)
  | [], [], c, d, _, _ => by simp [addZ]
  | [], _ :: _, _, _, h, _ => by simp [wl] at h
  | _ :: _, [], _, _, h, _ => by simp [wl] at h
  | _ :: _, _ :: _, [], [], _, _ => by simp [addZ]
  | _ :: _, _ :: _, [], _ :: _, _, k => by simp [wl] at k
  | _ :: _, _ :: _, _ :: _, [], _, k => by simp [wl] at k
  | x :: a, y :: b, z :: c, u :: d, h, k => by
    simp only [wl, List.map_cons, List.cons.injEq] at h k
    have := wl_add (a := a) (b := b) (c := c) (d := d) h.2 k.2
    simp only [wl, addZ, List.zipWith_cons_cons, List.map_cons] at this ⊢
    rw [this, w_add h.1 k.1]
end GhP
