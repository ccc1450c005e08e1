/- Least factors, and what is so of all orders up to 60: values at 1, products; norms of z and 1 - z. -/
import Derived.Test.YtmljndjiipgpdaaPoE
namespace GhP
open Go.RowKit

/-- the least factor from k on -/
def lfac (n : Nat) : Nat → Nat → Nat
  | 0, k => k
  | f + 1, k => if n % k = 0 then k else lfac n f (k + 1)
/-- m without its factors p -/
def stripF (p : Nat) : Nat → Nat → Nat
  | 0, m => m
  | f + 1, m => if m % p = 0 then stripF p f (m / p) else m
/-- the prime of which n is a power, else 1; 0 of 1 -/
def pval (n : Nat) : Nat := if n = 1 then 0 else if 1 < stripF (lfac n n 2) n n then 1 else lfac n n 2
def sumL (L : List Int) : Int := L.foldl (· + ·) 0
def prodL (n : Nat) : Nat → List Int
  | 0 => [1]
  | d + 1 => if n % (d + 1) = 0 then mulZ ((prodL n d).length + (cyc (d + 1)).length - 1) (prodL n d) (cyc (d + 1)) else prodL n d
def xn1 (n : Nat) : List Int := -1 :: (List.replicate (n - 1) 0 ++ [1])
def degB (n : Nat) : Bool := sumL (cyc n) == (pval n : Int) && prodL n n == xn1 n && decide (lfac n n 2 ≤ n + 2) && (cyc n).getLast? == some 1
theorem deg_all : ∀ n, n < 61 → 1 ≤ n → degB n = true := by decide +kernel
def numZ (n : Nat) : List Int := (List.replicate (phi n) 0).set 1 1
def numL (n : Nat) : List Int := ((List.replicate (phi n) 0).set 0 1).set 1 (-1)
def measB (n : Nat) : Bool := (normZ n (numZ n)).getD 0 0 == 1 && (normZ n (numL n)).getD 0 0 == (pval n : Int) && decide (2 ≤ phi n)
theorem meas_all : ∀ n, n < 16 → 3 ≤ n → measB n = true := by decide +kernel

theorem lfac_step {n f k : Nat} (h : ¬ n % k = 0) : lfac n (f + 1) k = lfac n f (k + 1) := by rw [lfac, if_neg h]
theorem lfac_stop {n f k : Nat} (h : n % k = 0) : lfac n f k = k := by cases f with | zero => rfl | succ f => rw [lfac, if_pos h]
theorem strip_step {p f m : Nat} (h : m % p = 0) : stripF p (f + 1) m = stripF p f (m / p) := by rw [stripF, if_pos h]
theorem strip_stop {p f m : Nat} (h : ¬ m % p = 0) : stripF p f m = m := by cases f with | zero => rfl | succ f => rw [stripF, if_neg h]

theorem wl_normL {n : Nat} {g' : List Int} (O : Ord n g') {a b : List Int} (h : wl a = wl b) : ∀ (l : List Nat) (v w : List Int), (∀ t ∈ l, t ∈ units n) → wl v = wl w → wl (normL n l v a) = wl (normL n l w b)
  | [], _, _, _, hv => hv
  | t :: l, v, w, hl, hv => by
    have hG := O.good t (hl t (by simp))
    simp only [normL, List.foldl_cons]
    exact wl_normL O h l _ _ (fun u hu => hl u (by simp [hu])) (wl_times O.split hv (wl_turn O.split hG.pos h))
theorem wl_norm {n : Nat} {g' : List Int} (O : Ord n g') {a b : List Int} (h : wl a = wl b) : wl (normZ n a) = wl (normZ n b) := wl_normL O h _ _ _ (fun _ h => h) rfl
theorem wl_traceL {n : Nat} {g' : List Int} (O : Ord n g') {a b : List Int} (h : wl a = wl b) : ∀ (l : List Nat) (v w : List Int), (∀ t ∈ l, t ∈ units n) → wl v = wl w → wl (traceL n l v a) = wl (traceL n l w b)
  | [], _, _, _, hv => hv
  | t :: l, v, w, hl, hv => by
    have hG := O.good t (hl t (by simp))
    simp only [traceL, List.foldl_cons]
    exact wl_traceL O h l _ _ (fun u hu => hl u (by simp [hu])) (wl_add hv (wl_turn O.split hG.pos h))
theorem wl_trace {n : Nat} {g' : List Int} (O : Ord n g') {a b : List Int} (h : wl a = wl b) : wl (traceZ n a) = wl (traceZ n b) := wl_traceL O h _ _ _ (fun _ h => h) rfl
theorem wl_first {a b : List Int} (h : wl a = wl b) : wrap64 (a.getD 0 0) = wrap64 (b.getD 0 0) := by
  match a, b, h with
  | [], [], _ => rfl
  | [], _ :: _, h => simp [wl] at h
  | _ :: _, [], h => simp [wl] at h
  | x :: a, y :: b, h =>
    simp only [wl, List.map_cons, List.cons.injEq] at h
    simpa using h.1
/-- the norm of a product, as the program has it -/
theorem norm_prod {n : Nat} (h1 : 1 ≤ n) (h2 : n < 16) (a b : List Int) : wrap64 ((normZ n (wl (timesZ (cyc n) a b))).getD 0 0) = wrap64 (wrap64 ((normZ n a).getD 0 0) * wrap64 ((normZ n b).getD 0 0)) := by
  have O := ord_of h1 h2
  rw [wl_first (wl_norm O (wl_wl _)), norm_mul0 h1 h2]
  exact w_mul (w_w _).symm (w_w _).symm
theorem trace_sum {n : Nat} (h1 : 1 ≤ n) (h2 : n < 16) (a b : List Int) (h : a.length = b.length) : wrap64 ((traceZ n (wl (addZ a b))).getD 0 0) = wrap64 (wrap64 ((traceZ n a).getD 0 0) + wrap64 ((traceZ n b).getD 0 0)) := by
  have O := ord_of h1 h2
  rw [wl_first (wl_trace O (wl_wl _)), trace_add O a b h, addZ_get _ _ (by unfold traceZ; rw [traceL_len _ _ _ (by simp), traceL_len _ _ _ (by simp)])]
  exact w_add (w_w _).symm (w_w _).symm
end GhP
