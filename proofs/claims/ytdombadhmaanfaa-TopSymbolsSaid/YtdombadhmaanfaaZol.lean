/- Zolotarev: the sign of the order in which the multiples of a number stand, modulo n, is the sign of Gauss's count; signs multiply, for every n. -/
import Derived.Test.YtdombadhmaanfaaJac
namespace GhN

theorem sm_rev (f : Nat → Nat) (m : Nat) : sm (fun k => f (m - 1 - k)) m = sm f m :=
  sm_inj (s := fun k => m - 1 - k) (fun k hk => by omega) (fun k l hk hl h => by omega) f

theorem sm_succ_front (f : Nat → Nat) (m : Nat) : sm f (m + 1) = f 0 + sm (fun k => f (k + 1)) m := by
  induction m with
  | zero => simp [sm]
  | succ m ih => rw [sm, ih]; simp only [sm]; omega

/-- a symmetric table: only the diagonal counts, modulo 2 -/
theorem sym_diag (h : Nat → Nat → Nat) (N : Nat) (hs : ∀ i j, i < N → j < N → h i j = h j i) :
    sm (fun i => sm (fun j => h i j) N) N % 2 = sm (fun i => h i i) N % 2 := by
  induction N with
  | zero => rfl
  | succ N ih =>
    have e1 : sm (fun i => sm (fun j => h i j) (N + 1)) N = sm (fun i => sm (fun j => h i j) N) N + sm (fun i => h i N) N := by
      rw [← sm_add]; rfl
    have e2 : sm (fun j => h N j) N = sm (fun i => h i N) N := sm_congr (fun k hk => hs _ _ (by omega) (by omega))
    have := ih (fun i j hi hj => hs i j (by omega) (by omega))
    show (sm (fun i => sm (fun j => h i j) (N + 1)) N + (sm (fun j => h N j) N + h N N)) % 2 = (sm (fun i => h i i) N + h N N) % 2
    rw [e1, e2]
    omega

/-- how many pairs are the wrong way round -/
def inv (a n : Nat) : Nat := sm (fun i => sm (fun j => if (a * i) % n < (a * j) % n then 1 else 0) i) n

theorem sm_lt (f : Nat → Nat) (i n : Nat) (h : i ≤ n) : sm f i = sm (fun j => if j < i then f j else 0) n := by
  obtain ⟨d, rfl⟩ := Nat.exists_eq_add_of_le h
  induction d with
  | zero => exact sm_congr (fun k hk => by rw [if_pos (by simpa using hk)])
  | succ d ih =>
    rw [show i + (d + 1) = (i + d) + 1 by omega, sm, if_neg (by omega), ← ih (by omega)]; rfl

theorem inv_gs {a n : Nat} (hn : 0 < n) (hc : Nat.gcd a n = 1) : inv a n % 2 = gs a n % 2 := by
  obtain ⟨N, rfl⟩ : ∃ N, n = N + 1 := ⟨n - 1, by omega⟩
  let f : Nat → Nat → Nat := fun i j => if j < i ∧ (a * i) % (N + 1) < (a * j) % (N + 1) then 1 else 0
  have e0 : inv a (N + 1) = sm (fun i => sm (fun j => f i j) (N + 1)) (N + 1) := by
    unfold inv
    refine sm_congr (fun i hi => ?_)
    rw [sm_lt _ i (N + 1) (by omega)]
    refine sm_congr (fun j _ => ?_)
    simp only [f]
    by_cases h1 : j < i <;> simp [h1]
  have e1 : sm (fun i => sm (fun j => f i j) (N + 1)) (N + 1) = sm (fun i => sm (fun j => f (i + 1) (j + 1)) N) N := by
    rw [sm_succ_front]
    have z : sm (fun j => f 0 j) (N + 1) = 0 := by
      rw [show (fun j => f 0 j) = fun _ => 0 from funext (fun j => by simp [f])]; exact sm_zero _
    rw [z, Nat.zero_add]
    refine sm_congr (fun i _ => ?_)
    rw [sm_succ_front]
    have z2 : f (i + 1) 0 = 0 := by simp [f]
    rw [z2, Nat.zero_add]
  have neg : ∀ u, 0 < u → u ≤ N → (a * (N + 1 - u)) % (N + 1) = N + 1 - (a * u) % (N + 1) := fun u h0 hu =>
    mul_neg_mod (by omega) (not_dvd_of_cop hc h0 (by omega)) (by omega)
  have hsym : ∀ i j, i < N → j < N → f (i + 1) (N - 1 - j + 1) = f (j + 1) (N - 1 - i + 1) := by
    intro i j hi hj
    have n1 := neg (j + 1) (by omega) (by omega)
    have n2 := neg (i + 1) (by omega) (by omega)
    rw [show N + 1 - (j + 1) = N - 1 - j + 1 by omega] at n1
    rw [show N + 1 - (i + 1) = N - 1 - i + 1 by omega] at n2
    have l1 : (a * (j + 1)) % (N + 1) < N + 1 := Nat.mod_lt _ (by omega)
    have l2 : (a * (i + 1)) % (N + 1) < N + 1 := Nat.mod_lt _ (by omega)
    simp only [f, n1, n2]
    by_cases c : N - 1 - j + 1 < i + 1 ∧ (a * (i + 1)) % (N + 1) < N + 1 - (a * (j + 1)) % (N + 1)
    · rw [if_pos c, if_pos (by omega)]
    · rw [if_neg c, if_neg (by omega)]
  have e2 : sm (fun i => sm (fun j => f (i + 1) (j + 1)) N) N = sm (fun i => sm (fun j => f (i + 1) (N - 1 - j + 1)) N) N :=
    sm_congr (fun i _ => (sm_rev (fun j => f (i + 1) (j + 1)) N).symm)
  rw [e0, e1, e2, sym_diag (fun i j => f (i + 1) (N - 1 - j + 1)) N hsym]
  have e3 : sm (fun i => f (i + 1) (N - 1 - i + 1)) N = sm (fun i => f (N - 1 - i + 1) (i + 1)) N := by
    rw [← sm_rev]
    refine sm_congr (fun k hk => ?_)
    show f (N - 1 - k + 1) (N - 1 - (N - 1 - k) + 1) = _
    rw [show N - 1 - (N - 1 - k) = k by omega]
  have e4 : gs a (N + 1) = sm (fun i => f (N - 1 - i + 1) (i + 1)) N := by
    by_cases hN : N = 0
    · subst hN; simp [gs, sm]
    unfold gs
    rw [sm_lt _ ((N + 1) / 2) N (by omega)]
    refine sm_congr (fun k hk => ?_)
    have n2 := neg (k + 1) (by omega) (by omega)
    rw [show N + 1 - (k + 1) = N - 1 - k + 1 by omega] at n2
    have l2 : (a * (k + 1)) % (N + 1) < N + 1 := Nat.mod_lt _ (by omega)
    simp only [f, n2]
    by_cases c : k < (N + 1) / 2
    · rw [if_pos c]
      by_cases c2 : k + 1 < N - 1 - k + 1
      · by_cases c3 : N + 1 < 2 * ((a * (k + 1)) % (N + 1))
        · rw [if_pos c3, if_pos (by omega)]
        · rw [if_neg c3, if_neg (by omega)]
      · -- the middle of an even number stays where it is
        have hk2 : N + 1 - (k + 1) = k + 1 := by omega
        have := neg (k + 1) (by omega) (by omega)
        rw [hk2] at this
        rw [if_neg (by omega), if_neg (by omega)]
    · rw [if_neg c, if_neg (by omega)]
  rw [e3, e4]

/-- the sign of the order -/
def zs (a n : Nat) : Int := sgn (inv a n)

theorem zs_odd {a n : Nat} (hn : n % 2 = 1) (hc : Nat.gcd a n = 1) : zs a n = jn a n := by
  unfold zs jn; rw [if_pos hc]; exact sgn_mod (inv_gs (by omega) hc)

theorem sg_lt' {a n : Nat} (hc : Nat.gcd a n = 1) {k : Nat} (hk : k < n / 2) : sg a n k < n / 2 := by
  have h1 := not_dvd_of_cop hc (k := k + 1) (by omega) (by omega)
  have h2 : (a * (k + 1)) % n < n := Nat.mod_lt _ (by omega)
  unfold sg; split <;> omega

theorem sg_succ' {a n : Nat} (hc : Nat.gcd a n = 1) {k : Nat} (hk : k < n / 2) :
    sg a n k + 1 = if n < 2 * ((a * (k + 1)) % n) then n - (a * (k + 1)) % n else (a * (k + 1)) % n := by
  have h1 := not_dvd_of_cop hc (k := k + 1) (by omega) (by omega)
  have h2 : (a * (k + 1)) % n < n := Nat.mod_lt _ (by omega)
  unfold sg; split <;> omega

theorem sg_inj' {a n : Nat} (hc : Nat.gcd a n = 1) {k l : Nat} (hk : k < n / 2) (hl : l < n / 2) (h : sg a n k = sg a n l) : k = l := by
  have e : sg a n k + 1 = sg a n l + 1 := by rw [h]
  rw [sg_succ' hc hk, sg_succ' hc hl] at e
  have l1 : (a * (k + 1)) % n < n := Nat.mod_lt _ (by omega)
  have l2 : (a * (l + 1)) % n < n := Nat.mod_lt _ (by omega)
  have key : (a * (k + 1)) % n = (a * (l + 1)) % n → k = l := fun e => by
    have := eq_of_mul_mod hc (x := k + 1) (y := l + 1) (by omega) (by omega) e; omega
  by_cases hkl : k = l
  · exact hkl
  split at e <;> split at e
  · exact key (by omega)
  · exact (not_opp hc (x := k + 1) (y := l + 1) (by omega) (by omega) (by omega)).elim
  · exact (not_opp hc (x := k + 1) (y := l + 1) (by omega) (by omega) (by omega)).elim
  · exact key (by omega)

theorem gs_mul' {a b n : Nat} (ha : Nat.gcd a n = 1) (hb : Nat.gcd b n = 1) : gs (a * b) n % 2 = (gs a n + gs b n) % 2 := by
  have h1 : gs a n = sm (fun k => if n < 2 * ((a * (sg b n k + 1)) % n) then 1 else 0) (n / 2) := by
    unfold gs
    exact (sm_inj (s := sg b n) (fun k hk => sg_lt' hb hk) (fun k l hk hl h => sg_inj' hb hk hl h) (fun k => if n < 2 * ((a * (k + 1)) % n) then 1 else 0)).symm
  rw [h1]
  unfold gs
  rw [← sm_add]
  refine sm_mod2 (fun k hk => ?_)
  have hs := sg_succ' hb hk
  have hlt := sg_lt' hb hk
  have h0 := not_dvd_of_cop ha (k := sg b n k + 1) (by omega) (by omega)
  have hm : (a * b * (k + 1)) % n = (a * ((b * (k + 1)) % n)) % n := by rw [Nat.mul_assoc]; simp
  have hlt2 : (a * (sg b n k + 1)) % n < n := Nat.mod_lt _ (by omega)
  rw [hm]
  by_cases hc : n < 2 * ((b * (k + 1)) % n)
  · rw [if_pos hc] at hs
    have hr : (b * (k + 1)) % n < n := Nat.mod_lt _ (by omega)
    have e1 : (b * (k + 1)) % n = n - (sg b n k + 1) := by omega
    have hne : 2 * ((a * (sg b n k + 1)) % n) ≠ n := by
      intro e
      refine not_opp ha (x := sg b n k + 1) (y := sg b n k + 1) (by omega) ?_ (by omega)
      omega
    rw [if_pos hc, e1, mul_neg_mod (by omega) h0 (by omega)]
    split <;> split <;> omega
  · rw [if_neg hc] at hs
    rw [if_neg hc, ← hs]
    split <;> omega

theorem zs_mul {a b n : Nat} (hn : 0 < n) (ha : Nat.gcd a n = 1) (hb : Nat.gcd b n = 1) : zs (a * b) n = zs a n * zs b n := by
  unfold zs
  rw [← sgn_add]
  refine sgn_mod ?_
  have h1 := inv_gs hn ha
  have h2 := inv_gs hn hb
  have h3 := inv_gs hn (gcd_mul_one.2 ⟨ha, hb⟩)
  have h4 := gs_mul' ha hb
  omega

theorem inv_mod (a n : Nat) : inv (a % n) n = inv a n := by
  unfold inv
  refine sm_congr (fun i _ => sm_congr (fun j _ => ?_))
  simp

theorem zs_mod (a n : Nat) : zs (a % n) n = zs a n := by unfold zs; rw [inv_mod]

end GhN
