/- The symbol of Jacobi by the lemma of Gauss: how many of the first half, multiplied and reduced, lie above half. It multiplies in its upper number; its value at 2; reciprocity by points in a rectangle; it multiplies in its lower number. -/
import Derived.Test.YtmmgidhaakkaoaaSm
namespace GhN

theorem sm_mod2 {f g : Nat → Nat} {m : Nat} (h : ∀ k, k < m → f k % 2 = g k % 2) : sm f m % 2 = sm g m % 2 := by
  induction m with
  | zero => rfl
  | succ m ih => simp only [sm]; have := ih (fun k hk => h k (by omega)); have := h m (by omega); omega

/-- how many of the first half of n, times a and reduced, lie above half of n -/
def gs (a n : Nat) : Nat := sm (fun k => if n < 2 * ((a * (k + 1)) % n) then 1 else 0) (n / 2)

def sgn (k : Nat) : Int := if k % 2 = 0 then 1 else -1

theorem sgn_add (a b : Nat) : sgn (a + b) = sgn a * sgn b := by
  unfold sgn
  rcases Nat.mod_two_eq_zero_or_one a with h | h <;> rcases Nat.mod_two_eq_zero_or_one b with h' | h' <;>
    simp [h, h', Nat.add_mod]

theorem sgn_mod {a b : Nat} (h : a % 2 = b % 2) : sgn a = sgn b := by unfold sgn; rw [h]

/-- the symbol of a number that is not negative -/
def jn (a n : Nat) : Int := if Nat.gcd a n = 1 then sgn (gs a n) else 0

theorem gs_mod (a n : Nat) : gs (a % n) n = gs a n := by
  unfold gs; refine sm_congr (fun k _ => ?_); simp

theorem gcd_mod_l (a n : Nat) : Nat.gcd (a % n) n = Nat.gcd a n := by
  rw [← Nat.gcd_rec, Nat.gcd_comm]

theorem jn_mod (a n : Nat) : jn (a % n) n = jn a n := by
  unfold jn; simp only [gs_mod, gcd_mod_l]

theorem jn_congr {a b n : Nat} (h : a % n = b % n) : jn a n = jn b n := by
  rw [← jn_mod a, h, jn_mod]

theorem jn_cases (a n : Nat) : jn a n = 0 ∨ jn a n = 1 ∨ jn a n = -1 := by
  unfold jn sgn
  split
  · split <;> simp
  · simp

theorem jn_zero_iff (a n : Nat) : jn a n = 0 ↔ Nat.gcd a n ≠ 1 := by
  unfold jn sgn
  constructor
  · intro h e; rw [if_pos e] at h; split at h <;> simp at h
  · intro h; rw [if_neg h]

theorem jn_one (a : Nat) : jn a 1 = 1 := by simp [jn, gs, sm, sgn]

theorem not_dvd_of_cop {a n k : Nat} (hc : Nat.gcd a n = 1) (h0 : 0 < k) (hk : k < n) : (a * k) % n ≠ 0 := by
  intro h
  have hd : n ∣ a * k := Nat.dvd_of_mod_eq_zero h
  have : n ∣ k := Nat.Coprime.dvd_of_dvd_mul_left (Nat.Coprime.symm hc) hd
  have := Nat.le_of_dvd h0 this
  omega

theorem two_ne_odd {r n : Nat} (hn : n % 2 = 1) : 2 * r ≠ n := by omega

/-- the place to which a number of the first half goes -/
def sg (a n k : Nat) : Nat := (if n < 2 * ((a * (k + 1)) % n) then n - (a * (k + 1)) % n else (a * (k + 1)) % n) - 1

theorem sg_lt {a n : Nat} (hn : n % 2 = 1) (hc : Nat.gcd a n = 1) {k : Nat} (hk : k < n / 2) : sg a n k < n / 2 := by
  have h1 := not_dvd_of_cop hc (k := k + 1) (by omega) (by omega)
  have h2 : (a * (k + 1)) % n < n := Nat.mod_lt _ (by omega)
  unfold sg; split <;> omega

theorem sg_succ {a n : Nat} (hn : n % 2 = 1) (hc : Nat.gcd a n = 1) {k : Nat} (hk : k < n / 2) :
    sg a n k + 1 = if n < 2 * ((a * (k + 1)) % n) then n - (a * (k + 1)) % n else (a * (k + 1)) % n := by
  have h1 := not_dvd_of_cop hc (k := k + 1) (by omega) (by omega)
  have h2 : (a * (k + 1)) % n < n := Nat.mod_lt _ (by omega)
  unfold sg; split <;> omega

theorem eq_of_mul_mod {a n x y : Nat} (hc : Nat.gcd a n = 1) (hx : x < n) (hy : y < n) (h : (a * x) % n = (a * y) % n) : x = y := by
  have key : ∀ u v : Nat, u ≤ v → v < n → (a * u) % n = (a * v) % n → u = v := by
    intro u v huv hv e
    by_cases e0 : u = v
    · exact e0
    · have h1 : (a * (v - u)) % n = 0 := by
        rw [Nat.mul_sub]
        exact Nat.sub_mod_eq_zero_of_mod_eq e.symm
      exact absurd h1 (not_dvd_of_cop hc (by omega) (by omega))
  rcases Nat.le_total x y with hxy | hxy
  · exact key x y hxy hy h
  · exact (key y x hxy hx h.symm).symm

theorem not_opp {a n x y : Nat} (hc : Nat.gcd a n = 1) (h0 : 0 < x) (hxy : x + y < n) (h : (a * x) % n + (a * y) % n = n) : False := by
  have : (a * (x + y)) % n = 0 := by
    rw [Nat.mul_add, Nat.add_mod, h, Nat.mod_self]
  exact not_dvd_of_cop hc (by omega) hxy this

theorem sg_inj {a n : Nat} (hn : n % 2 = 1) (hc : Nat.gcd a n = 1) {k l : Nat} (hk : k < n / 2) (hl : l < n / 2) (h : sg a n k = sg a n l) : k = l := by
  have e : sg a n k + 1 = sg a n l + 1 := by rw [h]
  rw [sg_succ hn hc hk, sg_succ hn hc hl] at e
  have h2 : (a * (k + 1)) % n < n := Nat.mod_lt _ (by omega)
  have h3 : (a * (l + 1)) % n < n := Nat.mod_lt _ (by omega)
  have key : ∀ e' : (a * (k + 1)) % n = (a * (l + 1)) % n, k = l := fun e' => by
    have := eq_of_mul_mod hc (x := k + 1) (y := l + 1) (by omega) (by omega) e'
    omega
  split at e <;> split at e
  · exact key (by omega)
  · exact (not_opp hc (x := k + 1) (y := l + 1) (by omega) (by omega) (by omega)).elim
  · exact (not_opp hc (x := k + 1) (y := l + 1) (by omega) (by omega) (by omega)).elim
  · exact key (by omega)

theorem mul_neg_mod {a n s : Nat} (hs : s ≤ n) (h0 : (a * s) % n ≠ 0) (hn : 0 < n) : (a * (n - s)) % n = n - (a * s) % n := by
  have h1 : a * (n - s) + a * s = n * a := by rw [← Nat.mul_add, Nat.sub_add_cancel hs, Nat.mul_comm]
  have h2 : ((a * (n - s)) % n + (a * s) % n) % n = 0 := by
    rw [← Nat.add_mod, h1, Nat.mul_mod_right]
  have h3 : (a * (n - s)) % n < n := Nat.mod_lt _ hn
  have h4 : (a * s) % n < n := Nat.mod_lt _ hn
  by_cases h5 : (a * (n - s)) % n + (a * s) % n < n
  · rw [Nat.mod_eq_of_lt h5] at h2; omega
  · have : ((a * (n - s)) % n + (a * s) % n) % n = (a * (n - s)) % n + (a * s) % n - n := by
      rw [Nat.mod_eq_sub_mod (by omega)]; exact Nat.mod_eq_of_lt (by omega)
    omega

theorem gs_mul {a b n : Nat} (hn : n % 2 = 1) (ha : Nat.gcd a n = 1) (hb : Nat.gcd b n = 1) : gs (a * b) n % 2 = (gs a n + gs b n) % 2 := by
  have h1 : gs a n = sm (fun k => if n < 2 * ((a * (sg b n k + 1)) % n) then 1 else 0) (n / 2) := by
    unfold gs
    exact (sm_inj (s := sg b n) (fun k hk => sg_lt hn hb hk) (fun k l hk hl h => sg_inj hn hb hk hl h) (fun k => if n < 2 * ((a * (k + 1)) % n) then 1 else 0)).symm
  rw [h1]
  unfold gs
  rw [← sm_add]
  refine sm_mod2 (fun k hk => ?_)
  have hs := sg_succ hn hb hk
  have hlt := sg_lt hn hb hk
  have h0 := not_dvd_of_cop ha (k := sg b n k + 1) (by omega) (by omega)
  have hm : (a * b * (k + 1)) % n = (a * ((b * (k + 1)) % n)) % n := by rw [Nat.mul_assoc]; simp
  have hlt2 : (a * (sg b n k + 1)) % n < n := Nat.mod_lt _ (by omega)
  rw [hm]
  by_cases hc : n < 2 * ((b * (k + 1)) % n)
  · rw [if_pos hc] at hs
    have hr : (b * (k + 1)) % n < n := Nat.mod_lt _ (by omega)
    have e1 : (b * (k + 1)) % n = n - (sg b n k + 1) := by omega
    rw [if_pos hc, e1, mul_neg_mod (by omega) h0 (by omega)]
    split <;> split <;> omega
  · rw [if_neg hc] at hs
    rw [if_neg hc, ← hs]
    split <;> omega

theorem gcd_mul_one {a b n : Nat} : Nat.gcd (a * b) n = 1 ↔ Nat.gcd a n = 1 ∧ Nat.gcd b n = 1 :=
  Nat.coprime_mul_iff_left

theorem jn_mul (a b : Nat) {n : Nat} (hn : n % 2 = 1) : jn (a * b) n = jn a n * jn b n := by
  unfold jn
  by_cases ha : Nat.gcd a n = 1
  · by_cases hb : Nat.gcd b n = 1
    · rw [if_pos (gcd_mul_one.2 ⟨ha, hb⟩), if_pos ha, if_pos hb, ← sgn_add]
      exact sgn_mod (gs_mul hn ha hb)
    · rw [if_neg hb, if_neg (fun h => hb (gcd_mul_one.1 h).2), Int.mul_zero]
  · rw [if_neg ha, if_neg (fun h => ha (gcd_mul_one.1 h).1), Int.zero_mul]

theorem gs_two_aux (n m : Nat) (h : m ≤ n / 2) : sm (fun k => if n < 2 * ((2 * (k + 1)) % n) then 1 else 0) m = if n % 2 = 1 then m - min m (n / 4) else sm (fun k => if n < 2 * ((2 * (k + 1)) % n) then 1 else 0) m := by
  by_cases hn : n % 2 = 1
  · rw [if_pos hn]
    induction m with
    | zero => simp [sm]
    | succ m ih =>
      simp only [sm]
      rw [ih (by omega), Nat.mod_eq_of_lt (by omega : 2 * (m + 1) < n)]
      split <;> omega
  · rw [if_neg hn]

theorem jn_two {n : Nat} (hn : n % 2 = 1) : jn 2 n = if n % 8 = 1 ∨ n % 8 = 7 then 1 else -1 := by
  have hg : Nat.gcd 2 n = 1 := by
    rw [Nat.gcd_rec, hn]; rfl
  have h : gs 2 n = n / 2 - n / 4 := by
    unfold gs; rw [gs_two_aux n _ (Nat.le_refl _), if_pos hn]; omega
  unfold jn
  rw [if_pos hg, h]
  unfold sgn
  split <;> split <;> omega

/-- the sum of the whole parts -/
def fl (a n : Nat) : Nat := sm (fun k => a * (k + 1) / n) (n / 2)

theorem gs_fl {a n : Nat} (hn : n % 2 = 1) (ha : a % 2 = 1) (hc : Nat.gcd a n = 1) : gs a n % 2 = fl a n % 2 := by
  have h1 : sm (fun k => a * (k + 1)) (n / 2) = n * fl a n + sm (fun k => (a * (k + 1)) % n) (n / 2) := by
    unfold fl; rw [← sm_mul, ← sm_add]
    exact sm_congr (fun k _ => (Nat.div_add_mod _ _).symm)
  have h2 : sm (fun k => (a * (k + 1)) % n) (n / 2) % 2 = (sm (fun k => sg a n k + 1) (n / 2) + gs a n) % 2 := by
    unfold gs; rw [← sm_add]
    refine sm_mod2 (fun k hk => ?_)
    have hs := sg_succ hn hc hk
    have hr : (a * (k + 1)) % n < n := Nat.mod_lt _ (by omega)
    rw [hs]
    split <;> omega
  have h3 : sm (fun k => sg a n k + 1) (n / 2) = sm (fun k => k + 1) (n / 2) :=
    sm_inj (s := sg a n) (fun k hk => sg_lt hn hc hk) (fun k l hk hl h => sg_inj hn hc hk hl h) (fun k => k + 1)
  rw [h3] at h2
  rw [sm_mul] at h1
  generalize sm (fun k => k + 1) (n / 2) = S at *
  generalize sm (fun k => (a * (k + 1)) % n) (n / 2) = R at *
  have e1 : a * S % 2 = S % 2 := by rw [Nat.mul_mod, ha]; omega
  have e2 : n * fl a n % 2 = fl a n % 2 := by rw [Nat.mul_mod, hn]; omega
  omega

theorem count_le (n X M : Nat) (hn : 0 < n) : sm (fun l => if n * (l + 1) ≤ X then 1 else 0) M = min M (X / n) := by
  induction M with
  | zero => simp [sm]
  | succ M ih =>
    simp only [sm, ih]
    have : n * (M + 1) ≤ X ↔ M + 1 ≤ X / n := by rw [Nat.le_div_iff_mul_le hn, Nat.mul_comm]
    by_cases h : n * (M + 1) ≤ X
    · rw [if_pos h]; have := this.1 h; omega
    · rw [if_neg h]; have : ¬ M + 1 ≤ X / n := fun h' => h (this.2 h'); omega

theorem fl_count {a n : Nat} (hn : n % 2 = 1) (ha : a % 2 = 1) (hc : Nat.gcd a n = 1) :
    fl a n = sm (fun k => sm (fun l => if n * (l + 1) < a * (k + 1) then 1 else 0) (a / 2)) (n / 2) := by
  unfold fl
  refine sm_congr (fun k hk => ?_)
  have h1 : sm (fun l => if n * (l + 1) < a * (k + 1) then 1 else 0) (a / 2) = sm (fun l => if n * (l + 1) ≤ a * (k + 1) then 1 else 0) (a / 2) := by
    refine sm_congr (fun l _ => ?_)
    have hne : n * (l + 1) ≠ a * (k + 1) := fun e =>
      not_dvd_of_cop hc (k := k + 1) (by omega) (by omega) (by rw [← e, Nat.mul_mod_right])
    by_cases h : n * (l + 1) < a * (k + 1)
    · rw [if_pos h, if_pos (by omega)]
    · rw [if_neg h, if_neg (by omega)]
  rw [h1, count_le _ _ _ (by omega)]
  have : a * (k + 1) / n ≤ a / 2 := by
    rw [← Nat.lt_succ_iff, Nat.div_lt_iff_lt_mul (by omega)]
    have h2 : a * (k + 1) ≤ a * (n / 2) := Nat.mul_le_mul_left _ (by omega)
    have h3 : a = 2 * (a / 2) + 1 := by omega
    have h4 : n = 2 * (n / 2) + 1 := by omega
    generalize a / 2 = u at *
    generalize n / 2 = v at *
    subst h3 h4
    have : (2 * u + 1) * v = 2 * (u * v) + v := by rw [Nat.add_mul, Nat.one_mul, Nat.mul_assoc]
    have : u.succ * (2 * v + 1) = 2 * (u * v) + 2 * v + u + 1 := by
      rw [Nat.succ_mul, Nat.mul_add, Nat.mul_one, Nat.mul_left_comm]; omega
    omega
  omega

theorem fl_both {a n : Nat} (hn : n % 2 = 1) (ha : a % 2 = 1) (hc : Nat.gcd a n = 1) : fl a n + fl n a = (a / 2) * (n / 2) := by
  rw [fl_count hn ha hc, fl_count ha hn (by rw [Nat.gcd_comm]; exact hc), sm_swap (fun k l => if a * (l + 1) < n * (k + 1) then 1 else 0) (a / 2) (n / 2), ← sm_add]
  have : sm (fun k => sm (fun l => if n * (l + 1) < a * (k + 1) then 1 else 0) (a / 2) + sm (fun l => if a * (k + 1) < n * (l + 1) then 1 else 0) (a / 2)) (n / 2) = sm (fun _ => a / 2) (n / 2) := by
    refine sm_congr (fun k hk => ?_)
    rw [← sm_add]
    have : sm (fun l => (if n * (l + 1) < a * (k + 1) then 1 else 0) + (if a * (k + 1) < n * (l + 1) then 1 else 0)) (a / 2) = sm (fun _ => 1) (a / 2) := by
      refine sm_congr (fun l _ => ?_)
      have hne : n * (l + 1) ≠ a * (k + 1) := fun e =>
        not_dvd_of_cop hc (k := k + 1) (by omega) (by omega) (by rw [← e, Nat.mul_mod_right])
      split <;> split <;> omega
    rw [this, sm_one]
  rw [this, sm_const]

/-- the sign of reciprocity -/
def rs (a n : Nat) : Int := if a % 4 = 3 ∧ n % 4 = 3 then -1 else 1

theorem sgn_half_mul {a n : Nat} (hn : n % 2 = 1) (ha : a % 2 = 1) : sgn ((a / 2) * (n / 2)) = rs a n := by
  unfold sgn rs
  rw [Nat.mul_mod]
  have h1 : a % 4 = 3 ↔ a / 2 % 2 = 1 := by omega
  have h2 : n % 4 = 3 ↔ n / 2 % 2 = 1 := by omega
  simp only [h1, h2]
  rcases Nat.mod_two_eq_zero_or_one (a / 2) with h | h <;> rcases Nat.mod_two_eq_zero_or_one (n / 2) with h' | h' <;> simp [h, h']

theorem sgn_mul_self (a : Nat) : sgn a * sgn a = 1 := by unfold sgn; split <;> rfl

theorem jn_recip {a n : Nat} (hn : n % 2 = 1) (ha : a % 2 = 1) (hc : Nat.gcd a n = 1) : jn a n * jn n a = rs a n := by
  have hc' : Nat.gcd n a = 1 := by rw [Nat.gcd_comm]; exact hc
  unfold jn
  rw [if_pos hc, if_pos hc', ← sgn_add, ← sgn_half_mul hn ha, ← fl_both hn ha hc]
  have h1 := gs_fl hn ha hc
  have h2 := gs_fl ha hn hc'
  exact sgn_mod (by omega)

theorem jn_sq_one {a n : Nat} (hc : Nat.gcd a n = 1) : jn a n * jn a n = 1 := by
  unfold jn; rw [if_pos hc, sgn_mul_self]

theorem rs_cases (a n : Nat) : rs a n = 1 ∨ rs a n = -1 := by unfold rs; split <;> simp

theorem jn_flip {a n : Nat} (hn : n % 2 = 1) (ha : a % 2 = 1) : jn a n = jn n a * rs a n := by
  by_cases hc : Nat.gcd a n = 1
  · have h := jn_recip hn ha hc
    have h2 := jn_sq_one (a := n) (n := a) (by rw [Nat.gcd_comm]; exact hc)
    rw [← h, Int.mul_comm (jn a n), ← Int.mul_assoc, h2, Int.one_mul]
  · rw [(jn_zero_iff a n).2 hc, (jn_zero_iff n a).2 (by rw [Nat.gcd_comm]; exact hc), Int.zero_mul]

theorem rs_mul_right {a m n : Nat} (hm : m % 2 = 1) (hn : n % 2 = 1) : rs a (m * n) = rs a m * rs a n := by
  unfold rs
  have h : (m * n) % 4 = ((m % 4) * (n % 4)) % 4 := Nat.mul_mod _ _ _
  have h1 : m % 4 = 1 ∨ m % 4 = 3 := by omega
  have h2 : n % 4 = 1 ∨ n % 4 = 3 := by omega
  rcases h1 with h1 | h1 <;> rcases h2 with h2 | h2 <;> rw [h1, h2] at h <;> by_cases ha : a % 4 = 3 <;> simp [h, h1, h2, ha]

theorem odd_mul {m n : Nat} (hm : m % 2 = 1) (hn : n % 2 = 1) : (m * n) % 2 = 1 := by rw [Nat.mul_mod, hm, hn]

theorem jn_lower_odd {a m n : Nat} (ha : a % 2 = 1) (hm : m % 2 = 1) (hn : n % 2 = 1) : jn a (m * n) = jn a m * jn a n := by
  rw [jn_flip (odd_mul hm hn) ha, jn_flip hm ha, jn_flip hn ha, jn_mul m n ha, rs_mul_right hm hn]
  have e : ∀ x y u v : Int, x * y * (u * v) = x * u * (y * v) := by
    intro x y u v
    rw [Int.mul_assoc, Int.mul_left_comm y, ← Int.mul_assoc]
  exact e _ _ _ _

theorem jn_lower (a : Nat) {m n : Nat} (hm : m % 2 = 1) (hn : n % 2 = 1) : jn a (m * n) = jn a m * jn a n := by
  by_cases ha : a % 2 = 1
  · exact jn_lower_odd ha hm hn
  · have ho := odd_mul hm hn
    have h := jn_lower_odd (a := a + m * n) (by omega) hm hn
    rw [jn_congr (a := a + m * n) (b := a) (n := m * n) (by simp)] at h
    rw [jn_congr (a := a + m * n) (b := a) (n := m) (by simp)] at h
    rw [jn_congr (a := a + m * n) (b := a) (n := n) (by simp)] at h
    exact h

/-- the symbol of any whole number -/
def ji (a : Int) (n : Nat) : Int := jn (a % (n : Int)).toNat n

end GhN
