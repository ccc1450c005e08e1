/- The chain that reduces a symbol: each step keeps the symbol; how long it is; and the symbol taken prime by prime. -/
import Derived.Test.YtmmgidhaakkaoaaLeg
namespace GhN

theorem ji_cases (a : Int) (n : Nat) : ji a n = 0 ∨ ji a n = 1 ∨ ji a n = -1 := jn_cases _ _

theorem ji_nat (a n : Nat) : ji (a : Int) n = jn a n := by
  unfold ji
  have : ((a : Int) % (n : Int)).toNat = a % n := by omega
  rw [this, jn_mod]

theorem ji_congr {a b : Int} {n : Nat} (h : a % (n : Int) = b % (n : Int)) : ji a n = ji b n := by unfold ji; rw [h]

theorem ji_mod (a : Int) (n : Nat) : ji (a % (n : Int)) n = ji a n := ji_congr (Int.emod_emod_of_dvd a (Int.dvd_refl _))

theorem ji_one (a : Int) : ji a 1 = 1 := jn_one _

theorem ji_zero {n : Nat} (h : 1 < n) : ji 0 n = 0 := by
  have : ji 0 n = jn 0 n := ji_nat 0 n
  rw [this]; exact (jn_zero_iff 0 n).2 (by simp; omega)

theorem ji_mul_lower (a : Int) {m n : Nat} (hm : m % 2 = 1) (hn : n % 2 = 1) : ji a (m * n) = ji a m * ji a n := by
  have h1 : ji a (m * n) = jn (a % ((m * n : Nat) : Int)).toNat (m * n) := rfl
  rw [h1, jn_lower _ hm hn]
  have hm0 : (0 : Int) < (m : Int) := by omega
  have hn0 : (0 : Int) < (n : Int) := by omega
  have hmn : (0 : Int) < ((m * n : Nat) : Int) := by rw [Int.natCast_mul]; exact Int.mul_pos hm0 hn0
  have hnn : 0 ≤ a % ((m * n : Nat) : Int) := Int.emod_nonneg _ (by omega)
  have key : ∀ k : Nat, (k : Int) ∣ ((m * n : Nat) : Int) → jn (a % ((m * n : Nat) : Int)).toNat k = ji a k := by
    intro k hk
    rw [← ji_nat, Int.toNat_of_nonneg hnn]
    exact ji_congr (Int.emod_emod_of_dvd a hk)
  rw [key m ⟨n, by rw [Int.natCast_mul]⟩, key n ⟨m, by rw [Int.natCast_mul, Int.mul_comm]⟩]

theorem ji_mul_upper (a b : Int) {n : Nat} (hn : n % 2 = 1) : ji (a * b) n = ji a n * ji b n := by
  have hn0 : (0 : Int) < (n : Int) := by omega
  have h1 : ji (a * b) n = ji ((a % (n : Int)) * (b % (n : Int))) n := ji_congr (by rw [← Int.mul_emod])
  have e : (a % (n : Int)) * (b % (n : Int)) = (((a % (n : Int)).toNat * (b % (n : Int)).toNat : Nat) : Int) := by
    rw [Int.natCast_mul, Int.toNat_of_nonneg (Int.emod_nonneg _ (by omega)), Int.toNat_of_nonneg (Int.emod_nonneg _ (by omega))]
  rw [h1, e, ji_nat, jn_mul _ _ hn]; rfl

theorem ji_zero_iff (a : Int) (n : Nat) (hn : 0 < n) : ji a n = 0 ↔ Nat.gcd a.natAbs n ≠ 1 := by
  unfold ji
  rw [jn_zero_iff]
  have : Nat.gcd (a % (n : Int)).toNat n = Nat.gcd a.natAbs n := by
    have e : (((a % (n : Int)).toNat : Nat) : Int) = a % (n : Int) := Int.toNat_of_nonneg (Int.emod_nonneg _ (by omega))
    have key : ∀ d : Nat, d ∣ n → (d ∣ (a % (n : Int)).toNat ↔ d ∣ a.natAbs) := by
      intro d hd
      have hdn : (d : Int) ∣ (n : Int) := Int.natCast_dvd_natCast.2 hd
      rw [← Int.natCast_dvd_natCast, e, ← Int.natCast_dvd_natCast (n := a.natAbs), Int.dvd_natAbs, Int.dvd_iff_emod_eq_zero, Int.dvd_iff_emod_eq_zero, Int.emod_emod_of_dvd _ hdn]
    refine Nat.dvd_antisymm (Nat.dvd_gcd ((key _ (Nat.gcd_dvd_right _ _)).1 (Nat.gcd_dvd_left _ _)) (Nat.gcd_dvd_right _ _))
      (Nat.dvd_gcd ((key _ (Nat.gcd_dvd_right _ _)).2 (Nat.gcd_dvd_left _ _)) (Nat.gcd_dvd_right _ _))
  rw [this]

/-- the sign that a halving turns -/
def hs (n : Int) : Int := if n % 8 = 3 ∨ n % 8 = 5 then -1 else 1
/-- the sign that an exchange turns -/
def es (a n : Int) : Int := if a % 4 = 3 ∧ n % 4 = 3 then -1 else 1

theorem ji_halve {a : Int} {n : Nat} (hn : n % 2 = 1) (h2 : a % 2 = 0) : ji a n = hs n * ji (a / 2) n := by
  have e : a = 2 * (a / 2) := by omega
  have h : ji a n = ji 2 n * ji (a / 2) n := by
    have := ji_mul_upper 2 (a / 2) hn
    rwa [← e] at this
  rw [h]
  have h3 : ji 2 n = jn 2 n := ji_nat 2 n
  rw [h3, jn_two hn]
  unfold hs
  congr 1
  by_cases c : n % 8 = 1 ∨ n % 8 = 7
  · rw [if_pos c, if_neg (by omega)]
  · rw [if_neg c, if_pos (by omega)]

theorem ji_exchange {a n : Nat} (hn : n % 2 = 1) (ha : a % 2 = 1) : ji a n = es a n * ji n a := by
  rw [ji_nat, ji_nat, jn_flip hn ha, Int.mul_comm]
  congr 1
  unfold rs es
  by_cases c : a % 4 = 3 ∧ n % 4 = 3
  · rw [if_pos c, if_pos (by omega)]
  · rw [if_neg c, if_neg (by omega)]

/-- the next step: its kind, then a, n and the sign -/
def nx (a n s : Int) : Int × Int × Int × Int :=
  if a < 0 ∨ n ≤ a then (0, a % n, n, s)
  else if a % 2 = 0 then (1, a / 2, n, hs n * s)
  else (2, n, a, es a n * s)

def mu (a n : Int) : Nat := if a < 0 then (4 * n + 2).toNat else if a < n then (2 * (n + a) + 1).toNat else (2 * (n + a)).toNat

/-- what stays: n odd and positive; the sign is 1 or -1 -/
def okc (_a n s : Int) : Prop := 1 ≤ n ∧ n % 2 = 1 ∧ (s = 1 ∨ s = -1)

theorem hs_cases (n : Int) : hs n = 1 ∨ hs n = -1 := by unfold hs; split <;> simp
theorem es_cases (a n : Int) : es a n = 1 ∨ es a n = -1 := by unfold es; split <;> simp

theorem nx_ok {a n s : Int} (h : okc a n s) (_ha : a ≠ 0) (_hn : n ≠ 1) : okc (nx a n s).2.1 (nx a n s).2.2.1 (nx a n s).2.2.2 := by
  obtain ⟨h1, h2, h3⟩ := h
  unfold nx
  split
  · exact ⟨h1, h2, h3⟩
  split
  · refine ⟨h1, h2, ?_⟩
    rcases hs_cases n with e | e <;> rcases h3 with e' | e' <;> simp [e, e']
  · refine ⟨by show 1 ≤ a; omega, by show a % 2 = 1; omega, ?_⟩
    rcases es_cases a n with e | e <;> rcases h3 with e' | e' <;> simp [e, e']

theorem nx_mu {a n s : Int} (h : okc a n s) (ha : a ≠ 0) : mu (nx a n s).2.1 (nx a n s).2.2.1 < mu a n := by
  obtain ⟨h1, h2, h3⟩ := h
  unfold nx
  split
  · next c =>
    have h4 := Int.emod_nonneg a (show n ≠ 0 by omega)
    have h5 := Int.emod_lt_of_pos a (show 0 < n by omega)
    simp only [mu]
    rw [if_neg (by omega), if_pos (by omega)]
    by_cases c1 : a < 0
    · rw [if_pos c1]; omega
    · rw [if_neg c1, if_neg (by omega)]; omega
  split
  · simp only [mu]
    rw [if_neg (by omega), if_pos (by omega), if_neg (by omega), if_pos (by omega)]; omega
  · simp only [mu]
    rw [if_neg (by omega), if_neg (by omega), if_neg (by omega), if_pos (by omega)]; omega

/-- the symbol with its sign -/
def sv (a n s : Int) : Int := s * ji a n.toNat

theorem nx_sv {a n s : Int} (h : okc a n s) (_ha : a ≠ 0) : sv (nx a n s).2.1 (nx a n s).2.2.1 (nx a n s).2.2.2 = sv a n s := by
  obtain ⟨h1, h2, h3⟩ := h
  have hnn : ((n.toNat : Nat) : Int) = n := Int.toNat_of_nonneg (by omega)
  unfold nx sv
  split
  · show s * ji (a % n) n.toNat = _
    have := ji_mod a n.toNat
    rw [hnn] at this
    rw [this]
  split
  · show hs n * s * ji (a / 2) n.toNat = _
    have := ji_halve (a := a) (n := n.toNat) (by omega) (by assumption)
    rw [hnn] at this
    rw [this, ← Int.mul_assoc, Int.mul_comm s]
  · show es a n * s * ji n a.toNat = _
    have haa : ((a.toNat : Nat) : Int) = a := Int.toNat_of_nonneg (by omega)
    have := ji_exchange (a := a.toNat) (n := n.toNat) (by omega) (by omega)
    rw [hnn, haa] at this
    rw [this, ← Int.mul_assoc, Int.mul_comm s]

theorem sv_end {a n s : Int} (h : okc a n s) (he : a = 0 ∨ n = 1) : sv a n s = if 1 < n then 0 else s := by
  obtain ⟨h1, h2, h3⟩ := h
  unfold sv
  by_cases c : 1 < n
  · rw [if_pos c]
    have : a = 0 := by omega
    subst this
    rw [ji_zero (by omega)]; simp
  · rw [if_neg c]
    have : n = 1 := by omega
    subst this
    rw [show (1 : Int).toNat = 1 from rfl, ji_one]; simp

/-- the chain, with a number that bounds it -/
def ch : Nat → Int → Int → Int → List (Int × Int × Int × Int)
  | 0, _, _, _ => []
  | k + 1, a, n, s => if a = 0 ∨ n = 1 then [] else nx a n s :: ch k (nx a n s).2.1 (nx a n s).2.2.1 (nx a n s).2.2.2

/-- the whole chain -/
def chain (a n s : Int) : List (Int × Int × Int × Int) := ch (mu a n) a n s

theorem ch_enough : ∀ (k j : Nat) (a n s : Int), okc a n s → mu a n ≤ k → mu a n ≤ j → ch k a n s = ch j a n s := by
  intro k
  induction k with
  | zero =>
    intro j a n s h hk _
    have : a = 0 ∨ n = 1 := by
      apply Classical.byContradiction; intro hc
      have := nx_mu h (s := s) (fun e => hc (.inl e)); omega
    cases j with
    | zero => rfl
    | succ j => simp [ch, this]
  | succ k ih =>
    intro j a n s h hk hj
    by_cases he : a = 0 ∨ n = 1
    · cases j with
      | zero => simp [ch, he]
      | succ j => simp [ch, he]
    · have hm := nx_mu h (s := s) (fun e => he (.inl e))
      cases j with
      | zero => omega
      | succ j =>
        rw [ch, ch, if_neg he, if_neg he, ih j _ _ _ (nx_ok h (fun e => he (.inl e)) (fun e => he (.inr e))) (by omega) (by omega)]

theorem chain_end {a n s : Int} (he : a = 0 ∨ n = 1) : chain a n s = [] := by
  unfold chain
  cases mu a n with
  | zero => rfl
  | succ k => simp [ch, he]

theorem chain_next {a n s : Int} (h : okc a n s) (ha : a ≠ 0) (hn : n ≠ 1) :
    chain a n s = nx a n s :: chain (nx a n s).2.1 (nx a n s).2.2.1 (nx a n s).2.2.2 := by
  have hm := nx_mu h (s := s) ha
  have he : ¬ (a = 0 ∨ n = 1) := by omega
  obtain ⟨k, hk⟩ : ∃ k, mu a n = k + 1 := ⟨mu a n - 1, by omega⟩
  unfold chain
  rw [hk, ch, if_neg he]
  congr 1
  exact ch_enough _ _ _ _ _ (nx_ok h ha hn) (by omega) (by omega)

/-- the last state of a chain -/
def lastOf (a n s : Int) (l : List (Int × Int × Int × Int)) : Int × Int × Int := match l.getLast? with | some x => x.2 | none => (a, n, s)

theorem lastOf_nil (a n s : Int) : lastOf a n s [] = (a, n, s) := rfl
theorem lastOf_cons (a n s : Int) (x : Int × Int × Int × Int) (l : List (Int × Int × Int × Int)) : lastOf a n s (x :: l) = lastOf x.2.1 x.2.2.1 x.2.2.2 l := by
  unfold lastOf
  cases l with
  | nil => rfl
  | cons y l =>
    rw [List.getLast?_cons_cons, List.getLast?_cons]

/-- what a chain shows is the symbol -/
theorem chain_shows (a n s : Int) (h : okc a n s) : (let z := lastOf a n s (chain a n s); if 1 < z.2.1 then 0 else z.2.2) = sv a n s := by
  obtain ⟨k, hk⟩ : ∃ k, mu a n ≤ k := ⟨_, Nat.le_refl _⟩
  induction k generalizing a n s with
  | zero =>
    have he : a = 0 ∨ n = 1 := by
      apply Classical.byContradiction; intro hc
      have := nx_mu h (s := s) (fun e => hc (.inl e)); omega
    rw [chain_end he, sv_end h he]; rfl
  | succ k ih =>
    by_cases he : a = 0 ∨ n = 1
    · rw [chain_end he, sv_end h he]; rfl
    · have ha : a ≠ 0 := fun e => he (.inl e)
      have hn : n ≠ 1 := fun e => he (.inr e)
      have hm := nx_mu h (s := s) ha
      rw [chain_next h ha hn, lastOf_cons, ih _ _ _ (nx_ok h ha hn) (by omega), nx_sv h ha]

/-- a chain of numbers in range is short -/
theorem ch_len : ∀ (k j : Nat) (a n s : Int), okc a n s → 0 ≤ a → a < n → 1 ≤ a → a * n < 2 ^ (j + 1) → (ch k a n s).length ≤ 2 * j := by
  intro k
  induction k using Nat.strongRecOn with
  | ind k ih =>
    intro j a n s h h0 hlt h1 hP
    cases k with
    | zero => simp [ch]
    | succ k =>
      have hn3 : 3 ≤ n := by have := h.2.1; omega
      have hP3 : 3 ≤ a * n := by
        have : 1 * n ≤ a * n := Int.mul_le_mul_of_nonneg_right h1 (by omega)
        omega
      have hj : 1 ≤ j := by
        rcases Nat.eq_zero_or_pos j with e | e
        · subst e; simp at hP; omega
        · exact e
      obtain ⟨i, rfl⟩ : ∃ i, j = i + 1 := ⟨j - 1, by omega⟩
      rw [ch, if_neg (by omega)]
      have hok := nx_ok h (s := s) (by omega) (by omega)
      by_cases hev : a % 2 = 0
      · have e : nx a n s = (1, a / 2, n, hs n * s) := by unfold nx; rw [if_neg (by omega), if_pos hev]
        rw [e] at hok ⊢
        simp only [List.length_cons]
        have hP' : a / 2 * n < 2 ^ (i + 1) := by
          have e2 : a * n = 2 * (a / 2 * n) := by rw [← Int.mul_assoc, show 2 * (a / 2) = a by omega]
          rw [e2, show (2 : Int) ^ (i + 1 + 1) = 2 * 2 ^ (i + 1) by rw [Int.pow_succ, Int.mul_comm]] at hP
          omega
        have := ih k (by omega) i (a / 2) n (hs n * s) hok (by omega) (by omega) (by omega) hP'
        omega
      · have e : nx a n s = (2, n, a, es a n * s) := by unfold nx; rw [if_neg (by omega), if_neg hev]
        rw [e] at hok ⊢
        simp only [List.length_cons]
        cases k with
        | zero => simp [ch]; omega
        | succ k =>
          rw [ch]
          by_cases ha1 : a = 1
          · rw [if_pos (.inr ha1)]; simp; omega
          · rw [if_neg (by omega)]
            have e3 : nx n a (es a n * s) = (0, n % a, a, es a n * s) := by unfold nx; rw [if_pos (by omega)]
            have hok2 := nx_ok (a := n) (n := a) hok (by omega) (by omega)
            rw [e3] at hok2 ⊢
            simp only [List.length_cons]
            have g0 := Int.emod_nonneg n (show a ≠ 0 by omega)
            have g1 := Int.emod_lt_of_pos n (show 0 < a by omega)
            have hdm := Int.mul_ediv_add_emod n a
            have hq : 1 ≤ n / a := by
              have := (Int.le_ediv_iff_mul_le (a := 1) (b := n) (c := a) (by omega)).2 (by omega)
              exact this
            by_cases hz : n % a = 0
            · rw [hz]
              cases k with
              | zero => simp [ch]; omega
              | succ k => simp [ch]; omega
            · have hP' : n % a * a < 2 ^ (i + 1) := by
                have h2 : 2 * (n % a) ≤ n := by
                  have : a * 1 ≤ a * (n / a) := Int.mul_le_mul_of_nonneg_left hq (by omega)
                  omega
                have h3 : 2 * (n % a * a) ≤ a * n := by
                  rw [← Int.mul_assoc, Int.mul_comm a n]
                  exact Int.mul_le_mul_of_nonneg_right h2 (by omega)
                rw [show (2 : Int) ^ (i + 1 + 1) = 2 * 2 ^ (i + 1) by rw [Int.pow_succ, Int.mul_comm]] at hP
                omega
              have := ih k (by omega) i (n % a) a (es a n * s) hok2 (by omega) (by omega) (by omega) hP'
              omega

theorem chain_len {a n s : Int} (h : okc a n s) (hb : n ≤ 1000000000) : (chain a n s).length ≤ 119 := by
  have key : ∀ (k : Nat) (a : Int), 0 ≤ a → a < n → (ch k a n s).length ≤ 118 := by
    intro k a h0 hlt
    by_cases ha : a = 0
    · subst ha
      cases k with
      | zero => simp [ch]
      | succ k => simp [ch]
    · refine ch_len k 59 a n s h h0 hlt (by omega) ?_
      have h1 : a * n ≤ 1000000000 * 1000000000 := Int.mul_le_mul (by omega) hb (by have := h.1; omega) (by omega)
      have : (2 : Int) ^ (59 + 1) = 1152921504606846976 := by decide
      omega
  unfold chain
  generalize mu a n = m
  by_cases hr : a < 0 ∨ n ≤ a
  · cases m with
    | zero => simp [ch]
    | succ m =>
      rw [ch]
      split
      · simp
      · have e : nx a n s = (0, a % n, n, s) := by unfold nx; rw [if_pos hr]
        rw [e]
        simp only [List.length_cons]
        have g0 := Int.emod_nonneg a (show n ≠ 0 by have := h.1; omega)
        have g1 := Int.emod_lt_of_pos a (show 0 < n by have := h.1; omega)
        have := key m (a % n) g0 g1
        omega
  · have := key m a (by omega) (by omega)
    omega

/-- no divisor below p, and n less than the square of p -/
theorem prime_of_nodiv {n p : Nat} (hn : 1 < n) (h : ∀ d, 2 ≤ d → d < p → n % d ≠ 0) (hpp : n < p * p) : Pr n := by
  refine ⟨hn, fun d hd => ?_⟩
  apply Classical.byContradiction
  intro hc
  have hd0 : 0 < d := Nat.pos_of_dvd_of_pos hd (by omega)
  have hdn := Nat.le_of_dvd (by omega) hd
  obtain ⟨e, rfl⟩ := hd
  have he0 : 0 < e := by
    rcases Nat.eq_zero_or_pos e with h' | h'
    · subst h'; omega
    · exact h'
  have hd2 : 2 ≤ d := by omega
  have he1 : e ≠ 1 := fun e' => by subst e'; omega
  have a1 : p ≤ d := by
    apply Classical.byContradiction; intro h'
    exact h d hd2 (by omega) (Nat.mul_mod_right d e)
  have a2 : p ≤ e := by
    apply Classical.byContradiction; intro h'
    exact h e (by omega) (by omega) (Nat.mul_mod_left d e)
  have := Nat.mul_le_mul a1 a2
  omega

theorem prime_div {n p : Nat} (hp : 2 ≤ p) (h : ∀ d, 2 ≤ d → d < p → n % d ≠ 0) (hd : n % p = 0) : Pr p := by
  refine ⟨hp, fun d hdp => ?_⟩
  have hd0 : 0 < d := Nat.pos_of_dvd_of_pos hdp (by omega)
  have hle := Nat.le_of_dvd (by omega) hdp
  apply Classical.byContradiction
  intro hc
  exact h d (by omega) (by omega) (Nat.mod_eq_zero_of_dvd (Nat.dvd_trans hdp (Nat.dvd_of_mod_eq_zero hd)))

theorem Pr.nodiv {n d : Nat} (h : Pr n) (h1 : 2 ≤ d) (h2 : d < n) : n % d ≠ 0 := by
  intro e
  rcases h.2 d (Nat.dvd_of_mod_eq_zero e) with e | e <;> omega

/-- what the power of half the prime shows -/
theorem legendre {p : Nat} (hp : Pr p) (h2 : p % 2 = 1) (y : Nat) : (if y ^ (p / 2) % p = p - 1 then (-1 : Int) else ((y ^ (p / 2) % p : Nat) : Int)) = jn y p := by
  have hp1 := hp.1
  rw [euler hp h2]
  rcases jn_cases y p with e | e | e
  · rw [e, if_pos rfl, if_neg (by omega)]; rfl
  · rw [e, if_neg (by decide : ¬ (1 : Int) = 0), if_pos rfl, if_neg (by omega)]; rfl
  · rw [e, if_neg (by decide : ¬ (-1 : Int) = 0), if_neg (by decide : ¬ (-1 : Int) = 1), if_pos rfl]

end GhN
