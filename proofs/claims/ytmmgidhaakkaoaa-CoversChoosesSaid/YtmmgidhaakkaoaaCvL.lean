/- What is so of counts below the whole is so of all numbers; when no number is covered twice. -/
import Derived.Test.YtmmgidhaakkaoaaCoE
import Derived.Test.YtmmgidhaakkaoaaCvM
namespace Go.Proofs.Ytmmgidhaakkaoaa
open Go Go.RowKit GhC

theorem cov_iff {p : Int × Int} {n : Int} : cov p n = true ↔ (n - p.1) % p.2 = 0 := by unfold cov; simp

theorem wh_dvd : ∀ (L : List (Int × Int)) (n : Nat), Mods L → wh L n ≤ 10080 → n ∣ wh L n ∧ ∀ p ∈ L, p.2.toNat ∣ wh L n
  | [], n, _, _ => ⟨Nat.dvd_refl _, fun p hp => (by cases hp)⟩
  | p :: L, n, hm, hw => by
    have hp := hm p (List.mem_cons_self ..)
    have hl : n / Nat.gcd n p.2.toNat * p.2.toNat = Nat.lcm n p.2.toNat := by
      unfold Nat.lcm
      rw [Nat.div_mul_right_comm (Nat.gcd_dvd_left _ _)]
    unfold wh at hw ⊢
    by_cases hb : 10080 < n / Nat.gcd n p.2.toNat * p.2.toNat
    · rw [if_pos hb] at hw; omega
    · rw [if_neg hb] at hw ⊢
      obtain ⟨h1, h2⟩ := wh_dvd L _ (fun q hq => hm q (List.mem_cons_of_mem _ hq)) hw
      rw [hl] at h1 h2 ⊢
      refine ⟨Nat.dvd_trans (Nat.dvd_lcm_left _ _) h1, fun q hq => ?_⟩
      rcases List.mem_cons.1 hq with rfl | hq
      · exact Nat.dvd_trans (Nat.dvd_lcm_right _ _) h1
      · exact h2 q hq

theorem Sys.dvd {L : List (Int × Int)} (h : Sys L) {p : Int × Int} (hp : p ∈ L) : p.2 ∣ ((wh L 1 : Nat) : Int) := by
  have := (wh_dvd L 1 (Sys.mods h.2.2.1) h.2.2.2).2 p hp
  have h1 := (h.2.2.1 p hp).1
  have e : p.2 = ((p.2.toNat : Nat) : Int) := by omega
  rw [e]; exact Int.natCast_dvd_natCast.2 this
theorem Sys.pos {L : List (Int × Int)} (h : Sys L) : 1 ≤ wh L 1 := (whR_ok L 1 (by omega) (by omega) (Sys.mods h.2.2.1) h.2.2.2).2

theorem cnt_congr {L : List (Int × Int)} {a b : Int} (h : ∀ p ∈ L, cov p a = cov p b) : cnt L a = cnt L b := by
  unfold cnt; rw [List.filter_congr (fun p hp => h p hp)]

/-- the count at a number is that at its rest -/
theorem cnt_rest {L : List (Int × Int)} (h : Sys L) (n : Int) : cnt L (n % ((wh L 1 : Nat) : Int)) = cnt L n := by
  refine cnt_congr (fun p hp => ?_)
  unfold cov; rw [cong_rest (h.dvd hp)]

theorem fst_none {t : Bool} {L : List (Int × Int)} : ∀ (k x : Nat), fstL t L k x = none ↔ ∀ n, x ≤ n → n < x + k → askB t (cnt L (n : Int)) = false
  | 0, x => ⟨fun _ n h1 h2 => by omega, fun _ => rfl⟩
  | k + 1, x => by
    unfold fstL
    cases hc : askB t (cnt L (x : Int)) with
    | true =>
      rw [if_pos rfl]
      exact ⟨(fun h => (by cases h)), (fun h => absurd (h x (Nat.le_refl _) (by omega)) (by rw [hc]; decide))⟩
    | false =>
      rw [if_neg (by decide), fst_none k (x + 1)]
      constructor
      · intro h n h1 h2
        by_cases e : n = x
        · subst e; exact hc
        · exact h n (by omega) (by omega)
      · intro h n h1 h2
        exact h n (by omega) (by omega)

theorem fst_some {t : Bool} {L : List (Int × Int)} : ∀ (k x y : Nat), fstL t L k x = some y → x ≤ y ∧ y < x + k ∧ askB t (cnt L (y : Int)) = true ∧ ∀ n, x ≤ n → n < y → askB t (cnt L (n : Int)) = false
  | 0, x, y, h => by cases h
  | k + 1, x, y, h => by
    unfold fstL at h
    cases hc : askB t (cnt L (x : Int)) with
    | true =>
      rw [hc, if_pos rfl] at h
      injection h with h
      subst h
      exact ⟨Nat.le_refl _, by omega, hc, fun n h1 h2 => by omega⟩
    | false =>
      rw [hc, if_neg (by decide)] at h
      obtain ⟨h1, h2, h3, h4⟩ := fst_some k (x + 1) y h
      refine ⟨by omega, by omega, h3, fun n g1 g2 => ?_⟩
      by_cases e : n = x
      · subst e; exact hc
      · exact h4 n (by omega) g2

theorem fstE_cases (t : Bool) (L : List (Int × Int)) : fstE t L = 0 ∨ fstE t L = 4 := by unfold fstE; split <;> simp

/-- nothing is found exactly if it is so of no number at all -/
theorem fstE_none {t : Bool} {L : List (Int × Int)} (h : Sys L) : fstE t L = 4 ↔ ∀ n : Int, askB t (cnt L n) = false := by
  have e : fstE t L = 4 ↔ fstL t L (wh L 1) 0 = none := by
    unfold fstE
    cases fstL t L (wh L 1) 0 <;> simp
  rw [e, fst_none]
  have hW := h.pos
  constructor
  · intro hn n
    have h1 := Int.emod_nonneg n (show ((wh L 1 : Nat) : Int) ≠ 0 by omega)
    have h2 := Int.emod_lt_of_pos n (show (0 : Int) < ((wh L 1 : Nat) : Int) by omega)
    rw [← cnt_rest h]
    have := hn (n % ((wh L 1 : Nat) : Int)).toNat (by omega) (by omega)
    rwa [Int.toNat_of_nonneg h1] at this
  · intro hn n _ _
    exact hn n

theorem fstE_some {t : Bool} {L : List (Int × Int)} (h : fstE t L = 0) : ∃ n : Nat, fstV t L = n ∧ n < wh L 1 ∧ askB t (cnt L (n : Int)) = true ∧ ∀ k : Nat, k < n → askB t (cnt L (k : Int)) = false := by
  unfold fstE at h
  cases hf : fstL t L (wh L 1) 0 with
  | none => rw [hf] at h; simp at h
  | some n =>
    obtain ⟨_, h2, h3, h4⟩ := fst_some _ _ _ hf
    exact ⟨n, by unfold fstV; rw [hf], by omega, h3, fun k hk => h4 k (by omega) hk⟩

/-- more than one: two places -/
theorem cnt_two {L : List (Int × Int)} {n : Int} : 1 < cnt L n ↔ ∃ i j : Nat, ∃ p q : Int × Int, i < j ∧ L[i]? = some p ∧ L[j]? = some q ∧ cov p n = true ∧ cov q n = true := by
  induction L with
  | nil => simp [cnt]
  | cons x L ih =>
    have hone : 0 < cnt L n ↔ ∃ j : Nat, ∃ q : Int × Int, L[j]? = some q ∧ cov q n = true := by
      unfold cnt
      rw [List.length_pos_iff_exists_mem]
      constructor
      · rintro ⟨q, hq⟩
        rw [List.mem_filter] at hq
        obtain ⟨j, hj⟩ := List.getElem?_of_mem hq.1
        exact ⟨j, q, hj, hq.2⟩
      · rintro ⟨j, q, hj, hq⟩
        exact ⟨q, List.mem_filter.2 ⟨List.mem_of_getElem? hj, hq⟩⟩
    have hc : cnt (x :: L) n = (if cov x n then 1 else 0) + cnt L n := by
      unfold cnt
      rw [List.filter_cons]
      cases h : cov x n <;> simp <;> omega
    rw [hc]
    constructor
    · intro h
      cases hx : cov x n with
      | true =>
        rw [hx, if_pos rfl] at h
        obtain ⟨j, q, hj, hq⟩ := hone.1 (by omega)
        exact ⟨0, j + 1, x, q, by omega, rfl, by simpa using hj, hx, hq⟩
      | false =>
        rw [hx, if_neg (by decide)] at h
        obtain ⟨i, j, p, q, h1, h2, h3, h4, h5⟩ := ih.1 (by omega)
        exact ⟨i + 1, j + 1, p, q, by omega, by simpa using h2, by simpa using h3, h4, h5⟩
    · rintro ⟨i, j, p, q, h1, h2, h3, h4, h5⟩
      obtain ⟨j, rfl⟩ : ∃ j', j = j' + 1 := ⟨j - 1, by omega⟩
      have h3' : L[j]? = some q := by simpa using h3
      rcases i with _ | i
      · have : x = p := by simpa using h2
        subst this
        have := hone.2 ⟨j, q, h3', h5⟩
        rw [h4, if_pos rfl]; omega
      · have := ih.2 ⟨i, j, p, q, by omega, by simpa using h2, h3', h4, h5⟩
        omega

/-- the pairs at two places have no common number -/
def apartP (p q : Int × Int) : Bool := !((p.1 - q.1) % ((Nat.gcd p.2.toNat q.2.toNat : Nat) : Int) == 0)

theorem apart_iff {L : List (Int × Int)} (h : Sys L) : fstE true L = 4 ↔ ∀ i j : Nat, ∀ p q : Int × Int, j < i → L[i]? = some p → L[j]? = some q → apartP p q = true := by
  rw [fstE_none h]
  have key : ∀ p ∈ L, ∀ q ∈ L, (apartP p q = false ↔ ∃ n : Int, cov p n = true ∧ cov q n = true) := by
    intro p hp q hq
    have p1 := (h.2.2.1 p hp).1
    have q1 := (h.2.2.1 q hq).1
    have ep : p.2 = ((p.2.toNat : Nat) : Int) := by omega
    have eq : q.2 = ((q.2.toNat : Nat) : Int) := by omega
    have e : apartP p q = false ↔ (p.1 - q.1) % ((Nat.gcd p.2.toNat q.2.toNat : Nat) : Int) = 0 := by unfold apartP; simp
    rw [e]
    constructor
    · intro hz
      obtain ⟨n, h1, h2⟩ := crt hz
      rw [← ep] at h1
      rw [← eq] at h2
      exact ⟨n, cov_iff.2 h1, cov_iff.2 h2⟩
    · rintro ⟨n, h1, h2⟩
      have h1 := cov_iff.1 h1
      have h2 := cov_iff.1 h2
      rw [ep] at h1
      rw [eq] at h2
      exact crt_back h1 h2
  constructor
  · intro hn i j p q hij hp hq
    cases e : apartP p q with
    | true => rfl
    | false =>
      obtain ⟨n, h1, h2⟩ := (key p (List.mem_of_getElem? hp) q (List.mem_of_getElem? hq)).1 e
      have := hn n
      have h2' : 1 < cnt L n := cnt_two.2 ⟨j, i, q, p, hij, hq, hp, h2, h1⟩
      unfold askB at this
      simp at this
      omega
  · intro ha n
    cases e : askB true (cnt L n) with
    | false => rfl
    | true =>
      have : 1 < cnt L n := by unfold askB at e; simpa using e
      obtain ⟨i, j, p, q, h1, h2, h3, h4, h5⟩ := cnt_two.1 this
      have := ha j i q p h1 h3 h2
      rw [(key q (List.mem_of_getElem? h3) p (List.mem_of_getElem? h2)).2 ⟨n, h5, h4⟩] at this
      cases this
end Go.Proofs.Ytmmgidhaakkaoaa
