/- Sums over a system: what all pairs cover together; which part is covered. Plain mathematics. -/
import Derived.Test.YtmmgidhaakkaoaaGr
namespace Go.Proofs.Ytmmgidhaakkaoaa
open Go Go.RowKit GhC

/-- how many of the first k numbers are covered -/
def covd (L : List (Int × Int)) : Nat → Nat
  | 0 => 0
  | k + 1 => covd L k + if cnt L (k : Int) = 0 then 0 else 1
theorem covd_le (L : List (Int × Int)) : ∀ k, covd L k ≤ k
  | 0 => Nat.le_refl _
  | k + 1 => by have := covd_le L k; unfold covd; split <;> omega
theorem covd_all {L : List (Int × Int)} : ∀ k, covd L k = k ↔ ∀ n : Nat, n < k → cnt L (n : Int) ≠ 0
  | 0 => ⟨fun _ n h => by omega, fun _ => rfl⟩
  | k + 1 => by
    have hle := covd_le L k
    have ih := covd_all (L := L) k
    unfold covd
    by_cases h : cnt L (k : Int) = 0
    · rw [if_pos h]
      exact ⟨fun e => by omega, fun a => absurd h (a k (by omega))⟩
    · rw [if_neg h]
      constructor
      · intro e n hn
        by_cases hk : n = k
        · subst hk; exact h
        · exact ih.1 (by omega) n (by omega)
      · intro a
        have := ih.2 (fun n hn => a n (by omega))
        omega

/-- the part that is covered -/
def shN (L : List (Int × Int)) : Nat := covd L (wh L 1) / Nat.gcd (covd L (wh L 1)) (wh L 1)
def shD (L : List (Int × Int)) : Nat := wh L 1 / Nat.gcd (covd L (wh L 1)) (wh L 1)

theorem whole_one {n W : Nat} (hW : 1 ≤ W) (_h : n ≤ W) : (n / Nat.gcd n W = 1 ∧ W / Nat.gcd n W = 1) ↔ n = W := by
  constructor
  · rintro ⟨h1, h2⟩
    have a := Nat.div_mul_cancel (Nat.gcd_dvd_left n W)
    have b := Nat.div_mul_cancel (Nat.gcd_dvd_right n W)
    rw [h1] at a
    rw [h2] at b
    omega
  · intro e
    subst e
    rw [Nat.gcd_self, Nat.div_self (by omega)]
    exact ⟨rfl, rfl⟩

theorem share_one {L : List (Int × Int)} (hs : Sys L) : (shN L = 1 ∧ shD L = 1) ↔ fstE false L = 4 := by
  unfold shN shD
  rw [whole_one hs.pos (covd_le L _), covd_all, fstE_none hs]
  constructor
  · intro h n
    have hW := hs.pos
    have h1 := Int.emod_nonneg n (show ((wh L 1 : Nat) : Int) ≠ 0 by omega)
    have h2 := Int.emod_lt_of_pos n (show (0 : Int) < ((wh L 1 : Nat) : Int) by omega)
    have := h (n % ((wh L 1 : Nat) : Int)).toNat (by omega)
    rw [Int.toNat_of_nonneg h1, cnt_rest hs] at this
    unfold askB
    simpa using this
  · intro h n _
    have := h n
    unfold askB at this
    simpa using this

/-- the counts of the first k numbers together -/
def tot (L : List (Int × Int)) : Nat → Nat
  | 0 => 0
  | k + 1 => tot L k + cnt L (k : Int)

theorem tot_ge {L : List (Int × Int)} : ∀ k, (∀ n : Nat, n < k → 1 ≤ cnt L (n : Int)) → k ≤ tot L k ∧ (tot L k = k ↔ ∀ n : Nat, n < k → cnt L (n : Int) ≤ 1)
  | 0, _ => ⟨Nat.le_refl _, fun _ n h => by omega, fun _ => rfl⟩
  | k + 1, h => by
    obtain ⟨h1, h2⟩ := tot_ge k (fun n hn => h n (by omega))
    have hk := h k (by omega)
    unfold tot
    refine ⟨by omega, fun e n hn => ?_, fun a => ?_⟩
    · by_cases hnk : n = k
      · subst hnk; omega
      · exact h2.1 (by omega) n (by omega)
    · have := h2.2 (fun n hn => a n (by omega))
      have := a k (by omega)
      omega

theorem tot_le {L : List (Int × Int)} : ∀ k, (∀ n : Nat, n < k → cnt L (n : Int) ≤ 1) → tot L k ≤ k ∧ ((∃ n : Nat, n < k ∧ cnt L (n : Int) = 0) → tot L k < k)
  | 0, _ => ⟨Nat.le_refl _, fun ⟨n, hn, _⟩ => by omega⟩
  | k + 1, h => by
    obtain ⟨h1, h2⟩ := tot_le k (fun n hn => h n (by omega))
    have hk := h k (by omega)
    unfold tot
    refine ⟨by omega, fun ⟨n, hn, e⟩ => ?_⟩
    by_cases hnk : n = k
    · subst hnk; omega
    · have := h2 ⟨n, by omega, e⟩
      omega

theorem Cm_split {p : Int × Int} {m : Int} (a : Nat) : ∀ (b : Nat) (n : Int), Cm p m (a + b) n = Cm p m a n + Cm p m b (n + (a : Int) * m)
  | 0, n => by simp [Cm]
  | b + 1, n => by
    rw [← Nat.add_assoc, Cm, Cm_split a b n, Cm, Int.add_assoc n, ← Int.add_mul, ← Int.natCast_add]
    omega

theorem Cm_low {p : Int × Int} (h0 : 0 ≤ p.1) (h1 : p.1 < p.2) : ∀ k : Nat, (k : Int) ≤ p.2 → Cm p 1 k 0 = if p.1 < k then 1 else 0
  | 0, _ => by rw [if_neg (by omega)]; rfl
  | k + 1, hk => by
    rw [Cm, Cm_low h0 h1 k (by omega)]
    have e : cov p (0 + (k : Int) * 1) = decide ((k : Int) = p.1) := by
      rw [Bool.eq_iff_iff, decide_eq_true_iff]
      unfold cov
      rw [beq_iff_eq]
      constructor
      · intro h
        obtain ⟨c, hc⟩ := Int.dvd_of_emod_eq_zero h
        rcases Int.lt_trichotomy c 0 with g | g | g
        · have : p.2 * c ≤ p.2 * (-1) := Int.mul_le_mul_of_nonneg_left (by omega) (by omega)
          omega
        · subst g; omega
        · have : p.2 * 1 ≤ p.2 * c := Int.mul_le_mul_of_nonneg_left (by omega) (by omega)
          omega
      · intro h
        have : 0 + (k : Int) * 1 - p.1 = 0 := by omega
        rw [this]; simp
    rw [e]
    by_cases g : (k : Int) = p.1
    · rw [decide_eq_true g, if_pos rfl, if_neg (by omega), if_pos (by omega)]; rfl
    · rw [decide_eq_false g, if_neg (show ¬ (false = true) by decide)]
      by_cases g2 : p.1 < (k : Int)
      · rw [if_pos g2, if_pos (by omega)]; rfl
      · rw [if_neg g2, if_neg (by omega)]; rfl

theorem Cm_times {p : Int × Int} {m : Nat} (hp : p.2 = m) (h0 : 0 ≤ p.1) (h1 : p.1 < p.2) : ∀ q : Nat, Cm p 1 (q * m) 0 = q
  | 0 => by simp [Cm]
  | q + 1 => by
    have sh : ∀ (t : Nat) (k : Nat) (n : Int), Cm p 1 k (n + (t : Int) * p.2) = Cm p 1 k n := by
      intro t
      induction t with
      | zero => intro k n; simp
      | succ t ih => intro k n; rw [Int.natCast_add, Int.add_mul, ← Int.add_assoc, Int.natCast_one, Int.one_mul, Cm_own, ih]
    rw [Nat.add_mul, Nat.one_mul, Cm_split, Cm_times hp h0 h1 q]
    have e : (0 : Int) + ((q * m : Nat) : Int) * 1 = 0 + (q : Int) * p.2 := by rw [hp, Int.natCast_mul]; omega
    rw [e, sh, Cm_low h0 h1 m (by omega), if_pos (by omega)]
    omega

/-- the sum of all whole/m -/
def sumW (W : Int) (L : List (Int × Int)) : Int := L.foldr (fun p r => W / p.2 + r) 0
theorem sumW_app (W : Int) : ∀ (L M : List (Int × Int)), sumW W (L ++ M) = sumW W L + sumW W M
  | [], M => by simp [sumW]
  | p :: L, M => by
    have : sumW W (p :: L ++ M) = W / p.2 + sumW W (L ++ M) := rfl
    have e : sumW W (p :: L) = W / p.2 + sumW W L := rfl
    rw [this, sumW_app W L M, e]; omega
theorem sumW_succ {W : Int} {L : List (Int × Int)} {k : Nat} {p : Int × Int} (h : L[k]? = some p) : sumW W (L.take (k + 1)) = sumW W (L.take k) + W / p.2 := by
  rw [take_at h, sumW_app]
  have : sumW W [p] = W / p.2 + 0 := rfl
  omega
theorem sumW_bd {W : Nat} : ∀ {L : List (Int × Int)}, (∀ p ∈ L, 1 ≤ p.2) → 0 ≤ sumW W L ∧ sumW W L ≤ L.length * W
  | [], _ => by simp [sumW]
  | p :: L, h => by
    have h1 := h p (List.mem_cons_self ..)
    obtain ⟨a, b⟩ := sumW_bd (W := W) (L := L) (fun q hq => h q (List.mem_cons_of_mem _ hq))
    have e : sumW W (p :: L) = W / p.2 + sumW W L := rfl
    have c1 : 0 ≤ (W : Int) / p.2 := Int.ediv_nonneg (by omega) (by omega)
    have c2 : (W : Int) / p.2 ≤ W := Int.ediv_le_self _ (by omega)
    rw [e, List.length_cons, Int.natCast_add, Int.add_mul]
    omega

theorem sumP_tot (L : List (Int × Int)) : ∀ k : Nat, sumP L (fun p => Cm p 1 k) 0 = ((tot L k : Nat) : Int)
  | 0 => by
    have z : ∀ L : List (Int × Int), sumP L (fun p => Cm p 1 0) 0 = 0 := by
      intro L
      induction L with
      | nil => rfl
      | cons p L ih => rw [sumP_cons, ih]; rfl
    rw [z]; rfl
  | k + 1 => by
    have e : ∀ L : List (Int × Int), sumP L (fun p => Cm p 1 (k + 1)) 0 = sumP L (fun p => Cm p 1 k) 0 + sumP L (fun p n => if cov p n then 1 else 0) (0 + (k : Int) * 1) := by
      intro L
      induction L with
      | nil => rfl
      | cons p L ih => rw [sumP_cons, sumP_cons, sumP_cons, ih]; simp only [Cm]; omega
    have z : (0 : Int) + (k : Int) * 1 = (k : Int) := by omega
    have t : tot L (k + 1) = tot L k + cnt L (k : Int) := rfl
    rw [e, sumP_tot L k, sumP_cnt, z, t]
    omega

theorem sumW_tot {L : List (Int × Int)} (hs : Sys L) : sumW ((wh L 1 : Nat) : Int) L = ((tot L (wh L 1) : Nat) : Int) := by
  rw [← sumP_tot]
  have : ∀ M : List (Int × Int), (∀ p ∈ M, p ∈ L) → sumW ((wh L 1 : Nat) : Int) M = sumP M (fun p => Cm p 1 (wh L 1)) 0 := by
    intro M
    induction M with
    | nil => intro _; rfl
    | cons p M ih =>
      intro hM
      have hp := hM p (List.mem_cons_self ..)
      have e : sumW ((wh L 1 : Nat) : Int) (p :: M) = ((wh L 1 : Nat) : Int) / p.2 + sumW ((wh L 1 : Nat) : Int) M := rfl
      rw [e, sumP_cons, ih (fun q hq => hM q (List.mem_cons_of_mem _ hq))]
      obtain ⟨o1, o2, o3, o4⟩ := hs.2.2.1 p hp
      have hd := hs.dvd hp
      obtain ⟨m, hm⟩ : ∃ m : Nat, p.2 = m := ⟨p.2.toNat, by omega⟩
      have hd2 : m ∣ wh L 1 := by rw [hm] at hd; exact Int.natCast_dvd_natCast.1 hd
      obtain ⟨q, hq⟩ := hd2
      have e1 : ((wh L 1 : Nat) : Int) / p.2 = q := by
        rw [hm, hq, Int.natCast_mul, Int.mul_ediv_cancel_left _ (by omega)]
      have e2 : Cm p 1 (wh L 1) 0 = q := by rw [hq, Nat.mul_comm]; exact Cm_times hm o3 o4 q
      rw [e1, e2]
  exact this L (fun _ h => h)

/-- what the sum says -/
theorem sums_all {L : List (Int × Int)} (hs : Sys L) (h : fstE false L = 4) : ((wh L 1 : Nat) : Int) ≤ sumW ((wh L 1 : Nat) : Int) L ∧ (sumW ((wh L 1 : Nat) : Int) L = ((wh L 1 : Nat) : Int) ↔ fstE true L = 4) := by
  rw [sumW_tot hs]
  have h0 := (fstE_none hs).1 h
  obtain ⟨a, b⟩ := tot_ge (L := L) (wh L 1) (fun n _ => by have := h0 n; unfold askB at this; simp at this; omega)
  refine ⟨by omega, ?_⟩
  have e : ((tot L (wh L 1) : Nat) : Int) = ((wh L 1 : Nat) : Int) ↔ tot L (wh L 1) = wh L 1 := by omega
  rw [e, b, fstE_none hs]
  have hW := hs.pos
  constructor
  · intro g n
    have h1 := Int.emod_nonneg n (show ((wh L 1 : Nat) : Int) ≠ 0 by omega)
    have h2 := Int.emod_lt_of_pos n (show (0 : Int) < ((wh L 1 : Nat) : Int) by omega)
    have := g (n % ((wh L 1 : Nat) : Int)).toNat (by omega)
    rw [Int.toNat_of_nonneg h1, cnt_rest hs] at this
    unfold askB
    simp; omega
  · intro g n _
    have := g n
    unfold askB at this
    simp at this
    omega
theorem sums_less {L : List (Int × Int)} (hs : Sys L) (h : fstE false L = 0) (h2 : fstE true L = 4) : sumW ((wh L 1 : Nat) : Int) L < ((wh L 1 : Nat) : Int) := by
  rw [sumW_tot hs]
  obtain ⟨n, _, hn, ha, _⟩ := fstE_some h
  have h1 := (fstE_none hs).1 h2
  have := (tot_le (L := L) (wh L 1) (fun n _ => by have := h1 n; unfold askB at this; simp at this; omega)).2 ⟨n, hn, by unfold askB at ha; simpa using ha⟩
  omega
end Go.Proofs.Ytmmgidhaakkaoaa
