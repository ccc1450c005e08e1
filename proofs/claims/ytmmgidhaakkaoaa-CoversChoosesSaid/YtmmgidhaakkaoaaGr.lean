/- The greatest modulus of an exact system: the plain law. -/
import Derived.Test.YtmmgidhaakkaoaaCvL
import Derived.Test.YtmmgidhaakkaoaaGrM
namespace Go.Proofs.Ytmmgidhaakkaoaa
open Go Go.RowKit GhC

/-- how many of the numbers n, n + m, .., n + (k-1) m a pair covers -/
def Cm (p : Int × Int) (m : Int) : Nat → Int → Int
  | 0, _ => 0
  | k + 1, n => Cm p m k n + if cov p (n + (k : Int) * m) then 1 else 0

theorem cov_shift {p : Int × Int} {n d : Int} (h : p.2 ∣ d) : cov p (n + d) = cov p n := by
  unfold cov
  have : (n + d - p.1) % p.2 = (n - p.1) % p.2 := by
    obtain ⟨c, rfl⟩ := h
    have e : n + p.2 * c - p.1 = n - p.1 + p.2 * c := by omega
    rw [e, Int.add_mul_emod_self_left]
  rw [this]

theorem Cm_own {p : Int × Int} {m : Int} : ∀ (k : Nat) (n : Int), Cm p m k (n + p.2) = Cm p m k n
  | 0, _ => rfl
  | k + 1, n => by
    simp only [Cm]
    rw [Cm_own k n, show n + p.2 + (k : Int) * m = n + (k : Int) * m + p.2 by omega, cov_shift (Int.dvd_refl _)]

theorem Cm_front {p : Int × Int} {m : Int} : ∀ (k : Nat) (n : Int), Cm p m (k + 1) n = (if cov p n then 1 else 0) + Cm p m k (n + m)
  | 0, n => by simp [Cm]
  | k + 1, n => by
    rw [Cm, Cm_front k n, Cm]
    rw [show n + ((k + 1 : Nat) : Int) * m = n + m + (k : Int) * m by rw [Int.natCast_add, Int.add_mul]; omega]
    omega

theorem Cm_step {p : Int × Int} {m : Int} {W : Nat} (h : p.2 ∣ (W : Int)) (n : Int) : Cm p m W (n + m) = Cm p m W n := by
  have h1 := Cm_front (p := p) (m := m) W n
  rw [Cm, cov_shift (Int.dvd_trans h (Int.dvd_mul_right _ _))] at h1
  omega

theorem Cm_same {p : Int × Int} {m : Int} (h : p.2 = m) : ∀ (k : Nat) (n : Int), Cm p m k n = k * (if cov p n then 1 else 0)
  | 0, _ => by simp [Cm]
  | k + 1, n => by
    rw [Cm, Cm_same h k n, cov_shift (by rw [h]; exact Int.dvd_mul_left _ _), Int.natCast_add, Int.add_mul]
    omega

/-- a period: whatever two periods give -/
theorem period_gcd {f : Int → Int} {a b : Nat} (ha : ∀ n, f (n + a) = f n) (hb : ∀ n, f (n + b) = f n) : ∀ c : Int, ((Nat.gcd a b : Nat) : Int) ∣ c → ∀ n, f (n + c) = f n := by
  have mult : ∀ (x : Int), (∀ n, f (n + x) = f n) → ∀ (t : Int) (n : Int), f (n + x * t) = f n := by
    intro x hx
    have nat : ∀ (t : Nat) (n : Int), f (n + x * t) = f n := by
      intro t
      induction t with
      | zero => intro n; simp
      | succ t ih => intro n; rw [Int.natCast_add, Int.mul_add]; have := hx (n + x * t); rw [← ih n, ← this]; congr 1; omega
    intro t n
    rcases Int.le_total 0 t with h | h
    · have := nat t.toNat n
      rwa [Int.toNat_of_nonneg h] at this
    · have := nat (-t).toNat (n + x * t)
      rw [Int.toNat_of_nonneg (by omega)] at this
      rw [← this]; congr 1; rw [Int.mul_neg]; omega
  intro c ⟨q, hq⟩ n
  obtain ⟨u, v, hb2⟩ := bezout a b
  rw [hq, hb2, Int.add_mul, Int.mul_assoc, Int.mul_assoc, ← Int.add_assoc, mult _ hb, mult _ ha]

/-- sums over the pairs -/
def sumP (L : List (Int × Int)) (f : Int × Int → Int → Int) (n : Int) : Int := L.foldr (fun p r => f p n + r) 0
theorem sumP_cons (p : Int × Int) (L : List (Int × Int)) (f : Int × Int → Int → Int) (n : Int) : sumP (p :: L) f n = f p n + sumP L f n := rfl

theorem sumP_cnt (L : List (Int × Int)) (n : Int) : sumP L (fun p n => if cov p n then 1 else 0) n = ((cnt L n : Nat) : Int) := by
  induction L with
  | nil => rfl
  | cons p L ih =>
    rw [sumP_cons, ih]
    unfold cnt
    rw [List.filter_cons]
    cases h : cov p n <;> simp <;> omega

theorem sumP_Cm (L : List (Int × Int)) (m : Int) (h1 : ∀ n : Int, cnt L n = 1) : ∀ (k : Nat) (n : Int), sumP L (fun p => Cm p m k) n = k
  | 0, n => by
    have z : ∀ L : List (Int × Int), sumP L (fun p => Cm p m 0) n = 0 := by
      intro L
      induction L with
      | nil => rfl
      | cons p L ih => rw [sumP_cons, ih]; rfl
    exact z L
  | k + 1, n => by
    have e : ∀ L : List (Int × Int), sumP L (fun p => Cm p m (k + 1)) n = sumP L (fun p => Cm p m k) n + sumP L (fun p n => if cov p n then 1 else 0) (n + (k : Int) * m) := by
      intro L
      induction L with
      | nil => rfl
      | cons p L ih => rw [sumP_cons, sumP_cons, sumP_cons, ih]; simp only [Cm]; omega
    rw [e, sumP_Cm L m h1 k n, sumP_cnt, h1]; omega

theorem Df_sumP (ks : List Int) (f : Int × Int → Int → Int) (n : Int) : ∀ L : List (Int × Int), Df ks (sumP L f) n = sumP L (fun p => Df ks (f p)) n
  | [] => Df_zero ks n
  | p :: L => by
    have : sumP (p :: L) f = fun n => f p n + sumP L f n := rfl
    rw [this, Df_add, Df_sumP ks f n L]; rfl

/-- the pairs with one modulus -/
def ofM (L : List (Int × Int)) (m : Int) : List (Int × Int) := L.filter (fun p => p.2 == m)

theorem Steps_of : ∀ (l : List Nat) (m : Nat) (F : Nat → Int), l.Nodup → (∀ q ∈ l, ∀ r ∈ l, r ≠ q → ((pw m q : Nat) : Int) ∣ ((m / r : Nat) : Int)) →
    GhC.Steps (l.map (fun q => (F q * ((m / q : Nat) : Int), ((pw m q : Nat) : Int))))
  | [], _, _, _, _ => trivial
  | q :: l, m, F, hn, h => by
    rw [List.nodup_cons] at hn
    refine ⟨fun t ht => ?_, Steps_of l m F hn.2 (fun a ha b hb => h a (List.mem_cons_of_mem _ ha) b (List.mem_cons_of_mem _ hb))⟩
    obtain ⟨r, hr, rfl⟩ := List.mem_map.1 ht
    have hne : r ≠ q := fun e => hn.1 (e ▸ hr)
    exact ⟨Int.dvd_trans (h q (List.mem_cons_self ..) r (List.mem_cons_of_mem _ hr) hne) (Int.dvd_mul_left _ _),
      Int.dvd_trans (h r (List.mem_cons_of_mem _ hr) q (List.mem_cons_self ..) (Ne.symm hne)) (Int.dvd_mul_left _ _)⟩

theorem greatest {L : List (Int × Int)} (hs : Sys L) (h1 : ∀ n : Int, cnt L n = 1) {m p : Nat} (hm2 : 2 ≤ m) (hmax : ∀ q ∈ L, q.2 ≤ m) (hex : ∃ q ∈ L, q.2 = m)
    (hp : ∀ d, 2 ≤ d → d < p → m % d ≠ 0) : p ≤ (ofM L m).length := by
  apply Classical.byContradiction
  intro hlt
  have hlt : (ofM L m).length < p := by omega
  have hm60 : m ≤ 60 := by
    obtain ⟨q, hq, e⟩ := hex
    have := (hs.2.2.1 q hq).2.1
    omega
  have hok := okm_of hm2 hm60
  unfold okm at hok
  simp only [Bool.and_eq_true] at hok
  obtain ⟨⟨hne, hq⟩, hd⟩ := hok
  rw [List.all_eq_true] at hq hd
  have hqs : ∀ q ∈ qs m, (pw m q : Nat) ∣ m ∧ q ∣ m ∧ 2 ≤ q ∧ (∀ k, 0 < k → k < q → ¬ pw m q ∣ k * (m / q)) ∧ ∀ r ∈ qs m, r ≠ q → pw m q ∣ m / r := by
    intro q hqm
    have := hq q hqm
    simp only [Bool.and_eq_true, beq_iff_eq] at this
    obtain ⟨⟨⟨a1, a2⟩, a3⟩, a4⟩ := this
    rw [List.all_eq_true] at a3 a4
    have h2 : 2 ≤ q := by
      unfold qs at hqm
      have := (List.mem_filter.1 hqm).2
      simp only [Bool.and_eq_true] at this
      exact of_decide_eq_true this.1.1
    refine ⟨Nat.dvd_of_mod_eq_zero a1, Nat.dvd_of_mod_eq_zero a2, h2, fun k k0 kq hdv => ?_, fun r hr hrq => ?_⟩
    · have := a3 k (List.mem_range.2 kq)
      rw [Bool.or_eq_true] at this
      rcases this with h | h
      · have := eq_of_beq h; omega
      · rw [Nat.mod_eq_zero_of_dvd hdv] at h; simp at h
    · have := a4 r hr
      rw [Bool.or_eq_true] at this
      rcases this with h | h
      · exact absurd (eq_of_beq h) hrq
      · exact Nat.dvd_of_mod_eq_zero (eq_of_beq h)
  -- a number that a pair with the greatest modulus covers
  obtain ⟨⟨x, mx⟩, hxL, hxm⟩ := hex
  simp only at hxm
  subst hxm
  -- for each prime a step that no such pair meets
  have hstep : ∀ q ∈ qs m, ∃ k : Nat, k < q ∧ ∀ a ∈ (ofM L m).map (·.1), ¬ ((pw m q : Nat) : Int) ∣ a - (x + k * ((m / q : Nat) : Int)) := by
    intro q hqm
    obtain ⟨b1, b2, b3, b4, b5⟩ := hqs q hqm
    refine free_step (q := q) (by
      rw [List.length_map]
      have : p ≤ q := by
        apply Classical.byContradiction; intro g
        exact hp q b3 (by omega) (Nat.mod_eq_zero_of_dvd b2)
      omega) (fun k l hkl hlq hdv => b4 (l - k) (by omega) (by omega) ?_)
    have e : ((l : Int) - k) * ((m / q : Nat) : Int) = (((l - k) * (m / q) : Nat) : Int) := by
      rw [Int.natCast_mul, Int.natCast_sub (by omega)]
    rw [e] at hdv
    exact Int.natCast_dvd_natCast.1 hdv
  let F : Nat → Int := fun q => if h : q ∈ qs m then ((Classical.choose (hstep q h) : Nat) : Int) else 0
  have hF : ∀ q (h : q ∈ qs m), ∃ k : Nat, F q = k ∧ k < q ∧ ∀ a ∈ (ofM L m).map (·.1), ¬ ((pw m q : Nat) : Int) ∣ a - (x + k * ((m / q : Nat) : Int)) := fun q h =>
    ⟨_, by simp only [F, dif_pos h], (Classical.choose_spec (hstep q h)).1, (Classical.choose_spec (hstep q h)).2⟩
  have hnd : (qs m).Nodup := List.Nodup.sublist List.filter_sublist List.nodup_range
  have hSt := Steps_of (qs m) m F hnd (fun q hq r hr hrq => Int.natCast_dvd_natCast.2 ((hqs q hq).2.2.2.2 r hr hrq))
  let ss : List (Int × Int) := (qs m).map (fun q => (F q * ((m / q : Nat) : Int), ((pw m q : Nat) : Int)))
  -- the count of the pairs with the greatest modulus
  have hleft := Df_left (g := fun n => ((cnt (ofM L m) n : Nat) : Int)) (x := x) ss hSt (by
    intro s hs' y hy
    obtain ⟨q, hqm, rfl⟩ := List.mem_map.1 hs'
    obtain ⟨k, hk, _, hfree⟩ := hF q hqm
    simp only at hy
    rw [hk] at hy
    have : cnt (ofM L m) y = 0 := by
      apply Classical.byContradiction
      intro h0
      have hpos : 0 < ((ofM L m).filter (fun p => cov p y)).length := by unfold cnt at h0; omega
      obtain ⟨⟨a, d⟩, hr⟩ := List.length_pos_iff_exists_mem.1 hpos
      obtain ⟨hr1, hr2⟩ := List.mem_filter.1 hr
      have hdm : d = m := by
        have := (List.mem_filter.1 hr1).2
        simpa using this
      have hcv := cov_iff.1 hr2
      simp only [hdm] at hcv
      refine hfree a (List.mem_map.2 ⟨(a, d), hr1, rfl⟩) ?_
      have d1 : ((pw m q : Nat) : Int) ∣ y - a := Int.dvd_trans (Int.natCast_dvd_natCast.2 (hqs q hqm).1) (Int.dvd_of_emod_eq_zero hcv)
      have e : a - (x + (k : Int) * ((m / q : Nat) : Int)) = (y - (x + (k : Int) * ((m / q : Nat) : Int))) - (y - a) := by omega
      rw [e]
      exact Int.dvd_sub hy d1
    show ((cnt (ofM L m) y : Nat) : Int) = 0
    rw [this]; rfl)
  -- all pairs together leave nothing
  have hW := hs.pos
  have hall := Df_congr (f := sumP L (fun p => Cm p m (wh L 1))) (g := fun _ => ((wh L 1 : Nat) : Int)) (fun n => sumP_Cm L m h1 (wh L 1) n) (ss.map (·.1)) x
  obtain ⟨q0, hq0⟩ : ∃ q, q ∈ qs m := by
    cases hqe : qs m with
    | nil => rw [hqe] at hne; simp at hne
    | cons a l => exact ⟨a, List.mem_cons_self ..⟩
  have hconst : Df (ss.map (·.1)) (fun _ => ((wh L 1 : Nat) : Int)) x = 0 := Df_kill _ ⟨F q0 * ((m / q0 : Nat) : Int), by
    rw [List.map_map]; exact List.mem_map.2 ⟨q0, hq0, rfl⟩, fun _ => rfl⟩ x
  rw [hconst, Df_sumP] at hall
  -- of those with a lesser modulus nothing is left
  have heach : ∀ M : List (Int × Int), (∀ p ∈ M, p ∈ L) → sumP M (fun p => Df (ss.map (·.1)) (Cm p m (wh L 1))) x = ((wh L 1 : Nat) : Int) * Df (ss.map (·.1)) (fun n => ((cnt (ofM M m) n : Nat) : Int)) x := by
    intro M
    induction M with
    | nil =>
      intro _
      have : Df (ss.map (·.1)) (fun n => ((cnt (ofM [] m) n : Nat) : Int)) x = 0 := Df_zero _ _
      rw [this]; simp [sumP]
    | cons r M ih =>
      intro hM
      have hr := hM r (List.mem_cons_self ..)
      rw [sumP_cons, ih (fun p hp => hM p (List.mem_cons_of_mem _ hp))]
      by_cases hrm : r.2 = m
      · have e1 : Df (ss.map (·.1)) (Cm r m (wh L 1)) x = ((wh L 1 : Nat) : Int) * Df (ss.map (·.1)) (fun n => if cov r n then 1 else 0) x := by
          rw [← Df_mul]; exact Df_congr (fun n => Cm_same hrm _ n) _ _
        have e2 : Df (ss.map (·.1)) (fun n => ((cnt (ofM (r :: M) m) n : Nat) : Int)) x = Df (ss.map (·.1)) (fun n => if cov r n then 1 else 0) x + Df (ss.map (·.1)) (fun n => ((cnt (ofM M m) n : Nat) : Int)) x := by
          rw [← Df_add]
          refine Df_congr (fun n => ?_) _ _
          have : ofM (r :: M) m = r :: ofM M m := by unfold ofM; rw [List.filter_cons, if_pos (by simpa using hrm)]
          rw [this]
          unfold cnt
          rw [List.filter_cons]
          cases h : cov r n <;> simp <;> omega
        rw [e1, e2, Int.mul_add]
      · have e1 : Df (ss.map (·.1)) (Cm r m (wh L 1)) x = 0 := by
          have r1 := (hs.2.2.1 r hr).1
          have rle := hmax r hr
          obtain ⟨d, hdd⟩ : ∃ d : Nat, r.2 = d := ⟨r.2.toNat, by omega⟩
          have hg1 : Nat.gcd d m ∣ m := Nat.gcd_dvd_right _ _
          have hg0 : 0 < Nat.gcd d m := Nat.gcd_pos_of_pos_right _ (by omega)
          have hgm : Nat.gcd d m < m := by
            have h1 : Nat.gcd d m ≤ d := Nat.le_of_dvd (by omega) (Nat.gcd_dvd_left _ _)
            omega
          have := hd (Nat.gcd d m) (List.mem_range.2 hgm)
          simp only [Bool.or_eq_true, beq_iff_eq, bne_iff_ne] at this
          rcases this with (h | h) | h
          · omega
          · exact absurd (Nat.mod_eq_zero_of_dvd hg1) h
          · rw [List.any_eq_true] at h
            obtain ⟨q, hqm, hqd⟩ := h
            have hqd := Nat.dvd_of_mod_eq_zero (eq_of_beq hqd)
            refine Df_kill _ ⟨F q * ((m / q : Nat) : Int), by rw [List.map_map]; exact List.mem_map.2 ⟨q, hqm, rfl⟩, ?_⟩ x
            refine period_gcd (a := d) (b := m) (fun n => by rw [← hdd]; exact Cm_own _ n) (fun n => Cm_step (hs.dvd hr) n) _ ?_
            exact Int.dvd_trans (Int.natCast_dvd_natCast.2 hqd) (Int.dvd_mul_left _ _)
        have e2 : ofM (r :: M) m = ofM M m := by unfold ofM; rw [List.filter_cons, if_neg (by simpa using hrm)]
        rw [e1, e2]; omega
  rw [heach L (fun _ h => h), hleft] at hall
  have hx : 0 < cnt (ofM L m) x := by
    unfold cnt
    rw [List.length_pos_iff_exists_mem]
    exact ⟨(x, (m : Int)), List.mem_filter.2 ⟨List.mem_filter.2 ⟨hxL, by simp⟩, cov_iff.2 (by simp)⟩⟩
  have : ((wh L 1 : Nat) : Int) * ((cnt (ofM L m) x : Nat) : Int) = ((wh L 1 * cnt (ofM L m) x : Nat) : Int) := by rw [Int.natCast_mul]
  have hpos := Nat.mul_pos (show 0 < wh L 1 by omega) hx
  omega
end Go.Proofs.Ytmmgidhaakkaoaa
