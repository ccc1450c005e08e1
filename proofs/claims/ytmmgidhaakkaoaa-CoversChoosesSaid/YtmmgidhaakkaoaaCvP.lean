/- A system moved, and a system in which a pair is parted: plain mathematics. -/
import Derived.Test.YtmmgidhaakkaoaaCvS
import Derived.Test.YtmmgidhaakkaoaaCvN
namespace Go.Proofs.Ytmmgidhaakkaoaa
open Go Go.RowKit GhC

/-- how many of the numbers a, a + 1, .. (k of them) have the property -/
def ctS (f : Int → Bool) : Nat → Int → Nat
  | 0, _ => 0
  | k + 1, a => ctS f k a + if f (a + (k : Int)) then 1 else 0

theorem ctS_front (f : Int → Bool) : ∀ (k : Nat) (a : Int), ctS f (k + 1) a = (if f a then 1 else 0) + ctS f k (a + 1)
  | 0, a => by simp [ctS]
  | k + 1, a => by
    rw [ctS, ctS_front f k a, ctS, show a + ((k + 1 : Nat) : Int) = a + 1 + (k : Int) by omega]
    omega
theorem ctS_step {f : Int → Bool} {W : Nat} (h : ∀ n, f (n + W) = f n) (a : Int) : ctS f W (a + 1) = ctS f W a := by
  have h1 := ctS_front f W a
  rw [ctS, h] at h1
  omega
theorem ctS_nat {f : Int → Bool} {W : Nat} (h : ∀ n, f (n + W) = f n) : ∀ (b : Nat) (a : Int), ctS f W (a + b) = ctS f W a
  | 0, a => by simp
  | b + 1, a => by
    have e : a + ((b + 1 : Nat) : Int) = a + (b : Int) + 1 := by omega
    rw [e, ctS_step h, ctS_nat h b]
theorem ctS_any {f : Int → Bool} {W : Nat} (h : ∀ n, f (n + W) = f n) (a : Int) : ctS f W a = ctS f W 0 := by
  rcases Int.le_total 0 a with g | g
  · have := ctS_nat h a.toNat 0
    rwa [Int.toNat_of_nonneg g, Int.zero_add] at this
  · have := ctS_nat h (-a).toNat a
    rw [Int.toNat_of_nonneg (by omega)] at this
    rw [← this]; congr 1; omega
theorem ctS_shift (f : Int → Bool) (d : Int) : ∀ (k : Nat) (a : Int), ctS (fun n => f (n + d)) k a = ctS f k (a + d)
  | 0, _ => rfl
  | k + 1, a => by
    have e : a + (k : Int) + d = a + d + (k : Int) := by omega
    simp only [ctS]
    rw [ctS_shift f d k a]
    simp only [e]
theorem ctS_split (f : Int → Bool) (j : Nat) : ∀ (k : Nat) (a : Int), ctS f (j + k) a = ctS f j a + ctS f k (a + j)
  | 0, a => by simp [ctS]
  | k + 1, a => by
    rw [← Nat.add_assoc, ctS, ctS_split f j k a, ctS, show a + ((j + k : Nat) : Int) = a + (j : Int) + (k : Int) by omega]
    omega
theorem ctS_times {f : Int → Bool} {W : Nat} (h : ∀ n, f (n + W) = f n) : ∀ q : Nat, ctS f (q * W) 0 = q * ctS f W 0
  | 0 => by simp [ctS]
  | q + 1 => by rw [Nat.add_mul, Nat.one_mul, ctS_split, ctS_times h q, ctS_any h (0 + _), Nat.add_mul, Nat.one_mul]
theorem ctS_congr {f g : Int → Bool} (h : ∀ n, f n = g n) (k : Nat) (a : Int) : ctS f k a = ctS g k a := by
  have : f = g := funext h
  rw [this]

/-- whether a number is covered -/
def cvd (L : List (Int × Int)) (n : Int) : Bool := !(cnt L n == 0)
theorem covd_ct (L : List (Int × Int)) : ∀ k, covd L k = ctS (cvd L) k 0
  | 0 => rfl
  | k + 1 => by
    unfold covd ctS
    rw [covd_ct L k, Int.zero_add]
    unfold cvd
    by_cases h : cnt L (k : Int) = 0
    · rw [if_pos h, h]; rfl
    · rw [if_neg h]
      have : (cnt L (k : Int) == 0) = false := by simpa using h
      rw [this]; rfl

theorem cnt_period {L : List (Int × Int)} (hs : Sys L) (n : Int) : cnt L (n + ((wh L 1 : Nat) : Int)) = cnt L n := by
  rw [← cnt_rest hs (n + _), Int.add_emod_right, cnt_rest hs]

/-- a pair moved by b -/
def mv (b : Int) (p : Int × Int) : Int × Int := ((p.1 + b) % p.2, p.2)
theorem cov_mv (b : Int) {p : Int × Int} (n : Int) : cov (mv b p) n = cov p (n - b) := by
  unfold cov mv
  simp only
  have e : (n - (p.1 + b) % p.2) % p.2 = (n - b - p.1) % p.2 := by
    rw [Int.sub_emod, Int.emod_emod, ← Int.sub_emod]; congr 1; omega
  rw [e]
theorem cnt_mv (b : Int) (L : List (Int × Int)) (n : Int) : cnt (L.map (mv b)) n = cnt L (n - b) := by
  unfold cnt
  rw [List.filter_map, List.length_map]
  congr 1
  exact List.filter_congr (fun p _ => cov_mv b n)
theorem wh_mv (b : Int) : ∀ (L : List (Int × Int)) (n : Nat), wh (L.map (mv b)) n = wh L n
  | [], _ => rfl
  | p :: L, n => by
    rw [List.map_cons]
    unfold wh
    rw [wh_mv b L]; rfl
theorem sys_mv {b : Int} {L : List (Int × Int)} (h : Sys L) : Sys (L.map (mv b)) := by
  obtain ⟨h1, h2, h3, h4⟩ := h
  refine ⟨by rw [List.length_map]; exact h1, by rw [List.length_map]; exact h2, fun p hp => ?_, by rw [wh_mv]; exact h4⟩
  obtain ⟨q, hq, rfl⟩ := List.mem_map.1 hp
  obtain ⟨o1, o2, o3, o4⟩ := h3 q hq
  exact ⟨o1, o2, Int.emod_nonneg _ (by omega), Int.emod_lt_of_pos _ (by omega)⟩
theorem covd_mv {b : Int} {L : List (Int × Int)} (h : Sys L) : covd (L.map (mv b)) (wh L 1) = covd L (wh L 1) := by
  rw [covd_ct, covd_ct]
  have e : ∀ n, cvd (L.map (mv b)) n = (fun n => cvd L (n + -b)) n := fun n => by unfold cvd; rw [cnt_mv]; rfl
  rw [ctS_congr e, ctS_shift, ctS_any (fun n => by unfold cvd; rw [cnt_period h])]
theorem share_mv {b : Int} {L : List (Int × Int)} (h : Sys L) : shN (L.map (mv b)) = shN L ∧ shD (L.map (mv b)) = shD L := by
  unfold shN shD
  rw [wh_mv, covd_mv h]; exact ⟨rfl, rfl⟩
theorem fstE_same {L M : List (Int × Int)} (t : Bool) (hL : Sys L) (hM : Sys M) (h : (∀ n, askB t (cnt L n) = false) ↔ ∀ n, askB t (cnt M n) = false) : fstE t M = fstE t L := by
  have a := fstE_none (t := t) hL
  have b := fstE_none (t := t) hM
  rcases fstE_cases t L with e | e <;> rcases fstE_cases t M with g | g
  · rw [e, g]
  · have := a.2 (h.2 (b.1 g)); omega
  · have := b.2 (h.1 (a.1 e)); omega
  · rw [e, g]
theorem fstE_mv {b : Int} {L : List (Int × Int)} (t : Bool) (h : Sys L) : fstE t (L.map (mv b)) = fstE t L := by
  refine fstE_same t h (sys_mv h) ⟨fun g n => by rw [cnt_mv]; exact g _, fun g n => ?_⟩
  have := g (n + b)
  rw [cnt_mv] at this
  rw [← this]; congr 2; omega

theorem ndB_all {L : List (Int × Int)} {p : Int × Int} (h : Sys L) (hp : p ∈ L) : ndB L p = true ↔ ∀ n : Int, cov p n = true → cnt L n ≠ 1 := by
  rw [ndB_iff]
  have hW := h.pos
  constructor
  · intro g n hc
    have h1 := Int.emod_nonneg n (show ((wh L 1 : Nat) : Int) ≠ 0 by omega)
    have h2 := Int.emod_lt_of_pos n (show (0 : Int) < ((wh L 1 : Nat) : Int) by omega)
    have := g (n % ((wh L 1 : Nat) : Int)).toNat (by omega)
    rw [Int.toNat_of_nonneg h1, cnt_rest h] at this
    refine this ?_
    unfold cov at hc ⊢
    rw [cong_rest (h.dvd hp)]; exact hc
  · intro g n _ hc
    exact g n hc
theorem ndB_mv {b : Int} {L : List (Int × Int)} {p : Int × Int} (h : Sys L) (hp : p ∈ L) : ndB (L.map (mv b)) (mv b p) = ndB L p := by
  rw [Bool.eq_iff_iff, ndB_all h hp, ndB_all (sys_mv h) (List.mem_map.2 ⟨p, hp, rfl⟩)]
  constructor
  · intro g n hc
    have := g (n + b) (by rw [cov_mv]; rw [show n + b - b = n by omega]; exact hc)
    rwa [cnt_mv, show n + b - b = n by omega] at this
  · intro g n hc
    rw [cov_mv] at hc
    rw [cnt_mv]; exact g _ hc
theorem ndUp_mv {b : Int} {L : List (Int × Int)} (h : Sys L) : ndUp (L.map (mv b)) (L.map (mv b)).length = ndUp L L.length := by
  unfold ndUp
  rw [List.length_map]
  congr 1
  refine List.filter_congr (fun i hi => ?_)
  have hi := List.mem_range.1 hi
  have e1 : L.getD i (0, 0) = L[i] := by rw [List.getD_eq_getElem?_getD, List.getElem?_eq_getElem hi]; rfl
  have e2 : (L.map (mv b)).getD i (0, 0) = mv b L[i] := by rw [List.getD_eq_getElem?_getD, List.getElem?_map, List.getElem?_eq_getElem hi]; rfl
  rw [e1, e2, ndB_mv h (List.getElem_mem hi)]

/-- the pairs into which (x, m) is parted -/
def ptP (x m : Int) (r : Nat) : List (Int × Int) := List.map (fun (k : Nat) => (x + (k : Int) * m, (r : Int) * m)) (List.range r)
theorem ptP_len (x m : Int) (r : Nat) : (ptP x m r).length = r := by simp [ptP]
theorem cov_part {x m n : Int} {r k : Nat} (hm : 1 ≤ m) (hk : k < r) (q : Int) (hq : n - x = m * q) : cov (x + (k : Int) * m, (r : Int) * m) n = decide (q % (r : Int) = (k : Int)) := by
  unfold cov
  simp only
  have e : n - (x + (k : Int) * m) = m * (q - k) := by rw [Int.mul_sub, Int.mul_comm m k]; omega
  rw [e, Int.mul_comm (r : Int) m, Int.mul_emod_mul_of_pos _ _ (by omega), Bool.eq_iff_iff, beq_iff_eq, decide_eq_true_iff]
  constructor
  · intro h
    have h1 : (q - k) % (r : Int) = 0 := by
      rcases Int.mul_eq_zero.1 h with g | g
      · omega
      · exact g
    have h2 := (Int.emod_eq_emod_iff_emod_sub_eq_zero).2 h1
    rw [h2, Int.emod_eq_of_lt (by omega) (by omega)]
  · intro h
    have h2 : q % (r : Int) = (k : Int) % (r : Int) := by rw [h, Int.emod_eq_of_lt (by omega) (by omega)]
    rw [(Int.emod_eq_emod_iff_emod_sub_eq_zero).1 h2]; simp

theorem cnt_append (L M : List (Int × Int)) (n : Int) : cnt (L ++ M) n = cnt L n + cnt M n := by
  unfold cnt; rw [List.filter_append, List.length_append]
theorem cnt_one (p : Int × Int) (n : Int) : cnt [p] n = if cov p n then 1 else 0 := by
  unfold cnt; rw [List.filter_cons]; cases cov p n <;> rfl

theorem cnt_ptUp {x m n : Int} {r : Nat} (hm : 1 ≤ m) (hr : 1 ≤ r) : ∀ j, j ≤ r → cnt (List.map (fun (k : Nat) => (x + (k : Int) * m, (r : Int) * m)) (List.range j)) n = if cov (x, m) n = true ∧ ((n - x) / m) % (r : Int) < j then 1 else 0
  | 0, _ => by
    rw [if_neg (fun h => by
      have := Int.emod_nonneg ((n - x) / m) (show (r : Int) ≠ 0 by omega)
      omega)]; rfl
  | j + 1, hj => by
    rw [List.range_succ, List.map_append, cnt_append, cnt_ptUp hm hr j (by omega)]
    have hpos := Int.emod_nonneg ((n - x) / m) (show (r : Int) ≠ 0 by omega)
    show _ + cnt [(x + (j : Int) * m, (r : Int) * m)] n = _
    rw [cnt_one]
    by_cases hc : cov (x, m) n = true
    · have hz : (n - x) % m = 0 := by unfold cov at hc; exact eq_of_beq hc
      have hq : n - x = m * ((n - x) / m) := (Int.mul_ediv_cancel' (Int.dvd_of_emod_eq_zero hz)).symm
      rw [cov_part hm (by omega) _ hq]
      generalize hz2 : (n - x) / m % (r : Int) = z at *
      by_cases h1 : z < (j : Int)
      · have t1 : (cov (x, m) n = true ∧ z < (j : Int)) := ⟨hc, h1⟩
        have t2 : (cov (x, m) n = true ∧ z < ((j + 1 : Nat) : Int)) := ⟨hc, by omega⟩
        have t3 : ¬ z = (j : Int) := by omega
        simp only [t1, t2, t3, decide_false]; simp
      · by_cases h2 : z = (j : Int)
        · have t1 : ¬ (cov (x, m) n = true ∧ z < (j : Int)) := fun h => h1 h.2
          have t2 : (cov (x, m) n = true ∧ z < ((j + 1 : Nat) : Int)) := ⟨hc, by omega⟩
          rw [if_neg t1, if_pos t2, decide_eq_true h2]; rfl
        · have t1 : ¬ (cov (x, m) n = true ∧ z < (j : Int)) := fun h => h1 h.2
          have t2 : ¬ (cov (x, m) n = true ∧ z < ((j + 1 : Nat) : Int)) := fun h => by have := h.2; omega
          rw [if_neg t1, if_neg t2, decide_eq_false h2]; rfl
    · have hf : cov (x + (j : Int) * m, (r : Int) * m) n = false := by
        cases e : cov (x + (j : Int) * m, (r : Int) * m) n with
        | false => rfl
        | true =>
          exfalso
          apply hc
          unfold cov at e ⊢
          simp only [beq_iff_eq] at e ⊢
          have d1 := Int.dvd_of_emod_eq_zero e
          have d2 : m ∣ n - (x + (j : Int) * m) := Int.dvd_trans (Int.dvd_mul_left _ _) d1
          have e2 : n - x = (n - (x + (j : Int) * m)) + (j : Int) * m := by omega
          rw [e2]
          exact Int.emod_eq_zero_of_dvd (Int.dvd_add d2 (Int.dvd_mul_left _ _))
      have t1 : ∀ y : Int, ¬ (cov (x, m) n = true ∧ (n - x) / m % (r : Int) < y) := fun y h => hc h.1
      rw [hf, if_neg (t1 _), if_neg (t1 _)]; rfl
theorem cnt_ptP {x m n : Int} {r : Nat} (hm : 1 ≤ m) (hr : 1 ≤ r) : cnt (ptP x m r) n = if cov (x, m) n then 1 else 0 := by
  unfold ptP
  rw [cnt_ptUp hm hr r (Nat.le_refl _)]
  have h := Int.emod_lt_of_pos ((n - x) / m) (show (0 : Int) < (r : Int) by omega)
  by_cases hc : cov (x, m) n = true
  · rw [if_pos ⟨hc, h⟩, if_pos hc]
  · rw [if_neg (fun g => hc g.1), if_neg hc]

/-- a system in which the pair at i is parted -/
def part (L : List (Int × Int)) (i r : Nat) : List (Int × Int) := match L[i]? with
  | some p => L.take i ++ ptP p.1 p.2 r ++ L.drop (i + 1)
  | none => L
theorem part_at {L : List (Int × Int)} {i r : Nat} {p : Int × Int} (h : L[i]? = some p) : part L i r = L.take i ++ ptP p.1 p.2 r ++ L.drop (i + 1) := by unfold part; rw [h]
theorem cnt_parted {L : List (Int × Int)} {i r : Nat} {p : Int × Int} (h : L[i]? = some p) (hm : 1 ≤ p.2) (hr : 1 ≤ r) (n : Int) : cnt (part L i r) n = cnt L n := by
  rw [part_at h, cnt_append, cnt_append, cnt_ptP hm hr]
  obtain ⟨hi, e⟩ := List.getElem?_eq_some_iff.1 h
  have hL : L = L.take i ++ ([p] ++ L.drop (i + 1)) := by
    rw [← e]
    conv => lhs; rw [← List.take_append_drop i L]
    rw [List.drop_eq_getElem_cons hi]; rfl
  conv => rhs; rw [hL]
  have e3 : cov (p.1, p.2) n = cov p n := rfl
  rw [cnt_append, cnt_append, cnt_one, e3]
  omega

theorem fstV_same {L M : List (Int × Int)} (t : Bool) (hL : Sys L) (hM : Sys M) (h : ∀ n, cnt M n = cnt L n) : fstV t M = fstV t L ∧ fstE t M = fstE t L := by
  have hE := fstE_same (L := L) (M := M) t hL hM ⟨fun g n => by rw [h]; exact g n, fun g n => by rw [← h]; exact g n⟩
  refine ⟨?_, hE⟩
  rcases fstE_cases t L with e | e
  · obtain ⟨a, ha, _, a1, a2⟩ := fstE_some e
    obtain ⟨b, hb, _, b1, b2⟩ := fstE_some (hE.trans e)
    rw [h] at b1
    have : a = b := by
      rcases Nat.lt_trichotomy a b with g | g | g
      · have := b2 a g; rw [h, a1] at this; cases this
      · exact g
      · have := a2 b g; rw [b1] at this; cases this
    rw [ha, hb, this]
  · have z : ∀ K, fstE t K = 4 → fstV t K = 0 := by
      intro K hK
      unfold fstE at hK
      unfold fstV
      cases hf : fstL t K (wh K 1) 0 with
      | none => rfl
      | some n => rw [hf] at hK; simp at hK
    rw [z L e, z M (hE.trans e)]

theorem frac_same {a W b V : Nat} (hW : 1 ≤ W) (hV : 1 ≤ V) (h : a * V = b * W) : a / Nat.gcd a W = b / Nat.gcd b V ∧ W / Nat.gcd a W = V / Nat.gcd b V := by
  have g1 : 0 < Nat.gcd a W := Nat.gcd_pos_of_pos_right _ (by omega)
  have g2 : 0 < Nat.gcd b V := Nat.gcd_pos_of_pos_right _ (by omega)
  -- gcd a W * V = gcd b V * W
  have key : Nat.gcd a W * V = Nat.gcd b V * W := by
    rw [← Nat.gcd_mul_right, ← Nat.gcd_mul_right, h, Nat.mul_comm W V]
  have d1 := Nat.div_mul_cancel (Nat.gcd_dvd_right a W)
  have d2 := Nat.div_mul_cancel (Nat.gcd_dvd_right b V)
  have d3 := Nat.div_mul_cancel (Nat.gcd_dvd_left a W)
  have d4 := Nat.div_mul_cancel (Nat.gcd_dvd_left b V)
  have hdv := Nat.gcd_dvd_right b V
  generalize hG : Nat.gcd a W = G at *
  generalize hH : Nat.gcd b V = H at *
  have e2 : W / G = V / H := by
    have : G * (H * (V / H)) = H * (G * (W / G)) := by rw [Nat.mul_comm H (V / H), d2, Nat.mul_comm G (W / G), d1]; exact key
    have : (G * H) * (V / H) = (G * H) * (W / G) := by rw [Nat.mul_assoc, this, ← Nat.mul_assoc, Nat.mul_comm H G]
    exact (Nat.eq_of_mul_eq_mul_left (Nat.mul_pos g1 g2) this).symm
  refine ⟨?_, e2⟩
  have hp : 0 < V / H := Nat.div_pos (Nat.le_of_dvd (by omega) hdv) g2
  have e : (a / G) * (G * (H * (V / H))) = (b / H) * (H * (G * (W / G))) := by
    rw [Nat.mul_comm H (V / H), d2, Nat.mul_comm G (W / G), d1, ← Nat.mul_assoc, d3, ← Nat.mul_assoc, d4, h]
  rw [e2] at e
  have e' : (G * H * (V / H)) * (a / G) = (G * H * (V / H)) * (b / H) := by
    rw [Nat.mul_comm _ (a / G), Nat.mul_comm _ (b / H)]
    have x1 : G * H * (V / H) = G * (H * (V / H)) := Nat.mul_assoc ..
    have x2 : G * H * (V / H) = H * (G * (V / H)) := by rw [Nat.mul_comm G H, Nat.mul_assoc]
    conv => lhs; rw [x1]
    conv => rhs; rw [x2]
    exact e
  exact Nat.eq_of_mul_eq_mul_left (Nat.mul_pos (Nat.mul_pos g1 g2) hp) e'

theorem share_same {L M : List (Int × Int)} (hL : Sys L) (hM : Sys M) (h : ∀ n, cnt M n = cnt L n) : shN M = shN L ∧ shD M = shD L := by
  have e : ∀ k, covd M k = covd L k := fun k => by
    rw [covd_ct, covd_ct]; exact ctS_congr (fun n => by unfold cvd; rw [h]) _ _
  have pL : ∀ n, cvd L (n + ((wh L 1 : Nat) : Int)) = cvd L n := fun n => by unfold cvd; rw [cnt_period hL]
  have pM : ∀ n, cvd L (n + ((wh M 1 : Nat) : Int)) = cvd L n := fun n => by unfold cvd; rw [← h, cnt_period hM, h]
  unfold shN shD
  rw [e]
  refine frac_same hM.pos hL.pos ?_
  have h1 := ctS_times pL (wh M 1)
  have h2 := ctS_times pM (wh L 1)
  rw [Nat.mul_comm (wh L 1)] at h2
  rw [h2] at h1
  rw [covd_ct, covd_ct, Nat.mul_comm, h1, Nat.mul_comm]
end Go.Proofs.Ytmmgidhaakkaoaa
