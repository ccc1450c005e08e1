/- lift: the rest, powers of the small primes, valid polynomials, the value of a polynomial. -/
import Derived.Test.YtdombadhmaanfaaAg
import Derived.Deep.QuietTactic
namespace Go.Proofs.Ytdombadhmaanfaa
open Go Go.RowKit

def minL : List Int → Int
  | [] => 0
  | x :: L => L.foldl min x
def maxL : List Int → Int
  | [] => 0
  | x :: L => L.foldl max x
theorem foldl_min (L : List Int) : ∀ x b : Int, (b ≤ L.foldl min x ↔ b ≤ x ∧ ∀ y ∈ L, b ≤ y) := by
  induction L with
  | nil => intro x b; simp
  | cons y L ih => intro x b; rw [List.foldl_cons, ih, Int.le_min, and_assoc]; simp only [List.mem_cons, forall_eq_or_imp]
theorem foldl_max (L : List Int) : ∀ x b : Int, (L.foldl max x ≤ b ↔ x ≤ b ∧ ∀ y ∈ L, y ≤ b) := by
  induction L with
  | nil => intro x b; simp
  | cons y L ih => intro x b; rw [List.foldl_cons, ih, Int.max_le, and_assoc]; simp only [List.mem_cons, forall_eq_or_imp]
theorem minL_le {L : List Int} (h : 1 ≤ L.length) (b : Int) : b ≤ minL L ↔ ∀ y ∈ L, b ≤ y := by
  cases L with
  | nil => simp at h
  | cons x L => rw [minL, foldl_min]; simp
theorem maxL_le {L : List Int} (h : 1 ≤ L.length) (b : Int) : maxL L ≤ b ↔ ∀ y ∈ L, y ≤ b := by
  cases L with
  | nil => simp at h
  | cons x L => rw [maxL, foldl_max]; simp
theorem min_succ {L : List Int} {k : Nat} {x : Int} (hk : 1 ≤ k) (h : L[k]? = some x) : minL (L.take (k + 1)) = min (minL (L.take k)) x := by
  obtain ⟨hk2, e⟩ := List.getElem?_eq_some_iff.1 h
  rw [List.take_succ_eq_append_getElem hk2, e]
  cases L with
  | nil => simp at h
  | cons y L =>
    obtain ⟨j, rfl⟩ : ∃ j, k = j + 1 := ⟨k - 1, by omega⟩
    simp [minL]
theorem max_succ {L : List Int} {k : Nat} {x : Int} (hk : 1 ≤ k) (h : L[k]? = some x) : maxL (L.take (k + 1)) = max (maxL (L.take k)) x := by
  obtain ⟨hk2, e⟩ := List.getElem?_eq_some_iff.1 h
  rw [List.take_succ_eq_append_getElem hk2, e]
  cases L with
  | nil => simp at h
  | cons y L =>
    obtain ⟨j, rfl⟩ : ∃ j, k = j + 1 := ⟨k - 1, by omega⟩
    simp [maxL]

set_option maxHeartbeats 400000 in
theorem pmin_any (A : Option Addr) (l c : Nat) (L : List Int) (w : World) (h : IRow w w.heap.size A l L) (hl : 1 ≤ l) (hl2 : l ≤ 1000000) :
    Calls Try.prog 90 #[.slice A l c] w fun e w' => e = .returned (.int .i64 (minL L)) ∧ w = w' := by
  have HR := Lib.hid h
  have HL := Lib.hid h.1
  obtain ⟨b0, off0, x0, hx0, rfl, hB0, g0⟩ := h.at_ (k := 0) (by omega)
  have H0 : Hid (minL (L.take 1) = x0) := Lib.hid (by
    cases L with
    | nil => simp at hx0
    | cons y L => simp at hx0; subst hx0; rfl)
  rw [Nat.add_zero] at g0
  clear h hx0
  go_enter Try.func90, Try.ntmps90
  go_wp2_with fail
  go_loop [3, 4] (fun v x => ∃ k : Nat, 1 ≤ k ∧ k ≤ l ∧ x = .int .i64 (k : Int) ∧ v = .int .i64 (minL (L.take k))) (fun _ x => l - (intOf x).toNat)
  case atStart => exact ⟨1, by omega, by omega, rfl, by rw [H0.out]⟩
  case round =>
    obtain ⟨k, hk1, hk, rfl, rfl⟩ := hrel
    by_cases hlt : k < l
    · obtain ⟨b, off, x, hx, hA, hB, g1⟩ := HR.out.at_ hlt
      injection hA with hA
      injection hA with hA1 hA2
      subst hA1 hA2
      have HS := Lib.hid (min_succ hk1 hx)
      have hki : (k : Int) < (l : Int) := by omega
      clear hx
      go_wp2_with fail
      go_round
      case rel => exact ⟨k + 1, by omega, by omega, by go_num, by rw [HS.out]; congr 1; split <;> omega⟩
      case measure => simp [intOf]; omega
    · have e : k = l := by omega
      subst e
      have HE : Hid (L.take k = L) := Lib.hid (List.take_of_length_le (by rw [← HL.out]; omega))
      go_wp2_with fail
      go_ret
      exact ⟨by rw [HE.out]; rfl, rfl⟩

set_option maxHeartbeats 400000 in
theorem pmax_any (A : Option Addr) (l c : Nat) (L : List Int) (w : World) (h : IRow w w.heap.size A l L) (hl : 1 ≤ l) (hl2 : l ≤ 1000000) :
    Calls Try.prog 91 #[.slice A l c] w fun e w' => e = .returned (.int .i64 (maxL L)) ∧ w = w' := by
  have HR := Lib.hid h
  have HL := Lib.hid h.1
  obtain ⟨b0, off0, x0, hx0, rfl, hB0, g0⟩ := h.at_ (k := 0) (by omega)
  have H0 : Hid (maxL (L.take 1) = x0) := Lib.hid (by
    cases L with
    | nil => simp at hx0
    | cons y L => simp at hx0; subst hx0; rfl)
  rw [Nat.add_zero] at g0
  clear h hx0
  go_enter Try.func91, Try.ntmps91
  go_wp2_with fail
  go_loop [3, 4] (fun v x => ∃ k : Nat, 1 ≤ k ∧ k ≤ l ∧ x = .int .i64 (k : Int) ∧ v = .int .i64 (maxL (L.take k))) (fun _ x => l - (intOf x).toNat)
  case atStart => exact ⟨1, by omega, by omega, rfl, by rw [H0.out]⟩
  case round =>
    obtain ⟨k, hk1, hk, rfl, rfl⟩ := hrel
    by_cases hlt : k < l
    · obtain ⟨b, off, x, hx, hA, hB, g1⟩ := HR.out.at_ hlt
      injection hA with hA
      injection hA with hA1 hA2
      subst hA1 hA2
      have HS := Lib.hid (max_succ hk1 hx)
      have hki : (k : Int) < (l : Int) := by omega
      clear hx
      go_wp2_with fail
      go_round
      case rel => exact ⟨k + 1, by omega, by omega, by go_num, by rw [HS.out]; congr 1; split <;> omega⟩
      case measure => simp [intOf]; omega
    · have e : k = l := by omega
      subst e
      have HE : Hid (L.take k = L) := Lib.hid (List.take_of_length_le (by rw [← HL.out]; omega))
      go_wp2_with fail
      go_ret
      exact ⟨by rw [HE.out]; rfl, rfl⟩

theorem ltmod_bd (a : Int) {n : Int} (hn : 0 < n) : -n < a.tmod n ∧ a.tmod n < n := by
  rcases Int.le_total 0 a with h | h
  · rw [Int.tmod_eq_emod_of_nonneg h]
    have := Int.emod_nonneg a (show n ≠ 0 by omega)
    have := Int.emod_lt_of_pos a hn
    omega
  · have h3 : a.tmod n = -((-a) % n) := by
      have := Int.neg_tmod (-a) n
      rw [Int.neg_neg] at this
      rw [this, Int.tmod_eq_emod_of_nonneg (by omega)]
    have := Int.emod_nonneg (-a) (show n ≠ 0 by omega)
    have := Int.emod_lt_of_pos (-a) hn
    omega
theorem ltmod_rest (a : Int) {p : Nat} (hp : 0 < p) : (a.tmod p + p).tmod p = a % (p : Int) := by
  have h1 : -(p : Int) < a.tmod p := (ltmod_bd a (by omega)).1
  rw [Int.tmod_eq_emod_of_nonneg (by omega), Int.add_emod_right]
  have e := Int.tmod_add_mul_tdiv a p
  have h2 : a.tmod p = a + (p : Int) * (-(a.tdiv p)) := by rw [Int.mul_neg]; omega
  rw [h2, Int.add_mul_emod_self_left]

set_option maxRecDepth 100000 in
theorem lmod_any (n : Int) (m : Nat) (w : World) (h1 : 1 ≤ m) (h2 : m ≤ 1000000) (_h3 : -1000000000000 ≤ n) (_h4 : n ≤ 1000000000000) :
    Calls Try.prog 93 #[.int .i64 n, .int .i64 (m : Int)] w fun e w' => e = .returned (.int .i64 (n % (m : Int))) ∧ Below w.heap.size w w' := by
  have hr := ltmod_rest n (p := m) (by omega)
  obtain ⟨t1, t2⟩ := ltmod_bd n (show (0 : Int) < (m : Int) by omega)
  have s1 : IntKind.i64.wrap (n.tmod m + m) = n.tmod m + m := IntWalk.i64_in _ (by omega)
  go_enter Try.func93, Try.ntmps93
  go_wp2_with fail
  go_ret
  exact ⟨by first | rfl | rw [hr], Below.refl _ _⟩

/-- whether a power may be asked for -/
def pwB (p k : Int) : Bool := lpB p && decide (1 ≤ k ∧ k ≤ 15 ∧ p.toNat ^ k.toNat ≤ 20000)
def pwV (p k : Int) : Int := if pwB p k then ((p.toNat ^ k.toNat : Nat) : Int) else 0
theorem lpB_yes {p : Int} (h : lpB p = true) : ∃ P : Nat, p = P ∧ 2 ≤ P ∧ P ≤ 13 := by
  have h2 := of_decide_eq_true h
  simp only [List.mem_cons, List.not_mem_nil, or_false] at h2
  exact ⟨p.toNat, by omega, by omega, by omega⟩
theorem pow_up {p j k : Nat} (hp : 1 ≤ p) (h : j ≤ k) : p ^ j ≤ p ^ k := Nat.pow_le_pow_right hp h

set_option maxHeartbeats 1000000 in
theorem power_any (p k : Int) (w : World) :
    Calls Try.prog 74 #[.int .i64 p, .int .i64 k] w fun e w' => e = .returned (.tuple #[.int .i64 (pwV p k), .bool (pwB p k)]) ∧ Below w.heap.size w w' := by
  have HL := Lib.hid (fun w' => lprime_any p w')
  obtain ⟨q, hq⟩ : ∃ q, lpB p = q := ⟨_, rfl⟩
  rw [hq] at HL
  cases q with
  | false =>
    have e : pwB p k = false := by unfold pwB; rw [hq]; rfl
    have e0 : pwV p k = 0 := by unfold pwV; rw [e]; rfl
    rw [e, e0]
    clear e e0 hq
    go_enter Try.func74, Try.ntmps74
    go_wp2_with fail
    refine (HL.out _).mono ?_; rintro e w1 ⟨rfl, hb1⟩
    have HB1 := Lib.hid hb1
    clear hb1
    go_wp2_with fail
    go_ret2
    exact ⟨rfl, HB1.out⟩
  | true =>
    obtain ⟨P, rfl, hP1, hP2⟩ := lpB_yes hq
    by_cases hk : 1 ≤ k ∧ k ≤ 15
    case neg =>
      have e : pwB (P : Int) k = false := by unfold pwB; rw [decide_eq_false (fun h => hk ⟨h.1, h.2.1⟩), Bool.and_false]
      have e0 : pwV (P : Int) k = 0 := by unfold pwV; rw [e]; rfl
      rw [e, e0]
      clear e e0 hq
      by_cases hk1 : 1 ≤ k
      · have hk2 : 15 < k := by omega
        clear hk
        go_enter Try.func74, Try.ntmps74
        go_wp2_with fail
        refine (HL.out _).mono ?_; rintro e w1 ⟨rfl, hb1⟩
        have HB1 := Lib.hid hb1
        clear hb1
        go_wp2_with fail
        go_ret2
        exact ⟨rfl, HB1.out⟩
      · have hk2 : k < 1 := by omega
        clear hk hk1
        go_enter Try.func74, Try.ntmps74
        go_wp2_with fail
        refine (HL.out _).mono ?_; rintro e w1 ⟨rfl, hb1⟩
        have HB1 := Lib.hid hb1
        clear hb1
        go_wp2_with fail
        go_ret2
        exact ⟨rfl, HB1.out⟩
    case pos =>
    obtain ⟨K, rfl⟩ : ∃ K : Nat, k = K := ⟨k.toNat, by omega⟩
    have hk1 : 1 ≤ K := by omega
    have hk2 : K ≤ 15 := by omega
    obtain ⟨v, hv⟩ : ∃ v, pwB (P : Int) (K : Int) = v := ⟨_, rfl⟩
    have hvd : v = decide (P ^ K ≤ 20000) := by
      rw [← hv]; unfold pwB
      rw [hq, Bool.true_and, Int.toNat_natCast, Int.toNat_natCast, Bool.eq_iff_iff, decide_eq_true_iff, decide_eq_true_iff]
      constructor
      · intro h; exact h.2.2
      · intro h; exact ⟨hk.1, hk.2, h⟩
    obtain ⟨V, hV⟩ : ∃ V, pwV (P : Int) (K : Int) = V := ⟨_, rfl⟩
    have hVd : V = if v then ((P ^ K : Nat) : Int) else 0 := by
      rw [← hV]; unfold pwV
      rw [hv, Int.toNat_natCast, Int.toNat_natCast]
    rw [hv, hV]
    have HV := Lib.hid hvd
    have HVV := Lib.hid hVd
    have HUP : Hid (∀ j, j ≤ K → P ^ j ≤ P ^ K) := Lib.hid (fun j hj => pow_up (by omega) hj)
    have HS : Hid (∀ j, P ^ (j + 1) = P ^ j * P) := Lib.hid (fun j => Nat.pow_succ P j)
    have HZ : Hid (P ^ 0 = 1) := Lib.hid (Nat.pow_zero P)
    clear hq hv hvd hk hV hVd
    have hKi : (K : Int) ≤ 15 := by omega
    go_enter Try.func74, Try.ntmps74
    go_wp2_with fail
    refine (HL.out _).mono ?_; rintro e w1 ⟨rfl, hb1⟩
    have HB1 := Lib.hid hb1
    clear hb1
    go_wp2_with fail
    go_loop [6, 19] (fun o x => ∃ j M : Nat, j ≤ K ∧ M ≤ 20000 ∧ 1 ≤ M ∧ Hid (P ^ j = M) ∧ o = .int .i64 (M : Int) ∧ x = .int .i64 (j : Int)) (fun _ x => K - (intOf x).toNat)
    case atStart => exact ⟨0, 1, by omega, by omega, by omega, HZ, rfl, rfl⟩
    case round =>
      obtain ⟨j, M, hj, hM, hM1, hpw, rfl, rfl⟩ := hrel
      by_cases hlt : j < K
      · have hlti : (j : Int) < (K : Int) := by omega
        have hmul : (M : Int) * (P : Int) ≤ 20000 * 13 := Int.mul_le_mul (by omega) (by omega) (by omega) (by omega)
        have hmul0 : 1 ≤ (M : Int) * (P : Int) := by
          have := Int.mul_le_mul (show (1 : Int) ≤ (M : Int) by omega) (show (1 : Int) ≤ (P : Int) by omega) (by omega) (by omega)
          omega
        obtain ⟨Z, hZ⟩ : ∃ Z, M * P = Z := ⟨_, rfl⟩
        have hZi : (M : Int) * (P : Int) = (Z : Int) := by rw [← hZ, Int.natCast_mul]
        have HZI := Lib.hid hZi
        have HNX : Hid (P ^ (j + 1) = Z) := Lib.hid (by rw [HS.out, hpw.out, hZ])
        by_cases hc : Z ≤ 20000
        · have hci : (M : Int) * (P : Int) ≤ 20000 := by omega
          clear hZ hZi
          go_wp2_with fail
          go_round
          case rel => exact ⟨j + 1, Z, by omega, hc, by have := HZI.out; omega, HNX, by rw [← HZI.out], by go_num⟩
          case measure => simp [intOf]; omega
        · have hci : 20000 < (M : Int) * (P : Int) := by omega
          obtain rfl : v = false := HV.out.trans (decide_eq_false (fun h => hc (by rw [← HNX.out]; exact Nat.le_trans (HUP.out (j + 1) (by omega)) h)))
          obtain rfl : V = 0 := HVV.out
          clear hZ hZi
          go_wp2_with fail
          go_ret2
          exact ⟨rfl, HB1.out⟩
      · have hjK : j = K := by omega
        subst hjK
        obtain rfl : v = true := HV.out.trans (decide_eq_true (by rw [hpw.out]; exact hM))
        obtain rfl : V = (M : Int) := by have := HVV.out; rw [if_pos rfl, hpw.out] at this; exact this
        go_wp2_with fail
        go_ret2
        exact ⟨rfl, HB1.out⟩
end Go.Proofs.Ytdombadhmaanfaa
