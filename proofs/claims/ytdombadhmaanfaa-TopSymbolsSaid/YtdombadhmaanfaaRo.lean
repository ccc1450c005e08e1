/- Square roots: the walks of Root and Least, of the program and of the reference. -/
import Derived.Test.YtdombadhmaanfaaLa
namespace Go.Proofs.Ytdombadhmaanfaa
open Go Go.RowKit GhN

theorem bt {a b c : World} (h : Below a.heap.size a b) (k : Below b.heap.size b c) : Below a.heap.size a c := h.trans (k.mono h.size)

/-- no root below x -/
def NoRoot (a p x : Nat) : Prop := ∀ y, y < x → (y * y) % p ≠ a
theorem noRoot_step {a p x : Nat} (h : NoRoot a p x) (hx : (x * x) % p ≠ a) : NoRoot a p (x + 1) := fun y hy => by
  by_cases e : y = x
  · subst e; exact hx
  · exact h y (by omega)

/-- the least root, or p -/
def lr (a p : Nat) : Nat → Nat → Nat
  | 0, x => x
  | k + 1, x => if (x * x) % p = a then x else lr a p k (x + 1)

theorem lr_spec (a p : Nat) : ∀ k x, lr a p k x ≤ x + k ∧ x ≤ lr a p k x ∧ (∀ y, x ≤ y → y < lr a p k x → (y * y) % p ≠ a) ∧ (lr a p k x < x + k → (lr a p k x * lr a p k x) % p = a) := by
  intro k
  induction k with
  | zero => intro x; exact ⟨by simp [lr], by simp [lr], fun y h1 h2 => by simp [lr] at h2; omega, fun h => by simp [lr] at h⟩
  | succ k ih =>
    intro x
    by_cases h : (x * x) % p = a
    · have e : lr a p (k + 1) x = x := by unfold lr; rw [if_pos h]
      rw [e]
      exact ⟨by omega, by omega, fun y h1 h2 => by omega, fun _ => h⟩
    · have e : lr a p (k + 1) x = lr a p k (x + 1) := by rw [lr, if_neg h]
      rw [e]
      obtain ⟨h1, h2, h3, h4⟩ := ih (x + 1)
      refine ⟨by omega, by omega, fun y hy1 hy2 => ?_, fun hlt => h4 (by omega)⟩
      by_cases e2 : y = x
      · subst e2; exact h
      · exact h3 y (by omega) hy2

/-- what Root finds: the least root and 0, or 0 and 4 -/
def rtV (a p : Nat) : Nat := if lr a p p 0 < p then lr a p p 0 else 0
def rtE (a p : Nat) : Int := if lr a p p 0 < p then 0 else 4

theorem rt_found {a p x : Nat} (hx : x < p) (h : NoRoot a p x) (e : (x * x) % p = a) : rtV a p = x ∧ rtE a p = 0 := by
  obtain ⟨h1, h2, h3, h4⟩ := lr_spec a p p 0
  have : lr a p p 0 = x := by
    rcases Nat.lt_trichotomy (lr a p p 0) x with g | g | g
    · exact absurd (h4 (by omega)) (h _ g)
    · exact g
    · exact absurd e (h3 x (by omega) g)
  unfold rtV rtE; rw [this, if_pos hx, if_pos hx]; exact ⟨rfl, rfl⟩

theorem rt_none {a p : Nat} (h : NoRoot a p p) : rtV a p = 0 ∧ rtE a p = 4 := by
  obtain ⟨h1, h2, h3, h4⟩ := lr_spec a p p 0
  have : ¬ lr a p p 0 < p := fun g => absurd (h4 (by omega)) (h _ g)
  unfold rtV rtE; rw [if_neg this, if_neg this]; exact ⟨rfl, rfl⟩

theorem rt_some {a p : Nat} (h : rtE a p = 0) : rtV a p < p ∧ (rtV a p * rtV a p) % p = a ∧ NoRoot a p (rtV a p) := by
  obtain ⟨h1, h2, h3, h4⟩ := lr_spec a p p 0
  have hlt : lr a p p 0 < p := by
    apply Classical.byContradiction; intro g
    unfold rtE at h; rw [if_neg g] at h; exact absurd h (by decide)
  have e : rtV a p = lr a p p 0 := by unfold rtV; rw [if_pos hlt]
  rw [e]
  exact ⟨hlt, h4 (by omega), fun y hy => h3 y (by omega) hy⟩

theorem rtE_cases (a p : Nat) : rtE a p = 0 ∨ rtE a p = 4 := by unfold rtE; split <;> simp

theorem rtE_iff (a p : Nat) : rtE a p = 0 ↔ ∃ x, x < p ∧ (x * x) % p = a := by
  constructor
  · intro h; exact ⟨_, (rt_some h).1, (rt_some h).2.1⟩
  · rintro ⟨x, hx, hxx⟩
    rcases rtE_cases a p with h | h
    · exact h
    · obtain ⟨h1, h2, h3, h4⟩ := lr_spec a p p 0
      have hlt : ¬ lr a p p 0 < p := fun g => by unfold rtE at h; rw [if_pos g] at h; exact absurd h (by decide)
      exact absurd hxx (h3 x (by omega) (by omega))

theorem rroot_any (a p : Nat) (w : World) (hp : p ≤ 10000) :
    Calls Try.prog 23 #[.int .i64 (a : Int), .int .i64 (p : Int)] w fun e w' => e = .returned (.tuple #[.int .i64 ((rtV a p : Nat) : Int), .int .i64 (rtE a p)]) ∧ w = w' := by
  go_enter Try.func23, Try.ntmps23
  go_wp2
  go_loop [8] (fun x => ∃ k : Nat, k ≤ p ∧ Hid (NoRoot a p k) ∧ x = .int .i64 (k : Int)) (fun x => p - (intOf x).toNat)
  case atStart => exact ⟨0, by omega, Lib.hid (fun y h => by omega), rfl⟩
  case round =>
    obtain ⟨k, hk, hn, rfl⟩ := hrel
    by_cases hlt : k < p
    · have q1 : 0 ≤ (k : Int) * k := Int.mul_nonneg (by omega) (by omega)
      have q2 : (k : Int) * k ≤ 100000000 := by
        have : (k : Int) * k ≤ 10000 * 10000 := Int.mul_le_mul (by omega) (by omega) (by omega) (by omega)
        omega
      have hc : (k : Int) * k % p = ((k * k % p : Nat) : Int) := by rw [Int.natCast_emod, Int.natCast_mul]
      by_cases hr : (k * k) % p = a
      · have t : ((k : Int) * k % p == (a : Int)) = true := by rw [hc, hr]; simp
        have HF := Lib.hid (rt_found hlt hn.out hr)
        clear hc hr
        go_wp2
        go_ret2
        exact ⟨by rw [HF.out.1, HF.out.2]; rfl, rfl⟩
      · have t : ((k : Int) * k % p == (a : Int)) = false := by rw [hc]; simp; omega
        have HN := Lib.hid (noRoot_step hn.out hr)
        clear hc hr
        go_wp2
        go_round
        case rel => exact ⟨k + 1, by omega, HN, by go_num⟩
        case measure => simp [intOf]; omega
    · have e : k = p := by omega
      subst e
      have HF := Lib.hid (rt_none hn.out)
      go_wp2
      go_ret2
      exact ⟨by rw [HF.out.1, HF.out.2]; rfl, rfl⟩

theorem root_yes (a p : Nat) (w : World) (hp : opB 10000 (p : Int) = true) (hap : a < p) :
    Calls Try.prog 20 #[.int .i64 (a : Int), .int .i64 (p : Int)] w fun e w' => e = .returned (.tuple #[.int .i64 ((rtV a p : Nat) : Int), .int .i64 (rtE a p)]) ∧ w = w' := by
  have hp2 := (opB_yes hp).2.1
  have HP := Lib.hid hp
  have t0 : decide ((a : Int) < 0) = false := decide_eq_false (by omega)
  have t1 : decide (p ≤ a) = false := decide_eq_false (by omega)
  clear hp
  go_enter Try.func20, Try.ntmps20
  go_wp2_with fail
  refine (field_any _ _ (by omega)).mono ?_; rw [HP.out]; rintro e w' ⟨rfl, rfl⟩
  go_wp2_with fail
  go_loop [20] (fun x => ∃ k : Nat, k ≤ p ∧ Hid (NoRoot a p k) ∧ x = .int .i64 (k : Int)) (fun x => p - (intOf x).toNat)
  case atStart => exact ⟨0, by omega, Lib.hid (fun y h => by omega), rfl⟩
  case round =>
    obtain ⟨k, hk, hn, rfl⟩ := hrel
    by_cases hlt : k < p
    · have q1 : 0 ≤ (k : Int) * k := Int.mul_nonneg (by omega) (by omega)
      have q2 : (k : Int) * k ≤ 100000000 := by
        have : (k : Int) * k ≤ 10000 * 10000 := Int.mul_le_mul (by omega) (by omega) (by omega) (by omega)
        omega
      have hc : (k : Int) * k % p = ((k * k % p : Nat) : Int) := by rw [Int.natCast_emod, Int.natCast_mul]
      by_cases hr : (k * k) % p = a
      · have t : ((k : Int) * k % p == (a : Int)) = true := by rw [hc, hr]; simp
        have HF := Lib.hid (rt_found hlt hn.out hr)
        clear hc hr
        go_wp2_with fail
        go_ret2
        exact ⟨by rw [HF.out.1, HF.out.2]; rfl, rfl⟩
      · have t : ((k : Int) * k % p == (a : Int)) = false := by rw [hc]; simp; omega
        have HN := Lib.hid (noRoot_step hn.out hr)
        clear hc hr
        go_wp2_with fail
        go_round
        case rel => exact ⟨k + 1, by omega, HN, by go_num⟩
        case measure => simp [intOf]; omega
    · have e : k = p := by omega
      subst e
      have HF := Lib.hid (rt_none hn.out)
      go_wp2_with fail
      go_ret2
      exact ⟨by rw [HF.out.1, HF.out.2]; rfl, rfl⟩

theorem root_no (a p : Int) (w : World) (hlo : -9223372036854775808 ≤ p) (h : ¬ (opB 10000 p = true ∧ 0 ≤ a ∧ a < p)) :
    Calls Try.prog 20 #[.int .i64 a, .int .i64 p] w fun e w' => e = .returned (.tuple #[.int .i64 0, .int .i64 2]) ∧ w = w' := by
  cases hp : opB 10000 p with
  | false =>
    have HP := Lib.hid hp
    clear hp h
    go_enter Try.func20, Try.ntmps20
    go_wp2_with fail
    refine (field_any _ _ hlo).mono ?_; rw [HP.out]; rintro e w' ⟨rfl, rfl⟩
    go_wp2_with fail
    go_ret2
    exact ⟨rfl, rfl⟩
  | true =>
    have HP := Lib.hid hp
    by_cases h1 : 0 ≤ a
    · have h2 : p ≤ a := by
        apply Classical.byContradiction; intro g; exact h ⟨hp, h1, by omega⟩
      clear hp h
      go_enter Try.func20, Try.ntmps20
      go_wp2_with fail
      refine (field_any _ _ hlo).mono ?_; rw [HP.out]; rintro e w' ⟨rfl, rfl⟩
      go_wp2_with fail
      go_ret2
      exact ⟨rfl, rfl⟩
    · clear hp h
      go_enter Try.func20, Try.ntmps20
      go_wp2_with fail
      refine (field_any _ _ hlo).mono ?_; rw [HP.out]; rintro e w' ⟨rfl, rfl⟩
      go_wp2_with fail
      go_ret2
      exact ⟨rfl, rfl⟩

/-- the least number without a root -/
def IsLeast (p n : Nat) : Prop := 2 ≤ n ∧ n < p ∧ jn n p = -1 ∧ ∀ d, 2 ≤ d → d < n → jn d p ≠ -1

theorem ex_least {p : Nat} (hp : Pr p) (h2 : p % 2 = 1) : ∃ n, IsLeast p n := by
  obtain ⟨a, h1, h3, h4⟩ := ex_nonsquare hp h2
  have key : ∀ k a, a < k → 2 ≤ a → a < p → jn a p = -1 → ∃ n, IsLeast p n := by
    intro k
    induction k with
    | zero => intro a h; omega
    | succ k ih =>
      intro a hk h1 h3 h4
      by_cases hd : ∃ d, 2 ≤ d ∧ d < a ∧ jn d p = -1
      · obtain ⟨d, d1, d2, d3⟩ := hd
        exact ih d (by omega) d1 (by omega) d3
      · exact ⟨a, h1, h3, h4, fun d d1 d2 e => hd ⟨d, d1, d2, e⟩⟩
  exact key (a + 1) a (by omega) h1 h3 h4

theorem least_yes (p n : Nat) (w : World) (hp : opB 10000 (p : Int) = true) (hn : IsLeast p n) :
    Calls Try.prog 21 #[.int .i64 (p : Int)] w fun e w' => e = .returned (.tuple #[.int .i64 (n : Int), .int .i64 0]) ∧ Below w.heap.size w w' := by
  have hp2 := (opB_yes hp).2.1
  have HO := Lib.hid (opB_odd hp)
  have HP := Lib.hid hp
  have HN := Lib.hid hn
  obtain ⟨n1, n2, _, _⟩ := hn
  clear hp
  go_enter Try.func21, Try.ntmps21
  go_wp2_with fail
  refine (field_any _ _ (by omega)).mono ?_; rw [HP.out]; rintro e w' ⟨rfl, rfl⟩
  go_wp2_with fail
  go_loopw [4] (fun x wr => ∃ k : Nat, 2 ≤ k ∧ k ≤ n ∧ x = .int .i64 (k : Int) ∧ Below w.heap.size w wr) (fun x _ => n - (intOf x).toNat)
  case atStart => exact ⟨2, by omega, by omega, rfl, Below.refl _ _⟩
  case round =>
    obtain ⟨k, hk1, hk2, rfl, hb⟩ := hrel
    have HI : Hid (inr (k : Int) (p : Int) 1) := Lib.hid (validB_inr (validB_mk ⟨by omega, by omega, by omega, by omega, by have : p % 2 = 1 := HO.out; omega⟩))
    have HV : Hid (sv (k : Int) (p : Int) 1 = jn k p) := Lib.hid (by rw [sv_one]; exact ji_nat k p)
    by_cases hkn : k = n
    · subst hkn
      have HE : Hid (jn k p = -1) := Lib.hid HN.out.2.2.1
      go_wp2_with fail
      refine (value_any _ _ _ _ HI.out).mono ?_; rw [HV.out, HE.out]; rintro e w1 ⟨rfl, hb1⟩
      go_wp2_with fail
      go_ret2
      exact ⟨rfl, hb.trans (hb1.mono hb.size)⟩
    · have h0 : ¬ jn k p < 0 := by
        have := HN.out.2.2.2 k hk1 (by omega)
        rcases jn_cases k p with e | e | e
        · omega
        · omega
        · exact absurd e this
      go_wp2_with fail
      refine (value_any _ _ _ _ HI.out).mono ?_; rw [HV.out]; rintro e w1 ⟨rfl, hb1⟩
      go_wp2_with fail
      go_roundw
      case rel => exact ⟨k + 1, by omega, by omega, by go_num, hb.trans (hb1.mono hb.size)⟩
      case measure => simp [intOf]; omega

theorem least_no (p : Int) (w : World) (hlo : -9223372036854775808 ≤ p) (h : opB 10000 p = false) :
    Calls Try.prog 21 #[.int .i64 p] w fun e w' => e = .returned (.tuple #[.int .i64 0, .int .i64 2]) ∧ w = w' := by
  have HP := Lib.hid h
  clear h
  go_enter Try.func21, Try.ntmps21
  go_wp2_with fail
  refine (field_any _ _ hlo).mono ?_; rw [HP.out]; rintro e w' ⟨rfl, rfl⟩
  go_wp2_with fail
  go_ret2
  exact ⟨rfl, rfl⟩

theorem jn_rt {a p : Nat} (hp : Pr p) (h2 : p % 2 = 1) (ha : a < p) : rtE a p = 0 ↔ jn a p ≠ -1 := by
  rw [rtE_iff, ← square_iff hp h2, Nat.mod_eq_of_lt ha]

theorem rleast_yes (p n : Nat) (w : World) (hp : opB 10000 (p : Int) = true) (hn : IsLeast p n) :
    Calls Try.prog 22 #[.int .i64 (p : Int)] w fun e w' => e = .returned (.int .i64 (n : Int)) ∧ w = w' := by
  have hp2 := (opB_yes hp).2.1
  have HO := Lib.hid (opB_odd hp)
  have HR := Lib.hid (opB_yes hp).2.2
  have HN := Lib.hid hn
  obtain ⟨n1, n2, _, _⟩ := hn
  clear hp
  go_enter Try.func22, Try.ntmps22
  go_wp2_with fail
  go_loop [3] (fun x => ∃ k : Nat, 2 ≤ k ∧ k ≤ n ∧ x = .int .i64 (k : Int)) (fun x => n - (intOf x).toNat)
  case atStart => exact ⟨2, by omega, by omega, rfl⟩
  case round =>
    obtain ⟨k, hk1, hk2, rfl⟩ := hrel
    have HM : Hid ((k : Int) % (p : Int) = (k : Int)) := Lib.hid (Int.emod_eq_of_lt (by omega) (by omega))
    by_cases hkn : k = n
    · subst hkn
      have HE : Hid (rtE k p = 4) := Lib.hid (by
        rcases rtE_cases k p with e | e
        · exact absurd HN.out.2.2.1 ((jn_rt HR.out HO.out (by omega)).1 e)
        · exact e)
      go_wp2_with fail
      rw [HM.out]
      refine (rroot_any k p _ (by omega)).mono ?_; rw [HE.out]; rintro e w1 ⟨rfl, rfl⟩
      go_wp2_with fail
      go_ret
      exact ⟨rfl, rfl⟩
    · have HE : Hid (rtE k p = 0) := Lib.hid ((jn_rt HR.out HO.out (by omega)).2 (HN.out.2.2.2 k hk1 (by omega)))
      go_wp2_with fail
      rw [HM.out]
      refine (rroot_any k p _ (by omega)).mono ?_; rw [HE.out]; rintro e w1 ⟨rfl, rfl⟩
      go_wp2_with fail
      go_round
      case rel => exact ⟨k + 1, by omega, by omega, by go_num⟩
      case measure => simp [intOf]; omega
end Go.Proofs.Ytdombadhmaanfaa
