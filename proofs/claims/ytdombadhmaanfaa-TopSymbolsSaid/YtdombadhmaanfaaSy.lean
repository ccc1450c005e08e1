/- The steps of a symbol: whether a chain has ended, the next step, whether a symbol is valid. -/
import Derived.Test.YtdombadhmaanfaaChn
import Derived.WalkKit
import Derived.Lib.Hide
import Derived.IntWalk
import Derived.BigQuiet
import Derived.Deep.QuietTactic
import Derived.StillTailTactics
import Derived.Test.YtdombadhmaanfaaProg
namespace Go.Proofs.Ytdombadhmaanfaa
open Go.RowKit GhN

/-- a symbol, a step, as values -/
abbrev symV (a n s : Int) : Value := .agg #[.int .i64 a, .int .i64 n, .int .i64 s]
abbrev stepV (k a n s : Int) : Value := .agg #[.int .i64 k, .int .i64 a, .int .i64 n, .int .i64 s]

theorem done_yes (a n s : Int) (w : World) (h : a = 0 ∨ n = 1) :
    Calls Try.prog 80 #[symV a n s] w fun e w' => e = .returned (.bool true) ∧ Below w.heap.size w w' := by
  by_cases h0 : a = 0
  · subst h0
    go_enter Try.func80, Try.ntmps80
    go_wp2
    go_ret
    exact ⟨rfl, (Below.refl _ _).alloc (Nat.le_refl _) _⟩
  · have h1 : n = 1 := by omega
    subst h1
    have h2 : (a == 0) = false := by simpa using h0
    go_enter Try.func80, Try.ntmps80
    go_wp2
    go_ret
    exact ⟨rfl, (Below.refl _ _).alloc (Nat.le_refl _) _⟩

theorem done_no (a n s : Int) (w : World) (h0 : a ≠ 0) (h1 : n ≠ 1) :
    Calls Try.prog 80 #[symV a n s] w fun e w' => e = .returned (.bool false) ∧ Below w.heap.size w w' := by
  have h2 : (a == 0) = false := by simpa using h0
  have h3 : (n == 1) = false := by simpa using h1
  clear h0 h1
  go_enter Try.func80, Try.ntmps80
  go_wp2
  go_ret
  exact ⟨rfl, (Below.refl _ _).alloc (Nat.le_refl _) _⟩

theorem red_eq (a n : Int) (h1 : 1 ≤ n) (h2 : n ≤ 1000000000) : (wrap64 (a % n + n)).tmod n = a % n := by
  have h3 := Int.emod_nonneg a (show n ≠ 0 by omega)
  have h4 := Int.emod_lt_of_pos a (show 0 < n by omega)
  have h5 : wrap64 (a % n + n) = a % n + n := by unfold wrap64; omega
  rw [h5, Int.tmod_eq_emod_of_nonneg (by omega), Int.add_emod_right, Int.emod_emod]

theorem red_eq_neg (a n : Int) (h : a < 0) (hl : -1000000000 ≤ a) (h1 : 1 ≤ n) (h2 : n ≤ 1000000000) : (wrap64 (a.tmod n + n)).tmod n = a % n := by
  have h3 : a.tmod n = -((-a) % n) := by
    have := Int.neg_tmod (-a) n
    rw [Int.neg_neg] at this
    rw [this, Int.tmod_eq_emod_of_nonneg (by omega)]
  have h4 := Int.emod_nonneg (-a) (show n ≠ 0 by omega)
  have h5 := Int.emod_lt_of_pos (-a) (show 0 < n by omega)
  have h6 : wrap64 (a.tmod n + n) = a.tmod n + n := by unfold wrap64; omega
  rw [h6, Int.tmod_eq_emod_of_nonneg (by omega), Int.add_emod_right, h3]
  have h7 : (-a) % n = -a - n * ((-a) / n) := Int.emod_def _ _
  have h8 : -(-a % n) = a + n * ((-a) / n) := by omega
  rw [h8, Int.add_mul_emod_self_left]

set_option maxRecDepth 100000 in
theorem next_reduce_neg (a n s : Int) (w : World) (h1 : 1 ≤ n) (h2 : n ≤ 1000000000) (h3 : a < 0) (hl : -1000000000 ≤ a) :
    Calls Try.prog 81 #[symV a n s] w fun e w' => e = .returned (stepV 0 (a % n) n s) ∧ Below w.heap.size w w' := by
  have HE := Lib.hid (red_eq_neg a n h3 hl h1 h2)
  go_enter Try.func81, Try.ntmps81
  go_wp2
  go_region
  go_wp2
  refine bodyPost_ret (v := stepV 0 (a % n) n s) (by simp [results, Try.results81, go_sem, HE.out]) rfl ⟨rfl, ?_⟩
  exact (((Below.refl _ _).alloc (Nat.le_refl _) _).alloc (by simp) _).drew

set_option maxRecDepth 100000 in
theorem next_reduce_pos (a n s : Int) (w : World) (h1 : 1 ≤ n) (h2 : n ≤ 1000000000) (h3 : n ≤ a) (hu : a ≤ 1000000000) :
    Calls Try.prog 81 #[symV a n s] w fun e w' => e = .returned (stepV 0 (a % n) n s) ∧ Below w.heap.size w w' := by
  have HE := Lib.hid (red_eq a n h1 h2)
  go_enter Try.func81, Try.ntmps81
  go_wp2
  go_region
  go_wp2
  refine bodyPost_ret (v := stepV 0 (a % n) n s) (by simp [results, Try.results81, go_sem, HE.out]) rfl ⟨rfl, ?_⟩
  exact (((Below.refl _ _).alloc (Nat.le_refl _) _).alloc (by simp) _).drew

theorem next_halve_neg (a n s : Int) (w : World) (h0 : 0 ≤ a) (h1 : a < n) (h2 : n ≤ 1000000000) (h3 : a % 2 = 0) (hsg : s = 1 ∨ s = -1) (h6 : n % 8 = 3 ∨ n % 8 = 5) :
    Calls Try.prog 81 #[symV a n s] w fun e w' => e = .returned (stepV 1 (a / 2) n (-s)) ∧ Below w.heap.size w w' := by
  have h5 : (a % 2 == 0) = true := by simpa using h3
  have b1 : -1 ≤ s := by omega
  have b2 : s ≤ 1 := by omega
  clear h3 hsg
  by_cases h7 : n % 8 = 3
  · have h8 : (n % 8 == 3) = true := by simpa using h7
    clear h6 h7
    go_enter Try.func81, Try.ntmps81
    go_wp2
    refine bodyPost_ret (v := stepV 1 (a / 2) n (-s)) (by simp [results, Try.results81, go_sem]) rfl ⟨rfl, ?_⟩
    exact (((Below.refl _ _).alloc (Nat.le_refl _) _).alloc (by simp) _)
  · have h8 : (n % 8 == 3) = false := by simpa using h7
    have h9 : (n % 8 == 5) = true := by simp; omega
    clear h6 h7
    go_enter Try.func81, Try.ntmps81
    go_wp2
    refine bodyPost_ret (v := stepV 1 (a / 2) n (-s)) (by simp [results, Try.results81, go_sem]) rfl ⟨rfl, ?_⟩
    exact (((Below.refl _ _).alloc (Nat.le_refl _) _).alloc (by simp) _)

theorem next_halve_pos (a n s : Int) (w : World) (h0 : 0 ≤ a) (h1 : a < n) (h2 : n ≤ 1000000000) (h3 : a % 2 = 0) (hsg : s = 1 ∨ s = -1) (h6 : ¬ (n % 8 = 3 ∨ n % 8 = 5)) :
    Calls Try.prog 81 #[symV a n s] w fun e w' => e = .returned (stepV 1 (a / 2) n s) ∧ Below w.heap.size w w' := by
  have h5 : (a % 2 == 0) = true := by simpa using h3
  have b1 : -1 ≤ s := by omega
  have b2 : s ≤ 1 := by omega
  have h8 : (n % 8 == 3) = false := by simp; omega
  have h9 : (n % 8 == 5) = false := by simp; omega
  clear h3 hsg h6
  go_enter Try.func81, Try.ntmps81
  go_wp2
  refine bodyPost_ret (v := stepV 1 (a / 2) n s) (by simp [results, Try.results81, go_sem]) rfl ⟨rfl, ?_⟩
  exact (((Below.refl _ _).alloc (Nat.le_refl _) _).alloc (by simp) _)

theorem next_exchange_neg (a n s : Int) (w : World) (h0 : 0 ≤ a) (h1 : a < n) (_h2 : n ≤ 1000000000) (h3 : a % 4 = 3) (h4 : n % 4 = 3) (hsg : s = 1 ∨ s = -1) :
    Calls Try.prog 81 #[symV a n s] w fun e w' => e = .returned (stepV 2 n a (-s)) ∧ Below w.heap.size w w' := by
  have h5 : (a % 2 == 0) = false := by simp; omega
  have b1 : -1 ≤ s := by omega
  have b2 : s ≤ 1 := by omega
  have h8 : (a % 4 == 3) = true := by simpa using h3
  have h9 : (n % 4 == 3) = true := by simpa using h4
  clear h3 h4 hsg
  go_enter Try.func81, Try.ntmps81
  go_wp2
  refine bodyPost_ret (v := stepV 2 n a (-s)) (by simp [results, Try.results81, go_sem]) rfl ⟨rfl, ?_⟩
  exact (((Below.refl _ _).alloc (Nat.le_refl _) _).alloc (by simp) _)

theorem next_exchange_pos (a n s : Int) (w : World) (h0 : 0 ≤ a) (h1 : a < n) (_h2 : n ≤ 1000000000) (h3 : a % 2 = 1) (h4 : ¬ (a % 4 = 3 ∧ n % 4 = 3)) (hsg : s = 1 ∨ s = -1) :
    Calls Try.prog 81 #[symV a n s] w fun e w' => e = .returned (stepV 2 n a s) ∧ Below w.heap.size w w' := by
  have h5 : (a % 2 == 0) = false := by simp; omega
  have b1 : -1 ≤ s := by omega
  have b2 : s ≤ 1 := by omega
  by_cases h6 : a % 4 = 3
  · have h8 : (a % 4 == 3) = true := by simpa using h6
    have h9 : (n % 4 == 3) = false := by simp; omega
    clear h3 h4 hsg h6
    go_enter Try.func81, Try.ntmps81
    go_wp2
    refine bodyPost_ret (v := stepV 2 n a s) (by simp [results, Try.results81, go_sem]) rfl ⟨rfl, ?_⟩
    exact (((Below.refl _ _).alloc (Nat.le_refl _) _).alloc (by simp) _)
  · have h8 : (a % 4 == 3) = false := by simpa using h6
    clear h3 h4 hsg h6
    go_enter Try.func81, Try.ntmps81
    go_wp2
    refine bodyPost_ret (v := stepV 2 n a s) (by simp [results, Try.results81, go_sem]) rfl ⟨rfl, ?_⟩
    exact (((Below.refl _ _).alloc (Nat.le_refl _) _).alloc (by simp) _)
end Go.Proofs.Ytdombadhmaanfaa
