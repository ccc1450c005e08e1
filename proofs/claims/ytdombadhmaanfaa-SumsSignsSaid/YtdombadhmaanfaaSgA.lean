/- SumsSigns: the walk, way by way (printed by gensigns.py). -/
import Derived.Test.YtdombadhmaanfaaSg
namespace Go.Proofs.Ytdombadhmaanfaa
open Go Go.RowKit GhN
set_option linter.unusedVariables false

theorem sg_n0_big1 (a n : Int) (p q : Int) (w : World) (HT : Hid (tuB a n = false)) (h1 : n < 1) (HPT : Hid (ptB p q = false)) (g1 : 200 < p) (lp : -9223372036854775808 ≤ p) (lq : -9223372036854775808 ≤ q) :
    Calls Try.prog 8 #[.int .i64 a, .int .i64 n, .int .i64 p, .int .i64 q] w fun e w' => e = .returned (.bool true) ∧ Below w.heap.size w w' := by
  go_enter Try.func8, Try.ntmps8
  go_wp2_with fail
  refine (turns_no a n _ HT.out).mono ?_; rintro e w1 ⟨rfl, hb1⟩
  go_wp2_with fail
  refine (points_no p q _ lp lq HPT.out).mono ?_; rintro e v2 ⟨rfl, rfl⟩
  go_wp2_with fail
  refine (awake_any _).mono ?_; rintro e w9 ⟨rfl, hb9⟩
  go_wp2_with fail
  go_ret
  exact ⟨rfl, bt2 hb1 hb9⟩

theorem sg_n0_big2 (a n : Int) (p q : Int) (w : World) (HT : Hid (tuB a n = false)) (h1 : n < 1) (HPT : Hid (ptB p q = false)) (g1 : p ≤ 200) (g2 : 200 < q) (lp : -9223372036854775808 ≤ p) (lq : -9223372036854775808 ≤ q) :
    Calls Try.prog 8 #[.int .i64 a, .int .i64 n, .int .i64 p, .int .i64 q] w fun e w' => e = .returned (.bool true) ∧ Below w.heap.size w w' := by
  go_enter Try.func8, Try.ntmps8
  go_wp2_with fail
  refine (turns_no a n _ HT.out).mono ?_; rintro e w1 ⟨rfl, hb1⟩
  go_wp2_with fail
  refine (points_no p q _ lp lq HPT.out).mono ?_; rintro e v2 ⟨rfl, rfl⟩
  go_wp2_with fail
  refine (awake_any _).mono ?_; rintro e w9 ⟨rfl, hb9⟩
  go_wp2_with fail
  go_ret
  exact ⟨rfl, bt2 hb1 hb9⟩

theorem sg_n0_same (a n : Int) (p q : Int) (w : World) (HT : Hid (tuB a n = false)) (h1 : n < 1) (HPT : Hid (ptB p q = false)) (g1 : p ≤ 200) (g2 : q ≤ 200) (g3 : (p != q) = false) (lp : -9223372036854775808 ≤ p) (lq : -9223372036854775808 ≤ q) :
    Calls Try.prog 8 #[.int .i64 a, .int .i64 n, .int .i64 p, .int .i64 q] w fun e w' => e = .returned (.bool true) ∧ Below w.heap.size w w' := by
  go_enter Try.func8, Try.ntmps8
  go_wp2_with fail
  refine (turns_no a n _ HT.out).mono ?_; rintro e w1 ⟨rfl, hb1⟩
  go_wp2_with fail
  refine (points_no p q _ lp lq HPT.out).mono ?_; rintro e v2 ⟨rfl, rfl⟩
  go_wp2_with fail
  refine (awake_any _).mono ?_; rintro e w9 ⟨rfl, hb9⟩
  go_wp2_with fail
  go_ret
  exact ⟨rfl, bt2 hb1 hb9⟩

theorem sg_n0_np (a n : Int) (p q : Int) (w : World) (HT : Hid (tuB a n = false)) (h1 : n < 1) (HPT : Hid (ptB p q = false)) (g1 : p ≤ 200) (g2 : q ≤ 200) (g3 : (p != q) = true) (HP : Hid (opB 10000 p = false)) (lp : -9223372036854775808 ≤ p) (lq : -9223372036854775808 ≤ q) :
    Calls Try.prog 8 #[.int .i64 a, .int .i64 n, .int .i64 p, .int .i64 q] w fun e w' => e = .returned (.bool true) ∧ Below w.heap.size w w' := by
  go_enter Try.func8, Try.ntmps8
  go_wp2_with fail
  refine (turns_no a n _ HT.out).mono ?_; rintro e w1 ⟨rfl, hb1⟩
  go_wp2_with fail
  refine (points_no p q _ lp lq HPT.out).mono ?_; rintro e v2 ⟨rfl, rfl⟩
  go_wp2_with fail
  refine (rprime_any _ _).mono ?_; rw [HP.out]; rintro e v3 ⟨rfl, rfl⟩
  go_wp2_with fail
  refine (awake_any _).mono ?_; rintro e w9 ⟨rfl, hb9⟩
  go_wp2_with fail
  go_ret
  exact ⟨rfl, bt2 hb1 hb9⟩

theorem sg_n0_nq (a n : Int) (p q : Int) (w : World) (HT : Hid (tuB a n = false)) (h1 : n < 1) (HPT : Hid (ptB p q = false)) (g1 : p ≤ 200) (g2 : q ≤ 200) (g3 : (p != q) = true) (HP : Hid (opB 10000 p = true)) (HQ : Hid (opB 10000 q = false)) (lp : -9223372036854775808 ≤ p) (lq : -9223372036854775808 ≤ q) :
    Calls Try.prog 8 #[.int .i64 a, .int .i64 n, .int .i64 p, .int .i64 q] w fun e w' => e = .returned (.bool true) ∧ Below w.heap.size w w' := by
  go_enter Try.func8, Try.ntmps8
  go_wp2_with fail
  refine (turns_no a n _ HT.out).mono ?_; rintro e w1 ⟨rfl, hb1⟩
  go_wp2_with fail
  refine (points_no p q _ lp lq HPT.out).mono ?_; rintro e v2 ⟨rfl, rfl⟩
  go_wp2_with fail
  refine (rprime_any _ _).mono ?_; rw [HP.out]; rintro e v3 ⟨rfl, rfl⟩
  go_wp2_with fail
  refine (rprime_any _ _).mono ?_; rw [HQ.out]; rintro e v4 ⟨rfl, rfl⟩
  go_wp2_with fail
  refine (awake_any _).mono ?_; rintro e w9 ⟨rfl, hb9⟩
  go_wp2_with fail
  go_ret
  exact ⟨rfl, bt2 hb1 hb9⟩

theorem sg_n0_yes (a n : Int) (P Q : Nat) (w : World) (HT : Hid (tuB a n = false)) (h1 : n < 1) (HPT : Hid (ptB (P : Int) (Q : Int) = true)) (g1 : (P : Int) ≤ 200) (g2 : (Q : Int) ≤ 200) (g3 : ((P : Int) != (Q : Int)) = true) (HP : Hid (opB 10000 (P : Int) = true)) (HQ : Hid (opB 10000 (Q : Int) = true)) (g4 : P % 2 = 1) (g5 : Q % 2 = 1) (HPF : Hid (pup P Q (P / 2) = fl Q P)) :
    Calls Try.prog 8 #[.int .i64 a, .int .i64 n, .int .i64 (P : Int), .int .i64 (Q : Int)] w fun e w' => e = .returned (.bool true) ∧ Below w.heap.size w w' := by
  go_enter Try.func8, Try.ntmps8
  go_wp2_with fail
  refine (turns_no a n _ HT.out).mono ?_; rintro e w1 ⟨rfl, hb1⟩
  go_wp2_with fail
  refine (points_yes P Q _ HPT.out).mono ?_; rintro e v2 ⟨rfl, rfl⟩
  go_wp2_with fail
  refine (rprime_any _ _).mono ?_; rw [HP.out]; rintro e v3 ⟨rfl, rfl⟩
  go_wp2_with fail
  refine (rprime_any _ _).mono ?_; rw [HQ.out]; rintro e v4 ⟨rfl, rfl⟩
  go_wp2_with fail
  refine (rpoints_any P Q _ (by omega) (by omega) g4 g5).mono ?_; rw [HPF.out]; rintro e v5 ⟨rfl, rfl⟩
  go_wp2_with fail
  refine (awake_any _).mono ?_; rintro e w9 ⟨rfl, hb9⟩
  go_wp2_with fail
  go_ret
  exact ⟨rfl, bt2 hb1 hb9⟩

theorem sg_n200_big1 (a n : Int) (p q : Int) (w : World) (HT : Hid (tuB a n = false)) (h1 : 1 ≤ n) (h2 : 200 < n) (HPT : Hid (ptB p q = false)) (g1 : 200 < p) (lp : -9223372036854775808 ≤ p) (lq : -9223372036854775808 ≤ q) :
    Calls Try.prog 8 #[.int .i64 a, .int .i64 n, .int .i64 p, .int .i64 q] w fun e w' => e = .returned (.bool true) ∧ Below w.heap.size w w' := by
  go_enter Try.func8, Try.ntmps8
  go_wp2_with fail
  refine (turns_no a n _ HT.out).mono ?_; rintro e w1 ⟨rfl, hb1⟩
  go_wp2_with fail
  refine (points_no p q _ lp lq HPT.out).mono ?_; rintro e v2 ⟨rfl, rfl⟩
  go_wp2_with fail
  refine (awake_any _).mono ?_; rintro e w9 ⟨rfl, hb9⟩
  go_wp2_with fail
  go_ret
  exact ⟨rfl, bt2 hb1 hb9⟩

theorem sg_n200_big2 (a n : Int) (p q : Int) (w : World) (HT : Hid (tuB a n = false)) (h1 : 1 ≤ n) (h2 : 200 < n) (HPT : Hid (ptB p q = false)) (g1 : p ≤ 200) (g2 : 200 < q) (lp : -9223372036854775808 ≤ p) (lq : -9223372036854775808 ≤ q) :
    Calls Try.prog 8 #[.int .i64 a, .int .i64 n, .int .i64 p, .int .i64 q] w fun e w' => e = .returned (.bool true) ∧ Below w.heap.size w w' := by
  go_enter Try.func8, Try.ntmps8
  go_wp2_with fail
  refine (turns_no a n _ HT.out).mono ?_; rintro e w1 ⟨rfl, hb1⟩
  go_wp2_with fail
  refine (points_no p q _ lp lq HPT.out).mono ?_; rintro e v2 ⟨rfl, rfl⟩
  go_wp2_with fail
  refine (awake_any _).mono ?_; rintro e w9 ⟨rfl, hb9⟩
  go_wp2_with fail
  go_ret
  exact ⟨rfl, bt2 hb1 hb9⟩

theorem sg_n200_same (a n : Int) (p q : Int) (w : World) (HT : Hid (tuB a n = false)) (h1 : 1 ≤ n) (h2 : 200 < n) (HPT : Hid (ptB p q = false)) (g1 : p ≤ 200) (g2 : q ≤ 200) (g3 : (p != q) = false) (lp : -9223372036854775808 ≤ p) (lq : -9223372036854775808 ≤ q) :
    Calls Try.prog 8 #[.int .i64 a, .int .i64 n, .int .i64 p, .int .i64 q] w fun e w' => e = .returned (.bool true) ∧ Below w.heap.size w w' := by
  go_enter Try.func8, Try.ntmps8
  go_wp2_with fail
  refine (turns_no a n _ HT.out).mono ?_; rintro e w1 ⟨rfl, hb1⟩
  go_wp2_with fail
  refine (points_no p q _ lp lq HPT.out).mono ?_; rintro e v2 ⟨rfl, rfl⟩
  go_wp2_with fail
  refine (awake_any _).mono ?_; rintro e w9 ⟨rfl, hb9⟩
  go_wp2_with fail
  go_ret
  exact ⟨rfl, bt2 hb1 hb9⟩

theorem sg_n200_np (a n : Int) (p q : Int) (w : World) (HT : Hid (tuB a n = false)) (h1 : 1 ≤ n) (h2 : 200 < n) (HPT : Hid (ptB p q = false)) (g1 : p ≤ 200) (g2 : q ≤ 200) (g3 : (p != q) = true) (HP : Hid (opB 10000 p = false)) (lp : -9223372036854775808 ≤ p) (lq : -9223372036854775808 ≤ q) :
    Calls Try.prog 8 #[.int .i64 a, .int .i64 n, .int .i64 p, .int .i64 q] w fun e w' => e = .returned (.bool true) ∧ Below w.heap.size w w' := by
  go_enter Try.func8, Try.ntmps8
  go_wp2_with fail
  refine (turns_no a n _ HT.out).mono ?_; rintro e w1 ⟨rfl, hb1⟩
  go_wp2_with fail
  refine (points_no p q _ lp lq HPT.out).mono ?_; rintro e v2 ⟨rfl, rfl⟩
  go_wp2_with fail
  refine (rprime_any _ _).mono ?_; rw [HP.out]; rintro e v3 ⟨rfl, rfl⟩
  go_wp2_with fail
  refine (awake_any _).mono ?_; rintro e w9 ⟨rfl, hb9⟩
  go_wp2_with fail
  go_ret
  exact ⟨rfl, bt2 hb1 hb9⟩

theorem sg_n200_nq (a n : Int) (p q : Int) (w : World) (HT : Hid (tuB a n = false)) (h1 : 1 ≤ n) (h2 : 200 < n) (HPT : Hid (ptB p q = false)) (g1 : p ≤ 200) (g2 : q ≤ 200) (g3 : (p != q) = true) (HP : Hid (opB 10000 p = true)) (HQ : Hid (opB 10000 q = false)) (lp : -9223372036854775808 ≤ p) (lq : -9223372036854775808 ≤ q) :
    Calls Try.prog 8 #[.int .i64 a, .int .i64 n, .int .i64 p, .int .i64 q] w fun e w' => e = .returned (.bool true) ∧ Below w.heap.size w w' := by
  go_enter Try.func8, Try.ntmps8
  go_wp2_with fail
  refine (turns_no a n _ HT.out).mono ?_; rintro e w1 ⟨rfl, hb1⟩
  go_wp2_with fail
  refine (points_no p q _ lp lq HPT.out).mono ?_; rintro e v2 ⟨rfl, rfl⟩
  go_wp2_with fail
  refine (rprime_any _ _).mono ?_; rw [HP.out]; rintro e v3 ⟨rfl, rfl⟩
  go_wp2_with fail
  refine (rprime_any _ _).mono ?_; rw [HQ.out]; rintro e v4 ⟨rfl, rfl⟩
  go_wp2_with fail
  refine (awake_any _).mono ?_; rintro e w9 ⟨rfl, hb9⟩
  go_wp2_with fail
  go_ret
  exact ⟨rfl, bt2 hb1 hb9⟩

theorem sg_n200_yes (a n : Int) (P Q : Nat) (w : World) (HT : Hid (tuB a n = false)) (h1 : 1 ≤ n) (h2 : 200 < n) (HPT : Hid (ptB (P : Int) (Q : Int) = true)) (g1 : (P : Int) ≤ 200) (g2 : (Q : Int) ≤ 200) (g3 : ((P : Int) != (Q : Int)) = true) (HP : Hid (opB 10000 (P : Int) = true)) (HQ : Hid (opB 10000 (Q : Int) = true)) (g4 : P % 2 = 1) (g5 : Q % 2 = 1) (HPF : Hid (pup P Q (P / 2) = fl Q P)) :
    Calls Try.prog 8 #[.int .i64 a, .int .i64 n, .int .i64 (P : Int), .int .i64 (Q : Int)] w fun e w' => e = .returned (.bool true) ∧ Below w.heap.size w w' := by
  go_enter Try.func8, Try.ntmps8
  go_wp2_with fail
  refine (turns_no a n _ HT.out).mono ?_; rintro e w1 ⟨rfl, hb1⟩
  go_wp2_with fail
  refine (points_yes P Q _ HPT.out).mono ?_; rintro e v2 ⟨rfl, rfl⟩
  go_wp2_with fail
  refine (rprime_any _ _).mono ?_; rw [HP.out]; rintro e v3 ⟨rfl, rfl⟩
  go_wp2_with fail
  refine (rprime_any _ _).mono ?_; rw [HQ.out]; rintro e v4 ⟨rfl, rfl⟩
  go_wp2_with fail
  refine (rpoints_any P Q _ (by omega) (by omega) g4 g5).mono ?_; rw [HPF.out]; rintro e v5 ⟨rfl, rfl⟩
  go_wp2_with fail
  refine (awake_any _).mono ?_; rintro e w9 ⟨rfl, hb9⟩
  go_wp2_with fail
  go_ret
  exact ⟨rfl, bt2 hb1 hb9⟩

theorem sg_a0_big1 (a n : Int) (p q : Int) (w : World) (HT : Hid (tuB a n = false)) (h1 : 1 ≤ n) (h2 : n ≤ 200) (h3 : a < 0) (HPT : Hid (ptB p q = false)) (g1 : 200 < p) (lp : -9223372036854775808 ≤ p) (lq : -9223372036854775808 ≤ q) :
    Calls Try.prog 8 #[.int .i64 a, .int .i64 n, .int .i64 p, .int .i64 q] w fun e w' => e = .returned (.bool true) ∧ Below w.heap.size w w' := by
  go_enter Try.func8, Try.ntmps8
  go_wp2_with fail
  refine (turns_no a n _ HT.out).mono ?_; rintro e w1 ⟨rfl, hb1⟩
  go_wp2_with fail
  refine (points_no p q _ lp lq HPT.out).mono ?_; rintro e v2 ⟨rfl, rfl⟩
  go_wp2_with fail
  refine (awake_any _).mono ?_; rintro e w9 ⟨rfl, hb9⟩
  go_wp2_with fail
  go_ret
  exact ⟨rfl, bt2 hb1 hb9⟩

theorem sg_a0_big2 (a n : Int) (p q : Int) (w : World) (HT : Hid (tuB a n = false)) (h1 : 1 ≤ n) (h2 : n ≤ 200) (h3 : a < 0) (HPT : Hid (ptB p q = false)) (g1 : p ≤ 200) (g2 : 200 < q) (lp : -9223372036854775808 ≤ p) (lq : -9223372036854775808 ≤ q) :
    Calls Try.prog 8 #[.int .i64 a, .int .i64 n, .int .i64 p, .int .i64 q] w fun e w' => e = .returned (.bool true) ∧ Below w.heap.size w w' := by
  go_enter Try.func8, Try.ntmps8
  go_wp2_with fail
  refine (turns_no a n _ HT.out).mono ?_; rintro e w1 ⟨rfl, hb1⟩
  go_wp2_with fail
  refine (points_no p q _ lp lq HPT.out).mono ?_; rintro e v2 ⟨rfl, rfl⟩
  go_wp2_with fail
  refine (awake_any _).mono ?_; rintro e w9 ⟨rfl, hb9⟩
  go_wp2_with fail
  go_ret
  exact ⟨rfl, bt2 hb1 hb9⟩

theorem sg_a0_same (a n : Int) (p q : Int) (w : World) (HT : Hid (tuB a n = false)) (h1 : 1 ≤ n) (h2 : n ≤ 200) (h3 : a < 0) (HPT : Hid (ptB p q = false)) (g1 : p ≤ 200) (g2 : q ≤ 200) (g3 : (p != q) = false) (lp : -9223372036854775808 ≤ p) (lq : -9223372036854775808 ≤ q) :
    Calls Try.prog 8 #[.int .i64 a, .int .i64 n, .int .i64 p, .int .i64 q] w fun e w' => e = .returned (.bool true) ∧ Below w.heap.size w w' := by
  go_enter Try.func8, Try.ntmps8
  go_wp2_with fail
  refine (turns_no a n _ HT.out).mono ?_; rintro e w1 ⟨rfl, hb1⟩
  go_wp2_with fail
  refine (points_no p q _ lp lq HPT.out).mono ?_; rintro e v2 ⟨rfl, rfl⟩
  go_wp2_with fail
  refine (awake_any _).mono ?_; rintro e w9 ⟨rfl, hb9⟩
  go_wp2_with fail
  go_ret
  exact ⟨rfl, bt2 hb1 hb9⟩

theorem sg_a0_np (a n : Int) (p q : Int) (w : World) (HT : Hid (tuB a n = false)) (h1 : 1 ≤ n) (h2 : n ≤ 200) (h3 : a < 0) (HPT : Hid (ptB p q = false)) (g1 : p ≤ 200) (g2 : q ≤ 200) (g3 : (p != q) = true) (HP : Hid (opB 10000 p = false)) (lp : -9223372036854775808 ≤ p) (lq : -9223372036854775808 ≤ q) :
    Calls Try.prog 8 #[.int .i64 a, .int .i64 n, .int .i64 p, .int .i64 q] w fun e w' => e = .returned (.bool true) ∧ Below w.heap.size w w' := by
  go_enter Try.func8, Try.ntmps8
  go_wp2_with fail
  refine (turns_no a n _ HT.out).mono ?_; rintro e w1 ⟨rfl, hb1⟩
  go_wp2_with fail
  refine (points_no p q _ lp lq HPT.out).mono ?_; rintro e v2 ⟨rfl, rfl⟩
  go_wp2_with fail
  refine (rprime_any _ _).mono ?_; rw [HP.out]; rintro e v3 ⟨rfl, rfl⟩
  go_wp2_with fail
  refine (awake_any _).mono ?_; rintro e w9 ⟨rfl, hb9⟩
  go_wp2_with fail
  go_ret
  exact ⟨rfl, bt2 hb1 hb9⟩

theorem sg_a0_nq (a n : Int) (p q : Int) (w : World) (HT : Hid (tuB a n = false)) (h1 : 1 ≤ n) (h2 : n ≤ 200) (h3 : a < 0) (HPT : Hid (ptB p q = false)) (g1 : p ≤ 200) (g2 : q ≤ 200) (g3 : (p != q) = true) (HP : Hid (opB 10000 p = true)) (HQ : Hid (opB 10000 q = false)) (lp : -9223372036854775808 ≤ p) (lq : -9223372036854775808 ≤ q) :
    Calls Try.prog 8 #[.int .i64 a, .int .i64 n, .int .i64 p, .int .i64 q] w fun e w' => e = .returned (.bool true) ∧ Below w.heap.size w w' := by
  go_enter Try.func8, Try.ntmps8
  go_wp2_with fail
  refine (turns_no a n _ HT.out).mono ?_; rintro e w1 ⟨rfl, hb1⟩
  go_wp2_with fail
  refine (points_no p q _ lp lq HPT.out).mono ?_; rintro e v2 ⟨rfl, rfl⟩
  go_wp2_with fail
  refine (rprime_any _ _).mono ?_; rw [HP.out]; rintro e v3 ⟨rfl, rfl⟩
  go_wp2_with fail
  refine (rprime_any _ _).mono ?_; rw [HQ.out]; rintro e v4 ⟨rfl, rfl⟩
  go_wp2_with fail
  refine (awake_any _).mono ?_; rintro e w9 ⟨rfl, hb9⟩
  go_wp2_with fail
  go_ret
  exact ⟨rfl, bt2 hb1 hb9⟩

theorem sg_a0_yes (a n : Int) (P Q : Nat) (w : World) (HT : Hid (tuB a n = false)) (h1 : 1 ≤ n) (h2 : n ≤ 200) (h3 : a < 0) (HPT : Hid (ptB (P : Int) (Q : Int) = true)) (g1 : (P : Int) ≤ 200) (g2 : (Q : Int) ≤ 200) (g3 : ((P : Int) != (Q : Int)) = true) (HP : Hid (opB 10000 (P : Int) = true)) (HQ : Hid (opB 10000 (Q : Int) = true)) (g4 : P % 2 = 1) (g5 : Q % 2 = 1) (HPF : Hid (pup P Q (P / 2) = fl Q P)) :
    Calls Try.prog 8 #[.int .i64 a, .int .i64 n, .int .i64 (P : Int), .int .i64 (Q : Int)] w fun e w' => e = .returned (.bool true) ∧ Below w.heap.size w w' := by
  go_enter Try.func8, Try.ntmps8
  go_wp2_with fail
  refine (turns_no a n _ HT.out).mono ?_; rintro e w1 ⟨rfl, hb1⟩
  go_wp2_with fail
  refine (points_yes P Q _ HPT.out).mono ?_; rintro e v2 ⟨rfl, rfl⟩
  go_wp2_with fail
  refine (rprime_any _ _).mono ?_; rw [HP.out]; rintro e v3 ⟨rfl, rfl⟩
  go_wp2_with fail
  refine (rprime_any _ _).mono ?_; rw [HQ.out]; rintro e v4 ⟨rfl, rfl⟩
  go_wp2_with fail
  refine (rpoints_any P Q _ (by omega) (by omega) g4 g5).mono ?_; rw [HPF.out]; rintro e v5 ⟨rfl, rfl⟩
  go_wp2_with fail
  refine (awake_any _).mono ?_; rintro e w9 ⟨rfl, hb9⟩
  go_wp2_with fail
  go_ret
  exact ⟨rfl, bt2 hb1 hb9⟩

theorem sg_an_big1 (a n : Int) (p q : Int) (w : World) (HT : Hid (tuB a n = false)) (h1 : 1 ≤ n) (h2 : n ≤ 200) (h3 : 0 ≤ a) (h4 : n ≤ a) (HPT : Hid (ptB p q = false)) (g1 : 200 < p) (lp : -9223372036854775808 ≤ p) (lq : -9223372036854775808 ≤ q) :
    Calls Try.prog 8 #[.int .i64 a, .int .i64 n, .int .i64 p, .int .i64 q] w fun e w' => e = .returned (.bool true) ∧ Below w.heap.size w w' := by
  go_enter Try.func8, Try.ntmps8
  go_wp2_with fail
  refine (turns_no a n _ HT.out).mono ?_; rintro e w1 ⟨rfl, hb1⟩
  go_wp2_with fail
  refine (points_no p q _ lp lq HPT.out).mono ?_; rintro e v2 ⟨rfl, rfl⟩
  go_wp2_with fail
  refine (awake_any _).mono ?_; rintro e w9 ⟨rfl, hb9⟩
  go_wp2_with fail
  go_ret
  exact ⟨rfl, bt2 hb1 hb9⟩

theorem sg_an_big2 (a n : Int) (p q : Int) (w : World) (HT : Hid (tuB a n = false)) (h1 : 1 ≤ n) (h2 : n ≤ 200) (h3 : 0 ≤ a) (h4 : n ≤ a) (HPT : Hid (ptB p q = false)) (g1 : p ≤ 200) (g2 : 200 < q) (lp : -9223372036854775808 ≤ p) (lq : -9223372036854775808 ≤ q) :
    Calls Try.prog 8 #[.int .i64 a, .int .i64 n, .int .i64 p, .int .i64 q] w fun e w' => e = .returned (.bool true) ∧ Below w.heap.size w w' := by
  go_enter Try.func8, Try.ntmps8
  go_wp2_with fail
  refine (turns_no a n _ HT.out).mono ?_; rintro e w1 ⟨rfl, hb1⟩
  go_wp2_with fail
  refine (points_no p q _ lp lq HPT.out).mono ?_; rintro e v2 ⟨rfl, rfl⟩
  go_wp2_with fail
  refine (awake_any _).mono ?_; rintro e w9 ⟨rfl, hb9⟩
  go_wp2_with fail
  go_ret
  exact ⟨rfl, bt2 hb1 hb9⟩

theorem sg_an_same (a n : Int) (p q : Int) (w : World) (HT : Hid (tuB a n = false)) (h1 : 1 ≤ n) (h2 : n ≤ 200) (h3 : 0 ≤ a) (h4 : n ≤ a) (HPT : Hid (ptB p q = false)) (g1 : p ≤ 200) (g2 : q ≤ 200) (g3 : (p != q) = false) (lp : -9223372036854775808 ≤ p) (lq : -9223372036854775808 ≤ q) :
    Calls Try.prog 8 #[.int .i64 a, .int .i64 n, .int .i64 p, .int .i64 q] w fun e w' => e = .returned (.bool true) ∧ Below w.heap.size w w' := by
  go_enter Try.func8, Try.ntmps8
  go_wp2_with fail
  refine (turns_no a n _ HT.out).mono ?_; rintro e w1 ⟨rfl, hb1⟩
  go_wp2_with fail
  refine (points_no p q _ lp lq HPT.out).mono ?_; rintro e v2 ⟨rfl, rfl⟩
  go_wp2_with fail
  refine (awake_any _).mono ?_; rintro e w9 ⟨rfl, hb9⟩
  go_wp2_with fail
  go_ret
  exact ⟨rfl, bt2 hb1 hb9⟩

theorem sg_an_np (a n : Int) (p q : Int) (w : World) (HT : Hid (tuB a n = false)) (h1 : 1 ≤ n) (h2 : n ≤ 200) (h3 : 0 ≤ a) (h4 : n ≤ a) (HPT : Hid (ptB p q = false)) (g1 : p ≤ 200) (g2 : q ≤ 200) (g3 : (p != q) = true) (HP : Hid (opB 10000 p = false)) (lp : -9223372036854775808 ≤ p) (lq : -9223372036854775808 ≤ q) :
    Calls Try.prog 8 #[.int .i64 a, .int .i64 n, .int .i64 p, .int .i64 q] w fun e w' => e = .returned (.bool true) ∧ Below w.heap.size w w' := by
  go_enter Try.func8, Try.ntmps8
  go_wp2_with fail
  refine (turns_no a n _ HT.out).mono ?_; rintro e w1 ⟨rfl, hb1⟩
  go_wp2_with fail
  refine (points_no p q _ lp lq HPT.out).mono ?_; rintro e v2 ⟨rfl, rfl⟩
  go_wp2_with fail
  refine (rprime_any _ _).mono ?_; rw [HP.out]; rintro e v3 ⟨rfl, rfl⟩
  go_wp2_with fail
  refine (awake_any _).mono ?_; rintro e w9 ⟨rfl, hb9⟩
  go_wp2_with fail
  go_ret
  exact ⟨rfl, bt2 hb1 hb9⟩

theorem sg_an_nq (a n : Int) (p q : Int) (w : World) (HT : Hid (tuB a n = false)) (h1 : 1 ≤ n) (h2 : n ≤ 200) (h3 : 0 ≤ a) (h4 : n ≤ a) (HPT : Hid (ptB p q = false)) (g1 : p ≤ 200) (g2 : q ≤ 200) (g3 : (p != q) = true) (HP : Hid (opB 10000 p = true)) (HQ : Hid (opB 10000 q = false)) (lp : -9223372036854775808 ≤ p) (lq : -9223372036854775808 ≤ q) :
    Calls Try.prog 8 #[.int .i64 a, .int .i64 n, .int .i64 p, .int .i64 q] w fun e w' => e = .returned (.bool true) ∧ Below w.heap.size w w' := by
  go_enter Try.func8, Try.ntmps8
  go_wp2_with fail
  refine (turns_no a n _ HT.out).mono ?_; rintro e w1 ⟨rfl, hb1⟩
  go_wp2_with fail
  refine (points_no p q _ lp lq HPT.out).mono ?_; rintro e v2 ⟨rfl, rfl⟩
  go_wp2_with fail
  refine (rprime_any _ _).mono ?_; rw [HP.out]; rintro e v3 ⟨rfl, rfl⟩
  go_wp2_with fail
  refine (rprime_any _ _).mono ?_; rw [HQ.out]; rintro e v4 ⟨rfl, rfl⟩
  go_wp2_with fail
  refine (awake_any _).mono ?_; rintro e w9 ⟨rfl, hb9⟩
  go_wp2_with fail
  go_ret
  exact ⟨rfl, bt2 hb1 hb9⟩

theorem sg_an_yes (a n : Int) (P Q : Nat) (w : World) (HT : Hid (tuB a n = false)) (h1 : 1 ≤ n) (h2 : n ≤ 200) (h3 : 0 ≤ a) (h4 : n ≤ a) (HPT : Hid (ptB (P : Int) (Q : Int) = true)) (g1 : (P : Int) ≤ 200) (g2 : (Q : Int) ≤ 200) (g3 : ((P : Int) != (Q : Int)) = true) (HP : Hid (opB 10000 (P : Int) = true)) (HQ : Hid (opB 10000 (Q : Int) = true)) (g4 : P % 2 = 1) (g5 : Q % 2 = 1) (HPF : Hid (pup P Q (P / 2) = fl Q P)) :
    Calls Try.prog 8 #[.int .i64 a, .int .i64 n, .int .i64 (P : Int), .int .i64 (Q : Int)] w fun e w' => e = .returned (.bool true) ∧ Below w.heap.size w w' := by
  go_enter Try.func8, Try.ntmps8
  go_wp2_with fail
  refine (turns_no a n _ HT.out).mono ?_; rintro e w1 ⟨rfl, hb1⟩
  go_wp2_with fail
  refine (points_yes P Q _ HPT.out).mono ?_; rintro e v2 ⟨rfl, rfl⟩
  go_wp2_with fail
  refine (rprime_any _ _).mono ?_; rw [HP.out]; rintro e v3 ⟨rfl, rfl⟩
  go_wp2_with fail
  refine (rprime_any _ _).mono ?_; rw [HQ.out]; rintro e v4 ⟨rfl, rfl⟩
  go_wp2_with fail
  refine (rpoints_any P Q _ (by omega) (by omega) g4 g5).mono ?_; rw [HPF.out]; rintro e v5 ⟨rfl, rfl⟩
  go_wp2_with fail
  refine (awake_any _).mono ?_; rintro e w9 ⟨rfl, hb9⟩
  go_wp2_with fail
  go_ret
  exact ⟨rfl, bt2 hb1 hb9⟩

theorem sg_gc_big1 (A N : Nat) (p q : Int) (w : World) (HT : Hid (tuB (A : Int) (N : Int) = false)) (h1 : 1 < N) (h2 : N ≤ 200) (h4 : A < N) (HG : Hid (rtuB N A = false)) (HPT : Hid (ptB p q = false)) (g1 : 200 < p) (lp : -9223372036854775808 ≤ p) (lq : -9223372036854775808 ≤ q) :
    Calls Try.prog 8 #[.int .i64 (A : Int), .int .i64 (N : Int), .int .i64 p, .int .i64 q] w fun e w' => e = .returned (.bool true) ∧ Below w.heap.size w w' := by
  go_enter Try.func8, Try.ntmps8
  go_wp2_with fail
  refine (turns_no A N _ HT.out).mono ?_; rintro e w1 ⟨rfl, hb1⟩
  go_wp2_with fail
  refine (points_no p q _ lp lq HPT.out).mono ?_; rintro e v2 ⟨rfl, rfl⟩
  go_wp2_with fail
  refine (rturns_any N A _ (by omega)).mono ?_; rw [HG.out]; rintro e w5 ⟨rfl, hb5⟩
  go_wp2_with fail
  refine (awake_any _).mono ?_; rintro e w9 ⟨rfl, hb9⟩
  go_wp2_with fail
  go_ret
  exact ⟨rfl, bt2 (bt2 hb1 hb5) hb9⟩

theorem sg_gc_big2 (A N : Nat) (p q : Int) (w : World) (HT : Hid (tuB (A : Int) (N : Int) = false)) (h1 : 1 < N) (h2 : N ≤ 200) (h4 : A < N) (HG : Hid (rtuB N A = false)) (HPT : Hid (ptB p q = false)) (g1 : p ≤ 200) (g2 : 200 < q) (lp : -9223372036854775808 ≤ p) (lq : -9223372036854775808 ≤ q) :
    Calls Try.prog 8 #[.int .i64 (A : Int), .int .i64 (N : Int), .int .i64 p, .int .i64 q] w fun e w' => e = .returned (.bool true) ∧ Below w.heap.size w w' := by
  go_enter Try.func8, Try.ntmps8
  go_wp2_with fail
  refine (turns_no A N _ HT.out).mono ?_; rintro e w1 ⟨rfl, hb1⟩
  go_wp2_with fail
  refine (points_no p q _ lp lq HPT.out).mono ?_; rintro e v2 ⟨rfl, rfl⟩
  go_wp2_with fail
  refine (rturns_any N A _ (by omega)).mono ?_; rw [HG.out]; rintro e w5 ⟨rfl, hb5⟩
  go_wp2_with fail
  refine (awake_any _).mono ?_; rintro e w9 ⟨rfl, hb9⟩
  go_wp2_with fail
  go_ret
  exact ⟨rfl, bt2 (bt2 hb1 hb5) hb9⟩

theorem sg_gc_same (A N : Nat) (p q : Int) (w : World) (HT : Hid (tuB (A : Int) (N : Int) = false)) (h1 : 1 < N) (h2 : N ≤ 200) (h4 : A < N) (HG : Hid (rtuB N A = false)) (HPT : Hid (ptB p q = false)) (g1 : p ≤ 200) (g2 : q ≤ 200) (g3 : (p != q) = false) (lp : -9223372036854775808 ≤ p) (lq : -9223372036854775808 ≤ q) :
    Calls Try.prog 8 #[.int .i64 (A : Int), .int .i64 (N : Int), .int .i64 p, .int .i64 q] w fun e w' => e = .returned (.bool true) ∧ Below w.heap.size w w' := by
  go_enter Try.func8, Try.ntmps8
  go_wp2_with fail
  refine (turns_no A N _ HT.out).mono ?_; rintro e w1 ⟨rfl, hb1⟩
  go_wp2_with fail
  refine (points_no p q _ lp lq HPT.out).mono ?_; rintro e v2 ⟨rfl, rfl⟩
  go_wp2_with fail
  refine (rturns_any N A _ (by omega)).mono ?_; rw [HG.out]; rintro e w5 ⟨rfl, hb5⟩
  go_wp2_with fail
  refine (awake_any _).mono ?_; rintro e w9 ⟨rfl, hb9⟩
  go_wp2_with fail
  go_ret
  exact ⟨rfl, bt2 (bt2 hb1 hb5) hb9⟩

theorem sg_gc_np (A N : Nat) (p q : Int) (w : World) (HT : Hid (tuB (A : Int) (N : Int) = false)) (h1 : 1 < N) (h2 : N ≤ 200) (h4 : A < N) (HG : Hid (rtuB N A = false)) (HPT : Hid (ptB p q = false)) (g1 : p ≤ 200) (g2 : q ≤ 200) (g3 : (p != q) = true) (HP : Hid (opB 10000 p = false)) (lp : -9223372036854775808 ≤ p) (lq : -9223372036854775808 ≤ q) :
    Calls Try.prog 8 #[.int .i64 (A : Int), .int .i64 (N : Int), .int .i64 p, .int .i64 q] w fun e w' => e = .returned (.bool true) ∧ Below w.heap.size w w' := by
  go_enter Try.func8, Try.ntmps8
  go_wp2_with fail
  refine (turns_no A N _ HT.out).mono ?_; rintro e w1 ⟨rfl, hb1⟩
  go_wp2_with fail
  refine (points_no p q _ lp lq HPT.out).mono ?_; rintro e v2 ⟨rfl, rfl⟩
  go_wp2_with fail
  refine (rprime_any _ _).mono ?_; rw [HP.out]; rintro e v3 ⟨rfl, rfl⟩
  go_wp2_with fail
  refine (rturns_any N A _ (by omega)).mono ?_; rw [HG.out]; rintro e w5 ⟨rfl, hb5⟩
  go_wp2_with fail
  refine (awake_any _).mono ?_; rintro e w9 ⟨rfl, hb9⟩
  go_wp2_with fail
  go_ret
  exact ⟨rfl, bt2 (bt2 hb1 hb5) hb9⟩

theorem sg_gc_nq (A N : Nat) (p q : Int) (w : World) (HT : Hid (tuB (A : Int) (N : Int) = false)) (h1 : 1 < N) (h2 : N ≤ 200) (h4 : A < N) (HG : Hid (rtuB N A = false)) (HPT : Hid (ptB p q = false)) (g1 : p ≤ 200) (g2 : q ≤ 200) (g3 : (p != q) = true) (HP : Hid (opB 10000 p = true)) (HQ : Hid (opB 10000 q = false)) (lp : -9223372036854775808 ≤ p) (lq : -9223372036854775808 ≤ q) :
    Calls Try.prog 8 #[.int .i64 (A : Int), .int .i64 (N : Int), .int .i64 p, .int .i64 q] w fun e w' => e = .returned (.bool true) ∧ Below w.heap.size w w' := by
  go_enter Try.func8, Try.ntmps8
  go_wp2_with fail
  refine (turns_no A N _ HT.out).mono ?_; rintro e w1 ⟨rfl, hb1⟩
  go_wp2_with fail
  refine (points_no p q _ lp lq HPT.out).mono ?_; rintro e v2 ⟨rfl, rfl⟩
  go_wp2_with fail
  refine (rprime_any _ _).mono ?_; rw [HP.out]; rintro e v3 ⟨rfl, rfl⟩
  go_wp2_with fail
  refine (rprime_any _ _).mono ?_; rw [HQ.out]; rintro e v4 ⟨rfl, rfl⟩
  go_wp2_with fail
  refine (rturns_any N A _ (by omega)).mono ?_; rw [HG.out]; rintro e w5 ⟨rfl, hb5⟩
  go_wp2_with fail
  refine (awake_any _).mono ?_; rintro e w9 ⟨rfl, hb9⟩
  go_wp2_with fail
  go_ret
  exact ⟨rfl, bt2 (bt2 hb1 hb5) hb9⟩

theorem sg_gc_yes (A N : Nat) (P Q : Nat) (w : World) (HT : Hid (tuB (A : Int) (N : Int) = false)) (h1 : 1 < N) (h2 : N ≤ 200) (h4 : A < N) (HG : Hid (rtuB N A = false)) (HPT : Hid (ptB (P : Int) (Q : Int) = true)) (g1 : (P : Int) ≤ 200) (g2 : (Q : Int) ≤ 200) (g3 : ((P : Int) != (Q : Int)) = true) (HP : Hid (opB 10000 (P : Int) = true)) (HQ : Hid (opB 10000 (Q : Int) = true)) (g4 : P % 2 = 1) (g5 : Q % 2 = 1) (HPF : Hid (pup P Q (P / 2) = fl Q P)) :
    Calls Try.prog 8 #[.int .i64 (A : Int), .int .i64 (N : Int), .int .i64 (P : Int), .int .i64 (Q : Int)] w fun e w' => e = .returned (.bool true) ∧ Below w.heap.size w w' := by
  go_enter Try.func8, Try.ntmps8
  go_wp2_with fail
  refine (turns_no A N _ HT.out).mono ?_; rintro e w1 ⟨rfl, hb1⟩
  go_wp2_with fail
  refine (points_yes P Q _ HPT.out).mono ?_; rintro e v2 ⟨rfl, rfl⟩
  go_wp2_with fail
  refine (rprime_any _ _).mono ?_; rw [HP.out]; rintro e v3 ⟨rfl, rfl⟩
  go_wp2_with fail
  refine (rprime_any _ _).mono ?_; rw [HQ.out]; rintro e v4 ⟨rfl, rfl⟩
  go_wp2_with fail
  refine (rpoints_any P Q _ (by omega) (by omega) g4 g5).mono ?_; rw [HPF.out]; rintro e v5 ⟨rfl, rfl⟩
  go_wp2_with fail
  refine (rturns_any N A _ (by omega)).mono ?_; rw [HG.out]; rintro e w5 ⟨rfl, hb5⟩
  go_wp2_with fail
  refine (awake_any _).mono ?_; rintro e w9 ⟨rfl, hb9⟩
  go_wp2_with fail
  go_ret
  exact ⟨rfl, bt2 (bt2 hb1 hb5) hb9⟩

theorem sg_y1_big1 (A N : Nat) (p q : Int) (w : World) (HT : Hid (tuB (A : Int) (N : Int) = true)) (h1 : N = 1) (h4 : A < N) (HG : Hid (rtuB N A = false)) (z1 : -1 ≤ zs A N) (z2 : zs A N ≤ 1) (HPT : Hid (ptB p q = false)) (g1 : 200 < p) (lp : -9223372036854775808 ≤ p) (lq : -9223372036854775808 ≤ q) :
    Calls Try.prog 8 #[.int .i64 (A : Int), .int .i64 (N : Int), .int .i64 p, .int .i64 q] w fun e w' => e = .returned (.bool true) ∧ Below w.heap.size w w' := by
  subst h1
  go_enter Try.func8, Try.ntmps8
  go_wp2_with fail
  refine (turns_yes A 1 _ HT.out).mono ?_; rintro e w1 ⟨rfl, hb1⟩
  go_wp2_with fail
  refine (points_no p q _ lp lq HPT.out).mono ?_; rintro e v2 ⟨rfl, rfl⟩
  go_wp2_with fail
  refine (rturns_any 1 A _ (by omega)).mono ?_; rw [HG.out]; rintro e w5 ⟨rfl, hb5⟩
  go_wp2_with fail
  refine (rsign_any A 1 _ (by omega) (by omega) h4).mono ?_; rintro e w6 ⟨rfl, hb6⟩
  go_wp2_with fail
  refine (awake_any _).mono ?_; rintro e w9 ⟨rfl, hb9⟩
  go_wp2_with fail
  go_ret
  exact ⟨rfl, bt2 (bt2 (bt2 hb1 hb5) hb6) hb9⟩

theorem sg_y1_big2 (A N : Nat) (p q : Int) (w : World) (HT : Hid (tuB (A : Int) (N : Int) = true)) (h1 : N = 1) (h4 : A < N) (HG : Hid (rtuB N A = false)) (z1 : -1 ≤ zs A N) (z2 : zs A N ≤ 1) (HPT : Hid (ptB p q = false)) (g1 : p ≤ 200) (g2 : 200 < q) (lp : -9223372036854775808 ≤ p) (lq : -9223372036854775808 ≤ q) :
    Calls Try.prog 8 #[.int .i64 (A : Int), .int .i64 (N : Int), .int .i64 p, .int .i64 q] w fun e w' => e = .returned (.bool true) ∧ Below w.heap.size w w' := by
  subst h1
  go_enter Try.func8, Try.ntmps8
  go_wp2_with fail
  refine (turns_yes A 1 _ HT.out).mono ?_; rintro e w1 ⟨rfl, hb1⟩
  go_wp2_with fail
  refine (points_no p q _ lp lq HPT.out).mono ?_; rintro e v2 ⟨rfl, rfl⟩
  go_wp2_with fail
  refine (rturns_any 1 A _ (by omega)).mono ?_; rw [HG.out]; rintro e w5 ⟨rfl, hb5⟩
  go_wp2_with fail
  refine (rsign_any A 1 _ (by omega) (by omega) h4).mono ?_; rintro e w6 ⟨rfl, hb6⟩
  go_wp2_with fail
  refine (awake_any _).mono ?_; rintro e w9 ⟨rfl, hb9⟩
  go_wp2_with fail
  go_ret
  exact ⟨rfl, bt2 (bt2 (bt2 hb1 hb5) hb6) hb9⟩

theorem sg_y1_same (A N : Nat) (p q : Int) (w : World) (HT : Hid (tuB (A : Int) (N : Int) = true)) (h1 : N = 1) (h4 : A < N) (HG : Hid (rtuB N A = false)) (z1 : -1 ≤ zs A N) (z2 : zs A N ≤ 1) (HPT : Hid (ptB p q = false)) (g1 : p ≤ 200) (g2 : q ≤ 200) (g3 : (p != q) = false) (lp : -9223372036854775808 ≤ p) (lq : -9223372036854775808 ≤ q) :
    Calls Try.prog 8 #[.int .i64 (A : Int), .int .i64 (N : Int), .int .i64 p, .int .i64 q] w fun e w' => e = .returned (.bool true) ∧ Below w.heap.size w w' := by
  subst h1
  go_enter Try.func8, Try.ntmps8
  go_wp2_with fail
  refine (turns_yes A 1 _ HT.out).mono ?_; rintro e w1 ⟨rfl, hb1⟩
  go_wp2_with fail
  refine (points_no p q _ lp lq HPT.out).mono ?_; rintro e v2 ⟨rfl, rfl⟩
  go_wp2_with fail
  refine (rturns_any 1 A _ (by omega)).mono ?_; rw [HG.out]; rintro e w5 ⟨rfl, hb5⟩
  go_wp2_with fail
  refine (rsign_any A 1 _ (by omega) (by omega) h4).mono ?_; rintro e w6 ⟨rfl, hb6⟩
  go_wp2_with fail
  refine (awake_any _).mono ?_; rintro e w9 ⟨rfl, hb9⟩
  go_wp2_with fail
  go_ret
  exact ⟨rfl, bt2 (bt2 (bt2 hb1 hb5) hb6) hb9⟩

theorem sg_y1_np (A N : Nat) (p q : Int) (w : World) (HT : Hid (tuB (A : Int) (N : Int) = true)) (h1 : N = 1) (h4 : A < N) (HG : Hid (rtuB N A = false)) (z1 : -1 ≤ zs A N) (z2 : zs A N ≤ 1) (HPT : Hid (ptB p q = false)) (g1 : p ≤ 200) (g2 : q ≤ 200) (g3 : (p != q) = true) (HP : Hid (opB 10000 p = false)) (lp : -9223372036854775808 ≤ p) (lq : -9223372036854775808 ≤ q) :
    Calls Try.prog 8 #[.int .i64 (A : Int), .int .i64 (N : Int), .int .i64 p, .int .i64 q] w fun e w' => e = .returned (.bool true) ∧ Below w.heap.size w w' := by
  subst h1
  go_enter Try.func8, Try.ntmps8
  go_wp2_with fail
  refine (turns_yes A 1 _ HT.out).mono ?_; rintro e w1 ⟨rfl, hb1⟩
  go_wp2_with fail
  refine (points_no p q _ lp lq HPT.out).mono ?_; rintro e v2 ⟨rfl, rfl⟩
  go_wp2_with fail
  refine (rprime_any _ _).mono ?_; rw [HP.out]; rintro e v3 ⟨rfl, rfl⟩
  go_wp2_with fail
  refine (rturns_any 1 A _ (by omega)).mono ?_; rw [HG.out]; rintro e w5 ⟨rfl, hb5⟩
  go_wp2_with fail
  refine (rsign_any A 1 _ (by omega) (by omega) h4).mono ?_; rintro e w6 ⟨rfl, hb6⟩
  go_wp2_with fail
  refine (awake_any _).mono ?_; rintro e w9 ⟨rfl, hb9⟩
  go_wp2_with fail
  go_ret
  exact ⟨rfl, bt2 (bt2 (bt2 hb1 hb5) hb6) hb9⟩

theorem sg_y1_nq (A N : Nat) (p q : Int) (w : World) (HT : Hid (tuB (A : Int) (N : Int) = true)) (h1 : N = 1) (h4 : A < N) (HG : Hid (rtuB N A = false)) (z1 : -1 ≤ zs A N) (z2 : zs A N ≤ 1) (HPT : Hid (ptB p q = false)) (g1 : p ≤ 200) (g2 : q ≤ 200) (g3 : (p != q) = true) (HP : Hid (opB 10000 p = true)) (HQ : Hid (opB 10000 q = false)) (lp : -9223372036854775808 ≤ p) (lq : -9223372036854775808 ≤ q) :
    Calls Try.prog 8 #[.int .i64 (A : Int), .int .i64 (N : Int), .int .i64 p, .int .i64 q] w fun e w' => e = .returned (.bool true) ∧ Below w.heap.size w w' := by
  subst h1
  go_enter Try.func8, Try.ntmps8
  go_wp2_with fail
  refine (turns_yes A 1 _ HT.out).mono ?_; rintro e w1 ⟨rfl, hb1⟩
  go_wp2_with fail
  refine (points_no p q _ lp lq HPT.out).mono ?_; rintro e v2 ⟨rfl, rfl⟩
  go_wp2_with fail
  refine (rprime_any _ _).mono ?_; rw [HP.out]; rintro e v3 ⟨rfl, rfl⟩
  go_wp2_with fail
  refine (rprime_any _ _).mono ?_; rw [HQ.out]; rintro e v4 ⟨rfl, rfl⟩
  go_wp2_with fail
  refine (rturns_any 1 A _ (by omega)).mono ?_; rw [HG.out]; rintro e w5 ⟨rfl, hb5⟩
  go_wp2_with fail
  refine (rsign_any A 1 _ (by omega) (by omega) h4).mono ?_; rintro e w6 ⟨rfl, hb6⟩
  go_wp2_with fail
  refine (awake_any _).mono ?_; rintro e w9 ⟨rfl, hb9⟩
  go_wp2_with fail
  go_ret
  exact ⟨rfl, bt2 (bt2 (bt2 hb1 hb5) hb6) hb9⟩

theorem sg_y1_yes (A N : Nat) (P Q : Nat) (w : World) (HT : Hid (tuB (A : Int) (N : Int) = true)) (h1 : N = 1) (h4 : A < N) (HG : Hid (rtuB N A = false)) (z1 : -1 ≤ zs A N) (z2 : zs A N ≤ 1) (HPT : Hid (ptB (P : Int) (Q : Int) = true)) (g1 : (P : Int) ≤ 200) (g2 : (Q : Int) ≤ 200) (g3 : ((P : Int) != (Q : Int)) = true) (HP : Hid (opB 10000 (P : Int) = true)) (HQ : Hid (opB 10000 (Q : Int) = true)) (g4 : P % 2 = 1) (g5 : Q % 2 = 1) (HPF : Hid (pup P Q (P / 2) = fl Q P)) :
    Calls Try.prog 8 #[.int .i64 (A : Int), .int .i64 (N : Int), .int .i64 (P : Int), .int .i64 (Q : Int)] w fun e w' => e = .returned (.bool true) ∧ Below w.heap.size w w' := by
  subst h1
  go_enter Try.func8, Try.ntmps8
  go_wp2_with fail
  refine (turns_yes A 1 _ HT.out).mono ?_; rintro e w1 ⟨rfl, hb1⟩
  go_wp2_with fail
  refine (points_yes P Q _ HPT.out).mono ?_; rintro e v2 ⟨rfl, rfl⟩
  go_wp2_with fail
  refine (rprime_any _ _).mono ?_; rw [HP.out]; rintro e v3 ⟨rfl, rfl⟩
  go_wp2_with fail
  refine (rprime_any _ _).mono ?_; rw [HQ.out]; rintro e v4 ⟨rfl, rfl⟩
  go_wp2_with fail
  refine (rpoints_any P Q _ (by omega) (by omega) g4 g5).mono ?_; rw [HPF.out]; rintro e v5 ⟨rfl, rfl⟩
  go_wp2_with fail
  refine (rturns_any 1 A _ (by omega)).mono ?_; rw [HG.out]; rintro e w5 ⟨rfl, hb5⟩
  go_wp2_with fail
  refine (rsign_any A 1 _ (by omega) (by omega) h4).mono ?_; rintro e w6 ⟨rfl, hb6⟩
  go_wp2_with fail
  refine (awake_any _).mono ?_; rintro e w9 ⟨rfl, hb9⟩
  go_wp2_with fail
  go_ret
  exact ⟨rfl, bt2 (bt2 (bt2 hb1 hb5) hb6) hb9⟩

theorem sg_y2_big1 (A N : Nat) (p q : Int) (w : World) (HT : Hid (tuB (A : Int) (N : Int) = true)) (h1 : 1 < N) (h2 : N ≤ 200) (h4 : A < N) (HG : Hid (rtuB N A = true)) (z1 : -1 ≤ zs A N) (z2 : zs A N ≤ 1) (HPT : Hid (ptB p q = false)) (g1 : 200 < p) (lp : -9223372036854775808 ≤ p) (lq : -9223372036854775808 ≤ q) :
    Calls Try.prog 8 #[.int .i64 (A : Int), .int .i64 (N : Int), .int .i64 p, .int .i64 q] w fun e w' => e = .returned (.bool true) ∧ Below w.heap.size w w' := by
  go_enter Try.func8, Try.ntmps8
  go_wp2_with fail
  refine (turns_yes A N _ HT.out).mono ?_; rintro e w1 ⟨rfl, hb1⟩
  go_wp2_with fail
  refine (points_no p q _ lp lq HPT.out).mono ?_; rintro e v2 ⟨rfl, rfl⟩
  go_wp2_with fail
  refine (rturns_any N A _ (by omega)).mono ?_; rw [HG.out]; rintro e w5 ⟨rfl, hb5⟩
  go_wp2_with fail
  refine (rsign_any A N _ (by omega) (by omega) h4).mono ?_; rintro e w6 ⟨rfl, hb6⟩
  go_wp2_with fail
  refine (awake_any _).mono ?_; rintro e w9 ⟨rfl, hb9⟩
  go_wp2_with fail
  go_ret
  exact ⟨rfl, bt2 (bt2 (bt2 hb1 hb5) hb6) hb9⟩

theorem sg_y2_big2 (A N : Nat) (p q : Int) (w : World) (HT : Hid (tuB (A : Int) (N : Int) = true)) (h1 : 1 < N) (h2 : N ≤ 200) (h4 : A < N) (HG : Hid (rtuB N A = true)) (z1 : -1 ≤ zs A N) (z2 : zs A N ≤ 1) (HPT : Hid (ptB p q = false)) (g1 : p ≤ 200) (g2 : 200 < q) (lp : -9223372036854775808 ≤ p) (lq : -9223372036854775808 ≤ q) :
    Calls Try.prog 8 #[.int .i64 (A : Int), .int .i64 (N : Int), .int .i64 p, .int .i64 q] w fun e w' => e = .returned (.bool true) ∧ Below w.heap.size w w' := by
  go_enter Try.func8, Try.ntmps8
  go_wp2_with fail
  refine (turns_yes A N _ HT.out).mono ?_; rintro e w1 ⟨rfl, hb1⟩
  go_wp2_with fail
  refine (points_no p q _ lp lq HPT.out).mono ?_; rintro e v2 ⟨rfl, rfl⟩
  go_wp2_with fail
  refine (rturns_any N A _ (by omega)).mono ?_; rw [HG.out]; rintro e w5 ⟨rfl, hb5⟩
  go_wp2_with fail
  refine (rsign_any A N _ (by omega) (by omega) h4).mono ?_; rintro e w6 ⟨rfl, hb6⟩
  go_wp2_with fail
  refine (awake_any _).mono ?_; rintro e w9 ⟨rfl, hb9⟩
  go_wp2_with fail
  go_ret
  exact ⟨rfl, bt2 (bt2 (bt2 hb1 hb5) hb6) hb9⟩

theorem sg_y2_same (A N : Nat) (p q : Int) (w : World) (HT : Hid (tuB (A : Int) (N : Int) = true)) (h1 : 1 < N) (h2 : N ≤ 200) (h4 : A < N) (HG : Hid (rtuB N A = true)) (z1 : -1 ≤ zs A N) (z2 : zs A N ≤ 1) (HPT : Hid (ptB p q = false)) (g1 : p ≤ 200) (g2 : q ≤ 200) (g3 : (p != q) = false) (lp : -9223372036854775808 ≤ p) (lq : -9223372036854775808 ≤ q) :
    Calls Try.prog 8 #[.int .i64 (A : Int), .int .i64 (N : Int), .int .i64 p, .int .i64 q] w fun e w' => e = .returned (.bool true) ∧ Below w.heap.size w w' := by
  go_enter Try.func8, Try.ntmps8
  go_wp2_with fail
  refine (turns_yes A N _ HT.out).mono ?_; rintro e w1 ⟨rfl, hb1⟩
  go_wp2_with fail
  refine (points_no p q _ lp lq HPT.out).mono ?_; rintro e v2 ⟨rfl, rfl⟩
  go_wp2_with fail
  refine (rturns_any N A _ (by omega)).mono ?_; rw [HG.out]; rintro e w5 ⟨rfl, hb5⟩
  go_wp2_with fail
  refine (rsign_any A N _ (by omega) (by omega) h4).mono ?_; rintro e w6 ⟨rfl, hb6⟩
  go_wp2_with fail
  refine (awake_any _).mono ?_; rintro e w9 ⟨rfl, hb9⟩
  go_wp2_with fail
  go_ret
  exact ⟨rfl, bt2 (bt2 (bt2 hb1 hb5) hb6) hb9⟩

theorem sg_y2_np (A N : Nat) (p q : Int) (w : World) (HT : Hid (tuB (A : Int) (N : Int) = true)) (h1 : 1 < N) (h2 : N ≤ 200) (h4 : A < N) (HG : Hid (rtuB N A = true)) (z1 : -1 ≤ zs A N) (z2 : zs A N ≤ 1) (HPT : Hid (ptB p q = false)) (g1 : p ≤ 200) (g2 : q ≤ 200) (g3 : (p != q) = true) (HP : Hid (opB 10000 p = false)) (lp : -9223372036854775808 ≤ p) (lq : -9223372036854775808 ≤ q) :
    Calls Try.prog 8 #[.int .i64 (A : Int), .int .i64 (N : Int), .int .i64 p, .int .i64 q] w fun e w' => e = .returned (.bool true) ∧ Below w.heap.size w w' := by
  go_enter Try.func8, Try.ntmps8
  go_wp2_with fail
  refine (turns_yes A N _ HT.out).mono ?_; rintro e w1 ⟨rfl, hb1⟩
  go_wp2_with fail
  refine (points_no p q _ lp lq HPT.out).mono ?_; rintro e v2 ⟨rfl, rfl⟩
  go_wp2_with fail
  refine (rprime_any _ _).mono ?_; rw [HP.out]; rintro e v3 ⟨rfl, rfl⟩
  go_wp2_with fail
  refine (rturns_any N A _ (by omega)).mono ?_; rw [HG.out]; rintro e w5 ⟨rfl, hb5⟩
  go_wp2_with fail
  refine (rsign_any A N _ (by omega) (by omega) h4).mono ?_; rintro e w6 ⟨rfl, hb6⟩
  go_wp2_with fail
  refine (awake_any _).mono ?_; rintro e w9 ⟨rfl, hb9⟩
  go_wp2_with fail
  go_ret
  exact ⟨rfl, bt2 (bt2 (bt2 hb1 hb5) hb6) hb9⟩

theorem sg_y2_nq (A N : Nat) (p q : Int) (w : World) (HT : Hid (tuB (A : Int) (N : Int) = true)) (h1 : 1 < N) (h2 : N ≤ 200) (h4 : A < N) (HG : Hid (rtuB N A = true)) (z1 : -1 ≤ zs A N) (z2 : zs A N ≤ 1) (HPT : Hid (ptB p q = false)) (g1 : p ≤ 200) (g2 : q ≤ 200) (g3 : (p != q) = true) (HP : Hid (opB 10000 p = true)) (HQ : Hid (opB 10000 q = false)) (lp : -9223372036854775808 ≤ p) (lq : -9223372036854775808 ≤ q) :
    Calls Try.prog 8 #[.int .i64 (A : Int), .int .i64 (N : Int), .int .i64 p, .int .i64 q] w fun e w' => e = .returned (.bool true) ∧ Below w.heap.size w w' := by
  go_enter Try.func8, Try.ntmps8
  go_wp2_with fail
  refine (turns_yes A N _ HT.out).mono ?_; rintro e w1 ⟨rfl, hb1⟩
  go_wp2_with fail
  refine (points_no p q _ lp lq HPT.out).mono ?_; rintro e v2 ⟨rfl, rfl⟩
  go_wp2_with fail
  refine (rprime_any _ _).mono ?_; rw [HP.out]; rintro e v3 ⟨rfl, rfl⟩
  go_wp2_with fail
  refine (rprime_any _ _).mono ?_; rw [HQ.out]; rintro e v4 ⟨rfl, rfl⟩
  go_wp2_with fail
  refine (rturns_any N A _ (by omega)).mono ?_; rw [HG.out]; rintro e w5 ⟨rfl, hb5⟩
  go_wp2_with fail
  refine (rsign_any A N _ (by omega) (by omega) h4).mono ?_; rintro e w6 ⟨rfl, hb6⟩
  go_wp2_with fail
  refine (awake_any _).mono ?_; rintro e w9 ⟨rfl, hb9⟩
  go_wp2_with fail
  go_ret
  exact ⟨rfl, bt2 (bt2 (bt2 hb1 hb5) hb6) hb9⟩

theorem sg_y2_yes (A N : Nat) (P Q : Nat) (w : World) (HT : Hid (tuB (A : Int) (N : Int) = true)) (h1 : 1 < N) (h2 : N ≤ 200) (h4 : A < N) (HG : Hid (rtuB N A = true)) (z1 : -1 ≤ zs A N) (z2 : zs A N ≤ 1) (HPT : Hid (ptB (P : Int) (Q : Int) = true)) (g1 : (P : Int) ≤ 200) (g2 : (Q : Int) ≤ 200) (g3 : ((P : Int) != (Q : Int)) = true) (HP : Hid (opB 10000 (P : Int) = true)) (HQ : Hid (opB 10000 (Q : Int) = true)) (g4 : P % 2 = 1) (g5 : Q % 2 = 1) (HPF : Hid (pup P Q (P / 2) = fl Q P)) :
    Calls Try.prog 8 #[.int .i64 (A : Int), .int .i64 (N : Int), .int .i64 (P : Int), .int .i64 (Q : Int)] w fun e w' => e = .returned (.bool true) ∧ Below w.heap.size w w' := by
  go_enter Try.func8, Try.ntmps8
  go_wp2_with fail
  refine (turns_yes A N _ HT.out).mono ?_; rintro e w1 ⟨rfl, hb1⟩
  go_wp2_with fail
  refine (points_yes P Q _ HPT.out).mono ?_; rintro e v2 ⟨rfl, rfl⟩
  go_wp2_with fail
  refine (rprime_any _ _).mono ?_; rw [HP.out]; rintro e v3 ⟨rfl, rfl⟩
  go_wp2_with fail
  refine (rprime_any _ _).mono ?_; rw [HQ.out]; rintro e v4 ⟨rfl, rfl⟩
  go_wp2_with fail
  refine (rpoints_any P Q _ (by omega) (by omega) g4 g5).mono ?_; rw [HPF.out]; rintro e v5 ⟨rfl, rfl⟩
  go_wp2_with fail
  refine (rturns_any N A _ (by omega)).mono ?_; rw [HG.out]; rintro e w5 ⟨rfl, hb5⟩
  go_wp2_with fail
  refine (rsign_any A N _ (by omega) (by omega) h4).mono ?_; rintro e w6 ⟨rfl, hb6⟩
  go_wp2_with fail
  refine (awake_any _).mono ?_; rintro e w9 ⟨rfl, hb9⟩
  go_wp2_with fail
  go_ret
  exact ⟨rfl, bt2 (bt2 (bt2 hb1 hb5) hb6) hb9⟩

end Go.Proofs.Ytdombadhmaanfaa
