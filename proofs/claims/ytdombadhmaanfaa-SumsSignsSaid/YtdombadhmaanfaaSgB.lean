/- SumsSigns: all ways joined (printed by gensigns.py). -/
import Derived.Test.YtdombadhmaanfaaSgA
namespace Go.Proofs.Ytdombadhmaanfaa
open Go Go.RowKit GhN

theorem sgj_n0 (a n : Int) (p q : Int) (w : World) (HT : Hid (tuB a n = false)) (h1 : n < 1) (lp : -9223372036854775808 ≤ p) (lq : -9223372036854775808 ≤ q) :
    Calls Try.prog 8 #[.int .i64 a, .int .i64 n, .int .i64 p, .int .i64 q] w fun e w' => e = .returned (.bool true) ∧ Below w.heap.size w w' := by
  by_cases g1 : p ≤ 200
  · by_cases g2 : q ≤ 200
    · by_cases g3 : p = q
      · have HPT : Hid (ptB p q = false) := Lib.hid (by unfold ptB; rw [g3]; simp)
        have g4 : (p != q) = false := by simp [g3]
        exact sg_n0_same a n p q w HT h1 HPT g1 g2 g4 lp lq
      · have g4 : (p != q) = true := by simp [g3]
        cases hp : opB 10000 p with
        | false =>
          have HPT : Hid (ptB p q = false) := Lib.hid (by
            have : opB 200 p = false := by
              cases e : opB 200 p with
              | false => rfl
              | true => obtain ⟨e1, e2, e3⟩ := opB_yes e; rw [opB_mk e1 (by omega) e3] at hp; cases hp
            unfold ptB; rw [this]; simp)
          exact sg_n0_np a n p q w HT h1 HPT g1 g2 g4 (Lib.hid hp) lp lq
        | true =>
          cases hq : opB 10000 q with
          | false =>
            have HPT : Hid (ptB p q = false) := Lib.hid (by
              have : opB 200 q = false := by
                cases e : opB 200 q with
                | false => rfl
                | true => obtain ⟨e1, e2, e3⟩ := opB_yes e; rw [opB_mk e1 (by omega) e3] at hq; cases hq
              unfold ptB; rw [this]; simp)
            exact sg_n0_nq a n p q w HT h1 HPT g1 g2 g4 (Lib.hid hp) (Lib.hid hq) lp lq
          | true =>
            obtain ⟨p1, p2, p3⟩ := opB_yes hp
            obtain ⟨q1, q2, q3⟩ := opB_yes hq
            have o1 := opB_odd hp
            have o2 := opB_odd hq
            obtain ⟨P, rfl⟩ : ∃ P : Nat, p = P := ⟨p.toNat, by omega⟩
            obtain ⟨Q, rfl⟩ : ∃ Q : Nat, q = Q := ⟨q.toNat, by omega⟩
            have HPT : Hid (ptB (P : Int) (Q : Int) = true) := Lib.hid (by
              unfold ptB; rw [opB_mk p1 g1 p3, opB_mk q1 g2 q3]; simpa using g3)
            have HPF : Hid (pup P Q (P / 2) = fl Q P) := Lib.hid (pup_fl o1 o2 (primes_cop2 p3 q3 (by omega)))
            exact sg_n0_yes a n P Q w HT h1 HPT g1 g2 g4 (Lib.hid hp) (Lib.hid hq) o1 o2 HPF
    · have HPT : Hid (ptB p q = false) := Lib.hid (by unfold ptB; rw [opB_no (m := 200) (x := q) (by omega)]; simp)
      exact sg_n0_big2 a n p q w HT h1 HPT g1 (by omega) lp lq
  · have HPT : Hid (ptB p q = false) := Lib.hid (by unfold ptB; rw [opB_no (m := 200) (x := p) (by omega)]; simp)
    exact sg_n0_big1 a n p q w HT h1 HPT (by omega) lp lq

theorem sgj_n200 (a n : Int) (p q : Int) (w : World) (HT : Hid (tuB a n = false)) (h1 : 1 ≤ n) (h2 : 200 < n) (lp : -9223372036854775808 ≤ p) (lq : -9223372036854775808 ≤ q) :
    Calls Try.prog 8 #[.int .i64 a, .int .i64 n, .int .i64 p, .int .i64 q] w fun e w' => e = .returned (.bool true) ∧ Below w.heap.size w w' := by
  by_cases g1 : p ≤ 200
  · by_cases g2 : q ≤ 200
    · by_cases g3 : p = q
      · have HPT : Hid (ptB p q = false) := Lib.hid (by unfold ptB; rw [g3]; simp)
        have g4 : (p != q) = false := by simp [g3]
        exact sg_n200_same a n p q w HT h1 h2 HPT g1 g2 g4 lp lq
      · have g4 : (p != q) = true := by simp [g3]
        cases hp : opB 10000 p with
        | false =>
          have HPT : Hid (ptB p q = false) := Lib.hid (by
            have : opB 200 p = false := by
              cases e : opB 200 p with
              | false => rfl
              | true => obtain ⟨e1, e2, e3⟩ := opB_yes e; rw [opB_mk e1 (by omega) e3] at hp; cases hp
            unfold ptB; rw [this]; simp)
          exact sg_n200_np a n p q w HT h1 h2 HPT g1 g2 g4 (Lib.hid hp) lp lq
        | true =>
          cases hq : opB 10000 q with
          | false =>
            have HPT : Hid (ptB p q = false) := Lib.hid (by
              have : opB 200 q = false := by
                cases e : opB 200 q with
                | false => rfl
                | true => obtain ⟨e1, e2, e3⟩ := opB_yes e; rw [opB_mk e1 (by omega) e3] at hq; cases hq
              unfold ptB; rw [this]; simp)
            exact sg_n200_nq a n p q w HT h1 h2 HPT g1 g2 g4 (Lib.hid hp) (Lib.hid hq) lp lq
          | true =>
            obtain ⟨p1, p2, p3⟩ := opB_yes hp
            obtain ⟨q1, q2, q3⟩ := opB_yes hq
            have o1 := opB_odd hp
            have o2 := opB_odd hq
            obtain ⟨P, rfl⟩ : ∃ P : Nat, p = P := ⟨p.toNat, by omega⟩
            obtain ⟨Q, rfl⟩ : ∃ Q : Nat, q = Q := ⟨q.toNat, by omega⟩
            have HPT : Hid (ptB (P : Int) (Q : Int) = true) := Lib.hid (by
              unfold ptB; rw [opB_mk p1 g1 p3, opB_mk q1 g2 q3]; simpa using g3)
            have HPF : Hid (pup P Q (P / 2) = fl Q P) := Lib.hid (pup_fl o1 o2 (primes_cop2 p3 q3 (by omega)))
            exact sg_n200_yes a n P Q w HT h1 h2 HPT g1 g2 g4 (Lib.hid hp) (Lib.hid hq) o1 o2 HPF
    · have HPT : Hid (ptB p q = false) := Lib.hid (by unfold ptB; rw [opB_no (m := 200) (x := q) (by omega)]; simp)
      exact sg_n200_big2 a n p q w HT h1 h2 HPT g1 (by omega) lp lq
  · have HPT : Hid (ptB p q = false) := Lib.hid (by unfold ptB; rw [opB_no (m := 200) (x := p) (by omega)]; simp)
    exact sg_n200_big1 a n p q w HT h1 h2 HPT (by omega) lp lq

theorem sgj_a0 (a n : Int) (p q : Int) (w : World) (HT : Hid (tuB a n = false)) (h1 : 1 ≤ n) (h2 : n ≤ 200) (h3 : a < 0) (lp : -9223372036854775808 ≤ p) (lq : -9223372036854775808 ≤ q) :
    Calls Try.prog 8 #[.int .i64 a, .int .i64 n, .int .i64 p, .int .i64 q] w fun e w' => e = .returned (.bool true) ∧ Below w.heap.size w w' := by
  by_cases g1 : p ≤ 200
  · by_cases g2 : q ≤ 200
    · by_cases g3 : p = q
      · have HPT : Hid (ptB p q = false) := Lib.hid (by unfold ptB; rw [g3]; simp)
        have g4 : (p != q) = false := by simp [g3]
        exact sg_a0_same a n p q w HT h1 h2 h3 HPT g1 g2 g4 lp lq
      · have g4 : (p != q) = true := by simp [g3]
        cases hp : opB 10000 p with
        | false =>
          have HPT : Hid (ptB p q = false) := Lib.hid (by
            have : opB 200 p = false := by
              cases e : opB 200 p with
              | false => rfl
              | true => obtain ⟨e1, e2, e3⟩ := opB_yes e; rw [opB_mk e1 (by omega) e3] at hp; cases hp
            unfold ptB; rw [this]; simp)
          exact sg_a0_np a n p q w HT h1 h2 h3 HPT g1 g2 g4 (Lib.hid hp) lp lq
        | true =>
          cases hq : opB 10000 q with
          | false =>
            have HPT : Hid (ptB p q = false) := Lib.hid (by
              have : opB 200 q = false := by
                cases e : opB 200 q with
                | false => rfl
                | true => obtain ⟨e1, e2, e3⟩ := opB_yes e; rw [opB_mk e1 (by omega) e3] at hq; cases hq
              unfold ptB; rw [this]; simp)
            exact sg_a0_nq a n p q w HT h1 h2 h3 HPT g1 g2 g4 (Lib.hid hp) (Lib.hid hq) lp lq
          | true =>
            obtain ⟨p1, p2, p3⟩ := opB_yes hp
            obtain ⟨q1, q2, q3⟩ := opB_yes hq
            have o1 := opB_odd hp
            have o2 := opB_odd hq
            obtain ⟨P, rfl⟩ : ∃ P : Nat, p = P := ⟨p.toNat, by omega⟩
            obtain ⟨Q, rfl⟩ : ∃ Q : Nat, q = Q := ⟨q.toNat, by omega⟩
            have HPT : Hid (ptB (P : Int) (Q : Int) = true) := Lib.hid (by
              unfold ptB; rw [opB_mk p1 g1 p3, opB_mk q1 g2 q3]; simpa using g3)
            have HPF : Hid (pup P Q (P / 2) = fl Q P) := Lib.hid (pup_fl o1 o2 (primes_cop2 p3 q3 (by omega)))
            exact sg_a0_yes a n P Q w HT h1 h2 h3 HPT g1 g2 g4 (Lib.hid hp) (Lib.hid hq) o1 o2 HPF
    · have HPT : Hid (ptB p q = false) := Lib.hid (by unfold ptB; rw [opB_no (m := 200) (x := q) (by omega)]; simp)
      exact sg_a0_big2 a n p q w HT h1 h2 h3 HPT g1 (by omega) lp lq
  · have HPT : Hid (ptB p q = false) := Lib.hid (by unfold ptB; rw [opB_no (m := 200) (x := p) (by omega)]; simp)
    exact sg_a0_big1 a n p q w HT h1 h2 h3 HPT (by omega) lp lq

theorem sgj_an (a n : Int) (p q : Int) (w : World) (HT : Hid (tuB a n = false)) (h1 : 1 ≤ n) (h2 : n ≤ 200) (h3 : 0 ≤ a) (h4 : n ≤ a) (lp : -9223372036854775808 ≤ p) (lq : -9223372036854775808 ≤ q) :
    Calls Try.prog 8 #[.int .i64 a, .int .i64 n, .int .i64 p, .int .i64 q] w fun e w' => e = .returned (.bool true) ∧ Below w.heap.size w w' := by
  by_cases g1 : p ≤ 200
  · by_cases g2 : q ≤ 200
    · by_cases g3 : p = q
      · have HPT : Hid (ptB p q = false) := Lib.hid (by unfold ptB; rw [g3]; simp)
        have g4 : (p != q) = false := by simp [g3]
        exact sg_an_same a n p q w HT h1 h2 h3 h4 HPT g1 g2 g4 lp lq
      · have g4 : (p != q) = true := by simp [g3]
        cases hp : opB 10000 p with
        | false =>
          have HPT : Hid (ptB p q = false) := Lib.hid (by
            have : opB 200 p = false := by
              cases e : opB 200 p with
              | false => rfl
              | true => obtain ⟨e1, e2, e3⟩ := opB_yes e; rw [opB_mk e1 (by omega) e3] at hp; cases hp
            unfold ptB; rw [this]; simp)
          exact sg_an_np a n p q w HT h1 h2 h3 h4 HPT g1 g2 g4 (Lib.hid hp) lp lq
        | true =>
          cases hq : opB 10000 q with
          | false =>
            have HPT : Hid (ptB p q = false) := Lib.hid (by
              have : opB 200 q = false := by
                cases e : opB 200 q with
                | false => rfl
                | true => obtain ⟨e1, e2, e3⟩ := opB_yes e; rw [opB_mk e1 (by omega) e3] at hq; cases hq
              unfold ptB; rw [this]; simp)
            exact sg_an_nq a n p q w HT h1 h2 h3 h4 HPT g1 g2 g4 (Lib.hid hp) (Lib.hid hq) lp lq
          | true =>
            obtain ⟨p1, p2, p3⟩ := opB_yes hp
            obtain ⟨q1, q2, q3⟩ := opB_yes hq
            have o1 := opB_odd hp
            have o2 := opB_odd hq
            obtain ⟨P, rfl⟩ : ∃ P : Nat, p = P := ⟨p.toNat, by omega⟩
            obtain ⟨Q, rfl⟩ : ∃ Q : Nat, q = Q := ⟨q.toNat, by omega⟩
            have HPT : Hid (ptB (P : Int) (Q : Int) = true) := Lib.hid (by
              unfold ptB; rw [opB_mk p1 g1 p3, opB_mk q1 g2 q3]; simpa using g3)
            have HPF : Hid (pup P Q (P / 2) = fl Q P) := Lib.hid (pup_fl o1 o2 (primes_cop2 p3 q3 (by omega)))
            exact sg_an_yes a n P Q w HT h1 h2 h3 h4 HPT g1 g2 g4 (Lib.hid hp) (Lib.hid hq) o1 o2 HPF
    · have HPT : Hid (ptB p q = false) := Lib.hid (by unfold ptB; rw [opB_no (m := 200) (x := q) (by omega)]; simp)
      exact sg_an_big2 a n p q w HT h1 h2 h3 h4 HPT g1 (by omega) lp lq
  · have HPT : Hid (ptB p q = false) := Lib.hid (by unfold ptB; rw [opB_no (m := 200) (x := p) (by omega)]; simp)
    exact sg_an_big1 a n p q w HT h1 h2 h3 h4 HPT (by omega) lp lq

theorem sgj_gc (A N : Nat) (p q : Int) (w : World) (HT : Hid (tuB (A : Int) (N : Int) = false)) (h1 : 1 < N) (h2 : N ≤ 200) (h4 : A < N) (HG : Hid (rtuB N A = false)) (lp : -9223372036854775808 ≤ p) (lq : -9223372036854775808 ≤ q) :
    Calls Try.prog 8 #[.int .i64 (A : Int), .int .i64 (N : Int), .int .i64 p, .int .i64 q] w fun e w' => e = .returned (.bool true) ∧ Below w.heap.size w w' := by
  by_cases g1 : p ≤ 200
  · by_cases g2 : q ≤ 200
    · by_cases g3 : p = q
      · have HPT : Hid (ptB p q = false) := Lib.hid (by unfold ptB; rw [g3]; simp)
        have g4 : (p != q) = false := by simp [g3]
        exact sg_gc_same A N p q w HT h1 h2 h4 HG HPT g1 g2 g4 lp lq
      · have g4 : (p != q) = true := by simp [g3]
        cases hp : opB 10000 p with
        | false =>
          have HPT : Hid (ptB p q = false) := Lib.hid (by
            have : opB 200 p = false := by
              cases e : opB 200 p with
              | false => rfl
              | true => obtain ⟨e1, e2, e3⟩ := opB_yes e; rw [opB_mk e1 (by omega) e3] at hp; cases hp
            unfold ptB; rw [this]; simp)
          exact sg_gc_np A N p q w HT h1 h2 h4 HG HPT g1 g2 g4 (Lib.hid hp) lp lq
        | true =>
          cases hq : opB 10000 q with
          | false =>
            have HPT : Hid (ptB p q = false) := Lib.hid (by
              have : opB 200 q = false := by
                cases e : opB 200 q with
                | false => rfl
                | true => obtain ⟨e1, e2, e3⟩ := opB_yes e; rw [opB_mk e1 (by omega) e3] at hq; cases hq
              unfold ptB; rw [this]; simp)
            exact sg_gc_nq A N p q w HT h1 h2 h4 HG HPT g1 g2 g4 (Lib.hid hp) (Lib.hid hq) lp lq
          | true =>
            obtain ⟨p1, p2, p3⟩ := opB_yes hp
            obtain ⟨q1, q2, q3⟩ := opB_yes hq
            have o1 := opB_odd hp
            have o2 := opB_odd hq
            obtain ⟨P, rfl⟩ : ∃ P : Nat, p = P := ⟨p.toNat, by omega⟩
            obtain ⟨Q, rfl⟩ : ∃ Q : Nat, q = Q := ⟨q.toNat, by omega⟩
            have HPT : Hid (ptB (P : Int) (Q : Int) = true) := Lib.hid (by
              unfold ptB; rw [opB_mk p1 g1 p3, opB_mk q1 g2 q3]; simpa using g3)
            have HPF : Hid (pup P Q (P / 2) = fl Q P) := Lib.hid (pup_fl o1 o2 (primes_cop2 p3 q3 (by omega)))
            exact sg_gc_yes A N P Q w HT h1 h2 h4 HG HPT g1 g2 g4 (Lib.hid hp) (Lib.hid hq) o1 o2 HPF
    · have HPT : Hid (ptB p q = false) := Lib.hid (by unfold ptB; rw [opB_no (m := 200) (x := q) (by omega)]; simp)
      exact sg_gc_big2 A N p q w HT h1 h2 h4 HG HPT g1 (by omega) lp lq
  · have HPT : Hid (ptB p q = false) := Lib.hid (by unfold ptB; rw [opB_no (m := 200) (x := p) (by omega)]; simp)
    exact sg_gc_big1 A N p q w HT h1 h2 h4 HG HPT (by omega) lp lq

theorem sgj_y1 (A N : Nat) (p q : Int) (w : World) (HT : Hid (tuB (A : Int) (N : Int) = true)) (h1 : N = 1) (h4 : A < N) (HG : Hid (rtuB N A = false)) (z1 : -1 ≤ zs A N) (z2 : zs A N ≤ 1) (lp : -9223372036854775808 ≤ p) (lq : -9223372036854775808 ≤ q) :
    Calls Try.prog 8 #[.int .i64 (A : Int), .int .i64 (N : Int), .int .i64 p, .int .i64 q] w fun e w' => e = .returned (.bool true) ∧ Below w.heap.size w w' := by
  by_cases g1 : p ≤ 200
  · by_cases g2 : q ≤ 200
    · by_cases g3 : p = q
      · have HPT : Hid (ptB p q = false) := Lib.hid (by unfold ptB; rw [g3]; simp)
        have g4 : (p != q) = false := by simp [g3]
        exact sg_y1_same A N p q w HT h1 h4 HG z1 z2 HPT g1 g2 g4 lp lq
      · have g4 : (p != q) = true := by simp [g3]
        cases hp : opB 10000 p with
        | false =>
          have HPT : Hid (ptB p q = false) := Lib.hid (by
            have : opB 200 p = false := by
              cases e : opB 200 p with
              | false => rfl
              | true => obtain ⟨e1, e2, e3⟩ := opB_yes e; rw [opB_mk e1 (by omega) e3] at hp; cases hp
            unfold ptB; rw [this]; simp)
          exact sg_y1_np A N p q w HT h1 h4 HG z1 z2 HPT g1 g2 g4 (Lib.hid hp) lp lq
        | true =>
          cases hq : opB 10000 q with
          | false =>
            have HPT : Hid (ptB p q = false) := Lib.hid (by
              have : opB 200 q = false := by
                cases e : opB 200 q with
                | false => rfl
                | true => obtain ⟨e1, e2, e3⟩ := opB_yes e; rw [opB_mk e1 (by omega) e3] at hq; cases hq
              unfold ptB; rw [this]; simp)
            exact sg_y1_nq A N p q w HT h1 h4 HG z1 z2 HPT g1 g2 g4 (Lib.hid hp) (Lib.hid hq) lp lq
          | true =>
            obtain ⟨p1, p2, p3⟩ := opB_yes hp
            obtain ⟨q1, q2, q3⟩ := opB_yes hq
            have o1 := opB_odd hp
            have o2 := opB_odd hq
            obtain ⟨P, rfl⟩ : ∃ P : Nat, p = P := ⟨p.toNat, by omega⟩
            obtain ⟨Q, rfl⟩ : ∃ Q : Nat, q = Q := ⟨q.toNat, by omega⟩
            have HPT : Hid (ptB (P : Int) (Q : Int) = true) := Lib.hid (by
              unfold ptB; rw [opB_mk p1 g1 p3, opB_mk q1 g2 q3]; simpa using g3)
            have HPF : Hid (pup P Q (P / 2) = fl Q P) := Lib.hid (pup_fl o1 o2 (primes_cop2 p3 q3 (by omega)))
            exact sg_y1_yes A N P Q w HT h1 h4 HG z1 z2 HPT g1 g2 g4 (Lib.hid hp) (Lib.hid hq) o1 o2 HPF
    · have HPT : Hid (ptB p q = false) := Lib.hid (by unfold ptB; rw [opB_no (m := 200) (x := q) (by omega)]; simp)
      exact sg_y1_big2 A N p q w HT h1 h4 HG z1 z2 HPT g1 (by omega) lp lq
  · have HPT : Hid (ptB p q = false) := Lib.hid (by unfold ptB; rw [opB_no (m := 200) (x := p) (by omega)]; simp)
    exact sg_y1_big1 A N p q w HT h1 h4 HG z1 z2 HPT (by omega) lp lq

theorem sgj_y2 (A N : Nat) (p q : Int) (w : World) (HT : Hid (tuB (A : Int) (N : Int) = true)) (h1 : 1 < N) (h2 : N ≤ 200) (h4 : A < N) (HG : Hid (rtuB N A = true)) (z1 : -1 ≤ zs A N) (z2 : zs A N ≤ 1) (lp : -9223372036854775808 ≤ p) (lq : -9223372036854775808 ≤ q) :
    Calls Try.prog 8 #[.int .i64 (A : Int), .int .i64 (N : Int), .int .i64 p, .int .i64 q] w fun e w' => e = .returned (.bool true) ∧ Below w.heap.size w w' := by
  by_cases g1 : p ≤ 200
  · by_cases g2 : q ≤ 200
    · by_cases g3 : p = q
      · have HPT : Hid (ptB p q = false) := Lib.hid (by unfold ptB; rw [g3]; simp)
        have g4 : (p != q) = false := by simp [g3]
        exact sg_y2_same A N p q w HT h1 h2 h4 HG z1 z2 HPT g1 g2 g4 lp lq
      · have g4 : (p != q) = true := by simp [g3]
        cases hp : opB 10000 p with
        | false =>
          have HPT : Hid (ptB p q = false) := Lib.hid (by
            have : opB 200 p = false := by
              cases e : opB 200 p with
              | false => rfl
              | true => obtain ⟨e1, e2, e3⟩ := opB_yes e; rw [opB_mk e1 (by omega) e3] at hp; cases hp
            unfold ptB; rw [this]; simp)
          exact sg_y2_np A N p q w HT h1 h2 h4 HG z1 z2 HPT g1 g2 g4 (Lib.hid hp) lp lq
        | true =>
          cases hq : opB 10000 q with
          | false =>
            have HPT : Hid (ptB p q = false) := Lib.hid (by
              have : opB 200 q = false := by
                cases e : opB 200 q with
                | false => rfl
                | true => obtain ⟨e1, e2, e3⟩ := opB_yes e; rw [opB_mk e1 (by omega) e3] at hq; cases hq
              unfold ptB; rw [this]; simp)
            exact sg_y2_nq A N p q w HT h1 h2 h4 HG z1 z2 HPT g1 g2 g4 (Lib.hid hp) (Lib.hid hq) lp lq
          | true =>
            obtain ⟨p1, p2, p3⟩ := opB_yes hp
            obtain ⟨q1, q2, q3⟩ := opB_yes hq
            have o1 := opB_odd hp
            have o2 := opB_odd hq
            obtain ⟨P, rfl⟩ : ∃ P : Nat, p = P := ⟨p.toNat, by omega⟩
            obtain ⟨Q, rfl⟩ : ∃ Q : Nat, q = Q := ⟨q.toNat, by omega⟩
            have HPT : Hid (ptB (P : Int) (Q : Int) = true) := Lib.hid (by
              unfold ptB; rw [opB_mk p1 g1 p3, opB_mk q1 g2 q3]; simpa using g3)
            have HPF : Hid (pup P Q (P / 2) = fl Q P) := Lib.hid (pup_fl o1 o2 (primes_cop2 p3 q3 (by omega)))
            exact sg_y2_yes A N P Q w HT h1 h2 h4 HG z1 z2 HPT g1 g2 g4 (Lib.hid hp) (Lib.hid hq) o1 o2 HPF
    · have HPT : Hid (ptB p q = false) := Lib.hid (by unfold ptB; rw [opB_no (m := 200) (x := q) (by omega)]; simp)
      exact sg_y2_big2 A N p q w HT h1 h2 h4 HG z1 z2 HPT g1 (by omega) lp lq
  · have HPT : Hid (ptB p q = false) := Lib.hid (by unfold ptB; rw [opB_no (m := 200) (x := p) (by omega)]; simp)
    exact sg_y2_big1 A N p q w HT h1 h2 h4 HG z1 z2 HPT (by omega) lp lq

theorem signs_walk (a n p q : Int) (w : World) (la : -9223372036854775808 ≤ a) (ln : -9223372036854775808 ≤ n) (lp : -9223372036854775808 ≤ p) (lq : -9223372036854775808 ≤ q) :
    Calls Try.prog 8 #[.int .i64 a, .int .i64 n, .int .i64 p, .int .i64 q] w fun e w' => e = .returned (.bool true) ∧ Below w.heap.size w w' := by
  cases ht : tuB a n with
  | false =>
    have HT := Lib.hid ht
    have hno := tuB_no ht
    by_cases h1 : 1 ≤ n
    · by_cases h2 : n ≤ 200
      · by_cases h3 : 0 ≤ a
        · by_cases h4 : a < n
          · obtain ⟨A, rfl⟩ : ∃ A : Nat, a = A := ⟨a.toNat, by omega⟩
            obtain ⟨N, rfl⟩ : ∃ N : Nat, n = N := ⟨n.toNat, by omega⟩
            have hg : Nat.gcd A N ≠ 1 := fun e => hno ⟨h1, h2, h3, h4, e⟩
            have hN : 1 < N := by
              apply Classical.byContradiction; intro g
              have e1 : N = 1 := by omega
              exact hg (by rw [e1]; exact Nat.gcd_one_right _)
            exact sgj_gc A N p q w HT hN (by omega) (by omega) (Lib.hid (decide_eq_false (fun h => hg h.2.2))) lp lq
          · exact sgj_an a n p q w HT h1 h2 h3 (by omega) lp lq
        · exact sgj_a0 a n p q w HT h1 h2 (by omega) lp lq
      · exact sgj_n200 a n p q w HT h1 (by omega) lp lq
    · exact sgj_n0 a n p q w HT (by omega) lp lq
  | true =>
    obtain ⟨h1, h2, h3, h4, h5⟩ := tuB_yes ht
    have HT := Lib.hid ht
    obtain ⟨A, rfl⟩ : ∃ A : Nat, a = A := ⟨a.toNat, by omega⟩
    obtain ⟨N, rfl⟩ : ∃ N : Nat, n = N := ⟨n.toNat, by omega⟩
    have hz : -1 ≤ zs A N ∧ zs A N ≤ 1 := sgn_pm _
    have h5 : Nat.gcd A N = 1 := h5
    by_cases hN : N = 1
    · exact sgj_y1 A N p q w HT hN (by omega) (Lib.hid (decide_eq_false (fun h => by omega))) hz.1 hz.2 lp lq
    · have hA : 1 ≤ A := by
        apply Classical.byContradiction; intro g
        have : A = 0 := by omega
        subst this
        rw [Nat.gcd_zero_left] at h5; omega
      exact sgj_y2 A N p q w HT (by omega) (by omega) (by omega) (Lib.hid (decide_eq_true ⟨hA, by omega, h5⟩)) hz.1 hz.2 lp lq
end Go.Proofs.Ytdombadhmaanfaa
