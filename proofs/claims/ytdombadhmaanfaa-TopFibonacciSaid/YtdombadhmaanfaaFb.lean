/- TopFibonacci: the walk of the law. -/
import Derived.Test.YtdombadhmaanfaaPl
import Derived.Test.YtdombadhmaanfaaNml
import Derived.Test.YtdombadhmaanfaaHf
namespace Go.Proofs.Ytdombadhmaanfaa
open Go Go.RowKit GhN

def fbPr : List Nat := [3, 7, 11, 13, 17, 19, 23, 29, 31, 37, 41, 43, 47, 53, 59]
theorem fbPr_all : ∀ P, P < 60 → ((3 ≤ P ∧ P ≠ 5 ∧ ∀ d, d < P → 2 ≤ d → P % d ≠ 0) ↔ P ∈ fbPr) := by decide +kernel
theorem pr_nd {p d : Nat} (hp : Pr p) (h2 : 2 ≤ d) (hd : d < p) : p % d ≠ 0 := fun h => by
  rcases hp.2 d (Nat.dvd_of_mod_eq_zero h) with e | e <;> omega
def fbK (P : Nat) : Nat := ((P : Int) - jn 5 P).toNat
theorem fb_all : ∀ P, P ∈ fbPr → (jn 5 P = 1 ∨ jn 5 P = -1) ∧ 2 ≤ fbK P ∧ fbK P ≤ 58 ∧ ((fbK P : Nat) : Int) = (P : Int) - jn 5 P ∧ fib (fbK P) % P = 0 ∧ fib (fbK P) ≤ 1000000000000 ∧ 1 ≤ fib (fbK P) := by decide +kernel
theorem fb_even : ∀ P, P ∈ fbPr → fbK P % 2 = 0 := by decide +kernel
/-- at an even index the number is a y of a solution for 4 -/
theorem sl_fib {k : Nat} (h : k % 2 = 0) : slB 4 (fib k) = true := by
  have hs := fib_sol k
  rw [if_pos h] at hs
  unfold slB sqB
  have h0 : fib k ≤ 2 * fib (k + 1) := by have := fib_mono1 k; omega
  have e : ((2 * fib (k + 1) - fib k : Nat) : Int) = 2 * (fib (k + 1) : Int) - fib k := by omega
  generalize 2 * fib (k + 1) - fib k = x at *
  rw [← e] at hs
  have e2 : (4 : Int) + 5 * (fib k : Int) * (fib k : Int) = ((x * x : Nat) : Int) := by
    rw [Int.natCast_mul, hs, Int.mul_assoc]; omega
  rw [e2, Int.toNat_natCast]
  have e3 : isq (x * x) = x := (isq_uniq (Nat.le_refl _) (by rw [Nat.add_mul, Nat.mul_add]; omega)).symm
  rw [e3, decide_eq_true (by omega), decide_eq_true rfl]; rfl

set_option maxRecDepth 100000 in
set_option maxHeartbeats 2000000 in
theorem fibo_walk (p : Int) (w : World) (_l1 : -9223372036854775808 ≤ p) :
    Calls Try.prog 12 #[.int .i64 p] w fun e w' => e = .returned (.bool true) ∧ Below w.heap.size w w' := by
  obtain ⟨q, hq⟩ : ∃ q, opB 10000 p = q := ⟨_, rfl⟩
  have HQ := Lib.hid hq
  cases q with
  | false =>
    clear hq
    go_enter Try.func12, Try.ntmps12
    go_wp2_with fail
    refine (rprime_any p w).mono ?_; rw [HQ.out]; rintro e w1 ⟨rfl, rfl⟩
    go_wp2_with fail
    refine (signs_any _).mono ?_; rintro e w2 ⟨rfl, hb2⟩
    go_wp2_with fail
    go_ret
    exact ⟨rfl, hb2⟩
  | true =>
    obtain ⟨h3, h4, hpr⟩ := opB_yes hq
    have hodd := opB_odd hq
    clear hq
    by_cases h59 : 59 < p
    · clear hpr hodd
      go_enter Try.func12, Try.ntmps12
      go_wp2_with fail
      refine (rprime_any p w).mono ?_; rw [HQ.out]; rintro e w1 ⟨rfl, rfl⟩
      go_wp2_with fail
      refine (signs_any _).mono ?_; rintro e w2 ⟨rfl, hb2⟩
      go_wp2_with fail
      go_ret
      exact ⟨rfl, hb2⟩
    · by_cases h5 : p = 5
      · have t5 : (p == 5) = true := by simpa using h5
        have h59' : p ≤ 59 := by omega
        clear hpr hodd h5 h59
        go_enter Try.func12, Try.ntmps12
        go_wp2_with fail
        refine (rprime_any p w).mono ?_; rw [HQ.out]; rintro e w1 ⟨rfl, rfl⟩
        go_wp2_with fail
        refine (signs_any _).mono ?_; rintro e w2 ⟨rfl, hb2⟩
        go_wp2_with fail
        go_ret
        exact ⟨rfl, hb2⟩
      · have t5 : (p == 5) = false := by simpa using h5
        obtain ⟨P, rfl⟩ : ∃ P : Nat, p = P := ⟨p.toNat, by omega⟩
        rw [Int.toNat_natCast] at hpr hodd
        have hmem := (fbPr_all P (by omega)).1 ⟨by omega, by omega, fun d h1 h2 => pr_nd hpr h2 h1⟩
        obtain ⟨f1, f2, f3, f4, f5, f6, f7⟩ := fb_all P hmem
        have hsl := sl_fib (fb_even P hmem)
        have HV : Hid (validB 5 (P : Int) = true) := Lib.hid (validB_mk ⟨by omega, by omega, by omega, by omega, by omega⟩)
        have ej : jz 5 (P : Int) = jn 5 P := by
          show ji 5 (P : Int).toNat = jn 5 P
          rw [Int.toNat_natCast]; exact ji_nat 5 P
        obtain ⟨K, hK⟩ : ∃ K, fbK P = K := ⟨_, rfl⟩
        obtain ⟨j, hj⟩ : ∃ j, jn 5 P = j := ⟨_, rfl⟩
        rw [hj] at f1 f4 ej
        rw [hK] at f2 f3 f4 f5 f6 f7 hsl
        have HJ := Lib.hid ej
        have HVO : Hid (∀ A c w', IRow w' w'.heap.size A 1 [(K : Int)] → Calls Try.prog 44 #[.slice A 1 c] w' fun e w'' => e = .returned (.tuple #[.int .i64 (fib K : Nat), .int .i64 0]) ∧ w' = w'') := Lib.hid (fun A c w' h => Value_one K A c w' h f2 (by omega) f6)
        obtain ⟨F, hF⟩ : ∃ F, fib K = F := ⟨_, rfl⟩
        rw [hF] at f5 f6 f7 hsl HVO
        have hPj : (P : Int) - j = (K : Int) := by omega
        have tm : ((F : Int) % (P : Int) != 0) = false := by
          have : (F : Int) % (P : Int) = ((F % P : Nat) : Int) := (Int.natCast_emod _ _).symm
          rw [this, f5]; rfl
        have h59i : (P : Int) ≤ 59 := by omega
        have hP3 : (3 : Int) ≤ (P : Int) := by omega
        have hK60 : (K : Int) ≤ 60 := by omega
        have hF12 : (F : Int) ≤ 1000000000000 := by omega
        clear hpr hodd h5 h59 hmem hK hj hF f4 f5 ej
        by_cases hbig : 5000 < F
        · have hbi : (5000 : Int) < (F : Int) := by omega
          clear hsl
          rcases f1 with rfl | rfl
          all_goals
            first
              | rw [show (P : Int) - 1 = (P : Int) - 1 from rfl] at hPj
              | rw [show (P : Int) - -1 = (P : Int) + 1 by omega] at hPj
            go_enter Try.func12, Try.ntmps12
            go_wp2_with fail
            refine (rprime_any _ w).mono ?_; rw [HQ.out]; rintro e w1 ⟨rfl, rfl⟩
            go_wp2_with fail
            refine (jacobi_yes _ _ _ HV.out).mono ?_; rw [HJ.out]; rintro e w2 ⟨rfl, hb2⟩
            have HB2 := Lib.hid hb2
            clear hb2
            have hrow : IRow (w2.alloc (Obj.cells #[.int .i64 (K : Int)] 3)) (w2.alloc (Obj.cells #[.int .i64 (K : Int)] 3)).heap.size (some ⟨w2.heap.size, 0, none⟩) 1 [(K : Int)] := IRow.of_own (own_lit (w := w2) (base := w2.heap.size) [(K : Int)] (Nat.le_refl _) (by unfold maxLen; simp))
            have HROW := Lib.hid hrow
            clear hrow
            go_wp2_with fail
            refine (HVO.out _ _ _ HROW.out).mono ?_; rintro e w3 ⟨rfl, rfl⟩
            go_wp2_with fail
            refine (signs_any _).mono ?_; rintro e w4 ⟨rfl, hb4⟩
            have HB4 := Lib.hid (agbt (HB2.out.alloc HB2.out.size _) hb4)
            clear hb4
            go_wp2_with fail
            go_ret
            exact ⟨rfl, HB4.out⟩
        · have hbi : (F : Int) ≤ 5000 := by omega
          have HSO : Hid (∀ w', Calls Try.prog 45 #[.int .i64 5, .int .i64 4, .int .i64 (F : Int)] w' (GivesPE w' (slL 4 (F + 1)) 0)) := Lib.hid (fun w' => Solve_yes 4 F w' (.inl rfl) (by omega))
          have HSL : Hid (∃ L0 X, slL 4 (F + 1) = L0 ++ [(X, (F : Int))] ∧ L0.length ≤ 5000) := Lib.hid ⟨slL 4 F, _, by rw [slL_succ, if_pos hsl], Nat.le_trans (slL_len 4 F) (by omega)⟩
          clear hsl hbig
          rcases f1 with rfl | rfl
          all_goals
            first
              | rw [show (P : Int) - 1 = (P : Int) - 1 from rfl] at hPj
              | rw [show (P : Int) - -1 = (P : Int) + 1 by omega] at hPj
            go_enter Try.func12, Try.ntmps12
            go_wp2_with fail
            refine (rprime_any _ w).mono ?_; rw [HQ.out]; rintro e w1 ⟨rfl, rfl⟩
            go_wp2_with fail
            refine (jacobi_yes _ _ _ HV.out).mono ?_; rw [HJ.out]; rintro e w2 ⟨rfl, hb2⟩
            have HB2 := Lib.hid hb2
            clear hb2
            have hrow : IRow (w2.alloc (Obj.cells #[.int .i64 (K : Int)] 3)) (w2.alloc (Obj.cells #[.int .i64 (K : Int)] 3)).heap.size (some ⟨w2.heap.size, 0, none⟩) 1 [(K : Int)] := IRow.of_own (own_lit (w := w2) (base := w2.heap.size) [(K : Int)] (Nat.le_refl _) (by unfold maxLen; simp))
            have HROW := Lib.hid hrow
            clear hrow
            go_wp2_with fail
            refine (HVO.out _ _ _ HROW.out).mono ?_; rintro e w3 ⟨rfl, rfl⟩
            go_wp2_with fail
            refine (HSO.out _).mono ?_; rintro e w4 ⟨A4, n4, c4, rfl, hr4, hA4, hb4⟩
            obtain ⟨L0, X, hL, hL0⟩ := HSL.out
            rw [hL] at hr4
            have hn4 : n4 = L0.length + 1 := by have := hr4.1; rw [List.length_append] at this; simpa using this
            obtain ⟨b4, off4, x4, m4, hx4, rfl, hB4, c41, c42⟩ := hr4.at_ (k := L0.length) (by omega)
            obtain rfl : m4 = (F : Int) := by simp at hx4; exact hx4.2.symm
            have HB4 := Lib.hid (agbt (HB2.out.alloc HB2.out.size _) hb4)
            obtain ⟨M, hM⟩ : ∃ M, L0.length = M := ⟨_, rfl⟩
            rw [hM] at hn4 c41 c42 hL0
            subst hn4
            have hMi : ((M + 1 : Nat) : Int) - 1 = (M : Int) := by omega
            have hM0 : (((M + 1 : Nat) : Int) == 0) = false := by simp; omega
            have hM1 : (1 : Int) ≤ ((M + 1 : Nat) : Int) := by omega
            have hM2 : ((M + 1 : Nat) : Int) ≤ 6000 := by omega
            clear hr4 hA4 hb4 hx4 hL hM
            go_wp2_with fail
            refine (signs_any _).mono ?_; rintro e w5 ⟨rfl, hb5⟩
            have HB5 := Lib.hid (agbt HB4.out hb5)
            clear hb5
            go_wp2_with fail
            go_ret
            exact ⟨rfl, HB5.out⟩
end Go.Proofs.Ytdombadhmaanfaa
