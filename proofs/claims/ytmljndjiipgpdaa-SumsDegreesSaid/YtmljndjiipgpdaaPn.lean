/- SumsPolynomials: the walk of the law. -/
import Derived.Test.YtmljndjiipgpdaaGs
namespace Go.Proofs.Ytmljndjiipgpdaa
open Go Go.RowKit GhP GhN

set_option maxRecDepth 100000 in
set_option maxHeartbeats 1000000 in
theorem poly_law (n : Int) (w : World) (_l1 : -9223372036854775808 ≤ n) (_l2 : n ≤ 9223372036854775807) :
    Calls Try.prog 4 #[.int .i64 n] w fun e w' => e = .returned (.bool true) ∧ Below w.heap.size w w' := by
  by_cases hr : n < 1 ∨ 60 < n
  · have HGN : Hid (isG n = false) := Lib.hid (decide_eq_false (by omega))
    have HCB : Hid (∀ w', Calls Try.prog 10 #[.int .i64 n] w' fun e w'' => e = .returned (.tuple #[.slice none 0 0, .int .i64 2]) ∧ Below w'.heap.size w' w'') := Lib.hid (fun w' => Cyc_bad n w' hr)
    by_cases h1 : n < 1
    · clear hr
      go_enter Try.func4, Try.ntmps4
      go_wp2_with fail
      refine (HCB.out _).mono ?_; rintro e w1 ⟨rfl, hb1⟩
      go_wp2_with fail
      refine (Gauss_no n w1 HGN.out).mono ?_; rintro e w2 ⟨rfl, hb2⟩
      go_wp2_with fail
      refine (awake_any _).mono ?_; rintro e w3 ⟨rfl, hb3⟩
      go_wp2_with fail
      go_ret
      exact ⟨rfl, ibt (ibt hb1 hb2) hb3⟩
    · have h2 : 60 < n := by omega
      clear hr
      go_enter Try.func4, Try.ntmps4
      go_wp2_with fail
      refine (HCB.out _).mono ?_; rintro e w1 ⟨rfl, hb1⟩
      go_wp2_with fail
      refine (Gauss_no n w1 HGN.out).mono ?_; rintro e w2 ⟨rfl, hb2⟩
      go_wp2_with fail
      refine (awake_any _).mono ?_; rintro e w3 ⟨rfl, hb3⟩
      go_wp2_with fail
      go_ret
      exact ⟨rfl, ibt (ibt hb1 hb2) hb3⟩
  · obtain ⟨N, rfl⟩ : ∃ N : Nat, n = N := ⟨n.toNat, by omega⟩
    have h1 : 1 ≤ N := by omega
    have h60 : N ≤ 60 := by omega
    have HCL : Hid ((cyc N).length ≤ 61) := Lib.hid (by have h3 := (cyc_facts h1 h60).1; have h4 : phi N ≤ N := phiK_le N N; omega)
    clear hr
    cases hg : isG N with
    | false =>
      have HG := Lib.hid hg
      have hn := isG_no hg
      have t3 : ((N : Int) != 3) = true := by simp; omega
      have t5 : ((N : Int) != 5) = true := by simp; omega
      have t7 : ((N : Int) != 7) = true := by simp; omega
      have t11 : ((N : Int) != 11) = true := by simp; omega
      have t13 : ((N : Int) != 13) = true := by simp; omega
      clear hg hn
      go_enter Try.func4, Try.ntmps4
      go_wp2_with fail
      refine (Cyc_good N w h1 h60).mono ?_; rintro e w1 ⟨A1, n1, c1, rfl, how1, hA1, hb1⟩
      have HI1 := Lib.hid (IRow.of_own how1)
      have hn1 : n1 ≤ 61 := by have h3 := how1.len; rw [wl_len] at h3; have h4 := HCL.out; omega
      have HB1 := Lib.hid hb1
      clear how1 hA1 hb1
      go_wp2_with fail
      refine (Gauss_no N w1 HG.out).mono ?_; rintro e w2 ⟨rfl, hb2⟩
      have HB2 := Lib.hid (ibt HB1.out hb2)
      have HI2 := Lib.hid (HI1.out.next hb2)
      clear hb2
      go_wp2_with fail
      refine (rcyc_any N w2 h1 h60).mono ?_; rintro e w3 ⟨A3, n3, c3, rfl, how3, hA3, hb3⟩
      have HI3 := Lib.hid (IRow.of_own how3)
      have hn3 : n3 ≤ 61 := by have h3 := how3.len; rw [wl_len] at h3; have h4 := HCL.out; omega
      have HI23 := Lib.hid (HI2.out.next hb3)
      have HB3 := Lib.hid (ibt HB2.out hb3)
      clear how3 hA3 hb3
      go_wp2_with fail
      refine (equal_b A1 A3 n1 n3 c1 c3 _ _ w3 HI23.out HI3.out (by omega) (by omega)).mono ?_; rw [decide_eq_true rfl]; rintro e w4 ⟨rfl, hb4⟩
      have HB4 := Lib.hid (ibt HB3.out hb4)
      clear hb4
      go_wp2_with fail
      refine (awake_any _).mono ?_; rintro e w5 ⟨rfl, hb5⟩
      go_wp2_with fail
      go_ret
      exact ⟨rfl, ibt HB4.out hb5⟩
    | true =>
      have HG := Lib.hid hg
      have hn := isG_yes hg
      have HRL : Hid ((redZ (cyc N) (symL N)).length ≤ 61) := Lib.hid (by rw [redZ_len]; have := HCL.out; omega)
      clear hg
      have e5 : N = 3 ∨ N = 5 ∨ N = 7 ∨ N = 11 ∨ N = 13 := by omega
      have HP : Hid (∀ (P : World → World → Prop), P w w → P w w) := Lib.hid (fun _ h => h)
      have tq : ((N : Int) != 3) = false ∨ ((N : Int) != 3) = true ∧ ((N : Int) != 5) = false ∨ ((N : Int) != 3) = true ∧ ((N : Int) != 5) = true ∧ ((N : Int) != 7) = false ∨ ((N : Int) != 3) = true ∧ ((N : Int) != 5) = true ∧ ((N : Int) != 7) = true ∧ ((N : Int) != 11) = false ∨ ((N : Int) != 3) = true ∧ ((N : Int) != 5) = true ∧ ((N : Int) != 7) = true ∧ ((N : Int) != 11) = true ∧ ((N : Int) != 13) = false := by
        rcases e5 with rfl | rfl | rfl | rfl | rfl <;> decide
      clear hn e5 HP
      go_enter Try.func4, Try.ntmps4
      go_wp2_with fail
      refine (Cyc_good N w h1 h60).mono ?_; rintro e w1 ⟨A1, n1, c1, rfl, how1, hA1, hb1⟩
      have HI1 := Lib.hid (IRow.of_own how1)
      have hn1 : n1 ≤ 61 := by have h3 := how1.len; rw [wl_len] at h3; have h4 := HCL.out; omega
      have HB1 := Lib.hid hb1
      clear how1 hA1 hb1
      go_wp2_with fail
      refine (Gauss_yes N w1 HG.out).mono ?_; rintro e w2 ⟨A2, n2, c2, rfl, how2, hA2, hb2⟩
      have HJ2 := Lib.hid (IRow.of_own how2)
      have hn2 : n2 ≤ 61 := by have h3 := how2.len; rw [wl_len] at h3; have h4 := HRL.out; omega
      have HB2 := Lib.hid (ibt HB1.out hb2)
      have HI2 := Lib.hid (HI1.out.next hb2)
      clear how2 hA2 hb2
      go_wp2_with fail
      refine (rcyc_any N w2 h1 h60).mono ?_; rintro e w3 ⟨A3, n3, c3, rfl, how3, hA3, hb3⟩
      have HI3 := Lib.hid (IRow.of_own how3)
      have hn3 : n3 ≤ 61 := by have h3 := how3.len; rw [wl_len] at h3; have h4 := HCL.out; omega
      have HI23 := Lib.hid (HI2.out.next hb3)
      have HJ3 := Lib.hid (HJ2.out.next hb3)
      have HB3 := Lib.hid (ibt HB2.out hb3)
      clear how3 hA3 hb3
      go_wp2_with fail
      refine (equal_b A1 A3 n1 n3 c1 c3 _ _ w3 HI23.out HI3.out (by omega) (by omega)).mono ?_; rw [decide_eq_true rfl]; rintro e w4 ⟨rfl, hb4⟩
      have HB4 := Lib.hid (ibt HB3.out hb4)
      have HJ4 := Lib.hid (HJ3.out.next hb4)
      clear hb4
      go_wp2_with fail
      refine (awake_any _).mono ?_; rintro e w5 ⟨rfl, hb5⟩
      have HB5 := Lib.hid (ibt HB4.out hb5)
      have HJ5 := Lib.hid (HJ4.out.next hb5)
      clear hb5
      rcases tq with t3 | ⟨t3, t5⟩ | ⟨t3, t5, t7⟩ | ⟨t3, t5, t7, t11⟩ | ⟨t3, t5, t7, t11, t13⟩
      all_goals
        go_wp2_with fail
        refine (rgauss_any N w5 HG.out).mono ?_; rintro e w6 ⟨A6, n6, c6, rfl, how6, hA6, hb6⟩
        have HI6 := Lib.hid (IRow.of_own how6)
        have hn6 : n6 ≤ 61 := by have h3 := how6.len; rw [wl_len] at h3; have h4 := HRL.out; omega
        have HJ6 := Lib.hid (HJ5.out.next hb6)
        have HB6 := Lib.hid (ibt HB5.out hb6)
        clear how6 hA6 hb6
        go_wp2_with fail
        refine (equal_b A2 A6 n2 n6 c2 c6 _ _ w6 HJ6.out HI6.out (by omega) (by omega)).mono ?_; rw [decide_eq_true rfl]; rintro e w7 ⟨rfl, hb7⟩
        go_wp2_with fail
        go_ret
        exact ⟨rfl, ibt HB6.out hb7⟩
end Go.Proofs.Ytmljndjiipgpdaa
