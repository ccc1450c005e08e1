/- SumsSymbols: the walk of the law. -/
import Derived.Test.YtdombadhmaanfaaSb
namespace Go.Proofs.Ytdombadhmaanfaa
open Go Go.RowKit GhN

theorem take_same {C L : List (Int × Int × Int × Int)} (h : C.length ≤ 119) : C = L.take 120 ↔ C = L := by
  constructor
  · intro e
    have hl : (L.take 120).length ≤ 119 := by rw [← e]; exact h
    rw [List.length_take] at hl
    rw [e, List.take_of_length_le (by omega)]
  · rintro rfl
    rw [List.take_of_length_le (by omega)]

set_option maxRecDepth 100000 in
set_option maxHeartbeats 1000000 in
theorem sym_walk (a n : Int) (A : Option Addr) (l c : Nat) (L : List (Int × Int × Int × Int)) (w : World) (h : SRw w w.heap.size A l L) (hl : l ≤ 9223372036854775807) :
    Calls Try.prog 7 #[.int .i64 a, .int .i64 n, .slice A l c] w fun e w' => e = .returned (.bool true) ∧ Below w.heap.size w w' := by
  have HR := Lib.hid h
  clear h
  cases hv : validB a n with
  | false =>
    have HV := Lib.hid hv
    clear hv
    go_enter Try.func7, Try.ntmps7
    go_wp2_with fail
    refine (jacobi_no a n w HV.out).mono ?_; rintro e w1 ⟨rfl, hb1⟩
    go_wp2_with fail
    refine (chain_no a n w1 HV.out).mono ?_; rintro e w2 ⟨rfl, hb2⟩
    have HB2 := Lib.hid (bt hb1 hb2)
    clear hb1 hb2
    go_wp2_with fail
    refine (steps_any A l c L w2 ((HR.out.below HB2.out).more HB2.out.size) hl).mono ?_; rintro e w3 ⟨A3, n3, c3, rfl, how3, hb3⟩
    have HB3 := Lib.hid (bt HB2.out hb3)
    clear how3 hb3
    go_wp2_with fail
    refine (check_bad a n A3 n3 c3 w3 HV.out).mono ?_; rintro e w4 ⟨rfl, hb4⟩
    have HB4 := Lib.hid (bt HB3.out hb4)
    clear hb4
    go_wp2_with fail
    refine (odd8_any a n w4).mono ?_; rw [HV.out]; rintro e w5 ⟨rfl, hb5⟩
    go_wp2_with fail
    refine (awake_any _).mono ?_; rintro e w6 ⟨rfl, hb6⟩
    go_wp2_with fail
    go_ret
    exact ⟨rfl, bt (bt HB4.out hb5) hb6⟩
  | true =>
    have HV := Lib.hid hv
    have HI := Lib.hid (validB_inr hv)
    obtain ⟨J, hJ⟩ : ∃ J, jz a n = J := ⟨_, rfl⟩
    have HJ := Lib.hid hJ
    have HSV : Hid (sv a n 1 = J) := Lib.hid (by rw [sv_one, hJ])
    have HLL : Hid ((chain a n 1).length ≤ 119) := Lib.hid (chain_len (s := 1) HI.out.1 HI.out.2.2.2)
    have tJ : (J != J) = false := by simp
    have tJ2 : (J == J) = true := by simp
    clear hv hJ
    go_enter Try.func7, Try.ntmps7
    go_wp2_with fail
    refine (jacobi_yes a n w HV.out).mono ?_; rw [HJ.out]; rintro e w1 ⟨rfl, hb1⟩
    go_wp2_with fail
    refine (chain_yes a n w1 HV.out).mono ?_; rintro e w2 ⟨A2, n2, c2, rfl, how2, hb2⟩
    have HQ2 : Hid (SRw w2 w2.heap.size A2 n2 (chain a n 1)) := Lib.hid (Rw.of_own (enc := encS) (sz := 4) (by decide) encS_len how2)
    have hn2 : n2 ≤ 119 := by have := HQ2.out.1; have := HLL.out; omega
    have HB2 := Lib.hid (bt hb1 hb2)
    clear hb1 hb2 how2
    go_wp2_with fail
    refine (steps_any A l c L w2 ((HR.out.below HB2.out).more HB2.out.size) hl).mono ?_; rintro e w3 ⟨A3, n3, c3, rfl, how3, hb3⟩
    have HQ3 : Hid (SRw w3 w3.heap.size A3 n3 (L.take 120)) := Lib.hid (Rw.of_own (enc := encS) (sz := 4) (by decide) encS_len how3)
    have hn3 : n3 ≤ 120 := by have h1 := HQ3.out.1; rw [List.length_take] at h1; omega
    have HB23 := Lib.hid hb3
    clear how3 hb3
    by_cases hE : chain a n 1 = L
    · have HE := Lib.hid hE
      have HE2 : Hid (chain a n 1 = L.take 120) := Lib.hid ((take_same HLL.out).2 hE)
      clear hE
      go_wp2_with fail
      refine (check_good a n A3 n3 c3 (L.take 120) w3 HV.out HQ3.out (by omega)).mono ?_; rw [if_pos HE2.out, HSV.out]; rintro e w4 ⟨rfl, hb4⟩
      have HB24 := Lib.hid (bt HB23.out hb4)
      clear hb4
      go_wp2_with fail
      refine (odd8_any a n w4).mono ?_; rw [HV.out]; rintro e w5 ⟨rfl, hb5⟩
      have HB25 := Lib.hid (bt HB24.out hb5)
      clear hb5
      go_wp2_with fail
      refine (rchain_any a n w5 HV.out).mono ?_; rintro e w6 ⟨A6, n6, c6, rfl, hr6, hb6⟩
      have HQ6 := Lib.hid hr6
      have hn6 : n6 ≤ 119 := by have := hr6.1; have := HLL.out; omega
      have HB26 := Lib.hid (bt HB25.out hb6)
      clear hr6 hb6
      go_wp2_with fail
      refine (rjacobi_any a n w6 HV.out).mono ?_; rw [HJ.out]; rintro e w7 ⟨rfl, hb7⟩
      have HB27 := Lib.hid (bt HB26.out hb7)
      have HQ7 := Lib.hid ((HQ6.out.below hb7).more hb7.size)
      clear hb7
      go_wp2_with fail
      refine (own_any A2 n2 c2 (chain a n 1) w7 ((HQ2.out.below HB27.out).more HB27.out.size) (by omega)).mono ?_; rintro e w8 ⟨A8, n8, c8, rfl, how8, hb8⟩
      have HQ8 : Hid (SRw w8 w8.heap.size A8 n8 (chain a n 1)) := Lib.hid (Rw.of_own (enc := encS) (sz := 4) (by decide) encS_len how8)
      have hn8 : n8 ≤ 119 := by have := HQ8.out.1; have := HLL.out; omega
      have HQ78 := Lib.hid ((HQ7.out.below hb8).more hb8.size)
      have HB28 := Lib.hid (bt HB27.out hb8)
      clear how8 hb8
      go_wp2_with fail
      refine (equal_rsteps A8 A6 n8 n6 c8 c6 _ _ w8 HQ8.out HQ78.out (by omega) (by omega)).mono ?_; rw [decide_eq_true rfl]; rintro e w9 ⟨rfl, hb9⟩
      have HB29 := Lib.hid (bt HB28.out hb9)
      have HQ9 := Lib.hid ((HQ78.out.below hb9).more hb9.size)
      clear hb9
      go_wp2_with fail
      refine (awake_any _).mono ?_; rintro e w10 ⟨rfl, hb10⟩
      have HB20 := Lib.hid (bt HB29.out hb10)
      have HQ10 := Lib.hid ((HQ9.out.below hb10).more hb10.size)
      have HBW := Lib.hid (bt HB2.out HB20.out)
      clear hb10
      go_wp2_with fail
      refine (equal_rsteps A A6 l n6 c c6 L (chain a n 1) w10 ((HR.out.below HBW.out).more HBW.out.size) HQ10.out hl (by omega)).mono ?_; rw [decide_eq_true HE.out.symm]; rintro e w11 ⟨rfl, hb11⟩
      have HQ11 := Lib.hid ((HQ10.out.below hb11).more hb11.size)
      have HBX := Lib.hid (bt HBW.out hb11)
      clear hb11
      go_wp2_with fail
      refine (shown_any a n A6 n6 c6 w11 HV.out HQ11.out (by omega)).mono ?_; rw [HSV.out]; rintro e w12 ⟨rfl, hb12⟩
      go_wp2_with fail
      go_ret
      exact ⟨rfl, bt HBX.out hb12⟩
    · have HE : Hid (¬ L = chain a n 1) := Lib.hid (fun e => hE e.symm)
      have HE2 : Hid (¬ chain a n 1 = L.take 120) := Lib.hid (fun e => hE ((take_same HLL.out).1 e))
      clear hE
      go_wp2_with fail
      refine (check_good a n A3 n3 c3 (L.take 120) w3 HV.out HQ3.out (by omega)).mono ?_; rw [if_neg HE2.out]; rintro e w4 ⟨rfl, hb4⟩
      have HB24 := Lib.hid (bt HB23.out hb4)
      clear hb4
      go_wp2_with fail
      refine (odd8_any a n w4).mono ?_; rw [HV.out]; rintro e w5 ⟨rfl, hb5⟩
      have HB25 := Lib.hid (bt HB24.out hb5)
      clear hb5
      go_wp2_with fail
      refine (rchain_any a n w5 HV.out).mono ?_; rintro e w6 ⟨A6, n6, c6, rfl, hr6, hb6⟩
      have HQ6 := Lib.hid hr6
      have hn6 : n6 ≤ 119 := by have := hr6.1; have := HLL.out; omega
      have HB26 := Lib.hid (bt HB25.out hb6)
      clear hr6 hb6
      go_wp2_with fail
      refine (rjacobi_any a n w6 HV.out).mono ?_; rw [HJ.out]; rintro e w7 ⟨rfl, hb7⟩
      have HB27 := Lib.hid (bt HB26.out hb7)
      have HQ7 := Lib.hid ((HQ6.out.below hb7).more hb7.size)
      clear hb7
      go_wp2_with fail
      refine (own_any A2 n2 c2 (chain a n 1) w7 ((HQ2.out.below HB27.out).more HB27.out.size) (by omega)).mono ?_; rintro e w8 ⟨A8, n8, c8, rfl, how8, hb8⟩
      have HQ8 : Hid (SRw w8 w8.heap.size A8 n8 (chain a n 1)) := Lib.hid (Rw.of_own (enc := encS) (sz := 4) (by decide) encS_len how8)
      have hn8 : n8 ≤ 119 := by have := HQ8.out.1; have := HLL.out; omega
      have HQ78 := Lib.hid ((HQ7.out.below hb8).more hb8.size)
      have HB28 := Lib.hid (bt HB27.out hb8)
      clear how8 hb8
      go_wp2_with fail
      refine (equal_rsteps A8 A6 n8 n6 c8 c6 _ _ w8 HQ8.out HQ78.out (by omega) (by omega)).mono ?_; rw [decide_eq_true rfl]; rintro e w9 ⟨rfl, hb9⟩
      have HB29 := Lib.hid (bt HB28.out hb9)
      have HQ9 := Lib.hid ((HQ78.out.below hb9).more hb9.size)
      clear hb9
      go_wp2_with fail
      refine (awake_any _).mono ?_; rintro e w10 ⟨rfl, hb10⟩
      have HB20 := Lib.hid (bt HB29.out hb10)
      have HQ10 := Lib.hid ((HQ9.out.below hb10).more hb10.size)
      have HBW := Lib.hid (bt HB2.out HB20.out)
      clear hb10
      go_wp2_with fail
      refine (equal_rsteps A A6 l n6 c c6 L (chain a n 1) w10 ((HR.out.below HBW.out).more HBW.out.size) HQ10.out hl (by omega)).mono ?_; rw [decide_eq_false HE.out]; rintro e w11 ⟨rfl, hb11⟩
      go_wp2_with fail
      go_ret
      exact ⟨rfl, bt HBW.out hb11⟩

theorem sym_law (a n : Int) (A : Option Addr) (l c : Nat) (L : List (Int × Int × Int × Int)) (w : World) (_h1 : -9223372036854775808 ≤ a) (_h2 : a ≤ 9223372036854775807) (_h3 : -9223372036854775808 ≤ n) (_h4 : n ≤ 9223372036854775807) (h : SRw w w.heap.size A l L) (hlc : l ≤ c) (hc : c ≤ maxLen) :
    Calls Try.prog 7 #[.int .i64 a, .int .i64 n, .slice A l c] w fun e w' => e = .returned (.bool true) ∧ Below w.heap.size w w' :=
  sym_walk a n A l c L w h (by unfold maxLen at hc; omega)
end Go.Proofs.Ytdombadhmaanfaa
