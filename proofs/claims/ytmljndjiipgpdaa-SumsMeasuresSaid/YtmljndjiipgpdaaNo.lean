/- SumsNorms: the walk of the law. -/
import Derived.Test.YtmljndjiipgpdaaNr
import Derived.Test.YtmljndjiipgpdaaNx
namespace Go.Proofs.Ytmljndjiipgpdaa
open Go Go.RowKit GhP

theorem okN_mono {n : Int} {L : List Int} (h : okN n 2 L = true) : okN n 1000 L = true := by
  obtain ⟨h1, h2, h3, h4⟩ := okN_yes h
  unfold okN
  rw [decide_eq_true ⟨h1, h2⟩, numB_mk ⟨h3, fun x hx => by have := h4 x hx; omega⟩]; rfl

set_option maxRecDepth 100000 in
set_option maxHeartbeats 1000000 in
theorem norms_walk (n : Int) (A : Option Addr) (la ca : Nat) (L : List Int) (w : World) (h : IRow w w.heap.size A la L) (hw : wl L = L) (hlc : la ≤ ca) (hc : ca ≤ maxLen) (hA : A = none → la = 0 ∧ ca = 0) :
    Calls Try.prog 5 #[.int .i64 n, .slice A la ca] w fun e w' => e = .returned (.bool true) ∧ Below w.heap.size w w' := by
  have hla9 : la ≤ 9223372036854775807 := by unfold maxLen at hc; omega
  have HRA := Lib.hid h
  have HWA := Lib.hid hw
  have HLA : Hid (∀ w', Below w.heap.size w w' → Calls Try.prog 18 #[.slice A la ca] w' (GivesI w' (L.take 16))) := Lib.hid (fun w' hb => list_any A la ca L w' (h.next hb) hlc hc hA)
  cases hp : okN n 1000 L with
  | false =>
    have HP := Lib.hid hp
    have HP6 : Hid (okN n 1000 (L.take 16) = false) := Lib.hid (by rw [okN_take]; exact hp)
    have HQ6 : Hid (okN n 2 (L.take 16) = false) := Lib.hid (by
      rw [okN_take]
      cases hq : okN n 2 L with
      | false => rfl
      | true => rw [okN_mono hq] at hp; cases hp)
    clear h hw hp
    go_enter Try.func5, Try.ntmps5
    go_wp2_with fail
    refine (HLA.out _ (Below.refl _ _)).mono ?_; rintro e w1 ⟨A1, n1, c1, rfl, how1, hA1, hb1⟩
    have HI1 := Lib.hid (IRow.of_own how1)
    have hn1 : n1 ≤ 16 := by have := how1.len; rw [List.length_take] at this; omega
    have HB1 := Lib.hid hb1
    clear how1 hA1 hb1
    go_wp2_with fail
    refine (Norm_no n A1 n1 c1 (L.take 16) w1 HI1.out (by omega) HQ6.out).mono ?_; rintro e w2 ⟨rfl, hb2⟩
    have HB2 := Lib.hid (ibt HB1.out hb2)
    clear hb2
    go_wp2_with fail
    refine (HLA.out _ HB2.out).mono ?_; rintro e w3 ⟨A3, n3, c3, rfl, how3, hA3, hb3⟩
    have HI3 := Lib.hid (IRow.of_own how3)
    have hn3 : n3 ≤ 16 := by have := how3.len; rw [List.length_take] at this; omega
    have HB3 := Lib.hid (ibt HB2.out hb3)
    clear how3 hA3 hb3
    go_wp2_with fail
    refine (Trace_no n A3 n3 c3 (L.take 16) w3 HI3.out (by omega) HP6.out).mono ?_; rintro e w4 ⟨rfl, hb4⟩
    have HB4 := Lib.hid (ibt HB3.out hb4)
    clear hb4
    go_wp2_with fail
    refine (number_any n A la ca L 1000 w4 (HRA.out.next HB4.out) hla9 (by omega) (by omega)).mono ?_; rw [HP.out]; rintro e w5 ⟨rfl, hb5⟩
    have HB5 := Lib.hid (ibt HB4.out hb5)
    clear hb5
    go_wp2_with fail
    refine (awake_any _).mono ?_; rintro e w6 ⟨rfl, hb6⟩
    go_wp2_with fail
    go_ret
    exact ⟨rfl, ibt HB5.out hb6⟩
  | true =>
    have HP := Lib.hid hp
    obtain ⟨h1, h2, h3, h4⟩ := okN_yes hp
    obtain ⟨N, rfl⟩ : ∃ N : Nat, n = N := ⟨n.toNat, by omega⟩
    rw [Int.toNat_natCast] at h3
    have hN1 : 1 ≤ N := by omega
    have hN15 : N ≤ 15 := by omega
    rw [okN_short hp] at HLA
    have hlaP : la = phi N := by have := h.1; omega
    have HLP := Lib.hid hlaP
    have HPL : Hid (phi N ≤ N) := Lib.hid (phi_le N)
    have hla16 : la ≤ 15 := by have := HPL.out; omega
    have HTR : Hid (∀ w', Below w.heap.size w w' → Calls Try.prog 21 #[.int .i64 (N : Int), .slice A la ca] w' fun e w'' => e = .returned (.int .i64 (wrap64 ((traceZ N L).getD 0 0))) ∧ Below w'.heap.size w' w'') := Lib.hid (fun w' hb => by
      have h5 := h.next hb
      rw [← hw, hlaP] at h5
      rw [hlaP]
      exact rtrace_any N A ca L w' hN1 hN15 h5)
    have HNR : Hid (∀ w', Below w.heap.size w w' → Calls Try.prog 22 #[.int .i64 (N : Int), .slice A la ca] w' fun e w'' => e = .returned (.int .i64 (wrap64 ((normZ N L).getD 0 0))) ∧ Below w'.heap.size w' w'') := Lib.hid (fun w' hb => by
      have h5 := h.next hb
      rw [← hw, hlaP] at h5
      rw [hlaP]
      exact rnorm_any N A ca L w' hN1 hN15 h5)
    obtain ⟨tr, htr⟩ : ∃ tr, wrap64 ((traceZ N L).getD 0 0) = tr := ⟨_, rfl⟩
    obtain ⟨no, hno⟩ : ∃ no, wrap64 ((normZ N L).getD 0 0) = no := ⟨_, rfl⟩
    have HTY : Hid (∀ w' A1 n1 c1, IRow w' w'.heap.size A1 n1 L → Calls Try.prog 19 #[.int .i64 (N : Int), .slice A1 n1 c1] w' fun e w'' => e = .returned (.tuple #[.int .i64 tr, .int .i64 0]) ∧ Below w'.heap.size w' w'') := Lib.hid (fun w' A1 n1 c1 hi => by
      rw [← hw] at hi hp
      rw [← htr]
      exact Trace_yes N A1 n1 c1 L w' hi hp)
    rw [htr] at HTR
    rw [hno] at HNR
    have tt : (tr != tr) = false := by simp
    have tn : (no == no) = true := by simp
    cases hq : okN N 2 L with
    | true =>
      have HQ := Lib.hid hq
      have HNY : Hid (∀ w' A1 n1 c1, IRow w' w'.heap.size A1 n1 L → Calls Try.prog 17 #[.int .i64 (N : Int), .slice A1 n1 c1] w' fun e w'' => e = .returned (.tuple #[.int .i64 no, .int .i64 0]) ∧ Below w'.heap.size w' w'') := Lib.hid (fun w' A1 n1 c1 hi => by
        rw [← hw] at hi hq
        rw [← hno]
        exact Norm_yes N A1 n1 c1 L w' hi hq)
      clear h hw hp hq h1 h2 h3 h4 hlaP htr hno
      go_enter Try.func5, Try.ntmps5
      go_wp2_with fail
      refine (HLA.out _ (Below.refl _ _)).mono ?_; rintro e w1 ⟨A1, n1, c1, rfl, how1, hA1, hb1⟩
      have HI1 := Lib.hid (IRow.of_own how1)
      have HB1 := Lib.hid hb1
      clear how1 hA1 hb1
      go_wp2_with fail
      refine (HNY.out _ _ _ _ HI1.out).mono ?_; rintro e w2 ⟨rfl, hb2⟩
      have HB2 := Lib.hid (ibt HB1.out hb2)
      clear hb2
      go_wp2_with fail
      refine (HLA.out _ HB2.out).mono ?_; rintro e w3 ⟨A3, n3, c3, rfl, how3, hA3, hb3⟩
      have HI3 := Lib.hid (IRow.of_own how3)
      have HB3 := Lib.hid (ibt HB2.out hb3)
      clear how3 hA3 hb3
      go_wp2_with fail
      refine (HTY.out _ _ _ _ HI3.out).mono ?_; rintro e w4 ⟨rfl, hb4⟩
      have HB4 := Lib.hid (ibt HB3.out hb4)
      clear hb4
      go_wp2_with fail
      refine (number_any N A la ca L 1000 w4 (HRA.out.next HB4.out) hla9 (by omega) (by omega)).mono ?_; rw [HP.out]; rintro e w5 ⟨rfl, hb5⟩
      have HB5 := Lib.hid (ibt HB4.out hb5)
      clear hb5
      go_wp2_with fail
      refine (HTR.out _ HB5.out).mono ?_; rintro e w6 ⟨rfl, hb6⟩
      have HB6 := Lib.hid (ibt HB5.out hb6)
      clear hb6
      go_wp2_with fail
      refine (awake_any _).mono ?_; rintro e w7 ⟨rfl, hb7⟩
      have HB7 := Lib.hid (ibt HB6.out hb7)
      clear hb7
      go_wp2_with fail
      refine (number_any N A la ca L 2 w7 (HRA.out.next HB7.out) hla9 (by omega) (by omega)).mono ?_; rw [HQ.out]; rintro e w8 ⟨rfl, hb8⟩
      have HB8 := Lib.hid (ibt HB7.out hb8)
      clear hb8
      go_wp2_with fail
      refine (HNR.out _ HB8.out).mono ?_; rintro e w9 ⟨rfl, hb9⟩
      go_wp2_with fail
      go_ret
      exact ⟨rfl, ibt HB8.out hb9⟩
    | false =>
      have HQ := Lib.hid hq
      clear h hw hp hq h1 h2 h3 h4 hlaP htr hno
      go_enter Try.func5, Try.ntmps5
      go_wp2_with fail
      refine (HLA.out _ (Below.refl _ _)).mono ?_; rintro e w1 ⟨A1, n1, c1, rfl, how1, hA1, hb1⟩
      have HI1 := Lib.hid (IRow.of_own how1)
      have hn1 : n1 ≤ 16 := by have h5 := how1.len; have h6 := HRA.out.1; omega
      have HB1 := Lib.hid hb1
      clear how1 hA1 hb1
      go_wp2_with fail
      refine (Norm_no N A1 n1 c1 L w1 HI1.out (by omega) HQ.out).mono ?_; rintro e w2 ⟨rfl, hb2⟩
      have HB2 := Lib.hid (ibt HB1.out hb2)
      clear hb2
      go_wp2_with fail
      refine (HLA.out _ HB2.out).mono ?_; rintro e w3 ⟨A3, n3, c3, rfl, how3, hA3, hb3⟩
      have HI3 := Lib.hid (IRow.of_own how3)
      have HB3 := Lib.hid (ibt HB2.out hb3)
      clear how3 hA3 hb3
      go_wp2_with fail
      refine (HTY.out _ _ _ _ HI3.out).mono ?_; rintro e w4 ⟨rfl, hb4⟩
      have HB4 := Lib.hid (ibt HB3.out hb4)
      clear hb4
      go_wp2_with fail
      refine (number_any N A la ca L 1000 w4 (HRA.out.next HB4.out) hla9 (by omega) (by omega)).mono ?_; rw [HP.out]; rintro e w5 ⟨rfl, hb5⟩
      have HB5 := Lib.hid (ibt HB4.out hb5)
      clear hb5
      go_wp2_with fail
      refine (HTR.out _ HB5.out).mono ?_; rintro e w6 ⟨rfl, hb6⟩
      have HB6 := Lib.hid (ibt HB5.out hb6)
      clear hb6
      go_wp2_with fail
      refine (awake_any _).mono ?_; rintro e w7 ⟨rfl, hb7⟩
      have HB7 := Lib.hid (ibt HB6.out hb7)
      clear hb7
      go_wp2_with fail
      refine (number_any N A la ca L 2 w7 (HRA.out.next HB7.out) hla9 (by omega) (by omega)).mono ?_; rw [HQ.out]; rintro e w8 ⟨rfl, hb8⟩
      go_wp2_with fail
      go_ret
      exact ⟨rfl, ibt HB7.out hb8⟩

theorem norms_law (n : Int) (A : Option Addr) (la ca : Nat) (L : List Int) (w : World) (_l1 : -9223372036854775808 ≤ n) (_l2 : n ≤ 9223372036854775807)
    (h : IRow w w.heap.size A la L) (hwa : ∀ x ∈ L, -9223372036854775808 ≤ x ∧ x ≤ 9223372036854775807) (hlc : la ≤ ca) (hc : ca ≤ maxLen) (hA : A = none → la = 0 ∧ ca = 0) :
    Calls Try.prog 5 #[.int .i64 n, .slice A la ca] w fun e w' => e = .returned (.bool true) ∧ Below w.heap.size w w' :=
  norms_walk n A la ca L w h (wl_wf hwa) hlc hc hA
end Go.Proofs.Ytmljndjiipgpdaa
