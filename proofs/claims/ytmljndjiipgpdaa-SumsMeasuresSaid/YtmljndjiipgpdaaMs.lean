/- SumsMeasures: the walk of the law (its first part: up to the orders out of range). -/
import Derived.Test.YtmljndjiipgpdaaNo
import Derived.Test.YtmljndjiipgpdaaPoF
import Derived.Test.YtmljndjiipgpdaaMk
namespace Go.Proofs.Ytmljndjiipgpdaa
open Go Go.RowKit GhP

/-- Norm and Trace, in one form each -/
def nV (n : Int) (L : List Int) : Int := if okN n 2 L = true then wrap64 ((normZ n.toNat L).getD 0 0) else 0
def tV (n : Int) (L : List Int) : Int := if okN n 1000 L = true then wrap64 ((traceZ n.toNat L).getD 0 0) else 0
theorem Norm_one (n : Int) (A : Option Addr) (la ca : Nat) (L : List Int) (w : World) (h : IRow w w.heap.size A la L) (hw : wl L = L) (hl : la ≤ 1000000) :
    Calls Try.prog 17 #[.int .i64 n, .slice A la ca] w fun e w' => e = .returned (.tuple #[.int .i64 (nV n L), .int .i64 (if okN n 2 L = true then 0 else 2)]) ∧ Below w.heap.size w w' := by
  unfold nV
  cases hn : okN n 2 L with
  | true =>
    obtain ⟨a1, a2, _⟩ := okN_yes hn
    obtain ⟨N, rfl⟩ : ∃ N : Nat, n = N := ⟨n.toNat, by omega⟩
    rw [if_pos rfl, if_pos rfl, Int.toNat_natCast]
    rw [← hw] at h hn
    exact Norm_yes N A la ca L w h hn
  | false =>
    rw [if_neg (by decide), if_neg (by decide)]
    exact Norm_no n A la ca L w h hl hn
theorem Trace_one (n : Int) (A : Option Addr) (la ca : Nat) (L : List Int) (w : World) (h : IRow w w.heap.size A la L) (hw : wl L = L) (hl : la ≤ 1000000) :
    Calls Try.prog 19 #[.int .i64 n, .slice A la ca] w fun e w' => e = .returned (.tuple #[.int .i64 (tV n L), .int .i64 (if okN n 1000 L = true then 0 else 2)]) ∧ Below w.heap.size w w' := by
  unfold tV
  cases hn : okN n 1000 L with
  | true =>
    obtain ⟨a1, a2, _⟩ := okN_yes hn
    obtain ⟨N, rfl⟩ : ∃ N : Nat, n = N := ⟨n.toNat, by omega⟩
    rw [if_pos rfl, if_pos rfl, Int.toNat_natCast]
    rw [← hw] at h hn
    exact Trace_yes N A la ca L w h hn
  | false =>
    rw [if_neg (by decide), if_neg (by decide)]
    exact Trace_no n A la ca L w h hl hn
theorem nV_prod {n : Int} {a b : List Int} (h : okN n 2 a = true) (k : okN n 2 b = true) (hp : okN n 2 (wl (timesZ (cyc n.toNat) a b)) = true) :
    nV n (wl (timesZ (cyc n.toNat) a b)) = wrap64 (nV n a * nV n b) := by
  obtain ⟨a1, a2, _⟩ := okN_yes h
  unfold nV
  rw [if_pos h, if_pos k, if_pos hp, norm_prod (by omega) (by omega)]
theorem tV_sum {n : Int} {a b : List Int} (h : okN n 1000 a = true) (k : okN n 1000 b = true) (hp : okN n 1000 (wl (addZ a b)) = true) :
    tV n (wl (addZ a b)) = wrap64 (tV n a + tV n b) := by
  obtain ⟨a1, a2, a3, _⟩ := okN_yes h
  obtain ⟨_, _, b3, _⟩ := okN_yes k
  unfold tV
  rw [if_pos h, if_pos k, if_pos hp, trace_sum (by omega) (by omega) _ _ (by omega)]

theorem pval_bd : ∀ n : Nat, n < 16 → 1 ≤ n → pval n ≤ 17 := by decide +kernel
theorem mk_all : ∀ n : Nat, n < 16 → 3 ≤ n → okN (n : Int) 2 (numZ n) = true ∧ okN (n : Int) 2 (numL n) = true := by decide +kernel
theorem meas_of {N : Nat} (h1 : 3 ≤ N) (h2 : N ≤ 15) : (okN (N : Int) 2 (numZ N) = true ∧ nV (N : Int) (numZ N) = 1) ∧ (okN (N : Int) 2 (numL N) = true ∧ nV (N : Int) (numL N) = (pval N : Int)) ∧ wl (numZ N) = numZ N ∧ wl (numL N) = numL N ∧ 2 ≤ phi N := by
  have hk := mk_all N (by omega) h1
  have hm := meas_all N (by omega) h1
  unfold measB at hm
  simp only [Bool.and_eq_true, beq_iff_eq, decide_eq_true_eq] at hm
  have w1 : ∀ L, okN (N : Int) 2 L = true → wl L = L := fun L hL => by
    unfold wl
    conv => rhs; rw [← List.map_id L]
    refine List.map_congr_left fun x hx => ?_
    have := (okN_yes hL).2.2.2 x hx
    show wrap64 x = x
    unfold wrap64; omega
  have hpv : pval N ≤ 17 := pval_bd N (by omega) (by omega)
  refine ⟨⟨hk.1, ?_⟩, ⟨hk.2, ?_⟩, w1 _ hk.1, w1 _ hk.2, hm.2⟩
  · unfold nV; rw [if_pos hk.1, Int.toNat_natCast, hm.1.1]; unfold wrap64; omega
  · unfold nV; rw [if_pos hk.2, Int.toNat_natCast, hm.1.2]; unfold wrap64; omega

set_option maxRecDepth 100000 in
set_option maxHeartbeats 2000000 in
theorem meas_walk (n : Int) (A B : Option Addr) (la ca lb cb : Nat) (LA LB : List Int) (w : World) (h : IRow w w.heap.size A la LA) (k : IRow w w.heap.size B lb LB) (hw : wl LA = LA) (kw : wl LB = LB) (hlc : la ≤ ca) (hc : ca ≤ maxLen) (hA : A = none → la = 0 ∧ ca = 0) (klc : lb ≤ cb) (kc : cb ≤ maxLen) (kB : B = none → lb = 0 ∧ cb = 0) :
    Calls Try.prog 6 #[.int .i64 n, .slice A la ca, .slice B lb cb] w fun e w' => e = .returned (.bool true) ∧ Below w.heap.size w w' := by
  have hla9 : la ≤ 9223372036854775807 := by unfold maxLen at hc; omega
  have hlb9 : lb ≤ 9223372036854775807 := by unfold maxLen at kc; omega
  obtain ⟨a, ha⟩ : ∃ a, LA.take 16 = a := ⟨_, rfl⟩
  obtain ⟨b, hb⟩ : ∃ b, LB.take 16 = b := ⟨_, rfl⟩
  have HLA : Hid (∀ w', Below w.heap.size w w' → Calls Try.prog 18 #[.slice A la ca] w' (GivesI w' a)) := Lib.hid (fun w' hb => by rw [← ha]; exact list_any A la ca LA w' (h.next hb) hlc hc hA)
  have HLB : Hid (∀ w', Below w.heap.size w w' → Calls Try.prog 18 #[.slice B lb cb] w' (GivesI w' b)) := Lib.hid (fun w' hbw => by rw [← hb]; exact list_any B lb cb LB w' (k.next hbw) klc kc kB)
  have HWA : Hid (wl a = a) := Lib.hid (by rw [← ha]; exact wl_take hw 16)
  have HWB : Hid (wl b = b) := Lib.hid (by rw [← hb]; exact wl_take kw 16)
  have HAL : Hid (a.length ≤ 16) := Lib.hid (by rw [← ha, List.length_take]; omega)
  have HBL : Hid (b.length ≤ 16) := Lib.hid (by rw [← hb, List.length_take]; omega)
  have HNO : Hid (∀ (M : List Int) w' A1 n1 c1, IRow w' w'.heap.size A1 n1 M → wl M = M → M.length ≤ 1000 → Calls Try.prog 17 #[.int .i64 n, .slice A1 n1 c1] w' fun e w'' => e = .returned (.tuple #[.int .i64 (nV n M), .int .i64 (if okN n 2 M = true then 0 else 2)]) ∧ Below w'.heap.size w' w'') := Lib.hid (fun M w' A1 n1 c1 h1 h2 h3 => Norm_one n A1 n1 c1 M w' h1 h2 (by have := h1.1; omega))
  have HTO : Hid (∀ (M : List Int) w' A1 n1 c1, IRow w' w'.heap.size A1 n1 M → wl M = M → M.length ≤ 1000 → Calls Try.prog 19 #[.int .i64 n, .slice A1 n1 c1] w' fun e w'' => e = .returned (.tuple #[.int .i64 (tV n M), .int .i64 (if okN n 1000 M = true then 0 else 2)]) ∧ Below w'.heap.size w' w'') := Lib.hid (fun M w' A1 n1 c1 h1 h2 h3 => Trace_one n A1 n1 c1 M w' h1 h2 (by have := h1.1; omega))
  obtain ⟨x, hx⟩ : ∃ x, nV n a = x := ⟨_, rfl⟩
  obtain ⟨y, hy⟩ : ∃ y, nV n b = y := ⟨_, rfl⟩
  obtain ⟨s, hs⟩ : ∃ s, tV n a = s := ⟨_, rfl⟩
  obtain ⟨t, ht⟩ : ∃ t, tV n b = t := ⟨_, rfl⟩
  obtain ⟨pa, hpa⟩ : ∃ pa, okN n 2 a = pa := ⟨_, rfl⟩
  obtain ⟨pb, hpb⟩ : ∃ pb, okN n 2 b = pb := ⟨_, rfl⟩
  obtain ⟨qa, hqa⟩ : ∃ qa, okN n 1000 a = qa := ⟨_, rfl⟩
  obtain ⟨qb, hqb⟩ : ∃ qb, okN n 1000 b = qb := ⟨_, rfl⟩
  obtain ⟨ea, hea⟩ : ∃ ea : Int, (if okN n 2 a = true then 0 else 2) = ea := ⟨_, rfl⟩
  obtain ⟨eb, heb⟩ : ∃ eb : Int, (if okN n 2 b = true then 0 else 2) = eb := ⟨_, rfl⟩
  obtain ⟨fa, hfa⟩ : ∃ fa : Int, (if okN n 1000 a = true then 0 else 2) = fa := ⟨_, rfl⟩
  obtain ⟨fb, hfb⟩ : ∃ fb : Int, (if okN n 1000 b = true then 0 else 2) = fb := ⟨_, rfl⟩
  have TA : Hid ((ea == 0) = pa) := Lib.hid (by rw [← hea, hpa]; cases pa <;> rfl)
  have TB : Hid ((eb == 0) = pb) := Lib.hid (by rw [← heb, hpb]; cases pb <;> rfl)
  have UA : Hid ((fa == 0) = qa) := Lib.hid (by rw [← hfa, hqa]; cases qa <;> rfl)
  have UB : Hid ((fb == 0) = qb) := Lib.hid (by rw [← hfb, hqb]; cases qb <;> rfl)
  have HEA := Lib.hid hea
  have HEB := Lib.hid heb
  have HFA := Lib.hid hfa
  have HFB := Lib.hid hfb
  have HX := Lib.hid hx
  have HY := Lib.hid hy
  have HS := Lib.hid hs
  have HT := Lib.hid ht
  have HPA := Lib.hid hpa
  have HPB := Lib.hid hpb
  have HQA := Lib.hid hqa
  have HQB := Lib.hid hqb
  clear h k hw kw ha hb hea heb hfa hfb hx hy hs ht hpa hpb hqa hqb hA kB
  go_enter Try.func6, Try.ntmps6
  go_wp2_with fail
  refine (HLA.out _ (Below.refl _ _)).mono ?_; rintro e w1 ⟨A1, n1, c1, rfl, how1, hA1, hb1⟩
  have HI1 := Lib.hid (IRow.of_own how1)
  have HB1 := Lib.hid hb1
  clear how1 hA1 hb1
  go_wp2_with fail
  refine (HNO.out a _ _ _ _ HI1.out HWA.out (by have := HAL.out; omega)).mono ?_; rw [HX.out, HEA.out]; rintro e w2 ⟨rfl, hb2⟩
  have HB2 := Lib.hid (ibt HB1.out hb2)
  clear hb2 HI1
  go_wp2_with fail
  refine (HLB.out _ HB2.out).mono ?_; rintro e w3 ⟨A3, n3, c3, rfl, how3, hA3, hb3⟩
  have HI3 := Lib.hid (IRow.of_own how3)
  have HB3 := Lib.hid (ibt HB2.out hb3)
  clear how3 hA3 hb3
  go_wp2_with fail
  refine (HNO.out b _ _ _ _ HI3.out HWB.out (by have := HBL.out; omega)).mono ?_; rw [HY.out, HEB.out]; rintro e w4 ⟨rfl, hb4⟩
  have HB4 := Lib.hid (ibt HB3.out hb4)
  clear hb4 HI3
  go_upto_region 3 with fail
  go_cut [44] (fun v wx => v = .bool (pa && pb) ∧ Hid (Below w.heap.size w wx))
  case first => as_aux_lemma =>
    have ta := TA.out
    have tb := TB.out
    rcases pa with _ | _ <;> rcases pb with _ | _
    all_goals
      go_wp2_with fail
      go_meet
      exact ⟨rfl, HB4⟩
  case rest =>
  obtain ⟨rfl, HB4⟩ := hcut
  go_upto_if 44 with fail
  go_cut [11, 12, 13, 14] (fun _ _ _ _ wx => Hid (Below w.heap.size w wx))
  case first => as_aux_lemma =>
    by_cases hpp : (pa && pb) = true
    case neg =>
      have hpp : (pa && pb) = false := by simpa using hpp
      rw [hpp]
      go_wp2_with fail
      go_meet
      exact HB4
    case pos =>
        have hp2 := hpp
        rw [Bool.and_eq_true] at hp2
        obtain ⟨rfl, rfl⟩ := hp2
        clear hpp
        rw [Bool.true_and]
        have HOK : Hid ((okN n 1000 a && okN n 1000 b) = true) := Lib.hid (by rw [okN_mono HPA.out, okN_mono HPB.out]; rfl)
        have HPL : Hid ((wl (timesZ (cyc n.toNat) a b)).length ≤ 1000) := Lib.hid (by
          obtain ⟨g1, g2, _⟩ := okN_yes HPA.out
          have h7 := (cyc_facts (n := n.toNat) (by omega) (by omega)).1
          have hp : phi n.toNat ≤ n.toNat := phiK_le _ _
          rw [wl_len, times_len]; omega)
        obtain ⟨pr, hpr⟩ : ∃ pr, wl (timesZ (cyc n.toNat) a b) = pr := ⟨_, rfl⟩
        have HWP : Hid (wl pr = pr) := Lib.hid (by rw [← hpr]; exact wl_wl _)
        have HNP : Hid (okN n 2 pr = true → nV n pr = wrap64 (x * y)) := Lib.hid (fun hk => by rw [← hpr] at hk ⊢; rw [nV_prod HPA.out HPB.out hk, HX.out, HY.out])
        have HTI : Hid (∀ w' A1 n1 c1 A2 n2 c2, IRow w' w'.heap.size A1 n1 a → IRow w' w'.heap.size A2 n2 b → Calls Try.prog 23 #[.int .i64 n, .slice A1 n1 c1, .slice A2 n2 c2] w' (GivesIE w' pr 0)) := Lib.hid (fun w' A1 n1 c1 A2 n2 c2 h1 h2 => by
          have h5 := Times_one n A1 A2 n1 c1 n2 c2 a b w' h1 h2 HWA.out HWB.out (by have := h1.1; have := HAL.out; omega) (by have := h2.1; have := HBL.out; omega)
          rw [if_pos HOK.out, if_pos HOK.out, hpr] at h5
          exact h5)
        rw [hpr] at HPL
        clear hpr
        go_wp2_with fail
        refine (HLA.out _ HB4.out).mono ?_; rintro e w5 ⟨A5, n5, c5, rfl, how5, hA5, hb5⟩
        have HI5 := Lib.hid (IRow.of_own how5)
        have HB5 := Lib.hid (ibt HB4.out hb5)
        clear how5 hA5 hb5
        go_wp2_with fail
        refine (HLB.out _ HB5.out).mono ?_; rintro e w6 ⟨A6, n6, c6, rfl, how6, hA6, hb6⟩
        have HI6 := Lib.hid (IRow.of_own how6)
        have HI56 := Lib.hid (HI5.out.next hb6)
        have HB6 := Lib.hid (ibt HB5.out hb6)
        clear how6 hA6 hb6 HI5
        go_wp2_with fail
        refine (HTI.out _ _ _ _ _ _ _ HI56.out HI6.out).mono ?_; rintro e w7 ⟨A7, n7, c7, rfl, how7, hA7, hb7⟩
        have HI7 := Lib.hid (IRow.of_own how7)
        have HN7 := Lib.hid hA7
        have hn7 : n7 ≤ 1000 := by have h9 := how7.len; have := HPL.out; omega
        have HB7 := Lib.hid (ibt HB6.out hb7)
        clear how7 hA7 hb7 HI56 HI6
        go_wp2_with fail
        refine (clone_ints A7 n7 c7 pr w7 HI7.out (by omega) HN7.out).mono ?_; rintro e w8 ⟨A8, n8, c8, rfl, how8, hA8, hb8⟩
        have HI8 := Lib.hid (IRow.of_own how8)
        have HB8 := Lib.hid (ibt HB7.out hb8)
        clear how8 hA8 hb8
        go_wp2_with fail
        refine (HNO.out pr _ _ _ _ HI8.out HWP.out HPL.out).mono ?_
        cases hq : okN n 2 pr with
        | true =>
          rw [HNP.out hq]; rintro e w9 ⟨rfl, hb9⟩
          have HB9 := Lib.hid (ibt HB8.out hb9)
          have tz : (wrap64 (x * y) != wrap64 (x * y)) = false := by simp
          clear hb9 hq
          go_wp2_with fail
          go_meet
          exact HB9
        | false =>
          obtain ⟨zz, hzz⟩ : ∃ zz, nV n pr = zz := ⟨_, rfl⟩
          rw [hzz]; rintro e w9 ⟨rfl, hb9⟩
          have HB9 := Lib.hid (ibt HB8.out hb9)
          clear hb9 hq hzz
          go_wp2_with fail
          go_meet
          exact HB9
  case rest =>
  have HB4 := hcut
  clear hcut
  go_wp2_with fail
  refine (HLA.out _ HB4.out).mono ?_; rintro e v1 ⟨A1, n1, c1, rfl, how1, hA1, hb1⟩
  have HI1 := Lib.hid (IRow.of_own how1)
  have HB1 := Lib.hid (ibt HB4.out hb1)
  clear how1 hA1 hb1
  go_wp2_with fail
  refine (HTO.out a _ _ _ _ HI1.out HWA.out (by have := HAL.out; omega)).mono ?_; rw [HS.out, HFA.out]; rintro e v2 ⟨rfl, hb2⟩
  have HB2 := Lib.hid (ibt HB1.out hb2)
  clear hb2 HI1
  go_wp2_with fail
  refine (HLB.out _ HB2.out).mono ?_; rintro e v3 ⟨A3, n3, c3, rfl, how3, hA3, hb3⟩
  have HI3 := Lib.hid (IRow.of_own how3)
  have HB3 := Lib.hid (ibt HB2.out hb3)
  clear how3 hA3 hb3
  go_wp2_with fail
  refine (HTO.out b _ _ _ _ HI3.out HWB.out (by have := HBL.out; omega)).mono ?_; rw [HT.out, HFB.out]; rintro e v4 ⟨rfl, hb4⟩
  have HB4 := Lib.hid (ibt HB3.out hb4)
  clear hb4 HI3
  go_upto_region 10 with fail
  go_cut [93] (fun v wx => v = .bool (qa && qb) ∧ Hid (Below w.heap.size w wx))
  case first => as_aux_lemma =>
    have ta := UA.out
    have tb := UB.out
    rcases qa with _ | _ <;> rcases qb with _ | _
    all_goals
      go_wp2_with fail
      go_meet
      exact ⟨rfl, HB4⟩
  case rest =>
  obtain ⟨rfl, HB4⟩ := hcut
  go_upto_if 93 with fail
  go_cut [17, 18, 19, 20] (fun _ _ _ _ wx => Hid (Below w.heap.size w wx))
  case first => as_aux_lemma =>
    by_cases hpp : (qa && qb) = true
    case neg =>
      have hpp : (qa && qb) = false := by simpa using hpp
      rw [hpp]
      go_wp2_with fail
      go_meet
      exact HB4
    case pos =>
        have hp2 := hpp
        rw [Bool.and_eq_true] at hp2
        obtain ⟨rfl, rfl⟩ := hp2
        clear hpp
        rw [Bool.true_and]
        have HOK : Hid ((okN n 1000 a && okN n 1000 b) = true) := Lib.hid (by rw [HQA.out, HQB.out]; rfl)
        have HPL : Hid ((wl (addZ a b)).length ≤ 1000) := Lib.hid (by
          have h1 := (okN_yes HQA.out).2.2.1
          have h2 := (okN_yes HQB.out).2.2.1
          rw [wl_len, addZ_len (by omega)]; have := HAL.out; have := HBL.out; omega)
        obtain ⟨pr, hpr⟩ : ∃ pr, wl (addZ a b) = pr := ⟨_, rfl⟩
        have HWP : Hid (wl pr = pr) := Lib.hid (by rw [← hpr]; exact wl_wl _)
        have HNP : Hid (okN n 1000 pr = true → tV n pr = wrap64 (s + t)) := Lib.hid (fun hk => by rw [← hpr] at hk ⊢; rw [tV_sum HQA.out HQB.out hk, HS.out, HT.out])
        have HTI : Hid (∀ w' A1 n1 c1 A2 n2 c2, IRow w' w'.heap.size A1 n1 a → IRow w' w'.heap.size A2 n2 b → Calls Try.prog 25 #[.int .i64 n, .slice A1 n1 c1, .slice A2 n2 c2] w' (GivesIE w' pr 0)) := Lib.hid (fun w' A1 n1 c1 A2 n2 c2 h1 h2 => by
          have h5 := Add_one n A1 A2 n1 c1 n2 c2 a b w' h1 h2 HWA.out HWB.out (by have := h1.1; have := HAL.out; omega) (by have := h2.1; have := HBL.out; omega)
          rw [if_pos HOK.out, if_pos HOK.out, hpr] at h5
          exact h5)
        rw [hpr] at HPL
        clear hpr
        go_wp2_with fail
        refine (HLA.out _ HB4.out).mono ?_; rintro e w5 ⟨A5, n5, c5, rfl, how5, hA5, hb5⟩
        have HI5 := Lib.hid (IRow.of_own how5)
        have HB5 := Lib.hid (ibt HB4.out hb5)
        clear how5 hA5 hb5
        go_wp2_with fail
        refine (HLB.out _ HB5.out).mono ?_; rintro e w6 ⟨A6, n6, c6, rfl, how6, hA6, hb6⟩
        have HI6 := Lib.hid (IRow.of_own how6)
        have HI56 := Lib.hid (HI5.out.next hb6)
        have HB6 := Lib.hid (ibt HB5.out hb6)
        clear how6 hA6 hb6 HI5
        go_wp2_with fail
        refine (HTI.out _ _ _ _ _ _ _ HI56.out HI6.out).mono ?_; rintro e w7 ⟨A7, n7, c7, rfl, how7, hA7, hb7⟩
        have HI7 := Lib.hid (IRow.of_own how7)
        have HN7 := Lib.hid hA7
        have hn7 : n7 ≤ 1000 := by have h9 := how7.len; have := HPL.out; omega
        have HB7 := Lib.hid (ibt HB6.out hb7)
        clear how7 hA7 hb7 HI56 HI6
        go_wp2_with fail
        refine (clone_ints A7 n7 c7 pr w7 HI7.out (by omega) HN7.out).mono ?_; rintro e w8 ⟨A8, n8, c8, rfl, how8, hA8, hb8⟩
        have HI8 := Lib.hid (IRow.of_own how8)
        have HB8 := Lib.hid (ibt HB7.out hb8)
        clear how8 hA8 hb8
        go_wp2_with fail
        refine (HTO.out pr _ _ _ _ HI8.out HWP.out HPL.out).mono ?_
        cases hq : okN n 1000 pr with
        | true =>
          rw [HNP.out hq]; rintro e w9 ⟨rfl, hb9⟩
          have HB9 := Lib.hid (ibt HB8.out hb9)
          have tz : (wrap64 (s + t) != wrap64 (s + t)) = false := by simp
          clear hb9 hq
          go_wp2_with fail
          go_meet
          exact HB9
        | false =>
          obtain ⟨zz, hzz⟩ : ∃ zz, tV n pr = zz := ⟨_, rfl⟩
          rw [hzz]; rintro e w9 ⟨rfl, hb9⟩
          have HB9 := Lib.hid (ibt HB8.out hb9)
          clear hb9 hq hzz
          go_wp2_with fail
          go_meet
          exact HB9
  case rest =>
  have HB4 := hcut
  clear hcut
  by_cases hr : 3 ≤ n ∧ n ≤ 15
  case neg =>
    by_cases h3 : n < 3
    · clear hr
      go_wp2_with fail
      refine (awake_any _).mono ?_; rintro e w2 ⟨rfl, hb2⟩
      go_wp2_with fail
      go_ret
      exact ⟨rfl, ibt HB4.out hb2⟩
    · have h15 : 15 < n := by omega
      clear hr
      go_wp2_with fail
      refine (awake_any _).mono ?_; rintro e w2 ⟨rfl, hb2⟩
      go_wp2_with fail
      go_ret
      exact ⟨rfl, ibt HB4.out hb2⟩
  case pos =>
    obtain ⟨N, rfl⟩ : ∃ N : Nat, n = (N : Int) := ⟨n.toNat, by omega⟩
    obtain ⟨P, hP⟩ : ∃ P, phi N = P := ⟨_, rfl⟩
    have HPN : Hid (P ≤ N) := Lib.hid (by rw [← hP]; exact phiK_le _ _)
    have hP15 : P ≤ 15 := by have := HPN.out; omega
    have HPHI : Hid (∀ w', Calls Try.prog 12 #[.int .i64 (N : Int)] w' fun e w'' => e = .returned (.int .i64 (P : Int)) ∧ Below w'.heap.size w' w'') := Lib.hid (fun w' => by rw [← hP]; exact rphi_any N w' (by omega))
    have HP := Lib.hid hP
    have h3N : 3 ≤ N := by omega
    have h15N : N ≤ 15 := by omega
    have hmk := run_make_row' (P := Try.prog) 22 3 (.int .i64 0) 8 Try.underlying22 infoI rfl .i64 .i64 P (by omega) (by omega)
    clear hP
    go_upto_region 17 with fail
    go_cut [21, 22] (fun u v wx => ∃ G1 G2 : Nat, u = .slice (some ⟨G1, 0, none⟩) P P ∧ v = .slice (some ⟨G2, 0, none⟩) P P ∧ G1 ≠ G2 ∧ Hid (Own wx w.heap.size (some ⟨G1, 0, none⟩) P P (List.replicate P 0)) ∧ Hid (Own wx w.heap.size (some ⟨G2, 0, none⟩) P P (List.replicate P 0)) ∧ Hid (Below w.heap.size w wx))
    case first => as_aux_lemma =>
      go_region_with (go_at_call 12; refine (HPHI.out _).mono ?_; rintro e w2 ⟨rfl, hb2⟩)
      all_goals
        rename_i x1 hx1
        have HB7 : Below w.heap.size w wc.drew := ⟨HB4.out.os, HB4.out.tape, HB4.out.output, HB4.out.size, HB4.out.block⟩
        first
          | have M9 := made_a (P := P) (by omega) HB7 hx1 hb2
          | have M9 := made_b (P := P) (by omega) HB7 hx1 hb2
        obtain ⟨m1, m2, m3, m4⟩ := M9
        go_wp2_with fail
        go_meet
        first
          | exact ⟨_, _, rfl, rfl, m1, m2, m3, m4⟩
          | exact ⟨_, _, rfl, rfl, m1.symm, m3, m2, m4⟩
    case rest => as_aux_lemma =>
      obtain ⟨G1, G2, rfl, rfl, hne, HG1, HG2, HBx⟩ := hcut
      have HM := Lib.hid (meas_of h3N h15N)
      have hP2 : 2 ≤ P := by have := HM.out.2.2.2.2; rw [HP.out] at this; exact this
      obtain ⟨a1, a2, a3, a4⟩ := HG1.out.cell (show (List.replicate P (0 : Int))[1]? = some 0 by rw [List.getElem?_replicate, if_pos (by omega)])
      obtain ⟨b1, b2, b3, b4⟩ := HG2.out.cell (show (List.replicate P (0 : Int))[0]? = some 0 by rw [List.getElem?_replicate, if_pos (by omega)])
      obtain ⟨d1, d2, _, _⟩ := HG2.out.cell (show (List.replicate P (0 : Int))[1]? = some 0 by rw [List.getElem?_replicate, if_pos (by omega)])
      obtain ⟨PF, hPF⟩ : ∃ PF, lfac N N 2 = PF := ⟨_, rfl⟩
      obtain ⟨ST, hST⟩ : ∃ ST, stripF PF N N = ST := ⟨_, rfl⟩
      obtain ⟨PV, hPV⟩ : ∃ PV, pval N = PV := ⟨_, rfl⟩
      have HPF := Lib.hid hPF
      have HST := Lib.hid hST
      have HPV : Hid ((1 < ST ∧ PV = 1) ∨ (¬ 1 < ST ∧ PV = PF)) := Lib.hid (by
        rw [← hPV, pval, hPF, hST, if_neg (by omega)]
        by_cases hs : 1 < ST
        · rw [if_pos hs]; exact .inl ⟨hs, rfl⟩
        · rw [if_neg hs]; exact .inr ⟨hs, rfl⟩)
      have HN1 : Hid (∀ w', IRow w' w'.heap.size (some ⟨G1, 0, none⟩) P (numZ N) → Calls Try.prog 17 #[.int .i64 (N : Int), .slice (some ⟨G1, 0, none⟩) P P] w' fun e w'' => e = .returned (.tuple #[.int .i64 1, .int .i64 0]) ∧ Below w'.heap.size w' w'') := Lib.hid (fun w' h => by
        have h5 := Norm_one N (some ⟨G1, 0, none⟩) P P (numZ N) w' h HM.out.2.2.1 (by omega)
        rw [HM.out.1.2, if_pos HM.out.1.1] at h5
        exact h5)
      have HN2 : Hid (∀ w', IRow w' w'.heap.size (some ⟨G2, 0, none⟩) P (numL N) → Calls Try.prog 17 #[.int .i64 (N : Int), .slice (some ⟨G2, 0, none⟩) P P] w' fun e w'' => e = .returned (.tuple #[.int .i64 (PV : Int), .int .i64 0]) ∧ Below w'.heap.size w' w'') := Lib.hid (fun w' h => by
        have h5 := Norm_one N (some ⟨G2, 0, none⟩) P P (numL N) w' h HM.out.2.2.2.1 (by omega)
        rw [HM.out.2.1.2, if_pos HM.out.2.1.1, hPV] at h5
        exact h5)
      obtain ⟨wz, hwz⟩ : ∃ wz, (((wc.setCell ⟨G1, 1, none⟩ (.int .i64 1)).setCell ⟨G2, 0, none⟩ (.int .i64 1)).setCell ⟨G2, 1, none⟩ (.int .i64 (-1))) = wz := ⟨_, rfl⟩
      have HR1 : Hid (IRow wz wz.heap.size (some ⟨G1, 0, none⟩) P (numZ N)) := Lib.hid (by
        have o1 := HG1.out.store 1 1
        have o2 : Own (((wc.setCell ⟨G1, 1, none⟩ (.int .i64 1)).setCell ⟨G2, 0, none⟩ (.int .i64 1)).setCell ⟨G2, 1, none⟩ (.int .i64 (-1))) w.heap.size (some ⟨G1, 0, none⟩) P P ((List.replicate P 0).set 1 1) := o1.other (by
          rw [Below.heap_setCell _ _ _ _ (by show G1 ≠ G2; omega), Below.heap_setCell _ _ _ _ (by show G1 ≠ G2; omega)])
        rw [hwz, ← HP.out] at o2
        rw [← HP.out]
        exact IRow.of_own o2)
      have HR2 : Hid (IRow wz wz.heap.size (some ⟨G2, 0, none⟩) P (numL N)) := Lib.hid (by
        have o0 : Own (wc.setCell ⟨G1, 1, none⟩ (.int .i64 1)) w.heap.size (some ⟨G2, 0, none⟩) P P (List.replicate P 0) := HG2.out.other (by
          rw [Below.heap_setCell _ _ _ _ (by show G2 ≠ G1; omega)])
        have o2 := (o0.store 0 1).store 1 (-1)
        rw [hwz, ← HP.out] at o2
        rw [← HP.out]
        exact IRow.of_own o2)
      have HBz : Hid (Below w.heap.size w wz) := Lib.hid (by
        rw [← hwz]
        exact ((HBx.out.setCell (p := ⟨G1, 1, none⟩) a4 _).setCell (p := ⟨G2, 0, none⟩) b4 _).setCell (p := ⟨G2, 1, none⟩) b4 _)
      clear hmk hPF hST hPV
      go_wp2_with fail
      try rw [hwz]
      clear hwz a1 a2 a3 b1 b2 b3 d1 d2
      refine (HN1.out _ HR1.out).mono ?_; rintro e z1 ⟨rfl, hz1⟩
      have HZ1 := Lib.hid (ibt HBz.out hz1)
      have HR3 := Lib.hid (HR2.out.next hz1)
      clear hz1
      go_wp2_with fail
      refine (HN2.out _ HR3.out).mono ?_; rintro e z2 ⟨rfl, hz2⟩
      have HZ2 := Lib.hid (ibt HZ1.out hz2)
      have HL0 : Hid (lfac N (N + 2 - 2) 2 = PF) := Lib.hid (by rw [Nat.add_sub_cancel]; exact HPF.out)
      clear hz2
      go_wp2_with fail
      go_loopw [23] (fun z wr2 => ∃ k : Nat, 2 ≤ k ∧ k ≤ N ∧ z = .int .i64 (k : Int) ∧ Hid (lfac N (N + 2 - k) k = PF) ∧ wr2 = z2) (fun z _ => N + 2 - (intOf z).toNat)
      case atStart => exact ⟨2, by omega, by omega, rfl, HL0, rfl⟩
      case round =>
        obtain ⟨k, hk2, hkN, rfl, hl, rfl⟩ := hrel
        have hki : (2 : Int) ≤ (k : Int) := by omega
        have e0 : (N : Int) % (k : Int) = ((N % k : Nat) : Int) := (Int.natCast_emod _ _).symm
        by_cases hnk : N % k = 0
        case neg =>
          have t1 : ((N : Int) % (k : Int) != 0) = true := by rw [e0]; simp; omega
          have hkN2 : k < N := by
            apply Classical.byContradiction
            intro hge
            have : k = N := by omega
            exact hnk (by rw [this]; exact Nat.mod_self _)
          have HL2 : Hid (lfac N (N + 2 - (k + 1)) (k + 1) = PF) := Lib.hid (by
            have h9 := hl.out
            rw [show N + 2 - k = (N + 2 - (k + 1)) + 1 by omega, lfac_step hnk] at h9
            exact h9)
          clear hnk e0
          go_wp2_with fail
          go_roundw
          case rel => exact ⟨k + 1, by omega, by omega, by go_num, HL2, trivial⟩
          case measure => simp [intOf]; omega
        case pos =>
          have HKP : Hid (k = PF) := Lib.hid (by
            have h9 := hl.out
            rw [lfac_stop hnk] at h9
            exact h9)
          have HST2 : Hid (stripF k N N = ST) := Lib.hid (by rw [HKP.out]; exact HST.out)
          have t1 : ((N : Int) % (k : Int) != 0) = false := by rw [e0, hnk]; rfl
          clear hnk e0 hl
          go_wp2_with fail
          go_loopw [24] (fun mz wr3 => ∃ m f : Nat, 1 ≤ m ∧ m ≤ N ∧ m ≤ f ∧ mz = .int .i64 (m : Int) ∧ Hid (stripF k f m = ST) ∧ wr3 = wr) (fun mz _ => (intOf mz).toNat)
          case atStart => exact ⟨N, N, by omega, by omega, by omega, rfl, HST2, rfl⟩
          case round =>
            obtain ⟨m, f, hm1, hmN, hmf, rfl, hst, rfl⟩ := hrel
            have e1 : (m : Int) % (k : Int) = ((m % k : Nat) : Int) := (Int.natCast_emod _ _).symm
            by_cases hmk : m % k = 0
            · have t5 : ((m : Int) % (k : Int) == 0) = true := by rw [e1, hmk]; rfl
              have hd1 : 0 < m / k := Nat.div_pos (Nat.le_of_dvd (by omega) (Nat.dvd_of_mod_eq_zero hmk)) (by omega)
              have hd2 : m / k < m := Nat.div_lt_self (by omega) (by omega)
              have hq : (m : Int).tdiv (k : Int) = ((m / k : Nat) : Int) := by rw [Int.tdiv_eq_ediv_of_nonneg (by omega)]; exact (Int.natCast_ediv _ _).symm
              have hq2 : (m : Int) / (k : Int) = ((m / k : Nat) : Int) := (Int.natCast_ediv _ _).symm
              have HST3 : Hid (stripF k (f - 1) (m / k) = ST) := Lib.hid (by
                have h9 := hst.out
                rw [show f = (f - 1) + 1 by omega, strip_step hmk] at h9
                exact h9)
              obtain ⟨D, hD⟩ : ∃ D, m / k = D := ⟨_, rfl⟩
              rw [hD] at hd1 hd2 hq hq2 HST3
              have hk0 : ¬ ((k : Int) = 0) := by omega
              have hk1 : ((k : Int) == 0) = false := by simp; omega
              have hk2 : ¬ (k = 0) := by omega
              clear hD
              clear hmk e1
              go_wp2_with fail
              go_roundw
              case rel => exact ⟨D, f - 1, by omega, by omega, by omega, by go_num, HST3, trivial⟩
              case measure => simp [intOf]; omega
            · have t5 : ((m : Int) % (k : Int) == 0) = false := by
                rw [e1]; simp; omega
              have HM2 : Hid (m = ST) := Lib.hid (by
                have h9 := hst.out
                rw [strip_stop hmk] at h9
                exact h9)
              have hm1i : ∃ q : Bool, decide ((1 : Int) < (m : Int)) = q ∧ ((q = true ∧ PV = 1) ∨ (q = false ∧ PV = k)) := by
                have hM := HM2.out
                have hK := HKP.out
                rcases HPV.out with ⟨h, h'⟩ | ⟨h, h'⟩
                · exact ⟨true, decide_eq_true (by omega), .inl ⟨rfl, h'⟩⟩
                · exact ⟨false, decide_eq_false (by omega), .inr ⟨rfl, by omega⟩⟩
              clear hmk e1 hst
              obtain ⟨q, t7, ⟨rfl, hpv⟩ | ⟨rfl, hpv⟩⟩ := hm1i
              · have t8 : ((PV : Int) == 1) = true := by simp [hpv]
                clear hpv
                go_wp2_with fail
                refine (awake_any _).mono ?_; rintro e z3 ⟨rfl, hz3⟩
                have HZ3 := Lib.hid (ibt HZ2.out hz3)
                clear hz3
                go_wp2_with fail
                go_ret
                exact ⟨rfl, HZ3.out⟩
              · have t8 : ((PV : Int) == (k : Int)) = true := by simp [hpv]
                clear hpv
                go_wp2_with fail
                refine (awake_any _).mono ?_; rintro e z3 ⟨rfl, hz3⟩
                have HZ3 := Lib.hid (ibt HZ2.out hz3)
                clear hz3
                go_wp2_with fail
                go_ret
                exact ⟨rfl, HZ3.out⟩
end Go.Proofs.Ytmljndjiipgpdaa
