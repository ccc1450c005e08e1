/- SumsRing: the walk of the law. -/
import Derived.Test.YtmljndjiipgpdaaRgA
namespace Go.Proofs.Ytmljndjiipgpdaa
open Go Go.RowKit GhP

set_option maxRecDepth 100000 in
set_option maxHeartbeats 4000000 in
theorem ring_walk (n t : Int) (A B C : Option Addr) (la ca lb cb lc cc : Nat) (LA LB LC : List Int) (w : World) (h : IRow w w.heap.size A la LA) (k : IRow w w.heap.size B lb LB) (m : IRow w w.heap.size C lc LC) (hw : wl LA = LA) (kw : wl LB = LB) (mw : wl LC = LC) (hlc : la ≤ ca) (hc : ca ≤ maxLen) (hA : A = none → la = 0 ∧ ca = 0) (klc : lb ≤ cb) (kc : cb ≤ maxLen) (kB : B = none → lb = 0 ∧ cb = 0) (mlc : lc ≤ cc) (mc : cc ≤ maxLen) (mC : C = none → lc = 0 ∧ cc = 0) :
    Calls Try.prog 8 #[.int .i64 n, .slice A la ca, .slice B lb cb, .slice C lc cc, .int .i64 t] w fun e w' => e = .returned (.bool true) ∧ Below w.heap.size w w' := by
  have hla9 : la ≤ 9223372036854775807 := by unfold maxLen at hc; omega
  have hlb9 : lb ≤ 9223372036854775807 := by unfold maxLen at kc; omega
  have hlc9 : lc ≤ 9223372036854775807 := by unfold maxLen at mc; omega
  obtain ⟨a, ha⟩ : ∃ a, LA.take 16 = a := ⟨_, rfl⟩
  obtain ⟨b, hb⟩ : ∃ b, LB.take 16 = b := ⟨_, rfl⟩
  obtain ⟨c, hcc⟩ : ∃ c, LC.take 16 = c := ⟨_, rfl⟩
  have HLA : Hid (∀ w', Below w.heap.size w w' → Calls Try.prog 18 #[.slice A la ca] w' (GivesI w' a)) := Lib.hid (fun w' hb => by rw [← ha]; exact list_any A la ca LA w' (h.next hb) hlc hc hA)
  have HLB : Hid (∀ w', Below w.heap.size w w' → Calls Try.prog 18 #[.slice B lb cb] w' (GivesI w' b)) := Lib.hid (fun w' hbw => by rw [← hb]; exact list_any B lb cb LB w' (k.next hbw) klc kc kB)
  have HLC : Hid (∀ w', Below w.heap.size w w' → Calls Try.prog 18 #[.slice C lc cc] w' (GivesI w' c)) := Lib.hid (fun w' hbw => by rw [← hcc]; exact list_any C lc cc LC w' (m.next hbw) mlc mc mC)
  have HWA : Hid (wl a = a ∧ a.length ≤ 1000) := Lib.hid (by rw [← ha]; exact ⟨wl_take hw 16, by rw [List.length_take]; omega⟩)
  have HWB : Hid (wl b = b ∧ b.length ≤ 1000) := Lib.hid (by rw [← hb]; exact ⟨wl_take kw 16, by rw [List.length_take]; omega⟩)
  have HWC : Hid (wl c = c ∧ c.length ≤ 1000) := Lib.hid (by rw [← hcc]; exact ⟨wl_take mw 16, by rw [List.length_take]; omega⟩)
  have HTI : Hid (∀ (L M : List Int) w' A1 n1 c1 A2 n2 c2, IRow w' w'.heap.size A1 n1 L → IRow w' w'.heap.size A2 n2 M → (wl L = L ∧ L.length ≤ 1000) → (wl M = M ∧ M.length ≤ 1000) → Calls Try.prog 23 #[.int .i64 n, .slice A1 n1 c1, .slice A2 n2 c2] w' (GivesIE w' (tmV n L M) (tmE n L M))) := Lib.hid (fun L M w' A1 n1 c1 A2 n2 c2 h1 h2 h3 h4 => times_c n A1 A2 n1 c1 n2 c2 L M w' h1 h2 h3.1 h4.1 h3.2 h4.2)
  have HAD : Hid (∀ (L M : List Int) w' A1 n1 c1 A2 n2 c2, IRow w' w'.heap.size A1 n1 L → IRow w' w'.heap.size A2 n2 M → (wl L = L ∧ L.length ≤ 1000) → (wl M = M ∧ M.length ≤ 1000) → Calls Try.prog 25 #[.int .i64 n, .slice A1 n1 c1, .slice A2 n2 c2] w' (GivesIE w' (adV n L M) (tmE n L M))) := Lib.hid (fun L M w' A1 n1 c1 A2 n2 c2 h1 h2 h3 h4 => add_c n A1 A2 n1 c1 n2 c2 L M w' h1 h2 h3.1 h4.1 h3.2 h4.2)
  have HTU : Hid (∀ (L : List Int) w' A1 n1 c1, IRow w' w'.heap.size A1 n1 L → (wl L = L ∧ L.length ≤ 1000) → Calls Try.prog 26 #[.int .i64 n, .slice A1 n1 c1, .int .i64 t] w' (GivesIE w' (tuV n t L) (tuE n t L))) := Lib.hid (fun L w' A1 n1 c1 h1 h3 => turn_c n t A1 n1 c1 L w' h1 h3.1 h3.2)
  have HCL : Hid (∀ (L : List Int) w' A1 n1 c1, IRow w' w'.heap.size A1 n1 L → (wl L = L ∧ L.length ≤ 1000) → (A1 = none → n1 = 0) → Calls Try.prog 24 #[.slice A1 n1 c1] w' (GivesI w' L)) := Lib.hid (fun L w' A1 n1 c1 h1 h2 h3 => clone_ints A1 n1 c1 L w' h1 (by have := h1.1; omega) h3)
  have HEQ : Hid (∀ (L : List Int) w' A1 n1 c1 A2 n2 c2, IRow w' w'.heap.size A1 n1 L → IRow w' w'.heap.size A2 n2 L → L.length ≤ 1000 → Calls Try.prog 14 #[.slice A1 n1 c1, .slice A2 n2 c2] w' fun e w'' => e = .returned (.bool true) ∧ Below w'.heap.size w' w'') := Lib.hid (fun L w' A1 n1 c1 A2 n2 c2 h1 h2 h3 => by
    have h4 := equal_b A1 A2 n1 n2 c1 c2 L L w' h1 h2 (by have := h1.1; omega) (by have := h2.1; omega)
    rw [decide_eq_true rfl] at h4
    exact h4)
  have HSZ : ∀ L M, Hid (wl (tmV n L M) = tmV n L M ∧ (tmV n L M).length ≤ 1000) := fun L M => Lib.hid ⟨tm_wl n L M, tm_len n L M⟩
  have HSA : ∀ L M, Hid (wl (adV n L M) = adV n L M ∧ (adV n L M).length ≤ 1000) := fun L M => Lib.hid ⟨ad_wl n L M, ad_len n L M⟩
  have HSU : ∀ L, Hid (wl (tuV n t L) = tuV n t L ∧ (tuV n t L).length ≤ 1000) := fun L => Lib.hid ⟨tu_wl n t L, tu_len n t L⟩
  obtain ⟨x, hx⟩ : ∃ x, tmV n a b = x := ⟨_, rfl⟩
  have HX := Lib.hid hx
  have HYX : Hid (tmV n b a = x) := Lib.hid (by rw [(tm_comm n a b).2, hx])
  have HWX : Hid (wl x = x ∧ x.length ≤ 1000) := Lib.hid (by rw [← hx]; exact (HSZ a b).out)
  clear h k m hw kw mw ha hb hcc hA kB mC hx
  rcases tmE_cases n a b with hE | hE
  case inr =>
    have HE := Lib.hid hE
    have HE' : Hid (tmE n b a = 2) := Lib.hid (by rw [(tm_comm n a b).1, hE])
    clear hE
    go_enter Try.func8, Try.ntmps8
    go_wp2_with fail
    refine (HLA.out _ (Below.refl _ _)).mono ?_; rintro e w1 ⟨A1, n1, c1, rfl, how1, hA1, hb1⟩
    have HI1 := Lib.hid (IRow.of_own how1)
    have HA1 := Lib.hid hA1
    have HB1 := Lib.hid hb1
    clear how1 hA1 hb1
    go_wp2_with fail
    refine (HLB.out _ HB1.out).mono ?_; rintro e w2 ⟨A2, n2, c2, rfl, how2, hA2, hb2⟩
    have HI2 := Lib.hid (IRow.of_own how2)
    have HA2 := Lib.hid hA2
    have HB2 := Lib.hid hb2
    clear how2 hA2 hb2
    go_wp2_with fail
    refine (HTI.out a b _ _ _ _ _ _ _ (HI1.out.next HB2.out) HI2.out HWA.out HWB.out).mono ?_; rw [HX.out, HE.out]; rintro e w3 ⟨A3, n3, c3, rfl, how3, hA3, hb3⟩
    have HI3 := Lib.hid (IRow.of_own how3)
    have HA3 := Lib.hid hA3
    have HB3 := Lib.hid hb3
    clear how3 hA3 hb3
    go_wp2_with fail
    refine (HLB.out _ (ibt (ibt HB1.out HB2.out) HB3.out)).mono ?_; rintro e w4 ⟨A4, n4, c4, rfl, how4, hA4, hb4⟩
    have HI4 := Lib.hid (IRow.of_own how4)
    have HA4 := Lib.hid hA4
    have HB4 := Lib.hid hb4
    clear how4 hA4 hb4
    go_wp2_with fail
    refine (HLA.out _ (ibt (ibt (ibt HB1.out HB2.out) HB3.out) HB4.out)).mono ?_; rintro e w5 ⟨A5, n5, c5, rfl, how5, hA5, hb5⟩
    have HI5 := Lib.hid (IRow.of_own how5)
    have HA5 := Lib.hid hA5
    have HB5 := Lib.hid hb5
    clear how5 hA5 hb5
    go_wp2_with fail
    refine (HTI.out b a _ _ _ _ _ _ _ (HI4.out.next HB5.out) HI5.out HWB.out HWA.out).mono ?_; rw [HYX.out, HE'.out]; rintro e w6 ⟨A6, n6, c6, rfl, how6, hA6, hb6⟩
    have HI6 := Lib.hid (IRow.of_own how6)
    have HA6 := Lib.hid hA6
    have HB6 := Lib.hid hb6
    clear how6 hA6 hb6
    go_wp2_with fail
    refine (awake_any _).mono ?_; rintro e w7 ⟨rfl, hb7⟩
    have HB7 := Lib.hid hb7
    clear hb7
    go_wp2_with fail
    go_ret
    exact ⟨rfl, (ibt (ibt (ibt (ibt (ibt (ibt HB1.out HB2.out) HB3.out) HB4.out) HB5.out) HB6.out) HB7.out)⟩
  case inl =>
    have HE := Lib.hid hE
    have HE' : Hid (tmE n b a = 0) := Lib.hid (by rw [(tm_comm n a b).1, hE])
    have HOA := Lib.hid (tmE_zero hE).1
    have HOB := Lib.hid (tmE_zero hE).2
    clear hE
    obtain ⟨e1, he1⟩ : ∃ e, tmE n x c = e := ⟨_, rfl⟩
    obtain ⟨e2, he2⟩ : ∃ e, tmE n b c = e := ⟨_, rfl⟩
    obtain ⟨P1, hP1⟩ : ∃ e, tmV n x c = e := ⟨_, rfl⟩
    obtain ⟨Z, hZ⟩ : ∃ e, tmV n b c = e := ⟨_, rfl⟩
    obtain ⟨pa, hpa⟩ : ∃ pa, (e1 == 0) = pa := ⟨_, rfl⟩
    obtain ⟨pb, hpb⟩ : ∃ pb, (e2 == 0) = pb := ⟨_, rfl⟩
    have HE1 := Lib.hid he1
    have HE2 := Lib.hid he2
    have HP1 := Lib.hid hP1
    have HZ := Lib.hid hZ
    have HPA := Lib.hid hpa
    have HPB := Lib.hid hpb
    have HWP : Hid (wl P1 = P1 ∧ P1.length ≤ 1000) := Lib.hid (by rw [← hP1]; exact (HSZ _ _).out)
    have HWZ : Hid (wl Z = Z ∧ Z.length ≤ 1000) := Lib.hid (by rw [← hZ]; exact (HSZ _ _).out)
    have HQ : Hid ((pa && pb) = true → tmE n a Z = 0 → tmV n a Z = P1) := Lib.hid (fun hab h0 => by
      rw [Bool.and_eq_true] at hab
      rw [← hpa, ← hpb, beq_iff_eq, beq_iff_eq] at hab
      rw [← he1, ← he2] at hab
      rw [← hZ] at h0 ⊢
      rw [← hP1, ← HX.out] 
      rw [← HX.out] at hab
      exact (tm_assoc HE.out hab.1 hab.2 h0).symm)
    clear he1 he2 hP1 hZ hpa hpb
    go_enter Try.func8, Try.ntmps8
    go_wp2_with fail
    refine (HLA.out _ (Below.refl _ _)).mono ?_; rintro e w1 ⟨A1, n1, c1, rfl, how1, hA1, hb1⟩
    have HI1 := Lib.hid (IRow.of_own how1)
    have HA1 := Lib.hid hA1
    have HB1 := Lib.hid hb1
    clear how1 hA1 hb1
    go_wp2_with fail
    refine (HLB.out _ HB1.out).mono ?_; rintro e w2 ⟨A2, n2, c2, rfl, how2, hA2, hb2⟩
    have HI2 := Lib.hid (IRow.of_own how2)
    have HA2 := Lib.hid hA2
    have HB2 := Lib.hid hb2
    clear how2 hA2 hb2
    go_wp2_with fail
    refine (HTI.out a b _ _ _ _ _ _ _ (HI1.out.next HB2.out) HI2.out HWA.out HWB.out).mono ?_; rw [HX.out, HE.out]; rintro e w3 ⟨A3, n3, c3, rfl, how3, hA3, hb3⟩
    have HI3 := Lib.hid (IRow.of_own how3)
    have HA3 := Lib.hid hA3
    have HB3 := Lib.hid hb3
    clear how3 hA3 hb3
    go_wp2_with fail
    refine (HLB.out _ (ibt (ibt HB1.out HB2.out) HB3.out)).mono ?_; rintro e w4 ⟨A4, n4, c4, rfl, how4, hA4, hb4⟩
    have HI4 := Lib.hid (IRow.of_own how4)
    have HA4 := Lib.hid hA4
    have HB4 := Lib.hid hb4
    clear how4 hA4 hb4
    go_wp2_with fail
    refine (HLA.out _ (ibt (ibt (ibt HB1.out HB2.out) HB3.out) HB4.out)).mono ?_; rintro e w5 ⟨A5, n5, c5, rfl, how5, hA5, hb5⟩
    have HI5 := Lib.hid (IRow.of_own how5)
    have HA5 := Lib.hid hA5
    have HB5 := Lib.hid hb5
    clear how5 hA5 hb5
    go_wp2_with fail
    refine (HTI.out b a _ _ _ _ _ _ _ (HI4.out.next HB5.out) HI5.out HWB.out HWA.out).mono ?_; rw [HYX.out, HE'.out]; rintro e w6 ⟨A6, n6, c6, rfl, how6, hA6, hb6⟩
    have HI6 := Lib.hid (IRow.of_own how6)
    have HA6 := Lib.hid hA6
    have HB6 := Lib.hid hb6
    clear how6 hA6 hb6
    go_wp2_with fail
    refine (HEQ.out x _ _ _ _ _ _ _ (HI3.out.next (ibt (ibt HB4.out HB5.out) HB6.out)) HI6.out HWX.out.2).mono ?_; rintro e w7 ⟨rfl, hb7⟩
    have HB7 := Lib.hid hb7
    clear hb7
    go_wp2_with fail
    refine (HCL.out x _ _ _ _ (HI3.out.next (ibt (ibt (ibt HB4.out HB5.out) HB6.out) HB7.out)) HWX.out HA3.out).mono ?_; rintro e w8 ⟨A8, n8, c8, rfl, how8, hA8, hb8⟩
    have HI8 := Lib.hid (IRow.of_own how8)
    have HA8 := Lib.hid hA8
    have HB8 := Lib.hid hb8
    clear how8 hA8 hb8
    go_wp2_with fail
    refine (HLC.out _ (ibt (ibt (ibt (ibt (ibt (ibt (ibt HB1.out HB2.out) HB3.out) HB4.out) HB5.out) HB6.out) HB7.out) HB8.out)).mono ?_; rintro e w9 ⟨A9, n9, c9, rfl, how9, hA9, hb9⟩
    have HI9 := Lib.hid (IRow.of_own how9)
    have HA9 := Lib.hid hA9
    have HB9 := Lib.hid hb9
    clear how9 hA9 hb9
    go_wp2_with fail
    refine (HTI.out x c _ _ _ _ _ _ _ (HI8.out.next HB9.out) HI9.out HWX.out HWC.out).mono ?_; rw [HP1.out, HE1.out]; rintro e w10 ⟨A10, n10, c10, rfl, how10, hA10, hb10⟩
    have HI10 := Lib.hid (IRow.of_own how10)
    have HA10 := Lib.hid hA10
    have HB10 := Lib.hid hb10
    clear how10 hA10 hb10
    go_wp2_with fail
    refine (HLB.out _ (ibt (ibt (ibt (ibt (ibt (ibt (ibt (ibt (ibt HB1.out HB2.out) HB3.out) HB4.out) HB5.out) HB6.out) HB7.out) HB8.out) HB9.out) HB10.out)).mono ?_; rintro e w11 ⟨A11, n11, c11, rfl, how11, hA11, hb11⟩
    have HI11 := Lib.hid (IRow.of_own how11)
    have HA11 := Lib.hid hA11
    have HB11 := Lib.hid hb11
    clear how11 hA11 hb11
    go_wp2_with fail
    refine (HLC.out _ (ibt (ibt (ibt (ibt (ibt (ibt (ibt (ibt (ibt (ibt HB1.out HB2.out) HB3.out) HB4.out) HB5.out) HB6.out) HB7.out) HB8.out) HB9.out) HB10.out) HB11.out)).mono ?_; rintro e w12 ⟨A12, n12, c12, rfl, how12, hA12, hb12⟩
    have HI12 := Lib.hid (IRow.of_own how12)
    have HA12 := Lib.hid hA12
    have HB12 := Lib.hid hb12
    clear how12 hA12 hb12
    go_wp2_with fail
    refine (HTI.out b c _ _ _ _ _ _ _ (HI11.out.next HB12.out) HI12.out HWB.out HWC.out).mono ?_; rw [HZ.out, HE2.out]; rintro e w13 ⟨A13, n13, c13, rfl, how13, hA13, hb13⟩
    have HI13 := Lib.hid (IRow.of_own how13)
    have HA13 := Lib.hid hA13
    have HB13 := Lib.hid hb13
    clear how13 hA13 hb13
    go_upto_region 9 with fail
    go_cut [87] (fun v wx => v = .bool (pa && pb) ∧ Hid (Below w13.heap.size w13 wx))
    case first => as_aux_lemma =>
      have ta := HPA.out
      have tb := HPB.out
      rcases pa with _ | _ <;> rcases pb with _ | _
      all_goals
        go_wp2_with fail
        go_meet
        exact ⟨rfl, Lib.hid (Below.refl _ _)⟩
    case rest =>
    obtain ⟨rfl, HBwx⟩ := hcut
    have HBx := HBwx
    clear HBwx
    have HBc := HBx
    clear HBx
    go_upto_if 87 with fail
    go_cut [17, 18] (fun _ _ wx => Hid (Below wc.heap.size wc wx))
    case first => as_aux_lemma =>
      by_cases hpp : (pa && pb) = true
      case neg =>
        have hpp : (pa && pb) = false := by simpa using hpp
        rw [hpp]
        go_wp2_with fail
        go_meet
        exact Lib.hid (Below.refl _ _)
      case pos =>
        have HQ2 := Lib.hid (HQ.out hpp)
        rw [hpp]
        clear hpp
        go_wp2_with fail
        refine (HLA.out _ (ibt (ibt (ibt (ibt (ibt (ibt (ibt (ibt (ibt (ibt (ibt (ibt (ibt HB1.out HB2.out) HB3.out) HB4.out) HB5.out) HB6.out) HB7.out) HB8.out) HB9.out) HB10.out) HB11.out) HB12.out) HB13.out) HBc.out)).mono ?_; rintro e w14 ⟨A14, n14, c14, rfl, how14, hA14, hb14⟩
        have HI14 := Lib.hid (IRow.of_own how14)
        have HA14 := Lib.hid hA14
        have HB14 := Lib.hid hb14
        clear how14 hA14 hb14
        go_wp2_with fail
        refine (HCL.out Z _ _ _ _ (HI13.out.next (ibt HBc.out HB14.out)) HWZ.out HA13.out).mono ?_; rintro e w15 ⟨A15, n15, c15, rfl, how15, hA15, hb15⟩
        have HI15 := Lib.hid (IRow.of_own how15)
        have HA15 := Lib.hid hA15
        have HB15 := Lib.hid hb15
        clear how15 hA15 hb15
        rcases tmE_cases n a Z with h0 | h0
        · have HQ3 := Lib.hid (HQ2.out h0)
          have H0 := Lib.hid h0
          clear h0
          go_wp2_with fail
          refine (HTI.out a Z _ _ _ _ _ _ _ (HI14.out.next HB15.out) HI15.out HWA.out HWZ.out).mono ?_; rw [HQ3.out, H0.out]; rintro e w16 ⟨A16, n16, c16, rfl, how16, hA16, hb16⟩
          have HI16 := Lib.hid (IRow.of_own how16)
          have HA16 := Lib.hid hA16
          have HB16 := Lib.hid hb16
          clear how16 hA16 hb16
          go_wp2_with fail
          refine (HEQ.out P1 _ _ _ _ _ _ _ (HI10.out.next (ibt (ibt (ibt (ibt (ibt (ibt HB11.out HB12.out) HB13.out) HBc.out) HB14.out) HB15.out) HB16.out)) HI16.out HWP.out.2).mono ?_; rintro e w17 ⟨rfl, hb17⟩
          have HB17 := Lib.hid hb17
          clear hb17
          go_wp2_with fail
          go_meet
          exact Lib.hid (ibt (ibt (ibt HB14.out HB15.out) HB16.out) HB17.out)
        · have H0 := Lib.hid h0
          clear h0
          obtain ⟨QQ, hQQ⟩ : ∃ e, tmV n a Z = e := ⟨_, rfl⟩
          have HQQ := Lib.hid hQQ
          clear hQQ
          go_wp2_with fail
          refine (HTI.out a Z _ _ _ _ _ _ _ (HI14.out.next HB15.out) HI15.out HWA.out HWZ.out).mono ?_; rw [HQQ.out, H0.out]; rintro e w16 ⟨A16, n16, c16, rfl, how16, hA16, hb16⟩
          have HI16 := Lib.hid (IRow.of_own how16)
          have HA16 := Lib.hid hA16
          have HB16 := Lib.hid hb16
          clear how16 hA16 hb16
          go_wp2_with fail
          go_meet
          exact Lib.hid (ibt (ibt HB14.out HB15.out) HB16.out)
    case rest =>
    have HBd := hcut
    clear hcut
    have HBc := Lib.hid (ibt HBc.out HBd.out)
    clear HBd
    obtain ⟨U, hU⟩ : ∃ e, tuV n t a = e := ⟨_, rfl⟩
    obtain ⟨V, hV⟩ : ∃ e, tuV n t b = e := ⟨_, rfl⟩
    have HU := Lib.hid hU
    have HV := Lib.hid hV
    have HWU : Hid (wl U = U ∧ U.length ≤ 1000) := Lib.hid (by rw [← hU]; exact (HSU _).out)
    have HWV : Hid (wl V = V ∧ V.length ≤ 1000) := Lib.hid (by rw [← hV]; exact (HSU _).out)
    clear hU hV
    cases ht : turnB n t with
    | false => as_aux_lemma =>
      have HTA : Hid (tuE n t a = 2) := Lib.hid (tuE_no ht)
      have HTB : Hid (tuE n t b = 2) := Lib.hid (tuE_no ht)
      clear ht
      go_wp2_with fail
      refine (HLA.out _ (ibt (ibt (ibt (ibt (ibt (ibt (ibt (ibt (ibt (ibt (ibt (ibt (ibt HB1.out HB2.out) HB3.out) HB4.out) HB5.out) HB6.out) HB7.out) HB8.out) HB9.out) HB10.out) HB11.out) HB12.out) HB13.out) HBc.out)).mono ?_; rintro e w15 ⟨A15, n15, c15, rfl, how15, hA15, hb15⟩
      have HI15 := Lib.hid (IRow.of_own how15)
      have HA15 := Lib.hid hA15
      have HB15 := Lib.hid hb15
      clear how15 hA15 hb15
      go_wp2_with fail
      refine (HTU.out a _ _ _ _ HI15.out HWA.out).mono ?_; rw [HU.out, HTA.out]; rintro e w16 ⟨A16, n16, c16, rfl, how16, hA16, hb16⟩
      have HI16 := Lib.hid (IRow.of_own how16)
      have HA16 := Lib.hid hA16
      have HB16 := Lib.hid hb16
      clear how16 hA16 hb16
      go_wp2_with fail
      refine (HLB.out _ (ibt (ibt (ibt (ibt (ibt (ibt (ibt (ibt (ibt (ibt (ibt (ibt (ibt (ibt (ibt HB1.out HB2.out) HB3.out) HB4.out) HB5.out) HB6.out) HB7.out) HB8.out) HB9.out) HB10.out) HB11.out) HB12.out) HB13.out) HBc.out) HB15.out) HB16.out)).mono ?_; rintro e w17 ⟨A17, n17, c17, rfl, how17, hA17, hb17⟩
      have HI17 := Lib.hid (IRow.of_own how17)
      have HA17 := Lib.hid hA17
      have HB17 := Lib.hid hb17
      clear how17 hA17 hb17
      go_wp2_with fail
      refine (HTU.out b _ _ _ _ HI17.out HWB.out).mono ?_; rw [HV.out, HTB.out]; rintro e w18 ⟨A18, n18, c18, rfl, how18, hA18, hb18⟩
      have HI18 := Lib.hid (IRow.of_own how18)
      have HA18 := Lib.hid hA18
      have HB18 := Lib.hid hb18
      clear how18 hA18 hb18
      go_wp2_with fail
      refine (awake_any _).mono ?_; rintro e w19 ⟨rfl, hb19⟩
      have HB19 := Lib.hid hb19
      clear hb19
      go_wp2_with fail
      go_ret
      exact ⟨rfl, (ibt (ibt (ibt (ibt (ibt (ibt (ibt (ibt (ibt (ibt (ibt (ibt (ibt (ibt (ibt (ibt (ibt (ibt HB1.out HB2.out) HB3.out) HB4.out) HB5.out) HB6.out) HB7.out) HB8.out) HB9.out) HB10.out) HB11.out) HB12.out) HB13.out) HBc.out) HB15.out) HB16.out) HB17.out) HB18.out) HB19.out)⟩
    | true =>
      have HTA : Hid (tuE n t a = 0) := Lib.hid (tuE_ok HOA.out ht)
      have HTB : Hid (tuE n t b = 0) := Lib.hid (tuE_ok HOB.out ht)
      clear ht
      obtain ⟨S, hS⟩ : ∃ e, adV n a b = e := ⟨_, rfl⟩
      obtain ⟨W1, hW1⟩ : ∃ e, adV n U V = e := ⟨_, rfl⟩
      obtain ⟨R1, hR1⟩ : ∃ e, tuV n t S = e := ⟨_, rfl⟩
      obtain ⟨R2, hR2⟩ : ∃ e, tuV n t x = e := ⟨_, rfl⟩
      obtain ⟨W2, hW2⟩ : ∃ e, tmV n U V = e := ⟨_, rfl⟩
      obtain ⟨e3, he3⟩ : ∃ e, tmE n U V = e := ⟨_, rfl⟩
      obtain ⟨e4, he4⟩ : ∃ e, tuE n t S = e := ⟨_, rfl⟩
      obtain ⟨e5, he5⟩ : ∃ e, tuE n t x = e := ⟨_, rfl⟩
      have HS := Lib.hid hS
      have HW1 := Lib.hid hW1
      have HR1 := Lib.hid hR1
      have HR2 := Lib.hid hR2
      have HW2 := Lib.hid hW2
      have HE3 := Lib.hid he3
      have HE4 := Lib.hid he4
      have HE5 := Lib.hid he5
      have HWS : Hid (wl S = S ∧ S.length ≤ 1000) := Lib.hid (by rw [← hS]; exact (HSA _ _).out)
      have HLW1 : Hid (W1.length ≤ 1000) := Lib.hid (by rw [← hW1]; exact (HSA _ _).out.2)
      have HLW2 : Hid (W2.length ≤ 1000) := Lib.hid (by rw [← hW2]; exact (HSZ _ _).out.2)
      have HC3 : Hid (e3 = 0 ∨ e3 = 2) := Lib.hid (by rw [← he3]; exact tmE_cases n U V)
      have HC4 : Hid (e4 = 0 ∨ e4 = 2) := Lib.hid (by rw [← he4]; exact tuE_cases n t S)
      have HC5 : Hid (e5 = 0 ∨ e5 = 2) := Lib.hid (by rw [← he5]; exact tuE_cases n t x)
      have HF1 : Hid (e3 = 0 → e4 = 0 → R1 = W1) := Lib.hid (fun h3 h4 => by
        rw [← he3] at h3
        rw [← he4] at h4
        rw [← hR1, ← hW1, ← hS, ← HU.out, ← HV.out]
        rw [← hS] at h4
        rw [← HU.out, ← HV.out] at h3
        exact tu_add HTA.out HTB.out HE.out h4 h3)
      have HF2 : Hid (e5 = 0 → e3 = 0 → R2 = W2) := Lib.hid (fun h5 h3 => by
        rw [← he3] at h3
        rw [← he5] at h5
        rw [← hR2, ← hW2, ← HX.out, ← HU.out, ← HV.out]
        rw [← HX.out] at h5
        rw [← HU.out, ← HV.out] at h3
        exact tu_times HTA.out HTB.out HE.out h5 h3)
      clear hS hW1 hR1 hR2 hW2 he3 he4 he5
      go_wp2_with fail
      refine (HLA.out _ (ibt (ibt (ibt (ibt (ibt (ibt (ibt (ibt (ibt (ibt (ibt (ibt (ibt HB1.out HB2.out) HB3.out) HB4.out) HB5.out) HB6.out) HB7.out) HB8.out) HB9.out) HB10.out) HB11.out) HB12.out) HB13.out) HBc.out)).mono ?_; rintro e w15 ⟨A15, n15, c15, rfl, how15, hA15, hb15⟩
      have HI15 := Lib.hid (IRow.of_own how15)
      have HA15 := Lib.hid hA15
      have HB15 := Lib.hid hb15
      clear how15 hA15 hb15
      go_wp2_with fail
      refine (HTU.out a _ _ _ _ HI15.out HWA.out).mono ?_; rw [HU.out, HTA.out]; rintro e w16 ⟨A16, n16, c16, rfl, how16, hA16, hb16⟩
      have HI16 := Lib.hid (IRow.of_own how16)
      have HA16 := Lib.hid hA16
      have HB16 := Lib.hid hb16
      clear how16 hA16 hb16
      go_wp2_with fail
      refine (HLB.out _ (ibt (ibt (ibt (ibt (ibt (ibt (ibt (ibt (ibt (ibt (ibt (ibt (ibt (ibt (ibt HB1.out HB2.out) HB3.out) HB4.out) HB5.out) HB6.out) HB7.out) HB8.out) HB9.out) HB10.out) HB11.out) HB12.out) HB13.out) HBc.out) HB15.out) HB16.out)).mono ?_; rintro e w17 ⟨A17, n17, c17, rfl, how17, hA17, hb17⟩
      have HI17 := Lib.hid (IRow.of_own how17)
      have HA17 := Lib.hid hA17
      have HB17 := Lib.hid hb17
      clear how17 hA17 hb17
      go_wp2_with fail
      refine (HTU.out b _ _ _ _ HI17.out HWB.out).mono ?_; rw [HV.out, HTB.out]; rintro e w18 ⟨A18, n18, c18, rfl, how18, hA18, hb18⟩
      have HI18 := Lib.hid (IRow.of_own how18)
      have HA18 := Lib.hid hA18
      have HB18 := Lib.hid hb18
      clear how18 hA18 hb18
      go_wp2_with fail
      refine (HLA.out _ (ibt (ibt (ibt (ibt (ibt (ibt (ibt (ibt (ibt (ibt (ibt (ibt (ibt (ibt (ibt (ibt (ibt HB1.out HB2.out) HB3.out) HB4.out) HB5.out) HB6.out) HB7.out) HB8.out) HB9.out) HB10.out) HB11.out) HB12.out) HB13.out) HBc.out) HB15.out) HB16.out) HB17.out) HB18.out)).mono ?_; rintro e w19 ⟨A19, n19, c19, rfl, how19, hA19, hb19⟩
      have HI19 := Lib.hid (IRow.of_own how19)
      have HA19 := Lib.hid hA19
      have HB19 := Lib.hid hb19
      clear how19 hA19 hb19
      go_wp2_with fail
      refine (HLB.out _ (ibt (ibt (ibt (ibt (ibt (ibt (ibt (ibt (ibt (ibt (ibt (ibt (ibt (ibt (ibt (ibt (ibt (ibt HB1.out HB2.out) HB3.out) HB4.out) HB5.out) HB6.out) HB7.out) HB8.out) HB9.out) HB10.out) HB11.out) HB12.out) HB13.out) HBc.out) HB15.out) HB16.out) HB17.out) HB18.out) HB19.out)).mono ?_; rintro e w20 ⟨A20, n20, c20, rfl, how20, hA20, hb20⟩
      have HI20 := Lib.hid (IRow.of_own how20)
      have HA20 := Lib.hid hA20
      have HB20 := Lib.hid hb20
      clear how20 hA20 hb20
      go_wp2_with fail
      refine (HAD.out a b _ _ _ _ _ _ _ (HI19.out.next HB20.out) HI20.out HWA.out HWB.out).mono ?_; rw [HS.out, HE.out]; rintro e w21 ⟨A21, n21, c21, rfl, how21, hA21, hb21⟩
      have HI21 := Lib.hid (IRow.of_own how21)
      have HA21 := Lib.hid hA21
      have HB21 := Lib.hid hb21
      clear how21 hA21 hb21
      go_wp2_with fail
      refine (HCL.out U _ _ _ _ (HI16.out.next (ibt (ibt (ibt (ibt HB17.out HB18.out) HB19.out) HB20.out) HB21.out)) HWU.out HA16.out).mono ?_; rintro e w22 ⟨A22, n22, c22, rfl, how22, hA22, hb22⟩
      have HI22 := Lib.hid (IRow.of_own how22)
      have HA22 := Lib.hid hA22
      have HB22 := Lib.hid hb22
      clear how22 hA22 hb22
      go_wp2_with fail
      refine (HCL.out V _ _ _ _ (HI18.out.next (ibt (ibt (ibt HB19.out HB20.out) HB21.out) HB22.out)) HWV.out HA18.out).mono ?_; rintro e w23 ⟨A23, n23, c23, rfl, how23, hA23, hb23⟩
      have HI23 := Lib.hid (IRow.of_own how23)
      have HA23 := Lib.hid hA23
      have HB23 := Lib.hid hb23
      clear how23 hA23 hb23
      go_wp2_with fail
      refine (HAD.out U V _ _ _ _ _ _ _ (HI22.out.next HB23.out) HI23.out HWU.out HWV.out).mono ?_; rw [HW1.out, HE3.out]; rintro e w24 ⟨A24, n24, c24, rfl, how24, hA24, hb24⟩
      have HI24 := Lib.hid (IRow.of_own how24)
      have HA24 := Lib.hid hA24
      have HB24 := Lib.hid hb24
      clear how24 hA24 hb24
      go_wp2_with fail
      refine (HCL.out S _ _ _ _ (HI21.out.next (ibt (ibt HB22.out HB23.out) HB24.out)) HWS.out HA21.out).mono ?_; rintro e w25 ⟨A25, n25, c25, rfl, how25, hA25, hb25⟩
      have HI25 := Lib.hid (IRow.of_own how25)
      have HA25 := Lib.hid hA25
      have HB25 := Lib.hid hb25
      clear how25 hA25 hb25
      go_wp2_with fail
      refine (HTU.out S _ _ _ _ HI25.out HWS.out).mono ?_; rw [HR1.out, HE4.out]; rintro e w26 ⟨A26, n26, c26, rfl, how26, hA26, hb26⟩
      have HI26 := Lib.hid (IRow.of_own how26)
      have HA26 := Lib.hid hA26
      have HB26 := Lib.hid hb26
      clear how26 hA26 hb26
      go_upto_region 22 with fail
      go_cut [175] (fun v wx => v = .bool false ∧ Hid (Below w26.heap.size w26 wx))
      case first => as_aux_lemma =>
        rcases HC3.out with rfl | rfl <;> rcases HC4.out with rfl | rfl
        case inl.inl =>
          have HF := Lib.hid (HF1.out rfl rfl)
          have HI26' : Hid (IRow w26 w26.heap.size A26 n26 W1) := Lib.hid (by rw [← HF.out]; exact HI26.out)
          go_wp2_with fail
          refine (HEQ.out W1 _ _ _ _ _ _ _ HI26'.out (HI24.out.next (ibt HB25.out HB26.out)) HLW1.out).mono ?_; rintro e w27 ⟨rfl, hb27⟩
          have HB27 := Lib.hid hb27
          clear hb27
          go_wp2_with fail
          go_meet
          exact ⟨rfl, Lib.hid HB27.out⟩
        all_goals
          go_wp2_with fail
          go_meet
          exact ⟨rfl, Lib.hid (Below.refl _ _)⟩
      case rest =>
      obtain ⟨rfl, HBy⟩ := hcut
      have HBcc := HBy
      clear HBy
      go_wp2_with fail
      refine (HCL.out x _ _ _ _ (HI3.out.next (ibt (ibt (ibt (ibt (ibt (ibt (ibt (ibt (ibt (ibt (ibt (ibt (ibt (ibt (ibt (ibt (ibt (ibt (ibt (ibt (ibt (ibt (ibt HB4.out HB5.out) HB6.out) HB7.out) HB8.out) HB9.out) HB10.out) HB11.out) HB12.out) HB13.out) HBc.out) HB15.out) HB16.out) HB17.out) HB18.out) HB19.out) HB20.out) HB21.out) HB22.out) HB23.out) HB24.out) HB25.out) HB26.out) HBcc.out)) HWX.out HA3.out).mono ?_; rintro e w28 ⟨A28, n28, c28, rfl, how28, hA28, hb28⟩
      have HI28 := Lib.hid (IRow.of_own how28)
      have HA28 := Lib.hid hA28
      have HB28 := Lib.hid hb28
      clear how28 hA28 hb28
      go_wp2_with fail
      refine (HTU.out x _ _ _ _ HI28.out HWX.out).mono ?_; rw [HR2.out, HE5.out]; rintro e w29 ⟨A29, n29, c29, rfl, how29, hA29, hb29⟩
      have HI29 := Lib.hid (IRow.of_own how29)
      have HA29 := Lib.hid hA29
      have HB29 := Lib.hid hb29
      clear how29 hA29 hb29
      go_wp2_with fail
      refine (HTI.out U V _ _ _ _ _ _ _ (HI16.out.next (ibt (ibt (ibt (ibt (ibt (ibt (ibt (ibt (ibt (ibt (ibt (ibt HB17.out HB18.out) HB19.out) HB20.out) HB21.out) HB22.out) HB23.out) HB24.out) HB25.out) HB26.out) HBcc.out) HB28.out) HB29.out)) (HI18.out.next (ibt (ibt (ibt (ibt (ibt (ibt (ibt (ibt (ibt (ibt HB19.out HB20.out) HB21.out) HB22.out) HB23.out) HB24.out) HB25.out) HB26.out) HBcc.out) HB28.out) HB29.out)) HWU.out HWV.out).mono ?_; rw [HW2.out, HE3.out]; rintro e w30 ⟨A30, n30, c30, rfl, how30, hA30, hb30⟩
      have HI30 := Lib.hid (IRow.of_own how30)
      have HA30 := Lib.hid hA30
      have HB30 := Lib.hid hb30
      clear how30 hA30 hb30
      rcases HC5.out with rfl | rfl <;> rcases HC3.out with rfl | rfl
      case inl.inl => as_aux_lemma =>
        have HF := Lib.hid (HF2.out rfl rfl)
        have HI29' : Hid (IRow w29 w29.heap.size A29 n29 W2) := Lib.hid (by rw [← HF.out]; exact HI29.out)
        go_wp2_with fail
        refine (HEQ.out W2 _ _ _ _ _ _ _ (HI29'.out.next HB30.out) HI30.out HLW2.out).mono ?_; rintro e w31 ⟨rfl, hb31⟩
        have HB31 := Lib.hid hb31
        clear hb31
        go_wp2_with fail
        refine (awake_any _).mono ?_; rintro e w32 ⟨rfl, hb32⟩
        have HB32 := Lib.hid hb32
        clear hb32
        go_wp2_with fail
        go_ret
        exact ⟨rfl, (ibt (ibt (ibt (ibt (ibt (ibt (ibt (ibt (ibt (ibt (ibt (ibt (ibt (ibt (ibt (ibt (ibt (ibt (ibt (ibt (ibt (ibt (ibt (ibt (ibt (ibt (ibt (ibt (ibt (ibt (ibt HB1.out HB2.out) HB3.out) HB4.out) HB5.out) HB6.out) HB7.out) HB8.out) HB9.out) HB10.out) HB11.out) HB12.out) HB13.out) HBc.out) HB15.out) HB16.out) HB17.out) HB18.out) HB19.out) HB20.out) HB21.out) HB22.out) HB23.out) HB24.out) HB25.out) HB26.out) HBcc.out) HB28.out) HB29.out) HB30.out) HB31.out) HB32.out)⟩
      all_goals as_aux_lemma =>
        go_wp2_with fail
        refine (awake_any _).mono ?_; rintro e w31 ⟨rfl, hb31⟩
        have HB31 := Lib.hid hb31
        clear hb31
        go_wp2_with fail
        go_ret
        exact ⟨rfl, (ibt (ibt (ibt (ibt (ibt (ibt (ibt (ibt (ibt (ibt (ibt (ibt (ibt (ibt (ibt (ibt (ibt (ibt (ibt (ibt (ibt (ibt (ibt (ibt (ibt (ibt (ibt (ibt (ibt (ibt HB1.out HB2.out) HB3.out) HB4.out) HB5.out) HB6.out) HB7.out) HB8.out) HB9.out) HB10.out) HB11.out) HB12.out) HB13.out) HBc.out) HB15.out) HB16.out) HB17.out) HB18.out) HB19.out) HB20.out) HB21.out) HB22.out) HB23.out) HB24.out) HB25.out) HB26.out) HBcc.out) HB28.out) HB29.out) HB30.out) HB31.out)⟩
end Go.Proofs.Ytmljndjiipgpdaa
