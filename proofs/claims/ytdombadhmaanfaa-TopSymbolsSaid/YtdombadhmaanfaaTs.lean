/- TopSymbols: the walk. -/
import Derived.Test.YtdombadhmaanfaaSq
import Derived.Test.YtdombadhmaanfaaHf
import Derived.Test.YtdombadhmaanfaaEis
import Derived.Test.YtdombadhmaanfaaZo
import Derived.Deep.DeepCutAuto
namespace Go.Proofs.Ytdombadhmaanfaa
open Go Go.RowKit GhN

theorem ts_small : ∀ p, 3 ≤ p → p ≤ 13 → Pr p → p % 2 = 1 → p ∈ [3, 5, 7, 11, 13] := by
  intro p h1 h2 hp ho
  rcases (show p = 3 ∨ p = 5 ∨ p = 7 ∨ p = 9 ∨ p = 11 ∨ p = 13 by omega) with rfl | rfl | rfl | rfl | rfl | rfl
  · simp
  · simp
  · simp
  · exact absurd (hp.2 3 ⟨3, rfl⟩) (by decide)
  · simp
  · simp
theorem lp_small {p : Nat} (hp : p ∈ [3, 5, 7, 11, 13]) : lpB (p : Int) = true := by
  simp at hp
  unfold lpB
  rw [decide_eq_true_iff]
  simp
  omega
theorem pw_one {p : Nat} (hp : p ∈ [3, 5, 7, 11, 13]) : pwB (p : Int) (1 : Nat) = true := by
  unfold pwB
  rw [lp_small hp, Bool.true_and, decide_eq_true_iff]
  simp at hp ⊢
  omega
theorem pw_big {p : Int} {k : Int} (hp : 13 < p) : pwB p k = false := by
  unfold pwB lpB
  rw [decide_eq_false (by simp; omega), Bool.false_and]

set_option maxRecDepth 100000 in
set_option maxHeartbeats 1000000 in
theorem sym_no (a p k : Int) (w : World) (h : ¬ (opB 10000 p = true ∧ p ≤ 200 ∧ 0 ≤ a ∧ a < p)) :
    Calls Try.prog 13 #[.int .i64 a, .int .i64 p, .int .i64 k] w fun e w' => e = .returned (.bool true) ∧ Below w.heap.size w w' := by
  have HP := Lib.hid (fun w' => rprime_any p w')
  obtain ⟨q, hq⟩ : ∃ q, opB 10000 p = q := ⟨_, rfl⟩
  rw [hq] at HP h
  have hc : q = false ∨ (q = true ∧ 200 < p) ∨ (q = true ∧ p ≤ 200 ∧ a < 0) ∨ (q = true ∧ p ≤ 200 ∧ 0 ≤ a ∧ p ≤ a) := by
    cases q with
    | false => exact .inl rfl
    | true =>
      by_cases h1 : p ≤ 200
      · by_cases h2 : 0 ≤ a
        · by_cases h3 : a < p
          · exact absurd ⟨rfl, h1, h2, h3⟩ h
          · exact .inr (.inr (.inr ⟨rfl, h1, h2, by omega⟩))
        · exact .inr (.inr (.inl ⟨rfl, h1, by omega⟩))
      · exact .inr (.inl ⟨rfl, by omega⟩)
  clear hq h
  rcases hc with rfl | ⟨rfl, h1⟩ | ⟨rfl, h1, h2⟩ | ⟨rfl, h1, h2, h3⟩
  all_goals
    go_enter Try.func13, Try.ntmps13
    go_wp2_with fail
    refine (HP.out _).mono ?_; rintro e w1 ⟨rfl, rfl⟩
    go_wp2_with fail
    refine (signs_any _).mono ?_; rintro e w2 ⟨rfl, hb2⟩
    have HB2 := Lib.hid hb2
    clear hb2
    go_wp2_with fail
    go_ret
    exact ⟨rfl, HB2.out⟩

set_option maxRecDepth 100000 in
set_option maxHeartbeats 4000000 in
theorem sym_yes (A P : Nat) (k : Int) (w : World) (hp : opB 10000 (P : Int) = true) (hP : P ≤ 200) (hA : A < P) :
    Calls Try.prog 13 #[.int .i64 (A : Int), .int .i64 (P : Int), .int .i64 k] w fun e w' => e = .returned (.bool true) ∧ Below w.heap.size w w' := by
  have hodd : P % 2 = 1 := opB_odd hp
  have hpr : Pr P := (opB_yes hp).2.2
  have hp3 : 3 ≤ P := by have := (opB_yes hp).1; omega
  have HP : Hid (∀ w', Calls Try.prog 16 #[.int .i64 (P : Int)] w' fun e w'' => e = .returned (.bool true) ∧ w' = w'') := Lib.hid (fun w' => by have := rprime_any (P : Int) w'; rwa [hp] at this)
  obtain ⟨J, hJ⟩ : ∃ J, jn A P = J := ⟨_, rfl⟩
  have HJA : Hid (∀ w', Calls Try.prog 18 #[.int .i64 (A : Int), .int .i64 (P : Int)] w' fun e w'' => e = .returned (.tuple #[.int .i64 J, .int .i64 0]) ∧ Below w'.heap.size w' w'') := Lib.hid (fun w' => by
    have h2 := jacobi_yes (A : Int) (P : Int) w' (validB_mk ⟨by omega, by omega, by omega, by omega, by omega⟩)
    have e2 : jz (A : Int) (P : Int) = jn A P := by unfold jz; rw [Int.toNat_natCast, ji_nat]
    rw [e2, hJ] at h2
    exact h2)
  obtain ⟨X, hX⟩ : ∃ X, rtV A P = X := ⟨_, rfl⟩
  obtain ⟨E, hE⟩ : ∃ E, rtE A P = E := ⟨_, rfl⟩
  have HRO : Hid (∀ w', Calls Try.prog 20 #[.int .i64 (A : Int), .int .i64 (P : Int)] w' fun e w'' => e = .returned (.tuple #[.int .i64 (X : Int), .int .i64 E]) ∧ w' = w'') := Lib.hid (fun w' => by have := root_yes A P w' hp hA; rwa [hX, hE] at this)
  have hEJ : (E = 0 ∧ 0 ≤ J) ∨ (E = 4 ∧ J < 0) := by
    have h1 := rtE_iff A P
    have h2 := square_iff (a := A) hpr hodd
    rw [Nat.mod_eq_of_lt hA] at h2
    rw [← h1, hE, hJ] at h2
    have h3 := jn_cases A P
    rw [hJ] at h3
    rcases rtE_cases A P with h | h
    · rw [hE] at h
      have := h2.1 h
      exact .inl ⟨h, by omega⟩
    · rw [hE] at h
      refine .inr ⟨h, ?_⟩
      have : ¬ J ≠ -1 := fun h4 => by have := h2.2 h4; omega
      omega
  have HTU : Hid (1 ≤ A → ∀ w', Calls Try.prog 19 #[.int .i64 (A : Int), .int .i64 (P : Int)] w' fun e w'' => e = .returned (.tuple #[.int .i64 J, .int .i64 0]) ∧ Below w'.heap.size w' w'') := Lib.hid (fun h1 w' => by
    have hg : Nat.gcd A P = 1 := hpr.cop (by rw [Nat.mod_eq_of_lt hA]; omega)
    have h2 := turns_yes A P w' (tuB_mk (by omega) hP hA hg)
    rwa [zs_odd hodd hg, hJ] at h2)
  have HPT : Hid (∃ n e : Int, (e = 0 ∧ J = 1 - 2 * (n % 2) ∧ 0 ≤ n ∨ e = 2) ∧ ∀ w', Calls Try.prog 15 #[.int .i64 (P : Int), .int .i64 (A : Int)] w' fun x w'' => x = .returned (.tuple #[.int .i64 n, .int .i64 e]) ∧ w' = w'') := Lib.hid (by
    cases hb : ptB (P : Int) (A : Int) with
    | false => exact ⟨0, 2, .inr rfl, fun w' => points_no (P : Int) (A : Int) w' (by omega) (by omega) hb⟩
    | true =>
      have e2 : opB 200 (A : Int) = true := by unfold ptB at hb; simp only [Bool.and_eq_true] at hb; exact hb.1.2
      have hne : P ≠ A := by omega
      have hc : Nat.gcd A P = 1 := primes_cop hpr (opB_yes e2).2.2 hne
      have h5 := fl_sign (q := A) (p := P) hodd (opB_odd e2) hc
      have e3 : jz (A : Int) (P : Int) = jn A P := by unfold jz; rw [Int.toNat_natCast, ji_nat]
      rw [e3, hJ] at h5
      exact ⟨_, 0, .inl ⟨rfl, h5, by omega⟩, fun w' => points_yes P A w' hb⟩)
  have HJC : Hid (-1 ≤ J ∧ J ≤ 1) := Lib.hid (by have := jn_cases A P; rw [hJ] at this; omega)
  have HSG := Lib.hid (fun w' => signs_any w')
  have HS1 : Hid (13 < P → ∀ w', Calls Try.prog 46 #[.int .i64 (A : Int), .int .i64 (P : Int), .int .i64 1] w' fun e w'' => e = .returned (.tuple #[.slice none 0 0, .int .i64 2]) ∧ Below w'.heap.size w' w'') := Lib.hid (fun h w' => Square_no A P 1 w' (pw_big (by omega)))
  have HS2 : Hid (P ≤ 13 → ∃ D : List Int, ((D.length : Int) = 1 + J ∧ ∀ x, D[0]? = some x → x = (X : Int)) ∧ ∀ w', Calls Try.prog 46 #[.int .i64 (A : Int), .int .i64 (P : Int), .int .i64 1] w' (GivesIE w' D 0)) := Lib.hid (fun h => by
    have hm := ts_small P hp3 h hpr hodd
    refine ⟨_, ?_, fun w' => Square_yes A P 1 w' (by omega) (pw_one hm)⟩
    have := sq_first hm hA
    rwa [hJ, hX] at this)
  have HS3 : Hid (P ≤ 13 → pwB (P : Int) k = false → ∀ w', Calls Try.prog 46 #[.int .i64 (A : Int), .int .i64 (P : Int), .int .i64 k] w' fun e w'' => e = .returned (.tuple #[.slice none 0 0, .int .i64 2]) ∧ Below w'.heap.size w' w'') := Lib.hid (fun _ h w' => Square_no A P k w' h)
  have HS4 : Hid (pwB (P : Int) k = false → ∀ w' S l c, Calls Try.prog 47 #[.slice S l c, .int .i64 (P : Int), .int .i64 k] w' fun e w'' => e = .returned (.tuple #[.slice none 0 0, .int .i64 2]) ∧ Below w'.heap.size w' w'') := Lib.hid (fun h w' S l c => Roots_no S l c P k w' h)
  have HS5 : Hid (P ≤ 13 → pwB (P : Int) k = true → ∃ D : List Int, (1 ≤ A → (D.length : Int) = 1 + J) ∧ (∀ w', Calls Try.prog 46 #[.int .i64 (A : Int), .int .i64 (P : Int), .int .i64 k] w' (GivesIE w' D 0)) ∧ ∀ w' : World, Calls Try.prog 47 #[.slice (some ⟨w'.heap.size, 0, none⟩) 3 3, .int .i64 (P : Int), .int .i64 k] (w'.alloc (Obj.cells #[.int .i64 (-(A : Int)), .int .i64 0, .int .i64 1] 3)) (GivesIE (w'.alloc (Obj.cells #[.int .i64 (-(A : Int)), .int .i64 0, .int .i64 1] 3)) D 0)) := Lib.hid (fun h hk => by
    have hm := ts_small P hp3 h hpr hodd
    have hk2 := hk
    unfold pwB at hk2
    rw [Bool.and_eq_true, decide_eq_true_iff, Int.toNat_natCast] at hk2
    obtain ⟨_, hk1, _, hpk⟩ := hk2
    obtain ⟨K, rfl⟩ : ∃ K : Nat, k = K := ⟨k.toNat, by omega⟩
    rw [Int.toNat_natCast] at hpk
    refine ⟨srt (cst (rts (sqL A) P K)), fun h1 => ?_, fun w' => Square_yes A P K w' (by omega) hk, fun w' => ?_⟩
    · rw [← hJ]; exact sq_all hm hA h1 (by omega) hpk
    · exact Roots_yes _ 3 3 (sqL A) P K _ (IRow.of_own (own_lit (w := w') (base := w'.heap.size) (sqL A) (Nat.le_refl _) (show 3 ≤ maxLen by decide))) (by omega) (by omega) (fun y hy => by simp at hy; omega) 1 rfl (by decide) hk)
  clear hJ hX hE hp hpr hodd
  go_enter Try.func13, Try.ntmps13
  go_wp2_with fail
  refine (HP.out _).mono ?_; rintro e w1 ⟨rfl, rfl⟩
  go_wp2_with fail
  refine (HJA.out _).mono ?_; rintro e w2 ⟨rfl, hb2⟩
  have HB2 := Lib.hid hb2
  clear hb2
  go_wp2_with fail
  refine (HRO.out _).mono ?_; rintro e w3 ⟨rfl, rfl⟩
  go_upto_region 5 with fail
  go_cut [63] (fun v wx => v = .bool false ∧ wx = w2)
  case first => as_aux_lemma =>
    rcases hEJ with ⟨rfl, h1⟩ | ⟨rfl, h1⟩
    · go_wp2_with fail
      go_meet
      exact ⟨rfl, rfl⟩
    · have td : decide (0 ≤ J) = false := decide_eq_false (by omega)
      go_wp2_with fail
      go_meet
      exact ⟨by first | rfl | rw [td], rfl⟩
  case rest =>
  obtain ⟨rfl, rfl⟩ := hcut
  go_upto_if 65 with fail
  go_cut [] (fun wx => Hid (Below w.heap.size w wx))
  case first => as_aux_lemma =>
    by_cases hA0 : 1 ≤ A
    · have HT := Lib.hid (HTU.out hA0)
      have tJ : (J != J) = false := by simp
      go_wp2_with fail
      refine (HT.out _).mono ?_; rintro e w3 ⟨rfl, hb3⟩
      have HB3 := Lib.hid (ibt HB2.out hb3)
      clear hb3
      go_wp2_with fail
      go_meet
      exact HB3
    · have hA0' : A = 0 := by omega
      go_wp2_with fail
      go_meet
      exact HB2
  case rest =>
  have HB3 := Lib.hid hcut.out
  obtain ⟨n, e, hne, hpt⟩ := HPT.out
  have HPC := Lib.hid hpt
  clear hpt hcut
  go_wp2_with fail
  refine (HPC.out _).mono ?_; rintro e' w3 ⟨rfl, rfl⟩
  go_upto_region 12 with fail
  go_cut [94] (fun v wx => v = .bool false ∧ Hid (Below w.heap.size w wx))
  case first => as_aux_lemma =>
    rcases hne with ⟨rfl, h1, h2⟩ | rfl
    · have tn : (J != 1 - 2 * (n % 2)) = false := by rw [h1]; simp
      have HH := Lib.hid h1
      clear h1
      go_wp2_with fail
      go_meet
      exact ⟨rfl, HB3⟩
    · go_wp2_with fail
      go_meet
      exact ⟨rfl, HB3⟩
  case rest =>
  obtain ⟨rfl, HB4⟩ := hcut
  by_cases hs : P ≤ 13
  case neg =>
    have hs' : (13 : Int) < (P : Int) := by omega
    have HSQ := Lib.hid (HS1.out (by omega))
    go_wp2_with fail
    refine (HSQ.out _).mono ?_; rintro e' w4 ⟨rfl, hb4⟩
    have HB5 := Lib.hid (ibt HB4.out hb4)
    clear hb4
    go_wp2_with fail
    refine (HSG.out _).mono ?_; rintro e' w5 ⟨rfl, hb5⟩
    have HB6 := Lib.hid (ibt HB5.out hb5)
    clear hb5
    go_wp2_with fail
    go_ret
    exact ⟨rfl, HB6.out⟩
  case pos =>
  obtain ⟨D, ⟨hD1, hD2⟩, hsq⟩ := HS2.out hs
  have HSQ := Lib.hid hsq
  have HD1 := Lib.hid hD1
  have HD2 := Lib.hid hD2
  clear hD1 hD2 hsq
  go_wp2_with fail
  refine (HSQ.out _).mono ?_; rintro e' w4 ⟨A1, n1, c1, rfl, ho, hnil, hb4⟩
  have HB5 := Lib.hid (ibt HB4.out hb4)
  have HIR := Lib.hid (IRow.of_own ho)
  have HL1 : Hid ((n1 : Int) = 1 + J) := Lib.hid (by rw [ho.len]; exact HD1.out)
  clear ho hnil hb4
  go_upto_region 17 with fail
  go_cut [128] (fun v wx => v = .bool false ∧ Hid (Below w.heap.size w wx))
  case first => as_aux_lemma =>
    have t1 : ((n1 : Int) != 1 + J) = false := by rw [bne_eq_false_iff_eq]; exact HL1.out
    obtain ⟨j1, j2⟩ := HJC.out
    by_cases hn : n1 = 0
    · subst hn
      obtain rfl : J = -1 := by have := HL1.out; omega
      clear t1
      go_wp2_with fail
      go_meet
      exact ⟨rfl, HB5⟩
    · obtain ⟨b, off, x, hx, rfl, hB, g0⟩ := HIR.out.at_ (k := 0) (by omega)
      obtain rfl : x = (X : Int) := HD2.out x hx
      rw [Nat.add_zero] at g0
      have tX : ((X : Int) != (X : Int)) = false := by simp
      have hn1 : (0 : Int) < (n1 : Int) := by omega
      clear hx
      go_wp2_with fail
      go_meet
      exact ⟨rfl, HB5⟩
  case rest =>
  obtain ⟨rfl, HB6⟩ := hcut
  have hA200 : (A : Int) ≤ 200 := by omega
  cases hpw : pwB (P : Int) k with
  | false =>
    have HR4 := Lib.hid (HS4.out hpw)
    have HR3 := Lib.hid (HS3.out hs hpw)
    clear hpw
    go_wp2_with fail
    refine (HR4.out _ _ _ _).mono ?_; rintro e' w5 ⟨rfl, hb5⟩
    have HB7 := Lib.hid (ibt (HB6.out.alloc HB6.out.size _) hb5)
    clear hb5
    go_wp2_with fail
    refine (HR3.out _).mono ?_; rintro e' w6 ⟨rfl, hb6⟩
    have HB8 := Lib.hid (ibt HB7.out hb6)
    clear hb6
    go_wp2_with fail
    refine (HSG.out _).mono ?_; rintro e' w7 ⟨rfl, hb7⟩
    have HB9 := Lib.hid (ibt HB8.out hb7)
    clear hb7
    go_wp2_with fail
    go_ret
    exact ⟨rfl, HB9.out⟩
  | true =>
    obtain ⟨D2, hd1, hd2, hd3⟩ := HS5.out hs hpw
    have HQ1 := Lib.hid hd1
    have HQ2 := Lib.hid hd2
    have HQ3 := Lib.hid hd3
    clear hpw hd1 hd2 hd3
    go_wp2_with fail
    refine (HQ3.out _).mono ?_; rintro e' w5 ⟨A5, n5, c5, rfl, ho5, _, hb5⟩
    have HB7 := Lib.hid (ibt (HB6.out.alloc HB6.out.size _) hb5)
    have HL5 := Lib.hid ho5.len
    clear hb5 ho5
    go_wp2_with fail
    refine (HQ2.out _).mono ?_; rintro e' w6 ⟨A6, n6, c6, rfl, ho6, _, hb6⟩
    have HB8 := Lib.hid (ibt HB7.out hb6)
    obtain rfl : n5 = n6 := HL5.out.trans ho6.len.symm
    clear hb6 ho6
    have tn : ((n5 : Int) == (n5 : Int)) = true := beq_self_eq_true _
    obtain ⟨j1, j2⟩ := HJC.out
    by_cases hA0 : A = 0
    · subst hA0
      go_wp2_with fail
      refine (HSG.out _).mono ?_; rintro e' w7 ⟨rfl, hb7⟩
      have HB9 := Lib.hid (ibt HB8.out hb7)
      clear hb7
      go_wp2_with fail
      go_ret
      exact ⟨rfl, HB9.out⟩
    · have tA : ((A : Int) == 0) = false := by rw [beq_eq_false_iff_ne]; omega
      have tA2 : ¬ (A = 0) := hA0
      have tl : ((n5 : Int) == 1 + J) = true := by
        rw [beq_iff_eq, HL5.out]; exact HQ1.out (by omega)
      go_wp2_with fail
      refine (HSG.out _).mono ?_; rintro e' w7 ⟨rfl, hb7⟩
      have HB9 := Lib.hid (ibt HB8.out hb7)
      clear hb7
      go_wp2_with fail
      go_ret
      exact ⟨rfl, HB9.out⟩

theorem sym_walk (a p k : Int) (w : World) :
    Calls Try.prog 13 #[.int .i64 a, .int .i64 p, .int .i64 k] w fun e w' => e = .returned (.bool true) ∧ Below w.heap.size w w' := by
  by_cases h : opB 10000 p = true ∧ p ≤ 200 ∧ 0 ≤ a ∧ a < p
  · obtain ⟨h1, h2, h3, h4⟩ := h
    obtain ⟨P, rfl⟩ : ∃ P : Nat, p = P := ⟨p.toNat, by omega⟩
    obtain ⟨A, rfl⟩ : ∃ A : Nat, a = A := ⟨a.toNat, by omega⟩
    exact sym_yes A P k w h1 (by omega) (by omega)
  · exact sym_no a p k w h
end Go.Proofs.Ytdombadhmaanfaa
