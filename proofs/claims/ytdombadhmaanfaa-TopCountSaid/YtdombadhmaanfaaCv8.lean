/- TopCount: the walk at a valid curve. -/
import Derived.Test.YtdombadhmaanfaaCv7
namespace Go.Proofs.Ytdombadhmaanfaa
open Go Go.RowKit GhN Go.Maps

set_option maxRecDepth 100000 in
set_option maxHeartbeats 2000000 in
theorem count_yes (P A B : Nat) (w : World) (hP : P ∈ smallP) (hA : A < P) (hB : B < P) (hd : dsc A B % P ≠ 0) : Calls Try.prog 11 #[crv P A B] w fun e w' => e = .returned (.bool true) ∧ Below w.heap.size w w' := by
  have hpr := smallP_pr hP
  obtain ⟨hb1, hb2, hb3⟩ := smallP_bd P hP
  obtain ⟨u, hu⟩ := ex_least hpr hb3
  have hu1 : 2 ≤ u := hu.1
  have hu2 : u < P := hu.2.1
  have hvc : vcB (P : Int) A B = true := by
    unfold vcB
    rw [p9_mk hP, Bool.true_and, decide_eq_true_iff, Int.toNat_natCast, Int.toNat_natCast, Int.toNat_natCast]
    omega
  have HV : Hid (∀ w', Calls Try.prog 40 #[crv P A B] w' fun e w'' => e = .returned (.bool true) ∧ Below w'.heap.size w' w'') := Lib.hid (fun w' => by have := rvalid9_any P A B w'; rwa [hvc] at this)
  have HJ : Hid (∀ x w', x < P → Calls Try.prog 18 #[.int .i64 ((x : Nat) * x * x + A * x + B : Int), .int .i64 (P : Int)] w' fun e w'' => e = .returned (.tuple #[.int .i64 (jn (cub A B x) P), .int .i64 0]) ∧ Below w'.heap.size w' w'') := Lib.hid (fun x w' hx => by
    have e : ((x : Nat) * x * x + A * x + B : Int) = ((cub A B x : Nat) : Int) := by unfold cub; push_cast; rfl
    have b3 := mulbd (x := (x : Int)) (y := (x : Int)) (a := 30) (b := 30) (by omega) (by omega) (by omega) (by omega)
    have b4 := mulbd (y := (x : Int)) (b := 30) b3.1 b3.2 (by omega) (by omega)
    have b5 := mulbd (x := (A : Int)) (y := (x : Int)) (a := 30) (b := 30) (by omega) (by omega) (by omega) (by omega)
    have h2 := jacobi_yes ((cub A B x : Nat) : Int) (P : Int) w' (validB_mk ⟨by omega, by omega, by omega, by omega, by omega⟩)
    have e2 : jz ((cub A B x : Nat) : Int) (P : Int) = jn (cub A B x) P := by unfold jz; rw [Int.toNat_natCast, ji_nat]
    rw [e2] at h2
    rw [e]
    exact h2)
  have HPT : Hid (∀ w', Calls Try.prog 42 #[crv P A B] w' fun e w'' => (∃ Ad c, e = .returned (.tuple #[.slice Ad ((npt P A B + 1 : Nat) : Nat) c, .int .i64 0])) ∧ Below w'.heap.size w' w'') := Lib.hid (fun w' => cPoints_yes P A B w' hP hA hB hd)
  have HLE : Hid (∀ w', Calls Try.prog 21 #[.int .i64 (P : Int)] w' fun e w'' => e = .returned (.tuple #[.int .i64 (u : Int), .int .i64 0]) ∧ Below w'.heap.size w' w'') := Lib.hid (fun w' => least_yes P u w' (opB_mk (by omega) (by omega) (by rw [Int.toNat_natCast]; exact hpr)) hu)
  have HTW : Hid (∀ w', Calls Try.prog 43 #[crv P A B] w' fun e w'' => e = .returned (.tuple #[crv P ((A * u * u % P : Nat) : Nat) ((B * u * u * u % P : Nat) : Nat), .int .i64 0]) ∧ Below w'.heap.size w' w'') := Lib.hid (fun w' => twist_yes P A B u w' hP hA hB hd hu)
  have hA1l := Nat.mod_lt (A * u * u) (show 0 < P by omega)
  have hB1l := Nat.mod_lt (B * u * u * u) (show 0 < P by omega)
  have HPT2 : Hid (∀ w', Calls Try.prog 42 #[crv P ((A * u * u % P : Nat) : Nat) ((B * u * u * u % P : Nat) : Nat)] w' fun e w'' => (∃ Ad c, e = .returned (.tuple #[.slice Ad ((npt P (A * u * u % P) (B * u * u * u % P) + 1 : Nat) : Nat) c, .int .i64 0])) ∧ Below w'.heap.size w' w'') := Lib.hid (fun w' => cPoints_yes P _ _ w' hP hA1l hB1l (dsc_twist hP hu.2.2.1 hd))
  have hsum := npt_twist (A := A) (B := B) hP hu.2.2.1
  have hJ := npt_eq hP A B
  have eA : (A : Int) * (u : Int) * (u : Int) % (P : Int) = ((A * u * u % P : Nat) : Int) := by push_cast; rfl
  have eB : (B : Int) * (u : Int) * (u : Int) * (u : Int) % (P : Int) = ((B * u * u * u % P : Nat) : Int) := by push_cast; rfl
  obtain ⟨A1, hA1⟩ : ∃ A1, A * u * u % P = A1 := ⟨_, rfl⟩
  obtain ⟨B1, hB1⟩ : ∃ B1, B * u * u * u % P = B1 := ⟨_, rfl⟩
  rw [hA1] at HTW HPT2 hsum eA hA1l
  rw [hB1] at HTW HPT2 hsum eB hB1l
  obtain ⟨N, hN⟩ : ∃ N, npt P A B = N := ⟨_, rfl⟩
  obtain ⟨M, hM⟩ : ∃ M, npt P A1 B1 = M := ⟨_, rfl⟩
  rw [hN] at HPT hsum hJ
  rw [hM] at HPT2 hsum
  have HJB := Lib.hid (fun k => jsum_bd P A B k)
  have HJS : Hid (∀ k, jsum P A B (k + 1) = jsum P A B k + jn (cub A B k) P) := Lib.hid (fun k => rfl)
  have HJC := Lib.hid (fun k => jn_cases (cub A B k) P)
  have HEA := Lib.hid eA
  have HEB := Lib.hid eB
  have HNJ := Lib.hid hJ
  have HSM := Lib.hid hsum
  clear hP hA1 hB1 hu hd hpr hvc hN hM eA eB hJ hsum
  go_enter Try.func11, Try.ntmps11
  go_wp2_with fail
  refine (HV.out _).mono ?_; rintro e w1 ⟨rfl, hb⟩
  have HW1 : Hid (Below (rcW w P A B).heap.size (rcW w P A B) w1) := Lib.hid hb
  obtain ⟨c0, c1, c2⟩ := rcW_cells HW1.out
  clear hb
  go_wp2_with fail
  clear c0 c1 c2
  go_loopw [3, 20] (fun s x wr => ∃ k : Nat, ∃ J : Int, k ≤ P ∧ Hid (Below (rcW w P A B).heap.size (rcW w P A B) wr) ∧ Hid (jsum P A B k = J) ∧ -31 ≤ J ∧ J ≤ 31 ∧ s = .int .i64 J ∧ x = .int .i64 (k : Int)) (fun _ x _ => P - (intOf x).toNat)
  case atStart => exact ⟨0, 0, by omega, HW1, Lib.hid rfl, by omega, by omega, rfl, rfl⟩
  case round =>
    obtain ⟨k, J, hk, hw, hj, hj1, hj2, rfl, rfl⟩ := hrel
    obtain ⟨c0, c1, c2⟩ := rcW_cells hw.out
    by_cases hlt : k < P
    · have hlti : (k : Int) < (P : Int) := by omega
      obtain ⟨a1, a2⟩ := mulbd (x := (k : Int)) (y := (k : Int)) (a := 30) (b := 30) (by omega) (by omega) (by omega) (by omega)
      obtain ⟨a3, a4⟩ := mulbd (y := (k : Int)) (b := 30) a1 a2 (by omega) (by omega)
      obtain ⟨a5, a6⟩ := mulbd (x := (A : Int)) (y := (k : Int)) (a := 30) (b := 30) (by omega) (by omega) (by omega) (by omega)
      have HCALL := Lib.hid (fun w' => HJ.out k w' hlt)
      obtain ⟨q, hq⟩ : ∃ q, jn (cub A B k) P = q := ⟨_, rfl⟩
      have hqc := HJC.out k
      have hbd := HJB.out (k + 1)
      rw [HJS.out, hj.out, hq] at hbd
      rw [hq] at HCALL hqc
      have HN : Hid (jsum P A B (k + 1) = J + q) := Lib.hid (by rw [HJS.out, hj.out, hq])
      have hq1 : -1 ≤ q := by rcases hqc with h | h | h <;> omega
      have hq2 : q ≤ 1 := by rcases hqc with h | h | h <;> omega
      have hq3 : -31 ≤ J + q := by omega
      have hq4 : J + q ≤ 31 := by omega
      clear hq hqc hbd
      go_wp2_with fail
      refine (HCALL.out _).mono ?_; rintro e w2 ⟨rfl, hb2⟩
      have HW2 := Lib.hid (pbt hw.out hb2)
      obtain ⟨d0, d1, d2⟩ := rcW_cells HW2.out
      clear hb2 c0 c1 c2
      go_wp2_with fail
      go_roundw
      case rel => exact ⟨k + 1, J + q, by omega, HW2, HN, hq3, hq4, rfl, by go_num⟩
      case measure => simp [intOf]; omega
    · have hkP : k = P := by omega
      subst hkP
      have hNJ : (N : Int) = k + J := by rw [← hj.out]; exact HNJ.out
      have hMN := HSM.out
      have hN62 : N ≤ 62 := by omega
      have hM62 : M ≤ 62 := by omega
      have tk : ¬ (k : Int) ≤ (u : Int) := by omega
      have tu : ¬ (u : Int) < 2 := by omega
      have tl : ((N : Int) + 1 != (k : Int) + 1 + J) = false := by rw [bne_eq_false_iff_eq]; omega
      have tm : ((M : Int) + 1 == (k : Int) + 1 - J) = true := by rw [beq_iff_eq]; omega
      have HTL := Lib.hid hNJ
      clear hNJ hMN
      go_wp2_with fail
      refine (HPT.out _).mono ?_; rintro e w2 ⟨⟨Ad, c, rfl⟩, hb2⟩
      have HW2 := Lib.hid (pbt hw.out hb2)
      obtain ⟨d0, d1, d2⟩ := rcW_cells HW2.out
      clear hb2 c0 c1 c2
      go_wp2_with fail
      refine (HLE.out _).mono ?_; rintro e w3 ⟨rfl, hb3⟩
      have HW3 := Lib.hid (pbt HW2.out hb3)
      obtain ⟨e0, e1, e2⟩ := rcW_cells HW3.out
      clear hb3 d0 d1 d2
      go_wp2_with fail
      refine (HTW.out _).mono ?_; rintro e w4 ⟨rfl, hb4⟩
      have hw4 := pbt HW3.out hb4
      have HW4 := Lib.hid hw4
      have hw5 := pbt hw4 ((Below.refl w4.heap.size w4).alloc (Nat.le_refl _) (Obj.cells #[.int .i64 (k : Int), .int .i64 (A1 : Int), .int .i64 (B1 : Int)] 57))
      have HW5 := Lib.hid hw5
      obtain ⟨f0, f1, f2⟩ := rcW_cells hw4
      obtain ⟨g0, g1, g2⟩ := rcW_cells hw5
      clear hb4 hw4 hw5 e0 e1 e2
      go_wp2_with fail
      refine (HPT2.out _).mono ?_; rintro e w6 ⟨⟨Ad2, c2, rfl⟩, hb6⟩
      have hlt6 : w4.heap.size < (w4.alloc (Obj.cells #[.int .i64 (k : Int), .int .i64 (A1 : Int), .int .i64 (B1 : Int)] 57)).heap.size := by simp
      have HT6 : Hid (∀ w', Below w6.heap.size w6 w' → w'.cell? ⟨w4.heap.size, 0, none⟩ = some (.int .i64 (k : Int)) ∧ w'.cell? ⟨w4.heap.size, 1, none⟩ = some (.int .i64 (A1 : Int)) ∧ w'.cell? ⟨w4.heap.size, 2, none⟩ = some (.int .i64 (B1 : Int))) := Lib.hid (fun w' hb' => by
        have hb7 := pbt hb6 hb'
        exact ⟨(hb7.cell (p := ⟨w4.heap.size, 0, none⟩) hlt6).trans (by simp), (hb7.cell (p := ⟨w4.heap.size, 1, none⟩) hlt6).trans (by simp), (hb7.cell (p := ⟨w4.heap.size, 2, none⟩) hlt6).trans (by simp)⟩)
      have HW6 := Lib.hid (pbt HW5.out hb6)
      obtain ⟨i0, i1, i2⟩ := rcW_cells HW6.out
      obtain ⟨j0, j1, j2⟩ := HT6.out _ (Below.refl _ _)
      clear hb6 hlt6 f0 f1 f2 g0 g1 g2
      go_wp2_with fail
      have m1 := mulbd (x := (A : Int)) (y := (u : Int)) (a := 30) (b := 30) (by omega) (by omega) (by omega) (by omega)
      have m2 := mulbd (y := (u : Int)) (b := 30) m1.1 m1.2 (by omega) (by omega)
      have m3 := mulbd (x := (B : Int)) (y := (u : Int)) (a := 30) (b := 30) (by omega) (by omega) (by omega) (by omega)
      have m4 := mulbd (y := (u : Int)) (b := 30) m3.1 m3.2 (by omega) (by omega)
      have m5 := mulbd (y := (u : Int)) (b := 30) m4.1 m4.2 (by omega) (by omega)
      obtain ⟨m1a, m1b⟩ := m1
      obtain ⟨m2a, m2b⟩ := m2
      obtain ⟨m3a, m3b⟩ := m3
      obtain ⟨m4a, m4b⟩ := m4
      obtain ⟨m5a, m5b⟩ := m5
      have k0 : (0 : Int) < (k : Int) := by omega
      have kz : ((k : Int) == 0) = false := by rw [beq_eq_false_iff_ne]; omega
      have kz2 : ¬ k = 0 := by omega
      have s1 : IntKind.i64.wrap ((A : Int) * (u : Int)) = (A : Int) * (u : Int) := IntWalk.i64_in _ (by omega)
      have s2 : IntKind.i64.wrap ((A : Int) * (u : Int) * (u : Int)) = (A : Int) * (u : Int) * (u : Int) := IntWalk.i64_in _ (by omega)
      have s3 : IntKind.i64.wrap ((B : Int) * (u : Int)) = (B : Int) * (u : Int) := IntWalk.i64_in _ (by omega)
      have s4 : IntKind.i64.wrap ((B : Int) * (u : Int) * (u : Int)) = (B : Int) * (u : Int) * (u : Int) := IntWalk.i64_in _ (by omega)
      have s5 : IntKind.i64.wrap ((B : Int) * (u : Int) * (u : Int) * (u : Int)) = (B : Int) * (u : Int) * (u : Int) * (u : Int) := IntWalk.i64_in _ (by omega)
      have s6 : IntKind.i64.wrap ((k : Int) + 1) = (k : Int) + 1 := IntWalk.i64_in _ (by omega)
      have s7 : IntKind.i64.wrap ((k : Int) + 1 - J) = (k : Int) + 1 - J := IntWalk.i64_in _ (by omega)
      have r1 : ((A : Int) * (u : Int) * (u : Int)).tmod (k : Int) = (A1 : Int) := by rw [Int.tmod_eq_emod_of_nonneg m2a]; exact HEA.out
      have r2 : ((B : Int) * (u : Int) * (u : Int) * (u : Int)).tmod (k : Int) = (B1 : Int) := by rw [Int.tmod_eq_emod_of_nonneg m5a]; exact HEB.out
      have q1 : ((k : Int) == (k : Int)) = true := beq_self_eq_true _
      have q2 : ((A1 : Int) == (A1 : Int)) = true := beq_self_eq_true _
      have q3 : ((B1 : Int) == (B1 : Int)) = true := beq_self_eq_true _
      have hz0 : ((0 : Int) == 0) = true := rfl
      clear m1a m1b m2a m2b m3a m3b m4a m4b m5a m5b tk tu tl hj1 hj2 hN62 hM62
      go_region_held3 (fun w' => (w'.cell? ⟨w.heap.size, 0, none⟩ = some (.int .i64 (k : Int)) ∧ w'.cell? ⟨w.heap.size, 1, none⟩ = some (.int .i64 (A : Int)) ∧ w'.cell? ⟨w.heap.size, 2, none⟩ = some (.int .i64 (B : Int))) ∧ w'.cell? ⟨w4.heap.size, 0, none⟩ = some (.int .i64 (k : Int)) ∧ w'.cell? ⟨w4.heap.size, 1, none⟩ = some (.int .i64 (A1 : Int)) ∧ w'.cell? ⟨w4.heap.size, 2, none⟩ = some (.int .i64 (B1 : Int))) (first | exact ⟨⟨i0, i1, i2⟩, j0, j1, j2⟩ | exact ⟨⟨ka0, ka1, ka2⟩, kb0, kb1, kb2⟩ | go_keep)
        (first
        | (go_at_call 41; refine (bends_true _).mono ?_; rintro e wa ⟨rfl, hba⟩; have hbz := pbt (Below.refl w6.heap.size w6).drew hba; obtain ⟨ka0, ka1, ka2⟩ := rcW_cells (pbt HW6.out hbz); obtain ⟨kb0, kb1, kb2⟩ := HT6.out _ hbz; have HBZ := Lib.hid hbz; clear hba hbz))
      all_goals
        go_wp2_with fail
        go_ret
        exact ⟨rfl, pbt ((Below.refl _ _).alloc (Nat.le_refl _) _) (pbt HW6.out HBZ.out)⟩

theorem count_walk (p a b : Int) (w : World) : Calls Try.prog 11 #[crv p a b] w fun e w' => e = .returned (.bool true) ∧ Below w.heap.size w w' := by
  cases h : vcB p a b with
  | false => exact count_no p a b w h
  | true =>
    obtain ⟨P, A, B, rfl, rfl, rfl, hP, hA, hB, hd⟩ := vc_yes h
    exact count_yes P A B w hP hA hB hd
end Go.Proofs.Ytdombadhmaanfaa

