/- Curves: the twist. -/
import Derived.Test.YtdombadhmaanfaaCv5
import Derived.Test.YtdombadhmaanfaaAg3
namespace Go.Proofs.Ytdombadhmaanfaa
open Go Go.RowKit GhN Go.Maps

abbrev sqOwn (w : World) (B k P : Nat) : Prop := w.ownsMap Try.prog 3 (plainElem Try.prog 4) B k (sqD P k)

theorem least_sq {P n : Nat} (hP : P ∈ smallP) (h : IsLeast P n) : sqH P P n = false ∧ ∀ d, 2 ≤ d → d < n → sqH P P d = true := by
  have hp := smallP_pr hP
  have hb := smallP_bd P hP
  obtain ⟨h1, h2, h3, h4⟩ := h
  have key : ∀ d, d < P → (sqH P P d = true ↔ jn d P ≠ -1) := fun d hd => by
    rw [sqH_iff, ← square_iff hp hb.2.2, Nat.mod_eq_of_lt hd]
  refine ⟨?_, fun d hd1 hd2 => (key d (by omega)).2 (h4 d hd1 hd2)⟩
  cases hh : sqH P P n with
  | false => rfl
  | true => exact absurd h3 ((key n h2).1 hh)

set_option maxRecDepth 100000 in
set_option maxHeartbeats 2000000 in
theorem twist_yes (P A B u : Nat) (w : World) (hP : P ∈ smallP) (hA : A < P) (hB : B < P) (hd : dsc A B % P ≠ 0) (hu : IsLeast P u) :
    Calls Try.prog 43 #[crv P A B] w fun e w' => e = .returned (.tuple #[crv P ((A * u * u % P : Nat) : Nat) ((B * u * u * u % P : Nat) : Nat), .int .i64 0]) ∧ Below w.heap.size w w' := by
  have HV : Hid (∀ w', Calls Try.prog 64 #[crv P A B] w' fun e w'' => e = .returned (.bool true) ∧ Below w'.heap.size w' w'') := Lib.hid (fun w' => cvalid_yes P A B w' hP hA hB hd)
  have hb := smallP_bd P hP
  obtain ⟨hb1, hb2, _⟩ := hb
  have hu1 : 2 ≤ u := hu.1
  have hu2 : u < P := hu.2.1
  have HLS := Lib.hid (least_sq hP hu)
  have m1 := mulbd (x := (A : Int)) (y := (u : Int)) (a := 30) (b := 30) (by omega) (by omega) (by omega) (by omega)
  have m2 := mulbd (y := (u : Int)) (b := 30) m1.1 m1.2 (by omega) (by omega)
  have m3 := mulbd (x := (B : Int)) (y := (u : Int)) (a := 30) (b := 30) (by omega) (by omega) (by omega) (by omega)
  have m4 := mulbd (y := (u : Int)) (b := 30) m3.1 m3.2 (by omega) (by omega)
  have m5 := mulbd (y := (u : Int)) (b := 30) m4.1 m4.2 (by omega) (by omega)
  have eA : (A : Int) * (u : Int) * (u : Int) % (P : Int) = ((A * u * u % P : Nat) : Int) := by push_cast; rfl
  have eB : (B : Int) * (u : Int) * (u : Int) * (u : Int) % (P : Int) = ((B * u * u * u % P : Nat) : Int) := by push_cast; rfl
  have HMA : Hid (∀ w', Calls Try.prog 66 #[crv P A B, .int .i64 ((A : Int) * (u : Int) * (u : Int))] w' fun e w'' => e = .returned (.int .i64 ((A * u * u % P : Nat) : Int)) ∧ Below w'.heap.size w' w'') := Lib.hid (fun w' => by rw [← eA]; exact cmod_any P A B _ w' hb1 hb2 (by omega) (by omega))
  have HMB : Hid (∀ w', Calls Try.prog 66 #[crv P A B, .int .i64 ((B : Int) * (u : Int) * (u : Int) * (u : Int))] w' fun e w'' => e = .returned (.int .i64 ((B * u * u * u % P : Nat) : Int)) ∧ Below w'.heap.size w' w'') := Lib.hid (fun w' => by rw [← eB]; exact cmod_any P A B _ w' hb1 hb2 (by omega) (by omega))
  obtain ⟨m1a, m1b⟩ := m1
  obtain ⟨m2a, m2b⟩ := m2
  obtain ⟨m3a, m3b⟩ := m3
  obtain ⟨m4a, m4b⟩ := m4
  obtain ⟨m5a, m5b⟩ := m5
  obtain ⟨A1, hA1⟩ : ∃ A1, A * u * u % P = A1 := ⟨_, rfl⟩
  obtain ⟨B1, hB1⟩ : ∃ B1, B * u * u * u % P = B1 := ⟨_, rfl⟩
  rw [hA1] at HMA ⊢
  rw [hB1] at HMB ⊢
  have hmm := @run_makeMap Try.prog
  clear hP hd hu eA eB hA1 hB1
  go_enter Try.func43, Try.ntmps43
  go_wp2_with fail
  refine (HV.out _).mono ?_; rintro e w1 ⟨rfl, hv1⟩
  have HB1 := Lib.hid (pbt (((Below.refl w.heap.size w).alloc (Nat.le_refl _) (Obj.cells #[.int .i64 (P : Int), .int .i64 (A : Int), .int .i64 (B : Int)] 57)).alloc (by simp) (Obj.cells #[.int .i64 0, .int .i64 0, .int .i64 0] 57)) hv1)
  have hra : RatBox w1 w.heap.size P A B := RatBox.below ⟨by simp, by simp, by simp, by simp, by simp, by simp, by simp <;> omega⟩ hv1
  have hrb : RatBox w1 (w.heap.size + 1) 0 0 0 := RatBox.below ⟨by simp, by simp, by simp, by simp, by simp, by simp, by simp <;> omega⟩ hv1
  have HRA := Lib.hid hra
  have HRB := Lib.hid hrb
  have hsz : w.heap.size + 1 < w1.heap.size := hrb.2.2.2.2.2.2
  clear hv1 hra hrb
  have HOW : Hid (sqOwn (w1.alloc (Obj.map #[] 0)) w1.heap.size 0 P) := Lib.hid (World.ownsMap_made w1 _ _ _)
  have HA0 : Hid (RatBox (w1.alloc (Obj.map #[] 0)) w.heap.size P A B) := Lib.hid (HRA.out.below ((Below.refl _ _).alloc (Nat.le_refl _) _))
  have HR0 : Hid (RatBox (w1.alloc (Obj.map #[] 0)) (w.heap.size + 1) 0 0 0) := Lib.hid (HRB.out.below ((Below.refl _ _).alloc (Nat.le_refl _) _))
  have HB2 : Hid (Below w.heap.size w (w1.alloc (Obj.map #[] 0))) := Lib.hid (HB1.out.alloc (by omega) _)
  obtain ⟨c1, c2, c3, _⟩ := HRA.out
  obtain ⟨d1, d2, d3, _⟩ := HA0.out
  go_wp2_with fail
  clear hmm c1 c2 c3 d1 d2 d3
  go_loopw [14] (fun z wr => ∃ k : Nat, k ≤ P ∧ z = .int .i64 (k : Int) ∧ Hid (sqOwn wr w1.heap.size k P) ∧ Hid (RatBox wr w.heap.size P A B) ∧ Hid (RatBox wr (w.heap.size + 1) 0 0 0) ∧ Hid (Below w.heap.size w wr)) (fun z _ => P - (intOf z).toNat)
  case atStart => exact ⟨0, by omega, rfl, HOW, HA0, HR0, HB2⟩
  case round =>
    obtain ⟨k, hk, rfl, how, hra, hrb, hbw⟩ := hrel
    obtain ⟨c1, c2, c3, f1, f2, f3, hlt⟩ := hra.out
    obtain ⟨r1, r2, r3, s1, s2, s3, hltr⟩ := hrb.out
    by_cases hkP : k < P
    · have hki : (k : Int) < (P : Int) := by omega
      have hkm : k < maxLen := by unfold maxLen; omega
      obtain ⟨k1, k2⟩ := mulbd (x := (k : Int)) (y := (k : Int)) (a := 30) (b := 30) (by omega) (by omega) (by omega) (by omega)
      have HKEY : Hid (keyOf Try.prog 3 (.int .i64 ((k : Int) * (k : Int) % (P : Int))) = some (.int .i64 ((k * k % P : Nat) : Int))) := Lib.hid (by
        have e : (k : Int) * (k : Int) % (P : Int) = ((k * k % P : Nat) : Int) := by push_cast; rfl
        rw [e]
        have := Nat.mod_lt (k * k) (show 0 < P by omega)
        exact kkey (by omega))
      have HVAL : Hid (plainElem (H := Unit) Try.prog 4 (.bool true) = some (.lit (.bool true), [])) := Lib.hid (plainElem_bool Try.underlying4 true)
      go_wp2_with (at_mapUpdate; refine wpList_mapUpdate_own _ rfl _ _ _ 84 rfl 3 4 ikeyed Try.underlying84 _ w1.heap.size k (sqD P k) rfl how.out hkm _ _ _ rfl rfl HKEY.out _ [] HVAL.out ?_; intro w2 hown2 hgrow2; have HO2 := Lib.hid hown2; have HG2 := Lib.hid hgrow2; clear hown2 hgrow2 c1 c2 c3 f1 f2 f3 r1 r2 r3 s1 s2 s3)
      go_roundw
      case rel =>
        exact ⟨k + 1, by omega, by go_num, Lib.hid HO2.out, Lib.hid (agGrow hra.out HG2.out (by omega)), Lib.hid (agGrow hrb.out HG2.out (by omega)), Lib.hid (hbw.out.grown HG2.out (by omega) (fun k e => by injection e with e; omega))⟩
      case measure => simp [intOf]; omega
    · have hkP2 : k = P := by omega
      subst hkP2
      have HAT : Hid (∀ x, x ≤ 1000 → (sqD k k).atKey (.int .i64 ((x : Nat) : Int)) (.lit (.bool false)) = .lit (.bool (sqH k k x))) := Lib.hid (fun x hx => sqD_at (by omega) hb2 hx k)
      have HRA2 := Lib.hid hra.out
      have HRB2 := Lib.hid hrb.out
      clear hra hrb
      go_wp2_with fail
      go_loop [6] (fun z => ∃ v : Nat, 2 ≤ v ∧ v ≤ u ∧ z = .int .i64 (v : Int)) (fun z => u - (intOf z).toNat)
      case atStart => exact ⟨2, by omega, by omega, rfl⟩
      case round =>
        obtain ⟨v, hv1, hv2, rfl⟩ := hrel
        have HKEY : Hid (keyOf Try.prog 3 (.int .i64 (v : Int)) = some (.int .i64 (v : Int))) := Lib.hid (kkey (by omega))
        by_cases hvu : v < u
        · have HH : Hid ((sqD k k).atKey (.int .i64 ((v : Nat) : Int)) (.lit (.bool false)) = .lit (.bool true)) := Lib.hid (by rw [HAT.out v (by omega), HLS.out.2 v hv1 hvu])
          go_wp2_with (at_lookup; refine wpList_lookup_own_bool _ rfl _ _ _ rfl 3 4 ikeyed Try.underlying84 Try.underlying4 (zeroB _) w1.heap.size k (sqD k k) rfl how.out _ _ rfl HKEY.out ?_; intro c hat; obtain rfl : c = true := litb_eq (HH.out.symm.trans hat); clear hat)
          go_round
          case rel => exact ⟨v + 1, by omega, by omega, by go_num⟩
          case measure => simp [intOf]; omega
        · have hvu2 : v = u := by omega
          subst hvu2
          have HH : Hid ((sqD k k).atKey (.int .i64 ((v : Nat) : Int)) (.lit (.bool false)) = .lit (.bool false)) := Lib.hid (by rw [HAT.out v (by omega), HLS.out.1])
          go_wp2_with (at_lookup; refine wpList_lookup_own_bool _ rfl _ _ _ rfl 3 4 ikeyed Try.underlying84 Try.underlying4 (zeroB _) w1.heap.size k (sqD k k) rfl how.out _ _ rfl HKEY.out ?_; intro c hat; obtain rfl : c = false := litb_eq (HH.out.symm.trans hat); clear hat)
          have HRX : Hid (∀ w', Below wr.heap.size wr w' → RatBox w' w.heap.size k A B ∧ RatBox w' (w.heap.size + 1) 0 0 0) := Lib.hid (fun w' hb => ⟨HRA2.out.below hb, HRB2.out.below hb⟩)
          have s1 : IntKind.i64.wrap ((A : Int) * (v : Int)) = (A : Int) * (v : Int) := IntWalk.i64_in _ (by omega)
          have s2 : IntKind.i64.wrap ((A : Int) * (v : Int) * (v : Int)) = (A : Int) * (v : Int) * (v : Int) := IntWalk.i64_in _ (by omega)
          have s3 : IntKind.i64.wrap ((B : Int) * (v : Int)) = (B : Int) * (v : Int) := IntWalk.i64_in _ (by omega)
          have s4 : IntKind.i64.wrap ((B : Int) * (v : Int) * (v : Int)) = (B : Int) * (v : Int) * (v : Int) := IntWalk.i64_in _ (by omega)
          have s5 : IntKind.i64.wrap ((B : Int) * (v : Int) * (v : Int) * (v : Int)) = (B : Int) * (v : Int) * (v : Int) * (v : Int) := IntWalk.i64_in _ (by omega)
          clear m1a m1b m2a m2b m3a m3b m4a m4b m5a m5b hu1 hu2 hv1 hv2
          go_region_held3 (fun w' => w'.cell? ⟨w.heap.size, 0, none⟩ = some (.int .i64 (k : Int)) ∧ w'.cell? ⟨w.heap.size, 1, none⟩ = some (.int .i64 (A : Int)) ∧ w'.cell? ⟨w.heap.size, 2, none⟩ = some (.int .i64 (B : Int))) (first | exact ⟨c1, c2, c3⟩ | exact ⟨ka1, ka2, ka3⟩ | exact ⟨kb1, kb2, kb3⟩ | go_keep)
            (first
            | (go_at_call 66; (fail_if_success (have := ka1)); refine (HMA.out _).mono ?_; rintro e wa ⟨rfl, hba⟩; obtain ⟨⟨ka1, ka2, ka3, _⟩, _⟩ := HRX.out _ (pbt (Below.refl _ _).drew hba))
            | (go_at_call 66; refine (HMB.out _).mono ?_; rintro e wb ⟨rfl, hbb⟩; have hbw4 := pbt (pbt (Below.refl wr.heap.size wr).drew hba) hbb; obtain ⟨⟨kb1, kb2, kb3, _⟩, ⟨kr1, kr2, kr3, ks1, ks2, ks3, _⟩⟩ := HRX.out _ hbw4; have HST := Lib.hid (RatBox.store ((HRX.out _ hbw4).2) (k : Int) (A1 : Int) (B1 : Int)); have HBW4 := Lib.hid hbw4; clear hba hbb hbw4))
          clear s1 s2 s3 s4 s5
          go_wp2_with fail
          obtain ⟨z1, z2, z3, _⟩ := HST.out
          refine bodyPost_ret (v := .tuple #[crv (k : Int) (A1 : Int) (B1 : Int), .int .i64 0]) (by simp [results, Try.results43, go_sem, z1, z2, z3]) rfl ⟨rfl, ?_⟩
          exact ((((pbt hbw.out HBW4.out).setCell (p := ⟨w.heap.size + 1, 0, none⟩) (Nat.le_succ _) _).setCell (p := ⟨w.heap.size + 1, 1, none⟩) (Nat.le_succ _) _).setCell (p := ⟨w.heap.size + 1, 2, none⟩) (Nat.le_succ _) _)
end Go.Proofs.Ytdombadhmaanfaa
