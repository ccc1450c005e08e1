/- Norm and trace in the reference: their walks. -/
import Derived.Test.YtmljndjiipgpdaaRn
namespace Go.Proofs.Ytmljndjiipgpdaa
open Go Go.RowKit GhP

theorem unitK_turn (n k : Nat) (hk : k < n) : unitK n (k + 1) = unitK n k ++ if turnB n ((k + 1 : Nat) : Int) = true then [k + 1] else [] := by
  rw [unitK_succ]
  have : (turnB n ((k + 1 : Nat) : Int) = true) ↔ Nat.gcd (k + 1) n = 1 := by
    unfold turnB
    rw [decide_eq_true_eq, Int.toNat_natCast, Int.toNat_natCast]
    omega
  by_cases h : Nat.gcd (k + 1) n = 1
  · rw [if_pos h, if_pos (this.2 h)]
  · rw [if_neg h, if_neg (fun e => h (this.1 e))]

set_option maxRecDepth 100000 in
set_option maxHeartbeats 1000000 in
theorem rnorm_any (n : Nat) (A : Option Addr) (ca : Nat) (F : List Int) (w : World) (h1 : 1 ≤ n) (h2 : n ≤ 15) (h : IRow w w.heap.size A (phi n) (wl F)) :
    Calls Try.prog 22 #[.int .i64 (n : Int), .slice A (phi n) ca] w fun e w' => e = .returned (.int .i64 (wrap64 ((normZ n F).getD 0 0))) ∧ Below w.heap.size w w' := by
  have HPH := Lib.hid (ord_len h1 (by omega))
  have HO := Lib.hid (ord_of h1 (show n < 16 by omega))
  have HPL : Hid (phi n ≤ n) := Lib.hid (phiK_le n n)
  have HF := Lib.hid h
  have HLEN : Hid (∀ l, (normL n l (one (cyc n)) F).length = phi n) := Lib.hid (fun l => by
    refine rev_ind (p := fun l => (normL n l (one (cyc n)) F).length = phi n) (by unfold normL one; rw [List.foldl_nil, redZ_len]; have := HPH.out.2.1; omega) (fun l t ih => ?_) l
    rw [normL, List.foldl_append, List.foldl_cons, List.foldl_nil, times_len]
    have := HPH.out.2.1
    omega)
  obtain ⟨P, hP⟩ : ∃ P, phi n = P := ⟨_, rfl⟩
  have hP1 : 1 ≤ P := by have := HPH.out.2.2.1; omega
  have hPn : P ≤ n := by have := HPL.out; omega
  have HPM : Hid ((cyc n).length - 1 = P) := Lib.hid (by have := HPH.out.2.1; omega)
  rw [hP] at HLEN HF ⊢
  have HR1 : Hid (∀ T, Calls Try.prog 40 #[.int .i64 (n : Int), .slice (some ⟨w.heap.size, 0, none⟩) 1 1] (w.alloc (Obj.cells #[.int .i64 1] T)) (GivesI (w.alloc (Obj.cells #[.int .i64 1] T)) (wl (one (cyc n))))) := Lib.hid (fun T => by
    refine reduced_any n _ 1 1 [1] _ ⟨rfl, fun _ => ⟨w.heap.size, 0, rfl, by simp, fun k x hx => ?_⟩⟩ (by omega) (by omega) h1 (by omega)
    rcases k with _ | k
    · have e : wrap64 1 = 1 := by unfold wrap64; decide
      simp [wl, e] at hx; subst hx; simp
    · simp [wl] at hx)
  clear h hP
  go_enter Try.func22, Try.ntmps22
  go_wp2_with fail
  refine (HR1.out _).mono ?_; rintro e w1 ⟨B1, n1, c1, rfl, how1, hA1, hb1⟩
  obtain rfl : n1 = P := by have := how1.len; unfold one at this; rw [wl_len, redZ_len, HPM.out] at this; exact this
  have HI1 := Lib.hid (IRow.of_own how1)
  have HB1 : Hid (Below w.heap.size w w1) := Lib.hid (ibt ((Below.refl _ _).alloc (Nat.le_refl _) _) hb1)
  clear how1 hA1 hb1
  go_wp2_with fail
  go_loopw [5, 6] (fun bv x wr => ∃ (k : Nat) (Bj : Option Addr) (cj : Nat), k ≤ n ∧ x = .int .i64 ((k : Int) + 1) ∧ bv = .slice Bj n1 cj ∧ Hid (IRow wr wr.heap.size Bj n1 (wl (normL n (unitK n k) (one (cyc n)) F))) ∧ Below w1.heap.size w1 wr) (fun _ x _ => n + 1 - (intOf x).toNat)
  case atStart => exact ⟨0, B1, c1, by omega, rfl, rfl, HI1, Below.refl _ _⟩
  case round =>
    obtain ⟨k, Bj, cj, hk, rfl, rfl, hI, hb⟩ := hrel
    obtain ⟨K, hK⟩ : ∃ K, k + 1 = K := ⟨_, rfl⟩
    have hKc : (k : Int) + 1 = (K : Int) := by omega
    rw [hKc]
    have HK := Lib.hid hK
    by_cases hlt : k < n
    · have hKn : K ≤ n := by omega
      have HS := Lib.hid (unitK_turn n k hlt)
      rw [hK] at HS
      have HBo := Lib.hid hb
      obtain ⟨q, hq⟩ : ∃ q, turnB n (K : Int) = q := ⟨_, rfl⟩
      have HQ := Lib.hid hq
      clear hb hK hKc hq
      cases q with
      | false =>
        have HS2 : Hid (unitK n K = unitK n k) := Lib.hid (by rw [HS.out, if_neg (by rw [HQ.out]; decide), List.append_nil])
        go_wp2_with fail
        refine (rturns_any n (K : Int) wr (by omega)).mono ?_; rw [HQ.out]; rintro e w2 ⟨rfl, hb2⟩
        go_wp2_with fail
        go_roundw
        case rel => exact ⟨K, Bj, cj, hKn, rfl, rfl, by rw [HS2.out]; exact Lib.hid (hI.out.next hb2), ibt HBo.out hb2⟩
        case measure => have := HK.out; simp [intOf]; omega
      | true =>
        have HS2 : Hid (normL n (unitK n K) (one (cyc n)) F = timesZ (cyc n) (normL n (unitK n k) (one (cyc n)) F) (turnZ (cyc n) n K F)) := Lib.hid (by
          rw [HS.out, if_pos HQ.out]
          simp only [normL, List.foldl_append, List.foldl_cons, List.foldl_nil])
        have HTD : Hid ((turnZ (cyc n) n K F).length = n1) := Lib.hid (by rw [turn_len, HPM.out])
        go_wp2_with fail
        refine (rturns_any n (K : Int) wr (by omega)).mono ?_; rw [HQ.out]; rintro e w2 ⟨rfl, hb2⟩
        have HB2 := Lib.hid (ibt HBo.out hb2)
        have HI2 := Lib.hid (hI.out.next hb2)
        have HF2 := Lib.hid (HF.out.next (ibt HB1.out HB2.out))
        clear hb2
        go_wp2_with fail
        refine (rturn_any n K A n1 ca F w2 HF2.out h1 (by omega) (by omega) (by omega)).mono ?_; rintro e w3 ⟨A3, n3, c3, rfl, how3, hA3, hb3⟩
        obtain rfl : n3 = n1 := by have := how3.len; rw [wl_len, HTD.out] at this; exact this
        have HI3 : Hid (IRow w3 w3.heap.size A3 n3 (wl (turnZ (cyc n) n K F))) := Lib.hid (IRow.of_own how3)
        have HIB3 := Lib.hid (HI2.out.next hb3)
        have HB3 := Lib.hid (ibt HB2.out hb3)
        clear how3 hA3 hb3
        go_wp2_with fail
        refine (rtimes_any n Bj A3 n3 n3 cj c3 (normL n (unitK n k) (one (cyc n)) F) (turnZ (cyc n) n K F) w3 HIB3.out HI3.out h1 (by omega) (by omega) (by omega) (by omega) (by omega)).mono ?_; rintro e w4 ⟨A4, n4, c4, rfl, how4, hA4, hb4⟩
        obtain rfl : n4 = n3 := by have := how4.len; rw [wl_len, ← HS2.out, HLEN.out] at this; exact this
        have HI4 : Hid (IRow w4 w4.heap.size A4 n4 (wl (normL n (unitK n K) (one (cyc n)) F))) := Lib.hid (by rw [HS2.out]; exact IRow.of_own how4)
        have HB4 := Lib.hid (ibt HB3.out hb4)
        clear how4 hA4 hb4
        go_wp2_with fail
        go_roundw
        case rel => exact ⟨K, A4, c4, hKn, rfl, rfl, HI4, HB4.out⟩
        case measure => have := HK.out; simp [intOf]; omega
    · have e : k = n := by omega
      subst e
      have HKn : ¬ (K : Int) ≤ (k : Int) := by omega
      obtain ⟨b, off, x, hx, rfl, hB, g1⟩ := hI.out.at_ (k := 0) (by omega)
      rw [Nat.add_zero] at g1
      obtain ⟨X, hX, hxX⟩ := wl_cell hx
      have HX : Hid (x = wrap64 ((normZ k F).getD 0 0)) := Lib.hid (by rw [hxX, List.getD_eq_getElem?_getD]; unfold normZ; have e : unitK k k = units k := rfl; rw [← e, hX]; rfl)
      have HBE := Lib.hid (ibt HB1.out hb)
      clear hx hX hxX hb hK hKc
      go_wp2_with fail
      go_ret
      exact ⟨by have h9 := HX.out; rw [List.getD_eq_getElem?_getD] at h9; rw [← h9]; rfl, HBE.out⟩
set_option maxRecDepth 100000 in
set_option maxHeartbeats 1000000 in
theorem rtrace_any (n : Nat) (A : Option Addr) (ca : Nat) (F : List Int) (w : World) (h1 : 1 ≤ n) (h2 : n ≤ 15) (h : IRow w w.heap.size A (phi n) (wl F)) :
    Calls Try.prog 21 #[.int .i64 (n : Int), .slice A (phi n) ca] w fun e w' => e = .returned (.int .i64 (wrap64 ((traceZ n F).getD 0 0))) ∧ Below w.heap.size w w' := by
  have HPH := Lib.hid (ord_len h1 (by omega))
  have HO := Lib.hid (ord_of h1 (show n < 16 by omega))
  have HPL : Hid (phi n ≤ n) := Lib.hid (phiK_le n n)
  have HF := Lib.hid h
  have HLEN : Hid (∀ l, (traceL n l (List.replicate ((cyc n).length - 1) 0) F).length = phi n) := Lib.hid (fun l => by
    refine rev_ind (p := fun l => (traceL n l (List.replicate ((cyc n).length - 1) 0) F).length = phi n) (by unfold traceL; rw [List.foldl_nil, List.length_replicate]; have := HPH.out.2.1; omega) (fun l t ih => ?_) l
    have h6 := HPH.out.2.1
    have h7 : (turnZ (cyc n) n t F).length = phi n := by rw [turn_len]; omega
    unfold traceL at ih ⊢
    rw [List.foldl_append, List.foldl_cons, List.foldl_nil, addZ_len (by rw [ih, h7]), h7])
  obtain ⟨P, hP⟩ : ∃ P, phi n = P := ⟨_, rfl⟩
  have hP1 : 1 ≤ P := by have := HPH.out.2.2.1; omega
  have hPn : P ≤ n := by have := HPL.out; omega
  have HPM : Hid ((cyc n).length - 1 = P) := Lib.hid (by have := HPH.out.2.1; omega)
  rw [hP] at HLEN HF ⊢
  have hmk := run_make_row' (P := Try.prog) 22 3 (.int .i64 0) 8 Try.underlying22 infoI rfl .i64 .i64 P (by omega) (by omega)
  obtain ⟨w1, hw1⟩ : ∃ w1, w.alloc (Obj.cells (madeCells #[Value.int .i64 0] P) 3) = w1 := ⟨_, rfl⟩
  have how1 : Own w1 w.heap.size (some ⟨w.heap.size, 0, none⟩) P P (wl (traceL n (unitK n 0) (List.replicate ((cyc n).length - 1) 0) F)) := by
    have e : traceL n (unitK n 0) (List.replicate ((cyc n).length - 1) 0) F = List.replicate P 0 := by rw [HPM.out]; rfl
    rw [← hw1, e, wl_zeros]
    exact own_made (Nat.le_refl _) (by unfold maxLen; omega)
  have HI1 := Lib.hid (IRow.of_own how1)
  have HB1 : Hid (Below w.heap.size w w1) := Lib.hid (by rw [← hw1]; exact (Below.refl _ _).alloc (Nat.le_refl _) _)
  clear how1
  clear h hP
  go_enter Try.func21, Try.ntmps21
  go_wp2_with fail
  try rw [hw1]
  clear hw1 hmk
  go_loopw [5, 6] (fun bv x wr => ∃ (k : Nat) (Bj : Option Addr) (cj : Nat), k ≤ n ∧ x = .int .i64 ((k : Int) + 1) ∧ bv = .slice Bj P cj ∧ Hid (IRow wr wr.heap.size Bj P (wl (traceL n (unitK n k) (List.replicate ((cyc n).length - 1) 0) F))) ∧ Below w1.heap.size w1 wr) (fun _ x _ => n + 1 - (intOf x).toNat)
  case atStart => exact ⟨0, _, _, by omega, rfl, rfl, HI1, Below.refl _ _⟩
  case round =>
    obtain ⟨k, Bj, cj, hk, rfl, rfl, hI, hb⟩ := hrel
    obtain ⟨K, hK⟩ : ∃ K, k + 1 = K := ⟨_, rfl⟩
    have hKc : (k : Int) + 1 = (K : Int) := by omega
    rw [hKc]
    have HK := Lib.hid hK
    by_cases hlt : k < n
    · have hKn : K ≤ n := by omega
      have HS := Lib.hid (unitK_turn n k hlt)
      rw [hK] at HS
      have HBo := Lib.hid hb
      obtain ⟨q, hq⟩ : ∃ q, turnB n (K : Int) = q := ⟨_, rfl⟩
      have HQ := Lib.hid hq
      clear hb hK hKc hq
      cases q with
      | false =>
        have HS2 : Hid (unitK n K = unitK n k) := Lib.hid (by rw [HS.out, if_neg (by rw [HQ.out]; decide), List.append_nil])
        go_wp2_with fail
        refine (rturns_any n (K : Int) wr (by omega)).mono ?_; rw [HQ.out]; rintro e w2 ⟨rfl, hb2⟩
        go_wp2_with fail
        go_roundw
        case rel => exact ⟨K, Bj, cj, hKn, rfl, rfl, by rw [HS2.out]; exact Lib.hid (hI.out.next hb2), ibt HBo.out hb2⟩
        case measure => have := HK.out; simp [intOf]; omega
      | true =>
        have HS2 : Hid (traceL n (unitK n K) (List.replicate ((cyc n).length - 1) 0) F = addZ (traceL n (unitK n k) (List.replicate ((cyc n).length - 1) 0) F) (turnZ (cyc n) n K F)) := Lib.hid (by
          rw [HS.out, if_pos HQ.out]
          simp only [traceL, List.foldl_append, List.foldl_cons, List.foldl_nil])
        have HTD : Hid ((turnZ (cyc n) n K F).length = P) := Lib.hid (by rw [turn_len, HPM.out])
        go_wp2_with fail
        refine (rturns_any n (K : Int) wr (by omega)).mono ?_; rw [HQ.out]; rintro e w2 ⟨rfl, hb2⟩
        have HB2 := Lib.hid (ibt HBo.out hb2)
        have HI2 := Lib.hid (hI.out.next hb2)
        have HF2 := Lib.hid (HF.out.next (ibt HB1.out HB2.out))
        clear hb2
        go_wp2_with fail
        refine (rturn_any n K A P ca F w2 HF2.out h1 (by omega) (by omega) (by omega)).mono ?_; rintro e w3 ⟨A3, n3, c3, rfl, how3, hA3, hb3⟩
        obtain rfl : n3 = P := by have := how3.len; rw [wl_len, HTD.out] at this; exact this
        have HI3 : Hid (IRow w3 w3.heap.size A3 n3 (wl (turnZ (cyc n) n K F))) := Lib.hid (IRow.of_own how3)
        have HIB3 := Lib.hid (HI2.out.next hb3)
        have HB3 := Lib.hid (ibt HB2.out hb3)
        clear how3 hA3 hb3
        go_wp2_with fail
        refine (radd_any Bj A3 n3 cj c3 (traceL n (unitK n k) (List.replicate ((cyc n).length - 1) 0) F) (turnZ (cyc n) n K F) w3 HIB3.out HI3.out (by omega)).mono ?_; rintro e w4 ⟨A4, n4, c4, rfl, how4, hA4, hb4⟩
        obtain rfl : n4 = n3 := by have := how4.len; rw [wl_len, ← HS2.out, HLEN.out] at this; exact this
        have HI4 : Hid (IRow w4 w4.heap.size A4 n4 (wl (traceL n (unitK n K) (List.replicate ((cyc n).length - 1) 0) F))) := Lib.hid (by rw [HS2.out]; exact IRow.of_own how4)
        have HB4 := Lib.hid (ibt HB3.out hb4)
        clear how4 hA4 hb4
        go_wp2_with fail
        go_roundw
        case rel => exact ⟨K, A4, c4, hKn, rfl, rfl, HI4, HB4.out⟩
        case measure => have := HK.out; simp [intOf]; omega
    · have e : k = n := by omega
      subst e
      have HKn : ¬ (K : Int) ≤ (k : Int) := by omega
      obtain ⟨b, off, x, hx, rfl, hB, g1⟩ := hI.out.at_ (k := 0) (by omega)
      rw [Nat.add_zero] at g1
      obtain ⟨X, hX, hxX⟩ := wl_cell hx
      have HX : Hid (x = wrap64 ((traceZ k F).getD 0 0)) := Lib.hid (by rw [hxX, List.getD_eq_getElem?_getD]; unfold traceZ; have e : unitK k k = units k := rfl; rw [← e, hX]; rfl)
      have HBE := Lib.hid (ibt HB1.out hb)
      clear hx hX hxX hb hK hKc
      go_wp2_with fail
      go_ret
      exact ⟨by have h9 := HX.out; rw [List.getD_eq_getElem?_getD] at h9; rw [← h9]; rfl, HBE.out⟩
end Go.Proofs.Ytmljndjiipgpdaa
