/- SumsNumbers: the walk of the law, by its ways. -/
import Derived.Test.YtmljndjiipgpdaaNu
namespace Go.Proofs.Ytmljndjiipgpdaa
open Go Go.RowKit GhP
set_option maxRecDepth 100000 in
set_option maxHeartbeats 1000000 in
theorem num_f (n t : Int) (A B : Option Addr) (la ca lb cb : Nat) (La Lb : List Int) (w : World) (h : IRow w w.heap.size A la La) (hwa : wl La = La) (hlc : la ≤ ca) (hc : ca ≤ maxLen) (hA : A = none → la = 0 ∧ ca = 0) (k : IRow w w.heap.size B lb Lb) (hwb : wl Lb = Lb) (klc : lb ≤ cb) (kc : cb ≤ maxLen) (hB : B = none → lb = 0 ∧ cb = 0)
    (hp : okN n 1000 La = false) :
    Calls Try.prog 7 #[.int .i64 n, .slice A la ca, .slice B lb cb, .int .i64 t] w fun e w' => e = .returned (.bool true) ∧ Below w.heap.size w w' := by
  have hla9 : la ≤ 9223372036854775807 := by unfold maxLen at hc; omega
  have hlb9 : lb ≤ 9223372036854775807 := by unfold maxLen at kc; omega
  have HRA := Lib.hid h
  have HRB := Lib.hid k
  have HWA := Lib.hid hwa
  have HWB := Lib.hid hwb
  have HLA : Hid (∀ w', Below w.heap.size w w' → Calls Try.prog 18 #[.slice A la ca] w' (GivesI w' (La.take 16))) := Lib.hid (fun w' hb => list_any A la ca La w' (h.next hb) hlc hc hA)
  have HLB : Hid (∀ w', Below w.heap.size w w' → Calls Try.prog 18 #[.slice B lb cb] w' (GivesI w' (Lb.take 16))) := Lib.hid (fun w' hb => list_any B lb cb Lb w' (k.next hb) klc kc hB)
  have HADD : Hid (∀ w' A1 n1 c1 A2 n2 c2, IRow w' w'.heap.size A1 n1 (La.take 16) → IRow w' w'.heap.size A2 n2 (Lb.take 16) → n1 ≤ 16 → n2 ≤ 16 → Calls Try.prog 25 #[.int .i64 n, .slice A1 n1 c1, .slice A2 n2 c2] w' (GivesIE w' ([]) 2)) := Lib.hid (fun w' A1 n1 c1 A2 n2 c2 h1 h2 h3 h4 => by
    have h5 := Add_one n A1 A2 n1 c1 n2 c2 (La.take 16) (Lb.take 16) w' h1 h2 (wl_take hwa 16) (wl_take hwb 16) (by omega) (by omega)
    have h6 : (okN n 1000 (La.take 16) && okN n 1000 (Lb.take 16)) = false := by rw [okN_take, hp]; rfl
    rw [if_neg (by rw [h6]; decide), if_neg (by rw [h6]; decide)] at h5; exact h5)
  have HTIM : Hid (∀ w' A1 n1 c1 A2 n2 c2, IRow w' w'.heap.size A1 n1 (La.take 16) → IRow w' w'.heap.size A2 n2 (Lb.take 16) → n1 ≤ 16 → n2 ≤ 16 → Calls Try.prog 23 #[.int .i64 n, .slice A1 n1 c1, .slice A2 n2 c2] w' (GivesIE w' ([]) 2)) := Lib.hid (fun w' A1 n1 c1 A2 n2 c2 h1 h2 h3 h4 => by
    have h5 := Times_one n A1 A2 n1 c1 n2 c2 (La.take 16) (Lb.take 16) w' h1 h2 (wl_take hwa 16) (wl_take hwb 16) (by omega) (by omega)
    have h6 : (okN n 1000 (La.take 16) && okN n 1000 (Lb.take 16)) = false := by rw [okN_take, hp]; rfl
    rw [if_neg (by rw [h6]; decide), if_neg (by rw [h6]; decide)] at h5; exact h5)
  have HTUR : Hid (∀ w' A1 n1 c1, IRow w' w'.heap.size A1 n1 (La.take 16) → n1 ≤ 16 → Calls Try.prog 26 #[.int .i64 n, .slice A1 n1 c1, .int .i64 t] w' (GivesIE w' ([]) 2)) := Lib.hid (fun w' A1 n1 c1 h1 h3 => by
    have h5 := Turn_one n t A1 n1 c1 (La.take 16) w' h1 (wl_take hwa 16) (by omega)
    have h6 : (okN n 1000 (La.take 16) && turnB n t) = false := by rw [okN_take, hp]; rfl
    rw [if_neg (by rw [h6]; decide), if_neg (by rw [h6]; decide)] at h5; exact h5)
  have HP := Lib.hid hp
  clear h k hwa hwb hp
  go_enter Try.func7, Try.ntmps7
  go_wp2_with fail
  refine (HLA.out _ (Below.refl _ _)).mono ?_; rintro e w1 ⟨A1, n1, c1, rfl, how1, hA1, hb1⟩
  have HI1 := Lib.hid (IRow.of_own how1)
  have HN1 := Lib.hid how1.len
  have HB1 := Lib.hid hb1
  clear how1 hA1 hb1
  have hn1 : n1 ≤ 16 := by have := HN1.out; rw [List.length_take] at this; omega
  go_wp2_with fail
  refine (HLB.out _ HB1.out).mono ?_; rintro e w2 ⟨A2, n2, c2, rfl, how2, hA2, hb2⟩
  have HI2 := Lib.hid (IRow.of_own how2)
  have HN2 := Lib.hid how2.len
  have HB2 := Lib.hid hb2
  clear how2 hA2 hb2
  have hn2 : n2 ≤ 16 := by have := HN2.out; rw [List.length_take] at this; omega
  go_wp2_with fail
  refine (HADD.out _ _ _ _ _ _ _ (HI1.out.next HB2.out) HI2.out (by omega) (by omega)).mono ?_; rintro e w3 ⟨A3, n3, c3, rfl, how3, hA3, hb3⟩
  have HI3 := Lib.hid (IRow.of_own how3)
  have HN3 := Lib.hid how3.len
  have HB3 := Lib.hid hb3
  clear how3 hA3 hb3
  obtain rfl : n3 = 0 := HN3.out
  go_wp2_with fail
  refine (HLA.out _ (ibt (ibt HB1.out HB2.out) HB3.out)).mono ?_; rintro e w4 ⟨A4, n4, c4, rfl, how4, hA4, hb4⟩
  have HI4 := Lib.hid (IRow.of_own how4)
  have HN4 := Lib.hid how4.len
  have HB4 := Lib.hid hb4
  clear how4 hA4 hb4
  have hn4 : n4 ≤ 16 := by have := HN4.out; rw [List.length_take] at this; omega
  go_wp2_with fail
  refine (HLB.out _ (ibt (ibt (ibt HB1.out HB2.out) HB3.out) HB4.out)).mono ?_; rintro e w5 ⟨A5, n5, c5, rfl, how5, hA5, hb5⟩
  have HI5 := Lib.hid (IRow.of_own how5)
  have HN5 := Lib.hid how5.len
  have HB5 := Lib.hid hb5
  clear how5 hA5 hb5
  have hn5 : n5 ≤ 16 := by have := HN5.out; rw [List.length_take] at this; omega
  go_wp2_with fail
  refine (HTIM.out _ _ _ _ _ _ _ (HI4.out.next HB5.out) HI5.out (by omega) (by omega)).mono ?_; rintro e w6 ⟨A6, n6, c6, rfl, how6, hA6, hb6⟩
  have HI6 := Lib.hid (IRow.of_own how6)
  have HN6 := Lib.hid how6.len
  have HB6 := Lib.hid hb6
  clear how6 hA6 hb6
  obtain rfl : n6 = 0 := HN6.out
  go_wp2_with fail
  refine (HLA.out _ (ibt (ibt (ibt (ibt (ibt HB1.out HB2.out) HB3.out) HB4.out) HB5.out) HB6.out)).mono ?_; rintro e w7 ⟨A7, n7, c7, rfl, how7, hA7, hb7⟩
  have HI7 := Lib.hid (IRow.of_own how7)
  have HN7 := Lib.hid how7.len
  have HB7 := Lib.hid hb7
  clear how7 hA7 hb7
  have hn7 : n7 ≤ 16 := by have := HN7.out; rw [List.length_take] at this; omega
  go_wp2_with fail
  refine (HTUR.out _ _ _ _ HI7.out (by omega)).mono ?_; rintro e w8 ⟨A8, n8, c8, rfl, how8, hA8, hb8⟩
  have HI8 := Lib.hid (IRow.of_own how8)
  have HN8 := Lib.hid how8.len
  have HB8 := Lib.hid hb8
  clear how8 hA8 hb8
  obtain rfl : n8 = 0 := HN8.out
  go_wp2_with fail
  refine (number_any n A la ca La 1000 _ (HRA.out.next (ibt (ibt (ibt (ibt (ibt (ibt (ibt HB1.out HB2.out) HB3.out) HB4.out) HB5.out) HB6.out) HB7.out) HB8.out)) hla9 (by omega) (by omega)).mono ?_; rw [HP.out]; rintro e w9 ⟨rfl, hb9⟩
  have HB9 := Lib.hid hb9
  clear hb9
  go_wp2_with fail
  refine (awake_any _).mono ?_; rintro e w10 ⟨rfl, hb10⟩
  have HB10 := Lib.hid hb10
  clear hb10
  go_wp2_with fail
  go_ret
  exact ⟨rfl, (ibt (ibt (ibt (ibt (ibt (ibt (ibt (ibt (ibt HB1.out HB2.out) HB3.out) HB4.out) HB5.out) HB6.out) HB7.out) HB8.out) HB9.out) HB10.out)⟩
set_option maxRecDepth 100000 in
set_option maxHeartbeats 1000000 in
theorem num_tff (N : Nat) (t : Int) (A B : Option Addr) (la ca lb cb : Nat) (La Lb : List Int) (w : World) (h : IRow w w.heap.size A la La) (hwa : wl La = La) (hlc : la ≤ ca) (hc : ca ≤ maxLen) (hA : A = none → la = 0 ∧ ca = 0) (k : IRow w w.heap.size B lb Lb) (hwb : wl Lb = Lb) (klc : lb ≤ cb) (kc : cb ≤ maxLen) (hB : B = none → lb = 0 ∧ cb = 0)
    (hp : okN (N : Int) 1000 La = true) (hq : okN (N : Int) 1000 Lb = false) (hr : turnB (N : Int) t = false) :
    Calls Try.prog 7 #[.int .i64 (N : Int), .slice A la ca, .slice B lb cb, .int .i64 t] w fun e w' => e = .returned (.bool true) ∧ Below w.heap.size w w' := by
  have hla9 : la ≤ 9223372036854775807 := by unfold maxLen at hc; omega
  have hlb9 : lb ≤ 9223372036854775807 := by unfold maxLen at kc; omega
  have HRA := Lib.hid h
  have HRB := Lib.hid k
  have HWA := Lib.hid hwa
  have HWB := Lib.hid hwb
  have HLA : Hid (∀ w', Below w.heap.size w w' → Calls Try.prog 18 #[.slice A la ca] w' (GivesI w' (La.take 16))) := Lib.hid (fun w' hb => list_any A la ca La w' (h.next hb) hlc hc hA)
  have HLB : Hid (∀ w', Below w.heap.size w w' → Calls Try.prog 18 #[.slice B lb cb] w' (GivesI w' (Lb.take 16))) := Lib.hid (fun w' hb => list_any B lb cb Lb w' (k.next hb) klc kc hB)
  rw [okN_short hp] at HLA
  have HADD : Hid (∀ w' A1 n1 c1 A2 n2 c2, IRow w' w'.heap.size A1 n1 La → IRow w' w'.heap.size A2 n2 (Lb.take 16) → n1 ≤ 16 → n2 ≤ 16 → Calls Try.prog 25 #[.int .i64 (N : Int), .slice A1 n1 c1, .slice A2 n2 c2] w' (GivesIE w' ([]) 2)) := Lib.hid (fun w' A1 n1 c1 A2 n2 c2 h1 h2 h3 h4 => by
    have h5 := Add_one (N : Int) A1 A2 n1 c1 n2 c2 La (Lb.take 16) w' h1 h2 hwa (wl_take hwb 16) (by omega) (by omega)
    have h6 : (okN (N : Int) 1000 La && okN (N : Int) 1000 (Lb.take 16)) = false := by rw [hp, okN_take, hq]; rfl
    rw [if_neg (by rw [h6]; decide), if_neg (by rw [h6]; decide)] at h5; exact h5)
  have HTIM : Hid (∀ w' A1 n1 c1 A2 n2 c2, IRow w' w'.heap.size A1 n1 La → IRow w' w'.heap.size A2 n2 (Lb.take 16) → n1 ≤ 16 → n2 ≤ 16 → Calls Try.prog 23 #[.int .i64 (N : Int), .slice A1 n1 c1, .slice A2 n2 c2] w' (GivesIE w' ([]) 2)) := Lib.hid (fun w' A1 n1 c1 A2 n2 c2 h1 h2 h3 h4 => by
    have h5 := Times_one (N : Int) A1 A2 n1 c1 n2 c2 La (Lb.take 16) w' h1 h2 hwa (wl_take hwb 16) (by omega) (by omega)
    have h6 : (okN (N : Int) 1000 La && okN (N : Int) 1000 (Lb.take 16)) = false := by rw [hp, okN_take, hq]; rfl
    rw [if_neg (by rw [h6]; decide), if_neg (by rw [h6]; decide)] at h5; exact h5)
  have HTUR : Hid (∀ w' A1 n1 c1, IRow w' w'.heap.size A1 n1 La → n1 ≤ 16 → Calls Try.prog 26 #[.int .i64 (N : Int), .slice A1 n1 c1, .int .i64 t] w' (GivesIE w' ([]) 2)) := Lib.hid (fun w' A1 n1 c1 h1 h3 => by
    have h5 := Turn_one (N : Int) t A1 n1 c1 La w' h1 hwa (by omega)
    have h6 : (okN (N : Int) 1000 La && turnB (N : Int) t) = false := by rw [hp, hr]; rfl
    rw [if_neg (by rw [h6]; decide), if_neg (by rw [h6]; decide)] at h5; exact h5)
  have HP := Lib.hid hp
  have HQ := Lib.hid hq
  have HR := Lib.hid hr
  have hyp := okN_yes hp
  obtain ⟨hN1, hN15, hPL, _⟩ := hyp
  rw [Int.toNat_natCast] at hPL
  have hN1' : 1 ≤ N := by omega
  have hN15' : N ≤ 15 := by omega
  have hO := ord_len hN1' (show N < 16 by omega)
  have HPL := Lib.hid hPL
  have HPH : Hid ((cyc N).length = phi N + 1 ∧ 1 ≤ phi N ∧ phi N ≤ N) := Lib.hid ⟨hO.2.1, hO.2.2.1, phi_le N⟩
  have hla15 : 1 ≤ la ∧ la ≤ 15 := by have h1 := h.1; have h2 := HPH.out; omega
  clear hN1 hN15 hPL hO
  clear h k hwa hwb hp hq hr
  go_enter Try.func7, Try.ntmps7
  go_wp2_with fail
  refine (HLA.out _ (Below.refl _ _)).mono ?_; rintro e w1 ⟨A1, n1, c1, rfl, how1, hA1, hb1⟩
  have HI1 := Lib.hid (IRow.of_own how1)
  have HN1 := Lib.hid how1.len
  have HB1 := Lib.hid hb1
  clear how1 hA1 hb1
  have hn1 : n1 ≤ 16 := by have := HN1.out; have h9 := HPL.out; have h10 := HPH.out; omega
  go_wp2_with fail
  refine (HLB.out _ HB1.out).mono ?_; rintro e w2 ⟨A2, n2, c2, rfl, how2, hA2, hb2⟩
  have HI2 := Lib.hid (IRow.of_own how2)
  have HN2 := Lib.hid how2.len
  have HB2 := Lib.hid hb2
  clear how2 hA2 hb2
  have hn2 : n2 ≤ 16 := by have := HN2.out; rw [List.length_take] at this; omega
  go_wp2_with fail
  refine (HADD.out _ _ _ _ _ _ _ (HI1.out.next HB2.out) HI2.out (by omega) (by omega)).mono ?_; rintro e w3 ⟨A3, n3, c3, rfl, how3, hA3, hb3⟩
  have HI3 := Lib.hid (IRow.of_own how3)
  have HN3 := Lib.hid how3.len
  have HB3 := Lib.hid hb3
  clear how3 hA3 hb3
  obtain rfl : n3 = 0 := HN3.out
  go_wp2_with fail
  refine (HLA.out _ (ibt (ibt HB1.out HB2.out) HB3.out)).mono ?_; rintro e w4 ⟨A4, n4, c4, rfl, how4, hA4, hb4⟩
  have HI4 := Lib.hid (IRow.of_own how4)
  have HN4 := Lib.hid how4.len
  have HB4 := Lib.hid hb4
  clear how4 hA4 hb4
  have hn4 : n4 ≤ 16 := by have := HN4.out; have h9 := HPL.out; have h10 := HPH.out; omega
  go_wp2_with fail
  refine (HLB.out _ (ibt (ibt (ibt HB1.out HB2.out) HB3.out) HB4.out)).mono ?_; rintro e w5 ⟨A5, n5, c5, rfl, how5, hA5, hb5⟩
  have HI5 := Lib.hid (IRow.of_own how5)
  have HN5 := Lib.hid how5.len
  have HB5 := Lib.hid hb5
  clear how5 hA5 hb5
  have hn5 : n5 ≤ 16 := by have := HN5.out; rw [List.length_take] at this; omega
  go_wp2_with fail
  refine (HTIM.out _ _ _ _ _ _ _ (HI4.out.next HB5.out) HI5.out (by omega) (by omega)).mono ?_; rintro e w6 ⟨A6, n6, c6, rfl, how6, hA6, hb6⟩
  have HI6 := Lib.hid (IRow.of_own how6)
  have HN6 := Lib.hid how6.len
  have HB6 := Lib.hid hb6
  clear how6 hA6 hb6
  obtain rfl : n6 = 0 := HN6.out
  go_wp2_with fail
  refine (HLA.out _ (ibt (ibt (ibt (ibt (ibt HB1.out HB2.out) HB3.out) HB4.out) HB5.out) HB6.out)).mono ?_; rintro e w7 ⟨A7, n7, c7, rfl, how7, hA7, hb7⟩
  have HI7 := Lib.hid (IRow.of_own how7)
  have HN7 := Lib.hid how7.len
  have HB7 := Lib.hid hb7
  clear how7 hA7 hb7
  have hn7 : n7 ≤ 16 := by have := HN7.out; have h9 := HPL.out; have h10 := HPH.out; omega
  go_wp2_with fail
  refine (HTUR.out _ _ _ _ HI7.out (by omega)).mono ?_; rintro e w8 ⟨A8, n8, c8, rfl, how8, hA8, hb8⟩
  have HI8 := Lib.hid (IRow.of_own how8)
  have HN8 := Lib.hid how8.len
  have HB8 := Lib.hid hb8
  clear how8 hA8 hb8
  obtain rfl : n8 = 0 := HN8.out
  go_wp2_with fail
  refine (number_any (N : Int) A la ca La 1000 _ (HRA.out.next (ibt (ibt (ibt (ibt (ibt (ibt (ibt HB1.out HB2.out) HB3.out) HB4.out) HB5.out) HB6.out) HB7.out) HB8.out)) hla9 (by omega) (by omega)).mono ?_; rw [HP.out]; rintro e w9 ⟨rfl, hb9⟩
  have HB9 := Lib.hid hb9
  clear hb9
  go_wp2_with fail
  refine (number_any (N : Int) B lb cb Lb 1000 _ (HRB.out.next (ibt (ibt (ibt (ibt (ibt (ibt (ibt (ibt HB1.out HB2.out) HB3.out) HB4.out) HB5.out) HB6.out) HB7.out) HB8.out) HB9.out)) hlb9 (by omega) (by omega)).mono ?_; rw [HQ.out]; rintro e w10 ⟨rfl, hb10⟩
  have HB10 := Lib.hid hb10
  clear hb10
  go_wp2_with fail
  refine (rturns_any N t _ (by omega)).mono ?_; rw [HR.out]; rintro e w11 ⟨rfl, hb11⟩
  have HB11 := Lib.hid hb11
  clear hb11
  go_wp2_with fail
  refine (awake_any _).mono ?_; rintro e w12 ⟨rfl, hb12⟩
  have HB12 := Lib.hid hb12
  clear hb12
  go_wp2_with fail
  go_ret
  exact ⟨rfl, (ibt (ibt (ibt (ibt (ibt (ibt (ibt (ibt (ibt (ibt (ibt HB1.out HB2.out) HB3.out) HB4.out) HB5.out) HB6.out) HB7.out) HB8.out) HB9.out) HB10.out) HB11.out) HB12.out)⟩
set_option maxRecDepth 100000 in
set_option maxHeartbeats 1000000 in
theorem num_tft (N T : Nat) (A B : Option Addr) (la ca lb cb : Nat) (La Lb : List Int) (w : World) (h : IRow w w.heap.size A la La) (hwa : wl La = La) (hlc : la ≤ ca) (hc : ca ≤ maxLen) (hA : A = none → la = 0 ∧ ca = 0) (k : IRow w w.heap.size B lb Lb) (hwb : wl Lb = Lb) (klc : lb ≤ cb) (kc : cb ≤ maxLen) (hB : B = none → lb = 0 ∧ cb = 0)
    (hp : okN (N : Int) 1000 La = true) (hq : okN (N : Int) 1000 Lb = false) (hr : turnB (N : Int) (T : Int) = true) :
    Calls Try.prog 7 #[.int .i64 (N : Int), .slice A la ca, .slice B lb cb, .int .i64 (T : Int)] w fun e w' => e = .returned (.bool true) ∧ Below w.heap.size w w' := by
  have hla9 : la ≤ 9223372036854775807 := by unfold maxLen at hc; omega
  have hlb9 : lb ≤ 9223372036854775807 := by unfold maxLen at kc; omega
  have HRA := Lib.hid h
  have HRB := Lib.hid k
  have HWA := Lib.hid hwa
  have HWB := Lib.hid hwb
  have HLA : Hid (∀ w', Below w.heap.size w w' → Calls Try.prog 18 #[.slice A la ca] w' (GivesI w' (La.take 16))) := Lib.hid (fun w' hb => list_any A la ca La w' (h.next hb) hlc hc hA)
  have HLB : Hid (∀ w', Below w.heap.size w w' → Calls Try.prog 18 #[.slice B lb cb] w' (GivesI w' (Lb.take 16))) := Lib.hid (fun w' hb => list_any B lb cb Lb w' (k.next hb) klc kc hB)
  rw [okN_short hp] at HLA
  have HADD : Hid (∀ w' A1 n1 c1 A2 n2 c2, IRow w' w'.heap.size A1 n1 La → IRow w' w'.heap.size A2 n2 (Lb.take 16) → n1 ≤ 16 → n2 ≤ 16 → Calls Try.prog 25 #[.int .i64 (N : Int), .slice A1 n1 c1, .slice A2 n2 c2] w' (GivesIE w' ([]) 2)) := Lib.hid (fun w' A1 n1 c1 A2 n2 c2 h1 h2 h3 h4 => by
    have h5 := Add_one (N : Int) A1 A2 n1 c1 n2 c2 La (Lb.take 16) w' h1 h2 hwa (wl_take hwb 16) (by omega) (by omega)
    have h6 : (okN (N : Int) 1000 La && okN (N : Int) 1000 (Lb.take 16)) = false := by rw [hp, okN_take, hq]; rfl
    rw [if_neg (by rw [h6]; decide), if_neg (by rw [h6]; decide)] at h5; exact h5)
  have HTIM : Hid (∀ w' A1 n1 c1 A2 n2 c2, IRow w' w'.heap.size A1 n1 La → IRow w' w'.heap.size A2 n2 (Lb.take 16) → n1 ≤ 16 → n2 ≤ 16 → Calls Try.prog 23 #[.int .i64 (N : Int), .slice A1 n1 c1, .slice A2 n2 c2] w' (GivesIE w' ([]) 2)) := Lib.hid (fun w' A1 n1 c1 A2 n2 c2 h1 h2 h3 h4 => by
    have h5 := Times_one (N : Int) A1 A2 n1 c1 n2 c2 La (Lb.take 16) w' h1 h2 hwa (wl_take hwb 16) (by omega) (by omega)
    have h6 : (okN (N : Int) 1000 La && okN (N : Int) 1000 (Lb.take 16)) = false := by rw [hp, okN_take, hq]; rfl
    rw [if_neg (by rw [h6]; decide), if_neg (by rw [h6]; decide)] at h5; exact h5)
  have HTUR : Hid (∀ w' A1 n1 c1, IRow w' w'.heap.size A1 n1 La → n1 ≤ 16 → Calls Try.prog 26 #[.int .i64 (N : Int), .slice A1 n1 c1, .int .i64 (T : Int)] w' (GivesIE w' (wl (turnZ (cyc N) N T La)) 0)) := Lib.hid (fun w' A1 n1 c1 h1 h3 => by
    have h5 := Turn_one (N : Int) (T : Int) A1 n1 c1 La w' h1 hwa (by omega)
    have h6 : (okN (N : Int) 1000 La && turnB (N : Int) (T : Int)) = true := by rw [hp, hr]; rfl
    rw [if_pos h6, if_pos h6, Int.toNat_natCast, Int.toNat_natCast] at h5; exact h5)
  have HP := Lib.hid hp
  have HQ := Lib.hid hq
  have HR := Lib.hid hr
  have hyp := okN_yes hp
  obtain ⟨hN1, hN15, hPL, _⟩ := hyp
  rw [Int.toNat_natCast] at hPL
  have hN1' : 1 ≤ N := by omega
  have hN15' : N ≤ 15 := by omega
  have hO := ord_len hN1' (show N < 16 by omega)
  have HPL := Lib.hid hPL
  have HPH : Hid ((cyc N).length = phi N + 1 ∧ 1 ≤ phi N ∧ phi N ≤ N) := Lib.hid ⟨hO.2.1, hO.2.2.1, phi_le N⟩
  have hla15 : 1 ≤ la ∧ la ≤ 15 := by have h1 := h.1; have h2 := HPH.out; omega
  have hT : T ≤ 15 := by
    have ht2 := hr
    unfold turnB at ht2
    have ht3 := of_decide_eq_true ht2
    omega
  clear hN1 hN15 hPL hO
  clear h k hwa hwb hp hq hr
  go_enter Try.func7, Try.ntmps7
  go_wp2_with fail
  refine (HLA.out _ (Below.refl _ _)).mono ?_; rintro e w1 ⟨A1, n1, c1, rfl, how1, hA1, hb1⟩
  have HI1 := Lib.hid (IRow.of_own how1)
  have HN1 := Lib.hid how1.len
  have HB1 := Lib.hid hb1
  clear how1 hA1 hb1
  have hn1 : n1 ≤ 16 := by have := HN1.out; have h9 := HPL.out; have h10 := HPH.out; omega
  go_wp2_with fail
  refine (HLB.out _ HB1.out).mono ?_; rintro e w2 ⟨A2, n2, c2, rfl, how2, hA2, hb2⟩
  have HI2 := Lib.hid (IRow.of_own how2)
  have HN2 := Lib.hid how2.len
  have HB2 := Lib.hid hb2
  clear how2 hA2 hb2
  have hn2 : n2 ≤ 16 := by have := HN2.out; rw [List.length_take] at this; omega
  go_wp2_with fail
  refine (HADD.out _ _ _ _ _ _ _ (HI1.out.next HB2.out) HI2.out (by omega) (by omega)).mono ?_; rintro e w3 ⟨A3, n3, c3, rfl, how3, hA3, hb3⟩
  have HI3 := Lib.hid (IRow.of_own how3)
  have HN3 := Lib.hid how3.len
  have HB3 := Lib.hid hb3
  clear how3 hA3 hb3
  obtain rfl : n3 = 0 := HN3.out
  go_wp2_with fail
  refine (HLA.out _ (ibt (ibt HB1.out HB2.out) HB3.out)).mono ?_; rintro e w4 ⟨A4, n4, c4, rfl, how4, hA4, hb4⟩
  have HI4 := Lib.hid (IRow.of_own how4)
  have HN4 := Lib.hid how4.len
  have HB4 := Lib.hid hb4
  clear how4 hA4 hb4
  have hn4 : n4 ≤ 16 := by have := HN4.out; have h9 := HPL.out; have h10 := HPH.out; omega
  go_wp2_with fail
  refine (HLB.out _ (ibt (ibt (ibt HB1.out HB2.out) HB3.out) HB4.out)).mono ?_; rintro e w5 ⟨A5, n5, c5, rfl, how5, hA5, hb5⟩
  have HI5 := Lib.hid (IRow.of_own how5)
  have HN5 := Lib.hid how5.len
  have HB5 := Lib.hid hb5
  clear how5 hA5 hb5
  have hn5 : n5 ≤ 16 := by have := HN5.out; rw [List.length_take] at this; omega
  go_wp2_with fail
  refine (HTIM.out _ _ _ _ _ _ _ (HI4.out.next HB5.out) HI5.out (by omega) (by omega)).mono ?_; rintro e w6 ⟨A6, n6, c6, rfl, how6, hA6, hb6⟩
  have HI6 := Lib.hid (IRow.of_own how6)
  have HN6 := Lib.hid how6.len
  have HB6 := Lib.hid hb6
  clear how6 hA6 hb6
  obtain rfl : n6 = 0 := HN6.out
  go_wp2_with fail
  refine (HLA.out _ (ibt (ibt (ibt (ibt (ibt HB1.out HB2.out) HB3.out) HB4.out) HB5.out) HB6.out)).mono ?_; rintro e w7 ⟨A7, n7, c7, rfl, how7, hA7, hb7⟩
  have HI7 := Lib.hid (IRow.of_own how7)
  have HN7 := Lib.hid how7.len
  have HB7 := Lib.hid hb7
  clear how7 hA7 hb7
  have hn7 : n7 ≤ 16 := by have := HN7.out; have h9 := HPL.out; have h10 := HPH.out; omega
  go_wp2_with fail
  refine (HTUR.out _ _ _ _ HI7.out (by omega)).mono ?_; rintro e w8 ⟨A8, n8, c8, rfl, how8, hA8, hb8⟩
  have HI8 := Lib.hid (IRow.of_own how8)
  have HN8 := Lib.hid how8.len
  have HB8 := Lib.hid hb8
  clear how8 hA8 hb8
  have hn8 : 1 ≤ n8 ∧ n8 ≤ 15 := by have h1 := HN8.out; have h2 := HPH.out; have h3 := HPL.out; rw [wl_len, turn_len] at h1; omega
  obtain ⟨hn8a, hn8b⟩ := hn8
  go_wp2_with fail
  refine (number_any (N : Int) A la ca La 1000 _ (HRA.out.next (ibt (ibt (ibt (ibt (ibt (ibt (ibt HB1.out HB2.out) HB3.out) HB4.out) HB5.out) HB6.out) HB7.out) HB8.out)) hla9 (by omega) (by omega)).mono ?_; rw [HP.out]; rintro e w9 ⟨rfl, hb9⟩
  have HB9 := Lib.hid hb9
  clear hb9
  go_wp2_with fail
  refine (number_any (N : Int) B lb cb Lb 1000 _ (HRB.out.next (ibt (ibt (ibt (ibt (ibt (ibt (ibt (ibt HB1.out HB2.out) HB3.out) HB4.out) HB5.out) HB6.out) HB7.out) HB8.out) HB9.out)) hlb9 (by omega) (by omega)).mono ?_; rw [HQ.out]; rintro e w10 ⟨rfl, hb10⟩
  have HB10 := Lib.hid hb10
  clear hb10
  go_wp2_with fail
  refine (rturns_any N (T : Int) _ (by omega)).mono ?_; rw [HR.out]; rintro e w11 ⟨rfl, hb11⟩
  have HB11 := Lib.hid hb11
  clear hb11
  go_wp2_with fail
  refine (rturn_any N T A la ca La _ (by rw [HWA.out]; exact HRA.out.next (ibt (ibt (ibt (ibt (ibt (ibt (ibt (ibt (ibt (ibt HB1.out HB2.out) HB3.out) HB4.out) HB5.out) HB6.out) HB7.out) HB8.out) HB9.out) HB10.out) HB11.out)) hN1' (by omega) (by omega) (by omega)).mono ?_; rintro e w12 ⟨A12, n12, c12, rfl, how12, hA12, hb12⟩
  have HI12 := Lib.hid (IRow.of_own how12)
  have HN12 := Lib.hid how12.len
  have HB12 := Lib.hid hb12
  clear how12 hA12 hb12
  have hn12 : 1 ≤ n12 ∧ n12 ≤ 15 := by have h1 := HN12.out; have h2 := HPH.out; have h3 := HPL.out; rw [wl_len, turn_len] at h1; omega
  obtain ⟨hn12a, hn12b⟩ := hn12
  go_wp2_with fail
  refine (equal_b A8 A12 n8 n12 c8 c12 _ _ _ (HI8.out.next (ibt (ibt (ibt HB9.out HB10.out) HB11.out) HB12.out)) HI12.out (by omega) (by omega)).mono ?_; rw [decide_eq_true rfl]; rintro e w13 ⟨rfl, hb13⟩
  have HB13 := Lib.hid hb13
  clear hb13
  go_wp2_with fail
  refine (awake_any _).mono ?_; rintro e w14 ⟨rfl, hb14⟩
  have HB14 := Lib.hid hb14
  clear hb14
  go_wp2_with fail
  go_ret
  exact ⟨rfl, (ibt (ibt (ibt (ibt (ibt (ibt (ibt (ibt (ibt (ibt (ibt (ibt (ibt HB1.out HB2.out) HB3.out) HB4.out) HB5.out) HB6.out) HB7.out) HB8.out) HB9.out) HB10.out) HB11.out) HB12.out) HB13.out) HB14.out)⟩
set_option maxRecDepth 100000 in
set_option maxHeartbeats 1000000 in
theorem num_ttf (N : Nat) (t : Int) (A B : Option Addr) (la ca lb cb : Nat) (La Lb : List Int) (w : World) (h : IRow w w.heap.size A la La) (hwa : wl La = La) (hlc : la ≤ ca) (hc : ca ≤ maxLen) (hA : A = none → la = 0 ∧ ca = 0) (k : IRow w w.heap.size B lb Lb) (hwb : wl Lb = Lb) (klc : lb ≤ cb) (kc : cb ≤ maxLen) (hB : B = none → lb = 0 ∧ cb = 0)
    (hp : okN (N : Int) 1000 La = true) (hq : okN (N : Int) 1000 Lb = true) (hr : turnB (N : Int) t = false) :
    Calls Try.prog 7 #[.int .i64 (N : Int), .slice A la ca, .slice B lb cb, .int .i64 t] w fun e w' => e = .returned (.bool true) ∧ Below w.heap.size w w' := by
  have hla9 : la ≤ 9223372036854775807 := by unfold maxLen at hc; omega
  have hlb9 : lb ≤ 9223372036854775807 := by unfold maxLen at kc; omega
  have HRA := Lib.hid h
  have HRB := Lib.hid k
  have HWA := Lib.hid hwa
  have HWB := Lib.hid hwb
  have HLA : Hid (∀ w', Below w.heap.size w w' → Calls Try.prog 18 #[.slice A la ca] w' (GivesI w' (La.take 16))) := Lib.hid (fun w' hb => list_any A la ca La w' (h.next hb) hlc hc hA)
  have HLB : Hid (∀ w', Below w.heap.size w w' → Calls Try.prog 18 #[.slice B lb cb] w' (GivesI w' (Lb.take 16))) := Lib.hid (fun w' hb => list_any B lb cb Lb w' (k.next hb) klc kc hB)
  rw [okN_short hp] at HLA
  rw [okN_short hq] at HLB
  have HADD : Hid (∀ w' A1 n1 c1 A2 n2 c2, IRow w' w'.heap.size A1 n1 La → IRow w' w'.heap.size A2 n2 Lb → n1 ≤ 16 → n2 ≤ 16 → Calls Try.prog 25 #[.int .i64 (N : Int), .slice A1 n1 c1, .slice A2 n2 c2] w' (GivesIE w' (wl (addZ La Lb)) 0)) := Lib.hid (fun w' A1 n1 c1 A2 n2 c2 h1 h2 h3 h4 => by
    have h5 := Add_one (N : Int) A1 A2 n1 c1 n2 c2 La Lb w' h1 h2 hwa hwb (by omega) (by omega)
    have h6 : (okN (N : Int) 1000 La && okN (N : Int) 1000 Lb) = true := by rw [hp, hq]; rfl
    rw [if_pos h6, if_pos h6] at h5; exact h5)
  have HTIM : Hid (∀ w' A1 n1 c1 A2 n2 c2, IRow w' w'.heap.size A1 n1 La → IRow w' w'.heap.size A2 n2 Lb → n1 ≤ 16 → n2 ≤ 16 → Calls Try.prog 23 #[.int .i64 (N : Int), .slice A1 n1 c1, .slice A2 n2 c2] w' (GivesIE w' (wl (timesZ (cyc N) La Lb)) 0)) := Lib.hid (fun w' A1 n1 c1 A2 n2 c2 h1 h2 h3 h4 => by
    have h5 := Times_one (N : Int) A1 A2 n1 c1 n2 c2 La Lb w' h1 h2 hwa hwb (by omega) (by omega)
    have h6 : (okN (N : Int) 1000 La && okN (N : Int) 1000 Lb) = true := by rw [hp, hq]; rfl
    rw [if_pos h6, if_pos h6, Int.toNat_natCast] at h5; exact h5)
  have HTUR : Hid (∀ w' A1 n1 c1, IRow w' w'.heap.size A1 n1 La → n1 ≤ 16 → Calls Try.prog 26 #[.int .i64 (N : Int), .slice A1 n1 c1, .int .i64 t] w' (GivesIE w' ([]) 2)) := Lib.hid (fun w' A1 n1 c1 h1 h3 => by
    have h5 := Turn_one (N : Int) t A1 n1 c1 La w' h1 hwa (by omega)
    have h6 : (okN (N : Int) 1000 La && turnB (N : Int) t) = false := by rw [hp, hr]; rfl
    rw [if_neg (by rw [h6]; decide), if_neg (by rw [h6]; decide)] at h5; exact h5)
  have HP := Lib.hid hp
  have HQ := Lib.hid hq
  have HR := Lib.hid hr
  have hyp := okN_yes hp
  obtain ⟨hN1, hN15, hPL, _⟩ := hyp
  rw [Int.toNat_natCast] at hPL
  have hN1' : 1 ≤ N := by omega
  have hN15' : N ≤ 15 := by omega
  have hO := ord_len hN1' (show N < 16 by omega)
  have HPL := Lib.hid hPL
  have HPH : Hid ((cyc N).length = phi N + 1 ∧ 1 ≤ phi N ∧ phi N ≤ N) := Lib.hid ⟨hO.2.1, hO.2.2.1, phi_le N⟩
  have hla15 : 1 ≤ la ∧ la ≤ 15 := by have h1 := h.1; have h2 := HPH.out; omega
  have hyq := okN_yes hq
  have hQL := hyq.2.2.1
  rw [Int.toNat_natCast] at hQL
  obtain rfl : lb = la := by have h1 := h.1; have h2 := k.1; omega
  have HQL := Lib.hid hQL
  clear hyq hQL
  clear hN1 hN15 hPL hO
  clear h k hwa hwb hp hq hr
  go_enter Try.func7, Try.ntmps7
  go_wp2_with fail
  refine (HLA.out _ (Below.refl _ _)).mono ?_; rintro e w1 ⟨A1, n1, c1, rfl, how1, hA1, hb1⟩
  have HI1 := Lib.hid (IRow.of_own how1)
  have HN1 := Lib.hid how1.len
  have HB1 := Lib.hid hb1
  clear how1 hA1 hb1
  have hn1 : n1 ≤ 16 := by have := HN1.out; have h9 := HPL.out; have h10 := HPH.out; omega
  go_wp2_with fail
  refine (HLB.out _ HB1.out).mono ?_; rintro e w2 ⟨A2, n2, c2, rfl, how2, hA2, hb2⟩
  have HI2 := Lib.hid (IRow.of_own how2)
  have HN2 := Lib.hid how2.len
  have HB2 := Lib.hid hb2
  clear how2 hA2 hb2
  have hn2 : n2 ≤ 16 := by have := HN2.out; have h9 := HQL.out; have h10 := HPH.out; omega
  go_wp2_with fail
  refine (HADD.out _ _ _ _ _ _ _ (HI1.out.next HB2.out) HI2.out (by omega) (by omega)).mono ?_; rintro e w3 ⟨A3, n3, c3, rfl, how3, hA3, hb3⟩
  have HI3 := Lib.hid (IRow.of_own how3)
  have HN3 := Lib.hid how3.len
  have HB3 := Lib.hid hb3
  clear how3 hA3 hb3
  have hn3 : 1 ≤ n3 ∧ n3 ≤ 15 := by have h1 := HN3.out; have h2 := HPH.out; have h3 := HPL.out; rw [wl_len, addZ_len (by have h4 := HQL.out; omega), ← HPL.out.trans HQL.out.symm] at h1; omega
  obtain ⟨hn3a, hn3b⟩ := hn3
  go_wp2_with fail
  refine (HLA.out _ (ibt (ibt HB1.out HB2.out) HB3.out)).mono ?_; rintro e w4 ⟨A4, n4, c4, rfl, how4, hA4, hb4⟩
  have HI4 := Lib.hid (IRow.of_own how4)
  have HN4 := Lib.hid how4.len
  have HB4 := Lib.hid hb4
  clear how4 hA4 hb4
  have hn4 : n4 ≤ 16 := by have := HN4.out; have h9 := HPL.out; have h10 := HPH.out; omega
  go_wp2_with fail
  refine (HLB.out _ (ibt (ibt (ibt HB1.out HB2.out) HB3.out) HB4.out)).mono ?_; rintro e w5 ⟨A5, n5, c5, rfl, how5, hA5, hb5⟩
  have HI5 := Lib.hid (IRow.of_own how5)
  have HN5 := Lib.hid how5.len
  have HB5 := Lib.hid hb5
  clear how5 hA5 hb5
  have hn5 : n5 ≤ 16 := by have := HN5.out; have h9 := HQL.out; have h10 := HPH.out; omega
  go_wp2_with fail
  refine (HTIM.out _ _ _ _ _ _ _ (HI4.out.next HB5.out) HI5.out (by omega) (by omega)).mono ?_; rintro e w6 ⟨A6, n6, c6, rfl, how6, hA6, hb6⟩
  have HI6 := Lib.hid (IRow.of_own how6)
  have HN6 := Lib.hid how6.len
  have HB6 := Lib.hid hb6
  clear how6 hA6 hb6
  have hn6 : 1 ≤ n6 ∧ n6 ≤ 15 := by have h1 := HN6.out; have h2 := HPH.out; have h3 := HPL.out; rw [wl_len, times_len] at h1; omega
  obtain ⟨hn6a, hn6b⟩ := hn6
  go_wp2_with fail
  refine (HLA.out _ (ibt (ibt (ibt (ibt (ibt HB1.out HB2.out) HB3.out) HB4.out) HB5.out) HB6.out)).mono ?_; rintro e w7 ⟨A7, n7, c7, rfl, how7, hA7, hb7⟩
  have HI7 := Lib.hid (IRow.of_own how7)
  have HN7 := Lib.hid how7.len
  have HB7 := Lib.hid hb7
  clear how7 hA7 hb7
  have hn7 : n7 ≤ 16 := by have := HN7.out; have h9 := HPL.out; have h10 := HPH.out; omega
  go_wp2_with fail
  refine (HTUR.out _ _ _ _ HI7.out (by omega)).mono ?_; rintro e w8 ⟨A8, n8, c8, rfl, how8, hA8, hb8⟩
  have HI8 := Lib.hid (IRow.of_own how8)
  have HN8 := Lib.hid how8.len
  have HB8 := Lib.hid hb8
  clear how8 hA8 hb8
  obtain rfl : n8 = 0 := HN8.out
  go_wp2_with fail
  refine (number_any (N : Int) A lb ca La 1000 _ (HRA.out.next (ibt (ibt (ibt (ibt (ibt (ibt (ibt HB1.out HB2.out) HB3.out) HB4.out) HB5.out) HB6.out) HB7.out) HB8.out)) hla9 (by omega) (by omega)).mono ?_; rw [HP.out]; rintro e w9 ⟨rfl, hb9⟩
  have HB9 := Lib.hid hb9
  clear hb9
  go_wp2_with fail
  refine (number_any (N : Int) B lb cb Lb 1000 _ (HRB.out.next (ibt (ibt (ibt (ibt (ibt (ibt (ibt (ibt HB1.out HB2.out) HB3.out) HB4.out) HB5.out) HB6.out) HB7.out) HB8.out) HB9.out)) hlb9 (by omega) (by omega)).mono ?_; rw [HQ.out]; rintro e w10 ⟨rfl, hb10⟩
  have HB10 := Lib.hid hb10
  clear hb10
  go_wp2_with fail
  refine (radd_any A B lb ca cb La Lb _ (by rw [HWA.out]; exact HRA.out.next (ibt (ibt (ibt (ibt (ibt (ibt (ibt (ibt (ibt HB1.out HB2.out) HB3.out) HB4.out) HB5.out) HB6.out) HB7.out) HB8.out) HB9.out) HB10.out)) (by rw [HWB.out]; exact HRB.out.next (ibt (ibt (ibt (ibt (ibt (ibt (ibt (ibt (ibt HB1.out HB2.out) HB3.out) HB4.out) HB5.out) HB6.out) HB7.out) HB8.out) HB9.out) HB10.out)) (by omega)).mono ?_; rintro e w11 ⟨A11, n11, c11, rfl, how11, hA11, hb11⟩
  have HI11 := Lib.hid (IRow.of_own how11)
  have HN11 := Lib.hid how11.len
  have HB11 := Lib.hid hb11
  clear how11 hA11 hb11
  have hn11 : 1 ≤ n11 ∧ n11 ≤ 15 := by have h1 := HN11.out; have h2 := HPH.out; have h3 := HPL.out; rw [wl_len, addZ_len (by have h4 := HQL.out; omega), ← HPL.out.trans HQL.out.symm] at h1; omega
  obtain ⟨hn11a, hn11b⟩ := hn11
  go_wp2_with fail
  refine (equal_b A3 A11 n3 n11 c3 c11 _ _ _ (HI3.out.next (ibt (ibt (ibt (ibt (ibt (ibt (ibt HB4.out HB5.out) HB6.out) HB7.out) HB8.out) HB9.out) HB10.out) HB11.out)) HI11.out (by omega) (by omega)).mono ?_; rw [decide_eq_true rfl]; rintro e w12 ⟨rfl, hb12⟩
  have HB12 := Lib.hid hb12
  clear hb12
  go_wp2_with fail
  refine (rtimes_any N A B lb lb ca cb La Lb _ (by rw [HWA.out]; exact HRA.out.next (ibt (ibt (ibt (ibt (ibt (ibt (ibt (ibt (ibt (ibt (ibt HB1.out HB2.out) HB3.out) HB4.out) HB5.out) HB6.out) HB7.out) HB8.out) HB9.out) HB10.out) HB11.out) HB12.out)) (by rw [HWB.out]; exact HRB.out.next (ibt (ibt (ibt (ibt (ibt (ibt (ibt (ibt (ibt (ibt (ibt HB1.out HB2.out) HB3.out) HB4.out) HB5.out) HB6.out) HB7.out) HB8.out) HB9.out) HB10.out) HB11.out) HB12.out)) hN1' (by omega) (by omega) (by omega) (by omega) (by omega)).mono ?_; rintro e w13 ⟨A13, n13, c13, rfl, how13, hA13, hb13⟩
  have HI13 := Lib.hid (IRow.of_own how13)
  have HN13 := Lib.hid how13.len
  have HB13 := Lib.hid hb13
  clear how13 hA13 hb13
  have hn13 : 1 ≤ n13 ∧ n13 ≤ 15 := by have h1 := HN13.out; have h2 := HPH.out; have h3 := HPL.out; rw [wl_len, times_len] at h1; omega
  obtain ⟨hn13a, hn13b⟩ := hn13
  go_wp2_with fail
  refine (equal_b A6 A13 n6 n13 c6 c13 _ _ _ (HI6.out.next (ibt (ibt (ibt (ibt (ibt (ibt HB7.out HB8.out) HB9.out) HB10.out) HB11.out) HB12.out) HB13.out)) HI13.out (by omega) (by omega)).mono ?_; rw [decide_eq_true rfl]; rintro e w14 ⟨rfl, hb14⟩
  have HB14 := Lib.hid hb14
  clear hb14
  go_wp2_with fail
  refine (rturns_any N t _ (by omega)).mono ?_; rw [HR.out]; rintro e w15 ⟨rfl, hb15⟩
  have HB15 := Lib.hid hb15
  clear hb15
  go_wp2_with fail
  refine (awake_any _).mono ?_; rintro e w16 ⟨rfl, hb16⟩
  have HB16 := Lib.hid hb16
  clear hb16
  go_wp2_with fail
  go_ret
  exact ⟨rfl, (ibt (ibt (ibt (ibt (ibt (ibt (ibt (ibt (ibt (ibt (ibt (ibt (ibt (ibt (ibt HB1.out HB2.out) HB3.out) HB4.out) HB5.out) HB6.out) HB7.out) HB8.out) HB9.out) HB10.out) HB11.out) HB12.out) HB13.out) HB14.out) HB15.out) HB16.out)⟩
set_option maxRecDepth 100000 in
set_option maxHeartbeats 1000000 in
theorem num_ttt (N T : Nat) (A B : Option Addr) (la ca lb cb : Nat) (La Lb : List Int) (w : World) (h : IRow w w.heap.size A la La) (hwa : wl La = La) (hlc : la ≤ ca) (hc : ca ≤ maxLen) (hA : A = none → la = 0 ∧ ca = 0) (k : IRow w w.heap.size B lb Lb) (hwb : wl Lb = Lb) (klc : lb ≤ cb) (kc : cb ≤ maxLen) (hB : B = none → lb = 0 ∧ cb = 0)
    (hp : okN (N : Int) 1000 La = true) (hq : okN (N : Int) 1000 Lb = true) (hr : turnB (N : Int) (T : Int) = true) :
    Calls Try.prog 7 #[.int .i64 (N : Int), .slice A la ca, .slice B lb cb, .int .i64 (T : Int)] w fun e w' => e = .returned (.bool true) ∧ Below w.heap.size w w' := by
  have hla9 : la ≤ 9223372036854775807 := by unfold maxLen at hc; omega
  have hlb9 : lb ≤ 9223372036854775807 := by unfold maxLen at kc; omega
  have HRA := Lib.hid h
  have HRB := Lib.hid k
  have HWA := Lib.hid hwa
  have HWB := Lib.hid hwb
  have HLA : Hid (∀ w', Below w.heap.size w w' → Calls Try.prog 18 #[.slice A la ca] w' (GivesI w' (La.take 16))) := Lib.hid (fun w' hb => list_any A la ca La w' (h.next hb) hlc hc hA)
  have HLB : Hid (∀ w', Below w.heap.size w w' → Calls Try.prog 18 #[.slice B lb cb] w' (GivesI w' (Lb.take 16))) := Lib.hid (fun w' hb => list_any B lb cb Lb w' (k.next hb) klc kc hB)
  rw [okN_short hp] at HLA
  rw [okN_short hq] at HLB
  have HADD : Hid (∀ w' A1 n1 c1 A2 n2 c2, IRow w' w'.heap.size A1 n1 La → IRow w' w'.heap.size A2 n2 Lb → n1 ≤ 16 → n2 ≤ 16 → Calls Try.prog 25 #[.int .i64 (N : Int), .slice A1 n1 c1, .slice A2 n2 c2] w' (GivesIE w' (wl (addZ La Lb)) 0)) := Lib.hid (fun w' A1 n1 c1 A2 n2 c2 h1 h2 h3 h4 => by
    have h5 := Add_one (N : Int) A1 A2 n1 c1 n2 c2 La Lb w' h1 h2 hwa hwb (by omega) (by omega)
    have h6 : (okN (N : Int) 1000 La && okN (N : Int) 1000 Lb) = true := by rw [hp, hq]; rfl
    rw [if_pos h6, if_pos h6] at h5; exact h5)
  have HTIM : Hid (∀ w' A1 n1 c1 A2 n2 c2, IRow w' w'.heap.size A1 n1 La → IRow w' w'.heap.size A2 n2 Lb → n1 ≤ 16 → n2 ≤ 16 → Calls Try.prog 23 #[.int .i64 (N : Int), .slice A1 n1 c1, .slice A2 n2 c2] w' (GivesIE w' (wl (timesZ (cyc N) La Lb)) 0)) := Lib.hid (fun w' A1 n1 c1 A2 n2 c2 h1 h2 h3 h4 => by
    have h5 := Times_one (N : Int) A1 A2 n1 c1 n2 c2 La Lb w' h1 h2 hwa hwb (by omega) (by omega)
    have h6 : (okN (N : Int) 1000 La && okN (N : Int) 1000 Lb) = true := by rw [hp, hq]; rfl
    rw [if_pos h6, if_pos h6, Int.toNat_natCast] at h5; exact h5)
  have HTUR : Hid (∀ w' A1 n1 c1, IRow w' w'.heap.size A1 n1 La → n1 ≤ 16 → Calls Try.prog 26 #[.int .i64 (N : Int), .slice A1 n1 c1, .int .i64 (T : Int)] w' (GivesIE w' (wl (turnZ (cyc N) N T La)) 0)) := Lib.hid (fun w' A1 n1 c1 h1 h3 => by
    have h5 := Turn_one (N : Int) (T : Int) A1 n1 c1 La w' h1 hwa (by omega)
    have h6 : (okN (N : Int) 1000 La && turnB (N : Int) (T : Int)) = true := by rw [hp, hr]; rfl
    rw [if_pos h6, if_pos h6, Int.toNat_natCast, Int.toNat_natCast] at h5; exact h5)
  have HP := Lib.hid hp
  have HQ := Lib.hid hq
  have HR := Lib.hid hr
  have hyp := okN_yes hp
  obtain ⟨hN1, hN15, hPL, _⟩ := hyp
  rw [Int.toNat_natCast] at hPL
  have hN1' : 1 ≤ N := by omega
  have hN15' : N ≤ 15 := by omega
  have hO := ord_len hN1' (show N < 16 by omega)
  have HPL := Lib.hid hPL
  have HPH : Hid ((cyc N).length = phi N + 1 ∧ 1 ≤ phi N ∧ phi N ≤ N) := Lib.hid ⟨hO.2.1, hO.2.2.1, phi_le N⟩
  have hla15 : 1 ≤ la ∧ la ≤ 15 := by have h1 := h.1; have h2 := HPH.out; omega
  have hyq := okN_yes hq
  have hQL := hyq.2.2.1
  rw [Int.toNat_natCast] at hQL
  obtain rfl : lb = la := by have h1 := h.1; have h2 := k.1; omega
  have HQL := Lib.hid hQL
  clear hyq hQL
  have hT : T ≤ 15 := by
    have ht2 := hr
    unfold turnB at ht2
    have ht3 := of_decide_eq_true ht2
    omega
  clear hN1 hN15 hPL hO
  clear h k hwa hwb hp hq hr
  go_enter Try.func7, Try.ntmps7
  go_wp2_with fail
  refine (HLA.out _ (Below.refl _ _)).mono ?_; rintro e w1 ⟨A1, n1, c1, rfl, how1, hA1, hb1⟩
  have HI1 := Lib.hid (IRow.of_own how1)
  have HN1 := Lib.hid how1.len
  have HB1 := Lib.hid hb1
  clear how1 hA1 hb1
  have hn1 : n1 ≤ 16 := by have := HN1.out; have h9 := HPL.out; have h10 := HPH.out; omega
  go_wp2_with fail
  refine (HLB.out _ HB1.out).mono ?_; rintro e w2 ⟨A2, n2, c2, rfl, how2, hA2, hb2⟩
  have HI2 := Lib.hid (IRow.of_own how2)
  have HN2 := Lib.hid how2.len
  have HB2 := Lib.hid hb2
  clear how2 hA2 hb2
  have hn2 : n2 ≤ 16 := by have := HN2.out; have h9 := HQL.out; have h10 := HPH.out; omega
  go_wp2_with fail
  refine (HADD.out _ _ _ _ _ _ _ (HI1.out.next HB2.out) HI2.out (by omega) (by omega)).mono ?_; rintro e w3 ⟨A3, n3, c3, rfl, how3, hA3, hb3⟩
  have HI3 := Lib.hid (IRow.of_own how3)
  have HN3 := Lib.hid how3.len
  have HB3 := Lib.hid hb3
  clear how3 hA3 hb3
  have hn3 : 1 ≤ n3 ∧ n3 ≤ 15 := by have h1 := HN3.out; have h2 := HPH.out; have h3 := HPL.out; rw [wl_len, addZ_len (by have h4 := HQL.out; omega), ← HPL.out.trans HQL.out.symm] at h1; omega
  obtain ⟨hn3a, hn3b⟩ := hn3
  go_wp2_with fail
  refine (HLA.out _ (ibt (ibt HB1.out HB2.out) HB3.out)).mono ?_; rintro e w4 ⟨A4, n4, c4, rfl, how4, hA4, hb4⟩
  have HI4 := Lib.hid (IRow.of_own how4)
  have HN4 := Lib.hid how4.len
  have HB4 := Lib.hid hb4
  clear how4 hA4 hb4
  have hn4 : n4 ≤ 16 := by have := HN4.out; have h9 := HPL.out; have h10 := HPH.out; omega
  go_wp2_with fail
  refine (HLB.out _ (ibt (ibt (ibt HB1.out HB2.out) HB3.out) HB4.out)).mono ?_; rintro e w5 ⟨A5, n5, c5, rfl, how5, hA5, hb5⟩
  have HI5 := Lib.hid (IRow.of_own how5)
  have HN5 := Lib.hid how5.len
  have HB5 := Lib.hid hb5
  clear how5 hA5 hb5
  have hn5 : n5 ≤ 16 := by have := HN5.out; have h9 := HQL.out; have h10 := HPH.out; omega
  go_wp2_with fail
  refine (HTIM.out _ _ _ _ _ _ _ (HI4.out.next HB5.out) HI5.out (by omega) (by omega)).mono ?_; rintro e w6 ⟨A6, n6, c6, rfl, how6, hA6, hb6⟩
  have HI6 := Lib.hid (IRow.of_own how6)
  have HN6 := Lib.hid how6.len
  have HB6 := Lib.hid hb6
  clear how6 hA6 hb6
  have hn6 : 1 ≤ n6 ∧ n6 ≤ 15 := by have h1 := HN6.out; have h2 := HPH.out; have h3 := HPL.out; rw [wl_len, times_len] at h1; omega
  obtain ⟨hn6a, hn6b⟩ := hn6
  go_wp2_with fail
  refine (HLA.out _ (ibt (ibt (ibt (ibt (ibt HB1.out HB2.out) HB3.out) HB4.out) HB5.out) HB6.out)).mono ?_; rintro e w7 ⟨A7, n7, c7, rfl, how7, hA7, hb7⟩
  have HI7 := Lib.hid (IRow.of_own how7)
  have HN7 := Lib.hid how7.len
  have HB7 := Lib.hid hb7
  clear how7 hA7 hb7
  have hn7 : n7 ≤ 16 := by have := HN7.out; have h9 := HPL.out; have h10 := HPH.out; omega
  go_wp2_with fail
  refine (HTUR.out _ _ _ _ HI7.out (by omega)).mono ?_; rintro e w8 ⟨A8, n8, c8, rfl, how8, hA8, hb8⟩
  have HI8 := Lib.hid (IRow.of_own how8)
  have HN8 := Lib.hid how8.len
  have HB8 := Lib.hid hb8
  clear how8 hA8 hb8
  have hn8 : 1 ≤ n8 ∧ n8 ≤ 15 := by have h1 := HN8.out; have h2 := HPH.out; have h3 := HPL.out; rw [wl_len, turn_len] at h1; omega
  obtain ⟨hn8a, hn8b⟩ := hn8
  go_wp2_with fail
  refine (number_any (N : Int) A lb ca La 1000 _ (HRA.out.next (ibt (ibt (ibt (ibt (ibt (ibt (ibt HB1.out HB2.out) HB3.out) HB4.out) HB5.out) HB6.out) HB7.out) HB8.out)) hla9 (by omega) (by omega)).mono ?_; rw [HP.out]; rintro e w9 ⟨rfl, hb9⟩
  have HB9 := Lib.hid hb9
  clear hb9
  go_wp2_with fail
  refine (number_any (N : Int) B lb cb Lb 1000 _ (HRB.out.next (ibt (ibt (ibt (ibt (ibt (ibt (ibt (ibt HB1.out HB2.out) HB3.out) HB4.out) HB5.out) HB6.out) HB7.out) HB8.out) HB9.out)) hlb9 (by omega) (by omega)).mono ?_; rw [HQ.out]; rintro e w10 ⟨rfl, hb10⟩
  have HB10 := Lib.hid hb10
  clear hb10
  go_wp2_with fail
  refine (radd_any A B lb ca cb La Lb _ (by rw [HWA.out]; exact HRA.out.next (ibt (ibt (ibt (ibt (ibt (ibt (ibt (ibt (ibt HB1.out HB2.out) HB3.out) HB4.out) HB5.out) HB6.out) HB7.out) HB8.out) HB9.out) HB10.out)) (by rw [HWB.out]; exact HRB.out.next (ibt (ibt (ibt (ibt (ibt (ibt (ibt (ibt (ibt HB1.out HB2.out) HB3.out) HB4.out) HB5.out) HB6.out) HB7.out) HB8.out) HB9.out) HB10.out)) (by omega)).mono ?_; rintro e w11 ⟨A11, n11, c11, rfl, how11, hA11, hb11⟩
  have HI11 := Lib.hid (IRow.of_own how11)
  have HN11 := Lib.hid how11.len
  have HB11 := Lib.hid hb11
  clear how11 hA11 hb11
  have hn11 : 1 ≤ n11 ∧ n11 ≤ 15 := by have h1 := HN11.out; have h2 := HPH.out; have h3 := HPL.out; rw [wl_len, addZ_len (by have h4 := HQL.out; omega), ← HPL.out.trans HQL.out.symm] at h1; omega
  obtain ⟨hn11a, hn11b⟩ := hn11
  go_wp2_with fail
  refine (equal_b A3 A11 n3 n11 c3 c11 _ _ _ (HI3.out.next (ibt (ibt (ibt (ibt (ibt (ibt (ibt HB4.out HB5.out) HB6.out) HB7.out) HB8.out) HB9.out) HB10.out) HB11.out)) HI11.out (by omega) (by omega)).mono ?_; rw [decide_eq_true rfl]; rintro e w12 ⟨rfl, hb12⟩
  have HB12 := Lib.hid hb12
  clear hb12
  go_wp2_with fail
  refine (rtimes_any N A B lb lb ca cb La Lb _ (by rw [HWA.out]; exact HRA.out.next (ibt (ibt (ibt (ibt (ibt (ibt (ibt (ibt (ibt (ibt (ibt HB1.out HB2.out) HB3.out) HB4.out) HB5.out) HB6.out) HB7.out) HB8.out) HB9.out) HB10.out) HB11.out) HB12.out)) (by rw [HWB.out]; exact HRB.out.next (ibt (ibt (ibt (ibt (ibt (ibt (ibt (ibt (ibt (ibt (ibt HB1.out HB2.out) HB3.out) HB4.out) HB5.out) HB6.out) HB7.out) HB8.out) HB9.out) HB10.out) HB11.out) HB12.out)) hN1' (by omega) (by omega) (by omega) (by omega) (by omega)).mono ?_; rintro e w13 ⟨A13, n13, c13, rfl, how13, hA13, hb13⟩
  have HI13 := Lib.hid (IRow.of_own how13)
  have HN13 := Lib.hid how13.len
  have HB13 := Lib.hid hb13
  clear how13 hA13 hb13
  have hn13 : 1 ≤ n13 ∧ n13 ≤ 15 := by have h1 := HN13.out; have h2 := HPH.out; have h3 := HPL.out; rw [wl_len, times_len] at h1; omega
  obtain ⟨hn13a, hn13b⟩ := hn13
  go_wp2_with fail
  refine (equal_b A6 A13 n6 n13 c6 c13 _ _ _ (HI6.out.next (ibt (ibt (ibt (ibt (ibt (ibt HB7.out HB8.out) HB9.out) HB10.out) HB11.out) HB12.out) HB13.out)) HI13.out (by omega) (by omega)).mono ?_; rw [decide_eq_true rfl]; rintro e w14 ⟨rfl, hb14⟩
  have HB14 := Lib.hid hb14
  clear hb14
  go_wp2_with fail
  refine (rturns_any N (T : Int) _ (by omega)).mono ?_; rw [HR.out]; rintro e w15 ⟨rfl, hb15⟩
  have HB15 := Lib.hid hb15
  clear hb15
  go_wp2_with fail
  refine (rturn_any N T A lb ca La _ (by rw [HWA.out]; exact HRA.out.next (ibt (ibt (ibt (ibt (ibt (ibt (ibt (ibt (ibt (ibt (ibt (ibt (ibt (ibt HB1.out HB2.out) HB3.out) HB4.out) HB5.out) HB6.out) HB7.out) HB8.out) HB9.out) HB10.out) HB11.out) HB12.out) HB13.out) HB14.out) HB15.out)) hN1' (by omega) (by omega) (by omega)).mono ?_; rintro e w16 ⟨A16, n16, c16, rfl, how16, hA16, hb16⟩
  have HI16 := Lib.hid (IRow.of_own how16)
  have HN16 := Lib.hid how16.len
  have HB16 := Lib.hid hb16
  clear how16 hA16 hb16
  have hn16 : 1 ≤ n16 ∧ n16 ≤ 15 := by have h1 := HN16.out; have h2 := HPH.out; have h3 := HPL.out; rw [wl_len, turn_len] at h1; omega
  obtain ⟨hn16a, hn16b⟩ := hn16
  go_wp2_with fail
  refine (equal_b A8 A16 n8 n16 c8 c16 _ _ _ (HI8.out.next (ibt (ibt (ibt (ibt (ibt (ibt (ibt HB9.out HB10.out) HB11.out) HB12.out) HB13.out) HB14.out) HB15.out) HB16.out)) HI16.out (by omega) (by omega)).mono ?_; rw [decide_eq_true rfl]; rintro e w17 ⟨rfl, hb17⟩
  have HB17 := Lib.hid hb17
  clear hb17
  go_wp2_with fail
  refine (awake_any _).mono ?_; rintro e w18 ⟨rfl, hb18⟩
  have HB18 := Lib.hid hb18
  clear hb18
  go_wp2_with fail
  go_ret
  exact ⟨rfl, (ibt (ibt (ibt (ibt (ibt (ibt (ibt (ibt (ibt (ibt (ibt (ibt (ibt (ibt (ibt (ibt (ibt HB1.out HB2.out) HB3.out) HB4.out) HB5.out) HB6.out) HB7.out) HB8.out) HB9.out) HB10.out) HB11.out) HB12.out) HB13.out) HB14.out) HB15.out) HB16.out) HB17.out) HB18.out)⟩
end Go.Proofs.Ytmljndjiipgpdaa
