/- Norms and traces: the walks of the program's functions. -/
import Derived.Test.YtmljndjiipgpdaaEx
namespace Go.Proofs.Ytmljndjiipgpdaa
open Go Go.RowKit GhP

theorem beg_one : ∀ n, n < 16 → 1 ≤ n → (List.replicate (phi n) 0).set 0 1 = wl (one (cyc n)) := by decide +kernel
theorem beg_zero {n : Nat} (_h1 : 1 ≤ n) (_h2 : n < 16) : (List.replicate (phi n) (0 : Int)).set 0 0 = wl (List.replicate (phi n) 0) := by
  rw [wl_zeros]
  apply List.ext_getElem?
  intro k
  rw [List.getElem?_set]
  by_cases h : 0 = k
  · subst h; rw [if_pos rfl, List.getElem?_replicate]; simp
  · rw [if_neg h]

set_option maxRecDepth 100000 in
set_option maxHeartbeats 1000000 in
theorem Norm_no (n : Int) (A : Option Addr) (la ca : Nat) (L : List Int) (w : World) (h : IRow w w.heap.size A la L) (hl : la ≤ 1000000) (hn : okN n 2 L = false) :
    Calls Try.prog 17 #[.int .i64 n, .slice A la ca] w fun e w' => e = .returned (.tuple #[.int .i64 0, .int .i64 2]) ∧ Below w.heap.size w w' := by
  by_cases ho : 1 ≤ n ∧ n ≤ 15
  · obtain ⟨N, rfl⟩ : ∃ N : Nat, n = N := ⟨n.toNat, by omega⟩
    rw [okN_in (by omega) (by omega)] at hn
    have HRD : Hid (∀ T, Calls Try.prog 35 #[.int .i64 (N : Int), .int .i64 2, .slice (some ⟨w.heap.size, 0, none⟩) 1 1] (w.alloc (Obj.cells #[.slice A la ca] T)) (GivesRead (w.alloc (Obj.cells #[.slice A la ca] T)) N false)) := Lib.hid (fun T => by
      have := read_yes N 2 w.heap.size [(A, la, ca, L)] _ (by omega) (by omega) (slrow1 T h hl) (by simp) (by omega) (by omega)
      have e : allB (phi N) 2 [(A, la, ca, L)] = false := by unfold allB; simpa using hn
      rw [e] at this; exact this)
    clear h hn
    go_enter Try.func17, Try.ntmps17
    go_wp2_with fail
    refine (HRD.out _).mono ?_; rintro e w1 ⟨R, m, d, rfl, hir, hme, hb1⟩
    have HB1 : Hid (Below w.heap.size w w1) := Lib.hid (ibt ((Below.refl _ _).alloc (Nat.le_refl _) _) hb1)
    clear hb1 hir hme
    go_wp2_with fail
    go_ret2
    exact ⟨rfl, HB1.out.alloc HB1.out.size _⟩
  · have HRD : Hid (∀ v w', Calls Try.prog 35 #[.int .i64 n, .int .i64 2, v] w' fun e w'' => e = .returned (.tuple #[.agg #[.int .i64 0, .slice none 0 0], .bool false]) ∧ Below w'.heap.size w' w'') := Lib.hid (fun v w' => read_no n 2 v w' (by omega))
    clear h hn ho
    go_enter Try.func17, Try.ntmps17
    go_wp2_with fail
    refine (HRD.out _ _).mono ?_; rintro e w1 ⟨rfl, hb1⟩
    have HB1 : Hid (Below w.heap.size w w1) := Lib.hid (ibt ((Below.refl _ _).alloc (Nat.le_refl _) _) hb1)
    clear hb1
    go_wp2_with fail
    go_ret2
    exact ⟨rfl, HB1.out.alloc HB1.out.size _⟩

set_option maxRecDepth 100000 in
set_option maxHeartbeats 1000000 in
theorem Norm_yes (n : Nat) (A : Option Addr) (la ca : Nat) (L : List Int) (w : World) (h : IRow w w.heap.size A la (wl L)) (hn : okN n 2 (wl L) = true) :
    Calls Try.prog 17 #[.int .i64 (n : Int), .slice A la ca] w fun e w' => e = .returned (.tuple #[.int .i64 (wrap64 ((normZ n L).getD 0 0)), .int .i64 0]) ∧ Below w.heap.size w w' := by
  obtain ⟨a1, a2, a3, a4⟩ := okN_yes hn
  rw [Int.toNat_natCast, wl_len] at a3
  have hla : la = phi n := by have := h.1; rw [wl_len] at this; omega
  have hp1 := (ord_len (n := n) (by omega) (by omega)).2.2.1
  have hp2 : phi n ≤ n := phiK_le n n
  have HRD : Hid (∀ T, Calls Try.prog 35 #[.int .i64 (n : Int), .int .i64 2, .slice (some ⟨w.heap.size, 0, none⟩) 1 1] (w.alloc (Obj.cells #[.slice A la ca] T)) (GivesRead (w.alloc (Obj.cells #[.slice A la ca] T)) n true)) := Lib.hid (fun T => by
    have := read_yes n 2 w.heap.size [(A, la, ca, wl L)] _ (by omega) (by omega) (slrow1 T h (by omega)) (by simp) (by omega) (by omega)
    rw [okN_in (by omega) (by omega)] at hn
    have e : allB (phi n) 2 [(A, la, ca, wl L)] = true := by unfold allB; simpa using hn
    rw [e] at this; exact this)
  have HF := Lib.hid h
  have HLP : Hid (la = phi n ∧ 1 ≤ phi n ∧ phi n ≤ n) := Lib.hid ⟨hla, hp1, hp2⟩
  have hn1 : 1 ≤ n := by omega
  have hn15 : n ≤ 15 := by omega
  have HBEG := Lib.hid ((fun h1 h2 => beg_one n h2 h1) hn1 (show n < 16 by omega))
  clear h hn a1 a2 a3 a4 hla hp1 hp2
  go_enter Try.func17, Try.ntmps17
  go_wp2_with fail
  refine (HRD.out _).mono ?_; rintro e w1 ⟨R, m, d, rfl, hir, hme, hb1⟩
  have HB1 : Hid (Below w.heap.size w w1) := Lib.hid (ibt ((Below.refl _ _).alloc (Nat.le_refl _) _) hb1)
  have hm2 : 2 ≤ m := by have := HLP.out; omega
  have hm100 : m ≤ 100 := by have := HLP.out; omega
  have HME := Lib.hid hme
  have HIR := Lib.hid hir
  obtain ⟨w2, hw2⟩ : ∃ w2, rgBox w1 n R m d = w2 := ⟨_, rfl⟩
  have HB12 : Hid (Below w1.heap.size w1 w2) := Lib.hid (by rw [← hw2]; exact (Below.refl _ _).alloc (Nat.le_refl _) _)
  have HK : Hid (∀ w', Below w2.heap.size w2 w' → w'.cell? ⟨w1.heap.size, 0, none⟩ = some (.int .i64 (n : Int)) ∧ w'.cell? ⟨w1.heap.size, 1, none⟩ = some (.slice R m d)) := Lib.hid (fun w' hb => by
    have : w2.heap.size = w1.heap.size + 1 := by rw [← hw2]; simp
    rw [this, ← hw2] at hb
    exact rg_cells hb)
  have HWH : Hid (∀ w', Calls Try.prog 42 #[rgV n R m d, .int .i64 1] w' (GivesI w' ((List.replicate (m - 1) 0).set 0 1))) := Lib.hid (fun w' => whole_any n R m d 1 w' hm2 hm100)
  have HFO : Hid (∀ w' B cb, Below w2.heap.size w2 w' → IRow w' w'.heap.size B (phi n) (wl (one (cyc n))) → Calls Try.prog 41 #[rgV n R m d, .slice A la ca, .slice B la cb, .func (.func 43) #[rgV n R m d] #[]] w' fun e w'' => e = .returned (.int .i64 (wrap64 ((normZ n L).getD 0 0))) ∧ Below w'.heap.size w' w'') := Lib.hid (fun w' B cb hb hi => by
    have h3 := HF.out.next (ibt HB1.out (ibt HB12.out hb))
    have h4 := HLP.out.1
    rw [h4] at h3 ⊢
    exact fold_times n A B R m d ca cb L (one (cyc n)) w' hn1 hn15 (HIR.out.next (ibt HB12.out hb)) h3 hi)
  obtain ⟨x1, x2⟩ := HK.out w2 (Below.refl _ _)
  clear hb1 hir hme
  go_wp2_with fail
  try rw [hw2]
  go_region_held3 (fun w' => w'.cell? ⟨w1.heap.size, 0, none⟩ = some (.int .i64 (n : Int)) ∧ w'.cell? ⟨w1.heap.size, 1, none⟩ = some (.slice R m d)) (first | exact ⟨x1, x2⟩ | exact ⟨y1, y2⟩ | exact ⟨z1, z2⟩ | go_keep)
    (first
    | (go_at_call 42; refine (HWH.out _).mono ?_; rintro e w3 ⟨B3, n3, c3, rfl, how3, hA3, hb3⟩; obtain ⟨y1, y2⟩ := HK.out w3 (ibt (Below.refl _ _).drew hb3); obtain rfl : n3 = la := (by have h5 := how3.len; simp at h5; have h6 := HME.out; have h7 := HLP.out; omega); have HI3 : Hid (IRow w3 w3.heap.size B3 (phi n) (wl (one (cyc n)))) := Lib.hid (by have h6 := HME.out; have h8 := IRow.of_own how3; rw [show m - 1 = phi n by omega, HBEG.out] at h8; have h9 := HLP.out.1; rw [h9] at h8; exact h8))
    | (go_at_call 41; refine (HFO.out w3 B3 c3 (ibt (Below.refl _ _).drew hb3) HI3.out).mono ?_; rintro e w4 ⟨rfl, hb4⟩; obtain ⟨z1, z2⟩ := HK.out w4 (ibt (ibt (Below.refl _ _).drew hb3) hb4)))
  all_goals
    go_wp2_with fail
    go_ret2
    exact ⟨rfl, ibt HB1.out (ibt HB12.out (ibt (ibt (Below.refl _ _).drew hb3) hb4))⟩

set_option maxRecDepth 100000 in
set_option maxHeartbeats 1000000 in
theorem Trace_no (n : Int) (A : Option Addr) (la ca : Nat) (L : List Int) (w : World) (h : IRow w w.heap.size A la L) (hl : la ≤ 1000000) (hn : okN n 1000 L = false) :
    Calls Try.prog 19 #[.int .i64 n, .slice A la ca] w fun e w' => e = .returned (.tuple #[.int .i64 0, .int .i64 2]) ∧ Below w.heap.size w w' := by
  by_cases ho : 1 ≤ n ∧ n ≤ 15
  · obtain ⟨N, rfl⟩ : ∃ N : Nat, n = N := ⟨n.toNat, by omega⟩
    rw [okN_in (by omega) (by omega)] at hn
    have HRD : Hid (∀ T, Calls Try.prog 35 #[.int .i64 (N : Int), .int .i64 1000, .slice (some ⟨w.heap.size, 0, none⟩) 1 1] (w.alloc (Obj.cells #[.slice A la ca] T)) (GivesRead (w.alloc (Obj.cells #[.slice A la ca] T)) N false)) := Lib.hid (fun T => by
      have := read_yes N 1000 w.heap.size [(A, la, ca, L)] _ (by omega) (by omega) (slrow1 T h hl) (by simp) (by omega) (by omega)
      have e : allB (phi N) 1000 [(A, la, ca, L)] = false := by unfold allB; simpa using hn
      rw [e] at this; exact this)
    clear h hn
    go_enter Try.func19, Try.ntmps19
    go_wp2_with fail
    refine (HRD.out _).mono ?_; rintro e w1 ⟨R, m, d, rfl, hir, hme, hb1⟩
    have HB1 : Hid (Below w.heap.size w w1) := Lib.hid (ibt ((Below.refl _ _).alloc (Nat.le_refl _) _) hb1)
    clear hb1 hir hme
    go_wp2_with fail
    go_ret2
    exact ⟨rfl, HB1.out.alloc HB1.out.size _⟩
  · have HRD : Hid (∀ v w', Calls Try.prog 35 #[.int .i64 n, .int .i64 1000, v] w' fun e w'' => e = .returned (.tuple #[.agg #[.int .i64 0, .slice none 0 0], .bool false]) ∧ Below w'.heap.size w' w'') := Lib.hid (fun v w' => read_no n 1000 v w' (by omega))
    clear h hn ho
    go_enter Try.func19, Try.ntmps19
    go_wp2_with fail
    refine (HRD.out _ _).mono ?_; rintro e w1 ⟨rfl, hb1⟩
    have HB1 : Hid (Below w.heap.size w w1) := Lib.hid (ibt ((Below.refl _ _).alloc (Nat.le_refl _) _) hb1)
    clear hb1
    go_wp2_with fail
    go_ret2
    exact ⟨rfl, HB1.out.alloc HB1.out.size _⟩

set_option maxRecDepth 100000 in
set_option maxHeartbeats 1000000 in
theorem Trace_yes (n : Nat) (A : Option Addr) (la ca : Nat) (L : List Int) (w : World) (h : IRow w w.heap.size A la (wl L)) (hn : okN n 1000 (wl L) = true) :
    Calls Try.prog 19 #[.int .i64 (n : Int), .slice A la ca] w fun e w' => e = .returned (.tuple #[.int .i64 (wrap64 ((traceZ n L).getD 0 0)), .int .i64 0]) ∧ Below w.heap.size w w' := by
  obtain ⟨a1, a2, a3, a4⟩ := okN_yes hn
  rw [Int.toNat_natCast, wl_len] at a3
  have hla : la = phi n := by have := h.1; rw [wl_len] at this; omega
  have hp1 := (ord_len (n := n) (by omega) (by omega)).2.2.1
  have hp2 : phi n ≤ n := phiK_le n n
  have HRD : Hid (∀ T, Calls Try.prog 35 #[.int .i64 (n : Int), .int .i64 1000, .slice (some ⟨w.heap.size, 0, none⟩) 1 1] (w.alloc (Obj.cells #[.slice A la ca] T)) (GivesRead (w.alloc (Obj.cells #[.slice A la ca] T)) n true)) := Lib.hid (fun T => by
    have := read_yes n 1000 w.heap.size [(A, la, ca, wl L)] _ (by omega) (by omega) (slrow1 T h (by omega)) (by simp) (by omega) (by omega)
    rw [okN_in (by omega) (by omega)] at hn
    have e : allB (phi n) 1000 [(A, la, ca, wl L)] = true := by unfold allB; simpa using hn
    rw [e] at this; exact this)
  have HF := Lib.hid h
  have HLP : Hid (la = phi n ∧ 1 ≤ phi n ∧ phi n ≤ n) := Lib.hid ⟨hla, hp1, hp2⟩
  have hn1 : 1 ≤ n := by omega
  have hn15 : n ≤ 15 := by omega
  have HBEG := Lib.hid (beg_zero hn1 (show n < 16 by omega))
  clear h hn a1 a2 a3 a4 hla hp1 hp2
  go_enter Try.func19, Try.ntmps19
  go_wp2_with fail
  refine (HRD.out _).mono ?_; rintro e w1 ⟨R, m, d, rfl, hir, hme, hb1⟩
  have HB1 : Hid (Below w.heap.size w w1) := Lib.hid (ibt ((Below.refl _ _).alloc (Nat.le_refl _) _) hb1)
  have hm2 : 2 ≤ m := by have := HLP.out; omega
  have hm100 : m ≤ 100 := by have := HLP.out; omega
  have HME := Lib.hid hme
  have HIR := Lib.hid hir
  obtain ⟨w2, hw2⟩ : ∃ w2, rgBox w1 n R m d = w2 := ⟨_, rfl⟩
  have HB12 : Hid (Below w1.heap.size w1 w2) := Lib.hid (by rw [← hw2]; exact (Below.refl _ _).alloc (Nat.le_refl _) _)
  have HK : Hid (∀ w', Below w2.heap.size w2 w' → w'.cell? ⟨w1.heap.size, 0, none⟩ = some (.int .i64 (n : Int)) ∧ w'.cell? ⟨w1.heap.size, 1, none⟩ = some (.slice R m d)) := Lib.hid (fun w' hb => by
    have : w2.heap.size = w1.heap.size + 1 := by rw [← hw2]; simp
    rw [this, ← hw2] at hb
    exact rg_cells hb)
  have HWH : Hid (∀ w', Calls Try.prog 42 #[rgV n R m d, .int .i64 0] w' (GivesI w' ((List.replicate (m - 1) 0).set 0 0))) := Lib.hid (fun w' => whole_any n R m d 0 w' hm2 hm100)
  have HFO : Hid (∀ w' B cb, Below w2.heap.size w2 w' → IRow w' w'.heap.size B (phi n) (wl (List.replicate (phi n) 0)) → Calls Try.prog 41 #[rgV n R m d, .slice A la ca, .slice B la cb, .func (.func 44) #[rgV n R m d] #[]] w' fun e w'' => e = .returned (.int .i64 (wrap64 ((traceZ n L).getD 0 0))) ∧ Below w'.heap.size w' w'') := Lib.hid (fun w' B cb hb hi => by
    have h3 := HF.out.next (ibt HB1.out (ibt HB12.out hb))
    have h4 := HLP.out.1
    rw [h4] at h3 ⊢
    have h5 := (ord_len hn1 (show n < 16 by omega)).2.1
    unfold traceZ
    rw [show (cyc n).length - 1 = phi n by omega]
    exact fold_plus n A B R m d ca cb L (List.replicate (phi n) 0) w' hn1 hn15 (HIR.out.next (ibt HB12.out hb)) h3 hi)
  obtain ⟨x1, x2⟩ := HK.out w2 (Below.refl _ _)
  clear hb1 hir hme
  go_wp2_with fail
  try rw [hw2]
  go_region_held3 (fun w' => w'.cell? ⟨w1.heap.size, 0, none⟩ = some (.int .i64 (n : Int)) ∧ w'.cell? ⟨w1.heap.size, 1, none⟩ = some (.slice R m d)) (first | exact ⟨x1, x2⟩ | exact ⟨y1, y2⟩ | exact ⟨z1, z2⟩ | go_keep)
    (first
    | (go_at_call 42; refine (HWH.out _).mono ?_; rintro e w3 ⟨B3, n3, c3, rfl, how3, hA3, hb3⟩; obtain ⟨y1, y2⟩ := HK.out w3 (ibt (Below.refl _ _).drew hb3); obtain rfl : n3 = la := (by have h5 := how3.len; simp at h5; have h6 := HME.out; have h7 := HLP.out; omega); have HI3 : Hid (IRow w3 w3.heap.size B3 (phi n) (wl (List.replicate (phi n) 0))) := Lib.hid (by have h6 := HME.out; have h8 := IRow.of_own how3; rw [show m - 1 = phi n by omega, HBEG.out] at h8; have h9 := HLP.out.1; rw [h9] at h8; exact h8))
    | (go_at_call 41; refine (HFO.out w3 B3 c3 (ibt (Below.refl _ _).drew hb3) HI3.out).mono ?_; rintro e w4 ⟨rfl, hb4⟩; obtain ⟨z1, z2⟩ := HK.out w4 (ibt (ibt (Below.refl _ _).drew hb3) hb4)))
  all_goals
    go_wp2_with fail
    go_ret2
    exact ⟨rfl, ibt HB1.out (ibt HB12.out (ibt (ibt (Below.refl _ _).drew hb3) hb4))⟩
end Go.Proofs.Ytmljndjiipgpdaa
