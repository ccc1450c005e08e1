/- Sums, products, turned numbers, norms and traces: the walks of the program's functions. -/
import Derived.Test.YtmljndjiipgpdaaFo
namespace Go.Proofs.Ytmljndjiipgpdaa
open Go Go.RowKit GhP

/-- a number of order n with elements within a bound -/
def okN (n most : Int) (L : List Int) : Bool := decide (1 ≤ n ∧ n ≤ 15) && numB (phi n.toNat) most L
theorem okN_out {n most : Int} {L : List Int} (h : ¬ (1 ≤ n ∧ n ≤ 15)) : okN n most L = false := by unfold okN; rw [decide_eq_false h]; rfl
theorem okN_in {n : Nat} {most : Int} {L : List Int} (h1 : 1 ≤ n) (h2 : n ≤ 15) : okN n most L = numB (phi n) most L := by
  unfold okN; rw [decide_eq_true (by omega), Int.toNat_natCast]; rfl
theorem okN_yes {n most : Int} {L : List Int} (h : okN n most L = true) : 1 ≤ n ∧ n ≤ 15 ∧ L.length = phi n.toNat ∧ ∀ x ∈ L, -most ≤ x ∧ x ≤ most := by
  unfold okN at h
  rw [Bool.and_eq_true, decide_eq_true_eq] at h
  have := numB_yes h.2
  exact ⟨h.1.1, h.1.2, this.1, this.2⟩

theorem slrow1 {w : World} {A : Option Addr} {la ca : Nat} {L : List Int} (T : TypeId) (h : IRow w w.heap.size A la L) (hl : la ≤ 1000000) : SlRow (w.alloc (Obj.cells #[.slice A la ca] T)) w.heap.size [(A, la, ca, L)] := by
  refine ⟨by simp, fun k s hs => ?_⟩
  rcases k with _ | k
  · simp at hs; subst hs
    exact ⟨by simp [slV], h.next ((Below.refl _ _).alloc (Nat.le_refl _) _), hl⟩
  · simp at hs
theorem slrow2 {w : World} {A B : Option Addr} {la ca lb cb : Nat} {L M : List Int} (T : TypeId) (h : IRow w w.heap.size A la L) (hl : la ≤ 1000000) (k : IRow w w.heap.size B lb M) (kl : lb ≤ 1000000) : SlRow (w.alloc (Obj.cells #[.slice A la ca, .slice B lb cb] T)) w.heap.size [(A, la, ca, L), (B, lb, cb, M)] := by
  refine ⟨by simp, fun j s hs => ?_⟩
  rcases j with _ | _ | j
  · simp at hs; subst hs
    exact ⟨by simp [slV], h.next ((Below.refl _ _).alloc (Nat.le_refl _) _), hl⟩
  · simp at hs; subst hs
    exact ⟨by simp [slV], k.next ((Below.refl _ _).alloc (Nat.le_refl _) _), kl⟩
  · simp at hs

set_option maxRecDepth 100000 in
set_option maxHeartbeats 1000000 in
theorem Add_no (n : Int) (A B : Option Addr) (la ca lb cb : Nat) (L M : List Int) (w : World) (h : IRow w w.heap.size A la L) (k : IRow w w.heap.size B lb M) (hl : la ≤ 1000000) (kl : lb ≤ 1000000) (hn : (okN n 1000 L && okN n 1000 M) = false) :
    Calls Try.prog 25 #[.int .i64 n, .slice A la ca, .slice B lb cb] w fun e w' => e = .returned (.tuple #[.slice none 0 0, .int .i64 2]) ∧ Below w.heap.size w w' := by
  by_cases ho : 1 ≤ n ∧ n ≤ 15
  · obtain ⟨N, rfl⟩ : ∃ N : Nat, n = N := ⟨n.toNat, by omega⟩
    rw [okN_in (by omega) (by omega), okN_in (by omega) (by omega)] at hn
    have HRD : Hid (∀ T, Calls Try.prog 35 #[.int .i64 (N : Int), .int .i64 1000, .slice (some ⟨w.heap.size, 0, none⟩) 2 2] (w.alloc (Obj.cells #[.slice A la ca, .slice B lb cb] T)) (GivesRead (w.alloc (Obj.cells #[.slice A la ca, .slice B lb cb] T)) N false)) := Lib.hid (fun T => by
      have := read_yes N 1000 w.heap.size [(A, la, ca, L), (B, lb, cb, M)] _ (by omega) (by omega) (slrow2 T h hl k kl) (by simp) (by omega) (by omega)
      have e : allB (phi N) 1000 [(A, la, ca, L), (B, lb, cb, M)] = false := by unfold allB; simpa using hn
      rw [e] at this; exact this)
    clear h k hn
    go_enter Try.func25, Try.ntmps25
    go_wp2_with fail
    refine (HRD.out _).mono ?_; rintro e w1 ⟨R, m, d, rfl, hir, hme, hb1⟩
    have HB1 : Hid (Below w.heap.size w w1) := Lib.hid (ibt ((Below.refl _ _).alloc (Nat.le_refl _) _) hb1)
    clear hb1 hir hme
    go_wp2_with fail
    go_ret2
    exact ⟨rfl, HB1.out.alloc HB1.out.size _⟩
  · have HRD : Hid (∀ v w', Calls Try.prog 35 #[.int .i64 n, .int .i64 1000, v] w' fun e w'' => e = .returned (.tuple #[.agg #[.int .i64 0, .slice none 0 0], .bool false]) ∧ Below w'.heap.size w' w'') := Lib.hid (fun v w' => read_no n 1000 v w' (by omega))
    clear h k hn ho
    go_enter Try.func25, Try.ntmps25
    go_wp2_with fail
    refine (HRD.out _ _).mono ?_; rintro e w1 ⟨rfl, hb1⟩
    have HB1 : Hid (Below w.heap.size w w1) := Lib.hid (ibt ((Below.refl _ _).alloc (Nat.le_refl _) _) hb1)
    clear hb1
    go_wp2_with fail
    go_ret2
    exact ⟨rfl, HB1.out.alloc HB1.out.size _⟩

set_option maxRecDepth 100000 in
set_option maxHeartbeats 1000000 in
theorem Add_yes (n : Nat) (A B : Option Addr) (la ca lb cb : Nat) (L M : List Int) (w : World) (h : IRow w w.heap.size A la (wl L)) (k : IRow w w.heap.size B lb (wl M)) (hn : (okN n 1000 (wl L) && okN n 1000 (wl M)) = true) :
    Calls Try.prog 25 #[.int .i64 (n : Int), .slice A la ca, .slice B lb cb] w (GivesIE w (wl (addZ L M)) 0) := by
  have hn2 := hn
  rw [Bool.and_eq_true] at hn2
  obtain ⟨a1, a2, a3, a4⟩ := okN_yes hn2.1
  obtain ⟨b1, b2, b3, b4⟩ := okN_yes hn2.2
  rw [Int.toNat_natCast, wl_len] at a3 b3
  have hla : la = phi n := by have := h.1; rw [wl_len] at this; omega
  have hlb : lb = phi n := by have := k.1; rw [wl_len] at this; omega
  have hp1 := (ord_len (n := n) (by omega) (by omega)).2.2.1
  have hp2 : phi n ≤ n := phiK_le n n
  have hll : lb = la := by omega
  subst hll
  have HRD : Hid (∀ T, Calls Try.prog 35 #[.int .i64 (n : Int), .int .i64 1000, .slice (some ⟨w.heap.size, 0, none⟩) 2 2] (w.alloc (Obj.cells #[.slice A lb ca, .slice B lb cb] T)) (GivesRead (w.alloc (Obj.cells #[.slice A lb ca, .slice B lb cb] T)) n true)) := Lib.hid (fun T => by
    have := read_yes n 1000 w.heap.size [(A, lb, ca, wl L), (B, lb, cb, wl M)] _ (by omega) (by omega) (slrow2 T h (by omega) k (by omega)) (by simp) (by omega) (by omega)
    rw [okN_in (by omega) (by omega), okN_in (by omega) (by omega)] at hn
    have e : allB (phi n) 1000 [(A, lb, ca, wl L), (B, lb, cb, wl M)] = true := by unfold allB; simpa using hn
    rw [e] at this; exact this)
  have HF := Lib.hid h
  have HG := Lib.hid k
  have hl1 : 1 ≤ lb := by omega
  have hl2 : lb ≤ 50 := by omega
  clear h k hn hn2 a1 a2 a3 a4 b1 b2 b3 b4 hla hlb hp1 hp2
  go_enter Try.func25, Try.ntmps25
  go_wp2_with fail
  refine (HRD.out _).mono ?_; rintro e w1 ⟨R, m, d, rfl, hir, hme, hb1⟩
  have HB1 : Hid (Below w.heap.size w w1) := Lib.hid (ibt ((Below.refl _ _).alloc (Nat.le_refl _) _) hb1)
  have HB2 : Hid (∀ o, Below w.heap.size w (w1.alloc o)) := Lib.hid (fun o => HB1.out.alloc HB1.out.size o)
  have HCL : Hid (∀ o, Calls Try.prog 44 #[rgV n R m d, .slice A lb ca, .slice B lb cb] (w1.alloc o) (GivesI (w1.alloc o) (wl (addZ L M)))) := Lib.hid (fun o => plus_any n A B R m d lb ca cb L M _ (HF.out.next (HB2.out o)) (HG.out.next (HB2.out o)) hl1 hl2)
  clear hb1 hir hme
  go_wp2_with fail
  refine (HCL.out _).mono ?_; rintro e w3 ⟨A3, n3, c3, rfl, how3, hA3, hb3⟩
  have HO3 : Hid (Own w3 w.heap.size A3 n3 c3 (wl (addZ L M))) := Lib.hid (how3.low (HB2.out _).size)
  have HA3 := Lib.hid hA3
  have HB3 := Lib.hid (ibt (HB2.out _) hb3)
  clear how3 hA3 hb3
  go_wp2_with fail
  go_ret2
  exact ⟨A3, n3, c3, rfl, HO3.out, HA3.out, HB3.out⟩
set_option maxRecDepth 100000 in
set_option maxHeartbeats 1000000 in
theorem Times_no (n : Int) (A B : Option Addr) (la ca lb cb : Nat) (L M : List Int) (w : World) (h : IRow w w.heap.size A la L) (k : IRow w w.heap.size B lb M) (hl : la ≤ 1000000) (kl : lb ≤ 1000000) (hn : (okN n 1000 L && okN n 1000 M) = false) :
    Calls Try.prog 23 #[.int .i64 n, .slice A la ca, .slice B lb cb] w fun e w' => e = .returned (.tuple #[.slice none 0 0, .int .i64 2]) ∧ Below w.heap.size w w' := by
  by_cases ho : 1 ≤ n ∧ n ≤ 15
  · obtain ⟨N, rfl⟩ : ∃ N : Nat, n = N := ⟨n.toNat, by omega⟩
    rw [okN_in (by omega) (by omega), okN_in (by omega) (by omega)] at hn
    have HRD : Hid (∀ T, Calls Try.prog 35 #[.int .i64 (N : Int), .int .i64 1000, .slice (some ⟨w.heap.size, 0, none⟩) 2 2] (w.alloc (Obj.cells #[.slice A la ca, .slice B lb cb] T)) (GivesRead (w.alloc (Obj.cells #[.slice A la ca, .slice B lb cb] T)) N false)) := Lib.hid (fun T => by
      have := read_yes N 1000 w.heap.size [(A, la, ca, L), (B, lb, cb, M)] _ (by omega) (by omega) (slrow2 T h hl k kl) (by simp) (by omega) (by omega)
      have e : allB (phi N) 1000 [(A, la, ca, L), (B, lb, cb, M)] = false := by unfold allB; simpa using hn
      rw [e] at this; exact this)
    clear h k hn
    go_enter Try.func23, Try.ntmps23
    go_wp2_with fail
    refine (HRD.out _).mono ?_; rintro e w1 ⟨R, m, d, rfl, hir, hme, hb1⟩
    have HB1 : Hid (Below w.heap.size w w1) := Lib.hid (ibt ((Below.refl _ _).alloc (Nat.le_refl _) _) hb1)
    clear hb1 hir hme
    go_wp2_with fail
    go_ret2
    exact ⟨rfl, HB1.out.alloc HB1.out.size _⟩
  · have HRD : Hid (∀ v w', Calls Try.prog 35 #[.int .i64 n, .int .i64 1000, v] w' fun e w'' => e = .returned (.tuple #[.agg #[.int .i64 0, .slice none 0 0], .bool false]) ∧ Below w'.heap.size w' w'') := Lib.hid (fun v w' => read_no n 1000 v w' (by omega))
    clear h k hn ho
    go_enter Try.func23, Try.ntmps23
    go_wp2_with fail
    refine (HRD.out _ _).mono ?_; rintro e w1 ⟨rfl, hb1⟩
    have HB1 : Hid (Below w.heap.size w w1) := Lib.hid (ibt ((Below.refl _ _).alloc (Nat.le_refl _) _) hb1)
    clear hb1
    go_wp2_with fail
    go_ret2
    exact ⟨rfl, HB1.out.alloc HB1.out.size _⟩

set_option maxRecDepth 100000 in
set_option maxHeartbeats 1000000 in
theorem Times_yes (n : Nat) (A B : Option Addr) (la ca lb cb : Nat) (L M : List Int) (w : World) (h : IRow w w.heap.size A la (wl L)) (k : IRow w w.heap.size B lb (wl M)) (hn : (okN n 1000 (wl L) && okN n 1000 (wl M)) = true) :
    Calls Try.prog 23 #[.int .i64 (n : Int), .slice A la ca, .slice B lb cb] w (GivesIE w (wl (timesZ (cyc n) L M)) 0) := by
  have hn2 := hn
  rw [Bool.and_eq_true] at hn2
  obtain ⟨a1, a2, a3, a4⟩ := okN_yes hn2.1
  obtain ⟨b1, b2, b3, b4⟩ := okN_yes hn2.2
  rw [Int.toNat_natCast, wl_len] at a3 b3
  have hla : la = phi n := by have := h.1; rw [wl_len] at this; omega
  have hlb : lb = phi n := by have := k.1; rw [wl_len] at this; omega
  have hp1 := (ord_len (n := n) (by omega) (by omega)).2.2.1
  have hp2 : phi n ≤ n := phiK_le n n
  have hll : lb = la := by omega
  subst hll
  have HRD : Hid (∀ T, Calls Try.prog 35 #[.int .i64 (n : Int), .int .i64 1000, .slice (some ⟨w.heap.size, 0, none⟩) 2 2] (w.alloc (Obj.cells #[.slice A lb ca, .slice B lb cb] T)) (GivesRead (w.alloc (Obj.cells #[.slice A lb ca, .slice B lb cb] T)) n true)) := Lib.hid (fun T => by
    have := read_yes n 1000 w.heap.size [(A, lb, ca, wl L), (B, lb, cb, wl M)] _ (by omega) (by omega) (slrow2 T h (by omega) k (by omega)) (by simp) (by omega) (by omega)
    rw [okN_in (by omega) (by omega), okN_in (by omega) (by omega)] at hn
    have e : allB (phi n) 1000 [(A, lb, ca, wl L), (B, lb, cb, wl M)] = true := by unfold allB; simpa using hn
    rw [e] at this; exact this)
  have HF := Lib.hid h
  have HG := Lib.hid k
  have HO := Lib.hid (ord_of (n := n) (by omega) (by omega))
  have HLP : Hid (lb = phi n ∧ 1 ≤ phi n) := Lib.hid ⟨hla, hp1⟩
  have hl1 : 1 ≤ lb := by omega
  have hl2 : lb ≤ 50 := by omega
  clear h k hn hn2 a1 a2 a3 a4 b1 b2 b3 b4 hla hlb hp1 hp2
  go_enter Try.func23, Try.ntmps23
  go_wp2_with fail
  refine (HRD.out _).mono ?_; rintro e w1 ⟨R, m, d, rfl, hir, hme, hb1⟩
  have HB1 : Hid (Below w.heap.size w w1) := Lib.hid (ibt ((Below.refl _ _).alloc (Nat.le_refl _) _) hb1)
  have HB2 : Hid (∀ o, Below w.heap.size w (w1.alloc o)) := Lib.hid (fun o => HB1.out.alloc HB1.out.size o)
  have HCL : Hid (∀ o, Calls Try.prog 43 #[rgV n R m d, .slice A lb ca, .slice B lb cb] (w1.alloc o) (GivesI (w1.alloc o) (wl (timesZ (cyc n) L M)))) := Lib.hid (fun o => times_any HO.out.split n A B R m d lb lb ca cb L M _ (hir.next ((Below.refl _ _).alloc (Nat.le_refl _) _)) (HF.out.next (HB2.out o)) (HG.out.next (HB2.out o)) (by have := HLP.out; omega) hl1 hl1 (by have := HLP.out; omega) hl2 hl2)
  clear hb1 hir hme
  go_wp2_with fail
  refine (HCL.out _).mono ?_; rintro e w3 ⟨A3, n3, c3, rfl, how3, hA3, hb3⟩
  have HO3 : Hid (Own w3 w.heap.size A3 n3 c3 (wl (timesZ (cyc n) L M))) := Lib.hid (how3.low (HB2.out _).size)
  have HA3 := Lib.hid hA3
  have HB3 := Lib.hid (ibt (HB2.out _) hb3)
  clear how3 hA3 hb3
  go_wp2_with fail
  go_ret2
  exact ⟨A3, n3, c3, rfl, HO3.out, HA3.out, HB3.out⟩

/-- whether a number turns those of order n -/
def turnB (n t : Int) : Bool := decide (1 ≤ t ∧ t ≤ n ∧ Nat.gcd t.toNat n.toNat = 1)
theorem mem_units {n t : Nat} : t ∈ units n ↔ 1 ≤ t ∧ t ≤ n ∧ Nat.gcd t n = 1 := by
  unfold units
  rw [List.mem_filter, List.mem_range'_1, beq_iff_eq]
  omega
theorem turnB_mem {n : Nat} {t : Int} : turnB n t = decide (t ∈ natsI (units n)) := by
  unfold turnB natsI
  rw [decide_eq_decide, List.mem_map]
  constructor
  · rintro ⟨h1, h2, h3⟩
    exact ⟨t.toNat, mem_units.2 ⟨by omega, by omega, by rwa [Int.toNat_natCast] at h3⟩, by omega⟩
  · rintro ⟨k, hk, rfl⟩
    obtain ⟨h1, h2, h3⟩ := mem_units.1 hk
    exact ⟨by omega, by omega, by rw [Int.toNat_natCast, Int.toNat_natCast]; exact h3⟩

set_option maxHeartbeats 400000 in
theorem index_any (A : Option Addr) (l c : Nat) (L : List Int) (x : Int) (w : World) (h : IRow w w.heap.size A l L) (hl : l ≤ 1000000) :
    Calls Try.prog 58 #[.slice A l c, .int .i64 x] w fun e w' => ∃ i : Int, e = .returned (.int .i64 i) ∧ decide (0 ≤ i) = decide (x ∈ L) ∧ Below w.heap.size w w' := by
  have HR := Lib.hid h
  have HL := Lib.hid h.1
  clear h
  go_enter Try.func58, Try.ntmps58
  go_wp2_with fail
  go_loopw [8] (fun z wr => ∃ k : Nat, k ≤ l ∧ z = .int .i64 (k : Int) ∧ Hid (x ∈ L ↔ x ∈ L.drop k) ∧ Below w.heap.size w wr) (fun z _ => l - (intOf z).toNat)
  case atStart => exact ⟨0, by omega, rfl, Lib.hid (by rw [List.drop_zero]), Below.refl _ _⟩
  case round =>
    obtain ⟨k, hk, rfl, hx, hb⟩ := hrel
    by_cases hlt : k < l
    · obtain ⟨b, off, y, hy, rfl, hB, g1⟩ := (HR.out.below hb).at_ hlt
      have HDR := Lib.hid (drop_at hy)
      have hki : (k : Int) < (l : Int) := by omega
      clear hy
      by_cases hxy : x = y
      · have t1 : (x == y) = true := by simpa using hxy
        have HE : Hid (x ∈ L) := Lib.hid (hx.out.2 (by rw [HDR.out, hxy]; simp))
        clear hxy
        go_wp2_with fail
        go_ret
        exact ⟨k, rfl, by rw [decide_eq_true HE.out]; simp, hb⟩
      · have t1 : (x == y) = false := by simpa using hxy
        have HE : Hid (x ∈ L ↔ x ∈ L.drop (k + 1)) := Lib.hid (by rw [hx.out, HDR.out, List.mem_cons]; simp [hxy])
        clear hxy
        go_wp2_with fail
        go_roundw
        case rel => exact ⟨k + 1, by omega, by go_num, HE, hb⟩
        case measure => simp [intOf]; omega
    · have e : k = l := by omega
      subst e
      have HE : Hid (¬ x ∈ L) := Lib.hid (by rw [hx.out, List.drop_of_length_le (by rw [← HL.out]; omega)]; simp)
      go_wp2_with fail
      go_ret
      exact ⟨-1, rfl, by rw [decide_eq_false HE.out]; decide, hb⟩

theorem contains_any (A : Option Addr) (l c : Nat) (L : List Int) (x : Int) (w : World) (h : IRow w w.heap.size A l L) (hl : l ≤ 1000000) :
    Calls Try.prog 46 #[.slice A l c, .int .i64 x] w fun e w' => e = .returned (.bool (decide (x ∈ L))) ∧ Below w.heap.size w w' := by
  have HI := Lib.hid (index_any A l c L x w h hl)
  clear h
  go_enter Try.func46, Try.ntmps46
  go_wp2_with fail
  refine HI.out.mono ?_; rintro e w1 ⟨i, rfl, hi, hb1⟩
  go_wp2_with fail
  go_ret
  exact ⟨by first | rfl | rw [hi] | skip, hb1⟩

set_option maxRecDepth 100000 in
set_option maxHeartbeats 1000000 in
theorem Turn_no (n t : Int) (A : Option Addr) (la ca : Nat) (L : List Int) (w : World) (h : IRow w w.heap.size A la L) (hl : la ≤ 1000000) (hn : (okN n 1000 L && turnB n t) = false) :
    Calls Try.prog 26 #[.int .i64 n, .slice A la ca, .int .i64 t] w fun e w' => e = .returned (.tuple #[.slice none 0 0, .int .i64 2]) ∧ Below w.heap.size w w' := by
  by_cases ho : 1 ≤ n ∧ n ≤ 15
  · obtain ⟨N, rfl⟩ : ∃ N : Nat, n = N := ⟨n.toNat, by omega⟩
    have hN15 : N ≤ 15 := by omega
    rw [okN_in (by omega) (by omega)] at hn
    obtain ⟨q, hq⟩ : ∃ q, numB (phi N) 1000 L = q := ⟨_, rfl⟩
    have HRD : Hid (∀ T, Calls Try.prog 35 #[.int .i64 (N : Int), .int .i64 1000, .slice (some ⟨w.heap.size, 0, none⟩) 1 1] (w.alloc (Obj.cells #[.slice A la ca] T)) (GivesRead (w.alloc (Obj.cells #[.slice A la ca] T)) N q)) := Lib.hid (fun T => by
      have := read_yes N 1000 w.heap.size [(A, la, ca, L)] _ (by omega) (by omega) (slrow1 T h hl) (by simp) (by omega) (by omega)
      have e : allB (phi N) 1000 [(A, la, ca, L)] = q := by unfold allB; simpa using hq
      rw [e] at this; exact this)
    rw [hq] at hn
    clear h hq ho
    cases q with
    | false =>
      clear hn
      go_enter Try.func26, Try.ntmps26
      go_wp2_with fail
      refine (HRD.out _).mono ?_; rintro e w1 ⟨R, m, d, rfl, hir, hme, hb1⟩
      have HB1 : Hid (Below w.heap.size w w1) := Lib.hid (ibt ((Below.refl _ _).alloc (Nat.le_refl _) _) hb1)
      clear hb1 hir hme
      go_wp2_with fail
      go_ret2
      exact ⟨rfl, HB1.out.alloc HB1.out.size _⟩
    | true =>
      have HTB : Hid (decide (t ∈ natsI (units N)) = false) := Lib.hid (by rw [← turnB_mem]; simpa using hn)
      have HUL : Hid ((units N).length ≤ N) := Lib.hid (unitK_len N N)
      clear hn
      go_enter Try.func26, Try.ntmps26
      go_wp2_with fail
      refine (HRD.out _).mono ?_; rintro e w1 ⟨R, m, d, rfl, hir, hme, hb1⟩
      have HB1 : Hid (Below w.heap.size w w1) := Lib.hid (ibt ((Below.refl _ _).alloc (Nat.le_refl _) _) hb1)
      have HB2 : Hid (∀ o, Below w.heap.size w (w1.alloc o)) := Lib.hid (fun o => HB1.out.alloc HB1.out.size o)
      clear hb1 hir hme
      go_wp2_with fail
      refine (turns_any N R m d _ (by omega)).mono ?_; rintro e w3 ⟨T, nT, cT, rfl, howT, hT, hb3⟩
      have HI3 : Hid (IRow w3 w3.heap.size T nT (natsI (units N))) := Lib.hid (IRow.of_own howT)
      have hnT : nT ≤ 15 := by have h3 := howT.len; rw [natsI_len] at h3; have h4 := HUL.out; omega
      have HB3 := Lib.hid (ibt (HB2.out _) hb3)
      clear howT hT hb3
      go_wp2_with fail
      refine (contains_any T nT cT (natsI (units N)) t w3 HI3.out (by omega)).mono ?_; rw [HTB.out]; rintro e w4 ⟨rfl, hb4⟩
      go_wp2_with fail
      go_ret2
      exact ⟨rfl, ibt HB3.out hb4⟩
  · have HRD : Hid (∀ v w', Calls Try.prog 35 #[.int .i64 n, .int .i64 1000, v] w' fun e w'' => e = .returned (.tuple #[.agg #[.int .i64 0, .slice none 0 0], .bool false]) ∧ Below w'.heap.size w' w'') := Lib.hid (fun v w' => read_no n 1000 v w' (by omega))
    clear h hn ho
    go_enter Try.func26, Try.ntmps26
    go_wp2_with fail
    refine (HRD.out _ _).mono ?_; rintro e w1 ⟨rfl, hb1⟩
    have HB1 : Hid (Below w.heap.size w w1) := Lib.hid (ibt ((Below.refl _ _).alloc (Nat.le_refl _) _) hb1)
    clear hb1
    go_wp2_with fail
    go_ret2
    exact ⟨rfl, HB1.out.alloc HB1.out.size _⟩

set_option maxRecDepth 100000 in
set_option maxHeartbeats 1000000 in
theorem Turn_yes (n t : Nat) (A : Option Addr) (la ca : Nat) (L : List Int) (w : World) (h : IRow w w.heap.size A la (wl L)) (hn : okN n 1000 (wl L) = true) (ht : turnB n t = true) :
    Calls Try.prog 26 #[.int .i64 (n : Int), .slice A la ca, .int .i64 (t : Int)] w (GivesIE w (wl (turnZ (cyc n) n t L)) 0) := by
  obtain ⟨a1, a2, a3, a4⟩ := okN_yes hn
  rw [Int.toNat_natCast, wl_len] at a3
  have hla : la = phi n := by have := h.1; rw [wl_len] at this; omega
  have hp1 := (ord_len (n := n) (by omega) (by omega)).2.2.1
  have hp2 : phi n ≤ n := phiK_le n n
  have htn : 1 ≤ t ∧ t ≤ n := by
    have := ht
    unfold turnB at this
    have := of_decide_eq_true this
    omega
  have HTB : Hid (decide ((t : Int) ∈ natsI (units n)) = true) := Lib.hid (by rw [← turnB_mem]; exact ht)
  have HUL : Hid ((units n).length ≤ n) := Lib.hid (unitK_len n n)
  have HRD : Hid (∀ T, Calls Try.prog 35 #[.int .i64 (n : Int), .int .i64 1000, .slice (some ⟨w.heap.size, 0, none⟩) 1 1] (w.alloc (Obj.cells #[.slice A la ca] T)) (GivesRead (w.alloc (Obj.cells #[.slice A la ca] T)) n true)) := Lib.hid (fun T => by
    have := read_yes n 1000 w.heap.size [(A, la, ca, wl L)] _ (by omega) (by omega) (slrow1 T h (by omega)) (by simp) (by omega) (by omega)
    rw [okN_in (by omega) (by omega)] at hn
    have e : allB (phi n) 1000 [(A, la, ca, wl L)] = true := by unfold allB; simpa using hn
    rw [e] at this; exact this)
  have HF := Lib.hid h
  have HLP : Hid (la = phi n ∧ 1 ≤ phi n) := Lib.hid ⟨hla, hp1⟩
  have hl1 : 1 ≤ la := by omega
  have hl2 : la ≤ 15 := by omega
  have hln : la ≤ n := by omega
  have hn15 : n ≤ 15 := by omega
  obtain ⟨ht1, ht2⟩ := htn
  clear h hn ht a1 a2 a3 a4 hla hp1 hp2
  go_enter Try.func26, Try.ntmps26
  go_wp2_with fail
  refine (HRD.out _).mono ?_; rintro e w1 ⟨R, m, d, rfl, hir, hme, hb1⟩
  have HB1 : Hid (Below w.heap.size w w1) := Lib.hid (ibt ((Below.refl _ _).alloc (Nat.le_refl _) _) hb1)
  have hm2 : 2 ≤ m := by have := HLP.out; omega
  have hmn : m ≤ n + 1 := by have := HLP.out; omega
  have HIR := Lib.hid hir
  obtain ⟨w2, hw2⟩ : ∃ w2, rgBox w1 n R m d = w2 := ⟨_, rfl⟩
  have HB12 : Hid (Below w1.heap.size w1 w2) := Lib.hid (by rw [← hw2]; exact (Below.refl _ _).alloc (Nat.le_refl _) _)
  have HK : Hid (∀ w', Below w2.heap.size w2 w' → w'.cell? ⟨w1.heap.size, 0, none⟩ = some (.int .i64 (n : Int)) ∧ w'.cell? ⟨w1.heap.size, 1, none⟩ = some (.slice R m d)) := Lib.hid (fun w' hb => by
    have : w2.heap.size = w1.heap.size + 1 := by rw [← hw2]; simp
    rw [this, ← hw2] at hb
    exact rg_cells hb)
  obtain ⟨x1, x2⟩ := HK.out w2 (Below.refl _ _)
  clear hb1 hir hme
  go_wp2_with fail
  try rw [hw2]
  refine (turns_any n R m d w2 (by omega)).mono ?_; rintro e w3 ⟨T, nT, cT, rfl, howT, hT, hb3⟩
  have HI3 : Hid (IRow w3 w3.heap.size T nT (natsI (units n))) := Lib.hid (IRow.of_own howT)
  have hnT : nT ≤ 15 := by have h3 := howT.len; rw [natsI_len] at h3; have h4 := HUL.out; omega
  have HB3 := Lib.hid hb3
  clear howT hT hb3 x1 x2
  go_wp2_with fail
  refine (contains_any T nT cT (natsI (units n)) t w3 HI3.out (by omega)).mono ?_; rw [HTB.out]; rintro e w4 ⟨rfl, hb4⟩
  have HB4 := Lib.hid (ibt HB3.out hb4)
  obtain ⟨x1, x2⟩ := HK.out w4 HB4.out
  have HBW := Lib.hid (ibt HB1.out (ibt HB12.out HB4.out))
  have HG4 := Lib.hid (HIR.out.next (ibt HB12.out HB4.out))
  clear hb4
  go_wp2_with fail
  refine (turn_any (cyc n) n t A R m d la ca L w4 HG4.out (HF.out.next HBW.out) hm2 hl1 hmn (by omega) (by omega) (by omega)).mono ?_; rintro e w5 ⟨A5, n5, c5, rfl, how5, hA5, hb5⟩
  have HO5 : Hid (Own w5 w.heap.size A5 n5 c5 (wl (turnZ (cyc n) n t L))) := Lib.hid (how5.low HBW.out.size)
  have HA5 := Lib.hid hA5
  have HB5 := Lib.hid (ibt HBW.out hb5)
  clear how5 hA5 hb5
  go_wp2_with fail
  go_ret2
  exact ⟨A5, n5, c5, rfl, HO5.out, HA5.out, HB5.out⟩
end Go.Proofs.Ytmljndjiipgpdaa
