/- Reading numbers of an order: the walk of read. -/
import Derived.Test.YtmljndjiipgpdaaRd
import Derived.Test.YtmljndjiipgpdaaPoE
namespace Go.Proofs.Ytmljndjiipgpdaa
open Go Go.RowKit GhP

/-- some slices of ints, as one row of slices -/
abbrev SlI := Option Addr × Nat × Nat × List Int
def slV (s : SlI) : Value := .slice s.1 s.2.1 s.2.2.1
/-- they lie in block b -/
def SlRow (w : World) (b : Nat) (V : List SlI) : Prop := b < w.heap.size ∧ ∀ k s, V[k]? = some s → w.cell? ⟨b, k, none⟩ = some (slV s) ∧ IRow w w.heap.size s.1 s.2.1 s.2.2.2 ∧ s.2.1 ≤ 1000000
theorem SlRow.next {w w' : World} {b : Nat} {V : List SlI} (h : SlRow w b V) (hb : Below w.heap.size w w') : SlRow w' b V :=
  ⟨Nat.lt_of_lt_of_le h.1 hb.size, fun k s hs => ⟨(hb.cell (p := ⟨b, k, none⟩) h.1).trans (h.2 k s hs).1, (h.2 k s hs).2.1.next hb, (h.2 k s hs).2.2⟩⟩

/-- the cells that the closure holds -/
structure Caps (w : World) (n : Nat) (R : Option Addr) (m d rb mb : Nat) (most : Int) : Prop where
  c0 : w.cell? ⟨rb, 0, none⟩ = some (.int .i64 (n : Int))
  c1 : w.cell? ⟨rb, 1, none⟩ = some (.slice R m d)
  c2 : w.cell? ⟨mb, 0, none⟩ = some (.int .i64 most)
  rb : rb < w.heap.size
  mb : mb < w.heap.size
theorem Caps.next {w w' : World} {n : Nat} {R : Option Addr} {m d rb mb : Nat} {most : Int} (h : Caps w n R m d rb mb most) (hb : Below w.heap.size w w') : Caps w' n R m d rb mb most :=
  ⟨(hb.cell (p := ⟨rb, 0, none⟩) h.rb).trans h.c0, (hb.cell (p := ⟨rb, 1, none⟩) h.rb).trans h.c1, (hb.cell (p := ⟨mb, 0, none⟩) h.mb).trans h.c2, Nat.lt_of_lt_of_le h.rb hb.size, Nat.lt_of_lt_of_le h.mb hb.size⟩

def allB (P : Nat) (most : Int) (V : List SlI) : Bool := V.all fun s => numB P most s.2.2.2

set_option maxRecDepth 100000 in
set_option maxHeartbeats 1000000 in
theorem indexf_any (b : Nat) (V : List SlI) (n P m d rb mb : Nat) (R : Option Addr) (most : Int) (w : World) (h : SlRow w b V) (hc : Caps w n R m d rb mb most) (hV : V.length ≤ 10)
    (hm : m = P + 1) (hP : 1 ≤ P) (hP2 : P ≤ 100) (hmo : 0 ≤ most) (hmo2 : most ≤ 1000) :
    Calls Try.prog 60 #[.slice (some ⟨b, 0, none⟩) V.length V.length, .func (.func 52) #[] #[.pointer (some ⟨rb, 0, none⟩), .pointer (some ⟨mb, 0, none⟩)]] w
      fun e w' => ∃ i : Int, e = .returned (.int .i64 i) ∧ decide (0 ≤ i) = !allB P most V ∧ Below w.heap.size w w' := by
  have HR := Lib.hid h
  have HC := Lib.hid hc
  have HM := Lib.hid hm
  obtain ⟨N, hN⟩ : ∃ N, V.length = N := ⟨_, rfl⟩
  have HN := Lib.hid hN
  rw [hN] at hV ⊢
  clear h hc hm hN
  go_enter Try.func60, Try.ntmps60
  go_wp2_with fail
  go_loopw [8] (fun x wr => ∃ k : Nat, k ≤ N ∧ x = .int .i64 (k : Int) ∧ Hid (allB P most V = allB P most (V.drop k)) ∧ Below w.heap.size w wr) (fun x _ => N - (intOf x).toNat)
  case atStart => exact ⟨0, by omega, rfl, Lib.hid (by rw [List.drop_zero]), Below.refl _ _⟩
  case round =>
    obtain ⟨k, hk, rfl, hall, hb⟩ := hrel
    obtain ⟨wo, hwo⟩ : ∃ wo : World, wo = wr := ⟨_, rfl⟩
    subst hwo
    by_cases hlt : k < N
    · obtain ⟨s, hs⟩ : ∃ s, V[k]? = some s := ⟨_, List.getElem?_eq_getElem (by rw [HN.out]; exact hlt)⟩
      obtain ⟨g1, g2, g3⟩ := (HR.out.next hb).2 k s hs
      have HI := Lib.hid g2
      have HCW := Lib.hid (HC.out.next hb)
      have HDR : Hid (allB P most (V.drop k) = (numB P most s.2.2.2 && allB P most (V.drop (k + 1)))) := Lib.hid (by
        obtain ⟨hk2, e⟩ := List.getElem?_eq_some_iff.1 hs
        rw [List.drop_eq_getElem_cons hk2, e]; rfl)
      obtain ⟨A, l, c, L⟩ := s
      simp only [slV] at g1 g3
      have hkn : (k : Int) < (N : Int) := by omega
      have hbN : b < wo.heap.size := (HR.out.next hb).1
      have HCL : Hid (Calls Try.prog 52 #[.slice A l c, .pointer (some ⟨rb, 0, none⟩), .pointer (some ⟨mb, 0, none⟩)] wo fun e w' => e = .returned (.bool (!numB P most L)) ∧ Below wo.heap.size wo w') := Lib.hid
        (read1_any A R l c n P m d rb mb most L wo HI.out HCW.out.c0 HCW.out.c1 HCW.out.c2 HCW.out.rb HCW.out.mb HM.out hP hP2 hmo hmo2 g3)
      have HB := Lib.hid hb
      clear hs g2 hb
      cases hnb : numB P most L with
      | true =>
        have HNB := Lib.hid hnb
        have HAL : Hid (allB P most V = allB P most (V.drop (k + 1))) := Lib.hid (by rw [hall.out, HDR.out]; simp only; rw [hnb]; rfl)
        clear hnb
        go_wp2_with fail
        refine HCL.out.mono ?_; rw [HNB.out]; rintro e w1 ⟨rfl, hb1⟩
        go_wp2_with fail
        go_roundw
        case rel => exact ⟨k + 1, by omega, by go_num, HAL, ibt HB.out hb1⟩
        case measure => simp [intOf]; omega
      | false =>
        have HNB := Lib.hid hnb
        have HAL : Hid (allB P most V = false) := Lib.hid (by rw [hall.out, HDR.out]; simp only; rw [hnb]; rfl)
        clear hnb
        go_wp2_with fail
        refine HCL.out.mono ?_; rw [HNB.out]; rintro e w1 ⟨rfl, hb1⟩
        go_wp2_with fail
        go_ret
        exact ⟨k, rfl, by rw [HAL.out]; simp, ibt HB.out hb1⟩
    · have e : k = N := by omega
      subst e
      have HAL : Hid (allB P most V = true) := Lib.hid (by rw [hall.out, List.drop_of_length_le (by rw [HN.out]; omega)]; rfl)
      go_wp2_with fail
      go_ret
      exact ⟨-1, rfl, by rw [HAL.out]; decide, hb⟩

set_option maxHeartbeats 400000 in
theorem containsf_any (b : Nat) (V : List SlI) (n P m d rb mb : Nat) (R : Option Addr) (most : Int) (w : World) (h : SlRow w b V) (hc : Caps w n R m d rb mb most) (hV : V.length ≤ 10)
    (hm : m = P + 1) (hP : 1 ≤ P) (hP2 : P ≤ 100) (hmo : 0 ≤ most) (hmo2 : most ≤ 1000) :
    Calls Try.prog 51 #[.slice (some ⟨b, 0, none⟩) V.length V.length, .func (.func 52) #[] #[.pointer (some ⟨rb, 0, none⟩), .pointer (some ⟨mb, 0, none⟩)]] w
      fun e w' => e = .returned (.bool (!allB P most V)) ∧ Below w.heap.size w w' := by
  have HI := Lib.hid (indexf_any b V n P m d rb mb R most w h hc hV hm hP hP2 hmo hmo2)
  clear h hc hm
  go_enter Try.func51, Try.ntmps51
  go_wp2_with fail
  refine HI.out.mono ?_; rintro e w1 ⟨i, rfl, hi, hb1⟩
  go_wp2_with fail
  go_ret
  exact ⟨by first | rfl | rw [hi] | skip, hb1⟩

theorem read_no (n most : Int) (v : Value) (w : World) (h : n < 1 ∨ 15 < n) :
    Calls Try.prog 35 #[.int .i64 n, .int .i64 most, v] w fun e w' => e = .returned (.tuple #[.agg #[.int .i64 0, .slice none 0 0], .bool false]) ∧ Below w.heap.size w w' := by
  rcases h with h | h
  · go_enter Try.func35, Try.ntmps35
    go_wp2_with fail
    refine bodyPost_ret (v := .tuple #[.agg #[.int .i64 0, .slice none 0 0], .bool false]) (by simp [results, Try.results35, go_sem]) rfl ⟨rfl, ?_⟩
    exact ((Below.refl _ _).alloc (Nat.le_refl _) _).alloc (by simp) _
  · have h2 : ¬ n < 1 := by omega
    go_enter Try.func35, Try.ntmps35
    go_wp2_with fail
    refine bodyPost_ret (v := .tuple #[.agg #[.int .i64 0, .slice none 0 0], .bool false]) (by simp [results, Try.results35, go_sem]) rfl ⟨rfl, ?_⟩
    exact ((Below.refl _ _).alloc (Nat.le_refl _) _).alloc (by simp) _

/-- what read returns: an order, and whether all are numbers of it -/
def GivesRead (w : World) (n : Nat) (ok : Bool) (e : Ending) (w' : World) : Prop :=
  ∃ R m d, e = .returned (.tuple #[rgV n R m d, .bool ok]) ∧ IRow w' w'.heap.size R m (wl (cyc n)) ∧ m = phi n + 1 ∧ Below w.heap.size w w'

set_option maxRecDepth 100000 in
set_option maxHeartbeats 1000000 in
theorem read_yes (n : Nat) (most : Int) (b : Nat) (V : List SlI) (w : World) (h1 : 1 ≤ n) (h2 : n ≤ 15) (h : SlRow w b V) (hV : V.length ≤ 10) (hmo : 0 ≤ most) (hmo2 : most ≤ 1000) :
    Calls Try.prog 35 #[.int .i64 (n : Int), .int .i64 most, .slice (some ⟨b, 0, none⟩) V.length V.length] w (GivesRead w n (allB (phi n) most V)) := by
  have HPH := Lib.hid (ord_len h1 (by omega))
  have HPL : Hid (phi n ≤ n) := Lib.hid (phiK_le n n)
  have HV := Lib.hid h
  have HVL := Lib.hid hV
  obtain ⟨N, hN⟩ : ∃ N, V.length = N := ⟨_, rfl⟩
  have HN := Lib.hid hN
  rw [hN]
  clear h hV hN
  obtain ⟨w0, hw0⟩ : ∃ w0, (w.alloc (Obj.cells #[Value.int IntKind.i64 most] 3)).alloc (Obj.cells #[Value.int IntKind.i64 0, Value.slice none 0 0] 52) = w0 := ⟨_, rfl⟩
  have hb0 : Below w.heap.size w w0 := by rw [← hw0]; exact ((Below.refl _ _).alloc (Nat.le_refl _) _).alloc (by simp) _
  have hs0 : w0.heap.size = w.heap.size + 2 := by rw [← hw0]; simp
  have k0 : w0.cell? ⟨w.heap.size, 0, none⟩ = some (.int .i64 most) := by rw [← hw0]; simp
  have k1 : w0.cell? ⟨w.heap.size + 1, 0, none⟩ = some (.int .i64 0) := by rw [← hw0]; simp
  have k2 : w0.cell? ⟨w.heap.size + 1, 1, none⟩ = some (.slice none 0 0) := by rw [← hw0]; simp
  have k3 : w0.frozen? ⟨w.heap.size + 1, 0, none⟩ = false := by rw [← hw0]; simp
  have k4 : w0.frozen? ⟨w.heap.size + 1, 1, none⟩ = false := by rw [← hw0]; simp
  have HB0 := Lib.hid hb0
  have HS0 := Lib.hid hs0
  have HK : Hid (∀ w', Below w0.heap.size w0 w' → w'.cell? ⟨w.heap.size, 0, none⟩ = some (.int .i64 most) ∧ w'.cell? ⟨w.heap.size + 1, 0, none⟩ = some (.int .i64 0) ∧ w'.cell? ⟨w.heap.size + 1, 1, none⟩ = some (.slice none 0 0) ∧ w'.frozen? ⟨w.heap.size + 1, 0, none⟩ = false ∧ w'.frozen? ⟨w.heap.size + 1, 1, none⟩ = false) := Lib.hid (fun w' hb =>
    ⟨(hb.cell (p := ⟨w.heap.size, 0, none⟩) (by rw [hs0]; show w.heap.size < w.heap.size + 2; omega)).trans k0, (hb.cell (p := ⟨w.heap.size + 1, 0, none⟩) (by rw [hs0]; show w.heap.size + 1 < w.heap.size + 2; omega)).trans k1, (hb.cell (p := ⟨w.heap.size + 1, 1, none⟩) (by rw [hs0]; show w.heap.size + 1 < w.heap.size + 2; omega)).trans k2,
      (hb.frozen (p := ⟨w.heap.size + 1, 0, none⟩) (by rw [hs0]; show w.heap.size + 1 < w.heap.size + 2; omega)).trans k3, (hb.frozen (p := ⟨w.heap.size + 1, 1, none⟩) (by rw [hs0]; show w.heap.size + 1 < w.heap.size + 2; omega)).trans k4⟩)
  clear hb0 hs0 k0 k1 k2 k3 k4
  go_enter Try.func35, Try.ntmps35
  go_wp2_with fail
  try rw [hw0]
  refine (cyc_any n w0 h1 (by omega)).mono ?_; rintro e w1 ⟨R, m, d, rfl, how1, hA1, hb1⟩
  have hm : m = phi n + 1 := by have := how1.len; rw [wl_len, HPH.out.2.1] at this; exact this
  have HM := Lib.hid hm
  have HI1 : Hid (IRow w1 w1.heap.size R m (wl (cyc n))) := Lib.hid (IRow.of_own how1)
  have HB1 := Lib.hid hb1
  have HO1 := Lib.hid how1
  obtain ⟨w2, hw2⟩ : ∃ w2, rgBox w1 n R m d = w2 := ⟨_, rfl⟩
  have HB2 : Hid (Below w1.heap.size w1 w2) := Lib.hid (by rw [← hw2]; exact (Below.refl _ _).alloc (Nat.le_refl _) _)
  have HB02 : Hid (Below w0.heap.size w0 w2) := Lib.hid (ibt hb1 HB2.out)
  have x1 : w2.cell? ⟨w1.heap.size, 0, none⟩ = some (.int .i64 (n : Int)) := by rw [← hw2]; simp
  have x2 : w2.cell? ⟨w1.heap.size, 1, none⟩ = some (.slice R m d) := by rw [← hw2]; simp
  have hs2 : w1.heap.size < w2.heap.size := by rw [← hw2]; simp
  obtain ⟨z0, z1, z2, z3, z4⟩ := HK.out w2 HB02.out
  have hms : w.heap.size < w2.heap.size := by have h3 := HS0.out; have h4 := HB02.out.size; omega
  have HCP : Hid (Caps w2 n R m d w1.heap.size w.heap.size most) := Lib.hid ⟨x1, x2, z0, hs2, hms⟩
  have HV2 : Hid (SlRow w2 b V) := Lib.hid ((HV.out.next HB0.out).next HB02.out)
  have HCT : Hid (∀ w', Below w2.heap.size w2 w' → Calls Try.prog 51 #[.slice (some ⟨b, 0, none⟩) N N, .func (.func 52) #[] #[.pointer (some ⟨w1.heap.size, 0, none⟩), .pointer (some ⟨w.heap.size, 0, none⟩)]] w'
      fun e w'' => e = .returned (.bool (!allB (phi n) most V)) ∧ Below w'.heap.size w' w'') := Lib.hid (fun w' hb => by
    rw [← HN.out]
    exact containsf_any b V n (phi n) m d w1.heap.size w.heap.size R most w' (HV2.out.next hb) (HCP.out.next hb) HVL.out HM.out HPH.out.2.2.1 (by have := HPL.out; omega) hmo hmo2)
  obtain ⟨q, hq⟩ : ∃ q, allB (phi n) most V = q := ⟨_, rfl⟩
  have HQ := Lib.hid hq
  rw [hq] at HCT
  have hne : w1.heap.size ≠ w.heap.size + 1 := by have h3 := HS0.out; have h4 := hb1.size; omega
  clear how1 hA1 hb1 hm hq
  go_wp2_with fail
  try rw [hw2]
  go_region_held3 (fun w' => w'.cell? ⟨w1.heap.size, 0, none⟩ = some (.int .i64 (n : Int)) ∧ w'.cell? ⟨w1.heap.size, 1, none⟩ = some (.slice R m d)) (first | exact ⟨x1, x2⟩ | exact ⟨y1, y2⟩ | exact ⟨(World.cell?_of_block (w := w3) ((Below.heap_setCell _ _ _ _ hne).trans (Below.heap_setCell _ _ _ _ hne))).trans y1, (World.cell?_of_block (w := w3) ((Below.heap_setCell _ _ _ _ hne).trans (Below.heap_setCell _ _ _ _ hne))).trans y2⟩ | go_keep)
    (first | (go_at_call 51; refine (HCT.out _ (by first | exact Below.refl _ _ | exact (Below.refl _ _).drew)).mono ?_; rintro e w3 ⟨rfl, hb3⟩; obtain ⟨y1, y2, y3, y4⟩ : w3.cell? ⟨w1.heap.size, 0, none⟩ = some (.int .i64 (n : Int)) ∧ w3.cell? ⟨w1.heap.size, 1, none⟩ = some (.slice R m d) ∧ True ∧ True := ⟨((ibt (Below.refl _ _).drew hb3).cell (p := ⟨w1.heap.size, 0, none⟩) hs2).trans x1, ((ibt (Below.refl _ _).drew hb3).cell (p := ⟨w1.heap.size, 1, none⟩) hs2).trans x2, trivial, trivial⟩; obtain ⟨v0, v1, v2, v3, v4⟩ := HK.out w3 (ibt HB02.out (ibt (Below.refl _ _).drew hb3))))
  have HBE : Hid (Below w.heap.size w ((w3.setCell ⟨w.heap.size + 1, 0, none⟩ (.int .i64 (n : Int))).setCell ⟨w.heap.size + 1, 1, none⟩ (.slice R m d))) := Lib.hid
    (((ibt HB0.out (ibt HB02.out (ibt (Below.refl _ _).drew hb3))).setCell (p := ⟨w.heap.size + 1, 0, none⟩) (by show w.heap.size ≤ w.heap.size + 1; omega) _).setCell (p := ⟨w.heap.size + 1, 1, none⟩) (by show w.heap.size ≤ w.heap.size + 1; omega) _)
  have HIE : Hid (IRow ((w3.setCell ⟨w.heap.size + 1, 0, none⟩ (.int .i64 (n : Int))).setCell ⟨w.heap.size + 1, 1, none⟩ (.slice R m d)) ((w3.setCell ⟨w.heap.size + 1, 0, none⟩ (.int .i64 (n : Int))).setCell ⟨w.heap.size + 1, 1, none⟩ (.slice R m d)).heap.size R m (wl (cyc n))) := Lib.hid (by
    have h3 : Own w3 w0.heap.size R m d (wl (cyc n)) := iown_bel (iown_bel HO1.out HB2.out) (ibt (Below.refl _ _).drew hb3)
    have h4 := HS0.out
    exact IRow.of_own (ownsRow_setCell_below (ownsRow_setCell_below h3 (a := ⟨w.heap.size + 1, 0, none⟩) (by show w.heap.size + 1 < w0.heap.size; omega) (.int .i64 (n : Int))) (a := ⟨w.heap.size + 1, 1, none⟩) (by show w.heap.size + 1 < w0.heap.size; omega) (.slice R m d)))
  have s1 : w.heap.size + 1 < w3.heap.size := by have h3 := HS0.out; have h4 := HB02.out.size; have h5 := (ibt (Below.refl _ _).drew hb3).size; omega
  have e1 : (w3.setCell ⟨w.heap.size + 1, 0, none⟩ (.int .i64 (n : Int))).cell? ⟨w.heap.size + 1, 0, none⟩ = some (.int .i64 (n : Int)) := World.cell?_setCell_same' _ _ _ (by rw [v1]; rfl)
  have e2 : ((w3.setCell ⟨w.heap.size + 1, 0, none⟩ (.int .i64 (n : Int))).setCell ⟨w.heap.size + 1, 1, none⟩ (.slice R m d)).cell? ⟨w.heap.size + 1, 1, none⟩ = some (.slice R m d) := World.cell?_setCell_same' _ _ _ (by rw [World.cell?_setCell_other _ _ _ _ (by intro e; injection e with _ e2 _; omega), v2]; rfl)
  go_wp2_with fail
  refine bodyPost_ret (v := .tuple #[rgV n R m d, .bool q]) (by simp [results, Try.results35, go_sem, e1, e2]) rfl ⟨R, m, d, by rw [HQ.out], HIE.out, HM.out, HBE.out⟩
end Go.Proofs.Ytmljndjiipgpdaa
