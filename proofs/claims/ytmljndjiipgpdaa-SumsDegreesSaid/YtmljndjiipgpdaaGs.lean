/- The sum of Gauss: the walks of both. -/
import Derived.Test.YtmljndjiipgpdaaRn
import Derived.Test.YtmljndjiipgpdaaLc
import Derived.Test.YtmljndjiipgpdaaLgd
import Derived.Test.YtmljndjiipgpdaaPr
namespace Go.Proofs.Ytmljndjiipgpdaa
open Go Go.RowKit GhP GhN

/-- the symbols of all numbers below p -/
def symL (p : Nat) : List Int := (List.range p).map fun a => jn a p
theorem symL_len (p : Nat) : (symL p).length = p := by simp [symL]
def isG (p : Int) : Bool := decide (p = 3 ∨ p = 5 ∨ p = 7 ∨ p = 11 ∨ p = 13)
theorem isG_yes {p : Int} (h : isG p = true) : p = 3 ∨ p = 5 ∨ p = 7 ∨ p = 11 ∨ p = 13 := by unfold isG at h; exact of_decide_eq_true h
theorem isG_mk {p : Int} (h : p = 3 ∨ p = 5 ∨ p = 7 ∨ p = 11 ∨ p = 13) : isG p = true := by unfold isG; exact decide_eq_true h
theorem isG_no {p : Int} (h : isG p = false) : ¬ (p = 3 ∨ p = 5 ∨ p = 7 ∨ p = 11 ∨ p = 13) := by unfold isG at h; exact of_decide_eq_false h
theorem pr_dec {p : Nat} (h : 2 ≤ p ∧ ∀ d, d < p + 1 → d ∣ p → d = 1 ∨ d = p) : Pr p :=
  ⟨h.1, fun d hd => h.2 d (by have := Nat.le_of_dvd (by omega) hd; omega) hd⟩
theorem isG_pr {p : Nat} (h : isG p = true) : Pr p ∧ p % 2 = 1 ∧ 3 ≤ p ∧ p ≤ 13 := by
  have h := isG_yes h
  have e : p = 3 ∨ p = 5 ∨ p = 7 ∨ p = 11 ∨ p = 13 := by omega
  rcases e with rfl | rfl | rfl | rfl | rfl <;> exact ⟨pr_dec (by decide), by decide, by decide, by decide⟩
theorem notG {p : Int} (h3 : 3 ≤ p) (h13 : p ≤ 13) (h : isG p = false) : prB p = false := by
  have h := isG_no h
  refine prB_no fun hp => ?_
  have e : p = 4 ∨ p = 6 ∨ p = 8 ∨ p = 9 ∨ p = 10 ∨ p = 12 := by omega
  rcases e with rfl | rfl | rfl | rfl | rfl | rfl
  · have := hp.2 2 (by decide); revert this; decide
  · have := hp.2 2 (by decide); revert this; decide
  · have := hp.2 2 (by decide); revert this; decide
  · have := hp.2 3 (by decide); revert this; decide
  · have := hp.2 2 (by decide); revert this; decide
  · have := hp.2 2 (by decide); revert this; decide

theorem indexf_none (v : Value) (w : World) :
    Calls Try.prog 60 #[.slice none 0 0, v] w fun e w' => e = .returned (.int .i64 (-1)) ∧ Below w.heap.size w w' := by
  go_enter Try.func60, Try.ntmps60
  go_wp2_with fail
  go_loopw [8] (fun x wr => x = .int .i64 0 ∧ wr = w) (fun _ _ => 0)
  case atStart => exact ⟨rfl, rfl⟩
  case round =>
    obtain ⟨rfl, rfl⟩ := hrel
    go_wp2_with fail
    go_ret
    exact ⟨rfl, Below.refl _ _⟩
theorem containsf_none (rb mb : Nat) (w : World) :
    Calls Try.prog 51 #[.slice none 0 0, .func (.func 52) #[] #[.pointer (some ⟨rb, 0, none⟩), .pointer (some ⟨mb, 0, none⟩)]] w fun e w' => e = .returned (.bool false) ∧ Below w.heap.size w w' := by
  go_enter Try.func51, Try.ntmps51
  go_wp2_with fail
  refine (indexf_none _ w).mono ?_; rintro e w1 ⟨rfl, hb1⟩
  go_wp2_with fail
  go_ret
  exact ⟨rfl, hb1⟩

set_option maxRecDepth 100000 in
set_option maxHeartbeats 1000000 in
theorem read_none (n : Nat) (most : Int) (w : World) (h1 : 1 ≤ n) (h2 : n ≤ 15) :
    Calls Try.prog 35 #[.int .i64 (n : Int), .int .i64 most, .slice none 0 0] w (GivesRead w n true) := by
  have HPH := Lib.hid (ord_len h1 (by omega))
  have HPL : Hid (phi n ≤ n) := Lib.hid (phiK_le n n)
  obtain ⟨w0, hw0⟩ : ∃ w0, (w.alloc (Obj.cells #[Value.int IntKind.i64 most] 3)).alloc (Obj.cells #[Value.int IntKind.i64 0, Value.slice none 0 0] 52) = w0 := ⟨_, rfl⟩
  have hb0 : Below w.heap.size w w0 := by rw [← hw0]; exact ((Below.refl _ _).alloc (Nat.le_refl _) _).alloc (by simp) _
  have hs0 : w0.heap.size = w.heap.size + 2 := by rw [← hw0]; simp
  have k0 : w0.cell? ⟨w.heap.size, 0, none⟩ = some (.int .i64 most) := by rw [← hw0]; simp
  have k1 : w0.cell? ⟨w.heap.size + 1, 0, none⟩ = some (.int .i64 0) := by rw [← hw0]; simp
  have k2 : w0.cell? ⟨w.heap.size + 1, 1, none⟩ = some (.slice none 0 0) := by rw [← hw0]; simp
  have k3 : w0.frozen? ⟨w.heap.size + 1, 0, none⟩ = false := by rw [← hw0]; simp
  have k4 : w0.frozen? ⟨w.heap.size + 1, 1, none⟩ = false := by rw [← hw0]; simp
  have HB0 := Lib.hid hb0
  have HS0 := Lib.hid hs0
  have HK : Hid (∀ w', Below w0.heap.size w0 w' → w'.cell? ⟨w.heap.size, 0, none⟩ = some (.int .i64 most) ∧ w'.cell? ⟨w.heap.size + 1, 0, none⟩ = some (.int .i64 0) ∧ w'.cell? ⟨w.heap.size + 1, 1, none⟩ = some (.slice none 0 0) ∧ w'.frozen? ⟨w.heap.size + 1, 0, none⟩ = false ∧ w'.frozen? ⟨w.heap.size + 1, 1, none⟩ = false) := Lib.hid (fun w' hb =>
    ⟨(hb.cell (p := ⟨w.heap.size, 0, none⟩) (by rw [hs0]; show w.heap.size < w.heap.size + 2; omega)).trans k0, (hb.cell (p := ⟨w.heap.size + 1, 0, none⟩) (by rw [hs0]; show w.heap.size + 1 < w.heap.size + 2; omega)).trans k1, (hb.cell (p := ⟨w.heap.size + 1, 1, none⟩) (by rw [hs0]; show w.heap.size + 1 < w.heap.size + 2; omega)).trans k2,
      (hb.frozen (p := ⟨w.heap.size + 1, 0, none⟩) (by rw [hs0]; show w.heap.size + 1 < w.heap.size + 2; omega)).trans k3, (hb.frozen (p := ⟨w.heap.size + 1, 1, none⟩) (by rw [hs0]; show w.heap.size + 1 < w.heap.size + 2; omega)).trans k4⟩)
  clear hb0 hs0 k0 k1 k2 k3 k4
  go_enter Try.func35, Try.ntmps35
  go_wp2_with fail
  try rw [hw0]
  refine (cyc_any n w0 h1 (by omega)).mono ?_; rintro e w1 ⟨R, m, d, rfl, how1, hA1, hb1⟩
  have hm : m = phi n + 1 := by have := how1.len; rw [wl_len, HPH.out.2.1] at this; exact this
  have HM := Lib.hid hm
  have HI1 : Hid (IRow w1 w1.heap.size R m (wl (cyc n))) := Lib.hid (IRow.of_own how1)
  have HB1 := Lib.hid hb1
  have HO1 := Lib.hid how1
  obtain ⟨w2, hw2⟩ : ∃ w2, rgBox w1 n R m d = w2 := ⟨_, rfl⟩
  have HB2 : Hid (Below w1.heap.size w1 w2) := Lib.hid (by rw [← hw2]; exact (Below.refl _ _).alloc (Nat.le_refl _) _)
  have HB02 : Hid (Below w0.heap.size w0 w2) := Lib.hid (ibt hb1 HB2.out)
  have x1 : w2.cell? ⟨w1.heap.size, 0, none⟩ = some (.int .i64 (n : Int)) := by rw [← hw2]; simp
  have x2 : w2.cell? ⟨w1.heap.size, 1, none⟩ = some (.slice R m d) := by rw [← hw2]; simp
  have hs2 : w1.heap.size < w2.heap.size := by rw [← hw2]; simp
  obtain ⟨z0, z1, z2, z3, z4⟩ := HK.out w2 HB02.out
  have hms : w.heap.size < w2.heap.size := by have h3 := HS0.out; have h4 := HB02.out.size; omega
  have HCT : Hid (∀ w', Calls Try.prog 51 #[.slice none 0 0, .func (.func 52) #[] #[.pointer (some ⟨w1.heap.size, 0, none⟩), .pointer (some ⟨w.heap.size, 0, none⟩)]] w'
      fun e w'' => e = .returned (.bool false) ∧ Below w'.heap.size w' w'') := Lib.hid (fun w' => containsf_none _ _ w')
  have hne : w1.heap.size ≠ w.heap.size + 1 := by have h3 := HS0.out; have h4 := hb1.size; omega
  clear how1 hA1 hb1 hm
  go_wp2_with fail
  try rw [hw2]
  go_region_held3 (fun w' => w'.cell? ⟨w1.heap.size, 0, none⟩ = some (.int .i64 (n : Int)) ∧ w'.cell? ⟨w1.heap.size, 1, none⟩ = some (.slice R m d)) (first | exact ⟨x1, x2⟩ | exact ⟨y1, y2⟩ | exact ⟨(World.cell?_of_block (w := w3) ((Below.heap_setCell _ _ _ _ hne).trans (Below.heap_setCell _ _ _ _ hne))).trans y1, (World.cell?_of_block (w := w3) ((Below.heap_setCell _ _ _ _ hne).trans (Below.heap_setCell _ _ _ _ hne))).trans y2⟩ | go_keep)
    (first | (go_at_call 51; refine (HCT.out _).mono ?_; rintro e w3 ⟨rfl, hb3⟩; obtain ⟨y1, y2, y3, y4⟩ : w3.cell? ⟨w1.heap.size, 0, none⟩ = some (.int .i64 (n : Int)) ∧ w3.cell? ⟨w1.heap.size, 1, none⟩ = some (.slice R m d) ∧ True ∧ True := ⟨((ibt (Below.refl _ _).drew hb3).cell (p := ⟨w1.heap.size, 0, none⟩) hs2).trans x1, ((ibt (Below.refl _ _).drew hb3).cell (p := ⟨w1.heap.size, 1, none⟩) hs2).trans x2, trivial, trivial⟩; obtain ⟨v0, v1, v2, v3, v4⟩ := HK.out w3 (ibt HB02.out (ibt (Below.refl _ _).drew hb3))))
  have HBE : Hid (Below w.heap.size w ((w3.setCell ⟨w.heap.size + 1, 0, none⟩ (.int .i64 (n : Int))).setCell ⟨w.heap.size + 1, 1, none⟩ (.slice R m d))) := Lib.hid
    (((ibt HB0.out (ibt HB02.out (ibt (Below.refl _ _).drew hb3))).setCell (p := ⟨w.heap.size + 1, 0, none⟩) (by show w.heap.size ≤ w.heap.size + 1; omega) _).setCell (p := ⟨w.heap.size + 1, 1, none⟩) (by show w.heap.size ≤ w.heap.size + 1; omega) _)
  have HIE : Hid (IRow ((w3.setCell ⟨w.heap.size + 1, 0, none⟩ (.int .i64 (n : Int))).setCell ⟨w.heap.size + 1, 1, none⟩ (.slice R m d)) ((w3.setCell ⟨w.heap.size + 1, 0, none⟩ (.int .i64 (n : Int))).setCell ⟨w.heap.size + 1, 1, none⟩ (.slice R m d)).heap.size R m (wl (cyc n))) := Lib.hid (by
    have h3 : Own w3 w0.heap.size R m d (wl (cyc n)) := iown_bel (iown_bel HO1.out HB2.out) (ibt (Below.refl _ _).drew hb3)
    have h4 := HS0.out
    exact IRow.of_own (ownsRow_setCell_below (ownsRow_setCell_below h3 (a := ⟨w.heap.size + 1, 0, none⟩) (by show w.heap.size + 1 < w0.heap.size; omega) (.int .i64 (n : Int))) (a := ⟨w.heap.size + 1, 1, none⟩) (by show w.heap.size + 1 < w0.heap.size; omega) (.slice R m d)))
  have s1 : w.heap.size + 1 < w3.heap.size := by have h3 := HS0.out; have h4 := HB02.out.size; have h5 := (ibt (Below.refl _ _).drew hb3).size; omega
  have e1 : (w3.setCell ⟨w.heap.size + 1, 0, none⟩ (.int .i64 (n : Int))).cell? ⟨w.heap.size + 1, 0, none⟩ = some (.int .i64 (n : Int)) := World.cell?_setCell_same' _ _ _ (by rw [v1]; rfl)
  have e2 : ((w3.setCell ⟨w.heap.size + 1, 0, none⟩ (.int .i64 (n : Int))).setCell ⟨w.heap.size + 1, 1, none⟩ (.slice R m d)).cell? ⟨w.heap.size + 1, 1, none⟩ = some (.slice R m d) := World.cell?_setCell_same' _ _ _ (by rw [World.cell?_setCell_other _ _ _ _ (by intro e; injection e with _ e2 _; omega), v2]; rfl)
  go_wp2_with fail
  refine bodyPost_ret (v := .tuple #[rgV n R m d, .bool true]) (by simp [results, Try.results35, go_sem, e1, e2]) rfl ⟨R, m, d, rfl, HIE.out, HM.out, HBE.out⟩

theorem Gauss_no (p : Int) (w : World) (h : isG p = false) :
    Calls Try.prog 13 #[.int .i64 p] w fun e w' => e = .returned (.tuple #[.slice none 0 0, .int .i64 2]) ∧ Below w.heap.size w w' := by
  by_cases h1 : p < 3
  · clear h
    go_enter Try.func13, Try.ntmps13
    go_wp2_with fail
    go_ret2
    exact ⟨rfl, Below.refl _ _⟩
  · by_cases h2 : 13 < p
    · clear h
      go_enter Try.func13, Try.ntmps13
      go_wp2_with fail
      go_ret2
      exact ⟨rfl, Below.refl _ _⟩
    · have HP := Lib.hid (notG (by omega) (by omega) h)
      clear h
      go_enter Try.func13, Try.ntmps13
      go_wp2_with fail
      refine (isPrime_any p w (by omega) (by omega)).mono ?_; rw [HP.out]; rintro e w1 ⟨rfl, rfl⟩
      go_wp2_with fail
      go_ret2
      exact ⟨rfl, Below.refl _ _⟩

theorem sym_set {P a : Nat} (hP : a < P) : (symL P).take (a + 1) ++ List.replicate (P - (a + 1)) 0 = ((symL P).take a ++ List.replicate (P - a) 0).set a (jn a P) := by
  have hl := symL_len P
  have e : (symL P)[a]'(by omega) = jn a P := by simp [symL]
  rw [List.take_succ_eq_append_getElem (by omega), e, show P - a = (P - (a + 1)) + 1 by omega, List.replicate_succ, List.set_append_right _ _ (by rw [List.length_take]; omega), List.length_take]
  rw [show a - min a (symL P).length = 0 by omega, List.set_cons_zero]
  simp
theorem sym_first {P : Nat} (h : Pr P) : List.replicate P (0 : Int) = (symL P).take 1 ++ List.replicate (P - 1) 0 := by
  have h2 := h.1
  have e : jn 0 P = 0 := by
    unfold jn
    rw [if_neg (by rw [Nat.gcd_zero_left]; omega)]
  obtain ⟨m, rfl⟩ : ∃ m, P = m + 1 := ⟨P - 1, by omega⟩
  rw [symL, List.range_succ_eq_map, List.map_cons, e]
  simp [List.replicate_succ]
theorem jn_wl (a P : Nat) : wrap64 (jn a P) = jn a P := by
  have h := ji_cases (a : Int) P
  rw [ji_nat] at h
  rcases h with h | h | h <;> rw [h] <;> unfold wrap64 <;> decide
theorem symL_wl (P : Nat) : wl (symL P) = symL P := by
  unfold wl
  conv => rhs; rw [← List.map_id (symL P)]
  refine List.map_congr_left fun x hx => ?_
  unfold symL at hx
  obtain ⟨a, _, rfl⟩ := List.mem_map.1 hx
  exact jn_wl a P

set_option maxRecDepth 100000 in
set_option maxHeartbeats 1000000 in
theorem Gauss_yes (P : Nat) (w : World) (h : isG P = true) :
    Calls Try.prog 13 #[.int .i64 (P : Int)] w (GivesIE w (wl (redZ (cyc P) (symL P))) 0) := by
  obtain ⟨hp, ho, h3, h13⟩ := isG_pr h
  have HPR := Lib.hid (prB_yes (n := (P : Int)) (by rwa [Int.toNat_natCast]))
  have HPH := Lib.hid (ord_len (n := P) (by omega) (by omega))
  have HPL : Hid (phi P ≤ P) := Lib.hid (phiK_le P P)
  have HF1 := Lib.hid (sym_first hp)
  have HVAL : Hid (∀ (a : Nat) (w' : World), a < P → Calls Try.prog 36 #[symV a P 1] w' fun e w'' => e = .returned (.int .i64 (jn a P)) ∧ Below w'.heap.size w' w'') := Lib.hid (fun a w' ha => by
    have := value_any a P 1 w' ⟨⟨by omega, by omega, .inl rfl⟩, by omega, by omega, by omega⟩
    have e : sv a P 1 = jn a P := by rw [sv_one]; unfold jz; rw [Int.toNat_natCast, ji_nat]
    rwa [e] at this)
  have HRD : Hid (∀ w', Calls Try.prog 35 #[.int .i64 (P : Int), .int .i64 1000, .slice none 0 0] w' (GivesRead w' P true)) := Lib.hid (fun w' => read_none P 1000 w' (by omega) (by omega))
  have hmk := run_make_row' (P := Try.prog) 48 3 (.int .i64 0) 8 Try.underlying48 infoI rfl .i64 .i64 P (by omega) (by omega)
  clear h hp ho
  go_enter Try.func13, Try.ntmps13
  go_wp2_with fail
  refine (isPrime_any P w (by omega) (by omega)).mono ?_; rw [HPR.out]; rintro e w9 ⟨rfl, rfl⟩
  go_wp2_with fail
  refine (HRD.out _).mono ?_; rintro e w1 ⟨R, m, d, rfl, hir, hme, hb1⟩
  have HME := Lib.hid hme
  obtain ⟨w2, hw2⟩ : ∃ w2, rgBox w1 P R m d = w2 := ⟨_, rfl⟩
  have HB2 : Hid (Below w.heap.size w w2) := Lib.hid (by rw [← hw2]; exact hb1.alloc hb1.size _)
  have HIR : Hid (IRow w2 w2.heap.size R m (wl (cyc P))) := Lib.hid (by rw [← hw2]; exact hir.next ((Below.refl _ _).alloc (Nat.le_refl _) _))
  have HK : Hid (∀ w', Below w2.heap.size w2 w' → w'.cell? ⟨w1.heap.size, 0, none⟩ = some (.int .i64 (P : Int)) ∧ w'.cell? ⟨w1.heap.size, 1, none⟩ = some (.slice R m d)) := Lib.hid (fun w' hb => by
    have : w2.heap.size = w1.heap.size + 1 := by rw [← hw2]; simp
    rw [this, ← hw2] at hb
    exact rg_cells hb)
  obtain ⟨w3, hw3⟩ : ∃ w3, w2.alloc (Obj.cells (madeCells #[Value.int .i64 0] P) 3) = w3 := ⟨_, rfl⟩
  have how3 : Own w3 w2.heap.size (some ⟨w2.heap.size, 0, none⟩) P P ((symL P).take 1 ++ List.replicate (P - 1) 0) := by
    rw [← hw3, ← HF1.out]; exact own_made (Nat.le_refl _) (by unfold maxLen; omega)
  have HB3 : Hid (Below w2.heap.size w2 w3) := Lib.hid (by rw [← hw3]; exact (Below.refl _ _).alloc (Nat.le_refl _) _)
  obtain ⟨G, hG⟩ : ∃ G, w2.heap.size = G := ⟨_, rfl⟩
  have HO3 : Hid (Own w3 w2.heap.size (some ⟨G, 0, none⟩) P P ((symL P).take 1 ++ List.replicate (P - 1) 0)) := Lib.hid (by rw [← hG]; exact how3)
  clear hir hme hb1 how3
  go_wp2_with fail
  try rw [hw2]
  try rw [hw3]
  try rw [hG]
  clear hw2 hw3 hG hmk
  go_loopw [7] (fun x wr => ∃ a : Nat, 1 ≤ a ∧ a ≤ P ∧ x = .int .i64 (a : Int) ∧ Hid (Own wr w2.heap.size (some ⟨G, 0, none⟩) P P ((symL P).take a ++ List.replicate (P - a) 0)) ∧ Below w2.heap.size w2 wr) (fun x _ => P - (intOf x).toNat)
  case atStart => exact ⟨1, by omega, by omega, rfl, HO3, HB3.out⟩
  case round =>
    obtain ⟨a, ha1, haP, rfl, how, hb⟩ := hrel
    by_cases hlt : a < P
    · have hai : (a : Int) < (P : Int) := by omega
      have HSS := Lib.hid (sym_set hlt)
      have HBo := Lib.hid hb
      clear hb
      go_wp2_with fail
      refine (HVAL.out a wr hlt).mono ?_; rintro e w5 ⟨rfl, hb5⟩
      have HO5 := Lib.hid (iown_bel how.out hb5)
      have HB5 := Lib.hid (ibt HBo.out hb5)
      have hx5 : ((symL P).take a ++ List.replicate (P - a) 0)[a]? = some 0 := by
        rw [List.getElem?_append_right (by rw [List.length_take]; omega), List.length_take, symL_len, List.getElem?_replicate, if_pos (by omega)]
      obtain ⟨g1, g2, g3, g4⟩ := Own.cell HO5.out hx5
      clear hb5 hx5
      go_wp2_with fail
      go_roundw
      case rel => exact ⟨a + 1, by omega, by omega, by go_num, by rw [HSS.out]; exact Lib.hid (Own.store HO5.out a _), HB5.out.setCell (p := ⟨G, a, none⟩) g4 _⟩
      case measure => simp [intOf]; omega
    · have e : a = P := by omega
      subst e
      have HE : Hid ((symL a).take a ++ List.replicate (a - a) 0 = wl (symL a)) := Lib.hid (by
        rw [symL_wl, Nat.sub_self, List.replicate_zero, List.append_nil, List.take_of_length_le (by rw [symL_len]; omega)])
      rw [HE.out] at how
      obtain ⟨x1, x2⟩ := HK.out wr hb
      have HIP := Lib.hid (IRow.of_own how.out)
      have HIG := Lib.hid (HIR.out.next hb)
      have HBo := Lib.hid hb
      have hm2 : 2 ≤ m := by have := HME.out; have := HPH.out.2.2.1; omega
      have hma : m ≤ a + 1 := by have := HME.out; have := HPL.out; omega
      clear hb
      go_wp2_with fail
      refine (lowest_any a (some ⟨G, 0, none⟩) R m d a a (symL a) (cyc a) wr HIG.out HIP.out hm2 hma (by omega)).mono ?_; rintro e w6 ⟨A6, n6, c6, rfl, how6, hA6, hb6⟩
      have HO6 : Hid (Own w6 w.heap.size A6 n6 c6 (wl (redZ (cyc a) (symL a)))) := Lib.hid (how6.low (Nat.le_trans HB2.out.size HBo.out.size))
      have HA6 := Lib.hid hA6
      have HB6 := Lib.hid (ibt HB2.out (ibt HBo.out hb6))
      clear how6 hA6 hb6
      go_wp2_with fail
      go_ret2
      exact ⟨A6, n6, c6, rfl, HO6.out, HA6.out, HB6.out⟩

set_option maxRecDepth 100000 in
set_option maxHeartbeats 1000000 in
theorem rgauss_any (P : Nat) (w : World) (h : isG P = true) :
    Calls Try.prog 16 #[.int .i64 (P : Int)] w (GivesI w (wl (redZ (cyc P) (symL P)))) := by
  obtain ⟨hp, ho, h3, h13⟩ := isG_pr h
  have HF1 := Lib.hid (sym_first hp)
  have HVAL : Hid (∀ (a : Nat) (w' : World), a < P → Calls Try.prog 39 #[.int .i64 (a : Int), .int .i64 (P : Int)] w' fun e w'' => e = .returned (.int .i64 (jn a P)) ∧ Below w'.heap.size w' w'') := Lib.hid (fun a w' _ => by
    have := legendre_any a P w' hp ho (by omega)
    rwa [ji_nat] at this)
  have hmk := run_make_row' (P := Try.prog) 22 3 (.int .i64 0) 8 Try.underlying22 infoI rfl .i64 .i64 P (by omega) (by omega)
  obtain ⟨w3, hw3⟩ : ∃ w3, w.alloc (Obj.cells (madeCells #[Value.int .i64 0] P) 3) = w3 := ⟨_, rfl⟩
  have how3 : Own w3 w.heap.size (some ⟨w.heap.size, 0, none⟩) P P ((symL P).take 1 ++ List.replicate (P - 1) 0) := by
    rw [← hw3, ← HF1.out]; exact own_made (Nat.le_refl _) (by unfold maxLen; omega)
  have HB3 : Hid (Below w.heap.size w w3) := Lib.hid (by rw [← hw3]; exact (Below.refl _ _).alloc (Nat.le_refl _) _)
  obtain ⟨G, hG⟩ : ∃ G, w.heap.size = G := ⟨_, rfl⟩
  have HO3 : Hid (Own w3 w.heap.size (some ⟨G, 0, none⟩) P P ((symL P).take 1 ++ List.replicate (P - 1) 0)) := Lib.hid (by rw [← hG]; exact how3)
  clear h hp ho how3
  go_enter Try.func16, Try.ntmps16
  go_wp2_with fail
  try rw [hw3]
  try rw [hG]
  clear hw3 hG hmk
  go_loopw [4] (fun x wr => ∃ a : Nat, 1 ≤ a ∧ a ≤ P ∧ x = .int .i64 (a : Int) ∧ Hid (Own wr w.heap.size (some ⟨G, 0, none⟩) P P ((symL P).take a ++ List.replicate (P - a) 0)) ∧ Below w.heap.size w wr) (fun x _ => P - (intOf x).toNat)
  case atStart => exact ⟨1, by omega, by omega, rfl, HO3, HB3.out⟩
  case round =>
    obtain ⟨a, ha1, haP, rfl, how, hb⟩ := hrel
    by_cases hlt : a < P
    · have hai : (a : Int) < (P : Int) := by omega
      have HSS := Lib.hid (sym_set hlt)
      have HBo := Lib.hid hb
      clear hb
      go_wp2_with fail
      refine (HVAL.out a wr hlt).mono ?_; rintro e w5 ⟨rfl, hb5⟩
      have HO5 := Lib.hid (iown_bel how.out hb5)
      have HB5 := Lib.hid (ibt HBo.out hb5)
      have hx5 : ((symL P).take a ++ List.replicate (P - a) 0)[a]? = some 0 := by
        rw [List.getElem?_append_right (by rw [List.length_take]; omega), List.length_take, symL_len, List.getElem?_replicate, if_pos (by omega)]
      obtain ⟨g1, g2, g3, g4⟩ := Own.cell HO5.out hx5
      clear hb5 hx5
      go_wp2_with fail
      go_roundw
      case rel => exact ⟨a + 1, by omega, by omega, by go_num, by rw [HSS.out]; exact Lib.hid (Own.store HO5.out a _), HB5.out.setCell (p := ⟨G, a, none⟩) g4 _⟩
      case measure => simp [intOf]; omega
    · have e : a = P := by omega
      subst e
      have HE : Hid ((symL a).take a ++ List.replicate (a - a) 0 = wl (symL a)) := Lib.hid (by
        rw [symL_wl, Nat.sub_self, List.replicate_zero, List.append_nil, List.take_of_length_le (by rw [symL_len]; omega)])
      rw [HE.out] at how
      have HIP := Lib.hid (IRow.of_own how.out)
      have HBo := Lib.hid hb
      clear hb
      go_wp2_with fail
      refine (reduced_any a (some ⟨G, 0, none⟩) a a (symL a) wr HIP.out (by omega) (by omega) (by omega) (by omega)).mono ?_; rintro e w6 ⟨A6, n6, c6, rfl, how6, hA6, hb6⟩
      have HO6 : Hid (Own w6 w.heap.size A6 n6 c6 (wl (redZ (cyc a) (symL a)))) := Lib.hid (how6.low HBo.out.size)
      have HA6 := Lib.hid hA6
      have HB6 := Lib.hid (ibt HBo.out hb6)
      clear how6 hA6 hb6
      go_wp2_with fail
      go_ret
      exact ⟨A6, n6, c6, rfl, HO6.out, HA6.out, HB6.out⟩
end Go.Proofs.Ytmljndjiipgpdaa
