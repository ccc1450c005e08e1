/- SumsGauss: the walk of the law. -/
import Derived.Test.YtmljndjiipgpdaaPn
import Derived.Test.YtmljndjiipgpdaaNx
namespace Go.Proofs.Ytmljndjiipgpdaa
open Go Go.RowKit GhP GhN

/-- the sum of Gauss -/
def gau (p : Nat) : List Int := redZ (cyc p) (symL p)
def gauB (p : Nat) : Bool :=
  timesZ (cyc p) (gau p) (gau p) == (List.replicate (p - 1) 0).set 0 ((p : Int) * (2 - (p : Int) % 4)) && wl (gau p) == gau p && (gau p).length == p - 1 && phi p == p - 1 &&
  (gau p).all (fun x => decide (-1000 ≤ x ∧ x ≤ 1000)) && wl (timesZ (cyc p) (gau p) (gau p)) == timesZ (cyc p) (gau p) (gau p) &&
  (List.range p).all fun t => t == 0 || (turnZ (cyc p) p t (gau p) == (gau p).map (fun x => x * jn t p) && wl (turnZ (cyc p) p t (gau p)) == turnZ (cyc p) p t (gau p) && Nat.gcd t p == 1)
theorem gau_all : gauB 3 = true ∧ gauB 5 = true ∧ gauB 7 = true ∧ gauB 11 = true ∧ gauB 13 = true := by decide +kernel

structure GauF (p : Nat) : Prop where
  sq : timesZ (cyc p) (gau p) (gau p) = (List.replicate (p - 1) 0).set 0 ((p : Int) * (2 - (p : Int) % 4))
  w : wl (gau p) = gau p
  len : (gau p).length = p - 1
  ph : phi p = p - 1
  bd : ∀ x ∈ gau p, -1000 ≤ x ∧ x ≤ 1000
  w2 : wl (timesZ (cyc p) (gau p) (gau p)) = timesZ (cyc p) (gau p) (gau p)
  tn : ∀ t, 1 ≤ t → t < p → turnZ (cyc p) p t (gau p) = (gau p).map (fun x => x * jn t p) ∧ wl (turnZ (cyc p) p t (gau p)) = turnZ (cyc p) p t (gau p) ∧ Nat.gcd t p = 1
set_option maxHeartbeats 400000 in
theorem gau_of {p : Nat} (h : isG p = true) : GauF p := by
  have h5 := isG_yes h
  have e : p = 3 ∨ p = 5 ∨ p = 7 ∨ p = 11 ∨ p = 13 := by omega
  have hb : gauB p = true := by
    obtain ⟨h1, h2, h3, h4, h6⟩ := gau_all
    rcases e with rfl | rfl | rfl | rfl | rfl
    · exact h1
    · exact h2
    · exact h3
    · exact h4
    · exact h6
  unfold gauB at hb
  simp only [Bool.and_eq_true, beq_iff_eq, List.all_eq_true, decide_eq_true_eq, List.mem_range, Bool.or_eq_true] at hb
  obtain ⟨⟨⟨⟨⟨⟨h1, h2⟩, h3⟩, h4⟩, h6⟩, h7⟩, h8⟩ := hb
  exact ⟨h1, h2, h3, h4, h6, h7, fun t ht1 ht2 => by
    rcases h8 t ht2 with h9 | h9
    · omega
    · exact ⟨h9.1.1, h9.1.2, h9.2⟩⟩

theorem gau_set {L : List Int} {s : Int} {j : Nat} {x : Int} (h : L[j]? = some x) : ((L.map (fun x => x * s)).take (j + 1) ++ L.drop (j + 1)) = ((L.map (fun x => x * s)).take j ++ L.drop j).set j (x * s) := by
  obtain ⟨hj, e⟩ := List.getElem?_eq_some_iff.1 h
  rw [List.take_succ_eq_append_getElem (by simpa using hj), List.drop_eq_getElem_cons hj, List.set_append_right _ _ (by rw [List.length_take]; simp; omega), List.length_take]
  rw [show j - min j (L.map (fun x => x * s)).length = 0 by simp; omega, List.set_cons_zero]
  simp [e]

set_option maxRecDepth 100000 in
set_option maxHeartbeats 1000000 in
theorem gauss_walk (P : Nat) (t : Int) (w : World) (hg : isG P = true) (_l1 : -9223372036854775808 ≤ t) (_l2 : t ≤ 9223372036854775807) :
    Calls Try.prog 9 #[.int .i64 (P : Int), .int .i64 t] w fun e w' => e = .returned (.bool true) ∧ Below w.heap.size w w' := by
  have GF := gau_of hg
  obtain ⟨hp, ho, h3, h13⟩ := isG_pr hg
  have e5 := isG_yes hg
  have HG := Lib.hid hg
  have HGF := Lib.hid GF
  obtain ⟨M, hM⟩ : ∃ M : Nat, (P : Int) - 1 = (M : Int) := ⟨P - 1, by omega⟩
  have HPM : Hid (P = M + 1) := Lib.hid (by omega)
  have hM2 : 2 ≤ M := by omega
  have hM12 : M ≤ 12 := by omega
  obtain ⟨wv, hwv⟩ : ∃ wv, (P : Int) * (2 - (P : Int) % 4) = wv := ⟨_, rfl⟩
  have hwb : -100 ≤ wv ∧ wv ≤ 100 := by
    have e : P = 3 ∨ P = 5 ∨ P = 7 ∨ P = 11 ∨ P = 13 := by omega
    rw [← hwv]
    rcases e with rfl | rfl | rfl | rfl | rfl <;> decide
  obtain ⟨hwb1, hwb2⟩ := hwb
  have HSQ : Hid (wl (timesZ (cyc P) (gau P) (gau P)) = (List.replicate M 0).set 0 wv) := Lib.hid (by rw [GF.w2, GF.sq, hwv]; congr 2; omega)
  have hpos := GF.bd
  have hOK : okN P 1000 (gau P) = true := by
    unfold okN
    rw [decide_eq_true (by omega), Int.toNat_natCast, numB_mk ⟨by rw [GF.len, GF.ph], GF.bd⟩]; rfl
  have HTY : Hid (∀ w' A1 n1 c1 A2 n2 c2, IRow w' w'.heap.size A1 n1 (gau P) → IRow w' w'.heap.size A2 n2 (gau P) → Calls Try.prog 23 #[.int .i64 (P : Int), .slice A1 n1 c1, .slice A2 n2 c2] w' (GivesIE w' ((List.replicate M 0).set 0 wv) 0)) := Lib.hid (fun w' A1 n1 c1 A2 n2 c2 h1 h2 => by
    rw [← GF.w] at h1 h2
    have := Times_yes P A1 A2 n1 c1 n2 c2 (gau P) (gau P) w' h1 h2 (by rw [GF.w, hOK]; rfl)
    rw [HSQ.out] at this
    exact this)
  have HGY : Hid (∀ w', Calls Try.prog 13 #[.int .i64 (P : Int)] w' (GivesIE w' (gau P) 0)) := Lib.hid (fun w' => by
    have := Gauss_yes P w' hg
    have e : wl (redZ (cyc P) (symL P)) = gau P := GF.w
    rwa [e] at this)
  have hGL : (gau P).length = M := by rw [GF.len]; omega
  have HGL := Lib.hid hGL
  have tq : ((P : Int) != 3) = false ∨ ((P : Int) != 3) = true ∧ ((P : Int) != 5) = false ∨ ((P : Int) != 3) = true ∧ ((P : Int) != 5) = true ∧ ((P : Int) != 7) = false ∨ ((P : Int) != 3) = true ∧ ((P : Int) != 5) = true ∧ ((P : Int) != 7) = true ∧ ((P : Int) != 11) = false ∨ ((P : Int) != 3) = true ∧ ((P : Int) != 5) = true ∧ ((P : Int) != 7) = true ∧ ((P : Int) != 11) = true ∧ ((P : Int) != 13) = false := by
    have e : P = 3 ∨ P = 5 ∨ P = 7 ∨ P = 11 ∨ P = 13 := by omega
    rcases e with rfl | rfl | rfl | rfl | rfl <;> decide
  have hmk := run_make_row' (P := Try.prog) 22 3 (.int .i64 0) 8 Try.underlying22 infoI rfl .i64 .i64 M (by omega) (by omega)
  have hu1 : 0 ≤ IntKind.u64.wrap t := by unfold IntKind.wrap; simp [IntKind.signed, IntKind.bits]; omega
  obtain ⟨T, hT⟩ : ∃ T : Nat, wrap64 (1 + wrap64 (IntKind.u64.wrap t % (M : Int))) = (T : Int) ∧ 1 ≤ T ∧ T ≤ M := by
    have e2 := Int.emod_nonneg (IntKind.u64.wrap t) (show (M : Int) ≠ 0 by omega)
    have e3 := Int.emod_lt_of_pos (IntKind.u64.wrap t) (show (0 : Int) < (M : Int) by omega)
    refine ⟨(1 + (IntKind.u64.wrap t) % (M : Int)).toNat, ?_, by omega, by omega⟩
    unfold wrap64; omega
  obtain ⟨hTe, hT1, hT2⟩ := hT
  obtain ⟨tn1, tn2, tn3⟩ := GF.tn T hT1 (by omega)
  obtain ⟨S, hS⟩ : ∃ S, jn T P = S := ⟨_, rfl⟩
  have hSb : S = 0 ∨ S = 1 ∨ S = -1 := by have := ji_cases (T : Int) P; rw [ji_nat, hS] at this; exact this
  have HTUR : Hid (∀ w' A1 n1 c1, IRow w' w'.heap.size A1 n1 (gau P) → Calls Try.prog 26 #[.int .i64 (P : Int), .slice A1 n1 c1, .int .i64 (T : Int)] w' (GivesIE w' ((gau P).map (fun x => x * S)) 0)) := Lib.hid (fun w' A1 n1 c1 h1 => by
    rw [← GF.w] at h1
    have := Turn_yes P T A1 n1 c1 (gau P) w' h1 (by rw [GF.w]; exact hOK) (decide_eq_true ⟨by omega, by omega, by rw [Int.toNat_natCast, Int.toNat_natCast]; exact tn3⟩)
    rw [tn2, tn1, hS] at this
    exact this)
  have HJAC : Hid (∀ w', Calls Try.prog 31 #[.int .i64 (T : Int), .int .i64 (P : Int)] w' fun e w'' => e = .returned (.tuple #[.int .i64 S, .int .i64 0]) ∧ Below w'.heap.size w' w'') := Lib.hid (fun w' => by
    have := jacobi_yes (T : Int) P w' (validB_mk ⟨by omega, by omega, by omega, by omega, by omega⟩)
    have e : jz (T : Int) P = S := by unfold jz; rw [Int.toNat_natCast, ji_nat, hS]
    rwa [e] at this)
  have HBD : Hid (∀ x ∈ gau P, -1000 ≤ x * S ∧ x * S ≤ 1000) := Lib.hid (fun x hx => by
    have := hpos x hx
    rcases hSb with h | h | h <;> rw [h] <;> omega)
  have HGB := Lib.hid hpos
  clear hg GF hp ho e5 hpos hOK hGL tn1 tn2 tn3 hS hSb
  go_enter Try.func9, Try.ntmps9
  go_wp2_with fail
  refine (HGY.out _).mono ?_; rintro e w1 ⟨A1, n1, c1, rfl, how1, hA1, hb1⟩
  obtain rfl : n1 = M := by have h9 := how1.len; rw [HGL.out] at h9; exact h9
  obtain ⟨G1, rfl⟩ := how1.form (by omega)
  have HO1 := Lib.hid how1
  have HI1 := Lib.hid (IRow.of_own how1)
  have HB1 := Lib.hid hb1
  have HCL : Hid (∀ w', Below w1.heap.size w1 w' → Calls Try.prog 24 #[.slice (some ⟨G1, 0, none⟩) n1 c1] w' (GivesI w' (gau P))) := Lib.hid (fun w' hb => clone_ints _ n1 c1 (gau P) w' (HI1.out.next hb) (by omega) (fun e => by cases e))
  clear how1 hA1 hb1
  rcases tq with q3 | ⟨q3, q5⟩ | ⟨q3, q5, q7⟩ | ⟨q3, q5, q7, q11⟩ | ⟨q3, q5, q7, q11, q13⟩
  all_goals
    go_wp2_with fail
    refine (HCL.out _ (Below.refl _ _)).mono ?_; rintro e w2 ⟨A2, n2, c2, rfl, how2, hA2, hb2⟩
    have HI2 := Lib.hid (IRow.of_own how2)
    have HB2 := Lib.hid hb2
    clear how2 hA2 hb2
    go_wp2_with fail
    refine (HCL.out _ HB2.out).mono ?_; rintro e w3 ⟨A3, n3, c3, rfl, how3, hA3, hb3⟩
    have HI3 := Lib.hid (IRow.of_own how3)
    have HI23 := Lib.hid (HI2.out.next hb3)
    have HB3 := Lib.hid (ibt HB2.out hb3)
    clear how3 hA3 hb3
    go_wp2_with fail
    refine (HTY.out _ _ _ _ _ _ _ HI23.out HI3.out).mono ?_; rintro e w4 ⟨A4, n4, c4, rfl, how4, hA4, hb4⟩
    obtain rfl : n4 = n1 := by have h9 := how4.len; rw [List.length_set, List.length_replicate] at h9; exact h9
    have HI4 := Lib.hid (IRow.of_own how4)
    have HB4 := Lib.hid (ibt HB3.out hb4)
    obtain ⟨w5, hw5⟩ : ∃ w5, w4.alloc (Obj.cells (madeCells #[Value.int .i64 0] n4) 3) = w5 := ⟨_, rfl⟩
    have how5 : Own w5 w4.heap.size (some ⟨w4.heap.size, 0, none⟩) n4 n4 (List.replicate n4 0) := by rw [← hw5]; exact own_made (Nat.le_refl _) (by unfold maxLen; omega)
    have HB45 : Hid (Below w4.heap.size w4 w5) := Lib.hid (by rw [← hw5]; exact (Below.refl _ _).alloc (Nat.le_refl _) _)
    obtain ⟨G5, hG5⟩ : ∃ G5, w4.heap.size = G5 := ⟨_, rfl⟩
    have HO5 : Hid (Own w5 w4.heap.size (some ⟨G5, 0, none⟩) n4 n4 (List.replicate n4 0)) := Lib.hid (by rw [← hG5]; exact how5)
    obtain ⟨p1, p2, p3, p4⟩ := Own.cell HO5.out (k := 0) (x := 0) (show (List.replicate n4 (0 : Int))[0]? = some 0 by rw [List.getElem?_replicate, if_pos (by omega)])
    clear how4 hA4 hb4 how5
    go_wp2_with fail
    try rw [hw5]
    try rw [hG5]
    go_wp2_with fail
    have HB46 : Hid (Below w4.heap.size w4 (w5.setCell ⟨G5, 0, none⟩ (.int .i64 wv))) := Lib.hid (HB45.out.setCell (p := ⟨G5, 0, none⟩) p4 _)
    have HI6 : Hid (IRow (w5.setCell ⟨G5, 0, none⟩ (.int .i64 wv)) (w5.setCell ⟨G5, 0, none⟩ (.int .i64 wv)).heap.size (some ⟨G5, 0, none⟩) n4 ((List.replicate n4 0).set 0 wv)) := Lib.hid (IRow.of_own (Own.store HO5.out 0 wv))
    have HI46 := Lib.hid (HI4.out.next HB46.out)
    refine (equal_b A4 (some ⟨G5, 0, none⟩) n4 n4 c4 n4 _ _ _ HI46.out HI6.out (by omega) (by omega)).mono ?_; rw [decide_eq_true rfl]; rintro e w7 ⟨rfl, hb7⟩
    have HB7 := Lib.hid (ibt HB4.out (ibt HB46.out hb7))
    clear hb7 p1 p2 p3 p4
    go_wp2_with fail
    refine (HCL.out _ HB7.out).mono ?_; rintro e w8 ⟨A8, n8, c8, rfl, how8, hA8, hb8⟩
    have HI8 := Lib.hid (IRow.of_own how8)
    have HB8 := Lib.hid (ibt HB7.out hb8)
    clear how8 hA8 hb8
    go_wp2_with fail
    refine (HTUR.out _ _ _ _ HI8.out).mono ?_; rintro e w9 ⟨A9, n9, c9, rfl, how9, hA9, hb9⟩
    have HI9 := Lib.hid (IRow.of_own how9)
    obtain ⟨G9, rfl⟩ := how9.form (by have h9 := how9.len; rw [List.length_map, HGL.out] at h9; omega)
    have HO9 := Lib.hid how9
    have HNE : Hid (G9 ≠ G1) := Lib.hid (by
      have h9 := (how9.lt G9 rfl).1
      have h10 := (HO1.out.lt G1 rfl).2
      have h11 := HB8.out.size
      omega)
    obtain rfl : n9 = n4 := by have h9 := how9.len; rw [List.length_map, HGL.out] at h9; exact h9
    have HB9 := Lib.hid (ibt HB8.out hb9)
    clear how9 hA9 hb9
    go_wp2_with fail
    refine (HJAC.out _).mono ?_; rintro e w10 ⟨rfl, hb10⟩
    have HO90 := Lib.hid (iown_bel HO9.out hb10)
    have HB10 := Lib.hid (ibt HB9.out hb10)
    have HO10 := Lib.hid (iown_bel HO1.out HB10.out)
    have HBW := Lib.hid (ibt HB1.out HB10.out)
    have HGn : Hid (G1 < w10.heap.size) := Lib.hid (HO10.out.lt G1 rfl).2
    clear hb10
    go_wp2_with fail
    have HOS : Hid (Own w10 w.heap.size (some ⟨G1, 0, none⟩) n9 c1 (((gau P).map (fun x => x * S)).take 0 ++ (gau P).drop 0)) := Lib.hid (by simpa using HO10.out)
    go_loopw [96] (fun z wr => ∃ j : Nat, j ≤ n9 ∧ z = .int .i64 (j : Int) ∧ Hid (Own wr w.heap.size (some ⟨G1, 0, none⟩) n9 c1 (((gau P).map (fun x => x * S)).take j ++ (gau P).drop j)) ∧ Hid (∀ k, k ≠ G1 → wr.heap[k]? = w10.heap[k]?) ∧ Below w.heap.size w wr) (fun z _ => n9 - (intOf z).toNat)
    case atStart => exact ⟨0, by omega, rfl, HOS, Lib.hid (fun _ _ => rfl), HBW.out⟩
    case round =>
      obtain ⟨j, hj, rfl, how, hoth, hbj⟩ := hrel
      by_cases hlt : j < n9
      · obtain ⟨x, hx⟩ : ∃ x, (gau P)[j]? = some x := ⟨_, List.getElem?_eq_getElem (by rw [HGL.out]; exact hlt)⟩
        obtain ⟨b1, b2⟩ := HBD.out x (List.mem_of_getElem? hx)
        have HST := Lib.hid (gau_set (s := S) hx)
        have hx2 : (((gau P).map (fun x => x * S)).take j ++ (gau P).drop j)[j]? = some x := by
          rw [List.getElem?_append_right (by rw [List.length_take, List.length_map, HGL.out]; omega), List.length_take, List.length_map, HGL.out, show j - min j n9 = 0 by omega, List.getElem?_drop, Nat.add_zero]; exact hx
        obtain ⟨g1, g2, g3, g4⟩ := Own.cell how.out hx2
        have hji : (j : Int) < (n9 : Int) := by omega
        clear hx hx2
        go_wp2_with fail
        go_roundw
        case rel => exact ⟨j + 1, by omega, by go_num, by rw [HST.out]; exact Lib.hid (Own.store how.out j _), Lib.hid (fun k hk => (Below.heap_setCell _ _ _ _ hk).trans (hoth.out k hk)), hbj.setCell (p := ⟨G1, j, none⟩) g4 _⟩
        case measure => simp [intOf]; omega
      · have e : j = n9 := by omega
        subst e
        have HE : Hid (((gau P).map (fun x => x * S)).take j ++ (gau P).drop j = (gau P).map (fun x => x * S)) := Lib.hid (by
          rw [List.drop_of_length_le (by rw [HGL.out]; omega), List.append_nil, List.take_of_length_le (by rw [List.length_map, HGL.out]; omega)])
        rw [HE.out] at how
        have HIG := Lib.hid (IRow.of_own how.out)
        have HBJ := Lib.hid hbj
        have HI9r : Hid (IRow wr wr.heap.size (some ⟨G9, 0, none⟩) j ((gau P).map (fun x => x * S))) := Lib.hid (IRow.of_own (Own.other HO90.out (hoth.out G9 HNE.out)))
        clear hbj
        go_wp2_with fail
        refine (equal_b (some ⟨G9, 0, none⟩) (some ⟨G1, 0, none⟩) j j c9 c1 _ _ _ HI9r.out HIG.out (by omega) (by omega)).mono ?_; rw [decide_eq_true rfl]; rintro e w11 ⟨rfl, hb11⟩
        go_wp2_with fail
        refine (awake_any _).mono ?_; rintro e w12 ⟨rfl, hb12⟩
        go_wp2_with fail
        go_ret
        exact ⟨rfl, ibt (ibt HBJ.out hb11) hb12⟩

theorem gauss_law (p t : Int) (w : World) (_l1 : -9223372036854775808 ≤ p) (_l2 : p ≤ 9223372036854775807) (l3 : -9223372036854775808 ≤ t) (l4 : t ≤ 9223372036854775807) :
    Calls Try.prog 9 #[.int .i64 p, .int .i64 t] w fun e w' => e = .returned (.bool true) ∧ Below w.heap.size w w' := by
  cases hg : isG p with
  | true =>
    have := isG_yes hg
    obtain ⟨P, rfl⟩ : ∃ P : Nat, p = P := ⟨p.toNat, by omega⟩
    exact gauss_walk P t w hg l3 l4
  | false =>
    have HG := Lib.hid hg
    clear hg
    go_enter Try.func9, Try.ntmps9
    go_wp2_with fail
    refine (Gauss_no p w HG.out).mono ?_; rintro e w1 ⟨rfl, hb1⟩
    go_wp2_with fail
    refine (awake_any _).mono ?_; rintro e w2 ⟨rfl, hb2⟩
    go_wp2_with fail
    go_ret
    exact ⟨rfl, ibt hb1 hb2⟩
end Go.Proofs.Ytmljndjiipgpdaa
