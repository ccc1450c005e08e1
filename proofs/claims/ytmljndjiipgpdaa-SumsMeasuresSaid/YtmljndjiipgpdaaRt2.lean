/- Numbers of an order in the program: the walks of times, plus and turn. -/
import Derived.Test.YtmljndjiipgpdaaRg
namespace Go.Proofs.Ytmljndjiipgpdaa
open Go Go.RowKit GhP

theorem drop_at {L : List Int} {k : Nat} {x : Int} (h : L[k]? = some x) : L.drop k = x :: L.drop (k + 1) := by
  obtain ⟨hk, e⟩ := List.getElem?_eq_some_iff.1 h
  rw [List.drop_eq_getElem_cons hk, e]
theorem wl_zeros (N : Nat) : wl (List.replicate N 0) = List.replicate N 0 := by unfold wl; rw [List.map_replicate]; congr 1; unfold wrap64; decide
theorem w_am (Y X Z : Int) : wrap64 (wrap64 Y + wrap64 (wrap64 X * wrap64 Z)) = wrap64 (Y - -X * Z) := by
  rw [Int.neg_mul, Int.sub_neg]
  refine w_add (w_w _) ?_
  rw [w_w]
  exact w_mul (w_w _) (w_w _)

set_option maxRecDepth 100000 in
set_option maxHeartbeats 1000000 in
theorem times_raw (n : Nat) (A B R : Option Addr) (m d la lb ca cb : Nat) (F H G : List Int) (w : World) (g : IRow w w.heap.size R m (wl G)) (h : IRow w w.heap.size A la (wl F)) (k : IRow w w.heap.size B lb (wl H)) (hm : 2 ≤ m) (ha : 1 ≤ la) (hb : 1 ≤ lb) (hml : m ≤ la + lb) (hla : la ≤ 50) (hlb : lb ≤ 50) :
    Calls Try.prog 43 #[rgV n R m d, .slice A la ca, .slice B lb cb] w (GivesI w (wl (redZ G (mulZ (la + lb - 1) F H)))) := by
  have hFl : F.length = la := by have := h.1; rw [wl_len] at this; omega
  have hHl : H.length = lb := by have := k.1; rw [wl_len] at this; omega
  obtain ⟨w0, hw0⟩ : ∃ w0, rgBox w n R m d = w0 := ⟨_, rfl⟩
  have hb0 : Below w.heap.size w w0 := by rw [← hw0]; exact (Below.refl _ _).alloc (Nat.le_refl _) _
  have hs0 : w0.heap.size = w.heap.size + 1 := by rw [← hw0]; simp
  have HS0 := Lib.hid hs0
  have HF := Lib.hid (h.next hb0)
  have HH := Lib.hid (k.next hb0)
  have HG := Lib.hid (g.next hb0)
  have HB0 := Lib.hid hb0
  have HRB : Hid (∀ w', Below w0.heap.size w0 w' → w'.cell? ⟨w.heap.size, 0, none⟩ = some (.int .i64 (n : Int)) ∧ w'.cell? ⟨w.heap.size, 1, none⟩ = some (.slice R m d)) := Lib.hid (fun w' hb => by
    rw [hs0, ← hw0] at hb; exact rg_cells hb)
  have HFL := Lib.hid hFl
  have HHL := Lib.hid hHl
  obtain ⟨N, hN⟩ : ∃ N : Nat, la + lb - 1 = N := ⟨_, rfl⟩
  have hNi : (la : Int) + (lb : Int) - 1 = (N : Int) := by omega
  have HNe := Lib.hid hN
  have hN2 : N ≤ 100 := by omega
  have hmN : m ≤ N + 1 := by omega
  rw [hN]
  have hmk := run_make_row' (P := Try.prog) 48 3 (.int .i64 0) 8 Try.underlying48 infoI rfl .i64 .i64 N (by omega) (by omega)
  obtain ⟨w2, hw2⟩ : ∃ w2, w0.alloc (Obj.cells (madeCells #[Value.int .i64 0] N) 3) = w2 := ⟨_, rfl⟩
  have how2 : Own w2 w0.heap.size (some ⟨w0.heap.size, 0, none⟩) N N (wl (List.replicate N 0)) := by
    rw [← hw2]
    rw [wl_zeros]
    exact own_made (Nat.le_refl _) (by unfold maxLen; omega)
  have HB2 : Hid (Below w0.heap.size w0 w2) := Lib.hid (by rw [← hw2]; exact (Below.refl _ _).alloc (Nat.le_refl _) _)
  obtain ⟨Gf, hGf⟩ : ∃ Gf, w0.heap.size = Gf := ⟨_, rfl⟩
  have HOW2 : Hid (Own w2 w0.heap.size (some ⟨Gf, 0, none⟩) N N (wl (List.replicate N 0))) := Lib.hid (by rw [← hGf]; exact how2)
  have HMZ : Hid (mulGo H (F.drop 0) 0 (List.replicate N 0) = mulZ N F H) := Lib.hid rfl
  have HRL : Hid ((List.replicate N (0 : Int)).length = N) := Lib.hid (by simp)
  clear h k g hFl hHl hN hs0 hb0 how2
  go_enter Try.func43, Try.ntmps43
  go_wp2_with fail
  try rw [hw0]
  try rw [hw2]
  try rw [hGf]
  clear hw0 hw2 hGf hmk
  go_loopw [21] (fun iv wr => ∃ (i : Nat) (P : List Int), i ≤ la ∧ iv = .int .i64 (i : Int) ∧ Hid (mulGo H (F.drop i) i P = mulZ N F H) ∧ Hid (P.length = N) ∧ Hid (Own wr w0.heap.size (some ⟨Gf, 0, none⟩) N N (wl P)) ∧ Below w0.heap.size w0 wr) (fun iv _ => la - (intOf iv).toNat)
  case atStart => exact ⟨0, _, by omega, rfl, HMZ, HRL, HOW2, HB2.out⟩
  case round =>
    obtain ⟨i, P, hi, rfl, hmz, hPl, how1, hbo⟩ := hrel
    obtain ⟨wo, hwo⟩ : ∃ wo : World, wo = wr := ⟨_, rfl⟩
    subst hwo
    by_cases hlt : i < la
    · obtain ⟨b, off, x, hx, rfl, hB, g1⟩ := (HF.out.below hbo).at_ hlt
      obtain ⟨X, hX, hxX⟩ := wl_cell hx
      have HXX := Lib.hid hxX
      have HDR := Lib.hid (drop_at hX)
      have HBO := Lib.hid hbo
      have hii : (i : Int) < (la : Int) := by omega
      have HO0 : Hid (Own wo w0.heap.size (some ⟨Gf, 0, none⟩) N N (wl (sub i P (-X) (H.take 0)))) := Lib.hid (by rw [List.take_zero, sub_nil]; exact how1.out)
      clear hx hX hxX hbo
      go_wp2_with fail
      go_loopw [28] (fun z wr => ∃ j : Nat, j ≤ lb ∧ z = .int .i64 (j : Int) ∧ Hid (Own wr w0.heap.size (some ⟨Gf, 0, none⟩) N N (wl (sub i P (-X) (H.take j)))) ∧ Below w0.heap.size w0 wr) (fun z _ => lb - (intOf z).toNat)
      case atStart => exact ⟨0, by omega, rfl, HO0, HBO.out⟩
      case round =>
        obtain ⟨j, hj, rfl, how3, hbj⟩ := hrel
        by_cases hjm : j < lb
        · obtain ⟨b', off', z, hz, rfl, hB', g2⟩ := (HH.out.below hbj).at_ hjm
          obtain ⟨Z, hZ, hzZ⟩ := wl_cell hz
          have hij : i + j < P.length := by have := hPl.out; have := HNe.out; omega
          obtain ⟨Y, hY⟩ : ∃ Y, P[i + j]? = some Y := ⟨_, List.getElem?_eq_getElem hij⟩
          have hY2 : (sub i P (-X) (H.take j))[i + j]? = some Y := by rw [sub_at]; exact hY
          obtain ⟨y, hy⟩ : ∃ y, wrap64 Y = y := ⟨_, rfl⟩
          have hcell3 := Own.cell how3.out (wl_at hY2)
          rw [hy] at hcell3
          obtain ⟨g10, g11, g12, g13⟩ := hcell3
          have HST : Hid (wl (sub i P (-X) (H.take (j + 1))) = (wl (sub i P (-X) (H.take j))).set (i + j) (wrap64 (y + wrap64 (x * z)))) := Lib.hid (by
            rw [sub_take hZ hY, wl_set, ← hy, hzZ, HXX.out, w_am])
          have hijn : i + j < N := by have := hPl.out; omega
          have hji : (j : Int) < (lb : Int) := by omega
          clear hz hZ hzZ hY hY2 hy hij
          go_wp2_with fail
          go_roundw
          case rel => exact ⟨j + 1, by omega, by go_num, by rw [HST.out]; exact Lib.hid (Own.store how3.out (i + j) _), hbj.setCell (p := ⟨Gf, i + j, none⟩) g13 _⟩
          case measure => simp [intOf]; omega
        · have e : j = lb := by omega
          subst e
          have HT : Hid (H.take j = H) := Lib.hid (List.take_of_length_le (by rw [HHL.out]; omega))
          have HMG : Hid (mulGo H (F.drop (i + 1)) (i + 1) (sub i P (-X) H) = mulZ N F H) := Lib.hid (by
            rw [← hmz.out, HDR.out, mulGo])
          rw [HT.out] at how3
          go_wp2_with fail
          go_roundw
          case rel => exact ⟨i + 1, sub i P (-X) H, by omega, by go_num, HMG, Lib.hid (by rw [sub_len]; exact hPl.out), how3, hbj⟩
          case measure => simp [intOf]; omega
    · have e : i = la := by omega
      subst e
      have HE : Hid (P = mulZ N F H) := Lib.hid (by
        have := hmz.out
        rwa [List.drop_of_length_le (by rw [HFL.out]; omega), mulGo] at this)
      rw [HE.out] at how1
      obtain ⟨x1, x2⟩ := HRB.out wo hbo
      have HIP := Lib.hid (IRow.of_own how1.out)
      have HIG := Lib.hid (HG.out.next hbo)
      have HBO := Lib.hid hbo
      clear hbo
      go_wp2_with fail
      refine (lowest_any n (some ⟨Gf, 0, none⟩) R m d N N (mulZ N F H) G wo HIG.out HIP.out hm hmN (by omega)).mono ?_; rintro e w5 ⟨A5, n5, c5, rfl, how5, hA5, hb5⟩
      have HO5 : Hid (Own w5 w.heap.size A5 n5 c5 (wl (redZ G (mulZ N F H)))) := Lib.hid (how5.low (Nat.le_trans HB0.out.size HBO.out.size))
      have HA5 := Lib.hid hA5
      have HB5 := Lib.hid (ibt HB0.out (ibt HBO.out hb5))
      clear how5 hA5 hb5
      go_wp2_with fail
      go_ret
      exact ⟨A5, n5, c5, rfl, HO5.out, HA5.out, HB5.out⟩

theorem times_any {G G' : List Int} (hg : G = G' ++ [1]) (n : Nat) (A B R : Option Addr) (m d la lb ca cb : Nat) (F H : List Int) (w : World) (g : IRow w w.heap.size R m (wl G)) (h : IRow w w.heap.size A la (wl F)) (k : IRow w w.heap.size B lb (wl H)) (hm : 2 ≤ m) (ha : 1 ≤ la) (hb : 1 ≤ lb) (hml : m ≤ la + lb) (hla : la ≤ 50) (hlb : lb ≤ 50) :
    Calls Try.prog 43 #[rgV n R m d, .slice A la ca, .slice B lb cb] w (GivesI w (wl (timesZ G F H))) := by
  have := times_raw n A B R m d la lb ca cb F H G w g h k hm ha hb hml hla hlb
  rwa [times_less hg F H (by have h1 := h.1; have h2 := k.1; rw [wl_len] at h1 h2; omega)] at this

/-- the sum of two lists, the first j places done -/
theorem add_step {F H : List Int} {j : Nat} {x y : Int} (hl : F.length = H.length) (hF : F[j]? = some x) (hH : H[j]? = some y) :
    ((addZ F H).take (j + 1) ++ F.drop (j + 1)) = ((addZ F H).take j ++ F.drop j).set j (x + y) := by
  have hj : j < F.length := (List.getElem?_eq_some_iff.1 hF).1
  have hal : (addZ F H).length = F.length := by rw [addZ_len hl]; exact hl.symm
  have e : (addZ F H)[j]? = some (x + y) := by
    unfold addZ; rw [List.getElem?_zipWith, hF, hH]
  rw [List.take_succ_eq_append_getElem (by omega), drop_at hF, List.set_append_right _ _ (by rw [List.length_take]; omega), List.length_take]
  have : (addZ F H)[j] = x + y := by
    have := List.getElem?_eq_some_iff.1 e
    exact this.2
  rw [this, show j - min j (addZ F H).length = 0 by omega, List.set_cons_zero]
  simp

set_option maxRecDepth 100000 in
set_option maxHeartbeats 1000000 in
theorem plus_any (n : Nat) (A B R : Option Addr) (m d la ca cb : Nat) (F H : List Int) (w : World) (h : IRow w w.heap.size A la (wl F)) (k : IRow w w.heap.size B la (wl H)) (ha : 1 ≤ la) (hla : la ≤ 50) :
    Calls Try.prog 44 #[rgV n R m d, .slice A la ca, .slice B la cb] w (GivesI w (wl (addZ F H))) := by
  have hFl : F.length = la := by have := h.1; rw [wl_len] at this; omega
  have hHl : H.length = la := by have := k.1; rw [wl_len] at this; omega
  have HNN : Hid (A = none → la = 0) := Lib.hid (fun e => by
    obtain ⟨b, off, x, _, hA, _⟩ := h.at_ (k := 0) (by omega)
    rw [e] at hA; cases hA)
  obtain ⟨w0, hw0⟩ : ∃ w0, rgBox w n R m d = w0 := ⟨_, rfl⟩
  have hb0 : Below w.heap.size w w0 := by rw [← hw0]; exact (Below.refl _ _).alloc (Nat.le_refl _) _
  have HF := Lib.hid (h.next hb0)
  have HH := Lib.hid (k.next hb0)
  have HB0 := Lib.hid hb0
  have HFL := Lib.hid hFl
  have HHL := Lib.hid hHl
  clear h k hFl hHl hb0
  go_enter Try.func44, Try.ntmps44
  go_wp2_with fail
  try rw [hw0]
  refine (clone_ints A la ca (wl F) w0 HF.out (by omega) HNN.out).mono ?_; rintro e w1 ⟨A1, n1, c1, rfl, how1, hA1, hb1⟩
  obtain rfl : n1 = la := by have := how1.len; rw [wl_len, HFL.out] at this; exact this
  obtain ⟨G1, rfl⟩ := how1.form (by omega)
  have HO1 : Hid (Own w1 w0.heap.size (some ⟨G1, 0, none⟩) n1 c1 (wl ((addZ F H).take 0 ++ F.drop 0))) := Lib.hid (by simpa using how1)
  have HB1 := Lib.hid hb1
  clear how1 hA1 hb1 hw0
  go_wp2_with fail
  go_loopw [14] (fun z wr => ∃ j : Nat, j ≤ n1 ∧ z = .int .i64 (j : Int) ∧ Hid (Own wr w0.heap.size (some ⟨G1, 0, none⟩) n1 c1 (wl ((addZ F H).take j ++ F.drop j))) ∧ Below w0.heap.size w0 wr) (fun z _ => n1 - (intOf z).toNat)
  case atStart => exact ⟨0, by omega, rfl, HO1, HB1.out⟩
  case round =>
    obtain ⟨j, hj, rfl, how3, hbj⟩ := hrel
    by_cases hjm : j < n1
    · obtain ⟨b', off', z, hz, rfl, hB', g2⟩ := (HH.out.below hbj).at_ hjm
      obtain ⟨Z, hZ, hzZ⟩ := wl_cell hz
      have hjF : j < F.length := by rw [HFL.out]; exact hjm
      obtain ⟨Y, hY⟩ : ∃ Y, F[j]? = some Y := ⟨_, List.getElem?_eq_getElem hjF⟩
      have hal : (addZ F H).length = n1 := by rw [addZ_len (by rw [HFL.out, HHL.out]), HHL.out]
      have hY2 : ((addZ F H).take j ++ F.drop j)[j]? = some Y := by
        rw [List.getElem?_append_right (by rw [List.length_take]; omega), List.length_take, show j - min j (addZ F H).length = 0 by omega, List.getElem?_drop, Nat.add_zero]; exact hY
      obtain ⟨y, hy⟩ : ∃ y, wrap64 Y = y := ⟨_, rfl⟩
      have hcell3 := Own.cell how3.out (wl_at hY2)
      rw [hy] at hcell3
      obtain ⟨g10, g11, g12, g13⟩ := hcell3
      have HST : Hid (wl ((addZ F H).take (j + 1) ++ F.drop (j + 1)) = (wl ((addZ F H).take j ++ F.drop j)).set j (wrap64 (y + z))) := Lib.hid (by
        rw [add_step (by rw [HFL.out, HHL.out]) hY hZ, wl_set, ← hy, hzZ]
        congr 1
        exact w_add (w_w _).symm (w_w _).symm)
      have hji : (j : Int) < (n1 : Int) := by omega
      clear hz hZ hzZ hY hY2 hy hjF hal
      go_wp2_with fail
      go_roundw
      case rel => exact ⟨j + 1, by omega, by go_num, by rw [HST.out]; exact Lib.hid (Own.store how3.out j _), hbj.setCell (p := ⟨G1, j, none⟩) g13 _⟩
      case measure => simp [intOf]; omega
    · have e : j = n1 := by omega
      subst e
      have HT : Hid ((addZ F H).take j ++ F.drop j = addZ F H) := Lib.hid (by
        rw [List.drop_of_length_le (by rw [HFL.out]; omega), List.append_nil, List.take_of_length_le (by rw [addZ_len (by rw [HFL.out, HHL.out]), HHL.out]; omega)])
      rw [HT.out] at how3
      go_wp2_with fail
      go_ret
      exact ⟨_, _, _, rfl, how3.out.low HB0.out.size, (fun e => by cases e), ibt HB0.out hbj⟩
end Go.Proofs.Ytmljndjiipgpdaa
