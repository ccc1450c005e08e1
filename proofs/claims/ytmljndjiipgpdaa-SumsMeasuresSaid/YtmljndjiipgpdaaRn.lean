/- Numbers of an order in the reference: the walks of Number, Add, Times, Turn, Turns. -/
import Derived.Test.YtmljndjiipgpdaaNm
namespace Go.Proofs.Ytmljndjiipgpdaa
open Go Go.RowKit GhP

set_option maxRecDepth 100000 in
set_option maxHeartbeats 1000000 in
theorem rtimes_any (n : Nat) (A B : Option Addr) (la lb ca cb : Nat) (F H : List Int) (w0 : World) (h : IRow w0 w0.heap.size A la (wl F)) (k : IRow w0 w0.heap.size B lb (wl H)) (h1 : 1 ≤ n) (h2 : n ≤ 60) (ha : 1 ≤ la) (hb : 1 ≤ lb) (hla : la ≤ 50) (hlb : lb ≤ 50) :
    Calls Try.prog 28 #[.int .i64 (n : Int), .slice A la ca, .slice B lb cb] w0 (GivesI w0 (wl (timesZ (cyc n) F H))) := by
  have hFl : F.length = la := by have := h.1; rw [wl_len] at this; omega
  have hHl : H.length = lb := by have := k.1; rw [wl_len] at this; omega
  have HF := Lib.hid h
  have HH := Lib.hid k
  have HFL := Lib.hid hFl
  have HHL := Lib.hid hHl
  obtain ⟨N, hN⟩ : ∃ N : Nat, la + lb = N := ⟨_, rfl⟩
  have hNi : (la : Int) + (lb : Int) = (N : Int) := by omega
  have HNe := Lib.hid hN
  have hN2 : N ≤ 100 := by omega
  have hN1 : 1 ≤ N := by omega
  have HTZ : Hid (redZ (cyc n) (mulZ N F H) = timesZ (cyc n) F H) := Lib.hid (by unfold timesZ; rw [hFl, hHl, hN])
  have hmk := run_make_row' (P := Try.prog) 22 3 (.int .i64 0) 8 Try.underlying22 infoI rfl .i64 .i64 N (by omega) (by omega)
  obtain ⟨w2, hw2⟩ : ∃ w2, w0.alloc (Obj.cells (madeCells #[Value.int .i64 0] N) 3) = w2 := ⟨_, rfl⟩
  have how2 : Own w2 w0.heap.size (some ⟨w0.heap.size, 0, none⟩) N N (wl (List.replicate N 0)) := by
    rw [← hw2]
    rw [wl_zeros]
    exact own_made (Nat.le_refl _) (by unfold maxLen; omega)
  have HB2 : Hid (Below w0.heap.size w0 w2) := Lib.hid (by rw [← hw2]; exact (Below.refl _ _).alloc (Nat.le_refl _) _)
  obtain ⟨Gf, hGf⟩ : ∃ Gf, w0.heap.size = Gf := ⟨_, rfl⟩
  have HOW2 : Hid (Own w2 w0.heap.size (some ⟨Gf, 0, none⟩) N N (wl (List.replicate N 0))) := Lib.hid (by rw [← hGf]; exact how2)
  have HMZ : Hid (mulGo H (F.drop 0) 0 (List.replicate N 0) = mulZ N F H) := Lib.hid rfl
  have HRL : Hid ((List.replicate N (0 : Int)).length = N) := Lib.hid (by simp)
  clear h k hFl hHl hN how2
  go_enter Try.func28, Try.ntmps28
  go_wp2_with fail
  try rw [hw2]
  try rw [hGf]
  clear hw2 hGf hmk
  go_loopw [20] (fun iv wr => ∃ (i : Nat) (P : List Int), i ≤ la ∧ iv = .int .i64 (i : Int) ∧ Hid (mulGo H (F.drop i) i P = mulZ N F H) ∧ Hid (P.length = N) ∧ Hid (Own wr w0.heap.size (some ⟨Gf, 0, none⟩) N N (wl P)) ∧ Below w0.heap.size w0 wr) (fun iv _ => la - (intOf iv).toNat)
  case atStart => exact ⟨0, _, by omega, rfl, HMZ, HRL, HOW2, HB2.out⟩
  case round =>
    obtain ⟨i, P, hi, rfl, hmz, hPl, how1, hbo⟩ := hrel
    obtain ⟨wo, hwo⟩ : ∃ wo : World, wo = wr := ⟨_, rfl⟩
    subst hwo
    by_cases hlt : i < la
    · obtain ⟨b, off, x, hx, rfl, hB, g1⟩ := (HF.out.below hbo).at_ hlt
      obtain ⟨X, hX, hxX⟩ := wl_cell hx
      have HXX := Lib.hid hxX
      have HDR := Lib.hid (drop_at hX)
      have HBO := Lib.hid hbo
      have hii : (i : Int) < (la : Int) := by omega
      have HO0 : Hid (Own wo w0.heap.size (some ⟨Gf, 0, none⟩) N N (wl (sub i P (-X) (H.take 0)))) := Lib.hid (by rw [List.take_zero, sub_nil]; exact how1.out)
      clear hx hX hxX hbo
      go_wp2_with fail
      go_loopw [27] (fun z wr => ∃ j : Nat, j ≤ lb ∧ z = .int .i64 (j : Int) ∧ Hid (Own wr w0.heap.size (some ⟨Gf, 0, none⟩) N N (wl (sub i P (-X) (H.take j)))) ∧ Below w0.heap.size w0 wr) (fun z _ => lb - (intOf z).toNat)
      case atStart => exact ⟨0, by omega, rfl, HO0, HBO.out⟩
      case round =>
        obtain ⟨j, hj, rfl, how3, hbj⟩ := hrel
        by_cases hjm : j < lb
        · obtain ⟨b', off', z, hz, rfl, hB', g2⟩ := (HH.out.below hbj).at_ hjm
          obtain ⟨Z, hZ, hzZ⟩ := wl_cell hz
          have hij : i + j < P.length := by have := hPl.out; have := HNe.out; omega
          obtain ⟨Y, hY⟩ : ∃ Y, P[i + j]? = some Y := ⟨_, List.getElem?_eq_getElem hij⟩
          have hY2 : (sub i P (-X) (H.take j))[i + j]? = some Y := by rw [sub_at]; exact hY
          obtain ⟨y, hy⟩ : ∃ y, wrap64 Y = y := ⟨_, rfl⟩
          have hcell3 := Own.cell how3.out (wl_at hY2)
          rw [hy] at hcell3
          obtain ⟨g10, g11, g12, g13⟩ := hcell3
          have HST : Hid (wl (sub i P (-X) (H.take (j + 1))) = (wl (sub i P (-X) (H.take j))).set (i + j) (wrap64 (y + wrap64 (x * z)))) := Lib.hid (by
            rw [sub_take hZ hY, wl_set, ← hy, hzZ, HXX.out, w_am])
          have hijn : i + j < N := by have := hPl.out; omega
          have hji : (j : Int) < (lb : Int) := by omega
          clear hz hZ hzZ hY hY2 hy hij
          go_wp2_with fail
          go_roundw
          case rel => exact ⟨j + 1, by omega, by go_num, by rw [HST.out]; exact Lib.hid (Own.store how3.out (i + j) _), hbj.setCell (p := ⟨Gf, i + j, none⟩) g13 _⟩
          case measure => simp [intOf]; omega
        · have e : j = lb := by omega
          subst e
          have HT : Hid (H.take j = H) := Lib.hid (List.take_of_length_le (by rw [HHL.out]; omega))
          have HMG : Hid (mulGo H (F.drop (i + 1)) (i + 1) (sub i P (-X) H) = mulZ N F H) := Lib.hid (by
            rw [← hmz.out, HDR.out, mulGo])
          rw [HT.out] at how3
          go_wp2_with fail
          go_roundw
          case rel => exact ⟨i + 1, sub i P (-X) H, by omega, by go_num, HMG, Lib.hid (by rw [sub_len]; exact hPl.out), how3, hbj⟩
          case measure => simp [intOf]; omega
    · have e : i = la := by omega
      subst e
      have HE : Hid (P = mulZ N F H) := Lib.hid (by
        have := hmz.out
        rwa [List.drop_of_length_le (by rw [HFL.out]; omega), mulGo] at this)
      rw [HE.out] at how1
      have HIP := Lib.hid (IRow.of_own how1.out)
      have HBO := Lib.hid hbo
      clear hbo
      go_wp2_with fail
      refine (reduced_any n (some ⟨Gf, 0, none⟩) N N (mulZ N F H) wo HIP.out (by omega) hN1 h1 h2).mono ?_; rintro e w5 ⟨A5, n5, c5, rfl, how5, hA5, hb5⟩
      have HO5 : Hid (Own w5 w0.heap.size A5 n5 c5 (wl (timesZ (cyc n) F H))) := Lib.hid (by rw [← HTZ.out]; exact how5.low HBO.out.size)
      have HA5 := Lib.hid hA5
      have HB5 := Lib.hid (ibt HBO.out hb5)
      clear how5 hA5 hb5
      go_wp2_with fail
      go_ret
      exact ⟨A5, n5, c5, rfl, HO5.out, HA5.out, HB5.out⟩

set_option maxRecDepth 100000 in
set_option maxHeartbeats 1000000 in
theorem rturn_any (n t : Nat) (A : Option Addr) (la ca : Nat) (F : List Int) (w0 : World) (h : IRow w0 w0.heap.size A la (wl F)) (h1 : 1 ≤ n) (hn : n ≤ 50) (ht : t ≤ 50) (hla : la ≤ 50) :
    Calls Try.prog 30 #[.int .i64 (n : Int), .slice A la ca, .int .i64 (t : Int)] w0 (GivesI w0 (wl (turnZ (cyc n) n t F))) := by
  have hFl : F.length = la := by have := h.1; rw [wl_len] at this; omega
  have HF := Lib.hid h
  have HFL := Lib.hid hFl
  have hmk := run_make_row' (P := Try.prog) 22 3 (.int .i64 0) 8 Try.underlying22 infoI rfl .i64 .i64 n (by omega) (by omega)
  obtain ⟨w2, hw2⟩ : ∃ w2, w0.alloc (Obj.cells (madeCells #[Value.int .i64 0] n) 3) = w2 := ⟨_, rfl⟩
  have how2 : Own w2 w0.heap.size (some ⟨w0.heap.size, 0, none⟩) n n (wl (List.replicate n 0)) := by
    rw [← hw2, wl_zeros]
    exact own_made (Nat.le_refl _) (by unfold maxLen; omega)
  have HB2 : Hid (Below w0.heap.size w0 w2) := Lib.hid (by rw [← hw2]; exact (Below.refl _ _).alloc (Nat.le_refl _) _)
  obtain ⟨Gf, hGf⟩ : ∃ Gf, w0.heap.size = Gf := ⟨_, rfl⟩
  have HOW2 : Hid (Own w2 w0.heap.size (some ⟨Gf, 0, none⟩) n n (wl (List.replicate n 0))) := Lib.hid (by rw [← hGf]; exact how2)
  have HTL : Hid (turnGo n t (F.drop 0) 0 (List.replicate n 0) = turnL n t F) := Lib.hid rfl
  have HRL : Hid ((List.replicate n (0 : Int)).length = n) := Lib.hid (by simp)
  clear h hFl how2
  go_enter Try.func30, Try.ntmps30
  go_wp2_with fail
  try rw [hw2]
  try rw [hGf]
  clear hw2 hGf hmk
  go_loopw [14] (fun iv wr => ∃ (i : Nat) (P : List Int), i ≤ la ∧ iv = .int .i64 (i : Int) ∧ Hid (turnGo n t (F.drop i) i P = turnL n t F) ∧ Hid (P.length = n) ∧ Hid (Own wr w0.heap.size (some ⟨Gf, 0, none⟩) n n (wl P)) ∧ Below w0.heap.size w0 wr) (fun iv _ => la - (intOf iv).toNat)
  case atStart => exact ⟨0, _, by omega, rfl, HTL, HRL, HOW2, HB2.out⟩
  case round =>
    obtain ⟨i, P, hi, rfl, hmz, hPl, how1, hbo⟩ := hrel
    obtain ⟨wo, hwo⟩ : ∃ wo : World, wo = wr := ⟨_, rfl⟩
    subst hwo
    by_cases hlt : i < la
    · obtain ⟨b, off, x, hx, rfl, hB, g1⟩ := (HF.out.below hbo).at_ hlt
      obtain ⟨X, hX, hxX⟩ := wl_cell hx
      have HDR := Lib.hid (drop_at hX)
      have hii : (i : Int) < (la : Int) := by omega
      obtain ⟨p, hp⟩ : ∃ p, i * t % n = p := ⟨_, rfl⟩
      have hpn : p < n := by rw [← hp]; exact Nat.mod_lt _ (by omega)
      have HP := Lib.hid hp
      have q1 : (i : Int) * (t : Int) ≤ 50 * 50 := Int.mul_le_mul (by omega) (by omega) (by omega) (by omega)
      have q2 : 0 ≤ (i : Int) * (t : Int) := Int.mul_nonneg (by omega) (by omega)
      have q3 : (i : Int) * (t : Int) % (n : Int) = (p : Int) := by rw [← Int.natCast_mul, ← Int.natCast_emod, hp]
      have hij : p < P.length := by have := hPl.out; omega
      obtain ⟨Y, hY⟩ : ∃ Y, P[p]? = some Y := ⟨_, List.getElem?_eq_getElem hij⟩
      have HYD : Hid (P.getD p 0 = Y) := Lib.hid (by rw [List.getD_eq_getElem?_getD, hY]; rfl)
      obtain ⟨y, hy⟩ : ∃ y, wrap64 Y = y := ⟨_, rfl⟩
      have hcell3 := Own.cell how1.out (wl_at hY)
      rw [hy] at hcell3
      obtain ⟨g10, g11, g12, g13⟩ := hcell3
      have HST : Hid (wl (P.set p (Y + X)) = (wl P).set p (wrap64 (y + x))) := Lib.hid (by
        rw [wl_set, ← hy, hxX]
        congr 1
        exact w_add (w_w _).symm (w_w _).symm)
      have HTG : Hid (turnGo n t (F.drop (i + 1)) (i + 1) (P.set p (Y + X)) = turnL n t F) := Lib.hid (by
        rw [← hmz.out, HDR.out, turnGo, HP.out, HYD.out])
      clear hx hX hxX hY hy hij hp
      go_wp2_with fail
      go_roundw
      case rel => exact ⟨i + 1, P.set p (Y + X), by omega, by go_num, HTG, Lib.hid (by rw [List.length_set]; exact hPl.out), by rw [HST.out]; exact Lib.hid (Own.store how1.out p _), hbo.setCell (p := ⟨Gf, p, none⟩) g13 _⟩
      case measure => simp [intOf]; omega
    · have e : i = la := by omega
      subst e
      have HE : Hid (P = turnL n t F) := Lib.hid (by
        have := hmz.out
        rwa [List.drop_of_length_le (by rw [HFL.out]; omega), turnGo] at this)
      rw [HE.out] at how1
      have HIP := Lib.hid (IRow.of_own how1.out)
      have HBO := Lib.hid hbo
      clear hbo
      go_wp2_with fail
      refine (reduced_any n (some ⟨Gf, 0, none⟩) n n (turnL n t F) wo HIP.out (by omega) h1 (by omega) (by omega)).mono ?_; rintro e w5 ⟨A5, n5, c5, rfl, how5, hA5, hb5⟩
      have HO5 : Hid (Own w5 w0.heap.size A5 n5 c5 (wl (turnZ (cyc n) n t F))) := Lib.hid (how5.low HBO.out.size)
      have HA5 := Lib.hid hA5
      have HB5 := Lib.hid (ibt HBO.out hb5)
      clear how5 hA5 hb5
      go_wp2_with fail
      go_ret
      exact ⟨A5, n5, c5, rfl, HO5.out, HA5.out, HB5.out⟩

theorem radd_step {F H : List Int} {j : Nat} {x y : Int} (hl : F.length = H.length) (hF : F[j]? = some x) (hH : H[j]? = some y) :
    ((addZ F H).take (j + 1) ++ List.replicate (F.length - (j + 1)) 0) = ((addZ F H).take j ++ List.replicate (F.length - j) 0).set j (x + y) := by
  have hj : j < F.length := (List.getElem?_eq_some_iff.1 hF).1
  have hal : (addZ F H).length = F.length := by rw [addZ_len hl]; exact hl.symm
  have e : (addZ F H)[j]? = some (x + y) := by
    unfold addZ; rw [List.getElem?_zipWith, hF, hH]
  rw [List.take_succ_eq_append_getElem (by omega), show F.length - j = (F.length - (j + 1)) + 1 by omega, List.replicate_succ, List.set_append_right _ _ (by rw [List.length_take]; omega), List.length_take]
  have : (addZ F H)[j] = x + y := (List.getElem?_eq_some_iff.1 e).2
  rw [this, show j - min j (addZ F H).length = 0 by omega, List.set_cons_zero]
  simp

set_option maxRecDepth 100000 in
set_option maxHeartbeats 1000000 in
theorem radd_any (A B : Option Addr) (la ca cb : Nat) (F H : List Int) (w : World) (h : IRow w w.heap.size A la (wl F)) (k : IRow w w.heap.size B la (wl H)) (hla : la ≤ 50) :
    Calls Try.prog 27 #[.slice A la ca, .slice B la cb] w (GivesI w (wl (addZ F H))) := by
  have hFl : F.length = la := by have := h.1; rw [wl_len] at this; omega
  have hHl : H.length = la := by have := k.1; rw [wl_len] at this; omega
  have HF := Lib.hid h
  have HH := Lib.hid k
  have HFL := Lib.hid hFl
  have HHL := Lib.hid hHl
  have hmk := run_make_row' (P := Try.prog) 22 3 (.int .i64 0) 8 Try.underlying22 infoI rfl .i64 .i64 la (by omega) (by omega)
  obtain ⟨w2, hw2⟩ : ∃ w2, w.alloc (Obj.cells (madeCells #[Value.int .i64 0] la) 3) = w2 := ⟨_, rfl⟩
  have how2 : Own w2 w.heap.size (some ⟨w.heap.size, 0, none⟩) la la (wl ((addZ F H).take 0 ++ List.replicate (F.length - 0) 0)) := by
    rw [← hw2, List.take_zero, List.nil_append, wl_zeros, hFl, Nat.sub_zero]
    exact own_made (Nat.le_refl _) (by unfold maxLen; omega)
  have HB2 : Hid (Below w.heap.size w w2) := Lib.hid (by rw [← hw2]; exact (Below.refl _ _).alloc (Nat.le_refl _) _)
  obtain ⟨Gf, hGf⟩ : ∃ Gf, w.heap.size = Gf := ⟨_, rfl⟩
  have HOW2 : Hid (Own w2 w.heap.size (some ⟨Gf, 0, none⟩) la la (wl ((addZ F H).take 0 ++ List.replicate (F.length - 0) 0))) := Lib.hid (by rw [← hGf]; exact how2)
  clear h k hFl hHl how2
  go_enter Try.func27, Try.ntmps27
  go_wp2_with fail
  try rw [hw2]
  try rw [hGf]
  clear hw2 hGf hmk
  go_loopw [13] (fun z wr => ∃ j : Nat, j ≤ la ∧ z = .int .i64 (j : Int) ∧ Hid (Own wr w.heap.size (some ⟨Gf, 0, none⟩) la la (wl ((addZ F H).take j ++ List.replicate (F.length - j) 0))) ∧ Below w.heap.size w wr) (fun z _ => la - (intOf z).toNat)
  case atStart => exact ⟨0, by omega, rfl, HOW2, HB2.out⟩
  case round =>
    obtain ⟨j, hj, rfl, how3, hbj⟩ := hrel
    by_cases hjm : j < la
    · obtain ⟨b, off, y0, hy0, rfl, hB, g1⟩ := (HF.out.below hbj).at_ hjm
      obtain ⟨Y, hY, hyY⟩ := wl_cell hy0
      obtain ⟨b', off', z, hz, rfl, hB', g2⟩ := (HH.out.below hbj).at_ hjm
      obtain ⟨Z, hZ, hzZ⟩ := wl_cell hz
      have hal : (addZ F H).length = la := by rw [addZ_len (by rw [HFL.out, HHL.out]), HHL.out]
      have hY2 : ((addZ F H).take j ++ List.replicate (F.length - j) 0)[j]? = some 0 := by
        rw [List.getElem?_append_right (by rw [List.length_take]; omega), List.length_take, List.getElem?_replicate, if_pos (by have := HFL.out; omega)]
      obtain ⟨g10, g11, g12, g13⟩ := Own.cell how3.out (wl_at hY2)
      have HST : Hid (wl ((addZ F H).take (j + 1) ++ List.replicate (F.length - (j + 1)) 0) = (wl ((addZ F H).take j ++ List.replicate (F.length - j) 0)).set j (wrap64 (y0 + z))) := Lib.hid (by
        rw [radd_step (by rw [HFL.out, HHL.out]) hY hZ, wl_set, hyY, hzZ]
        congr 1
        exact w_add (w_w _).symm (w_w _).symm)
      have hji : (j : Int) < (la : Int) := by omega
      clear hz hZ hzZ hY hY2 hy0 hyY hal
      go_wp2_with fail
      go_roundw
      case rel => exact ⟨j + 1, by omega, by go_num, by rw [HST.out]; exact Lib.hid (Own.store how3.out j _), hbj.setCell (p := ⟨Gf, j, none⟩) g13 _⟩
      case measure => simp [intOf]; omega
    · have e : j = la := by omega
      subst e
      have HT : Hid ((addZ F H).take j ++ List.replicate (F.length - j) 0 = addZ F H) := Lib.hid (by
        rw [HFL.out, Nat.sub_self, List.replicate_zero, List.append_nil, List.take_of_length_le (by rw [addZ_len (by rw [HFL.out, HHL.out]), HHL.out]; omega)])
      rw [HT.out] at how3
      go_wp2_with fail
      go_ret
      exact ⟨_, _, _, rfl, how3.out, (fun e => by cases e), hbj⟩

theorem rturns_any (n : Nat) (t : Int) (w : World) (hn : n ≤ 1000) :
    Calls Try.prog 29 #[.int .i64 (n : Int), .int .i64 t] w fun e w' => e = .returned (.bool (turnB n t)) ∧ Below w.heap.size w w' := by
  by_cases h1 : 1 ≤ t
  · by_cases h2 : t ≤ (n : Int)
    · obtain ⟨T, rfl⟩ : ∃ T : Nat, t = T := ⟨t.toNat, by omega⟩
      obtain ⟨g, hg⟩ : ∃ g, Nat.gcd T n = g := ⟨_, rfl⟩
      have HG := Lib.hid hg
      have hT : T ≤ n := by omega
      have HE : Hid (turnB n T = ((g : Int) == 1)) := Lib.hid (by
        unfold turnB
        rw [Int.toNat_natCast, Int.toNat_natCast, Bool.eq_iff_iff]
        simp only [decide_eq_true_eq, beq_iff_eq]
        omega)
      clear hg
      go_enter Try.func29, Try.ntmps29
      go_wp2_with fail
      refine (rgcd_any T n w (by omega) (by omega)).mono ?_; rw [HG.out]; rintro e w1 ⟨rfl, hb1⟩
      go_wp2_with fail
      go_ret
      exact ⟨by rw [HE.out]; rfl, hb1⟩
    · have HE : Hid (turnB n t = false) := Lib.hid (decide_eq_false (fun h => h2 h.2.1))
      go_enter Try.func29, Try.ntmps29
      go_wp2_with fail
      go_ret
      exact ⟨by rw [HE.out]; rfl, Below.refl _ _⟩
  · have HE : Hid (turnB n t = false) := Lib.hid (decide_eq_false (fun h => h1 h.1))
    go_enter Try.func29, Try.ntmps29
    go_wp2_with fail
    go_ret
    exact ⟨by rw [HE.out]; rfl, Below.refl _ _⟩

theorem rorder_any (n : Int) (w : World) :
    Calls Try.prog 45 #[.int .i64 n] w fun e w' => e = .returned (.bool (decide (1 ≤ n ∧ n ≤ 15))) ∧ Below w.heap.size w w' := by
  by_cases h1 : 1 ≤ n
  · have HE : Hid (decide (1 ≤ n ∧ n ≤ 15) = decide (n ≤ 15)) := Lib.hid (by rw [decide_eq_decide]; omega)
    rw [HE.out]
    go_enter Try.func45, Try.ntmps45
    go_wp2_with fail
    go_ret
    exact ⟨rfl, Below.refl _ _⟩
  · have HE : Hid (decide (1 ≤ n ∧ n ≤ 15) = false) := Lib.hid (decide_eq_false (fun h => h1 h.1))
    rw [HE.out]
    go_enter Try.func45, Try.ntmps45
    go_wp2_with fail
    go_ret
    exact ⟨rfl, Below.refl _ _⟩

set_option maxRecDepth 100000 in
set_option maxHeartbeats 1000000 in
theorem number_any (n : Int) (A : Option Addr) (la ca : Nat) (L : List Int) (most : Int) (w : World) (h : IRow w w.heap.size A la L) (hl : la ≤ 9223372036854775807) (hmo : 0 ≤ most) (hmo2 : most ≤ 1000) :
    Calls Try.prog 20 #[.int .i64 n, .slice A la ca, .int .i64 most] w fun e w' => e = .returned (.bool (okN n most L)) ∧ Below w.heap.size w w' := by
  have HR := Lib.hid h
  have HL := Lib.hid h.1
  clear h
  by_cases ho : 1 ≤ n ∧ n ≤ 15
  · obtain ⟨N, rfl⟩ : ∃ N : Nat, n = N := ⟨n.toNat, by omega⟩
    have hN15 : N ≤ 15 := by omega
    have HOK : Hid (okN N most L = numB (phi N) most L) := Lib.hid (okN_in (by omega) (by omega))
    have HOD : Hid (∀ w', Calls Try.prog 45 #[.int .i64 (N : Int)] w' fun e w'' => e = .returned (.bool true) ∧ Below w'.heap.size w' w'') := Lib.hid (fun w' => by
      have := rorder_any N w'; rwa [decide_eq_true ho] at this)
    rw [HOK.out]
    obtain ⟨P, hP⟩ : ∃ P, phi N = P := ⟨_, rfl⟩
    have HP := Lib.hid hP
    have hPN : P ≤ N := by rw [← hP]; exact phiK_le N N
    rw [hP]
    clear ho hP
    by_cases hlp : la = P
    · subst hlp
      have t1 : ((la : Int) != (la : Int)) = false := by simp
      go_enter Try.func20, Try.ntmps20
      go_wp2_with fail
      refine (HOD.out _).mono ?_; rintro e w1 ⟨rfl, hb1⟩
      go_wp2_with fail
      refine (rphi_any N w1 (by omega)).mono ?_; rw [HP.out]; rintro e w2 ⟨rfl, hb2⟩
      have HB2 := Lib.hid (ibt hb1 hb2)
      have HR2 := Lib.hid (HR.out.next HB2.out)
      clear hb1 hb2
      go_wp2_with fail
      go_loopw [21] (fun z wr => ∃ k : Nat, k ≤ la ∧ z = .int .i64 (k : Int) ∧ Hid (∀ y ∈ L.take k, -most ≤ y ∧ y ≤ most) ∧ Below w2.heap.size w2 wr) (fun z _ => la - (intOf z).toNat)
      case atStart => exact ⟨0, by omega, rfl, Lib.hid (by simp), Below.refl _ _⟩
      case round =>
        obtain ⟨k, hk, rfl, hal, hb⟩ := hrel
        by_cases hlt : k < la
        · obtain ⟨b, off, y, hy, rfl, hB, g1⟩ := (HR2.out.below hb).at_ hlt
          have hki : (k : Int) < (la : Int) := by omega
          have HMEM := Lib.hid (List.mem_of_getElem? hy)
          have HAT : Hid (-most ≤ y ∧ y ≤ most → ∀ z ∈ L.take (k + 1), -most ≤ z ∧ z ≤ most) := Lib.hid (fun hyb z hz => by
            obtain ⟨hk2, e⟩ := List.getElem?_eq_some_iff.1 hy
            rw [List.take_succ_eq_append_getElem hk2, e, List.mem_append, List.mem_singleton] at hz
            rcases hz with hz | rfl
            · exact hal.out z hz
            · exact hyb)
          obtain ⟨ng, hng⟩ : ∃ ng, -most = ng := ⟨_, rfl⟩
          have HNG := Lib.hid hng
          clear hy
          by_cases h1 : y < ng
          · have HE : Hid (numB la most L = false) := Lib.hid (numB_no (fun hh => by have := (hh.2 y HMEM.out).1; have := HNG.out; omega))
            go_wp2_with fail
            go_ret
            exact ⟨by rw [HE.out]; rfl, ibt HB2.out hb⟩
          · by_cases h2 : most < y
            · have HE : Hid (numB la most L = false) := Lib.hid (numB_no (fun hh => by have := (hh.2 y HMEM.out).2; omega))
              go_wp2_with fail
              go_ret
              exact ⟨by rw [HE.out]; rfl, ibt HB2.out hb⟩
            · have HA := Lib.hid (HAT.out ⟨by omega, by omega⟩)
              go_wp2_with fail
              go_roundw
              case rel => exact ⟨k + 1, by omega, by go_num, HA, hb⟩
              case measure => simp [intOf]; omega
        · have e : k = la := by omega
          subst e
          have HE : Hid (numB k most L = true) := Lib.hid (numB_mk ⟨HL.out.symm, by
            have := hal.out
            rwa [List.take_of_length_le (by rw [← HL.out]; omega)] at this⟩)
          go_wp2_with fail
          go_ret
          exact ⟨by rw [HE.out]; rfl, ibt HB2.out hb⟩
    · have t1 : ((la : Int) != (P : Int)) = true := by simp; omega
      have HE : Hid (numB P most L = false) := Lib.hid (numB_no (fun hh => hlp (by have := HL.out; omega)))
      clear hlp
      go_enter Try.func20, Try.ntmps20
      go_wp2_with fail
      refine (HOD.out _).mono ?_; rintro e w1 ⟨rfl, hb1⟩
      go_wp2_with fail
      refine (rphi_any N w1 (by omega)).mono ?_; rw [HP.out]; rintro e w2 ⟨rfl, hb2⟩
      go_wp2_with fail
      go_ret
      exact ⟨by rw [HE.out]; rfl, ibt hb1 hb2⟩
  · have HE : Hid (okN n most L = false) := Lib.hid (okN_out ho)
    have HOD : Hid (∀ w', Calls Try.prog 45 #[.int .i64 n] w' fun e w'' => e = .returned (.bool false) ∧ Below w'.heap.size w' w'') := Lib.hid (fun w' => by
      have := rorder_any n w'; rwa [decide_eq_false ho] at this)
    clear ho
    go_enter Try.func20, Try.ntmps20
    go_wp2_with fail
    refine (HOD.out _).mono ?_; rintro e w1 ⟨rfl, hb1⟩
    go_wp2_with fail
    go_ret
    exact ⟨by rw [HE.out]; rfl, hb1⟩
end Go.Proofs.Ytmljndjiipgpdaa
