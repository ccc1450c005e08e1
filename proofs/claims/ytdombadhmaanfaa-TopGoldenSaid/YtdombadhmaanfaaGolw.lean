/- TopGolden: the walk of the law. -/
import Derived.Test.YtdombadhmaanfaaGol
import Derived.Laws.AppendOwnNone
namespace Go.Proofs.Ytdombadhmaanfaa
open Go Go.RowKit GhN

theorem own_ge {w : World} {base sz n : Nat} {e : TypeId} {v : Value} {xs : List Value} (h : w.ownsRow base e sz v n xs) : ∀ k, v.ownBlock = some k → base ≤ k := by
  rcases h.2 with ⟨rfl, _⟩ | ⟨g, cap, cur, rfl, hg, _⟩
  · intro k e; cases e
  · intro k e; injection e with e; have e2 : g = k := e; omega
theorem gold_no (m : Int) (w : World) (hm : m < 0 ∨ 5000 < m) :
    Calls Try.prog 14 #[.int .i64 m] w fun e w' => e = .returned (.bool true) ∧ Below w.heap.size w w' := by
  have HS1 : Hid (∀ w', Calls Try.prog 45 #[.int .i64 5, .int .i64 4, .int .i64 m] w' (GivesPE w' [] 2)) := Lib.hid (fun w' => Solve_no 4 m w' (.inl rfl) hm)
  have HS2 : Hid (∀ w', Calls Try.prog 45 #[.int .i64 5, .int .i64 (-4), .int .i64 m] w' (GivesPE w' [] 2)) := Lib.hid (fun w' => Solve_no (-4) m w' (.inr rfl) hm)
  clear hm
  go_enter Try.func14, Try.ntmps14
  go_wp2_with fail
  refine (HS1.out _).mono ?_; rintro e w1 ⟨A1, n1, c1, rfl, hr1, hA1, hb1⟩
  have HB1 := Lib.hid hb1
  clear hr1 hA1 hb1
  go_wp2_with fail
  refine (HS2.out _).mono ?_; rintro e w2 ⟨A2, n2, c2, rfl, hr2, hA2, hb2⟩
  have HB2 := Lib.hid (pbt HB1.out hb2)
  clear hr2 hA2 hb2
  go_wp2_with fail
  refine (codes_any _).mono ?_; rintro e w3 ⟨rfl, hb3⟩
  have HB3 := Lib.hid (pbt HB2.out hb3)
  clear hb3
  go_wp2_with fail
  go_ret
  exact ⟨rfl, HB3.out⟩

set_option maxRecDepth 100000 in
set_option maxHeartbeats 2000000 in
theorem gold_yes (m : Nat) (w : World) (hm : m ≤ 5000) :
    Calls Try.prog 14 #[.int .i64 (m : Int)] w fun e w' => e = .returned (.bool true) ∧ Below w.heap.size w w' := by
  have HS1 : Hid (∀ w', Calls Try.prog 45 #[.int .i64 5, .int .i64 4, .int .i64 (m : Int)] w' (GivesPE w' (slL 4 (m + 1)) 0)) := Lib.hid (fun w' => Solve_yes 4 m w' (.inl rfl) hm)
  have HS2 : Hid (∀ w', Calls Try.prog 45 #[.int .i64 5, .int .i64 (-4), .int .i64 (m : Int)] w' (GivesPE w' (slL (-4) (m + 1)) 0)) := Lib.hid (fun w' => Solve_yes (-4) m w' (.inr rfl) hm)
  have HL1 := Lib.hid (slL_len 4 (m + 1))
  have HL2 := Lib.hid (slL_len (-4) (m + 1))
  have HGY : Hid (∀ p ∈ golD m, 0 ≤ p.2 ∧ p.2 ≤ m) := Lib.hid (fun p hp => golD_y hp)
  have HGE : Hid (∀ y, y ≤ m → ysB (golD m) y = decide ((encF 60 y).length < 2)) := Lib.hid (fun y hy => by rw [golD_ys hy, gold_iff (by omega)])
  have hgd : golD m = slL 4 (m + 1) ++ slL (-4) (m + 1) := rfl
  obtain ⟨D, hD⟩ : ∃ D, golD m = D := ⟨_, rfl⟩
  obtain ⟨DA, hDA⟩ : ∃ DA, slL 4 (m + 1) = DA := ⟨_, rfl⟩
  obtain ⟨DB, hDB⟩ : ∃ DB, slL (-4) (m + 1) = DB := ⟨_, rfl⟩
  rw [hD, hDA, hDB] at hgd
  rw [hDA] at HS1 HL1
  rw [hDB] at HS2 HL2
  rw [hD] at HGY HGE
  have HGD := Lib.hid hgd
  have HEN : Hid (∀ (y : Nat) w', y ≤ m → Calls Try.prog 50 #[.int .i64 (y : Int)] w' (GivesNE w' (encF 60 y) 0)) := Lib.hid (fun y w' hy => Encode_any y w' (by omega))
  have hmi : (m : Int) ≤ 5000 := by omega
  obtain ⟨M, hM⟩ : ∃ M, m + 1 = M := ⟨_, rfl⟩
  have hmk := run_make_row' (P := Try.prog) 69 4 (.bool false) 1 Try.underlying69 infoB rfl .i64 .i64 M (by omega) (by omega)
  have hm1 : (m : Int) + 1 = (M : Int) := by omega
  have HMV := Lib.hid hM
  have hM5 : M ≤ 5001 := by omega
  clear hM
  obtain ⟨i0, hi, hz0, hz1, hz2⟩ := info_parts infoP2
  clear hgd hD hDA hDB
  go_enter Try.func14, Try.ntmps14
  go_wp2_with fail
  refine (HS1.out _).mono ?_; rintro e w1 ⟨A1, n1, c1, rfl, hr1, hA1, hb1⟩
  have HB1 := Lib.hid hb1
  have HR1 := Lib.hid hr1
  have HA1 := Lib.hid hA1
  clear hr1 hA1 hb1
  go_wp2_with fail
  refine (HS2.out _).mono ?_; rintro e w2 ⟨A2, n2, c2, rfl, hr2, hA2, hb2⟩
  have HB2 := Lib.hid (pbt HB1.out hb2)
  have HR1b := Lib.hid ((HR1.out.below hb2).more hb2.size)
  have HR2 := Lib.hid hr2
  have HA2 := Lib.hid hA2
  clear hA2
  have hn1 : n1 ≤ 5001 := by have := HR1.out.1; have := HL1.out; omega
  have hn2 : n2 ≤ 5001 := by have := hr2.1; have := HL2.out; omega
  clear hr2 hb2
  obtain ⟨wm, hwm⟩ : ∃ wm, w2.alloc (Obj.cells (madeCells #[Value.bool false] M) 4) = wm := ⟨_, rfl⟩
  obtain ⟨g, hg⟩ : ∃ g, w2.heap.size = g := ⟨_, rfl⟩
  have HMM : Hid (BOwn wm g g M (fun _ => false)) := Lib.hid (by rw [← hwm, ← hg]; exact BOwn.made (Nat.le_refl _) (by unfold maxLen; omega))
  have hbm : Below w2.heap.size w2 wm := by rw [← hwm]; exact (Below.refl _ _).alloc (Nat.le_refl _) _
  have hgm : g < wm.heap.size := by rw [← hwm, ← hg]; simp
  have HBM := Lib.hid (pbt HB2.out hbm)
  have HGW : Hid (w.heap.size ≤ g) := Lib.hid (by rw [← hg]; exact HB2.out.size)
  have HR1m := Lib.hid ((HR1b.out.below hbm).more hbm.size)
  have HR2m := Lib.hid ((HR2.out.below hbm).more hbm.size)
  clear hbm HR1b HR2
  go_wp2_with fail
  try rw [hwm]
  try rw [hg]
  clear hmk
  refine (pclone A1 n1 c1 DA wm HR1m.out (by omega) (fun e => (HA1.out e).1)).mono ?_; rintro e w3 ⟨v3, n3, rfl, how3, hb3⟩
  obtain ⟨A3, c3, rfl, hA3⟩ := iown_sl how3
  have HO3 := Lib.hid how3
  have HB3 := Lib.hid (pbt HBM.out hb3)
  have HM3 : Hid (BOwn w3 g g M (fun _ => false)) := Lib.hid (HMM.out.below hb3)
  have HR23 := Lib.hid ((HR2m.out.below hb3).more hb3.size)
  have HSZ := Lib.hid hb3.size
  have hn3 : n3 ≤ 5001 := by have h5 := how3.1; rw [pflat_len] at h5; have := HL1.out; omega
  clear how3 hA3 hb3 hwm hg
  cases A2 with
  | none =>
    obtain ⟨rfl, rfl⟩ := HA2.out rfl
    have HD0 : Hid (D = DA) := Lib.hid (by
      have h5 : DB = [] := List.length_eq_zero_iff.1 HR23.out.1.symm
      rw [HGD.out, h5, List.append_nil])
    obtain ⟨A4, n4, c4, hA4, hn4, hc4⟩ : ∃ A4 n4 c4, A3 = A4 ∧ n3 = n4 ∧ c3 = c4 := ⟨_, _, _, rfl, rfl, rfl⟩
    subst hA4
    subst hn4
    subst hc4
    obtain ⟨A4, n4, c4, w4, hA4, hn4, hc4, hw4⟩ : ∃ A4 n4 c4 w4, A3 = A4 ∧ n3 = n4 ∧ c3 = c4 ∧ w3 = w4 := ⟨_, _, _, _, rfl, rfl, rfl, rfl⟩
    have HO4 : Hid (w4.ownsRow wm.heap.size 65 2 (.slice A4 n4 c4) n4 (pflat D)) := Lib.hid (by rw [HD0.out, ← hA4, ← hn4, ← hc4, ← hw4]; exact HO3.out)
    have HM4 : Hid (BOwn w4 g g M (fun _ => false)) := Lib.hid (by rw [← hw4]; exact HM3.out)
    have HB4 : Hid (Below w.heap.size w w4) := Lib.hid (by rw [← hw4]; exact HB3.out)
    subst hA4
    subst hn4
    subst hc4
    subst hw4
    go_wp2_with (at_builtin; refine wpList_append_own_none rfl _ _ 62 rfl wm.heap.size 65 i0 2 Try.underlying62 hi _ n3 (pflat DA) rfl HO3.out rfl ?_)
    go_wp2_with fail
    go_loopw [54] (fun z wr => ∃ k : Nat, k ≤ n3 ∧ z = .int .i64 (k : Int) ∧ Hid (wr.ownsRow wm.heap.size 65 2 (.slice A3 n3 c3) n3 (pflat D)) ∧ Hid (BOwn wr g g M (fun j => ysB (D.take k) j)) ∧ Hid (Below w.heap.size w wr)) (fun z _ => n3 - (intOf z).toNat)
    case atStart => exact ⟨0, by omega, rfl, HO4, HM4, HB4⟩
    case round =>
      obtain ⟨k, hk, rfl, ho, hmet, hbw⟩ := hrel
      have HDL : Hid (n3 = D.length) := Lib.hid (by have h5 := ho.out.1; rw [pflat_len] at h5; omega)
      by_cases hlt : k < n3
      case pos =>
        obtain ⟨b, off, x, y, hx, hAe, hB, c1, c2⟩ := (PRow.of_own ho.out).at_ hlt
        obtain ⟨y1, y2⟩ := HGY.out _ (List.mem_of_getElem? hx)
        obtain ⟨Y, rfl⟩ : ∃ Y : Nat, y = Y := ⟨y.toNat, by simp at y1; omega⟩
        simp only at y1 y2
        subst hAe
        have hYM : Y < M := by have := HMV.out; omega
        have hYi : (Y : Int) ≤ (m : Int) := by omega
        have hYM2 : (Y : Int) < (M : Int) := by omega
        have HYB := Lib.hid (ysB_take hx)
        obtain ⟨e1, e2, e3, e4⟩ := hmet.out.cell hYM
        have hki : (k : Int) < (n3 : Int) := by omega
        have hsz : wm.heap.size ≤ b := by
          rcases ho.out.2 with ⟨h0, _⟩ | ⟨g', cap, cur, hv, hg', _⟩
          · cases h0
          · injection hv with hA _ _
            injection hA with hA
            injection hA with hA _ _
            omega
        clear hx y2
        go_wp2_with fail
        have hst := World.ownsRow.stored hmet.out Y (.bool true)
        have HO5 : Hid (((wr.setCell ⟨g, Y, none⟩ (.bool true)).alloc (Obj.cells #[.int .i64 x, .int .i64 (Y : Int)] 65)).ownsRow wm.heap.size 65 2 (.slice (some ⟨b, off, none⟩) n3 c3) n3 (pflat D)) := Lib.hid ((ho.out.kept hst.2 (.inr (by show (some b : Option Nat) ≠ some g; intro e; injection e with e; omega))).alloc _)
        have hal : Below (wr.setCell ⟨g, Y, none⟩ (.bool true)).heap.size (wr.setCell ⟨g, Y, none⟩ (.bool true)) ((wr.setCell ⟨g, Y, none⟩ (.bool true)).alloc (Obj.cells #[.int .i64 x, .int .i64 (Y : Int)] 65)) := (Below.refl _ _).alloc (Nat.le_refl _) _
        have HM5 : Hid (BOwn ((wr.setCell ⟨g, Y, none⟩ (.bool true)).alloc (Obj.cells #[.int .i64 x, .int .i64 (Y : Int)] 65)) g g M (fun j => ysB (D.take (k + 1)) j)) := Lib.hid (((hmet.out.store Y true).congr HYB.out).below hal)
        have HB5 : Hid (Below w.heap.size w ((wr.setCell ⟨g, Y, none⟩ (.bool true)).alloc (Obj.cells #[.int .i64 x, .int .i64 (Y : Int)] 65))) := Lib.hid (pbt (hbw.out.setCell (p := ⟨g, Y, none⟩) HGW.out _) hal)
        clear hal hst
        go_roundw
        case rel => exact ⟨k + 1, by omega, by go_num, HO5, HM5, HB5⟩
        case measure => simp [intOf]; omega
      case neg =>
        have hkn : k = n3 := by omega
        have HF : Hid (∀ y, y ≤ m → ysB (D.take k) y = decide ((encF 60 y).length < 2)) := Lib.hid (fun y hy => by
          rw [List.take_of_length_le (by rw [← HDL.out]; omega)]; exact HGE.out y hy)
        subst hkn
        go_wp2_with fail
        go_loopw [74] (fun z wr2 => ∃ y : Nat, y ≤ M ∧ z = .int .i64 (y : Int) ∧ Hid (BOwn wr2 g g M (fun j => ysB (D.take k) j)) ∧ Hid (Below w.heap.size w wr2)) (fun z _ => M - (intOf z).toNat)
        case atStart => exact ⟨0, by omega, rfl, hmet, hbw⟩
        case round =>
          obtain ⟨y, hy, rfl, hmt, hbr⟩ := hrel
          by_cases hyl : y < M
          case neg =>
            have hyi : (M : Int) ≤ (y : Int) := by omega
            go_wp2_with fail
            refine (codes_any _).mono ?_; rintro e w8 ⟨rfl, hb8⟩
            have HB8 := Lib.hid (pbt hbr.out hb8)
            clear hb8
            go_wp2_with fail
            go_ret
            exact ⟨rfl, HB8.out⟩
          case pos =>
            have hym : y ≤ m := by have := HMV.out; omega
            have hyi : (y : Int) < (M : Int) := by omega
            have hfy := HF.out y hym
            obtain ⟨v, hv⟩ : ∃ v, ysB (D.take k) y = v := ⟨_, rfl⟩
            rw [hv] at hfy
            have HFY := Lib.hid hfy
            obtain ⟨e1, _, e3, _⟩ := hmt.out.cell hyl
            rw [hv] at e1
            have HE1 := Lib.hid e1
            clear hfy hv e1
            go_wp2_with fail
            refine (HEN.out y _ hym).mono ?_; rintro e w8 ⟨A8, n8, c8, rfl, hr8, hb8⟩
            have e1 : w8.cell? ⟨g, y, none⟩ = some (.bool v) := (hb8.cell (p := ⟨g, y, none⟩) e3).trans HE1.out
            have hn8 : n8 = (encF 60 y).length := hr8.1
            have HV8 : Hid (decide (n8 < 2) = v) := Lib.hid (by rw [HFY.out, hn8])
            have HM8 := Lib.hid (hmt.out.below hb8)
            have HB8 := Lib.hid (pbt hbr.out hb8)
            have hcv : (v = true ∧ (n8 : Int) < 2) ∨ (v = false ∧ (2 : Int) ≤ (n8 : Int)) := by
              have h9 := HV8.out
              by_cases h2 : n8 < 2
              · rw [decide_eq_true h2] at h9; exact .inl ⟨h9.symm, by omega⟩
              · rw [decide_eq_false h2] at h9; exact .inr ⟨h9.symm, by omega⟩
            clear hr8 hb8 hn8
            rcases hcv with ⟨rfl, h2⟩ | ⟨rfl, h2⟩
            all_goals
              go_wp2_with fail
              go_roundw
              case rel => exact ⟨y + 1, by omega, by go_num, HM8, HB8⟩
              case measure => simp [intOf]; omega
  | some ad =>
    have hnews : ∀ j u, (pflat DB)[j]? = some u → w3.cell? (ad.add j) = some u := by
      intro j u hu
      have hn0 : 0 < n2 := by
        have h5 := (List.getElem?_eq_some_iff.1 hu).1
        rw [pflat_len, ← HR23.out.1] at h5; omega
      obtain ⟨b, off, e, hb, _⟩ := HR23.out.2 hn0
      injection e with e
      subst e
      exact HR23.out.pflat j u hu
    have HNE := Lib.hid hnews
    have H1 : Hid ((pflat DB).length = n2 * 2) := Lib.hid (by rw [pflat_len, HR23.out.1])
    have H3 : Hid (n3 + n2 ≤ maxLen) := Lib.hid (by unfold maxLen; omega)
    have H4 : Hid ((n3 + n2) * 16 ≤ 140737488355328) := Lib.hid (by omega)
    clear hnews
    go_wp2_with (at_builtin; refine wpList_append_own _ rfl _ _ 62 rfl wm.heap.size 65 i0 (.agg #[.int .i64 0, .int .i64 0]) 2 16 Try.underlying62 hi hz0 hz1 hz2 rfl (by decide) _ n3 (pflat DA) rfl HO3.out ad n2 c2 (pflat DB) rfl H1.out HNE.out (pflat_one DB) H3.out H4.out HSZ.out ?_; intro v' w4 hown' hgrow _)
    rw [← pflat_append, ← HGD.out] at hown'
    obtain ⟨A4, c4, rfl, _⟩ := iown_sl hown'
    obtain ⟨n4, hn4⟩ : ∃ n4, n3 + n2 = n4 := ⟨_, rfl⟩
    rw [hn4] at hown' ⊢
    have hn4b : n4 ≤ 10002 := by omega
    have HO4 := Lib.hid hown'
    have HM4 : Hid (BOwn w4 g g M (fun _ => false)) := Lib.hid (HM3.out.kept hgrow (.inr (by
      intro e
      have := own_ge HO3.out g e.symm
      omega)))
    have HB4 : Hid (Below w.heap.size w w4) := Lib.hid (HB3.out.grown hgrow HB3.out.size (fun k e => by
      have := own_ge HO3.out k e
      have := HGW.out
      omega))
    clear hown' hgrow hn4
    rw [run_len_slice (P := Try.prog) (w := w4) 62 3 A4 n4 c4 (by kernel_rfl)]
    go_wp2_with fail
    go_loopw [54] (fun z wr => ∃ k : Nat, k ≤ n4 ∧ z = .int .i64 (k : Int) ∧ Hid (wr.ownsRow wm.heap.size 65 2 (.slice A4 n4 c4) n4 (pflat D)) ∧ Hid (BOwn wr g g M (fun j => ysB (D.take k) j)) ∧ Hid (Below w.heap.size w wr)) (fun z _ => n4 - (intOf z).toNat)
    case atStart => exact ⟨0, by omega, rfl, HO4, HM4, HB4⟩
    case round =>
      obtain ⟨k, hk, rfl, ho, hmet, hbw⟩ := hrel
      have HDL : Hid (n4 = D.length) := Lib.hid (by have h5 := ho.out.1; rw [pflat_len] at h5; omega)
      by_cases hlt : k < n4
      case pos =>
        obtain ⟨b, off, x, y, hx, hAe, hB, c1, c2⟩ := (PRow.of_own ho.out).at_ hlt
        obtain ⟨y1, y2⟩ := HGY.out _ (List.mem_of_getElem? hx)
        obtain ⟨Y, rfl⟩ : ∃ Y : Nat, y = Y := ⟨y.toNat, by simp at y1; omega⟩
        simp only at y1 y2
        subst hAe
        have hYM : Y < M := by have := HMV.out; omega
        have hYi : (Y : Int) ≤ (m : Int) := by omega
        have hYM2 : (Y : Int) < (M : Int) := by omega
        have HYB := Lib.hid (ysB_take hx)
        obtain ⟨e1, e2, e3, e4⟩ := hmet.out.cell hYM
        have hki : (k : Int) < (n4 : Int) := by omega
        have hsz : wm.heap.size ≤ b := by
          rcases ho.out.2 with ⟨h0, _⟩ | ⟨g', cap, cur, hv, hg', _⟩
          · cases h0
          · injection hv with hA _ _
            injection hA with hA
            injection hA with hA _ _
            omega
        clear hx y2
        go_wp2_with fail
        have hst := World.ownsRow.stored hmet.out Y (.bool true)
        have HO5 : Hid (((wr.setCell ⟨g, Y, none⟩ (.bool true)).alloc (Obj.cells #[.int .i64 x, .int .i64 (Y : Int)] 65)).ownsRow wm.heap.size 65 2 (.slice (some ⟨b, off, none⟩) n4 c4) n4 (pflat D)) := Lib.hid ((ho.out.kept hst.2 (.inr (by show (some b : Option Nat) ≠ some g; intro e; injection e with e; omega))).alloc _)
        have hal : Below (wr.setCell ⟨g, Y, none⟩ (.bool true)).heap.size (wr.setCell ⟨g, Y, none⟩ (.bool true)) ((wr.setCell ⟨g, Y, none⟩ (.bool true)).alloc (Obj.cells #[.int .i64 x, .int .i64 (Y : Int)] 65)) := (Below.refl _ _).alloc (Nat.le_refl _) _
        have HM5 : Hid (BOwn ((wr.setCell ⟨g, Y, none⟩ (.bool true)).alloc (Obj.cells #[.int .i64 x, .int .i64 (Y : Int)] 65)) g g M (fun j => ysB (D.take (k + 1)) j)) := Lib.hid (((hmet.out.store Y true).congr HYB.out).below hal)
        have HB5 : Hid (Below w.heap.size w ((wr.setCell ⟨g, Y, none⟩ (.bool true)).alloc (Obj.cells #[.int .i64 x, .int .i64 (Y : Int)] 65))) := Lib.hid (pbt (hbw.out.setCell (p := ⟨g, Y, none⟩) HGW.out _) hal)
        clear hal hst
        go_roundw
        case rel => exact ⟨k + 1, by omega, by go_num, HO5, HM5, HB5⟩
        case measure => simp [intOf]; omega
      case neg =>
        have hkn : k = n4 := by omega
        have HF : Hid (∀ y, y ≤ m → ysB (D.take k) y = decide ((encF 60 y).length < 2)) := Lib.hid (fun y hy => by
          rw [List.take_of_length_le (by rw [← HDL.out]; omega)]; exact HGE.out y hy)
        subst hkn
        go_wp2_with fail
        go_loopw [74] (fun z wr2 => ∃ y : Nat, y ≤ M ∧ z = .int .i64 (y : Int) ∧ Hid (BOwn wr2 g g M (fun j => ysB (D.take k) j)) ∧ Hid (Below w.heap.size w wr2)) (fun z _ => M - (intOf z).toNat)
        case atStart => exact ⟨0, by omega, rfl, hmet, hbw⟩
        case round =>
          obtain ⟨y, hy, rfl, hmt, hbr⟩ := hrel
          by_cases hyl : y < M
          case neg =>
            have hyi : (M : Int) ≤ (y : Int) := by omega
            go_wp2_with fail
            refine (codes_any _).mono ?_; rintro e w8 ⟨rfl, hb8⟩
            have HB8 := Lib.hid (pbt hbr.out hb8)
            clear hb8
            go_wp2_with fail
            go_ret
            exact ⟨rfl, HB8.out⟩
          case pos =>
            have hym : y ≤ m := by have := HMV.out; omega
            have hyi : (y : Int) < (M : Int) := by omega
            have hfy := HF.out y hym
            obtain ⟨v, hv⟩ : ∃ v, ysB (D.take k) y = v := ⟨_, rfl⟩
            rw [hv] at hfy
            have HFY := Lib.hid hfy
            obtain ⟨e1, _, e3, _⟩ := hmt.out.cell hyl
            rw [hv] at e1
            have HE1 := Lib.hid e1
            clear hfy hv e1
            go_wp2_with fail
            refine (HEN.out y _ hym).mono ?_; rintro e w8 ⟨A8, n8, c8, rfl, hr8, hb8⟩
            have e1 : w8.cell? ⟨g, y, none⟩ = some (.bool v) := (hb8.cell (p := ⟨g, y, none⟩) e3).trans HE1.out
            have hn8 : n8 = (encF 60 y).length := hr8.1
            have HV8 : Hid (decide (n8 < 2) = v) := Lib.hid (by rw [HFY.out, hn8])
            have HM8 := Lib.hid (hmt.out.below hb8)
            have HB8 := Lib.hid (pbt hbr.out hb8)
            have hcv : (v = true ∧ (n8 : Int) < 2) ∨ (v = false ∧ (2 : Int) ≤ (n8 : Int)) := by
              have h9 := HV8.out
              by_cases h2 : n8 < 2
              · rw [decide_eq_true h2] at h9; exact .inl ⟨h9.symm, by omega⟩
              · rw [decide_eq_false h2] at h9; exact .inr ⟨h9.symm, by omega⟩
            clear hr8 hb8 hn8
            rcases hcv with ⟨rfl, h2⟩ | ⟨rfl, h2⟩
            all_goals
              go_wp2_with fail
              go_roundw
              case rel => exact ⟨y + 1, by omega, by go_num, HM8, HB8⟩
              case measure => simp [intOf]; omega
theorem gold_walk (m : Int) (w : World) (_lo : -9223372036854775808 ≤ m) :
    Calls Try.prog 14 #[.int .i64 m] w fun e w' => e = .returned (.bool true) ∧ Below w.heap.size w w' := by
  by_cases h : 0 ≤ m ∧ m ≤ 5000
  · obtain ⟨M, rfl⟩ : ∃ M : Nat, m = M := ⟨m.toNat, by omega⟩
    exact gold_yes M w (by omega)
  · exact gold_no m w (by omega)
end Go.Proofs.Ytdombadhmaanfaa
