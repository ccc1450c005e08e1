/- The reference's choose: the walk. -/
import Derived.Test.YtmmgidhaakkaoaaCov
import Derived.Deep.RegionLawGrows
namespace Go.Proofs.Ytmmgidhaakkaoaa
open Go Go.RowKit

/-- pairs that lie in another block than the days -/
def BRow (w : World) (G : Nat) (A : Option Addr) (n : Nat) (L : List (Int × Int)) : Prop := Row w w.heap.size A n L ∧ ∀ a, A = some a → a.block ≠ G
theorem BRow.frm {w w' : World} {G n : Nat} {A : Option Addr} {L : List (Int × Int)} (h : BRow w G A n L) (hf : Frm w w' G G) : BRow w' G A n L := by
  refine ⟨⟨h.1.1, fun hn => ?_⟩, h.2⟩
  obtain ⟨b, off, e, hb, hc⟩ := h.1.2 hn
  have hne : b ≠ G := h.2 _ e
  have hk := hf.block b hb hne hne
  exact ⟨b, off, e, Nat.lt_of_lt_of_le hb hf.size, fun k p hp => ⟨(World.cell?_of_block (w := w) hk).trans (hc k p hp).1, (World.cell?_of_block (w := w) hk).trans (hc k p hp).2⟩⟩
theorem irow_frm {w w' : World} {G B0 n : Nat} {A : Option Addr} {L : List Int} (h : IRow w B0 A n L) (hf : Frm w w' G G) (hG : B0 ≤ G) (hs : B0 ≤ w.heap.size) : IRow w' B0 A n L :=
  h.keep fun b o hb => World.cell?_of_block (w := w) (hf.block b (by omega) (by omega) (by omega))
/-- what is found, as a slice -/
def RRes (w' : World) (G : Nat) (r : Option (List (Int × Int))) (A : Option Addr) (n c : Nat) : Prop := match r with
  | none => A = none ∧ n = 0 ∧ c = 0
  | some D => (∃ a, A = some a) ∧ n = D.length ∧ BRow w' G A n D
theorem RRes.frm {w w' : World} {G n c : Nat} {r : Option (List (Int × Int))} {A : Option Addr} (h : RRes w G r A n c) (hf : Frm w w' G G) : RRes w' G r A n c := by
  cases r with
  | none => exact h
  | some D => exact ⟨h.1, h.2.1, h.2.2.frm hf⟩

/-- choose at some pairs: it answers as the search does, and leaves the days as they were -/
def RCh (G B0 W b off l c : Nat) (M : List Nat) (M' : List Nat) : Prop :=
  ∀ (k : Nat) (F : List (Int × Int)) (A : Option Addr) (c' : Nat) (w : World), k = F.length → k ≤ l → k ≤ c' → c' ≤ 9223372036854775807 → M.drop k = M' → BRow w G A k F → (A = none → k = 0 ∧ c' = 0) → Own w G (some ⟨G, 0, none⟩) W W (tab W (cf F)) → IRow w B0 (some ⟨b, off, none⟩) l (nts M) →
    Calls Try.prog 60 #[.slice (some ⟨b, off, none⟩) l c, .slice A k c', .slice (some ⟨G, 0, none⟩) W W, .int .i64 (lf (cf F) W)] w fun e w' =>
      (∃ A2 n2 c2, e = .returned (.slice A2 n2 c2) ∧ RRes w' G (srch false W M' F) A2 n2 c2) ∧ Own w' G (some ⟨G, 0, none⟩) W W (tab W (cf F)) ∧ Frm w w' G G

theorem rchoose_nil (G B0 W b off l c : Nat) (M : List Nat) (hl : l = M.length) (hl1 : 1 ≤ l) (hl7 : l ≤ 7) : RCh G B0 W b off l c M [] := by
  intro k F A c' w hk hk2 hkc hc' hd hrow hA hown _
  have hkl : l ≤ k := by rw [hl]; exact List.drop_eq_nil_iff.1 hd
  obtain rfl : k = l := by omega
  obtain ⟨L, hL⟩ : ∃ L, lf (cf F) W = L := ⟨_, rfl⟩
  rw [hL]
  obtain ⟨b1, off1, rfl, _⟩ := hrow.1.2 (by omega)
  have HRO := Lib.hid hrow
  have HOW := Lib.hid hown
  have HK := Lib.hid hk
  have HSR : Hid (srch false W [] F = if L = 0 then some F else none) := Lib.hid (by rw [srch, hL]; simp)
  have hkk : ((k : Int) == (k : Int)) = true := by simp
  clear hL hd hk hkl hl hrow hown hA
  by_cases h0 : L = 0
  · have HS2 : Hid (srch false W [] F = some F) := Lib.hid (by rw [HSR.out, if_pos h0])
    subst h0
    go_enter Try.func60, Try.ntmps60
    go_wp2_with fail
    go_ret
    rw [HS2.out]
    exact ⟨⟨_, _, _, rfl, ⟨_, rfl⟩, HK.out, HRO.out⟩, HOW.out, Frm.refl _ _ _⟩
  · have HS2 : Hid (srch false W [] F = none) := Lib.hid (by rw [HSR.out, if_neg h0])
    have t0 : (L == 0) = false := beq_eq_false_iff_ne.2 h0
    go_enter Try.func60, Try.ntmps60
    go_wp2_with fail
    go_ret
    rw [HS2.out]
    exact ⟨⟨_, _, _, rfl, rfl, rfl, rfl⟩, HOW.out, Frm.refl _ _ _⟩

theorem own_low {w : World} {B B' n : Nat} {T : TypeId} {v : Value} {xs : List Value} (h : w.ownsRow B T 2 v n xs) (hB : B' ≤ B) : w.ownsRow B' T 2 v n xs := by
  rcases h.2 with h2 | ⟨g, cap, cur, hv, hg, r⟩
  · exact ⟨h.1, .inl h2⟩
  · exact ⟨h.1, .inr ⟨g, cap, cur, hv, Nat.le_trans hB hg, r⟩⟩
theorem row_day {w : World} {G W n : Nat} {f : Nat → Int} (h : Own w G (some ⟨G, 0, none⟩) W W (tab W f)) (hn : n < W) : w.cell? ⟨G, n, none⟩ = some (.int .i64 (f n)) ∧ w.frozen? ⟨G, n, none⟩ = false :=
  ⟨(h.cell (tab_at hn)).1, (h.cell (tab_at hn)).2.1⟩
theorem row_set {w : World} {G W : Nat} {f : Nat → Int} (h : Own w G (some ⟨G, 0, none⟩) W W (tab W f)) (n : Nat) (x : Int) : Own (w.setCell ⟨G, n, none⟩ (.int .i64 x)) G (some ⟨G, 0, none⟩) W W (tab W (upd f n x)) := by
  have ho := h.store n x
  rwa [tab_set] at ho

set_option maxRecDepth 100000 in
set_option maxHeartbeats 20000000 in
theorem rchoose_cons (G B0 W b off l c : Nat) (M : List Nat) (m : Nat) (M' : List Nat) (hl : l = M.length) (hl7 : l ≤ 7) (hm : ∀ x ∈ M, 1 ≤ x ∧ x ≤ 12) (hW : W ≤ 10080) (hlc : l ≤ c) (hc : c ≤ 9223372036854775807)
    (h0G : B0 ≤ G) (ih : RCh G B0 W b off l c M M') : RCh G B0 W b off l c M (m :: M') := by
  intro k F A c' w hk _ hkc hc' hd hrow hA hown hr
  have hkl : k < l := by
    rw [hl]
    apply Classical.byContradiction; intro hn
    rw [List.drop_eq_nil_iff.2 (by omega)] at hd
    cases hd
  have hmk : M[k]? = some m := by
    have : (M.drop k)[0]? = some m := by rw [hd]; rfl
    rwa [List.getElem?_drop, Nat.add_zero] at this
  have hd2 : M.drop (k + 1) = M' := by
    have : (M.drop k).drop 1 = M' := by rw [hd]; rfl
    rwa [List.drop_drop] at this
  have hm12 := hm m (List.mem_of_getElem? hmk)
  obtain ⟨hm1, hm2⟩ := hm12
  have hGl : G < w.heap.size := (hown.lt G rfl).2
  have HOW := Lib.hid hown
  have HRO := Lib.hid hrow
  have HA := Lib.hid hA
  have HR := Lib.hid hr
  have HK := Lib.hid hk
  have HIH := Lib.hid ih
  have HMK0 := Lib.hid hmk
  have HD := Lib.hid hd
  have HD2 := Lib.hid hd2
  have HM := Lib.hid hm
  have HL := Lib.hid hl
  have HCB : Hid (∀ j, 0 ≤ cf F j ∧ cf F j ≤ 100) := Lib.hid (fun j => cf_bd (by rw [← hk]; omega) j)
  have HB : Hid (∀ j : Nat, rmS W ((M.drop k).take j) ≤ 1008000) := Lib.hid (fun j => by
    have h1 := rmS_bd (W := W) ((M.drop k).take j)
    have h2 : ((M.drop k).take j).length ≤ 100 := by rw [List.length_take, List.length_drop]; omega
    have := Nat.mul_le_mul h2 hW
    omega)
  obtain ⟨R, hR⟩ : ∃ R, rmS W (m :: M') = R := ⟨_, rfl⟩
  obtain ⟨L, hL⟩ : ∃ L, lf (cf F) W = L := ⟨_, rfl⟩
  have hLb := lf_bd (cf F) W
  rw [hL] at hLb
  obtain ⟨L0, L1⟩ := hLb
  have HLV := Lib.hid hL
  have HRV : Hid (rmS W (M.drop k) = R) := Lib.hid (by rw [hd, hR])
  have HSR : Hid (srch false W (m :: M') F = if (R : Int) < L then none else fst' m fun a => srch false W M' (F ++ [((a : Int), (m : Int))])) := Lib.hid (by rw [srch, hR, hL]; simp)
  rw [hL]
  have HR2 := Lib.hid (irow_drop hr (show k ≤ l by omega))
  have HLN : Hid (∀ j, j = l - k → (M.drop k).take j = M.drop k) := Lib.hid (fun j hj => List.take_of_length_le (by rw [List.length_drop]; omega))
  have hki : ((k : Int) == (l : Int)) = false := by rw [beq_eq_false_iff_ne]; omega
  have hkil : (k : Int) < (l : Int) := by omega
  have hkle : (k : Int) ≤ (l : Int) := by omega
  have hk0 : (0 : Int) ≤ (k : Int) := by omega
  have hneq : ¬ k = l := by omega
  have hlci : (l : Int) ≤ (c : Int) := by omega
  have hkci : (k : Int) ≤ (c : Int) := by omega
  have hkc2 : (k : Int) ≤ (c' : Int) := by omega
  clear hr hk ih hd hd2 hmk hm hR hL hl hown hrow hA
  obtain ⟨i0, hi, hz0, hz1, hz2⟩ := info_parts infoP
  go_enter Try.func60, Try.ntmps60
  go_wp2_with fail
  go_loop [10, 31] (fun o z => ∃ j : Nat, j ≤ l - k ∧ o = .int .i64 ((rmS W ((M.drop k).take j) : Nat) : Int) ∧ z = .int .i64 (j : Int)) (fun _ z => l - k - (intOf z).toNat)
  case atStart => exact ⟨0, by omega, rfl, rfl⟩
  case round =>
    obtain ⟨j, hj, rfl, rfl⟩ := hrel
    by_cases hlt : j < l - k
    · as_aux_lemma =>
        obtain ⟨b', off', x, hx, hA, hB, g1⟩ := HR2.out.at_ (k := j) (by omega)
        injection hA with hA
        injection hA with hA1 hA2
        subst hA1 hA2
        rw [List.getElem?_drop] at hx
        obtain ⟨m1, hm, rfl⟩ := nts_at hx
        have hmm1 := (HM.out m1 (List.mem_of_getElem? hm)).1
        have hmi : (1 : Int) ≤ (m1 : Int) := by omega
        have hmz : ((m1 : Int) == 0) = false := by rw [beq_eq_false_iff_ne]; omega
        have hm0 : ¬ m1 = 0 := by omega
        have hsn : (M.drop k).take (j + 1) = (M.drop k).take j ++ [m1] := by
          have h1 : (M.drop k)[j]? = some m1 := by rw [List.getElem?_drop]; exact hm
          obtain ⟨h2, h3⟩ := List.getElem?_eq_some_iff.1 h1
          rw [List.take_succ_eq_append_getElem h2, h3]
        have HS : Hid (rmS W ((M.drop k).take (j + 1)) = rmS W ((M.drop k).take j) + W / m1) := Lib.hid (by rw [hsn, rmS_snoc])
        have hbb := HB.out (j + 1)
        have hb0 := HB.out j
        rw [HS.out] at hbb
        obtain ⟨R1, hR⟩ : ∃ R, rmS W ((M.drop k).take j) = R := ⟨_, rfl⟩
        rw [hR] at HS hbb hb0
        rw [hR]
        have hlti : (j : Int) < ((l - k : Nat) : Int) := by omega
        have hj0 : (0 : Int) ≤ (j : Int) := by omega
        have hdv : (W : Int) / (m1 : Int) = ((W / m1 : Nat) : Int) := (Int.natCast_ediv W m1).symm
        have hdb : W / m1 ≤ 10080 := Nat.le_trans (Nat.div_le_self _ _) hW
        have HDV := Lib.hid hdv
        have hd0 : (0 : Int) ≤ (W : Int) / (m1 : Int) := by rw [hdv]; exact Int.natCast_nonneg _
        have hd1 : (W : Int) / (m1 : Int) ≤ 10080 := by rw [hdv]; exact Int.ofNat_le.2 hdb
        clear hx hm hsn hR hdv
        go_wp2_with fail
        go_round
        case rel => exact ⟨j + 1, by omega, by rw [HS.out, Int.natCast_add, ← HDV.out], by go_num⟩
        case measure => simp [intOf]; omega
    · have hjl : j = l - k := by omega
      have HT : Hid (rmS W ((M.drop k).take j) = R) := Lib.hid (by rw [HLN.out j hjl, HRV.out])
      have hRb := HB.out j
      rw [HT.out] at hRb
      rw [HT.out]
      have hge : ((l - k : Nat) : Int) ≤ (j : Int) := by omega
      by_cases hbig : (R : Int) < L
      · have HS2 : Hid (srch false W (m :: M') F = none) := Lib.hid (by rw [HSR.out, if_pos hbig])
        go_wp2_with fail
        go_ret
        rw [HS2.out]
        exact ⟨⟨_, _, _, rfl, rfl, rfl, rfl⟩, HOW.out, Frm.refl _ _ _⟩
      have hbig2 : L ≤ (R : Int) := by omega
      obtain ⟨g, hg⟩ : ∃ g : Nat → Option (List (Int × Int)), (fun a : Nat => srch false W M' (F ++ [((a : Int), (m : Int))])) = g := ⟨_, rfl⟩
      have HS2 : Hid (srch false W (m :: M') F = fst' m g) := Lib.hid (by rw [HSR.out, if_neg hbig, hg])
      have HGA : Hid (∀ a, g a = srch false W M' (F ++ [((a : Int), (m : Int))])) := Lib.hid (fun a => by rw [← hg])
      have HMC : Hid (∀ w', IRow w' B0 (some ⟨b, off, none⟩) l (nts M) → b < B0 ∧ w'.cell? ⟨b, off + k, none⟩ = some (.int .i64 (m : Int))) := Lib.hid (fun w' hr => by
        obtain ⟨_, _, x1, hx1, hA1, hB1', g1⟩ := hr.at_ hkl
        injection hA1 with hA1
        injection hA1 with hA1a hA2a
        subst hA1a hA2a
        obtain ⟨r, hr, rfl⟩ := nts_at hx1
        have h1 : M[k]? = some m := HMK0.out
        rw [hr] at h1; injection h1 with h1
        subst h1
        exact ⟨hB1', g1⟩)
      obtain ⟨hbB, g0⟩ := HMC.out w HR.out
      have hbG : b ≠ G := by omega
      clear hg hbig
      go_wp2_with fail
      go_loopw [49] (fun z wr => ∃ a : Nat, a ≤ m ∧ z = .int .i64 (a : Int) ∧ Hid (fst' a g = none) ∧ Hid (Own wr G (some ⟨G, 0, none⟩) W W (tab W (cf F))) ∧ Hid (Frm w wr G G)) (fun z _ => m - (intOf z).toNat)
      case atStart => exact ⟨0, by omega, rfl, Lib.hid rfl, HOW, Lib.hid (Frm.refl _ _ _)⟩
      case round =>
        obtain ⟨a, ha, rfl, hno, how, hfr⟩ := hrel
        obtain ⟨w1, rfl⟩ : ∃ w1, w1 = wr := ⟨_, rfl⟩
        clear g0
        by_cases hlt2 : a < m
        · have hlti : (a : Int) < (m : Int) := by omega
          have ha0 : (0 : Int) ≤ (a : Int) := by omega
          have HRR := Lib.hid (irow_frm HR.out hfr.out h0G (by omega))
          obtain ⟨F1, hF1⟩ : ∃ F1, F ++ [((a : Int), (m : Int))] = F1 := ⟨_, rfl⟩
          have HF1 := Lib.hid hF1
          have HAD : Hid (∀ j, addF (cf F) a m 1 j = cf F1 j) := Lib.hid (fun j => by rw [← hF1]; exact cf_add F a m j)
          have HSB : Hid (∀ j, addF (cf F1) a m (-1) j = cf F j) := Lib.hid (fun j => by rw [← hF1]; exact cf_sub F a m j)
          have HL1 : Hid (F1.length = k + 1) := Lib.hid (by rw [← hF1, List.length_append, HK.out]; rfl)
          have HCB1 : Hid (∀ j, 0 ≤ cf F1 j ∧ cf F1 j ≤ 100) := Lib.hid (fun j => cf_bd (by rw [HL1.out]; omega) j)
          have HFL : Hid (flat F1 = flat F ++ [.int .i64 (a : Int), .int .i64 (m : Int)]) := Lib.hid (by rw [← hF1, flat_append]; rfl)
          obtain ⟨r, hr⟩ : ∃ r, srch false W M' F1 = r := ⟨_, rfl⟩
          have HRS := Lib.hid hr
          have HGC : Hid (g a = r) := Lib.hid (by rw [HGA.out, hF1, hr])
          clear hF1 hr
          go_wp2_with fail
          go_loopw [14, 15] (fun o z wr => ∃ i N : Nat, ∃ gq : Int, N ≤ W + m ∧ -10080 ≤ gq ∧ gq ≤ 10080 ∧ Hid (a + i * m = N) ∧ o = .int .i64 gq ∧ z = .int .i64 (N : Int) ∧ Hid (lf (stpF (cf F) a m 1 i) W + gq = L) ∧ Hid (Own wr G (some ⟨G, 0, none⟩) W W (tab W (stpF (cf F) a m 1 i))) ∧ Hid (Frm w1 wr G G)) (fun _ z _ => W + m - (intOf z).toNat)
          case atStart => exact ⟨0, a, 0, by omega, by omega, by omega, Lib.hid (by omega), rfl, rfl, Lib.hid (by rw [stpF, HLV.out]; omega), how, Lib.hid (Frm.refl _ _ _)⟩
          case round =>
            obtain ⟨i, N, gq, hN, q0, q1, hNe, rfl, rfl, hlf, how2, hfr2⟩ := hrel
            obtain ⟨w2, rfl⟩ : ∃ w2, w2 = wr := ⟨_, rfl⟩
            have HRQ := Lib.hid (irow_frm HRR.out hfr2.out h0G (by have := hfr.out.size; omega))
            have g1 := (HMC.out w2 HRQ.out).2
            have hN0 : (0 : Int) ≤ (N : Int) := by omega
            by_cases hlt3 : N < W
            · have hlt3i : (N : Int) < (W : Int) := by omega
              obtain ⟨y, hy⟩ : ∃ y, cf F N = y := ⟨_, rfl⟩
              have hyb := HCB.out N
              rw [hy] at hyb
              obtain ⟨y0, y1⟩ := hyb
              have hsy : stpF (cf F) a m 1 i N = y := by rw [← hy, ← hNe.out]; exact stpF_new _ 1 hm1 i
              obtain ⟨d0, d1⟩ := row_day how2.out hlt3
              rw [hsy] at d0
              have hE : stpF (cf F) a m 1 (i + 1) = upd (stpF (cf F) a m 1 i) N (y + 1) := by
                show upd (stpF (cf F) a m 1 i) (a + i * m) (stpF (cf F) a m 1 i (a + i * m) + 1) = _
                rw [hNe.out, hsy]
              have HLU : Hid (lf (stpF (cf F) a m 1 (i + 1)) W = lf (stpF (cf F) a m 1 i) W - (if y = 0 then 1 else 0)) := Lib.hid (by
                rw [hE, lf_upd, hsy, if_pos hlt3, if_neg (show ¬ y + 1 = 0 by omega)]; omega)
              have HLB := Lib.hid (lf_bd (stpF (cf F) a m 1 (i + 1)) W)
              have HO3 : Hid (Own (w2.setCell ⟨G, N, none⟩ (.int .i64 (y + 1))) G (some ⟨G, 0, none⟩) W W (tab W (stpF (cf F) a m 1 (i + 1)))) := Lib.hid (by rw [hE]; exact row_set how2.out N (y + 1))
              have HF3 : Hid (Frm w1 (w2.setCell ⟨G, N, none⟩ (.int .i64 (y + 1))) G G) := Lib.hid (hfr2.out.set (.inl rfl) _)
              have g2 := (World.cell?_setCell_other w2 ⟨G, N, none⟩ ⟨b, off + k, none⟩ (.int .i64 (y + 1)) (bne' hbG.symm)).trans g1
              have HN2 : Hid (a + (i + 1) * m = N + m) := Lib.hid (by rw [Nat.succ_mul, ← hNe.out]; omega)
              clear hy hsy hE
              by_cases hq : y = 0
              · as_aux_lemma =>
                  have HLG : Hid (lf (stpF (cf F) a m 1 (i + 1)) W + (gq + 1) = L ∧ -10080 ≤ gq + 1 ∧ gq + 1 ≤ 10080) := Lib.hid (by
                    have e1 := HLU.out
                    have e2 := hlf.out
                    have e3 := HLB.out
                    rw [if_pos hq] at e1
                    omega)
                  subst hq
                  simp only [show (0 : Int) + 1 = 1 from rfl] at HO3 HF3 g2
                  go_wp2_with fail
                  go_roundw
                  case rel => exact ⟨i + 1, N + m, gq + 1, by omega, HLG.out.2.1, HLG.out.2.2, HN2, by go_num, by go_num, Lib.hid HLG.out.1, HO3, HF3⟩
                  case measure => simp [intOf]; omega
              · as_aux_lemma =>
                  have HLG : Hid (lf (stpF (cf F) a m 1 (i + 1)) W + gq = L) := Lib.hid (by
                    have e1 := HLU.out
                    have e2 := hlf.out
                    rw [if_neg hq] at e1
                    omega)
                  have tq : (y == 0) = false := beq_eq_false_iff_ne.2 hq
                  go_wp2_with fail
                  go_roundw
                  case rel => exact ⟨i + 1, N + m, gq, by omega, q0, q1, HN2, rfl, by go_num, HLG, HO3, HF3⟩
                  case measure => simp [intOf]; omega
            · have hge3 : W ≤ N := by omega
              have hge3i : (W : Int) ≤ (N : Int) := by omega
              have hend : ∀ j, j < W → stpF (cf F) a m 1 i j = cf F1 j := fun j hj => by
                rw [stpF_end hm1 hlt2 (by rw [hNe.out]; exact hge3) j hj]; exact HAD.out j
              have HO1 : Hid (Own w2 G (some ⟨G, 0, none⟩) W W (tab W (cf F1))) := Lib.hid (by
                have := how2.out
                rwa [tab_congr hend] at this)
              have HLF : Hid (lf (cf F1) W = L - gq) := Lib.hid (by
                have := hlf.out
                rw [lf_congr W hend] at this
                omega)
              have HFW : Hid (Frm w w2 G G) := Lib.hid (hfr.out.trans hfr2.out)
              have HRO2 := Lib.hid (HRO.out.frm HFW.out)
              have hG2 : G < w2.heap.size := (HO1.out.lt G rfl).2
              have hB2 : B0 ≤ w2.heap.size := by omega
              obtain ⟨hs0, hs1⟩ : -30000 ≤ L - gq ∧ L - gq ≤ 30000 := by omega
              have HWR : Hid (IntKind.i64.wrap (L - gq) = L - gq) := Lib.hid (by rw [IntKind.wrap_i64]; omega)
              have HCH : Hid (∀ w4 gg cap, Below w2.heap.size w2 w4 → w4.ownsRow w2.heap.size 29 2 (.slice (some ⟨gg, 0, none⟩) (k + 1) cap) (k + 1) (flat F ++ [.int .i64 (a : Int), .int .i64 (m : Int)]) →
                  Calls Try.prog 60 #[.slice (some ⟨b, off, none⟩) l c, .slice (some ⟨gg, 0, none⟩) (k + 1) cap, .slice (some ⟨G, 0, none⟩) W W, .int .i64 (IntKind.i64.wrap (L - gq))] w4 fun e w' =>
                    (∃ A2 n2 c2, e = .returned (.slice A2 n2 c2) ∧ RRes w' G r A2 n2 c2) ∧ Own w' G (some ⟨G, 0, none⟩) W W (tab W (cf F1)) ∧ Frm w2 w' G G) := Lib.hid (fun w4 gg cap hb4 ho4 => by
                have hgl := own_ge ho4 (g := gg) rfl
                have hcp := own_cap2 ho4
                rw [← HFL.out] at ho4
                have h5 := HIH.out (k + 1) F1 (some ⟨gg, 0, none⟩) cap w4 HL1.out.symm (by omega) hcp.1 (by have := hcp.2; unfold maxLen at this; exact this) HD2.out
                  ⟨Row.of_own ho4, fun a' ha' => by injection ha' with ha'; rw [← ha']; show gg ≠ G; omega⟩ (fun h => by cases h) (HO1.out.other (hb4.block G hG2)) (HRQ.out.below (hb4.mono hB2))
                rw [HLF.out, HRS.out] at h5
                rw [HWR.out]
                exact h5.mono (fun e w' h6 => ⟨h6.1, h6.2.1, (Frm.of_below hb4).trans h6.2.2⟩))
              have HBX : Hid (Below w2.heap.size w2 ((w2.alloc (Obj.cells #[.int .i64 (a : Int), .int .i64 (m : Int)] 29)).drew)) := Lib.hid ((Below.refl _ _).alloc (Nat.le_refl _) _).drew
              have HFC : Hid (∀ b', A = some b' → ∀ j u, (flat F)[j]? = some u → ((w2.alloc (Obj.cells #[.int .i64 (a : Int), .int .i64 (m : Int)] 29)).drew).cell? (b'.add j) = some u) := Lib.hid (fun b' hb' => by
                have h7 := HRO2.out.1.below HBX.out
                have hlen := h7.1
                intro j u hu
                have hj := (List.getElem?_eq_some_iff.1 hu).1
                rw [flat_len] at hj
                obtain ⟨b2, off2, e2, _⟩ := h7.2 (by omega)
                rw [hb'] at e2
                injection e2 with e2
                subst e2
                rw [hb'] at h7
                exact h7.flat j u hu)
              have HFN : Hid ((flat F).length = k * 2) := Lib.hid (by rw [flat_len, HK.out])
              have HAN : Hid (A = none → k = 0 ∧ k = 0) := Lib.hid (fun h => ⟨(HA.out h).1, (HA.out h).1⟩)
              have HNE : Hid (∀ j u, ([Value.int .i64 (a : Int), .int .i64 (m : Int)] : List Value)[j]? = some u → ((w2.alloc (Obj.cells #[.int .i64 (a : Int), .int .i64 (m : Int)] 29)).drew).cell? ((⟨w2.heap.size, 0, none⟩ : Addr).add j) = some u) := Lib.hid (flat_news (w := w2.alloc (Obj.cells #[.int .i64 (a : Int), .int .i64 (m : Int)] 29)) (w0 := w2) rfl rfl)
              have H1 : Hid (∀ u ∈ ([Value.int .i64 (a : Int), .int .i64 (m : Int)] : List Value), u.oneCell' = true) := Lib.hid two_one
              have H3 : Hid (k + 1 ≤ maxLen) := Lib.hid (by unfold maxLen; omega)
              have H4 : Hid ((k + 1) * 16 ≤ 140737488355328) := Lib.hid (by omega)
              clear hend
              go_upto_region 24 with fail
              go_cut [16] (fun v16 wx => ∃ A2 n2 c2, v16 = .slice A2 n2 c2 ∧ Hid (RRes wx G r A2 n2 c2) ∧ Hid (Own wx G (some ⟨G, 0, none⟩) W W (tab W (cf F1))) ∧ Hid (Frm w2 wx G G))
              case first =>
                go_region_law
                  (first
                  | ((fail_if_success (have := HB4)); refine step_append_grows (by rfl) _ _ _ (by rfl) 29 i0 _ 2 16 Try.underlying22 hi hz0 hz1 hz2 rfl (by omega) A k k (flat F) (by rfl) HAN.out HFN.out HFC.out ⟨w2.heap.size, 0, none⟩ 1 1 [.int .i64 (a : Int), .int .i64 (m : Int)] (by rfl) (by rfl) HNE.out H1.out (by omega) H3.out H4.out ?_; intro v' w4 hown' hgrow; obtain ⟨gg, cap, rfl, hg1, hg2⟩ := hown'.form (by omega); have HO4 := Lib.hid (own_low hown' HBX.out.size); have HB4 : Hid (Below w2.heap.size w2 w4) := Lib.hid (HBX.out.trans ⟨hgrow.os, hgrow.tape, hgrow.output, hgrow.size, fun j hj => hgrow.block j (Nat.lt_of_lt_of_le hj HBX.out.size) (by simp)⟩); clear hown' hgrow hg1 hg2)
                  | (go_simp; go_at_call 60; refine (HCH.out _ _ _ HB4.out HO4.out).mono ?_; rintro e w5 ⟨⟨A2, n2, c2, rfl, hr5⟩, ho5, hf5⟩; have HR5 := Lib.hid hr5; have HO5 := Lib.hid ho5; have HF5 := Lib.hid hf5; clear hr5 ho5 hf5))
                all_goals
                  go_wp2_with fail
                  go_meet
                  exact ⟨A2, n2, c2, rfl, HR5, HO5, HF5⟩
              case rest =>
              obtain ⟨A2, n2, c2, rfl, hr5, ho5, hf5⟩ := hcut
              obtain ⟨w5, rfl⟩ : ∃ w5, w5 = wc := ⟨_, rfl⟩
              have HRV5 := Lib.hid (irow_frm HRQ.out hf5.out h0G hB2)
              have hB5 : B0 ≤ w5.heap.size := Nat.le_trans hB2 hf5.out.size
              have HFW5 : Hid (Frm w w5 G G) := Lib.hid (HFW.out.trans hf5.out)
              clear g1
              go_wp2_with fail
              go_loopw [17] (fun z wr => ∃ i N : Nat, N ≤ W + m ∧ Hid (a + i * m = N) ∧ z = .int .i64 (N : Int) ∧ Hid (Own wr G (some ⟨G, 0, none⟩) W W (tab W (stpF (cf F1) a m (-1) i))) ∧ Hid (Frm w5 wr G G)) (fun z _ => W + m - (intOf z).toNat)
              case atStart => exact ⟨0, a, by omega, Lib.hid (by omega), rfl, ho5, Lib.hid (Frm.refl _ _ _)⟩
              case round =>
                obtain ⟨i, N, hN, hNe, rfl, how6, hfr6⟩ := hrel
                obtain ⟨w6, rfl⟩ : ∃ w6, w6 = wr := ⟨_, rfl⟩
                have g1 := (HMC.out w6 (irow_frm HRV5.out hfr6.out h0G hB5)).2
                have hN0 : (0 : Int) ≤ (N : Int) := by omega
                by_cases hlt3 : N < W
                · as_aux_lemma =>
                    have hlt3i : (N : Int) < (W : Int) := by omega
                    obtain ⟨y, hy⟩ : ∃ y, cf F1 N = y := ⟨_, rfl⟩
                    have hyb := HCB1.out N
                    rw [hy] at hyb
                    obtain ⟨y0, y1⟩ := hyb
                    have hsy : stpF (cf F1) a m (-1) i N = y := by rw [← hy, ← hNe.out]; exact stpF_new _ (-1) hm1 i
                    obtain ⟨d0, d1⟩ := row_day how6.out hlt3
                    rw [hsy] at d0
                    have hE : stpF (cf F1) a m (-1) (i + 1) = upd (stpF (cf F1) a m (-1) i) N (y - 1) := by
                      show upd (stpF (cf F1) a m (-1) i) (a + i * m) (stpF (cf F1) a m (-1) i (a + i * m) + -1) = _
                      rw [hNe.out, hsy]; rfl
                    have HO3 : Hid (Own (w6.setCell ⟨G, N, none⟩ (.int .i64 (y - 1))) G (some ⟨G, 0, none⟩) W W (tab W (stpF (cf F1) a m (-1) (i + 1)))) := Lib.hid (by rw [hE]; exact row_set how6.out N (y - 1))
                    have HF3 : Hid (Frm w5 (w6.setCell ⟨G, N, none⟩ (.int .i64 (y - 1))) G G) := Lib.hid (hfr6.out.set (.inl rfl) _)
                    have g2 := (World.cell?_setCell_other w6 ⟨G, N, none⟩ ⟨b, off + k, none⟩ (.int .i64 (y - 1)) (bne' hbG.symm)).trans g1
                    have HN2 : Hid (a + (i + 1) * m = N + m) := Lib.hid (by rw [Nat.succ_mul, ← hNe.out]; omega)
                    clear hy hsy hE
                    go_wp2_with fail
                    go_roundw
                    case rel => exact ⟨i + 1, N + m, by omega, HN2, by go_num, HO3, HF3⟩
                    case measure => simp [intOf]; omega
                · have hge3 : W ≤ N := by omega
                  have hge4i : (W : Int) ≤ (N : Int) := by omega
                  have hend : ∀ j, j < W → stpF (cf F1) a m (-1) i j = cf F j := fun j hj => by
                    rw [stpF_end hm1 hlt2 (by rw [hNe.out]; exact hge3) j hj]; exact HSB.out j
                  have HOE : Hid (Own w6 G (some ⟨G, 0, none⟩) W W (tab W (cf F))) := Lib.hid (by
                    have := how6.out
                    rwa [tab_congr hend] at this)
                  have HFE : Hid (Frm w w6 G G) := Lib.hid (HFW5.out.trans hfr6.out)
                  have HR6 := Lib.hid (hr5.out.frm hfr6.out)
                  clear hend
                  cases r with
                  | none => as_aux_lemma =>
                    obtain ⟨rfl, rfl, rfl⟩ : A2 = none ∧ n2 = 0 ∧ c2 = 0 := HR6.out
                    go_wp2_with fail
                    go_roundw
                    case rel => exact ⟨a + 1, by omega, by go_num, Lib.hid (fst_next' hno.out HGC.out), HOE, HFE⟩
                    case measure => simp [intOf]; omega
                  | some D => as_aux_lemma =>
                    have HS3 : Hid (srch false W (m :: M') F = some D) := Lib.hid (by rw [HS2.out]; exact fst_found' hno.out HGC.out m hlt2)
                    obtain ⟨a5, rfl⟩ : ∃ a, A2 = some a := HR6.out.1
                    go_wp2_with fail
                    go_ret
                    rw [HS3.out]
                    exact ⟨⟨_, _, _, rfl, HR6.out⟩, HOE.out, HFE.out⟩
        · as_aux_lemma =>
            have ham : a = m := by omega
            subst ham
            have HS3 : Hid (srch false W (a :: M') F = none) := Lib.hid (by rw [HS2.out, hno.out])
            go_wp2_with fail
            go_ret
            rw [HS3.out]
            exact ⟨⟨_, _, _, rfl, rfl, rfl, rfl⟩, how.out, hfr.out⟩

theorem rchoose_any (G B0 W b off l c : Nat) (M : List Nat) (hl : l = M.length) (hl1 : 1 ≤ l) (hl7 : l ≤ 7) (hm : ∀ x ∈ M, 1 ≤ x ∧ x ≤ 12) (hW : W ≤ 10080) (hlc : l ≤ c) (hc : c ≤ 9223372036854775807)
    (h0G : B0 ≤ G) : ∀ M', RCh G B0 W b off l c M M'
  | [] => rchoose_nil G B0 W b off l c M hl hl1 hl7
  | m :: M' => rchoose_cons G B0 W b off l c M m M' hl hl7 hm hW hlc hc h0G (rchoose_any G B0 W b off l c M hl hl1 hl7 hm hW hlc hc h0G M')
end Go.Proofs.Ytmmgidhaakkaoaa
