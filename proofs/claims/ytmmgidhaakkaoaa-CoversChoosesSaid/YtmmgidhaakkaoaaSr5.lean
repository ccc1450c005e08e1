/- The search of residues: the walk of choose. -/
import Derived.Test.YtmmgidhaakkaoaaSr4
import Derived.Deep.RegionLaw
namespace Go.Proofs.Ytmmgidhaakkaoaa
open Go Go.RowKit

/-- choose at some pairs: it answers as the search does, and leaves what was found, or what was -/
def ChS (S G B B0 W b off l c : Nat) (M : List Nat) (ex : Bool) (M' : List Nat) : Prop :=
  ∀ (k : Nat) (F : List (Int × Int)) (v : Value) (w : World), k = F.length → k ≤ l → M.drop k = M' → ST w S G B (.slice (some ⟨b, off, none⟩) l c) W F ex v → IRow w B0 (some ⟨b, off, none⟩) l (nts M) →
    Calls Try.prog 70 #[.pointer (some ⟨S, 0, none⟩), .int .i64 (k : Int)] w fun e w' =>
      e = .returned (.bool (srch ex W M' F).isSome) ∧ (∃ v', ST w' S G B (.slice (some ⟨b, off, none⟩) l c) W ((srch ex W M' F).getD F) ex v' ∧ OB w v v') ∧ FrmV w w' S G v

theorem choose_nil (S G B B0 W b off l c : Nat) (M : List Nat) (ex : Bool) (hl : l = M.length) (hl7 : l ≤ 7) : ChS S G B B0 W b off l c M ex [] := by
  intro k F v w hk hk2 hd hst hr
  have hkl : l ≤ k := by rw [hl]; exact List.drop_eq_nil_iff.1 hd
  obtain rfl : k = l := by omega
  obtain ⟨L, hL⟩ : ∃ L, lf (cf F) W = L := ⟨_, rfl⟩
  have c0 := hst.ss.c0
  have c2 := hst.ss.c2
  have c3 := hst.ss.c3
  rw [hL] at c2
  have HST := Lib.hid hst
  have HSR : Hid (srch ex W [] F = if ex = true ∨ L = 0 then some F else none) := Lib.hid (by rw [srch, hL])
  clear hst hr hL hd hk hkl hl
  cases ex with
  | true =>
    have HS2 : Hid (srch true W [] F = some F) := Lib.hid (by rw [HSR.out, if_pos (.inl rfl)])
    go_enter Try.func70, Try.ntmps70
    go_wp2_with fail
    go_ret
    rw [HS2.out]
    exact ⟨rfl, ⟨_, HST.out, OB.refl _ _⟩, FrmV.refl _ _ _ _⟩
  | false =>
    by_cases h0 : L = 0
    · have HS2 : Hid (srch false W [] F = some F) := Lib.hid (by rw [HSR.out, if_pos (.inr h0)])
      subst h0
      go_enter Try.func70, Try.ntmps70
      go_wp2_with fail
      go_ret
      rw [HS2.out]
      exact ⟨rfl, ⟨_, HST.out, OB.refl _ _⟩, FrmV.refl _ _ _ _⟩
    · have HS2 : Hid (srch false W [] F = none) := Lib.hid (by rw [HSR.out, if_neg (by rintro (h | h); cases h; exact h0 h)])
      have t0 : (L == 0) = false := beq_eq_false_iff_ne.2 h0
      go_enter Try.func70, Try.ntmps70
      go_wp2_with fail
      go_ret
      rw [HS2.out]
      exact ⟨rfl, ⟨_, HST.out, OB.refl _ _⟩, FrmV.refl _ _ _ _⟩

set_option maxRecDepth 100000 in
set_option maxHeartbeats 4000000 in
theorem choose_cons (S G B B0 W b off l c : Nat) (M : List Nat) (ex : Bool) (m : Nat) (M' : List Nat) (hl : l = M.length) (hl7 : l ≤ 7) (hm : ∀ x ∈ M, 1 ≤ x ∧ x ≤ 12) (hW : W ≤ 10080) (hlc : l ≤ c) (hc : c ≤ 9223372036854775807)
    (h0S : B0 ≤ S) (h0G : B0 ≤ G) (ih : ChS S G B B0 W b off l c M ex M') : ChS S G B B0 W b off l c M ex (m :: M') := by
  intro k F v w hk _ hd hst hr
  have hkl : k < l := by
    rw [hl]
    apply Classical.byContradiction; intro hn
    rw [List.drop_eq_nil_iff.2 (by omega)] at hd
    cases hd
  have hmk : M[k]? = some m := by
    have : (M.drop k)[0]? = some m := by rw [hd]; rfl
    rwa [List.getElem?_drop, Nat.add_zero] at this
  have hd2 : M.drop (k + 1) = M' := by
    have : (M.drop k).drop 1 = M' := by rw [hd]; rfl
    rwa [List.drop_drop] at this
  have hm12 := hm m (List.mem_of_getElem? hmk)
  obtain ⟨hm1, hm2⟩ := hm12
  have hB := hst.hB
  have hS := hst.hS
  have hG := hst.hG
  have HST := Lib.hid hst
  have HR := Lib.hid hr
  have HK := Lib.hid hk
  have HIH := Lib.hid ih
  have HMK0 := Lib.hid hmk
  have HD2 := Lib.hid hd2
  have HRM := Lib.hid (fun n : Nat => room_any S G W b off l c k M (cf F) (lf (cf F) W) ex v (w.drewN n) (hst.drewN n).ss ((hr.more (show B0 ≤ w.heap.size by omega)).below (bdN (Below.refl _ _) n)) (fun x hx => (hm x hx).1) hW (by omega) hkl hlc hc)
  rw [hd] at HRM
  obtain ⟨R, hR⟩ : ∃ R, rmS W (m :: M') = R := ⟨_, rfl⟩
  have hRb : R ≤ 1008000 := by
    rw [← hR, ← hd]
    have h1 := rmS_bd (W := W) (M.drop k)
    have h2 : (M.drop k).length ≤ 100 := by rw [List.length_drop]; omega
    have := Nat.mul_le_mul h2 hW
    omega
  obtain ⟨L, hL⟩ : ∃ L, lf (cf F) W = L := ⟨_, rfl⟩
  have hLb := lf_bd (cf F) W
  obtain ⟨t, ht⟩ : ∃ t : Bool, decide (ex = false ∧ (R : Int) < L) = t := ⟨_, rfl⟩
  have HSR : Hid (srch ex W (m :: M') F = if t = true then none else fst' m fun a => if onB (cf F) a m W = true ∨ ex = false then srch ex W M' (F ++ [((a : Int), (m : Int))]) else none) := Lib.hid (by
    rw [srch, hR, hL, ← ht]
    congr 1
    simp)
  rw [hL] at hLb
  rw [hR] at HRM
  obtain ⟨L0, L1⟩ := hLb
  have c0 := hst.ss.c0
  have c1 := hst.ss.c1
  have c2 := hst.ss.c2
  have c3 := hst.ss.c3
  rw [hL] at c2
  have HT := Lib.hid ht
  have hki : ((k : Int) == (l : Int)) = false := by rw [beq_eq_false_iff_ne]; omega
  have hkil : (k : Int) < (l : Int) := by omega
  have hk0 : (0 : Int) ≤ (k : Int) := by omega
  have hneq : ¬ k = l := by omega
  clear hst hr hk ih hd hd2 hmk hm hR hL ht hl
  go_enter Try.func70, Try.ntmps70
  go_upto_region 3 with fail
  go_cut [40] (fun u wx => u = .bool t ∧ ∃ n, wx = w.drewN n)
  case first => as_aux_lemma =>
    cases ex with
    | true =>
      obtain rfl : t = false := by rw [← HT.out]; simp
      go_quiet (fail)
      go_wp2_with fail
      go_meet
      exact ⟨rfl, _, rfl⟩
    | false =>
      have t1 : decide ((R : Int) < L) = t := by rw [← HT.out]; simp
      have HC := Lib.hid (fun n => HRM.out n)
      go_quiet ((go_at_call 78; refine Calls.quiet_of_same (HC.out _)))
      go_wp2_with fail
      go_meet
      exact ⟨by first | rfl | (rw [t1]), _, rfl⟩
  case rest =>
  obtain ⟨rfl, nq, rfl⟩ := hcut
  have HST1 := Lib.hid (HST.out.drewN nq)
  have HR1 := Lib.hid (HR.out.below (bdN (Below.refl B0 w) nq))
  obtain ⟨w0, hw0⟩ : ∃ w0, w0 = w.drewN nq := ⟨_, rfl⟩
  have HF0 : Hid (FrmV w w0 S G v) := Lib.hid (by rw [hw0]; exact FrmV.of_below (bdN (Below.refl _ _) nq))
  rw [← hw0] at HST1 HR1 ⊢
  clear hw0 c0 c1 c2 c3
  cases t with
  | true =>
    have HS2 : Hid (srch ex W (m :: M') F = none) := Lib.hid (by rw [HSR.out, if_pos rfl])
    go_wp2_with fail
    go_ret
    rw [HS2.out]
    exact ⟨rfl, ⟨_, HST1.out, OB.refl _ _⟩, HF0.out⟩
  | false =>
  have HS2 : Hid (srch ex W (m :: M') F = fst' m fun a => if onB (cf F) a m W = true ∨ ex = false then srch ex W M' (F ++ [((a : Int), (m : Int))]) else none) := Lib.hid (by rw [HSR.out, if_neg (by decide)])
  obtain ⟨g, hg⟩ : ∃ g : Nat → Option (List (Int × Int)), (fun a => if onB (cf F) a m W = true ∨ ex = false then srch ex W M' (F ++ [((a : Int), (m : Int))]) else none) = g := ⟨_, rfl⟩
  rw [hg] at HS2
  have HGA : Hid (∀ a, g a = if onB (cf F) a m W = true ∨ ex = false then srch ex W M' (F ++ [((a : Int), (m : Int))]) else none) := Lib.hid (fun a => by rw [← hg])
  clear hg
  have c0 := HST1.out.ss.c0
  obtain ⟨_, _, x0, hx0, hA0, hB0, g0⟩ := HR1.out.at_ hkl
  injection hA0 with hA0
  injection hA0 with hA1 hA2
  subst hA1 hA2
  have HMK : Hid (x0 = (m : Int)) := Lib.hid (by
    obtain ⟨r, hr, rfl⟩ := nts_at hx0
    have h1 : M[k]? = some m := HMK0.out
    rw [hr] at h1; injection h1 with h1; rw [h1])
  rw [HMK.out] at g0
  clear hx0
  go_wp2_with fail
  go_loopw [48] (fun z wr => ∃ a : Nat, a ≤ m ∧ z = .int .i64 (a : Int) ∧ Hid (fst' a g = none) ∧ Hid (∃ v', ST wr S G B (.slice (some ⟨b, off, none⟩) l c) W F ex v' ∧ OB w v v') ∧ Hid (FrmV w wr S G v)) (fun z _ => m - (intOf z).toNat)
  case atStart => exact ⟨0, by omega, rfl, Lib.hid rfl, Lib.hid ⟨_, HST1.out, OB.refl _ _⟩, HF0⟩
  case round =>
    obtain ⟨a, ha, rfl, hno, hst, hfr⟩ := hrel
    obtain ⟨v1, hst1, hob1⟩ := hst.out
    have HST2 := Lib.hid hst1
    have HOB1 := Lib.hid hob1
    clear hst hst1 hob1 c0 g0
    by_cases hlt : a < m
    · have hlti : (a : Int) < (m : Int) := by omega
      have hss := HST2.out.ss
      have hSl := hss.lt
      have hGl := hss.glt
      have hB1 := HST2.out.hB
      have HRR := Lib.hid (hfr.out.row HST.out.own h0S h0G (show B0 ≤ B by omega) (show B0 ≤ w.heap.size by omega) HR.out)
      obtain ⟨_, _, x1, hx1, hA1, hB1', g1⟩ := HRR.out.at_ hkl
      injection hA1 with hA1
      injection hA1 with hA1a hA2a
      subst hA1a hA2a
      have hxm : x1 = (m : Int) := by
        obtain ⟨r, hr, rfl⟩ := nts_at hx1
        have h1 : M[k]? = some m := HMK0.out
        rw [hr] at h1; injection h1 with h1; rw [h1]
      rw [hxm] at g1
      clear hx1 hxm
      obtain ⟨PW, hPW⟩ : ∃ PW, PW = wr.alloc (Obj.cells #[.int .i64 (a : Int), .int .i64 (m : Int)] 68) := ⟨_, rfl⟩
      have c0 := hss.c0
      have c4 := hss.c4
      have f4 := hss.f4
      have hpb : Below wr.heap.size wr (wr.alloc (Obj.cells #[.int .i64 (a : Int), .int .i64 (m : Int)] 68)) := (Below.refl _ _).alloc (Nat.le_refl _) _
      have p4 := (hpb.cell (p := ⟨S, 4, none⟩) hSl).trans c4
      have q4 := (hpb.frozen (p := ⟨S, 4, none⟩) hSl).trans f4
      have hAB : Below wr.heap.size wr (((wr.alloc (Obj.cells #[.int .i64 (a : Int), .int .i64 (m : Int)] 68)).alloc (Obj.cells #[.int .i64 (a : Int), .int .i64 (m : Int)] 68)).drew) := (hpb.alloc (by simp) _).drew
      have hQB : Below wr.heap.size wr ((wr.alloc (Obj.cells #[.int .i64 (a : Int), .int .i64 (m : Int)] 68)).alloc (Obj.cells #[.int .i64 (a : Int), .int .i64 (m : Int)] 68)) := hpb.alloc (by simp) _
      have u4 := (hQB.cell (p := ⟨S, 4, none⟩) hSl).trans c4
      have uf := (hQB.frozen (p := ⟨S, 4, none⟩) hSl).trans f4
      have u0 : ((wr.alloc (Obj.cells #[.int .i64 (a : Int), .int .i64 (m : Int)] 68)).alloc (Obj.cells #[.int .i64 (a : Int), .int .i64 (m : Int)] 68)).cell? ⟨wr.heap.size, 0, none⟩ = some (.int .i64 (a : Int)) := by simp
      have u1 : ((wr.alloc (Obj.cells #[.int .i64 (a : Int), .int .i64 (m : Int)] 68)).alloc (Obj.cells #[.int .i64 (a : Int), .int .i64 (m : Int)] 68)).cell? ⟨wr.heap.size, 1, none⟩ = some (.int .i64 (m : Int)) := by simp
      have hstA := HST2.out.below hAB
      have HSTA := Lib.hid hstA
      have HFA : Hid (FrmV wr (((wr.alloc (Obj.cells #[.int .i64 (a : Int), .int .i64 (m : Int)] 68)).alloc (Obj.cells #[.int .i64 (a : Int), .int .i64 (m : Int)] 68)).drew) S G v1) := Lib.hid (FrmV.of_below hAB)
      have HOWN : Hid ((((wr.alloc (Obj.cells #[.int .i64 (a : Int), .int .i64 (m : Int)] 68)).alloc (Obj.cells #[.int .i64 (a : Int), .int .i64 (m : Int)] 68)).drew).ownsRow B 68 2 v1 k (flat F)) := Lib.hid (by rw [HK.out]; exact hstA.own)
      have HNE : Hid (∀ j u, ([Value.int .i64 (a : Int), .int .i64 (m : Int)] : List Value)[j]? = some u → (((wr.alloc (Obj.cells #[.int .i64 (a : Int), .int .i64 (m : Int)] 68)).alloc (Obj.cells #[.int .i64 (a : Int), .int .i64 (m : Int)] 68)).drew).cell? ((⟨wr.heap.size + 1, 0, none⟩ : Addr).add j) = some u) := Lib.hid (flat_news (w := (wr.alloc (Obj.cells #[.int .i64 (a : Int), .int .i64 (m : Int)] 68)).alloc (Obj.cells #[.int .i64 (a : Int), .int .i64 (m : Int)] 68)) (by simp) rfl)
      have H1 : Hid (∀ u ∈ ([Value.int .i64 (a : Int), .int .i64 (m : Int)] : List Value), u.oneCell' = true) := Lib.hid two_one
      have HAS : Hid ((((wr.alloc (Obj.cells #[.int .i64 (a : Int), .int .i64 (m : Int)] 68)).alloc (Obj.cells #[.int .i64 (a : Int), .int .i64 (m : Int)] 68)).drew).heap.size = wr.heap.size + 1 + 1) := Lib.hid (by show ((wr.alloc _).alloc _).heap.size = _; rw [World.size_alloc, World.size_alloc])
      have H3 : Hid (k + 1 ≤ maxLen) := Lib.hid (by unfold maxLen; omega)
      have H4 : Hid ((k + 1) * 16 ≤ 140737488355328) := Lib.hid (by omega)
      have H5 : Hid (B ≤ (((wr.alloc (Obj.cells #[.int .i64 (a : Int), .int .i64 (m : Int)] 68)).alloc (Obj.cells #[.int .i64 (a : Int), .int .i64 (m : Int)] 68)).drew).heap.size) := Lib.hid (by rw [HAS.out]; omega)
      have HKE : Hid (∀ w3, (((wr.alloc (Obj.cells #[.int .i64 (a : Int), .int .i64 (m : Int)] 68)).alloc (Obj.cells #[.int .i64 (a : Int), .int .i64 (m : Int)] 68)).drew).grownBy w3 v1.ownBlock →
          (w3.cell? ⟨S, 4, none⟩ = some v1 ∧ w3.frozen? ⟨S, 4, none⟩ = false ∧ w3.cell? ⟨wr.heap.size, 0, none⟩ = some (.int .i64 (a : Int)) ∧ w3.cell? ⟨wr.heap.size, 1, none⟩ = some (.int .i64 (m : Int))) ∧
          SS w3 S G (.slice (some ⟨b, off, none⟩) l c) W (cf F) (lf (cf F) W) ex v1 ∧ wr.heap.size < w3.heap.size) := Lib.hid (fun w3 hg => by
        have hn : ∀ j, (j = S ∨ j = G ∨ j = wr.heap.size) → w3.heap[j]? = (((wr.alloc (Obj.cells #[.int .i64 (a : Int), .int .i64 (m : Int)] 68)).alloc (Obj.cells #[.int .i64 (a : Int), .int .i64 (m : Int)] 68)).drew).heap[j]? := fun j hj => by
          refine hg.block j ?_ ?_
          · rw [HAS.out]; rcases hj with h | h | h <;> omega
          · intro e
            have := own_ge HST2.out.own e.symm
            have h7 := HST2.out.hS
            have h8 := HST2.out.hG
            rcases hj with h | h | h <;> omega
        have hs3 := hstA.ss.of_blocks (hn S (.inl rfl)) (hn G (.inr (.inl rfl))) hg.size
        have hz := hn wr.heap.size (.inr (.inr rfl))
        refine ⟨⟨hs3.c4, hs3.f4, (World.cell?_of_block hz).trans ?_, (World.cell?_of_block hz).trans ?_⟩, hs3, ?_⟩
        · show ((wr.alloc _).alloc _).cell? _ = _
          simp
        · show ((wr.alloc _).alloc _).cell? _ = _
          simp
        · have := hg.size; rw [HAS.out] at this; omega)
      clear hPW hss hpb hAB hQB hstA
      obtain ⟨i0, hi, hz0, hz1, hz2⟩ := info_parts info68
      go_upto_region 9 with fail
      go_cut [] from 60 to 69 (fun wx => Hid (∃ gg cap : Nat, SS wx S G (.slice (some ⟨b, off, none⟩) l c) W (cf F) (lf (cf F) W) ex (.slice (some ⟨gg, 0, none⟩) (k + 1) cap) ∧ wx.ownsRow B 68 2 (.slice (some ⟨gg, 0, none⟩) (k + 1) cap) (k + 1) (flat F ++ [.int .i64 (a : Int), .int .i64 (m : Int)]) ∧ (v1.ownBlock = some gg ∨ gg = wr.heap.size + 1 + 1) ∧ FrmV wr wx S G v1 ∧ wx.cell? ⟨wr.heap.size, 0, none⟩ = some (.int .i64 (a : Int)) ∧ wx.cell? ⟨wr.heap.size, 1, none⟩ = some (.int .i64 (m : Int)) ∧ wr.heap.size + 1 + 1 ≤ wx.heap.size))
      case first => as_aux_lemma =>
        go_region_law
          ((refine step_append_lies _ (by rfl) _ _ _ (by rfl) B 68 i0 _ 2 16 Try.underlying62 hi hz0 hz1 hz2 rfl (by omega) v1 k (flat F) (by rfl) HOWN.out ⟨wr.heap.size + 1, 0, none⟩ 1 1 [.int .i64 (a : Int), .int .i64 (m : Int)] (by rfl) (by rfl) HNE.out H1.out (by omega) H3.out H4.out H5.out (wr.heap.size + 1 + 1) HAS.out ?_; intro gg cap w3 hown' hgrow hat hlt3; obtain ⟨⟨ka, kb, kc, kd⟩, hs3, hps⟩ := HKE.out w3 hgrow; have ke := (World.cell?_setCell_other w3 ⟨S, 4, none⟩ ⟨wr.heap.size, 0, none⟩ (.slice (some ⟨gg, 0, none⟩) (k + 1) cap) (bne' (by omega))).trans kc; have kf := (World.cell?_setCell_other w3 ⟨S, 4, none⟩ ⟨wr.heap.size, 1, none⟩ (.slice (some ⟨gg, 0, none⟩) (k + 1) cap) (bne' (by omega))).trans kd; have HO3 := Lib.hid hown'; have HG3 := Lib.hid hgrow; have HA3 := Lib.hid hat; have HS3 := Lib.hid hs3; clear hown' hgrow hat hs3))
        all_goals
          go_wp2_with fail
          go_meet
          refine Lib.hid ⟨gg, cap, HS3.out.setV _, own_blocks HO3.out (fun j hj => set_heap (fun e => ?_)), HA3.out, ?_, ke, kf, by rw [set_size]; have := HG3.out.size; rw [HAS.out] at this; exact this⟩
          · have h5 := (own_ge HO3.out hj).1
            have h6 : j = S := e
            omega
          · exact (HFA.out.trans (OB.refl _ _) (FrmV.of_grown HG3.out)).set (.inl rfl) _
      case rest =>
      obtain ⟨gg, cap, hs4, ho4, hat4, hf4, k0, k1, hsz4⟩ := hcut.out
      clear hcut u4 uf u0 u1 p4 q4 c4 f4 c0 g1
      obtain ⟨w4, hw4⟩ : ∃ w4, w4 = wc := ⟨_, rfl⟩
      subst hw4
      obtain ⟨F1, hF1⟩ : ∃ F1, F ++ [((a : Int), (m : Int))] = F1 := ⟨_, rfl⟩
      have HF1 := Lib.hid hF1
      have HL1 : Hid (F1.length = k + 1) := Lib.hid (by rw [← hF1, List.length_append, HK.out]; rfl)
      have HFL1 : Hid (flat F1 = flat F ++ [.int .i64 (a : Int), .int .i64 (m : Int)]) := Lib.hid (by rw [← hF1, flat_append]; rfl)
      have HO4 := Lib.hid ho4
      have HF4 := Lib.hid hf4
      have HOB4 : Hid (OB wr v1 (.slice (some ⟨gg, 0, none⟩) (k + 1) cap)) := Lib.hid (fun j hj => by
        have hj2 : gg = j := by injection hj
        rcases hat4 with h | h
        · left; rw [h, hj2]
        · right; omega)
      have hgP : gg ≠ wr.heap.size := by
        rcases hat4 with h | h
        · have := own_ge HST2.out.own h; omega
        · omega
      have HMU : Hid (Calls Try.prog 79 #[.pointer (some ⟨S, 0, none⟩), .agg #[.int .i64 (a : Int), .int .i64 (m : Int)], .int .i64 1] w4 fun e w' => (∃ o : Bool, e = .returned (.bool o) ∧ onB (cf F) a m W = o) ∧ ST w' S G B (.slice (some ⟨b, off, none⟩) l c) W F1 ex (.slice (some ⟨gg, 0, none⟩) (k + 1) cap) ∧ Frm w4 w' S G) := Lib.hid (by
        refine (mark_up S G a m W _ _ (cf F) ex w4 hlt (by omega) hW (fun j _ => cf_bd (by rw [← HK.out]; omega) j) hs4).mono ?_
        rintro e w' ⟨⟨o, rfl, ho⟩, hs5, hf5⟩
        have hs5' := hs5.congr (g := cf F1) (fun j _ => by rw [← hF1]; exact cf_add F a m j)
        rw [lf_congr W (g := cf F1) (fun j _ => by rw [← hF1]; exact cf_add F a m j)] at hs5'
        refine ⟨⟨o, rfl, ho.symm⟩, ⟨hs5', ?_, HST2.out.hS, HST2.out.hG, ?_⟩, hf5⟩
        · rw [HFL1.out, HL1.out]
          exact own_blocks ho4 (fun j hj => by
            have h5 := own_ge ho4 hj
            have h6 := HST2.out.hS
            have h7 := HST2.out.hG
            exact hf5.block j h5.2 (by omega) (by omega))
        · have := HST2.out.hB; have := hf5.size; omega)
      clear hF1 hs4 ho4 hf4 hat4
      go_wp2_with fail
      refine HMU.out.mono ?_; rintro e w5 ⟨⟨o, rfl, ho⟩, hst5, hf5⟩
      have HON := Lib.hid ho
      have HST5 := Lib.hid hst5
      have HF5 := Lib.hid hf5
      have HP5 : Hid (w5.cell? ⟨wr.heap.size, 0, none⟩ = some (.int .i64 (a : Int)) ∧ w5.cell? ⟨wr.heap.size, 1, none⟩ = some (.int .i64 (m : Int))) := Lib.hid (by
        have hb5 := hf5.block wr.heap.size (by omega) (by omega) (by omega)
        exact ⟨(World.cell?_of_block hb5).trans k0, (World.cell?_of_block hb5).trans k1⟩)
      have HOB5 : Hid (OB w v (.slice (some ⟨gg, 0, none⟩) (k + 1) cap)) := Lib.hid (HOB1.out.trans hfr.out.size HOB4.out)
      have HFW5 : Hid (FrmV w w5 S G v) := Lib.hid ((hfr.out.trans HOB1.out HF4.out).trans HOB5.out (hf5.V _))
      have HRW5 := Lib.hid (HFW5.out.row HST.out.own h0S h0G (show B0 ≤ B by omega) (show B0 ≤ w.heap.size by omega) HR.out)
      have c3' := hst5.ss.c3
      have hsz5 : wr.heap.size + 1 + 1 ≤ w5.heap.size := Nat.le_trans hsz4 hf5.size
      have HCH := Lib.hid (HIH.out (k + 1) F1 _ w5 HL1.out.symm (by omega) HD2.out hst5 HRW5.out)
      rw [show ((k + 1 : Nat) : Int) = (k : Int) + 1 from rfl] at HCH
      obtain ⟨P5a, P5b⟩ := HP5.out
      clear hst5 hf5 ho k0 k1
      cases o with
      | true =>
        have HGC : Hid (g a = srch ex W M' F1) := Lib.hid (by rw [HGA.out, HON.out, HF1.out, if_pos (by simp)])
        obtain ⟨r, hr⟩ : ∃ r, srch ex W M' F1 = r := ⟨_, rfl⟩
        rw [hr] at HCH HGC
        clear hr
        go_wp2_with fail
        refine HCH.out.mono ?_; rintro e w6 ⟨rfl, ⟨v6, hst6, hob6⟩, hf6⟩
        have HOB6 : Hid (OB w v v6) := Lib.hid (HOB5.out.trans HFW5.out.size hob6)
        have HFW6 : Hid (FrmV w w6 S G v) := Lib.hid (HFW5.out.trans HOB5.out hf6)
        have HP6 : Hid (w6.cell? ⟨wr.heap.size, 0, none⟩ = some (.int .i64 (a : Int)) ∧ w6.cell? ⟨wr.heap.size, 1, none⟩ = some (.int .i64 (m : Int))) := Lib.hid (by
          have hb6 := hf6.block wr.heap.size (by omega) (by omega) (by omega) (fun e => by injection e with e; exact hgP e)
          exact ⟨(World.cell?_of_block hb6).trans HP5.out.1, (World.cell?_of_block hb6).trans HP5.out.2⟩)
        have HST6 := Lib.hid hst6
        clear hst6 hob6 hf6
        cases r with
        | some F' =>
          have HS3 : Hid (srch ex W (m :: M') F = some F') := Lib.hid (by rw [HS2.out]; exact fst_found' hno.out HGC.out m hlt)
          go_wp2_with fail
          go_ret
          rw [HS3.out]
          exact ⟨rfl, ⟨v6, HST6.out, HOB6.out⟩, HFW6.out⟩
        | none =>
          have HGN := HGC
          have HST7 : Hid (ST w6 S G B (.slice (some ⟨b, off, none⟩) l c) W F1 ex v6) := Lib.hid HST6.out
          obtain ⟨n0, n1⟩ := HP6.out
          have hstt := HST7.out
          obtain ⟨gt, capt, rfl, hgt1, hgt2⟩ := hstt.own.form (by rw [HL1.out]; omega)
          rw [HL1.out] at hstt
          have HSTT := Lib.hid hstt
          have HMD := Lib.hid (mark_dn S G a m W _ _ (cf F1) _ w6 hlt (by omega) hW (fun j _ => cf_bd (by rw [HL1.out]; omega) j) (fun j _ hc => by rw [← HF1.out]; exact cf_on F a m j hc) hstt.ss)
          clear hstt
          go_wp2_with fail
          refine HMD.out.mono ?_; rintro e w7 ⟨⟨o2, rfl⟩, hs7, hf7⟩
          have hs7' := hs7.congr (g := cf F) (fun j _ => by rw [← HF1.out]; exact cf_sub F a m j)
          rw [lf_congr W (g := cf F) (fun j _ => by rw [← HF1.out]; exact cf_sub F a m j)] at hs7'
          have HS7 := Lib.hid hs7'
          have HF7 := Lib.hid hf7
          have r4 := hs7'.c4
          have r5 := hs7'.f4
          have hown7 := own_blocks HSTT.out.own (w' := w7) (fun j hj => by
            have h5 := own_ge HSTT.out.own hj
            have h6 := HSTT.out.hS
            have h7 := HSTT.out.hG
            exact hf7.block j h5.2 (by omega) (by omega))
          have hcp := own_cap2 (by rw [← HL1.out] at hown7; exact hown7)
          have HOC : Hid (w7.ownsRow B 68 2 (.slice (some ⟨gt, 0, none⟩) k capt) k (flat F)) := Lib.hid (by
            have h8 : w7.ownsRow B 68 2 (.slice (some ⟨gt, 0, none⟩) (k + 1) capt) (k + 1) (flat F1) := by rw [HL1.out] at hown7; exact hown7
            have h9 := own_cut h8 (show k ≤ k + 1 by omega)
            rw [← HF1.out, List.take_append_of_le_length (by rw [HK.out]; exact Nat.le_refl _), List.take_of_length_le (by rw [HK.out]; exact Nat.le_refl _)] at h9
            exact h9)
          obtain ⟨hcp1, hcp2⟩ := hcp
          have hcpm : capt ≤ 9223372036854775807 := by unfold maxLen at hcp2; exact hcp2
          have hkc : (k : Int) ≤ (capt : Int) := by have := HL1.out; omega
          have HW8 : Hid (ST (w7.setCell ⟨S, 4, none⟩ (.slice (some ⟨gt, 0, none⟩) k capt)) S G B (.slice (some ⟨b, off, none⟩) l c) W F ex (.slice (some ⟨gt, 0, none⟩) k capt)) := Lib.hid ⟨HS7.out.setV _, by
            rw [← HK.out]
            exact own_blocks HOC.out (fun j hj => set_heap (fun e => by
              have h5 := (own_ge HOC.out hj).1
              have h6 := HSTT.out.hS
              have h7 : j = S := e
              omega)), HSTT.out.hS, HSTT.out.hG, by rw [set_size]; exact Nat.le_trans HSTT.out.hB HF7.out.size⟩
          have HO8 : Hid (OB w v (.slice (some ⟨gt, 0, none⟩) k capt)) := Lib.hid (fun j hj => HOB6.out j hj)
          have HF8 : Hid (FrmV w (w7.setCell ⟨S, 4, none⟩ (.slice (some ⟨gt, 0, none⟩) k capt)) S G v) := Lib.hid ((HFW6.out.trans HOB6.out (HF7.out.V _)).set (.inl rfl) _)
          clear hs7 hs7' hf7 hown7 hcp2
          go_wp2_with fail
          go_roundw
          case rel => exact ⟨a + 1, by omega, by go_num, Lib.hid (fst_next' hno.out HGN.out), Lib.hid ⟨_, HW8.out, HO8.out⟩, HF8⟩
          case measure => simp [intOf]; omega
      | false =>
        cases ex with
        | false =>
          have HGC : Hid (g a = srch false W M' F1) := Lib.hid (by rw [HGA.out, HON.out, HF1.out, if_pos (by simp)])
          obtain ⟨r, hr⟩ : ∃ r, srch false W M' F1 = r := ⟨_, rfl⟩
          rw [hr] at HCH HGC
          clear hr
          go_wp2_with fail
          refine HCH.out.mono ?_; rintro e w6 ⟨rfl, ⟨v6, hst6, hob6⟩, hf6⟩
          have HOB6 : Hid (OB w v v6) := Lib.hid (HOB5.out.trans HFW5.out.size hob6)
          have HFW6 : Hid (FrmV w w6 S G v) := Lib.hid (HFW5.out.trans HOB5.out hf6)
          have HP6 : Hid (w6.cell? ⟨wr.heap.size, 0, none⟩ = some (.int .i64 (a : Int)) ∧ w6.cell? ⟨wr.heap.size, 1, none⟩ = some (.int .i64 (m : Int))) := Lib.hid (by
            have hb6 := hf6.block wr.heap.size (by omega) (by omega) (by omega) (fun e => by injection e with e; exact hgP e)
            exact ⟨(World.cell?_of_block hb6).trans HP5.out.1, (World.cell?_of_block hb6).trans HP5.out.2⟩)
          have HST6 := Lib.hid hst6
          clear hst6 hob6 hf6
          cases r with
          | some F' =>
            have HS3 : Hid (srch false W (m :: M') F = some F') := Lib.hid (by rw [HS2.out]; exact fst_found' hno.out HGC.out m hlt)
            go_wp2_with fail
            go_ret
            rw [HS3.out]
            exact ⟨rfl, ⟨v6, HST6.out, HOB6.out⟩, HFW6.out⟩
          | none =>
            have HGN := HGC
            have HST7 : Hid (ST w6 S G B (.slice (some ⟨b, off, none⟩) l c) W F1 false v6) := Lib.hid HST6.out
            obtain ⟨n0, n1⟩ := HP6.out
            have hstt := HST7.out
            obtain ⟨gt, capt, rfl, hgt1, hgt2⟩ := hstt.own.form (by rw [HL1.out]; omega)
            rw [HL1.out] at hstt
            have HSTT := Lib.hid hstt
            have HMD := Lib.hid (mark_dn S G a m W _ _ (cf F1) _ w6 hlt (by omega) hW (fun j _ => cf_bd (by rw [HL1.out]; omega) j) (fun j _ hc => by rw [← HF1.out]; exact cf_on F a m j hc) hstt.ss)
            clear hstt
            go_wp2_with fail
            refine HMD.out.mono ?_; rintro e w7 ⟨⟨o2, rfl⟩, hs7, hf7⟩
            have hs7' := hs7.congr (g := cf F) (fun j _ => by rw [← HF1.out]; exact cf_sub F a m j)
            rw [lf_congr W (g := cf F) (fun j _ => by rw [← HF1.out]; exact cf_sub F a m j)] at hs7'
            have HS7 := Lib.hid hs7'
            have HF7 := Lib.hid hf7
            have r4 := hs7'.c4
            have r5 := hs7'.f4
            have hown7 := own_blocks HSTT.out.own (w' := w7) (fun j hj => by
              have h5 := own_ge HSTT.out.own hj
              have h6 := HSTT.out.hS
              have h7 := HSTT.out.hG
              exact hf7.block j h5.2 (by omega) (by omega))
            have hcp := own_cap2 (by rw [← HL1.out] at hown7; exact hown7)
            have HOC : Hid (w7.ownsRow B 68 2 (.slice (some ⟨gt, 0, none⟩) k capt) k (flat F)) := Lib.hid (by
              have h8 : w7.ownsRow B 68 2 (.slice (some ⟨gt, 0, none⟩) (k + 1) capt) (k + 1) (flat F1) := by rw [HL1.out] at hown7; exact hown7
              have h9 := own_cut h8 (show k ≤ k + 1 by omega)
              rw [← HF1.out, List.take_append_of_le_length (by rw [HK.out]; exact Nat.le_refl _), List.take_of_length_le (by rw [HK.out]; exact Nat.le_refl _)] at h9
              exact h9)
            obtain ⟨hcp1, hcp2⟩ := hcp
            have hcpm : capt ≤ 9223372036854775807 := by unfold maxLen at hcp2; exact hcp2
            have hkc : (k : Int) ≤ (capt : Int) := by have := HL1.out; omega
            have HW8 : Hid (ST (w7.setCell ⟨S, 4, none⟩ (.slice (some ⟨gt, 0, none⟩) k capt)) S G B (.slice (some ⟨b, off, none⟩) l c) W F false (.slice (some ⟨gt, 0, none⟩) k capt)) := Lib.hid ⟨HS7.out.setV _, by
              rw [← HK.out]
              exact own_blocks HOC.out (fun j hj => set_heap (fun e => by
                have h5 := (own_ge HOC.out hj).1
                have h6 := HSTT.out.hS
                have h7 : j = S := e
                omega)), HSTT.out.hS, HSTT.out.hG, by rw [set_size]; exact Nat.le_trans HSTT.out.hB HF7.out.size⟩
            have HO8 : Hid (OB w v (.slice (some ⟨gt, 0, none⟩) k capt)) := Lib.hid (fun j hj => HOB6.out j hj)
            have HF8 : Hid (FrmV w (w7.setCell ⟨S, 4, none⟩ (.slice (some ⟨gt, 0, none⟩) k capt)) S G v) := Lib.hid ((HFW6.out.trans HOB6.out (HF7.out.V _)).set (.inl rfl) _)
            clear hs7 hs7' hf7 hown7 hcp2
            go_wp2_with fail
            go_roundw
            case rel => exact ⟨a + 1, by omega, by go_num, Lib.hid (fst_next' hno.out HGN.out), Lib.hid ⟨_, HW8.out, HO8.out⟩, HF8⟩
            case measure => simp [intOf]; omega
        | true =>
          have HGN : Hid (g a = none) := Lib.hid (by rw [HGA.out, HON.out, if_neg (by simp)])
          obtain ⟨v6, hv6⟩ : ∃ v6 : Value, Value.slice (some ⟨gg, 0, none⟩) (k + 1) cap = v6 := ⟨_, rfl⟩
          have HST7 := HST5
          have HOB6 := HOB5
          rw [hv6] at HST7 HOB6
          clear hv6
          obtain ⟨n0, n1⟩ := HP5.out
          have hstt := HST7.out
          obtain ⟨gt, capt, rfl, hgt1, hgt2⟩ := hstt.own.form (by rw [HL1.out]; omega)
          rw [HL1.out] at hstt
          have HSTT := Lib.hid hstt
          have HMD := Lib.hid (mark_dn S G a m W _ _ (cf F1) _ w5 hlt (by omega) hW (fun j _ => cf_bd (by rw [HL1.out]; omega) j) (fun j _ hc => by rw [← HF1.out]; exact cf_on F a m j hc) hstt.ss)
          clear hstt
          go_wp2_with fail
          refine HMD.out.mono ?_; rintro e w7 ⟨⟨o2, rfl⟩, hs7, hf7⟩
          have hs7' := hs7.congr (g := cf F) (fun j _ => by rw [← HF1.out]; exact cf_sub F a m j)
          rw [lf_congr W (g := cf F) (fun j _ => by rw [← HF1.out]; exact cf_sub F a m j)] at hs7'
          have HS7 := Lib.hid hs7'
          have HF7 := Lib.hid hf7
          have r4 := hs7'.c4
          have r5 := hs7'.f4
          have hown7 := own_blocks HSTT.out.own (w' := w7) (fun j hj => by
            have h5 := own_ge HSTT.out.own hj
            have h6 := HSTT.out.hS
            have h7 := HSTT.out.hG
            exact hf7.block j h5.2 (by omega) (by omega))
          have hcp := own_cap2 (by rw [← HL1.out] at hown7; exact hown7)
          have HOC : Hid (w7.ownsRow B 68 2 (.slice (some ⟨gt, 0, none⟩) k capt) k (flat F)) := Lib.hid (by
            have h8 : w7.ownsRow B 68 2 (.slice (some ⟨gt, 0, none⟩) (k + 1) capt) (k + 1) (flat F1) := by rw [HL1.out] at hown7; exact hown7
            have h9 := own_cut h8 (show k ≤ k + 1 by omega)
            rw [← HF1.out, List.take_append_of_le_length (by rw [HK.out]; exact Nat.le_refl _), List.take_of_length_le (by rw [HK.out]; exact Nat.le_refl _)] at h9
            exact h9)
          obtain ⟨hcp1, hcp2⟩ := hcp
          have hcpm : capt ≤ 9223372036854775807 := by unfold maxLen at hcp2; exact hcp2
          have hkc : (k : Int) ≤ (capt : Int) := by have := HL1.out; omega
          have HW8 : Hid (ST (w7.setCell ⟨S, 4, none⟩ (.slice (some ⟨gt, 0, none⟩) k capt)) S G B (.slice (some ⟨b, off, none⟩) l c) W F true (.slice (some ⟨gt, 0, none⟩) k capt)) := Lib.hid ⟨HS7.out.setV _, by
            rw [← HK.out]
            exact own_blocks HOC.out (fun j hj => set_heap (fun e => by
              have h5 := (own_ge HOC.out hj).1
              have h6 := HSTT.out.hS
              have h7 : j = S := e
              omega)), HSTT.out.hS, HSTT.out.hG, by rw [set_size]; exact Nat.le_trans HSTT.out.hB HF7.out.size⟩
          have HO8 : Hid (OB w v (.slice (some ⟨gt, 0, none⟩) k capt)) := Lib.hid (fun j hj => HOB6.out j hj)
          have HF8 : Hid (FrmV w (w7.setCell ⟨S, 4, none⟩ (.slice (some ⟨gt, 0, none⟩) k capt)) S G v) := Lib.hid ((HFW5.out.trans HOB6.out (HF7.out.V _)).set (.inl rfl) _)
          clear hs7 hs7' hf7 hown7 hcp2
          go_wp2_with fail
          go_roundw
          case rel => exact ⟨a + 1, by omega, by go_num, Lib.hid (fst_next' hno.out HGN.out), Lib.hid ⟨_, HW8.out, HO8.out⟩, HF8⟩
          case measure => simp [intOf]; omega
    · have ham : a = m := by omega
      subst ham
      have HS3 : Hid (srch ex W (a :: M') F = none) := Lib.hid (by rw [HS2.out, hno.out])
      go_wp2_with fail
      go_ret
      rw [HS3.out]
      exact ⟨rfl, ⟨_, HST2.out, HOB1.out⟩, hfr.out⟩
end Go.Proofs.Ytmmgidhaakkaoaa
