/- The reference's Choose and Fit: the walks. -/
import Derived.Test.YtmmgidhaakkaoaaRf2
namespace Go.Proofs.Ytmmgidhaakkaoaa
open Go Go.RowKit

set_option maxRecDepth 100000 in
set_option maxHeartbeats 4000000 in
theorem rChoose_any (b off l c : Nat) (L : List Int) (w : World) (h : IRow w w.heap.size (some ⟨b, off, none⟩) l L) (hlc : l ≤ c) (hc : c ≤ 9223372036854775807) (hmd : mdB L = true) :
    Calls Try.prog 44 #[.slice (some ⟨b, off, none⟩) l c] w (GivesPE w (chL false L) (chE false L)) := by
  obtain ⟨m1, m2, m3, m4⟩ := mdB_yes hmd
  have hl := h.1
  have hl1 : 1 ≤ l := by omega
  have hl7 : l ≤ 7 := by omega
  have HL := Lib.hid hl
  have HR := Lib.hid h
  obtain ⟨W, hW⟩ : ∃ W, wh (mods0 L) 1 = W := ⟨_, rfl⟩
  obtain ⟨hw1, hw2⟩ := whR_ok (mods0 L) 1 (by omega) (by omega) (mods_mods0 m3) m4
  rw [hW] at m4 hw1 hw2
  have HWC : Hid (∀ w' A' c' n', Row w' w'.heap.size A' n' (mods0 L) → n' ≤ 7 → Calls Try.prog 22 #[.slice A' n' c'] w' fun e w'' => e = .returned (.int .i64 (W : Int)) ∧ Below w'.heap.size w' w'') := Lib.hid (fun w' A' c' n' hr hn => by
    have := rwhole_any A' n' c' (mods0 L) w' hr (fun p hp => by
      unfold mods0 at hp
      obtain ⟨z, hz, rfl⟩ := List.mem_map.1 hp
      have := m3 z hz
      show (-9223372036854775808 : Int) ≤ 0 ∧ (0 : Int) ≤ 9223372036854775807 ∧ -9223372036854775808 ≤ z ∧ z ≤ 9223372036854775807
      omega) (by omega)
    rwa [hw1] at this)
  have HNT := Lib.hid (nts_nat1 m3)
  have HML : Hid ((nat1 L).length = l) := Lib.hid (by unfold nat1; rw [List.length_map, hl])
  have HM12 : Hid (∀ x ∈ nat1 L, 1 ≤ x ∧ x ≤ 12) := Lib.hid (fun x hx => by
    unfold nat1 at hx
    obtain ⟨z, hz, rfl⟩ := List.mem_map.1 hx
    have := m3 z hz
    omega)
  obtain ⟨res, hres⟩ : ∃ res, sRes false L = res := ⟨_, rfl⟩
  have HRES : Hid (srch false W (nat1 L) [] = res) := Lib.hid (by rw [← hres, ← hW]; rfl)
  have e1 : chL false L = res.getD [] := by unfold chL; rw [if_pos hmd, hres]
  have e2 : chE false L = if res.isSome = true then 0 else 4 := by unfold chE; rw [if_pos hmd, hres]
  rw [e1, e2]
  obtain ⟨E, hE⟩ : ∃ E : Int, (if res.isSome = true then (0 : Int) else 4) = E := ⟨_, rfl⟩
  rw [hE]
  have HE0 := Lib.hid hE
  clear h hmd m1 m2 m3 hl hW hw1 hres e1 e2 hE
  obtain ⟨i0, hi, hz0, hz1, hz2⟩ := info_parts infoP
  go_enter Try.func44, Try.ntmps44
  go_wp2_with fail
  go_loopw [4, 12] (fun v z wr => ∃ k : Nat, k ≤ l ∧ Hid (PRel 29 w (mods0 (L.take k)) v wr) ∧ z = .int .i64 (k : Int)) (fun _ z _ => l - (intOf z).toNat)
  case atStart => exact ⟨0, by omega, Lib.hid ⟨World.ownsRow_nil .., Below.refl _ _⟩, rfl⟩
  case round =>
    obtain ⟨k, hk, hrl, rfl⟩ := hrel
    by_cases hlt : k < l
    · as_aux_lemma =>
        obtain ⟨b1, off1, x', hx', hA1, hB, g1⟩ := (HR.out.below hrl.out.2).at_ hlt
        injection hA1 with hA1
        injection hA1 with hA1a hA2a
        subst hA1a hA2a
        have hlti : (k : Int) < (l : Int) := by omega
        have HTK := Lib.hid (mods0_take hx')
        have HKL : Hid ((mods0 (L.take k)).length = k) := Lib.hid (by rw [mods0_len, List.length_take]; have := HL.out; omega)
        obtain ⟨A3, c3, hv3, _, _⟩ := hrl.out.form
        rw [HKL.out] at hv3
        have hown : (wr.alloc (Obj.cells #[.int .i64 0, .int .i64 x'] 29)).ownsRow w.heap.size 29 2 u4 k (flat (mods0 (L.take k))) := by
          have h5 := hrl.out.1.alloc (Obj.cells #[.int .i64 0, .int .i64 x'] 29)
          rw [HKL.out] at h5
          exact h5
        have HOW := Lib.hid hown
        have HNE := Lib.hid (flat_news (w := wr.alloc (Obj.cells #[.int .i64 0, .int .i64 x'] 29)) (w0 := wr) (x := 0) (m := x') (g := wr.heap.size) rfl rfl)
        have H1 := Lib.hid (two_one (x := 0) (m := x'))
        have H3 : Hid (k + 1 ≤ maxLen) := Lib.hid (by unfold maxLen; omega)
        have H4 : Hid ((k + 1) * 16 ≤ 140737488355328) := Lib.hid (by omega)
        have H5 : Hid (w.heap.size ≤ (wr.alloc (Obj.cells #[.int .i64 0, .int .i64 x'] 29)).heap.size) := Lib.hid (by have := hrl.out.2.size; simp; omega)
        have HRL := hrl
        subst hv3
        clear hown hx' hrl
        go_wp2_with (at_builtin; refine wpList_append_own _ rfl _ _ 22 rfl w.heap.size 29 i0 (.agg #[.int .i64 0, .int .i64 0]) 2 16 Try.underlying22 hi hz0 hz1 hz2 rfl (by decide) _ k (flat (mods0 (L.take k))) rfl HOW.out ⟨wr.heap.size, 0, none⟩ 1 1 [.int .i64 0, .int .i64 x'] rfl rfl HNE.out H1.out H3.out H4.out H5.out ?_; intro v' w3 hown' hgrow _)
        have HN : Hid (PRel 29 w (mods0 (L.take (k + 1))) v' w3) := Lib.hid (by
          rw [HTK.out]
          exact HRL.out.next ((Below.refl _ _).alloc (Nat.le_refl _) _) (by rw [HKL.out]; exact hown') hgrow)
        clear hown' hgrow
        go_wp2_with fail
        go_roundw
        case rel => exact ⟨k + 1, by omega, HN, by go_num⟩
        case measure => simp [intOf]; omega
    · have hkl : k = l := by omega
      have hT : L.take k = L := List.take_of_length_le (by rw [hkl, ← HL.out]; exact Nat.le_refl _)
      rw [hT] at hrl
      obtain ⟨A', c', rfl, hrow, _⟩ := hrl.out.form
      have HBR := Lib.hid hrl.out.2
      have HWC2 := Lib.hid (HWC.out wr A' c' (mods0 L).length hrow (by rw [mods0_len, ← HL.out]; exact hl7))
      clear hrow hT hrl
      go_wp2_with fail
      refine HWC2.out.mono ?_; rintro e w2 ⟨rfl, hb2⟩
      have HB2 := Lib.hid (bt HBR.out hb2)
      clear hb2
      obtain ⟨G, hG⟩ : ∃ G, w2.heap.size = G := ⟨_, rfl⟩
      obtain ⟨A3, hA3⟩ : ∃ A3, w2.alloc (Obj.cells (madeCells #[Value.int .i64 0] W) 3) = A3 := ⟨_, rfl⟩
      have hmk := run_make_row' (P := Try.prog) 42 3 (.int .i64 0) 8 Try.underlying42 infoI rfl .i64 .i64 W (by omega) (by omega) w2
      rw [hA3, hG] at hmk
      have HCH : Hid (Calls Try.prog 60 #[.slice (some ⟨b, off, none⟩) l c, .slice none 0 0, .slice (some ⟨G, 0, none⟩) W W, .int .i64 (W : Int)] A3 fun e w' =>
          (∃ A2 n2 c2, e = .returned (.slice A2 n2 c2) ∧ RRes w' G res A2 n2 c2) ∧ Below w.heap.size w w') := Lib.hid (by
        have hs2 := HB2.out.size
        have hbA : Below w.heap.size w A3 := by rw [← hA3]; exact HB2.out.alloc (by omega) _
        have hown : Own A3 G (some ⟨G, 0, none⟩) W W (tab W (cf [])) := by
          rw [tab_nil, ← hA3, ← hG]; exact own_made (Nat.le_refl _) (by unfold maxLen; omega)
        have h5 := rchoose_any G w.heap.size W b off l c (nat1 L) HML.out.symm hl1 hl7 HM12.out m4 hlc hc (by omega) (nat1 L) 0 [] none 0 A3 rfl (Nat.zero_le _) (Nat.le_refl _) (by omega) rfl
          ⟨row_nil, fun a h => by cases h⟩ (fun _ => ⟨rfl, rfl⟩) hown (by rw [HNT.out]; exact HR.out.below hbA)
        rw [cf_nil, HRES.out] at h5
        exact h5.mono (fun e w' h6 => ⟨h6.1, hbA.trans (h6.2.2.below (by omega) (by omega) hbA.size)⟩))
      have HA3 := Lib.hid hA3
      have HGG := Lib.hid hG
      clear hA3 hG
      go_wp2_with fail
      refine HCH.out.mono ?_; rintro e w4 ⟨⟨A2, n2, c2, rfl, hr4⟩, hb4⟩
      have HR4 := Lib.hid hr4
      have HB4 := Lib.hid hb4
      clear hr4 hb4
      cases res with
      | none =>
        have HE : Hid (E = 4) := Lib.hid (by rw [← HE0.out]; rfl)
        obtain ⟨rfl, rfl, rfl⟩ : A2 = none ∧ n2 = 0 ∧ c2 = 0 := HR4.out
        go_wp2_with fail
        go_ret2
        rw [HE.out]
        exact ⟨none, 0, 0, rfl, row_nil, fun _ => rfl, HB4.out⟩
      | some D =>
        have HE : Hid (E = 0) := Lib.hid (by rw [← HE0.out]; rfl)
        obtain ⟨a5, rfl⟩ : ∃ a, A2 = some a := HR4.out.1
        go_wp2_with fail
        go_ret2
        rw [HE.out]
        exact ⟨_, _, _, rfl, HR4.out.2.2.1, (fun h => by cases h), HB4.out⟩

set_option maxRecDepth 100000 in
set_option maxHeartbeats 1000000 in
theorem rFit_any (b off l c : Nat) (L : List Int) (w : World) (h : IRow w w.heap.size (some ⟨b, off, none⟩) l L) (hlc : l ≤ c) (hc : c ≤ 9223372036854775807) (hmd : mdB L = true) :
    Calls Try.prog 45 #[.slice (some ⟨b, off, none⟩) l c] w (GivesPE w (chL true L) (chE true L)) := by
  obtain ⟨m1, m2, m3, m4⟩ := mdB_yes hmd
  have hl := h.1
  have hl1 : 1 ≤ l := by omega
  have hl7 : l ≤ 7 := by omega
  have hML : l = (nat1 L).length := by unfold nat1; rw [List.length_map, hl]
  have hM12 : ∀ x ∈ nat1 L, 1 ≤ x ∧ x ≤ 12 := fun x hx => by
    unfold nat1 at hx
    obtain ⟨z, hz, rfl⟩ := List.mem_map.1 hx
    have := m3 z hz
    omega
  obtain ⟨res, hres⟩ : ∃ res, sRes true L = res := ⟨_, rfl⟩
  have e1 : chL true L = res.getD [] := by unfold chL; rw [if_pos hmd, hres]
  have e2 : chE true L = if res.isSome = true then 0 else 4 := by unfold chE; rw [if_pos hmd, hres]
  rw [e1, e2]
  obtain ⟨E, hE⟩ : ∃ E : Int, (if res.isSome = true then (0 : Int) else 4) = E := ⟨_, rfl⟩
  rw [hE]
  have HE0 := Lib.hid hE
  have h5 := rfit_any b off l c (nat1 L) hML hl1 hl7 hM12 hlc hc (nat1 L) 0 [] none 0 w rfl (Nat.zero_le _) (Nat.le_refl _) (by omega) rfl row_nil (fun _ => ⟨rfl, rfl⟩) (fun x hx => by cases hx) (by rw [nts_nat1 m3]; exact h)
  rw [srF_res hmd, hres] at h5
  have HFT := Lib.hid h5
  clear h hmd m1 m2 m3 m4 hl hML hM12 hres e1 e2 hE h5
  go_enter Try.func45, Try.ntmps45
  go_wp2_with fail
  refine HFT.out.mono ?_; rintro e w4 ⟨⟨A2, n2, c2, rfl, hr4⟩, hb4⟩
  have HR4 := Lib.hid hr4
  have HB4 := Lib.hid hb4
  clear hr4 hb4
  cases res with
  | none =>
    have HE : Hid (E = 4) := Lib.hid (by rw [← HE0.out]; rfl)
    obtain ⟨rfl, rfl, rfl⟩ : A2 = none ∧ n2 = 0 ∧ c2 = 0 := HR4.out
    go_wp2_with fail
    go_ret2
    rw [HE.out]
    exact ⟨none, 0, 0, rfl, row_nil, fun _ => rfl, HB4.out⟩
  | some D =>
    have HE : Hid (E = 0) := Lib.hid (by rw [← HE0.out]; rfl)
    obtain ⟨a5, rfl⟩ : ∃ a, A2 = some a := HR4.out.1
    go_wp2_with fail
    go_ret2
    rw [HE.out]
    exact ⟨_, _, _, rfl, HR4.out.2.2, (fun h => by cases h), HB4.out⟩
end Go.Proofs.Ytmmgidhaakkaoaa
