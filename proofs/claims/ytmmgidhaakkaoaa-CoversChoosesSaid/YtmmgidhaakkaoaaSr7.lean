/- covers.choose. -/
import Derived.Test.YtmmgidhaakkaoaaSr6
namespace Go.Proofs.Ytmmgidhaakkaoaa
open Go Go.RowKit

def nat1 (L : List Int) : List Nat := L.map Int.toNat
theorem nts_nat1 {L : List Int} (h : ∀ x ∈ L, 1 ≤ x ∧ x ≤ 12) : nts (nat1 L) = L := by
  unfold nts nat1
  rw [List.map_map]
  conv => rhs; rw [← List.map_id L]
  exact List.map_congr_left (fun x hx => by have := h x hx; simp; omega)
/-- the search at some moduli -/
noncomputable def sRes (ex : Bool) (L : List Int) : Option (List (Int × Int)) := srch ex (wh (mods0 L) 1) (nat1 L) []
theorem mdB_yes {L : List Int} (h : mdB L = true) : 1 ≤ L.length ∧ L.length ≤ 7 ∧ (∀ x ∈ L, 1 ≤ x ∧ x ≤ 12) ∧ wh (mods0 L) 1 ≤ 10080 := of_decide_eq_true h
theorem fst_some' {α : Type} {g : Nat → Option α} {x : α} : ∀ {m : Nat}, fst' m g = some x → ∃ a, a < m ∧ g a = some x
  | 0, h => by cases h
  | m + 1, h => by
    rw [fst'] at h
    cases h2 : fst' m g with
    | some y =>
      rw [h2] at h
      simp only at h
      injection h with h
      subst h
      obtain ⟨a, h1, h3⟩ := fst_some' h2
      exact ⟨a, by omega, h3⟩
    | none => rw [h2] at h; exact ⟨m, by omega, h⟩
theorem srch_len {ex : Bool} {W : Nat} : ∀ {M : List Nat} {F F' : List (Int × Int)}, srch ex W M F = some F' → F'.length = F.length + M.length
  | [], F, F', h => by
    rw [srch] at h
    split at h
    · injection h with h; subst h; rfl
    · cases h
  | m :: M, F, F', h => by
    rw [srch] at h
    split at h
    · cases h
    · obtain ⟨a, _, h2⟩ := fst_some' h
      split at h2
      · have := srch_len h2
        rw [List.length_append] at this
        simp at this ⊢; omega
      · cases h2
theorem cf_nil : ∀ k : Nat, lf (cf []) k = k
  | 0 => rfl
  | k + 1 => by rw [lf, cf_nil k, if_pos (show cf [] k = 0 from rfl)]; push_cast; rfl
theorem mods0_drop {L : List Int} {k : Nat} {x : Int} (h : L[k]? = some x) : mods0 (L.drop k) = (0, x) :: mods0 (L.drop (k + 1)) := by
  obtain ⟨hk, e⟩ := List.getElem?_eq_some_iff.1 h
  rw [List.drop_eq_getElem_cons hk, e]; rfl

theorem tab_nil (v : Nat) : tab v (cf []) = List.replicate v 0 := by
  apply List.ext_getElem?
  intro j
  by_cases hj : j < v
  · rw [tab_at hj]; simp [hj]; rfl
  · rw [List.getElem?_eq_none (by rw [tab_len]; omega), List.getElem?_eq_none (by simp; omega)]

theorem cchoose_no (A : Option Addr) (l c : Nat) (L : List Int) (ex : Bool) (w : World) (h : IRow w w.heap.size A l L) (hl : l ≤ 9223372036854775807) (hmd : mdB L = false) :
    Calls Try.prog 59 #[.slice A l c, .bool ex] w fun e w' => e = .returned (.tuple #[.slice none 0 0, .int .i64 2]) ∧ Below w.heap.size w w' := by
  have HM := Lib.hid (moduli_any A l c L w h hl)
  rw [hmd] at HM
  clear h hmd
  go_enter Try.func59, Try.ntmps59
  go_wp2_with fail
  refine HM.out.mono ?_; rintro e w1 ⟨rfl, hb1⟩
  have HB1 := Lib.hid hb1
  clear hb1
  go_wp2_with fail
  go_ret2
  exact ⟨rfl, HB1.out⟩

set_option maxRecDepth 100000 in
set_option maxHeartbeats 4000000 in
theorem cchoose_yes (A : Option Addr) (l c : Nat) (L : List Int) (ex : Bool) (w : World) (h : IRow w w.heap.size A l L) (hlc : l ≤ c) (hc : c ≤ 9223372036854775807) (hmd : mdB L = true) :
    Calls Try.prog 59 #[.slice A l c, .bool ex] w (GivesPE w ((sRes ex L).getD []) (if (sRes ex L).isSome then 0 else 4)) := by
  have HM := Lib.hid (moduli_any A l c L w h (by omega))
  rw [hmd] at HM
  obtain ⟨m1, m2, m3, m4⟩ := mdB_yes hmd
  have hl := h.1
  have hl1 : 1 ≤ l := by omega
  have hl7 : l ≤ 7 := by omega
  have HL := Lib.hid hl
  have H3 := Lib.hid m3
  obtain ⟨W, hW⟩ : ∃ W, wh (mods0 L) 1 = W := ⟨_, rfl⟩
  have HW := Lib.hid hW
  rw [hW] at m4
  obtain ⟨b, off, rfl⟩ : ∃ b off, A = some ⟨b, off, none⟩ := by
    obtain ⟨b, off, e, _⟩ := h.2 (by omega)
    exact ⟨b, off, e⟩
  have HR := Lib.hid h
  have HNT := Lib.hid (nts_nat1 m3)
  have HML : Hid ((nat1 L).length = l) := Lib.hid (by unfold nat1; rw [List.length_map, hl])
  have HM12 : Hid (∀ x ∈ nat1 L, 1 ≤ x ∧ x ≤ 12) := Lib.hid (fun x hx => by
    unfold nat1 at hx
    obtain ⟨z, hz, rfl⟩ := List.mem_map.1 hx
    have := m3 z hz
    omega)
  obtain ⟨res, hres⟩ : ∃ res, sRes ex L = res := ⟨_, rfl⟩
  have HRES : Hid (srch ex W (nat1 L) [] = res) := Lib.hid (by rw [← hres, ← hW]; rfl)
  rw [hres]
  obtain ⟨E, hE⟩ : ∃ E : Int, (if res.isSome = true then (0 : Int) else 4) = E := ⟨_, rfl⟩
  rw [hE]
  have HE0 := Lib.hid hE
  clear hE
  clear h hmd m1 m2 m3 hl hW hres
  obtain ⟨i0, hi, hz0, hz1, hz2⟩ := info_parts infoP
  go_enter Try.func59, Try.ntmps59
  go_wp2_with fail
  refine HM.out.mono ?_; rintro e w1 ⟨rfl, hb1⟩
  have HB1 := Lib.hid hb1
  clear hb1
  go_wp2_with fail
  go_loopw [7, 22] (fun o z wr => ∃ k v : Nat, k ≤ l ∧ 1 ≤ v ∧ v ≤ 10080 ∧ Hid (wh (mods0 L) 1 = wh (mods0 (L.drop k)) v) ∧ o = .int .i64 (v : Int) ∧ z = .int .i64 (k : Int) ∧ Hid (Below (w1.heap.size + 1) (w1.alloc (Obj.cells #[.slice (some ⟨b, off, none⟩) l c, .slice none 0 0, .int .i64 0, .bool ex, .slice none 0 0] 84)) wr)) (fun _ z _ => l - (intOf z).toNat)
  case atStart => exact ⟨0, 1, by omega, by omega, by omega, Lib.hid rfl, rfl, rfl, Lib.hid (Below.refl _ _)⟩
  case round =>
    obtain ⟨k, v, hk, v1, v2, hv, rfl, rfl, hbw⟩ := hrel
    have hBW : Below w.heap.size w wr := (HB1.out.alloc HB1.out.size _).trans (hbw.out.mono (by have := HB1.out.size; omega))
    by_cases hlt : k < l
    · obtain ⟨b', off', x, hx, hA, hB, g1⟩ := (HR.out.below hBW).at_ hlt
      injection hA with hA
      injection hA with hA1 hA2
      subst hA1 hA2
      have hx12 := H3.out x (List.mem_of_getElem? hx)
      obtain ⟨X, rfl⟩ : ∃ X : Nat, x = X := ⟨x.toNat, by omega⟩
      have hst : wh (mods0 (L.drop k)) v = if 10080 < v / Nat.gcd v X * X then v / Nat.gcd v X * X else wh (mods0 (L.drop (k + 1))) (v / Nat.gcd v X * X) := by rw [mods0_drop hx]; rfl
      have hN := lcm_step_bd (n := v) (m := X) v2 (by omega)
      have hg0 : 0 < Nat.gcd v X := Nat.gcd_pos_of_pos_left _ (by omega)
      have hQ0 : 0 < v / Nat.gcd v X := Nat.div_pos (Nat.le_of_dvd (by omega) (Nat.gcd_dvd_left _ _)) hg0
      have hQ1 : v / Nat.gcd v X ≤ v := Nat.div_le_self _ _
      obtain ⟨g, hg⟩ : ∃ g, Nat.gcd v X = g := ⟨_, rfl⟩
      have HG := Lib.hid hg
      rw [hg] at hst hN hg0 hQ0 hQ1
      obtain ⟨Q, hQ⟩ : ∃ Q, v / g = Q := ⟨_, rfl⟩
      have hQi : (v : Int) / (g : Int) = (Q : Int) := by rw [← hQ, Int.natCast_ediv]
      rw [hQ] at hst hN hQ0 hQ1
      obtain ⟨N, hNe⟩ : ∃ N, Q * X = N := ⟨_, rfl⟩
      have hNi : (Q : Int) * (X : Int) = (N : Int) := by rw [← hNe, Int.natCast_mul]
      have hN1 : 1 ≤ N := by rw [← hNe]; exact Nat.mul_pos hQ0 (by omega)
      rw [hNe] at hst hN
      have hN2 : N ≤ 10080 := by
        apply Classical.byContradiction; intro hn
        rw [if_pos (by omega)] at hst
        have h5 := hv.out.symm.trans HW.out
        rw [hst] at h5
        omega
      have HE : Hid (wh (mods0 L) 1 = wh (mods0 (L.drop (k + 1))) N) := Lib.hid (by rw [hv.out, hst, if_neg (by omega)])
      have HQN : Hid ((v : Int) / (g : Int) * (X : Int) = (N : Int)) := Lib.hid (by rw [hQi, hNi])
      have hgz : ((g : Int) == 0) = false := by rw [beq_eq_false_iff_ne]; omega
      have hgz2 : ¬ g = 0 := by omega
      have hgi : (1 : Int) ≤ (g : Int) := by omega
      have q0 : (0 : Int) ≤ (v : Int) / (g : Int) := by rw [hQi]; omega
      have q1 : (v : Int) / (g : Int) ≤ 10080 := by rw [hQi]; omega
      have n0 : (0 : Int) ≤ (v : Int) / (g : Int) * (X : Int) := by rw [hQi, hNi]; omega
      have n1 : (v : Int) / (g : Int) * (X : Int) ≤ 10080 := by rw [hQi, hNi]; omega
      clear hx hst hg hQ hQi hNe hNi hBW
      go_wp2_with fail
      refine (cgcd_any v X _ (by omega) (by omega)).mono ?_; rw [HG.out]; rintro e w2 ⟨rfl, kk, rfl⟩
      go_wp2_with fail
      go_roundw
      case rel => exact ⟨k + 1, N, by omega, hN1, hN2, HE, by rw [← HQN.out], by go_num, Lib.hid (bdN hbw.out kk)⟩
      case measure => simp [intOf]; omega
    · have hkl : k = l := by omega
      have hvW : v = W := by
        have h5 := hv.out
        rw [hkl, List.drop_of_length_le (by rw [← HL.out]; exact Nat.le_refl _), HW.out] at h5
        exact h5.symm
      subst hvW
      have hs1 := hbw.out.size
      simp only [World.size_alloc] at hs1
      have hSr : w1.heap.size < wr.heap.size := by omega
      have hw01 : w.heap.size ≤ w1.heap.size := HB1.out.size
      have hcell : ∀ j x, (w1.alloc (Obj.cells #[.slice (some ⟨b, off, none⟩) l c, .slice none 0 0, .int .i64 0, .bool ex, .slice none 0 0] 84)).cell? ⟨w1.heap.size, j, none⟩ = some x → wr.cell? ⟨w1.heap.size, j, none⟩ = some x := fun j x hx => (hbw.out.cell (p := ⟨w1.heap.size, j, none⟩) (Nat.lt_succ_self _)).trans hx
      have hfroz : ∀ j, wr.frozen? ⟨w1.heap.size, j, none⟩ = false := fun j => (hbw.out.frozen (p := ⟨w1.heap.size, j, none⟩) (Nat.lt_succ_self _)).trans (by simp)
      have e0 := hcell 0 (.slice (some ⟨b, off, none⟩) l c) (by simp)
      have e1 := hcell 1 (.slice none 0 0) (by simp)
      have e2 := hcell 2 (.int .i64 0) (by simp)
      have e3 := hcell 3 (.bool ex) (by simp)
      have e4 := hcell 4 (.slice none 0 0) (by simp)
      obtain ⟨A2, hA2⟩ : ∃ A2, wr.alloc (Obj.cells (madeCells #[Value.int .i64 0] v) 3) = A2 := ⟨_, rfl⟩
      have hab : Below wr.heap.size wr A2 := by rw [← hA2]; exact (Below.refl _ _).alloc (Nat.le_refl _) _
      have hA2s : A2.heap.size = wr.heap.size + 1 := by rw [← hA2, World.size_alloc]
      have x0 := (hab.cell (p := ⟨w1.heap.size, 0, none⟩) hSr).trans e0
      have x1 := (hab.cell (p := ⟨w1.heap.size, 1, none⟩) hSr).trans e1
      have x2 := (hab.cell (p := ⟨w1.heap.size, 2, none⟩) hSr).trans e2
      have x3 := (hab.cell (p := ⟨w1.heap.size, 3, none⟩) hSr).trans e3
      have x4 := (hab.cell (p := ⟨w1.heap.size, 4, none⟩) hSr).trans e4
      have y1 := (hab.frozen (p := ⟨w1.heap.size, 1, none⟩) hSr).trans (hfroz 1)
      have y2 := (hab.frozen (p := ⟨w1.heap.size, 2, none⟩) hSr).trans (hfroz 2)
      have y4 := (hab.frozen (p := ⟨w1.heap.size, 4, none⟩) hSr).trans (hfroz 4)
      have hownG : Own A2 wr.heap.size (some ⟨wr.heap.size, 0, none⟩) v v (tab v (cf [])) := by
        rw [tab_nil, ← hA2]; exact own_made (Nat.le_refl _) (by unfold maxLen; omega)
      obtain ⟨W3, hW3⟩ : ∃ W3, (A2.setCell ⟨w1.heap.size, 1, none⟩ (.slice (some ⟨wr.heap.size, 0, none⟩) v v)).setCell ⟨w1.heap.size, 2, none⟩ (.int .i64 (v : Int)) = W3 := ⟨_, rfl⟩
      have hGS : wr.heap.size ≠ w1.heap.size := by omega
      have hW3s : W3.heap.size = wr.heap.size + 1 := by rw [← hW3, set_size, set_size, hA2s]
      have hss : SS W3 w1.heap.size wr.heap.size (.slice (some ⟨b, off, none⟩) l c) v (cf []) (lf (cf []) v) ex (.slice none 0 0) := by
        rw [← hW3, cf_nil]
        refine ⟨?_, ?_, ?_, ?_, ?_, by simp [y2], by simp [y4], by rw [set_size, set_size, hA2s]; omega, (hownG.other (set_heap hGS)).other (set_heap hGS), hGS⟩
        · rw [World.cell?_setCell_other _ _ _ _ (sne (by decide)), World.cell?_setCell_other _ _ _ _ (sne (by decide))]; exact x0
        · rw [World.cell?_setCell_other _ _ _ _ (sne (by decide))]; exact World.cell?_setCell_same' _ _ _ (by rw [x1]; rfl)
        · exact World.cell?_setCell_same' _ _ _ (by rw [World.cell?_setCell_other _ _ _ _ (sne (by decide)), x2]; rfl)
        · rw [World.cell?_setCell_other _ _ _ _ (sne (by decide)), World.cell?_setCell_other _ _ _ _ (sne (by decide))]; exact x3
        · rw [World.cell?_setCell_other _ _ _ _ (sne (by decide)), World.cell?_setCell_other _ _ _ _ (sne (by decide))]; exact x4
      have hst : ST W3 w1.heap.size wr.heap.size W3.heap.size (.slice (some ⟨b, off, none⟩) l c) v [] ex (.slice none 0 0) := ⟨hss, World.ownsRow_nil _ _ _ _, by omega, by omega, Nat.le_refl _⟩
      have hbA : Below w.heap.size w A2 := hBW.trans (hab.mono (by omega))
      have hbW3 : Below w.heap.size w W3 := by
        rw [← hW3]
        exact (hbA.setCell (p := ⟨w1.heap.size, 1, none⟩) hw01 _).setCell (p := ⟨w1.heap.size, 2, none⟩) hw01 _
      have HCH : Hid (Calls Try.prog 70 #[.pointer (some ⟨w1.heap.size, 0, none⟩), .int .i64 0] W3 fun e w' =>
          e = .returned (.bool res.isSome) ∧ (∃ v', ST w' w1.heap.size wr.heap.size W3.heap.size (.slice (some ⟨b, off, none⟩) l c) v (res.getD []) ex v') ∧ Below w.heap.size w w' ∧ w1.heap.size < w'.heap.size) := Lib.hid (by
        have h5 := choose_any w1.heap.size wr.heap.size W3.heap.size w.heap.size v b off l c (nat1 L) ex HML.out.symm hl7 HM12.out m4 hlc hc hw01 (by omega) (nat1 L) 0 [] (.slice none 0 0) W3 rfl (by omega) rfl hst (by rw [HNT.out]; exact HR.out.below hbW3)
        rw [HRES.out] at h5
        refine h5.mono ?_
        rintro e w' ⟨rfl, ⟨v', hst', _⟩, hf⟩
        exact ⟨rfl, ⟨v', hst'⟩, hbW3.trans (hf.low hst.own hw01 (by omega) (by omega) (by omega)), by have := hf.size; omega⟩)
      have hmk := run_make_row' (P := Try.prog) 42 3 (.int .i64 0) 8 Try.underlying42 infoI rfl .i64 .i64 v (by omega) (by omega) wr
      rw [hA2] at hmk
      have HW3 := Lib.hid hW3
      clear hss hst hbA hbW3 hownG hcell hfroz e0 e1 e2 e3 e4 hA2 hab hW3 hBW
      go_wp2_with fail
      rw [HW3.out]
      refine HCH.out.mono ?_; rintro e w4 ⟨rfl, ⟨v4, hst4⟩, hb4, hs4⟩
      have HST4 := Lib.hid hst4
      have HB4 := Lib.hid hb4
      have q4 := hst4.ss.c4
      clear hst4 hb4
      cases res with
      | none =>
        have HE : Hid (E = 4) := Lib.hid (by rw [← HE0.out]; rfl)
        go_wp2_with fail
        go_ret2
        rw [HE.out]
        exact ⟨none, 0, 0, rfl, row_nil, fun _ => rfl, HB4.out⟩
      | some D =>
        have HE : Hid (E = 0) := Lib.hid (by rw [← HE0.out]; rfl)
        have hown4 : w4.ownsRow W3.heap.size 68 2 v4 D.length (flat D) := HST4.out.own
        have hDl : D.length = l := by
          have h5 := srch_len HRES.out
          rw [HML.out] at h5; simpa using h5
        obtain ⟨g4, c4, rfl, hg41, hg42⟩ := hown4.form (by omega)
        have hrow := Row.of_own hown4
        rw [hDl] at hrow hown4 q4
        obtain ⟨n2, hn2⟩ : ∃ n2, n2 = l := ⟨_, rfl⟩
        rw [← hn2] at hrow q4 hDl
        have HR2 := Lib.hid hrow
        have HL2 := Lib.hid hDl
        have hn8 : n2 ≤ 8 := by omega
        clear hown4 hrow hDl HST4
        go_wp2_with fail
        go_loopw [10, 51] (fun v x wr => ∃ k : Nat, k ≤ n2 ∧ Hid (PRel 29 w4 (D.take k) v wr) ∧ x = .int .i64 (k : Int)) (fun _ x _ => n2 - (intOf x).toNat)
        case atStart => exact ⟨0, by omega, Lib.hid ⟨World.ownsRow_nil .., Below.refl _ _⟩, rfl⟩
        case round =>
          obtain ⟨k, hk, hrl, rfl⟩ := hrel
          by_cases hlt : k < n2
          · obtain ⟨b, off, x, m, hx, hAA, hB, c1, c2⟩ := (HR2.out.below hrl.out.2).at_ hlt
            injection hAA with hAA
            injection hAA with hAA1 hAA2
            subst hAA1 hAA2
            rw [Nat.zero_add] at c1 c2
            have HTK := Lib.hid (take_at hx)
            have HKL : Hid ((D.take k).length = k) := Lib.hid (by rw [List.length_take]; have := HL2.out; omega)
            have hown : ((wr.alloc (Obj.cells #[.int .i64 x, .int .i64 m] 68)).alloc (Obj.cells #[.int .i64 x, .int .i64 m] 29)).ownsRow w4.heap.size 29 2 u10 k (flat (D.take k)) := by
              have h5 := (hrl.out.1.alloc (Obj.cells #[.int .i64 x, .int .i64 m] 68)).alloc (Obj.cells #[.int .i64 x, .int .i64 m] 29)
              rw [HKL.out] at h5
              exact h5
            have HOW := Lib.hid hown
            have HNE := Lib.hid (flat_news (w := (wr.alloc (Obj.cells #[.int .i64 x, .int .i64 m] 68)).alloc (Obj.cells #[.int .i64 x, .int .i64 m] 29)) (x := x) (m := m) (g := wr.heap.size + 1) (by simp) rfl)
            have H1 := Lib.hid (two_one (x := x) (m := m))
            have H3 : Hid (k + 1 ≤ maxLen) := Lib.hid (by unfold maxLen; omega)
            have H4 : Hid ((k + 1) * 16 ≤ 140737488355328) := Lib.hid (by omega)
            have H5 : Hid (w4.heap.size ≤ ((wr.alloc (Obj.cells #[.int .i64 x, .int .i64 m] 68)).alloc (Obj.cells #[.int .i64 x, .int .i64 m] 29)).heap.size) := Lib.hid (by have := hrl.out.2.size; simp; omega)
            clear hown hx
            go_wp2_with (at_builtin; refine wpList_append_own _ rfl _ _ 22 rfl w4.heap.size 29 i0 (.agg #[.int .i64 0, .int .i64 0]) 2 16 Try.underlying22 hi hz0 hz1 hz2 rfl (by decide) _ k (flat (D.take k)) rfl HOW.out ⟨wr.heap.size + 1, 0, none⟩ 1 1 [.int .i64 x, .int .i64 m] rfl rfl HNE.out H1.out H3.out H4.out H5.out ?_; intro v' w3 hown' hgrow _)
            have hab : Below wr.heap.size wr ((wr.alloc (Obj.cells #[.int .i64 x, .int .i64 m] 68)).alloc (Obj.cells #[.int .i64 x, .int .i64 m] 29)) := ((Below.refl _ _).alloc (Nat.le_refl _) _).alloc (by simp) _
            have HN : Hid (PRel 29 w4 (D.take (k + 1)) v' w3) := Lib.hid (by
              rw [HTK.out]
              exact hrl.out.next hab (by rw [HKL.out]; exact hown') hgrow)
            clear hown' hgrow hab
            go_wp2_with fail
            go_roundw
            case rel => exact ⟨k + 1, by omega, HN, by go_num⟩
            case measure => simp [intOf]; omega
          · have hkl : k = n2 := by omega
            have hT : D.take k = D := List.take_of_length_le (by have := HL2.out; omega)
            rw [hT] at hrl
            obtain ⟨A', c', rfl, hrow, hA'⟩ := hrl.out.form
            go_wp2_with fail
            go_ret2
            rw [HE.out]
            exact ⟨A', _, c', rfl, hrow, hA', HB4.out.trans (hrl.out.2.mono HB4.out.size)⟩
end Go.Proofs.Ytmmgidhaakkaoaa
