/- The reference's Needless; equality of slices of ints. -/
import Derived.Test.YtmmgidhaakkaoaaCoG
import Derived.Test.YtmmgidhaakkaoaaCoU
namespace Go.Proofs.Ytmmgidhaakkaoaa
open Go Go.RowKit GhC

set_option maxRecDepth 100000 in
set_option maxHeartbeats 1000000 in
theorem rneedless_any (A : Option Addr) (l c : Nat) (L : List (Int × Int)) (w : World) (h : Row w w.heap.size A l L) (hs : Sys L) :
    Calls Try.prog 32 #[.slice A l c] w (GivesI w (ndUp L L.length)) := by
  have HT := Lib.hid (times_any A l c L w h hs)
  have HR := Lib.hid h
  have HL1 := Lib.hid h.1
  have HO := Lib.hid hs.2.2.1
  have hN2 := hs.2.2.2
  have hl10 := hs.2.1
  have hl1 : l ≤ 10 := by have := h.1; omega
  obtain ⟨N, hN⟩ : ∃ N, wh L 1 = N := ⟨_, rfl⟩
  have HN := Lib.hid hN
  rw [hN] at hN2
  clear h hs hN
  obtain ⟨i0, hi, hz0, hz1, hz2⟩ := info_parts infoI
  go_enter Try.func32, Try.ntmps32
  go_wp2_with fail
  refine HT.out.mono ?_; rw [HN.out]; rintro e w1 ⟨tb, rfl, _, hf, hb1⟩
  have HF := Lib.hid hf
  have HB1 := Lib.hid hb1
  have HR1 : Hid (Row w1 w1.heap.size A l L) := Lib.hid ((HR.out.below hb1).more hb1.size)
  clear hf hb1
  go_wp2_with fail
  go_loopw [3, 13] (fun v x wr => ∃ k m : Nat, k ≤ l ∧ x = .int .i64 (k : Int) ∧ m ≤ k ∧ Hid (m = (ndUp L k).length) ∧ Hid (wr.ownsRow w1.heap.size 3 1 v m (ints (ndUp L k))) ∧ Below w1.heap.size w1 wr) (fun _ x _ => l - (intOf x).toNat)
  case atStart => exact ⟨0, 0, by omega, rfl, by omega, Lib.hid rfl, Lib.hid (World.ownsRow_nil ..), Below.refl _ _⟩
  case round =>
    obtain ⟨k, m, hk, rfl, hmk, hm, how, hb⟩ := hrel
    obtain ⟨wo, hwo⟩ : ∃ wo : World, wo = wr := ⟨_, rfl⟩
    subst hwo
    by_cases hlt : k < l
    · obtain ⟨b, off, x, md, hx, rfl, hB, g1, g2⟩ := (HR1.out.below hb).at_ hlt
      obtain ⟨m1, m2, x1, x2⟩ := HO.out (x, md) (List.mem_of_getElem? hx)
      have HMEM := Lib.hid (List.mem_of_getElem? hx)
      simp only at m1 m2 x1 x2
      obtain ⟨M, rfl⟩ : ∃ M : Nat, md = M := ⟨md.toNat, by omega⟩
      obtain ⟨X, rfl⟩ : ∃ X : Nat, x = X := ⟨x.toNat, by omega⟩
      have HX := Lib.hid hx
      have HOW : Hid ((wo.alloc (Obj.cells #[.int .i64 (X : Int), .int .i64 (M : Int)] 29)).ownsRow w1.heap.size 3 1 u3 m (ints (ndUp L k))) := Lib.hid (how.out.alloc _)
      have HBO : Hid (Below w1.heap.size w1 (wo.alloc (Obj.cells #[.int .i64 (X : Int), .int .i64 (M : Int)] 29))) := Lib.hid (hb.alloc hb.size _)
      have hws : w1.heap.size ≤ wo.heap.size := hb.size
      clear hx how hb
      go_wp2_with fail
      go_loopw [7, 8] (fun al z wr => ∃ t nn : Nat, Hid (nn = X + t * M) ∧ nn ≤ N + 120 ∧ al = .bool (moB L X M t) ∧ z = .int .i64 (nn : Int) ∧ Hid (∀ i, i < t → X + i * M < N) ∧ Below (wo.heap.size + 1) (wo.alloc (Obj.cells #[.int .i64 (X : Int), .int .i64 (M : Int)] 29)) wr) (fun _ z _ => N + 120 - (intOf z).toNat)
      case atStart => exact ⟨0, X, Lib.hid (by omega), by omega, rfl, rfl, Lib.hid (fun i h => by omega), Below.refl _ _⟩
      case round =>
        obtain ⟨t, nn, hnn, hnb, rfl, rfl, hlow, hbj⟩ := hrel
        have hbox1 := hbj.cell (p := ⟨wo.heap.size, 0, none⟩) (by simp)
        have hbox2 := hbj.cell (p := ⟨wo.heap.size, 1, none⟩) (by simp)
        simp at hbox1 hbox2
        have hsz : wo.heap.size < wr.heap.size := by have := hbj.size; simp at this; omega
        have HBW : Hid (Below w1.heap.size w1 wr) := Lib.hid (HBO.out.trans (hbj.mono (by omega)))
        have HBJ := Lib.hid hbj
        clear hbj
        by_cases hnN : nn < N
        · have HLOW : Hid (∀ i, i < t + 1 → X + i * M < N) := Lib.hid (fun i hi => by
            by_cases e : i = t
            · subst e; rw [← hnn.out]; exact hnN
            · exact hlow.out i (by omega))
          have HNN : Hid (nn + M = X + (t + 1) * M) := Lib.hid (by rw [hnn.out, Nat.add_mul]; omega)
          have hcl : cnt L (nn : Int) ≤ 10 := Nat.le_trans (cnt_le _ _) hl10
          have HA : Hid (moB L X M (t + 1) = (moB L X M t && decide (1 < cnt L (nn : Int)))) := Lib.hid (by rw [moB_succ, hnn.out])
          obtain ⟨b', off', hA, hB', hcell⟩ := (HF.out.below HBW.out).at_ hnN
          injection hA with hA
          injection hA with hA1 hA2
          subst hA1 hA2
          obtain ⟨C, hC⟩ : ∃ C, cnt L (nn : Int) = C := ⟨_, rfl⟩
          have HC := Lib.hid hC
          simp only [hC] at hcell hcl
          rw [Nat.zero_add] at hcell
          have HA2 : Hid (moB L X M (t + 1) = (moB L X M t && decide (1 < C))) := Lib.hid (by rw [HA.out, hC])
          clear hC HA
          cases hal : moB L X M t with
          | false =>
            have HA3 : Hid (moB L X M (t + 1) = false) := Lib.hid (by rw [HA2.out, hal]; rfl)
            clear hal
            go_wp2_with fail
            go_roundw
            case rel => exact ⟨t + 1, nn + M, HNN, by omega, by rw [HA3.out], by go_num, HLOW, HBJ.out⟩
            case measure => simp [intOf]; omega
          | true =>
            by_cases h1 : 1 < C
            · have h2 : (1 : Int) < (C : Int) := by omega
              have HA3 : Hid (moB L X M (t + 1) = true) := Lib.hid (by rw [HA2.out, hal, decide_eq_true h1]; rfl)
              clear hal h1
              go_wp2_with fail
              go_roundw
              case rel => exact ⟨t + 1, nn + M, HNN, by omega, by rw [HA3.out], by go_num, HLOW, HBJ.out⟩
              case measure => simp [intOf]; omega
            · have h2 : ¬ (1 : Int) < (C : Int) := by omega
              have HA3 : Hid (moB L X M (t + 1) = false) := Lib.hid (by rw [HA2.out, hal, decide_eq_false h1]; rfl)
              clear hal h1
              go_wp2_with fail
              go_roundw
              case rel => exact ⟨t + 1, nn + M, HNN, by omega, by rw [HA3.out], by go_num, HLOW, HBJ.out⟩
              case measure => simp [intOf]; omega
        · have HEND := Lib.hid (moB_end (L := L) (X := X) (M := M) (t := t) HMEM.out (by omega) (by omega) (by rw [HN.out, ← hnn.out]; omega) (fun i hi => by rw [HN.out]; exact hlow.out i hi))
          have HU := Lib.hid (ndUp_succ HX.out)
          have HOW3 : Hid (wr.ownsRow w1.heap.size 3 1 u3 m (ints (ndUp L k))) := Lib.hid (own_bel HOW.out (by have := HBJ.out; simpa using this))
          have HBW3 := HBW
          rw [HEND.out]
          cases hnd : ndB L ((X : Int), (M : Int)) with
          | true =>
            have HU2 : Hid (ndUp L (k + 1) = ndUp L k ++ [(k : Int)]) := Lib.hid (by rw [HU.out, hnd]; rfl)
            clear hnd
            have H0 : Hid (wo.heap.size < wr.heap.size) := Lib.hid hsz
            have HOWA : Hid ((wr.alloc (Obj.cells #[.int .i64 (k : Int)] 3)).ownsRow w1.heap.size 3 1 u3 m (ints (ndUp L k))) := Lib.hid (HOW3.out.alloc _)
            have HNE : Hid (∀ j u, ([Value.int .i64 (k : Int)] : List Value)[j]? = some u → (wr.alloc (Obj.cells #[.int .i64 (k : Int)] 3)).cell? ((⟨wr.heap.size, 0, none⟩ : Addr).add j) = some u) := Lib.hid (by
              intro j u hu
              rw [add_none]
              rcases j with _ | j
              · simp at hu; subst hu; simp
              · simp at hu)
            have H1 : Hid (∀ u ∈ ([Value.int .i64 (k : Int)] : List Value), u.oneCell' = true) := Lib.hid (by intro u hu; simp at hu; subst hu; simp [Value.oneCell'])
            have H3 : Hid (m + 1 ≤ maxLen) := Lib.hid (by unfold maxLen; omega)
            have H4 : Hid ((m + 1) * 8 ≤ 140737488355328) := Lib.hid (by omega)
            have H5 : Hid (w1.heap.size ≤ (wr.alloc (Obj.cells #[.int .i64 (k : Int)] 3)).heap.size) := Lib.hid (by have := HBW3.out.size; simp; omega)
            have HXL : Hid ((ints (ndUp L k)).length = m * 1) := Lib.hid (by rw [ints_len, ← hm.out]; omega)
            go_wp2_with (at_builtin; refine wpList_append_own _ rfl _ _ 42 rfl w1.heap.size 3 i0 (.int .i64 0) 1 8 Try.underlying42 hi hz0 hz1 hz2 rfl (by decide) _ m (ints (ndUp L k)) rfl HOWA.out ⟨wr.heap.size, 0, none⟩ 1 1 [.int .i64 (k : Int)] rfl rfl HNE.out H1.out H3.out H4.out H5.out ?_; intro v' w4 hown' hgrow _)
            have HN4 : Hid (w4.ownsRow w1.heap.size 3 1 v' (m + 1) (ints (ndUp L (k + 1)))) := Lib.hid (by rw [HU2.out]; unfold ints at hown' ⊢; rw [List.map_append]; exact hown')
            have HB4 : Hid (Below w1.heap.size w1 w4) := Lib.hid (own_below' HOWA.out hgrow (HBW3.out.alloc HBW3.out.size _) (Nat.le_refl _) H5.out)
            clear hown' hgrow
            go_wp2_with fail
            go_roundw
            case rel => exact ⟨k + 1, m + 1, by omega, by go_num, by omega, Lib.hid (by rw [HU2.out, List.length_append, ← hm.out]; rfl), HN4, HB4.out⟩
            case measure => simp [intOf]; omega
          | false =>
            have HU2 : Hid (ndUp L (k + 1) = ndUp L k) := Lib.hid (by rw [HU.out, hnd]; simp)
            clear hnd
            go_wp2_with fail
            go_roundw
            case rel => exact ⟨k + 1, m, by omega, by go_num, by omega, by rw [HU2.out]; exact hm, by rw [HU2.out]; exact HOW3, HBW3.out⟩
            case measure => simp [intOf]; omega
    · have e : k = l := by omega
      subst e
      obtain ⟨A2, c2, rfl, _⟩ := own_sl how.out
      have HI := Lib.hid (IRow.of_own how.out)
      have HKL : Hid (k = L.length) := HL1
      go_wp2_with fail
      go_ret
      exact ⟨A2, m, c2, rfl, by rw [← HKL.out]; exact HI.out, bt HB1.out hb⟩

set_option maxHeartbeats 400000 in
/-- two slices of ints that read alike are equal -/
theorem equal_ints (A B : Option Addr) (l c d : Nat) (L : List Int) (w : World) (h : IRow w w.heap.size A l L) (g : IRow w w.heap.size B l L) (hl : l ≤ 1000000) :
    Calls Try.prog 31 #[.slice A l c, .slice B l d] w fun e w' => e = .returned (.bool true) ∧ Below w.heap.size w w' := by
  have HR := Lib.hid h
  have HG := Lib.hid g
  clear h g
  go_enter Try.func31, Try.ntmps31
  go_wp2_with fail
  go_loopw [13] (fun x wr => ∃ k : Nat, k ≤ l ∧ x = .int .i64 (k : Int) ∧ Below w.heap.size w wr) (fun x _ => l - (intOf x).toNat)
  case atStart => exact ⟨0, by omega, rfl, Below.refl _ _⟩
  case round =>
    obtain ⟨k, hk, rfl, hb⟩ := hrel
    by_cases hlt : k < l
    · obtain ⟨b, off, x, hx, rfl, hB, g1⟩ := (HR.out.below hb).at_ hlt
      obtain ⟨b', off', y, hy, rfl, hB', g2⟩ := (HG.out.below hb).at_ hlt
      obtain rfl : x = y := by rw [hx] at hy; injection hy
      have hki : (k : Int) < (l : Int) := by omega
      clear hx hy
      go_wp2_with fail
      go_quiet (fail)
      go_wp2_with fail
      go_roundw
      case rel => exact ⟨k + 1, by omega, by go_num, bdN hb _⟩
      case measure => simp [intOf]; omega
    · go_wp2_with fail
      go_ret
      exact ⟨rfl, hb⟩
end Go.Proofs.Ytmmgidhaakkaoaa
