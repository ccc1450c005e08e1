/- The reference's Moduli. -/
import Derived.Test.YtmmgidhaakkaoaaSrQ
namespace Go.Proofs.Ytmmgidhaakkaoaa
open Go Go.RowKit

theorem md_bad {L : List Int} {x : Int} (h : x ∈ L) (hx : ¬ (1 ≤ x ∧ x ≤ 12)) : mdB L = false := decide_eq_false (fun hh => hx (hh.2.2.1 x h))
theorem md_long {L : List Int} (h : 7 < L.length) : mdB L = false := decide_eq_false (fun hh => by have := hh.2.1; omega)
theorem md_end {L : List Int} (h : ∀ x ∈ L, 1 ≤ x ∧ x ≤ 12) (h1 : 1 ≤ L.length) (h7 : L.length ≤ 7) : mdB L = decide (0 < whR (mods0 L) 1) := by
  have hm := mods_mods0 h
  unfold mdB
  rw [Bool.eq_iff_iff, decide_eq_true_iff, decide_eq_true_iff]
  constructor
  · intro hh
    have := whR_ok (mods0 L) 1 (by omega) (by omega) hm hh.2.2.2
    omega
  · intro hh
    refine ⟨h1, h7, h, ?_⟩
    apply Classical.byContradiction; intro hn
    have := whR_zero.2 (fun hz : Mods (mods0 L) ∧ wh (mods0 L) 1 ≤ 10080 => hn hz.2)
    omega

set_option maxRecDepth 100000 in
set_option maxHeartbeats 2000000 in
theorem rmoduli_any (A : Option Addr) (l c : Nat) (L : List Int) (w : World) (h : IRow w w.heap.size A l L) (hl : l ≤ 9223372036854775807) :
    Calls Try.prog 42 #[.slice A l c] w fun e w' => e = .returned (.bool (mdB L)) ∧ Below w.heap.size w w' := by
  obtain ⟨q, hq⟩ : ∃ q, mdB L = q := ⟨_, rfl⟩
  rw [hq]
  have HQ := Lib.hid hq
  have HR := Lib.hid h
  have HL := Lib.hid h.1
  clear h hq
  obtain ⟨i0, hi, hz0, hz1, hz2⟩ := info_parts infoP
  go_enter Try.func42, Try.ntmps42
  go_wp2_with fail
  go_loopw [3, 8] (fun v z wr => ∃ k : Nat, k ≤ l ∧ k ≤ 8 ∧ Hid (∀ x ∈ L.take k, 1 ≤ x ∧ x ≤ 12) ∧ Hid (PRel 29 w (mods0 (L.take k)) v wr) ∧ z = .int .i64 (k : Int)) (fun _ z _ => l - (intOf z).toNat)
  case atStart => exact ⟨0, by omega, by omega, Lib.hid (fun x hx => by simp at hx), Lib.hid ⟨World.ownsRow_nil .., Below.refl _ _⟩, rfl⟩
  case round =>
    obtain ⟨k, hk, hk8, hok, hrl, rfl⟩ := hrel
    by_cases hlt : k < l
    · obtain ⟨b, off, x', hx', rfl, hB, g1⟩ := (HR.out.below hrl.out.2).at_ hlt
      have hxm : x' ∈ L := List.mem_of_getElem? hx'
      have HXM := Lib.hid hxm
      have hlti : (k : Int) < (l : Int) := by omega
      have HTK := Lib.hid (mods0_take hx')
      have HTX : Hid (L.take (k + 1) = L.take k ++ [x']) := Lib.hid (by
        obtain ⟨hk2, e⟩ := List.getElem?_eq_some_iff.1 hx'
        rw [List.take_succ_eq_append_getElem hk2, e])
      have HKL : Hid ((mods0 (L.take k)).length = k) := Lib.hid (by rw [mods0_len, List.length_take]; have := HL.out; omega)
      obtain ⟨A3, c3, hv3, _, _⟩ := hrl.out.form
      rw [HKL.out] at hv3
      have HBR := Lib.hid hrl.out.2
      by_cases h1 : x' < 1
      · obtain rfl : q = false := by rw [← HQ.out]; exact md_bad HXM.out (by omega)
        subst hv3
        clear hx' hxm
        go_wp2_with fail
        go_ret
        exact ⟨rfl, HBR.out⟩
      by_cases h12 : 12 < x'
      · obtain rfl : q = false := by rw [← HQ.out]; exact md_bad HXM.out (by omega)
        subst hv3
        clear hx' hxm
        go_wp2_with fail
        go_ret
        exact ⟨rfl, HBR.out⟩
      by_cases h8 : 7 < k
      · obtain rfl : q = false := by rw [← HQ.out]; exact md_long (by rw [← HL.out]; omega)
        have h8i : (7 : Int) < (k : Int) := by omega
        subst hv3
        clear hx' hxm
        go_wp2_with fail
        go_ret
        exact ⟨rfl, HBR.out⟩
      have h8i : (k : Int) ≤ 7 := by omega
      have hown : (wr.alloc (Obj.cells #[.int .i64 0, .int .i64 x'] 29)).ownsRow w.heap.size 29 2 u3 k (flat (mods0 (L.take k))) := by
        have h5 := hrl.out.1.alloc (Obj.cells #[.int .i64 0, .int .i64 x'] 29)
        rw [HKL.out] at h5
        exact h5
      have HOW := Lib.hid hown
      have HNE := Lib.hid (flat_news (w := wr.alloc (Obj.cells #[.int .i64 0, .int .i64 x'] 29)) (w0 := wr) (x := 0) (m := x') (g := wr.heap.size) rfl rfl)
      have H1 := Lib.hid (two_one (x := 0) (m := x'))
      have H3 : Hid (k + 1 ≤ maxLen) := Lib.hid (by unfold maxLen; omega)
      have H4 : Hid ((k + 1) * 16 ≤ 140737488355328) := Lib.hid (by omega)
      have H5 : Hid (w.heap.size ≤ (wr.alloc (Obj.cells #[.int .i64 0, .int .i64 x'] 29)).heap.size) := Lib.hid (by have := hrl.out.2.size; simp; omega)
      have HOK2 : Hid (∀ x ∈ L.take (k + 1), 1 ≤ x ∧ x ≤ 12) := Lib.hid (fun x hx => by
        rw [HTX.out, List.mem_append] at hx
        rcases hx with hx | hx
        · exact hok.out x hx
        · rw [List.mem_singleton] at hx; rw [hx]; omega)
      have HRL := hrl
      subst hv3
      clear hown hx' hxm hrl
      go_wp2_with (at_builtin; refine wpList_append_own _ rfl _ _ 22 rfl w.heap.size 29 i0 (.agg #[.int .i64 0, .int .i64 0]) 2 16 Try.underlying22 hi hz0 hz1 hz2 rfl (by decide) _ k (flat (mods0 (L.take k))) rfl HOW.out ⟨wr.heap.size, 0, none⟩ 1 1 [.int .i64 0, .int .i64 x'] rfl rfl HNE.out H1.out H3.out H4.out H5.out ?_; intro v' w3 hown' hgrow _)
      have HN : Hid (PRel 29 w (mods0 (L.take (k + 1))) v' w3) := Lib.hid (by
        rw [HTK.out]
        exact HRL.out.next ((Below.refl _ _).alloc (Nat.le_refl _) _) (by rw [HKL.out]; exact hown') hgrow)
      clear hown' hgrow
      go_wp2_with fail
      go_roundw
      case rel => exact ⟨k + 1, by omega, by omega, HOK2, HN, by go_num⟩
      case measure => simp [intOf]; omega
    · have hkl : k = l := by omega
      have hT : L.take k = L := List.take_of_length_le (by rw [hkl, ← HL.out]; exact Nat.le_refl _)
      rw [hT] at hrl hok
      obtain ⟨A', c', rfl, hrow, _⟩ := hrl.out.form
      have HBR := Lib.hid hrl.out.2
      by_cases h0 : l = 0
      · obtain rfl : q = false := by rw [← HQ.out]; exact decide_eq_false (fun hh => by have := hh.1; have := HL.out; omega)
        have h0i : (l : Int) = 0 := by omega
        clear hrow hT hrl
        go_wp2_with fail
        go_ret
        exact ⟨rfl, HBR.out⟩
      by_cases h7 : l ≤ 7
      case neg =>
        obtain rfl : q = false := by rw [← HQ.out]; exact md_long (by rw [← HL.out]; omega)
        have h7i : (7 : Int) < (l : Int) := by omega
        have h7d : decide ((l : Int) ≤ 7) = false := decide_eq_false (by omega)
        clear hrow hT hrl
        go_wp2_with fail
        go_ret
        exact ⟨rfl, HBR.out⟩
      have h7i : (l : Int) ≤ 7 := by omega
      have h1i : (1 : Int) ≤ (l : Int) := by omega
      obtain ⟨Wn, hWn⟩ : ∃ Wn, whR (mods0 L) 1 = Wn := ⟨_, rfl⟩
      have HQ2 : Hid (decide (0 < Wn) = q) := Lib.hid (by
        rw [← HQ.out, md_end hok.out (by rw [← HL.out]; omega) (by rw [← HL.out]; exact h7), hWn])
      have HWC := Lib.hid (rwhole_any A' (mods0 L).length c' (mods0 L) wr hrow (fun p hp => by
        unfold mods0 at hp
        obtain ⟨z, hz, rfl⟩ := List.mem_map.1 hp
        have := hok.out z hz
        show (-9223372036854775808 : Int) ≤ 0 ∧ (0 : Int) ≤ 9223372036854775807 ∧ -9223372036854775808 ≤ z ∧ z ≤ 9223372036854775807
        omega) (by rw [mods0_len, ← HL.out]; omega))
      rw [hWn] at HWC
      clear hrow hT hrl hWn
      go_wp2_with fail
      refine HWC.out.mono ?_; rintro e w4 ⟨rfl, hb4⟩
      have HB4 := Lib.hid (bt HBR.out hb4)
      clear hb4
      go_wp2_with fail
      go_ret
      exact ⟨by rw [← HQ2.out]; rfl, HB4.out⟩
end Go.Proofs.Ytmmgidhaakkaoaa
