/- slices.Index and slices.Contains of ints. -/
import Derived.Test.YtmmgidhaakkaoaaIh
namespace Go.Proofs.Ytmmgidhaakkaoaa
open Go Go.RowKit

theorem drop_at {L : List Int} {k : Nat} {x : Int} (h : L[k]? = some x) : L.drop k = x :: L.drop (k + 1) := by
  obtain ⟨hk, e⟩ := List.getElem?_eq_some_iff.1 h
  rw [List.drop_eq_getElem_cons hk, e]

set_option maxHeartbeats 400000 in
theorem index_any (A : Option Addr) (l c : Nat) (L : List Int) (x : Int) (w : World) (h : IRow w w.heap.size A l L) (hl : l ≤ 1000000) :
    Calls Try.prog 75 #[.slice A l c, .int .i64 x] w fun e w' => ∃ i : Int, e = .returned (.int .i64 i) ∧ decide (0 ≤ i) = decide (x ∈ L) ∧ Below w.heap.size w w' := by
  have HR := Lib.hid h
  have HL := Lib.hid h.1
  clear h
  go_enter Try.func75, Try.ntmps75
  go_wp2_with fail
  go_loopw [8] (fun z wr => ∃ k : Nat, k ≤ l ∧ z = .int .i64 (k : Int) ∧ Hid (x ∈ L ↔ x ∈ L.drop k) ∧ Below w.heap.size w wr) (fun z _ => l - (intOf z).toNat)
  case atStart => exact ⟨0, by omega, rfl, Lib.hid (by rw [List.drop_zero]), Below.refl _ _⟩
  case round =>
    obtain ⟨k, hk, rfl, hx, hb⟩ := hrel
    by_cases hlt : k < l
    · obtain ⟨b, off, y, hy, rfl, hB, g1⟩ := (HR.out.below hb).at_ hlt
      have HDR := Lib.hid (drop_at hy)
      have hki : (k : Int) < (l : Int) := by omega
      clear hy
      by_cases hxy : x = y
      · have t1 : (x == y) = true := by simpa using hxy
        have HE : Hid (x ∈ L) := Lib.hid (hx.out.2 (by rw [HDR.out, hxy]; simp))
        clear hxy
        go_wp2_with fail
        go_ret
        exact ⟨k, rfl, by rw [decide_eq_true HE.out]; simp, hb⟩
      · have t1 : (x == y) = false := by simpa using hxy
        have HE : Hid (x ∈ L ↔ x ∈ L.drop (k + 1)) := Lib.hid (by rw [hx.out, HDR.out, List.mem_cons]; simp [hxy])
        clear hxy
        go_wp2_with fail
        go_roundw
        case rel => exact ⟨k + 1, by omega, by go_num, HE, hb⟩
        case measure => simp [intOf]; omega
    · have e : k = l := by omega
      subst e
      have HE : Hid (¬ x ∈ L) := Lib.hid (by rw [hx.out, List.drop_of_length_le (by rw [← HL.out]; omega)]; simp)
      go_wp2_with fail
      go_ret
      exact ⟨-1, rfl, by rw [decide_eq_false HE.out]; decide, hb⟩

theorem contains_any (A : Option Addr) (l c : Nat) (L : List Int) (x : Int) (w : World) (h : IRow w w.heap.size A l L) (hl : l ≤ 1000000) :
    Calls Try.prog 67 #[.slice A l c, .int .i64 x] w fun e w' => e = .returned (.bool (decide (x ∈ L))) ∧ Below w.heap.size w w' := by
  have HI := Lib.hid (index_any A l c L x w h hl)
  clear h
  go_enter Try.func67, Try.ntmps67
  go_wp2_with fail
  refine HI.out.mono ?_; rintro e w1 ⟨i, rfl, hi, hb1⟩
  go_wp2_with fail
  go_ret
  exact ⟨by first | rfl | rw [hi] | skip, hb1⟩
end Go.Proofs.Ytmmgidhaakkaoaa
