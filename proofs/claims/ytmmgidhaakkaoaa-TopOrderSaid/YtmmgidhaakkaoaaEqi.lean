/- slices.Equal of slices of ints. -/
import Derived.Test.YtmmgidhaakkaoaaIh
namespace Go.Proofs.Ytmmgidhaakkaoaa
open Go Go.RowKit

set_option maxHeartbeats 400000 in
theorem equal_b (A B : Option Addr) (l m c d : Nat) (L M : List Int) (w : World) (h : IRow w w.heap.size A l L) (g : IRow w w.heap.size B m M) (hl : l ≤ 1000000) (hm : m ≤ 1000000) :
    Calls Try.prog 31 #[.slice A l c, .slice B m d] w fun e w' => e = .returned (.bool (decide (L = M))) ∧ Below w.heap.size w w' := by
  have HR := Lib.hid h
  have HG := Lib.hid g
  have HL := Lib.hid h.1
  have HM := Lib.hid g.1
  clear h g
  by_cases hlm : l = m
  · subst hlm
    go_enter Try.func31, Try.ntmps31
    go_wp2_with fail
    go_loopw [13] (fun x wr => ∃ k : Nat, k ≤ l ∧ x = .int .i64 (k : Int) ∧ Hid (L.take k = M.take k) ∧ Below w.heap.size w wr) (fun x _ => l - (intOf x).toNat)
    case atStart => exact ⟨0, by omega, rfl, Lib.hid (by simp), Below.refl _ _⟩
    case round =>
      obtain ⟨k, hk, rfl, htk, hb⟩ := hrel
      by_cases hlt : k < l
      · obtain ⟨b, off, x, hx, rfl, hB, g1⟩ := (HR.out.below hb).at_ hlt
        obtain ⟨b', off', y, hy, rfl, hB', g2⟩ := (HG.out.below hb).at_ hlt
        have hki : (k : Int) < (l : Int) := by omega
        by_cases hxy : x = y
        · have HT : Hid (L.take (k + 1) = M.take (k + 1)) := Lib.hid (by
            obtain ⟨h1, e1⟩ := List.getElem?_eq_some_iff.1 hx
            obtain ⟨h2, e2⟩ := List.getElem?_eq_some_iff.1 hy
            rw [List.take_succ_eq_append_getElem h1, List.take_succ_eq_append_getElem h2, e1, e2, htk.out, hxy])
          have t1 : (x != y) = false := by simpa using hxy
          clear hx hy hxy
          go_wp2_with fail
          go_quiet (fail)
          go_wp2_with fail
          go_roundw
          case rel => exact ⟨k + 1, by omega, by go_num, HT, ibN hb _⟩
          case measure => simp [intOf]; omega
        · have HD : Hid (decide (L = M) = false) := Lib.hid (decide_eq_false (fun e => by
            rw [e, hy] at hx
            injection hx with hx
            exact hxy hx.symm))
          have t1 : (x != y) = true := by simpa using hxy
          clear hx hy hxy
          go_wp2_with fail
          go_quiet (fail)
          go_wp2_with fail
          go_ret
          exact ⟨by rw [HD.out]; rfl, ibN hb _⟩
      · have HD : Hid (decide (L = M) = true) := Lib.hid (decide_eq_true (by
          have := htk.out
          rwa [List.take_of_length_le (by rw [← HL.out]; omega), List.take_of_length_le (by rw [← HM.out]; omega)] at this))
        go_wp2_with fail
        go_ret
        exact ⟨by rw [HD.out]; rfl, hb⟩
  · have HD : Hid (decide (L = M) = false) := Lib.hid (decide_eq_false (fun e => hlm (by rw [HL.out, HM.out, e])))
    have t1 : ((l : Int) != (m : Int)) = true := by simp; omega
    clear hlm
    go_enter Try.func31, Try.ntmps31
    go_wp2_with fail
    go_ret
    exact ⟨by rw [HD.out]; rfl, Below.refl _ _⟩
end Go.Proofs.Ytmmgidhaakkaoaa
