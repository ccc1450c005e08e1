/- slices.Equal of equal slices of pairs. -/
import Derived.Test.YtmmgidhaakkaoaaCoB
import Derived.Test.YtmmgidhaakkaoaaIh
import Derived.ChangeKeysEq
namespace Go.Proofs.Ytmmgidhaakkaoaa
open Go Go.RowKit


theorem eq_pair (x m : Int) (w : World) : (Op.equalIn 10000 29 (.agg #[.int .i64 x, .int .i64 m]) (.agg #[.int .i64 x, .int .i64 m])).run Try.prog w = .ok true w := by
  obtain ⟨i0, hi, _⟩ := info_parts infoI
  have hc : Try.prog.cellsOf 3 = 1 := by kernel_rfl
  rw [run_equalIn_array w 9999 _ _ Try.underlying29 hi, hc]
  simp [List.range, List.range.loop, Op.eqItems, go_sem]

set_option maxHeartbeats 400000 in
/-- two slices of pairs that read alike are equal -/
theorem equal_pairs (A B : Option Addr) (l c d : Nat) (L : List (Int × Int)) (w : World) (h : Row w w.heap.size A l L) (g : Row w w.heap.size B l L) (hl : l ≤ 1000000) :
    Calls Try.prog 25 #[.slice A l c, .slice B l d] w fun e w' => e = .returned (.bool true) ∧ Below w.heap.size w w' := by
  have HR := Lib.hid h
  have HG := Lib.hid g
  clear h g
  go_enter Try.func25, Try.ntmps25
  go_wp2_with fail
  go_loopw [13] (fun x wr => ∃ k : Nat, k ≤ l ∧ x = .int .i64 (k : Int) ∧ Below w.heap.size w wr) (fun x _ => l - (intOf x).toNat)
  case atStart => exact ⟨0, by omega, rfl, Below.refl _ _⟩
  case round =>
    obtain ⟨k, hk, rfl, hb⟩ := hrel
    by_cases hlt : k < l
    · obtain ⟨b, off, x, m, hx, rfl, hB, g1, g2⟩ := (HR.out.below hb).at_ hlt
      obtain ⟨b', off', y, n, hy, rfl, hB', g3, g4⟩ := (HG.out.below hb).at_ hlt
      obtain ⟨rfl, rfl⟩ : x = y ∧ m = n := by rw [hx] at hy; injection hy with hy; injection hy with e1 e2; exact ⟨e1, e2⟩
      have hki : (k : Int) < (l : Int) := by omega
      have heq := eq_pair x m
      clear hx hy
      go_wp2_with fail
      go_region
      go_wp2_with fail
      go_roundw
      case rel => exact ⟨k + 1, by omega, by go_num, hb.drew⟩
      case measure => simp [intOf]; omega
    · go_wp2_with fail
      go_ret
      exact ⟨rfl, hb⟩
end Go.Proofs.Ytmmgidhaakkaoaa
