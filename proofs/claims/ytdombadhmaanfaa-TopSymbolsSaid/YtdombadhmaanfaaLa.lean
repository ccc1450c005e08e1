/- What every law calls: awake. -/
import Derived.Test.YtdombadhmaanfaaTu
namespace Go.Proofs.Ytdombadhmaanfaa
open Go Go.RowKit GhN

theorem jz27 : jz 2 7 = 1 := by
  have h : jz 2 7 = jn 2 7 := ji_nat 2 7
  rw [h, jn_two (by decide)]; rfl

theorem awake_any (w : World) : Calls Try.prog 17 #[] w fun e w' => e = .returned (.bool true) ∧ Below w.heap.size w w' := by
  have HV := Lib.hid (show validB 2 7 = true from validB_mk (by decide))
  have HJ := Lib.hid jz27
  go_enter Try.func17, Try.ntmps17
  go_wp2_with (go_at_call 18; refine (jacobi_yes _ _ _ HV.out).mono ?_; rw [HJ.out]; rintro e w1 ⟨rfl, hb⟩)
  go_ret
  exact ⟨rfl, hb⟩
end Go.Proofs.Ytdombadhmaanfaa
