/- TopCount: the walk. -/
import Derived.Test.YtdombadhmaanfaaCv6
namespace Go.Proofs.Ytdombadhmaanfaa
open Go Go.RowKit GhN Go.Maps

theorem npt511 : npt 5 1 1 + 1 = 9 := by decide +kernel
set_option maxHeartbeats 1000000 in
theorem bends_true (w : World) : Calls Try.prog 41 #[] w fun e w' => e = .returned (.bool true) ∧ Below w.heap.size w w' := by
  have HP : Hid (∀ w', Calls Try.prog 42 #[crv 5 1 1] w' fun e w'' => (∃ Ad c, e = .returned (.tuple #[.slice Ad 9 c, .int .i64 0])) ∧ Below w'.heap.size w' w'') := Lib.hid (fun w' => by
    have := cPoints_yes 5 1 1 w' (by decide) (by decide) (by decide) (by decide)
    rw [npt511] at this
    exact this)
  go_enter Try.func41, Try.ntmps41
  go_wp2_with fail
  refine (HP.out _).mono ?_; rintro e w1 ⟨⟨Ad, c, rfl⟩, hb1⟩
  have HB1 := Lib.hid hb1
  clear hb1
  go_wp2_with fail
  go_ret
  exact ⟨rfl, HB1.out⟩

theorem jsum_bd (p A B : Nat) : ∀ k : Nat, -(k : Int) ≤ jsum p A B k ∧ jsum p A B k ≤ k
  | 0 => by simp [jsum]
  | k + 1 => by
    have := jsum_bd p A B k
    rw [jsum]
    rcases jn_cases (cub A B k) p with h | h | h <;> omega

abbrev rcW (w : World) (P A B : Nat) : World := w.alloc (Obj.cells #[.int .i64 (P : Int), .int .i64 (A : Int), .int .i64 (B : Int)] 52)
theorem rcW_cells {w wr : World} {P A B : Nat} (h : Below (rcW w P A B).heap.size (rcW w P A B) wr) :
    wr.cell? ⟨w.heap.size, 0, none⟩ = some (.int .i64 (P : Int)) ∧ wr.cell? ⟨w.heap.size, 1, none⟩ = some (.int .i64 (A : Int)) ∧ wr.cell? ⟨w.heap.size, 2, none⟩ = some (.int .i64 (B : Int)) := by
  have hlt : w.heap.size < (rcW w P A B).heap.size := by simp
  exact ⟨(h.cell (p := ⟨w.heap.size, 0, none⟩) hlt).trans (by simp), (h.cell (p := ⟨w.heap.size, 1, none⟩) hlt).trans (by simp), (h.cell (p := ⟨w.heap.size, 2, none⟩) hlt).trans (by simp)⟩

theorem count_no (p a b : Int) (w : World) (h : vcB p a b = false) : Calls Try.prog 11 #[crv p a b] w fun e w' => e = .returned (.bool true) ∧ Below w.heap.size w w' := by
  have HV : Hid (∀ w', Calls Try.prog 40 #[crv p a b] w' fun e w'' => e = .returned (.bool false) ∧ Below w'.heap.size w' w'') := Lib.hid (fun w' => by have := rvalid9_any p a b w'; rwa [h] at this)
  clear h
  go_enter Try.func11, Try.ntmps11
  go_wp2_with fail
  refine (HV.out _).mono ?_; rintro e w1 ⟨rfl, hb1⟩
  have HB1 := Lib.hid (pbt ((Below.refl _ _).alloc (Nat.le_refl _) _) hb1)
  clear hb1
  go_wp2_with fail
  refine (bends_true _).mono ?_; rintro e w2 ⟨rfl, hb2⟩
  have HB2 := Lib.hid (pbt HB1.out hb2)
  clear hb2
  go_wp2_with fail
  go_ret
  exact ⟨rfl, HB2.out⟩
end Go.Proofs.Ytdombadhmaanfaa
