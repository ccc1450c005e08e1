/- Jacobi's symbol: the walk of Jacobi, and of what guards it. -/
import Derived.Test.YtdombadhmaanfaaVa
import Derived.Test.YtdombadhmaanfaaPr
namespace Go.Proofs.Ytdombadhmaanfaa
open Go Go.RowKit GhN

def validB (a n : Int) : Bool := decide (-1000000000 ≤ a ∧ a ≤ 1000000000 ∧ 1 ≤ n ∧ n ≤ 1000000000 ∧ n % 2 = 1)
theorem validB_yes {a n : Int} (h : validB a n = true) : -1000000000 ≤ a ∧ a ≤ 1000000000 ∧ 1 ≤ n ∧ n ≤ 1000000000 ∧ n % 2 = 1 := by
  unfold validB at h; exact of_decide_eq_true h
theorem validB_no {a n : Int} (h : validB a n = false) : ¬ (-1000000000 ≤ a ∧ a ≤ 1000000000 ∧ 1 ≤ n ∧ n ≤ 1000000000 ∧ n % 2 = 1) := by
  unfold validB at h; exact of_decide_eq_false h
theorem validB_mk {a n : Int} (h : -1000000000 ≤ a ∧ a ≤ 1000000000 ∧ 1 ≤ n ∧ n ≤ 1000000000 ∧ n % 2 = 1) : validB a n = true := by
  unfold validB; exact decide_eq_true h

theorem validB_inr {a n : Int} (h : validB a n = true) : inr a n 1 := by
  obtain ⟨h1, h2, h3, h4, h5⟩ := validB_yes h
  exact ⟨⟨h3, h5, .inl rfl⟩, h1, h2, h4⟩

theorem valid_any (a n s : Int) (w : World) :
    Calls Try.prog 53 #[symV a n s] w fun e w' => e = .returned (.bool (validB a n)) ∧ Below w.heap.size w w' := by
  cases hv : validB a n with
  | true =>
    obtain ⟨h1, h2, h3, h4, h5⟩ := validB_yes hv
    have h6 : (n % 2 == 1) = true := by simpa using h5
    clear hv h5
    go_enter Try.func53, Try.ntmps53
    go_wp2
    go_ret
    exact ⟨rfl, (Below.refl _ _).alloc (Nat.le_refl _) _⟩
  | false =>
    have h0 := validB_no hv
    clear hv
    by_cases h1 : -1000000000 ≤ a
    · by_cases h2 : a ≤ 1000000000
      · by_cases h3 : 1 ≤ n
        · by_cases h4 : n ≤ 1000000000
          · have h6 : (n % 2 == 1) = false := by simp; omega
            clear h0
            go_enter Try.func53, Try.ntmps53
            go_wp2
            go_ret
            exact ⟨rfl, (Below.refl _ _).alloc (Nat.le_refl _) _⟩
          · clear h0
            go_enter Try.func53, Try.ntmps53
            go_wp2
            go_ret
            exact ⟨rfl, (Below.refl _ _).alloc (Nat.le_refl _) _⟩
        · clear h0
          go_enter Try.func53, Try.ntmps53
          go_wp2
          go_ret
          exact ⟨rfl, (Below.refl _ _).alloc (Nat.le_refl _) _⟩
      · clear h0
        go_enter Try.func53, Try.ntmps53
        go_wp2
        go_ret
        exact ⟨rfl, (Below.refl _ _).alloc (Nat.le_refl _) _⟩
    · clear h0
      go_enter Try.func53, Try.ntmps53
      go_wp2
      go_ret
      exact ⟨rfl, (Below.refl _ _).alloc (Nat.le_refl _) _⟩

/-- the symbol as an integer of both -/
def jz (a n : Int) : Int := ji a n.toNat
theorem sv_one (a n : Int) : sv a n 1 = jz a n := by unfold sv jz; omega
theorem jz_cases (a n : Int) : jz a n = 0 ∨ jz a n = 1 ∨ jz a n = -1 := ji_cases _ _
theorem jz_bd (a n : Int) : -1 ≤ jz a n ∧ jz a n ≤ 1 := by rcases jz_cases a n with h | h | h <;> omega

theorem jacobi_yes (a n : Int) (w : World) (h : validB a n = true) :
    Calls Try.prog 18 #[.int .i64 a, .int .i64 n] w fun e w' => e = .returned (.tuple #[.int .i64 (jz a n), .int .i64 0]) ∧ Below w.heap.size w w' := by
  have HV := Lib.hid h
  clear h
  go_enter Try.func18, Try.ntmps18
  go_wp2_with (first | (go_at_call 53; refine (valid_any _ _ _ _).mono ?_; rw [HV.out]; rintro e w1 ⟨rfl, hb1⟩; have c1 := hb1.cell (p := ⟨w.heap.size, 0, none⟩) (by simp); have c2 := hb1.cell (p := ⟨w.heap.size, 1, none⟩) (by simp); have c3 := hb1.cell (p := ⟨w.heap.size, 2, none⟩) (by simp); simp at c1 c2 c3) | (go_at_call 54; refine (value_any _ _ _ _ (validB_inr HV.out)).mono ?_; rintro e w2 ⟨rfl, hb2⟩))
  go_ret2
  exact ⟨by rw [sv_one]; rfl, ((((Below.refl _ _).alloc (Nat.le_refl _) _).trans (hb1.mono (by simp))).trans (hb2.mono (by have := hb1.size; simp at this; omega)))⟩

theorem jacobi_no (a n : Int) (w : World) (h : validB a n = false) :
    Calls Try.prog 18 #[.int .i64 a, .int .i64 n] w fun e w' => e = .returned (.tuple #[.int .i64 0, .int .i64 2]) ∧ Below w.heap.size w w' := by
  have HV := Lib.hid h
  clear h
  go_enter Try.func18, Try.ntmps18
  go_wp2_with (go_at_call 53; refine (valid_any _ _ _ _).mono ?_; rw [HV.out]; rintro e w1 ⟨rfl, hb1⟩)
  go_ret2
  exact ⟨rfl, ((Below.refl _ _).alloc (Nat.le_refl _) _).trans (hb1.mono (by simp))⟩
end Go.Proofs.Ytdombadhmaanfaa
