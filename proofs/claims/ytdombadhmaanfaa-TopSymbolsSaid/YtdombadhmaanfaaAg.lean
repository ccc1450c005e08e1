/- lift.Again at one divided by an odd prime, in base 2: the digits come again from the first on, after the order of 2. -/
import Derived.Test.YtdombadhmaanfaaOd
import Derived.Test.YtdombadhmaanfaaIx
import Derived.WalkKit
import Derived.Lib.Hide
import Derived.IntWalk
import Derived.BigQuiet
import Derived.Deep.QuietTactic
import Derived.RegionTactic
import Derived.ChangeAlike
import Derived.Maps.OwnSet
import Derived.Maps.OwnOps
import Derived.DeepKeys4
import Derived.Test.YtdombadhmaanfaaProg
namespace Go.Proofs.Ytdombadhmaanfaa
open Go Go.RowKit GhN

theorem agbt {a b c : World} (h : Below a.heap.size a b) (k : Below b.heap.size b c) : Below a.heap.size a c := h.trans (k.mono h.size)

theorem ibdrew {B : Nat} {a w : World} (h : Below B a w) : Below B a w.drew := ⟨h.os, h.tape, h.output, h.size, h.block⟩
theorem agcell {W w1 : World} (hb : Below W.heap.size W w1) : (∀ b o, b < W.heap.size → w1.cell? ⟨b, o, none⟩ = W.cell? ⟨b, o, none⟩) ∧ (∀ b o, b < W.heap.size → w1.frozen? ⟨b, o, none⟩ = W.frozen? ⟨b, o, none⟩) :=
  ⟨fun b o h => hb.cell (p := ⟨b, o, none⟩) h, fun b o h => hb.frozen (p := ⟨b, o, none⟩) h⟩
abbrev ratV (a b p : Int) : Value := .agg #[.int .i64 a, .int .i64 b, .int .i64 p]

theorem tmod_ne (x m : Int) : (x.tmod m != 0) = (x % m != 0) := by
  have h : x.tmod m = 0 ↔ x % m = 0 := by rw [← Int.dvd_iff_tmod_eq_zero, ← Int.dvd_iff_emod_eq_zero]
  rw [Bool.eq_iff_iff, bne_iff_ne, bne_iff_ne, Ne, Ne, h]

/-- the step in base 2 -/
theorem tdiv_of (x : Int) (h : x % 2 = 0) : x.tdiv 2 = x / 2 := Int.tdiv_eq_ediv_of_dvd (Int.dvd_of_emod_eq_zero h)
theorem lst_w (a p : Int) (h1 : 3 ≤ p) (h2 : p ≤ 1000) (h3 : -1000 ≤ a) (h4 : a ≤ 1) : wrap64 (lst p a) = lst p a := by
  have : -1000 ≤ lst p a ∧ lst p a ≤ 1000 := by unfold lst; split <;> omega
  unfold wrap64; omega
theorem step_any (a p : Int) (w : World) (h1 : 3 ≤ p) (h2 : p ≤ 1000) (h3 : -1000 ≤ a) (h4 : a ≤ 1) (hp : p % 2 = 1) :
    Calls Try.prog 62 #[ratV a p 2] w fun e w' => ∃ d : Int, e = .returned (.tuple #[.int .i64 d, ratV (lst p a) p 2]) ∧ Below w.heap.size w w' := by
  have HP := Lib.hid hp
  clear hp
  go_enter Try.func62, Try.ntmps62
  go_wp2_with fail
  go_loop [4] (fun d => d = .int .i64 0 ∨ (d = .int .i64 1 ∧ Hid (a % 2 ≠ 0))) (fun d => 1 - (intOf d).toNat)
  case atStart => exact .inl rfl
  case round =>
    rcases hrel with rfl | ⟨rfl, ha⟩
    · by_cases ha : a % 2 = 0
      · have t1 : (a.tmod 2 != 0) = false := by rw [tmod_ne, ha]; rfl
        have hl : a.tdiv 2 = lst p a := by unfold lst; rw [if_pos ha, tdiv_of a ha]
        have hw := lst_w a p h1 h2 h3 h4
        clear ha
        go_wp2_with fail
        go_region
        all_goals go_wp2_with fail
        all_goals
          refine bodyPost_ret (v := .tuple #[.int .i64 0, ratV (lst p a) p 2]) (by simp [results, Try.results62, go_sem]) rfl ⟨0, rfl, ?_⟩
          exact ibdrew (((Below.refl _ _).alloc (Nat.le_refl _) _).alloc (by simp) _)
      · have t1 : (a.tmod 2 != 0) = true := by rw [tmod_ne]; simpa using ha
        have HA := Lib.hid ha
        clear ha
        go_wp2_with fail
        go_round
        case rel => exact .inr ⟨rfl, HA⟩
        case measure => simp [intOf]
    · have h0 : (a - p) % 2 = 0 := by have := ha.out; have := HP.out; omega
      have t1 : ((a - p).tmod 2 != 0) = false := by rw [tmod_ne, h0]; rfl
      have hl : (a - p).tdiv 2 = lst p a := by unfold lst; rw [if_neg ha.out, tdiv_of _ h0]
      have hw := lst_w a p h1 h2 h3 h4
      clear h0
      go_wp2_with fail
      go_region
      all_goals go_wp2_with fail
      all_goals
        refine bodyPost_ret (v := .tuple #[.int .i64 1, ratV (lst p a) p 2]) (by simp [results, Try.results62, go_sem]) rfl ⟨1, rfl, ?_⟩
        exact ibdrew (((Below.refl _ _).alloc (Nat.le_refl _) _).alloc (by simp) _)

theorem own_lit {w : World} {base : Nat} (xs : List Int) (h1 : base ≤ w.heap.size) (h2 : xs.length ≤ maxLen) : Own (w.alloc (Obj.cells (ints xs).toArray 3)) base (some ⟨w.heap.size, 0, none⟩) xs.length xs.length xs := by
  have h0 := World.ownsRow_lit (base := base) (e := 3) (size := 1) w (ints xs).toArray xs.length h1 h2 (by simp [ints_len])
  exact h0
def lpB (p : Int) : Bool := decide (p ∈ [(2 : Int), 3, 5, 7, 11, 13])
theorem lprime_any (p : Int) (w : World) :
    Calls Try.prog 82 #[.int .i64 p] w fun e w' => e = .returned (.bool (lpB p)) ∧ Below w.heap.size w w' := by
  have hrow := IRow.of_own (own_lit (w := w) (base := w.heap.size) [2, 3, 5, 7, 11, 13] (Nat.le_refl _) (by decide))
  have HR := Lib.hid hrow
  clear hrow
  go_enter Try.func82, Try.ntmps82
  go_wp2_with fail
  refine (contains_any _ 6 6 [2, 3, 5, 7, 11, 13] p _ HR.out (by omega)).mono ?_; rw [show decide (p ∈ [(2 : Int), 3, 5, 7, 11, 13]) = lpB p from rfl]; rintro e w1 ⟨rfl, hb1⟩
  go_wp2_with fail
  go_ret
  exact ⟨rfl, agbt ((Below.refl _ _).alloc (Nat.le_refl _) _) hb1⟩

/-- the ratio is one that may be asked for -/
theorem valid_yes (p : Int) (w : World) (h1 : 3 ≤ p) (h2 : p ≤ 1000) (hp : p % 2 = 1) :
    Calls Try.prog 61 #[ratV 1 p 2] w fun e w' => e = .returned (.bool true) ∧ Below w.heap.size w w' := by
  have t1 : (p % 2 != 0) = true := by rw [hp]; rfl
  have HL : Hid (∀ w', Calls Try.prog 82 #[.int .i64 2] w' fun e w'' => e = .returned (.bool true) ∧ Below w'.heap.size w' w'') := Lib.hid (fun w' => lprime_any 2 w')
  clear hp
  go_enter Try.func61, Try.ntmps61
  go_wp2_with fail
  refine (HL.out _).mono ?_; rintro e w1 ⟨rfl, hb1⟩
  have hb := agbt ((Below.refl _ _).alloc (Nat.le_refl _) _) hb1
  obtain ⟨hc, hf⟩ := agcell hb1
  have HB := Lib.hid hb
  clear hb hb1
  go_wp2_with fail
  go_ret
  exact ⟨rfl, HB.out⟩
end Go.Proofs.Ytdombadhmaanfaa
