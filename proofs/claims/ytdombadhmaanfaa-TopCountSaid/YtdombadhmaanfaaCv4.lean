/- Curves: whether a point lies on a curve; all points. -/
import Derived.Test.YtdombadhmaanfaaCv3
import Derived.Test.YtdombadhmaanfaaPg
namespace Go.Proofs.Ytdombadhmaanfaa
open Go Go.RowKit GhN

set_option maxRecDepth 100000 in
set_option maxHeartbeats 1000000 in
theorem con_any (P A B x y : Nat) (w : World) (h1 : 5 ≤ P) (h2 : P ≤ 31) (hA : A < P) (hB : B < P) (hx : x < P) (hy : y < P) :
    Calls Try.prog 84 #[crv P A B, ptV x y false] w fun e w' => e = .returned (.bool (decide (y * y % P = cub A B x % P))) ∧ Below w.heap.size w w' := by
  have HE := Lib.hid (con_eq (P := P) (A := A) (B := B) (x := x) (y := y))
  have b1 := mulbd (x := (y : Int)) (y := (y : Int)) (a := 30) (b := 30) (by omega) (by omega) (by omega) (by omega)
  have b2 := mulbd (x := (x : Int)) (y := (x : Int)) (a := 30) (b := 30) (by omega) (by omega) (by omega) (by omega)
  have b3 := mulbd (y := (x : Int)) (b := 30) b2.1 b2.2 (by omega) (by omega)
  have b4 := mulbd (x := (A : Int)) (y := (x : Int)) (a := 30) (b := 30) (by omega) (by omega) (by omega) (by omega)
  obtain ⟨b1a, b1b⟩ := b1
  obtain ⟨b2a, b2b⟩ := b2
  obtain ⟨b3a, b3b⟩ := b3
  obtain ⟨b4a, b4b⟩ := b4
  go_enter Try.func84, Try.ntmps84
  go_wp2_with fail
  refine (cmod_any P A B _ _ h1 h2 (by omega) (by omega)).mono ?_; rintro e w1 ⟨rfl, hb1⟩
  have HB1 := Lib.hid hb1
  clear hb1
  go_wp2_with fail
  go_ret
  refine ⟨by first | rfl | (rw [HE.out]; rfl), ?_⟩
  exact pbt (((Below.refl _ _).alloc (Nat.le_refl _) _).alloc (by simp) _) HB1.out

/-- the points found in the rows before, and in the row -/
def rowN (P A B x : Nat) : Nat → Nat := sm (fun y => if (y * y) % P = cub A B x % P then 1 else 0)
def colN (P A B : Nat) : Nat → Nat := sm (fun x => sqs P (cub A B x))
theorem rowN_le (P A B x : Nat) : ∀ k, rowN P A B x k ≤ k
  | 0 => Nat.le_refl _
  | k + 1 => by
    have := rowN_le P A B x k
    unfold rowN at this ⊢
    rw [sm]
    split <;> omega
theorem colN_le (P A B : Nat) : ∀ k, colN P A B k ≤ P * k
  | 0 => Nat.le_refl _
  | k + 1 => by
    have := colN_le P A B k
    have h2 : sqs P (cub A B k) ≤ P := rowN_le P A B k P
    unfold colN at this ⊢
    rw [sm, Nat.mul_succ]
    omega
theorem rowN_yes {P A B x y : Nat} (h : decide (y * y % P = cub A B x % P) = true) : rowN P A B x (y + 1) = rowN P A B x y + 1 := by
  unfold rowN; rw [sm, if_pos (of_decide_eq_true h)]
theorem rowN_no {P A B x y : Nat} (h : decide (y * y % P = cub A B x % P) = false) : rowN P A B x (y + 1) = rowN P A B x y := by
  unfold rowN; rw [sm, if_neg (of_decide_eq_false h), Nat.add_zero]
theorem colN_next (P A B x : Nat) : colN P A B (x + 1) = colN P A B x + rowN P A B x P := rfl
theorem colN_all (P A B : Nat) : colN P A B P = npt P A B := rfl

/-- a slice of n points that the call owns -/
def QRel (w : World) (n : Nat) (v : Value) (wr : World) : Prop :=
  (∃ xs, wr.ownsRow w.heap.size 101 3 v n xs) ∧ Below w.heap.size w wr
theorem QRel.next {w wr w2 w1 : World} {n : Nat} {v v' : Value} {xs ys : List Value} (h : QRel w n v wr) (hv : wr.ownsRow w.heap.size 101 3 v n xs) (h2 : Below wr.heap.size wr w2)
    (hown : w1.ownsRow w.heap.size 101 3 v' (n + 1) (xs ++ ys)) (hg : w2.grownBy w1 v.ownBlock) : QRel w (n + 1) v' w1 := by
  obtain ⟨_, hb⟩ := h
  refine ⟨⟨_, hown⟩, ?_⟩
  refine (pbt hb h2).grown hg (by have := hb.size; have := h2.size; omega) (fun g e => ?_)
  rcases hv.2 with ⟨rfl, _⟩ | ⟨g', cap, cur, rfl, hb, _⟩
  · cases e
  · injection e with e; subst e; exact hb
theorem QRel.below {w wr w2 : World} {n : Nat} {v : Value} (h : QRel w n v wr) (h2 : Below wr.heap.size wr w2) : QRel w n v w2 :=
  ⟨by obtain ⟨xs, h1⟩ := h.1; exact ⟨xs, h1.kept (row := none) ⟨h2.os, h2.tape, h2.output, h2.size, fun k hk _ => h2.block k hk⟩ (by cases v.ownBlock <;> simp)⟩, pbt h.2 h2⟩
theorem QRel.form {w wr : World} {n : Nat} {v : Value} (h : QRel w n v wr) : ∃ A c, v = .slice A n c := by
  obtain ⟨xs, h1⟩ := h.1
  rcases h1.2 with ⟨rfl, h0⟩ | ⟨g, cap, cur, rfl, _⟩
  · exact ⟨none, 0, by rw [h0]⟩
  · exact ⟨_, cap, rfl⟩
theorem pt_news {w w0 : World} {x y : Int} {f : Bool} {g : Nat} {T : TypeId} (hg : w0.heap.size = g) (hw : w = w0.alloc (Obj.cells #[.int .i64 x, .int .i64 y, .bool f] T)) : ∀ j u, ([Value.int .i64 x, .int .i64 y, .bool f] : List Value)[j]? = some u → w.cell? ((⟨g, 0, none⟩ : Addr).add j) = some u := by
  intro j u hu
  rw [padd, hw, ← hg]
  rcases j with _ | _ | _ | j
  · simp at hu; subst hu; simp
  · simp at hu; subst hu; simp
  · simp at hu; subst hu; simp
  · simp at hu
theorem pt_one {x y : Int} {f : Bool} : ∀ u ∈ ([Value.int .i64 x, .int .i64 y, .bool f] : List Value), u.oneCell' = true := by
  intro u hu; simp at hu; rcases hu with rfl | rfl | rfl <;> simp [Value.oneCell']

theorem infoPt : (Try.prog.info? 101).map (fun i => (i.zero, i.size, i.bytes)) = some (some (.agg #[.int .i64 0, .int .i64 0, .bool false]), 3, 24) := by kernel_rfl


abbrev cvW (w : World) (P A B : Nat) : World := w.alloc (Obj.cells #[.int .i64 (P : Int), .int .i64 (A : Int), .int .i64 (B : Int)] 57)
theorem QRel.cells {w wr : World} {P A B n : Nat} {v : Value} (h : QRel (cvW w P A B) n v wr) :
    wr.cell? ⟨w.heap.size, 0, none⟩ = some (.int .i64 (P : Int)) ∧ wr.cell? ⟨w.heap.size, 1, none⟩ = some (.int .i64 (A : Int)) ∧ wr.cell? ⟨w.heap.size, 2, none⟩ = some (.int .i64 (B : Int)) ∧ w.heap.size < wr.heap.size := by
  have hs := h.2.size
  have hlt : w.heap.size < (cvW w P A B).heap.size := by simp
  refine ⟨(h.2.cell (p := ⟨w.heap.size, 0, none⟩) hlt).trans (by simp), (h.2.cell (p := ⟨w.heap.size, 1, none⟩) hlt).trans (by simp), (h.2.cell (p := ⟨w.heap.size, 2, none⟩) hlt).trans (by simp), by omega⟩

set_option maxRecDepth 100000 in
set_option maxHeartbeats 2000000 in
theorem cpoints_any (P A B : Nat) (w : World) (h1 : 5 ≤ P) (h2 : P ≤ 31) (hA : A < P) (hB : B < P) :
    Calls Try.prog 65 #[crv P A B] w fun e w' => (∃ Ad c, e = .returned (.slice Ad ((npt P A B + 1 : Nat) : Nat) c)) ∧ Below w.heap.size w w' := by
  have HON : Hid (∀ x y w', x < P → y < P → Calls Try.prog 84 #[crv P A B, ptV (x : Nat) (y : Nat) false] w' fun e w'' => e = .returned (.bool (decide (y * y % P = cub A B x % P))) ∧ Below w'.heap.size w' w'') := Lib.hid (fun x y w' hx hy => con_any P A B x y w' h1 h2 hA hB hx hy)
  have HAL := Lib.hid (colN_all P A B)
  have HPP : Hid (∀ k j, k ≤ P → j ≤ P → colN P A B k + rowN P A B k j ≤ 2000) := Lib.hid (fun k j hk hj => by
    have e1 := Nat.mul_le_mul (show P ≤ 31 by omega) (show k ≤ 31 by omega)
    have e2 := colN_le P A B k
    have e3 := rowN_le P A B k j
    omega)
  clear hA hB
  obtain ⟨i0, hi, hz0, hz1, hz2⟩ := info_parts infoPt
  go_enter Try.func65, Try.ntmps65
  go_wp2_with fail
  go_loopw [3, 9] (fun v x wr => ∃ k : Nat, k ≤ P ∧ Hid (QRel (cvW w P A B) (colN P A B k) v wr) ∧ x = .int .i64 (k : Int)) (fun _ x _ => P - (intOf x).toNat)
  case atStart => exact ⟨0, by omega, Lib.hid ⟨⟨[], World.ownsRow_nil _ _ _ _⟩, Below.refl _ _⟩, rfl⟩
  case round =>
    obtain ⟨k, hk, hrl, rfl⟩ := hrel
    obtain ⟨c0, c1, c2, hwr⟩ := hrl.out.cells
    by_cases hlt : k < P
    · have hlti : (k : Int) < (P : Int) := by omega
      have HPK := Lib.hid (fun j => HPP.out k j hk)
      have HCN := Lib.hid (colN_next P A B k)
      go_wp2_with fail
      go_loopw [3, 14] (fun v x wr2 => ∃ j : Nat, j ≤ P ∧ Hid (QRel (cvW w P A B) (colN P A B k + rowN P A B k j) v wr2) ∧ x = .int .i64 (j : Int)) (fun _ x _ => P - (intOf x).toNat)
      case atStart => exact ⟨0, by omega, hrl, rfl⟩
      case round =>
        obtain ⟨j, hj, hrl2, rfl⟩ := hrel
        clear hrl c0 c1 c2 hwr
        obtain ⟨d0, d1, d2, hws⟩ := hrl2.out.cells
        by_cases hlt2 : j < P
        · have hlti2 : (j : Int) < (P : Int) := by omega
          have hal : Below wr.heap.size wr (wr.alloc (Obj.cells #[.int .i64 (k : Int), .int .i64 (j : Int), .bool false] 101)) := (Below.refl _ _).alloc (Nat.le_refl _) _
          have e0 := (hal.cell (p := ⟨w.heap.size, 0, none⟩) hws).trans d0
          have e1 := (hal.cell (p := ⟨w.heap.size, 1, none⟩) hws).trans d1
          have e2 := (hal.cell (p := ⟨w.heap.size, 2, none⟩) hws).trans d2
          have HAL2 := Lib.hid hal
          clear hal
          have HCALL := Lib.hid (fun w' => HON.out k j w' hlt hlt2)
          obtain ⟨b, hb⟩ : ∃ b, decide (j * j % P = cub A B k % P) = b := ⟨_, rfl⟩
          cases b with
          | false =>
            have HN := Lib.hid (rowN_no hb)
            rw [hb] at HCALL
            clear hb
            go_wp2_with fail
            refine (HCALL.out _).mono ?_; rintro e w3 ⟨rfl, hb3⟩
            have HQ : Hid (QRel (cvW w P A B) (colN P A B k + rowN P A B k (j + 1)) u3 w3) := Lib.hid (by rw [HN.out]; exact hrl2.out.below (pbt HAL2.out hb3))
            clear hb3
            go_wp2_with fail
            go_roundw
            case rel => exact ⟨j + 1, by omega, HQ, by go_num⟩
            case measure => simp [intOf]; omega
          | true =>
            have HN := Lib.hid (rowN_yes hb)
            rw [hb] at HCALL
            clear hb
            go_wp2_with fail
            refine (HCALL.out _).mono ?_; rintro e w3 ⟨rfl, hb3⟩
            have hlt3 : wr.heap.size < (wr.alloc (Obj.cells #[.int .i64 (k : Int), .int .i64 (j : Int), .bool false] 101)).heap.size := by simp
            have f0 := (hb3.cell (p := ⟨wr.heap.size, 0, none⟩) hlt3).trans (show _ = some (Value.int .i64 (k : Int)) by simp)
            have f1 := (hb3.cell (p := ⟨wr.heap.size, 1, none⟩) hlt3).trans (show _ = some (Value.int .i64 (j : Int)) by simp)
            have f2 := (hb3.cell (p := ⟨wr.heap.size, 2, none⟩) hlt3).trans (show _ = some (Value.bool false) by simp)
            have HB3 := Lib.hid (pbt HAL2.out hb3)
            clear hb3 hlt3
            obtain ⟨xs, hxs⟩ := (hrl2.out.below HB3.out).1
            have HXS := Lib.hid hxs
            have HOW := Lib.hid (hxs.alloc (Obj.cells #[.int .i64 (k : Int), .int .i64 (j : Int), .bool false] 101))
            have HNE := Lib.hid (pt_news (w := w3.alloc (Obj.cells #[.int .i64 (k : Int), .int .i64 (j : Int), .bool false] 101)) (w0 := w3) (x := (k : Int)) (y := (j : Int)) (f := false) (g := w3.heap.size) rfl rfl)
            have H1 := Lib.hid (pt_one (x := (k : Int)) (y := (j : Int)) (f := false))
            have H3 : Hid (colN P A B k + rowN P A B k j + 1 ≤ maxLen) := Lib.hid (by have := HPK.out j hj; unfold maxLen; omega)
            have H4 : Hid ((colN P A B k + rowN P A B k j + 1) * 24 ≤ 140737488355328) := Lib.hid (by have := HPK.out j hj; omega)
            have H5 : Hid ((cvW w P A B).heap.size ≤ (w3.alloc (Obj.cells #[.int .i64 (k : Int), .int .i64 (j : Int), .bool false] 101)).heap.size) := Lib.hid (by have := HB3.out.size; have := hrl2.out.2.size; simp at *; omega)
            clear hxs
            go_wp2_with (at_builtin; refine wpList_append_own _ rfl _ _ 54 rfl (cvW w P A B).heap.size 101 i0 (.agg #[.int .i64 0, .int .i64 0, .bool false]) 3 24 Try.underlying54 hi hz0 hz1 hz2 rfl (by decide) _ (colN P A B k + rowN P A B k j) xs rfl HOW.out ⟨w3.heap.size, 0, none⟩ 1 1 [.int .i64 (k : Int), .int .i64 (j : Int), .bool false] rfl rfl HNE.out H1.out H3.out H4.out H5.out ?_; intro v' w4 hown' hgrow _)
            have HQ : Hid (QRel (cvW w P A B) (colN P A B k + rowN P A B k (j + 1)) v' w4) := Lib.hid (by
              rw [HN.out, ← Nat.add_assoc]
              exact (hrl2.out.below HB3.out).next HXS.out ((Below.refl _ _).alloc (Nat.le_refl _) _) hown' hgrow)
            clear hown' hgrow
            go_wp2_with fail
            go_roundw
            case rel => exact ⟨j + 1, by omega, HQ, by go_num⟩
            case measure => simp [intOf]; omega
        · have hjP : j = P := by omega
          subst hjP
          have HQ : Hid (QRel (cvW w j A B) (colN j A B (k + 1)) u3 wr) := Lib.hid (by rw [HCN.out]; exact hrl2.out)
          go_wp2_with fail
          go_roundw
          case rel => exact ⟨k + 1, by omega, HQ, by go_num⟩
          case measure => simp [intOf]; omega
    · have hkP : k = P := by omega
      subst hkP
      have HL : Hid (npt k A B ≤ 2000) := Lib.hid (by rw [← HAL.out]; have := HPP.out k 0 (Nat.le_refl _) (by omega); omega)
      rw [HAL.out] at hrl
      go_wp2_with fail
      refine (cfar _).mono ?_; rintro e w3 ⟨rfl, hb3⟩
      have HB3 := Lib.hid hb3
      clear hb3
      obtain ⟨xs, hxs⟩ := (hrl.out.below HB3.out).1
      have HXS := Lib.hid hxs
      have HOW := Lib.hid (hxs.alloc (Obj.cells #[.int .i64 0, .int .i64 0, .bool true] 101))
      have HNE := Lib.hid (pt_news (w := w3.alloc (Obj.cells #[.int .i64 0, .int .i64 0, .bool true] 101)) (w0 := w3) (x := 0) (y := 0) (f := true) (g := w3.heap.size) rfl rfl)
      have H1 := Lib.hid (pt_one (x := 0) (y := 0) (f := true))
      have H3 : Hid (npt k A B + 1 ≤ maxLen) := Lib.hid (by have := HL.out; unfold maxLen; omega)
      have H4 : Hid ((npt k A B + 1) * 24 ≤ 140737488355328) := Lib.hid (by have := HL.out; omega)
      have H5 : Hid ((cvW w k A B).heap.size ≤ (w3.alloc (Obj.cells #[.int .i64 0, .int .i64 0, .bool true] 101)).heap.size) := Lib.hid (by have := HB3.out.size; have := hrl.out.2.size; simp at *; omega)
      clear hxs
      go_wp2_with (at_builtin; refine wpList_append_own _ rfl _ _ 54 rfl (cvW w k A B).heap.size 101 i0 (.agg #[.int .i64 0, .int .i64 0, .bool false]) 3 24 Try.underlying54 hi hz0 hz1 hz2 rfl (by decide) _ (npt k A B) xs rfl HOW.out ⟨w3.heap.size, 0, none⟩ 1 1 [.int .i64 0, .int .i64 0, .bool true] rfl rfl HNE.out H1.out H3.out H4.out H5.out ?_; intro v' w4 hown' hgrow _)
      have HQ : Hid (QRel (cvW w k A B) (npt k A B + 1) v' w4) := Lib.hid ((hrl.out.below HB3.out).next HXS.out ((Below.refl _ _).alloc (Nat.le_refl _) _) hown' hgrow)
      clear hown' hgrow
      obtain ⟨A', c', rfl⟩ := HQ.out.form
      go_wp2_with fail
      go_ret
      exact ⟨⟨A', c', rfl⟩, pbt ((Below.refl _ _).alloc (Nat.le_refl _) _) HQ.out.2⟩
end Go.Proofs.Ytdombadhmaanfaa
