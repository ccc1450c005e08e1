/- TopGolden: the plain law. -/
import Derived.Test.YtdombadhmaanfaaPcl
import Derived.Test.YtdombadhmaanfaaNml
import Derived.Test.YtdombadhmaanfaaEqi
namespace Go.Proofs.Ytdombadhmaanfaa
open Go Go.RowKit GhN

theorem sqB_iff {z : Int} : sqB z = true ↔ ∃ x : Nat, ((x * x : Nat) : Int) = z := by
  unfold sqB
  rw [Bool.and_eq_true, decide_eq_true_iff, decide_eq_true_iff]
  constructor
  · rintro ⟨h1, h2⟩
    exact ⟨isq z.toNat, by rw [h2]; omega⟩
  · rintro ⟨x, hx⟩
    have h0 : 0 ≤ z := by rw [← hx]; exact Int.natCast_nonneg _
    have e : z.toNat = x * x := by omega
    refine ⟨h0, ?_⟩
    rw [e]
    have e3 : isq (x * x) = x := (isq_uniq (Nat.le_refl _) (by rw [Nat.add_mul, Nat.mul_add]; omega)).symm
    rw [e3]
theorem sl_sol (y : Nat) (hy : 1 ≤ y) : (slB 4 y = true ∨ slB (-4) y = true) ↔ solB y := by
  unfold slB solB
  rw [sqB_iff, sqB_iff]
  constructor
  · rintro (⟨x, hx⟩ | ⟨x, hx⟩)
    · refine ⟨x, .inl ?_⟩
      rw [Int.mul_assoc, ← Int.natCast_mul] at hx
      omega
    · refine ⟨x, .inr ?_⟩
      rw [Int.mul_assoc, ← Int.natCast_mul] at hx
      omega
  · rintro ⟨x, h | h⟩
    · refine .inl ⟨x, ?_⟩
      rw [Int.mul_assoc, ← Int.natCast_mul]
      omega
    · refine .inr ⟨x, ?_⟩
      rw [Int.mul_assoc, ← Int.natCast_mul]
      omega
theorem sl_zero : slB 4 0 = true := sqB_iff.2 ⟨2, rfl⟩
/-- met just where the numeral has at most one index -/
theorem gold_iff {y : Nat} (hy : y ≤ 5000) : (slB 4 y || slB (-4) y) = decide ((encF 60 y).length < 2) := by
  rcases Nat.eq_zero_or_pos y with rfl | h1
  · rw [sl_zero, encF_zero]; rfl
  · rw [Bool.eq_iff_iff, Bool.or_eq_true, decide_eq_true_iff, sl_sol y h1, solB_iff y h1]
    exact (encF_one (by decide) h1 (Nat.lt_of_le_of_lt hy (Nat.lt_of_lt_of_le fib20 (fib_mono (by decide))))).symm
/-- the y of a list -/
def ysB (D : List (Int × Int)) (y : Nat) : Bool := D.any (fun p => p.2 == (y : Int))
theorem ysB_sl (n : Int) (y : Nat) : ∀ k, ysB (slL n k) y = (decide (y < k) && slB n y)
  | 0 => by simp [ysB, slL]
  | k + 1 => by
    have ih := ysB_sl n y k
    unfold ysB at *
    rw [slL_succ, List.any_append, ih]
    by_cases hk : y = k
    · subst hk
      cases h : slB n y <;> simp [h]
    · have e1 : decide (y < k + 1) = decide (y < k) := by rw [Bool.eq_iff_iff, decide_eq_true_iff, decide_eq_true_iff]; omega
      rw [e1]
      cases h : slB n k with
      | false => simp
      | true =>
        have : (((k : Nat) : Int) == (y : Int)) = false := by simp; omega
        simp [this]
def golD (m : Nat) : List (Int × Int) := slL 4 (m + 1) ++ slL (-4) (m + 1)
theorem golD_ys {m y : Nat} (h : y ≤ m) : ysB (golD m) y = (slB 4 y || slB (-4) y) := by
  have e : ysB (golD m) y = (ysB (slL 4 (m + 1)) y || ysB (slL (-4) (m + 1)) y) := by unfold ysB golD; rw [List.any_append]
  rw [e, ysB_sl, ysB_sl, decide_eq_true (by omega), Bool.true_and, Bool.true_and]
theorem slL_y {n : Int} {k : Nat} {p : Int × Int} (h : p ∈ slL n k) : 0 ≤ p.2 ∧ p.2 < k := by
  unfold slL at h
  rw [List.mem_map] at h
  obtain ⟨y, hy, rfl⟩ := h
  rw [List.mem_filter, List.mem_range] at hy
  exact ⟨Int.natCast_nonneg _, Int.ofNat_lt.2 hy.1⟩
theorem golD_y {m : Nat} {p : Int × Int} (h : p ∈ golD m) : 0 ≤ p.2 ∧ p.2 ≤ m := by
  unfold golD at h
  rw [List.mem_append] at h
  rcases h with h | h <;> have := slL_y h <;> omega
theorem ysB_take {D : List (Int × Int)} {k : Nat} {x : Int} {y : Nat} (h : D[k]? = some (x, (y : Int))) : (fun j => ysB (D.take (k + 1)) j) = (fun j => if j = y then true else ysB (D.take k) j) := by
  funext j
  unfold ysB
  rw [ptake_at h, List.any_append]
  by_cases e : j = y
  · subst e; simp
  · rw [if_neg e]
    have : ((y : Int) == (j : Int)) = false := by simp; omega
    simp [this]

/-- the cells of a slice of bools -/
def bl (f : Nat → Bool) (n : Nat) : List Value := (List.range n).map (fun k => Value.bool (f k))
theorem bl_len (f : Nat → Bool) (n : Nat) : (bl f n).length = n := by simp [bl]
theorem bl_at (f : Nat → Bool) {n k : Nat} (h : k < n) : (bl f n)[k]? = some (.bool (f k)) := by simp [bl, h]
theorem bl_set (f : Nat → Bool) (n k : Nat) (x : Bool) : (bl f n).set k (.bool x) = bl (fun j => if j = k then x else f j) n := by
  apply List.ext_getElem?
  intro j
  rw [List.getElem?_set]
  by_cases hk : k = j
  · subst hk
    rw [if_pos rfl, bl_len]
    by_cases hj : k < n
    · rw [if_pos hj, bl_at _ hj]; simp
    · rw [if_neg hj]; simp [bl, hj]
  · rw [if_neg hk]
    by_cases hj : j < n
    · rw [bl_at _ hj, bl_at _ hj, if_neg (Ne.symm hk)]
    · simp [bl, hj]
theorem bl_zero (n : Nat) : (madeCells #[Value.bool false] n).toList = bl (fun _ => false) n := by
  rw [toList_madeCells_one]
  apply List.ext_getElem?
  intro j
  by_cases hj : j < n <;> simp [bl, hj]
theorem infoB : (Try.prog.info? 4).map (fun i => (i.zero, i.size, i.bytes)) = some (some (.bool false), 1, 1) := by kernel_rfl
/-- a row of bools of the call's own -/
def BOwn (w : World) (base g n : Nat) (f : Nat → Bool) : Prop := w.ownsRow base 4 1 (.slice (some ⟨g, 0, none⟩) n n) n (bl f n)
theorem BOwn.made {w : World} {base n : Nat} (h1 : base ≤ w.heap.size) (h2 : n ≤ maxLen) : BOwn (w.alloc (Obj.cells (madeCells #[Value.bool false] n) 4)) base w.heap.size n (fun _ => false) := by
  have h0 := World.ownsRow_lit (base := base) (e := 4) (size := 1) w (madeCells #[Value.bool false] n) n h1 h2 (by simp [madeCells])
  rw [bl_zero] at h0
  exact h0
theorem BOwn.cell {w : World} {base g n k : Nat} {f : Nat → Bool} (h : BOwn w base g n f) (hk : k < n) : w.cell? ⟨g, k, none⟩ = some (.bool (f k)) ∧ w.frozen? ⟨g, k, none⟩ = false ∧ g < w.heap.size ∧ base ≤ g := by
  have g1 := h.cellAt k (by omega)
  rw [bl_at _ hk] at g1
  exact ⟨g1, h.frozenAt k, (h.lt g rfl).2, (h.lt g rfl).1⟩
theorem BOwn.store {w : World} {base g n : Nat} {f : Nat → Bool} (h : BOwn w base g n f) (k : Nat) (x : Bool) : BOwn (w.setCell ⟨g, k, none⟩ (.bool x)) base g n (fun j => if j = k then x else f j) := by
  have := (World.ownsRow.stored h k (.bool x)).1
  rw [bl_set] at this
  exact this
theorem BOwn.below {w w' : World} {base g n : Nat} {f : Nat → Bool} (h : BOwn w base g n f) (hb : Below w.heap.size w w') : BOwn w' base g n f := iown_bel h hb
theorem BOwn.congr {w : World} {base g n : Nat} {f f' : Nat → Bool} (h : BOwn w base g n f) (e : f' = f) : BOwn w base g n f' := by rw [e]; exact h

theorem glit {w : World} {base : Nat} (xs : List Int) (h1 : base ≤ w.heap.size) (h2 : xs.length ≤ maxLen) : Own (w.alloc (Obj.cells (ints xs).toArray 3)) base (some ⟨w.heap.size, 0, none⟩) xs.length xs.length xs := by
  have h0 := World.ownsRow_lit (base := base) (e := 3) (size := 1) w (ints xs).toArray xs.length h1 h2 (by simp [ints_len])
  exact h0
theorem enc4 : encF 60 4 = [4, 2] := by decide +kernel
set_option maxHeartbeats 1000000 in
theorem codes_any (w : World) : Calls Try.prog 48 #[] w fun e w' => e = .returned (.bool true) ∧ Below w.heap.size w w' := by
  have HEN : Hid (∀ w', Calls Try.prog 50 #[.int .i64 4] w' (GivesNE w' [4, 2] 0)) := Lib.hid (fun w' => by rw [← enc4]; exact Encode_any 4 w' (by decide))
  go_enter Try.func48, Try.ntmps48
  go_wp2_with fail
  refine (HEN.out _).mono ?_; rintro e w1 ⟨A1, n1, c1, rfl, hr1, hb1⟩
  have HR1 := Lib.hid hr1
  have hn1 : n1 ≤ 1000000 := by have := hr1.1; simp at this; omega
  have HB1 := Lib.hid hb1
  clear hr1 hb1
  have hrow := IRow.of_own (glit (w := w1) (base := w1.heap.size) [4, 2] (Nat.le_refl _) (by decide))
  have HROW := Lib.hid hrow
  have HR2 := Lib.hid (HR1.out.next ((Below.refl _ w1).alloc (Nat.le_refl _) (Obj.cells (ints [4, 2]).toArray 3)))
  clear hrow
  go_wp2_with fail
  refine (equal_b A1 (some ⟨w1.heap.size, 0, none⟩) n1 2 c1 2 [4, 2] [4, 2] _ HR2.out HROW.out hn1 (by decide)).mono ?_
  rw [decide_eq_true rfl]
  rintro e w2 ⟨rfl, hb2⟩
  have HB2 := Lib.hid (ibt (HB1.out.alloc HB1.out.size _) hb2)
  clear hb2
  go_wp2_with fail
  go_ret
  exact ⟨rfl, HB2.out⟩
end Go.Proofs.Ytdombadhmaanfaa
