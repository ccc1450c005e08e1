/- Curves: Points of a valid curve; the set of squares, as a map. -/
import Derived.Test.YtdombadhmaanfaaCv4
import Derived.Test.YtdombadhmaanfaaRo
import Derived.Maps.OwnOps
import Derived.Maps.OwnSet
import Derived.Deep.RegionHeld3
namespace Go.Proofs.Ytdombadhmaanfaa
open Go Go.RowKit GhN Go.Maps

set_option maxHeartbeats 1000000 in
theorem cPoints_yes (P A B : Nat) (w : World) (hP : P ∈ smallP) (hA : A < P) (hB : B < P) (hd : dsc A B % P ≠ 0) :
    Calls Try.prog 42 #[crv P A B] w fun e w' => (∃ Ad c, e = .returned (.tuple #[.slice Ad ((npt P A B + 1 : Nat) : Nat) c, .int .i64 0])) ∧ Below w.heap.size w w' := by
  have HV : Hid (∀ w', Calls Try.prog 64 #[crv P A B] w' fun e w'' => e = .returned (.bool true) ∧ Below w'.heap.size w' w'') := Lib.hid (fun w' => cvalid_yes P A B w' hP hA hB hd)
  have hb := smallP_bd P hP
  have HPT : Hid (∀ w', Calls Try.prog 65 #[crv P A B] w' fun e w'' => (∃ Ad c, e = .returned (.slice Ad ((npt P A B + 1 : Nat) : Nat) c)) ∧ Below w'.heap.size w' w'') := Lib.hid (fun w' => cpoints_any P A B w' hb.1 hb.2.1 hA hB)
  clear hP hd
  go_enter Try.func42, Try.ntmps42
  go_wp2_with fail
  refine (HV.out _).mono ?_; rintro e w1 ⟨rfl, hb1⟩
  have hb1' := hb1
  have HB1 := Lib.hid (pbt ((Below.refl _ _).alloc (Nat.le_refl _) _) hb1)
  have c0 := (hb1.cell (p := ⟨w.heap.size, 0, none⟩) (by simp)).trans (show _ = some (Value.int .i64 (P : Int)) by simp)
  have c1 := (hb1.cell (p := ⟨w.heap.size, 1, none⟩) (by simp)).trans (show _ = some (Value.int .i64 (A : Int)) by simp)
  have c2 := (hb1.cell (p := ⟨w.heap.size, 2, none⟩) (by simp)).trans (show _ = some (Value.int .i64 (B : Int)) by simp)
  clear hb1 hb1'
  go_wp2_with fail
  refine (HPT.out _).mono ?_; rintro e w2 ⟨⟨Ad, c, rfl⟩, hb2⟩
  have HB2 := Lib.hid (pbt HB1.out hb2)
  clear hb2
  go_wp2_with fail
  go_ret2
  exact ⟨⟨Ad, c, rfl⟩, HB2.out⟩

/-! ### the map of squares -/
def sqH (P : Nat) : Nat → Nat → Bool
  | 0, _ => false
  | k + 1, x => (k * k % P == x) || sqH P k x
def sqD (P : Nat) : Nat → DataW Unit
  | 0 => .map []
  | k + 1 => (sqD P k).put (.int .i64 ((k * k % P : Nat) : Int)) (.lit (.bool true))
theorem sqD_map (P : Nat) : ∀ k, IsMap (sqD P k)
  | 0 => ⟨[], rfl⟩
  | k + 1 => (sqD_map P k).put _ _
theorem kwf {x : Nat} (h : x ≤ 1000) : (Lit.int .i64 (x : Int)).wf = true := WalkArith.wf_i64 ⟨by omega, by omega⟩
theorem kkey {x : Nat} (h : x ≤ 1000) : keyOf Try.prog 3 (.int .i64 (x : Int)) = some (.int .i64 (x : Int)) := keyOf_int_mk Try.underlying3 (kwf h)
theorem ikeyed : Keyed Try.prog 3 := int_keyed Try.underlying3
theorem sqD_at {P x : Nat} (hP : 0 < P) (hP2 : P ≤ 31) (hx : x ≤ 1000) : ∀ k, (sqD P k).atKey (.int .i64 (x : Int)) (.lit (.bool false)) = .lit (.bool (sqH P k x))
  | 0 => rfl
  | k + 1 => by
    have hm : k * k % P < P := Nat.mod_lt _ hP
    rw [sqD, sqH]
    by_cases e : k * k % P = x
    · rw [e, beq_self_eq_true, Bool.true_or]
      exact atKey_put_same (sqD_map P k) (ikeyed.key (kkey hx)) _ _
    · have ne : (Lit.int .i64 (x : Int)) ≠ .int .i64 ((k * k % P : Nat) : Int) := fun e2 => e (by injection e2 with _ e2; omega)
      rw [atKey_put_other ne, beq_eq_false_iff_ne.2 e, Bool.false_or]
      exact sqD_at hP hP2 hx k
theorem sqH_iff {P x : Nat} : ∀ k, sqH P k x = true ↔ ∃ i, i < k ∧ i * i % P = x
  | 0 => by simp [sqH]
  | k + 1 => by
    rw [sqH, Bool.or_eq_true, sqH_iff k, beq_iff_eq]
    constructor
    · rintro (h | ⟨i, h1, h2⟩)
      · exact ⟨k, by omega, h⟩
      · exact ⟨i, by omega, h2⟩
    · rintro ⟨i, h1, h2⟩
      by_cases e : i = k
      · subst e; exact .inl h2
      · exact .inr ⟨i, by omega, h2⟩

theorem plainElem_bool_inv {H : Type} {P : Program} {e : TypeId} (he : P.underlying e = some .bool) {v : Value} {z : DataW H × List MemPlace} (h : plainElem P e v = some z) : ∃ x, v = .bool x ∧ z = (.lit (.bool x), []) := by
  unfold plainElem at h
  rw [he] at h
  cases v <;> simp at h
  exact ⟨_, rfl, h.symm⟩
theorem wpList_lookup_own_bool {H : Type} {P : Program} (w : World) {ops : Array Oper} {rest : List Oper} {o : Oper} {a : Act} {Q : Exit → Act → World → Prop}
    (hg : o.guard = none) (m x : Operand) (t : TypeId) (hop : o.op = Op.lookup t m x false)
    (k e : TypeId) (K : Keyed P k) (ht : P.underlying t = some (.map k e)) (he : P.underlying e = some .bool) (hz : (zeroValue e).run P w = .ok (.bool false) w) (b n : Nat) (D : DataW H)
    (hm : a.eval m = .map (some b)) (hown : w.ownsMap P k (plainElem P e) b n D) (key : Value) (kl : Lit) (hx : a.eval x = key) (hkey : keyOf P k key = some kl)
    (hK : ∀ c : Bool, D.atKey kl (.lit (.bool false)) = .lit (.bool c) → wpList P ops Q rest (a.put o.dst (.bool c)) w) :
    wpList P ops Q (o :: rest) a w := by
  refine wpList_plain hg fun K' hK' => ?_
  obtain ⟨v, ps, hrun, hv⟩ := hown.lookup K ht hz (plainElem_bool he false) hkey
  obtain ⟨c, rfl, hc⟩ := plainElem_bool_inv he hv
  simp only [Prod.mk.injEq] at hc
  unfold Oper.wp
  simp [execOp, hop, hm, hx, hrun, Result.andThen]
  exact hK' _ _ (hK c hc.1)
theorem zeroB (w : World) : (zeroValue 4).run Try.prog w = .ok (.bool false) w := by kernel_rfl
theorem litb_eq {x y : Bool} (h : (DataW.lit (Lit.bool x) : DataW Unit) = .lit (.bool y)) : y = x := by
  injection h with h; injection h with h; exact h.symm
end Go.Proofs.Ytdombadhmaanfaa
