/- Copies of slices of pairs that are the call's own. -/
import Derived.Test.YtmmgidhaakkaoaaCoG
namespace Go.Proofs.Ytmmgidhaakkaoaa
open Go Go.RowKit

/-- a result that is a slice of pairs in memory of the call's own -/
def GivesOwn (w : World) (L : List (Int × Int)) (e : Ending) (w' : World) : Prop :=
  ∃ A n c, e = .returned (.slice A n c) ∧ w'.ownsRow w.heap.size 29 2 (.slice A n c) n (flat L) ∧ Below w.heap.size w w'

set_option maxHeartbeats 400000 in
set_option maxRecDepth 100000 in
theorem clone_own (A : Option Addr) (n c : Nat) (L : List (Int × Int)) (w : World) (h : Row w w.heap.size A n L) (hn : n ≤ 1000000) (hA : A = none → n = 0) :
    Calls Try.prog 26 #[.slice A n c] w (GivesOwn w L) := by
  have HR := Lib.hid h
  have HL := Lib.hid h.1
  clear h
  have heq := fun (w : World) => Lib.run_eql_slice_nil (P := Try.prog) w 22 29 A n c 0 0 Try.underlying22
  cases A with
  | none =>
    obtain rfl := hA rfl
    go_enter Try.func26, Try.ntmps26
    go_wp2
    go_ret
    have hL : L = [] := List.length_eq_zero_iff.1 HL.out.symm
    subst hL
    exact ⟨none, 0, 0, rfl, World.ownsRow_nil .., Below.refl _ _⟩
  | some ad =>
    obtain ⟨i0, hi, hz0, hz1, hz2⟩ := info_parts infoP
    go_enter Try.func26, Try.ntmps26
    have hown : (w.alloc (Obj.cells #[] 29)).ownsRow w.heap.size 29 2 (.slice (some ⟨w.heap.size, 0, none⟩) 0 0) 0 [] :=
      ⟨rfl, .inr ⟨w.heap.size, 0, #[], rfl, Nat.le_refl _, (by show (w.heap.push _)[w.heap.size]? = _; simp), Nat.le_refl _, by decide, rfl, rfl⟩⟩
    have hnews : ∀ j u, (flat L)[j]? = some u → (w.alloc (Obj.cells #[] 29)).cell? (ad.add j) = some u := by
      intro j u hu
      have hn0 : 0 < n := by
        have := (List.getElem?_eq_some_iff.1 hu).1
        rw [flat_len, ← HL.out] at this; omega
      obtain ⟨b, off, e, hb, _⟩ := HR.out.2 hn0
      injection e with e
      subst e
      have := HR.out.flat j u hu
      rw [add_none] at this ⊢
      rw [World.cell?_alloc_lt _ _ _ hb]; exact this
    have HO := Lib.hid hown
    have HN := Lib.hid hnews
    have H1 : Hid ((flat L).length = n * 2) := Lib.hid (by rw [flat_len, HL.out])
    have H3 : Hid (0 + n ≤ maxLen) := Lib.hid (by unfold maxLen; omega)
    have H4 : Hid ((0 + n) * 16 ≤ 140737488355328) := Lib.hid (by omega)
    have H5 : Hid (w.heap.size ≤ (w.alloc (Obj.cells #[] 29)).heap.size) := Lib.hid (by simp)
    clear hown hnews heq
    have heq2 := Lib.run_eql_slice_nil (P := Try.prog) w 22 29 (some ad) n c 0 0 Try.underlying22
    go_wp2_with (at_builtin; refine wpList_append_own _ rfl _ _ 22 rfl w.heap.size 29 i0 (.agg #[.int .i64 0, .int .i64 0]) 2 16 Try.underlying22 hi hz0 hz1 hz2 rfl (by decide) _ 0 [] rfl HO.out ad n c (flat L) rfl H1.out HN.out (flat_one L) H3.out H4.out H5.out ?_; intro v' w1 hown' hgrow _)
    go_ret
    rw [Nat.zero_add, List.nil_append] at hown'
    have hbw : Below w.heap.size w w1 := ((Below.refl _ _).alloc (Nat.le_refl _) _).grown hgrow (by simp) (fun k e => by cases e; exact Nat.le_refl _)
    obtain ⟨A2, c2, rfl, _⟩ := own_sl hown'
    exact ⟨A2, n, c2, rfl, hown', hbw⟩

theorem pairs_own (A : Option Addr) (n c : Nat) (L : List (Int × Int)) (w : World) (h : Row w w.heap.size A n L) (hn : n ≤ c) (hc : c ≤ maxLen) (hA : A = none → n = 0 ∧ c = 0) :
    Calls Try.prog 16 #[.slice A n c] w (GivesOwn w (L.take 12)) := by
  unfold maxLen at hc
  by_cases h12 : n ≤ 12
  · have HR : Hid (Row w w.heap.size A n (L.take 12)) := Lib.hid (by rw [List.take_of_length_le (by rw [← h.1]; exact h12)]; exact h)
    have HA : Hid (A = none → n = 0) := Lib.hid (fun e => (hA e).1)
    clear h
    cases A with
    | none =>
      obtain ⟨rfl, rfl⟩ := hA rfl
      go_enter Try.func16, Try.ntmps16
      go_wp2_with fail
      refine (clone_own none 0 0 (L.take 12) _ HR.out (by omega) (fun _ => rfl)).mono ?_
      rintro e w1 ⟨A1, n1, c1, rfl, hr, hb⟩
      go_wp2_with fail
      go_ret
      exact ⟨A1, n1, c1, rfl, hr, hb⟩
    | some ad =>
      clear hA
      go_enter Try.func16, Try.ntmps16
      go_wp2_with fail
      refine (clone_own (some ad) n c (L.take 12) _ HR.out (by omega) (fun h => by cases h)).mono ?_
      rintro e w1 ⟨A1, n1, c1, rfl, hr, hb⟩
      go_wp2_with fail
      go_ret
      exact ⟨A1, n1, c1, rfl, hr, hb⟩
  · cases A with
    | none => have := (hA rfl).1; omega
    | some ad =>
      have HR : Hid (Row w w.heap.size (some ad) 12 (L.take 12)) := Lib.hid (h.take (by omega))
      clear h hA
      go_enter Try.func16, Try.ntmps16
      go_wp2_with fail
      refine (clone_own (some ad) 12 c (L.take 12) _ HR.out (by omega) (fun h => by cases h)).mono ?_
      rintro e w1 ⟨A1, n1, c1, rfl, hr, hb⟩
      go_wp2_with fail
      go_ret
      exact ⟨A1, n1, c1, rfl, hr, hb⟩

end Go.Proofs.Ytmmgidhaakkaoaa
