/- slices.Clone of ints, and list of the laws on covers. -/
import Derived.Test.YtmmgidhaakkaoaaIh
namespace Go.Proofs.Ytmmgidhaakkaoaa
open Go Go.RowKit

set_option maxHeartbeats 400000 in
set_option maxRecDepth 100000 in
theorem clone_ints (A : Option Addr) (n c : Nat) (L : List Int) (w : World) (h : IRow w w.heap.size A n L) (hn : n ≤ 1000000) (hA : A = none → n = 0) :
    Calls Try.prog 43 #[.slice A n c] w (GivesI w L) := by
  have HR := Lib.hid h
  have HL := Lib.hid h.1
  clear h
  cases A with
  | none =>
    obtain rfl := hA rfl
    have heq := fun (w : World) => Lib.run_eql_slice_nil (P := Try.prog) w 42 3 none 0 c 0 0 Try.underlying42
    go_enter Try.func43, Try.ntmps43
    go_wp2
    go_ret
    have hL : L = [] := List.length_eq_zero_iff.1 HL.out.symm
    subst hL
    exact ⟨none, 0, 0, rfl, World.ownsRow_nil .., fun _ => rfl, Below.refl _ _⟩
  | some ad =>
    obtain ⟨i0, hi, hz0, hz1, hz2⟩ := info_parts infoI
    go_enter Try.func43, Try.ntmps43
    have hown : (w.alloc (Obj.cells #[] 3)).ownsRow w.heap.size 3 1 (.slice (some ⟨w.heap.size, 0, none⟩) 0 0) 0 [] :=
      ⟨rfl, .inr ⟨w.heap.size, 0, #[], rfl, Nat.le_refl _, (by show (w.heap.push _)[w.heap.size]? = _; simp), Nat.le_refl _, by decide, rfl, rfl⟩⟩
    have hnews : ∀ j u, (ints L)[j]? = some u → (w.alloc (Obj.cells #[] 3)).cell? (ad.add j) = some u := by
      intro j u hu
      have hn0 : 0 < n := by
        have := (List.getElem?_eq_some_iff.1 hu).1
        rw [ints_len, ← HL.out] at this; omega
      obtain ⟨b, off, e, hb, _⟩ := HR.out.2 hn0
      injection e with e
      subst e
      have := HR.out.ints j u hu
      rw [iadd] at this ⊢
      rw [World.cell?_alloc_lt _ _ _ hb]; exact this
    have HO := Lib.hid hown
    have HN := Lib.hid hnews
    have H1 : Hid ((ints L).length = n * 1) := Lib.hid (by rw [ints_len, HL.out]; omega)
    have H3 : Hid (0 + n ≤ maxLen) := Lib.hid (by unfold maxLen; omega)
    have H4 : Hid ((0 + n) * 8 ≤ 140737488355328) := Lib.hid (by omega)
    have H5 : Hid (w.heap.size ≤ (w.alloc (Obj.cells #[] 3)).heap.size) := Lib.hid (by simp)
    clear hown hnews
    have heq2 := Lib.run_eql_slice_nil (P := Try.prog) w 42 3 (some ad) n c 0 0 Try.underlying42
    go_wp2_with (at_builtin; refine wpList_append_own _ rfl _ _ 42 rfl w.heap.size 3 i0 (.int .i64 0) 1 8 Try.underlying42 hi hz0 hz1 hz2 rfl (by decide) _ 0 [] rfl HO.out ad n c (ints L) rfl H1.out HN.out (ints_one L) H3.out H4.out H5.out ?_; intro v' w1 hown' hgrow _)
    go_ret
    rw [Nat.zero_add, List.nil_append] at hown'
    have hbw : Below w.heap.size w w1 := ((Below.refl _ _).alloc (Nat.le_refl _) _).grown hgrow (by simp) (fun k e => by cases e; exact Nat.le_refl _)
    obtain ⟨A2, c2, rfl, hA2⟩ := iown_sl hown'
    exact ⟨A2, n, c2, rfl, hown', hA2, hbw⟩

set_option maxHeartbeats 400000 in
theorem list_any (A : Option Addr) (l c : Nat) (L : List Int) (w : World) (h : IRow w w.heap.size A l L) (hlc : l ≤ c) (hc : c ≤ maxLen) (hA : A = none → l = 0 ∧ c = 0) :
    Calls Try.prog 34 #[.slice A l c] w (GivesI w (L.take 12)) := by
  unfold maxLen at hc
  have hll := h.1
  by_cases h12 : l ≤ 12
  · have HCL : Hid (∀ c', Calls Try.prog 43 #[.slice A l c'] w (GivesI w (L.take 12))) := Lib.hid (fun c' => by
      rw [List.take_of_length_le (by omega)]
      exact clone_ints A l c' L w h (by omega) (fun e => (hA e).1))
    have hi : (l : Int) ≤ 12 := by omega
    clear h hll
    go_enter Try.func34, Try.ntmps34
    cases A with
    | none =>
      obtain ⟨rfl, rfl⟩ := hA rfl
      go_wp2_with fail
      refine (HCL.out _).mono ?_; rintro e w1 ⟨A1, n1, c1, rfl, how1, hA1, hb1⟩
      have HO := Lib.hid how1
      have HA1 := Lib.hid hA1
      clear how1 hA1
      go_wp2_with fail
      go_ret
      exact ⟨A1, n1, c1, rfl, HO.out, HA1.out, hb1⟩
    | some ad =>
      clear hA
      go_wp2_with fail
      refine (HCL.out _).mono ?_; rintro e w1 ⟨A1, n1, c1, rfl, how1, hA1, hb1⟩
      have HO := Lib.hid how1
      have HA1 := Lib.hid hA1
      clear how1 hA1
      go_wp2_with fail
      go_ret
      exact ⟨A1, n1, c1, rfl, HO.out, HA1.out, hb1⟩
  · have HCL : Hid (∀ c', Calls Try.prog 43 #[.slice A 12 c'] w (GivesI w (L.take 12))) := Lib.hid (fun c' =>
      clone_ints A 12 c' (L.take 12) w (h.take (by omega)) (by omega) (fun e => by have := hA e; omega))
    have hi : ¬ (l : Int) ≤ 12 := by omega
    clear h hll
    go_enter Try.func34, Try.ntmps34
    cases A with
    | none => exact absurd (hA rfl).1 (by omega)
    | some ad =>
      clear hA
      have h12c : 12 ≤ c := by omega
      go_wp2_with fail
      refine (HCL.out _).mono ?_; rintro e w1 ⟨A1, n1, c1, rfl, how1, hA1, hb1⟩
      have HO := Lib.hid how1
      have HA1 := Lib.hid hA1
      clear how1 hA1
      go_wp2_with fail
      go_ret
      exact ⟨A1, n1, c1, rfl, HO.out, HA1.out, hb1⟩

/-- a slice of the call's own is no longer than its capacity, which fits -/
theorem own_cap {w : World} {base n c : Nat} {A : Option Addr} {L : List Int} (h : Own w base A n c L) : n ≤ c ∧ c ≤ 9223372036854775807 := by
  rcases h.2 with ⟨h0, h1⟩ | ⟨g, cap, cur, hv, hg, hh, h1, h2, h3⟩
  · injection h0 with _ hn hc
    subst hc; omega
  · injection hv with _ _ hc
    subst hc
    unfold maxLen at h2
    omega
end Go.Proofs.Ytmmgidhaakkaoaa
