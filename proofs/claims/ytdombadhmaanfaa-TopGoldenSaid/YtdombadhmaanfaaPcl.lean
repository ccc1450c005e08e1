/- slices.Clone of slices of pairs. -/
import Derived.Test.YtdombadhmaanfaaPl
namespace Go.Proofs.Ytdombadhmaanfaa
open Go Go.RowKit

def GivesOwnP (w : World) (L : List (Int × Int)) (e : Ending) (w' : World) : Prop :=
  ∃ v n, e = .returned v ∧ w'.ownsRow w.heap.size 65 2 v n (pflat L) ∧ Below w.heap.size w w'

set_option maxHeartbeats 400000 in
set_option maxRecDepth 100000 in
theorem pclone (A : Option Addr) (n c : Nat) (L : List (Int × Int)) (w : World) (h : PRow w w.heap.size A n L) (hn : n ≤ 1000000) (hA : A = none → n = 0) :
    Calls Try.prog 49 #[.slice A n c] w (GivesOwnP w L) := by
  have HR := Lib.hid h
  have HL := Lib.hid h.1
  clear h
  have heq := fun (w : World) => Lib.run_eql_slice_nil (P := Try.prog) w 62 65 A n c 0 0 Try.underlying62
  cases A with
  | none =>
    obtain rfl := hA rfl
    go_enter Try.func49, Try.ntmps49
    go_wp2
    go_ret
    have hL : L = [] := List.length_eq_zero_iff.1 HL.out.symm
    subst hL
    exact ⟨_, 0, rfl, World.ownsRow_nil .., Below.refl _ _⟩
  | some ad =>
    obtain ⟨i0, hi, hz0, hz1, hz2⟩ := info_parts infoP2
    go_enter Try.func49, Try.ntmps49
    have hown : (w.alloc (Obj.cells #[] 65)).ownsRow w.heap.size 65 2 (.slice (some ⟨w.heap.size, 0, none⟩) 0 0) 0 [] :=
      ⟨rfl, .inr ⟨w.heap.size, 0, #[], rfl, Nat.le_refl _, (by show (w.heap.push _)[w.heap.size]? = _; simp), Nat.le_refl _, by decide, rfl, rfl⟩⟩
    have hnews : ∀ j u, (pflat L)[j]? = some u → (w.alloc (Obj.cells #[] 65)).cell? (ad.add j) = some u := by
      intro j u hu
      have hn0 : 0 < n := by
        have := (List.getElem?_eq_some_iff.1 hu).1
        rw [pflat_len, ← HL.out] at this; omega
      obtain ⟨b, off, e, hb, _⟩ := HR.out.2 hn0
      injection e with e
      subst e
      have := HR.out.pflat j u hu
      rw [padd] at this ⊢
      rw [World.cell?_alloc_lt _ _ _ hb]; exact this
    have HO := Lib.hid hown
    have HN := Lib.hid hnews
    have H1 : Hid ((pflat L).length = n * 2) := Lib.hid (by rw [pflat_len, HL.out])
    have H3 : Hid (0 + n ≤ maxLen) := Lib.hid (by unfold maxLen; omega)
    have H4 : Hid ((0 + n) * 16 ≤ 140737488355328) := Lib.hid (by omega)
    have H5 : Hid (w.heap.size ≤ (w.alloc (Obj.cells #[] 65)).heap.size) := Lib.hid (by simp)
    clear hown hnews heq
    have heq2 := Lib.run_eql_slice_nil (P := Try.prog) w 62 65 (some ad) n c 0 0 Try.underlying62
    go_wp2_with (at_builtin; refine wpList_append_own _ rfl _ _ 62 rfl w.heap.size 65 i0 (.agg #[.int .i64 0, .int .i64 0]) 2 16 Try.underlying62 hi hz0 hz1 hz2 rfl (by decide) _ 0 [] rfl HO.out ad n c (pflat L) rfl H1.out HN.out (pflat_one L) H3.out H4.out H5.out ?_; intro v' w1 hown' hgrow _)
    go_ret
    rw [Nat.zero_add, List.nil_append] at hown'
    have hbw : Below w.heap.size w w1 := ((Below.refl _ _).alloc (Nat.le_refl _) _).grown hgrow (by simp) (fun k e => by cases e; exact Nat.le_refl _)
    exact ⟨_, n, rfl, hown', hbw⟩
end Go.Proofs.Ytdombadhmaanfaa
