/- A slice of ints that came in: opened. -/
import Derived.Test.YtmmgidhaakkaoaaIh
import Derived.Deep.Slices
import Derived.OpenShut
import Derived.ProofKit
namespace Go.Proofs.Ytmmgidhaakkaoaa
open Go Go.RowKit Go.Deep

theorem open_ints2 {H : Type} {enc : TypeId × Value → H} {w : World} {P : Program} {base : Nat} {held : Bool} {t i64 : TypeId} {fuel : Nat} {A : Option Addr} {n c : Nat} {x : DataW H × List MemPlace}
    (ht : P.underlying t = some (.slice i64)) (hi64 : P.underlying i64 = some (.int .i64)) (ci : P.cellsOf i64 = 1)
    (h : DataW.trod enc P w base (fun _ => true) held fuel t [.slice A n c] = some x) :
    ∃ L, IRow w w.heap.size A n L ∧ (∀ x ∈ L, -9223372036854775808 ≤ x ∧ x ≤ 9223372036854775807) ∧ n ≤ c ∧ c ≤ maxLen ∧ (A = none → n = 0 ∧ c = 0) := by
  rcases open_slice ht h with ⟨h0, _⟩ | ⟨a, len, cap, m, k, D, Pl, hcs, hb, hl, hm, hmm, rfl, hx⟩
  · simp at h0
    obtain ⟨rfl, rfl, rfl⟩ := h0
    exact ⟨[], ⟨rfl, fun h => absurd h (by omega)⟩, (fun p hp => (by cases hp)), Nat.le_refl _, (by decide), fun _ => ⟨rfl, rfl⟩⟩
  · simp only [List.cons.injEq, Value.slice.injEq, and_true] at hcs
    obtain ⟨rfl, rfl, rfl⟩ := hcs
    simp only [if_true] at hmm
    subst hmm
    have each : ∀ i, i < n → ∃ q : Int, w.cell? (a.add i) = some (.int .i64 q) ∧ (Lit.int .i64 q).wf = true ∧ a.block < w.heap.size := by
      intro i hi
      obtain ⟨cs', h1, h2⟩ := hx i (by omega)
      rw [ci] at h1
      have hblk := World.cells?_block h1 (by decide)
      obtain ⟨_, hlen, hcell⟩ := World.cells?_some h1
      obtain ⟨p0, e0, _, w0⟩ := DataW.trod_int hi64 h2
      have c0 := hcell 0 (by omega)
      rw [add_add] at c0
      subst e0
      have hb2 : (a.add (i * 1)).block = a.block := by unfold Addr.add; split <;> rfl
      rw [hb2] at hblk
      exact ⟨p0, by simpa using c0, w0, hblk⟩
    obtain ⟨q, hq⟩ := choose_lt each
    refine ⟨(List.range n).map q, ⟨by simp, fun hn => ?_⟩, ?_, hl, hm, fun h => by cases h⟩
    · obtain ⟨b, off, spot⟩ := a
      have h0 := (hq 0 hn).1
      have hspot : spot = none := by simpa [Addr.add] using World.cell?_spot h0
      subst hspot
      refine ⟨b, off, rfl, (hq 0 hn).2.2, fun k p hp => ?_⟩
      have hk : k < n := by
        have := (List.getElem?_eq_some_iff.1 hp).1
        simpa using this
      have e : q k = p := by
        have := hp
        simpa [hk] using this
      subst e
      obtain ⟨g1, _⟩ := hq k hk
      rw [iadd] at g1
      exact g1
    · intro p hp
      obtain ⟨i, hi, rfl⟩ := List.mem_map.1 hp
      obtain ⟨_, g1, _⟩ := hq i (List.mem_range.1 hi)
      exact bounds_i64 g1
end Go.Proofs.Ytmmgidhaakkaoaa
