/- A slice of pairs of ints that came in: opened. -/
import Derived.Test.YtmmgidhaakkaoaaCoA
import Derived.Deep.Slices
import Derived.OpenShut
import Derived.ProofKit
namespace Go.Proofs.Ytmmgidhaakkaoaa
open Go Go.RowKit Go.Deep

def Wf64 (L : List (Int × Int)) : Prop := ∀ p ∈ L, -9223372036854775808 ≤ p.1 ∧ p.1 ≤ 9223372036854775807 ∧ -9223372036854775808 ≤ p.2 ∧ p.2 ≤ 9223372036854775807

theorem open_pairs {H : Type} {enc : TypeId × Value → H} {w : World} {P : Program} {base : Nat} {held : Bool} {t e i64 : TypeId} {fuel : Nat} {A : Option Addr} {n c : Nat} {x : DataW H × List MemPlace}
    (ht : P.underlying t = some (.slice e)) (he : P.underlying e = some (.array 2 i64)) (hi64 : P.underlying i64 = some (.int .i64)) (ce : P.cellsOf e = 2) (ci : P.cellsOf i64 = 1)
    (h : DataW.trod enc P w base (fun _ => true) held fuel t [.slice A n c] = some x) :
    ∃ L, Row w w.heap.size A n L ∧ Wf64 L ∧ n ≤ c ∧ c ≤ maxLen ∧ (A = none → n = 0 ∧ c = 0) := by
  rcases open_slice ht h with ⟨h0, _⟩ | ⟨a, len, cap, m, k, D, Pl, hcs, hb, hl, hm, hmm, rfl, hx⟩
  · simp at h0
    obtain ⟨rfl, rfl, rfl⟩ := h0
    exact ⟨[], ⟨rfl, fun h => absurd h (by omega)⟩, (fun p hp => (by cases hp)), Nat.le_refl _, (by decide), fun _ => ⟨rfl, rfl⟩⟩
  · simp only [List.cons.injEq, Value.slice.injEq, and_true] at hcs
    obtain ⟨rfl, rfl, rfl⟩ := hcs
    simp only [if_true] at hmm
    subst hmm
    have each : ∀ i, i < n → ∃ q : Int × Int, w.cell? (a.add (i * 2)) = some (.int .i64 q.1) ∧ w.cell? (a.add (i * 2 + 1)) = some (.int .i64 q.2) ∧ (Lit.int .i64 q.1).wf = true ∧ (Lit.int .i64 q.2).wf = true ∧ a.block < w.heap.size := by
      intro i hi
      obtain ⟨cs', h1, h2⟩ := hx i (by omega)
      rw [ce] at h1
      have hblk := World.cells?_block h1 (by decide)
      obtain ⟨_, hlen, hcell⟩ := World.cells?_some h1
      obtain ⟨xs, k', _, _, _, hxl, hf⟩ := DataW.trod_array he h2
      match xs, hxl, cs', hlen with
      | [y0, y1], _, [v0, v1], _ =>
        have g0 := hf 0 (by decide)
        have g1 := hf 1 (by decide)
        simp [ci] at g0 g1
        obtain ⟨p0, e0, _, w0⟩ := DataW.trod_int hi64 g0
        obtain ⟨p1, e1, _, w1⟩ := DataW.trod_int hi64 g1
        have c0 := hcell 0 (by omega)
        have c1 := hcell 1 (by omega)
        rw [add_add] at c0 c1
        simp at e0 e1
        subst e0 e1
        have hb2 : (a.add (i * 2)).block = a.block := by unfold Addr.add; split <;> rfl
        rw [hb2] at hblk
        exact ⟨(p0, p1), by simpa using c0, by simpa using c1, w0, w1, hblk⟩
    obtain ⟨q, hq⟩ := choose_lt each
    refine ⟨(List.range n).map q, ⟨by simp, fun hn => ?_⟩, ?_, hl, hm, fun h => by cases h⟩
    · obtain ⟨b, off, spot⟩ := a
      have h0 := (hq 0 hn).1
      have hspot : spot = none := by simpa [Addr.add] using World.cell?_spot h0
      subst hspot
      refine ⟨b, off, rfl, (hq 0 hn).2.2.2.2, fun k p hp => ?_⟩
      have hk : k < n := by
        have := (List.getElem?_eq_some_iff.1 hp).1
        simpa using this
      have e : q k = p := by
        have := hp
        simpa [hk] using this
      subst e
      obtain ⟨g1, g2, _⟩ := hq k hk
      have ha : ∀ j, (⟨b, off, none⟩ : Addr).add j = ⟨b, off + j, none⟩ := fun j => by
        unfold Addr.add; split
        · next h => rw [h]; rfl
        · rfl
      rw [ha] at g1 g2
      exact ⟨g1, by rw [Nat.add_assoc]; exact g2⟩
    · intro p hp
      obtain ⟨i, hi, rfl⟩ := List.mem_map.1 hp
      obtain ⟨_, _, g1, g2, _⟩ := hq i (List.mem_range.1 hi)
      have b1 := bounds_i64 g1
      have b2 := bounds_i64 g2
      exact ⟨b1.1, b1.2, b2.1, b2.2⟩
end Go.Proofs.Ytmmgidhaakkaoaa
