/- A slice of steps that came in: opened. -/
import Derived.Test.YtdombadhmaanfaaRw
import Derived.Test.YtdombadhmaanfaaCc
import Derived.Deep.Slices
import Derived.OpenShut
import Derived.ProofKit
import Derived.ChangeArms
namespace Go.Proofs.Ytdombadhmaanfaa
open Go Go.RowKit Go.Deep

theorem open_steps {H : Type} {enc : TypeId × Value → H} {w : World} {P : Program} {base : Nat} {held : Bool} {t e i64 : TypeId} {fuel : Nat} {A : Option Addr} {n c : Nat} {x : DataW H × List MemPlace} {f0 f1 f2 f3 : Field}
    (ht : P.underlying t = some (.slice e)) (he : P.underlying e = some (.struct #[f0, f1, f2, f3])) (hi64 : P.underlying i64 = some (.int .i64)) (ce : P.cellsOf e = 4) (ci : P.cellsOf i64 = 1)
    (t0 : f0.type = i64 ∧ f0.offset = 0) (t1 : f1.type = i64 ∧ f1.offset = 1) (t2 : f2.type = i64 ∧ f2.offset = 2) (t3 : f3.type = i64 ∧ f3.offset = 3)
    (h : DataW.trod enc P w base (fun _ => true) held fuel t [.slice A n c] = some x) :
    ∃ L, SRw w w.heap.size A n L ∧ n ≤ c ∧ c ≤ maxLen := by
  rcases open_slice ht h with ⟨h0, _⟩ | ⟨a, len, cap, m, k, D, Pl, hcs, hb, hl, hm, hmm, rfl, hx⟩
  · simp at h0
    obtain ⟨rfl, rfl, rfl⟩ := h0
    exact ⟨[], ⟨rfl, fun h => absurd h (by omega)⟩, Nat.le_refl _, (by decide)⟩
  · simp only [List.cons.injEq, Value.slice.injEq, and_true] at hcs
    obtain ⟨rfl, rfl, rfl⟩ := hcs
    simp only [if_true] at hmm
    subst hmm
    have each : ∀ i, i < n → ∃ q : Int × Int × Int × Int, w.cell? (a.add (i * 4)) = some (.int .i64 q.1) ∧ w.cell? (a.add (i * 4 + 1)) = some (.int .i64 q.2.1) ∧ w.cell? (a.add (i * 4 + 2)) = some (.int .i64 q.2.2.1) ∧ w.cell? (a.add (i * 4 + 3)) = some (.int .i64 q.2.2.2) ∧ a.block < w.heap.size := by
      intro i hi
      obtain ⟨cs', h1, h2⟩ := hx i (by omega)
      rw [ce] at h1
      have hblk := World.cells?_block h1 (by decide)
      obtain ⟨_, hlen, hcell⟩ := World.cells?_some h1
      obtain ⟨xs, k', _, _, _, hxl, hf⟩ := DataW.trod_struct he h2
      match xs, hxl, cs', hlen with
      | [y0, y1, y2, y3], _, [v0, v1, v2, v3], _ =>
        have g0 := hf 0 f0 rfl
        have g1 := hf 1 f1 rfl
        have g2 := hf 2 f2 rfl
        have g3 := hf 3 f3 rfl
        rw [t0.1, t0.2] at g0
        rw [t1.1, t1.2] at g1
        rw [t2.1, t2.2] at g2
        rw [t3.1, t3.2] at g3
        simp [ci] at g0 g1 g2 g3
        obtain ⟨p0, e0, _, w0⟩ := DataW.trod_int hi64 g0
        obtain ⟨p1, e1, _, w1⟩ := DataW.trod_int hi64 g1
        obtain ⟨p2, e2, _, w2⟩ := DataW.trod_int hi64 g2
        obtain ⟨p3, e3, _, w3⟩ := DataW.trod_int hi64 g3
        have c0 := hcell 0 (by omega)
        have c1 := hcell 1 (by omega)
        have c2 := hcell 2 (by omega)
        have c3 := hcell 3 (by omega)
        rw [add_add] at c0 c1 c2 c3
        simp at e0 e1 e2 e3
        subst e0 e1 e2 e3
        have hb2 : (a.add (i * 4)).block = a.block := by unfold Addr.add; split <;> rfl
        rw [hb2] at hblk
        exact ⟨(p0, p1, p2, p3), by simpa using c0, by simpa using c1, by simpa using c2, by simpa using c3, hblk⟩
    obtain ⟨q, hq⟩ := choose_lt each
    refine ⟨(List.range n).map q, ⟨by simp, fun hn => ?_⟩, hl, hm⟩
    obtain ⟨b, off, spot⟩ := a
    have h0 := (hq 0 hn).1
    have hspot : spot = none := by simpa [Addr.add] using World.cell?_spot h0
    subst hspot
    refine ⟨b, off, rfl, (hq 0 hn).2.2.2.2, fun k p hp j v hv => ?_⟩
    have hk : k < n := by
      have := (List.getElem?_eq_some_iff.1 hp).1
      simpa using this
    have e : q k = p := by
      have := hp
      simpa [hk] using this
    subst e
    obtain ⟨g0, g1, g2, g3, _⟩ := hq k hk
    rw [radd] at g0 g1 g2 g3
    rcases j with _ | _ | _ | _ | j
    · simp [encS] at hv; subst hv; simpa using g0
    · simp [encS] at hv; subst hv; rw [Nat.add_assoc]; exact g1
    · simp [encS] at hv; subst hv; rw [Nat.add_assoc]; exact g2
    · simp [encS] at hv; subst hv; rw [Nat.add_assoc]; exact g3
    · simp [encS] at hv
end Go.Proofs.Ytdombadhmaanfaa
