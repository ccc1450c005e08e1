/- Slices of ints in memory: read by a list, or by a function of the place. -/
import Derived.Test.YtmmgidhaakkaoaaCoB
namespace Go.Proofs.Ytmmgidhaakkaoaa
open Go Go.RowKit

/-- a slice of ints that reads as L, below block B -/
def IRow (w : World) (B : Nat) (A : Option Addr) (n : Nat) (L : List Int) : Prop :=
  n = L.length ∧ (0 < n → ∃ b off, A = some ⟨b, off, none⟩ ∧ b < B ∧ ∀ k x, L[k]? = some x → w.cell? ⟨b, off + k, none⟩ = some (.int .i64 x))
theorem IRow.keep {w w' : World} {B : Nat} {A : Option Addr} {n : Nat} {L : List Int} (h : IRow w B A n L) (hk : ∀ b o, b < B → w'.cell? ⟨b, o, none⟩ = w.cell? ⟨b, o, none⟩) : IRow w' B A n L :=
  ⟨h.1, fun hn => by
    obtain ⟨b, off, e, hb, hc⟩ := h.2 hn
    exact ⟨b, off, e, hb, fun k p hp => (hk _ _ hb).trans (hc k p hp)⟩⟩
theorem IRow.below {w w' : World} {B : Nat} {A : Option Addr} {n : Nat} {L : List Int} (h : IRow w B A n L) (hb : Below B w w') : IRow w' B A n L :=
  h.keep fun b o hB => hb.cell (p := ⟨b, o, none⟩) hB
theorem IRow.more {w : World} {B B' : Nat} {A : Option Addr} {n : Nat} {L : List Int} (h : IRow w B A n L) (hB : B ≤ B') : IRow w B' A n L :=
  ⟨h.1, fun hn => by
    obtain ⟨b, off, e, hb, hc⟩ := h.2 hn
    exact ⟨b, off, e, by omega, hc⟩⟩
theorem IRow.at_ {w : World} {B : Nat} {A : Option Addr} {n : Nat} {L : List Int} (h : IRow w B A n L) {k : Nat} (hk : k < n) :
    ∃ b off x, L[k]? = some x ∧ A = some ⟨b, off, none⟩ ∧ b < B ∧ w.cell? ⟨b, off + k, none⟩ = some (.int .i64 x) := by
  obtain ⟨b, off, e, hb, hc⟩ := h.2 (by omega)
  have hl : k < L.length := by have := h.1; omega
  obtain ⟨x, hx⟩ : ∃ p, L[k]? = some p := ⟨_, List.getElem?_eq_getElem hl⟩
  exact ⟨b, off, x, hx, e, hb, hc k _ hx⟩
theorem IRow.take {w : World} {B n k : Nat} {A : Option Addr} {L : List Int} (h : IRow w B A n L) (hk : k ≤ n) : IRow w B A k (L.take k) := by
  refine ⟨by rw [List.length_take]; have := h.1; omega, fun h0 => ?_⟩
  obtain ⟨b, off, e, hb, hc⟩ := h.2 (by omega)
  refine ⟨b, off, e, hb, fun j p hp => hc j p ?_⟩
  rw [List.getElem?_take] at hp
  split at hp
  · exact hp
  · cases hp

/-- a list of ints, as cells -/
def ints (L : List Int) : List Value := L.map (Value.int .i64)
theorem ints_len (L : List Int) : (ints L).length = L.length := List.length_map _
theorem ints_at {L : List Int} {k : Nat} {x : Int} (h : L[k]? = some x) : (ints L)[k]? = some (.int .i64 x) := by unfold ints; rw [List.getElem?_map, h]; rfl
theorem ints_one (L : List Int) : ∀ u ∈ ints L, u.oneCell' = true := by
  intro u hu
  obtain ⟨x, _, rfl⟩ := List.mem_map.1 hu
  simp [Value.oneCell']

theorem IRow.of_own {w : World} {base n c : Nat} {e : TypeId} {A : Option Addr} {L : List Int} (h : w.ownsRow base e 1 (.slice A n c) n (ints L)) : IRow w w.heap.size A n L := by
  have hl : n = L.length := by have := h.1; rw [ints_len] at this; omega
  refine ⟨hl, fun hn => ?_⟩
  rcases h.2 with ⟨_, h0⟩ | ⟨g, cap, cur, hv, hg, hh, r⟩
  · omega
  · injection hv with hA _ hc
    subst hA
    refine ⟨g, 0, rfl, (Array.getElem?_eq_some_iff.1 hh).1, fun k p hp => ?_⟩
    have := h.cells (g := g) rfl _ _ (ints_at hp)
    rw [add_none] at this
    exact this
theorem IRow.ints {w : World} {B : Nat} {b off n : Nat} {L : List Int} (h : IRow w B (some ⟨b, off, none⟩) n L) : ∀ j u, (ints L)[j]? = some u → w.cell? ((⟨b, off, none⟩ : Addr).add j) = some u := by
  intro j u hu
  have hj : j < L.length := by
    have := (List.getElem?_eq_some_iff.1 hu).1
    rwa [ints_len] at this
  obtain ⟨x, hx⟩ : ∃ p, L[j]? = some p := ⟨_, List.getElem?_eq_getElem hj⟩
  obtain ⟨b', off', e, _, hc⟩ := h.2 (by have := h.1; omega)
  injection e with e
  injection e with e1 e2
  subst e1 e2
  rw [ints_at hx] at hu
  injection hu with hu
  rw [← hu, add_none]
  exact hc _ _ hx

theorem infoI : (Try.prog.info? 3).map (fun i => (i.zero, i.size, i.bytes)) = some (some (.int .i64 0), 1, 8) := by kernel_rfl

/-- the cells of a function of the place -/
def fl (f : Nat → Int) (n : Nat) : List Value := (List.range n).map (fun k => Value.int .i64 (f k))
theorem fl_len (f : Nat → Int) (n : Nat) : (fl f n).length = n := by simp [fl]
theorem fl_at (f : Nat → Int) {n k : Nat} (h : k < n) : (fl f n)[k]? = some (.int .i64 (f k)) := by simp [fl, h]
theorem fl_set (f : Nat → Int) (n k : Nat) (x : Int) : (fl f n).set k (.int .i64 x) = fl (fun j => if j = k then x else f j) n := by
  apply List.ext_getElem?
  intro j
  rw [List.getElem?_set]
  by_cases hk : k = j
  · subst hk
    rw [if_pos rfl, fl_len]
    by_cases hj : k < n
    · rw [if_pos hj, fl_at _ hj]; simp
    · rw [if_neg hj]; simp [fl, hj]
  · rw [if_neg hk]
    by_cases hj : j < n
    · rw [fl_at _ hj, fl_at _ hj, if_neg (Ne.symm hk)]
    · simp [fl, hj]
theorem fl_zero (n : Nat) : (madeCells (Value.int .i64 0).cells (n * 1)).toList = fl (fun _ => 0) n := by
  have : (Value.int .i64 0).cells = #[Value.int .i64 0] := rfl
  rw [this, toList_madeCells_one]
  apply List.ext_getElem?
  intro j
  by_cases hj : j < n <;> simp [fl, hj]

/-- a slice of ints that reads as a function -/
def FRow (w : World) (B : Nat) (A : Option Addr) (n : Nat) (f : Nat → Int) : Prop :=
  0 < n → ∃ b off, A = some ⟨b, off, none⟩ ∧ b < B ∧ ∀ k, k < n → w.cell? ⟨b, off + k, none⟩ = some (.int .i64 (f k))
theorem FRow.below {w w' : World} {B : Nat} {A : Option Addr} {n : Nat} {f : Nat → Int} (h : FRow w B A n f) (hb : Below B w w') : FRow w' B A n f := fun hn => by
  obtain ⟨b, off, e, hB, hc⟩ := h hn
  exact ⟨b, off, e, hB, fun k hk => (hb.cell (p := ⟨b, off + k, none⟩) hB).trans (hc k hk)⟩
theorem FRow.more {w : World} {B B' : Nat} {A : Option Addr} {n : Nat} {f : Nat → Int} (h : FRow w B A n f) (hB : B ≤ B') : FRow w B' A n f := fun hn => by
  obtain ⟨b, off, e, hb, hc⟩ := h hn
  exact ⟨b, off, e, by omega, hc⟩
theorem FRow.at_ {w : World} {B : Nat} {A : Option Addr} {n : Nat} {f : Nat → Int} (h : FRow w B A n f) {k : Nat} (hk : k < n) :
    ∃ b off, A = some ⟨b, off, none⟩ ∧ b < B ∧ w.cell? ⟨b, off + k, none⟩ = some (.int .i64 (f k)) := by
  obtain ⟨b, off, e, hb, hc⟩ := h (by omega)
  exact ⟨b, off, e, hb, hc k hk⟩
theorem FRow.of_own {w : World} {base n c : Nat} {e : TypeId} {g : Nat} {f : Nat → Int} (h : w.ownsRow base e 1 (.slice (some ⟨g, 0, none⟩) n c) n (fl f n)) : FRow w w.heap.size (some ⟨g, 0, none⟩) n f := fun hn => by
  have hg := (h.lt g rfl).2
  refine ⟨g, 0, rfl, hg, fun k hk => ?_⟩
  rw [Nat.zero_add, h.cellAt k (by omega), fl_at _ hk]
end Go.Proofs.Ytmmgidhaakkaoaa
