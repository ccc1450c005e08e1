/- Slices of ints in memory, as lists (as Ib, without Clone). -/
import Derived.WalkKit
import Derived.Lib.Hide
import Derived.IntWalk
import Derived.BigQuiet
import Derived.Deep.QuietTactic
import Derived.Deep.OwnRows
import Derived.WalkSpells
import Derived.WalkLawsBesides
import Derived.Test.YtmmgidhaakkaoaaProg
namespace Go.Proofs.Ytmmgidhaakkaoaa
open Go Go.RowKit

theorem ibt {a b c : World} (h : Below a.heap.size a b) (k : Below b.heap.size b c) : Below a.heap.size a c := h.trans (k.mono h.size)
theorem ibN {B : Nat} {a w : World} (h : Below B a w) (n : Nat) : Below B a (w.drewN n) := ⟨h.os, h.tape, h.output, h.size, h.block⟩
theorem iadd (b off j : Nat) : (⟨b, off, none⟩ : Addr).add j = ⟨b, off + j, none⟩ := by
  unfold Addr.add; split
  · next h => rw [h]; rfl
  · rfl
theorem iown_bel {w w' : World} {base sz n : Nat} {e : TypeId} {v : Value} {xs : List Value} (h : w.ownsRow base e sz v n xs) (hb : Below w.heap.size w w') : w'.ownsRow base e sz v n xs :=
  h.kept (row := none) ⟨hb.os, hb.tape, hb.output, hb.size, fun k hk _ => hb.block k hk⟩ (by cases v.ownBlock <;> simp)
theorem iown_below {w wr w1 : World} {base B : Nat} {e : TypeId} {sz n : Nat} {v : Value} {xs : List Value} (h : wr.ownsRow base e sz v n xs) (hg : wr.grownBy w1 v.ownBlock) (hb : Below B w wr) (hB : B ≤ base) (hs : base ≤ wr.heap.size) : Below B w w1 := by
  refine hb.grown hg (by omega) (fun g e => ?_)
  rcases h.2 with ⟨rfl, _⟩ | ⟨g', cap, cur, rfl, hb, _⟩
  · cases e
  · injection e with e; subst e; exact Nat.le_trans hB hb
theorem iown_sl {w : World} {base n sz : Nat} {e : TypeId} {v : Value} {xs : List Value} (h : w.ownsRow base e sz v n xs) : ∃ A c, v = .slice A n c ∧ (A = none → n = 0) := by
  rcases h.2 with ⟨rfl, h0⟩ | ⟨g, cap, cur, rfl, _⟩
  · exact ⟨none, 0, by rw [h0], fun _ => h0⟩
  · exact ⟨_, cap, rfl, fun e => by cases e⟩

/-- a slice of ints that reads as L, below block B -/
def IRow (w : World) (B : Nat) (A : Option Addr) (n : Nat) (L : List Int) : Prop :=
  n = L.length ∧ (0 < n → ∃ b off, A = some ⟨b, off, none⟩ ∧ b < B ∧ ∀ k x, L[k]? = some x → w.cell? ⟨b, off + k, none⟩ = some (.int .i64 x))
theorem IRow.keep {w w' : World} {B : Nat} {A : Option Addr} {n : Nat} {L : List Int} (h : IRow w B A n L) (hk : ∀ b o, b < B → w'.cell? ⟨b, o, none⟩ = w.cell? ⟨b, o, none⟩) : IRow w' B A n L :=
  ⟨h.1, fun hn => by
    obtain ⟨b, off, e, hb, hc⟩ := h.2 hn
    exact ⟨b, off, e, hb, fun k p hp => (hk _ _ hb).trans (hc k p hp)⟩⟩
theorem IRow.below {w w' : World} {B : Nat} {A : Option Addr} {n : Nat} {L : List Int} (h : IRow w B A n L) (hb : Below B w w') : IRow w' B A n L :=
  h.keep fun b o hB => hb.cell (p := ⟨b, o, none⟩) hB
theorem IRow.more {w : World} {B B' : Nat} {A : Option Addr} {n : Nat} {L : List Int} (h : IRow w B A n L) (hB : B ≤ B') : IRow w B' A n L :=
  ⟨h.1, fun hn => by
    obtain ⟨b, off, e, hb, hc⟩ := h.2 hn
    exact ⟨b, off, e, by omega, hc⟩⟩
theorem IRow.next {w w' : World} {A : Option Addr} {n : Nat} {L : List Int} (h : IRow w w.heap.size A n L) (hb : Below w.heap.size w w') : IRow w' w'.heap.size A n L := (h.below hb).more hb.size
theorem IRow.at_ {w : World} {B : Nat} {A : Option Addr} {n : Nat} {L : List Int} (h : IRow w B A n L) {k : Nat} (hk : k < n) :
    ∃ b off x, L[k]? = some x ∧ A = some ⟨b, off, none⟩ ∧ b < B ∧ w.cell? ⟨b, off + k, none⟩ = some (.int .i64 x) := by
  obtain ⟨b, off, e, hb, hc⟩ := h.2 (by omega)
  have hl : k < L.length := by have := h.1; omega
  obtain ⟨x, hx⟩ : ∃ p, L[k]? = some p := ⟨_, List.getElem?_eq_getElem hl⟩
  exact ⟨b, off, x, hx, e, hb, hc k _ hx⟩
theorem IRow.take {w : World} {B n k : Nat} {A : Option Addr} {L : List Int} (h : IRow w B A n L) (hk : k ≤ n) : IRow w B A k (L.take k) := by
  refine ⟨by rw [List.length_take]; have := h.1; omega, fun h0 => ?_⟩
  obtain ⟨b, off, e, hb, hc⟩ := h.2 (by omega)
  refine ⟨b, off, e, hb, fun j p hp => hc j p ?_⟩
  rw [List.getElem?_take] at hp
  split at hp
  · exact hp
  · cases hp
theorem IRow.empty (w : World) (B : Nat) (A : Option Addr) : IRow w B A 0 [] := ⟨rfl, fun h => absurd h (by omega)⟩

/-- a list of ints, as cells -/
def ints (L : List Int) : List Value := L.map (Value.int .i64)
theorem ints_len (L : List Int) : (ints L).length = L.length := List.length_map _
theorem ints_at {L : List Int} {k : Nat} {x : Int} (h : L[k]? = some x) : (ints L)[k]? = some (.int .i64 x) := by unfold ints; rw [List.getElem?_map, h]; rfl
theorem ints_one (L : List Int) : ∀ u ∈ ints L, u.oneCell' = true := by
  intro u hu
  obtain ⟨x, _, rfl⟩ := List.mem_map.1 hu
  simp [Value.oneCell']
theorem ints_set (L : List Int) (k : Nat) (x : Int) : (ints L).set k (.int .i64 x) = ints (L.set k x) := by unfold ints; rw [List.map_set]
theorem ints_app (L M : List Int) : ints (L ++ M) = ints L ++ ints M := by unfold ints; rw [List.map_append]
theorem ints_zero (n : Nat) : List.replicate n (Value.int .i64 0) = ints (List.replicate n 0) := by unfold ints; rw [List.map_replicate]

theorem IRow.of_own {w : World} {base n c : Nat} {e : TypeId} {A : Option Addr} {L : List Int} (h : w.ownsRow base e 1 (.slice A n c) n (ints L)) : IRow w w.heap.size A n L := by
  have hl : n = L.length := by have := h.1; rw [ints_len] at this; omega
  refine ⟨hl, fun hn => ?_⟩
  rcases h.2 with ⟨_, h0⟩ | ⟨g, cap, cur, hv, hg, hh, r⟩
  · omega
  · injection hv with hA _ hc
    subst hA
    refine ⟨g, 0, rfl, (Array.getElem?_eq_some_iff.1 hh).1, fun k p hp => ?_⟩
    have := h.cells (g := g) rfl _ _ (ints_at hp)
    rw [iadd] at this
    exact this
theorem IRow.ints {w : World} {B : Nat} {b off n : Nat} {L : List Int} (h : IRow w B (some ⟨b, off, none⟩) n L) : ∀ j u, (ints L)[j]? = some u → w.cell? ((⟨b, off, none⟩ : Addr).add j) = some u := by
  intro j u hu
  have hj : j < L.length := by
    have := (List.getElem?_eq_some_iff.1 hu).1
    rwa [ints_len] at this
  obtain ⟨x, hx⟩ : ∃ p, L[j]? = some p := ⟨_, List.getElem?_eq_getElem hj⟩
  obtain ⟨b', off', e, _, hc⟩ := h.2 (by have := h.1; omega)
  injection e with e
  injection e with e1 e2
  subst e1 e2
  rw [ints_at hx] at hu
  injection hu with hu
  rw [← hu, iadd]
  exact hc _ _ hx

theorem infoI : (Try.prog.info? 3).map (fun i => (i.zero, i.size, i.bytes)) = some (some (.int .i64 0), 1, 8) := by kernel_rfl

/-- a row of the call's own -/
abbrev Own (w : World) (base : Nat) (A : Option Addr) (n c : Nat) (L : List Int) : Prop := w.ownsRow base 3 1 (.slice A n c) n (ints L)
theorem Own.len {w : World} {base : Nat} {A : Option Addr} {n c : Nat} {L : List Int} (h : Own w base A n c L) : n = L.length := by
  have := h.1; rw [ints_len] at this; omega
/-- a row that a make has laid -/
theorem own_made {w : World} {base n : Nat} (h1 : base ≤ w.heap.size) (h2 : n ≤ maxLen) : Own (w.alloc (Obj.cells (madeCells #[Value.int .i64 0] n) 3)) base (some ⟨w.heap.size, 0, none⟩) n n (List.replicate n 0) := by
  have h0 := World.ownsRow_lit (base := base) (e := 3) (size := 1) w (madeCells #[Value.int .i64 0] n) n h1 h2 (by simp [madeCells])
  rw [toList_madeCells_one, ints_zero] at h0
  exact h0
/-- one cell of a row of the call's own -/
theorem Own.cell {w : World} {base g n c : Nat} {L : List Int} {k : Nat} {x : Int} (h : Own w base (some ⟨g, 0, none⟩) n c L) (hx : L[k]? = some x) :
    w.cell? ⟨g, k, none⟩ = some (.int .i64 x) ∧ w.frozen? ⟨g, k, none⟩ = false ∧ g < w.heap.size ∧ base ≤ g := by
  have hk : k < L.length := (List.getElem?_eq_some_iff.1 hx).1
  have g1 := h.cellAt k (by rw [← h.len] at hk; omega)
  rw [ints_at hx] at g1
  exact ⟨g1, h.frozenAt k, (h.lt g rfl).2, (h.lt g rfl).1⟩
theorem Own.store {w : World} {base g n c : Nat} {L : List Int} (h : Own w base (some ⟨g, 0, none⟩) n c L) (k : Nat) (x : Int) : Own (w.setCell ⟨g, k, none⟩ (.int .i64 x)) base (some ⟨g, 0, none⟩) n c (L.set k x) := by
  have := (World.ownsRow.stored h k (.int .i64 x)).1
  rw [ints_set] at this
  exact this

theorem Own.other {w w' : World} {base g n c : Nat} {L : List Int} (h : Own w base (some ⟨g, 0, none⟩) n c L) (hb : w'.heap[g]? = w.heap[g]?) : Own w' base (some ⟨g, 0, none⟩) n c L := by
  rcases h.2 with ⟨h0, _⟩ | ⟨g', cap, cur, hv, hg, hh, r⟩
  · cases h0
  · injection hv with hA hn hc
    injection hA with hA
    injection hA with hA _ _
    subst hA
    exact ⟨h.1, .inr ⟨g, cap, cur, by rw [hc], hg, hb.trans hh, r⟩⟩
theorem Own.low {w : World} {base base' : Nat} {A : Option Addr} {n c : Nat} {L : List Int} (h : Own w base A n c L) (hb : base' ≤ base) : Own w base' A n c L := by
  rcases h.2 with h2 | ⟨g, cap, cur, hv, hg, r⟩
  · exact ⟨h.1, .inl h2⟩
  · exact ⟨h.1, .inr ⟨g, cap, cur, hv, Nat.le_trans hb hg, r⟩⟩
theorem Own.take {w : World} {base g n c k : Nat} {L : List Int} (h : Own w base (some ⟨g, 0, none⟩) n c L) (hk : k ≤ n) : Own w base (some ⟨g, 0, none⟩) k c (L.take k) := by
  have hl := h.len
  rcases h.2 with ⟨h0, _⟩ | ⟨g', cap, cur, hv, hg, hh, h1, h2, h3, h4⟩
  · cases h0
  · injection hv with hA hn hc
    subst hc
    injection hA with hA
    injection hA with hA _ _
    subst hA
    refine ⟨by rw [ints_len, List.length_take]; omega, .inr ⟨g, c, cur, rfl, hg, hh, by omega, h2, h3, ?_⟩⟩
    unfold ints at h4 ⊢
    rw [List.map_take, ← h4, List.take_take]
    congr 1; omega
theorem Own.form {w : World} {base : Nat} {A : Option Addr} {n c : Nat} {L : List Int} (h : Own w base A n c L) (hn : 0 < n) : ∃ g, A = some ⟨g, 0, none⟩ := by
  rcases h.2 with ⟨_, h0⟩ | ⟨g, cap, cur, hv, _⟩
  · omega
  · injection hv with hA _ _; exact ⟨g, hA⟩

/-- a result that is a slice of ints in memory of the call's own -/
def GivesI (w : World) (L : List Int) (e : Ending) (w' : World) : Prop :=
  ∃ A n c, e = .returned (.slice A n c) ∧ Own w' w.heap.size A n c L ∧ (A = none → n = 0) ∧ Below w.heap.size w w'
def GivesIE (w : World) (L : List Int) (E : Int) (e : Ending) (w' : World) : Prop :=
  ∃ A n c, e = .returned (.tuple #[.slice A n c, .int .i64 E]) ∧ Own w' w.heap.size A n c L ∧ (A = none → n = 0) ∧ Below w.heap.size w w'
end Go.Proofs.Ytmmgidhaakkaoaa
