/- Slices of pairs in memory, as lists. -/
import Derived.WalkKit
import Derived.Lib.Hide
import Derived.IntWalk
import Derived.BigQuiet
import Derived.Deep.QuietTactic
import Derived.WalkSpells
import Derived.WalkLawsBesides
import Derived.Test.YtdombadhmaanfaaProg
namespace Go.Proofs.Ytdombadhmaanfaa
open Go Go.RowKit

theorem pbt {a b c : World} (h : Below a.heap.size a b) (k : Below b.heap.size b c) : Below a.heap.size a c := h.trans (k.mono h.size)
theorem pbN {B : Nat} {a w : World} (h : Below B a w) (n : Nat) : Below B a (w.drewN n) := ⟨h.os, h.tape, h.output, h.size, h.block⟩
/-- a slice of pairs that reads as L, below block B -/
def PRow (w : World) (B : Nat) (A : Option Addr) (n : Nat) (L : List (Int × Int)) : Prop :=
  n = L.length ∧ (0 < n → ∃ b off, A = some ⟨b, off, none⟩ ∧ b < B ∧ ∀ k p, L[k]? = some p →
    w.cell? ⟨b, off + k * 2, none⟩ = some (.int .i64 p.1) ∧ w.cell? ⟨b, off + k * 2 + 1, none⟩ = some (.int .i64 p.2))

theorem PRow.keep {w w' : World} {B : Nat} {A : Option Addr} {n : Nat} {L : List (Int × Int)} (h : PRow w B A n L) (hk : ∀ b o, b < B → w'.cell? ⟨b, o, none⟩ = w.cell? ⟨b, o, none⟩) : PRow w' B A n L :=
  ⟨h.1, fun hn => by
    obtain ⟨b, off, e, hb, hc⟩ := h.2 hn
    exact ⟨b, off, e, hb, fun k p hp => ⟨(hk _ _ hb).trans (hc k p hp).1, (hk _ _ hb).trans (hc k p hp).2⟩⟩⟩
theorem PRow.below {w w' : World} {B : Nat} {A : Option Addr} {n : Nat} {L : List (Int × Int)} (h : PRow w B A n L) (hb : Below B w w') : PRow w' B A n L :=
  h.keep fun b o hB => hb.cell (p := ⟨b, o, none⟩) hB
theorem PRow.more {w : World} {B B' : Nat} {A : Option Addr} {n : Nat} {L : List (Int × Int)} (h : PRow w B A n L) (hB : B ≤ B') : PRow w B' A n L :=
  ⟨h.1, fun hn => by
    obtain ⟨b, off, e, hb, hc⟩ := h.2 hn
    exact ⟨b, off, e, by omega, hc⟩⟩
theorem PRow.at_ {w : World} {B : Nat} {A : Option Addr} {n : Nat} {L : List (Int × Int)} (h : PRow w B A n L) {k : Nat} (hk : k < n) :
    ∃ b off x m, L[k]? = some (x, m) ∧ A = some ⟨b, off, none⟩ ∧ b < B ∧ w.cell? ⟨b, off + k * 2, none⟩ = some (.int .i64 x) ∧ w.cell? ⟨b, off + k * 2 + 1, none⟩ = some (.int .i64 m) := by
  obtain ⟨b, off, e, hb, hc⟩ := h.2 (by omega)
  have hl : k < L.length := by have := h.1; omega
  obtain ⟨⟨x, m⟩, hx⟩ : ∃ p, L[k]? = some p := ⟨_, List.getElem?_eq_getElem hl⟩
  have := hc k _ hx
  exact ⟨b, off, x, m, hx, e, hb, this.1, this.2⟩

def pflat (L : List (Int × Int)) : List Value := L.flatMap fun p => [.int .i64 p.1, .int .i64 p.2]
theorem pflat_append (L M : List (Int × Int)) : pflat (L ++ M) = pflat L ++ pflat M := by simp [pflat]
theorem pflat_len (L : List (Int × Int)) : (pflat L).length = L.length * 2 := by
  induction L with
  | nil => rfl
  | cons p L ih => simp [pflat] at ih ⊢; omega
theorem pflat_at : ∀ (L : List (Int × Int)) (k : Nat) (p : Int × Int), L[k]? = some p → (pflat L)[k * 2]? = some (.int .i64 p.1) ∧ (pflat L)[k * 2 + 1]? = some (.int .i64 p.2)
  | [], k, p, h => by simp at h
  | q :: L, 0, p, h => by
    simp at h; subst h; exact ⟨rfl, rfl⟩
  | q :: L, k + 1, p, h => by
    have := pflat_at L k p (by simpa using h)
    have e : (k + 1) * 2 = k * 2 + 1 + 1 := by omega
    rw [e]
    exact this
theorem pflat_one (L : List (Int × Int)) : ∀ u ∈ pflat L, u.oneCell' = true := by
  intro u hu
  obtain ⟨p, _, hp⟩ := List.mem_flatMap.1 hu
  simp at hp
  rcases hp with rfl | rfl <;> simp [Value.oneCell']

theorem padd (b off j : Nat) : (⟨b, off, none⟩ : Addr).add j = ⟨b, off + j, none⟩ := by
  unfold Addr.add; split
  · next h => rw [h]; rfl
  · rfl

theorem PRow.pflat {w : World} {B : Nat} {b off n : Nat} {L : List (Int × Int)} (h : PRow w B (some ⟨b, off, none⟩) n L) : ∀ j u, (pflat L)[j]? = some u → w.cell? ((⟨b, off, none⟩ : Addr).add j) = some u := by
  intro j u hu
  have hj : j < L.length * 2 := by
    have := (List.getElem?_eq_some_iff.1 hu).1
    rwa [pflat_len] at this
  have hk : j / 2 < L.length := by omega
  obtain ⟨p, hp⟩ : ∃ p, L[j / 2]? = some p := ⟨_, List.getElem?_eq_getElem hk⟩
  obtain ⟨b', off', e, _, hc⟩ := h.2 (by have := h.1; omega)
  injection e with e
  injection e with e1 e2
  subst e1 e2
  obtain ⟨c1, c2⟩ := hc _ p hp
  obtain ⟨f1, f2⟩ := pflat_at L _ p hp
  rw [padd]
  by_cases hm : j % 2 = 0
  · have : j = j / 2 * 2 := by omega
    rw [← this] at f1 c1
    rw [f1] at hu
    injection hu with hu
    rw [← hu]; exact c1
  · have : j = j / 2 * 2 + 1 := by omega
    rw [← this] at f2
    rw [Nat.add_assoc, ← this] at c2
    rw [f2] at hu
    injection hu with hu
    rw [← hu]; exact c2

theorem PRow.of_own {w : World} {base n c : Nat} {e : TypeId} {A : Option Addr} {L : List (Int × Int)} (h : w.ownsRow base e 2 (.slice A n c) n (Go.Proofs.Ytdombadhmaanfaa.pflat L)) : PRow w w.heap.size A n L := by
  have hl : n = L.length := by have := h.1; rw [pflat_len] at this; omega
  refine ⟨hl, fun hn => ?_⟩
  rcases h.2 with ⟨_, h0⟩ | ⟨g, cap, cur, hv, hg, hh, r⟩
  · omega
  · injection hv with hA _ hc
    subst hA
    refine ⟨g, 0, rfl, (Array.getElem?_eq_some_iff.1 hh).1, fun k p hp => ?_⟩
    have hcells := h.cells (g := g) rfl
    obtain ⟨f1, f2⟩ := pflat_at L k p hp
    have g1 := hcells _ _ f1
    have g2 := hcells _ _ f2
    rw [padd] at g1 g2
    exact ⟨g1, by rw [Nat.add_assoc]; exact g2⟩

theorem ptake_at {L : List (Int × Int)} {k : Nat} {p : Int × Int} (h : L[k]? = some p) : L.take (k + 1) = L.take k ++ [p] := by
  obtain ⟨hk, e⟩ := List.getElem?_eq_some_iff.1 h
  rw [List.take_succ_eq_append_getElem hk, e]

theorem PRow.take {w : World} {B n k : Nat} {A : Option Addr} {L : List (Int × Int)} (h : PRow w B A n L) (hk : k ≤ n) : PRow w B A k (L.take k) := by
  refine ⟨by rw [List.length_take]; have := h.1; omega, fun h0 => ?_⟩
  obtain ⟨b, off, e, hb, hc⟩ := h.2 (by omega)
  refine ⟨b, off, e, hb, fun j p hp => hc j p ?_⟩
  have hj : j < (L.take k).length := (List.getElem?_eq_some_iff.1 hp).1
  rw [List.length_take] at hj
  rw [List.getElem?_take] at hp
  split at hp
  · exact hp
  · cases hp

/-- a slice of pairs of the call's own that holds a list -/
def PRel (T : TypeId) (w : World) (D : List (Int × Int)) (v : Value) (wr : World) : Prop :=
  wr.ownsRow w.heap.size T 2 v D.length (pflat D) ∧ Below w.heap.size w wr
theorem PRel.next {T : TypeId} {w wr w2 w1 : World} {D : List (Int × Int)} {v v' : Value} {x m : Int} (h : PRel T w D v wr) (h2 : Below wr.heap.size wr w2)
    (hown : w1.ownsRow w.heap.size T 2 v' (D.length + 1) (pflat D ++ [.int .i64 x, .int .i64 m])) (hg : w2.grownBy w1 v.ownBlock) : PRel T w (D ++ [(x, m)]) v' w1 := by
  obtain ⟨h1, hb⟩ := h
  refine ⟨by rw [List.length_append, pflat_append]; exact hown, ?_⟩
  refine (pbt hb h2).grown hg (by have := hb.size; have := h2.size; omega) (fun g e => ?_)
  rcases h1.2 with ⟨rfl, _⟩ | ⟨g', cap, cur, rfl, hb, _⟩
  · cases e
  · injection e with e; subst e; exact hb
theorem PRel.below {T : TypeId} {w wr w2 : World} {D : List (Int × Int)} {v : Value} (h : PRel T w D v wr) (h2 : Below wr.heap.size wr w2) : PRel T w D v w2 :=
  ⟨h.1.kept (row := none) ⟨h2.os, h2.tape, h2.output, h2.size, fun k hk _ => h2.block k hk⟩ (by cases v.ownBlock <;> simp), pbt h.2 h2⟩
theorem PRel.form {T : TypeId} {w wr : World} {D : List (Int × Int)} {v : Value} (h : PRel T w D v wr) : ∃ A c, v = .slice A D.length c ∧ PRow wr wr.heap.size A D.length D ∧ (A = none → D.length = 0 ∧ c = 0) := by
  rcases h.1.2 with ⟨rfl, h0⟩ | ⟨g, cap, cur, rfl, _⟩
  · have e : (Value.slice none 0 0) = .slice none D.length 0 := by rw [h0]
    exact ⟨none, 0, e, PRow.of_own (e ▸ h.1), fun _ => ⟨h0, rfl⟩⟩
  · exact ⟨_, cap, rfl, PRow.of_own h.1, fun e => by cases e⟩

/-- a result that is a slice of pairs and an error's number -/
def GivesPE (w : World) (D : List (Int × Int)) (E : Int) (e : Ending) (w' : World) : Prop :=
  ∃ A n c, e = .returned (.tuple #[.slice A n c, .int .i64 E]) ∧ PRow w' w'.heap.size A n D ∧ (A = none → n = 0 ∧ c = 0) ∧ Below w.heap.size w w'

theorem prow_nil {w : World} {B : Nat} {A : Option Addr} : PRow w B A 0 [] := ⟨rfl, fun h => absurd h (by omega)⟩
theorem pflat_news {w w0 : World} {x m : Int} {g : Nat} {T : TypeId} (hg : w0.heap.size = g) (hw : w = w0.alloc (Obj.cells #[.int .i64 x, .int .i64 m] T)) : ∀ j u, ([Value.int .i64 x, .int .i64 m] : List Value)[j]? = some u → w.cell? ((⟨g, 0, none⟩ : Addr).add j) = some u := by
  intro j u hu
  rw [padd, hw, ← hg]
  rcases j with _ | _ | j
  · simp at hu; subst hu; simp
  · simp at hu; subst hu; simp
  · simp at hu
theorem ptwo_one {x m : Int} : ∀ u ∈ ([Value.int .i64 x, .int .i64 m] : List Value), u.oneCell' = true := by
  intro u hu; simp at hu; rcases hu with rfl | rfl <;> simp [Value.oneCell']
end Go.Proofs.Ytdombadhmaanfaa
