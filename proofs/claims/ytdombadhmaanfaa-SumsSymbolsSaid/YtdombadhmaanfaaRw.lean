/- Slices whose elements are some cells each, read as lists. -/
import Derived.WalkKit
import Derived.Lib.Hide
namespace Go.Proofs.Ytdombadhmaanfaa
open Go Go.RowKit

/-- a slice that reads as L, its elements sz cells each, below block B -/
def Rw {α : Type} (sz : Nat) (enc : α → List Value) (w : World) (B : Nat) (A : Option Addr) (n : Nat) (L : List α) : Prop :=
  n = L.length ∧ (0 < n → ∃ b off, A = some ⟨b, off, none⟩ ∧ b < B ∧ ∀ k p, L[k]? = some p → ∀ j v, (enc p)[j]? = some v → w.cell? ⟨b, off + k * sz + j, none⟩ = some v)

section
variable {α : Type} {sz : Nat} {enc : α → List Value} {w w' : World} {B B' : Nat} {A : Option Addr} {n : Nat} {L : List α}

theorem Rw.keep (h : Rw sz enc w B A n L) (hk : ∀ b o, b < B → w'.cell? ⟨b, o, none⟩ = w.cell? ⟨b, o, none⟩) : Rw sz enc w' B A n L :=
  ⟨h.1, fun hn => by
    obtain ⟨b, off, e, hb, hc⟩ := h.2 hn
    exact ⟨b, off, e, hb, fun k p hp j v hv => (hk _ _ hb).trans (hc k p hp j v hv)⟩⟩
theorem Rw.below (h : Rw sz enc w B A n L) (hb : Below B w w') : Rw sz enc w' B A n L := h.keep fun b o hB => hb.cell (p := ⟨b, o, none⟩) hB
theorem Rw.more (h : Rw sz enc w B A n L) (hB : B ≤ B') : Rw sz enc w B' A n L :=
  ⟨h.1, fun hn => by
    obtain ⟨b, off, e, hb, hc⟩ := h.2 hn
    exact ⟨b, off, e, by omega, hc⟩⟩
theorem Rw.next (h : Rw sz enc w w.heap.size A n L) (hb : Below w.heap.size w w') : Rw sz enc w' w'.heap.size A n L := (h.below hb).more hb.size
theorem Rw.at_ (h : Rw sz enc w B A n L) {k : Nat} (hk : k < n) :
    ∃ b off p, L[k]? = some p ∧ A = some ⟨b, off, none⟩ ∧ b < B ∧ ∀ j v, (enc p)[j]? = some v → w.cell? ⟨b, off + k * sz + j, none⟩ = some v := by
  obtain ⟨b, off, e, hb, hc⟩ := h.2 (by omega)
  have hl : k < L.length := by have := h.1; omega
  exact ⟨b, off, L[k], List.getElem?_eq_getElem hl, e, hb, hc k _ (List.getElem?_eq_getElem hl)⟩
theorem Rw.nil (sz : Nat) (enc : α → List Value) (w : World) (B : Nat) : Rw sz enc w B none 0 ([] : List α) := ⟨rfl, fun h => absurd h (by omega)⟩
theorem Rw.take (h : Rw sz enc w B A n L) {k : Nat} (hk : k ≤ n) : Rw sz enc w B A k (L.take k) := by
  refine ⟨by rw [List.length_take]; have := h.1; omega, fun h0 => ?_⟩
  obtain ⟨b, off, e, hb, hc⟩ := h.2 (by omega)
  refine ⟨b, off, e, hb, fun j p hp => hc j p ?_⟩
  rw [List.getElem?_take] at hp
  split at hp
  · exact hp
  · cases hp

theorem rw_len (h : ∀ p : α, (enc p).length = sz) (L : List α) : (L.flatMap enc).length = L.length * sz := by
  induction L with
  | nil => simp
  | cons p L ih => rw [List.flatMap_cons, List.length_append, h, ih, List.length_cons, Nat.add_mul]; omega

theorem rw_at (h : ∀ p : α, (enc p).length = sz) : ∀ (L : List α) (k : Nat) (p : α), L[k]? = some p → ∀ j v, (enc p)[j]? = some v → (L.flatMap enc)[k * sz + j]? = some v
  | [], k, p, hp, j, v, _ => by simp at hp
  | q :: L, 0, p, hp, j, v, hv => by
    simp at hp; subst hp
    have hj : j < (enc q).length := (List.getElem?_eq_some_iff.1 hv).1
    rw [List.flatMap_cons, Nat.zero_mul, Nat.zero_add, List.getElem?_append_left hj]; exact hv
  | q :: L, k + 1, p, hp, j, v, hv => by
    have := rw_at h L k p (by simpa using hp) j v hv
    rw [List.flatMap_cons, List.getElem?_append_right (by rw [h, Nat.add_mul]; omega), h, show (k + 1) * sz + j - sz = k * sz + j by rw [Nat.add_mul]; omega]
    exact this

theorem radd (b off j : Nat) : (⟨b, off, none⟩ : Addr).add j = ⟨b, off + j, none⟩ := by
  unfold Addr.add; split
  · next h => rw [h]; rfl
  · rfl

/-- all cells of a row, in one line -/
theorem Rw.flat (hz : 0 < sz) (he : ∀ p : α, (enc p).length = sz) {b off : Nat} (h : Rw sz enc w B (some ⟨b, off, none⟩) n L) : ∀ j u, (L.flatMap enc)[j]? = some u → w.cell? ((⟨b, off, none⟩ : Addr).add j) = some u := by
  intro j u hu
  have hj : j < L.length * sz := by
    have := (List.getElem?_eq_some_iff.1 hu).1
    rwa [rw_len he] at this
  have hk : j / sz < L.length := Nat.div_lt_of_lt_mul (by rw [Nat.mul_comm]; exact hj)
  obtain ⟨p, hp⟩ : ∃ p, L[j / sz]? = some p := ⟨_, List.getElem?_eq_getElem hk⟩
  obtain ⟨b', off', e, _, hc⟩ := h.2 (by rw [h.1]; exact Nat.lt_of_le_of_lt (Nat.zero_le _) hk)
  injection e with e
  injection e with e1 e2
  subst e1 e2
  have hm : j % sz < (enc p).length := by rw [he]; exact Nat.mod_lt _ hz
  have hv := List.getElem?_eq_getElem hm
  have h1 := hc _ p hp _ _ hv
  have h2 := rw_at he L _ p hp _ _ hv
  have e : j / sz * sz + j % sz = j := by rw [Nat.mul_comm]; exact Nat.div_add_mod j sz
  rw [e] at h2
  rw [Nat.add_assoc, e] at h1
  rw [h2] at hu
  injection hu with hu
  rw [radd, ← hu]; exact h1

/-- a row of the call's own -/
theorem Rw.of_own (hz : 0 < sz) (he : ∀ p : α, (enc p).length = sz) {base c : Nat} {e : TypeId} (h : w.ownsRow base e sz (.slice A n c) n (L.flatMap enc)) : Rw sz enc w w.heap.size A n L := by
  have hl : n = L.length := by
    have := h.1
    rw [rw_len he] at this
    exact (Nat.eq_of_mul_eq_mul_right hz this).symm
  refine ⟨hl, fun hn => ?_⟩
  rcases h.2 with ⟨_, h0⟩ | ⟨g, cap, cur, hv, hg, hh, r⟩
  · omega
  · injection hv with hA _ hc
    subst hA
    refine ⟨g, 0, rfl, (Array.getElem?_eq_some_iff.1 hh).1, fun k p hp j v hv => ?_⟩
    have hcells := h.cells (g := g) rfl
    have g1 := hcells _ _ (rw_at he L k p hp j v hv)
    rw [radd] at g1
    rw [Nat.add_assoc]; exact g1

/-- the value of an owned row is a slice -/
theorem own_slice {base : Nat} {e : TypeId} {v : Value} {xs : List Value} (h : w.ownsRow base e sz v n xs) : ∃ A c, v = .slice A n c ∧ (A = none → n = 0) := by
  rcases h.2 with ⟨rfl, h0⟩ | ⟨g, cap, cur, rfl, _⟩
  · exact ⟨none, 0, by rw [h0], fun _ => h0⟩
  · exact ⟨_, cap, rfl, fun e => by cases e⟩
end

theorem take_at' {α : Type} {L : List α} {k : Nat} {p : α} (h : L[k]? = some p) : L.take (k + 1) = L.take k ++ [p] := by
  obtain ⟨hk, e⟩ := List.getElem?_eq_some_iff.1 h
  rw [List.take_succ_eq_append_getElem hk, e]

/-- behind an append onto an owned row: what lay below the base is as it was -/
theorem own_below {w wr w1 : World} {base : Nat} {e : TypeId} {sz n : Nat} {v : Value} {xs : List Value} (h : wr.ownsRow base e sz v n xs) (hg : wr.grownBy w1 v.ownBlock) (hb : Below base w wr) (hs : base ≤ wr.heap.size) : Below base w w1 := by
  refine hb.grown hg hs (fun g e => ?_)
  rcases h.2 with ⟨rfl, _⟩ | ⟨g', cap, cur, rfl, hb, _⟩
  · cases e
  · injection e with e; subst e; exact hb
end Go.Proofs.Ytdombadhmaanfaa
