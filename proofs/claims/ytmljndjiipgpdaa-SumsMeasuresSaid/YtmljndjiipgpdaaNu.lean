/- SumsNumbers: the walk of the law. -/
import Derived.Test.YtmljndjiipgpdaaRn
import Derived.Test.YtmljndjiipgpdaaLc
namespace Go.Proofs.Ytmljndjiipgpdaa
open Go Go.RowKit GhP

theorem phi_le (n : Nat) : phi n ≤ n := phiK_le n n
theorem okN_take (n most : Int) (L : List Int) : okN n most (L.take 16) = okN n most L := by
  by_cases h : 1 ≤ n ∧ n ≤ 15
  · by_cases hl : L.length ≤ 16
    · rw [List.take_of_length_le hl]
    · have hp := phi_le n.toNat
      have e : ∀ M : List Int, 16 ≤ M.length → okN n most M = false := fun M hM => by
        cases hk : okN n most M with
        | false => rfl
        | true => have := (okN_yes hk).2.2.1; omega
      rw [e _ (by rw [List.length_take]; omega), e _ (by omega)]
  · rw [okN_out h, okN_out h]
theorem okN_short {n most : Int} {L : List Int} (h : okN n most L = true) : L.take 16 = L := by
  obtain ⟨h1, h2, h3, _⟩ := okN_yes h
  have hp := phi_le n.toNat
  exact List.take_of_length_le (by omega)
theorem wl_take {L : List Int} (h : wl L = L) (k : Nat) : wl (L.take k) = L.take k := by
  have : wl (L.take k) = (wl L).take k := by unfold wl; rw [List.map_take]
  rw [this, h]

/-- Add, Times and Turn, in one form -/
theorem Add_one (n : Int) (A B : Option Addr) (la ca lb cb : Nat) (L M : List Int) (w : World) (h : IRow w w.heap.size A la L) (k : IRow w w.heap.size B lb M) (hw : wl L = L) (kw : wl M = M) (hl : la ≤ 1000000) (kl : lb ≤ 1000000) :
    Calls Try.prog 25 #[.int .i64 n, .slice A la ca, .slice B lb cb] w (GivesIE w (if (okN n 1000 L && okN n 1000 M) = true then wl (addZ L M) else []) (if (okN n 1000 L && okN n 1000 M) = true then 0 else 2)) := by
  by_cases hn : (okN n 1000 L && okN n 1000 M) = true
  · rw [if_pos hn, if_pos hn]
    have h3 := hn
    rw [Bool.and_eq_true] at h3
    obtain ⟨a1, a2, _⟩ := okN_yes h3.1
    obtain ⟨N, rfl⟩ : ∃ N : Nat, n = N := ⟨n.toNat, by omega⟩
    rw [← hw, ← kw] at hn
    rw [← hw] at h
    rw [← kw] at k
    exact Add_yes N A B la ca lb cb L M w h k hn
  · rw [if_neg hn, if_neg hn]
    refine (Add_no n A B la ca lb cb L M w h k hl kl (by simpa using hn)).mono ?_
    rintro e w1 ⟨rfl, hb⟩
    exact ⟨none, 0, 0, rfl, World.ownsRow_nil .., fun _ => rfl, hb⟩
theorem Times_one (n : Int) (A B : Option Addr) (la ca lb cb : Nat) (L M : List Int) (w : World) (h : IRow w w.heap.size A la L) (k : IRow w w.heap.size B lb M) (hw : wl L = L) (kw : wl M = M) (hl : la ≤ 1000000) (kl : lb ≤ 1000000) :
    Calls Try.prog 23 #[.int .i64 n, .slice A la ca, .slice B lb cb] w (GivesIE w (if (okN n 1000 L && okN n 1000 M) = true then wl (timesZ (cyc n.toNat) L M) else []) (if (okN n 1000 L && okN n 1000 M) = true then 0 else 2)) := by
  by_cases hn : (okN n 1000 L && okN n 1000 M) = true
  · rw [if_pos hn, if_pos hn]
    have h3 := hn
    rw [Bool.and_eq_true] at h3
    obtain ⟨a1, a2, _⟩ := okN_yes h3.1
    obtain ⟨N, rfl⟩ : ∃ N : Nat, n = N := ⟨n.toNat, by omega⟩
    rw [← hw, ← kw] at hn
    rw [← hw] at h
    rw [← kw] at k
    rw [Int.toNat_natCast]
    exact Times_yes N A B la ca lb cb L M w h k hn
  · rw [if_neg hn, if_neg hn]
    refine (Times_no n A B la ca lb cb L M w h k hl kl (by simpa using hn)).mono ?_
    rintro e w1 ⟨rfl, hb⟩
    exact ⟨none, 0, 0, rfl, World.ownsRow_nil .., fun _ => rfl, hb⟩
theorem Turn_one (n t : Int) (A : Option Addr) (la ca : Nat) (L : List Int) (w : World) (h : IRow w w.heap.size A la L) (hw : wl L = L) (hl : la ≤ 1000000) :
    Calls Try.prog 26 #[.int .i64 n, .slice A la ca, .int .i64 t] w (GivesIE w (if (okN n 1000 L && turnB n t) = true then wl (turnZ (cyc n.toNat) n.toNat t.toNat L) else []) (if (okN n 1000 L && turnB n t) = true then 0 else 2)) := by
  by_cases hn : (okN n 1000 L && turnB n t) = true
  · rw [if_pos hn, if_pos hn]
    have h3 := hn
    rw [Bool.and_eq_true] at h3
    obtain ⟨a1, a2, _⟩ := okN_yes h3.1
    have ht := h3.2
    have ht2 := ht
    unfold turnB at ht2
    have ht3 := of_decide_eq_true ht2
    obtain ⟨N, rfl⟩ : ∃ N : Nat, n = N := ⟨n.toNat, by omega⟩
    obtain ⟨T, rfl⟩ : ∃ T : Nat, t = T := ⟨t.toNat, by omega⟩
    have h4 := h3.1
    rw [← hw] at h4
    rw [← hw] at h
    rw [Int.toNat_natCast, Int.toNat_natCast]
    exact Turn_yes N T A la ca L w h h4 ht
  · rw [if_neg hn, if_neg hn]
    refine (Turn_no n t A la ca L w h hl (by simpa using hn)).mono ?_
    rintro e w1 ⟨rfl, hb⟩
    exact ⟨none, 0, 0, rfl, World.ownsRow_nil .., fun _ => rfl, hb⟩
end Go.Proofs.Ytmljndjiipgpdaa
