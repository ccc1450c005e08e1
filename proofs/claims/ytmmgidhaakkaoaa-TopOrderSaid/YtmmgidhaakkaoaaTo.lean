/- TopOrder: the walk. -/
import Derived.Test.YtmmgidhaakkaoaaDa
import Derived.Test.YtmmgidhaakkaoaaAg3
import Derived.Test.YtmmgidhaakkaoaaLr5
import Derived.Test.YtmmgidhaakkaoaaEqi
namespace Go.Proofs.Ytmmgidhaakkaoaa
open Go Go.RowKit GhN

theorem rts_lifts : srt (cst (rts [-2, 1] 3 2)) = [2] := by
  have e : cst (rts [-2, 1] 3 2) = [2] := by decide +kernel
  rw [e]
  exact List.mergeSort_singleton _

set_option maxHeartbeats 1000000 in
theorem lifts_true (w : World) : Calls Try.prog 46 #[] w fun e w' => e = .returned (.bool true) ∧ Below w.heap.size w w' := by
  have HR := Lib.hid (IRow.of_own (own_lit (w := w) (base := w.heap.size) [-2, 1] (Nat.le_refl _) (by decide)))
  have HROOT := Lib.hid (Roots_yes (some ⟨w.heap.size, 0, none⟩) 2 2 [-2, 1] 3 2 _ HR.out (by omega) (by omega) (by decide) 1 rfl (by decide) (by decide +kernel))
  rw [rts_lifts] at HROOT
  go_enter Try.func46, Try.ntmps46
  go_wp2_with fail
  refine HROOT.out.mono ?_; rintro e w1 ⟨A, n, c, rfl, ho, hn, hb1⟩
  obtain rfl : n = 1 := ho.len
  have HB1 := Lib.hid (ibt ((Below.refl _ _).alloc (Nat.le_refl _) _) hb1)
  have HI1 := Lib.hid ((IRow.of_own ho).next ((Below.refl w1.heap.size w1).alloc (Nat.le_refl _) (Obj.cells #[Value.int .i64 2] 3)))
  have HI2 := Lib.hid (IRow.of_own (own_lit (w := w1) (base := w1.heap.size) [2] (Nat.le_refl _) (by decide)))
  have HEQ := Lib.hid (equal_b A (some ⟨w1.heap.size, 0, none⟩) 1 1 c 1 [2] [2] _ HI1.out HI2.out (by omega) (by omega))
  clear ho hn hb1
  go_wp2_with fail
  refine HEQ.out.mono ?_; rw [show decide True = true from rfl]; rintro e w2 ⟨rfl, hb2⟩
  have HB2 := Lib.hid (ibt (HB1.out.alloc HB1.out.size _) hb2)
  clear hb2
  go_wp2_with fail
  go_ret
  exact ⟨rfl, HB2.out⟩

theorem daysE_cases (k : Int) (L : List Int) : daysE k L = 0 ∨ daysE k L = 6 ∨ daysE k L = 2 := by
  unfold daysE; split
  · split <;> simp
  · simp

set_option maxRecDepth 100000 in
set_option maxHeartbeats 2000000 in
theorem order_walk (k p : Int) (w : World) (lo0 : -9223372036854775808 ≤ k) (_hi0 : k ≤ 9223372036854775807) (lo1 : -9223372036854775808 ≤ p) (hi1 : p ≤ 9223372036854775807) :
    Calls Try.prog 14 #[.int .i64 k, .int .i64 p] w fun e w' => e = .returned (.bool true) ∧ Below w.heap.size w w' := by
  have HR := Lib.hid (IRow.of_own (own_lit (w := w) (base := w.heap.size) [p] (Nat.le_refl _) (show 1 ≤ maxLen by decide)))
  have HD := Lib.hid (Days_any k (some ⟨w.heap.size, 0, none⟩) 1 1 [p] _ HR.out lo0 (by simp; exact ⟨lo1, hi1⟩) (by omega) (by omega))
  have HLI := Lib.hid (fun w' => lifts_true w')
  obtain ⟨E, hE⟩ : ∃ E, daysE k [p] = E := ⟨_, rfl⟩
  obtain ⟨D, hDe⟩ : ∃ D, daysL k [p] = D := ⟨_, rfl⟩
  have hEc := daysE_cases k [p]
  rw [hE] at hEc
  by_cases h0 : E = 0
  · subst h0
    have hpb : prmB k [p] = true := by
      cases h : prmB k [p] with
      | true => rfl
      | false => unfold daysE at hE; rw [h] at hE; simp at hE
    have hok : dOk k.toNat [p] = true := by
      cases h : dOk k.toNat [p] with
      | true => rfl
      | false => unfold daysE at hE; rw [if_pos hpb, h] at hE; simp at hE
    have hDD : D = dL k.toNat [p] := by rw [← hDe]; unfold daysL; rw [if_pos hpb, if_pos hok]
    obtain ⟨_, _, _, hall, _⟩ := prm_yes hpb
    obtain ⟨hp3, hp300, hpr, hpo⟩ := ok_prime hall (k := 0) (p := p) rfl
    obtain ⟨P, rfl⟩ : ∃ P : Nat, p = P := ⟨p.toNat, by omega⟩
    rw [Int.toNat_natCast] at hpr hpo
    obtain ⟨hord, hordlt⟩ := ordF_spec hpr hpo
    have ht1 : 1 ≤ ordF P := hord.1
    have HAG := Lib.hid (fun w' => again_any P (ordF P) w' hpr hpo (by omega) hord)
    have hDc : D = [] ∨ ∃ x, D = [(x, ((ordF P : Nat) : Int))] := by
      rw [hDD]
      have e : dL k.toNat [(P : Int)] = (dyP k.toNat P).toList := by
        unfold dL dys
        cases h : dyP k.toNat P <;> simp [h]
      rw [e]
      rcases dyP_form (K := k.toNat) hpr hpo with ⟨_, h2, _⟩ | ⟨_, h2⟩
      · rw [h2]; exact .inr ⟨_, rfl⟩
      · rw [h2]; exact .inl rfl
    rw [hE, hDe] at HD
    obtain ⟨t, ht⟩ : ∃ t, ordF P = t := ⟨_, rfl⟩
    rw [ht] at HAG hDc ht1 hordlt
    have ht1i : (1 : Int) ≤ (t : Int) := by omega
    clear hE hDe hDD hok hpb hall hpr hpo hord ht hEc
    go_enter Try.func14, Try.ntmps14
    go_wp2_with fail
    refine HD.out.mono ?_; rintro e w1 ⟨A1, n1, c1, rfl, hrow, hbw1⟩
    have HB1 := Lib.hid (ibt ((Below.refl _ _).alloc (Nat.le_refl _) _) hbw1.2)
    have HROW := Lib.hid hrow
    have HN := Lib.hid hrow.1
    clear hrow hbw1
    go_wp2_with fail
    refine (HAG.out _).mono ?_; rintro e w2 ⟨rfl, hb2⟩
    have HB2 := Lib.hid (ibt HB1.out hb2)
    have HROW2 := Lib.hid (HROW.out.below hb2)
    clear hb2
    rcases hDc with rfl | ⟨x, rfl⟩
    · obtain rfl : n1 = 0 := HN.out
      go_wp2_with fail
      refine (HLI.out _).mono ?_; rintro e w3 ⟨rfl, hb3⟩
      have HB3 := Lib.hid (ibt HB2.out hb3)
      clear hb3
      go_wp2_with fail
      go_ret
      exact ⟨rfl, HB3.out⟩
    · obtain rfl : n1 = 1 := HN.out
      obtain ⟨b, off, x', m', hx', rfl, hB, g0, g1⟩ := HROW2.out.at_ (k := 0) (by omega)
      simp only [List.getElem?_cons_zero, Option.some.injEq, Prod.mk.injEq] at hx'
      obtain ⟨rfl, rfl⟩ := hx'
      rw [Nat.zero_mul, Nat.add_zero] at g1 g0
      have teq : ((t : Int) == (t : Int)) = true := beq_self_eq_true _
      go_wp2_with fail
      refine (HLI.out _).mono ?_; rintro e w3 ⟨rfl, hb3⟩
      have HB3 := Lib.hid (ibt HB2.out hb3)
      clear hb3
      go_wp2_with fail
      go_ret
      exact ⟨rfl, HB3.out⟩
  · have te0 : (E == 0) = false := beq_eq_false_iff_ne.2 h0
    have te1 : (E != 0) = true := bne_iff_ne.2 h0
    rw [hE, hDe] at HD
    rcases hEc with h | h | h
    · exact absurd h h0
    all_goals
      subst h
      clear hE hDe h0
      go_enter Try.func14, Try.ntmps14
      go_wp2_with fail
      refine HD.out.mono ?_; rintro e w1 ⟨A1, n1, c1, rfl, hrow, hbw1⟩
      have HB1 := Lib.hid (ibt ((Below.refl _ _).alloc (Nat.le_refl _) _) hbw1.2)
      clear hrow hbw1
      go_wp2_with fail
      refine (HLI.out _).mono ?_; rintro e w3 ⟨rfl, hb3⟩
      have HB3 := Lib.hid (ibt HB1.out hb3)
      clear hb3
      go_wp2_with fail
      go_ret
      exact ⟨rfl, HB3.out⟩
end Go.Proofs.Ytmmgidhaakkaoaa
