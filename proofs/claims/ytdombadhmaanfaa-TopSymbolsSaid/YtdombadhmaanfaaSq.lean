/- lift: the roots of a square: how many, and the least one modulo a prime. -/
import Derived.Test.YtdombadhmaanfaaLr5
import Derived.Test.YtdombadhmaanfaaRo
namespace Go.Proofs.Ytdombadhmaanfaa
open Go Go.RowKit GhN

abbrev sqL (a : Nat) : List Int := [-(a : Int), 0, 1]
theorem sq_one : ∀ p ∈ [3, 5, 7, 11, 13], ∀ a, a < p → ((rts (sqL a) p 1).length : Int) = 1 + jn a p ∧ (rts (sqL a) p 1).Pairwise (· ≤ ·) ∧ (rts (sqL a) p 1).head?.getD (rtV a p) = rtV a p := by decide +kernel
theorem sq_pow : ∀ p ∈ [3, 5, 7, 11, 13], ∀ a, a < p → 1 ≤ a → ∀ k, k < 10 → 1 ≤ k → p ^ k ≤ 20000 → ((rts (sqL a) p k).length : Int) = 1 + jn a p := by decide +kernel
theorem pow10 : ∀ p ∈ [3, 5, 7, 11, 13], 20000 < p ^ 10 := by decide

theorem cst_get {R : List Nat} {k : Nat} : (cst R)[k]? = R[k]?.map fun x : Nat => (x : Int) := List.getElem?_map
theorem srt_one {p a : Nat} (hp : p ∈ [3, 5, 7, 11, 13]) (ha : a < p) : srt (cst (rts (sqL a) p 1)) = cst (rts (sqL a) p 1) := by
  have h := (sq_one p hp a ha).2.1
  refine List.mergeSort_of_pairwise ?_
  unfold cst
  rw [List.pairwise_map]
  exact h.imp (fun h => decide_eq_true (by omega))
/-- modulo the prime -/
theorem sq_first {p a : Nat} (hp : p ∈ [3, 5, 7, 11, 13]) (ha : a < p) : ((srt (cst (rts (sqL a) p 1))).length : Int) = 1 + jn a p ∧ ∀ x, (srt (cst (rts (sqL a) p 1)))[0]? = some x → x = ((rtV a p : Nat) : Int) := by
  obtain ⟨h1, _, h3⟩ := sq_one p hp a ha
  rw [srt_one hp ha]
  refine ⟨by rw [cst_len]; exact h1, fun x hx => ?_⟩
  rw [cst_get] at hx
  cases hR : rts (sqL a) p 1 with
  | nil => rw [hR] at hx; simp at hx
  | cons y R =>
    rw [hR] at hx h3
    simp at hx h3
    omega
theorem sq_all {p a k : Nat} (hp : p ∈ [3, 5, 7, 11, 13]) (ha : a < p) (ha1 : 1 ≤ a) (hk : 1 ≤ k) (hpk : p ^ k ≤ 20000) : ((srt (cst (rts (sqL a) p k))).length : Int) = 1 + jn a p := by
  rw [srt_len, cst_len]
  refine sq_pow p hp a ha ha1 k ?_ hk hpk
  apply Classical.byContradiction
  intro h
  have h1 := pow10 p hp
  have hp0 : 1 ≤ p := by
    simp at hp; omega
  have h2 := Nat.pow_le_pow_right hp0 (show 10 ≤ k by omega)
  omega

theorem Square_no (a p k : Int) (w : World) (h : pwB p k = false) :
    Calls Try.prog 46 #[.int .i64 a, .int .i64 p, .int .i64 k] w fun e w' => e = .returned (.tuple #[.slice none 0 0, .int .i64 2]) ∧ Below w.heap.size w w' := by
  have HP : Hid (∀ w', Calls Try.prog 74 #[.int .i64 p, .int .i64 k] w' fun e w'' => e = .returned (.tuple #[.int .i64 0, .bool false]) ∧ Below w'.heap.size w' w'') := Lib.hid (fun w' => by
    have := power_any p k w'
    rw [show pwV p k = 0 from by unfold pwV; rw [h]; rfl, h] at this
    exact this)
  clear h
  go_enter Try.func46, Try.ntmps46
  go_wp2_with fail
  refine (HP.out _).mono ?_; rintro e w1 ⟨rfl, hb1⟩
  have HB1 := Lib.hid hb1
  clear hb1
  go_wp2_with fail
  go_ret2
  exact ⟨rfl, HB1.out⟩

set_option maxHeartbeats 1000000 in
theorem Square_yes (a p K : Nat) (w : World) (ha : a ≤ 1000) (hp : pwB p K = true) :
    Calls Try.prog 46 #[.int .i64 (a : Int), .int .i64 (p : Int), .int .i64 (K : Int)] w (GivesIE w (srt (cst (rts (sqL a) p K))) 0) := by
  obtain ⟨V, hV⟩ : ∃ V, pwV (p : Int) (K : Int) = V := ⟨_, rfl⟩
  have HP : Hid (∀ w', Calls Try.prog 74 #[.int .i64 (p : Int), .int .i64 (K : Int)] w' fun e w'' => e = .returned (.tuple #[.int .i64 V, .bool true]) ∧ Below w'.heap.size w' w'') := Lib.hid (fun w' => by
    have := power_any (p : Int) (K : Int) w'
    rwa [hV, hp] at this)
  have hp' := hp
  unfold pwB at hp'
  rw [Bool.and_eq_true, decide_eq_true_iff, Int.toNat_natCast, Int.toNat_natCast] at hp'
  obtain ⟨hpl, hk1, hk2, hpk⟩ := hp'
  obtain ⟨P, hPe, hP1, hP2⟩ := lpB_yes hpl
  obtain rfl : p = P := by omega
  have HRT : Hid (∀ w' : World, Calls Try.prog 75 #[.slice (some ⟨w'.heap.size, 0, none⟩) 3 3, .int .i64 (p : Int), .int .i64 (K : Int)] (w'.alloc (Obj.cells #[.int .i64 (-(a : Int)), .int .i64 0, .int .i64 1] 3)) (GivesI (w'.alloc (Obj.cells #[.int .i64 (-(a : Int)), .int .i64 0, .int .i64 1] 3)) (srt (cst (rts (sqL a) p K))))) := Lib.hid (fun w' =>
    roots_any _ 3 3 (sqL a) p K _ (IRow.of_own (own_lit (w := w') (base := w'.heap.size) (sqL a) (Nat.le_refl _) (show 3 ≤ maxLen by decide))) (by omega) (fun y hy => by simp at hy; omega) hP1 hP2 (by omega) hpk)
  obtain ⟨D, hD⟩ : ∃ D, srt (cst (rts (sqL a) p K)) = D := ⟨_, rfl⟩
  rw [hD] at HRT ⊢
  have ha0 : (a : Int) ≤ 1000 := by omega
  clear hp hV hpl hPe hpk hD
  go_enter Try.func46, Try.ntmps46
  go_wp2_with fail
  refine (HP.out _).mono ?_; rintro e w1 ⟨rfl, hb1⟩
  have HB1 := Lib.hid hb1
  clear hb1
  go_wp2_with fail
  refine (HRT.out w1).mono ?_; rintro e w2 ⟨A2, n2, c2, rfl, ho, hn, hb2⟩
  have HO := Lib.hid (Own.low ho (Nat.le_trans HB1.out.size (by simp)))
  have HN := Lib.hid hn
  have HB2 := Lib.hid (ibt (HB1.out.alloc HB1.out.size _) hb2)
  clear ho hn hb2
  go_wp2_with fail
  go_ret2
  exact ⟨A2, n2, c2, rfl, HO.out, HN.out, HB2.out⟩
end Go.Proofs.Ytdombadhmaanfaa
