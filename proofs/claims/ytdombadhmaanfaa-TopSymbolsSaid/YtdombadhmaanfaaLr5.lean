/- lift: Roots. -/
import Derived.Test.YtdombadhmaanfaaLr4
namespace Go.Proofs.Ytdombadhmaanfaa
open Go Go.RowKit

set_option maxRecDepth 100000 in
set_option maxHeartbeats 1000000 in
theorem pvalid_yes (A : Option Addr) (l c : Nat) (L : List Int) (w : World) (h : IRow w w.heap.size A l L) (h2 : 2 ≤ l) (h7 : l ≤ 7) (hb : ∀ y ∈ L, -1000 ≤ y ∧ y ≤ 1000) (z : Int) (hz : L[l - 1]? = some z) (hz0 : z ≠ 0) :
    Calls Try.prog 76 #[.slice A l c] w fun e w' => e = .returned (.bool true) ∧ w = w' := by
  have hlen : 1 ≤ L.length := by have := h.1; omega
  have hmin := (minL_le hlen (-1000)).2 (fun y hy => (hb y hy).1)
  have hmax := (maxL_le hlen 1000).2 (fun y hy => (hb y hy).2)
  have HMI := Lib.hid (pmin_any A l c L w h (by omega) (by omega))
  have HMA := Lib.hid (pmax_any A l c L w h (by omega) (by omega))
  obtain ⟨b, off, z', hz', rfl, hB, g1⟩ := h.at_ (k := l - 1) (by omega)
  obtain rfl : z = z' := by rw [hz] at hz'; injection hz'
  obtain ⟨m1, hm1⟩ : ∃ m1, minL L = m1 := ⟨_, rfl⟩
  obtain ⟨m2, hm2⟩ : ∃ m2, maxL L = m2 := ⟨_, rfl⟩
  rw [hm1] at hmin HMI
  rw [hm2] at hmax HMA
  obtain ⟨j, rfl⟩ : ∃ j, l = j + 1 := ⟨l - 1, by omega⟩
  rw [Nat.add_sub_cancel] at g1
  have e1 : ((j + 1 : Nat) : Int) - 1 = (j : Int) := by omega
  have tz : (z != 0) = true := bne_iff_ne.2 hz0
  have j0 : (0 : Int) ≤ (j : Int) := by omega
  have j1 : (j : Int) < (j : Int) + 1 := by omega
  clear h hz hz' hb hlen hm1 hm2 hz0 e1
  go_enter Try.func76, Try.ntmps76
  go_wp2_with fail
  refine HMI.out.mono ?_; rintro e w1 ⟨rfl, rfl⟩
  go_wp2_with fail
  refine HMA.out.mono ?_; rintro e w1 ⟨rfl, rfl⟩
  go_wp2_with fail
  go_ret
  exact ⟨rfl, rfl⟩

theorem Roots_no (A : Option Addr) (l c : Nat) (p k : Int) (w : World) (h : pwB p k = false) :
    Calls Try.prog 47 #[.slice A l c, .int .i64 p, .int .i64 k] w fun e w' => e = .returned (.tuple #[.slice none 0 0, .int .i64 2]) ∧ Below w.heap.size w w' := by
  have HP : Hid (∀ w', Calls Try.prog 74 #[.int .i64 p, .int .i64 k] w' fun e w'' => e = .returned (.tuple #[.int .i64 0, .bool false]) ∧ Below w'.heap.size w' w'') := Lib.hid (fun w' => by
    have := power_any p k w'
    rw [show pwV p k = 0 from by unfold pwV; rw [h]; rfl, h] at this
    exact this)
  clear h
  go_enter Try.func47, Try.ntmps47
  go_wp2_with fail
  refine (HP.out _).mono ?_; rintro e w1 ⟨rfl, hb1⟩
  have HB1 := Lib.hid hb1
  clear hb1
  go_wp2_with fail
  go_ret2
  exact ⟨rfl, HB1.out⟩

set_option maxHeartbeats 1000000 in
theorem Roots_yes (A : Option Addr) (l c : Nat) (L : List Int) (p K : Nat) (w : World) (h : IRow w w.heap.size A l L) (h2 : 2 ≤ l) (h7 : l ≤ 7) (hb : ∀ y ∈ L, -1000 ≤ y ∧ y ≤ 1000) (z : Int) (hz : L[l - 1]? = some z) (hz0 : z ≠ 0) (hp : pwB p K = true) :
    Calls Try.prog 47 #[.slice A l c, .int .i64 (p : Int), .int .i64 (K : Int)] w (GivesIE w (srt (cst (rts L p K))) 0) := by
  obtain ⟨V, hV⟩ : ∃ V, pwV (p : Int) (K : Int) = V := ⟨_, rfl⟩
  have HP : Hid (∀ w', Calls Try.prog 74 #[.int .i64 (p : Int), .int .i64 (K : Int)] w' fun e w'' => e = .returned (.tuple #[.int .i64 V, .bool true]) ∧ Below w'.heap.size w' w'') := Lib.hid (fun w' => by
    have := power_any (p : Int) (K : Int) w'
    rwa [hV, hp] at this)
  have hp' := hp
  unfold pwB at hp'
  rw [Bool.and_eq_true, decide_eq_true_iff, Int.toNat_natCast, Int.toNat_natCast] at hp'
  obtain ⟨hpl, hk1, hk2, hpk⟩ := hp'
  obtain ⟨P, hPe, hP1, hP2⟩ := lpB_yes hpl
  obtain rfl : p = P := by omega
  have HV : Hid (∀ w', Below w.heap.size w w' → Calls Try.prog 76 #[.slice A l c] w' fun e w'' => e = .returned (.bool true) ∧ w' = w'') := Lib.hid (fun w' hw => pvalid_yes A l c L w' (h.next hw) h2 h7 hb z hz hz0)
  have HRT : Hid (∀ w', Below w.heap.size w w' → Calls Try.prog 75 #[.slice A l c, .int .i64 (p : Int), .int .i64 (K : Int)] w' (GivesI w' (srt (cst (rts L p K))))) := Lib.hid (fun w' hw => roots_any A l c L p K w' (h.next hw) (by omega) (fun y hy => by have := hb y hy; omega) hP1 hP2 (by omega) hpk)
  obtain ⟨D, hD⟩ : ∃ D, srt (cst (rts L p K)) = D := ⟨_, rfl⟩
  rw [hD] at HRT ⊢
  clear h hb hz hz0 hp hV hpl hPe hpk hD
  go_enter Try.func47, Try.ntmps47
  go_wp2_with fail
  refine (HP.out _).mono ?_; rintro e w1 ⟨rfl, hb1⟩
  have HB1 := Lib.hid hb1
  clear hb1
  go_wp2_with fail
  refine (HV.out _ HB1.out).mono ?_; rintro e w2 ⟨rfl, rfl⟩
  go_wp2_with fail
  refine (HRT.out _ HB1.out).mono ?_; rintro e w2 ⟨A2, n2, c2, rfl, ho, hn, hb2⟩
  have HO := Lib.hid (Own.low ho HB1.out.size)
  have HN := Lib.hid hn
  have HB2 := Lib.hid (ibt HB1.out hb2)
  clear ho hn hb2
  go_wp2_with fail
  go_ret2
  exact ⟨A2, n2, c2, rfl, HO.out, HN.out, HB2.out⟩
end Go.Proofs.Ytdombadhmaanfaa
