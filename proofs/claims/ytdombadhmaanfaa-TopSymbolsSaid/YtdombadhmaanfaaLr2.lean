/- lift: the value of a polynomial modulo a number. -/
import Derived.Test.YtdombadhmaanfaaLr1
namespace Go.Proofs.Ytdombadhmaanfaa
open Go Go.RowKit

/-- the value of a polynomial, as the program reckons it -/
def pev (x : Int) (m : Nat) : List Int → Int
  | [] => 0
  | c :: L => (pev x m L * x + c) % (m : Int)
theorem pev_bd (x : Int) {m : Nat} (hm : 1 ≤ m) : ∀ L, 0 ≤ pev x m L ∧ pev x m L < m
  | [] => by simp [pev]; omega
  | c :: L => by
    rw [pev]
    exact ⟨Int.emod_nonneg _ (by omega), Int.emod_lt_of_pos _ (by omega)⟩

theorem ldrop_at {L : List Int} {k : Nat} {x : Int} (h : L[k]? = some x) : L.drop k = x :: L.drop (k + 1) := by
  obtain ⟨hk, e⟩ := List.getElem?_eq_some_iff.1 h
  rw [List.drop_eq_getElem_cons hk, e]

set_option maxRecDepth 100000 in
set_option maxHeartbeats 1000000 in
theorem at_any (A : Option Addr) (l c : Nat) (L : List Int) (x m : Nat) (w : World) (h : IRow w w.heap.size A l L) (hl : l ≤ 1000000) (hc : ∀ y ∈ L, -1000000 ≤ y ∧ y ≤ 1000000) (hm1 : 1 ≤ m) (hm2 : m ≤ 20000) (hx : x ≤ 20000) :
    Calls Try.prog 88 #[.slice A l c, .int .i64 (x : Int), .int .i64 (m : Int)] w fun e w' => e = .returned (.int .i64 (pev x m L)) ∧ Below w.heap.size w w' := by
  have HR := Lib.hid h
  have HL := Lib.hid h.1
  have HC := Lib.hid hc
  have HM : Hid (∀ n w', -1000000000000 ≤ n → n ≤ 1000000000000 → Calls Try.prog 93 #[.int .i64 n, .int .i64 (m : Int)] w' fun e w'' => e = .returned (.int .i64 (n % (m : Int))) ∧ Below w'.heap.size w' w'') := Lib.hid (fun n w' h1 h2 => lmod_any n m w' hm1 (by omega) h1 h2)
  have HB : Hid (∀ L, 0 ≤ pev x m L ∧ pev x m L < m) := Lib.hid (fun L => pev_bd x hm1 L)
  clear h hc
  go_enter Try.func88, Try.ntmps88
  go_wp2_with fail
  go_loopw [7, 8] (fun o i wr => ∃ k : Nat, k ≤ l ∧ o = .int .i64 (pev x m (L.drop k)) ∧ i = .int .i64 ((k : Int) - 1) ∧ Hid (Below w.heap.size w wr)) (fun _ i _ => ((intOf i) + 1).toNat)
  case atStart => exact ⟨l, Nat.le_refl _, by rw [List.drop_of_length_le (by rw [← HL.out]; omega)]; rfl, by first | rfl | go_num, Lib.hid (Below.refl _ _)⟩
  case round =>
    obtain ⟨k, hk, rfl, rfl, hb⟩ := hrel
    by_cases h0 : k = 0
    · subst h0
      go_wp2_with fail
      go_ret
      exact ⟨by first | rfl | rw [List.drop_zero], hb.out⟩
    · obtain ⟨j, rfl⟩ : ∃ j, k = j + 1 := ⟨k - 1, by omega⟩
      have hj : j < l := by omega
      obtain ⟨b, off, y, hy, hA, hB, g1⟩ := (HR.out.next hb.out).at_ hj
      subst hA
      have hyb := HC.out y (List.mem_of_getElem? hy)
      obtain ⟨y1, y2⟩ := hyb
      have HD := Lib.hid (ldrop_at hy)
      obtain ⟨v, hv⟩ : ∃ v, pev x m (L.drop (j + 1)) = v := ⟨_, rfl⟩
      have hvb := HB.out (L.drop (j + 1))
      rw [hv] at hvb
      rw [hv]
      obtain ⟨v1, v2⟩ := hvb
      have HN : Hid ((v * (x : Int) + y) % (m : Int) = pev x m (L.drop j)) := Lib.hid (by rw [HD.out, pev, hv])
      have e1 : ((j + 1 : Nat) : Int) - 1 = (j : Int) := by omega
      rw [e1]
      have hjn : (0 : Int) ≤ (j : Int) := by omega
      have hji : (j : Int) < (l : Int) := by omega
      have p1 : 0 ≤ v * (x : Int) := Int.mul_nonneg v1 (by omega)
      have p2 : v * (x : Int) ≤ 20000 * 20000 := Int.mul_le_mul (by omega) (by omega) (by omega) (by omega)
      have HCALL := Lib.hid (fun w' => HM.out (v * (x : Int) + y) w' (by omega) (by omega))
      rw [HN.out] at HCALL
      clear hy hv e1
      go_wp2_with fail
      refine (HCALL.out _).mono ?_; rintro e w2 ⟨rfl, hb2⟩
      have HB2 := Lib.hid (ibt hb.out hb2)
      clear hb2
      go_wp2_with fail
      go_roundw
      case rel => exact ⟨j, by omega, rfl, by first | rfl | go_num, HB2⟩
      case measure => simp [intOf]
end Go.Proofs.Ytdombadhmaanfaa
