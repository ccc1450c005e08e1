/- Numbers of an order in the program: the walk of turn. -/
import Derived.Test.YtmljndjiipgpdaaRt2
import Derived.Deep.RegionWith
import Derived.Deep.RegionHeld3
import Derived.Deep.DeepCutAuto
namespace Go.Proofs.Ytmljndjiipgpdaa
open Go Go.RowKit GhP

set_option maxRecDepth 100000 in
set_option maxHeartbeats 1000000 in
theorem turn_any (G : List Int) (n t : Nat) (A R : Option Addr) (m d la ca : Nat) (F : List Int) (w : World) (g : IRow w w.heap.size R m (wl G)) (h : IRow w w.heap.size A la (wl F)) (hm : 2 ≤ m) (ha : 1 ≤ la) (hmn : m ≤ n + 1) (hn : n ≤ 50) (ht : t ≤ 50) (hla : la ≤ 50) :
    Calls Try.prog 48 #[rgV n R m d, .slice A la ca, .int .i64 (t : Int)] w (GivesI w (wl (turnZ G n t F))) := by
  have hFl : F.length = la := by have := h.1; rw [wl_len] at this; omega
  obtain ⟨w0, hw0⟩ : ∃ w0, rgBox w n R m d = w0 := ⟨_, rfl⟩
  have hb0 : Below w.heap.size w w0 := by rw [← hw0]; exact (Below.refl _ _).alloc (Nat.le_refl _) _
  have hs0 : w0.heap.size = w.heap.size + 1 := by rw [← hw0]; simp
  have HF := Lib.hid (h.next hb0)
  have HG := Lib.hid (g.next hb0)
  have HB0 := Lib.hid hb0
  have HRB : Hid (∀ w', Below w0.heap.size w0 w' → w'.cell? ⟨w.heap.size, 0, none⟩ = some (.int .i64 (n : Int)) ∧ w'.cell? ⟨w.heap.size, 1, none⟩ = some (.slice R m d)) := Lib.hid (fun w' hb => by
    rw [hs0, ← hw0] at hb; exact rg_cells hb)
  have HFL := Lib.hid hFl
  obtain ⟨x1, x2⟩ := HRB.out w0 (Below.refl _ _)
  have hn1 : 1 ≤ n := by omega
  have hmk := run_make_row' (P := Try.prog) 48 3 (.int .i64 0) 8 Try.underlying48 infoI rfl .i64 .i64 n (by omega) (by omega)
  have hmax : max (n : Int) ((m : Int) - 1) = (n : Int) := by omega
  clear h g hFl hs0 hb0
  go_enter Try.func48, Try.ntmps48
  go_wp2_with fail
  try rw [hw0]
  go_region_held3 (fun w' => w'.cell? ⟨w.heap.size, 0, none⟩ = some (.int .i64 (n : Int)) ∧ w'.cell? ⟨w.heap.size, 1, none⟩ = some (.slice R m d)) (first | exact ⟨x1, x2⟩ | exact ⟨y1, y2⟩ | go_keep)
    (first | (go_at_call 53; refine (degree_any n R m d _ (by omega) (by omega)).mono ?_; rintro e w1 ⟨rfl, hb1⟩; obtain ⟨y1, y2⟩ := HRB.out w1 (by first | exact hb1 | exact ibt (ibN (Below.refl _ _) _) hb1)))
  have HB1 : Hid (Below w0.heap.size w0 w1) := Lib.hid (by first | exact hb1 | exact ibt (ibN (Below.refl _ _) _) hb1)
  obtain ⟨w2, hw2⟩ : ∃ w2, w1.alloc (Obj.cells (madeCells #[Value.int .i64 0] n) 3) = w2 := ⟨_, rfl⟩
  have how2 : Own w2 w0.heap.size (some ⟨w1.heap.size, 0, none⟩) n n (wl (List.replicate n 0)) := by
    rw [← hw2, wl_zeros]
    exact own_made HB1.out.size (by unfold maxLen; omega)
  have HB2 : Hid (Below w0.heap.size w0 w2) := Lib.hid (by rw [← hw2]; exact HB1.out.alloc HB1.out.size _)
  obtain ⟨Gf, hGf⟩ : ∃ Gf, w1.heap.size = Gf := ⟨_, rfl⟩
  rw [hGf] at how2
  have HOW2 := Lib.hid how2
  have HTL : Hid (turnGo n t (F.drop 0) 0 (List.replicate n 0) = turnL n t F) := Lib.hid rfl
  have HRL : Hid ((List.replicate n (0 : Int)).length = n) := Lib.hid (by simp)
  clear hb1 y1 y2 how2
  go_wp2_with fail
  try rw [hw2]
  try rw [hGf]
  clear hw0 hw2 hGf hmk x1 x2 hmax
  go_loopw [18] (fun iv wr => ∃ (i : Nat) (P : List Int), i ≤ la ∧ iv = .int .i64 (i : Int) ∧ Hid (turnGo n t (F.drop i) i P = turnL n t F) ∧ Hid (P.length = n) ∧ Hid (Own wr w0.heap.size (some ⟨Gf, 0, none⟩) n n (wl P)) ∧ Below w0.heap.size w0 wr) (fun iv _ => la - (intOf iv).toNat)
  case atStart => exact ⟨0, _, by omega, rfl, HTL, HRL, HOW2, HB2.out⟩
  case round =>
    obtain ⟨i, P, hi, rfl, hmz, hPl, how1, hbo⟩ := hrel
    obtain ⟨wo, hwo⟩ : ∃ wo : World, wo = wr := ⟨_, rfl⟩
    subst hwo
    obtain ⟨x1, x2⟩ := HRB.out wo hbo
    by_cases hlt : i < la
    · obtain ⟨b, off, x, hx, rfl, hB, g1⟩ := (HF.out.below hbo).at_ hlt
      obtain ⟨X, hX, hxX⟩ := wl_cell hx
      have HDR := Lib.hid (drop_at hX)
      have hii : (i : Int) < (la : Int) := by omega
      obtain ⟨p, hp⟩ : ∃ p, i * t % n = p := ⟨_, rfl⟩
      have hpn : p < n := by rw [← hp]; exact Nat.mod_lt _ (by omega)
      have HP := Lib.hid hp
      have q1 : (i : Int) * (t : Int) ≤ 50 * 50 := Int.mul_le_mul (by omega) (by omega) (by omega) (by omega)
      have q2 : 0 ≤ (i : Int) * (t : Int) := Int.mul_nonneg (by omega) (by omega)
      have q3 : (i : Int) * (t : Int) % (n : Int) = (p : Int) := by rw [← Int.natCast_mul, ← Int.natCast_emod, hp]
      have hij : p < P.length := by have := hPl.out; omega
      obtain ⟨Y, hY⟩ : ∃ Y, P[p]? = some Y := ⟨_, List.getElem?_eq_getElem hij⟩
      have HYD : Hid (P.getD p 0 = Y) := Lib.hid (by rw [List.getD_eq_getElem?_getD, hY]; rfl)
      obtain ⟨y, hy⟩ : ∃ y, wrap64 Y = y := ⟨_, rfl⟩
      have hcell3 := Own.cell how1.out (wl_at hY)
      rw [hy] at hcell3
      obtain ⟨g10, g11, g12, g13⟩ := hcell3
      have HST : Hid (wl (P.set p (Y + X)) = (wl P).set p (wrap64 (y + x))) := Lib.hid (by
        rw [wl_set, ← hy, hxX]
        congr 1
        exact w_add (w_w _).symm (w_w _).symm)
      have HTG : Hid (turnGo n t (F.drop (i + 1)) (i + 1) (P.set p (Y + X)) = turnL n t F) := Lib.hid (by
        rw [← hmz.out, HDR.out, turnGo, HP.out, HYD.out])
      clear hx hX hxX hY hy hij hp
      go_wp2_with fail
      go_roundw
      case rel => exact ⟨i + 1, P.set p (Y + X), by omega, by go_num, HTG, Lib.hid (by rw [List.length_set]; exact hPl.out), by rw [HST.out]; exact Lib.hid (Own.store how1.out p _), hbo.setCell (p := ⟨Gf, p, none⟩) g13 _⟩
      case measure => simp [intOf]; omega
    · have e : i = la := by omega
      subst e
      have HE : Hid (P = turnL n t F) := Lib.hid (by
        have := hmz.out
        rwa [List.drop_of_length_le (by rw [HFL.out]; omega), turnGo] at this)
      rw [HE.out] at how1
      have HIP := Lib.hid (IRow.of_own how1.out)
      have HIG := Lib.hid (HG.out.next hbo)
      have HBO := Lib.hid hbo
      clear hbo
      go_wp2_with fail
      refine (lowest_any n (some ⟨Gf, 0, none⟩) R m d n n (turnL n t F) G wo HIG.out HIP.out hm hmn (by omega)).mono ?_; rintro e w5 ⟨A5, n5, c5, rfl, how5, hA5, hb5⟩
      have HO5 : Hid (Own w5 w.heap.size A5 n5 c5 (wl (turnZ G n t F))) := Lib.hid (how5.low (Nat.le_trans HB0.out.size HBO.out.size))
      have HA5 := Lib.hid hA5
      have HB5 := Lib.hid (ibt HB0.out (ibt HBO.out hb5))
      clear how5 hA5 hb5
      go_wp2_with fail
      go_ret
      exact ⟨A5, n5, c5, rfl, HO5.out, HA5.out, HB5.out⟩
end Go.Proofs.Ytmljndjiipgpdaa
