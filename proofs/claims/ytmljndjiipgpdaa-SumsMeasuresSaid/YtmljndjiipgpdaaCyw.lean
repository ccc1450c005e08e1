/- The polynomial of an order: the walks of cyclotomic and Cyclotomic, and of the reference's. -/
import Derived.Test.YtmljndjiipgpdaaPw
namespace Go.Proofs.Ytmljndjiipgpdaa
open Go Go.RowKit GhP

theorem overGo_len (g : List Int) : ∀ (i : Nat) (L Q : List Int), (overGo g i L Q).length = i + Q.length
  | 0, _, _ => by rw [overGo]; omega
  | i + 1, L, Q => by rw [overGo, overGo_len g i]; simp; omega
theorem cyc_facts {n : Nat} (h1 : 1 ≤ n) (h2 : n ≤ 60) : (cyc n).length = phi n + 1 ∧ wl (cyc n) = cyc n ∧ stage n n = cyc n ∧ ∀ d, 0 < d → d < n → n % d = 0 → (cyc d).length ≤ (stage n d).length := by
  have h := ok_cyc n (by omega) h1
  have k := ok_stage n (by omega) h1
  unfold okCyc at h
  unfold okStage at k
  simp only [Bool.and_eq_true, beq_iff_eq, List.all_eq_true, List.mem_range, Bool.or_eq_true, Bool.not_eq_true', Bool.and_eq_false_iff, decide_eq_true_eq, decide_eq_false_iff_not, beq_eq_false_iff_ne] at h k
  refine ⟨h.1.1.1, h.1.2, k.1, fun d h3 h4 h5 => ?_⟩
  rcases k.2 d h4 with (h6 | h6) | h6
  · exact absurd h3 h6
  · exact absurd h5 h6
  · exact h6
theorem stage_len {n : Nat} (h1 : 1 ≤ n) : ∀ d, (∀ e, 0 < e → e < d → n % e = 0 → 1 ≤ (cyc e).length) → (stage n d).length ≤ n + 1
  | 0, _ => by simp [stage]; omega
  | d + 1, h => by
    have := stage_len h1 d fun e a b c => h e a (by omega) c
    rw [stage]
    split
    · next hd =>
      unfold overZ
      rw [overGo_len]
      have := h d hd.1 (by omega) hd.2
      simp only [List.length_nil]
      omega
    · exact this
theorem stage_small {n d : Nat} (h1 : 1 ≤ n) (h2 : n ≤ 60) (hd : d ≤ n) : (stage n d).length ≤ 61 := by
  have := stage_len h1 d fun e a b c => by have := (cyc_facts (n := e) a (by omega)).1; omega
  omega
theorem stage_first {n : Nat} (h1 : 1 ≤ n) : ((List.replicate (n + 1) (0 : Int)).set 0 (-1)).set n 1 = wl (stage n 1) := by
  obtain ⟨m, rfl⟩ : ∃ m, n = m + 1 := ⟨n - 1, by omega⟩
  have e : stage (m + 1) 1 = -1 :: (List.replicate m 0 ++ [1]) := by simp [stage]
  have w1 : wrap64 (-1) = -1 := by unfold wrap64; decide
  have w2 : wrap64 1 = 1 := by unfold wrap64; decide
  have w0 : wrap64 0 = 0 := by unfold wrap64; decide
  rw [e, wl, List.map_cons, List.map_append, List.map_replicate, w1, w0, List.map_cons, w2, List.map_nil]
  rw [List.replicate_succ, List.set_cons_zero, List.set_cons_succ, List.replicate_succ', List.set_append_right _ _ (by simp)]
  simp

set_option maxRecDepth 100000 in
set_option maxHeartbeats 1000000 in
theorem cyc_any (n : Nat) : ∀ (w : World), 1 ≤ n → n ≤ 60 → Calls Try.prog 32 #[.int .i64 (n : Int)] w (GivesI w (wl (cyc n))) := by
  induction n using Nat.strongRecOn with
  | ind n IH =>
    intro w h1 h2
    have HIH := Lib.hid IH
    have HF := Lib.hid (cyc_facts h1 h2)
    have HSF := Lib.hid (stage_first h1)
    have HSS : Hid (∀ d, d ≤ n → (stage n d).length ≤ 61) := Lib.hid (fun d hd => stage_small h1 h2 hd)
    clear IH
    obtain ⟨m, hm⟩ : ∃ m : Nat, (n : Int) + 1 = (m : Int) := ⟨n + 1, by omega⟩
    have hnm : n < m := by omega
    have hm61 : m ≤ 61 := by omega
    have HM : Hid (m = n + 1) := Lib.hid (by omega)
    have hmk := run_make_row' (P := Try.prog) 48 3 (.int .i64 0) 8 Try.underlying48 infoI rfl .i64 .i64 m (by omega) (by omega)
    obtain ⟨w2, hw2⟩ : ∃ w2, w.alloc (Obj.cells (madeCells #[Value.int .i64 0] m) 3) = w2 := ⟨_, rfl⟩
    have how2 : Own w2 w.heap.size (some ⟨w.heap.size, 0, none⟩) m m (List.replicate m 0) := by
      rw [← hw2]; exact own_made (Nat.le_refl _) (by unfold maxLen; omega)
    have hb2 : Below w.heap.size w w2 := by rw [← hw2]; exact (Below.refl _ _).alloc (Nat.le_refl _) _
    obtain ⟨G, hG⟩ : ∃ G, w.heap.size = G := ⟨_, rfl⟩
    have HG := Lib.hid hG
    rw [hG] at how2 hb2
    obtain ⟨p1, p2, p3, p4⟩ := how2.cell (k := 0) (x := 0) (by rw [HM.out]; simp)
    have how3 := how2.store 0 (-1)
    have hb3 : Below G w (w2.setCell ⟨G, 0, none⟩ (.int .i64 (-1))) := hb2.setCell (p := ⟨G, 0, none⟩) (Nat.le_refl _) _
    obtain ⟨w3, hw3⟩ : ∃ w3, w2.setCell ⟨G, 0, none⟩ (.int .i64 (-1)) = w3 := ⟨_, rfl⟩
    rw [hw3] at how3 hb3
    obtain ⟨x3, hx3⟩ : ∃ x3, ((List.replicate m (0 : Int)).set 0 (-1))[n]? = some x3 := ⟨_, List.getElem?_eq_getElem (by simp; omega)⟩
    obtain ⟨q1, q2, q3, q4⟩ := how3.cell hx3
    have how4 := how3.store n 1
    rw [HM.out, HSF.out, ← HM.out] at how4
    have HOW := Lib.hid how4
    have HB := Lib.hid (hb3.setCell (p := ⟨G, n, none⟩) (Nat.le_refl _) (.int .i64 1))
    clear how2 how3 how4 hb2 hb3 hx3
    go_enter Try.func32, Try.ntmps32
    go_wp2_with fail
    try rw [hw2]
    clear hw2 hG hmk p1 p2 p3 p4 hw3 q1 q2 q3 q4
    go_loopw [3, 4] (fun v x wr => ∃ (A : Option Addr) (k c d : Nat), v = .slice A k c ∧ x = .int .i64 (d : Int) ∧ 1 ≤ d ∧ d ≤ n ∧ Hid (Own wr G A k c (wl (stage n d))) ∧ Below G w wr) (fun _ x _ => n - (intOf x).toNat)
    case atStart => exact ⟨_, _, _, 1, rfl, rfl, by omega, by omega, HOW, HB.out⟩
    case round =>
      obtain ⟨A, k, c, d, rfl, rfl, hd1, hdn, how, hb⟩ := hrel
      by_cases hlt : d < n
      · have hdi : (d : Int) < (n : Int) := by omega
        have hmod : (n : Int) % (d : Int) = ((n % d : Nat) : Int) := (Int.natCast_emod _ _).symm
        by_cases hz : n % d = 0
        · have t1 : ((n : Int) % (d : Int) == 0) = true := by rw [hmod, hz]; rfl
          have HST : Hid (stage n (d + 1) = overZ (stage n d) (cyc d)) := Lib.hid (by rw [stage, if_pos ⟨by omega, hz⟩])
          have HLE := Lib.hid (HF.out.2.2.2 d (by omega) hlt hz)
          have HS61 := Lib.hid (HSS.out d hdn)
          have HC1 := Lib.hid (cyc_facts (n := d) hd1 (by omega)).1
          have hk : k = (stage n d).length := by have := how.out.len; rw [wl_len] at this; exact this
          have HK := Lib.hid hk
          clear hmod hz hk
          go_wp2_with fail
          refine (HIH.out d hlt wr (by omega) (by omega)).mono ?_; rintro e w4 ⟨A4, n4, c4, rfl, how4, hA4, hb4⟩
          have HI4 : Hid (IRow w4 w4.heap.size A4 n4 (wl (cyc d))) := Lib.hid (IRow.of_own how4)
          have HI3 : Hid (IRow w4 w4.heap.size A k (wl (stage n d))) := Lib.hid ((IRow.of_own how.out).next hb4)
          have hn4 : n4 = (cyc d).length := by have := how4.len; rw [wl_len] at this; exact this
          have h41 : 1 ≤ n4 := by have := HC1.out; omega
          have h4k : n4 ≤ k := by have := HLE.out; have := HK.out; omega
          have h4s : k ≤ 100 := by have := HS61.out; have := HK.out; omega
          have HB4 := Lib.hid hb4
          clear how4 hA4 hn4 hb4
          go_wp2_with fail
          refine (over_any A A4 k n4 c c4 (stage n d) (cyc d) w4 HI3.out HI4.out h41 h4k h4s).mono ?_; rintro e w5 ⟨A5, n5, c5, rfl, how5, hA5, hb5⟩
          have HO5 : Hid (Own w5 G A5 n5 c5 (wl (stage n (d + 1)))) := Lib.hid (by
            rw [HST.out]
            have h1 := HB4.out.size
            have h2 := hb.size
            exact how5.low (by have := HG.out; omega))
          have HB5 : Hid (Below G w w5) := Lib.hid (by
            have h1 := HB4.out.size
            have h2 := hb.size
            have h3 := HG.out
            exact (hb.trans (HB4.out.mono (by omega))).trans (hb5.mono (by omega)))
          clear how5 hA5 hb5
          go_wp2_with fail
          go_roundw
          case rel => exact ⟨A5, n5, c5, d + 1, rfl, by go_num, by omega, by omega, HO5, HB5.out⟩
          case measure => simp [intOf]; omega
        · have t1 : ((n : Int) % (d : Int) == 0) = false := by rw [hmod]; simp; omega
          have HST : Hid (stage n (d + 1) = stage n d) := Lib.hid (by rw [stage, if_neg (fun h => hz h.2)])
          clear hmod hz
          go_wp2_with fail
          go_roundw
          case rel => exact ⟨A, k, c, d + 1, rfl, by go_num, by omega, by omega, by rw [HST.out]; exact how, hb⟩
          case measure => simp [intOf]; omega
      · have e : d = n := by omega
        subst e
        have HE := Lib.hid HF.out.2.2.1
        rw [HE.out] at how
        go_wp2_with fail
        go_ret
        have h1 := HG.out
        subst h1
        refine ⟨A, k, c, rfl, how.out, fun e => ?_, hb⟩
        rcases how.out.2 with ⟨_, h0⟩ | ⟨g, cap, cur, hv, _⟩
        · exact h0
        · injection hv with hA _ _; rw [hA] at e; cases e

theorem Cyc_bad (n : Int) (w : World) (h : n < 1 ∨ 60 < n) :
    Calls Try.prog 10 #[.int .i64 n] w fun e w' => e = .returned (.tuple #[.slice none 0 0, .int .i64 2]) ∧ Below w.heap.size w w' := by
  rcases h with h | h
  · go_enter Try.func10, Try.ntmps10
    go_wp2_with fail
    go_ret2
    exact ⟨rfl, Below.refl _ _⟩
  · have h2 : ¬ n < 1 := by omega
    go_enter Try.func10, Try.ntmps10
    go_wp2_with fail
    go_ret2
    exact ⟨rfl, Below.refl _ _⟩
theorem Cyc_good (n : Nat) (w : World) (h1 : 1 ≤ n) (h2 : n ≤ 60) :
    Calls Try.prog 10 #[.int .i64 (n : Int)] w (GivesIE w (wl (cyc n)) 0) := by
  go_enter Try.func10, Try.ntmps10
  go_wp2_with fail
  refine (cyc_any n w h1 h2).mono ?_; rintro e w1 ⟨A1, n1, c1, rfl, how1, hA1, hb1⟩
  have HO := Lib.hid how1
  have HA := Lib.hid hA1
  clear how1 hA1
  go_wp2_with fail
  go_ret2
  exact ⟨A1, n1, c1, rfl, HO.out, HA.out, hb1⟩
end Go.Proofs.Ytmljndjiipgpdaa
