/- The reference's polynomial of an order; how many numbers have no factor in common; a number reduced. -/
import Derived.Test.YtmljndjiipgpdaaRst
import Derived.Test.YtmljndjiipgpdaaCyw
namespace Go.Proofs.Ytmljndjiipgpdaa
open Go Go.RowKit GhP

set_option maxRecDepth 100000 in
set_option maxHeartbeats 1000000 in
theorem rcyc_any (n : Nat) : ∀ (w : World), 1 ≤ n → n ≤ 60 → Calls Try.prog 15 #[.int .i64 (n : Int)] w (GivesI w (wl (cyc n))) := by
  induction n using Nat.strongRecOn with
  | ind n IH =>
    intro w h1 h2
    have HIH := Lib.hid IH
    have HF := Lib.hid (cyc_facts h1 h2)
    have HSF := Lib.hid (stage_first h1)
    have HSS : Hid (∀ d, d ≤ n → (stage n d).length ≤ 61) := Lib.hid (fun d hd => stage_small h1 h2 hd)
    clear IH
    obtain ⟨m, hm⟩ : ∃ m : Nat, (n : Int) + 1 = (m : Int) := ⟨n + 1, by omega⟩
    have hnm : n < m := by omega
    have hm61 : m ≤ 61 := by omega
    have HM : Hid (m = n + 1) := Lib.hid (by omega)
    have hmk := run_make_row' (P := Try.prog) 22 3 (.int .i64 0) 8 Try.underlying22 infoI rfl .i64 .i64 m (by omega) (by omega)
    obtain ⟨w2, hw2⟩ : ∃ w2, w.alloc (Obj.cells (madeCells #[Value.int .i64 0] m) 3) = w2 := ⟨_, rfl⟩
    have how2 : Own w2 w.heap.size (some ⟨w.heap.size, 0, none⟩) m m (List.replicate m 0) := by
      rw [← hw2]; exact own_made (Nat.le_refl _) (by unfold maxLen; omega)
    have hb2 : Below w.heap.size w w2 := by rw [← hw2]; exact (Below.refl _ _).alloc (Nat.le_refl _) _
    obtain ⟨G, hG⟩ : ∃ G, w.heap.size = G := ⟨_, rfl⟩
    have HG := Lib.hid hG
    rw [hG] at how2 hb2
    obtain ⟨p1, p2, p3, p4⟩ := how2.cell (k := 0) (x := 0) (by rw [HM.out]; simp)
    have how3 := how2.store 0 (-1)
    have hb3 : Below G w (w2.setCell ⟨G, 0, none⟩ (.int .i64 (-1))) := hb2.setCell (p := ⟨G, 0, none⟩) (Nat.le_refl _) _
    obtain ⟨w3, hw3⟩ : ∃ w3, w2.setCell ⟨G, 0, none⟩ (.int .i64 (-1)) = w3 := ⟨_, rfl⟩
    rw [hw3] at how3 hb3
    obtain ⟨x3, hx3⟩ : ∃ x3, ((List.replicate m (0 : Int)).set 0 (-1))[n]? = some x3 := ⟨_, List.getElem?_eq_getElem (by simp; omega)⟩
    obtain ⟨q1, q2, q3, q4⟩ := how3.cell hx3
    have how4 := how3.store n 1
    rw [HM.out, HSF.out, ← HM.out] at how4
    have HOW := Lib.hid how4
    have HB := Lib.hid (hb3.setCell (p := ⟨G, n, none⟩) (Nat.le_refl _) (.int .i64 1))
    clear how2 how3 how4 hb2 hb3 hx3
    go_enter Try.func15, Try.ntmps15
    go_wp2_with fail
    try rw [hw2]
    clear hw2 hG hmk p1 p2 p3 p4 hw3 q1 q2 q3 q4
    go_loopw [3, 4] (fun v x wr => ∃ (A : Option Addr) (k c d : Nat), v = .slice A k c ∧ x = .int .i64 (d : Int) ∧ 1 ≤ d ∧ d ≤ n ∧ Hid (Own wr G A k c (wl (stage n d))) ∧ Below G w wr) (fun _ x _ => n - (intOf x).toNat)
    case atStart => exact ⟨_, _, _, 1, rfl, rfl, by omega, by omega, HOW, HB.out⟩
    case round =>
      obtain ⟨A, k, c, d, rfl, rfl, hd1, hdn, how, hb⟩ := hrel
      by_cases hlt : d < n
      · have hdi : (d : Int) < (n : Int) := by omega
        have hmod : (n : Int) % (d : Int) = ((n % d : Nat) : Int) := (Int.natCast_emod _ _).symm
        by_cases hz : n % d = 0
        · have t1 : ((n : Int) % (d : Int) == 0) = true := by rw [hmod, hz]; rfl
          have HST : Hid (stage n (d + 1) = overZ (stage n d) (cyc d)) := Lib.hid (by rw [stage, if_pos ⟨by omega, hz⟩])
          have HLE := Lib.hid (HF.out.2.2.2 d (by omega) hlt hz)
          have HS61 := Lib.hid (HSS.out d hdn)
          have HC1 := Lib.hid (cyc_facts (n := d) hd1 (by omega)).1
          have hk : k = (stage n d).length := by have := how.out.len; rw [wl_len] at this; exact this
          have HK := Lib.hid hk
          clear hmod hz hk
          go_wp2_with fail
          refine (HIH.out d hlt wr (by omega) (by omega)).mono ?_; rintro e w4 ⟨A4, n4, c4, rfl, how4, hA4, hb4⟩
          have HI4 : Hid (IRow w4 w4.heap.size A4 n4 (wl (cyc d))) := Lib.hid (IRow.of_own how4)
          have HI3 : Hid (IRow w4 w4.heap.size A k (wl (stage n d))) := Lib.hid ((IRow.of_own how.out).next hb4)
          have hn4 : n4 = (cyc d).length := by have := how4.len; rw [wl_len] at this; exact this
          have h41 : 1 ≤ n4 := by have := HC1.out; omega
          have h4k : n4 ≤ k := by have := HLE.out; have := HK.out; omega
          have h4s : k ≤ 100 := by have := HS61.out; have := HK.out; omega
          have HB4 := Lib.hid hb4
          clear how4 hA4 hn4 hb4
          go_wp2_with fail
          refine (rest_long A A4 k n4 c c4 (stage n d) (cyc d) w4 HI3.out HI4.out h41 (by omega) (by omega) (by omega)).mono ?_; rintro e w5 ⟨A5, n5, c5, g6, n6, c6, rfl, how5, _, hb5⟩
          have HO5 : Hid (Own w5 G A5 n5 c5 (wl (stage n (d + 1)))) := Lib.hid (by
            have e : quoZ (cyc d) (stage n d) = overZ (stage n d) (cyc d) := by
              unfold quoZ overZ
              have := HLE.out
              rw [show (stage n d).length + 1 - (cyc d).length = (stage n d).length - (cyc d).length + 1 by omega]
            rw [HST.out, ← e]
            have h1 := HB4.out.size
            have h2 := hb.size
            exact how5.low (by have := HG.out; omega))
          have HB5 : Hid (Below G w w5) := Lib.hid (by
            have h1 := HB4.out.size
            have h2 := hb.size
            have h3 := HG.out
            exact (hb.trans (HB4.out.mono (by omega))).trans (hb5.mono (by omega)))
          clear how5 hb5
          go_wp2_with fail
          go_roundw
          case rel => exact ⟨A5, n5, c5, d + 1, rfl, by go_num, by omega, by omega, HO5, HB5.out⟩
          case measure => simp [intOf]; omega
        · have t1 : ((n : Int) % (d : Int) == 0) = false := by rw [hmod]; simp; omega
          have HST : Hid (stage n (d + 1) = stage n d) := Lib.hid (by rw [stage, if_neg (fun h => hz h.2)])
          clear hmod hz
          go_wp2_with fail
          go_roundw
          case rel => exact ⟨A, k, c, d + 1, rfl, by go_num, by omega, by omega, by rw [HST.out]; exact how, hb⟩
          case measure => simp [intOf]; omega
      · have e : d = n := by omega
        subst e
        have HE := Lib.hid HF.out.2.2.1
        rw [HE.out] at how
        go_wp2_with fail
        go_ret
        have h1 := HG.out
        subst h1
        refine ⟨A, k, c, rfl, how.out, fun e => ?_, hb⟩
        rcases how.out.2 with ⟨_, h0⟩ | ⟨g, cap, cur, hv, _⟩
        · exact h0
        · injection hv with hA _ _; rw [hA] at e; cases e


theorem rgcd_any (a b : Nat) (w : World) (ha : a ≤ 4000000000000000000) (hb : b ≤ 4000000000000000000) :
    Calls Try.prog 33 #[.int .i64 (a : Int), .int .i64 (b : Int)] w fun e w' => e = .returned (.int .i64 ((Nat.gcd a b : Nat) : Int)) ∧ Below w.heap.size w w' := by
  go_enter Try.func33, Try.ntmps33
  go_wp2
  go_loopw [0, 1] (fun x y wr => ∃ c d : Nat, c ≤ 4000000000000000000 ∧ d ≤ 4000000000000000000 ∧ Hid (Nat.gcd c d = Nat.gcd a b) ∧ x = .int .i64 (c : Int) ∧ y = .int .i64 (d : Int) ∧ Below w.heap.size w wr) (fun _ y _ => (intOf y).toNat)
  case atStart => exact ⟨a, b, ha, hb, rfl, rfl, rfl, Below.refl _ _⟩
  case round =>
    obtain ⟨c, d, hc, hd, hg, rfl, rfl, hbl⟩ := hrel
    by_cases h0 : d = 0
    · subst h0
      have HG : Hid (c = Nat.gcd a b) := Lib.hid (by have := hg.out; rwa [Nat.gcd_zero_right] at this)
      go_wp2
      all_goals
        go_ret
        refine ⟨?_, hbl⟩
        rw [← HG.out]
        try rfl
    · have h1 : ((d : Int) == 0) = false := by simp; omega
      have h2 : (c : Int) % (d : Int) = ((c % d : Nat) : Int) := by omega
      have h3 : c % d < d := Nat.mod_lt _ (by omega)
      have H2 := Lib.hid h2
      clear h2
      go_wp2
      go_region
      go_wp2
      go_roundw
      case rel => exact ⟨d, c % d, hd, by omega, Lib.hid (by rw [← hg.out, Nat.gcd_comm d, ← Nat.gcd_rec, Nat.gcd_comm]), rfl, by rw [H2.out], hbl.drew⟩
      case measure => have := H2.out; simp [intOf]; omega

/-- how many numbers from 1 to k have no factor in common with n -/
def phiK (n k : Nat) : Nat := ((List.range' 1 k).filter fun i => Nat.gcd i n == 1).length
theorem phiK_succ (n k : Nat) : phiK n (k + 1) = phiK n k + if Nat.gcd (k + 1) n = 1 then 1 else 0 := by
  unfold phiK
  rw [List.range'_concat, List.filter_append, List.length_append]
  by_cases h : Nat.gcd (k + 1) n = 1
  · rw [if_pos h]; simp [Nat.add_comm 1 k, h]
  · rw [if_neg h]; simp [Nat.add_comm 1 k, h]
theorem phiK_le (n k : Nat) : phiK n k ≤ k := by
  unfold phiK
  have := List.length_filter_le (fun i => Nat.gcd i n == 1) (List.range' 1 k)
  simpa using this

set_option maxHeartbeats 400000 in
theorem rphi_any (n : Nat) (w : World) (hn : n ≤ 1000) :
    Calls Try.prog 12 #[.int .i64 (n : Int)] w fun e w' => e = .returned (.int .i64 ((phi n : Nat) : Int)) ∧ Below w.heap.size w w' := by
  go_enter Try.func12, Try.ntmps12
  go_wp2_with fail
  go_loopw [3, 4] (fun x y wr => ∃ k : Nat, k ≤ n ∧ x = .int .i64 ((phiK n k : Nat) : Int) ∧ y = .int .i64 ((k : Int) + 1) ∧ Below w.heap.size w wr) (fun _ y _ => n + 1 - (intOf y).toNat)
  case atStart => exact ⟨0, by omega, rfl, rfl, Below.refl _ _⟩
  case round =>
    obtain ⟨k, hk, rfl, rfl, hb⟩ := hrel
    have hp := phiK_le n k
    by_cases hlt : k < n
    · have HS := Lib.hid (phiK_succ n k)
      have hki : (k : Int) + 1 ≤ (n : Int) := by omega
      have hkc : (k : Int) + 1 = ((k + 1 : Nat) : Int) := by omega
      have HKC := Lib.hid hkc
      obtain ⟨K, hK⟩ : ∃ K, k + 1 = K := ⟨_, rfl⟩
      have HK := Lib.hid hK
      rw [hkc, hK]
      have hKn : K ≤ n := by omega
      clear hkc hK hki
      obtain ⟨g, hg⟩ : ∃ g, Nat.gcd K n = g := ⟨_, rfl⟩
      have HG := Lib.hid hg
      by_cases h1 : g = 1
      · have t1 : ((g : Int) == 1) = true := by simp [h1]
        have HS2 : Hid (phiK n K = phiK n k + 1) := Lib.hid (by rw [← HK.out, HS.out, HK.out, if_pos (HG.out.trans h1)])
        clear hg h1
        go_wp2_with fail
        refine (rgcd_any K n wr (by omega) (by omega)).mono ?_; rw [HG.out]; rintro e w1 ⟨rfl, hb1⟩
        go_wp2_with fail
        go_roundw
        case rel => exact ⟨K, by omega, by rw [HS2.out]; go_num, rfl, ibt hb hb1⟩
        case measure => have := HK.out; simp [intOf]; omega
      · have t1 : ((g : Int) == 1) = false := by simp; omega
        have HS2 : Hid (phiK n K = phiK n k) := Lib.hid (by rw [← HK.out, HS.out, HK.out, if_neg (fun e => h1 (HG.out.symm.trans e))]; rfl)
        clear hg h1
        go_wp2_with fail
        refine (rgcd_any K n wr (by omega) (by omega)).mono ?_; rw [HG.out]; rintro e w1 ⟨rfl, hb1⟩
        go_wp2_with fail
        go_roundw
        case rel => exact ⟨K, by omega, by rw [HS2.out], rfl, ibt hb hb1⟩
        case measure => have := HK.out; simp [intOf]; omega
    · have e : k = n := by omega
      subst e
      go_wp2_with fail
      go_ret
      exact ⟨rfl, hb⟩

theorem getD_wl (L : List Int) (k : Nat) : (wl L).getD k 0 = wrap64 (L.getD k 0) := by
  unfold wl
  rw [List.getD_eq_getElem?_getD, List.getD_eq_getElem?_getD, List.getElem?_map]
  cases L[k]? with
  | none => show (0 : Int) = wrap64 0; unfold wrap64; decide
  | some x => rfl
/-- a list, made longer by zeros -/
theorem pad_red (g f : List Int) {m : Nat} (hm : m = min (g.length - 1) f.length) {k : Nat} (hk : m + k = g.length - 1) :
    (wl (remZ g f)).take (g.length - 1) ++ List.replicate k 0 = wl (redZ g f) := by
  have hl : (wl (remZ g f)).length = f.length := by rw [wl_len, remZ, remGo_len]
  apply List.ext_getElem?
  intro j
  by_cases hj : j < g.length - 1
  · have e2 : (wl (redZ g f))[j]? = some (wrap64 ((remZ g f).getD j 0)) := by
      unfold wl redZ
      rw [List.getElem?_map, List.getElem?_map, List.getElem?_range hj]; rfl
    rw [e2, ← getD_wl]
    by_cases hjf : j < f.length
    · rw [List.getElem?_append_left (by rw [List.length_take]; omega), List.getElem?_take, if_pos hj, List.getD_eq_getElem?_getD, List.getElem?_eq_getElem (by omega)]; rfl
    · rw [List.getElem?_append_right (by rw [List.length_take]; omega), List.length_take, hl, List.getElem?_replicate, if_pos (by omega), List.getD_eq_getElem?_getD, List.getElem?_eq_none (by omega)]; rfl
  · rw [List.getElem?_eq_none (by rw [List.length_append, List.length_take, List.length_replicate, hl]; omega), List.getElem?_eq_none (by rw [wl_len, redZ_len]; omega)]

set_option maxRecDepth 100000 in
set_option maxHeartbeats 1000000 in
theorem reduced_any (n : Nat) (A : Option Addr) (l c : Nat) (F : List Int) (w : World) (h : IRow w w.heap.size A l (wl F)) (hl : l ≤ 150) (hl1 : 1 ≤ l) (h1 : 1 ≤ n) (h2 : n ≤ 60) :
    Calls Try.prog 40 #[.int .i64 (n : Int), .slice A l c] w (GivesI w (wl (redZ (cyc n) F))) := by
  have HR := Lib.hid h
  have hFl : F.length = l := by have := h.1; rw [wl_len] at this; omega
  have hC1 := (cyc_facts h1 h2).1
  have hphi : phi n ≤ n := phiK_le n n
  have HC1 := Lib.hid hC1
  obtain ⟨m0, hm0⟩ : ∃ m0, min ((cyc n).length - 1) F.length = m0 := ⟨_, rfl⟩
  have HM0 := Lib.hid hm0
  have hm0p : m0 ≤ phi n := by omega
  obtain ⟨P, hP⟩ : ∃ P, phi n = P := ⟨_, rfl⟩
  have HP := Lib.hid hP
  have HPAD : Hid (∀ k, m0 + k = P → (wl (remZ (cyc n) F)).take ((cyc n).length - 1) ++ List.replicate k 0 = wl (redZ (cyc n) F)) := Lib.hid (fun k hk => pad_red _ _ hm0.symm (by omega))
  rw [hP] at hphi hm0p
  obtain ⟨X, hX⟩ : ∃ X, (wl (remZ (cyc n) F)).take ((cyc n).length - 1) = X := ⟨_, rfl⟩
  have HX := Lib.hid hX
  rw [hX] at HPAD
  clear hX
  clear h hC1 hm0 hP
  obtain ⟨i0, hi, hz0, hz1, hz2⟩ := info_parts infoI
  go_enter Try.func40, Try.ntmps40
  go_wp2_with fail
  refine (rcyc_any n w h1 h2).mono ?_; rintro e w1 ⟨A1, n1, c1, rfl, how1, hA1, hb1⟩
  have hn1 : n1 = P + 1 := by have h3 := how1.len; rw [wl_len, HC1.out, HP.out] at h3; exact h3
  have HI1 : Hid (IRow w1 w1.heap.size A1 n1 (wl (cyc n))) := Lib.hid (IRow.of_own how1)
  have HR1 : Hid (IRow w1 w1.heap.size A l (wl F)) := Lib.hid (HR.out.next hb1)
  have HB1 := Lib.hid hb1
  have HREST : Hid (Calls Try.prog 38 #[.slice A l c, .slice A1 n1 c1] w1 (GivesRest w1 F (cyc n))) := Lib.hid (by
    by_cases hcase : n1 ≤ l + 1
    · exact rest_long A A1 l n1 c c1 F (cyc n) w1 HR1.out HI1.out (by omega) hcase (by omega) hl1
    · exact rest_short A A1 l n1 c c1 F (cyc n) w1 HR1.out HI1.out (by omega) (by omega) (by omega) (by omega) hl1)
  clear how1 hA1 hb1 hFl hn1
  go_wp2_with fail
  refine HREST.out.mono ?_; rintro e w2 ⟨A2, n2, c2, g3, n3, c3, rfl, _, how3, hb2⟩
  have hn3 : n3 = m0 := by
    have h3 := how3.len
    rw [List.length_take, wl_len, remZ, remGo_len, HM0.out] at h3
    exact h3
  subst hn3
  have HO3 : Hid (Own w2 w.heap.size (some ⟨g3, 0, none⟩) n3 c3 (X ++ List.replicate 0 0)) := Lib.hid (by
    rw [← HX.out, List.replicate_zero, List.append_nil]; exact how3.low HB1.out.size)
  have HB2 := Lib.hid (ibt HB1.out hb2)
  clear how3 hb2
  go_wp2_with fail
  go_loopw [6] (fun v wr => ∃ (A : Option Addr) (c k : Nat), v = .slice A (n3 + k) c ∧ n3 + k ≤ P ∧ Hid (Own wr w.heap.size A (n3 + k) c (X ++ List.replicate k 0)) ∧ Hid (A = none → n3 + k = 0) ∧ Below w.heap.size w wr) (fun v _ => P - (match v with | .slice _ n _ => n | _ => 0))
  case atStart => exact ⟨_, _, 0, rfl, by omega, HO3, Lib.hid (fun e => by cases e), HB2.out⟩
  case round =>
    obtain ⟨Av, cv, k, rfl, hk, how, hAn, hb⟩ := hrel
    by_cases hlt : n3 + k < P
    · have HOWA : Hid (∀ W', Below wr.heap.size wr W' → (W'.alloc (Obj.cells #[.int .i64 0] 3)).ownsRow w.heap.size 3 1 (.slice Av (n3 + k) cv) (n3 + k) (ints (X ++ List.replicate k 0))) := Lib.hid (fun W' hbw => (iown_bel how.out hbw).alloc _)
      have HNE : Hid (∀ W' : World, ∀ j u, ([Value.int .i64 0] : List Value)[j]? = some u → (W'.alloc (Obj.cells #[.int .i64 0] 3)).cell? ((⟨W'.heap.size, 0, none⟩ : Addr).add j) = some u) := Lib.hid (by
        intro W' j u hu
        rw [iadd]
        rcases j with _ | j
        · simp at hu; subst hu; simp
        · simp at hu)
      have H1 : Hid (∀ u ∈ ([Value.int .i64 0] : List Value), u.oneCell' = true) := Lib.hid (by intro u hu; simp at hu; subst hu; simp [Value.oneCell'])
      have H3 : Hid (n3 + k + 1 ≤ maxLen) := Lib.hid (by unfold maxLen; omega)
      have H4 : Hid ((n3 + k + 1) * 8 ≤ 140737488355328) := Lib.hid (by omega)
      have H5 : Hid (∀ W', Below wr.heap.size wr W' → w.heap.size ≤ (W'.alloc (Obj.cells #[.int .i64 0] 3)).heap.size) := Lib.hid (by intro W' hbw; have h1 := hb.size; have h2 := hbw.size; simp; omega)
      have HBW := Lib.hid hb
      have hcast : ((n3 + k : Nat) : Int) < (P : Int) := by omega
      clear hb
      go_wp2_with fail
      refine (rphi_any n wr (by omega)).mono ?_; rw [HP.out]; rintro e w5 ⟨rfl, hb5⟩
      have HB5 := Lib.hid hb5
      clear hb5
      go_wp2_with (at_builtin; refine wpList_append_own _ rfl _ _ 22 rfl w.heap.size 3 i0 (.int .i64 0) 1 8 Try.underlying22 hi hz0 hz1 hz2 rfl (by decide) _ (n3 + k) (ints (X ++ List.replicate k 0)) rfl (HOWA.out _ HB5.out) ⟨w5.heap.size, 0, none⟩ 1 1 [.int .i64 0] rfl rfl (HNE.out _) H1.out H3.out H4.out (H5.out _ HB5.out) ?_; intro v' w6 hown' hgrow _)
      have HB6 : Hid (Below w.heap.size w w6) := Lib.hid (iown_below (HOWA.out _ HB5.out) hgrow ((ibt HBW.out HB5.out).alloc (Nat.le_trans HBW.out.size HB5.out.size) _) (Nat.le_refl _) (H5.out _ HB5.out))
      obtain ⟨A6, c6, rfl, hA6⟩ := iown_sl hown'
      have HO6 : Hid (Own w6 w.heap.size A6 (n3 + (k + 1)) c6 (X ++ List.replicate (k + 1) 0)) := Lib.hid (by
        have e : ints (X ++ List.replicate (k + 1) 0) = ints (X ++ List.replicate k 0) ++ [.int .i64 0] := by
          rw [List.replicate_succ', ← List.append_assoc, ints_app _ [0]]; rfl
        unfold Own
        rw [e]; exact hown')
      have HA6 := Lib.hid hA6
      clear hown' hgrow hA6
      go_wp2_with fail
      go_roundw
      case rel => exact ⟨A6, c6, k + 1, rfl, by omega, HO6, HA6, HB6.out⟩
      case measure => simp; omega
    · have hkP : n3 + k = P := by omega
      have HE := Lib.hid (HPAD.out k hkP)
      have hcast : ¬ ((n3 + k : Nat) : Int) < (P : Int) := by omega
      rw [HE.out] at how
      have HBW := Lib.hid hb
      clear hb hkP
      go_wp2_with fail
      refine (rphi_any n wr (by omega)).mono ?_; rw [HP.out]; rintro e w5 ⟨rfl, hb5⟩
      go_wp2_with fail
      go_ret
      exact ⟨Av, _, cv, rfl, iown_bel how.out hb5, hAn.out, ibt HBW.out hb5⟩
end Go.Proofs.Ytmljndjiipgpdaa
