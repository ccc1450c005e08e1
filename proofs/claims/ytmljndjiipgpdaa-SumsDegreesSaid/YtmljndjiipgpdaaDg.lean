/- SumsDegrees: the walk of the law. -/
import Derived.Test.YtmljndjiipgpdaaPn
import Derived.Test.YtmljndjiipgpdaaPoF
namespace Go.Proofs.Ytmljndjiipgpdaa
open Go Go.RowKit GhP

structure DegF (N : Nat) : Prop where
  sum : sumL (cyc N) = (pval N : Int)
  prod : prodL N N = xn1 N
  len : (cyc N).length = phi N + 1
  w : wl (cyc N) = cyc N
  last : (cyc N)[phi N]? = some 1
  bd : ∀ x ∈ cyc N, -2 ≤ x ∧ x ≤ 2
theorem deg_of {N : Nat} (h1 : 1 ≤ N) (h2 : N ≤ 60) : DegF N := by
  have h := deg_all N (by omega) h1
  have k := ok_cyc N (by omega) h1
  unfold degB at h
  unfold okCyc at k
  simp only [Bool.and_eq_true, beq_iff_eq, List.all_eq_true, decide_eq_true_eq] at h k
  obtain ⟨⟨⟨a1, a2⟩, a3⟩, a4⟩ := h
  obtain ⟨⟨⟨b1, b2⟩, b3⟩, b4⟩ := k
  refine ⟨a1, a2, b1, b3, ?_, b4⟩
  rw [List.getLast?_eq_getElem?, b1] at a4
  simpa using a4
theorem sumL_snoc (L : List Int) (x : Int) : sumL (L ++ [x]) = sumL L + x := by unfold sumL; rw [List.foldl_append]; rfl
theorem sumL_take {L : List Int} {k : Nat} {x : Int} (h : L[k]? = some x) : sumL (L.take (k + 1)) = sumL (L.take k) + x := by
  obtain ⟨hk, e⟩ := List.getElem?_eq_some_iff.1 h
  rw [List.take_succ_eq_append_getElem hk, e, sumL_snoc]
theorem prodL_len (N : Nat) : ∀ d, d ≤ 60 → 1 ≤ (prodL N d).length ∧ (prodL N d).length ≤ 1 + 60 * d
  | 0, _ => by simp [prodL]
  | d + 1, h => by
    have ih := prodL_len N d (by omega)
    have hc := (cyc_facts (n := d + 1) (by omega) h).1
    have hp : phi (d + 1) ≤ d + 1 := phiK_le _ _
    rw [prodL]
    split
    · rw [mulZ_len]; omega
    · omega
theorem xn1_at {N : Nat} (h : 1 ≤ N) (i : Nat) (hi : i ≤ N) : (xn1 N)[i]? = some (if i = 0 then -1 else if i = N then 1 else 0) := by
  obtain ⟨m, rfl⟩ : ∃ m, N = m + 1 := ⟨N - 1, by omega⟩
  unfold xn1
  rcases i with _ | i
  · simp
  · rw [List.getElem?_cons_succ, if_neg (by omega)]
    by_cases hm : i = m
    · subst hm; simp
    · have e1 : i < m := by omega
      have e2 : ¬ (i + 1 = m + 1) := by omega
      rw [if_neg e2, List.getElem?_append_left (by simpa using e1), List.getElem?_replicate, Nat.add_sub_cancel, if_pos e1]
theorem prodL_w0 (N : Nat) : wl (prodL N 0) = [1] := by
  show wl [1] = [1]
  have w1 : wrap64 1 = 1 := by unfold wrap64; decide
  unfold wl; rw [List.map_cons, w1, List.map_nil]
theorem wl_xn1 (N : Nat) : wl (xn1 N) = xn1 N := by
  unfold xn1 wl
  rw [List.map_cons, List.map_append, List.map_replicate]
  have w1 : wrap64 (-1) = -1 := by unfold wrap64; decide
  have w2 : wrap64 1 = 1 := by unfold wrap64; decide
  have w0 : wrap64 0 = 0 := by unfold wrap64; decide
  rw [w1, w0, List.map_cons, w2, List.map_nil]

set_option maxRecDepth 100000 in
set_option maxHeartbeats 2000000 in
theorem deg_walk (N : Nat) (w : World) (h1 : 1 ≤ N) (h60 : N ≤ 60) :
    Calls Try.prog 3 #[.int .i64 (N : Int)] w fun e w' => e = .returned (.bool true) ∧ Below w.heap.size w w' := by
  have HD := Lib.hid (deg_of h1 h60)
  have HPL : Hid (phi N ≤ N) := Lib.hid (phiK_le N N)
  obtain ⟨PF, hPF⟩ : ∃ PF, lfac N N 2 = PF := ⟨_, rfl⟩
  obtain ⟨ST, hST⟩ : ∃ ST, stripF PF N N = ST := ⟨_, rfl⟩
  obtain ⟨PV, hPV⟩ : ∃ PV, pval N = PV := ⟨_, rfl⟩
  have HPF := Lib.hid hPF
  have HST := Lib.hid hST
  have HPV : Hid ((N = 1 ∧ PV = 0) ∨ (1 < N ∧ 1 < ST ∧ PV = 1) ∨ (1 < N ∧ ¬ 1 < ST ∧ PV = PF)) := Lib.hid (by
    rw [← hPV, pval, hPF, hST]
    by_cases hn : N = 1
    · rw [if_pos hn]; exact .inl ⟨hn, rfl⟩
    · rw [if_neg hn]
      by_cases hs : 1 < ST
      · rw [if_pos hs]; exact .inr (.inl ⟨by omega, hs, rfl⟩)
      · rw [if_neg hs]; exact .inr (.inr ⟨by omega, hs, rfl⟩))
  have HSUM : Hid (sumL (cyc N) = (PV : Int)) := Lib.hid (by rw [HD.out.sum, hPV])
  have HPHI : Hid (∀ w', Calls Try.prog 12 #[.int .i64 (N : Int)] w' fun e w'' => e = .returned (.int .i64 ((phi N : Nat) : Int)) ∧ Below w'.heap.size w' w'') := Lib.hid (fun w' => rphi_any N w' (by omega))
  obtain ⟨P, hP⟩ : ∃ P, phi N = P := ⟨_, rfl⟩
  have HP := Lib.hid hP
  rw [hP] at HPHI HPL
  have hPN := HPL.out
  clear hPF hST hPV hP
  go_enter Try.func3, Try.ntmps3
  go_wp2_with fail
  refine (Cyc_good N w h1 h60).mono ?_; rintro e w1 ⟨A1, n1, c1, rfl, how1, hA1, hb1⟩
  rw [HD.out.w] at how1
  obtain rfl : n1 = P + 1 := by have h3 := how1.len; rw [HD.out.len, HP.out] at h3; exact h3
  have HI1 := Lib.hid (IRow.of_own how1)
  have HB1 := Lib.hid hb1
  clear how1 hA1 hb1
  go_wp2_with fail
  go_loopw [5, 43] (fun s z wr => ∃ k : Nat, ∃ S : Int, k ≤ P + 1 ∧ z = .int .i64 (k : Int) ∧ s = .int .i64 S ∧ Hid (S = sumL ((cyc N).take k)) ∧ -2 * (k : Int) ≤ S ∧ S ≤ 2 * (k : Int) ∧ Below w1.heap.size w1 wr) (fun _ z _ => P + 1 - (intOf z).toNat)
  case atStart => exact ⟨0, 0, by omega, rfl, rfl, Lib.hid rfl, by omega, by omega, Below.refl _ _⟩
  case round =>
    obtain ⟨k, S, hk, rfl, rfl, hS, hS1, hS2, hb⟩ := hrel
    by_cases hlt : k < P + 1
    · obtain ⟨b, off, x, hx, rfl, hB, g1⟩ := (HI1.out.below hb).at_ hlt
      obtain ⟨x1, x2⟩ := HD.out.bd x (List.mem_of_getElem? hx)
      have HSS : Hid (S + x = sumL ((cyc N).take (k + 1))) := Lib.hid (by rw [sumL_take hx, hS.out])
      clear hx
      go_wp2_with fail
      go_roundw
      case rel => exact ⟨k + 1, S + x, by omega, by go_num, rfl, HSS, by omega, by omega, hb⟩
      case measure => simp [intOf]; omega
    · have e : k = P + 1 := by omega
      subst e
      have HE : Hid (S = (PV : Int)) := Lib.hid (by rw [hS.out, List.take_of_length_le (by rw [HD.out.len, HP.out]; omega), HSUM.out])
      rw [HE.out]
      have HB2 := Lib.hid (ibt HB1.out hb)
      have HI2 := Lib.hid (HI1.out.next hb)
      have HL0 : Hid (lfac N (N + 2 - 2) 2 = PF) := Lib.hid (by rw [Nat.add_sub_cancel]; exact HPF.out)
      clear hS hS1 hS2 HE hb
      go_wp2_with fail
      go_loopw [8] (fun z wr2 => ∃ k : Nat, 2 ≤ k ∧ k ≤ max N 2 ∧ z = .int .i64 (k : Int) ∧ Hid (lfac N (N + 2 - k) k = PF) ∧ wr2 = wr) (fun z _ => N + 2 - (intOf z).toNat)
      case atStart => exact ⟨2, by omega, by omega, rfl, HL0, rfl⟩
      case round =>
        obtain ⟨k, hk2, hkN, rfl, hl, rfl⟩ := hrel
        by_cases hcont : 1 < N ∧ ¬ N % k = 0
        · obtain ⟨hn1, hnk⟩ := hcont
          have t1 : ((N : Int) % (k : Int) != 0) = true := by
            have : (N : Int) % (k : Int) = ((N % k : Nat) : Int) := (Int.natCast_emod _ _).symm
            rw [this]; simp; omega
          have hkN2 : k < N := by
            apply Classical.byContradiction
            intro hge
            have : k = N := by omega
            exact hnk (by rw [this]; exact Nat.mod_self _)
          have HL2 : Hid (lfac N (N + 2 - (k + 1)) (k + 1) = PF) := Lib.hid (by
            have h9 := hl.out
            rw [show N + 2 - k = (N + 2 - (k + 1)) + 1 by omega, lfac_step hnk] at h9
            exact h9)
          have hn1i : (1 : Int) < (N : Int) := by omega
          clear hnk
          go_wp2_with fail
          go_roundw
          case rel => exact ⟨k + 1, by omega, by omega, by go_num, HL2, trivial⟩
          case measure => simp [intOf]; omega
        · have HK : Hid (1 < N → k = PF ∧ N % k = 0) := Lib.hid (fun hn => by
            have hz : N % k = 0 := by
              apply Classical.byContradiction
              intro hz; exact hcont ⟨hn, hz⟩
            have h9 := hl.out
            rw [lfac_stop hz] at h9
            exact ⟨h9, hz⟩)
          have HS0 : Hid (1 < N → stripF k N N = ST) := Lib.hid (fun hn => by rw [(HK.out hn).1]; exact HST.out)
          have ht : ∃ q : Bool, decide ((1 : Int) < (N : Int)) = q ∧ (q = true → ((N : Int) % (k : Int) != 0) = false) := by
            by_cases hn : 1 < N
            · refine ⟨true, decide_eq_true (by omega), fun _ => ?_⟩
              have h9 := (HK.out hn).2
              have : (N : Int) % (k : Int) = ((N % k : Nat) : Int) := (Int.natCast_emod _ _).symm
              rw [this, h9]; rfl
            · exact ⟨false, decide_eq_false (by omega), fun h => by cases h⟩
          obtain ⟨q, t1, t2⟩ := ht
          have hk60 : k ≤ 60 := by omega
          have hki : (2 : Int) ≤ (k : Int) := by omega
          clear hcont hl hkN
          rcases q with _ | _
          · clear t2
            have hN1 : N = 1 := by have := of_decide_eq_false t1; omega
            have t6 : ((N : Int) == 1) = true := by simp [hN1]
            go_wp2_with fail
            go_loopw [9] (fun m wr3 => m = .int .i64 (N : Int) ∧ wr3 = wr) (fun _ _ => 0)
            case atStart => exact ⟨rfl, rfl⟩
            case round =>
              obtain ⟨rfl, rfl⟩ := hrel
              have hpv : PV = 0 := by rcases HPV.out with h | h | h <;> omega
              have t8 : ((PV : Int) != 0) = false := by simp [hpv]
              clear hpv hN1
              go_wp2_with fail
              refine (HPHI.out _).mono ?_; rintro e w3 ⟨rfl, hb3⟩
              obtain ⟨b3, off3, x3, hx3, rfl, hB3, g3⟩ := (HI2.out.below hb3).at_ (k := P) (by omega)
              obtain rfl : x3 = 1 := by have h9 := HD.out.last; rw [HP.out] at h9; exact Option.some.inj (hx3.symm.trans h9)
              have HB3 := Lib.hid (ibt HB2.out hb3)
              obtain ⟨w4, hw4⟩ : ∃ w4, w3.alloc (Obj.cells #[Value.int .i64 1] 3) = w4 := ⟨_, rfl⟩
              have how4 : Own w4 w3.heap.size (some ⟨w3.heap.size, 0, none⟩) 1 1 [1] := by
                have h0 := World.ownsRow_lit (base := w3.heap.size) (e := 3) (size := 1) w3 #[Value.int .i64 1] 1 (Nat.le_refl _) (by unfold maxLen; omega) (by simp)
                rw [hw4] at h0; exact h0
              have HB4 : Hid (Below w.heap.size w w4) := Lib.hid (by rw [← hw4]; exact HB3.out.alloc HB3.out.size _)
              have HA0 : Hid (IRow w4 w4.heap.size (some ⟨w3.heap.size, 0, none⟩) 1 (wl (prodL N 0))) := Lib.hid (by rw [prodL_w0]; exact IRow.of_own how4)
              obtain ⟨G0, hG0⟩ : ∃ G0, w3.heap.size = G0 := ⟨_, rfl⟩
              rw [hG0] at HA0
              clear hb3 hx3 how4
              go_wp2_with fail
              try rw [hw4]
              try rw [hG0]
              clear hw4 hG0 g3 hB3
              go_loopw [10, 11] (fun al dv wr => ∃ (d e : Nat) (AL : Option Addr) (la ca : Nat), d = e + 1 ∧ e ≤ N ∧ dv = .int .i64 (d : Int) ∧ al = .slice AL la ca ∧ Hid (IRow wr wr.heap.size AL la (wl (prodL N e))) ∧ Below w4.heap.size w4 wr) (fun _ dv _ => N + 1 - (intOf dv).toNat)
              case atStart => exact ⟨1, 0, _, _, _, rfl, by omega, rfl, rfl, HA0, Below.refl _ _⟩
              case round =>
                obtain ⟨d, ee, AL, la, ca, hde, hen, rfl, rfl, hal, hbr⟩ := hrel
                by_cases hdN : d ≤ N
                · have hd1 : 1 ≤ d := by omega
                  have e1 : (N : Int) % (d : Int) = ((N % d : Nat) : Int) := (Int.natCast_emod _ _).symm
                  by_cases hmod : N % d = 0
                  · have t9 : ((N : Int) % (d : Int) != 0) = false := by rw [e1, hmod]; rfl
                    obtain ⟨F, hF⟩ : ∃ F, prodL N ee = F := ⟨_, rfl⟩
                    obtain ⟨H, hH⟩ : ∃ H, cyc d = H := ⟨_, rfl⟩
                    have hFl2 := prodL_len N ee (by omega)
                    have hHl2 := cyc_facts (n := d) (by omega) (by omega)
                    have hph : phi d ≤ d := phiK_le _ _
                    rw [hH] at hHl2
                    rw [hF] at hFl2 hal
                    have hla : la = F.length := by have h9 := hal.out.1; rw [wl_len] at h9; exact h9
                    have HPR : Hid (prodL N d = mulZ (F.length + H.length - 1) F H) := Lib.hid (by
                      subst hde; rw [prodL, if_pos hmod, hF, hH])
                    have HFL : Hid (F.length = la) := Lib.hid hla.symm
                    have hla1 : 1 ≤ la := by omega
                    have hla2 : la ≤ 5000 := by omega
                    have hlb1 : 1 ≤ H.length := by omega
                    have hlb2 : H.length ≤ 100 := by omega
                    have HH0 := Lib.hid hH
                    have HBR := Lib.hid hbr
                    have hd60 : d ≤ 60 := by omega
                    have hdi : ¬ ((d : Int) = 0) := by omega
                    clear hmod e1 hF hH hFl2 hHl2 hph hla hbr hde
                    go_wp2_with fail
                    refine (Cyc_good d wr hd1 hd60).mono ?_; rintro e5 w5 ⟨F5, lb, c5, rfl, how5, hA5, hb5⟩
                    rw [HH0.out] at how5
                    have hHl : H.length = lb := by have h9 := how5.len; rw [wl_len] at h9; exact h9.symm
                    have HHL := Lib.hid hHl
                    have HF := Lib.hid (hal.out.next hb5)
                    have HH : Hid (IRow w5 w5.heap.size F5 lb (wl H)) := Lib.hid (IRow.of_own how5)
                    rw [hHl] at hlb1 hlb2
                    obtain ⟨M, hM⟩ : ∃ M : Nat, la + lb - 1 = M := ⟨_, rfl⟩
                    have hMi : (la : Int) + (lb : Int) - 1 = (M : Int) := by omega
                    have HNe := Lib.hid hM
                    have hM2 : M ≤ 6000 := by omega
                    have hmk := run_make_row' (P := Try.prog) 22 3 (.int .i64 0) 8 Try.underlying22 infoI rfl .i64 .i64 M (by omega) (by omega)
                    obtain ⟨w6, hw6⟩ : ∃ w6, w5.alloc (Obj.cells (madeCells #[Value.int .i64 0] M) 3) = w6 := ⟨_, rfl⟩
                    have how6 : Own w6 w5.heap.size (some ⟨w5.heap.size, 0, none⟩) M M (wl (List.replicate M 0)) := by
                      rw [← hw6]
                      rw [wl_zeros]
                      exact own_made (Nat.le_refl _) (by unfold maxLen; omega)
                    have HB6 : Hid (Below w5.heap.size w5 w6) := Lib.hid (by rw [← hw6]; exact (Below.refl _ _).alloc (Nat.le_refl _) _)
                    obtain ⟨Gf, hGf⟩ : ∃ Gf, w5.heap.size = Gf := ⟨_, rfl⟩
                    have HOW6 : Hid (Own w6 w5.heap.size (some ⟨Gf, 0, none⟩) M M (wl (List.replicate M 0))) := Lib.hid (by rw [← hGf]; exact how6)
                    have HMZ : Hid (mulGo H (F.drop 0) 0 (List.replicate M 0) = mulZ M F H) := Lib.hid rfl
                    have HRL : Hid ((List.replicate M (0 : Int)).length = M) := Lib.hid (by simp)
                    have HBW5 : Hid (Below w4.heap.size w4 w5) := Lib.hid (ibt HBR.out hb5)
                    have HPR2 : Hid (prodL N d = mulZ M F H) := Lib.hid (by rw [HPR.out, HFL.out, hHl, hM])
                    clear how5 hA5 hb5 hal hHl hM how6
                    go_wp2_with fail
                    try rw [hw6]
                    try rw [hGf]
                    clear hw6 hGf hmk
                    go_loopw [123] (fun iv wr => ∃ (i : Nat) (Pz : List Int), i ≤ la ∧ iv = .int .i64 (i : Int) ∧ Hid (mulGo H (F.drop i) i Pz = mulZ M F H) ∧ Hid (Pz.length = M) ∧ Hid (Own wr w5.heap.size (some ⟨Gf, 0, none⟩) M M (wl Pz)) ∧ Below w5.heap.size w5 wr) (fun iv _ => la - (intOf iv).toNat)
                    case atStart => exact ⟨0, _, by omega, rfl, HMZ, HRL, HOW6, HB6.out⟩
                    case round =>
                      obtain ⟨i, Pz, hi, rfl, hmz, hPl, how1, hbo⟩ := hrel
                      obtain ⟨wo, hwo⟩ : ∃ wo : World, wo = wr := ⟨_, rfl⟩
                      subst hwo
                      by_cases hlt : i < la
                      · obtain ⟨b, off, x, hx, rfl, hB, g1⟩ := (HF.out.below hbo).at_ hlt
                        obtain ⟨X, hX, hxX⟩ := wl_cell hx
                        have HXX := Lib.hid hxX
                        have HDR := Lib.hid (drop_at hX)
                        have HBO := Lib.hid hbo
                        have hii : (i : Int) < (la : Int) := by omega
                        have HO0 : Hid (Own wo w5.heap.size (some ⟨Gf, 0, none⟩) M M (wl (sub i Pz (-X) (H.take 0)))) := Lib.hid (by rw [List.take_zero, sub_nil]; exact how1.out)
                        clear hx hX hxX hbo
                        go_wp2_with fail
                        go_loopw [130] (fun z wr => ∃ j : Nat, j ≤ lb ∧ z = .int .i64 (j : Int) ∧ Hid (Own wr w5.heap.size (some ⟨Gf, 0, none⟩) M M (wl (sub i Pz (-X) (H.take j)))) ∧ Below w5.heap.size w5 wr) (fun z _ => lb - (intOf z).toNat)
                        case atStart => exact ⟨0, by omega, rfl, HO0, HBO.out⟩
                        case round =>
                          obtain ⟨j, hj, rfl, how3, hbj⟩ := hrel
                          by_cases hjm : j < lb
                          · obtain ⟨b', off', z, hz, rfl, hB', g2⟩ := (HH.out.below hbj).at_ hjm
                            obtain ⟨Z, hZ, hzZ⟩ := wl_cell hz
                            have hij : i + j < Pz.length := by have := hPl.out; have := HNe.out; omega
                            obtain ⟨Y, hY⟩ : ∃ Y, Pz[i + j]? = some Y := ⟨_, List.getElem?_eq_getElem hij⟩
                            have hY2 : (sub i Pz (-X) (H.take j))[i + j]? = some Y := by rw [sub_at]; exact hY
                            obtain ⟨y, hy⟩ : ∃ y, wrap64 Y = y := ⟨_, rfl⟩
                            have hcell3 := Own.cell how3.out (wl_at hY2)
                            rw [hy] at hcell3
                            obtain ⟨g10, g11, g12, g13⟩ := hcell3
                            have HST9 : Hid (wl (sub i Pz (-X) (H.take (j + 1))) = (wl (sub i Pz (-X) (H.take j))).set (i + j) (wrap64 (y + wrap64 (x * z)))) := Lib.hid (by
                              rw [sub_take hZ hY, wl_set, ← hy, hzZ, HXX.out, w_am])
                            have hijn : i + j < M := by have := hPl.out; omega
                            have hji : (j : Int) < (lb : Int) := by omega
                            clear hz hZ hzZ hY hY2 hy hij
                            go_wp2_with fail
                            go_roundw
                            case rel => exact ⟨j + 1, by omega, by go_num, by rw [HST9.out]; exact Lib.hid (Own.store how3.out (i + j) _), hbj.setCell (p := ⟨Gf, i + j, none⟩) g13 _⟩
                            case measure => simp [intOf]; omega
                          · have e : j = lb := by omega
                            subst e
                            have HT : Hid (H.take j = H) := Lib.hid (List.take_of_length_le (by rw [HHL.out]; omega))
                            have HMG : Hid (mulGo H (F.drop (i + 1)) (i + 1) (sub i Pz (-X) H) = mulZ M F H) := Lib.hid (by
                              rw [← hmz.out, HDR.out, mulGo])
                            rw [HT.out] at how3
                            go_wp2_with fail
                            go_roundw
                            case rel => exact ⟨i + 1, sub i Pz (-X) H, by omega, by go_num, HMG, Lib.hid (by rw [sub_len]; exact hPl.out), how3, hbj⟩
                            case measure => simp [intOf]; omega
                      · have e : i = la := by omega
                        subst e
                        have HE : Hid (Pz = mulZ M F H) := Lib.hid (by
                          have := hmz.out
                          rwa [List.drop_of_length_le (by rw [HFL.out]; omega), mulGo] at this)
                        rw [HE.out, ← HPR2.out] at how1
                        go_wp2_with fail
                        go_roundw
                        case rel => exact ⟨d + 1, d, _, _, _, rfl, hdN, by go_num, rfl, Lib.hid (IRow.of_own how1.out), ibt HBW5.out hbo⟩
                        case measure => simp [intOf]; omega
                  · have t9 : ((N : Int) % (d : Int) != 0) = true := by rw [e1]; simp; omega
                    have HPR : Hid (prodL N d = prodL N ee) := Lib.hid (by subst hde; rw [prodL, if_neg hmod])
                    rw [← HPR.out] at hal
                    have hdi : ¬ ((d : Int) = 0) := by omega
                    clear hmod e1 hde
                    go_wp2_with fail
                    go_roundw
                    case rel => exact ⟨d + 1, d, _, _, _, rfl, hdN, by go_num, rfl, hal, hbr⟩
                    case measure => simp [intOf]; omega
                · obtain rfl : ee = N := by omega
                  rw [HD.out.prod, wl_xn1] at hal
                  have hla : la = ee + 1 := by have h9 := hal.out.1; rw [h9]; simp [xn1]; omega
                  subst hla
                  have HBR := Lib.hid (ibt HB4.out hbr)
                  have hdi : (d : Int) = (ee : Int) + 1 := by omega
                  clear hbr hde
                  go_wp2_with fail
                  go_loopw [156] (fun z wr5 => ∃ k9 : Nat, k9 ≤ ee + 1 ∧ z = .int .i64 (k9 : Int) ∧ wr5 = wr) (fun z _ => ee + 1 - (intOf z).toNat)
                  case atStart => exact ⟨0, by omega, rfl, rfl⟩
                  case round =>
                    obtain ⟨k9, hk9, rfl, rfl⟩ := hrel
                    by_cases hlt : k9 < ee + 1
                    · obtain ⟨b, off, x, hx, rfl, hB, g1⟩ := hal.out.at_ hlt
                      rw [xn1_at (by omega) k9 (by omega)] at hx
                      have hx := Option.some.inj hx
                      by_cases h0 : k9 = 0
                      · rw [if_pos h0] at hx
                        subst hx
                        have f1 : ((k9 : Int) == 0) = true := by simp [h0]
                        have f2 : ((k9 : Int) == (ee : Int)) = false := by simp; omega
                        have f3 : decide ((0 : Int) < (k9 : Int)) = false := by simp [h0]
                        have g3 : ¬ 0 < k9 := by omega
                        clear h0
                        go_wp2_with fail
                        all_goals first
                          | (exfalso; omega)
                          | (go_roundw
                             case rel => exact ⟨k9 + 1, by omega, by go_num, trivial⟩
                             case measure => simp [intOf]; omega)
                      · rw [if_neg h0] at hx
                        have f1 : ((k9 : Int) == 0) = false := by simp; omega
                        have f3 : decide ((0 : Int) < (k9 : Int)) = true := decide_eq_true (by omega)
                        have g3 : 0 < k9 := by omega
                        by_cases h9 : k9 = ee
                        · rw [if_pos h9] at hx
                          subst hx
                          have f2 : ((k9 : Int) == (ee : Int)) = true := by simp [h9]
                          have f4 : decide ((k9 : Int) < (ee : Int)) = false := decide_eq_false (by omega)
                          have g4 : ¬ k9 < ee := by omega
                          clear h0 h9
                          go_wp2_with fail
                          all_goals first
                            | (exfalso; omega)
                            | (go_roundw
                               case rel => exact ⟨k9 + 1, by omega, by go_num, trivial⟩
                               case measure => simp [intOf]; omega)
                        · rw [if_neg h9] at hx
                          subst hx
                          have f2 : ((k9 : Int) == (ee : Int)) = false := by simp; omega
                          have f4 : decide ((k9 : Int) < (ee : Int)) = true := decide_eq_true (by omega)
                          have g4 : k9 < ee := by omega
                          clear h0 h9
                          go_wp2_with fail
                          all_goals first
                            | (exfalso; omega)
                            | (go_roundw
                               case rel => exact ⟨k9 + 1, by omega, by go_num, trivial⟩
                               case measure => simp [intOf]; omega)
                    · obtain rfl : k9 = ee + 1 := by omega
                      go_wp2_with fail
                      refine (awake_any wr).mono ?_; rintro e w9 ⟨rfl, hb9⟩
                      go_wp2_with fail
                      go_ret
                      exact ⟨rfl, ibt HBR.out hb9⟩
          · have t3 := t2 rfl
            have t4 : 1 < N := by have := of_decide_eq_true t1; omega
            have HST2 : Hid (stripF k N N = ST) := Lib.hid (HS0.out t4)
            have HKP : Hid (k = PF) := Lib.hid (HK.out t4).1
            clear t2
            go_wp2_with fail
            go_loopw [9] (fun mz wr3 => ∃ m f : Nat, 1 ≤ m ∧ m ≤ N ∧ m ≤ f ∧ mz = .int .i64 (m : Int) ∧ Hid (stripF k f m = ST) ∧ wr3 = wr) (fun mz _ => (intOf mz).toNat)
            case atStart => exact ⟨N, N, by omega, by omega, by omega, rfl, HST2, rfl⟩
            case round =>
              obtain ⟨m, f, hm1, hmN, hmf, rfl, hst, rfl⟩ := hrel
              have e1 : (m : Int) % (k : Int) = ((m % k : Nat) : Int) := (Int.natCast_emod _ _).symm
              by_cases hmk : m % k = 0
              · have t5 : ((m : Int) % (k : Int) == 0) = true := by rw [e1, hmk]; rfl
                have hd1 : 0 < m / k := Nat.div_pos (Nat.le_of_dvd (by omega) (Nat.dvd_of_mod_eq_zero hmk)) (by omega)
                have hd2 : m / k < m := Nat.div_lt_self (by omega) (by omega)
                have hq : (m : Int).tdiv (k : Int) = ((m / k : Nat) : Int) := by rw [Int.tdiv_eq_ediv_of_nonneg (by omega)]; exact (Int.natCast_ediv _ _).symm
                have hq2 : (m : Int) / (k : Int) = ((m / k : Nat) : Int) := (Int.natCast_ediv _ _).symm
                have HST3 : Hid (stripF k (f - 1) (m / k) = ST) := Lib.hid (by
                  have h9 := hst.out
                  rw [show f = (f - 1) + 1 by omega, strip_step hmk] at h9
                  exact h9)
                obtain ⟨D, hD⟩ : ∃ D, m / k = D := ⟨_, rfl⟩
                rw [hD] at hd1 hd2 hq hq2 HST3
                have hk0 : ¬ ((k : Int) = 0) := by omega
                have hk1 : ((k : Int) == 0) = false := by simp; omega
                have hk2 : ¬ (k = 0) := by omega
                clear hD
                clear hmk e1
                go_wp2_with fail
                go_roundw
                case rel => exact ⟨D, f - 1, by omega, by omega, by omega, by go_num, HST3, trivial⟩
                case measure => simp [intOf]; omega
              · have t5 : ((m : Int) % (k : Int) == 0) = false := by
                  rw [e1]; simp; omega
                have HM : Hid (m = ST) := Lib.hid (by
                  have h9 := hst.out
                  rw [strip_stop hmk] at h9
                  exact h9)
                have t6 : ((N : Int) == 1) = false := by simp; omega
                have hm1i : ∃ q : Bool, decide ((1 : Int) < (m : Int)) = q ∧ ((q = true ∧ PV = 1) ∨ (q = false ∧ PV = k)) := by
                  have hM := HM.out
                  have hK := HKP.out
                  rcases HPV.out with ⟨h, _⟩ | ⟨_, h, h'⟩ | ⟨_, h, h'⟩
                  · omega
                  · exact ⟨true, decide_eq_true (by omega), .inl ⟨rfl, h'⟩⟩
                  · exact ⟨false, decide_eq_false (by omega), .inr ⟨rfl, by omega⟩⟩
                clear hmk e1 hst
                obtain ⟨q, t7, ⟨rfl, hpv⟩ | ⟨rfl, hpv⟩⟩ := hm1i
                · have t8 : ((PV : Int) != 1) = false := by simp [hpv]
                  clear hpv
                  go_wp2_with fail
                  refine (HPHI.out _).mono ?_; rintro e w3 ⟨rfl, hb3⟩
                  obtain ⟨b3, off3, x3, hx3, rfl, hB3, g3⟩ := (HI2.out.below hb3).at_ (k := P) (by omega)
                  obtain rfl : x3 = 1 := by have h9 := HD.out.last; rw [HP.out] at h9; exact Option.some.inj (hx3.symm.trans h9)
                  have HB3 := Lib.hid (ibt HB2.out hb3)
                  obtain ⟨w4, hw4⟩ : ∃ w4, w3.alloc (Obj.cells #[Value.int .i64 1] 3) = w4 := ⟨_, rfl⟩
                  have how4 : Own w4 w3.heap.size (some ⟨w3.heap.size, 0, none⟩) 1 1 [1] := by
                    have h0 := World.ownsRow_lit (base := w3.heap.size) (e := 3) (size := 1) w3 #[Value.int .i64 1] 1 (Nat.le_refl _) (by unfold maxLen; omega) (by simp)
                    rw [hw4] at h0; exact h0
                  have HB4 : Hid (Below w.heap.size w w4) := Lib.hid (by rw [← hw4]; exact HB3.out.alloc HB3.out.size _)
                  have HA0 : Hid (IRow w4 w4.heap.size (some ⟨w3.heap.size, 0, none⟩) 1 (wl (prodL N 0))) := Lib.hid (by rw [prodL_w0]; exact IRow.of_own how4)
                  obtain ⟨G0, hG0⟩ : ∃ G0, w3.heap.size = G0 := ⟨_, rfl⟩
                  rw [hG0] at HA0
                  clear hb3 hx3 how4
                  go_wp2_with fail
                  try rw [hw4]
                  try rw [hG0]
                  clear hw4 hG0 g3 hB3
                  go_loopw [10, 11] (fun al dv wr => ∃ (d e : Nat) (AL : Option Addr) (la ca : Nat), d = e + 1 ∧ e ≤ N ∧ dv = .int .i64 (d : Int) ∧ al = .slice AL la ca ∧ Hid (IRow wr wr.heap.size AL la (wl (prodL N e))) ∧ Below w4.heap.size w4 wr) (fun _ dv _ => N + 1 - (intOf dv).toNat)
                  case atStart => exact ⟨1, 0, _, _, _, rfl, by omega, rfl, rfl, HA0, Below.refl _ _⟩
                  case round =>
                    obtain ⟨d, ee, AL, la, ca, hde, hen, rfl, rfl, hal, hbr⟩ := hrel
                    by_cases hdN : d ≤ N
                    · have hd1 : 1 ≤ d := by omega
                      have e1 : (N : Int) % (d : Int) = ((N % d : Nat) : Int) := (Int.natCast_emod _ _).symm
                      by_cases hmod : N % d = 0
                      · have t9 : ((N : Int) % (d : Int) != 0) = false := by rw [e1, hmod]; rfl
                        obtain ⟨F, hF⟩ : ∃ F, prodL N ee = F := ⟨_, rfl⟩
                        obtain ⟨H, hH⟩ : ∃ H, cyc d = H := ⟨_, rfl⟩
                        have hFl2 := prodL_len N ee (by omega)
                        have hHl2 := cyc_facts (n := d) (by omega) (by omega)
                        have hph : phi d ≤ d := phiK_le _ _
                        rw [hH] at hHl2
                        rw [hF] at hFl2 hal
                        have hla : la = F.length := by have h9 := hal.out.1; rw [wl_len] at h9; exact h9
                        have HPR : Hid (prodL N d = mulZ (F.length + H.length - 1) F H) := Lib.hid (by
                          subst hde; rw [prodL, if_pos hmod, hF, hH])
                        have HFL : Hid (F.length = la) := Lib.hid hla.symm
                        have hla1 : 1 ≤ la := by omega
                        have hla2 : la ≤ 5000 := by omega
                        have hlb1 : 1 ≤ H.length := by omega
                        have hlb2 : H.length ≤ 100 := by omega
                        have HH0 := Lib.hid hH
                        have HBR := Lib.hid hbr
                        have hd60 : d ≤ 60 := by omega
                        have hdi : ¬ ((d : Int) = 0) := by omega
                        clear hmod e1 hF hH hFl2 hHl2 hph hla hbr hde
                        go_wp2_with fail
                        refine (Cyc_good d wr hd1 hd60).mono ?_; rintro e5 w5 ⟨F5, lb, c5, rfl, how5, hA5, hb5⟩
                        rw [HH0.out] at how5
                        have hHl : H.length = lb := by have h9 := how5.len; rw [wl_len] at h9; exact h9.symm
                        have HHL := Lib.hid hHl
                        have HF := Lib.hid (hal.out.next hb5)
                        have HH : Hid (IRow w5 w5.heap.size F5 lb (wl H)) := Lib.hid (IRow.of_own how5)
                        rw [hHl] at hlb1 hlb2
                        obtain ⟨M, hM⟩ : ∃ M : Nat, la + lb - 1 = M := ⟨_, rfl⟩
                        have hMi : (la : Int) + (lb : Int) - 1 = (M : Int) := by omega
                        have HNe := Lib.hid hM
                        have hM2 : M ≤ 6000 := by omega
                        have hmk := run_make_row' (P := Try.prog) 22 3 (.int .i64 0) 8 Try.underlying22 infoI rfl .i64 .i64 M (by omega) (by omega)
                        obtain ⟨w6, hw6⟩ : ∃ w6, w5.alloc (Obj.cells (madeCells #[Value.int .i64 0] M) 3) = w6 := ⟨_, rfl⟩
                        have how6 : Own w6 w5.heap.size (some ⟨w5.heap.size, 0, none⟩) M M (wl (List.replicate M 0)) := by
                          rw [← hw6]
                          rw [wl_zeros]
                          exact own_made (Nat.le_refl _) (by unfold maxLen; omega)
                        have HB6 : Hid (Below w5.heap.size w5 w6) := Lib.hid (by rw [← hw6]; exact (Below.refl _ _).alloc (Nat.le_refl _) _)
                        obtain ⟨Gf, hGf⟩ : ∃ Gf, w5.heap.size = Gf := ⟨_, rfl⟩
                        have HOW6 : Hid (Own w6 w5.heap.size (some ⟨Gf, 0, none⟩) M M (wl (List.replicate M 0))) := Lib.hid (by rw [← hGf]; exact how6)
                        have HMZ : Hid (mulGo H (F.drop 0) 0 (List.replicate M 0) = mulZ M F H) := Lib.hid rfl
                        have HRL : Hid ((List.replicate M (0 : Int)).length = M) := Lib.hid (by simp)
                        have HBW5 : Hid (Below w4.heap.size w4 w5) := Lib.hid (ibt HBR.out hb5)
                        have HPR2 : Hid (prodL N d = mulZ M F H) := Lib.hid (by rw [HPR.out, HFL.out, hHl, hM])
                        clear how5 hA5 hb5 hal hHl hM how6
                        go_wp2_with fail
                        try rw [hw6]
                        try rw [hGf]
                        clear hw6 hGf hmk
                        go_loopw [123] (fun iv wr => ∃ (i : Nat) (Pz : List Int), i ≤ la ∧ iv = .int .i64 (i : Int) ∧ Hid (mulGo H (F.drop i) i Pz = mulZ M F H) ∧ Hid (Pz.length = M) ∧ Hid (Own wr w5.heap.size (some ⟨Gf, 0, none⟩) M M (wl Pz)) ∧ Below w5.heap.size w5 wr) (fun iv _ => la - (intOf iv).toNat)
                        case atStart => exact ⟨0, _, by omega, rfl, HMZ, HRL, HOW6, HB6.out⟩
                        case round =>
                          obtain ⟨i, Pz, hi, rfl, hmz, hPl, how1, hbo⟩ := hrel
                          obtain ⟨wo, hwo⟩ : ∃ wo : World, wo = wr := ⟨_, rfl⟩
                          subst hwo
                          by_cases hlt : i < la
                          · obtain ⟨b, off, x, hx, rfl, hB, g1⟩ := (HF.out.below hbo).at_ hlt
                            obtain ⟨X, hX, hxX⟩ := wl_cell hx
                            have HXX := Lib.hid hxX
                            have HDR := Lib.hid (drop_at hX)
                            have HBO := Lib.hid hbo
                            have hii : (i : Int) < (la : Int) := by omega
                            have HO0 : Hid (Own wo w5.heap.size (some ⟨Gf, 0, none⟩) M M (wl (sub i Pz (-X) (H.take 0)))) := Lib.hid (by rw [List.take_zero, sub_nil]; exact how1.out)
                            clear hx hX hxX hbo
                            go_wp2_with fail
                            go_loopw [130] (fun z wr => ∃ j : Nat, j ≤ lb ∧ z = .int .i64 (j : Int) ∧ Hid (Own wr w5.heap.size (some ⟨Gf, 0, none⟩) M M (wl (sub i Pz (-X) (H.take j)))) ∧ Below w5.heap.size w5 wr) (fun z _ => lb - (intOf z).toNat)
                            case atStart => exact ⟨0, by omega, rfl, HO0, HBO.out⟩
                            case round =>
                              obtain ⟨j, hj, rfl, how3, hbj⟩ := hrel
                              by_cases hjm : j < lb
                              · obtain ⟨b', off', z, hz, rfl, hB', g2⟩ := (HH.out.below hbj).at_ hjm
                                obtain ⟨Z, hZ, hzZ⟩ := wl_cell hz
                                have hij : i + j < Pz.length := by have := hPl.out; have := HNe.out; omega
                                obtain ⟨Y, hY⟩ : ∃ Y, Pz[i + j]? = some Y := ⟨_, List.getElem?_eq_getElem hij⟩
                                have hY2 : (sub i Pz (-X) (H.take j))[i + j]? = some Y := by rw [sub_at]; exact hY
                                obtain ⟨y, hy⟩ : ∃ y, wrap64 Y = y := ⟨_, rfl⟩
                                have hcell3 := Own.cell how3.out (wl_at hY2)
                                rw [hy] at hcell3
                                obtain ⟨g10, g11, g12, g13⟩ := hcell3
                                have HST9 : Hid (wl (sub i Pz (-X) (H.take (j + 1))) = (wl (sub i Pz (-X) (H.take j))).set (i + j) (wrap64 (y + wrap64 (x * z)))) := Lib.hid (by
                                  rw [sub_take hZ hY, wl_set, ← hy, hzZ, HXX.out, w_am])
                                have hijn : i + j < M := by have := hPl.out; omega
                                have hji : (j : Int) < (lb : Int) := by omega
                                clear hz hZ hzZ hY hY2 hy hij
                                go_wp2_with fail
                                go_roundw
                                case rel => exact ⟨j + 1, by omega, by go_num, by rw [HST9.out]; exact Lib.hid (Own.store how3.out (i + j) _), hbj.setCell (p := ⟨Gf, i + j, none⟩) g13 _⟩
                                case measure => simp [intOf]; omega
                              · have e : j = lb := by omega
                                subst e
                                have HT : Hid (H.take j = H) := Lib.hid (List.take_of_length_le (by rw [HHL.out]; omega))
                                have HMG : Hid (mulGo H (F.drop (i + 1)) (i + 1) (sub i Pz (-X) H) = mulZ M F H) := Lib.hid (by
                                  rw [← hmz.out, HDR.out, mulGo])
                                rw [HT.out] at how3
                                go_wp2_with fail
                                go_roundw
                                case rel => exact ⟨i + 1, sub i Pz (-X) H, by omega, by go_num, HMG, Lib.hid (by rw [sub_len]; exact hPl.out), how3, hbj⟩
                                case measure => simp [intOf]; omega
                          · have e : i = la := by omega
                            subst e
                            have HE : Hid (Pz = mulZ M F H) := Lib.hid (by
                              have := hmz.out
                              rwa [List.drop_of_length_le (by rw [HFL.out]; omega), mulGo] at this)
                            rw [HE.out, ← HPR2.out] at how1
                            go_wp2_with fail
                            go_roundw
                            case rel => exact ⟨d + 1, d, _, _, _, rfl, hdN, by go_num, rfl, Lib.hid (IRow.of_own how1.out), ibt HBW5.out hbo⟩
                            case measure => simp [intOf]; omega
                      · have t9 : ((N : Int) % (d : Int) != 0) = true := by rw [e1]; simp; omega
                        have HPR : Hid (prodL N d = prodL N ee) := Lib.hid (by subst hde; rw [prodL, if_neg hmod])
                        rw [← HPR.out] at hal
                        have hdi : ¬ ((d : Int) = 0) := by omega
                        clear hmod e1 hde
                        go_wp2_with fail
                        go_roundw
                        case rel => exact ⟨d + 1, d, _, _, _, rfl, hdN, by go_num, rfl, hal, hbr⟩
                        case measure => simp [intOf]; omega
                    · obtain rfl : ee = N := by omega
                      rw [HD.out.prod, wl_xn1] at hal
                      have hla : la = ee + 1 := by have h9 := hal.out.1; rw [h9]; simp [xn1]; omega
                      subst hla
                      have HBR := Lib.hid (ibt HB4.out hbr)
                      have hdi : (d : Int) = (ee : Int) + 1 := by omega
                      clear hbr hde
                      go_wp2_with fail
                      go_loopw [156] (fun z wr5 => ∃ k9 : Nat, k9 ≤ ee + 1 ∧ z = .int .i64 (k9 : Int) ∧ wr5 = wr) (fun z _ => ee + 1 - (intOf z).toNat)
                      case atStart => exact ⟨0, by omega, rfl, rfl⟩
                      case round =>
                        obtain ⟨k9, hk9, rfl, rfl⟩ := hrel
                        by_cases hlt : k9 < ee + 1
                        · obtain ⟨b, off, x, hx, rfl, hB, g1⟩ := hal.out.at_ hlt
                          rw [xn1_at (by omega) k9 (by omega)] at hx
                          have hx := Option.some.inj hx
                          by_cases h0 : k9 = 0
                          · rw [if_pos h0] at hx
                            subst hx
                            have f1 : ((k9 : Int) == 0) = true := by simp [h0]
                            have f2 : ((k9 : Int) == (ee : Int)) = false := by simp; omega
                            have f3 : decide ((0 : Int) < (k9 : Int)) = false := by simp [h0]
                            have g3 : ¬ 0 < k9 := by omega
                            clear h0
                            go_wp2_with fail
                            all_goals first
                              | (exfalso; omega)
                              | (go_roundw
                                 case rel => exact ⟨k9 + 1, by omega, by go_num, trivial⟩
                                 case measure => simp [intOf]; omega)
                          · rw [if_neg h0] at hx
                            have f1 : ((k9 : Int) == 0) = false := by simp; omega
                            have f3 : decide ((0 : Int) < (k9 : Int)) = true := decide_eq_true (by omega)
                            have g3 : 0 < k9 := by omega
                            by_cases h9 : k9 = ee
                            · rw [if_pos h9] at hx
                              subst hx
                              have f2 : ((k9 : Int) == (ee : Int)) = true := by simp [h9]
                              have f4 : decide ((k9 : Int) < (ee : Int)) = false := decide_eq_false (by omega)
                              have g4 : ¬ k9 < ee := by omega
                              clear h0 h9
                              go_wp2_with fail
                              all_goals first
                                | (exfalso; omega)
                                | (go_roundw
                                   case rel => exact ⟨k9 + 1, by omega, by go_num, trivial⟩
                                   case measure => simp [intOf]; omega)
                            · rw [if_neg h9] at hx
                              subst hx
                              have f2 : ((k9 : Int) == (ee : Int)) = false := by simp; omega
                              have f4 : decide ((k9 : Int) < (ee : Int)) = true := decide_eq_true (by omega)
                              have g4 : k9 < ee := by omega
                              clear h0 h9
                              go_wp2_with fail
                              all_goals first
                                | (exfalso; omega)
                                | (go_roundw
                                   case rel => exact ⟨k9 + 1, by omega, by go_num, trivial⟩
                                   case measure => simp [intOf]; omega)
                        · obtain rfl : k9 = ee + 1 := by omega
                          go_wp2_with fail
                          refine (awake_any wr).mono ?_; rintro e w9 ⟨rfl, hb9⟩
                          go_wp2_with fail
                          go_ret
                          exact ⟨rfl, ibt HBR.out hb9⟩
                · have t8 : ((PV : Int) != (k : Int)) = false := by simp [hpv]
                  clear hpv
                  go_wp2_with fail
                  refine (HPHI.out _).mono ?_; rintro e w3 ⟨rfl, hb3⟩
                  obtain ⟨b3, off3, x3, hx3, rfl, hB3, g3⟩ := (HI2.out.below hb3).at_ (k := P) (by omega)
                  obtain rfl : x3 = 1 := by have h9 := HD.out.last; rw [HP.out] at h9; exact Option.some.inj (hx3.symm.trans h9)
                  have HB3 := Lib.hid (ibt HB2.out hb3)
                  obtain ⟨w4, hw4⟩ : ∃ w4, w3.alloc (Obj.cells #[Value.int .i64 1] 3) = w4 := ⟨_, rfl⟩
                  have how4 : Own w4 w3.heap.size (some ⟨w3.heap.size, 0, none⟩) 1 1 [1] := by
                    have h0 := World.ownsRow_lit (base := w3.heap.size) (e := 3) (size := 1) w3 #[Value.int .i64 1] 1 (Nat.le_refl _) (by unfold maxLen; omega) (by simp)
                    rw [hw4] at h0; exact h0
                  have HB4 : Hid (Below w.heap.size w w4) := Lib.hid (by rw [← hw4]; exact HB3.out.alloc HB3.out.size _)
                  have HA0 : Hid (IRow w4 w4.heap.size (some ⟨w3.heap.size, 0, none⟩) 1 (wl (prodL N 0))) := Lib.hid (by rw [prodL_w0]; exact IRow.of_own how4)
                  obtain ⟨G0, hG0⟩ : ∃ G0, w3.heap.size = G0 := ⟨_, rfl⟩
                  rw [hG0] at HA0
                  clear hb3 hx3 how4
                  go_wp2_with fail
                  try rw [hw4]
                  try rw [hG0]
                  clear hw4 hG0 g3 hB3
                  go_loopw [10, 11] (fun al dv wr => ∃ (d e : Nat) (AL : Option Addr) (la ca : Nat), d = e + 1 ∧ e ≤ N ∧ dv = .int .i64 (d : Int) ∧ al = .slice AL la ca ∧ Hid (IRow wr wr.heap.size AL la (wl (prodL N e))) ∧ Below w4.heap.size w4 wr) (fun _ dv _ => N + 1 - (intOf dv).toNat)
                  case atStart => exact ⟨1, 0, _, _, _, rfl, by omega, rfl, rfl, HA0, Below.refl _ _⟩
                  case round =>
                    obtain ⟨d, ee, AL, la, ca, hde, hen, rfl, rfl, hal, hbr⟩ := hrel
                    by_cases hdN : d ≤ N
                    · have hd1 : 1 ≤ d := by omega
                      have e1 : (N : Int) % (d : Int) = ((N % d : Nat) : Int) := (Int.natCast_emod _ _).symm
                      by_cases hmod : N % d = 0
                      · have t9 : ((N : Int) % (d : Int) != 0) = false := by rw [e1, hmod]; rfl
                        obtain ⟨F, hF⟩ : ∃ F, prodL N ee = F := ⟨_, rfl⟩
                        obtain ⟨H, hH⟩ : ∃ H, cyc d = H := ⟨_, rfl⟩
                        have hFl2 := prodL_len N ee (by omega)
                        have hHl2 := cyc_facts (n := d) (by omega) (by omega)
                        have hph : phi d ≤ d := phiK_le _ _
                        rw [hH] at hHl2
                        rw [hF] at hFl2 hal
                        have hla : la = F.length := by have h9 := hal.out.1; rw [wl_len] at h9; exact h9
                        have HPR : Hid (prodL N d = mulZ (F.length + H.length - 1) F H) := Lib.hid (by
                          subst hde; rw [prodL, if_pos hmod, hF, hH])
                        have HFL : Hid (F.length = la) := Lib.hid hla.symm
                        have hla1 : 1 ≤ la := by omega
                        have hla2 : la ≤ 5000 := by omega
                        have hlb1 : 1 ≤ H.length := by omega
                        have hlb2 : H.length ≤ 100 := by omega
                        have HH0 := Lib.hid hH
                        have HBR := Lib.hid hbr
                        have hd60 : d ≤ 60 := by omega
                        have hdi : ¬ ((d : Int) = 0) := by omega
                        clear hmod e1 hF hH hFl2 hHl2 hph hla hbr hde
                        go_wp2_with fail
                        refine (Cyc_good d wr hd1 hd60).mono ?_; rintro e5 w5 ⟨F5, lb, c5, rfl, how5, hA5, hb5⟩
                        rw [HH0.out] at how5
                        have hHl : H.length = lb := by have h9 := how5.len; rw [wl_len] at h9; exact h9.symm
                        have HHL := Lib.hid hHl
                        have HF := Lib.hid (hal.out.next hb5)
                        have HH : Hid (IRow w5 w5.heap.size F5 lb (wl H)) := Lib.hid (IRow.of_own how5)
                        rw [hHl] at hlb1 hlb2
                        obtain ⟨M, hM⟩ : ∃ M : Nat, la + lb - 1 = M := ⟨_, rfl⟩
                        have hMi : (la : Int) + (lb : Int) - 1 = (M : Int) := by omega
                        have HNe := Lib.hid hM
                        have hM2 : M ≤ 6000 := by omega
                        have hmk := run_make_row' (P := Try.prog) 22 3 (.int .i64 0) 8 Try.underlying22 infoI rfl .i64 .i64 M (by omega) (by omega)
                        obtain ⟨w6, hw6⟩ : ∃ w6, w5.alloc (Obj.cells (madeCells #[Value.int .i64 0] M) 3) = w6 := ⟨_, rfl⟩
                        have how6 : Own w6 w5.heap.size (some ⟨w5.heap.size, 0, none⟩) M M (wl (List.replicate M 0)) := by
                          rw [← hw6]
                          rw [wl_zeros]
                          exact own_made (Nat.le_refl _) (by unfold maxLen; omega)
                        have HB6 : Hid (Below w5.heap.size w5 w6) := Lib.hid (by rw [← hw6]; exact (Below.refl _ _).alloc (Nat.le_refl _) _)
                        obtain ⟨Gf, hGf⟩ : ∃ Gf, w5.heap.size = Gf := ⟨_, rfl⟩
                        have HOW6 : Hid (Own w6 w5.heap.size (some ⟨Gf, 0, none⟩) M M (wl (List.replicate M 0))) := Lib.hid (by rw [← hGf]; exact how6)
                        have HMZ : Hid (mulGo H (F.drop 0) 0 (List.replicate M 0) = mulZ M F H) := Lib.hid rfl
                        have HRL : Hid ((List.replicate M (0 : Int)).length = M) := Lib.hid (by simp)
                        have HBW5 : Hid (Below w4.heap.size w4 w5) := Lib.hid (ibt HBR.out hb5)
                        have HPR2 : Hid (prodL N d = mulZ M F H) := Lib.hid (by rw [HPR.out, HFL.out, hHl, hM])
                        clear how5 hA5 hb5 hal hHl hM how6
                        go_wp2_with fail
                        try rw [hw6]
                        try rw [hGf]
                        clear hw6 hGf hmk
                        go_loopw [123] (fun iv wr => ∃ (i : Nat) (Pz : List Int), i ≤ la ∧ iv = .int .i64 (i : Int) ∧ Hid (mulGo H (F.drop i) i Pz = mulZ M F H) ∧ Hid (Pz.length = M) ∧ Hid (Own wr w5.heap.size (some ⟨Gf, 0, none⟩) M M (wl Pz)) ∧ Below w5.heap.size w5 wr) (fun iv _ => la - (intOf iv).toNat)
                        case atStart => exact ⟨0, _, by omega, rfl, HMZ, HRL, HOW6, HB6.out⟩
                        case round =>
                          obtain ⟨i, Pz, hi, rfl, hmz, hPl, how1, hbo⟩ := hrel
                          obtain ⟨wo, hwo⟩ : ∃ wo : World, wo = wr := ⟨_, rfl⟩
                          subst hwo
                          by_cases hlt : i < la
                          · obtain ⟨b, off, x, hx, rfl, hB, g1⟩ := (HF.out.below hbo).at_ hlt
                            obtain ⟨X, hX, hxX⟩ := wl_cell hx
                            have HXX := Lib.hid hxX
                            have HDR := Lib.hid (drop_at hX)
                            have HBO := Lib.hid hbo
                            have hii : (i : Int) < (la : Int) := by omega
                            have HO0 : Hid (Own wo w5.heap.size (some ⟨Gf, 0, none⟩) M M (wl (sub i Pz (-X) (H.take 0)))) := Lib.hid (by rw [List.take_zero, sub_nil]; exact how1.out)
                            clear hx hX hxX hbo
                            go_wp2_with fail
                            go_loopw [130] (fun z wr => ∃ j : Nat, j ≤ lb ∧ z = .int .i64 (j : Int) ∧ Hid (Own wr w5.heap.size (some ⟨Gf, 0, none⟩) M M (wl (sub i Pz (-X) (H.take j)))) ∧ Below w5.heap.size w5 wr) (fun z _ => lb - (intOf z).toNat)
                            case atStart => exact ⟨0, by omega, rfl, HO0, HBO.out⟩
                            case round =>
                              obtain ⟨j, hj, rfl, how3, hbj⟩ := hrel
                              by_cases hjm : j < lb
                              · obtain ⟨b', off', z, hz, rfl, hB', g2⟩ := (HH.out.below hbj).at_ hjm
                                obtain ⟨Z, hZ, hzZ⟩ := wl_cell hz
                                have hij : i + j < Pz.length := by have := hPl.out; have := HNe.out; omega
                                obtain ⟨Y, hY⟩ : ∃ Y, Pz[i + j]? = some Y := ⟨_, List.getElem?_eq_getElem hij⟩
                                have hY2 : (sub i Pz (-X) (H.take j))[i + j]? = some Y := by rw [sub_at]; exact hY
                                obtain ⟨y, hy⟩ : ∃ y, wrap64 Y = y := ⟨_, rfl⟩
                                have hcell3 := Own.cell how3.out (wl_at hY2)
                                rw [hy] at hcell3
                                obtain ⟨g10, g11, g12, g13⟩ := hcell3
                                have HST9 : Hid (wl (sub i Pz (-X) (H.take (j + 1))) = (wl (sub i Pz (-X) (H.take j))).set (i + j) (wrap64 (y + wrap64 (x * z)))) := Lib.hid (by
                                  rw [sub_take hZ hY, wl_set, ← hy, hzZ, HXX.out, w_am])
                                have hijn : i + j < M := by have := hPl.out; omega
                                have hji : (j : Int) < (lb : Int) := by omega
                                clear hz hZ hzZ hY hY2 hy hij
                                go_wp2_with fail
                                go_roundw
                                case rel => exact ⟨j + 1, by omega, by go_num, by rw [HST9.out]; exact Lib.hid (Own.store how3.out (i + j) _), hbj.setCell (p := ⟨Gf, i + j, none⟩) g13 _⟩
                                case measure => simp [intOf]; omega
                              · have e : j = lb := by omega
                                subst e
                                have HT : Hid (H.take j = H) := Lib.hid (List.take_of_length_le (by rw [HHL.out]; omega))
                                have HMG : Hid (mulGo H (F.drop (i + 1)) (i + 1) (sub i Pz (-X) H) = mulZ M F H) := Lib.hid (by
                                  rw [← hmz.out, HDR.out, mulGo])
                                rw [HT.out] at how3
                                go_wp2_with fail
                                go_roundw
                                case rel => exact ⟨i + 1, sub i Pz (-X) H, by omega, by go_num, HMG, Lib.hid (by rw [sub_len]; exact hPl.out), how3, hbj⟩
                                case measure => simp [intOf]; omega
                          · have e : i = la := by omega
                            subst e
                            have HE : Hid (Pz = mulZ M F H) := Lib.hid (by
                              have := hmz.out
                              rwa [List.drop_of_length_le (by rw [HFL.out]; omega), mulGo] at this)
                            rw [HE.out, ← HPR2.out] at how1
                            go_wp2_with fail
                            go_roundw
                            case rel => exact ⟨d + 1, d, _, _, _, rfl, hdN, by go_num, rfl, Lib.hid (IRow.of_own how1.out), ibt HBW5.out hbo⟩
                            case measure => simp [intOf]; omega
                      · have t9 : ((N : Int) % (d : Int) != 0) = true := by rw [e1]; simp; omega
                        have HPR : Hid (prodL N d = prodL N ee) := Lib.hid (by subst hde; rw [prodL, if_neg hmod])
                        rw [← HPR.out] at hal
                        have hdi : ¬ ((d : Int) = 0) := by omega
                        clear hmod e1 hde
                        go_wp2_with fail
                        go_roundw
                        case rel => exact ⟨d + 1, d, _, _, _, rfl, hdN, by go_num, rfl, hal, hbr⟩
                        case measure => simp [intOf]; omega
                    · obtain rfl : ee = N := by omega
                      rw [HD.out.prod, wl_xn1] at hal
                      have hla : la = ee + 1 := by have h9 := hal.out.1; rw [h9]; simp [xn1]; omega
                      subst hla
                      have HBR := Lib.hid (ibt HB4.out hbr)
                      have hdi : (d : Int) = (ee : Int) + 1 := by omega
                      clear hbr hde
                      go_wp2_with fail
                      go_loopw [156] (fun z wr5 => ∃ k9 : Nat, k9 ≤ ee + 1 ∧ z = .int .i64 (k9 : Int) ∧ wr5 = wr) (fun z _ => ee + 1 - (intOf z).toNat)
                      case atStart => exact ⟨0, by omega, rfl, rfl⟩
                      case round =>
                        obtain ⟨k9, hk9, rfl, rfl⟩ := hrel
                        by_cases hlt : k9 < ee + 1
                        · obtain ⟨b, off, x, hx, rfl, hB, g1⟩ := hal.out.at_ hlt
                          rw [xn1_at (by omega) k9 (by omega)] at hx
                          have hx := Option.some.inj hx
                          by_cases h0 : k9 = 0
                          · rw [if_pos h0] at hx
                            subst hx
                            have f1 : ((k9 : Int) == 0) = true := by simp [h0]
                            have f2 : ((k9 : Int) == (ee : Int)) = false := by simp; omega
                            have f3 : decide ((0 : Int) < (k9 : Int)) = false := by simp [h0]
                            have g3 : ¬ 0 < k9 := by omega
                            clear h0
                            go_wp2_with fail
                            all_goals first
                              | (exfalso; omega)
                              | (go_roundw
                                 case rel => exact ⟨k9 + 1, by omega, by go_num, trivial⟩
                                 case measure => simp [intOf]; omega)
                          · rw [if_neg h0] at hx
                            have f1 : ((k9 : Int) == 0) = false := by simp; omega
                            have f3 : decide ((0 : Int) < (k9 : Int)) = true := decide_eq_true (by omega)
                            have g3 : 0 < k9 := by omega
                            by_cases h9 : k9 = ee
                            · rw [if_pos h9] at hx
                              subst hx
                              have f2 : ((k9 : Int) == (ee : Int)) = true := by simp [h9]
                              have f4 : decide ((k9 : Int) < (ee : Int)) = false := decide_eq_false (by omega)
                              have g4 : ¬ k9 < ee := by omega
                              clear h0 h9
                              go_wp2_with fail
                              all_goals first
                                | (exfalso; omega)
                                | (go_roundw
                                   case rel => exact ⟨k9 + 1, by omega, by go_num, trivial⟩
                                   case measure => simp [intOf]; omega)
                            · rw [if_neg h9] at hx
                              subst hx
                              have f2 : ((k9 : Int) == (ee : Int)) = false := by simp; omega
                              have f4 : decide ((k9 : Int) < (ee : Int)) = true := decide_eq_true (by omega)
                              have g4 : k9 < ee := by omega
                              clear h0 h9
                              go_wp2_with fail
                              all_goals first
                                | (exfalso; omega)
                                | (go_roundw
                                   case rel => exact ⟨k9 + 1, by omega, by go_num, trivial⟩
                                   case measure => simp [intOf]; omega)
                        · obtain rfl : k9 = ee + 1 := by omega
                          go_wp2_with fail
                          refine (awake_any wr).mono ?_; rintro e w9 ⟨rfl, hb9⟩
                          go_wp2_with fail
                          go_ret
                          exact ⟨rfl, ibt HBR.out hb9⟩

set_option maxRecDepth 100000 in
set_option maxHeartbeats 1000000 in
theorem deg_law (n : Int) (w : World) (_l1 : -9223372036854775808 ≤ n) (_l2 : n ≤ 9223372036854775807) :
    Calls Try.prog 3 #[.int .i64 n] w fun e w' => e = .returned (.bool true) ∧ Below w.heap.size w w' := by
  by_cases h : 1 ≤ n ∧ n ≤ 60
  · obtain ⟨N, rfl⟩ : ∃ N : Nat, n = (N : Int) := ⟨n.toNat, by omega⟩
    exact deg_walk N w (by omega) (by omega)
  · have hn : n < 1 ∨ 60 < n := by omega
    have HN := Lib.hid hn
    clear hn h
    go_enter Try.func3, Try.ntmps3
    go_wp2_with fail
    refine (Cyc_bad n w HN.out).mono ?_; rintro e w1 ⟨rfl, hb1⟩
    go_wp2_with fail
    refine (awake_any _).mono ?_; rintro e w2 ⟨rfl, hb2⟩
    go_wp2_with fail
    go_ret
    exact ⟨rfl, ibt hb1 hb2⟩
end Go.Proofs.Ytmljndjiipgpdaa
