/- SumsReciprocity: the walk of the law. -/
import Derived.Test.YtdombadhmaanfaaCk
import Derived.Test.YtdombadhmaanfaaNt
import Derived.Test.YtdombadhmaanfaaLa
import Derived.Deep.DeepCutAuto
namespace Go.Proofs.Ytdombadhmaanfaa
open Go Go.RowKit GhN

theorem gcd8_any (a b : Nat) (w : World) (ha : a ≤ 4000000000000000000) (hb : b ≤ 4000000000000000000) :
    Calls Try.prog 37 #[.int .i64 (a : Int), .int .i64 (b : Int)] w fun e w' => e = .returned (.int .i64 ((Nat.gcd a b : Nat) : Int)) ∧ Below w.heap.size w w' := by
  go_enter Try.func37, Try.ntmps37
  go_wp2
  go_loopw [0, 1] (fun x y wr => ∃ c d : Nat, c ≤ 4000000000000000000 ∧ d ≤ 4000000000000000000 ∧ Hid (Nat.gcd c d = Nat.gcd a b) ∧ x = .int .i64 (c : Int) ∧ y = .int .i64 (d : Int) ∧ Below w.heap.size w wr) (fun _ y _ => (intOf y).toNat)
  case atStart => exact ⟨a, b, ha, hb, rfl, rfl, rfl, Below.refl _ _⟩
  case round =>
    obtain ⟨c, d, hc, hd, hg, rfl, rfl, hbw⟩ := hrel
    by_cases h0 : d = 0
    · subst h0
      have HG : Hid (c = Nat.gcd a b) := Lib.hid (by have := hg.out; rwa [Nat.gcd_zero_right] at this)
      go_wp2
      all_goals
        go_ret
        refine ⟨?_, hbw⟩
        rw [← HG.out]
        try rfl
    · have h1 : ((d : Int) == 0) = false := by simp; omega
      have h2 : (c : Int) % (d : Int) = ((c % d : Nat) : Int) := by omega
      have h3 : c % d < d := Nat.mod_lt _ (by omega)
      have H2 := Lib.hid h2
      clear h2
      go_wp2
      go_region
      go_wp2
      go_roundw
      case rel => exact ⟨d, c % d, hd, by omega, Lib.hid (by rw [← hg.out, Nat.gcd_comm d, ← Nat.gcd_rec, Nat.gcd_comm]), rfl, by rw [H2.out], hbw.drew⟩
      case measure => have := H2.out; simp [intOf]; omega

theorem gcd8_int (x : Int) (b A : Nat) (w : World) (hx : x = (A : Int)) (ha : A ≤ 4000000000000000000) (hb : b ≤ 4000000000000000000) :
    Calls Try.prog 37 #[.int .i64 x, .int .i64 (b : Int)] w fun e w' => e = .returned (.int .i64 ((Nat.gcd A b : Nat) : Int)) ∧ Below w.heap.size w w' := by
  subst hx; exact gcd8_any A b w ha hb

theorem odd8_any (a n : Int) (w : World) :
    Calls Try.prog 27 #[.int .i64 a, .int .i64 n] w fun e w' => e = .returned (.bool (validB a n)) ∧ Below w.heap.size w w' := by
  cases hv : validB a n with
  | true =>
    obtain ⟨h1, h2, h3, h4, h5⟩ := validB_yes hv
    have h6 : (n % 2 == 1) = true := by simpa using h5
    clear hv h5
    go_enter Try.func27, Try.ntmps27
    go_wp2
    go_ret
    exact ⟨rfl, Below.refl _ _⟩
  | false =>
    have h0 := validB_no hv
    clear hv
    by_cases h1 : -1000000000 ≤ a
    · by_cases h2 : a ≤ 1000000000
      · by_cases h3 : 1 ≤ n
        · by_cases h4 : n ≤ 1000000000
          · have h6 : (n % 2 == 1) = false := by simp; omega
            clear h0
            go_enter Try.func27, Try.ntmps27
            go_wp2
            go_ret
            exact ⟨rfl, Below.refl _ _⟩
          · clear h0
            go_enter Try.func27, Try.ntmps27
            go_wp2
            go_ret
            exact ⟨rfl, Below.refl _ _⟩
        · clear h0
          go_enter Try.func27, Try.ntmps27
          go_wp2
          go_ret
          exact ⟨rfl, Below.refl _ _⟩
      · clear h0
        go_enter Try.func27, Try.ntmps27
        go_wp2
        go_ret
        exact ⟨rfl, Below.refl _ _⟩
    · clear h0
      go_enter Try.func27, Try.ntmps27
      go_wp2
      go_ret
      exact ⟨rfl, Below.refl _ _⟩

theorem own_belS {w w' : World} {base sz n : Nat} {e : TypeId} {v : Value} {xs : List Value} (h : w.ownsRow base e sz v n xs) (hb : Below w.heap.size w w') : w'.ownsRow base e sz v n xs :=
  h.kept (row := none) ⟨hb.os, hb.tape, hb.output, hb.size, fun k hk _ => hb.block k hk⟩ (by cases v.ownBlock <;> simp)

/-- every step of a chain bears a sign -/
theorem ch_sign : ∀ (k : Nat) (a n s : Int), okc a n s → ∀ x ∈ ch k a n s, x.2.2.2 = 1 ∨ x.2.2.2 = -1
  | 0, _, _, _, _, x, hx => by cases hx
  | k + 1, a, n, s, h, x, hx => by
    unfold ch at hx
    split at hx
    · cases hx
    · next hne =>
      have hne : a ≠ 0 ∧ n ≠ 1 := ⟨fun e => hne (.inl e), fun e => hne (.inr e)⟩
      have ho := nx_ok h hne.1 hne.2
      rcases List.mem_cons.1 hx with rfl | hx
      · exact ho.2.2
      · exact ch_sign k _ _ _ ho x hx

theorem flip_set (P : List (Int × Int × Int × Int)) (x : Int × Int × Int × Int) (v : Int) : ((P ++ [x]).flatMap encS).set (P.length * 4 + 3) (.int .i64 v) = (P ++ [(x.1, x.2.1, x.2.2.1, v)]).flatMap encS := by
  rw [flat_snoc, flat_snoc, List.set_append_right _ _ (by rw [rw_len encS_len]; omega), rw_len encS_len, show P.length * 4 + 3 - P.length * 4 = 3 by omega]
  rfl

theorem rec_gcd (a n : Int) (hn : 1 ≤ n) : jz a n = 0 ↔ 1 < Nat.gcd a.natAbs n.toNat := by
  unfold jz
  rw [ji_zero_iff a n.toNat (by omega)]
  have : 0 < Nat.gcd a.natAbs n.toNat := Nat.gcd_pos_of_pos_right _ (by omega)
  omega

theorem rec_both {m n : Nat} (hm : m % 2 = 1) (hn : n % 2 = 1) (hg : Nat.gcd m n = 1) : jz (m : Int) n * jz (n : Int) m = if (m : Int) % 4 = 3 ∧ (n : Int) % 4 = 3 then -1 else 1 := by
  unfold jz
  rw [Int.toNat_natCast, Int.toNat_natCast, ji_nat, ji_nat, jn_recip hn hm hg]
  unfold rs
  have e : (m % 4 = 3 ∧ n % 4 = 3) ↔ ((m : Int) % 4 = 3 ∧ (n : Int) % 4 = 3) := by omega
  simp only [e]

theorem rec_mul (a : Int) {m n : Nat} (hm : m % 2 = 1) (hn : n % 2 = 1) : jz a ((m * n : Nat) : Int) = jz a n * jz a m := by
  unfold jz
  rw [Int.toNat_natCast, Int.toNat_natCast, Int.toNat_natCast, ji_mul_lower a hm hn, Int.mul_comm]

set_option maxRecDepth 100000 in
set_option maxHeartbeats 1000000 in
theorem rec_walk (a m n : Int) (w : World) (_la1 : -9223372036854775808 ≤ a) (_la2 : a ≤ 9223372036854775807) (_lm1 : -9223372036854775808 ≤ m) (_lm2 : m ≤ 9223372036854775807) (_ln1 : -9223372036854775808 ≤ n) (_ln2 : n ≤ 9223372036854775807) :
    Calls Try.prog 9 #[.int .i64 a, .int .i64 m, .int .i64 n] w fun e w' => e = .returned (.bool true) ∧ Below w.heap.size w w' := by
  cases hv : validB a n with
  | false =>
    have HV := Lib.hid hv
    clear hv
    go_enter Try.func9, Try.ntmps9
    go_wp2_with fail
    refine (chain_no a n w HV.out).mono ?_; rintro e w1 ⟨rfl, hb1⟩
    go_wp2_with fail
    refine (jacobi_no a n w1 HV.out).mono ?_; rintro e w2 ⟨rfl, hb2⟩
    go_wp2_with fail
    refine (awake_any _).mono ?_; rintro e w3 ⟨rfl, hb3⟩
    go_wp2_with fail
    go_ret
    exact ⟨rfl, bt (bt hb1 hb2) hb3⟩
  | true =>
    have HV := Lib.hid hv
    have HI := Lib.hid (validB_inr hv)
    obtain ⟨a1, a2, n1, n2, n3⟩ := validB_yes hv
    obtain ⟨N, rfl⟩ : ∃ N : Nat, n = N := ⟨n.toNat, by omega⟩
    have hNo : N % 2 = 1 := by omega
    have HNo := Lib.hid hNo
    have HZG := Lib.hid (rec_gcd a N n1)
    obtain ⟨j1, j2⟩ := jz_bd a N
    obtain ⟨J, hJ⟩ : ∃ J, jz a N = J := ⟨_, rfl⟩
    have HJ := Lib.hid hJ
    have HSV : Hid (sv a N 1 = J) := Lib.hid (by rw [sv_one, hJ])
    obtain ⟨L, hL⟩ : ∃ L, chain a N 1 = L := ⟨_, rfl⟩
    have HL := Lib.hid hL
    have HLL : Hid (L.length ≤ 119) := Lib.hid (by rw [← hL]; exact chain_len (s := 1) HI.out.1 HI.out.2.2.2)
    have HLS : Hid (∀ x ∈ L, x.2.2.2 = 1 ∨ x.2.2.2 = -1) := Lib.hid (by rw [← hL]; exact ch_sign _ _ _ _ HI.out.1)
    have tJ : (J != J) = false := by simp
    rw [hJ] at j1 j2
    have d1 : decide (J < -1) = false := decide_eq_false (by omega)
    have d2 : decide (1 < J) = false := decide_eq_false (by omega)
    clear hv n3 hNo hJ hL
    go_enter Try.func9, Try.ntmps9
    go_wp2_with fail
    refine (chain_yes a N w HV.out).mono ?_; rw [HL.out]; rintro e w1 ⟨A1, n1', c1, rfl, how1, hb1⟩
    have HOW1 := Lib.hid how1
    have HB1 := Lib.hid hb1
    have hnl : n1' ≤ 119 := by
      have h1 := how1.1
      rw [rw_len encS_len] at h1
      have := HLL.out
      omega
    clear how1 hb1
    go_wp2_with fail
    refine (jacobi_yes a N w1 HV.out).mono ?_; rw [HJ.out]; rintro e w2 ⟨rfl, hb2⟩
    go_wp2_with fail
    refine (odd8_any a N w2).mono ?_; rw [HV.out]; rintro e w3 ⟨rfl, hb3⟩
    have HB13 := Lib.hid (bt hb2 hb3)
    have HR3 : Hid (SRw w3 w3.heap.size A1 n1' L) := Lib.hid (((Rw.of_own (enc := encS) (sz := 4) (by decide) encS_len HOW1.out).below HB13.out).more HB13.out.size)
    have HN1 : Hid (A1 = none → n1' = 0) := Lib.hid (by
      obtain ⟨A', c', e1, e2⟩ := own_slice HOW1.out
      injection e1 with e1 _ _
      rw [e1]; exact e2)
    clear hb2 hb3
    go_wp2_with fail
    refine (clone_steps A1 n1' c1 L w3 HR3.out (by omega) HN1.out).mono ?_; rintro e w4 ⟨A4, n4, c4, rfl, how4, hb4⟩
    have HR4 : Hid (SRw w4 w4.heap.size A4 n4 L) := Lib.hid (Rw.of_own (enc := encS) (sz := 4) (by decide) encS_len how4)
    have hn4 : n4 ≤ 119 := by have := HR4.out.1; have := HLL.out; omega
    clear how4
    go_wp2_with fail
    refine (check_good a N A4 n4 c4 L w4 HV.out HR4.out (by omega)).mono ?_; rw [if_pos HL.out, HSV.out]; rintro e w5 ⟨rfl, hb5⟩
    have HB15 := Lib.hid (bt HB13.out (bt hb4 hb5))
    clear hb4 hb5
    go_upto_region 6 with fail
    go_cut [95] (fun s95 wx => s95 = .bool false ∧ Hid (Below w5.heap.size w5 wx))
    case first =>
      obtain ⟨G, hG⟩ : ∃ G, Nat.gcd a.natAbs N = G := ⟨_, rfl⟩
      have hGN : G ≤ N := by rw [← hG]; exact Nat.gcd_le_right _ (by omega)
      have HZ : Hid (J = 0 ↔ 1 < G) := Lib.hid (by rw [← hG, ← HJ.out]; exact HZG.out)
      have HG := Lib.hid hG
      have hq : ∃ q : Bool, (J == 0) = q ∧ decide ((1 : Int) < (G : Int)) = q := by
        by_cases h0 : J = 0
        · exact ⟨true, by simpa using h0, decide_eq_true (by have := HZ.out.1 h0; omega)⟩
        · exact ⟨false, by simpa using h0, decide_eq_false (fun h => h0 (HZ.out.2 (by omega)))⟩
      obtain ⟨q, t1, t2⟩ := hq
      have t3 : (q != q) = false := by simp
      clear hG
      go_wp2_with fail
      all_goals
        refine (gcd8_int _ N a.natAbs w5 (by omega) (by omega) (by omega)).mono ?_; rw [HG.out]; rintro e w6 ⟨rfl, hb6⟩
        go_wp2_with fail
        go_meet
        exact ⟨rfl, Lib.hid hb6⟩
    case rest =>
      obtain ⟨rfl, hbc⟩ := hcut
      go_upto_if 98 with fail
      go_cut [14, 15, 16] (fun _ _ _ wx => Hid (Below w.heap.size w wx))
      case first =>
        have HBC := Lib.hid (bt HB15.out hbc.out)
        have HBW := Lib.hid (bt HB1.out HBC.out)
        by_cases hz : n1' = 0
        · subst hz
          go_wp2_with fail
          go_meet
          exact HBW
        · obtain ⟨M, rfl⟩ : ∃ M, n1' = M + 1 := ⟨n1' - 1, by omega⟩
          have hown := own_belS HOW1.out HBC.out
          have HOW := Lib.hid hown
          obtain ⟨g, rfl, hg⟩ : ∃ g, A1 = some ⟨g, 0, none⟩ ∧ w.heap.size ≤ g := by
            rcases hown.2 with ⟨_, h0⟩ | ⟨g, cap, cur, hv, hg, _⟩
            · omega
            · injection hv with hA _ _
              exact ⟨g, hA, hg⟩
          have hlen : L.length = M + 1 := by
            have h1 := hown.1
            rw [rw_len encS_len] at h1
            omega
          obtain ⟨P, x, hP⟩ : ∃ P x, L = P ++ [x] := ⟨L.dropLast, L.getLast (by intro e; rw [e] at hlen; simp at hlen), (List.dropLast_concat_getLast _).symm⟩
          have hPl : P.length = M := by rw [hP] at hlen; simpa using hlen
          have hat : L[M]? = some x := by rw [hP, ← hPl]; simp
          have g1 := hown.cellAt (M * 4 + 3) (by omega)
          rw [rw_at encS_len L M x hat 3 _ rfl] at g1
          have g2 := hown.frozenAt (M * 4 + 3)
          have hgs : g < wc.heap.size := (hown.lt g rfl).2
          have hsx : x.2.2.2 = 1 ∨ x.2.2.2 = -1 := HLS.out x (List.mem_of_getElem? hat)
          have HNEQ : Hid (¬ chain a N 1 = P ++ [(x.1, x.2.1, x.2.2.1, -x.2.2.2)]) := Lib.hid (fun e => by
            rw [HL.out, hP] at e
            have e1 := List.append_cancel_left e
            injection e1 with e2 _
            have e3 := congrArg (fun y : Int × Int × Int × Int => y.2.2.2) e2
            simp only at e3
            omega)
          have HO2 : Hid ((wc.setCell ⟨g, M * 4 + 3, none⟩ (.int .i64 (-x.2.2.2))).ownsRow w.heap.size 48 4 (.slice (some ⟨g, 0, none⟩) (M + 1) c1) (M + 1) ((P ++ [(x.1, x.2.1, x.2.2.1, -x.2.2.2)]).flatMap encS)) := Lib.hid (by
            have h1 := (hown.stored (M * 4 + 3) (.int .i64 (-x.2.2.2))).1
            rw [hP, ← hPl, flip_set] at h1
            rw [← hPl]; exact h1)
          have HB2 : Hid (Below w.heap.size w (wc.setCell ⟨g, M * 4 + 3, none⟩ (.int .i64 (-x.2.2.2)))) := Lib.hid (HBW.out.setCell (p := ⟨g, M * 4 + 3, none⟩) hg _)
          have HR2 : Hid (SRw (wc.setCell ⟨g, M * 4 + 3, none⟩ (.int .i64 (-x.2.2.2))) (wc.setCell ⟨g, M * 4 + 3, none⟩ (.int .i64 (-x.2.2.2))).heap.size (some ⟨g, 0, none⟩) (M + 1) (P ++ [(x.1, x.2.1, x.2.2.1, -x.2.2.2)])) := Lib.hid (Rw.of_own (enc := encS) (sz := 4) (by decide) encS_len HO2.out)
          obtain ⟨S, hS⟩ : ∃ S, x.2.2.2 = S := ⟨_, rfl⟩
          rw [hS] at g1 hsx
          have HS := Lib.hid hS
          have hs1 : -1 ≤ S := by omega
          have hs2 : S ≤ 1 := by omega
          clear hown hlen hP hPl hat hS hsx
          go_wp2_with fail
          rw [HS.out] at HO2 HB2 HR2 HNEQ
          refine (check_good a N (some ⟨g, 0, none⟩) (M + 1) c1 _ _ HV.out HR2.out (by omega)).mono ?_; rw [if_neg HNEQ.out]; rintro e w7 ⟨rfl, hb7⟩
          go_wp2_with fail
          go_meet
          exact Lib.hid (bt HB2.out hb7)
      case rest =>
        have HBW := hcut
        clear hcut
        by_cases h1 : m < 1
        · go_wp2_with fail
          refine (awake_any _).mono ?_; rintro e w9 ⟨rfl, hb9⟩
          go_wp2_with fail
          go_ret
          exact ⟨rfl, bt HBW.out hb9⟩
        by_cases h2 : 30000 < m
        · go_wp2_with fail
          refine (awake_any _).mono ?_; rintro e w9 ⟨rfl, hb9⟩
          go_wp2_with fail
          go_ret
          exact ⟨rfl, bt HBW.out hb9⟩
        obtain ⟨M, rfl⟩ : ∃ M : Nat, m = M := ⟨m.toNat, by omega⟩
        by_cases h3 : M % 2 = 0
        · have t1 : ((M : Int) % 2 == 0) = true := by simp; omega
          clear h3
          go_wp2_with fail
          refine (awake_any _).mono ?_; rintro e w9 ⟨rfl, hb9⟩
          go_wp2_with fail
          go_ret
          exact ⟨rfl, bt HBW.out hb9⟩
        have t1 : ((M : Int) % 2 == 0) = false := by simp; omega
        have HMo : Hid (M % 2 = 1) := Lib.hid (by omega)
        by_cases h4 : (30000 : Int) < (N : Int)
        · clear h3
          go_wp2_with fail
          refine (awake_any _).mono ?_; rintro e w9 ⟨rfl, hb9⟩
          go_wp2_with fail
          go_ret
          exact ⟨rfl, bt HBW.out hb9⟩
        have hMo := HMo.out
        have hNo := HNo.out
        have HV1 : Hid (validB (M : Int) N = true) := Lib.hid (validB_mk ⟨by omega, by omega, by omega, by omega, by omega⟩)
        have HV2 : Hid (validB (N : Int) M = true) := Lib.hid (validB_mk ⟨by omega, by omega, by omega, by omega, by omega⟩)
        have HV3 : Hid (validB a M = true) := Lib.hid (validB_mk ⟨by omega, by omega, by omega, by omega, by omega⟩)
        have hq2 : (M : Int) * (N : Int) ≤ 30000 * 30000 := Int.mul_le_mul (by omega) (by omega) (by omega) (by omega)
        have hq1 : 1 * 1 ≤ (M : Int) * (N : Int) := Int.mul_le_mul (by omega) (by omega) (by omega) (by omega)
        have hqc : (M : Int) * (N : Int) = ((M * N : Nat) : Int) := by rw [Int.natCast_mul]
        have HV4 : Hid (validB a ((M : Int) * N) = true) := Lib.hid (validB_mk ⟨by omega, by omega, by omega, by omega, by
          rw [hqc]; have := odd_mul hMo hNo; omega⟩)
        have hQ := rec_mul a hMo hNo
        rw [HJ.out, ← hqc] at hQ
        obtain ⟨z1, z2⟩ := jz_bd a M
        have hzc := jz_cases a M
        have hjc := jz_cases a N
        rw [HJ.out] at hjc
        have hrb : Nat.gcd M N = 1 → jz (M : Int) N * jz (N : Int) M = if (M : Int) % 4 = 3 ∧ (N : Int) % 4 = 3 then -1 else 1 := fun hg => rec_both hMo hNo hg
        have hx0 := rec_gcd (M : Int) N n1
        have hy0 := rec_gcd (N : Int) M (by omega)
        rw [Int.natAbs_natCast, Int.toNat_natCast] at hx0 hy0
        rw [Nat.gcd_comm] at hy0
        obtain ⟨x1, x2⟩ := jz_bd (M : Int) N
        obtain ⟨y1, y2⟩ := jz_bd (N : Int) M
        obtain ⟨X, hX⟩ : ∃ X, jz (M : Int) N = X := ⟨_, rfl⟩
        obtain ⟨Y, hY⟩ : ∃ Y, jz (N : Int) M = Y := ⟨_, rfl⟩
        obtain ⟨Z, hZ⟩ : ∃ Z, jz a M = Z := ⟨_, rfl⟩
        obtain ⟨G, hG⟩ : ∃ G, Nat.gcd M N = G := ⟨_, rfl⟩
        have hG0 : 1 ≤ G := by rw [← hG]; exact Nat.gcd_pos_of_pos_left _ (by omega)
        have hGM : G ≤ M := by rw [← hG]; exact Nat.gcd_le_left _ (by omega)
        rw [hX] at hrb hx0 x1 x2
        rw [hY] at hrb hy0 y1 y2
        rw [hZ] at hQ z1 z2 hzc
        rw [hG] at hrb hx0 hy0
        obtain ⟨P, hP⟩ : ∃ P, J * Z = P := ⟨_, rfl⟩
        have p1 : -1 ≤ P ∧ P ≤ 1 := by rw [← hP]; rcases hjc with rfl | rfl | rfl <;> rcases hzc with rfl | rfl | rfl <;> decide
        obtain ⟨p1, p2⟩ := p1
        rw [hP] at hQ
        have HX := Lib.hid hX
        have HY := Lib.hid hY
        have HZ := Lib.hid hZ
        have HG := Lib.hid hG
        have HQ := Lib.hid hQ
        have HRB := Lib.hid hrb
        have HX0 := Lib.hid hx0
        have HY0 := Lib.hid hy0
        have tP : (P != P) = false := by simp
        clear h3 hMo hNo hqc hQ hzc hjc hX hY hZ hG hrb hx0 hy0
        go_wp2_with fail
        refine (jacobi_yes (M : Int) N _ HV1.out).mono ?_; rw [HX.out]; rintro e v1 ⟨rfl, hv1⟩
        go_wp2_with fail
        refine (jacobi_yes (N : Int) M _ HV2.out).mono ?_; rw [HY.out]; rintro e v2 ⟨rfl, hv2⟩
        go_wp2_with fail
        refine (jacobi_yes a M _ HV3.out).mono ?_; rw [HZ.out]; rintro e v3 ⟨rfl, hv3⟩
        go_wp2_with fail
        refine (jacobi_yes a ((M : Int) * N) _ HV4.out).mono ?_; rw [HQ.out]; rintro e v4 ⟨rfl, hv4⟩
        have HBV := Lib.hid (bt (bt (bt (bt HBW.out hv1) hv2) hv3) hv4)
        clear hv1 hv2 hv3 hv4
        have hw : ∃ W : Int, (W = if (M : Int) % 4 = 3 ∧ (N : Int) % 4 = 3 then -1 else 1) ∧ (((M : Int) % 4 == 3) = true ∧ ((N : Int) % 4 == 3) = true ∧ W = -1 ∨ ((M : Int) % 4 == 3) = true ∧ ((N : Int) % 4 == 3) = false ∧ W = 1 ∨ ((M : Int) % 4 == 3) = false ∧ W = 1) := by
          by_cases c1 : (M : Int) % 4 = 3
          · by_cases c2 : (N : Int) % 4 = 3
            · exact ⟨-1, by rw [if_pos ⟨c1, c2⟩], .inl ⟨by simpa using c1, by simpa using c2, rfl⟩⟩
            · exact ⟨1, by rw [if_neg (fun h => c2 h.2)], .inr (.inl ⟨by simpa using c1, by simpa using c2, rfl⟩)⟩
          · exact ⟨1, by rw [if_neg (fun h => c1 h.1)], .inr (.inr ⟨by simpa using c1, rfl⟩)⟩
        obtain ⟨W, hW, hwc⟩ := hw
        have HRW : Hid (G = 1 → X * Y = W) := Lib.hid (fun h => by rw [HRB.out h, hW])
        clear hW
        by_cases hg1 : (1 : Int) < (G : Int)
        · have hX0 := HX0.out.2 (by omega)
          have hY0 := HY0.out.2 (by omega)
          subst hX0
          subst hY0
          rcases hwc with ⟨w1', w2', rfl⟩ | ⟨w1', w2', rfl⟩ | ⟨w1', rfl⟩
          all_goals
            go_wp2_with fail
            refine (gcd8_any M N v4 (by omega) (by omega)).mono ?_; rw [HG.out]; rintro e v5 ⟨rfl, hv5⟩
            go_wp2_with fail
            refine (awake_any _).mono ?_; rintro e w9 ⟨rfl, hb9⟩
            go_wp2_with fail
            go_ret
            exact ⟨rfl, bt (bt HBV.out hv5) hb9⟩
        · have hGe : G = 1 := by omega
          have hXY := HRW.out hGe
          have tG : ((G : Int) == 1) = true := by simp [hGe]
          clear hGe
          rcases hwc with ⟨w1', w2', rfl⟩ | ⟨w1', w2', rfl⟩ | ⟨w1', rfl⟩
          all_goals
            go_wp2_with fail
            refine (gcd8_any M N v4 (by omega) (by omega)).mono ?_; rw [HG.out]; rintro e v5 ⟨rfl, hv5⟩
            go_wp2_with fail
            refine (gcd8_any M N v5 (by omega) (by omega)).mono ?_; rw [HG.out]; rintro e v6 ⟨rfl, hv6⟩
            go_wp2_with fail
            refine (awake_any _).mono ?_; rintro e w9 ⟨rfl, hb9⟩
            go_wp2_with fail
            go_ret
            exact ⟨rfl, bt (bt (bt HBV.out hv5) hv6) hb9⟩
end Go.Proofs.Ytdombadhmaanfaa
