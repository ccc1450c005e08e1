/- The reference's fit: the walk. -/
import Derived.Test.YtmmgidhaakkaoaaRf1
import Derived.Test.YtmmgidhaakkaoaaRfP
namespace Go.Proofs.Ytmmgidhaakkaoaa
open Go Go.RowKit

theorem okF_snoc (F : List (Int × Int)) (p : Int × Int) (a m : Nat) : okF (F ++ [p]) a m = (okF F a m && !(((a : Int) - p.1) % ((Nat.gcd m p.2.toNat : Nat) : Int) == 0)) := by
  unfold okF
  rw [List.all_append]
  simp
/-- what is found, as a slice -/
def FRes (w' : World) (r : Option (List (Int × Int))) (A : Option Addr) (n c : Nat) : Prop := match r with
  | none => A = none ∧ n = 0 ∧ c = 0
  | some D => (∃ a, A = some a) ∧ n = D.length ∧ Row w' w'.heap.size A n D
/-- fit at some pairs -/
def RFt (b off l c : Nat) (M : List Nat) (M' : List Nat) : Prop :=
  ∀ (k : Nat) (F : List (Int × Int)) (A : Option Addr) (c' : Nat) (w : World), k = F.length → k ≤ l → k ≤ c' → c' ≤ 9223372036854775807 → M.drop k = M' → Row w w.heap.size A k F → (A = none → k = 0 ∧ c' = 0) → (∀ x ∈ F, 1 ≤ x.2 ∧ x.2 ≤ 12 ∧ 0 ≤ x.1 ∧ x.1 ≤ 12) → IRow w w.heap.size (some ⟨b, off, none⟩) l (nts M) →
    Calls Try.prog 61 #[.slice (some ⟨b, off, none⟩) l c, .slice A k c'] w fun e w' =>
      (∃ A2 n2 c2, e = .returned (.slice A2 n2 c2) ∧ FRes w' (srF M' F) A2 n2 c2) ∧ Below w.heap.size w w'

theorem rfit_nil (b off l c : Nat) (M : List Nat) (hl : l = M.length) (hl1 : 1 ≤ l) (hl7 : l ≤ 7) : RFt b off l c M [] := by
  intro k F A c' w hk hk2 hkc hc' hd hrow hA _ _
  have hkl : l ≤ k := by rw [hl]; exact List.drop_eq_nil_iff.1 hd
  obtain rfl : k = l := by omega
  obtain ⟨b1, off1, rfl, _⟩ := hrow.2 (by omega)
  have HRO := Lib.hid hrow
  have HK := Lib.hid hk
  have HS2 : Hid (srF [] F = some F) := Lib.hid (by rw [srF])
  have hkk : ((k : Int) == (k : Int)) = true := by simp
  clear hd hk hkl hl hrow hA
  go_enter Try.func61, Try.ntmps61
  go_wp2_with fail
  go_ret
  rw [HS2.out]
  exact ⟨⟨_, _, _, rfl, ⟨_, rfl⟩, HK.out, HRO.out⟩, Below.refl _ _⟩

set_option maxRecDepth 100000 in
set_option maxHeartbeats 20000000 in
theorem rfit_cons (b off l c : Nat) (M : List Nat) (m : Nat) (M' : List Nat) (hl : l = M.length) (hl7 : l ≤ 7) (hm : ∀ x ∈ M, 1 ≤ x ∧ x ≤ 12) (hlc : l ≤ c) (hc : c ≤ 9223372036854775807)
    (ih : RFt b off l c M M') : RFt b off l c M (m :: M') := by
  intro k F A c' w hk _ hkc hc' hd hrow hA hF hr
  have hkl : k < l := by
    rw [hl]
    apply Classical.byContradiction; intro hn
    rw [List.drop_eq_nil_iff.2 (by omega)] at hd
    cases hd
  have hmk : M[k]? = some m := by
    have : (M.drop k)[0]? = some m := by rw [hd]; rfl
    rwa [List.getElem?_drop, Nat.add_zero] at this
  have hd2 : M.drop (k + 1) = M' := by
    have : (M.drop k).drop 1 = M' := by rw [hd]; rfl
    rwa [List.drop_drop] at this
  have hm12 := hm m (List.mem_of_getElem? hmk)
  obtain ⟨hm1, hm2⟩ := hm12
  have HRO := Lib.hid hrow
  have HA := Lib.hid hA
  have HR := Lib.hid hr
  have HK := Lib.hid hk
  have HIH := Lib.hid ih
  have HMK0 := Lib.hid hmk
  have HD2 := Lib.hid hd2
  have HFB := Lib.hid hF
  have HMC : Hid (∀ w', Below w.heap.size w w' → b < w'.heap.size ∧ w'.cell? ⟨b, off + k, none⟩ = some (.int .i64 (m : Int))) := Lib.hid (fun w' hb => by
    obtain ⟨_, _, x1, hx1, hA1, hB1', g1⟩ := (hr.below hb).at_ hkl
    injection hA1 with hA1
    injection hA1 with hA1a hA2a
    subst hA1a hA2a
    obtain ⟨r, hr, rfl⟩ := nts_at hx1
    have h1 : M[k]? = some m := hmk
    rw [hr] at h1; injection h1 with h1
    subst h1
    exact ⟨Nat.lt_of_lt_of_le hB1' hb.size, g1⟩)
  obtain ⟨g, hg⟩ : ∃ g : Nat → Option (List (Int × Int)), (fun a : Nat => if okF F a m = true then srF M' (F ++ [((a : Int), (m : Int))]) else none) = g := ⟨_, rfl⟩
  have HS2 : Hid (srF (m :: M') F = fst' m g) := Lib.hid (by rw [srF, hg])
  have HGA : Hid (∀ a, g a = if okF F a m = true then srF M' (F ++ [((a : Int), (m : Int))]) else none) := Lib.hid (fun a => by rw [← hg])
  have HTL : Hid (∀ j, j = k → F.take j = F) := Lib.hid (fun j hj => List.take_of_length_le (by omega))
  have hki : ((k : Int) == (l : Int)) = false := by rw [beq_eq_false_iff_ne]; omega
  have hkil : (k : Int) < (l : Int) := by omega
  have hkle : (k : Int) ≤ (l : Int) := by omega
  have hk0 : (0 : Int) ≤ (k : Int) := by omega
  have hneq : ¬ k = l := by omega
  have hlci : (l : Int) ≤ (c : Int) := by omega
  have hkci : (k : Int) ≤ (c : Int) := by omega
  have hkc2 : (k : Int) ≤ (c' : Int) := by omega
  have g0 := (HMC.out w (Below.refl _ _)).2
  clear hr hk ih hd hd2 hmk hm hl hrow hA hF hg
  obtain ⟨i0, hi, hz0, hz1, hz2⟩ := info_parts infoP
  go_enter Try.func61, Try.ntmps61
  go_wp2_with fail
  go_loopw [22] (fun z wr => ∃ a : Nat, a ≤ m ∧ z = .int .i64 (a : Int) ∧ Hid (fst' a g = none) ∧ Hid (Below w.heap.size w wr)) (fun z _ => m - (intOf z).toNat)
  case atStart => exact ⟨0, by omega, rfl, Lib.hid rfl, Lib.hid (Below.refl _ _)⟩
  case round =>
    obtain ⟨a, ha, rfl, hno, hbw⟩ := hrel
    obtain ⟨w1, rfl⟩ : ∃ w1, w1 = wr := ⟨_, rfl⟩
    clear g0
    by_cases hlt2 : a < m
    · have hlti : (a : Int) < (m : Int) := by omega
      have ha0 : (0 : Int) ≤ (a : Int) := by omega
      go_wp2_with fail
      go_loopw [7, 27] (fun o z wr => ∃ j : Nat, ∃ ob : Bool, j ≤ k ∧ Hid (okF (F.take j) a m = ob) ∧ o = .bool ob ∧ z = .int .i64 (j : Int) ∧ Hid (Below w.heap.size w wr)) (fun _ z _ => k - (intOf z).toNat)
      case atStart => exact ⟨0, true, by omega, Lib.hid rfl, rfl, rfl, hbw⟩
      case round =>
        obtain ⟨j, ob, hj, hok, rfl, rfl, hbq⟩ := hrel
        obtain ⟨w2, rfl⟩ : ∃ w2, w2 = wr := ⟨_, rfl⟩
        by_cases hlt3 : j < k
        · as_aux_lemma =>
            have hlt3i : (j : Int) < (k : Int) := by omega
            obtain ⟨b3, off3, x, X, hx, rfl, hB3, c1, c2⟩ := (HRO.out.below hbq.out).at_ hlt3
            obtain ⟨x1, x2, x3, x4⟩ := HFB.out _ (List.mem_of_getElem? hx)
            simp only at x1 x2 x3 x4
            obtain ⟨Y, rfl⟩ : ∃ Y : Nat, X = Y := ⟨X.toNat, by omega⟩
            obtain ⟨gd, hgd⟩ : ∃ gd, Nat.gcd m Y = gd := ⟨_, rfl⟩
            have hg0 : 0 < gd := by rw [← hgd]; exact Nat.gcd_pos_of_pos_left _ (by omega)
            have hg1 : gd ≤ 12 := by rw [← hgd]; exact Nat.le_trans (Nat.gcd_le_left _ (by omega)) hm2
            have HGC : Hid (∀ wz, Calls Try.prog 55 #[.int .i64 (m : Int), .int .i64 (Y : Int)] wz fun e w' => e = .returned (.int .i64 (gd : Int)) ∧ ∃ k, w' = wz.drewN k) := Lib.hid (fun wz => by
              have := rgcd_any m Y wz (by omega) (by omega)
              rwa [hgd] at this)
            obtain ⟨t, ht⟩ : ∃ t, ((a : Int) - x).tmod (gd : Int) = t := ⟨_, rfl⟩
            have ht1 : -12 ≤ t ∧ t ≤ 12 := by
              have := Int.natAbs_tmod ((a : Int) - x) (gd : Int)
              rw [ht] at this
              have h2 : ((a : Int) - x).natAbs % ((gd : Int)).natAbs < ((gd : Int)).natAbs := Nat.mod_lt _ (by omega)
              omega
            have HOK : Hid (okF (F.take (j + 1)) a m = (ob && !(t == 0))) := Lib.hid (by
              rw [take_at hx, okF_snoc, hok.out]
              show (ob && !(((a : Int) - x) % ((Nat.gcd m ((Y : Int)).toNat : Nat) : Int) == 0)) = _
              rw [Int.toNat_natCast, hgd, ← tmod_zero, ht])
            obtain ⟨t0, t1⟩ := ht1
            have hgz : ((gd : Int) == 0) = false := by rw [beq_eq_false_iff_ne]; omega
            have hgz2 : ¬ gd = 0 := by omega
            have g1 := (HMC.out (w2.alloc (Obj.cells #[.int .i64 x, .int .i64 (Y : Int)] 29)) (hbq.out.alloc hbq.out.size _)).2
            have HBN : Hid (∀ n, Below w.heap.size w ((w2.alloc (Obj.cells #[.int .i64 x, .int .i64 (Y : Int)] 29)).drewN n)) := Lib.hid (fun n => ibN (hbq.out.alloc hbq.out.size _) n)
            clear hx hgd
            cases ob with
            | true =>
              by_cases htz : t = 0
              · have HOK2 : Hid (okF (F.take (j + 1)) a m = false) := Lib.hid (by rw [HOK.out, htz]; rfl)
                subst htz
                go_wp2_with fail
                go_quiet ((go_at_call 55; refine Calls.quiet_of (HGC.out _)))
                go_wp2_with fail
                go_roundw
                case rel => exact ⟨j + 1, false, by omega, HOK2, rfl, by go_num, Lib.hid (HBN.out _)⟩
                case measure => simp [intOf]; omega
              · have htb : (t == 0) = false := beq_eq_false_iff_ne.2 htz
                have HOK2 : Hid (okF (F.take (j + 1)) a m = true) := Lib.hid (by rw [HOK.out, htb]; rfl)
                go_wp2_with fail
                go_quiet ((go_at_call 55; refine Calls.quiet_of (HGC.out _)))
                go_wp2_with fail
                go_roundw
                case rel => exact ⟨j + 1, true, by omega, HOK2, by rw [bne, htb]; rfl, by go_num, Lib.hid (HBN.out _)⟩
                case measure => simp [intOf]; omega
            | false =>
              have HOK2 : Hid (okF (F.take (j + 1)) a m = false) := Lib.hid (by rw [HOK.out]; rfl)
              go_wp2_with fail
              go_quiet (fail)
              go_wp2_with fail
              go_roundw
              case rel => exact ⟨j + 1, false, by omega, HOK2, rfl, by go_num, Lib.hid (HBN.out _)⟩
              case measure => simp [intOf]; omega
        · have hjk : j = k := by omega
          have hge3 : (k : Int) ≤ (j : Int) := by omega
          have HOF : Hid (okF F a m = ob) := Lib.hid (by have := hok.out; rwa [HTL.out j hjk] at this)
          cases ob with
          | false => as_aux_lemma =>
            have HGC : Hid (g a = none) := Lib.hid (by rw [HGA.out, HOF.out]; rfl)
            go_wp2_with fail
            go_roundw
            case rel => exact ⟨a + 1, by omega, by go_num, Lib.hid (fst_next' hno.out HGC.out), hbq⟩
            case measure => simp [intOf]; omega
          | true =>
          obtain ⟨F1, hF1⟩ : ∃ F1, F ++ [((a : Int), (m : Int))] = F1 := ⟨_, rfl⟩
          have HF1 := Lib.hid hF1
          have HL1 : Hid (F1.length = k + 1) := Lib.hid (by rw [← hF1, List.length_append, HK.out]; rfl)
          have HFL : Hid (flat F1 = flat F ++ [.int .i64 (a : Int), .int .i64 (m : Int)]) := Lib.hid (by rw [← hF1, flat_append]; rfl)
          have HFB1 : Hid (∀ x ∈ F1, 1 ≤ x.2 ∧ x.2 ≤ 12 ∧ 0 ≤ x.1 ∧ x.1 ≤ 12) := Lib.hid (fun x hx => by
            rw [← hF1] at hx
            rcases List.mem_append.1 hx with hx | hx
            · exact HFB.out x hx
            · rw [List.mem_singleton] at hx
              subst hx
              show (1 : Int) ≤ (m : Int) ∧ (m : Int) ≤ 12 ∧ (0 : Int) ≤ (a : Int) ∧ (a : Int) ≤ 12
              omega)
          obtain ⟨r, hr⟩ : ∃ r, srF M' F1 = r := ⟨_, rfl⟩
          have HRS := Lib.hid hr
          have HGC : Hid (g a = r) := Lib.hid (by rw [HGA.out, HOF.out, if_pos rfl, hF1, hr])
          clear hF1 hr
          have g1 := (HMC.out w2 hbq.out).2
          have HRO2 := Lib.hid (HRO.out.below hbq.out)
          have hs2 := hbq.out.size
          have HCH : Hid (∀ w4 gg cap, Below w2.heap.size w2 w4 → w4.ownsRow w2.heap.size 29 2 (.slice (some ⟨gg, 0, none⟩) (k + 1) cap) (k + 1) (flat F ++ [.int .i64 (a : Int), .int .i64 (m : Int)]) →
              Calls Try.prog 61 #[.slice (some ⟨b, off, none⟩) l c, .slice (some ⟨gg, 0, none⟩) (k + 1) cap] w4 fun e w' =>
                (∃ A2 n2 c2, e = .returned (.slice A2 n2 c2) ∧ FRes w' r A2 n2 c2) ∧ Below w.heap.size w w') := Lib.hid (fun w4 gg cap hb4 ho4 => by
            have hgl := own_ge ho4 (g := gg) rfl
            have hcp := own_cap2 ho4
            rw [← HFL.out] at ho4
            have hbb : Below w.heap.size w w4 := hbq.out.trans (hb4.mono hs2)
            have h5 := HIH.out (k + 1) F1 (some ⟨gg, 0, none⟩) cap w4 HL1.out.symm (by omega) hcp.1 (by have := hcp.2; unfold maxLen at this; exact this) HD2.out
              (Row.of_own ho4) (fun h => by cases h) HFB1.out (HR.out.next hbb)
            rw [HRS.out] at h5
            exact h5.mono (fun e w' h6 => ⟨h6.1, ibt hbb h6.2⟩))
          have HBX : Hid (Below w2.heap.size w2 ((w2.alloc (Obj.cells #[.int .i64 (a : Int), .int .i64 (m : Int)] 29)).drew)) := Lib.hid ((Below.refl _ _).alloc (Nat.le_refl _) _).drew
          have HFC : Hid (∀ b', A = some b' → ∀ j u, (flat F)[j]? = some u → ((w2.alloc (Obj.cells #[.int .i64 (a : Int), .int .i64 (m : Int)] 29)).drew).cell? (b'.add j) = some u) := Lib.hid (fun b' hb' => by
            have h7 := (HRO2.out.more hs2).below HBX.out
            have hlen := h7.1
            intro j u hu
            have hj := (List.getElem?_eq_some_iff.1 hu).1
            rw [flat_len] at hj
            obtain ⟨b2, off2, e2, _⟩ := h7.2 (by omega)
            rw [hb'] at e2
            injection e2 with e2
            subst e2
            rw [hb'] at h7
            exact h7.flat j u hu)
          have HFN : Hid ((flat F).length = k * 2) := Lib.hid (by rw [flat_len, HK.out])
          have HAN : Hid (A = none → k = 0 ∧ k = 0) := Lib.hid (fun h => ⟨(HA.out h).1, (HA.out h).1⟩)
          have HNE : Hid (∀ j u, ([Value.int .i64 (a : Int), .int .i64 (m : Int)] : List Value)[j]? = some u → ((w2.alloc (Obj.cells #[.int .i64 (a : Int), .int .i64 (m : Int)] 29)).drew).cell? ((⟨w2.heap.size, 0, none⟩ : Addr).add j) = some u) := Lib.hid (flat_news (w := w2.alloc (Obj.cells #[.int .i64 (a : Int), .int .i64 (m : Int)] 29)) (w0 := w2) rfl rfl)
          have H1 : Hid (∀ u ∈ ([Value.int .i64 (a : Int), .int .i64 (m : Int)] : List Value), u.oneCell' = true) := Lib.hid two_one
          have H3 : Hid (k + 1 ≤ maxLen) := Lib.hid (by unfold maxLen; omega)
          have H4 : Hid ((k + 1) * 16 ≤ 140737488355328) := Lib.hid (by omega)
          clear hjk
          go_upto_region 14 with fail
          go_cut [10] (fun v10 wx => ∃ A2 n2 c2, v10 = .slice A2 n2 c2 ∧ Hid (FRes wx r A2 n2 c2) ∧ Hid (Below w.heap.size w wx))
          case first =>
            go_region_law
              (first
              | ((fail_if_success (have := HB4)); refine step_append_grows (by rfl) _ _ _ (by rfl) 29 i0 _ 2 16 Try.underlying22 hi hz0 hz1 hz2 rfl (by omega) A k k (flat F) (by rfl) HAN.out HFN.out HFC.out ⟨w2.heap.size, 0, none⟩ 1 1 [.int .i64 (a : Int), .int .i64 (m : Int)] (by rfl) (by rfl) HNE.out H1.out (by omega) H3.out H4.out ?_; intro v' w4 hown' hgrow; obtain ⟨gg, cap, rfl, hg1, hg2⟩ := hown'.form (by omega); have HO4 := Lib.hid (own_low hown' HBX.out.size); have HB4 : Hid (Below w2.heap.size w2 w4) := Lib.hid (HBX.out.trans ⟨hgrow.os, hgrow.tape, hgrow.output, hgrow.size, fun j hj => hgrow.block j (Nat.lt_of_lt_of_le hj HBX.out.size) (by simp)⟩); clear hown' hgrow hg1 hg2)
              | (go_simp; go_at_call 61; refine (HCH.out _ _ _ HB4.out HO4.out).mono ?_; rintro e w5 ⟨⟨A2, n2, c2, rfl, hr5⟩, hb5⟩; have HR5 := Lib.hid hr5; have HB5 := Lib.hid hb5; clear hr5 hb5))
            all_goals
              go_wp2_with fail
              go_meet
              exact ⟨A2, n2, c2, rfl, HR5, HB5⟩
          case rest =>
          obtain ⟨A2, n2, c2, rfl, hr5, hb5⟩ := hcut
          clear g1
          cases r with
          | none => as_aux_lemma =>
            obtain ⟨rfl, rfl, rfl⟩ : A2 = none ∧ n2 = 0 ∧ c2 = 0 := hr5.out
            go_wp2_with fail
            go_roundw
            case rel => exact ⟨a + 1, by omega, by go_num, Lib.hid (fst_next' hno.out HGC.out), hb5⟩
            case measure => simp [intOf]; omega
          | some D => as_aux_lemma =>
            have HS3 : Hid (srF (m :: M') F = some D) := Lib.hid (by rw [HS2.out]; exact fst_found' hno.out HGC.out m hlt2)
            obtain ⟨a5, rfl⟩ : ∃ a, A2 = some a := hr5.out.1
            go_wp2_with fail
            go_ret
            rw [HS3.out]
            exact ⟨⟨_, _, _, rfl, hr5.out⟩, hb5.out⟩
    · as_aux_lemma =>
        have ham : a = m := by omega
        subst ham
        have HS3 : Hid (srF (a :: M') F = none) := Lib.hid (by rw [HS2.out, hno.out])
        go_wp2_with fail
        go_ret
        rw [HS3.out]
        exact ⟨⟨_, _, _, rfl, rfl, rfl, rfl⟩, hbw.out⟩

theorem rfit_any (b off l c : Nat) (M : List Nat) (hl : l = M.length) (hl1 : 1 ≤ l) (hl7 : l ≤ 7) (hm : ∀ x ∈ M, 1 ≤ x ∧ x ≤ 12) (hlc : l ≤ c) (hc : c ≤ 9223372036854775807) : ∀ M', RFt b off l c M M'
  | [] => rfit_nil b off l c M hl hl1 hl7
  | m :: M' => rfit_cons b off l c M m M' hl hl7 hm hlc hc (rfit_any b off l c M hl hl1 hl7 hm hlc hc M')
end Go.Proofs.Ytmmgidhaakkaoaa
