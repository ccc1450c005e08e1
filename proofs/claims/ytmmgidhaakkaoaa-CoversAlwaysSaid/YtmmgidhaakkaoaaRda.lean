/- The reference's Days and Always. -/
import Derived.Test.YtmmgidhaakkaoaaDa
namespace Go.Proofs.Ytmmgidhaakkaoaa
open Go Go.RowKit GhN

theorem kx_step {k i p u v : Nat} (hu : k * 2 ^ i % p = u) (hv : 2 * u % p = v) : k * 2 ^ (i + 1) % p = v := by
  rw [Nat.pow_succ, ← Nat.mul_assoc, Nat.mul_mod, hu, ← hv, Nat.mul_mod_mod, Nat.mul_comm]
theorem kx_test {k i p v : Nat} (hv : k * 2 ^ i % p = v) : (v + 1) % p = (k * 2 ^ i + 1) % p := by
  rw [← hv, Nat.mod_add_mod]

theorem dyF_hit {k p j f : Nat} (h0 : dyF k p j 1 = none) (h : (k * 2 ^ (j + 1) + 1) % p = 0) (hf : j + 1 ≤ f) : dyF k p f 1 = some (j + 1) := by
  cases e : dyF k p f 1 with
  | none => exact absurd h (dyF_none e (j + 1) (by omega) (by omega))
  | some m =>
    obtain ⟨h1, h2, h3, h4⟩ := dyF_some e
    rcases Nat.lt_trichotomy m (j + 1) with h5 | h5 | h5
    · exact absurd h3 (dyF_none h0 m h1 (by omega))
    · rw [h5]
    · exact absurd h (h4 (j + 1) (by omega) h5)

set_option maxRecDepth 100000 in
set_option maxHeartbeats 2000000 in
theorem rdays_any (K : Nat) (A : Option Addr) (l c : Nat) (L : List Int) (w : World) (h : IRow w w.heap.size A l L) (hok : allOk L = true) (hl8 : l ≤ 8) (hK : K ≤ 1000000) :
    Calls Try.prog 38 #[.int .i64 (K : Int), .slice A l c] w (GivesPE w (if dOk K L = true then dL K L else []) (if dOk K L = true then 0 else 6)) := by
  have HR := Lib.hid h
  have HL := Lib.hid h.1
  have HOK := Lib.hid hok
  have HYES : Hid (dOk K L = true → (if dOk K L = true then dL K L else []) = dL K L ∧ (if dOk K L = true then (0 : Int) else 6) = 0) := Lib.hid (fun h => by rw [if_pos h, if_pos h]; exact ⟨rfl, rfl⟩)
  have HNOT : Hid (dOk K L = false → (if dOk K L = true then dL K L else []) = [] ∧ (if dOk K L = true then (0 : Int) else 6) = 6) := Lib.hid (fun h => by rw [h]; exact ⟨rfl, rfl⟩)
  obtain ⟨DD, hDD⟩ : ∃ DD, (if dOk K L = true then dL K L else []) = DD := ⟨_, rfl⟩
  obtain ⟨EE, hEE⟩ : ∃ EE, (if dOk K L = true then (0 : Int) else 6) = EE := ⟨_, rfl⟩
  rw [hDD, hEE] at HYES HNOT ⊢
  clear h hok hDD hEE
  obtain ⟨i0, hi, hz0, hz1, hz2⟩ := info_parts infoP
  go_enter Try.func38, Try.ntmps38
  go_wp2_with fail
  go_loopw [6, 14] (fun v x wr => ∃ k : Nat, k ≤ l ∧ Hid (PRel 29 w (dL K (L.take k)) v wr) ∧ Hid (∀ q ∈ dL K (L.take k), q.2 ≤ 60) ∧ x = .int .i64 (k : Int)) (fun _ x _ => l - (intOf x).toNat)
  case atStart => exact ⟨0, by omega, Lib.hid ⟨World.ownsRow_nil .., Below.refl _ _⟩, Lib.hid (fun p hp => by simp [dL, dys] at hp), rfl⟩
  case round =>
    obtain ⟨k, hk, hrl, hq60, rfl⟩ := hrel
    by_cases hlt : k < l
    · obtain ⟨b, off, p, hx, rfl, hB, g1⟩ := (HR.out.below hrl.out.2).at_ hlt
      obtain ⟨p3, p300, ppr, podd⟩ := ok_prime HOK.out hx
      obtain ⟨P, rfl⟩ : ∃ P : Nat, p = P := ⟨p.toNat, by omega⟩
      rw [Int.toNat_natCast] at ppr podd
      have HSN := Lib.hid (dL_snoc (K := K) hx)
      have ho := (ordF_spec ppr podd).1
      have ho2 := (ordF_spec ppr podd).2
      obtain ⟨t, ht⟩ : ∃ t, ordF P = t := ⟨_, rfl⟩
      have HTT := Lib.hid ht
      rw [ht] at ho ho2
      have ht1 : 1 ≤ t := ho.1
      have HO := Lib.hid ho
      have hki : (k : Int) < (l : Int) := by omega
      have hP3 : 3 ≤ P := by omega
      have hP300 : P < 300 := by omega
      have h2P : (2 : Int) % (P : Int) = 2 := Int.emod_eq_of_lt (by decide) (by omega)
      have hPi : ¬ ((P : Int) = 0) := by omega
      clear hx ppr podd ht ho
      go_wp2_with fail
      go_quiet (fail)
      have HPR : Hid (PRel 29 w (dL K (L.take k)) u6 (wr.drewN nq)) := Lib.hid (hrl.out.below ⟨rfl, rfl, rfl, Nat.le_refl _, fun _ _ => rfl⟩)
      go_wp2_with fail
      obtain ⟨wn, hwn⟩ : ∃ wn, wr.drewN nq = wn := ⟨_, rfl⟩
      rw [hwn] at HPR ⊢
      clear hwn h2P
      have HU1 : Hid (2 ^ 1 % P = 2) := Lib.hid (Nat.mod_eq_of_lt (by omega))
      go_loopw [9, 10] (fun e x wr2 => ∃ i u : Nat, 1 ≤ i ∧ i ≤ t ∧ u < P ∧ Hid (2 ^ i % P = u) ∧ e = .int .i64 (i : Int) ∧ x = .int .i64 (u : Int) ∧ wr2 = wn) (fun e _ _ => t - (intOf e).toNat)
      case atStart => exact ⟨1, 2, by omega, by omega, by omega, HU1, rfl, (by rw [show (2 : Int) % (P : Int) = 2 from Int.emod_eq_of_lt (by decide) (by omega)]; rfl), rfl⟩
      case round =>
        obtain ⟨i, u, hi1, hit, huP, hu, rfl, rfl, rfl⟩ := hrel
        by_cases hu1 : u = 1
        case neg =>
          have hit2 : i < t := by
            rcases Nat.lt_or_eq_of_le hit with h | h
            · exact h
            · exfalso
              have h5 := HO.out.2.1
              rw [← h, hu.out] at h5
              exact hu1 h5
          have t1 : ((u : Int) != 1) = true := by simp; omega
          obtain ⟨v, hv⟩ : ∃ v, 2 * u % P = v := ⟨_, rfl⟩
          have hvP : v < P := by rw [← hv]; exact Nat.mod_lt _ (by omega)
          have ev : 2 * (u : Int) % (P : Int) = (v : Int) := by rw [← hv, Int.natCast_emod]; rfl
          have HV : Hid (2 ^ (i + 1) % P = v) := Lib.hid (by rw [Nat.pow_succ, Nat.mul_mod, hu.out, ← hv, Nat.mul_mod_mod, Nat.mul_comm])
          clear hu1 hv
          go_wp2_with fail
          go_roundw
          case rel => exact ⟨i + 1, v, by omega, by omega, hvP, HV, by go_num, by first | rfl | rw [ev], by first | rfl | trivial⟩
          case measure => simp [intOf]; omega
        case pos =>
          have hit2 : i = t := by
            rcases Nat.lt_or_eq_of_le hit with h | h
            · exfalso
              exact HO.out.2.2 i hi1 h (by rw [hu.out, hu1])
            · exact h
          subst hu1
          subst hit2
          obtain ⟨y, hy⟩ : ∃ y, K % P = y := ⟨_, rfl⟩
          have hyP : y < P := by rw [← hy]; exact Nat.mod_lt _ (by omega)
          have ey : (K : Int) % (P : Int) = (y : Int) := by rw [← hy, Int.natCast_emod]
          have HY : Hid (K * 2 ^ 0 % P = y) := Lib.hid (by rw [Nat.pow_zero, Nat.mul_one, hy])
          have hti : (1 : Int) ≤ (i : Int) := by omega
          clear hy hu HU1
          go_wp2_with fail
          go_loopw [6, 10, 11] (fun o x n wr2 => ∃ j u : Nat, o = u6 ∧ j ≤ i ∧ u < P ∧ Hid (K * 2 ^ j % P = u) ∧ Hid (dyF K P j 1 = none) ∧ x = .int .i64 (u : Int) ∧ n = .int .i64 ((j : Int) + 1) ∧ wr2 = wr) (fun _ _ n _ => i + 1 - (intOf n).toNat)
          case atStart => exact ⟨0, y, rfl, by omega, hyP, HY, Lib.hid rfl, by first | rfl | rw [ey], rfl, rfl⟩
          case round =>
            obtain ⟨j, u, rfl, hji, huP, hu, hn, rfl, rfl, rfl⟩ := hrel
            by_cases hjl : j < i
            case neg =>
              have hj : j = i := by omega
              subst hj
              have HN : Hid (dL K (L.take (k + 1)) = dL K (L.take k)) := Lib.hid (by
                rw [HSN.out, dyP_none (by rw [HTT.out]; exact hn.out)]; simp)
              have HN2 : Hid (PRel 29 w (dL K (L.take (k + 1))) u6 wr) := Lib.hid (by rw [HN.out]; exact HPR.out)
              have HQ2 : Hid (∀ q ∈ dL K (L.take (k + 1)), q.2 ≤ 60) := Lib.hid (by rw [HN.out]; exact hq60.out)
              go_wp2_with fail
              go_roundw
              case rel => exact ⟨k + 1, by omega, HN2, HQ2, by go_num⟩
              case measure => simp [intOf]; omega
            case pos =>
              obtain ⟨v, hv⟩ : ∃ v, 2 * u % P = v := ⟨_, rfl⟩
              have hvP : v < P := by rw [← hv]; exact Nat.mod_lt _ (by omega)
              have ev : 2 * (u : Int) % (P : Int) = (v : Int) := by rw [← hv, Int.natCast_emod]; rfl
              have HV : Hid (K * 2 ^ (j + 1) % P = v) := Lib.hid (kx_step hu.out hv)
              have e1 : ((v : Int) + 1) % (P : Int) = (((K * 2 ^ (j + 1) + 1) % P : Nat) : Int) := by rw [← kx_test HV.out, Int.natCast_emod]; rfl
              have hjli : (j : Int) + 1 ≤ (i : Int) := by omega
              by_cases hh : (K * 2 ^ (j + 1) + 1) % P = 0
              case neg =>
                have t1 : (((v : Int) + 1) % (P : Int) == 0) = false := by rw [e1]; exact beq_eq_false_iff_ne.2 (fun e => hh (Int.ofNat.inj e))
                have HN : Hid (dyF K P (j + 1) 1 = none) := Lib.hid (by rw [dyF_snoc, hn.out]; simp only [Nat.add_comm 1 j, if_neg hh])
                clear hv e1 hh
                go_wp2_with fail
                go_roundw
                case rel => exact ⟨j + 1, v, by first | rfl | trivial, by omega, hvP, HV, HN, by first | rfl | rw [ev], by go_num, trivial⟩
                case measure => simp [intOf]; omega
              case pos =>
                have t1 : (((v : Int) + 1) % (P : Int) == 0) = true := by rw [e1, hh]; rfl
                have HSM : Hid (dL K (L.take (k + 1)) = dL K (L.take k) ++ [((((j + 1) % i : Nat) : Int), (i : Int))]) := Lib.hid (by
                  rw [HSN.out, dyP_some (by rw [HTT.out]; exact dyF_hit hn.out hh (by omega)), HTT.out]; rfl)
                obtain ⟨X, hX⟩ : ∃ X, (j + 1) % i = X := ⟨_, rfl⟩
                have eX : ((j : Int) + 1) % (i : Int) = (X : Int) := by rw [← hX, Int.natCast_emod]; rfl
                rw [hX] at HSM
                have hii : ¬ ((i : Int) = 0) := by omega
                clear hv e1 hh hX
                by_cases h60 : i ≤ 60
                case neg =>
                  have HNO : Hid (dOk K L = false) := Lib.hid (dOk_no (fun hh => by
                    have := hh.1 ((X : Int), (i : Int)) (dL_take (k := k + 1) (by rw [HSM.out]; simp))
                    simp at this; omega))
                  have h60i : (60 : Int) < (i : Int) := by omega
                  obtain ⟨d1, d2⟩ := HNOT.out HNO.out
                  subst d1
                  subst d2
                  clear h60
                  go_wp2_with fail
                  go_ret2
                  exact ⟨none, 0, 0, rfl, row_nil, fun _ => rfl, HPR.out.2⟩
                case pos =>
                  have h60i : (i : Int) ≤ 60 := by omega
                  have hbs : (dL K (L.take k)).length ≤ 8 := Nat.le_trans (dL_len _ _) (by rw [List.length_take]; omega)
                  have hown : (wr.alloc (Obj.cells #[.int .i64 (X : Int), .int .i64 (i : Int)] 29)).ownsRow w.heap.size 29 2 u6 (dL K (L.take k)).length (flat (dL K (L.take k))) := HPR.out.1.alloc _
                  have HOW := Lib.hid hown
                  have HNE := Lib.hid (flat_news (w := wr.alloc (Obj.cells #[.int .i64 (X : Int), .int .i64 (i : Int)] 29)) (x := (X : Int)) (m := (i : Int)) (g := wr.heap.size) rfl rfl)
                  have H1 := Lib.hid (two_one (x := (X : Int)) (m := (i : Int)))
                  have H3 : Hid ((dL K (L.take k)).length + 1 ≤ maxLen) := Lib.hid (by unfold maxLen; omega)
                  have H4 : Hid (((dL K (L.take k)).length + 1) * 16 ≤ 140737488355328) := Lib.hid (by omega)
                  have H5 : Hid (w.heap.size ≤ (wr.alloc (Obj.cells #[.int .i64 (X : Int), .int .i64 (i : Int)] 29)).heap.size) := Lib.hid (by have := HPR.out.2.size; simp; omega)
                  clear hown hbs
                  go_wp2_with (at_builtin; refine wpList_append_own _ rfl _ _ 22 rfl w.heap.size 29 i0 (.agg #[.int .i64 0, .int .i64 0]) 2 16 Try.underlying22 hi hz0 hz1 hz2 rfl (by decide) _ (dL K (L.take k)).length (flat (dL K (L.take k))) rfl HOW.out ⟨wr.heap.size, 0, none⟩ 1 1 [.int .i64 (X : Int), .int .i64 (i : Int)] rfl rfl HNE.out H1.out H3.out H4.out H5.out ?_; intro v' w3 hown' hgrow _)
                  have hab : Below wr.heap.size wr (wr.alloc (Obj.cells #[.int .i64 (X : Int), .int .i64 (i : Int)] 29)) := (Below.refl _ _).alloc (Nat.le_refl _) _
                  have HN2 : Hid (PRel 29 w (dL K (L.take (k + 1))) v' w3) := Lib.hid (by
                    rw [HSM.out]
                    exact HPR.out.next hab hown' hgrow)
                  have HQ2 : Hid (∀ q ∈ dL K (L.take (k + 1)), q.2 ≤ 60) := Lib.hid (by
                    rw [HSM.out]
                    intro q hq
                    rw [List.mem_append] at hq
                    rcases hq with hq | hq
                    · exact hq60.out q hq
                    · simp at hq; subst hq; exact h60i)
                  clear hown' hgrow hab
                  go_wp2_with fail
                  go_roundw
                  case rel => exact ⟨k + 1, by omega, HN2, HQ2, by go_num⟩
                  case measure => simp [intOf]; omega
    · have hkl : k = l := by omega
      subst hkl
      have hT : L.take k = L := List.take_of_length_le (by rw [← HL.out]; omega)
      rw [hT] at hrl hq60
      obtain ⟨A', c', rfl, hrow, hA'⟩ := hrl.out.form
      have HRW := Lib.hid hrow
      have HA' := Lib.hid hA'
      have hD8 : (dL K L).length ≤ 8 := Nat.le_trans (dL_len _ _) (by rw [← HL.out]; omega)
      have hform := dL_form (K := K) HOK.out
      have HW64 : Hid (∀ p ∈ dL K L, -9223372036854775808 ≤ p.1 ∧ p.1 ≤ 9223372036854775807 ∧ -9223372036854775808 ≤ p.2 ∧ p.2 ≤ 9223372036854775807) := Lib.hid (fun q hq => by
        have h1 := hform q hq
        have h2 := hq60.out q hq
        omega)
      have HMO : Hid (Mods (dL K L)) := Lib.hid (fun q hq => ⟨(hform q hq).2.2, hq60.out q hq⟩)
      clear hT hrow hA' hform
      obtain ⟨q, hq⟩ : ∃ q, dOk K L = q := ⟨_, rfl⟩
      have HQ := Lib.hid hq
      clear hq
      go_wp2_with fail
      refine (rwhole_any A' _ c' (dL K L) wr HRW.out HW64.out (by omega)).mono ?_
      rintro e w1 ⟨rfl, hb1⟩
      have HB1 := Lib.hid (bt hrl.out.2 hb1)
      have HR1 := Lib.hid ((HRW.out.below hb1).more hb1.size)
      clear hb1
      cases q with
      | true =>
        obtain ⟨d1, d2⟩ := HYES.out HQ.out
        have hne : ¬ whR (dL K L) 1 = 0 := fun e => (whR_zero.1 e) ⟨HMO.out, (dOk_yes HQ.out).2⟩
        have t1 : (((whR (dL K L) 1 : Nat) : Int) == 0) = false := by simp; omega
        subst d1
        subst d2
        clear hne
        go_wp2_with fail
        go_ret2
        exact ⟨A', _, c', rfl, HR1.out, HA'.out, HB1.out⟩
      | false =>
        obtain ⟨d1, d2⟩ := HNOT.out HQ.out
        have h0 : whR (dL K L) 1 = 0 := whR_zero.2 (fun hh => by
          have := dOk_mk (K := K) (L := L) ⟨hq60.out, hh.2⟩
          rw [HQ.out] at this; cases this)
        rw [h0]
        subst d1
        subst d2
        clear h0
        go_wp2_with fail
        go_ret2
        exact ⟨none, 0, 0, rfl, row_nil, fun _ => rfl, HB1.out⟩
end Go.Proofs.Ytmmgidhaakkaoaa
