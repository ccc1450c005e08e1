/- CoversAlways: the plain law, and the walk. -/
import Derived.Test.YtmmgidhaakkaoaaCd
import Derived.Test.YtmmgidhaakkaoaaCvL
namespace Go.Proofs.Ytmmgidhaakkaoaa
open Go Go.RowKit GhN GhC

/-- one of the primes divides -/
def soUp (L : List Int) (K i j : Nat) : Bool := (L.take j).any (fun p => (K * 2 ^ i + 1) % p.toNat == 0)
theorem soUp_succ {L : List Int} {K i j : Nat} {p : Int} (h : L[j]? = some p) : soUp L K i (j + 1) = (soUp L K i j || ((K * 2 ^ i + 1) % p.toNat == 0)) := by
  unfold soUp
  obtain ⟨h1, e1⟩ := List.getElem?_eq_some_iff.1 h
  rw [List.take_succ_eq_append_getElem h1, e1, List.any_append]; simp
theorem cov_day {K p m i : Nat} (ht : 1 ≤ ordF p) : cov (((m % ordF p : Nat) : Int), ((ordF p : Nat) : Int)) (i : Int) = true ↔ i % ordF p = m % ordF p := by
  unfold cov
  rw [beq_iff_eq]
  simp only
  have e : ((i : Int) - ((m % ordF p : Nat) : Int)) % ((ordF p : Nat) : Int) = 0 ↔ (i : Int) % ((ordF p : Nat) : Int) = ((m % ordF p : Nat) : Int) % ((ordF p : Nat) : Int) := (Int.emod_eq_emod_iff_emod_sub_eq_zero).symm
  rw [e, ← Int.natCast_emod, ← Int.natCast_emod, Nat.mod_mod]
  omega
theorem day_cov {K i : Nat} {P : Nat} (hp : Pr P) (h2 : P % 2 = 1) : ((K * 2 ^ i + 1) % P = 0) ↔ ∃ q, dyP K P = some q ∧ cov q (i : Int) = true := by
  have ho := (ordF_spec hp h2).1
  rw [day_iff hp h2 ho i]
  constructor
  · rintro ⟨m, hm, e⟩
    exact ⟨_, dyP_some hm, (cov_day (K := K) ho.1).2 e⟩
  · rintro ⟨q, hq, hc⟩
    cases hm : dyF K P (ordF P) 1 with
    | none => rw [dyP_none hm] at hq; cases hq
    | some m =>
      rw [dyP_some hm] at hq
      injection hq with hq
      subst hq
      exact ⟨m, rfl, (cov_day (K := K) ho.1).1 hc⟩
theorem so_cnt {L : List Int} {K i : Nat} (h : allOk L = true) : soUp L K i L.length = !(cnt (dL K L) (i : Int) == 0) := by
  unfold soUp
  rw [List.take_length, Bool.eq_iff_iff, List.any_eq_true, Bool.not_eq_true', beq_eq_false_iff_ne]
  have e : cnt (dL K L) (i : Int) ≠ 0 ↔ ∃ q ∈ dL K L, cov q (i : Int) = true := by
    unfold cnt
    rw [Ne, List.length_eq_zero_iff, List.filter_eq_nil_iff]
    constructor
    · intro hn
      apply Classical.byContradiction
      intro hne
      exact hn (fun q hq hc => hne ⟨q, hq, hc⟩)
    · rintro ⟨q, hq, hc⟩ hn
      exact hn q hq hc
  rw [e]
  constructor
  · rintro ⟨p, hp, hd⟩
    obtain ⟨k, hk⟩ := List.getElem?_of_mem hp
    obtain ⟨_, _, a3, a4⟩ := ok_prime h hk
    obtain ⟨q, hq, hc⟩ := (day_cov (K := K) a3 a4).1 (by simpa using hd)
    refine ⟨q, ?_, hc⟩
    unfold dL dys
    exact List.mem_filterMap.2 ⟨p.toNat, List.mem_map.2 ⟨p, hp, rfl⟩, hq⟩
  · rintro ⟨q, hq, hc⟩
    unfold dL dys at hq
    obtain ⟨P, hP, hq⟩ := List.mem_filterMap.1 hq
    obtain ⟨p, hp, rfl⟩ := List.mem_map.1 hP
    obtain ⟨k, hk⟩ := List.getElem?_of_mem hp
    obtain ⟨_, _, a3, a4⟩ := ok_prime h hk
    exact ⟨p, hp, by have := (day_cov (K := K) a3 a4).2 ⟨q, hq, hc⟩; simpa using this⟩

/-- what holds where Always has an answer -/
theorem alw_cases {L : List Int} {K : Nat} (h : allOk L = true) (hd : dOk K L = true) (hl : L.length ≤ 8) (r : Option Nat) (hr : fstL false (dL K L) (wh (dL K L) 1) 1 = r) :
    (r = none ∧ validL (dL K L) = true ∧ fstE false (dL K L) = 4 ∧ ∀ i, soUp L K i L.length = true) ∨
    (∃ n, r = some n ∧ 1 ≤ n ∧ n ≤ 10080 ∧ ((validL (dL K L) = true ∧ fstE false (dL K L) = 0) ∨ (dL K L = [])) ∧ (∀ i, 1 ≤ i → i < n → soUp L K i L.length = true) ∧ soUp L K n L.length = false) := by
  have hok := dL_ok h hd
  have hw := (dOk_yes hd).2
  have hlen : (dL K L).length ≤ 8 := Nat.le_trans (dL_len K L) hl
  by_cases hD : dL K L = []
  · right
    have e1 : r = some 1 := by rw [← hr, hD]; rfl
    refine ⟨1, e1, by omega, by omega, .inr hD, fun i h1 h2 => by omega, ?_⟩
    rw [so_cnt h, hD]; rfl
  · have h1 : 1 ≤ (dL K L).length := by
      rcases Nat.eq_zero_or_pos (dL K L).length with h0 | h0
      · exact absurd (List.length_eq_zero_iff.1 h0) hD
      · exact h0
    have hs : Sys (dL K L) := ⟨h1, by omega, hok, hw⟩
    cases r with
    | none =>
      left
      have hall : ∀ n : Int, askB false (cnt (dL K L) n) = false := by
        intro n
        have hp := hs.pos
        rw [← cnt_rest hs n]
        have hm1 : 0 ≤ n % ((wh (dL K L) 1 : Nat) : Int) := Int.emod_nonneg _ (by omega)
        have hm2 : n % ((wh (dL K L) 1 : Nat) : Int) < ((wh (dL K L) 1 : Nat) : Int) := Int.emod_lt_of_pos _ (by omega)
        obtain ⟨x, hx⟩ : ∃ x : Nat, n % ((wh (dL K L) 1 : Nat) : Int) = x := ⟨(n % ((wh (dL K L) 1 : Nat) : Int)).toNat, by omega⟩
        rw [hx] at hm2 ⊢
        rcases Nat.eq_zero_or_pos x with h0 | h0
        · have h5 := (fst_none _ _).1 hr (wh (dL K L) 1) (by omega) (by omega)
          have h6 := cnt_rest hs ((wh (dL K L) 1 : Nat) : Int)
          rw [Int.emod_self] at h6
          rw [h0, show ((0 : Nat) : Int) = 0 from rfl, h6]
          exact h5
        · exact (fst_none _ _).1 hr x (by omega) (by omega)
      refine ⟨rfl, validL_mk hs, (fstE_none hs).2 hall, fun i => ?_⟩
      rw [so_cnt h]
      have h9 : (cnt (dL K L) (i : Int) == 0) = false := hall i
      rw [h9]; rfl
    | some n =>
      right
      obtain ⟨a1, a2, a3, a4⟩ := fst_some _ _ _ hr
      refine ⟨n, rfl, a1, by omega, .inl ⟨validL_mk hs, ?_⟩, fun i h1 h2 => ?_, ?_⟩
      · rcases fstE_cases false (dL K L) with h5 | h5
        · exact h5
        · have := (fstE_none hs).1 h5 n
          rw [a3] at this; cases this
      · rw [so_cnt h]
        have h9 : (cnt (dL K L) (i : Int) == 0) = false := a4 i h1 h2
        rw [h9]; rfl
      · rw [so_cnt h]
        have h9 : (cnt (dL K L) (n : Int) == 0) = true := a3
        rw [h9]; rfl

set_option maxRecDepth 100000 in
set_option maxHeartbeats 4000000 in
theorem calw_tail (K : Nat) (A : Option Addr) (l c : Nat) (L : List Int) (D : List (Int × Int)) (E V le : Int) (M : Nat) (w : World)
    (h : IRow w w.heap.size A l L) (hw : ∀ x ∈ L, -9223372036854775808 ≤ x ∧ x ≤ 9223372036854775807) (hlc : l ≤ c) (hc : c ≤ maxLen) (hA : A = none → l = 0 ∧ c = 0)
    (hok : allOk L = true) (hl8 : l ≤ 8) (hK : K ≤ 1000000) (hDL : D.length ≤ 8)
    (hse : seedB (K : Int) = true) (hpr : rprB L = true)
    (hDA : daysL (K : Int) L = D ∧ daysE (K : Int) L = 0) (hAL : alwV (K : Int) L = V ∧ alwE (K : Int) L = E)
    (hLE : ∀ A1 n1 c1 w', Row w' w'.heap.size A1 n1 D → Calls Try.prog 15 #[.slice A1 n1 c1] w' fun e w'' => (∃ lv : Int, e = .returned (.tuple #[.int .i64 lv, .int .i64 le])) ∧ Below w'.heap.size w' w'')
    (hcase : (E = 4 ∧ V = 0 ∧ M = 200 ∧ 1 ≤ D.length ∧ le = 4) ∨ (E = 0 ∧ V = (M : Int) ∧ 1 ≤ M ∧ M ≤ 10080 ∧ 1 ≤ D.length ∧ le = 0) ∨ (E = 0 ∧ V = (M : Int) ∧ 1 ≤ M ∧ M ≤ 10080 ∧ D.length = 0 ∧ le = 2))
    (hso : ∀ i : Nat, 1 ≤ i → i ≤ M → soUp L K i L.length = (E == 4 || decide ((i : Int) < V))) :
    Calls Try.prog 10 #[.int .i64 (K : Int), .slice A l c] w fun e w' => e = .returned (.bool true) ∧ Below w.heap.size w w' := by
  have hc9 : c ≤ 9223372036854775807 := by unfold maxLen at hc; omega
  have ht12 : L.take 12 = L := (rpr_short hpr).1
  have HRR := Lib.hid h
  have HLN := Lib.hid h.1
  have HOK := Lib.hid hok
  have HLI : Hid (∀ w', Below w.heap.size w w' → Calls Try.prog 34 #[.slice A l c] w' (GivesI w' L)) := Lib.hid (fun w' hb => by
    have h5 := list_any A l c L w' (h.next hb) hlc hc hA
    rw [ht12] at h5; exact h5)
  have lo : (-9223372036854775808 : Int) ≤ (K : Int) := by omega
  have HDA : Hid (∀ w' A1 n1 c1, IRow w' w'.heap.size A1 n1 L → n1 ≤ c1 → c1 ≤ 9223372036854775807 → Calls Try.prog 35 #[.int .i64 (K : Int), .slice A1 n1 c1] w' (GivesPE w' D 0)) := Lib.hid (fun w' A1 n1 c1 h1 h2 h3 => by
    rw [← hDA.1, ← hDA.2]; exact Days_any K A1 n1 c1 L w' h1 lo hw h2 h3)
  have HAL : Hid (∀ w' A1 n1 c1, IRow w' w'.heap.size A1 n1 L → n1 ≤ c1 → c1 ≤ 9223372036854775807 → Calls Try.prog 33 #[.int .i64 (K : Int), .slice A1 n1 c1] w' fun e w'' => e = .returned (.tuple #[.int .i64 V, .int .i64 E]) ∧ Below w'.heap.size w' w'') := Lib.hid (fun w' A1 n1 c1 h1 h2 h3 => by
    rw [← hAL.1, ← hAL.2]; exact Always_any K A1 n1 c1 L w' h1 lo hw h2 h3)
  have HSE : Hid (∀ w', Calls Try.prog 36 #[.int .i64 (K : Int)] w' fun e w'' => e = .returned (.bool true) ∧ w' = w'') := Lib.hid (fun w' => by rw [← hse]; exact seed_any K w' lo)
  have HPR : Hid (∀ w', Below w.heap.size w w' → Calls Try.prog 37 #[.slice A l c] w' fun e w'' => e = .returned (.bool true) ∧ Below w'.heap.size w' w'') := Lib.hid (fun w' hb => by rw [← hpr]; exact rprimes_any A l c L w' (h.next hb) hw hlc hc9)
  have HLE := Lib.hid hLE
  have HSO := Lib.hid hso
  have HDL := Lib.hid hDL
  clear h hw hA hDA hAL hLE hso hok hse hpr ht12 lo hDL
  rcases hcase with ⟨rfl, rfl, rfl, hD1, rfl⟩ | ⟨rfl, rfl, hM1, hM2, hD1, rfl⟩ | ⟨rfl, rfl, hM1, hM2, hD1, rfl⟩
  · have HD1 := Lib.hid hD1
    clear hD1
    go_enter Try.func10, Try.ntmps10
    go_wp2_with fail
    refine (HLI.out _ (Below.refl _ _)).mono ?_; rintro e w1 ⟨A1, n1, c1, rfl, how1, hA1, hb1⟩
    have HI1 := Lib.hid (IRow.of_own how1)
    have HC1 := Lib.hid (own_cap how1)
    have HB1 := Lib.hid hb1
    clear how1 hA1 hb1
    go_wp2_with fail
    refine (HAL.out _ _ _ _ HI1.out HC1.out.1 HC1.out.2).mono ?_; rintro e w2 ⟨rfl, hb2⟩
    have HB2 := Lib.hid (bt HB1.out hb2)
    clear hb2
    go_wp2_with fail
    refine (HLI.out _ HB2.out).mono ?_; rintro e w3 ⟨A3, n3, c3, rfl, how3, hA3, hb3⟩
    have HI3 := Lib.hid (IRow.of_own how3)
    have HC3 := Lib.hid (own_cap how3)
    have HB3 := Lib.hid (bt HB2.out hb3)
    clear how3 hA3 hb3
    go_wp2_with fail
    refine (HDA.out _ _ _ _ HI3.out HC3.out.1 HC3.out.2).mono ?_; rintro e w4 ⟨A4, n4, c4, rfl, hr4, hA4, hb4⟩
    have HB4 := Lib.hid (bt HB3.out hb4)
    have HR4 := Lib.hid hr4
    have HA4 := Lib.hid hA4
    have hn4 : n4 ≤ 8 := by have := hr4.1; have := HDL.out; omega
    have HN4 : Hid (n4 = D.length) := Lib.hid hr4.1
    clear hr4 hA4 hb4
    go_wp2_with fail
    refine (HSE.out _).mono ?_; rintro e w5 ⟨rfl, rfl⟩
    go_wp2_with fail
    refine (HPR.out _ HB4.out).mono ?_; rintro e w5 ⟨rfl, hb5⟩
    have HB5 := Lib.hid (bt HB4.out hb5)
    have HR5 := Lib.hid ((HR4.out.below hb5).more hb5.size)
    clear hb5
    go_wp2_with fail
    refine (clone_any A4 n4 c4 D w5 HR5.out (by omega) HA4.out).mono ?_; rintro e w6 ⟨A6, n6, c6, rfl, hr6, hb6⟩
    have HB6 := Lib.hid (bt HB5.out hb6)
    have HR6 := Lib.hid hr6
    clear hr6 hb6
    go_wp2_with fail
    refine (HLE.out _ _ _ _ HR6.out).mono ?_; rintro e w7 ⟨⟨lv, rfl⟩, hb7⟩
    have HB7 := Lib.hid (bt HB6.out hb7)
    clear hb7
    have hn1 : (1 : Int) ≤ (n4 : Int) := by have := HD1.out; have := HN4.out; omega
    have hn0 : (0 : Int) < (n4 : Int) := by omega
    have hn2 : ((n4 : Int) == 0) = false := by simp; omega
    clear hn1
    go_wp2_with fail
    go_loopw [12] (fun x wr => ∃ i : Nat, 1 ≤ i ∧ i ≤ 10081 ∧ Hid ((i : Int) ≤ (200 : Int) + 1) ∧ x = .int .i64 (i : Int) ∧ Hid (Below w.heap.size w wr)) (fun x _ => 200 + 1 - (intOf x).toNat)
    case atStart => exact ⟨1, by omega, by omega, Lib.hid (by omega), rfl, HB7⟩
    case round =>
      obtain ⟨i, hi1, hi2, hiM, rfl, hbr⟩ := hrel
      by_cases hlt : i ≤ 200
      case neg =>
        have hlti : (200 : Int) < (i : Int) := by omega
        go_wp2_with fail
        refine (awake_any _).mono ?_; rintro e w8 ⟨rfl, hb8⟩
        have HB8 := Lib.hid (bt hbr.out hb8)
        clear hb8
        go_wp2_with fail
        go_ret
        exact ⟨rfl, HB8.out⟩
      case pos =>
        have hlti : (i : Int) ≤ (200 : Int) := by omega
        go_wp2_with fail
        go_loopw [13, 110] (fun s z wr2 => ∃ j : Nat, j ≤ l ∧ s = .bool (soUp L K i j) ∧ z = .int .i64 (j : Int) ∧ wr2 = wr) (fun _ z _ => l - (intOf z).toNat)
        case atStart => exact ⟨0, by omega, rfl, rfl, rfl⟩
        case round =>
          obtain ⟨j, hj, rfl, rfl, rfl⟩ := hrel
          by_cases hjl : j < l
          case neg =>
            have hjl2 : j = l := by omega
            subst hjl2
            have hs := HSO.out i hi1 (by omega)
            rw [← HLN.out] at hs
            have hs2 : soUp L K i j = true := hs
            rw [hs2]
            clear hs2
            have hi3 : Hid (((i + 1 : Nat) : Int) ≤ (200 : Int) + 1) := Lib.hid (by omega)
            clear hs
            go_wp2_with fail
            go_roundw
            case rel => exact ⟨i + 1, by omega, by omega, hi3, by go_num, hbr⟩
            case measure => simp [intOf]; omega
          case pos =>
            obtain ⟨b, off, p, hx, rfl, hB, g1⟩ := (HRR.out.below hbr.out).at_ hjl
            obtain ⟨p3, p300, _, _⟩ := ok_prime HOK.out hx
            obtain ⟨P, rfl⟩ : ∃ P : Nat, p = P := ⟨p.toNat, by omega⟩
            obtain ⟨s0, hs0⟩ : ∃ s0, soUp L K i j = s0 := ⟨_, rfl⟩
            have HSU : Hid (soUp L K i (j + 1) = (s0 || ((K * 2 ^ i + 1) % P == 0))) := Lib.hid (by rw [soUp_succ hx, hs0, Int.toNat_natCast])
            rw [hs0]
            have hP3 : 3 ≤ P := by omega
            have hP300 : P < 300 := by omega
            have hPi : ¬ ((P : Int) = 0) := by omega
            have hjli : (j : Int) < (l : Int) := by omega
            obtain ⟨y, hy⟩ : ∃ y, K % P = y := ⟨_, rfl⟩
            have hyP : y < P := by rw [← hy]; exact Nat.mod_lt _ (by omega)
            have ey : (K : Int) % (P : Int) = (y : Int) := by rw [← hy, Int.natCast_emod]
            have HY : Hid (K * 2 ^ 0 % P = y) := Lib.hid (by rw [Nat.pow_zero, Nat.mul_one, hy])
            clear hx hs0 hy
            go_wp2_with fail
            go_loopw [16, 118] (fun x z wr3 => ∃ a u : Nat, a ≤ i ∧ u < P ∧ Hid (K * 2 ^ a % P = u) ∧ x = .int .i64 (u : Int) ∧ z = .int .i64 (a : Int) ∧ wr3 = wr) (fun _ z _ => i - (intOf z).toNat)
            case atStart => exact ⟨0, y, by omega, hyP, HY, by first | rfl | rw [ey], rfl, rfl⟩
            case round =>
              obtain ⟨a, u, hai, huP, hu, rfl, rfl, rfl⟩ := hrel
              by_cases hal : a < i
              case pos =>
                obtain ⟨v, hv⟩ : ∃ v, 2 * u % P = v := ⟨_, rfl⟩
                have hvP : v < P := by rw [← hv]; exact Nat.mod_lt _ (by omega)
                have ev : 2 * (u : Int) % (P : Int) = (v : Int) := by rw [← hv, Int.natCast_emod]; rfl
                have HV : Hid (K * 2 ^ (a + 1) % P = v) := Lib.hid (kx_step hu.out hv)
                have hali : (a : Int) < (i : Int) := by omega
                clear hv
                go_wp2_with fail
                go_roundw
                case rel => exact ⟨a + 1, v, by omega, hvP, HV, by first | rfl | rw [ev], by go_num, by first | rfl | trivial⟩
                case measure => simp [intOf]; omega
              case neg =>
                have hai2 : a = i := by omega
                subst hai2
                have ez : (((u : Int) + 1) % (P : Int) == 0) = ((K * 2 ^ a + 1) % P == 0) := by
                  rw [← kx_test hu.out, Bool.eq_iff_iff, beq_iff_eq, beq_iff_eq]
                  have : ((u : Int) + 1) % (P : Int) = (((u + 1) % P : Nat) : Int) := by rw [Int.natCast_emod]; rfl
                  rw [this]; omega
                obtain ⟨c4, hc4⟩ : ∃ c4, ((K * 2 ^ a + 1) % P == 0) = c4 := ⟨_, rfl⟩
                rw [hc4] at ez HSU
                clear hc4
                rcases s0 with _ | _
                all_goals
                  go_wp2_with fail
                  go_roundw
                  case rel => exact ⟨j + 1, by omega, by rw [HSU.out]; rfl, by go_num, by first | rfl | trivial⟩
                  case measure => simp [intOf]; omega
  · have HD1 := Lib.hid hD1
    clear hD1
    go_enter Try.func10, Try.ntmps10
    go_wp2_with fail
    refine (HLI.out _ (Below.refl _ _)).mono ?_; rintro e w1 ⟨A1, n1, c1, rfl, how1, hA1, hb1⟩
    have HI1 := Lib.hid (IRow.of_own how1)
    have HC1 := Lib.hid (own_cap how1)
    have HB1 := Lib.hid hb1
    clear how1 hA1 hb1
    go_wp2_with fail
    refine (HAL.out _ _ _ _ HI1.out HC1.out.1 HC1.out.2).mono ?_; rintro e w2 ⟨rfl, hb2⟩
    have HB2 := Lib.hid (bt HB1.out hb2)
    clear hb2
    go_wp2_with fail
    refine (HLI.out _ HB2.out).mono ?_; rintro e w3 ⟨A3, n3, c3, rfl, how3, hA3, hb3⟩
    have HI3 := Lib.hid (IRow.of_own how3)
    have HC3 := Lib.hid (own_cap how3)
    have HB3 := Lib.hid (bt HB2.out hb3)
    clear how3 hA3 hb3
    go_wp2_with fail
    refine (HDA.out _ _ _ _ HI3.out HC3.out.1 HC3.out.2).mono ?_; rintro e w4 ⟨A4, n4, c4, rfl, hr4, hA4, hb4⟩
    have HB4 := Lib.hid (bt HB3.out hb4)
    have HR4 := Lib.hid hr4
    have HA4 := Lib.hid hA4
    have hn4 : n4 ≤ 8 := by have := hr4.1; have := HDL.out; omega
    have HN4 : Hid (n4 = D.length) := Lib.hid hr4.1
    clear hr4 hA4 hb4
    go_wp2_with fail
    refine (HSE.out _).mono ?_; rintro e w5 ⟨rfl, rfl⟩
    go_wp2_with fail
    refine (HPR.out _ HB4.out).mono ?_; rintro e w5 ⟨rfl, hb5⟩
    have HB5 := Lib.hid (bt HB4.out hb5)
    have HR5 := Lib.hid ((HR4.out.below hb5).more hb5.size)
    clear hb5
    go_wp2_with fail
    refine (clone_any A4 n4 c4 D w5 HR5.out (by omega) HA4.out).mono ?_; rintro e w6 ⟨A6, n6, c6, rfl, hr6, hb6⟩
    have HB6 := Lib.hid (bt HB5.out hb6)
    have HR6 := Lib.hid hr6
    clear hr6 hb6
    go_wp2_with fail
    refine (HLE.out _ _ _ _ HR6.out).mono ?_; rintro e w7 ⟨⟨lv, rfl⟩, hb7⟩
    have HB7 := Lib.hid (bt HB6.out hb7)
    clear hb7
    have hn1 : (1 : Int) ≤ (n4 : Int) := by have := HD1.out; have := HN4.out; omega
    have hn0 : (0 : Int) < (n4 : Int) := by omega
    have hn2 : ((n4 : Int) == 0) = false := by simp; omega
    clear hn1
    go_wp2_with fail
    go_loopw [12] (fun x wr => ∃ i : Nat, 1 ≤ i ∧ i ≤ 10081 ∧ Hid ((i : Int) ≤ (M : Int) + 1) ∧ x = .int .i64 (i : Int) ∧ Hid (Below w.heap.size w wr)) (fun x _ => M + 1 - (intOf x).toNat)
    case atStart => exact ⟨1, by omega, by omega, Lib.hid (by omega), rfl, HB7⟩
    case round =>
      obtain ⟨i, hi1, hi2, hiM, rfl, hbr⟩ := hrel
      by_cases hlt : i ≤ M
      case neg =>
        have hlti : (M : Int) < (i : Int) := by omega
        go_wp2_with fail
        refine (awake_any _).mono ?_; rintro e w8 ⟨rfl, hb8⟩
        have HB8 := Lib.hid (bt hbr.out hb8)
        clear hb8
        go_wp2_with fail
        go_ret
        exact ⟨rfl, HB8.out⟩
      case pos =>
        have hlti : (i : Int) ≤ (M : Int) := by omega
        go_wp2_with fail
        go_loopw [13, 110] (fun s z wr2 => ∃ j : Nat, j ≤ l ∧ s = .bool (soUp L K i j) ∧ z = .int .i64 (j : Int) ∧ wr2 = wr) (fun _ z _ => l - (intOf z).toNat)
        case atStart => exact ⟨0, by omega, rfl, rfl, rfl⟩
        case round =>
          obtain ⟨j, hj, rfl, rfl, rfl⟩ := hrel
          by_cases hjl : j < l
          case neg =>
            have hjl2 : j = l := by omega
            subst hjl2
            have hs := HSO.out i hi1 (by omega)
            rw [← HLN.out] at hs
            have hs2 : soUp L K i j = decide ((i : Int) < (M : Int)) := hs
            rw [hs2]
            clear hs2
            have hc3 : ∃ c3, decide ((i : Int) < (M : Int)) = c3 ∧ ((c3 = true ∧ (i : Int) < (M : Int)) ∨ (c3 = false ∧ (M : Int) ≤ (i : Int))) := by
              by_cases him : (i : Int) < (M : Int)
              · exact ⟨true, decide_eq_true him, .inl ⟨rfl, him⟩⟩
              · exact ⟨false, decide_eq_false him, .inr ⟨rfl, by omega⟩⟩
            obtain ⟨c3, hc3, hc5⟩ := hc3
            rw [hc3]
            clear hc3
            have hi3 : Hid (((i + 1 : Nat) : Int) ≤ (M : Int) + 1) := Lib.hid (by omega)
            clear hs
            rcases hc5 with ⟨rfl, him⟩ | ⟨rfl, him⟩
            all_goals
              go_wp2_with fail
              go_roundw
              case rel => exact ⟨i + 1, by omega, by omega, hi3, by go_num, hbr⟩
              case measure => simp [intOf]; omega
          case pos =>
            obtain ⟨b, off, p, hx, rfl, hB, g1⟩ := (HRR.out.below hbr.out).at_ hjl
            obtain ⟨p3, p300, _, _⟩ := ok_prime HOK.out hx
            obtain ⟨P, rfl⟩ : ∃ P : Nat, p = P := ⟨p.toNat, by omega⟩
            obtain ⟨s0, hs0⟩ : ∃ s0, soUp L K i j = s0 := ⟨_, rfl⟩
            have HSU : Hid (soUp L K i (j + 1) = (s0 || ((K * 2 ^ i + 1) % P == 0))) := Lib.hid (by rw [soUp_succ hx, hs0, Int.toNat_natCast])
            rw [hs0]
            have hP3 : 3 ≤ P := by omega
            have hP300 : P < 300 := by omega
            have hPi : ¬ ((P : Int) = 0) := by omega
            have hjli : (j : Int) < (l : Int) := by omega
            obtain ⟨y, hy⟩ : ∃ y, K % P = y := ⟨_, rfl⟩
            have hyP : y < P := by rw [← hy]; exact Nat.mod_lt _ (by omega)
            have ey : (K : Int) % (P : Int) = (y : Int) := by rw [← hy, Int.natCast_emod]
            have HY : Hid (K * 2 ^ 0 % P = y) := Lib.hid (by rw [Nat.pow_zero, Nat.mul_one, hy])
            clear hx hs0 hy
            go_wp2_with fail
            go_loopw [16, 118] (fun x z wr3 => ∃ a u : Nat, a ≤ i ∧ u < P ∧ Hid (K * 2 ^ a % P = u) ∧ x = .int .i64 (u : Int) ∧ z = .int .i64 (a : Int) ∧ wr3 = wr) (fun _ z _ => i - (intOf z).toNat)
            case atStart => exact ⟨0, y, by omega, hyP, HY, by first | rfl | rw [ey], rfl, rfl⟩
            case round =>
              obtain ⟨a, u, hai, huP, hu, rfl, rfl, rfl⟩ := hrel
              by_cases hal : a < i
              case pos =>
                obtain ⟨v, hv⟩ : ∃ v, 2 * u % P = v := ⟨_, rfl⟩
                have hvP : v < P := by rw [← hv]; exact Nat.mod_lt _ (by omega)
                have ev : 2 * (u : Int) % (P : Int) = (v : Int) := by rw [← hv, Int.natCast_emod]; rfl
                have HV : Hid (K * 2 ^ (a + 1) % P = v) := Lib.hid (kx_step hu.out hv)
                have hali : (a : Int) < (i : Int) := by omega
                clear hv
                go_wp2_with fail
                go_roundw
                case rel => exact ⟨a + 1, v, by omega, hvP, HV, by first | rfl | rw [ev], by go_num, by first | rfl | trivial⟩
                case measure => simp [intOf]; omega
              case neg =>
                have hai2 : a = i := by omega
                subst hai2
                have ez : (((u : Int) + 1) % (P : Int) == 0) = ((K * 2 ^ a + 1) % P == 0) := by
                  rw [← kx_test hu.out, Bool.eq_iff_iff, beq_iff_eq, beq_iff_eq]
                  have : ((u : Int) + 1) % (P : Int) = (((u + 1) % P : Nat) : Int) := by rw [Int.natCast_emod]; rfl
                  rw [this]; omega
                obtain ⟨c4, hc4⟩ : ∃ c4, ((K * 2 ^ a + 1) % P == 0) = c4 := ⟨_, rfl⟩
                rw [hc4] at ez HSU
                clear hc4
                rcases s0 with _ | _
                all_goals
                  go_wp2_with fail
                  go_roundw
                  case rel => exact ⟨j + 1, by omega, by rw [HSU.out]; rfl, by go_num, by first | rfl | trivial⟩
                  case measure => simp [intOf]; omega
  · have HD1 := Lib.hid hD1
    clear hD1
    go_enter Try.func10, Try.ntmps10
    go_wp2_with fail
    refine (HLI.out _ (Below.refl _ _)).mono ?_; rintro e w1 ⟨A1, n1, c1, rfl, how1, hA1, hb1⟩
    have HI1 := Lib.hid (IRow.of_own how1)
    have HC1 := Lib.hid (own_cap how1)
    have HB1 := Lib.hid hb1
    clear how1 hA1 hb1
    go_wp2_with fail
    refine (HAL.out _ _ _ _ HI1.out HC1.out.1 HC1.out.2).mono ?_; rintro e w2 ⟨rfl, hb2⟩
    have HB2 := Lib.hid (bt HB1.out hb2)
    clear hb2
    go_wp2_with fail
    refine (HLI.out _ HB2.out).mono ?_; rintro e w3 ⟨A3, n3, c3, rfl, how3, hA3, hb3⟩
    have HI3 := Lib.hid (IRow.of_own how3)
    have HC3 := Lib.hid (own_cap how3)
    have HB3 := Lib.hid (bt HB2.out hb3)
    clear how3 hA3 hb3
    go_wp2_with fail
    refine (HDA.out _ _ _ _ HI3.out HC3.out.1 HC3.out.2).mono ?_; rintro e w4 ⟨A4, n4, c4, rfl, hr4, hA4, hb4⟩
    have HB4 := Lib.hid (bt HB3.out hb4)
    have HR4 := Lib.hid hr4
    have HA4 := Lib.hid hA4
    have hn4 : n4 ≤ 8 := by have := hr4.1; have := HDL.out; omega
    have HN4 : Hid (n4 = D.length) := Lib.hid hr4.1
    clear hr4 hA4 hb4
    go_wp2_with fail
    refine (HSE.out _).mono ?_; rintro e w5 ⟨rfl, rfl⟩
    go_wp2_with fail
    refine (HPR.out _ HB4.out).mono ?_; rintro e w5 ⟨rfl, hb5⟩
    have HB5 := Lib.hid (bt HB4.out hb5)
    have HR5 := Lib.hid ((HR4.out.below hb5).more hb5.size)
    clear hb5
    go_wp2_with fail
    refine (clone_any A4 n4 c4 D w5 HR5.out (by omega) HA4.out).mono ?_; rintro e w6 ⟨A6, n6, c6, rfl, hr6, hb6⟩
    have HB6 := Lib.hid (bt HB5.out hb6)
    have HR6 := Lib.hid hr6
    clear hr6 hb6
    go_wp2_with fail
    refine (HLE.out _ _ _ _ HR6.out).mono ?_; rintro e w7 ⟨⟨lv, rfl⟩, hb7⟩
    have HB7 := Lib.hid (bt HB6.out hb7)
    clear hb7
    obtain rfl : n4 = 0 := by have := HD1.out; have := HN4.out; omega
    go_wp2_with fail
    go_loopw [12] (fun x wr => ∃ i : Nat, 1 ≤ i ∧ i ≤ 10081 ∧ Hid ((i : Int) ≤ (M : Int) + 1) ∧ x = .int .i64 (i : Int) ∧ Hid (Below w.heap.size w wr)) (fun x _ => M + 1 - (intOf x).toNat)
    case atStart => exact ⟨1, by omega, by omega, Lib.hid (by omega), rfl, HB7⟩
    case round =>
      obtain ⟨i, hi1, hi2, hiM, rfl, hbr⟩ := hrel
      by_cases hlt : i ≤ M
      case neg =>
        have hlti : (M : Int) < (i : Int) := by omega
        go_wp2_with fail
        refine (awake_any _).mono ?_; rintro e w8 ⟨rfl, hb8⟩
        have HB8 := Lib.hid (bt hbr.out hb8)
        clear hb8
        go_wp2_with fail
        go_ret
        exact ⟨rfl, HB8.out⟩
      case pos =>
        have hlti : (i : Int) ≤ (M : Int) := by omega
        go_wp2_with fail
        go_loopw [13, 110] (fun s z wr2 => ∃ j : Nat, j ≤ l ∧ s = .bool (soUp L K i j) ∧ z = .int .i64 (j : Int) ∧ wr2 = wr) (fun _ z _ => l - (intOf z).toNat)
        case atStart => exact ⟨0, by omega, rfl, rfl, rfl⟩
        case round =>
          obtain ⟨j, hj, rfl, rfl, rfl⟩ := hrel
          by_cases hjl : j < l
          case neg =>
            have hjl2 : j = l := by omega
            subst hjl2
            have hs := HSO.out i hi1 (by omega)
            rw [← HLN.out] at hs
            have hs2 : soUp L K i j = decide ((i : Int) < (M : Int)) := hs
            rw [hs2]
            clear hs2
            have hc3 : ∃ c3, decide ((i : Int) < (M : Int)) = c3 ∧ ((c3 = true ∧ (i : Int) < (M : Int)) ∨ (c3 = false ∧ (M : Int) ≤ (i : Int))) := by
              by_cases him : (i : Int) < (M : Int)
              · exact ⟨true, decide_eq_true him, .inl ⟨rfl, him⟩⟩
              · exact ⟨false, decide_eq_false him, .inr ⟨rfl, by omega⟩⟩
            obtain ⟨c3, hc3, hc5⟩ := hc3
            rw [hc3]
            clear hc3
            have hi3 : Hid (((i + 1 : Nat) : Int) ≤ (M : Int) + 1) := Lib.hid (by omega)
            clear hs
            rcases hc5 with ⟨rfl, him⟩ | ⟨rfl, him⟩
            all_goals
              go_wp2_with fail
              go_roundw
              case rel => exact ⟨i + 1, by omega, by omega, hi3, by go_num, hbr⟩
              case measure => simp [intOf]; omega
          case pos =>
            obtain ⟨b, off, p, hx, rfl, hB, g1⟩ := (HRR.out.below hbr.out).at_ hjl
            obtain ⟨p3, p300, _, _⟩ := ok_prime HOK.out hx
            obtain ⟨P, rfl⟩ : ∃ P : Nat, p = P := ⟨p.toNat, by omega⟩
            obtain ⟨s0, hs0⟩ : ∃ s0, soUp L K i j = s0 := ⟨_, rfl⟩
            have HSU : Hid (soUp L K i (j + 1) = (s0 || ((K * 2 ^ i + 1) % P == 0))) := Lib.hid (by rw [soUp_succ hx, hs0, Int.toNat_natCast])
            rw [hs0]
            have hP3 : 3 ≤ P := by omega
            have hP300 : P < 300 := by omega
            have hPi : ¬ ((P : Int) = 0) := by omega
            have hjli : (j : Int) < (l : Int) := by omega
            obtain ⟨y, hy⟩ : ∃ y, K % P = y := ⟨_, rfl⟩
            have hyP : y < P := by rw [← hy]; exact Nat.mod_lt _ (by omega)
            have ey : (K : Int) % (P : Int) = (y : Int) := by rw [← hy, Int.natCast_emod]
            have HY : Hid (K * 2 ^ 0 % P = y) := Lib.hid (by rw [Nat.pow_zero, Nat.mul_one, hy])
            clear hx hs0 hy
            go_wp2_with fail
            go_loopw [16, 118] (fun x z wr3 => ∃ a u : Nat, a ≤ i ∧ u < P ∧ Hid (K * 2 ^ a % P = u) ∧ x = .int .i64 (u : Int) ∧ z = .int .i64 (a : Int) ∧ wr3 = wr) (fun _ z _ => i - (intOf z).toNat)
            case atStart => exact ⟨0, y, by omega, hyP, HY, by first | rfl | rw [ey], rfl, rfl⟩
            case round =>
              obtain ⟨a, u, hai, huP, hu, rfl, rfl, rfl⟩ := hrel
              by_cases hal : a < i
              case pos =>
                obtain ⟨v, hv⟩ : ∃ v, 2 * u % P = v := ⟨_, rfl⟩
                have hvP : v < P := by rw [← hv]; exact Nat.mod_lt _ (by omega)
                have ev : 2 * (u : Int) % (P : Int) = (v : Int) := by rw [← hv, Int.natCast_emod]; rfl
                have HV : Hid (K * 2 ^ (a + 1) % P = v) := Lib.hid (kx_step hu.out hv)
                have hali : (a : Int) < (i : Int) := by omega
                clear hv
                go_wp2_with fail
                go_roundw
                case rel => exact ⟨a + 1, v, by omega, hvP, HV, by first | rfl | rw [ev], by go_num, by first | rfl | trivial⟩
                case measure => simp [intOf]; omega
              case neg =>
                have hai2 : a = i := by omega
                subst hai2
                have ez : (((u : Int) + 1) % (P : Int) == 0) = ((K * 2 ^ a + 1) % P == 0) := by
                  rw [← kx_test hu.out, Bool.eq_iff_iff, beq_iff_eq, beq_iff_eq]
                  have : ((u : Int) + 1) % (P : Int) = (((u + 1) % P : Nat) : Int) := by rw [Int.natCast_emod]; rfl
                  rw [this]; omega
                obtain ⟨c4, hc4⟩ : ∃ c4, ((K * 2 ^ a + 1) % P == 0) = c4 := ⟨_, rfl⟩
                rw [hc4] at ez HSU
                clear hc4
                rcases s0 with _ | _
                all_goals
                  go_wp2_with fail
                  go_roundw
                  case rel => exact ⟨j + 1, by omega, by rw [HSU.out]; rfl, by go_num, by first | rfl | trivial⟩
                  case measure => simp [intOf]; omega
end Go.Proofs.Ytmmgidhaakkaoaa
