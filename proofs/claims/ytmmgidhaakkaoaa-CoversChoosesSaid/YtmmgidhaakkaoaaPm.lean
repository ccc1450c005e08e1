/- covers.primes, and the reference's Primes and Seed. -/
import Derived.Test.YtmmgidhaakkaoaaDy
namespace Go.Proofs.Ytmmgidhaakkaoaa
open Go Go.RowKit GhN

noncomputable def okAt (L : List Int) (i : Nat) : Bool := match L[i]? with
  | some p => decide (3 ≤ p ∧ p < 300) && prB p && !(decide (p ∈ L.take i))
  | none => true
noncomputable def allOk (L : List Int) : Bool := (List.range L.length).all (okAt L)
theorem allOk_iff {L : List Int} : allOk L = true ↔ ∀ i, i < L.length → okAt L i = true := by
  unfold allOk; rw [List.all_eq_true]; simp
theorem okAt_at {L : List Int} {i : Nat} {p : Int} (h : L[i]? = some p) : okAt L i = (decide (3 ≤ p ∧ p < 300) && prB p && !(decide (p ∈ L.take i))) := by unfold okAt; rw [h]
theorem allOk_no {L : List Int} {i : Nat} {p : Int} (h : L[i]? = some p) (hf : okAt L i = false) : allOk L = false := by
  cases e : allOk L with
  | false => rfl
  | true => have := allOk_iff.1 e i (List.getElem?_eq_some_iff.1 h).1; rw [hf] at this; cases this
def seedB (k : Int) : Bool := decide (1 ≤ k ∧ k ≤ 1000000 ∧ k % 2 = 1)
noncomputable def rprB (L : List Int) : Bool := allOk L && decide (1 ≤ L.length ∧ L.length ≤ 8)
noncomputable def prmB (k : Int) (L : List Int) : Bool := seedB k && rprB L

theorem prm_found {p d : Nat} (h2 : 2 ≤ d) (hd : d < p) (h : p % d = 0) : ¬ Pr p := fun hp => by
  rcases hp.2 d (Nat.dvd_of_mod_eq_zero h) with e | e <;> omega
theorem prm_end {p : Nat} (h2 : 2 ≤ p) (h : ∀ d, 2 ≤ d → d < p → p % d ≠ 0) : Pr p := by
  refine ⟨h2, fun d hd => ?_⟩
  have h1 := Nat.le_of_dvd (by omega) hd
  have h3 := Nat.pos_of_dvd_of_pos hd (by omega)
  rcases Nat.lt_or_ge d 2 with h4 | h4
  · exact .inl (by omega)
  · rcases Nat.lt_or_eq_of_le h1 with h5 | h5
    · exact absurd (Nat.mod_eq_zero_of_dvd hd) (h d h4 h5)
    · exact .inr h5

set_option maxHeartbeats 400000 in
theorem seed_any (k : Int) (w : World) (_h : -9223372036854775808 ≤ k) :
    Calls Try.prog 36 #[.int .i64 k] w fun e w' => e = .returned (.bool (seedB k)) ∧ w = w' := by
  by_cases h1 : 1 ≤ k
  · by_cases h2 : k ≤ 1000000
    · cases hq : (k % 2 == 1) with
      | true =>
        have e : seedB k = true := decide_eq_true ⟨h1, h2, by simpa using hq⟩
        go_enter Try.func36, Try.ntmps36
        go_wp2_with fail
        go_ret
        exact ⟨by first | rfl | (rw [e]; rfl), rfl⟩
      | false =>
        have e : seedB k = false := decide_eq_false (fun h => by simp [h.2.2] at hq)
        go_enter Try.func36, Try.ntmps36
        go_wp2_with fail
        go_ret
        exact ⟨by first | rfl | (rw [e]; rfl), rfl⟩
    · have e : seedB k = false := decide_eq_false (fun h => h2 h.2.1)
      have t : decide (k ≤ 1000000) = false := decide_eq_false h2
      go_enter Try.func36, Try.ntmps36
      go_wp2_with fail
      go_ret
      exact ⟨by first | rfl | (rw [e]; rfl), rfl⟩
  · have e : seedB k = false := decide_eq_false (fun h => h1 h.1)
    have t : decide (1 ≤ k) = false := decide_eq_false h1
    go_enter Try.func36, Try.ntmps36
    go_wp2_with fail
    go_ret
    exact ⟨by first | rfl | (rw [e]; rfl), rfl⟩

set_option maxRecDepth 100000 in
set_option maxHeartbeats 1000000 in
theorem primes_any (k : Int) (A : Option Addr) (l c : Nat) (L : List Int) (w : World) (h : IRow w w.heap.size A l L) (_hlo : -9223372036854775808 ≤ k) (hw : ∀ x ∈ L, -9223372036854775808 ≤ x ∧ x ≤ 9223372036854775807) (hlc : l ≤ c) (_hc : c ≤ 9223372036854775807) :
    Calls Try.prog 57 #[.int .i64 k, .slice A l c] w fun e w' => e = .returned (.bool (prmB k L)) ∧ Below w.heap.size w w' := by
  have HR := Lib.hid h
  have HL := Lib.hid h.1
  have HW := Lib.hid hw
  clear h hw
  by_cases hg : seedB k = true ∧ 1 ≤ l ∧ l ≤ 8
  case neg =>
    have e : prmB k L = false := by
      unfold prmB rprB
      cases hs : seedB k with
      | false => rfl
      | true =>
        rw [Bool.true_and, decide_eq_false (fun h => hg ⟨hs, by rw [HL.out]; exact h.1, by rw [HL.out]; exact h.2⟩), Bool.and_false]
    have HE := Lib.hid e
    have hcases : k < 1 ∨ (1 ≤ k ∧ 1000000 < k) ∨ (1 ≤ k ∧ k ≤ 1000000 ∧ k % 2 = 0) ∨ (1 ≤ k ∧ k ≤ 1000000 ∧ k % 2 = 1 ∧ l < 1) ∨ (1 ≤ k ∧ k ≤ 1000000 ∧ k % 2 = 1 ∧ 1 ≤ l ∧ 8 < l) := by
      by_cases a1 : k < 1
      · exact .inl a1
      · by_cases a2 : k ≤ 1000000
        · by_cases a3 : k % 2 = 1
          · have : seedB k = true := decide_eq_true ⟨by omega, a2, a3⟩
            have : ¬ (1 ≤ l ∧ l ≤ 8) := fun h => hg ⟨this, h⟩
            omega
          · omega
        · omega
    clear e hg
    rcases hcases with h1 | ⟨h0, h1⟩ | ⟨h0, h1, h2⟩ | ⟨h0, h1, h2, h3⟩ | ⟨h0, h1, h2, h3, h4⟩
    · go_enter Try.func57, Try.ntmps57
      go_wp2_with fail
      go_ret
      exact ⟨by rw [HE.out]; rfl, Below.refl _ _⟩
    · go_enter Try.func57, Try.ntmps57
      go_wp2_with fail
      go_ret
      exact ⟨by rw [HE.out]; rfl, Below.refl _ _⟩
    · have t1 : (k % 2 == 0) = true := by rw [h2]; rfl
      clear h2
      go_enter Try.func57, Try.ntmps57
      go_wp2_with fail
      go_ret
      exact ⟨by rw [HE.out]; rfl, Below.refl _ _⟩
    · have t1 : (k % 2 == 0) = false := by rw [h2]; rfl
      have t2 : (l : Int) < 1 := by omega
      clear h2 h3
      go_enter Try.func57, Try.ntmps57
      go_wp2_with fail
      go_ret
      exact ⟨by rw [HE.out]; rfl, Below.refl _ _⟩
    · have t1 : (k % 2 == 0) = false := by rw [h2]; rfl
      have t2 : (1 : Int) ≤ (l : Int) := by omega
      have t3 : (8 : Int) < (l : Int) := by omega
      clear h2 h3 h4
      go_enter Try.func57, Try.ntmps57
      go_wp2_with fail
      go_ret
      exact ⟨by rw [HE.out]; rfl, Below.refl _ _⟩
  case pos =>
    obtain ⟨hs, hl1, hl8⟩ := hg
    have HS := Lib.hid hs
    unfold seedB at hs
    obtain ⟨h0, h1, h2⟩ := of_decide_eq_true hs
    have t1 : (k % 2 == 0) = false := by rw [h2]; rfl
    have t2 : (1 : Int) ≤ (l : Int) := by omega
    have t3 : (l : Int) ≤ 8 := by omega
    have HEQ : Hid (prmB k L = allOk L) := Lib.hid (by
      unfold prmB rprB
      rw [HS.out, decide_eq_true (by rw [← HL.out]; exact ⟨hl1, hl8⟩), Bool.and_true, Bool.true_and])
    clear hs h2
    go_enter Try.func57, Try.ntmps57
    go_wp2_with fail
    go_loopw [30] (fun z wr => ∃ i : Nat, i ≤ l ∧ z = .int .i64 (i : Int) ∧ Hid (∀ j, j < i → okAt L j = true) ∧ Hid (Below w.heap.size w wr)) (fun z _ => l - (intOf z).toNat)
    case atStart => exact ⟨0, by omega, rfl, Lib.hid (fun j hj => by omega), Lib.hid (Below.refl _ _)⟩
    case round =>
      obtain ⟨i, hi, rfl, hok, hbw⟩ := hrel
      by_cases hlt : i < l
      · obtain ⟨b, off, p, hx, rfl, hB, g1⟩ := (HR.out.below hbw.out).at_ hlt
        obtain ⟨x1, x2⟩ := HW.out p (List.mem_of_getElem? hx)
        have hii : (i : Int) < (l : Int) := by omega
        have hlci : (l : Int) ≤ (c : Int) := by omega
        have HPR : Hid (∀ w', p ≤ 10000 → Calls Try.prog 66 #[.int .i64 p] w' fun e w'' => e = .returned (.bool (prB p)) ∧ w' = w'') := Lib.hid (fun w' hp => isPrime_any p w' x1 hp)
        obtain ⟨q1, hq1⟩ : ∃ q1, prB p = q1 := ⟨_, rfl⟩
        obtain ⟨q2, hq2⟩ : ∃ q2, decide (p ∈ L.take i) = q2 := ⟨_, rfl⟩
        have HCO : Hid (∀ w', Below w.heap.size w w' → Calls Try.prog 67 #[.slice (some ⟨b, off, none⟩) i c, .int .i64 p] w' fun e w'' => e = .returned (.bool q2) ∧ Below w'.heap.size w' w'') := Lib.hid (fun w' hb => by
          rw [← hq2]
          exact contains_any _ i c (L.take i) p w' ((HR.out.next hb).take (by omega)) (by omega))
        have HAT : Hid (okAt L i = (decide (3 ≤ p ∧ p < 300) && q1 && !q2)) := Lib.hid (by rw [okAt_at hx, hq1, hq2])
        have HX := Lib.hid hx
        rw [hq1] at HPR
        clear hx hq1 hq2
        by_cases h3 : 3 ≤ p
        case neg =>
          have HF : Hid (allOk L = false) := Lib.hid (allOk_no HX.out (by rw [HAT.out, decide_eq_false (fun h => h3 h.1)]; rfl))
          have h3' : p < 3 := by omega
          clear h3
          go_wp2_with fail
          go_ret
          exact ⟨by rw [HEQ.out, HF.out]; rfl, hbw.out⟩
        case pos =>
          by_cases h300 : p < 300
          case neg =>
            have HF : Hid (allOk L = false) := Lib.hid (allOk_no HX.out (by rw [HAT.out, decide_eq_false (fun h => h300 h.2)]; rfl))
            have h3' : 300 ≤ p := by omega
            clear h300
            go_wp2_with fail
            go_ret
            exact ⟨by rw [HEQ.out, HF.out]; rfl, hbw.out⟩
          case pos =>
            have HD : Hid (okAt L i = (q1 && !q2)) := Lib.hid (by rw [HAT.out, decide_eq_true ⟨h3, h300⟩, Bool.true_and])
            rcases q1 with _ | _
            · have HF : Hid (allOk L = false) := Lib.hid (allOk_no HX.out (by rw [HD.out]; rfl))
              go_wp2_with fail
              refine (HPR.out _ (by omega)).mono ?_; rintro e w1 ⟨rfl, rfl⟩
              go_wp2_with fail
              go_ret
              exact ⟨by rw [HEQ.out, HF.out]; rfl, hbw.out⟩
            · go_wp2_with fail
              refine (HPR.out _ (by omega)).mono ?_; rintro e w1 ⟨rfl, rfl⟩
              go_wp2_with fail
              refine (HCO.out _ hbw.out).mono ?_; rintro e w2 ⟨rfl, hb2⟩
              have HB2 := Lib.hid (bt hbw.out hb2)
              clear hb2
              rcases q2 with _ | _
              · have HN : Hid (∀ j, j < i + 1 → okAt L j = true) := Lib.hid (fun j hj => by
                  rcases Nat.lt_or_eq_of_le (Nat.le_of_lt_succ hj) with h5 | h5
                  · exact hok.out j h5
                  · rw [h5, HD.out]; rfl)
                go_wp2_with fail
                go_roundw
                case rel => exact ⟨i + 1, by omega, by go_num, HN, HB2⟩
                case measure => simp [intOf]; omega
              · have HF : Hid (allOk L = false) := Lib.hid (allOk_no HX.out (by rw [HD.out]; rfl))
                go_wp2_with fail
                go_ret
                exact ⟨by rw [HEQ.out, HF.out]; rfl, HB2.out⟩
      · have HT : Hid (allOk L = true) := Lib.hid (allOk_iff.2 (fun j hj => hok.out j (by rw [← HL.out] at hj; omega)))
        go_wp2_with fail
        go_ret
        exact ⟨by rw [HEQ.out, HT.out]; rfl, hbw.out⟩

set_option maxRecDepth 100000 in
set_option maxHeartbeats 1000000 in
theorem rprimes_any (A : Option Addr) (l c : Nat) (L : List Int) (w : World) (h : IRow w w.heap.size A l L) (hw : ∀ x ∈ L, -9223372036854775808 ≤ x ∧ x ≤ 9223372036854775807) (hlc : l ≤ c) (hc : c ≤ 9223372036854775807) :
    Calls Try.prog 37 #[.slice A l c] w fun e w' => e = .returned (.bool (rprB L)) ∧ Below w.heap.size w w' := by
  have HR := Lib.hid h
  have HL := Lib.hid h.1
  have HW := Lib.hid hw
  clear h hw
  have hl9 : l ≤ 9223372036854775807 := by omega
  have HNO : Hid (allOk L = false → rprB L = false) := Lib.hid (fun h => by unfold rprB; rw [h]; rfl)
  go_enter Try.func37, Try.ntmps37
  go_wp2_with fail
  go_loopw [10] (fun z wr => ∃ i : Nat, i ≤ l ∧ z = .int .i64 (i : Int) ∧ Hid (∀ j, j < i → okAt L j = true) ∧ Hid (Below w.heap.size w wr)) (fun z _ => l - (intOf z).toNat)
  case atStart => exact ⟨0, by omega, rfl, Lib.hid (fun j hj => by omega), Lib.hid (Below.refl _ _)⟩
  case round =>
    obtain ⟨i, hi, rfl, hok, hbw⟩ := hrel
    by_cases hlt : i < l
    · obtain ⟨b, off, p, hx, rfl, hB, g1⟩ := (HR.out.below hbw.out).at_ hlt
      obtain ⟨x1, x2⟩ := HW.out p (List.mem_of_getElem? hx)
      have hii : (i : Int) < (l : Int) := by omega
      have hlci : (l : Int) ≤ (c : Int) := by omega
      have HX := Lib.hid hx
      clear hx
      by_cases h3 : 3 ≤ p
      case neg =>
        have HF : Hid (rprB L = false) := Lib.hid (HNO.out (allOk_no HX.out (by rw [okAt_at HX.out, decide_eq_false (fun h => h3 h.1)]; rfl)))
        have h3' : p < 3 := by omega
        clear h3
        go_wp2_with fail
        go_ret
        exact ⟨by rw [HF.out]; rfl, hbw.out⟩
      case pos =>
        by_cases h300 : p < 300
        case neg =>
          have HF : Hid (rprB L = false) := Lib.hid (HNO.out (allOk_no HX.out (by rw [okAt_at HX.out, decide_eq_false (fun h => h300 h.2)]; rfl)))
          have h3' : 300 ≤ p := by omega
          clear h300
          go_wp2_with fail
          go_ret
          exact ⟨by rw [HF.out]; rfl, hbw.out⟩
        case pos =>
          obtain ⟨P, rfl⟩ : ∃ P : Nat, p = P := ⟨p.toNat, by omega⟩
          have hP3 : 3 ≤ P := by omega
          have hP300 : P < 300 := by omega
          go_wp2_with fail
          go_loopw [5] (fun z wr2 => ∃ d : Nat, 2 ≤ d ∧ d ≤ P ∧ z = .int .i64 (d : Int) ∧ Hid (∀ x, 2 ≤ x → x < d → P % x ≠ 0) ∧ wr2 = wr) (fun z _ => P - (intOf z).toNat)
          case atStart => exact ⟨2, by omega, by omega, rfl, Lib.hid (fun x h1 h2 => by omega), rfl⟩
          case round =>
            obtain ⟨d, hd2, hdP, rfl, hnd, rfl⟩ := hrel
            have e1 : (P : Int) % (d : Int) = ((P % d : Nat) : Int) := (Int.natCast_emod _ _).symm
            by_cases hdl : d < P
            · have hdli : (d : Int) < (P : Int) := by omega
              have hd2i : (2 : Int) ≤ (d : Int) := by omega
              by_cases hm : P % d = 0
              · have t1 : ((P : Int) % (d : Int) == 0) = true := by rw [e1, hm]; rfl
                have HF : Hid (rprB L = false) := Lib.hid (HNO.out (allOk_no HX.out (by
                  rw [okAt_at HX.out, prB_no (fun hp => prm_found hd2 hdl hm (by rwa [Int.toNat_natCast] at hp)), Bool.and_false]; rfl)))
                clear hm e1
                go_wp2_with fail
                go_ret
                exact ⟨by rw [HF.out]; rfl, hbw.out⟩
              · have t1 : ((P : Int) % (d : Int) == 0) = false := by rw [e1]; exact beq_eq_false_iff_ne.2 (fun e => hm (Int.ofNat.inj e))
                have HN : Hid (∀ x, 2 ≤ x → x < d + 1 → P % x ≠ 0) := Lib.hid (fun x h1 h2 => by
                  rcases Nat.lt_or_eq_of_le (Nat.le_of_lt_succ h2) with h5 | h5
                  · exact hnd.out x h1 h5
                  · rw [h5]; exact hm)
                clear hm e1
                go_wp2_with fail
                go_roundw
                case rel => exact ⟨d + 1, by omega, by omega, by go_num, HN, trivial⟩
                case measure => simp [intOf]; omega
            · have hdP2 : d = P := by omega
              have HPR : Hid (prB (P : Int) = true) := Lib.hid (prB_yes (by rw [Int.toNat_natCast]; exact prm_end (by omega) (fun x h1 h2 => hnd.out x h1 (by omega))))
              have HAT : Hid (okAt L i = !(decide ((P : Int) ∈ L.take i))) := Lib.hid (by rw [okAt_at HX.out, decide_eq_true ⟨h3, h300⟩, HPR.out]; rfl)
              have hdPi : ¬ (d : Int) < (P : Int) := by omega
              clear e1 hdl hdP2
              go_wp2_with fail
              go_loopw [34] (fun z wr2 => ∃ j : Nat, j ≤ i ∧ z = .int .i64 (j : Int) ∧ Hid (¬ (P : Int) ∈ L.take j) ∧ wr2 = wr) (fun z _ => i - (intOf z).toNat)
              case atStart => exact ⟨0, by omega, rfl, Lib.hid (by simp), rfl⟩
              case round =>
                obtain ⟨j, hj, rfl, hnm, rfl⟩ := hrel
                by_cases hjl : j < i
                · obtain ⟨b', off', q, hq, heq, hB', g2⟩ := (HR.out.below hbw.out).at_ (k := j) (by omega)
                  injection heq with heq
                  injection heq with e1 e2 _
                  subst e1
                  subst e2
                  have hji : (j : Int) < (i : Int) := by omega
                  have HQ : Hid (L.take (j + 1) = L.take j ++ [q]) := Lib.hid (by
                    obtain ⟨h1, e1⟩ := List.getElem?_eq_some_iff.1 hq
                    rw [List.take_succ_eq_append_getElem h1, e1])
                  clear hq
                  by_cases hpq : (P : Int) = q
                  · have t1 : ((P : Int) == q) = true := by simpa using hpq
                    have HF : Hid (rprB L = false) := Lib.hid (HNO.out (allOk_no HX.out (by
                      rw [HAT.out, decide_eq_true]
                      · rfl
                      · have h5 : (P : Int) ∈ L.take (j + 1) := by rw [HQ.out, hpq]; simp
                        exact List.take_subset_take_left _ (by omega) h5)))
                    clear hpq
                    go_wp2_with fail
                    go_ret
                    exact ⟨by rw [HF.out]; rfl, hbw.out⟩
                  · have t1 : ((P : Int) == q) = false := by simpa using hpq
                    have HN : Hid (¬ (P : Int) ∈ L.take (j + 1)) := Lib.hid (by rw [HQ.out, List.mem_append]; simp [hpq]; exact hnm.out)
                    clear hpq
                    go_wp2_with fail
                    go_roundw
                    case rel => exact ⟨j + 1, by omega, by go_num, HN, trivial⟩
                    case measure => simp [intOf]; omega
                · have hji : j = i := by omega
                  subst hji
                  have HN : Hid (∀ x, x < j + 1 → okAt L x = true) := Lib.hid (fun x hx => by
                    rcases Nat.lt_or_eq_of_le (Nat.le_of_lt_succ hx) with h5 | h5
                    · exact hok.out x h5
                    · rw [h5, HAT.out, decide_eq_false hnm.out]; rfl)
                  go_wp2_with fail
                  go_roundw
                  case rel => exact ⟨j + 1, by omega, by go_num, HN, hbw⟩
                  case measure => simp [intOf]; omega
    · have HT : Hid (allOk L = true) := Lib.hid (allOk_iff.2 (fun j hj => hok.out j (by rw [← HL.out] at hj; omega)))
      have HQ : Hid (rprB L = decide (1 ≤ l ∧ l ≤ 8)) := Lib.hid (by unfold rprB; rw [HT.out, HL.out, Bool.true_and])
      by_cases h1 : 1 ≤ l
      · by_cases h8 : l ≤ 8
        · have HF : Hid (rprB L = true) := Lib.hid <| HQ.out.trans (decide_eq_true ⟨h1, h8⟩)
          have h1i : (1 : Int) ≤ (l : Int) := by omega
          have h8i : (l : Int) ≤ 8 := by omega
          go_wp2_with fail
          go_ret
          exact ⟨by rw [HF.out]; rfl, hbw.out⟩
        · have HF : Hid (rprB L = false) := Lib.hid <| HQ.out.trans (decide_eq_false (fun h => h8 h.2))
          have h1i : (1 : Int) ≤ (l : Int) := by omega
          have h8i : decide ((l : Int) ≤ 8) = false := decide_eq_false (by omega)
          go_wp2_with fail
          go_ret
          exact ⟨by rw [HF.out]; rfl, hbw.out⟩
      · have HF : Hid (rprB L = false) := Lib.hid <| HQ.out.trans (decide_eq_false (fun h => h1 h.1))
        have h1i : decide ((1 : Int) ≤ (l : Int)) = false := decide_eq_false (by omega)
        go_wp2_with fail
        go_ret
        exact ⟨by rw [HF.out]; rfl, hbw.out⟩
end Go.Proofs.Ytmmgidhaakkaoaa
