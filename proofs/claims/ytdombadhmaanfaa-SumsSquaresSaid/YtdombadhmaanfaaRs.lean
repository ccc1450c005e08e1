/- SumsRoots and SumsSquares: the walks of the laws. -/
import Derived.Test.YtdombadhmaanfaaRo
namespace Go.Proofs.Ytdombadhmaanfaa
open Go Go.RowKit GhN

theorem lt_bd {a p : Nat} : rtV a p ≤ p := by
  unfold rtV; split <;> omega

theorem roots_walk (a p : Int) (w : World) (ha1 : -9223372036854775808 ≤ a) (ha2 : a ≤ 9223372036854775807) (hlo : -9223372036854775808 ≤ p) (hhi : p ≤ 9223372036854775807) :
    Calls Try.prog 5 #[.int .i64 a, .int .i64 p] w fun e w' => e = .returned (.bool true) ∧ Below w.heap.size w w' := by
  cases hp : opB 10000 p with
  | false =>
    have H1 : Hid (¬ (opB 10000 p = true ∧ 0 ≤ a ∧ a < p)) := Lib.hid (by rw [hp]; simp)
    have HP := Lib.hid hp
    clear hp
    go_enter Try.func5, Try.ntmps5
    go_wp2_with fail
    refine (root_no a p _ hlo H1.out).mono ?_; rintro e w1 ⟨rfl, rfl⟩
    go_wp2_with fail
    refine (least_no p _ hlo HP.out).mono ?_; rintro e w1 ⟨rfl, rfl⟩
    go_wp2_with fail
    refine (rprime_any p _).mono ?_; rw [HP.out]; rintro e w1 ⟨rfl, rfl⟩
    go_wp2_with fail
    refine (awake_any _).mono ?_; rintro e w2 ⟨rfl, hb2⟩
    go_wp2_with fail
    go_ret
    exact ⟨rfl, hb2⟩
  | true =>
    obtain ⟨p1, p2, p3⟩ := opB_yes hp
    have ho := opB_odd hp
    obtain ⟨P, rfl⟩ : ∃ P : Nat, p = P := ⟨p.toNat, by omega⟩
    obtain ⟨n, hn⟩ := ex_least p3 ho
    have HN := Lib.hid hn
    have HP := Lib.hid hp
    obtain ⟨n1, n2, _, _⟩ := hn
    clear ho p3
    by_cases h0 : 0 ≤ a
    · by_cases h1 : a < (P : Int)
      · obtain ⟨A, rfl⟩ : ∃ A : Nat, a = A := ⟨a.toNat, by omega⟩
        have hb := @lt_bd A P
        have he1 : 0 ≤ rtE A P := by rcases rtE_cases A P with e | e <;> omega
        have he2 : rtE A P ≤ 4 := by rcases rtE_cases A P with e | e <;> omega
        clear hp
        go_enter Try.func5, Try.ntmps5
        go_wp2_with fail
        refine (root_yes A P _ HP.out (by omega)).mono ?_; rintro e w1 ⟨rfl, rfl⟩
        go_wp2_with fail
        refine (least_yes P n _ HP.out HN.out).mono ?_; rintro e w1 ⟨rfl, hb1⟩
        go_wp2_with fail
        refine (rprime_any _ _).mono ?_; rw [HP.out]; rintro e w2 ⟨rfl, rfl⟩
        go_wp2_with fail
        refine (rleast_yes P n _ HP.out HN.out).mono ?_; rintro e w2 ⟨rfl, rfl⟩
        go_wp2_with fail
        refine (awake_any _).mono ?_; rintro e w2 ⟨rfl, hb2⟩
        go_wp2_with fail
        refine (rroot_any A P _ (by omega)).mono ?_; rintro e w3 ⟨rfl, rfl⟩
        go_wp2_with fail
        go_ret
        exact ⟨by simp, bt hb1 hb2⟩
      · have H1 : Hid (¬ (opB 10000 (P : Int) = true ∧ 0 ≤ a ∧ a < (P : Int))) := Lib.hid (fun h => h1 h.2.2)
        clear hp
        go_enter Try.func5, Try.ntmps5
        go_wp2_with fail
        refine (root_no a P _ hlo H1.out).mono ?_; rintro e w1 ⟨rfl, rfl⟩
        go_wp2_with fail
        refine (least_yes P n _ HP.out HN.out).mono ?_; rintro e w1 ⟨rfl, hb1⟩
        go_wp2_with fail
        refine (rprime_any _ _).mono ?_; rw [HP.out]; rintro e w2 ⟨rfl, rfl⟩
        go_wp2_with fail
        refine (rleast_yes P n _ HP.out HN.out).mono ?_; rintro e w2 ⟨rfl, rfl⟩
        go_wp2_with fail
        refine (awake_any _).mono ?_; rintro e w2 ⟨rfl, hb2⟩
        go_wp2_with fail
        go_ret
        exact ⟨rfl, bt hb1 hb2⟩
    · have H1 : Hid (¬ (opB 10000 (P : Int) = true ∧ 0 ≤ a ∧ a < (P : Int))) := Lib.hid (fun h => h0 h.2.1)
      clear hp
      go_enter Try.func5, Try.ntmps5
      go_wp2_with fail
      refine (root_no a P _ hlo H1.out).mono ?_; rintro e w1 ⟨rfl, rfl⟩
      go_wp2_with fail
      refine (least_yes P n _ HP.out HN.out).mono ?_; rintro e w1 ⟨rfl, hb1⟩
      go_wp2_with fail
      refine (rprime_any _ _).mono ?_; rw [HP.out]; rintro e w2 ⟨rfl, rfl⟩
      go_wp2_with fail
      refine (rleast_yes P n _ HP.out HN.out).mono ?_; rintro e w2 ⟨rfl, rfl⟩
      go_wp2_with fail
      refine (awake_any _).mono ?_; rintro e w2 ⟨rfl, hb2⟩
      go_wp2_with fail
      go_ret
      exact ⟨rfl, bt hb1 hb2⟩

theorem squares_walk (a p : Int) (w : World) (ha1 : -9223372036854775808 ≤ a) (ha2 : a ≤ 9223372036854775807) (hlo : -9223372036854775808 ≤ p) (hhi : p ≤ 9223372036854775807) :
    Calls Try.prog 6 #[.int .i64 a, .int .i64 p] w fun e w' => e = .returned (.bool true) ∧ Below w.heap.size w w' := by
  by_cases hall : opB 10000 p = true ∧ 0 ≤ a ∧ a < p
  · obtain ⟨hp, h0, h1⟩ := hall
    obtain ⟨p1, p2, p3⟩ := opB_yes hp
    have ho := opB_odd hp
    obtain ⟨P, rfl⟩ : ∃ P : Nat, p = P := ⟨p.toNat, by omega⟩
    obtain ⟨A, rfl⟩ : ∃ A : Nat, a = A := ⟨a.toNat, by omega⟩
    obtain ⟨n, hn⟩ := ex_least p3 ho
    have HN := Lib.hid hn
    have HP := Lib.hid hp
    have HR := Lib.hid p3
    have HO := Lib.hid ho
    have hom : P % 2 = 1 := ho
    have HV : ∀ d : Nat, d ≤ P → validB (d : Int) (P : Int) = true := fun d hd => validB_mk ⟨by omega, by omega, by omega, by omega, by omega⟩
    have HV := Lib.hid HV
    have HJ : Hid (∀ d : Nat, jz (d : Int) (P : Int) = jn d P) := Lib.hid (fun d => ji_nat d P)
    obtain ⟨n1, n2, n3, n4⟩ := hn
    have HL := Lib.hid (least_prime p3 ho n2 n3 n4)
    have hrt := jn_rt (a := A) p3 ho (by omega)
    have HD : Hid (∀ d, 2 ≤ d → d < n → jn d P = 1) := Lib.hid (fun d d1 d2 => jn_pm p3 (by omega) (by omega) (n4 d d1 d2))
    have HM : Hid (jn n P = -1) := Lib.hid n3
    have hjb : -1 ≤ jn A P ∧ jn A P ≤ 1 := by rcases jn_cases A P with e | e | e <;> omega
    obtain ⟨j1, j2⟩ := hjb
    have d1 : decide ((A : Int) < 0) = false := decide_eq_false (by omega)
    have d2 : decide ((n : Int) < 2) = false := decide_eq_false (by omega)
    have d3 : decide (P < n) = false := decide_eq_false (by omega)
    have d4 : decide (((rtV A P : Nat) : Int) < 0) = false := decide_eq_false (by omega)
    rcases rtE_cases A P with hE | hE
    · obtain ⟨r1, r2, r3⟩ := rt_some hE
      have r4 := root_half (p := P) (a := A) r1 r2 (fun y hy => r3 y hy)
      have q1 : 0 ≤ ((rtV A P : Nat) : Int) * ((rtV A P : Nat) : Int) := Int.mul_nonneg (by omega) (by omega)
      have q2 : ((rtV A P : Nat) : Int) * ((rtV A P : Nat) : Int) ≤ 100000000 := by
        have : ((rtV A P : Nat) : Int) * ((rtV A P : Nat) : Int) ≤ 10000 * 10000 := Int.mul_le_mul (by omega) (by omega) (by omega) (by omega)
        omega
      have d5 : decide ((P : Int) < 2 * ((rtV A P : Nat) : Int)) = false := decide_eq_false (by omega)
      have t2 : (((rtV A P : Nat) : Int) * ((rtV A P : Nat) : Int) % (P : Int) != (A : Int)) = false := by
        have : ((rtV A P : Nat) : Int) * ((rtV A P : Nat) : Int) % (P : Int) = ((rtV A P * rtV A P % P : Nat) : Int) := by rw [Int.natCast_emod, Int.natCast_mul]
        rw [this, r2]; simp
      have t3 : 0 ≤ jn A P := by
        have := hrt.1 hE
        rcases jn_cases A P with e | e | e
        · omega
        · omega
        · exact absurd e this
      have HE := Lib.hid hE
      clear hE hrt r2 r3 hp p3 ho hom n3 n4
      go_enter Try.func6, Try.ntmps6
      go_wp2_with fail
      refine (root_yes A P _ HP.out (by omega)).mono ?_; rw [HE.out]; rintro e w1 ⟨rfl, rfl⟩
      go_wp2_with fail
      refine (least_yes P n _ HP.out HN.out).mono ?_; rintro e w1 ⟨rfl, hb1⟩
      go_wp2_with fail
      refine (rprime_any _ _).mono ?_; rw [HP.out]; rintro e w2 ⟨rfl, rfl⟩
      go_wp2_with fail
      refine (jacobi_yes _ _ _ (HV.out A (by omega))).mono ?_; rw [HJ.out]; rintro e w2 ⟨rfl, hb2⟩
      go_wp2_with fail
      go_loopw [11] (fun x wr => ∃ k : Nat, 2 ≤ k ∧ k ≤ n ∧ x = .int .i64 (k : Int) ∧ Below w.heap.size w wr) (fun x _ => n - (intOf x).toNat)
      case atStart => exact ⟨2, by omega, by omega, rfl, bt hb1 hb2⟩
      case round =>
        obtain ⟨k, k1, k2, rfl, hb⟩ := hrel
        by_cases hkn : k < n
        · have HK : Hid (jn k P = 1) := Lib.hid (HD.out k k1 hkn)
          have t9 : ((n : Int) % (k : Int) == 0) = false := by
            have h1 := HL.out k k1 hkn
            have h2 : (n : Int) % (k : Int) = ((n % k : Nat) : Int) := by rw [Int.natCast_emod]
            rw [h2]; simp; omega
          go_wp2_with fail
          refine (jacobi_yes _ _ _ (HV.out k (by omega))).mono ?_; rw [HJ.out, HK.out]; rintro e w3 ⟨rfl, hb3⟩
          go_wp2_with fail
          go_roundw
          case rel => exact ⟨k + 1, by omega, by omega, by go_num, bt hb hb3⟩
          case measure => simp [intOf]; omega
        · have e : k = n := by omega
          subst e
          go_wp2_with fail
          refine (jacobi_yes _ _ _ (HV.out k (by omega))).mono ?_; rw [HJ.out, HM.out]; rintro e w3 ⟨rfl, hb3⟩
          go_wp2_with fail
          refine (awake_any _).mono ?_; rintro e w4 ⟨rfl, hb4⟩
          go_wp2_with fail
          go_ret
          exact ⟨rfl, bt (bt hb hb3) hb4⟩
    · have t3 : jn A P = -1 := by
        apply Classical.byContradiction; intro h
        have h2 : rtE A P = 0 := hrt.2 h
        rw [h2] at hE; exact absurd hE (by decide)
      have HT3 := Lib.hid t3
      have HE := Lib.hid hE
      have HRV : Hid (rtV A P = 0) := Lib.hid (by
        have : ¬ lr A P P 0 < P := fun g => by have h := HE.out; unfold rtE at h; rw [if_pos g] at h; exact absurd h (by decide)
        unfold rtV; rw [if_neg this])
      clear hE hrt hp p3 ho hom n3 n4 t3 j1 j2
      go_enter Try.func6, Try.ntmps6
      go_wp2_with fail
      refine (root_yes A P _ HP.out (by omega)).mono ?_; rw [HE.out, HRV.out]; rintro e w1 ⟨rfl, rfl⟩
      go_wp2_with fail
      refine (least_yes P n _ HP.out HN.out).mono ?_; rintro e w1 ⟨rfl, hb1⟩
      go_wp2_with fail
      refine (rprime_any _ _).mono ?_; rw [HP.out]; rintro e w2 ⟨rfl, rfl⟩
      go_wp2_with fail
      refine (jacobi_yes _ _ _ (HV.out A (by omega))).mono ?_; rw [HJ.out, HT3.out]; rintro e w2 ⟨rfl, hb2⟩
      go_wp2_with fail
      go_loopw [11] (fun x wr => ∃ k : Nat, 2 ≤ k ∧ k ≤ n ∧ x = .int .i64 (k : Int) ∧ Below w.heap.size w wr) (fun x _ => n - (intOf x).toNat)
      case atStart => exact ⟨2, by omega, by omega, rfl, bt hb1 hb2⟩
      case round =>
        obtain ⟨k, k1, k2, rfl, hb⟩ := hrel
        by_cases hkn : k < n
        · have HK : Hid (jn k P = 1) := Lib.hid (HD.out k k1 hkn)
          have t9 : ((n : Int) % (k : Int) == 0) = false := by
            have h1 := HL.out k k1 hkn
            have h2 : (n : Int) % (k : Int) = ((n % k : Nat) : Int) := by rw [Int.natCast_emod]
            rw [h2]; simp; omega
          go_wp2_with fail
          refine (jacobi_yes _ _ _ (HV.out k (by omega))).mono ?_; rw [HJ.out, HK.out]; rintro e w3 ⟨rfl, hb3⟩
          go_wp2_with fail
          go_roundw
          case rel => exact ⟨k + 1, by omega, by omega, by go_num, bt hb hb3⟩
          case measure => simp [intOf]; omega
        · have e : k = n := by omega
          subst e
          go_wp2_with fail
          refine (jacobi_yes _ _ _ (HV.out k (by omega))).mono ?_; rw [HJ.out, HM.out]; rintro e w3 ⟨rfl, hb3⟩
          go_wp2_with fail
          refine (awake_any _).mono ?_; rintro e w4 ⟨rfl, hb4⟩
          go_wp2_with fail
          go_ret
          exact ⟨rfl, bt (bt hb hb3) hb4⟩
  · have H1 := Lib.hid hall
    cases hp : opB 10000 p with
    | false =>
      have HP := Lib.hid hp
      clear hp hall
      go_enter Try.func6, Try.ntmps6
      go_wp2_with fail
      refine (root_no a p _ hlo H1.out).mono ?_; rintro e w1 ⟨rfl, rfl⟩
      go_wp2_with fail
      refine (least_no p _ hlo HP.out).mono ?_; rintro e w1 ⟨rfl, rfl⟩
      go_wp2_with fail
      refine (awake_any _).mono ?_; rintro e w2 ⟨rfl, hb2⟩
      go_wp2_with fail
      go_ret
      exact ⟨rfl, hb2⟩
    | true =>
      obtain ⟨p1, p2, p3⟩ := opB_yes hp
      have ho := opB_odd hp
      obtain ⟨P, rfl⟩ : ∃ P : Nat, p = P := ⟨p.toNat, by omega⟩
      obtain ⟨n, hn⟩ := ex_least p3 ho
      have HN := Lib.hid hn
      have HP := Lib.hid hp
      clear hn hp hall p3 ho
      go_enter Try.func6, Try.ntmps6
      go_wp2_with fail
      refine (root_no a P _ hlo H1.out).mono ?_; rintro e w1 ⟨rfl, rfl⟩
      go_wp2_with fail
      refine (least_yes P n _ HP.out HN.out).mono ?_; rintro e w1 ⟨rfl, hb1⟩
      go_wp2_with fail
      refine (awake_any _).mono ?_; rintro e w2 ⟨rfl, hb2⟩
      go_wp2_with fail
      go_ret
      exact ⟨rfl, bt hb1 hb2⟩
end Go.Proofs.Ytdombadhmaanfaa
