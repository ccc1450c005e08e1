/- The reference's Whole and Valid; greatest common divisors of the reference and of the laws; awake. -/
import Derived.Test.YtmmgidhaakkaoaaCoD
namespace Go.Proofs.Ytmmgidhaakkaoaa
open Go Go.RowKit

theorem rgcd_any (a b : Nat) (w : World) (ha : a ≤ 4000000000000000000) (hb : b ≤ 4000000000000000000) :
    Calls Try.prog 55 #[.int .i64 (a : Int), .int .i64 (b : Int)] w fun e w' => e = .returned (.int .i64 ((Nat.gcd a b : Nat) : Int)) ∧ ∃ k, w' = w.drewN k := by
  go_enter Try.func55, Try.ntmps55
  go_wp2
  go_loopw [0, 1] (fun x y wr => ∃ c d : Nat, c ≤ 4000000000000000000 ∧ d ≤ 4000000000000000000 ∧ Hid (Nat.gcd c d = Nat.gcd a b) ∧ x = .int .i64 (c : Int) ∧ y = .int .i64 (d : Int) ∧ ∃ k, wr = w.drewN k) (fun _ y _ => (intOf y).toNat)
  case atStart => exact ⟨a, b, ha, hb, rfl, rfl, rfl, 0, rfl⟩
  case round =>
    obtain ⟨c, d, hc, hd, hg, rfl, rfl, nk, rfl⟩ := hrel
    by_cases h0 : d = 0
    · subst h0
      have HG : Hid (c = Nat.gcd a b) := Lib.hid (by have := hg.out; rwa [Nat.gcd_zero_right] at this)
      go_wp2
      all_goals
        go_ret
        refine ⟨?_, nk, rfl⟩
        rw [← HG.out]
        try rfl
    · have h1 : ((d : Int) == 0) = false := by simp; omega
      have h2 : (c : Int) % (d : Int) = ((c % d : Nat) : Int) := by omega
      have h3 : c % d < d := Nat.mod_lt _ (by omega)
      have H2 := Lib.hid h2
      clear h2
      go_wp2
      go_region
      go_wp2
      go_roundw
      case rel => exact ⟨d, c % d, hd, by omega, Lib.hid (by rw [← hg.out, Nat.gcd_comm d, ← Nat.gcd_rec, Nat.gcd_comm]), rfl, by rw [H2.out], nk + 1, rfl⟩
      case measure => have := H2.out; simp [intOf]; omega

theorem lgcd_any (a b : Nat) (w : World) (ha : a ≤ 4000000000000000000) (hb : b ≤ 4000000000000000000) :
    Calls Try.prog 20 #[.int .i64 (a : Int), .int .i64 (b : Int)] w fun e w' => e = .returned (.int .i64 ((Nat.gcd a b : Nat) : Int)) ∧ ∃ k, w' = w.drewN k := by
  go_enter Try.func20, Try.ntmps20
  go_wp2
  go_loopw [0, 1] (fun x y wr => ∃ c d : Nat, c ≤ 4000000000000000000 ∧ d ≤ 4000000000000000000 ∧ Hid (Nat.gcd c d = Nat.gcd a b) ∧ x = .int .i64 (c : Int) ∧ y = .int .i64 (d : Int) ∧ ∃ k, wr = w.drewN k) (fun _ y _ => (intOf y).toNat)
  case atStart => exact ⟨a, b, ha, hb, rfl, rfl, rfl, 0, rfl⟩
  case round =>
    obtain ⟨c, d, hc, hd, hg, rfl, rfl, nk, rfl⟩ := hrel
    by_cases h0 : d = 0
    · subst h0
      have HG : Hid (c = Nat.gcd a b) := Lib.hid (by have := hg.out; rwa [Nat.gcd_zero_right] at this)
      go_wp2
      all_goals
        go_ret
        refine ⟨?_, nk, rfl⟩
        rw [← HG.out]
        try rfl
    · have h1 : ((d : Int) == 0) = false := by simp; omega
      have h2 : (c : Int) % (d : Int) = ((c % d : Nat) : Int) := by omega
      have h3 : c % d < d := Nat.mod_lt _ (by omega)
      have H2 := Lib.hid h2
      clear h2
      go_wp2
      go_region
      go_wp2
      go_roundw
      case rel => exact ⟨d, c % d, hd, by omega, Lib.hid (by rw [← hg.out, Nat.gcd_comm d, ← Nat.gcd_rec, Nat.gcd_comm]), rfl, by rw [H2.out], nk + 1, rfl⟩
      case measure => have := H2.out; simp [intOf]; omega


/-- the reference's whole: 0 where a modulus is no modulus, or the whole is above 10080 -/
def whR : List (Int × Int) → Nat → Nat
  | [], n => n
  | p :: L, n => if p.2 < 1 ∨ 60 < p.2 then 0 else if 10080 < n / Nat.gcd n p.2.toNat * p.2.toNat then 0 else whR L (n / Nat.gcd n p.2.toNat * p.2.toNat)

theorem whR_bd : ∀ (L : List (Int × Int)) (n : Nat), n ≤ 10080 → whR L n ≤ 10080
  | [], n, h => h
  | p :: L, n, h => by
    unfold whR
    split
    · omega
    split
    · omega
    · exact whR_bd L _ (by omega)

theorem step_pos {n m : Nat} (hn : 1 ≤ n) (hm : 1 ≤ m) : 1 ≤ n / Nat.gcd n m * m := by
  have hg : 0 < Nat.gcd n m := Nat.gcd_pos_of_pos_left _ (by omega)
  have h1 : 0 < n / Nat.gcd n m := Nat.div_pos (Nat.le_of_dvd (by omega) (Nat.gcd_dvd_left _ _)) hg
  exact Nat.mul_pos h1 (by omega)

theorem whR_ok : ∀ (L : List (Int × Int)) (n : Nat), 1 ≤ n → n ≤ 10080 → Mods L → wh L n ≤ 10080 → whR L n = wh L n ∧ 1 ≤ wh L n
  | [], n, h1, h2, _, _ => ⟨rfl, h1⟩
  | p :: L, n, h1, h2, hm, hw => by
    have hp := hm p (List.mem_cons_self ..)
    unfold wh at hw ⊢
    unfold whR
    rw [if_neg (by omega)]
    by_cases hb : 10080 < n / Nat.gcd n p.2.toNat * p.2.toNat
    · rw [if_pos hb] at hw; omega
    · rw [if_neg hb] at hw ⊢
      rw [if_neg hb]
      exact whR_ok L _ (step_pos h1 (by omega)) (by omega) (fun q hq => hm q (List.mem_cons_of_mem _ hq)) hw

theorem whR_bad : ∀ (L : List (Int × Int)) (n : Nat), 1 ≤ n → n ≤ 10080 → ¬ (Mods L ∧ wh L n ≤ 10080) → whR L n = 0
  | [], n, h1, h2, h => absurd ⟨(fun p hp => (by cases hp)), h2⟩ h
  | p :: L, n, h1, h2, h => by
    unfold whR
    by_cases hp : p.2 < 1 ∨ 60 < p.2
    · rw [if_pos hp]
    · rw [if_neg hp]
      by_cases hb : 10080 < n / Nat.gcd n p.2.toNat * p.2.toNat
      · rw [if_pos hb]
      · rw [if_neg hb]
        refine whR_bad L _ (step_pos h1 (by omega)) (by omega) (fun ⟨hm, hw⟩ => h ⟨?_, ?_⟩)
        · intro q hq
          rcases List.mem_cons.1 hq with rfl | hq
          · omega
          · exact hm q hq
        · unfold wh; rw [if_neg hb]; exact hw

theorem whR_zero {L : List (Int × Int)} : whR L 1 = 0 ↔ ¬ (Mods L ∧ wh L 1 ≤ 10080) := by
  constructor
  · intro h ⟨hm, hw⟩
    have := whR_ok L 1 (by omega) (by omega) hm hw
    omega
  · exact whR_bad L 1 (by omega) (by omega)

set_option maxHeartbeats 400000 in
theorem rwhole_any (A : Option Addr) (l c : Nat) (L : List (Int × Int)) (w : World) (h : Row w w.heap.size A l L) (hw : ∀ p ∈ L, -9223372036854775808 ≤ p.1 ∧ p.1 ≤ 9223372036854775807 ∧ -9223372036854775808 ≤ p.2 ∧ p.2 ≤ 9223372036854775807) (hl : l ≤ 9223372036854775807) :
    Calls Try.prog 22 #[.slice A l c] w fun e w' => e = .returned (.int .i64 ((whR L 1 : Nat) : Int)) ∧ Below w.heap.size w w' := by
  have HR := Lib.hid h
  have HW := Lib.hid hw
  have HL := Lib.hid h.1
  clear h hw
  go_enter Try.func22, Try.ntmps22
  go_wp2_with fail
  go_loopw [3, 8] (fun o x wr => ∃ k v : Nat, k ≤ l ∧ 1 ≤ v ∧ v ≤ 10080 ∧ Hid (whR L 1 = whR (L.drop k) v) ∧ o = .int .i64 (v : Int) ∧ x = .int .i64 (k : Int) ∧ Below w.heap.size w wr) (fun _ x _ => l - (intOf x).toNat)
  case atStart => exact ⟨0, 1, by omega, by omega, by omega, rfl, rfl, rfl, Below.refl _ _⟩
  case round =>
    obtain ⟨k, v, hk, v1, v2, hv, rfl, rfl, hb⟩ := hrel
    by_cases hlt : k < l
    · obtain ⟨b, off, x, m, hx, rfl, hB, c1, c2⟩ := (HR.out.below hb).at_ hlt
      obtain ⟨_, _, m1, m2⟩ := HW.out (x, m) (List.mem_of_getElem? hx)
      simp only at m1 m2
      have hdrop : L.drop k = (x, m) :: L.drop (k + 1) := by
        obtain ⟨hk2, e⟩ := List.getElem?_eq_some_iff.1 hx
        rw [List.drop_eq_getElem_cons hk2, e]
      have hst : whR (L.drop k) v = if m < 1 ∨ 60 < m then 0 else if 10080 < v / Nat.gcd v m.toNat * m.toNat then 0 else whR (L.drop (k + 1)) (v / Nat.gcd v m.toNat * m.toNat) := by rw [hdrop]; rfl
      by_cases hm1 : m < 1
      · have HE : Hid (whR L 1 = 0) := Lib.hid (by rw [hv.out, hst, if_pos (.inl hm1)])
        clear hx hdrop hst
        go_wp2_with fail
        go_ret
        exact ⟨by rw [HE.out]; rfl, bt hb ((Below.refl _ _).alloc (Nat.le_refl _) _)⟩
      by_cases hm2 : 60 < m
      · have HE : Hid (whR L 1 = 0) := Lib.hid (by rw [hv.out, hst, if_pos (.inr hm2)])
        clear hx hdrop hst
        go_wp2_with fail
        go_ret
        exact ⟨by rw [HE.out]; rfl, bt hb ((Below.refl _ _).alloc (Nat.le_refl _) _)⟩
      rw [if_neg (by omega)] at hst
      obtain ⟨M, rfl⟩ : ∃ M : Nat, m = M := ⟨m.toNat, by omega⟩
      have HS : Hid (whR (L.drop k) v = if 10080 < v / Nat.gcd v M * M then 0 else whR (L.drop (k + 1)) (v / Nat.gcd v M * M)) := Lib.hid hst
      clear hx hdrop hst
      go_wp2_with fail
      go_quiet ((go_at_call 55; refine Calls.quiet_of (rgcd_any v M _ (by omega) (by omega))))
      have hN := lcm_step_bd (n := v) (m := M) v2 (by omega)
      have hN0 := step_pos (n := v) (m := M) v1 (by omega)
      have hW : wrap64 (wrap64 ((v : Int) / ((Nat.gcd v M : Nat) : Int)) * (M : Int)) = ((v / Nat.gcd v M * M : Nat) : Int) := by
        have h1 : (v : Int) / ((Nat.gcd v M : Nat) : Int) = ((v / Nat.gcd v M : Nat) : Int) := by rw [Int.natCast_ediv]
        have h2 : v / Nat.gcd v M ≤ v := Nat.div_le_self _ _
        rw [h1]
        rw [w64n _ (by omega), ← Int.natCast_mul, w64n _ (by omega)]
      rw [hW]
      clear hW
      obtain ⟨N, hNe⟩ : ∃ N, v / Nat.gcd v M * M = N := ⟨_, rfl⟩
      have HS2 : Hid (whR (L.drop k) v = if 10080 < N then 0 else whR (L.drop (k + 1)) N) := Lib.hid (by rw [HS.out, hNe])
      rw [hNe] at hN hN0 ⊢
      clear HS hNe
      by_cases hbig : 10080 < N
      · have HE : Hid (whR L 1 = 0) := Lib.hid (by rw [hv.out, HS2.out, if_pos hbig])
        go_wp2_with fail
        go_ret
        exact ⟨by rw [HE.out]; rfl, bt hb (bdN ((Below.refl _ _).alloc (Nat.le_refl _) _) _)⟩
      · have HE : Hid (whR L 1 = whR (L.drop (k + 1)) N) := Lib.hid (by rw [hv.out, HS2.out, if_neg hbig])
        go_wp2_with fail
        go_roundw
        case rel => exact ⟨k + 1, N, by omega, by omega, by omega, HE, rfl, by go_num, bt hb (bdN ((Below.refl _ _).alloc (Nat.le_refl _) _) _)⟩
        case measure => simp [intOf]; omega
    · have HE : Hid (whR L 1 = v) := Lib.hid (by rw [hv.out, List.drop_of_length_le (by rw [← HL.out]; omega)]; rfl)
      go_wp2_with fail
      go_ret
      exact ⟨by rw [HE.out]; rfl, hb⟩

/-- as validL, the reference's way -/
theorem validL_eq (L : List (Int × Int)) : validL L = true ↔ 1 ≤ L.length ∧ L.length ≤ 10 ∧ whR L 1 ≠ 0 ∧ ∀ p ∈ L, 0 ≤ p.1 ∧ p.1 < p.2 := by
  constructor
  · intro h
    obtain ⟨h1, h2, h3, h4⟩ := validL_yes h
    exact ⟨h1, h2, fun e => whR_zero.1 e ⟨Sys.mods h3, h4⟩, fun p hp => ⟨(h3 p hp).2.2.1, (h3 p hp).2.2.2⟩⟩
  · rintro ⟨h1, h2, h3, h4⟩
    obtain ⟨hm, hw⟩ : Mods L ∧ wh L 1 ≤ 10080 := Classical.byContradiction fun hc => h3 (whR_zero.2 hc)
    exact validL_mk ⟨h1, h2, fun p hp => ⟨(hm p hp).1, (hm p hp).2, (h4 p hp).1, (h4 p hp).2⟩, hw⟩

set_option maxHeartbeats 400000 in
theorem rvalid_any (A : Option Addr) (l c : Nat) (L : List (Int × Int)) (w : World) (h : Row w w.heap.size A l L) (hw : ∀ p ∈ L, -9223372036854775808 ≤ p.1 ∧ p.1 ≤ 9223372036854775807 ∧ -9223372036854775808 ≤ p.2 ∧ p.2 ≤ 9223372036854775807) (hl : l ≤ 9223372036854775807) :
    Calls Try.prog 18 #[.slice A l c] w fun e w' => e = .returned (.bool (validL L)) ∧ Below w.heap.size w w' := by
  have HR := Lib.hid h
  have HW := Lib.hid hw
  have HL := Lib.hid h.1
  clear h hw
  by_cases h1 : 1 ≤ l
  · by_cases h10 : l ≤ 10
    · by_cases hz : whR L 1 = 0
      · have HV : Hid (validL L = false) := Lib.hid (by
          cases e : validL L with
          | false => rfl
          | true => exact absurd hz ((validL_eq L).1 e).2.2.1)
        have HZ := Lib.hid hz
        clear hz
        go_enter Try.func18, Try.ntmps18
        go_wp2_with fail
        refine (rwhole_any A l c L w HR.out HW.out hl).mono ?_; rw [HZ.out]; rintro e w1 ⟨rfl, hb1⟩
        go_wp2_with fail
        go_ret
        exact ⟨by rw [HV.out]; rfl, hb1⟩
      · have hwb := whR_bd L 1 (by omega)
        have t1 : (((whR L 1 : Nat) : Int) == 0) = false := by simp; omega
        have HZ := Lib.hid hz
        clear hz
        go_enter Try.func18, Try.ntmps18
        go_wp2_with fail
        refine (rwhole_any A l c L w HR.out HW.out hl).mono ?_; rintro e w1 ⟨rfl, hb1⟩
        go_wp2_with fail
        go_loopw [20] (fun x wr => ∃ k : Nat, k ≤ l ∧ x = .int .i64 (k : Int) ∧ Below w.heap.size w wr ∧ Hid (∀ p ∈ L.take k, 0 ≤ p.1 ∧ p.1 < p.2)) (fun x _ => l - (intOf x).toNat)
        case atStart => exact ⟨0, by omega, rfl, hb1, Lib.hid (fun p hp => by simp at hp)⟩
        case round =>
          obtain ⟨k, hk, rfl, hb, hq⟩ := hrel
          by_cases hlt : k < l
          · obtain ⟨b, off, x, m, hx, rfl, hB, c1, c2⟩ := (HR.out.below hb).at_ hlt
            obtain ⟨x1, x2, m1, m2⟩ := HW.out (x, m) (List.mem_of_getElem? hx)
            simp only at x1 x2 m1 m2
            by_cases g1 : 0 ≤ x
            · by_cases g2 : x < m
              · have HQ : Hid (∀ p ∈ L.take (k + 1), 0 ≤ p.1 ∧ p.1 < p.2) := Lib.hid (fun p hp => by
                  rw [take_at hx, List.mem_append] at hp
                  rcases hp with hp | hp
                  · exact hq.out p hp
                  · simp at hp; subst hp; exact ⟨g1, g2⟩)
                clear hx
                go_wp2_with fail
                go_roundw
                case rel => exact ⟨k + 1, by omega, by go_num, bt hb ((Below.refl _ _).alloc (Nat.le_refl _) _), HQ⟩
                case measure => simp [intOf]; omega
              · have HV : Hid (validL L = false) := Lib.hid (by
                  cases e : validL L with
                  | false => rfl
                  | true => exact absurd (((validL_eq L).1 e).2.2.2 _ (List.mem_of_getElem? hx)).2 g2)
                clear hx
                go_wp2_with fail
                go_ret
                exact ⟨by rw [HV.out]; rfl, bt hb ((Below.refl _ _).alloc (Nat.le_refl _) _)⟩
            · have HV : Hid (validL L = false) := Lib.hid (by
                cases e : validL L with
                | false => rfl
                | true => exact absurd (((validL_eq L).1 e).2.2.2 _ (List.mem_of_getElem? hx)).1 g1)
              clear hx
              go_wp2_with fail
              go_ret
              exact ⟨by rw [HV.out]; rfl, bt hb ((Below.refl _ _).alloc (Nat.le_refl _) _)⟩
          · have HV : Hid (validL L = true) := Lib.hid ((validL_eq L).2 ⟨by rw [← HL.out]; exact h1, by rw [← HL.out]; exact h10, HZ.out, by
              have := hq.out
              rwa [List.take_of_length_le (by rw [← HL.out]; omega)] at this⟩)
            go_wp2_with fail
            go_ret
            exact ⟨by rw [HV.out]; rfl, hb⟩
    · have HV : Hid (validL L = false) := Lib.hid (validL_no (fun hs => by have := hs.2.1; have := HL.out; omega))
      go_enter Try.func18, Try.ntmps18
      go_wp2_with fail
      go_ret
      exact ⟨by rw [HV.out]; rfl, Below.refl _ _⟩
  · have HV : Hid (validL L = false) := Lib.hid (validL_no (fun hs => by have := hs.1; have := HL.out; omega))
    go_enter Try.func18, Try.ntmps18
    go_wp2_with fail
    go_ret
    exact ⟨by rw [HV.out]; rfl, Below.refl _ _⟩

theorem row_one {w : World} {b : Nat} {x m : Int} (hb : b < w.heap.size) (c1 : w.cell? ⟨b, 0, none⟩ = some (.int .i64 x)) (c2 : w.cell? ⟨b, 1, none⟩ = some (.int .i64 m)) :
    Row w w.heap.size (some ⟨b, 0, none⟩) 1 [(x, m)] := by
  refine ⟨rfl, fun _ => ⟨b, 0, rfl, hb, fun k p hp => ?_⟩⟩
  rcases k with _ | k
  · simp at hp; subst hp; exact ⟨c1, c2⟩
  · simp at hp
theorem row_two {w : World} {b : Nat} {x m y l : Int} (hb : b < w.heap.size) (c1 : w.cell? ⟨b, 0, none⟩ = some (.int .i64 x)) (c2 : w.cell? ⟨b, 1, none⟩ = some (.int .i64 m)) (c3 : w.cell? ⟨b, 2, none⟩ = some (.int .i64 y)) (c4 : w.cell? ⟨b, 3, none⟩ = some (.int .i64 l)) :
    Row w w.heap.size (some ⟨b, 0, none⟩) 2 [(x, m), (y, l)] := by
  refine ⟨rfl, fun _ => ⟨b, 0, rfl, hb, fun k p hp => ?_⟩⟩
  rcases k with _ | _ | k
  · simp at hp; subst hp; exact ⟨c1, c2⟩
  · simp at hp; subst hp; exact ⟨c3, c4⟩
  · simp at hp

theorem aw1 : validL [(0, 2), (1, 2)] = true := by decide
theorem aw2 : validL [(0, 2)] = true := by decide
theorem aw3 : fstV false [(0, 2), (1, 2)] = 0 ∧ fstE false [(0, 2), (1, 2)] = 4 := by decide
theorem aw4 : fstV false [(0, 2)] = 1 ∧ fstE false [(0, 2)] = 0 := by decide

theorem awake_any (w : World) : Calls Try.prog 19 #[] w fun e w' => e = .returned (.bool true) ∧ Below w.heap.size w w' := by
  go_enter Try.func19, Try.ntmps19
  go_wp2_with fail
  refine (left_yes (some ⟨w.heap.size, 0, none⟩) 2 2 [(0, 2), (1, 2)] _ (row_two (by simp) (by simp) (by simp) (by simp) (by simp)) (by decide) (by decide) aw1).mono ?_
  rw [aw3.1, aw3.2]; rintro e w1 ⟨rfl, hb1⟩
  have hs := hb1.size
  rw [World.size_alloc] at hs
  go_wp2_with fail
  refine (left_yes (some ⟨w1.heap.size, 0, none⟩) 1 1 [(0, 2)] _ (row_one (by simp) (by simp) (by simp)) (by decide) (by decide) aw2).mono ?_
  rw [aw4.1, aw4.2]; rintro e w2 ⟨rfl, hb2⟩
  go_wp2_with fail
  go_ret
  exact ⟨rfl, bt (bt ((Below.refl _ _).alloc (Nat.le_refl _) _) hb1) (bt ((Below.refl _ _).alloc (Nat.le_refl _) _) hb2)⟩
end Go.Proofs.Ytmmgidhaakkaoaa
