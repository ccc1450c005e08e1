/- The least number for whose count something is true: Left and Twice. -/
import Derived.Test.YtmmgidhaakkaoaaCoC
namespace Go.Proofs.Ytmmgidhaakkaoaa
open Go Go.RowKit

/-- what of a count is asked: Left asks whether it is 0, Twice whether it is above 1 -/
def askB : Bool → Nat → Bool
  | false, n => n == 0
  | true, n => decide (1 < n)

/-- the least number from x on, of k numbers, for which it is so -/
def fstL (t : Bool) (L : List (Int × Int)) : Nat → Nat → Option Nat
  | 0, _ => none
  | k + 1, x => if askB t (cnt L (x : Int)) then some x else fstL t L k (x + 1)

/-- what first returns -/
def fstV (t : Bool) (L : List (Int × Int)) : Int := match fstL t L (wh L 1) 0 with | some n => (n : Int) | none => 0
def fstE (t : Bool) (L : List (Int × Int)) : Int := match fstL t L (wh L 1) 0 with | some _ => 0 | none => 4

theorem left1_any (n : Nat) (w : World) (_hn : n ≤ 1000000) :
    Calls Try.prog 50 #[.int .i64 (n : Int)] w fun e w' => e = .returned (.bool (askB false n)) ∧ w = w' := by
  cases h : askB false n with
  | true =>
    have h1 : ((n : Int) == 0) = true := by have : n = 0 := by simpa [askB] using h
                                            simp [this]
    clear h
    go_enter Try.func50, Try.ntmps50
    go_wp2
    go_ret
    exact ⟨rfl, rfl⟩
  | false =>
    have h1 : ((n : Int) == 0) = false := by have : n ≠ 0 := by simpa [askB] using h
                                             simp; omega
    clear h
    go_enter Try.func50, Try.ntmps50
    go_wp2
    go_ret
    exact ⟨rfl, rfl⟩

theorem twice1_any (n : Nat) (w : World) (hn : n ≤ 1000000) :
    Calls Try.prog 51 #[.int .i64 (n : Int)] w fun e w' => e = .returned (.bool (askB true n)) ∧ w = w' := by
  cases h : askB true n with
  | true =>
    have h1 : (1 : Int) < n := by have : 1 < n := by simpa [askB] using h
                                  omega
    clear h
    go_enter Try.func51, Try.ntmps51
    go_wp2
    go_ret
    exact ⟨rfl, rfl⟩
  | false =>
    have h1 : ¬ (1 : Int) < n := by have : ¬ 1 < n := by simpa [askB] using h
                                    omega
    clear h
    go_enter Try.func51, Try.ntmps51
    go_wp2
    go_ret
    exact ⟨rfl, rfl⟩

/-- the closure of either -/
def askF : Bool → Nat
  | false => 50
  | true => 51

theorem Sys.bd {L : List (Int × Int)} (h : Sys L) : L.length ≤ 10 ∧ wh L 1 ≤ 10080 := ⟨h.2.1, h.2.2.2⟩

set_option maxHeartbeats 400000 in
theorem first_left (A : Option Addr) (l c : Nat) (L : List (Int × Int)) (w : World) (h : Row w w.heap.size A l L) (hs : Sys L) :
    Calls Try.prog 49 #[.slice A l c, .func (.func 50) #[] #[]] w fun e w' => e = .returned (.tuple #[.int .i64 (fstV false L), .int .i64 (fstE false L)]) ∧ Below w.heap.size w w' := by
  have hl10 := hs.2.1
  have hw := hs.2.2.2
  have hl : l ≤ 10 := by have := h.1; omega
  have HR := Lib.hid h
  have HM := Lib.hid (Sys.mods hs.2.2.1)
  have HF := Lib.hid (Sys.fits hs.2.2.1)
  obtain ⟨N, hN⟩ : ∃ N, wh L 1 = N := ⟨_, rfl⟩
  have HN := Lib.hid hN
  rw [hN] at hw
  clear h hs hN
  go_enter Try.func49, Try.ntmps49
  go_wp2_with fail
  refine (whole_any A l c L w HR.out HM.out (by omega)).mono ?_; rw [HN.out]; rintro e w1 ⟨rfl, hb1⟩
  go_wp2_with fail
  go_loopw [9] (fun x wr => ∃ k : Nat, k ≤ N ∧ x = .int .i64 (k : Int) ∧ Below w.heap.size w wr ∧ Hid (fstL false L N 0 = fstL false L (N - k) k)) (fun x _ => N - (intOf x).toNat)
  case atStart => exact ⟨0, by omega, rfl, hb1, Lib.hid rfl⟩
  case round =>
    obtain ⟨k, hk, rfl, hb, hf⟩ := hrel
    have hcl : cnt L (k : Int) ≤ 10 := Nat.le_trans (cnt_le _ _) hl10
    by_cases hlt : k < N
    · have HS : Hid (fstL false L (N - k) k = if askB false (cnt L (k : Int)) then some k else fstL false L (N - (k + 1)) (k + 1)) := Lib.hid (by
        have : N - k = (N - (k + 1)) + 1 := by omega
        rw [this]; rfl)
      have HRW : Hid (Row wr wr.heap.size A l L) := Lib.hid ((HR.out.below hb).more hb.size)
      cases hc : askB false (cnt L (k : Int)) with
      | true =>
        have HC := Lib.hid hc
        have HE : Hid (fstV false L = (k : Int) ∧ fstE false L = 0) := Lib.hid (by
          have e : fstL false L (wh L 1) 0 = some k := by rw [HN.out, hf.out, HS.out, if_pos HC.out]
          unfold fstV fstE; rw [e]; exact ⟨rfl, rfl⟩)
        clear hc
        go_wp2_with fail
        refine (count_any A l c L k wr HRW.out HF.out (by omega) (by omega) (by omega)).mono ?_; rintro e w2 ⟨rfl, hb2⟩
        go_wp2_with fail
        refine (left1_any _ _ (by omega)).mono ?_; rw [HC.out]; rintro e w3 ⟨rfl, rfl⟩
        go_wp2_with fail
        go_ret2
        exact ⟨by rw [HE.out.1, HE.out.2]; rfl, bt hb hb2⟩
      | false =>
        have HC := Lib.hid hc
        have HE : Hid (fstL false L N 0 = fstL false L (N - (k + 1)) (k + 1)) := Lib.hid (by rw [hf.out, HS.out, if_neg (by rw [HC.out]; decide)])
        clear hc
        go_wp2_with fail
        refine (count_any A l c L k wr HRW.out HF.out (by omega) (by omega) (by omega)).mono ?_; rintro e w2 ⟨rfl, hb2⟩
        go_wp2_with fail
        refine (left1_any _ _ (by omega)).mono ?_; rw [HC.out]; rintro e w3 ⟨rfl, rfl⟩
        go_wp2_with fail
        go_roundw
        case rel => exact ⟨k + 1, by omega, by go_num, bt hb hb2, HE⟩
        case measure => simp [intOf]; omega
    · have e : k = N := by omega
      subst e
      have HE : Hid (fstV false L = 0 ∧ fstE false L = 4) := Lib.hid (by
        have e : fstL false L (wh L 1) 0 = none := by rw [HN.out, hf.out, Nat.sub_self]; rfl
        unfold fstV fstE; rw [e]; exact ⟨rfl, rfl⟩)
      go_wp2_with fail
      go_ret2
      exact ⟨by rw [HE.out.1, HE.out.2]; rfl, hb⟩

set_option maxHeartbeats 400000 in
theorem first_twice (A : Option Addr) (l c : Nat) (L : List (Int × Int)) (w : World) (h : Row w w.heap.size A l L) (hs : Sys L) :
    Calls Try.prog 49 #[.slice A l c, .func (.func 51) #[] #[]] w fun e w' => e = .returned (.tuple #[.int .i64 (fstV true L), .int .i64 (fstE true L)]) ∧ Below w.heap.size w w' := by
  have hl10 := hs.2.1
  have hw := hs.2.2.2
  have hl : l ≤ 10 := by have := h.1; omega
  have HR := Lib.hid h
  have HM := Lib.hid (Sys.mods hs.2.2.1)
  have HF := Lib.hid (Sys.fits hs.2.2.1)
  obtain ⟨N, hN⟩ : ∃ N, wh L 1 = N := ⟨_, rfl⟩
  have HN := Lib.hid hN
  rw [hN] at hw
  clear h hs hN
  go_enter Try.func49, Try.ntmps49
  go_wp2_with fail
  refine (whole_any A l c L w HR.out HM.out (by omega)).mono ?_; rw [HN.out]; rintro e w1 ⟨rfl, hb1⟩
  go_wp2_with fail
  go_loopw [9] (fun x wr => ∃ k : Nat, k ≤ N ∧ x = .int .i64 (k : Int) ∧ Below w.heap.size w wr ∧ Hid (fstL true L N 0 = fstL true L (N - k) k)) (fun x _ => N - (intOf x).toNat)
  case atStart => exact ⟨0, by omega, rfl, hb1, Lib.hid rfl⟩
  case round =>
    obtain ⟨k, hk, rfl, hb, hf⟩ := hrel
    have hcl : cnt L (k : Int) ≤ 10 := Nat.le_trans (cnt_le _ _) hl10
    by_cases hlt : k < N
    · have HS : Hid (fstL true L (N - k) k = if askB true (cnt L (k : Int)) then some k else fstL true L (N - (k + 1)) (k + 1)) := Lib.hid (by
        have : N - k = (N - (k + 1)) + 1 := by omega
        rw [this]; rfl)
      have HRW : Hid (Row wr wr.heap.size A l L) := Lib.hid ((HR.out.below hb).more hb.size)
      cases hc : askB true (cnt L (k : Int)) with
      | true =>
        have HC := Lib.hid hc
        have HE : Hid (fstV true L = (k : Int) ∧ fstE true L = 0) := Lib.hid (by
          have e : fstL true L (wh L 1) 0 = some k := by rw [HN.out, hf.out, HS.out, if_pos HC.out]
          unfold fstV fstE; rw [e]; exact ⟨rfl, rfl⟩)
        clear hc
        go_wp2_with fail
        refine (count_any A l c L k wr HRW.out HF.out (by omega) (by omega) (by omega)).mono ?_; rintro e w2 ⟨rfl, hb2⟩
        go_wp2_with fail
        refine (twice1_any _ _ (by omega)).mono ?_; rw [HC.out]; rintro e w3 ⟨rfl, rfl⟩
        go_wp2_with fail
        go_ret2
        exact ⟨by rw [HE.out.1, HE.out.2]; rfl, bt hb hb2⟩
      | false =>
        have HC := Lib.hid hc
        have HE : Hid (fstL true L N 0 = fstL true L (N - (k + 1)) (k + 1)) := Lib.hid (by rw [hf.out, HS.out, if_neg (by rw [HC.out]; decide)])
        clear hc
        go_wp2_with fail
        refine (count_any A l c L k wr HRW.out HF.out (by omega) (by omega) (by omega)).mono ?_; rintro e w2 ⟨rfl, hb2⟩
        go_wp2_with fail
        refine (twice1_any _ _ (by omega)).mono ?_; rw [HC.out]; rintro e w3 ⟨rfl, rfl⟩
        go_wp2_with fail
        go_roundw
        case rel => exact ⟨k + 1, by omega, by go_num, bt hb hb2, HE⟩
        case measure => simp [intOf]; omega
    · have e : k = N := by omega
      subst e
      have HE : Hid (fstV true L = 0 ∧ fstE true L = 4) := Lib.hid (by
        have e : fstL true L (wh L 1) 0 = none := by rw [HN.out, hf.out, Nat.sub_self]; rfl
        unfold fstV fstE; rw [e]; exact ⟨rfl, rfl⟩)
      go_wp2_with fail
      go_ret2
      exact ⟨by rw [HE.out.1, HE.out.2]; rfl, hb⟩



theorem left_yes (A : Option Addr) (l c : Nat) (L : List (Int × Int)) (w : World) (h : Row w w.heap.size A l L) (hw : ∀ p ∈ L, -9223372036854775808 ≤ p.1 ∧ p.1 ≤ 9223372036854775807 ∧ -9223372036854775808 ≤ p.2 ∧ p.2 ≤ 9223372036854775807) (hl : l ≤ 9223372036854775807) (hv : validL L = true) :
    Calls Try.prog 15 #[.slice A l c] w fun e w' => e = .returned (.tuple #[.int .i64 (fstV false L), .int .i64 (fstE false L)]) ∧ Below w.heap.size w w' := by
  have HR := Lib.hid h
  have HW := Lib.hid hw
  have HV := Lib.hid hv
  clear h hw hv
  go_enter Try.func15, Try.ntmps15
  go_wp2_with fail
  refine (read_any A l c L w HR.out HW.out hl).mono ?_; rintro e w1 ⟨A1, n1, c1, rfl, hr, hb1⟩
  rw [HV.out]
  have HR1 := Lib.hid (hr HV.out)
  clear hr
  go_wp2_with fail
  refine (first_left A1 n1 c1 L w1 HR1.out (validL_yes HV.out)).mono ?_; rintro e w2 ⟨rfl, hb2⟩
  go_wp2_with fail
  go_ret2
  exact ⟨rfl, bt hb1 hb2⟩

theorem left_no (A : Option Addr) (l c : Nat) (L : List (Int × Int)) (w : World) (h : Row w w.heap.size A l L) (hw : ∀ p ∈ L, -9223372036854775808 ≤ p.1 ∧ p.1 ≤ 9223372036854775807 ∧ -9223372036854775808 ≤ p.2 ∧ p.2 ≤ 9223372036854775807) (hl : l ≤ 9223372036854775807) (hv : validL L = false) :
    Calls Try.prog 15 #[.slice A l c] w fun e w' => e = .returned (.tuple #[.int .i64 0, .int .i64 2]) ∧ Below w.heap.size w w' := by
  have HR := Lib.hid h
  have HW := Lib.hid hw
  have HV := Lib.hid hv
  clear h hw hv
  go_enter Try.func15, Try.ntmps15
  go_wp2_with fail
  refine (read_any A l c L w HR.out HW.out hl).mono ?_; rintro e w1 ⟨A1, n1, c1, rfl, hr, hb1⟩
  rw [HV.out]
  clear hr
  go_wp2_with fail
  go_ret2
  exact ⟨rfl, hb1⟩


theorem twice_yes (A : Option Addr) (l c : Nat) (L : List (Int × Int)) (w : World) (h : Row w w.heap.size A l L) (hw : ∀ p ∈ L, -9223372036854775808 ≤ p.1 ∧ p.1 ≤ 9223372036854775807 ∧ -9223372036854775808 ≤ p.2 ∧ p.2 ≤ 9223372036854775807) (hl : l ≤ 9223372036854775807) (hv : validL L = true) :
    Calls Try.prog 17 #[.slice A l c] w fun e w' => e = .returned (.tuple #[.int .i64 (fstV true L), .int .i64 (fstE true L)]) ∧ Below w.heap.size w w' := by
  have HR := Lib.hid h
  have HW := Lib.hid hw
  have HV := Lib.hid hv
  clear h hw hv
  go_enter Try.func17, Try.ntmps17
  go_wp2_with fail
  refine (read_any A l c L w HR.out HW.out hl).mono ?_; rintro e w1 ⟨A1, n1, c1, rfl, hr, hb1⟩
  rw [HV.out]
  have HR1 := Lib.hid (hr HV.out)
  clear hr
  go_wp2_with fail
  refine (first_twice A1 n1 c1 L w1 HR1.out (validL_yes HV.out)).mono ?_; rintro e w2 ⟨rfl, hb2⟩
  go_wp2_with fail
  go_ret2
  exact ⟨rfl, bt hb1 hb2⟩

theorem twice_no (A : Option Addr) (l c : Nat) (L : List (Int × Int)) (w : World) (h : Row w w.heap.size A l L) (hw : ∀ p ∈ L, -9223372036854775808 ≤ p.1 ∧ p.1 ≤ 9223372036854775807 ∧ -9223372036854775808 ≤ p.2 ∧ p.2 ≤ 9223372036854775807) (hl : l ≤ 9223372036854775807) (hv : validL L = false) :
    Calls Try.prog 17 #[.slice A l c] w fun e w' => e = .returned (.tuple #[.int .i64 0, .int .i64 2]) ∧ Below w.heap.size w w' := by
  have HR := Lib.hid h
  have HW := Lib.hid hw
  have HV := Lib.hid hv
  clear h hw hv
  go_enter Try.func17, Try.ntmps17
  go_wp2_with fail
  refine (read_any A l c L w HR.out HW.out hl).mono ?_; rintro e w1 ⟨A1, n1, c1, rfl, hr, hb1⟩
  rw [HV.out]
  clear hr
  go_wp2_with fail
  go_ret2
  exact ⟨rfl, hb1⟩

end Go.Proofs.Ytmmgidhaakkaoaa
