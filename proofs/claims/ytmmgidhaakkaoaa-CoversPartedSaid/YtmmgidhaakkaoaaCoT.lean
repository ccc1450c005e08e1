/- The reference: how often each number is covered; Left, Twice, Share and Needless by it. -/
import Derived.Test.YtmmgidhaakkaoaaCvS
import Derived.Test.YtmmgidhaakkaoaaIR
import Derived.Deep.OwnRows
namespace Go.Proofs.Ytmmgidhaakkaoaa
open Go Go.RowKit GhC

theorem fl_congr {f g : Nat → Int} {n : Nat} (h : ∀ k, k < n → f k = g k) : fl f n = fl g n := by
  apply List.ext_getElem?
  intro j
  by_cases hj : j < n
  · rw [fl_at _ hj, fl_at _ hj, h j hj]
  · simp [fl, hj]

theorem cov_ref {x m : Int} {n : Nat} (h : okP (x, m)) : (((n : Int) % m) == x) = cov (x, m) (n : Int) := by
  obtain ⟨h1, h2, h3, h4⟩ := h
  simp only at h1 h2 h3 h4
  unfold cov
  rw [Bool.eq_iff_iff, beq_iff_eq, beq_iff_eq]
  constructor
  · intro e
    rw [← e]
    exact Int.emod_eq_zero_of_dvd (Int.dvd_self_sub_emod ..)
  · intro e
    have e2 : (n : Int) % m = x % m := (Int.emod_eq_emod_iff_emod_sub_eq_zero).2 e
    rw [e2, Int.emod_eq_of_lt h3 h4]

/-- a new slice of W ints that reads as f -/
def GivesF (w : World) (W : Nat) (f : Nat → Int) (e : Ending) (w' : World) : Prop :=
  ∃ b, e = .returned (.slice (some ⟨b, 0, none⟩) W W) ∧ w.heap.size ≤ b ∧ FRow w' w'.heap.size (some ⟨b, 0, none⟩) W f ∧ Below w.heap.size w w'

set_option maxRecDepth 100000 in
set_option maxHeartbeats 1000000 in
theorem times_any (A : Option Addr) (l c : Nat) (L : List (Int × Int)) (w : World) (h : Row w w.heap.size A l L) (hs : Sys L) :
    Calls Try.prog 56 #[.slice A l c] w (GivesF w (wh L 1) (fun n => ((cnt L (n : Int) : Nat) : Int))) := by
  have hl10 := hs.2.1
  have hl : l ≤ 10 := by have := h.1; omega
  have HR := Lib.hid h
  have HL := Lib.hid h.1
  have HO := Lib.hid hs.2.2.1
  have HW : Hid (∀ p ∈ L, -9223372036854775808 ≤ p.1 ∧ p.1 ≤ 9223372036854775807 ∧ -9223372036854775808 ≤ p.2 ∧ p.2 ≤ 9223372036854775807) := Lib.hid (fun p hp => by
    obtain ⟨h1, h2, h3, h4⟩ := hs.2.2.1 p hp
    omega)
  have HWR := Lib.hid (whR_ok L 1 (by omega) (by omega) (Sys.mods hs.2.2.1) hs.2.2.2).1
  have hp := hs.pos
  have hp2 := hs.2.2.2
  obtain ⟨W, hW⟩ : ∃ W, wh L 1 = W := ⟨_, rfl⟩
  rw [hW] at hp hp2 HWR ⊢
  clear h hs hW
  go_enter Try.func56, Try.ntmps56
  go_wp2_with fail
  refine (rwhole_any A l c L w HR.out HW.out (by omega)).mono ?_; rw [HWR.out]; rintro e w1 ⟨rfl, hb1⟩
  have HB1 := Lib.hid hb1
  have H1 : Hid (w.heap.size ≤ w1.heap.size) := Lib.hid hb1.size
  have hmk := run_make_row' (P := Try.prog) 42 3 (.int .i64 0) 8 Try.underlying42 infoI rfl .i64 .i64 W (by omega) (by omega)
  obtain ⟨w2, hw2⟩ : ∃ w2, w1.alloc (Obj.cells (madeCells #[Value.int .i64 0] W) 3) = w2 := ⟨_, rfl⟩
  have hown : w2.ownsRow w.heap.size 3 1 (.slice (some ⟨w1.heap.size, 0, none⟩) W W) W (fl (fun _ => 0) W) := by
    have h0 := World.ownsRow_lit (base := w.heap.size) (e := 3) (size := 1) w1 (madeCells #[Value.int .i64 0] W) W H1.out (by unfold maxLen; omega) (by simp [madeCells])
    rw [hw2, toList_madeCells_one] at h0
    have e : List.replicate W (Value.int .i64 0) = fl (fun _ => 0) W := by
      apply List.ext_getElem?
      intro j
      by_cases hj : j < W <;> simp [fl, hj]
    rwa [e] at h0
  have HB2 : Hid (Below w.heap.size w w2) := Lib.hid (by rw [← hw2]; exact HB1.out.alloc H1.out _)
  have HOW := Lib.hid hown
  obtain ⟨G, hG⟩ : ∃ G, w1.heap.size = G := ⟨_, rfl⟩
  have HG : Hid (w.heap.size ≤ G) := Lib.hid (by have := H1.out; omega)
  rw [hG] at HOW
  clear hown hb1
  go_wp2_with fail
  try rw [hw2]
  try rw [hG]
  clear hw2 hG hmk HB1 H1
  go_loopw [12] (fun x wr => ∃ k : Nat, ∃ f : Nat → Int, k ≤ W ∧ x = .int .i64 (k : Int) ∧ Hid (wr.ownsRow w.heap.size 3 1 (.slice (some ⟨G, 0, none⟩) W W) W (fl f W)) ∧ Hid (∀ i, i < k → f i = ((cnt L (i : Int) : Nat) : Int)) ∧ Hid (∀ i, k ≤ i → f i = 0) ∧ Below w.heap.size w wr) (fun x _ => W - (intOf x).toNat)
  case atStart => exact ⟨0, fun _ => 0, by omega, rfl, HOW, Lib.hid (fun i h => by omega), Lib.hid (fun i _ => rfl), HB2.out⟩
  case round =>
    obtain ⟨k, f, hk, rfl, how, hf1, hf2, hb⟩ := hrel
    obtain ⟨wo, hwo⟩ : ∃ wo : World, wo = wr := ⟨_, rfl⟩
    subst hwo
    by_cases hlt : k < W
    · go_wp2_with fail
      go_loopw [17] (fun z wr => ∃ j : Nat, ∃ f : Nat → Int, j ≤ l ∧ z = .int .i64 (j : Int) ∧ Hid (wr.ownsRow w.heap.size 3 1 (.slice (some ⟨G, 0, none⟩) W W) W (fl f W)) ∧ Hid (∀ i, i < k → f i = ((cnt L (i : Int) : Nat) : Int)) ∧ Hid (f k = ((cnt (L.take j) (k : Int) : Nat) : Int)) ∧ Hid (∀ i, k < i → f i = 0) ∧ Below w.heap.size w wr) (fun z _ => l - (intOf z).toNat)
      case atStart => exact ⟨0, f, by omega, rfl, how, hf1, Lib.hid (by rw [hf2.out k (Nat.le_refl _)]; rfl), Lib.hid (fun i hi => hf2.out i (by omega)), hb⟩
      case round =>
        obtain ⟨j, f, hj, rfl, how, hf1, hf3, hf2, hbj⟩ := hrel
        by_cases hjl : j < l
        · obtain ⟨b, off, x, m, hx, rfl, hB, g1, g2⟩ := (HR.out.below hbj).at_ hjl
          have hok := HO.out (x, m) (List.mem_of_getElem? hx)
          have hcr := cov_ref (n := k) hok
          obtain ⟨m1, m2, x1, x2⟩ := hok
          simp only at m1 m2 x1 x2
          have HS := Lib.hid (cnt_take hx (k : Int))
          have hct : cnt (L.take j) (k : Int) ≤ 10 := Nat.le_trans (cnt_le _ _) (by rw [List.length_take]; omega)
          obtain ⟨C, hC⟩ : ∃ C, cnt (L.take j) (k : Int) = C := ⟨_, rfl⟩
          have HF3 : Hid (f k = (C : Int)) := Lib.hid (by rw [hf3.out, hC])
          have g3 := how.out.cellAt k (by omega)
          rw [fl_at _ hlt, HF3.out] at g3
          have g4 := how.out.frozenAt k
          have htm : (k : Int).tmod m = (k : Int) % m := Int.tmod_eq_emod_of_nonneg (by omega)
          have HSC : Hid (cnt (L.take (j + 1)) (k : Int) = C + if cov (x, m) (k : Int) then 1 else 0) := Lib.hid (by rw [HS.out, hC])
          rw [hC] at hct
          have hki : (k : Int) < (W : Int) := by omega
          have hgs : G < wr.heap.size := (how.out.lt G rfl).2
          clear hx hC HS
          cases hc : cov (x, m) (k : Int) with
          | true =>
            have t1 : ((k : Int).tmod m == x) = true := by rw [htm, hcr, hc]
            have t2 : ((k : Int) % m == x) = true := by rw [hcr, hc]
            have HC := Lib.hid hc
            clear hc hcr htm
            go_wp2_with fail
            go_quiet (fail)
            go_wp2_with fail
            go_roundw
            case rel => exact ⟨j + 1, fun i => if i = k then ((C : Int) + 1) else f i, by omega, by go_num, Lib.hid (by
                rw [← fl_set]
                exact (World.ownsRow.stored (how.out.alloc (Obj.cells #[Value.int IntKind.i64 x, Value.int IntKind.i64 m] 29)) k _).1),
              Lib.hid (fun i hi => by simp only; rw [if_neg (by omega)]; exact hf1.out i hi), Lib.hid (by simp only [if_true]; rw [HSC.out, HC.out]; go_num),
              Lib.hid (fun i hi => by simp only; rw [if_neg (by omega)]; exact hf2.out i hi), (bdN (hbj.alloc hbj.size _) _).setCell (p := ⟨G, k, none⟩) HG.out _⟩
            case measure => simp [intOf]; omega
          | false =>
            have t1 : ((k : Int).tmod m == x) = false := by rw [htm, hcr, hc]
            have t2 : ((k : Int) % m == x) = false := by rw [hcr, hc]
            have HC := Lib.hid hc
            clear hc hcr htm
            go_wp2_with fail
            go_quiet (fail)
            go_wp2_with fail
            go_roundw
            case rel => exact ⟨j + 1, f, by omega, by go_num, Lib.hid (how.out.alloc (Obj.cells #[Value.int IntKind.i64 x, Value.int IntKind.i64 m] 29)),
              hf1, Lib.hid (by rw [HSC.out, HC.out, HF3.out]; rfl), hf2, bdN (hbj.alloc hbj.size _) _⟩
            case measure => simp [intOf]; omega
        · have e : j = l := by omega
          subst e
          have HT : Hid (L.take j = L) := Lib.hid (List.take_of_length_le (by rw [← HL.out]; omega))
          go_wp2_with fail
          go_roundw
          case rel => exact ⟨k + 1, f, by omega, by go_num, how, Lib.hid (fun i hi => by
            by_cases h : i = k
            · subst h; rw [hf3.out, HT.out]
            · exact hf1.out i (by omega)), Lib.hid (fun i hi => hf2.out i (by omega)), hbj⟩
          case measure => simp [intOf]; omega
    · have e : k = W := by omega
      subst e
      go_wp2_with fail
      go_ret
      have hfe : fl f k = fl (fun n => ((cnt L (n : Int) : Nat) : Int)) k := fl_congr (fun i hi => hf1.out i hi)
      have how2 := how.out
      rw [hfe] at how2
      exact ⟨G, rfl, HG.out, FRow.of_own how2, hb⟩
end Go.Proofs.Ytmmgidhaakkaoaa
