/- lift.Again at one divided by an odd prime: the walk. -/
import Derived.Test.YtdombadhmaanfaaAg2
namespace Go.Proofs.Ytdombadhmaanfaa
open Go Go.RowKit GhN Go.Maps

abbrev agOwn (w : World) (B k p : Nat) : Prop := w.ownsMap Try.prog 78 (plainElem Try.prog 3) B k (agD p k)

theorem agGrow {wr w2 : World} {b c : Nat} {a n s : Int} (h : RatBox wr b a n s) (hg : wr.grownBy w2 (some c)) (hne : b < c) : RatBox w2 b a n s :=
  h.of_block (hg.block _ h.2.2.2.2.2.2 (by intro e; injection e with e; omega)) hg.size
theorem lit_eq {x y : Int} (h : (DataW.lit (Lit.int .i64 x) : DataW Unit) = .lit (.int .i64 y)) : y = x := by
  injection h with h; injection h with _ h; exact h.symm

set_option maxRecDepth 100000 in
set_option maxHeartbeats 1000000 in
theorem again_any (p t : Nat) (w : World) (hp : Pr p) (h2 : p % 2 = 1) (hb : p ≤ 1000) (ht : Ord2 p t) :
    Calls Try.prog 39 #[.int .i64 1, .int .i64 (p : Int), .int .i64 2] w fun e w' => e = .returned (.tuple #[.int .i64 1, .int .i64 (t : Int), .int .i64 0]) ∧ Below w.heap.size w w' := by
  have hp1 : 2 ≤ p := hp.1
  have hp3 : 3 ≤ p := by omega
  have ht1 : 1 ≤ t := ht.1
  have htp : t ≤ p := by
    have h5 := (Ord2.half hp h2 ht).1
    rcases Nat.lt_or_ge p t with h6 | h6
    · rw [Nat.mod_eq_of_lt (by omega)] at h5; omega
    · exact h6
  have HP := Lib.hid hp
  have H2 := Lib.hid h2
  have HT := Lib.hid ht
  have HIN : Hid (∀ i j, i < j → j ≤ t → lseq p i ≠ lseq p j) := Lib.hid (fun i j h1 h3 => lseq_inj hp h2 ht h1 h3)
  have HBK : Hid (lseq p (t + 1) = lseq p 1) := Lib.hid (by rw [Nat.add_comm]; exact lseq_back hp h2 ht)
  have HBD : Hid (∀ n, -(p : Int) < lseq p n ∧ lseq p n ≤ 1) := Lib.hid (fun n => lseq_bd h2 (by omega) n)
  have HV : Hid (∀ w', Calls Try.prog 61 #[ratV 1 p 2] w' fun e w'' => e = .returned (.bool true) ∧ Below w'.heap.size w' w'') := Lib.hid (fun w' => valid_yes p w' (by omega) (by omega) (by omega))
  have hmm := @run_makeMap Try.prog
  clear hp h2 ht
  go_enter Try.func39, Try.ntmps39
  go_wp2_with fail
  refine (HV.out _).mono ?_; rintro e w1 ⟨rfl, hb1⟩
  have HB1 := Lib.hid (agbt ((Below.refl _ _).alloc (Nat.le_refl _) _) hb1)
  have hrb : RatBox w1 w.heap.size 1 p 2 := RatBox.below ⟨by simp, by simp, by simp, by simp, by simp, by simp, by simp⟩ hb1
  have HRB := Lib.hid hrb
  have hsz : w.heap.size < w1.heap.size := hrb.2.2.2.2.2.2
  clear hb1 hrb
  go_wp2_with fail
  have HOW : Hid (agOwn (w1.alloc (Obj.map #[] 0)) w1.heap.size 0 p) := Lib.hid (World.ownsMap_made w1 _ _ _)
  have HR0 : Hid (RatBox (w1.alloc (Obj.map #[] 0)) w.heap.size (lseq p 0) p 2) := Lib.hid (HRB.out.below ((Below.refl _ _).alloc (Nat.le_refl _) _))
  have HB2 : Hid (Below w.heap.size w (w1.alloc (Obj.map #[] 0))) := Lib.hid (HB1.out.alloc (by omega) _)
  clear hmm
  go_loopw [11] (fun n wr => ∃ k : Nat, k ≤ t + 1 ∧ n = .int .i64 (k : Int) ∧ Hid (agOwn wr w1.heap.size k p) ∧ Hid (RatBox wr w.heap.size (lseq p k) p 2) ∧ Hid (Below w.heap.size w wr)) (fun n _ => t + 1 - (intOf n).toNat)
  case atStart => exact ⟨0, by omega, rfl, HOW, HR0, HB2⟩
  case round =>
    obtain ⟨k, hk, rfl, how, hrb, hbw⟩ := hrel
    have hbd := HBD.out k
    obtain ⟨a, ha⟩ : ∃ a, lseq p k = a := ⟨_, rfl⟩
    rw [ha] at hrb hbd
    obtain ⟨c1, c2, c3, f1, f2, f3, hlt⟩ := hrb.out
    have HA := Lib.hid ha
    have HKEY : Hid (keyOf Try.prog 78 (ratV a p 2) = some (kOf p a)) := Lib.hid (kOf_key hb (by omega) (by omega))
    clear ha
    by_cases hlast : k = t + 1
    · have HH : Hid (has (agD p k) (kOf p a) = true ∧ (agD p k).atKey (kOf p a) (.lit (.int .i64 0)) = .lit (.int .i64 1)) := Lib.hid (by
        rw [← HA.out, hlast, HBK.out]
        exact agD_at H2.out (by omega) hb _ (t + 1) (by omega) (fun j hj h1 => HIN.out 1 j h1 (by omega)))
      have HKI : Hid ((k : Int) - 1 = (t : Int)) := Lib.hid (by omega)
      clear hlast
      go_wp2_with (at_lookup; refine wpList_lookup_own_ok_int _ rfl _ _ _ rfl 78 3 .i64 (Keyed.of_law ratlaw) Try.underlying79 Try.underlying3 (zeroI _) w1.heap.size k (agD p k) rfl how.out _ _ rfl HKEY.out ?_; intro c hat hwc; obtain rfl : c = 1 := lit_eq (HH.out.2.symm.trans hat); rw [HH.out.1]; clear hat hwc)
      go_ret3
      exact ⟨by rw [← HKI.out]; rfl, hbw.out⟩
    · have HH : Hid (has (agD p k) (kOf p a) = false) := Lib.hid (by
        rw [← HA.out]
        have h5 := HBD.out k
        exact agD_not H2.out (by omega) hb (by omega) (by omega) k (fun j hj => HIN.out j k hj (by omega)))
      have hk2 : k ≤ t := by omega
      have hkm : k < maxLen := by unfold maxLen; omega
      have HVAL : Hid (plainElem (H := Unit) Try.prog 3 (.int .i64 (k : Int)) = some (.lit (.int .i64 (k : Int)), [])) := Lib.hid (plainElem_int Try.underlying3 (WalkArith.wf_i64 ⟨by omega, by omega⟩))
      have HSTEP : Hid (∀ w', Calls Try.prog 62 #[ratV a p 2] w' fun e w'' => ∃ d : Int, e = .returned (.tuple #[.int .i64 d, ratV (lst p a) p 2]) ∧ Below w'.heap.size w' w'') := Lib.hid (fun w' => step_any a p w' (by omega) (by omega) (by omega) (by omega) (by have := H2.out; omega))
      clear hlast
      go_wp2_with (first
        | (at_lookup; refine wpList_lookup_own_ok_int _ rfl _ _ _ rfl 78 3 .i64 (Keyed.of_law ratlaw) Try.underlying79 Try.underlying3 (zeroI _) w1.heap.size k (agD p k) rfl how.out _ _ rfl HKEY.out ?_; intro c hat hwc; rw [HH.out]; clear hat hwc)
        | (at_mapUpdate; refine wpList_mapUpdate_own _ rfl _ _ _ 79 rfl 78 3 (Keyed.of_law ratlaw) Try.underlying79 _ w1.heap.size k (agD p k) rfl how.out hkm _ _ _ rfl rfl HKEY.out _ [] HVAL.out ?_; intro w2 hown2 hgrow2; have hb2 := agGrow hrb.out hgrow2 hsz; have HB2 := Lib.hid hb2; obtain ⟨d1, d2, d3, g1, g2, g3, hlt2⟩ := hb2; have HO2 := Lib.hid hown2; have HG2 := Lib.hid hgrow2; clear hown2 hgrow2 c1 c2 c3 f1 f2 f3))
      refine (HSTEP.out _).mono ?_; rintro e w3 ⟨d, rfl, hb3⟩
      have hrb3 := HB2.out.below hb3
      have HR3 := Lib.hid hrb3
      have HB3 := Lib.hid hb3
      obtain ⟨e1, e2, e3, j1, j2, j3, hlt3⟩ := hrb3
      clear hb3 d1 d2 d3 g1 g2 g3
      go_wp2_with fail
      go_roundw
      case rel =>
        refine ⟨k + 1, by omega, by go_num, ?_, ?_, ?_⟩
        · have o2 := HO2.out
          have o3 := o2.kept (row := none) ⟨HB3.out.os, HB3.out.tape, HB3.out.output, HB3.out.size, fun k hk _ => HB3.out.block k hk⟩ (by simp)
          have o4 := ((o3.setCell (a := ⟨w.heap.size, 0, none⟩) (by show w1.heap.size ≠ w.heap.size; omega) (.int .i64 (lst p a))).setCell (a := ⟨w.heap.size, 1, none⟩) (by show w1.heap.size ≠ w.heap.size; omega) (.int .i64 (p : Int))).setCell (a := ⟨w.heap.size, 2, none⟩) (by show w1.heap.size ≠ w.heap.size; omega) (.int .i64 2)
          refine Lib.hid ?_
          unfold agOwn
          rw [agD, HA.out]
          exact o4
        · refine Lib.hid ?_
          rw [lseq, HA.out]
          exact HR3.out.store _ _ _
        · have b2 : Below w.heap.size w w2 := hbw.out.grown HG2.out (by omega) (fun k e => by injection e with e; omega)
          exact Lib.hid ((((agbt b2 HB3.out).setCell (p := ⟨w.heap.size, 0, none⟩) (Nat.le_refl _) _).setCell (p := ⟨w.heap.size, 1, none⟩) (Nat.le_refl _) _).setCell (p := ⟨w.heap.size, 2, none⟩) (Nat.le_refl _) _)
      case measure => simp [intOf]; omega
end Go.Proofs.Ytdombadhmaanfaa
