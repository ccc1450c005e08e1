/- Needless: the pairs that can be left out. -/
import Derived.Test.YtmmgidhaakkaoaaCvN
import Derived.Test.YtmmgidhaakkaoaaIR
import Derived.Test.YtmmgidhaakkaoaaCoF
namespace Go.Proofs.Ytmmgidhaakkaoaa
open Go Go.RowKit GhC

theorem own_bel {w w' : World} {base sz n : Nat} {e : TypeId} {v : Value} {xs : List Value} (h : w.ownsRow base e sz v n xs) (hb : Below w.heap.size w w') : w'.ownsRow base e sz v n xs :=
  h.kept (row := none) ⟨hb.os, hb.tape, hb.output, hb.size, fun k hk _ => hb.block k hk⟩ (by cases v.ownBlock <;> simp)
theorem own_below' {w wr w1 : World} {base B : Nat} {e : TypeId} {sz n : Nat} {v : Value} {xs : List Value} (h : wr.ownsRow base e sz v n xs) (hg : wr.grownBy w1 v.ownBlock) (hb : Below B w wr) (hB : B ≤ base) (hs : base ≤ wr.heap.size) : Below B w w1 := by
  refine hb.grown hg (by omega) (fun g e => ?_)
  rcases h.2 with ⟨rfl, _⟩ | ⟨g', cap, cur, rfl, hb, _⟩
  · cases e
  · injection e with e; subst e; exact Nat.le_trans hB hb
theorem own_sl {w : World} {base n sz : Nat} {e : TypeId} {v : Value} {xs : List Value} (h : w.ownsRow base e sz v n xs) : ∃ A c, v = .slice A n c ∧ (A = none → n = 0) := by
  rcases h.2 with ⟨rfl, h0⟩ | ⟨g, cap, cur, rfl, _⟩
  · exact ⟨none, 0, by rw [h0], fun _ => h0⟩
  · exact ⟨_, cap, rfl, fun e => by cases e⟩

/-- a result that is a slice of ints, and an error's number -/
def GivesI2 (w : World) (L : List Int) (E : Int) (e : Ending) (w' : World) : Prop :=
  ∃ A n c, e = .returned (.tuple #[.slice A n c, .int .i64 E]) ∧ IRow w' w'.heap.size A n L ∧ Below w.heap.size w w'
def GivesI (w : World) (L : List Int) (e : Ending) (w' : World) : Prop :=
  ∃ A n c, e = .returned (.slice A n c) ∧ IRow w' w'.heap.size A n L ∧ Below w.heap.size w w'

theorem needless_no (A : Option Addr) (l c : Nat) (L : List (Int × Int)) (w : World) (h : Row w w.heap.size A l L) (hw : ∀ p ∈ L, -9223372036854775808 ≤ p.1 ∧ p.1 ≤ 9223372036854775807 ∧ -9223372036854775808 ≤ p.2 ∧ p.2 ≤ 9223372036854775807) (hl : l ≤ 9223372036854775807) (hv : validL L = false) :
    Calls Try.prog 27 #[.slice A l c] w fun e w' => e = .returned (.tuple #[.slice none 0 0, .int .i64 2]) ∧ Below w.heap.size w w' := by
  have HR := Lib.hid h
  have HW := Lib.hid hw
  have HV := Lib.hid hv
  clear h hw hv
  go_enter Try.func27, Try.ntmps27
  go_wp2_with fail
  refine (read_any A l c L w HR.out HW.out hl).mono ?_; rintro e w1 ⟨A1, n1, c1, rfl, hr, hb1⟩
  rw [HV.out]
  clear hr
  go_wp2_with fail
  go_ret2
  exact ⟨rfl, hb1⟩

set_option maxRecDepth 100000 in
set_option maxHeartbeats 1000000 in
theorem needless_yes (A : Option Addr) (l c : Nat) (L : List (Int × Int)) (w : World) (h : Row w w.heap.size A l L) (hw : ∀ p ∈ L, -9223372036854775808 ≤ p.1 ∧ p.1 ≤ 9223372036854775807 ∧ -9223372036854775808 ≤ p.2 ∧ p.2 ≤ 9223372036854775807) (hl : l ≤ 9223372036854775807) (hv : validL L = true) :
    Calls Try.prog 27 #[.slice A l c] w (GivesI2 w (ndUp L L.length) 0) := by
  have hs := validL_yes hv
  have HR := Lib.hid h
  have HW := Lib.hid hw
  have HV := Lib.hid hv
  have HM := Lib.hid (Sys.mods hs.2.2.1)
  have HF := Lib.hid (Sys.fits hs.2.2.1)
  have HO := Lib.hid hs.2.2.1
  have hN2 := hs.2.2.2
  have hl10 := hs.2.1
  obtain ⟨N, hN⟩ : ∃ N, wh L 1 = N := ⟨_, rfl⟩
  have HN := Lib.hid hN
  rw [hN] at hN2
  clear h hw hv hs hN
  obtain ⟨i0, hi, hz0, hz1, hz2⟩ := info_parts infoI
  go_enter Try.func27, Try.ntmps27
  go_wp2_with fail
  refine (read_any A l c L _ HR.out HW.out hl).mono ?_; rintro e w1 ⟨A1, n1, c1, rfl, hr, hb1⟩
  rw [HV.out]
  have HR1 := Lib.hid (hr HV.out)
  have HL1 := Lib.hid HR1.out.1
  have hl1 : n1 ≤ 10 := by have := HR1.out.1; omega
  have HB1 := Lib.hid hb1
  clear hr hb1
  go_wp2_with fail
  go_loopw [6, 20] (fun v x wr => ∃ k m : Nat, k ≤ n1 ∧ x = .int .i64 (k : Int) ∧ m ≤ k ∧ Hid (m = (ndUp L k).length) ∧ Hid (wr.ownsRow w1.heap.size 3 1 v m (ints (ndUp L k))) ∧ Below w1.heap.size w1 wr) (fun _ x _ => n1 - (intOf x).toNat)
  case atStart => exact ⟨0, 0, by omega, rfl, by omega, Lib.hid rfl, Lib.hid (World.ownsRow_nil ..), Below.refl _ _⟩
  case round =>
    obtain ⟨k, m, hk, rfl, hmk, hm, how, hb⟩ := hrel
    obtain ⟨wo, hwo⟩ : ∃ wo : World, wo = wr := ⟨_, rfl⟩
    subst hwo
    by_cases hlt : k < n1
    · obtain ⟨b, off, x, md, hx, rfl, hB, g1, g2⟩ := (HR1.out.below hb).at_ hlt
      obtain ⟨m1, m2, x1, x2⟩ := HO.out (x, md) (List.mem_of_getElem? hx)
      simp only at m1 m2 x1 x2
      obtain ⟨M, rfl⟩ : ∃ M : Nat, md = M := ⟨md.toNat, by omega⟩
      obtain ⟨X, rfl⟩ : ∃ X : Nat, x = X := ⟨x.toNat, by omega⟩
      have HX := Lib.hid hx
      have HOW : Hid ((wo.alloc (Obj.cells #[.int .i64 (X : Int), .int .i64 (M : Int)] 68)).ownsRow w1.heap.size 3 1 u6 m (ints (ndUp L k))) := Lib.hid (how.out.alloc _)
      have HBO : Hid (Below w1.heap.size w1 (wo.alloc (Obj.cells #[.int .i64 (X : Int), .int .i64 (M : Int)] 68))) := Lib.hid (hb.alloc hb.size _)
      have hws : w1.heap.size ≤ wo.heap.size := hb.size
      clear hx how hb
      go_wp2_with fail
      go_loopw [9, 10] (fun al z wr => ∃ t nn : Nat, Hid (nn = X + t * M) ∧ nn ≤ N + 120 ∧ al = .bool (alB L X M t) ∧ z = .int .i64 (nn : Int) ∧ Hid (∀ i, i < t → X + i * M < N) ∧ Below (wo.heap.size + 1) (wo.alloc (Obj.cells #[.int .i64 (X : Int), .int .i64 (M : Int)] 68)) wr) (fun _ z _ => N + 120 - (intOf z).toNat)
      case atStart => exact ⟨0, X, Lib.hid (by omega), by omega, rfl, rfl, Lib.hid (fun i h => by omega), Below.refl _ _⟩
      case round =>
        obtain ⟨t, nn, hnn, hnb, rfl, rfl, hlow, hbj⟩ := hrel
        have hbox1 := hbj.cell (p := ⟨wo.heap.size, 0, none⟩) (by simp)
        have hbox2 := hbj.cell (p := ⟨wo.heap.size, 1, none⟩) (by simp)
        simp at hbox1 hbox2
        have hsz : wo.heap.size < wr.heap.size := by have := hbj.size; simp at this; omega
        have HBW : Hid (Below w1.heap.size w1 wr) := Lib.hid (HBO.out.trans (hbj.mono (by omega)))
        have HRW : Hid (Row wr wr.heap.size (some ⟨b, off, none⟩) n1 L) := Lib.hid ((HR1.out.below HBW.out).more HBW.out.size)
        have HBJ := Lib.hid hbj
        clear hbj
        go_wp2_with fail
        refine (whole_any _ n1 c1 L wr HRW.out HM.out (by omega)).mono ?_; rw [HN.out]; rintro e w3 ⟨rfl, hb3⟩
        have hbox3 := hb3.cell (p := ⟨wo.heap.size, 0, none⟩) hsz
        have hbox4 := hb3.cell (p := ⟨wo.heap.size, 1, none⟩) hsz
        rw [hbox1] at hbox3
        rw [hbox2] at hbox4
        have hsz3 : wo.heap.size < w3.heap.size := by have := hb3.size; omega
        by_cases hnN : nn < N
        · have HRW3 : Hid (Row w3 w3.heap.size (some ⟨b, off, none⟩) n1 L) := Lib.hid ((HRW.out.below hb3).more hb3.size)
          have HLOW : Hid (∀ i, i < t + 1 → X + i * M < N) := Lib.hid (fun i hi => by
            by_cases e : i = t
            · subst e; rw [← hnn.out]; exact hnN
            · exact hlow.out i (by omega))
          have HNN : Hid (nn + M = X + (t + 1) * M) := Lib.hid (by rw [hnn.out, Nat.add_mul]; omega)
          have hcl : cnt L (nn : Int) ≤ 10 := Nat.le_trans (cnt_le _ _) hl10
          have HA : Hid (alB L X M (t + 1) = (alB L X M t || (cnt L (nn : Int) == 1))) := Lib.hid (by rw [alB_succ, hnn.out])
          have HB3 : Hid (Below (wo.heap.size + 1) (wo.alloc (Obj.cells #[.int .i64 (X : Int), .int .i64 (M : Int)] 68)) w3) := Lib.hid (HBJ.out.trans (hb3.mono (by omega)))
          clear hb3
          cases hal : alB L X M t with
          | true =>
            have HA2 : Hid (alB L X M (t + 1) = true) := Lib.hid (by rw [HA.out, hal]; rfl)
            clear hal
            go_wp2_with fail
            go_roundw
            case rel => exact ⟨t + 1, nn + M, HNN, by omega, by rw [HA2.out], by go_num, HLOW, HB3.out⟩
            case measure => simp [intOf]; omega
          | false =>
            obtain ⟨C, hC⟩ : ∃ C, cnt L (nn : Int) = C := ⟨_, rfl⟩
            have HC := Lib.hid hC
            have HA2 : Hid (alB L X M (t + 1) = (C == 1)) := Lib.hid (by rw [HA.out, hal, hC]; rfl)
            rw [hC] at hcl
            clear hal hC
            by_cases h1 : C = 1
            · subst h1
              go_wp2_with fail
              refine (count_any _ n1 c1 L nn w3 HRW3.out HF.out (by omega) (by omega) (by omega)).mono ?_; rw [HC.out]; rintro e w4 ⟨rfl, hb4⟩
              have hbox5 := hb4.cell (p := ⟨wo.heap.size, 0, none⟩) hsz3
              have hbox6 := hb4.cell (p := ⟨wo.heap.size, 1, none⟩) hsz3
              rw [hbox3] at hbox5
              rw [hbox4] at hbox6
              go_wp2_with fail
              go_roundw
              case rel => exact ⟨t + 1, nn + M, HNN, by omega, by rw [HA2.out]; rfl, by go_num, HLOW, HB3.out.trans (hb4.mono (by omega))⟩
              case measure => simp [intOf]; omega
            · have t1 : ((C : Int) == 1) = false := by simp; omega
              have HA3 : Hid (alB L X M (t + 1) = false) := Lib.hid (by rw [HA2.out]; simpa using h1)
              clear h1
              go_wp2_with fail
              refine (count_any _ n1 c1 L nn w3 HRW3.out HF.out (by omega) (by omega) (by omega)).mono ?_; rw [HC.out]; rintro e w4 ⟨rfl, hb4⟩
              have hbox5 := hb4.cell (p := ⟨wo.heap.size, 0, none⟩) hsz3
              have hbox6 := hb4.cell (p := ⟨wo.heap.size, 1, none⟩) hsz3
              rw [hbox3] at hbox5
              rw [hbox4] at hbox6
              go_wp2_with fail
              go_roundw
              case rel => exact ⟨t + 1, nn + M, HNN, by omega, by rw [HA3.out], by go_num, HLOW, HB3.out.trans (hb4.mono (by omega))⟩
              case measure => simp [intOf]; omega
        · have HEND := Lib.hid (alB_end (L := L) (X := X) (M := M) (t := t) (by omega) (by omega) (by rw [HN.out, ← hnn.out]; omega) (fun i hi => by rw [HN.out]; exact hlow.out i hi))
          have HU := Lib.hid (ndUp_succ HX.out)
          have HB3 : Hid (Below (wo.heap.size + 1) (wo.alloc (Obj.cells #[.int .i64 (X : Int), .int .i64 (M : Int)] 68)) w3) := Lib.hid (HBJ.out.trans (hb3.mono (by omega)))
          have HOW3 : Hid (w3.ownsRow w1.heap.size 3 1 u6 m (ints (ndUp L k))) := Lib.hid (own_bel HOW.out (by have := HB3.out; simpa using this))
          have HBW3 : Hid (Below w1.heap.size w1 w3) := Lib.hid (HBW.out.trans (hb3.mono HBW.out.size))
          clear hb3
          rw [HEND.out]
          cases hnd : ndB L ((X : Int), (M : Int)) with
          | true =>
            have HU2 : Hid (ndUp L (k + 1) = ndUp L k ++ [(k : Int)]) := Lib.hid (by rw [HU.out, hnd]; rfl)
            clear hnd
            have H0 : Hid (wo.heap.size < w3.heap.size) := Lib.hid hsz3
            have HOWA : Hid ((w3.alloc (Obj.cells #[.int .i64 (k : Int)] 3)).ownsRow w1.heap.size 3 1 u6 m (ints (ndUp L k))) := Lib.hid (HOW3.out.alloc _)
            have HNE : Hid (∀ j u, ([Value.int .i64 (k : Int)] : List Value)[j]? = some u → (w3.alloc (Obj.cells #[.int .i64 (k : Int)] 3)).cell? ((⟨w3.heap.size, 0, none⟩ : Addr).add j) = some u) := Lib.hid (by
              intro j u hu
              rw [add_none]
              rcases j with _ | j
              · simp at hu; subst hu; simp
              · simp at hu)
            have H1 : Hid (∀ u ∈ ([Value.int .i64 (k : Int)] : List Value), u.oneCell' = true) := Lib.hid (by intro u hu; simp at hu; subst hu; simp [Value.oneCell'])
            have H3 : Hid (m + 1 ≤ maxLen) := Lib.hid (by unfold maxLen; omega)
            have H4 : Hid ((m + 1) * 8 ≤ 140737488355328) := Lib.hid (by omega)
            have H5 : Hid (w1.heap.size ≤ (w3.alloc (Obj.cells #[.int .i64 (k : Int)] 3)).heap.size) := Lib.hid (by have := HBW3.out.size; simp; omega)
            have HXL : Hid ((ints (ndUp L k)).length = m * 1) := Lib.hid (by rw [ints_len, ← hm.out]; omega)
            go_wp2_with (at_builtin; refine wpList_append_own _ rfl _ _ 42 rfl w1.heap.size 3 i0 (.int .i64 0) 1 8 Try.underlying42 hi hz0 hz1 hz2 rfl (by decide) _ m (ints (ndUp L k)) rfl HOWA.out ⟨w3.heap.size, 0, none⟩ 1 1 [.int .i64 (k : Int)] rfl rfl HNE.out H1.out H3.out H4.out H5.out ?_; intro v' w4 hown' hgrow _)
            have HN4 : Hid (w4.ownsRow w1.heap.size 3 1 v' (m + 1) (ints (ndUp L (k + 1)))) := Lib.hid (by rw [HU2.out]; unfold ints at hown' ⊢; rw [List.map_append]; exact hown')
            have HB4 : Hid (Below w1.heap.size w1 w4) := Lib.hid (own_below' HOWA.out hgrow (HBW3.out.alloc HBW3.out.size _) (Nat.le_refl _) H5.out)
            clear hown' hgrow
            go_wp2_with fail
            go_roundw
            case rel => exact ⟨k + 1, m + 1, by omega, by go_num, by omega, Lib.hid (by rw [HU2.out, List.length_append, ← hm.out]; rfl), HN4, HB4.out⟩
            case measure => simp [intOf]; omega
          | false =>
            have HU2 : Hid (ndUp L (k + 1) = ndUp L k) := Lib.hid (by rw [HU.out, hnd]; simp)
            clear hnd
            go_wp2_with fail
            go_roundw
            case rel => exact ⟨k + 1, m, by omega, by go_num, by omega, by rw [HU2.out]; exact hm, by rw [HU2.out]; exact HOW3, HBW3.out⟩
            case measure => simp [intOf]; omega
    · have e : k = n1 := by omega
      subst e
      obtain ⟨A2, c2, rfl, _⟩ := own_sl how.out
      have HI := Lib.hid (IRow.of_own how.out)
      have HKL : Hid (k = L.length) := HL1
      go_wp2_with fail
      go_ret2
      exact ⟨A2, m, c2, rfl, by rw [← HKL.out]; exact HI.out, bt HB1.out hb⟩
end Go.Proofs.Ytmmgidhaakkaoaa
