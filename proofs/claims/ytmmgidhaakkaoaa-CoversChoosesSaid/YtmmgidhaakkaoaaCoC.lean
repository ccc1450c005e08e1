/- Reading a system. -/
import Derived.Test.YtmmgidhaakkaoaaCoB
namespace Go.Proofs.Ytmmgidhaakkaoaa
open Go Go.RowKit

def okP (p : Int × Int) : Prop := 1 ≤ p.2 ∧ p.2 ≤ 60 ∧ 0 ≤ p.1 ∧ p.1 < p.2
instance (p : Int × Int) : Decidable (okP p) := by unfold okP; infer_instance
def Sys (L : List (Int × Int)) : Prop := 1 ≤ L.length ∧ L.length ≤ 10 ∧ (∀ p ∈ L, okP p) ∧ wh L 1 ≤ 10080
instance (L : List (Int × Int)) : Decidable (Sys L) := by unfold Sys; infer_instance
/-- whether pairs are a system -/
def validL (L : List (Int × Int)) : Bool := decide (Sys L)
theorem validL_yes {L : List (Int × Int)} (h : validL L = true) : Sys L := by unfold validL at h; exact of_decide_eq_true h
theorem validL_no {L : List (Int × Int)} (h : ¬ Sys L) : validL L = false := by unfold validL; exact decide_eq_false h
theorem validL_mk {L : List (Int × Int)} (h : Sys L) : validL L = true := by unfold validL; exact decide_eq_true h

theorem Sys.mods {L : List (Int × Int)} (h : ∀ p ∈ L, okP p) : Mods L := fun p hp => ⟨(h p hp).1, (h p hp).2.1⟩
theorem Sys.fits {L : List (Int × Int)} (h : ∀ p ∈ L, okP p) : Fits L := fun p hp => by
  obtain ⟨h1, h2, h3, h4⟩ := h p hp
  exact ⟨h1, by omega, by omega, by omega⟩

def ReadPost (w : World) (L : List (Int × Int)) (e : Ending) (w' : World) : Prop :=
  ∃ A n c, e = .returned (.tuple #[.slice A n c, .bool (validL L)]) ∧ (validL L = true → Row w' w'.heap.size A n L) ∧ Below w.heap.size w w'

def ReadRel (w : World) (L : List (Int × Int)) (v : Value) (k : Nat) (wr : World) : Prop :=
  wr.ownsRow w.heap.size 68 2 v k (flat (L.take k)) ∧ Below w.heap.size w wr ∧ ∀ p ∈ L.take k, okP p

theorem ReadRel.next {w wr w1 : World} {L : List (Int × Int)} {v v' : Value} {k : Nat} {x m : Int} (h : ReadRel w L v k wr) (hx : L[k]? = some (x, m)) (hp : okP (x, m))
    {o1 o2 : Obj} (hown : w1.ownsRow w.heap.size 68 2 v' (k + 1) (flat (L.take k) ++ [.int .i64 x, .int .i64 m])) (hg : ((wr.alloc o1).alloc o2).grownBy w1 v.ownBlock) : ReadRel w L v' (k + 1) w1 := by
  obtain ⟨h1, h2, h3⟩ := h
  refine ⟨by rw [take_at hx, flat_append]; exact hown, ?_, ?_⟩
  · refine ((h2.alloc h2.size o1).alloc (by have := h2.size; simp; omega) o2).grown hg (by have := h2.size; simp; omega) (fun g e => ?_)
    rcases h1.2 with ⟨rfl, _⟩ | ⟨g', cap, cur, rfl, hb, _⟩
    · cases e
    · injection e with e; subst e; exact hb
  · intro p hp'
    rw [take_at hx, List.mem_append] at hp'
    rcases hp' with hp' | hp'
    · exact h3 p hp'
    · simp at hp'; subst hp'; exact hp

set_option maxRecDepth 100000 in
set_option maxHeartbeats 1000000 in
theorem read_any (A : Option Addr) (l c : Nat) (L : List (Int × Int)) (w : World) (h : Row w w.heap.size A l L) (hw : ∀ p ∈ L, -9223372036854775808 ≤ p.1 ∧ p.1 ≤ 9223372036854775807 ∧ -9223372036854775808 ≤ p.2 ∧ p.2 ≤ 9223372036854775807) (hl : l ≤ 9223372036854775807) :
    Calls Try.prog 48 #[.slice A l c] w (ReadPost w L) := by
  have HR := Lib.hid h
  have HW := Lib.hid hw
  have HL := Lib.hid h.1
  clear h hw
  by_cases h1 : 1 ≤ l
  · by_cases h10 : l ≤ 10
    · obtain ⟨i0, hi, hz0, hz1, hz2⟩ := info_parts infoQ
      go_enter Try.func48, Try.ntmps48
      go_wp2_with fail
      go_loopw [4, 17] (fun v x wr => ∃ k : Nat, k ≤ l ∧ Hid (ReadRel w L v k wr) ∧ x = .int .i64 (k : Int)) (fun _ x _ => l - (intOf x).toNat)
      case atStart => exact ⟨0, by omega, Lib.hid ⟨World.ownsRow_nil .., Below.refl _ _, fun p hp => by simp at hp⟩, rfl⟩
      case round =>
        obtain ⟨k, hk, hrl, rfl⟩ := hrel
        have hb := hrl.out.2.1
        by_cases hlt : k < l
        · obtain ⟨b, off, x, m, hx, rfl, hB, c1, c2⟩ := (HR.out.below hb).at_ hlt
          obtain ⟨w1, w2, w3, w4⟩ := HW.out (x, m) (List.mem_of_getElem? hx)
          simp only at w1 w2 w3 w4
          have HX := Lib.hid hx
          clear hx hb
          by_cases hok : okP (x, m)
          · obtain ⟨o1, o2, o3, o4⟩ := hok
            simp only at o1 o2 o3 o4
            have HO : Hid (okP (x, m)) := Lib.hid ⟨o1, o2, o3, o4⟩
            have HS : Hid (wr.heap.size + 1 = (wr.alloc (Obj.cells #[.int .i64 x, .int .i64 m] 29)).heap.size) := Lib.hid (by simp)
            have hown : ((wr.alloc (Obj.cells #[.int .i64 x, .int .i64 m] 29)).alloc (Obj.cells #[.int .i64 x, .int .i64 m] 68)).ownsRow w.heap.size 68 2 u4 k (flat (L.take k)) := (hrl.out.1.alloc _).alloc _
            have hnews : ∀ j u, ([Value.int .i64 x, .int .i64 m] : List Value)[j]? = some u → ((wr.alloc (Obj.cells #[.int .i64 x, .int .i64 m] 29)).alloc (Obj.cells #[.int .i64 x, .int .i64 m] 68)).cell? ((⟨wr.heap.size + 1, 0, none⟩ : Addr).add j) = some u := by
              intro j u hu
              rw [add_none]
              rcases j with _ | _ | j
              · simp at hu; subst hu; simp
              · simp at hu; subst hu; simp
              · simp at hu
            have HOW := Lib.hid hown
            have HNE := Lib.hid hnews
            have H1 : Hid (∀ u ∈ ([Value.int .i64 x, .int .i64 m] : List Value), u.oneCell' = true) := Lib.hid (by intro u hu; simp at hu; rcases hu with rfl | rfl <;> simp [Value.oneCell'])
            have H3 : Hid (k + 1 ≤ maxLen) := Lib.hid (by unfold maxLen; omega)
            have H4 : Hid ((k + 1) * 16 ≤ 140737488355328) := Lib.hid (by omega)
            have H5 : Hid (w.heap.size ≤ ((wr.alloc (Obj.cells #[.int .i64 x, .int .i64 m] 29)).alloc (Obj.cells #[.int .i64 x, .int .i64 m] 68)).heap.size) := Lib.hid (by have := hrl.out.2.1.size; simp; omega)
            clear hown hnews
            go_wp2_with (at_builtin; refine wpList_append_own _ rfl _ _ 62 rfl w.heap.size 68 i0 (.agg #[.int .i64 0, .int .i64 0]) 2 16 Try.underlying62 hi hz0 hz1 hz2 rfl (by decide) _ k (flat (L.take k)) rfl HOW.out ⟨wr.heap.size + 1, 0, none⟩ 1 1 [.int .i64 x, .int .i64 m] rfl rfl HNE.out H1.out H3.out H4.out H5.out ?_; intro v' w1 hown' hgrow _)
            have HN := Lib.hid (hrl.out.next HX.out HO.out hown' hgrow)
            clear hown' hgrow
            go_wp2_with fail
            go_roundw
            case rel => exact ⟨k + 1, by omega, HN, by go_num⟩
            case measure => simp [intOf]; omega
          · have HV : Hid (validL L = false) := Lib.hid (validL_no (fun hs => hok (hs.2.2.1 _ (List.mem_of_getElem? HX.out))))
            have HB : Hid (Below w.heap.size w (wr.alloc (Obj.cells #[.int .i64 x, .int .i64 m] 29))) := Lib.hid (hrl.out.2.1.alloc hrl.out.2.1.size _)
            by_cases g1 : 1 ≤ m
            · by_cases g2 : m ≤ 60
              · by_cases g3 : 0 ≤ x
                · have g4 : m ≤ x := by
                    apply Classical.byContradiction; intro g; exact hok ⟨g1, g2, g3, by omega⟩
                  clear hok
                  go_wp2_with fail
                  go_ret2
                  exact ⟨none, 0, 0, by rw [HV.out]; rfl, (fun e => by rw [HV.out] at e; cases e), HB.out⟩
                · clear hok
                  go_wp2_with fail
                  go_ret2
                  exact ⟨none, 0, 0, by rw [HV.out]; rfl, (fun e => by rw [HV.out] at e; cases e), HB.out⟩
              · clear hok
                go_wp2_with fail
                go_ret2
                exact ⟨none, 0, 0, by rw [HV.out]; rfl, (fun e => by rw [HV.out] at e; cases e), HB.out⟩
            · clear hok
              go_wp2_with fail
              go_ret2
              exact ⟨none, 0, 0, by rw [HV.out]; rfl, (fun e => by rw [HV.out] at e; cases e), HB.out⟩
        · have hkl : k = l := by omega
          subst hkl
          have hT : L.take k = L := List.take_of_length_le (by rw [← HL.out]; omega)
          obtain ⟨r1, r2, r3⟩ := hrl.out
          rw [hT] at r1 r3
          have hex : ∃ A' n' c', u4 = .slice A' n' c' ∧ n' = k := by
            rcases r1.2 with ⟨rfl, h0⟩ | ⟨g, cap, cur, rfl, _⟩
            · exact ⟨none, 0, 0, rfl, h0.symm⟩
            · exact ⟨_, k, cap, rfl, rfl⟩
          obtain ⟨A', n', c', rfl, rfl⟩ := hex
          have HRW := Lib.hid (Row.of_own r1)
          have HM := Lib.hid (Sys.mods r3)
          have HB := Lib.hid r2
          have HVV : Hid (validL L = decide (wh L 1 ≤ 10080)) := Lib.hid (by
            by_cases hwl : wh L 1 ≤ 10080
            · rw [validL_mk ⟨by rw [← HL.out]; omega, by rw [← HL.out]; omega, r3, hwl⟩, decide_eq_true hwl]
            · rw [validL_no (fun hs => hwl hs.2.2.2), decide_eq_false hwl])
          clear r1 r2 r3 hT hb hrl
          go_wp2_with fail
          refine (whole_any A' n' c' L wr HRW.out HM.out (by omega)).mono ?_; rintro e w1 ⟨rfl, hb1⟩
          go_wp2_with fail
          go_ret2
          refine ⟨A', n', c', ?_, fun _ => (HRW.out.below hb1).more hb1.size, bt HB.out hb1⟩
          rw [HVV.out]
          show Ending.returned (.tuple #[.slice A' n' c', .bool (decide (((wh L 1 : Nat) : Int) ≤ 10080))]) = _
          have e2 : decide (((wh L 1 : Nat) : Int) ≤ 10080) = decide (wh L 1 ≤ 10080) := by rw [Bool.eq_iff_iff, decide_eq_true_iff, decide_eq_true_iff]; omega
          rw [e2]
    · have HV : Hid (validL L = false) := Lib.hid (validL_no (fun hs => by have := hs.2.1; have := HL.out; omega))
      go_enter Try.func48, Try.ntmps48
      go_wp2_with fail
      go_ret2
      exact ⟨none, 0, 0, by rw [HV.out]; rfl, (fun e => by rw [HV.out] at e; cases e), Below.refl _ _⟩
  · have HV : Hid (validL L = false) := Lib.hid (validL_no (fun hs => by have := hs.1; have := HL.out; omega))
    go_enter Try.func48, Try.ntmps48
    go_wp2_with fail
    go_ret2
    exact ⟨none, 0, 0, by rw [HV.out]; rfl, (fun e => by rw [HV.out] at e; cases e), Below.refl _ _⟩
end Go.Proofs.Ytmmgidhaakkaoaa
