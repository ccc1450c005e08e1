/- The search of residues: choose at any moduli; moduli. -/
import Derived.Test.YtmmgidhaakkaoaaSr5
import Derived.Test.YtmmgidhaakkaoaaCoE
namespace Go.Proofs.Ytmmgidhaakkaoaa
open Go Go.RowKit

theorem choose_any (S G B B0 W b off l c : Nat) (M : List Nat) (ex : Bool) (hl : l = M.length) (hl7 : l ≤ 7) (hm : ∀ x ∈ M, 1 ≤ x ∧ x ≤ 12) (hW : W ≤ 10080) (hlc : l ≤ c) (hc : c ≤ 9223372036854775807)
    (h0S : B0 ≤ S) (h0G : B0 ≤ G) : ∀ M', ChS S G B B0 W b off l c M ex M'
  | [] => choose_nil S G B B0 W b off l c M ex hl hl7
  | m :: M' => choose_cons S G B B0 W b off l c M ex m M' hl hl7 hm hW hlc hc h0S h0G (choose_any S G B B0 W b off l c M ex hl hl7 hm hW hlc hc h0S h0G M')

/-- pairs of 0 and the moduli -/
def mods0 (L : List Int) : List (Int × Int) := L.map fun x => (0, x)
def mdB (L : List Int) : Bool := decide (1 ≤ L.length ∧ L.length ≤ 7 ∧ (∀ x ∈ L, 1 ≤ x ∧ x ≤ 12) ∧ wh (mods0 L) 1 ≤ 10080)
theorem mods0_take {L : List Int} {k : Nat} {x : Int} (h : L[k]? = some x) : mods0 (L.take (k + 1)) = mods0 (L.take k) ++ [(0, x)] := by
  obtain ⟨hk, e⟩ := List.getElem?_eq_some_iff.1 h
  unfold mods0
  rw [List.take_succ_eq_append_getElem hk, e, List.map_append]; rfl
theorem mods0_len (L : List Int) : (mods0 L).length = L.length := List.length_map _

/-! ### the least and the greatest of some numbers -/
def zminL : List Int → Int
  | [] => 0
  | x :: L => L.foldl min x
def zmaxL : List Int → Int
  | [] => 0
  | x :: L => L.foldl max x
theorem zfoldl_min (L : List Int) : ∀ x b : Int, (b ≤ L.foldl min x ↔ b ≤ x ∧ ∀ y ∈ L, b ≤ y) := by
  induction L with
  | nil => intro x b; simp
  | cons y L ih => intro x b; rw [List.foldl_cons, ih, Int.le_min, and_assoc]; simp only [List.mem_cons, forall_eq_or_imp]
theorem zfoldl_max (L : List Int) : ∀ x b : Int, (L.foldl max x ≤ b ↔ x ≤ b ∧ ∀ y ∈ L, y ≤ b) := by
  induction L with
  | nil => intro x b; simp
  | cons y L ih => intro x b; rw [List.foldl_cons, ih, Int.max_le, and_assoc]; simp only [List.mem_cons, forall_eq_or_imp]
theorem zminL_le {L : List Int} (h : 1 ≤ L.length) (b : Int) : b ≤ zminL L ↔ ∀ y ∈ L, b ≤ y := by
  cases L with
  | nil => simp at h
  | cons x L => rw [zminL, zfoldl_min]; simp
theorem zmaxL_le {L : List Int} (h : 1 ≤ L.length) (b : Int) : zmaxL L ≤ b ↔ ∀ y ∈ L, y ≤ b := by
  cases L with
  | nil => simp at h
  | cons x L => rw [zmaxL, zfoldl_max]; simp
theorem zmin_succ {L : List Int} {k : Nat} {x : Int} (hk : 1 ≤ k) (h : L[k]? = some x) : zminL (L.take (k + 1)) = min (zminL (L.take k)) x := by
  obtain ⟨hk2, e⟩ := List.getElem?_eq_some_iff.1 h
  rw [List.take_succ_eq_append_getElem hk2, e]
  cases L with
  | nil => simp at h
  | cons y L =>
    obtain ⟨j, rfl⟩ : ∃ j, k = j + 1 := ⟨k - 1, by omega⟩
    simp [zminL]
theorem zmax_succ {L : List Int} {k : Nat} {x : Int} (hk : 1 ≤ k) (h : L[k]? = some x) : zmaxL (L.take (k + 1)) = max (zmaxL (L.take k)) x := by
  obtain ⟨hk2, e⟩ := List.getElem?_eq_some_iff.1 h
  rw [List.take_succ_eq_append_getElem hk2, e]
  cases L with
  | nil => simp at h
  | cons y L =>
    obtain ⟨j, rfl⟩ : ∃ j, k = j + 1 := ⟨k - 1, by omega⟩
    simp [zmaxL]

set_option maxHeartbeats 400000 in
theorem zmin_any (A : Option Addr) (l c : Nat) (L : List Int) (w : World) (h : IRow w w.heap.size A l L) (hl : 1 ≤ l) (hl2 : l ≤ 1000000) :
    Calls Try.prog 76 #[.slice A l c] w fun e w' => e = .returned (.int .i64 (zminL L)) ∧ w = w' := by
  have HR := Lib.hid h
  have HL := Lib.hid h.1
  obtain ⟨b0, off0, x0, hx0, rfl, hB0, g0⟩ := h.at_ (k := 0) (by omega)
  have H0 : Hid (zminL (L.take 1) = x0) := Lib.hid (by
    cases L with
    | nil => simp at hx0
    | cons y L => simp at hx0; subst hx0; rfl)
  rw [Nat.add_zero] at g0
  clear h hx0
  go_enter Try.func76, Try.ntmps76
  go_wp2_with fail
  go_loop [3, 4] (fun v x => ∃ k : Nat, 1 ≤ k ∧ k ≤ l ∧ x = .int .i64 (k : Int) ∧ v = .int .i64 (zminL (L.take k))) (fun _ x => l - (intOf x).toNat)
  case atStart => exact ⟨1, by omega, by omega, rfl, by rw [H0.out]⟩
  case round =>
    obtain ⟨k, hk1, hk, rfl, rfl⟩ := hrel
    by_cases hlt : k < l
    · obtain ⟨b, off, x, hx, hA, hB, g1⟩ := HR.out.at_ hlt
      injection hA with hA
      injection hA with hA1 hA2
      subst hA1 hA2
      have HS := Lib.hid (zmin_succ hk1 hx)
      have hki : (k : Int) < (l : Int) := by omega
      clear hx
      go_wp2_with fail
      go_round
      case rel => exact ⟨k + 1, by omega, by omega, by go_num, by rw [HS.out]; congr 1; split <;> omega⟩
      case measure => simp [intOf]; omega
    · have e : k = l := by omega
      subst e
      have HE : Hid (L.take k = L) := Lib.hid (List.take_of_length_le (by rw [← HL.out]; omega))
      go_wp2_with fail
      go_ret
      exact ⟨by rw [HE.out]; rfl, rfl⟩

set_option maxHeartbeats 400000 in
theorem zmax_any (A : Option Addr) (l c : Nat) (L : List Int) (w : World) (h : IRow w w.heap.size A l L) (hl : 1 ≤ l) (hl2 : l ≤ 1000000) :
    Calls Try.prog 77 #[.slice A l c] w fun e w' => e = .returned (.int .i64 (zmaxL L)) ∧ w = w' := by
  have HR := Lib.hid h
  have HL := Lib.hid h.1
  obtain ⟨b0, off0, x0, hx0, rfl, hB0, g0⟩ := h.at_ (k := 0) (by omega)
  have H0 : Hid (zmaxL (L.take 1) = x0) := Lib.hid (by
    cases L with
    | nil => simp at hx0
    | cons y L => simp at hx0; subst hx0; rfl)
  rw [Nat.add_zero] at g0
  clear h hx0
  go_enter Try.func77, Try.ntmps77
  go_wp2_with fail
  go_loop [3, 4] (fun v x => ∃ k : Nat, 1 ≤ k ∧ k ≤ l ∧ x = .int .i64 (k : Int) ∧ v = .int .i64 (zmaxL (L.take k))) (fun _ x => l - (intOf x).toNat)
  case atStart => exact ⟨1, by omega, by omega, rfl, by rw [H0.out]⟩
  case round =>
    obtain ⟨k, hk1, hk, rfl, rfl⟩ := hrel
    by_cases hlt : k < l
    · obtain ⟨b, off, x, hx, hA, hB, g1⟩ := HR.out.at_ hlt
      injection hA with hA
      injection hA with hA1 hA2
      subst hA1 hA2
      have HS := Lib.hid (zmax_succ hk1 hx)
      have hki : (k : Int) < (l : Int) := by omega
      clear hx
      go_wp2_with fail
      go_round
      case rel => exact ⟨k + 1, by omega, by omega, by go_num, by rw [HS.out]; congr 1; split <;> omega⟩
      case measure => simp [intOf]; omega
    · have e : k = l := by omega
      subst e
      have HE : Hid (L.take k = L) := Lib.hid (List.take_of_length_le (by rw [← HL.out]; omega))
      go_wp2_with fail
      go_ret
      exact ⟨by rw [HE.out]; rfl, rfl⟩

set_option maxRecDepth 100000 in
set_option maxHeartbeats 2000000 in
theorem moduli_any (A : Option Addr) (l c : Nat) (L : List Int) (w : World) (h : IRow w w.heap.size A l L) (hl : l ≤ 9223372036854775807) :
    Calls Try.prog 69 #[.slice A l c] w fun e w' => e = .returned (.bool (mdB L)) ∧ Below w.heap.size w w' := by
  have hlen := h.1
  by_cases h1 : l < 1
  · have e : mdB L = false := by unfold mdB; rw [decide_eq_false (by omega)]
    rw [e]
    have h1i : (l : Int) < 1 := by omega
    clear e h hlen
    go_enter Try.func69, Try.ntmps69
    go_wp2_with fail
    go_ret
    exact ⟨rfl, Below.refl _ _⟩
  by_cases h7 : 7 < l
  · have e : mdB L = false := by unfold mdB; rw [decide_eq_false (by omega)]
    rw [e]
    have h7i : (7 : Int) < (l : Int) := by omega
    clear e h hlen
    go_enter Try.func69, Try.ntmps69
    go_wp2_with fail
    go_ret
    exact ⟨rfl, Below.refl _ _⟩
  have h1' : 1 ≤ L.length := by omega
  have hmin := zminL_le h1' 1
  have hmax := zmaxL_le h1' 12
  obtain ⟨x, hx⟩ : ∃ x, zminL L = x := ⟨_, rfl⟩
  obtain ⟨y, hy⟩ : ∃ y, zmaxL L = y := ⟨_, rfl⟩
  have HMI : Hid (Calls Try.prog 76 #[.slice A l c] w fun e w' => e = .returned (.int .i64 x) ∧ w = w') := Lib.hid (by rw [← hx]; exact zmin_any A l c L w h (by omega) (by omega))
  have HMA : Hid (Calls Try.prog 77 #[.slice A l c] w fun e w' => e = .returned (.int .i64 y) ∧ w = w') := Lib.hid (by rw [← hy]; exact zmax_any A l c L w h (by omega) (by omega))
  rw [hx] at hmin
  rw [hy] at hmax
  have h7i : (l : Int) ≤ 7 := by omega
  have h1i : (1 : Int) ≤ (l : Int) := by omega
  by_cases hx1 : 1 ≤ x
  case neg =>
    have e : mdB L = false := by unfold mdB; rw [decide_eq_false (fun hh => hx1 (hmin.2 (fun z hz => (hh.2.2.1 z hz).1)))]
    rw [e]
    have hx1' : x < 1 := by omega
    clear e h hlen hx hy hmin hmax hx1
    go_enter Try.func69, Try.ntmps69
    go_wp2_with fail
    refine HMI.out.mono ?_; rintro e w1 ⟨rfl, rfl⟩
    go_wp2_with fail
    go_ret
    exact ⟨rfl, Below.refl _ _⟩
  case pos =>
  by_cases hy1 : y ≤ 12
  case neg =>
    have e : mdB L = false := by unfold mdB; rw [decide_eq_false (fun hh => hy1 (hmax.2 (fun z hz => (hh.2.2.1 z hz).2)))]
    rw [e]
    have hy1' : 12 < y := by omega
    clear e h hlen hx hy hmin hmax hy1
    go_enter Try.func69, Try.ntmps69
    go_wp2_with fail
    refine HMI.out.mono ?_; rintro e w1 ⟨rfl, rfl⟩
    go_wp2_with fail
    refine HMA.out.mono ?_; rintro e w1 ⟨rfl, rfl⟩
    go_wp2_with fail
    go_ret
    exact ⟨rfl, Below.refl _ _⟩
  case pos =>
  have hin : ∀ z ∈ L, 1 ≤ z ∧ z ≤ 12 := fun z hz => ⟨hmin.1 hx1 z hz, hmax.1 hy1 z hz⟩
  have e : mdB L = decide (wh (mods0 L) 1 ≤ 10080) := by
    unfold mdB
    rw [Bool.eq_iff_iff, decide_eq_true_iff, decide_eq_true_iff]
    constructor
    · intro hh; exact hh.2.2.2
    · intro hh; exact ⟨h1', by omega, hin, hh⟩
  rw [e]
  obtain ⟨Wn, hWn⟩ : ∃ Wn, wh (mods0 L) 1 = Wn := ⟨_, rfl⟩
  have HWH : Hid (∀ w' A' c' n', Row w' w'.heap.size A' n' (mods0 L) → n' ≤ 7 → Calls Try.prog 52 #[.slice A' n' c'] w' fun e w'' => e = .returned (.int .i64 (Wn : Int)) ∧ Below w'.heap.size w' w'') := Lib.hid (fun w' A' c' n' hr hn => by
    rw [← hWn]
    exact whole_any A' n' c' (mods0 L) w' hr (fun p hp => by
      unfold mods0 at hp
      obtain ⟨z, hz, rfl⟩ := List.mem_map.1 hp
      have := hin z hz
      exact ⟨by show 1 ≤ z; omega, by show z ≤ 60; omega⟩) (by omega))
  rw [hWn]
  have HTD : Hid (decide ((Wn : Int) ≤ 10080) = decide (Wn ≤ 10080)) := Lib.hid (by rw [Bool.eq_iff_iff, decide_eq_true_iff, decide_eq_true_iff]; omega)
  have HR := Lib.hid h
  have HL := Lib.hid hlen
  clear e h hlen hx hy hmin hmax hin hWn h1'
  obtain ⟨i0, hi, hz0, hz1, hz2⟩ := info_parts info68
  go_enter Try.func69, Try.ntmps69
  go_wp2_with fail
  refine HMI.out.mono ?_; rintro e w1 ⟨rfl, rfl⟩
  go_wp2_with fail
  refine HMA.out.mono ?_; rintro e w1 ⟨rfl, rfl⟩
  go_wp2_with fail
  go_loopw [3, 26] (fun v z wr => ∃ k : Nat, k ≤ l ∧ Hid (PRel 68 w (mods0 (L.take k)) v wr) ∧ z = .int .i64 (k : Int)) (fun _ z _ => l - (intOf z).toNat)
  case atStart => exact ⟨0, by omega, Lib.hid ⟨World.ownsRow_nil .., Below.refl _ _⟩, rfl⟩
  case round =>
    obtain ⟨k, hk, hrl, rfl⟩ := hrel
    by_cases hlt : k < l
    · obtain ⟨b, off, x', hx', rfl, hB, g1⟩ := (HR.out.below hrl.out.2).at_ hlt
      have HTK := Lib.hid (mods0_take hx')
      have HKL : Hid ((mods0 (L.take k)).length = k) := Lib.hid (by rw [mods0_len, List.length_take]; have := HL.out; omega)
      have hlti : (k : Int) < (l : Int) := by omega
      have hown : (wr.alloc (Obj.cells #[.int .i64 0, .int .i64 x'] 68)).ownsRow w.heap.size 68 2 u3 k (flat (mods0 (L.take k))) := by
        have h5 := hrl.out.1.alloc (Obj.cells #[.int .i64 0, .int .i64 x'] 68)
        rw [HKL.out] at h5
        exact h5
      have HOW := Lib.hid hown
      have HNE := Lib.hid (flat_news (w := wr.alloc (Obj.cells #[.int .i64 0, .int .i64 x'] 68)) (w0 := wr) (x := 0) (m := x') (g := wr.heap.size) rfl rfl)
      have H1 := Lib.hid (two_one (x := 0) (m := x'))
      have H3 : Hid (k + 1 ≤ maxLen) := Lib.hid (by unfold maxLen; omega)
      have H4 : Hid ((k + 1) * 16 ≤ 140737488355328) := Lib.hid (by omega)
      have H5 : Hid (w.heap.size ≤ (wr.alloc (Obj.cells #[.int .i64 0, .int .i64 x'] 68)).heap.size) := Lib.hid (by have := hrl.out.2.size; simp; omega)
      clear hown hx'
      go_wp2_with (at_builtin; refine wpList_append_own _ rfl _ _ 62 rfl w.heap.size 68 i0 (.agg #[.int .i64 0, .int .i64 0]) 2 16 Try.underlying62 hi hz0 hz1 hz2 rfl (by decide) _ k (flat (mods0 (L.take k))) rfl HOW.out ⟨wr.heap.size, 0, none⟩ 1 1 [.int .i64 0, .int .i64 x'] rfl rfl HNE.out H1.out H3.out H4.out H5.out ?_; intro v' w3 hown' hgrow _)
      have HN : Hid (PRel 68 w (mods0 (L.take (k + 1))) v' w3) := Lib.hid (by
        rw [HTK.out]
        exact hrl.out.next ((Below.refl _ _).alloc (Nat.le_refl _) _) (by rw [HKL.out]; exact hown') hgrow)
      clear hown' hgrow
      go_wp2_with fail
      go_roundw
      case rel => exact ⟨k + 1, by omega, HN, by go_num⟩
      case measure => simp [intOf]; omega
    · have hkl : k = l := by omega
      have hT : L.take k = L := List.take_of_length_le (by rw [hkl, ← HL.out]; exact Nat.le_refl _)
      rw [hT] at hrl
      obtain ⟨A', c', rfl, hrow, _⟩ := hrl.out.form
      have HLM : Hid ((mods0 L).length ≤ 7) := Lib.hid (by rw [mods0_len, ← HL.out]; omega)
      have HC2 := Lib.hid (HWH.out wr A' c' _ hrow HLM.out)
      have HBR := Lib.hid hrl.out.2
      clear hrow hT hrl
      go_wp2_with fail
      refine HC2.out.mono ?_; rintro e w4 ⟨rfl, hb4⟩
      have HB4 := Lib.hid (bt HBR.out hb4)
      clear hb4
      go_wp2_with fail
      go_ret
      refine ⟨?_, HB4.out⟩
      rw [← HTD.out]; rfl
end Go.Proofs.Ytmmgidhaakkaoaa
