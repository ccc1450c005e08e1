/- Reading numbers of an order: the walks of Min, Max, what asks of each number, and read. -/
import Derived.Test.YtmljndjiipgpdaaRt3
namespace Go.Proofs.Ytmljndjiipgpdaa
open Go Go.RowKit GhP

def minL : List Int → Int
  | [] => 0
  | x :: L => L.foldl min x
def maxL : List Int → Int
  | [] => 0
  | x :: L => L.foldl max x
theorem foldl_min (L : List Int) : ∀ x b : Int, (b ≤ L.foldl min x ↔ b ≤ x ∧ ∀ y ∈ L, b ≤ y) := by
  induction L with
  | nil => intro x b; simp
  | cons y L ih => intro x b; rw [List.foldl_cons, ih, Int.le_min, and_assoc]; simp only [List.mem_cons, forall_eq_or_imp]
theorem foldl_max (L : List Int) : ∀ x b : Int, (L.foldl max x ≤ b ↔ x ≤ b ∧ ∀ y ∈ L, y ≤ b) := by
  induction L with
  | nil => intro x b; simp
  | cons y L ih => intro x b; rw [List.foldl_cons, ih, Int.max_le, and_assoc]; simp only [List.mem_cons, forall_eq_or_imp]
theorem minL_le {L : List Int} (h : 1 ≤ L.length) (b : Int) : b ≤ minL L ↔ ∀ y ∈ L, b ≤ y := by
  cases L with
  | nil => simp at h
  | cons x L => rw [minL, foldl_min]; simp
theorem maxL_le {L : List Int} (h : 1 ≤ L.length) (b : Int) : maxL L ≤ b ↔ ∀ y ∈ L, y ≤ b := by
  cases L with
  | nil => simp at h
  | cons x L => rw [maxL, foldl_max]; simp
theorem min_succ {L : List Int} {k : Nat} {x : Int} (hk : 1 ≤ k) (h : L[k]? = some x) : minL (L.take (k + 1)) = min (minL (L.take k)) x := by
  obtain ⟨hk2, e⟩ := List.getElem?_eq_some_iff.1 h
  rw [List.take_succ_eq_append_getElem hk2, e]
  cases L with
  | nil => simp at h
  | cons y L =>
    obtain ⟨j, rfl⟩ : ∃ j, k = j + 1 := ⟨k - 1, by omega⟩
    simp [minL]
theorem max_succ {L : List Int} {k : Nat} {x : Int} (hk : 1 ≤ k) (h : L[k]? = some x) : maxL (L.take (k + 1)) = max (maxL (L.take k)) x := by
  obtain ⟨hk2, e⟩ := List.getElem?_eq_some_iff.1 h
  rw [List.take_succ_eq_append_getElem hk2, e]
  cases L with
  | nil => simp at h
  | cons y L =>
    obtain ⟨j, rfl⟩ : ∃ j, k = j + 1 := ⟨k - 1, by omega⟩
    simp [maxL]

set_option maxHeartbeats 400000 in
theorem min_any (A : Option Addr) (l c : Nat) (L : List Int) (w : World) (h : IRow w w.heap.size A l L) (hl : 1 ≤ l) (hl2 : l ≤ 1000000) :
    Calls Try.prog 54 #[.slice A l c] w fun e w' => e = .returned (.int .i64 (minL L)) ∧ w = w' := by
  have HR := Lib.hid h
  have HL := Lib.hid h.1
  obtain ⟨b0, off0, x0, hx0, rfl, hB0, g0⟩ := h.at_ (k := 0) (by omega)
  have H0 : Hid (minL (L.take 1) = x0) := Lib.hid (by
    cases L with
    | nil => simp at hx0
    | cons y L => simp at hx0; subst hx0; rfl)
  rw [Nat.add_zero] at g0
  clear h hx0
  go_enter Try.func54, Try.ntmps54
  go_wp2_with fail
  go_loop [3, 4] (fun v x => ∃ k : Nat, 1 ≤ k ∧ k ≤ l ∧ x = .int .i64 (k : Int) ∧ v = .int .i64 (minL (L.take k))) (fun _ x => l - (intOf x).toNat)
  case atStart => exact ⟨1, by omega, by omega, rfl, by rw [H0.out]⟩
  case round =>
    obtain ⟨k, hk1, hk, rfl, rfl⟩ := hrel
    by_cases hlt : k < l
    · obtain ⟨b, off, x, hx, hA, hB, g1⟩ := HR.out.at_ hlt
      injection hA with hA
      injection hA with hA1 hA2
      subst hA1 hA2
      have HS := Lib.hid (min_succ hk1 hx)
      have hki : (k : Int) < (l : Int) := by omega
      clear hx
      go_wp2_with fail
      go_round
      case rel => exact ⟨k + 1, by omega, by omega, by go_num, by rw [HS.out]; congr 1; split <;> omega⟩
      case measure => simp [intOf]; omega
    · have e : k = l := by omega
      subst e
      have HE : Hid (L.take k = L) := Lib.hid (List.take_of_length_le (by rw [← HL.out]; omega))
      go_wp2_with fail
      go_ret
      exact ⟨by rw [HE.out]; rfl, rfl⟩

set_option maxHeartbeats 400000 in
theorem max_any (A : Option Addr) (l c : Nat) (L : List Int) (w : World) (h : IRow w w.heap.size A l L) (hl : 1 ≤ l) (hl2 : l ≤ 1000000) :
    Calls Try.prog 55 #[.slice A l c] w fun e w' => e = .returned (.int .i64 (maxL L)) ∧ w = w' := by
  have HR := Lib.hid h
  have HL := Lib.hid h.1
  obtain ⟨b0, off0, x0, hx0, rfl, hB0, g0⟩ := h.at_ (k := 0) (by omega)
  have H0 : Hid (maxL (L.take 1) = x0) := Lib.hid (by
    cases L with
    | nil => simp at hx0
    | cons y L => simp at hx0; subst hx0; rfl)
  rw [Nat.add_zero] at g0
  clear h hx0
  go_enter Try.func55, Try.ntmps55
  go_wp2_with fail
  go_loop [3, 4] (fun v x => ∃ k : Nat, 1 ≤ k ∧ k ≤ l ∧ x = .int .i64 (k : Int) ∧ v = .int .i64 (maxL (L.take k))) (fun _ x => l - (intOf x).toNat)
  case atStart => exact ⟨1, by omega, by omega, rfl, by rw [H0.out]⟩
  case round =>
    obtain ⟨k, hk1, hk, rfl, rfl⟩ := hrel
    by_cases hlt : k < l
    · obtain ⟨b, off, x, hx, hA, hB, g1⟩ := HR.out.at_ hlt
      injection hA with hA
      injection hA with hA1 hA2
      subst hA1 hA2
      have HS := Lib.hid (max_succ hk1 hx)
      have hki : (k : Int) < (l : Int) := by omega
      clear hx
      go_wp2_with fail
      go_round
      case rel => exact ⟨k + 1, by omega, by omega, by go_num, by rw [HS.out]; congr 1; split <;> omega⟩
      case measure => simp [intOf]; omega
    · have e : k = l := by omega
      subst e
      have HE : Hid (L.take k = L) := Lib.hid (List.take_of_length_le (by rw [← HL.out]; omega))
      go_wp2_with fail
      go_ret
      exact ⟨by rw [HE.out]; rfl, rfl⟩

/-- whether a list is a number: P elements, each within a bound -/
def numB (P : Nat) (most : Int) (L : List Int) : Bool := decide (L.length = P ∧ ∀ x ∈ L, -most ≤ x ∧ x ≤ most)
theorem numB_yes {P : Nat} {most : Int} {L : List Int} (h : numB P most L = true) : L.length = P ∧ ∀ x ∈ L, -most ≤ x ∧ x ≤ most := by unfold numB at h; exact of_decide_eq_true h
theorem numB_mk {P : Nat} {most : Int} {L : List Int} (h : L.length = P ∧ ∀ x ∈ L, -most ≤ x ∧ x ≤ most) : numB P most L = true := by unfold numB; exact decide_eq_true h
theorem numB_no {P : Nat} {most : Int} {L : List Int} (h : ¬ (L.length = P ∧ ∀ x ∈ L, -most ≤ x ∧ x ≤ most)) : numB P most L = false := by unfold numB; exact decide_eq_false h

set_option maxRecDepth 100000 in
set_option maxHeartbeats 1000000 in
theorem read1_any (A R : Option Addr) (la ca n P m d rb mb : Nat) (most : Int) (L : List Int) (w : World) (h : IRow w w.heap.size A la L) (c0 : w.cell? ⟨rb, 0, none⟩ = some (.int .i64 (n : Int))) (c1 : w.cell? ⟨rb, 1, none⟩ = some (.slice R m d)) (c2 : w.cell? ⟨mb, 0, none⟩ = some (.int .i64 most))
    (hrb : rb < w.heap.size) (hmb : mb < w.heap.size) (hm : m = P + 1) (hP : 1 ≤ P) (hP2 : P ≤ 100) (hmo : 0 ≤ most) (hmo2 : most ≤ 1000) (hla : la ≤ 1000000) :
    Calls Try.prog 52 #[.slice A la ca, .pointer (some ⟨rb, 0, none⟩), .pointer (some ⟨mb, 0, none⟩)] w fun e w' => e = .returned (.bool (!numB P most L)) ∧ Below w.heap.size w w' := by
  have HR := Lib.hid h
  have hll := h.1
  have HC : Hid (∀ w', Below w.heap.size w w' → w'.cell? ⟨rb, 0, none⟩ = some (.int .i64 (n : Int)) ∧ w'.cell? ⟨rb, 1, none⟩ = some (.slice R m d) ∧ w'.cell? ⟨mb, 0, none⟩ = some (.int .i64 most)) := Lib.hid (fun w' hb =>
    ⟨(hb.cell (p := ⟨rb, 0, none⟩) hrb).trans c0, (hb.cell (p := ⟨rb, 1, none⟩) hrb).trans c1, (hb.cell (p := ⟨mb, 0, none⟩) hmb).trans c2⟩)
  have hmP : (m : Int) - 1 = (P : Int) := by omega
  have HMP := Lib.hid hmP
  have HDG : Hid (∀ w', Calls Try.prog 53 #[rgV n R m d] w' fun e w'' => e = .returned (.int .i64 (P : Int)) ∧ Below w'.heap.size w' w'') := Lib.hid (fun w' => by
    have := degree_any n R m d w' (by omega) (by omega)
    rwa [hmP] at this)
  by_cases h1 : la = P
  · have t1 : ((la : Int) != (P : Int)) = false := by simp; omega
    have HMN := Lib.hid (minL_le (L := L) (by omega) (-most))
    have HMX := Lib.hid (maxL_le (L := L) (by omega) most)
    obtain ⟨mn, hmn⟩ : ∃ mn, minL L = mn := ⟨_, rfl⟩
    obtain ⟨mx, hmx⟩ : ∃ mx, maxL L = mx := ⟨_, rfl⟩
    have HMNV : Hid (∀ w', Below w.heap.size w w' → Calls Try.prog 54 #[.slice A la ca] w' fun e w'' => e = .returned (.int .i64 mn) ∧ w' = w'') := Lib.hid (fun w' hb => by
      rw [← hmn]; exact min_any A la ca L w' (HR.out.next hb) (by omega) (by omega))
    have HMXV : Hid (∀ w', Below w.heap.size w w' → Calls Try.prog 55 #[.slice A la ca] w' fun e w'' => e = .returned (.int .i64 mx) ∧ w' = w'') := Lib.hid (fun w' hb => by
      rw [← hmx]; exact max_any A la ca L w' (HR.out.next hb) (by omega) (by omega))
    rw [hmn] at HMN
    rw [hmx] at HMX
    have HLP : Hid (L.length = P) := Lib.hid (by omega)
    by_cases h2 : mn < -most
    · have HN : Hid (numB P most L = false) := Lib.hid (numB_no (fun hh => by
        have := HMN.out.2 (fun y hy => (hh.2 y hy).1); omega))
      obtain ⟨ng, hng⟩ : ∃ ng, -most = ng := ⟨_, rfl⟩
      have t0 : IntKind.i64.wrap (-most) = ng := by rw [← hng]; exact IntWalk.i64_in _ (by omega)
      rw [hng] at h2
      have t2 : decide (mn < ng) = true := decide_eq_true h2
      clear h hll hmP h1 hmn hmx hm hng
      go_enter Try.func52, Try.ntmps52
      go_wp2_with fail
      refine wp_region_held_drew (S := fun w' => w'.cell? ⟨rb, 0, none⟩ = some (.int .i64 (n : Int)) ∧ w'.cell? ⟨rb, 1, none⟩ = some (.slice R m d) ∧ w'.cell? ⟨mb, 0, none⟩ = some (.int .i64 most)) (by kernel_rfl) ?_ (fun hHeld => ?_)
      · exact ⟨c0, c1, c2⟩
      refine wpAnyH_take (i := 0) (oi := ⟨some 5, _, _, _, _, _⟩) (v := .slice A la ca) rfl (by kernel_rfl) (by kernel_rfl) (by kernel_rfl) (fun _ _ _ h => h) (Or.inl ⟨by rfl, ?_⟩) (by assumption) ?_
      · intro w hSw
        try dsimp only at hSw
        go_simp
      try simp only [Act.put, List.setIfInBounds_toArray, List.set_cons_zero, List.set_cons_succ]
      refine wpAnyH_take (i := 1) (oi := ⟨some 6, _, _, _, _, _⟩) (v := .int .i64 (la : Int)) rfl (by kernel_rfl) (by kernel_rfl) (by kernel_rfl) (fun _ _ _ h => h) (Or.inl ⟨by rfl, ?_⟩) (by assumption) ?_
      · intro w hSw
        try dsimp only at hSw
        go_simp
      try simp only [Act.put, List.setIfInBounds_toArray, List.set_cons_zero, List.set_cons_succ]
      refine wpAnyH_take (i := 2) (oi := ⟨some 7, _, _, _, _, _⟩) (v := rgV n R m d) rfl (by kernel_rfl) (by kernel_rfl) (by kernel_rfl) (fun _ _ _ h => h) (Or.inl ⟨by rfl, ?_⟩) (by assumption) ?_
      · intro w hSw
        try dsimp only at hSw
        go_simp
      try simp only [Act.put, List.setIfInBounds_toArray, List.set_cons_zero, List.set_cons_succ]
      refine wpAnyH_ready (rs := [3]) (by kernel_rfl) (by simp) ?_
      refine AllReadyH.cons rfl (fun K hK => ?_) AllReadyH.nil
      go_simp
      refine (HDG.out _).mono ?_; rintro e w1 ⟨rfl, hb1⟩; obtain ⟨y0, y1, y2⟩ := HC.out w1 (by first | exact hb1 | exact ibt (Below.refl _ _).drew hb1)
      refine hK.out _ _ ?_ (fun hHeld => ?_)
      · exact ⟨y0, y1, y2⟩
      clear hK K
      try simp only [Act.put, List.setIfInBounds_toArray, List.set_cons_zero, List.set_cons_succ]
      refine wpAnyH_take (i := 4) (oi := ⟨some 9, _, _, _, _, _⟩) (v := .bool false) rfl (by kernel_rfl) (by kernel_rfl) (by kernel_rfl) (fun _ _ _ h => h) (Or.inl ⟨by rfl, ?_⟩) (by assumption) ?_
      · intro w hSw
        try dsimp only at hSw
        go_simp
      try simp only [Act.put, List.setIfInBounds_toArray, List.set_cons_zero, List.set_cons_succ]
      refine wpAnyH_take (i := 5) (oi := ⟨some 10, _, _, _, _, _⟩) (v := .bool false) rfl (by kernel_rfl) (by kernel_rfl) (by kernel_rfl) (fun _ _ _ h => h) (Or.inl ⟨by rfl, ?_⟩) (by assumption) ?_
      · intro w hSw
        try dsimp only at hSw
        go_simp
      try simp only [Act.put, List.setIfInBounds_toArray, List.set_cons_zero, List.set_cons_succ]
      refine wpAnyH_take (i := 6) (oi := ⟨some 11, _, _, _, _, _⟩) (v := .slice A la ca) rfl (by kernel_rfl) (by kernel_rfl) (by kernel_rfl) (fun _ _ _ h => h) (Or.inl ⟨by rfl, ?_⟩) (by assumption) ?_
      · intro w hSw
        try dsimp only at hSw
        go_simp
      try simp only [Act.put, List.setIfInBounds_toArray, List.set_cons_zero, List.set_cons_succ]
      refine wpAnyH_take (i := 8) (oi := ⟨some 13, _, _, _, _, _⟩) (v := .int .i64 most) rfl (by kernel_rfl) (by kernel_rfl) (by kernel_rfl) (fun _ _ _ h => h) (Or.inl ⟨by rfl, ?_⟩) (by assumption) ?_
      · intro w hSw
        try dsimp only at hSw
        go_simp
      try simp only [Act.put, List.setIfInBounds_toArray, List.set_cons_zero, List.set_cons_succ]
      refine wpAnyH_take (i := 9) (oi := ⟨some 14, _, _, _, _, _⟩) (v := .int .i64 ng) rfl (by kernel_rfl) (by kernel_rfl) (by kernel_rfl) (fun _ _ _ h => h) (Or.inl ⟨by rfl, ?_⟩) (by assumption) ?_
      · intro w hSw
        try dsimp only at hSw
        go_simp
      try simp only [Act.put, List.setIfInBounds_toArray, List.set_cons_zero, List.set_cons_succ]
      refine wpAnyH_ready (rs := [7]) (by kernel_rfl) (by simp) ?_
      refine AllReadyH.cons rfl (fun K hK => ?_) AllReadyH.nil
      go_simp
      refine (HMNV.out _ (by first | exact hb1 | exact ibt (Below.refl _ _).drew hb1)).mono ?_; rintro e w2 ⟨rfl, rfl⟩
      refine hK.out _ _ ?_ (fun hHeld => ?_)
      · exact ⟨y0, y1, y2⟩
      clear hK K
      try simp only [Act.put, List.setIfInBounds_toArray, List.set_cons_zero, List.set_cons_succ]
      refine wpAnyH_take (i := 10) (oi := ⟨some 15, _, _, _, _, _⟩) (v := .bool true) rfl (by kernel_rfl) (by kernel_rfl) (by kernel_rfl) (fun _ _ _ h => h) (Or.inl ⟨by rfl, ?_⟩) (by assumption) ?_
      · intro w hSw
        try dsimp only at hSw
        go_simp
      try simp only [Act.put, List.setIfInBounds_toArray, List.set_cons_zero, List.set_cons_succ]
      refine wpAnyH_take (i := 11) (oi := ⟨some 16, _, _, _, _, _⟩) (v := .bool true) rfl (by kernel_rfl) (by kernel_rfl) (by kernel_rfl) (fun _ _ _ h => h) (Or.inl ⟨by rfl, ?_⟩) (by assumption) ?_
      · intro w hSw
        try dsimp only at hSw
        go_simp
      try simp only [Act.put, List.setIfInBounds_toArray, List.set_cons_zero, List.set_cons_succ]
      refine wpAnyH_take (i := 12) (oi := ⟨some 17, _, _, _, _, _⟩) (v := .bool true) rfl (by kernel_rfl) (by kernel_rfl) (by kernel_rfl) (fun _ _ _ h => h) (Or.inl ⟨by rfl, ?_⟩) (by assumption) ?_
      · intro w hSw
        try dsimp only at hSw
        go_simp
      try simp only [Act.put, List.setIfInBounds_toArray, List.set_cons_zero, List.set_cons_succ]
      refine wpAnyH_take (i := 13) (oi := ⟨some 18, _, _, _, _, _⟩) (v := undef) rfl (by kernel_rfl) (by kernel_rfl) (by kernel_rfl) (fun _ _ _ h => h) (Or.inr ⟨by rfl, rfl⟩) (by assumption) ?_
      try simp only [Act.put, List.setIfInBounds_toArray, List.set_cons_zero, List.set_cons_succ]
      refine wpAnyH_take (i := 14) (oi := ⟨some 19, _, _, _, _, _⟩) (v := undef) rfl (by kernel_rfl) (by kernel_rfl) (by kernel_rfl) (fun _ _ _ h => h) (Or.inr ⟨by rfl, rfl⟩) (by assumption) ?_
      try simp only [Act.put, List.setIfInBounds_toArray, List.set_cons_zero, List.set_cons_succ]
      refine wpAnyH_take (i := 15) (oi := ⟨some 20, _, _, _, _, _⟩) (v := undef) rfl (by kernel_rfl) (by kernel_rfl) (by kernel_rfl) (fun _ _ _ h => h) (Or.inr ⟨by rfl, rfl⟩) (by assumption) ?_
      try simp only [Act.put, List.setIfInBounds_toArray, List.set_cons_zero, List.set_cons_succ]
      refine wpAnyH_take (i := 16) (oi := ⟨some 21, _, _, _, _, _⟩) (v := undef) rfl (by kernel_rfl) (by kernel_rfl) (by kernel_rfl) (fun _ _ _ h => h) (Or.inr ⟨by rfl, rfl⟩) (by assumption) ?_
      try simp only [Act.put, List.setIfInBounds_toArray, List.set_cons_zero, List.set_cons_succ]
      refine wpAnyH_take (i := 17) (oi := ⟨some 22, _, _, _, _, _⟩) (v := .bool true) rfl (by kernel_rfl) (by kernel_rfl) (by kernel_rfl) (fun _ _ _ h => h) (Or.inl ⟨by rfl, ?_⟩) (by assumption) ?_
      · intro w hSw
        try dsimp only at hSw
        go_simp
      try simp only [Act.put, List.setIfInBounds_toArray, List.set_cons_zero, List.set_cons_succ]
      refine wpAnyH_take (i := 18) (oi := ⟨some 4, _, _, _, _, _⟩) (v := .bool true) rfl (by kernel_rfl) (by kernel_rfl) (by kernel_rfl) (fun _ _ _ h => h) (Or.inl ⟨by rfl, ?_⟩) (by assumption) ?_
      · intro w hSw
        try dsimp only at hSw
        go_simp
      try simp only [Act.put, List.setIfInBounds_toArray, List.set_cons_zero, List.set_cons_succ]
      refine wpAnyH_done (by kernel_rfl) ?_ _
      go_wp2_with fail
      go_ret
      exact ⟨by rw [HN.out]; rfl, by first | exact hb1 | exact ibt (Below.refl _ _).drew hb1⟩
    · obtain ⟨ng, hng⟩ : ∃ ng, -most = ng := ⟨_, rfl⟩
      have t0 : IntKind.i64.wrap (-most) = ng := by rw [← hng]; exact IntWalk.i64_in _ (by omega)
      have HNI : Hid (∀ y ∈ L, -most ≤ y) := Lib.hid (HMN.out.1 (by omega))
      rw [hng] at h2
      have t2 : decide (mn < ng) = false := decide_eq_false h2
      by_cases h3 : most < mx
      · have HN : Hid (numB P most L = false) := Lib.hid (numB_no (fun hh => by
          have := HMX.out.2 (fun y hy => (hh.2 y hy).2); omega))
        have t3 : decide (most < mx) = true := decide_eq_true h3
        clear h hll hmP h1 hmn hmx hm hng
        go_enter Try.func52, Try.ntmps52
        go_wp2_with fail
        go_region_held3 (fun w' => w'.cell? ⟨rb, 0, none⟩ = some (.int .i64 (n : Int)) ∧ w'.cell? ⟨rb, 1, none⟩ = some (.slice R m d) ∧ w'.cell? ⟨mb, 0, none⟩ = some (.int .i64 most)) (first | exact ⟨c0, c1, c2⟩ | exact ⟨y0, y1, y2⟩ | go_keep)
          (first
          | (go_at_call 53; refine (HDG.out _).mono ?_; rintro e w1 ⟨rfl, hb1⟩; obtain ⟨y0, y1, y2⟩ := HC.out w1 (by first | exact hb1 | exact ibt (Below.refl _ _).drew hb1))
          | (go_at_call 54; refine (HMNV.out _ (by first | exact hb1 | exact ibt (Below.refl _ _).drew hb1)).mono ?_; rintro e w2 ⟨rfl, rfl⟩)
          | (go_at_call 55; refine (HMXV.out _ (by first | exact hb1 | exact ibt (Below.refl _ _).drew hb1)).mono ?_; rintro e w2 ⟨rfl, rfl⟩))
        go_wp2_with fail
        go_ret
        exact ⟨by rw [HN.out]; rfl, by first | exact hb1 | exact ibt (Below.refl _ _).drew hb1⟩
      · have HN : Hid (numB P most L = true) := Lib.hid (numB_mk ⟨HLP.out, fun y hy => ⟨HNI.out y hy, HMX.out.1 (by omega) y hy⟩⟩)
        have t3 : decide (most < mx) = false := decide_eq_false h3
        clear h hll hmP h1 hmn hmx hm hng
        go_enter Try.func52, Try.ntmps52
        go_wp2_with fail
        go_region_held3 (fun w' => w'.cell? ⟨rb, 0, none⟩ = some (.int .i64 (n : Int)) ∧ w'.cell? ⟨rb, 1, none⟩ = some (.slice R m d) ∧ w'.cell? ⟨mb, 0, none⟩ = some (.int .i64 most)) (first | exact ⟨c0, c1, c2⟩ | exact ⟨y0, y1, y2⟩ | go_keep)
          (first
          | (go_at_call 53; refine (HDG.out _).mono ?_; rintro e w1 ⟨rfl, hb1⟩; obtain ⟨y0, y1, y2⟩ := HC.out w1 (by first | exact hb1 | exact ibt (Below.refl _ _).drew hb1))
          | (go_at_call 54; refine (HMNV.out _ (by first | exact hb1 | exact ibt (Below.refl _ _).drew hb1)).mono ?_; rintro e w2 ⟨rfl, rfl⟩)
          | (go_at_call 55; refine (HMXV.out _ (by first | exact hb1 | exact ibt (Below.refl _ _).drew hb1)).mono ?_; rintro e w2 ⟨rfl, rfl⟩))
        go_wp2_with fail
        go_ret
        exact ⟨by rw [HN.out]; rfl, by first | exact hb1 | exact ibt (Below.refl _ _).drew hb1⟩
  · have t1 : ((la : Int) != (P : Int)) = true := by simp; omega
    have HN : Hid (numB P most L = false) := Lib.hid (numB_no (fun hh => h1 (by omega)))
    clear h hll hmP h1 hm
    go_enter Try.func52, Try.ntmps52
    go_wp2_with fail
    refine wp_region_held_drew (S := fun w' => w'.cell? ⟨rb, 0, none⟩ = some (.int .i64 (n : Int)) ∧ w'.cell? ⟨rb, 1, none⟩ = some (.slice R m d) ∧ w'.cell? ⟨mb, 0, none⟩ = some (.int .i64 most)) (by kernel_rfl) ?_ (fun hHeld => ?_)
    · exact ⟨c0, c1, c2⟩
    refine wpAnyH_take (i := 0) (oi := ⟨some 5, _, _, _, _, _⟩) (v := .slice A la ca) rfl (by kernel_rfl) (by kernel_rfl) (by kernel_rfl) (fun _ _ _ h => h) (Or.inl ⟨by rfl, ?_⟩) (by assumption) ?_
    · intro w hSw
      try dsimp only at hSw
      go_simp
    try simp only [Act.put, List.setIfInBounds_toArray, List.set_cons_zero, List.set_cons_succ]
    refine wpAnyH_take (i := 1) (oi := ⟨some 6, _, _, _, _, _⟩) (v := .int .i64 (la : Int)) rfl (by kernel_rfl) (by kernel_rfl) (by kernel_rfl) (fun _ _ _ h => h) (Or.inl ⟨by rfl, ?_⟩) (by assumption) ?_
    · intro w hSw
      try dsimp only at hSw
      go_simp
    try simp only [Act.put, List.setIfInBounds_toArray, List.set_cons_zero, List.set_cons_succ]
    refine wpAnyH_take (i := 2) (oi := ⟨some 7, _, _, _, _, _⟩) (v := rgV n R m d) rfl (by kernel_rfl) (by kernel_rfl) (by kernel_rfl) (fun _ _ _ h => h) (Or.inl ⟨by rfl, ?_⟩) (by assumption) ?_
    · intro w hSw
      try dsimp only at hSw
      go_simp
    try simp only [Act.put, List.setIfInBounds_toArray, List.set_cons_zero, List.set_cons_succ]
    refine wpAnyH_ready (rs := [3]) (by kernel_rfl) (by simp) ?_
    refine AllReadyH.cons rfl (fun K hK => ?_) AllReadyH.nil
    go_simp
    refine (HDG.out _).mono ?_; rintro e w1 ⟨rfl, hb1⟩; obtain ⟨y0, y1, y2⟩ := HC.out w1 (by first | exact hb1 | exact ibt (Below.refl _ _).drew hb1)
    refine hK.out _ _ ?_ (fun hHeld => ?_)
    · exact ⟨y0, y1, y2⟩
    clear hK K
    try simp only [Act.put, List.setIfInBounds_toArray, List.set_cons_zero, List.set_cons_succ]
    refine wpAnyH_take (i := 4) (oi := ⟨some 9, _, _, _, _, _⟩) (v := .bool true) rfl (by kernel_rfl) (by kernel_rfl) (by kernel_rfl) (fun _ _ _ h => h) (Or.inl ⟨by rfl, ?_⟩) (by assumption) ?_
    · intro w hSw
      try dsimp only at hSw
      go_simp
    try simp only [Act.put, List.setIfInBounds_toArray, List.set_cons_zero, List.set_cons_succ]
    refine wpAnyH_take (i := 5) (oi := ⟨some 10, _, _, _, _, _⟩) (v := .bool true) rfl (by kernel_rfl) (by kernel_rfl) (by kernel_rfl) (fun _ _ _ h => h) (Or.inl ⟨by rfl, ?_⟩) (by assumption) ?_
    · intro w hSw
      try dsimp only at hSw
      go_simp
    try simp only [Act.put, List.setIfInBounds_toArray, List.set_cons_zero, List.set_cons_succ]
    refine wpAnyH_take (i := 6) (oi := ⟨some 11, _, _, _, _, _⟩) (v := undef) rfl (by kernel_rfl) (by kernel_rfl) (by kernel_rfl) (fun _ _ _ h => h) (Or.inr ⟨by rfl, rfl⟩) (by assumption) ?_
    try simp only [Act.put, List.setIfInBounds_toArray, List.set_cons_zero, List.set_cons_succ]
    refine wpAnyH_take (i := 7) (oi := ⟨some 12, _, _, _, _, _⟩) (v := undef) rfl (by kernel_rfl) (by kernel_rfl) (by kernel_rfl) (fun _ _ _ h => h) (Or.inr ⟨by rfl, rfl⟩) (by assumption) ?_
    try simp only [Act.put, List.setIfInBounds_toArray, List.set_cons_zero, List.set_cons_succ]
    refine wpAnyH_take (i := 8) (oi := ⟨some 13, _, _, _, _, _⟩) (v := undef) rfl (by kernel_rfl) (by kernel_rfl) (by kernel_rfl) (fun _ _ _ h => h) (Or.inr ⟨by rfl, rfl⟩) (by assumption) ?_
    try simp only [Act.put, List.setIfInBounds_toArray, List.set_cons_zero, List.set_cons_succ]
    refine wpAnyH_take (i := 9) (oi := ⟨some 14, _, _, _, _, _⟩) (v := undef) rfl (by kernel_rfl) (by kernel_rfl) (by kernel_rfl) (fun _ _ _ h => h) (Or.inr ⟨by rfl, rfl⟩) (by assumption) ?_
    try simp only [Act.put, List.setIfInBounds_toArray, List.set_cons_zero, List.set_cons_succ]
    refine wpAnyH_take (i := 10) (oi := ⟨some 15, _, _, _, _, _⟩) (v := undef) rfl (by kernel_rfl) (by kernel_rfl) (by kernel_rfl) (fun _ _ _ h => h) (Or.inr ⟨by rfl, rfl⟩) (by assumption) ?_
    try simp only [Act.put, List.setIfInBounds_toArray, List.set_cons_zero, List.set_cons_succ]
    refine wpAnyH_take (i := 11) (oi := ⟨some 16, _, _, _, _, _⟩) (v := .bool true) rfl (by kernel_rfl) (by kernel_rfl) (by kernel_rfl) (fun _ _ _ h => h) (Or.inl ⟨by rfl, ?_⟩) (by assumption) ?_
    · intro w hSw
      try dsimp only at hSw
      go_simp
    try simp only [Act.put, List.setIfInBounds_toArray, List.set_cons_zero, List.set_cons_succ]
    refine wpAnyH_take (i := 12) (oi := ⟨some 17, _, _, _, _, _⟩) (v := .bool true) rfl (by kernel_rfl) (by kernel_rfl) (by kernel_rfl) (fun _ _ _ h => h) (Or.inl ⟨by rfl, ?_⟩) (by assumption) ?_
    · intro w hSw
      try dsimp only at hSw
      go_simp
    try simp only [Act.put, List.setIfInBounds_toArray, List.set_cons_zero, List.set_cons_succ]
    refine wpAnyH_take (i := 13) (oi := ⟨some 18, _, _, _, _, _⟩) (v := undef) rfl (by kernel_rfl) (by kernel_rfl) (by kernel_rfl) (fun _ _ _ h => h) (Or.inr ⟨by rfl, rfl⟩) (by assumption) ?_
    try simp only [Act.put, List.setIfInBounds_toArray, List.set_cons_zero, List.set_cons_succ]
    refine wpAnyH_take (i := 14) (oi := ⟨some 19, _, _, _, _, _⟩) (v := undef) rfl (by kernel_rfl) (by kernel_rfl) (by kernel_rfl) (fun _ _ _ h => h) (Or.inr ⟨by rfl, rfl⟩) (by assumption) ?_
    try simp only [Act.put, List.setIfInBounds_toArray, List.set_cons_zero, List.set_cons_succ]
    refine wpAnyH_take (i := 15) (oi := ⟨some 20, _, _, _, _, _⟩) (v := undef) rfl (by kernel_rfl) (by kernel_rfl) (by kernel_rfl) (fun _ _ _ h => h) (Or.inr ⟨by rfl, rfl⟩) (by assumption) ?_
    try simp only [Act.put, List.setIfInBounds_toArray, List.set_cons_zero, List.set_cons_succ]
    refine wpAnyH_take (i := 16) (oi := ⟨some 21, _, _, _, _, _⟩) (v := undef) rfl (by kernel_rfl) (by kernel_rfl) (by kernel_rfl) (fun _ _ _ h => h) (Or.inr ⟨by rfl, rfl⟩) (by assumption) ?_
    try simp only [Act.put, List.setIfInBounds_toArray, List.set_cons_zero, List.set_cons_succ]
    refine wpAnyH_take (i := 17) (oi := ⟨some 22, _, _, _, _, _⟩) (v := .bool true) rfl (by kernel_rfl) (by kernel_rfl) (by kernel_rfl) (fun _ _ _ h => h) (Or.inl ⟨by rfl, ?_⟩) (by assumption) ?_
    · intro w hSw
      try dsimp only at hSw
      go_simp
    try simp only [Act.put, List.setIfInBounds_toArray, List.set_cons_zero, List.set_cons_succ]
    refine wpAnyH_take (i := 18) (oi := ⟨some 4, _, _, _, _, _⟩) (v := .bool true) rfl (by kernel_rfl) (by kernel_rfl) (by kernel_rfl) (fun _ _ _ h => h) (Or.inl ⟨by rfl, ?_⟩) (by assumption) ?_
    · intro w hSw
      try dsimp only at hSw
      go_simp
    try simp only [Act.put, List.setIfInBounds_toArray, List.set_cons_zero, List.set_cons_succ]
    refine wpAnyH_done (by kernel_rfl) ?_ _
    go_wp2_with fail
    go_ret
    exact ⟨by rw [HN.out]; rfl, by first | exact hb1 | exact ibt (Below.refl _ _).drew hb1⟩
end Go.Proofs.Ytmljndjiipgpdaa
