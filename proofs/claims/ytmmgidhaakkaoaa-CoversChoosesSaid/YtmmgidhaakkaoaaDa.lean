/- covers.Days and covers.Always. -/
import Derived.Test.YtmmgidhaakkaoaaDs
namespace Go.Proofs.Ytmmgidhaakkaoaa
open Go Go.RowKit GhN

/-- a slice of pairs of the call's own that holds a list -/
def PRel (T : TypeId) (w : World) (D : List (Int × Int)) (v : Value) (wr : World) : Prop :=
  wr.ownsRow w.heap.size T 2 v D.length (flat D) ∧ Below w.heap.size w wr
theorem PRel.next {T : TypeId} {w wr w2 w1 : World} {D : List (Int × Int)} {v v' : Value} {x m : Int} (h : PRel T w D v wr) (h2 : Below wr.heap.size wr w2)
    (hown : w1.ownsRow w.heap.size T 2 v' (D.length + 1) (flat D ++ [.int .i64 x, .int .i64 m])) (hg : w2.grownBy w1 v.ownBlock) : PRel T w (D ++ [(x, m)]) v' w1 := by
  obtain ⟨h1, hb⟩ := h
  refine ⟨by rw [List.length_append, flat_append]; exact hown, ?_⟩
  refine (bt hb h2).grown hg (by have := hb.size; have := h2.size; omega) (fun g e => ?_)
  rcases h1.2 with ⟨rfl, _⟩ | ⟨g', cap, cur, rfl, hb, _⟩
  · cases e
  · injection e with e; subst e; exact hb
theorem PRel.below {T : TypeId} {w wr w2 : World} {D : List (Int × Int)} {v : Value} (h : PRel T w D v wr) (h2 : Below wr.heap.size wr w2) : PRel T w D v w2 :=
  ⟨h.1.kept (row := none) ⟨h2.os, h2.tape, h2.output, h2.size, fun k hk _ => h2.block k hk⟩ (by cases v.ownBlock <;> simp), bt h.2 h2⟩
theorem PRel.form {T : TypeId} {w wr : World} {D : List (Int × Int)} {v : Value} (h : PRel T w D v wr) : ∃ A c, v = .slice A D.length c ∧ Row wr wr.heap.size A D.length D ∧ (A = none → D.length = 0) := by
  rcases h.1.2 with ⟨rfl, h0⟩ | ⟨g, cap, cur, rfl, _⟩
  · have e : (Value.slice none 0 0) = .slice none D.length 0 := by rw [h0]
    exact ⟨none, 0, e, Row.of_own (e ▸ h.1), fun _ => h0⟩
  · exact ⟨_, cap, rfl, Row.of_own h.1, fun e => by cases e⟩

/-- a result that is a slice of pairs and an error's number -/
def GivesPE (w : World) (D : List (Int × Int)) (E : Int) (e : Ending) (w' : World) : Prop :=
  ∃ A n c, e = .returned (.tuple #[.slice A n c, .int .i64 E]) ∧ Row w' w'.heap.size A n D ∧ (A = none → n = 0) ∧ Below w.heap.size w w'

theorem prm_yes {k : Int} {L : List Int} (h : prmB k L = true) : 1 ≤ k ∧ k ≤ 1000000 ∧ k % 2 = 1 ∧ allOk L = true ∧ 1 ≤ L.length ∧ L.length ≤ 8 := by
  unfold prmB rprB seedB at h
  rw [Bool.and_eq_true, Bool.and_eq_true] at h
  have h1 := of_decide_eq_true h.1
  have h2 := of_decide_eq_true h.2.2
  exact ⟨h1.1, h1.2.1, h1.2.2, h.2.1, h2.1, h2.2⟩
theorem row_nil {w : World} {B : Nat} {A : Option Addr} : Row w B A 0 [] := ⟨rfl, fun h => absurd h (by omega)⟩
theorem flat_news {w w0 : World} {x m : Int} {g : Nat} {T : TypeId} (hg : w0.heap.size = g) (hw : w = w0.alloc (Obj.cells #[.int .i64 x, .int .i64 m] T)) : ∀ j u, ([Value.int .i64 x, .int .i64 m] : List Value)[j]? = some u → w.cell? ((⟨g, 0, none⟩ : Addr).add j) = some u := by
  intro j u hu
  rw [add_none, hw, ← hg]
  rcases j with _ | _ | j
  · simp at hu; subst hu; simp
  · simp at hu; subst hu; simp
  · simp at hu
theorem two_one {x m : Int} : ∀ u ∈ ([Value.int .i64 x, .int .i64 m] : List Value), u.oneCell' = true := by
  intro u hu; simp at hu; rcases hu with rfl | rfl <;> simp [Value.oneCell']

theorem Days_no (k : Int) (A : Option Addr) (l c : Nat) (L : List Int) (w : World) (h : IRow w w.heap.size A l L) (hlo : -9223372036854775808 ≤ k) (hw : ∀ x ∈ L, -9223372036854775808 ≤ x ∧ x ≤ 9223372036854775807) (hlc : l ≤ c) (hc : c ≤ 9223372036854775807) (hp : prmB k L = false) :
    Calls Try.prog 35 #[.int .i64 k, .slice A l c] w (GivesPE w [] 2) := by
  have HP : Hid (∀ w', Below w.heap.size w w' → Calls Try.prog 57 #[.int .i64 k, .slice A l c] w' fun e w'' => e = .returned (.bool false) ∧ Below w'.heap.size w' w'') := Lib.hid (fun w' hb => by
    rw [← hp]; exact primes_any k A l c L w' (h.next hb) hlo hw hlc hc)
  clear h hw hp
  go_enter Try.func35, Try.ntmps35
  go_wp2_with fail
  refine (HP.out _ (Below.refl _ _)).mono ?_; rintro e w1 ⟨rfl, hb1⟩
  go_wp2_with fail
  go_ret2
  exact ⟨none, 0, 0, rfl, row_nil, fun _ => rfl, hb1⟩
theorem Days_size (k : Int) (A : Option Addr) (l c : Nat) (L : List Int) (w : World) (h : IRow w w.heap.size A l L) (hlo : -9223372036854775808 ≤ k) (hw : ∀ x ∈ L, -9223372036854775808 ≤ x ∧ x ≤ 9223372036854775807) (hlc : l ≤ c) (hc : c ≤ 9223372036854775807) (hp : prmB k L = true) (hd : dOk k.toNat L = false) :
    Calls Try.prog 35 #[.int .i64 k, .slice A l c] w (GivesPE w [] 6) := by
  obtain ⟨p1, p2, p3, p4, p5, p6⟩ := prm_yes hp
  have HP : Hid (∀ w', Below w.heap.size w w' → Calls Try.prog 57 #[.int .i64 k, .slice A l c] w' fun e w'' => e = .returned (.bool true) ∧ Below w'.heap.size w' w'') := Lib.hid (fun w' hb => by
    rw [← hp]; exact primes_any k A l c L w' (h.next hb) hlo hw hlc hc)
  obtain ⟨K, rfl⟩ : ∃ K : Nat, k = K := ⟨k.toNat, by omega⟩
  rw [Int.toNat_natCast] at hd
  have HD : Hid (∀ w', Below w.heap.size w w' → Calls Try.prog 58 #[.int .i64 (K : Int), .slice A l c] w' (DaysPost w' K L)) := Lib.hid (fun w' hb => days_any K A l c L w' (h.next hb) p4 (by have := h.1; omega) (by omega))
  have HF := Lib.hid hd
  clear h hw hp p3 p4 hd
  go_enter Try.func35, Try.ntmps35
  go_wp2_with fail
  refine (HP.out _ (Below.refl _ _)).mono ?_; rintro e w1 ⟨rfl, hb1⟩
  have HB1 := Lib.hid hb1
  clear hb1
  go_wp2_with fail
  refine (HD.out _ HB1.out).mono ?_; rintro e w2 ⟨A2, n2, c2, rfl, _, hb2⟩
  rw [HF.out]
  have HB2 := Lib.hid (bt HB1.out hb2)
  clear hb2
  go_wp2_with fail
  go_ret2
  exact ⟨none, 0, 0, rfl, row_nil, fun _ => rfl, HB2.out⟩

set_option maxRecDepth 100000 in
set_option maxHeartbeats 1000000 in
theorem Days_yes (k : Int) (A : Option Addr) (l c : Nat) (L : List Int) (w : World) (h : IRow w w.heap.size A l L) (hlo : -9223372036854775808 ≤ k) (hw : ∀ x ∈ L, -9223372036854775808 ≤ x ∧ x ≤ 9223372036854775807) (hlc : l ≤ c) (hc : c ≤ 9223372036854775807) (hp : prmB k L = true) (hd : dOk k.toNat L = true) :
    Calls Try.prog 35 #[.int .i64 k, .slice A l c] w (GivesPE w (dL k.toNat L) 0) := by
  obtain ⟨p1, p2, p3, p4, p5, p6⟩ := prm_yes hp
  have HP : Hid (∀ w', Below w.heap.size w w' → Calls Try.prog 57 #[.int .i64 k, .slice A l c] w' fun e w'' => e = .returned (.bool true) ∧ Below w'.heap.size w' w'') := Lib.hid (fun w' hb => by
    rw [← hp]; exact primes_any k A l c L w' (h.next hb) hlo hw hlc hc)
  obtain ⟨K, rfl⟩ : ∃ K : Nat, k = K := ⟨k.toNat, by omega⟩
  rw [Int.toNat_natCast] at hd ⊢
  have HD : Hid (∀ w', Below w.heap.size w w' → Calls Try.prog 58 #[.int .i64 (K : Int), .slice A l c] w' (DaysPost w' K L)) := Lib.hid (fun w' hb => days_any K A l c L w' (h.next hb) p4 (by have := h.1; omega) (by omega))
  have hlen : (dL K L).length ≤ 8 := Nat.le_trans (dL_len K L) p6
  have HF := Lib.hid hd
  clear h hw hp p3 p4 hd
  obtain ⟨D, hD⟩ : ∃ D, dL K L = D := ⟨_, rfl⟩
  rw [hD] at hlen ⊢
  have HDD := Lib.hid hD
  clear hD
  obtain ⟨i0, hi, hz0, hz1, hz2⟩ := info_parts infoP
  go_enter Try.func35, Try.ntmps35
  go_wp2_with fail
  refine (HP.out _ (Below.refl _ _)).mono ?_; rintro e w1 ⟨rfl, hb1⟩
  have HB1 := Lib.hid hb1
  clear hb1
  go_wp2_with fail
  refine (HD.out _ HB1.out).mono ?_; rintro e w2 ⟨A2, n2, c2, rfl, hrow2, hb2⟩
  obtain ⟨hr2, hA2⟩ := hrow2 HF.out
  rw [HDD.out] at hr2
  rw [HF.out]
  have HR2 := Lib.hid hr2
  have HL2 := Lib.hid hr2.1
  have hn8 : n2 ≤ 8 := by have := hr2.1; omega
  have HB2 := Lib.hid (bt HB1.out hb2)
  clear hb2 hrow2 hr2 hA2
  go_wp2_with fail
  go_loopw [8, 25] (fun v x wr => ∃ k : Nat, k ≤ n2 ∧ Hid (PRel 29 w2 (D.take k) v wr) ∧ x = .int .i64 (k : Int)) (fun _ x _ => n2 - (intOf x).toNat)
  case atStart => exact ⟨0, by omega, Lib.hid ⟨World.ownsRow_nil .., Below.refl _ _⟩, rfl⟩
  case round =>
    obtain ⟨k, hk, hrl, rfl⟩ := hrel
    by_cases hlt : k < n2
    · obtain ⟨b, off, x, m, hx, rfl, hB, c1, c2⟩ := (HR2.out.below hrl.out.2).at_ hlt
      have HTK := Lib.hid (take_at hx)
      have HKL : Hid ((D.take k).length = k) := Lib.hid (by rw [List.length_take]; have := HL2.out; omega)
      have hown : ((wr.alloc (Obj.cells #[.int .i64 x, .int .i64 m] 68)).alloc (Obj.cells #[.int .i64 x, .int .i64 m] 29)).ownsRow w2.heap.size 29 2 u8 k (flat (D.take k)) := by
        have h5 := (hrl.out.1.alloc (Obj.cells #[.int .i64 x, .int .i64 m] 68)).alloc (Obj.cells #[.int .i64 x, .int .i64 m] 29)
        rw [HKL.out] at h5
        exact h5
      have HOW := Lib.hid hown
      have HNE := Lib.hid (flat_news (w := (wr.alloc (Obj.cells #[.int .i64 x, .int .i64 m] 68)).alloc (Obj.cells #[.int .i64 x, .int .i64 m] 29)) (x := x) (m := m) (g := wr.heap.size + 1) (by simp) rfl)
      have H1 := Lib.hid (two_one (x := x) (m := m))
      have H3 : Hid (k + 1 ≤ maxLen) := Lib.hid (by unfold maxLen; omega)
      have H4 : Hid ((k + 1) * 16 ≤ 140737488355328) := Lib.hid (by omega)
      have H5 : Hid (w2.heap.size ≤ ((wr.alloc (Obj.cells #[.int .i64 x, .int .i64 m] 68)).alloc (Obj.cells #[.int .i64 x, .int .i64 m] 29)).heap.size) := Lib.hid (by have := hrl.out.2.size; simp; omega)
      clear hown hx
      go_wp2_with (at_builtin; refine wpList_append_own _ rfl _ _ 22 rfl w2.heap.size 29 i0 (.agg #[.int .i64 0, .int .i64 0]) 2 16 Try.underlying22 hi hz0 hz1 hz2 rfl (by decide) _ k (flat (D.take k)) rfl HOW.out ⟨wr.heap.size + 1, 0, none⟩ 1 1 [.int .i64 x, .int .i64 m] rfl rfl HNE.out H1.out H3.out H4.out H5.out ?_; intro v' w3 hown' hgrow _)
      have hab : Below wr.heap.size wr ((wr.alloc (Obj.cells #[.int .i64 x, .int .i64 m] 68)).alloc (Obj.cells #[.int .i64 x, .int .i64 m] 29)) := ((Below.refl _ _).alloc (Nat.le_refl _) _).alloc (by simp) _
      have HN : Hid (PRel 29 w2 (D.take (k + 1)) v' w3) := Lib.hid (by
        rw [HTK.out]
        exact hrl.out.next hab (by rw [HKL.out]; exact hown') hgrow)
      clear hown' hgrow hab
      go_wp2_with fail
      go_roundw
      case rel => exact ⟨k + 1, by omega, HN, by go_num⟩
      case measure => simp [intOf]; omega
    · have hkl : k = n2 := by omega
      subst hkl
      have hT : D.take k = D := List.take_of_length_le (by rw [← HL2.out]; omega)
      rw [hT] at hrl
      obtain ⟨A', c', rfl, hrow, hA'⟩ := hrl.out.form
      go_wp2_with fail
      go_ret2
      exact ⟨A', _, c', rfl, hrow, hA', bt HB2.out hrl.out.2⟩

/-- Days, in one form -/
noncomputable def daysE (k : Int) (L : List Int) : Int := if prmB k L = true then (if dOk k.toNat L = true then 0 else 6) else 2
noncomputable def daysL (k : Int) (L : List Int) : List (Int × Int) := if prmB k L = true then (if dOk k.toNat L = true then dL k.toNat L else []) else []
theorem Days_any (k : Int) (A : Option Addr) (l c : Nat) (L : List Int) (w : World) (h : IRow w w.heap.size A l L) (hlo : -9223372036854775808 ≤ k) (hw : ∀ x ∈ L, -9223372036854775808 ≤ x ∧ x ≤ 9223372036854775807) (hlc : l ≤ c) (hc : c ≤ 9223372036854775807) :
    Calls Try.prog 35 #[.int .i64 k, .slice A l c] w (GivesPE w (daysL k L) (daysE k L)) := by
  unfold daysL daysE
  cases hp : prmB k L with
  | false => exact Days_no k A l c L w h hlo hw hlc hc hp
  | true =>
    cases hd : dOk k.toNat L with
    | false => exact Days_size k A l c L w h hlo hw hlc hc hp hd
    | true => exact Days_yes k A l c L w h hlo hw hlc hc hp hd

/-! ### Always -/
def rV : Option Nat → Int
  | some n => (n : Int)
  | none => 0
def rE : Option Nat → Int
  | some _ => 0
  | none => 4
noncomputable def alwV (k : Int) (L : List Int) : Int := if daysE k L = 0 then rV (fstL false (dL k.toNat L) (wh (dL k.toNat L) 1) 1) else 0
noncomputable def alwE (k : Int) (L : List Int) : Int := if daysE k L = 0 then rE (fstL false (dL k.toNat L) (wh (dL k.toNat L) 1) 1) else daysE k L
theorem fst_step {t : Bool} {D : List (Int × Int)} {k x : Nat} (h : askB t (cnt D (x : Int)) = false) : fstL t D (k + 1) x = fstL t D k (x + 1) := by
  rw [fstL, h]; rfl
theorem fst_found {t : Bool} {D : List (Int × Int)} {k x : Nat} (h : askB t (cnt D (x : Int)) = true) : fstL t D (k + 1) x = some x := by
  rw [fstL, h]; rfl
theorem dL_form {K : Nat} {L : List Int} (h : allOk L = true) : ∀ q ∈ dL K L, 0 ≤ q.1 ∧ q.1 < q.2 ∧ 1 ≤ q.2 := by
  intro q hq
  unfold dL dys at hq
  rw [List.mem_filterMap] at hq
  obtain ⟨P, hP, e⟩ := hq
  rw [List.mem_map] at hP
  obtain ⟨p, hp, rfl⟩ := hP
  obtain ⟨i, hi⟩ := List.getElem?_of_mem hp
  obtain ⟨_, _, a3, a4⟩ := ok_prime h hi
  rcases dyP_form (K := K) a3 a4 with ⟨_, e2, b1, b2⟩ | ⟨_, e2⟩
  · rw [e2] at e; injection e with e; subst e
    exact ⟨b1, b2, by have := (ordF_spec a3 a4).1.1; show (1 : Int) ≤ ((ordF _ : Nat) : Int); omega⟩
  · rw [e2] at e; cases e
theorem dL_ok {K : Nat} {L : List Int} (h : allOk L = true) (hd : dOk K L = true) : ∀ q ∈ dL K L, okP q := fun q hq => by
  obtain ⟨h1, h2, h3⟩ := dL_form h q hq
  exact ⟨h3, (dOk_yes hd).1 q hq, h1, h2⟩

theorem Always_no (k : Int) (A : Option Addr) (l c : Nat) (L : List Int) (w : World) (h : IRow w w.heap.size A l L) (hlo : -9223372036854775808 ≤ k) (hw : ∀ x ∈ L, -9223372036854775808 ≤ x ∧ x ≤ 9223372036854775807) (hlc : l ≤ c) (hc : c ≤ 9223372036854775807) (hp : prmB k L = false) :
    Calls Try.prog 33 #[.int .i64 k, .slice A l c] w fun e w' => e = .returned (.tuple #[.int .i64 0, .int .i64 2]) ∧ Below w.heap.size w w' := by
  have HP : Hid (∀ w', Below w.heap.size w w' → Calls Try.prog 57 #[.int .i64 k, .slice A l c] w' fun e w'' => e = .returned (.bool false) ∧ Below w'.heap.size w' w'') := Lib.hid (fun w' hb => by
    rw [← hp]; exact primes_any k A l c L w' (h.next hb) hlo hw hlc hc)
  clear h hw hp
  go_enter Try.func33, Try.ntmps33
  go_wp2_with fail
  refine (HP.out _ (Below.refl _ _)).mono ?_; rintro e w1 ⟨rfl, hb1⟩
  go_wp2_with fail
  go_ret2
  exact ⟨rfl, hb1⟩
theorem Always_size (k : Int) (A : Option Addr) (l c : Nat) (L : List Int) (w : World) (h : IRow w w.heap.size A l L) (hlo : -9223372036854775808 ≤ k) (hw : ∀ x ∈ L, -9223372036854775808 ≤ x ∧ x ≤ 9223372036854775807) (hlc : l ≤ c) (hc : c ≤ 9223372036854775807) (hp : prmB k L = true) (hd : dOk k.toNat L = false) :
    Calls Try.prog 33 #[.int .i64 k, .slice A l c] w fun e w' => e = .returned (.tuple #[.int .i64 0, .int .i64 6]) ∧ Below w.heap.size w w' := by
  obtain ⟨p1, p2, p3, p4, p5, p6⟩ := prm_yes hp
  have HP : Hid (∀ w', Below w.heap.size w w' → Calls Try.prog 57 #[.int .i64 k, .slice A l c] w' fun e w'' => e = .returned (.bool true) ∧ Below w'.heap.size w' w'') := Lib.hid (fun w' hb => by
    rw [← hp]; exact primes_any k A l c L w' (h.next hb) hlo hw hlc hc)
  obtain ⟨K, rfl⟩ : ∃ K : Nat, k = K := ⟨k.toNat, by omega⟩
  rw [Int.toNat_natCast] at hd
  have HD : Hid (∀ w', Below w.heap.size w w' → Calls Try.prog 58 #[.int .i64 (K : Int), .slice A l c] w' (DaysPost w' K L)) := Lib.hid (fun w' hb => days_any K A l c L w' (h.next hb) p4 (by have := h.1; omega) (by omega))
  have HF := Lib.hid hd
  clear h hw hp p3 p4 hd
  go_enter Try.func33, Try.ntmps33
  go_wp2_with fail
  refine (HP.out _ (Below.refl _ _)).mono ?_; rintro e w1 ⟨rfl, hb1⟩
  have HB1 := Lib.hid hb1
  clear hb1
  go_wp2_with fail
  refine (HD.out _ HB1.out).mono ?_; rintro e w2 ⟨A2, n2, c2, rfl, _, hb2⟩
  rw [HF.out]
  have HB2 := Lib.hid (bt HB1.out hb2)
  clear hb2
  go_wp2_with fail
  go_ret2
  exact ⟨rfl, HB2.out⟩

set_option maxRecDepth 100000 in
set_option maxHeartbeats 1000000 in
theorem Always_yes (k : Int) (A : Option Addr) (l c : Nat) (L : List Int) (w : World) (h : IRow w w.heap.size A l L) (hlo : -9223372036854775808 ≤ k) (hw : ∀ x ∈ L, -9223372036854775808 ≤ x ∧ x ≤ 9223372036854775807) (hlc : l ≤ c) (hc : c ≤ 9223372036854775807) (hp : prmB k L = true) (hd : dOk k.toNat L = true) (r : Option Nat) (hr : fstL false (dL k.toNat L) (wh (dL k.toNat L) 1) 1 = r) :
    Calls Try.prog 33 #[.int .i64 k, .slice A l c] w fun e w' => e = .returned (.tuple #[.int .i64 (rV r), .int .i64 (rE r)]) ∧ Below w.heap.size w w' := by
  obtain ⟨p1, p2, p3, p4, p5, p6⟩ := prm_yes hp
  have HP : Hid (∀ w', Below w.heap.size w w' → Calls Try.prog 57 #[.int .i64 k, .slice A l c] w' fun e w'' => e = .returned (.bool true) ∧ Below w'.heap.size w' w'') := Lib.hid (fun w' hb => by
    rw [← hp]; exact primes_any k A l c L w' (h.next hb) hlo hw hlc hc)
  obtain ⟨K, rfl⟩ : ∃ K : Nat, k = K := ⟨k.toNat, by omega⟩
  rw [Int.toNat_natCast] at hd hr
  have HD : Hid (∀ w', Below w.heap.size w w' → Calls Try.prog 58 #[.int .i64 (K : Int), .slice A l c] w' (DaysPost w' K L)) := Lib.hid (fun w' hb => days_any K A l c L w' (h.next hb) p4 (by have := h.1; omega) (by omega))
  have hlen : (dL K L).length ≤ 8 := Nat.le_trans (dL_len K L) p6
  have hokp := dL_ok p4 hd
  have hw2 := (dOk_yes hd).2
  have HF := Lib.hid hd
  clear h hw hp p3 p4 hd
  obtain ⟨D, hD⟩ : ∃ D, dL K L = D := ⟨_, rfl⟩
  rw [hD] at hlen hr hokp hw2
  have HM := Lib.hid (Sys.mods hokp)
  have HFI := Lib.hid (Sys.fits hokp)
  have HDD := Lib.hid hD
  clear hD hokp
  obtain ⟨N, hN⟩ : ∃ N, wh D 1 = N := ⟨_, rfl⟩
  rw [hN] at hr hw2
  have HR := Lib.hid hr
  have HN := Lib.hid hN
  clear hr hN
  go_enter Try.func33, Try.ntmps33
  go_wp2_with fail
  refine (HP.out _ (Below.refl _ _)).mono ?_; rintro e w1 ⟨rfl, hb1⟩
  have HB1 := Lib.hid hb1
  clear hb1
  go_wp2_with fail
  refine (HD.out _ HB1.out).mono ?_; rintro e w2 ⟨A2, n2, c2, rfl, hrow2, hb2⟩
  obtain ⟨hr2, hA2⟩ := hrow2 HF.out
  rw [HDD.out] at hr2
  rw [HF.out]
  have HR2 := Lib.hid hr2
  have hn8 : n2 ≤ 8 := by have := hr2.1; omega
  have HB2 := Lib.hid (bt HB1.out hb2)
  have HWH : Hid (∀ w', Below w2.heap.size w2 w' → Calls Try.prog 52 #[.slice A2 n2 c2] w' fun e w'' => e = .returned (.int .i64 (N : Int)) ∧ Below w'.heap.size w' w'') := Lib.hid (fun w' hb => by
    have h5 := whole_any A2 n2 c2 D w' ((HR2.out.below hb).more hb.size) HM.out (by omega)
    rw [HN.out] at h5
    exact h5)
  have HCN : Hid (∀ (x : Nat) w', x ≤ 10080 → Below w2.heap.size w2 w' → Calls Try.prog 53 #[.slice A2 n2 c2, .int .i64 (x : Int)] w' fun e w'' => e = .returned (.int .i64 ((cnt D (x : Int) : Nat) : Int)) ∧ Below w'.heap.size w' w'') := Lib.hid (fun x w' hx hb => count_any A2 n2 c2 D x w' ((HR2.out.below hb).more hb.size) HFI.out (by omega) (by omega) (by omega))
  clear hb2 hrow2 hr2 hA2
  go_wp2_with fail
  go_loopw [8] (fun x wr => ∃ j : Nat, 1 ≤ j ∧ j ≤ N + 1 ∧ x = .int .i64 (j : Int) ∧ Hid (fstL false D (N + 1 - j) j = r) ∧ Hid (Below w2.heap.size w2 wr)) (fun x _ => N + 1 - (intOf x).toNat)
  case atStart => exact ⟨1, by omega, by omega, rfl, Lib.hid (by rw [Nat.add_sub_cancel]; exact HR.out), Lib.hid (Below.refl _ _)⟩
  case round =>
    obtain ⟨j, hj1, hjN, rfl, hf, hbr⟩ := hrel
    by_cases hlt : j ≤ N
    · have hji : (j : Int) ≤ (N : Int) := by omega
      obtain ⟨C, hC⟩ : ∃ C, cnt D (j : Int) = C := ⟨_, rfl⟩
      have HC := Lib.hid hC
      clear hC
      by_cases h0 : C = 0
      · have HRR : Hid (r = some j) := Lib.hid (by
          rw [← hf.out, show N + 1 - j = (N - j) + 1 by omega]
          exact fst_found (by rw [HC.out, h0]; rfl))
        have t1 : ((C : Int) == 0) = true := by rw [h0]; rfl
        have HRV := HRR.out
        subst HRV
        clear h0
        go_wp2_with fail
        refine (HWH.out _ hbr.out).mono ?_; rintro e w3 ⟨rfl, hb3⟩
        have HB3 := Lib.hid (bt hbr.out hb3)
        clear hb3
        go_wp2_with fail
        refine (HCN.out j _ (by omega) HB3.out).mono ?_; rw [HC.out]; rintro e w4 ⟨rfl, hb4⟩
        have HB4 := Lib.hid (bt HB3.out hb4)
        clear hb4
        go_wp2_with fail
        go_ret2
        exact ⟨rfl, bt HB2.out HB4.out⟩
      · have HRR : Hid (fstL false D (N + 1 - (j + 1)) (j + 1) = r) := Lib.hid (by
          have h9 := hf.out
          rw [show N + 1 - j = (N + 1 - (j + 1)) + 1 by omega, fst_step (by rw [HC.out]; show (C == 0) = false; simpa using h0)] at h9
          exact h9)
        have t1 : ((C : Int) == 0) = false := by simp; omega
        clear h0
        go_wp2_with fail
        refine (HWH.out _ hbr.out).mono ?_; rintro e w3 ⟨rfl, hb3⟩
        have HB3 := Lib.hid (bt hbr.out hb3)
        clear hb3
        go_wp2_with fail
        refine (HCN.out j _ (by omega) HB3.out).mono ?_; rw [HC.out]; rintro e w4 ⟨rfl, hb4⟩
        have HB4 := Lib.hid (bt HB3.out hb4)
        clear hb4
        go_wp2_with fail
        go_roundw
        case rel => exact ⟨j + 1, by omega, by omega, by go_num, HRR, HB4⟩
        case measure => simp [intOf]; omega
    · have HRR : Hid (r = none) := Lib.hid (by
        rw [← hf.out, show N + 1 - j = 0 by omega]; rfl)
      have hji : (N : Int) < (j : Int) := by omega
      have HRV := HRR.out
      subst HRV
      go_wp2_with fail
      refine (HWH.out _ hbr.out).mono ?_; rintro e w3 ⟨rfl, hb3⟩
      have HB3 := Lib.hid (bt hbr.out hb3)
      clear hb3
      go_wp2_with fail
      go_ret2
      exact ⟨rfl, bt HB2.out HB3.out⟩
theorem Always_any (k : Int) (A : Option Addr) (l c : Nat) (L : List Int) (w : World) (h : IRow w w.heap.size A l L) (hlo : -9223372036854775808 ≤ k) (hw : ∀ x ∈ L, -9223372036854775808 ≤ x ∧ x ≤ 9223372036854775807) (hlc : l ≤ c) (hc : c ≤ 9223372036854775807) :
    Calls Try.prog 33 #[.int .i64 k, .slice A l c] w fun e w' => e = .returned (.tuple #[.int .i64 (alwV k L), .int .i64 (alwE k L)]) ∧ Below w.heap.size w w' := by
  unfold alwV alwE daysE
  cases hp : prmB k L with
  | false => exact Always_no k A l c L w h hlo hw hlc hc hp
  | true =>
    cases hd : dOk k.toNat L with
    | false => exact Always_size k A l c L w h hlo hw hlc hc hp hd
    | true => exact Always_yes k A l c L w h hlo hw hlc hc hp hd _ rfl
end Go.Proofs.Ytmmgidhaakkaoaa
