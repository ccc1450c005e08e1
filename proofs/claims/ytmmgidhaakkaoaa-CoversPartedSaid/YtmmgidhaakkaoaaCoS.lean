/- Refine where it refuses; the reference's Refine. -/
import Derived.Test.YtmmgidhaakkaoaaCoR
import Derived.ChangeKeysEq
namespace Go.Proofs.Ytmmgidhaakkaoaa
open Go Go.RowKit GhC

theorem refine_bad (A : Option Addr) (l c : Nat) (i r : Int) (L : List (Int × Int)) (w : World) (h : Row w w.heap.size A l L) (hw : W64 L) (hl : l ≤ 9223372036854775807) (hv : validL L = false) :
    Calls Try.prog 23 #[.slice A l c, .int .i64 i, .int .i64 r] w fun e w' => e = .returned (.tuple #[.slice none 0 0, .int .i64 2]) ∧ Below w.heap.size w w' := by
  have HR := Lib.hid h
  have HW := Lib.hid hw
  have HV := Lib.hid hv
  clear h hw hv
  go_enter Try.func23, Try.ntmps23
  go_wp2_with fail
  refine (read_any A l c L w HR.out HW.out hl).mono ?_; rintro e w1 ⟨A1, n1, c1, rfl, hr, hb1⟩
  rw [HV.out]
  clear hr
  go_wp2_with fail
  go_ret2
  exact ⟨rfl, hb1⟩

theorem refine_out (A : Option Addr) (l c : Nat) (i r : Int) (L : List (Int × Int)) (w : World) (h : Row w w.heap.size A l L) (hw : W64 L) (hl : l ≤ 1000000) (hv : validL L = true) (ho : ¬ (0 ≤ i ∧ i < (l : Int) ∧ 2 ≤ r ∧ r ≤ 5)) :
    Calls Try.prog 23 #[.slice A l c, .int .i64 i, .int .i64 r] w fun e w' => e = .returned (.tuple #[.slice none 0 0, .int .i64 2]) ∧ Below w.heap.size w w' := by
  have HR := Lib.hid h
  have HW := Lib.hid hw
  have HV := Lib.hid hv
  have HO := Lib.hid ho
  clear h hw hv ho
  go_enter Try.func23, Try.ntmps23
  go_wp2_with fail
  refine (read_any A l c L w HR.out HW.out (by omega)).mono ?_; rintro e w1 ⟨A1, n1, c1, rfl, hr, hb1⟩
  rw [HV.out]
  clear hr
  by_cases h0 : i < 0
  · go_wp2_with fail
    go_ret2
    exact ⟨rfl, hb1⟩
  · by_cases h1 : (l : Int) ≤ i
    · go_wp2_with fail
      go_ret2
      exact ⟨rfl, hb1⟩
    · by_cases h2 : r < 2
      · go_wp2_with fail
        go_ret2
        exact ⟨rfl, hb1⟩
      · have h3 : 5 < r := by
          apply Classical.byContradiction
          intro g
          exact HO.out ⟨by omega, by omega, by omega, by omega⟩
        go_wp2_with fail
        go_ret2
        exact ⟨rfl, hb1⟩

theorem rrefine_out (A : Option Addr) (l c : Nat) (i r : Int) (w : World) (ho : ¬ (0 ≤ i ∧ i < (l : Int) ∧ 2 ≤ r ∧ r ≤ 5)) :
    Calls Try.prog 24 #[.slice A l c, .int .i64 i, .int .i64 r] w fun e w' => e = .returned (.tuple #[.slice none 0 0, .bool false]) ∧ Below w.heap.size w w' := by
  have HO := Lib.hid ho
  clear ho
  go_enter Try.func24, Try.ntmps24
  by_cases h0 : i < 0
  · go_wp2_with fail
    go_ret2
    exact ⟨rfl, Below.refl _ _⟩
  · by_cases h1 : (l : Int) ≤ i
    · go_wp2_with fail
      go_ret2
      exact ⟨rfl, Below.refl _ _⟩
    · by_cases h2 : r < 2
      · go_wp2_with fail
        go_ret2
        exact ⟨rfl, Below.refl _ _⟩
      · have h3 : 5 < r := by
          apply Classical.byContradiction
          intro g
          exact HO.out ⟨by omega, by omega, by omega, by omega⟩
        go_wp2_with fail
        go_ret2
        exact ⟨rfl, Below.refl _ _⟩

/-- what the reference's Refine returns -/
def GivesRRef (w : World) (P : List (Int × Int)) (e : Ending) (w' : World) : Prop :=
  Below w.heap.size w w' ∧ ∃ A n c, e = .returned (.tuple #[.slice A n c, .bool (validL P)]) ∧ Row w' w'.heap.size A n P

theorem own_next {w w0 wr w1 : World} {L : List (Int × Int)} {i : Nat} {x m : Int} {r k : Nat} {v v' : Value} (hb : Below w.heap.size w wr) (hb0 : Below wr.heap.size wr w0) (h : w0.ownsRow w.heap.size 29 2 v (i + k) (flat (pu L i x m r k)))
    (hown : w1.ownsRow w.heap.size 29 2 v' (i + k + 1) (flat (pu L i x m r k) ++ [.int .i64 (x + (k : Int) * m), .int .i64 ((r : Int) * m)])) (hg : w0.grownBy w1 v.ownBlock) : Below w.heap.size w w1 ∧ w1.ownsRow w.heap.size 29 2 v' (i + (k + 1)) (flat (pu L i x m r (k + 1))) := by
  refine ⟨own_below' h hg (bt hb hb0) (Nat.le_refl _) (Nat.le_trans hb.size hb0.size), ?_⟩
  rw [pu_succ, flat_append]
  exact hown

set_option maxRecDepth 100000 in
set_option maxHeartbeats 1000000 in
theorem rrefine_yes (b off : Nat) (l c i r : Nat) (x m : Int) (L : List (Int × Int)) (w : World) (h : Row w w.heap.size (some ⟨b, off, none⟩) l L) (hlc : l ≤ c) (hc : c ≤ maxLen) (hv : validL L = true) (hx : L[i]? = some (x, m)) (hr2 : 2 ≤ r) (hr5 : r ≤ 5) :
    Calls Try.prog 24 #[.slice (some ⟨b, off, none⟩) l c, .int .i64 (i : Int), .int .i64 (r : Int)] w (GivesRRef w (part L i r)) := by
  have hs := validL_yes hv
  have HS := Lib.hid hs
  have hil : i < l := by have := (List.getElem?_eq_some_iff.1 hx).1; have := h.1; omega
  have hl10 : l ≤ 10 := by have := h.1; have := hs.2.1; omega
  have hc2 : c ≤ 9223372036854775807 := by unfold maxLen at hc; omega
  have HR := Lib.hid h
  have HL := Lib.hid h.1
  have HW : Hid (∀ p ∈ L, -9223372036854775808 ≤ p.1 ∧ p.1 ≤ 9223372036854775807 ∧ -9223372036854775808 ≤ p.2 ∧ p.2 ≤ 9223372036854775807) := Lib.hid (fun p hp => by
    obtain ⟨h1, h2, h3, h4⟩ := hs.2.2.1 p hp
    omega)
  have HV := Lib.hid hv
  have HX := Lib.hid hx
  obtain ⟨m1, m2, x1, x2⟩ := hs.2.2.1 (x, m) (List.mem_of_getElem? hx)
  simp only at m1 m2 x1 x2
  have i1 : (i : Int) < (l : Int) := by omega
  have i2 : (i : Int) ≤ (c : Int) := by omega
  have d1 : decide ((i : Int) < 0) = false := decide_eq_false (by omega)
  have d2 : decide ((r : Int) < 2) = false := decide_eq_false (by omega)
  have d3 : decide (5 < (r : Int)) = false := decide_eq_false (by omega)
  have d4 : decide (l ≤ i) = false := decide_eq_false (by omega)
  obtain ⟨Z, hZ⟩ : ∃ Z, (r : Int) * m = Z := ⟨_, rfl⟩
  have z1 : Z ≤ 5 * 60 := by rw [← hZ]; exact Int.mul_le_mul (by omega) m2 (by omega) (by omega)
  have z2 : 0 ≤ Z := by rw [← hZ]; exact Int.mul_nonneg (by omega) (by omega)
  have HZ := Lib.hid hZ
  clear h hs hv hx hZ
  obtain ⟨i0, hi, hz0, hz1, hz2⟩ := info_parts infoP
  go_enter Try.func24, Try.ntmps24
  have HTL : Hid ((flat (L.take i)).length = i * 2) := Lib.hid (by rw [flat_len, List.length_take]; have := HL.out; congr 1; omega)
  have HTC : Hid (∀ j u, (flat (L.take i))[j]? = some u → ((w.alloc (Obj.cells #[] 29))).cell? ((⟨b, off, none⟩ : Addr).add j) = some u) := Lib.hid (by
    intro j u hu
    have hR := (HR.out.take (k := i) (by omega)).flat j u hu
    obtain ⟨b', off', e, hb', _⟩ := HR.out.2 (by omega)
    injection e with e
    injection e with e1 e2
    subst e1 e2
    rw [add_none] at hR ⊢
    rw [World.cell?_alloc_lt _ _ _ hb']; exact hR)
  have HO0 : Hid ((w.alloc (Obj.cells #[] 29)).ownsRow w.heap.size 29 2 (.slice (some ⟨w.heap.size, 0, none⟩) 0 0) 0 []) := Lib.hid
    ⟨rfl, .inr ⟨w.heap.size, 0, #[], rfl, Nat.le_refl _, (by show (w.heap.push _)[w.heap.size]? = _; simp), Nat.le_refl _, by decide, rfl, rfl⟩⟩
  have H10 := Lib.hid (flat_one (L.take i))
  have H30 : Hid (0 + i ≤ maxLen) := Lib.hid (by unfold maxLen; omega)
  have H40 : Hid ((0 + i) * 16 ≤ 140737488355328) := Lib.hid (by omega)
  have H50 : Hid (w.heap.size ≤ (w.alloc (Obj.cells #[] 29)).heap.size) := Lib.hid (by simp)
  have HBA : Hid (Below w.heap.size w (w.alloc (Obj.cells #[] 29))) := Lib.hid ((Below.refl _ _).alloc (Nat.le_refl _) _)
  go_wp2_with (at_builtin; refine wpList_append_own _ rfl _ _ 22 rfl w.heap.size 29 i0 (.agg #[.int .i64 0, .int .i64 0]) 2 16 Try.underlying22 hi hz0 hz1 hz2 rfl (by decide) _ 0 [] rfl HO0.out ⟨b, off, none⟩ i _ (flat (L.take i)) rfl HTL.out HTC.out H10.out H30.out H40.out H50.out ?_; intro v0 w1 hown' hgrow _)
  rw [List.nil_append, Nat.zero_add] at hown'
  have HB1 : Hid (Below w.heap.size w w1) := Lib.hid (own_below' HO0.out hgrow HBA.out (Nat.le_refl _) H50.out)
  have HOW1 : Hid (w1.ownsRow w.heap.size 29 2 v0 (i + 0) (flat (pu L i x m r 0))) := Lib.hid (by rw [pu_zero]; exact hown')
  clear hown' hgrow
  go_wp2_with fail
  go_loopw [8, 9, 32] (fun v _ z wr => ∃ k : Nat, k ≤ r ∧ z = .int .i64 (k : Int) ∧ Hid (Below w.heap.size w wr ∧ wr.ownsRow w.heap.size 29 2 v (i + k) (flat (pu L i x m r k)))) (fun _ _ z _ => r - (intOf z).toNat)
  case atStart => exact ⟨0, by omega, rfl, Lib.hid ⟨HB1.out, HOW1.out⟩⟩
  case round =>
    obtain ⟨k, hk, rfl, hrel⟩ := hrel
    by_cases hlt : k < r
    · obtain ⟨b', off', x', m', hx', ha, hB, g1, g2⟩ := (HR.out.below hrel.out.1).at_ hil
      rw [HX.out] at hx'
      injection hx' with hx'
      injection hx' with e1 e2
      subst e1 e2
      injection ha with ha
      injection ha with ha1 ha2
      subst ha1 ha2
      obtain ⟨Y, hY⟩ : ∃ Y, (k : Int) * m = Y := ⟨_, rfl⟩
      have y1 : Y ≤ 5 * 60 := by rw [← hY]; exact Int.mul_le_mul (by omega) m2 (by omega) (by omega)
      have y2 : 0 ≤ Y := by rw [← hY]; exact Int.mul_nonneg (by omega) (by omega)
      have s1 : IntKind.i64.wrap ((k : Int) * m) = Y := by rw [hY]; exact IntWalk.i64_in _ (by omega)
      have s2 : IntKind.i64.wrap (x + Y) = x + Y := IntWalk.i64_in _ (by omega)
      have s3 : IntKind.i64.wrap (m * (r : Int)) = Z := by rw [Int.mul_comm, HZ.out]; exact IntWalk.i64_in _ (by omega)
      have HY := Lib.hid hY
      clear hY
      obtain ⟨hbw, hown⟩ := hrel.out
      have HBW := Lib.hid hbw
      have hws : w.heap.size ≤ wr.heap.size := hbw.size
      have HKE : Hid (∀ w', Below w.heap.size w w' → w'.cell? ⟨b, off + i * 2, none⟩ = some (.int .i64 x) ∧ w'.cell? ⟨b, off + i * 2 + 1, none⟩ = some (.int .i64 m)) := Lib.hid (fun w' hb' => by
        have hb'' := hb'.cell (p := ⟨b, off + i * 2, none⟩) hB
        have hb3 := hb'.cell (p := ⟨b, off + i * 2 + 1, none⟩) hB
        have e1 := HBW.out.cell (p := ⟨b, off + i * 2, none⟩) hB
        have e2 := HBW.out.cell (p := ⟨b, off + i * 2 + 1, none⟩) hB
        exact ⟨hb''.trans (e1.symm.trans g1), hb3.trans (e2.symm.trans g2)⟩)
      have HWA : Hid (Below wr.heap.size wr (wr.alloc (Obj.cells #[.int .i64 (x + Y), .int .i64 Z] 29)).drew) := Lib.hid ((Below.refl _ _).alloc (Nat.le_refl _) _).drew
      have HNE : Hid (∀ j u, ([Value.int .i64 (x + Y), .int .i64 Z] : List Value)[j]? = some u → ((wr.alloc (Obj.cells #[.int .i64 (x + Y), .int .i64 Z] 29)).drew).cell? ((⟨wr.heap.size, 0, none⟩ : Addr).add j) = some u) := Lib.hid (lit_news (w := wr))
      have H1 : Hid (∀ u ∈ ([Value.int .i64 (x + Y), .int .i64 Z] : List Value), u.oneCell' = true) := Lib.hid lit_one
      have HAS : Hid ((wr.alloc (Obj.cells #[.int .i64 (x + Y), .int .i64 Z] 29)).drew.heap.size = wr.heap.size + 1) := Lib.hid (by show (wr.alloc _).heap.size = _; rw [World.size_alloc])
      have HOW : Hid (((wr.alloc (Obj.cells #[.int .i64 (x + Y), .int .i64 Z] 29)).drew).ownsRow w.heap.size 29 2 u8 (i + k) (flat (pu L i x m r k))) := Lib.hid (hown.alloc _)
      have H3 : Hid (i + k + 1 ≤ maxLen) := Lib.hid (by unfold maxLen; omega)
      have H4 : Hid ((i + k + 1) * 16 ≤ 140737488355328) := Lib.hid (by omega)
      have H5 : Hid (w.heap.size ≤ ((wr.alloc (Obj.cells #[.int .i64 (x + Y), .int .i64 Z] 29)).drew).heap.size) := Lib.hid (by rw [HAS.out]; omega)
      clear hbw hrel hown
      go_wp2_with fail
      go_region_held3 (fun w' => w'.cell? ⟨b, off + i * 2, none⟩ = some (.int .i64 x) ∧ w'.cell? ⟨b, off + i * 2 + 1, none⟩ = some (.int .i64 m)) (first | go_keep | exact ⟨ka, kb⟩)
        ((refine step_append_lies _ (by rfl) _ _ _ (by rfl) w.heap.size 29 i0 _ 2 16 Try.underlying22 hi hz0 hz1 hz2 rfl (by omega) u8 (i + k) (flat (pu L i x m r k)) (by rfl) HOW.out ⟨wr.heap.size, 0, none⟩ 1 1 [.int .i64 (x + Y), .int .i64 Z] (by rfl) (by rfl) HNE.out H1.out (by omega) H3.out H4.out H5.out (wr.heap.size + 1) HAS.out ?_; intro gg cap w3 hown' hgrow hat hlt; have HNX : Hid (Below w.heap.size w w3 ∧ w3.ownsRow w.heap.size 29 2 (.slice (some ⟨gg, 0, none⟩) (i + k + 1) cap) (i + (k + 1)) (flat (pu L i x m r (k + 1)))) := Lib.hid (own_next HBW.out HWA.out HOW.out (by rw [HZ.out, HY.out]; exact hown') hgrow); obtain ⟨ka, kb⟩ := HKE.out _ HNX.out.1))
      go_wp2_with fail
      go_roundw
      case rel => exact ⟨k + 1, by omega, by go_num, HNX⟩
      case measure => simp [intOf]; omega
    · have e : k = r := by omega
      subst e
      obtain ⟨hbw, hown⟩ := hrel.out
      have HBW := Lib.hid hbw
      obtain ⟨A3, c3, rfl, _⟩ := own_sl hown
      have HOW := Lib.hid hown
      have HPW : Hid (W64 (part L i k)) := Lib.hid (part_w HS.out HX.out (by omega))
      have HPL : Hid ((part L i k).length = i + k + (l - (i + 1))) := Lib.hid (by rw [pu_part HX.out, List.length_append, pu_len (by have := HL.out; omega), List.length_drop]; have := HL.out; omega)
      have HFL : Hid (flat (pu L i x m k k) ++ flat (L.drop (i + 1)) = flat (part L i k)) := Lib.hid (by rw [pu_part HX.out, flat_append])
      have HDL : Hid ((flat (L.drop (i + 1))).length = (l - (i + 1)) * 2) := Lib.hid (by rw [flat_len, List.length_drop]; have := HL.out; congr 1; omega)
      have H1 := Lib.hid (flat_one (L.drop (i + 1)))
      have H3 : Hid (i + k + (l - (i + 1)) ≤ maxLen) := Lib.hid (by unfold maxLen; omega)
      have H4 : Hid ((i + k + (l - (i + 1))) * 16 ≤ 140737488355328) := Lib.hid (by omega)
      have H5 : Hid (w.heap.size ≤ wr.heap.size) := Lib.hid hbw.size
      have HDR : Hid (∀ j u, (flat (L.drop (i + 1)))[j]? = some u → wr.cell? ((⟨b, off + (i + 1) * 2, none⟩ : Addr).add j) = some u) := Lib.hid (((HR.out.below HBW.out).drop (j := i + 1) (by omega)).flat)
      have HD0 : Hid (l = i + 1 → ∀ j u, (flat (L.drop (i + 1)))[j]? = some u → wr.cell? ((⟨b, off, none⟩ : Addr).add j) = some u) := Lib.hid (fun e j u hu => by
        have h1 := (List.getElem?_eq_some_iff.1 hu).1
        rw [HDL.out, e] at h1
        omega)
      have i3 : (i : Int) + 1 ≤ (c : Int) := by omega
      have i4 : (i : Int) + 1 ≤ (l : Int) := by omega
      clear hbw hown hrel
      by_cases hci : c = i + 1
      · have hli : l = i + 1 := by omega
        have HFL0 : Hid (flat (pu L i x m k k) ++ [] = flat (part L i k)) := Lib.hid (by
          have e : L.drop (i + 1) = [] := List.drop_of_length_le (by have := HL.out; omega)
          have := HFL.out
          rw [e] at this
          exact this)
        have H30 : Hid (i + k + 0 ≤ maxLen) := Lib.hid (by unfold maxLen; omega)
        have H40 : Hid ((i + k + 0) * 16 ≤ 140737488355328) := Lib.hid (by omega)
        have HN0 : Hid (∀ j u, ([] : List Value)[j]? = some u → wr.cell? ((⟨b, off, none⟩ : Addr).add j) = some u) := Lib.hid (fun j u hu => by simp at hu)
        have HN1 : Hid (∀ u ∈ ([] : List Value), u.oneCell' = true) := Lib.hid (fun u hu => by simp at hu)
        have HPL0 : Hid ((part L i k).length = i + k + 0) := Lib.hid (by rw [HPL.out]; omega)
        go_wp2_with (at_builtin; refine wpList_append_own _ rfl _ _ 22 rfl w.heap.size 29 i0 (.agg #[.int .i64 0, .int .i64 0]) 2 16 Try.underlying22 hi hz0 hz1 hz2 rfl (by decide) _ (i + k) (flat (pu L i x m k k)) rfl HOW.out ⟨b, off, none⟩ 0 _ [] rfl rfl HN0.out HN1.out H30.out H40.out H5.out ?_; intro v' w3 hown' hgrow _)
        rw [HFL0.out] at hown'
        have HB3 : Hid (Below w.heap.size w w3) := Lib.hid (own_below' HOW.out hgrow HBW.out (Nat.le_refl _) H5.out)
        obtain ⟨A4, c4, rfl, _⟩ := own_sl hown'
        have HR4 := Lib.hid (Row.of_own hown')
        clear hown' hgrow
        go_wp2_with fail
        refine (rvalid_any A4 (i + k + 0) c4 (part L i k) w3 HR4.out HPW.out (by omega)).mono ?_; rintro e w4 ⟨rfl, hb5⟩
        go_wp2_with fail
        go_ret2
        exact ⟨bt HB3.out hb5, _, _, _, rfl, (HR4.out.below hb5).more hb5.size⟩
      · go_wp2_with (at_builtin; refine wpList_append_own _ rfl _ _ 22 rfl w.heap.size 29 i0 (.agg #[.int .i64 0, .int .i64 0]) 2 16 Try.underlying22 hi hz0 hz1 hz2 rfl (by decide) _ (i + k) (flat (pu L i x m k k)) rfl HOW.out ⟨b, off + (i + 1) * 2, none⟩ (l - (i + 1)) _ (flat (L.drop (i + 1))) rfl HDL.out HDR.out H1.out H3.out H4.out H5.out ?_; intro v' w3 hown' hgrow _)
        rw [HFL.out] at hown'
        have HB3 : Hid (Below w.heap.size w w3) := Lib.hid (own_below' HOW.out hgrow HBW.out (Nat.le_refl _) H5.out)
        obtain ⟨A4, c4, rfl, _⟩ := own_sl hown'
        have HR4 := Lib.hid (Row.of_own hown')
        clear hown' hgrow
        go_wp2_with fail
        refine (rvalid_any A4 (i + k + (l - (i + 1))) c4 (part L i k) w3 HR4.out HPW.out (by omega)).mono ?_; rintro e w4 ⟨rfl, hb5⟩
        go_wp2_with fail
        go_ret2
        exact ⟨bt HB3.out hb5, _, _, _, rfl, (HR4.out.below hb5).more hb5.size⟩

theorem eq_pair (x m : Int) (w : World) : (Op.equalIn 10000 29 (.agg #[.int .i64 x, .int .i64 m]) (.agg #[.int .i64 x, .int .i64 m])).run Try.prog w = .ok true w := by
  obtain ⟨i0, hi, _⟩ := info_parts infoI
  have hc : Try.prog.cellsOf 3 = 1 := by kernel_rfl
  rw [run_equalIn_array w 9999 _ _ Try.underlying29 hi, hc]
  simp [List.range, List.range.loop, Op.eqItems, go_sem]

set_option maxHeartbeats 400000 in
/-- two slices of pairs that read alike are equal -/
theorem equal_pairs (A B : Option Addr) (l c d : Nat) (L : List (Int × Int)) (w : World) (h : Row w w.heap.size A l L) (g : Row w w.heap.size B l L) (hl : l ≤ 1000000) :
    Calls Try.prog 25 #[.slice A l c, .slice B l d] w fun e w' => e = .returned (.bool true) ∧ Below w.heap.size w w' := by
  have HR := Lib.hid h
  have HG := Lib.hid g
  clear h g
  go_enter Try.func25, Try.ntmps25
  go_wp2_with fail
  go_loopw [13] (fun x wr => ∃ k : Nat, k ≤ l ∧ x = .int .i64 (k : Int) ∧ Below w.heap.size w wr) (fun x _ => l - (intOf x).toNat)
  case atStart => exact ⟨0, by omega, rfl, Below.refl _ _⟩
  case round =>
    obtain ⟨k, hk, rfl, hb⟩ := hrel
    by_cases hlt : k < l
    · obtain ⟨b, off, x, m, hx, rfl, hB, g1, g2⟩ := (HR.out.below hb).at_ hlt
      obtain ⟨b', off', y, n, hy, rfl, hB', g3, g4⟩ := (HG.out.below hb).at_ hlt
      obtain ⟨rfl, rfl⟩ : x = y ∧ m = n := by rw [hx] at hy; injection hy with hy; injection hy with e1 e2; exact ⟨e1, e2⟩
      have hki : (k : Int) < (l : Int) := by omega
      have heq := eq_pair x m
      clear hx hy
      go_wp2_with fail
      go_region
      go_wp2_with fail
      go_roundw
      case rel => exact ⟨k + 1, by omega, by go_num, hb.drew⟩
      case measure => simp [intOf]; omega
    · go_wp2_with fail
      go_ret
      exact ⟨rfl, hb⟩
end Go.Proofs.Ytmmgidhaakkaoaa
