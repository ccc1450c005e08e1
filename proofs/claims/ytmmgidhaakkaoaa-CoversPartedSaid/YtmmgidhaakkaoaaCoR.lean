/- Refine: the system in which a pair is parted. -/
import Derived.Test.YtmmgidhaakkaoaaCoO
import Derived.Test.YtmmgidhaakkaoaaCvP
import Derived.Test.YtmmgidhaakkaoaaAp
import Derived.ArgAppend
import Derived.Deep.Onto
import Derived.Deep.RegionHeld3
import Derived.Deep.RegionLawGrows
import Derived.Deep.AppendLies
namespace Go.Proofs.Ytmmgidhaakkaoaa
open Go Go.RowKit GhC

/-- the parted system, as far as it is made -/
def pu (L : List (Int × Int)) (i : Nat) (x m : Int) (r : Nat) (k : Nat) : List (Int × Int) := L.take i ++ List.map (fun (k : Nat) => (x + (k : Int) * m, (r : Int) * m)) (List.range k)
theorem pu_succ (L : List (Int × Int)) (i : Nat) (x m : Int) (r k : Nat) : pu L i x m r (k + 1) = pu L i x m r k ++ [(x + (k : Int) * m, (r : Int) * m)] := by
  unfold pu; rw [List.range_succ, List.map_append, List.append_assoc]; rfl
theorem pu_zero (L : List (Int × Int)) (i : Nat) (x m : Int) (r : Nat) : pu L i x m r 0 = L.take i := by simp [pu]
theorem pu_len {L : List (Int × Int)} {i : Nat} (hi : i < L.length) (x m : Int) (r k : Nat) : (pu L i x m r k).length = i + k := by
  unfold pu
  rw [List.length_append, List.length_map, List.length_range, List.length_take]; omega
theorem pu_part {L : List (Int × Int)} {i r : Nat} {x m : Int} (h : L[i]? = some (x, m)) : part L i r = pu L i x m r r ++ L.drop (i + 1) := by rw [part_at h]; rfl
theorem part_w {L : List (Int × Int)} {i r : Nat} {x m : Int} (hs : Sys L) (h : L[i]? = some (x, m)) (hr : r ≤ 5) : W64 (part L i r) := by
  have ok : ∀ p ∈ L, -9223372036854775808 ≤ p.1 ∧ p.1 ≤ 9223372036854775807 ∧ -9223372036854775808 ≤ p.2 ∧ p.2 ≤ 9223372036854775807 := fun p hp => by
    obtain ⟨h1, h2, h3, h4⟩ := hs.2.2.1 p hp
    omega
  intro p hp
  rw [pu_part h] at hp
  unfold pu at hp
  rw [List.mem_append, List.mem_append] at hp
  rcases hp with (hp | hp) | hp
  · exact ok p (List.mem_of_mem_take hp)
  · obtain ⟨k, hk, rfl⟩ := List.mem_map.1 hp
    have hk := List.mem_range.1 hk
    obtain ⟨h1, h2, h3, h4⟩ := hs.2.2.1 _ (List.mem_of_getElem? h)
    simp only at h1 h2 h3 h4 ⊢
    have a1 : (k : Int) * m ≤ 5 * 60 := Int.mul_le_mul (by omega) h2 (by omega) (by omega)
    have a2 : 0 ≤ (k : Int) * m := Int.mul_nonneg (by omega) (by omega)
    have b1 : (r : Int) * m ≤ 5 * 60 := Int.mul_le_mul (by omega) h2 (by omega) (by omega)
    have b2 : 0 ≤ (r : Int) * m := Int.mul_nonneg (by omega) (by omega)
    omega
  · exact ok p (List.mem_of_mem_drop hp)

theorem lit_news {w : World} {x m : Int} : ∀ j u, ([Value.int .i64 x, .int .i64 m] : List Value)[j]? = some u → (w.alloc (Obj.cells #[.int .i64 x, .int .i64 m] 29)).cell? ((⟨w.heap.size, 0, none⟩ : Addr).add j) = some u := by
  intro j u hu
  rw [add_none]
  rcases j with _ | _ | j
  · simp at hu; subst hu; simp
  · simp at hu; subst hu; simp
  · simp at hu
theorem lit_one {x m : Int} : ∀ u ∈ ([Value.int .i64 x, .int .i64 m] : List Value), u.oneCell' = true := by
  intro u hu; simp at hu; rcases hu with rfl | rfl <;> simp [Value.oneCell']

/-- what Refine keeps while it makes the parted system: k pairs are made -/
def RefRel (w : World) (A : Option Addr) (L : List (Int × Int)) (i : Nat) (x m : Int) (r : Nat) (v : Value) (k : Nat) (wr : World) : Prop :=
  Below w.heap.size w wr ∧ ((k = 0 ∧ v = .slice A i i) ∨ (0 < k ∧ wr.ownsRow w.heap.size 29 2 v (i + k) (flat (pu L i x m r k))))

theorem RefRel.first {w w0 wr w1 : World} {A : Option Addr} {L : List (Int × Int)} {i k : Nat} {x m : Int} {r : Nat} {v' : Value} (hk : k = 0) (hb : Below w.heap.size w wr) (he : w0.heap.size = wr.heap.size + 1) (hb0 : Below wr.heap.size wr w0)
    (hown : w1.ownsRow w0.heap.size 29 2 v' (i + 1) (flat (L.take i) ++ [.int .i64 (x + (k : Int) * m), .int .i64 ((r : Int) * m)])) (hg : w0.grownBy w1 none) : RefRel w A L i x m r v' (k + 1) w1 := by
  subst hk
  have hs := hb.size
  refine ⟨(bt hb hb0).grown hg (by omega) (fun k e => by cases e), .inr ⟨by omega, ?_⟩⟩
  have h0 : flat (pu L i x m r (0 + 1)) = flat (L.take i) ++ [.int .i64 (x + ((0 : Nat) : Int) * m), .int .i64 ((r : Int) * m)] := by
    rw [pu_succ, flat_append, pu_zero]
    rfl
  rw [h0]
  exact hown.mono (by omega)
theorem RefRel.next {w w0 wr w1 : World} {A : Option Addr} {L : List (Int × Int)} {i : Nat} {x m : Int} {r k : Nat} {v v' : Value} (hb : Below w.heap.size w wr) (hb0 : Below wr.heap.size wr w0) (h : w0.ownsRow w.heap.size 29 2 v (i + k) (flat (pu L i x m r k)))
    (hown : w1.ownsRow w.heap.size 29 2 v' (i + k + 1) (flat (pu L i x m r k) ++ [.int .i64 (x + (k : Int) * m), .int .i64 ((r : Int) * m)])) (hg : w0.grownBy w1 v.ownBlock) : RefRel w A L i x m r v' (k + 1) w1 := by
  refine ⟨own_below' h hg (bt hb hb0) (Nat.le_refl _) (Nat.le_trans hb.size hb0.size), .inr ⟨by omega, ?_⟩⟩
  rw [pu_succ, flat_append]
  exact hown

theorem Row.drop {w : World} {B b off n j : Nat} {L : List (Int × Int)} (h : Row w B (some ⟨b, off, none⟩) n L) (hj : j ≤ n) : Row w B (some ⟨b, off + j * 2, none⟩) (n - j) (L.drop j) := by
  refine ⟨by rw [List.length_drop]; have := h.1; omega, fun h0 => ?_⟩
  obtain ⟨b', off', e, hb, hc⟩ := h.2 (by omega)
  injection e with e
  injection e with e1 e2
  subst e1 e2
  refine ⟨b, off + j * 2, rfl, hb, fun k p hp => ?_⟩
  rw [List.getElem?_drop] at hp
  have := hc _ p hp
  have e : off + j * 2 + k * 2 = off + (j + k) * 2 := by omega
  rw [e]; exact this

/-- what Refine returns -/
def GivesRef (w : World) (P : List (Int × Int)) (e : Ending) (w' : World) : Prop :=
  Below w.heap.size w w' ∧ ((validL P = true ∧ ∃ A n c, e = .returned (.tuple #[.slice A n c, .int .i64 0]) ∧ Row w' w'.heap.size A n P) ∨ (validL P = false ∧ e = .returned (.tuple #[.slice none 0 0, .int .i64 2])))

set_option maxRecDepth 100000 in
set_option maxHeartbeats 1000000 in
theorem refine_yes (b off : Nat) (l c i r : Nat) (x m : Int) (L : List (Int × Int)) (w : World) (h : Row w w.heap.size (some ⟨b, off, none⟩) l L) (hlc : l ≤ c) (hc : c ≤ maxLen) (hv : validL L = true) (hx : L[i]? = some (x, m)) (hr2 : 2 ≤ r) (hr5 : r ≤ 5) :
    Calls Try.prog 23 #[.slice (some ⟨b, off, none⟩) l c, .int .i64 (i : Int), .int .i64 (r : Int)] w (GivesRef w (part L i r)) := by
  have hs := validL_yes hv
  have HS := Lib.hid hs
  have hil : i < l := by have := (List.getElem?_eq_some_iff.1 hx).1; have := h.1; omega
  have hl10 : l ≤ 10 := by have := h.1; have := hs.2.1; omega
  have hc2 : c ≤ 9223372036854775807 := by unfold maxLen at hc; omega
  have HR := Lib.hid h
  have HL := Lib.hid h.1
  have HW : Hid (∀ p ∈ L, -9223372036854775808 ≤ p.1 ∧ p.1 ≤ 9223372036854775807 ∧ -9223372036854775808 ≤ p.2 ∧ p.2 ≤ 9223372036854775807) := Lib.hid (fun p hp => by
    obtain ⟨h1, h2, h3, h4⟩ := hs.2.2.1 p hp
    omega)
  have HV := Lib.hid hv
  have HX := Lib.hid hx
  obtain ⟨m1, m2, x1, x2⟩ := hs.2.2.1 (x, m) (List.mem_of_getElem? hx)
  simp only at m1 m2 x1 x2
  have i1 : (i : Int) < (l : Int) := by omega
  have i2 : (i : Int) ≤ (c : Int) := by omega
  have d1 : decide ((i : Int) < 0) = false := decide_eq_false (by omega)
  have d2 : decide ((r : Int) < 2) = false := decide_eq_false (by omega)
  have d3 : decide (5 < (r : Int)) = false := decide_eq_false (by omega)
  have d4 : decide (l ≤ i) = false := decide_eq_false (by omega)
  obtain ⟨Z, hZ⟩ : ∃ Z, (r : Int) * m = Z := ⟨_, rfl⟩
  have z1 : Z ≤ 5 * 60 := by rw [← hZ]; exact Int.mul_le_mul (by omega) m2 (by omega) (by omega)
  have z2 : 0 ≤ Z := by rw [← hZ]; exact Int.mul_nonneg (by omega) (by omega)
  have HZ := Lib.hid hZ
  clear h hs hv hx hZ
  obtain ⟨i0, hi, hz0, hz1, hz2⟩ := info_parts infoP
  go_enter Try.func23, Try.ntmps23
  go_wp2_with fail
  refine (read_any (some ⟨b, off, none⟩) l c L w HR.out HW.out (by omega)).mono ?_; rintro e w1 ⟨A1, n1, c1, rfl, hr, hb1⟩
  rw [HV.out]
  have HB1 := Lib.hid hb1
  clear hr hb1
  go_wp2_with fail
  go_loopw [10, 11, 44] (fun v _ z wr => ∃ k : Nat, k ≤ r ∧ z = .int .i64 (k : Int) ∧ Hid (RefRel w (some ⟨b, off, none⟩) L i x m r v k wr)) (fun _ _ z _ => r - (intOf z).toNat)
  case atStart => exact ⟨0, by omega, rfl, Lib.hid ⟨HB1.out, .inl ⟨rfl, rfl⟩⟩⟩
  case round =>
    obtain ⟨k, hk, rfl, hrel⟩ := hrel
    by_cases hlt : k < r
    · obtain ⟨b', off', x', m', hx', ha, hB, g1, g2⟩ := (HR.out.below hrel.out.1).at_ hil
      rw [HX.out] at hx'
      injection hx' with hx'
      injection hx' with e1 e2
      subst e1 e2
      injection ha with ha
      injection ha with ha1 ha2
      subst ha1 ha2
      obtain ⟨Y, hY⟩ : ∃ Y, (k : Int) * m = Y := ⟨_, rfl⟩
      have y1 : Y ≤ 5 * 60 := by rw [← hY]; exact Int.mul_le_mul (by omega) m2 (by omega) (by omega)
      have y2 : 0 ≤ Y := by rw [← hY]; exact Int.mul_nonneg (by omega) (by omega)
      have s1 : IntKind.i64.wrap ((k : Int) * m) = Y := by rw [hY]; exact IntWalk.i64_in _ (by omega)
      have s2 : IntKind.i64.wrap (x + Y) = x + Y := IntWalk.i64_in _ (by omega)
      have s3 : IntKind.i64.wrap ((r : Int) * m) = Z := by rw [HZ.out]; exact IntWalk.i64_in _ (by omega)
      have HY := Lib.hid hY
      clear hY
      obtain ⟨hbw, hown⟩ := hrel.out
      have HBW := Lib.hid hbw
      have hws : w.heap.size ≤ wr.heap.size := hbw.size
      have HKE : Hid (∀ w', Below w.heap.size w w' → w'.cell? ⟨b, off + i * 2, none⟩ = some (.int .i64 x) ∧ w'.cell? ⟨b, off + i * 2 + 1, none⟩ = some (.int .i64 m)) := Lib.hid (fun w' hb' => by
        have hb'' := hb'.cell (p := ⟨b, off + i * 2, none⟩) hB
        have hb3 := hb'.cell (p := ⟨b, off + i * 2 + 1, none⟩) hB
        have e1 := HBW.out.cell (p := ⟨b, off + i * 2, none⟩) hB
        have e2 := HBW.out.cell (p := ⟨b, off + i * 2 + 1, none⟩) hB
        exact ⟨hb''.trans (e1.symm.trans g1), hb3.trans (e2.symm.trans g2)⟩)
      have HWA : Hid (Below wr.heap.size wr (wr.alloc (Obj.cells #[.int .i64 (x + Y), .int .i64 Z] 29)).drew) := Lib.hid ((Below.refl _ _).alloc (Nat.le_refl _) _).drew
      have HNE : Hid (∀ j u, ([Value.int .i64 (x + Y), .int .i64 Z] : List Value)[j]? = some u → ((wr.alloc (Obj.cells #[.int .i64 (x + Y), .int .i64 Z] 29)).drew).cell? ((⟨wr.heap.size, 0, none⟩ : Addr).add j) = some u) := Lib.hid (lit_news (w := wr))
      have H1 : Hid (∀ u ∈ ([Value.int .i64 (x + Y), .int .i64 Z] : List Value), u.oneCell' = true) := Lib.hid lit_one
      have HAS : Hid ((wr.alloc (Obj.cells #[.int .i64 (x + Y), .int .i64 Z] 29)).drew.heap.size = wr.heap.size + 1) := Lib.hid (by show (wr.alloc _).heap.size = _; rw [World.size_alloc])
      rcases hown with ⟨hk0, rfl⟩ | ⟨hk0, hown⟩
      · have HK0 := Lib.hid hk0
        have HTL : Hid ((flat (L.take i)).length = i * 2) := Lib.hid (by rw [flat_len, List.length_take]; have := HL.out; congr 1; omega)
        have HTC : Hid (∀ q, (some ⟨b, off, none⟩ : Option Addr) = some q → ∀ j u, (flat (L.take i))[j]? = some u → ((wr.alloc (Obj.cells #[.int .i64 (x + Y), .int .i64 Z] 29)).drew).cell? (q.add j) = some u) := Lib.hid (by
          intro q hq j u hu
          injection hq with hq
          subst hq
          have hR := ((HR.out.below HBW.out).take (k := i) (by omega)).flat j u hu
          have hblk : b < wr.heap.size := by omega
          rw [add_none] at hR ⊢
          show (wr.alloc _).cell? _ = _
          rw [World.cell?_alloc_lt _ _ _ hblk]; exact hR)
        have HNO : Hid ((some ⟨b, off, none⟩ : Option Addr) = none → i = 0 ∧ i = 0) := Lib.hid (fun h => by cases h)
        have HFU : Hid (i < i + 1) := Lib.hid (by omega)
        have H3 : Hid (i + 1 ≤ maxLen) := Lib.hid (by unfold maxLen; omega)
        have H4 : Hid ((i + 1) * 16 ≤ 140737488355328) := Lib.hid (by omega)
        clear hbw hrel hk0
        go_wp2_with fail
        go_region_held3 (fun w' => w'.cell? ⟨b, off + i * 2, none⟩ = some (.int .i64 x) ∧ w'.cell? ⟨b, off + i * 2 + 1, none⟩ = some (.int .i64 m)) (first | go_keep | exact ⟨ka, kb⟩)
          ((refine step_append_grows (by rfl) (.tmp 47) (.tmp 69) 22 (by rfl) 29 i0 (.agg #[.int .i64 0, .int .i64 0]) 2 16 Try.underlying22 hi hz0 hz1 hz2 rfl (by decide) (some ⟨b, off, none⟩) i i (flat (L.take i)) (by rfl) HNO.out HTL.out HTC.out ⟨wr.heap.size, 0, none⟩ 1 1 [.int .i64 (x + Y), .int .i64 Z] (by rfl) (by rfl) HNE.out H1.out HFU.out H3.out H4.out ?_; intro v' w3 hown' hgrow; have HNX : Hid (RefRel w (some ⟨b, off, none⟩) L i x m r v' (k + 1) w3) := Lib.hid (RefRel.first HK0.out HBW.out HAS.out HWA.out (by rw [HZ.out, HY.out]; exact hown') hgrow); obtain ⟨ka, kb⟩ := HKE.out _ HNX.out.1))
        go_wp2_with fail
        go_roundw
        case rel => exact ⟨k + 1, by omega, by go_num, HNX⟩
        case measure => simp [intOf]; omega
      · have HOW : Hid (((wr.alloc (Obj.cells #[.int .i64 (x + Y), .int .i64 Z] 29)).drew).ownsRow w.heap.size 29 2 u10 (i + k) (flat (pu L i x m r k))) := Lib.hid (hown.alloc _)
        have H3 : Hid (i + k + 1 ≤ maxLen) := Lib.hid (by unfold maxLen; omega)
        have H4 : Hid ((i + k + 1) * 16 ≤ 140737488355328) := Lib.hid (by omega)
        have H5 : Hid (w.heap.size ≤ ((wr.alloc (Obj.cells #[.int .i64 (x + Y), .int .i64 Z] 29)).drew).heap.size) := Lib.hid (by rw [HAS.out]; omega)
        clear hbw hrel hown
        go_wp2_with fail
        go_region_held3 (fun w' => w'.cell? ⟨b, off + i * 2, none⟩ = some (.int .i64 x) ∧ w'.cell? ⟨b, off + i * 2 + 1, none⟩ = some (.int .i64 m)) (first | go_keep | exact ⟨ka, kb⟩)
          ((refine step_append_lies _ (by rfl) _ _ _ (by rfl) w.heap.size 29 i0 _ 2 16 Try.underlying22 hi hz0 hz1 hz2 rfl (by omega) u10 (i + k) (flat (pu L i x m r k)) (by rfl) HOW.out ⟨wr.heap.size, 0, none⟩ 1 1 [.int .i64 (x + Y), .int .i64 Z] (by rfl) (by rfl) HNE.out H1.out (by omega) H3.out H4.out H5.out (wr.heap.size + 1) HAS.out ?_; intro gg cap w3 hown' hgrow hat hlt; have HNX : Hid (RefRel w (some ⟨b, off, none⟩) L i x m r (.slice (some ⟨gg, 0, none⟩) (i + k + 1) cap) (k + 1) w3) := Lib.hid (RefRel.next HBW.out HWA.out HOW.out (by rw [HZ.out, HY.out]; exact hown') hgrow); obtain ⟨ka, kb⟩ := HKE.out _ HNX.out.1))
        go_wp2_with fail
        go_roundw
        case rel => exact ⟨k + 1, by omega, by go_num, HNX⟩
        case measure => simp [intOf]; omega
    · have e : k = r := by omega
      subst e
      obtain ⟨hbw, hown⟩ := hrel.out
      have HBW := Lib.hid hbw
      rcases hown with ⟨hk0, _⟩ | ⟨_, hown⟩
      · omega
      obtain ⟨A3, c3, rfl, _⟩ := own_sl hown
      have HOW := Lib.hid hown
      have HPW : Hid (W64 (part L i k)) := Lib.hid (part_w HS.out HX.out (by omega))
      have HPL : Hid ((part L i k).length = i + k + (l - (i + 1))) := Lib.hid (by rw [pu_part HX.out, List.length_append, pu_len (by have := HL.out; omega), List.length_drop]; have := HL.out; omega)
      have HFL : Hid (flat (pu L i x m k k) ++ flat (L.drop (i + 1)) = flat (part L i k)) := Lib.hid (by rw [pu_part HX.out, flat_append])
      have HDL : Hid ((flat (L.drop (i + 1))).length = (l - (i + 1)) * 2) := Lib.hid (by rw [flat_len, List.length_drop]; have := HL.out; congr 1; omega)
      have H1 := Lib.hid (flat_one (L.drop (i + 1)))
      have H3 : Hid (i + k + (l - (i + 1)) ≤ maxLen) := Lib.hid (by unfold maxLen; omega)
      have H4 : Hid ((i + k + (l - (i + 1))) * 16 ≤ 140737488355328) := Lib.hid (by omega)
      have H5 : Hid (w.heap.size ≤ wr.heap.size) := Lib.hid hbw.size
      have HDR : Hid (∀ j u, (flat (L.drop (i + 1)))[j]? = some u → wr.cell? ((⟨b, off + (i + 1) * 2, none⟩ : Addr).add j) = some u) := Lib.hid (((HR.out.below HBW.out).drop (j := i + 1) (by omega)).flat)
      have HD0 : Hid (l = i + 1 → ∀ j u, (flat (L.drop (i + 1)))[j]? = some u → wr.cell? ((⟨b, off, none⟩ : Addr).add j) = some u) := Lib.hid (fun e j u hu => by
        have h1 := (List.getElem?_eq_some_iff.1 hu).1
        rw [HDL.out, e] at h1
        omega)
      have i3 : (i : Int) + 1 ≤ (c : Int) := by omega
      have i4 : (i : Int) + 1 ≤ (l : Int) := by omega
      clear hbw hown hrel
      by_cases hci : c = i + 1
      · have hli : l = i + 1 := by omega
        have HFL0 : Hid (flat (pu L i x m k k) ++ [] = flat (part L i k)) := Lib.hid (by
          have e : L.drop (i + 1) = [] := List.drop_of_length_le (by have := HL.out; omega)
          have := HFL.out
          rw [e] at this
          exact this)
        have H30 : Hid (i + k + 0 ≤ maxLen) := Lib.hid (by unfold maxLen; omega)
        have H40 : Hid ((i + k + 0) * 16 ≤ 140737488355328) := Lib.hid (by omega)
        have HN0 : Hid (∀ j u, ([] : List Value)[j]? = some u → wr.cell? ((⟨b, off, none⟩ : Addr).add j) = some u) := Lib.hid (fun j u hu => by simp at hu)
        have HN1 : Hid (∀ u ∈ ([] : List Value), u.oneCell' = true) := Lib.hid (fun u hu => by simp at hu)
        have HPL0 : Hid ((part L i k).length = i + k + 0) := Lib.hid (by rw [HPL.out]; omega)
        go_wp2_with (at_builtin; refine wpList_append_own _ rfl _ _ 22 rfl w.heap.size 29 i0 (.agg #[.int .i64 0, .int .i64 0]) 2 16 Try.underlying22 hi hz0 hz1 hz2 rfl (by decide) _ (i + k) (flat (pu L i x m k k)) rfl HOW.out ⟨b, off, none⟩ 0 _ [] rfl rfl HN0.out HN1.out H30.out H40.out H5.out ?_; intro v' w3 hown' hgrow _)
        rw [HFL0.out] at hown'
        have HB3 : Hid (Below w.heap.size w w3) := Lib.hid (own_below' HOW.out hgrow HBW.out (Nat.le_refl _) H5.out)
        obtain ⟨A4, c4, rfl, _⟩ := own_sl hown'
        have HR4 := Lib.hid (Row.of_own hown')
        clear hown' hgrow
        go_wp2_with fail
        refine (read_any A4 (i + k + 0) c4 (part L i k) w3 HR4.out HPW.out (by omega)).mono ?_; rintro e w4 ⟨A5, n5, c5, rfl, hr5, hb5⟩
        cases hvp : validL (part L i k) with
        | true =>
          have HVP := Lib.hid hvp
          clear hvp hr5
          go_wp2_with fail
          go_ret2
          exact ⟨bt HB3.out hb5, .inl ⟨HVP.out, _, _, _, rfl, (HR4.out.below hb5).more hb5.size⟩⟩
        | false =>
          have HVP := Lib.hid hvp
          clear hvp hr5
          go_wp2_with fail
          go_ret2
          exact ⟨bt HB3.out hb5, .inr ⟨HVP.out, rfl⟩⟩
      · go_wp2_with (at_builtin; refine wpList_append_own _ rfl _ _ 22 rfl w.heap.size 29 i0 (.agg #[.int .i64 0, .int .i64 0]) 2 16 Try.underlying22 hi hz0 hz1 hz2 rfl (by decide) _ (i + k) (flat (pu L i x m k k)) rfl HOW.out ⟨b, off + (i + 1) * 2, none⟩ (l - (i + 1)) _ (flat (L.drop (i + 1))) rfl HDL.out HDR.out H1.out H3.out H4.out H5.out ?_; intro v' w3 hown' hgrow _)
        rw [HFL.out] at hown'
        have HB3 : Hid (Below w.heap.size w w3) := Lib.hid (own_below' HOW.out hgrow HBW.out (Nat.le_refl _) H5.out)
        obtain ⟨A4, c4, rfl, _⟩ := own_sl hown'
        have HR4 := Lib.hid (Row.of_own hown')
        clear hown' hgrow
        go_wp2_with fail
        refine (read_any A4 (i + k + (l - (i + 1))) c4 (part L i k) w3 HR4.out HPW.out (by omega)).mono ?_; rintro e w4 ⟨A5, n5, c5, rfl, hr5, hb5⟩
        cases hvp : validL (part L i k) with
        | true =>
          have HVP := Lib.hid hvp
          clear hvp hr5
          go_wp2_with fail
          go_ret2
          exact ⟨bt HB3.out hb5, .inl ⟨HVP.out, _, _, _, rfl, (HR4.out.below hb5).more hb5.size⟩⟩
        | false =>
          have HVP := Lib.hid hvp
          clear hvp hr5
          go_wp2_with fail
          go_ret2
          exact ⟨bt HB3.out hb5, .inr ⟨HVP.out, rfl⟩⟩
end Go.Proofs.Ytmmgidhaakkaoaa
