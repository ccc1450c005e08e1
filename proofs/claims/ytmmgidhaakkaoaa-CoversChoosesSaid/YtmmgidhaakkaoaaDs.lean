/- covers.days: the days of some primes. -/
import Derived.Test.YtmmgidhaakkaoaaPm
namespace Go.Proofs.Ytmmgidhaakkaoaa
open Go Go.RowKit GhN

theorem dys_snoc (K : Nat) (M : List Nat) (P : Nat) : dys K (M ++ [P]) = dys K M ++ (dyP K P).toList := by
  unfold dys
  rw [List.filterMap_append]
  congr 1
noncomputable def dL (K : Nat) (L : List Int) : List (Int × Int) := dys K (L.map Int.toNat)
theorem dL_snoc {K : Nat} {L : List Int} {k : Nat} {P : Nat} (h : L[k]? = some (P : Int)) : dL K (L.take (k + 1)) = dL K (L.take k) ++ (dyP K P).toList := by
  unfold dL
  obtain ⟨h1, e1⟩ := List.getElem?_eq_some_iff.1 h
  rw [List.take_succ_eq_append_getElem h1, e1, List.map_append, List.map_cons, List.map_nil, Int.toNat_natCast, dys_snoc]
theorem dyP_form {K P : Nat} (hp : Pr P) (h2 : P % 2 = 1) : (dayH K P = true ∧ dyP K P = some (dayX K P, ((ordF P : Nat) : Int)) ∧ 0 ≤ dayX K P ∧ dayX K P < ((ordF P : Nat) : Int)) ∨ (dayH K P = false ∧ dyP K P = none) := by
  have ho := (ordF_spec hp h2).1.1
  unfold dayH dayX
  cases h : dyF K P (ordF P) 1 with
  | none => exact .inr ⟨rfl, dyP_none h⟩
  | some m =>
    refine .inl ⟨rfl, dyP_some h, ?_⟩
    have := Nat.mod_lt m ho
    exact ⟨Int.natCast_nonneg _, Int.ofNat_lt.2 this⟩
theorem dL_len (K : Nat) (L : List Int) : (dL K L).length ≤ L.length := by
  unfold dL dys
  have := List.length_filterMap_le (dyP K) (L.map Int.toNat)
  rwa [List.length_map] at this
open Classical in
noncomputable def dOk (K : Nat) (L : List Int) : Bool := decide ((∀ q ∈ dL K L, q.2 ≤ 60) ∧ wh (dL K L) 1 ≤ 10080)
theorem dOk_yes {K : Nat} {L : List Int} (h : dOk K L = true) : (∀ q ∈ dL K L, q.2 ≤ 60) ∧ wh (dL K L) 1 ≤ 10080 := by
  unfold dOk at h; exact @of_decide_eq_true _ (_) h
theorem dOk_mk {K : Nat} {L : List Int} (h : (∀ q ∈ dL K L, q.2 ≤ 60) ∧ wh (dL K L) 1 ≤ 10080) : dOk K L = true := by
  unfold dOk; exact @decide_eq_true _ (_) h
theorem dOk_no {K : Nat} {L : List Int} (h : ¬ ((∀ q ∈ dL K L, q.2 ≤ 60) ∧ wh (dL K L) 1 ≤ 10080)) : dOk K L = false := by
  unfold dOk; exact @decide_eq_false _ (_) h
theorem dL_take {K : Nat} {L : List Int} {k : Nat} {q : Int × Int} (h : q ∈ dL K (L.take k)) : q ∈ dL K L := by
  unfold dL dys at *
  rw [List.mem_filterMap] at h ⊢
  obtain ⟨x, hx, e⟩ := h
  refine ⟨x, ?_, e⟩
  rw [List.map_take] at hx
  exact List.mem_of_mem_take hx

theorem ok_prime {L : List Int} (h : allOk L = true) {k : Nat} {p : Int} (hx : L[k]? = some p) : 3 ≤ p ∧ p < 300 ∧ Pr p.toNat ∧ p.toNat % 2 = 1 := by
  have h1 := allOk_iff.1 h k (List.getElem?_eq_some_iff.1 hx).1
  rw [okAt_at hx, Bool.and_eq_true, Bool.and_eq_true] at h1
  have h2 := of_decide_eq_true h1.1.1
  have h3 := prB_pr h1.1.2
  exact ⟨h2.1, h2.2, h3, h3.odd (by omega)⟩

/-- a slice of pairs of the call's own that holds a list -/
def SysRel (w : World) (D : List (Int × Int)) (v : Value) (wr : World) : Prop :=
  wr.ownsRow w.heap.size 68 2 v D.length (flat D) ∧ Below w.heap.size w wr ∧ Mods D
theorem SysRel.next {w wr w2 w1 : World} {D : List (Int × Int)} {v v' : Value} {x m : Int} (h : SysRel w D v wr) (h2 : Below wr.heap.size wr w2) (hm : 1 ≤ m ∧ m ≤ 60)
    (hown : w1.ownsRow w.heap.size 68 2 v' (D.length + 1) (flat D ++ [.int .i64 x, .int .i64 m])) (hg : w2.grownBy w1 v.ownBlock) : SysRel w (D ++ [(x, m)]) v' w1 := by
  obtain ⟨h1, hb, h3⟩ := h
  refine ⟨by rw [List.length_append, flat_append]; exact hown, ?_, ?_⟩
  · refine (bt hb h2).grown hg (by have := hb.size; have := h2.size; omega) (fun g e => ?_)
    rcases h1.2 with ⟨rfl, _⟩ | ⟨g', cap, cur, rfl, hb, _⟩
    · cases e
    · injection e with e; subst e; exact hb
  · intro p hp
    rw [List.mem_append] at hp
    rcases hp with hp | hp
    · exact h3 p hp
    · simp at hp; subst hp; exact hm
theorem SysRel.below {w wr w2 : World} {D : List (Int × Int)} {v : Value} (h : SysRel w D v wr) (h2 : Below wr.heap.size wr w2) : SysRel w D v w2 :=
  ⟨h.1.kept (row := none) ⟨h2.os, h2.tape, h2.output, h2.size, fun k hk _ => h2.block k hk⟩ (by cases v.ownBlock <;> simp), bt h.2.1 h2, h.2.2⟩
theorem SysRel.form {w wr : World} {D : List (Int × Int)} {v : Value} (h : SysRel w D v wr) : ∃ A c, v = .slice A D.length c ∧ Row wr wr.heap.size A D.length D ∧ (A = none → D.length = 0) := by
  rcases h.1.2 with ⟨rfl, h0⟩ | ⟨g, cap, cur, rfl, _⟩
  · have e : (Value.slice none 0 0) = .slice none D.length 0 := by rw [h0]
    exact ⟨none, 0, e, Row.of_own (e ▸ h.1), fun _ => h0⟩
  · exact ⟨_, cap, rfl, Row.of_own h.1, fun e => by cases e⟩

def DaysPost (w : World) (K : Nat) (L : List Int) (e : Ending) (w' : World) : Prop :=
  ∃ A n c, e = .returned (.tuple #[.slice A n c, .bool (dOk K L)]) ∧ (dOk K L = true → Row w' w'.heap.size A n (dL K L) ∧ (A = none → n = 0)) ∧ Below w.heap.size w w'

set_option maxRecDepth 100000 in
set_option maxHeartbeats 1000000 in
theorem days_any (K : Nat) (A : Option Addr) (l c : Nat) (L : List Int) (w : World) (h : IRow w w.heap.size A l L) (hok : allOk L = true) (hl8 : l ≤ 8) (hK : K ≤ 1000000) :
    Calls Try.prog 58 #[.int .i64 (K : Int), .slice A l c] w (DaysPost w K L) := by
  have HR := Lib.hid h
  have HL := Lib.hid h.1
  have HOK := Lib.hid hok
  clear h hok
  obtain ⟨i0, hi, hz0, hz1, hz2⟩ := info_parts infoQ
  go_enter Try.func58, Try.ntmps58
  go_wp2_with fail
  go_loopw [6, 13] (fun v x wr => ∃ k : Nat, k ≤ l ∧ Hid (SysRel w (dL K (L.take k)) v wr) ∧ x = .int .i64 (k : Int)) (fun _ x _ => l - (intOf x).toNat)
  case atStart => exact ⟨0, by omega, Lib.hid ⟨World.ownsRow_nil .., Below.refl _ _, fun p hp => by simp [dL, dys] at hp⟩, rfl⟩
  case round =>
    obtain ⟨k, hk, hrl, rfl⟩ := hrel
    by_cases hlt : k < l
    · obtain ⟨b, off, p, hx, rfl, hB, g1⟩ := (HR.out.below hrl.out.2.1).at_ hlt
      obtain ⟨p3, p300, ppr, podd⟩ := ok_prime HOK.out hx
      obtain ⟨P, rfl⟩ : ∃ P : Nat, p = P := ⟨p.toNat, by omega⟩
      rw [Int.toNat_natCast] at ppr podd
      have HSN := Lib.hid (dL_snoc (K := K) hx)
      have hform := dyP_form (K := K) ppr podd
      have ho1 := (ordF_spec ppr podd).1.1
      have ho2 := (ordF_spec ppr podd).2
      have HDAY : Hid (∀ w', Calls Try.prog 68 #[.int .i64 (K : Int), .int .i64 (P : Int)] w' fun e w'' => e = .returned (.tuple #[prV (dayX K P) (ordF P : Nat), .bool (dayH K P)]) ∧ Below w'.heap.size w' w'') := Lib.hid (fun w' => day_any K P w' ppr podd (by omega) hK)
      obtain ⟨t, ht⟩ : ∃ t, ordF P = t := ⟨_, rfl⟩
      obtain ⟨X, hX⟩ : ∃ X, dayX K P = X := ⟨_, rfl⟩
      obtain ⟨H, hH⟩ : ∃ H, dayH K P = H := ⟨_, rfl⟩
      rw [ht] at ho1 ho2
      rw [ht, hX, hH] at hform
      rw [ht, hX, hH] at HDAY
      have hki : (k : Int) < (l : Int) := by omega
      clear ht hX hH hx ppr podd
      rcases hform with ⟨rfl, he, x1, x2⟩ | ⟨rfl, he⟩
      · have HSN2 : Hid (dL K (L.take (k + 1)) = dL K (L.take k) ++ [(X, (t : Int))]) := Lib.hid (by rw [HSN.out, he]; rfl)
        clear he
        by_cases h60 : t ≤ 60
        · go_wp2_with fail
          refine (HDAY.out _).mono ?_; rintro e w1 ⟨rfl, hb1⟩
          have HB1 := Lib.hid hb1
          have hown : ((w1.alloc (Obj.cells #[.int .i64 X, .int .i64 (t : Int)] 68)).alloc (Obj.cells #[.int .i64 X, .int .i64 (t : Int)] 68)).ownsRow w.heap.size 68 2 u6 (dL K (L.take k)).length (flat (dL K (L.take k))) := ((hrl.out.below hb1).1.alloc _).alloc _
          have hnews : ∀ j u, ([Value.int .i64 X, .int .i64 (t : Int)] : List Value)[j]? = some u → ((w1.alloc (Obj.cells #[.int .i64 X, .int .i64 (t : Int)] 68)).alloc (Obj.cells #[.int .i64 X, .int .i64 (t : Int)] 68)).cell? ((⟨w1.heap.size + 1, 0, none⟩ : Addr).add j) = some u := by
            intro j u hu
            rw [add_none]
            rcases j with _ | _ | j
            · simp at hu; subst hu; simp
            · simp at hu; subst hu; simp
            · simp at hu
          have hbs : (dL K (L.take k)).length ≤ 8 := Nat.le_trans (dL_len _ _) (by rw [List.length_take]; omega)
          have HOW := Lib.hid hown
          have HNE := Lib.hid hnews
          have H1 : Hid (∀ u ∈ ([Value.int .i64 X, .int .i64 (t : Int)] : List Value), u.oneCell' = true) := Lib.hid (by intro u hu; simp at hu; rcases hu with rfl | rfl <;> simp [Value.oneCell'])
          have H3 : Hid ((dL K (L.take k)).length + 1 ≤ maxLen) := Lib.hid (by unfold maxLen; omega)
          have H4 : Hid (((dL K (L.take k)).length + 1) * 16 ≤ 140737488355328) := Lib.hid (by omega)
          have H5 : Hid (w.heap.size ≤ ((w1.alloc (Obj.cells #[.int .i64 X, .int .i64 (t : Int)] 68)).alloc (Obj.cells #[.int .i64 X, .int .i64 (t : Int)] 68)).heap.size) := Lib.hid (by have := hrl.out.2.1.size; have := hb1.size; simp; omega)
          have ht60 : (t : Int) ≤ 60 := by omega
          clear hown hnews hb1 hbs
          go_wp2_with (at_builtin; refine wpList_append_own _ rfl _ _ 62 rfl w.heap.size 68 i0 (.agg #[.int .i64 0, .int .i64 0]) 2 16 Try.underlying62 hi hz0 hz1 hz2 rfl (by decide) _ (dL K (L.take k)).length (flat (dL K (L.take k))) rfl HOW.out ⟨w1.heap.size + 1, 0, none⟩ 1 1 [.int .i64 X, .int .i64 (t : Int)] rfl rfl HNE.out H1.out H3.out H4.out H5.out ?_; intro v' w2 hown' hgrow _)
          have HN : Hid (SysRel w (dL K (L.take (k + 1))) v' w2) := Lib.hid (by
            rw [HSN2.out]
            exact hrl.out.next (bt HB1.out (((Below.refl _ _).alloc (Nat.le_refl _) _).alloc (by simp) _)) ⟨by omega, by omega⟩ hown' hgrow)
          clear hown' hgrow
          go_wp2_with fail
          go_roundw
          case rel => exact ⟨k + 1, by omega, HN, by go_num⟩
          case measure => simp [intOf]; omega
        · have HNO : Hid (dOk K L = false) := Lib.hid (dOk_no (fun hh => by
            have := hh.1 (X, (t : Int)) (dL_take (k := k + 1) (by rw [HSN2.out]; simp))
            simp at this; omega))
          have ht60 : (60 : Int) < (t : Int) := by omega
          clear h60
          go_wp2_with fail
          refine (HDAY.out _).mono ?_; rintro e w1 ⟨rfl, hb1⟩
          have HB1 := Lib.hid (bt hrl.out.2.1 hb1)
          clear hb1
          go_wp2_with fail
          go_ret2
          exact ⟨none, 0, 0, by rw [HNO.out]; rfl, (fun e => by rw [HNO.out] at e; cases e), HB1.out.alloc HB1.out.size _⟩
      · have HSN2 : Hid (dL K (L.take (k + 1)) = dL K (L.take k)) := Lib.hid (by rw [HSN.out, he]; simp)
        clear he
        go_wp2_with fail
        refine (HDAY.out _).mono ?_; rintro e w1 ⟨rfl, hb1⟩
        have HN : Hid (SysRel w (dL K (L.take (k + 1))) u6 (w1.alloc (Obj.cells #[.int .i64 X, .int .i64 (t : Int)] 68))) := Lib.hid (by
          rw [HSN2.out]
          exact (hrl.out.below hb1).below ((Below.refl _ _).alloc (Nat.le_refl _) _))
        clear hb1
        go_wp2_with fail
        go_roundw
        case rel => exact ⟨k + 1, by omega, HN, by go_num⟩
        case measure => simp [intOf]; omega
    · have hkl : k = l := by omega
      subst hkl
      have hT : L.take k = L := List.take_of_length_le (by rw [← HL.out]; omega)
      rw [hT] at hrl
      obtain ⟨A', c', rfl, hrow, hA'⟩ := hrl.out.form
      have HRW := Lib.hid hrow
      have HA' := Lib.hid hA'
      have hD8 : (dL K L).length ≤ 8 := Nat.le_trans (dL_len _ _) (by rw [← HL.out]; omega)
      have HVV : Hid (dOk K L = decide (wh (dL K L) 1 ≤ 10080)) := Lib.hid (by
        by_cases hwl : wh (dL K L) 1 ≤ 10080
        · rw [dOk_mk ⟨fun q hq => (hrl.out.2.2 q hq).2, hwl⟩, decide_eq_true hwl]
        · rw [dOk_no (fun hs => hwl hs.2), decide_eq_false hwl])
      clear hT hrow hA'
      go_wp2_with fail
      refine (whole_any A' _ c' (dL K L) wr HRW.out hrl.out.2.2 (by omega)).mono ?_; rintro e w1 ⟨rfl, hb1⟩
      go_wp2_with fail
      go_ret2
      refine ⟨A', _, c', ?_, fun _ => ⟨(HRW.out.below hb1).more hb1.size, HA'.out⟩, bt hrl.out.2.1 hb1⟩
      rw [HVV.out]
      show Ending.returned (.tuple #[.slice A' _ c', .bool (decide (((wh (dL K L) 1 : Nat) : Int) ≤ 10080))]) = _
      have e2 : decide (((wh (dL K L) 1 : Nat) : Int) ≤ 10080) = decide (wh (dL K L) 1 ≤ 10080) := by rw [Bool.eq_iff_iff, decide_eq_true_iff, decide_eq_true_iff]; omega
      rw [e2]
end Go.Proofs.Ytmmgidhaakkaoaa
