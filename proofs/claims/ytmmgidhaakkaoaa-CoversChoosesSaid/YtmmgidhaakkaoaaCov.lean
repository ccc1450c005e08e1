/- CoversOrder: the walk. -/
import Derived.Test.YtmmgidhaakkaoaaSr9
import Derived.Test.YtmmgidhaakkaoaaCoD
import Derived.Test.YtmmgidhaakkaoaaIcl
import Derived.Deep.RegionLaw
import Derived.Deep.DeepCutAuto
import Derived.Laws.OwnMore
namespace Go.Proofs.Ytmmgidhaakkaoaa
open Go Go.RowKit GhC

/-- append to a row of the call's own of what another such row holds, in a region that draws -/
theorem step_append_src {P : Program} {w : World} {ops : Array Oper} {o : Oper} {a : Act} {K : Act → World → Prop} {Q : Exit → Act → World → Prop} {E : Prop} (hgd : o.guard = none) (s x : Operand) (t : TypeId)
    (ho : o.op = .call { callee := .builtin .append, args := #[s, x], argTypes := #[t, t] })
    (base : Nat) (e : TypeId) (i : TypeInfo) (z : Value) (size bytes : Nat) (ht : P.underlying t = some (.slice e)) (hi : P.info? e = some i) (hz : i.zero = some z)
    (hsize : i.size = size) (hby : i.bytes = bytes) (hzs : z.cells.size = size) (hsz : 0 < size)
    (v : Value) (n : Nat) (xs : List Value) (hs : a.eval s = v) (hown : w.ownsRow base e size v n xs)
    (vx : Value) (m : Nat) (news : List Value) (hx : a.eval x = vx) (base2 : Nat) (hsrc : w.ownsRow base2 e size vx m news) (h1 : ∀ u ∈ news, u.oneCell' = true)
    (h63 : n + m ≤ maxLen) (hbytes : (n + m) * bytes ≤ 140737488355328) (hbase : base ≤ w.heap.size)
    (h : ∀ v' w', w'.ownsRow base e size v' (n + m) (xs ++ news) → w.grownBy w' v.ownBlock → K (a.put o.dst v') w') :
    if Region.wanted o (yielded ops a.tmps) = true then Oper.wp P o a w K Q else E := by
  have hw : Region.wanted o (yielded ops a.tmps) = true := by simp [Region.wanted, hgd]
  rw [if_pos hw]
  rcases hsrc.2 with ⟨rfl, rfl⟩ | ⟨g, cap, cur, rfl, _⟩
  · have hn : news = [] := List.eq_nil_of_length_eq_zero (by have := hsrc.1; simpa using this)
    subst hn
    have hrun := run_append_owned_none (P := P) (w := w) base t o.type e i size ht hi v n xs hown
    unfold Oper.wp
    simp [execOp, ho, resolve, invoke, builtin, hs, hx, hrun, Result.andThen]
    exact h v w (by simpa using hown) (World.grownBy.refl w _)
  · exact wp_append_own w s x t ho base e i z size bytes ht hi hz hsize hby hzs hsz v n xs hs hown ⟨g, 0, none⟩ m cap news hx hsrc.1 (hsrc.cells rfl) h1 h63 hbytes hbase (fun v' w' h2 h3 _ => h v' w' h2 h3)
theorem irow_drop {w : World} {B b off n i : Nat} {L : List Int} (h : IRow w B (some ⟨b, off, none⟩) n L) (hi : i ≤ n) : IRow w B (some ⟨b, off + i, none⟩) (n - i) (L.drop i) := by
  refine ⟨by rw [List.length_drop, ← h.1], fun h0 => ?_⟩
  obtain ⟨b', off', e, hb, hc⟩ := h.2 (by omega)
  injection e with e
  injection e with e1 e2
  subst e1 e2
  refine ⟨b, off + i, rfl, hb, fun k x hx => ?_⟩
  rw [List.getElem?_drop] at hx
  have := hc (i + k) x hx
  rw [Nat.add_assoc]
  exact this

theorem md_take (L : List Int) : (mdB L = true → L.take 12 = L ∧ L.length ≤ 7 ∧ 1 ≤ L.length) ∧ (mdB L = false → mdB (L.take 12) = false) := by
  refine ⟨fun h => ?_, fun h => ?_⟩
  · obtain ⟨h1, h2, _, _⟩ := mdB_yes h
    exact ⟨List.take_of_length_le (by omega), h2, h1⟩
  · by_cases h12 : L.length ≤ 12
    · rw [List.take_of_length_le h12]; exact h
    · exact md_long (by rw [List.length_take]; omega)

set_option maxRecDepth 100000 in
set_option maxHeartbeats 2000000 in
theorem order_no (A : Option Addr) (l c : Nat) (L : List Int) (b : Int) (w : World) (h : IRow w w.heap.size A l L) (hlc : l ≤ c) (hc : c ≤ maxLen) (hA : A = none → l = 0 ∧ c = 0) (hmd : mdB L = false) :
    Calls Try.prog 12 #[.slice A l c, .int .i64 b] w fun e w' => e = .returned (.bool true) ∧ Below w.heap.size w w' := by
  have HLI : Hid (∀ w', Below w.heap.size w w' → Calls Try.prog 34 #[.slice A l c] w' (GivesI w' (L.take 12))) := Lib.hid (fun w' hb => list_any A l c L w' (h.next hb) hlc hc hA)
  have hmt := (md_take L).2 hmd
  have HLT : Hid ((L.take 12).length ≤ 12) := Lib.hid (by rw [List.length_take]; omega)
  have HCH : Hid (∀ w' A1 n1 c1, IRow w' w'.heap.size A1 n1 (L.take 12) → n1 ≤ c1 → c1 ≤ 9223372036854775807 → Calls Try.prog 40 #[.slice A1 n1 c1] w' (GivesPE w' [] 2)) := Lib.hid (fun w' A1 n1 c1 h1 h2 h3 => by
    have := Choose_any A1 n1 c1 (L.take 12) w' h1 h2 h3
    rw [chE_bad hmt] at this
    unfold chL at this
    rw [hmt] at this
    exact this)
  have HFI : Hid (∀ w' A1 n1 c1, IRow w' w'.heap.size A1 n1 (L.take 12) → n1 ≤ c1 → c1 ≤ 9223372036854775807 → Calls Try.prog 41 #[.slice A1 n1 c1] w' (GivesPE w' [] 2)) := Lib.hid (fun w' A1 n1 c1 h1 h2 h3 => by
    have := Fit_any A1 n1 c1 (L.take 12) w' h1 h2 h3
    rw [chE_bad hmt] at this
    unfold chL at this
    rw [hmt] at this
    exact this)
  have HAW := Lib.hid (fun w' => awake_any w')
  have HCAP : Hid (∀ w' base A n c D, Own w' base A n c D → n ≤ c ∧ c ≤ 9223372036854775807) := Lib.hid (fun w' base A n c D ho => by
    rcases ho.2 with ⟨h0, h1⟩ | ⟨g, cap, cur, hv, hg, hh, h1, h2, _⟩
    · injection h0 with _ h2 h3; omega
    · injection hv with _ _ h3; subst h3; unfold maxLen at h2; exact ⟨h1, h2⟩)
  clear h hmd hmt
  go_enter Try.func12, Try.ntmps12
  go_wp2_with fail
  refine (HLI.out _ (Below.refl _ _)).mono ?_; rintro e w1 ⟨A1, n1, c1, rfl, ho1, _, hb1⟩
  have HB1 := Lib.hid hb1
  have HC1 := Lib.hid (HCH.out w1 A1 n1 c1 (IRow.of_own ho1) (HCAP.out _ _ _ _ _ _ ho1).1 (HCAP.out _ _ _ _ _ _ ho1).2)
  clear ho1 hb1
  go_wp2_with fail
  refine HC1.out.mono ?_; rintro e w2 ⟨A2, n2, c2, rfl, _, _, hb2⟩
  have HB2 := Lib.hid (ibt HB1.out hb2)
  clear hb2
  go_wp2_with fail
  refine (HLI.out _ HB2.out).mono ?_; rintro e w3 ⟨A3, n3, c3, rfl, ho3, _, hb3⟩
  have HB3 := Lib.hid (ibt HB2.out hb3)
  have HC3 := Lib.hid (HFI.out w3 A3 n3 c3 (IRow.of_own ho3) (HCAP.out _ _ _ _ _ _ ho3).1 (HCAP.out _ _ _ _ _ _ ho3).2)
  clear ho3 hb3
  go_wp2_with fail
  refine HC3.out.mono ?_; rintro e w4 ⟨A4, n4, c4, rfl, _, _, hb4⟩
  have HB4 := Lib.hid (ibt HB3.out hb4)
  clear hb4
  go_wp2_with fail
  refine (HAW.out _).mono ?_; rintro e w5 ⟨rfl, hb5⟩
  have HB5 := Lib.hid (ibt HB4.out hb5)
  clear hb5
  go_wp2_with fail
  go_ret
  exact ⟨rfl, HB5.out⟩

set_option maxRecDepth 100000 in
set_option maxHeartbeats 4000000 in
theorem order_yes (b0 off l c : Nat) (L : List Int) (b : Int) (w : World) (h : IRow w w.heap.size (some ⟨b0, off, none⟩) l L) (hlc : l ≤ c) (hc : c ≤ maxLen) (hmd : mdB L = true) :
    Calls Try.prog 12 #[.slice (some ⟨b0, off, none⟩) l c, .int .i64 b] w fun e w' => e = .returned (.bool true) ∧ Below w.heap.size w w' := by
  obtain ⟨ht, h7, h1⟩ := (md_take L).1 hmd
  have hl := h.1
  have HR := Lib.hid h
  have HLI : Hid (∀ w', Below w.heap.size w w' → Calls Try.prog 34 #[.slice (some ⟨b0, off, none⟩) l c] w' (GivesI w' L)) := Lib.hid (fun w' hb => by
    have := list_any (some ⟨b0, off, none⟩) l c L w' (h.next hb) hlc hc (fun e => by cases e)
    rwa [ht] at this)
  obtain ⟨D, hD⟩ : ∃ D, chL false L = D := ⟨_, rfl⟩
  obtain ⟨E, hE⟩ : ∃ E, chE false L = E := ⟨_, rfl⟩
  obtain ⟨D2, hD2⟩ : ∃ D2, chL true L = D2 := ⟨_, rfl⟩
  obtain ⟨E2, hE2⟩ : ∃ E2, chE true L = E2 := ⟨_, rfl⟩
  have HCH : Hid (∀ w' A1 n1 c1, IRow w' w'.heap.size A1 n1 L → n1 ≤ c1 → c1 ≤ 9223372036854775807 → Calls Try.prog 40 #[.slice A1 n1 c1] w' (GivesPE w' D E)) := Lib.hid (fun w' A1 n1 c1 h1 h2 h3 => by rw [← hD, ← hE]; exact Choose_any A1 n1 c1 L w' h1 h2 h3)
  have HFI : Hid (∀ w' A1 n1 c1, IRow w' w'.heap.size A1 n1 L → n1 ≤ c1 → c1 ≤ 9223372036854775807 → Calls Try.prog 41 #[.slice A1 n1 c1] w' (GivesPE w' D2 E2)) := Lib.hid (fun w' A1 n1 c1 h1 h2 h3 => by rw [← hD2, ← hE2]; exact Fit_any A1 n1 c1 L w' h1 h2 h3)
  have HCT : Hid (∀ i w' A1 n1 c1, IRow w' w'.heap.size A1 n1 (trn L i) → n1 ≤ c1 → c1 ≤ 9223372036854775807 → Calls Try.prog 40 #[.slice A1 n1 c1] w' fun e w'' => ∃ X, GivesPE w' X E e w'') := Lib.hid (fun i w' A1 n1 c1 h1 h2 h3 => by
    have := Choose_any A1 n1 c1 (trn L i) w' h1 h2 h3
    rw [trn_chE hmd, hE] at this
    exact this.mono (fun e w' h => ⟨_, h⟩))
  have HFT : Hid (∀ i w' A1 n1 c1, IRow w' w'.heap.size A1 n1 (trn L i) → n1 ≤ c1 → c1 ≤ 9223372036854775807 → Calls Try.prog 41 #[.slice A1 n1 c1] w' fun e w'' => ∃ X, GivesPE w' X E2 e w'') := Lib.hid (fun i w' A1 n1 c1 h1 h2 h3 => by
    have := Fit_any A1 n1 c1 (trn L i) w' h1 h2 h3
    rw [trn_chE hmd, hE2] at this
    exact this.mono (fun e w' h => ⟨_, h⟩))
  have HMO : Hid (∀ w', Below w.heap.size w w' → Calls Try.prog 42 #[.slice (some ⟨b0, off, none⟩) l c] w' fun e w'' => e = .returned (.bool true) ∧ Below w'.heap.size w' w'') := Lib.hid (fun w' hb => by
    have := rmoduli_any (some ⟨b0, off, none⟩) l c L w' (h.next hb) (by omega)
    rwa [hmd] at this)
  have hbnd : ∀ {X : List (Int × Int)}, validL X = true → ∀ p ∈ X, -9223372036854775808 ≤ p.1 ∧ p.1 ≤ 9223372036854775807 ∧ -9223372036854775808 ≤ p.2 ∧ p.2 ≤ 9223372036854775807 := fun hv p hp => by
    obtain ⟨k1, k2, k3, k4⟩ := (validL_yes hv).2.2.1 p hp
    omega
  have HLE : Hid (E = 0 → D.length = l ∧ ∀ w' A1 n1 c1, Row w' w'.heap.size A1 n1 D → Calls Try.prog 15 #[.slice A1 n1 c1] w' fun e w'' => e = .returned (.tuple #[.int .i64 (fstV false D), .int .i64 4]) ∧ Below w'.heap.size w' w'') := Lib.hid (fun he => by
    obtain ⟨k1, k2, k3⟩ := found_sys (ex := false) hmd (by rw [hE]; exact he)
    rw [hD] at k1 k2 k3
    refine ⟨by rw [k1, hl], fun w' A1 n1 c1 hr => ?_⟩
    have := left_yes A1 n1 c1 D w' hr (hbnd k2) (by have := hr.1; omega) k2
    rwa [k3] at this)
  have HTW : Hid (E2 = 0 → D2.length = l ∧ ∀ w' A1 n1 c1, Row w' w'.heap.size A1 n1 D2 → Calls Try.prog 17 #[.slice A1 n1 c1] w' fun e w'' => e = .returned (.tuple #[.int .i64 (fstV true D2), .int .i64 4]) ∧ Below w'.heap.size w' w'') := Lib.hid (fun he => by
    obtain ⟨k1, k2, k3⟩ := found_sys (ex := true) hmd (by rw [hE2]; exact he)
    rw [hD2] at k1 k2 k3
    refine ⟨by rw [k1, hl], fun w' A1 n1 c1 hr => ?_⟩
    have := twice_yes A1 n1 c1 D2 w' hr (hbnd k2) (by have := hr.1; omega) k2
    rwa [k3] at this)
  have hbv : ∃ i : Nat, i < l ∧ wrap64 ((IntKind.u64.wrap b).tmod (l : Int)) = (i : Int) := by
    have k0 : 0 ≤ IntKind.u64.wrap b := by rw [IntKind.wrap_u64]; omega
    rw [Int.tmod_eq_emod_of_nonneg k0]
    have k1 := Int.emod_nonneg (IntKind.u64.wrap b) (show (l : Int) ≠ 0 by omega)
    have k2 := Int.emod_lt_of_pos (IntKind.u64.wrap b) (show (0 : Int) < (l : Int) by omega)
    refine ⟨(IntKind.u64.wrap b % (l : Int)).toNat, by omega, ?_⟩
    rw [w64 _ (by omega) (by omega), Int.toNat_of_nonneg k1]
  obtain ⟨i, hil, hbv⟩ := hbv
  have HBV := Lib.hid hbv
  have HLD : Hid (∀ w', Below w.heap.size w w' → Calls Try.prog 34 #[.slice (some ⟨b0, off + i, none⟩) (l - i) (c - i)] w' (GivesI w' (L.drop i))) := Lib.hid (fun w' hb => by
    have := list_any (some ⟨b0, off + i, none⟩) (l - i) (c - i) (L.drop i) w' (irow_drop (h.next hb) (by omega)) (by omega) (by omega) (fun e => by cases e)
    rwa [List.take_of_length_le (by rw [List.length_drop]; omega)] at this)
  have HLK : Hid (∀ w', Below w.heap.size w w' → Calls Try.prog 34 #[.slice (some ⟨b0, off, none⟩) i c] w' (GivesI w' (L.take i))) := Lib.hid (fun w' hb => by
    have := list_any (some ⟨b0, off, none⟩) i c (L.take i) w' ((h.next hb).take (by omega)) (by omega) hc (fun e => by cases e)
    rwa [List.take_of_length_le (by rw [List.length_take]; omega)] at this)
  have HLN : Hid ((L.drop i).length = l - i ∧ (L.take i).length = i) := Lib.hid ⟨by rw [List.length_drop, hl], by rw [List.length_take]; omega⟩
  have HTR : Hid (ints (L.drop i) ++ ints (L.take i) = ints (trn L i)) := Lib.hid (by unfold trn; rw [ints_app])
  have hEc := chE_cases hmd false
  have hEc2 := chE_cases hmd true
  rw [hE] at hEc
  rw [hE2] at hEc2
  have HAW := Lib.hid (fun w' => awake_any w')
  have HCAP : Hid (∀ w' base A n c D, Own w' base A n c D → n ≤ c ∧ c ≤ 9223372036854775807) := Lib.hid (fun w' base A n c D ho => by
    rcases ho.2 with ⟨h0, h1⟩ | ⟨g, cap, cur, hv, hg, hh, h1, h2, _⟩
    · injection h0 with _ h2 h3; omega
    · injection hv with _ _ h3; subst h3; unfold maxLen at h2; exact ⟨h1, h2⟩)
  have hl1 : 1 ≤ l := by omega
  have hl7 : l ≤ 7 := by omega
  have tE : (E == 2) = false := by rcases hEc with e | e <;> rw [e] <;> rfl
  have HL := Lib.hid hl
  have hci : (l : Int) ≤ (c : Int) := by omega
  have hcm : c ≤ 9223372036854775807 := by unfold maxLen at hc; exact hc
  clear h hmd ht h7 h1 hl hD hE hD2 hE2 hbnd hbv
  obtain ⟨i0, hi', hz0, hz1, hz2⟩ := info_parts infoI
  go_enter Try.func12, Try.ntmps12
  go_wp2_with fail
  refine (HLI.out _ (Below.refl _ _)).mono ?_; rintro e w1 ⟨A1, n1, c1, rfl, ho1, _, hb1⟩
  have HB1 := Lib.hid hb1
  have HC1 := Lib.hid (HCH.out w1 A1 n1 c1 (IRow.of_own ho1) (HCAP.out _ _ _ _ _ _ ho1).1 (HCAP.out _ _ _ _ _ _ ho1).2)
  clear ho1 hb1
  go_wp2_with fail
  refine HC1.out.mono ?_; rintro e w2 ⟨A2, n2, c2, rfl, hr2, hn2, hb2⟩
  have HB2 := Lib.hid (ibt HB1.out hb2)
  have HR2 := Lib.hid hr2
  clear hb2 hr2
  go_wp2_with fail
  refine (HLI.out _ HB2.out).mono ?_; rintro e w3 ⟨A3, n3, c3, rfl, ho3, _, hb3⟩
  have HB23 := Lib.hid hb3
  have HB3 := Lib.hid (ibt HB2.out hb3)
  have HC3 := Lib.hid (HFI.out w3 A3 n3 c3 (IRow.of_own ho3) (HCAP.out _ _ _ _ _ _ ho3).1 (HCAP.out _ _ _ _ _ _ ho3).2)
  clear ho3 hb3
  go_wp2_with fail
  refine HC3.out.mono ?_; rintro e w4 ⟨A4, n4, c4, rfl, hr4, hn4, hb4⟩
  have HB24 := Lib.hid (ibt HB23.out hb4)
  have HB4 := Lib.hid (ibt HB3.out hb4)
  have HR4 := Lib.hid hr4
  clear hb4 hr4
  go_wp2_with fail
  refine (HMO.out _ HB4.out).mono ?_; rintro e w5 ⟨rfl, hb5⟩
  have HB25 := Lib.hid (ibt HB24.out hb5)
  have HB45 := Lib.hid hb5
  have HB5 := Lib.hid (ibt HB4.out hb5)
  clear hb5
  go_upto_region 6 with fail
  rw [HBV.out]
  have hii : (i : Int) ≤ (l : Int) := by omega
  have hcne : ¬ c = i := by omega
  have hic : (i : Int) ≤ (c : Int) := by omega
  have hicn : i ≤ c := by omega
  have hi0 : (0 : Int) ≤ (i : Int) := by omega
  have H1 := Lib.hid (ints_one (L.take i))
  go_cut [9] (fun v9 wx => ∃ A9 c9, v9 = .slice A9 l c9 ∧ Hid (Own wx w.heap.size A9 l c9 (trn L i)) ∧ Hid (Below w5.heap.size w5 wx))
  case first => as_aux_lemma =>
    go_region_law
      (first
      | (refine step_append_src (by rfl) _ _ _ (by rfl) w.heap.size 3 i0 _ 1 8 Try.underlying42 hi' hz0 hz1 hz2 rfl (by omega) (.slice A8 n8 c8) n8 (ints (L.drop i)) (by rfl) HO8.out (.slice A9 n9 c9) n9 (ints (L.take i)) (by rfl) w.heap.size HO9.out H1.out H3.out H4.out HSZ.out ?_; intro v' w8 hown' hgrow; have HO10 := Lib.hid hown'; have HG10 := Lib.hid hgrow; clear hown' hgrow)
      | (go_simp; go_at_call 34; (fail_if_success (have := hmark)); refine (HLD.out _ (HB5.out.drew)).mono ?_; rintro e wa ⟨A8, n8, c8, rfl, ho8, _, hb8⟩; have hmark := Lib.hid ho8.len; have HBA := Lib.hid (ibt (Below.refl w5.heap.size w5).drew hb8); have HO8a := Lib.hid (Own.low ho8 HB5.out.size); have HO8w : Hid (Own wa w5.heap.size A8 n8 c8 (L.drop i)) := Lib.hid ho8; clear hb8 ho8)
      | (go_simp; go_at_call 34; refine (HLK.out _ (ibt HB5.out HBA.out)).mono ?_; rintro e wb ⟨A9, n9, c9, rfl, ho9, _, hb9⟩; have hmark2 := Lib.hid ho9.len; have HBB := Lib.hid (ibt HBA.out hb9); have HO8 := Lib.hid (iown_bel HO8a.out hb9); have HO8v := Lib.hid (iown_bel HO8w.out hb9); have HSZ : Hid (w.heap.size ≤ wb.heap.size) := Lib.hid (Nat.le_trans HB5.out.size HBB.out.size); have HO9 := Lib.hid (Own.low ho9 (Nat.le_trans HB5.out.size HBA.out.size)); have h77 : n8 + n9 ≤ 14 := (by have := HLN.out; have := hmark.out; have := hmark2.out; omega); have H3 : Hid (n8 + n9 ≤ maxLen) := Lib.hid (by unfold maxLen; omega); have H4 : Hid ((n8 + n9) * 8 ≤ 140737488355328) := Lib.hid (by omega); clear hb9 ho9))
    all_goals
      go_wp2_with fail
      go_meet
      have e12 : n8 + n9 = l := by have := HLN.out; have := hmark.out; have := hmark2.out; omega
      have h12 := HO10.out
      rw [e12, HTR.out] at h12
      have h13 := iown_below HO8v.out HG10.out HBB.out (Nat.le_refl _) HBB.out.size
      obtain ⟨A', c', rfl, _⟩ := iown_sl h12
      exact ⟨A', c', rfl, Lib.hid h12, Lib.hid h13⟩
  case rest =>
  obtain ⟨A9, c9, rfl, ho9, hb9⟩ := hcut
  have HB9 := Lib.hid (ibt HB5.out hb9.out)
  have HR29 := Lib.hid ((HR2.out.below (ibt HB25.out hb9.out)).more (ibt HB25.out hb9.out).size)
  have HR49 := Lib.hid ((HR4.out.below (ibt HB45.out hb9.out)).more (ibt HB45.out hb9.out).size)
  have HI9 := Lib.hid (IRow.of_own ho9.out)
  have hc9 := HCAP.out _ _ _ _ _ _ ho9.out
  have HCL := Lib.hid (clone_ints A9 l c9 (trn L i) wc HI9.out (by omega) (by
    obtain ⟨A', c', hv, hA'⟩ := iown_sl ho9.out
    injection hv with e1 e2 e3
    subst e1; exact hA'))
  obtain ⟨hc91, hc92⟩ := hc9
  clear ho9 hb9
  go_wp2_with fail
  refine HCL.out.mono ?_; rintro e w6 ⟨A6, n6, c6, rfl, ho6, _, hb6⟩
  have HB96 := Lib.hid hb6
  have HC6 := Lib.hid (HCT.out i w6 A6 n6 c6 (IRow.of_own ho6) (HCAP.out _ _ _ _ _ _ ho6).1 (HCAP.out _ _ _ _ _ _ ho6).2)
  clear ho6 hb6
  go_wp2_with fail
  refine HC6.out.mono ?_; rintro e w7 ⟨X, A7, n7, c7, rfl, _, _, hb7⟩
  have HB97 := Lib.hid (ibt HB96.out hb7)
  have HC7 := Lib.hid (HFT.out i w7 A9 l c9 (HI9.out.next HB97.out) hc91 hc92)
  clear hb7
  go_wp2_with fail
  refine HC7.out.mono ?_; rintro e w8 ⟨X2, A8, n8, c8, rfl, _, _, hb8⟩
  have HB98 := Lib.hid (ibt HB97.out hb8)
  have HB8 := Lib.hid (ibt HB9.out HB98.out)
  have HR28 := Lib.hid ((HR29.out.below HB98.out).more HB98.out.size)
  have HR48 := Lib.hid ((HR49.out.below HB98.out).more HB98.out.size)
  clear hb8
  rcases hEc with rfl | rfl
  · obtain ⟨hDl, hleft⟩ := HLE.out (by first | rfl | trivial)
    have HLF := Lib.hid (hleft w8 A2 n2 c2 HR28.out)
    obtain rfl : n2 = l := HR28.out.1.trans hDl
    have tll : ((n2 : Int) != (n2 : Int)) = false := by simp
    clear hDl hleft
    rcases hEc2 with rfl | rfl
    · go_wp2_with fail
      refine HLF.out.mono ?_; rintro e w10 ⟨rfl, hb10⟩
      have HB10 := Lib.hid hb10
      clear hb10
      obtain ⟨hDl2, htw⟩ := HTW.out (by first | rfl | trivial)
      have HTF := Lib.hid (htw w10 A4 n4 c4 ((HR48.out.below HB10.out).more HB10.out.size))
      obtain rfl : n4 = n2 := HR48.out.1.trans hDl2
      clear hDl2 htw
      go_wp2_with fail
      refine HTF.out.mono ?_; rintro e w11 ⟨rfl, hb11⟩
      have HB11 := Lib.hid (ibt (ibt HB8.out HB10.out) hb11)
      clear hb11
      go_wp2_with fail
      refine (HAW.out _).mono ?_; rintro e w12 ⟨rfl, hb12⟩
      have HB12 := Lib.hid (ibt HB11.out hb12)
      clear hb12
      go_wp2_with fail
      go_ret
      exact ⟨rfl, HB12.out⟩
    · go_wp2_with fail
      refine HLF.out.mono ?_; rintro e w10 ⟨rfl, hb10⟩
      have HB10 := Lib.hid (ibt HB8.out hb10)
      clear hb10
      go_wp2_with fail
      refine (HAW.out _).mono ?_; rintro e w12 ⟨rfl, hb12⟩
      have HB12 := Lib.hid (ibt HB10.out hb12)
      clear hb12
      go_wp2_with fail
      go_ret
      exact ⟨rfl, HB12.out⟩
  · rcases hEc2 with rfl | rfl
    · obtain ⟨hDl2, htw⟩ := HTW.out (by first | rfl | trivial)
      have HTF := Lib.hid (htw w8 A4 n4 c4 HR48.out)
      obtain rfl : n4 = l := HR48.out.1.trans hDl2
      have tll : ((n4 : Int) != (n4 : Int)) = false := by simp
      clear hDl2 htw
      go_wp2_with fail
      refine HTF.out.mono ?_; rintro e w11 ⟨rfl, hb11⟩
      have HB11 := Lib.hid (ibt HB8.out hb11)
      clear hb11
      go_wp2_with fail
      refine (HAW.out _).mono ?_; rintro e w12 ⟨rfl, hb12⟩
      have HB12 := Lib.hid (ibt HB11.out hb12)
      clear hb12
      go_wp2_with fail
      go_ret
      exact ⟨rfl, HB12.out⟩
    · go_wp2_with fail
      refine (HAW.out _).mono ?_; rintro e w12 ⟨rfl, hb12⟩
      have HB12 := Lib.hid (ibt HB8.out hb12)
      clear hb12
      go_wp2_with fail
      go_ret
      exact ⟨rfl, HB12.out⟩

theorem order_walk2 (A : Option Addr) (l c : Nat) (b : Int) (L : List Int) (w : World) (h : IRow w w.heap.size A l L) (_hw : ∀ x ∈ L, -9223372036854775808 ≤ x ∧ x ≤ 9223372036854775807) (hlc : l ≤ c) (hc : c ≤ maxLen) (hA : A = none → l = 0 ∧ c = 0) (_lo : -9223372036854775808 ≤ b) (_hi : b ≤ 9223372036854775807) :
    Calls Try.prog 12 #[.slice A l c, .int .i64 b] w fun e w' => e = .returned (.bool true) ∧ Below w.heap.size w w' := by
  cases hmd : mdB L with
  | false => exact order_no A l c L b w h hlc hc hA hmd
  | true =>
    have h1 := (mdB_yes hmd).1
    obtain ⟨b0, off, rfl, _⟩ := h.2 (by have := h.1; omega)
    exact order_yes b0 off l c L b w h hlc hc hmd
end Go.Proofs.Ytmmgidhaakkaoaa
