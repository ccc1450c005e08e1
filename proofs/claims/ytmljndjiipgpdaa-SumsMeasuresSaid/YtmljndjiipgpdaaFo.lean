/- Turns of an order, whole numbers of it, and what combines all turned ones: the walks of gcd, turns, whole, fold. -/
import Derived.Test.YtmljndjiipgpdaaRe1
namespace Go.Proofs.Ytmljndjiipgpdaa
open Go Go.RowKit GhP

theorem sgcd_any (a b : Nat) (w : World) (ha : a ≤ 4000000000000000000) (hb : b ≤ 4000000000000000000) :
    Calls Try.prog 59 #[.int .i64 (a : Int), .int .i64 (b : Int)] w fun e w' => e = .returned (.int .i64 ((Nat.gcd a b : Nat) : Int)) ∧ Below w.heap.size w w' := by
  go_enter Try.func59, Try.ntmps59
  go_wp2
  go_loopw [0, 1] (fun x y wr => ∃ c d : Nat, c ≤ 4000000000000000000 ∧ d ≤ 4000000000000000000 ∧ Hid (Nat.gcd c d = Nat.gcd a b) ∧ x = .int .i64 (c : Int) ∧ y = .int .i64 (d : Int) ∧ Below w.heap.size w wr) (fun _ y _ => (intOf y).toNat)
  case atStart => exact ⟨a, b, ha, hb, rfl, rfl, rfl, Below.refl _ _⟩
  case round =>
    obtain ⟨c, d, hc, hd, hg, rfl, rfl, hbl⟩ := hrel
    by_cases h0 : d = 0
    · subst h0
      have HG : Hid (c = Nat.gcd a b) := Lib.hid (by have := hg.out; rwa [Nat.gcd_zero_right] at this)
      go_wp2
      all_goals
        go_ret
        refine ⟨?_, hbl⟩
        rw [← HG.out]
        try rfl
    · have h1 : ((d : Int) == 0) = false := by simp; omega
      have h2 : (c : Int) % (d : Int) = ((c % d : Nat) : Int) := by omega
      have h3 : c % d < d := Nat.mod_lt _ (by omega)
      have H2 := Lib.hid h2
      clear h2
      go_wp2
      go_region
      go_wp2
      go_roundw
      case rel => exact ⟨d, c % d, hd, by omega, Lib.hid (by rw [← hg.out, Nat.gcd_comm d, ← Nat.gcd_rec, Nat.gcd_comm]), rfl, by rw [H2.out], hbl.drew⟩
      case measure => have := H2.out; simp [intOf]; omega


def unitK (n k : Nat) : List Nat := (List.range' 1 k).filter fun i => Nat.gcd i n == 1
theorem unitK_succ (n k : Nat) : unitK n (k + 1) = unitK n k ++ if Nat.gcd (k + 1) n = 1 then [k + 1] else [] := by
  unfold unitK
  rw [List.range'_concat, List.filter_append]
  by_cases h : Nat.gcd (k + 1) n = 1
  · rw [if_pos h]; simp [Nat.add_comm 1 k, h]
  · rw [if_neg h]; simp [Nat.add_comm 1 k, h]
def natsI (L : List Nat) : List Int := L.map fun (k : Nat) => (k : Int)
theorem natsI_len (L : List Nat) : (natsI L).length = L.length := List.length_map _
theorem natsI_app (L M : List Nat) : natsI (L ++ M) = natsI L ++ natsI M := List.map_append ..
theorem unitK_len (n k : Nat) : (unitK n k).length ≤ k := by
  unfold unitK
  have := List.length_filter_le (fun i => Nat.gcd i n == 1) (List.range' 1 k)
  simpa using this

set_option maxRecDepth 100000 in
set_option maxHeartbeats 1000000 in
theorem turns_any (n : Nat) (R : Option Addr) (m d : Nat) (w : World) (hn : n ≤ 100) :
    Calls Try.prog 47 #[rgV n R m d] w (GivesI w (natsI (units n))) := by
  obtain ⟨i0, hi, hz0, hz1, hz2⟩ := info_parts infoI
  obtain ⟨w0, hw0⟩ : ∃ w0, rgBox w n R m d = w0 := ⟨_, rfl⟩
  have hb0 : Below w.heap.size w w0 := by rw [← hw0]; exact (Below.refl _ _).alloc (Nat.le_refl _) _
  have hs0 : w0.heap.size = w.heap.size + 1 := by rw [← hw0]; simp
  have HRB : Hid (∀ w', Below w0.heap.size w0 w' → w'.cell? ⟨w.heap.size, 0, none⟩ = some (.int .i64 (n : Int))) := Lib.hid (fun w' hb => by
    rw [hs0, ← hw0] at hb; exact (rg_cells hb).1)
  have HB0 := Lib.hid hb0
  clear hs0 hb0
  go_enter Try.func47, Try.ntmps47
  go_wp2_with fail
  try rw [hw0]
  go_loopw [3, 4] (fun v x wr => ∃ k m : Nat, k ≤ n ∧ x = .int .i64 ((k : Int) + 1) ∧ m ≤ k ∧ Hid (wr.ownsRow w0.heap.size 3 1 v m (ints (natsI (unitK n k)))) ∧ Below w0.heap.size w0 wr) (fun _ x _ => n + 1 - (intOf x).toNat)
  case atStart => exact ⟨0, 0, by omega, rfl, by omega, Lib.hid (World.ownsRow_nil ..), Below.refl _ _⟩
  case round =>
    obtain ⟨k, m, hk, rfl, hm, how, hb⟩ := hrel
    have g1 := HRB.out wr hb
    obtain ⟨K, hK⟩ : ∃ K, k + 1 = K := ⟨_, rfl⟩
    have hKc : (k : Int) + 1 = (K : Int) := by omega
    rw [hKc]
    have HK := Lib.hid hK
    have hK1 : 1 ≤ K := by omega
    clear hKc
    by_cases hlt : k < n
    · have hKn : K ≤ n := by omega
      have HS := Lib.hid (unitK_succ n k)
      obtain ⟨g, hg⟩ : ∃ g, Nat.gcd K n = g := ⟨_, rfl⟩
      have HG := Lib.hid hg
      have HB := Lib.hid hb
      clear hb hK
      by_cases h1 : g = 1
      · have t1 : ((g : Int) == 1) = true := by simp [h1]
        have HS2 : Hid (natsI (unitK n K) = natsI (unitK n k) ++ [(K : Int)]) := Lib.hid (by
          rw [← HK.out, HS.out, if_pos (by rw [HK.out, hg, h1]), natsI_app]; rfl)
        clear hg h1
        go_wp2_with fail
        refine (sgcd_any K n wr (by omega) (by omega)).mono ?_; rw [HG.out]; rintro e w3 ⟨rfl, hb3⟩
        have HOW3 : Hid (w3.ownsRow w0.heap.size 3 1 u3 m (ints (natsI (unitK n k)))) := Lib.hid (iown_bel how.out hb3)
        have HBW3 := Lib.hid (ibt HB.out hb3)
        have HOWA : Hid ((w3.alloc (Obj.cells #[.int .i64 (K : Int)] 3)).ownsRow w0.heap.size 3 1 u3 m (ints (natsI (unitK n k)))) := Lib.hid (HOW3.out.alloc _)
        have HNE : Hid (∀ j u, ([Value.int .i64 (K : Int)] : List Value)[j]? = some u → (w3.alloc (Obj.cells #[.int .i64 (K : Int)] 3)).cell? ((⟨w3.heap.size, 0, none⟩ : Addr).add j) = some u) := Lib.hid (by
          intro j u hu
          rw [iadd]
          rcases j with _ | j
          · simp at hu; subst hu; simp
          · simp at hu)
        have H1 : Hid (∀ u ∈ ([Value.int .i64 (K : Int)] : List Value), u.oneCell' = true) := Lib.hid (by intro u hu; simp at hu; subst hu; simp [Value.oneCell'])
        have H3 : Hid (m + 1 ≤ maxLen) := Lib.hid (by unfold maxLen; omega)
        have H4 : Hid ((m + 1) * 8 ≤ 140737488355328) := Lib.hid (by omega)
        have H5 : Hid (w0.heap.size ≤ (w3.alloc (Obj.cells #[.int .i64 (K : Int)] 3)).heap.size) := Lib.hid (by have := HBW3.out.size; simp; omega)
        clear hb3
        go_wp2_with (at_builtin; refine wpList_append_own _ rfl _ _ 22 rfl w0.heap.size 3 i0 (.int .i64 0) 1 8 Try.underlying22 hi hz0 hz1 hz2 rfl (by decide) _ m (ints (natsI (unitK n k))) rfl HOWA.out ⟨w3.heap.size, 0, none⟩ 1 1 [.int .i64 (K : Int)] rfl rfl HNE.out H1.out H3.out H4.out H5.out ?_; intro v' w4 hown' hgrow _)
        have HN4 : Hid (w4.ownsRow w0.heap.size 3 1 v' (m + 1) (ints (natsI (unitK n K)))) := Lib.hid (by rw [HS2.out, ints_app]; exact hown')
        have HB4 : Hid (Below w0.heap.size w0 w4) := Lib.hid (iown_below HOWA.out hgrow (HBW3.out.alloc HBW3.out.size _) (Nat.le_refl _) H5.out)
        clear hown' hgrow
        go_wp2_with fail
        go_roundw
        case rel => exact ⟨K, m + 1, by omega, rfl, by have := HK.out; omega, HN4, HB4.out⟩
        case measure => have := HK.out; simp [intOf]; omega
      · have t1 : ((g : Int) == 1) = false := by simp; omega
        have HS2 : Hid (unitK n K = unitK n k) := Lib.hid (by
          rw [← HK.out, HS.out, if_neg (by rw [HK.out, hg]; exact h1), List.append_nil])
        clear hg h1
        go_wp2_with fail
        refine (sgcd_any K n wr (by omega) (by omega)).mono ?_; rw [HG.out]; rintro e w3 ⟨rfl, hb3⟩
        have HOW3 : Hid (w3.ownsRow w0.heap.size 3 1 u3 m (ints (natsI (unitK n K)))) := Lib.hid (by rw [HS2.out]; exact iown_bel how.out hb3)
        have HBW3 := Lib.hid (ibt HB.out hb3)
        clear hb3
        go_wp2_with fail
        go_roundw
        case rel => exact ⟨K, m, by omega, rfl, by have := HK.out; omega, HOW3, HBW3.out⟩
        case measure => have := HK.out; simp [intOf]; omega
    · have e : k = n := by omega
      subst e
      have HKn : ¬ (K : Int) ≤ (k : Int) := by omega
      obtain ⟨A2, c2, rfl, hA2⟩ := iown_sl how.out
      go_wp2_with fail
      go_ret
      exact ⟨A2, m, c2, rfl, Own.low how.out HB0.out.size, hA2, ibt HB0.out hb⟩

theorem unit_mem {n t : Nat} (h : t ∈ units n) : 1 ≤ t ∧ t ≤ n := by
  unfold units at h
  have := (List.mem_filter.1 h).1
  rw [List.mem_range'] at this
  obtain ⟨i, h1, h2⟩ := this
  omega

set_option maxRecDepth 100000 in
set_option maxHeartbeats 1000000 in
theorem whole_any (n : Nat) (R : Option Addr) (m d : Nat) (x : Int) (w : World) (hm : 2 ≤ m) (hm2 : m ≤ 100) :
    Calls Try.prog 42 #[rgV n R m d, .int .i64 x] w (GivesI w ((List.replicate (m - 1) 0).set 0 x)) := by
  obtain ⟨w0, hw0⟩ : ∃ w0, rgBox w n R m d = w0 := ⟨_, rfl⟩
  have hb0 : Below w.heap.size w w0 := by rw [← hw0]; exact (Below.refl _ _).alloc (Nat.le_refl _) _
  have HB0 := Lib.hid hb0
  obtain ⟨M, hM⟩ : ∃ M : Nat, (m : Int) - 1 = (M : Int) := ⟨m - 1, by omega⟩
  have HM : Hid (m - 1 = M) := Lib.hid (by omega)
  have hM1 : 1 ≤ M := by omega
  have hmk := run_make_row' (P := Try.prog) 22 3 (.int .i64 0) 8 Try.underlying22 infoI rfl .i64 .i64 M (by omega) (by omega)
  have x0 : w0.cell? ⟨w.heap.size, 0, none⟩ = some (.int .i64 (n : Int)) ∧ w0.cell? ⟨w.heap.size, 1, none⟩ = some (.slice R m d) := by
    rw [← hw0]; exact ⟨by simp, by simp⟩
  obtain ⟨x1, x2⟩ := x0
  clear hb0
  go_enter Try.func42, Try.ntmps42
  go_wp2_with fail
  try rw [hw0]
  refine (degree_any n R m d w0 (by omega) (by omega)).mono ?_; rw [hM]; rintro e w1 ⟨rfl, hb1⟩
  have HB1 := Lib.hid (ibt HB0.out hb1)
  obtain ⟨w2, hw2⟩ : ∃ w2, w1.alloc (Obj.cells (madeCells #[Value.int .i64 0] M) 3) = w2 := ⟨_, rfl⟩
  have how2 : Own w2 w.heap.size (some ⟨w1.heap.size, 0, none⟩) M M (List.replicate M 0) := by
    rw [← hw2]; exact own_made HB1.out.size (by unfold maxLen; omega)
  have HB2 : Hid (Below w.heap.size w w2) := Lib.hid (by rw [← hw2]; exact HB1.out.alloc HB1.out.size _)
  obtain ⟨G, hG⟩ : ∃ G, w1.heap.size = G := ⟨_, rfl⟩
  rw [hG] at how2
  obtain ⟨p1, p2, p3, p4⟩ := how2.cell (k := 0) (x := 0) (show (List.replicate M (0 : Int))[0]? = some 0 by rw [List.getElem?_replicate, if_pos (by omega)])
  have HOE : Hid (Own (w2.setCell ⟨G, 0, none⟩ (.int .i64 x)) w.heap.size (some ⟨G, 0, none⟩) M M ((List.replicate (m - 1) 0).set 0 x)) := Lib.hid (by rw [HM.out]; exact how2.store 0 x)
  have HBE : Hid (Below w.heap.size w (w2.setCell ⟨G, 0, none⟩ (.int .i64 x))) := Lib.hid (HB2.out.setCell (p := ⟨G, 0, none⟩) p4 _)
  clear hb1 how2
  go_wp2_with fail
  try rw [hw2]
  try rw [hG]
  go_wp2_with fail
  go_ret
  exact ⟨_, _, _, rfl, HOE.out, (fun e => by cases e), HBE.out⟩

theorem rev_ind {α : Type} {p : List α → Prop} (h0 : p []) (h1 : ∀ l t, p l → p (l ++ [t])) (l : List α) : p l := by
  obtain ⟨k, hk⟩ : ∃ k, l.length = k := ⟨_, rfl⟩
  induction k generalizing l with
  | zero => rw [List.length_eq_zero_iff.1 hk]; exact h0
  | succ k ih =>
    have hne : l ≠ [] := by intro e; rw [e] at hk; simp at hk
    rw [← List.dropLast_concat_getLast hne]
    exact h1 _ _ (ih _ (by rw [List.length_dropLast]; omega))

set_option maxRecDepth 100000 in
set_option maxHeartbeats 1000000 in
theorem fold_times (n : Nat) (A B R : Option Addr) (m d ca cb : Nat) (F v : List Int) (w : World) (h1 : 1 ≤ n) (h2 : n ≤ 15) (g : IRow w w.heap.size R m (wl (cyc n))) (h : IRow w w.heap.size A (phi n) (wl F)) (k : IRow w w.heap.size B (phi n) (wl v)) :
    Calls Try.prog 41 #[rgV n R m d, .slice A (phi n) ca, .slice B (phi n) cb, .func (.func 43) #[rgV n R m d] #[]] w fun e w' => e = .returned (.int .i64 (wrap64 ((normL n (units n) v F).getD 0 0))) ∧ Below w.heap.size w w' := by
  have HPH := Lib.hid (ord_len h1 (by omega))
  have HO := Lib.hid (ord_of h1 (show n < 16 by omega))
  have HPL : Hid (phi n ≤ n) := Lib.hid (phiK_le n n)
  have hm : m = phi n + 1 := by have := g.1; rw [wl_len, HPH.out.2.1] at this; exact this
  have hFl : F.length = phi n := by have := h.1; rw [wl_len] at this; omega
  have hvl : v.length = phi n := by have := k.1; rw [wl_len] at this; omega
  have HVL := Lib.hid hvl
  have HUM : Hid (∀ t ∈ units n, 1 ≤ t ∧ t ≤ n) := Lib.hid (fun t ht => unit_mem ht)
  have HUL : Hid ((units n).length ≤ n) := Lib.hid (unitK_len n n)
  have HLEN : Hid (∀ l, (normL n l v F).length = phi n) := Lib.hid (fun l => by
    refine rev_ind (p := fun l => (normL n l v F).length = phi n) hvl (fun l t ih => ?_) l
    rw [normL, List.foldl_append, List.foldl_cons, List.foldl_nil, times_len]
    have := HPH.out.2.1
    omega)
  obtain ⟨P, hP⟩ : ∃ P, phi n = P := ⟨_, rfl⟩
  have HP := Lib.hid hP
  have hP1 : 1 ≤ P := by have := HPH.out.2.2.1; omega
  have hPn : P ≤ n := by have := HPL.out; omega
  have hmP : m = P + 1 := by omega
  have HMP := Lib.hid hmP
  have hm2 : 2 ≤ m := by omega
  have hm2P : m ≤ P + P := by omega
  have hmn : m ≤ n + 1 := by omega
  obtain ⟨w0, hw0⟩ : ∃ w0, rgBox w n R m d = w0 := ⟨_, rfl⟩
  have hb0 : Below w.heap.size w w0 := by rw [← hw0]; exact (Below.refl _ _).alloc (Nat.le_refl _) _
  have hs0 : w0.heap.size = w.heap.size + 1 := by rw [← hw0]; simp
  have HRB : Hid (∀ w', Below w0.heap.size w0 w' → w'.cell? ⟨w.heap.size, 0, none⟩ = some (.int .i64 (n : Int)) ∧ w'.cell? ⟨w.heap.size, 1, none⟩ = some (.slice R m d)) := Lib.hid (fun w' hb => by
    rw [hs0, ← hw0] at hb; exact rg_cells hb)
  have HB0 := Lib.hid hb0
  have HG := Lib.hid (g.next hb0)
  have HA := Lib.hid (h.next hb0)
  have HBg := Lib.hid (k.next hb0)
  obtain ⟨x1, x2⟩ := HRB.out w0 (Below.refl _ _)
  rw [hP] at HA HBg HLEN ⊢
  clear hm hFl hvl hP hmP g h k hs0 hb0
  go_enter Try.func41, Try.ntmps41
  go_wp2_with fail
  try rw [hw0]
  refine (turns_any n R m d w0 (by omega)).mono ?_; rintro e w1 ⟨T, nT, cT, rfl, howT, hT, hb1⟩
  have HT1 : Hid (IRow w1 w1.heap.size T nT (natsI (units n))) := Lib.hid (IRow.of_own howT)
  have HTL : Hid (nT = (units n).length) := Lib.hid (by have := howT.len; rw [natsI_len] at this; exact this)
  have hnT : nT ≤ 15 := by have h3 := HTL.out; have h4 := HUL.out; omega
  have HB1 := Lib.hid hb1
  have HBg1 := Lib.hid (HBg.out.next hb1)
  clear howT hT hb1 x1 x2
  go_wp2_with fail
  go_loopw [2, 14] (fun bv x wr => ∃ (j : Nat) (Bj : Option Addr) (cj : Nat), j ≤ nT ∧ x = .int .i64 (j : Int) ∧ bv = .slice Bj P cj ∧ Hid (IRow wr wr.heap.size Bj P (wl (normL n ((units n).take j) v F))) ∧ Below w1.heap.size w1 wr) (fun _ x _ => nT - (intOf x).toNat)
  case atStart => exact ⟨0, B, cb, by omega, rfl, rfl, HBg1, Below.refl _ _⟩
  case round =>
    obtain ⟨j, Bj, cj, hj, rfl, rfl, hI, hb⟩ := hrel
    obtain ⟨wo, hwo⟩ : ∃ wo : World, wo = wr := ⟨_, rfl⟩
    subst hwo
    by_cases hlt : j < nT
    · obtain ⟨b, off, t0, ht, rfl, hB, g1⟩ := (HT1.out.below hb).at_ hlt
      obtain ⟨t, htt, hti⟩ : ∃ t, (units n)[j]? = some t ∧ t0 = (t : Int) := by
        unfold natsI at ht
        rw [List.getElem?_map] at ht
        cases hx : (units n)[j]? with
        | none => rw [hx] at ht; cases ht
        | some t => rw [hx] at ht; injection ht with ht; exact ⟨t, rfl, ht.symm⟩
      subst hti
      obtain ⟨ht1, ht2⟩ := HUM.out t (List.mem_of_getElem? htt)
      have HSTEP : Hid (normL n ((units n).take (j + 1)) v F = timesZ (cyc n) (normL n ((units n).take j) v F) (turnZ (cyc n) n t F)) := Lib.hid (by
        obtain ⟨hk, e⟩ := List.getElem?_eq_some_iff.1 htt
        rw [List.take_succ_eq_append_getElem hk, e]
        simp only [normL, List.foldl_append, List.foldl_cons, List.foldl_nil])
      have HTD : Hid ((turnZ (cyc n) n t F).length = P) := Lib.hid (by rw [turn_len, HPH.out.2.1, HP.out]; omega)
      obtain ⟨x1, x2⟩ := HRB.out wo (ibt HB1.out hb)
      have HGo := Lib.hid ((HG.out.next HB1.out).next hb)
      have HAo := Lib.hid ((HA.out.next HB1.out).next hb)
      have HBo := Lib.hid hb
      clear ht htt hb
      go_wp2_with fail
      refine (turn_any (cyc n) n t A R m d P ca F wo HGo.out HAo.out hm2 hP1 hmn (by omega) (by omega) (by omega)).mono ?_; rintro e w3 ⟨A3, n3, c3, rfl, how3, hA3, hb3⟩
      obtain rfl : n3 = P := by have := how3.len; rw [wl_len, HTD.out] at this; exact this
      have HI3 : Hid (IRow w3 w3.heap.size A3 n3 (wl (turnZ (cyc n) n t F))) := Lib.hid (IRow.of_own how3)
      have HIB3 := Lib.hid (hI.out.next hb3)
      have HG3 := Lib.hid (HGo.out.next hb3)
      have HB3 := Lib.hid (ibt HBo.out hb3)
      clear how3 hA3 hb3
      go_wp2_with fail
      refine (times_any HO.out.split n Bj A3 R m d n3 n3 cj c3 (normL n ((units n).take j) v F) (turnZ (cyc n) n t F) w3 HG3.out HIB3.out HI3.out hm2 hP1 hP1 (by omega) (by omega) (by omega)).mono ?_; rintro e w4 ⟨A4, n4, c4, rfl, how4, hA4, hb4⟩
      obtain rfl : n4 = n3 := by have := how4.len; rw [wl_len, ← HSTEP.out, HLEN.out] at this; exact this
      have HI4 : Hid (IRow w4 w4.heap.size A4 n4 (wl (normL n ((units n).take (j + 1)) v F))) := Lib.hid (by rw [HSTEP.out]; exact IRow.of_own how4)
      have HB4 := Lib.hid (ibt HB3.out hb4)
      clear how4 hA4 hb4
      go_wp2_with fail
      go_roundw
      case rel => exact ⟨j + 1, A4, c4, by omega, by go_num, rfl, HI4, HB4.out⟩
      case measure => simp [intOf]; omega
    · have e : j = nT := by omega
      subst e
      have HE : Hid ((units n).take j = units n) := Lib.hid (List.take_of_length_le (by rw [← HTL.out]; omega))
      rw [HE.out] at hI
      obtain ⟨b, off, x, hx, rfl, hB, g1⟩ := hI.out.at_ (k := 0) (by omega)
      rw [Nat.add_zero] at g1
      obtain ⟨X, hX, hxX⟩ := wl_cell hx
      have HX : Hid (x = wrap64 ((normL n (units n) v F).getD 0 0)) := Lib.hid (by rw [hxX, List.getD_eq_getElem?_getD, hX]; rfl)
      have HBE := Lib.hid (ibt HB0.out (ibt HB1.out hb))
      clear hx hX hxX hb
      go_wp2_with fail
      go_ret
      exact ⟨by rw [← HX.out]; rfl, HBE.out⟩

set_option maxRecDepth 100000 in
set_option maxHeartbeats 1000000 in
theorem fold_plus (n : Nat) (A B R : Option Addr) (m d ca cb : Nat) (F v : List Int) (w : World) (h1 : 1 ≤ n) (h2 : n ≤ 15) (g : IRow w w.heap.size R m (wl (cyc n))) (h : IRow w w.heap.size A (phi n) (wl F)) (k : IRow w w.heap.size B (phi n) (wl v)) :
    Calls Try.prog 41 #[rgV n R m d, .slice A (phi n) ca, .slice B (phi n) cb, .func (.func 44) #[rgV n R m d] #[]] w fun e w' => e = .returned (.int .i64 (wrap64 ((traceL n (units n) v F).getD 0 0))) ∧ Below w.heap.size w w' := by
  have HPH := Lib.hid (ord_len h1 (by omega))
  have HO := Lib.hid (ord_of h1 (show n < 16 by omega))
  have HPL : Hid (phi n ≤ n) := Lib.hid (phiK_le n n)
  have hm : m = phi n + 1 := by have := g.1; rw [wl_len, HPH.out.2.1] at this; exact this
  have hFl : F.length = phi n := by have := h.1; rw [wl_len] at this; omega
  have hvl : v.length = phi n := by have := k.1; rw [wl_len] at this; omega
  have HVL := Lib.hid hvl
  have HUM : Hid (∀ t ∈ units n, 1 ≤ t ∧ t ≤ n) := Lib.hid (fun t ht => unit_mem ht)
  have HUL : Hid ((units n).length ≤ n) := Lib.hid (unitK_len n n)
  have HLEN : Hid (∀ l, (traceL n l v F).length = phi n) := Lib.hid (fun l => by
    refine rev_ind (p := fun l => (traceL n l v F).length = phi n) hvl (fun l t ih => ?_) l
    have h6 := HPH.out.2.1
    have h7 : (turnZ (cyc n) n t F).length = phi n := by rw [turn_len]; omega
    unfold traceL at ih ⊢
    rw [List.foldl_append, List.foldl_cons, List.foldl_nil, addZ_len (by rw [ih, h7]), h7])
  obtain ⟨P, hP⟩ : ∃ P, phi n = P := ⟨_, rfl⟩
  have HP := Lib.hid hP
  have hP1 : 1 ≤ P := by have := HPH.out.2.2.1; omega
  have hPn : P ≤ n := by have := HPL.out; omega
  have hmP : m = P + 1 := by omega
  have HMP := Lib.hid hmP
  have hm2 : 2 ≤ m := by omega
  have hm2P : m ≤ P + P := by omega
  have hmn : m ≤ n + 1 := by omega
  obtain ⟨w0, hw0⟩ : ∃ w0, rgBox w n R m d = w0 := ⟨_, rfl⟩
  have hb0 : Below w.heap.size w w0 := by rw [← hw0]; exact (Below.refl _ _).alloc (Nat.le_refl _) _
  have hs0 : w0.heap.size = w.heap.size + 1 := by rw [← hw0]; simp
  have HRB : Hid (∀ w', Below w0.heap.size w0 w' → w'.cell? ⟨w.heap.size, 0, none⟩ = some (.int .i64 (n : Int)) ∧ w'.cell? ⟨w.heap.size, 1, none⟩ = some (.slice R m d)) := Lib.hid (fun w' hb => by
    rw [hs0, ← hw0] at hb; exact rg_cells hb)
  have HB0 := Lib.hid hb0
  have HG := Lib.hid (g.next hb0)
  have HA := Lib.hid (h.next hb0)
  have HBg := Lib.hid (k.next hb0)
  obtain ⟨x1, x2⟩ := HRB.out w0 (Below.refl _ _)
  rw [hP] at HA HBg HLEN ⊢
  clear hm hFl hvl hP hmP g h k hs0 hb0
  go_enter Try.func41, Try.ntmps41
  go_wp2_with fail
  try rw [hw0]
  refine (turns_any n R m d w0 (by omega)).mono ?_; rintro e w1 ⟨T, nT, cT, rfl, howT, hT, hb1⟩
  have HT1 : Hid (IRow w1 w1.heap.size T nT (natsI (units n))) := Lib.hid (IRow.of_own howT)
  have HTL : Hid (nT = (units n).length) := Lib.hid (by have := howT.len; rw [natsI_len] at this; exact this)
  have hnT : nT ≤ 15 := by have h3 := HTL.out; have h4 := HUL.out; omega
  have HB1 := Lib.hid hb1
  have HBg1 := Lib.hid (HBg.out.next hb1)
  clear howT hT hb1 x1 x2
  go_wp2_with fail
  go_loopw [2, 14] (fun bv x wr => ∃ (j : Nat) (Bj : Option Addr) (cj : Nat), j ≤ nT ∧ x = .int .i64 (j : Int) ∧ bv = .slice Bj P cj ∧ Hid (IRow wr wr.heap.size Bj P (wl (traceL n ((units n).take j) v F))) ∧ Below w1.heap.size w1 wr) (fun _ x _ => nT - (intOf x).toNat)
  case atStart => exact ⟨0, B, cb, by omega, rfl, rfl, HBg1, Below.refl _ _⟩
  case round =>
    obtain ⟨j, Bj, cj, hj, rfl, rfl, hI, hb⟩ := hrel
    obtain ⟨wo, hwo⟩ : ∃ wo : World, wo = wr := ⟨_, rfl⟩
    subst hwo
    by_cases hlt : j < nT
    · obtain ⟨b, off, t0, ht, rfl, hB, g1⟩ := (HT1.out.below hb).at_ hlt
      obtain ⟨t, htt, hti⟩ : ∃ t, (units n)[j]? = some t ∧ t0 = (t : Int) := by
        unfold natsI at ht
        rw [List.getElem?_map] at ht
        cases hx : (units n)[j]? with
        | none => rw [hx] at ht; cases ht
        | some t => rw [hx] at ht; injection ht with ht; exact ⟨t, rfl, ht.symm⟩
      subst hti
      obtain ⟨ht1, ht2⟩ := HUM.out t (List.mem_of_getElem? htt)
      have HSTEP : Hid (traceL n ((units n).take (j + 1)) v F = addZ (traceL n ((units n).take j) v F) (turnZ (cyc n) n t F)) := Lib.hid (by
        obtain ⟨hk, e⟩ := List.getElem?_eq_some_iff.1 htt
        rw [List.take_succ_eq_append_getElem hk, e]
        simp only [traceL, List.foldl_append, List.foldl_cons, List.foldl_nil])
      have HTD : Hid ((turnZ (cyc n) n t F).length = P) := Lib.hid (by rw [turn_len, HPH.out.2.1, HP.out]; omega)
      obtain ⟨x1, x2⟩ := HRB.out wo (ibt HB1.out hb)
      have HGo := Lib.hid ((HG.out.next HB1.out).next hb)
      have HAo := Lib.hid ((HA.out.next HB1.out).next hb)
      have HBo := Lib.hid hb
      clear ht htt hb
      go_wp2_with fail
      refine (turn_any (cyc n) n t A R m d P ca F wo HGo.out HAo.out hm2 hP1 hmn (by omega) (by omega) (by omega)).mono ?_; rintro e w3 ⟨A3, n3, c3, rfl, how3, hA3, hb3⟩
      obtain rfl : n3 = P := by have := how3.len; rw [wl_len, HTD.out] at this; exact this
      have HI3 : Hid (IRow w3 w3.heap.size A3 n3 (wl (turnZ (cyc n) n t F))) := Lib.hid (IRow.of_own how3)
      have HIB3 := Lib.hid (hI.out.next hb3)
      have HG3 := Lib.hid (HGo.out.next hb3)
      have HB3 := Lib.hid (ibt HBo.out hb3)
      clear how3 hA3 hb3
      go_wp2_with fail
      refine (plus_any n Bj A3 R m d n3 cj c3 (traceL n ((units n).take j) v F) (turnZ (cyc n) n t F) w3 HIB3.out HI3.out hP1 (by omega)).mono ?_; rintro e w4 ⟨A4, n4, c4, rfl, how4, hA4, hb4⟩
      obtain rfl : n4 = n3 := by have := how4.len; rw [wl_len, ← HSTEP.out, HLEN.out] at this; exact this
      have HI4 : Hid (IRow w4 w4.heap.size A4 n4 (wl (traceL n ((units n).take (j + 1)) v F))) := Lib.hid (by rw [HSTEP.out]; exact IRow.of_own how4)
      have HB4 := Lib.hid (ibt HB3.out hb4)
      clear how4 hA4 hb4
      go_wp2_with fail
      go_roundw
      case rel => exact ⟨j + 1, A4, c4, by omega, by go_num, rfl, HI4, HB4.out⟩
      case measure => simp [intOf]; omega
    · have e : j = nT := by omega
      subst e
      have HE : Hid ((units n).take j = units n) := Lib.hid (List.take_of_length_le (by rw [← HTL.out]; omega))
      rw [HE.out] at hI
      obtain ⟨b, off, x, hx, rfl, hB, g1⟩ := hI.out.at_ (k := 0) (by omega)
      rw [Nat.add_zero] at g1
      obtain ⟨X, hX, hxX⟩ := wl_cell hx
      have HX : Hid (x = wrap64 ((traceL n (units n) v F).getD 0 0)) := Lib.hid (by rw [hxX, List.getD_eq_getElem?_getD, hX]; rfl)
      have HBE := Lib.hid (ibt HB0.out (ibt HB1.out hb))
      clear hx hX hxX hb
      go_wp2_with fail
      go_ret
      exact ⟨by rw [← HX.out]; rfl, HBE.out⟩
end Go.Proofs.Ytmljndjiipgpdaa
