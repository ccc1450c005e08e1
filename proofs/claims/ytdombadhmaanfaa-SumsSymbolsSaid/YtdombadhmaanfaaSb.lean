/- SumsSymbols: conversions of chains, their equality, what they show. -/
import Derived.Test.YtdombadhmaanfaaLj
namespace Go.Proofs.Ytdombadhmaanfaa
open Go Go.RowKit GhN

/-- a result that is a slice of the reference's steps, the call's own -/
def OwnsR (w : World) (L : List (Int × Int × Int × Int)) (e : Ending) (w' : World) : Prop :=
  ∃ A n c, e = .returned (.slice A n c) ∧ w'.ownsRow w.heap.size 42 4 (.slice A n c) n (L.flatMap encS) ∧ Below w.heap.size w w'

theorem pre_in {L : List (Int × Int × Int × Int)} {k : Nat} {x : Int × Int × Int × Int} (h : L[k]? = some x) (hk : k < 120) : (L.take (k + 1)).take 120 = (L.take k).take 120 ++ [x] := by
  have h1 : (L.take k).length ≤ k := List.length_take_le _ _
  rw [take_at' h, List.take_of_length_le (by rw [List.length_append]; simp only [List.length_cons, List.length_nil]; omega), List.take_of_length_le (show (L.take k).length ≤ 120 by omega)]
theorem pre_out {L : List (Int × Int × Int × Int)} {k : Nat} (hk : 120 ≤ k) : (L.take (k + 1)).take 120 = (L.take k).take 120 := by
  rw [List.take_take, List.take_take]; congr 1; omega

set_option maxRecDepth 100000 in
set_option maxHeartbeats 1000000 in
theorem steps_any (A : Option Addr) (l c : Nat) (L : List (Int × Int × Int × Int)) (w : World) (h : SRw w w.heap.size A l L) (hl : l ≤ 9223372036854775807) :
    Calls Try.prog 26 #[.slice A l c] w (GivesSteps w (L.take 120)) := by
  have HR := Lib.hid h
  have HL := Lib.hid h.1
  clear h
  obtain ⟨i0, hi, hz0, hz1, hz2⟩ := info_parts infoS
  go_enter Try.func26, Try.ntmps26
  go_wp2_with fail
  go_loopw [3, 8] (fun v x wr => ∃ k m : Nat, k ≤ l ∧ x = .int .i64 (k : Int) ∧ m ≤ 120 ∧ (k < 120 → m = k) ∧ Hid (wr.ownsRow w.heap.size 48 4 v m (((L.take k).take 120).flatMap encS)) ∧ Below w.heap.size w wr) (fun _ x _ => l - (intOf x).toNat)
  case atStart => exact ⟨0, 0, by omega, rfl, by omega, fun _ => rfl, Lib.hid (World.ownsRow_nil ..), Below.refl _ _⟩
  case round =>
    obtain ⟨k, m, hk, rfl, hm1, hm2, how, hb⟩ := hrel
    have HM2 := Lib.hid hm2
    clear hm2
    by_cases hlt : k < l
    · obtain ⟨b, off, x, hx, rfl, hB, g1, g2, g3, g4⟩ := (HR.out.below hb).cells4 hlt
      have hki : (k : Int) < (l : Int) := by omega
      have HWB : Hid (∀ o, Below w.heap.size w (wr.alloc o)) := Lib.hid (fun o => hb.alloc hb.size o)
      have HOA : Hid (∀ o, (wr.alloc o).ownsRow w.heap.size 48 4 u3 m (((L.take k).take 120).flatMap encS)) := Lib.hid (fun o => how.out.alloc o)
      by_cases h120 : k < 120
      · obtain rfl := HM2.out h120
        have HP := Lib.hid (pre_in hx h120)
        have h120' : (m : Int) < 120 := by omega
        have HOB : Hid (∀ o o', ((wr.alloc o).alloc o').ownsRow w.heap.size 48 4 u3 m (((L.take m).take 120).flatMap encS)) := Lib.hid (fun o o' => (HOA.out o).alloc o')
        have HNW : Hid (∀ o, ∀ j u, (encS x)[j]? = some u → ((wr.alloc o).alloc (Obj.cells #[.int .i64 x.1, .int .i64 x.2.1, .int .i64 x.2.2.1, .int .i64 x.2.2.2] 48)).cell? ((⟨wr.heap.size + 1, 0, none⟩ : Addr).add j) = some u) := Lib.hid (fun o => by
          have := newsS (w := wr.alloc o) x
          rwa [World.size_alloc] at this)
        have HON := Lib.hid (encS_one x)
        have H3 : Hid (m + 1 ≤ maxLen) := Lib.hid (by unfold maxLen; omega)
        have H4 : Hid ((m + 1) * 32 ≤ 140737488355328) := Lib.hid (by omega)
        have H5 : Hid (∀ o o', w.heap.size ≤ ((wr.alloc o).alloc o').heap.size) := Lib.hid (fun o o' => by have := (HWB.out o).size; simp at this ⊢; omega)
        clear hx
        go_wp2_with (at_builtin; refine wpList_append_own _ rfl _ _ 32 rfl w.heap.size 48 i0 (.agg #[.int .i64 0, .int .i64 0, .int .i64 0, .int .i64 0]) 4 32 Try.underlying32 hi hz0 hz1 hz2 rfl (by decide) _ m (((L.take m).take 120).flatMap encS) rfl (HOB.out _ _) ⟨wr.heap.size + 1, 0, none⟩ 1 1 (encS x) rfl rfl (HNW.out _) HON.out H3.out H4.out (H5.out _ _) ?_; intro v' w1 hown' hgrow _)
        have HN : Hid (w1.ownsRow w.heap.size 48 4 v' (m + 1) (((L.take (m + 1)).take 120).flatMap encS)) := Lib.hid (by rw [HP.out, flat_snoc]; exact hown')
        have HB1 : Hid (Below w.heap.size w w1) := Lib.hid (own_belowS (HOB.out _ _) hgrow ((HWB.out _).alloc (HWB.out _).size _) (Nat.le_refl _) (H5.out _ _))
        clear hown' hgrow
        go_wp2_with fail
        go_roundw
        case rel => exact ⟨m + 1, m + 1, by omega, by go_num, by omega, fun _ => rfl, HN, HB1.out⟩
        case measure => simp [intOf]; omega
      · have HP := Lib.hid (pre_out (L := L) (k := k) (by omega))
        have h120' : ¬ (k : Int) < 120 := by omega
        clear hx
        go_wp2_with fail
        go_roundw
        case rel => exact ⟨k + 1, m, by omega, by go_num, hm1, fun h => absurd h (by omega), by rw [HP.out]; exact Lib.hid (HOA.out _), HWB.out _⟩
        case measure => simp [intOf]; omega
    · have e : k = l := by omega
      subst e
      have HT : Hid (L.take k = L) := Lib.hid (List.take_of_length_le (by rw [← HL.out]; omega))
      obtain ⟨A2, c2, rfl, _⟩ := own_slice how.out
      rw [HT.out] at how
      go_wp2_with fail
      go_ret
      exact ⟨A2, m, c2, rfl, how.out, hb⟩

set_option maxRecDepth 100000 in
set_option maxHeartbeats 1000000 in
theorem own_any (A : Option Addr) (l c : Nat) (L : List (Int × Int × Int × Int)) (w : World) (h : SRw w w.heap.size A l L) (hl : l ≤ 1000) :
    Calls Try.prog 31 #[.slice A l c] w (OwnsR w L) := by
  have HR := Lib.hid h
  have HL := Lib.hid h.1
  clear h
  obtain ⟨i0, hi, hz0, hz1, hz2⟩ := info_parts infoR
  go_enter Try.func31, Try.ntmps31
  go_wp2_with fail
  go_loopw [3, 8] (fun v x wr => ∃ k : Nat, k ≤ l ∧ x = .int .i64 (k : Int) ∧ Hid (wr.ownsRow w.heap.size 42 4 v k ((L.take k).flatMap encS)) ∧ Below w.heap.size w wr) (fun _ x _ => l - (intOf x).toNat)
  case atStart => exact ⟨0, by omega, rfl, Lib.hid (World.ownsRow_nil ..), Below.refl _ _⟩
  case round =>
    obtain ⟨k, hk, rfl, how, hb⟩ := hrel
    by_cases hlt : k < l
    · obtain ⟨b, off, x, hx, rfl, hB, g1, g2, g3, g4⟩ := (HR.out.below hb).cells4 hlt
      have hki : (k : Int) < (l : Int) := by omega
      have HWB : Hid (∀ o, Below w.heap.size w (wr.alloc o)) := Lib.hid (fun o => hb.alloc hb.size o)
      have HP := Lib.hid (take_at' hx)
      have HOB : Hid (∀ o o', ((wr.alloc o).alloc o').ownsRow w.heap.size 42 4 u3 k ((L.take k).flatMap encS)) := Lib.hid (fun o o' => (how.out.alloc o).alloc o')
      have HNW : Hid (∀ o, ∀ j u, (encS x)[j]? = some u → ((wr.alloc o).alloc (Obj.cells #[.int .i64 x.1, .int .i64 x.2.1, .int .i64 x.2.2.1, .int .i64 x.2.2.2] 42)).cell? ((⟨wr.heap.size + 1, 0, none⟩ : Addr).add j) = some u) := Lib.hid (fun o => by
        have := newsR (w := wr.alloc o) x
        rwa [World.size_alloc] at this)
      have HON := Lib.hid (encS_one x)
      have H3 : Hid (k + 1 ≤ maxLen) := Lib.hid (by unfold maxLen; omega)
      have H4 : Hid ((k + 1) * 32 ≤ 140737488355328) := Lib.hid (by omega)
      have H5 : Hid (∀ o o', w.heap.size ≤ ((wr.alloc o).alloc o').heap.size) := Lib.hid (fun o o' => by have := (HWB.out o).size; simp at this ⊢; omega)
      clear hx
      go_wp2_with (at_builtin; refine wpList_append_own _ rfl _ _ 31 rfl w.heap.size 42 i0 (.agg #[.int .i64 0, .int .i64 0, .int .i64 0, .int .i64 0]) 4 32 Try.underlying31 hi hz0 hz1 hz2 rfl (by decide) _ k ((L.take k).flatMap encS) rfl (HOB.out _ _) ⟨wr.heap.size + 1, 0, none⟩ 1 1 (encS x) rfl rfl (HNW.out _) HON.out H3.out H4.out (H5.out _ _) ?_; intro v' w1 hown' hgrow _)
      have HN : Hid (w1.ownsRow w.heap.size 42 4 v' (k + 1) ((L.take (k + 1)).flatMap encS)) := Lib.hid (by rw [HP.out, flat_snoc]; exact hown')
      have HB1 : Hid (Below w.heap.size w w1) := Lib.hid (own_belowS (HOB.out _ _) hgrow ((HWB.out _).alloc (HWB.out _).size _) (Nat.le_refl _) (H5.out _ _))
      clear hown' hgrow
      go_wp2_with fail
      go_roundw
      case rel => exact ⟨k + 1, by omega, by go_num, HN, HB1.out⟩
      case measure => simp [intOf]; omega
    · have e : k = l := by omega
      subst e
      have HT : Hid (L.take k = L) := Lib.hid (List.take_of_length_le (by rw [← HL.out]; omega))
      obtain ⟨A2, c2, rfl, _⟩ := own_slice how.out
      rw [HT.out] at how
      go_wp2_with fail
      go_ret
      exact ⟨A2, k, c2, rfl, how.out, hb⟩

theorem eq_rstep (x y : Int × Int × Int × Int) (w : World) : (Op.equalIn 10000 42 (agS x) (agS y)).run Try.prog w = .ok (decide (x = y)) w := by
  obtain ⟨a, b, c, d⟩ := x
  obtain ⟨e, f, g, h⟩ := y
  by_cases h1 : a = e <;> by_cases h2 : b = f <;> by_cases h3 : c = g <;> by_cases h4 : d = h <;> simp [go_sem, h1, h2, h3, h4]

set_option maxHeartbeats 400000 in
theorem equal_rsteps (A B : Option Addr) (l m c d : Nat) (L M : List (Int × Int × Int × Int)) (w : World) (h : SRw w w.heap.size A l L) (g : SRw w w.heap.size B m M) (hl : l ≤ 9223372036854775807) (hm : m ≤ 1000000) :
    Calls Try.prog 30 #[.slice A l c, .slice B m d] w fun e w' => e = .returned (.bool (decide (L = M))) ∧ Below w.heap.size w w' := by
  have HR := Lib.hid h
  have HG := Lib.hid g
  have HL := Lib.hid h.1
  have HM := Lib.hid g.1
  clear h g
  by_cases hlm : l = m
  · subst hlm
    go_enter Try.func30, Try.ntmps30
    go_wp2_with fail
    go_loopw [13] (fun x wr => ∃ k : Nat, k ≤ l ∧ x = .int .i64 (k : Int) ∧ Hid (L.take k = M.take k) ∧ Below w.heap.size w wr) (fun x _ => l - (intOf x).toNat)
    case atStart => exact ⟨0, by omega, rfl, Lib.hid (by simp), Below.refl _ _⟩
    case round =>
      obtain ⟨k, hk, rfl, htk, hb⟩ := hrel
      by_cases hlt : k < l
      · obtain ⟨b, off, x, hx, rfl, hB, g1, g2, g3, g4⟩ := (HR.out.below hb).cells4 hlt
        obtain ⟨b', off', y, hy, rfl, hB', g5, g6, g7, g8⟩ := (HG.out.below hb).cells4 hlt
        have hki : (k : Int) < (l : Int) := by omega
        have heq := eq_rstep x y
        by_cases hxy : x = y
        · have HT : Hid (L.take (k + 1) = M.take (k + 1)) := Lib.hid (by rw [take_at' hx, take_at' hy, htk.out, hxy])
          have hd : decide (x = y) = true := decide_eq_true hxy
          rw [hd] at heq
          clear hx hy hxy hd
          go_wp2_with fail
          go_region
          go_wp2_with fail
          go_roundw
          case rel => exact ⟨k + 1, by omega, by go_num, HT, hb.drew⟩
          case measure => simp [intOf]; omega
        · have HD : Hid (decide (L = M) = false) := Lib.hid (decide_eq_false (fun e => by
            rw [e, hy] at hx
            injection hx with hx
            exact hxy hx.symm))
          have hd : decide (x = y) = false := decide_eq_false hxy
          rw [hd] at heq
          clear hx hy hxy hd
          go_wp2_with fail
          go_region
          go_wp2_with fail
          go_ret
          exact ⟨by rw [HD.out]; rfl, hb.drew⟩
      · have HD : Hid (decide (L = M) = true) := Lib.hid (decide_eq_true (by
          have := htk.out
          rwa [List.take_of_length_le (by rw [← HL.out]; omega), List.take_of_length_le (by rw [← HM.out]; omega)] at this))
        go_wp2_with fail
        go_ret
        exact ⟨by rw [HD.out]; rfl, hb⟩
  · have HD : Hid (decide (L = M) = false) := Lib.hid (decide_eq_false (fun e => hlm (by rw [HL.out, HM.out, e])))
    have t1 : ((l : Int) != (m : Int)) = true := by simp; omega
    clear hlm
    go_enter Try.func30, Try.ntmps30
    go_wp2_with fail
    go_ret
    exact ⟨by rw [HD.out]; rfl, Below.refl _ _⟩

/-- a chain ends where it has ended -/
theorem chain_stop (a n s : Int) (h : okc a n s) : (lastOf a n s (chain a n s)).1 = 0 ∨ (lastOf a n s (chain a n s)).2.1 = 1 := by
  obtain ⟨k, hk⟩ : ∃ k, mu a n ≤ k := ⟨_, Nat.le_refl _⟩
  induction k generalizing a n s with
  | zero =>
    have he : a = 0 ∨ n = 1 := by
      apply Classical.byContradiction; intro hc
      have := nx_mu h (s := s) (fun e => hc (.inl e)); omega
    rw [chain_end he]; exact he
  | succ k ih =>
    by_cases he : a = 0 ∨ n = 1
    · rw [chain_end he]; exact he
    · have ha : a ≠ 0 := fun e => he (.inl e)
      have hn : n ≠ 1 := fun e => he (.inr e)
      have hm := nx_mu h (s := s) ha
      rw [chain_next h ha hn, lastOf_cons]
      exact ih _ _ _ (nx_ok h ha hn) (by omega)

set_option maxRecDepth 100000 in
set_option maxHeartbeats 1000000 in
theorem shown_any (a n : Int) (A : Option Addr) (l c : Nat) (w : World) (hv : validB a n = true) (h : SRw w w.heap.size A l (chain a n 1)) (hl : l ≤ 1000) :
    Calls Try.prog 32 #[.int .i64 a, .int .i64 n, .slice A l c] w fun e w' => e = .returned (.int .i64 (sv a n 1)) ∧ Below w.heap.size w w' := by
  have HI := Lib.hid (validB_inr hv)
  have HS := Lib.hid (chain_shows a n 1 HI.out.1)
  have HZ := Lib.hid (chain_stop a n 1 HI.out.1)
  obtain ⟨L, hL⟩ : ∃ L, chain a n 1 = L := ⟨_, rfl⟩
  rw [hL] at h HS HZ
  have HR := Lib.hid h
  have HL := Lib.hid h.1
  clear h hv hL
  go_enter Try.func32, Try.ntmps32
  go_wp2_with fail
  go_loopw [0, 1, 7, 12] (fun x y s z wr => ∃ k : Nat, k ≤ l ∧ z = .int .i64 (k : Int) ∧ x = .int .i64 (lastOf a n 1 (L.take k)).1 ∧ y = .int .i64 (lastOf a n 1 (L.take k)).2.1 ∧ s = .int .i64 (lastOf a n 1 (L.take k)).2.2 ∧ Below w.heap.size w wr) (fun _ _ _ z _ => l - (intOf z).toNat)
  case atStart => exact ⟨0, by omega, rfl, rfl, rfl, rfl, Below.refl _ _⟩
  case round =>
    obtain ⟨k, hk, rfl, rfl, rfl, rfl, hb⟩ := hrel
    by_cases hlt : k < l
    · obtain ⟨b, off, x, hx, rfl, hB, g1, g2, g3, g4⟩ := (HR.out.below hb).cells4 hlt
      have hki : (k : Int) < (l : Int) := by omega
      have HP : Hid (lastOf a n 1 (L.take (k + 1)) = x.2) := Lib.hid (by rw [take_at' hx, lastOf_snoc])
      clear hx
      go_wp2_with fail
      go_quiet (fail)
      go_wp2_with fail
      go_roundw
      case rel => exact ⟨k + 1, by omega, by go_num, by rw [HP.out], by rw [HP.out], by rw [HP.out], bdN (hb.alloc hb.size _) _⟩
      case measure => simp [intOf]; omega
    · have e : k = l := by omega
      subst e
      have HT : Hid (L.take k = L) := Lib.hid (List.take_of_length_le (by rw [← HL.out]; omega))
      rw [HT.out]
      obtain ⟨z, hz⟩ : ∃ z, lastOf a n 1 L = z := ⟨_, rfl⟩
      rw [hz] at HS HZ ⊢
      clear hz
      obtain ⟨z1, z2, z3⟩ := z
      by_cases h1 : 1 < z2
      · have hz0 : z1 = 0 := by rcases HZ.out with h | h
                                · exact h
                                · simp only at h; omega
        have HE : Hid ((0 : Int) = sv a n 1) := Lib.hid (by have e := HS.out; simpa only [h1, if_true] using e)
        have t1 : (z1 == 0) = true := by simpa using hz0
        clear hz0
        simp only
        go_wp2_with fail
        go_ret
        exact ⟨by rw [← HE.out]; rfl, hb⟩
      · have HE : Hid (z3 = sv a n 1) := Lib.hid (by have e := HS.out; simpa only [h1, if_false] using e)
        simp only
        by_cases h0 : z1 = 0
        · have t1 : (z1 == 0) = true := by simpa using h0
          clear h0
          go_wp2_with fail
          go_ret
          exact ⟨by rw [← HE.out]; rfl, hb⟩
        · have t1 : (z1 == 0) = false := by simpa using h0
          clear h0
          go_wp2_with fail
          go_ret
          exact ⟨by rw [← HE.out]; rfl, hb⟩
end Go.Proofs.Ytdombadhmaanfaa
