/- The reference's chain; what it shows; conversions of chains. -/
import Derived.Test.YtdombadhmaanfaaRc
namespace Go.Proofs.Ytdombadhmaanfaa
open Go Go.RowKit GhN

theorem tmod_bd (a : Int) {n : Int} (hn : 0 < n) : -n < a.tmod n ∧ a.tmod n < n := by
  rcases Int.le_total 0 a with h | h
  · rw [Int.tmod_eq_emod_of_nonneg h]
    have := Int.emod_nonneg a (show n ≠ 0 by omega)
    have := Int.emod_lt_of_pos a hn
    omega
  · have h3 : a.tmod n = -((-a) % n) := by
      have := Int.neg_tmod (-a) n
      rw [Int.neg_neg] at this
      rw [this, Int.tmod_eq_emod_of_nonneg (by omega)]
    have := Int.emod_nonneg (-a) (show n ≠ 0 by omega)
    have := Int.emod_lt_of_pos (-a) hn
    omega

theorem newsR {w : World} (x : Int × Int × Int × Int) : ∀ j u, (encS x)[j]? = some u → (w.alloc (Obj.cells #[.int .i64 x.1, .int .i64 x.2.1, .int .i64 x.2.2.1, .int .i64 x.2.2.2] 42)).cell? ((⟨w.heap.size, 0, none⟩ : Addr).add j) = some u := by
  intro j u hu
  rw [radd]
  rcases j with _ | _ | _ | _ | j
  · simp [encS] at hu; subst hu; simp
  · simp [encS] at hu; subst hu; simp
  · simp [encS] at hu; subst hu; simp
  · simp [encS] at hu; subst hu; simp
  · simp [encS] at hu

/-- what the reference keeps while it makes a chain -/
def RcRel (w : World) (a n a' n' s' : Int) (pre : List (Int × Int × Int × Int)) (v : Value) (wr : World) : Prop :=
  pre ++ chain a' n' s' = chain a n 1 ∧ inr a' n' s' ∧ wr.ownsRow w.heap.size 42 4 v pre.length (pre.flatMap encS) ∧ Below w.heap.size w wr

theorem RcRel.next {w wr w0 w1 : World} {a n a' n' s' : Int} {pre : List (Int × Int × Int × Int)} {v v' : Value} {x : Int × Int × Int × Int} (h : RcRel w a n a' n' s' pre v wr) (ha : a' ≠ 0) (hn : n' ≠ 1) (hx : nx a' n' s' = x)
    (hb0 : Below wr.heap.size wr w0) (ho : w0.ownsRow w.heap.size 42 4 v pre.length (pre.flatMap encS)) (hown : w1.ownsRow w.heap.size 42 4 v' (pre.length + 1) (pre.flatMap encS ++ encS x)) (hg : w0.grownBy w1 v.ownBlock) : RcRel w a n x.2.1 x.2.2.1 x.2.2.2 (pre ++ [x]) v' w1 := by
  obtain ⟨h1, h2, h3, h4⟩ := h
  have hnx := chain_next h2.1 ha hn
  have hin := nx_inr h2 ha hn
  rw [hx] at hnx hin
  refine ⟨by rw [List.append_assoc, ← h1, hnx]; rfl, hin, ?_, own_belowS ho hg (bt h4 hb0) (Nat.le_refl _) (Nat.le_trans h4.size hb0.size)⟩
  rw [List.length_append, flat_snoc]
  exact hown

/-- a result that is a slice of the reference's steps -/
def GivesR (w : World) (L : List (Int × Int × Int × Int)) (e : Ending) (w' : World) : Prop :=
  ∃ A n c, e = .returned (.slice A n c) ∧ SRw w' w'.heap.size A n L ∧ Below w.heap.size w w'

set_option maxRecDepth 100000 in
set_option maxHeartbeats 4000000 in
theorem rchain_any (a n : Int) (w : World) (h : validB a n = true) :
    Calls Try.prog 28 #[.int .i64 a, .int .i64 n] w (GivesR w (chain a n 1)) := by
  have HI := Lib.hid (validB_inr h)
  have HLEN := Lib.hid (chain_len (s := 1) HI.out.1 HI.out.2.2.2)
  clear h
  obtain ⟨i0, hi, hz0, hz1, hz2⟩ := info_parts infoR
  go_enter Try.func28, Try.ntmps28
  go_wp2_with fail
  go_loopw [0, 1, 5, 6, 7] (fun x y v s _ wr => ∃ a' n' s' pre, x = .int .i64 a' ∧ y = .int .i64 n' ∧ s = .int .i64 s' ∧ Hid (RcRel w a n a' n' s' pre v wr)) (fun x y _ _ _ _ => mu (intOf x) (intOf y))
  case atStart => exact ⟨a, n, 1, [], rfl, rfl, rfl, Lib.hid ⟨rfl, HI.out, World.ownsRow_nil .., Below.refl _ _⟩⟩
  case round =>
    obtain ⟨a', n', s', pre, rfl, rfl, rfl, hrel⟩ := hrel
    have hin := hrel.out.2.1
    have HOW := Lib.hid hrel.out.2.2.1
    have HBW := Lib.hid hrel.out.2.2.2
    obtain ⟨⟨i1, i2, i3⟩, i4, i5, i6⟩ := hin
    have hpl : pre.length ≤ 119 := by
      have h1 := HLEN.out
      rw [← hrel.out.1, List.length_append] at h1
      omega
    have hs1 : -1 ≤ s' := by omega
    have hs2 : s' ≤ 1 := by omega
    by_cases hend : a' = 0 ∨ n' = 1
    · have HE : Hid (pre = chain a n 1) := Lib.hid (by have := hrel.out.1; rwa [chain_end hend, List.append_nil] at this)
      obtain ⟨A2, c2, rfl, _⟩ := own_slice HOW.out
      by_cases h0 : a' = 0
      · have t0 : (a' != 0) = false := by simp [h0]
        clear h0 hend
        go_wp2_with fail
        go_ret
        exact ⟨A2, pre.length, c2, rfl, by rw [← HE.out]; exact Rw.of_own (enc := encS) (sz := 4) (by decide) encS_len HOW.out, HBW.out⟩
      · have t0 : (a' != 0) = true := by simpa using h0
        have t1 : (n' != 1) = false := by simp; omega
        clear h0 hend
        go_wp2_with fail
        go_ret
        exact ⟨A2, pre.length, c2, rfl, by rw [← HE.out]; exact Rw.of_own (enc := encS) (sz := 4) (by decide) encS_len HOW.out, HBW.out⟩
    · have h0 : a' ≠ 0 := fun e => hend (.inl e)
      have h1 : n' ≠ 1 := fun e => hend (.inr e)
      have t0 : (a' != 0) = true := by simpa using h0
      have t1 : (n' != 1) = true := by simpa using h1
      have H0 := Lib.hid h0
      have H1 := Lib.hid h1
      have HMU := Lib.hid (nx_mu (s := s') ⟨i1, i2, i3⟩ h0)
      have H3 : Hid (pre.length + 1 ≤ maxLen) := Lib.hid (by unfold maxLen; omega)
      have H4 : Hid ((pre.length + 1) * 32 ≤ 140737488355328) := Lib.hid (by omega)
      have H5 : Hid (∀ o, w.heap.size ≤ (wr.alloc o).heap.size) := Lib.hid (fun o => by have := HBW.out.size; simp; omega)
      have HOA : Hid (∀ o, (wr.alloc o).ownsRow w.heap.size 42 4 u5 pre.length (pre.flatMap encS)) := Lib.hid (fun o => HOW.out.alloc o)
      have HNW := Lib.hid (fun (x : Int × Int × Int × Int) => newsR (w := wr) x)
      have HON := Lib.hid encS_one
      have HA : Hid (∀ o, Below wr.heap.size wr (wr.alloc o)) := Lib.hid (fun o => (Below.refl _ _).alloc (Nat.le_refl _) o)
      clear hend h0 h1
      by_cases c1 : a' < 0 ∨ n' ≤ a'
      · have HXV : Hid (nx a' n' s' = (0, a' % n', n', s')) := Lib.hid (by unfold nx; rw [if_pos c1])
        by_cases c2 : a' < 0
        · have e1 := red_eq_neg a' n' c2 i4 i1 i6
          obtain ⟨r1, r2⟩ := tmod_bd a' (show (0 : Int) < n' by omega)
          have e2 : wrap64 (a'.tmod n' + n') = a'.tmod n' + n' := by unfold wrap64; omega
          rw [e2] at e1
          have e4 : (a'.tmod n' + n') % n' = a' % n' := by rwa [Int.tmod_eq_emod_of_nonneg (by omega)] at e1
          clear c1 e2
          go_wp2_with (at_builtin; refine wpList_append_own _ rfl _ _ 31 rfl w.heap.size 42 i0 (.agg #[.int .i64 0, .int .i64 0, .int .i64 0, .int .i64 0]) 4 32 Try.underlying31 hi hz0 hz1 hz2 rfl (by decide) _ pre.length (pre.flatMap encS) rfl (HOA.out _) ⟨wr.heap.size, 0, none⟩ 1 1 (encS (0, a' % n', n', s')) rfl rfl (HNW.out (0, a' % n', n', s')) (HON.out (0, a' % n', n', s')) H3.out H4.out (H5.out _) ?_; intro v' w1 hown' hgrow _)
          have HN : Hid (RcRel w a n (a' % n') (n') (s') (pre ++ [(0, a' % n', n', s')]) v' w1) := Lib.hid (RcRel.next (x := (0, a' % n', n', s')) hrel.out H0.out H1.out HXV.out (HA.out _) (HOA.out _) hown' hgrow)
          clear hown' hgrow
          go_wp2_with fail
          go_roundw
          case rel => exact ⟨_, _, _, _, rfl, rfl, rfl, HN⟩
          case measure => have := HMU.out; rw [HXV.out] at this; exact this
        · have e4 : (a' % n' + n') % n' = a' % n' := by rw [Int.add_emod_right, Int.emod_emod]
          have e0 := Int.emod_nonneg a' (show n' ≠ 0 by omega)
          have e0' := Int.emod_lt_of_pos a' (show (0 : Int) < n' by omega)
          have c3 : n' ≤ a' := by omega
          clear c1
          go_wp2_with (at_builtin; refine wpList_append_own _ rfl _ _ 31 rfl w.heap.size 42 i0 (.agg #[.int .i64 0, .int .i64 0, .int .i64 0, .int .i64 0]) 4 32 Try.underlying31 hi hz0 hz1 hz2 rfl (by decide) _ pre.length (pre.flatMap encS) rfl (HOA.out _) ⟨wr.heap.size, 0, none⟩ 1 1 (encS (0, a' % n', n', s')) rfl rfl (HNW.out (0, a' % n', n', s')) (HON.out (0, a' % n', n', s')) H3.out H4.out (H5.out _) ?_; intro v' w1 hown' hgrow _)
          have HN : Hid (RcRel w a n (a' % n') (n') (s') (pre ++ [(0, a' % n', n', s')]) v' w1) := Lib.hid (RcRel.next (x := (0, a' % n', n', s')) hrel.out H0.out H1.out HXV.out (HA.out _) (HOA.out _) hown' hgrow)
          clear hown' hgrow
          go_wp2_with fail
          go_roundw
          case rel => exact ⟨_, _, _, _, rfl, rfl, rfl, HN⟩
          case measure => have := HMU.out; rw [HXV.out] at this; exact this
      · have c2 : ¬ a' < 0 := by omega
        have c3 : ¬ n' ≤ a' := by omega
        by_cases p1 : a' % 2 = 0
        · have q1 : (a' % 2 == 0) = true := by simpa using p1
          by_cases p2 : n' % 8 = 3 ∨ n' % 8 = 5
          · have HXV : Hid (nx a' n' s' = (1, a' / 2, n', -s')) := Lib.hid (by
              unfold nx; rw [if_neg c1, if_pos p1]
              have : hs n' * s' = -s' := by unfold hs; rw [if_pos p2]; omega
              rw [this])
            by_cases p3 : n' % 8 = 3
            · have q2 : (n' % 8 == 3) = true := by simpa using p3
              clear c1 p1 p2 p3
              go_wp2_with (at_builtin; refine wpList_append_own _ rfl _ _ 31 rfl w.heap.size 42 i0 (.agg #[.int .i64 0, .int .i64 0, .int .i64 0, .int .i64 0]) 4 32 Try.underlying31 hi hz0 hz1 hz2 rfl (by decide) _ pre.length (pre.flatMap encS) rfl (HOA.out _) ⟨wr.heap.size, 0, none⟩ 1 1 (encS (1, a' / 2, n', -s')) rfl rfl (HNW.out (1, a' / 2, n', -s')) (HON.out (1, a' / 2, n', -s')) H3.out H4.out (H5.out _) ?_; intro v' w1 hown' hgrow _)
              have HN : Hid (RcRel w a n (a' / 2) (n') (-s') (pre ++ [(1, a' / 2, n', -s')]) v' w1) := Lib.hid (RcRel.next (x := (1, a' / 2, n', -s')) hrel.out H0.out H1.out HXV.out (HA.out _) (HOA.out _) hown' hgrow)
              clear hown' hgrow
              go_wp2_with fail
              go_roundw
              case rel => exact ⟨_, _, _, _, rfl, rfl, rfl, HN⟩
              case measure => have := HMU.out; rw [HXV.out] at this; exact this
            · have q2 : (n' % 8 == 3) = false := by simpa using p3
              have q3 : (n' % 8 == 5) = true := by simp; omega
              clear c1 p1 p2 p3
              go_wp2_with (at_builtin; refine wpList_append_own _ rfl _ _ 31 rfl w.heap.size 42 i0 (.agg #[.int .i64 0, .int .i64 0, .int .i64 0, .int .i64 0]) 4 32 Try.underlying31 hi hz0 hz1 hz2 rfl (by decide) _ pre.length (pre.flatMap encS) rfl (HOA.out _) ⟨wr.heap.size, 0, none⟩ 1 1 (encS (1, a' / 2, n', -s')) rfl rfl (HNW.out (1, a' / 2, n', -s')) (HON.out (1, a' / 2, n', -s')) H3.out H4.out (H5.out _) ?_; intro v' w1 hown' hgrow _)
              have HN : Hid (RcRel w a n (a' / 2) (n') (-s') (pre ++ [(1, a' / 2, n', -s')]) v' w1) := Lib.hid (RcRel.next (x := (1, a' / 2, n', -s')) hrel.out H0.out H1.out HXV.out (HA.out _) (HOA.out _) hown' hgrow)
              clear hown' hgrow
              go_wp2_with fail
              go_roundw
              case rel => exact ⟨_, _, _, _, rfl, rfl, rfl, HN⟩
              case measure => have := HMU.out; rw [HXV.out] at this; exact this
          · have HXV : Hid (nx a' n' s' = (1, a' / 2, n', s')) := Lib.hid (by
              unfold nx; rw [if_neg c1, if_pos p1]
              have : hs n' * s' = s' := by unfold hs; rw [if_neg p2]; omega
              rw [this])
            have q2 : (n' % 8 == 3) = false := by simp; omega
            have q3 : (n' % 8 == 5) = false := by simp; omega
            clear c1 p1 p2
            go_wp2_with (at_builtin; refine wpList_append_own _ rfl _ _ 31 rfl w.heap.size 42 i0 (.agg #[.int .i64 0, .int .i64 0, .int .i64 0, .int .i64 0]) 4 32 Try.underlying31 hi hz0 hz1 hz2 rfl (by decide) _ pre.length (pre.flatMap encS) rfl (HOA.out _) ⟨wr.heap.size, 0, none⟩ 1 1 (encS (1, a' / 2, n', s')) rfl rfl (HNW.out (1, a' / 2, n', s')) (HON.out (1, a' / 2, n', s')) H3.out H4.out (H5.out _) ?_; intro v' w1 hown' hgrow _)
            have HN : Hid (RcRel w a n (a' / 2) (n') (s') (pre ++ [(1, a' / 2, n', s')]) v' w1) := Lib.hid (RcRel.next (x := (1, a' / 2, n', s')) hrel.out H0.out H1.out HXV.out (HA.out _) (HOA.out _) hown' hgrow)
            clear hown' hgrow
            go_wp2_with fail
            go_roundw
            case rel => exact ⟨_, _, _, _, rfl, rfl, rfl, HN⟩
            case measure => have := HMU.out; rw [HXV.out] at this; exact this
        · have q1 : (a' % 2 == 0) = false := by simpa using p1
          by_cases p2 : a' % 4 = 3 ∧ n' % 4 = 3
          · have HXV : Hid (nx a' n' s' = (2, n', a', -s')) := Lib.hid (by
              unfold nx; rw [if_neg c1, if_neg p1]
              have : es a' n' * s' = -s' := by unfold es; rw [if_pos p2]; omega
              rw [this])
            have q2 : (a' % 4 == 3) = true := by simp; omega
            have q3 : (n' % 4 == 3) = true := by simp; omega
            clear c1 p1 p2
            go_wp2_with (at_builtin; refine wpList_append_own _ rfl _ _ 31 rfl w.heap.size 42 i0 (.agg #[.int .i64 0, .int .i64 0, .int .i64 0, .int .i64 0]) 4 32 Try.underlying31 hi hz0 hz1 hz2 rfl (by decide) _ pre.length (pre.flatMap encS) rfl (HOA.out _) ⟨wr.heap.size, 0, none⟩ 1 1 (encS (2, n', a', -s')) rfl rfl (HNW.out (2, n', a', -s')) (HON.out (2, n', a', -s')) H3.out H4.out (H5.out _) ?_; intro v' w1 hown' hgrow _)
            have HN : Hid (RcRel w a n (n') (a') (-s') (pre ++ [(2, n', a', -s')]) v' w1) := Lib.hid (RcRel.next (x := (2, n', a', -s')) hrel.out H0.out H1.out HXV.out (HA.out _) (HOA.out _) hown' hgrow)
            clear hown' hgrow
            go_wp2_with fail
            go_roundw
            case rel => exact ⟨_, _, _, _, rfl, rfl, rfl, HN⟩
            case measure => have := HMU.out; rw [HXV.out] at this; exact this
          · have HXV : Hid (nx a' n' s' = (2, n', a', s')) := Lib.hid (by
              unfold nx; rw [if_neg c1, if_neg p1]
              have : es a' n' * s' = s' := by unfold es; rw [if_neg p2]; omega
              rw [this])
            by_cases p3 : a' % 4 = 3
            · have q2 : (a' % 4 == 3) = true := by simpa using p3
              have q3 : (n' % 4 == 3) = false := by simp; omega
              clear c1 p1 p2 p3
              go_wp2_with (at_builtin; refine wpList_append_own _ rfl _ _ 31 rfl w.heap.size 42 i0 (.agg #[.int .i64 0, .int .i64 0, .int .i64 0, .int .i64 0]) 4 32 Try.underlying31 hi hz0 hz1 hz2 rfl (by decide) _ pre.length (pre.flatMap encS) rfl (HOA.out _) ⟨wr.heap.size, 0, none⟩ 1 1 (encS (2, n', a', s')) rfl rfl (HNW.out (2, n', a', s')) (HON.out (2, n', a', s')) H3.out H4.out (H5.out _) ?_; intro v' w1 hown' hgrow _)
              have HN : Hid (RcRel w a n (n') (a') (s') (pre ++ [(2, n', a', s')]) v' w1) := Lib.hid (RcRel.next (x := (2, n', a', s')) hrel.out H0.out H1.out HXV.out (HA.out _) (HOA.out _) hown' hgrow)
              clear hown' hgrow
              go_wp2_with fail
              go_roundw
              case rel => exact ⟨_, _, _, _, rfl, rfl, rfl, HN⟩
              case measure => have := HMU.out; rw [HXV.out] at this; exact this
            · have q2 : (a' % 4 == 3) = false := by simpa using p3
              clear c1 p1 p2 p3
              go_wp2_with (at_builtin; refine wpList_append_own _ rfl _ _ 31 rfl w.heap.size 42 i0 (.agg #[.int .i64 0, .int .i64 0, .int .i64 0, .int .i64 0]) 4 32 Try.underlying31 hi hz0 hz1 hz2 rfl (by decide) _ pre.length (pre.flatMap encS) rfl (HOA.out _) ⟨wr.heap.size, 0, none⟩ 1 1 (encS (2, n', a', s')) rfl rfl (HNW.out (2, n', a', s')) (HON.out (2, n', a', s')) H3.out H4.out (H5.out _) ?_; intro v' w1 hown' hgrow _)
              have HN : Hid (RcRel w a n (n') (a') (s') (pre ++ [(2, n', a', s')]) v' w1) := Lib.hid (RcRel.next (x := (2, n', a', s')) hrel.out H0.out H1.out HXV.out (HA.out _) (HOA.out _) hown' hgrow)
              clear hown' hgrow
              go_wp2_with fail
              go_roundw
              case rel => exact ⟨_, _, _, _, rfl, rfl, rfl, HN⟩
              case measure => have := HMU.out; rw [HXV.out] at this; exact this
end Go.Proofs.Ytdombadhmaanfaa
