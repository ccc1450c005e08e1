/- pell: whole square roots, and the solutions for 5. -/
import Derived.Test.YtdombadhmaanfaaPg
import Derived.Test.YtdombadhmaanfaaGd
import Derived.RegionTactic
import Derived.ChangeAlike
namespace Go.Proofs.Ytdombadhmaanfaa
open Go Go.RowKit GhN

/-- the whole square root -/
def isq : Nat → Nat
  | 0 => 0
  | n + 1 => if (isq n + 1) * (isq n + 1) ≤ n + 1 then isq n + 1 else isq n
theorem isq_spec : ∀ n, isq n * isq n ≤ n ∧ n < (isq n + 1) * (isq n + 1)
  | 0 => by decide
  | n + 1 => by
    have ih := isq_spec n
    rw [isq]
    split
    · next h =>
      refine ⟨h, ?_⟩
      have e : (isq n + 1 + 1) * (isq n + 1 + 1) = (isq n + 1) * (isq n + 1) + 2 * isq n + 3 := by
        generalize isq n = a
        rw [Nat.add_mul, Nat.mul_add]; omega
      omega
    · next h => omega
theorem isq_uniq {n s : Nat} (h1 : s * s ≤ n) (h2 : n < (s + 1) * (s + 1)) : s = isq n := by
  obtain ⟨h3, h4⟩ := isq_spec n
  rcases Nat.lt_trichotomy s (isq n) with h | h | h
  · have := Nat.mul_le_mul (show s + 1 ≤ isq n by omega) (show s + 1 ≤ isq n by omega); omega
  · exact h
  · have := Nat.mul_le_mul (show isq n + 1 ≤ s by omega) (show isq n + 1 ≤ s by omega); omega

def sqB (n : Int) : Bool := decide (0 ≤ n) && decide (isq n.toNat * isq n.toNat = n.toNat)
def sqV (n : Int) : Int := if 0 ≤ n then (isq n.toNat : Int) else 0

set_option maxHeartbeats 1000000 in
theorem square_any (n : Int) (w : World) (h1 : -1000000000 ≤ n) (h2 : n ≤ 1000000000) :
    Calls Try.prog 87 #[.int .i64 n] w fun e w' => e = .returned (.tuple #[.int .i64 (sqV n), .bool (sqB n)]) ∧ w = w' := by
  by_cases h0 : 0 ≤ n
  case neg =>
    have e1 : sqV n = 0 := if_neg h0
    have e2 : sqB n = false := by unfold sqB; rw [decide_eq_false h0]; rfl
    rw [e1, e2]
    have h0' : n < 0 := by omega
    clear h0 e1 e2
    go_enter Try.func87, Try.ntmps87
    go_wp2_with fail
    go_ret2
    exact ⟨rfl, rfl⟩
  case pos =>
    obtain ⟨N, rfl⟩ : ∃ N : Nat, n = N := ⟨n.toNat, by omega⟩
    have e1 : sqV (N : Int) = (isq N : Nat) := if_pos h0
    have e2 : sqB (N : Int) = decide (isq N * isq N = N) := by unfold sqB; rw [decide_eq_true h0, Int.toNat_natCast]; rfl
    rw [e1, e2]
    clear e1 e2
    go_enter Try.func87, Try.ntmps87
    go_wp2_with fail
    go_loop [4, 5] (fun lo hi => ∃ a b : Nat, a ≤ b ∧ b ≤ 2147483648 ∧ Hid (a * a ≤ N) ∧ Hid (N < (b + 1) * (b + 1)) ∧ lo = .int .i64 (a : Int) ∧ hi = .int .i64 (b : Int)) (fun lo hi => (intOf hi).toNat - (intOf lo).toNat)
    case atStart => exact ⟨0, 2147483648, by omega, by omega, Lib.hid (by omega), Lib.hid (by omega), rfl, rfl⟩
    case round =>
      obtain ⟨a, b, hab, hb, ha2, hb2, rfl, rfl⟩ := hrel
      by_cases hlt : a < b
      · obtain ⟨m, hm⟩ : ∃ m, (a + b + 1) / 2 = m := ⟨_, rfl⟩
        have ha3 : a < m := by omega
        have hb3 : m ≤ b := by omega
        have em : ((a : Int) + (b : Int) + 1) / 2 = (m : Int) := by omega
        have hmm : (m : Int) * (m : Int) ≤ 4611686018427387904 := by
          have := Int.mul_le_mul (show (m : Int) ≤ 2147483648 by omega) (show (m : Int) ≤ 2147483648 by omega) (by omega) (by omega)
          omega
        have hmm0 : 0 ≤ (m : Int) * (m : Int) := Int.mul_nonneg (by omega) (by omega)
        have hlti : (a : Int) < (b : Int) := by omega
        clear hm
        by_cases hc : m * m ≤ N
        · have hci : (m : Int) * (m : Int) ≤ (N : Int) := by
            have : ((m * m : Nat) : Int) ≤ (N : Int) := by omega
            rwa [Int.natCast_mul] at this
          have HM := Lib.hid hc
          clear hc
          go_wp2_with fail
          go_round
          case rel => exact ⟨m, b, hb3, hb, HM, hb2, by first | rfl | rw [em], rfl⟩
          case measure => first | (simp only [intOf]; omega) | (rw [em]; simp only [intOf]; omega)
        · have hci : (N : Int) < (m : Int) * (m : Int) := by
            have : (N : Int) < ((m * m : Nat) : Int) := by omega
            rwa [Int.natCast_mul] at this
          have HM : Hid (N < (m - 1 + 1) * (m - 1 + 1)) := Lib.hid (by rw [show m - 1 + 1 = m by omega]; omega)
          have em1 : (m : Int) - 1 = ((m - 1 : Nat) : Int) := by omega
          clear hc
          go_wp2_with fail
          go_round
          case rel => exact ⟨a, m - 1, by omega, by omega, ha2, HM, rfl, by first | rfl | rw [em1] | rw [em, em1]⟩
          case measure => first | (simp only [intOf]; omega) | (rw [em]; simp only [intOf]; omega)
      · have hab2 : a = b := by omega
        subst hab2
        have hs := isq_uniq ha2.out hb2.out
        have HS := Lib.hid hs
        have haa : (a : Int) * (a : Int) ≤ 4611686018427387904 := by
          have := Int.mul_le_mul (show (a : Int) ≤ 2147483648 by omega) (show (a : Int) ≤ 2147483648 by omega) (by omega) (by omega)
          omega
        have haa0 : 0 ≤ (a : Int) * (a : Int) := Int.mul_nonneg (by omega) (by omega)
        have HE : Hid ((((a : Int) * (a : Int)) == (N : Int)) = decide (a * a = N)) := Lib.hid (by
          rw [Bool.eq_iff_iff, beq_iff_eq, decide_eq_true_iff, ← Int.natCast_mul]; omega)
        clear hs
        go_wp2_with fail
        go_ret2
        refine ⟨?_, rfl⟩
        rw [← HS.out, ← HE.out]; rfl

theorem pbdrew {B : Nat} {a w : World} (h : Below B a w) : Below B a w.drew := ⟨h.os, h.tape, h.output, h.size, h.block⟩
abbrev rootV (d f : Int) : Value := .agg #[.int .i64 d, .int .i64 f]
/-- read at 5 -/
theorem read5 (w : World) : Calls Try.prog 70 #[.int .i64 5] w fun e w' => e = .returned (.tuple #[rootV 5 2, .bool true]) ∧ Below w.heap.size w w' := by
  go_enter Try.func70, Try.ntmps70
  go_wp2_with fail
  go_loopw [] (fun wr => ∃ f : Nat, f ≤ 2 ∧ wr = (w.alloc (Obj.cells #[.int .i64 0, .int .i64 0] 87)).alloc (Obj.cells #[.int .i64 5, .int .i64 (f : Int)] 87)) (fun wr => 2 - (intOf ((wr.cell? ⟨w.heap.size + 1, 1, none⟩).getD undef)).toNat)
  case atStart => exact ⟨0, by omega, rfl⟩
  case round =>
    obtain ⟨f, hf, rfl⟩ := hrel
    rcases (show f = 0 ∨ f = 1 ∨ f = 2 by omega) with rfl | rfl | rfl
    · go_wp2_with fail
      go_roundw
      case rel => exact ⟨1, by omega, rfl⟩
      case measure => simp [intOf]
    · go_wp2_with fail
      go_roundw
      case rel => exact ⟨2, by omega, rfl⟩
      case measure => simp [intOf]
    · go_wp2_with fail
      go_region
      all_goals go_wp2_with fail
      all_goals
        refine bodyPost_ret (v := .tuple #[rootV 5 2, .bool true]) (by simp [results, Try.results70, go_sem]) rfl ⟨rfl, ?_⟩
        exact pbdrew (((Below.refl _ _).alloc (Nat.le_refl _) _).alloc (by simp) _)

/-- n may be asked for -/
theorem number_yes (n : Int) (w : World) (h : n = 4 ∨ n = -4) : Calls Try.prog 71 #[.int .i64 n] w fun e w' => e = .returned (.bool true) ∧ w = w' := by
  rcases h with rfl | rfl
  all_goals
    go_enter Try.func71, Try.ntmps71
    go_wp2_with fail
    go_ret
    exact ⟨rfl, rfl⟩

/-- the solutions with a y below k -/
def slB (n : Int) (y : Nat) : Bool := sqB (n + 5 * (y : Int) * (y : Int))
def slL (n : Int) (k : Nat) : List (Int × Int) := ((List.range k).filter (slB n)).map fun (y : Nat) => (sqV (n + 5 * (y : Int) * (y : Int)), (y : Int))
theorem slL_succ (n : Int) (k : Nat) : slL n (k + 1) = slL n k ++ if slB n k = true then [(sqV (n + 5 * (k : Int) * (k : Int)), (k : Int))] else [] := by
  unfold slL
  rw [List.range_succ, List.filter_append, List.map_append]
  congr 1
  by_cases h : slB n k = true <;> simp [h]
theorem slL_len (n : Int) (k : Nat) : (slL n k).length ≤ k := by
  unfold slL
  rw [List.length_map]
  exact Nat.le_trans (List.length_filter_le _ _) (by simp)
theorem infoPP : (Try.prog.info? 105).map (fun i => (i.zero, i.size, i.bytes)) = some (some (.agg #[.int .i64 0, .int .i64 0]), 2, 16) := by kernel_rfl
theorem infoP2 : (Try.prog.info? 65).map (fun i => (i.zero, i.size, i.bytes)) = some (some (.agg #[.int .i64 0, .int .i64 0]), 2, 16) := by kernel_rfl

def GivesP (w : World) (D : List (Int × Int)) (e : Ending) (w' : World) : Prop :=
  ∃ A n c, e = .returned (.slice A n c) ∧ PRow w' w'.heap.size A n D ∧ (A = none → n = 0 ∧ c = 0) ∧ Below w.heap.size w w'

set_option maxRecDepth 100000 in
set_option maxHeartbeats 1000000 in
theorem solve_any (n : Int) (m : Nat) (w : World) (hn : n = 4 ∨ n = -4) (hm : m ≤ 5000) :
    Calls Try.prog 73 #[rootV 5 2, .int .i64 n, .int .i64 (m : Int)] w (GivesP w (slL n (m + 1))) := by
  have hn4 : -4 ≤ n ∧ n ≤ 4 := by omega
  clear hn
  obtain ⟨i0, hi, hz0, hz1, hz2⟩ := info_parts infoPP
  go_enter Try.func73, Try.ntmps73
  go_wp2_with fail
  go_loopw [7, 13] (fun v x wr => ∃ k : Nat, k ≤ m + 1 ∧ Hid (PRel 105 (w.alloc (Obj.cells #[.int .i64 5, .int .i64 2] 87)) (slL n k) v wr) ∧ x = .int .i64 (k : Int)) (fun _ x _ => m + 1 - (intOf x).toNat)
  case atStart => exact ⟨0, by omega, Lib.hid ⟨World.ownsRow_nil .., Below.refl _ _⟩, rfl⟩
  case round =>
    obtain ⟨k, hk, hrl, rfl⟩ := hrel
    have hbb := hrl.out.2
    have c1 : wr.cell? ⟨w.heap.size, 0, none⟩ = some (.int .i64 5) := (hbb.cell (p := ⟨w.heap.size, 0, none⟩) (by simp)).trans (by simp)
    have hsz : w.heap.size + 1 ≤ wr.heap.size := by have := hbb.size; simp at this; omega
    by_cases hlt : k < m + 1
    · have hkk : (k : Int) * (k : Int) ≤ 25000000 := by
        have := Int.mul_le_mul (show (k : Int) ≤ 5000 by omega) (show (k : Int) ≤ 5000 by omega) (by omega) (by omega)
        omega
      have hkk0 : 0 ≤ (k : Int) * (k : Int) := Int.mul_nonneg (by omega) (by omega)
      have e5 : 5 * (k : Int) * (k : Int) = 5 * ((k : Int) * (k : Int)) := Int.mul_assoc _ _ _
      have h5a : 0 ≤ 5 * (k : Int) * (k : Int) := by omega
      have h5b : 5 * (k : Int) * (k : Int) ≤ 125000000 := by omega
      have HSQ : Hid (∀ w', Calls Try.prog 87 #[.int .i64 (n + 5 * (k : Int) * (k : Int))] w' fun e w'' => e = .returned (.tuple #[.int .i64 (sqV (n + 5 * (k : Int) * (k : Int))), .bool (slB n k)]) ∧ w' = w'') := Lib.hid (fun w' => square_any _ w' (by omega) (by omega))
      have HSU := Lib.hid (slL_succ n k)
      obtain ⟨X, hX⟩ : ∃ X, sqV (n + 5 * (k : Int) * (k : Int)) = X := ⟨_, rfl⟩
      obtain ⟨b, hb⟩ : ∃ b, slB n k = b := ⟨_, rfl⟩
      rw [hX, hb] at HSQ HSU
      have hlti : (k : Int) < (m : Int) + 1 := by omega
      clear hX hb e5 hbb
      rcases b with _ | _
      · have HN : Hid (PRel 105 (w.alloc (Obj.cells #[.int .i64 5, .int .i64 2] 87)) (slL n (k + 1)) u7 wr) := Lib.hid (by rw [HSU.out, if_neg (by decide), List.append_nil]; exact hrl.out)
        go_wp2_with fail
        refine (HSQ.out _).mono ?_; rintro e w1 ⟨rfl, rfl⟩
        go_wp2_with fail
        go_roundw
        case rel => exact ⟨k + 1, by omega, HN, by go_num⟩
        case measure => simp [intOf]; omega
      · have HLK : Hid ((slL n k).length ≤ 5000) := Lib.hid (Nat.le_trans (slL_len n k) (by omega))
        have hown : (wr.alloc (Obj.cells #[.int .i64 X, .int .i64 (k : Int)] 105)).ownsRow (w.alloc (Obj.cells #[.int .i64 5, .int .i64 2] 87)).heap.size 105 2 u7 (slL n k).length (pflat (slL n k)) := hrl.out.1.alloc _
        have HOW := Lib.hid hown
        have HNE := Lib.hid (pflat_news (w := wr.alloc (Obj.cells #[.int .i64 X, .int .i64 (k : Int)] 105)) (x := X) (m := (k : Int)) (g := wr.heap.size) rfl rfl)
        have H1 := Lib.hid (ptwo_one (x := X) (m := (k : Int)))
        have H3 : Hid ((slL n k).length + 1 ≤ maxLen) := Lib.hid (by have := HLK.out; unfold maxLen; omega)
        have H4 : Hid (((slL n k).length + 1) * 16 ≤ 140737488355328) := Lib.hid (by have := HLK.out; omega)
        have H5 : Hid ((w.alloc (Obj.cells #[.int .i64 5, .int .i64 2] 87)).heap.size ≤ (wr.alloc (Obj.cells #[.int .i64 X, .int .i64 (k : Int)] 105)).heap.size) := Lib.hid (by simp; omega)
        clear hown
        go_wp2_with (first
          | (go_at_call 87; refine (HSQ.out _).mono ?_; rintro e w1 ⟨rfl, rfl⟩)
          | (at_builtin; refine wpList_append_own _ rfl _ _ 91 rfl (w.alloc (Obj.cells #[.int .i64 5, .int .i64 2] 87)).heap.size 105 i0 (.agg #[.int .i64 0, .int .i64 0]) 2 16 Try.underlying91 hi hz0 hz1 hz2 rfl (by decide) _ (slL n k).length (pflat (slL n k)) rfl HOW.out ⟨wr.heap.size, 0, none⟩ 1 1 [.int .i64 X, .int .i64 (k : Int)] rfl rfl HNE.out H1.out H3.out H4.out H5.out ?_; intro v' w2 hown' hgrow _))
        have HN : Hid (PRel 105 (w.alloc (Obj.cells #[.int .i64 5, .int .i64 2] 87)) (slL n (k + 1)) v' w2) := Lib.hid (by
          rw [HSU.out]; first | rw [if_pos rfl] | rw [if_pos trivial]
          exact hrl.out.next ((Below.refl _ _).alloc (Nat.le_refl _) _) hown' hgrow)
        clear hown' hgrow
        go_wp2_with fail
        go_roundw
        case rel => exact ⟨k + 1, by omega, HN, by go_num⟩
        case measure => simp [intOf]; omega
    · have hkl : k = m + 1 := by omega
      subst hkl
      obtain ⟨A', c', rfl, hrow, hA'⟩ := hrl.out.form
      have HRW := Lib.hid hrow
      have HAA := Lib.hid hA'
      clear hrow hA' hbb
      go_wp2_with fail
      go_ret
      exact ⟨A', _, c', rfl, HRW.out, HAA.out, pbt ((Below.refl _ _).alloc (Nat.le_refl _) _) hrl.out.2⟩

set_option maxRecDepth 100000 in
set_option maxHeartbeats 1000000 in
theorem pairs_any (A : Option Addr) (n2 c2 : Nat) (D : List (Int × Int)) (w : World) (h : PRow w w.heap.size A n2 D) (hn : n2 ≤ 6000) :
    Calls Try.prog 72 #[.slice A n2 c2] w (GivesP w D) := by
  have HR2 := Lib.hid h
  have HL2 := Lib.hid h.1
  clear h
  obtain ⟨i0, hi, hz0, hz1, hz2⟩ := info_parts infoP2
  go_enter Try.func72, Try.ntmps72
  go_wp2_with fail
  go_loopw [3, 8] (fun v x wr => ∃ k : Nat, k ≤ n2 ∧ Hid (PRel 65 w (D.take k) v wr) ∧ x = .int .i64 (k : Int)) (fun _ x _ => n2 - (intOf x).toNat)
  case atStart => exact ⟨0, by omega, Lib.hid ⟨World.ownsRow_nil .., Below.refl _ _⟩, rfl⟩
  case round =>
    obtain ⟨k, hk, hrl, rfl⟩ := hrel
    by_cases hlt : k < n2
    · obtain ⟨b, off, x, m, hx, rfl, hB, c1, c2⟩ := (HR2.out.below hrl.out.2).at_ hlt
      have HTK := Lib.hid (ptake_at hx)
      have HKL : Hid ((D.take k).length = k) := Lib.hid (by rw [List.length_take]; have := HL2.out; omega)
      have hown : ((wr.alloc (Obj.cells #[.int .i64 x, .int .i64 m] 105)).alloc (Obj.cells #[.int .i64 x, .int .i64 m] 65)).ownsRow w.heap.size 65 2 u3 k (pflat (D.take k)) := by
        have h5 := (hrl.out.1.alloc (Obj.cells #[.int .i64 x, .int .i64 m] 105)).alloc (Obj.cells #[.int .i64 x, .int .i64 m] 65)
        rw [HKL.out] at h5
        exact h5
      have HOW := Lib.hid hown
      have HNE := Lib.hid (pflat_news (w := (wr.alloc (Obj.cells #[.int .i64 x, .int .i64 m] 105)).alloc (Obj.cells #[.int .i64 x, .int .i64 m] 65)) (x := x) (m := m) (g := wr.heap.size + 1) (by simp) rfl)
      have H1 := Lib.hid (ptwo_one (x := x) (m := m))
      have H3 : Hid (k + 1 ≤ maxLen) := Lib.hid (by unfold maxLen; omega)
      have H4 : Hid ((k + 1) * 16 ≤ 140737488355328) := Lib.hid (by omega)
      have H5 : Hid (w.heap.size ≤ ((wr.alloc (Obj.cells #[.int .i64 x, .int .i64 m] 105)).alloc (Obj.cells #[.int .i64 x, .int .i64 m] 65)).heap.size) := Lib.hid (by have := hrl.out.2.size; simp; omega)
      clear hown hx
      go_wp2_with (at_builtin; refine wpList_append_own _ rfl _ _ 62 rfl w.heap.size 65 i0 (.agg #[.int .i64 0, .int .i64 0]) 2 16 Try.underlying62 hi hz0 hz1 hz2 rfl (by decide) _ k (pflat (D.take k)) rfl HOW.out ⟨wr.heap.size + 1, 0, none⟩ 1 1 [.int .i64 x, .int .i64 m] rfl rfl HNE.out H1.out H3.out H4.out H5.out ?_; intro v' w3 hown' hgrow _)
      have hab : Below wr.heap.size wr ((wr.alloc (Obj.cells #[.int .i64 x, .int .i64 m] 105)).alloc (Obj.cells #[.int .i64 x, .int .i64 m] 65)) := ((Below.refl _ _).alloc (Nat.le_refl _) _).alloc (by simp) _
      have HN : Hid (PRel 65 w (D.take (k + 1)) v' w3) := Lib.hid (by
        rw [HTK.out]
        exact hrl.out.next hab (by rw [HKL.out]; exact hown') hgrow)
      clear hown' hgrow hab
      go_wp2_with fail
      go_roundw
      case rel => exact ⟨k + 1, by omega, HN, by go_num⟩
      case measure => simp [intOf]; omega
    · have hkl : k = n2 := by omega
      subst hkl
      have hT : D.take k = D := List.take_of_length_le (by rw [← HL2.out]; omega)
      rw [hT] at hrl
      obtain ⟨A', c', rfl, hrow, hA'⟩ := hrl.out.form
      have HRW := Lib.hid hrow
      have HAA := Lib.hid hA'
      clear hrow hA' hT
      go_wp2_with fail
      go_ret
      exact ⟨A', _, c', rfl, HRW.out, HAA.out, hrl.out.2⟩

set_option maxRecDepth 100000 in
set_option maxHeartbeats 1000000 in
theorem Solve_yes (n : Int) (m : Nat) (w : World) (hn : n = 4 ∨ n = -4) (hm : m ≤ 5000) :
    Calls Try.prog 45 #[.int .i64 5, .int .i64 n, .int .i64 (m : Int)] w (GivesPE w (slL n (m + 1)) 0) := by
  have HNU : Hid (∀ w', Calls Try.prog 71 #[.int .i64 n] w' fun e w'' => e = .returned (.bool true) ∧ w' = w'') := Lib.hid (fun w' => number_yes n w' hn)
  have HSO : Hid (∀ w', Calls Try.prog 73 #[rootV 5 2, .int .i64 n, .int .i64 (m : Int)] w' (GivesP w' (slL n (m + 1)))) := Lib.hid (fun w' => solve_any n m w' hn hm)
  have HLE := Lib.hid (slL_len n (m + 1))
  have hmi : (m : Int) ≤ 5000 := by omega
  clear hn
  go_enter Try.func45, Try.ntmps45
  go_wp2_with fail
  refine (read5 _).mono ?_; rintro e w1 ⟨rfl, hb1⟩
  have HB1 := Lib.hid hb1
  clear hb1
  go_wp2_with fail
  refine (HNU.out _).mono ?_; rintro e w2 ⟨rfl, rfl⟩
  go_wp2_with fail
  refine (HSO.out _).mono ?_; rintro e w3 ⟨A3, n3, c3, rfl, hr3, hA3, hb3⟩
  have HR3 := Lib.hid hr3
  have hn3 : n3 ≤ 6000 := by have := hr3.1; have := HLE.out; omega
  have HB3 : Hid (Below w.heap.size w w3) := Lib.hid (pbt (HB1.out.alloc HB1.out.size _) hb3)
  clear hr3 hA3 hb3
  go_wp2_with fail
  refine (pairs_any A3 n3 c3 _ w3 HR3.out hn3).mono ?_; rintro e w4 ⟨A4, n4, c4, rfl, hr4, hA4, hb4⟩
  have HR4 := Lib.hid hr4
  have HA4 := Lib.hid hA4
  have HB4 := Lib.hid (pbt HB3.out hb4)
  clear hr4 hA4 hb4
  go_wp2_with fail
  go_ret2
  exact ⟨A4, n4, c4, rfl, HR4.out, HA4.out, HB4.out⟩
theorem Solve_no (n m : Int) (w : World) (hn : n = 4 ∨ n = -4) (hm : m < 0 ∨ 5000 < m) :
    Calls Try.prog 45 #[.int .i64 5, .int .i64 n, .int .i64 m] w (GivesPE w [] 2) := by
  have HNU : Hid (∀ w', Calls Try.prog 71 #[.int .i64 n] w' fun e w'' => e = .returned (.bool true) ∧ w' = w'') := Lib.hid (fun w' => number_yes n w' hn)
  clear hn
  rcases hm with hm | hm
  all_goals
    go_enter Try.func45, Try.ntmps45
    go_wp2_with fail
    refine (read5 _).mono ?_; rintro e w1 ⟨rfl, hb1⟩
    have HB1 := Lib.hid hb1
    clear hb1
    go_wp2_with fail
    refine (HNU.out _).mono ?_; rintro e w2 ⟨rfl, rfl⟩
    go_wp2_with fail
    go_ret2
    exact ⟨none, 0, 0, rfl, prow_nil, fun _ => ⟨rfl, rfl⟩, HB1.out.alloc HB1.out.size _⟩
end Go.Proofs.Ytdombadhmaanfaa
