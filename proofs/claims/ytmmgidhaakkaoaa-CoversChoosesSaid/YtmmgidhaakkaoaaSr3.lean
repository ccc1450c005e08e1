/- The search of residues: what it finds; room. -/
import Derived.Test.YtmmgidhaakkaoaaSr2
import Derived.Test.YtmmgidhaakkaoaaCvP
namespace Go.Proofs.Ytmmgidhaakkaoaa
open Go Go.RowKit

/-- how often the days are covered -/
def cf (F : List (Int × Int)) : Nat → Int := fun j => ((cnt F (j : Int) : Nat) : Int)
theorem cf_add (F : List (Int × Int)) (a m j : Nat) : addF (cf F) a m 1 j = cf (F ++ [((a : Int), (m : Int))]) j := by
  unfold addF cf
  rw [cnt_append, cnt_one]
  split <;> simp
theorem cf_sub (F : List (Int × Int)) (a m j : Nat) : addF (cf (F ++ [((a : Int), (m : Int))])) a m (-1) j = cf F j := by
  unfold addF cf
  rw [cnt_append, cnt_one]
  split <;> simp <;> omega
theorem cnt_len (F : List (Int × Int)) (n : Int) : cnt F n ≤ F.length := by unfold cnt; exact List.length_filter_le _ _
theorem cf_bd {F : List (Int × Int)} (h : F.length ≤ 100) (j : Nat) : 0 ≤ cf F j ∧ cf F j ≤ 100 := by
  have := cnt_len F (j : Int)
  unfold cf; omega
theorem cf_on (F : List (Int × Int)) (a m j : Nat) (h : cov ((a : Int), (m : Int)) (j : Int) = true) : 1 ≤ cf (F ++ [((a : Int), (m : Int))]) j := by
  unfold cf
  rw [cnt_append, cnt_one, if_pos h]; omega
def nts (M : List Nat) : List Int := M.map fun x : Nat => (x : Int)
theorem nts_len (M : List Nat) : (nts M).length = M.length := List.length_map _
theorem nts_at {M : List Nat} {k : Nat} {x : Int} (h : (nts M)[k]? = some x) : ∃ r : Nat, M[k]? = some r ∧ x = r := by
  unfold nts at h
  rw [List.getElem?_map, Option.map_eq_some_iff] at h
  obtain ⟨r, h1, h2⟩ := h
  exact ⟨r, h1, h2.symm⟩
/-- how many days some moduli can cover -/
def rmS (W : Nat) : List Nat → Nat
  | [] => 0
  | m :: M => W / m + rmS W M
theorem rmS_snoc (W : Nat) (m : Nat) : ∀ M, rmS W (M ++ [m]) = rmS W M + W / m
  | [] => by simp [rmS]
  | x :: M => by rw [List.cons_append, rmS, rmS, rmS_snoc W m M]; omega
theorem rmS_bd {W : Nat} : ∀ M, rmS W M ≤ M.length * W
  | [] => by simp [rmS]
  | x :: M => by
    have := rmS_bd (W := W) M
    have h2 : W / x ≤ W := Nat.div_le_self _ _
    rw [rmS, List.length_cons, Nat.succ_mul]; omega
/-- the first number below m that finds something -/
def fst' {α : Type} : Nat → (Nat → Option α) → Option α
  | 0, _ => none
  | a + 1, g => match fst' a g with
    | some x => some x
    | none => g a
/-- the search -/
noncomputable def srch (ex : Bool) (W : Nat) : List Nat → List (Int × Int) → Option (List (Int × Int))
  | [], F => if ex = true ∨ lf (cf F) W = 0 then some F else none
  | m :: M, F => if ex = false ∧ (rmS W (m :: M) : Int) < lf (cf F) W then none
    else fst' m fun a => if onB (cf F) a m W = true ∨ ex = false then srch ex W M (F ++ [((a : Int), (m : Int))]) else none

set_option maxHeartbeats 1000000 in
theorem room_any (S G W b off l c k : Nat) (M : List Nat) (f : Nat → Int) (left : Int) (ex : Bool) (v : Value) (w : World) (h : SS w S G (.slice (some ⟨b, off, none⟩) l c) W f left ex v) (hr : IRow w w.heap.size (some ⟨b, off, none⟩) l (nts M)) (hm : ∀ x ∈ M, 1 ≤ x) (hW : W ≤ 10080) (hl : l ≤ 100) (hk : k < l) (hlc : l ≤ c) (_hc : c ≤ 9223372036854775807) :
    Calls Try.prog 78 #[.pointer (some ⟨S, 0, none⟩), .int .i64 (k : Int)] w fun e w' => e = .returned (.int .i64 ((rmS W (M.drop k) : Nat) : Int)) ∧ w' = w := by
  have c0 := h.c0
  have c1 := h.c1
  have HR := Lib.hid hr
  have HL : Hid (l = M.length) := Lib.hid (by rw [hr.1, nts_len])
  have HM := Lib.hid hm
  have HB : Hid (∀ j : Nat, rmS W ((M.drop k).take j) ≤ 1008000) := Lib.hid (fun j => by
    have h1 := rmS_bd (W := W) ((M.drop k).take j)
    have h2 : ((M.drop k).take j).length ≤ 100 := by rw [List.length_take, List.length_drop, ← HL.out]; omega
    have := Nat.mul_le_mul h2 hW
    omega)
  have hki : (k : Int) ≤ (l : Int) := by omega
  have hk0 : (0 : Int) ≤ (k : Int) := by omega
  have hlci : (l : Int) ≤ (c : Int) := by omega
  clear h hr hm
  go_enter Try.func78, Try.ntmps78
  go_wp2_with fail
  go_loop [5, 15] (fun o z => ∃ j : Nat, j ≤ l - k ∧ o = .int .i64 ((rmS W ((M.drop k).take j) : Nat) : Int) ∧ z = .int .i64 (j : Int)) (fun _ z => l - k - (intOf z).toNat)
  case atStart => exact ⟨0, by omega, rfl, rfl⟩
  case round =>
    obtain ⟨j, hj, rfl, rfl⟩ := hrel
    by_cases hlt : j < l - k
    · obtain ⟨b', off', x, hx, hA, hB, g1⟩ := HR.out.at_ (k := k + j) (by omega)
      injection hA with hA
      injection hA with hA1 hA2
      subst hA1 hA2
      obtain ⟨m, hm, rfl⟩ := nts_at hx
      have hm1 := HM.out m (List.mem_of_getElem? hm)
      have hmi : (1 : Int) ≤ (m : Int) := by omega
      have hmz : ((m : Int) == 0) = false := by rw [beq_eq_false_iff_ne]; omega
      have hm0 : ¬ m = 0 := by omega
      have hsn : (M.drop k).take (j + 1) = (M.drop k).take j ++ [m] := by
        have h1 : (M.drop k)[j]? = some m := by rw [List.getElem?_drop]; exact hm
        obtain ⟨h2, h3⟩ := List.getElem?_eq_some_iff.1 h1
        rw [List.take_succ_eq_append_getElem h2, h3]
      have HS : Hid (rmS W ((M.drop k).take (j + 1)) = rmS W ((M.drop k).take j) + W / m) := Lib.hid (by rw [hsn, rmS_snoc])
      have hbb := HB.out (j + 1)
      have hb0 := HB.out j
      rw [HS.out] at hbb
      obtain ⟨R, hR⟩ : ∃ R, rmS W ((M.drop k).take j) = R := ⟨_, rfl⟩
      rw [hR] at HS hbb hb0
      rw [hR]
      have hlti : (j : Int) < ((l - k : Nat) : Int) := by omega
      have hj0 : (0 : Int) ≤ (j : Int) := by omega
      have hdv : (W : Int) / (m : Int) = ((W / m : Nat) : Int) := (Int.natCast_ediv W m).symm
      have hdb : W / m ≤ 10080 := Nat.le_trans (Nat.div_le_self _ _) hW
      rw [← Nat.add_assoc] at g1
      have HDV := Lib.hid hdv
      have hd0 : (0 : Int) ≤ (W : Int) / (m : Int) := by rw [hdv]; exact Int.natCast_nonneg _
      have hd1 : (W : Int) / (m : Int) ≤ 10080 := by rw [hdv]; exact Int.ofNat_le.2 hdb
      clear hx hm hsn hR hdv
      go_wp2_with fail
      go_round
      case rel => exact ⟨j + 1, by omega, by rw [HS.out, Int.natCast_add, ← HDV.out], by go_num⟩
      case measure => simp [intOf]; omega
    · have hjl : j = l - k := by omega
      have HT : Hid ((M.drop k).take j = M.drop k) := Lib.hid (List.take_of_length_le (by rw [List.length_drop, ← HL.out]; omega))
      rw [HT.out]
      have hge : ((l - k : Nat) : Int) ≤ (j : Int) := by omega
      go_wp2_with fail
      go_ret
      exact ⟨rfl, rfl⟩
end Go.Proofs.Ytmmgidhaakkaoaa
