/- The reference's fit asks the greatest common factors: it is the same search. Plain mathematics. -/
import Derived.Test.YtmmgidhaakkaoaaSrQ
namespace Go.Proofs.Ytmmgidhaakkaoaa
open Go Go.RowKit GhC

def okF (F : List (Int × Int)) (a m : Nat) : Bool := F.all fun x => !(((a : Int) - x.1) % ((Nat.gcd m x.2.toNat : Nat) : Int) == 0)
theorem okF_iff {F : List (Int × Int)} {a m : Nat} : okF F a m = true ↔ ∀ x ∈ F, ((a : Int) - x.1) % ((Nat.gcd m x.2.toNat : Nat) : Int) ≠ 0 := by
  unfold okF
  rw [List.all_eq_true]
  constructor
  · intro h x hx
    have := h x hx
    rw [Bool.not_eq_true', beq_eq_false_iff_ne] at this
    exact this
  · intro h x hx
    rw [Bool.not_eq_true', beq_eq_false_iff_ne]
    exact h x hx
noncomputable def srF : List Nat → List (Int × Int) → Option (List (Int × Int))
  | [], F => some F
  | m :: M, F => fst' m fun a => if okF F a m = true then srF M (F ++ [((a : Int), (m : Int))]) else none
theorem cnt_mem {L : List (Int × Int)} {n : Int} (h : cnt L n ≠ 0) : ∃ p, p ∈ L ∧ cov p n = true := by
  unfold cnt at h
  obtain ⟨p, hp⟩ := List.exists_mem_of_length_pos (Nat.pos_of_ne_zero h)
  rw [List.mem_filter] at hp
  exact ⟨p, hp.1, hp.2⟩
theorem ok_on {W : Nat} (hW : 1 ≤ W) {F : List (Int × Int)} {a m : Nat} (hF : ∀ x ∈ F, 1 ≤ x.2 ∧ x.2.toNat ∣ W) (_hm : 1 ≤ m) (hd : m ∣ W) : okF F a m = onB (cf F) a m W := by
  rw [Bool.eq_iff_iff, okF_iff, onB_iff]
  constructor
  · intro h j hj hc
    apply Classical.byContradiction; intro hn
    have hcn : cnt F (j : Int) ≠ 0 := fun e => hn (by unfold cf; rw [e]; decide)
    obtain ⟨x, hx, hcx⟩ := cnt_mem hcn
    refine h x hx ?_
    have h1 : ((j : Int) - (a : Int)) % (m : Int) = 0 := cov_iff.1 hc
    have h2 : ((j : Int) - x.1) % ((x.2.toNat : Nat) : Int) = 0 := by
      have := cov_iff.1 hcx
      rwa [Int.toNat_of_nonneg (by have := (hF x hx).1; omega)]
    exact crt_back h1 h2
  · intro h x hx h0
    obtain ⟨n, h1, h2⟩ := crt h0
    obtain ⟨hx1, hxd⟩ := hF x hx
    have hj0 := Int.emod_nonneg n (show (W : Int) ≠ 0 by omega)
    have hj1 := Int.emod_lt_of_pos n (show (0 : Int) < (W : Int) by omega)
    obtain ⟨j, hj⟩ : ∃ j : Nat, n % (W : Int) = j := ⟨(n % (W : Int)).toNat, by omega⟩
    have hc1 : cov ((a : Int), (m : Int)) (j : Int) = true := by
      rw [cov_iff, ← hj]
      show (n % (W : Int) - (a : Int)) % (m : Int) = 0
      rw [cong_rest (Int.natCast_dvd_natCast.2 hd)]; exact h1
    have hc2 : cov x (j : Int) = true := by
      rw [cov_iff, ← hj]
      have e : x.2 = ((x.2.toNat : Nat) : Int) := by omega
      rw [e, cong_rest (Int.natCast_dvd_natCast.2 hxd)]; exact h2
    have h3 := h j (by omega) hc1
    have h4 := cnt_pos hx hc2
    unfold cf at h3
    omega
theorem srF_eq {W : Nat} (hW : 1 ≤ W) : ∀ {M : List Nat} {F : List (Int × Int)}, (∀ x ∈ F, 1 ≤ x.2 ∧ x.2.toNat ∣ W) → (∀ m ∈ M, 1 ≤ m ∧ m ∣ W) → srF M F = srch true W M F
  | [], F, _, _ => by rw [srF, srch, if_pos (.inl rfl)]
  | m :: M, F, hF, hM => by
    obtain ⟨hm1, hmd⟩ := hM m (List.mem_cons_self ..)
    rw [srF, srch, if_neg (by rintro ⟨h, _⟩; cases h)]
    congr 1
    funext a
    rw [ok_on hW hF hm1 hmd]
    have e : srF M (F ++ [((a : Int), (m : Int))]) = srch true W M (F ++ [((a : Int), (m : Int))]) := srF_eq hW (fun x hx => by
      rcases List.mem_append.1 hx with hx | hx
      · exact hF x hx
      · rw [List.mem_singleton] at hx
        subst hx
        exact ⟨by show (1 : Int) ≤ (m : Int); omega, by show ((m : Int)).toNat ∣ W; rw [Int.toNat_natCast]; exact hmd⟩) (fun x hx => hM x (List.mem_cons_of_mem _ hx))
    rw [e]
    by_cases h : onB (cf F) a m W = true
    · rw [if_pos h, if_pos (.inl h)]
    · rw [if_neg h, if_neg (by rintro (h2 | h2); exact h h2; cases h2)]
/-- what fit finds, at moduli -/
theorem srF_res {L : List Int} (h : mdB L = true) : srF (nat1 L) [] = sRes true L := by
  obtain ⟨hp, hd⟩ := md_dvd h
  obtain ⟨_, _, h3, _⟩ := mdB_yes h
  refine srF_eq hp (fun x hx => by cases hx) (fun m hm => ⟨?_, md_dvd1 h m hm⟩)
  unfold nat1 at hm
  obtain ⟨x, hx, rfl⟩ := List.mem_map.1 hm
  have := h3 x hx
  omega
end Go.Proofs.Ytmmgidhaakkaoaa
