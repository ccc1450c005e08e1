/- What the search finds is a system; the whole does not depend on the order of the moduli. -/
import Derived.Test.YtmmgidhaakkaoaaSrP
namespace Go.Proofs.Ytmmgidhaakkaoaa
open Go Go.RowKit GhC

theorem wh_least {W : Nat} (hW : 1 ≤ W) (hW2 : W ≤ 10080) : ∀ (L : List (Int × Int)) (n : Nat), n ∣ W → (∀ p ∈ L, p.2.toNat ∣ W) → wh L n ≤ 10080 ∧ wh L n ∣ W
  | [], n, hn, _ => ⟨Nat.le_trans (Nat.le_of_dvd (by omega) hn) hW2, hn⟩
  | p :: L, n, hn, h => by
    have hl : n / Nat.gcd n p.2.toNat * p.2.toNat = Nat.lcm n p.2.toNat := by
      unfold Nat.lcm
      rw [Nat.div_mul_right_comm (Nat.gcd_dvd_left _ _)]
    have hd : Nat.lcm n p.2.toNat ∣ W := Nat.lcm_dvd hn (h p (List.mem_cons_self ..))
    have hle := Nat.le_of_dvd (by omega) hd
    rw [wh, hl, if_neg (by omega)]
    exact wh_least hW hW2 L _ hd (fun q hq => h q (List.mem_cons_of_mem _ hq))
theorem mods_mods0 {L : List Int} (h : ∀ x ∈ L, 1 ≤ x ∧ x ≤ 12) : Mods (mods0 L) := fun p hp => by
  unfold mods0 at hp
  obtain ⟨z, hz, rfl⟩ := List.mem_map.1 hp
  have := h z hz
  exact ⟨by show 1 ≤ z; omega, by show z ≤ 60; omega⟩
theorem md_dvd {L : List Int} (h : mdB L = true) : 1 ≤ wh (mods0 L) 1 ∧ ∀ x ∈ L, x.toNat ∣ wh (mods0 L) 1 := by
  obtain ⟨h1, h2, h3, h4⟩ := mdB_yes h
  have hm := mods_mods0 h3
  refine ⟨(whR_ok (mods0 L) 1 (by omega) (by omega) hm h4).2, fun x hx => ?_⟩
  exact (wh_dvd (mods0 L) 1 hm h4).2 (0, x) (List.mem_map.2 ⟨x, hx, rfl⟩)
theorem md_dvd1 {L : List Int} (h : mdB L = true) : ∀ m ∈ nat1 L, m ∣ wh (mods0 L) 1 := fun m hm => by
  unfold nat1 at hm
  obtain ⟨x, hx, rfl⟩ := List.mem_map.1 hm
  exact (md_dvd h).2 x hx
/-- the moduli turned -/
def trn (L : List Int) (i : Nat) : List Int := L.drop i ++ L.take i
theorem trn_mem {L : List Int} {i : Nat} {x : Int} : x ∈ trn L i ↔ x ∈ L := by
  unfold trn
  rw [List.mem_append, or_comm, ← List.mem_append, List.take_append_drop]
theorem trn_len (L : List Int) (i : Nat) : (trn L i).length = L.length := by
  unfold trn
  rw [List.length_append, Nat.add_comm, ← List.length_append, List.take_append_drop]
theorem trn_md {L : List Int} (h : mdB L = true) (i : Nat) : mdB (trn L i) = true ∧ wh (mods0 (trn L i)) 1 = wh (mods0 L) 1 := by
  obtain ⟨h1, h2, h3, h4⟩ := mdB_yes h
  obtain ⟨hp, hd⟩ := md_dvd h
  have h3' : ∀ x ∈ trn L i, 1 ≤ x ∧ x ≤ 12 := fun x hx => h3 x (trn_mem.1 hx)
  have hle := wh_least hp h4 (mods0 (trn L i)) 1 (Nat.one_dvd _) (fun p hq => by
    unfold mods0 at hq
    obtain ⟨z, hz, rfl⟩ := List.mem_map.1 hq
    exact hd z (trn_mem.1 hz))
  have hmd : mdB (trn L i) = true := decide_eq_true ⟨by rw [trn_len]; exact h1, by rw [trn_len]; exact h2, h3', hle.1⟩
  obtain ⟨hp', hd'⟩ := md_dvd hmd
  have hle' := wh_least hp' hle.1 (mods0 L) 1 (Nat.one_dvd _) (fun p hq => by
    unfold mods0 at hq
    obtain ⟨z, hz, rfl⟩ := List.mem_map.1 hq
    exact hd' z (trn_mem.2 hz))
  exact ⟨hmd, Nat.dvd_antisymm hle.2 hle'.2⟩
theorem trn_chE {L : List Int} (h : mdB L = true) (ex : Bool) (i : Nat) : chE ex (trn L i) = chE ex L := by
  obtain ⟨h1, h2⟩ := trn_md h i
  have e1 : nat1 (trn L i) = nat1 (L.drop i) ++ nat1 (L.take i) := by unfold nat1 trn; rw [List.map_append]
  have e2 : nat1 L = nat1 (L.take i) ++ nat1 (L.drop i) := by
    unfold nat1
    rw [← List.map_append, List.take_append_drop]
  have hd := md_dvd1 h
  rw [e2] at hd
  have key : (sRes ex (trn L i)).isSome = (sRes ex L).isSome := by
    unfold sRes
    rw [h2, e1, e2]
    exact srch_turn (fun m hm => hd m (List.mem_append_right _ hm)) (fun m hm => hd m (List.mem_append_left _ hm))
  unfold chE
  rw [if_pos h1, if_pos h, key]

theorem Mt_sys : ∀ {L : List Int} {P : List (Int × Int)}, (∀ x ∈ L, 1 ≤ x ∧ x ≤ 12) → Mt (nat1 L) P → P.length = L.length ∧ (∀ p ∈ P, okP p) ∧ ∀ n, wh P n = wh (mods0 L) n
  | [], P, _, h => by
    have h : P = [] := h
    subst h
    exact ⟨rfl, fun p hp => (by cases hp), fun n => rfl⟩
  | x :: L, P, hx, h => by
    obtain ⟨a, ha, P', rfl, h'⟩ := h
    obtain ⟨h1, h2, h3⟩ := Mt_sys (fun y hy => hx y (List.mem_cons_of_mem _ hy)) h'
    have hxx := hx x (List.mem_cons_self ..)
    refine ⟨by simp [h1], fun p hp => ?_, fun n => ?_⟩
    · rcases List.mem_cons.1 hp with rfl | hp
      · refine ⟨?_, ?_, ?_, ?_⟩
        · show (1 : Int) ≤ ((x.toNat : Nat) : Int); omega
        · show ((x.toNat : Nat) : Int) ≤ 60; omega
        · show (0 : Int) ≤ (a : Int); omega
        · show (a : Int) < ((x.toNat : Nat) : Int); omega
      · exact h2 p hp
    · show (if 10080 < n / Nat.gcd n (((x.toNat : Nat) : Int).toNat) * (((x.toNat : Nat) : Int).toNat) then n / Nat.gcd n (((x.toNat : Nat) : Int).toNat) * (((x.toNat : Nat) : Int).toNat) else wh P' (n / Nat.gcd n (((x.toNat : Nat) : Int).toNat) * (((x.toNat : Nat) : Int).toNat))) = if 10080 < n / Nat.gcd n x.toNat * x.toNat then n / Nat.gcd n x.toNat * x.toNat else wh (mods0 L) (n / Nat.gcd n x.toNat * x.toNat)
      rw [Int.toNat_natCast, h3]
/-- what was found is a system that covers all numbers, or none twice -/
theorem found_sys {L : List Int} {ex : Bool} (h : mdB L = true) (he : chE ex L = 0) : (chL ex L).length = L.length ∧ validL (chL ex L) = true ∧ fstE ex (chL ex L) = 4 := by
  obtain ⟨h1, h2, h3, h4⟩ := mdB_yes h
  unfold chE at he
  rw [if_pos h] at he
  unfold chL
  rw [if_pos h]
  cases hr : sRes ex L with
  | none => rw [hr] at he; simp at he
  | some D =>
    have hr2 : srch ex (wh (mods0 L) 1) (nat1 L) [] = some D := hr
    obtain ⟨P, h5, h6, h7⟩ := srch_sound hr2 (fun _ j _ => by show cf [] j ≤ 1; have : cf [] j = 0 := rfl; omega)
    rw [List.nil_append] at h6
    subst h6
    obtain ⟨h8, h9, h10⟩ := Mt_sys h3 h5
    show D.length = L.length ∧ validL D = true ∧ fstE ex D = 4
    refine ⟨h8, validL_mk ⟨by omega, by omega, h9, by rw [h10]; exact h4⟩, ?_⟩
    have hn : fstL ex D (wh D 1) 0 = none := by
      rw [fst_none]
      intro n _ hlt
      rw [Nat.zero_add, h10] at hlt
      unfold gl at h7
      cases ex with
      | true =>
        have h11 := h7 n hlt
        unfold cf at h11
        exact decide_eq_false (by omega)
      | false =>
        rw [if_neg (by decide)] at h7
        have h11 := (lf_zero _).1 h7 n hlt
        unfold cf at h11
        show (cnt D (n : Int) == 0) = false
        rw [beq_eq_false_iff_ne]
        omega
    unfold fstE
    rw [hn]
theorem chE_cases {L : List Int} (h : mdB L = true) (ex : Bool) : chE ex L = 0 ∨ chE ex L = 4 := by
  unfold chE
  rw [if_pos h]
  split <;> simp
theorem chE_bad {L : List Int} (h : mdB L = false) (ex : Bool) : chE ex L = 2 := by unfold chE; rw [h]; rfl
end Go.Proofs.Ytmmgidhaakkaoaa
