/- The search finds something exactly if there is something, whatever the order of the moduli: plain mathematics. -/
import Derived.Test.YtmmgidhaakkaoaaSr8
import Derived.Test.YtmmgidhaakkaoaaCvS
import Derived.Test.YtmmgidhaakkaoaaCvL
namespace Go.Proofs.Ytmmgidhaakkaoaa
open Go Go.RowKit GhC

/-- pairs that have some moduli -/
def Mt : List Nat → List (Int × Int) → Prop
  | [], P => P = []
  | m :: M, P => ∃ a, a < m ∧ ∃ P', P = ((a : Int), (m : Int)) :: P' ∧ Mt M P'
/-- what is looked for -/
def gl (ex : Bool) (W : Nat) (F : List (Int × Int)) : Prop := if ex = true then ∀ j, j < W → cf F j ≤ 1 else lf (cf F) W = 0
theorem onB_iff {f : Nat → Int} {a m W : Nat} : onB f a m W = true ↔ ∀ j, j < W → cov ((a : Int), (m : Int)) (j : Int) = true → f j + 1 < 2 := by unfold onB; exact decide_eq_true_iff
theorem cf_snoc (F : List (Int × Int)) (p : Int × Int) (j : Nat) : cf (F ++ [p]) j = cf F j + (if cov p (j : Int) then 1 else 0) := by
  unfold cf
  rw [cnt_append, cnt_one]
  split <;> simp
theorem cf_app (F P : List (Int × Int)) (j : Nat) : cf (F ++ P) j = cf F j + cf P j := by unfold cf; rw [cnt_append]; push_cast; rfl
theorem cf_nn (F : List (Int × Int)) (j : Nat) : 0 ≤ cf F j := by unfold cf; omega
theorem lf_zero {f : Nat → Int} : ∀ k, lf f k = 0 ↔ ∀ j, j < k → f j ≠ 0
  | 0 => by simp [lf]
  | k + 1 => by
    rw [lf]
    have hb := (lf_bd f k).1
    constructor
    · intro h j hj
      have h1 : ¬ f k = 0 := fun e => by rw [if_pos e] at h; omega
      rw [if_neg h1, Int.add_zero] at h
      by_cases e : j = k
      · subst e; exact h1
      · exact (lf_zero k).1 h j (by omega)
    · intro h
      rw [if_neg (h k (by omega)), (lf_zero k).2 (fun j hj => h j (by omega))]; rfl
theorem lf_step (F : List (Int × Int)) (p : Int × Int) : ∀ k : Nat, lf (cf F) k ≤ lf (cf (F ++ [p])) k + Cm p 1 k 0
  | 0 => by simp [lf, Cm]
  | k + 1 => by
    have ih := lf_step F p k
    rw [lf, lf, Cm, cf_snoc]
    have e : (0 : Int) + (k : Int) * 1 = (k : Int) := by omega
    rw [e]
    have h0 := cf_nn F k
    by_cases hc : cov p (k : Int) = true
    · rw [if_pos hc, if_neg (show ¬ cf F k + 1 = 0 by omega)]
      split <;> omega
    · rw [if_neg hc]
      simp only [Int.add_zero]
      omega
theorem cov_count {a m W : Nat} (ha : a < m) (h : m ∣ W) : Cm ((a : Int), (m : Int)) 1 W 0 = ((W / m : Nat) : Int) := by
  obtain ⟨q, rfl⟩ := h
  rw [Nat.mul_div_cancel_left _ (by omega), Nat.mul_comm]
  exact Cm_times rfl (by show (0 : Int) ≤ (a : Int); omega) (by show (a : Int) < (m : Int); omega) q
theorem lf_room {W : Nat} : ∀ {M : List Nat} {P : List (Int × Int)} (F : List (Int × Int)), Mt M P → (∀ m ∈ M, m ∣ W) → lf (cf F) W ≤ lf (cf (F ++ P)) W + (rmS W M : Int)
  | [], P, F, h, _ => by
    have h : P = [] := h
    subst h
    rw [List.append_nil, rmS]; omega
  | m :: M, P, F, h, hd => by
    obtain ⟨a, ha, P', rfl, h'⟩ := h
    have h1 := lf_step F ((a : Int), (m : Int)) W
    have h2 := lf_room (F ++ [((a : Int), (m : Int))]) h' (fun x hx => hd x (List.mem_cons_of_mem _ hx))
    rw [cov_count ha (hd m (List.mem_cons_self ..))] at h1
    rw [List.append_assoc] at h2
    rw [rmS]
    push_cast
    have h3 : F ++ ((a : Int), (m : Int)) :: P' = F ++ ([((a : Int), (m : Int))] ++ P') := rfl
    rw [h3]
    have h4 : ((W / m : Nat) : Int) = (W : Int) / (m : Int) := Int.natCast_ediv W m
    omega
theorem fst_is {α : Type} {g : Nat → Option α} {a : Nat} (h : (g a).isSome = true) : ∀ m, a < m → (fst' m g).isSome = true
  | 0, hm => by omega
  | m + 1, hm => by
    rw [fst']
    by_cases e : m = a
    · subst e
      cases h2 : fst' m g with
      | some x => rfl
      | none => exact h
    · have := fst_is h m (by omega)
      cases h2 : fst' m g with
      | some x => rfl
      | none => rw [h2] at this; cases this

theorem srch_sound {ex : Bool} {W : Nat} : ∀ {M : List Nat} {F F' : List (Int × Int)}, srch ex W M F = some F' → (ex = true → ∀ j, j < W → cf F j ≤ 1) → ∃ P, Mt M P ∧ F' = F ++ P ∧ gl ex W F'
  | [], F, F', h, hf => by
    rw [srch] at h
    split at h
    · next hc =>
      injection h with h
      subst h
      refine ⟨[], rfl, (List.append_nil _).symm, ?_⟩
      unfold gl
      cases ex with
      | true => exact hf rfl
      | false => rcases hc with hc | hc
                 · cases hc
                 · exact hc
    · cases h
  | m :: M, F, F', h, hf => by
    rw [srch] at h
    split at h
    · cases h
    · obtain ⟨a, ha, h2⟩ := fst_some' h
      split at h2
      · next hc =>
        obtain ⟨P, h3, h4, h5⟩ := srch_sound h2 (fun he j hj => by
          rw [cf_snoc]
          rcases hc with hc | hc
          · by_cases hcv : cov ((a : Int), (m : Int)) (j : Int) = true
            · rw [if_pos hcv]
              have := onB_iff.1 hc j hj hcv
              omega
            · rw [if_neg hcv, Int.add_zero]; exact hf he j hj
          · rw [he] at hc; cases hc)
        exact ⟨((a : Int), (m : Int)) :: P, ⟨a, ha, P, rfl, h3⟩, by rw [h4, List.append_assoc]; rfl, h5⟩
      · cases h2
theorem srch_complete {ex : Bool} {W : Nat} : ∀ {M : List Nat} {P F : List (Int × Int)}, Mt M P → (∀ m ∈ M, m ∣ W) → gl ex W (F ++ P) → (srch ex W M F).isSome = true
  | [], P, F, h, _, hg => by
    have h : P = [] := h
    subst h
    rw [List.append_nil] at hg
    rw [srch]
    unfold gl at hg
    cases ex with
    | true => rfl
    | false => rw [if_pos (.inr hg)]; rfl
  | m :: M, P, F, h, hd, hg => by
    have hr := lf_room F h hd
    obtain ⟨a, ha, P', rfl, h'⟩ := h
    rw [srch]
    have hno : ¬ (ex = false ∧ (rmS W (m :: M) : Int) < lf (cf F) W) := by
      rintro ⟨rfl, h2⟩
      unfold gl at hg
      rw [if_neg (by decide)] at hg
      omega
    rw [if_neg hno]
    have hg2 : gl ex W ((F ++ [((a : Int), (m : Int))]) ++ P') := by rw [List.append_assoc]; exact hg
    have hs := srch_complete h' (fun x hx => hd x (List.mem_cons_of_mem _ hx)) hg2
    refine fst_is (a := a) ?_ m ha
    rw [if_pos]
    · exact hs
    · cases ex with
      | false => exact .inr rfl
      | true =>
        left
        rw [onB_iff]
        intro j hj hcv
        unfold gl at hg2
        have h3 := hg2 j hj
        rw [cf_app, cf_snoc, if_pos hcv] at h3
        have := cf_nn P' j
        omega
/-- there is something to find -/
theorem srch_iff {ex : Bool} {W : Nat} {M : List Nat} (hd : ∀ m ∈ M, m ∣ W) : (srch ex W M []).isSome = true ↔ ∃ P, Mt M P ∧ gl ex W P := by
  constructor
  · intro h
    obtain ⟨F', h2⟩ := Option.isSome_iff_exists.1 h
    obtain ⟨P, h3, h4, h5⟩ := srch_sound h2 (fun _ j _ => by show cf [] j ≤ 1; have : cf [] j = 0 := rfl; omega)
    rw [List.nil_append] at h4
    subst h4
    exact ⟨_, h3, h5⟩
  · rintro ⟨P, h1, h2⟩
    exact srch_complete h1 hd (by rw [List.nil_append]; exact h2)

/-! ### the moduli turned -/
theorem Mt_app : ∀ {M N : List Nat} {P Q : List (Int × Int)}, Mt M P → Mt N Q → Mt (M ++ N) (P ++ Q)
  | [], N, P, Q, h, k => by
    have h : P = [] := h
    subst h; exact k
  | m :: M, N, P, Q, h, k => by
    obtain ⟨a, ha, P', rfl, h'⟩ := h
    exact ⟨a, ha, P' ++ Q, rfl, Mt_app h' k⟩
theorem Mt_split : ∀ {M N : List Nat} {R : List (Int × Int)}, Mt (M ++ N) R → ∃ P Q, R = P ++ Q ∧ Mt M P ∧ Mt N Q
  | [], N, R, h => ⟨[], R, rfl, rfl, h⟩
  | m :: M, N, R, h => by
    obtain ⟨a, ha, R', rfl, h'⟩ := h
    obtain ⟨P, Q, rfl, h1, h2⟩ := Mt_split h'
    exact ⟨((a : Int), (m : Int)) :: P, Q, rfl, ⟨a, ha, P, rfl, h1⟩, h2⟩
theorem gl_comm {ex : Bool} {W : Nat} {P Q : List (Int × Int)} (h : gl ex W (P ++ Q)) : gl ex W (Q ++ P) := by
  have e : ∀ j, j < W → cf (P ++ Q) j = cf (Q ++ P) j := fun j _ => by rw [cf_app, cf_app]; omega
  unfold gl at h ⊢
  cases ex with
  | true => intro j hj; have := h j hj; rw [e j hj] at this; exact this
  | false =>
    rw [if_neg (by decide)] at h ⊢
    rw [← lf_congr W e]; exact h
theorem srch_turn {ex : Bool} {W : Nat} {M N : List Nat} (h1 : ∀ m ∈ M, m ∣ W) (h2 : ∀ m ∈ N, m ∣ W) : (srch ex W (M ++ N) []).isSome = (srch ex W (N ++ M) []).isSome := by
  have key : ∀ {M N : List Nat}, (∀ m ∈ M, m ∣ W) → (∀ m ∈ N, m ∣ W) → (srch ex W (M ++ N) []).isSome = true → (srch ex W (N ++ M) []).isSome = true := fun {M N} h1 h2 h => by
    obtain ⟨R, h3, h4⟩ := (srch_iff (fun m hm => by rcases List.mem_append.1 hm with h | h; exact h1 m h; exact h2 m h)).1 h
    obtain ⟨P, Q, rfl, h5, h6⟩ := Mt_split h3
    exact (srch_iff (fun m hm => by rcases List.mem_append.1 hm with h | h; exact h2 m h; exact h1 m h)).2 ⟨Q ++ P, Mt_app h6 h5, gl_comm h4⟩
  rw [Bool.eq_iff_iff]
  exact ⟨key h1 h2, key h2 h1⟩
end Go.Proofs.Ytmmgidhaakkaoaa
