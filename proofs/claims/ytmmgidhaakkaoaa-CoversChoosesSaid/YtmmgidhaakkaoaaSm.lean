/- Finite sums over an initial piece of the numbers, and what an injective map of such a piece into itself does to them. -/
namespace GhN

def sm (f : Nat → Nat) : Nat → Nat
  | 0 => 0
  | m+1 => sm f m + f m

theorem sm_congr {f g : Nat → Nat} {m : Nat} (h : ∀ k, k < m → f k = g k) : sm f m = sm g m := by
  induction m with
  | zero => rfl
  | succ m ih => simp only [sm]; rw [ih (fun k hk => h k (by omega)), h m (by omega)]

theorem sm_add (f g : Nat → Nat) (m : Nat) : sm (fun k => f k + g k) m = sm f m + sm g m := by
  induction m with
  | zero => rfl
  | succ m ih => simp only [sm, ih]; omega

theorem sm_mul (c : Nat) (f : Nat → Nat) (m : Nat) : sm (fun k => c * f k) m = c * sm f m := by
  induction m with
  | zero => rfl
  | succ m ih => simp only [sm, ih, Nat.mul_add]

theorem sm_zero (m : Nat) : sm (fun _ => 0) m = 0 := by
  induction m with
  | zero => rfl
  | succ m ih => simp only [sm, ih]

theorem sm_one (m : Nat) : sm (fun _ => 1) m = m := by
  induction m with
  | zero => rfl
  | succ m ih => simp only [sm, ih]

theorem sm_const (c m : Nat) : sm (fun _ => c) m = c * m := by
  induction m with
  | zero => rfl
  | succ m ih => simp only [sm, ih, Nat.mul_succ]

theorem sm_swap (f : Nat → Nat → Nat) (m n : Nat) : sm (fun i => sm (fun j => f i j) n) m = sm (fun j => sm (fun i => f i j) m) n := by
  induction m with
  | zero => simp only [sm]; rw [sm_zero]
  | succ m ih => simp only [sm]; rw [ih, ← sm_add]

theorem sm_le {f g : Nat → Nat} {m : Nat} (h : ∀ k, k < m → f k ≤ g k) : sm f m ≤ sm g m := by
  induction m with
  | zero => exact Nat.le_refl _
  | succ m ih => simp only [sm]; have := ih (fun k hk => h k (by omega)); have := h m (by omega); omega

theorem sm_pos {f : Nat → Nat} {m k : Nat} (hk : k < m) (h : 0 < f k) : 0 < sm f m := by
  induction m with
  | zero => omega
  | succ m ih =>
    simp only [sm]
    by_cases e : k = m
    · subst e; omega
    · have := ih (by omega); omega

theorem sm_eq_zero {f : Nat → Nat} {m : Nat} (h : sm f m = 0) : ∀ k, k < m → f k = 0 := by
  intro k hk
  by_cases e : f k = 0
  · exact e
  · have := sm_pos hk (Nat.pos_of_ne_zero e); omega

/-- only one place counts -/
theorem sm_delta (f : Nat → Nat) (m j : Nat) : sm (fun k => if k = j then f k else 0) m = if j < m then f j else 0 := by
  induction m with
  | zero => simp [sm]
  | succ m ih =>
    simp only [sm, ih]
    by_cases e : m = j
    · subst e; simp
    · rw [if_neg e]
      by_cases h : j < m
      · rw [if_pos h, if_pos (by omega)]; omega
      · rw [if_neg h, if_neg (by omega)]

theorem sm_le_sum_eq {f g : Nat → Nat} {m : Nat} (h : ∀ k, k < m → f k ≤ g k) (hs : sm g m ≤ sm f m) : ∀ k, k < m → f k = g k := by
  induction m with
  | zero => intro k hk; omega
  | succ m ih =>
    simp only [sm] at hs
    have h1 := sm_le (f := f) (g := g) (m := m) (fun k hk => h k (by omega))
    have h2 := h m (by omega)
    intro k hk
    by_cases e : k = m
    · subst e; omega
    · exact ih (fun k hk => h k (by omega)) (by omega) k (by omega)

/-- an injective map of the first m numbers into themselves meets each one just once -/
theorem fibre_one {m : Nat} {s : Nat → Nat} (hs : ∀ k, k < m → s k < m) (hi : ∀ k l, k < m → l < m → s k = s l → k = l) :
    ∀ j, j < m → sm (fun k => if s k = j then 1 else 0) m = 1 := by
  have hle : ∀ j, j < m → sm (fun k => if s k = j then 1 else 0) m ≤ 1 := by
    intro j hj
    by_cases hx : ∃ k, k < m ∧ s k = j
    · obtain ⟨k0, hk0, e0⟩ := hx
      have : sm (fun k => if s k = j then 1 else 0) m = sm (fun k => if k = k0 then 1 else 0) m := by
        refine sm_congr (fun k hk => ?_)
        by_cases e : k = k0
        · subst e; rw [if_pos e0, if_pos rfl]
        · rw [if_neg e, if_neg (fun h => e (hi k k0 hk hk0 (by rw [h, e0])))]
      rw [this, sm_delta (fun _ => 1)]; split <;> omega
    · have : sm (fun k => if s k = j then 1 else 0) m = sm (fun _ => 0) m :=
        sm_congr (fun k hk => if_neg (fun h => hx ⟨k, hk, h⟩))
      rw [this, sm_zero]; omega
  have htot : sm (fun j => sm (fun k => if s k = j then 1 else 0) m) m = m := by
    rw [sm_swap]
    have : sm (fun k => sm (fun j => if s k = j then 1 else 0) m) m = sm (fun _ => 1) m := by
      refine sm_congr (fun k hk => ?_)
      have := sm_delta (fun _ => 1) m (s k)
      rw [if_pos (hs k hk)] at this
      refine Eq.trans (sm_congr (fun j _ => ?_)) this
      by_cases e : s k = j
      · rw [if_pos e, if_pos e.symm]
      · rw [if_neg e, if_neg (fun h => e h.symm)]
    rw [this, sm_one]
  intro j hj
  exact sm_le_sum_eq (g := fun _ => 1) hle (by rw [htot, sm_one]; exact Nat.le_refl _) j hj

theorem sm_inj {m : Nat} {s : Nat → Nat} (hs : ∀ k, k < m → s k < m) (hi : ∀ k l, k < m → l < m → s k = s l → k = l) (f : Nat → Nat) :
    sm (fun k => f (s k)) m = sm f m := by
  have h1 : sm (fun k => f (s k)) m = sm (fun k => sm (fun j => if j = s k then f j else 0) m) m :=
    sm_congr (fun k hk => by rw [sm_delta, if_pos (hs k hk)])
  rw [h1, sm_swap]
  refine sm_congr (fun j hj => ?_)
  have h2 := fibre_one hs hi j hj
  have h3 : sm (fun k => if j = s k then f j else 0) m = sm (fun k => f j * (if s k = j then 1 else 0)) m :=
    sm_congr (fun k _ => by
      by_cases e : s k = j
      · rw [if_pos e, if_pos e.symm, Nat.mul_one]
      · rw [if_neg e, if_neg (fun h => e h.symm), Nat.mul_zero])
  rw [h3, sm_mul, h2, Nat.mul_one]

theorem surj_of_inj {m : Nat} {s : Nat → Nat} (hs : ∀ k, k < m → s k < m) (hi : ∀ k l, k < m → l < m → s k = s l → k = l) :
    ∀ j, j < m → ∃ k, k < m ∧ s k = j := by
  intro j hj
  have h := fibre_one hs hi j hj
  by_cases hx : ∃ k, k < m ∧ s k = j
  · exact hx
  · have : sm (fun k => if s k = j then 1 else 0) m = sm (fun _ => 0) m :=
      sm_congr (fun k hk => if_neg (fun e => hx ⟨k, hk, e⟩))
    rw [this, sm_zero] at h; omega

/-- the first m numbers, moved by one such map, as a list -/
theorem perm_of_inj {m : Nat} {s : Nat → Nat} (hs : ∀ k, k < m → s k < m) (hi : ∀ k l, k < m → l < m → s k = s l → k = l) :
    ((List.range m).map s).Perm (List.range m) := by
  rw [List.perm_ext_iff_of_nodup]
  · intro a
    simp only [List.mem_map, List.mem_range]
    constructor
    · rintro ⟨k, hk, rfl⟩; exact hs k hk
    · intro h; obtain ⟨k, hk, e⟩ := surj_of_inj hs hi a h; exact ⟨k, hk, e⟩
  · rw [List.nodup_iff_pairwise_ne, List.pairwise_map]
    have : (List.range m).Nodup := List.nodup_range
    rw [List.nodup_iff_pairwise_ne] at this
    refine List.Pairwise.imp_of_mem ?_ this
    intro a b ha hb hab e
    exact hab (hi a b (List.mem_range.1 ha) (List.mem_range.1 hb) e)
  · exact List.nodup_range

end GhN
