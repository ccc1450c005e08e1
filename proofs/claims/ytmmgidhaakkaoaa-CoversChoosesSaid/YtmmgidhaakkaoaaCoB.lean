/- Copies of slices of pairs; reading a system. -/
import Derived.Test.YtmmgidhaakkaoaaCoA
import Derived.WalkSpells
import Derived.WalkLawsBesides
namespace Go.Proofs.Ytmmgidhaakkaoaa
open Go Go.RowKit

def flat (L : List (Int × Int)) : List Value := L.flatMap fun p => [.int .i64 p.1, .int .i64 p.2]
theorem flat_append (L M : List (Int × Int)) : flat (L ++ M) = flat L ++ flat M := by simp [flat]
theorem flat_len (L : List (Int × Int)) : (flat L).length = L.length * 2 := by
  induction L with
  | nil => rfl
  | cons p L ih => simp [flat] at ih ⊢; omega
theorem flat_at : ∀ (L : List (Int × Int)) (k : Nat) (p : Int × Int), L[k]? = some p → (flat L)[k * 2]? = some (.int .i64 p.1) ∧ (flat L)[k * 2 + 1]? = some (.int .i64 p.2)
  | [], k, p, h => by simp at h
  | q :: L, 0, p, h => by
    simp at h; subst h; exact ⟨rfl, rfl⟩
  | q :: L, k + 1, p, h => by
    have := flat_at L k p (by simpa using h)
    have e : (k + 1) * 2 = k * 2 + 1 + 1 := by omega
    rw [e]
    exact this
theorem flat_one (L : List (Int × Int)) : ∀ u ∈ flat L, u.oneCell' = true := by
  intro u hu
  obtain ⟨p, _, hp⟩ := List.mem_flatMap.1 hu
  simp at hp
  rcases hp with rfl | rfl <;> simp [Value.oneCell']

theorem add_none (b off j : Nat) : (⟨b, off, none⟩ : Addr).add j = ⟨b, off + j, none⟩ := by
  unfold Addr.add; split
  · next h => rw [h]; rfl
  · rfl

theorem Row.flat {w : World} {B : Nat} {b off n : Nat} {L : List (Int × Int)} (h : Row w B (some ⟨b, off, none⟩) n L) : ∀ j u, (flat L)[j]? = some u → w.cell? ((⟨b, off, none⟩ : Addr).add j) = some u := by
  intro j u hu
  have hj : j < L.length * 2 := by
    have := (List.getElem?_eq_some_iff.1 hu).1
    rwa [flat_len] at this
  have hk : j / 2 < L.length := by omega
  obtain ⟨p, hp⟩ : ∃ p, L[j / 2]? = some p := ⟨_, List.getElem?_eq_getElem hk⟩
  obtain ⟨b', off', e, _, hc⟩ := h.2 (by have := h.1; omega)
  injection e with e
  injection e with e1 e2
  subst e1 e2
  obtain ⟨c1, c2⟩ := hc _ p hp
  obtain ⟨f1, f2⟩ := flat_at L _ p hp
  rw [add_none]
  by_cases hm : j % 2 = 0
  · have : j = j / 2 * 2 := by omega
    rw [← this] at f1 c1
    rw [f1] at hu
    injection hu with hu
    rw [← hu]; exact c1
  · have : j = j / 2 * 2 + 1 := by omega
    rw [← this] at f2
    rw [Nat.add_assoc, ← this] at c2
    rw [f2] at hu
    injection hu with hu
    rw [← hu]; exact c2

theorem Row.of_own {w : World} {base n c : Nat} {e : TypeId} {A : Option Addr} {L : List (Int × Int)} (h : w.ownsRow base e 2 (.slice A n c) n (Go.Proofs.Ytmmgidhaakkaoaa.flat L)) : Row w w.heap.size A n L := by
  have hl : n = L.length := by have := h.1; rw [flat_len] at this; omega
  refine ⟨hl, fun hn => ?_⟩
  rcases h.2 with ⟨_, h0⟩ | ⟨g, cap, cur, hv, hg, hh, r⟩
  · omega
  · injection hv with hA _ hc
    subst hA
    refine ⟨g, 0, rfl, (Array.getElem?_eq_some_iff.1 hh).1, fun k p hp => ?_⟩
    have hcells := h.cells (g := g) rfl
    obtain ⟨f1, f2⟩ := flat_at L k p hp
    have g1 := hcells _ _ f1
    have g2 := hcells _ _ f2
    rw [add_none] at g1 g2
    exact ⟨g1, by rw [Nat.add_assoc]; exact g2⟩

theorem infoP : (Try.prog.info? 29).map (fun i => (i.zero, i.size, i.bytes)) = some (some (.agg #[.int .i64 0, .int .i64 0]), 2, 16) := by kernel_rfl
theorem infoQ : (Try.prog.info? 68).map (fun i => (i.zero, i.size, i.bytes)) = some (some (.agg #[.int .i64 0, .int .i64 0]), 2, 16) := by kernel_rfl

/-- a result that is a slice of pairs in new or old memory -/
def GivesRow (w : World) (L : List (Int × Int)) (e : Ending) (w' : World) : Prop :=
  ∃ A n c, e = .returned (.slice A n c) ∧ Row w' w'.heap.size A n L ∧ Below w.heap.size w w'

set_option maxHeartbeats 400000 in
set_option maxRecDepth 100000 in
theorem clone_any (A : Option Addr) (n c : Nat) (L : List (Int × Int)) (w : World) (h : Row w w.heap.size A n L) (hn : n ≤ 1000000) (hA : A = none → n = 0) :
    Calls Try.prog 26 #[.slice A n c] w (GivesRow w L) := by
  have HR := Lib.hid h
  have HL := Lib.hid h.1
  clear h
  have heq := fun (w : World) => Lib.run_eql_slice_nil (P := Try.prog) w 22 29 A n c 0 0 Try.underlying22
  cases A with
  | none =>
    obtain rfl := hA rfl
    go_enter Try.func26, Try.ntmps26
    go_wp2
    go_ret
    exact ⟨none, 0, 0, rfl, HR.out, Below.refl _ _⟩
  | some ad =>
    obtain ⟨i0, hi, hz0, hz1, hz2⟩ := info_parts infoP
    go_enter Try.func26, Try.ntmps26
    have hown : (w.alloc (Obj.cells #[] 29)).ownsRow w.heap.size 29 2 (.slice (some ⟨w.heap.size, 0, none⟩) 0 0) 0 [] :=
      ⟨rfl, .inr ⟨w.heap.size, 0, #[], rfl, Nat.le_refl _, (by show (w.heap.push _)[w.heap.size]? = _; simp), Nat.le_refl _, by decide, rfl, rfl⟩⟩
    have hnews : ∀ j u, (flat L)[j]? = some u → (w.alloc (Obj.cells #[] 29)).cell? (ad.add j) = some u := by
      intro j u hu
      have hn0 : 0 < n := by
        have := (List.getElem?_eq_some_iff.1 hu).1
        rw [flat_len, ← HL.out] at this; omega
      obtain ⟨b, off, e, hb, _⟩ := HR.out.2 hn0
      injection e with e
      subst e
      have := HR.out.flat j u hu
      rw [add_none] at this ⊢
      rw [World.cell?_alloc_lt _ _ _ hb]; exact this
    have HO := Lib.hid hown
    have HN := Lib.hid hnews
    have H1 : Hid ((flat L).length = n * 2) := Lib.hid (by rw [flat_len, HL.out])
    have H3 : Hid (0 + n ≤ maxLen) := Lib.hid (by unfold maxLen; omega)
    have H4 : Hid ((0 + n) * 16 ≤ 140737488355328) := Lib.hid (by omega)
    have H5 : Hid (w.heap.size ≤ (w.alloc (Obj.cells #[] 29)).heap.size) := Lib.hid (by simp)
    clear hown hnews heq
    have heq2 := Lib.run_eql_slice_nil (P := Try.prog) w 22 29 (some ad) n c 0 0 Try.underlying22
    go_wp2_with (at_builtin; refine wpList_append_own _ rfl _ _ 22 rfl w.heap.size 29 i0 (.agg #[.int .i64 0, .int .i64 0]) 2 16 Try.underlying22 hi hz0 hz1 hz2 rfl (by decide) _ 0 [] rfl HO.out ad n c (flat L) rfl H1.out HN.out (flat_one L) H3.out H4.out H5.out ?_; intro v' w1 hown' hgrow _)
    go_ret
    rw [Nat.zero_add, List.nil_append] at hown'
    have hbw : Below w.heap.size w w1 := ((Below.refl _ _).alloc (Nat.le_refl _) _).grown hgrow (by simp) (fun k e => by cases e; exact Nat.le_refl _)
    rcases hown'.2 with ⟨rfl, h0⟩ | ⟨g, cap, cur, rfl, _⟩
    · exact ⟨none, 0, 0, rfl, by have := Row.of_own (n := 0) (c := 0) (A := none) (by subst h0; exact hown'); exact this, hbw⟩
    · exact ⟨_, n, cap, rfl, Row.of_own hown', hbw⟩

theorem Row.take {w : World} {B n k : Nat} {A : Option Addr} {L : List (Int × Int)} (h : Row w B A n L) (hk : k ≤ n) : Row w B A k (L.take k) := by
  refine ⟨by rw [List.length_take]; have := h.1; omega, fun h0 => ?_⟩
  obtain ⟨b, off, e, hb, hc⟩ := h.2 (by omega)
  refine ⟨b, off, e, hb, fun j p hp => hc j p ?_⟩
  have hj : j < (L.take k).length := (List.getElem?_eq_some_iff.1 hp).1
  rw [List.length_take] at hj
  rw [List.getElem?_take] at hp
  split at hp
  · exact hp
  · cases hp

theorem pairs_any (A : Option Addr) (n c : Nat) (L : List (Int × Int)) (w : World) (h : Row w w.heap.size A n L) (hn : n ≤ c) (hc : c ≤ maxLen) (hA : A = none → n = 0 ∧ c = 0) :
    Calls Try.prog 16 #[.slice A n c] w (GivesRow w (L.take 12)) := by
  unfold maxLen at hc
  by_cases h12 : n ≤ 12
  · have HR : Hid (Row w w.heap.size A n (L.take 12)) := Lib.hid (by rw [List.take_of_length_le (by rw [← h.1]; exact h12)]; exact h)
    have HA : Hid (A = none → n = 0) := Lib.hid (fun e => (hA e).1)
    clear h
    cases A with
    | none =>
      obtain ⟨rfl, rfl⟩ := hA rfl
      go_enter Try.func16, Try.ntmps16
      go_wp2_with fail
      refine (clone_any none 0 0 (L.take 12) _ HR.out (by omega) (fun _ => rfl)).mono ?_
      rintro e w1 ⟨A1, n1, c1, rfl, hr, hb⟩
      go_wp2_with fail
      go_ret
      exact ⟨A1, n1, c1, rfl, hr, hb⟩
    | some ad =>
      clear hA
      go_enter Try.func16, Try.ntmps16
      go_wp2_with fail
      refine (clone_any (some ad) n c (L.take 12) _ HR.out (by omega) (fun h => by cases h)).mono ?_
      rintro e w1 ⟨A1, n1, c1, rfl, hr, hb⟩
      go_wp2_with fail
      go_ret
      exact ⟨A1, n1, c1, rfl, hr, hb⟩
  · cases A with
    | none => have := (hA rfl).1; omega
    | some ad =>
      have HR : Hid (Row w w.heap.size (some ad) 12 (L.take 12)) := Lib.hid (h.take (by omega))
      clear h hA
      go_enter Try.func16, Try.ntmps16
      go_wp2_with fail
      refine (clone_any (some ad) 12 c (L.take 12) _ HR.out (by omega) (fun h => by cases h)).mono ?_
      rintro e w1 ⟨A1, n1, c1, rfl, hr, hb⟩
      go_wp2_with fail
      go_ret
      exact ⟨A1, n1, c1, rfl, hr, hb⟩

/-- the least common multiple as the program steps to it; it stops above 10080 -/
def wh : List (Int × Int) → Nat → Nat
  | [], n => n
  | p :: L, n => if 10080 < n / Nat.gcd n p.2.toNat * p.2.toNat then n / Nat.gcd n p.2.toNat * p.2.toNat else wh L (n / Nat.gcd n p.2.toNat * p.2.toNat)

/-- pairs whose moduli are from 1 to 60 -/
def Mods (L : List (Int × Int)) : Prop := ∀ p ∈ L, 1 ≤ p.2 ∧ p.2 ≤ 60

theorem lcm_step_bd {n m : Nat} (hn : n ≤ 10080) (hm : m ≤ 60) : n / Nat.gcd n m * m ≤ 604800 := by
  have h1 : n / Nat.gcd n m ≤ n := Nat.div_le_self _ _
  have := Nat.mul_le_mul (Nat.le_trans h1 hn) hm
  omega

set_option maxHeartbeats 400000 in
theorem whole_any (A : Option Addr) (l c : Nat) (L : List (Int × Int)) (w : World) (h : Row w w.heap.size A l L) (hm : Mods L) (hl : l ≤ 1000000) :
    Calls Try.prog 52 #[.slice A l c] w fun e w' => e = .returned (.int .i64 ((wh L 1 : Nat) : Int)) ∧ Below w.heap.size w w' := by
  have HR := Lib.hid h
  have HM := Lib.hid hm
  have HL := Lib.hid h.1
  clear h hm
  go_enter Try.func52, Try.ntmps52
  go_wp2_with fail
  go_loopw [3, 8] (fun o x wr => ∃ k v : Nat, k ≤ l ∧ 1 ≤ v ∧ v ≤ 10080 ∧ Hid (wh L 1 = wh (L.drop k) v) ∧ o = .int .i64 (v : Int) ∧ x = .int .i64 (k : Int) ∧ Below w.heap.size w wr) (fun _ x _ => l - (intOf x).toNat)
  case atStart => exact ⟨0, 1, by omega, by omega, by omega, rfl, rfl, rfl, Below.refl _ _⟩
  case round =>
    obtain ⟨k, v, hk, v1, v2, hv, rfl, rfl, hb⟩ := hrel
    by_cases hlt : k < l
    · obtain ⟨b, off, x, m, hx, rfl, hB, c1, c2⟩ := (HR.out.below hb).at_ hlt
      obtain ⟨m1, m2⟩ := HM.out (x, m) (List.mem_of_getElem? hx)
      obtain ⟨M, rfl⟩ : ∃ M : Nat, m = M := ⟨m.toNat, by simp at m1; omega⟩
      simp only at m1 m2
      have hdrop : L.drop k = (x, (M : Int)) :: L.drop (k + 1) := by
        obtain ⟨hk2, e⟩ := List.getElem?_eq_some_iff.1 hx
        rw [List.drop_eq_getElem_cons hk2, e]
      have hst : wh (L.drop k) v = if 10080 < v / Nat.gcd v M * M then v / Nat.gcd v M * M else wh (L.drop (k + 1)) (v / Nat.gcd v M * M) := by rw [hdrop]; rfl
      have HS := Lib.hid hst
      clear hx hdrop hst
      go_wp2_with fail
      go_quiet ((go_at_call 54; refine Calls.quiet_of (cgcd_any v M _ (by omega) (by omega))))
      have hN := lcm_step_bd (n := v) (m := M) v2 (by omega)
      have hg0 : 0 < Nat.gcd v M := Nat.gcd_pos_of_pos_left _ (by omega)
      have hN0 : 1 ≤ v / Nat.gcd v M * M := by
        have h1 : 0 < v / Nat.gcd v M := Nat.div_pos (Nat.le_of_dvd (by omega) (Nat.gcd_dvd_left _ _)) hg0
        have := Nat.mul_pos h1 (show 0 < M by omega)
        omega
      have hW : wrap64 (wrap64 ((v : Int) / ((Nat.gcd v M : Nat) : Int)) * (M : Int)) = ((v / Nat.gcd v M * M : Nat) : Int) := by
        have h1 : (v : Int) / ((Nat.gcd v M : Nat) : Int) = ((v / Nat.gcd v M : Nat) : Int) := by rw [Int.natCast_ediv]
        have h2 : v / Nat.gcd v M ≤ v := Nat.div_le_self _ _
        rw [h1]
        rw [w64n _ (by omega), ← Int.natCast_mul, w64n _ (by omega)]
      rw [hW]
      clear hW hg0
      obtain ⟨N, hNe⟩ : ∃ N, v / Nat.gcd v M * M = N := ⟨_, rfl⟩
      have HS2 : Hid (wh (L.drop k) v = if 10080 < N then N else wh (L.drop (k + 1)) N) := Lib.hid (by rw [HS.out, hNe])
      rw [hNe] at hN hN0 ⊢
      clear HS hNe
      by_cases hbig : 10080 < N
      · have HE : Hid (wh L 1 = N) := Lib.hid (by rw [hv.out, HS2.out, if_pos hbig])
        go_wp2_with fail
        go_ret
        exact ⟨by rw [HE.out]; rfl, bt hb (bdN ((Below.refl _ _).alloc (Nat.le_refl _) _) _)⟩
      · have HE : Hid (wh L 1 = wh (L.drop (k + 1)) N) := Lib.hid (by rw [hv.out, HS2.out, if_neg hbig])
        go_wp2_with fail
        go_roundw
        case rel => exact ⟨k + 1, N, by omega, by omega, by omega, HE, rfl, by go_num, bt hb (bdN ((Below.refl _ _).alloc (Nat.le_refl _) _) _)⟩
        case measure => simp [intOf]; omega
    · have HE : Hid (wh L 1 = v) := Lib.hid (by rw [hv.out, List.drop_of_length_le (by rw [← HL.out]; omega)]; rfl)
      go_wp2_with fail
      go_ret
      exact ⟨by rw [HE.out]; rfl, hb⟩
end Go.Proofs.Ytmmgidhaakkaoaa
