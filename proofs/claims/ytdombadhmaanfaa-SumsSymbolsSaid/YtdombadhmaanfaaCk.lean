/- Equality of chains; a copy of a chain; CheckChain. -/
import Derived.Test.YtdombadhmaanfaaCc
import Derived.ChangeKeysEq
import Derived.WalkSpells
import Derived.WalkLawsBesides
namespace Go.Proofs.Ytdombadhmaanfaa
open Go Go.RowKit GhN

/-- a step, as one value -/
abbrev agS (x : Int × Int × Int × Int) : Value := .agg #[.int .i64 x.1, .int .i64 x.2.1, .int .i64 x.2.2.1, .int .i64 x.2.2.2]

theorem eq_step (x y : Int × Int × Int × Int) (w : World) : (Op.equalIn 10000 48 (agS x) (agS y)).run Try.prog w = .ok (decide (x = y)) w := by
  obtain ⟨a, b, c, d⟩ := x
  obtain ⟨e, f, g, h⟩ := y
  by_cases h1 : a = e <;> by_cases h2 : b = f <;> by_cases h3 : c = g <;> by_cases h4 : d = h <;> simp [go_sem, h1, h2, h3, h4]

theorem Rw.cells4 {w : World} {B : Nat} {A : Option Addr} {n : Nat} {L : List (Int × Int × Int × Int)} (h : Rw 4 encS w B A n L) {k : Nat} (hk : k < n) :
    ∃ b off x, L[k]? = some x ∧ A = some ⟨b, off, none⟩ ∧ b < B ∧ w.cell? ⟨b, off + k * 4, none⟩ = some (.int .i64 x.1) ∧ w.cell? ⟨b, off + k * 4 + 1, none⟩ = some (.int .i64 x.2.1) ∧
      w.cell? ⟨b, off + k * 4 + 2, none⟩ = some (.int .i64 x.2.2.1) ∧ w.cell? ⟨b, off + k * 4 + 3, none⟩ = some (.int .i64 x.2.2.2) := by
  obtain ⟨b, off, x, hx, hA, hB, hc⟩ := h.at_ hk
  exact ⟨b, off, x, hx, hA, hB, by simpa using hc 0 _ rfl, hc 1 _ rfl, hc 2 _ rfl, hc 3 _ rfl⟩

set_option maxHeartbeats 400000 in
theorem equal_steps (A B : Option Addr) (l m c d : Nat) (L M : List (Int × Int × Int × Int)) (w : World) (h : SRw w w.heap.size A l L) (g : SRw w w.heap.size B m M) (hl : l ≤ 1000000) (hm : m ≤ 9223372036854775807) :
    Calls Try.prog 58 #[.slice A l c, .slice B m d] w fun e w' => e = .returned (.bool (decide (L = M))) ∧ Below w.heap.size w w' := by
  have HR := Lib.hid h
  have HG := Lib.hid g
  have HL := Lib.hid h.1
  have HM := Lib.hid g.1
  clear h g
  by_cases hlm : l = m
  · subst hlm
    go_enter Try.func58, Try.ntmps58
    go_wp2_with fail
    go_loopw [13] (fun x wr => ∃ k : Nat, k ≤ l ∧ x = .int .i64 (k : Int) ∧ Hid (L.take k = M.take k) ∧ Below w.heap.size w wr) (fun x _ => l - (intOf x).toNat)
    case atStart => exact ⟨0, by omega, rfl, Lib.hid (by simp), Below.refl _ _⟩
    case round =>
      obtain ⟨k, hk, rfl, htk, hb⟩ := hrel
      by_cases hlt : k < l
      · obtain ⟨b, off, x, hx, rfl, hB, g1, g2, g3, g4⟩ := (HR.out.below hb).cells4 hlt
        obtain ⟨b', off', y, hy, rfl, hB', g5, g6, g7, g8⟩ := (HG.out.below hb).cells4 hlt
        have hki : (k : Int) < (l : Int) := by omega
        have heq := eq_step x y
        by_cases hxy : x = y
        · have HT : Hid (L.take (k + 1) = M.take (k + 1)) := Lib.hid (by rw [take_at' hx, take_at' hy, htk.out, hxy])
          have hd : decide (x = y) = true := decide_eq_true hxy
          rw [hd] at heq
          clear hx hy hxy hd
          go_wp2_with fail
          go_region
          go_wp2_with fail
          go_roundw
          case rel => exact ⟨k + 1, by omega, by go_num, HT, hb.drew⟩
          case measure => simp [intOf]; omega
        · have HD : Hid (decide (L = M) = false) := Lib.hid (decide_eq_false (fun e => by
            rw [e, hy] at hx
            injection hx with hx
            exact hxy hx.symm))
          have hd : decide (x = y) = false := decide_eq_false hxy
          rw [hd] at heq
          clear hx hy hxy hd
          go_wp2_with fail
          go_region
          go_wp2_with fail
          go_ret
          exact ⟨by rw [HD.out]; rfl, hb.drew⟩
      · have HD : Hid (decide (L = M) = true) := Lib.hid (decide_eq_true (by
          have := htk.out
          rwa [List.take_of_length_le (by rw [← HL.out]; omega), List.take_of_length_le (by rw [← HM.out]; omega)] at this))
        go_wp2_with fail
        go_ret
        exact ⟨by rw [HD.out]; rfl, hb⟩
  · have HD : Hid (decide (L = M) = false) := Lib.hid (decide_eq_false (fun e => hlm (by rw [HL.out, HM.out, e])))
    have t1 : ((l : Int) != (m : Int)) = true := by simp; omega
    clear hlm
    go_enter Try.func58, Try.ntmps58
    go_wp2_with fail
    go_ret
    exact ⟨by rw [HD.out]; rfl, Below.refl _ _⟩

theorem check_bad (a n : Int) (A : Option Addr) (l c : Nat) (w : World) (h : validB a n = false) :
    Calls Try.prog 25 #[.int .i64 a, .int .i64 n, .slice A l c] w fun e w' => e = .returned (.tuple #[.int .i64 0, .bool false, .int .i64 2]) ∧ Below w.heap.size w w' := by
  have HV := Lib.hid h
  clear h
  go_enter Try.func25, Try.ntmps25
  go_wp2_with fail
  refine (chain_no a n w HV.out).mono ?_; rintro e w1 ⟨rfl, hb1⟩
  go_wp2_with fail
  refine bodyPost_ret (v := .tuple #[.int .i64 0, .bool false, .int .i64 2]) (by simp [results, Try.results25, go_sem]) rfl ⟨rfl, hb1⟩

theorem check_good (a n : Int) (A : Option Addr) (l c : Nat) (L : List (Int × Int × Int × Int)) (w : World) (h : validB a n = true) (hr : SRw w w.heap.size A l L) (hl : l ≤ 9223372036854775807) :
    Calls Try.prog 25 #[.int .i64 a, .int .i64 n, .slice A l c] w fun e w' =>
      e = .returned (if chain a n 1 = L then .tuple #[.int .i64 (sv a n 1), .bool true, .int .i64 0] else .tuple #[.int .i64 0, .bool false, .int .i64 0]) ∧ Below w.heap.size w w' := by
  have HV := Lib.hid h
  have HI := Lib.hid (validB_inr h)
  have HR := Lib.hid hr
  clear h hr
  go_enter Try.func25, Try.ntmps25
  go_wp2_with fail
  refine (chain_yes a n w HV.out).mono ?_; rintro e w1 ⟨A1, n1, c1, rfl, how1, hb1⟩
  have hr1 : SRw w1 w1.heap.size A1 n1 (chain a n 1) := Rw.of_own (enc := encS) (sz := 4) (by decide) encS_len how1
  have HR1 := Lib.hid ((HR.out.below hb1).more hb1.size)
  have HQ1 := Lib.hid hr1
  have hn1 : n1 ≤ 119 := by
    have h1 := hr1.1
    have h2 := chain_len (s := 1) HI.out.1 HI.out.2.2.2
    omega
  have HB1 := Lib.hid hb1
  clear hr1 hb1 how1
  go_wp2_with fail
  refine (equal_steps A1 A n1 l c1 c (chain a n 1) L w1 HQ1.out HR1.out (by omega) hl).mono ?_; rintro e w2 ⟨rfl, hb2⟩
  by_cases hE : chain a n 1 = L
  · have HE := Lib.hid hE
    have hd : decide (chain a n 1 = L) = true := decide_eq_true hE
    rw [hd]
    clear hE hd
    go_wp2_with fail
    refine (value_any a n 1 w2 HI.out).mono ?_; rintro e w3 ⟨rfl, hb3⟩
    go_wp2_with fail
    refine bodyPost_ret (v := .tuple #[.int .i64 (sv a n 1), .bool true, .int .i64 0]) (by simp [results, Try.results25, go_sem]) rfl ⟨by first | rfl | rw [if_pos HE.out], bt (bt HB1.out hb2) hb3⟩
  · have HE := Lib.hid hE
    have hd : decide (chain a n 1 = L) = false := decide_eq_false hE
    rw [hd]
    clear hE hd
    go_wp2_with fail
    refine bodyPost_ret (v := .tuple #[.int .i64 0, .bool false, .int .i64 0]) (by simp [results, Try.results25, go_sem]) rfl ⟨by first | rfl | rw [if_neg HE.out], bt HB1.out hb2⟩

/-- a result that is a slice of steps in memory of the call's own -/
def GivesSteps (w : World) (L : List (Int × Int × Int × Int)) (e : Ending) (w' : World) : Prop :=
  ∃ A n c, e = .returned (.slice A n c) ∧ w'.ownsRow w.heap.size 48 4 (.slice A n c) n (L.flatMap encS) ∧ Below w.heap.size w w'

theorem flat_ones (L : List (Int × Int × Int × Int)) : ∀ u ∈ L.flatMap encS, u.oneCell' = true := by
  intro u hu
  obtain ⟨x, _, hx⟩ := List.mem_flatMap.1 hu
  exact encS_one x u hx

set_option maxHeartbeats 400000 in
set_option maxRecDepth 100000 in
theorem clone_steps (A : Option Addr) (n c : Nat) (L : List (Int × Int × Int × Int)) (w : World) (h : SRw w w.heap.size A n L) (hn : n ≤ 1000000) (hA : A = none → n = 0) :
    Calls Try.prog 36 #[.slice A n c] w (GivesSteps w L) := by
  have HR := Lib.hid h
  have HL := Lib.hid h.1
  clear h
  have heq := fun (w : World) => Lib.run_eql_slice_nil (P := Try.prog) w 32 48 A n c 0 0 Try.underlying32
  cases A with
  | none =>
    obtain rfl := hA rfl
    go_enter Try.func36, Try.ntmps36
    go_wp2
    go_ret
    have hL : L = [] := List.length_eq_zero_iff.1 HL.out.symm
    subst hL
    exact ⟨none, 0, 0, rfl, World.ownsRow_nil .., Below.refl _ _⟩
  | some ad =>
    obtain ⟨i0, hi, hz0, hz1, hz2⟩ := info_parts infoS
    go_enter Try.func36, Try.ntmps36
    have hown : (w.alloc (Obj.cells #[] 48)).ownsRow w.heap.size 48 4 (.slice (some ⟨w.heap.size, 0, none⟩) 0 0) 0 [] :=
      ⟨rfl, .inr ⟨w.heap.size, 0, #[], rfl, Nat.le_refl _, (by show (w.heap.push _)[w.heap.size]? = _; simp), Nat.le_refl _, by decide, rfl, rfl⟩⟩
    have hnews : ∀ j u, (L.flatMap encS)[j]? = some u → (w.alloc (Obj.cells #[] 48)).cell? (ad.add j) = some u := by
      intro j u hu
      have hn0 : 0 < n := by
        have := (List.getElem?_eq_some_iff.1 hu).1
        rw [rw_len encS_len, ← HL.out] at this; omega
      obtain ⟨b, off, e, hb, _⟩ := HR.out.2 hn0
      injection e with e
      subst e
      have := Rw.flat (enc := encS) (sz := 4) (by decide) encS_len HR.out j u hu
      rw [radd] at this ⊢
      rw [World.cell?_alloc_lt _ _ _ hb]; exact this
    have HO := Lib.hid hown
    have HN := Lib.hid hnews
    have H1 : Hid ((L.flatMap encS).length = n * 4) := Lib.hid (by rw [rw_len encS_len, HL.out])
    have H2 := Lib.hid (flat_ones L)
    have H3 : Hid (0 + n ≤ maxLen) := Lib.hid (by unfold maxLen; omega)
    have H4 : Hid ((0 + n) * 32 ≤ 140737488355328) := Lib.hid (by omega)
    have H5 : Hid (w.heap.size ≤ (w.alloc (Obj.cells #[] 48)).heap.size) := Lib.hid (by simp)
    clear hown hnews heq
    have heq2 := Lib.run_eql_slice_nil (P := Try.prog) w 32 48 (some ad) n c 0 0 Try.underlying32
    go_wp2_with (at_builtin; refine wpList_append_own _ rfl _ _ 32 rfl w.heap.size 48 i0 (.agg #[.int .i64 0, .int .i64 0, .int .i64 0, .int .i64 0]) 4 32 Try.underlying32 hi hz0 hz1 hz2 rfl (by decide) _ 0 [] rfl HO.out ad n c (L.flatMap encS) rfl H1.out HN.out H2.out H3.out H4.out H5.out ?_; intro v' w1 hown' hgrow _)
    go_ret
    rw [Nat.zero_add, List.nil_append] at hown'
    have hbw : Below w.heap.size w w1 := ((Below.refl _ _).alloc (Nat.le_refl _) _).grown hgrow (by simp) (fun k e => by cases e; exact Nat.le_refl _)
    obtain ⟨A2, c2, rfl, _⟩ := own_slice hown'
    exact ⟨A2, n, c2, rfl, hown', hbw⟩
end Go.Proofs.Ytdombadhmaanfaa
