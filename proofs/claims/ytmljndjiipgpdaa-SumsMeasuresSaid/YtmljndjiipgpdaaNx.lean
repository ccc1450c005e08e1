/- SumsNumbers: the law, for every input. -/
import Derived.Test.YtmljndjiipgpdaaNv
namespace Go.Proofs.Ytmljndjiipgpdaa
open Go Go.RowKit GhP

theorem wl_wf {L : List Int} (h : ∀ x ∈ L, -9223372036854775808 ≤ x ∧ x ≤ 9223372036854775807) : wl L = L := by
  unfold wl
  conv => rhs; rw [← List.map_id L]
  refine List.map_congr_left fun x hx => ?_
  have := h x hx
  show wrap64 x = x
  unfold wrap64; omega

theorem num_law (n : Int) (A : Option Addr) (la ca : Nat) (B : Option Addr) (lb cb : Nat) (t : Int) (La Lb : List Int) (w : World) (_l1 : -9223372036854775808 ≤ n) (_l2 : n ≤ 9223372036854775807)
    (h : IRow w w.heap.size A la La) (hwa : ∀ x ∈ La, -9223372036854775808 ≤ x ∧ x ≤ 9223372036854775807) (hlc : la ≤ ca) (hc : ca ≤ maxLen) (hA : A = none → la = 0 ∧ ca = 0)
    (k : IRow w w.heap.size B lb Lb) (hwb : ∀ x ∈ Lb, -9223372036854775808 ≤ x ∧ x ≤ 9223372036854775807) (klc : lb ≤ cb) (kc : cb ≤ maxLen) (hB : B = none → lb = 0 ∧ cb = 0)
    (_l3 : -9223372036854775808 ≤ t) (_l4 : t ≤ 9223372036854775807) :
    Calls Try.prog 7 #[.int .i64 n, .slice A la ca, .slice B lb cb, .int .i64 t] w fun e w' => e = .returned (.bool true) ∧ Below w.heap.size w w' := by
  have ha := wl_wf hwa
  have hb := wl_wf hwb
  cases hp : okN n 1000 La with
  | false => exact num_f n t A B la ca lb cb La Lb w h ha hlc hc hA k hb klc kc hB hp
  | true =>
    obtain ⟨h1, h2, _⟩ := okN_yes hp
    obtain ⟨N, rfl⟩ : ∃ N : Nat, n = N := ⟨n.toNat, by omega⟩
    cases hr : turnB N t with
    | false =>
      cases hq : okN N 1000 Lb with
      | false => exact num_tff N t A B la ca lb cb La Lb w h ha hlc hc hA k hb klc kc hB hp hq hr
      | true => exact num_ttf N t A B la ca lb cb La Lb w h ha hlc hc hA k hb klc kc hB hp hq hr
    | true =>
      have ht2 := hr
      unfold turnB at ht2
      have ht3 := of_decide_eq_true ht2
      obtain ⟨T, rfl⟩ : ∃ T : Nat, t = T := ⟨t.toNat, by omega⟩
      cases hq : okN N 1000 Lb with
      | false => exact num_tft N T A B la ca lb cb La Lb w h ha hlc hc hA k hb klc kc hB hp hq hr
      | true => exact num_ttt N T A B la ca lb cb La Lb w h ha hlc hc hA k hb klc kc hB hp hq hr
end Go.Proofs.Ytmljndjiipgpdaa
