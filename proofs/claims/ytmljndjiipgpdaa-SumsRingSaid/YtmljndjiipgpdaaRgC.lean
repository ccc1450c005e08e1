/- SumsRing: the law, for every input. -/
import Derived.Test.YtmljndjiipgpdaaRgB
import Derived.Test.YtmljndjiipgpdaaNx
namespace Go.Proofs.Ytmljndjiipgpdaa
open Go Go.RowKit GhP

theorem ring_law (n : Int) (A : Option Addr) (la ca : Nat) (B : Option Addr) (lb cb : Nat) (C : Option Addr) (lc cc : Nat) (t : Int) (La Lb Lc : List Int) (w : World) (_l1 : -9223372036854775808 ≤ n) (_l2 : n ≤ 9223372036854775807)
    (h : IRow w w.heap.size A la La) (hwa : ∀ x ∈ La, -9223372036854775808 ≤ x ∧ x ≤ 9223372036854775807) (hlc : la ≤ ca) (hc : ca ≤ maxLen) (hA : A = none → la = 0 ∧ ca = 0)
    (k : IRow w w.heap.size B lb Lb) (hwb : ∀ x ∈ Lb, -9223372036854775808 ≤ x ∧ x ≤ 9223372036854775807) (klc : lb ≤ cb) (kc : cb ≤ maxLen) (hB : B = none → lb = 0 ∧ cb = 0)
    (m : IRow w w.heap.size C lc Lc) (hwc : ∀ x ∈ Lc, -9223372036854775808 ≤ x ∧ x ≤ 9223372036854775807) (mlc : lc ≤ cc) (mc : cc ≤ maxLen) (hC : C = none → lc = 0 ∧ cc = 0)
    (_l3 : -9223372036854775808 ≤ t) (_l4 : t ≤ 9223372036854775807) :
    Calls Try.prog 8 #[.int .i64 n, .slice A la ca, .slice B lb cb, .slice C lc cc, .int .i64 t] w fun e w' => e = .returned (.bool true) ∧ Below w.heap.size w w' :=
  ring_walk n t A B C la ca lb cb lc cc La Lb Lc w h k m (wl_wf hwa) (wl_wf hwb) (wl_wf hwc) hlc hc hA klc kc hB mlc mc hC
end Go.Proofs.Ytmljndjiipgpdaa
