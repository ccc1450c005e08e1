/- SumsMeasures: the law, for every input. -/
import Derived.Test.YtmljndjiipgpdaaMs
import Derived.Test.YtmljndjiipgpdaaNx
namespace Go.Proofs.Ytmljndjiipgpdaa
open Go Go.RowKit GhP

theorem meas_law (n : Int) (A : Option Addr) (la ca : Nat) (B : Option Addr) (lb cb : Nat) (La Lb : List Int) (w : World) (_l1 : -9223372036854775808 ≤ n) (_l2 : n ≤ 9223372036854775807)
    (h : IRow w w.heap.size A la La) (hwa : ∀ x ∈ La, -9223372036854775808 ≤ x ∧ x ≤ 9223372036854775807) (hlc : la ≤ ca) (hc : ca ≤ maxLen) (hA : A = none → la = 0 ∧ ca = 0)
    (k : IRow w w.heap.size B lb Lb) (hwb : ∀ x ∈ Lb, -9223372036854775808 ≤ x ∧ x ≤ 9223372036854775807) (klc : lb ≤ cb) (kc : cb ≤ maxLen) (hB : B = none → lb = 0 ∧ cb = 0) :
    Calls Try.prog 6 #[.int .i64 n, .slice A la ca, .slice B lb cb] w fun e w' => e = .returned (.bool true) ∧ Below w.heap.size w w' :=
  meas_walk n A B la ca lb cb La Lb w h k (wl_wf hwa) (wl_wf hwb) hlc hc hA klc kc hB
end Go.Proofs.Ytmljndjiipgpdaa
