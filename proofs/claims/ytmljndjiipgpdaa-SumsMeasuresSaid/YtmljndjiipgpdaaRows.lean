/-
  No cell of these rows narrows 'for every input' (looked for: loops, veiled, ifaces, maps, wideKeys, modest, calm, conditions, laid).
  DERIVED. THE GIVEN ROWS OF THIS SEAT. 7 by the template 'for every input the law returns true; each argument reads behind the call as it read before'; 0 by the template 'total and deterministic' (their statements: YtmljndjiipgpdaaTotals.lean).
  GIVEN WITH THE SEED: the statements are not yours to turn. If you find one false, say at which input.
  Laid BY PROGRAM, IN A SANDBOX (cutbox-rows.mjs): the forced cells as the released guide's own fill.sh prints them over the translation 97138057bdebed36… (all of the seat's roots in one cut). By AI agents, Wed Nov 11 2026. No macro, syntax, notation, axiom, sorry.
-/
import Derived.Test.YtmljndjiipgpdaaChecked
import GoSem.Claim
import GoSem.ClaimJoined
import GoSem.ClaimMapViews
import Derived.JoinedTies
import Derived.KernelRfl
namespace Go.Proofs.Ytmljndjiipgpdaa
/- THE CELL 'sum', in the pinned program and in every row, IS THE sha256 OF THE DUMP (.gsa) THAT YtmljndjiipgpdaaProg.lean LOADS. Nothing in Lean hashes anything: it is a label: what it is worth is what the hold of that sum in a sandbox is worth. -/
noncomputable def Try.pinned : Pinned := { name := "ytmljndjiipgpdaa", sum := "97138057bdebed36b9ab0fe6deb800e256c402aefc0b27b6e3087132700581e1", checked := Try.checked }
namespace Rows
def none {H : Type} : Left H := { results := [], args := [] }

/-- 'gherkinlaw08.SumsDegrees': WHATEVER THE INPUT: true; the input reads as it did. -/
def sumsDegreesSpec : ChangeSpec := { name := "sumsDegrees", fn := fun _ => fun
  | [d] => { results := [.lit (.bool true)], args := [d] }
  | _ => none }
def sumsDegreesRow : OpenClaim := { program := "ytmljndjiipgpdaa", sum := "97138057bdebed36b9ab0fe6deb800e256c402aefc0b27b6e3087132700581e1", func := "gherkin/gherkinlaw08.SumsDegrees", spec := "sumsDegrees", unfollowed := true, recurses := true, apart := false }
def SumsDegreesSaid : Prop := sumsDegreesRow.holds Try.pinned (OpenSpec.ofChange sumsDegreesSpec)

/-- ITS FALSE NEIGHBOUR: 'it returns false'. Refute it at one input. -/
def sumsDegreesWrong : ChangeSpec := { name := "sumsDegrees", fn := fun _ => fun
  | [d] => { results := [.lit (.bool false)], args := [d] }
  | _ => none }
def SumsDegreesWrongFalsely : Prop := sumsDegreesRow.holds Try.pinned (OpenSpec.ofChange sumsDegreesWrong)

/-- 'gherkinlaw08.SumsPolynomials': WHATEVER THE INPUT: true; the input reads as it did. -/
def sumsPolynomialsSpec : ChangeSpec := { name := "sumsPolynomials", fn := fun _ => fun
  | [d] => { results := [.lit (.bool true)], args := [d] }
  | _ => none }
def sumsPolynomialsRow : OpenClaim := { program := "ytmljndjiipgpdaa", sum := "97138057bdebed36b9ab0fe6deb800e256c402aefc0b27b6e3087132700581e1", func := "gherkin/gherkinlaw08.SumsPolynomials", spec := "sumsPolynomials", unfollowed := true, recurses := true, apart := false }
def SumsPolynomialsSaid : Prop := sumsPolynomialsRow.holds Try.pinned (OpenSpec.ofChange sumsPolynomialsSpec)

/-- ITS FALSE NEIGHBOUR: 'it returns false'. Refute it at one input. -/
def sumsPolynomialsWrong : ChangeSpec := { name := "sumsPolynomials", fn := fun _ => fun
  | [d] => { results := [.lit (.bool false)], args := [d] }
  | _ => none }
def SumsPolynomialsWrongFalsely : Prop := sumsPolynomialsRow.holds Try.pinned (OpenSpec.ofChange sumsPolynomialsWrong)

/-- 'gherkinlaw08.SumsNorms': WHATEVER THE INPUT: true; the input reads as it did. -/
def sumsNormsSpec : ChangeSpec := { name := "sumsNorms", fn := fun _ => fun
  | [d1, d2] => { results := [.lit (.bool true)], args := [d1, d2] }
  | _ => none }
def sumsNormsRow : OpenClaim := { program := "ytmljndjiipgpdaa", sum := "97138057bdebed36b9ab0fe6deb800e256c402aefc0b27b6e3087132700581e1", func := "gherkin/gherkinlaw08.SumsNorms", spec := "sumsNorms", unfollowed := true, recurses := true, apart := false }
def SumsNormsSaid : Prop := sumsNormsRow.holds Try.pinned (OpenSpec.ofChange sumsNormsSpec)

/-- ITS FALSE NEIGHBOUR: 'it returns false'. Refute it at one input. -/
def sumsNormsWrong : ChangeSpec := { name := "sumsNorms", fn := fun _ => fun
  | [d1, d2] => { results := [.lit (.bool false)], args := [d1, d2] }
  | _ => none }
def SumsNormsWrongFalsely : Prop := sumsNormsRow.holds Try.pinned (OpenSpec.ofChange sumsNormsWrong)

/-- 'gherkinlaw08.SumsMeasures': WHATEVER THE INPUT: true; the input reads as it did. -/
def sumsMeasuresSpec : ChangeSpec := { name := "sumsMeasures", fn := fun _ => fun
  | [d1, d2, d3] => { results := [.lit (.bool true)], args := [d1, d2, d3] }
  | _ => none }
def sumsMeasuresRow : OpenClaim := { program := "ytmljndjiipgpdaa", sum := "97138057bdebed36b9ab0fe6deb800e256c402aefc0b27b6e3087132700581e1", func := "gherkin/gherkinlaw08.SumsMeasures", spec := "sumsMeasures", unfollowed := true, recurses := true, apart := false }
def SumsMeasuresSaid : Prop := sumsMeasuresRow.holds Try.pinned (OpenSpec.ofChange sumsMeasuresSpec)

/-- ITS FALSE NEIGHBOUR: 'it returns false'. Refute it at one input. -/
def sumsMeasuresWrong : ChangeSpec := { name := "sumsMeasures", fn := fun _ => fun
  | [d1, d2, d3] => { results := [.lit (.bool false)], args := [d1, d2, d3] }
  | _ => none }
def SumsMeasuresWrongFalsely : Prop := sumsMeasuresRow.holds Try.pinned (OpenSpec.ofChange sumsMeasuresWrong)

/-- 'gherkinlaw08.SumsNumbers': WHATEVER THE INPUT: true; the input reads as it did. -/
def sumsNumbersSpec : ChangeSpec := { name := "sumsNumbers", fn := fun _ => fun
  | [d1, d2, d3, d4] => { results := [.lit (.bool true)], args := [d1, d2, d3, d4] }
  | _ => none }
def sumsNumbersRow : OpenClaim := { program := "ytmljndjiipgpdaa", sum := "97138057bdebed36b9ab0fe6deb800e256c402aefc0b27b6e3087132700581e1", func := "gherkin/gherkinlaw08.SumsNumbers", spec := "sumsNumbers", unfollowed := true, recurses := true, apart := false }
def SumsNumbersSaid : Prop := sumsNumbersRow.holds Try.pinned (OpenSpec.ofChange sumsNumbersSpec)

/-- ITS FALSE NEIGHBOUR: 'it returns false'. Refute it at one input. -/
def sumsNumbersWrong : ChangeSpec := { name := "sumsNumbers", fn := fun _ => fun
  | [d1, d2, d3, d4] => { results := [.lit (.bool false)], args := [d1, d2, d3, d4] }
  | _ => none }
def SumsNumbersWrongFalsely : Prop := sumsNumbersRow.holds Try.pinned (OpenSpec.ofChange sumsNumbersWrong)

/-- 'gherkinlaw08.SumsRing': WHATEVER THE INPUT: true; the input reads as it did. -/
def sumsRingSpec : ChangeSpec := { name := "sumsRing", fn := fun _ => fun
  | [d1, d2, d3, d4, d5] => { results := [.lit (.bool true)], args := [d1, d2, d3, d4, d5] }
  | _ => none }
def sumsRingRow : OpenClaim := { program := "ytmljndjiipgpdaa", sum := "97138057bdebed36b9ab0fe6deb800e256c402aefc0b27b6e3087132700581e1", func := "gherkin/gherkinlaw08.SumsRing", spec := "sumsRing", unfollowed := true, recurses := true, apart := false }
def SumsRingSaid : Prop := sumsRingRow.holds Try.pinned (OpenSpec.ofChange sumsRingSpec)

/-- ITS FALSE NEIGHBOUR: 'it returns false'. Refute it at one input. -/
def sumsRingWrong : ChangeSpec := { name := "sumsRing", fn := fun _ => fun
  | [d1, d2, d3, d4, d5] => { results := [.lit (.bool false)], args := [d1, d2, d3, d4, d5] }
  | _ => none }
def SumsRingWrongFalsely : Prop := sumsRingRow.holds Try.pinned (OpenSpec.ofChange sumsRingWrong)

/-- 'gherkinlaw08.SumsGauss': WHATEVER THE INPUT: true; the input reads as it did. -/
def sumsGaussSpec : ChangeSpec := { name := "sumsGauss", fn := fun _ => fun
  | [d1, d2] => { results := [.lit (.bool true)], args := [d1, d2] }
  | _ => none }
def sumsGaussRow : OpenClaim := { program := "ytmljndjiipgpdaa", sum := "97138057bdebed36b9ab0fe6deb800e256c402aefc0b27b6e3087132700581e1", func := "gherkin/gherkinlaw08.SumsGauss", spec := "sumsGauss", unfollowed := true, recurses := true, apart := false }
def SumsGaussSaid : Prop := sumsGaussRow.holds Try.pinned (OpenSpec.ofChange sumsGaussSpec)

/-- ITS FALSE NEIGHBOUR: 'it returns false'. Refute it at one input. -/
def sumsGaussWrong : ChangeSpec := { name := "sumsGauss", fn := fun _ => fun
  | [d1, d2] => { results := [.lit (.bool false)], args := [d1, d2] }
  | _ => none }
def SumsGaussWrongFalsely : Prop := sumsGaussRow.holds Try.pinned (OpenSpec.ofChange sumsGaussWrong)

/- THE SECOND FORM. 'bulk': how many values and letters a reading holds, each counted each time it is reached (what is shared counts as often as it is met; a slice's spare places count too). A statement '..UptoSaid' is the law's where the arguments, and the package variables that the reading takes, are together of bulk at most 1048576: NARROWER than '..Said'. Prove '..Said' where nothing that the law and all that it calls make is longer than what came in: it says more and counts as full. Else prove '..UptoSaid'. A law counts once. -/
mutual
def uptoBulk {H : Type} : DataW H → Nat
  | .lit (.string bytes) => bytes.length + 1
  | .lit _ => 1
  | .nil => 1
  | .ptr d => uptoBulk d + 1
  | .slice elems spare => uptoBulkAll elems + uptoBulkAll spare + 1
  | .agg parts => uptoBulkAll parts + 1
  | .iface _ d => uptoBulk d + 1
  | .map entries => uptoBulkEntries entries + 1
  | .held _ => 1
def uptoBulkAll {H : Type} : List (DataW H) → Nat
  | [] => 0
  | d :: r => uptoBulk d + uptoBulkAll r
def uptoBulkEntries {H : Type} : List (Lit × DataW H) → Nat
  | [] => 0
  | x :: r => uptoBulkEntry x + uptoBulkEntries r
def uptoBulkEntry {H : Type} : Lit × DataW H → Nat
  | (.string bytes, d) => bytes.length + uptoBulk d + 1
  | (_, d) => uptoBulk d + 1
 end
def uptoSmall : (H : Type) → List (DataW H) → Bool := fun _ ds => decide (uptoBulkAll ds ≤ 1048576)
def OpenSpec.upto (s : _root_.Go.ChangeSpec) : _root_.Go.OpenSpec := { _root_.Go.OpenSpec.ofChange s with cond := some uptoSmall }

/-- 'gherkinlaw08.SumsDegrees', WHERE WHAT IT READS IS OF BULK AT MOST 1048576: true; the input reads as it did. -/
def sumsDegreesUptoRow : OpenClaim := { program := "ytmljndjiipgpdaa", sum := "97138057bdebed36b9ab0fe6deb800e256c402aefc0b27b6e3087132700581e1", func := "gherkin/gherkinlaw08.SumsDegrees", spec := "sumsDegrees", unfollowed := true, recurses := true, apart := false, narrowed := true }
def SumsDegreesUptoSaid : Prop := sumsDegreesUptoRow.holds Try.pinned (OpenSpec.upto sumsDegreesSpec)

/-- 'gherkinlaw08.SumsPolynomials', WHERE WHAT IT READS IS OF BULK AT MOST 1048576: true; the input reads as it did. -/
def sumsPolynomialsUptoRow : OpenClaim := { program := "ytmljndjiipgpdaa", sum := "97138057bdebed36b9ab0fe6deb800e256c402aefc0b27b6e3087132700581e1", func := "gherkin/gherkinlaw08.SumsPolynomials", spec := "sumsPolynomials", unfollowed := true, recurses := true, apart := false, narrowed := true }
def SumsPolynomialsUptoSaid : Prop := sumsPolynomialsUptoRow.holds Try.pinned (OpenSpec.upto sumsPolynomialsSpec)

/-- 'gherkinlaw08.SumsNorms', WHERE WHAT IT READS IS OF BULK AT MOST 1048576: true; the input reads as it did. -/
def sumsNormsUptoRow : OpenClaim := { program := "ytmljndjiipgpdaa", sum := "97138057bdebed36b9ab0fe6deb800e256c402aefc0b27b6e3087132700581e1", func := "gherkin/gherkinlaw08.SumsNorms", spec := "sumsNorms", unfollowed := true, recurses := true, apart := false, narrowed := true }
def SumsNormsUptoSaid : Prop := sumsNormsUptoRow.holds Try.pinned (OpenSpec.upto sumsNormsSpec)

/-- 'gherkinlaw08.SumsMeasures', WHERE WHAT IT READS IS OF BULK AT MOST 1048576: true; the input reads as it did. -/
def sumsMeasuresUptoRow : OpenClaim := { program := "ytmljndjiipgpdaa", sum := "97138057bdebed36b9ab0fe6deb800e256c402aefc0b27b6e3087132700581e1", func := "gherkin/gherkinlaw08.SumsMeasures", spec := "sumsMeasures", unfollowed := true, recurses := true, apart := false, narrowed := true }
def SumsMeasuresUptoSaid : Prop := sumsMeasuresUptoRow.holds Try.pinned (OpenSpec.upto sumsMeasuresSpec)

/-- 'gherkinlaw08.SumsNumbers', WHERE WHAT IT READS IS OF BULK AT MOST 1048576: true; the input reads as it did. -/
def sumsNumbersUptoRow : OpenClaim := { program := "ytmljndjiipgpdaa", sum := "97138057bdebed36b9ab0fe6deb800e256c402aefc0b27b6e3087132700581e1", func := "gherkin/gherkinlaw08.SumsNumbers", spec := "sumsNumbers", unfollowed := true, recurses := true, apart := false, narrowed := true }
def SumsNumbersUptoSaid : Prop := sumsNumbersUptoRow.holds Try.pinned (OpenSpec.upto sumsNumbersSpec)

/-- 'gherkinlaw08.SumsRing', WHERE WHAT IT READS IS OF BULK AT MOST 1048576: true; the input reads as it did. -/
def sumsRingUptoRow : OpenClaim := { program := "ytmljndjiipgpdaa", sum := "97138057bdebed36b9ab0fe6deb800e256c402aefc0b27b6e3087132700581e1", func := "gherkin/gherkinlaw08.SumsRing", spec := "sumsRing", unfollowed := true, recurses := true, apart := false, narrowed := true }
def SumsRingUptoSaid : Prop := sumsRingUptoRow.holds Try.pinned (OpenSpec.upto sumsRingSpec)

/-- 'gherkinlaw08.SumsGauss', WHERE WHAT IT READS IS OF BULK AT MOST 1048576: true; the input reads as it did. -/
def sumsGaussUptoRow : OpenClaim := { program := "ytmljndjiipgpdaa", sum := "97138057bdebed36b9ab0fe6deb800e256c402aefc0b27b6e3087132700581e1", func := "gherkin/gherkinlaw08.SumsGauss", spec := "sumsGauss", unfollowed := true, recurses := true, apart := false, narrowed := true }
def SumsGaussUptoSaid : Prop := sumsGaussUptoRow.holds Try.pinned (OpenSpec.upto sumsGaussSpec)

end Rows
end Go.Proofs.Ytmljndjiipgpdaa
