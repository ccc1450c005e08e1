/-
  No cell of these rows narrows 'for every input' (looked for: loops, veiled, ifaces, maps, wideKeys, modest, calm, conditions, laid).
  DERIVED. THE GIVEN ROWS OF THIS SEAT. 12 by the template 'for every input the law returns true; each argument reads behind the call as it read before'; 0 by the template 'total and deterministic' (their statements: YtdombadhmaanfaaTotals.lean).
  GIVEN WITH THE SEED: the statements are not yours to turn. If you find one false, say at which input.
  Laid BY PROGRAM, IN A SANDBOX (cutbox-rows.mjs): the forced cells as the released guide's own fill.sh prints them over the translation b552336183d72da0… (all of the seat's roots in one cut). By AI agents, Wed Nov 11 2026. No macro, syntax, notation, axiom, sorry.
-/
import Derived.Test.YtdombadhmaanfaaChecked
import GoSem.Claim
import GoSem.ClaimJoined
import GoSem.ClaimMapViews
import Derived.JoinedTies
import Derived.KernelRfl
namespace Go.Proofs.Ytdombadhmaanfaa
/- THE CELL 'sum', in the pinned program and in every row, IS THE sha256 OF THE DUMP (.gsa) THAT YtdombadhmaanfaaProg.lean LOADS. Nothing in Lean hashes anything: it is a label: what it is worth is what the hold of that sum in a sandbox is worth. -/
noncomputable def Try.pinned : Pinned := { name := "ytdombadhmaanfaa", sum := "b552336183d72da010c966c1ceed37cb9ea1d474f0f80b3995471b56abcb8baf", checked := Try.checked }
namespace Rows
def none {H : Type} : Left H := { results := [], args := [] }

/-- 'gherkinlaw08.SumsEisenstein': WHATEVER THE INPUT: true; the input reads as it did. -/
def sumsEisensteinSpec : ChangeSpec := { name := "sumsEisenstein", fn := fun _ => fun
  | [d1, d2] => { results := [.lit (.bool true)], args := [d1, d2] }
  | _ => none }
def sumsEisensteinRow : OpenClaim := { program := "ytdombadhmaanfaa", sum := "b552336183d72da010c966c1ceed37cb9ea1d474f0f80b3995471b56abcb8baf", func := "gherkin/gherkinlaw08.SumsEisenstein", spec := "sumsEisenstein", unfollowed := true, recurses := true, plainKeys := false, apart := false }
def SumsEisensteinSaid : Prop := sumsEisensteinRow.holds Try.pinned (OpenSpec.ofChange sumsEisensteinSpec)

/-- ITS FALSE NEIGHBOUR: 'it returns false'. Refute it at one input. -/
def sumsEisensteinWrong : ChangeSpec := { name := "sumsEisenstein", fn := fun _ => fun
  | [d1, d2] => { results := [.lit (.bool false)], args := [d1, d2] }
  | _ => none }
def SumsEisensteinWrongFalsely : Prop := sumsEisensteinRow.holds Try.pinned (OpenSpec.ofChange sumsEisensteinWrong)

/-- 'gherkinlaw08.SumsZolotarev': WHATEVER THE INPUT: true; the input reads as it did. -/
def sumsZolotarevSpec : ChangeSpec := { name := "sumsZolotarev", fn := fun _ => fun
  | [d1, d2, d3] => { results := [.lit (.bool true)], args := [d1, d2, d3] }
  | _ => none }
def sumsZolotarevRow : OpenClaim := { program := "ytdombadhmaanfaa", sum := "b552336183d72da010c966c1ceed37cb9ea1d474f0f80b3995471b56abcb8baf", func := "gherkin/gherkinlaw08.SumsZolotarev", spec := "sumsZolotarev", unfollowed := true, recurses := true, plainKeys := false, apart := false }
def SumsZolotarevSaid : Prop := sumsZolotarevRow.holds Try.pinned (OpenSpec.ofChange sumsZolotarevSpec)

/-- ITS FALSE NEIGHBOUR: 'it returns false'. Refute it at one input. -/
def sumsZolotarevWrong : ChangeSpec := { name := "sumsZolotarev", fn := fun _ => fun
  | [d1, d2, d3] => { results := [.lit (.bool false)], args := [d1, d2, d3] }
  | _ => none }
def SumsZolotarevWrongFalsely : Prop := sumsZolotarevRow.holds Try.pinned (OpenSpec.ofChange sumsZolotarevWrong)

/-- 'gherkinlaw08.SumsRoots': WHATEVER THE INPUT: true; the input reads as it did. -/
def sumsRootsSpec : ChangeSpec := { name := "sumsRoots", fn := fun _ => fun
  | [d1, d2] => { results := [.lit (.bool true)], args := [d1, d2] }
  | _ => none }
def sumsRootsRow : OpenClaim := { program := "ytdombadhmaanfaa", sum := "b552336183d72da010c966c1ceed37cb9ea1d474f0f80b3995471b56abcb8baf", func := "gherkin/gherkinlaw08.SumsRoots", spec := "sumsRoots", unfollowed := true, recurses := true, plainKeys := false, apart := false }
def SumsRootsSaid : Prop := sumsRootsRow.holds Try.pinned (OpenSpec.ofChange sumsRootsSpec)

/-- ITS FALSE NEIGHBOUR: 'it returns false'. Refute it at one input. -/
def sumsRootsWrong : ChangeSpec := { name := "sumsRoots", fn := fun _ => fun
  | [d1, d2] => { results := [.lit (.bool false)], args := [d1, d2] }
  | _ => none }
def SumsRootsWrongFalsely : Prop := sumsRootsRow.holds Try.pinned (OpenSpec.ofChange sumsRootsWrong)

/-- 'gherkinlaw08.SumsSquares': WHATEVER THE INPUT: true; the input reads as it did. -/
def sumsSquaresSpec : ChangeSpec := { name := "sumsSquares", fn := fun _ => fun
  | [d1, d2] => { results := [.lit (.bool true)], args := [d1, d2] }
  | _ => none }
def sumsSquaresRow : OpenClaim := { program := "ytdombadhmaanfaa", sum := "b552336183d72da010c966c1ceed37cb9ea1d474f0f80b3995471b56abcb8baf", func := "gherkin/gherkinlaw08.SumsSquares", spec := "sumsSquares", unfollowed := true, recurses := true, plainKeys := false, apart := false }
def SumsSquaresSaid : Prop := sumsSquaresRow.holds Try.pinned (OpenSpec.ofChange sumsSquaresSpec)

/-- ITS FALSE NEIGHBOUR: 'it returns false'. Refute it at one input. -/
def sumsSquaresWrong : ChangeSpec := { name := "sumsSquares", fn := fun _ => fun
  | [d1, d2] => { results := [.lit (.bool false)], args := [d1, d2] }
  | _ => none }
def SumsSquaresWrongFalsely : Prop := sumsSquaresRow.holds Try.pinned (OpenSpec.ofChange sumsSquaresWrong)

/-- 'gherkinlaw08.SumsSymbols': WHATEVER THE INPUT: true; the input reads as it did. -/
def sumsSymbolsSpec : ChangeSpec := { name := "sumsSymbols", fn := fun _ => fun
  | [d1, d2, d3] => { results := [.lit (.bool true)], args := [d1, d2, d3] }
  | _ => none }
def sumsSymbolsRow : OpenClaim := { program := "ytdombadhmaanfaa", sum := "b552336183d72da010c966c1ceed37cb9ea1d474f0f80b3995471b56abcb8baf", func := "gherkin/gherkinlaw08.SumsSymbols", spec := "sumsSymbols", unfollowed := true, recurses := true, plainKeys := false, apart := false }
def SumsSymbolsSaid : Prop := sumsSymbolsRow.holds Try.pinned (OpenSpec.ofChange sumsSymbolsSpec)

/-- ITS FALSE NEIGHBOUR: 'it returns false'. Refute it at one input. -/
def sumsSymbolsWrong : ChangeSpec := { name := "sumsSymbols", fn := fun _ => fun
  | [d1, d2, d3] => { results := [.lit (.bool false)], args := [d1, d2, d3] }
  | _ => none }
def SumsSymbolsWrongFalsely : Prop := sumsSymbolsRow.holds Try.pinned (OpenSpec.ofChange sumsSymbolsWrong)

/-- 'gherkinlaw08.SumsSigns': WHATEVER THE INPUT: true; the input reads as it did. -/
def sumsSignsSpec : ChangeSpec := { name := "sumsSigns", fn := fun _ => fun
  | [d1, d2, d3, d4] => { results := [.lit (.bool true)], args := [d1, d2, d3, d4] }
  | _ => none }
def sumsSignsRow : OpenClaim := { program := "ytdombadhmaanfaa", sum := "b552336183d72da010c966c1ceed37cb9ea1d474f0f80b3995471b56abcb8baf", func := "gherkin/gherkinlaw08.SumsSigns", spec := "sumsSigns", unfollowed := true, recurses := true, plainKeys := false, apart := false }
def SumsSignsSaid : Prop := sumsSignsRow.holds Try.pinned (OpenSpec.ofChange sumsSignsSpec)

/-- ITS FALSE NEIGHBOUR: 'it returns false'. Refute it at one input. -/
def sumsSignsWrong : ChangeSpec := { name := "sumsSigns", fn := fun _ => fun
  | [d1, d2, d3, d4] => { results := [.lit (.bool false)], args := [d1, d2, d3, d4] }
  | _ => none }
def SumsSignsWrongFalsely : Prop := sumsSignsRow.holds Try.pinned (OpenSpec.ofChange sumsSignsWrong)

/-- 'gherkinlaw08.SumsReciprocity': WHATEVER THE INPUT: true; the input reads as it did. -/
def sumsReciprocitySpec : ChangeSpec := { name := "sumsReciprocity", fn := fun _ => fun
  | [d1, d2, d3] => { results := [.lit (.bool true)], args := [d1, d2, d3] }
  | _ => none }
def sumsReciprocityRow : OpenClaim := { program := "ytdombadhmaanfaa", sum := "b552336183d72da010c966c1ceed37cb9ea1d474f0f80b3995471b56abcb8baf", func := "gherkin/gherkinlaw08.SumsReciprocity", spec := "sumsReciprocity", unfollowed := true, recurses := true, plainKeys := false, apart := false }
def SumsReciprocitySaid : Prop := sumsReciprocityRow.holds Try.pinned (OpenSpec.ofChange sumsReciprocitySpec)

/-- ITS FALSE NEIGHBOUR: 'it returns false'. Refute it at one input. -/
def sumsReciprocityWrong : ChangeSpec := { name := "sumsReciprocity", fn := fun _ => fun
  | [d1, d2, d3] => { results := [.lit (.bool false)], args := [d1, d2, d3] }
  | _ => none }
def SumsReciprocityWrongFalsely : Prop := sumsReciprocityRow.holds Try.pinned (OpenSpec.ofChange sumsReciprocityWrong)

/-- 'gherkintop.TopHalf': WHATEVER THE INPUT: true; the input reads as it did. -/
def topHalfSpec : ChangeSpec := { name := "topHalf", fn := fun _ => fun
  | [d] => { results := [.lit (.bool true)], args := [d] }
  | _ => none }
def topHalfRow : OpenClaim := { program := "ytdombadhmaanfaa", sum := "b552336183d72da010c966c1ceed37cb9ea1d474f0f80b3995471b56abcb8baf", func := "gherkin/gherkintop.TopHalf", spec := "topHalf", unfollowed := true, recurses := true, plainKeys := false, apart := false }
def TopHalfSaid : Prop := topHalfRow.holds Try.pinned (OpenSpec.ofChange topHalfSpec)

/-- ITS FALSE NEIGHBOUR: 'it returns false'. Refute it at one input. -/
def topHalfWrong : ChangeSpec := { name := "topHalf", fn := fun _ => fun
  | [d] => { results := [.lit (.bool false)], args := [d] }
  | _ => none }
def TopHalfWrongFalsely : Prop := topHalfRow.holds Try.pinned (OpenSpec.ofChange topHalfWrong)

/-- 'gherkintop.TopCount': WHATEVER THE INPUT: true; the input reads as it did. -/
def topCountSpec : ChangeSpec := { name := "topCount", fn := fun _ => fun
  | [d] => { results := [.lit (.bool true)], args := [d] }
  | _ => none }
def topCountRow : OpenClaim := { program := "ytdombadhmaanfaa", sum := "b552336183d72da010c966c1ceed37cb9ea1d474f0f80b3995471b56abcb8baf", func := "gherkin/gherkintop.TopCount", spec := "topCount", unfollowed := true, recurses := true, plainKeys := false, apart := false }
def TopCountSaid : Prop := topCountRow.holds Try.pinned (OpenSpec.ofChange topCountSpec)

/-- ITS FALSE NEIGHBOUR: 'it returns false'. Refute it at one input. -/
def topCountWrong : ChangeSpec := { name := "topCount", fn := fun _ => fun
  | [d] => { results := [.lit (.bool false)], args := [d] }
  | _ => none }
def TopCountWrongFalsely : Prop := topCountRow.holds Try.pinned (OpenSpec.ofChange topCountWrong)

/-- 'gherkintop.TopFibonacci': WHATEVER THE INPUT: true; the input reads as it did. -/
def topFibonacciSpec : ChangeSpec := { name := "topFibonacci", fn := fun _ => fun
  | [d] => { results := [.lit (.bool true)], args := [d] }
  | _ => none }
def topFibonacciRow : OpenClaim := { program := "ytdombadhmaanfaa", sum := "b552336183d72da010c966c1ceed37cb9ea1d474f0f80b3995471b56abcb8baf", func := "gherkin/gherkintop.TopFibonacci", spec := "topFibonacci", unfollowed := true, recurses := true, plainKeys := false, apart := false }
def TopFibonacciSaid : Prop := topFibonacciRow.holds Try.pinned (OpenSpec.ofChange topFibonacciSpec)

/-- ITS FALSE NEIGHBOUR: 'it returns false'. Refute it at one input. -/
def topFibonacciWrong : ChangeSpec := { name := "topFibonacci", fn := fun _ => fun
  | [d] => { results := [.lit (.bool false)], args := [d] }
  | _ => none }
def TopFibonacciWrongFalsely : Prop := topFibonacciRow.holds Try.pinned (OpenSpec.ofChange topFibonacciWrong)

/-- 'gherkintop.TopSymbols': WHATEVER THE INPUT: true; the input reads as it did. -/
def topSymbolsSpec : ChangeSpec := { name := "topSymbols", fn := fun _ => fun
  | [d1, d2, d3] => { results := [.lit (.bool true)], args := [d1, d2, d3] }
  | _ => none }
def topSymbolsRow : OpenClaim := { program := "ytdombadhmaanfaa", sum := "b552336183d72da010c966c1ceed37cb9ea1d474f0f80b3995471b56abcb8baf", func := "gherkin/gherkintop.TopSymbols", spec := "topSymbols", unfollowed := true, recurses := true, plainKeys := false, apart := false }
def TopSymbolsSaid : Prop := topSymbolsRow.holds Try.pinned (OpenSpec.ofChange topSymbolsSpec)

/-- ITS FALSE NEIGHBOUR: 'it returns false'. Refute it at one input. -/
def topSymbolsWrong : ChangeSpec := { name := "topSymbols", fn := fun _ => fun
  | [d1, d2, d3] => { results := [.lit (.bool false)], args := [d1, d2, d3] }
  | _ => none }
def TopSymbolsWrongFalsely : Prop := topSymbolsRow.holds Try.pinned (OpenSpec.ofChange topSymbolsWrong)

/-- 'gherkintop.TopGolden': WHATEVER THE INPUT: true; the input reads as it did. -/
def topGoldenSpec : ChangeSpec := { name := "topGolden", fn := fun _ => fun
  | [d] => { results := [.lit (.bool true)], args := [d] }
  | _ => none }
def topGoldenRow : OpenClaim := { program := "ytdombadhmaanfaa", sum := "b552336183d72da010c966c1ceed37cb9ea1d474f0f80b3995471b56abcb8baf", func := "gherkin/gherkintop.TopGolden", spec := "topGolden", plainKeys := false, apart := false }
def TopGoldenSaid : Prop := topGoldenRow.holds Try.pinned (OpenSpec.ofChange topGoldenSpec)

/-- ITS FALSE NEIGHBOUR: 'it returns false'. Refute it at one input. -/
def topGoldenWrong : ChangeSpec := { name := "topGolden", fn := fun _ => fun
  | [d] => { results := [.lit (.bool false)], args := [d] }
  | _ => none }
def TopGoldenWrongFalsely : Prop := topGoldenRow.holds Try.pinned (OpenSpec.ofChange topGoldenWrong)

/- THE SECOND FORM. 'bulk': how many values and letters a reading holds, each counted each time it is reached (what is shared counts as often as it is met; a slice's spare places count too). A statement '..UptoSaid' is the law's where the arguments, and the package variables that the reading takes, are together of bulk at most 1048576: NARROWER than '..Said'. Prove '..Said' where nothing that the law and all that it calls make is longer than what came in: it says more and counts as full. Else prove '..UptoSaid'. A law counts once. -/
mutual
def uptoBulk {H : Type} : DataW H → Nat
  | .lit (.string bytes) => bytes.length + 1
  | .lit _ => 1
  | .nil => 1
  | .ptr d => uptoBulk d + 1
  | .slice elems spare => uptoBulkAll elems + uptoBulkAll spare + 1
  | .agg parts => uptoBulkAll parts + 1
  | .iface _ d => uptoBulk d + 1
  | .map entries => uptoBulkEntries entries + 1
  | .held _ => 1
def uptoBulkAll {H : Type} : List (DataW H) → Nat
  | [] => 0
  | d :: r => uptoBulk d + uptoBulkAll r
def uptoBulkEntries {H : Type} : List (Lit × DataW H) → Nat
  | [] => 0
  | x :: r => uptoBulkEntry x + uptoBulkEntries r
def uptoBulkEntry {H : Type} : Lit × DataW H → Nat
  | (.string bytes, d) => bytes.length + uptoBulk d + 1
  | (_, d) => uptoBulk d + 1
 end
def uptoSmall : (H : Type) → List (DataW H) → Bool := fun _ ds => decide (uptoBulkAll ds ≤ 1048576)
def OpenSpec.upto (s : _root_.Go.ChangeSpec) : _root_.Go.OpenSpec := { _root_.Go.OpenSpec.ofChange s with cond := some uptoSmall }

/-- 'gherkinlaw08.SumsEisenstein', WHERE WHAT IT READS IS OF BULK AT MOST 1048576: true; the input reads as it did. -/
def sumsEisensteinUptoRow : OpenClaim := { program := "ytdombadhmaanfaa", sum := "b552336183d72da010c966c1ceed37cb9ea1d474f0f80b3995471b56abcb8baf", func := "gherkin/gherkinlaw08.SumsEisenstein", spec := "sumsEisenstein", unfollowed := true, recurses := true, plainKeys := false, apart := false, narrowed := true }
def SumsEisensteinUptoSaid : Prop := sumsEisensteinUptoRow.holds Try.pinned (OpenSpec.upto sumsEisensteinSpec)

/-- 'gherkinlaw08.SumsZolotarev', WHERE WHAT IT READS IS OF BULK AT MOST 1048576: true; the input reads as it did. -/
def sumsZolotarevUptoRow : OpenClaim := { program := "ytdombadhmaanfaa", sum := "b552336183d72da010c966c1ceed37cb9ea1d474f0f80b3995471b56abcb8baf", func := "gherkin/gherkinlaw08.SumsZolotarev", spec := "sumsZolotarev", unfollowed := true, recurses := true, plainKeys := false, apart := false, narrowed := true }
def SumsZolotarevUptoSaid : Prop := sumsZolotarevUptoRow.holds Try.pinned (OpenSpec.upto sumsZolotarevSpec)

/-- 'gherkinlaw08.SumsRoots', WHERE WHAT IT READS IS OF BULK AT MOST 1048576: true; the input reads as it did. -/
def sumsRootsUptoRow : OpenClaim := { program := "ytdombadhmaanfaa", sum := "b552336183d72da010c966c1ceed37cb9ea1d474f0f80b3995471b56abcb8baf", func := "gherkin/gherkinlaw08.SumsRoots", spec := "sumsRoots", unfollowed := true, recurses := true, plainKeys := false, apart := false, narrowed := true }
def SumsRootsUptoSaid : Prop := sumsRootsUptoRow.holds Try.pinned (OpenSpec.upto sumsRootsSpec)

/-- 'gherkinlaw08.SumsSquares', WHERE WHAT IT READS IS OF BULK AT MOST 1048576: true; the input reads as it did. -/
def sumsSquaresUptoRow : OpenClaim := { program := "ytdombadhmaanfaa", sum := "b552336183d72da010c966c1ceed37cb9ea1d474f0f80b3995471b56abcb8baf", func := "gherkin/gherkinlaw08.SumsSquares", spec := "sumsSquares", unfollowed := true, recurses := true, plainKeys := false, apart := false, narrowed := true }
def SumsSquaresUptoSaid : Prop := sumsSquaresUptoRow.holds Try.pinned (OpenSpec.upto sumsSquaresSpec)

/-- 'gherkinlaw08.SumsSymbols', WHERE WHAT IT READS IS OF BULK AT MOST 1048576: true; the input reads as it did. -/
def sumsSymbolsUptoRow : OpenClaim := { program := "ytdombadhmaanfaa", sum := "b552336183d72da010c966c1ceed37cb9ea1d474f0f80b3995471b56abcb8baf", func := "gherkin/gherkinlaw08.SumsSymbols", spec := "sumsSymbols", unfollowed := true, recurses := true, plainKeys := false, apart := false, narrowed := true }
def SumsSymbolsUptoSaid : Prop := sumsSymbolsUptoRow.holds Try.pinned (OpenSpec.upto sumsSymbolsSpec)

/-- 'gherkinlaw08.SumsSigns', WHERE WHAT IT READS IS OF BULK AT MOST 1048576: true; the input reads as it did. -/
def sumsSignsUptoRow : OpenClaim := { program := "ytdombadhmaanfaa", sum := "b552336183d72da010c966c1ceed37cb9ea1d474f0f80b3995471b56abcb8baf", func := "gherkin/gherkinlaw08.SumsSigns", spec := "sumsSigns", unfollowed := true, recurses := true, plainKeys := false, apart := false, narrowed := true }
def SumsSignsUptoSaid : Prop := sumsSignsUptoRow.holds Try.pinned (OpenSpec.upto sumsSignsSpec)

/-- 'gherkinlaw08.SumsReciprocity', WHERE WHAT IT READS IS OF BULK AT MOST 1048576: true; the input reads as it did. -/
def sumsReciprocityUptoRow : OpenClaim := { program := "ytdombadhmaanfaa", sum := "b552336183d72da010c966c1ceed37cb9ea1d474f0f80b3995471b56abcb8baf", func := "gherkin/gherkinlaw08.SumsReciprocity", spec := "sumsReciprocity", unfollowed := true, recurses := true, plainKeys := false, apart := false, narrowed := true }
def SumsReciprocityUptoSaid : Prop := sumsReciprocityUptoRow.holds Try.pinned (OpenSpec.upto sumsReciprocitySpec)

/-- 'gherkintop.TopHalf', WHERE WHAT IT READS IS OF BULK AT MOST 1048576: true; the input reads as it did. -/
def topHalfUptoRow : OpenClaim := { program := "ytdombadhmaanfaa", sum := "b552336183d72da010c966c1ceed37cb9ea1d474f0f80b3995471b56abcb8baf", func := "gherkin/gherkintop.TopHalf", spec := "topHalf", unfollowed := true, recurses := true, plainKeys := false, apart := false, narrowed := true }
def TopHalfUptoSaid : Prop := topHalfUptoRow.holds Try.pinned (OpenSpec.upto topHalfSpec)

/-- 'gherkintop.TopCount', WHERE WHAT IT READS IS OF BULK AT MOST 1048576: true; the input reads as it did. -/
def topCountUptoRow : OpenClaim := { program := "ytdombadhmaanfaa", sum := "b552336183d72da010c966c1ceed37cb9ea1d474f0f80b3995471b56abcb8baf", func := "gherkin/gherkintop.TopCount", spec := "topCount", unfollowed := true, recurses := true, plainKeys := false, apart := false, narrowed := true }
def TopCountUptoSaid : Prop := topCountUptoRow.holds Try.pinned (OpenSpec.upto topCountSpec)

/-- 'gherkintop.TopFibonacci', WHERE WHAT IT READS IS OF BULK AT MOST 1048576: true; the input reads as it did. -/
def topFibonacciUptoRow : OpenClaim := { program := "ytdombadhmaanfaa", sum := "b552336183d72da010c966c1ceed37cb9ea1d474f0f80b3995471b56abcb8baf", func := "gherkin/gherkintop.TopFibonacci", spec := "topFibonacci", unfollowed := true, recurses := true, plainKeys := false, apart := false, narrowed := true }
def TopFibonacciUptoSaid : Prop := topFibonacciUptoRow.holds Try.pinned (OpenSpec.upto topFibonacciSpec)

/-- 'gherkintop.TopSymbols', WHERE WHAT IT READS IS OF BULK AT MOST 1048576: true; the input reads as it did. -/
def topSymbolsUptoRow : OpenClaim := { program := "ytdombadhmaanfaa", sum := "b552336183d72da010c966c1ceed37cb9ea1d474f0f80b3995471b56abcb8baf", func := "gherkin/gherkintop.TopSymbols", spec := "topSymbols", unfollowed := true, recurses := true, plainKeys := false, apart := false, narrowed := true }
def TopSymbolsUptoSaid : Prop := topSymbolsUptoRow.holds Try.pinned (OpenSpec.upto topSymbolsSpec)

/-- 'gherkintop.TopGolden', WHERE WHAT IT READS IS OF BULK AT MOST 1048576: true; the input reads as it did. -/
def topGoldenUptoRow : OpenClaim := { program := "ytdombadhmaanfaa", sum := "b552336183d72da010c966c1ceed37cb9ea1d474f0f80b3995471b56abcb8baf", func := "gherkin/gherkintop.TopGolden", spec := "topGolden", plainKeys := false, apart := false, narrowed := true }
def TopGoldenUptoSaid : Prop := topGoldenUptoRow.holds Try.pinned (OpenSpec.upto topGoldenSpec)

end Rows
end Go.Proofs.Ytdombadhmaanfaa
