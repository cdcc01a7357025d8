/-
  No cell of these rows narrows 'for every input' (looked for: loops, veiled, ifaces, maps, wideKeys, modest, calm, conditions, laid).
  DERIVED. THE GIVEN ROWS OF THIS SEAT. 12 by the template 'for every input the law returns true; each argument reads behind the call as it read before'; 0 by the template 'total and deterministic' (their statements: YtbelgbbfmnccoaaTotals.lean).
  GIVEN WITH THE SEED: the statements are not yours to turn. If you find one false, say at which input.
  Laid BY PROGRAM, IN A SANDBOX (cutbox-rows.mjs): the forced cells as the released guide's own fill.sh prints them over the translation a776d61d989b74f7… (all of the seat's roots in one cut). By AI agents, Wed Nov 11 2026. No macro, syntax, notation, axiom, sorry.
-/
import Derived.Test.YtbelgbbfmnccoaaChecked
import GoSem.Claim
import GoSem.ClaimJoined
import GoSem.ClaimMapViews
import Derived.JoinedTies
import Derived.KernelRfl
namespace Go.Proofs.Ytbelgbbfmnccoaa
/- THE CELL 'sum', in the pinned program and in every row, IS THE sha256 OF THE DUMP (.gsa) THAT YtbelgbbfmnccoaaProg.lean LOADS. Nothing in Lean hashes anything: it is a label: what it is worth is what the hold of that sum in a sandbox is worth. -/
noncomputable def Try.pinned : Pinned := { name := "ytbelgbbfmnccoaa", sum := "a776d61d989b74f795359be82a6ca80ebb3af4675f6d0d98ff9a7cc746a92c44", checked := Try.checked }
namespace Rows
def none {H : Type} : Left H := { results := [], args := [] }

/-- 'laws.FnExactIsColouring': WHATEVER THE INPUT: true; the input reads as it did. -/
def fnExactIsColouringSpec : ChangeSpec := { name := "fnExactIsColouring", fn := fun _ => fun
  | [d] => { results := [.lit (.bool true)], args := [d] }
  | _ => none }
def fnExactIsColouringRow : OpenClaim := { program := "ytbelgbbfmnccoaa", sum := "a776d61d989b74f795359be82a6ca80ebb3af4675f6d0d98ff9a7cc746a92c44", func := "loop.example/g00919/laws.FnExactIsColouring", spec := "fnExactIsColouring", apart := false }
def FnExactIsColouringSaid : Prop := fnExactIsColouringRow.holds Try.pinned (OpenSpec.ofChange fnExactIsColouringSpec)

/-- ITS FALSE NEIGHBOUR: 'it returns false'. Refute it at one input. -/
def fnExactIsColouringWrong : ChangeSpec := { name := "fnExactIsColouring", fn := fun _ => fun
  | [d] => { results := [.lit (.bool false)], args := [d] }
  | _ => none }
def FnExactIsColouringWrongFalsely : Prop := fnExactIsColouringRow.holds Try.pinned (OpenSpec.ofChange fnExactIsColouringWrong)

/-- 'laws.FnExactSelectionOf': WHATEVER THE INPUT: true; the input reads as it did. -/
def fnExactSelectionOfSpec : ChangeSpec := { name := "fnExactSelectionOf", fn := fun _ => fun
  | [d] => { results := [.lit (.bool true)], args := [d] }
  | _ => none }
def fnExactSelectionOfRow : OpenClaim := { program := "ytbelgbbfmnccoaa", sum := "a776d61d989b74f795359be82a6ca80ebb3af4675f6d0d98ff9a7cc746a92c44", func := "loop.example/g00919/laws.FnExactSelectionOf", spec := "fnExactSelectionOf", unfollowed := true, recurses := true, apart := false }
def FnExactSelectionOfSaid : Prop := fnExactSelectionOfRow.holds Try.pinned (OpenSpec.ofChange fnExactSelectionOfSpec)

/-- ITS FALSE NEIGHBOUR: 'it returns false'. Refute it at one input. -/
def fnExactSelectionOfWrong : ChangeSpec := { name := "fnExactSelectionOf", fn := fun _ => fun
  | [d] => { results := [.lit (.bool false)], args := [d] }
  | _ => none }
def FnExactSelectionOfWrongFalsely : Prop := fnExactSelectionOfRow.holds Try.pinned (OpenSpec.ofChange fnExactSelectionOfWrong)

/-- 'laws.FnExactIsCover': WHATEVER THE INPUT: true; the input reads as it did. -/
def fnExactIsCoverSpec : ChangeSpec := { name := "fnExactIsCover", fn := fun _ => fun
  | [d] => { results := [.lit (.bool true)], args := [d] }
  | _ => none }
def fnExactIsCoverRow : OpenClaim := { program := "ytbelgbbfmnccoaa", sum := "a776d61d989b74f795359be82a6ca80ebb3af4675f6d0d98ff9a7cc746a92c44", func := "loop.example/g00919/laws.FnExactIsCover", spec := "fnExactIsCover", unfollowed := true, recurses := true, apart := false }
def FnExactIsCoverSaid : Prop := fnExactIsCoverRow.holds Try.pinned (OpenSpec.ofChange fnExactIsCoverSpec)

/-- ITS FALSE NEIGHBOUR: 'it returns false'. Refute it at one input. -/
def fnExactIsCoverWrong : ChangeSpec := { name := "fnExactIsCover", fn := fun _ => fun
  | [d] => { results := [.lit (.bool false)], args := [d] }
  | _ => none }
def FnExactIsCoverWrongFalsely : Prop := fnExactIsCoverRow.holds Try.pinned (OpenSpec.ofChange fnExactIsCoverWrong)

/-- 'laws.FnExactIsFormula': WHATEVER THE INPUT: true; the input reads as it did. -/
def fnExactIsFormulaSpec : ChangeSpec := { name := "fnExactIsFormula", fn := fun _ => fun
  | [d] => { results := [.lit (.bool true)], args := [d] }
  | _ => none }
def fnExactIsFormulaRow : OpenClaim := { program := "ytbelgbbfmnccoaa", sum := "a776d61d989b74f795359be82a6ca80ebb3af4675f6d0d98ff9a7cc746a92c44", func := "loop.example/g00919/laws.FnExactIsFormula", spec := "fnExactIsFormula", unfollowed := true, recurses := true, apart := false }
def FnExactIsFormulaSaid : Prop := fnExactIsFormulaRow.holds Try.pinned (OpenSpec.ofChange fnExactIsFormulaSpec)

/-- ITS FALSE NEIGHBOUR: 'it returns false'. Refute it at one input. -/
def fnExactIsFormulaWrong : ChangeSpec := { name := "fnExactIsFormula", fn := fun _ => fun
  | [d] => { results := [.lit (.bool false)], args := [d] }
  | _ => none }
def FnExactIsFormulaWrongFalsely : Prop := fnExactIsFormulaRow.holds Try.pinned (OpenSpec.ofChange fnExactIsFormulaWrong)

/-- 'laws.FnExactIsSolution': WHATEVER THE INPUT: true; the input reads as it did. -/
def fnExactIsSolutionSpec : ChangeSpec := { name := "fnExactIsSolution", fn := fun _ => fun
  | [d1, d2] => { results := [.lit (.bool true)], args := [d1, d2] }
  | _ => none }
def fnExactIsSolutionRow : OpenClaim := { program := "ytbelgbbfmnccoaa", sum := "a776d61d989b74f795359be82a6ca80ebb3af4675f6d0d98ff9a7cc746a92c44", func := "loop.example/g00919/laws.FnExactIsSolution", spec := "fnExactIsSolution", unfollowed := true, recurses := true, apart := false }
def FnExactIsSolutionSaid : Prop := fnExactIsSolutionRow.holds Try.pinned (OpenSpec.ofChange fnExactIsSolutionSpec)

/-- ITS FALSE NEIGHBOUR: 'it returns false'. Refute it at one input. -/
def fnExactIsSolutionWrong : ChangeSpec := { name := "fnExactIsSolution", fn := fun _ => fun
  | [d1, d2] => { results := [.lit (.bool false)], args := [d1, d2] }
  | _ => none }
def FnExactIsSolutionWrongFalsely : Prop := fnExactIsSolutionRow.holds Try.pinned (OpenSpec.ofChange fnExactIsSolutionWrong)

/-- 'laws.FnExactColourCounts': WHATEVER THE INPUT: true; the input reads as it did. -/
def fnExactColourCountsSpec : ChangeSpec := { name := "fnExactColourCounts", fn := fun _ => fun
  | [d1, d2] => { results := [.lit (.bool true)], args := [d1, d2] }
  | _ => none }
def fnExactColourCountsRow : OpenClaim := { program := "ytbelgbbfmnccoaa", sum := "a776d61d989b74f795359be82a6ca80ebb3af4675f6d0d98ff9a7cc746a92c44", func := "loop.example/g00919/laws.FnExactColourCounts", spec := "fnExactColourCounts", apart := false }
def FnExactColourCountsSaid : Prop := fnExactColourCountsRow.holds Try.pinned (OpenSpec.ofChange fnExactColourCountsSpec)

/-- ITS FALSE NEIGHBOUR: 'it returns false'. Refute it at one input. -/
def fnExactColourCountsWrong : ChangeSpec := { name := "fnExactColourCounts", fn := fun _ => fun
  | [d1, d2] => { results := [.lit (.bool false)], args := [d1, d2] }
  | _ => none }
def FnExactColourCountsWrongFalsely : Prop := fnExactColourCountsRow.holds Try.pinned (OpenSpec.ofChange fnExactColourCountsWrong)

/-- 'laws.FnExactColumnRows': WHATEVER THE INPUT: true; the input reads as it did. -/
def fnExactColumnRowsSpec : ChangeSpec := { name := "fnExactColumnRows", fn := fun _ => fun
  | [d1, d2] => { results := [.lit (.bool true)], args := [d1, d2] }
  | _ => none }
def fnExactColumnRowsRow : OpenClaim := { program := "ytbelgbbfmnccoaa", sum := "a776d61d989b74f795359be82a6ca80ebb3af4675f6d0d98ff9a7cc746a92c44", func := "loop.example/g00919/laws.FnExactColumnRows", spec := "fnExactColumnRows", unfollowed := true, recurses := true, apart := false }
def FnExactColumnRowsSaid : Prop := fnExactColumnRowsRow.holds Try.pinned (OpenSpec.ofChange fnExactColumnRowsSpec)

/-- ITS FALSE NEIGHBOUR: 'it returns false'. Refute it at one input. -/
def fnExactColumnRowsWrong : ChangeSpec := { name := "fnExactColumnRows", fn := fun _ => fun
  | [d1, d2] => { results := [.lit (.bool false)], args := [d1, d2] }
  | _ => none }
def FnExactColumnRowsWrongFalsely : Prop := fnExactColumnRowsRow.holds Try.pinned (OpenSpec.ofChange fnExactColumnRowsWrong)

/-- 'laws.FnExactSatisfies': WHATEVER THE INPUT: true; the input reads as it did. -/
def fnExactSatisfiesSpec : ChangeSpec := { name := "fnExactSatisfies", fn := fun _ => fun
  | [d1, d2] => { results := [.lit (.bool true)], args := [d1, d2] }
  | _ => none }
def fnExactSatisfiesRow : OpenClaim := { program := "ytbelgbbfmnccoaa", sum := "a776d61d989b74f795359be82a6ca80ebb3af4675f6d0d98ff9a7cc746a92c44", func := "loop.example/g00919/laws.FnExactSatisfies", spec := "fnExactSatisfies", unfollowed := true, recurses := true, apart := false }
def FnExactSatisfiesSaid : Prop := fnExactSatisfiesRow.holds Try.pinned (OpenSpec.ofChange fnExactSatisfiesSpec)

/-- ITS FALSE NEIGHBOUR: 'it returns false'. Refute it at one input. -/
def fnExactSatisfiesWrong : ChangeSpec := { name := "fnExactSatisfies", fn := fun _ => fun
  | [d1, d2] => { results := [.lit (.bool false)], args := [d1, d2] }
  | _ => none }
def FnExactSatisfiesWrongFalsely : Prop := fnExactSatisfiesRow.holds Try.pinned (OpenSpec.ofChange fnExactSatisfiesWrong)

/-- 'laws.FnExactClashesOf': WHATEVER THE INPUT: true; the input reads as it did. -/
def fnExactClashesOfSpec : ChangeSpec := { name := "fnExactClashesOf", fn := fun _ => fun
  | [d1, d2] => { results := [.lit (.bool true)], args := [d1, d2] }
  | _ => none }
def fnExactClashesOfRow : OpenClaim := { program := "ytbelgbbfmnccoaa", sum := "a776d61d989b74f795359be82a6ca80ebb3af4675f6d0d98ff9a7cc746a92c44", func := "loop.example/g00919/laws.FnExactClashesOf", spec := "fnExactClashesOf", unfollowed := true, recurses := true, apart := false }
def FnExactClashesOfSaid : Prop := fnExactClashesOfRow.holds Try.pinned (OpenSpec.ofChange fnExactClashesOfSpec)

/-- ITS FALSE NEIGHBOUR: 'it returns false'. Refute it at one input. -/
def fnExactClashesOfWrong : ChangeSpec := { name := "fnExactClashesOf", fn := fun _ => fun
  | [d1, d2] => { results := [.lit (.bool false)], args := [d1, d2] }
  | _ => none }
def FnExactClashesOfWrongFalsely : Prop := fnExactClashesOfRow.holds Try.pinned (OpenSpec.ofChange fnExactClashesOfWrong)

/-- 'laws.FnExactUncoveredBy': WHATEVER THE INPUT: true; the input reads as it did. -/
def fnExactUncoveredBySpec : ChangeSpec := { name := "fnExactUncoveredBy", fn := fun _ => fun
  | [d1, d2] => { results := [.lit (.bool true)], args := [d1, d2] }
  | _ => none }
def fnExactUncoveredByRow : OpenClaim := { program := "ytbelgbbfmnccoaa", sum := "a776d61d989b74f795359be82a6ca80ebb3af4675f6d0d98ff9a7cc746a92c44", func := "loop.example/g00919/laws.FnExactUncoveredBy", spec := "fnExactUncoveredBy", unfollowed := true, recurses := true, apart := false }
def FnExactUncoveredBySaid : Prop := fnExactUncoveredByRow.holds Try.pinned (OpenSpec.ofChange fnExactUncoveredBySpec)

/-- ITS FALSE NEIGHBOUR: 'it returns false'. Refute it at one input. -/
def fnExactUncoveredByWrong : ChangeSpec := { name := "fnExactUncoveredBy", fn := fun _ => fun
  | [d1, d2] => { results := [.lit (.bool false)], args := [d1, d2] }
  | _ => none }
def FnExactUncoveredByWrongFalsely : Prop := fnExactUncoveredByRow.holds Try.pinned (OpenSpec.ofChange fnExactUncoveredByWrong)

/-- 'laws.FnExactIsWeighting': WHATEVER THE INPUT: true; the input reads as it did. -/
def fnExactIsWeightingSpec : ChangeSpec := { name := "fnExactIsWeighting", fn := fun _ => fun
  | [d1, d2] => { results := [.lit (.bool true)], args := [d1, d2] }
  | _ => none }
def fnExactIsWeightingRow : OpenClaim := { program := "ytbelgbbfmnccoaa", sum := "a776d61d989b74f795359be82a6ca80ebb3af4675f6d0d98ff9a7cc746a92c44", func := "loop.example/g00919/laws.FnExactIsWeighting", spec := "fnExactIsWeighting", unfollowed := true, recurses := true, apart := false }
def FnExactIsWeightingSaid : Prop := fnExactIsWeightingRow.holds Try.pinned (OpenSpec.ofChange fnExactIsWeightingSpec)

/-- ITS FALSE NEIGHBOUR: 'it returns false'. Refute it at one input. -/
def fnExactIsWeightingWrong : ChangeSpec := { name := "fnExactIsWeighting", fn := fun _ => fun
  | [d1, d2] => { results := [.lit (.bool false)], args := [d1, d2] }
  | _ => none }
def FnExactIsWeightingWrongFalsely : Prop := fnExactIsWeightingRow.holds Try.pinned (OpenSpec.ofChange fnExactIsWeightingWrong)

/-- 'laws.FnExactPlaneWeights': WHATEVER THE INPUT: true; the input reads as it did. -/
def fnExactPlaneWeightsSpec : ChangeSpec := { name := "fnExactPlaneWeights", fn := fun _ => fun
  | [d1, d2, d3, d4, d5] => { results := [.lit (.bool true)], args := [d1, d2, d3, d4, d5] }
  | _ => none }
def fnExactPlaneWeightsRow : OpenClaim := { program := "ytbelgbbfmnccoaa", sum := "a776d61d989b74f795359be82a6ca80ebb3af4675f6d0d98ff9a7cc746a92c44", func := "loop.example/g00919/laws.FnExactPlaneWeights", spec := "fnExactPlaneWeights", apart := false }
def FnExactPlaneWeightsSaid : Prop := fnExactPlaneWeightsRow.holds Try.pinned (OpenSpec.ofChange fnExactPlaneWeightsSpec)

/-- ITS FALSE NEIGHBOUR: 'it returns false'. Refute it at one input. -/
def fnExactPlaneWeightsWrong : ChangeSpec := { name := "fnExactPlaneWeights", fn := fun _ => fun
  | [d1, d2, d3, d4, d5] => { results := [.lit (.bool false)], args := [d1, d2, d3, d4, d5] }
  | _ => none }
def FnExactPlaneWeightsWrongFalsely : Prop := fnExactPlaneWeightsRow.holds Try.pinned (OpenSpec.ofChange fnExactPlaneWeightsWrong)

/- THE SECOND FORM. 'bulk': how many values and letters a reading holds, each counted each time it is reached (what is shared counts as often as it is met; a slice's spare places count too). A statement '..UptoSaid' is the law's where the arguments, and the package variables that the reading takes, are together of bulk at most 1048576: NARROWER than '..Said'. Prove '..Said' where nothing that the law and all that it calls make is longer than what came in: it says more and counts as full. Else prove '..UptoSaid'. A law counts once. -/
mutual
def uptoBulk {H : Type} : DataW H → Nat
  | .lit (.string bytes) => bytes.length + 1
  | .lit _ => 1
  | .nil => 1
  | .ptr d => uptoBulk d + 1
  | .slice elems spare => uptoBulkAll elems + uptoBulkAll spare + 1
  | .agg parts => uptoBulkAll parts + 1
  | .iface _ d => uptoBulk d + 1
  | .map entries => uptoBulkEntries entries + 1
  | .held _ => 1
def uptoBulkAll {H : Type} : List (DataW H) → Nat
  | [] => 0
  | d :: r => uptoBulk d + uptoBulkAll r
def uptoBulkEntries {H : Type} : List (Lit × DataW H) → Nat
  | [] => 0
  | x :: r => uptoBulkEntry x + uptoBulkEntries r
def uptoBulkEntry {H : Type} : Lit × DataW H → Nat
  | (.string bytes, d) => bytes.length + uptoBulk d + 1
  | (_, d) => uptoBulk d + 1
 end
def uptoSmall : (H : Type) → List (DataW H) → Bool := fun _ ds => decide (uptoBulkAll ds ≤ 1048576)
def OpenSpec.upto (s : _root_.Go.ChangeSpec) : _root_.Go.OpenSpec := { _root_.Go.OpenSpec.ofChange s with cond := some uptoSmall }

/-- 'laws.FnExactIsColouring', WHERE WHAT IT READS IS OF BULK AT MOST 1048576: true; the input reads as it did. -/
def fnExactIsColouringUptoRow : OpenClaim := { program := "ytbelgbbfmnccoaa", sum := "a776d61d989b74f795359be82a6ca80ebb3af4675f6d0d98ff9a7cc746a92c44", func := "loop.example/g00919/laws.FnExactIsColouring", spec := "fnExactIsColouring", apart := false, narrowed := true }
def FnExactIsColouringUptoSaid : Prop := fnExactIsColouringUptoRow.holds Try.pinned (OpenSpec.upto fnExactIsColouringSpec)

/-- 'laws.FnExactSelectionOf', WHERE WHAT IT READS IS OF BULK AT MOST 1048576: true; the input reads as it did. -/
def fnExactSelectionOfUptoRow : OpenClaim := { program := "ytbelgbbfmnccoaa", sum := "a776d61d989b74f795359be82a6ca80ebb3af4675f6d0d98ff9a7cc746a92c44", func := "loop.example/g00919/laws.FnExactSelectionOf", spec := "fnExactSelectionOf", unfollowed := true, recurses := true, apart := false, narrowed := true }
def FnExactSelectionOfUptoSaid : Prop := fnExactSelectionOfUptoRow.holds Try.pinned (OpenSpec.upto fnExactSelectionOfSpec)

/-- 'laws.FnExactIsCover', WHERE WHAT IT READS IS OF BULK AT MOST 1048576: true; the input reads as it did. -/
def fnExactIsCoverUptoRow : OpenClaim := { program := "ytbelgbbfmnccoaa", sum := "a776d61d989b74f795359be82a6ca80ebb3af4675f6d0d98ff9a7cc746a92c44", func := "loop.example/g00919/laws.FnExactIsCover", spec := "fnExactIsCover", unfollowed := true, recurses := true, apart := false, narrowed := true }
def FnExactIsCoverUptoSaid : Prop := fnExactIsCoverUptoRow.holds Try.pinned (OpenSpec.upto fnExactIsCoverSpec)

/-- 'laws.FnExactIsFormula', WHERE WHAT IT READS IS OF BULK AT MOST 1048576: true; the input reads as it did. -/
def fnExactIsFormulaUptoRow : OpenClaim := { program := "ytbelgbbfmnccoaa", sum := "a776d61d989b74f795359be82a6ca80ebb3af4675f6d0d98ff9a7cc746a92c44", func := "loop.example/g00919/laws.FnExactIsFormula", spec := "fnExactIsFormula", unfollowed := true, recurses := true, apart := false, narrowed := true }
def FnExactIsFormulaUptoSaid : Prop := fnExactIsFormulaUptoRow.holds Try.pinned (OpenSpec.upto fnExactIsFormulaSpec)

/-- 'laws.FnExactIsSolution', WHERE WHAT IT READS IS OF BULK AT MOST 1048576: true; the input reads as it did. -/
def fnExactIsSolutionUptoRow : OpenClaim := { program := "ytbelgbbfmnccoaa", sum := "a776d61d989b74f795359be82a6ca80ebb3af4675f6d0d98ff9a7cc746a92c44", func := "loop.example/g00919/laws.FnExactIsSolution", spec := "fnExactIsSolution", unfollowed := true, recurses := true, apart := false, narrowed := true }
def FnExactIsSolutionUptoSaid : Prop := fnExactIsSolutionUptoRow.holds Try.pinned (OpenSpec.upto fnExactIsSolutionSpec)

/-- 'laws.FnExactColourCounts', WHERE WHAT IT READS IS OF BULK AT MOST 1048576: true; the input reads as it did. -/
def fnExactColourCountsUptoRow : OpenClaim := { program := "ytbelgbbfmnccoaa", sum := "a776d61d989b74f795359be82a6ca80ebb3af4675f6d0d98ff9a7cc746a92c44", func := "loop.example/g00919/laws.FnExactColourCounts", spec := "fnExactColourCounts", apart := false, narrowed := true }
def FnExactColourCountsUptoSaid : Prop := fnExactColourCountsUptoRow.holds Try.pinned (OpenSpec.upto fnExactColourCountsSpec)

/-- 'laws.FnExactColumnRows', WHERE WHAT IT READS IS OF BULK AT MOST 1048576: true; the input reads as it did. -/
def fnExactColumnRowsUptoRow : OpenClaim := { program := "ytbelgbbfmnccoaa", sum := "a776d61d989b74f795359be82a6ca80ebb3af4675f6d0d98ff9a7cc746a92c44", func := "loop.example/g00919/laws.FnExactColumnRows", spec := "fnExactColumnRows", unfollowed := true, recurses := true, apart := false, narrowed := true }
def FnExactColumnRowsUptoSaid : Prop := fnExactColumnRowsUptoRow.holds Try.pinned (OpenSpec.upto fnExactColumnRowsSpec)

/-- 'laws.FnExactSatisfies', WHERE WHAT IT READS IS OF BULK AT MOST 1048576: true; the input reads as it did. -/
def fnExactSatisfiesUptoRow : OpenClaim := { program := "ytbelgbbfmnccoaa", sum := "a776d61d989b74f795359be82a6ca80ebb3af4675f6d0d98ff9a7cc746a92c44", func := "loop.example/g00919/laws.FnExactSatisfies", spec := "fnExactSatisfies", unfollowed := true, recurses := true, apart := false, narrowed := true }
def FnExactSatisfiesUptoSaid : Prop := fnExactSatisfiesUptoRow.holds Try.pinned (OpenSpec.upto fnExactSatisfiesSpec)

/-- 'laws.FnExactClashesOf', WHERE WHAT IT READS IS OF BULK AT MOST 1048576: true; the input reads as it did. -/
def fnExactClashesOfUptoRow : OpenClaim := { program := "ytbelgbbfmnccoaa", sum := "a776d61d989b74f795359be82a6ca80ebb3af4675f6d0d98ff9a7cc746a92c44", func := "loop.example/g00919/laws.FnExactClashesOf", spec := "fnExactClashesOf", unfollowed := true, recurses := true, apart := false, narrowed := true }
def FnExactClashesOfUptoSaid : Prop := fnExactClashesOfUptoRow.holds Try.pinned (OpenSpec.upto fnExactClashesOfSpec)

/-- 'laws.FnExactUncoveredBy', WHERE WHAT IT READS IS OF BULK AT MOST 1048576: true; the input reads as it did. -/
def fnExactUncoveredByUptoRow : OpenClaim := { program := "ytbelgbbfmnccoaa", sum := "a776d61d989b74f795359be82a6ca80ebb3af4675f6d0d98ff9a7cc746a92c44", func := "loop.example/g00919/laws.FnExactUncoveredBy", spec := "fnExactUncoveredBy", unfollowed := true, recurses := true, apart := false, narrowed := true }
def FnExactUncoveredByUptoSaid : Prop := fnExactUncoveredByUptoRow.holds Try.pinned (OpenSpec.upto fnExactUncoveredBySpec)

/-- 'laws.FnExactIsWeighting', WHERE WHAT IT READS IS OF BULK AT MOST 1048576: true; the input reads as it did. -/
def fnExactIsWeightingUptoRow : OpenClaim := { program := "ytbelgbbfmnccoaa", sum := "a776d61d989b74f795359be82a6ca80ebb3af4675f6d0d98ff9a7cc746a92c44", func := "loop.example/g00919/laws.FnExactIsWeighting", spec := "fnExactIsWeighting", unfollowed := true, recurses := true, apart := false, narrowed := true }
def FnExactIsWeightingUptoSaid : Prop := fnExactIsWeightingUptoRow.holds Try.pinned (OpenSpec.upto fnExactIsWeightingSpec)

/-- 'laws.FnExactPlaneWeights', WHERE WHAT IT READS IS OF BULK AT MOST 1048576: true; the input reads as it did. -/
def fnExactPlaneWeightsUptoRow : OpenClaim := { program := "ytbelgbbfmnccoaa", sum := "a776d61d989b74f795359be82a6ca80ebb3af4675f6d0d98ff9a7cc746a92c44", func := "loop.example/g00919/laws.FnExactPlaneWeights", spec := "fnExactPlaneWeights", apart := false, narrowed := true }
def FnExactPlaneWeightsUptoSaid : Prop := fnExactPlaneWeightsUptoRow.holds Try.pinned (OpenSpec.upto fnExactPlaneWeightsSpec)

end Rows
end Go.Proofs.Ytbelgbbfmnccoaa
