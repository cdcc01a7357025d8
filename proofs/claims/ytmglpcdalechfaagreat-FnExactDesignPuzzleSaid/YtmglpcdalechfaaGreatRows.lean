/-
  No cell of these rows narrows 'for every input' (looked for: loops, veiled, ifaces, maps, wideKeys, modest, calm, conditions, laid).
  DERIVED. THE GIVEN ROWS OF THIS SEAT. 11 by the template 'for every input the law returns true; each argument reads behind the call as it read before'; 0 by the template 'total and deterministic' (their statements: YtmglpcdalechfaaGreatTotals.lean).
  GIVEN WITH THE SEED: the statements are not yours to turn. If you find one false, say at which input.
  Laid BY PROGRAM, IN A SANDBOX (cutbox-rows.mjs): the forced cells as the released guide's own fill.sh prints them over the translation a1298bae90de0863… (all of the seat's roots in one cut). By AI agents, Wed Nov 11 2026. No macro, syntax, notation, axiom, sorry.
-/
import Derived.Test.YtmglpcdalechfaaGreatChecked
import GoSem.Claim
import GoSem.ClaimJoined
import GoSem.ClaimMapViews
import Derived.JoinedTies
import Derived.KernelRfl
namespace Go.Proofs.YtmglpcdalechfaaGreat
/- THE CELL 'sum', in the pinned program and in every row, IS THE sha256 OF THE DUMP (.gsa) THAT YtmglpcdalechfaaGreatProg.lean LOADS. Nothing in Lean hashes anything: it is a label: what it is worth is what the hold of that sum in a sandbox is worth. -/
noncomputable def Tryz.pinned : Pinned := { name := "ytmglpcdalechfaagreat", sum := "a1298bae90de0863952cb389944a799b91e7daa94a481aba73c3154ce55c0b38", checked := Tryz.checked }
namespace Rows
def none {H : Type} : Left H := { results := [], args := [] }

/-- 'laws.FnExactCoverOfPuzzle': WHATEVER THE INPUT: true; the input reads as it did. -/
def fnExactCoverOfPuzzleSpec : ChangeSpec := { name := "fnExactCoverOfPuzzle", fn := fun _ => fun
  | [d] => { results := [.lit (.bool true)], args := [d] }
  | _ => none }
def fnExactCoverOfPuzzleRow : OpenClaim := { program := "ytmglpcdalechfaagreat", sum := "a1298bae90de0863952cb389944a799b91e7daa94a481aba73c3154ce55c0b38", func := "loop.example/g00919/laws.FnExactCoverOfPuzzle", spec := "fnExactCoverOfPuzzle", unfollowed := true, recurses := true, plainKeys := false, apart := false }
def FnExactCoverOfPuzzleSaid : Prop := fnExactCoverOfPuzzleRow.holds Tryz.pinned (OpenSpec.ofChange fnExactCoverOfPuzzleSpec)

/-- ITS FALSE NEIGHBOUR: 'it returns false'. Refute it at one input. -/
def fnExactCoverOfPuzzleWrong : ChangeSpec := { name := "fnExactCoverOfPuzzle", fn := fun _ => fun
  | [d] => { results := [.lit (.bool false)], args := [d] }
  | _ => none }
def FnExactCoverOfPuzzleWrongFalsely : Prop := fnExactCoverOfPuzzleRow.holds Tryz.pinned (OpenSpec.ofChange fnExactCoverOfPuzzleWrong)

/-- 'laws.FnExactPieceWeights': WHATEVER THE INPUT: true; the input reads as it did. -/
def fnExactPieceWeightsSpec : ChangeSpec := { name := "fnExactPieceWeights", fn := fun _ => fun
  | [d1, d2, d3] => { results := [.lit (.bool true)], args := [d1, d2, d3] }
  | _ => none }
def fnExactPieceWeightsRow : OpenClaim := { program := "ytmglpcdalechfaagreat", sum := "a1298bae90de0863952cb389944a799b91e7daa94a481aba73c3154ce55c0b38", func := "loop.example/g00919/laws.FnExactPieceWeights", spec := "fnExactPieceWeights", unfollowed := true, recurses := true, plainKeys := false, apart := false }
def FnExactPieceWeightsSaid : Prop := fnExactPieceWeightsRow.holds Tryz.pinned (OpenSpec.ofChange fnExactPieceWeightsSpec)

/-- ITS FALSE NEIGHBOUR: 'it returns false'. Refute it at one input. -/
def fnExactPieceWeightsWrong : ChangeSpec := { name := "fnExactPieceWeights", fn := fun _ => fun
  | [d1, d2, d3] => { results := [.lit (.bool false)], args := [d1, d2, d3] }
  | _ => none }
def FnExactPieceWeightsWrongFalsely : Prop := fnExactPieceWeightsRow.holds Tryz.pinned (OpenSpec.ofChange fnExactPieceWeightsWrong)

/-- 'laws.FnExactDoesRefute': WHATEVER THE INPUT: true; the input reads as it did. -/
def fnExactDoesRefuteSpec : ChangeSpec := { name := "fnExactDoesRefute", fn := fun _ => fun
  | [d1, d2] => { results := [.lit (.bool true)], args := [d1, d2] }
  | _ => none }
def fnExactDoesRefuteRow : OpenClaim := { program := "ytmglpcdalechfaagreat", sum := "a1298bae90de0863952cb389944a799b91e7daa94a481aba73c3154ce55c0b38", func := "loop.example/g00919/laws.FnExactDoesRefute", spec := "fnExactDoesRefute", unfollowed := true, recurses := true, plainKeys := false, apart := false }
def FnExactDoesRefuteSaid : Prop := fnExactDoesRefuteRow.holds Tryz.pinned (OpenSpec.ofChange fnExactDoesRefuteSpec)

/-- ITS FALSE NEIGHBOUR: 'it returns false'. Refute it at one input. -/
def fnExactDoesRefuteWrong : ChangeSpec := { name := "fnExactDoesRefute", fn := fun _ => fun
  | [d1, d2] => { results := [.lit (.bool false)], args := [d1, d2] }
  | _ => none }
def FnExactDoesRefuteWrongFalsely : Prop := fnExactDoesRefuteRow.holds Tryz.pinned (OpenSpec.ofChange fnExactDoesRefuteWrong)

/-- 'laws.FnExactFindWeighting': WHATEVER THE INPUT: true; the input reads as it did. -/
def fnExactFindWeightingSpec : ChangeSpec := { name := "fnExactFindWeighting", fn := fun _ => fun
  | [d] => { results := [.lit (.bool true)], args := [d] }
  | _ => none }
def fnExactFindWeightingRow : OpenClaim := { program := "ytmglpcdalechfaagreat", sum := "a1298bae90de0863952cb389944a799b91e7daa94a481aba73c3154ce55c0b38", func := "loop.example/g00919/laws.FnExactFindWeighting", spec := "fnExactFindWeighting", unfollowed := true, recurses := true, plainKeys := false, apart := false }
def FnExactFindWeightingSaid : Prop := fnExactFindWeightingRow.holds Tryz.pinned (OpenSpec.ofChange fnExactFindWeightingSpec)

/-- ITS FALSE NEIGHBOUR: 'it returns false'. Refute it at one input. -/
def fnExactFindWeightingWrong : ChangeSpec := { name := "fnExactFindWeighting", fn := fun _ => fun
  | [d] => { results := [.lit (.bool false)], args := [d] }
  | _ => none }
def FnExactFindWeightingWrongFalsely : Prop := fnExactFindWeightingRow.holds Tryz.pinned (OpenSpec.ofChange fnExactFindWeightingWrong)

/-- 'laws.FnExactCountLists': WHATEVER THE INPUT: true; the input reads as it did. -/
def fnExactCountListsSpec : ChangeSpec := { name := "fnExactCountLists", fn := fun _ => fun
  | [d1, d2] => { results := [.lit (.bool true)], args := [d1, d2] }
  | _ => none }
def fnExactCountListsRow : OpenClaim := { program := "ytmglpcdalechfaagreat", sum := "a1298bae90de0863952cb389944a799b91e7daa94a481aba73c3154ce55c0b38", func := "loop.example/g00919/laws.FnExactCountLists", spec := "fnExactCountLists", unfollowed := true, recurses := true, plainKeys := false, apart := false }
def FnExactCountListsSaid : Prop := fnExactCountListsRow.holds Tryz.pinned (OpenSpec.ofChange fnExactCountListsSpec)

/-- ITS FALSE NEIGHBOUR: 'it returns false'. Refute it at one input. -/
def fnExactCountListsWrong : ChangeSpec := { name := "fnExactCountLists", fn := fun _ => fun
  | [d1, d2] => { results := [.lit (.bool false)], args := [d1, d2] }
  | _ => none }
def FnExactCountListsWrongFalsely : Prop := fnExactCountListsRow.holds Tryz.pinned (OpenSpec.ofChange fnExactCountListsWrong)

/-- 'laws.FnExactSolutionText': WHATEVER THE INPUT: true; the input reads as it did. -/
def fnExactSolutionTextSpec : ChangeSpec := { name := "fnExactSolutionText", fn := fun _ => fun
  | [d1, d2] => { results := [.lit (.bool true)], args := [d1, d2] }
  | _ => none }
def fnExactSolutionTextRow : OpenClaim := { program := "ytmglpcdalechfaagreat", sum := "a1298bae90de0863952cb389944a799b91e7daa94a481aba73c3154ce55c0b38", func := "loop.example/g00919/laws.FnExactSolutionText", spec := "fnExactSolutionText", inPlace := ["internal/abi.NoEscape", "internal/bytealg.MakeNoZero"], unfollowed := true, recurses := true, plainKeys := false, apart := false }
def FnExactSolutionTextSaid : Prop := fnExactSolutionTextRow.holds Tryz.pinned (OpenSpec.ofChange fnExactSolutionTextSpec)

/-- ITS FALSE NEIGHBOUR: 'it returns false'. Refute it at one input. -/
def fnExactSolutionTextWrong : ChangeSpec := { name := "fnExactSolutionText", fn := fun _ => fun
  | [d1, d2] => { results := [.lit (.bool false)], args := [d1, d2] }
  | _ => none }
def FnExactSolutionTextWrongFalsely : Prop := fnExactSolutionTextRow.holds Tryz.pinned (OpenSpec.ofChange fnExactSolutionTextWrong)

/-- 'laws.FnExactDesignPuzzle': WHATEVER THE INPUT: true; the input reads as it did. -/
def fnExactDesignPuzzleSpec : ChangeSpec := { name := "fnExactDesignPuzzle", fn := fun _ => fun
  | [d1, d2, d3] => { results := [.lit (.bool true)], args := [d1, d2, d3] }
  | _ => none }
def fnExactDesignPuzzleRow : OpenClaim := { program := "ytmglpcdalechfaagreat", sum := "a1298bae90de0863952cb389944a799b91e7daa94a481aba73c3154ce55c0b38", func := "loop.example/g00919/laws.FnExactDesignPuzzle", spec := "fnExactDesignPuzzle", unfollowed := true, recurses := true, plainKeys := false, apart := false }
def FnExactDesignPuzzleSaid : Prop := fnExactDesignPuzzleRow.holds Tryz.pinned (OpenSpec.ofChange fnExactDesignPuzzleSpec)

/-- ITS FALSE NEIGHBOUR: 'it returns false'. Refute it at one input. -/
def fnExactDesignPuzzleWrong : ChangeSpec := { name := "fnExactDesignPuzzle", fn := fun _ => fun
  | [d1, d2, d3] => { results := [.lit (.bool false)], args := [d1, d2, d3] }
  | _ => none }
def FnExactDesignPuzzleWrongFalsely : Prop := fnExactDesignPuzzleRow.holds Tryz.pinned (OpenSpec.ofChange fnExactDesignPuzzleWrong)

/-- 'laws.FnExactReachableCounts': WHATEVER THE INPUT: true; the input reads as it did. -/
def fnExactReachableCountsSpec : ChangeSpec := { name := "fnExactReachableCounts", fn := fun _ => fun
  | [d1, d2] => { results := [.lit (.bool true)], args := [d1, d2] }
  | _ => none }
def fnExactReachableCountsRow : OpenClaim := { program := "ytmglpcdalechfaagreat", sum := "a1298bae90de0863952cb389944a799b91e7daa94a481aba73c3154ce55c0b38", func := "loop.example/g00919/laws.FnExactReachableCounts", spec := "fnExactReachableCounts", unfollowed := true, recurses := true, plainKeys := false, apart := false }
def FnExactReachableCountsSaid : Prop := fnExactReachableCountsRow.holds Tryz.pinned (OpenSpec.ofChange fnExactReachableCountsSpec)

/-- ITS FALSE NEIGHBOUR: 'it returns false'. Refute it at one input. -/
def fnExactReachableCountsWrong : ChangeSpec := { name := "fnExactReachableCounts", fn := fun _ => fun
  | [d1, d2] => { results := [.lit (.bool false)], args := [d1, d2] }
  | _ => none }
def FnExactReachableCountsWrongFalsely : Prop := fnExactReachableCountsRow.holds Tryz.pinned (OpenSpec.ofChange fnExactReachableCountsWrong)

/-- 'laws.FnExactIsRefuted': WHATEVER THE INPUT: true; the input reads as it did. -/
def fnExactIsRefutedSpec : ChangeSpec := { name := "fnExactIsRefuted", fn := fun _ => fun
  | [d1, d2] => { results := [.lit (.bool true)], args := [d1, d2] }
  | _ => none }
def fnExactIsRefutedRow : OpenClaim := { program := "ytmglpcdalechfaagreat", sum := "a1298bae90de0863952cb389944a799b91e7daa94a481aba73c3154ce55c0b38", func := "loop.example/g00919/laws.FnExactIsRefuted", spec := "fnExactIsRefuted", unfollowed := true, recurses := true, plainKeys := false, apart := false }
def FnExactIsRefutedSaid : Prop := fnExactIsRefutedRow.holds Tryz.pinned (OpenSpec.ofChange fnExactIsRefutedSpec)

/-- ITS FALSE NEIGHBOUR: 'it returns false'. Refute it at one input. -/
def fnExactIsRefutedWrong : ChangeSpec := { name := "fnExactIsRefuted", fn := fun _ => fun
  | [d1, d2] => { results := [.lit (.bool false)], args := [d1, d2] }
  | _ => none }
def FnExactIsRefutedWrongFalsely : Prop := fnExactIsRefutedRow.holds Tryz.pinned (OpenSpec.ofChange fnExactIsRefutedWrong)

/-- 'laws.FnExactFindColouring': WHATEVER THE INPUT: true; the input reads as it did. -/
def fnExactFindColouringSpec : ChangeSpec := { name := "fnExactFindColouring", fn := fun _ => fun
  | [d] => { results := [.lit (.bool true)], args := [d] }
  | _ => none }
def fnExactFindColouringRow : OpenClaim := { program := "ytmglpcdalechfaagreat", sum := "a1298bae90de0863952cb389944a799b91e7daa94a481aba73c3154ce55c0b38", func := "loop.example/g00919/laws.FnExactFindColouring", spec := "fnExactFindColouring", unfollowed := true, recurses := true, plainKeys := false, apart := false }
def FnExactFindColouringSaid : Prop := fnExactFindColouringRow.holds Tryz.pinned (OpenSpec.ofChange fnExactFindColouringSpec)

/-- ITS FALSE NEIGHBOUR: 'it returns false'. Refute it at one input. -/
def fnExactFindColouringWrong : ChangeSpec := { name := "fnExactFindColouring", fn := fun _ => fun
  | [d] => { results := [.lit (.bool false)], args := [d] }
  | _ => none }
def FnExactFindColouringWrongFalsely : Prop := fnExactFindColouringRow.holds Tryz.pinned (OpenSpec.ofChange fnExactFindColouringWrong)

/-- 'laws.FnExactCompleteSets': WHATEVER THE INPUT: true; the input reads as it did. -/
def fnExactCompleteSetsSpec : ChangeSpec := { name := "fnExactCompleteSets", fn := fun _ => fun
  | [d1, d2] => { results := [.lit (.bool true)], args := [d1, d2] }
  | _ => none }
def fnExactCompleteSetsRow : OpenClaim := { program := "ytmglpcdalechfaagreat", sum := "a1298bae90de0863952cb389944a799b91e7daa94a481aba73c3154ce55c0b38", func := "loop.example/g00919/laws.FnExactCompleteSets", spec := "fnExactCompleteSets", unfollowed := true, recurses := true, plainKeys := false, apart := false }
def FnExactCompleteSetsSaid : Prop := fnExactCompleteSetsRow.holds Tryz.pinned (OpenSpec.ofChange fnExactCompleteSetsSpec)

/-- ITS FALSE NEIGHBOUR: 'it returns false'. Refute it at one input. -/
def fnExactCompleteSetsWrong : ChangeSpec := { name := "fnExactCompleteSets", fn := fun _ => fun
  | [d1, d2] => { results := [.lit (.bool false)], args := [d1, d2] }
  | _ => none }
def FnExactCompleteSetsWrongFalsely : Prop := fnExactCompleteSetsRow.holds Tryz.pinned (OpenSpec.ofChange fnExactCompleteSetsWrong)

/- THE SECOND FORM. 'bulk': how many values and letters a reading holds, each counted each time it is reached (what is shared counts as often as it is met; a slice's spare places count too). A statement '..UptoSaid' is the law's where the arguments, and the package variables that the reading takes, are together of bulk at most 1048576: NARROWER than '..Said'. Prove '..Said' where nothing that the law and all that it calls make is longer than what came in: it says more and counts as full. Else prove '..UptoSaid'. A law counts once. -/
mutual
def uptoBulk {H : Type} : DataW H → Nat
  | .lit (.string bytes) => bytes.length + 1
  | .lit _ => 1
  | .nil => 1
  | .ptr d => uptoBulk d + 1
  | .slice elems spare => uptoBulkAll elems + uptoBulkAll spare + 1
  | .agg parts => uptoBulkAll parts + 1
  | .iface _ d => uptoBulk d + 1
  | .map entries => uptoBulkEntries entries + 1
  | .held _ => 1
def uptoBulkAll {H : Type} : List (DataW H) → Nat
  | [] => 0
  | d :: r => uptoBulk d + uptoBulkAll r
def uptoBulkEntries {H : Type} : List (Lit × DataW H) → Nat
  | [] => 0
  | x :: r => uptoBulkEntry x + uptoBulkEntries r
def uptoBulkEntry {H : Type} : Lit × DataW H → Nat
  | (.string bytes, d) => bytes.length + uptoBulk d + 1
  | (_, d) => uptoBulk d + 1
 end
def uptoSmall : (H : Type) → List (DataW H) → Bool := fun _ ds => decide (uptoBulkAll ds ≤ 1048576)
def OpenSpec.upto (s : _root_.Go.ChangeSpec) : _root_.Go.OpenSpec := { _root_.Go.OpenSpec.ofChange s with cond := some uptoSmall }

/-- 'laws.FnExactCoverOfPuzzle', WHERE WHAT IT READS IS OF BULK AT MOST 1048576: true; the input reads as it did. -/
def fnExactCoverOfPuzzleUptoRow : OpenClaim := { program := "ytmglpcdalechfaagreat", sum := "a1298bae90de0863952cb389944a799b91e7daa94a481aba73c3154ce55c0b38", func := "loop.example/g00919/laws.FnExactCoverOfPuzzle", spec := "fnExactCoverOfPuzzle", unfollowed := true, recurses := true, plainKeys := false, apart := false, narrowed := true }
def FnExactCoverOfPuzzleUptoSaid : Prop := fnExactCoverOfPuzzleUptoRow.holds Tryz.pinned (OpenSpec.upto fnExactCoverOfPuzzleSpec)

/-- 'laws.FnExactPieceWeights', WHERE WHAT IT READS IS OF BULK AT MOST 1048576: true; the input reads as it did. -/
def fnExactPieceWeightsUptoRow : OpenClaim := { program := "ytmglpcdalechfaagreat", sum := "a1298bae90de0863952cb389944a799b91e7daa94a481aba73c3154ce55c0b38", func := "loop.example/g00919/laws.FnExactPieceWeights", spec := "fnExactPieceWeights", unfollowed := true, recurses := true, plainKeys := false, apart := false, narrowed := true }
def FnExactPieceWeightsUptoSaid : Prop := fnExactPieceWeightsUptoRow.holds Tryz.pinned (OpenSpec.upto fnExactPieceWeightsSpec)

/-- 'laws.FnExactDoesRefute', WHERE WHAT IT READS IS OF BULK AT MOST 1048576: true; the input reads as it did. -/
def fnExactDoesRefuteUptoRow : OpenClaim := { program := "ytmglpcdalechfaagreat", sum := "a1298bae90de0863952cb389944a799b91e7daa94a481aba73c3154ce55c0b38", func := "loop.example/g00919/laws.FnExactDoesRefute", spec := "fnExactDoesRefute", unfollowed := true, recurses := true, plainKeys := false, apart := false, narrowed := true }
def FnExactDoesRefuteUptoSaid : Prop := fnExactDoesRefuteUptoRow.holds Tryz.pinned (OpenSpec.upto fnExactDoesRefuteSpec)

/-- 'laws.FnExactFindWeighting', WHERE WHAT IT READS IS OF BULK AT MOST 1048576: true; the input reads as it did. -/
def fnExactFindWeightingUptoRow : OpenClaim := { program := "ytmglpcdalechfaagreat", sum := "a1298bae90de0863952cb389944a799b91e7daa94a481aba73c3154ce55c0b38", func := "loop.example/g00919/laws.FnExactFindWeighting", spec := "fnExactFindWeighting", unfollowed := true, recurses := true, plainKeys := false, apart := false, narrowed := true }
def FnExactFindWeightingUptoSaid : Prop := fnExactFindWeightingUptoRow.holds Tryz.pinned (OpenSpec.upto fnExactFindWeightingSpec)

/-- 'laws.FnExactCountLists', WHERE WHAT IT READS IS OF BULK AT MOST 1048576: true; the input reads as it did. -/
def fnExactCountListsUptoRow : OpenClaim := { program := "ytmglpcdalechfaagreat", sum := "a1298bae90de0863952cb389944a799b91e7daa94a481aba73c3154ce55c0b38", func := "loop.example/g00919/laws.FnExactCountLists", spec := "fnExactCountLists", unfollowed := true, recurses := true, plainKeys := false, apart := false, narrowed := true }
def FnExactCountListsUptoSaid : Prop := fnExactCountListsUptoRow.holds Tryz.pinned (OpenSpec.upto fnExactCountListsSpec)

/-- 'laws.FnExactSolutionText', WHERE WHAT IT READS IS OF BULK AT MOST 1048576: true; the input reads as it did. -/
def fnExactSolutionTextUptoRow : OpenClaim := { program := "ytmglpcdalechfaagreat", sum := "a1298bae90de0863952cb389944a799b91e7daa94a481aba73c3154ce55c0b38", func := "loop.example/g00919/laws.FnExactSolutionText", spec := "fnExactSolutionText", inPlace := ["internal/abi.NoEscape", "internal/bytealg.MakeNoZero"], unfollowed := true, recurses := true, plainKeys := false, apart := false, narrowed := true }
def FnExactSolutionTextUptoSaid : Prop := fnExactSolutionTextUptoRow.holds Tryz.pinned (OpenSpec.upto fnExactSolutionTextSpec)

/-- 'laws.FnExactDesignPuzzle', WHERE WHAT IT READS IS OF BULK AT MOST 1048576: true; the input reads as it did. -/
def fnExactDesignPuzzleUptoRow : OpenClaim := { program := "ytmglpcdalechfaagreat", sum := "a1298bae90de0863952cb389944a799b91e7daa94a481aba73c3154ce55c0b38", func := "loop.example/g00919/laws.FnExactDesignPuzzle", spec := "fnExactDesignPuzzle", unfollowed := true, recurses := true, plainKeys := false, apart := false, narrowed := true }
def FnExactDesignPuzzleUptoSaid : Prop := fnExactDesignPuzzleUptoRow.holds Tryz.pinned (OpenSpec.upto fnExactDesignPuzzleSpec)

/-- 'laws.FnExactReachableCounts', WHERE WHAT IT READS IS OF BULK AT MOST 1048576: true; the input reads as it did. -/
def fnExactReachableCountsUptoRow : OpenClaim := { program := "ytmglpcdalechfaagreat", sum := "a1298bae90de0863952cb389944a799b91e7daa94a481aba73c3154ce55c0b38", func := "loop.example/g00919/laws.FnExactReachableCounts", spec := "fnExactReachableCounts", unfollowed := true, recurses := true, plainKeys := false, apart := false, narrowed := true }
def FnExactReachableCountsUptoSaid : Prop := fnExactReachableCountsUptoRow.holds Tryz.pinned (OpenSpec.upto fnExactReachableCountsSpec)

/-- 'laws.FnExactIsRefuted', WHERE WHAT IT READS IS OF BULK AT MOST 1048576: true; the input reads as it did. -/
def fnExactIsRefutedUptoRow : OpenClaim := { program := "ytmglpcdalechfaagreat", sum := "a1298bae90de0863952cb389944a799b91e7daa94a481aba73c3154ce55c0b38", func := "loop.example/g00919/laws.FnExactIsRefuted", spec := "fnExactIsRefuted", unfollowed := true, recurses := true, plainKeys := false, apart := false, narrowed := true }
def FnExactIsRefutedUptoSaid : Prop := fnExactIsRefutedUptoRow.holds Tryz.pinned (OpenSpec.upto fnExactIsRefutedSpec)

/-- 'laws.FnExactFindColouring', WHERE WHAT IT READS IS OF BULK AT MOST 1048576: true; the input reads as it did. -/
def fnExactFindColouringUptoRow : OpenClaim := { program := "ytmglpcdalechfaagreat", sum := "a1298bae90de0863952cb389944a799b91e7daa94a481aba73c3154ce55c0b38", func := "loop.example/g00919/laws.FnExactFindColouring", spec := "fnExactFindColouring", unfollowed := true, recurses := true, plainKeys := false, apart := false, narrowed := true }
def FnExactFindColouringUptoSaid : Prop := fnExactFindColouringUptoRow.holds Tryz.pinned (OpenSpec.upto fnExactFindColouringSpec)

/-- 'laws.FnExactCompleteSets', WHERE WHAT IT READS IS OF BULK AT MOST 1048576: true; the input reads as it did. -/
def fnExactCompleteSetsUptoRow : OpenClaim := { program := "ytmglpcdalechfaagreat", sum := "a1298bae90de0863952cb389944a799b91e7daa94a481aba73c3154ce55c0b38", func := "loop.example/g00919/laws.FnExactCompleteSets", spec := "fnExactCompleteSets", unfollowed := true, recurses := true, plainKeys := false, apart := false, narrowed := true }
def FnExactCompleteSetsUptoSaid : Prop := fnExactCompleteSetsUptoRow.holds Tryz.pinned (OpenSpec.upto fnExactCompleteSetsSpec)

end Rows
end Go.Proofs.YtmglpcdalechfaaGreat
