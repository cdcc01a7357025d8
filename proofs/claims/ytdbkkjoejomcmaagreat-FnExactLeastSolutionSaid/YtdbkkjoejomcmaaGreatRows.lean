/-
  No cell of these rows narrows 'for every input' (looked for: loops, veiled, ifaces, maps, wideKeys, modest, calm, conditions, laid).
  DERIVED. THE GIVEN ROWS OF THIS SEAT. 12 by the template 'for every input the law returns true; each argument reads behind the call as it read before'; 0 by the template 'total and deterministic' (their statements: YtdbkkjoejomcmaaGreatTotals.lean).
  GIVEN WITH THE SEED: the statements are not yours to turn. If you find one false, say at which input.
  Laid BY PROGRAM, IN A SANDBOX (cutbox-rows.mjs): the forced cells as the released guide's own fill.sh prints them over the translation 2e55af3ee6115a50… (all of the seat's roots in one cut). By AI agents, Wed Nov 11 2026. No macro, syntax, notation, axiom, sorry.
-/
import Derived.Test.YtdbkkjoejomcmaaGreatChecked
import GoSem.Claim
import GoSem.ClaimJoined
import GoSem.ClaimMapViews
import Derived.JoinedTies
import Derived.KernelRfl
namespace Go.Proofs.YtdbkkjoejomcmaaGreat
/- THE CELL 'sum', in the pinned program and in every row, IS THE sha256 OF THE DUMP (.gsa) THAT YtdbkkjoejomcmaaGreatProg.lean LOADS. Nothing in Lean hashes anything: it is a label: what it is worth is what the hold of that sum in a sandbox is worth. -/
noncomputable def Tryz.pinned : Pinned := { name := "ytdbkkjoejomcmaagreat", sum := "2e55af3ee6115a5026062083db2d4a3d2d4c32d6b03666b20c8ef29eafa4ea56", checked := Tryz.checked }
namespace Rows
def none {H : Type} : Left H := { results := [], args := [] }

/-- 'laws.FnExactCopiesLeft': WHATEVER THE INPUT: true; the input reads as it did. -/
def fnExactCopiesLeftSpec : ChangeSpec := { name := "fnExactCopiesLeft", fn := fun _ => fun
  | [d1, d2] => { results := [.lit (.bool true)], args := [d1, d2] }
  | _ => none }
def fnExactCopiesLeftRow : OpenClaim := { program := "ytdbkkjoejomcmaagreat", sum := "2e55af3ee6115a5026062083db2d4a3d2d4c32d6b03666b20c8ef29eafa4ea56", func := "loop.example/g00919/laws.FnExactCopiesLeft", spec := "fnExactCopiesLeft", unfollowed := true, recurses := true, plainKeys := false, apart := false }
def FnExactCopiesLeftSaid : Prop := fnExactCopiesLeftRow.holds Tryz.pinned (OpenSpec.ofChange fnExactCopiesLeftSpec)

/-- ITS FALSE NEIGHBOUR: 'it returns false'. Refute it at one input. -/
def fnExactCopiesLeftWrong : ChangeSpec := { name := "fnExactCopiesLeft", fn := fun _ => fun
  | [d1, d2] => { results := [.lit (.bool false)], args := [d1, d2] }
  | _ => none }
def FnExactCopiesLeftWrongFalsely : Prop := fnExactCopiesLeftRow.holds Tryz.pinned (OpenSpec.ofChange fnExactCopiesLeftWrong)

/-- 'laws.FnExactCellsLeft': WHATEVER THE INPUT: true; the input reads as it did. -/
def fnExactCellsLeftSpec : ChangeSpec := { name := "fnExactCellsLeft", fn := fun _ => fun
  | [d1, d2] => { results := [.lit (.bool true)], args := [d1, d2] }
  | _ => none }
def fnExactCellsLeftRow : OpenClaim := { program := "ytdbkkjoejomcmaagreat", sum := "2e55af3ee6115a5026062083db2d4a3d2d4c32d6b03666b20c8ef29eafa4ea56", func := "loop.example/g00919/laws.FnExactCellsLeft", spec := "fnExactCellsLeft", unfollowed := true, recurses := true, plainKeys := false, apart := false }
def FnExactCellsLeftSaid : Prop := fnExactCellsLeftRow.holds Tryz.pinned (OpenSpec.ofChange fnExactCellsLeftSpec)

/-- ITS FALSE NEIGHBOUR: 'it returns false'. Refute it at one input. -/
def fnExactCellsLeftWrong : ChangeSpec := { name := "fnExactCellsLeft", fn := fun _ => fun
  | [d1, d2] => { results := [.lit (.bool false)], args := [d1, d2] }
  | _ => none }
def FnExactCellsLeftWrongFalsely : Prop := fnExactCellsLeftRow.holds Tryz.pinned (OpenSpec.ofChange fnExactCellsLeftWrong)

/-- 'laws.FnExactPlacementsOf': WHATEVER THE INPUT: true; the input reads as it did. -/
def fnExactPlacementsOfSpec : ChangeSpec := { name := "fnExactPlacementsOf", fn := fun _ => fun
  | [d1, d2] => { results := [.lit (.bool true)], args := [d1, d2] }
  | _ => none }
def fnExactPlacementsOfRow : OpenClaim := { program := "ytdbkkjoejomcmaagreat", sum := "2e55af3ee6115a5026062083db2d4a3d2d4c32d6b03666b20c8ef29eafa4ea56", func := "loop.example/g00919/laws.FnExactPlacementsOf", spec := "fnExactPlacementsOf", unfollowed := true, recurses := true, plainKeys := false, apart := false }
def FnExactPlacementsOfSaid : Prop := fnExactPlacementsOfRow.holds Tryz.pinned (OpenSpec.ofChange fnExactPlacementsOfSpec)

/-- ITS FALSE NEIGHBOUR: 'it returns false'. Refute it at one input. -/
def fnExactPlacementsOfWrong : ChangeSpec := { name := "fnExactPlacementsOf", fn := fun _ => fun
  | [d1, d2] => { results := [.lit (.bool false)], args := [d1, d2] }
  | _ => none }
def FnExactPlacementsOfWrongFalsely : Prop := fnExactPlacementsOfRow.holds Tryz.pinned (OpenSpec.ofChange fnExactPlacementsOfWrong)

/-- 'laws.FnExactAllPlacements': WHATEVER THE INPUT: true; the input reads as it did. -/
def fnExactAllPlacementsSpec : ChangeSpec := { name := "fnExactAllPlacements", fn := fun _ => fun
  | [d] => { results := [.lit (.bool true)], args := [d] }
  | _ => none }
def fnExactAllPlacementsRow : OpenClaim := { program := "ytdbkkjoejomcmaagreat", sum := "2e55af3ee6115a5026062083db2d4a3d2d4c32d6b03666b20c8ef29eafa4ea56", func := "loop.example/g00919/laws.FnExactAllPlacements", spec := "fnExactAllPlacements", unfollowed := true, recurses := true, plainKeys := false, apart := false }
def FnExactAllPlacementsSaid : Prop := fnExactAllPlacementsRow.holds Tryz.pinned (OpenSpec.ofChange fnExactAllPlacementsSpec)

/-- ITS FALSE NEIGHBOUR: 'it returns false'. Refute it at one input. -/
def fnExactAllPlacementsWrong : ChangeSpec := { name := "fnExactAllPlacements", fn := fun _ => fun
  | [d] => { results := [.lit (.bool false)], args := [d] }
  | _ => none }
def FnExactAllPlacementsWrongFalsely : Prop := fnExactAllPlacementsRow.holds Tryz.pinned (OpenSpec.ofChange fnExactAllPlacementsWrong)

/-- 'laws.FnExactPlacementsAt': WHATEVER THE INPUT: true; the input reads as it did. -/
def fnExactPlacementsAtSpec : ChangeSpec := { name := "fnExactPlacementsAt", fn := fun _ => fun
  | [d1, d2] => { results := [.lit (.bool true)], args := [d1, d2] }
  | _ => none }
def fnExactPlacementsAtRow : OpenClaim := { program := "ytdbkkjoejomcmaagreat", sum := "2e55af3ee6115a5026062083db2d4a3d2d4c32d6b03666b20c8ef29eafa4ea56", func := "loop.example/g00919/laws.FnExactPlacementsAt", spec := "fnExactPlacementsAt", unfollowed := true, recurses := true, plainKeys := false, apart := false }
def FnExactPlacementsAtSaid : Prop := fnExactPlacementsAtRow.holds Tryz.pinned (OpenSpec.ofChange fnExactPlacementsAtSpec)

/-- ITS FALSE NEIGHBOUR: 'it returns false'. Refute it at one input. -/
def fnExactPlacementsAtWrong : ChangeSpec := { name := "fnExactPlacementsAt", fn := fun _ => fun
  | [d1, d2] => { results := [.lit (.bool false)], args := [d1, d2] }
  | _ => none }
def FnExactPlacementsAtWrongFalsely : Prop := fnExactPlacementsAtRow.holds Tryz.pinned (OpenSpec.ofChange fnExactPlacementsAtWrong)

/-- 'laws.FnExactCoverCounts': WHATEVER THE INPUT: true; the input reads as it did. -/
def fnExactCoverCountsSpec : ChangeSpec := { name := "fnExactCoverCounts", fn := fun _ => fun
  | [d] => { results := [.lit (.bool true)], args := [d] }
  | _ => none }
def fnExactCoverCountsRow : OpenClaim := { program := "ytdbkkjoejomcmaagreat", sum := "2e55af3ee6115a5026062083db2d4a3d2d4c32d6b03666b20c8ef29eafa4ea56", func := "loop.example/g00919/laws.FnExactCoverCounts", spec := "fnExactCoverCounts", unfollowed := true, recurses := true, plainKeys := false, apart := false }
def FnExactCoverCountsSaid : Prop := fnExactCoverCountsRow.holds Tryz.pinned (OpenSpec.ofChange fnExactCoverCountsSpec)

/-- ITS FALSE NEIGHBOUR: 'it returns false'. Refute it at one input. -/
def fnExactCoverCountsWrong : ChangeSpec := { name := "fnExactCoverCounts", fn := fun _ => fun
  | [d] => { results := [.lit (.bool false)], args := [d] }
  | _ => none }
def FnExactCoverCountsWrongFalsely : Prop := fnExactCoverCountsRow.holds Tryz.pinned (OpenSpec.ofChange fnExactCoverCountsWrong)

/-- 'laws.FnExactTurnPlacement': WHATEVER THE INPUT: true; the input reads as it did. -/
def fnExactTurnPlacementSpec : ChangeSpec := { name := "fnExactTurnPlacement", fn := fun _ => fun
  | [d1, d2, d3] => { results := [.lit (.bool true)], args := [d1, d2, d3] }
  | _ => none }
def fnExactTurnPlacementRow : OpenClaim := { program := "ytdbkkjoejomcmaagreat", sum := "2e55af3ee6115a5026062083db2d4a3d2d4c32d6b03666b20c8ef29eafa4ea56", func := "loop.example/g00919/laws.FnExactTurnPlacement", spec := "fnExactTurnPlacement", unfollowed := true, recurses := true, plainKeys := false, apart := false }
def FnExactTurnPlacementSaid : Prop := fnExactTurnPlacementRow.holds Tryz.pinned (OpenSpec.ofChange fnExactTurnPlacementSpec)

/-- ITS FALSE NEIGHBOUR: 'it returns false'. Refute it at one input. -/
def fnExactTurnPlacementWrong : ChangeSpec := { name := "fnExactTurnPlacement", fn := fun _ => fun
  | [d1, d2, d3] => { results := [.lit (.bool false)], args := [d1, d2, d3] }
  | _ => none }
def FnExactTurnPlacementWrongFalsely : Prop := fnExactTurnPlacementRow.holds Tryz.pinned (OpenSpec.ofChange fnExactTurnPlacementWrong)

/-- 'laws.FnExactPuzzleSymmetries': WHATEVER THE INPUT: true; the input reads as it did. -/
def fnExactPuzzleSymmetriesSpec : ChangeSpec := { name := "fnExactPuzzleSymmetries", fn := fun _ => fun
  | [d] => { results := [.lit (.bool true)], args := [d] }
  | _ => none }
def fnExactPuzzleSymmetriesRow : OpenClaim := { program := "ytdbkkjoejomcmaagreat", sum := "2e55af3ee6115a5026062083db2d4a3d2d4c32d6b03666b20c8ef29eafa4ea56", func := "loop.example/g00919/laws.FnExactPuzzleSymmetries", spec := "fnExactPuzzleSymmetries", unfollowed := true, recurses := true, plainKeys := false, apart := false }
def FnExactPuzzleSymmetriesSaid : Prop := fnExactPuzzleSymmetriesRow.holds Tryz.pinned (OpenSpec.ofChange fnExactPuzzleSymmetriesSpec)

/-- ITS FALSE NEIGHBOUR: 'it returns false'. Refute it at one input. -/
def fnExactPuzzleSymmetriesWrong : ChangeSpec := { name := "fnExactPuzzleSymmetries", fn := fun _ => fun
  | [d] => { results := [.lit (.bool false)], args := [d] }
  | _ => none }
def FnExactPuzzleSymmetriesWrongFalsely : Prop := fnExactPuzzleSymmetriesRow.holds Tryz.pinned (OpenSpec.ofChange fnExactPuzzleSymmetriesWrong)

/-- 'laws.FnExactCoverOfPuzzle': WHATEVER THE INPUT: true; the input reads as it did. -/
def fnExactCoverOfPuzzleSpec : ChangeSpec := { name := "fnExactCoverOfPuzzle", fn := fun _ => fun
  | [d] => { results := [.lit (.bool true)], args := [d] }
  | _ => none }
def fnExactCoverOfPuzzleRow : OpenClaim := { program := "ytdbkkjoejomcmaagreat", sum := "2e55af3ee6115a5026062083db2d4a3d2d4c32d6b03666b20c8ef29eafa4ea56", func := "loop.example/g00919/laws.FnExactCoverOfPuzzle", spec := "fnExactCoverOfPuzzle", unfollowed := true, recurses := true, plainKeys := false, apart := false }
def FnExactCoverOfPuzzleSaid : Prop := fnExactCoverOfPuzzleRow.holds Tryz.pinned (OpenSpec.ofChange fnExactCoverOfPuzzleSpec)

/-- ITS FALSE NEIGHBOUR: 'it returns false'. Refute it at one input. -/
def fnExactCoverOfPuzzleWrong : ChangeSpec := { name := "fnExactCoverOfPuzzle", fn := fun _ => fun
  | [d] => { results := [.lit (.bool false)], args := [d] }
  | _ => none }
def FnExactCoverOfPuzzleWrongFalsely : Prop := fnExactCoverOfPuzzleRow.holds Tryz.pinned (OpenSpec.ofChange fnExactCoverOfPuzzleWrong)

/-- 'laws.FnExactStabilizerOf': WHATEVER THE INPUT: true; the input reads as it did. -/
def fnExactStabilizerOfSpec : ChangeSpec := { name := "fnExactStabilizerOf", fn := fun _ => fun
  | [d1, d2] => { results := [.lit (.bool true)], args := [d1, d2] }
  | _ => none }
def fnExactStabilizerOfRow : OpenClaim := { program := "ytdbkkjoejomcmaagreat", sum := "2e55af3ee6115a5026062083db2d4a3d2d4c32d6b03666b20c8ef29eafa4ea56", func := "loop.example/g00919/laws.FnExactStabilizerOf", spec := "fnExactStabilizerOf", unfollowed := true, recurses := true, plainKeys := false, apart := false }
def FnExactStabilizerOfSaid : Prop := fnExactStabilizerOfRow.holds Tryz.pinned (OpenSpec.ofChange fnExactStabilizerOfSpec)

/-- ITS FALSE NEIGHBOUR: 'it returns false'. Refute it at one input. -/
def fnExactStabilizerOfWrong : ChangeSpec := { name := "fnExactStabilizerOf", fn := fun _ => fun
  | [d1, d2] => { results := [.lit (.bool false)], args := [d1, d2] }
  | _ => none }
def FnExactStabilizerOfWrongFalsely : Prop := fnExactStabilizerOfRow.holds Tryz.pinned (OpenSpec.ofChange fnExactStabilizerOfWrong)

/-- 'laws.FnExactTurnSolution': WHATEVER THE INPUT: true; the input reads as it did. -/
def fnExactTurnSolutionSpec : ChangeSpec := { name := "fnExactTurnSolution", fn := fun _ => fun
  | [d1, d2, d3] => { results := [.lit (.bool true)], args := [d1, d2, d3] }
  | _ => none }
def fnExactTurnSolutionRow : OpenClaim := { program := "ytdbkkjoejomcmaagreat", sum := "2e55af3ee6115a5026062083db2d4a3d2d4c32d6b03666b20c8ef29eafa4ea56", func := "loop.example/g00919/laws.FnExactTurnSolution", spec := "fnExactTurnSolution", unfollowed := true, recurses := true, plainKeys := false, apart := false }
def FnExactTurnSolutionSaid : Prop := fnExactTurnSolutionRow.holds Tryz.pinned (OpenSpec.ofChange fnExactTurnSolutionSpec)

/-- ITS FALSE NEIGHBOUR: 'it returns false'. Refute it at one input. -/
def fnExactTurnSolutionWrong : ChangeSpec := { name := "fnExactTurnSolution", fn := fun _ => fun
  | [d1, d2, d3] => { results := [.lit (.bool false)], args := [d1, d2, d3] }
  | _ => none }
def FnExactTurnSolutionWrongFalsely : Prop := fnExactTurnSolutionRow.holds Tryz.pinned (OpenSpec.ofChange fnExactTurnSolutionWrong)

/-- 'laws.FnExactLeastSolution': WHATEVER THE INPUT: true; the input reads as it did. -/
def fnExactLeastSolutionSpec : ChangeSpec := { name := "fnExactLeastSolution", fn := fun _ => fun
  | [d1, d2] => { results := [.lit (.bool true)], args := [d1, d2] }
  | _ => none }
def fnExactLeastSolutionRow : OpenClaim := { program := "ytdbkkjoejomcmaagreat", sum := "2e55af3ee6115a5026062083db2d4a3d2d4c32d6b03666b20c8ef29eafa4ea56", func := "loop.example/g00919/laws.FnExactLeastSolution", spec := "fnExactLeastSolution", unfollowed := true, recurses := true, plainKeys := false, apart := false }
def FnExactLeastSolutionSaid : Prop := fnExactLeastSolutionRow.holds Tryz.pinned (OpenSpec.ofChange fnExactLeastSolutionSpec)

/-- ITS FALSE NEIGHBOUR: 'it returns false'. Refute it at one input. -/
def fnExactLeastSolutionWrong : ChangeSpec := { name := "fnExactLeastSolution", fn := fun _ => fun
  | [d1, d2] => { results := [.lit (.bool false)], args := [d1, d2] }
  | _ => none }
def FnExactLeastSolutionWrongFalsely : Prop := fnExactLeastSolutionRow.holds Tryz.pinned (OpenSpec.ofChange fnExactLeastSolutionWrong)

/- THE SECOND FORM. 'bulk': how many values and letters a reading holds, each counted each time it is reached (what is shared counts as often as it is met; a slice's spare places count too). A statement '..UptoSaid' is the law's where the arguments, and the package variables that the reading takes, are together of bulk at most 1048576: NARROWER than '..Said'. Prove '..Said' where nothing that the law and all that it calls make is longer than what came in: it says more and counts as full. Else prove '..UptoSaid'. A law counts once. -/
mutual
def uptoBulk {H : Type} : DataW H → Nat
  | .lit (.string bytes) => bytes.length + 1
  | .lit _ => 1
  | .nil => 1
  | .ptr d => uptoBulk d + 1
  | .slice elems spare => uptoBulkAll elems + uptoBulkAll spare + 1
  | .agg parts => uptoBulkAll parts + 1
  | .iface _ d => uptoBulk d + 1
  | .map entries => uptoBulkEntries entries + 1
  | .held _ => 1
def uptoBulkAll {H : Type} : List (DataW H) → Nat
  | [] => 0
  | d :: r => uptoBulk d + uptoBulkAll r
def uptoBulkEntries {H : Type} : List (Lit × DataW H) → Nat
  | [] => 0
  | x :: r => uptoBulkEntry x + uptoBulkEntries r
def uptoBulkEntry {H : Type} : Lit × DataW H → Nat
  | (.string bytes, d) => bytes.length + uptoBulk d + 1
  | (_, d) => uptoBulk d + 1
 end
def uptoSmall : (H : Type) → List (DataW H) → Bool := fun _ ds => decide (uptoBulkAll ds ≤ 1048576)
def OpenSpec.upto (s : _root_.Go.ChangeSpec) : _root_.Go.OpenSpec := { _root_.Go.OpenSpec.ofChange s with cond := some uptoSmall }

/-- 'laws.FnExactCopiesLeft', WHERE WHAT IT READS IS OF BULK AT MOST 1048576: true; the input reads as it did. -/
def fnExactCopiesLeftUptoRow : OpenClaim := { program := "ytdbkkjoejomcmaagreat", sum := "2e55af3ee6115a5026062083db2d4a3d2d4c32d6b03666b20c8ef29eafa4ea56", func := "loop.example/g00919/laws.FnExactCopiesLeft", spec := "fnExactCopiesLeft", unfollowed := true, recurses := true, plainKeys := false, apart := false, narrowed := true }
def FnExactCopiesLeftUptoSaid : Prop := fnExactCopiesLeftUptoRow.holds Tryz.pinned (OpenSpec.upto fnExactCopiesLeftSpec)

/-- 'laws.FnExactCellsLeft', WHERE WHAT IT READS IS OF BULK AT MOST 1048576: true; the input reads as it did. -/
def fnExactCellsLeftUptoRow : OpenClaim := { program := "ytdbkkjoejomcmaagreat", sum := "2e55af3ee6115a5026062083db2d4a3d2d4c32d6b03666b20c8ef29eafa4ea56", func := "loop.example/g00919/laws.FnExactCellsLeft", spec := "fnExactCellsLeft", unfollowed := true, recurses := true, plainKeys := false, apart := false, narrowed := true }
def FnExactCellsLeftUptoSaid : Prop := fnExactCellsLeftUptoRow.holds Tryz.pinned (OpenSpec.upto fnExactCellsLeftSpec)

/-- 'laws.FnExactPlacementsOf', WHERE WHAT IT READS IS OF BULK AT MOST 1048576: true; the input reads as it did. -/
def fnExactPlacementsOfUptoRow : OpenClaim := { program := "ytdbkkjoejomcmaagreat", sum := "2e55af3ee6115a5026062083db2d4a3d2d4c32d6b03666b20c8ef29eafa4ea56", func := "loop.example/g00919/laws.FnExactPlacementsOf", spec := "fnExactPlacementsOf", unfollowed := true, recurses := true, plainKeys := false, apart := false, narrowed := true }
def FnExactPlacementsOfUptoSaid : Prop := fnExactPlacementsOfUptoRow.holds Tryz.pinned (OpenSpec.upto fnExactPlacementsOfSpec)

/-- 'laws.FnExactAllPlacements', WHERE WHAT IT READS IS OF BULK AT MOST 1048576: true; the input reads as it did. -/
def fnExactAllPlacementsUptoRow : OpenClaim := { program := "ytdbkkjoejomcmaagreat", sum := "2e55af3ee6115a5026062083db2d4a3d2d4c32d6b03666b20c8ef29eafa4ea56", func := "loop.example/g00919/laws.FnExactAllPlacements", spec := "fnExactAllPlacements", unfollowed := true, recurses := true, plainKeys := false, apart := false, narrowed := true }
def FnExactAllPlacementsUptoSaid : Prop := fnExactAllPlacementsUptoRow.holds Tryz.pinned (OpenSpec.upto fnExactAllPlacementsSpec)

/-- 'laws.FnExactPlacementsAt', WHERE WHAT IT READS IS OF BULK AT MOST 1048576: true; the input reads as it did. -/
def fnExactPlacementsAtUptoRow : OpenClaim := { program := "ytdbkkjoejomcmaagreat", sum := "2e55af3ee6115a5026062083db2d4a3d2d4c32d6b03666b20c8ef29eafa4ea56", func := "loop.example/g00919/laws.FnExactPlacementsAt", spec := "fnExactPlacementsAt", unfollowed := true, recurses := true, plainKeys := false, apart := false, narrowed := true }
def FnExactPlacementsAtUptoSaid : Prop := fnExactPlacementsAtUptoRow.holds Tryz.pinned (OpenSpec.upto fnExactPlacementsAtSpec)

/-- 'laws.FnExactCoverCounts', WHERE WHAT IT READS IS OF BULK AT MOST 1048576: true; the input reads as it did. -/
def fnExactCoverCountsUptoRow : OpenClaim := { program := "ytdbkkjoejomcmaagreat", sum := "2e55af3ee6115a5026062083db2d4a3d2d4c32d6b03666b20c8ef29eafa4ea56", func := "loop.example/g00919/laws.FnExactCoverCounts", spec := "fnExactCoverCounts", unfollowed := true, recurses := true, plainKeys := false, apart := false, narrowed := true }
def FnExactCoverCountsUptoSaid : Prop := fnExactCoverCountsUptoRow.holds Tryz.pinned (OpenSpec.upto fnExactCoverCountsSpec)

/-- 'laws.FnExactTurnPlacement', WHERE WHAT IT READS IS OF BULK AT MOST 1048576: true; the input reads as it did. -/
def fnExactTurnPlacementUptoRow : OpenClaim := { program := "ytdbkkjoejomcmaagreat", sum := "2e55af3ee6115a5026062083db2d4a3d2d4c32d6b03666b20c8ef29eafa4ea56", func := "loop.example/g00919/laws.FnExactTurnPlacement", spec := "fnExactTurnPlacement", unfollowed := true, recurses := true, plainKeys := false, apart := false, narrowed := true }
def FnExactTurnPlacementUptoSaid : Prop := fnExactTurnPlacementUptoRow.holds Tryz.pinned (OpenSpec.upto fnExactTurnPlacementSpec)

/-- 'laws.FnExactPuzzleSymmetries', WHERE WHAT IT READS IS OF BULK AT MOST 1048576: true; the input reads as it did. -/
def fnExactPuzzleSymmetriesUptoRow : OpenClaim := { program := "ytdbkkjoejomcmaagreat", sum := "2e55af3ee6115a5026062083db2d4a3d2d4c32d6b03666b20c8ef29eafa4ea56", func := "loop.example/g00919/laws.FnExactPuzzleSymmetries", spec := "fnExactPuzzleSymmetries", unfollowed := true, recurses := true, plainKeys := false, apart := false, narrowed := true }
def FnExactPuzzleSymmetriesUptoSaid : Prop := fnExactPuzzleSymmetriesUptoRow.holds Tryz.pinned (OpenSpec.upto fnExactPuzzleSymmetriesSpec)

/-- 'laws.FnExactCoverOfPuzzle', WHERE WHAT IT READS IS OF BULK AT MOST 1048576: true; the input reads as it did. -/
def fnExactCoverOfPuzzleUptoRow : OpenClaim := { program := "ytdbkkjoejomcmaagreat", sum := "2e55af3ee6115a5026062083db2d4a3d2d4c32d6b03666b20c8ef29eafa4ea56", func := "loop.example/g00919/laws.FnExactCoverOfPuzzle", spec := "fnExactCoverOfPuzzle", unfollowed := true, recurses := true, plainKeys := false, apart := false, narrowed := true }
def FnExactCoverOfPuzzleUptoSaid : Prop := fnExactCoverOfPuzzleUptoRow.holds Tryz.pinned (OpenSpec.upto fnExactCoverOfPuzzleSpec)

/-- 'laws.FnExactStabilizerOf', WHERE WHAT IT READS IS OF BULK AT MOST 1048576: true; the input reads as it did. -/
def fnExactStabilizerOfUptoRow : OpenClaim := { program := "ytdbkkjoejomcmaagreat", sum := "2e55af3ee6115a5026062083db2d4a3d2d4c32d6b03666b20c8ef29eafa4ea56", func := "loop.example/g00919/laws.FnExactStabilizerOf", spec := "fnExactStabilizerOf", unfollowed := true, recurses := true, plainKeys := false, apart := false, narrowed := true }
def FnExactStabilizerOfUptoSaid : Prop := fnExactStabilizerOfUptoRow.holds Tryz.pinned (OpenSpec.upto fnExactStabilizerOfSpec)

/-- 'laws.FnExactTurnSolution', WHERE WHAT IT READS IS OF BULK AT MOST 1048576: true; the input reads as it did. -/
def fnExactTurnSolutionUptoRow : OpenClaim := { program := "ytdbkkjoejomcmaagreat", sum := "2e55af3ee6115a5026062083db2d4a3d2d4c32d6b03666b20c8ef29eafa4ea56", func := "loop.example/g00919/laws.FnExactTurnSolution", spec := "fnExactTurnSolution", unfollowed := true, recurses := true, plainKeys := false, apart := false, narrowed := true }
def FnExactTurnSolutionUptoSaid : Prop := fnExactTurnSolutionUptoRow.holds Tryz.pinned (OpenSpec.upto fnExactTurnSolutionSpec)

/-- 'laws.FnExactLeastSolution', WHERE WHAT IT READS IS OF BULK AT MOST 1048576: true; the input reads as it did. -/
def fnExactLeastSolutionUptoRow : OpenClaim := { program := "ytdbkkjoejomcmaagreat", sum := "2e55af3ee6115a5026062083db2d4a3d2d4c32d6b03666b20c8ef29eafa4ea56", func := "loop.example/g00919/laws.FnExactLeastSolution", spec := "fnExactLeastSolution", unfollowed := true, recurses := true, plainKeys := false, apart := false, narrowed := true }
def FnExactLeastSolutionUptoSaid : Prop := fnExactLeastSolutionUptoRow.holds Tryz.pinned (OpenSpec.upto fnExactLeastSolutionSpec)

end Rows
end Go.Proofs.YtdbkkjoejomcmaaGreat
