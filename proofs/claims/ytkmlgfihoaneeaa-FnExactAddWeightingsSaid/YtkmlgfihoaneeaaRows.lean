/-
  No cell of these rows narrows 'for every input' (looked for: loops, veiled, ifaces, maps, wideKeys, modest, calm, conditions, laid).
  DERIVED. THE GIVEN ROWS OF THIS SEAT. 9 by the template 'for every input the law returns true; each argument reads behind the call as it read before'; 0 by the template 'total and deterministic' (their statements: YtkmlgfihoaneeaaTotals.lean).
  GIVEN WITH THE SEED: the statements are not yours to turn. If you find one false, say at which input.
  Laid BY PROGRAM, IN A SANDBOX (cutbox-rows.mjs): the forced cells as the released guide's own fill.sh prints them over the translation b0788d5c8fb864a7… (all of the seat's roots in one cut). By AI agents, Wed Nov 11 2026. No macro, syntax, notation, axiom, sorry.
-/
import Derived.Test.YtkmlgfihoaneeaaChecked
import GoSem.Claim
import GoSem.ClaimJoined
import GoSem.ClaimMapViews
import Derived.JoinedTies
import Derived.KernelRfl
namespace Go.Proofs.Ytkmlgfihoaneeaa
/- THE CELL 'sum', in the pinned program and in every row, IS THE sha256 OF THE DUMP (.gsa) THAT YtkmlgfihoaneeaaProg.lean LOADS. Nothing in Lean hashes anything: it is a label: what it is worth is what the hold of that sum in a sandbox is worth. -/
noncomputable def Try.pinned : Pinned := { name := "ytkmlgfihoaneeaa", sum := "b0788d5c8fb864a740419a83690cc9c2894a6d98e02534b5dec0b5b75f313353", checked := Try.checked }
namespace Rows
def none {H : Type} : Left H := { results := [], args := [] }

/-- 'laws.FnExactFalseClauses': WHATEVER THE INPUT: true; the input reads as it did. -/
def fnExactFalseClausesSpec : ChangeSpec := { name := "fnExactFalseClauses", fn := fun _ => fun
  | [d1, d2] => { results := [.lit (.bool true)], args := [d1, d2] }
  | _ => none }
def fnExactFalseClausesRow : OpenClaim := { program := "ytkmlgfihoaneeaa", sum := "b0788d5c8fb864a740419a83690cc9c2894a6d98e02534b5dec0b5b75f313353", func := "loop.example/g00919/laws.FnExactFalseClauses", spec := "fnExactFalseClauses", unfollowed := true, recurses := true, apart := false }
def FnExactFalseClausesSaid : Prop := fnExactFalseClausesRow.holds Try.pinned (OpenSpec.ofChange fnExactFalseClausesSpec)

/-- ITS FALSE NEIGHBOUR: 'it returns false'. Refute it at one input. -/
def fnExactFalseClausesWrong : ChangeSpec := { name := "fnExactFalseClauses", fn := fun _ => fun
  | [d1, d2] => { results := [.lit (.bool false)], args := [d1, d2] }
  | _ => none }
def FnExactFalseClausesWrongFalsely : Prop := fnExactFalseClausesRow.holds Try.pinned (OpenSpec.ofChange fnExactFalseClausesWrong)

/-- 'laws.FnExactUnitLiterals': WHATEVER THE INPUT: true; the input reads as it did. -/
def fnExactUnitLiteralsSpec : ChangeSpec := { name := "fnExactUnitLiterals", fn := fun _ => fun
  | [d1, d2] => { results := [.lit (.bool true)], args := [d1, d2] }
  | _ => none }
def fnExactUnitLiteralsRow : OpenClaim := { program := "ytkmlgfihoaneeaa", sum := "b0788d5c8fb864a740419a83690cc9c2894a6d98e02534b5dec0b5b75f313353", func := "loop.example/g00919/laws.FnExactUnitLiterals", spec := "fnExactUnitLiterals", unfollowed := true, recurses := true, apart := false }
def FnExactUnitLiteralsSaid : Prop := fnExactUnitLiteralsRow.holds Try.pinned (OpenSpec.ofChange fnExactUnitLiteralsSpec)

/-- ITS FALSE NEIGHBOUR: 'it returns false'. Refute it at one input. -/
def fnExactUnitLiteralsWrong : ChangeSpec := { name := "fnExactUnitLiterals", fn := fun _ => fun
  | [d1, d2] => { results := [.lit (.bool false)], args := [d1, d2] }
  | _ => none }
def FnExactUnitLiteralsWrongFalsely : Prop := fnExactUnitLiteralsRow.holds Try.pinned (OpenSpec.ofChange fnExactUnitLiteralsWrong)

/-- 'laws.FnExactWeightOfSet': WHATEVER THE INPUT: true; the input reads as it did. -/
def fnExactWeightOfSetSpec : ChangeSpec := { name := "fnExactWeightOfSet", fn := fun _ => fun
  | [d1, d2, d3] => { results := [.lit (.bool true)], args := [d1, d2, d3] }
  | _ => none }
def fnExactWeightOfSetRow : OpenClaim := { program := "ytkmlgfihoaneeaa", sum := "b0788d5c8fb864a740419a83690cc9c2894a6d98e02534b5dec0b5b75f313353", func := "loop.example/g00919/laws.FnExactWeightOfSet", spec := "fnExactWeightOfSet", unfollowed := true, recurses := true, apart := false }
def FnExactWeightOfSetSaid : Prop := fnExactWeightOfSetRow.holds Try.pinned (OpenSpec.ofChange fnExactWeightOfSetSpec)

/-- ITS FALSE NEIGHBOUR: 'it returns false'. Refute it at one input. -/
def fnExactWeightOfSetWrong : ChangeSpec := { name := "fnExactWeightOfSet", fn := fun _ => fun
  | [d1, d2, d3] => { results := [.lit (.bool false)], args := [d1, d2, d3] }
  | _ => none }
def FnExactWeightOfSetWrongFalsely : Prop := fnExactWeightOfSetRow.holds Try.pinned (OpenSpec.ofChange fnExactWeightOfSetWrong)

/-- 'laws.FnExactFormulaOfCover': WHATEVER THE INPUT: true; the input reads as it did. -/
def fnExactFormulaOfCoverSpec : ChangeSpec := { name := "fnExactFormulaOfCover", fn := fun _ => fun
  | [d] => { results := [.lit (.bool true)], args := [d] }
  | _ => none }
def fnExactFormulaOfCoverRow : OpenClaim := { program := "ytkmlgfihoaneeaa", sum := "b0788d5c8fb864a740419a83690cc9c2894a6d98e02534b5dec0b5b75f313353", func := "loop.example/g00919/laws.FnExactFormulaOfCover", spec := "fnExactFormulaOfCover", unfollowed := true, recurses := true, apart := false }
def FnExactFormulaOfCoverSaid : Prop := fnExactFormulaOfCoverRow.holds Try.pinned (OpenSpec.ofChange fnExactFormulaOfCoverSpec)

/-- ITS FALSE NEIGHBOUR: 'it returns false'. Refute it at one input. -/
def fnExactFormulaOfCoverWrong : ChangeSpec := { name := "fnExactFormulaOfCover", fn := fun _ => fun
  | [d] => { results := [.lit (.bool false)], args := [d] }
  | _ => none }
def FnExactFormulaOfCoverWrongFalsely : Prop := fnExactFormulaOfCoverRow.holds Try.pinned (OpenSpec.ofChange fnExactFormulaOfCoverWrong)

/-- 'laws.FnExactAddWeightings': WHATEVER THE INPUT: true; the input reads as it did. -/
def fnExactAddWeightingsSpec : ChangeSpec := { name := "fnExactAddWeightings", fn := fun _ => fun
  | [d1, d2, d3] => { results := [.lit (.bool true)], args := [d1, d2, d3] }
  | _ => none }
def fnExactAddWeightingsRow : OpenClaim := { program := "ytkmlgfihoaneeaa", sum := "b0788d5c8fb864a740419a83690cc9c2894a6d98e02534b5dec0b5b75f313353", func := "loop.example/g00919/laws.FnExactAddWeightings", spec := "fnExactAddWeightings", unfollowed := true, recurses := true, apart := false }
def FnExactAddWeightingsSaid : Prop := fnExactAddWeightingsRow.holds Try.pinned (OpenSpec.ofChange fnExactAddWeightingsSpec)

/-- ITS FALSE NEIGHBOUR: 'it returns false'. Refute it at one input. -/
def fnExactAddWeightingsWrong : ChangeSpec := { name := "fnExactAddWeightings", fn := fun _ => fun
  | [d1, d2, d3] => { results := [.lit (.bool false)], args := [d1, d2, d3] }
  | _ => none }
def FnExactAddWeightingsWrongFalsely : Prop := fnExactAddWeightingsRow.holds Try.pinned (OpenSpec.ofChange fnExactAddWeightingsWrong)

/-- 'laws.FnUnits': WHATEVER THE INPUT: true; the input reads as it did. -/
def fnUnitsSpec : ChangeSpec := { name := "fnUnits", fn := fun _ => fun
  | [d] => { results := [.lit (.bool true)], args := [d] }
  | _ => none }
def fnUnitsRow : OpenClaim := { program := "ytkmlgfihoaneeaa", sum := "b0788d5c8fb864a740419a83690cc9c2894a6d98e02534b5dec0b5b75f313353", func := "loop.example/g00919/laws.FnUnits", spec := "fnUnits", unfollowed := true, recurses := true, apart := false }
def FnUnitsSaid : Prop := fnUnitsRow.holds Try.pinned (OpenSpec.ofChange fnUnitsSpec)

/-- ITS FALSE NEIGHBOUR: 'it returns false'. Refute it at one input. -/
def fnUnitsWrong : ChangeSpec := { name := "fnUnits", fn := fun _ => fun
  | [d] => { results := [.lit (.bool false)], args := [d] }
  | _ => none }
def FnUnitsWrongFalsely : Prop := fnUnitsRow.holds Try.pinned (OpenSpec.ofChange fnUnitsWrong)

/-- 'laws.FnCovers': WHATEVER THE INPUT: true; the input reads as it did. -/
def fnCoversSpec : ChangeSpec := { name := "fnCovers", fn := fun _ => fun
  | [d] => { results := [.lit (.bool true)], args := [d] }
  | _ => none }
def fnCoversRow : OpenClaim := { program := "ytkmlgfihoaneeaa", sum := "b0788d5c8fb864a740419a83690cc9c2894a6d98e02534b5dec0b5b75f313353", func := "loop.example/g00919/laws.FnCovers", spec := "fnCovers", unfollowed := true, recurses := true, apart := false }
def FnCoversSaid : Prop := fnCoversRow.holds Try.pinned (OpenSpec.ofChange fnCoversSpec)

/-- ITS FALSE NEIGHBOUR: 'it returns false'. Refute it at one input. -/
def fnCoversWrong : ChangeSpec := { name := "fnCovers", fn := fun _ => fun
  | [d] => { results := [.lit (.bool false)], args := [d] }
  | _ => none }
def FnCoversWrongFalsely : Prop := fnCoversRow.holds Try.pinned (OpenSpec.ofChange fnCoversWrong)

/-- 'laws.FnWeightSums': WHATEVER THE INPUT: true; the input reads as it did. -/
def fnWeightSumsSpec : ChangeSpec := { name := "fnWeightSums", fn := fun _ => fun
  | [d] => { results := [.lit (.bool true)], args := [d] }
  | _ => none }
def fnWeightSumsRow : OpenClaim := { program := "ytkmlgfihoaneeaa", sum := "b0788d5c8fb864a740419a83690cc9c2894a6d98e02534b5dec0b5b75f313353", func := "loop.example/g00919/laws.FnWeightSums", spec := "fnWeightSums", unfollowed := true, recurses := true, apart := false }
def FnWeightSumsSaid : Prop := fnWeightSumsRow.holds Try.pinned (OpenSpec.ofChange fnWeightSumsSpec)

/-- ITS FALSE NEIGHBOUR: 'it returns false'. Refute it at one input. -/
def fnWeightSumsWrong : ChangeSpec := { name := "fnWeightSums", fn := fun _ => fun
  | [d] => { results := [.lit (.bool false)], args := [d] }
  | _ => none }
def FnWeightSumsWrongFalsely : Prop := fnWeightSumsRow.holds Try.pinned (OpenSpec.ofChange fnWeightSumsWrong)

/-- 'laws.FnExactColourText': WHATEVER THE INPUT: true; the input reads as it did. -/
def fnExactColourTextSpec : ChangeSpec := { name := "fnExactColourText", fn := fun _ => fun
  | [d1, d2] => { results := [.lit (.bool true)], args := [d1, d2] }
  | _ => none }
def fnExactColourTextRow : OpenClaim := { program := "ytkmlgfihoaneeaa", sum := "b0788d5c8fb864a740419a83690cc9c2894a6d98e02534b5dec0b5b75f313353", func := "loop.example/g00919/laws.FnExactColourText", spec := "fnExactColourText", inPlace := ["internal/abi.NoEscape", "internal/bytealg.MakeNoZero"], apart := false }
def FnExactColourTextSaid : Prop := fnExactColourTextRow.holds Try.pinned (OpenSpec.ofChange fnExactColourTextSpec)

/-- ITS FALSE NEIGHBOUR: 'it returns false'. Refute it at one input. -/
def fnExactColourTextWrong : ChangeSpec := { name := "fnExactColourText", fn := fun _ => fun
  | [d1, d2] => { results := [.lit (.bool false)], args := [d1, d2] }
  | _ => none }
def FnExactColourTextWrongFalsely : Prop := fnExactColourTextRow.holds Try.pinned (OpenSpec.ofChange fnExactColourTextWrong)

/- THE SECOND FORM. 'bulk': how many values and letters a reading holds, each counted each time it is reached (what is shared counts as often as it is met; a slice's spare places count too). A statement '..UptoSaid' is the law's where the arguments, and the package variables that the reading takes, are together of bulk at most 1048576: NARROWER than '..Said'. Prove '..Said' where nothing that the law and all that it calls make is longer than what came in: it says more and counts as full. Else prove '..UptoSaid'. A law counts once. -/
mutual
def uptoBulk {H : Type} : DataW H → Nat
  | .lit (.string bytes) => bytes.length + 1
  | .lit _ => 1
  | .nil => 1
  | .ptr d => uptoBulk d + 1
  | .slice elems spare => uptoBulkAll elems + uptoBulkAll spare + 1
  | .agg parts => uptoBulkAll parts + 1
  | .iface _ d => uptoBulk d + 1
  | .map entries => uptoBulkEntries entries + 1
  | .held _ => 1
def uptoBulkAll {H : Type} : List (DataW H) → Nat
  | [] => 0
  | d :: r => uptoBulk d + uptoBulkAll r
def uptoBulkEntries {H : Type} : List (Lit × DataW H) → Nat
  | [] => 0
  | x :: r => uptoBulkEntry x + uptoBulkEntries r
def uptoBulkEntry {H : Type} : Lit × DataW H → Nat
  | (.string bytes, d) => bytes.length + uptoBulk d + 1
  | (_, d) => uptoBulk d + 1
 end
def uptoSmall : (H : Type) → List (DataW H) → Bool := fun _ ds => decide (uptoBulkAll ds ≤ 1048576)
def OpenSpec.upto (s : _root_.Go.ChangeSpec) : _root_.Go.OpenSpec := { _root_.Go.OpenSpec.ofChange s with cond := some uptoSmall }

/-- 'laws.FnExactFalseClauses', WHERE WHAT IT READS IS OF BULK AT MOST 1048576: true; the input reads as it did. -/
def fnExactFalseClausesUptoRow : OpenClaim := { program := "ytkmlgfihoaneeaa", sum := "b0788d5c8fb864a740419a83690cc9c2894a6d98e02534b5dec0b5b75f313353", func := "loop.example/g00919/laws.FnExactFalseClauses", spec := "fnExactFalseClauses", unfollowed := true, recurses := true, apart := false, narrowed := true }
def FnExactFalseClausesUptoSaid : Prop := fnExactFalseClausesUptoRow.holds Try.pinned (OpenSpec.upto fnExactFalseClausesSpec)

/-- 'laws.FnExactUnitLiterals', WHERE WHAT IT READS IS OF BULK AT MOST 1048576: true; the input reads as it did. -/
def fnExactUnitLiteralsUptoRow : OpenClaim := { program := "ytkmlgfihoaneeaa", sum := "b0788d5c8fb864a740419a83690cc9c2894a6d98e02534b5dec0b5b75f313353", func := "loop.example/g00919/laws.FnExactUnitLiterals", spec := "fnExactUnitLiterals", unfollowed := true, recurses := true, apart := false, narrowed := true }
def FnExactUnitLiteralsUptoSaid : Prop := fnExactUnitLiteralsUptoRow.holds Try.pinned (OpenSpec.upto fnExactUnitLiteralsSpec)

/-- 'laws.FnExactWeightOfSet', WHERE WHAT IT READS IS OF BULK AT MOST 1048576: true; the input reads as it did. -/
def fnExactWeightOfSetUptoRow : OpenClaim := { program := "ytkmlgfihoaneeaa", sum := "b0788d5c8fb864a740419a83690cc9c2894a6d98e02534b5dec0b5b75f313353", func := "loop.example/g00919/laws.FnExactWeightOfSet", spec := "fnExactWeightOfSet", unfollowed := true, recurses := true, apart := false, narrowed := true }
def FnExactWeightOfSetUptoSaid : Prop := fnExactWeightOfSetUptoRow.holds Try.pinned (OpenSpec.upto fnExactWeightOfSetSpec)

/-- 'laws.FnExactFormulaOfCover', WHERE WHAT IT READS IS OF BULK AT MOST 1048576: true; the input reads as it did. -/
def fnExactFormulaOfCoverUptoRow : OpenClaim := { program := "ytkmlgfihoaneeaa", sum := "b0788d5c8fb864a740419a83690cc9c2894a6d98e02534b5dec0b5b75f313353", func := "loop.example/g00919/laws.FnExactFormulaOfCover", spec := "fnExactFormulaOfCover", unfollowed := true, recurses := true, apart := false, narrowed := true }
def FnExactFormulaOfCoverUptoSaid : Prop := fnExactFormulaOfCoverUptoRow.holds Try.pinned (OpenSpec.upto fnExactFormulaOfCoverSpec)

/-- 'laws.FnExactAddWeightings', WHERE WHAT IT READS IS OF BULK AT MOST 1048576: true; the input reads as it did. -/
def fnExactAddWeightingsUptoRow : OpenClaim := { program := "ytkmlgfihoaneeaa", sum := "b0788d5c8fb864a740419a83690cc9c2894a6d98e02534b5dec0b5b75f313353", func := "loop.example/g00919/laws.FnExactAddWeightings", spec := "fnExactAddWeightings", unfollowed := true, recurses := true, apart := false, narrowed := true }
def FnExactAddWeightingsUptoSaid : Prop := fnExactAddWeightingsUptoRow.holds Try.pinned (OpenSpec.upto fnExactAddWeightingsSpec)

/-- 'laws.FnUnits', WHERE WHAT IT READS IS OF BULK AT MOST 1048576: true; the input reads as it did. -/
def fnUnitsUptoRow : OpenClaim := { program := "ytkmlgfihoaneeaa", sum := "b0788d5c8fb864a740419a83690cc9c2894a6d98e02534b5dec0b5b75f313353", func := "loop.example/g00919/laws.FnUnits", spec := "fnUnits", unfollowed := true, recurses := true, apart := false, narrowed := true }
def FnUnitsUptoSaid : Prop := fnUnitsUptoRow.holds Try.pinned (OpenSpec.upto fnUnitsSpec)

/-- 'laws.FnCovers', WHERE WHAT IT READS IS OF BULK AT MOST 1048576: true; the input reads as it did. -/
def fnCoversUptoRow : OpenClaim := { program := "ytkmlgfihoaneeaa", sum := "b0788d5c8fb864a740419a83690cc9c2894a6d98e02534b5dec0b5b75f313353", func := "loop.example/g00919/laws.FnCovers", spec := "fnCovers", unfollowed := true, recurses := true, apart := false, narrowed := true }
def FnCoversUptoSaid : Prop := fnCoversUptoRow.holds Try.pinned (OpenSpec.upto fnCoversSpec)

/-- 'laws.FnWeightSums', WHERE WHAT IT READS IS OF BULK AT MOST 1048576: true; the input reads as it did. -/
def fnWeightSumsUptoRow : OpenClaim := { program := "ytkmlgfihoaneeaa", sum := "b0788d5c8fb864a740419a83690cc9c2894a6d98e02534b5dec0b5b75f313353", func := "loop.example/g00919/laws.FnWeightSums", spec := "fnWeightSums", unfollowed := true, recurses := true, apart := false, narrowed := true }
def FnWeightSumsUptoSaid : Prop := fnWeightSumsUptoRow.holds Try.pinned (OpenSpec.upto fnWeightSumsSpec)

/-- 'laws.FnExactColourText', WHERE WHAT IT READS IS OF BULK AT MOST 1048576: true; the input reads as it did. -/
def fnExactColourTextUptoRow : OpenClaim := { program := "ytkmlgfihoaneeaa", sum := "b0788d5c8fb864a740419a83690cc9c2894a6d98e02534b5dec0b5b75f313353", func := "loop.example/g00919/laws.FnExactColourText", spec := "fnExactColourText", inPlace := ["internal/abi.NoEscape", "internal/bytealg.MakeNoZero"], apart := false, narrowed := true }
def FnExactColourTextUptoSaid : Prop := fnExactColourTextUptoRow.holds Try.pinned (OpenSpec.upto fnExactColourTextSpec)

end Rows
end Go.Proofs.Ytkmlgfihoaneeaa
