/-
  DERIVED. GIVEN WITH THE SEED: THE CARDS: each row of YtkoajacfhlnmoaaDoorRows.lean that lists a variable, with what it lists TIED to the program's text (the seventh form; the later family's looks); each row that meets fmt, with fmt's text TOLD by the authors' own Lean function (tested against real Go, not proved from fmt's source: count such statements apart). THE CARD IS WHAT COUNTS. Prove the row's statement (the work); the ties are given (YtkoajacfhlnmoaaDoorTie.lean); close each card by the builder's one call (the guide's Derived/Test/ToyasCard.lean, 'card_holds'). Laid BY PROGRAM, IN A SANDBOX (cutbox-door.mjs). By AI agents, Wed Nov 11 2026. No macro, syntax, notation, axiom, sorry.
-/
import Derived.Test.YtkoajacfhlnmoaaDoorRows
import GoSem.ClaimSeven
namespace Go.Proofs.YtkoajacfhlnmoaaDoor
namespace Rows

/-- THE TIED CARD OF 'laws.FnExactCoverText'. -/
def fnExactCoverTextCard : Claim7 := { stood := { row := fnExactCoverTextRow, standIns := [], harness := (true, "14227862cd915124635516a4aa74d53648958823df5431dd32716c63e6c79d39"), looks := false }, kinds := [], alts := [], laidByText := true, laidKinds := [.data, .data, .data], laidTests := true, laidLooks := .later }
def FnExactCoverTextCardSaid : Prop := Claim7.holds Tryd.pinned (.plain (OpenSpec.ofChange fnExactCoverTextSpec)) fnExactCoverTextCard

/-- THE SECOND FORM's CARD OF 'laws.FnExactCoverText'. -/
def fnExactCoverTextUptoCard : Claim7 := { stood := { row := fnExactCoverTextUptoRow, standIns := [], harness := (true, "14227862cd915124635516a4aa74d53648958823df5431dd32716c63e6c79d39"), looks := false }, kinds := [], alts := [], laidByText := true, laidKinds := [.data, .data, .data], laidTests := true, laidLooks := .later }
def FnExactCoverTextUptoCardSaid : Prop := Claim7.holds Tryd.pinned (.plain (OpenSpec.upto fnExactCoverTextSpec)) fnExactCoverTextUptoCard
end Rows
end Go.Proofs.YtkoajacfhlnmoaaDoor
