/-
  DERIVED. GIVEN WITH THE SEED: THE CARDS: each row of YtcbpbdhglblagaaDoorRows.lean that lists a variable, with what it lists TIED to the program's text (the seventh form; the later family's looks); each row that meets fmt, with fmt's text TOLD by the authors' own Lean function (tested against real Go, not proved from fmt's source: count such statements apart). THE CARD IS WHAT COUNTS. Prove the row's statement (the work); the ties are given (YtcbpbdhglblagaaDoorTie.lean); close each card by the builder's one call (the guide's Derived/Test/ToyasCard.lean, 'card_holds'). Laid BY PROGRAM, IN A SANDBOX (cutbox-door.mjs). By AI agents, Wed Nov 11 2026. No macro, syntax, notation, axiom, sorry.
-/
import Derived.Test.YtcbpbdhglblagaaDoorRows
import GoSem.ClaimSeven
namespace Go.Proofs.YtcbpbdhglblagaaDoor
namespace Rows

/-- THE TIED CARD OF 'laws.FnExactReadCover'. -/
def fnExactReadCoverCard : Claim7 := { stood := { row := fnExactReadCoverRow, standIns := [], harness := (true, "7854fabc8ddfffb7e84ee97a6330496d32d5fefae369287eeb09d2c1c9a0ec93"), looks := true }, kinds := [], alts := [], laidByText := true, laidKinds := [.data, .data, .data, .data, .sentinel, .sentinel, .pinned], laidTests := true, laidLooks := .later }
def FnExactReadCoverCardSaid : Prop := Claim7.holds Tryd.pinned (.plain (OpenSpec.ofChange fnExactReadCoverSpec)) fnExactReadCoverCard

/-- THE SECOND FORM's CARD OF 'laws.FnExactReadCover'. -/
def fnExactReadCoverUptoCard : Claim7 := { stood := { row := fnExactReadCoverUptoRow, standIns := [], harness := (true, "7854fabc8ddfffb7e84ee97a6330496d32d5fefae369287eeb09d2c1c9a0ec93"), looks := true }, kinds := [], alts := [], laidByText := true, laidKinds := [.data, .data, .data, .data, .sentinel, .sentinel, .pinned], laidTests := true, laidLooks := .later }
def FnExactReadCoverUptoCardSaid : Prop := Claim7.holds Tryd.pinned (.plain (OpenSpec.upto fnExactReadCoverSpec)) fnExactReadCoverUptoCard
end Rows
end Go.Proofs.YtcbpbdhglblagaaDoor
