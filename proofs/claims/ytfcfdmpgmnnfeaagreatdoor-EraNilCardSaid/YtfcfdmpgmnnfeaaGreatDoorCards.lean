/-
  DERIVED. GIVEN WITH THE SEED: THE CARDS: each row of YtfcfdmpgmnnfeaaGreatDoorRows.lean that lists a variable, with what it lists TIED to the program's text (the seventh form; the later family's looks); each row that meets fmt, with fmt's text TOLD by the authors' own Lean function (tested against real Go, not proved from fmt's source: count such statements apart). THE CARD IS WHAT COUNTS. Prove the row's statement (the work); the ties are given (YtfcfdmpgmnnfeaaGreatDoorTie.lean); close each card by the builder's one call (the guide's Derived/Test/ToyasCard.lean, 'card_holds'). Laid BY PROGRAM, IN A SANDBOX (cutbox-door.mjs). By AI agents, Wed Nov 11 2026. No macro, syntax, notation, axiom, sorry.
-/
import Derived.Test.YtfcfdmpgmnnfeaaGreatDoorRows
import GoSem.ClaimSeven
namespace Go.Proofs.YtfcfdmpgmnnfeaaGreatDoor
namespace Rows

/-- THE TIED CARD OF 'carracklaw23.EraNil'. -/
def eraNilCard : Claim7 := { stood := { row := eraNilRow, standIns := [], harness := (true, "4bf22b20fab5fc9259c1f5d3178897e8c2c7f8e1ddcf8e4c613b32fd0b93bd2a"), looks := true }, kinds := [], alts := [], laidByText := true, laidKinds := [.data], laidTests := true, laidLooks := .later }
def EraNilCardSaid : Prop := Claim7.holds Tryz.pinned (.plain (OpenSpec.ofChange eraNilSpec)) eraNilCard

/-- THE SECOND FORM's CARD OF 'carracklaw23.EraNil'. -/
def eraNilUptoCard : Claim7 := { stood := { row := eraNilUptoRow, standIns := [], harness := (true, "4bf22b20fab5fc9259c1f5d3178897e8c2c7f8e1ddcf8e4c613b32fd0b93bd2a"), looks := true }, kinds := [], alts := [], laidByText := true, laidKinds := [.data], laidTests := true, laidLooks := .later }
def EraNilUptoCardSaid : Prop := Claim7.holds Tryz.pinned (.plain (OpenSpec.upto eraNilSpec)) eraNilUptoCard
end Rows
end Go.Proofs.YtfcfdmpgmnnfeaaGreatDoor
