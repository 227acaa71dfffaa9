/-
  DERIVED. GIVEN WITH THE SEED: THE CARDS: each row of YtbkeeghkpkfeiaaGreatDoorRows.lean that lists a variable, with what it lists TIED to the program's text (the seventh form; the later family's looks); each row that meets fmt, with fmt's text TOLD by the authors' own Lean function (tested against real Go, not proved from fmt's source: count such statements apart). THE CARD IS WHAT COUNTS. Prove the row's statement (the work); the ties are given (YtbkeeghkpkfeiaaGreatDoorTie.lean); close each card by the builder's one call (the guide's Derived/Test/ToyasCard.lean, 'card_holds'). Laid BY PROGRAM, IN A SANDBOX (cutbox-door.mjs). By AI agents, Wed Nov 11 2026. No macro, syntax, notation, axiom, sorry.
-/
import Derived.Test.YtbkeeghkpkfeiaaGreatDoorRows
import GoSem.ClaimSeven
namespace Go.Proofs.YtbkeeghkpkfeiaaGreatDoor
namespace Rows

/-- THE TIED CARD OF 'bedrocklaw27.NodeShakes'. -/
def nodeShakesCard : Claim7 := { stood := { row := nodeShakesRow, standIns := [], harness := (true, "664a43e4647acb95982df162984d156e49c1534567ff5c8fbb8c9d792617285a"), looks := true }, kinds := [], alts := [], laidByText := true, laidKinds := [.sentinel, .sentinel, .data, .data, .data, .pinned, .data], laidTests := true, laidLooks := .later }
def NodeShakesCardSaid : Prop := Claim7.holds Tryz.pinned (.plain (OpenSpec.ofChange nodeShakesSpec)) nodeShakesCard

/-- THE SECOND FORM's CARD OF 'bedrocklaw27.NodeShakes'. -/
def nodeShakesUptoCard : Claim7 := { stood := { row := nodeShakesUptoRow, standIns := [], harness := (true, "664a43e4647acb95982df162984d156e49c1534567ff5c8fbb8c9d792617285a"), looks := true }, kinds := [], alts := [], laidByText := true, laidKinds := [.sentinel, .sentinel, .data, .data, .data, .pinned, .data], laidTests := true, laidLooks := .later }
def NodeShakesUptoCardSaid : Prop := Claim7.holds Tryz.pinned (.plain (OpenSpec.upto nodeShakesSpec)) nodeShakesUptoCard
end Rows
end Go.Proofs.YtbkeeghkpkfeiaaGreatDoor
