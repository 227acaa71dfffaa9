/-
  DERIVED. GIVEN WITH THE SEED: THE CARDS: each row of YtoaimjielnempaaGreatDoorRows.lean that lists a variable, with what it lists TIED to the program's text (the seventh form; the later family's looks); each row that meets fmt, with fmt's text TOLD by the authors' own Lean function (tested against real Go, not proved from fmt's source: count such statements apart). THE CARD IS WHAT COUNTS. Prove the row's statement (the work); the ties are given (YtoaimjielnempaaGreatDoorTie.lean); close each card by the builder's one call (the guide's Derived/Test/ToyasCard.lean, 'card_holds'). Laid BY PROGRAM, IN A SANDBOX (cutbox-door.mjs). By AI agents, Wed Nov 11 2026. No macro, syntax, notation, axiom, sorry.
-/
import Derived.Test.YtoaimjielnempaaGreatDoorRows
import GoSem.ClaimSeven
namespace Go.Proofs.YtoaimjielnempaaGreatDoor
namespace Rows

/-- THE TIED CARD OF 'bedrocklaw26.RecoverSeals'. -/
def recoverSealsCard : Claim7 := { stood := { row := recoverSealsRow, standIns := [], harness := (true, "a6b27466608f83de23b43428b00dc76897fb86defe14980a080a18de662368a3"), looks := true }, kinds := [], alts := [], laidByText := true, laidKinds := [.data, .data, .data, .sentinel, .sentinel], laidTests := true, laidLooks := .later }
def RecoverSealsCardSaid : Prop := Claim7.holds Tryz.pinned (.plain (OpenSpec.ofChange recoverSealsSpec)) recoverSealsCard

/-- THE SECOND FORM's CARD OF 'bedrocklaw26.RecoverSeals'. -/
def recoverSealsUptoCard : Claim7 := { stood := { row := recoverSealsUptoRow, standIns := [], harness := (true, "a6b27466608f83de23b43428b00dc76897fb86defe14980a080a18de662368a3"), looks := true }, kinds := [], alts := [], laidByText := true, laidKinds := [.data, .data, .data, .sentinel, .sentinel], laidTests := true, laidLooks := .later }
def RecoverSealsUptoCardSaid : Prop := Claim7.holds Tryz.pinned (.plain (OpenSpec.upto recoverSealsSpec)) recoverSealsUptoCard
end Rows
end Go.Proofs.YtoaimjielnempaaGreatDoor
