/- Whatever the text, the block and the id: sealed texts are opened, others are not, and a nil keeper answers as the document says: the tied card of 'RecoverSeals'. Its condition is the card's own: the library's variables that are listed read as listed when the call begins, tied to the program's text. -/
import Derived.Test.YtoaimjielnempaaGreatDoorRecoverSeals
import Derived.Test.YtoaimjielnempaaGreatDoorTie
import Derived.Test.YtoaimjielnempaaGreatDoorCards
import Derived.SevenTiedAt
namespace Go.Proofs.YtoaimjielnempaaGreatDoor
open Go
namespace Seals
open Go
set_option maxRecDepth 100000 in
theorem cw : Rows.recoverSealsRow.wfByText (OpenSpec.ofChange Rows.recoverSealsSpec) = true := by kernel_rfl
set_option maxRecDepth 100000 in
theorem cm : Tryz.prog.mainIs = some (true, "a6b27466608f83de23b43428b00dc76897fb86defe14980a080a18de662368a3".toList) := by kernel_rfl
set_option maxRecDepth 100000 in
theorem cl : true = Tryz.prog.looks [] := by kernel_rfl
set_option maxRecDepth 100000 in
theorem cs : Tryz.f3.params.toList.all (fun t => !Tryz.prog.wantsStandIn t) = true := by kernel_rfl
set_option maxRecDepth 100000 in
theorem go1 : (Tryz.prog.closure 3).any (fun g => (Tryz.prog.funcs[g]?).any Func.goes) = false := by
  rw [Clo.closure_eq]
  kernel_rfl
set_option maxRecDepth 100000 in
theorem go2 : Tryz.prog.funcs.any Func.goes = false := by kernel_rfl
theorem go3 : Tryz.prog.goes 3 = false := by
  unfold Program.goes
  rw [go1, go2, Bool.and_false]
  rfl
theorem go4 : Tryz.prog.goesFrom Rows.recoverSealsRow.func = false := by
  unfold Program.goesFrom
  rw [named, Option.any_some, go3]
theorem cg : false = Rows.recoverSealsRow.goesBy Tryz.prog := by
  unfold OpenClaim.goesBy Program.goesAt
  rw [go4]
  rfl
theorem card_holds : Rows.RecoverSealsCardSaid :=
  Claim7.holds_tied_plain_at .later [] [.data, .data, .data, .sentinel, .sentinel] true (true, "a6b27466608f83de23b43428b00dc76897fb86defe14980a080a18de662368a3") true
    seals_holds (fun _ h => by cases h) cw (fun _ h => by cases h) recoverSeals_row_tie rfl ⟨rfl, rfl⟩ cm rfl
    (fun f fn hf hfn => by
      obtain rfl : f = 3 := (Option.some.inj (named.symm.trans hf)).symm
      obtain rfl : fn = Tryz.f3 := (Option.some.inj (Tryz.func3.symm.trans hfn)).symm
      exact ⟨cl, fun j t ht => by
        have := List.all_eq_true.1 cs t (List.mem_of_getElem? (by simpa using ht))
        exact (by simpa using this : Tryz.prog.wantsStandIn t = false)⟩)
    cg
#print axioms card_holds
end Seals
end Go.Proofs.YtoaimjielnempaaGreatDoor
