/- NodeShakes: all plugs. -/
import Derived.Test.YtbkeeghkpkfeiaaGreatDoorNsQ
import Derived.Test.YtbkeeghkpkfeiaaGreatDoorNsO
namespace Go.Proofs.YtbkeeghkpkfeiaaGreatDoor
set_option linter.unusedVariables false
set_option linter.unusedSimpArgs false
open Go.RowKit Go.Maps
namespace Ev
noncomputable def encP : List AV → H → E := memoF encT (run fnT plug2 100 39)
noncomputable def plug6 : FuncId → Option (List AV → H → E) := fun f => bi (Nat.beq f 4) (some (memoH startT)) (bi (Nat.beq f 39) (some encP) (plug5 f))
theorem plug6_ok : ∀ f p, plug6 f = some p → OneOk Tryz.prog f p := fun f p e => by
  unfold plug6 at e
  rcases bi_beq e with ⟨rfl, e⟩ | e
  · cases e; exact start_ok
  rcases bi_beq e with ⟨rfl, e⟩ | e
  · cases e; exact memoF_ok (run2T_ok _) (run2T_ok _) _ encT_ok
  exact plug5_ok f p e
end Ev
end Go.Proofs.YtbkeeghkpkfeiaaGreatDoor
