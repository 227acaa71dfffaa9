/- The laws of a node: Status as a plug. -/
import Derived.Test.YtbkeeghkpkfeiaaGreatDoorNnC
import Derived.Test.YtbkeeghkpkfeiaaGreatDoorNnD
import Derived.Test.YtbkeeghkpkfeiaaGreatDoorNsM
namespace Go.Proofs.YtbkeeghkpkfeiaaGreatDoor
set_option linter.unusedVariables false
set_option linter.unusedSimpArgs false
open Go.RowKit Go.Maps
namespace Ev
theorem run2_kok {B : Nat} {W : World} (fit : Fits Tryz.prog B W) : KOK Tryz.prog B W (run fnT plug2 100) := by
  rw [fnT_eq]
  exact run_ok env ext_ok mixed fn_ok (fun f p e => plug2_ok f p e B W fit) 100
noncomputable def stQ : List AV → H → E := stP (run fnT plug2 100)
theorem stQ_ok : OneOk Tryz.prog 15 stQ := fun B W fit => stP_at env ext_ok mixed (run2_kok fit)
noncomputable def plug3 : FuncId → Option (List AV → H → E) := fun f => bi (Nat.beq f 15) (some stQ) (plug2 f)
theorem plug3_ok : ∀ f p, plug3 f = some p → OneOk Tryz.prog f p := fun f p e => by
  unfold plug3 at e
  rcases bi_beq e with ⟨rfl, e⟩ | e
  · cases e; exact stQ_ok
  exact plug2_ok f p e
theorem run2_ok (f : FuncId) : OneOk Tryz.prog f (run fn plug2 100 f) := fun B W fit ι h w xs vs r h' rel hv e => run_ok env ext_ok mixed fn_ok (fun f p e => plug2_ok f p e B W fit) 100 ι h w f xs vs r h' rel hv e
def awakeT : List (List AV × AV) := [([], .bool true)]
theorem awakeT_ok : ∀ e ∈ awakeT, Entry (run fn plug2 100 5) e := fun e he => by
  simp only [awakeT, List.mem_cons, List.not_mem_nil, or_false] at he
  subst he
  exact ⟨by kernel_rfl, by kernel_rfl, isE_ok awake_run⟩
/-- Status with any peers, awake known. -/
noncomputable def plug4 : FuncId → Option (List AV → H → E) := fun f => bi (Nat.beq f 5) (some (memoT awakeT)) (plug3 f)
theorem plug4_ok : ∀ f p, plug4 f = some p → OneOk Tryz.prog f p := fun f p e => by
  unfold plug4 at e
  rcases bi_beq e with ⟨rfl, e⟩ | e
  · cases e; exact memoT_ok (run2_ok _) _ awakeT_ok
  exact plug3_ok f p e
end Ev
end Go.Proofs.YtbkeeghkpkfeiaaGreatDoor
