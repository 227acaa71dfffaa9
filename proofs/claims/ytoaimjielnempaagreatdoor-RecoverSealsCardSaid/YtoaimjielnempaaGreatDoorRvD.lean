/- The laws of a keeper: awake, reckoned. -/
import Derived.Test.YtoaimjielnempaaGreatDoorRvN
namespace Go.Proofs.YtoaimjielnempaaGreatDoor
set_option linter.unusedVariables false
set_option linter.unusedSimpArgs false
open Go.RowKit Go.Maps
namespace Ev
theorem awake_run : isE (run fn plug1 100 7 [] H0) (.bool true) = true := by kernel_rfl
theorem run1_ok (f : FuncId) : OneOk Tryz.prog f (run fn plug1 100 f) := fun B W fit ι h w xs vs r h' rel hv e => run_ok env ext_ok mixed fn_ok (fun f p e => plug1_ok f p e B W fit) 100 ι h w f xs vs r h' rel hv e
theorem awake_any (w : World) (fit : Fits Tryz.prog w.heap.size w) : Calls Tryz.prog 7 #[] w fun e w' => e = .returned (.bool true) ∧ Below w.heap.size w w' := by
  obtain ⟨h', e⟩ := isE_ok awake_run
  exact run_calls (run1_ok _) (vs := []) (fun c => .nil) w fit (v := .bool true) (fun _ _ hv => hv.bool_inv) e
end Ev
end Go.Proofs.YtoaimjielnempaaGreatDoor
