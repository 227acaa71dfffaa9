/- Calls of pure functions at the values of the runs, reckoned. -/
import Derived.Test.YtoaimjielnempaaGreatDoorRvM1
import Derived.Test.YtoaimjielnempaaGreatDoorRvM2
import Derived.Test.YtoaimjielnempaaGreatDoorRvW
namespace Go.Proofs.YtoaimjielnempaaGreatDoor
set_option linter.unusedVariables false
set_option linter.unusedSimpArgs false
open Go.RowKit Go.Maps
namespace Ev
def workT : List (List AV × AV) := [(workX, workR)]
theorem workT_ok : ∀ e ∈ workT, Entry (run fn plugW 100 125) e := fun e he => by
  simp only [workT, List.mem_cons, List.not_mem_nil, or_false] at he
  subst he
  exact ⟨by kernel_rfl, by kernel_rfl, isE_ok work_run⟩
theorem run0_ok (f : FuncId) : OneOk Tryz.prog f (run fn plug0 100 f) := fun B W fit ι h w xs vs r h' rel hv e => run_ok env ext_ok mixed fn_ok (fun f p e => plug0_ok f p e B W fit) 100 ι h w f xs vs r h' rel hv e
theorem plugW_ok : ∀ f p, plugW f = some p → OneOk Tryz.prog f p := fun f p e => by
  unfold plugW at e
  rcases bi_beq e with ⟨rfl, e⟩ | e
  · cases e; exact cmpP_ok
  cases e
theorem runW_ok (f : FuncId) : OneOk Tryz.prog f (run fn plugW 100 f) := fun B W fit ι h w xs vs r h' rel hv e => run_ok env ext_ok mixed fn_ok (fun f p e => plugW_ok f p e B W fit) 100 ι h w f xs vs r h' rel hv e
noncomputable def plug1 : FuncId → Option (List AV → H → E) := fun f => bi (Nat.beq f 128) (some (memoT mineT)) (bi (Nat.beq f 33) (some (memoT idT)) (bi (Nat.beq f 130) (some (memoT meetsT)) (bi (Nat.beq f 20) (some (memoT twiceT)) (bi (Nat.beq f 125) (some (memoT workT)) (plug0 f)))))
theorem plug1_ok : ∀ f p, plug1 f = some p → OneOk Tryz.prog f p := fun f p e => by
  unfold plug1 at e
  rcases bi_beq e with ⟨rfl, e⟩ | e
  · cases e; exact memoT_ok (run0_ok _) _ mineT_ok
  rcases bi_beq e with ⟨rfl, e⟩ | e
  · cases e; exact memoT_ok (run0_ok _) _ idT_ok
  rcases bi_beq e with ⟨rfl, e⟩ | e
  · cases e; exact memoT_ok (run0_ok _) _ meetsT_ok
  rcases bi_beq e with ⟨rfl, e⟩ | e
  · cases e; exact memoT_ok (run0_ok _) _ twiceT_ok
  rcases bi_beq e with ⟨rfl, e⟩ | e
  · cases e; exact memoT_ok (runW_ok _) _ workT_ok
  exact plug0_ok f p e
end Ev
end Go.Proofs.YtoaimjielnempaaGreatDoor
