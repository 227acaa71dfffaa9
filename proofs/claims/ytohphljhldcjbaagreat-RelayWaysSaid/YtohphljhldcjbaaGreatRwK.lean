/- RelayWays: awake. -/
import Derived.Test.YtohphljhldcjbaaGreatRwP
import Derived.Test.YtohphljhldcjbaaGreatB
namespace Go.Proofs.YtohphljhldcjbaaGreat
set_option linter.unusedVariables false
set_option linter.unusedSimpArgs false
open Go.RowKit Go.Maps
namespace Ev
theorem plug_ok : ∀ f p, plug f = some p → OneOk Tryz.prog f p := fun f p e => by
  unfold plug at e
  by_cases h : f = 36
  · subst h
    cases e
    exact sorted1_ok
  · have : Nat.beq f 36 = false := by rw [Bool.eq_false_iff]; exact fun h' => h (Nat.eq_of_beq_eq_true h')
    rw [this] at e
    cases e
theorem res_ok {f : Nat} {l : List AV} (e : res f l = true) : ∃ h', run fn plug 100 f l H0 = .ok (.bool true) h' := by
  unfold res at e
  cases hr : run fn plug 100 f l H0 with
  | no => rw [hr] at e; cases e
  | ok v h' =>
    rw [hr] at e
    cases v
    case bool b =>
      cases b
      · cases e
      · exact ⟨h', rfl⟩
    all_goals cases e
theorem awake_ok (w : World) : Calls Tryz.prog 8 #[] w fun e w' => e = .returned (.bool true) ∧ Below w.heap.size w w' := by
  obtain ⟨h', e⟩ := res_ok q0
  have one : OneOk Tryz.prog 8 (run fn plug 100 8) := fun B W ι h w xs vs r h' rel hv e => run_ok env ext_ok mixed fn_ok plug_ok 100 B W ι h w 8 xs vs r h' rel hv e
  exact run_calls one (vs := []) (fun _ => .nil) w (v := .bool true) (fun _ _ hv => hv.bool_inv) e
end Ev
end Go.Proofs.YtohphljhldcjbaaGreat
