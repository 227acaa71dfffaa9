/- NodeShakes, whatever its arguments. -/
import Derived.Test.YtbkeeghkpkfeiaaGreatDoorNnL
import Derived.Test.YtbkeeghkpkfeiaaGreatDoorNnO
namespace Go.Proofs.YtbkeeghkpkfeiaaGreatDoor
set_option linter.unusedVariables false
set_option linter.unusedSimpArgs false
open Go.RowKit Go.Maps
namespace Ev
theorem run6_ok (f : FuncId) : OneOk Tryz.prog f (run fnT plug6 100 f) := fun B W fit ι h w xs vs r h' rel hv e => by
  rw [fnT_eq] at e
  exact run_ok env ext_ok mixed fn_ok (fun f p e => plug6_ok f p e B W fit) 100 ι h w f xs vs r h' rel hv e
theorem anyi (c : Cx) (k : IntKind) (n : Int) : V c (.iface 16777218 .undef) (.int k n) := .any 0 _ rfl (fun _ h => by cases h)
theorem shakes_at (b : Bool) (p n : Int) (w : World) (fit : Fits Tryz.prog w.heap.size w) (h1 : 0 ≤ n) (h2 : n ≤ 65535)
    (rn : isE (run fnT plug6 100 3 [.bool b, .iface 16777218 .undef, prng] H0) (.bool true) = true) :
    Calls Tryz.prog 3 #[.bool b, .int .i64 p, .int .u16 n] w fun e w' => e = .returned (.bool true) ∧ Below w.heap.size w w' := by
  obtain ⟨h', e⟩ := isE_ok rn
  exact run_calls (run6_ok _) (vs := [.bool b, .int .i64 p, .int .u16 n]) (fun c => .cons (.bool b) (.cons (anyi c _ _) (.cons (.rng _ _ _ _ h1 h2) .nil))) w fit (v := .bool true) (fun _ _ hv => hv.bool_inv) e
theorem shakes_any (b : Bool) (p n : Int) (w : World) (fit : Fits Tryz.prog w.heap.size w) (h1 : 0 ≤ n) (h2 : n ≤ 65535) :
    Calls Tryz.prog 3 #[.bool b, .int .i64 p, .int .u16 n] w fun e w' => e = .returned (.bool true) ∧ Below w.heap.size w w' := by
  cases b
  · exact shakes_at false p n w fit h1 h2 shakes_false
  · exact shakes_at true p n w fit h1 h2 shakes_true
end Ev
end Go.Proofs.YtbkeeghkpkfeiaaGreatDoor
