/- The laws of a node: awake, reckoned. -/
import Derived.Test.YtbkeeghkpkfeiaaGreatDoorNnC
import Derived.Test.YtbkeeghkpkfeiaaGreatDoorNnHT
namespace Go.Proofs.YtbkeeghkpkfeiaaGreatDoor
set_option linter.unusedVariables false
set_option linter.unusedSimpArgs false
open Go.RowKit Go.Maps
namespace Ev
theorem awake_runT : isE (run fnT plug2 100 5 [] H0) (.bool true) = true := by kernel_rfl
theorem awake_run : isE (run fn plug2 100 5 [] H0) (.bool true) = true := by rw [← fnT_eq]; exact awake_runT
end Ev
end Go.Proofs.YtbkeeghkpkfeiaaGreatDoor
