/- NodeShakes, inbound true: reckoned. -/
import Derived.Test.YtbkeeghkpkfeiaaGreatDoorNsP
namespace Go.Proofs.YtbkeeghkpkfeiaaGreatDoor
set_option linter.unusedVariables false
set_option linter.unusedSimpArgs false
open Go.RowKit Go.Maps
namespace Ev
theorem shakes_true : isE (run fnT plug6 100 3 [.bool true, .iface 16777218 .undef, prng] H0) (.bool true) = true := by kernel_rfl
end Ev
end Go.Proofs.YtbkeeghkpkfeiaaGreatDoor
