/- target.Work of the lowest bits. -/
import Derived.Test.YtoaimjielnempaaGreatDoorNsI
namespace Go.Proofs.YtoaimjielnempaaGreatDoor
set_option linter.unusedVariables false
set_option linter.unusedSimpArgs false
open Go.RowKit Go.Maps
namespace Ev
theorem work_run : isE (run fn plugW 100 125 workX H0) workR = true := by kernel_rfl
end Ev
end Go.Proofs.YtoaimjielnempaaGreatDoor
