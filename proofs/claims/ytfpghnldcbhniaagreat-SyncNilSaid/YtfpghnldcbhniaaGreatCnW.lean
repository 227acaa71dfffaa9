/- target.Work of the lowest bits. -/
import Derived.Test.YtfpghnldcbhniaaGreatCnA
namespace Go.Proofs.YtfpghnldcbhniaaGreat
set_option linter.unusedVariables false
set_option linter.unusedSimpArgs false
open Go.RowKit Go.Maps
namespace Ev
theorem work_run : isE (run fn plug0 100 81 workX H0) workR = true := by kernel_rfl
end Ev
end Go.Proofs.YtfpghnldcbhniaaGreat
