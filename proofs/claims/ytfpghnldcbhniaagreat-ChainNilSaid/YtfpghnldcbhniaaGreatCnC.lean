/- ChainNil: the run of the whole law, whatever header and id. -/
import Derived.Test.YtfpghnldcbhniaaGreatCnL
namespace Go.Proofs.YtfpghnldcbhniaaGreat
set_option linter.unusedVariables false
set_option linter.unusedSimpArgs false
open Go.RowKit Go.Maps
namespace Ev
def hdrK : List IntKind := [.u32, .u8, .u8, .u8, .u8, .u8, .u8, .u8, .u8, .u8, .u8, .u8, .u8, .u8, .u8, .u8, .u8, .u8, .u8, .u8, .u8, .u8, .u8, .u8, .u8, .u8, .u8, .u8, .u8, .u8, .u8, .u8, .u8,
  .u8, .u8, .u8, .u8, .u8, .u8, .u8, .u8, .u8, .u8, .u8, .u8, .u8, .u8, .u8, .u8, .u8, .u8, .u8, .u8, .u8, .u8, .u8, .u8, .u8, .u8, .u8, .u8, .u8, .u8, .u8, .u8, .u32, .u32, .u32]
def hashK : List IntKind := [.u8, .u8, .u8, .u8, .u8, .u8, .u8, .u8, .u8, .u8, .u8, .u8, .u8, .u8, .u8, .u8, .u8, .u8, .u8, .u8, .u8, .u8, .u8, .u8, .u8, .u8, .u8, .u8, .u8, .u8, .u8, .u8]
theorem law17 (n m : Nat → Int) : isE (run fn plug1 100 3 [.agg (rowA n hdrK 0), .agg (rowA m hashK 0)] H0) (.bool true) = true := by kernel_rfl
end Ev
end Go.Proofs.YtfpghnldcbhniaaGreat
