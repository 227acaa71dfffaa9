/- SyncNil: the run of the whole law, of a second between bounds. -/
import Derived.Test.YtfpghnldcbhniaaGreatCsA
namespace Go.Proofs.YtfpghnldcbhniaaGreat
set_option linter.unusedVariables false
set_option linter.unusedSimpArgs false
open Go.RowKit Go.Maps
namespace Ev
theorem law22_1 : isE (run fn plug2 100 4 [.iface 16777218 .undef, .agg [.iface 16777218 .undef, .iface 16777218 .undef, .iface 16777218 .undef, .iface 16777218 .undef, .iface 16777218 .undef, .iface 16777218 .undef, .iface 16777218 .undef, .iface 16777218 .undef, .iface 16777218 .undef, .iface 16777218 .undef, .iface 16777218 .undef, .iface 16777218 .undef, .iface 16777218 .undef, .iface 16777218 .undef, .iface 16777218 .undef, .iface 16777218 .undef, .iface 16777218 .undef, .iface 16777218 .undef, .iface 16777218 .undef, .iface 16777218 .undef, .iface 16777218 .undef, .iface 16777218 .undef, .iface 16777218 .undef, .iface 16777218 .undef, .iface 16777218 .undef, .iface 16777218 .undef, .iface 16777218 .undef, .iface 16777218 .undef, .iface 16777218 .undef, .iface 16777218 .undef, .iface 16777218 .undef, .iface 16777218 .undef], .iface 16777217 (.agg [.int .i64 (-9223372036854775808), .int .i64 (-1)])] H0) (.bool true) = true := by kernel_rfl
end Ev
end Go.Proofs.YtfpghnldcbhniaaGreat
namespace Go.Proofs.YtfpghnldcbhniaaGreat
set_option linter.unusedVariables false
set_option linter.unusedSimpArgs false
open Go.RowKit Go.Maps
namespace Ev
theorem law22_2 : isE (run fn plug2 100 4 [.iface 16777218 .undef, .agg [.iface 16777218 .undef, .iface 16777218 .undef, .iface 16777218 .undef, .iface 16777218 .undef, .iface 16777218 .undef, .iface 16777218 .undef, .iface 16777218 .undef, .iface 16777218 .undef, .iface 16777218 .undef, .iface 16777218 .undef, .iface 16777218 .undef, .iface 16777218 .undef, .iface 16777218 .undef, .iface 16777218 .undef, .iface 16777218 .undef, .iface 16777218 .undef, .iface 16777218 .undef, .iface 16777218 .undef, .iface 16777218 .undef, .iface 16777218 .undef, .iface 16777218 .undef, .iface 16777218 .undef, .iface 16777218 .undef, .iface 16777218 .undef, .iface 16777218 .undef, .iface 16777218 .undef, .iface 16777218 .undef, .iface 16777218 .undef, .iface 16777218 .undef, .iface 16777218 .undef, .iface 16777218 .undef, .iface 16777218 .undef], .iface 16777217 (.agg [.int .i64 0, .int .i64 1099511627776])] H0) (.bool true) = true := by kernel_rfl
end Ev
end Go.Proofs.YtfpghnldcbhniaaGreat
namespace Go.Proofs.YtfpghnldcbhniaaGreat
set_option linter.unusedVariables false
set_option linter.unusedSimpArgs false
open Go.RowKit Go.Maps
namespace Ev
theorem law22_3 : isE (run fn plug2 100 4 [.iface 16777218 .undef, .agg [.iface 16777218 .undef, .iface 16777218 .undef, .iface 16777218 .undef, .iface 16777218 .undef, .iface 16777218 .undef, .iface 16777218 .undef, .iface 16777218 .undef, .iface 16777218 .undef, .iface 16777218 .undef, .iface 16777218 .undef, .iface 16777218 .undef, .iface 16777218 .undef, .iface 16777218 .undef, .iface 16777218 .undef, .iface 16777218 .undef, .iface 16777218 .undef, .iface 16777218 .undef, .iface 16777218 .undef, .iface 16777218 .undef, .iface 16777218 .undef, .iface 16777218 .undef, .iface 16777218 .undef, .iface 16777218 .undef, .iface 16777218 .undef, .iface 16777218 .undef, .iface 16777218 .undef, .iface 16777218 .undef, .iface 16777218 .undef, .iface 16777218 .undef, .iface 16777218 .undef, .iface 16777218 .undef, .iface 16777218 .undef], .iface 16777217 (.agg [.int .i64 1099511627777, .int .i64 9223372036854775807])] H0) (.bool true) = true := by kernel_rfl
end Ev
end Go.Proofs.YtfpghnldcbhniaaGreat
