/- RelayWays: what lay ahead of the law's call. -/
import Derived.Test.YtohphljhldcjbaaGreatRwK
import Derived.Test.YtohphljhldcjbaaGreatB
namespace Go.Proofs.YtohphljhldcjbaaGreat
set_option linter.unusedVariables false
set_option linter.unusedSimpArgs false
open Go.RowKit Go.Maps
namespace Re
/-- What lay ahead of the law's call lies still. -/
def B0 (w0 w : World) : Prop := Below w0.heap.size w0 w
theorem B0.below {w0 w w' : World} (h : B0 w0 w) (g : Below w.heap.size w w') : B0 w0 w' := Below.trans h (g.mono h.size)
theorem B0.grown {w0 w w' : World} (h : B0 w0 w) (g : w.grownBy w' none) : B0 w0 w' := h.below (Below.of_grown g (by simp) (by simp))
end Re
end Go.Proofs.YtohphljhldcjbaaGreat
