/- A hasher of nothing. -/
import Derived.Test.YtoaimjielnempaaGreatDoorShE
import Derived.Laws.MakeOwn
import Derived.Laws.IdiomStrings
import Derived.Deep.AppendSrc
namespace Go.Proofs.YtoaimjielnempaaGreatDoor
set_option linter.unusedVariables false
set_option linter.unusedSimpArgs false
open Go.RowKit Go.Maps
namespace Sh
set_option maxHeartbeats 1000000 in
set_option maxRecDepth 100000 in
theorem first_any (w : World) : Calls Tryz.prog 203 #[] w fun e w' => e = .returned (.agg (yArr first)) ∧ w.grownBy w' none := by
  have b0 : Whole (w.alloc (.cells zero8 302)) w.heap.size 302 zero8 := Whole.fresh _ _ _
  have g0 : w.grownBy (w.alloc (.cells zero8 302)) none := grown_alloc (grown_refl _ _) _
  unfold zero8 at b0 g0
  go_enter Tryz.func203, Tryz.ntmps203
  go_wp2_with (refine store_whole (cs' := yArr first) rfl _ _ rfl rfl rfl size8 b0 rfl (yArr_one _) ?_)
  refine bodyPost_ret (results_cell_row rfl _ _ w.heap.size _ (yArr first) (0, 0) _ rfl (b0.rowAt _) Tryz.underlying302 rfl size8) rfl ⟨rfl, grown_row g0 (.inr (by omega)) _⟩
/-- A hasher's cells. -/
def hCells (x : St) (v : Value) (n : Nat) : Array Value := yArr x ++ #[v, .int .u64 (n : Int)]
set_option maxHeartbeats 1000000 in
set_option maxRecDepth 100000 in
theorem new_any (w : World) : Calls Tryz.prog 122 #[] w fun e w' => ∃ g, w.heap.size ≤ g ∧ e = .returned (.pointer (some ⟨g, 0, none⟩)) ∧ Whole w' g 305 (hCells first (.slice none 0 0) 0) ∧ w.grownBy w' none := by
  go_enter Tryz.func122, Tryz.ntmps122
  go_wp2_with (go_at_call 203; refine (first_any _).mono ?_)
  rintro e w1 ⟨rfl, g1⟩
  have b1 : Whole (w1.alloc (.cells (hCells first (.slice none 0 0) 0) 305)) w1.heap.size 305 (hCells first (.slice none 0 0) 0) := Whole.fresh _ _ _
  have g2 := grown_alloc g1 (.cells (hCells first (.slice none 0 0) 0) 305)
  have s1 := g1.size
  go_wp2
  go_ret
  exact ⟨w1.heap.size, s1, rfl, b1, g2⟩
end Sh
end Go.Proofs.YtoaimjielnempaaGreatDoor
