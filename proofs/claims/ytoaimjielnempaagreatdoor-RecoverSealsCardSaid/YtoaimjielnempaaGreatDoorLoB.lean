/- The types of a great program are laid out: in parts. -/
import Derived.Test.YtoaimjielnempaaGreatDoorProg
import Derived.DeepKeys4
import Derived.KernelRfl
namespace Go.Proofs.YtoaimjielnempaaGreatDoor
set_option linter.unusedVariables false
set_option linter.unusedSimpArgs false
open Go
namespace Lo
theorem rows0 : ((List.range 100).all fun i => rowFine Tryz.prog (0 + i)) = true := by kernel_rfl
theorem rows1 : ((List.range 100).all fun i => rowFine Tryz.prog (100 + i)) = true := by kernel_rfl
theorem rows2 : ((List.range 100).all fun i => rowFine Tryz.prog (200 + i)) = true := by kernel_rfl
theorem rows3 : ((List.range 100).all fun i => rowFine Tryz.prog (300 + i)) = true := by kernel_rfl
theorem rows4 : ((List.range 100).all fun i => rowFine Tryz.prog (400 + i)) = true := by kernel_rfl
theorem rows5 : ((List.range 100).all fun i => rowFine Tryz.prog (500 + i)) = true := by kernel_rfl
theorem rows6 : ((List.range 100).all fun i => rowFine Tryz.prog (600 + i)) = true := by kernel_rfl
theorem rows7 : ((List.range 100).all fun i => rowFine Tryz.prog (700 + i)) = true := by kernel_rfl
theorem rows8 : ((List.range 100).all fun i => rowFine Tryz.prog (800 + i)) = true := by kernel_rfl
theorem rows9 : ((List.range 100).all fun i => rowFine Tryz.prog (900 + i)) = true := by kernel_rfl
theorem many : Nat.ble Tryz.prog.types.size 1000 = true := by kernel_rfl
theorem globs : (Tryz.prog.globals.all fun g => decide (g.type < Tryz.prog.types.size)) = true := by kernel_rfl
theorem funs : (Tryz.prog.funcs.all fun f => f.params.all fun t => decide (t < Tryz.prog.types.size)) = true := by kernel_rfl
theorem laidB : laidOutB Tryz.prog = true := by
  unfold laidOutB
  rw [globs, funs, Bool.and_true, Bool.and_true, List.all_eq_true]
  intro t ht
  have ht := List.mem_range.1 ht
  have hm := Nat.le_of_ble_eq_true many
  have part : ∀ (k : Nat), ((List.range 100).all fun i => rowFine Tryz.prog (k + i)) = true → k ≤ t → t < k + 100 → rowFine Tryz.prog t = true := fun k h h1 h2 => by
    have h3 := List.all_eq_true.1 h (t - k) (List.mem_range.2 (by omega))
    have h4 : k + (t - k) = t := by omega
    rw [h4] at h3
    exact h3
  by_cases h0 : t < 100
  · exact part 0 rows0 (by omega) (by omega)
  by_cases h1 : t < 200
  · exact part 100 rows1 (by omega) (by omega)
  by_cases h2 : t < 300
  · exact part 200 rows2 (by omega) (by omega)
  by_cases h3 : t < 400
  · exact part 300 rows3 (by omega) (by omega)
  by_cases h4 : t < 500
  · exact part 400 rows4 (by omega) (by omega)
  by_cases h5 : t < 600
  · exact part 500 rows5 (by omega) (by omega)
  by_cases h6 : t < 700
  · exact part 600 rows6 (by omega) (by omega)
  by_cases h7 : t < 800
  · exact part 700 rows7 (by omega) (by omega)
  by_cases h8 : t < 900
  · exact part 800 rows8 (by omega) (by omega)
  · exact part 900 rows9 (by omega) (by omega)
end Lo
end Go.Proofs.YtoaimjielnempaaGreatDoor
