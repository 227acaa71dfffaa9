/- 'DiskNil': the walk. -/
import Derived.Test.YtohphljhldcjbaaDkJ
import Derived.Test.YtohphljhldcjbaaDkN
namespace Go.Proofs.Ytohphljhldcjbaa
set_option linter.unusedVariables false
set_option linter.unusedSimpArgs false
open Go.RowKit Go.Maps
namespace Dk

/-- What stands through a nil disk's call: the act's cells, and all below. -/
def Act (w0 w : World) (b : Nat) (kind at_ n : Int) (name to s : ByteArray) (v : Value) : Prop :=
  Whole w b 123 #[.int .i64 kind, .int .i64 at_, .int .i64 n, .string name, .string to, .string s, v] ∧ Below w0.heap.size w0 w ∧ w0.heap.size ≤ b
section
variable {w0 w w' : World} {b : Nat} {kind at_ n : Int} {name to s : ByteArray} {v : Value}
theorem Act.below (h : Act w0 w b kind at_ n name to s v) (g : Below w.heap.size w w') : Act w0 w' b kind at_ n name to s v :=
  ⟨h.1.below g h.1.lt, h.2.1.trans (g.mono (by have := h.1.lt; have := h.2.2; omega)), h.2.2⟩
theorem Act.grown (h : Act w0 w b kind at_ n name to s v) (g : w.grownBy w' none) : Act w0 w' b kind at_ n name to s v :=
  h.below (Below.of_grown g (by simp) (by simp))
theorem Act.cells (h : Act w0 w b kind at_ n name to s v) : w.cell? ⟨b, 1, none⟩ = some (.int .i64 at_) ∧ w.cell? ⟨b, 2, none⟩ = some (.int .i64 n) ∧ w.cell? ⟨b, 3, none⟩ = some (.string name) ∧ w.cell? ⟨b, 4, none⟩ = some (.string to) ∧ w.cell? ⟨b, 5, none⟩ = some (.string s) :=
  ⟨h.1.cell 1, h.1.cell 2, h.1.cell 3, h.1.cell 4, h.1.cell 5⟩
end

set_option maxHeartbeats 4000000 in
set_option maxRecDepth 100000 in
theorem nil_any (kind at_ n : Int) (name to s : ByteArray) (v : Value) (w : World) :
    Calls Try.prog 12 #[.agg #[.int .i64 kind, .int .i64 at_, .int .i64 n, .string name, .string to, .string s, v]] w fun e w' => e = .returned (.bool true) ∧ Below w.heap.size w w' := by
  go_enter Try.func12, Try.ntmps12
  go_wp2_with (first | (go_at_call 60; refine (plan_nil _ _).mono ?_))
  rintro e w1 ⟨rfl, g1⟩
  have hk : Act w (w.alloc (.cells #[.int .i64 kind, .int .i64 at_, .int .i64 n, .string name, .string to, .string s, v] 123)) w.heap.size kind at_ n name to s v := ⟨Whole.fresh _ _ _, (Below.refl _ w).alloc (Nat.le_refl _) _, Nat.le_refl _⟩
  replace hk := hk.grown g1
  clear g1
  obtain ⟨c1, c2, c3, c4, c5⟩ := hk.cells
  go_wp2_with (first
    | (go_at_call 25; refine (crash_nil _ _ _).mono ?_; rintro e w1 ⟨rfl, g1⟩; replace hk := hk.grown g1; clear g1; obtain ⟨c1, c2, c3, c4, c5⟩ := hk.cells)
    | (go_at_call 27; refine (read_nil _ _).mono ?_; rintro e w1 ⟨rfl, g1⟩; replace hk := hk.grown g1; clear g1; obtain ⟨c1, c2, c3, c4, c5⟩ := hk.cells)
    | (go_at_call 61; refine (part_nil _ _ _ _).mono ?_; rintro e w1 ⟨rfl, g1⟩; replace hk := hk.grown g1; clear g1; obtain ⟨c1, c2, c3, c4, c5⟩ := hk.cells)
    | (go_at_call 62; refine (size_nil _ _).mono ?_; rintro e w1 ⟨rfl, g1⟩; replace hk := hk.grown g1; clear g1; obtain ⟨c1, c2, c3, c4, c5⟩ := hk.cells)
    | (go_at_call 22; refine (awake_ok _).mono ?_; rintro e w1 ⟨rfl, g1⟩; replace hk := hk.below g1; clear g1; obtain ⟨c1, c2, c3, c4, c5⟩ := hk.cells)
    | (go_at_call 28; refine (write_nil _ _ _ _).mono ?_; rintro e w1 ⟨rfl, g1⟩; replace hk := hk.grown g1; clear g1; obtain ⟨c1, c2, c3, c4, c5⟩ := hk.cells)
    | (go_at_call 23; refine (append_nil _ _ _).mono ?_; rintro e w1 ⟨rfl, g1⟩; replace hk := hk.grown g1; clear g1; obtain ⟨c1, c2, c3, c4, c5⟩ := hk.cells)
    | (go_at_call 63; refine (cut_nil _ _ _).mono ?_; rintro e w1 ⟨rfl, g1⟩; replace hk := hk.grown g1; clear g1; obtain ⟨c1, c2, c3, c4, c5⟩ := hk.cells)
    | (go_at_call 64; refine (move_nil _ _ _).mono ?_; rintro e w1 ⟨rfl, g1⟩; replace hk := hk.grown g1; clear g1; obtain ⟨c1, c2, c3, c4, c5⟩ := hk.cells)
    | (go_at_call 29; refine (remove_nil _ _).mono ?_; rintro e w1 ⟨rfl, g1⟩; replace hk := hk.grown g1; clear g1; obtain ⟨c1, c2, c3, c4, c5⟩ := hk.cells)
    | (go_at_call 24; refine (sync_nil _).mono ?_; rintro e w1 ⟨rfl, g1⟩; replace hk := hk.grown g1; clear g1; obtain ⟨c1, c2, c3, c4, c5⟩ := hk.cells)
    | (go_at_call 65; refine (names_nil _).mono ?_; rintro e w1 ⟨rfl, g1⟩; replace hk := hk.grown g1; clear g1; obtain ⟨c1, c2, c3, c4, c5⟩ := hk.cells)
    | (go_at_call 66; refine (sure_nil _).mono ?_; rintro e w1 ⟨rfl, g1⟩; replace hk := hk.grown g1; clear g1; obtain ⟨c1, c2, c3, c4, c5⟩ := hk.cells)
    | (go_at_call 67; refine (dead_nil _).mono ?_; rintro e w1 ⟨rfl, rfl⟩)
    | (go_at_call 26; refine (up_nil _).mono ?_; rintro e w1 ⟨rfl, rfl⟩)
    | (go_at_call 68; refine (changes_nil _).mono ?_; rintro e w1 ⟨rfl, g1⟩; replace hk := hk.grown g1; clear g1; obtain ⟨c1, c2, c3, c4, c5⟩ := hk.cells)
    | (go_at_call 69; refine (loose_nil _).mono ?_; rintro e w1 ⟨rfl, g1⟩; replace hk := hk.grown g1; clear g1; obtain ⟨c1, c2, c3, c4, c5⟩ := hk.cells)
    | (go_at_call 70; refine (clone_nil _).mono ?_; rintro e w1 ⟨rfl, g1⟩; replace hk := hk.grown g1; clear g1; obtain ⟨c1, c2, c3, c4, c5⟩ := hk.cells))
  go_ret
  exact ⟨rfl, hk.2.1⟩
end Dk
end Go.Proofs.Ytohphljhldcjbaa
