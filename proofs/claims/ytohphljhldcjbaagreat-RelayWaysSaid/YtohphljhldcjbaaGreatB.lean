/- A nil relay's methods that take an id; Way. -/
import Derived.Test.YtohphljhldcjbaaGreatA
import Derived.Deep.WholeRow
import Derived.Deep.MidRow
namespace Go.Proofs.YtohphljhldcjbaaGreat
set_option linter.unusedVariables false
set_option linter.unusedSimpArgs false
open Go.RowKit Go.Maps
namespace Re

theorem info30 : (Tryz.prog.info? 30).map (·.size) = some 32 := by kernel_rfl
/-- A whole array is stored into the block that was made last. -/
theorem store_new {ops : Array Oper} {rest : List Oper} {op : Oper} {a : Act} {w : World} {Q : Exit → Act → World → Prop} (hgd : op.guard = none) (x y : Operand) (ho : op.op = .store 30 x y) (c c' : Array Value)
    (hx : a.eval x = .pointer (some ⟨w.heap.size, 0, none⟩)) (hy : a.eval y = .agg c') (hc : c.size = 32) (hc' : c'.size = 32) (h1 : c'.all (·.oneCell') = true)
    (h : wpList Tryz.prog ops Q rest (a.put op.dst undef) (w.alloc (.cells c' 30))) : wpList Tryz.prog ops Q (op :: rest) a (w.alloc (.cells c 30)) := by
  refine wpList_plain hgd fun _ hK => ?_
  unfold Oper.wp execOp
  simp only [ho, hx, hy, Instr.storeAt, Instr.sureAddr, Sem.run_bind, Sem.run_pure, Result.andThen_ok, run_storeVar_new w 30 c c' (by rw [info30, hc']) (by rw [hc, hc']) h1]
  exact hK _ _ h

def hash1 : Array Value := #[.int .u8 1, .int .u8 0, .int .u8 5, .int .u8 0, .int .u8 0, .int .u8 0, .int .u8 0, .int .u8 0, .int .u8 0, .int .u8 0, .int .u8 0, .int .u8 0, .int .u8 0, .int .u8 0, .int .u8 0, .int .u8 0,
  .int .u8 0, .int .u8 0, .int .u8 0, .int .u8 0, .int .u8 0, .int .u8 0, .int .u8 0, .int .u8 0, .int .u8 0, .int .u8 0, .int .u8 0, .int .u8 0, .int .u8 0, .int .u8 0, .int .u8 0, .int .u8 0]

set_option maxHeartbeats 1000000
set_option maxRecDepth 100000
theorem id_one (w : World) : Calls Tryz.prog 6 #[.int .i64 1] w fun e w' => e = .returned (.agg hash1) ∧ w.grownBy w' none := by
  go_enter Tryz.func6, Tryz.ntmps6
  go_wp2_with (refine store_new rfl (.tmp 2) (.tmp 8) rfl _ hash1 rfl rfl rfl rfl (by decide +kernel) ?_)
  refine bodyPost_ret (results_cell_row rfl _ _ w.heap.size 30 hash1 (0, 0) _ rfl (heap_alloc_last w _) Tryz.underlying30 rfl info30) rfl ⟨rfl, grown_alloc (grown_refl _ _) _⟩

/-- Which value of an id comes in does not matter: a nil relay. -/
theorem came_nil (v : Array Value) (w : World) : Calls Tryz.prog 13 #[nilR, .agg v] w fun e w' => e = .returned (.bool false) ∧ w.grownBy w' none := by
  go_enter Tryz.func13, Tryz.ntmps13
  go_wp2_with fail
  go_quiet (fail)
  go_wp2
  go_ret
  exact ⟨rfl, grown_drewN (grown_alloc (grown_refl _ _) _) _⟩
theorem heard_nil (v : Array Value) (n now : Int) (w : World) : Calls Tryz.prog 12 #[nilR, .int .i64 n, .agg v, .int .i64 now] w fun e w' => e = .returned (.int .i64 1) ∧ w.grownBy w' none := by
  go_enter Tryz.func12, Tryz.ntmps12
  go_wp2_with fail
  go_ret
  exact ⟨rfl, grown_alloc (grown_refl _ _) _⟩
theorem tell_nil (v : Array Value) (n : Int) (w : World) : Calls Tryz.prog 15 #[nilR, .agg v, .int .i64 n] w fun e w' => e = .returned (.int .i64 0) ∧ w.grownBy w' none := by
  go_enter Tryz.func15, Tryz.ntmps15
  go_wp2_with fail
  go_ret
  exact ⟨rfl, grown_alloc (grown_refl _ _) _⟩
theorem forget_nil (v : Array Value) (w : World) : Calls Tryz.prog 5 #[nilR, .agg v] w fun e w' => e = .returned (.tuple #[]) ∧ w.grownBy w' none := by
  go_enter Tryz.func5, Tryz.ntmps5
  go_wp2_with fail
  refine bodyPost_ret (results_none rfl _ _ _) rfl ?_
  exact ⟨rfl, grown_alloc (grown_refl _ _) _⟩
theorem know_nil (v : Array Value) (n : Int) (w : World) : Calls Tryz.prog 16 #[nilR, .int .i64 n, .agg v] w fun e w' => e = .returned (.bool false) ∧ w.grownBy w' none := by
  go_enter Tryz.func16, Tryz.ntmps16
  go_wp2_with (go_at_call 28; refine (of_nil _ _).mono ?_; rintro e w' ⟨rfl, rfl⟩)
  go_quiet (fail)
  go_wp2
  go_ret
  exact ⟨rfl, grown_drewN (grown_alloc (grown_refl _ _) _) _⟩
theorem knows_nil (v : Array Value) (n : Int) (w : World) : Calls Tryz.prog 17 #[nilR, .int .i64 n, .agg v] w fun e w' => e = .returned (.bool false) ∧ w.grownBy w' none := by
  go_enter Tryz.func17, Tryz.ntmps17
  go_wp2_with (go_at_call 28; refine (of_nil _ _).mono ?_; rintro e w' ⟨rfl, rfl⟩)
  go_quiet (fail)
  go_wp2
  go_ret
  exact ⟨rfl, grown_drewN (grown_alloc (grown_refl _ _) _) _⟩
def wayF (headers compact high : Bool) (behind : Int) : Int := if compact = true ∧ high = true ∧ behind = 0 then 3 else if headers = true ∧ 0 ≤ behind ∧ behind ≤ 7 then 2 else 1
theorem way_any (headers compact high : Bool) (behind : Int) (w : World) : Calls Tryz.prog 9 #[.bool headers, .bool compact, .bool high, .int .i64 behind] w fun e w' => e = .returned (.int .i64 (wayF headers compact high behind)) ∧ w = w' := by
  unfold wayF
  by_cases h0 : behind = 0
  · subst h0
    go_enter Tryz.func9, Tryz.ntmps9
    cases headers <;> cases compact <;> cases high
    all_goals go_wp2
    all_goals go_ret
    all_goals exact ⟨rfl, rfl⟩
  · have e0 : (behind == 0) = false := beq_eq_false_iff_ne.2 h0
    by_cases h1 : 0 ≤ behind
    · by_cases h2 : behind ≤ 7
      · have e1 : (if compact = true ∧ high = true ∧ behind = 0 then (3 : Int) else if headers = true ∧ 0 ≤ behind ∧ behind ≤ 7 then 2 else 1) = if headers = true then 2 else 1 := by simp [h0, h1, h2]
        rw [e1]
        go_enter Tryz.func9, Tryz.ntmps9
        cases headers <;> cases compact <;> cases high
        all_goals go_wp2
        all_goals go_ret
        all_goals exact ⟨rfl, rfl⟩
      · have e1 : (if compact = true ∧ high = true ∧ behind = 0 then (3 : Int) else if headers = true ∧ 0 ≤ behind ∧ behind ≤ 7 then 2 else 1) = 1 := by simp [h0, h2]
        rw [e1]
        go_enter Tryz.func9, Tryz.ntmps9
        cases headers <;> cases compact <;> cases high
        all_goals go_wp2
        all_goals go_ret
        all_goals exact ⟨rfl, rfl⟩
    · have e1 : (if compact = true ∧ high = true ∧ behind = 0 then (3 : Int) else if headers = true ∧ 0 ≤ behind ∧ behind ≤ 7 then 2 else 1) = 1 := by simp [h0, h1]
      rw [e1]
      go_enter Tryz.func9, Tryz.ntmps9
      cases headers <;> cases compact <;> cases high
      all_goals go_wp2
      all_goals go_ret
      all_goals exact ⟨rfl, rfl⟩
end Re
end Go.Proofs.YtohphljhldcjbaaGreat
