/- RelayWays: the law's walk. -/
import Derived.Test.YtohphljhldcjbaaGreatRwM
import Derived.Test.YtohphljhldcjbaaGreatB
namespace Go.Proofs.YtohphljhldcjbaaGreat
set_option linter.unusedVariables false
set_option linter.unusedSimpArgs false
open Go.RowKit Go.Maps
namespace Re
set_option maxHeartbeats 4000000 in
set_option maxRecDepth 100000 in
theorem tf_i (behind : Int) (h1 : 0 ≤ behind) (h2 : behind ≤ 7) (w : World) : Calls Tryz.prog 3 #[.bool true, .bool false, .int .i64 behind] w fun e w' => e = .returned (.bool true) ∧ Below w.heap.size w w' := by
  have hk : B0 w w := Below.refl _ w
  have e1 : wayF true true false behind = 2 := by simp [wayF, h1, h2]
  have e2 : wayF true false false behind = 2 := by simp [wayF, h1, h2]
  go_enter Tryz.func3, Tryz.ntmps3
  go_wp2_with (first
    | (go_at_call 4; refine (due_nil _ _ _).mono ?_; rintro e w1 ⟨rfl, rfl⟩)
    | (go_at_call 6; refine (id_one _).mono ?_; rintro e w1 ⟨rfl, g1⟩; replace hk := hk.grown g1; clear g1)
    | (go_at_call 5; refine (forget_nil _ _).mono ?_; rintro e w1 ⟨rfl, g1⟩; replace hk := hk.grown g1; clear g1)
    | (go_at_call 7; refine (next_nil _ _).mono ?_; rintro e w1 ⟨rfl, rfl⟩)
    | (go_at_call 8; refine (Ev.awake_ok _).mono ?_; rintro e w1 ⟨rfl, g1⟩; replace hk := hk.below g1; clear g1)
    | (go_at_call 9; refine (way_any _ _ _ _ _).mono ?_; simp only [e1, e2]; rintro e w1 ⟨rfl, rfl⟩)
    | (go_at_call 10; refine (join_nil _ _ _ _).mono ?_; rintro e w1 ⟨rfl, rfl⟩)
    | (go_at_call 11; refine (part_nil _ _).mono ?_; rintro e w1 ⟨rfl, rfl⟩)
    | (go_at_call 12; refine (heard_nil _ _ _ _).mono ?_; rintro e w1 ⟨rfl, g1⟩; replace hk := hk.grown g1; clear g1)
    | (go_at_call 13; refine (came_nil _ _).mono ?_; rintro e w1 ⟨rfl, g1⟩; replace hk := hk.grown g1; clear g1)
    | (go_at_call 14; refine (asks_nil _ _).mono ?_; rintro e w1 ⟨rfl, rfl⟩)
    | (go_at_call 15; refine (tell_nil _ _ _).mono ?_; rintro e w1 ⟨rfl, g1⟩; replace hk := hk.grown g1; clear g1)
    | (go_at_call 16; refine (know_nil _ _ _).mono ?_; rintro e w1 ⟨rfl, g1⟩; replace hk := hk.grown g1; clear g1)
    | (go_at_call 17; refine (knows_nil _ _ _).mono ?_; rintro e w1 ⟨rfl, g1⟩; replace hk := hk.grown g1; clear g1)
    | (go_at_call 18; refine (waits_nil _ _).mono ?_; rintro e w1 ⟨rfl, rfl⟩)
    | (go_at_call 19; refine (asked_nil _ _).mono ?_; rintro e w1 ⟨rfl, rfl⟩)
    | (go_at_call 20; refine (wanted_nil _).mono ?_; rintro e w1 ⟨rfl, rfl⟩)
    | (go_at_call 21; refine (peers_nil _).mono ?_; rintro e w1 ⟨rfl, rfl⟩)
    | (go_at_call 22; refine (cost_nil _ _).mono ?_; rintro e w1 ⟨rfl, rfl⟩)
    | (go_at_call 23; refine (clone_nil _).mono ?_; rintro e w1 ⟨rfl, rfl⟩))
  go_ret
  exact ⟨rfl, hk⟩
set_option maxHeartbeats 4000000 in
set_option maxRecDepth 100000 in
theorem tf_n (behind : Int) (h1 : ¬ 0 ≤ behind) (w : World) : Calls Tryz.prog 3 #[.bool true, .bool false, .int .i64 behind] w fun e w' => e = .returned (.bool true) ∧ Below w.heap.size w w' := by
  have hk : B0 w w := Below.refl _ w
  have h0 : ¬ behind = 0 := by omega
  have e1 : wayF true true false behind = 1 := by simp [wayF, h0, h1]
  have e2 : wayF true false false behind = 1 := by simp [wayF, h0, h1]
  go_enter Tryz.func3, Tryz.ntmps3
  go_wp2_with (first
    | (go_at_call 4; refine (due_nil _ _ _).mono ?_; rintro e w1 ⟨rfl, rfl⟩)
    | (go_at_call 6; refine (id_one _).mono ?_; rintro e w1 ⟨rfl, g1⟩; replace hk := hk.grown g1; clear g1)
    | (go_at_call 5; refine (forget_nil _ _).mono ?_; rintro e w1 ⟨rfl, g1⟩; replace hk := hk.grown g1; clear g1)
    | (go_at_call 7; refine (next_nil _ _).mono ?_; rintro e w1 ⟨rfl, rfl⟩)
    | (go_at_call 8; refine (Ev.awake_ok _).mono ?_; rintro e w1 ⟨rfl, g1⟩; replace hk := hk.below g1; clear g1)
    | (go_at_call 9; refine (way_any _ _ _ _ _).mono ?_; simp only [e1, e2]; rintro e w1 ⟨rfl, rfl⟩)
    | (go_at_call 10; refine (join_nil _ _ _ _).mono ?_; rintro e w1 ⟨rfl, rfl⟩)
    | (go_at_call 11; refine (part_nil _ _).mono ?_; rintro e w1 ⟨rfl, rfl⟩)
    | (go_at_call 12; refine (heard_nil _ _ _ _).mono ?_; rintro e w1 ⟨rfl, g1⟩; replace hk := hk.grown g1; clear g1)
    | (go_at_call 13; refine (came_nil _ _).mono ?_; rintro e w1 ⟨rfl, g1⟩; replace hk := hk.grown g1; clear g1)
    | (go_at_call 14; refine (asks_nil _ _).mono ?_; rintro e w1 ⟨rfl, rfl⟩)
    | (go_at_call 15; refine (tell_nil _ _ _).mono ?_; rintro e w1 ⟨rfl, g1⟩; replace hk := hk.grown g1; clear g1)
    | (go_at_call 16; refine (know_nil _ _ _).mono ?_; rintro e w1 ⟨rfl, g1⟩; replace hk := hk.grown g1; clear g1)
    | (go_at_call 17; refine (knows_nil _ _ _).mono ?_; rintro e w1 ⟨rfl, g1⟩; replace hk := hk.grown g1; clear g1)
    | (go_at_call 18; refine (waits_nil _ _).mono ?_; rintro e w1 ⟨rfl, rfl⟩)
    | (go_at_call 19; refine (asked_nil _ _).mono ?_; rintro e w1 ⟨rfl, rfl⟩)
    | (go_at_call 20; refine (wanted_nil _).mono ?_; rintro e w1 ⟨rfl, rfl⟩)
    | (go_at_call 21; refine (peers_nil _).mono ?_; rintro e w1 ⟨rfl, rfl⟩)
    | (go_at_call 22; refine (cost_nil _ _).mono ?_; rintro e w1 ⟨rfl, rfl⟩)
    | (go_at_call 23; refine (clone_nil _).mono ?_; rintro e w1 ⟨rfl, rfl⟩))
  go_ret
  exact ⟨rfl, hk⟩
set_option maxHeartbeats 4000000 in
set_option maxRecDepth 100000 in
theorem tf_p (behind : Int) (h1 : 0 ≤ behind) (h2 : ¬ behind ≤ 7) (w : World) : Calls Tryz.prog 3 #[.bool true, .bool false, .int .i64 behind] w fun e w' => e = .returned (.bool true) ∧ Below w.heap.size w w' := by
  have hk : B0 w w := Below.refl _ w
  have h0 : ¬ behind = 0 := by omega
  have e1 : wayF true true false behind = 1 := by simp [wayF, h0, h1, h2]
  have e2 : wayF true false false behind = 1 := by simp [wayF, h0, h1, h2]
  go_enter Tryz.func3, Tryz.ntmps3
  go_wp2_with (first
    | (go_at_call 4; refine (due_nil _ _ _).mono ?_; rintro e w1 ⟨rfl, rfl⟩)
    | (go_at_call 6; refine (id_one _).mono ?_; rintro e w1 ⟨rfl, g1⟩; replace hk := hk.grown g1; clear g1)
    | (go_at_call 5; refine (forget_nil _ _).mono ?_; rintro e w1 ⟨rfl, g1⟩; replace hk := hk.grown g1; clear g1)
    | (go_at_call 7; refine (next_nil _ _).mono ?_; rintro e w1 ⟨rfl, rfl⟩)
    | (go_at_call 8; refine (Ev.awake_ok _).mono ?_; rintro e w1 ⟨rfl, g1⟩; replace hk := hk.below g1; clear g1)
    | (go_at_call 9; refine (way_any _ _ _ _ _).mono ?_; simp only [e1, e2]; rintro e w1 ⟨rfl, rfl⟩)
    | (go_at_call 10; refine (join_nil _ _ _ _).mono ?_; rintro e w1 ⟨rfl, rfl⟩)
    | (go_at_call 11; refine (part_nil _ _).mono ?_; rintro e w1 ⟨rfl, rfl⟩)
    | (go_at_call 12; refine (heard_nil _ _ _ _).mono ?_; rintro e w1 ⟨rfl, g1⟩; replace hk := hk.grown g1; clear g1)
    | (go_at_call 13; refine (came_nil _ _).mono ?_; rintro e w1 ⟨rfl, g1⟩; replace hk := hk.grown g1; clear g1)
    | (go_at_call 14; refine (asks_nil _ _).mono ?_; rintro e w1 ⟨rfl, rfl⟩)
    | (go_at_call 15; refine (tell_nil _ _ _).mono ?_; rintro e w1 ⟨rfl, g1⟩; replace hk := hk.grown g1; clear g1)
    | (go_at_call 16; refine (know_nil _ _ _).mono ?_; rintro e w1 ⟨rfl, g1⟩; replace hk := hk.grown g1; clear g1)
    | (go_at_call 17; refine (knows_nil _ _ _).mono ?_; rintro e w1 ⟨rfl, g1⟩; replace hk := hk.grown g1; clear g1)
    | (go_at_call 18; refine (waits_nil _ _).mono ?_; rintro e w1 ⟨rfl, rfl⟩)
    | (go_at_call 19; refine (asked_nil _ _).mono ?_; rintro e w1 ⟨rfl, rfl⟩)
    | (go_at_call 20; refine (wanted_nil _).mono ?_; rintro e w1 ⟨rfl, rfl⟩)
    | (go_at_call 21; refine (peers_nil _).mono ?_; rintro e w1 ⟨rfl, rfl⟩)
    | (go_at_call 22; refine (cost_nil _ _).mono ?_; rintro e w1 ⟨rfl, rfl⟩)
    | (go_at_call 23; refine (clone_nil _).mono ?_; rintro e w1 ⟨rfl, rfl⟩))
  go_ret
  exact ⟨rfl, hk⟩
end Re
end Go.Proofs.YtohphljhldcjbaaGreat
