/- The bucket's Take, and the law's own 'second': contracts. -/
import Derived.Test.YtohphljhldcjbaaScC
namespace Go.Proofs.Ytohphljhldcjbaa
open Go.RowKit Go.Maps
namespace Sc

set_option maxHeartbeats 400000 in
theorem take_arg (g : Nat) (now n : Int) (w : World) (h : n < 0 ∨ ¬ Sec now) :
    Calls Try.prog 20 #[.pointer (some ⟨g, 0, none⟩), .int .i64 now, .int .i64 n] w fun e w' => e = .returned (.tuple #[.bool false, .int .i64 1]) ∧ w = w' := by
  by_cases h1 : n < 0
  · clear h
    go_enter Try.func20, Try.ntmps20
    go_wp2
    go_ret2
    exact ⟨rfl, rfl⟩
  · have h2 : ¬ Sec now := by rcases h with h | h; exact absurd h h1; exact h
    have H := Lib.hid h2
    clear h h2
    go_enter Try.func20, Try.ntmps20
    go_wp2_with (go_at_call 71; refine (second_no _ _ H.out).mono ?_; rintro e w' ⟨rfl, rfl⟩)
    go_ret2
    exact ⟨rfl, rfl⟩

set_option maxHeartbeats 400000 in
theorem take_back (g : Nat) (time now n : Int) (w : World) (c3 : w.cell? ⟨g, 3, none⟩ = some (.int .i64 time)) (h1 : 0 ≤ n) (s0 : 0 ≤ now) (s1 : now ≤ 1099511627776) (hb : now < time) :
    Calls Try.prog 20 #[.pointer (some ⟨g, 0, none⟩), .int .i64 now, .int .i64 n] w fun e w' => e = .returned (.tuple #[.bool false, .int .i64 201]) ∧ w = w' := by
  go_enter Try.func20, Try.ntmps20
  go_wp2_with (go_at_call 71; refine (second_yes _ _ s0 s1).mono ?_; rintro e w' ⟨rfl, rfl⟩)
  go_ret2
  exact ⟨rfl, rfl⟩

def cells (size rate tok time : Int) : Array Value := #[.int .i64 size, .int .i64 rate, .int .i64 tok, .int .i64 time]

theorem hasF_bd {size rate tok time now : Int} (B : Bk size rate tok time) (n0 : time ≤ now) (n1 : now ≤ 1099511627776) : 0 ≤ hasF size rate tok time now ∧ hasF size rate tok time now ≤ size := by
  have := B.t0
  have := B.b0
  have := (prod_bd B n0 n1).1
  unfold hasF; omega

theorem taken3 {w : World} {g : Nat} {size rate tok time : Int} (hw : Whole w g 138 (cells size rate tok time)) (k : Nat) (x now y : Int) :
    Whole ((((w.drewN k).setCell ⟨g, 2, none⟩ (.int .i64 x)).setCell ⟨g, 3, none⟩ (.int .i64 now)).setCell ⟨g, 2, none⟩ (.int .i64 y)) g 138 (cells size rate y now) ∧
    w.grownBy ((((w.drewN k).setCell ⟨g, 2, none⟩ (.int .i64 x)).setCell ⟨g, 3, none⟩ (.int .i64 now)).setCell ⟨g, 2, none⟩ (.int .i64 y)) (some g) ∧
    ((((w.drewN k).setCell ⟨g, 2, none⟩ (.int .i64 x)).setCell ⟨g, 3, none⟩ (.int .i64 now)).setCell ⟨g, 2, none⟩ (.int .i64 y)).heap.size = w.heap.size := by
  refine ⟨?_, ?_, by simp [World.setCell, World.drewN]⟩
  rotate_left
  · refine grown_set ?_ (Or.inl rfl) _; refine grown_set ?_ (Or.inl rfl) _; refine grown_set ?_ (Or.inl rfl) _; exact grown_drewN (grown_refl _ _) k
  have h := (((hw.drewN k).set_ 2 (.int .i64 x)).set_ 3 (.int .i64 now)).set_ 2 (.int .i64 y)
  simpa [cells] using h
theorem taken2 {w : World} {g : Nat} {size rate tok time : Int} (hw : Whole w g 138 (cells size rate tok time)) (k : Nat) (x now : Int) :
    Whole (((w.drewN k).setCell ⟨g, 2, none⟩ (.int .i64 x)).setCell ⟨g, 3, none⟩ (.int .i64 now)) g 138 (cells size rate x now) ∧
    w.grownBy (((w.drewN k).setCell ⟨g, 2, none⟩ (.int .i64 x)).setCell ⟨g, 3, none⟩ (.int .i64 now)) (some g) ∧
    (((w.drewN k).setCell ⟨g, 2, none⟩ (.int .i64 x)).setCell ⟨g, 3, none⟩ (.int .i64 now)).heap.size = w.heap.size := by
  refine ⟨?_, ?_, by simp [World.setCell, World.drewN]⟩
  rotate_left
  · refine grown_set ?_ (Or.inl rfl) _; refine grown_set ?_ (Or.inl rfl) _; exact grown_drewN (grown_refl _ _) k
  have h := ((hw.drewN k).set_ 2 (.int .i64 x)).set_ 3 (.int .i64 now)
  simpa [cells] using h

set_option maxHeartbeats 400000 in
theorem take_yes (g : Nat) {size rate tok time : Int} (B : Bk size rate tok time) (now n : Int) (w : World) (hw : Whole w g 138 (cells size rate tok time))
    (h1 : 0 ≤ n) (s0 : 0 ≤ now) (n0 : time ≤ now) (n1 : now ≤ 1099511627776) (hh : n ≤ hasF size rate tok time now) :
    Calls Try.prog 20 #[.pointer (some ⟨g, 0, none⟩), .int .i64 now, .int .i64 n] w fun e w' => e = .returned (.tuple #[.bool true, .int .i64 0]) ∧
      ∃ k, w' = ((((w.drewN k).setCell ⟨g, 2, none⟩ (.int .i64 (hasF size rate tok time now))).setCell ⟨g, 3, none⟩ (.int .i64 now)).setCell ⟨g, 2, none⟩ (.int .i64 (hasF size rate tok time now - n))) := by
  have c0 : w.cell? ⟨g, 0, none⟩ = some (.int .i64 size) := hw.cell 0
  have c1 : w.cell? ⟨g, 1, none⟩ = some (.int .i64 rate) := hw.cell 1
  have c2 : w.cell? ⟨g, 2, none⟩ = some (.int .i64 tok) := hw.cell 2
  have c3 : w.cell? ⟨g, 3, none⟩ = some (.int .i64 time) := hw.cell 3
  have f2 := hw.thaw 2
  have f3 := hw.thaw 3
  obtain ⟨x0, x1⟩ := hasF_bd B n0 n1
  have b1 := B.b1
  go_enter Try.func20, Try.ntmps20
  go_wp2_with (first | (go_at_call 71; refine (second_yes _ _ s0 n1).mono ?_; rintro e w' ⟨rfl, rfl⟩) | (go_at_call 16; refine (has_bk g B now _ c0 c1 c2 c3 n0 n1).mono ?_; rintro e w' ⟨rfl, k, rfl⟩))
  go_ret2
  exact ⟨rfl, k, rfl⟩

set_option maxHeartbeats 400000 in
theorem take_no (g : Nat) {size rate tok time : Int} (B : Bk size rate tok time) (now n : Int) (w : World) (hw : Whole w g 138 (cells size rate tok time))
    (h1 : 0 ≤ n) (s0 : 0 ≤ now) (n0 : time ≤ now) (n1 : now ≤ 1099511627776) (hh : hasF size rate tok time now < n) :
    Calls Try.prog 20 #[.pointer (some ⟨g, 0, none⟩), .int .i64 now, .int .i64 n] w fun e w' => e = .returned (.tuple #[.bool false, .int .i64 0]) ∧
      ∃ k, w' = (((w.drewN k).setCell ⟨g, 2, none⟩ (.int .i64 (hasF size rate tok time now))).setCell ⟨g, 3, none⟩ (.int .i64 now)) := by
  have c0 : w.cell? ⟨g, 0, none⟩ = some (.int .i64 size) := hw.cell 0
  have c1 : w.cell? ⟨g, 1, none⟩ = some (.int .i64 rate) := hw.cell 1
  have c2 : w.cell? ⟨g, 2, none⟩ = some (.int .i64 tok) := hw.cell 2
  have c3 : w.cell? ⟨g, 3, none⟩ = some (.int .i64 time) := hw.cell 3
  have f2 := hw.thaw 2
  have f3 := hw.thaw 3
  obtain ⟨x0, x1⟩ := hasF_bd B n0 n1
  have b1 := B.b1
  go_enter Try.func20, Try.ntmps20
  go_wp2_with (first | (go_at_call 71; refine (second_yes _ _ s0 n1).mono ?_; rintro e w' ⟨rfl, rfl⟩) | (go_at_call 16; refine (has_bk g B now _ c0 c1 c2 c3 n0 n1).mono ?_; rintro e w' ⟨rfl, k, rfl⟩))
  go_ret2
  exact ⟨rfl, k, rfl⟩

theorem bk_yes {size rate tok time : Int} (B : Bk size rate tok time) {now n : Int} (h1 : 0 ≤ n) (s0 : 0 ≤ now) (n0 : time ≤ now) (n1 : now ≤ 1099511627776) (hh : n ≤ hasF size rate tok time now) : Bk size rate (hasF size rate tok time now - n) now := by
  obtain ⟨x0, x1⟩ := hasF_bd B n0 n1
  exact ⟨B.b0, B.b1, B.r0, B.r1, by omega, by omega, s0, n1⟩
theorem bk_no {size rate tok time : Int} (B : Bk size rate tok time) {now : Int} (s0 : 0 ≤ now) (n0 : time ≤ now) (n1 : now ≤ 1099511627776) : Bk size rate (hasF size rate tok time now) now := by
  obtain ⟨x0, x1⟩ := hasF_bd B n0 n1
  exact ⟨B.b0, B.b1, B.r0, B.r1, by omega, by omega, s0, n1⟩

set_option maxHeartbeats 400000 in
theorem lsecond_yes (n : Int) (w : World) (h0 : 0 ≤ n) (h1 : n ≤ 1099511627776) : Calls Try.prog 72 #[.int .i64 n] w fun e w' => e = .returned (.bool true) ∧ w = w' := by
  go_enter Try.func72, Try.ntmps72
  go_wp2
  go_ret
  exact ⟨rfl, rfl⟩

set_option maxHeartbeats 400000 in
theorem lsecond_no (n : Int) (w : World) (h : ¬ Sec n) : Calls Try.prog 72 #[.int .i64 n] w fun e w' => e = .returned (.bool false) ∧ w = w' := by
  unfold Sec at h
  by_cases h0 : 0 ≤ n
  · have h1 : 1099511627776 < n := by omega
    clear h
    go_enter Try.func72, Try.ntmps72
    go_wp2
    go_ret
    exact ⟨ret_bool (decide_eq_false (by omega)), rfl⟩
  · have h1 : n < 0 := by omega
    clear h h0
    go_enter Try.func72, Try.ntmps72
    go_wp2
    go_ret
    exact ⟨rfl, rfl⟩
end Sc
end Go.Proofs.Ytohphljhldcjbaa
