/- Score's awake: it returns true. -/
import Derived.Test.YtohphljhldcjbaaScD
namespace Go.Proofs.Ytohphljhldcjbaa
open Go.RowKit Go.Maps
namespace Sc

theorem look_empty (bp : Nat) (w : World) (hown : w.ownsMap (H := Unit) Try.prog 3 (plainElem Try.prog 3) bp 0 (.map [])) :
    (Instr.lookup 164 (.map (some bp)) (.int .i64 1) false).run Try.prog w = .ok (.int .i64 0) w := by
  have hkey := keyOf_int_mk Try.underlying3 (a := 1) (q := .i64) (by decide)
  obtain ⟨c, hrun, hat, _⟩ := hown.lookup_int law3 Try.underlying164 Try.underlying3 (zero3 _) hkey
  have h : (DataW.map (H := Unit) []).atKey (.int .i64 1) (.lit (.int .i64 0)) = .lit (.int .i64 0) := rfl
  rw [h] at hat
  cases hat
  exact hrun

theorem look_one (bp : Nat) (w : World) (hown : w.ownsMap (H := Unit) Try.prog 3 (plainElem Try.prog 3) bp 1 ((DataW.map []).put (.int .i64 1) (.lit (.int .i64 20)))) :
    (Instr.lookup 164 (.map (some bp)) (.int .i64 1) false).run Try.prog w = .ok (.int .i64 20) w := by
  have hkey := keyOf_int_mk Try.underlying3 (a := 1) (q := .i64) (by decide)
  obtain ⟨c, hrun, hat, _⟩ := hown.lookup_int law3 Try.underlying164 Try.underlying3 (zero3 _) hkey
  have h : ((DataW.map (H := Unit) []).put (.int .i64 1) (.lit (.int .i64 20))).atKey (.int .i64 1) (.lit (.int .i64 0)) = .lit (.int .i64 20) := rfl
  rw [h] at hat
  cases hat
  exact hrun

set_option maxRecDepth 100000 in
/-- Add at a peer that has nothing, of an empty map: the fault 1. -/
theorem add_first (gs bp : Nat) (w : World) (hs : Whole w gs 167 #[.map (some bp), .map (some (bp + 1))]) (hown : w.ownsMap (H := Unit) Try.prog 3 (plainElem Try.prog 3) bp 0 (.map [])) (hne : gs ≠ bp) :
    Calls Try.prog 48 #[.pointer (some ⟨gs, 0, none⟩), .int .i64 1, .int .i64 1] w fun e w' => e = .returned (.tuple #[.int .i64 20, .bool false, .int .i64 0]) ∧ w.grownBy w' (some bp) := by
  have hkey := keyOf_int_mk Try.underlying3 (a := 1) (q := .i64) (by decide)
  go_enter Try.func48, Try.ntmps48
  go_wp2_with (go_at_call 38; refine (points_one _).mono ?_; rintro e w' ⟨rfl, rfl⟩)
  refine wp_region_still_tail 14 (by kernel_rfl) (by kernel_rfl) ?_
  have hs2 := hs.drew
  have hown2 := hown.drew
  have hg2 := grown_drew (grown_refl w (some bp))
  have ew : ({ heap := w.heap, tape := w.tape, drawn := w.drawn + 1, os := w.os, output := w.output } : World) = w.drew := rfl
  rw [ew]
  clear ew
  generalize w.drew = w2 at hs2 hown2 hg2 ⊢
  have c0 : w2.cell? ⟨gs, 0, none⟩ = some (.map (some bp)) := hs2.cell 0
  have hrun := look_empty bp w2 hown2
  simp only [List.take_succ_cons, List.take_zero, List.drop_succ_cons, List.drop_zero]
  repeat still_step
  try refine wpStill_nil ?_
  clear c0
  go_wp2_with (at_mapUpdate; refine wpList_mapUpdate_own _ rfl _ _ _ 164 rfl 3 3 law3 Try.underlying164 _ bp 0 _ rfl hown2 (by unfold maxLen; omega) _ _ _ rfl rfl hkey _ [] (plainElem_int Try.underlying3 (q := .i64) (a := 20) (by decide)) ?_; intro w3 hown3 hgrow3)
  have c0 : w3.cell? ⟨gs, 0, none⟩ = some (.map (some bp)) := (hs2.grown hgrow3 (by simpa using hne)).cell 0
  have hrun3 : ∀ n, (Instr.lookup 164 (.map (some bp)) (.int .i64 1) false).run Try.prog (w3.drewN n) = .ok (.int .i64 20) (w3.drewN n) := fun n => look_one bp (w3.drewN n) hown3
  have hg3 := hg2.trans hgrow3
  go_quiet (fail)
  go_wp2
  go_ret3
  exact ⟨rfl, grown_drewN hg3 _⟩

theorem grown_new {w w' w'' : World} {bp : Nat} (h1 : w.grownBy w' none) (h2 : w'.grownBy w'' (some bp)) (hb : w.heap.size ≤ bp) : w.grownBy w'' none :=
  ⟨h2.os.trans h1.os, h2.tape.trans h1.tape, h2.output.trans h1.output, Nat.le_trans h1.size h2.size, fun k hk hne =>
    (h2.block k (Nat.lt_of_lt_of_le hk h1.size) (fun e => by injection e with e; omega)).trans (h1.block k hk hne)⟩

theorem awake_made (w : World) : Whole (((w.alloc (.map #[] 0)).alloc (.map #[] 0)).alloc (.cells #[.map (some w.heap.size), .map (some (w.heap.size + 1))] 167)) (w.heap.size + 2) 167 #[.map (some w.heap.size), .map (some (w.heap.size + 1))] ∧
    (((w.alloc (.map #[] 0)).alloc (.map #[] 0)).alloc (.cells #[.map (some w.heap.size), .map (some (w.heap.size + 1))] 167)).ownsMap (H := Unit) Try.prog 3 (plainElem Try.prog 3) w.heap.size 0 (.map []) ∧
    w.grownBy (((w.alloc (.map #[] 0)).alloc (.map #[] 0)).alloc (.cells #[.map (some w.heap.size), .map (some (w.heap.size + 1))] 167)) none :=
  ⟨Whole.fresh_at _ _ _ (by simp), ((World.ownsMap_made w Try.prog 3 _).alloc _).alloc _, grown_alloc (grown_alloc (grown_alloc (grown_refl _ _) _) _) _⟩

theorem bk5 : Bk 5 1 5 0 := ⟨by omega, by omega, by omega, by omega, by omega, by omega, by omega, by omega⟩
theorem has5 : hasF 5 1 5 0 0 = 5 := by decide

theorem awake_ok (w : World) : Calls Try.prog 14 #[] w fun e w' => e = .returned (.bool true) ∧ w.grownBy w' none := by
  obtain ⟨q1, q2, q3⟩ := awake_made w
  go_enter Try.func14, Try.ntmps14
  go_wp2_with fail
  refine (new_score w).mono ?_
  rintro e w1 ⟨rfl, h1⟩
  rw [← h1] at q1 q2 q3
  clear h1
  go_wp2_with fail
  refine (add_first _ _ w1 q1 q2 (by omega)).mono ?_
  rintro e w2 ⟨rfl, h2⟩
  have g2 := grown_new q3 h2 (Nat.le_refl _)
  clear q1 q2 q3 h2
  go_wp2_with fail
  refine (make_yes 5 1 0 w2 (by omega) (by omega) (by omega) (by omega) (by omega) (by omega)).mono ?_
  rintro e w3 ⟨rfl, h3⟩
  have hw3 : Whole w3 w2.heap.size 138 (cells 5 1 5 0) := by rw [h3]; exact Whole.fresh _ _ _
  have g3 : w.grownBy w3 none := by rw [h3]; exact grown_alloc g2 _
  have hs : w.heap.size ≤ w2.heap.size := g2.size
  clear h3 g2
  go_wp2_with fail
  refine (take_yes w2.heap.size bk5 0 5 w3 hw3 (by omega) (by omega) (by omega) (by omega) (by rw [has5]; omega)).mono ?_
  rintro e w4 ⟨rfl, k, h4⟩
  have g4 : w.grownBy w4 none := grown_new g3 (by rw [h4]; exact (taken3 hw3 k _ _ _).2.1) hs
  clear h4 hw3 hs g3
  go_wp2_with (go_at_call 38; refine (points_two _).mono ?_; rintro e w' ⟨rfl, rfl⟩)
  go_ret
  exact ⟨rfl, g4⟩
end Sc
end Go.Proofs.Ytohphljhldcjbaa
