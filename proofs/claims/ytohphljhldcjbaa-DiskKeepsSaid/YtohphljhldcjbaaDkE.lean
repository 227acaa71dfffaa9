/- The disk's small functions: New, Dead, Up, what may be a name, a copy of the files. -/
import Derived.Test.YtohphljhldcjbaaDkC
import Derived.Test.YtohphljhldcjbaaDkD
namespace Go.Proofs.Ytohphljhldcjbaa
open Go.RowKit Go.Maps
namespace Dk

set_option maxHeartbeats 400000 in
theorem new_disk (w : World) : Calls Try.prog 21 #[] w fun e w' => e = .returned (.pointer (some ⟨w.heap.size + 2, 0, none⟩)) ∧
    w' = ((w.alloc (.map #[] 0)).alloc (.map #[] 0)).alloc (.cells #[.map (some w.heap.size), .map (some (w.heap.size + 1)), .slice none 0 0, .int .i64 0, .slice none 0 0, .bool false] 143) := by
  have hmm := @run_makeMap Try.prog
  go_enter Try.func21, Try.ntmps21
  go_wp2
  go_ret
  exact ⟨rfl, rfl⟩

/-- The disk's own block: where its files lie, its loose changes, how many were made, its plan, whether it is dead. -/
def Core (w : World) (g bs bn : Nat) (loose : Value) (made : Nat) (plan : Value) (dead : Bool) : Prop :=
  Whole w g 143 #[.map (some bs), .map (some bn), loose, .int .i64 made, plan, .bool dead]

theorem dead_nil (w : World) : Calls Try.prog 67 #[.pointer none] w fun e w' => e = .returned (.bool true) ∧ w = w' := by
  go_enter Try.func67, Try.ntmps67
  go_wp2
  go_ret
  exact ⟨rfl, rfl⟩

theorem dead_any (g : Nat) (dead : Bool) (w : World) (c5 : w.cell? ⟨g, 5, none⟩ = some (.bool dead)) : Calls Try.prog 67 #[.pointer (some ⟨g, 0, none⟩)] w fun e w' => e = .returned (.bool dead) ∧ w = w' := by
  go_enter Try.func67, Try.ntmps67
  go_wp2
  go_ret
  exact ⟨rfl, rfl⟩

theorem up_nil (w : World) : Calls Try.prog 26 #[.pointer none] w fun e w' => e = .returned (.bool false) ∧ w = w' := by
  go_enter Try.func26, Try.ntmps26
  go_wp2
  go_ret
  exact ⟨rfl, rfl⟩

theorem up_any (g : Nat) (dead : Bool) (w : World) (c5 : w.cell? ⟨g, 5, none⟩ = some (.bool dead)) (f5 : w.frozen? ⟨g, 5, none⟩ = false) :
    Calls Try.prog 26 #[.pointer (some ⟨g, 0, none⟩)] w fun e w' => e = .returned (.bool dead) ∧ w' = w.setCell ⟨g, 5, none⟩ (.bool false) := by
  go_enter Try.func26, Try.ntmps26
  go_wp2
  go_ret
  exact ⟨rfl, rfl⟩


set_option maxRecDepth 100000 in
theorem clone_files (b : Nat) (es : Array MapEntry) (clock : Nat) (w : World) (hb : w.heap[b]? = some (.map es clock)) :
    Calls Try.prog 130 #[.map (some b)] w fun e w' => e = .returned (.map (some w.heap.size)) ∧ w' = w.alloc (.map es clock) := by
  have hq := fun w => run_eql_map_nil_sl (P := Try.prog) w 140 _ _ (some b) Try.underlying140
  go_enter Try.func130, Try.ntmps130
  go_wp2
  rw [run_callFunc_extern Try.func159 (by kernel_rfl) (by kernel_rfl) (by kernel_rfl) (e := Extern.MapsClone.clone) (by kernel_rfl), run_maps_clone_sl w 140 hb]
  simp only [Result.andThen]
  rw [Oper.upon_value]
  go_wp2
  rw [run_typeAssert_map_sl _ 140 20 _ _ _ Try.underlying140]
  simp only [Result.andThen]
  rw [Oper.upon_value]
  go_wp2
  go_ret
  exact ⟨rfl, rfl⟩

theorem clone_any (b : Nat) (D : FS) (w : World) (h : Files w b D) :
    Calls Try.prog 130 #[.map (some b)] w fun e w' => e = .returned (.map (some w.heap.size)) ∧ Files w' w.heap.size D ∧ w.grownBy w' none := by
  obtain ⟨n, es, clock, hb, F, hs, hD⟩ := h
  refine (clone_files b es clock w hb).mono fun e w' ⟨he, hw⟩ => ?_
  rw [hw]
  exact ⟨he, ⟨n, es, clock, (MapKept.heap_alloc w _).1, F, hs, hD⟩, grown_alloc (grown_refl _ _) _⟩

/-- What is wrong with one name, or with the disk. -/
theorem may_dead (g : Nat) (v : Value) (w : World) (c5 : w.cell? ⟨g, 5, none⟩ = some (.bool true)) : Calls Try.prog 74 #[.pointer (some ⟨g, 0, none⟩), v] w fun e w' => e = .returned (.int .i64 7) ∧ w = w' := by
  go_enter Try.func74, Try.ntmps74
  go_wp2_with (go_at_call 67; refine (dead_any g true _ c5).mono ?_; rintro e w' ⟨rfl, rfl⟩)
  go_ret
  exact ⟨rfl, rfl⟩
theorem may_nil (v : Value) (w : World) : Calls Try.prog 74 #[.pointer none, v] w fun e w' => e = .returned (.int .i64 7) ∧ w = w' := by
  go_enter Try.func74, Try.ntmps74
  go_wp2_with (go_at_call 67; refine (dead_nil _).mono ?_; rintro e w' ⟨rfl, rfl⟩)
  go_ret
  exact ⟨rfl, rfl⟩
theorem may_any (g p n c : Nat) (l : List ByteArray) (w : World) (c5 : w.cell? ⟨g, 5, none⟩ = some (.bool false)) (hl : l.length = n) (hn : n ≤ 1000000) (hc : ∀ i (hi : i < l.length), w.cell? ⟨p, i, none⟩ = some (.string l[i]) ∧ l[i].size ≤ 9223372036854775807) :
    Calls Try.prog 74 #[.pointer (some ⟨g, 0, none⟩), .slice (some ⟨p, 0, none⟩) n c] w fun e w' => e = .returned (.int .i64 (answer l)) ∧ w = w' := by
  have H := Lib.hid (named_any p n c l w hl hn hc)
  clear hc hl
  go_enter Try.func74, Try.ntmps74
  go_wp2_with (first | (go_at_call 67; refine (dead_any g false _ c5).mono ?_; rintro e w' ⟨rfl, rfl⟩) | (go_at_call 132; refine H.out.mono ?_; rintro e w' ⟨rfl, rfl⟩))
  go_ret
  exact ⟨rfl, rfl⟩
end Dk
end Go.Proofs.Ytohphljhldcjbaa
