/- Nil disks: what each call answers. -/
import Derived.Test.YtohphljhldcjbaaDkE
namespace Go.Proofs.Ytohphljhldcjbaa
set_option linter.unusedVariables false
set_option linter.unusedSimpArgs false
open Go.RowKit Go.Maps
namespace Dk

theorem there_nil (n : ByteArray) (w : World) : Calls Try.prog 78 #[.pointer none, .string n] w fun e w' => e = .returned (.tuple #[.string .empty, .int .i64 7]) ∧ w.grownBy w' none := by
  go_enter Try.func78, Try.ntmps78
  go_wp2_with (go_at_call 74; refine (may_nil _ _).mono ?_; rintro e w' ⟨rfl, rfl⟩)
  go_ret2
  exact ⟨rfl, by (repeat (first | (with_reducible exact grown_refl _ _) | (with_reducible assumption) | (with_reducible apply grown_drewN) | (with_reducible apply grown_drew) | (with_reducible apply grown_alloc) | ((with_reducible refine grown_set ?_ (Or.inr ?hb) _); (case hb => (simp; try omega)))))⟩
theorem write_nil (n s : ByteArray) (a : Int) (w : World) : Calls Try.prog 28 #[.pointer none, .string n, .int .i64 a, .string s] w fun e w' => e = .returned (.int .i64 7) ∧ w.grownBy w' none := by
  go_enter Try.func28, Try.ntmps28
  go_wp2_with (go_at_call 74; refine (may_nil _ _).mono ?_; rintro e w' ⟨rfl, rfl⟩)
  go_ret
  exact ⟨rfl, by (repeat (first | (with_reducible exact grown_refl _ _) | (with_reducible assumption) | (with_reducible apply grown_drewN) | (with_reducible apply grown_drew) | (with_reducible apply grown_alloc) | ((with_reducible refine grown_set ?_ (Or.inr ?hb) _); (case hb => (simp; try omega)))))⟩
theorem append_nil (n s : ByteArray) (w : World) : Calls Try.prog 23 #[.pointer none, .string n, .string s] w fun e w' => e = .returned (.int .i64 7) ∧ w.grownBy w' none := by
  go_enter Try.func23, Try.ntmps23
  go_wp2_with (go_at_call 74; refine (may_nil _ _).mono ?_; rintro e w' ⟨rfl, rfl⟩)
  go_ret
  exact ⟨rfl, by (repeat (first | (with_reducible exact grown_refl _ _) | (with_reducible assumption) | (with_reducible apply grown_drewN) | (with_reducible apply grown_drew) | (with_reducible apply grown_alloc) | ((with_reducible refine grown_set ?_ (Or.inr ?hb) _); (case hb => (simp; try omega)))))⟩
theorem move_nil (n s : ByteArray) (w : World) : Calls Try.prog 64 #[.pointer none, .string n, .string s] w fun e w' => e = .returned (.int .i64 7) ∧ w.grownBy w' none := by
  go_enter Try.func64, Try.ntmps64
  go_wp2_with (go_at_call 74; refine (may_nil _ _).mono ?_; rintro e w' ⟨rfl, rfl⟩)
  go_ret
  exact ⟨rfl, by (repeat (first | (with_reducible exact grown_refl _ _) | (with_reducible assumption) | (with_reducible apply grown_drewN) | (with_reducible apply grown_drew) | (with_reducible apply grown_alloc) | ((with_reducible refine grown_set ?_ (Or.inr ?hb) _); (case hb => (simp; try omega)))))⟩
theorem cut_nil (n : ByteArray) (a : Int) (w : World) : Calls Try.prog 63 #[.pointer none, .string n, .int .i64 a] w fun e w' => e = .returned (.int .i64 7) ∧ w.grownBy w' none := by
  go_enter Try.func63, Try.ntmps63
  go_wp2_with (go_at_call 78; refine (there_nil _ _).mono ?_; rintro e w' ⟨rfl, hx⟩)
  go_ret
  exact ⟨rfl, by (repeat (first | (with_reducible exact grown_refl _ _) | (with_reducible assumption) | (with_reducible apply grown_drewN) | (with_reducible apply grown_drew) | (with_reducible apply grown_alloc) | ((with_reducible refine grown_set ?_ (Or.inr ?hb) _); (case hb => (simp; try omega)))))⟩
theorem remove_nil (n : ByteArray) (w : World) : Calls Try.prog 29 #[.pointer none, .string n] w fun e w' => e = .returned (.int .i64 7) ∧ w.grownBy w' none := by
  go_enter Try.func29, Try.ntmps29
  go_wp2_with (go_at_call 78; refine (there_nil _ _).mono ?_; rintro e w' ⟨rfl, hx⟩)
  go_ret
  exact ⟨rfl, by (repeat (first | (with_reducible exact grown_refl _ _) | (with_reducible assumption) | (with_reducible apply grown_drewN) | (with_reducible apply grown_drew) | (with_reducible apply grown_alloc) | ((with_reducible refine grown_set ?_ (Or.inr ?hb) _); (case hb => (simp; try omega)))))⟩
theorem read_nil (n : ByteArray) (w : World) : Calls Try.prog 27 #[.pointer none, .string n] w fun e w' => e = .returned (.tuple #[.string .empty, .int .i64 7]) ∧ w.grownBy w' none := by
  go_enter Try.func27, Try.ntmps27
  go_wp2_with (go_at_call 78; refine (there_nil _ _).mono ?_; rintro e w' ⟨rfl, hx⟩)
  go_ret2
  exact ⟨rfl, by (repeat (first | (with_reducible exact grown_refl _ _) | (with_reducible assumption) | (with_reducible apply grown_drewN) | (with_reducible apply grown_drew) | (with_reducible apply grown_alloc) | ((with_reducible refine grown_set ?_ (Or.inr ?hb) _); (case hb => (simp; try omega)))))⟩
theorem part_nil (n : ByteArray) (a b : Int) (w : World) : Calls Try.prog 61 #[.pointer none, .string n, .int .i64 a, .int .i64 b] w fun e w' => e = .returned (.tuple #[.string .empty, .int .i64 7]) ∧ w.grownBy w' none := by
  go_enter Try.func61, Try.ntmps61
  go_wp2_with (go_at_call 78; refine (there_nil _ _).mono ?_; rintro e w' ⟨rfl, hx⟩)
  go_ret2
  exact ⟨rfl, by (repeat (first | (with_reducible exact grown_refl _ _) | (with_reducible assumption) | (with_reducible apply grown_drewN) | (with_reducible apply grown_drew) | (with_reducible apply grown_alloc) | ((with_reducible refine grown_set ?_ (Or.inr ?hb) _); (case hb => (simp; try omega)))))⟩
theorem size_nil (n : ByteArray) (w : World) : Calls Try.prog 62 #[.pointer none, .string n] w fun e w' => e = .returned (.tuple #[.int .i64 0, .int .i64 7]) ∧ w.grownBy w' none := by
  go_enter Try.func62, Try.ntmps62
  go_wp2_with (go_at_call 78; refine (there_nil _ _).mono ?_; rintro e w' ⟨rfl, hx⟩)
  go_ret2
  exact ⟨rfl, by (repeat (first | (with_reducible exact grown_refl _ _) | (with_reducible assumption) | (with_reducible apply grown_drewN) | (with_reducible apply grown_drew) | (with_reducible apply grown_alloc) | ((with_reducible refine grown_set ?_ (Or.inr ?hb) _); (case hb => (simp; try omega)))))⟩
theorem sync_nil (w : World) : Calls Try.prog 24 #[.pointer none] w fun e w' => e = .returned (.int .i64 7) ∧ w.grownBy w' none := by
  go_enter Try.func24, Try.ntmps24
  go_wp2_with (go_at_call 67; refine (dead_nil _).mono ?_; rintro e w' ⟨rfl, rfl⟩)
  go_ret
  exact ⟨rfl, by (repeat (first | (with_reducible exact grown_refl _ _) | (with_reducible assumption) | (with_reducible apply grown_drewN) | (with_reducible apply grown_drew) | (with_reducible apply grown_alloc) | ((with_reducible refine grown_set ?_ (Or.inr ?hb) _); (case hb => (simp; try omega)))))⟩
theorem crash_nil (a b : Int) (w : World) : Calls Try.prog 25 #[.pointer none, .int .i64 a, .int .i64 b] w fun e w' => e = .returned (.tuple #[]) ∧ w.grownBy w' none := by
  go_enter Try.func25, Try.ntmps25
  go_wp2_with (go_at_call 67; refine (dead_nil _).mono ?_; rintro e w' ⟨rfl, rfl⟩)
  go_end0
  exact ⟨rfl, by (repeat (first | (with_reducible exact grown_refl _ _) | (with_reducible assumption) | (with_reducible apply grown_drewN) | (with_reducible apply grown_drew) | (with_reducible apply grown_alloc) | ((with_reducible refine grown_set ?_ (Or.inr ?hb) _); (case hb => (simp; try omega)))))⟩
theorem plan_nil (v : Value) (w : World) : Calls Try.prog 60 #[.pointer none, v] w fun e w' => e = .returned (.tuple #[]) ∧ w.grownBy w' none := by
  go_enter Try.func60, Try.ntmps60
  go_wp2
  go_end0
  exact ⟨rfl, by (repeat (first | (with_reducible exact grown_refl _ _) | (with_reducible assumption) | (with_reducible apply grown_drewN) | (with_reducible apply grown_drew) | (with_reducible apply grown_alloc) | ((with_reducible refine grown_set ?_ (Or.inr ?hb) _); (case hb => (simp; try omega)))))⟩
theorem names_nil (w : World) : Calls Try.prog 65 #[.pointer none] w fun e w' => e = .returned (.slice none 0 0) ∧ w.grownBy w' none := by
  go_enter Try.func65, Try.ntmps65
  go_wp2
  go_ret
  exact ⟨rfl, by (repeat (first | (with_reducible exact grown_refl _ _) | (with_reducible assumption) | (with_reducible apply grown_drewN) | (with_reducible apply grown_drew) | (with_reducible apply grown_alloc) | ((with_reducible refine grown_set ?_ (Or.inr ?hb) _); (case hb => (simp; try omega)))))⟩
theorem sure_nil (w : World) : Calls Try.prog 66 #[.pointer none] w fun e w' => e = .returned (.map none) ∧ w.grownBy w' none := by
  go_enter Try.func66, Try.ntmps66
  go_wp2
  go_ret
  exact ⟨rfl, by (repeat (first | (with_reducible exact grown_refl _ _) | (with_reducible assumption) | (with_reducible apply grown_drewN) | (with_reducible apply grown_drew) | (with_reducible apply grown_alloc) | ((with_reducible refine grown_set ?_ (Or.inr ?hb) _); (case hb => (simp; try omega)))))⟩
theorem changes_nil (w : World) : Calls Try.prog 68 #[.pointer none] w fun e w' => e = .returned (.int .i64 0) ∧ w.grownBy w' none := by
  go_enter Try.func68, Try.ntmps68
  go_wp2
  go_ret
  exact ⟨rfl, by (repeat (first | (with_reducible exact grown_refl _ _) | (with_reducible assumption) | (with_reducible apply grown_drewN) | (with_reducible apply grown_drew) | (with_reducible apply grown_alloc) | ((with_reducible refine grown_set ?_ (Or.inr ?hb) _); (case hb => (simp; try omega)))))⟩
theorem loose_nil (w : World) : Calls Try.prog 69 #[.pointer none] w fun e w' => e = .returned (.int .i64 0) ∧ w.grownBy w' none := by
  go_enter Try.func69, Try.ntmps69
  go_wp2
  go_ret
  exact ⟨rfl, by (repeat (first | (with_reducible exact grown_refl _ _) | (with_reducible assumption) | (with_reducible apply grown_drewN) | (with_reducible apply grown_drew) | (with_reducible apply grown_alloc) | ((with_reducible refine grown_set ?_ (Or.inr ?hb) _); (case hb => (simp; try omega)))))⟩
theorem clone_nil (w : World) : Calls Try.prog 70 #[.pointer none] w fun e w' => e = .returned (.pointer none) ∧ w.grownBy w' none := by
  go_enter Try.func70, Try.ntmps70
  go_wp2
  go_ret
  exact ⟨rfl, by (repeat (first | (with_reducible exact grown_refl _ _) | (with_reducible assumption) | (with_reducible apply grown_drewN) | (with_reducible apply grown_drew) | (with_reducible apply grown_alloc) | ((with_reducible refine grown_set ?_ (Or.inr ?hb) _); (case hb => (simp; try omega)))))⟩
end Dk
end Go.Proofs.Ytohphljhldcjbaa
