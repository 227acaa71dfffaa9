/- A nil keeper; no disk. -/
import Derived.Test.YtoaimjielnempaaGreatDoorRvD
import Derived.Test.YtoaimjielnempaaGreatDoorRsE
import Derived.Test.YtoaimjielnempaaGreatDoorShS
namespace Go.Proofs.YtoaimjielnempaaGreatDoor
set_option linter.unusedVariables false
set_option linter.unusedSimpArgs false
open Go.RowKit Go.Maps
namespace Rk
open Sh
theorem dead_nil (w : World) : Calls Tryz.prog 17 #[.pointer none] w fun e w' => e = .returned (.bool true) ∧ w = w' := by
  go_enter Tryz.func17, Tryz.ntmps17
  go_wp2
  go_ret
  exact ⟨rfl, rfl⟩
theorem header_nil (v : Array Value) (n : Int) (w : World) : Calls Tryz.prog 9 #[.pointer none, .agg v, .int .u32 n] w fun e w' => e = .returned (.tuple #[.bool false, .int .i64 7]) ∧ w.grownBy w' none := by
  go_enter Tryz.func9, Tryz.ntmps9
  go_wp2_with (go_at_call 17; refine (dead_nil _).mono ?_; rintro e w' ⟨rfl, rfl⟩)
  go_ret2
  exact ⟨rfl, grown_alloc (grown_refl _ _) _⟩
theorem block_nil (v : Array Value) (n : Int) (w : World) : Calls Tryz.prog 10 #[.pointer none, .agg v, .int .u32 n] w fun e w' => e = .returned (.tuple #[.slice none 0 0, .int .i64 7]) ∧ w.grownBy w' none := by
  go_enter Tryz.func10, Tryz.ntmps10
  go_wp2_with (go_at_call 17; refine (dead_nil _).mono ?_; rintro e w' ⟨rfl, rfl⟩)
  go_ret2
  exact ⟨rfl, grown_alloc (grown_refl _ _) _⟩
theorem inval_nil (v : Array Value) (w : World) : Calls Tryz.prog 11 #[.pointer none, .agg v] w fun e w' => e = .returned (.tuple #[.slice none 0 0, .int .i64 7]) ∧ w.grownBy w' none := by
  go_enter Tryz.func11, Tryz.ntmps11
  go_wp2_with (go_at_call 17; refine (dead_nil _).mono ?_; rintro e w' ⟨rfl, rfl⟩)
  go_ret2
  exact ⟨rfl, grown_alloc (grown_refl _ _) _⟩
theorem get_nil (s : ByteArray) (w : World) : Calls Tryz.prog 12 #[.pointer none, .string s] w fun e w' => e = .returned (.tuple #[.string .empty, .int .i64 7]) ∧ w = w' := by
  go_enter Tryz.func12, Tryz.ntmps12
  go_wp2_with (go_at_call 17; refine (dead_nil _).mono ?_; rintro e w' ⟨rfl, rfl⟩)
  go_ret2
  exact ⟨rfl, rfl⟩
theorem flush_nil (w : World) : Calls Tryz.prog 14 #[.pointer none] w fun e w' => e = .returned (.int .i64 7) ∧ w = w' := by
  go_enter Tryz.func14, Tryz.ntmps14
  go_wp2_with (go_at_call 17; refine (dead_nil _).mono ?_; rintro e w' ⟨rfl, rfl⟩)
  go_ret
  exact ⟨rfl, rfl⟩
theorem put_nil (a s : ByteArray) (w : World) : Calls Tryz.prog 15 #[.pointer none, .string a, .string s] w fun e w' => e = .returned (.int .i64 7) ∧ w = w' := by
  go_enter Tryz.func15, Tryz.ntmps15
  go_wp2_with (go_at_call 17; refine (dead_nil _).mono ?_; rintro e w' ⟨rfl, rfl⟩)
  go_ret
  exact ⟨rfl, rfl⟩
theorem chain_nil (w : World) : Calls Tryz.prog 16 #[.pointer none] w fun e w' => e = .returned (.pointer none) ∧ w = w' := by
  go_enter Tryz.func16, Tryz.ntmps16
  go_wp2
  go_ret
  exact ⟨rfl, rfl⟩
theorem size_nil (w : World) : Calls Tryz.prog 18 #[.pointer none] w fun e w' => e = .returned (.int .i64 0) ∧ w = w' := by
  go_enter Tryz.func18, Tryz.ntmps18
  go_wp2
  go_ret
  exact ⟨rfl, rfl⟩
def hashA : List Ev.AV := [.int .u8 0, .int .u8 0, .int .u8 0, .int .u8 0, .int .u8 0, .int .u8 0, .int .u8 0, .int .u8 0, .int .u8 0, .int .u8 0, .int .u8 0, .int .u8 0, .int .u8 0, .int .u8 0, .int .u8 0, .int .u8 0, .int .u8 0, .int .u8 0, .int .u8 0, .int .u8 0, .int .u8 0, .int .u8 0, .int .u8 0, .int .u8 0, .int .u8 0, .int .u8 0, .int .u8 0, .int .u8 0, .int .u8 0, .int .u8 0, .int .u8 0, .int .u8 0]
def risenA : List Ev.AV := [.int .i64 0, .int .i64 0, .int .i64 0, .int .i64 0, .bool false, .int .u8 0, .int .u8 0, .int .u8 0, .int .u8 0, .int .u8 0, .int .u8 0, .int .u8 0, .int .u8 0, .int .u8 0, .int .u8 0, .int .u8 0, .int .u8 0, .int .u8 0, .int .u8 0, .int .u8 0, .int .u8 0, .int .u8 0, .int .u8 0, .int .u8 0, .int .u8 0, .int .u8 0, .int .u8 0, .int .u8 0, .int .u8 0, .int .u8 0, .int .u8 0, .int .u8 0, .int .u8 0, .int .u8 0, .int .u8 0, .int .u8 0, .int .u8 0,
  .int .u8 0, .int .u8 0, .int .u8 0, .int .u8 0, .int .u8 0, .int .u8 0, .int .u8 0, .int .u8 0, .int .u8 0, .int .u8 0, .int .u8 0, .int .u8 0, .int .u8 0, .int .u8 0, .int .u8 0, .int .u8 0, .int .u8 0, .int .u8 0, .int .u8 0, .int .u8 0, .int .u8 0, .int .u8 0, .int .u8 0, .int .u8 0, .int .u8 0, .int .u8 0, .int .u8 0, .int .u8 0, .int .u8 0, .int .u8 0, .int .u8 0, .int .u8 0, .int .i64 0]
def zeroR : Array Value := #[.int .i64 0, .int .i64 0, .int .i64 0, .int .i64 0, .bool false, .int .u8 0, .int .u8 0, .int .u8 0, .int .u8 0, .int .u8 0, .int .u8 0, .int .u8 0, .int .u8 0, .int .u8 0, .int .u8 0, .int .u8 0, .int .u8 0, .int .u8 0, .int .u8 0, .int .u8 0, .int .u8 0, .int .u8 0, .int .u8 0, .int .u8 0, .int .u8 0, .int .u8 0, .int .u8 0, .int .u8 0, .int .u8 0, .int .u8 0, .int .u8 0, .int .u8 0, .int .u8 0, .int .u8 0, .int .u8 0, .int .u8 0, .int .u8 0,
  .int .u8 0, .int .u8 0, .int .u8 0, .int .u8 0, .int .u8 0, .int .u8 0, .int .u8 0, .int .u8 0, .int .u8 0, .int .u8 0, .int .u8 0, .int .u8 0, .int .u8 0, .int .u8 0, .int .u8 0, .int .u8 0, .int .u8 0, .int .u8 0, .int .u8 0, .int .u8 0, .int .u8 0, .int .u8 0, .int .u8 0, .int .u8 0, .int .u8 0, .int .u8 0, .int .u8 0, .int .u8 0, .int .u8 0, .int .u8 0, .int .u8 0, .int .u8 0, .int .i64 0]
theorem zeroR_eq : zeroR = Tryz.zeroCells38 := by kernel_rfl
theorem tip_run : Ev.isE (Ev.run Ev.fn Ev.plug1 100 13 [.nilp] Ev.H0) (.tuple [.agg hashA, .int .i64 0]) = true := by kernel_rfl
theorem open_run : Ev.isE (Ev.run Ev.fn Ev.plug1 100 8 [.nilp] Ev.H0) (.tuple [.nilp, .agg risenA, .int .i64 1]) = true := by kernel_rfl
theorem tip_nil (w : World) (fit : Ev.Fits Tryz.prog w.heap.size w) : Calls Tryz.prog 13 #[.pointer none] w fun e w' => e = .returned (.tuple #[.agg zero32, .int .i64 0]) ∧ Below w.heap.size w w' := by
  obtain ⟨h', e⟩ := Ev.isE_ok tip_run
  exact Ev.run_calls (Ev.run1_ok _) (vs := [.pointer none]) (fun c => .cons .nilp .nil) w fit (fun c u hv => Ev.concT_V hv (by kernel_rfl)) e
theorem open_nil (w : World) (fit : Ev.Fits Tryz.prog w.heap.size w) : Calls Tryz.prog 8 #[.pointer none] w fun e w' => e = .returned (.tuple #[.pointer none, .agg Tryz.zeroCells38, .int .i64 1]) ∧ Below w.heap.size w w' := by
  obtain ⟨h', e⟩ := Ev.isE_ok open_run
  rw [← zeroR_eq]
  refine Ev.run_calls (Ev.run1_ok _) (vs := [.pointer none]) (fun c => .cons .nilp .nil) w fit (fun c u hv => ?_) e
  obtain ⟨ws, rfl, hl⟩ := hv.tup_inv
  cases hl with
  | cons h1 hl =>
    cases hl with
    | cons h2 hl =>
      cases hl with
      | cons h3 hl =>
        cases hl
        cases h1
        rw [Ev.conc_V h2 (show Ev.conc (.agg risenA) = some (.agg zeroR) by kernel_rfl), h3.int_inv]
end Rk
end Go.Proofs.YtoaimjielnempaaGreatDoor
