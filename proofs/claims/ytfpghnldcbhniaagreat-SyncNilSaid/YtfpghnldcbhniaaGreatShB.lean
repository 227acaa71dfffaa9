/- A word turned to the right. -/
import Derived.Test.YtfpghnldcbhniaaGreatShA
namespace Go.Proofs.YtfpghnldcbhniaaGreat
set_option linter.unusedVariables false
set_option linter.unusedSimpArgs false
open Go.RowKit Go.Maps
namespace Sh
set_option maxHeartbeats 1000000
set_option maxRecDepth 100000
theorem rot_bits (x n m : Nat) (hx : x < 4294967296) (hm : m = 32 - n) : bits BinOp.or IntKind.u32 ((x : Int) * ((2 ^ m : Nat) : Int) % 4294967296) ((x : Int) / ((2 ^ n : Nat) : Int)) = ((rot x n : Nat) : Int) := by
  have h1 : ((x : Int) * ((2 ^ m : Nat) : Int) % 4294967296) = ((x * 2 ^ m % 4294967296 : Nat) : Int) := by simp
  have h2 : ((x : Int) / ((2 ^ n : Nat) : Int)) = ((x / 2 ^ n : Nat) : Int) := by simp
  rw [h1, h2, u32_or_nat _ _ (Nat.mod_lt _ (by decide)) (Nat.lt_of_le_of_lt (Nat.div_le_self _ _) hx)]
  unfold rot
  have h3 : Nat.shiftLeft x (Nat.sub 32 n) = x * 2 ^ m := by rw [hm]; exact Nat.shiftLeft_eq x _
  have h4 : Nat.shiftRight x n = x / 2 ^ n := Nat.shiftRight_eq_div_pow x n
  rw [h3, h4]
  exact congrArg _ (Nat.or_comm _ _)
theorem rotl2 (x : Nat) (hx : x < 4294967296) (w : World) : Calls Tryz.prog 249 #[.int .u32 x, .int .i64 (-2)] w fun e w' => e = .returned (.int .u32 (rot x 2 : Nat)) ∧ w = w' := by
  have e0 : IntKind.u64.wrap (-2) = 18446744073709551614 := by decide
  have e1 : bits BinOp.and IntKind.u64 18446744073709551614 31 = 30 := by decide
  have e5 : bits BinOp.or IntKind.u32 ((x : Int) * 1073741824 % 4294967296) ((x : Int) / 4) = ((rot x 2 : Nat) : Int) := rot_bits x 2 30 hx rfl
  clear hx
  go_enter Tryz.func249, Tryz.ntmps249
  go_wp2
  go_ret
  exact ⟨rfl, rfl⟩
theorem turn2 (x : Nat) (hx : x < 4294967296) (w : World) : Calls Tryz.prog 242 #[.int .u32 x, .int .i64 2] w fun e w' => e = .returned (.int .u32 (rot x 2 : Nat)) ∧ w = w' := by
  go_enter Tryz.func242, Tryz.ntmps242
  go_wp2_with (go_at_call 249; refine (rotl2 x hx _).mono ?_; rintro e w' ⟨rfl, rfl⟩)
  go_ret
  exact ⟨rfl, rfl⟩
theorem rotl6 (x : Nat) (hx : x < 4294967296) (w : World) : Calls Tryz.prog 249 #[.int .u32 x, .int .i64 (-6)] w fun e w' => e = .returned (.int .u32 (rot x 6 : Nat)) ∧ w = w' := by
  have e0 : IntKind.u64.wrap (-6) = 18446744073709551610 := by decide
  have e1 : bits BinOp.and IntKind.u64 18446744073709551610 31 = 26 := by decide
  have e5 : bits BinOp.or IntKind.u32 ((x : Int) * 67108864 % 4294967296) ((x : Int) / 64) = ((rot x 6 : Nat) : Int) := rot_bits x 6 26 hx rfl
  clear hx
  go_enter Tryz.func249, Tryz.ntmps249
  go_wp2
  go_ret
  exact ⟨rfl, rfl⟩
theorem turn6 (x : Nat) (hx : x < 4294967296) (w : World) : Calls Tryz.prog 242 #[.int .u32 x, .int .i64 6] w fun e w' => e = .returned (.int .u32 (rot x 6 : Nat)) ∧ w = w' := by
  go_enter Tryz.func242, Tryz.ntmps242
  go_wp2_with (go_at_call 249; refine (rotl6 x hx _).mono ?_; rintro e w' ⟨rfl, rfl⟩)
  go_ret
  exact ⟨rfl, rfl⟩
theorem rotl7 (x : Nat) (hx : x < 4294967296) (w : World) : Calls Tryz.prog 249 #[.int .u32 x, .int .i64 (-7)] w fun e w' => e = .returned (.int .u32 (rot x 7 : Nat)) ∧ w = w' := by
  have e0 : IntKind.u64.wrap (-7) = 18446744073709551609 := by decide
  have e1 : bits BinOp.and IntKind.u64 18446744073709551609 31 = 25 := by decide
  have e5 : bits BinOp.or IntKind.u32 ((x : Int) * 33554432 % 4294967296) ((x : Int) / 128) = ((rot x 7 : Nat) : Int) := rot_bits x 7 25 hx rfl
  clear hx
  go_enter Tryz.func249, Tryz.ntmps249
  go_wp2
  go_ret
  exact ⟨rfl, rfl⟩
theorem turn7 (x : Nat) (hx : x < 4294967296) (w : World) : Calls Tryz.prog 242 #[.int .u32 x, .int .i64 7] w fun e w' => e = .returned (.int .u32 (rot x 7 : Nat)) ∧ w = w' := by
  go_enter Tryz.func242, Tryz.ntmps242
  go_wp2_with (go_at_call 249; refine (rotl7 x hx _).mono ?_; rintro e w' ⟨rfl, rfl⟩)
  go_ret
  exact ⟨rfl, rfl⟩
theorem rotl11 (x : Nat) (hx : x < 4294967296) (w : World) : Calls Tryz.prog 249 #[.int .u32 x, .int .i64 (-11)] w fun e w' => e = .returned (.int .u32 (rot x 11 : Nat)) ∧ w = w' := by
  have e0 : IntKind.u64.wrap (-11) = 18446744073709551605 := by decide
  have e1 : bits BinOp.and IntKind.u64 18446744073709551605 31 = 21 := by decide
  have e5 : bits BinOp.or IntKind.u32 ((x : Int) * 2097152 % 4294967296) ((x : Int) / 2048) = ((rot x 11 : Nat) : Int) := rot_bits x 11 21 hx rfl
  clear hx
  go_enter Tryz.func249, Tryz.ntmps249
  go_wp2
  go_ret
  exact ⟨rfl, rfl⟩
theorem turn11 (x : Nat) (hx : x < 4294967296) (w : World) : Calls Tryz.prog 242 #[.int .u32 x, .int .i64 11] w fun e w' => e = .returned (.int .u32 (rot x 11 : Nat)) ∧ w = w' := by
  go_enter Tryz.func242, Tryz.ntmps242
  go_wp2_with (go_at_call 249; refine (rotl11 x hx _).mono ?_; rintro e w' ⟨rfl, rfl⟩)
  go_ret
  exact ⟨rfl, rfl⟩
theorem rotl13 (x : Nat) (hx : x < 4294967296) (w : World) : Calls Tryz.prog 249 #[.int .u32 x, .int .i64 (-13)] w fun e w' => e = .returned (.int .u32 (rot x 13 : Nat)) ∧ w = w' := by
  have e0 : IntKind.u64.wrap (-13) = 18446744073709551603 := by decide
  have e1 : bits BinOp.and IntKind.u64 18446744073709551603 31 = 19 := by decide
  have e5 : bits BinOp.or IntKind.u32 ((x : Int) * 524288 % 4294967296) ((x : Int) / 8192) = ((rot x 13 : Nat) : Int) := rot_bits x 13 19 hx rfl
  clear hx
  go_enter Tryz.func249, Tryz.ntmps249
  go_wp2
  go_ret
  exact ⟨rfl, rfl⟩
theorem turn13 (x : Nat) (hx : x < 4294967296) (w : World) : Calls Tryz.prog 242 #[.int .u32 x, .int .i64 13] w fun e w' => e = .returned (.int .u32 (rot x 13 : Nat)) ∧ w = w' := by
  go_enter Tryz.func242, Tryz.ntmps242
  go_wp2_with (go_at_call 249; refine (rotl13 x hx _).mono ?_; rintro e w' ⟨rfl, rfl⟩)
  go_ret
  exact ⟨rfl, rfl⟩
theorem rotl17 (x : Nat) (hx : x < 4294967296) (w : World) : Calls Tryz.prog 249 #[.int .u32 x, .int .i64 (-17)] w fun e w' => e = .returned (.int .u32 (rot x 17 : Nat)) ∧ w = w' := by
  have e0 : IntKind.u64.wrap (-17) = 18446744073709551599 := by decide
  have e1 : bits BinOp.and IntKind.u64 18446744073709551599 31 = 15 := by decide
  have e5 : bits BinOp.or IntKind.u32 ((x : Int) * 32768 % 4294967296) ((x : Int) / 131072) = ((rot x 17 : Nat) : Int) := rot_bits x 17 15 hx rfl
  clear hx
  go_enter Tryz.func249, Tryz.ntmps249
  go_wp2
  go_ret
  exact ⟨rfl, rfl⟩
theorem turn17 (x : Nat) (hx : x < 4294967296) (w : World) : Calls Tryz.prog 242 #[.int .u32 x, .int .i64 17] w fun e w' => e = .returned (.int .u32 (rot x 17 : Nat)) ∧ w = w' := by
  go_enter Tryz.func242, Tryz.ntmps242
  go_wp2_with (go_at_call 249; refine (rotl17 x hx _).mono ?_; rintro e w' ⟨rfl, rfl⟩)
  go_ret
  exact ⟨rfl, rfl⟩
theorem rotl18 (x : Nat) (hx : x < 4294967296) (w : World) : Calls Tryz.prog 249 #[.int .u32 x, .int .i64 (-18)] w fun e w' => e = .returned (.int .u32 (rot x 18 : Nat)) ∧ w = w' := by
  have e0 : IntKind.u64.wrap (-18) = 18446744073709551598 := by decide
  have e1 : bits BinOp.and IntKind.u64 18446744073709551598 31 = 14 := by decide
  have e5 : bits BinOp.or IntKind.u32 ((x : Int) * 16384 % 4294967296) ((x : Int) / 262144) = ((rot x 18 : Nat) : Int) := rot_bits x 18 14 hx rfl
  clear hx
  go_enter Tryz.func249, Tryz.ntmps249
  go_wp2
  go_ret
  exact ⟨rfl, rfl⟩
theorem turn18 (x : Nat) (hx : x < 4294967296) (w : World) : Calls Tryz.prog 242 #[.int .u32 x, .int .i64 18] w fun e w' => e = .returned (.int .u32 (rot x 18 : Nat)) ∧ w = w' := by
  go_enter Tryz.func242, Tryz.ntmps242
  go_wp2_with (go_at_call 249; refine (rotl18 x hx _).mono ?_; rintro e w' ⟨rfl, rfl⟩)
  go_ret
  exact ⟨rfl, rfl⟩
theorem rotl19 (x : Nat) (hx : x < 4294967296) (w : World) : Calls Tryz.prog 249 #[.int .u32 x, .int .i64 (-19)] w fun e w' => e = .returned (.int .u32 (rot x 19 : Nat)) ∧ w = w' := by
  have e0 : IntKind.u64.wrap (-19) = 18446744073709551597 := by decide
  have e1 : bits BinOp.and IntKind.u64 18446744073709551597 31 = 13 := by decide
  have e5 : bits BinOp.or IntKind.u32 ((x : Int) * 8192 % 4294967296) ((x : Int) / 524288) = ((rot x 19 : Nat) : Int) := rot_bits x 19 13 hx rfl
  clear hx
  go_enter Tryz.func249, Tryz.ntmps249
  go_wp2
  go_ret
  exact ⟨rfl, rfl⟩
theorem turn19 (x : Nat) (hx : x < 4294967296) (w : World) : Calls Tryz.prog 242 #[.int .u32 x, .int .i64 19] w fun e w' => e = .returned (.int .u32 (rot x 19 : Nat)) ∧ w = w' := by
  go_enter Tryz.func242, Tryz.ntmps242
  go_wp2_with (go_at_call 249; refine (rotl19 x hx _).mono ?_; rintro e w' ⟨rfl, rfl⟩)
  go_ret
  exact ⟨rfl, rfl⟩
theorem rotl22 (x : Nat) (hx : x < 4294967296) (w : World) : Calls Tryz.prog 249 #[.int .u32 x, .int .i64 (-22)] w fun e w' => e = .returned (.int .u32 (rot x 22 : Nat)) ∧ w = w' := by
  have e0 : IntKind.u64.wrap (-22) = 18446744073709551594 := by decide
  have e1 : bits BinOp.and IntKind.u64 18446744073709551594 31 = 10 := by decide
  have e5 : bits BinOp.or IntKind.u32 ((x : Int) * 1024 % 4294967296) ((x : Int) / 4194304) = ((rot x 22 : Nat) : Int) := rot_bits x 22 10 hx rfl
  clear hx
  go_enter Tryz.func249, Tryz.ntmps249
  go_wp2
  go_ret
  exact ⟨rfl, rfl⟩
theorem turn22 (x : Nat) (hx : x < 4294967296) (w : World) : Calls Tryz.prog 242 #[.int .u32 x, .int .i64 22] w fun e w' => e = .returned (.int .u32 (rot x 22 : Nat)) ∧ w = w' := by
  go_enter Tryz.func242, Tryz.ntmps242
  go_wp2_with (go_at_call 249; refine (rotl22 x hx _).mono ?_; rintro e w' ⟨rfl, rfl⟩)
  go_ret
  exact ⟨rfl, rfl⟩
theorem rotl25 (x : Nat) (hx : x < 4294967296) (w : World) : Calls Tryz.prog 249 #[.int .u32 x, .int .i64 (-25)] w fun e w' => e = .returned (.int .u32 (rot x 25 : Nat)) ∧ w = w' := by
  have e0 : IntKind.u64.wrap (-25) = 18446744073709551591 := by decide
  have e1 : bits BinOp.and IntKind.u64 18446744073709551591 31 = 7 := by decide
  have e5 : bits BinOp.or IntKind.u32 ((x : Int) * 128 % 4294967296) ((x : Int) / 33554432) = ((rot x 25 : Nat) : Int) := rot_bits x 25 7 hx rfl
  clear hx
  go_enter Tryz.func249, Tryz.ntmps249
  go_wp2
  go_ret
  exact ⟨rfl, rfl⟩
theorem turn25 (x : Nat) (hx : x < 4294967296) (w : World) : Calls Tryz.prog 242 #[.int .u32 x, .int .i64 25] w fun e w' => e = .returned (.int .u32 (rot x 25 : Nat)) ∧ w = w' := by
  go_enter Tryz.func242, Tryz.ntmps242
  go_wp2_with (go_at_call 249; refine (rotl25 x hx _).mono ?_; rintro e w' ⟨rfl, rfl⟩)
  go_ret
  exact ⟨rfl, rfl⟩
end Sh
end Go.Proofs.YtfpghnldcbhniaaGreat
