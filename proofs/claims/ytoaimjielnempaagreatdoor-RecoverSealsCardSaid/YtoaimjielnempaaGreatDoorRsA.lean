/- The document's SHA-256: a word turned to the right; the constants; the state at first. -/
import Derived.Test.YtoaimjielnempaaGreatDoorShL
import Derived.BigQuiet
namespace Go.Proofs.YtoaimjielnempaaGreatDoor
set_option linter.unusedVariables false
set_option linter.unusedSimpArgs false
open Go.RowKit Go.Maps
namespace Sh
set_option maxHeartbeats 1000000
set_option maxRecDepth 100000
theorem rot_bits2 (x n m : Nat) (hx : x < 4294967296) (hm : m = 32 - n) : bits BinOp.or IntKind.u32 ((x : Int) / ((2 ^ n : Nat) : Int)) ((x : Int) * ((2 ^ m : Nat) : Int) % 4294967296) = ((rot x n : Nat) : Int) := by
  have h1 : ((x : Int) * ((2 ^ m : Nat) : Int) % 4294967296) = ((x * 2 ^ m % 4294967296 : Nat) : Int) := by simp
  have h2 : ((x : Int) / ((2 ^ n : Nat) : Int)) = ((x / 2 ^ n : Nat) : Int) := by simp
  rw [h1, h2, u32_or_nat _ _ (Nat.lt_of_le_of_lt (Nat.div_le_self _ _) hx) (Nat.mod_lt _ (by decide))]
  unfold rot
  have h3 : Nat.shiftLeft x (Nat.sub 32 n) = x * 2 ^ m := by rw [hm]; exact Nat.shiftLeft_eq x _
  have h4 : Nat.shiftRight x n = x / 2 ^ n := Nat.shiftRight_eq_div_pow x n
  rw [h3, h4]
  rfl
theorem rturn2 (x : Nat) (hx : x < 4294967296) (w : World) : Calls Tryz.prog 121 #[.int .u32 x, .int .i64 2] w fun e w' => e = .returned (.int .u32 (rot x 2 : Nat)) ∧ ∃ m, w' = w.drewN m := by
  have e5 : bits BinOp.or IntKind.u32 ((x : Int) / 4) ((x : Int) * 1073741824 % 4294967296) = ((rot x 2 : Nat) : Int) := rot_bits2 x 2 30 hx rfl
  clear hx
  go_enter Tryz.func121, Tryz.ntmps121
  go_wp2_with fail
  go_quiet (fail)
  go_wp2_with fail
  go_ret
  exact ⟨rfl, _, rfl⟩
theorem rturn6 (x : Nat) (hx : x < 4294967296) (w : World) : Calls Tryz.prog 121 #[.int .u32 x, .int .i64 6] w fun e w' => e = .returned (.int .u32 (rot x 6 : Nat)) ∧ ∃ m, w' = w.drewN m := by
  have e5 : bits BinOp.or IntKind.u32 ((x : Int) / 64) ((x : Int) * 67108864 % 4294967296) = ((rot x 6 : Nat) : Int) := rot_bits2 x 6 26 hx rfl
  clear hx
  go_enter Tryz.func121, Tryz.ntmps121
  go_wp2_with fail
  go_quiet (fail)
  go_wp2_with fail
  go_ret
  exact ⟨rfl, _, rfl⟩
theorem rturn7 (x : Nat) (hx : x < 4294967296) (w : World) : Calls Tryz.prog 121 #[.int .u32 x, .int .i64 7] w fun e w' => e = .returned (.int .u32 (rot x 7 : Nat)) ∧ ∃ m, w' = w.drewN m := by
  have e5 : bits BinOp.or IntKind.u32 ((x : Int) / 128) ((x : Int) * 33554432 % 4294967296) = ((rot x 7 : Nat) : Int) := rot_bits2 x 7 25 hx rfl
  clear hx
  go_enter Tryz.func121, Tryz.ntmps121
  go_wp2_with fail
  go_quiet (fail)
  go_wp2_with fail
  go_ret
  exact ⟨rfl, _, rfl⟩
theorem rturn11 (x : Nat) (hx : x < 4294967296) (w : World) : Calls Tryz.prog 121 #[.int .u32 x, .int .i64 11] w fun e w' => e = .returned (.int .u32 (rot x 11 : Nat)) ∧ ∃ m, w' = w.drewN m := by
  have e5 : bits BinOp.or IntKind.u32 ((x : Int) / 2048) ((x : Int) * 2097152 % 4294967296) = ((rot x 11 : Nat) : Int) := rot_bits2 x 11 21 hx rfl
  clear hx
  go_enter Tryz.func121, Tryz.ntmps121
  go_wp2_with fail
  go_quiet (fail)
  go_wp2_with fail
  go_ret
  exact ⟨rfl, _, rfl⟩
theorem rturn13 (x : Nat) (hx : x < 4294967296) (w : World) : Calls Tryz.prog 121 #[.int .u32 x, .int .i64 13] w fun e w' => e = .returned (.int .u32 (rot x 13 : Nat)) ∧ ∃ m, w' = w.drewN m := by
  have e5 : bits BinOp.or IntKind.u32 ((x : Int) / 8192) ((x : Int) * 524288 % 4294967296) = ((rot x 13 : Nat) : Int) := rot_bits2 x 13 19 hx rfl
  clear hx
  go_enter Tryz.func121, Tryz.ntmps121
  go_wp2_with fail
  go_quiet (fail)
  go_wp2_with fail
  go_ret
  exact ⟨rfl, _, rfl⟩
theorem rturn17 (x : Nat) (hx : x < 4294967296) (w : World) : Calls Tryz.prog 121 #[.int .u32 x, .int .i64 17] w fun e w' => e = .returned (.int .u32 (rot x 17 : Nat)) ∧ ∃ m, w' = w.drewN m := by
  have e5 : bits BinOp.or IntKind.u32 ((x : Int) / 131072) ((x : Int) * 32768 % 4294967296) = ((rot x 17 : Nat) : Int) := rot_bits2 x 17 15 hx rfl
  clear hx
  go_enter Tryz.func121, Tryz.ntmps121
  go_wp2_with fail
  go_quiet (fail)
  go_wp2_with fail
  go_ret
  exact ⟨rfl, _, rfl⟩
theorem rturn18 (x : Nat) (hx : x < 4294967296) (w : World) : Calls Tryz.prog 121 #[.int .u32 x, .int .i64 18] w fun e w' => e = .returned (.int .u32 (rot x 18 : Nat)) ∧ ∃ m, w' = w.drewN m := by
  have e5 : bits BinOp.or IntKind.u32 ((x : Int) / 262144) ((x : Int) * 16384 % 4294967296) = ((rot x 18 : Nat) : Int) := rot_bits2 x 18 14 hx rfl
  clear hx
  go_enter Tryz.func121, Tryz.ntmps121
  go_wp2_with fail
  go_quiet (fail)
  go_wp2_with fail
  go_ret
  exact ⟨rfl, _, rfl⟩
theorem rturn19 (x : Nat) (hx : x < 4294967296) (w : World) : Calls Tryz.prog 121 #[.int .u32 x, .int .i64 19] w fun e w' => e = .returned (.int .u32 (rot x 19 : Nat)) ∧ ∃ m, w' = w.drewN m := by
  have e5 : bits BinOp.or IntKind.u32 ((x : Int) / 524288) ((x : Int) * 8192 % 4294967296) = ((rot x 19 : Nat) : Int) := rot_bits2 x 19 13 hx rfl
  clear hx
  go_enter Tryz.func121, Tryz.ntmps121
  go_wp2_with fail
  go_quiet (fail)
  go_wp2_with fail
  go_ret
  exact ⟨rfl, _, rfl⟩
theorem rturn22 (x : Nat) (hx : x < 4294967296) (w : World) : Calls Tryz.prog 121 #[.int .u32 x, .int .i64 22] w fun e w' => e = .returned (.int .u32 (rot x 22 : Nat)) ∧ ∃ m, w' = w.drewN m := by
  have e5 : bits BinOp.or IntKind.u32 ((x : Int) / 4194304) ((x : Int) * 1024 % 4294967296) = ((rot x 22 : Nat) : Int) := rot_bits2 x 22 10 hx rfl
  clear hx
  go_enter Tryz.func121, Tryz.ntmps121
  go_wp2_with fail
  go_quiet (fail)
  go_wp2_with fail
  go_ret
  exact ⟨rfl, _, rfl⟩
theorem rturn25 (x : Nat) (hx : x < 4294967296) (w : World) : Calls Tryz.prog 121 #[.int .u32 x, .int .i64 25] w fun e w' => e = .returned (.int .u32 (rot x 25 : Nat)) ∧ ∃ m, w' = w.drewN m := by
  have e5 : bits BinOp.or IntKind.u32 ((x : Int) / 33554432) ((x : Int) * 128 % 4294967296) = ((rot x 25 : Nat) : Int) := rot_bits2 x 25 7 hx rfl
  clear hx
  go_enter Tryz.func121, Tryz.ntmps121
  go_wp2_with fail
  go_quiet (fail)
  go_wp2_with fail
  go_ret
  exact ⟨rfl, _, rfl⟩
theorem rconst_any (w : World) : Calls Tryz.prog 120 #[] w fun e w' => e = .returned (.agg (u32s ks)) ∧ w.grownBy w' none := by
  have b0 : Whole (w.alloc (.cells zero64 205)) w.heap.size 205 zero64 := Whole.fresh _ _ _
  have g0 : w.grownBy (w.alloc (.cells zero64 205)) none := grown_alloc (grown_refl _ _) _
  unfold zero64 at b0 g0
  go_enter Tryz.func120, Tryz.ntmps120
  go_wp2_with (refine store_whole (cs' := u32s ks) rfl _ _ rfl rfl rfl (by rw [u32s_size, ks_len]; exact size64) b0 rfl (u32s_one _) ?_)
  refine bodyPost_ret (results_cell_row rfl _ _ w.heap.size _ (u32s ks) (0, 0) _ rfl (b0.rowAt _) Tryz.underlying205 rfl (by rw [u32s_size, ks_len]; exact size64)) rfl ⟨rfl, grown_row g0 (.inr (by omega)) _⟩
theorem size8u : (Tryz.prog.info? 111).map (·.size) = some 8 := by kernel_rfl
theorem rfirst_any (w : World) : Calls Tryz.prog 57 #[] w fun e w' => e = .returned (.agg (yArr first)) ∧ w.grownBy w' none := by
  have b0 : Whole (w.alloc (.cells zero8 111)) w.heap.size 111 zero8 := Whole.fresh _ _ _
  have g0 : w.grownBy (w.alloc (.cells zero8 111)) none := grown_alloc (grown_refl _ _) _
  unfold zero8 at b0 g0
  go_enter Tryz.func57, Tryz.ntmps57
  go_wp2_with (refine store_whole (cs' := yArr first) rfl _ _ rfl rfl rfl size8u b0 rfl (yArr_one _) ?_)
  refine bodyPost_ret (results_cell_row rfl _ _ w.heap.size _ (yArr first) (0, 0) _ rfl (b0.rowAt _) Tryz.underlying111 rfl size8u) rfl ⟨rfl, grown_row g0 (.inr (by omega)) _⟩
end Sh
end Go.Proofs.YtoaimjielnempaaGreatDoor
