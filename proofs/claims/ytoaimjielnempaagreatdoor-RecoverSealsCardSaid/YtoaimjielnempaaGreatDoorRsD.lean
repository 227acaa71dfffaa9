/- The document's SHA-256: a state's bytes; the sum of a text; the sum of the sum. -/
import Derived.Test.YtoaimjielnempaaGreatDoorRsC
namespace Go.Proofs.YtoaimjielnempaaGreatDoor
set_option linter.unusedVariables false
set_option linter.unusedSimpArgs false
open Go.RowKit Go.Maps
namespace Sh
theorem zero32_one : zero32.all (·.oneCell') = true := by rw [zero32_eq ⟨0, 0, 0, 0, 0, 0, 0, 0⟩]; exact rowO_one _ _
theorem size32u : (Tryz.prog.info? 23).map (·.size) = some 32 := by kernel_rfl
theorem out_byte2 (x m : Nat) (hm : m ≤ 3) : ((x : Int) / 2 ^ (24 - 8 * m) % 256) = (((UInt8.ofNat (x / 256 ^ (3 - m))).toNat : Nat) : Int) := by
  rw [← out_byte x m hm, show 24 - 8 * m = 8 * (3 - m) by omega]
set_option maxHeartbeats 4000000
set_option maxRecDepth 100000
theorem rbytes_any (s : St) (w : World) :
    Calls Tryz.prog 59 #[.agg (yArr s)] w fun e w' => e = .returned (.agg (bvs (stB s)).toArray) ∧ w.grownBy w' none := by
  have a0 : Whole ((w.alloc (.cells (yArr s) 111)).alloc (.cells zero32 23)) w.heap.size 111 (yArr s) := (Whole.fresh _ _ _).alloc _
  have b0 : Whole ((w.alloc (.cells (yArr s) 111)).alloc (.cells zero32 23)) (w.heap.size + 1) 23 zero32 := Whole.fresh_at _ _ _ (by simp)
  have g0 : w.grownBy ((w.alloc (.cells (yArr s) 111)).alloc (.cells zero32 23)) none := grown_alloc (grown_alloc (grown_refl _ _) _) _
  have n0 : ((w.alloc (.cells (yArr s) 111)).alloc (.cells zero32 23)).heap.size = w.heap.size + 2 := by simp
  have o0 := Whole.fresh ((w.alloc (.cells (yArr s) 111)).alloc (.cells zero32 23)) 23 zero32
  have a1 := a0.alloc (.cells zero32 23)
  have b1 := b0.alloc (.cells zero32 23)
  have g1 := grown_alloc g0 (.cells zero32 23)
  clear a0 b0 g0
  rw [n0] at o0
  clear n0
  have a1 : Whole (((w.alloc (.cells (yArr s) 111)).alloc (.cells zero32 23)).alloc (.cells zero32 23)) w.heap.size 111 (u32s s.list) := a1
  unfold zero32 at a1 b1 g1 o0
  go_enter Tryz.func59, Tryz.ntmps59
  go_wp2_with (refine store_whole (cs' := zero32) rfl _ _ rfl rfl rfl size32u o0 rfl zero32_one ?_
               have o2 := o0.rowAt zero32
               have a2 := a1.row_aside (g' := w.heap.size + 2) (by omega) zero32
               have b2 := b1.row_aside (g' := w.heap.size + 2) (by omega) zero32
               have g2 := grown_row (g := w.heap.size + 2) g1 (.inr (by omega)) zero32
               clear a1 b1 g1 o0
               generalize World.setRow _ _ _ = w2 at o2 a2 b2 g2 ⊢)
  rw [zero32_eq s] at o2
  have hz2 : ∃ z, z.size = 32 ∧ Whole w2 (w.heap.size + 1) 23 z := ⟨_, rfl, b2⟩
  clear b2
  go_loopw [4] (fun i wr => ∃ k : Nat, k ≤ 8 ∧ i = .int .i64 k ∧ Whole wr (w.heap.size + 2) 23 (rowO s (4 * k)) ∧ Whole wr w.heap.size 111 (u32s s.list) ∧ (∃ z, z.size = 32 ∧ Whole wr (w.heap.size + 1) 23 z) ∧ w.grownBy wr none) (fun i _ => 8 - (intOf i).toNat)
  case atStart => exact ⟨0, by omega, rfl, o2, a2, hz2, g2⟩
  case round =>
    clear o2 a2 hz2 g2
    obtain ⟨k, hk, rfl, ho, ha, ⟨z, hz, hr⟩, hg⟩ := hrel
    have HZ := Lib.hid hz
    clear hz
    by_cases hlt8 : k < 8
    · have e1 : ((k : Int) < 8) = True := eq_true (by omega)
      have v3 : (0 ≤ (k : Int)) = True := eq_true (by omega)
      go_wp2_with fail
      go_loopw [5] (fun i wr => ∃ m : Nat, m ≤ 4 ∧ i = .int .i64 m ∧ Whole wr (w.heap.size + 2) 23 (rowO s (4 * k + m)) ∧ Whole wr w.heap.size 111 (u32s s.list) ∧ Whole wr (w.heap.size + 1) 23 z ∧ w.grownBy wr none) (fun i _ => 4 - (intOf i).toNat)
      case atStart => exact ⟨0, by omega, rfl, ho, ha, hr, hg⟩
      case round =>
        clear ho ha hr hg
        obtain ⟨m, hm, rfl, ho, ha, hr, hg⟩ := hrel
        by_cases hmt : m < 4
        · have e2 : ((m : Int) < 4) = True := eq_true (by omega)
          have e3 : (0 ≤ 24 - 8 * (m : Int)) = True := eq_true (by omega)
          have e4 : (0 ≤ 4 * (k : Int) + (m : Int)) = True := eq_true (by omega)
          have e5 : (4 * (k : Int) + (m : Int) < 32) = True := eq_true (by omega)
          have e6 : (4 * (k : Int) + (m : Int)).toNat = 4 * k + m := by omega
          have ca := ha.cell k
          rw [u32s_get (by rw [list_len]; omega)] at ca
          have d0 := ho.cell (4 * k + m)
          rw [rowO_get (by omega)] at d0
          have f0 := ho.thaw (4 * k + m)
          have hset := rowO_set (s := s) (p := 4 * k + m) (by omega)
          have hq1 : (4 * k + m) / 4 = k := by omega
          have hq2 : 3 - (4 * k + m) % 4 = 3 - m := by omega
          rw [hq1, hq2] at hset
          generalize s.list.getD k 0 = x at ca hset
          rw [← out_byte2 x m (by omega)] at hset
          have HS := Lib.hid hset
          clear hset hq1 hq2
          go_wp2_with fail
          go_roundw
          case rel =>
            refine ⟨m + 1, by omega, by go_num, ?_, ha.aside (by simp; omega) _, hr.aside (by simp) _, grown_set hg (.inr (by simp; omega)) _⟩
            show Whole _ _ _ (rowO _ (4 * k + m + 1))
            rw [← HS.out]
            exact ho.set_ (4 * k + m) _
          case measure => simp [intOf]; omega
        · obtain rfl : m = 4 := by omega
          have e2 : ((4 : Nat) : Int) < 4 ↔ False := by simp
          have ho : Whole wr (w.heap.size + 2) 23 (rowO s (4 * (k + 1))) := ho
          go_wp2_with fail
          go_roundw
          case rel => exact ⟨k + 1, by omega, by go_num, ho, ha, ⟨z, HZ.out, hr⟩, hg⟩
          case measure => simp [intOf]; omega
    · have hk8 : k = 8 := by omega
      have e1 : ((k : Int) < 8) = False := eq_false (by omega)
      have ho : Whole wr (w.heap.size + 2) 23 (rowO s 32) := by rw [hk8] at ho; exact ho
      rw [rowO_last] at ho
      have HK := Lib.hid hk8
      clear hk8
      obtain ⟨R, hR⟩ : ∃ R, R = (bvs (stB s)).toArray := ⟨_, rfl⟩
      rw [← hR] at ho
      have HSZ := Lib.hid (show R.size = 32 by rw [hR]; simp [bvs_len, stB_len])
      have HON := Lib.hid (show R.all (·.oneCell') = true by rw [hR]; exact bvs_one _)
      have HR := Lib.hid hR
      clear hR
      go_wp2_with (first
        | (refine load_whole (cs := R) rfl _ rfl 32 _ Tryz.underlying23 (by rw [HSZ.out]; exact size32u) rfl ho ?_)
        | (refine store_whole rfl _ _ rfl rfl rfl (by rw [HSZ.out]; exact size32u) hr (by rw [HSZ.out]; exact HZ.out) HON.out ?_))
      refine bodyPost_ret (results_cell_row rfl _ _ (w.heap.size + 1) _ R (0, 0) _ rfl (hr.rowAt _) Tryz.underlying23 rfl (by rw [HSZ.out]; exact size32u)) rfl ⟨by rw [HR.out], grown_row hg (.inr (by omega)) _⟩
end Sh
end Go.Proofs.YtoaimjielnempaaGreatDoor
