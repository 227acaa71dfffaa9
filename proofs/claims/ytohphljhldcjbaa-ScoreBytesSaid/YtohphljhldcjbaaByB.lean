/- num.lay: a number in so many bytes. -/
import Derived.Test.YtohphljhldcjbaaByA
import Derived.LoopTactic
import Derived.Laws.MakeOwn
import Derived.Laws.IdiomStrings
import Derived.IntWalk
namespace Go.Proofs.Ytohphljhldcjbaa
set_option linter.unusedVariables false
set_option linter.unusedSimpArgs false
open Go.RowKit Go.Maps
namespace By

/-- The i-th byte of a number. -/
def byteAt (n i : Nat) : Nat := n / 256 ^ i % 256
/-- A number in so many bytes. -/
def layL (n k : Nat) : List UInt8 := (List.range k).map fun i => UInt8.ofNat (byteAt n i)
def layB (n k : Nat) : ByteArray := ⟨(layL n k).toArray⟩
/-- The row behind j rounds. -/
def rowAt (n k j : Nat) : Array Value := ((List.range k).map fun i => Value.int .u8 (if i < j then (byteAt n i : Int) else 0)).toArray

theorem row_zero (n k : Nat) : madeCells #[Value.int .u8 0] k = rowAt n k 0 := by
  apply Array.ext
  · simp [madeCells, rowAt]
  · intro i h1 h2
    simp [madeCells, rowAt, Nat.mod_one]
theorem row_size (n k j : Nat) : (rowAt n k j).size = k := by simp [rowAt]
theorem row_get {n k j i : Nat} (hi : i < k) : (rowAt n k j)[i]? = some (.int .u8 (if i < j then (byteAt n i : Int) else 0)) := by
  simp [rowAt, hi]
theorem row_set {n k j : Nat} (hj : j < k) : (rowAt n k j).setIfInBounds j (.int .u8 (byteAt n j)) = rowAt n k (j + 1) := by
  apply Array.ext
  · simp [rowAt]
  · intro i h1 h2
    have hi : i < k := by simpa [rowAt] using h2
    rw [Array.getElem_setIfInBounds (by simpa [rowAt] using hi)]
    simp only [rowAt, List.getElem_toArray, List.getElem_map, List.getElem_range]
    by_cases e : j = i
    · subst e; simp
    · rw [if_neg e]
      congr 1
      by_cases h : i < j
      · rw [if_pos h, if_pos (by omega)]
      · rw [if_neg h, if_neg (by omega)]

set_option maxHeartbeats 2000000 in
set_option maxRecDepth 100000 in
theorem lay_any (n k : Nat) (w : World) (hn : n < 18446744073709551616) (hk : k ≤ 8) :
    Calls Try.prog 136 #[.int .u64 n, .int .i64 k] w fun e w' => e = .returned (.string (layB n k)) ∧ w.grownBy w' none := by
  obtain ⟨i0, hi, hz0, hz1, hz2⟩ := info_parts infoByte
  have hmk : (Instr.makeSlice 236 (.int .i64 k) (.int .i64 k)).run Try.prog w = .ok (.slice (some ⟨w.heap.size, 0, none⟩) k k) (w.alloc (.cells (rowAt n k 0) 5)) := by
    have h := run_make (P := Try.prog) w 236 5 i0 (.int .u8 0) Try.underlying236 hi hz0 .i64 .i64 (k : Int) (k : Int) (by omega) (by omega) (by rw [hz2]; omega) (by omega)
    rw [h, hz1]
    simp only [Int.toNat_natCast, Nat.mul_one]
    rw [← row_zero n k]
    rfl
  have HN := Lib.hid hn
  clear hn hi hz0 hz1 hz2
  go_enter Try.func136, Try.ntmps136
  go_wp2_with fail
  have w0 : Whole (w.alloc (.cells (rowAt n k 0) 5)) w.heap.size 5 (rowAt n k 0) := Whole.fresh _ _ _
  have g0 : w.grownBy (w.alloc (.cells (rowAt n k 0) 5)) none := grown_alloc (grown_refl _ _) _
  clear hmk
  generalize w.alloc (.cells (rowAt n k 0) 5) = w1 at w0 g0 ⊢
  go_loopw [11] (fun i wr => ∃ j : Nat, j ≤ k ∧ i = .int .i64 j ∧ Whole wr w.heap.size 5 (rowAt n k j) ∧ w.grownBy wr none) (fun i _ => k - (intOf i).toNat)
  case atStart => exact ⟨0, Nat.zero_le _, rfl, w0, g0⟩
  case round =>
    obtain ⟨j, hj, rfl, hw, hg⟩ := hrel
    by_cases hlt : j < k
    · have c0 : wr.cell? ⟨w.heap.size, j, none⟩ = some (.int .u8 0) := by rw [hw.cell, row_get hlt]; simp
      have f0 := hw.thaw j
      have e1 : ((j : Int) < (k : Int)) = True := eq_true (by omega)
      go_wp2_with fail
      have ev : ((n : Int) / 2 ^ (8 * j) % 256) = (byteAt n j : Int) := by
        have e : (256 : Nat) ^ j = 2 ^ (8 * j) := by rw [Nat.pow_mul]
        unfold byteAt
        rw [e]
        simp
      rw [ev]
      go_roundw
      case rel =>
        refine ⟨j + 1, by omega, by go_num, ?_, grown_set hg (.inr (Nat.le_refl _)) _⟩
        rw [← row_set hlt]
        exact hw.set_ j _
      case measure => simp [intOf]; omega
    · obtain rfl : j = k := by omega
      have hcv : (convert 236 9 (.slice (some ⟨w.heap.size, 0, none⟩) j j)).run Try.prog wr = .ok (.string (layB n j)) wr := by
        have h := run_convert_bytes_back (P := Try.prog) wr 236 9 5 ⟨w.heap.size, 0, none⟩ j (layL n j) Try.underlying236 Try.underlying5 Try.underlying9 (fun i hi => by
          have hi' : i < j := by simpa [layL] using hi
          have ha : (⟨w.heap.size, 0, none⟩ : Addr).add i = ⟨w.heap.size, i, none⟩ := by unfold Addr.add; split <;> simp_all
          rw [ha, hw.cell, row_get hi', if_pos hi']
          simp [layL, byteAt])
        have hl : (layL n j).length = j := by simp [layL]
        rw [hl] at h
        exact h
      go_wp2_with fail
      go_ret
      exact ⟨rfl, hg⟩
end By
end Go.Proofs.Ytohphljhldcjbaa
