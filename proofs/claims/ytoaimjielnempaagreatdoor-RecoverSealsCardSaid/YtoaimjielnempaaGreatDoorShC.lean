/- The words of a block. -/
import Derived.Test.YtoaimjielnempaaGreatDoorNsG
import Derived.LoopTactic
import Derived.IntWalk
import Derived.Deep.WholeRow
namespace Go.Proofs.YtoaimjielnempaaGreatDoor
set_option linter.unusedVariables false
set_option linter.unusedSimpArgs false
open Go.RowKit Go.Maps
namespace Sh
def u32s (l : List Nat) : Array Value := (l.map fun (n : Nat) => Value.int .u32 (n : Int)).toArray
def u8s (l : List Nat) : Array Value := (l.map fun (n : Nat) => Value.int .u8 (n : Int)).toArray
theorem u32s_get {l : List Nat} {i : Nat} (h : i < l.length) : (u32s l)[i]? = some (.int .u32 ((l.getD i 0 : Nat) : Int)) := by simp [u32s, List.getD, h]
theorem u8s_get {l : List Nat} {i : Nat} (h : i < l.length) : (u8s l)[i]? = some (.int .u8 ((l.getD i 0 : Nat) : Int)) := by simp [u8s, List.getD, h]
theorem u32s_set {l : List Nat} {i x : Nat} : (u32s l).setIfInBounds i (.int .u32 (x : Int)) = u32s (l.set i x) := by
  simp [u32s, List.map_set]
/-- The part of a word out of so many bytes. -/
def pw (blk : List Nat) (i : Nat) : Nat → Nat
  | 0 => 0
  | j + 1 => Nat.lor (Nat.mul (pw blk i j) 256) (blk.getD (4 * i + j) 0)
def wrow (blk : List Nat) (i j : Nat) : List Nat := (List.range 64).map fun k => if k < i then pw blk k 4 else if k = i then pw blk i j else 0
theorem wrow_len (blk : List Nat) (i j : Nat) : (wrow blk i j).length = 64 := by simp [wrow]
theorem wrow_get {blk : List Nat} {i j k : Nat} (h : k < 64) : (wrow blk i j).getD k 0 = if k < i then pw blk k 4 else if k = i then pw blk i j else 0 := by
  simp [wrow, List.getD, h]
theorem wrow_set {blk : List Nat} {i j : Nat} (h : i < 64) : (wrow blk i j).set i (pw blk i (j + 1)) = wrow blk i (j + 1) := by
  apply List.ext_getElem
  · simp [wrow]
  · intro k h1 h2
    rw [List.getElem_set]
    simp only [wrow, List.getElem_map, List.getElem_range]
    by_cases e : i = k
    · subst e; simp
    · rw [if_neg e]
      by_cases h3 : k < i
      · rw [if_pos h3, if_pos h3]
      · rw [if_neg h3, if_neg h3, if_neg (fun h => e h.symm), if_neg (fun h => e h.symm)]
theorem wrow_next {blk : List Nat} {i : Nat} : wrow blk i 4 = wrow blk (i + 1) 0 := by
  unfold wrow
  apply List.map_congr_left
  intro k _
  by_cases h : k < i
  · rw [if_pos h, if_pos (by omega)]
  · rw [if_neg h]
    by_cases e : k = i
    · subst e; rw [if_pos rfl, if_pos (by omega)]
    · rw [if_neg e, if_neg (by omega)]
      by_cases e2 : k = i + 1
      · rw [if_pos e2]; rfl
      · rw [if_neg e2]
theorem pw_lt {blk : List Nat} (hb : ∀ i, blk.getD i 0 < 256) (i : Nat) : ∀ j, j ≤ 4 → pw blk i j < 256 ^ j
  | 0, _ => by simp [pw]
  | j + 1, h => by
    have ih := pw_lt hb i j (by omega)
    have hx := hb (4 * i + j)
    unfold pw
    have h1 : (256 : Nat) ^ (j + 1) = 2 ^ (8 * (j + 1)) := by rw [Nat.pow_mul]
    rw [h1]
    refine Nat.or_lt_two_pow ?_ ?_
    · have : (256 : Nat) ^ j = 2 ^ (8 * j) := by rw [Nat.pow_mul]
      rw [this] at ih
      have h2 : (2 : Nat) ^ (8 * (j + 1)) = 2 ^ (8 * j) * 256 := by rw [show 8 * (j + 1) = 8 * j + 8 by omega, Nat.pow_add]
      rw [h2]
      exact Nat.mul_lt_mul_of_pos_right ih (by decide)
    · refine Nat.lt_of_lt_of_le hx ?_
      have : (2 : Nat) ^ 8 ≤ 2 ^ (8 * (j + 1)) := Nat.pow_le_pow_right (by decide) (by omega)
      simpa using this
set_option maxHeartbeats 4000000
set_option maxRecDepth 100000
theorem constants_any (w : World) : Calls Tryz.prog 274 #[] w fun e w' => e = .returned (.pointer (some ⟨w.heap.size, 0, none⟩)) ∧ w' = w.alloc (.cells (u32s ks) 205) := by
  go_enter Tryz.func274, Tryz.ntmps274
  go_wp2
  go_ret
  exact ⟨rfl, rfl⟩
end Sh
end Go.Proofs.YtoaimjielnempaaGreatDoor
