/- num.take and the reference's: the number that bytes are. -/
import Derived.Test.YtohphljhldcjbaaByB
import Derived.LoopTactic
namespace Go.Proofs.Ytohphljhldcjbaa
set_option linter.unusedVariables false
set_option linter.unusedSimpArgs false
open Go.RowKit Go.Maps
namespace By

/-- The number that bytes are, the lowest first. -/
def numL : List UInt8 → Nat
  | [] => 0
  | x :: r => x.toNat + 256 * numL r
def numB (s : ByteArray) : Nat := numL s.data.toList

theorem numL_lt : ∀ l : List UInt8, numL l < 256 ^ l.length
  | [] => by simp [numL]
  | x :: r => by
    have h := numL_lt r
    have hx := x.toNat_lt
    simp only [numL, List.length_cons, Nat.pow_succ]
    omega
theorem numL_append (a b : List UInt8) : numL (a ++ b) = numL a + 256 ^ a.length * numL b := by
  induction a with
  | nil => simp [numL]
  | cons x r ih =>
    simp only [List.cons_append, numL, ih, List.length_cons, Nat.pow_succ, Nat.mul_add]
    rw [Nat.mul_comm (256 ^ r.length) 256, Nat.mul_assoc]
    omega
theorem numL_snoc {l : List UInt8} {k : Nat} (hk : k < l.length) : numL (l.take (k + 1)) = numL (l.take k) + 256 ^ k * l[k].toNat := by
  rw [List.take_succ_eq_append_getElem hk, numL_append]
  simp [numL, Nat.min_eq_left (Nat.le_of_lt hk)]
theorem numL_drop {l : List UInt8} {k : Nat} (hk : k < l.length) : numL (l.drop k) = l[k].toNat + 256 * numL (l.drop (k + 1)) := by
  rw [List.drop_eq_getElem_cons hk]
  rfl

theorem or_sum (n m i : Nat) (hn : n < 2 ^ i) (hs : n + m * 2 ^ i < 18446744073709551616) : bits .or .u64 (n : Int) ((m * 2 ^ i : Nat) : Int) = ((n + m * 2 ^ i : Nat) : Int) := by
  have e : bits .or .u64 (n : Int) ((m * 2 ^ i : Nat) : Int) = IntKind.u64.wrap ((BitVec.ofInt 64 (n : Int) ||| BitVec.ofInt 64 ((m * 2 ^ i : Nat) : Int)).toNat : Nat) := rfl
  have h1 : (BitVec.ofInt 64 (n : Int)).toNat = n := by
    rw [BitVec.toNat_ofInt]
    omega
  have h2 : (BitVec.ofInt 64 ((m * 2 ^ i : Nat) : Int)).toNat = m * 2 ^ i := by
    rw [BitVec.toNat_ofInt]
    omega
  have h3 : n ||| m * 2 ^ i = n + m * 2 ^ i := by
    rw [Nat.or_comm, Nat.mul_comm, ← Nat.two_pow_add_eq_or_of_lt hn, Nat.add_comm]
  rw [e, BitVec.toNat_or, h1, h2, h3]
  exact IntWalk.u64_in _ (by omega)
theorem pow_le {k : Nat} (hk : k ≤ 8) : 256 ^ k ≤ 18446744073709551616 := Nat.pow_le_pow_right (n := 256) (by decide) hk
theorem take_step {s : ByteArray} (hs : s.size ≤ 8) {k : Nat} (hk : k < s.size) :
    bits .or .u64 ((numL (s.data.toList.take k) : Nat) : Int) (IntKind.u64.wrap (IntKind.u64.wrap ((s[k].toNat : Nat) : Int) * 2 ^ (8 * k))) = ((numL (s.data.toList.take (k + 1)) : Nat) : Int) := by
  have hl : s.data.toList.length = s.size := by simp
  have hkl : k < s.data.toList.length := by omega
  have e0 : s.data.toList[k] = s[k] := by simp; rfl
  have h1 := numL_snoc hkl
  have h2 := numL_lt (s.data.toList.take k)
  have h3 := numL_lt (s.data.toList.take (k + 1))
  have h4 : (s.data.toList.take k).length = k := by rw [List.length_take]; omega
  have h5 : (s.data.toList.take (k + 1)).length = k + 1 := by rw [List.length_take]; omega
  have h6 : (256 : Nat) ^ k = 2 ^ (8 * k) := by rw [Nat.pow_mul]
  have h7 := pow_le (k := k + 1) (by omega)
  have h8 := s[k].toNat_lt
  rw [e0] at h1
  rw [h4] at h2
  rw [h5] at h3
  rw [h6, Nat.mul_comm] at h1
  rw [h6] at h2
  generalize numL (s.data.toList.take k) = n at *
  generalize numL (s.data.toList.take (k + 1)) = m at *
  generalize s[k].toNat = x at *
  have h9 : (256 : Nat) ^ (k + 1) ≤ 18446744073709551616 := h7
  generalize (256 : Nat) ^ (k + 1) = p at *
  have e1 : IntKind.u64.wrap (x : Int) = (x : Int) := IntWalk.u64_in _ (by omega)
  have e2 : ((x : Int) * 2 ^ (8 * k)) = ((x * 2 ^ (8 * k) : Nat) : Int) := by simp
  have e3 : IntKind.u64.wrap ((x * 2 ^ (8 * k) : Nat) : Int) = ((x * 2 ^ (8 * k) : Nat) : Int) := IntWalk.u64_in _ (by omega)
  rw [e1, e2, e3, or_sum n x (8 * k) h2 (by omega), h1]
theorem rtake_step {s : ByteArray} (hs : s.size ≤ 8) {k : Nat} (hk : k < s.size) :
    IntKind.u64.wrap (IntKind.u64.wrap (256 * ((numL (s.data.toList.drop (k + 1)) : Nat) : Int)) + IntKind.u64.wrap ((s[k].toNat : Nat) : Int)) = ((numL (s.data.toList.drop k) : Nat) : Int) := by
  have hl : s.data.toList.length = s.size := by simp
  have hkl : k < s.data.toList.length := by omega
  have e0 : s.data.toList[k] = s[k] := by simp; rfl
  have h1 := numL_drop hkl
  have h3 := numL_lt (s.data.toList.drop k)
  have h5 : (s.data.toList.drop k).length = s.size - k := by rw [List.length_drop]; omega
  have h7 := pow_le (k := s.size - k) (by omega)
  have h8 := s[k].toNat_lt
  rw [e0] at h1
  rw [h5] at h3
  generalize numL (s.data.toList.drop k) = n at *
  generalize numL (s.data.toList.drop (k + 1)) = m at *
  generalize s[k].toNat = x at *
  generalize (256 : Nat) ^ (s.size - k) = p at *
  rw [IntWalk.u64_in (256 * (m : Int)) (by omega), IntWalk.u64_in (x : Int) (by omega), IntWalk.u64_in _ (by omega)]
  omega

set_option maxHeartbeats 1000000 in
set_option maxRecDepth 100000 in
theorem take_any (s : ByteArray) (w : World) (hs : s.size ≤ 8) : Calls Try.prog 139 #[.string s] w fun e w' => e = .returned (.int .u64 (numB s)) ∧ w' = w := by
  have hsz : s.data.toList.length = s.size := by simp
  go_enter Try.func139, Try.ntmps139
  go_wp2_with fail
  go_loopw [3, 7] (fun n i wr => wr = w ∧ ∃ k : Nat, k ≤ s.size ∧ i = .int .i64 k ∧ n = .int .u64 ((numL (s.data.toList.take k) : Nat) : Int)) (fun _ i _ => s.size - (intOf i).toNat)
  case atStart => exact ⟨rfl, 0, Nat.zero_le _, rfl, rfl⟩
  case round =>
    obtain ⟨rfl, k, hk, rfl, rfl⟩ := hrel
    by_cases hlt : k < s.size
    · have e1 : ((k : Int) < (s.size : Int)) = True := eq_true (by omega)
      go_wp2_with fail
      rw [take_step hs hlt]
      go_roundw
      case rel => exact ⟨trivial, k + 1, by omega, by go_num, rfl⟩
      case measure => simp [intOf]; omega
    · obtain rfl : k = s.size := by omega
      have e1 : ((s.size : Int) < (s.size : Int)) = False := eq_false (by omega)
      have e2 : s.data.toList.take s.size = s.data.toList := List.take_of_length_le (by omega)
      rw [e2]
      go_wp2_with fail
      go_ret
      exact ⟨rfl, rfl⟩

set_option maxHeartbeats 1000000 in
set_option maxRecDepth 100000 in
theorem rtake_any (s : ByteArray) (w : World) (hs : s.size ≤ 8) : Calls Try.prog 93 #[.string s] w fun e w' => e = .returned (.int .u64 (numB s)) ∧ w' = w := by
  have hsz : s.data.toList.length = s.size := by simp
  go_enter Try.func93, Try.ntmps93
  go_wp2_with fail
  go_loopw [3, 4] (fun n i wr => wr = w ∧ ∃ k : Nat, k ≤ s.size ∧ i = .int .i64 ((k : Int) - 1) ∧ n = .int .u64 ((numL (s.data.toList.drop k) : Nat) : Int)) (fun _ i _ => (intOf i + 1).toNat)
  case atStart => exact ⟨rfl, s.size, Nat.le_refl _, by go_num, by rw [List.drop_of_length_le (by omega)]; rfl⟩
  case round =>
    obtain ⟨rfl, k, hk, rfl, rfl⟩ := hrel
    by_cases hlt : 0 < k
    · obtain ⟨j, rfl⟩ : ∃ j, k = j + 1 := ⟨k - 1, by omega⟩
      have hs1 := rtake_step hs (k := j) (by omega)
      have e0 : ((j + 1 : Nat) : Int) - 1 = (j : Int) := by omega
      rw [e0]
      have e1 : ((j : Int) < (s.size : Int)) = True := eq_true (by omega)
      go_wp2_with fail
      go_roundw
      case rel => exact ⟨trivial, j, by omega, rfl, rfl⟩
      case measure => simp [intOf]
    · obtain rfl : k = 0 := by omega
      go_wp2_with fail
      go_ret
      exact ⟨rfl, rfl⟩
end By
end Go.Proofs.Ytohphljhldcjbaa
