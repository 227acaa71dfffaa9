/- ScoreBounds: small facts on masks and on the bucket. -/
import Derived.Test.YtohphljhldcjbaaScI
import Derived.Laws.Bits128
namespace Go.Proofs.Ytohphljhldcjbaa
set_option linter.unusedVariables false
set_option linter.unusedSimpArgs false
open Go.RowKit Go.Maps
namespace Sc

theorem and_1023 (n : Int) : 0 ≤ bits .and .i64 n 1023 ∧ bits .and .i64 n 1023 ≤ 1023 := by
  have hm : (BitVec.ofInt 64 1023).toNat = 2 ^ 10 - 1 := by decide
  have key : (BitVec.ofInt 64 n &&& BitVec.ofInt 64 1023).toNat = (n % ((2 ^ 64 : Nat) : Int)).toNat % 2 ^ 10 := by
    rw [BitVec.toNat_and, BitVec.toNat_ofInt, hm, Nat.and_two_pow_sub_one_eq_mod]
  have e : bits .and .i64 n 1023 = IntKind.i64.wrap ((BitVec.ofInt 64 n &&& BitVec.ofInt 64 1023).toNat : Nat) := rfl
  rw [e, key, IntKind.wrap_i64]
  omega
theorem and_63 (n : Int) : 0 ≤ bits .and .i64 n 63 ∧ bits .and .i64 n 63 ≤ 63 := by
  have hm : (BitVec.ofInt 64 63).toNat = 2 ^ 6 - 1 := by decide
  have key : (BitVec.ofInt 64 n &&& BitVec.ofInt 64 63).toNat = (n % ((2 ^ 64 : Nat) : Int)).toNat % 2 ^ 6 := by
    rw [BitVec.toNat_and, BitVec.toNat_ofInt, hm, Nat.and_two_pow_sub_one_eq_mod]
  have e : bits .and .i64 n 63 = IntKind.i64.wrap ((BitVec.ofInt 64 n &&& BitVec.ofInt 64 63).toNat : Nat) := rfl
  rw [e, key, IntKind.wrap_i64]
  omega
theorem and_255 (n : Int) : 0 ≤ bits .and .i64 n 255 ∧ bits .and .i64 n 255 ≤ 255 := by
  have hm : (BitVec.ofInt 64 255).toNat = 2 ^ 8 - 1 := by decide
  have key : (BitVec.ofInt 64 n &&& BitVec.ofInt 64 255).toNat = (n % ((2 ^ 64 : Nat) : Int)).toNat % 2 ^ 8 := by
    rw [BitVec.toNat_and, BitVec.toNat_ofInt, hm, Nat.and_two_pow_sub_one_eq_mod]
  have e : bits .and .i64 n 255 = IntKind.i64.wrap ((BitVec.ofInt 64 n &&& BitVec.ofInt 64 255).toNat : Nat) := rfl
  rw [e, key, IntKind.wrap_i64]
  omega
theorem and_2047 (n : Int) : 0 ≤ bits .and .i64 n 2047 ∧ bits .and .i64 n 2047 ≤ 2047 := by
  have hm : (BitVec.ofInt 64 2047).toNat = 2 ^ 11 - 1 := by decide
  have key : (BitVec.ofInt 64 n &&& BitVec.ofInt 64 2047).toNat = (n % ((2 ^ 64 : Nat) : Int)).toNat % 2 ^ 11 := by
    rw [BitVec.toNat_and, BitVec.toNat_ofInt, hm, Nat.and_two_pow_sub_one_eq_mod]
  have e : bits .and .i64 n 2047 = IntKind.i64.wrap ((BitVec.ofInt 64 n &&& BitVec.ofInt 64 2047).toNat : Nat) := rfl
  rw [e, key, IntKind.wrap_i64]
  omega

/-- The law's invariant: what was taken, and what is there, is no more than the size, and the rate for each second. -/
theorem inv_no {size rate tok now all d : Int} (h : all + tok ≤ size + rate * now) (B : Bk size rate tok now) (h0 : 0 ≤ d) :
    all + hasF size rate tok now (now + d) ≤ size + rate * (now + d) := by
  have e : now + d - now = d := by omega
  have e2 : rate * (now + d) = rate * now + rate * d := Int.mul_add _ _ _
  have h3 : hasF size rate tok now (now + d) ≤ tok + rate * (now + d - now) := by unfold hasF; omega
  rw [e] at h3
  omega

theorem has_later {size rate tok time n : Int} (B : Bk size rate tok time) (h2 : n ≤ size) (hr : 1 ≤ rate) (ht : tok ≤ n) : n ≤ hasF size rate tok time (atF rate tok time n) := by
  have e : atF rate tok time n - time = (n - tok + rate - 1) / rate := by unfold atF; omega
  have h := Int.lt_ediv_add_one_mul_self (n - tok + rate - 1) (b := rate) (by omega)
  unfold hasF
  rw [e]
  have h4 : ((n - tok + rate - 1) / rate + 1) * rate = rate * ((n - tok + rate - 1) / rate) + rate := by rw [Int.add_mul, Int.mul_comm]; omega
  omega

theorem has_ahead {size rate tok time n : Int} (B : Bk size rate tok time) (hr : 1 ≤ rate) (ht : tok ≤ n) (hn : tok < n) : hasF size rate tok time (atF rate tok time n - 1) < n := by
  have e : atF rate tok time n - 1 - time = (n - tok + rate - 1) / rate - 1 := by unfold atF; omega
  have h := Int.ediv_mul_le (n - tok + rate - 1) (b := rate) (by omega)
  unfold hasF
  rw [e, Int.mul_sub, Int.mul_comm rate]
  omega

theorem at_after {size rate tok time now n : Int} (B : Bk size rate tok time) (h2 : n ≤ size) (n0 : time ≤ now) (hh : hasF size rate tok time now < n) (hr : 1 ≤ rate) : now < atF rate tok time n := by
  have hs := at_same B h2 n0 hh hr
  have : 1 ≤ (n - hasF size rate tok time now + rate - 1) / rate := (Int.le_ediv_iff_mul_le (by omega)).2 (by omega)
  omega

theorem at_most {size rate tok time n : Int} (B : Bk size rate tok time) (hr : 1 ≤ rate) (ht : tok ≤ n) : atF rate tok time n ≤ time + n := by
  have h : (n - tok + rate - 1) / rate ≤ n - tok := by
    have h1 : (n - tok + rate - 1) / rate < n - tok + 1 := Int.ediv_lt_of_lt_mul (by omega) (by
      have : (n - tok + 1) * rate = (n - tok) * rate + rate := by rw [Int.add_mul]; omega
      have h5 := Int.mul_le_mul_of_nonneg_left hr (show 0 ≤ n - tok by omega)
      omega)
    omega
  have := B.t0
  unfold atF
  omega

theorem tok_le_has {size rate tok time now : Int} (B : Bk size rate tok time) (n0 : time ≤ now) : tok ≤ hasF size rate tok time now := by
  have h : 0 ≤ rate * (now - time) := Int.mul_nonneg B.r0 (by omega)
  have := B.t1
  unfold hasF
  omega

/-- A copy, its world a letter. -/
theorem clone_abs (g : Nat) {size rate tok time : Int} (w : World) (hw : Whole w g 138 (cells size rate tok time)) :
    Calls Try.prog 19 #[.pointer (some ⟨g, 0, none⟩)] w fun e w' => e = .returned (.pointer (some ⟨w.heap.size, 0, none⟩)) ∧ Whole w' w.heap.size 138 (cells size rate tok time) ∧ w.grownBy w' none :=
  (clone_w g w hw).mono fun e w' ⟨he, hk⟩ => by
    rw [hk]
    exact ⟨he, Whole.fresh _ _ _, grown_alloc (grown_refl _ _) _⟩

theorem drewN_grown {w w' : World} (h : ∃ k, w' = w.drewN k) : w.grownBy w' none := by
  obtain ⟨k, rfl⟩ := h
  exact grown_drewN (grown_refl _ _) k
end Sc
end Go.Proofs.Ytohphljhldcjbaa
