/- SHA-256 over plain numbers. A word turned to the right. Whole arrays loaded and stored. -/
import Derived.Test.YtoaimjielnempaaGreatDoorBase
import Derived.Laws.BitsAllLaws
import Derived.Deep.WholeRow
namespace Go.Proofs.YtoaimjielnempaaGreatDoor
set_option linter.unusedVariables false
set_option linter.unusedSimpArgs false
open Go.RowKit Go.Maps
namespace Sh

def m32 : Nat := 4294967296
/-- A word turned to the right. -/
def rot (x n : Nat) : Nat := Nat.lor (Nat.shiftRight x n) (Nat.mod (Nat.shiftLeft x (Nat.sub 32 n)) 4294967296)
def sig0 (b : Nat) : Nat := Nat.xor (Nat.xor (rot b 7) (rot b 18)) (Nat.shiftRight b 3)
def sig1 (a : Nat) : Nat := Nat.xor (Nat.xor (rot a 17) (rot a 19)) (Nat.shiftRight a 10)
def big0 (a : Nat) : Nat := Nat.xor (Nat.xor (rot a 2) (rot a 13)) (rot a 22)
def big1 (e : Nat) : Nat := Nat.xor (Nat.xor (rot e 6) (rot e 11)) (rot e 25)
def chf (e f g : Nat) : Nat := Nat.xor (Nat.land e f) (Nat.land (Nat.sub 4294967295 e) g)
def maj (a b c : Nat) : Nat := Nat.xor (Nat.xor (Nat.land a b) (Nat.land a c)) (Nat.land b c)
def add32 (a b : Nat) : Nat := Nat.mod (Nat.add a b) 4294967296

theorem rot_lt {x n : Nat} (hx : x < 4294967296) : rot x n < 4294967296 := by
  unfold rot
  refine Nat.or_lt_two_pow (n := 32) ?_ ?_
  · refine Nat.lt_of_le_of_lt ?_ hx
    show x >>> n ≤ x
    rw [Nat.shiftRight_eq_div_pow]
    exact Nat.div_le_self _ _
  · exact Nat.mod_lt _ (by decide)
theorem xor_lt {a b : Nat} (ha : a < 4294967296) (hb : b < 4294967296) : Nat.xor a b < 4294967296 := Nat.xor_lt_two_pow (n := 32) ha hb
theorem land_lt {a b : Nat} (ha : a < 4294967296) : Nat.land a b < 4294967296 := Nat.lt_of_le_of_lt Nat.and_le_left ha
theorem shr_lt {a n : Nat} (ha : a < 4294967296) : Nat.shiftRight a n < 4294967296 := by
  refine Nat.lt_of_le_of_lt ?_ ha
  show a >>> n ≤ a
  rw [Nat.shiftRight_eq_div_pow]
  exact Nat.div_le_self _ _
theorem add_lt (a b : Nat) : add32 a b < 4294967296 := Nat.mod_lt _ (by decide)
theorem sig0_lt {b : Nat} (h : b < 4294967296) : sig0 b < 4294967296 := xor_lt (xor_lt (rot_lt h) (rot_lt h)) (shr_lt h)
theorem sig1_lt {b : Nat} (h : b < 4294967296) : sig1 b < 4294967296 := xor_lt (xor_lt (rot_lt h) (rot_lt h)) (shr_lt h)
theorem big0_lt {b : Nat} (h : b < 4294967296) : big0 b < 4294967296 := xor_lt (xor_lt (rot_lt h) (rot_lt h)) (rot_lt h)
theorem big1_lt {b : Nat} (h : b < 4294967296) : big1 b < 4294967296 := xor_lt (xor_lt (rot_lt h) (rot_lt h)) (rot_lt h)
theorem chf_lt {e f g : Nat} (h : e < 4294967296) : chf e f g < 4294967296 := xor_lt (land_lt h) (land_lt (Nat.lt_of_le_of_lt (Nat.sub_le _ _) (by decide)))
theorem maj_lt {a b c : Nat} (h : a < 4294967296) (h' : b < 4294967296) : maj a b c < 4294967296 := xor_lt (xor_lt (land_lt h) (land_lt h)) (land_lt h')

/-- The words of a block. -/
def word4 (a b c d : Nat) : Nat := Nat.lor (Nat.mul (Nat.lor (Nat.mul (Nat.lor (Nat.mul a 256) b) 256) c) 256) d
def next (ws : List Nat) (t : Nat) : Nat := add32 (add32 (add32 (sig1 (ws.getD (t - 2) 0)) (ws.getD (t - 7) 0)) (sig0 (ws.getD (t - 15) 0))) (ws.getD (t - 16) 0)
/-- So many words. -/
def sched (w16 : List Nat) : Nat → List Nat
  | 0 => w16
  | n + 1 => sched w16 n ++ [next (sched w16 n) (16 + n)]
structure St where
  a : Nat
  b : Nat
  c : Nat
  d : Nat
  e : Nat
  f : Nat
  g : Nat
  h : Nat
def St.list (s : St) : List Nat := [s.a, s.b, s.c, s.d, s.e, s.f, s.g, s.h]
def St.ok (s : St) : Prop := s.a < 4294967296 ∧ s.b < 4294967296 ∧ s.c < 4294967296 ∧ s.d < 4294967296 ∧ s.e < 4294967296 ∧ s.f < 4294967296 ∧ s.g < 4294967296 ∧ s.h < 4294967296
def t1 (s : St) (k w : Nat) : Nat := add32 (add32 (add32 (add32 s.h (big1 s.e)) (chf s.e s.f s.g)) k) w
def rnd (s : St) (k w : Nat) : St := ⟨add32 (add32 (t1 s k w) (big0 s.a)) (maj s.a s.b s.c), s.a, s.b, s.c, add32 s.d (t1 s k w), s.e, s.f, s.g⟩
def rnds (s : St) (ks ws : List Nat) : Nat → St
  | 0 => s
  | n + 1 => rnd (rnds s ks ws n) (ks.getD n 0) (ws.getD n 0)
def sumS (s x : St) : St := ⟨add32 s.a x.a, add32 s.b x.b, add32 s.c x.c, add32 s.d x.d, add32 s.e x.e, add32 s.f x.f, add32 s.g x.g, add32 s.h x.h⟩
theorem rnd_ok {s : St} (k w : Nat) (h : s.ok) : (rnd s k w).ok := ⟨add_lt _ _, h.1, h.2.1, h.2.2.1, add_lt _ _, h.2.2.2.2.1, h.2.2.2.2.2.1, h.2.2.2.2.2.2.1⟩
theorem rnds_ok {s : St} (ks ws : List Nat) (h : s.ok) : ∀ n, (rnds s ks ws n).ok
  | 0 => h
  | n + 1 => rnd_ok _ _ (rnds_ok ks ws h n)
def ks : List Nat := [
  0x428a2f98, 0x71374491, 0xb5c0fbcf, 0xe9b5dba5, 0x3956c25b, 0x59f111f1, 0x923f82a4, 0xab1c5ed5,
  0xd807aa98, 0x12835b01, 0x243185be, 0x550c7dc3, 0x72be5d74, 0x80deb1fe, 0x9bdc06a7, 0xc19bf174,
  0xe49b69c1, 0xefbe4786, 0x0fc19dc6, 0x240ca1cc, 0x2de92c6f, 0x4a7484aa, 0x5cb0a9dc, 0x76f988da,
  0x983e5152, 0xa831c66d, 0xb00327c8, 0xbf597fc7, 0xc6e00bf3, 0xd5a79147, 0x06ca6351, 0x14292967,
  0x27b70a85, 0x2e1b2138, 0x4d2c6dfc, 0x53380d13, 0x650a7354, 0x766a0abb, 0x81c2c92e, 0x92722c85,
  0xa2bfe8a1, 0xa81a664b, 0xc24b8b70, 0xc76c51a3, 0xd192e819, 0xd6990624, 0xf40e3585, 0x106aa070,
  0x19a4c116, 0x1e376c08, 0x2748774c, 0x34b0bcb5, 0x391c0cb3, 0x4ed8aa4a, 0x5b9cca4f, 0x682e6ff3,
  0x748f82ee, 0x78a5636f, 0x84c87814, 0x8cc70208, 0x90befffa, 0xa4506ceb, 0xbef9a3f7, 0xc67178f2]
def first : St := ⟨0x6a09e667, 0xbb67ae85, 0x3c6ef372, 0xa54ff53a, 0x510e527f, 0x9b05688c, 0x1f83d9ab, 0x5be0cd19⟩
def words4 : Nat → List Nat → List Nat
  | 0, _ => []
  | n + 1, a :: b :: c :: d :: l => word4 a b c d :: words4 n l
  | _, _ => []
def step (x : St) (blk : List Nat) : St := sumS (rnds x ks (sched (words4 16 blk) 48) 64) x
theorem first_ok : first.ok := by refine ⟨?_, ?_, ?_, ?_, ?_, ?_, ?_, ?_⟩ <;> decide
theorem sum_ok (s x : St) : (sumS s x).ok := ⟨add_lt _ _, add_lt _ _, add_lt _ _, add_lt _ _, add_lt _ _, add_lt _ _, add_lt _ _, add_lt _ _⟩
end Sh
end Go.Proofs.YtoaimjielnempaaGreatDoor
namespace Go.Proofs.YtoaimjielnempaaGreatDoor
set_option linter.unusedVariables false
set_option linter.unusedSimpArgs false
open Go.RowKit Go.Maps
namespace Sh
set_option maxHeartbeats 1000000
set_option maxRecDepth 100000
theorem rot_bits (x n m : Nat) (hx : x < 4294967296) (hm : m = 32 - n) : bits BinOp.or IntKind.u32 ((x : Int) * ((2 ^ m : Nat) : Int) % 4294967296) ((x : Int) / ((2 ^ n : Nat) : Int)) = ((rot x n : Nat) : Int) := by
  have h1 : ((x : Int) * ((2 ^ m : Nat) : Int) % 4294967296) = ((x * 2 ^ m % 4294967296 : Nat) : Int) := by simp
  have h2 : ((x : Int) / ((2 ^ n : Nat) : Int)) = ((x / 2 ^ n : Nat) : Int) := by simp
  rw [h1, h2, u32_or_nat _ _ (Nat.mod_lt _ (by decide)) (Nat.lt_of_le_of_lt (Nat.div_le_self _ _) hx)]
  unfold rot
  have h3 : Nat.shiftLeft x (Nat.sub 32 n) = x * 2 ^ m := by rw [hm]; exact Nat.shiftLeft_eq x _
  have h4 : Nat.shiftRight x n = x / 2 ^ n := Nat.shiftRight_eq_div_pow x n
  rw [h3, h4]
  exact congrArg _ (Nat.or_comm _ _)
theorem rotl2 (x : Nat) (hx : x < 4294967296) (w : World) : Calls Tryz.prog 350 #[.int .u32 x, .int .i64 (-2)] w fun e w' => e = .returned (.int .u32 (rot x 2 : Nat)) ∧ w = w' := by
  have e0 : IntKind.u64.wrap (-2) = 18446744073709551614 := by decide
  have e1 : bits BinOp.and IntKind.u64 18446744073709551614 31 = 30 := by decide
  have e5 : bits BinOp.or IntKind.u32 ((x : Int) * 1073741824 % 4294967296) ((x : Int) / 4) = ((rot x 2 : Nat) : Int) := rot_bits x 2 30 hx rfl
  clear hx
  go_enter Tryz.func350, Tryz.ntmps350
  go_wp2
  go_ret
  exact ⟨rfl, rfl⟩
theorem turn2 (x : Nat) (hx : x < 4294967296) (w : World) : Calls Tryz.prog 275 #[.int .u32 x, .int .i64 2] w fun e w' => e = .returned (.int .u32 (rot x 2 : Nat)) ∧ w = w' := by
  go_enter Tryz.func275, Tryz.ntmps275
  go_wp2_with (go_at_call 350; refine (rotl2 x hx _).mono ?_; rintro e w' ⟨rfl, rfl⟩)
  go_ret
  exact ⟨rfl, rfl⟩
theorem rotl6 (x : Nat) (hx : x < 4294967296) (w : World) : Calls Tryz.prog 350 #[.int .u32 x, .int .i64 (-6)] w fun e w' => e = .returned (.int .u32 (rot x 6 : Nat)) ∧ w = w' := by
  have e0 : IntKind.u64.wrap (-6) = 18446744073709551610 := by decide
  have e1 : bits BinOp.and IntKind.u64 18446744073709551610 31 = 26 := by decide
  have e5 : bits BinOp.or IntKind.u32 ((x : Int) * 67108864 % 4294967296) ((x : Int) / 64) = ((rot x 6 : Nat) : Int) := rot_bits x 6 26 hx rfl
  clear hx
  go_enter Tryz.func350, Tryz.ntmps350
  go_wp2
  go_ret
  exact ⟨rfl, rfl⟩
theorem turn6 (x : Nat) (hx : x < 4294967296) (w : World) : Calls Tryz.prog 275 #[.int .u32 x, .int .i64 6] w fun e w' => e = .returned (.int .u32 (rot x 6 : Nat)) ∧ w = w' := by
  go_enter Tryz.func275, Tryz.ntmps275
  go_wp2_with (go_at_call 350; refine (rotl6 x hx _).mono ?_; rintro e w' ⟨rfl, rfl⟩)
  go_ret
  exact ⟨rfl, rfl⟩
theorem rotl7 (x : Nat) (hx : x < 4294967296) (w : World) : Calls Tryz.prog 350 #[.int .u32 x, .int .i64 (-7)] w fun e w' => e = .returned (.int .u32 (rot x 7 : Nat)) ∧ w = w' := by
  have e0 : IntKind.u64.wrap (-7) = 18446744073709551609 := by decide
  have e1 : bits BinOp.and IntKind.u64 18446744073709551609 31 = 25 := by decide
  have e5 : bits BinOp.or IntKind.u32 ((x : Int) * 33554432 % 4294967296) ((x : Int) / 128) = ((rot x 7 : Nat) : Int) := rot_bits x 7 25 hx rfl
  clear hx
  go_enter Tryz.func350, Tryz.ntmps350
  go_wp2
  go_ret
  exact ⟨rfl, rfl⟩
theorem turn7 (x : Nat) (hx : x < 4294967296) (w : World) : Calls Tryz.prog 275 #[.int .u32 x, .int .i64 7] w fun e w' => e = .returned (.int .u32 (rot x 7 : Nat)) ∧ w = w' := by
  go_enter Tryz.func275, Tryz.ntmps275
  go_wp2_with (go_at_call 350; refine (rotl7 x hx _).mono ?_; rintro e w' ⟨rfl, rfl⟩)
  go_ret
  exact ⟨rfl, rfl⟩
theorem rotl11 (x : Nat) (hx : x < 4294967296) (w : World) : Calls Tryz.prog 350 #[.int .u32 x, .int .i64 (-11)] w fun e w' => e = .returned (.int .u32 (rot x 11 : Nat)) ∧ w = w' := by
  have e0 : IntKind.u64.wrap (-11) = 18446744073709551605 := by decide
  have e1 : bits BinOp.and IntKind.u64 18446744073709551605 31 = 21 := by decide
  have e5 : bits BinOp.or IntKind.u32 ((x : Int) * 2097152 % 4294967296) ((x : Int) / 2048) = ((rot x 11 : Nat) : Int) := rot_bits x 11 21 hx rfl
  clear hx
  go_enter Tryz.func350, Tryz.ntmps350
  go_wp2
  go_ret
  exact ⟨rfl, rfl⟩
theorem turn11 (x : Nat) (hx : x < 4294967296) (w : World) : Calls Tryz.prog 275 #[.int .u32 x, .int .i64 11] w fun e w' => e = .returned (.int .u32 (rot x 11 : Nat)) ∧ w = w' := by
  go_enter Tryz.func275, Tryz.ntmps275
  go_wp2_with (go_at_call 350; refine (rotl11 x hx _).mono ?_; rintro e w' ⟨rfl, rfl⟩)
  go_ret
  exact ⟨rfl, rfl⟩
theorem rotl13 (x : Nat) (hx : x < 4294967296) (w : World) : Calls Tryz.prog 350 #[.int .u32 x, .int .i64 (-13)] w fun e w' => e = .returned (.int .u32 (rot x 13 : Nat)) ∧ w = w' := by
  have e0 : IntKind.u64.wrap (-13) = 18446744073709551603 := by decide
  have e1 : bits BinOp.and IntKind.u64 18446744073709551603 31 = 19 := by decide
  have e5 : bits BinOp.or IntKind.u32 ((x : Int) * 524288 % 4294967296) ((x : Int) / 8192) = ((rot x 13 : Nat) : Int) := rot_bits x 13 19 hx rfl
  clear hx
  go_enter Tryz.func350, Tryz.ntmps350
  go_wp2
  go_ret
  exact ⟨rfl, rfl⟩
theorem turn13 (x : Nat) (hx : x < 4294967296) (w : World) : Calls Tryz.prog 275 #[.int .u32 x, .int .i64 13] w fun e w' => e = .returned (.int .u32 (rot x 13 : Nat)) ∧ w = w' := by
  go_enter Tryz.func275, Tryz.ntmps275
  go_wp2_with (go_at_call 350; refine (rotl13 x hx _).mono ?_; rintro e w' ⟨rfl, rfl⟩)
  go_ret
  exact ⟨rfl, rfl⟩
theorem rotl17 (x : Nat) (hx : x < 4294967296) (w : World) : Calls Tryz.prog 350 #[.int .u32 x, .int .i64 (-17)] w fun e w' => e = .returned (.int .u32 (rot x 17 : Nat)) ∧ w = w' := by
  have e0 : IntKind.u64.wrap (-17) = 18446744073709551599 := by decide
  have e1 : bits BinOp.and IntKind.u64 18446744073709551599 31 = 15 := by decide
  have e5 : bits BinOp.or IntKind.u32 ((x : Int) * 32768 % 4294967296) ((x : Int) / 131072) = ((rot x 17 : Nat) : Int) := rot_bits x 17 15 hx rfl
  clear hx
  go_enter Tryz.func350, Tryz.ntmps350
  go_wp2
  go_ret
  exact ⟨rfl, rfl⟩
theorem turn17 (x : Nat) (hx : x < 4294967296) (w : World) : Calls Tryz.prog 275 #[.int .u32 x, .int .i64 17] w fun e w' => e = .returned (.int .u32 (rot x 17 : Nat)) ∧ w = w' := by
  go_enter Tryz.func275, Tryz.ntmps275
  go_wp2_with (go_at_call 350; refine (rotl17 x hx _).mono ?_; rintro e w' ⟨rfl, rfl⟩)
  go_ret
  exact ⟨rfl, rfl⟩
theorem rotl18 (x : Nat) (hx : x < 4294967296) (w : World) : Calls Tryz.prog 350 #[.int .u32 x, .int .i64 (-18)] w fun e w' => e = .returned (.int .u32 (rot x 18 : Nat)) ∧ w = w' := by
  have e0 : IntKind.u64.wrap (-18) = 18446744073709551598 := by decide
  have e1 : bits BinOp.and IntKind.u64 18446744073709551598 31 = 14 := by decide
  have e5 : bits BinOp.or IntKind.u32 ((x : Int) * 16384 % 4294967296) ((x : Int) / 262144) = ((rot x 18 : Nat) : Int) := rot_bits x 18 14 hx rfl
  clear hx
  go_enter Tryz.func350, Tryz.ntmps350
  go_wp2
  go_ret
  exact ⟨rfl, rfl⟩
theorem turn18 (x : Nat) (hx : x < 4294967296) (w : World) : Calls Tryz.prog 275 #[.int .u32 x, .int .i64 18] w fun e w' => e = .returned (.int .u32 (rot x 18 : Nat)) ∧ w = w' := by
  go_enter Tryz.func275, Tryz.ntmps275
  go_wp2_with (go_at_call 350; refine (rotl18 x hx _).mono ?_; rintro e w' ⟨rfl, rfl⟩)
  go_ret
  exact ⟨rfl, rfl⟩
theorem rotl19 (x : Nat) (hx : x < 4294967296) (w : World) : Calls Tryz.prog 350 #[.int .u32 x, .int .i64 (-19)] w fun e w' => e = .returned (.int .u32 (rot x 19 : Nat)) ∧ w = w' := by
  have e0 : IntKind.u64.wrap (-19) = 18446744073709551597 := by decide
  have e1 : bits BinOp.and IntKind.u64 18446744073709551597 31 = 13 := by decide
  have e5 : bits BinOp.or IntKind.u32 ((x : Int) * 8192 % 4294967296) ((x : Int) / 524288) = ((rot x 19 : Nat) : Int) := rot_bits x 19 13 hx rfl
  clear hx
  go_enter Tryz.func350, Tryz.ntmps350
  go_wp2
  go_ret
  exact ⟨rfl, rfl⟩
theorem turn19 (x : Nat) (hx : x < 4294967296) (w : World) : Calls Tryz.prog 275 #[.int .u32 x, .int .i64 19] w fun e w' => e = .returned (.int .u32 (rot x 19 : Nat)) ∧ w = w' := by
  go_enter Tryz.func275, Tryz.ntmps275
  go_wp2_with (go_at_call 350; refine (rotl19 x hx _).mono ?_; rintro e w' ⟨rfl, rfl⟩)
  go_ret
  exact ⟨rfl, rfl⟩
theorem rotl22 (x : Nat) (hx : x < 4294967296) (w : World) : Calls Tryz.prog 350 #[.int .u32 x, .int .i64 (-22)] w fun e w' => e = .returned (.int .u32 (rot x 22 : Nat)) ∧ w = w' := by
  have e0 : IntKind.u64.wrap (-22) = 18446744073709551594 := by decide
  have e1 : bits BinOp.and IntKind.u64 18446744073709551594 31 = 10 := by decide
  have e5 : bits BinOp.or IntKind.u32 ((x : Int) * 1024 % 4294967296) ((x : Int) / 4194304) = ((rot x 22 : Nat) : Int) := rot_bits x 22 10 hx rfl
  clear hx
  go_enter Tryz.func350, Tryz.ntmps350
  go_wp2
  go_ret
  exact ⟨rfl, rfl⟩
theorem turn22 (x : Nat) (hx : x < 4294967296) (w : World) : Calls Tryz.prog 275 #[.int .u32 x, .int .i64 22] w fun e w' => e = .returned (.int .u32 (rot x 22 : Nat)) ∧ w = w' := by
  go_enter Tryz.func275, Tryz.ntmps275
  go_wp2_with (go_at_call 350; refine (rotl22 x hx _).mono ?_; rintro e w' ⟨rfl, rfl⟩)
  go_ret
  exact ⟨rfl, rfl⟩
theorem rotl25 (x : Nat) (hx : x < 4294967296) (w : World) : Calls Tryz.prog 350 #[.int .u32 x, .int .i64 (-25)] w fun e w' => e = .returned (.int .u32 (rot x 25 : Nat)) ∧ w = w' := by
  have e0 : IntKind.u64.wrap (-25) = 18446744073709551591 := by decide
  have e1 : bits BinOp.and IntKind.u64 18446744073709551591 31 = 7 := by decide
  have e5 : bits BinOp.or IntKind.u32 ((x : Int) * 128 % 4294967296) ((x : Int) / 33554432) = ((rot x 25 : Nat) : Int) := rot_bits x 25 7 hx rfl
  clear hx
  go_enter Tryz.func350, Tryz.ntmps350
  go_wp2
  go_ret
  exact ⟨rfl, rfl⟩
theorem turn25 (x : Nat) (hx : x < 4294967296) (w : World) : Calls Tryz.prog 275 #[.int .u32 x, .int .i64 25] w fun e w' => e = .returned (.int .u32 (rot x 25 : Nat)) ∧ w = w' := by
  go_enter Tryz.func275, Tryz.ntmps275
  go_wp2_with (go_at_call 350; refine (rotl25 x hx _).mono ?_; rintro e w' ⟨rfl, rfl⟩)
  go_ret
  exact ⟨rfl, rfl⟩
end Sh
end Go.Proofs.YtoaimjielnempaaGreatDoor
namespace Go.Proofs.YtoaimjielnempaaGreatDoor
set_option linter.unusedVariables false
set_option linter.unusedSimpArgs false
open Go.RowKit Go.Maps
section
variable {P : Program} {w w' : World} {g g' : Nat} {t t' : TypeId} {cs cs' : Array Value} {rw0 : Option Nat}
theorem Whole.rowAt (h : Whole w g t cs) (c' : Array Value) : Whole (w.setRow g c') g t c' := setRow_heap w g cs c' t (0, 0) h
theorem Whole.row_aside (h : Whole w g t cs) (hne : g' ≠ g) (c' : Array Value) : Whole (w.setRow g' c') g t cs := by
  have h' : w.heap[g]? = some (.cells cs t (0, 0)) := h
  show (w.setRow g' c').heap[g]? = _
  simp [World.setRow, Array.getElem?_modify, h', hne]
theorem grown_row (h : w.grownBy w' rw0) (hp : some g = rw0 ∨ w.heap.size ≤ g) (c' : Array Value) : w.grownBy (w'.setRow g c') rw0 := by
  refine ⟨h.os, h.tape, h.output, by simpa [World.setRow] using h.size, fun k hk hne => ?_⟩
  have : g ≠ k := by
    rintro rfl
    rcases hp with e | e
    · exact hne e
    · omega
  rw [← h.block k hk hne]
  simp [World.setRow, Array.getElem?_modify, this]
theorem load_whole {ops : Array Oper} {rest : List Oper} {op : Oper} {a : Act} {Q : Exit → Act → World → Prop} (hgd : op.guard = none) (x : Operand) (ho : op.op = .load t x) (n : Nat) (e : TypeId) (hu : P.underlying t = some (.array n e)) (hi : (P.info? t).map (·.size) = some cs.size)
    (hx : a.eval x = .pointer (some ⟨g, 0, none⟩)) (hw : Whole w g t' cs) (h : wpList P ops Q rest (a.put op.dst (.agg cs)) w) : wpList P ops Q (op :: rest) a w := by
  refine wpList_plain hgd fun _ hK => ?_
  unfold Oper.wp execOp
  simp only [ho, hx, Instr.loadAt, Instr.sureAddr, Sem.run_bind, Sem.run_pure, Result.andThen_ok, run_loadVar_row w g t' t cs (0, 0) _ hw hu rfl hi]
  exact hK _ _ h
theorem store_whole {ops : Array Oper} {rest : List Oper} {op : Oper} {a : Act} {Q : Exit → Act → World → Prop} (hgd : op.guard = none) (x y : Operand) (ho : op.op = .store t x y) (hx : a.eval x = .pointer (some ⟨g, 0, none⟩)) (hy : a.eval y = .agg cs')
    (hi : (P.info? t).map (·.size) = some cs'.size) (hw : Whole w g t' cs) (hs : cs.size = cs'.size) (h1 : cs'.all (·.oneCell') = true) (h : wpList P ops Q rest (a.put op.dst undef) (w.setRow g cs')) : wpList P ops Q (op :: rest) a w := by
  refine wpList_plain hgd fun _ hK => ?_
  unfold Oper.wp execOp
  simp only [ho, hx, hy, Instr.storeAt, Instr.sureAddr, Sem.run_bind, Sem.run_pure, Result.andThen_ok, run_storeVar_row w g t' t cs cs' hw hi hs h1]
  exact hK _ _ h
end
end Go.Proofs.YtoaimjielnempaaGreatDoor
