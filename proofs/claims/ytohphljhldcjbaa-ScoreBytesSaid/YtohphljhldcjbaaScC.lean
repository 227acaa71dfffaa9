/- The bucket's functions: When, Take, Clone, NewBucket, and the document's When: contracts. -/
import Derived.Test.YtohphljhldcjbaaScB
namespace Go.Proofs.Ytohphljhldcjbaa
open Go.RowKit Go.Maps
namespace Sc

set_option maxHeartbeats 400000 in
theorem when_no (g : Nat) (size time now n : Int) (w : World)
    (c0 : w.cell? ⟨g, 0, none⟩ = some (.int .i64 size)) (c3 : w.cell? ⟨g, 3, none⟩ = some (.int .i64 time))
    (hn : ¬ (0 ≤ n ∧ n ≤ size ∧ Sec now ∧ time ≤ now)) :
    Calls Try.prog 18 #[.pointer (some ⟨g, 0, none⟩), .int .i64 now, .int .i64 n] w fun e w' => e = .returned (.tuple #[.int .i64 0, .bool false]) ∧ w = w' := by
  by_cases h1 : n < 0
  · clear hn
    go_enter Try.func18, Try.ntmps18
    go_wp2
    go_ret2
    exact ⟨rfl, rfl⟩
  by_cases h2 : size < n
  · clear hn
    go_enter Try.func18, Try.ntmps18
    go_wp2
    go_ret2
    exact ⟨rfl, rfl⟩
  have h1' : 0 ≤ n := by omega
  have h2' : n ≤ size := by omega
  clear h1 h2
  by_cases h : Sec now
  · have h3 : now < time := by unfold Sec at *; omega
    have h4 := h.1
    have h5 := h.2
    clear hn h
    go_enter Try.func18, Try.ntmps18
    go_wp2_with (go_at_call 71; refine (second_yes _ _ h4 h5).mono ?_; rintro e w' ⟨rfl, rfl⟩)
    go_ret2
    exact ⟨rfl, rfl⟩
  · have H := Lib.hid h
    clear h hn
    go_enter Try.func18, Try.ntmps18
    go_wp2_with (go_at_call 71; refine (second_no _ _ H.out).mono ?_; rintro e w' ⟨rfl, rfl⟩)
    go_ret2
    exact ⟨rfl, rfl⟩

/-- What a bucket's numbers keep to. -/
structure Bk (size rate tok time : Int) : Prop where
  b0 : 1 ≤ size
  b1 : size ≤ 1099511627776
  r0 : 0 ≤ rate
  r1 : rate ≤ 1048576
  t0 : 0 ≤ tok
  t1 : tok ≤ size
  s0 : 0 ≤ time
  s1 : time ≤ 1099511627776

theorem prod_bd {size rate tok time now : Int} (B : Bk size rate tok time) (n0 : time ≤ now) (n1 : now ≤ 1099511627776) :
    0 ≤ rate * (now - time) ∧ rate * (now - time) ≤ 1152921504606846976 := by
  refine ⟨Int.mul_nonneg B.r0 (by omega), ?_⟩
  have h1 := B.s0
  have h2 : rate * (now - time) ≤ 1048576 * (now - time) := Int.mul_le_mul_of_nonneg_right B.r1 (by omega)
  omega

theorem has_bk (g : Nat) {size rate tok time : Int} (B : Bk size rate tok time) (now : Int) (w : World)
    (c0 : w.cell? ⟨g, 0, none⟩ = some (.int .i64 size)) (c1 : w.cell? ⟨g, 1, none⟩ = some (.int .i64 rate)) (c2 : w.cell? ⟨g, 2, none⟩ = some (.int .i64 tok)) (c3 : w.cell? ⟨g, 3, none⟩ = some (.int .i64 time))
    (n0 : time ≤ now) (n1 : now ≤ 1099511627776) :
    Calls Try.prog 16 #[.pointer (some ⟨g, 0, none⟩), .int .i64 now] w fun e w' => e = .returned (.int .i64 (hasF size rate tok time now)) ∧ ∃ n, w' = w.drewN n :=
  has_yes g size rate tok time now w c0 c1 c2 c3 B.b0 B.b1 B.r0 B.r1 B.t0 B.t1 B.s0 n0 n1 (prod_bd B n0 n1).1 (prod_bd B n0 n1).2

set_option maxHeartbeats 400000 in
theorem when_has (g : Nat) {size rate tok time : Int} (B : Bk size rate tok time) (now n : Int) (w : World)
    (c0 : w.cell? ⟨g, 0, none⟩ = some (.int .i64 size)) (c1 : w.cell? ⟨g, 1, none⟩ = some (.int .i64 rate)) (c2 : w.cell? ⟨g, 2, none⟩ = some (.int .i64 tok)) (c3 : w.cell? ⟨g, 3, none⟩ = some (.int .i64 time))
    (h1 : 0 ≤ n) (h2 : n ≤ size) (s0 : 0 ≤ now) (n0 : time ≤ now) (n1 : now ≤ 1099511627776) (hh : n ≤ hasF size rate tok time now) :
    Calls Try.prog 18 #[.pointer (some ⟨g, 0, none⟩), .int .i64 now, .int .i64 n] w fun e w' => e = .returned (.tuple #[.int .i64 now, .bool true]) ∧ ∃ k, w' = w.drewN k := by
  go_enter Try.func18, Try.ntmps18
  go_wp2_with (first | (go_at_call 71; refine (second_yes _ _ s0 n1).mono ?_; rintro e w' ⟨rfl, rfl⟩) | (go_at_call 16; refine (has_bk g B now _ c0 c1 c2 c3 n0 n1).mono ?_; rintro e w' ⟨rfl, k, rfl⟩))
  go_ret2
  exact ⟨rfl, k, rfl⟩

set_option maxHeartbeats 400000 in
theorem when_zero (g : Nat) {size rate tok time : Int} (B : Bk size rate tok time) (now n : Int) (w : World)
    (c0 : w.cell? ⟨g, 0, none⟩ = some (.int .i64 size)) (c1 : w.cell? ⟨g, 1, none⟩ = some (.int .i64 rate)) (c2 : w.cell? ⟨g, 2, none⟩ = some (.int .i64 tok)) (c3 : w.cell? ⟨g, 3, none⟩ = some (.int .i64 time))
    (h1 : 0 ≤ n) (h2 : n ≤ size) (s0 : 0 ≤ now) (n0 : time ≤ now) (n1 : now ≤ 1099511627776) (hh : hasF size rate tok time now < n) (hr : rate = 0) :
    Calls Try.prog 18 #[.pointer (some ⟨g, 0, none⟩), .int .i64 now, .int .i64 n] w fun e w' => e = .returned (.tuple #[.int .i64 0, .bool false]) ∧ ∃ k, w' = w.drewN k := by
  subst hr
  go_enter Try.func18, Try.ntmps18
  go_wp2_with (first | (go_at_call 71; refine (second_yes _ _ s0 n1).mono ?_; rintro e w' ⟨rfl, rfl⟩) | (go_at_call 16; refine (has_bk g B now _ c0 c1 c2 c3 n0 n1).mono ?_; rintro e w' ⟨rfl, k, rfl⟩))
  go_ret2
  exact ⟨rfl, k, rfl⟩

def atF (rate tok time n : Int) : Int := time + (n - tok + rate - 1) / rate

theorem atF_bd {size rate tok time now n : Int} (B : Bk size rate tok time) (h2 : n ≤ size) (n0 : time ≤ now) (hh : hasF size rate tok time now < n) (hr : 1 ≤ rate) :
    tok ≤ n ∧ 0 ≤ (n - tok + rate - 1) / rate ∧ (n - tok + rate - 1) / rate ≤ 1099512676352 := by
  have hp : 0 ≤ rate * (now - time) := Int.mul_nonneg B.r0 (by omega)
  have ht : tok ≤ n := by
    have := B.t1
    unfold hasF at hh
    omega
  refine ⟨ht, Int.ediv_nonneg (by omega) (by omega), ?_⟩
  have h := Int.ediv_le_self (a := n - tok + rate - 1) rate (by omega)
  have := B.b1
  have := B.r1
  have := B.t0
  omega

set_option maxHeartbeats 800000 in
theorem when_at (g : Nat) {size rate tok time : Int} (B : Bk size rate tok time) (now n : Int) (w : World)
    (c0 : w.cell? ⟨g, 0, none⟩ = some (.int .i64 size)) (c1 : w.cell? ⟨g, 1, none⟩ = some (.int .i64 rate)) (c2 : w.cell? ⟨g, 2, none⟩ = some (.int .i64 tok)) (c3 : w.cell? ⟨g, 3, none⟩ = some (.int .i64 time))
    (h1 : 0 ≤ n) (h2 : n ≤ size) (s0 : 0 ≤ now) (n0 : time ≤ now) (n1 : now ≤ 1099511627776) (hh : hasF size rate tok time now < n) (hr : 1 ≤ rate) (ha : atF rate tok time n ≤ 1099511627776) :
    Calls Try.prog 18 #[.pointer (some ⟨g, 0, none⟩), .int .i64 now, .int .i64 n] w fun e w' => e = .returned (.tuple #[.int .i64 (atF rate tok time n), .bool true]) ∧ ∃ k, w' = w.drewN k := by
  obtain ⟨q0, q1, q2⟩ := atF_bd B h2 n0 hh hr
  have b1 := B.b1
  have r1 := B.r1
  have t0 := B.t0
  have z0 := B.s0
  have z1 := B.s1
  have ha0 : 0 ≤ time + (n - tok + rate - 1) / rate := by omega
  have ha1 : time + (n - tok + rate - 1) / rate ≤ 1099511627776 := ha
  clear ha
  go_enter Try.func18, Try.ntmps18
  go_wp2_with (first | (go_at_call 71; refine (second_yes _ _ s0 n1).mono ?_; rintro e w' ⟨rfl, rfl⟩) | (go_at_call 16; refine (has_bk g B now _ c0 c1 c2 c3 n0 n1).mono ?_; rintro e w' ⟨rfl, k, rfl⟩))
  go_quiet (fail)
  go_wp2_with (go_at_call 71; refine (second_yes _ _ ha0 ha1).mono ?_; rintro e w' ⟨rfl, rfl⟩)
  go_ret2
  exact ⟨rfl, _, rfl⟩
theorem ret_pair {a b : Value} {c d : Value} (h : a = c) (h' : b = d) : Ending.returned (.tuple #[a, b]) = .returned (.tuple #[c, d]) := by rw [h, h']

set_option maxHeartbeats 800000 in
theorem when_late (g : Nat) {size rate tok time : Int} (B : Bk size rate tok time) (now n : Int) (w : World)
    (c0 : w.cell? ⟨g, 0, none⟩ = some (.int .i64 size)) (c1 : w.cell? ⟨g, 1, none⟩ = some (.int .i64 rate)) (c2 : w.cell? ⟨g, 2, none⟩ = some (.int .i64 tok)) (c3 : w.cell? ⟨g, 3, none⟩ = some (.int .i64 time))
    (h1 : 0 ≤ n) (h2 : n ≤ size) (s0 : 0 ≤ now) (n0 : time ≤ now) (n1 : now ≤ 1099511627776) (hh : hasF size rate tok time now < n) (hr : 1 ≤ rate) (ha : 1099511627776 < atF rate tok time n) :
    Calls Try.prog 18 #[.pointer (some ⟨g, 0, none⟩), .int .i64 now, .int .i64 n] w fun e w' => e = .returned (.tuple #[.int .i64 0, .bool false]) ∧ ∃ k, w' = w.drewN k := by
  obtain ⟨q0, q1, q2⟩ := atF_bd B h2 n0 hh hr
  have b1 := B.b1
  have r1 := B.r1
  have t0 := B.t0
  have z0 := B.s0
  have z1 := B.s1
  have ha0 : 0 ≤ time + (n - tok + rate - 1) / rate := by omega
  have ha1 : 1099511627776 < time + (n - tok + rate - 1) / rate := ha
  have hs : ¬ Sec (time + (n - tok + rate - 1) / rate) := by unfold Sec; omega
  have HS := Lib.hid hs
  clear ha hs
  go_enter Try.func18, Try.ntmps18
  go_wp2_with (first | (go_at_call 71; refine (second_yes _ _ s0 n1).mono ?_; rintro e w' ⟨rfl, rfl⟩) | (go_at_call 16; refine (has_bk g B now _ c0 c1 c2 c3 n0 n1).mono ?_; rintro e w' ⟨rfl, k, rfl⟩))
  go_quiet (fail)
  go_wp2_with (go_at_call 71; refine (second_no _ _ HS.out).mono ?_; rintro e w' ⟨rfl, rfl⟩)
  go_ret2
  exact ⟨rfl, _, rfl⟩

set_option maxHeartbeats 400000 in
theorem clone_any (g : Nat) (size rate tok time : Int) (w : World)
    (c0 : w.cell? ⟨g, 0, none⟩ = some (.int .i64 size)) (c1 : w.cell? ⟨g, 1, none⟩ = some (.int .i64 rate)) (c2 : w.cell? ⟨g, 2, none⟩ = some (.int .i64 tok)) (c3 : w.cell? ⟨g, 3, none⟩ = some (.int .i64 time)) :
    Calls Try.prog 19 #[.pointer (some ⟨g, 0, none⟩)] w fun e w' => e = .returned (.pointer (some ⟨w.heap.size, 0, none⟩)) ∧ w' = w.alloc (.cells #[.int .i64 size, .int .i64 rate, .int .i64 tok, .int .i64 time] 138) := by
  go_enter Try.func19, Try.ntmps19
  go_wp2
  go_ret
  exact ⟨rfl, rfl⟩

set_option maxHeartbeats 400000 in
theorem make_yes (size rate now : Int) (w : World) (b0 : 1 ≤ size) (b1 : size ≤ 1099511627776) (r0 : 0 ≤ rate) (r1 : rate ≤ 1048576) (s0 : 0 ≤ now) (s1 : now ≤ 1099511627776) :
    Calls Try.prog 13 #[.int .i64 size, .int .i64 rate, .int .i64 now] w fun e w' => e = .returned (.tuple #[.pointer (some ⟨w.heap.size, 0, none⟩), .int .i64 0]) ∧ w' = w.alloc (.cells #[.int .i64 size, .int .i64 rate, .int .i64 size, .int .i64 now] 138) := by
  go_enter Try.func13, Try.ntmps13
  go_wp2_with (go_at_call 71; refine (second_yes _ _ s0 s1).mono ?_; rintro e w' ⟨rfl, rfl⟩)
  go_ret2
  exact ⟨rfl, rfl⟩

set_option maxHeartbeats 400000 in
theorem make_late (size rate now : Int) (w : World) (b0 : 1 ≤ size) (b1 : size ≤ 1099511627776) (r0 : 0 ≤ rate) (r1 : rate ≤ 1048576) (hs : ¬ Sec now) :
    Calls Try.prog 13 #[.int .i64 size, .int .i64 rate, .int .i64 now] w fun e w' => e = .returned (.tuple #[.pointer none, .int .i64 1]) ∧ w = w' := by
  have HS := Lib.hid hs
  clear hs
  go_enter Try.func13, Try.ntmps13
  go_wp2_with (go_at_call 71; refine (second_no _ _ HS.out).mono ?_; rintro e w' ⟨rfl, rfl⟩)
  go_ret2
  exact ⟨rfl, rfl⟩

set_option maxHeartbeats 400000 in
theorem make_no (size rate now : Int) (w : World) (h : size < 1 ∨ 1099511627776 < size ∨ rate < 0 ∨ 1048576 < rate) :
    Calls Try.prog 13 #[.int .i64 size, .int .i64 rate, .int .i64 now] w fun e w' => e = .returned (.tuple #[.pointer none, .int .i64 1]) ∧ w = w' := by
  by_cases h1 : size < 1
  · clear h; go_enter Try.func13, Try.ntmps13; go_wp2; go_ret2; exact ⟨rfl, rfl⟩
  by_cases h2 : 1099511627776 < size
  · clear h; go_enter Try.func13, Try.ntmps13; go_wp2; go_ret2; exact ⟨rfl, rfl⟩
  have g1 : 1 ≤ size := by omega
  have g2 : size ≤ 1099511627776 := by omega
  by_cases h3 : rate < 0
  · clear h h1 h2; go_enter Try.func13, Try.ntmps13; go_wp2; go_ret2; exact ⟨rfl, rfl⟩
  have h4 : 1048576 < rate := by omega
  have g3 : 0 ≤ rate := by omega
  clear h h1 h2 h3; go_enter Try.func13, Try.ntmps13; go_wp2; go_ret2; exact ⟨rfl, rfl⟩

/-- The document's When, where it has enough. -/
theorem refwhen_has {size rate tok time : Int} (B : Bk size rate tok time) (now n : Int) (w : World) (n0 : time ≤ now) (n1 : now ≤ 1099511627776) (hh : n ≤ hasF size rate tok time now) :
    Calls Try.prog 73 #[.agg #[.int .i64 size, .int .i64 rate, .int .i64 tok, .int .i64 time], .int .i64 now, .int .i64 n] w fun e w' => e = .returned (.tuple #[.int .i64 now, .bool true]) ∧ w' = (w.alloc (.cells #[.int .i64 size, .int .i64 rate, .int .i64 tok, .int .i64 time] 29)).alloc (.cells #[.int .i64 size, .int .i64 rate, .int .i64 tok, .int .i64 time] 29) := by
  go_enter Try.func73, Try.ntmps73
  go_wp2_with (go_at_call 17; refine (at_any _ _ _ _ _ _ B.b0 B.b1 B.r0 B.r1 B.t0 B.t1 B.s0 n0 n1).mono ?_; rintro e w' ⟨rfl, rfl⟩)
  go_ret2
  exact ⟨rfl, rfl⟩

theorem refwhen_none {size rate tok time : Int} (B : Bk size rate tok time) (now n : Int) (w : World) (n0 : time ≤ now) (n1 : now ≤ 1099511627776) (hh : hasF size rate tok time now < n) (h : size < n ∨ rate = 0) :
    Calls Try.prog 73 #[.agg #[.int .i64 size, .int .i64 rate, .int .i64 tok, .int .i64 time], .int .i64 now, .int .i64 n] w fun e w' => e = .returned (.tuple #[.int .i64 0, .bool false]) ∧ w' = (w.alloc (.cells #[.int .i64 size, .int .i64 rate, .int .i64 tok, .int .i64 time] 29)).alloc (.cells #[.int .i64 size, .int .i64 rate, .int .i64 tok, .int .i64 time] 29) := by
  by_cases h1 : size < n
  · clear h
    go_enter Try.func73, Try.ntmps73
    go_wp2_with (go_at_call 17; refine (at_any _ _ _ _ _ _ B.b0 B.b1 B.r0 B.r1 B.t0 B.t1 B.s0 n0 n1).mono ?_; rintro e w' ⟨rfl, rfl⟩)
    go_ret2
    exact ⟨rfl, rfl⟩
  · obtain rfl : rate = 0 := by omega
    have h2 : n ≤ size := by omega
    clear h h1
    go_enter Try.func73, Try.ntmps73
    go_wp2_with (go_at_call 17; refine (at_any _ _ _ _ _ _ B.b0 B.b1 B.r0 B.r1 B.t0 B.t1 B.s0 n0 n1).mono ?_; rintro e w' ⟨rfl, rfl⟩)
    go_ret2
    exact ⟨rfl, rfl⟩

theorem at_same {size rate tok time now n : Int} (B : Bk size rate tok time) (h2 : n ≤ size) (n0 : time ≤ now) (hh : hasF size rate tok time now < n) (hr : 1 ≤ rate) :
    now + (n - hasF size rate tok time now + rate - 1) / rate = atF rate tok time n := by
  have e : hasF size rate tok time now = tok + rate * (now - time) := by unfold hasF at *; omega
  rw [e]
  unfold atF
  have e2 : n - (tok + rate * (now - time)) + rate - 1 = (n - tok + rate - 1) + (-(now - time)) * rate := by
    rw [Int.neg_mul, Int.mul_comm rate]; omega
  rw [e2, Int.add_mul_ediv_right _ _ (by omega)]
  omega

theorem refwhen_facts {size rate tok time now n : Int} (B : Bk size rate tok time) (n0 : time ≤ now) (n1 : now ≤ 1099511627776) (hh : hasF size rate tok time now < n) (hr : 1 ≤ rate) :
    0 ≤ hasF size rate tok time now ∧ 0 ≤ (n - hasF size rate tok time now + rate - 1) / rate ∧ (n - hasF size rate tok time now + rate - 1) / rate ≤ n - hasF size rate tok time now + rate - 1 := by
  have hb : 0 ≤ hasF size rate tok time now := by
    have := B.t0
    have := B.b0
    have := (prod_bd B n0 n1).1
    unfold hasF; omega
  exact ⟨hb, Int.ediv_nonneg (by omega) (by omega), Int.ediv_le_self _ (by omega)⟩

set_option maxHeartbeats 800000 in
theorem refwhen_at {size rate tok time : Int} (B : Bk size rate tok time) (now n : Int) (w : World) (s0 : 0 ≤ now) (n0 : time ≤ now) (n1 : now ≤ 1099511627776) (hh : hasF size rate tok time now < n) (h2 : n ≤ size) (hr : 1 ≤ rate)
    (ha : atF rate tok time n ≤ 1099511627776) :
    Calls Try.prog 73 #[.agg #[.int .i64 size, .int .i64 rate, .int .i64 tok, .int .i64 time], .int .i64 now, .int .i64 n] w fun e w' =>
      e = .returned (.tuple #[.int .i64 (atF rate tok time n), .bool true]) ∧ w' = (w.alloc (.cells #[.int .i64 size, .int .i64 rate, .int .i64 tok, .int .i64 time] 29)).alloc (.cells #[.int .i64 size, .int .i64 rate, .int .i64 tok, .int .i64 time] 29) := by
  have hs := at_same B h2 n0 hh hr
  obtain ⟨hb, q0, q1⟩ := refwhen_facts B n0 n1 hh hr
  have b1 := B.b1
  have r1 := B.r1
  generalize hx : hasF size rate tok time now = x at *
  rw [← hs] at ha ⊢
  have X := Lib.hid hx
  clear hs hx
  have hr0 : (rate == 0) = false := beq_eq_false_iff_ne.2 (by omega)
  go_enter Try.func73, Try.ntmps73
  go_wp2_with (go_at_call 17; refine (at_any _ _ _ _ _ _ B.b0 B.b1 B.r0 B.r1 B.t0 B.t1 B.s0 n0 n1).mono ?_; rintro e w' ⟨rfl, rfl⟩; rw [X.out])
  go_ret2
  exact ⟨rfl, rfl⟩

set_option maxHeartbeats 800000 in
theorem refwhen_late {size rate tok time : Int} (B : Bk size rate tok time) (now n : Int) (w : World) (s0 : 0 ≤ now) (n0 : time ≤ now) (n1 : now ≤ 1099511627776) (hh : hasF size rate tok time now < n) (h2 : n ≤ size) (hr : 1 ≤ rate)
    (ha : 1099511627776 < atF rate tok time n) :
    Calls Try.prog 73 #[.agg #[.int .i64 size, .int .i64 rate, .int .i64 tok, .int .i64 time], .int .i64 now, .int .i64 n] w fun e w' =>
      e = .returned (.tuple #[.int .i64 0, .bool false]) ∧ w' = (w.alloc (.cells #[.int .i64 size, .int .i64 rate, .int .i64 tok, .int .i64 time] 29)).alloc (.cells #[.int .i64 size, .int .i64 rate, .int .i64 tok, .int .i64 time] 29) := by
  have hs := at_same B h2 n0 hh hr
  obtain ⟨hb, q0, q1⟩ := refwhen_facts B n0 n1 hh hr
  have b1 := B.b1
  have r1 := B.r1
  generalize hx : hasF size rate tok time now = x at *
  rw [← hs] at ha
  have X := Lib.hid hx
  clear hs hx
  have hr0 : (rate == 0) = false := beq_eq_false_iff_ne.2 (by omega)
  go_enter Try.func73, Try.ntmps73
  go_wp2_with (go_at_call 17; refine (at_any _ _ _ _ _ _ B.b0 B.b1 B.r0 B.r1 B.t0 B.t1 B.s0 n0 n1).mono ?_; rintro e w' ⟨rfl, rfl⟩; rw [X.out])
  go_ret2
  exact ⟨rfl, rfl⟩
end Sc
end Go.Proofs.Ytohphljhldcjbaa
