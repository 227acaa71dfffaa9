/- The bucket's functions: contracts. -/
import Derived.Test.YtohphljhldcjbaaScA
namespace Go.Proofs.Ytohphljhldcjbaa
open Go.RowKit Go.Maps
namespace Sc

/-- A second. -/
def Sec (n : Int) : Prop := 0 ≤ n ∧ n ≤ 1099511627776

set_option maxHeartbeats 400000 in
theorem second_yes (n : Int) (w : World) (h0 : 0 ≤ n) (h1 : n ≤ 1099511627776) : Calls Try.prog 71 #[.int .i64 n] w fun e w' => e = .returned (.bool true) ∧ w = w' := by
  go_enter Try.func71, Try.ntmps71
  go_wp2
  go_ret
  exact ⟨rfl, rfl⟩

set_option maxHeartbeats 400000 in
theorem second_no (n : Int) (w : World) (h : ¬ Sec n) : Calls Try.prog 71 #[.int .i64 n] w fun e w' => e = .returned (.bool false) ∧ w = w' := by
  unfold Sec at h
  by_cases h0 : 0 ≤ n
  · have h1 : 1099511627776 < n := by omega
    clear h
    go_enter Try.func71, Try.ntmps71
    go_wp2
    go_ret
    exact ⟨ret_bool (decide_eq_false (by omega)), rfl⟩
  · have h1 : n < 0 := by omega
    clear h h0
    go_enter Try.func71, Try.ntmps71
    go_wp2
    go_ret
    exact ⟨rfl, rfl⟩

def hasF (size rate tok time now : Int) : Int := min size (tok + rate * (now - time))

set_option maxHeartbeats 400000 in
theorem has_yes (g : Nat) (size rate tok time now : Int) (w : World)
    (c0 : w.cell? ⟨g, 0, none⟩ = some (.int .i64 size)) (c1 : w.cell? ⟨g, 1, none⟩ = some (.int .i64 rate)) (c2 : w.cell? ⟨g, 2, none⟩ = some (.int .i64 tok)) (c3 : w.cell? ⟨g, 3, none⟩ = some (.int .i64 time))
    (b0 : 1 ≤ size) (b1 : size ≤ 1099511627776) (r0 : 0 ≤ rate) (r1 : rate ≤ 1048576) (t0 : 0 ≤ tok) (t1 : tok ≤ size) (s0 : 0 ≤ time) (n0 : time ≤ now) (n1 : now ≤ 1099511627776)
    (p0 : 0 ≤ rate * (now - time)) (p1 : rate * (now - time) ≤ 1152921504606846976) :
    Calls Try.prog 16 #[.pointer (some ⟨g, 0, none⟩), .int .i64 now] w fun e w' => e = .returned (.int .i64 (hasF size rate tok time now)) ∧ ∃ n, w' = w.drewN n := by
  have n00 : 0 ≤ now := by omega
  go_enter Try.func16, Try.ntmps16
  go_wp2_with (go_at_call 71; refine (second_yes _ _ n00 n1).mono ?_; rintro e w' ⟨rfl, rfl⟩)
  go_quiet (fail)
  go_wp2
  all_goals (go_ret; exact ⟨ret_int (by unfold hasF; omega), _, rfl⟩)

set_option maxHeartbeats 400000 in
theorem has_no (g : Nat) (time now : Int) (w : World) (c3 : w.cell? ⟨g, 3, none⟩ = some (.int .i64 time))
    (hn : ¬ (Sec now ∧ time ≤ now)) :
    Calls Try.prog 16 #[.pointer (some ⟨g, 0, none⟩), .int .i64 now] w fun e w' => e = .returned (.int .i64 0) ∧ w = w' := by
  by_cases h : Sec now
  · have h1 : now < time := by unfold Sec at *; omega
    have h2 := h.1
    have h3 := h.2
    clear hn h
    go_enter Try.func16, Try.ntmps16
    go_wp2_with (go_at_call 71; refine (second_yes _ _ h2 h3).mono ?_; rintro e w' ⟨rfl, rfl⟩)
    go_ret
    exact ⟨rfl, rfl⟩
  · have hs := second_no now w h
    have H := Lib.hid h
    clear h hn
    go_enter Try.func16, Try.ntmps16
    go_wp2_with (go_at_call 71; refine (second_no _ _ H.out).mono ?_; rintro e w' ⟨rfl, rfl⟩)
    go_ret
    exact ⟨rfl, rfl⟩

theorem mul_lt_of_div_lt {s r d : Int} (hr : 0 < r) (h : s / r < d) : s < r * d := by
  have := Int.lt_mul_of_ediv_lt hr h
  rw [Int.mul_comm] at this
  exact this

theorem le_of_le_div {s r d : Int} (hr : 0 < r) (h : d ≤ s / r) : r * d ≤ s := by
  have := Int.mul_le_of_le_ediv hr h
  rw [Int.mul_comm] at this
  exact this

set_option maxHeartbeats 400000 in
theorem at_any (size rate tok time now : Int) (w : World)
    (b0 : 1 ≤ size) (b1 : size ≤ 1099511627776) (r0 : 0 ≤ rate) (r1 : rate ≤ 1048576) (t0 : 0 ≤ tok) (t1 : tok ≤ size) (s0 : 0 ≤ time) (n0 : time ≤ now) (n1 : now ≤ 1099511627776) :
    Calls Try.prog 17 #[.agg #[.int .i64 size, .int .i64 rate, .int .i64 tok, .int .i64 time], .int .i64 now] w fun e w' => e = .returned (.int .i64 (hasF size rate tok time now)) ∧ w' = w.alloc (.cells #[.int .i64 size, .int .i64 rate, .int .i64 tok, .int .i64 time] 29) := by
  have hz : rate = 0 ∨ 1 ≤ rate := by omega
  have hd0 : 0 ≤ now - time := by omega
  rcases hz with rfl | hr
  · have e0 : (0 : Int) * (now - time) = 0 := by simp
    have E := Lib.hid e0
    clear e0
    go_enter Try.func17, Try.ntmps17
    go_wp2
    all_goals (go_ret; exact ⟨ret_int (by unfold hasF; omega), rfl⟩)
  · by_cases hg : size / rate < now - time
    · have hm := mul_lt_of_div_lt (by omega) hg
      have M := Lib.hid hm
      clear hm
      have q0 : 0 ≤ size / rate := Int.ediv_nonneg (by omega) (by omega)
      have q1 : size / rate ≤ size := Int.ediv_le_self _ (by omega)
      go_enter Try.func17, Try.ntmps17
      go_wp2
      all_goals (go_ret; exact ⟨ret_int (by have := M.out; unfold hasF; omega), rfl⟩)
    · have hg' : now - time ≤ size / rate := by omega
      have hm := le_of_le_div (by omega) hg'
      have hm0 : 0 ≤ rate * (now - time) := Int.mul_nonneg (by omega) hd0
      have hc : (now - time) * rate = rate * (now - time) := Int.mul_comm _ _
      have C := Lib.hid hc
      have hm2 : 0 ≤ (now - time) * rate := by omega
      have hm3 : (now - time) * rate ≤ size := by omega
      clear hg hc hm hm0
      have q0 : 0 ≤ size / rate := Int.ediv_nonneg (by omega) (by omega)
      have q1 : size / rate ≤ size := Int.ediv_le_self _ (by omega)
      go_enter Try.func17, Try.ntmps17
      go_wp2
      all_goals (go_ret; exact ⟨ret_int (by have := C.out; unfold hasF; omega), rfl⟩)
end Sc
end Go.Proofs.Ytohphljhldcjbaa
