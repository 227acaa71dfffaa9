/- The law of the bucket, walked: its loop, and what stands about it. -/
import Derived.Test.YtohphljhldcjbaaScI
namespace Go.Proofs.Ytohphljhldcjbaa
set_option linter.unusedVariables false
set_option linter.unusedSimpArgs false
open Go.RowKit Go.Maps
namespace Sc
theorem stored4 {w : World} {g : Nat} {a b c d : Int} (h : Whole w g 29 (cells a b c d)) (x y z u : Int) :
    Whole ((((w.setCell ⟨g, 0, none⟩ (.int .i64 x)).setCell ⟨g, 1, none⟩ (.int .i64 y)).setCell ⟨g, 2, none⟩ (.int .i64 z)).setCell ⟨g, 3, none⟩ (.int .i64 u)) g 29 (cells x y z u) ∧
    w.grownBy ((((w.setCell ⟨g, 0, none⟩ (.int .i64 x)).setCell ⟨g, 1, none⟩ (.int .i64 y)).setCell ⟨g, 2, none⟩ (.int .i64 z)).setCell ⟨g, 3, none⟩ (.int .i64 u)) (some g) := by
  refine ⟨?_, ?_⟩
  · have h := (((h.set_ 0 (.int .i64 x)).set_ 1 (.int .i64 y)).set_ 2 (.int .i64 z)).set_ 3 (.int .i64 u)
    simpa [cells] using h
  · (repeat (first | (with_reducible exact grown_refl _ _) | (with_reducible assumption) | (with_reducible apply grown_drewN) | (with_reducible apply grown_drew) | (with_reducible apply grown_alloc) | (with_reducible refine grown_set ?_ (Or.inl rfl) _) | ((with_reducible refine grown_set ?_ (Or.inr ?hb) _); (case hb => (simp; try omega)))))

theorem at_same_any {size rate tok time : Int} (B : Bk size rate tok time) (w : World) :
    Calls Try.prog 17 #[.agg #[.int .i64 size, .int .i64 rate, .int .i64 tok, .int .i64 time], .int .i64 time] w fun e w' => e = .returned (.int .i64 tok) ∧ w' = w.alloc (.cells #[.int .i64 size, .int .i64 rate, .int .i64 tok, .int .i64 time] 29) := by
  have h := at_any size rate tok time time w B.b0 B.b1 B.r0 B.r1 B.t0 B.t1 B.s0 (Int.le_refl _) B.s1
  rw [hasF_same B] at h
  exact h

/-- What is held through the test behind a question: the document's bucket in its box, the program's in its block. -/
theorem keepA {w0 w : World} {M : Nat} {size rate tok time : Int} (o : Obj)
    (h : w.cell? ⟨M, 0, none⟩ = some (.int .i64 size) ∧ w.cell? ⟨M, 1, none⟩ = some (.int .i64 rate) ∧ w.cell? ⟨M, 2, none⟩ = some (.int .i64 tok) ∧ w.cell? ⟨M, 3, none⟩ = some (.int .i64 time) ∧
      Whole w w0.heap.size 138 (cells size rate tok time) ∧ Whole w M 29 (cells size rate tok time) ∧ Below w0.heap.size w0 w) :
    (w.alloc o).cell? ⟨M, 0, none⟩ = some (.int .i64 size) ∧ (w.alloc o).cell? ⟨M, 1, none⟩ = some (.int .i64 rate) ∧ (w.alloc o).cell? ⟨M, 2, none⟩ = some (.int .i64 tok) ∧ (w.alloc o).cell? ⟨M, 3, none⟩ = some (.int .i64 time) ∧
      Whole (w.alloc o) w0.heap.size 138 (cells size rate tok time) ∧ Whole (w.alloc o) M 29 (cells size rate tok time) ∧ Below w0.heap.size w0 (w.alloc o) := by
  obtain ⟨_, _, _, _, h1, h2, h3⟩ := h
  have h4 := h2.alloc o
  exact ⟨h4.cell 0, h4.cell 1, h4.cell 2, h4.cell 3, h1.alloc o, h4, h3.alloc h3.size o⟩

theorem keepD {w0 w : World} {M : Nat} {size rate tok time : Int} (n : Nat)
    (h : w.cell? ⟨M, 0, none⟩ = some (.int .i64 size) ∧ w.cell? ⟨M, 1, none⟩ = some (.int .i64 rate) ∧ w.cell? ⟨M, 2, none⟩ = some (.int .i64 tok) ∧ w.cell? ⟨M, 3, none⟩ = some (.int .i64 time) ∧
      Whole w w0.heap.size 138 (cells size rate tok time) ∧ Whole w M 29 (cells size rate tok time) ∧ Below w0.heap.size w0 w) :
    (w.drewN n).cell? ⟨M, 0, none⟩ = some (.int .i64 size) ∧ (w.drewN n).cell? ⟨M, 1, none⟩ = some (.int .i64 rate) ∧ (w.drewN n).cell? ⟨M, 2, none⟩ = some (.int .i64 tok) ∧ (w.drewN n).cell? ⟨M, 3, none⟩ = some (.int .i64 time) ∧
      Whole (w.drewN n) w0.heap.size 138 (cells size rate tok time) ∧ Whole (w.drewN n) M 29 (cells size rate tok time) ∧ Below w0.heap.size w0 (w.drewN n) := by
  obtain ⟨_, _, _, _, h1, h2, h3⟩ := h
  have h4 := h2.drewN n
  exact ⟨h4.cell 0, h4.cell 1, h4.cell 2, h4.cell 3, h1.drewN n, h4, h3.os, h3.tape, h3.output, h3.size, h3.block⟩

theorem has_held {w0 w : World} {M : Nat} {size rate tok time : Int} (B : Bk size rate tok time)
    (h : w.cell? ⟨M, 0, none⟩ = some (.int .i64 size) ∧ w.cell? ⟨M, 1, none⟩ = some (.int .i64 rate) ∧ w.cell? ⟨M, 2, none⟩ = some (.int .i64 tok) ∧ w.cell? ⟨M, 3, none⟩ = some (.int .i64 time) ∧
      Whole w w0.heap.size 138 (cells size rate tok time) ∧ Whole w M 29 (cells size rate tok time) ∧ Below w0.heap.size w0 w) :
    Calls Try.prog 16 #[.pointer (some ⟨w0.heap.size, 0, none⟩), .int .i64 time] w fun e w' => e = .returned (.int .i64 tok) ∧ ∃ n, w' = w.drewN n := has_same _ B w h.2.2.2.2.1

set_option maxHeartbeats 800000 in
set_option maxRecDepth 100000 in
theorem buckets_good (size rate : Int) (A : Option Addr) (len cap : Nat) (w : World) (b0 : 1 ≤ size) (b1 : size ≤ 1099511627776) (r0 : 0 ≤ rate) (r1 : rate ≤ 1048576) (hl : len ≤ 9223372036854775807)
    (hc : 0 < len → ∃ b off, A = some ⟨b, off, none⟩ ∧ b < w.heap.size ∧ ∀ i, i < len → ∃ kind now n, w.cell? ⟨b, off + i * 3, none⟩ = some (.int .i64 kind) ∧ w.cell? ⟨b, off + i * 3 + 1, none⟩ = some (.int .i64 now) ∧ w.cell? ⟨b, off + i * 3 + 2, none⟩ = some (.int .i64 n)) :
    Calls Try.prog 3 #[.int .i64 size, .int .i64 rate, .slice A len cap] w fun e w' => e = .returned (.bool true) ∧ Below w.heap.size w w' := by
  go_enter Try.func3, Try.ntmps3
  go_wp2_with fail
  refine (make_yes size rate 5 w b0 b1 r0 r1 (by omega) (by omega)).mono ?_
  rintro e w1 ⟨rfl, h1⟩
  have hw1 : Whole w1 w.heap.size 138 (cells size rate size 5) := by rw [h1]; exact Whole.fresh _ _ _
  have g1 : w.grownBy w1 none := by rw [h1]; exact grown_alloc (grown_refl _ _) _
  clear h1
  go_wp2_with fail
  refine (awake_ok w1).mono ?_
  rintro e w2 ⟨rfl, h2⟩
  have hw2 := hw1.grown h2 (by simp)
  have g2 := g1.trans h2
  clear h2 hw1 g1
  have hbw : Below w.heap.size w w2 := Below.of_grown g2 (Nat.le_refl _) (by simp)
  have hlt := hw2.lt
  go_wp2_with fail
  have hM : Whole (w2.alloc (.cells #[.int .i64 size, .int .i64 rate, .int .i64 size, .int .i64 5] 29)) w2.heap.size 29 (cells size rate size 5) := Whole.fresh _ _ _
  have hg0 := hw2.alloc (.cells #[.int .i64 size, .int .i64 rate, .int .i64 size, .int .i64 5] 29)
  have hb0 : Below w.heap.size w (w2.alloc (.cells #[.int .i64 size, .int .i64 rate, .int .i64 size, .int .i64 5] 29)) := hbw.alloc (by omega) _
  go_loopw [54] (fun i wr => ∃ k : Nat, k ≤ len ∧ i = .int .i64 k ∧ ∃ tok time, Bk size rate tok time ∧ Whole wr w.heap.size 138 (cells size rate tok time) ∧ Whole wr w2.heap.size 29 (cells size rate tok time) ∧ Below w.heap.size w wr)
    (fun i _ => len - (intOf i).toNat)
  case atStart => exact ⟨0, Nat.zero_le _, rfl, size, 5, ⟨b0, b1, r0, r1, by omega, by omega, by omega, by omega⟩, hg0, hM, hb0⟩
  case round =>
    obtain ⟨k, hk, rfl, tok, time, B, hw, hm, hb⟩ := hrel
    have m0 : wr.cell? ⟨w2.heap.size, 0, none⟩ = some (.int .i64 size) := hm.cell 0
    have m1 : wr.cell? ⟨w2.heap.size, 1, none⟩ = some (.int .i64 rate) := hm.cell 1
    have m2 : wr.cell? ⟨w2.heap.size, 2, none⟩ = some (.int .i64 tok) := hm.cell 2
    have m3 : wr.cell? ⟨w2.heap.size, 3, none⟩ = some (.int .i64 time) := hm.cell 3
    have hltM := hm.lt
    by_cases hlt : k < len
    · obtain ⟨b, off, rfl, hbl, hcc⟩ := hc (by omega)
      obtain ⟨kind, now, n, a0, a1, a2⟩ := hcc k hlt
      have q0 : wr.cell? ⟨b, off + k * 3, none⟩ = some (.int .i64 kind) := (hb.cell (p := ⟨b, _, none⟩) hbl).trans a0
      have q1 : wr.cell? ⟨b, off + k * 3 + 1, none⟩ = some (.int .i64 now) := (hb.cell (p := ⟨b, _, none⟩) hbl).trans a1
      have q2 : wr.cell? ⟨b, off + k * 3 + 2, none⟩ = some (.int .i64 n) := (hb.cell (p := ⟨b, _, none⟩) hbl).trans a2
      go_wp2_with fail
      have hwA := hw.alloc (.cells #[.int .i64 kind, .int .i64 now, .int .i64 n] 31)
      have hmA := hm.alloc (.cells #[.int .i64 kind, .int .i64 now, .int .i64 n] 31)
      have hbA := hb.alloc (show w.heap.size ≤ wr.heap.size from hb.size) (.cells #[.int .i64 kind, .int .i64 now, .int .i64 n] 31)
      refine (asked_any w.heap.size B kind now n _ hwA).mono ?_
      rintro e w3 ⟨tok', time', B', rfl, hw3, hg3⟩
      have hm3 := hmA.grown hg3 (by simp; omega)
      have hb3 : Below w.heap.size w w3 := hbA.trans (Below.of_grown hg3 (by have := hb.size; simp; omega) (by simp))
      clear m0 m1 m2 m3 q0 q1 q2 a0 a1 a2 hwA hmA hbA hw hm hb hg3
      have m0 : w3.cell? ⟨w2.heap.size, 0, none⟩ = some (.int .i64 size) := hm3.cell 0
      have m1 : w3.cell? ⟨w2.heap.size, 1, none⟩ = some (.int .i64 rate) := hm3.cell 1
      have m2 : w3.cell? ⟨w2.heap.size, 2, none⟩ = some (.int .i64 tok) := hm3.cell 2
      have m3 : w3.cell? ⟨w2.heap.size, 3, none⟩ = some (.int .i64 time) := hm3.cell 3
      have f0 := hm3.thaw 0
      have f1 := hm3.thaw 1
      have f2 := hm3.thaw 2
      have f3 := hm3.thaw 3
      have hlt3 := hm3.lt
      go_wp2_with fail
      obtain ⟨hm4, hg4⟩ := stored4 hm3 size rate tok' time'
      have hw4 : Whole ((((w3.setCell ⟨w2.heap.size, 0, none⟩ (.int .i64 size)).setCell ⟨w2.heap.size, 1, none⟩ (.int .i64 rate)).setCell ⟨w2.heap.size, 2, none⟩ (.int .i64 tok')).setCell ⟨w2.heap.size, 3, none⟩ (.int .i64 time')) w.heap.size 138 (cells size rate tok' time') := hw3.grown hg4 (by simp; omega)
      have hb4 := hb3.trans (Below.of_grown hg4 hb3.size (by simp; omega))
      clear m0 m1 m2 m3 f0 f1 f2 f3 hm3 hw3 hb3 hg4
      generalize ((((w3.setCell ⟨w2.heap.size, 0, none⟩ (.int .i64 size)).setCell ⟨w2.heap.size, 1, none⟩ (.int .i64 rate)).setCell ⟨w2.heap.size, 2, none⟩ (.int .i64 tok')).setCell ⟨w2.heap.size, 3, none⟩ (.int .i64 time')) = w4 at hm4 hw4 hb4 ⊢
      have m0 : w4.cell? ⟨w2.heap.size, 0, none⟩ = some (.int .i64 size) := hm4.cell 0
      have m1 : w4.cell? ⟨w2.heap.size, 1, none⟩ = some (.int .i64 rate) := hm4.cell 1
      have m2 : w4.cell? ⟨w2.heap.size, 2, none⟩ = some (.int .i64 tok') := hm4.cell 2
      have m3 : w4.cell? ⟨w2.heap.size, 3, none⟩ = some (.int .i64 time') := hm4.cell 3
      have hS : w4.cell? ⟨w2.heap.size, 0, none⟩ = some (.int .i64 size) ∧ w4.cell? ⟨w2.heap.size, 1, none⟩ = some (.int .i64 rate) ∧ w4.cell? ⟨w2.heap.size, 2, none⟩ = some (.int .i64 tok') ∧ w4.cell? ⟨w2.heap.size, 3, none⟩ = some (.int .i64 time') ∧
        Whole w4 w.heap.size 138 (cells size rate tok' time') ∧ Whole w4 w2.heap.size 29 (cells size rate tok' time') ∧ Below w.heap.size w w4 := ⟨m0, m1, m2, m3, hw4, hm4, hb4⟩
      clear m0 m1 m2 m3
      go_region_held3 (fun v => v.cell? ⟨w2.heap.size, 0, none⟩ = some (.int .i64 size) ∧ v.cell? ⟨w2.heap.size, 1, none⟩ = some (.int .i64 rate) ∧ v.cell? ⟨w2.heap.size, 2, none⟩ = some (.int .i64 tok') ∧ v.cell? ⟨w2.heap.size, 3, none⟩ = some (.int .i64 time') ∧
        Whole v w.heap.size 138 (cells size rate tok' time') ∧ Whole v w2.heap.size 29 (cells size rate tok' time') ∧ Below w.heap.size w v)
        (first | (exact keepD 1 hS) | (exact keepD _ (by assumption)) | (exact keepA _ (by assumption)))
        (first | (go_at_call 16; refine (has_held (w0 := w) (M := w2.heap.size) B' ?_).mono ?_; assumption; rintro e w' ⟨rfl, k1, rfl⟩) | (go_at_call 17; refine (at_same_any B' _).mono ?_; rintro e w' ⟨rfl, rfl⟩))
      go_wp2
      go_roundw
      case rel => exact ⟨k + 1, by omega, by go_num, tok', time', B', (by assumption : _ ∧ _ ∧ _ ∧ _ ∧ _ ∧ _ ∧ _).2.2.2.2⟩
      case measure => simp [intOf]; omega
    · have hk' : k = len := by omega
      subst hk'
      go_wp2_with fail
      refine (make_late size rate (-1) wr b0 b1 r0 r1 (by unfold Sec; omega)).mono ?_
      rintro e w' ⟨rfl, rfl⟩
      go_wp2
      go_ret
      exact ⟨rfl, hb⟩

set_option maxHeartbeats 800000 in
theorem buckets_bad (size rate : Int) (A : Option Addr) (len cap : Nat) (w : World) (h : size < 1 ∨ 1099511627776 < size ∨ rate < 0 ∨ 1048576 < rate) :
    Calls Try.prog 3 #[.int .i64 size, .int .i64 rate, .slice A len cap] w fun e w' => e = .returned (.bool true) ∧ Below w.heap.size w w' := by
  have fin : ∀ {w'}, w.grownBy w' none → Below w.heap.size w w' := fun g => Below.of_grown g (Nat.le_refl _) (by simp)
  have mk := make_no size rate 5 w h
  have H := Lib.hid mk
  clear mk
  by_cases h1 : size < 1
  · clear h
    go_enter Try.func3, Try.ntmps3
    go_wp2_with (first | (go_at_call 13; refine H.out.mono ?_; rintro e w' ⟨rfl, rfl⟩) | (go_at_call 14; refine (awake_ok w).mono ?_; rintro e w2 ⟨rfl, h2⟩))
    go_ret
    exact ⟨rfl, fin h2⟩
  by_cases h2 : 1099511627776 < size
  · clear h
    go_enter Try.func3, Try.ntmps3
    go_wp2_with (first | (go_at_call 13; refine H.out.mono ?_; rintro e w' ⟨rfl, rfl⟩) | (go_at_call 14; refine (awake_ok w).mono ?_; rintro e w2 ⟨rfl, h2⟩))
    go_ret
    exact ⟨rfl, fin h2⟩
  have g1 : 1 ≤ size := by omega
  have g2 : size ≤ 1099511627776 := by omega
  by_cases h3 : rate < 0
  · clear h h1 h2
    go_enter Try.func3, Try.ntmps3
    go_wp2_with (first | (go_at_call 13; refine H.out.mono ?_; rintro e w' ⟨rfl, rfl⟩) | (go_at_call 14; refine (awake_ok w).mono ?_; rintro e w2 ⟨rfl, h2⟩))
    go_ret
    exact ⟨rfl, fin h2⟩
  have h4 : 1048576 < rate := by omega
  have g3 : 0 ≤ rate := by omega
  clear h h1 h2 h3
  go_enter Try.func3, Try.ntmps3
  go_wp2_with (first | (go_at_call 13; refine H.out.mono ?_; rintro e w' ⟨rfl, rfl⟩) | (go_at_call 14; refine (awake_ok w).mono ?_; rintro e w2 ⟨rfl, h2⟩))
  go_ret
  exact ⟨rfl, fin h2⟩
end Sc
end Go.Proofs.Ytohphljhldcjbaa
