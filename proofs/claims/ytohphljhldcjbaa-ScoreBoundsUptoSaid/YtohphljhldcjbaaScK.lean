/- ScoreBounds: the law walked. -/
import Derived.Test.YtohphljhldcjbaaScL
namespace Go.Proofs.Ytohphljhldcjbaa
set_option linter.unusedVariables false
set_option linter.unusedSimpArgs false
open Go.RowKit Go.Maps
namespace Sc

theorem up {w w0 w1 : World} {g : Nat} {cs : Array Value} (b : Below g w0 w) (m : Whole w g 138 cs) (h : w.grownBy w1 none) : Below g w0 w1 ∧ Whole w1 g 138 cs :=
  ⟨b.trans (Below.of_grown h (Nat.le_of_lt m.lt) (by simp)), m.grown h (by simp)⟩
theorem upC {w w0 w1 : World} {g c : Nat} {cs : Array Value} (b : Below g w0 w) (m : Whole w g 138 cs) (h : w.grownBy w1 (some c)) (hlt : g < c) : Below g w0 w1 ∧ Whole w1 g 138 cs :=
  ⟨b.trans (Below.of_grown h (Nat.le_of_lt m.lt) (by simp; omega)), m.grown h (by simp; omega)⟩
theorem upM {w w0 w1 : World} {g : Nat} {cs : Array Value} (b : Below g w0 w) (m : Whole w g 138 cs) (h : w.grownBy w1 (some g)) : Below g w0 w1 :=
  b.trans (Below.of_grown h (Nat.le_of_lt m.lt) (by simp))

set_option maxHeartbeats 2000000 in
set_option maxRecDepth 100000 in
theorem bounds_any (size0 rate0 : Int) (A : Option Addr) (len cap : Nat) (w : World) (hl : len ≤ 1048576)
    (hc : 0 < len → ∃ b off, A = some ⟨b, off, none⟩ ∧ b < w.heap.size ∧ ∀ i, i < len → ∃ kind now n, w.cell? ⟨b, off + i * 3, none⟩ = some (.int .i64 kind) ∧ w.cell? ⟨b, off + i * 3 + 1, none⟩ = some (.int .i64 now) ∧ w.cell? ⟨b, off + i * 3 + 2, none⟩ = some (.int .i64 n)) :
    Calls Try.prog 4 #[.int .i64 size0, .int .i64 rate0, .slice A len cap] w fun e w' => e = .returned (.bool true) ∧ Below w.heap.size w w' := by
  obtain ⟨x0, x1⟩ := and_1023 size0
  obtain ⟨y0, y1⟩ := and_63 rate0
  go_enter Try.func4, Try.ntmps4
  go_wp2_with fail
  generalize bits BinOp.and IntKind.i64 size0 1023 = x at x0 x1 ⊢
  generalize bits BinOp.and IntKind.i64 rate0 63 = rate at y0 y1 ⊢
  obtain ⟨size, hsize⟩ : ∃ size, size = 1 + x := ⟨_, rfl⟩
  rw [← hsize]
  have b0 : 1 ≤ size := by omega
  have b1 : size ≤ 1024 := by omega
  clear hsize
  refine (make_yes size rate 0 w b0 (by omega) y0 (by omega) (by omega) (by omega)).mono ?_
  rintro e w1 ⟨rfl, h1⟩
  have hw1 : Whole w1 w.heap.size 138 (cells size rate size 0) := by rw [h1]; exact Whole.fresh _ _ _
  have g1 : w.grownBy w1 none := by rw [h1]; exact grown_alloc (grown_refl _ _) _
  clear h1
  go_wp2_with fail
  refine (awake_ok w1).mono ?_
  rintro e w2 ⟨rfl, h2⟩
  have hw2 := hw1.grown h2 (by simp)
  have g2 := g1.trans h2
  clear h2 hw1 g1
  have hbw : Below w.heap.size w w2 := Below.of_grown g2 (Nat.le_refl _) (by simp)
  go_wp2_with fail
  go_loopw [9, 10, 46] (fun t9 t10 i wr => ∃ k : Nat, k ≤ len ∧ i = .int .i64 k ∧ ∃ now all tok : Int, t9 = .int .i64 now ∧ t10 = .int .i64 all ∧ 0 ≤ now ∧ now ≤ 255 * k ∧ 0 ≤ all ∧ all + tok ≤ size + rate * now ∧ Bk size rate tok now ∧ Whole wr w.heap.size 138 (cells size rate tok now) ∧ Below w.heap.size w wr)
    (fun _ _ i _ => len - (intOf i).toNat)
  case atStart => exact ⟨0, Nat.zero_le _, rfl, 0, 0, size, rfl, rfl, by omega, by omega, by omega, by rw [Int.mul_zero]; omega, ⟨b0, by omega, y0, by omega, by omega, by omega, by omega, by omega⟩, hw2, hbw⟩
  case round =>
    obtain ⟨k, hk, rfl, now, all, tok, rfl, rfl, c0, c1, d0, hinv, B, m0, bw0⟩ := hrel
    have I := Lib.hid hinv
    clear hinv
    by_cases hlt : k < len
    · obtain ⟨b, off, rfl, hbl, hcc⟩ := hc (by omega)
      obtain ⟨kind, anow, an, a0, a1, a2⟩ := hcc k hlt
      have q0 : wr.cell? ⟨b, off + k * 3, none⟩ = some (.int .i64 kind) := (bw0.cell (p := ⟨b, _, none⟩) hbl).trans a0
      have q1 : wr.cell? ⟨b, off + k * 3 + 1, none⟩ = some (.int .i64 anow) := (bw0.cell (p := ⟨b, _, none⟩) hbl).trans a1
      have q2 : wr.cell? ⟨b, off + k * 3 + 2, none⟩ = some (.int .i64 an) := (bw0.cell (p := ⟨b, _, none⟩) hbl).trans a2
      obtain ⟨u0, u1⟩ := and_255 anow
      obtain ⟨v0, v1⟩ := and_2047 an
      go_wp2_with fail
      generalize bits BinOp.and IntKind.i64 anow 255 = d at u0 u1 ⊢
      generalize bits BinOp.and IntKind.i64 an 2047 = n at v0 v1 ⊢
      have m1 := m0.alloc (.cells #[.int .i64 kind, .int .i64 anow, .int .i64 an] 31)
      have bw1 := bw0.alloc (show w.heap.size ≤ wr.heap.size from bw0.size) (.cells #[.int .i64 kind, .int .i64 anow, .int .i64 an] 31)
      generalize (wr.alloc (.cells #[.int .i64 kind, .int .i64 anow, .int .i64 an] 31)) = W1 at m1 bw1 ⊢
      clear q0 q1 q2 a0 a1 a2 m0 bw0 hcc hbl
      have n0 : now ≤ now + d := by omega
      have n1 : now + d ≤ 1099511627776 := by omega
      have n2 : 0 ≤ now + d := by omega
      have J := Lib.hid (inv_no I.out B u0)
      have hx := (hasF_bd B n0 n1).1
      have p0 : 0 ≤ rate * (now + d) := Int.mul_nonneg y0 n2
      have p1 : rate * (now + d) ≤ 63 * (now + d) := Int.mul_le_mul_of_nonneg_right y1 n2
      have p2 : all ≤ size + rate * (now + d) := by have := J.out; omega
      by_cases hA : size < n
      · have hh : hasF size rate tok now (now + d) < n := by have := (hasF_bd B n0 n1).2; omega
        refine (when_wno w.heap.size (now + d) n _ m1 (fun h => by have := h.2.1; omega)).mono ?_
        rintro e w' ⟨rfl, rfl⟩
        go_wp2_with fail
        refine (take_no_abs w.heap.size B (now + d) n _ m1 v0 n2 n0 n1 hh).mono ?_
        rintro e w9 ⟨rfl, m9, h9⟩
        have bw9 := upM bw1 m1 h9
        clear h9 bw1 m1
        go_wp2
        go_roundw
        case rel => exact ⟨k + 1, by omega, by go_num, now + d, all, _, rfl, rfl, n2, by omega, d0, J.out, bk_no B n2 n0 n1, m9, bw9⟩
        case measure => simp [intOf]; omega
      by_cases hB : n ≤ hasF size rate tok now (now + d)
      · have hn : n ≤ size := by omega
        have J2 := Lib.hid (show all + n + (hasF size rate tok now (now + d) - n) ≤ size + rate * (now + d) by have := J.out; omega)
        have p3 : all + n ≤ size + rate * (now + d) := by have := J2.out; omega
        refine (when_whas w.heap.size B (now + d) n _ m1 v0 hn n2 n0 n1 hB).mono ?_
        rintro e W2 ⟨rfl, hW2⟩
        obtain ⟨bw2, m2⟩ := up bw1 m1 (drewN_grown hW2)
        clear hW2 bw1 m1
        go_wp2_with fail
        refine (clone_abs w.heap.size _ m2).mono ?_
        rintro e W3 ⟨rfl, cl3, h2⟩
        obtain ⟨bw3, m3⟩ := up bw2 m2 h2
        have lt2 : w.heap.size < W2.heap.size := m2.lt
        clear h2 bw2 m2
        go_wp2_with fail
        refine (take_yes_abs W2.heap.size B (now + d) n _ cl3 v0 n2 n0 n1 hB).mono ?_
        rintro e W4 ⟨rfl, _, h4⟩
        obtain ⟨bw4, m4⟩ := upC bw3 m3 h4 lt2
        clear h4 bw3 m3 cl3
        go_wp2_with fail
        refine (clone_abs w.heap.size _ m4).mono ?_
        rintro e W5 ⟨rfl, cl5, h2⟩
        obtain ⟨bw5, m5⟩ := up bw4 m4 h2
        have lt4 : w.heap.size < W4.heap.size := m4.lt
        clear h2 bw4 m4
        go_wp2_with fail
        refine (take_yes_abs w.heap.size B (now + d) n _ m5 v0 n2 n0 n1 hB).mono ?_
        rintro e w9 ⟨rfl, m9, h9⟩
        have bw9 := upM bw5 m5 h9
        clear h9 bw5 m5
        go_wp2
        go_roundw
        case rel => exact ⟨k + 1, by omega, by go_num, now + d, all + n, _, rfl, rfl, n2, by omega, by omega, J2.out, bk_yes B v0 n2 n0 n1 hB, m9, bw9⟩
        case measure => simp [intOf]; omega
      have hn : n ≤ size := by omega
      have hh : hasF size rate tok now (now + d) < n := by omega
      clear hA hB
      by_cases hz : rate = 0
      · have HZ := Lib.hid hz
        clear hz
        refine (when_wzero w.heap.size B (now + d) n _ m1 v0 hn n2 n0 n1 hh HZ.out).mono ?_
        rintro e W2 ⟨rfl, hW2⟩
        obtain ⟨bw2, m2⟩ := up bw1 m1 (drewN_grown hW2)
        clear hW2 bw1 m1
        go_wp2_with fail
        refine (take_no_abs w.heap.size B (now + d) n _ m2 v0 n2 n0 n1 hh).mono ?_
        rintro e w9 ⟨rfl, m9, h9⟩
        have bw9 := upM bw2 m2 h9
        clear h9 bw2 m2
        go_wp2
        go_roundw
        case rel => exact ⟨k + 1, by omega, by go_num, now + d, all, _, rfl, rfl, n2, by omega, d0, J.out, bk_no B n2 n0 n1, m9, bw9⟩
        case measure => simp [intOf]; omega
      have hr : 1 ≤ rate := by omega
      have ht : tok ≤ n := by have := tok_le_has B n0; omega
      have hlo := at_after B hn n0 hh hr
      have hhi := at_most B hr ht
      have hy := has_later B hn hr ht
      have hz2 := has_ahead B hr ht (by have := tok_le_has B n0; omega)
      generalize hat : atF rate tok now n = at_ at hlo hhi hy hz2
      have AT := Lib.hid hat
      clear hat hz
      have e1 : (at_ == now + d) = false := beq_eq_false_iff_ne.2 (by omega)
      refine (when_wat w.heap.size B (now + d) n _ m1 v0 hn n2 n0 n1 hh hr (by rw [AT.out]; omega)).mono ?_
      rintro e W2 ⟨rfl, hW2⟩
      rw [AT.out]
      obtain ⟨bw2, m2⟩ := up bw1 m1 (drewN_grown hW2)
      clear hW2 bw1 m1
      go_wp2_with fail
      refine (clone_abs w.heap.size _ m2).mono ?_
      rintro e W3 ⟨rfl, cl3, h2⟩
      obtain ⟨bw3, m3⟩ := up bw2 m2 h2
      have lt2 : w.heap.size < W2.heap.size := m2.lt
      clear h2 bw2 m2
      go_wp2_with fail
      refine (take_yes_abs W2.heap.size B at_ n _ cl3 v0 (by omega) (by omega) (by omega) hy).mono ?_
      rintro e W4 ⟨rfl, _, h4⟩
      obtain ⟨bw4, m4⟩ := upC bw3 m3 h4 lt2
      clear h4 bw3 m3 cl3
      go_wp2_with fail
      refine (clone_abs w.heap.size _ m4).mono ?_
      rintro e W5 ⟨rfl, cl5, h2⟩
      obtain ⟨bw5, m5⟩ := up bw4 m4 h2
      have lt4 : w.heap.size < W4.heap.size := m4.lt
      clear h2 bw4 m4
      go_wp2_with fail
      refine (take_no_abs W4.heap.size B (at_ - 1) n _ cl5 v0 (by omega) (by omega) (by omega) hz2).mono ?_
      rintro e W6 ⟨rfl, _, h6⟩
      obtain ⟨bw6, m6⟩ := upC bw5 m5 h6 lt4
      clear h6 bw5 m5 cl5
      go_wp2_with fail
      refine (take_no_abs w.heap.size B (now + d) n _ m6 v0 n2 n0 n1 hh).mono ?_
      rintro e w9 ⟨rfl, m9, h9⟩
      have bw9 := upM bw6 m6 h9
      clear h9 bw6 m6
      go_wp2
      go_roundw
      case rel => exact ⟨k + 1, by omega, by go_num, now + d, all, _, rfl, rfl, n2, by omega, d0, J.out, bk_no B n2 n0 n1, m9, bw9⟩
      case measure => simp [intOf]; omega
    · have hk' : k = len := by omega
      subst hk'
      go_wp2
      go_ret
      exact ⟨rfl, bw0⟩
end Sc
end Go.Proofs.Ytohphljhldcjbaa
