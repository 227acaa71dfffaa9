/- What the law asks of a bucket: Take, where it is taken or not. -/
import Derived.Test.YtohphljhldcjbaaScG
namespace Go.Proofs.Ytohphljhldcjbaa
set_option linter.unusedVariables false
set_option linter.unusedSimpArgs false
open Go.RowKit Go.Maps
namespace Sc

theorem grown_any {w w' : World} {row : Option Nat} (h : w.grownBy w' row) : w.grownBy w' row := h

theorem boxes3 {w w5 : World} {g : Nat} {o1 o2 o3 : Array Value} {t1 t2 t3 : TypeId} (hlt : g < w.heap.size) (hg : (((w.alloc (.cells o1 t1)).alloc (.cells o2 t2)).alloc (.cells o3 t3)).grownBy w5 (some g)) :
    Whole w5 w.heap.size t1 o1 ∧ Whole w5 (w.heap.size + 1) t2 o2 ∧ Whole w5 (w.heap.size + 1 + 1) t3 o3 ∧ w.grownBy w5 (some g) ∧ w.heap.size + 3 ≤ w5.heap.size := by
  have h1 : Whole (((w.alloc (.cells o1 t1)).alloc (.cells o2 t2)).alloc (.cells o3 t3)) w.heap.size t1 o1 := ((Whole.fresh w t1 o1).alloc _).alloc _
  have h2 : Whole (((w.alloc (.cells o1 t1)).alloc (.cells o2 t2)).alloc (.cells o3 t3)) (w.heap.size + 1) t2 o2 := (Whole.fresh_at _ t2 o2 (by simp)).alloc _
  have h3 : Whole (((w.alloc (.cells o1 t1)).alloc (.cells o2 t2)).alloc (.cells o3 t3)) (w.heap.size + 1 + 1) t3 o3 := Whole.fresh_at _ t3 o3 (by simp)
  refine ⟨h1.grown hg (by simp; omega), h2.grown hg (by simp; omega), h3.grown hg (by simp; omega), ?_, by have := hg.size; simp at this; omega⟩
  exact (grown_more (grown_alloc (grown_alloc (grown_alloc (grown_refl w none) _) _) _) _).trans hg

theorem take_yes_abs (g : Nat) {size rate tok time : Int} (B : Bk size rate tok time) (now n : Int) (w : World) (hw : Whole w g 138 (cells size rate tok time))
    (h1 : 0 ≤ n) (s0 : 0 ≤ now) (n0 : time ≤ now) (n1 : now ≤ 1099511627776) (hh : n ≤ hasF size rate tok time now) :
    Calls Try.prog 20 #[.pointer (some ⟨g, 0, none⟩), .int .i64 now, .int .i64 n] w fun e w' => e = .returned (.tuple #[.bool true, .int .i64 0]) ∧
      Whole w' g 138 (cells size rate (hasF size rate tok time now - n) now) ∧ w.grownBy w' (some g) :=
  (take_yes g B now n w hw h1 s0 n0 n1 hh).mono fun e w' ⟨he, k, hk⟩ => by
    obtain ⟨q1, q2, _⟩ := taken3 hw k (hasF size rate tok time now) now (hasF size rate tok time now - n)
    rw [hk]
    exact ⟨he, q1, q2⟩

theorem take_no_abs (g : Nat) {size rate tok time : Int} (B : Bk size rate tok time) (now n : Int) (w : World) (hw : Whole w g 138 (cells size rate tok time))
    (h1 : 0 ≤ n) (s0 : 0 ≤ now) (n0 : time ≤ now) (n1 : now ≤ 1099511627776) (hh : hasF size rate tok time now < n) :
    Calls Try.prog 20 #[.pointer (some ⟨g, 0, none⟩), .int .i64 now, .int .i64 n] w fun e w' => e = .returned (.tuple #[.bool false, .int .i64 0]) ∧
      Whole w' g 138 (cells size rate (hasF size rate tok time now) now) ∧ w.grownBy w' (some g) :=
  (take_no g B now n w hw h1 s0 n0 n1 hh).mono fun e w' ⟨he, k, hk⟩ => by
    obtain ⟨q1, q2, _⟩ := taken2 hw k (hasF size rate tok time now) now
    rw [hk]
    exact ⟨he, q1, q2⟩

set_option maxRecDepth 100000 in
set_option maxHeartbeats 4000000 in
theorem asked_take_yes (g : Nat) {size rate tok time : Int} (B : Bk size rate tok time) (kind now n : Int) (w : World) (hw : Whole w g 138 (cells size rate tok time))
    (k3 : ((kind.tmod 6 + 6) % 6 == 3) = false) (k4 : ((kind.tmod 6 + 6) % 6 == 4) = false) (k5 : ((kind.tmod 6 + 6) % 6 == 5) = false) (s0 : 0 ≤ now) (n0 : time ≤ now) (n1 : now ≤ 1099511627776) (ha : 0 ≤ n) (hh : n ≤ hasF size rate tok time now) :
    Calls Try.prog 15 #[.pointer (some ⟨g, 0, none⟩), .agg #[.int .i64 size, .int .i64 rate, .int .i64 tok, .int .i64 time], .agg #[.int .i64 kind, .int .i64 now, .int .i64 n]] w fun e w' =>
      e = .returned (.tuple #[.agg #[.int .i64 size, .int .i64 rate, .int .i64 (hasF size rate tok time now - n), .int .i64 now], .bool true]) ∧ Whole w' g 138 (cells size rate (hasF size rate tok time now - n) now) ∧ w.grownBy w' (some g) := by
  have hlt := hw.lt
  have z0 := B.s0
  have z1 := B.s1
  obtain ⟨k0, k1⟩ := kd_bd kind
  obtain ⟨x0, x1⟩ := hasF_bd B n0 n1
  have b1 := B.b1
  go_enter Try.func15, Try.ntmps15
  go_wp2_with (go_at_call 72; refine (lsecond_yes _ _ s0 n1).mono ?_; rintro e w' ⟨rfl, rfl⟩)
  refine (take_yes_abs g B now n _ (by repeat (first | (with_reducible exact hw) | (with_reducible apply Whole.alloc) | (with_reducible apply Whole.drewN) | (with_reducible apply Whole.drew) | ((with_reducible refine Whole.aside ?_ ?hb _); (case hb => (simp; omega))))) ha s0 n0 n1 hh).mono ?_
  rintro e w5 ⟨rfl, hw5, hg5⟩
  obtain ⟨p0, p1, p2, hg, hz⟩ := boxes3 hlt hg5
  clear hg5
  have m0 : w5.cell? ⟨w.heap.size, 0, none⟩ = some (.int .i64 size) := p0.cell 0
  have m1 : w5.cell? ⟨w.heap.size, 1, none⟩ = some (.int .i64 rate) := p0.cell 1
  have m2 : w5.cell? ⟨w.heap.size, 2, none⟩ = some (.int .i64 tok) := p0.cell 2
  have m3 : w5.cell? ⟨w.heap.size, 3, none⟩ = some (.int .i64 time) := p0.cell 3
  have a1 : w5.cell? ⟨w.heap.size + 1, 1, none⟩ = some (.int .i64 now) := p1.cell 1
  have a2 : w5.cell? ⟨w.heap.size + 1, 2, none⟩ = some (.int .i64 n) := p1.cell 2
  have r0 : w5.cell? ⟨w.heap.size + 1 + 1, 0, none⟩ = some (.int .i64 0) := p2.cell 0
  have r1 : w5.cell? ⟨w.heap.size + 1 + 1, 1, none⟩ = some (.int .i64 0) := p2.cell 1
  have r2 : w5.cell? ⟨w.heap.size + 1 + 1, 2, none⟩ = some (.int .i64 0) := p2.cell 2
  have r3 : w5.cell? ⟨w.heap.size + 1 + 1, 3, none⟩ = some (.int .i64 0) := p2.cell 3
  have hz0 : w.heap.size < w5.heap.size := by omega
  have hz1 : w.heap.size + 1 < w5.heap.size := by omega
  have hz2 : w.heap.size + 1 + 1 < w5.heap.size := by omega
  have f2 := p0.thaw 2
  have f3 := p0.thaw 3
  have u0 := p2.thaw 0
  have u1 := p2.thaw 1
  have u2 := p2.thaw 2
  have u3 := p2.thaw 3
  go_wp2_with (go_at_call 72; refine (lsecond_yes _ _ s0 n1).mono ?_; rintro e w' ⟨rfl, rfl⟩)
  go_region_with (go_at_call 17; refine (at_any _ _ _ _ _ _ B.b0 B.b1 B.r0 B.r1 B.t0 B.t1 B.s0 n0 n1).mono ?_; rintro e w' ⟨rfl, rfl⟩)
  all_goals go_wp2
  all_goals refine bodyPost_ret (v := .tuple #[.agg #[.int .i64 size, .int .i64 rate, .int .i64 (hasF size rate tok time now - n), .int .i64 now], .bool true]) (by simp [results, Try.results15, go_sem, hz2, r0, r1, r2, r3]) rfl ⟨rfl, ?_, ?_⟩
  all_goals first | (with_reducible refine grown_any ?_; (repeat (first | (with_reducible exact grown_refl _ _) | (with_reducible assumption) | (with_reducible apply grown_drewN) | (with_reducible apply grown_drew) | (with_reducible apply grown_alloc) | ((with_reducible refine grown_set ?_ (Or.inr ?hb) _); (case hb => (simp; try omega))))); done) | (repeat (first | (with_reducible exact hw5) | (with_reducible apply Whole.alloc) | (with_reducible apply Whole.drew) | (with_reducible apply Whole.drewN) | ((with_reducible refine Whole.aside ?_ ?hb _); (case hb => (simp; omega)))))

set_option maxRecDepth 100000 in
set_option maxHeartbeats 4000000 in
theorem asked_take_no (g : Nat) {size rate tok time : Int} (B : Bk size rate tok time) (kind now n : Int) (w : World) (hw : Whole w g 138 (cells size rate tok time))
    (k3 : ((kind.tmod 6 + 6) % 6 == 3) = false) (k4 : ((kind.tmod 6 + 6) % 6 == 4) = false) (k5 : ((kind.tmod 6 + 6) % 6 == 5) = false) (s0 : 0 ≤ now) (n0 : time ≤ now) (n1 : now ≤ 1099511627776) (ha : 0 ≤ n) (hh : hasF size rate tok time now < n) :
    Calls Try.prog 15 #[.pointer (some ⟨g, 0, none⟩), .agg #[.int .i64 size, .int .i64 rate, .int .i64 tok, .int .i64 time], .agg #[.int .i64 kind, .int .i64 now, .int .i64 n]] w fun e w' =>
      e = .returned (.tuple #[.agg #[.int .i64 size, .int .i64 rate, .int .i64 (hasF size rate tok time now), .int .i64 now], .bool true]) ∧ Whole w' g 138 (cells size rate (hasF size rate tok time now) now) ∧ w.grownBy w' (some g) := by
  have hlt := hw.lt
  have z0 := B.s0
  have z1 := B.s1
  obtain ⟨k0, k1⟩ := kd_bd kind
  obtain ⟨x0, x1⟩ := hasF_bd B n0 n1
  have b1 := B.b1
  go_enter Try.func15, Try.ntmps15
  go_wp2_with (go_at_call 72; refine (lsecond_yes _ _ s0 n1).mono ?_; rintro e w' ⟨rfl, rfl⟩)
  refine (take_no_abs g B now n _ (by repeat (first | (with_reducible exact hw) | (with_reducible apply Whole.alloc) | (with_reducible apply Whole.drewN) | (with_reducible apply Whole.drew) | ((with_reducible refine Whole.aside ?_ ?hb _); (case hb => (simp; omega))))) ha s0 n0 n1 hh).mono ?_
  rintro e w5 ⟨rfl, hw5, hg5⟩
  obtain ⟨p0, p1, p2, hg, hz⟩ := boxes3 hlt hg5
  clear hg5
  have m0 : w5.cell? ⟨w.heap.size, 0, none⟩ = some (.int .i64 size) := p0.cell 0
  have m1 : w5.cell? ⟨w.heap.size, 1, none⟩ = some (.int .i64 rate) := p0.cell 1
  have m2 : w5.cell? ⟨w.heap.size, 2, none⟩ = some (.int .i64 tok) := p0.cell 2
  have m3 : w5.cell? ⟨w.heap.size, 3, none⟩ = some (.int .i64 time) := p0.cell 3
  have a1 : w5.cell? ⟨w.heap.size + 1, 1, none⟩ = some (.int .i64 now) := p1.cell 1
  have a2 : w5.cell? ⟨w.heap.size + 1, 2, none⟩ = some (.int .i64 n) := p1.cell 2
  have r0 : w5.cell? ⟨w.heap.size + 1 + 1, 0, none⟩ = some (.int .i64 0) := p2.cell 0
  have r1 : w5.cell? ⟨w.heap.size + 1 + 1, 1, none⟩ = some (.int .i64 0) := p2.cell 1
  have r2 : w5.cell? ⟨w.heap.size + 1 + 1, 2, none⟩ = some (.int .i64 0) := p2.cell 2
  have r3 : w5.cell? ⟨w.heap.size + 1 + 1, 3, none⟩ = some (.int .i64 0) := p2.cell 3
  have hz0 : w.heap.size < w5.heap.size := by omega
  have hz1 : w.heap.size + 1 < w5.heap.size := by omega
  have hz2 : w.heap.size + 1 + 1 < w5.heap.size := by omega
  have f2 := p0.thaw 2
  have f3 := p0.thaw 3
  have u0 := p2.thaw 0
  have u1 := p2.thaw 1
  have u2 := p2.thaw 2
  have u3 := p2.thaw 3
  go_wp2_with (go_at_call 72; refine (lsecond_yes _ _ s0 n1).mono ?_; rintro e w' ⟨rfl, rfl⟩)
  go_region_with (go_at_call 17; refine (at_any _ _ _ _ _ _ B.b0 B.b1 B.r0 B.r1 B.t0 B.t1 B.s0 n0 n1).mono ?_; rintro e w' ⟨rfl, rfl⟩)
  all_goals go_wp2
  all_goals refine bodyPost_ret (v := .tuple #[.agg #[.int .i64 size, .int .i64 rate, .int .i64 (hasF size rate tok time now), .int .i64 now], .bool true]) (by simp [results, Try.results15, go_sem, hz2, r0, r1, r2, r3]) rfl ⟨rfl, ?_, ?_⟩
  all_goals first | (with_reducible refine grown_any ?_; (repeat (first | (with_reducible exact grown_refl _ _) | (with_reducible assumption) | (with_reducible apply grown_drewN) | (with_reducible apply grown_drew) | (with_reducible apply grown_alloc) | ((with_reducible refine grown_set ?_ (Or.inr ?hb) _); (case hb => (simp; try omega))))); done) | (repeat (first | (with_reducible exact hw5) | (with_reducible apply Whole.alloc) | (with_reducible apply Whole.drew) | (with_reducible apply Whole.drewN) | ((with_reducible refine Whole.aside ?_ ?hb _); (case hb => (simp; omega)))))
end Sc
end Go.Proofs.Ytohphljhldcjbaa
