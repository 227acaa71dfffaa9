/- What the law asks of a bucket, one question: contracts. -/
import Derived.Test.YtohphljhldcjbaaScD
import Derived.Deep.RegionWith
import Derived.RegionTactic
namespace Go.Proofs.Ytohphljhldcjbaa
set_option linter.unusedVariables false
set_option linter.unusedSimpArgs false
open Go.RowKit Go.Maps
namespace Sc

theorem kd_bd (kind : Int) : -5 ≤ kind.tmod 6 ∧ kind.tmod 6 ≤ 5 := by
  have h := Int.tmod_lt_of_pos kind (b := 6) (by omega)
  have h2 := Int.lt_tmod_of_pos kind (b := 6) (by omega)
  omega

theorem has_wh (g : Nat) {size rate tok time : Int} (B : Bk size rate tok time) (now : Int) (w : World) (hw : Whole w g 138 (cells size rate tok time)) (n0 : time ≤ now) (n1 : now ≤ 1099511627776) :
    Calls Try.prog 16 #[.pointer (some ⟨g, 0, none⟩), .int .i64 now] w fun e w' => e = .returned (.int .i64 (hasF size rate tok time now)) ∧ ∃ n, w' = w.drewN n :=
  has_bk g B now w (hw.cell 0) (hw.cell 1) (hw.cell 2) (hw.cell 3) n0 n1

theorem has_wno (g : Nat) {size rate tok time : Int} (now : Int) (w : World) (hw : Whole w g 138 (cells size rate tok time)) (hn : ¬ (Sec now ∧ time ≤ now)) :
    Calls Try.prog 16 #[.pointer (some ⟨g, 0, none⟩), .int .i64 now] w fun e w' => e = .returned (.int .i64 0) ∧ w = w' :=
  has_no g time now w (hw.cell 3) hn

set_option maxRecDepth 100000 in
set_option maxHeartbeats 800000 in
theorem asked_has_yes (g : Nat) {size rate tok time : Int} (B : Bk size rate tok time) (kind now n : Int) (w : World) (hw : Whole w g 138 (cells size rate tok time))
    (k3 : ((kind.tmod 6 + 6) % 6 == 3) = true) (s0 : 0 ≤ now) (n0 : time ≤ now) (n1 : now ≤ 1099511627776) :
    Calls Try.prog 15 #[.pointer (some ⟨g, 0, none⟩), .agg #[.int .i64 size, .int .i64 rate, .int .i64 tok, .int .i64 time], .agg #[.int .i64 kind, .int .i64 now, .int .i64 n]] w fun e w' =>
      e = .returned (.tuple #[.agg #[.int .i64 size, .int .i64 rate, .int .i64 tok, .int .i64 time], .bool true]) ∧ w.grownBy w' none := by
  have hlt := hw.lt
  have z0 := B.s0
  have z1 := B.s1
  obtain ⟨k0, k1⟩ := kd_bd kind
  go_enter Try.func15, Try.ntmps15
  go_wp2_with (first | (go_at_call 72; refine (lsecond_yes _ _ s0 n1).mono ?_; rintro e w' ⟨rfl, rfl⟩) | (go_at_call 17; refine (at_any _ _ _ _ _ _ B.b0 B.b1 B.r0 B.r1 B.t0 B.t1 B.s0 n0 n1).mono ?_; rintro e w' ⟨rfl, rfl⟩))
  go_region_with (go_at_call 16; refine (has_wh g B now _ (by repeat (first | (with_reducible exact hw) | (with_reducible apply Whole.alloc) | (with_reducible apply Whole.drewN) | (with_reducible apply Whole.drew) | ((with_reducible refine Whole.aside ?_ ?hb _); (case hb => (simp; omega))))) n0 n1).mono ?_; rintro e w' ⟨rfl, k, rfl⟩)
  all_goals go_wp2
  all_goals refine bodyPost_ret (v := .tuple #[.agg #[.int .i64 size, .int .i64 rate, .int .i64 tok, .int .i64 time], .bool true]) (by simp [results, Try.results15, go_sem]) rfl ⟨rfl, ?_⟩
  all_goals (repeat (first | (with_reducible exact grown_refl _ _) | (with_reducible assumption) | (with_reducible apply grown_drewN) | (with_reducible apply grown_drew) | (with_reducible apply grown_alloc) | ((with_reducible refine grown_set ?_ (Or.inr ?hb) _); (case hb => (simp; try omega)))))

set_option maxRecDepth 100000 in
set_option maxHeartbeats 800000 in
theorem asked_has_nosec (g : Nat) {size rate tok time : Int} (B : Bk size rate tok time) (kind now n : Int) (w : World) (hw : Whole w g 138 (cells size rate tok time))
    (k3 : ((kind.tmod 6 + 6) % 6 == 3) = true) (h : ¬ Sec now) :
    Calls Try.prog 15 #[.pointer (some ⟨g, 0, none⟩), .agg #[.int .i64 size, .int .i64 rate, .int .i64 tok, .int .i64 time], .agg #[.int .i64 kind, .int .i64 now, .int .i64 n]] w fun e w' =>
      e = .returned (.tuple #[.agg #[.int .i64 size, .int .i64 rate, .int .i64 tok, .int .i64 time], .bool true]) ∧ w.grownBy w' none := by
  have hlt := hw.lt
  have z0 := B.s0
  have z1 := B.s1
  obtain ⟨k0, k1⟩ := kd_bd kind
  have hn : ¬ (Sec now ∧ time ≤ now) := fun x => h x.1
  have HN := Lib.hid hn
  have H := Lib.hid h
  clear h hn
  go_enter Try.func15, Try.ntmps15
  go_wp2_with (go_at_call 72; refine (lsecond_no _ _ H.out).mono ?_; rintro e w' ⟨rfl, rfl⟩)
  go_region_with (go_at_call 16; refine (has_wno g now _ (by repeat (first | (with_reducible exact hw) | (with_reducible apply Whole.alloc) | (with_reducible apply Whole.drewN) | (with_reducible apply Whole.drew) | ((with_reducible refine Whole.aside ?_ ?hb _); (case hb => (simp; omega))))) HN.out).mono ?_; rintro e w' ⟨rfl, rfl⟩)
  all_goals go_wp2
  all_goals refine bodyPost_ret (v := .tuple #[.agg #[.int .i64 size, .int .i64 rate, .int .i64 tok, .int .i64 time], .bool true]) (by simp [results, Try.results15, go_sem]) rfl ⟨rfl, ?_⟩
  all_goals (repeat (first | (with_reducible exact grown_refl _ _) | (with_reducible assumption) | (with_reducible apply grown_drewN) | (with_reducible apply grown_drew) | (with_reducible apply grown_alloc) | ((with_reducible refine grown_set ?_ (Or.inr ?hb) _); (case hb => (simp; try omega)))))

set_option maxRecDepth 100000 in
set_option maxHeartbeats 800000 in
theorem asked_has_back (g : Nat) {size rate tok time : Int} (B : Bk size rate tok time) (kind now n : Int) (w : World) (hw : Whole w g 138 (cells size rate tok time))
    (k3 : ((kind.tmod 6 + 6) % 6 == 3) = true) (s0 : 0 ≤ now) (n1 : now ≤ 1099511627776) (h : now < time) :
    Calls Try.prog 15 #[.pointer (some ⟨g, 0, none⟩), .agg #[.int .i64 size, .int .i64 rate, .int .i64 tok, .int .i64 time], .agg #[.int .i64 kind, .int .i64 now, .int .i64 n]] w fun e w' =>
      e = .returned (.tuple #[.agg #[.int .i64 size, .int .i64 rate, .int .i64 tok, .int .i64 time], .bool true]) ∧ w.grownBy w' none := by
  have hlt := hw.lt
  have z0 := B.s0
  have z1 := B.s1
  obtain ⟨k0, k1⟩ := kd_bd kind
  have hn : ¬ (Sec now ∧ time ≤ now) := fun x => by omega
  have HN := Lib.hid hn
  clear hn
  go_enter Try.func15, Try.ntmps15
  go_wp2_with (go_at_call 72; refine (lsecond_yes _ _ s0 n1).mono ?_; rintro e w' ⟨rfl, rfl⟩)
  go_region_with (go_at_call 16; refine (has_wno g now _ (by repeat (first | (with_reducible exact hw) | (with_reducible apply Whole.alloc) | (with_reducible apply Whole.drewN) | (with_reducible apply Whole.drew) | ((with_reducible refine Whole.aside ?_ ?hb _); (case hb => (simp; omega))))) HN.out).mono ?_; rintro e w' ⟨rfl, rfl⟩)
  all_goals go_wp2
  all_goals refine bodyPost_ret (v := .tuple #[.agg #[.int .i64 size, .int .i64 rate, .int .i64 tok, .int .i64 time], .bool true]) (by simp [results, Try.results15, go_sem]) rfl ⟨rfl, ?_⟩
  all_goals (repeat (first | (with_reducible exact grown_refl _ _) | (with_reducible assumption) | (with_reducible apply grown_drewN) | (with_reducible apply grown_drew) | (with_reducible apply grown_alloc) | ((with_reducible refine grown_set ?_ (Or.inr ?hb) _); (case hb => (simp; try omega)))))
end Sc
end Go.Proofs.Ytohphljhldcjbaa
