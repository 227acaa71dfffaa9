/- What the law asks of a bucket: a copy, and Take. -/
import Derived.Test.YtohphljhldcjbaaScF
namespace Go.Proofs.Ytohphljhldcjbaa
set_option linter.unusedVariables false
set_option linter.unusedSimpArgs false
open Go.RowKit Go.Maps
namespace Sc

theorem hasF_same {size rate tok time : Int} (B : Bk size rate tok time) : hasF size rate tok time time = tok := by
  have := B.t1
  unfold hasF
  rw [Int.sub_self, Int.mul_zero]
  omega

theorem has_same (g : Nat) {size rate tok time : Int} (B : Bk size rate tok time) (w : World) (hw : Whole w g 138 (cells size rate tok time)) :
    Calls Try.prog 16 #[.pointer (some ⟨g, 0, none⟩), .int .i64 time] w fun e w' => e = .returned (.int .i64 tok) ∧ ∃ n, w' = w.drewN n := by
  have h := has_wh g B time w hw (Int.le_refl _) B.s1
  rw [hasF_same B] at h
  exact h

theorem clone_w (g : Nat) {size rate tok time : Int} (w : World) (hw : Whole w g 138 (cells size rate tok time)) :
    Calls Try.prog 19 #[.pointer (some ⟨g, 0, none⟩)] w fun e w' => e = .returned (.pointer (some ⟨w.heap.size, 0, none⟩)) ∧ w' = w.alloc (.cells #[.int .i64 size, .int .i64 rate, .int .i64 tok, .int .i64 time] 138) :=
  clone_any g size rate tok time w (hw.cell 0) (hw.cell 1) (hw.cell 2) (hw.cell 3)

theorem take_same (g : Nat) {size rate tok time : Int} (B : Bk size rate tok time) (w : World) (hw : Whole w g 138 (cells size rate tok time)) :
    Calls Try.prog 20 #[.pointer (some ⟨g, 0, none⟩), .int .i64 time, .int .i64 tok] w fun e w' => e = .returned (.tuple #[.bool true, .int .i64 0]) ∧
      ∃ k, w' = ((((w.drewN k).setCell ⟨g, 2, none⟩ (.int .i64 tok)).setCell ⟨g, 3, none⟩ (.int .i64 time)).setCell ⟨g, 2, none⟩ (.int .i64 (tok - tok))) := by
  have h := take_yes g B time tok w hw B.t0 B.s0 (Int.le_refl _) B.s1 (by rw [hasF_same B]; exact Int.le_refl _)
  rw [hasF_same B] at h
  exact h

set_option maxRecDepth 100000 in
set_option maxHeartbeats 800000 in
theorem asked_copy_late (g : Nat) {size rate tok time : Int} (B : Bk size rate tok time) (kind now n : Int) (w : World) (hw : Whole w g 138 (cells size rate tok time))
    (k3 : ((kind.tmod 6 + 6) % 6 == 3) = false) (k4 : ((kind.tmod 6 + 6) % 6 == 4) = false) (k5 : ((kind.tmod 6 + 6) % 6 == 5) = true) (s0 : 0 ≤ now) (n1 : now ≤ 1099511627776) (n0 : time ≤ now) :
    Calls Try.prog 15 #[.pointer (some ⟨g, 0, none⟩), .agg #[.int .i64 size, .int .i64 rate, .int .i64 tok, .int .i64 time], .agg #[.int .i64 kind, .int .i64 now, .int .i64 n]] w fun e w' =>
      e = .returned (.tuple #[.agg #[.int .i64 size, .int .i64 rate, .int .i64 tok, .int .i64 time], .bool true]) ∧ w.grownBy w' none := by
  have hlt := hw.lt
  have z0 := B.s0
  have z1 := B.s1
  obtain ⟨k0, k1⟩ := kd_bd kind
  go_enter Try.func15, Try.ntmps15
  go_wp2_with (first | (go_at_call 72; refine (lsecond_yes _ _ s0 n1).mono ?_; rintro e w' ⟨rfl, rfl⟩) | (go_at_call 19; refine (clone_w g _ (by repeat (first | (with_reducible exact hw) | (with_reducible apply Whole.alloc) | (with_reducible apply Whole.drewN) | (with_reducible apply Whole.drew) | ((with_reducible refine Whole.aside ?_ ?hb _); (case hb => (simp; omega)))))).mono ?_; rintro e w' ⟨rfl, rfl⟩))
  go_quiet ((go_at_call 16; refine Calls.quiet_of (has_same _ B _ (by first | (with_reducible exact Whole.fresh_at _ _ _ (by simp)) | (refine Whole.drewN ?_ _; exact Whole.fresh_at _ _ _ (by simp))))))
  go_wp2_with (go_at_call 20; refine (take_same _ B _ (by first | (with_reducible exact Whole.fresh_at _ _ _ (by simp)) | (refine Whole.drewN ?_ _; exact Whole.fresh_at _ _ _ (by simp)))).mono ?_; rintro e w' ⟨rfl, k, rfl⟩)
  all_goals refine bodyPost_ret (v := .tuple #[.agg #[.int .i64 size, .int .i64 rate, .int .i64 tok, .int .i64 time], .bool true]) (by simp [results, Try.results15, go_sem]) rfl ⟨rfl, ?_⟩
  all_goals (repeat (first | (with_reducible exact grown_refl _ _) | (with_reducible assumption) | (with_reducible apply grown_drewN) | (with_reducible apply grown_drew) | (with_reducible apply grown_alloc) | ((with_reducible refine grown_set ?_ (Or.inr ?hb) _); (case hb => (simp; try omega)))))

set_option maxRecDepth 100000 in
set_option maxHeartbeats 800000 in
theorem asked_copy_back (g : Nat) {size rate tok time : Int} (B : Bk size rate tok time) (kind now n : Int) (w : World) (hw : Whole w g 138 (cells size rate tok time))
    (k3 : ((kind.tmod 6 + 6) % 6 == 3) = false) (k4 : ((kind.tmod 6 + 6) % 6 == 4) = false) (k5 : ((kind.tmod 6 + 6) % 6 == 5) = true) (s0 : 0 ≤ now) (n1 : now ≤ 1099511627776) (n0 : now < time) :
    Calls Try.prog 15 #[.pointer (some ⟨g, 0, none⟩), .agg #[.int .i64 size, .int .i64 rate, .int .i64 tok, .int .i64 time], .agg #[.int .i64 kind, .int .i64 now, .int .i64 n]] w fun e w' =>
      e = .returned (.tuple #[.agg #[.int .i64 size, .int .i64 rate, .int .i64 tok, .int .i64 time], .bool true]) ∧ w.grownBy w' none := by
  have hlt := hw.lt
  have z0 := B.s0
  have z1 := B.s1
  obtain ⟨k0, k1⟩ := kd_bd kind
  go_enter Try.func15, Try.ntmps15
  go_wp2_with (first | (go_at_call 72; refine (lsecond_yes _ _ s0 n1).mono ?_; rintro e w' ⟨rfl, rfl⟩) | (go_at_call 19; refine (clone_w g _ (by repeat (first | (with_reducible exact hw) | (with_reducible apply Whole.alloc) | (with_reducible apply Whole.drewN) | (with_reducible apply Whole.drew) | ((with_reducible refine Whole.aside ?_ ?hb _); (case hb => (simp; omega)))))).mono ?_; rintro e w' ⟨rfl, rfl⟩))
  go_quiet ((go_at_call 16; refine Calls.quiet_of (has_same _ B _ (by first | (with_reducible exact Whole.fresh_at _ _ _ (by simp)) | (refine Whole.drewN ?_ _; exact Whole.fresh_at _ _ _ (by simp))))))
  go_wp2_with (go_at_call 20; refine (take_same _ B _ (by first | (with_reducible exact Whole.fresh_at _ _ _ (by simp)) | (refine Whole.drewN ?_ _; exact Whole.fresh_at _ _ _ (by simp)))).mono ?_; rintro e w' ⟨rfl, k, rfl⟩)
  all_goals refine bodyPost_ret (v := .tuple #[.agg #[.int .i64 size, .int .i64 rate, .int .i64 tok, .int .i64 time], .bool true]) (by simp [results, Try.results15, go_sem]) rfl ⟨rfl, ?_⟩
  all_goals (repeat (first | (with_reducible exact grown_refl _ _) | (with_reducible assumption) | (with_reducible apply grown_drewN) | (with_reducible apply grown_drew) | (with_reducible apply grown_alloc) | ((with_reducible refine grown_set ?_ (Or.inr ?hb) _); (case hb => (simp; try omega)))))

set_option maxRecDepth 100000 in
set_option maxHeartbeats 800000 in
theorem asked_copy_nosec (g : Nat) {size rate tok time : Int} (B : Bk size rate tok time) (kind now n : Int) (w : World) (hw : Whole w g 138 (cells size rate tok time))
    (k3 : ((kind.tmod 6 + 6) % 6 == 3) = false) (k4 : ((kind.tmod 6 + 6) % 6 == 4) = false) (k5 : ((kind.tmod 6 + 6) % 6 == 5) = true) (h : ¬ Sec now)  :
    Calls Try.prog 15 #[.pointer (some ⟨g, 0, none⟩), .agg #[.int .i64 size, .int .i64 rate, .int .i64 tok, .int .i64 time], .agg #[.int .i64 kind, .int .i64 now, .int .i64 n]] w fun e w' =>
      e = .returned (.tuple #[.agg #[.int .i64 size, .int .i64 rate, .int .i64 tok, .int .i64 time], .bool true]) ∧ w.grownBy w' none := by
  have hlt := hw.lt
  have z0 := B.s0
  have z1 := B.s1
  obtain ⟨k0, k1⟩ := kd_bd kind
  have H := Lib.hid h
  clear h
  go_enter Try.func15, Try.ntmps15
  go_wp2_with (first | (go_at_call 72; refine (lsecond_no _ _ H.out).mono ?_; rintro e w' ⟨rfl, rfl⟩) | (go_at_call 19; refine (clone_w g _ (by repeat (first | (with_reducible exact hw) | (with_reducible apply Whole.alloc) | (with_reducible apply Whole.drewN) | (with_reducible apply Whole.drew) | ((with_reducible refine Whole.aside ?_ ?hb _); (case hb => (simp; omega)))))).mono ?_; rintro e w' ⟨rfl, rfl⟩))
  go_quiet ((go_at_call 16; refine Calls.quiet_of (has_same _ B _ (by first | (with_reducible exact Whole.fresh_at _ _ _ (by simp)) | (refine Whole.drewN ?_ _; exact Whole.fresh_at _ _ _ (by simp))))))
  go_wp2_with (go_at_call 20; refine (take_same _ B _ (by first | (with_reducible exact Whole.fresh_at _ _ _ (by simp)) | (refine Whole.drewN ?_ _; exact Whole.fresh_at _ _ _ (by simp)))).mono ?_; rintro e w' ⟨rfl, k, rfl⟩)
  all_goals refine bodyPost_ret (v := .tuple #[.agg #[.int .i64 size, .int .i64 rate, .int .i64 tok, .int .i64 time], .bool true]) (by simp [results, Try.results15, go_sem]) rfl ⟨rfl, ?_⟩
  all_goals (repeat (first | (with_reducible exact grown_refl _ _) | (with_reducible assumption) | (with_reducible apply grown_drewN) | (with_reducible apply grown_drew) | (with_reducible apply grown_alloc) | ((with_reducible refine grown_set ?_ (Or.inr ?hb) _); (case hb => (simp; try omega)))))

theorem take_wback (g : Nat) {size rate tok time : Int} (now n : Int) (w : World) (hw : Whole w g 138 (cells size rate tok time)) (h1 : 0 ≤ n) (s0 : 0 ≤ now) (s1 : now ≤ 1099511627776) (hb : now < time) :
    Calls Try.prog 20 #[.pointer (some ⟨g, 0, none⟩), .int .i64 now, .int .i64 n] w fun e w' => e = .returned (.tuple #[.bool false, .int .i64 201]) ∧ w = w' :=
  take_back g time now n w (hw.cell 3) h1 s0 s1 hb

set_option maxRecDepth 100000 in
set_option maxHeartbeats 800000 in
theorem asked_take_neg_sec (g : Nat) {size rate tok time : Int} (B : Bk size rate tok time) (kind now n : Int) (w : World) (hw : Whole w g 138 (cells size rate tok time))
    (k3 : ((kind.tmod 6 + 6) % 6 == 3) = false) (k4 : ((kind.tmod 6 + 6) % 6 == 4) = false) (k5 : ((kind.tmod 6 + 6) % 6 == 5) = false) (s0 : 0 ≤ now) (n1 : now ≤ 1099511627776) (ha : n < 0) :
    Calls Try.prog 15 #[.pointer (some ⟨g, 0, none⟩), .agg #[.int .i64 size, .int .i64 rate, .int .i64 tok, .int .i64 time], .agg #[.int .i64 kind, .int .i64 now, .int .i64 n]] w fun e w' =>
      e = .returned (.tuple #[.agg #[.int .i64 size, .int .i64 rate, .int .i64 tok, .int .i64 time], .bool true]) ∧ w.grownBy w' none := by
  have hlt := hw.lt
  have z0 := B.s0
  have z1 := B.s1
  obtain ⟨k0, k1⟩ := kd_bd kind
  go_enter Try.func15, Try.ntmps15
  go_wp2_with (first | (go_at_call 72; refine (lsecond_yes _ _ s0 n1).mono ?_; rintro e w' ⟨rfl, rfl⟩) | (go_at_call 20; refine (take_arg g now n _ (Or.inl ha)).mono ?_; rintro e w' ⟨rfl, rfl⟩))
  all_goals refine bodyPost_ret (v := .tuple #[.agg #[.int .i64 size, .int .i64 rate, .int .i64 tok, .int .i64 time], .bool true]) (by simp [results, Try.results15, go_sem]) rfl ⟨rfl, ?_⟩
  all_goals (repeat (first | (with_reducible exact grown_refl _ _) | (with_reducible assumption) | (with_reducible apply grown_drewN) | (with_reducible apply grown_drew) | (with_reducible apply grown_alloc) | ((with_reducible refine grown_set ?_ (Or.inr ?hb) _); (case hb => (simp; try omega)))))

set_option maxRecDepth 100000 in
set_option maxHeartbeats 800000 in
theorem asked_take_nosec (g : Nat) {size rate tok time : Int} (B : Bk size rate tok time) (kind now n : Int) (w : World) (hw : Whole w g 138 (cells size rate tok time))
    (k3 : ((kind.tmod 6 + 6) % 6 == 3) = false) (k4 : ((kind.tmod 6 + 6) % 6 == 4) = false) (k5 : ((kind.tmod 6 + 6) % 6 == 5) = false) (h : ¬ Sec now) :
    Calls Try.prog 15 #[.pointer (some ⟨g, 0, none⟩), .agg #[.int .i64 size, .int .i64 rate, .int .i64 tok, .int .i64 time], .agg #[.int .i64 kind, .int .i64 now, .int .i64 n]] w fun e w' =>
      e = .returned (.tuple #[.agg #[.int .i64 size, .int .i64 rate, .int .i64 tok, .int .i64 time], .bool true]) ∧ w.grownBy w' none := by
  have hlt := hw.lt
  have z0 := B.s0
  have z1 := B.s1
  obtain ⟨k0, k1⟩ := kd_bd kind
  have H := Lib.hid h
  clear h
  go_enter Try.func15, Try.ntmps15
  go_wp2_with (first | (go_at_call 72; refine (lsecond_no _ _ H.out).mono ?_; rintro e w' ⟨rfl, rfl⟩) | (go_at_call 20; refine (take_arg g now n _ (Or.inr H.out)).mono ?_; rintro e w' ⟨rfl, rfl⟩))
  all_goals refine bodyPost_ret (v := .tuple #[.agg #[.int .i64 size, .int .i64 rate, .int .i64 tok, .int .i64 time], .bool true]) (by simp [results, Try.results15, go_sem]) rfl ⟨rfl, ?_⟩
  all_goals (repeat (first | (with_reducible exact grown_refl _ _) | (with_reducible assumption) | (with_reducible apply grown_drewN) | (with_reducible apply grown_drew) | (with_reducible apply grown_alloc) | ((with_reducible refine grown_set ?_ (Or.inr ?hb) _); (case hb => (simp; try omega)))))

set_option maxRecDepth 100000 in
set_option maxHeartbeats 800000 in
theorem asked_take_back (g : Nat) {size rate tok time : Int} (B : Bk size rate tok time) (kind now n : Int) (w : World) (hw : Whole w g 138 (cells size rate tok time))
    (k3 : ((kind.tmod 6 + 6) % 6 == 3) = false) (k4 : ((kind.tmod 6 + 6) % 6 == 4) = false) (k5 : ((kind.tmod 6 + 6) % 6 == 5) = false) (s0 : 0 ≤ now) (n1 : now ≤ 1099511627776) (ha : 0 ≤ n) (hb : now < time) :
    Calls Try.prog 15 #[.pointer (some ⟨g, 0, none⟩), .agg #[.int .i64 size, .int .i64 rate, .int .i64 tok, .int .i64 time], .agg #[.int .i64 kind, .int .i64 now, .int .i64 n]] w fun e w' =>
      e = .returned (.tuple #[.agg #[.int .i64 size, .int .i64 rate, .int .i64 tok, .int .i64 time], .bool true]) ∧ w.grownBy w' none := by
  have hlt := hw.lt
  have z0 := B.s0
  have z1 := B.s1
  obtain ⟨k0, k1⟩ := kd_bd kind
  have hl : decide (time ≤ now) = false := decide_eq_false (by omega)
  go_enter Try.func15, Try.ntmps15
  go_wp2_with (first | (go_at_call 72; refine (lsecond_yes _ _ s0 n1).mono ?_; rintro e w' ⟨rfl, rfl⟩) | (go_at_call 20; refine (take_wback g now n _ (by repeat (first | (with_reducible exact hw) | (with_reducible apply Whole.alloc) | (with_reducible apply Whole.drewN) | (with_reducible apply Whole.drew) | ((with_reducible refine Whole.aside ?_ ?hb _); (case hb => (simp; omega))))) ha s0 n1 hb).mono ?_; rintro e w' ⟨rfl, rfl⟩))
  all_goals refine bodyPost_ret (v := .tuple #[.agg #[.int .i64 size, .int .i64 rate, .int .i64 tok, .int .i64 time], .bool true]) (by simp [results, Try.results15, go_sem]) rfl ⟨rfl, ?_⟩
  all_goals (repeat (first | (with_reducible exact grown_refl _ _) | (with_reducible assumption) | (with_reducible apply grown_drewN) | (with_reducible apply grown_drew) | (with_reducible apply grown_alloc) | ((with_reducible refine grown_set ?_ (Or.inr ?hb) _); (case hb => (simp; try omega)))))
end Sc
end Go.Proofs.Ytohphljhldcjbaa
