/- What the law asks of a bucket: When. -/
import Derived.Test.YtohphljhldcjbaaScE
namespace Go.Proofs.Ytohphljhldcjbaa
set_option linter.unusedVariables false
set_option linter.unusedSimpArgs false
open Go.RowKit Go.Maps
namespace Sc

theorem when_wno (g : Nat) {size rate tok time : Int} (now n : Int) (w : World) (hw : Whole w g 138 (cells size rate tok time)) (hn : ¬ (0 ≤ n ∧ n ≤ size ∧ Sec now ∧ time ≤ now)) :
    Calls Try.prog 18 #[.pointer (some ⟨g, 0, none⟩), .int .i64 now, .int .i64 n] w fun e w' => e = .returned (.tuple #[.int .i64 0, .bool false]) ∧ w = w' :=
  when_no g size time now n w (hw.cell 0) (hw.cell 3) hn

set_option maxRecDepth 100000 in
set_option maxHeartbeats 800000 in
theorem asked_when_nosec (g : Nat) {size rate tok time : Int} (B : Bk size rate tok time) (kind now n : Int) (w : World) (hw : Whole w g 138 (cells size rate tok time))
    (k3 : ((kind.tmod 6 + 6) % 6 == 3) = false) (k4 : ((kind.tmod 6 + 6) % 6 == 4) = true) (h : ¬ Sec now) :
    Calls Try.prog 15 #[.pointer (some ⟨g, 0, none⟩), .agg #[.int .i64 size, .int .i64 rate, .int .i64 tok, .int .i64 time], .agg #[.int .i64 kind, .int .i64 now, .int .i64 n]] w fun e w' =>
      e = .returned (.tuple #[.agg #[.int .i64 size, .int .i64 rate, .int .i64 tok, .int .i64 time], .bool true]) ∧ w.grownBy w' none := by
  have hlt := hw.lt
  have z0 := B.s0
  have z1 := B.s1
  obtain ⟨k0, k1⟩ := kd_bd kind
  have hn : ¬ (0 ≤ n ∧ n ≤ size ∧ Sec now ∧ time ≤ now) := fun x => h x.2.2.1
  have HN := Lib.hid hn
  have H := Lib.hid h
  clear h hn
  go_enter Try.func15, Try.ntmps15
  go_wp2_with (first | (go_at_call 72; refine (lsecond_no _ _ H.out).mono ?_; rintro e w' ⟨rfl, rfl⟩) | (go_at_call 18; refine (when_wno g now n _ (by repeat (first | (with_reducible exact hw) | (with_reducible apply Whole.alloc) | (with_reducible apply Whole.drewN) | (with_reducible apply Whole.drew) | ((with_reducible refine Whole.aside ?_ ?hb _); (case hb => (simp; omega))))) HN.out).mono ?_; rintro e w' ⟨rfl, rfl⟩))
  all_goals refine bodyPost_ret (v := .tuple #[.agg #[.int .i64 size, .int .i64 rate, .int .i64 tok, .int .i64 time], .bool true]) (by simp [results, Try.results15, go_sem]) rfl ⟨rfl, ?_⟩
  all_goals (repeat (first | (with_reducible exact grown_refl _ _) | (with_reducible assumption) | (with_reducible apply grown_drewN) | (with_reducible apply grown_drew) | (with_reducible apply grown_alloc) | ((with_reducible refine grown_set ?_ (Or.inr ?hb) _); (case hb => (simp; try omega)))))

set_option maxRecDepth 100000 in
set_option maxHeartbeats 800000 in
theorem asked_when_back (g : Nat) {size rate tok time : Int} (B : Bk size rate tok time) (kind now n : Int) (w : World) (hw : Whole w g 138 (cells size rate tok time))
    (k3 : ((kind.tmod 6 + 6) % 6 == 3) = false) (k4 : ((kind.tmod 6 + 6) % 6 == 4) = true) (s0 : 0 ≤ now) (n1 : now ≤ 1099511627776) (h : now < time) :
    Calls Try.prog 15 #[.pointer (some ⟨g, 0, none⟩), .agg #[.int .i64 size, .int .i64 rate, .int .i64 tok, .int .i64 time], .agg #[.int .i64 kind, .int .i64 now, .int .i64 n]] w fun e w' =>
      e = .returned (.tuple #[.agg #[.int .i64 size, .int .i64 rate, .int .i64 tok, .int .i64 time], .bool true]) ∧ w.grownBy w' none := by
  have hlt := hw.lt
  have z0 := B.s0
  have z1 := B.s1
  obtain ⟨k0, k1⟩ := kd_bd kind
  have hn : ¬ (0 ≤ n ∧ n ≤ size ∧ Sec now ∧ time ≤ now) := fun x => by have := x.2.2.2; omega
  have HN := Lib.hid hn
  clear hn
  go_enter Try.func15, Try.ntmps15
  go_wp2_with (first | (go_at_call 72; refine (lsecond_yes _ _ s0 n1).mono ?_; rintro e w' ⟨rfl, rfl⟩) | (go_at_call 18; refine (when_wno g now n _ (by repeat (first | (with_reducible exact hw) | (with_reducible apply Whole.alloc) | (with_reducible apply Whole.drewN) | (with_reducible apply Whole.drew) | ((with_reducible refine Whole.aside ?_ ?hb _); (case hb => (simp; omega))))) HN.out).mono ?_; rintro e w' ⟨rfl, rfl⟩))
  all_goals refine bodyPost_ret (v := .tuple #[.agg #[.int .i64 size, .int .i64 rate, .int .i64 tok, .int .i64 time], .bool true]) (by simp [results, Try.results15, go_sem]) rfl ⟨rfl, ?_⟩
  all_goals (repeat (first | (with_reducible exact grown_refl _ _) | (with_reducible assumption) | (with_reducible apply grown_drewN) | (with_reducible apply grown_drew) | (with_reducible apply grown_alloc) | ((with_reducible refine grown_set ?_ (Or.inr ?hb) _); (case hb => (simp; try omega)))))

set_option maxRecDepth 100000 in
set_option maxHeartbeats 800000 in
theorem asked_when_neg (g : Nat) {size rate tok time : Int} (B : Bk size rate tok time) (kind now n : Int) (w : World) (hw : Whole w g 138 (cells size rate tok time))
    (k3 : ((kind.tmod 6 + 6) % 6 == 3) = false) (k4 : ((kind.tmod 6 + 6) % 6 == 4) = true) (s0 : 0 ≤ now) (n0 : time ≤ now) (n1 : now ≤ 1099511627776) (h : n < 0) :
    Calls Try.prog 15 #[.pointer (some ⟨g, 0, none⟩), .agg #[.int .i64 size, .int .i64 rate, .int .i64 tok, .int .i64 time], .agg #[.int .i64 kind, .int .i64 now, .int .i64 n]] w fun e w' =>
      e = .returned (.tuple #[.agg #[.int .i64 size, .int .i64 rate, .int .i64 tok, .int .i64 time], .bool true]) ∧ w.grownBy w' none := by
  have hlt := hw.lt
  have z0 := B.s0
  have z1 := B.s1
  obtain ⟨k0, k1⟩ := kd_bd kind
  have hn : ¬ (0 ≤ n ∧ n ≤ size ∧ Sec now ∧ time ≤ now) := fun x => by have := x.1; omega
  have HN := Lib.hid hn
  clear hn
  go_enter Try.func15, Try.ntmps15
  go_wp2_with (first | (go_at_call 72; refine (lsecond_yes _ _ s0 n1).mono ?_; rintro e w' ⟨rfl, rfl⟩) | (go_at_call 18; refine (when_wno g now n _ (by repeat (first | (with_reducible exact hw) | (with_reducible apply Whole.alloc) | (with_reducible apply Whole.drewN) | (with_reducible apply Whole.drew) | ((with_reducible refine Whole.aside ?_ ?hb _); (case hb => (simp; omega))))) HN.out).mono ?_; rintro e w' ⟨rfl, rfl⟩))
  all_goals refine bodyPost_ret (v := .tuple #[.agg #[.int .i64 size, .int .i64 rate, .int .i64 tok, .int .i64 time], .bool true]) (by simp [results, Try.results15, go_sem]) rfl ⟨rfl, ?_⟩
  all_goals (repeat (first | (with_reducible exact grown_refl _ _) | (with_reducible assumption) | (with_reducible apply grown_drewN) | (with_reducible apply grown_drew) | (with_reducible apply grown_alloc) | ((with_reducible refine grown_set ?_ (Or.inr ?hb) _); (case hb => (simp; try omega)))))

set_option maxRecDepth 100000 in
set_option maxHeartbeats 800000 in
theorem asked_when_much (g : Nat) {size rate tok time : Int} (B : Bk size rate tok time) (kind now n : Int) (w : World) (hw : Whole w g 138 (cells size rate tok time))
    (k3 : ((kind.tmod 6 + 6) % 6 == 3) = false) (k4 : ((kind.tmod 6 + 6) % 6 == 4) = true) (s0 : 0 ≤ now) (n0 : time ≤ now) (n1 : now ≤ 1099511627776) (h0 : 0 ≤ n) (h : size < n) :
    Calls Try.prog 15 #[.pointer (some ⟨g, 0, none⟩), .agg #[.int .i64 size, .int .i64 rate, .int .i64 tok, .int .i64 time], .agg #[.int .i64 kind, .int .i64 now, .int .i64 n]] w fun e w' =>
      e = .returned (.tuple #[.agg #[.int .i64 size, .int .i64 rate, .int .i64 tok, .int .i64 time], .bool true]) ∧ w.grownBy w' none := by
  have hlt := hw.lt
  have z0 := B.s0
  have z1 := B.s1
  obtain ⟨k0, k1⟩ := kd_bd kind
  have hn : ¬ (0 ≤ n ∧ n ≤ size ∧ Sec now ∧ time ≤ now) := fun x => by have := x.2.1; omega
  have HN := Lib.hid hn
  have hx := (hasF_bd B n0 n1).2
  have hh : hasF size rate tok time now < n := by omega
  clear hn hx
  go_enter Try.func15, Try.ntmps15
  go_wp2_with (first | (go_at_call 72; refine (lsecond_yes _ _ s0 n1).mono ?_; rintro e w' ⟨rfl, rfl⟩) | (go_at_call 18; refine (when_wno g now n _ (by repeat (first | (with_reducible exact hw) | (with_reducible apply Whole.alloc) | (with_reducible apply Whole.drewN) | (with_reducible apply Whole.drew) | ((with_reducible refine Whole.aside ?_ ?hb _); (case hb => (simp; omega))))) HN.out).mono ?_; rintro e w' ⟨rfl, rfl⟩) | (go_at_call 73; refine (refwhen_none B now n _ n0 n1 hh (Or.inl h)).mono ?_; rintro e w' ⟨rfl, rfl⟩))
  all_goals refine bodyPost_ret (v := .tuple #[.agg #[.int .i64 size, .int .i64 rate, .int .i64 tok, .int .i64 time], .bool true]) (by simp [results, Try.results15, go_sem]) rfl ⟨rfl, ?_⟩
  all_goals (repeat (first | (with_reducible exact grown_refl _ _) | (with_reducible assumption) | (with_reducible apply grown_drewN) | (with_reducible apply grown_drew) | (with_reducible apply grown_alloc) | ((with_reducible refine grown_set ?_ (Or.inr ?hb) _); (case hb => (simp; try omega)))))

theorem when_whas (g : Nat) {size rate tok time : Int} (B : Bk size rate tok time) (now n : Int) (w : World) (hw : Whole w g 138 (cells size rate tok time))
    (h1 : 0 ≤ n) (h2 : n ≤ size) (s0 : 0 ≤ now) (n0 : time ≤ now) (n1 : now ≤ 1099511627776) (hh : n ≤ hasF size rate tok time now) :
    Calls Try.prog 18 #[.pointer (some ⟨g, 0, none⟩), .int .i64 now, .int .i64 n] w fun e w' => e = .returned (.tuple #[.int .i64 now, .bool true]) ∧ ∃ k, w' = w.drewN k :=
  when_has g B now n w (hw.cell 0) (hw.cell 1) (hw.cell 2) (hw.cell 3) h1 h2 s0 n0 n1 hh

theorem when_wzero (g : Nat) {size rate tok time : Int} (B : Bk size rate tok time) (now n : Int) (w : World) (hw : Whole w g 138 (cells size rate tok time))
    (h1 : 0 ≤ n) (h2 : n ≤ size) (s0 : 0 ≤ now) (n0 : time ≤ now) (n1 : now ≤ 1099511627776) (hh : hasF size rate tok time now < n) (hr : rate = 0) :
    Calls Try.prog 18 #[.pointer (some ⟨g, 0, none⟩), .int .i64 now, .int .i64 n] w fun e w' => e = .returned (.tuple #[.int .i64 0, .bool false]) ∧ ∃ k, w' = w.drewN k :=
  when_zero g B now n w (hw.cell 0) (hw.cell 1) (hw.cell 2) (hw.cell 3) h1 h2 s0 n0 n1 hh hr

theorem when_wat (g : Nat) {size rate tok time : Int} (B : Bk size rate tok time) (now n : Int) (w : World) (hw : Whole w g 138 (cells size rate tok time))
    (h1 : 0 ≤ n) (h2 : n ≤ size) (s0 : 0 ≤ now) (n0 : time ≤ now) (n1 : now ≤ 1099511627776) (hh : hasF size rate tok time now < n) (hr : 1 ≤ rate) (ha : atF rate tok time n ≤ 1099511627776) :
    Calls Try.prog 18 #[.pointer (some ⟨g, 0, none⟩), .int .i64 now, .int .i64 n] w fun e w' => e = .returned (.tuple #[.int .i64 (atF rate tok time n), .bool true]) ∧ ∃ k, w' = w.drewN k :=
  when_at g B now n w (hw.cell 0) (hw.cell 1) (hw.cell 2) (hw.cell 3) h1 h2 s0 n0 n1 hh hr ha

theorem when_wlate (g : Nat) {size rate tok time : Int} (B : Bk size rate tok time) (now n : Int) (w : World) (hw : Whole w g 138 (cells size rate tok time))
    (h1 : 0 ≤ n) (h2 : n ≤ size) (s0 : 0 ≤ now) (n0 : time ≤ now) (n1 : now ≤ 1099511627776) (hh : hasF size rate tok time now < n) (hr : 1 ≤ rate) (ha : 1099511627776 < atF rate tok time n) :
    Calls Try.prog 18 #[.pointer (some ⟨g, 0, none⟩), .int .i64 now, .int .i64 n] w fun e w' => e = .returned (.tuple #[.int .i64 0, .bool false]) ∧ ∃ k, w' = w.drewN k :=
  when_late g B now n w (hw.cell 0) (hw.cell 1) (hw.cell 2) (hw.cell 3) h1 h2 s0 n0 n1 hh hr ha

set_option maxRecDepth 100000 in
set_option maxHeartbeats 800000 in
theorem asked_when_has (g : Nat) {size rate tok time : Int} (B : Bk size rate tok time) (kind now n : Int) (w : World) (hw : Whole w g 138 (cells size rate tok time))
    (k3 : ((kind.tmod 6 + 6) % 6 == 3) = false) (k4 : ((kind.tmod 6 + 6) % 6 == 4) = true) (s0 : 0 ≤ now) (n0 : time ≤ now) (n1 : now ≤ 1099511627776) (h1 : 0 ≤ n) (h2 : n ≤ size) (hh : n ≤ hasF size rate tok time now) :
    Calls Try.prog 15 #[.pointer (some ⟨g, 0, none⟩), .agg #[.int .i64 size, .int .i64 rate, .int .i64 tok, .int .i64 time], .agg #[.int .i64 kind, .int .i64 now, .int .i64 n]] w fun e w' =>
      e = .returned (.tuple #[.agg #[.int .i64 size, .int .i64 rate, .int .i64 tok, .int .i64 time], .bool true]) ∧ w.grownBy w' none := by
  have hlt := hw.lt
  have z0 := B.s0
  have z1 := B.s1
  obtain ⟨k0, k1⟩ := kd_bd kind
  go_enter Try.func15, Try.ntmps15
  go_wp2_with (first | (go_at_call 72; refine (lsecond_yes _ _ s0 n1).mono ?_; rintro e w' ⟨rfl, rfl⟩) | (go_at_call 18; refine (when_whas g B now n _ (by repeat (first | (with_reducible exact hw) | (with_reducible apply Whole.alloc) | (with_reducible apply Whole.drewN) | (with_reducible apply Whole.drew) | ((with_reducible refine Whole.aside ?_ ?hb _); (case hb => (simp; omega))))) h1 h2 s0 n0 n1 hh).mono ?_; rintro e w' ⟨rfl, k, rfl⟩) | (go_at_call 73; refine (refwhen_has B now n _ n0 n1 hh).mono ?_; rintro e w' ⟨rfl, rfl⟩))
  all_goals refine bodyPost_ret (v := .tuple #[.agg #[.int .i64 size, .int .i64 rate, .int .i64 tok, .int .i64 time], .bool true]) (by simp [results, Try.results15, go_sem]) rfl ⟨rfl, ?_⟩
  all_goals (repeat (first | (with_reducible exact grown_refl _ _) | (with_reducible assumption) | (with_reducible apply grown_drewN) | (with_reducible apply grown_drew) | (with_reducible apply grown_alloc) | ((with_reducible refine grown_set ?_ (Or.inr ?hb) _); (case hb => (simp; try omega)))))

set_option maxRecDepth 100000 in
set_option maxHeartbeats 800000 in
theorem asked_when_zero (g : Nat) {size rate tok time : Int} (B : Bk size rate tok time) (kind now n : Int) (w : World) (hw : Whole w g 138 (cells size rate tok time))
    (k3 : ((kind.tmod 6 + 6) % 6 == 3) = false) (k4 : ((kind.tmod 6 + 6) % 6 == 4) = true) (s0 : 0 ≤ now) (n0 : time ≤ now) (n1 : now ≤ 1099511627776) (h1 : 0 ≤ n) (h2 : n ≤ size) (hh : hasF size rate tok time now < n) (hr : rate = 0) :
    Calls Try.prog 15 #[.pointer (some ⟨g, 0, none⟩), .agg #[.int .i64 size, .int .i64 rate, .int .i64 tok, .int .i64 time], .agg #[.int .i64 kind, .int .i64 now, .int .i64 n]] w fun e w' =>
      e = .returned (.tuple #[.agg #[.int .i64 size, .int .i64 rate, .int .i64 tok, .int .i64 time], .bool true]) ∧ w.grownBy w' none := by
  have hlt := hw.lt
  have z0 := B.s0
  have z1 := B.s1
  obtain ⟨k0, k1⟩ := kd_bd kind
  have HR := Lib.hid hr
  clear hr
  go_enter Try.func15, Try.ntmps15
  go_wp2_with (first | (go_at_call 72; refine (lsecond_yes _ _ s0 n1).mono ?_; rintro e w' ⟨rfl, rfl⟩) | (go_at_call 18; refine (when_wzero g B now n _ (by repeat (first | (with_reducible exact hw) | (with_reducible apply Whole.alloc) | (with_reducible apply Whole.drewN) | (with_reducible apply Whole.drew) | ((with_reducible refine Whole.aside ?_ ?hb _); (case hb => (simp; omega))))) h1 h2 s0 n0 n1 hh HR.out).mono ?_; rintro e w' ⟨rfl, k, rfl⟩) | (go_at_call 73; refine (refwhen_none B now n _ n0 n1 hh (Or.inr HR.out)).mono ?_; rintro e w' ⟨rfl, rfl⟩))
  all_goals refine bodyPost_ret (v := .tuple #[.agg #[.int .i64 size, .int .i64 rate, .int .i64 tok, .int .i64 time], .bool true]) (by simp [results, Try.results15, go_sem]) rfl ⟨rfl, ?_⟩
  all_goals (repeat (first | (with_reducible exact grown_refl _ _) | (with_reducible assumption) | (with_reducible apply grown_drewN) | (with_reducible apply grown_drew) | (with_reducible apply grown_alloc) | ((with_reducible refine grown_set ?_ (Or.inr ?hb) _); (case hb => (simp; try omega)))))

set_option maxRecDepth 100000 in
set_option maxHeartbeats 800000 in
theorem asked_when_at (g : Nat) {size rate tok time : Int} (B : Bk size rate tok time) (kind now n : Int) (w : World) (hw : Whole w g 138 (cells size rate tok time))
    (k3 : ((kind.tmod 6 + 6) % 6 == 3) = false) (k4 : ((kind.tmod 6 + 6) % 6 == 4) = true) (s0 : 0 ≤ now) (n0 : time ≤ now) (n1 : now ≤ 1099511627776) (h1 : 0 ≤ n) (h2 : n ≤ size) (hh : hasF size rate tok time now < n) (hr : 1 ≤ rate) (ha : atF rate tok time n ≤ 1099511627776) :
    Calls Try.prog 15 #[.pointer (some ⟨g, 0, none⟩), .agg #[.int .i64 size, .int .i64 rate, .int .i64 tok, .int .i64 time], .agg #[.int .i64 kind, .int .i64 now, .int .i64 n]] w fun e w' =>
      e = .returned (.tuple #[.agg #[.int .i64 size, .int .i64 rate, .int .i64 tok, .int .i64 time], .bool true]) ∧ w.grownBy w' none := by
  have hlt := hw.lt
  have z0 := B.s0
  have z1 := B.s1
  obtain ⟨k0, k1⟩ := kd_bd kind
  go_enter Try.func15, Try.ntmps15
  go_wp2_with (first | (go_at_call 72; refine (lsecond_yes _ _ s0 n1).mono ?_; rintro e w' ⟨rfl, rfl⟩) | (go_at_call 18; refine (when_wat g B now n _ (by repeat (first | (with_reducible exact hw) | (with_reducible apply Whole.alloc) | (with_reducible apply Whole.drewN) | (with_reducible apply Whole.drew) | ((with_reducible refine Whole.aside ?_ ?hb _); (case hb => (simp; omega))))) h1 h2 s0 n0 n1 hh hr ha).mono ?_; rintro e w' ⟨rfl, k, rfl⟩) | (go_at_call 73; refine (refwhen_at B now n _ s0 n0 n1 hh h2 hr ha).mono ?_; rintro e w' ⟨rfl, rfl⟩))
  all_goals refine bodyPost_ret (v := .tuple #[.agg #[.int .i64 size, .int .i64 rate, .int .i64 tok, .int .i64 time], .bool true]) (by simp [results, Try.results15, go_sem]) rfl ⟨rfl, ?_⟩
  all_goals (repeat (first | (with_reducible exact grown_refl _ _) | (with_reducible assumption) | (with_reducible apply grown_drewN) | (with_reducible apply grown_drew) | (with_reducible apply grown_alloc) | ((with_reducible refine grown_set ?_ (Or.inr ?hb) _); (case hb => (simp; try omega)))))

set_option maxRecDepth 100000 in
set_option maxHeartbeats 800000 in
theorem asked_when_late (g : Nat) {size rate tok time : Int} (B : Bk size rate tok time) (kind now n : Int) (w : World) (hw : Whole w g 138 (cells size rate tok time))
    (k3 : ((kind.tmod 6 + 6) % 6 == 3) = false) (k4 : ((kind.tmod 6 + 6) % 6 == 4) = true) (s0 : 0 ≤ now) (n0 : time ≤ now) (n1 : now ≤ 1099511627776) (h1 : 0 ≤ n) (h2 : n ≤ size) (hh : hasF size rate tok time now < n) (hr : 1 ≤ rate) (ha : 1099511627776 < atF rate tok time n) :
    Calls Try.prog 15 #[.pointer (some ⟨g, 0, none⟩), .agg #[.int .i64 size, .int .i64 rate, .int .i64 tok, .int .i64 time], .agg #[.int .i64 kind, .int .i64 now, .int .i64 n]] w fun e w' =>
      e = .returned (.tuple #[.agg #[.int .i64 size, .int .i64 rate, .int .i64 tok, .int .i64 time], .bool true]) ∧ w.grownBy w' none := by
  have hlt := hw.lt
  have z0 := B.s0
  have z1 := B.s1
  obtain ⟨k0, k1⟩ := kd_bd kind
  go_enter Try.func15, Try.ntmps15
  go_wp2_with (first | (go_at_call 72; refine (lsecond_yes _ _ s0 n1).mono ?_; rintro e w' ⟨rfl, rfl⟩) | (go_at_call 18; refine (when_wlate g B now n _ (by repeat (first | (with_reducible exact hw) | (with_reducible apply Whole.alloc) | (with_reducible apply Whole.drewN) | (with_reducible apply Whole.drew) | ((with_reducible refine Whole.aside ?_ ?hb _); (case hb => (simp; omega))))) h1 h2 s0 n0 n1 hh hr ha).mono ?_; rintro e w' ⟨rfl, k, rfl⟩) | (go_at_call 73; refine (refwhen_late B now n _ s0 n0 n1 hh h2 hr ha).mono ?_; rintro e w' ⟨rfl, rfl⟩))
  all_goals refine bodyPost_ret (v := .tuple #[.agg #[.int .i64 size, .int .i64 rate, .int .i64 tok, .int .i64 time], .bool true]) (by simp [results, Try.results15, go_sem]) rfl ⟨rfl, ?_⟩
  all_goals (repeat (first | (with_reducible exact grown_refl _ _) | (with_reducible assumption) | (with_reducible apply grown_drewN) | (with_reducible apply grown_drew) | (with_reducible apply grown_alloc) | ((with_reducible refine grown_set ?_ (Or.inr ?hb) _); (case hb => (simp; try omega)))))
end Sc
end Go.Proofs.Ytohphljhldcjbaa
