/- num.Reader: what its methods do. -/
import Derived.Test.YtohphljhldcjbaaByG
import Derived.Test.YtohphljhldcjbaaByC
namespace Go.Proofs.Ytohphljhldcjbaa
open Go.RowKit Go.Maps
namespace By

/-- A reader: its bytes, how many were taken, its error. -/
abbrev Rd (w : World) (r : Nat) (s : ByteArray) (at_ e : Int) : Prop := Whole w r 244 #[.string s, .int .i64 at_, .int .i64 e]

set_option maxHeartbeats 400000 in
theorem newR (s : ByteArray) (w : World) : Calls Try.prog 86 #[.string s] w fun e w' => e = .returned (ptr w.heap.size) ∧ Rd w' w.heap.size s 0 0 ∧ w.grownBy w' none := by
  go_enter Try.func86, Try.ntmps86
  go_wp2
  go_ret
  exact ⟨rfl, Whole.fresh _ _ _, grown_alloc (grown_refl _ _) _⟩

section
variable {w : World} {r : Nat} {s : ByteArray} {at_ e0 : Int}
set_option maxHeartbeats 400000 in
theorem err_any (h : Rd w r s at_ e0) : Calls Try.prog 88 #[ptr r] w fun e w' => e = .returned (.int .i64 e0) ∧ w = w' := by
  have c2 : w.cell? ⟨r, 2, none⟩ = some (.int .i64 e0) := h.cell 2
  go_enter Try.func88, Try.ntmps88
  go_wp2
  go_ret
  exact ⟨rfl, rfl⟩

set_option maxHeartbeats 400000 in
theorem fail_any (h : Rd w r s at_ 0) (e1 : Int) : Calls Try.prog 90 #[ptr r, .int .i64 e1] w fun e w' => e = .returned (.tuple #[]) ∧ Rd w' r s at_ e1 ∧ w.grownBy w' (some r) := by
  have c2 : w.cell? ⟨r, 2, none⟩ = some (.int .i64 0) := h.cell 2
  have f2 := h.thaw 2
  go_enter Try.func90, Try.ntmps90
  go_wp2
  go_end0
  refine ⟨rfl, ?_, grown_set (grown_refl _ _) (Or.inl rfl) _⟩
  have h1 := h.set_ 2 (.int .i64 e1)
  simpa using h1

set_option maxHeartbeats 400000 in
theorem left_any {n : Nat} (h : Rd w r s (n : Nat) e0) (hs : s.size ≤ 140737488351232) (hn : n ≤ s.size) : Calls Try.prog 141 #[ptr r] w fun e w' => e = .returned (.int .i64 ((s.size - n : Nat) : Int)) ∧ w.grownBy w' none := by
  have c0 : w.cell? ⟨r, 0, none⟩ = some (.string s) := h.cell 0
  have c1 : w.cell? ⟨r, 1, none⟩ = some (.int .i64 n) := h.cell 1
  have e1 : IntKind.i64.wrap ((s.size : Int) - (n : Int)) = ((s.size - n : Nat) : Int) := by rw [IntWalk.i64_in _ (by omega)]; omega
  clear hs hn
  go_enter Try.func141, Try.ntmps141
  go_wp2_with fail
  go_quiet (fail)
  go_wp2
  go_ret
  exact ⟨rfl, grown_drewN (grown_refl _ _) _⟩

set_option maxHeartbeats 1000000 in
set_option maxRecDepth 100000 in
theorem bytes_err (h : Rd w r s at_ e0) (he : e0 ≠ 0) (k : Int) : Calls Try.prog 140 #[ptr r, .int .i64 k] w fun e w' => e = .returned (.string .empty) ∧ w = w' := by
  have e1 : (e0 == 0) = false := beq_eq_false_iff_ne.2 he
  have HR := Lib.hid (err_any h)
  clear h he
  go_enter Try.func140, Try.ntmps140
  go_wp2_with (go_at_call 88; refine HR.out.mono ?_; rintro e w' ⟨rfl, rfl⟩)
  all_goals go_ret
  all_goals exact ⟨rfl, rfl⟩

set_option maxHeartbeats 1000000 in
set_option maxRecDepth 100000 in
theorem bytes_cut {n k : Nat} (h : Rd w r s (n : Nat) 0) (hs : s.size ≤ 140737488351232) (hn : n ≤ s.size) (hk : s.size - n < k) :
    Calls Try.prog 140 #[ptr r, .int .i64 k] w fun e w' => e = .returned (.string .empty) ∧ Rd w' r s (n : Nat) 4 ∧ w.grownBy w' (some r) := by
  have HR := Lib.hid (err_any h)
  have HL := Lib.hid (left_any h hs hn)
  have e1 : (((s.size - n : Nat) : Int) < (k : Int)) = True := eq_true (Int.ofNat_lt.2 hk)
  clear hs hn hk
  go_enter Try.func140, Try.ntmps140
  go_wp2_with (first | (go_at_call 88; refine HR.out.mono ?_; rintro e w' ⟨rfl, rfl⟩) | (go_at_call 141; refine HL.out.mono ?_; rintro e w1 ⟨rfl, g1⟩; have h1 := h.grown g1 (by simp); have c2 : w1.cell? ⟨r, 2, none⟩ = some (.int .i64 0) := h1.cell 2; have f2 := h1.thaw 2))
  go_ret
  refine ⟨rfl, ?_, grown_set (grown_more g1 _) (Or.inl rfl) _⟩
  have h2 := h1.set_ 2 (.int .i64 4)
  simpa using h2

set_option maxHeartbeats 1000000 in
set_option maxRecDepth 100000 in
theorem bytes_ok {n k : Nat} (h : Rd w r s (n : Nat) 0) (hs : s.size ≤ 140737488351232) (hn : n + k ≤ s.size) :
    Calls Try.prog 140 #[ptr r, .int .i64 k] w fun e w' => e = .returned (.string (s.extract n (n + k))) ∧ Rd w' r s ((n + k : Nat) : Int) 0 ∧ w.grownBy w' (some r) := by
  have HR := Lib.hid (err_any h)
  have HL := Lib.hid (left_any h hs (by omega))
  have e1 : (((s.size - n : Nat) : Int) < (k : Int)) = False := eq_false (by omega)
  have e2 : IntKind.i64.wrap ((n : Int) + (k : Int)) = ((n + k : Nat) : Int) := by rw [IntWalk.i64_in _ (by omega)]; omega
  have e3 : IntKind.i64.wrap (((n + k : Nat) : Int) - (k : Int)) = (n : Int) := by rw [IntWalk.i64_in _ (by omega)]; omega
  have e4 : ((n : Int) ≤ ((n + k : Nat) : Int)) = True := eq_true (by omega)
  have e5 : (((n + k : Nat) : Int) ≤ (s.size : Int)) = True := eq_true (by omega)
  generalize n + k = m at *
  clear hs hn
  go_enter Try.func140, Try.ntmps140
  go_wp2_with (first | (go_at_call 88; refine HR.out.mono ?_; rintro e w' ⟨rfl, rfl⟩) | (go_at_call 141; refine HL.out.mono ?_; rintro e w1 ⟨rfl, g1⟩; have h1 := h.grown g1 (by simp); have c0 : w1.cell? ⟨r, 0, none⟩ = some (.string s) := h1.cell 0; have c1 : w1.cell? ⟨r, 1, none⟩ = some (.int .i64 n) := h1.cell 1; have f1 := h1.thaw 1))
  have h2 : Rd (w1.setCell ⟨r, 1, none⟩ (.int .i64 m)) r s m 0 := by
    have h2 := h1.set_ 1 (.int .i64 m)
    simpa using h2
  have g2 : w.grownBy (w1.setCell ⟨r, 1, none⟩ (.int .i64 m)) (some r) := grown_set (grown_more g1 _) (Or.inl rfl) _
  clear c0 c1 f1 g1 h1
  generalize w1.setCell ⟨r, 1, none⟩ (.int .i64 m) = w2 at h2 g2 ⊢
  have c0 : w2.cell? ⟨r, 0, none⟩ = some (.string s) := h2.cell 0
  have c1 : w2.cell? ⟨r, 1, none⟩ = some (.int .i64 m) := h2.cell 1
  go_quiet (fail)
  go_wp2
  go_ret
  exact ⟨rfl, h2, grown_drewN g2 _⟩

theorem numB_empty : numB .empty = 0 := rfl
theorem numB_lt {t : ByteArray} {k : Nat} (h : t.size ≤ k) : numB t < 256 ^ k := by
  have h1 := numL_lt t.data.toList
  have h2 : t.data.toList.length = t.size := by simp
  rw [h2] at h1
  exact Nat.lt_of_lt_of_le h1 (Nat.pow_le_pow_right (by decide) h)

theorem part_size (s : ByteArray) (n k : Nat) : (s.extract n (n + k)).size ≤ k := by
  rw [ByteArray.size_extract]
  omega

set_option maxHeartbeats 1000000 in
set_option maxRecDepth 100000 in
theorem u32_of {v : ByteArray} {R : World → Prop} (h : Calls Try.prog 140 #[ptr r, .int .i64 4] w fun e w' => e = .returned (.string v) ∧ R w') (hv : v.size ≤ 4) :
    Calls Try.prog 89 #[ptr r] w fun e w' => e = .returned (.int .u32 (numB v)) ∧ R w' := by
  have HB := Lib.hid h
  have e1 : IntKind.u32.wrap (numB v : Int) = (numB v : Int) := IntWalk.u32_in _ (by have := numB_lt hv; omega)
  have HT := Lib.hid fun W => take_any v W (Nat.le_trans hv (by decide))
  clear h hv
  go_enter Try.func89, Try.ntmps89
  go_wp2_with (first | (go_at_call 140; refine HB.out.mono ?_; rintro e w' ⟨rfl, hR⟩) | (go_at_call 139; refine (HT.out _).mono ?_; rintro e w2 ⟨rfl, rfl⟩))
  go_ret
  exact ⟨rfl, hR⟩

set_option maxHeartbeats 1000000 in
set_option maxRecDepth 100000 in
theorem u64_of {v : ByteArray} {R : World → Prop} (h : Calls Try.prog 140 #[ptr r, .int .i64 8] w fun e w' => e = .returned (.string v) ∧ R w') (hv : v.size ≤ 8) :
    Calls Try.prog 91 #[ptr r] w fun e w' => e = .returned (.int .u64 (numB v)) ∧ R w' := by
  have HB := Lib.hid h
  have HT := Lib.hid fun W => take_any v W hv
  clear h hv
  go_enter Try.func91, Try.ntmps91
  go_wp2_with (first | (go_at_call 140; refine HB.out.mono ?_; rintro e w' ⟨rfl, hR⟩) | (go_at_call 139; refine (HT.out _).mono ?_; rintro e w2 ⟨rfl, rfl⟩))
  go_ret
  exact ⟨rfl, hR⟩

set_option maxHeartbeats 1000000 in
set_option maxRecDepth 100000 in
/-- End: what is left is an error. -/
theorem end_err (h : Rd w r s at_ e0) (he : e0 ≠ 0) : Calls Try.prog 92 #[ptr r] w fun e w' => e = .returned (.int .i64 e0) ∧ w = w' := by
  have e1 : (e0 == 0) = false := beq_eq_false_iff_ne.2 he
  have HR := Lib.hid (err_any h)
  clear h
  go_enter Try.func92, Try.ntmps92
  go_wp2_with (go_at_call 88; refine HR.out.mono ?_; rintro e w' ⟨rfl, rfl⟩)
  all_goals go_ret
  all_goals exact ⟨rfl, rfl⟩

set_option maxHeartbeats 1000000 in
set_option maxRecDepth 100000 in
theorem end_more {n : Nat} (h : Rd w r s (n : Nat) 0) (hs : s.size ≤ 140737488351232) (hn : n < s.size) : Calls Try.prog 92 #[ptr r] w fun e w' => e = .returned (.int .i64 5) ∧ w.grownBy w' (some r) := by
  have HR := Lib.hid (err_any h)
  have hl := left_any h hs (Nat.le_of_lt hn)
  have e1 : 0 < s.size - n := by omega
  generalize s.size - n = q at hl e1
  have HL := Lib.hid hl
  clear hs hn hl
  go_enter Try.func92, Try.ntmps92
  go_wp2_with (first | (go_at_call 88; refine HR.out.mono ?_; rintro e w' ⟨rfl, rfl⟩) | (go_at_call 141; refine HL.out.mono ?_; rintro e w1 ⟨rfl, g1⟩; have h1 := h.grown g1 (by simp); have c2 : w1.cell? ⟨r, 2, none⟩ = some (.int .i64 0) := h1.cell 2; have f2 := h1.thaw 2) | fail)
  have h2 : Rd (w1.setCell ⟨r, 2, none⟩ (.int .i64 5)) r s n 5 := by
    have h2 := h1.set_ 2 (.int .i64 5)
    simpa using h2
  refine (err_any h2).mono ?_
  rintro e w3 ⟨rfl, rfl⟩
  go_wp2
  go_ret
  exact ⟨rfl, grown_set (grown_more g1 _) (Or.inl rfl) _⟩

set_option maxHeartbeats 1000000 in
set_option maxRecDepth 100000 in
theorem end_ok {n : Nat} (h : Rd w r s (n : Nat) 0) (hs : s.size ≤ 140737488351232) (hn : n = s.size) : Calls Try.prog 92 #[ptr r] w fun e w' => e = .returned (.int .i64 0) ∧ w.grownBy w' none := by
  have HR := Lib.hid (err_any h)
  have hl := left_any h hs (Nat.le_of_eq hn)
  have e1 : s.size - n = 0 := by omega
  rw [e1] at hl
  have HL := Lib.hid hl
  clear hs hn hl e1
  go_enter Try.func92, Try.ntmps92
  go_wp2_with (first | (go_at_call 88; refine HR.out.mono ?_; rintro e w' ⟨rfl, rfl⟩) | (go_at_call 141; refine HL.out.mono ?_; rintro e w1 ⟨rfl, g1⟩; have h1 := h.grown g1 (by simp)) | fail)
  refine (err_any h1).mono ?_
  rintro e w3 ⟨rfl, rfl⟩
  go_wp2
  go_ret
  exact ⟨rfl, g1⟩

/-- The first byte of a count. -/
def b0 (s : ByteArray) : Nat := if h : 0 < s.size then s[0].toNat else 0
/-- How long a count is that does not begin with itself. -/
def longB (b : Nat) : Nat := if b = 253 then 3 else if b = 254 then 5 else 9
/-- What is wrong with a count of at most 64. -/
def cntE (s : ByteArray) : Int :=
  if s.size = 0 then 4 else if b0 s < 253 then (if 64 < b0 s then 5 else 0) else if s.size < longB (b0 s) then 4 else if longOf (numB (s.extract 1 (longB (b0 s)))) = longB (b0 s) then 5 else 6

set_option maxHeartbeats 1000000 in
set_option maxRecDepth 100000 in
theorem tc_none (w : World) : Calls Try.prog 138 #[.string .empty, .int .i64 0] w fun e w' => e = .returned (.tuple #[.int .u64 0, .int .i64 0, .int .i64 4]) ∧ w = w' := by
  go_enter Try.func138, Try.ntmps138
  go_wp2_with fail
  go_ret3
  exact ⟨rfl, rfl⟩

theorem notEmpty {s : ByteArray} (h : 0 < s.size) : s.toList.isEmpty = false := by
  rw [ByteArray.toList_eq]
  have h1 : s.data.toList.length = s.size := by simp
  cases hl : s.data.toList with
  | nil => rw [hl] at h1; simp at h1; omega
  | cons x r => rfl

set_option maxHeartbeats 1000000 in
set_option maxRecDepth 100000 in
theorem tc_short (s : ByteArray) (w : World) (h : 0 < s.size) (hs : s.size ≤ 140737488351232) (hb : s[0].toNat < 253) : Calls Try.prog 138 #[.string s, .int .i64 0] w fun e w' => e = .returned (.tuple #[.int .u64 (s[0].toNat : Nat), .int .i64 1, .int .i64 0]) ∧ w = w' := by
  have hx : s.extract 0 s.size = s := by apply ByteArray.ext; simp
  have hne := notEmpty h
  have e0 : ((s.size : Int) < 0) = False := eq_false (by omega)
  have e1 : ((s[0].toNat : Int) < 253) = True := eq_true (by omega)
  have e2 : IntKind.u64.wrap (s[0].toNat : Int) = (s[0].toNat : Int) := IntWalk.u64_in _ (by omega)
  clear hb hs
  go_enter Try.func138, Try.ntmps138
  go_wp2_with fail
  go_ret3
  exact ⟨rfl, rfl⟩

set_option maxHeartbeats 1000000 in
set_option maxRecDepth 100000 in
theorem tc_cut (s : ByteArray) (w : World) (h : 0 < s.size) (hs : s.size ≤ 140737488351232) {b L : Nat} (hb : s[0].toNat = b) (hL : (b = 253 ∧ L = 3) ∨ (b = 254 ∧ L = 5) ∨ (b = 255 ∧ L = 9)) (hc : s.size < L) : Calls Try.prog 138 #[.string s, .int .i64 0] w fun e w' => e = .returned (.tuple #[.int .u64 0, .int .i64 0, .int .i64 4]) ∧ w = w' := by
  have hx : s.extract 0 s.size = s := by apply ByteArray.ext; simp
  have hne := notEmpty h
  have e0 : ((s.size : Int) < 0) = False := eq_false (by omega)
  go_enter Try.func138, Try.ntmps138
  rcases hL with ⟨rfl, rfl⟩ | ⟨rfl, rfl⟩ | ⟨rfl, rfl⟩
  all_goals go_wp2_with fail
  all_goals go_ret3
  all_goals exact ⟨rfl, rfl⟩

/-- What TakeCount makes of a long count. -/
def tookE (s : ByteArray) (L : Nat) : Value := if longOf (numB (s.extract 1 L)) = L then .tuple #[.int .u64 (numB (s.extract 1 L) : Nat), .int .i64 L, .int .i64 0] else .tuple #[.int .u64 0, .int .i64 0, .int .i64 6]

set_option maxHeartbeats 2000000 in
set_option maxRecDepth 100000 in
theorem tc_long (s : ByteArray) (w : World) (h : 0 < s.size) (hs : s.size ≤ 140737488351232) {b L : Nat} (hb : s[0].toNat = b) (hL : (b = 253 ∧ L = 3) ∨ (b = 254 ∧ L = 5) ∨ (b = 255 ∧ L = 9)) (hc : L ≤ s.size) : Calls Try.prog 138 #[.string s, .int .i64 0] w fun e w' => e = .returned (tookE s L) ∧ w = w' := by
  have hx : s.extract 0 s.size = s := by apply ByteArray.ext; simp
  have hne := notEmpty h
  have e0 : ((s.size : Int) < 0) = False := eq_false (by omega)
  have hsz : (s.extract 1 L).size ≤ 8 := by rw [ByteArray.size_extract]; omega
  have HT := Lib.hid fun W => take_any (s.extract 1 L) W hsz
  have HG := Lib.hid fun W => long_any (numB (s.extract 1 L)) W
  have e4 : ((s.size : Int) < (L : Int)) = False := eq_false (by omega)
  have e5 : ((L : Int) ≤ (s.size : Int)) = True := eq_true (by omega)
  unfold tookE
  have hLL : L = 3 ∨ L = 5 ∨ L = 9 := by omega
  by_cases hgood : longOf (numB (s.extract 1 L)) = L
  · rw [if_pos hgood]
    have hgood' := Lib.hid hgood
    generalize numB (s.extract 1 L) = n at *
    go_enter Try.func138, Try.ntmps138
    rcases hL with ⟨rfl, rfl⟩ | ⟨rfl, rfl⟩ | ⟨rfl, rfl⟩
    all_goals go_wp2_with (first | (go_at_call 139; refine (HT.out _).mono ?_; rintro e w2 ⟨rfl, rfl⟩) | (go_at_call 168; refine (HG.out _).mono ?_; rintro e w2 ⟨rfl, rfl⟩; rw [hgood'.out]) | fail)
    all_goals go_ret3
    all_goals exact ⟨rfl, rfl⟩
  · rw [if_neg hgood]
    generalize numB (s.extract 1 L) = n at *
    generalize longOf n = q at *
    have HQ := Lib.hid hgood
    clear hgood
    go_enter Try.func138, Try.ntmps138
    rcases hL with ⟨rfl, rfl⟩ | ⟨rfl, rfl⟩ | ⟨rfl, rfl⟩
    · have e7 : (q == 3) = false := beq_eq_false_iff_ne.2 (by simpa using HQ.out)
      go_wp2_with (first | (go_at_call 139; refine (HT.out _).mono ?_; rintro e w2 ⟨rfl, rfl⟩) | (go_at_call 168; refine (HG.out _).mono ?_; rintro e w2 ⟨rfl, rfl⟩) | fail)
      go_ret3
      exact ⟨rfl, rfl⟩
    · have e7 : (q == 5) = false := beq_eq_false_iff_ne.2 (by simpa using HQ.out)
      go_wp2_with (first | (go_at_call 139; refine (HT.out _).mono ?_; rintro e w2 ⟨rfl, rfl⟩) | (go_at_call 168; refine (HG.out _).mono ?_; rintro e w2 ⟨rfl, rfl⟩) | fail)
      go_ret3
      exact ⟨rfl, rfl⟩
    · have e7 : (q == 9) = false := beq_eq_false_iff_ne.2 (by simpa using HQ.out)
      go_wp2_with (first | (go_at_call 139; refine (HT.out _).mono ?_; rintro e w2 ⟨rfl, rfl⟩) | (go_at_call 168; refine (HG.out _).mono ?_; rintro e w2 ⟨rfl, rfl⟩) | fail)
      go_ret3
      exact ⟨rfl, rfl⟩

/-- What a count of at most 64 gives: the number, or 0 and an error. -/
def CountR (s : ByteArray) (r : Nat) (w : World) (e : Ending) (w' : World) : Prop :=
  ((cntE s = 0 ∧ e = .returned (.int .u64 (b0 s : Nat)) ∧ Rd w' r s 1 0) ∨ (cntE s ≠ 0 ∧ e = .returned (.int .u64 0) ∧ Rd w' r s 0 (cntE s))) ∧ w.grownBy w' (some r)

/-- TakeCount, whatever the bytes. -/
theorem tc_any (s : ByteArray) (hs : s.size ≤ 140737488351232) : ∃ n t e : Int, (∀ w, Calls Try.prog 138 #[.string s, .int .i64 0] w (fun x w' => x = .returned (.tuple #[.int .u64 n, .int .i64 t, .int .i64 e]) ∧ w = w')) ∧
    ((e ≠ 0 ∧ cntE s = e) ∨ (e = 0 ∧ ¬ (64 : Int) < n ∧ n = (b0 s : Nat) ∧ t = 1 ∧ cntE s = 0) ∨ (e = 0 ∧ 64 < n ∧ cntE s = 5)) := by
  by_cases h0 : s.size = 0
  · have e : s = .empty := by
      apply ByteArray.ext
      exact Array.eq_empty_of_size_eq_zero h0
    subst e
    exact ⟨_, _, _, fun w => tc_none w, .inl ⟨by decide, rfl⟩⟩
  have h : 0 < s.size := by omega
  have hb0 : b0 s = s[0].toNat := by unfold b0; rw [dif_pos h]
  by_cases hb : s[0].toNat < 253
  · refine ⟨_, _, _, fun w => tc_short s w h hs hb, .inr ?_⟩
    unfold cntE
    rw [if_neg h0, hb0, if_pos hb]
    by_cases h64 : 64 < s[0].toNat
    · rw [if_pos h64]
      exact .inr ⟨rfl, by omega, rfl⟩
    · rw [if_neg h64]
      exact .inl ⟨rfl, by omega, rfl, rfl, rfl⟩
  have hlt := s[0].toNat_lt
  have hL : (s[0].toNat = 253 ∧ longB s[0].toNat = 3) ∨ (s[0].toNat = 254 ∧ longB s[0].toNat = 5) ∨ (s[0].toNat = 255 ∧ longB s[0].toNat = 9) := by
    have h3 : s[0].toNat = 253 ∨ s[0].toNat = 254 ∨ s[0].toNat = 255 := by omega
    rcases h3 with h3 | h3 | h3 <;> rw [h3] <;> simp [longB]
  have hE : cntE s = if s.size < longB s[0].toNat then 4 else if longOf (numB (s.extract 1 (longB s[0].toNat))) = longB s[0].toNat then 5 else 6 := by
    unfold cntE
    rw [if_neg h0, hb0, if_neg hb]
  generalize longB s[0].toNat = L at hL hE
  by_cases hc : s.size < L
  · rw [if_pos hc] at hE
    exact ⟨_, _, _, fun w => tc_cut s w h hs rfl hL hc, .inl ⟨by decide, hE⟩⟩
  rw [if_neg hc] at hE
  have ht := fun w => tc_long s w h hs rfl hL (by omega)
  unfold tookE at ht
  by_cases hg : longOf (numB (s.extract 1 L)) = L
  · rw [if_pos hg] at ht hE
    refine ⟨_, _, _, fun w => ht w, .inr (.inr ⟨rfl, ?_, hE⟩)⟩
    unfold longOf at hg
    split at hg
    · omega
    · omega
  · rw [if_neg hg] at ht hE
    exact ⟨_, _, _, fun w => ht w, .inl ⟨by decide, hE⟩⟩

set_option maxHeartbeats 2000000 in
set_option maxRecDepth 100000 in
theorem countR_any (h : Rd w r s 0 0) (hs : s.size ≤ 140737488351232) : Calls Try.prog 87 #[ptr r, .int .u64 64] w (CountR s r w) := by
  have HR := Lib.hid (err_any h)
  have c0 : w.cell? ⟨r, 0, none⟩ = some (.string s) := h.cell 0
  have c1 : w.cell? ⟨r, 1, none⟩ = some (.int .i64 0) := h.cell 1
  have c2 : w.cell? ⟨r, 2, none⟩ = some (.int .i64 0) := h.cell 2
  have f1 := h.thaw 1
  have f2 := h.thaw 2
  obtain ⟨n, t, e, htc, hcase⟩ := tc_any s hs
  have HT := Lib.hid htc
  have HH := Lib.hid h
  clear htc h hs
  rcases hcase with ⟨h1, h2⟩ | ⟨rfl, h2, rfl, rfl, h5⟩ | ⟨rfl, h2, h3⟩
  · have e1 : (e == 0) = false := beq_eq_false_iff_ne.2 h1
    have e2 : (e != 0) = true := bne_iff_ne.2 h1
    have H1 := Lib.hid h1
    have H2 := Lib.hid h2
    clear h1 h2
    go_enter Try.func87, Try.ntmps87
    go_wp2_with (first | (go_at_call 88; refine HR.out.mono ?_; rintro e w' ⟨rfl, rfl⟩) | fail)
    go_quiet ((go_at_call 138; refine Calls.quiet_of_same ((HT.out _).mono fun _ _ hh => ⟨hh.1, hh.2.symm⟩)))
    go_wp2
    go_ret
    refine ⟨.inr ⟨by rw [H2.out]; exact H1.out, rfl, ?_⟩, grown_set (grown_drewN (grown_refl _ _) _) (Or.inl rfl) _⟩
    have h2 := (HH.out.drewN nq).set_ 2 (.int .i64 e)
    rw [H2.out]
    simpa using h2
  · have e1 : ¬ 64 < b0 s := by omega
    have H5 := Lib.hid h5
    clear h2 h5
    go_enter Try.func87, Try.ntmps87
    go_wp2_with (first | (go_at_call 88; refine HR.out.mono ?_; rintro e w' ⟨rfl, rfl⟩) | fail)
    go_quiet ((go_at_call 138; refine Calls.quiet_of_same ((HT.out _).mono fun _ _ hh => ⟨hh.1, hh.2.symm⟩)))
    go_wp2
    go_ret
    refine ⟨.inl ⟨H5.out, rfl, ?_⟩, grown_set (grown_drewN (grown_refl _ _) _) (Or.inl rfl) _⟩
    have h2 := (HH.out.drewN nq).set_ 1 (.int .i64 1)
    simpa using h2
  · have e1 : ((64 : Int) < n) = True := eq_true h2
    have H3 := Lib.hid h3
    clear h2 h3
    go_enter Try.func87, Try.ntmps87
    go_wp2_with (first | (go_at_call 88; refine HR.out.mono ?_; rintro e w' ⟨rfl, rfl⟩) | fail)
    go_quiet ((go_at_call 138; refine Calls.quiet_of_same ((HT.out _).mono fun _ _ hh => ⟨hh.1, hh.2.symm⟩)))
    go_wp2
    go_ret
    refine ⟨.inr ⟨by rw [H3.out]; decide, rfl, ?_⟩, grown_set (grown_drewN (grown_refl _ _) _) (Or.inl rfl) _⟩
    have h2 := (HH.out.drewN nq).set_ 2 (.int .i64 5)
    rw [H3.out]
    simpa using h2
end
end By
end Go.Proofs.Ytohphljhldcjbaa
