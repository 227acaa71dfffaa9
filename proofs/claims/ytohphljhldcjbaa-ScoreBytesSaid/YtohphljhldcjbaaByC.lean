/- num.Count, the writer's methods, the reference's lay. -/
import Derived.Test.YtohphljhldcjbaaByB
import Derived.Deep.AppendLies
namespace Go.Proofs.Ytohphljhldcjbaa
set_option linter.unusedVariables false
set_option linter.unusedSimpArgs false
open Go.RowKit Go.Maps
namespace By

theorem layB_size (n k : Nat) : (layB n k).size = k := by simp [layB, layL, ByteArray.size]
theorem layB_list (n k : Nat) : (layB n k).data.toList = layL n k := rfl

def longOf (n : Nat) : Int := if n < 253 then 1 else if n < 65536 then 3 else if n < 4294967296 then 5 else 9

set_option maxHeartbeats 400000 in
theorem long_any (n : Nat) (w : World) : Calls Try.prog 168 #[.int .u64 n] w fun e w' => e = .returned (.int .i64 (longOf n)) ∧ w' = w := by
  unfold longOf
  go_enter Try.func168, Try.ntmps168
  by_cases h1 : n < 253
  · have e1 : ((n : Int) < 253) = True := eq_true (by omega)
    rw [if_pos h1]
    clear h1
    go_wp2
    go_ret
    exact ⟨rfl, rfl⟩
  have e1 : ((n : Int) < 253) = False := eq_false (by omega)
  rw [if_neg h1]
  by_cases h2 : n < 65536
  · have e2 : ((n : Int) < 65536) = True := eq_true (by omega)
    rw [if_pos h2]
    clear h2 h1
    go_wp2
    go_ret
    exact ⟨rfl, rfl⟩
  have e2 : ((n : Int) < 65536) = False := eq_false (by omega)
  rw [if_neg h2]
  by_cases h3 : n < 4294967296
  · have e3 : ((n : Int) < 4294967296) = True := eq_true (by omega)
    rw [if_pos h3]
    clear h3 h2 h1
    go_wp2
    go_ret
    exact ⟨rfl, rfl⟩
  have e3 : ((n : Int) < 4294967296) = False := eq_false (by omega)
  rw [if_neg h3]
  clear h3 h2 h1
  go_wp2
  go_ret
  exact ⟨rfl, rfl⟩

/-- A count's bytes, told of short ones. -/
def Counted (n : Nat) (w : World) (e : Ending) (w' : World) : Prop := (∃ s : ByteArray, e = .returned (.string s) ∧ s.size ≤ 9 ∧ (n < 253 → s = layB n 1)) ∧ w.grownBy w' none

set_option maxHeartbeats 1000000 in
set_option maxRecDepth 100000 in
theorem count_any (n : Nat) (w : World) (hn : n < 18446744073709551616) : Calls Try.prog 135 #[.int .u64 n] w (Counted n w) := by
  have hl := long_any n w
  have HN := Lib.hid hn
  by_cases h1 : n < 253
  · have e1 : longOf n = 1 := by unfold longOf; rw [if_pos h1]
    rw [e1] at hl
    have HL := Lib.hid hl
    have H1 := Lib.hid h1
    clear hl h1 hn e1
    go_enter Try.func135, Try.ntmps135
    go_wp2_with (first | (go_at_call 168; refine HL.out.mono ?_; rintro e w1 ⟨rfl, rfl⟩) | (go_at_call 136; refine (lay_any n 1 _ (by have := HN.out; omega) (by omega)).mono ?_; rintro e w2 ⟨rfl, g2⟩))
    go_ret
    exact ⟨⟨_, rfl, by rw [layB_size]; omega, fun _ => rfl⟩, g2⟩
  by_cases h2 : n < 65536
  · have e1 : longOf n = 3 := by unfold longOf; rw [if_neg h1, if_pos h2]
    rw [e1] at hl
    have HL := Lib.hid hl
    have H1 := Lib.hid h1
    have hadd : ∀ W : World, (Op.stringOp .add (layB 253 1) (layB n 2)).run Try.prog W = .ok (.string (layB 253 1 ++ layB n 2)) W := fun W => run_string_add_sum W _ _ (by simp [layB_size])
    clear hl h1 hn h2 e1
    go_enter Try.func135, Try.ntmps135
    go_wp2_with (first | (go_at_call 168; refine HL.out.mono ?_; rintro e w1 ⟨rfl, rfl⟩) | fail)
    refine (lay_any 253 1 _ (by omega) (by omega)).mono ?_
    rintro e w2 ⟨rfl, g2⟩
    go_wp2_with fail
    refine (lay_any n 2 _ (by have := HN.out; omega) (by omega)).mono ?_
    rintro e w3 ⟨rfl, g3⟩
    go_wp2_with fail
    go_ret
    exact ⟨⟨_, rfl, by rw [ByteArray.size_append, layB_size, layB_size]; omega, fun h => absurd h H1.out⟩, g2.trans g3⟩
  by_cases h3 : n < 4294967296
  · have e1 : longOf n = 5 := by unfold longOf; rw [if_neg h1, if_neg h2, if_pos h3]
    rw [e1] at hl
    have HL := Lib.hid hl
    have H1 := Lib.hid h1
    have hadd : ∀ W : World, (Op.stringOp .add (layB 254 1) (layB n 4)).run Try.prog W = .ok (.string (layB 254 1 ++ layB n 4)) W := fun W => run_string_add_sum W _ _ (by simp [layB_size])
    clear hl h1 hn h2 h3 e1
    go_enter Try.func135, Try.ntmps135
    go_wp2_with (first | (go_at_call 168; refine HL.out.mono ?_; rintro e w1 ⟨rfl, rfl⟩) | fail)
    refine (lay_any 254 1 _ (by omega) (by omega)).mono ?_
    rintro e w2 ⟨rfl, g2⟩
    go_wp2_with fail
    refine (lay_any n 4 _ (by have := HN.out; omega) (by omega)).mono ?_
    rintro e w3 ⟨rfl, g3⟩
    go_wp2_with fail
    go_ret
    exact ⟨⟨_, rfl, by rw [ByteArray.size_append, layB_size, layB_size]; omega, fun h => absurd h H1.out⟩, g2.trans g3⟩
  · have e1 : longOf n = 9 := by unfold longOf; rw [if_neg h1, if_neg h2, if_neg h3]
    rw [e1] at hl
    have HL := Lib.hid hl
    have H1 := Lib.hid h1
    have hadd : ∀ W : World, (Op.stringOp .add (layB 255 1) (layB n 8)).run Try.prog W = .ok (.string (layB 255 1 ++ layB n 8)) W := fun W => run_string_add_sum W _ _ (by simp [layB_size])
    clear hl h1 hn h2 h3 e1
    go_enter Try.func135, Try.ntmps135
    go_wp2_with (first | (go_at_call 168; refine HL.out.mono ?_; rintro e w1 ⟨rfl, rfl⟩) | fail)
    refine (lay_any 255 1 _ (by omega) (by omega)).mono ?_
    rintro e w2 ⟨rfl, g2⟩
    go_wp2_with fail
    refine (lay_any n 8 _ (by have := HN.out; omega) (by omega)).mono ?_
    rintro e w3 ⟨rfl, g3⟩
    go_wp2_with fail
    go_ret
    exact ⟨⟨_, rfl, by rw [ByteArray.size_append, layB_size, layB_size]; omega, fun h => absurd h H1.out⟩, g2.trans g3⟩

/-- Behind a writing: the writer holds these bytes more. -/
def Wrote (B b : Nat) (l : List UInt8) (w : World) (e : Ending) (w' : World) : Prop := e = .returned (.tuple #[]) ∧ Wr w' B b (Lib.byteCells l) ∧ Below B w w' ∧ Kept b w w'

set_option maxHeartbeats 1000000 in
set_option maxRecDepth 100000 in
theorem bytes_any (B b : Nat) (l : List UInt8) (s : ByteArray) (w : World) (h : Wr w B b (Lib.byteCells l)) (hlen : l.length + s.size ≤ 140737488355328) (hBw : B ≤ w.heap.size) :
    Calls Try.prog 134 #[ptr b, .string s] w (Wrote B b (l ++ s.data.toList) w) := by
  have ha := add_any B b (Lib.byteCells l) s w h (by rw [Lib.byteCells_length]; exact hlen) hBw
  rw [Lib.strCells_eq, ← Lib.byteCells_append] at ha
  have HA := Lib.hid ha
  clear ha h
  go_enter Try.func134, Try.ntmps134
  go_wp2_with (go_at_call 167; refine HA.out.mono ?_; rintro e w1 ⟨rfl, h1⟩)
  go_end0
  exact ⟨rfl, h1⟩

theorem Wr.grown {w w' : World} {B b : Nat} {bs : List Value} (h : Wr w B b bs) (hg : w.grownBy w' none) : Wr w' B b bs := by
  rcases h with h | h
  · have hlt := h.lt
    obtain ⟨hB, v, hbk, hown, hne⟩ := h
    exact .inl ⟨hB, v, (hg.block b hlt (by simp)).trans hbk, hown.kept hg (by cases v.ownBlock <;> simp), hne⟩
  · have hlt := h.lt
    obtain ⟨hB, v, hbk, hown, hne⟩ := h
    exact .inr ⟨hB, v, (hg.block b hlt (by simp)).trans hbk, hown.kept hg (by cases v.ownBlock <;> simp), hne⟩
theorem Kept.grown {w w' : World} {b : Nat} (hg : w.grownBy w' none) : Kept b w w' := fun k o ho _ _ =>
  (hg.block k (Array.getElem?_eq_some_iff.1 ho).1 (by simp)).trans ho
theorem Wrote.behind {B b : Nat} {l : List UInt8} {w w1 : World} {e : Ending} {w' : World} (h : Wrote B b l w1 e w') (hg : w.grownBy w1 none) (hB : B ≤ w.heap.size) : Wrote B b l w e w' :=
  ⟨h.1, h.2.1, (Below.of_grown hg hB (by simp)).trans h.2.2.1, (Kept.grown hg).trans h.2.2.2⟩

set_option maxHeartbeats 1000000 in
set_option maxRecDepth 100000 in
theorem u32_any (B b : Nat) (l : List UInt8) (x : Nat) (w : World) (h : Wr w B b (Lib.byteCells l)) (hlen : l.length ≤ 1000000) (hBw : B ≤ w.heap.size) (hx : x < 4294967296) :
    Calls Try.prog 82 #[ptr b, .int .u32 x] w (Wrote B b (l ++ layL x 4) w) := by
  have e1 : IntKind.u64.wrap (x : Int) = (x : Int) := IntWalk.u64_in _ (by omega)
  have L1 := Lib.hid (lay_any x 4 w (by omega) (by omega))
  have HB := Lib.hid fun w1 (g1 : w.grownBy w1 none) => bytes_any B b l (layB x 4) w1 (h.grown g1) (by rw [layB_size]; omega) (Nat.le_trans hBw g1.size)
  clear h hx hlen
  go_enter Try.func82, Try.ntmps82
  go_wp2_with (first | (go_at_call 136; refine L1.out.mono ?_; rintro e w1 ⟨rfl, g1⟩) | (go_at_call 134; refine (HB.out _ g1).mono ?_; rintro e w2 h2; obtain ⟨rfl, _⟩ := id h2))
  go_end0
  exact h2.behind g1 hBw

set_option maxHeartbeats 1000000 in
set_option maxRecDepth 100000 in
theorem u64_any (B b : Nat) (l : List UInt8) (x : Nat) (w : World) (h : Wr w B b (Lib.byteCells l)) (hlen : l.length ≤ 1000000) (hBw : B ≤ w.heap.size) (hx : x < 18446744073709551616) :
    Calls Try.prog 83 #[ptr b, .int .u64 x] w (Wrote B b (l ++ layL x 8) w) := by
  have L1 := Lib.hid (lay_any x 8 w hx (by omega))
  have HB := Lib.hid fun w1 (g1 : w.grownBy w1 none) => bytes_any B b l (layB x 8) w1 (h.grown g1) (by rw [layB_size]; omega) (Nat.le_trans hBw g1.size)
  clear h hx hlen
  go_enter Try.func83, Try.ntmps83
  go_wp2_with (first | (go_at_call 136; refine L1.out.mono ?_; rintro e w1 ⟨rfl, g1⟩) | (go_at_call 134; refine (HB.out _ g1).mono ?_; rintro e w2 h2; obtain ⟨rfl, _⟩ := id h2))
  go_end0
  exact h2.behind g1 hBw

/-- Behind a count: some bytes, told of a short one. -/
def WroteN (B b n : Nat) (w : World) (e : Ending) (w' : World) : Prop := ∃ l : List UInt8, (n < 253 → l = layL n 1) ∧ l.length ≤ 9 ∧ Wrote B b l w e w'

set_option maxHeartbeats 1000000 in
set_option maxRecDepth 100000 in
theorem countW_any (B b n : Nat) (w : World) (h : Wr w B b []) (hBw : B ≤ w.heap.size) (hn : n < 18446744073709551616) :
    Calls Try.prog 81 #[ptr b, .int .u64 n] w (WroteN B b n w) := by
  have L1 := Lib.hid (count_any n w hn)
  have HB := Lib.hid fun (s : ByteArray) (hs : s.size ≤ 9) w1 (g1 : w.grownBy w1 none) => bytes_any B b [] s w1 (h.grown g1) (by simp; omega) (Nat.le_trans hBw g1.size)
  clear h hn
  go_enter Try.func81, Try.ntmps81
  go_wp2_with (first | (go_at_call 135; refine L1.out.mono ?_; rintro e w1 h1; obtain ⟨⟨s, rfl, hs, hs2⟩, g1⟩ := h1) | (go_at_call 134; refine (HB.out s hs _ g1).mono ?_; rintro e w2 h2; obtain ⟨rfl, _⟩ := id h2))
  go_end0
  exact ⟨_, fun h => by rw [hs2 h]; rfl, by simpa using hs, h2.behind g1 hBw⟩

set_option maxHeartbeats 1000000 in
set_option maxRecDepth 100000 in
theorem textW_any (B b : Nat) (l : List UInt8) (w : World) (h : Wr w B b (Lib.byteCells l)) (h0 : l ≠ []) :
    Calls Try.prog 84 #[ptr b] w fun e w' => e = .returned (.string ⟨l.toArray⟩) ∧ Below B w w' := by
  have HT := Lib.hid (text_any B b l w h h0)
  clear h h0
  go_enter Try.func84, Try.ntmps84
  go_wp2_with (go_at_call 137; refine HT.out.mono ?_; rintro e w1 ⟨rfl, h1⟩)
  go_ret
  exact ⟨rfl, h1⟩

set_option maxHeartbeats 400000 in
theorem newW (w : World) : Calls Try.prog 80 #[] w fun e w' => e = .returned (ptr w.heap.size) ∧ Wr w' w.heap.size w.heap.size [] ∧ w.grownBy w' none := by
  go_enter Try.func80, Try.ntmps80
  go_wp2
  go_ret
  refine ⟨rfl, .inl ⟨Nat.le_refl _, .slice none 0 0, ?_, World.ownsRowF_nil _ _ _ _, by simp [Value.ownBlock]⟩, grown_alloc (grown_refl _ _) _⟩
  exact Whole.fresh _ _ _
end By
end Go.Proofs.Ytohphljhldcjbaa
