/- 'DiskKeeps': the walk. -/
import Derived.Test.YtohphljhldcjbaaDkP
namespace Go.Proofs.Ytohphljhldcjbaa
set_option linter.unusedVariables false
set_option linter.unusedSimpArgs false
open Go.RowKit Go.Maps
namespace Dk

/-- The texts that came in. -/
def Texts (w : World) (A : Option Addr) (len : Nat) (ts : Nat → ByteArray) : Prop :=
  0 < len → ∃ b off, A = some ⟨b, off, none⟩ ∧ b < w.heap.size ∧ ∀ i, i < len → w.cell? ⟨b, off + i, none⟩ = some (.string (ts i)) ∧ (ts i).size ≤ 140737488351232

theorem Log.later {w0 w w' : World} {g n : Nat} {sure all : ByteArray} (h : Log w0 w g n sure all) (hb : Below w.heap.size w w') : Log w0 w' g n sure all :=
  h.step ⟨hb.os, hb.tape, hb.output, hb.size, fun k hk _ => hb.block k hk⟩
theorem Texts.cell {w : World} {A : Option Addr} {len : Nat} {ts : Nat → ByteArray} (h : Texts w A len ts) {k : Nat} (hk : k < len) : ∃ b off, A = some ⟨b, off, none⟩ ∧ b < w.heap.size ∧ w.cell? ⟨b, off + k, none⟩ = some (.string (ts k)) ∧ (ts k).size ≤ 140737488351232 := by
  obtain ⟨b, off, h1, h2, h3⟩ := h (by omega)
  exact ⟨b, off, h1, h2, (h3 k hk).1, (h3 k hk).2⟩

theorem Fell.below {w0 w : World} {g : Nat} {sure all : ByteArray} {dead : Bool} (h : Fell w0 w g sure all dead) : Below w0.heap.size w0 w := by
  obtain ⟨bs, bn, made, S, hd, b1, b2, b3, hb⟩ := h
  exact hb
theorem Pre.extract {a b : ByteArray} (h : Pre a b) : b.extract 0 a.size = a := by
  obtain ⟨c, rfl⟩ := h
  apply ByteArray.ext
  simp
set_option maxHeartbeats 2000000 in
set_option maxRecDepth 100000 in
theorem keeps_any (A : Option Addr) (len cap : Nat) (ts : Nat → ByteArray) (at_ keep tn : Int) (w : World) (hlen : len ≤ 9223372036854775807) (h : Texts w A len ts) :
    Calls Try.prog 5 #[.slice A len cap, .agg #[.int .i64 at_, .int .i64 keep, .int .i64 tn]] w fun e w' => e = .returned (.bool true) ∧ Below w.heap.size w w' := by
  go_enter Try.func5, Try.ntmps5
  go_wp2_with fail
  have hk : Whole (w.alloc (.cells #[.int .i64 at_, .int .i64 keep, .int .i64 tn] 43)) w.heap.size 43 #[.int .i64 at_, .int .i64 keep, .int .i64 tn] := Whole.fresh _ _ _
  have hg : w.grownBy (w.alloc (.cells #[.int .i64 at_, .int .i64 keep, .int .i64 tn] 43)) none := grown_alloc (grown_refl _ _) _
  generalize w.alloc (.cells #[.int .i64 at_, .int .i64 keep, .int .i64 tn] 43) = w1 at *
  have c0 : w1.cell? ⟨w.heap.size, 0, none⟩ = some (.int .i64 at_) := hk.cell 0
  have c1 : w1.cell? ⟨w.heap.size, 1, none⟩ = some (.int .i64 keep) := hk.cell 1
  have c2 : w1.cell? ⟨w.heap.size, 2, none⟩ = some (.int .i64 tn) := hk.cell 2
  go_region
  all_goals (try go_wp2_with fail)
  have hg := grown_drew hg
  have hlt : w.heap.size < w1.drew.heap.size := (hk.drew).lt
  generalize w1.drew = w2 at *
  refine (log_new _).mono ?_
  rintro e w3 ⟨rfl, g2⟩
  generalize w2.heap.size + 2 = g at *
  go_wp2_with fail
  refine (awake_ok _).mono ?_
  rintro e w4 ⟨rfl, b4⟩
  have g4 := g2.later b4
  have hbw : Below w.heap.size w w2 := Below.of_grown hg (Nat.le_refl _) (by simp)
  clear b4 g2 hg
  go_wp2_with fail
  go_loopw [9, 10, 11] (fun t9 t10 i wr => ∃ k : Nat, k ≤ len ∧ i = .int .i64 k ∧ k ≤ 30 ∧ ∃ sure all : ByteArray, t9 = .string sure ∧ t10 = .string all ∧ Log w2 wr g k sure all)
    (fun _ _ i _ => len - (intOf i).toNat)
  case atStart => exact ⟨0, Nat.zero_le _, rfl, by omega, .empty, .empty, rfl, rfl, g4⟩
  case round =>
    obtain ⟨k, hk, rfl, hk30, sure, all, rfl, rfl, hl⟩ := hrel
    have hsm := hl.small
    have blr : Below w.heap.size w wr := hbw.trans (hl.below.mono (Nat.le_of_lt hlt))
    by_cases hgo : k < len ∧ k < 30 ∧ all.size < 100000
    · obtain ⟨h1, h2, h3⟩ := hgo
      obtain ⟨b, off, rfl, hbl, q, hsz⟩ := h.cell h1
      have q0 : wr.cell? ⟨b, off + k, none⟩ = some (.string (ts k)) := (blr.cell (p := ⟨b, _, none⟩) hbl).trans q
      generalize ts k = s at q q0 hsz
      have e1 : ((k : Int) < (len : Int)) = True := by simp; omega
      have e2 : ((k : Int) < 30) = True := by simp; omega
      have e3 : ((all.size : Int) < 100000) = True := by simp; omega
      have hn : k ≤ 50 := by omega
      have K30 := Lib.hid h2
      by_cases hfit : 16777216 < all.size + s.size
      · have e7 : IntKind.i64.wrap ((all.size : Int) + (s.size : Int)) = (all.size : Int) + (s.size : Int) := wrap_small _ (by omega) (by omega)
        have e8 : ((16777216 : Int) < (all.size : Int) + (s.size : Int)) = True := eq_true (by omega)
        have HF := Lib.hid hfit
        clear h3 h2 hfit
        go_wp2_with fail
        refine (log_full hl s HF.out (by omega) hn).mono ?_
        rintro e w5 ⟨rfl, g5⟩
        have q5 : w5.cell? ⟨b, off + k, none⟩ = some (.string s) := (g5.cell q0 (by simp))
        have bl5 : Below w.heap.size w w5 := blr.trans (Below.of_grown g5 blr.size (by simp))
        clear q0
        go_wp2_with fail
        go_ret
        exact ⟨rfl, bl5⟩
      have hfit : all.size + s.size ≤ 16777216 := by omega
      clear h3 h2
      go_wp2_with fail
      refine (log_append hl s hfit hn).mono ?_
      rintro e w5 ⟨rfl, l5⟩
      have bl5 : Below w.heap.size w w5 := hbw.trans (l5.below.mono (Nat.le_of_lt hlt))
      have q5 : w5.cell? ⟨b, off + k, none⟩ = some (.string s) := (bl5.cell (p := ⟨b, _, none⟩) hbl).trans q
      have hadd : ∀ W : World, (Op.stringOp .add all s).run Try.prog W = .ok (.string (all ++ s)) W := fun W => run_string_add_sum W _ _ (by omega)
      clear q0 hsm hfit hsz hl
      by_cases hat : (k : Int) = at_
      · have e4 : ((k : Int) == at_) = true := beq_iff_eq.2 hat
        clear hat
        go_wp2_with fail
        refine (log_sync l5 (by omega)).mono ?_
        rintro e w6 ⟨rfl, l6⟩
        go_wp2
        go_roundw
        case rel => exact ⟨k + 1, by omega, by go_num, by have := K30.out; omega, _, _, rfl, rfl, l6⟩
        case measure => simp [intOf]; omega
      · have e4 : ((k : Int) == at_) = false := beq_eq_false_iff_ne.2 hat
        clear hat
        go_wp2_with fail
        go_roundw
        case rel => exact ⟨k + 1, by omega, by go_num, by have := K30.out; omega, _, _, rfl, rfl, l5⟩
        case measure => simp [intOf]; omega
    · have hn : k ≤ 50 := by omega
      have hex : ((k : Int) < (len : Int)) = False ∨ (((k : Int) < (len : Int)) = True ∧ ((k : Int) < 30) = False) ∨ (((k : Int) < (len : Int)) = True ∧ ((k : Int) < 30) = True ∧ ((all.size : Int) < 100000) = False) := by
        simp; omega
      clear hgo hk30
      rcases hex with e1 | ⟨e1, e2⟩ | ⟨e1, e2, e3⟩
      all_goals go_wp2_with fail
      all_goals (refine (log_crash hl hn keep tn).mono ?_; rintro e w5 ⟨rfl, f5⟩)
      all_goals go_wp2_with fail
      all_goals (refine (log_up f5).mono ?_; rintro e w6 ⟨rfl, f6⟩)
      all_goals go_wp2_with fail
      all_goals (rcases log_read f6 with ⟨hs, hc⟩ | ⟨s, p1, p2, hc⟩)
      all_goals (refine hc.mono ?_; rintro e w7 ⟨rfl, g7⟩)
      all_goals try subst hs
      all_goals have blw : Below w.heap.size w w7 := hbw.trans ((f6.below.mono (Nat.le_of_lt hlt)).trans (Below.of_grown g7 (Nat.le_trans (Nat.le_of_lt hlt) f6.below.size) (by simp)))
      all_goals (try (have r1 : sure.size ≤ s.size := p1.size))
      all_goals (try (have r2 : ((s.size : Int) ≤ (all.size : Int)) = True := by have := p2.size; simp; omega))
      all_goals (try (have r3 : all.extract 0 s.size = s := p2.extract))
      all_goals go_wp2_with fail
      all_goals go_ret
      all_goals exact ⟨rfl, blw⟩
end Dk
end Go.Proofs.Ytohphljhldcjbaa
