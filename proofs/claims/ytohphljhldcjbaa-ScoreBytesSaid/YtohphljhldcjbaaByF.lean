/- The reference's Encode. -/
import Derived.Test.YtohphljhldcjbaaByE
namespace Go.Proofs.Ytohphljhldcjbaa
set_option linter.unusedVariables false
set_option linter.unusedSimpArgs false
open Go.RowKit Go.Maps
namespace By

theorem rlay4 (n : Nat) (w : World) (hn : n < 18446744073709551616) : Calls Try.prog 85 #[.int .u64 n, .int .i64 4] w fun e w' => e = .returned (.string (layB n 4)) ∧ w.grownBy w' none := rlay_any n 4 w hn (by decide)
theorem rlay8 (n : Nat) (w : World) (hn : n < 18446744073709551616) : Calls Try.prog 85 #[.int .u64 n, .int .i64 8] w fun e w' => e = .returned (.string (layB n 8)) ∧ w.grownBy w' none := rlay_any n 8 w hn (by decide)
/-- What stands while two numbers are laid. -/
theorem held_drew {w0 v : World} {g : Nat} {x y : Value} (n : Nat) (h : v.cell? ⟨g, 0, none⟩ = some x ∧ v.cell? ⟨g, 1, none⟩ = some y ∧ Whole v g 61 #[x, y] ∧ Below w0.heap.size w0 v) :
    (v.drewN n).cell? ⟨g, 0, none⟩ = some x ∧ (v.drewN n).cell? ⟨g, 1, none⟩ = some y ∧ Whole (v.drewN n) g 61 #[x, y] ∧ Below w0.heap.size w0 (v.drewN n) := ⟨h.1, h.2.1, h.2.2.1, drewN_below h.2.2.2 n⟩
theorem held_grown {w0 v v' : World} {g : Nat} {x y : Value} (h : v.cell? ⟨g, 0, none⟩ = some x ∧ v.cell? ⟨g, 1, none⟩ = some y ∧ Whole v g 61 #[x, y] ∧ Below w0.heap.size w0 v) (hg : v.grownBy v' none) :
    v'.cell? ⟨g, 0, none⟩ = some x ∧ v'.cell? ⟨g, 1, none⟩ = some y ∧ Whole v' g 61 #[x, y] ∧ Below w0.heap.size w0 v' := by
  have h1 := h.2.2.1.grown hg (by simp)
  exact ⟨h1.cell 0, h1.cell 1, h1, h.2.2.2.trans (Below.of_grown hg h.2.2.2.size (by simp))⟩

set_option maxHeartbeats 4000000 in
set_option maxRecDepth 100000 in
theorem rencode_any (A : Option Addr) (len cap : Nat) (hs : Nat → Nat) (us : Nat → Int) (w : World) (h : Bans w A len hs us) (hl : len ≤ 140737488351232) :
    Calls Try.prog 32 #[.slice A len cap] w (Encoded len hs us w) := by
  go_enter Try.func32, Try.ntmps32
  by_cases b1 : 64 < len
  · have NG := Lib.hid (show ¬ Good len hs us from fun h => by have := h.1; omega)
    have e2 : ((64 : Int) < (len : Int)) = True := eq_true (by omega)
    clear b1
    go_wp2_with fail
    go_ret2
    exact ⟨.inr ⟨NG.out, rfl⟩, Below.refl _ _⟩
  have e2 : ((64 : Int) < (len : Int)) = False := eq_false (by omega)
  have H64 := Lib.hid (show len ≤ 64 by omega)
  have e1 : IntKind.u64.wrap (len : Int) = (len : Int) := wrap_u64 (by omega)
  have L1 := Lib.hid (rlay_any len 1 w (by omega) (by omega))
  clear b1
  go_wp2_with fail
  refine L1.out.mono ?_
  rintro e w2 ⟨rfl, g2⟩
  have bw3 : Below w.heap.size w w2 := Below.of_grown g2 (Nat.le_refl _) (by simp)
  clear g2 e1
  go_wp2_with fail
  go_loopw [4, 16] (fun s i wr => ∃ k : Nat, k ≤ len ∧ i = .int .i64 k ∧ (∀ i, i < k → ¬ Bad hs us i) ∧ s = .string ⟨(encL len hs us k).toArray⟩ ∧ Below w.heap.size w wr) (fun _ i _ => len - (intOf i).toNat)
  case atStart => exact ⟨0, Nat.zero_le _, rfl, fun i hi => absurd hi (by omega), rfl, bw3⟩
  case round =>
    obtain ⟨k, hk, rfl, hgood, rfl, hb⟩ := hrel
    by_cases hgo : k < len
    · obtain ⟨b, off, rfl, hbl, hcc⟩ := (h.below hb) (by omega)
      obtain ⟨q0, q1, q2⟩ := hcc k hgo
      have Q2 := Lib.hid q2
      clear q2
      have eg : ((k : Int) < (len : Int)) = True := eq_true (by omega)
      have hgb : b ≠ wr.heap.size := by omega
      have hbf := hb.alloc hb.size (.cells #[.int .u32 (hs k), .int .i64 (us k)] 61)
      have HB := Lib.hid hbf
      by_cases b2 : 0 < k ∧ hs k ≤ hs (k - 1)
      · have NG := Lib.hid (show ¬ Good len hs us from fun h => h.2 k hgo (.inl b2))
        obtain ⟨j, hj⟩ : ∃ j, k = j + 1 := ⟨k - 1, by omega⟩
        obtain ⟨p0, _, _⟩ := hcc j (by omega)
        have e3 : 0 < k := b2.1
        have e4 : ((hs k : Int) ≤ (hs j : Int)) = True := eq_true (Int.ofNat_le.2 (by have := b2.2; rwa [show k - 1 = j by omega] at this))
        have e5 : (k : Int) - 1 = (j : Int) := by omega
        have e6 : wrap64 (j : Int) = (j : Int) := wrap_small (by have := H64.out; omega)
        have e7 : ((j : Int) < (len : Int)) = True := eq_true (Int.ofNat_lt.2 (Nat.lt_trans (hj ▸ Nat.lt_succ_self j) hgo))
        clear hbf b2 hgood hcc h hj
        go_wp2_with fail
        go_quiet (fail)
        go_wp2_with fail
        go_ret2
        exact ⟨.inr ⟨NG.out, rfl⟩, drewN_below HB.out _⟩
      have HG := Lib.hid hgood
      have B2 := Lib.hid b2
      clear hgood b2
      rcases Nat.eq_zero_or_pos k with hk0 | hk0
      · have e3 : (0 < k) = False := eq_false (by omega)
        clear hk0
        by_cases b3 : us k < 1
        · have NG := Lib.hid (show ¬ Good len hs us from fun h => h.2 k hgo (.inr (.inl b3)))
          have e8 : (us k < 1) = True := eq_true b3
          clear b3
          clear hbf
          go_wp2_with fail
          go_quiet (fail)
          go_wp2_with fail
          go_ret2
          exact ⟨.inr ⟨NG.out, rfl⟩, drewN_below HB.out _⟩
        by_cases b4 : 1099511627776 < us k
        · have NG := Lib.hid (show ¬ Good len hs us from fun h => h.2 k hgo (.inr (.inr b4)))
          have e8 : (us k < 1) = False := eq_false b3
          have e9 : ((1099511627776 : Int) < us k) = True := eq_true b4
          clear b3 b4
          clear hbf
          go_wp2_with fail
          go_quiet (fail)
          go_wp2_with fail
          go_ret2
          exact ⟨.inr ⟨NG.out, rfl⟩, drewN_below HB.out _⟩
        have hgood2 := good_next HG.out B2.out b3 b4
        obtain ⟨t, ht⟩ : ∃ t : Nat, us k = t := ⟨(us k).toNat, by omega⟩
        have HT := Lib.hid ht
        have T1 := Lib.hid (show t < 18446744073709551616 by omega)
        have T2 := Lib.hid (show ((t : Int) < 1) = False by rw [← ht]; exact eq_false b3)
        have T3 := Lib.hid (show ((1099511627776 : Int) < (t : Int)) = False by rw [← ht]; exact eq_false b4)
        rw [ht] at q1 hbf
        clear b3 b4 ht
        have e8 := T2.out
        have e9 := T3.out
        have hg0 : Whole (wr.alloc (.cells #[.int .u32 (hs k), .int .i64 t] 61)) wr.heap.size 61 #[.int .u32 (hs k), .int .i64 t] := Whole.fresh _ _ _
        clear h hcc
        go_wp2_with fail
        go_quiet (fail)
        go_wp2_with fail
        have hg1 := hg0.drewN nq
        have hb1 := drewN_below hbf nq
        generalize ((wr.alloc (.cells #[.int .u32 (hs k), .int .i64 t] 61)).drewN nq) = W1 at hg1 hb1 ⊢
        have hS : W1.cell? ⟨wr.heap.size, 0, none⟩ = some (.int .u32 (hs k)) ∧ W1.cell? ⟨wr.heap.size, 1, none⟩ = some (.int .i64 t) ∧ Whole W1 wr.heap.size 61 #[.int .u32 (hs k), .int .i64 t] ∧ Below w.heap.size w W1 := ⟨hg1.cell 0, hg1.cell 1, hg1, hb1⟩
        have e10 : IntKind.u64.wrap (t : Int) = (t : Int) := wrap_u64 T1.out
        have e11 : IntKind.u64.wrap (hs k : Int) = (hs k : Int) := wrap_u64 (Nat.lt_trans Q2.out (by decide))
        have hz : (⟨(encL len hs us k).toArray⟩ : ByteArray).size ≤ 1000 := by
          show (encL len hs us k).toArray.size ≤ 1000
          rw [List.size_toArray, encL_len]
          have := H64.out
          omega
        have hnext : (⟨(encL len hs us (k + 1)).toArray⟩ : ByteArray) = ⟨(encL len hs us k).toArray⟩ ++ (layB (hs k) 4 ++ layB t 8) := by
          have e : (us k).toNat = t := by rw [HT.out]; rfl
          apply ByteArray.ext
          simp [encL, layB, e]
        have HN := Lib.hid hnext
        clear hnext
        generalize (⟨(encL len hs us k).toArray⟩ : ByteArray) = S0 at hz HN ⊢
        have hadd1 : ∀ W : World, (Op.stringOp .add (layB (hs k) 4) (layB t 8)).run Try.prog W = .ok (.string (layB (hs k) 4 ++ layB t 8)) W := fun W => run_string_add_sum W _ _ (by simp only [layB_size]; omega)
        have hadd2 : ∀ W : World, (Op.stringOp .add S0 (layB (hs k) 4 ++ layB t 8)).run Try.prog W = .ok (.string (S0 ++ (layB (hs k) 4 ++ layB t 8))) W := fun W => run_string_add_sum W _ _ (by simp only [ByteArray.size_append, layB_size]; omega)
        clear hg0 hbf q0 q1 hg1 hb1 hz
        go_region_held3 (fun v => v.cell? ⟨wr.heap.size, 0, none⟩ = some (.int .u32 (hs k)) ∧ v.cell? ⟨wr.heap.size, 1, none⟩ = some (.int .i64 t) ∧ Whole v wr.heap.size 61 #[.int .u32 (hs k), .int .i64 t] ∧ Below w.heap.size w v)
          (first | (exact held_drew 1 hS) | (exact held_drew _ (by assumption)) | (exact held_grown (by assumption) (by assumption)))
          (first | (go_at_call 85; with_reducible refine (rlay4 (hs k) _ (Nat.lt_trans Q2.out (by decide))).mono ?_; rintro e w' ⟨rfl, gq⟩) | (go_at_call 85; with_reducible refine (rlay8 t _ T1.out).mono ?_; rintro e w' ⟨rfl, gq⟩))
        go_wp2
        go_roundw
        case rel => exact ⟨k + 1, by omega, by go_num, hgood2, by rw [HN.out], (by assumption : _ ∧ _ ∧ _ ∧ Below _ _ _).2.2.2⟩
        case measure => simp [intOf]; omega
      · obtain ⟨j, hj⟩ : ∃ j, k = j + 1 := ⟨k - 1, by omega⟩
        obtain ⟨p0, _, _⟩ := hcc j (by omega)
        have e4 : ((hs k : Int) ≤ (hs j : Int)) = False := eq_false (fun h => B2.out ⟨hk0, by rw [show k - 1 = j by omega]; exact Int.ofNat_le.1 h⟩)
        have e5 : (k : Int) - 1 = (j : Int) := by omega
        have e6 : wrap64 (j : Int) = (j : Int) := wrap_small (by have := H64.out; omega)
        have e7 : ((j : Int) < (len : Int)) = True := eq_true (Int.ofNat_lt.2 (Nat.lt_trans (hj ▸ Nat.lt_succ_self j) hgo))
        clear hj
        by_cases b3 : us k < 1
        · have NG := Lib.hid (show ¬ Good len hs us from fun h => h.2 k hgo (.inr (.inl b3)))
          have e8 : (us k < 1) = True := eq_true b3
          clear b3
          clear hbf
          go_wp2_with fail
          go_quiet (fail)
          go_wp2_with fail
          go_ret2
          exact ⟨.inr ⟨NG.out, rfl⟩, drewN_below HB.out _⟩
        by_cases b4 : 1099511627776 < us k
        · have NG := Lib.hid (show ¬ Good len hs us from fun h => h.2 k hgo (.inr (.inr b4)))
          have e8 : (us k < 1) = False := eq_false b3
          have e9 : ((1099511627776 : Int) < us k) = True := eq_true b4
          clear b3 b4
          clear hbf
          go_wp2_with fail
          go_quiet (fail)
          go_wp2_with fail
          go_ret2
          exact ⟨.inr ⟨NG.out, rfl⟩, drewN_below HB.out _⟩
        have hgood2 := good_next HG.out B2.out b3 b4
        obtain ⟨t, ht⟩ : ∃ t : Nat, us k = t := ⟨(us k).toNat, by omega⟩
        have HT := Lib.hid ht
        have T1 := Lib.hid (show t < 18446744073709551616 by omega)
        have T2 := Lib.hid (show ((t : Int) < 1) = False by rw [← ht]; exact eq_false b3)
        have T3 := Lib.hid (show ((1099511627776 : Int) < (t : Int)) = False by rw [← ht]; exact eq_false b4)
        rw [ht] at q1 hbf
        clear b3 b4 ht
        have e8 := T2.out
        have e9 := T3.out
        have hg0 : Whole (wr.alloc (.cells #[.int .u32 (hs k), .int .i64 t] 61)) wr.heap.size 61 #[.int .u32 (hs k), .int .i64 t] := Whole.fresh _ _ _
        clear h hcc
        go_wp2_with fail
        go_quiet (fail)
        go_wp2_with fail
        have hg1 := hg0.drewN nq
        have hb1 := drewN_below hbf nq
        generalize ((wr.alloc (.cells #[.int .u32 (hs k), .int .i64 t] 61)).drewN nq) = W1 at hg1 hb1 ⊢
        have hS : W1.cell? ⟨wr.heap.size, 0, none⟩ = some (.int .u32 (hs k)) ∧ W1.cell? ⟨wr.heap.size, 1, none⟩ = some (.int .i64 t) ∧ Whole W1 wr.heap.size 61 #[.int .u32 (hs k), .int .i64 t] ∧ Below w.heap.size w W1 := ⟨hg1.cell 0, hg1.cell 1, hg1, hb1⟩
        have e10 : IntKind.u64.wrap (t : Int) = (t : Int) := wrap_u64 T1.out
        have e11 : IntKind.u64.wrap (hs k : Int) = (hs k : Int) := wrap_u64 (Nat.lt_trans Q2.out (by decide))
        have hz : (⟨(encL len hs us k).toArray⟩ : ByteArray).size ≤ 1000 := by
          show (encL len hs us k).toArray.size ≤ 1000
          rw [List.size_toArray, encL_len]
          have := H64.out
          omega
        have hnext : (⟨(encL len hs us (k + 1)).toArray⟩ : ByteArray) = ⟨(encL len hs us k).toArray⟩ ++ (layB (hs k) 4 ++ layB t 8) := by
          have e : (us k).toNat = t := by rw [HT.out]; rfl
          apply ByteArray.ext
          simp [encL, layB, e]
        have HN := Lib.hid hnext
        clear hnext
        generalize (⟨(encL len hs us k).toArray⟩ : ByteArray) = S0 at hz HN ⊢
        have hadd1 : ∀ W : World, (Op.stringOp .add (layB (hs k) 4) (layB t 8)).run Try.prog W = .ok (.string (layB (hs k) 4 ++ layB t 8)) W := fun W => run_string_add_sum W _ _ (by simp only [layB_size]; omega)
        have hadd2 : ∀ W : World, (Op.stringOp .add S0 (layB (hs k) 4 ++ layB t 8)).run Try.prog W = .ok (.string (S0 ++ (layB (hs k) 4 ++ layB t 8))) W := fun W => run_string_add_sum W _ _ (by simp only [ByteArray.size_append, layB_size]; omega)
        clear hg0 hbf q0 q1 hg1 hb1 hz
        go_region_held3 (fun v => v.cell? ⟨wr.heap.size, 0, none⟩ = some (.int .u32 (hs k)) ∧ v.cell? ⟨wr.heap.size, 1, none⟩ = some (.int .i64 t) ∧ Whole v wr.heap.size 61 #[.int .u32 (hs k), .int .i64 t] ∧ Below w.heap.size w v)
          (first | (exact held_drew 1 hS) | (exact held_drew _ (by assumption)) | (exact held_grown (by assumption) (by assumption)))
          (first | (go_at_call 85; with_reducible refine (rlay4 (hs k) _ (Nat.lt_trans Q2.out (by decide))).mono ?_; rintro e w' ⟨rfl, gq⟩) | (go_at_call 85; with_reducible refine (rlay8 t _ T1.out).mono ?_; rintro e w' ⟨rfl, gq⟩))
        go_wp2
        go_roundw
        case rel => exact ⟨k + 1, by omega, by go_num, hgood2, by rw [HN.out], (by assumption : _ ∧ _ ∧ _ ∧ Below _ _ _).2.2.2⟩
        case measure => simp [intOf]; omega
    · obtain rfl : k = len := by omega
      have GD := Lib.hid (show Good k hs us from ⟨H64.out, hgood⟩)
      have e1 : ((k : Int) < (k : Int)) = False := eq_false (by omega)
      clear hgood h hl
      go_wp2_with fail
      go_ret2
      exact ⟨.inl ⟨GD.out, rfl⟩, hb⟩
end By
end Go.Proofs.Ytohphljhldcjbaa
