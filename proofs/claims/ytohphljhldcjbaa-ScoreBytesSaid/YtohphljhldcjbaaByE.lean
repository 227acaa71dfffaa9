/- score.Encode. -/
import Derived.Test.YtohphljhldcjbaaByD
namespace Go.Proofs.Ytohphljhldcjbaa
set_option linter.unusedVariables false
set_option linter.unusedSimpArgs false
open Go.RowKit Go.Maps
namespace By

/-- Bans that lie in memory: hosts and times. -/
def Bans (w : World) (A : Option Addr) (len : Nat) (hs : Nat → Nat) (us : Nat → Int) : Prop :=
  0 < len → ∃ b off, A = some ⟨b, off, none⟩ ∧ b < w.heap.size ∧ ∀ i, i < len → w.cell? ⟨b, off + i * 2, none⟩ = some (.int .u32 (hs i)) ∧ w.cell? ⟨b, off + i * 2 + 1, none⟩ = some (.int .i64 (us i)) ∧ hs i < 4294967296
theorem Bans.below {w w' : World} {A : Option Addr} {len : Nat} {hs : Nat → Nat} {us : Nat → Int} (h : Bans w A len hs us) (hb : Below w.heap.size w w') : Bans w' A len hs us := by
  intro hp
  obtain ⟨b, off, h1, h2, h3⟩ := h hp
  refine ⟨b, off, h1, Nat.lt_of_lt_of_le h2 hb.size, fun i hi => ?_⟩
  obtain ⟨a1, a2, a3⟩ := h3 i hi
  exact ⟨(hb.cell (p := ⟨b, _, none⟩) h2).trans a1, (hb.cell (p := ⟨b, _, none⟩) h2).trans a2, a3⟩

/-- What is wrong with the i-th ban. -/
def Bad (hs : Nat → Nat) (us : Nat → Int) (i : Nat) : Prop := (0 < i ∧ hs i ≤ hs (i - 1)) ∨ us i < 1 ∨ 1099511627776 < us i
/-- The bytes of the first k bans. -/
def encL (len : Nat) (hs : Nat → Nat) (us : Nat → Int) : Nat → List UInt8
  | 0 => layL len 1
  | k + 1 => encL len hs us k ++ (layL (hs k) 4 ++ layL (us k).toNat 8)
theorem encL_len (len : Nat) (hs : Nat → Nat) (us : Nat → Int) (k : Nat) : (encL len hs us k).length = 1 + k * 12 := by
  induction k with
  | zero => simp [encL, layL]
  | succ k ih => simp only [encL, List.length_append, ih]; simp [layL]; omega

def Good (len : Nat) (hs : Nat → Nat) (us : Nat → Int) : Prop := len ≤ 64 ∧ ∀ i, i < len → ¬ Bad hs us i
/-- What is told of bans: their bytes, or an error. -/
def Encoded (len : Nat) (hs : Nat → Nat) (us : Nat → Int) (w : World) (e : Ending) (w' : World) : Prop :=
  ((Good len hs us ∧ e = .returned (.tuple #[.string ⟨(encL len hs us len).toArray⟩, .int .i64 0])) ∨ (¬ Good len hs us ∧ e = .returned (.tuple #[.string .empty, .int .i64 1]))) ∧ Below w.heap.size w w'

theorem wrap_small {j : Nat} (h : j ≤ 2000000) : wrap64 (j : Int) = (j : Int) := IntWalk.wrap64_in _ (by omega)
theorem drewN_below {B : Nat} {a w : World} (h : Below B a w) (n : Nat) : Below B a (w.drewN n) := ⟨h.os, h.tape, h.output, h.size, h.block⟩
theorem wrap_u64 {t : Nat} (h : t < 18446744073709551616) : IntKind.u64.wrap (t : Int) = (t : Int) := IntWalk.u64_in _ (by omega)
theorem cur_eq {len k : Nat} {hs : Nat → Nat} {us : Nat → Int} {l0 : List UInt8} (h : k = 0 → l0 = layL len 1) : (if k = 0 then l0 else encL len hs us k) = encL len hs us k := by
  split
  · rename_i h0
    rw [h h0, h0]
    rfl
  · rfl
theorem Kept.whole {w w' : World} {b g : Nat} {t : TypeId} {cs : Array Value} (h : Kept b w w') (hg : Whole w g t cs) (hne : g ≠ b) (ht : t ≠ 5) : Whole w' g t cs :=
  h g _ hg (fun e => hne (by injection e)) (fun c fz e => by injection e with _ e2; exact ht e2)

theorem good_next {hs : Nat → Nat} {us : Nat → Int} {k : Nat} (hg : ∀ i, i < k → ¬ Bad hs us i) (h2 : ¬ (0 < k ∧ hs k ≤ hs (k - 1))) (h3 : ¬ us k < 1) (h4 : ¬ 1099511627776 < us k) : ∀ i, i < k + 1 → ¬ Bad hs us i := by
  intro i hi
  rcases Nat.lt_or_ge i k with h | h
  · exact hg i h
  · obtain rfl : i = k := by omega
    rintro (b | b | b)
    · exact h2 b
    · exact h3 b
    · exact h4 b

set_option maxHeartbeats 4000000 in
set_option maxRecDepth 100000 in
theorem encode_any (A : Option Addr) (len cap : Nat) (hs : Nat → Nat) (us : Nat → Int) (w : World) (h : Bans w A len hs us) (hl : len ≤ 140737488351232) :
    Calls Try.prog 31 #[.slice A len cap] w (Encoded len hs us w) := by
  go_enter Try.func31, Try.ntmps31
  go_wp2_with fail
  refine (newW w).mono ?_
  rintro e w1 ⟨rfl, hw1, g1⟩
  have bw1 : Below w.heap.size w w1 := Below.of_grown g1 (Nat.le_refl _) (by simp)
  have hlt : w.heap.size < w1.heap.size := by rcases hw1 with h | h <;> exact h.lt
  clear g1
  have e1 : IntKind.u64.wrap (len : Int) = (len : Int) := IntWalk.u64_in _ (by omega)
  go_wp2_with fail
  refine (countW_any w.heap.size w.heap.size len w1 hw1 bw1.size (by omega)).mono ?_
  rintro e w2 ⟨l0, hl0, hl9, rfl, hw2, bw2, _⟩
  have bw3 := bw1.trans bw2
  have hlt2 : w.heap.size < w2.heap.size := by rcases hw2 with h | h <;> exact h.lt
  clear bw1 bw2 hw1 hlt e1
  go_wp2_with fail
  go_loopw [15] (fun i wr => ∃ k : Nat, k ≤ len ∧ i = .int .i64 k ∧ (0 < k → len ≤ 64) ∧ (∀ i, i < k → ¬ Bad hs us i) ∧ Wr wr w.heap.size w.heap.size (Lib.byteCells (if k = 0 then l0 else encL len hs us k)) ∧ Below w.heap.size w wr ∧ w.heap.size < wr.heap.size) (fun i _ => len - (intOf i).toNat)
  case atStart => exact ⟨0, Nat.zero_le _, rfl, fun h => absurd h (by omega), fun i hi => absurd hi (by omega), by simpa using hw2, bw3, hlt2⟩
  case round =>
    obtain ⟨k, hk, rfl, h64, hgood, hw, hb, hltr⟩ := hrel
    by_cases hgo : k < len
    · obtain ⟨b, off, rfl, hbl, hcc⟩ := (h.below hb) (by omega)
      obtain ⟨q0, q1, q2⟩ := hcc k hgo
      have Q2 := Lib.hid q2
      clear q2
      have eg : ((k : Int) < (len : Int)) = True := eq_true (by omega)
      have hgb : b ≠ wr.heap.size := by omega
      have hbf := hb.alloc hb.size (.cells #[.int .u32 (hs k), .int .i64 (us k)] 60)
      have HB := Lib.hid hbf
      by_cases b1 : 64 < len
      · have NG := Lib.hid (show ¬ Good len hs us from fun h => by have := h.1; omega)
        have e2 : ((64 : Int) < (len : Int)) = True := eq_true (by omega)
        clear hbf b1 hgood h64 hcc h
        go_wp2_with fail
        go_quiet (fail)
        go_wp2_with fail
        go_ret2
        exact ⟨.inr ⟨NG.out, rfl⟩, drewN_below HB.out _⟩
      have e2 : ((64 : Int) < (len : Int)) = False := eq_false (by omega)
      by_cases b2 : 0 < k ∧ hs k ≤ hs (k - 1)
      · have NG := Lib.hid (show ¬ Good len hs us from fun h => h.2 k hgo (.inl b2))
        obtain ⟨j, hj⟩ : ∃ j, k = j + 1 := ⟨k - 1, by omega⟩
        obtain ⟨p0, _, _⟩ := hcc j (by omega)
        have e3 : 0 < k := b2.1
        have e4 : ((hs k : Int) ≤ (hs j : Int)) = True := eq_true (Int.ofNat_le.2 (by have := b2.2; rwa [show k - 1 = j by omega] at this))
        have e5 : (k : Int) - 1 = (j : Int) := by omega
        have e6 : wrap64 (j : Int) = (j : Int) := wrap_small (by omega)
        have e7 : ((j : Int) < (len : Int)) = True := eq_true (Int.ofNat_lt.2 (Nat.lt_trans (hj ▸ Nat.lt_succ_self j) hgo))
        clear hbf b1 b2 hgood h64 hcc h hj
        go_wp2_with fail
        go_quiet (fail)
        go_wp2_with fail
        go_ret2
        exact ⟨.inr ⟨NG.out, rfl⟩, drewN_below HB.out _⟩
      have HG := Lib.hid hgood
      have B2 := Lib.hid b2
      have H64 := Lib.hid (show len ≤ 64 by omega)
      clear hgood h64 b1 b2
      rcases Nat.eq_zero_or_pos k with hk0 | hk0
      · have e3 : (0 < k) = False := eq_false (by omega)
        clear hk0
        by_cases b3 : us k < 1
        · have NG := Lib.hid (show ¬ Good len hs us from fun h => h.2 k hgo (.inr (.inl b3)))
          have e8 : (us k < 1) = True := eq_true b3
          clear b3
          clear hbf
          go_wp2_with fail
          go_quiet (fail)
          go_wp2_with fail
          go_ret2
          exact ⟨.inr ⟨NG.out, rfl⟩, drewN_below HB.out _⟩
        by_cases b4 : 1099511627776 < us k
        · have NG := Lib.hid (show ¬ Good len hs us from fun h => h.2 k hgo (.inr (.inr b4)))
          have e8 : (us k < 1) = False := eq_false b3
          have e9 : ((1099511627776 : Int) < us k) = True := eq_true b4
          clear b3 b4
          clear hbf
          go_wp2_with fail
          go_quiet (fail)
          go_wp2_with fail
          go_ret2
          exact ⟨.inr ⟨NG.out, rfl⟩, drewN_below HB.out _⟩
        have hgood2 := good_next HG.out B2.out b3 b4
        obtain ⟨t, ht⟩ : ∃ t : Nat, us k = t := ⟨(us k).toNat, by omega⟩
        have HT := Lib.hid ht
        have T1 := Lib.hid (show t < 18446744073709551616 by omega)
        have T2 := Lib.hid (show ((t : Int) < 1) = False by rw [← ht]; exact eq_false b3)
        have T3 := Lib.hid (show ((1099511627776 : Int) < (t : Int)) = False by rw [← ht]; exact eq_false b4)
        rw [ht] at q1 hbf
        clear b3 b4 ht
        have e8 := T2.out
        have e9 := T3.out
        have hg0 : Whole (wr.alloc (.cells #[.int .u32 (hs k), .int .i64 t] 60)) wr.heap.size 60 #[.int .u32 (hs k), .int .i64 t] := Whole.fresh _ _ _
        have hw0 := hw.alloc (.cells #[.int .u32 (hs k), .int .i64 t] 60)
        clear h hcc
        go_wp2_with fail
        go_quiet (fail)
        go_wp2_with fail
        have hw1 : Wr ((wr.alloc (.cells #[.int .u32 (hs k), .int .i64 t] 60)).drewN nq) w.heap.size w.heap.size _ := Wr.grown hw0 (grown_drewN (grown_refl _ _) nq)
        have hg1 := hg0.drewN nq
        have hb1 := drewN_below hbf nq
        rw [cur_eq (len := len) (hs := hs) (us := us) (k := k) (l0 := l0) (fun h => hl0 (by have := H64.out; omega))] at hw1
        generalize ((wr.alloc (.cells #[.int .u32 (hs k), .int .i64 t] 60)).drewN nq) = W1 at hw1 hg1 hb1 ⊢
        have hlen1 : (encL len hs us k).length ≤ 1000 := by rw [encL_len]; have := H64.out; omega
        have hgne : wr.heap.size ≠ w.heap.size := by omega
        clear hw0 hg0 hbf q0 q1
        refine (u32_any w.heap.size w.heap.size _ (hs k) W1 hw1 (Nat.le_trans hlen1 (by decide)) hb1.size Q2.out).mono ?_
        rintro e W2 ⟨rfl, hw2', bw2', kp2⟩
        have hg2 := kp2.whole hg1 hgne (by decide)
        have hb2 := hb1.trans bw2'
        have c1 : W2.cell? ⟨wr.heap.size, 1, none⟩ = some (.int .i64 t) := hg2.cell 1
        have e10 : IntKind.u64.wrap (t : Int) = (t : Int) := wrap_u64 T1.out
        clear hw1 hg1 hb1 bw2' kp2
        go_wp2_with fail
        refine (u64_any w.heap.size w.heap.size _ t W2 hw2' (by simp only [List.length_append]; have : (layL (hs k) 4).length = 4 := by simp [layL]
                                                                omega) hb2.size T1.out).mono ?_
        rintro e W3 ⟨rfl, hw3, bw3', _⟩
        have hb3 := hb2.trans bw3'
        have hl3 : w.heap.size < W3.heap.size := by rcases hw3 with h | h <;> exact h.lt
        clear hw2' hb2 bw3' c1
        go_wp2_with fail
        go_roundw
        case rel =>
          refine ⟨k + 1, by omega, by go_num, fun _ => H64.out, hgood2, ?_, hb3, hl3⟩
          have e : (if k + 1 = 0 then l0 else encL len hs us (k + 1)) = encL len hs us k ++ layL (hs k) 4 ++ layL t 8 := by
            rw [if_neg (by omega), List.append_assoc]
            show encL len hs us k ++ (layL (hs k) 4 ++ layL (us k).toNat 8) = _
            rw [HT.out]
            rfl
          rw [e]
          exact hw3
        case measure => simp [intOf]; omega
      · obtain ⟨j, hj⟩ : ∃ j, k = j + 1 := ⟨k - 1, by omega⟩
        obtain ⟨p0, _, _⟩ := hcc j (by omega)
        have e4 : ((hs k : Int) ≤ (hs j : Int)) = False := eq_false (fun h => B2.out ⟨hk0, by rw [show k - 1 = j by omega]; exact Int.ofNat_le.1 h⟩)
        have e5 : (k : Int) - 1 = (j : Int) := by omega
        have e6 : wrap64 (j : Int) = (j : Int) := wrap_small (by have := H64.out; omega)
        have e7 : ((j : Int) < (len : Int)) = True := eq_true (Int.ofNat_lt.2 (Nat.lt_trans (hj ▸ Nat.lt_succ_self j) hgo))
        clear hj
        by_cases b3 : us k < 1
        · have NG := Lib.hid (show ¬ Good len hs us from fun h => h.2 k hgo (.inr (.inl b3)))
          have e8 : (us k < 1) = True := eq_true b3
          clear b3
          clear hbf
          go_wp2_with fail
          go_quiet (fail)
          go_wp2_with fail
          go_ret2
          exact ⟨.inr ⟨NG.out, rfl⟩, drewN_below HB.out _⟩
        by_cases b4 : 1099511627776 < us k
        · have NG := Lib.hid (show ¬ Good len hs us from fun h => h.2 k hgo (.inr (.inr b4)))
          have e8 : (us k < 1) = False := eq_false b3
          have e9 : ((1099511627776 : Int) < us k) = True := eq_true b4
          clear b3 b4
          clear hbf
          go_wp2_with fail
          go_quiet (fail)
          go_wp2_with fail
          go_ret2
          exact ⟨.inr ⟨NG.out, rfl⟩, drewN_below HB.out _⟩
        have hgood2 := good_next HG.out B2.out b3 b4
        obtain ⟨t, ht⟩ : ∃ t : Nat, us k = t := ⟨(us k).toNat, by omega⟩
        have HT := Lib.hid ht
        have T1 := Lib.hid (show t < 18446744073709551616 by omega)
        have T2 := Lib.hid (show ((t : Int) < 1) = False by rw [← ht]; exact eq_false b3)
        have T3 := Lib.hid (show ((1099511627776 : Int) < (t : Int)) = False by rw [← ht]; exact eq_false b4)
        rw [ht] at q1 hbf
        clear b3 b4 ht
        have e8 := T2.out
        have e9 := T3.out
        have hg0 : Whole (wr.alloc (.cells #[.int .u32 (hs k), .int .i64 t] 60)) wr.heap.size 60 #[.int .u32 (hs k), .int .i64 t] := Whole.fresh _ _ _
        have hw0 := hw.alloc (.cells #[.int .u32 (hs k), .int .i64 t] 60)
        clear h hcc
        go_wp2_with fail
        go_quiet (fail)
        go_wp2_with fail
        have hw1 : Wr ((wr.alloc (.cells #[.int .u32 (hs k), .int .i64 t] 60)).drewN nq) w.heap.size w.heap.size _ := Wr.grown hw0 (grown_drewN (grown_refl _ _) nq)
        have hg1 := hg0.drewN nq
        have hb1 := drewN_below hbf nq
        rw [cur_eq (len := len) (hs := hs) (us := us) (k := k) (l0 := l0) (fun h => hl0 (by have := H64.out; omega))] at hw1
        generalize ((wr.alloc (.cells #[.int .u32 (hs k), .int .i64 t] 60)).drewN nq) = W1 at hw1 hg1 hb1 ⊢
        have hlen1 : (encL len hs us k).length ≤ 1000 := by rw [encL_len]; have := H64.out; omega
        have hgne : wr.heap.size ≠ w.heap.size := by omega
        clear hw0 hg0 hbf q0 q1
        refine (u32_any w.heap.size w.heap.size _ (hs k) W1 hw1 (Nat.le_trans hlen1 (by decide)) hb1.size Q2.out).mono ?_
        rintro e W2 ⟨rfl, hw2', bw2', kp2⟩
        have hg2 := kp2.whole hg1 hgne (by decide)
        have hb2 := hb1.trans bw2'
        have c1 : W2.cell? ⟨wr.heap.size, 1, none⟩ = some (.int .i64 t) := hg2.cell 1
        have e10 : IntKind.u64.wrap (t : Int) = (t : Int) := wrap_u64 T1.out
        clear hw1 hg1 hb1 bw2' kp2
        go_wp2_with fail
        refine (u64_any w.heap.size w.heap.size _ t W2 hw2' (by simp only [List.length_append]; have : (layL (hs k) 4).length = 4 := by simp [layL]
                                                                omega) hb2.size T1.out).mono ?_
        rintro e W3 ⟨rfl, hw3, bw3', _⟩
        have hb3 := hb2.trans bw3'
        have hl3 : w.heap.size < W3.heap.size := by rcases hw3 with h | h <;> exact h.lt
        clear hw2' hb2 bw3' c1
        go_wp2_with fail
        go_roundw
        case rel =>
          refine ⟨k + 1, by omega, by go_num, fun _ => H64.out, hgood2, ?_, hb3, hl3⟩
          have e : (if k + 1 = 0 then l0 else encL len hs us (k + 1)) = encL len hs us k ++ layL (hs k) 4 ++ layL t 8 := by
            rw [if_neg (by omega), List.append_assoc]
            show encL len hs us k ++ (layL (hs k) 4 ++ layL (us k).toNat 8) = _
            rw [HT.out]
            rfl
          rw [e]
          exact hw3
        case measure => simp [intOf]; omega
    · obtain rfl : k = len := by omega
      have hk64 : k ≤ 64 := by omega
      rw [cur_eq (len := k) (hs := hs) (us := us) (k := k) (l0 := l0) (fun h => hl0 (by omega))] at hw
      have hne : encL k hs us k ≠ [] := fun e => by have := encL_len k hs us k; rw [e] at this; simp at this; omega
      have HT := Lib.hid fun (n : Nat) => textW_any w.heap.size w.heap.size (encL k hs us k) wr hw hne
      have GD := Lib.hid (show Good k hs us from ⟨hk64, hgood⟩)
      have e1 : ((k : Int) < (k : Int)) = False := eq_false (by omega)
      clear hw h64 hl hk64 hgood h hl0
      go_wp2_with fail
      refine (HT.out 0).mono ?_
      rintro e w9 ⟨rfl, hb9⟩
      go_wp2_with fail
      go_ret2
      exact ⟨.inl ⟨GD.out, rfl⟩, hb.trans hb9⟩
end By
end Go.Proofs.Ytohphljhldcjbaa
