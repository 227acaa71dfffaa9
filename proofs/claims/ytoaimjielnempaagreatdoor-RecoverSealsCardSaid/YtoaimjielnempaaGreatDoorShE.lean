/- The state behind a block. -/
import Derived.Test.YtoaimjielnempaaGreatDoorShD
namespace Go.Proofs.YtoaimjielnempaaGreatDoor
set_option linter.unusedVariables false
set_option linter.unusedSimpArgs false
open Go.RowKit Go.Maps
namespace Sh
def yArr (s : St) : Array Value := #[.int .u32 (s.a : Int), .int .u32 (s.b : Int), .int .u32 (s.c : Int), .int .u32 (s.d : Int), .int .u32 (s.e : Int), .int .u32 (s.f : Int), .int .u32 (s.g : Int), .int .u32 (s.h : Int)]
def zero8 : Array Value := #[.int .u32 0, .int .u32 0, .int .u32 0, .int .u32 0, .int .u32 0, .int .u32 0, .int .u32 0, .int .u32 0]
theorem size8 : (Tryz.prog.info? 302).map (·.size) = some 8 := by kernel_rfl
theorem size64b : (Tryz.prog.info? 113).map (·.size) = some 64 := by kernel_rfl
theorem yArr_one (s : St) : (yArr s).all (·.oneCell') = true := by
  rw [Array.all_eq_true_iff_forall_mem]
  intro v hv
  simp only [yArr, List.mem_toArray, List.mem_cons, List.not_mem_nil, or_false] at hv
  rcases hv with rfl | rfl | rfl | rfl | rfl | rfl | rfl | rfl <;> rfl
theorem big1_bits {e : Nat} (h : e < 4294967296) : bits BinOp.xor IntKind.u32 ((rot e 6 : Nat) : Int) ((rot e 11 : Nat) : Int) = ((Nat.xor (rot e 6) (rot e 11) : Nat) : Int) ∧
    bits BinOp.xor IntKind.u32 ((Nat.xor (rot e 6) (rot e 11) : Nat) : Int) ((rot e 25 : Nat) : Int) = ((big1 e : Nat) : Int) :=
  ⟨u32_xor_nat _ _ (rot_lt h) (rot_lt h), u32_xor_nat _ _ (xor_lt (rot_lt h) (rot_lt h)) (rot_lt h)⟩
theorem big0_bits {e : Nat} (h : e < 4294967296) : bits BinOp.xor IntKind.u32 ((rot e 2 : Nat) : Int) ((rot e 13 : Nat) : Int) = ((Nat.xor (rot e 2) (rot e 13) : Nat) : Int) ∧
    bits BinOp.xor IntKind.u32 ((Nat.xor (rot e 2) (rot e 13) : Nat) : Int) ((rot e 22 : Nat) : Int) = ((big0 e : Nat) : Int) :=
  ⟨u32_xor_nat _ _ (rot_lt h) (rot_lt h), u32_xor_nat _ _ (xor_lt (rot_lt h) (rot_lt h)) (rot_lt h)⟩
theorem compl_bits {e : Nat} (he : e < 4294967296) : bits BinOp.xor IntKind.u32 IntKind.u32.max (e : Int) = ((Nat.sub 4294967295 e : Nat) : Int) := by
  have h0 : IntKind.u32.max = ((4294967295 : Nat) : Int) := rfl
  rw [h0, u32_xor_nat _ _ (by decide) he]
  congr 1
  apply Nat.eq_of_testBit_eq
  intro i
  have h1 : (4294967295 : Nat) = 2 ^ 32 - 1 := rfl
  have h2 : Nat.sub 4294967295 e = 2 ^ 32 - (e + 1) := by
    show 4294967295 - e = _
    omega
  rw [h2, Nat.testBit_two_pow_sub_succ he, h1, Nat.testBit_xor, Nat.testBit_two_pow_sub_one]
  by_cases hi : i < 32
  · simp [hi]
  · have : e.testBit i = false := Nat.testBit_lt_two_pow (Nat.lt_of_lt_of_le he (Nat.pow_le_pow_right (show 0 < 2 by decide) (show 32 ≤ i by omega)))
    simp [hi, this]
theorem chf_bits {e f g : Nat} (he : e < 4294967296) (hf : f < 4294967296) (hg : g < 4294967296) : bits BinOp.and IntKind.u32 (e : Int) (f : Int) = ((Nat.land e f : Nat) : Int) ∧
    bits BinOp.and IntKind.u32 ((Nat.sub 4294967295 e : Nat) : Int) (g : Int) = ((Nat.land (Nat.sub 4294967295 e) g : Nat) : Int) ∧
    bits BinOp.xor IntKind.u32 ((Nat.land e f : Nat) : Int) ((Nat.land (Nat.sub 4294967295 e) g : Nat) : Int) = ((chf e f g : Nat) : Int) := by
  refine ⟨u32_and_nat _ _ he hf, ?_, u32_xor_nat _ _ (land_lt he) (land_lt (Nat.lt_of_le_of_lt (Nat.sub_le _ _) (by decide)))⟩
  exact u32_and_nat _ _ (Nat.lt_of_le_of_lt (Nat.sub_le _ _) (by decide)) hg
theorem maj_bits {a b c : Nat} (ha : a < 4294967296) (hb : b < 4294967296) (hc : c < 4294967296) : bits BinOp.and IntKind.u32 (a : Int) (b : Int) = ((Nat.land a b : Nat) : Int) ∧ bits BinOp.and IntKind.u32 (a : Int) (c : Int) = ((Nat.land a c : Nat) : Int) ∧
    bits BinOp.and IntKind.u32 (b : Int) (c : Int) = ((Nat.land b c : Nat) : Int) ∧ bits BinOp.xor IntKind.u32 ((Nat.land a b : Nat) : Int) ((Nat.land a c : Nat) : Int) = ((Nat.xor (Nat.land a b) (Nat.land a c) : Nat) : Int) ∧
    bits BinOp.xor IntKind.u32 ((Nat.xor (Nat.land a b) (Nat.land a c) : Nat) : Int) ((Nat.land b c : Nat) : Int) = ((maj a b c : Nat) : Int) :=
  ⟨u32_and_nat _ _ ha hb, u32_and_nat _ _ ha hc, u32_and_nat _ _ hb hc, u32_xor_nat _ _ (land_lt ha) (land_lt ha), u32_xor_nat _ _ (xor_lt (land_lt ha) (land_lt ha)) (land_lt hb)⟩
theorem yArr_list (s : St) : yArr s = u32s s.list := rfl
def sumL (y x : St) (k : Nat) : List Nat := (List.range 8).map fun i => if i < k then add32 (y.list.getD i 0) (x.list.getD i 0) else y.list.getD i 0
theorem sumL_zero (y x : St) : sumL y x 0 = y.list := rfl
theorem sumL_last (y x : St) : sumL y x 8 = (sumS y x).list := rfl
theorem sumL_len (y x : St) (k : Nat) : (sumL y x k).length = 8 := by simp [sumL]
theorem sumL_get {y x : St} {k : Nat} (h : k < 8) : (sumL y x k).getD k 0 = y.list.getD k 0 := by simp [sumL, List.getD, h]
theorem sumL_set {y x : St} {k : Nat} (h : k < 8) : (sumL y x k).set k (add32 (y.list.getD k 0) (x.list.getD k 0)) = sumL y x (k + 1) := by
  apply List.ext_getElem
  · simp [sumL]
  · intro i h1 h2
    rw [List.getElem_set]
    simp only [sumL, List.getElem_map, List.getElem_range]
    by_cases e : k = i
    · subst e; simp
    · rw [if_neg e]
      by_cases h3 : i < k
      · rw [if_pos h3, if_pos (by omega)]
      · rw [if_neg h3, if_neg (by omega)]
theorem list_len (s : St) : s.list.length = 8 := rfl
theorem agg8 {a0 b0 a3 b3 : Int} {x1 x2 x4 x5 x6 x7 : Value} (h0 : a0 = b0) (h3 : a3 = b3) : Value.agg #[.int .u32 a0, x1, x2, .int .u32 a3, x4, x5, x6, x7] = Value.agg #[.int .u32 b0, x1, x2, .int .u32 b3, x4, x5, x6, x7] := by rw [h0, h3]
theorem ks_len : ks.length = 64 := rfl
set_option maxHeartbeats 4000000
set_option maxRecDepth 100000
theorem step_any (x : St) (hx : x.ok) (blk : List Nat) (w : World) (hl : blk.length = 64) (hb : ∀ i, blk.getD i 0 < 256) :
    Calls Tryz.prog 204 #[.agg (yArr x), .agg (u8s blk)] w fun e w' => e = .returned (.agg (yArr (sumS (rnds x ks (sched (w16 blk) 48) 64) x))) ∧ w.grownBy w' none := by
  have HL := Lib.hid hl
  have HB := Lib.hid hb
  have HX := Lib.hid hx
  clear hl hb hx
  have b0 : Whole (((w.alloc (.cells (yArr x) 302)).alloc (.cells (u8s blk) 113)).alloc (.cells zero8 302)) w.heap.size 302 (yArr x) := ((Whole.fresh _ _ _).alloc _).alloc _
  have b1 : Whole (((w.alloc (.cells (yArr x) 302)).alloc (.cells (u8s blk) 113)).alloc (.cells zero8 302)) (w.heap.size + 1) 113 (u8s blk) := (Whole.fresh_at _ _ _ (by simp)).alloc _
  have b2 : Whole (((w.alloc (.cells (yArr x) 302)).alloc (.cells (u8s blk) 113)).alloc (.cells zero8 302)) (w.heap.size + 2) 302 zero8 := Whole.fresh_at _ _ _ (by simp)
  have g0 : w.grownBy (((w.alloc (.cells (yArr x) 302)).alloc (.cells (u8s blk) 113)).alloc (.cells zero8 302)) none := grown_alloc (grown_alloc (grown_alloc (grown_refl _ _) _) _) _
  have z0 : (((w.alloc (.cells (yArr x) 302)).alloc (.cells (u8s blk) 113)).alloc (.cells zero8 302)).heap.size = w.heap.size + 3 := by simp
  unfold zero8 at b0 b1 b2 g0 z0
  have HZ0 := Lib.hid z0
  clear z0
  go_enter Tryz.func204, Tryz.ntmps204
  go_wp2_with (go_at_call 273; refine (words_any (w.heap.size + 1) blk _ b1 HL.out HB.out).mono ?_)
  rintro e w1 ⟨rfl, hg1⟩
  have hz1 := hg1.size
  rw [HZ0.out] at hz1
  have b0 := b0.grown hg1 (by simp)
  have b2 := b2.grown hg1 (by simp)
  have g1 := g0.trans hg1
  clear g0 b1 hg1
  have hlen : (sched (w16 blk) 48).length = 64 := by rw [sched_len, w16_len]
  obtain ⟨ws, hws⟩ : ∃ ws, ws = sched (w16 blk) 48 := ⟨_, rfl⟩
  rw [← hws] at hlen ⊢
  have HW := Lib.hid hws
  have HLn := Lib.hid hlen
  clear hws hlen
  have k0 : Whole ((w1.alloc (.cells (u32s ks) 205)).alloc (.cells zero64 205)) w1.heap.size 205 (u32s ks) := (Whole.fresh _ _ _).alloc _
  have q0 : Whole ((w1.alloc (.cells (u32s ks) 205)).alloc (.cells zero64 205)) (w1.heap.size + 1) 205 zero64 := Whole.fresh_at _ _ _ (by simp)
  have b0 := (b0.alloc (.cells (u32s ks) 205)).alloc (.cells zero64 205)
  have b2 := (b2.alloc (.cells (u32s ks) 205)).alloc (.cells zero64 205)
  have g2 := grown_alloc (grown_alloc g1 (.cells (u32s ks) 205)) (.cells zero64 205)
  have z2 := Lib.hid (show ((w1.alloc (.cells (u32s ks) 205)).alloc (.cells zero64 205)).heap.size = w1.heap.size + 2 by simp)
  unfold zero64 at k0 q0 b0 b2 g2 z2
  go_wp2_with (first
    | (go_at_call 274; refine (constants_any _).mono ?_; rintro e w2 ⟨rfl, rfl⟩)
    | (refine store_whole rfl _ _ rfl rfl rfl (by rw [u32s_size, HLn.out]; exact size64) q0 (by rw [u32s_size, HLn.out]; rfl) (u32s_one _) ?_
       have k3 := k0.row_aside (g' := w1.heap.size + 1) (by omega) (u32s ws)
       have q3 := q0.rowAt (u32s ws)
       have b3 := b0.row_aside (g' := w1.heap.size + 1) (by omega) (u32s ws)
       have r3 := b2.row_aside (g' := w1.heap.size + 1) (by omega) (u32s ws)
       have g3 := grown_row (g := w1.heap.size + 1) g2 (.inr (by omega)) (u32s ws)
       clear k0 q0 b0 b2 g2
       generalize World.setRow _ _ _ = w3 at k3 q3 b3 r3 g3 ⊢)
    | (refine load_whole (cs := yArr x) rfl _ rfl 8 _ Tryz.underlying302 size8 rfl b3 ?_
       have k4 := k3.alloc (.cells zero8 302)
       have q4 := q3.alloc (.cells zero8 302)
       have b4 := b3.alloc (.cells zero8 302)
       have r4 := r3.alloc (.cells zero8 302)
       have g4 := grown_alloc g3 (.cells zero8 302)
       have y4 := Whole.fresh w3 302 zero8
       have lt1 := k3.lt
       have lt2 := q3.lt
       have lt3 := b3.lt
       have lt4 := r3.lt
       clear k3 q3 b3 r3
       unfold zero8 at k4 q4 b4 r4 g4 y4)
    | (refine store_whole rfl _ _ rfl rfl rfl size8 y4 rfl (yArr_one _) ?_
       have k5 := k4.row_aside (g' := w3.heap.size) (by omega) (yArr x)
       have q5 := q4.row_aside (g' := w3.heap.size) (by omega) (yArr x)
       have b5 := b4.row_aside (g' := w3.heap.size) (by omega) (yArr x)
       have r5 := r4.row_aside (g' := w3.heap.size) (by omega) (yArr x)
       have y5 := y4.rowAt (yArr x)
       have g5 := grown_row (g := w3.heap.size) g4 (.inr (by have := g3.size; omega)) (yArr x)
       clear k4 q4 b4 r4 y4 g4
       generalize World.setRow _ _ _ = w5 at k5 q5 b5 r5 y5 g5 ⊢))
  clear b0 b2 g1 g3
  have s1 : w.heap.size + 3 ≤ w3.heap.size := by omega
  have s2 : w1.heap.size + 2 ≤ w3.heap.size := by omega
  clear lt1 lt2 lt3 lt4
  have e4 : w.heap.size + 2 = w.heap.size + 1 + 1 := rfl
  rw [e4] at r5
  clear e4
  go_loopw [20] (fun i wr => ∃ t : Nat, t ≤ 64 ∧ i = .int .i64 t ∧ Whole wr w3.heap.size 302 (yArr (rnds x ks ws t)) ∧ Whole wr w1.heap.size 205 (u32s ks) ∧ Whole wr (w1.heap.size + 1) 205 (u32s ws) ∧ Whole wr w.heap.size 302 (yArr x) ∧ (∃ z, z.size = 8 ∧ Whole wr (w.heap.size + 1 + 1) 302 z) ∧ w.grownBy wr none) (fun i _ => 64 - (intOf i).toNat)
  case atStart => exact ⟨0, by omega, rfl, y5, k5, q5, b5, ⟨_, rfl, r5⟩, g5⟩
  case round =>
    clear y5 k5 q5 b5 r5 g5
    obtain ⟨t, ht, rfl, hy, hk, hq, hbx, ⟨z, hz, hr⟩, hg⟩ := hrel
    have HZ := Lib.hid hz
    clear hz
    by_cases hlt : t < 64
    · have e1 : ((t : Int) < 64) = True := eq_true (by omega)
      have hsok := rnds_ok ks ws HX.out t
      have hnext : rnds x ks ws (t + 1) = rnd (rnds x ks ws t) (ks.getD t 0) (ws.getD t 0) := rfl
      generalize rnds x ks ws t = s at hy hsok hnext
      have ck := hk.cell t
      have cw := hq.cell t
      rw [u32s_get (by rw [ks_len]; omega)] at ck
      rw [u32s_get (by rw [HLn.out]; omega)] at cw
      generalize ks.getD t 0 = kt at ck hnext
      generalize ws.getD t 0 = wt at cw hnext
      obtain ⟨a, b, c, d, e, f, g, h8⟩ := s
      obtain ⟨la, lb, lc, ld, le, lf, lg, lh⟩ := hsok
      simp only at la lb lc ld le lf lg lh
      have c0 : wr.cell? ⟨w3.heap.size, 0, none⟩ = some (.int .u32 (a : Int)) := hy.cell 0
      have c1 : wr.cell? ⟨w3.heap.size, 1, none⟩ = some (.int .u32 (b : Int)) := hy.cell 1
      have c2 : wr.cell? ⟨w3.heap.size, 2, none⟩ = some (.int .u32 (c : Int)) := hy.cell 2
      have c3 : wr.cell? ⟨w3.heap.size, 3, none⟩ = some (.int .u32 (d : Int)) := hy.cell 3
      have c4 : wr.cell? ⟨w3.heap.size, 4, none⟩ = some (.int .u32 (e : Int)) := hy.cell 4
      have c5 : wr.cell? ⟨w3.heap.size, 5, none⟩ = some (.int .u32 (f : Int)) := hy.cell 5
      have c6 : wr.cell? ⟨w3.heap.size, 6, none⟩ = some (.int .u32 (g : Int)) := hy.cell 6
      have c7 : wr.cell? ⟨w3.heap.size, 7, none⟩ = some (.int .u32 (h8 : Int)) := hy.cell 7
      obtain ⟨x1, x2⟩ := big1_bits le
      obtain ⟨y1, y2⟩ := big0_bits la
      obtain ⟨v1, v2, v3⟩ := chf_bits le lf lg
      have v0 := compl_bits le
      obtain ⟨m1, m2, m3, m4, m5⟩ := maj_bits la lb lc
      have lA := Lib.hid la
      have lE := Lib.hid le
      clear la lb lc ld le lf lg lh
      have hn2 : rnd ⟨a, b, c, d, e, f, g, h8⟩ kt wt = ⟨add32 (add32 (add32 (add32 (add32 (add32 h8 (big1 e)) (chf e f g)) kt) wt) (big0 a)) (maj a b c), a, b, c, add32 d (add32 (add32 (add32 (add32 h8 (big1 e)) (chf e f g)) kt) wt), e, f, g⟩ := rfl
      rw [hn2] at hnext
      generalize big1 e = B1 at x2 hnext
      generalize big0 a = B0 at y2 hnext
      generalize chf e f g = CH at v3 hnext
      generalize maj a b c = MJ at m5 hnext
      generalize Nat.xor (rot e 6) (rot e 11) = X1 at x1 x2
      generalize Nat.xor (rot a 2) (rot a 13) = Y1 at y1 y2
      generalize Nat.land e f = L1 at v1 v3
      generalize Nat.land (Nat.sub 4294967295 e) g = L2 at v2 v3
      generalize Nat.sub 4294967295 e = NE at v0 v2
      generalize Nat.xor (Nat.land a b) (Nat.land a c) = L3 at m4 m5
      generalize Nat.land a b = L4 at m1 m4
      generalize Nat.land a c = L5 at m2 m4
      generalize Nat.land b c = L6 at m3 m5
      have HN := Lib.hid hnext
      clear hnext hn2
      go_wp2_with fail
      go_quiet (fail)
      go_wp2_with (go_at_call 275; first
            | ((with_reducible refine (turn6 _ lE.out _).mono ?_); rintro e w' ⟨rfl, rfl⟩)
            | ((with_reducible refine (turn11 _ lE.out _).mono ?_); rintro e w' ⟨rfl, rfl⟩)
            | ((with_reducible refine (turn25 _ lE.out _).mono ?_); rintro e w' ⟨rfl, rfl⟩)
            | ((with_reducible refine (turn2 _ lA.out _).mono ?_); rintro e w' ⟨rfl, rfl⟩)
            | ((with_reducible refine (turn13 _ lA.out _).mono ?_); rintro e w' ⟨rfl, rfl⟩)
            | ((with_reducible refine (turn22 _ lA.out _).mono ?_); rintro e w' ⟨rfl, rfl⟩))
      have hy := hy.drewN nq
      have hk := hk.drewN nq
      have hq := hq.drewN nq
      have hbx := hbx.drewN nq
      have hr := hr.drewN nq
      have hg := grown_drewN hg nq
      have ck' : (wr.drewN nq).cell? ⟨w1.heap.size, t, none⟩ = some (.int .u32 (kt : Int)) := ck
      have cw' : (wr.drewN nq).cell? ⟨w1.heap.size + 1, t, none⟩ = some (.int .u32 (wt : Int)) := cw
      clear ck cw c0 c1 c2 c3 c4 c5 c6 c7
      generalize wr.drewN nq = w6 at hy hk hq hbx hr hg ck' cw' ⊢
      have c0 : w6.cell? ⟨w3.heap.size, 0, none⟩ = some (.int .u32 (a : Int)) := hy.cell 0
      have c1 : w6.cell? ⟨w3.heap.size, 1, none⟩ = some (.int .u32 (b : Int)) := hy.cell 1
      have c2 : w6.cell? ⟨w3.heap.size, 2, none⟩ = some (.int .u32 (c : Int)) := hy.cell 2
      have c3 : w6.cell? ⟨w3.heap.size, 3, none⟩ = some (.int .u32 (d : Int)) := hy.cell 3
      have c4 : w6.cell? ⟨w3.heap.size, 4, none⟩ = some (.int .u32 (e : Int)) := hy.cell 4
      have c5 : w6.cell? ⟨w3.heap.size, 5, none⟩ = some (.int .u32 (f : Int)) := hy.cell 5
      have c6 : w6.cell? ⟨w3.heap.size, 6, none⟩ = some (.int .u32 (g : Int)) := hy.cell 6
      have c7 : w6.cell? ⟨w3.heap.size, 7, none⟩ = some (.int .u32 (h8 : Int)) := hy.cell 7
      go_quiet (fail)
      have hy := hy.drewN nq
      have hk := hk.drewN nq
      have hq := hq.drewN nq
      have hbx := hbx.drewN nq
      have hr := hr.drewN nq
      have hg := grown_drewN hg nq
      clear ck' cw' c0 c1 c2 c3 c4 c5 c6 c7
      generalize w6.drewN nq = w7 at hy hk hq hbx hr hg ⊢
      have c0 : w7.cell? ⟨w3.heap.size, 0, none⟩ = some (.int .u32 (a : Int)) := hy.cell 0
      have c1 : w7.cell? ⟨w3.heap.size, 1, none⟩ = some (.int .u32 (b : Int)) := hy.cell 1
      have c2 : w7.cell? ⟨w3.heap.size, 2, none⟩ = some (.int .u32 (c : Int)) := hy.cell 2
      have c3 : w7.cell? ⟨w3.heap.size, 3, none⟩ = some (.int .u32 (d : Int)) := hy.cell 3
      have c4 : w7.cell? ⟨w3.heap.size, 4, none⟩ = some (.int .u32 (e : Int)) := hy.cell 4
      have c5 : w7.cell? ⟨w3.heap.size, 5, none⟩ = some (.int .u32 (f : Int)) := hy.cell 5
      have c6 : w7.cell? ⟨w3.heap.size, 6, none⟩ = some (.int .u32 (g : Int)) := hy.cell 6
      have c7 : w7.cell? ⟨w3.heap.size, 7, none⟩ = some (.int .u32 (h8 : Int)) := hy.cell 7
      go_wp2_with (refine store_whole (cs' := yArr (rnds x ks ws (t + 1))) rfl _ _ rfl rfl ?hv size8 hy rfl (yArr_one _) ?_)
      case hv =>
        rw [HN.out]
        simp [Act.eval, yArr, ← add32_int]
      go_roundw
      case rel =>
        refine ⟨t + 1, by omega, by go_num, hy.rowAt _, hk.row_aside (by omega) _, hq.row_aside (by omega) _, hbx.row_aside (by omega) _, ⟨z, HZ.out, hr.row_aside (by omega) _⟩, grown_row hg (.inr (by omega)) _⟩
      case measure => simp [intOf]; omega
    · have e1 : ((t : Int) < 64) = False := eq_false (by omega)
      have h64 : t = 64 := by omega
      rw [h64] at hy
      have HT := Lib.hid h64
      clear h64
      obtain ⟨y, hyy⟩ : ∃ y, y = rnds x ks ws 64 := ⟨_, rfl⟩
      rw [← hyy, yArr_list, ← sumL_zero y x] at hy
      have HY := Lib.hid hyy
      clear hyy
      rw [yArr_list] at hbx
      clear hk hq
      go_wp2_with fail
      go_loopw [107] (fun i wr => ∃ k : Nat, k ≤ 8 ∧ i = .int .i64 k ∧ Whole wr w3.heap.size 302 (u32s (sumL y x k)) ∧ Whole wr w.heap.size 302 (u32s x.list) ∧ Whole wr (w.heap.size + 1 + 1) 302 z ∧ w.grownBy wr none) (fun i _ => 8 - (intOf i).toNat)
      case atStart => exact ⟨0, by omega, rfl, hy, hbx, hr, hg⟩
      case round =>
        clear hy hbx hr hg
        obtain ⟨k, hk, rfl, hy, hbx, hr, hg⟩ := hrel
        by_cases hlt8 : k < 8
        · have e2 : ((k : Int) < 8) = True := eq_true (by omega)
          have v3 : (0 ≤ (k : Int)) = True := eq_true (by omega)
          go_wp2_with fail
          refine wp_region_still_tail 7 (by kernel_rfl) (by kernel_rfl) ?_
          have ew : ({ heap := wr.heap, tape := wr.tape, drawn := wr.drawn + 1, os := wr.os, output := wr.output } : World) = wr.drew := rfl
          rw [ew]
          clear ew
          have hy := hy.drew
          have hbx := hbx.drew
          have hr := hr.drew
          have hg := grown_drew hg
          generalize wr.drew = w6 at hy hbx hr hg ⊢
          have cy := hy.cell k
          have cx := hbx.cell k
          rw [u32s_get (by rw [sumL_len]; omega), sumL_get hlt8] at cy
          rw [u32s_get (by rw [list_len]; omega)] at cx
          have f0 := hy.thaw k
          have hset := sumL_set (y := y) (x := x) hlt8
          generalize y.list.getD k 0 = yk at cy hset
          generalize x.list.getD k 0 = xk at cx hset
          have HS := Lib.hid hset
          clear hset
          simp only [List.take_succ_cons, List.take_zero, List.drop_succ_cons, List.drop_zero]
          repeat still_step
          all_goals (try refine wpStill_nil ?_)
          go_wp2_with fail
          go_roundw
          case rel =>
            refine ⟨k + 1, by omega, by go_num, ?_, hbx.aside (by simp; omega) _, hr.aside (by simp; omega) _, grown_set hg (.inr (by simp; omega)) _⟩
            rw [← HS.out, ← u32s_set, ← add32_int]
            exact hy.set_ k _
          case measure => simp [intOf]; omega
        · have e2 : ((k : Int) < 8) = False := eq_false (by omega)
          have h8 : k = 8 := by omega
          rw [h8, sumL_last, ← yArr_list] at hy
          have HK := Lib.hid h8
          clear h8
          go_wp2_with (first
            | (refine load_whole (cs := yArr (sumS y x)) rfl _ rfl 8 _ Tryz.underlying302 size8 rfl hy ?_)
            | (refine store_whole rfl _ _ rfl rfl rfl size8 hr HZ.out (yArr_one _) ?_))
          refine bodyPost_ret (results_cell_row rfl _ _ (w.heap.size + 1 + 1) _ (yArr (sumS y x)) (0, 0) _ rfl (hr.rowAt _) Tryz.underlying302 rfl size8) rfl ⟨by rw [HY.out, HW.out], grown_row hg (.inr (by omega)) _⟩
end Sh
end Go.Proofs.YtoaimjielnempaaGreatDoor
