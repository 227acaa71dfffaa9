/- The document's SHA-256: the state behind a block: its words. -/
import Derived.Test.YtoaimjielnempaaGreatDoorRsA
import Derived.Test.YtoaimjielnempaaGreatDoorQtA
namespace Go.Proofs.YtoaimjielnempaaGreatDoor
set_option linter.unusedVariables false
set_option linter.unusedSimpArgs false
open Go.RowKit Go.Maps
namespace Sh
theorem or_add {a b : Nat} (i : Nat) (h : b < 2 ^ i) : Nat.lor (2 ^ i * a) b = 2 ^ i * a + b := (Nat.two_pow_add_eq_or_of_lt h a).symm
theorem pw4_eq {blk : List Nat} (hb : ∀ i, blk.getD i 0 < 256) (i : Nat) : pw blk i 4 = blk.getD (4 * i) 0 * 16777216 + blk.getD (4 * i + 1) 0 * 65536 + blk.getD (4 * i + 2) 0 * 256 + blk.getD (4 * i + 3) 0 := by
  have b0 := hb (4 * i)
  have b1 := hb (4 * i + 1)
  have b2 := hb (4 * i + 2)
  have b3 := hb (4 * i + 3)
  have e1 : pw blk i 1 = blk.getD (4 * i) 0 := by
    show Nat.lor (0 * 256) (blk.getD (4 * i + 0) 0) = _
    simp
  have step : ∀ x b : Nat, b < 256 → Nat.lor (Nat.mul x 256) b = x * 256 + b := fun x b h => by
    have := or_add (a := x) (b := b) 8 (by simpa using h)
    rw [show (2 : Nat) ^ 8 = 256 from rfl, Nat.mul_comm 256 x] at this
    exact this
  have e2 : pw blk i 2 = pw blk i 1 * 256 + blk.getD (4 * i + 1) 0 := step _ _ b1
  have e3 : pw blk i 3 = pw blk i 2 * 256 + blk.getD (4 * i + 2) 0 := step _ _ b2
  have e4 : pw blk i 4 = pw blk i 3 * 256 + blk.getD (4 * i + 3) 0 := step _ _ b3
  rw [e4, e3, e2, e1]
  omega
theorem word_bits {a b c d : Nat} (ha : a < 256) (hb : b < 256) (hc : c < 256) (hd : d < 256) :
    bits BinOp.or IntKind.u32 ((a : Int) * 16777216 % 4294967296) ((b : Int) * 65536 % 4294967296) = ((a * 16777216 + b * 65536 : Nat) : Int) ∧
    bits BinOp.or IntKind.u32 ((a * 16777216 + b * 65536 : Nat) : Int) ((c : Int) * 256 % 4294967296) = ((a * 16777216 + b * 65536 + c * 256 : Nat) : Int) ∧
    bits BinOp.or IntKind.u32 ((a * 16777216 + b * 65536 + c * 256 : Nat) : Int) (d : Int) = ((a * 16777216 + b * 65536 + c * 256 + d : Nat) : Int) := by
  have h1 : ((a : Int) * 16777216 % 4294967296) = ((a * 16777216 : Nat) : Int) := by omega
  have h2 : ((b : Int) * 65536 % 4294967296) = ((b * 65536 : Nat) : Int) := by omega
  have h3 : ((c : Int) * 256 % 4294967296) = ((c * 256 : Nat) : Int) := by omega
  refine ⟨?_, ?_, ?_⟩
  · rw [h1, h2, u32_or_nat _ _ (by omega) (by omega)]
    have := or_add (a := a) (b := b * 65536) 24 (by omega)
    rw [show (2 : Nat) ^ 24 = 16777216 from rfl, Nat.mul_comm 16777216 a] at this
    exact congrArg _ this
  · rw [h3, u32_or_nat _ _ (by omega) (by omega)]
    have := or_add (a := a * 256 + b) (b := c * 256) 16 (by omega)
    rw [show (2 : Nat) ^ 16 = 65536 from rfl, show 65536 * (a * 256 + b) = a * 16777216 + b * 65536 by omega] at this
    exact congrArg _ this
  · rw [u32_or_nat _ _ (by omega) (by omega)]
    have := or_add (a := a * 65536 + b * 256 + c) (b := d) 8 (by omega)
    rw [show (2 : Nat) ^ 8 = 256 from rfl, show 256 * (a * 65536 + b * 256 + c) = a * 16777216 + b * 65536 + c * 256 by omega] at this
    exact congrArg _ this
theorem word_at {blk : List Nat} (hb : ∀ i, blk.getD i 0 < 256) (i : Nat) : ∃ X1 X2 : Nat,
    bits BinOp.or IntKind.u32 ((blk.getD (4 * i) 0 : Int) * 16777216 % 4294967296) ((blk.getD (4 * i + 1) 0 : Int) * 65536 % 4294967296) = (X1 : Int) ∧
    bits BinOp.or IntKind.u32 (X1 : Int) ((blk.getD (4 * i + 2) 0 : Int) * 256 % 4294967296) = (X2 : Int) ∧
    bits BinOp.or IntKind.u32 (X2 : Int) (blk.getD (4 * i + 3) 0 : Int) = (pw blk i 4 : Int) := by
  obtain ⟨y1, y2, y3⟩ := word_bits (hb (4 * i)) (hb (4 * i + 1)) (hb (4 * i + 2)) (hb (4 * i + 3))
  exact ⟨_, _, y1, y2, by rw [y3, pw4_eq hb]⟩
theorem wrow_full {blk : List Nat} {i : Nat} (h : i < 64) : (wrow blk i 0).set i (pw blk i 4) = wrow blk (i + 1) 0 := by
  rw [← wrow_next]
  apply List.ext_getElem
  · simp [wrow]
  · intro k h1 h2
    rw [List.getElem_set]
    simp only [wrow, List.getElem_map, List.getElem_range]
    by_cases e : i = k
    · subst e; simp
    · rw [if_neg e]
      by_cases h3 : k < i
      · rw [if_pos h3, if_pos h3]
      · rw [if_neg h3, if_neg h3, if_neg (fun h => e h.symm), if_neg (fun h => e h.symm)]
/-- The words so far. -/
def trow (blk : List Nat) (t : Nat) : List Nat := if t < 16 then wrow blk t 0 else srow blk t
theorem trow_lo {blk : List Nat} {t : Nat} (h : t < 16) : trow blk t = wrow blk t 0 := if_pos h
theorem trow_hi {blk : List Nat} {t : Nat} (h : 16 ≤ t) : trow blk t = srow blk t := if_neg (by omega)
theorem trow_up {blk : List Nat} {t : Nat} (h : t < 16) : trow blk (t + 1) = wrow blk (t + 1) 0 := by
  by_cases e : t = 15
  · subst e
    rw [trow_hi (by omega)]
    exact (srow_first blk).symm
  · exact trow_lo (by omega)
theorem trow_len {blk : List Nat} {t : Nat} (h : t ≤ 64) : (trow blk t).length = 64 := by
  unfold trow
  split
  · exact wrow_len _ _ _
  · exact srow_len (by omega) h
theorem sumS_comm (s x : St) : sumS s x = sumS x s := by
  have h : ∀ a b : Nat, add32 a b = add32 b a := fun a b => by
    show (a + b) % 4294967296 = (b + a) % 4294967296
    rw [Nat.add_comm]
  simp only [sumS, St.mk.injEq]
  exact ⟨h _ _, h _ _, h _ _, h _ _, h _ _, h _ _, h _ _, h _ _⟩
theorem add32_assoc (a b c : Nat) : add32 (add32 a b) c = add32 a (add32 b c) := by
  show ((a + b) % 4294967296 + c) % 4294967296 = (a + (b + c) % 4294967296) % 4294967296
  omega
theorem sub_bits {e : Nat} (he : e < 4294967296) : ((4294967295 : Int) - (e : Int)) % 4294967296 = ((Nat.sub 4294967295 e : Nat) : Int) := by
  have : Nat.sub 4294967295 e = 4294967295 - e := rfl
  rw [this]
  omega
theorem zero64_one : zero64.all (·.oneCell') = true := by rw [zero64_eq []]; exact u32s_one _
theorem rsum7 (x y : Int) : x + y = y + x := Int.add_comm x y
set_option maxHeartbeats 4000000
set_option maxRecDepth 100000
theorem rstep_any (x : St) (hx : x.ok) (blk : List Nat) (w : World) (hl : blk.length = 64) (hb : ∀ i, blk.getD i 0 < 256) :
    Calls Tryz.prog 58 #[.agg (yArr x), .agg (u8s blk)] w fun e w' => e = .returned (.agg (yArr (sumS (rnds x ks (sched (w16 blk) 48) 64) x))) ∧ w.grownBy w' none := by
  have HL := Lib.hid hl
  have HB := Lib.hid hb
  have HX := Lib.hid hx
  clear hl hb hx
  have a0 : Whole (((w.alloc (.cells (yArr x) 111)).alloc (.cells (u8s blk) 113)).alloc (.cells zero8 111)) w.heap.size 111 (yArr x) := ((Whole.fresh _ _ _).alloc _).alloc _
  have b0 : Whole (((w.alloc (.cells (yArr x) 111)).alloc (.cells (u8s blk) 113)).alloc (.cells zero8 111)) (w.heap.size + 1) 113 (u8s blk) := (Whole.fresh_at _ _ _ (by simp)).alloc _
  have r0 : Whole (((w.alloc (.cells (yArr x) 111)).alloc (.cells (u8s blk) 113)).alloc (.cells zero8 111)) (w.heap.size + 2) 111 zero8 := Whole.fresh_at _ _ _ (by simp)
  have g0 : w.grownBy (((w.alloc (.cells (yArr x) 111)).alloc (.cells (u8s blk) 113)).alloc (.cells zero8 111)) none := grown_alloc (grown_alloc (grown_alloc (grown_refl _ _) _) _) _
  have z0 : (((w.alloc (.cells (yArr x) 111)).alloc (.cells (u8s blk) 113)).alloc (.cells zero8 111)).heap.size = w.heap.size + 3 := by simp
  unfold zero8 at a0 b0 r0 g0 z0
  have HZ0 := Lib.hid z0
  clear z0
  go_enter Tryz.func58, Tryz.ntmps58
  go_wp2_with (go_at_call 120; refine (rconst_any _).mono ?_)
  rintro e w1 ⟨rfl, hg1⟩
  have hz1 := hg1.size
  rw [HZ0.out] at hz1
  have a1 := a0.grown hg1 (by simp)
  have b1 := b0.grown hg1 (by simp)
  have r1 := r0.grown hg1 (by simp)
  have g1 := g0.trans hg1
  clear g0 a0 b0 r0 hg1
  have k2 : Whole (w1.alloc (.cells zero64 205)) w1.heap.size 205 zero64 := Whole.fresh _ _ _
  have a2 := a1.alloc (.cells zero64 205)
  have b2 := b1.alloc (.cells zero64 205)
  have r2 := r1.alloc (.cells zero64 205)
  have g2 := grown_alloc g1 (.cells zero64 205)
  have la := a1.lt
  have lb := b1.lt
  have lr := r1.lt
  clear a1 b1 r1
  unfold zero64 at k2 a2 b2 r2 g2
  go_wp2_with (first
    | (refine store_whole rfl _ _ rfl rfl rfl (by rw [u32s_size, ks_len]; exact size64) k2 (by rw [u32s_size, ks_len]; rfl) (u32s_one _) ?_
       have k3 := k2.rowAt (u32s ks)
       have a3 := a2.row_aside (g' := w1.heap.size) (by omega) (u32s ks)
       have b3 := b2.row_aside (g' := w1.heap.size) (by omega) (u32s ks)
       have r3 := r2.row_aside (g' := w1.heap.size) (by omega) (u32s ks)
       have g3 := grown_row (g := w1.heap.size) g2 (.inr (by omega)) (u32s ks)
       clear k2 a2 b2 r2 g2
       have lk := k3.lt
       generalize World.setRow _ _ _ = w3 at k3 a3 b3 r3 g3 lk ⊢)
    | (have m4 := Whole.fresh w3 205 zero64
       have k4 := k3.alloc (.cells zero64 205)
       have a4 := a3.alloc (.cells zero64 205)
       have b4 := b3.alloc (.cells zero64 205)
       have r4 := r3.alloc (.cells zero64 205)
       have g4 := grown_alloc g3 (.cells zero64 205)
       unfold zero64 at m4 k4 a4 b4 r4 g4
       refine store_whole (cs' := zero64) rfl _ _ rfl rfl rfl size64 m4 rfl zero64_one ?_
       clear k3 a3 b3 r3
       have m5 := m4.rowAt zero64
       have k5 := k4.row_aside (g' := w3.heap.size) (by omega) zero64
       have a5 := a4.row_aside (g' := w3.heap.size) (by omega) zero64
       have b5 := b4.row_aside (g' := w3.heap.size) (by omega) zero64
       have r5 := r4.row_aside (g' := w3.heap.size) (by omega) zero64
       have g5 := grown_row (g := w3.heap.size) g4 (.inr (by have := g3.size; omega)) zero64
       clear k4 a4 b4 r4 m4 g4
       generalize World.setRow _ _ _ = w5 at m5 k5 a5 b5 r5 g5 ⊢))
  clear g1 g3
  have hr5 : ∃ z, z.size = 8 ∧ Whole w5 (w.heap.size + 2) 111 z := ⟨_, rfl, r5⟩
  clear r5
  rw [zero64_eq blk, ← trow_lo (show (0 : Nat) < 16 by omega)] at m5
  have n1 : w.heap.size + 3 ≤ w3.heap.size := by omega
  have n2 : w1.heap.size < w3.heap.size := lk
  clear la lb lr lk
  go_loopw [7] (fun i wr => ∃ t : Nat, t ≤ 64 ∧ i = .int .i64 t ∧ Whole wr w3.heap.size 205 (u32s (trow blk t)) ∧ Whole wr (w.heap.size + 1) 113 (u8s blk) ∧ Whole wr w1.heap.size 205 (u32s ks) ∧ Whole wr w.heap.size 111 (yArr x) ∧ (∃ z, z.size = 8 ∧ Whole wr (w.heap.size + 2) 111 z) ∧ w.grownBy wr none) (fun i _ => 64 - (intOf i).toNat)
  case atStart => exact ⟨0, by omega, rfl, m5, b5, k5, a5, hr5, g5⟩
  case round =>
    clear m5 b5 k5 a5 hr5 g5
    obtain ⟨t, ht, rfl, hm, hbl, hk, ha, ⟨z, hz, hr⟩, hg⟩ := hrel
    have HZ := Lib.hid hz
    clear hz
    by_cases hlt : t < 64
    · have e1 : ((t : Int) < 64) = True := eq_true (by omega)
      by_cases h16 : t < 16
      · have e2 : ((t : Int) < 16) = True := eq_true (by omega)
        have c0 := hbl.cell (4 * t)
        have c1 := hbl.cell (4 * t + 1)
        have c2 := hbl.cell (4 * t + 2)
        have c3 := hbl.cell (4 * t + 3)
        rw [u8s_get (by rw [HL.out]; omega)] at c0 c1 c2 c3
        have l0 := HB.out (4 * t)
        have l1 := HB.out (4 * t + 1)
        have l2 := HB.out (4 * t + 2)
        have l3 := HB.out (4 * t + 3)
        have hset := wrow_full (blk := blk) (i := t) (by omega)
        rw [← trow_lo h16, ← trow_up h16] at hset
        obtain ⟨X1, X2, y1, y2, y3⟩ := word_at HB.out t
        generalize pw blk t 4 = X3 at y3 hset
        generalize blk.getD (4 * t) 0 = x0 at c0 l0 y1 y2 y3
        generalize blk.getD (4 * t + 1) 0 = x1 at c1 l1 y1 y2 y3
        generalize blk.getD (4 * t + 2) 0 = x2 at c2 l2 y1 y2 y3
        generalize blk.getD (4 * t + 3) 0 = x3 at c3 l3 y1 y2 y3
        have o0 : ((x0 : Int) % 4294967296) = x0 := by omega
        have o1 : ((x1 : Int) % 4294967296) = x1 := by omega
        have o2 : ((x2 : Int) % 4294967296) = x2 := by omega
        have o3 : ((x3 : Int) % 4294967296) = x3 := by omega
        clear l0 l1 l2 l3
        have HS := Lib.hid hset
        clear hset
        have i0 : (4 * (t : Int)).toNat = 4 * t := by omega
        have i1 : (4 * (t : Int) + 1).toNat = 4 * t + 1 := by omega
        have i2 : (4 * (t : Int) + 2).toNat = 4 * t + 2 := by omega
        have i3 : (4 * (t : Int) + 3).toNat = 4 * t + 3 := by omega
        have u0 : IntKind.i64.wrap (4 * (t : Int)) = 4 * (t : Int) := IntWalk.i64_in _ (by omega)
        have u1 : IntKind.i64.wrap (4 * (t : Int) + 1) = 4 * (t : Int) + 1 := IntWalk.i64_in _ (by omega)
        have u2 : IntKind.i64.wrap (4 * (t : Int) + 2) = 4 * (t : Int) + 2 := IntWalk.i64_in _ (by omega)
        have u3 : IntKind.i64.wrap (4 * (t : Int) + 3) = 4 * (t : Int) + 3 := IntWalk.i64_in _ (by omega)
        have p0 : (0 ≤ 4 * (t : Int)) = True := eq_true (by omega)
        have p1 : (0 ≤ 4 * (t : Int) + 1) = True := eq_true (by omega)
        have p2 : (0 ≤ 4 * (t : Int) + 2) = True := eq_true (by omega)
        have p3 : (0 ≤ 4 * (t : Int) + 3) = True := eq_true (by omega)
        have q0 : (4 * (t : Int) < 64) = True := eq_true (by omega)
        have q1 : (4 * (t : Int) + 1 < 64) = True := eq_true (by omega)
        have q2 : (4 * (t : Int) + 2 < 64) = True := eq_true (by omega)
        have q3 : (4 * (t : Int) + 3 < 64) = True := eq_true (by omega)
        have v3 : (0 ≤ (t : Int)) = True := eq_true (by omega)
        have HH16 := Lib.hid h16
        clear h16
        go_wp2_with fail
        refine Qt.wp_region_quiet_tail 31 (by kernel_rfl) (by kernel_rfl) ?_
        simp only [List.take_succ_cons, List.take_zero, List.drop_succ_cons, List.drop_zero]
        repeat (go_big_quiet_step (fail))
        refine wpQuiet_nil ?_
        rintro _ ⟨nq, rfl⟩
        have hm := hm.drewN nq
        have hbl := hbl.drewN nq
        have hk := hk.drewN nq
        have ha := ha.drewN nq
        have hr := hr.drewN nq
        have hg := grown_drewN hg nq
        clear c0 c1 c2 c3
        generalize wr.drewN nq = w6 at hm hbl hk ha hr hg ⊢
        have ct := hm.cell t
        rw [u32s_get (by rw [trow_len ht]; omega)] at ct
        have f0 := hm.thaw t
        generalize (trow blk t).getD t 0 = Z at ct
        go_wp2_with fail
        go_roundw
        case rel =>
          refine ⟨t + 1, by omega, by go_num, ?_, hbl.aside (by simp; omega) _, hk.aside (by simp; omega) _, ha.aside (by simp; omega) _, ⟨z, HZ.out, hr.aside (by simp; omega) _⟩, grown_set hg (.inr (by simp; omega)) _⟩
          rw [← HS.out, ← u32s_set]
          exact hm.set_ t _
        case measure => simp [intOf]; omega
      · have e2 : ((t : Int) < 16) = False := eq_false (by omega)
        have h16 : 16 ≤ t := by omega
        obtain ⟨a, haq⟩ : ∃ a, t = a + 2 := ⟨t - 2, by omega⟩
        obtain ⟨b, hbq⟩ : ∃ b, t = b + 15 := ⟨t - 15, by omega⟩
        obtain ⟨c, hcq⟩ : ∃ c, t = c + 7 := ⟨t - 7, by omega⟩
        obtain ⟨d, hdq⟩ : ∃ d, t = d + 16 := ⟨t - 16, by omega⟩
        have ea : (t : Int) - 2 = (a : Int) := by omega
        have eb : (t : Int) - 15 = (b : Int) := by omega
        have ec : (t : Int) - 7 = (c : Int) := by omega
        have ed : (t : Int) - 16 = (d : Int) := by omega
        have wa : IntKind.i64.wrap (a : Int) = (a : Int) := IntWalk.i64_in _ (by omega)
        have wb : IntKind.i64.wrap (b : Int) = (b : Int) := IntWalk.i64_in _ (by omega)
        have wc : IntKind.i64.wrap (c : Int) = (c : Int) := IntWalk.i64_in _ (by omega)
        have wd : IntKind.i64.wrap (d : Int) = (d : Int) := IntWalk.i64_in _ (by omega)
        have la : (a : Int) < 64 := by omega
        have lb : (b : Int) < 64 := by omega
        have lc : (c : Int) < 64 := by omega
        have ld : (d : Int) < 64 := by omega
        rw [trow_hi h16] at hm
        have ca := hm.cell a
        have cb := hm.cell b
        have cc := hm.cell c
        have cd := hm.cell d
        rw [u32s_get (by rw [srow_len h16 ht]; omega), srow_get h16 (by omega)] at ca cb cc cd
        have hset := srow_set (blk := blk) h16 hlt
        have hnx : next (sched (w16 blk) (t - 16)) t = add32 (add32 (add32 (sig1 ((sched (w16 blk) (t - 16)).getD a 0)) ((sched (w16 blk) (t - 16)).getD c 0)) (sig0 ((sched (w16 blk) (t - 16)).getD b 0))) ((sched (w16 blk) (t - 16)).getD d 0) := by
          unfold next
          rw [show t - 2 = a by omega, show t - 7 = c by omega, show t - 15 = b by omega, show t - 16 = d by omega]
        rw [hnx] at hset
        have lA := sched_lt (w16_lt HB.out) (t - 16) a
        have lB := sched_lt (w16_lt HB.out) (t - 16) b
        clear hnx
        generalize (sched (w16 blk) (t - 16)).getD a 0 = A at ca hset lA
        generalize (sched (w16 blk) (t - 16)).getD b 0 = Bq at cb hset lB
        generalize (sched (w16 blk) (t - 16)).getD c 0 = Cq at cc hset
        generalize (sched (w16 blk) (t - 16)).getD d 0 = Dq at cd hset
        obtain ⟨x1, x2⟩ := xor_sig1 lA
        obtain ⟨y1, y2⟩ := xor_sig0 lB
        have lA := Lib.hid lA
        have lB := Lib.hid lB
        generalize sig1 A = S1 at x2 hset
        generalize sig0 Bq = S0 at y2 hset
        generalize Nat.xor (rot A 17) (rot A 19) = X1 at x1 x2
        generalize Nat.xor (rot Bq 7) (rot Bq 18) = Y1 at y1 y2
        have hset := Lib.hid hset
        have Ha := Lib.hid haq
        have Hb := Lib.hid hbq
        have Hc := Lib.hid hcq
        have Hd := Lib.hid hdq
        have H16 := Lib.hid h16
        clear haq hbq hcq hdq
        go_wp2_with fail
        go_quiet (fail)
        have hm := hm.drewN nq
        have hbl := hbl.drewN nq
        have hk := hk.drewN nq
        have ha := ha.drewN nq
        have hr := hr.drewN nq
        have hg := grown_drewN hg nq
        have cc : (wr.drewN nq).cell? ⟨w3.heap.size, c, none⟩ = some (.int .u32 (Cq : Int)) := cc
        have cd : (wr.drewN nq).cell? ⟨w3.heap.size, d, none⟩ = some (.int .u32 (Dq : Int)) := cd
        clear ca cb
        generalize wr.drewN nq = w5' at hm hbl hk ha hr hg cc cd ⊢
        go_wp2_with fail
        refine Qt.wp_region_quiet_tail 29 (by kernel_rfl) (by kernel_rfl) ?_
        simp only [List.take_succ_cons, List.take_zero, List.drop_succ_cons, List.drop_zero]
        repeat (go_big_quiet_step ((go_at_call 121; first
          | (with_reducible refine Calls.quiet_of (rturn17 _ lA.out _))
          | (with_reducible refine Calls.quiet_of (rturn19 _ lA.out _))
          | (with_reducible refine Calls.quiet_of (rturn7 _ lB.out _))
          | (with_reducible refine Calls.quiet_of (rturn18 _ lB.out _)))))
        refine wpQuiet_nil ?_
        rintro _ ⟨nq2, rfl⟩
        have hm := hm.drewN nq2
        have hbl := hbl.drewN nq2
        have hk := hk.drewN nq2
        have ha := ha.drewN nq2
        have hr := hr.drewN nq2
        have hg := grown_drewN hg nq2
        clear cc cd x1 x2 y1 y2
        generalize w5'.drewN nq2 = w6 at hm hbl hk ha hr hg ⊢
        have ct := hm.cell t
        rw [u32s_get (by rw [srow_len h16 ht]; omega)] at ct
        have f0 := hm.thaw t
        generalize (srow blk t).getD t 0 = Z at ct
        clear ea eb ec ed wa wb wc wd la lb lc ld
        go_wp2_with fail
        go_roundw
        case rel =>
          refine ⟨t + 1, by omega, by go_num, ?_, hbl.aside (by simp; omega) _, hk.aside (by simp; omega) _, ha.aside (by simp; omega) _, ⟨z, HZ.out, hr.aside (by simp; omega) _⟩, grown_set hg (.inr (by simp; omega)) _⟩
          rw [trow_hi (by omega), ← hset.out, ← u32s_set, ← add32_4]
          exact hm.set_ t _
        case measure => simp [intOf]; omega
    · have e1 : ((t : Int) < 64) = False := eq_false (by omega)
      have h64 : t = 64 := by omega
      rw [h64, trow_hi (by omega), srow_last] at hm
      have HT := Lib.hid h64
      clear h64
      have hlen : (sched (w16 blk) 48).length = 64 := by rw [sched_len, w16_len]
      obtain ⟨ws, hws⟩ : ∃ ws, ws = sched (w16 blk) 48 := ⟨_, rfl⟩
      rw [← hws] at hm hlen
      have HW := Lib.hid hws
      have HLn := Lib.hid hlen
      clear hws hlen hbl
      have l3 := hm.lt
      have y6 := Whole.fresh wr 111 zero8
      have m6 := hm.alloc (.cells zero8 111)
      have k6 := hk.alloc (.cells zero8 111)
      have a6 := ha.alloc (.cells zero8 111)
      have r6 := hr.alloc (.cells zero8 111)
      have g6 := grown_alloc hg (.cells zero8 111)
      unfold zero8 at y6 m6 k6 a6 r6 g6
      go_wp2_with (first
        | (refine load_whole (cs := yArr x) rfl _ rfl 8 _ Tryz.underlying111 size8u rfl ha ?_)
        | (refine store_whole (cs' := yArr x) rfl _ _ rfl rfl rfl size8u y6 rfl (yArr_one _) ?_
           have y7 := y6.rowAt (yArr x)
           have m7 := m6.row_aside (g' := wr.heap.size) (by omega) (yArr x)
           have k7 := k6.row_aside (g' := wr.heap.size) (by omega) (yArr x)
           have a7 := a6.row_aside (g' := wr.heap.size) (by omega) (yArr x)
           have r7 := r6.row_aside (g' := wr.heap.size) (by omega) (yArr x)
           have g7 := grown_row (g := wr.heap.size) g6 (.inr (by have := hg.size; omega)) (yArr x)
           clear y6 m6 k6 a6 r6 g6 hm hk ha hr
           generalize World.setRow _ _ _ = w7 at y7 m7 k7 a7 r7 g7 ⊢))
      have n3 : w3.heap.size < wr.heap.size := l3
      have n4 := hg.size
      clear l3 hg
      generalize hnx : wr.heap.size = nx at y7 m7 k7 a7 r7 g7 n3 n4 ⊢
      clear hnx
      go_loopw [11] (fun i wq => ∃ t : Nat, t ≤ 64 ∧ i = .int .i64 t ∧ Whole wq nx 111 (yArr (rnds x ks ws t)) ∧ Whole wq w1.heap.size 205 (u32s ks) ∧ Whole wq w3.heap.size 205 (u32s ws) ∧ Whole wq w.heap.size 111 (yArr x) ∧ Whole wq (w.heap.size + 2) 111 z ∧ w.grownBy wq none) (fun i _ => 64 - (intOf i).toNat)
      case atStart => exact ⟨0, by omega, rfl, y7, k7, m7, a7, r7, g7⟩
      case round =>
        clear y7 k7 m7 a7 r7 g7
        obtain ⟨t, ht, rfl, hy, hk, hm, ha, hr, hg⟩ := hrel
        by_cases hlt : t < 64
        · have e1 : ((t : Int) < 64) = True := eq_true (by omega)
          have hsok := rnds_ok ks ws HX.out t
          have hnext : rnds x ks ws (t + 1) = rnd (rnds x ks ws t) (ks.getD t 0) (ws.getD t 0) := rfl
          generalize rnds x ks ws t = s at hy hsok hnext
          have ck := hk.cell t
          have cw := hm.cell t
          rw [u32s_get (by rw [ks_len]; omega)] at ck
          rw [u32s_get (by rw [HLn.out]; omega)] at cw
          generalize ks.getD t 0 = kt at ck hnext
          generalize ws.getD t 0 = wt at cw hnext
          obtain ⟨a, b, c, d, e, f, g, h8⟩ := s
          obtain ⟨la, lb, lc, ld, le, lf, lg, lh⟩ := hsok
          simp only at la lb lc ld le lf lg lh
          obtain ⟨x1, x2⟩ := big1_bits le
          obtain ⟨y1, y2⟩ := big0_bits la
          obtain ⟨v1, v2, v3⟩ := chf_bits le lf lg
          have v0 := sub_bits le
          obtain ⟨m1, m2, m3, m4, m5⟩ := maj_bits la lb lc
          have lA := Lib.hid la
          have lE := Lib.hid le
          clear la lb lc ld le lf lg lh
          have hn2 : rnd ⟨a, b, c, d, e, f, g, h8⟩ kt wt = ⟨add32 (add32 (add32 (add32 (add32 h8 (big1 e)) (chf e f g)) kt) wt) (add32 (big0 a) (maj a b c)), a, b, c, add32 d (add32 (add32 (add32 (add32 h8 (big1 e)) (chf e f g)) kt) wt), e, f, g⟩ := by
            rw [← add32_assoc]
            rfl
          rw [hn2] at hnext
          generalize big1 e = B1 at x2 hnext
          generalize big0 a = B0 at y2 hnext
          generalize chf e f g = CH at v3 hnext
          generalize maj a b c = MJ at m5 hnext
          generalize Nat.xor (rot e 6) (rot e 11) = X1 at x1 x2
          generalize Nat.xor (rot a 2) (rot a 13) = Y1 at y1 y2
          generalize Nat.land e f = L1 at v1 v3
          generalize Nat.land (Nat.sub 4294967295 e) g = L2 at v2 v3
          generalize Nat.sub 4294967295 e = NE at v0 v2
          generalize Nat.xor (Nat.land a b) (Nat.land a c) = L3 at m4 m5
          generalize Nat.land a b = L4 at m1 m4
          generalize Nat.land a c = L5 at m2 m4
          generalize Nat.land b c = L6 at m3 m5
          have HN := Lib.hid hnext
          clear hnext hn2
          have c0 : wr.cell? ⟨nx, 0, none⟩ = some (.int .u32 (a : Int)) := hy.cell 0
          have c4 : wr.cell? ⟨nx, 4, none⟩ = some (.int .u32 (e : Int)) := hy.cell 4
          go_wp2_with fail
          go_quiet (fail)
          have hy := hy.drewN nq
          have hk := hk.drewN nq
          have hm := hm.drewN nq
          have ha := ha.drewN nq
          have hr := hr.drewN nq
          have hg := grown_drewN hg nq
          have ck' : (wr.drewN nq).cell? ⟨w1.heap.size, t, none⟩ = some (.int .u32 (kt : Int)) := ck
          have cw' : (wr.drewN nq).cell? ⟨w3.heap.size, t, none⟩ = some (.int .u32 (wt : Int)) := cw
          clear ck cw c0 c4
          generalize wr.drewN nq = w6 at hy hk hm ha hr hg ck' cw' ⊢
          have c5 : w6.cell? ⟨nx, 5, none⟩ = some (.int .u32 (f : Int)) := hy.cell 5
          have c6 : w6.cell? ⟨nx, 6, none⟩ = some (.int .u32 (g : Int)) := hy.cell 6
          have c7 : w6.cell? ⟨nx, 7, none⟩ = some (.int .u32 (h8 : Int)) := hy.cell 7
          go_wp2_with fail
          go_quiet ((go_at_call 121; first
            | (with_reducible refine Calls.quiet_of (rturn6 _ lE.out _))
            | (with_reducible refine Calls.quiet_of (rturn11 _ lE.out _))
            | (with_reducible refine Calls.quiet_of (rturn25 _ lE.out _))))
          have hy := hy.drewN nq
          have hk := hk.drewN nq
          have hm := hm.drewN nq
          have ha := ha.drewN nq
          have hr := hr.drewN nq
          have hg := grown_drewN hg nq
          clear c5 c6 c7 ck' cw'
          generalize w6.drewN nq = w7' at hy hk hm ha hr hg ⊢
          have c1 : w7'.cell? ⟨nx, 1, none⟩ = some (.int .u32 (b : Int)) := hy.cell 1
          have c2 : w7'.cell? ⟨nx, 2, none⟩ = some (.int .u32 (c : Int)) := hy.cell 2
          go_wp2_with fail
          go_quiet ((go_at_call 121; first
            | (with_reducible refine Calls.quiet_of (rturn2 _ lA.out _))
            | (with_reducible refine Calls.quiet_of (rturn13 _ lA.out _))
            | (with_reducible refine Calls.quiet_of (rturn22 _ lA.out _))))
          have hy := hy.drewN nq
          have hk := hk.drewN nq
          have hm := hm.drewN nq
          have ha := ha.drewN nq
          have hr := hr.drewN nq
          have hg := grown_drewN hg nq
          clear c1 c2
          generalize w7'.drewN nq = w8 at hy hk hm ha hr hg ⊢
          have c0 : w8.cell? ⟨nx, 0, none⟩ = some (.int .u32 (a : Int)) := hy.cell 0
          have c1 : w8.cell? ⟨nx, 1, none⟩ = some (.int .u32 (b : Int)) := hy.cell 1
          have c2 : w8.cell? ⟨nx, 2, none⟩ = some (.int .u32 (c : Int)) := hy.cell 2
          have c3 : w8.cell? ⟨nx, 3, none⟩ = some (.int .u32 (d : Int)) := hy.cell 3
          have c4 : w8.cell? ⟨nx, 4, none⟩ = some (.int .u32 (e : Int)) := hy.cell 4
          have c5 : w8.cell? ⟨nx, 5, none⟩ = some (.int .u32 (f : Int)) := hy.cell 5
          have c6 : w8.cell? ⟨nx, 6, none⟩ = some (.int .u32 (g : Int)) := hy.cell 6
          go_wp2_with (refine store_whole (cs' := yArr (rnds x ks ws (t + 1))) rfl _ _ rfl rfl ?hv size8u hy rfl (yArr_one _) ?_)
          case hv =>
            rw [HN.out]
            simp [Act.eval, yArr, ← add32_int]
          go_roundw
          case rel =>
            exact ⟨t + 1, by omega, by go_num, hy.rowAt _, hk.row_aside (by omega) _, hm.row_aside (by omega) _, ha.row_aside (by omega) _, hr.row_aside (by omega) _, grown_row hg (.inr (by omega)) _⟩
          case measure => simp [intOf]; omega
        · have e1 : ((t : Int) < 64) = False := eq_false (by omega)
          have h64 : t = 64 := by omega
          rw [h64] at hy
          have HT2 := Lib.hid h64
          clear h64
          obtain ⟨y, hyy⟩ : ∃ y, y = rnds x ks ws 64 := ⟨_, rfl⟩
          rw [← hyy, yArr_list] at hy
          have HY := Lib.hid hyy
          clear hyy
          rw [yArr_list, ← sumL_zero x y] at ha
          clear hk hm
          go_wp2_with fail
          go_loopw [16] (fun i wq => ∃ k : Nat, k ≤ 8 ∧ i = .int .i64 k ∧ Whole wq w.heap.size 111 (u32s (sumL x y k)) ∧ Whole wq nx 111 (u32s y.list) ∧ Whole wq (w.heap.size + 2) 111 z ∧ w.grownBy wq none) (fun i _ => 8 - (intOf i).toNat)
          case atStart => exact ⟨0, by omega, rfl, ha, hy, hr, hg⟩
          case round =>
            clear ha hy hr hg
            obtain ⟨k, hk, rfl, ha, hy, hr, hg⟩ := hrel
            by_cases hlt8 : k < 8
            · have e2 : ((k : Int) < 8) = True := eq_true (by omega)
              have v3 : (0 ≤ (k : Int)) = True := eq_true (by omega)
              have ca := ha.cell k
              have cy := hy.cell k
              rw [u32s_get (by rw [sumL_len]; omega), sumL_get hlt8] at ca
              rw [u32s_get (by rw [list_len]; omega)] at cy
              have hset := sumL_set (y := x) (x := y) hlt8
              generalize x.list.getD k 0 = xk at ca hset
              generalize y.list.getD k 0 = yk at cy hset
              have HS := Lib.hid hset
              clear hset
              go_wp2_with fail
              refine Qt.wp_region_quiet_tail 8 (by kernel_rfl) (by kernel_rfl) ?_
              simp only [List.take_succ_cons, List.take_zero, List.drop_succ_cons, List.drop_zero]
              repeat (go_big_quiet_step (fail))
              refine wpQuiet_nil ?_
              rintro _ ⟨nq, rfl⟩
              have hy := hy.drewN nq
              have ha := ha.drewN nq
              have hr := hr.drewN nq
              have hg := grown_drewN hg nq
              clear ca cy
              generalize wr.drewN nq = w6 at hy ha hr hg ⊢
              have ct := ha.cell k
              rw [u32s_get (by rw [sumL_len]; omega)] at ct
              have f0 := ha.thaw k
              generalize (sumL x y k).getD k 0 = Z at ct
              go_wp2_with fail
              go_roundw
              case rel =>
                refine ⟨k + 1, by omega, by go_num, ?_, hy.aside (by first | (simp; done) | (simp; omega)) _, hr.aside (by first | (simp; done) | (simp; omega)) _, grown_set hg (.inr (by simp)) _⟩
                rw [← HS.out, ← u32s_set, ← add32_int]
                exact ha.set_ k _
              case measure => simp [intOf]; omega
            · have e2 : ((k : Int) < 8) = False := eq_false (by omega)
              have h8 : k = 8 := by omega
              rw [h8, sumL_last, ← yArr_list] at ha
              have HK := Lib.hid h8
              clear h8
              go_wp2_with (first
                | (refine load_whole (cs := yArr (sumS x y)) rfl _ rfl 8 _ Tryz.underlying111 size8u rfl ha ?_)
                | (refine store_whole rfl _ _ rfl rfl rfl size8u hr HZ.out (yArr_one _) ?_))
              refine bodyPost_ret (results_cell_row rfl _ _ (w.heap.size + 2) _ (yArr (sumS x y)) (0, 0) _ rfl (hr.rowAt _) Tryz.underlying111 rfl size8u) rfl ⟨by rw [sumS_comm x y, HY.out, HW.out], grown_row hg (.inr (by omega)) _⟩
end Sh
end Go.Proofs.YtoaimjielnempaaGreatDoor
