/- The words of a block. -/
import Derived.Test.YtoaimjielnempaaGreatDoorShC
import Derived.StillTailTactics
import Derived.Test.YtoaimjielnempaaGreatDoorNsG
namespace Go.Proofs.YtoaimjielnempaaGreatDoor
set_option linter.unusedVariables false
set_option linter.unusedSimpArgs false
open Go.RowKit Go.Maps
namespace Sh
def zero64 : Array Value := #[.int .u32 0, .int .u32 0, .int .u32 0, .int .u32 0, .int .u32 0, .int .u32 0, .int .u32 0, .int .u32 0, .int .u32 0, .int .u32 0, .int .u32 0, .int .u32 0, .int .u32 0, .int .u32 0, .int .u32 0, .int .u32 0,
  .int .u32 0, .int .u32 0, .int .u32 0, .int .u32 0, .int .u32 0, .int .u32 0, .int .u32 0, .int .u32 0, .int .u32 0, .int .u32 0, .int .u32 0, .int .u32 0, .int .u32 0, .int .u32 0, .int .u32 0, .int .u32 0,
  .int .u32 0, .int .u32 0, .int .u32 0, .int .u32 0, .int .u32 0, .int .u32 0, .int .u32 0, .int .u32 0, .int .u32 0, .int .u32 0, .int .u32 0, .int .u32 0, .int .u32 0, .int .u32 0, .int .u32 0, .int .u32 0,
  .int .u32 0, .int .u32 0, .int .u32 0, .int .u32 0, .int .u32 0, .int .u32 0, .int .u32 0, .int .u32 0, .int .u32 0, .int .u32 0, .int .u32 0, .int .u32 0, .int .u32 0, .int .u32 0, .int .u32 0, .int .u32 0]
theorem zero64_eq (blk : List Nat) : zero64 = u32s (wrow blk 0 0) := by
  have h : wrow blk 0 0 = List.replicate 64 0 := by
    unfold wrow
    rw [List.eq_replicate_iff]
    refine ⟨by simp, fun b hb => ?_⟩
    obtain ⟨k, _, rfl⟩ := List.mem_map.1 hb
    rw [if_neg (by omega)]
    split <;> rfl
  rw [h]
  rfl
theorem pw_bits {blk : List Nat} (hb : ∀ i, blk.getD i 0 < 256) {i j : Nat} (hj : j < 4) :
    bits BinOp.or IntKind.u32 (((pw blk i j : Nat) : Int) * 256 % 4294967296) ((blk.getD (4 * i + j) 0 : Nat) : Int) = ((pw blk i (j + 1) : Nat) : Int) := by
  have h1 := pw_lt hb i j (by omega)
  have h2 : (256 : Nat) ^ j ≤ 256 ^ 3 := Nat.pow_le_pow_right (by decide) (by omega)
  have h3 := hb (4 * i + j)
  have h4 : (((pw blk i j : Nat) : Int) * 256 % 4294967296) = ((pw blk i j * 256 : Nat) : Int) := by
    have : pw blk i j * 256 < 4294967296 := by omega
    omega
  rw [h4, u32_or_nat _ _ (by omega) (by omega)]
  rfl
theorem gd_left {l r : List Nat} {i : Nat} (h : i < l.length) : (l ++ r).getD i 0 = l.getD i 0 := by simp [List.getD, List.getElem?_append_left h]
theorem gd_right {l r : List Nat} {i : Nat} (h : l.length ≤ i) : (l ++ r).getD i 0 = r.getD (i - l.length) 0 := by simp [List.getD, List.getElem?_append_right h]
theorem gd_none {l : List Nat} {i : Nat} (h : l.length ≤ i) : l.getD i 0 = 0 := by simp [List.getD, List.getElem?_eq_none h]
theorem sched_len (l : List Nat) : ∀ n, (sched l n).length = l.length + n
  | 0 => rfl
  | n + 1 => by simp [sched, sched_len l n]; omega
theorem sched_lt {l : List Nat} (h : ∀ i, l.getD i 0 < 4294967296) : ∀ n i, (sched l n).getD i 0 < 4294967296
  | 0, i => h i
  | n + 1, i => by
    unfold sched
    by_cases h1 : i < (sched l n).length
    · rw [gd_left h1]
      exact sched_lt h n i
    · rw [gd_right (by omega)]
      by_cases h2 : i - (sched l n).length = 0
      · rw [h2]
        exact add_lt _ _
      · rw [gd_none (by simp; omega)]
        decide
def w16 (blk : List Nat) : List Nat := (List.range 16).map fun k => pw blk k 4
def srow (blk : List Nat) (t : Nat) : List Nat := sched (w16 blk) (t - 16) ++ List.replicate (64 - t) 0
theorem w16_len (blk : List Nat) : (w16 blk).length = 16 := by simp [w16]
theorem srow_first (blk : List Nat) : wrow blk 16 0 = srow blk 16 := by
  unfold srow
  show wrow blk 16 0 = w16 blk ++ List.replicate 48 0
  apply List.ext_getElem
  · simp [wrow, w16]
  · intro k h1 h2
    have hk : k < 64 := by simpa [wrow] using h1
    rw [List.getElem_append]
    simp only [wrow, List.getElem_map, List.getElem_range, w16_len, List.getElem_replicate]
    by_cases h : k < 16
    · rw [if_pos h, dif_pos h]
      simp [w16]
    · rw [if_neg h, dif_neg h]
      split <;> rfl
theorem srow_get {blk : List Nat} {t i : Nat} (ht : 16 ≤ t) (hi : i < t) : (srow blk t).getD i 0 = (sched (w16 blk) (t - 16)).getD i 0 := by
  unfold srow
  rw [gd_left]
  rw [sched_len, w16_len]
  omega
theorem srow_len {blk : List Nat} {t : Nat} (ht : 16 ≤ t) (h : t ≤ 64) : (srow blk t).length = 64 := by
  unfold srow
  rw [List.length_append, sched_len, w16_len, List.length_replicate]
  omega
theorem srow_set {blk : List Nat} {t : Nat} (ht : 16 ≤ t) (h : t < 64) : (srow blk t).set t (next (sched (w16 blk) (t - 16)) t) = srow blk (t + 1) := by
  unfold srow
  obtain ⟨n, rfl⟩ : ∃ n, t = 16 + n := ⟨t - 16, by omega⟩
  have h1 : 16 + n - 16 = n := by omega
  have h2 : 16 + n + 1 - 16 = n + 1 := by omega
  have h3 : (sched (w16 blk) n).length = 16 + n := by rw [sched_len, w16_len]
  rw [h1, h2, List.set_append_right _ _ (by omega), h3, Nat.sub_self]
  have h4 : 64 - (16 + n) = (64 - (16 + n + 1)) + 1 := by omega
  rw [h4, List.replicate_succ, List.set_cons_zero]
  simp [sched]
theorem srow_last (blk : List Nat) : srow blk 64 = sched (w16 blk) 48 := by simp [srow]
theorem w16_lt {blk : List Nat} (hb : ∀ i, blk.getD i 0 < 256) (i : Nat) : (w16 blk).getD i 0 < 4294967296 := by
  by_cases h : i < 16
  · have := pw_lt hb i 4 (by omega)
    simpa [w16, List.getD, h] using this
  · rw [gd_none (by rw [w16_len]; omega)]
    decide
theorem sizeByte : (Tryz.prog.info? 5).map (fun x => x.size) = some 1 := by kernel_rfl
theorem slarr_run (w : World) (b k : Nat) (hk : k < 16) : (Instr.sliceAt 113 (.pointer (some ⟨b, 0, none⟩)) (some (.int .i64 (4 * (k : Int)))) (some (.int .i64 (4 * ((k : Int) + 1)))) none).run Tryz.prog w = .ok (.slice (some ⟨b, 4 * k, none⟩) 4 (64 - 4 * k)) w := by
  obtain ⟨j, hj, hjs⟩ := Option.map_eq_some_iff.1 sizeByte
  have h1 : (4 * ((k : Int) + 1)).toNat = 4 * k + 4 := by omega
  have h2 : (4 * (k : Int)).toNat = 4 * k := by omega
  have h3 := run_sliceBound (P := Tryz.prog) w .i64 (4 * ((k : Int) + 1)) 64
  have h4 := run_sliceBound (P := Tryz.prog) w .i64 (4 * (k : Int)) (4 * k + 4)
  have h5 : (Instr.sliceBounds false 64 64 (some (.int .i64 (4 * (k : Int)))) (some (.int .i64 (4 * ((k : Int) + 1)))) none).run Tryz.prog w = .ok (4 * k, 4 * k + 4, 64) w := by
    simp [Instr.sliceBounds, run_sliceBound, h1, h2, (by omega : (0 : Int) ≤ 4 * (k : Int)), (by omega : (0 : Int) ≤ 4 * ((k : Int) + 1)), (by omega : 4 * ((k : Int) + 1) ≤ 64), (by omega : (4 * (k : Int)) ≤ 4 * k + 4)]
  have hs : (sizeOf 5).run Tryz.prog w = .ok 1 w := by simp [sizeOf, typeInfo, hj, hjs]
  simp only [Instr.sliceAt, Sem.run_bind, run_underlying Tryz.underlying113, Result.andThen_ok, Instr.sureAddr, Sem.run_pure, h5, hs]
  have h6 : ¬ 64 = 4 * k := by omega
  rw [if_neg h6]
  simp [Addr.add]
  omega
theorem xor_sig1 {A : Nat} (h : A < 4294967296) : bits BinOp.xor IntKind.u32 ((rot A 17 : Nat) : Int) ((rot A 19 : Nat) : Int) = ((Nat.xor (rot A 17) (rot A 19) : Nat) : Int) ∧
    bits BinOp.xor IntKind.u32 ((Nat.xor (rot A 17) (rot A 19) : Nat) : Int) ((A : Int) / 1024) = ((sig1 A : Nat) : Int) := by
  refine ⟨u32_xor_nat _ _ (rot_lt h) (rot_lt h), ?_⟩
  have h2 : ((A : Int) / 1024) = ((Nat.shiftRight A 10 : Nat) : Int) := by
    have : Nat.shiftRight A 10 = A / 2 ^ 10 := Nat.shiftRight_eq_div_pow A 10
    rw [this]
    simp
  rw [h2]
  exact u32_xor_nat _ _ (xor_lt (rot_lt h) (rot_lt h)) (shr_lt h)
theorem xor_sig0 {A : Nat} (h : A < 4294967296) : bits BinOp.xor IntKind.u32 ((rot A 7 : Nat) : Int) ((rot A 18 : Nat) : Int) = ((Nat.xor (rot A 7) (rot A 18) : Nat) : Int) ∧
    bits BinOp.xor IntKind.u32 ((Nat.xor (rot A 7) (rot A 18) : Nat) : Int) ((A : Int) / 8) = ((sig0 A : Nat) : Int) := by
  refine ⟨u32_xor_nat _ _ (rot_lt h) (rot_lt h), ?_⟩
  have h2 : ((A : Int) / 8) = ((Nat.shiftRight A 3 : Nat) : Int) := by
    have : Nat.shiftRight A 3 = A / 2 ^ 3 := Nat.shiftRight_eq_div_pow A 3
    rw [this]
    simp
  rw [h2]
  exact u32_xor_nat _ _ (xor_lt (rot_lt h) (rot_lt h)) (shr_lt h)
theorem add32_4 (a b c d : Nat) : ((a : Int) + (b : Int) + (c : Int) + (d : Int)) % 4294967296 = ((add32 (add32 (add32 a b) c) d : Nat) : Int) := by
  show _ = (((((a + b) % 4294967296 + c) % 4294967296 + d) % 4294967296 : Nat) : Int)
  omega
theorem size64 : (Tryz.prog.info? 205).map (·.size) = some 64 := by kernel_rfl
theorem u32s_size (l : List Nat) : (u32s l).size = l.length := by simp [u32s]
theorem u32s_one (l : List Nat) : (u32s l).all (·.oneCell') = true := by
  rw [Array.all_eq_true_iff_forall_mem]
  intro v hv
  obtain ⟨n, _, rfl⟩ : ∃ n ∈ l, Value.int .u32 (n : Int) = v := by simpa [u32s] using hv
  rfl
theorem add32_int (a b : Nat) : ((a : Int) + (b : Int)) % 4294967296 = ((add32 a b : Nat) : Int) := by
  show _ = (((a + b) % 4294967296 : Nat) : Int)
  simp
set_option maxHeartbeats 4000000
set_option maxRecDepth 100000
theorem words_any (bp : Nat) (blk : List Nat) (w : World) (hbp : Whole w bp 113 (u8s blk)) (hl : blk.length = 64) (hb : ∀ i, blk.getD i 0 < 256) :
    Calls Tryz.prog 273 #[.pointer (some ⟨bp, 0, none⟩)] w fun e w' => e = .returned (.agg (u32s (sched (w16 blk) 48))) ∧ w.grownBy w' none := by
  have HL := Lib.hid hl
  have HB := Lib.hid hb
  clear hl hb
  have hlt := hbp.lt
  have w0 : Whole ((w.alloc (.cells zero64 205)).alloc (.cells zero64 205)) (w.heap.size + 1) 205 (u32s (wrow blk 0 0)) := by rw [← zero64_eq]; exact Whole.fresh_at _ _ _ (by simp)
  have w00 : Whole ((w.alloc (.cells zero64 205)).alloc (.cells zero64 205)) w.heap.size 205 zero64 := (Whole.fresh _ _ _).alloc _
  have b0 := (hbp.alloc (.cells zero64 205)).alloc (.cells zero64 205)
  have g0 : w.grownBy ((w.alloc (.cells zero64 205)).alloc (.cells zero64 205)) none := grown_alloc (grown_alloc (grown_refl _ _) _) _
  unfold zero64 at w0 w00 b0 g0
  go_enter Tryz.func273, Tryz.ntmps273
  go_wp2_with fail
  generalize World.alloc (World.alloc w _) _ = w1 at w0 w00 b0 g0 ⊢
  clear hbp
  go_loopw [12] (fun i wr => ∃ k : Nat, k ≤ 16 ∧ i = .int .i64 k ∧ Whole wr (w.heap.size + 1) 205 (u32s (wrow blk k 0)) ∧ (∃ z, z.size = 64 ∧ Whole wr w.heap.size 205 z) ∧ Whole wr bp 113 (u8s blk) ∧ w.grownBy wr none) (fun i _ => 16 - (intOf i).toNat)
  case atStart => exact ⟨0, by omega, rfl, w0, ⟨_, rfl, w00⟩, b0, g0⟩
  case round =>
    obtain ⟨k, hk, rfl, hw, hz, hbl, hg⟩ := hrel
    by_cases hlt : k < 16
    · have e1 : ((k : Int) < 16) = True := eq_true (by omega)
      have hsl := slarr_run wr bp k hlt
      go_wp2_with fail
      go_loopw [24] (fun i wr => ∃ m : Nat, m ≤ 4 ∧ i = .int .i64 m ∧ Whole wr (w.heap.size + 1) 205 (u32s (wrow blk k m)) ∧ (∃ z, z.size = 64 ∧ Whole wr w.heap.size 205 z) ∧ Whole wr bp 113 (u8s blk) ∧ w.grownBy wr none) (fun i _ => 4 - (intOf i).toNat)
      case atStart => exact ⟨0, by omega, rfl, hw, hz, hbl, hg⟩
      case round =>
        clear hw hz hbl hg hsl
        obtain ⟨m, hm, rfl, hw, ⟨z, hz1, hz⟩, hbl, hg⟩ := hrel
        have HZ := Lib.hid hz1
        clear hz1
        by_cases hmt : m < 4
        · have e2 : ((m : Int) < 4) = True := eq_true (by omega)
          have c0 := hbl.cell (4 * k + m)
          rw [u8s_get (by rw [HL.out]; omega)] at c0
          have c1 := hw.cell k
          rw [u32s_get (by rw [wrow_len]; omega), wrow_get (by omega), if_neg (by omega), if_pos rfl] at c1
          have f0 := hw.thaw k
          have hpb := Lib.hid (pw_bits HB.out (i := k) hmt)
          have hx := HB.out (4 * k + m)
          generalize blk.getD (4 * k + m) 0 = x at c0 hpb hx
          have e3 : ((x : Int) % 4294967296) = x := by omega
          have hset := Lib.hid (wrow_set (blk := blk) (j := m) (i := k) (by omega))
          generalize pw blk k m = y at c1 hpb
          generalize pw blk k (m + 1) = y' at hpb hset
          clear hx
          go_wp2_with fail
          go_roundw
          case rel =>
            refine ⟨m + 1, by omega, by go_num, ?_, ⟨z, HZ.out, hz.aside (by simp) _⟩, hbl.aside (by simp; omega) _, grown_set hg (.inr (by simp)) _⟩
            rw [hpb.out, ← hset.out, ← u32s_set]
            exact hw.set_ k _
          case measure => simp [intOf]; omega
        · obtain rfl : m = 4 := by omega
          have e2 : ((4 : Nat) : Int) < 4 ↔ False := by simp
          rw [wrow_next] at hw
          go_wp2_with fail
          go_roundw
          case rel => exact ⟨k + 1, by omega, by go_num, hw, ⟨z, HZ.out, hz⟩, hbl, hg⟩
          case measure => simp [intOf]; omega
    · have hk16 : k = 16 := by omega
      have e1 : ((k : Int) < 16) = False := eq_false (by omega)
      obtain ⟨z, hz1, hz⟩ := hz
      have HZ := Lib.hid hz1
      clear hz1
      rw [hk16, srow_first] at hw
      have HK := Lib.hid hk16
      clear hk16
      go_wp2_with fail
      go_loopw [7] (fun i wr => ∃ t : Nat, 16 ≤ t ∧ t ≤ 64 ∧ i = .int .i64 t ∧ Whole wr (w.heap.size + 1) 205 (u32s (srow blk t)) ∧ Whole wr w.heap.size 205 z ∧ w.grownBy wr none) (fun i _ => 64 - (intOf i).toNat)
      case atStart => exact ⟨16, by omega, by omega, rfl, hw, hz, hg⟩
      case round =>
        clear hw hz hbl hg
        obtain ⟨t, ht1, ht2, rfl, hw, hz, hg⟩ := hrel
        by_cases hlt : t < 64
        · have e1 : ((t : Int) < 64) = True := eq_true (by omega)
          obtain ⟨a, ha⟩ : ∃ a, t = a + 2 := ⟨t - 2, by omega⟩
          obtain ⟨b, hb⟩ : ∃ b, t = b + 15 := ⟨t - 15, by omega⟩
          obtain ⟨c, hc⟩ : ∃ c, t = c + 7 := ⟨t - 7, by omega⟩
          obtain ⟨d, hd⟩ : ∃ d, t = d + 16 := ⟨t - 16, by omega⟩
          have ea : (t : Int) - 2 = (a : Int) := by omega
          have eb : (t : Int) - 15 = (b : Int) := by omega
          have ec : (t : Int) - 7 = (c : Int) := by omega
          have ed : (t : Int) - 16 = (d : Int) := by omega
          have wa : IntKind.i64.wrap (a : Int) = (a : Int) := IntWalk.i64_in _ (by omega)
          have wb : IntKind.i64.wrap (b : Int) = (b : Int) := IntWalk.i64_in _ (by omega)
          have wc : IntKind.i64.wrap (c : Int) = (c : Int) := IntWalk.i64_in _ (by omega)
          have wd : IntKind.i64.wrap (d : Int) = (d : Int) := IntWalk.i64_in _ (by omega)
          have la : a < 64 := by omega
          have lb : b < 64 := by omega
          have lc : c < 64 := by omega
          have ld : d < 64 := by omega
          have ca := hw.cell a
          have cb := hw.cell b
          have cc := hw.cell c
          have cd := hw.cell d
          rw [u32s_get (by rw [srow_len ht1 ht2]; omega), srow_get ht1 (by omega)] at ca cb cc cd
          have f0 := hw.thaw t
          have hset := srow_set (blk := blk) ht1 hlt
          have hnx : next (sched (w16 blk) (t - 16)) t = add32 (add32 (add32 (sig1 ((sched (w16 blk) (t - 16)).getD a 0)) ((sched (w16 blk) (t - 16)).getD c 0)) (sig0 ((sched (w16 blk) (t - 16)).getD b 0))) ((sched (w16 blk) (t - 16)).getD d 0) := by
            unfold next
            rw [show t - 2 = a by omega, show t - 7 = c by omega, show t - 15 = b by omega, show t - 16 = d by omega]
          rw [hnx] at hset
          have lA := sched_lt (w16_lt HB.out) (t - 16) a
          have lB := sched_lt (w16_lt HB.out) (t - 16) b
          clear hnx
          generalize (sched (w16 blk) (t - 16)).getD a 0 = A at ca hset lA
          generalize (sched (w16 blk) (t - 16)).getD b 0 = Bq at cb hset lB
          have HC : Hid ((srow blk t).getD c 0 = (sched (w16 blk) (t - 16)).getD c 0) := Lib.hid (srow_get ht1 (by omega))
          have HD : Hid ((srow blk t).getD d 0 = (sched (w16 blk) (t - 16)).getD d 0) := Lib.hid (srow_get ht1 (by omega))
          generalize (sched (w16 blk) (t - 16)).getD c 0 = Cq at cc hset HC
          generalize (sched (w16 blk) (t - 16)).getD d 0 = Dq at cd hset HD
          obtain ⟨x1, x2⟩ := xor_sig1 lA
          obtain ⟨y1, y2⟩ := xor_sig0 lB
          have lA := Lib.hid lA
          have lB := Lib.hid lB
          generalize sig1 A = S1 at x2 hset
          generalize sig0 Bq = S0 at y2 hset
          generalize Nat.xor (rot A 17) (rot A 19) = X1 at x1 x2
          generalize Nat.xor (rot Bq 7) (rot Bq 18) = Y1 at y1 y2
          have hset := Lib.hid hset
          have Ha := Lib.hid ha
          have Hb := Lib.hid hb
          have Hc := Lib.hid hc
          have Hd := Lib.hid hd
          clear ha hb hc hd
          go_wp2_with fail
          go_quiet (fail)
          go_wp2_with (go_at_call 275; first
            | ((with_reducible refine (turn17 _ lA.out _).mono ?_); rintro e w' ⟨rfl, rfl⟩)
            | ((with_reducible refine (turn19 _ lA.out _).mono ?_); rintro e w' ⟨rfl, rfl⟩)
            | ((with_reducible refine (turn7 _ lB.out _).mono ?_); rintro e w' ⟨rfl, rfl⟩)
            | ((with_reducible refine (turn18 _ lB.out _).mono ?_); rintro e w' ⟨rfl, rfl⟩))
          have hw := hw.drewN nq
          have hz := hz.drewN nq
          have hg := grown_drewN hg nq
          clear ca cb cc cd f0 x1 x2 y1 y2
          generalize wr.drewN nq = w5 at hw hz hg ⊢
          refine wp_region_still_tail 14 (by kernel_rfl) (by kernel_rfl) ?_
          have ew : ({ heap := w5.heap, tape := w5.tape, drawn := w5.drawn + 1, os := w5.os, output := w5.output } : World) = w5.drew := rfl
          rw [ew]
          clear ew
          have hw := hw.drew
          have hz := hz.drew
          have hg := grown_drew hg
          generalize w5.drew = w6 at hw hz hg ⊢
          have cc := hw.cell c
          have cd := hw.cell d
          have ct := hw.cell t
          rw [u32s_get (by rw [srow_len ht1 ht2]; omega)] at cc cd ct
          generalize (srow blk t).getD t 0 = Z at ct
          rw [HC.out] at cc
          rw [HD.out] at cd
          have f0 := hw.thaw t
          have v1 : IntKind.i64.wrap ((t : Int) - 7) = (c : Int) := by rw [ec]; exact wc
          have v2 : IntKind.i64.wrap ((t : Int) - 16) = (d : Int) := by rw [ed]; exact wd
          have v3 : (0 ≤ (c : Int)) = True := eq_true (by omega)
          have v4 : (0 ≤ (d : Int)) = True := eq_true (by omega)
          have v5 : ((c : Int) < 64) = True := eq_true (by omega)
          have v6 : ((d : Int) < 64) = True := eq_true (by omega)
          clear ea eb ec ed wa wb wc wd
          simp only [List.take_succ_cons, List.take_zero, List.drop_succ_cons, List.drop_zero]
          repeat still_step
          all_goals (try refine wpStill_nil ?_)
          go_wp2_with fail
          go_roundw
          case rel =>
            refine ⟨t + 1, by omega, by omega, by go_num, ?_, hz.aside (by simp) _, grown_set hg (.inr (by simp)) _⟩
            rw [← hset.out, ← u32s_set, ← add32_4]
            exact hw.set_ t _
          case measure => simp [intOf]; omega
        · have ht64 : t = 64 := by omega
          have e1 : ((t : Int) < 64) = False := eq_false (by omega)
          rw [ht64, srow_last] at hw
          have HT := Lib.hid ht64
          clear ht64
          have hlen : (sched (w16 blk) 48).length = 64 := by rw [sched_len, w16_len]
          obtain ⟨ws, hws⟩ : ∃ ws, ws = sched (w16 blk) 48 := ⟨_, rfl⟩
          rw [← hws] at hw hlen
          have HW := Lib.hid hws
          have HLn := Lib.hid hlen
          clear hws hlen
          go_wp2_with (first
            | (refine load_whole rfl _ rfl 64 _ Tryz.underlying205 (by rw [u32s_size, HLn.out]; exact size64) rfl hw ?_)
            | (refine store_whole rfl _ _ rfl rfl rfl (by rw [u32s_size, HLn.out]; exact size64) hz (by rw [u32s_size, HLn.out]; exact HZ.out) (u32s_one _) ?_))
          refine bodyPost_ret (results_cell_row rfl _ _ w.heap.size _ (u32s ws) (0, 0) _ rfl (hz.rowAt _) Tryz.underlying205 rfl (by rw [u32s_size, HLn.out]; exact size64)) rfl ⟨by rw [HW.out], grown_row hg (.inr (Nat.le_refl _)) _⟩
end Sh
end Go.Proofs.YtoaimjielnempaaGreatDoor
