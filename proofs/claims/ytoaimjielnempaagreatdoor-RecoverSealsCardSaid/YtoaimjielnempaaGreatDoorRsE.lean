/- The document's SHA-256: the sum of a text; the sum of the sum. -/
import Derived.Test.YtoaimjielnempaaGreatDoorRsD
namespace Go.Proofs.YtoaimjielnempaaGreatDoor
set_option linter.unusedVariables false
set_option linter.unusedSimpArgs false
open Go.RowKit Go.Maps
namespace Sh
def zero64b : Array Value := #[.int .u8 0, .int .u8 0, .int .u8 0, .int .u8 0, .int .u8 0, .int .u8 0, .int .u8 0, .int .u8 0, .int .u8 0, .int .u8 0, .int .u8 0, .int .u8 0, .int .u8 0, .int .u8 0, .int .u8 0, .int .u8 0,
  .int .u8 0, .int .u8 0, .int .u8 0, .int .u8 0, .int .u8 0, .int .u8 0, .int .u8 0, .int .u8 0, .int .u8 0, .int .u8 0, .int .u8 0, .int .u8 0, .int .u8 0, .int .u8 0, .int .u8 0, .int .u8 0,
  .int .u8 0, .int .u8 0, .int .u8 0, .int .u8 0, .int .u8 0, .int .u8 0, .int .u8 0, .int .u8 0, .int .u8 0, .int .u8 0, .int .u8 0, .int .u8 0, .int .u8 0, .int .u8 0, .int .u8 0, .int .u8 0,
  .int .u8 0, .int .u8 0, .int .u8 0, .int .u8 0, .int .u8 0, .int .u8 0, .int .u8 0, .int .u8 0, .int .u8 0, .int .u8 0, .int .u8 0, .int .u8 0, .int .u8 0, .int .u8 0, .int .u8 0, .int .u8 0]
/-- A block's bytes so far. -/
def brow (L : List UInt8) (j m : Nat) : List Nat := (List.range 64).map fun q => if q < m then (L.getD (64 * j + q) 0).toNat else 0
theorem brow_len (L : List UInt8) (j m : Nat) : (brow L j m).length = 64 := by simp [brow]
theorem zero64b_eq (L : List UInt8) (j : Nat) : zero64b = u8s (brow L j 0) := by
  have h : brow L j 0 = List.replicate 64 0 := by
    unfold brow
    rw [List.eq_replicate_iff]
    refine ⟨by simp, fun b hb => ?_⟩
    obtain ⟨k, _, rfl⟩ := List.mem_map.1 hb
    rw [if_neg (by omega)]
  rw [h]
  rfl
theorem u8s_one (l : List Nat) : (u8s l).all (·.oneCell') = true := by
  rw [Array.all_eq_true_iff_forall_mem]
  intro v hv
  obtain ⟨n, _, rfl⟩ : ∃ n ∈ l, Value.int .u8 (n : Int) = v := by simpa [u8s] using hv
  rfl
theorem zero64b_one : zero64b.all (·.oneCell') = true := by rw [zero64b_eq [] 0]; exact u8s_one _
theorem u8s_size (l : List Nat) : (u8s l).size = l.length := by simp [u8s]
theorem u8s_set {l : List Nat} {i x : Nat} : (u8s l).setIfInBounds i (.int .u8 (x : Int)) = u8s (l.set i x) := by
  simp [u8s, List.map_set]
theorem brow_set {L : List UInt8} {j m : Nat} (h : m < 64) : (brow L j m).set m (L.getD (64 * j + m) 0).toNat = brow L j (m + 1) := by
  apply List.ext_getElem
  · simp [brow]
  · intro k h1 h2
    rw [List.getElem_set]
    simp only [brow, List.getElem_map, List.getElem_range]
    by_cases e : m = k
    · subst e; simp
    · rw [if_neg e]
      by_cases h3 : k < m
      · rw [if_pos h3, if_pos (by omega)]
      · rw [if_neg h3, if_neg (by omega)]
theorem brow_full {L : List UInt8} {j : Nat} (h : 64 * j + 64 ≤ L.length) : brow L j 64 = nats ((L.drop (64 * j)).take 64) := by
  apply List.ext_getElem
  · simp [brow, nats]; omega
  · intro k h1 h2
    have hk : k < 64 := by simpa [brow] using h1
    simp [brow, nats, hk, List.getD, List.getElem?_eq_getElem (show 64 * j + k < L.length by omega)]
theorem getD_bytes (S : ByteArray) (k : Nat) (h : k < S.size) : S.data.toList.getD k 0 = S[k] := by
  have h' : k < S.data.size := h
  rw [List.getD_eq_getElem?_getD, Array.getElem?_toList, Array.getElem?_eq_getElem h']
  rfl
set_option maxHeartbeats 4000000
set_option maxRecDepth 100000
theorem rsum_any (s : ByteArray) (hs : s.size ≤ 140737488355200) (w : World) :
    Calls Tryz.prog 19 #[.string s] w fun e w' => e = .returned (.agg (bvs (shaB s.data.toList)).toArray) ∧ w.grownBy w' none := by
  have b0 : Whole (w.alloc (.cells zero32 23)) w.heap.size 23 zero32 := Whole.fresh _ _ _
  have g0 : w.grownBy (w.alloc (.cells zero32 23)) none := grown_alloc (grown_refl _ _) _
  have z0 : (w.alloc (.cells zero32 23)).heap.size = w.heap.size + 1 := by simp
  have hls : s.data.toList.length = s.size := Array.length_toList
  have hpl : (padL s.size 8).length = 1 + zerosN s.size + 8 := padL_len _ _
  have hzn : zerosN s.size < 64 := Nat.mod_lt _ (by decide)
  have hps : (⟨(padL s.size 8).toArray⟩ : ByteArray).size = (padL s.size 8).length := by show (padL s.size 8).toArray.size = _; exact List.size_toArray
  have hadd : ∀ W : World, (Op.stringOp .add s ⟨(padL s.size 8).toArray⟩).run Tryz.prog W = .ok (.string (s ++ ⟨(padL s.size 8).toArray⟩)) W := fun W => run_string_add_sum W _ _ (by omega)
  obtain ⟨S, hS⟩ : ∃ S, S = s ++ ⟨(padL s.size 8).toArray⟩ := ⟨_, rfl⟩
  have hSs : S.size = s.size + (padL s.size 8).length := by rw [hS, ByteArray.size_append, hps]
  obtain ⟨L, hL⟩ : ∃ L, L = S.data.toList := ⟨_, rfl⟩
  have hLl : L.length = S.size := by rw [hL]; exact Array.length_toList
  have hLe : L = s.data.toList ++ padL s.data.toList.length 8 := by rw [hL, hS, hls]; simp
  obtain ⟨N, hN⟩ : ∃ N, S.size = 64 * N := by
    refine ⟨S.size / 64, ?_⟩
    have : zerosN s.size = (119 - s.size % 64) % 64 := rfl
    omega
  have hRes : shaB s.data.toList = stB (chewR first L N) := by
    unfold shaB
    rw [← hLe, hLl, hN, Nat.mul_div_cancel_left _ (by decide)]
  have hle : S.size ≤ 140737488355328 := by omega
  rw [← hS] at hadd
  unfold zero32 at b0 g0 z0
  go_enter Tryz.func19, Tryz.ntmps19
  go_wp2_with (go_at_call 56; refine (rpad_any s.size (by omega) _).mono ?_; rintro e w1 ⟨rfl, g1⟩)
  rw [← hS]
  have b1 := b0.grown g1 (by simp)
  have gg1 := g0.trans g1
  have n1 := b1.lt
  clear b0 g0 g1 z0
  refine (rfirst_any _).mono ?_
  rintro e w2 ⟨rfl, g2⟩
  have b2 := b1.grown g2 (by simp)
  have gg2 := gg1.trans g2
  have n2 := b2.lt
  clear b1 gg1 g2 n1
  have x3 := Whole.fresh w2 111 zero8
  have b3 := b2.alloc (.cells zero8 111)
  have g3 := grown_alloc gg2 (.cells zero8 111)
  clear b2
  unfold zero8 at x3 b3 g3
  have HRES := Lib.hid hRes
  have HLE := Lib.hid hLe
  have HSS := Lib.hid hS
  have HLL := Lib.hid hLl
  have HL := Lib.hid hL
  have HBD := Lib.hid hs
  have HBS := Lib.hid hle
  clear hRes hLe hS hLl hL hs hle hadd hSs hps hzn hpl hls
  go_wp2_with (refine store_whole (cs' := yArr first) rfl _ _ rfl rfl rfl size8u x3 rfl (yArr_one _) ?_
               have x4 := x3.rowAt (yArr first)
               have b4 := b3.row_aside (g' := w2.heap.size) (by omega) (yArr first)
               have g4 := grown_row (g := w2.heap.size) g3 (.inr (by have := gg2.size; omega)) (yArr first)
               clear x3 b3 g3
               have n4 := x4.lt
               generalize World.setRow _ _ _ = w4 at x4 b4 g4 n4 ⊢)
  have n3 := gg2.size
  clear gg2
  generalize hnx : w2.heap.size = nx at x4 n2 n3 n4 ⊢
  clear hnx
  have hz4 : ∃ z, z.size = 32 ∧ Whole w4 w.heap.size 23 z := ⟨_, rfl, b4⟩
  clear b4
  go_loopw [4] (fun i wr => ∃ j : Nat, j ≤ N ∧ i = .int .i64 (64 * (j : Int)) ∧ Whole wr nx 111 (yArr (chewR first L j)) ∧ (∃ z, z.size = 32 ∧ Whole wr w.heap.size 23 z) ∧ w.grownBy wr none) (fun i _ => 64 * N - (intOf i).toNat)
  case atStart => exact ⟨0, Nat.zero_le _, rfl, x4, hz4, g4⟩
  case round =>
    clear x4 hz4 g4 n4
    obtain ⟨j, hj, rfl, hx, ⟨z, hz, hr⟩, hg⟩ := hrel
    have HZ := Lib.hid hz
    clear hz
    by_cases hlt : j < N
    · have e1 : (64 * (j : Int) < (S.size : Int)) = True := eq_true (by omega)
      have nw := hx.lt
      have ng := hg.size
      have d5 := Whole.fresh wr 113 zero64b
      have x5 := hx.alloc (.cells zero64b 113)
      have r5 := hr.alloc (.cells zero64b 113)
      have g5 := grown_alloc hg (.cells zero64b 113)
      clear hx hr hg
      unfold zero64b at d5 x5 r5 g5
      go_wp2_with (refine store_whole (cs' := zero64b) rfl _ _ rfl rfl rfl size64u d5 rfl zero64b_one ?_
                   have d6 := d5.rowAt zero64b
                   have x6 := x5.row_aside (g' := wr.heap.size) (by omega) zero64b
                   have r6 := r5.row_aside (g' := wr.heap.size) (by omega) zero64b
                   have g6 := grown_row (g := wr.heap.size) g5 (.inr (by omega)) zero64b
                   clear d5 x5 r5 g5
                   generalize World.setRow _ _ _ = w6 at d6 x6 r6 g6 ⊢)
      generalize hnd : wr.heap.size = nd at d6 nw ng ⊢
      clear hnd
      rw [zero64b_eq L j] at d6
      go_loopw [6] (fun i wq => ∃ m : Nat, m ≤ 64 ∧ i = .int .i64 (m : Int) ∧ Whole wq nd 113 (u8s (brow L j m)) ∧ Whole wq nx 111 (yArr (chewR first L j)) ∧ Whole wq w.heap.size 23 z ∧ w.grownBy wq none) (fun i _ => 64 - (intOf i).toNat)
      case atStart => exact ⟨0, by omega, rfl, d6, x6, r6, g6⟩
      case round =>
        clear d6 x6 r6 g6
        obtain ⟨m, hm, rfl, hd, hx, hr, hg⟩ := hrel
        by_cases hmt : m < 64
        · have e2 : ((m : Int) < 64) = True := eq_true (by omega)
          have v3 : (0 ≤ (m : Int)) = True := eq_true (by omega)
          have e3 : (0 ≤ 64 * (j : Int) + (m : Int)) = True := eq_true (by omega)
          have e4 : (64 * (j : Int) + (m : Int) < (S.size : Int)) = True := eq_true (by omega)
          have e5 : (64 * (j : Int) + (m : Int)).toNat = 64 * j + m := by omega
          have hbd := HBS.out
          have e6 : IntKind.i64.wrap (64 * (j : Int) + (m : Int)) = 64 * (j : Int) + (m : Int) := IntWalk.i64_in _ (by omega)
          have hSi : 64 * j + m < S.size := by omega
          clear hbd
          have c0 := hd.cell m
          rw [u8s_get (by rw [brow_len]; omega)] at c0
          have f0 := hd.thaw m
          generalize (brow L j m).getD m 0 = Z at c0
          have hset := brow_set (L := L) (j := j) hmt
          rw [HL.out, getD_bytes S _ hSi, ← HL.out] at hset
          have HST := Lib.hid hset
          clear hset
          go_wp2_with fail
          go_roundw
          case rel =>
            refine ⟨m + 1, by omega, by go_num, ?_, hx.aside (by simp; omega) _, hr.aside (by simp; omega) _, grown_set hg (.inr (by simp; omega)) _⟩
            rw [← HST.out, ← u8s_set]
            exact hd.set_ m _
          case measure => simp [intOf]; omega
        · have hm64 : m = 64 := by omega
          have e2 : ((m : Int) < 64) = False := eq_false (by omega)
          have hbl := HLL.out
          rw [hm64, brow_full (by omega), u8s_nats] at hd
          have hlen : ((L.drop (64 * j)).take 64).length = 64 := by rw [List.length_take, List.length_drop]; omega
          have hnext : chewR first L (j + 1) = stepS (chewR first L j) (nats ((L.drop (64 * j)).take 64)) := rfl
          have hok := chewR_ok first_ok L j
          generalize (L.drop (64 * j)).take 64 = blk at hd hlen hnext
          generalize chewR first L j = st at hx hnext hok
          obtain ⟨st2, hst2⟩ : ∃ y, y = chewR first L (j + 1) := ⟨_, rfl⟩
          rw [← hst2] at hnext
          have HS2 := Lib.hid hst2
          clear hst2
          have hstep : ∀ W : World, Calls Tryz.prog 58 #[.agg (yArr st), .agg (bvs blk).toArray] W fun e w' => e = .returned (.agg (yArr st2)) ∧ W.grownBy w' none := fun W => by
            have h := rstep_any st hok (nats blk) W (by simpa [nats] using hlen) (nats_lt blk)
            rw [u8s_nats] at h
            rw [hnext]
            exact h
          have HSt := Lib.hid hstep
          have HBL := Lib.hid (show (bvs blk).toArray.size = 64 by simp [bvs_len, hlen])
          have HM := Lib.hid hm64
          have hbd := HBS.out
          have e9 : IntKind.i64.wrap (64 * (j : Int) + 64) = 64 * (j : Int) + 64 := IntWalk.i64_in _ (by omega)
          clear hbd
          clear hstep hnext hok hlen hm64 hbl
          generalize (bvs blk).toArray = bl at hd HSt HBL
          go_wp2_with (first
            | (refine load_whole (cs := yArr st) rfl _ rfl 8 _ Tryz.underlying111 size8u rfl hx ?_)
            | (refine load_whole (cs := bl) rfl _ rfl 64 _ Tryz.underlying113 (by rw [HBL.out]; exact size64u) rfl hd ?_)
            | (go_at_call 58; refine (HSt.out _).mono ?_
               rintro e w7 ⟨rfl, g7⟩
               have hx7 := hx.grown g7 (by simp)
               have hr7 := hr.grown g7 (by simp)
               have hg7 := hg.trans g7)
            | (refine store_whole (cs' := yArr (st2)) rfl _ _ rfl rfl rfl size8u hx7 rfl (yArr_one _) ?_
               have hx8 := hx7.rowAt (yArr (st2))
               have hr8 := hr7.row_aside (g' := nx) (by omega) (yArr (st2))
               have hg8 := grown_row (g := nx) hg7 (.inr (by omega)) (yArr (st2))))
          go_roundw
          case rel => exact ⟨j + 1, by omega, by rw [show (64 * (j : Int) + 64) = 64 * ((j + 1 : Nat) : Int) by omega], (by rw [← HS2.out]; exact hx8), ⟨z, HZ.out, hr8⟩, hg8⟩
          case measure => simp [intOf]; omega
    · have hjn : j = N := by omega
      have e1 : (64 * (j : Int) < (S.size : Int)) = False := eq_false (by omega)
      rw [hjn] at hx
      have HJ := Lib.hid hjn
      clear hjn
      obtain ⟨st, hst⟩ : ∃ st, st = chewR first L N := ⟨_, rfl⟩
      rw [← hst] at hx
      have HB := Lib.hid (rbytes_any st)
      obtain ⟨R, hR⟩ : ∃ R, R = (bvs (stB st)).toArray := ⟨_, rfl⟩
      have HSZ := Lib.hid (show R.size = 32 by rw [hR]; simp [bvs_len, stB_len])
      have HON := Lib.hid (show R.all (·.oneCell') = true by rw [hR]; exact bvs_one _)
      have HR := Lib.hid (show R = (bvs (shaB s.data.toList)).toArray by rw [hR, hst, HRES.out])
      have HB2 := Lib.hid (show ∀ W : World, Calls Tryz.prog 59 #[.agg (yArr st)] W fun e w' => e = .returned (.agg R) ∧ W.grownBy w' none by rw [hR]; exact HB.out)
      clear hst hR HB
      go_wp2_with (first
        | (refine load_whole (cs := yArr st) rfl _ rfl 8 _ Tryz.underlying111 size8u rfl hx ?_)
        | (go_at_call 59; refine (HB2.out _).mono ?_
           rintro e w7 ⟨rfl, g7⟩
           have hr7 := hr.grown g7 (by simp)
           have hg7 := hg.trans g7)
        | (refine store_whole rfl _ _ rfl rfl rfl (by rw [HSZ.out]; exact size32u) hr7 (by rw [HSZ.out]; exact HZ.out) HON.out ?_))
      refine bodyPost_ret (results_cell_row rfl _ _ w.heap.size _ R (0, 0) _ rfl (hr7.rowAt _) Tryz.underlying23 rfl (by rw [HSZ.out]; exact size32u)) rfl ⟨by rw [HR.out], grown_row hg7 (.inr (Nat.le_refl _)) _⟩
set_option maxHeartbeats 2000000 in
set_option maxRecDepth 100000 in
theorem rtwice_any (s : ByteArray) (hs : s.size ≤ 140737488355200) (w : World) :
    Calls Tryz.prog 4 #[.string s] w fun e w' => e = .returned (.agg (bvs (shaB (shaB s.data.toList))).toArray) ∧ w.grownBy w' none := by
  have b0 : Whole (w.alloc (.cells zero32 23)) w.heap.size 23 zero32 := Whole.fresh _ _ _
  have g0 : w.grownBy (w.alloc (.cells zero32 23)) none := grown_alloc (grown_refl _ _) _
  have z0 : (w.alloc (.cells zero32 23)).heap.size = w.heap.size + 1 := by simp
  obtain ⟨R, hR⟩ : ∃ R, R = (bvs (shaB s.data.toList)).toArray := ⟨_, rfl⟩
  have HSZ := Lib.hid (show R.size = 32 by rw [hR]; exact sha_size _)
  have HON := Lib.hid (show R.all (·.oneCell') = true by rw [hR]; exact bvs_one _)
  have HR := Lib.hid hR
  clear hR
  obtain ⟨S, hS⟩ : ∃ S, S = (bvs (shaB (shaB s.data.toList))).toArray := ⟨_, rfl⟩
  have HSZ2 := Lib.hid (show S.size = 32 by rw [hS]; exact sha_size _)
  have HON2 := Lib.hid (show S.all (·.oneCell') = true by rw [hS]; exact bvs_one _)
  have HS := Lib.hid hS
  clear hS
  unfold zero32 at b0 g0 z0
  go_enter Tryz.func4, Tryz.ntmps4
  go_wp2_with fail
  generalize World.alloc w _ = w1 at b0 g0 z0 ⊢
  refine (rsum_any s hs _).mono ?_
  rw [← HR.out]
  rintro e w2 ⟨rfl, hg2⟩
  have b2 := b0.grown hg2 (by simp)
  have gg2 := g0.trans hg2
  have hlt2 := b2.lt
  clear b0 hg2 g0
  have o2 : Whole (w2.alloc (.cells zero32 23)) w2.heap.size 23 zero32 := Whole.fresh _ _ _
  have b3 := b2.alloc (.cells zero32 23)
  have gg3 := grown_alloc gg2 (.cells zero32 23)
  unfold zero32 at o2 b3 gg3
  clear b2 gg2
  have hll : (shaB s.data.toList).length = 32 := by simp [shaB, stB_len]
  have HLL := Lib.hid hll
  clear hll
  go_wp2_with (refine store_whole rfl _ _ rfl rfl rfl (by rw [HSZ.out]; exact size32u) o2 (by rw [HSZ.out]; rfl) HON.out ?_
               have o4 := o2.rowAt R
               have b4 := b3.row_aside (g' := w2.heap.size) (by omega) R
               have gg4 := grown_row (g := w2.heap.size) gg3 (.inr (by omega)) R
               clear o2 b3 gg3
               generalize World.setRow _ _ _ = w4 at o4 b4 gg4 ⊢
               have hcv : (convert 34 9 (.slice (some ⟨w2.heap.size, 0, none⟩) 32 32)).run Tryz.prog w4 = .ok (.string ⟨(shaB s.data.toList).toArray⟩) w4 := by
                 have h := run_convert_bytes_back (P := Tryz.prog) w4 34 9 5 ⟨w2.heap.size, 0, none⟩ 32 (shaB s.data.toList) Tryz.underlying34 Tryz.underlying5 Tryz.underlying9 (fun i hi => by
                   rw [Addr.add_mid, o4.cell, HR.out]
                   simp [bvs, List.getElem?_eq_getElem hi])
                 rw [HLL.out] at h
                 exact h)
  refine (rsum_any ⟨(shaB s.data.toList).toArray⟩ (by show (shaB s.data.toList).toArray.size ≤ _; simp [HLL.out]) _).mono ?_
  rintro e w5 ⟨rfl, hg5⟩
  rw [show (⟨(shaB s.data.toList).toArray⟩ : ByteArray).data.toList = shaB s.data.toList from rfl, ← HS.out]
  have b5 := b4.grown hg5 (by simp)
  have gg5 := gg4.trans hg5
  clear b4 gg4 o4 hcv
  go_wp2_with (refine store_whole rfl _ _ rfl rfl rfl (by rw [HSZ2.out]; exact size32u) b5 (by rw [HSZ2.out]; rfl) HON2.out ?_)
  refine bodyPost_ret (results_cell_row rfl _ _ w.heap.size _ S (0, 0) _ rfl (b5.rowAt _) Tryz.underlying23 rfl (by rw [HSZ2.out]; exact size32u)) rfl ⟨by rw [HS.out], grown_row gg5 (.inr (Nat.le_refl _)) _⟩
end Sh
end Go.Proofs.YtoaimjielnempaaGreatDoor
