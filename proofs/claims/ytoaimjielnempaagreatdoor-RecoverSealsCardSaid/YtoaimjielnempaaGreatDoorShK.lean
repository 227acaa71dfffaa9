/- The sum of what was written. -/
import Derived.Test.YtoaimjielnempaaGreatDoorShJ
namespace Go.Proofs.YtoaimjielnempaaGreatDoor
set_option linter.unusedVariables false
set_option linter.unusedSimpArgs false
open Go.RowKit Go.Maps
namespace Sh
theorem drop_take_app {L M : List UInt8} {i : Nat} : (L ++ M).drop i = L.drop i ++ M.drop (i - L.length) := List.drop_append
theorem chewR_app (x : St) (L M : List UInt8) (j : Nat) (hj : 64 * j ≤ L.length) : chewR x (L ++ M) j = chewR x L j := by
  induction j with
  | zero => rfl
  | succ j ih =>
    unfold chewR
    rw [ih (by omega)]
    have e : ((L ++ M).drop (64 * j)).take 64 = (L.drop (64 * j)).take 64 := by
      rw [List.drop_append_of_le_length (by omega), List.take_append_of_le_length (by rw [List.length_drop]; omega)]
    rw [e]
theorem chewR_add (x : St) (L : List UInt8) (j : Nat) : ∀ k, chewR (chewR x L j) (L.drop (64 * j)) k = chewR x L (j + k)
  | 0 => rfl
  | k + 1 => by
    show stepS (chewR (chewR x L j) (L.drop (64 * j)) k) _ = stepS (chewR x L (j + k)) _
    rw [chewR_add x L j k, List.drop_drop]
    have e : 64 * j + 64 * k = 64 * (j + k) := by omega
    rw [e]
    rfl
theorem chewR_cut (x : St) (L M : List UInt8) (j : Nat) (hj : 64 * j ≤ L.length) (k : Nat) : chewR (chewR x L j) (L.drop (64 * j) ++ M) k = chewR x (L ++ M) (j + k) := by
  rw [← chewR_app x L M j hj, ← List.drop_append_of_le_length hj]
  exact chewR_add x (L ++ M) j k
/-- A state's bytes. -/
def stB (s : St) : List UInt8 := (List.range 32).map fun p => UInt8.ofNat (s.list.getD (p / 4) 0 / 256 ^ (3 - p % 4))
/-- SHA-256. -/
def shaB (s : List UInt8) : List UInt8 := stB (chewR first (s ++ padL s.length 8) ((s ++ padL s.length 8).length / 64))
theorem stB_len (s : St) : (stB s).length = 32 := by simp [stB]
/-- The bytes that are laid, so many. -/
def rowO (s : St) (p : Nat) : Array Value := ((List.range 32).map fun q => Value.int .u8 (if q < p then (((UInt8.ofNat (s.list.getD (q / 4) 0 / 256 ^ (3 - q % 4))).toNat : Nat) : Int) else 0)).toArray
theorem rowO_size (s : St) (p : Nat) : (rowO s p).size = 32 := by simp [rowO]
theorem rowO_get {s : St} {p : Nat} (h : p < 32) : (rowO s p)[p]? = some (.int .u8 0) := by simp [rowO, h]
theorem rowO_set {s : St} {p : Nat} (h : p < 32) : (rowO s p).setIfInBounds p (.int .u8 (((UInt8.ofNat (s.list.getD (p / 4) 0 / 256 ^ (3 - p % 4))).toNat : Nat) : Int)) = rowO s (p + 1) := by
  apply Array.ext
  · simp [rowO]
  · intro i h1 h2
    have hi : i < 32 := by simpa [rowO] using h2
    rw [Array.getElem_setIfInBounds (by simpa [rowO] using hi)]
    simp only [rowO, List.getElem_toArray, List.getElem_map, List.getElem_range]
    by_cases e : p = i
    · subst e; simp
    · rw [if_neg e]
      congr 1
      by_cases h : i < p
      · rw [if_pos h, if_pos (by omega)]
      · rw [if_neg h, if_neg (by omega)]
theorem rowO_last (s : St) : rowO s 32 = (bvs (stB s)).toArray := by
  simp only [rowO, bvs, stB, List.map_map]
  apply congrArg List.toArray
  apply List.map_congr_left
  intro q hq
  simp only [List.mem_range] at hq
  simp [hq]
theorem rowO_one (s : St) (p : Nat) : (rowO s p).all (·.oneCell') = true := by
  rw [Array.all_eq_true_iff_forall_mem]
  intro v hv
  simp only [rowO, List.mem_toArray, List.mem_map] at hv
  obtain ⟨_, _, rfl⟩ := hv
  rfl
def zero32 : Array Value := #[.int .u8 0, .int .u8 0, .int .u8 0, .int .u8 0, .int .u8 0, .int .u8 0, .int .u8 0, .int .u8 0, .int .u8 0, .int .u8 0, .int .u8 0, .int .u8 0, .int .u8 0, .int .u8 0, .int .u8 0, .int .u8 0,
  .int .u8 0, .int .u8 0, .int .u8 0, .int .u8 0, .int .u8 0, .int .u8 0, .int .u8 0, .int .u8 0, .int .u8 0, .int .u8 0, .int .u8 0, .int .u8 0, .int .u8 0, .int .u8 0, .int .u8 0, .int .u8 0]
theorem zero32_eq (s : St) : zero32 = rowO s 0 := by
  have h : (List.range 32).map (fun q => Value.int .u8 (if q < 0 then (((UInt8.ofNat (s.list.getD (q / 4) 0 / 256 ^ (3 - q % 4))).toNat : Nat) : Int) else 0)) = List.replicate 32 (.int .u8 0) := by
    rw [List.eq_replicate_iff]
    refine ⟨by simp, fun b hb => ?_⟩
    obtain ⟨k, _, rfl⟩ := List.mem_map.1 hb
    simp
  unfold rowO
  rw [h]
  rfl
theorem size32 : (Tryz.prog.info? 24).map (·.size) = some 32 := by kernel_rfl
theorem out_byte (x k : Nat) (hk : k ≤ 3) : ((x : Int) / 2 ^ (8 * (3 - k)) % 256) = (((UInt8.ofNat (x / 256 ^ (3 - k))).toNat : Nat) : Int) := by
  have h1 : (256 : Nat) ^ (3 - k) = 2 ^ (8 * (3 - k)) := by rw [Nat.pow_mul]
  rw [h1]
  simp
theorem idx8 (s : St) (k : Nat) (hk : k < 8) (W : World) : (Instr.index 302 (.agg (yArr s)) (.int .i64 (k : Int))).run Tryz.prog W = .ok (.int .u32 ((s.list.getD k 0 : Nat) : Int)) W := by
  obtain ⟨a0, a1, a2, a3, a4, a5, a6, a7⟩ := s
  have u := Tryz.underlying302
  have hs : (sizeOf 22).run Tryz.prog W = .ok 1 W := by kernel_rfl
  match k, hk with
  | 0, _ =>
    show (Instr.index 302 (.agg #[.int .u32 (a0 : Int), .int .u32 (a1 : Int), .int .u32 (a2 : Int), .int .u32 (a3 : Int), .int .u32 (a4 : Int), .int .u32 (a5 : Int), .int .u32 (a6 : Int), .int .u32 (a7 : Int)]) (.int .i64 0)).run Tryz.prog W = .ok (.int .u32 (a0 : Int)) W
    simp [Instr.index, asIntOf, run_underlying u, hs, part, isAgg]
    try go_simp
  | 1, _ =>
    show (Instr.index 302 (.agg #[.int .u32 (a0 : Int), .int .u32 (a1 : Int), .int .u32 (a2 : Int), .int .u32 (a3 : Int), .int .u32 (a4 : Int), .int .u32 (a5 : Int), .int .u32 (a6 : Int), .int .u32 (a7 : Int)]) (.int .i64 1)).run Tryz.prog W = .ok (.int .u32 (a1 : Int)) W
    simp [Instr.index, asIntOf, run_underlying u, hs, part, isAgg]
    try go_simp
  | 2, _ =>
    show (Instr.index 302 (.agg #[.int .u32 (a0 : Int), .int .u32 (a1 : Int), .int .u32 (a2 : Int), .int .u32 (a3 : Int), .int .u32 (a4 : Int), .int .u32 (a5 : Int), .int .u32 (a6 : Int), .int .u32 (a7 : Int)]) (.int .i64 2)).run Tryz.prog W = .ok (.int .u32 (a2 : Int)) W
    simp [Instr.index, asIntOf, run_underlying u, hs, part, isAgg]
    try go_simp
  | 3, _ =>
    show (Instr.index 302 (.agg #[.int .u32 (a0 : Int), .int .u32 (a1 : Int), .int .u32 (a2 : Int), .int .u32 (a3 : Int), .int .u32 (a4 : Int), .int .u32 (a5 : Int), .int .u32 (a6 : Int), .int .u32 (a7 : Int)]) (.int .i64 3)).run Tryz.prog W = .ok (.int .u32 (a3 : Int)) W
    simp [Instr.index, asIntOf, run_underlying u, hs, part, isAgg]
    try go_simp
  | 4, _ =>
    show (Instr.index 302 (.agg #[.int .u32 (a0 : Int), .int .u32 (a1 : Int), .int .u32 (a2 : Int), .int .u32 (a3 : Int), .int .u32 (a4 : Int), .int .u32 (a5 : Int), .int .u32 (a6 : Int), .int .u32 (a7 : Int)]) (.int .i64 4)).run Tryz.prog W = .ok (.int .u32 (a4 : Int)) W
    simp [Instr.index, asIntOf, run_underlying u, hs, part, isAgg]
    try go_simp
  | 5, _ =>
    show (Instr.index 302 (.agg #[.int .u32 (a0 : Int), .int .u32 (a1 : Int), .int .u32 (a2 : Int), .int .u32 (a3 : Int), .int .u32 (a4 : Int), .int .u32 (a5 : Int), .int .u32 (a6 : Int), .int .u32 (a7 : Int)]) (.int .i64 5)).run Tryz.prog W = .ok (.int .u32 (a5 : Int)) W
    simp [Instr.index, asIntOf, run_underlying u, hs, part, isAgg]
    try go_simp
  | 6, _ =>
    show (Instr.index 302 (.agg #[.int .u32 (a0 : Int), .int .u32 (a1 : Int), .int .u32 (a2 : Int), .int .u32 (a3 : Int), .int .u32 (a4 : Int), .int .u32 (a5 : Int), .int .u32 (a6 : Int), .int .u32 (a7 : Int)]) (.int .i64 6)).run Tryz.prog W = .ok (.int .u32 (a6 : Int)) W
    simp [Instr.index, asIntOf, run_underlying u, hs, part, isAgg]
    try go_simp
  | 7, _ =>
    show (Instr.index 302 (.agg #[.int .u32 (a0 : Int), .int .u32 (a1 : Int), .int .u32 (a2 : Int), .int .u32 (a3 : Int), .int .u32 (a4 : Int), .int .u32 (a5 : Int), .int .u32 (a6 : Int), .int .u32 (a7 : Int)]) (.int .i64 7)).run Tryz.prog W = .ok (.int .u32 (a7 : Int)) W
    simp [Instr.index, asIntOf, run_underlying u, hs, part, isAgg]
    try go_simp
set_option maxHeartbeats 2000000 in
set_option maxRecDepth 100000 in
theorem hsum_any (g B j : Nat) (v : Value) (L : List UInt8) (w : World) (hc : Whole w g 305 (hCells (chewR first L j) v L.length)) (hA : LAt w B v L j) (hLb : L.length ≤ 140737488355200) :
    Calls Tryz.prog 124 #[.pointer (some ⟨g, 0, none⟩)] w fun e w' => e = .returned (.agg (bvs (shaB L)).toArray) ∧ w.grownBy w' none := by
  have hlt := hc.lt
  have b0 : Whole (w.alloc (.cells zero32 24)) w.heap.size 24 zero32 := Whole.fresh _ _ _
  have c0 := hc.alloc (.cells zero32 24)
  have a0 : LAt (w.alloc (.cells zero32 24)) B v L j := hA.grown (grown_alloc (grown_refl w none) _) (by simp)
  have g0 : w.grownBy (w.alloc (.cells zero32 24)) none := grown_alloc (grown_refl _ _) _
  have z0 : (w.alloc (.cells zero32 24)).heap.size = w.heap.size + 1 := by simp
  unfold zero32 at b0 c0 a0 g0 z0
  go_enter Tryz.func124, Tryz.ntmps124
  go_wp2_with fail
  generalize World.alloc w _ = w1 at b0 c0 a0 g0 z0 ⊢
  refine (clone_any g B _ j _ v L _ c0 a0 (by omega)).mono ?_
  rintro e w2 ⟨g2, v2, hs2, rfl, hc2, hrow2, hg2⟩
  have b2 := b0.grown hg2 (by simp)
  have c2 := c0.grown hg2 (by simp)
  have gg2 := g0.trans hg2
  clear b0 c0 a0 hg2
  have t9 : w2.cell? ⟨g, 9, none⟩ = some (.int .u64 (L.length : Int)) := by rw [c2.cell]; rfl
  go_wp2_with (go_at_call 206; refine (pad_any L.length (by omega) _).mono ?_; rintro e w3 ⟨rfl, hg3⟩)
  have hc3 := hc2.grown hg3 (by simp)
  have hrow3 : BRow w3 w1.heap.size v2 (L.drop (64 * j)) := World.ownsRow.kept hrow2 hg3 (by cases h : v2.ownBlock with | none => exact .inl rfl | some b => exact .inr (by simp))
  have b3 := b2.grown hg3 (by simp)
  have gg3 := gg2.trans hg3
  have hpl : (padL L.length 8).length ≤ 72 := by
    rw [padL_len]
    have : zerosN L.length < 64 := Nat.mod_lt _ (by decide)
    omega
  have hpl2 : (⟨(padL L.length 8).toArray⟩ : ByteArray).size = (padL L.length 8).length := by simp [ByteArray.size]
  have hdl : (L.drop (64 * j)).length = L.length - 64 * j := List.length_drop
  refine (write_any g2 w1.heap.size (chewR first L j) (chewR_ok first_ok L j) L.length v2 (L.drop (64 * j)) ⟨(padL L.length 8).toArray⟩ w3 hc3 hrow3 hs2 (L.drop (64 * j) ++ padL L.length 8) (by simp) (by rw [List.length_append]; omega) (by rw [hpl2]; omega)).mono ?_
  rintro e w4 ⟨rfl, v4, hc4, hA4, hb4⟩
  have hj := hA.1
  have hst : chewR (chewR first L j) (L.drop (64 * j) ++ padL L.length 8) ((L.drop (64 * j) ++ padL L.length 8).length / 64) = chewR first (L ++ padL L.length 8) ((L ++ padL L.length 8).length / 64) := by
    rw [chewR_cut first L _ j hj]
    congr 1
    rw [List.length_append, List.length_append, hdl]
    omega
  rw [hst] at hc4
  have hsha : shaB L = stB (chewR first (L ++ padL L.length 8) ((L ++ padL L.length 8).length / 64)) := rfl
  generalize chewR first (L ++ padL L.length 8) ((L ++ padL L.length 8).length / 64) = st at hc4 hsha
  have b4 := b3.below hb4 (by omega)
  have hlt1 : w.heap.size < w1.heap.size := by omega
  have gg4 : w.grownBy w4 none := by
    refine ⟨hb4.os.trans gg3.os, hb4.tape.trans gg3.tape, hb4.output.trans gg3.output, Nat.le_trans gg3.size hb4.size, fun k hk hne => (hb4.block k (by omega)).trans (gg3.block k hk hne)⟩
  have HSH := Lib.hid hsha
  clear hc3 hrow3 b3 gg3 hpl hpl2 hdl hj hst hA4 hb4 hc2 hrow2 b2 gg2 c2 t9 hsha hg3
  have o4 : Whole (w4.alloc (.cells zero32 24)) w4.heap.size 24 (rowO st 0) := by rw [← zero32_eq]; exact Whole.fresh _ _ _
  have b5 := b4.alloc (.cells zero32 24)
  have hc5 := hc4.alloc (.cells zero32 24)
  have g5 := grown_alloc gg4 (.cells zero32 24)
  have hlt4 := b4.lt
  clear b4 hc4 gg4
  obtain ⟨a0, a1, a2, a3, a4, a5, a6, a7⟩ := st
  obtain ⟨⟨r0, r1, r2, r3, r4, r5, r6, r7⟩, _⟩ := h8 a0 a1 a2 a3 a4 a5 a6 a7 hc5
  unfold zero32 at o4 b5 hc5 g5 r0 r1 r2 r3 r4 r5 r6 r7
  go_wp2_with fail
  clear r0 r1 r2 r3 r4 r5 r6 r7 hc5
  generalize World.alloc w4 _ = w5 at o4 b5 g5 ⊢
  go_loopw [25] (fun i wr => ∃ k : Nat, k ≤ 8 ∧ i = .int .i64 k ∧ Whole wr w4.heap.size 24 (rowO ⟨a0, a1, a2, a3, a4, a5, a6, a7⟩ (4 * k)) ∧ (∃ z, z.size = 32 ∧ Whole wr w.heap.size 24 z) ∧ w.grownBy wr none) (fun i _ => 8 - (intOf i).toNat)
  case atStart => exact ⟨0, by omega, rfl, o4, ⟨_, rfl, b5⟩, g5⟩
  case round =>
    clear o4 b5 g5
    obtain ⟨k, hk, rfl, ho, hz, hg⟩ := hrel
    by_cases hlt8 : k < 8
    · have e1 : ((k : Int) < 8) = True := eq_true (by omega)
      have v3 : (0 ≤ (k : Int)) = True := eq_true (by omega)
      obtain ⟨x, hx⟩ : ∃ x : Nat, x = (St.list ⟨a0, a1, a2, a3, a4, a5, a6, a7⟩).getD k 0 := ⟨_, rfl⟩
      have hidx : ∀ W : World, (Instr.index 302 (.agg #[.int .u32 (a0 : Int), .int .u32 (a1 : Int), .int .u32 (a2 : Int), .int .u32 (a3 : Int), .int .u32 (a4 : Int), .int .u32 (a5 : Int), .int .u32 (a6 : Int), .int .u32 (a7 : Int)]) (.int .i64 k)).run Tryz.prog W = .ok (.int .u32 (x : Int)) W := fun W => by
        rw [hx]
        exact idx8 ⟨a0, a1, a2, a3, a4, a5, a6, a7⟩ k hlt8 W
      have HX := Lib.hid hx
      clear hx
      go_wp2_with fail
      clear hidx
      obtain ⟨z, hz1, hz⟩ := hz
      have HZ := Lib.hid hz1
      clear hz1
      go_loopw [29] (fun i wr => ∃ m : Nat, m ≤ 4 ∧ i = .int .i64 m ∧ Whole wr w4.heap.size 24 (rowO ⟨a0, a1, a2, a3, a4, a5, a6, a7⟩ (4 * k + m)) ∧ Whole wr w.heap.size 24 z ∧ w.grownBy wr none) (fun i _ => 4 - (intOf i).toNat)
      case atStart => exact ⟨0, by omega, rfl, ho, hz, hg⟩
      case round =>
        clear ho hz hg
        obtain ⟨m, hm, rfl, ho, hz, hg⟩ := hrel
        by_cases hmt : m < 4
        · have e2 : ((m : Int) < 4) = True := eq_true (by omega)
          have e3 : (0 ≤ 3 - (m : Int)) = True := eq_true (by omega)
          have e4 : (0 ≤ 4 * (k : Int) + (m : Int)) = True := eq_true (by omega)
          have e5 : (4 * (k : Int) + (m : Int) < 32) = True := eq_true (by omega)
          have e6 : (4 * (k : Int) + (m : Int)).toNat = 4 * k + m := by omega
          have d0 := ho.cell (4 * k + m)
          rw [rowO_get (by omega)] at d0
          have f0 := ho.thaw (4 * k + m)
          have hset := rowO_set (s := ⟨a0, a1, a2, a3, a4, a5, a6, a7⟩) (p := 4 * k + m) (by omega)
          have hq1 : (4 * k + m) / 4 = k := by omega
          have hq2 : 3 - (4 * k + m) % 4 = 3 - m := by omega
          rw [hq1, hq2, ← HX.out, ← out_byte x m (by omega)] at hset
          have HS := Lib.hid hset
          clear hset hq1 hq2
          go_wp2_with fail
          refine ⟨⟨m + 1, by omega, by go_num, ?_, hz.aside (by simp; omega) _, grown_set hg (.inr (by simp; omega)) _⟩, by simp [intOf]; omega⟩
          show Whole _ _ _ (rowO _ (4 * k + m + 1))
          rw [← HS.out]
          exact ho.set_ (4 * k + m) _
        · obtain rfl : m = 4 := by omega
          have e2 : ((4 : Nat) : Int) < 4 ↔ False := by simp
          have ho : Whole wr w4.heap.size 24 (rowO ⟨a0, a1, a2, a3, a4, a5, a6, a7⟩ (4 * (k + 1))) := ho
          go_wp2_with fail
          exact ⟨⟨k + 1, by omega, by go_num, ho, ⟨z, HZ.out, hz⟩, hg⟩, by simp [intOf]; omega⟩
    · have hk8 : k = 8 := by omega
      have e1 : ((k : Int) < 8) = False := eq_false (by omega)
      obtain ⟨z, hz1, hz⟩ := hz
      have ho : Whole wr w4.heap.size 24 (rowO ⟨a0, a1, a2, a3, a4, a5, a6, a7⟩ 32) := by rw [hk8] at ho; exact ho
      rw [rowO_last, ← HSH.out] at ho
      have hsz : (bvs (shaB L)).toArray.size = 32 := by simp [bvs_len, shaB, stB_len]
      have hone : (bvs (shaB L)).toArray.all (·.oneCell') = true := by
        rw [Array.all_eq_true_iff_forall_mem]
        intro u hu
        simp only [List.mem_toArray] at hu
        obtain ⟨_, _, rfl⟩ := List.mem_map.1 hu
        rfl
      have HZ := Lib.hid hz1
      have HK := Lib.hid hk8
      have HSZ := Lib.hid hsz
      have HON := Lib.hid hone
      clear hz1 hk8 hsz hone
      obtain ⟨R, hR⟩ : ∃ R, R = (bvs (shaB L)).toArray := ⟨_, rfl⟩
      rw [← hR] at ho
      have HSZ := Lib.hid (hR ▸ HSZ.out)
      have HON := Lib.hid (hR ▸ HON.out)
      have HR := Lib.hid hR
      clear hR
      go_wp2_with (first
        | (refine load_whole (cs := R) rfl _ rfl 32 _ Tryz.underlying24 (by rw [HSZ.out]; exact size32) rfl ho ?_)
        | (refine store_whole rfl _ _ rfl rfl rfl (by rw [HSZ.out]; exact size32) hz (by rw [HSZ.out]; exact HZ.out) HON.out ?_))
      refine bodyPost_ret (results_cell_row rfl _ _ w.heap.size _ R (0, 0) _ rfl (hz.rowAt _) Tryz.underlying24 rfl (by rw [HSZ.out]; exact size32)) rfl ⟨by rw [HR.out], grown_row hg (.inr (Nat.le_refl _)) _⟩
end Sh
end Go.Proofs.YtoaimjielnempaaGreatDoor
