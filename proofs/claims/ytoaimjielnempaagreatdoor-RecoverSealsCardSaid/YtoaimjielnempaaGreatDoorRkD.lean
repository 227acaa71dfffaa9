/- Sealed texts are opened, others are not; a nil keeper: the law, walked (a text without its sum). -/
import Derived.Test.YtoaimjielnempaaGreatDoorRkB
namespace Go.Proofs.YtoaimjielnempaaGreatDoor
set_option linter.unusedVariables false
set_option linter.unusedSimpArgs false
open Go.RowKit Go.Maps
namespace Rk
open Sh
set_option maxHeartbeats 4000000
set_option maxRecDepth 100000
theorem law_other (s : ByteArray) (h4 : 4 ≤ s.size) (hs : s.size ≤ 140737488351232) (hb : ¬ sealB (s.extract 0 (s.size - 4)) = s) (v u : Array Value) (hv : v.size = 69) (hu : u.size = 32) (w : World) (fit : Ev.Fits Tryz.prog w.heap.size w) :
    Calls Tryz.prog 3 #[.string s, .agg v, .agg u] w fun e w' => e = .returned (.bool true) ∧ w.grownBy w' none := by
  have x0 : Whole ((w.alloc (.cells v 29)).alloc (.cells u 24)) w.heap.size 29 v := (Whole.fresh _ _ _).alloc _
  have y0 : Whole ((w.alloc (.cells v 29)).alloc (.cells u 24)) (w.heap.size + 1) 24 u := Whole.fresh_at _ _ _ (by simp)
  have g0 : w.grownBy ((w.alloc (.cells v 29)).alloc (.cells u 24)) none := grown_alloc (grown_alloc (grown_refl _ _) _) _
  obtain ⟨R, hR⟩ : ∃ R, R = (bvs (shaB (shaB s.data.toList))).toArray := ⟨_, rfl⟩
  have HSZ := Lib.hid (show R.size = 32 by rw [hR]; exact sha_size _)
  have HON := Lib.hid (show R.all (·.oneCell') = true by rw [hR]; exact bvs_one _)
  have HR := Lib.hid hR
  have HS := Lib.hid hs
  have HV := Lib.hid hv
  have HU := Lib.hid hu
  clear hR hv hu
  go_enter Tryz.func3, Tryz.ntmps3
  go_wp2_with (go_at_call 4; refine (rtwice_any s (by omega) _).mono ?_)
  rw [← HR.out]
  rintro e w1 ⟨rfl, g1⟩
  have x1 := (x0.grown g1 (by simp)).alloc (.cells zero32 23)
  have y1 := (y0.grown g1 (by simp)).alloc (.cells zero32 23)
  have gg1 := grown_alloc (g0.trans g1) (.cells zero32 23)
  have h1 := Whole.fresh w1 23 zero32
  have n1 : w.heap.size + 1 < w1.heap.size := (y0.grown g1 (by simp)).lt
  have ge1 := (g0.trans g1).size
  clear x0 y0 g0 g1
  unfold zero32 at x1 y1 gg1 h1
  go_wp2_with (refine store_whole (cs' := R) rfl _ _ rfl rfl rfl (by rw [HSZ.out]; exact size32u) h1 (by rw [HSZ.out]; rfl) HON.out ?_
               have K2 : Kept w w1.heap.size v u R (World.setRow _ w1.heap.size R) := ⟨x1.row_aside (by omega) R, y1.row_aside (by omega) R, h1.rowAt R, grown_row gg1 (.inr ge1) R, fits_grown fit (grown_row gg1 (.inr ge1) R)⟩
               clear x1 y1 gg1 h1
               generalize World.setRow _ _ _ = w2 at K2 ⊢
               generalize w1.heap.size = nh at K2 n1 ge1 ⊢)
  refine (sealed_any s (by omega) _).mono ?_
  rintro e w3 ⟨rfl, g3⟩
  have K3 := K2.grown g3
  clear K2 g3
  go_wp2_with fail
  refine (unseal_own s (by omega) _).mono ?_
  rintro e w4 ⟨rfl, g4⟩
  have K4 := K3.grown g4
  clear K3 g4
  go_wp2_with fail
  have HUN := unseal_any s (by omega) w4
  rw [if_neg (fun h => hb h.2)] at HUN
  obtain ⟨m, hm⟩ : ∃ m, s.size = m + 4 := ⟨s.size - 4, by omega⟩
  have hm2 : s.size - 4 = m := by omega
  
  have hbt := (sealB_iff s h4)
  rw [hm2] at hbt
  have HBT : Hid (¬ tail4 (s.extract 0 m) = s.extract m s.size) := Lib.hid (by rw [← hbt]; rw [← hm2]; exact hb)
  clear hbt hb
  refine HUN.mono ?_
  rintro e w5 ⟨rfl, g5⟩
  have K5 := K4.grown g5
  clear K4 g5 HUN
  obtain ⟨R2, hR2⟩ : ∃ R2, R2 = (bvs (shaB (shaB (s.extract 0 m).data.toList))).toArray := ⟨_, rfl⟩
  have HSZ2 := Lib.hid (show R2.size = 32 by rw [hR2]; exact sha_size _)
  have HON2 := Lib.hid (show R2.all (·.oneCell') = true by rw [hR2]; exact bvs_one _)
  have HR2 := Lib.hid hR2
  clear hR2
  have e1 : ((s.size : Int) - 4) = (m : Int) := by omega
  have e2 : (0 ≤ (m : Int)) = True := eq_true (by omega)
  have e3 : ((m : Int) ≤ (s.size : Int)) = True := eq_true (by omega)
  have e4 : ((4 : Int) ≤ (s.size : Int)) = True := eq_true (by omega)
  have hxp : (s.extract 0 m).size = m := by rw [ByteArray.size_extract]; omega
  have HXP := Lib.hid hxp
  have HMM := Lib.hid hm
  clear hm hxp hm2
  go_wp2_with (go_at_call 4; refine (rtwice_any (s.extract 0 m) (by rw [HXP.out]; have := HMM.out; omega) _).mono ?_)
  rw [← HR2.out]
  rintro e w51 ⟨rfl, g51⟩
  have K51 := K5.grown g51
  clear K5 g51
  have h51 := Whole.fresh w51 23 zero32
  have g52 := grown_alloc (grown_refl w51 none) (.cells zero32 23)
  unfold zero32 at h51 g52
  go_wp2_with (refine store_whole (cs' := R2) rfl _ _ rfl rfl rfl (by rw [HSZ2.out]; exact size32u) h51 (by rw [HSZ2.out]; rfl) HON2.out ?_
               have K52 := K51.grown (grown_row (g := w51.heap.size) g52 (.inr (Nat.le_refl _)) R2)
               have h52 := h51.rowAt R2
               clear K51 h51 g52
               generalize World.setRow _ w51.heap.size _ = w52 at K52 h52 ⊢
               generalize w51.heap.size = nd at h52 ⊢)
  have hcv2 := conv4 (s := s.extract 0 m) (HR2.out ▸ h52)
  have heq : ((tail4 (s.extract 0 m)).toList == (s.extract m s.size).toList) = false := by
    rw [beq_eq_false_iff_ne]
    intro h
    rw [ByteArray.toList_eq, ByteArray.toList_eq] at h
    exact HBT.out (ByteArray.ext (Array.ext' h))
  simp only [Act.put]
  go_quiet (fail)
  have K5 := K52.grown (grown_drewN (grown_refl w52 none) nq)
  clear K52 h52 hcv2 heq
  generalize w52.drewN nq = w53 at K5 ⊢
  have hq : ((sealB s).toList == (s ++ tail4 s).toList) = true := beq_self_eq_true _
  have hsz : (9223372036854775807 < s.size + (tail4 s).size) = False := eq_false (by rw [tail4_size]; omega)
  go_wp2_with (go_at_call 7; refine (Ev.awake_any _ K5.fit).mono ?_; rintro e w6 ⟨rfl, b6⟩; have K6 := K5.grown (below_grown b6); have hcv := conv4_at (s := s) (HR.out ▸ K6.h); clear K5 b6)
  refine (open_nil _ K6.fit).mono ?_
  rintro e w7 ⟨rfl, b7⟩
  have K7 := K6.grown (below_grown b7)
  clear K6 b7 hcv hq hsz e1 e2 e3 e4
  have n7 := K7.h.lt
  have o8 := Whole.fresh w7 38 Tryz.zeroCells38
  obtain ⟨hd, hhd⟩ : ∃ hd : Array Value, hd.toList = v.toList.take hd.size ∧ hd.size = 68 := ⟨(v.toList.take 68).toArray, by simp [HV.out], by simp [HV.out]⟩
  go_wp2_with (first
    | (refine store_whole rfl _ _ rfl rfl rfl (by rw [zr_size]; exact sizeRn) o8 rfl zr_one ?_
       have o9 := o8.rowAt Tryz.zeroCells38
       have K9 := K7.grown (grown_row (g := w7.heap.size) (grown_alloc (grown_refl w7 none) (.cells Tryz.zeroCells38 38)) (.inr (Nat.le_refl _)) Tryz.zeroCells38)
       clear o8 K7
       generalize World.setRow _ w7.heap.size _ = w9 at o9 K9 ⊢
       generalize w7.heap.size = nr at o9 ⊢)
    | (refine load_arr (by rfl) _ _ rfl nr rfl Tryz.zeroCells38 _ o9 (take_self _) Tryz.underlying38 rfl (by rw [zr_size]; exact sizeRn) ?_)
    | (refine cmp_known (by rfl) .neq _ _ _ _ rfl _ _ (.bool false) rfl rfl (by rw [← zeroR_eq]; exact neqZ _ _ _) ?_)
    | (refine load_arr (by rfl) _ _ rfl w.heap.size rfl hd _ K9.b hhd.1 Tryz.underlying26 rfl (by rw [hhd.2]; exact size68) ?_)
    | (go_at_call 9; refine (header_nil _ _ _).mono ?_; rintro e w10 ⟨rfl, g10⟩; have K10 := K9.grown g10; clear K9 g10)
    | (refine load_arr (by rfl) _ _ rfl w.heap.size rfl v _ K10.b (take_self v) Tryz.underlying29 rfl (by rw [HV.out]; exact size69) ?_)
    | (go_at_call 10; refine (block_nil _ _ _).mono ?_; rintro e w11 ⟨rfl, g11⟩; have K11 := K10.grown g11; clear K10 g11)
    | (refine load_arr (by rfl) _ _ rfl (w.heap.size + 1) rfl u _ K11.i (take_self u) Tryz.underlying24 rfl (by rw [HU.out]; exact size32) ?_)
    | (go_at_call 11; refine (inval_nil _ _).mono ?_; rintro e w12 ⟨rfl, g12⟩; have K12 := K11.grown g12; clear K11 g12)
    | (go_at_call 12; refine (get_nil _ _).mono ?_; rintro e w' ⟨rfl, rfl⟩)
    | (go_at_call 13; refine (tip_nil _ K12.fit).mono ?_; rintro e w13 ⟨rfl, b13⟩; have K13 := K12.grown (below_grown b13); have o14 := Whole.fresh w13 24 zero32; have g14 := grown_alloc (grown_refl w13 none) (.cells zero32 24); unfold zero32 at o14 g14; clear K12 b13)
    | (refine store_whole (cs' := zero32) rfl _ _ rfl rfl rfl size32 o14 rfl zero32_one ?_; have o15 := o14.rowAt zero32; have K15 := K13.grown (grown_row (g := w13.heap.size) g14 (.inr (Nat.le_refl _)) zero32); clear K13 g14 o14; generalize World.setRow _ w13.heap.size _ = w15 at o15 K15 ⊢; generalize w13.heap.size = nt at o15 ⊢)
    | (go_at_call 14; refine (flush_nil _).mono ?_; rintro e w' ⟨rfl, rfl⟩)
    | (go_at_call 15; refine (put_nil _ _ _).mono ?_; rintro e w' ⟨rfl, rfl⟩)
    | (go_at_call 16; refine (chain_nil _).mono ?_; rintro e w' ⟨rfl, rfl⟩)
    | (go_at_call 17; refine (dead_nil _).mono ?_; rintro e w' ⟨rfl, rfl⟩)
    | (go_at_call 18; refine (size_nil _).mono ?_; rintro e w' ⟨rfl, rfl⟩)
    | (refine load_arr (by rfl) _ _ rfl nt rfl zero32 _ o15 (take_self _) Tryz.underlying24 rfl size32 ?_)
    | (refine cmp_known (by rfl) .eql _ _ _ _ rfl _ _ (.bool true) rfl rfl (eqlH _ _ _) ?_))
  go_ret
  exact ⟨rfl, K15.g⟩
end Rk
end Go.Proofs.YtoaimjielnempaaGreatDoor
