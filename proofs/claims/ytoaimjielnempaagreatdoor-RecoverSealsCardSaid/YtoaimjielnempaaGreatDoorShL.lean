/- The sum of a text; the sum of the sum. -/
import Derived.Test.YtoaimjielnempaaGreatDoorShK
namespace Go.Proofs.YtoaimjielnempaaGreatDoor
set_option linter.unusedVariables false
set_option linter.unusedSimpArgs false
open Go.RowKit Go.Maps
namespace Sh
theorem bvs_one (l : List UInt8) : (bvs l).toArray.all (·.oneCell') = true := by
  rw [Array.all_eq_true_iff_forall_mem]
  intro u hu
  simp only [List.mem_toArray] at hu
  obtain ⟨_, _, rfl⟩ := List.mem_map.1 hu
  rfl
theorem sha_size (l : List UInt8) : (bvs (shaB l)).toArray.size = 32 := by simp [bvs_len, shaB, stB_len]
set_option maxHeartbeats 2000000 in
set_option maxRecDepth 100000 in
theorem sum_any (s : ByteArray) (hs : s.size ≤ 140737488355200) (w : World) :
    Calls Tryz.prog 60 #[.string s] w fun e w' => e = .returned (.agg (bvs (shaB s.data.toList)).toArray) ∧ w.grownBy w' none := by
  have b0 : Whole (w.alloc (.cells zero32 24)) w.heap.size 24 zero32 := Whole.fresh _ _ _
  have g0 : w.grownBy (w.alloc (.cells zero32 24)) none := grown_alloc (grown_refl _ _) _
  have z0 : (w.alloc (.cells zero32 24)).heap.size = w.heap.size + 1 := by simp
  obtain ⟨R, hR⟩ : ∃ R, R = (bvs (shaB s.data.toList)).toArray := ⟨_, rfl⟩
  have HSZ := Lib.hid (show R.size = 32 by rw [hR]; exact sha_size _)
  have HON := Lib.hid (show R.all (·.oneCell') = true by rw [hR]; exact bvs_one _)
  have HR := Lib.hid hR
  clear hR
  have hls : s.data.toList.length = s.size := Array.length_toList
  unfold zero32 at b0 g0 z0
  go_enter Tryz.func60, Tryz.ntmps60
  go_wp2_with fail
  generalize World.alloc w _ = w1 at b0 g0 z0 ⊢
  refine (new_any _).mono ?_
  rintro e w2 ⟨g, hg, rfl, hc2, hg2⟩
  have b2 := b0.grown hg2 (by simp)
  have gg2 := g0.trans hg2
  clear b0 hg2
  go_wp2_with fail
  refine (write_any g w1.heap.size first first_ok 0 (.slice none 0 0) [] s w2 hc2 ⟨rfl, .inl ⟨rfl, rfl⟩⟩ hg s.data.toList rfl (by omega) (by omega)).mono ?_
  rintro e w3 ⟨rfl, v3, hc3, hA3, hb3⟩
  have b3 := b2.below hb3 (by omega)
  have gg3 : w.grownBy w3 none := ⟨hb3.os.trans gg2.os, hb3.tape.trans gg2.tape, hb3.output.trans gg2.output, Nat.le_trans gg2.size hb3.size, fun k hk hne => (hb3.block k (by omega)).trans (gg2.block k hk hne)⟩
  rw [show 0 + s.size = s.data.toList.length by omega] at hc3
  have hlt3 := b3.lt
  clear b2 gg2 hc2 hb3
  go_wp2_with (first
    | (go_at_call 124; refine (hsum_any g w1.heap.size _ v3 s.data.toList _ hc3 hA3 (by omega)).mono ?_; rw [← HR.out]; rintro e w4 ⟨rfl, hg4⟩; have b4 := b3.grown hg4 (by simp); have gg4 := gg3.trans hg4)
    | (refine store_whole rfl _ _ rfl rfl rfl (by rw [HSZ.out]; exact size32) b4 (by rw [HSZ.out]; rfl) HON.out ?_))
  refine bodyPost_ret (results_cell_row rfl _ _ w.heap.size _ R (0, 0) _ rfl (b4.rowAt _) Tryz.underlying24 rfl (by rw [HSZ.out]; exact size32)) rfl ⟨by rw [HR.out], grown_row gg4 (.inr (Nat.le_refl _)) _⟩
set_option maxHeartbeats 2000000 in
set_option maxRecDepth 100000 in
theorem twice_any (s : ByteArray) (hs : s.size ≤ 140737488355200) (w : World) :
    Calls Tryz.prog 20 #[.string s] w fun e w' => e = .returned (.agg (bvs (shaB (shaB s.data.toList))).toArray) ∧ w.grownBy w' none := by
  have b0 : Whole (w.alloc (.cells zero32 24)) w.heap.size 24 zero32 := Whole.fresh _ _ _
  have g0 : w.grownBy (w.alloc (.cells zero32 24)) none := grown_alloc (grown_refl _ _) _
  have z0 : (w.alloc (.cells zero32 24)).heap.size = w.heap.size + 1 := by simp
  obtain ⟨R, hR⟩ : ∃ R, R = (bvs (shaB s.data.toList)).toArray := ⟨_, rfl⟩
  have HSZ := Lib.hid (show R.size = 32 by rw [hR]; exact sha_size _)
  have HON := Lib.hid (show R.all (·.oneCell') = true by rw [hR]; exact bvs_one _)
  have HR := Lib.hid hR
  clear hR
  obtain ⟨S, hS⟩ : ∃ S, S = (bvs (shaB (shaB s.data.toList))).toArray := ⟨_, rfl⟩
  have HSZ2 := Lib.hid (show S.size = 32 by rw [hS]; exact sha_size _)
  have HON2 := Lib.hid (show S.all (·.oneCell') = true by rw [hS]; exact bvs_one _)
  have HS := Lib.hid hS
  clear hS
  unfold zero32 at b0 g0 z0
  go_enter Tryz.func20, Tryz.ntmps20
  go_wp2_with fail
  generalize World.alloc w _ = w1 at b0 g0 z0 ⊢
  refine (sum_any s hs _).mono ?_
  rw [← HR.out]
  rintro e w2 ⟨rfl, hg2⟩
  have b2 := b0.grown hg2 (by simp)
  have gg2 := g0.trans hg2
  have hlt2 := b2.lt
  clear b0 hg2 g0
  have o2 : Whole (w2.alloc (.cells zero32 24)) w2.heap.size 24 zero32 := Whole.fresh _ _ _
  have b3 := b2.alloc (.cells zero32 24)
  have gg3 := grown_alloc gg2 (.cells zero32 24)
  unfold zero32 at o2 b3 gg3
  clear b2 gg2
  have hll : (shaB s.data.toList).length = 32 := by simp [shaB, stB_len]
  have HLL := Lib.hid hll
  clear hll
  go_wp2_with (refine store_whole rfl _ _ rfl rfl rfl (by rw [HSZ.out]; exact size32) o2 (by rw [HSZ.out]; rfl) HON.out ?_
               have o4 := o2.rowAt R
               have b4 := b3.row_aside (g' := w2.heap.size) (by omega) R
               have gg4 := grown_row (g := w2.heap.size) gg3 (.inr (by omega)) R
               clear o2 b3 gg3
               generalize World.setRow _ _ _ = w4 at o4 b4 gg4 ⊢
               have hcv : (convert 34 9 (.slice (some ⟨w2.heap.size, 0, none⟩) 32 32)).run Tryz.prog w4 = .ok (.string ⟨(shaB s.data.toList).toArray⟩) w4 := by
                 have h := run_convert_bytes_back (P := Tryz.prog) w4 34 9 5 ⟨w2.heap.size, 0, none⟩ 32 (shaB s.data.toList) Tryz.underlying34 Tryz.underlying5 Tryz.underlying9 (fun i hi => by
                   rw [Addr.add_mid, o4.cell, HR.out]
                   simp [bvs, List.getElem?_eq_getElem hi])
                 rw [HLL.out] at h
                 exact h)
  refine (sum_any ⟨(shaB s.data.toList).toArray⟩ (by show (shaB s.data.toList).toArray.size ≤ _; simp [HLL.out]) _).mono ?_
  rintro e w5 ⟨rfl, hg5⟩
  rw [show (⟨(shaB s.data.toList).toArray⟩ : ByteArray).data.toList = shaB s.data.toList from rfl, ← HS.out]
  have b5 := b4.grown hg5 (by simp)
  have gg5 := gg4.trans hg5
  clear b4 gg4 o4 hcv
  go_wp2_with (refine store_whole rfl _ _ rfl rfl rfl (by rw [HSZ2.out]; exact size32) b5 (by rw [HSZ2.out]; rfl) HON2.out ?_)
  refine bodyPost_ret (results_cell_row rfl _ _ w.heap.size _ S (0, 0) _ rfl (b5.rowAt _) Tryz.underlying24 rfl (by rw [HSZ2.out]; exact size32)) rfl ⟨by rw [HS.out], grown_row gg5 (.inr (Nat.le_refl _)) _⟩
end Sh
end Go.Proofs.YtoaimjielnempaaGreatDoor
