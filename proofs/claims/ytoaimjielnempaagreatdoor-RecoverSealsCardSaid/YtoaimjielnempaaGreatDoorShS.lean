/- Sealed texts. -/
import Derived.Test.YtoaimjielnempaaGreatDoorShL
import Derived.IntWalk
namespace Go.Proofs.YtoaimjielnempaaGreatDoor
set_option linter.unusedVariables false
set_option linter.unusedSimpArgs false
open Go.RowKit Go.Maps
namespace Sh
/-- A text's sealed bytes. -/
def sealB (s : ByteArray) : ByteArray := s ++ ⟨((shaB (shaB s.data.toList)).take 4).toArray⟩
theorem sealB_size (s : ByteArray) : (sealB s).size = s.size + 4 := by
  unfold sealB
  rw [ByteArray.size_append]
  have : (⟨((shaB (shaB s.data.toList)).take 4).toArray⟩ : ByteArray).size = 4 := by
    show ((shaB (shaB s.data.toList)).take 4).toArray.size = 4
    simp [shaB, stB_len]
  omega
set_option maxHeartbeats 2000000 in
set_option maxRecDepth 100000 in
theorem sealed_any (s : ByteArray) (hs : s.size ≤ 140737488355200) (w : World) :
    Calls Tryz.prog 5 #[.string s] w fun e w' => e = .returned (.string (sealB s)) ∧ w.grownBy w' none := by
  obtain ⟨R, hR⟩ : ∃ R, R = (bvs (shaB (shaB s.data.toList))).toArray := ⟨_, rfl⟩
  have HSZ := Lib.hid (show R.size = 32 by rw [hR]; exact sha_size _)
  have HON := Lib.hid (show R.all (·.oneCell') = true by rw [hR]; exact bvs_one _)
  have HR := Lib.hid hR
  clear hR
  have hadd : ∀ W : World, (Op.stringOp .add s ⟨((shaB (shaB s.data.toList)).take 4).toArray⟩).run Tryz.prog W = .ok (.string (sealB s)) W := fun W => run_string_add_sum W _ _ (by
    have : (⟨((shaB (shaB s.data.toList)).take 4).toArray⟩ : ByteArray).size = 4 := by
      show ((shaB (shaB s.data.toList)).take 4).toArray.size = 4
      simp [shaB, stB_len]
    omega)
  have HADD := Lib.hid hadd
  clear hadd
  go_enter Tryz.func5, Tryz.ntmps5
  go_wp2_with fail
  refine (twice_any s hs _).mono ?_
  rw [← HR.out]
  rintro e w2 ⟨rfl, gg2⟩
  have o2 : Whole (w2.alloc (.cells zero32 24)) w2.heap.size 24 zero32 := Whole.fresh _ _ _
  have gg3 := grown_alloc gg2 (.cells zero32 24)
  have hz2 := gg2.size
  unfold zero32 at o2 gg3
  clear gg2
  go_wp2_with (refine store_whole rfl _ _ rfl rfl rfl (by rw [HSZ.out]; exact size32) o2 (by rw [HSZ.out]; rfl) HON.out ?_
               have o4 := o2.rowAt R
               have gg4 := grown_row (g := w2.heap.size) gg3 (.inr (by omega)) R
               clear o2 gg3
               generalize World.setRow _ _ _ = w4 at o4 gg4 ⊢
               have hcv : (convert 34 9 (.slice (some ⟨w2.heap.size, 0, none⟩) 4 32)).run Tryz.prog w4 = .ok (.string ⟨((shaB (shaB s.data.toList)).take 4).toArray⟩) w4 := by
                 have h := run_convert_bytes_back (P := Tryz.prog) w4 34 9 5 ⟨w2.heap.size, 0, none⟩ 32 ((shaB (shaB s.data.toList)).take 4) Tryz.underlying34 Tryz.underlying5 Tryz.underlying9 (fun i hi => by
                   rw [Addr.add_mid, o4.cell, HR.out]
                   have hi' : i < 4 := by rw [List.length_take] at hi; omega
                   simp [bvs, List.getElem?_eq_getElem (show i < (shaB (shaB s.data.toList)).length by simp [shaB, stB_len]; omega)])
                 rw [show ((shaB (shaB s.data.toList)).take 4).length = 4 by simp [shaB, stB_len]] at h
                 exact h
               have hadd := HADD.out)
  go_ret
  exact ⟨rfl, gg4⟩
set_option maxHeartbeats 2000000 in
set_option maxRecDepth 100000 in
theorem unseal_any (s : ByteArray) (hs : s.size ≤ 140737488355200) (w : World) :
    Calls Tryz.prog 6 #[.string s] w fun e w' => e = .returned (.tuple (if 4 ≤ s.size ∧ sealB (s.extract 0 (s.size - 4)) = s then #[.string (s.extract 0 (s.size - 4)), .bool true] else #[.string .empty, .bool false])) ∧ w.grownBy w' none := by
  by_cases h4 : 4 ≤ s.size
  · obtain ⟨m, hm⟩ : ∃ m : Nat, s.size = m + 4 := ⟨s.size - 4, by omega⟩
    have e1 : ((s.size : Int) - 4) = (m : Int) := by omega
    have e2 : ((m : Int) < 0) = False := eq_false (by omega)
    have e3 : (0 ≤ (m : Int)) = True := eq_true (by omega)
    have e4 : ((m : Int) ≤ (s.size : Int)) = True := eq_true (by omega)
    have hx : (s.extract 0 m).size = m := by rw [ByteArray.size_extract]; omega
    have hm2 : s.size - 4 = m := by omega
    rw [hm2]
    have HM := Lib.hid hm
    clear hm hm2
    by_cases he : sealB (s.extract 0 m) = s
    · rw [if_pos ⟨h4, he⟩]
      go_enter Tryz.func6, Tryz.ntmps6
      go_wp2_with (go_at_call 5; refine (sealed_any (s.extract 0 m) (by omega) _).mono ?_; rw [he]; rintro e w2 ⟨rfl, gg2⟩)
      go_ret2
      exact ⟨rfl, gg2⟩
    · rw [if_neg (fun h => he h.2)]
      have hne : ((sealB (s.extract 0 m)).toList == s.toList) = false := by
        rw [beq_eq_false_iff_ne]
        intro h
        rw [ByteArray.toList_eq, ByteArray.toList_eq] at h
        exact he (ByteArray.ext (Array.ext' h))
      clear he
      go_enter Tryz.func6, Tryz.ntmps6
      go_wp2_with (go_at_call 5; refine (sealed_any (s.extract 0 m) (by omega) _).mono ?_; rintro e w2 ⟨rfl, gg2⟩)
      all_goals go_ret2
      all_goals exact ⟨rfl, gg2⟩
  · rw [if_neg (fun h => h4 h.1)]
    have e2 : ((s.size : Int) - 4 < 0) = True := eq_true (by omega)
    go_enter Tryz.func6, Tryz.ntmps6
    go_wp2_with fail
    go_ret2
    exact ⟨rfl, grown_refl _ _⟩
end Sh
end Go.Proofs.YtoaimjielnempaaGreatDoor
