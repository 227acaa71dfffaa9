/- cmp.Compare at uint64 in the run. -/
import Derived.Test.YtfpghnldcbhniaaGreatPlS
namespace Go.Proofs.YtfpghnldcbhniaaGreat
set_option linter.unusedVariables false
set_option linter.unusedSimpArgs false
open Go.RowKit Go.Maps Go.Sort Go.Shelf
namespace Ev
theorem nan_any (x : Int) (w : World) : Calls Tryz.prog 228 #[.int .u64 x] w fun e w' => e = .returned (.bool false) ∧ w = w' := by
  go_enter Tryz.func228, Tryz.ntmps228
  go_wp2
  go_ret
  exact ⟨rfl, rfl⟩
def cmpI (x y : Int) : Int := if x < y then -1 else if y < x then 1 else 0
theorem cmp_any (x y : Int) (w : World) : Calls Tryz.prog 184 #[.int .u64 x, .int .u64 y] w fun e w' => e = .returned (.int .i64 (cmpI x y)) ∧ w = w' := by
  unfold cmpI
  by_cases h1 : x < y
  · rw [if_pos h1]
    go_enter Tryz.func184, Tryz.ntmps184
    go_wp2_with (go_at_call 228; refine (nan_any _ _).mono ?_; rintro e w' ⟨rfl, rfl⟩)
    go_ret
    exact ⟨rfl, rfl⟩
  · rw [if_neg h1]
    have e1 : (x < y) = False := eq_false h1
    by_cases h2 : y < x
    · rw [if_pos h2]
      clear h1
      go_enter Tryz.func184, Tryz.ntmps184
      go_wp2_with (go_at_call 228; refine (nan_any _ _).mono ?_; rintro e w' ⟨rfl, rfl⟩)
      go_ret
      exact ⟨rfl, rfl⟩
    · rw [if_neg h2]
      have e2 : (y < x) = False := eq_false h2
      clear h1 h2
      go_enter Tryz.func184, Tryz.ntmps184
      go_wp2_with (go_at_call 228; refine (nan_any _ _).mono ?_; rintro e w' ⟨rfl, rfl⟩)
      go_ret
      exact ⟨rfl, rfl⟩
noncomputable def cmpP (xs : List AV) (h : H) : E := two xs .no fun a b => a.int? .no fun j x => b.int? .no fun k y => bi (and' (eqK j .u64) (eqK k .u64)) (bi (ltI x y) (.ok (.int .i64 (-1)) h) (bi (ltI y x) (.ok (.int .i64 1) h) (.ok (.int .i64 0) h))) .no
theorem cmpP_ok : OneOk Tryz.prog 184 cmpP := by
  intro B W ι h w xs vs r h' rel hv e
  obtain ⟨a, b, rfl, e1⟩ := two_ok (show two xs E.no _ = _ from e)
  obtain ⟨j, x, rfl, e2⟩ := int_ok e1
  obtain ⟨k, y, rfl, e3⟩ := int_ok e2
  obtain ⟨hk, e4⟩ := biE e3
  obtain ⟨hj, hk⟩ := and'_eq hk
  cases eqK_eq hj
  cases eqK_eq hk
  have e5 : r = .int .i64 (cmpI x y) ∧ h' = h := by
    unfold cmpI
    cases h1 : ltI x y with
    | true =>
      rw [h1] at e4
      obtain ⟨g1, g2⟩ := okE e4
      rw [if_pos ((ltI_iff _ _).1 h1)]
      exact ⟨g1.symm, g2.symm⟩
    | false =>
      rw [h1] at e4
      have n1 : ¬ x < y := fun h => by rw [(ltI_iff _ _).2 h] at h1; cases h1
      rw [if_neg n1]
      cases h2 : ltI y x with
      | true =>
        rw [h2] at e4
        obtain ⟨g1, g2⟩ := okE e4
        rw [if_pos ((ltI_iff _ _).1 h2)]
        exact ⟨g1.symm, g2.symm⟩
      | false =>
        rw [h2] at e4
        obtain ⟨g1, g2⟩ := okE e4
        have n2 : ¬ y < x := fun h => by rw [(ltI_iff _ _).2 h] at h2; cases h2
        rw [if_neg n2]
        exact ⟨g1.symm, g2.symm⟩
  obtain ⟨rfl, rfl⟩ := e5
  cases hv with
  | cons hx hv =>
    cases hv with
    | cons hy hnil =>
      cases hnil
      rw [hx.int_inv, hy.int_inv]
      refine ⟨fun w0 => enters_of Tryz.func184 (by kernel_rfl) rfl _ w0, (cmp_any x y w).mono ?_⟩
      rintro e w' ⟨rfl, rfl⟩
      exact ⟨_, ι, rfl, rel, Ext.refl _ _ _, .int _ _⟩
end Ev
end Go.Proofs.YtfpghnldcbhniaaGreat
