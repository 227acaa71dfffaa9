/- Whatever the header and the id: a nil chain answers as the document says: 'ChainNil' returns true, and its arguments read as they read before. No condition. -/
import Derived.Test.YtfpghnldcbhniaaGreatCnC
namespace Go.Proofs.YtfpghnldcbhniaaGreat
set_option linter.unusedVariables false
set_option linter.unusedSimpArgs false
open Go.ChangeShapes Go.WideShapes Go.ChangeAt Go.RowKit
namespace Chain

theorem nil_any (n m : Nat → Int) (w : World) : Calls Tryz.prog 3 #[.agg (Ev.rowV n Ev.hdrK 0).toArray, .agg (Ev.rowV m Ev.hashK 0).toArray] w fun e w' => e = .returned (.bool true) ∧ Below w.heap.size w w' := by
  obtain ⟨h', e⟩ := Ev.isE_ok (Ev.law17 n m)
  have one : Ev.OneOk Tryz.prog 3 (Ev.run Ev.fn Ev.plug1 100 3) := fun B W ι h w xs vs r h' rel hv e => Ev.run_ok Ev.env Ev.ext_ok Ev.mixed Ev.fn_ok Ev.plug1_ok 100 B W ι h w _ xs vs r h' rel hv e
  refine Ev.run_calls one (vs := [.agg (Ev.rowV n Ev.hdrK 0).toArray, .agg (Ev.rowV m Ev.hashK 0).toArray]) (fun c => ?_) w (v := .bool true) (fun _ _ hv => hv.bool_inv) e
  obtain ⟨h1, h2⟩ := Ev.row_VL c n Ev.hdrK 0
  obtain ⟨h3, h4⟩ := Ev.row_VL c m Ev.hashK 0
  exact .cons (.agg _ _ h1 h2) (.cons (.agg _ _ h3 h4) .nil)

def hdrZ : Value := .agg (Ev.rowV (fun _ => 0) Ev.hdrK 0).toArray
def hashZ : Value := .agg (Ev.rowV (fun _ => 0) Ev.hashK 0).toArray
set_option maxRecDepth 100000 in
theorem lifted (os : Os) (started : os.Started) (H : Type) (enc : TypeId × Value → H) :
    ReturnsInHanded {} Tryz.checked os 3 .any (Rows.chainNilSpec.pre6 enc Tryz.prog Tryz.f3 Rows.chainNilRow.domain false) (Rows.chainNilSpec.post enc Tryz.prog Tryz.f3 false true false false) := by
  refine returnsInHanded_of_change (C := Tryz.checked) Law.own started (by kernel_rfl) Tryz.func3
    (ChangeSpec.witness6 (enc := enc) (C := Tryz.checked) false ⟨#[], #[hdrZ, hashZ], []⟩ 8 (by kernel_rfl) (by kernel_rfl) (by kernel_rfl) (by kernel_rfl)) ?_
  intro W base args ds gs before hval0 hW hcnd _
  have hval : ∀ (j : Nat) t v, Tryz.f3.params[j]? = some t → args[j]? = some v → Value.okWide Tryz.prog W .any base t v := hval0
  have hW' := hW
  obtain ⟨p, q, hA0, hV, rfl, hfz, hnd⟩ := hW
  have hA : DataW.TrodAll enc Tryz.prog W 0 (fun _ => true) true Tryz.f3.params.toList args.toList ds p := hA0
  rw [Tryz.params3] at hA hval
  obtain ⟨rfl, rfl⟩ := trodVars_none hV
  obtain ⟨v0, v1, d0, d1, p0, p1, rfl, rfl, rfl, h0, h1⟩ := trodAll_two hA
  obtain ⟨n, rfl⟩ := Ev.open_row (ks := Ev.hdrK) (hval 0 26 v0 rfl rfl) (by kernel_rfl) rfl (by kernel_rfl) (by kernel_rfl)
  obtain ⟨m, rfl⟩ := Ev.open_row (ks := Ev.hashK) (hval 1 24 v1 rfl rfl) (by kernel_rfl) rfl (by kernel_rfl) (by kernel_rfl)
  clear hA0 hval0 hval
  refine (nil_any n m W).mono fun e W' ⟨he, hb⟩ => ?_
  subst he
  exact ⟨_, rfl, Law.post_true rfl rfl rfl (by kernel_rfl) ⟨rfl, rfl, rfl⟩ hW' hb⟩

theorem nil_holds : Rows.ChainNilSaid :=
  OpenClaim.holds_of_wide 3 Tryz.f3 rfl rfl rfl rfl rfl rfl rfl ⟨rfl, rfl, rfl, rfl, rfl⟩ rfl rfl rfl rfl rfl (by kernel_rfl) Tryz.func3 (by kernel_rfl)
    (of_decide_eq_true (by kernel_rfl)) (by unfold Func.isWrapper; first | (rw [if_pos (by decide +kernel)]; kernel_rfl) | (rw [if_neg (by decide +kernel)]; exact ⟨rfl, rfl⟩))
    (fun os started H enc _ => lifted os started H enc)
#print axioms nil_holds
end Chain
end Go.Proofs.YtfpghnldcbhniaaGreat
