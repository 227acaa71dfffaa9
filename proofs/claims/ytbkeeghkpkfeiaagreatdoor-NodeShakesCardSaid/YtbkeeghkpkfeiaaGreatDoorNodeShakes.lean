/- Whatever the flag, the number and the port: a peer that comes shakes hands as the document says: 'NodeShakes' returns true, and its arguments read as they read before. Its condition is the row's own: the library's variables that are listed read as listed when the call begins. -/
import Derived.Test.YtbkeeghkpkfeiaaGreatDoorNnV
import Derived.Test.YtbkeeghkpkfeiaaGreatDoorLaws
import Derived.Test.YtbkeeghkpkfeiaaGreatDoorNnQ
import Derived.LaidOnce
import Derived.FnData
import Derived.MakeChecks
import Derived.Test.YtbkeeghkpkfeiaaGreatDoorNnX1
import Derived.Test.YtbkeeghkpkfeiaaGreatDoorNnX2
import Derived.LaidLaws
namespace Go.Proofs.YtbkeeghkpkfeiaaGreatDoor
set_option linter.unusedVariables false
set_option linter.unusedSimpArgs false
open Go.ChangeShapes Go.WideShapes Go.ChangeAt Go.RowKit
namespace Shakes
theorem gErr : Tryz.prog.globalNamed "strconv.ErrSyntax" = some 1 := by kernel_rfl
theorem tErr : (Tryz.prog.globals[1]?).map (·.type) = some 317 := by kernel_rfl
theorem iErr0 : (match Tryz.prog.underlying 317 with | some (.interface _) => true | _ => false) = true := by kernel_rfl
theorem iErr : ∃ ms, Tryz.prog.underlying 317 = some (.interface ms) := by
  have h := iErr0
  split at h
  · rename_i ms e
    exact ⟨ms, e⟩
  · cases h
theorem plain : (Rows.nodeShakesRow.laid.all fun x => x.2.handleName?.isNone) = true := by kernel_rfl
/-- What the condition gives the run: strconv.ErrSyntax holds an interface's value. -/
theorem fits_of {W : World} (h : laidMetH Tryz.prog Rows.nodeShakesRow.laid W) : Ev.Fits Tryz.prog W.heap.size W := by
  rw [MakeChecks.laidMetH_plain _ _ _ plain] at h
  obtain ⟨ps, ⟨g0, t0, cs0, f0, p0, q0, hg0, ht0, hv0, hd0, _, e0⟩, _, hrows⟩ := h
  obtain rfl := Option.some.inj (gErr.symm.trans hg0)
  obtain rfl := Option.some.inj (tErr.symm.trans ht0)
  obtain ⟨ms, hi⟩ := iErr
  obtain ⟨f1, u, v, hcs, _, _⟩ := iface_of_trod hi hd0
  have hc := World.var?_cell hg0 hv0 0
  have hc2 : W.cell? ⟨1, 0, none⟩ = some (.iface u v) := by
    rw [hc, ← Array.getElem?_toList, hcs]
    rfl
  exact ⟨.iface u v, hc2, .inr ⟨u, v, rfl⟩, World.block_lt_of_cell? W _ hc2⟩
set_option maxRecDepth 100000 in
theorem lifted (os : Os) (started : os.Started) (H : Type) (enc : TypeId × Value → H) :
    ReturnsInHanded {} Tryz.checked os 3 .any (fun w args => (Rows.nodeShakesSpec.pre enc Tryz.prog Tryz.f3 Rows.nodeShakesRow.domain false w args ∧ laidMetH Tryz.prog Rows.nodeShakesRow.laid w) ∧ sizedMet enc Tryz.prog Tryz.f3 (OpenSpec.ofChange Rows.nodeShakesSpec) false w args)
      (Rows.nodeShakesSpec.post enc Tryz.prog Tryz.f3 false true false false) := by
  refine returnsInHanded_of_change_and (C := Tryz.checked) (X := fun w _ => laidMetH Tryz.prog Rows.nodeShakesRow.laid w) (fun _ _ _ hh h => h.of_heap hh) Law.own started (by kernel_rfl) Tryz.func3
    (ChangeSpec.witness_shaped (enc := enc) (C := Tryz.checked) (os := os) (X := fun w _ => laidMetH Tryz.prog Rows.nodeShakesRow.laid w) false (Wit.laidW os) #[.bool false, .int .i64 0, .int .u16 0] 8 rfl (World.shaped_of_RefB (by kernel_rfl) (by kernel_rfl)) (by kernel_rfl) (by kernel_rfl) (by kernel_rfl)
      (by rw [MakeChecks.laidMetH_plain _ _ _ plain]; exact Wit.met os _)) ?_
  intro W base args ds gs before hval0 hW _ _ hL _
  have hval : ∀ (j : Nat) t v, Tryz.f3.params[j]? = some t → args[j]? = some v → Value.okWide Tryz.prog W .any base t v := hval0
  have hW' := hW
  obtain ⟨p, q, hA0, hV, rfl, hfz, hnd⟩ := hW
  have hA : DataW.TrodAll enc Tryz.prog W 0 (fun _ => true) true Tryz.f3.params.toList args.toList ds p := hA0
  rw [Tryz.params3] at hA hval
  obtain ⟨rfl, rfl⟩ := trodVars_none hV
  obtain ⟨v0, v1, v2, d0, d1, d2, p0, p1, p2, rfl, rfl, rfl, h0, h1, h2⟩ := trodAll_three hA
  obtain ⟨b, rfl, _, _⟩ := open_bool Tryz.underlying4 (hval 0 4 v0 rfl rfl) h0
  obtain ⟨n, rfl, _, _, _⟩ := open_int Tryz.underlying3 (hval 1 3 v1 rfl rfl) h1
  obtain ⟨z, rfl, _, _, wz⟩ := open_int Tryz.underlying22 (hval 2 22 v2 rfl rfl) h2
  have hz : 0 ≤ z ∧ z ≤ 65535 := by
    have m1 : IntKind.min .u16 = 0 := by decide
    have m2 : IntKind.max .u16 = 65535 := by decide
    simp only [Lit.wf, Bool.and_eq_true, decide_eq_true_eq] at wz
    rw [m1, m2] at wz
    exact wz
  clear hA0 hval0 hval
  refine (Ev.shakes_any b n z W (fits_of hL) hz.1 hz.2).mono fun e W' ⟨he, hb⟩ => ?_
  subst he
  exact ⟨_, rfl, Law.post_true rfl rfl rfl (by kernel_rfl) ⟨rfl, rfl, rfl⟩ hW' hb⟩

theorem andI {a b : Bool} (h : a = true) (g : b = true) : (a && b) = true := by rw [h, g]; rfl
set_option maxRecDepth 100000 in
theorem closed : joinedFacts Tryz.prog 3 Tryz.f3 Rows.nodeShakesSpec Rows.nodeShakesRow = true := by
  unfold joinedFacts
  exact andI (andI (andI (andI (andI (andI (andI (andI (andI (andI (andI (andI (andI (andI (andI (andI (andI (andI (andI (andI (andI (andI (andI (andI (andI (andI (andI (andI (andI (andI (andI (k0) k1) k2) k3) k4) k5) k6) k7) k8) Clo.k9) Clo.k10) Clo.k11) Clo.k12) k13) k14) k15) k16) k17) k18) k19) k20) k21) k22) k23) k24) k25) k26) k27) (by kernel_rfl)) k29) k30) k31
set_option maxRecDepth 100000 in
theorem named : Tryz.prog.funcNamed Rows.nodeShakesRow.func = some 3 := by kernel_rfl
set_option maxRecDepth 100000 in
theorem inst : Tryz.f3.isInstance Tryz.prog Rows.nodeShakesRow.origin Rows.nodeShakesRow.targs := of_decide_eq_true (by kernel_rfl)
set_option maxRecDepth 100000 in
theorem wrap : Tryz.f3.isWrapper Tryz.prog Rows.nodeShakesRow.wrapper Rows.nodeShakesRow.mainSum := by unfold Func.isWrapper; first | (rw [if_pos (by decide +kernel)]; kernel_rfl) | (rw [if_neg (by decide +kernel)]; exact ⟨rfl, rfl⟩)
theorem shakes_holds : Rows.NodeShakesSaid :=
  OpenClaim.holds_of_wide 3 Tryz.f3 rfl rfl rfl rfl rfl rfl rfl ⟨rfl, rfl, rfl, rfl, rfl⟩ rfl rfl rfl rfl rfl named Tryz.func3 closed inst wrap
    (fun os started H enc _ => lifted os started H enc)
#print axioms shakes_holds
end Shakes
end Go.Proofs.YtbkeeghkpkfeiaaGreatDoor
