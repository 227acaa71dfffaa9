/- Whatever the text, the block and the id: sealed texts are opened, others are not, and a nil keeper answers as the document says: 'RecoverSeals' returns true, and its arguments read as they read before. Its condition is the row's own: the library's variables that are listed read as listed when the call begins. -/
import Derived.Test.YtoaimjielnempaaGreatDoorRkV
import Derived.Test.YtoaimjielnempaaGreatDoorLaws
import Derived.Test.YtoaimjielnempaaGreatDoorRkB
import Derived.Test.YtoaimjielnempaaGreatDoorRkC
import Derived.Test.YtoaimjielnempaaGreatDoorRkD
import Derived.Test.YtoaimjielnempaaGreatDoorRkX1
import Derived.Test.YtoaimjielnempaaGreatDoorRkX2
import Derived.LaidOnce
import Derived.FnData
import Derived.MakeChecks
import Derived.LaidLaws
namespace Go.Proofs.YtoaimjielnempaaGreatDoor
set_option linter.unusedVariables false
set_option linter.unusedSimpArgs false
open Go.ChangeShapes Go.WideShapes Go.ChangeAt Go.RowKit
namespace Seals
theorem gErr : Tryz.prog.globalNamed "strconv.ErrSyntax" = some 0 := by kernel_rfl
theorem tErr : (Tryz.prog.globals[0]?).map (·.type) = some 245 := by kernel_rfl
theorem iErr0 : (match Tryz.prog.underlying 245 with | some (.interface _) => true | _ => false) = true := by kernel_rfl
theorem iErr : ∃ ms, Tryz.prog.underlying 245 = some (.interface ms) := by
  have h := iErr0
  split at h
  · rename_i ms e
    exact ⟨ms, e⟩
  · cases h
theorem plain : (Rows.recoverSealsRow.laid.all fun x => x.2.handleName?.isNone) = true := by kernel_rfl
/-- What the condition gives the run: strconv.ErrSyntax holds an interface's value. -/
theorem fits_of {W : World} (h : laidMetH Tryz.prog Rows.recoverSealsRow.laid W) : Ev.Fits Tryz.prog W.heap.size W := by
  rw [MakeChecks.laidMetH_plain _ _ _ plain] at h
  obtain ⟨ps, ⟨_, _, _, _, _, _, _, _, _, _, ⟨_, _, _, _, _, _, _, _, _, _, ⟨_, _, _, _, _, _, _, _, _, _, ⟨_, _, _, _, _, _, _, _, _, _, ⟨g0, t0, cs0, f0, p0, q0, hg0, ht0, hv0, hd0, _, e0⟩, _⟩, _⟩, _⟩, _⟩, _, hrows⟩ := h
  obtain rfl := Option.some.inj (gErr.symm.trans hg0)
  obtain rfl := Option.some.inj (tErr.symm.trans ht0)
  obtain ⟨ms, hi⟩ := iErr
  obtain ⟨f1, u, v, hcs, _, _⟩ := iface_of_trod hi hd0
  have hc := World.var?_cell hg0 hv0 0
  have hc2 : W.cell? ⟨0, 0, none⟩ = some (.iface u v) := by
    rw [hc, ← Array.getElem?_toList, hcs]
    rfl
  exact ⟨.iface u v, hc2, .inr ⟨u, v, rfl⟩, World.block_lt_of_cell? W _ hc2⟩
/-- The law at every text that may come in. -/
theorem law_any (s : ByteArray) (hs : s.size ≤ 140737488351232) (v u : Array Value) (hv : v.size = 69) (hu : u.size = 32) (w : World) (fit : Ev.Fits Tryz.prog w.heap.size w) :
    Calls Tryz.prog 3 #[.string s, .agg v, .agg u] w fun e w' => e = .returned (.bool true) ∧ Below w.heap.size w w' := by
  have key : Calls Tryz.prog 3 #[.string s, .agg v, .agg u] w fun e w' => e = .returned (.bool true) ∧ w.grownBy w' none := by
    by_cases h4 : 4 ≤ s.size
    · by_cases hb : Sh.sealB (s.extract 0 (s.size - 4)) = s
      · exact Rk.law_sealed s h4 hs hb v u hv hu w fit
      · exact Rk.law_other s h4 hs hb v u hv hu w fit
    · exact Rk.law_short s (by omega) v u hv hu w fit
  exact key.mono fun e w' ⟨h1, h2⟩ => ⟨h1, Below.of_grown h2 (Nat.le_refl _) (by rintro g h; cases h)⟩
set_option maxRecDepth 100000 in
theorem agg_of {W : World} {base : Nat} {t : TypeId} {v : Value} (h : Value.okWide Tryz.prog W .any base t v) (n : Nat) (hc : Tryz.prog.cellsOf t = n) (hd : (match Tryz.prog.underlying t with | some (.struct _) | some (.array _ _) => true | _ => false) = true) : ∃ cs : Array Value, v = .agg cs ∧ cs.size = n := by
  unfold Value.okWide at h
  split at h
  · obtain ⟨cs, h1, h2, _⟩ := h
    exact ⟨cs, h1, by rw [h2, hc]⟩
  · obtain ⟨cs, h1, h2, _⟩ := h
    exact ⟨cs, h1, by rw [h2, hc]⟩
  · rename_i h1 h2
    exfalso
    split at hd
    · rename_i fs hu; exact h1 fs hu
    · rename_i n e hu; exact h2 n e hu
    · cases hd
set_option maxRecDepth 100000 in
theorem lifted (os : Os) (started : os.Started) (H : Type) (enc : TypeId × Value → H) :
    ReturnsInHanded {} Tryz.checked os 3 .any (fun w args => (Rows.recoverSealsSpec.pre enc Tryz.prog Tryz.f3 Rows.recoverSealsRow.domain false w args ∧ laidMetH Tryz.prog Rows.recoverSealsRow.laid w) ∧ sizedMet enc Tryz.prog Tryz.f3 (OpenSpec.ofChange Rows.recoverSealsSpec) false w args)
      (Rows.recoverSealsSpec.post enc Tryz.prog Tryz.f3 false true false false) := by
  refine returnsInHanded_of_change_and (C := Tryz.checked) (X := fun w _ => laidMetH Tryz.prog Rows.recoverSealsRow.laid w) (fun _ _ _ hh h => h.of_heap hh) Law.own started (by kernel_rfl) Tryz.func3
    (ChangeSpec.witness_shaped (enc := enc) (C := Tryz.checked) (os := os) (X := fun w _ => laidMetH Tryz.prog Rows.recoverSealsRow.laid w) false (Wit.laidW os) #[.string .empty, .agg Tryz.zeroCells29, .agg Sh.zero32] 8 rfl (World.shaped_of_RefB (by kernel_rfl) (by kernel_rfl)) (by kernel_rfl) (by kernel_rfl) (by kernel_rfl)
      (by rw [MakeChecks.laidMetH_plain _ _ _ plain]; exact Wit.met os _)) ?_
  intro W base args ds gs before hval0 hW hcnd hsz0 hL _
  have hval : ∀ (j : Nat) t v, Tryz.f3.params[j]? = some t → args[j]? = some v → Value.okWide Tryz.prog W .any base t v := hval0
  have hsz : (DataW.weightsEach Tryz.prog (Tryz.f3.params.toList ++ Rows.recoverSealsSpec.plain.varTypes Tryz.prog) (ds ++ gs)).all (· ≤ reachBytes) = true := hsz0
  have hW' := hW
  obtain ⟨p, q, hA0, hV, rfl, hfz, hnd⟩ := hW
  have hA : DataW.TrodAll enc Tryz.prog W 0 (fun _ => true) true Tryz.f3.params.toList args.toList ds p := hA0
  rw [Tryz.params3] at hA hval hsz
  obtain ⟨rfl, rfl⟩ := trodVars_none hV
  obtain ⟨v0, v1, v2, d0, d1, d2, p0, p1, p2, rfl, rfl, rfl, h0, h1, h2⟩ := trodAll_three hA
  have hr : reachBytes = 140737488351232 := rfl
  obtain ⟨s, rfl, rfl, _, _⟩ := Go.ChangeMaps.open_string Tryz.underlying9 (hval 0 9 v0 rfl rfl) h0
  have hss : s.size ≤ 140737488351232 := by
    have h := sized_string hsz (j := 0) (t := 9) (bytes := s.data.toList) rfl rfl
    have h3 : s.data.toList.length = s.size := Array.length_toList
    omega
  obtain ⟨v, rfl, hv⟩ := agg_of (hval 1 29 v1 rfl rfl) 69 (by kernel_rfl) (by kernel_rfl)
  obtain ⟨u, rfl, hu⟩ := agg_of (hval 2 24 v2 rfl rfl) 32 (by kernel_rfl) (by kernel_rfl)
  clear hA0 hval0 hval
  refine (law_any s hss v u hv hu W (fits_of hL)).mono fun e W' ⟨he, hb⟩ => ?_
  subst he
  exact ⟨_, rfl, Law.post_true rfl rfl rfl (by kernel_rfl) ⟨rfl, rfl, rfl⟩ hW' hb⟩
theorem andI {a b : Bool} (h : a = true) (g : b = true) : (a && b) = true := by rw [h, g]; rfl
set_option maxRecDepth 100000 in
theorem closed : joinedFacts Tryz.prog 3 Tryz.f3 Rows.recoverSealsSpec Rows.recoverSealsRow = true := by
  unfold joinedFacts
  exact andI (andI (andI (andI (andI (andI (andI (andI (andI (andI (andI (andI (andI (andI (andI (andI (andI (andI (andI (andI (andI (andI (andI (andI (andI (andI (andI (andI (andI (andI (andI (k0) k1) k2) k3) k4) k5) k6) k7) k8) Clo.k9) Clo.k10) Clo.k11) Clo.k12) k13) k14) k15) k16) k17) k18) k19) k20) k21) k22) k23) k24) k25) k26) k27) (by kernel_rfl)) k29) k30) k31
set_option maxRecDepth 100000 in
theorem named : Tryz.prog.funcNamed Rows.recoverSealsRow.func = some 3 := by kernel_rfl
set_option maxRecDepth 100000 in
theorem inst : Tryz.f3.isInstance Tryz.prog Rows.recoverSealsRow.origin Rows.recoverSealsRow.targs := of_decide_eq_true (by kernel_rfl)
set_option maxRecDepth 100000 in
theorem wrap : Tryz.f3.isWrapper Tryz.prog Rows.recoverSealsRow.wrapper Rows.recoverSealsRow.mainSum := by unfold Func.isWrapper; first | (rw [if_pos (by decide +kernel)]; kernel_rfl) | (rw [if_neg (by decide +kernel)]; exact ⟨rfl, rfl⟩)
theorem seals_holds : Rows.RecoverSealsSaid :=
  OpenClaim.holds_of_wide 3 Tryz.f3 rfl rfl rfl rfl rfl rfl rfl ⟨rfl, rfl, rfl, rfl, rfl⟩ rfl rfl rfl rfl rfl named Tryz.func3 closed inst wrap
    (fun os started H enc _ => lifted os started H enc)
#print axioms seals_holds
end Seals
end Go.Proofs.YtoaimjielnempaaGreatDoor
