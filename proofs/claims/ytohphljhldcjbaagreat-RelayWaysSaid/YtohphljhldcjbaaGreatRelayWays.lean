/- Whatever the two truths and the number: a new block is told to a peer as the document says, and a nil relay answers as it says: 'RelayWays' returns true, and its arguments read as they read before. No condition. -/
import Derived.Test.YtohphljhldcjbaaGreatRwL1
import Derived.Test.YtohphljhldcjbaaGreatRwL2
import Derived.Test.YtohphljhldcjbaaGreatRwL3
import Derived.Test.YtohphljhldcjbaaGreatLaws
namespace Go.Proofs.YtohphljhldcjbaaGreat
set_option linter.unusedVariables false
set_option linter.unusedSimpArgs false
open Go.ChangeShapes Go.WideShapes Go.ChangeAt Go.RowKit
namespace Ways

theorem ways_any (headers high : Bool) (behind : Int) (w : World) : Calls Tryz.prog 3 #[.bool headers, .bool high, .int .i64 behind] w fun e w' => e = .returned (.bool true) ∧ Below w.heap.size w w' := by
  by_cases h0 : behind = 0
  · subst h0
    cases headers <;> cases high
    · exact Re.ff_a 0 w
    · exact Re.ft_z w
    · exact Re.tf_i 0 (by decide) (by decide) w
    · exact Re.tt_z w
  · cases headers
    · cases high
      · exact Re.ff_a behind w
      · exact Re.ft_o behind h0 w
    · by_cases h1 : 0 ≤ behind
      · by_cases h2 : behind ≤ 7
        · cases high
          · exact Re.tf_i behind h1 h2 w
          · exact Re.tt_m behind h0 h1 h2 w
        · cases high
          · exact Re.tf_p behind h1 h2 w
          · exact Re.tt_p behind h1 h2 w
      · cases high
        · exact Re.tf_n behind h1 w
        · exact Re.tt_n behind h1 w

set_option maxRecDepth 100000 in
theorem lifted (os : Os) (started : os.Started) (H : Type) (enc : TypeId × Value → H) :
    ReturnsInHanded {} Tryz.checked os 3 .any (Rows.relayWaysSpec.pre6 enc Tryz.prog Tryz.f3 Rows.relayWaysRow.domain false) (Rows.relayWaysSpec.post enc Tryz.prog Tryz.f3 false true false false) := by
  refine returnsInHanded_of_change (C := Tryz.checked) Law.own started (by kernel_rfl) Tryz.func3
    (ChangeSpec.witness6 (enc := enc) (C := Tryz.checked) false ⟨#[], #[.bool false, .bool false, .int .i64 0], []⟩ 8 (by kernel_rfl) (by kernel_rfl) (by kernel_rfl) (by kernel_rfl)) ?_
  intro W base args ds gs before hval0 hW hcnd _
  have hval : ∀ (j : Nat) t v, Tryz.f3.params[j]? = some t → args[j]? = some v → Value.okWide Tryz.prog W .any base t v := hval0
  have hW' := hW
  obtain ⟨p, q, hA0, hV, rfl, hfz, hnd⟩ := hW
  have hA : DataW.TrodAll enc Tryz.prog W 0 (fun _ => true) true Tryz.f3.params.toList args.toList ds p := hA0
  rw [Tryz.params3] at hA hval
  obtain ⟨rfl, rfl⟩ := trodVars_none hV
  obtain ⟨v0, v1, v2, d0, d1, d2, p0, p1, p2, rfl, rfl, rfl, h0, h1, h2⟩ := trodAll_three hA
  obtain ⟨b0, rfl, rfl, rfl⟩ := open_bool Tryz.underlying4 (hval 0 4 v0 rfl rfl) h0
  obtain ⟨b1, rfl, rfl, rfl⟩ := open_bool Tryz.underlying4 (hval 1 4 v1 rfl rfl) h1
  obtain ⟨z, rfl, rfl, rfl, _⟩ := open_int Tryz.underlying3 (hval 2 3 v2 rfl rfl) h2
  clear hA0 hval0 hval
  refine (ways_any b0 b1 z W).mono fun e W' ⟨he, hb⟩ => ?_
  subst he
  exact ⟨_, rfl, Law.post_true rfl rfl rfl (by kernel_rfl) ⟨rfl, rfl, rfl⟩ hW' hb⟩

theorem ways_holds : Rows.RelayWaysSaid :=
  OpenClaim.holds_of_wide 3 Tryz.f3 rfl rfl rfl rfl rfl rfl rfl ⟨rfl, rfl, rfl, rfl, rfl⟩ rfl rfl rfl rfl rfl (by kernel_rfl) Tryz.func3 (by kernel_rfl)
    (of_decide_eq_true (by kernel_rfl)) (by unfold Func.isWrapper; first | (rw [if_pos (by decide +kernel)]; kernel_rfl) | (rw [if_neg (by decide +kernel)]; exact ⟨rfl, rfl⟩))
    (fun os started H enc _ => lifted os started H enc)
#print axioms ways_holds
end Ways
end Go.Proofs.YtohphljhldcjbaaGreat
