/- Whatever the peer, the id and the second: a nil sync answers as the document says: 'SyncNil' returns true, and its arguments read as they read before. No condition. -/
import Derived.Test.YtfpghnldcbhniaaGreatCsBx
namespace Go.Proofs.YtfpghnldcbhniaaGreat
set_option linter.unusedVariables false
set_option linter.unusedSimpArgs false
open Go.ChangeShapes Go.WideShapes Go.ChangeAt Go.RowKit
namespace Sync

def hashK : List IntKind := [.u8, .u8, .u8, .u8, .u8, .u8, .u8, .u8, .u8, .u8, .u8, .u8, .u8, .u8, .u8, .u8, .u8, .u8, .u8, .u8, .u8, .u8, .u8, .u8, .u8, .u8, .u8, .u8, .u8, .u8, .u8, .u8]
/-- Cells that nobody looks at. -/
def anyA : List IntKind → List Ev.AV
  | [] => []
  | _ :: l => .iface 16777218 .undef :: anyA l
theorem any_int (c : Ev.Cx) (k : IntKind) (n : Int) : Ev.V c (.iface 16777218 .undef) (.int k n) := .any 0 _ rfl (fun _ h => by cases h)
theorem any_VL (c : Ev.Cx) (n : Nat → Int) : ∀ (l : List IntKind) (i : Nat), Ev.VL c (anyA l) (Ev.rowV n l i) ∧ ∀ a ∈ anyA l, a.one = true
  | [], i => ⟨.nil, fun a h => by cases h⟩
  | k :: l, i => by
    obtain ⟨h1, h2⟩ := any_VL c n l (i + 1)
    refine ⟨.cons (any_int c k _) h1, fun a ha => ?_⟩
    rcases List.mem_cons.1 ha with rfl | ha
    · rfl
    · exact h2 a ha

theorem law_at (lo hi p z : Int) (m : Nat → Int) (w : World) (h1 : lo ≤ z) (h2 : z ≤ hi)
    (run : Ev.isE (Ev.run Ev.fn Ev.plug2 100 4 [.iface 16777218 .undef, .agg (anyA hashK), .iface 16777217 (.agg [.int .i64 lo, .int .i64 hi])] Ev.H0) (.bool true) = true) :
    Calls Tryz.prog 4 #[.int .i64 p, .agg (Ev.rowV m hashK 0).toArray, .int .i64 z] w fun e w' => e = .returned (.bool true) ∧ Below w.heap.size w w' := by
  obtain ⟨h', e⟩ := Ev.isE_ok run
  have one : Ev.OneOk Tryz.prog 4 (Ev.run Ev.fn Ev.plug2 100 4) := fun B W ι h w xs vs r h' rel hv e => Ev.run_ok Ev.env Ev.ext_ok Ev.mixed Ev.fn_ok Ev.plug2_ok 100 B W ι h w _ xs vs r h' rel hv e
  refine Ev.run_calls one (vs := [.int .i64 p, .agg (Ev.rowV m hashK 0).toArray, .int .i64 z]) (fun c => ?_) w (v := .bool true) (fun _ _ hv => hv.bool_inv) e
  obtain ⟨h3, h4⟩ := any_VL c m hashK 0
  exact .cons (any_int c _ _) (.cons (.agg _ _ h3 h4) (.cons (.rng _ _ _ _ h1 h2) .nil))

theorem nil_any (p z : Int) (m : Nat → Int) (w : World) (hz : -9223372036854775808 ≤ z ∧ z ≤ 9223372036854775807) :
    Calls Tryz.prog 4 #[.int .i64 p, .agg (Ev.rowV m hashK 0).toArray, .int .i64 z] w fun e w' => e = .returned (.bool true) ∧ Below w.heap.size w w' := by
  by_cases h0 : z < 0
  · exact law_at (-9223372036854775808) (-1) p z m w hz.1 (by omega) Ev.law22_1
  · by_cases h1 : z ≤ 1099511627776
    · exact law_at 0 1099511627776 p z m w (by omega) h1 Ev.law22_2
    · exact law_at 1099511627777 9223372036854775807 p z m w (by omega) hz.2 Ev.law22_3

def hashZ : Value := .agg (Ev.rowV (fun _ => 0) hashK 0).toArray
set_option maxRecDepth 100000 in
theorem lifted (os : Os) (started : os.Started) (H : Type) (enc : TypeId × Value → H) :
    ReturnsInHanded {} Tryz.checked os 4 .any (Rows.syncNilSpec.pre6 enc Tryz.prog Tryz.f4 Rows.syncNilRow.domain false) (Rows.syncNilSpec.post enc Tryz.prog Tryz.f4 false true false false) := by
  refine returnsInHanded_of_change (C := Tryz.checked) Law.own started (by kernel_rfl) Tryz.func4
    (ChangeSpec.witness6 (enc := enc) (C := Tryz.checked) false ⟨#[], #[.int .i64 0, hashZ, .int .i64 0], []⟩ 8 (by kernel_rfl) (by kernel_rfl) (by kernel_rfl) (by kernel_rfl)) ?_
  intro W base args ds gs before hval0 hW hcnd _
  have hval : ∀ (j : Nat) t v, Tryz.f4.params[j]? = some t → args[j]? = some v → Value.okWide Tryz.prog W .any base t v := hval0
  have hW' := hW
  obtain ⟨p, q, hA0, hV, rfl, hfz, hnd⟩ := hW
  have hA : DataW.TrodAll enc Tryz.prog W 0 (fun _ => true) true Tryz.f4.params.toList args.toList ds p := hA0
  rw [Tryz.params4] at hA hval
  obtain ⟨rfl, rfl⟩ := trodVars_none hV
  obtain ⟨v0, v1, v2, d0, d1, d2, p0, p1, p2, rfl, rfl, rfl, h0, h1, h2⟩ := trodAll_three hA
  obtain ⟨n, rfl, _, _, _⟩ := open_int Tryz.underlying3 (hval 0 3 v0 rfl rfl) h0
  obtain ⟨m, rfl⟩ := Ev.open_row (ks := hashK) (hval 1 24 v1 rfl rfl) (by kernel_rfl) rfl (by kernel_rfl) (by kernel_rfl)
  obtain ⟨z, rfl, _, _, wz⟩ := open_int Tryz.underlying2 (hval 2 2 v2 rfl rfl) h2
  have hz : -9223372036854775808 ≤ z ∧ z ≤ 9223372036854775807 := by
    have m1 : IntKind.min .i64 = -9223372036854775808 := by decide
    have m2 : IntKind.max .i64 = 9223372036854775807 := by decide
    simp only [Lit.wf, Bool.and_eq_true, decide_eq_true_eq] at wz
    rw [m1, m2] at wz
    exact wz
  clear hA0 hval0 hval
  refine (nil_any n z m W hz).mono fun e W' ⟨he, hb⟩ => ?_
  subst he
  exact ⟨_, rfl, Law.post_true rfl rfl rfl (by kernel_rfl) ⟨rfl, rfl, rfl⟩ hW' hb⟩

theorem nil_holds : Rows.SyncNilSaid :=
  OpenClaim.holds_of_wide 4 Tryz.f4 rfl rfl rfl rfl rfl rfl rfl ⟨rfl, rfl, rfl, rfl, rfl⟩ rfl rfl rfl rfl rfl (by kernel_rfl) Tryz.func4 (by kernel_rfl)
    (of_decide_eq_true (by kernel_rfl)) (by unfold Func.isWrapper; first | (rw [if_pos (by decide +kernel)]; kernel_rfl) | (rw [if_neg (by decide +kernel)]; exact ⟨rfl, rfl⟩))
    (fun os started H enc _ => lifted os started H enc)
#print axioms nil_holds
end Sync
end Go.Proofs.YtfpghnldcbhniaaGreat
