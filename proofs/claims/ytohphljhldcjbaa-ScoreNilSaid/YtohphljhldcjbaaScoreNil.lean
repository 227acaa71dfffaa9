/- Whatever the peer, the fault, the host and the seconds: a nil score and a nil bucket answer as the document says: 'ScoreNil' returns true, and its argument reads as it read before. No condition. -/
import Derived.Test.YtohphljhldcjbaaNil
import Derived.Test.YtohphljhldcjbaaLaws
namespace Go.Proofs.Ytohphljhldcjbaa
set_option linter.unusedVariables false
set_option linter.unusedSimpArgs false
open Go.ChangeShapes Go.WideShapes Go.ChangeAt Go.RowKit
namespace Nil

set_option maxHeartbeats 1000000 in
set_option maxRecDepth 100000 in
theorem law_any (kind peer fault host now till : Int) (w : World) :
    Calls Try.prog 10 #[.agg #[.int .i64 kind, .int .i64 peer, .int .i64 fault, .int .u32 host, .int .i64 now, .int .i64 till]] w fun e w' => e = .returned (.bool true) ∧ Below w.heap.size w w' := by
  go_enter Try.func10, Try.ntmps10
  go_wp2_with (first | (go_at_call 48; refine (add_nil _ _ _).mono ?_; rintro e w' ⟨rfl, rfl⟩) | (go_at_call 49; refine (ban_nil _ _ _ _).mono ?_; rintro e w' ⟨rfl, rfl⟩) | (go_at_call 20; refine (take_nil _ _ _).mono ?_; rintro e w' ⟨rfl, rfl⟩) | (go_at_call 18; refine (when_nil _ _ _).mono ?_; rintro e w' ⟨rfl, rfl⟩))
  refine (Sc.awake_ok _).mono ?_
  rintro e w2 ⟨rfl, h2⟩
  have hb : Below w.heap.size w w2 := (((Below.refl _ w).alloc (Nat.le_refl _) _).trans (Below.of_grown h2 (by simp) (by simp)))
  have hk : Whole w2 w.heap.size 77 #[.int .i64 kind, .int .i64 peer, .int .i64 fault, .int .u32 host, .int .i64 now, .int .i64 till] := (Whole.fresh w 77 _).grown h2 (by simp)
  have c1 : w2.cell? ⟨w.heap.size, 1, none⟩ = some (.int .i64 peer) := hk.cell 1
  have c3 : w2.cell? ⟨w.heap.size, 3, none⟩ = some (.int .u32 host) := hk.cell 3
  have c4 : w2.cell? ⟨w.heap.size, 4, none⟩ = some (.int .i64 now) := hk.cell 4
  clear h2 hk
  go_wp2_with (first | (go_at_call 50; refine (of_nil _ _).mono ?_; rintro e w' ⟨rfl, rfl⟩) | (go_at_call 51; refine (drop_nil _ _).mono ?_; rintro e w' ⟨rfl, rfl⟩) | (go_at_call 52; refine (peers_nil _).mono ?_; rintro e w' ⟨rfl, rfl⟩) | (go_at_call 53; refine (banned_nil _ _ _).mono ?_; rintro e w' ⟨rfl, rfl⟩) | (go_at_call 54; refine (unban_nil _ _).mono ?_; rintro e w' ⟨rfl, rfl⟩) | (go_at_call 55; refine (sweep_nil _ _).mono ?_; rintro e w' ⟨rfl, rfl⟩) | (go_at_call 56; refine (bans_nil _).mono ?_; rintro e w' ⟨rfl, rfl⟩) | (go_at_call 57; refine (clone_nil _).mono ?_; rintro e w' ⟨rfl, rfl⟩) | (go_at_call 16; refine (has_nil _ _).mono ?_; rintro e w' ⟨rfl, rfl⟩) | (go_at_call 19; refine (bclone_nil _).mono ?_; rintro e w' ⟨rfl, rfl⟩))
  go_ret
  exact ⟨rfl, hb⟩

theorem actFields : ∃ f0 f1 f2 f3 f4 f5 : Field, Try.prog.underlying 77 = some (.struct #[f0, f1, f2, f3, f4, f5]) ∧ Try.prog.underlying f0.type = some (.int .i64) ∧ Try.prog.underlying f1.type = some (.int .i64) ∧ Try.prog.underlying f2.type = some (.int .i64) ∧ Try.prog.underlying f3.type = some (.int .u32) ∧ Try.prog.underlying f4.type = some (.int .i64) ∧ Try.prog.underlying f5.type = some (.int .i64) ∧ Go.Deep.oneCellFields Try.prog #[f0, f1, f2, f3, f4, f5] = true :=
  ⟨_, _, _, _, _, _, Try.underlying77, by kernel_rfl, by kernel_rfl, by kernel_rfl, by kernel_rfl, by kernel_rfl, by kernel_rfl, by kernel_rfl⟩
theorem actCells : Try.prog.cellsOf 77 = 6 := by kernel_rfl

set_option maxRecDepth 100000 in
theorem act_open {H : Type} {enc : TypeId × Value → H} {w : World} {base : Nat} {v : Value} {d : DataW H} {ps : List MemPlace} (hv : Value.okWide Try.prog w .any base 77 v) (h : DataW.Trod enc Try.prog w 0 (fun _ => true) true 77 v d ps) :
    ∃ kind peer fault host now till : Int, v = .agg #[.int .i64 kind, .int .i64 peer, .int .i64 fault, .int .u32 host, .int .i64 now, .int .i64 till] := by
  obtain ⟨f0, f1, f2, f3, f4, f5, he, k0, k1, k2, k3, k4, k5, hone⟩ := actFields
  obtain ⟨cs, rfl, hsz⟩ := okWide_struct he hv
  obtain ⟨fuel, ht⟩ := h
  rw [actCells] at hsz
  have hl : cs.toList.length = 6 := by simpa using hsz
  have hc : (Value.agg cs).cells.toList = cs.toList := rfl
  rw [hc] at ht
  obtain ⟨x0, e0, _⟩ := Law.int_field he hone ht 0 f0 .i64 rfl k0 (by omega)
  obtain ⟨x1, e1, _⟩ := Law.int_field he hone ht 1 f1 .i64 rfl k1 (by omega)
  obtain ⟨x2, e2, _⟩ := Law.int_field he hone ht 2 f2 .i64 rfl k2 (by omega)
  obtain ⟨x3, e3, _⟩ := Law.int_field he hone ht 3 f3 .u32 rfl k3 (by omega)
  obtain ⟨x4, e4, _⟩ := Law.int_field he hone ht 4 f4 .i64 rfl k4 (by omega)
  obtain ⟨x5, e5, _⟩ := Law.int_field he hone ht 5 f5 .i64 rfl k5 (by omega)
  refine ⟨x0, x1, x2, x3, x4, x5, ?_⟩
  congr 1
  obtain ⟨l⟩ := cs
  simp only at hl e0 e1 e2 e3 e4 e5
  match l, hl with
  | [c0, c1, c2, c3, c4, c5], _ =>
    simp only [List.getElem?_cons_zero, List.getElem?_cons_succ, Option.some.injEq] at e0 e1 e2 e3 e4 e5
    subst e0 e1 e2 e3 e4 e5
    rfl

set_option maxRecDepth 100000 in
theorem lifted (os : Os) (started : os.Started) (H : Type) (enc : TypeId × Value → H) :
    ReturnsInHanded {} Try.checked os 10 .any (Rows.scoreNilSpec.pre6 enc Try.prog Try.f10 Rows.scoreNilRow.domain false) (Rows.scoreNilSpec.post enc Try.prog Try.f10 false true false false) := by
  refine returnsInHanded_of_change (C := Try.checked) Law.own started (by kernel_rfl) Try.func10
    (ChangeSpec.witness6 (enc := enc) (C := Try.checked) false ⟨#[], #[.agg #[.int .i64 0, .int .i64 0, .int .i64 0, .int .u32 0, .int .i64 0, .int .i64 0]], []⟩ 8 (by kernel_rfl) (by kernel_rfl) (by kernel_rfl) (by kernel_rfl)) ?_
  intro W base args ds gs before hval0 hW hcnd _
  have hval : ∀ (j : Nat) t v, Try.f10.params[j]? = some t → args[j]? = some v → Value.okWide Try.prog W .any base t v := hval0
  have hW' := hW
  obtain ⟨p, q, hA0, hV, rfl, hfz, hnd⟩ := hW
  have hA : DataW.TrodAll enc Try.prog W 0 (fun _ => true) true Try.f10.params.toList args.toList ds p := hA0
  rw [Try.params10] at hA hval
  obtain ⟨rfl, rfl⟩ := trodVars_none hV
  obtain ⟨v0, d0, rfl, rfl, h0⟩ := trodAll_one hA
  obtain ⟨kind, peer, fault, host, now, till, rfl⟩ := act_open (hval 0 77 v0 rfl rfl) h0
  clear hA0 hval0 hval
  refine (law_any kind peer fault host now till W).mono fun e W' ⟨he, hb⟩ => ?_
  subst he
  exact ⟨_, rfl, Law.post_true rfl rfl rfl (by kernel_rfl) ⟨rfl, rfl, rfl⟩ hW' hb⟩

theorem nil_holds : Rows.ScoreNilSaid :=
  OpenClaim.holds_of_wide 10 Try.f10 rfl rfl rfl rfl rfl rfl rfl ⟨rfl, rfl, rfl, rfl, rfl⟩ rfl rfl rfl rfl rfl (by kernel_rfl) Try.func10 (by kernel_rfl)
    (of_decide_eq_true (by kernel_rfl)) (by unfold Func.isWrapper; first | (rw [if_pos (by decide +kernel)]; kernel_rfl) | (rw [if_neg (by decide +kernel)]; exact ⟨rfl, rfl⟩))
    (fun os started H enc _ => lifted os started H enc)
#print axioms nil_holds
end Nil
end Go.Proofs.Ytohphljhldcjbaa
