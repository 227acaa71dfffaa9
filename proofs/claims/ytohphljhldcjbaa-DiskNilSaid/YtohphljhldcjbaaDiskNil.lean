/- Whatever the act, its name, its other name, its letters and its plan: a nil disk answers as the document says: 'DiskNil' returns true, and its argument reads as it read before. No condition. -/
import Derived.Test.YtohphljhldcjbaaDkL
import Derived.Test.YtohphljhldcjbaaLaws
namespace Go.Proofs.Ytohphljhldcjbaa
set_option linter.unusedVariables false
set_option linter.unusedSimpArgs false
open Go.ChangeShapes Go.WideShapes Go.ChangeAt Go.RowKit
namespace NilDk

theorem actFields : ∃ f0 f1 f2 f3 f4 f5 f6 : Field, Try.prog.underlying 123 = some (.struct #[f0, f1, f2, f3, f4, f5, f6]) ∧ Try.prog.underlying f0.type = some (.int .i64) ∧ Try.prog.underlying f1.type = some (.int .i64) ∧ Try.prog.underlying f2.type = some (.int .i64) ∧ Try.prog.underlying f3.type = some .string ∧ Try.prog.underlying f4.type = some .string ∧ Try.prog.underlying f5.type = some .string ∧ Go.Deep.oneCellFields Try.prog #[f0, f1, f2, f3, f4, f5, f6] = true :=
  ⟨_, _, _, _, _, _, _, Try.underlying123, by kernel_rfl, by kernel_rfl, by kernel_rfl, by kernel_rfl, by kernel_rfl, by kernel_rfl, by kernel_rfl⟩
theorem actCells : Try.prog.cellsOf 123 = 7 := by kernel_rfl

/-- A string field of what came in. -/
theorem str_field {H : Type} {enc : TypeId × Value → H} {w : World} {base n : Nat} {sp : Nat → Bool} {held : Bool} {e : TypeId} {fs : Array Field} {cs : List Value} {x : DataW H × List MemPlace}
    (he : Try.prog.underlying e = some (.struct fs)) (hone : Go.Deep.oneCellFields Try.prog fs = true) (h : DataW.trod enc Try.prog w base sp held n e cs = some x)
    (j : Nat) (f : Field) (hf : fs[j]? = some f) (hk : Try.prog.underlying f.type = some .string) (hj : j < cs.length) : ∃ a, cs[j]? = some (.string a) := by
  obtain ⟨xs, m, _, _, _, hlen, hg⟩ := DataW.trod_struct he h
  have h1 := hg j f hf
  obtain ⟨ho, hc⟩ := Go.Deep.hone_of hone j f hf
  have hjx : j < xs.length := by rw [hlen]; exact (Array.getElem?_eq_some_iff.1 hf).1
  rw [ho, hc, List.getElem?_eq_getElem hjx, List.drop_eq_getElem_cons hj] at h1
  obtain ⟨a, h2, _, _⟩ := DataW.trod_string hk (show DataW.trod enc Try.prog w base sp held m f.type [cs[j]] = some xs[j] from h1)
  refine ⟨a, ?_⟩
  rw [List.getElem?_eq_getElem hj]
  exact congrArg some (List.cons.inj h2).1

set_option maxRecDepth 100000 in
theorem act_open {H : Type} {enc : TypeId × Value → H} {w : World} {base : Nat} {v : Value} {d : DataW H} {ps : List MemPlace} (hv : Value.okWide Try.prog w .any base 123 v) (h : DataW.Trod enc Try.prog w 0 (fun _ => true) true 123 v d ps) :
    ∃ (kind at_ n : Int) (name to s : ByteArray) (u : Value), v = .agg #[.int .i64 kind, .int .i64 at_, .int .i64 n, .string name, .string to, .string s, u] := by
  obtain ⟨f0, f1, f2, f3, f4, f5, f6, he, k0, k1, k2, k3, k4, k5, hone⟩ := actFields
  obtain ⟨cs, rfl, hsz⟩ := okWide_struct he hv
  obtain ⟨fuel, ht⟩ := h
  rw [actCells] at hsz
  have hl : cs.toList.length = 7 := by simpa using hsz
  have hc : (Value.agg cs).cells.toList = cs.toList := rfl
  rw [hc] at ht
  obtain ⟨x0, e0, _⟩ := Law.int_field he hone ht 0 f0 .i64 rfl k0 (by omega)
  obtain ⟨x1, e1, _⟩ := Law.int_field he hone ht 1 f1 .i64 rfl k1 (by omega)
  obtain ⟨x2, e2, _⟩ := Law.int_field he hone ht 2 f2 .i64 rfl k2 (by omega)
  obtain ⟨x3, e3⟩ := str_field he hone ht 3 f3 rfl k3 (by omega)
  obtain ⟨x4, e4⟩ := str_field he hone ht 4 f4 rfl k4 (by omega)
  obtain ⟨x5, e5⟩ := str_field he hone ht 5 f5 rfl k5 (by omega)
  obtain ⟨l⟩ := cs
  simp only at hl e0 e1 e2 e3 e4 e5
  match l, hl with
  | [c0, c1, c2, c3, c4, c5, c6], _ =>
    refine ⟨x0, x1, x2, x3, x4, x5, c6, ?_⟩
    simp only [List.getElem?_cons_zero, List.getElem?_cons_succ, Option.some.injEq] at e0 e1 e2 e3 e4 e5
    subst e0 e1 e2 e3 e4 e5
    rfl

set_option maxRecDepth 100000 in
theorem lifted (os : Os) (started : os.Started) (H : Type) (enc : TypeId × Value → H) :
    ReturnsInHanded {} Try.checked os 12 .any (Rows.diskNilSpec.pre6 enc Try.prog Try.f12 Rows.diskNilRow.domain false) (Rows.diskNilSpec.post enc Try.prog Try.f12 false true false false) := by
  refine returnsInHanded_of_change (C := Try.checked) Law.own started (by kernel_rfl) Try.func12
    (ChangeSpec.witness6 (enc := enc) (C := Try.checked) false ⟨#[], #[.agg #[.int .i64 0, .int .i64 0, .int .i64 0, .string .empty, .string .empty, .string .empty, .slice none 0 0]], []⟩ 8 (by kernel_rfl) (by kernel_rfl) (by kernel_rfl) (by kernel_rfl)) ?_
  intro W base args ds gs before hval0 hW hcnd _
  have hval : ∀ (j : Nat) t v, Try.f12.params[j]? = some t → args[j]? = some v → Value.okWide Try.prog W .any base t v := hval0
  have hW' := hW
  obtain ⟨p, q, hA0, hV, rfl, hfz, hnd⟩ := hW
  have hA : DataW.TrodAll enc Try.prog W 0 (fun _ => true) true Try.f12.params.toList args.toList ds p := hA0
  rw [Try.params12] at hA hval
  obtain ⟨rfl, rfl⟩ := trodVars_none hV
  obtain ⟨v0, d0, rfl, rfl, h0⟩ := trodAll_one hA
  obtain ⟨kind, at_, n, name, to, s, u, rfl⟩ := act_open (hval 0 123 v0 rfl rfl) h0
  clear hA0 hval0 hval
  refine (Dk.nil_any kind at_ n name to s u W).mono fun e W' ⟨he, hb⟩ => ?_
  subst he
  exact ⟨_, rfl, Law.post_true rfl rfl rfl (by kernel_rfl) ⟨rfl, rfl, rfl⟩ hW' hb⟩

theorem nil_holds : Rows.DiskNilSaid :=
  OpenClaim.holds_of_wide 12 Try.f12 rfl rfl rfl rfl rfl rfl rfl ⟨rfl, rfl, rfl, rfl, rfl⟩ rfl rfl rfl rfl rfl (by kernel_rfl) Try.func12 (by kernel_rfl)
    (of_decide_eq_true (by kernel_rfl)) (by unfold Func.isWrapper; first | (rw [if_pos (by decide +kernel)]; kernel_rfl) | (rw [if_neg (by decide +kernel)]; exact ⟨rfl, rfl⟩))
    (fun os started H enc _ => lifted os started H enc)
#print axioms nil_holds
end NilDk
end Go.Proofs.Ytohphljhldcjbaa
