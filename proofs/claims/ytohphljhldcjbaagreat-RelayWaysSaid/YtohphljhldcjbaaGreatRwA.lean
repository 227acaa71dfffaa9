/- RelayWays: the run of awake. -/
import Derived.Test.YtohphljhldcjbaaGreatEvY
namespace Go.Proofs.YtohphljhldcjbaaGreat
set_option linter.unusedVariables false
set_option linter.unusedSimpArgs false
open Go.RowKit Go.Maps
namespace Ev
noncomputable def inf : TypeId → Option TypeInfo := fun t => Tryz.prog.info? t
noncomputable def und : TypeId → Option TypeDesc := fun t => Tryz.prog.underlying t
noncomputable def wideOk (t : TypeId) (a : AV) : Bool := ob (conc a) false fun v => ob (keyOf Tryz.prog t v) false fun _ => true
noncomputable def keyOk (t : TypeId) (a : AV) : Bool := bi (Nat.beq t 30) (wideOk 30 a) (bi (Nat.beq t 3) (wideOk 3 a) (bi (Nat.beq t 62) (wideOk 62 a) false))
def ext : FuncId → Option (List Opd → XOp) := fun _ => none
noncomputable def fn (f : FuncId) : Bf :=
  match Tryz.prog.funcs[f]? with
  | some F => cFn inf und keyOk ext 1000 F
  | none => .bad
noncomputable def one1 {α β : Type} (l : List α) (d : β) (f : α → β) : β := List.rec (motive := fun _ => β) d (fun x l _ => List.rec (motive := fun _ => β) (f x) (fun _ _ _ => d) l) l
/-- slices.Sorted of a map's keys, of a map of one entry. -/
noncomputable def sorted1 (xs : List AV) (h : H) : E :=
  one1 xs .no fun x => x.func? .no fun g n caps => bi (and' (Nat.beq g 53) (Nat.beq n 0)) (one1 caps .no fun c => c.ptr? .no fun b o => bi (Nat.beq o 0) (cellsAt h b .no fun cs _ _ => ob (lget cs 0) .no fun m => m.map? .no .no fun mb => mapAt h mb .no fun kt es ck =>
    one1 es .no fun e => e.1.int? .no fun k z => bi (and' (Nat.beq kt 3) (and' (eqK k .i64) (Nat.blt e.2.2 ck))) (.ok (.slice h.nx 0 1 none 1) (h.new (.cells [.int .i64 z] 3 0))) .no) .no) .no
noncomputable def plug : FuncId → Option (List AV → H → E) := fun f => bi (Nat.beq f 36) (some sorted1) none
noncomputable def res (f : Nat) (l : List AV) : Bool := E.rec (motive := fun _ => Bool) false (fun v _ => v.bool? false fun b => b) (run fn plug 100 f l H0)
theorem q0 : res 8 [] = true := by kernel_rfl
theorem laidB : laidOutB Tryz.prog = true := by kernel_rfl
theorem key30 : KeyT Tryz.prog 30 := keyT_wide laidB (m := 2) (by decide) (of_decide_eq_true (by kernel_rfl)) (by kernel_rfl) (by kernel_rfl) (by kernel_rfl)
theorem key62 : KeyT Tryz.prog 62 := keyT_wide laidB (m := 4) (by decide) (of_decide_eq_true (by kernel_rfl)) (by kernel_rfl) (by kernel_rfl) (by kernel_rfl)
theorem key3 : KeyT Tryz.prog 3 := keyT_int (k := .i64) (by kernel_rfl) (by kernel_rfl)
theorem wide_ok {t : TypeId} {a : AV} (e : wideOk t a = true) : ∃ v l, conc a = some v ∧ keyOf Tryz.prog t v = some l := by
  obtain ⟨v, h1, e⟩ := ob_some (by simp) (show ob (conc a) false _ = true from e)
  obtain ⟨l, h2, _⟩ := ob_some (by simp) e
  exact ⟨v, l, h1, h2⟩
theorem key_ok : KeyOK Tryz.prog keyOk := fun t a e => by
  unfold keyOk at e
  by_cases h1 : t = 30
  · subst h1
    exact ⟨key30, wide_ok e⟩
  · have : Nat.beq t 30 = false := by rw [Bool.eq_false_iff]; exact fun h => h1 (Nat.eq_of_beq_eq_true h)
    rw [this] at e
    by_cases h2 : t = 3
    · subst h2
      exact ⟨key3, wide_ok e⟩
    · have : Nat.beq t 3 = false := by rw [Bool.eq_false_iff]; exact fun h => h2 (Nat.eq_of_beq_eq_true h)
      rw [this] at e
      by_cases h3 : t = 62
      · subst h3
        exact ⟨key62, wide_ok e⟩
      · have : Nat.beq t 62 = false := by rw [Bool.eq_false_iff]; exact fun h => h3 (Nat.eq_of_beq_eq_true h)
        rw [this] at e
        cases e
theorem env : Env Tryz.prog inf und keyOk := ⟨fun _ _ h => h, fun _ _ h => h, key_ok⟩
theorem ext_ok : ExtOk Tryz.prog ext := fun _ _ h => by cases h
theorem names : (Tryz.prog.funcs.toList.all fun F => F.name != "runtime.NumGoroutine") = true := by kernel_rfl
theorem mixed : Tryz.prog.follows .mixedOrders = true := by kernel_rfl
theorem fn_ok : FnOk Tryz.prog inf und keyOk ext 1000 fn := fun f nt c rs e => by
  unfold fn at e
  cases h : Tryz.prog.funcs[f]? with
  | none => rw [h] at e; cases e
  | some F =>
    rw [h] at e
    refine ⟨F, rfl, fun hn => ?_, e⟩
    have hm : F ∈ Tryz.prog.funcs.toList := by
      obtain ⟨hi, hF⟩ := Array.getElem?_eq_some_iff.1 h
      rw [← hF]
      exact Array.getElem_mem_toList hi
    have := List.all_eq_true.1 names F hm
    rw [hn] at this
    simp at this
end Ev
end Go.Proofs.YtohphljhldcjbaaGreat
