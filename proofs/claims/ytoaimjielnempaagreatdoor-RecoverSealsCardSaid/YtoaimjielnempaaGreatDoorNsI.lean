/- The laws of a keeper: what the run is made of. -/
import Derived.Test.YtoaimjielnempaaGreatDoorNsH
namespace Go.Proofs.YtoaimjielnempaaGreatDoor
set_option linter.unusedVariables false
set_option linter.unusedSimpArgs false
open Go.RowKit Go.Maps
namespace Ev
noncomputable def inf : TypeId → Option TypeInfo := fun t => Tryz.prog.info? t
noncomputable def und : TypeId → Option TypeDesc := fun t => Tryz.prog.underlying t
noncomputable def wideOk (t : TypeId) (a : AV) : Bool := ob (conc a) false fun v => ob (keyOf Tryz.prog t v) false fun _ => true
noncomputable def keyOk (t : TypeId) (a : AV) : Bool := bi (Nat.beq t 24) (wideOk 24 a) (bi (Nat.beq t 3) (wideOk 3 a) (bi (Nat.beq t 197) (wideOk 197 a) (bi (Nat.beq t 95) (wideOk 95 a) (bi (Nat.beq t 9) (wideOk 9 a) (bi (Nat.beq t 22) (wideOk 22 a) (false))))))
noncomputable def x3 {β : Type} (l : List Opd) (d : β) (f : β) : β := List.rec (motive := fun _ => β) d (fun _ l _ => List.rec (motive := fun _ => β) d (fun _ l _ => List.rec (motive := fun _ => β) d (fun _ l _ => List.rec (motive := fun _ => β) f (fun _ _ _ => d) l) l) l) l
noncomputable def yAdd64 (l : List Opd) : XOp := fun fr h => x3 l .no (xAdd64 l fr h)
noncomputable def ySub64 (l : List Opd) : XOp := fun fr h => x3 l .no (xSub64 l fr h)
noncomputable def ext : FuncId → Option (List Opd → XOp) := fun f => bi (Nat.beq f 216) (some yAdd64) (bi (Nat.beq f 356) (some ySub64) none)
noncomputable def fn (f : FuncId) : Bf :=
  match Tryz.prog.funcs[f]? with
  | some F => cFn inf und keyOk ext 100000 F
  | none => .bad
/-- What target.Work's run takes as known. -/
noncomputable def plugW : FuncId → Option (List AV → H → E) := fun f => bi (Nat.beq f 407) (some cmpP) none
noncomputable def okE? (e : E) : Bool := E.rec (motive := fun _ => Bool) false (fun _ _ => true) e
noncomputable def isE (e : E) (r : AV) : Bool := E.rec (motive := fun _ => Bool) false (fun v _ => sameAV r v) e
theorem isE_ok {e : E} {r : AV} (h : isE e r = true) : ∃ h', e = .ok r h' := by
  cases e with
  | no => cases h
  | ok v h' => exact ⟨h', by rw [sameAV_eq _ _ (show sameAV r v = true from h)]⟩
/-- The work of the lowest bits. -/
def workR : AV := .tuple [.agg [.int .u64 2, .int .u64 0, .int .u64 0, .int .u64 0], .int .i64 0]
def workX : List AV := [.int .u32 545259519]
end Ev
end Go.Proofs.YtoaimjielnempaaGreatDoor
