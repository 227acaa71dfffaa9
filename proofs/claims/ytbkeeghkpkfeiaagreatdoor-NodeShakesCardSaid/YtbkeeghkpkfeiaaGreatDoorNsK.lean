/- Functions compiled with the orders of their drawn regions given: the checks are made once, apart from the run. Functions compiled with the orders of their drawn regions given: they are what the compile of the whole gives. -/
import Derived.Test.YtbkeeghkpkfeiaaGreatDoorNsA
namespace Go.Proofs.YtbkeeghkpkfeiaaGreatDoor
set_option linter.unusedVariables false
set_option linter.unusedSimpArgs false
open Go.RowKit Go.Maps
namespace Ev
abbrev HintT := List (Nat × List St)
noncomputable def findH (l : HintT) (r : Nat) : Option (List St) := List.rec (motive := fun _ => Option (List St)) none (fun x _ ih => bi (Nat.beq x.1 r) (some x.2) ih) l
def anyT : Nat → Bool := fun _ => true
section
variable (inf : TypeId → Option TypeInfo) (und : TypeId → Option TypeDesc) (keyOk : TypeId → AV → Bool) (ext : FuncId → Option (List Opd → XOp)) (N nt : Nat)
noncomputable def cItU (ops : Array Oper) (L : List (Nat × Nat)) (i : Nat) : Option It :=
  match ops[i]? with
  | none => none
  | some o =>
    match dstL nt L o, cOp inf und keyOk ext anyT o.op with
    | some d, .op k f =>
      match o.guard with
      | none => some { g := none, nw := Nat.beq k 2, f, d }
      | some (j, b) =>
        match ops[j]? with
        | some g =>
          match g.dst with
          | some p => some { g := some (slot p, b), nw := Nat.beq k 2, f, d }
          | none => none
        | none => none
    | _, _ => none
noncomputable def cItsU (ops : Array Oper) (L : List (Nat × Nat)) : List Nat → Option (List It)
  | [] => some []
  | i :: l =>
    match cItU inf und keyOk ext nt ops L i, cItsU ops L l with
    | some x, some r => some (x :: r)
    | _, _ => none
noncomputable def cEffU (ops : Array Oper) (L : List (Nat × Nat)) (e : Nat) : Bo :=
  match ops[e]? with
  | none => .bad
  | some o =>
    match dstL nt L o with
    | some d => cGuardD inf und keyOk ext anyT d ops o
    | none => .bad
noncomputable def cStU (ops : Array Oper) (L : List (Nat × Nat)) (s : St) : Option StC :=
  match cItsU inf und keyOk ext nt ops L s.seg, cItsU inf und keyOk ext nt ops L s.opn with
  | some seg, some opn =>
    match s.eff with
    | none => some { seg, opn, eff := none }
    | some e =>
      match cEffU inf und keyOk ext nt ops L e with
      | .mk q => some { seg, opn, eff := some q }
      | .bad => none
  | _, _ => none
noncomputable def cStsU (ops : Array Oper) (L : List (Nat × Nat)) : List St → Option (List StC)
  | [] => some []
  | s :: l =>
    match cStU inf und keyOk ext nt ops L s, cStsU ops L l with
    | some x, some r => some (x :: r)
    | _, _ => none
noncomputable def cDrawnU (ops : Array Oper) (p : List St) : Bc :=
  match cStsU inf und keyOk ext nt ops (lates 0 ops.toList) p with
  | some l => .mk (dDraw nt (lates 0 ops.toList) l)
  | none => .bad
noncomputable def cCodeU (hp : HintT) : Code → Bc
  | .skip => .mk dSkip
  | .label _ => .mk dSkip
  | .region r ops draw =>
    bif draw then (match findH hp r with | some p => cDrawnU inf und keyOk ext nt ops p | none => cDrawn inf und keyOk ext nt ops)
    else .mk (dReg (cOpers inf und keyOk ext nt ops ops.toList))
  | .seq a b => .mk (dSeq (cCodeU hp a) (cCodeU hp b))
  | .cond c a b =>
    match cX (below nt) c with
    | some x => .mk (dCond x (cCodeU hp a) (cCodeU hp b))
    | none => .bad
  | .block id c => .mk (dBlock id (cCodeU hp c))
  | .loop c => .mk (dLoop N (cCodeU hp c))
  | .exit id => .mk (dExit id)
  | .scope c => cCodeU hp c
  | .ret => .mk dRet
  | _ => .bad
noncomputable def cFnU (hp : HintT) (f : Func) : Bf :=
  match f.body, cRes inf und f.ntmps f.results.toList with
  | some c, some r => bif Nat.ble f.ntmps 1000000 then .mk f.ntmps (cCodeU inf und keyOk ext N f.ntmps hp c) r else .bad
  | _, _ => .bad

/-! The checks. -/
def eqL : List Nat → List Nat → Bool
  | [], [] => true
  | a :: l, b :: m => Nat.beq a b && eqL l m
  | _, _ => false
def eqO : Option Nat → Option Nat → Bool
  | none, none => true
  | some a, some b => Nat.beq a b
  | _, _ => false
def eqP : List St → List St → Bool
  | [], [] => true
  | a :: l, b :: m => eqL a.seg b.seg && eqL a.opn b.opn && eqO a.eff b.eff && eqP l m
  | _, _ => false
noncomputable def isMk (b : Bc) : Bool := Bc.rec (motive := fun _ => Bool) false (fun _ => true) b
noncomputable def planOf (ops : Array Oper) : List St := planGo (ops.toList.map depsOf) (effs inf und keyOk ext ops.toList) (masks ops.toList []) ops.size (2 * ops.size + 2) [] [] []
noncomputable def chkC (hp : HintT) : Code → Bool
  | .region r ops draw => bif draw then (match findH hp r with | some p => eqP (planOf inf und keyOk ext ops) p && isMk (cDrawn inf und keyOk ext nt ops) | none => true) else true
  | .seq a b => chkC hp a && chkC hp b
  | .cond c a b => chkC hp a && chkC hp b
  | .block id c => chkC hp c
  | .loop c => chkC hp c
  | .scope c => chkC hp c
  | _ => true
noncomputable def chkF (hp : HintT) (f : Func) : Bool :=
  match f.body with
  | some c => chkC inf und keyOk ext f.ntmps hp c
  | none => true
end
theorem eqL_eq : ∀ a b : List Nat, eqL a b = true → a = b
  | [], [], _ => rfl
  | a :: l, b :: m, h => by
    simp only [eqL, Bool.and_eq_true] at h
    rw [Nat.eq_of_beq_eq_true h.1, eqL_eq l m h.2]
  | [], _ :: _, h => by cases h
  | _ :: _, [], h => by cases h
theorem eqO_eq : ∀ a b : Option Nat, eqO a b = true → a = b
  | none, none, _ => rfl
  | some a, some b, h => by rw [Nat.eq_of_beq_eq_true h]
  | none, some _, h => by cases h
  | some _, none, h => by cases h
theorem eqP_eq : ∀ a b : List St, eqP a b = true → a = b
  | [], [], _ => rfl
  | ⟨s, o, e⟩ :: l, ⟨s', o', e'⟩ :: m, h => by
    simp only [eqP, Bool.and_eq_true] at h
    rw [eqL_eq _ _ h.1.1.1, eqL_eq _ _ h.1.1.2, eqO_eq _ _ h.1.2, eqP_eq l m h.2]
  | [], _ :: _, h => by cases h
  | _ :: _, [], h => by cases h
section
variable {inf : TypeId → Option TypeInfo} {und : TypeId → Option TypeDesc} {keyOk : TypeId → AV → Bool} {ext : FuncId → Option (List Opd → XOp)} {N nt : Nat} {okT : Nat → Bool}
theorem cX_up {x : Operand} {a : Opd} (h : cX okT x = some a) : cX anyT x = some a := by
  cases x with
  | tmp t =>
    simp only [cX] at h ⊢
    cases e : okT t with
    | true => rw [e] at h; exact h
    | false => rw [e] at h; cases h
  | const v => exact h
  | func f => exact h
  | global g => exact h
theorem cXs_up : ∀ {l : List Operand} {r : List Opd}, cXs okT l = some r → cXs anyT l = some r
  | [], r, h => h
  | x :: l, r, h => by
    simp only [cXs] at h ⊢
    cases e : cX okT x with
    | none => rw [e] at h; cases h
    | some a =>
      cases e2 : cXs okT l with
      | none => rw [e, e2] at h; cases h
      | some q => rw [e, e2] at h; rw [cX_up e, cXs_up e2]; exact h
theorem cO_up {x : Option Operand} {r : Option Opd} (h : cO okT x = some r) : cO anyT x = some r := by
  cases x with
  | none => exact h
  | some x =>
    simp only [cO] at h ⊢
    cases e : cX okT x with
    | none => rw [e] at h; cases h
    | some a => rw [e] at h; rw [cX_up e]; exact h
theorem fieldsAt_up {fs : Array Field} : ∀ {l : List (Nat × Operand)} {r : List (Nat × Nat × Opd)}, fieldsAt inf okT fs l = some r → fieldsAt inf anyT fs l = some r
  | [], r, h => h
  | (i, x) :: l, r, h => by
    simp only [fieldsAt] at h ⊢
    cases e0 : fs[i]? with
    | none => rw [e0] at h; cases h
    | some f =>
      cases e : cX okT x with
      | none => rw [e0, e] at h; cases h
      | some a =>
        cases e2 : fieldsAt inf okT fs l with
        | none => rw [e0, e, e2] at h; cases h
        | some q => rw [e0, e, e2] at h; rw [cX_up e, fieldsAt_up e2]; exact h
theorem elemsAt_up {sz : Nat} : ∀ {l : List (Nat × Operand)} {r : List (Nat × Nat × Opd)}, elemsAt okT sz l = some r → elemsAt anyT sz l = some r
  | [], r, h => h
  | (i, x) :: l, r, h => by
    simp only [elemsAt] at h ⊢
    cases e : cX okT x with
    | none => rw [e] at h; cases h
    | some a =>
      cases e2 : elemsAt okT sz l with
      | none => rw [e, e2] at h; cases h
      | some q => rw [e, e2] at h; rw [cX_up e, elemsAt_up e2]; exact h
/-- b is what b' is, or none. -/
def Up (b b' : Bx) : Prop := b = .bad ∨ b = b'
theorem Up.bad {b : Bx} : Up .bad b := Or.inl rfl
theorem Up.refl (b : Bx) : Up b b := Or.inr rfl
theorem c1_up {k : Nat} {f : Opd → XOp} {x : Operand} : Up (c1 okT k f x) (c1 anyT k f x) := by
  unfold c1
  cases e : cX okT x with
  | none => exact .bad
  | some a => rw [cX_up e]; exact .refl _
theorem c2_up {k : Nat} {f : Opd → Opd → XOp} {x y : Operand} : Up (c2 okT k f x y) (c2 anyT k f x y) := by
  unfold c2
  cases e : cX okT x with
  | none => exact .bad
  | some a =>
    cases e2 : cX okT y with
    | none => exact .bad
    | some b => rw [cX_up e, cX_up e2]; exact .refl _
theorem c3_up {k : Nat} {f : Opd → Opd → Opd → XOp} {x y z : Operand} : Up (c3 okT k f x y z) (c3 anyT k f x y z) := by
  unfold c3
  cases e : cX okT x with
  | none => exact .bad
  | some a =>
    cases e2 : cX okT y with
    | none => exact .bad
    | some b =>
      cases e3 : cX okT z with
      | none => exact .bad
      | some c => rw [cX_up e, cX_up e2, cX_up e3]; exact .refl _
theorem cells_up {z : AV} {f g : List AV → Bx} (h : ∀ cs, Up (f cs) (g cs)) : Up (z.cells? .bad f) (z.cells? .bad g) := by
  cases z <;> first | exact h _ | exact .bad
theorem bif_up {c : Bool} {x y : Bx} (h : Up x y) : Up (bif c then x else .bad) (bif c then y else .bad) := by
  cases c
  · exact .bad
  · exact h
theorem cBuiltin_up {b : Builtin} {ts : Array TypeId} {xs : List Operand} : Up (cBuiltin inf und keyOk okT b ts xs) (cBuiltin inf und keyOk anyT b ts xs) := by
  unfold cBuiltin
  split
  · split
    · split <;> (first | exact Up.bad | exact c1_up | exact c2_up | exact c3_up | exact Up.refl _)
    · (first | exact Up.bad | exact c1_up | exact c2_up | exact c3_up | exact Up.refl _)
  · split
    · split
      · split <;> (first | exact Up.bad | exact c1_up | exact c2_up | exact c3_up | exact Up.refl _)
      · split <;> (first | exact Up.bad | exact c1_up | exact c2_up | exact c3_up | exact Up.refl _)
      · (first | exact Up.bad | exact c1_up | exact c2_up | exact c3_up | exact Up.refl _)
    · (first | exact Up.bad | exact c1_up | exact c2_up | exact c3_up | exact Up.refl _)
  · split
    · split <;> (first | exact Up.bad | exact c1_up | exact c2_up | exact c3_up | exact Up.refl _)
    · (first | exact Up.bad | exact c1_up | exact c2_up | exact c3_up | exact Up.refl _)
  · split
    · split
      · split
        · exact cells_up fun cs => c1_up
        · (first | exact Up.bad | exact c1_up | exact c2_up | exact c3_up | exact Up.refl _)
      · (first | exact Up.bad | exact c1_up | exact c2_up | exact c3_up | exact Up.refl _)
    · (first | exact Up.bad | exact c1_up | exact c2_up | exact c3_up | exact Up.refl _)
  · split
    · split
      · split <;> (first | exact Up.bad | exact c1_up | exact c2_up | exact c3_up | exact Up.refl _)
      · (first | exact Up.bad | exact c1_up | exact c2_up | exact c3_up | exact Up.refl _)
    · (first | exact Up.bad | exact c1_up | exact c2_up | exact c3_up | exact Up.refl _)
  · (first | exact Up.bad | exact c1_up | exact c2_up | exact c3_up | exact Up.refl _)
  · (first | exact Up.bad | exact c1_up | exact c2_up | exact c3_up | exact Up.refl _)
  · (first | exact Up.bad | exact c1_up | exact c2_up | exact c3_up | exact Up.refl _)
end
end Ev
end Go.Proofs.YtbkeeghkpkfeiaaGreatDoor
namespace Go.Proofs.YtbkeeghkpkfeiaaGreatDoor
set_option linter.unusedVariables false
set_option linter.unusedSimpArgs false
open Go.RowKit Go.Maps
namespace Ev
section
variable {inf : TypeId → Option TypeInfo} {und : TypeId → Option TypeDesc} {keyOk : TypeId → AV → Bool} {ext : FuncId → Option (List Opd → XOp)} {N nt : Nat} {okT : Nat → Bool}
theorem cOp_up {o : Op} : Up (cOp inf und keyOk ext okT o) (cOp inf und keyOk ext anyT o) := by
  cases o
  case build t ps =>
    simp only [cOp]
    split
    · rename_i z fs h1 h2
      cases e : fieldsAt inf okT fs ps.toList with
      | none => exact .bad
      | some l => simp only [fieldsAt_up e]; exact .refl _
    · rename_i z n el h1 h2
      split
      · rename_i sz h3
        cases e : elemsAt okT sz ps.toList with
        | none => exact .bad
        | some l => simp only [elemsAt_up e]; exact .refl _
      · exact .bad
    · exact .bad
  case buildSlice t n ps =>
    simp only [cOp]
    split
    · split
      · rename_i sz z h1 h2
        cases e : elemsAt okT (sz + 1) ps.toList with
        | none => exact .bad
        | some l => simp only [elemsAt_up e]; exact .refl _
      · exact .bad
    · exact .bad
  case makeFunc g first caps =>
    simp only [cOp]
    split
    · cases e : cXs okT first.toList with
      | none => exact .bad
      | some a =>
        cases e2 : cXs okT caps.toList with
        | none => exact .bad
        | some b => simp only [cXs_up e, cXs_up e2]; exact .refl _
    · exact .bad
  case slice t x lo hi mx =>
    simp only [cOp]
    cases e : cX okT x with
    | none => exact .bad
    | some a =>
      cases e2 : cO okT lo with
      | none => exact .bad
      | some b =>
        cases e3 : cO okT hi with
        | none => exact .bad
        | some c =>
          cases e4 : cO okT mx with
          | none => exact .bad
          | some d => simp only [cX_up e, cO_up e2, cO_up e3, cO_up e4]; exact .refl _
  case call c =>
    simp only [cOp]
    split
    · exact cBuiltin_up
    · cases e : cXs okT c.args.toList with
      | none => exact .bad
      | some l => simp only [cXs_up e]; exact .refl _
    · rename_i x h1 h2
      cases e : cX okT x with
      | none => exact .bad
      | some a =>
        cases e2 : cXs okT c.args.toList with
        | none => exact .bad
        | some l => simp only [cX_up e, cXs_up e2]; exact .refl _
    · exact .bad
  case makeSlice t l c =>
    simp only [cOp]
    split
    · split
      · exact cells_up fun cs => bif_up c2_up
      · exact .bad
    · exact .bad
  case next x b =>
    cases b
    · exact c1_up
    · exact .bad
  case typeAssert x a t b =>
    cases b
    · simp only [cOp]; split <;> (first | exact Up.bad | exact c1_up | exact c2_up | exact c3_up | exact Up.refl _)
    · exact .bad
  all_goals (simp only [cOp]; (first | (first | exact Up.bad | exact c1_up | exact c2_up | exact c3_up | exact Up.refl _) | skip))
  all_goals (repeat' (first | (first | exact Up.bad | exact c1_up | exact c2_up | exact c3_up | exact Up.refl _) | split))
theorem cGuardD_up {d : Option Pos} {ops : Array Oper} {o : Oper} {q : DOp} (h : cGuardD inf und keyOk ext okT d ops o = .mk q) : cGuardD inf und keyOk ext anyT d ops o = .mk q := by
  have hD : ∀ {q : DOp}, cOperD inf und keyOk ext okT d o = .mk q → cOperD inf und keyOk ext anyT d o = .mk q := fun {q} h => by
    unfold cOperD at h ⊢
    rcases (cOp_up : Up (cOp inf und keyOk ext okT o.op) _) with e | e
    · rw [e] at h; cases h
    · rw [← e]; exact h
  unfold cGuardD at h ⊢
  rcases hg : o.guard with _ | ⟨j, b⟩
  · rw [hg] at h; exact hD h
  · rw [hg] at h
    simp only at h ⊢
    cases ho : ops[j]? with
    | none => simp only [ho] at h; cases h
    | some g =>
      simp only [ho] at h ⊢
      cases hd : g.dst with
      | none => simp only [hd] at h; cases h
      | some p =>
        simp only [hd] at h ⊢
        cases hc : cOperD inf und keyOk ext okT d o with
        | bad => simp only [hc] at h; cases h
        | mk q' =>
          simp only [hc] at h
          simp only [hD hc]
          cases hp : okT p with
          | true => rw [hp] at h; exact h
          | false => rw [hp] at h; cases h
section
variable {ops : Array Oper} {W L : List (Nat × Nat)} {M : List Nat}
theorem cIt_up {i : Nat} {x : It} (h : cIt inf und keyOk ext nt ops W L M i = some x) : cItU inf und keyOk ext nt ops L i = some x := by
  unfold cIt at h
  unfold cItU
  cases ho : ops[i]? with
  | none => simp only [ho] at h; cases h
  | some o =>
    simp only [ho] at h ⊢
    cases hd : dstL nt L o with
    | none => simp only [hd] at h; cases h
    | some d =>
      rcases (cOp_up : Up (cOp inf und keyOk ext (okAt nt W L M i) o.op) _) with e | e
      · simp only [hd, e] at h; cases h
      · rw [← e]
        cases hc : cOp inf und keyOk ext (okAt nt W L M i) o.op with
        | bad => simp only [hd, hc] at h; cases h
        | call g xs => simp only [hd, hc] at h; cases h
        | callv g xs => simp only [hd, hc] at h; cases h
        | op k f =>
          simp only [hd, hc] at h ⊢
          cases hk : Nat.ble k 2 with
          | false => rw [hk] at h; cases h
          | true =>
            simp only [hk, cond_true] at h
            cases hg : o.guard with
            | none => simp only [hg] at h ⊢; exact h
            | some jb =>
              obtain ⟨j, b⟩ := jb
              simp only [hg] at h ⊢
              cases hj : ops[j]? with
              | none => simp only [hj] at h; cases h
              | some g =>
                simp only [hj] at h ⊢
                cases hp : g.dst with
                | none => simp only [hp] at h; cases h
                | some p =>
                  simp only [hp] at h ⊢
                  cases ha : okAt nt W L M i p with
                  | true => rw [ha] at h; exact h
                  | false => rw [ha] at h; cases h
theorem cIts_up : ∀ {l : List Nat} {r : List It}, cIts inf und keyOk ext nt ops W L M l = some r → cItsU inf und keyOk ext nt ops L l = some r
  | [], r, h => h
  | i :: l, r, h => by
    simp only [cIts] at h
    simp only [cItsU]
    cases e : cIt inf und keyOk ext nt ops W L M i with
    | none => simp only [e] at h; cases h
    | some x =>
      cases e2 : cIts inf und keyOk ext nt ops W L M l with
      | none => simp only [e, e2] at h; cases h
      | some q =>
        simp only [e, e2] at h
        simp only [cIt_up e, cIts_up e2]; exact h
theorem cSt_up {s : St} {r : StC} (h : cSt inf und keyOk ext nt ops W L M s = some r) : cStU inf und keyOk ext nt ops L s = some r := by
  unfold cSt at h
  unfold cStU
  cases e : cIts inf und keyOk ext nt ops W L M s.seg with
  | none => simp only [e] at h; cases h
  | some a =>
    cases e2 : cIts inf und keyOk ext nt ops W L M s.opn with
    | none => simp only [e, e2] at h; cases h
    | some b =>
      simp only [e, e2] at h
      simp only [cIts_up e, cIts_up e2]
      cases he : s.eff with
      | none => simp only [he] at h ⊢; exact h
      | some i =>
        simp only [he] at h ⊢
        cases hq : cEff inf und keyOk ext nt ops W L M i with
        | bad => simp only [hq] at h; cases h
        | mk q =>
          simp only [hq] at h
          have : cEffU inf und keyOk ext nt ops L i = .mk q := by
            unfold cEff at hq
            unfold cEffU
            cases ho : ops[i]? with
            | none => simp only [ho] at hq; cases hq
            | some o =>
              simp only [ho] at hq ⊢
              cases hd : dstL nt L o with
              | none => simp only [hd] at hq; cases hq
              | some d => simp only [hd] at hq ⊢; exact cGuardD_up hq
          simp only [this]; exact h
theorem cSts_up : ∀ {l : List St} {r : List StC}, cSts inf und keyOk ext nt ops W L M l = some r → cStsU inf und keyOk ext nt ops L l = some r
  | [], r, h => h
  | s :: l, r, h => by
    simp only [cSts] at h
    simp only [cStsU]
    cases e : cSt inf und keyOk ext nt ops W L M s with
    | none => simp only [e] at h; cases h
    | some x =>
      cases e2 : cSts inf und keyOk ext nt ops W L M l with
      | none => simp only [e, e2] at h; cases h
      | some q =>
        simp only [e, e2] at h
        simp only [cSt_up e, cSts_up e2]; exact h
end
theorem cDrawnU_eq {ops : Array Oper} {p : List St} (hp : planOf inf und keyOk ext ops = p) (h : isMk (cDrawn inf und keyOk ext nt ops) = true) : cDrawnU inf und keyOk ext nt ops p = cDrawn inf und keyOk ext nt ops := by
  have e : cDrawn inf und keyOk ext nt ops = cDraw inf und keyOk ext nt ops (masks ops.toList []) (wrts 0 ops.toList) (lates 0 ops.toList) p := by rw [← hp]; rfl
  rw [e] at h ⊢
  unfold cDraw at h ⊢
  generalize (Nat.ble (nt + nt) 1000000 && _ && _ : Bool) = c at h ⊢
  cases c with
  | false => cases h
  | true =>
    simp only [cond_true] at h ⊢
    unfold cDrawnU
    cases e2 : cSts inf und keyOk ext nt ops (wrts 0 ops.toList) (lates 0 ops.toList) (masks ops.toList []) p with
    | none => simp only [e2] at h; cases h
    | some l => simp only [cSts_up e2]
theorem cCodeU_eq {hp : HintT} : ∀ c : Code, chkC inf und keyOk ext nt hp c = true → cCodeU inf und keyOk ext N nt hp c = cCode inf und keyOk ext N nt c
  | .skip, _ => rfl
  | .label _, _ => rfl
  | .region r ops draw, h => by
    cases draw with
    | false => rfl
    | true =>
      show (match findH hp r with | some p => cDrawnU inf und keyOk ext nt ops p | none => cDrawn inf und keyOk ext nt ops) = cDrawn inf und keyOk ext nt ops
      have h : (match findH hp r with | some p => eqP (planOf inf und keyOk ext ops) p && isMk (cDrawn inf und keyOk ext nt ops) | none => true) = true := h
      cases e : findH hp r with
      | none => rfl
      | some p =>
        simp only [e, Bool.and_eq_true] at h
        exact cDrawnU_eq (eqP_eq _ _ h.1) h.2
  | .seq a b, h => by
    simp only [chkC, Bool.and_eq_true] at h
    simp only [cCodeU, cCode, cCodeU_eq a h.1, cCodeU_eq b h.2]
  | .cond c a b, h => by
    simp only [chkC, Bool.and_eq_true] at h
    simp only [cCodeU, cCode, cCodeU_eq a h.1, cCodeU_eq b h.2]
    cases cX (below nt) c <;> rfl
  | .block id c, h => by
    simp only [chkC] at h
    simp only [cCodeU, cCode, cCodeU_eq c h]
  | .loop c, h => by
    simp only [chkC] at h
    simp only [cCodeU, cCode, cCodeU_eq c h]
  | .scope c, h => by
    simp only [chkC] at h
    simp only [cCodeU, cCode, cCodeU_eq c h]
  | .exit _, _ => rfl
  | .ret, _ => rfl
  | .rangeFunc .., _ => rfl
  | .goto _, _ => rfl
  | .refuse _, _ => rfl
theorem cFnU_eq {hp : HintT} {f : Func} (h : chkF inf und keyOk ext hp f = true) : cFnU inf und keyOk ext N hp f = cFn inf und keyOk ext N f := by
  unfold cFnU cFn
  unfold chkF at h
  cases e : f.body with
  | none => rfl
  | some c =>
    rw [e] at h
    have := cCodeU_eq (N := N) c h
    cases cRes inf und f.ntmps f.results.toList with
    | none => rfl
    | some r => simp only [this]
end

/-! A table of functions. -/
inductive BT where
  | leaf
  | node (k : Nat) (v : Bf) (l r : BT)
noncomputable def BT.find (t : BT) (f : Nat) (d : Bf) : Bf := BT.rec (motive := fun _ => Bf) d (fun k v _ _ a b => bi (Nat.beq f k) v (bi (Nat.blt f k) a b)) t
def BT.All (p : Nat → Bf → Prop) : BT → Prop
  | .leaf => True
  | .node k v l r => p k v ∧ l.All p ∧ r.All p
theorem BT.find_eq {g : Nat → Bf} : ∀ (t : BT), t.All (fun k v => v = g k) → ∀ f, t.find f (g f) = g f
  | .leaf, _, f => rfl
  | .node k v l r, h, f => by
    show bi (Nat.beq f k) v (bi (Nat.blt f k) (l.find f (g f)) (r.find f (g f))) = g f
    cases e : Nat.beq f k with
    | true =>
      have := Nat.eq_of_beq_eq_true e
      subst this
      exact h.1
    | false =>
      show bi (Nat.blt f k) (l.find f (g f)) (r.find f (g f)) = g f
      cases Nat.blt f k with
      | true => exact BT.find_eq l h.2.1 f
      | false => exact BT.find_eq r h.2.2 f
end Ev
end Go.Proofs.YtbkeeghkpkfeiaaGreatDoor
