/- What was made ready is what the model does: operations. What was made ready is what the model does: each operation. What was made ready is what the model does: each operation, on. What was made ready is what the model does: each operation, at last. What was made ready is what the model does: all operations. Operations in a frame, plain regions. Plain regions, code. -/
import Derived.Test.YtoaimjielnempaaGreatDoorNsB
import Derived.Laws.Sem
import Derived.LoopN
import Derived.Scope
import Derived.Tactics
namespace Go.Proofs.YtoaimjielnempaaGreatDoor
set_option linter.unusedVariables false
set_option linter.unusedSimpArgs false
open Go.RowKit Go.Maps
namespace Ev

structure Env (P : Program) (inf : TypeId → Option TypeInfo) (und : TypeId → Option TypeDesc) (kf : TypeId → AV → Bool) : Prop where
  inf : ∀ t i, inf t = some i → P.info? t = some i
  und : ∀ t d, und t = some d → P.underlying t = some d
  key : KeyOK P kf

structure FO (okT : Nat → Bool) (c : Cx) (fr : Fr) (a : Act) : Prop where
  val : ∀ t, okT t = true → V c (Fr.get fr (slot t)) (a.tmps.getD t undef)

section
variable {P : Program} {B : Nat} {W : World} {ι : Pos → Option Nat} {h h' : H} {w w' : World} {fr : Fr} {a : Act} {c : Cx} {r : AV} {okT : Nat → Bool}
variable {inf : TypeId → Option TypeInfo} {und : TypeId → Option TypeDesc} {kf : TypeId → AV → Bool} {ext : FuncId → Option (List Opd → XOp)}

theorem FO.mono {c d : Cx} (hl : c.Le d) (hf : FO okT c fr a) : FO okT d fr a := ⟨fun t ht => (hf.val t ht).mono hl⟩
theorem ofScalar_V {v : Value} {x : AV} (e : ofScalar v = some x) : V c x v ∧ x.one = true := by
  unfold ofScalar at e
  split at e <;> cases e
  · exact ⟨.bool _, rfl⟩
  · exact ⟨.int _ _, rfl⟩
  · exact ⟨.str _, rfl⟩
  · exact ⟨.nilp, rfl⟩
  · exact ⟨.nils, rfl⟩
  · exact ⟨.nilm, rfl⟩
  · exact ⟨.nilf, rfl⟩
  · exact ⟨.nili, rfl⟩
theorem ofScalars_V : ∀ {vs : List Value} {xs : List AV}, ofScalars vs = some xs → VL c xs vs ∧ ∀ x ∈ xs, x.one = true
  | [], _, e => by cases e; exact ⟨.nil, fun _ h => by cases h⟩
  | v :: vs, xs, e => by
    unfold ofScalars at e
    cases h1 : ofScalar v with
    | none => rw [h1] at e; cases e
    | some x =>
      cases h2 : ofScalars vs with
      | none => rw [h1, h2] at e; cases e
      | some ys =>
        rw [h1, h2] at e
        cases e
        obtain ⟨g1, g2⟩ := ofScalar_V (c := c) h1
        obtain ⟨g3, g4⟩ := ofScalars_V h2
        exact ⟨.cons g1 g3, fun y hy => by
          rcases List.mem_cons.1 hy with rfl | hy
          · exact g2
          · exact g4 y hy⟩
theorem ofVal_V {v : Value} {x : AV} (e : ofVal v = some x) : V c x v := by
  unfold ofVal at e
  split at e
  · rename_i cs
    cases h1 : ofScalars cs.toList with
    | none => rw [h1] at e; cases e
    | some l =>
      rw [h1] at e
      cases e
      obtain ⟨g1, g2⟩ := ofScalars_V (c := c) h1
      have := V.agg _ _ g1 g2
      simpa using this
  · exact (ofScalar_V e).1
theorem cX_ok {x : Operand} {o : Opd} (hf : FO okT c fr a) (e : cX okT x = some o) : V c (o fr) (a.eval x) := by
  cases x with
  | tmp t =>
    simp only [cX] at e
    cases hb : okT t with
    | false => rw [hb] at e; cases e
    | true =>
      rw [hb] at e
      cases e
      exact hf.val t hb
  | const v =>
    simp only [cX] at e
    cases h1 : ofVal v with
    | none => rw [h1] at e; cases e
    | some x => rw [h1] at e; cases e; exact ofVal_V h1
  | func f => cases e; exact .func f 0 [] [] .nil (Nat.le_refl _)
  | global g => cases e
theorem cXs_ok (hf : FO okT c fr a) : ∀ {xs : List Operand} {os : List Opd}, cXs okT xs = some os → OL c fr os (xs.map a.eval)
  | [], _, e => by cases e; exact .nil
  | x :: xs, os, e => by
    unfold cXs at e
    cases h1 : cX okT x with
    | none => rw [h1] at e; cases e
    | some o =>
      cases h2 : cXs okT xs with
      | none => rw [h1, h2] at e; cases e
      | some l => rw [h1, h2] at e; cases e; exact .cons (cX_ok hf h1) (cXs_ok hf h2)
theorem cO_ok (hf : FO okT c fr a) {x : Option Operand} {o : Option Opd} (e : cO okT x = some o) : OO c fr o (x.map a.eval) := by
  cases x with
  | none => cases e; exact .none
  | some x =>
    unfold cO at e
    cases h1 : cX okT x with
    | none => simp only [h1] at e; cases e
    | some l => simp only [h1] at e; cases e; exact .some (cX_ok hf h1)
def placeF (inf : TypeId → Option TypeInfo) (fs : Array Field) (i : Nat) : Option (Nat × Nat) := (fs[i]?).bind fun f => (sizeT inf f.type).map fun n => (f.offset, n)
theorem fieldsAt_ok (hf : FO okT c fr a) {fs : Array Field} : ∀ {ps : List (Nat × Operand)} {l : List (Nat × Nat × Opd)}, fieldsAt inf okT fs ps = some l → PL c fr (placeF inf fs) l (ps.map fun p => (p.1, a.eval p.2))
  | [], _, e => by cases e; exact .nil
  | (i, x) :: ps, l, e => by
    unfold fieldsAt at e
    cases h0 : fs[i]? with
    | none => rw [h0] at e; cases e
    | some f =>
      cases h1 : cX okT x with
      | none => rw [h0, h1] at e; cases e
      | some o =>
        cases h2 : fieldsAt inf okT fs ps with
        | none => rw [h0, h1, h2] at e; cases e
        | some l' =>
          rw [h0, h1, h2] at e
          simp only at e
          cases h3 : sizeT inf f.type with
          | none => rw [h3] at e; cases e
          | some n =>
            rw [h3] at e
            cases e
            exact .cons (by simp [placeF, h0, h3]) (cX_ok hf h1) (fieldsAt_ok hf h2)
theorem elemsAt_ok (hf : FO okT c fr a) {sz : Nat} : ∀ {ps : List (Nat × Operand)} {l : List (Nat × Nat × Opd)}, elemsAt okT sz ps = some l → PL c fr (fun i => some (i * sz, sz)) l (ps.map fun p => (p.1, a.eval p.2))
  | [], _, e => by cases e; exact .nil
  | (i, x) :: ps, l, e => by
    unfold elemsAt at e
    cases h1 : cX okT x with
    | none => rw [h1] at e; cases e
    | some o =>
      cases h2 : elemsAt okT sz ps with
      | none => rw [h1, h2] at e; cases e
      | some l' => rw [h1, h2] at e; cases e; exact .cons rfl (cX_ok hf h1) (elemsAt_ok hf h2)

theorem c1_ok {k k' : Nat} {f : Opd → XOp} {g : XOp} {x : Operand} (e : c1 okT k f x = .op k' g) : ∃ o, cX okT x = some o ∧ k' = k ∧ g = f o := by
  unfold c1 at e
  cases h1 : cX okT x with
  | none => rw [h1] at e; cases e
  | some o => rw [h1] at e; cases e; exact ⟨_, rfl, rfl, rfl⟩
theorem c2_ok {k k' : Nat} {f : Opd → Opd → XOp} {g : XOp} {x y : Operand} (e : c2 okT k f x y = .op k' g) : ∃ o p, cX okT x = some o ∧ cX okT y = some p ∧ k' = k ∧ g = f o p := by
  unfold c2 at e
  cases h1 : cX okT x with
  | none => rw [h1] at e; cases e
  | some o =>
    cases h2 : cX okT y with
    | none => rw [h1, h2] at e; cases e
    | some p => rw [h1, h2] at e; cases e; exact ⟨_, _, rfl, rfl, rfl, rfl⟩
theorem c3_ok {k k' : Nat} {f : Opd → Opd → Opd → XOp} {g : XOp} {x y z : Operand} (e : c3 okT k f x y z = .op k' g) : ∃ o p q, cX okT x = some o ∧ cX okT y = some p ∧ cX okT z = some q ∧ k' = k ∧ g = f o p q := by
  unfold c3 at e
  cases h1 : cX okT x with
  | none => rw [h1] at e; cases e
  | some o =>
    cases h2 : cX okT y with
    | none => rw [h1, h2] at e; cases e
    | some p =>
      cases h3 : cX okT z with
      | none => rw [h1, h2, h3] at e; cases e
      | some q => rw [h1, h2, h3] at e; cases e; exact ⟨_, _, _, rfl, rfl, rfl, rfl, rfl⟩

theorem Env.size (E : Env P inf und kf) {t : TypeId} {n : Nat} (e : sizeT inf t = some n) : ∃ i, inf t = some i ∧ P.info? t = some i ∧ i.size = n ∧ ∀ w, (sizeOf t).run P w = .ok n w := by
  unfold sizeT at e
  cases h1 : inf t with
  | none => rw [h1] at e; cases e
  | some i =>
    rw [h1] at e
    cases e
    have := E.inf t i h1
    exact ⟨i, rfl, this, rfl, fun w => by simp [sizeOf, typeInfo, this]⟩
theorem Env.zero (E : Env P inf und kf) {t : TypeId} {z : AV} (e : zeroOf inf t = some z) : ∃ i v, inf t = some i ∧ P.info? t = some i ∧ i.zero = some v ∧ (∀ w, (zeroValue t).run P w = .ok v w) ∧ ∀ c, V c z v := by
  unfold zeroOf at e
  cases h1 : inf t with
  | none => rw [h1] at e; cases e
  | some i =>
    rw [h1] at e
    simp only at e
    cases h2 : i.zero with
    | none => rw [h2] at e; cases e
    | some v =>
      rw [h2] at e
      have := E.inf t i h1
      exact ⟨i, v, rfl, this, h2, fun w => by simp [zeroValue, typeInfo, this, h2], fun c => ofVal_V e⟩
theorem Env.zeroV (E : Env P inf und kf) {t : TypeId} {z : AV} (e : zeroOf inf t = some z) : ZeroV P t z := by
  obtain ⟨_, v, _, _, _, h4, h5⟩ := E.zero e
  exact ⟨v, h4, h5⟩
/-- What is made of a value's cells. -/
theorem cells_bx {v : AV} {f : List AV → Bx} {k : Nat} {g : XOp} (e : v.cells? .bad f = .op k g) : ∃ cs, f cs = .op k g ∧ ((v = .agg cs) ∨ (v.one = true ∧ cs = [v])) := by
  cases v <;> first | cases e | exact ⟨_, e, .inl rfl⟩ | exact ⟨_, e, .inr ⟨rfl, rfl⟩⟩
theorem Env.zeroC (E : Env P inf und kf) {t : TypeId} {z : AV} {cs : List AV} (e : zeroOf inf t = some z) (hc : (z = .agg cs) ∨ (z.one = true ∧ cs = [z])) : Zero P t cs := by
  obtain ⟨_, v, _, _, _, h4, h5⟩ := E.zero e
  refine ⟨v, h4, fun c => ?_, ?_⟩
  · rcases hc with hc | ⟨h1, rfl⟩
    · exact (cells_V (h5 c)).1 cs hc
    · exact (cells_V (h5 c)).2 h1
  · rcases hc with rfl | ⟨h1, rfl⟩
    · obtain ⟨_, _, _, h6⟩ := (h5 ⟨fun _ => none, fun _ => False, 0, fun _ => 0⟩).agg_inv
      exact h6
    · intro x hx
      rw [List.mem_singleton.1 hx]
      exact h1
theorem run_isAgg {t : TypeId} {d : TypeDesc} (hu : P.underlying t = some d) (w : World) : (isAgg t).run P w = .ok (match d with | .struct _ | .array _ _ => true | _ => false) w := by
  simp only [isAgg, Sem.run_bind, run_underlying hu, Result.andThen_ok]
  cases d <;> rfl
theorem Env.wide (E : Env P inf und kf) {t : TypeId} {m : Option Nat} (e : wideT inf und t = some m) :
    (m = none ∧ ∀ w, (isAgg t).run P w = .ok false w) ∨ ∃ n d, m = some n ∧ (∀ w, (isAgg t).run P w = .ok true w) ∧ (∀ w, (sizeOf t).run P w = .ok n w) ∧ P.underlying t = some d ∧ d.isRow = true ∧ (P.info? t).map (·.size) = some n := by
  unfold wideT at e
  cases h1 : aggT und t with
  | none => rw [h1] at e; cases e
  | some b =>
    cases h2 : sizeT inf t with
    | none => rw [h1, h2] at e; cases b <;> cases e
    | some n =>
      rw [h1, h2] at e
      obtain ⟨i, _, g1, g2, g3⟩ := E.size h2
      unfold aggT at h1
      cases hu : und t with
      | none => rw [hu] at h1; cases h1
      | some d =>
        rw [hu] at h1
        have hP := E.und t d hu
        cases d <;> simp only [Option.some.injEq] at h1 <;> subst h1 <;> cases e <;>
          first
          | exact .inl ⟨rfl, fun w => run_isAgg hP w⟩
          | exact .inr ⟨_, _, rfl, fun w => run_isAgg hP w, g3, hP, rfl, by rw [g1]; exact congrArg some g2⟩
theorem Env.wideW (E : Env P inf und kf) {t : TypeId} {m : Option Nat} (e : wideT inf und t = some m) : Wide P t m := by
  rcases E.wide e with ⟨h1, h2⟩ | ⟨n, d, h1, h2, h3, _⟩
  · exact .inl ⟨h1, h2⟩
  · exact .inr ⟨n, h1, h2, h3⟩
end
end Ev
end Go.Proofs.YtoaimjielnempaaGreatDoor
namespace Go.Proofs.YtoaimjielnempaaGreatDoor
set_option linter.unusedVariables false
set_option linter.unusedSimpArgs false
open Go.RowKit Go.Maps
namespace Ev

section
variable {P : Program} {B : Nat} {W : World} {ι : Pos → Option Nat} {h h' : H} {w w' : World} {fr : Fr} {a : Act} {c : Cx} {r : AV} {okT : Nat → Bool}
variable {inf : TypeId → Option TypeInfo} {und : TypeId → Option TypeDesc} {kf : TypeId → AV → Bool} {ext : FuncId → Option (List Opd → XOp)}

def Res0 (P : Program) (c : Cx) (h h' : H) (r : AV) (s : Sem Next) : Prop := h' = h ∧ ∃ u, V c r u ∧ ∀ w, s.run P w = .ok (.value u) w
def Res1 (P : Program) (c : Cx) (h h' : H) (r : AV) (s : Sem Next) (w : World) : Prop := h' = h ∧ ∃ u, V c r u ∧ s.run P w = .ok (.value u) w
def MkO (P : Program) (c : Cx) (s : Sem Next) (b : Pos) (r : AV) (o : AObj) : Prop :=
  ∃ (obj : Obj) (mk : Nat → Value), (∀ w, s.run P w = .ok (.value (mk w.heap.size)) (w.alloc obj)) ∧ (∀ u q, u.heap[q]? = some obj → ObjR P c u q o) ∧
    ∀ (d : Cx) q, b.num < d.nx → (d.lv b → d.ι b = some q) → d.bs q = objSize obj → V d r (mk q)
def Res2 (P : Program) (c : Cx) (h h' : H) (r : AV) (s : Sem Next) : Prop := ∃ o, h' = h.new o ∧ MkO P c s h.nx r o
def Res3 (P : Program) (B : Nat) (W : World) (ι : Pos → Option Nat) (h h' : H) (r : AV) (s : Sem Next) (w : World) : Prop :=
  ∃ ι' w' u, (s.run P w = .ok (.value u) w' ∨ (s.run P w = .ok .skip w' ∧ u = undef)) ∧ Rel P B W ι' h' w' ∧ Ext ι h w ι' h' w' ∧ V (cx ι' h' w') r u
def OpOk (P : Program) (B : Nat) (W : World) (ι : Pos → Option Nat) (w : World) (k : Nat) (c : Cx) (h h' : H) (r : AV) (s : Sem Next) : Prop :=
  match k with
  | 0 => Res0 P c h h' r s
  | 1 => Res1 P c h h' r s w
  | 2 => Res2 P c h h' r s
  | _ => Res3 P B W ι h h' r s w
theorem Res0.r1 {s : Sem Next} (x : Res0 P c h h' r s) : Res1 P c h h' r s w := ⟨x.1, x.2.imp fun _ y => ⟨y.1, y.2 w⟩⟩
theorem Res1.r3 {s : Sem Next} (rel : Rel P B W ι h w) (x : Res1 P (cx ι h w) h h' r s w) : Res3 P B W ι h h' r s w := by
  obtain ⟨rfl, u, h1, h2⟩ := x
  exact ⟨ι, w, u, .inl h2, rel, Ext.refl _ _ _, h1⟩
theorem MkO.rel {s : Sem Next} {o : AObj} (m : MkO P (cx ι h w) s h.nx r o) (rel : Rel P B W ι h w) : Res3 P B W ι h (h.new o) r s w := by
  obtain ⟨obj, mk, h1, h2, h3⟩ := m
  have hn := heap_new (wnew_alloc w obj)
  obtain ⟨k1, k2⟩ := rel.new (wnew_alloc w obj) (h2 _ _ hn)
  refine ⟨upd ι h.nx w.heap.size, w.alloc obj, mk w.heap.size, .inl (h1 w), k1, k2, h3 _ _ ?_ (fun _ => upd_same _ _ _) ?_⟩
  · show h.nx.num < (h.new _).nx.num
    rw [nx_new]; omega
  · show bsz (w.alloc obj) w.heap.size = objSize obj
    unfold bsz
    rw [hn]
    cases obj <;> rfl
theorem Res2.r3 {s : Sem Next} (rel : Rel P B W ι h w) (x : Res2 P (cx ι h w) h h' r s) : Res3 P B W ι h h' r s w := by
  obtain ⟨o, rfl, m⟩ := x
  exact m.rel rel
theorem OpOk.r3 {k : Nat} {s : Sem Next} (rel : Rel P B W ι h w) (x : OpOk P B W ι w k (cx ι h w) h h' r s) : Res3 P B W ι h h' r s w := by
  match k, x with
  | 0, x => exact Res1.r3 rel (Res0.r1 x)
  | 1, x => exact Res1.r3 rel x
  | 2, x => exact Res2.r3 rel x
  | _ + 3, x => exact x

theorem mk_v {s : Sem Value} {o : AObj} {b : Pos} {q : Sem Next} (m : Mk P c s b r o) (hq : q = (do pure (.value (← s)) : Sem Next)) : MkO P c q b r o := by
  obtain ⟨obj, mk, h1, h2, h3⟩ := m
  refine ⟨obj, mk, fun w => ?_, h2, h3⟩
  rw [hq]
  simp only [Sem.run_bind, h1, Result.andThen_ok, Sem.run_pure]
theorem run_v {s : Sem Value} {u : Value} (e : s.run P w = .ok u w') : (do pure (.value (← s)) : Sem Next).run P w = .ok (.value u) w' := by
  simp only [Sem.run_bind, e, Result.andThen_ok, Sem.run_pure]
theorem run_u {s : Sem Unit} (e : s.run P w = .ok () w') : (do s; pure .skip : Sem Next).run P w = .ok .skip w' := by
  simp only [Sem.run_bind, e, Result.andThen_ok, Sem.run_pure]
/-- From a value's run to the operation's. -/
theorem res0 {s : Sem Value} {q : Sem Next} (x : h' = h ∧ ∃ u, V c r u ∧ ∀ w, s.run P w = .ok u w) (hq : q = (do pure (.value (← s)) : Sem Next)) : Res0 P c h h' r q :=
  ⟨x.1, x.2.imp fun _ y => ⟨y.1, fun w => by rw [hq]; exact run_v (y.2 w)⟩⟩
theorem res1 {s : Sem Value} {q : Sem Next} (x : h' = h ∧ ∃ u, V c r u ∧ s.run P w = .ok u w) (hq : q = (do pure (.value (← s)) : Sem Next)) : Res1 P c h h' r q w :=
  ⟨x.1, x.2.imp fun _ y => ⟨y.1, by rw [hq]; exact run_v y.2⟩⟩
theorem res3 {s : Sem Value} {q : Sem Next} (x : ∃ ι' w' u, s.run P w = .ok u w' ∧ Rel P B W ι' h' w' ∧ Ext ι h w ι' h' w' ∧ V (cx ι' h' w') r u) (hq : q = (do pure (.value (← s)) : Sem Next)) : Res3 P B W ι h h' r q w := by
  obtain ⟨ι', w', u, h1, h2, h3, h4⟩ := x
  exact ⟨ι', w', u, .inl (by rw [hq]; exact run_v h1), h2, h3, h4⟩
theorem res3u {s : Sem Unit} {q : Sem Next} (x : ∃ w', r = .undef ∧ s.run P w = .ok () w' ∧ Rel P B W ι h' w' ∧ Ext ι h w ι h' w') (hq : q = (do s; pure .skip : Sem Next)) : Res3 P B W ι h h' r q w := by
  obtain ⟨w', h0, h1, h2, h3⟩ := x
  subst h0
  exact ⟨ι, w', undef, .inr ⟨by rw [hq]; exact run_u h1, rfl⟩, h2, h3, .undef⟩

theorem guard_other {op : BinOp} {t : TypeId} {x y : Operand} {u v : Value} (h1 : op ≠ .eql) (h2 : op ≠ .neq) : (eqGuard op t x y u v).run P w = .ok () w := by
  cases op <;> first | rfl | exact absurd rfl h1 | exact absurd rfl h2
theorem guard_flat {op : BinOp} {t : TypeId} {x y : Operand} {u v : Value} (hu : (∃ k n, u = .int k n) ∨ ∃ s, u = .string s) : (eqGuard op t x y u v).run P w = .ok () w := by
  rcases hu with ⟨k, n, rfl⟩ | ⟨s, rfl⟩ <;> cases op <;> rfl
theorem with_guard {op : BinOp} {t : TypeId} {x y : Operand} {u v : Value} (hg : ∀ w, (eqGuard op t x y u v).run P w = .ok () w)
    (k : h' = h ∧ ∃ z, V c r z ∧ ∀ w, (Go.binOp op t u v).run P w = .ok z w) : h' = h ∧ ∃ z, V c r z ∧ ∀ w, (eqSem op t x y u v).run P w = .ok z w :=
  ⟨k.1, k.2.imp fun _ y => ⟨y.1, fun w => by simp only [eqSem, Sem.run_bind, hg, Result.andThen_ok, y.2]⟩⟩
theorem int_flat {f : IntKind → Int → Int → Option AV} {x y : Opd} {u : Value} (hx : V c (x fr) u) (e : xInt f x y fr h = .ok r h') : ∃ k n, u = .int k n := by
  obtain ⟨j, n, ex, e⟩ := int_ok e
  rw [ex] at hx
  exact ⟨_, _, hx.int_inv⟩
theorem str_flat {op : BinOp} {x y : Opd} {u : Value} (hx : V c (x fr) u) (e : xStr op x y fr h = .ok r h') : ∃ s, u = .string s := by
  obtain ⟨s, ex, e⟩ := str_ok e
  rw [ex] at hx
  exact ⟨_, hx.str_inv⟩
end
end Ev
end Go.Proofs.YtoaimjielnempaaGreatDoor
namespace Go.Proofs.YtoaimjielnempaaGreatDoor
set_option linter.unusedVariables false
set_option linter.unusedSimpArgs false
open Go.RowKit Go.Maps
namespace Ev

section
variable {P : Program} {B : Nat} {W : World} {ι : Pos → Option Nat} {h h' : H} {w w' : World} {fr : Fr} {a : Act} {c : Cx} {r : AV} {okT : Nat → Bool} {o : Oper} {k : Nat} {f : XOp}
variable {inf : TypeId → Option TypeInfo} {und : TypeId → Option TypeDesc} {kf : TypeId → AV → Bool} {ext : FuncId → Option (List Opd → XOp)}

def ExtOk (P : Program) (ext : FuncId → Option (List Opd → XOp)) : Prop := ∀ f g, ext f = some g → ∀ (c : Cx) (l : List Opd) (vs : List Value) (fr : Fr) (h h' : H) (r : AV), OL c fr l vs → g l fr h = .ok r h' →
  h' = h ∧ ∃ u, V c r u ∧ ∀ w, (callFunc f vs.toArray).run P w = .ok (.value u) w

theorem o_builtin (E : Env P inf und kf) {b : Builtin} {ts : Array TypeId} {xs : List Operand} {ty : TypeId} {cs : Array Bool} (hc : cBuiltin inf und kf okT b ts xs = .op k f) (hf : FO okT c fr a) (rel : (k = 1 ∨ k = 3) → c = cx ι h w ∧ Rel P B W ι h w) (e : f fr h = .ok r h') :
    OpOk P B W ι w k c h h' r (builtin b ts ty cs (xs.map a.eval).toArray) := by
  unfold cBuiltin at hc
  split at hc
  · rename_i x
    cases ht : ts[0]? with
    | none => simp only [ht] at hc; cases hc
    | some t =>
      simp only [ht] at hc
      cases hu : und t with
      | none => simp only [hu] at hc; cases hc
      | some d =>
        simp only [hu] at hc
        have hP := E.und t d hu
        cases d <;> simp only [reduceCtorEq] at hc
        case string =>
          obtain ⟨x', h1, rfl, rfl⟩ := c1_ok hc
          exact res0 (s_lenS ty ts ht hP (cX_ok hf h1) e) rfl
        case slice q =>
          obtain ⟨x', h1, rfl, rfl⟩ := c1_ok hc
          exact res0 (s_lenL ty ts ht hP (cX_ok hf h1) e) rfl
        case map q1 q2 =>
          obtain ⟨x', h1, rfl, rfl⟩ := c1_ok hc
          obtain ⟨rfl, rl⟩ := rel (by simp)
          exact res1 (r_lenM ty ts rl ht hP (cX_ok hf h1) e) rfl
  · rename_i x y
    split at hc
    case h_2 => cases hc
    rename_i t u hts
    have hts : ts = #[t, u] := by rw [← Array.toArray_toList (xs := ts), hts]
    subst hts
    have zs : ∀ {q : TypeId} {n m : Nat}, zsz inf q = some (n, m) → ∃ i z, P.info? q = some i ∧ i.zero = some z ∧ z.cells.size = i.size ∧ 0 < i.size ∧ i.size = n ∧ i.bytes = m := fun {q n m} hz => by
      unfold zsz at hz
      cases h1 : inf q with
      | none => rw [h1] at hz; cases hz
      | some i =>
        rw [h1] at hz
        simp only at hz
        cases h2 : i.zero with
        | none => rw [h2] at hz; cases hz
        | some z =>
          rw [h2] at hz
          simp only at hz
          cases h3 : (Nat.beq z.cells.size i.size && Nat.blt 0 i.size) with
          | false => rw [h3] at hz; cases hz
          | true =>
            rw [h3] at hz
            cases hz
            rw [Bool.and_eq_true, blt_eq] at h3
            exact ⟨i, z, E.inf q i h1, h2, Nat.eq_of_beq_eq_true h3.1, of_decide_eq_true h3.2, rfl, rfl⟩
    split at hc
    · rename_i e1 h1 h2
      split at hc
      · rename_i by_ hz
        obtain ⟨i, z, g1, g2, g3, g4, g5, g6⟩ := zs hz
        obtain ⟨x', y', j1, j2, rfl, rfl⟩ := c2_ok hc
        subst g6
        obtain ⟨rfl, rl⟩ := rel (by simp)
        exact res3 (e_appS (ty := ty) rl (E.und _ _ h1) (E.und _ _ h2) g1 g2 g3 g5 (cX_ok hf j1) (cX_ok hf j2) e) rfl
      · cases hc
    · rename_i e1 e2 h1 h2
      split at hc
      · rename_i sz by_ hz
        obtain ⟨i, z, g1, g2, g3, g4, g5, g6⟩ := zs hz
        obtain ⟨x', y', j1, j2, rfl, rfl⟩ := c2_ok hc
        subst g5 g6
        obtain ⟨rfl, rl⟩ := rel (by simp)
        exact res3 (e_app (ty := ty) rl (E.und _ _ h1) (E.und _ _ h2) g1 g2 g3 g4 (cX_ok hf j1) (cX_ok hf j2) e) rfl
      · cases hc
    · cases hc
  · rename_i m x
    cases ht : ts[0]? with
    | none => simp only [ht] at hc; cases hc
    | some t =>
      simp only [ht] at hc
      cases hu : und t with
      | none => simp only [hu] at hc; cases hc
      | some d =>
        simp only [hu] at hc
        have hP := E.und t d hu
        cases d <;> simp only [reduceCtorEq] at hc
        case map q1 q2 =>
          obtain ⟨x', y', h1, h2, rfl, rfl⟩ := c2_ok hc
          obtain ⟨rfl, rl⟩ := rel (by simp)
          obtain ⟨w', u, g1, g2, g3, g4⟩ := e_del (ty := ty) ts E.key rl ht hP (cX_ok hf h1) (cX_ok hf h2) e
          exact res3 (s := Builtin.delete_ ts ty #[a.eval m, a.eval x]) ⟨ι, w', u, g1, g2, g3, g4⟩ rfl
  · rename_i x
    cases ht : ts[0]? with
    | none => simp only [ht] at hc; cases hc
    | some t =>
      simp only [ht] at hc
      cases hu : und t with
      | none => simp only [hu] at hc; cases hc
      | some d =>
        simp only [hu] at hc
        have hP := E.und t d hu
        cases d <;> simp only [reduceCtorEq] at hc
        case slice q =>
          cases hz : zeroOf inf q with
          | none => simp only [hz] at hc; cases hc
          | some z =>
            simp only [hz] at hc
            obtain ⟨cs, hc, hcs⟩ := cells_bx hc
            obtain ⟨x', h1, rfl, rfl⟩ := c1_ok hc
            obtain ⟨rfl, rl⟩ := rel (by simp)
            obtain ⟨w', u, g1, g2, g3, g4⟩ := e_clr (ty := ty) ts rl ht hP (E.zeroC hz hcs) (cX_ok hf h1) e
            exact res3 (s := Builtin.clear_ ts ty #[a.eval x]) ⟨ι, w', u, g1, g2, g3, g4⟩ rfl
  · rename_i x y
    cases ht : ts[0]? with
    | none => simp only [ht] at hc; cases hc
    | some t =>
      simp only [ht] at hc
      cases hu : und t with
      | none => simp only [hu] at hc; cases hc
      | some d =>
        simp only [hu] at hc
        have hP := E.und t d hu
        cases d <;> simp only [reduceCtorEq] at hc
        case slice q =>
          split at hc
          · rename_i hz
            obtain ⟨x', y', j1, j2, rfl, rfl⟩ := c2_ok hc
            obtain ⟨rfl, rl⟩ := rel (by simp)
            have hq : (P.info? q).map (·.size) = some 1 := by
              unfold sizeT at hz
              cases hi : inf q with
              | none => rw [hi] at hz; cases hz
              | some i =>
                rw [hi] at hz
                rw [E.inf q i hi]
                exact hz
            obtain ⟨w', u', k1, k2, k3, k4⟩ := e_cpyS (ty := ty) ts rl ht hP hq (cX_ok hf j1) (cX_ok hf j2) e
            exact res3 (s := Builtin.copy_ ts ty #[a.eval x, a.eval y]) ⟨ι, w', u', k1, k2, k3, k4⟩ rfl
          · cases hc
  · rename_i x y
    obtain ⟨x', y', h1, h2, rfl, rfl⟩ := c2_ok hc
    exact res0 (s_min ty ts (cX_ok hf h1) (cX_ok hf h2) e) rfl
  · rename_i x y
    obtain ⟨x', y', h1, h2, rfl, rfl⟩ := c2_ok hc
    exact res0 (s_max ty ts (cX_ok hf h1) (cX_ok hf h2) e) rfl
  · cases hc
end
end Ev
end Go.Proofs.YtoaimjielnempaaGreatDoor
namespace Go.Proofs.YtoaimjielnempaaGreatDoor
set_option linter.unusedVariables false
set_option linter.unusedSimpArgs false
open Go.RowKit Go.Maps
namespace Ev

section
variable {P : Program} {B : Nat} {W : World} {ι : Pos → Option Nat} {h h' : H} {w w' : World} {fr : Fr} {a : Act} {c : Cx} {r : AV} {okT : Nat → Bool} {o : Oper} {k : Nat} {f : XOp} {q : Sem Next}
variable {inf : TypeId → Option TypeInfo} {und : TypeId → Option TypeDesc} {kf : TypeId → AV → Bool} {ext : FuncId → Option (List Opd → XOp)}

theorem o_binop (E : Env P inf und kf) {op : BinOp} {t u : TypeId} {x y : Operand} (hc : cOp inf und kf ext okT (.binOp op t x y u) = .op k f) (hf : FO okT c fr a) (rel : (k = 1 ∨ k = 3) → c = cx ι h w ∧ Rel P B W ι h w) (e : f fr h = .ok r h')
    (hq : q = (do pure (.value (← eqSem op t x y (a.eval x) (a.eval y))) : Sem Next)) : OpOk P B W ι w k c h h' r q := by
  have hint : ∀ {g : IntKind → Int → Int → Option AV}, ((op = .add ∧ g = bAdd) ∨ g = binI op) → c2 okT 0 (xInt g) x y = .op k f → OpOk P B W ι w k c h h' r q := fun hg hc => by
    obtain ⟨x', y', h1, h2, rfl, rfl⟩ := c2_ok hc
    obtain ⟨n1, n2, hn⟩ := int_flat (cX_ok hf h1) e
    exact res0 (with_guard (fun w => guard_flat (.inl ⟨_, _, hn⟩)) (s_xint t hg (cX_ok hf h1) (cX_ok hf h2) e)) hq
  have hcmp : c2 okT 0 (xCmp op) x y = .op k f → OpOk P B W ι w k c h h' r q := fun hc => by
    obtain ⟨x', y', h1, h2, rfl, rfl⟩ := c2_ok hc
    rcases s_xcmp (P := P) t (cX_ok hf h1) (cX_ok hf h2) e with e | ⟨⟨k, n, hn⟩, e⟩
    · obtain ⟨n1, n2, hn⟩ := int_flat (cX_ok hf h1) e
      exact res0 (with_guard (fun w => guard_flat (.inl ⟨_, _, hn⟩)) (s_xint t (.inr rfl) (cX_ok hf h1) (cX_ok hf h2) e)) hq
    · exact res0 (with_guard (fun w => guard_flat (.inl ⟨_, _, hn⟩)) e) hq
  have hstr : c2 okT 0 (xStr op) x y = .op k f → OpOk P B W ι w k c h h' r q := fun hc => by
    obtain ⟨x', y', h1, h2, rfl, rfl⟩ := c2_ok hc
    obtain ⟨s, hn⟩ := str_flat (cX_ok hf h1) e
    exact res0 (with_guard (fun w => guard_flat (.inr ⟨_, hn⟩)) (s_xstr t (cX_ok hf h1) (cX_ok hf h2) e)) hq
  have hshf : op ≠ .eql → op ≠ .neq → c2 okT 0 (xShf op) x y = .op k f → OpOk P B W ι w k c h h' r q := fun n1 n2 hc => by
    obtain ⟨x', y', h1, h2, rfl, rfl⟩ := c2_ok hc
    exact res0 (with_guard (fun w => guard_other n1 n2) (s_xshf t (cX_ok hf h1) (cX_ok hf h2) e)) hq
  have heq : ∀ {ne : Bool}, (op = .eql ∧ ne = false ∨ op = .neq ∧ ne = true) → (match und t with
      | some (.int _) => c2 okT 0 (xInt (binI op)) x y
      | some .string => c2 okT 0 (xStr op) x y
      | some .bool => c2 okT 0 (xEqB ne) x y
      | some (.pointer _) => c2 okT 0 (xEqN 0 ne) x y
      | some (.slice _) => c2 okT 0 (xEqN 1 ne) x y
      | some (.map _ _) => c2 okT 0 (xEqN 2 ne) x y
      | some (.func ..) => c2 okT 0 (xEqN 3 ne) x y
      | some (.interface _) => c2 okT 0 xNever x y
      | some (.struct _) | some (.array _ _) => c2 okT 0 (xEqA ne (kf t)) x y
      | _ => .bad) = Bx.op k f → OpOk P B W ι w k c h h' r q := fun {ne} hne hc => by
    cases hu : und t with
    | none => simp only [hu] at hc; cases hc
    | some d =>
      simp only [hu] at hc
      have hP := E.und t d hu
      have hagg : c2 okT 0 (xEqA ne (kf t)) x y = .op k f → OpOk P B W ι w k c h h' r q := fun hc => by
        obtain ⟨x', y', h1, h2, rfl, rfl⟩ := c2_ok hc
        exact res0 (s_eqA E.key x y hne (cX_ok hf h1) (cX_ok hf h2) e) hq
      have hnil : ∀ kind, ((kind = 0 ∧ ∃ e, P.underlying t = some (.pointer e)) ∨ (kind = 1 ∧ ∃ e, P.underlying t = some (.slice e)) ∨ (kind = 2 ∧ ∃ k e, P.underlying t = some (.map k e)) ∨ (kind = 3 ∧ ∃ a b d, P.underlying t = some (.func a b d))) →
          c2 okT 0 (xEqN kind ne) x y = .op k f → OpOk P B W ι w k c h h' r q := fun kind hk hc => by
        obtain ⟨x', y', h1, h2, rfl, rfl⟩ := c2_ok hc
        exact res0 (s_eqN x y hne hk (cX_ok hf h1) (cX_ok hf h2) e) hq
      cases d <;> simp only [reduceCtorEq] at hc
      case int => exact hint (.inr rfl) hc
      case string => exact hstr hc
      case bool =>
        obtain ⟨x', y', h1, h2, rfl, rfl⟩ := c2_ok hc
        exact res0 (s_eqB x y hne hP (cX_ok hf h1) (cX_ok hf h2) e) hq
      case pointer => exact hnil 0 (.inl ⟨rfl, _, hP⟩) hc
      case slice => exact hnil 1 (.inr (.inl ⟨rfl, _, hP⟩)) hc
      case map => exact hnil 2 (.inr (.inr (.inl ⟨rfl, _, _, hP⟩))) hc
      case func => exact hnil 3 (.inr (.inr (.inr ⟨rfl, _, _, _, hP⟩))) hc
      case interface =>
        obtain ⟨x', y', h1, h2, rfl, rfl⟩ := c2_ok hc
        cases e
      case struct => exact hagg hc
      case array => exact hagg hc
  have hrest : (match und t with
      | some (.int _) => c2 okT 0 (xCmp op) x y
      | some .string => c2 okT 0 (xStr op) x y
      | _ => .bad) = Bx.op k f → OpOk P B W ι w k c h h' r q := fun hc => by
    cases hu : und t with
    | none => simp only [hu] at hc; cases hc
    | some d =>
      simp only [hu] at hc
      cases d <;> simp only [reduceCtorEq] at hc
      case int => exact hcmp hc
      case string => exact hstr hc
  have hsh : op ≠ .eql → op ≠ .neq → (match und t with
      | some (.int _) => c2 okT 0 (xShf op) x y
      | _ => .bad) = Bx.op k f → OpOk P B W ι w k c h h' r q := fun n1 n2 hc => by
    cases hu : und t with
    | none => simp only [hu] at hc; cases hc
    | some d =>
      simp only [hu] at hc
      cases d <;> simp only [reduceCtorEq] at hc
      exact hshf n1 n2 hc
  cases op
  case add =>
    simp only [cOp] at hc
    cases hu : und t with
    | none => simp only [hu] at hc; cases hc
    | some d =>
      simp only [hu] at hc
      cases d <;> simp only [reduceCtorEq] at hc
      case int => exact hint (.inl ⟨rfl, rfl⟩) hc
      case string => exact hstr hc
  case shl => exact hsh (by simp) (by simp) hc
  case shr => exact hsh (by simp) (by simp) hc
  case eql => exact heq (ne := false) (.inl ⟨rfl, rfl⟩) hc
  case neq => exact heq (ne := true) (.inr ⟨rfl, rfl⟩) hc
  all_goals exact hrest hc
theorem o_conv (E : Env P inf und kf) {s d : TypeId} {x : Operand} (hc : cOp inf und kf ext okT (.convert s d x) = .op k f) (hf : FO okT c fr a) (rel : (k = 1 ∨ k = 3) → c = cx ι h w ∧ Rel P B W ι h w) (e : f fr h = .ok r h')
    (hq : q = (do pure (.value (← Go.convert s d (a.eval x))) : Sem Next)) : OpOk P B W ι w k c h h' r q := by
  simp only [cOp] at hc
  cases hs : und s with
  | none => simp only [hs] at hc; cases hc
  | some ds =>
    cases hd : und d with
    | none => simp only [hs, hd] at hc; cases ds <;> cases hc
    | some dd =>
      simp only [hs, hd] at hc
      have hPs := E.und _ _ hs
      have hPd := E.und _ _ hd
      cases ds <;> cases dd <;> simp only [reduceCtorEq] at hc
      case int.int j k' =>
        obtain ⟨x', h1, rfl, rfl⟩ := c1_ok hc
        exact res0 (s_conv ⟨_, hPs⟩ hPd (cX_ok hf h1) e) hq
      case string.string =>
        obtain ⟨x', h1, rfl, rfl⟩ := c1_ok hc
        obtain ⟨st, ex, e'⟩ := str_ok (show (x' fr).str? Ev.E.no _ = _ from e)
        obtain ⟨e2, e3⟩ := okE e'
        have hx := cX_ok hf h1
        rw [ex] at hx
        have hv := hx.str_inv
        rw [hv] at hx
        subst e2
        exact res0 (s := Go.convert s d (a.eval x)) ⟨e3.symm, _, hx, fun w => by rw [hv]; simp only [Go.convert, Sem.run_bind, run_underlying hPs, run_underlying hPd, Result.andThen_ok, Sem.run_pure]⟩ hq
      case string.slice q1 =>
        cases hqq : und q1 with
        | none => simp only [hqq] at hc; cases hc
        | some dq =>
          simp only [hqq] at hc
          split at hc
          · rename_i heq
            cases heq
            obtain ⟨x', h1, rfl, rfl⟩ := c1_ok hc
            obtain ⟨rfl, rl⟩ := rel (by simp)
            exact res3 (e_s2b rl hPs hPd (E.und _ _ hqq) (cX_ok hf h1) e) hq
          · cases hc
      case slice.string q1 =>
        cases hqq : und q1 with
        | none => simp only [hqq] at hc; cases hc
        | some dq =>
          simp only [hqq] at hc
          split at hc
          · rename_i heq
            cases heq
            obtain ⟨x', h1, rfl, rfl⟩ := c1_ok hc
            obtain ⟨rfl, rl⟩ := rel (by simp)
            exact res1 (r_b2s rl hPs (E.und _ _ hqq) hPd (cX_ok hf h1) e) hq
          · cases hc
end
end Ev
end Go.Proofs.YtoaimjielnempaaGreatDoor
namespace Go.Proofs.YtoaimjielnempaaGreatDoor
set_option linter.unusedVariables false
set_option linter.unusedSimpArgs false
open Go.RowKit Go.Maps
namespace Ev

section
variable {P : Program} {B : Nat} {W : World} {ι : Pos → Option Nat} {h h' : H} {w w' : World} {fr : Fr} {a : Act} {c : Cx} {r : AV} {okT : Nat → Bool} {o : Oper} {k : Nat} {f : XOp} {q : Sem Next}
variable {inf : TypeId → Option TypeInfo} {und : TypeId → Option TypeDesc} {kf : TypeId → AV → Bool} {ext : FuncId → Option (List Opd → XOp)}

theorem Env.noIface (E : Env P inf und kf) {t : TypeId} {d : TypeDesc} (hu : und t = some d) (hn : ∀ ms, d ≠ .interface ms) : ∀ w, ∃ d, (underlying t).run P w = .ok d w ∧ ∀ ms, d ≠ .interface ms :=
  fun w => ⟨d, run_underlying (E.und t d hu) w, hn⟩
theorem arr_map {α β : Type} (f : α → β) (x : Array α) : x.map f = (x.toList.map f).toArray := by rw [← Array.toList_map, Array.toArray_toList]
theorem bif_bx {b : Bool} {x : Bx} (e : (bif b then x else .bad) = .op k f) : b = true ∧ x = .op k f := by
  cases b
  · cases e
  · exact ⟨rfl, e⟩
theorem mapM_sizes (E : Env P inf und kf) (w : World) : ∀ (fs : List Field), (fs.all fun f => (sizeT inf f.type).isSome) = true → ∃ ps : List (Nat × Nat),
    (List.mapM (m := Sem) (fun f : Field => do pure (f.offset, ← sizeOf f.type)) fs).run P w = .ok ps w ∧ ∀ (i : Nat) (p : Nat × Nat), (fs[i]?).bind (fun f => (sizeT inf f.type).map fun n => (f.offset, n)) = some p → ps[i]? = some p
  | [], _ => ⟨[], by simp, fun i p hp => by simp at hp⟩
  | f :: fs, hall => by
    rw [List.all_cons, Bool.and_eq_true] at hall
    obtain ⟨ps, h1, h2⟩ := mapM_sizes E w fs hall.2
    obtain ⟨n, hn⟩ := Option.isSome_iff_exists.1 hall.1
    obtain ⟨_, _, _, _, hs⟩ := E.size hn
    refine ⟨(f.offset, n) :: ps, ?_, fun i p hp => ?_⟩
    · simp only [List.mapM_cons, Sem.run_bind, hs, Result.andThen_ok, Sem.run_pure, h1]
    · cases i with
      | zero =>
        simp only [List.getElem?_cons_zero, Option.bind_some, hn, Option.map_some, Option.some.injEq] at hp
        simp [hp]
      | succ i => exact h2 i p (by simpa using hp)
theorem PL.placed {c : Cx} {place : Nat → Option (Nat × Nat)} {ps : List (Nat × Nat × Opd)} {qs : List (Nat × Value)} (hp : PL c fr place ps qs) : ∀ q ∈ qs, (place q.1).isSome = true := by
  induction hp with
  | nil => intro q hq; cases hq
  | cons h1 _ _ ih =>
    intro q hq
    rcases List.mem_cons.1 hq with rfl | hq
    · rw [h1]; rfl
    · exact ih q hq

theorem call_func {ρ : Operand → Value} {g : FuncId} {dst : Option Tmp} {args : Array Operand} {ats : Array TypeId} {type : TypeId} {pos : String} {after : Array Edge} {guard : Option (Nat × Bool)} (hρ : ρ (.func g) = .func (.func g) #[] #[] := by rfl) :
    execOp ρ ⟨dst, .call ⟨.value (.func g), args, ats⟩, type, pos, after, guard⟩ = callFunc g (args.map ρ) := by
  show (do let d ← Deferred.ofValue (ρ (.func g)) (args.map ρ); invoke d.target d.args) = _
  rw [hρ]
  show callFunc g (#[] ++ args.map ρ ++ #[]) = _
  simp
theorem cOp_ok (E : Env P inf und kf) (X : ExtOk P ext) (hc : cOp inf und kf ext okT o.op = .op k f) (hf : FO okT c fr a) (rel : (k = 1 ∨ k = 3) → c = cx ι h w ∧ Rel P B W ι h w) (e : f fr h = .ok r h') :
    OpOk P B W ι w k c h h' r (execOp a.eval o) := by
  have hmv : ∀ {x : Operand}, c1 okT 0 xMv x = .op k f → execOp a.eval o = pure (.value (a.eval x)) → OpOk P B W ι w k c h h' r (execOp a.eval o) := fun {x} hc hq => by
    obtain ⟨x', h1, rfl, rfl⟩ := c1_ok hc
    obtain ⟨e2, e3⟩ := okE e
    subst e2
    exact ⟨e3.symm, _, cX_ok hf h1, fun w => by rw [hq]; rfl⟩
  have hmupd : ∀ {t : TypeId} {m x v : Operand}, (match und t with
      | some (.map kt _) => c3 okT 3 (xMupd kt (kf kt)) m x v
      | _ => .bad) = Bx.op k f → execOp a.eval o = (do Instr.mapUpdate t (a.eval m) (a.eval x) (a.eval v); pure .skip) → OpOk P B W ι w k c h h' r (execOp a.eval o) := fun {t m x v} hc hq => by
    split at hc
    · rename_i kt q1 hu
      obtain ⟨m', x', v', h1, h2, h3, rfl, rfl⟩ := c3_ok hc
      obtain ⟨rfl, rl⟩ := rel (by simp)
      exact res3u (e_mupd (zx := m') E.key rl (E.und _ _ hu) (cX_ok hf h1) (cX_ok hf h2) (cX_ok hf h3) e) hq
    · cases hc
  obtain ⟨dst, op, type, pos, after, guard⟩ := o
  simp only at hc
  cases op
  case move x => exact hmv hc rfl
  case assign x => exact hmv hc rfl
  case pick x y z =>
    obtain ⟨x', y', z', h1, h2, h3, rfl, rfl⟩ := c3_ok (show c3 okT 0 xPick x y z = _ from hc)
    obtain ⟨g1, b, g2, g3⟩ := s_pick (cX_ok hf h1) (cX_ok hf h2) (cX_ok hf h3) e
    refine ⟨g1, _, g3, fun w => ?_⟩
    simp [execOp, g2, asBool]
  case alloc t =>
    simp only [cOp] at hc
    cases hz : zeroOf inf t with
    | none => simp only [hz] at hc; cases hc
    | some z =>
      simp only [hz] at hc
      obtain ⟨cs, hc, hcs⟩ := cells_bx hc
      cases hc
      obtain ⟨o, h1, h2⟩ := m_zero (c := c) (old := .tuple #[]) (E.zeroC hz hcs) e
      exact ⟨o, h1, mk_v h2 rfl⟩
  case box t x =>
    obtain ⟨x', h1, rfl, rfl⟩ := c1_ok (show c1 okT 2 (xBox t) x = _ from hc)
    obtain ⟨o, h2, h3⟩ := m_box (P := P) (cX_ok hf h1) e
    exact ⟨o, h2, mk_v h3 rfl⟩
  case build t ps =>
    simp only [cOp] at hc
    have hmap : (ps.map fun (x : Nat × Operand) => (x.1, a.eval x.2)) = ((ps.toList.map fun p => (p.1, a.eval p.2)).toArray) := arr_map _ _
    cases hz : zeroOf inf t with
    | none => simp only [hz] at hc; cases hc
    | some z =>
      cases hu : und t with
      | none => simp only [hz, hu] at hc; cases hc
      | some d =>
        simp only [hz, hu] at hc
        cases d <;> simp only [reduceCtorEq] at hc
        case struct fs =>
          cases hfs : fieldsAt inf okT fs ps.toList with
          | none => simp only [hfs] at hc; cases hc
          | some l =>
            simp only [hfs] at hc
            obtain ⟨hall, hc⟩ := bif_bx hc
            obtain ⟨cs, hc, hcs⟩ := cells_bx hc
            cases hc
            have hpl := fieldsAt_ok hf hfs
            refine res0 (s_build (E.zeroC hz hcs) hpl (fun w z cells => build_struct (place := placeF inf fs) (E.und _ _ hu) (fun w => ?_) (PL.placed hpl) w z cells) e) (by simp only [execOp]; rw [hmap])
            obtain ⟨l, g1, g2⟩ := mapM_sizes E w fs.toList hall
            refine ⟨l.toArray, ?_, fun i p hp => ?_⟩
            · rw [Array.mapM_eq_mapM_toList]
              simp only [map_eq_pure_bind, Sem.run_bind]
              rw [g1]
              rfl
            · simpa using g2 i p (by simpa [placeF] using hp)
        case array n q1 =>
          cases hs : sizeT inf q1 with
          | none => simp only [hs] at hc; cases hc
          | some sz =>
            simp only [hs] at hc
            cases hfs : elemsAt okT sz ps.toList with
            | none => simp only [hfs] at hc; cases hc
            | some l =>
              simp only [hfs] at hc
              obtain ⟨cs, hc, hcs⟩ := cells_bx hc
              cases hc
              obtain ⟨_, _, _, _, hsz⟩ := E.size hs
              exact res0 (s_build (E.zeroC hz hcs) (elemsAt_ok hf hfs) (fun w z cells => build_array (E.und _ _ hu) hsz rfl w z cells) e) (by simp only [execOp]; rw [hmap])
  case buildSlice t n ps =>
    simp only [cOp] at hc
    have hmap : (ps.map fun (x : Nat × Operand) => (x.1, a.eval x.2)) = ((ps.toList.map fun p => (p.1, a.eval p.2)).toArray) := arr_map _ _
    split at hc
    · rename_i q1 hu
      split at hc
      · rename_i sz z hs hz
        split at hc
        · rename_i l hl
          obtain ⟨cs, hc, hcs⟩ := cells_bx hc
          obtain ⟨h24, hc⟩ := bif_bx hc
          cases hc
          rw [Bool.and_eq_true] at h24
          obtain ⟨_, _, _, _, hsz⟩ := E.size hs
          have hlen : cs.length = sz + 1 := by rw [← llen_eq]; exact Nat.eq_of_beq_eq_true h24.2
          obtain ⟨o, h1, h2⟩ := m_buildS (E.und _ _ hu) hsz (by omega) (E.zeroC hz hcs) hlen (Nat.le_of_ble_eq_true h24.1) (elemsAt_ok hf hl) e
          exact ⟨o, h1, mk_v h2 (by simp only [execOp]; rw [hmap])⟩
        · cases hc
      · cases hc
    · cases hc
  case load t x =>
    simp only [cOp] at hc
    cases hw : wideT inf und t with
    | none => simp only [hw] at hc; cases hc
    | some m =>
      simp only [hw] at hc
      rcases E.wide hw with ⟨rfl, g1⟩ | ⟨n, d, rfl, g1, g2, g3, g4, g5⟩
      · obtain ⟨x', h1, rfl, rfl⟩ := c1_ok hc
        obtain ⟨rfl, rl⟩ := rel (by simp)
        exact res1 (r_ld rl g1 (cX_ok hf h1) e) rfl
      · obtain ⟨x', h1, rfl, rfl⟩ := c1_ok hc
        obtain ⟨rfl, rl⟩ := rel (by simp)
        exact res1 (r_ldn rl g3 g4 g5 (cX_ok hf h1) e) rfl
  case store t x y =>
    simp only [cOp] at hc
    cases hs : sizeT inf t with
    | none => simp only [hs] at hc; cases hc
    | some n =>
      simp only [hs] at hc
      obtain ⟨x', y', h1, h2, rfl, rfl⟩ := c2_ok hc
      obtain ⟨_, _, _, _, g⟩ := E.size hs
      obtain ⟨rfl, rl⟩ := rel (by simp)
      exact res3u (e_st rl g (cX_ok hf h1) (cX_ok hf h2) e) rfl
  case nilCheck x =>
    obtain ⟨x', h1, rfl, rfl⟩ := c1_ok (show c1 okT 0 xNil x = _ from hc)
    obtain ⟨g1, g2, p, g3⟩ := s_nil (cX_ok hf h1) e
    exact ⟨g1, _, g2, fun w => by simp only [execOp, g3]; rfl⟩
  case binOp op t x y u => exact o_binop E hc hf rel e rfl
  case unOp op t x =>
    cases op
    case not =>
      obtain ⟨x', h1, rfl, rfl⟩ := c1_ok (show c1 okT 0 xNot x = _ from hc)
      exact res0 (s_not (cX_ok hf h1) e) rfl
    case neg =>
      obtain ⟨x', h1, rfl, rfl⟩ := c1_ok (show c1 okT 0 xNeg x = _ from hc)
      exact res0 (s_neg (cX_ok hf h1) e) rfl
    case xor =>
      obtain ⟨x', h1, rfl, rfl⟩ := c1_ok (show c1 okT 0 xCompl x = _ from hc)
      exact res0 (s_compl (cX_ok hf h1) e) rfl
    case plus => cases hc
  case convert s d x => exact o_conv E hc hf rel e rfl
  case makeInterface t x =>
    simp only [cOp] at hc
    cases hu : und t with
    | none => simp only [hu] at hc; cases hc
    | some d =>
      simp only [hu] at hc
      split at hc
      · cases hc
      · rename_i d' hn heq
        cases heq
        obtain ⟨x', h1, rfl, rfl⟩ := c1_ok hc
        exact res0 (s_mki (E.noIface hu (fun ms h => hn ms (by rw [h]))) (cX_ok hf h1) e) rfl
      · cases hc
  case makeFunc fn first caps =>
    simp only [cOp] at hc
    split at hc
    · rename_i g
      split at hc
      · rename_i l1 l2 h1 h2
        cases hc
        obtain ⟨g1, g2⟩ := s_clos (cXs_ok hf h1) (cXs_ok hf h2) e
        refine ⟨g1, _, g2, fun w => ?_⟩
        simp only [execOp, Instr.makeFunc, Sem.run_bind, Sem.run_pure, Result.andThen_ok]
        rw [arr_map, arr_map]
      · cases hc
    · cases hc
  case makeMap t z =>
    simp only [cOp] at hc
    split at hc
    · rename_i kt q1 hu
      cases hc
      obtain ⟨o, h1, h2⟩ := m_mkmap (P := P) (c := c) (t := t) e
      exact ⟨o, h1, mk_v h2 rfl⟩
    · cases hc
  case makeSlice t x y =>
    simp only [cOp] at hc
    split at hc
    · rename_i q1 hu
      split at hc
      · rename_i sz by_ z hs hb hz
        obtain ⟨cs, hc, hcs⟩ := cells_bx hc
        obtain ⟨hl, hc⟩ := bif_bx hc
        obtain ⟨x', y', h1, h2, rfl, rfl⟩ := c2_ok hc
        obtain ⟨i, g0, g1, g2, hsz⟩ := E.size hs
        have hby : i.bytes = by_ := by unfold bytesT at hb; rw [g0] at hb; exact Option.some.inj hb
        have hlen : cs.length = sz + 1 := by rw [← llen_eq]; exact Nat.eq_of_beq_eq_true hl
        have g2' : sz + 1 = i.size := g2.symm
        rw [g2', ← hby] at e
        obtain ⟨o, h3, h4⟩ := m_mksl (E.und _ _ hu) g1 (by omega) (E.zeroC hz hcs) (by omega) (cX_ok hf h1) (cX_ok hf h2) e
        exact ⟨o, h3, mk_v h4 rfl⟩
      · cases hc
    · cases hc
  case slice t x lo hi mx =>
    simp only [cOp] at hc
    split at hc
    case h_2 => cases hc
    rename_i x' lo' hi' mx' h1 h2 h3 h4
    cases hu : und t with
    | none => simp only [hu] at hc; cases hc
    | some d =>
      simp only [hu] at hc
      have hP := E.und _ _ hu
      have harr : ∀ {n q1 : Nat} {sz : Nat}, True → True := fun _ => trivial
      cases d <;> simp only [reduceCtorEq] at hc
      case string =>
        split at hc
        · cases hc
          cases mx with
          | none => exact res0 (s_slstr hP (cO_ok hf h2) (cO_ok hf h3) (cX_ok hf h1) e) rfl
          | some m =>
            unfold cO at h4
            cases hm : cX okT m with
            | none => simp only [hm] at h4; cases h4
            | some m' => simp only [hm] at h4; cases h4
        · cases hc
      case slice q1 =>
        cases hs : sizeT inf q1 with
        | none => simp only [hs] at hc; cases hc
        | some sz =>
          simp only [hs] at hc
          cases hc
          obtain ⟨_, _, _, _, hsz⟩ := E.size hs
          exact res0 (s_slc hP hsz (cO_ok hf h2) (cO_ok hf h3) (cO_ok hf h4) (cX_ok hf h1) e) rfl
      case array n q1 =>
        cases hs : sizeT inf q1 with
        | none => simp only [hs] at hc; cases hc
        | some sz =>
          simp only [hs] at hc
          cases hc
          obtain ⟨_, _, _, _, hsz⟩ := E.size hs
          obtain ⟨rfl, rl⟩ := rel (by simp)
          obtain ⟨g1, u, g2, g3⟩ := s_slarr rl rfl hP hsz (cO_ok hf h2) (cO_ok hf h3) (cO_ok hf h4) (cX_ok hf h1) e
          exact res1 ⟨g1, u, g2, g3 w⟩ rfl
  case fieldAddr t x i =>
    simp only [cOp] at hc
    split at hc
    · rename_i fs hu
      split at hc
      · rename_i fd hi
        split at hc
        · rename_i n hs
          obtain ⟨x', h1, rfl, rfl⟩ := c1_ok hc
          obtain ⟨i', _, g1, g2, _⟩ := E.size hs
          exact res0 (s_faddr (E.und _ _ hu) hi (by rw [g1]; exact congrArg some g2) (by omega) rfl (cX_ok hf h1) e) rfl
        · cases hc
      · cases hc
    · cases hc
  case field t x i =>
    simp only [cOp] at hc
    split at hc
    · rename_i fs hu
      split at hc
      · rename_i fd hi
        split at hc
        · rename_i n hs
          obtain ⟨x', h1, rfl, rfl⟩ := c1_ok hc
          exact res0 (s_fld (E.und _ _ hu) hi (E.wideW hs) rfl (cX_ok hf h1) e) rfl
        · cases hc
      · cases hc
    · cases hc
  case indexAddr t x i =>
    simp only [cOp] at hc
    split at hc
    · rename_i n q1 hu
      split at hc
      · rename_i sz hs
        obtain ⟨x', y', h1, h2, rfl, rfl⟩ := c2_ok hc
        obtain ⟨_, _, _, _, hsz⟩ := E.size hs
        exact res0 (s_iaddrA (E.und _ _ hu) hsz (cX_ok hf h1) (cX_ok hf h2) e) rfl
      · cases hc
    · rename_i q1 hu
      split at hc
      · rename_i sz hs
        obtain ⟨x', y', h1, h2, rfl, rfl⟩ := c2_ok hc
        obtain ⟨_, _, _, _, hsz⟩ := E.size hs
        exact res0 (s_iaddr (E.und _ _ hu) hsz (cX_ok hf h1) (cX_ok hf h2) e) rfl
      · cases hc
    · cases hc
  case index t x i =>
    simp only [cOp] at hc
    split at hc
    · rename_i n q1 hu
      split at hc
      · rename_i sz m hs hw
        obtain ⟨x', y', h1, h2, rfl, rfl⟩ := c2_ok hc
        obtain ⟨_, _, _, _, hsz⟩ := E.size hs
        exact res0 (s_idxA (E.und _ _ hu) hsz (E.wideW hw) (cX_ok hf h1) (cX_ok hf h2) e) rfl
      · cases hc
    · rename_i hu
      obtain ⟨x', y', h1, h2, rfl, rfl⟩ := c2_ok hc
      exact res0 (s_idxS (E.und _ _ hu) (cX_ok hf h1) (cX_ok hf h2) e) rfl
    · cases hc
  case lookup t x y ok =>
    simp only [cOp] at hc
    split at hc
    · rename_i kt q1 hu
      split at hc
      · rename_i z hz
        obtain ⟨x', y', h1, h2, rfl, rfl⟩ := c2_ok hc
        obtain ⟨rfl, rl⟩ := rel (by simp)
        exact res1 (r_look E.key rl (E.und _ _ hu) (E.zeroV hz) (cX_ok hf h1) (cX_ok hf h2) e) rfl
      · cases hc
    · cases hc
  case mapUpdate t m x v => exact hmupd hc rfl
  case insert t m x v => exact hmupd hc rfl
  case mapEntry t m x =>
    simp only [cOp] at hc
    split at hc
    · rename_i kt q1 hu
      split at hc
      · rename_i z hz
        obtain ⟨x', y', h1, h2, rfl, rfl⟩ := c2_ok hc
        obtain ⟨rfl, rl⟩ := rel (by simp)
        exact res3 (e_ment E.key rl (E.und _ _ hu) (E.zeroV hz) (cX_ok hf h1) (cX_ok hf h2) e) rfl
      · cases hc
    · cases hc
  case entryStore t m s v =>
    obtain ⟨m', s', v', h1, h2, h3, rfl, rfl⟩ := c3_ok (show c3 okT 3 xEst m s v = _ from hc)
    obtain ⟨rfl, rl⟩ := rel (by simp)
    exact res3u (e_est (t := t) rl (cX_ok hf h1) (cX_ok hf h2) (cX_ok hf h3) e) rfl
  case range t x =>
    simp only [cOp] at hc
    split at hc
    · rename_i kt q1 hu
      obtain ⟨x', h1, rfl, rfl⟩ := c1_ok hc
      obtain ⟨rfl, rl⟩ := rel (by simp)
      exact res3 (e_rng rl (E.und _ _ hu) (cX_ok hf h1) e) rfl
    · cases hc
  case next x s =>
    cases s
    · obtain ⟨x', h1, rfl, rfl⟩ := c1_ok (show c1 okT 3 xNxt x = _ from hc)
      obtain ⟨rfl, rl⟩ := rel (by simp)
      exact res3 (e_nxt (ty := type) rl (cX_ok hf h1) e) rfl
    · cases hc
  case entry x =>
    obtain ⟨x', h1, rfl, rfl⟩ := c1_ok (show c1 okT 1 xEntry x = _ from hc)
    obtain ⟨rfl, rl⟩ := rel (by simp)
    exact res1 (r_entry rl (cX_ok hf h1) e) rfl
  case typeAssert x s t ok =>
    cases ok
    · simp only [cOp] at hc
      cases hu : und t with
      | none => simp only [hu] at hc; cases hc
      | some d =>
        simp only [hu] at hc
        split at hc
        · cases hc
        · rename_i d' hn heq
          cases heq
          obtain ⟨x', h1, rfl, rfl⟩ := c1_ok hc
          exact res0 (s_tas (E.noIface hu (fun ms h => hn ms (by rw [h]))) (cX_ok hf h1) e) rfl
        · cases hc
    · cases hc
  case sliceToArrayPointer t x =>
    simp only [cOp] at hc
    split at hc
    · rename_i n q1 hu
      obtain ⟨x', h1, rfl, rfl⟩ := c1_ok hc
      exact res0 (s_s2a (E.und _ _ hu) (cX_ok hf h1) e) rfl
    · cases hc
  case extract x i =>
    obtain ⟨x', h1, rfl, rfl⟩ := c1_ok (show c1 okT 0 (fun a => xExt a i) x = _ from hc)
    exact res0 (s_ext (cX_ok hf h1) e) rfl
  case call cl =>
    obtain ⟨callee, args, ats⟩ := cl
    cases callee with
    | builtin b =>
      have := o_builtin (ts := ats) (ty := type) (cs := args.map fun | .const _ => true | _ => false) E (show cBuiltin inf und kf okT b ats args.toList = _ from hc) hf rel e
      have hq : execOp a.eval ⟨dst, .call ⟨.builtin b, args, ats⟩, type, pos, after, guard⟩ = builtin b ats type (args.map fun | .const _ => true | _ => false) (args.toList.map a.eval).toArray := by
        show builtin b ats type _ (args.map a.eval) = _
        rw [arr_map a.eval args]
        rfl
      rw [hq]
      exact this
    | value x =>
      cases x with
      | func g =>
        simp only [cOp] at hc
        cases hl : cXs okT args.toList with
        | none => simp only [hl] at hc; cases hc
        | some l =>
          simp only [hl] at hc
          cases hg : ext g with
          | none => simp only [hg] at hc; cases hc
          | some z =>
            simp only [hg] at hc
            cases hc
            obtain ⟨g1, u, g2, g3⟩ := X g z hg c l _ fr h h' r (cXs_ok hf hl) e
            refine ⟨g1, u, g2, fun w => ?_⟩
            rw [call_func]
            rw [arr_map a.eval args]
            exact g3 w
      | tmp t => simp only [cOp] at hc; split at hc <;> cases hc
      | const v => simp only [cOp] at hc; split at hc <;> cases hc
      | global g => simp only [cOp] at hc; split at hc <;> cases hc
    | invoke r n => cases hc
  all_goals cases hc
end
end Ev
end Go.Proofs.YtoaimjielnempaaGreatDoor
namespace Go.Proofs.YtoaimjielnempaaGreatDoor
set_option linter.unusedVariables false
set_option linter.unusedSimpArgs false
open Go.RowKit Go.Maps
namespace Ev

section
variable {P : Program} {B : Nat} {W : World} {ι : Pos → Option Nat} {h h' : H} {w w' : World} {fr fr' : Fr} {a : Act} {r : AV} {nt : Nat} {o : Oper} {k : Nat} {f : XOp} {c : Cx} {kk : K}
variable {inf : TypeId → Option TypeInfo} {und : TypeId → Option TypeDesc} {kf : TypeId → AV → Bool} {ext : FuncId → Option (List Opd → XOp)}

structure FR (nt : Nat) (c : Cx) (fr : Fr) (a : Act) : Prop where
  size : a.tmps.size = nt
  val : ∀ t, t < nt → V c (Fr.get fr (slot t)) (a.tmps.getD t undef)
  defers : a.defers = []
theorem FR.mono {c d : Cx} (hl : c.Le d) (hf : FR nt c fr a) : FR nt d fr a := ⟨hf.size, fun t ht => (hf.val t ht).mono hl, hf.defers⟩
theorem FR.fo (hf : FR nt c fr a) : FO (below nt) c fr a := ⟨fun t ht => hf.val t (by
  unfold below at ht
  rw [blt_eq] at ht
  exact of_decide_eq_true ht)⟩
theorem force_eq (v : AV) (f : AV → Q) : force v f = f v := by
  cases v with
  | bool b => cases b <;> rfl
  | int k n => cases n with
    | ofNat m => cases m <;> rfl
    | negSucc m => cases m <;> rfl
  | ptr b o => cases o <;> rfl
  | slice b o n c s => cases n <;> rfl
  | _ => rfl
theorem eqQ {e : E} {f : AV → H → Q} {fr : Fr} {h : H} (x : eq' e f = .ok fr h) : ∃ v h', e = .ok v h' ∧ f v h' = .ok fr h := by
  cases e with
  | no => cases x
  | ok v h' => exact ⟨v, h', rfl, x⟩
theorem qrQ {q : Q} {f : Fr → H → Q} {fr : Fr} {h : H} (x : qr q f = .ok fr h) : ∃ fr' h', q = .ok fr' h' ∧ f fr' h' = .ok fr h := by
  cases q with
  | no => cases x
  | ok v h' => exact ⟨v, h', rfl, x⟩
theorem get_set_same' (fr : Fr) (p : Pos) (v : AV) : Fr.get (T.set fr p (some v)) p = v := by
  unfold Fr.get
  rw [T.get_set_same]
  rfl
theorem get_set_ne' (fr : Fr) {p q : Pos} (v : AV) (h : p ≠ q) : Fr.get (T.set fr p (some v)) q = Fr.get fr q := by
  unfold Fr.get
  rw [T.get_set_ne _ _ _ _ h]

def DstOk (nt : Nat) (dst : Option Tmp) (d : Option Pos) : Prop := (dst = none ∧ d = none) ∨ ∃ t, dst = some t ∧ t < nt ∧ d = some (slot t)
theorem dst_ok {d : Option Pos} (e : dstP nt o = some d) : DstOk nt o.dst d := by
  unfold dstP at e
  cases h1 : o.dst with
  | none => rw [h1] at e; cases e; exact .inl ⟨rfl, rfl⟩
  | some t =>
    rw [h1] at e
    simp only at e
    cases hb : Nat.blt t nt with
    | false => rw [hb] at e; cases e
    | true =>
      rw [hb] at e
      cases e
      rw [blt_eq] at hb
      exact .inr ⟨t, rfl, of_decide_eq_true hb, rfl⟩
theorem FR.put {u : Value} {d : Option Pos} {dst : Option Tmp} (hn : nt ≤ 1000000) (hf : FR nt c fr a) (hd : DstOk nt dst d) (hv : V c r u) : FR nt c (setD fr d r) (a.put dst u) := by
  rcases hd with ⟨rfl, rfl⟩ | ⟨t, rfl, ht, rfl⟩
  · exact hf
  · refine ⟨by simp [Act.put, hf.size], fun s hs => ?_, hf.defers⟩
    show V c (Fr.get (T.set fr (slot t) (some r)) (slot s)) _
    by_cases e : t = s
    · subst e
      rw [get_set_same']
      simp only [Act.put, Array.getD_eq_getD_getElem?, Array.getElem?_setIfInBounds, if_true, hf.size, ht, Option.getD_some]
      exact hv
    · rw [get_set_ne' fr r (fun h => e (slot_inj (Nat.lt_of_lt_of_le ht hn) (Nat.lt_of_lt_of_le hs hn) h))]
      have : (a.put (some t) u).tmps.getD s undef = a.tmps.getD s undef := by
        simp only [Act.put, Array.getD_eq_getD_getElem?, Array.getElem?_setIfInBounds, if_neg e]
      rw [this]
      exact hf.val s hs

def CR (P : Program) (B : Nat) (W : World) (ι : Pos → Option Nat) (h : H) (w : World) (r : AV) (h' : H) (e : Ending) (w' : World) : Prop :=
  ∃ v ι', e = .returned v ∧ Rel P B W ι' h' w' ∧ Ext ι h w ι' h' w' ∧ V (cx ι' h' w') r v
/-- What is known of the functions that are called. -/
def KOK (P : Program) (B : Nat) (W : World) (kk : K) : Prop := ∀ (ι : Pos → Option Nat) (h : H) (w : World) (f : FuncId) (xs : List AV) (vs : List Value) (r : AV) (h' : H), Rel P B W ι h w → VL (cx ι h w) xs vs → kk f xs h = .ok r h' →
  (∀ w0, (callFunc f vs.toArray).run P w0 = .ok (.enter f vs.toArray) w0) ∧ Calls P f vs.toArray w (CR P B W ι h w r h')

/-- Behind an operation. -/
def After (P : Program) (B : Nat) (W : World) (nt : Nat) (ι : Pos → Option Nat) (h : H) (w : World) (fr' : Fr) (h' : H) (N : Act → World → Prop) : Prop :=
  ∀ ι' a' w', FR nt (cx ι' h' w') fr' a' → Rel P B W ι' h' w' → Ext ι h w ι' h' w' → N a' w'

/-- Whatever an operation may give. -/
def NextOk (P : Program) (B : Nat) (W : World) (ι : Pos → Option Nat) (h : H) (w : World) (r : AV) (h' : H) (dst : Option Tmp) (a : Act) (M : Act → World → Prop) : Prop :=
  ∀ ι' u w', Rel P B W ι' h' w' → Ext ι h w ι' h' w' → V (cx ι' h' w') r u → M (a.put dst u) w'
theorem wp_of_res {N : Act → World → Prop} {Qx : Exit → Act → World → Prop} (x : Res3 P B W ι h h' r (execOp a.eval o) w) (K : NextOk P B W ι h w r h' o.dst a N) : o.wp P a w N Qx := by
  obtain ⟨ι', w', u, h1, h2, h3, h4⟩ := x
  unfold Oper.wp
  rcases h1 with h1 | ⟨h1, rfl⟩
  · rw [h1, Oper.upon_value]
    exact K ι' _ w' h2 h3 h4
  · rw [h1, Oper.upon_skip]
    exact K ι' _ w' h2 h3 h4
theorem wp_of_call {N : Act → World → Prop} {Qx : Exit → Act → World → Prop} {g : FuncId} {vs : Array Value}
    (he : (execOp a.eval o).run P w = .ok (.enter g vs) w) (hc : Calls P g vs w (CR P B W ι h w r h')) (K : NextOk P B W ι h w r h' o.dst a N) : o.wp P a w N Qx := by
  unfold Oper.wp
  rw [he, Oper.upon_enter]
  refine hc.mono fun e w' ⟨v, ι', h1, h2, h3, h4⟩ => ?_
  subst h1
  exact K ι' _ w' h2 h3 h4
theorem call_run {ρ : Operand → Value} {x : Operand} {dst : Option Tmp} {args : Array Operand} {ats : Array TypeId} {type : TypeId} {pos : String} {after : Array Edge} {guard : Option (Nat × Bool)} {g : FuncId} {fs cs : Array Value} (hρ : ρ x = .func (.func g) fs cs) :
    execOp ρ ⟨dst, .call ⟨.value x, args, ats⟩, type, pos, after, guard⟩ = callFunc g (fs ++ args.map ρ ++ cs) := by
  show (do let d ← Deferred.ofValue (ρ x) (args.map ρ); invoke d.target d.args) = _
  rw [hρ]
  rfl
variable {okT : Nat → Bool}
def Bx.isOp : Bx → Bool
  | .call _ _ | .callv _ _ => false
  | _ => true
theorem c1_isOp {k : Nat} {f : Opd → XOp} {x : Operand} : (c1 okT k f x).isOp = true := by unfold c1; split <;> rfl
theorem c2_isOp {k : Nat} {f : Opd → Opd → XOp} {x y : Operand} : (c2 okT k f x y).isOp = true := by unfold c2; split <;> rfl
theorem c3_isOp {k : Nat} {f : Opd → Opd → Opd → XOp} {x y z : Operand} : (c3 okT k f x y z).isOp = true := by unfold c3; split <;> rfl
theorem cells_isOp {v : AV} {f : List AV → Bx} (h : ∀ cs, (f cs).isOp = true) : (v.cells? Bx.bad f).isOp = true := by cases v <;> first | exact h _ | rfl
theorem bif_isOp {b : Bool} {x : Bx} (h : x.isOp = true) : (bif b then x else .bad).isOp = true := by cases b <;> first | exact h | rfl
theorem builtin_isOp {b : Builtin} {ts : Array TypeId} {xs : List Operand} : (cBuiltin inf und kf okT b ts xs).isOp = true := by
  unfold cBuiltin
  repeat' split
  all_goals first | rfl | exact c1_isOp | exact c2_isOp | exact cells_isOp fun _ => c1_isOp
theorem cOp_isOp {op : Op} (h : ∀ c, op ≠ .call c) : (cOp inf und kf ext okT op).isOp = true := by
  cases op
  case call c => exact absurd rfl (h c)
  case next x s =>
    cases s
    · exact c1_isOp
    · rfl
  case typeAssert x s t ok =>
    cases ok
    · simp only [cOp]
      repeat' split
      all_goals first | rfl | exact c1_isOp
    · rfl
  all_goals
    simp only [cOp]
    repeat' split
  all_goals first
    | rfl
    | exact c1_isOp
    | exact c2_isOp
    | exact c3_isOp
    | exact cells_isOp fun _ => rfl
    | exact bif_isOp (cells_isOp fun _ => rfl)
    | exact cells_isOp fun _ => bif_isOp rfl
    | exact cells_isOp fun _ => bif_isOp c2_isOp
theorem cOp_call {op : Op} {g : FuncId} {xs : List Opd} (e : cOp inf und kf ext okT op = .call g xs) : ∃ args ats, op = .call ⟨.value (.func g), args, ats⟩ ∧ cXs okT args.toList = some xs := by
  by_cases h : ∀ c, op ≠ .call c
  · have := cOp_isOp (inf := inf) (und := und) (kf := kf) (ext := ext) (okT := okT) h
    rw [e] at this
    cases this
  · simp only [ne_eq, Classical.not_forall, Classical.not_not] at h
    obtain ⟨⟨callee, args, ats⟩, rfl⟩ := h
    cases callee with
    | builtin b =>
      have := builtin_isOp (inf := inf) (und := und) (kf := kf) (okT := okT) (b := b) (ts := ats) (xs := args.toList)
      rw [show cBuiltin inf und kf okT b ats args.toList = _ from e] at this
      cases this
    | invoke r n => cases e
    | value x =>
      cases x with
      | func g' =>
        simp only [cOp] at e
        cases hl : cXs okT args.toList with
        | none => simp only [hl] at e; cases e
        | some l =>
          simp only [hl] at e
          cases hg : ext g' with
          | none => simp only [hg] at e; cases e; exact ⟨args, ats, rfl, hl⟩
          | some z => simp only [hg] at e; cases e
      | tmp t => simp only [cOp] at e; split at e <;> cases e
      | const v => simp only [cOp] at e; split at e <;> cases e
      | global g => simp only [cOp] at e; split at e <;> cases e
theorem cOp_callv {op : Op} {x' : Opd} {xs : List Opd} (e : cOp inf und kf ext okT op = .callv x' xs) : ∃ x args ats, op = .call ⟨.value x, args, ats⟩ ∧ cX okT x = some x' ∧ cXs okT args.toList = some xs := by
  by_cases h : ∀ c, op ≠ .call c
  · have := cOp_isOp (inf := inf) (und := und) (kf := kf) (ext := ext) (okT := okT) h
    rw [e] at this
    cases this
  · simp only [ne_eq, Classical.not_forall, Classical.not_not] at h
    obtain ⟨⟨callee, args, ats⟩, rfl⟩ := h
    cases callee with
    | builtin b =>
      have := builtin_isOp (inf := inf) (und := und) (kf := kf) (okT := okT) (b := b) (ts := ats) (xs := args.toList)
      rw [show cBuiltin inf und kf okT b ats args.toList = _ from e] at this
      cases this
    | invoke r n => cases e
    | value x =>
      refine ⟨x, args, ats, rfl, ?_⟩
      cases x with
      | func g' =>
        simp only [cOp] at e
        cases hl : cXs okT args.toList with
        | none => simp only [hl] at e; cases e
        | some l =>
          simp only [hl] at e
          cases hg : ext g' with
          | none => simp only [hg] at e; cases e
          | some z => simp only [hg] at e; cases e
      | tmp t => 
        simp only [cOp] at e
        split at e
        · rename_i h1 h2; cases e; exact ⟨h1, h2⟩
        · cases e
      | const v =>
        simp only [cOp] at e
        split at e
        · rename_i h1 h2; cases e; exact ⟨h1, h2⟩
        · cases e
      | global g =>
        simp only [cOp] at e
        split at e
        · rename_i h1 h2; cases e; exact ⟨h1, h2⟩
        · cases e
theorem func_okQ {v : AV} {f : FuncId → Nat → List AV → Q} {fr : Fr} {h : H} (e : v.func? Q.no f = .ok fr h) : ∃ g n cs, v = .func g n cs ∧ f g n cs = .ok fr h := by
  cases v <;> first | cases e | exact ⟨_, _, _, rfl, e⟩
theorem oper_core (E : Env P inf und kf) (X : ExtOk P ext) (KO : KOK P B W kk) {q : DOp} {d : Option Pos} (hc : cOperD inf und kf ext okT d o = .mk q) (e : q kk fr h = .ok fr' h') (hf : FO okT (cx ι h w) fr a) (rel : Rel P B W ι h w) :
    ∃ r, fr' = setD fr d r ∧ ∀ (N : Act → World → Prop) (Qx : Exit → Act → World → Prop), NextOk P B W ι h w r h' o.dst a N → o.wp P a w N Qx := by
  unfold cOperD at hc
  cases ho : cOp inf und kf ext okT o.op with
  | bad => rw [ho] at hc; cases hc
  | op k f =>
    rw [ho] at hc
    cases hc
    obtain ⟨v, h1, e1, e2⟩ := eqQ (show eq' (f fr h) _ = _ from e)
    rw [force_eq] at e2
    cases e2
    exact ⟨v, rfl, fun N Qx K => wp_of_res ((cOp_ok E X ho hf (fun _ => ⟨rfl, rel⟩) e1).r3 rel) K⟩
  | call g xs =>
    rw [ho] at hc
    cases hc
    obtain ⟨v, h1, e1, e2⟩ := eqQ (show eq' (kk g (evs xs fr) h) _ = _ from e)
    rw [force_eq] at e2
    cases e2
    refine ⟨v, rfl, fun N Qx K => ?_⟩
    obtain ⟨args, ats, hop, hl⟩ := cOp_call ho
    obtain ⟨k1, k2⟩ := KO ι h w g _ _ v h' rel (OL.evs (cXs_ok hf hl)) e1
    obtain ⟨dst, op, type, pos, after, guard⟩ := o
    simp only at hop
    subst hop
    refine wp_of_call (g := g) (vs := (args.toList.map a.eval).toArray) ?_ k2 K
    rw [call_func, arr_map]
    exact k1 w
  | callv x xs =>
    rw [ho] at hc
    cases hc
    obtain ⟨g, n, caps, ex, e⟩ := func_okQ (show (x fr).func? Q.no _ = _ from e)
    obtain ⟨v, h1, e1, e2⟩ := eqQ e
    rw [force_eq] at e2
    cases e2
    refine ⟨v, rfl, fun N Qx K => ?_⟩
    obtain ⟨x0, args, ats, hop, hx, hl⟩ := cOp_callv ho
    have hxv := cX_ok hf hx
    rw [ex] at hxv
    generalize hev : a.eval x0 = xv at hxv
    cases hxv with
    | func _ _ _ us h2 h3 =>
      obtain ⟨k1, k2⟩ := KO ι h w g _ _ v h' rel (((h2.take n).append (OL.evs (cXs_ok hf hl))).append (h2.drop n)) e1
      obtain ⟨dst, op, type, pos, after, guard⟩ := o
      simp only at hop
      subst hop
      refine wp_of_call (g := g) (vs := (us.take n ++ args.toList.map a.eval ++ us.drop n).toArray) ?_ k2 K
      rw [call_run hev, arr_map]
      have := k1 w
      simpa using this
end
end Ev
end Go.Proofs.YtoaimjielnempaaGreatDoor
namespace Go.Proofs.YtoaimjielnempaaGreatDoor
set_option linter.unusedVariables false
set_option linter.unusedSimpArgs false
open Go.RowKit Go.Maps
namespace Ev

section
variable {P : Program} {B : Nat} {W : World} {ι : Pos → Option Nat} {h h' : H} {w w' : World} {fr fr' : Fr} {a : Act} {r : AV} {nt N : Nat} {o : Oper} {c : Cx} {kk : K}
variable {inf : TypeId → Option TypeInfo} {und : TypeId → Option TypeDesc} {kf : TypeId → AV → Bool} {ext : FuncId → Option (List Opd → XOp)}

theorem After.step {ι' : Pos → Option Nat} {h1 : H} {w1 : World} {M : Act → World → Prop} (rel : Rel P B W ι h w) (x : Ext ι h w ι' h1 w1) (K : After P B W nt ι h w fr' h' M) : After P B W nt ι' h1 w1 fr' h' M :=
  fun ι2 a2 w2 f2 r2 x2 => K ι2 a2 w2 f2 r2 (Ext.trans rel x x2)
theorem FR.nil (hf : FR nt c fr a) (hn : nt ≤ 1000000) {d : Option Pos} {dst : Option Tmp} (hd : DstOk nt dst d) : FR nt c (setD fr d .undef) (a.put dst undef) := hf.put hn hd .undef

/-- An operation that may be left out. -/
theorem yielded_at {ops : Array Oper} {j : Nat} {g : Oper} {p : Tmp} (hj : ops[j]? = some g) (hp : g.dst = some p) (a : Act) : yielded ops a.tmps j = (match a.tmps.getD p undef with | .bool b => some b | _ => none) := by
  unfold yielded
  rw [hj]
  simp only [Option.bind_some, hp]
  rw [Array.getD_eq_getD_getElem?]
  cases a.tmps[p]? with
  | none => rfl
  | some v => cases v <;> rfl
/-- Whether an operation is wanted, told of the reckoned frame. -/
theorem wanted_ok {okT : Nat → Bool} {ops : Array Oper} {j : Nat} {b : Bool} {g : Oper} {p : Tmp} (hg : o.guard = some (j, b)) (hj : ops[j]? = some g) (hp : g.dst = some p) (ho : okT p = true) (hf : FO okT c fr a) :
    (∃ t, Fr.get fr (slot p) = .bool t ∧ Region.wanted o (yielded ops a.tmps) = bi b t (bi t false true)) ∨ ((∀ t, Fr.get fr (slot p) ≠ .bool t) ∧ Region.wanted o (yielded ops a.tmps) = false) := by
  have hv := hf.val p ho
  have hy := yielded_at hj hp a
  by_cases hbool : ∃ t, Fr.get fr (slot p) = .bool t
  · obtain ⟨t, ht⟩ := hbool
    rw [ht] at hv
    rw [hv.bool_inv] at hy
    refine .inl ⟨t, ht, ?_⟩
    unfold Region.wanted
    rw [hg]
    simp only
    rw [hy]
    cases t <;> cases b <;> rfl
  · refine .inr ⟨fun t ht => hbool ⟨t, ht⟩, ?_⟩
    unfold Region.wanted
    rw [hg]
    simp only
    rw [hy]
    have : ∀ t, a.tmps.getD p undef ≠ .bool t := fun t ht => by
      rw [ht] at hv
      generalize Fr.get fr (slot p) = z at hv hbool
      cases hv with
      | bool b => exact hbool ⟨t, rfl⟩
      | any j v hq hb => exact hb t rfl
    split
    · rename_i t ht; exact absurd ht (this t)
    · rfl
theorem guard_core {okT : Nat → Bool} {ops : Array Oper} {d : Option Pos} (E : Env P inf und kf) (X : ExtOk P ext) (KO : KOK P B W kk) {q : DOp} (hc : cGuardD inf und kf ext okT d ops o = .mk q) (e : q kk fr h = .ok fr' h') (hf : FO okT (cx ι h w) fr a) (rel : Rel P B W ι h w) :
    ∃ r, fr' = setD fr d r ∧ ∀ (M : Act → World → Prop) (Qx : Exit → Act → World → Prop), NextOk P B W ι h w r h' o.dst a M → if Region.wanted o (yielded ops a.tmps) then o.wp P a w M Qx ∨ (o.asks P a w ∧ LetsOut Qx) else M (a.put o.dst undef) w := by
  unfold cGuardD at hc
  cases hg : o.guard with
  | none =>
    rw [hg] at hc
    have hw : Region.wanted o (yielded ops a.tmps) = true := by unfold Region.wanted; rw [hg]
    obtain ⟨r, h1, h2⟩ := oper_core E X KO hc e hf rel
    refine ⟨r, h1, fun M Qx K => ?_⟩
    rw [if_pos hw]
    exact .inl (h2 M Qx K)
  | some jb =>
    obtain ⟨j, b⟩ := jb
    rw [hg] at hc
    simp only at hc
    cases hj : ops[j]? with
    | none => rw [hj] at hc; cases hc
    | some g =>
      rw [hj] at hc
      simp only at hc
      split at hc
      case h_2 => cases hc
      rename_i p q' hp hq
      cases hb : okT p with
      | false => rw [hb] at hc; cases hc
      | true =>
        rw [hb] at hc
        cases hc
        have e : (Fr.get fr (slot p)).bool? (Q.ok (setD fr d .undef) h) (fun c => bi (bi b c (bi c false true)) (q' kk fr h) (.ok (setD fr d .undef) h)) = .ok fr' h' := e
        have hskip : Q.ok (setD fr d .undef) h = .ok fr' h' → Region.wanted o (yielded ops a.tmps) = false → ∃ r, fr' = setD fr d r ∧ ∀ (M : Act → World → Prop) (Qx : Exit → Act → World → Prop), NextOk P B W ι h w r h' o.dst a M → if Region.wanted o (yielded ops a.tmps) then o.wp P a w M Qx ∨ (o.asks P a w ∧ LetsOut Qx) else M (a.put o.dst undef) w := fun e hw => by
          cases e
          refine ⟨.undef, rfl, fun M Qx K => ?_⟩
          rw [if_neg (by rw [hw]; simp)]
          exact K ι _ w rel (Ext.refl _ _ _) .undef
        rcases wanted_ok hg hj hp hb hf with ⟨t, ht, hw⟩ | ⟨hnb, hw⟩
        · rw [ht] at e
          have e : bi (bi b t (bi t false true)) (q' kk fr h) (.ok (setD fr d .undef) h) = .ok fr' h' := e
          cases htb : bi b t (bi t false true) with
          | true =>
            rw [htb] at hw e
            obtain ⟨r, h1, h2⟩ := oper_core E X KO hq e hf rel
            refine ⟨r, h1, fun M Qx K => ?_⟩
            rw [if_pos hw]
            exact .inl (h2 M Qx K)
          | false =>
            rw [htb] at hw e
            exact hskip e hw
        · refine hskip ?_ hw
          rw [← e]
          generalize Fr.get fr (slot p) = z at hnb
          cases z <;> first | rfl | exact absurd rfl (hnb _)
theorem guard_ok {ops : Array Oper} (E : Env P inf und kf) (X : ExtOk P ext) (KO : KOK P B W kk) (hn : nt ≤ 1000000) {q : DOp} (hc : cGuard inf und kf ext nt ops o = .mk q) (e : q kk fr h = .ok fr' h') (hf : FR nt (cx ι h w) fr a) (rel : Rel P B W ι h w)
    {M : Act → World → Prop} {Qx : Exit → Act → World → Prop} (K : After P B W nt ι h w fr' h' M) : if Region.wanted o (yielded ops a.tmps) then o.wp P a w M Qx ∨ (o.asks P a w ∧ LetsOut Qx) else M (a.put o.dst undef) w := by
  unfold cGuard at hc
  cases hd : dstP nt o with
  | none => rw [hd] at hc; cases hc
  | some d =>
    rw [hd] at hc
    obtain ⟨r, h1, h2⟩ := guard_core E X KO hc e hf.fo rel
    exact h2 M Qx fun ι' u w' r1 x1 hv => K ι' _ w' (by rw [h1]; exact (hf.mono (x1.le rel)).put hn (dst_ok hd) hv) r1 x1
theorem ops_ok {ops : Array Oper} (E : Env P inf und kf) (X : ExtOk P ext) (KO : KOK P B W kk) (hn : nt ≤ 1000000) {Qx : Exit → Act → World → Prop} : ∀ (l : List Oper) {ι : Pos → Option Nat} {h : H} {w : World} {fr : Fr} {a : Act},
    dOps (cOpers inf und kf ext nt ops l) kk fr h = .ok fr' h' → FR nt (cx ι h w) fr a → Rel P B W ι h w → After P B W nt ι h w fr' h' (fun a w => Qx .normal a w) → wpList P ops Qx l a w
  | [], ι, h, w, fr, a, e, hf, rel, K => by
    cases e
    exact K ι a w hf rel (Ext.refl _ _ _)
  | o :: l, ι, h, w, fr, a, e, hf, rel, K => by
    have e : Bo.rec (motive := fun _ => Q) .no (fun q => qr (q kk fr h) (dOps (cOpers inf und kf ext nt ops l) kk)) (cGuard inf und kf ext nt ops o) = .ok fr' h' := e
    cases hc : cGuard inf und kf ext nt ops o with
    | bad => rw [hc] at e; cases e
    | mk q =>
      rw [hc] at e
      obtain ⟨fr1, h1, e1, e2⟩ := qrQ (show qr (q kk fr h) _ = _ from e)
      exact guard_ok E X KO hn hc e1 hf rel (M := wpList P ops Qx l) fun ι1 a1 w1 f1 r1 x1 => ops_ok E X KO hn l e2 f1 r1 (K.step rel x1)

/-- Behind a piece of code. -/
def Post (P : Program) (B : Nat) (W : World) (nt : Nat) (ι : Pos → Option Nat) (h : H) (w : World) (Qx : Exit → Act → World → Prop) : R → Prop
  | .no => False
  | .n fr' h' => After P B W nt ι h w fr' h' (fun a w => Qx .normal a w)
  | .x id fr' h' => After P B W nt ι h w fr' h' (fun a w => Qx (.exit id) a w)
  | .r fr' h' => After P B W nt ι h w fr' h' (fun a w => Qx .ret a w)
theorem Post.step {ι' : Pos → Option Nat} {h1 : H} {w1 : World} {Qx : Exit → Act → World → Prop} {res : R} (rel : Rel P B W ι h w) (x : Ext ι h w ι' h1 w1) (K : Post P B W nt ι h w Qx res) : Post P B W nt ι' h1 w1 Qx res := by
  cases res with
  | no => exact K
  | n fr' h' => exact After.step rel x K
  | x id fr' h' => exact After.step rel x K
  | r fr' h' => exact After.step rel x K

end
end Ev
end Go.Proofs.YtoaimjielnempaaGreatDoor
