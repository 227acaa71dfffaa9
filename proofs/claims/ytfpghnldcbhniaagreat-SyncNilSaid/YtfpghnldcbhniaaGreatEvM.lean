/- What was made ready is what the model does: operations. -/
import Derived.Test.YtfpghnldcbhniaaGreatEvL2
namespace Go.Proofs.YtfpghnldcbhniaaGreat
set_option linter.unusedVariables false
set_option linter.unusedSimpArgs false
open Go.RowKit Go.Maps
namespace Ev

structure Env (P : Program) (inf : TypeId → Option TypeInfo) (und : TypeId → Option TypeDesc) (kf : TypeId → AV → Bool) : Prop where
  inf : ∀ t i, inf t = some i → P.info? t = some i
  und : ∀ t d, und t = some d → P.underlying t = some d
  key : KeyOK P kf

structure FO (okT : Nat → Bool) (c : Cx) (fr : Fr) (a : Act) : Prop where
  val : ∀ t, okT t = true → V c (Fr.get fr (slot t)) (a.tmps.getD t undef)

section
variable {P : Program} {B : Nat} {W : World} {ι : Pos → Option Nat} {h h' : H} {w w' : World} {fr : Fr} {a : Act} {c : Cx} {r : AV} {okT : Nat → Bool}
variable {inf : TypeId → Option TypeInfo} {und : TypeId → Option TypeDesc} {kf : TypeId → AV → Bool} {ext : FuncId → Option (List Opd → XOp)}

theorem FO.mono {c d : Cx} (hl : c.Le d) (hf : FO okT c fr a) : FO okT d fr a := ⟨fun t ht => (hf.val t ht).mono hl⟩
theorem ofScalar_V {v : Value} {x : AV} (e : ofScalar v = some x) : V c x v ∧ x.one = true := by
  unfold ofScalar at e
  split at e <;> cases e
  · exact ⟨.bool _, rfl⟩
  · exact ⟨.int _ _, rfl⟩
  · exact ⟨.str _, rfl⟩
  · exact ⟨.nilp, rfl⟩
  · exact ⟨.nils, rfl⟩
  · exact ⟨.nilm, rfl⟩
  · exact ⟨.nilf, rfl⟩
  · exact ⟨.nili, rfl⟩
theorem ofScalars_V : ∀ {vs : List Value} {xs : List AV}, ofScalars vs = some xs → VL c xs vs ∧ ∀ x ∈ xs, x.one = true
  | [], _, e => by cases e; exact ⟨.nil, fun _ h => by cases h⟩
  | v :: vs, xs, e => by
    unfold ofScalars at e
    cases h1 : ofScalar v with
    | none => rw [h1] at e; cases e
    | some x =>
      cases h2 : ofScalars vs with
      | none => rw [h1, h2] at e; cases e
      | some ys =>
        rw [h1, h2] at e
        cases e
        obtain ⟨g1, g2⟩ := ofScalar_V (c := c) h1
        obtain ⟨g3, g4⟩ := ofScalars_V h2
        exact ⟨.cons g1 g3, fun y hy => by
          rcases List.mem_cons.1 hy with rfl | hy
          · exact g2
          · exact g4 y hy⟩
theorem ofVal_V {v : Value} {x : AV} (e : ofVal v = some x) : V c x v := by
  unfold ofVal at e
  split at e
  · rename_i cs
    cases h1 : ofScalars cs.toList with
    | none => rw [h1] at e; cases e
    | some l =>
      rw [h1] at e
      cases e
      obtain ⟨g1, g2⟩ := ofScalars_V (c := c) h1
      have := V.agg _ _ g1 g2
      simpa using this
  · exact (ofScalar_V e).1
theorem cX_ok {x : Operand} {o : Opd} (hf : FO okT c fr a) (e : cX okT x = some o) : V c (o fr) (a.eval x) := by
  cases x with
  | tmp t =>
    simp only [cX] at e
    cases hb : okT t with
    | false => rw [hb] at e; cases e
    | true =>
      rw [hb] at e
      cases e
      exact hf.val t hb
  | const v =>
    simp only [cX] at e
    cases h1 : ofVal v with
    | none => rw [h1] at e; cases e
    | some x => rw [h1] at e; cases e; exact ofVal_V h1
  | func f => cases e; exact .func f 0 [] [] .nil (Nat.le_refl _)
  | global g => cases e
theorem cXs_ok (hf : FO okT c fr a) : ∀ {xs : List Operand} {os : List Opd}, cXs okT xs = some os → OL c fr os (xs.map a.eval)
  | [], _, e => by cases e; exact .nil
  | x :: xs, os, e => by
    unfold cXs at e
    cases h1 : cX okT x with
    | none => rw [h1] at e; cases e
    | some o =>
      cases h2 : cXs okT xs with
      | none => rw [h1, h2] at e; cases e
      | some l => rw [h1, h2] at e; cases e; exact .cons (cX_ok hf h1) (cXs_ok hf h2)
theorem cO_ok (hf : FO okT c fr a) {x : Option Operand} {o : Option Opd} (e : cO okT x = some o) : OO c fr o (x.map a.eval) := by
  cases x with
  | none => cases e; exact .none
  | some x =>
    unfold cO at e
    cases h1 : cX okT x with
    | none => simp only [h1] at e; cases e
    | some l => simp only [h1] at e; cases e; exact .some (cX_ok hf h1)
def placeF (inf : TypeId → Option TypeInfo) (fs : Array Field) (i : Nat) : Option (Nat × Nat) := (fs[i]?).bind fun f => (sizeT inf f.type).map fun n => (f.offset, n)
theorem fieldsAt_ok (hf : FO okT c fr a) {fs : Array Field} : ∀ {ps : List (Nat × Operand)} {l : List (Nat × Nat × Opd)}, fieldsAt inf okT fs ps = some l → PL c fr (placeF inf fs) l (ps.map fun p => (p.1, a.eval p.2))
  | [], _, e => by cases e; exact .nil
  | (i, x) :: ps, l, e => by
    unfold fieldsAt at e
    cases h0 : fs[i]? with
    | none => rw [h0] at e; cases e
    | some f =>
      cases h1 : cX okT x with
      | none => rw [h0, h1] at e; cases e
      | some o =>
        cases h2 : fieldsAt inf okT fs ps with
        | none => rw [h0, h1, h2] at e; cases e
        | some l' =>
          rw [h0, h1, h2] at e
          simp only at e
          cases h3 : sizeT inf f.type with
          | none => rw [h3] at e; cases e
          | some n =>
            rw [h3] at e
            cases e
            exact .cons (by simp [placeF, h0, h3]) (cX_ok hf h1) (fieldsAt_ok hf h2)
theorem elemsAt_ok (hf : FO okT c fr a) {sz : Nat} : ∀ {ps : List (Nat × Operand)} {l : List (Nat × Nat × Opd)}, elemsAt okT sz ps = some l → PL c fr (fun i => some (i * sz, sz)) l (ps.map fun p => (p.1, a.eval p.2))
  | [], _, e => by cases e; exact .nil
  | (i, x) :: ps, l, e => by
    unfold elemsAt at e
    cases h1 : cX okT x with
    | none => rw [h1] at e; cases e
    | some o =>
      cases h2 : elemsAt okT sz ps with
      | none => rw [h1, h2] at e; cases e
      | some l' => rw [h1, h2] at e; cases e; exact .cons rfl (cX_ok hf h1) (elemsAt_ok hf h2)

theorem c1_ok {k k' : Nat} {f : Opd → XOp} {g : XOp} {x : Operand} (e : c1 okT k f x = .op k' g) : ∃ o, cX okT x = some o ∧ k' = k ∧ g = f o := by
  unfold c1 at e
  cases h1 : cX okT x with
  | none => rw [h1] at e; cases e
  | some o => rw [h1] at e; cases e; exact ⟨_, rfl, rfl, rfl⟩
theorem c2_ok {k k' : Nat} {f : Opd → Opd → XOp} {g : XOp} {x y : Operand} (e : c2 okT k f x y = .op k' g) : ∃ o p, cX okT x = some o ∧ cX okT y = some p ∧ k' = k ∧ g = f o p := by
  unfold c2 at e
  cases h1 : cX okT x with
  | none => rw [h1] at e; cases e
  | some o =>
    cases h2 : cX okT y with
    | none => rw [h1, h2] at e; cases e
    | some p => rw [h1, h2] at e; cases e; exact ⟨_, _, rfl, rfl, rfl, rfl⟩
theorem c3_ok {k k' : Nat} {f : Opd → Opd → Opd → XOp} {g : XOp} {x y z : Operand} (e : c3 okT k f x y z = .op k' g) : ∃ o p q, cX okT x = some o ∧ cX okT y = some p ∧ cX okT z = some q ∧ k' = k ∧ g = f o p q := by
  unfold c3 at e
  cases h1 : cX okT x with
  | none => rw [h1] at e; cases e
  | some o =>
    cases h2 : cX okT y with
    | none => rw [h1, h2] at e; cases e
    | some p =>
      cases h3 : cX okT z with
      | none => rw [h1, h2, h3] at e; cases e
      | some q => rw [h1, h2, h3] at e; cases e; exact ⟨_, _, _, rfl, rfl, rfl, rfl, rfl⟩

theorem Env.size (E : Env P inf und kf) {t : TypeId} {n : Nat} (e : sizeT inf t = some n) : ∃ i, inf t = some i ∧ P.info? t = some i ∧ i.size = n ∧ ∀ w, (sizeOf t).run P w = .ok n w := by
  unfold sizeT at e
  cases h1 : inf t with
  | none => rw [h1] at e; cases e
  | some i =>
    rw [h1] at e
    cases e
    have := E.inf t i h1
    exact ⟨i, rfl, this, rfl, fun w => by simp [sizeOf, typeInfo, this]⟩
theorem Env.zero (E : Env P inf und kf) {t : TypeId} {z : AV} (e : zeroOf inf t = some z) : ∃ i v, inf t = some i ∧ P.info? t = some i ∧ i.zero = some v ∧ (∀ w, (zeroValue t).run P w = .ok v w) ∧ ∀ c, V c z v := by
  unfold zeroOf at e
  cases h1 : inf t with
  | none => rw [h1] at e; cases e
  | some i =>
    rw [h1] at e
    simp only at e
    cases h2 : i.zero with
    | none => rw [h2] at e; cases e
    | some v =>
      rw [h2] at e
      have := E.inf t i h1
      exact ⟨i, v, rfl, this, h2, fun w => by simp [zeroValue, typeInfo, this, h2], fun c => ofVal_V e⟩
theorem Env.zeroV (E : Env P inf und kf) {t : TypeId} {z : AV} (e : zeroOf inf t = some z) : ZeroV P t z := by
  obtain ⟨_, v, _, _, _, h4, h5⟩ := E.zero e
  exact ⟨v, h4, h5⟩
/-- What is made of a value's cells. -/
theorem cells_bx {v : AV} {f : List AV → Bx} {k : Nat} {g : XOp} (e : v.cells? .bad f = .op k g) : ∃ cs, f cs = .op k g ∧ ((v = .agg cs) ∨ (v.one = true ∧ cs = [v])) := by
  cases v <;> first | cases e | exact ⟨_, e, .inl rfl⟩ | exact ⟨_, e, .inr ⟨rfl, rfl⟩⟩
theorem Env.zeroC (E : Env P inf und kf) {t : TypeId} {z : AV} {cs : List AV} (e : zeroOf inf t = some z) (hc : (z = .agg cs) ∨ (z.one = true ∧ cs = [z])) : Zero P t cs := by
  obtain ⟨_, v, _, _, _, h4, h5⟩ := E.zero e
  refine ⟨v, h4, fun c => ?_, ?_⟩
  · rcases hc with hc | ⟨h1, rfl⟩
    · exact (cells_V (h5 c)).1 cs hc
    · exact (cells_V (h5 c)).2 h1
  · rcases hc with rfl | ⟨h1, rfl⟩
    · obtain ⟨_, _, _, h6⟩ := (h5 ⟨fun _ => none, fun _ => False, 0, fun _ => 0⟩).agg_inv
      exact h6
    · intro x hx
      rw [List.mem_singleton.1 hx]
      exact h1
theorem run_isAgg {t : TypeId} {d : TypeDesc} (hu : P.underlying t = some d) (w : World) : (isAgg t).run P w = .ok (match d with | .struct _ | .array _ _ => true | _ => false) w := by
  simp only [isAgg, Sem.run_bind, run_underlying hu, Result.andThen_ok]
  cases d <;> rfl
theorem Env.wide (E : Env P inf und kf) {t : TypeId} {m : Option Nat} (e : wideT inf und t = some m) :
    (m = none ∧ ∀ w, (isAgg t).run P w = .ok false w) ∨ ∃ n d, m = some n ∧ (∀ w, (isAgg t).run P w = .ok true w) ∧ (∀ w, (sizeOf t).run P w = .ok n w) ∧ P.underlying t = some d ∧ d.isRow = true ∧ (P.info? t).map (·.size) = some n := by
  unfold wideT at e
  cases h1 : aggT und t with
  | none => rw [h1] at e; cases e
  | some b =>
    cases h2 : sizeT inf t with
    | none => rw [h1, h2] at e; cases b <;> cases e
    | some n =>
      rw [h1, h2] at e
      obtain ⟨i, _, g1, g2, g3⟩ := E.size h2
      unfold aggT at h1
      cases hu : und t with
      | none => rw [hu] at h1; cases h1
      | some d =>
        rw [hu] at h1
        have hP := E.und t d hu
        cases d <;> simp only [Option.some.injEq] at h1 <;> subst h1 <;> cases e <;>
          first
          | exact .inl ⟨rfl, fun w => run_isAgg hP w⟩
          | exact .inr ⟨_, _, rfl, fun w => run_isAgg hP w, g3, hP, rfl, by rw [g1]; exact congrArg some g2⟩
theorem Env.wideW (E : Env P inf und kf) {t : TypeId} {m : Option Nat} (e : wideT inf und t = some m) : Wide P t m := by
  rcases E.wide e with ⟨h1, h2⟩ | ⟨n, d, h1, h2, h3, _⟩
  · exact .inl ⟨h1, h2⟩
  · exact .inr ⟨n, h1, h2, h3⟩
end
end Ev
end Go.Proofs.YtfpghnldcbhniaaGreat
