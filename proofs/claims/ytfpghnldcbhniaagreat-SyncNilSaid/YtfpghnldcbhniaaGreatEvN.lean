/- What was made ready is what the model does: each operation. -/
import Derived.Test.YtfpghnldcbhniaaGreatEvM
namespace Go.Proofs.YtfpghnldcbhniaaGreat
set_option linter.unusedVariables false
set_option linter.unusedSimpArgs false
open Go.RowKit Go.Maps
namespace Ev

section
variable {P : Program} {B : Nat} {W : World} {ι : Pos → Option Nat} {h h' : H} {w w' : World} {fr : Fr} {a : Act} {c : Cx} {r : AV} {okT : Nat → Bool}
variable {inf : TypeId → Option TypeInfo} {und : TypeId → Option TypeDesc} {kf : TypeId → AV → Bool} {ext : FuncId → Option (List Opd → XOp)}

def Res0 (P : Program) (c : Cx) (h h' : H) (r : AV) (s : Sem Next) : Prop := h' = h ∧ ∃ u, V c r u ∧ ∀ w, s.run P w = .ok (.value u) w
def Res1 (P : Program) (c : Cx) (h h' : H) (r : AV) (s : Sem Next) (w : World) : Prop := h' = h ∧ ∃ u, V c r u ∧ s.run P w = .ok (.value u) w
def MkO (P : Program) (c : Cx) (s : Sem Next) (b : Pos) (r : AV) (o : AObj) : Prop :=
  ∃ (obj : Obj) (mk : Nat → Value), (∀ w, s.run P w = .ok (.value (mk w.heap.size)) (w.alloc obj)) ∧ (∀ u q, u.heap[q]? = some obj → ObjR P c u q o) ∧
    ∀ (d : Cx) q, b.num < d.nx → (d.lv b → d.ι b = some q) → d.bs q = objSize obj → V d r (mk q)
def Res2 (P : Program) (c : Cx) (h h' : H) (r : AV) (s : Sem Next) : Prop := ∃ o, h' = h.new o ∧ MkO P c s h.nx r o
def Res3 (P : Program) (B : Nat) (W : World) (ι : Pos → Option Nat) (h h' : H) (r : AV) (s : Sem Next) (w : World) : Prop :=
  ∃ ι' w' u, (s.run P w = .ok (.value u) w' ∨ (s.run P w = .ok .skip w' ∧ u = undef)) ∧ Rel P B W ι' h' w' ∧ Ext ι h w ι' h' w' ∧ V (cx ι' h' w') r u
def OpOk (P : Program) (B : Nat) (W : World) (ι : Pos → Option Nat) (w : World) (k : Nat) (c : Cx) (h h' : H) (r : AV) (s : Sem Next) : Prop :=
  match k with
  | 0 => Res0 P c h h' r s
  | 1 => Res1 P c h h' r s w
  | 2 => Res2 P c h h' r s
  | _ => Res3 P B W ι h h' r s w
theorem Res0.r1 {s : Sem Next} (x : Res0 P c h h' r s) : Res1 P c h h' r s w := ⟨x.1, x.2.imp fun _ y => ⟨y.1, y.2 w⟩⟩
theorem Res1.r3 {s : Sem Next} (rel : Rel P B W ι h w) (x : Res1 P (cx ι h w) h h' r s w) : Res3 P B W ι h h' r s w := by
  obtain ⟨rfl, u, h1, h2⟩ := x
  exact ⟨ι, w, u, .inl h2, rel, Ext.refl _ _ _, h1⟩
theorem MkO.rel {s : Sem Next} {o : AObj} (m : MkO P (cx ι h w) s h.nx r o) (rel : Rel P B W ι h w) : Res3 P B W ι h (h.new o) r s w := by
  obtain ⟨obj, mk, h1, h2, h3⟩ := m
  have hn := heap_new (wnew_alloc w obj)
  obtain ⟨k1, k2⟩ := rel.new (wnew_alloc w obj) (h2 _ _ hn)
  refine ⟨upd ι h.nx w.heap.size, w.alloc obj, mk w.heap.size, .inl (h1 w), k1, k2, h3 _ _ ?_ (fun _ => upd_same _ _ _) ?_⟩
  · show h.nx.num < (h.new _).nx.num
    rw [nx_new]; omega
  · show bsz (w.alloc obj) w.heap.size = objSize obj
    unfold bsz
    rw [hn]
    cases obj <;> rfl
theorem Res2.r3 {s : Sem Next} (rel : Rel P B W ι h w) (x : Res2 P (cx ι h w) h h' r s) : Res3 P B W ι h h' r s w := by
  obtain ⟨o, rfl, m⟩ := x
  exact m.rel rel
theorem OpOk.r3 {k : Nat} {s : Sem Next} (rel : Rel P B W ι h w) (x : OpOk P B W ι w k (cx ι h w) h h' r s) : Res3 P B W ι h h' r s w := by
  match k, x with
  | 0, x => exact Res1.r3 rel (Res0.r1 x)
  | 1, x => exact Res1.r3 rel x
  | 2, x => exact Res2.r3 rel x
  | _ + 3, x => exact x

theorem mk_v {s : Sem Value} {o : AObj} {b : Pos} {q : Sem Next} (m : Mk P c s b r o) (hq : q = (do pure (.value (← s)) : Sem Next)) : MkO P c q b r o := by
  obtain ⟨obj, mk, h1, h2, h3⟩ := m
  refine ⟨obj, mk, fun w => ?_, h2, h3⟩
  rw [hq]
  simp only [Sem.run_bind, h1, Result.andThen_ok, Sem.run_pure]
theorem run_v {s : Sem Value} {u : Value} (e : s.run P w = .ok u w') : (do pure (.value (← s)) : Sem Next).run P w = .ok (.value u) w' := by
  simp only [Sem.run_bind, e, Result.andThen_ok, Sem.run_pure]
theorem run_u {s : Sem Unit} (e : s.run P w = .ok () w') : (do s; pure .skip : Sem Next).run P w = .ok .skip w' := by
  simp only [Sem.run_bind, e, Result.andThen_ok, Sem.run_pure]
/-- From a value's run to the operation's. -/
theorem res0 {s : Sem Value} {q : Sem Next} (x : h' = h ∧ ∃ u, V c r u ∧ ∀ w, s.run P w = .ok u w) (hq : q = (do pure (.value (← s)) : Sem Next)) : Res0 P c h h' r q :=
  ⟨x.1, x.2.imp fun _ y => ⟨y.1, fun w => by rw [hq]; exact run_v (y.2 w)⟩⟩
theorem res1 {s : Sem Value} {q : Sem Next} (x : h' = h ∧ ∃ u, V c r u ∧ s.run P w = .ok u w) (hq : q = (do pure (.value (← s)) : Sem Next)) : Res1 P c h h' r q w :=
  ⟨x.1, x.2.imp fun _ y => ⟨y.1, by rw [hq]; exact run_v y.2⟩⟩
theorem res3 {s : Sem Value} {q : Sem Next} (x : ∃ ι' w' u, s.run P w = .ok u w' ∧ Rel P B W ι' h' w' ∧ Ext ι h w ι' h' w' ∧ V (cx ι' h' w') r u) (hq : q = (do pure (.value (← s)) : Sem Next)) : Res3 P B W ι h h' r q w := by
  obtain ⟨ι', w', u, h1, h2, h3, h4⟩ := x
  exact ⟨ι', w', u, .inl (by rw [hq]; exact run_v h1), h2, h3, h4⟩
theorem res3u {s : Sem Unit} {q : Sem Next} (x : ∃ w', r = .undef ∧ s.run P w = .ok () w' ∧ Rel P B W ι h' w' ∧ Ext ι h w ι h' w') (hq : q = (do s; pure .skip : Sem Next)) : Res3 P B W ι h h' r q w := by
  obtain ⟨w', h0, h1, h2, h3⟩ := x
  subst h0
  exact ⟨ι, w', undef, .inr ⟨by rw [hq]; exact run_u h1, rfl⟩, h2, h3, .undef⟩

theorem guard_other {op : BinOp} {t : TypeId} {x y : Operand} {u v : Value} (h1 : op ≠ .eql) (h2 : op ≠ .neq) : (eqGuard op t x y u v).run P w = .ok () w := by
  cases op <;> first | rfl | exact absurd rfl h1 | exact absurd rfl h2
theorem guard_flat {op : BinOp} {t : TypeId} {x y : Operand} {u v : Value} (hu : (∃ k n, u = .int k n) ∨ ∃ s, u = .string s) : (eqGuard op t x y u v).run P w = .ok () w := by
  rcases hu with ⟨k, n, rfl⟩ | ⟨s, rfl⟩ <;> cases op <;> rfl
theorem with_guard {op : BinOp} {t : TypeId} {x y : Operand} {u v : Value} (hg : ∀ w, (eqGuard op t x y u v).run P w = .ok () w)
    (k : h' = h ∧ ∃ z, V c r z ∧ ∀ w, (Go.binOp op t u v).run P w = .ok z w) : h' = h ∧ ∃ z, V c r z ∧ ∀ w, (eqSem op t x y u v).run P w = .ok z w :=
  ⟨k.1, k.2.imp fun _ y => ⟨y.1, fun w => by simp only [eqSem, Sem.run_bind, hg, Result.andThen_ok, y.2]⟩⟩
theorem int_flat {f : IntKind → Int → Int → Option AV} {x y : Opd} {u : Value} (hx : V c (x fr) u) (e : xInt f x y fr h = .ok r h') : ∃ k n, u = .int k n := by
  obtain ⟨j, n, ex, e⟩ := int_ok e
  rw [ex] at hx
  exact ⟨_, _, hx.int_inv⟩
theorem str_flat {op : BinOp} {x y : Opd} {u : Value} (hx : V c (x fr) u) (e : xStr op x y fr h = .ok r h') : ∃ s, u = .string s := by
  obtain ⟨s, ex, e⟩ := str_ok e
  rw [ex] at hx
  exact ⟨_, hx.str_inv⟩
end
end Ev
end Go.Proofs.YtfpghnldcbhniaaGreat
