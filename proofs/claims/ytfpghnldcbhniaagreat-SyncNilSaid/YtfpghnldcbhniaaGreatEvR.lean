/- Operations in a frame, plain regions. -/
import Derived.Test.YtfpghnldcbhniaaGreatEvQ
import Derived.LoopN
import Derived.Scope
import Derived.Tactics
namespace Go.Proofs.YtfpghnldcbhniaaGreat
set_option linter.unusedVariables false
set_option linter.unusedSimpArgs false
open Go.RowKit Go.Maps
namespace Ev

section
variable {P : Program} {B : Nat} {W : World} {ι : Pos → Option Nat} {h h' : H} {w w' : World} {fr fr' : Fr} {a : Act} {r : AV} {nt : Nat} {o : Oper} {k : Nat} {f : XOp} {c : Cx} {kk : K}
variable {inf : TypeId → Option TypeInfo} {und : TypeId → Option TypeDesc} {kf : TypeId → AV → Bool} {ext : FuncId → Option (List Opd → XOp)}

structure FR (nt : Nat) (c : Cx) (fr : Fr) (a : Act) : Prop where
  size : a.tmps.size = nt
  val : ∀ t, t < nt → V c (Fr.get fr (slot t)) (a.tmps.getD t undef)
  defers : a.defers = []
theorem FR.mono {c d : Cx} (hl : c.Le d) (hf : FR nt c fr a) : FR nt d fr a := ⟨hf.size, fun t ht => (hf.val t ht).mono hl, hf.defers⟩
theorem FR.fo (hf : FR nt c fr a) : FO (below nt) c fr a := ⟨fun t ht => hf.val t (by
  unfold below at ht
  rw [blt_eq] at ht
  exact of_decide_eq_true ht)⟩
theorem force_eq (v : AV) (f : AV → Q) : force v f = f v := by
  cases v with
  | bool b => cases b <;> rfl
  | int k n => cases n with
    | ofNat m => cases m <;> rfl
    | negSucc m => cases m <;> rfl
  | ptr b o => cases o <;> rfl
  | slice b o n c s => cases n <;> rfl
  | _ => rfl
theorem eqQ {e : E} {f : AV → H → Q} {fr : Fr} {h : H} (x : eq' e f = .ok fr h) : ∃ v h', e = .ok v h' ∧ f v h' = .ok fr h := by
  cases e with
  | no => cases x
  | ok v h' => exact ⟨v, h', rfl, x⟩
theorem qrQ {q : Q} {f : Fr → H → Q} {fr : Fr} {h : H} (x : qr q f = .ok fr h) : ∃ fr' h', q = .ok fr' h' ∧ f fr' h' = .ok fr h := by
  cases q with
  | no => cases x
  | ok v h' => exact ⟨v, h', rfl, x⟩
theorem get_set_same' (fr : Fr) (p : Pos) (v : AV) : Fr.get (T.set fr p (some v)) p = v := by
  unfold Fr.get
  rw [T.get_set_same]
  rfl
theorem get_set_ne' (fr : Fr) {p q : Pos} (v : AV) (h : p ≠ q) : Fr.get (T.set fr p (some v)) q = Fr.get fr q := by
  unfold Fr.get
  rw [T.get_set_ne _ _ _ _ h]

def DstOk (nt : Nat) (dst : Option Tmp) (d : Option Pos) : Prop := (dst = none ∧ d = none) ∨ ∃ t, dst = some t ∧ t < nt ∧ d = some (slot t)
theorem dst_ok {d : Option Pos} (e : dstP nt o = some d) : DstOk nt o.dst d := by
  unfold dstP at e
  cases h1 : o.dst with
  | none => rw [h1] at e; cases e; exact .inl ⟨rfl, rfl⟩
  | some t =>
    rw [h1] at e
    simp only at e
    cases hb : Nat.blt t nt with
    | false => rw [hb] at e; cases e
    | true =>
      rw [hb] at e
      cases e
      rw [blt_eq] at hb
      exact .inr ⟨t, rfl, of_decide_eq_true hb, rfl⟩
theorem FR.put {u : Value} {d : Option Pos} {dst : Option Tmp} (hn : nt ≤ 1000000) (hf : FR nt c fr a) (hd : DstOk nt dst d) (hv : V c r u) : FR nt c (setD fr d r) (a.put dst u) := by
  rcases hd with ⟨rfl, rfl⟩ | ⟨t, rfl, ht, rfl⟩
  · exact hf
  · refine ⟨by simp [Act.put, hf.size], fun s hs => ?_, hf.defers⟩
    show V c (Fr.get (T.set fr (slot t) (some r)) (slot s)) _
    by_cases e : t = s
    · subst e
      rw [get_set_same']
      simp only [Act.put, Array.getD_eq_getD_getElem?, Array.getElem?_setIfInBounds, if_true, hf.size, ht, Option.getD_some]
      exact hv
    · rw [get_set_ne' fr r (fun h => e (slot_inj (Nat.lt_of_lt_of_le ht hn) (Nat.lt_of_lt_of_le hs hn) h))]
      have : (a.put (some t) u).tmps.getD s undef = a.tmps.getD s undef := by
        simp only [Act.put, Array.getD_eq_getD_getElem?, Array.getElem?_setIfInBounds, if_neg e]
      rw [this]
      exact hf.val s hs

def CR (P : Program) (B : Nat) (W : World) (ι : Pos → Option Nat) (h : H) (w : World) (r : AV) (h' : H) (e : Ending) (w' : World) : Prop :=
  ∃ v ι', e = .returned v ∧ Rel P B W ι' h' w' ∧ Ext ι h w ι' h' w' ∧ V (cx ι' h' w') r v
/-- What is known of the functions that are called. -/
def KOK (P : Program) (kk : K) : Prop := ∀ (B : Nat) (W : World) (ι : Pos → Option Nat) (h : H) (w : World) (f : FuncId) (xs : List AV) (vs : List Value) (r : AV) (h' : H), Rel P B W ι h w → VL (cx ι h w) xs vs → kk f xs h = .ok r h' →
  (∀ w0, (callFunc f vs.toArray).run P w0 = .ok (.enter f vs.toArray) w0) ∧ Calls P f vs.toArray w (CR P B W ι h w r h')

/-- Behind an operation. -/
def After (P : Program) (B : Nat) (W : World) (nt : Nat) (ι : Pos → Option Nat) (h : H) (w : World) (fr' : Fr) (h' : H) (N : Act → World → Prop) : Prop :=
  ∀ ι' a' w', FR nt (cx ι' h' w') fr' a' → Rel P B W ι' h' w' → Ext ι h w ι' h' w' → N a' w'

/-- Whatever an operation may give. -/
def NextOk (P : Program) (B : Nat) (W : World) (ι : Pos → Option Nat) (h : H) (w : World) (r : AV) (h' : H) (dst : Option Tmp) (a : Act) (M : Act → World → Prop) : Prop :=
  ∀ ι' u w', Rel P B W ι' h' w' → Ext ι h w ι' h' w' → V (cx ι' h' w') r u → M (a.put dst u) w'
theorem wp_of_res {N : Act → World → Prop} {Qx : Exit → Act → World → Prop} (x : Res3 P B W ι h h' r (execOp a.eval o) w) (K : NextOk P B W ι h w r h' o.dst a N) : o.wp P a w N Qx := by
  obtain ⟨ι', w', u, h1, h2, h3, h4⟩ := x
  unfold Oper.wp
  rcases h1 with h1 | ⟨h1, rfl⟩
  · rw [h1, Oper.upon_value]
    exact K ι' _ w' h2 h3 h4
  · rw [h1, Oper.upon_skip]
    exact K ι' _ w' h2 h3 h4
theorem wp_of_call {N : Act → World → Prop} {Qx : Exit → Act → World → Prop} {g : FuncId} {vs : Array Value}
    (he : (execOp a.eval o).run P w = .ok (.enter g vs) w) (hc : Calls P g vs w (CR P B W ι h w r h')) (K : NextOk P B W ι h w r h' o.dst a N) : o.wp P a w N Qx := by
  unfold Oper.wp
  rw [he, Oper.upon_enter]
  refine hc.mono fun e w' ⟨v, ι', h1, h2, h3, h4⟩ => ?_
  subst h1
  exact K ι' _ w' h2 h3 h4
theorem call_run {ρ : Operand → Value} {x : Operand} {dst : Option Tmp} {args : Array Operand} {ats : Array TypeId} {type : TypeId} {pos : String} {after : Array Edge} {guard : Option (Nat × Bool)} {g : FuncId} {fs cs : Array Value} (hρ : ρ x = .func (.func g) fs cs) :
    execOp ρ ⟨dst, .call ⟨.value x, args, ats⟩, type, pos, after, guard⟩ = callFunc g (fs ++ args.map ρ ++ cs) := by
  show (do let d ← Deferred.ofValue (ρ x) (args.map ρ); invoke d.target d.args) = _
  rw [hρ]
  rfl
variable {okT : Nat → Bool}
def Bx.isOp : Bx → Bool
  | .call _ _ | .callv _ _ => false
  | _ => true
theorem c1_isOp {k : Nat} {f : Opd → XOp} {x : Operand} : (c1 okT k f x).isOp = true := by unfold c1; split <;> rfl
theorem c2_isOp {k : Nat} {f : Opd → Opd → XOp} {x y : Operand} : (c2 okT k f x y).isOp = true := by unfold c2; split <;> rfl
theorem c3_isOp {k : Nat} {f : Opd → Opd → Opd → XOp} {x y z : Operand} : (c3 okT k f x y z).isOp = true := by unfold c3; split <;> rfl
theorem cells_isOp {v : AV} {f : List AV → Bx} (h : ∀ cs, (f cs).isOp = true) : (v.cells? Bx.bad f).isOp = true := by cases v <;> first | exact h _ | rfl
theorem bif_isOp {b : Bool} {x : Bx} (h : x.isOp = true) : (bif b then x else .bad).isOp = true := by cases b <;> first | exact h | rfl
theorem builtin_isOp {b : Builtin} {ts : Array TypeId} {xs : List Operand} : (cBuiltin inf und kf okT b ts xs).isOp = true := by
  unfold cBuiltin
  repeat' split
  all_goals first | rfl | exact c1_isOp | exact c2_isOp
theorem cOp_isOp {op : Op} (h : ∀ c, op ≠ .call c) : (cOp inf und kf ext okT op).isOp = true := by
  cases op
  case call c => exact absurd rfl (h c)
  case next x s =>
    cases s
    · exact c1_isOp
    · rfl
  case typeAssert x s t ok =>
    cases ok
    · simp only [cOp]
      repeat' split
      all_goals first | rfl | exact c1_isOp
    · rfl
  all_goals
    simp only [cOp]
    repeat' split
  all_goals first
    | rfl
    | exact c1_isOp
    | exact c2_isOp
    | exact c3_isOp
    | exact cells_isOp fun _ => rfl
    | exact bif_isOp (cells_isOp fun _ => rfl)
    | exact cells_isOp fun _ => bif_isOp rfl
    | exact cells_isOp fun _ => bif_isOp c2_isOp
theorem cOp_call {op : Op} {g : FuncId} {xs : List Opd} (e : cOp inf und kf ext okT op = .call g xs) : ∃ args ats, op = .call ⟨.value (.func g), args, ats⟩ ∧ cXs okT args.toList = some xs := by
  by_cases h : ∀ c, op ≠ .call c
  · have := cOp_isOp (inf := inf) (und := und) (kf := kf) (ext := ext) (okT := okT) h
    rw [e] at this
    cases this
  · simp only [ne_eq, Classical.not_forall, Classical.not_not] at h
    obtain ⟨⟨callee, args, ats⟩, rfl⟩ := h
    cases callee with
    | builtin b =>
      have := builtin_isOp (inf := inf) (und := und) (kf := kf) (okT := okT) (b := b) (ts := ats) (xs := args.toList)
      rw [show cBuiltin inf und kf okT b ats args.toList = _ from e] at this
      cases this
    | invoke r n => cases e
    | value x =>
      cases x with
      | func g' =>
        simp only [cOp] at e
        cases hl : cXs okT args.toList with
        | none => simp only [hl] at e; cases e
        | some l =>
          simp only [hl] at e
          cases hg : ext g' with
          | none => simp only [hg] at e; cases e; exact ⟨args, ats, rfl, hl⟩
          | some z => simp only [hg] at e; cases e
      | tmp t => simp only [cOp] at e; split at e <;> cases e
      | const v => simp only [cOp] at e; split at e <;> cases e
      | global g => simp only [cOp] at e; split at e <;> cases e
theorem cOp_callv {op : Op} {x' : Opd} {xs : List Opd} (e : cOp inf und kf ext okT op = .callv x' xs) : ∃ x args ats, op = .call ⟨.value x, args, ats⟩ ∧ cX okT x = some x' ∧ cXs okT args.toList = some xs := by
  by_cases h : ∀ c, op ≠ .call c
  · have := cOp_isOp (inf := inf) (und := und) (kf := kf) (ext := ext) (okT := okT) h
    rw [e] at this
    cases this
  · simp only [ne_eq, Classical.not_forall, Classical.not_not] at h
    obtain ⟨⟨callee, args, ats⟩, rfl⟩ := h
    cases callee with
    | builtin b =>
      have := builtin_isOp (inf := inf) (und := und) (kf := kf) (okT := okT) (b := b) (ts := ats) (xs := args.toList)
      rw [show cBuiltin inf und kf okT b ats args.toList = _ from e] at this
      cases this
    | invoke r n => cases e
    | value x =>
      refine ⟨x, args, ats, rfl, ?_⟩
      cases x with
      | func g' =>
        simp only [cOp] at e
        cases hl : cXs okT args.toList with
        | none => simp only [hl] at e; cases e
        | some l =>
          simp only [hl] at e
          cases hg : ext g' with
          | none => simp only [hg] at e; cases e
          | some z => simp only [hg] at e; cases e
      | tmp t => 
        simp only [cOp] at e
        split at e
        · rename_i h1 h2; cases e; exact ⟨h1, h2⟩
        · cases e
      | const v =>
        simp only [cOp] at e
        split at e
        · rename_i h1 h2; cases e; exact ⟨h1, h2⟩
        · cases e
      | global g =>
        simp only [cOp] at e
        split at e
        · rename_i h1 h2; cases e; exact ⟨h1, h2⟩
        · cases e
theorem func_okQ {v : AV} {f : FuncId → Nat → List AV → Q} {fr : Fr} {h : H} (e : v.func? Q.no f = .ok fr h) : ∃ g n cs, v = .func g n cs ∧ f g n cs = .ok fr h := by
  cases v <;> first | cases e | exact ⟨_, _, _, rfl, e⟩
theorem oper_core (E : Env P inf und kf) (X : ExtOk P ext) (KO : KOK P kk) {q : DOp} {d : Option Pos} (hc : cOperD inf und kf ext okT d o = .mk q) (e : q kk fr h = .ok fr' h') (hf : FO okT (cx ι h w) fr a) (rel : Rel P B W ι h w) :
    ∃ r, fr' = setD fr d r ∧ ∀ (N : Act → World → Prop) (Qx : Exit → Act → World → Prop), NextOk P B W ι h w r h' o.dst a N → o.wp P a w N Qx := by
  unfold cOperD at hc
  cases ho : cOp inf und kf ext okT o.op with
  | bad => rw [ho] at hc; cases hc
  | op k f =>
    rw [ho] at hc
    cases hc
    obtain ⟨v, h1, e1, e2⟩ := eqQ (show eq' (f fr h) _ = _ from e)
    rw [force_eq] at e2
    cases e2
    exact ⟨v, rfl, fun N Qx K => wp_of_res ((cOp_ok E X ho hf (fun _ => ⟨rfl, rel⟩) e1).r3 rel) K⟩
  | call g xs =>
    rw [ho] at hc
    cases hc
    obtain ⟨v, h1, e1, e2⟩ := eqQ (show eq' (kk g (evs xs fr) h) _ = _ from e)
    rw [force_eq] at e2
    cases e2
    refine ⟨v, rfl, fun N Qx K => ?_⟩
    obtain ⟨args, ats, hop, hl⟩ := cOp_call ho
    obtain ⟨k1, k2⟩ := KO B W ι h w g _ _ v h' rel (OL.evs (cXs_ok hf hl)) e1
    obtain ⟨dst, op, type, pos, after, guard⟩ := o
    simp only at hop
    subst hop
    refine wp_of_call (g := g) (vs := (args.toList.map a.eval).toArray) ?_ k2 K
    rw [call_func, arr_map]
    exact k1 w
  | callv x xs =>
    rw [ho] at hc
    cases hc
    obtain ⟨g, n, caps, ex, e⟩ := func_okQ (show (x fr).func? Q.no _ = _ from e)
    obtain ⟨v, h1, e1, e2⟩ := eqQ e
    rw [force_eq] at e2
    cases e2
    refine ⟨v, rfl, fun N Qx K => ?_⟩
    obtain ⟨x0, args, ats, hop, hx, hl⟩ := cOp_callv ho
    have hxv := cX_ok hf hx
    rw [ex] at hxv
    generalize hev : a.eval x0 = xv at hxv
    cases hxv with
    | func _ _ _ us h2 h3 =>
      obtain ⟨k1, k2⟩ := KO B W ι h w g _ _ v h' rel (((h2.take n).append (OL.evs (cXs_ok hf hl))).append (h2.drop n)) e1
      obtain ⟨dst, op, type, pos, after, guard⟩ := o
      simp only at hop
      subst hop
      refine wp_of_call (g := g) (vs := (us.take n ++ args.toList.map a.eval ++ us.drop n).toArray) ?_ k2 K
      rw [call_run hev, arr_map]
      have := k1 w
      simpa using this
end
end Ev
end Go.Proofs.YtfpghnldcbhniaaGreat
