/- Calls that make memory: templates, and what they answer. -/
import Derived.Test.YtfpghnldcbhniaaGreatPlM
namespace Go.Proofs.YtfpghnldcbhniaaGreat
set_option linter.unusedVariables false
set_option linter.unusedSimpArgs false
open Go.RowKit Go.Maps
namespace Ev
/-- The place of a number in a list, from a number on. -/
noncomputable def place (P : List Pos) (b dead : Pos) : Pos → Pos := List.rec (motive := fun _ => Pos → Pos) (fun _ => dead) (fun p _ ih q => bi (p.beq b) q (ih q.succ)) P
noncomputable def ren (σ : Pos → Pos) (v : AV) : AV :=
  AV.rec (motive_1 := fun _ => AV) (motive_2 := fun _ => List AV) .undef (fun b => .bool b) (fun k n => .int k n) (fun s => .str s) .nilp (fun b o => .ptr (σ b) o) .nils (fun b o n c s => .slice (σ b) o n c s) .nilm (fun b => .map (σ b)) .nilf
    (fun f n _ ih => .func f n ih) (fun t _ ih => .iface t ih) (fun _ ih => .agg ih) (fun _ ih => .tuple ih) [] (fun _ _ a l => a :: l) v
noncomputable def renL (σ : Pos → Pos) (l : List AV) : List AV := List.rec (motive := fun _ => List AV) [] (fun a _ r => ren σ a :: r) l
noncomputable def renE (σ : Pos → Pos) (l : List (AV × AV × Nat)) : List (AV × AV × Nat) := List.rec (motive := fun _ => List (AV × AV × Nat)) [] (fun e _ r => (ren σ e.1, ren σ e.2.1, e.2.2) :: r) l
noncomputable def renO (σ : Pos → Pos) (o : AObj) : AObj := AObj.rec (motive := fun _ => AObj) (fun cs t fz => .cells (renL σ cs) t fz) (fun kt es c => .map kt (renE σ es) c) (fun m s n l => .iter m s n l) o
def noIt : AObj → Bool
  | .iter _ _ _ _ => false
  | _ => true
noncomputable def addO (σ : Pos → Pos) (l : List AObj) : H → H := List.rec (motive := fun _ => H → H) (fun h => h) (fun o _ ih h => ih (h.new (renO σ o))) l
structure Tmpl where
  args : List AV
  res : AV
  pos : List Pos
  objs : List AObj
noncomputable def Tmpl.sub (T : Tmpl) (d : Pos) : Pos → Pos := fun b => place T.pos b d d.succ
noncomputable def memoH (T : Tmpl) (xs : List AV) (h : H) : E := bi (sameL T.args xs) (.ok (ren (T.sub h.nx) T.res) (addO (T.sub h.nx) T.objs { t := h.t, nx := h.nx.succ })) .no

theorem ren_list (σ : Pos → Pos) : ∀ l : List AV, (AV.rec (motive_1 := fun _ => AV) (motive_2 := fun _ => List AV) .undef (fun b => .bool b) (fun k n => .int k n) (fun s => .str s) .nilp (fun b o => .ptr (σ b) o) .nils (fun b o n c s => .slice (σ b) o n c s) .nilm (fun b => .map (σ b)) .nilf
    (fun f n _ ih => .func f n ih) (fun t _ ih => .iface t ih) (fun _ ih => .agg ih) (fun _ ih => .tuple ih) [] (fun _ _ a l => a :: l) (.agg l) : AV) = .agg (renL σ l)
  | [] => rfl
  | a :: l => by
    have := ren_list σ l
    have h2 := AV.agg.inj this
    exact congrArg (fun r => AV.agg (ren σ a :: r)) h2
theorem ren_agg (σ : Pos → Pos) (l : List AV) : ren σ (.agg l) = .agg (renL σ l) := ren_list σ l
theorem ren_tuple (σ : Pos → Pos) (l : List AV) : ren σ (.tuple l) = .tuple (renL σ l) := by
  have h2 := AV.agg.inj (ren_list σ l)
  exact congrArg AV.tuple h2
theorem ren_func (σ : Pos → Pos) (f : FuncId) (n : Nat) (l : List AV) : ren σ (.func f n l) = .func f n (renL σ l) := by
  have h2 := AV.agg.inj (ren_list σ l)
  exact congrArg (AV.func f n) h2
theorem renL_len (σ : Pos → Pos) : ∀ l : List AV, (renL σ l).length = l.length
  | [] => rfl
  | a :: l => congrArg (· + 1) (renL_len σ l)
theorem ren_one (σ : Pos → Pos) (a : AV) : (ren σ a).one = a.one := by cases a <;> rfl
theorem renL_one {σ : Pos → Pos} : ∀ {l : List AV}, (∀ a ∈ l, a.one = true) → ∀ a ∈ renL σ l, a.one = true
  | [], _, a, h => by cases h
  | b :: l, hl, a, h => by
    rcases List.mem_cons.1 (show a ∈ ren σ b :: renL σ l from h) with rfl | h
    · rw [ren_one]; exact hl b List.mem_cons_self
    · exact renL_one (fun x hx => hl x (List.mem_cons_of_mem _ hx)) a h
/-- Numbers that stand for the same blocks. -/
structure Ren (c d : Cx) (σ : Pos → Pos) : Prop where
  nx : ∀ b, (σ b).num < d.nx
  lv : ∀ b, d.lv (σ b) → c.lv b ∧ d.ι (σ b) = c.ι b
  bs : d.bs = c.bs
mutual
theorem V.ren {c d : Cx} {σ : Pos → Pos} (h : Ren c d σ) : ∀ {a : AV} {v : Value}, V c a v → V d (Ev.ren σ a) v
  | _, _, .undef => .undef
  | _, _, .bool b => .bool b
  | _, _, .int k n => .int k n
  | _, _, .str s => .str s
  | _, _, .nilp => .nilp
  | _, _, .ptr b o x o' h1 h2 => .ptr (σ b) o x o' (h.nx b) fun hl => by
    obtain ⟨g1, g2⟩ := h.lv b hl
    obtain ⟨g3, g4⟩ := h2 g1
    exact ⟨g2.trans g3, g4⟩
  | _, _, .nils => .nils
  | _, _, .slice b o n cap sz x o' c' h1 h2 h3 h4 => .slice (σ b) o n cap sz x o' c' (h.nx b) h2 h3 fun hl => by
    obtain ⟨g1, g2⟩ := h.lv b hl
    obtain ⟨g3, g4, g5⟩ := h4 g1
    exact ⟨g2.trans g3, g4, by rw [h.bs]; exact g5⟩
  | _, _, .nilm => .nilm
  | _, _, .map b x h1 h2 => .map (σ b) x (h.nx b) fun hl => by
    obtain ⟨g1, g2⟩ := h.lv b hl
    exact g2.trans (h2 g1)
  | _, _, .nilf => .nilf
  | _, _, .func f n cs vs h1 h2 => by
    rw [ren_func]
    exact .func f n (renL σ cs) vs (h1.ren h) (by rw [renL_len]; exact h2)
  | _, _, .iface t a v h1 h2 => .iface t (Ev.ren σ a) v (h1.ren h) h2
  | _, _, .nili => .nili
  | _, _, .rng k lo hi n h1 h2 => .rng k lo hi n h1 h2
  | _, _, .any j v h1 h2 => .any j v h1 h2
  | _, _, .agg cs vs h1 h2 => by
    rw [ren_agg]
    exact .agg (renL σ cs) vs (h1.ren h) (renL_one h2)
  | _, _, .tuple cs vs h1 => by
    rw [ren_tuple]
    exact .tuple (renL σ cs) vs (h1.ren h)
theorem VL.ren {c d : Cx} {σ : Pos → Pos} (h : Ren c d σ) : ∀ {al : List AV} {vs : List Value}, VL c al vs → VL d (renL σ al) vs
  | _, _, .nil => .nil
  | _, _, .cons h1 h2 => .cons (h1.ren h) (h2.ren h)
end
theorem concS_ren {σ : Pos → Pos} {a : AV} {u : Value} (e : concS a = some u) : ren σ a = a := by
  cases a <;> simp only [concS, reduceCtorEq] at e <;> rfl
theorem concL_ren {σ : Pos → Pos} : ∀ {cs : List AV} {us : List Value}, concL cs = some us → renL σ cs = cs
  | [], us, e => rfl
  | a :: al, us, e => by
    simp only [concL] at e
    split at e
    · rename_i v r h3 h4
      show ren σ a :: renL σ al = _
      rw [concS_ren h3, concL_ren h4]
    · cases e
theorem conc_ren {σ : Pos → Pos} {a : AV} {u : Value} (e : conc a = some u) : ren σ a = a := by
  cases a with
  | agg cs =>
    simp only [conc] at e
    split at e
    · rename_i l hl
      rw [ren_agg, concL_ren hl]
    · cases e
  | bool b => rfl
  | int k n => rfl
  | str s => rfl
  | _ => cases e
theorem ML.ren {P : Program} {kt : TypeId} {c d : Cx} {σ : Pos → Pos} (h : Ren c d σ) : ∀ {es : List (AV × AV × Nat)} {fs : List MapEntry}, ML P kt c es fs → ML P kt d (renE σ es) fs
  | _, _, .nil => .nil
  | _, _, .cons (k := k) (v := v) (n := n) (es := es) h1 h2 ⟨u, h3⟩ h4 h5 h6 h7 => by
    show ML P kt d ((Ev.ren σ k, Ev.ren σ v, n) :: renE σ es) _
    exact .cons (h1.ren h) h2 ⟨u, by rw [conc_ren h3]; exact h3⟩ (h4.ren h) h5 h6 (h7.ren h)
theorem ObjR.ren {P : Program} {c d : Cx} {σ : Pos → Pos} {w : World} {x : Nat} {o : AObj} (h : Ren c d σ) (hn : noIt o = true) (ho : ObjR P c w x o) : ObjR P d w x (renO σ o) := by
  cases o with
  | cells cs t fz =>
    obtain ⟨c', lo, hi, h1, h2, h3, h4, h5⟩ := ho
    exact ⟨c', lo, hi, h1, by rw [renL_len]; exact h2, by rw [renL_len]; exact h3.ren h, renL_one h4, h5⟩
  | map kt es k =>
    obtain ⟨es', h1, h2⟩ := ho
    exact ⟨es', h1, h2.ren h⟩
  | iter m s n l => cases hn
/-! What is there behind it. -/
theorem addO_nx (σ : Pos → Pos) : ∀ (l : List AObj) (h : H), (addO σ l h).nx.num = h.nx.num + l.length
  | [], h => rfl
  | o :: l, h => by
    show (addO σ l (h.new (renO σ o))).nx.num = _
    rw [addO_nx σ l, nx_new]
    simp; omega
theorem addO_old (σ : Pos → Pos) : ∀ (l : List AObj) (h : H) (p : Pos), p.num < h.nx.num → (addO σ l h).obj p = h.obj p
  | [], h, p, hp => rfl
  | o :: l, h, p, hp => by
    show (addO σ l (h.new (renO σ o))).obj p = _
    rw [addO_old σ l _ p (by rw [nx_new]; omega), obj_new_ne h _ (fun e => by rw [e] at hp; omega)]
theorem addO_new (σ : Pos → Pos) : ∀ (l : List AObj) (h : H) (p : Pos), (∀ q o, h.obj q = some o → q.num < h.nx.num) → h.nx.num ≤ p.num → (addO σ l h).obj p = (l[p.num - h.nx.num]?).map (renO σ)
  | [], h, p, hf, hp => by
    show h.obj p = _
    cases ho : h.obj p with
    | none => rfl
    | some o => have := hf p o ho; omega
  | o :: l, h, p, hf, hp => by
    show (addO σ l (h.new (renO σ o))).obj p = _
    by_cases e : p.num = h.nx.num
    · have e2 : p = h.nx := Pos.num_inj e
      subst e2
      rw [addO_old σ l _ _ (by rw [nx_new]; omega), obj_new_same, Nat.sub_self]
      rfl
    · rw [addO_new σ l _ p (fun q o' hq => by
        rw [nx_new]
        by_cases e3 : q = h.nx
        · subst e3; omega
        · rw [obj_new_ne h _ e3] at hq; have := hf q o' hq; omega) (by rw [nx_new]; omega), nx_new]
      rw [show p.num - h.nx.num = (p.num - (h.nx.num + 1)) + 1 by omega]
      rfl
theorem place_spec (b dead : Pos) : ∀ (P : List Pos) (q : Pos), place P b dead q = dead ∧ b ∉ P ∨ ∃ i, P[i]? = some b ∧ (place P b dead q).num = q.num + i
  | [], q => .inl ⟨rfl, by simp⟩
  | p :: P, q => by
    show bi (p.beq b) q (place P b dead q.succ) = dead ∧ _ ∨ ∃ i, _ ∧ (bi (p.beq b) q (place P b dead q.succ)).num = _
    cases h : p.beq b with
    | true =>
      right
      have := (Pos.beq_eq p b).1 h
      subst this
      exact ⟨0, rfl, rfl⟩
    | false =>
      have hne : p ≠ b := fun e => by rw [(Pos.beq_eq p b).2 e] at h; cases h
      rcases place_spec b dead P q.succ with ⟨h1, h2⟩ | ⟨i, h1, h2⟩
      · exact .inl ⟨h1, by simp [h2, Ne.symm hne]⟩
      · right
        refine ⟨i + 1, by simpa using h1, ?_⟩
        show (place P b dead q.succ).num = _
        rw [h2, Pos.num_succ]
        omega
end Ev
end Go.Proofs.YtfpghnldcbhniaaGreat
namespace Go.Proofs.YtfpghnldcbhniaaGreat
set_option linter.unusedVariables false
set_option linter.unusedSimpArgs false
open Go.RowKit Go.Maps
namespace Ev
/-- What a template must be. -/
structure Good (p : List AV → H → Ev.E) (T : Tmpl) : Prop where
  args : (concs T.args).isSome = true
  len : T.pos.length = T.objs.length
  nodup : T.pos.Nodup
  noit : ∀ o ∈ T.objs, noIt o = true
  run : ∃ h0, p T.args H0 = .ok T.res h0 ∧ ∀ (i : Nat) (q : Pos) (o : AObj), T.pos[i]? = some q → T.objs[i]? = some o → h0.obj q = some o
def newι (ι ι0 : Pos → Option Nat) (P : List Pos) (n : Nat) (p : Pos) : Option Nat :=
  if p.num < n then ι p else if p.num = n then none else
    match P[p.num - (n + 1)]? with
    | some q => ι0 q
    | none => none
theorem memoH_ok {P : Program} {f : FuncId} {p : List AV → H → E} (hp : OneOk P f p) (T : Tmpl) (g : Good p T) : OneOk P f (memoH T) := by
  intro B W ι h w xs vs r h' rel hv e
  obtain ⟨hs, e1⟩ := biE (show bi (sameL T.args xs) _ E.no = _ from e)
  have := sameL_eq _ _ hs
  subst this
  obtain ⟨e2, e3⟩ := okE e1
  clear e e1 hs
  obtain ⟨us, hus⟩ := Option.isSome_iff_exists.1 g.args
  obtain ⟨h0, hrun, hobj⟩ := g.run
  have hv0 : ∀ c : Cx, VL c T.args vs := fun c => by rw [concs_V hv hus]; exact concs_mk hus
  obtain ⟨q1, q2⟩ := hp w.heap.size w (fun _ => none) H0 w T.args vs T.res h0 (rel_start P w) (hv0 _) hrun
  refine ⟨q1, q2.mono ?_⟩
  rintro e w' ⟨u, ι0, h3, h4, _, h6⟩
  have hgrow : Below w.heap.size w w' := h4.out
  obtain ⟨σ, hσ⟩ : ∃ σ, σ = T.sub h.nx := ⟨_, rfl⟩
  rw [← hσ] at e2 e3
  have hbf : ∀ q o, ({ t := h.t, nx := h.nx.succ } : H).obj q = some o → q.num < ({ t := h.t, nx := h.nx.succ } : H).nx.num := fun q o hq => by
    have := rel.fresh q o hq
    show q.num < h.nx.succ.num
    rw [Pos.num_succ]
    omega
  have hnx : ({ t := h.t, nx := h.nx.succ } : H).nx.num = h.nx.num + 1 := Pos.num_succ h.nx
  have hnx' : h'.nx.num = h.nx.num + 1 + T.objs.length := by rw [← e3, addO_nx, hnx]
  have F1 : ∀ b : Pos, b.num < h.nx.num → h'.obj b = h.obj b := fun b hb => by rw [← e3, addO_old σ _ _ _ (by rw [hnx]; omega)]; rfl
  have F2 : ∀ b : Pos, b.num = h.nx.num → h'.obj b = none := fun b hb => by
    rw [← e3, addO_old σ _ _ _ (by rw [hnx]; omega)]
    cases ho : h.obj b with
    | none => exact ho
    | some o => have := rel.fresh b o ho; omega
  have F3 : ∀ b : Pos, h.nx.num < b.num → h'.obj b = (T.objs[b.num - (h.nx.num + 1)]?).map (renO σ) := fun b hb => by rw [← e3, addO_new σ _ _ _ hbf (by rw [hnx]; omega), hnx]
  obtain ⟨ι', hι⟩ : ∃ ι', ι' = newι ι ι0 T.pos h.nx.num := ⟨_, rfl⟩
  have I1 : ∀ b : Pos, b.num < h.nx.num → ι' b = ι b := fun b hb => by rw [hι]; unfold newι; rw [if_pos hb]
  have I3 : ∀ (b : Pos) (q : Pos), h.nx.num < b.num → T.pos[b.num - (h.nx.num + 1)]? = some q → ι' b = ι0 q := fun b q hb hq => by rw [hι]; unfold newι; rw [if_neg (by omega), if_neg (by omega), hq]
  -- what lives there
  have new : ∀ (b : Pos) (o' : AObj), ¬ b.num < h.nx.num → h'.obj b = some o' → ∃ q o, h.nx.num < b.num ∧ b.num < h'.nx.num ∧ T.pos[b.num - (h.nx.num + 1)]? = some q ∧ h0.obj q = some o ∧ o' = renO σ o ∧ noIt o = true ∧ ι' b = ι0 q := fun b o' hb ho => by
    by_cases he : b.num = h.nx.num
    · rw [F2 b he] at ho; cases ho
    · have hlt : h.nx.num < b.num := by omega
      rw [F3 b hlt] at ho
      obtain ⟨o, g1, g2⟩ := Option.map_eq_some_iff.1 ho
      have hi : b.num - (h.nx.num + 1) < T.objs.length := (List.getElem?_eq_some_iff.1 g1).1
      have hq : T.pos[b.num - (h.nx.num + 1)]? = some (T.pos[b.num - (h.nx.num + 1)]'(by rw [g.len]; exact hi)) := List.getElem?_eq_getElem _
      exact ⟨_, o, hlt, by omega, hq, hobj _ _ _ hq g1, g2.symm, g.noit o (List.mem_of_getElem? g1), I3 b _ hlt hq⟩
  have hren : Ren (cx ι0 h0 w') (cx ι' h' w') σ := by
    refine ⟨fun b => ?_, fun b hl => ?_, rfl⟩
    · show (σ b).num < h'.nx.num
      rcases place_spec b h.nx T.pos h.nx.succ with ⟨g1, _⟩ | ⟨i, g1, g2⟩
      · have : σ b = h.nx := by rw [hσ]; exact g1
        rw [this]; omega
      · have : (σ b).num = h.nx.succ.num + i := by rw [hσ]; exact g2
        rw [this, Pos.num_succ]
        have hi := (List.getElem?_eq_some_iff.1 g1).1
        rw [g.len] at hi
        omega
    · obtain ⟨o', ho⟩ := hl
      rcases place_spec b h.nx T.pos h.nx.succ with ⟨g1, _⟩ | ⟨i, g1, g2⟩
      · have : σ b = h.nx := by rw [hσ]; exact g1
        rw [this, F2 _ rfl] at ho
        cases ho
      · have hn : (σ b).num = h.nx.num + 1 + i := by rw [hσ, ← Pos.num_succ]; exact g2
        obtain ⟨q, o, k1, k2, k3, k4, k5, k6, k7⟩ := new (σ b) o' (by omega) ho
        rw [show (σ b).num - (h.nx.num + 1) = i by omega, g1] at k3
        cases k3
        exact ⟨⟨o, k4⟩, k7⟩
  have hold : ∀ y, y < w.heap.size → w'.heap[y]? = w.heap[y]? := fun y hy => hgrow.block y hy
  have hbs : ∀ y, y < w.heap.size → bsz w' y = bsz w y := fun y hy => by unfold bsz; rw [hold y hy]
  have ext : Ext ι h w ι' h' w' := by
    refine ⟨by omega, fun b o' hb ho => ?_, fun b o' x hn ho hx => ?_, hgrow.size, hbs, fun y hy _ => hold y hy, hgrow.os, hgrow.tape, hgrow.output⟩
    · rw [F1 b hb] at ho
      exact ⟨⟨o', ho⟩, I1 b hb⟩
    · obtain ⟨q, o, k1, k2, k3, k4, k5, k6, k7⟩ := new b o' hn ho
      rw [k7] at hx
      exact .inl (h4.base q o x k4 hx)
  have hle := ext.le rel
  refine ⟨u, ι', h3, ⟨fun b o' ho => ?_, fun b o' y ho hy => ?_, fun b b' o1 o2 y ho ho' hy hy' => ?_, fun b o' y ho hy => ?_, rel.low, ext.out rel⟩, ext, ?_⟩
  · by_cases hb : b.num < h.nx.num
    · omega
    · obtain ⟨q, o, k1, k2, _⟩ := new b o' hb ho
      exact k2
  · by_cases hb : b.num < h.nx.num
    · rw [F1 b hb] at ho
      rw [I1 b hb] at hy
      have h1 := rel.ob b o' y ho hy
      exact ObjR.mono hle (hold y h1.lt) h1
    · obtain ⟨q, o, k1, k2, k3, k4, k5, k6, k7⟩ := new b o' hb ho
      rw [k7] at hy
      rw [k5]
      exact (h4.ob q o y k4 hy).ren hren k6
  · by_cases hb : b.num < h.nx.num
    · rw [F1 b hb] at ho
      rw [I1 b hb] at hy
      by_cases hb' : b'.num < h.nx.num
      · rw [F1 b' hb'] at ho'
        rw [I1 b' hb'] at hy'
        exact rel.inj b b' o1 o2 y ho ho' hy hy'
      · obtain ⟨q, o, k1, k2, k3, k4, k5, k6, k7⟩ := new b' o2 hb' ho'
        rw [k7] at hy'
        have h1 := h4.base q o y k4 hy'
        have h2 := (rel.ob b o1 y ho hy).lt
        omega
    · obtain ⟨q, o, k1, k2, k3, k4, k5, k6, k7⟩ := new b o1 hb ho
      rw [k7] at hy
      by_cases hb' : b'.num < h.nx.num
      · rw [F1 b' hb'] at ho'
        rw [I1 b' hb'] at hy'
        have h1 := h4.base q o y k4 hy
        have h2 := (rel.ob b' o2 y ho' hy').lt
        omega
      · obtain ⟨q', o', j1, j2, j3, j4, j5, j6, j7⟩ := new b' o2 hb' ho'
        rw [j7] at hy'
        have hqq := h4.inj q q' o o' y k4 j4 hy hy'
        subst hqq
        obtain ⟨i1, i2⟩ := List.getElem?_eq_some_iff.1 k3
        obtain ⟨i3, i4⟩ := List.getElem?_eq_some_iff.1 j3
        have := (List.getElem_inj (h₀ := i1) (h₁ := i3) g.nodup).1 (i2.trans i4.symm)
        exact Pos.num_inj (by omega)
  · by_cases hb : b.num < h.nx.num
    · rw [F1 b hb] at ho
      rw [I1 b hb] at hy
      exact rel.base b o' y ho hy
    · obtain ⟨q, o, k1, k2, k3, k4, k5, k6, k7⟩ := new b o' hb ho
      rw [k7] at hy
      have h1 := h4.base q o y k4 hy
      have h2 := rel.low
      have h3 := rel.out.size
      omega
  · rw [← e2]
    exact h6.ren hren
end Ev
end Go.Proofs.YtfpghnldcbhniaaGreat
namespace Go.Proofs.YtfpghnldcbhniaaGreat
set_option linter.unusedVariables false
set_option linter.unusedSimpArgs false
open Go.RowKit Go.Maps
namespace Ev
noncomputable def sameE (l : List (AV × AV × Nat)) : List (AV × AV × Nat) → Bool :=
  List.rec (motive := fun _ => List (AV × AV × Nat) → Bool) (fun m => List.rec (motive := fun _ => Bool) true (fun _ _ _ => false) m)
    (fun x _ ih m => List.rec (motive := fun _ => Bool) false (fun y m _ => and' (sameAV x.1 y.1) (and' (sameAV x.2.1 y.2.1) (and' (Nat.beq x.2.2 y.2.2) (ih m)))) m) l
noncomputable def sameM (x y : AObj) : Bool :=
  AObj.rec (motive := fun _ => Bool) (fun cs t fz => y.cells? false fun ds u gz => and' (sameL cs ds) (and' (Nat.beq t u) (Nat.beq fz gz)))
    (fun kt es c => y.map? false fun lt fs d => and' (Nat.beq kt lt) (and' (sameE es fs) (Nat.beq c d))) (fun _ _ _ _ => false) x
theorem sameE_eq : ∀ (l m : List (AV × AV × Nat)), sameE l m = true → l = m
  | [], [], _ => rfl
  | [], _ :: _, e => by cases e
  | _ :: _, [], e => by cases e
  | ⟨a, b, n⟩ :: l, ⟨a', b', n'⟩ :: m, e => by
    obtain ⟨h1, e1⟩ := and'_eq (show and' (sameAV a a') (and' (sameAV b b') (and' (Nat.beq n n') (sameE l m))) = true from e)
    obtain ⟨h2, e2⟩ := and'_eq e1
    obtain ⟨h3, e3⟩ := and'_eq e2
    rw [sameAV_eq _ _ h1, sameAV_eq _ _ h2, Nat.eq_of_beq_eq_true h3, sameE_eq l m e3]
theorem sameM_eq {x y : AObj} (e : sameM x y = true) : x = y := by
  cases x with
  | cells cs t fz =>
    cases y with
    | cells ds u gz =>
      obtain ⟨h1, e1⟩ := and'_eq (show and' (sameL cs ds) (and' (Nat.beq t u) (Nat.beq fz gz)) = true from e)
      obtain ⟨h2, h3⟩ := and'_eq e1
      rw [sameL_eq _ _ h1, Nat.eq_of_beq_eq_true h2, Nat.eq_of_beq_eq_true h3]
    | map => cases e
    | iter => cases e
  | map kt es c =>
    cases y with
    | cells => cases e
    | map lt fs d =>
      obtain ⟨h1, e1⟩ := and'_eq (show and' (Nat.beq kt lt) (and' (sameE es fs) (Nat.beq c d)) = true from e)
      obtain ⟨h2, h3⟩ := and'_eq e1
      rw [Nat.eq_of_beq_eq_true h1, sameE_eq _ _ h2, Nat.eq_of_beq_eq_true h3]
    | iter => cases e
  | iter => cases e
noncomputable def objsOk (h : H) (P : List Pos) : List AObj → Bool :=
  List.rec (motive := fun _ => List AObj → Bool) (fun l => List.rec (motive := fun _ => Bool) true (fun _ _ _ => false) l)
    (fun p _ ih l => List.rec (motive := fun _ => Bool) false (fun o l _ => and' (ob (h.obj p) false fun o' => sameM o o') (ih l)) l) P
noncomputable def chkT (e : E) (T : Tmpl) : Bool := E.rec (motive := fun _ => Bool) false (fun v h => and' (sameAV T.res v) (objsOk h T.pos T.objs)) e
theorem objsOk_spec {h : H} : ∀ (P : List Pos) (l : List AObj), objsOk h P l = true → P.length = l.length ∧ ∀ (i : Nat) (q : Pos) (o : AObj), P[i]? = some q → l[i]? = some o → h.obj q = some o
  | [], [], _ => ⟨rfl, fun i q o hq => by simp at hq⟩
  | [], _ :: _, e => by cases e
  | _ :: _, [], e => by cases e
  | p :: P, o :: l, e => by
    obtain ⟨h1, e1⟩ := and'_eq (show and' (ob (h.obj p) false fun o' => sameM o o') (objsOk h P l) = true from e)
    obtain ⟨g1, g2⟩ := objsOk_spec P l e1
    obtain ⟨o', h2, h3⟩ := ob_some (by simp) h1
    refine ⟨by simp [g1], fun i q o2 hq ho => ?_⟩
    cases i with
    | zero =>
      simp only [List.getElem?_cons_zero, Option.some.injEq] at hq ho
      subst hq ho
      rw [h2, sameM_eq h3]
    | succ i => exact g2 i q o2 (by simpa using hq) (by simpa using ho)
def notIn (p : Pos) : List Pos → Bool
  | [] => true
  | q :: l => !p.beq q && notIn p l
def nodupB : List Pos → Bool
  | [] => true
  | p :: l => notIn p l && nodupB l
theorem notIn_spec {p : Pos} : ∀ {l : List Pos}, notIn p l = true → p ∉ l
  | [], _ => by simp
  | q :: l, h => by
    simp only [notIn, Bool.and_eq_true, Bool.not_eq_true'] at h
    intro hm
    rcases List.mem_cons.1 hm with rfl | hm
    · rw [(Pos.beq_eq p p).2 rfl] at h; cases h.1
    · exact notIn_spec h.2 hm
theorem nodupB_spec : ∀ {l : List Pos}, nodupB l = true → l.Nodup
  | [], _ => List.nodup_nil
  | p :: l, h => by
    simp only [nodupB, Bool.and_eq_true] at h
    exact List.nodup_cons.2 ⟨notIn_spec h.1, nodupB_spec h.2⟩
theorem good_of {p : List AV → H → E} {T : Tmpl} (h1 : (concs T.args).isSome = true) (h2 : nodupB T.pos = true) (h3 : T.objs.all noIt = true) (h4 : chkT (p T.args H0) T = true) : Good p T := by
  cases he : p T.args H0 with
  | no => rw [he] at h4; cases h4
  | ok v h0 =>
    rw [he] at h4
    obtain ⟨g1, g2⟩ := and'_eq (show and' (sameAV T.res v) (objsOk h0 T.pos T.objs) = true from h4)
    obtain ⟨g3, g4⟩ := objsOk_spec _ _ g2
    have := sameAV_eq _ _ g1
    exact ⟨h1, g3, nodupB_spec h2, List.all_eq_true.1 h3, h0, by rw [this]; exact he, g4⟩
end Ev
end Go.Proofs.YtfpghnldcbhniaaGreat
