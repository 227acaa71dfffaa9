/- Regions that draw their order: stage by stage. -/
import Derived.Test.YtfpghnldcbhniaaGreatEvW2
namespace Go.Proofs.YtfpghnldcbhniaaGreat
set_option linter.unusedVariables false
set_option linter.unusedSimpArgs false
open Go.RowKit Go.Maps
namespace Ev

section
variable {P : Program} {B : Nat} {W : World} {ι ι0 : Pos → Option Nat} {h h0 h1 : H} {w w0 : World} {fr fr1 : Fr} {a : Act} {nt : Nat} {ops : Array Oper} {M : List Nat} {D : Array Bool} {itF : Nat → Option It} {s : St} {ss : List St} {o : Oper} {r : AV} {kk : K}
variable {inf : TypeId → Option TypeInfo} {und : TypeId → Option TypeDesc} {kf : TypeId → AV → Bool} {ext : FuncId → Option (List Opd → XOp)}

theorem wGo_Q {g : Option (Pos × Bool)} {x y : Q} {fr' : Fr} {h' : H} (e : wGo g fr x y = .ok fr' h') : x = .ok fr' h' ∨ y = .ok fr' h' := by
  cases g with
  | none => exact .inr e
  | some p =>
    have e : (Fr.get fr p.1).bool? x (fun c => bi (bi p.2 c (bi c false true)) y x) = .ok fr' h' := e
    generalize Fr.get fr p.1 = z at e
    cases z
    case bool c =>
      have e : bi (bi p.2 c (bi c false true)) y x = .ok fr' h' := e
      cases hb : bi p.2 c (bi c false true) with
      | true => rw [hb] at e; exact .inr e
      | false => rw [hb] at e; exact .inl e
    all_goals exact .inl e
theorem eval_ok {x : It} {fr' : Fr} {h' : H} (e : x.eval fr h = .ok fr' h') : (∃ v, fr' = setD fr x.d v) ∧ (h' = h ∨ ∃ o, h' = h.new o) := by
  rcases wGo_Q (show wGo x.g fr _ _ = _ from e) with e | e
  · cases e
    exact ⟨⟨_, rfl⟩, .inl rfl⟩
  · cases hn : x.nw with
    | false =>
      rw [hn] at e
      obtain ⟨v, h2, e1, e2⟩ := eqQ (show eq' (x.f fr h) _ = _ from e)
      rw [force_eq] at e2
      cases e2
      exact ⟨⟨_, rfl⟩, .inl rfl⟩
    | true =>
      rw [hn] at e
      obtain ⟨v, h2, e1, e2⟩ := eqQ (show eq' (x.f fr { t := .e, nx := h.nx }) _ = _ from e)
      obtain ⟨o, e3, e4⟩ := ob_some (by simp) e2
      cases e4
      exact ⟨⟨_, rfl⟩, .inr ⟨o, rfl⟩⟩
theorem seg_ok : ∀ (l : List It) {fr : Fr} {h : H}, runSeg l fr h = .ok fr1 h1 → Rel P B W ι h w → (∀ b, h.obj b = none → ι b = none) →
    Rel P B W ι h1 w ∧ Ext ι h w ι h1 w ∧ (∀ b, b.num < h.nx.num → h1.obj b = h.obj b) ∧ ∀ p, (∀ x ∈ l, x.d ≠ some p) → Fr.get fr1 p = Fr.get fr p
  | [], fr, h, e, rel, hι => by
    cases e
    exact ⟨rel, Ext.refl _ _ _, fun _ _ => rfl, fun _ _ => rfl⟩
  | x :: l, fr, h, e, rel, hι => by
    obtain ⟨fr', h', e1, e2⟩ := qrQ (show qr (x.eval fr h) (runSeg l) = _ from e)
    obtain ⟨⟨v, hv⟩, hh⟩ := eval_ok e1
    have step : Rel P B W ι h' w ∧ Ext ι h w ι h' w ∧ (∀ b, b.num < h.nx.num → h'.obj b = h.obj b) ∧ ∀ b, h'.obj b = none → ι b = none := by
      rcases hh with rfl | ⟨o, rfl⟩
      · exact ⟨rel, Ext.refl _ _ _, fun _ _ => rfl, hι⟩
      · have hnx : ι h.nx = none := hι _ (by
          cases hb : h.obj h.nx with
          | none => rfl
          | some o' => have := rel.fresh _ _ hb; omega)
        obtain ⟨k1, k2⟩ := rel.pend hnx o
        refine ⟨k1, k2, fun b hb => obj_new_ne h o (fun e => by rw [e] at hb; omega), fun b hb => ?_⟩
        by_cases e : b = h.nx
        · rw [e]; exact hnx
        · rw [obj_new_ne h o e] at hb; exact hι b hb
    obtain ⟨k1, k2, k3, k4⟩ := step
    obtain ⟨g1, g2, g3, g4⟩ := seg_ok l e2 k1 k4
    refine ⟨g1, Ext.trans rel k2 g2, fun b hb => (g3 b (Nat.lt_of_lt_of_le hb k2.nx)).trans (k3 b hb), fun p hp => ?_⟩
    rw [g4 p fun y hy => hp y (List.mem_cons_of_mem _ hy), hv]
    have hd := hp x List.mem_cons_self
    cases hxd : x.d with
    | none => rfl
    | some q =>
      rw [hxd] at hd
      exact get_set_ne' fr v fun e => hd (by rw [e])
theorem allNew_mem {hs : H} : ∀ {l : List It} {x : It}, allNew l hs fr = true → x ∈ l → ∀ b, x.blk fr = some b → hs.obj b = none
  | y :: l, x, e, hx, b, hb => by
    have e : ob (y.blk fr) (allNew l hs fr) (fun b => ob (hs.obj b) (allNew l hs fr) fun _ => false) = true := e
    rcases List.mem_cons.1 hx with ex | hx2
    · subst ex
      rw [hb] at e
      cases ho : hs.obj b with
      | none => rfl
      | some o' => have e : ob (hs.obj b) (allNew l hs fr) (fun _ => false) = true := e; rw [ho] at e; cases e
    · refine allNew_mem ?_ hx2 b hb
      cases hy : y.blk fr with
      | none => rw [hy] at e; exact e
      | some c =>
        rw [hy] at e
        have e : ob (hs.obj c) (allNew l hs fr) (fun _ => false) = true := e
        cases ho : hs.obj c with
        | none => rw [ho] at e; exact e
        | some o' => rw [ho] at e; cases e
/-- A block that is to be made lives in the reckoned memory. -/
theorem chk_live {x : It} {b : Pos} (hc : x.chk fr h = true) (hb : x.blk fr = some b) : ∃ o, h.obj b = some o := by
  obtain ⟨hn, p, hd, hbo⟩ := blk_some hb
  have hskip : sameD x.d fr .undef = true → ∃ o, h.obj b = some o := fun e => by
    exfalso
    rw [hd] at e
    have := (sameAV_eq _ _ (show sameAV .undef (Fr.get fr p) = true from e))
    exact blockOf_new hbo this.symm
  have hrun : bi x.nw (chkM x.f x.d fr h) (chkP x.f x.d fr h) = true → ∃ o, h.obj b = some o := fun e => by
    rw [hn] at e
    obtain ⟨p', b', v, h', o, g1, g2, _, _, _, g6⟩ := chkM_ok (show chkM x.f x.d fr h = true from e)
    rw [hd] at g1
    cases g1
    rw [hbo] at g2
    cases g2
    exact ⟨o, g6⟩
  unfold It.chk at hc
  cases hg : x.g with
  | none => rw [hg] at hc; exact hrun hc
  | some pb =>
    rw [hg] at hc
    have hc : (Fr.get fr pb.1).bool? (sameD x.d fr .undef) (fun c => bi (bi pb.2 c (bi c false true)) (bi x.nw (chkM x.f x.d fr h) (chkP x.f x.d fr h)) (sameD x.d fr .undef)) = true := hc
    generalize Fr.get fr pb.1 = z at hc
    cases z
    case bool c =>
      have hc : bi (bi pb.2 c (bi c false true)) (bi x.nw (chkM x.f x.d fr h) (chkP x.f x.d fr h)) (sameD x.d fr .undef) = true := hc
      cases htb : bi pb.2 c (bi c false true) with
      | true => rw [htb] at hc; exact hrun hc
      | false => rw [htb] at hc; exact hskip hc
    all_goals exact hskip hc

theorem okSt_opn : ∀ (ss : List St) (s : St), okSt M s ss = true → ∀ i ∈ s.opn, i ∉ restOf s.eff ss
  | [], s, e, i, hi => by
    unfold okSt at e
    cases he : s.eff with
    | none => simp [restOf]
    | some e' => rw [he] at e; cases e
  | s' :: ss, s, e, i, hi => by
    unfold okSt at e
    cases he : s.eff with
    | none => rw [he] at e; cases e
    | some e' =>
      rw [he] at e
      simp only [Bool.and_eq_true, List.all_eq_true] at e
      have := (e.1.1.1.2 i hi).1
      intro hc
      rw [hasN_iff.2 hc] at this
      cases this
/-- The step from one stage to the next, told of lists. -/
theorem okSt_cons {s' : St} (e : okSt M s (s' :: ss) = true) : ∃ e', s.eff = some e' ∧ (∀ i ∈ restOf s.eff (s' :: ss), i = e' ∨ bitAt (nthN M i) e' = true) ∧ (∀ i ∈ s.opn, bitAt (nthN M e') i = true ∨ i ∈ s'.opn) ∧
    (∀ i ∈ s'.seg, i ∈ s'.opn) ∧ e' ∉ s'.seg ++ restOf s'.eff ss ∧ okSt M s' ss = true ∧ restOf s.eff (s' :: ss) = e' :: (s'.seg ++ restOf s'.eff ss) := by
  unfold okSt at e
  cases he : s.eff with
  | none => rw [he] at e; cases e
  | some e' =>
    rw [he] at e
    simp only [Bool.and_eq_true, List.all_eq_true, Bool.or_eq_true, Bool.not_eq_true'] at e
    refine ⟨e', rfl, fun i hi => (e.1.1.1.1 i hi).imp (fun h => Nat.eq_of_beq_eq_true h) id, fun i hi => ((e.1.1.1.2 i hi).2).imp id hasN_iff.1, fun i hi => hasN_iff.1 (e.1.1.2 i hi), fun hc => ?_, e.2, rfl⟩
    have := e.1.2
    rw [hasN_iff.2 hc] at this
    cases this

/-- From a stage, by its effect, to the next one. -/
theorem Inv.next {s' : St} (hm : masksOk M ops.size 0 ops.toList = true) (hdw : distinctW (wrts 0 ops.toList) = true) (hn : nt + nt ≤ 1000000) (hF : itF = cIt inf und kf ext nt ops (wrts 0 ops.toList) (lates 0 ops.toList) M) (inv : Inv P B W nt ops itF ι0 h0 w0 s (s' :: ss) D ι fr h a w) (r0 : Rel P B W ι0 h0 w0)
    (hok : okSt M s (s' :: ss) = true) {e : Nat} (he : s.eff = some e) {oe : Oper} (hoe : ops[e]? = some oe) (hd : ∀ d ∈ depsOf oe, lst D d) {d : Option Pos} (hdst : DstL nt (lates 0 ops.toList) oe.dst d) {os' : List It} (hos : ∀ i ∈ s.opn, ∃ x, itF i = some x ∧ x.chk fr h = true)
    {h' : H} {ι' : Pos → Option Nat} {w' : World} {u : Value} (rel' : Rel P B W ι' h' w') (x' : Ext ι h w ι' h' w') (hv : V (cx ι' h' w') r u)
    {sg op : List It} (hsg : cIts inf und kf ext nt ops (wrts 0 ops.toList) (lates 0 ops.toList) M s'.seg = some sg) (hop : cIts inf und kf ext nt ops (wrts 0 ops.toList) (lates 0 ops.toList) M s'.opn = some op) {fr1 : Fr} {h1 : H} (hrun : runSeg sg (setD fr d r) h' = .ok fr1 h1)
    (hall : allChk op fr1 h1 = true) (hnew : allNew sg h' fr1 = true) :
    Inv P B W nt ops itF ι0 h0 w0 s' ss (D.setIfInBounds e true) (cut ι' h') fr1 h1 (a.put oe.dst u) w' := by
  obtain ⟨e', he', q1, q2, q3, q4, q5, q6⟩ := okSt_cons hok
  rw [he] at he'
  cases he'
  have hin : e < D.size := by rw [inv.dsize]; exact (Array.getElem?_eq_some_iff.1 hoe).1
  obtain ⟨c1, c2⟩ := rel'.cut
  obtain ⟨g1, g2, g3, g4⟩ := seg_ok sg hrun c1 (fun b hb => cut_dead ι' hb)
  have extAll : Ext ι h w (cut ι' h') h1 w' := Ext.trans inv.rel x' (Ext.trans rel' c2 g2)
  have nl : ∀ {j}, ¬ lst (D.setIfInBounds e true) j → ¬ lst D j ∧ j ≠ e := fun {j} hn => by
    rw [lst_set hin] at hn
    exact ⟨fun h => hn (.inl h), fun h => hn (.inr h)⟩
  have segRest : ∀ j ∈ s'.seg, ¬ lst (D.setIfInBounds e true) j := fun j hj hl => by
    rw [lst_set hin] at hl
    rcases hl with hl | rfl
    · exact inv.rest j (by rw [q6]; exact List.mem_cons_of_mem _ (List.mem_append_left _ hj)) hl
    · exact q4 (List.mem_append_left _ hj)
  -- places that the stage does not write
  have keepP : ∀ q, (∀ t', t' < nt → (∃ j ∈ s'.seg, ∃ oj, ops[j]? = some oj ∧ oj.dst = some t') → slL nt (lates 0 ops.toList) t' ≠ q) → Fr.get fr1 q = Fr.get (setD fr d r) q := fun q hno => by
    refine g4 q fun x hx hxd => ?_
    obtain ⟨j, hj, hjx⟩ := (cIts_mem hsg).2 x hx
    obtain ⟨oj, _, hoj, hdj, _⟩ := cIt_ok hjx
    rcases hdj with ⟨_, e2⟩ | ⟨t', e1, ht', e2⟩
    · rw [hxd] at e2; cases e2
    · rw [hxd] at e2
      exact hno t' ht' ⟨j, hj, oj, hoj, e1⟩ (Option.some.inj e2).symm
  have setKeepP : ∀ q, (∀ t', t' < nt → oe.dst = some t' → slL nt (lates 0 ops.toList) t' ≠ q) → Fr.get (setD fr d r) q = Fr.get fr q := fun q hno => by
    rcases hdst with ⟨_, rfl⟩ | ⟨t', e1, ht', rfl⟩
    · rfl
    · exact get_set_ne' fr r fun e => hno t' ht' e1 e
  have keep : ∀ t, t < nt → (∀ j ∈ s'.seg, ∀ oj, ops[j]? = some oj → oj.dst ≠ some t) → Fr.get fr1 (slL nt (lates 0 ops.toList) t) = Fr.get (setD fr d r) (slL nt (lates 0 ops.toList) t) := fun t ht hno => by
    refine keepP _ fun t' ht' ⟨j, hj, oj, hoj, e1⟩ e => ?_
    have := slL_inj hn ht' ht e
    subst this
    exact hno j hj oj hoj e1
  have setKeep : ∀ t, t < nt → oe.dst ≠ some t → Fr.get (setD fr d r) (slL nt (lates 0 ops.toList) t) = Fr.get fr (slL nt (lates 0 ops.toList) t) := fun t ht hno => by
    refine setKeepP _ fun t' ht' e1 e => ?_
    have := slL_inj hn ht' ht e
    subst this
    exact hno e1
  refine ⟨by simp [inv.dsize], ?_, ?_, g1, Ext.trans r0 inv.ext extAll, fun j oj hj hl dd hdj => ?_, fun j hj hnl => ?_, fun j hj hl => ?_, fun t ht hw => ?_, fun t ht hl hw => ?_, fun j hj hnl x hx b hb => ?_⟩
  · cases ho : oe.dst with
    | none => exact inv.size
    | some d => simp [Act.put, inv.size]
  · cases ho : oe.dst with
    | none => exact inv.defers
    | some d => exact inv.defers
  · rw [lst_set hin] at hl ⊢
    rcases hl with hl | rfl
    · exact .inl (inv.down j oj hj hl dd hdj)
    · rw [hoe] at hj
      cases hj
      exact .inl (hd dd hdj)
  · obtain ⟨n1, n2⟩ := nl hnl
    rcases inv.cover j hj n1 with hc | hc
    · rcases q2 j hc with hb | hb
      · exact absurd (ahead_listed hm inv.down e oe hoe hd j hj hb) n1
      · exact .inl hb
    · rw [q6] at hc
      rcases List.mem_cons.1 hc with hc | hc
      · exact absurd hc n2
      · rcases List.mem_append.1 hc with hc | hc
        · exact .inl (q3 j hc)
        · exact .inr hc
  · rw [lst_set hin] at hl
    rcases hl with hl | rfl
    · exact inv.rest j (by rw [q6]; exact List.mem_cons_of_mem _ (List.mem_append_right _ hj)) hl
    · exact q4 (List.mem_append_right _ hj)
  · rw [keep t ht fun j hj oj hoj hdj => segRest j hj (hw j oj hoj hdj)]
    by_cases et : oe.dst = some t
    · rw [put_at.1 et (by rw [inv.size]; exact ht)]
      rcases hdst with ⟨e1, _⟩ | ⟨t', e1, ht', rfl⟩
      · rw [et] at e1; cases e1
      · rw [et] at e1
        cases e1
        rw [show Fr.get (setD fr (some (slL nt (lates 0 ops.toList) t)) r) (slL nt (lates 0 ops.toList) t) = r from get_set_same' fr (slL nt (lates 0 ops.toList) t) r]
        exact hv.mono ((Ext.trans rel' c2 g2).le rel')
    · rw [put_at.2 et, setKeep t ht et]
      refine (inv.frame t ht fun j oj hj hdj => ?_).mono (extAll.le inv.rel)
      have := hw j oj hj hdj
      rw [lst_set hin] at this
      rcases this with h1 | rfl
      · exact h1
      · rw [hoe] at hj
        cases hj
        exact absurd hdj et
  · rw [keepP _ fun t' ht' _ => slL_ne hn ht' ht hl, setKeepP _ fun t' ht' _ => slL_ne hn ht' ht hl]
    by_cases et : oe.dst = some t
    · exact absurd ((lst_set hin).2 (.inr rfl)) (hw e oe hoe et)
    · rw [put_at.2 et]
      refine (inv.early t ht hl fun j oj hj hdj h => ?_).mono (extAll.le inv.rel)
      exact hw j oj hj hdj ((lst_set hin).2 (.inl h))
  · obtain ⟨n1, n2⟩ := nl hnl
    have hxc := hx
    rw [hF] at hxc
    obtain ⟨oj, _, hoj, hdj, _⟩ := cIt_ok hxc
    have hjn : j < ops.size := (Array.getElem?_eq_some_iff.1 hoj).1
    have hlive : ∃ o', h1.obj b = some o' := by
      obtain ⟨y, hy, hjy⟩ := (cIts_mem hop).1 j hj
      rw [hxc] at hjy
      cases hjy
      exact chk_live (allChk_mem hall hy) hb
    obtain ⟨o', ho'⟩ := hlive
    by_cases hseg : j ∈ s'.seg
    · obtain ⟨y, hy, hjy⟩ := (cIts_mem hsg).1 j hseg
      rw [hxc] at hjy
      cases hjy
      have hdead := allNew_mem hnew hy b hb
      refine ⟨cut_dead ι' hdead, fun hlt => ?_⟩
      have h2 : b.num < h'.nx.num := Nat.lt_of_lt_of_le hlt (Nat.le_trans inv.ext.nx x'.nx)
      rw [g3 b h2, hdead] at ho'
      cases ho'
    · have hopn : j ∈ s.opn := by
        rcases inv.cover j hjn n1 with hc | hc
        · exact hc
        · rw [q6] at hc
          rcases List.mem_cons.1 hc with hc | hc
          · exact absurd hc n2
          · rcases List.mem_append.1 hc with hc | hc
            · exact absurd hc hseg
            · exact absurd hc (okSt_opn ss s' q5 j hj)
      have hsame : x.blk fr1 = x.blk fr := by
        obtain ⟨hnw, p, hxd, _⟩ := blk_some hb
        unfold It.blk
        rw [hnw, hxd]
        show blockOf (Fr.get fr1 p) = blockOf (Fr.get fr p)
        rcases hdj with ⟨_, e2⟩ | ⟨t, e1, ht, e2⟩
        · rw [hxd] at e2; cases e2
        · rw [hxd] at e2
          cases e2
          have huniq : ∀ j' oj', ops[j']? = some oj' → oj'.dst = some t → j' = j := fun j' oj' h1 h2 => distinct_eq hdw (wrts_mem.2 ⟨oj', h1, h2⟩) (wrts_mem.2 ⟨oj, hoj, e1⟩)
          rw [keep t ht fun j' hj' oj' hoj' hdj' => hseg (huniq j' oj' hoj' hdj' ▸ hj'), setKeep t ht fun h2 => n2 (huniq e oe hoe h2).symm]
      rw [hsame] at hb
      obtain ⟨p1, p2⟩ := inv.pend j hopn n1 x hx b hb
      refine ⟨?_, p2⟩
      obtain ⟨y, hy, hyc⟩ := hos j hopn
      rw [hx] at hy
      cases hy
      obtain ⟨o2, ho2⟩ := chk_live hyc hb
      have hlt := inv.rel.fresh b o2 ho2
      cases hb' : h'.obj b with
      | none => exact cut_dead ι' hb'
      | some o3 => rw [cut_live ι' hb', (x'.lv b o3 hlt hb').2]; exact p1
end
end Ev
end Go.Proofs.YtfpghnldcbhniaaGreat
