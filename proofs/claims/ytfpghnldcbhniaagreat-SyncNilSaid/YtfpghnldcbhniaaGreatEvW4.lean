/- Regions that draw their order: all of it. -/
import Derived.Test.YtfpghnldcbhniaaGreatEvW3
namespace Go.Proofs.YtfpghnldcbhniaaGreat
set_option linter.unusedVariables false
set_option linter.unusedSimpArgs false
open Go.RowKit Go.Maps
namespace Ev

theorem countP_lt' {α : Type} {p q : α → Bool} : ∀ {l : List α}, (∀ x ∈ l, q x = true → p x = true) → ∀ {y : α}, y ∈ l → p y = true → q y = false → l.countP q < l.countP p
  | x :: l, h, y, hy, hp, hq => by
    have hle : l.countP q ≤ l.countP p := List.countP_mono_left fun x hx => h x (List.mem_cons_of_mem _ hx)
    rw [List.countP_cons, List.countP_cons]
    rcases List.mem_cons.1 hy with e | hy2
    · subst e
      rw [hp, hq]
      simp
      omega
    · have ih := countP_lt' (fun x hx => h x (List.mem_cons_of_mem _ hx)) hy2 hp hq
      have hx := h x List.mem_cons_self
      cases hqx : q x with
      | true => rw [hx hqx]; simp; exact ih
      | false => cases p x <;> simp <;> omega

section
variable {P : Program} {B : Nat} {W : World} {ι ι0 : Pos → Option Nat} {h h0 h1 : H} {w w0 : World} {fr fr1 : Fr} {a : Act} {nt : Nat} {ops : Array Oper} {M : List Nat} {D : Array Bool} {itF : Nat → Option It} {s : St} {ss : List St} {o : Oper} {r : AV} {kk : K}
variable {inf : TypeId → Option TypeInfo} {und : TypeId → Option TypeDesc} {kf : TypeId → AV → Bool} {ext : FuncId → Option (List Opd → XOp)}

def cnt (D : Array Bool) (n : Nat) : Nat := (List.range n).countP fun i => !D.getD i false
theorem cnt_set {i n : Nat} (hi : i < n) (hd : i < D.size) (hn : ¬ lst D i) : cnt (D.setIfInBounds i true) n < cnt D n := by
  unfold cnt
  refine countP_lt' (fun j _ hj => ?_) (List.mem_range.2 hi) ?_ ?_
  · cases hb : D.getD j false with
    | false => rfl
    | true =>
      have : lst (D.setIfInBounds i true) j := (lst_set hd).2 (.inl hb)
      unfold lst at this
      rw [this] at hj
      cases hj
  · cases hb : D.getD i false with
    | false => rfl
    | true => exact absurd hb hn
  · have : lst (D.setIfInBounds i true) i := (lst_set hd).2 (.inr rfl)
    unfold lst at this
    rw [this]
    rfl
theorem cnt_zero {n : Nat} (h : cnt D n = 0) : ∀ i, i < n → lst D i := fun i hi => by
  unfold cnt at h
  rw [List.countP_eq_zero] at h
  have := h i (List.mem_range.2 hi)
  unfold lst
  simpa using this
theorem ready_mem {i : Nat} : i ∈ Region.ready .any ops D → ∃ o, ops[i]? = some o ∧ ¬ lst D i ∧ ∀ d ∈ depsOf o, lst D d := fun hr => by
  obtain ⟨h1, o, h2, h3⟩ := mem_ready.1 hr
  refine ⟨o, h2, fun hl => ?_, fun d hd => ?_⟩
  · unfold lst at hl
    rw [Array.getD_eq_getD_getElem?] at h1 hl
    cases hg : D[i]? with
    | none => rw [hg] at hl; cases hl
    | some b => rw [hg] at h1 hl; simp at h1 hl; rw [h1] at hl; cases hl
  · unfold depsOf at hd
    obtain ⟨e, he, rfl⟩ := List.mem_map.1 hd
    obtain ⟨he1, he2⟩ := List.mem_filter.1 he
    exact h3 e (by simpa using he1) he2
theorem mem_ready' {i : Nat} (hs : D.size = ops.size) {o : Oper} (hi : ops[i]? = some o) (hn : ¬ lst D i) (hd : ∀ d ∈ depsOf o, lst D d) : i ∈ Region.ready .any ops D := by
  refine mem_ready.2 ⟨?_, o, hi, fun e he hb => hd e.on ?_⟩
  · have hin : i < D.size := by rw [hs]; exact (Array.getElem?_eq_some_iff.1 hi).1
    unfold lst at hn
    rw [Array.getD_eq_getD_getElem?, Array.getElem?_eq_getElem hin] at hn ⊢
    simpa using hn
  · unfold depsOf
    exact List.mem_map.2 ⟨e, List.mem_filter.2 ⟨by simpa using he, hb⟩, rfl⟩
theorem all_listed (hm : masksOk M ops.size 0 ops.toList = true) (hs : D.size = ops.size) (hr : Region.ready .any ops D = []) : ∀ i, i < ops.size → lst D i := by
  intro i
  induction i using Nat.strongRecOn with
  | _ i ih =>
    intro hi
    apply Classical.byContradiction
    intro hn
    have ho : ops[i]? = some (ops[i]'hi) := Array.getElem?_eq_getElem hi
    have := mem_ready' hs ho hn fun d hd => ih d ((mask_spec hm ho).1 d hd) (Nat.lt_trans ((mask_spec hm ho).1 d hd) hi)
    rw [hr] at this
    cases this
theorem cSt_ok {c : StC} (e : cSt inf und kf ext nt ops (wrts 0 ops.toList) (lates 0 ops.toList) M s = some c) : cIts inf und kf ext nt ops (wrts 0 ops.toList) (lates 0 ops.toList) M s.seg = some c.seg ∧ cIts inf und kf ext nt ops (wrts 0 ops.toList) (lates 0 ops.toList) M s.opn = some c.opn ∧
    ((s.eff = none ∧ c.eff = none) ∨ ∃ e q, s.eff = some e ∧ c.eff = some q ∧ cEff inf und kf ext nt ops (wrts 0 ops.toList) (lates 0 ops.toList) M e = .mk q) := by
  unfold cSt at e
  cases h1 : cIts inf und kf ext nt ops (wrts 0 ops.toList) (lates 0 ops.toList) M s.seg with
  | none => rw [h1] at e; cases e
  | some sg =>
    cases h2 : cIts inf und kf ext nt ops (wrts 0 ops.toList) (lates 0 ops.toList) M s.opn with
    | none => rw [h1, h2] at e; cases e
    | some op =>
      rw [h1, h2] at e
      simp only at e
      cases h3 : s.eff with
      | none => rw [h3] at e; cases e; exact ⟨rfl, rfl, .inl ⟨rfl, rfl⟩⟩
      | some k =>
        rw [h3] at e
        simp only at e
        cases h4 : cEff inf und kf ext nt ops (wrts 0 ops.toList) (lates 0 ops.toList) M k with
        | bad => rw [h4] at e; cases e
        | mk q => rw [h4] at e; cases e; exact ⟨rfl, rfl, .inr ⟨k, q, rfl, rfl, h4⟩⟩
theorem cEff_ok {e : Nat} {q : DOp} (he : cEff inf und kf ext nt ops (wrts 0 ops.toList) (lates 0 ops.toList) M e = .mk q) : ∃ o d, ops[e]? = some o ∧ DstL nt (lates 0 ops.toList) o.dst d ∧ cGuardD inf und kf ext (okAt nt (wrts 0 ops.toList) (lates 0 ops.toList) M e) d ops o = .mk q := by
  unfold cEff at he
  cases ho : ops[e]? with
  | none => rw [ho] at he; cases he
  | some o =>
    rw [ho] at he
    simp only at he
    cases hd : dstL nt (lates 0 ops.toList) o with
    | none => rw [hd] at he; cases he
    | some d => rw [hd] at he; exact ⟨o, d, rfl, dstL_ok hd, he⟩
theorem rest_eff {e : Nat} : e ∈ restOf (some e) ss := by
  cases ss <;> exact List.mem_cons_self
theorem stc_ok {c : StC} {hs h : H} (e : c.ok hs fr h = true) : allChk c.opn fr h = true ∧ dupFree c.opn fr = true ∧ allNew c.seg hs fr = true := by
  obtain ⟨h1, e⟩ := and'_eq (show and' _ (and' _ _) = true from e)
  exact ⟨h1, and'_eq e⟩
theorem stages_ok {c : StC} {cs : List StC} {frE : Fr} {hE : H} (e : runStages (c :: cs) kk fr h = .ok frE hE) : ∃ fr1 h1, runSeg c.seg fr h = .ok fr1 h1 ∧ c.ok h fr1 h1 = true ∧ ob c.eff (Q.ok fr1 h1) (fun e => qr (e kk fr1 h1) (runStages cs kk)) = .ok frE hE := by
  obtain ⟨fr1, h1, e1, e2⟩ := qrQ (show qr (runSeg c.seg fr h) _ = _ from e)
  obtain ⟨e3, e4⟩ := bi_some (by simp) e2
  exact ⟨fr1, h1, e1, e3, e4⟩

def Mid (P : Program) (B : Nat) (W : World) (nt : Nat) (ops : Array Oper) (M : List Nat) (inf : TypeId → Option TypeInfo) (und : TypeId → Option TypeDesc) (kf : TypeId → AV → Bool) (ext : FuncId → Option (List Opd → XOp)) (ι0 : Pos → Option Nat) (h0 : H) (w0 : World) (kk : K)
    (Qx : Exit → Act → World → Prop) (frE : Fr) (hE : H) (ss : List St) : Prop := ∀ (s : St) (c : StC) (cs : List StC),
    cSt inf und kf ext nt ops (wrts 0 ops.toList) (lates 0 ops.toList) M s = some c → cSts inf und kf ext nt ops (wrts 0 ops.toList) (lates 0 ops.toList) M ss = some cs → okSt M s ss = true → ∀ (fuel : Nat) (D : Array Bool) (ι : Pos → Option Nat) (fr : Fr) (h : H) (a : Act) (w : World),
    Inv P B W nt ops (cIt inf und kf ext nt ops (wrts 0 ops.toList) (lates 0 ops.toList) M) ι0 h0 w0 s ss D ι fr h a w → allChk c.opn fr h = true → dupFree c.opn fr = true → ob c.eff (Q.ok fr h) (fun e => qr (e kk fr h) (runStages cs kk)) = .ok frE hE → cnt D ops.size ≤ fuel → wpAny P .any ops Qx fuel D a w
theorem mid_step (E : Env P inf und kf) (X : ExtOk P ext) (KO : KOK P kk) (hm : masksOk M ops.size 0 ops.toList = true) (hdw : distinctW (wrts 0 ops.toList) = true) (hn : nt + nt ≤ 1000000) (hlt : ∀ x ∈ lates 0 ops.toList, x.1 < nt)
    (r0 : Rel P B W ι0 h0 w0) {Qx : Exit → Act → World → Prop} {frE : Fr} {hE : H} (K : After P B W nt ι0 h0 w0 (fins nt (lates 0 ops.toList) frE) hE (fun a w => Qx .normal a w)) (ss : List St)
    (ih : ∀ s' ss', ss = s' :: ss' → Mid P B W nt ops M inf und kf ext ι0 h0 w0 kk Qx frE hE ss') : Mid P B W nt ops M inf und kf ext ι0 h0 w0 kk Qx frE hE ss := by
  intro s c cs hc hcs hok fuel
  obtain ⟨c1, c2, c3⟩ := cSt_ok hc
  have fin : ∀ (D : Array Bool) (ι : Pos → Option Nat) (fr : Fr) (h : H) (a : Act) (w : World), Inv P B W nt ops (cIt inf und kf ext nt ops (wrts 0 ops.toList) (lates 0 ops.toList) M) ι0 h0 w0 s ss D ι fr h a w → ob c.eff (Q.ok fr h) (fun e => qr (e kk fr h) (runStages cs kk)) = .ok frE hE →
      (∀ i, i < ops.size → lst D i) → Qx .normal a w := fun D ι fr h a w inv hdyn hall => by
    rcases c3 with ⟨e1, e2⟩ | ⟨e, q, e1, e2, e3⟩
    · rw [e2] at hdyn
      cases hdyn
      exact K ι a w ⟨inv.size, fun t ht => by rw [(fins_get hn _ _ hlt t ht).1]; exact inv.frame t ht fun i oi hi _ => hall i (Array.getElem?_eq_some_iff.1 hi).1, inv.defers⟩ inv.rel inv.ext
    · exfalso
      obtain ⟨oe, _, hoe, _⟩ := cEff_ok e3
      refine inv.rest e ?_ (hall e (Array.getElem?_eq_some_iff.1 hoe).1)
      rw [e1]
      exact rest_eff
  induction fuel with
  | zero =>
    intro D ι fr h a w inv hchk hdup hdyn hcnt
    have hall := cnt_zero (Nat.le_zero.1 hcnt)
    refine ⟨?_, fin D ι fr h a w inv hdyn hall⟩
    rw [List.eq_nil_iff_forall_not_mem]
    intro i hi
    obtain ⟨o, ho, hnl, _⟩ := ready_mem hi
    exact hnl (hall i (Array.getElem?_eq_some_iff.1 ho).1)
  | succ fuel ihf =>
    intro D ι fr h a w inv hchk hdup hdyn hcnt
    refine ⟨fun hr => fin D ι fr h a w inv hdyn (all_listed hm inv.dsize hr), fun i hi => ?_⟩
    obtain ⟨o, ho, hnl, hd⟩ := ready_mem hi
    have hin : i < ops.size := (Array.getElem?_eq_some_iff.1 ho).1
    have hcnt' : cnt (D.setIfInBounds i true) ops.size ≤ fuel := by
      have := cnt_set (n := ops.size) hin (by rw [inv.dsize]; exact hin) hnl
      omega
    have hopen : i ∈ s.opn → wpOp P ops Qx i (wpAny P .any ops Qx fuel (D.setIfInBounds i true)) a w := fun hs => by
      obtain ⟨x, hx, hxi⟩ := (cIts_mem c2).1 i hs
      refine open_ok E X hm inv r0 rfl hxi hs hnl (okSt_opn ss s hok i hs) (fun o' ho' => by rw [ho] at ho'; cases ho'; exact hd) (allChk_mem hchk hx) (fun j hj hij y hy b b' hb hb' => dup_ne c2 hdup i hs j hj hij x y hxi hy b b' hb hb') fun ι' a' w' inv' => ?_
      exact ihf _ _ _ _ _ _ inv' hchk hdup hdyn hcnt'
    rcases inv.cover i hin hnl with hs | hs
    · exact hopen hs
    · rcases c3 with ⟨e1, e2⟩ | ⟨e, q, e1, e2, e3⟩
      · rw [e1] at hs
        cases ss <;> cases hs
      · cases ss with
        | nil => unfold okSt at hok; rw [e1] at hok; cases hok
        | cons s' ss' =>
          obtain ⟨e', he', q1, q2, q3, q4, q5, q6⟩ := okSt_cons hok
          rw [e1] at he'
          cases he'
          rcases q1 i hs with rfl | hb
          · obtain ⟨oe, d, hoe, hdst, hg⟩ := cEff_ok e3
            rw [ho] at hoe
            cases hoe
            rw [e2] at hdyn
            obtain ⟨fr', h', d1, d2⟩ := qrQ (show qr (q kk fr h) (runStages cs kk) = _ from hdyn)
            unfold cSts at hcs
            cases hc' : cSt inf und kf ext nt ops (wrts 0 ops.toList) (lates 0 ops.toList) M s' with
            | none => rw [hc'] at hcs; cases hcs
            | some c' =>
              cases hcs' : cSts inf und kf ext nt ops (wrts 0 ops.toList) (lates 0 ops.toList) M ss' with
              | none => rw [hc', hcs'] at hcs; cases hcs
              | some cs' =>
                rw [hc', hcs'] at hcs
                cases hcs
                obtain ⟨fr1, h1, d3, d4, d5⟩ := stages_ok d2
                obtain ⟨k1, k2, k3⟩ := stc_ok d4
                obtain ⟨g1, g2, _⟩ := cSt_ok hc'
                obtain ⟨r, hr, hcont⟩ := guard_core E X KO hg d1 (inv.fo hm ho hnl hd) inv.rel
                subst hr
                unfold wpOp
                rw [ho]
                refine hcont _ _ fun ι' u w' rel' x' hv => ?_
                refine ih s' ss' rfl s' c' cs' hc' hcs' q5 fuel _ _ _ _ _ _ (inv.next hm hdw hn rfl r0 hok e1 ho hd hdst (os' := []) (fun j hj => ?_) rel' x' hv g1 g2 d3 k1 k3) k1 k2 d5 hcnt'
                obtain ⟨x, hx, hxi⟩ := (cIts_mem c2).1 j hj
                exact ⟨x, hxi, allChk_mem hchk hx⟩
          · exfalso
            obtain ⟨oe, _, hoe, _⟩ := cEff_ok e3
            have hen : e < ops.size := (Array.getElem?_eq_some_iff.1 hoe).1
            refine inv.rest e ?_ (ahead_listed hm inv.down i o ho hd e hen hb)
            rw [e1]
            exact rest_eff
theorem mid_ok (E : Env P inf und kf) (X : ExtOk P ext) (KO : KOK P kk) (hm : masksOk M ops.size 0 ops.toList = true) (hdw : distinctW (wrts 0 ops.toList) = true) (hn : nt + nt ≤ 1000000) (hlt : ∀ x ∈ lates 0 ops.toList, x.1 < nt)
    (r0 : Rel P B W ι0 h0 w0) {Qx : Exit → Act → World → Prop} {frE : Fr} {hE : H} (K : After P B W nt ι0 h0 w0 (fins nt (lates 0 ops.toList) frE) hE (fun a w => Qx .normal a w)) : ∀ (ss : List St), Mid P B W nt ops M inf und kf ext ι0 h0 w0 kk Qx frE hE ss
  | [] => mid_step E X KO hm hdw hn hlt r0 K [] fun _ _ e => by cases e
  | _ :: ss => mid_step E X KO hm hdw hn hlt r0 K _ fun _ _ e => by cases e; exact mid_ok E X KO hm hdw hn hlt r0 K ss

theorem drawn_ok {id : Nat} (E : Env P inf und kf) (X : ExtOk P ext) (KO : KOK P kk) (hmix : P.follows .mixedOrders = true) (hn : nt ≤ 1000000) (hf : FR nt (cx ι h w) fr a) (rel : Rel P B W ι h w) {Qx : Exit → Act → World → Prop}
    (K : Post P B W nt ι h w Qx (bc (cDrawn inf und kf ext nt ops) kk fr h)) : (Code.region id ops true).wp P Qx a w := by
  unfold cDrawn at K
  generalize masks ops.toList [] = M at K
  generalize planGo _ _ _ _ _ _ _ _ = p at K
  unfold cDraw at K
  cases hreg : (Nat.ble (nt + nt) 1000000 && ((lates 0 ops.toList).all fun p => Nat.blt p.1 nt) && okReg M ops.size ops.toList (wrts 0 ops.toList) p) with
  | false => rw [hreg] at K; exact K.elim
  | true =>
    rw [hreg] at K
    simp only [cond_true] at K
    cases hl : cSts inf und kf ext nt ops (wrts 0 ops.toList) (lates 0 ops.toList) M p with
    | none => rw [hl] at K; exact K.elim
    | some l =>
      rw [hl] at K
      have K : Post P B W nt ι h w Qx (qR (runStages l kk fr h) fun fr h => .n (fins nt (lates 0 ops.toList) fr) h) := K
      cases hrun : runStages l kk fr h with
      | no => rw [hrun] at K; exact K.elim
      | ok frE hE =>
        rw [hrun] at K
        have K3 : After P B W nt ι h w (fins nt (lates 0 ops.toList) frE) hE (fun a w => Qx .normal a w) := K
        cases p with
        | nil => simp [okReg] at hreg
        | cons s ss =>
          unfold okReg at hreg
          simp only [Bool.and_eq_true, List.all_eq_true, Bool.or_eq_true, Bool.not_eq_true'] at hreg
          obtain ⟨⟨hn2, hlt⟩, ⟨⟨⟨⟨hm, hdw⟩, hcov⟩, hdis⟩, hseg⟩, hok⟩ := hreg
          have hn2 := Nat.le_of_ble_eq_true hn2
          have hlt : ∀ x ∈ lates 0 ops.toList, x.1 < nt := fun x hx => by
            have := hlt x hx
            rw [blt_eq] at this
            exact of_decide_eq_true this
          unfold cSts at hl
          cases hc : cSt inf und kf ext nt ops (wrts 0 ops.toList) (lates 0 ops.toList) M s with
          | none => rw [hc] at hl; cases hl
          | some c =>
            cases hcs : cSts inf und kf ext nt ops (wrts 0 ops.toList) (lates 0 ops.toList) M ss with
            | none => rw [hc, hcs] at hl; cases hl
            | some cs =>
              rw [hc, hcs] at hl
              cases hl
              obtain ⟨fr1, h1, d3, d4, d5⟩ := stages_ok hrun
              obtain ⟨k1, k2, k3⟩ := stc_ok d4
              obtain ⟨g1, g2, _⟩ := cSt_ok hc
              obtain ⟨v1, v2⟩ := rel.drew
              obtain ⟨u1, u2⟩ := v1.cut
              obtain ⟨t1, t2, t3, t4⟩ := seg_ok c.seg d3 u1 (fun b hb => cut_dead ι hb)
              have nolst : ∀ i, ¬ lst (Array.replicate ops.size false) i := fun i hl => by
                unfold lst at hl
                rw [Array.getD_eq_getD_getElem?, Array.getElem?_replicate] at hl
                split at hl <;> cases hl
              refine wp_region_any hmix (mid_ok E X KO hm hdw hn2 hlt rel K3 ss s c cs hc hcs hok ops.size _ (Ev.cut ι h) fr1 h1 a _ ?_ k1 k2 d5 ?_)
              · refine ⟨by simp, hf.size, hf.defers, t1, Ext.trans rel v2 (Ext.trans v1 u2 t2), fun i oi hi hl => absurd hl (nolst i), fun i hi _ => (hcov i (List.mem_range.2 hi)).imp hasN_iff.1 hasN_iff.1, fun i _ => nolst i, fun t ht hw => ?_, fun t ht hl _ => ?_, fun i hi _ x hx b hb => ?_⟩
                · have hnl : isLate (lates 0 ops.toList) t = false := by
                    cases hl : isLate (lates 0 ops.toList) t with
                    | false => rfl
                    | true =>
                      obtain ⟨i, o, h1, h2⟩ := isLate_wr hl
                      exact absurd (hw i o h1 h2) (nolst i)
                  rw [t4 (slL nt (lates 0 ops.toList) t) fun x hx hxd => ?_]
                  · rw [slL_not hnl]
                    exact (hf.val t ht).mono ((Ext.trans rel v2 (Ext.trans v1 u2 t2)).le rel)
                  · obtain ⟨j, hj, hjx⟩ := (cIts_mem g1).2 x hx
                    obtain ⟨oj, _, hoj, hdj, _⟩ := cIt_ok hjx
                    rcases hdj with ⟨_, e2⟩ | ⟨t', e1, ht', e2⟩
                    · rw [hxd] at e2; cases e2
                    · rw [hxd] at e2
                      have := slL_inj hn2 ht ht' (Option.some.inj e2)
                      subst this
                      exact nolst j (hw j oj hoj e1)
                · rw [t4 (slot t) fun x hx hxd => ?_]
                  · exact (hf.val t ht).mono ((Ext.trans rel v2 (Ext.trans v1 u2 t2)).le rel)
                  · obtain ⟨j, hj, hjx⟩ := (cIts_mem g1).2 x hx
                    obtain ⟨oj, _, hoj, hdj, _⟩ := cIt_ok hjx
                    rcases hdj with ⟨_, e2⟩ | ⟨t', e1, ht', e2⟩
                    · rw [hxd] at e2; cases e2
                    · rw [hxd] at e2
                      exact slL_ne hn2 ht' ht hl (Option.some.inj e2).symm
                · have his := hasN_iff.1 (hseg i hi)
                  obtain ⟨y, hy, hiy⟩ := (cIts_mem g1).1 i his
                  rw [hx] at hiy
                  cases hiy
                  have hdead := allNew_mem k3 hy b hb
                  refine ⟨cut_dead ι hdead, fun hlt => ?_⟩
                  obtain ⟨y, hy, hiy⟩ := (cIts_mem g2).1 i hi
                  rw [hx] at hiy
                  cases hiy
                  obtain ⟨o', ho'⟩ := chk_live (allChk_mem k1 hy) hb
                  rw [t3 b hlt, hdead] at ho'
                  cases ho'
              · unfold cnt
                have := List.countP_le_length (p := fun i => !(Array.replicate ops.size false).getD i false) (l := List.range ops.size)
                simpa using this
end
end Ev
end Go.Proofs.YtfpghnldcbhniaaGreat
