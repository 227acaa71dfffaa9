/- Regions that draw their order: one operation that is no effect. -/
import Derived.Test.YtfpghnldcbhniaaGreatEvW
namespace Go.Proofs.YtfpghnldcbhniaaGreat
set_option linter.unusedVariables false
set_option linter.unusedSimpArgs false
open Go.RowKit Go.Maps
namespace Ev

section
variable {P : Program} {B : Nat} {W : World} {ι ι0 : Pos → Option Nat} {h h0 : H} {w w0 : World} {fr : Fr} {a : Act} {nt : Nat} {ops : Array Oper} {M : List Nat} {D : Array Bool} {itF : Nat → Option It} {s : St} {ss : List St} {o : Oper} {r : AV}
variable {inf : TypeId → Option TypeInfo} {und : TypeId → Option TypeDesc} {kf : TypeId → AV → Bool} {ext : FuncId → Option (List Opd → XOp)}

theorem cIt_ok {ws L : List (Nat × Nat)} {i : Nat} {x : It} (e : cIt inf und kf ext nt ops ws L M i = some x) : ∃ o k, ops[i]? = some o ∧ DstL nt L o.dst x.d ∧ cOp inf und kf ext (okAt nt ws L M i) o.op = .op k x.f ∧ k ≤ 2 ∧ x.nw = Nat.beq k 2 ∧
    ((o.guard = none ∧ x.g = none) ∨ ∃ j b g p, o.guard = some (j, b) ∧ ops[j]? = some g ∧ g.dst = some p ∧ okAt nt ws L M i p = true ∧ x.g = some (slot p, b)) := by
  unfold cIt at e
  cases ho : ops[i]? with
  | none => rw [ho] at e; cases e
  | some o =>
    rw [ho] at e
    simp only at e
    split at e
    case h_2 => cases e
    rename_i d k f hd hc
    cases hk : Nat.ble k 2 with
    | false => rw [hk] at e; cases e
    | true =>
      rw [hk] at e
      simp only [cond_true] at e
      have hk := Nat.le_of_ble_eq_true hk
      cases hg : o.guard with
      | none =>
        rw [hg] at e
        cases e
        exact ⟨o, k, rfl, dstL_ok hd, hc, hk, rfl, .inl ⟨hg, rfl⟩⟩
      | some jb =>
        obtain ⟨j, b⟩ := jb
        rw [hg] at e
        simp only at e
        cases hj : ops[j]? with
        | none => rw [hj] at e; cases e
        | some g =>
          rw [hj] at e
          simp only at e
          cases hp : g.dst with
          | none => rw [hp] at e; cases e
          | some p =>
            rw [hp] at e
            simp only at e
            cases hok : okAt nt ws L M i p with
            | false => rw [hok] at e; cases e
            | true =>
              rw [hok] at e
              cases e
              exact ⟨o, k, rfl, dstL_ok hd, hc, hk, rfl, .inr ⟨j, b, g, p, hg, hj, hp, hok, rfl⟩⟩
theorem cIts_mem {ws L : List (Nat × Nat)} : ∀ {l : List Nat} {xs : List It}, cIts inf und kf ext nt ops ws L M l = some xs → (∀ i ∈ l, ∃ x ∈ xs, cIt inf und kf ext nt ops ws L M i = some x) ∧ ∀ x ∈ xs, ∃ i ∈ l, cIt inf und kf ext nt ops ws L M i = some x
  | [], _, e => by cases e; exact ⟨fun i h => (by cases h), fun x h => (by cases h)⟩
  | i :: l, xs, e => by
    unfold cIts at e
    cases h1 : cIt inf und kf ext nt ops ws L M i with
    | none => rw [h1] at e; cases e
    | some x =>
      cases h2 : cIts inf und kf ext nt ops ws L M l with
      | none => rw [h1, h2] at e; cases e
      | some ys =>
        rw [h1, h2] at e
        cases e
        obtain ⟨g1, g2⟩ := cIts_mem h2
        refine ⟨fun j hj => ?_, fun y hy => ?_⟩
        · rcases List.mem_cons.1 hj with rfl | hj
          · exact ⟨x, List.mem_cons_self, h1⟩
          · obtain ⟨y, hy, e⟩ := g1 j hj
            exact ⟨y, List.mem_cons_of_mem _ hy, e⟩
        · rcases List.mem_cons.1 hy with rfl | hy
          · exact ⟨i, List.mem_cons_self, h1⟩
          · obtain ⟨j, hj, e⟩ := g2 y hy
            exact ⟨j, List.mem_cons_of_mem _ hj, e⟩
theorem allChk_mem : ∀ {l : List It} {x : It}, allChk l fr h = true → x ∈ l → x.chk fr h = true
  | y :: l, x, e, hx => by
    obtain ⟨h1, h2⟩ := and'_eq (show and' (y.chk fr h) (allChk l fr h) = true from e)
    rcases List.mem_cons.1 hx with rfl | hx
    · exact h1
    · exact allChk_mem h2 hx
theorem noBlk_mem {b : Pos} : ∀ {l : List It} {x : It}, noBlk b l fr = true → x ∈ l → ∀ c, x.blk fr = some c → b ≠ c
  | y :: l, x, e, hx, c, hc => by
    have e : ob (y.blk fr) (noBlk b l fr) (fun c => bi (b.beq c) false (noBlk b l fr)) = true := e
    rcases List.mem_cons.1 hx with rfl | hx
    · rw [hc] at e
      intro h
      subst h
      have e : bi (b.beq b) false (noBlk b l fr) = true := e
      rw [(Pos.beq_eq b b).2 rfl] at e
      cases e
    · refine noBlk_mem ?_ hx c hc
      cases hy : y.blk fr with
      | none => rw [hy] at e; exact e
      | some c' =>
        rw [hy] at e
        have e : bi (b.beq c') false (noBlk b l fr) = true := e
        cases hb : b.beq c' with
        | true => rw [hb] at e; cases e
        | false => rw [hb] at e; exact e
theorem dup_ne {ws L : List (Nat × Nat)} : ∀ {l : List Nat} {xs : List It}, cIts inf und kf ext nt ops ws L M l = some xs → dupFree xs fr = true → ∀ i ∈ l, ∀ j ∈ l, i ≠ j → ∀ x y, cIt inf und kf ext nt ops ws L M i = some x → cIt inf und kf ext nt ops ws L M j = some y →
    ∀ b c, x.blk fr = some b → y.blk fr = some c → b ≠ c
  | [], _, _, _, i, hi, _, _, _, _, _, _, _, _, _, _, _ => by cases hi
  | k :: l, xs, e, hd, i, hi, j, hj, hij, x, y, hx, hy, b, c, hb, hc => by
    unfold cIts at e
    cases h1 : cIt inf und kf ext nt ops ws L M k with
    | none => rw [h1] at e; cases e
    | some z =>
      cases h2 : cIts inf und kf ext nt ops ws L M l with
      | none => rw [h1, h2] at e; cases e
      | some ys =>
        rw [h1, h2] at e
        cases e
        have hd : ob (z.blk fr) (dupFree ys fr) (fun b => and' (noBlk b ys fr) (dupFree ys fr)) = true := hd
        have hrest : dupFree ys fr = true := by
          cases hz : z.blk fr with
          | none => rw [hz] at hd; exact hd
          | some b' => rw [hz] at hd; exact (and'_eq hd).2
        have hhead : ∀ b', z.blk fr = some b' → ∀ m ∈ l, ∀ y', cIt inf und kf ext nt ops ws L M m = some y' → ∀ c', y'.blk fr = some c' → b' ≠ c' := fun b' hb' m hm y' hy' c' hc' => by
          rw [hb'] at hd
          obtain ⟨y2, hy2, e2⟩ := (cIts_mem h2).1 m hm
          rw [hy'] at e2
          cases e2
          exact noBlk_mem (and'_eq hd).1 hy2 c' hc'
        rcases List.mem_cons.1 hi with ei | hi2
        · subst ei
          rw [h1] at hx
          cases hx
          rcases List.mem_cons.1 hj with ej | hj2
          · exact absurd ej.symm hij
          · exact hhead b hb j hj2 y hy c hc
        · rcases List.mem_cons.1 hj with ej | hj2
          · subst ej
            rw [h1] at hy
            cases hy
            exact (hhead c hc i hi2 x hx b hb).symm
          · exact dup_ne h2 hrest i hi2 j hj2 hij x y hx hy b c hb hc

theorem sameD_eq {L : List (Nat × Nat)} {dst : Option Tmp} {d : Option Pos} {v : AV} (hd : DstL nt L dst d) (e : sameD d fr v = true) : ∀ t, dst = some t → Fr.get fr (slL nt L t) = v := by
  intro t ht
  rcases hd with ⟨rfl, rfl⟩ | ⟨t', rfl, _, rfl⟩
  · cases ht
  · cases ht
    exact (sameAV_eq _ _ e).symm
theorem blockOf_new {v : AV} {b : Pos} (e : blockOf v = some b) : v ≠ .undef := by
  intro h
  subst h
  cases e
theorem blk_some {x : It} {b : Pos} (e : x.blk fr = some b) : x.nw = true ∧ ∃ p, x.d = some p ∧ blockOf (Fr.get fr p) = some b := by
  unfold It.blk at e
  cases hn : x.nw with
  | false => rw [hn] at e; cases e
  | true =>
    rw [hn] at e
    obtain ⟨p, h1, h2⟩ := ob_some (by simp) (show ob x.d none (fun p => blockOf (Fr.get fr p)) = some b from e)
    exact ⟨rfl, p, h1, h2⟩
theorem chkM_ok {f : XOp} {d : Option Pos} (e : chkM f d fr h = true) : ∃ p b v h' o, d = some p ∧ blockOf (Fr.get fr p) = some b ∧ f fr { t := .e, nx := b } = .ok v h' ∧ v = Fr.get fr p ∧ h'.obj b = some o ∧ h.obj b = some o := by
  obtain ⟨p, h1, e⟩ := ob_some (by simp) (show ob d false _ = true from e)
  obtain ⟨b, h2, e⟩ := ob_some (by simp) e
  cases hf : f fr { t := .e, nx := b } with
  | no => simp only [hf] at e; cases e
  | ok v h' =>
    simp only [hf] at e
    obtain ⟨h3, e⟩ := and'_eq e
    obtain ⟨o, h4, e⟩ := ob_some (by simp) e
    obtain ⟨o', h5, e⟩ := ob_some (by simp) e
    exact ⟨p, b, v, h', o, h1, h2, hf, sameAV_eq _ _ h3, h4, by rw [h5, sameObj_eq e]⟩

theorem open_ok (E : Env P inf und kf) (X : ExtOk P ext) (hm : masksOk M ops.size 0 ops.toList = true) (inv : Inv P B W nt ops itF ι0 h0 w0 s ss D ι fr h a w) (r0 : Rel P B W ι0 h0 w0) (hF : itF = cIt inf und kf ext nt ops (wrts 0 ops.toList) (lates 0 ops.toList) M)
    {i : Nat} {x : It} (hx : itF i = some x) (hs : i ∈ s.opn) (hn : ¬ lst D i) (hr : i ∉ restOf s.eff ss) (hd : ∀ o, ops[i]? = some o → ∀ d ∈ depsOf o, lst D d) (hc : x.chk fr h = true)
    (hdup : ∀ j ∈ s.opn, i ≠ j → ∀ y, itF j = some y → ∀ b c, x.blk fr = some b → y.blk fr = some c → b ≠ c) {Qx : Exit → Act → World → Prop} {K : Act → World → Prop}
    (hK : ∀ ι' a' w', Inv P B W nt ops itF ι0 h0 w0 s ss (D.setIfInBounds i true) ι' fr h a' w' → K a' w') : wpOp P ops Qx i K a w := by
  have hx' := hx
  rw [hF] at hx'
  obtain ⟨o, k, hi, hdst, hop, hk, hnw, hg⟩ := cIt_ok hx'
  have fo := inv.fo hm hi hn (hd o hi)
  unfold wpOp
  rw [hi]
  simp only
  have skip : sameD x.d fr .undef = true → K (a.put o.dst undef) w := fun e => by
    refine hK ι _ w (inv.exec hi hs hr (hd o hi) inv.rel inv.ext ⟨Nat.le_refl _, fun _ _ h => h, fun _ _ _ _ h => h, fun _ _ _ _ _ => rfl⟩ (fun t ht => ?_) fun j hj hji hjn y hy b hb => (inv.pend j hj hjn y hy b hb).1)
    rw [sameD_eq hdst e t ht]
    exact .undef
  have run : bi x.nw (chkM x.f x.d fr h) (chkP x.f x.d fr h) = true → o.wp P a w K Qx := fun e => by
    cases hnw' : x.nw with
    | false =>
      rw [hnw'] at e
      have e : Ev.E.rec (motive := fun _ => Bool) false (fun v _ => sameD x.d fr v) (x.f fr h) = true := e
      cases hf : x.f fr h with
      | no => rw [hf] at e; cases e
      | ok v h' =>
        rw [hf] at e
        have hk2 : k ≠ 2 := fun e => by subst e; rw [hnw'] at hnw; cases hnw
        have hop1 := cOp_ok (w := w) (B := B) (W := W) (ι := ι) E X hop fo (fun _ => ⟨rfl, inv.rel⟩) hf
        have res : Res1 P (cx ι h w) h h' v (execOp a.eval o) w := by
          have hk01 : k = 0 ∨ k = 1 := by omega
          rcases hk01 with rfl | rfl
          · exact Res0.r1 hop1
          · exact hop1
        obtain ⟨_, u, h1, h2⟩ := res
        unfold Oper.wp
        rw [h2, Oper.upon_value]
        refine hK ι _ w (inv.exec hi hs hr (hd o hi) inv.rel inv.ext ⟨Nat.le_refl _, fun _ _ h => h, fun _ _ _ _ h => h, fun _ _ _ _ _ => rfl⟩ (fun t ht => ?_) fun j hj hji hjn y hy b hb => (inv.pend j hj hjn y hy b hb).1)
        rw [sameD_eq hdst e t ht]
        exact h1
    | true =>
      rw [hnw'] at e
      obtain ⟨p, b, v, h', ob1, g1, g2, g3, g4, g5, g6⟩ := chkM_ok (show chkM x.f x.d fr h = true from e)
      have hk2 : k = 2 := by rw [hnw'] at hnw; exact Nat.eq_of_beq_eq_true hnw.symm
      subst hk2
      have hop1 : Res2 P (cx ι h w) { t := .e, nx := b } h' v (execOp a.eval o) := cOp_ok (w := w) (B := B) (W := W) (ι := ι) E X hop fo (fun h => by rcases h with h | h <;> cases h) g3
      obtain ⟨o2, j1, j2⟩ := hop1
      have : o2 = ob1 := by
        rw [j1] at g5
        have := obj_new_same ({ t := .e, nx := b } : H) o2
        rw [g5] at this
        exact (Option.some.inj this).symm
      subst this
      obtain ⟨obj, mk, j3, j4, j5⟩ := j2
      have hblk : x.blk fr = some b := by
        unfold It.blk
        rw [hnw', g1]
        exact g2
      obtain ⟨p1, p2⟩ := inv.pend i hs hn x hx b hblk
      have hn' := heap_new (wnew_alloc w obj)
      obtain ⟨q1, q2, q3⟩ := inv.rel.fill g6 p1 (wnew_alloc w obj) (j4 _ _ hn')
      unfold Oper.wp
      rw [j3 w, Oper.upon_value]
      refine hK _ _ _ (inv.exec hi hs hr (hd o hi) q1 (q3 _ _ _ r0 inv.ext p2) q2 (fun t ht => ?_) fun j hj hji hjn y hy c hc => ?_)
      · have hpt : p = slL nt (lates 0 ops.toList) t := by
          rcases hdst with ⟨e1, e2⟩ | ⟨t', e1, _, e2⟩
          · rw [g1] at e2; cases e2
          · rw [ht] at e1
            cases e1
            rw [g1] at e2
            exact Option.some.inj e2
        rw [← hpt, ← g4]
        refine j5 _ _ ?_ (fun _ => upd_same _ _ _) ?_
        · exact inv.rel.fresh b o2 g6
        · show bsz (w.alloc obj) w.heap.size = objSize obj
          unfold bsz
          rw [hn']
          cases obj <;> rfl
      · rw [upd_ne ι _ (hdup j hj (Ne.symm hji) y hy b c hblk hc).symm]
        exact (inv.pend j hj hjn y hy c hc).1
  rcases hg with ⟨h1, h2⟩ | ⟨j, b, g, p, h1, h2, h3, h4, h5⟩
  · have hw : Region.wanted o (yielded ops a.tmps) = true := by unfold Region.wanted; rw [h1]
    rw [if_pos hw]
    unfold It.chk at hc
    rw [h2] at hc
    exact .inl (run hc)
  · unfold It.chk at hc
    rw [h5] at hc
    have hc : (Fr.get fr (slot p)).bool? (sameD x.d fr .undef) (fun c => bi (bi b c (bi c false true)) (bi x.nw (chkM x.f x.d fr h) (chkP x.f x.d fr h)) (sameD x.d fr .undef)) = true := hc
    rcases wanted_ok h1 h2 h3 h4 fo with ⟨t, ht, hw⟩ | ⟨hnb, hw⟩
    · rw [ht] at hc
      have hc : bi (bi b t (bi t false true)) (bi x.nw (chkM x.f x.d fr h) (chkP x.f x.d fr h)) (sameD x.d fr .undef) = true := hc
      cases htb : bi b t (bi t false true) with
      | true =>
        rw [htb] at hw hc
        rw [if_pos hw]
        exact .inl (run hc)
      | false =>
        rw [htb] at hw hc
        rw [if_neg (by rw [hw]; simp)]
        exact skip hc
    · rw [if_neg (by rw [hw]; simp)]
      refine skip ?_
      rw [← hc]
      generalize Fr.get fr (slot p) = z at hnb
      cases z <;> first | rfl | exact absurd rfl (hnb _)
end
end Ev
end Go.Proofs.YtfpghnldcbhniaaGreat
