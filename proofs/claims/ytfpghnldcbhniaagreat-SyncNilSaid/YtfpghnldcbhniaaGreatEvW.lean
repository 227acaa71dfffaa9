/- Regions that draw their order: whatever the order, the run's values come. -/
import Derived.Test.YtfpghnldcbhniaaGreatEvV
namespace Go.Proofs.YtfpghnldcbhniaaGreat
set_option linter.unusedVariables false
set_option linter.unusedSimpArgs false
open Go.RowKit Go.Maps
namespace Ev

section
variable {P : Program} {B : Nat} {W : World} {ι ι0 : Pos → Option Nat} {h h0 : H} {w w0 : World} {fr : Fr} {a : Act} {nt : Nat} {ops : Array Oper} {M : List Nat} {D : Array Bool}

def lst (D : Array Bool) (i : Nat) : Prop := D.getD i false = true
theorem lst_set {i j : Nat} (hi : i < D.size) : lst (D.setIfInBounds i true) j ↔ lst D j ∨ j = i := by
  unfold lst
  rw [Array.getD_eq_getD_getElem?, Array.getD_eq_getD_getElem?, Array.getElem?_setIfInBounds]
  by_cases e : i = j
  · subst e
    simp [hi]
  · rw [if_neg e]
    exact ⟨.inl, fun x => x.resolve_right (fun h => e h.symm)⟩
theorem hasN_iff {n : Nat} {l : List Nat} : hasN n l = true ↔ n ∈ l := by
  unfold hasN
  rw [List.any_eq_true]
  constructor
  · rintro ⟨m, hm, e⟩
    rw [← Nat.eq_of_beq_eq_true e]
    exact hm
  · intro hm
    exact ⟨n, hm, by simp⟩
theorem wrts_iff {d i : Nat} : ∀ (l : List Oper) (k : Nat), (d, i) ∈ wrts k l ↔ ∃ j o, l[j]? = some o ∧ i = k + j ∧ o.dst = some d
  | [], k => by simp [wrts]
  | o :: l, k => by
    have ih := wrts_iff (d := d) (i := i) l (k + 1)
    have tail : (∃ j o', l[j]? = some o' ∧ i = k + 1 + j ∧ o'.dst = some d) ↔ ∃ j o', (o :: l)[j + 1]? = some o' ∧ i = k + (j + 1) ∧ o'.dst = some d := by
      constructor
      · rintro ⟨j, o', h1, h2, h3⟩; exact ⟨j, o', by simpa using h1, by omega, h3⟩
      · rintro ⟨j, o', h1, h2, h3⟩; exact ⟨j, o', by simpa using h1, by omega, h3⟩
    unfold wrts
    cases hd : o.dst with
    | none =>
      simp only
      rw [ih, tail]
      constructor
      · rintro ⟨j, o', h⟩; exact ⟨j + 1, o', h⟩
      · rintro ⟨j, o', h1, h2, h3⟩
        cases j with
        | zero => simp at h1; subst h1; rw [hd] at h3; cases h3
        | succ j => exact ⟨j, o', h1, h2, h3⟩
    | some d' =>
      simp only [List.mem_cons, Prod.mk.injEq]
      rw [ih, tail]
      constructor
      · rintro (⟨rfl, rfl⟩ | ⟨j, o', h⟩)
        · exact ⟨0, o, rfl, rfl, hd⟩
        · exact ⟨j + 1, o', h⟩
      · rintro ⟨j, o', h1, h2, h3⟩
        cases j with
        | zero => simp at h1; subst h1; rw [hd] at h3; cases h3; exact .inl ⟨rfl, by omega⟩
        | succ j => exact .inr ⟨j, o', h1, h2, h3⟩
theorem wrts_mem {i d : Nat} : (d, i) ∈ wrts 0 ops.toList ↔ ∃ o, ops[i]? = some o ∧ o.dst = some d := by
  rw [wrts_iff]
  constructor
  · rintro ⟨j, o, h1, h2, h3⟩
    rw [Nat.zero_add] at h2
    subst h2
    exact ⟨o, by simpa using h1, h3⟩
  · rintro ⟨o, h1, h2⟩
    exact ⟨i, o, by simpa using h1, by omega, h2⟩
theorem distinct_eq : ∀ {l : List (Nat × Nat)} {d i j : Nat}, distinctW l = true → (d, i) ∈ l → (d, j) ∈ l → i = j
  | [], _, _, _, _, h, _ => by cases h
  | (d', k) :: l, d, i, j, hd, h1, h2 => by
    unfold distinctW at hd
    rw [Bool.and_eq_true, List.all_eq_true] at hd
    have no : ∀ m, (d', m) ∈ l → False := fun m hm => by
      have := hd.1 _ hm
      simp at this
    rcases List.mem_cons.1 h1 with e1 | h1
    · cases e1
      rcases List.mem_cons.1 h2 with e2 | h2
      · cases e2; rfl
      · exact (no _ h2).elim
    · rcases List.mem_cons.1 h2 with e2 | h2
      · cases e2; exact (no _ h1).elim
      · exact distinct_eq hd.2 h1 h2
theorem masks_at {n : Nat} : ∀ (l : List Oper) (k : Nat), masksOk M n k l = true → ∀ j o, l[j]? = some o → maskOk1 M n (k + j) (depsOf o) = true
  | [], _, _, j, o, h => by simp at h
  | x :: l, k, hm, j, o, h => by
    unfold masksOk at hm
    rw [Bool.and_eq_true] at hm
    cases j with
    | zero => simp at h; subst h; exact hm.1
    | succ j =>
      have := masks_at l (k + 1) hm.2 j o (by simpa using h)
      rwa [show k + 1 + j = k + (j + 1) by omega] at this
theorem mask_spec (hm : masksOk M ops.size 0 ops.toList = true) {i : Nat} {o : Oper} (hi : ops[i]? = some o) : (∀ d ∈ depsOf o, d < i) ∧ ∀ j, j < ops.size → bitAt (nthN M i) j = true → ∃ d ∈ depsOf o, d = j ∨ bitAt (nthN M d) j = true := by
  have h1 := masks_at ops.toList 0 hm i o (by simpa using hi)
  rw [Nat.zero_add] at h1
  unfold maskOk1 at h1
  rw [Bool.and_eq_true, List.all_eq_true, List.all_eq_true] at h1
  refine ⟨fun d hd => ?_, fun j hj hb => ?_⟩
  · have := h1.1 d hd
    rw [blt_eq] at this
    exact of_decide_eq_true this
  · have h2 := h1.2 j (List.mem_range.2 hj)
    rw [hb] at h2
    simp only [Bool.not_true, Bool.false_or] at h2
    rw [List.any_eq_true] at h2
    obtain ⟨d, hd, h3⟩ := h2
    rw [Bool.or_eq_true] at h3
    exact ⟨d, hd, h3.imp (fun e => Nat.eq_of_beq_eq_true e) id⟩
/-- Who stands ahead of one that may run has run. -/
theorem ahead_listed (hm : masksOk M ops.size 0 ops.toList = true) (down : ∀ i o, ops[i]? = some o → lst D i → ∀ d ∈ depsOf o, lst D d) : ∀ (i : Nat) (o : Oper), ops[i]? = some o → (∀ d ∈ depsOf o, lst D d) →
    ∀ j, j < ops.size → bitAt (nthN M i) j = true → lst D j := by
  intro i
  induction i using Nat.strongRecOn with
  | _ i ih =>
    intro o hi hd j hj hb
    obtain ⟨h1, h2⟩ := mask_spec hm hi
    obtain ⟨d, hd1, e | e⟩ := h2 j hj hb
    · subst e; exact hd d hd1
    · have hlt := h1 d hd1
      have hin : i < ops.size := (Array.getElem?_eq_some_iff.1 hi).1
      have hod : ops[d]? = some (ops[d]'(by omega)) := Array.getElem?_eq_getElem (by omega)
      exact ih d hlt _ hod (down d _ hod (hd d hd1)) j hj e
theorem lates_iff {d i : Nat} : ∀ (l : List Oper) (k : Nat), (d, i) ∈ lates k l → (d, i) ∈ wrts k l
  | [], k => by simp [lates]
  | o :: l, k => by
    have ih := lates_iff (d := d) (i := i) l (k + 1)
    unfold lates wrts
    cases hd : o.dst with
    | none => exact ih
    | some d' =>
      simp only
      split
      · rename_i h1 h2
        cases h1
        intro h
        rcases List.mem_cons.1 h with e | h
        · cases e; exact List.mem_cons_self
        · exact List.mem_cons_of_mem _ (ih h)
      · intro h
        exact List.mem_cons_of_mem _ (ih h)
theorem isLate_wr {t : Nat} (e : isLate (lates 0 ops.toList) t = true) : ∃ (i : Nat) (o : Oper), ops[i]? = some o ∧ o.dst = some t := by
  unfold isLate at e
  rw [List.any_eq_true] at e
  obtain ⟨⟨d, i⟩, h1, h2⟩ := e
  have h2 := Nat.eq_of_beq_eq_true h2
  simp only at h2
  subst h2
  obtain ⟨o, h3, h4⟩ := wrts_mem.1 (lates_iff _ _ h1)
  exact ⟨i, o, h3, h4⟩
theorem okAt_spec {L : List (Nat × Nat)} {i t : Nat} (e : okAt nt (wrts 0 ops.toList) L M i t = true) : t < nt ∧ ((isLate L t = false ∧ ∀ j o, ops[j]? = some o → o.dst = some t → bitAt (nthN M i) j = true) ∨
    (isLate L t = true ∧ ∀ j o, ops[j]? = some o → o.dst = some t → bitAt (nthN M j) i = true)) := by
  unfold okAt at e
  rw [Bool.and_eq_true, List.all_eq_true, blt_eq] at e
  refine ⟨of_decide_eq_true e.1, ?_⟩
  cases hl : isLate L t with
  | false =>
    refine .inl ⟨rfl, fun j o hj hd => ?_⟩
    have := e.2 (t, j) (wrts_mem.2 ⟨o, hj, hd⟩)
    simpa [hl] using this
  | true =>
    refine .inr ⟨rfl, fun j o hj hd => ?_⟩
    have := e.2 (t, j) (wrts_mem.2 ⟨o, hj, hd⟩)
    simpa [hl] using this
/-- Places that are written differ from one another, and from those of variables that are looked at. -/
theorem slL_inj {L : List (Nat × Nat)} (hn : nt + nt ≤ 1000000) {t u : Nat} (ht : t < nt) (hu : u < nt) (h : slL nt L t = slL nt L u) : t = u := by
  unfold slL at h
  cases h1 : isLate L t <;> cases h2 : isLate L u <;> rw [h1, h2] at h <;> simp only [cond_true, cond_false] at h
  · exact slot_inj (by omega) (by omega) h
  · have := slot_inj (by omega) (by omega) h; omega
  · have := slot_inj (by omega) (by omega) h; omega
  · have := slot_inj (by omega) (by omega) h; omega
theorem slL_ne {L : List (Nat × Nat)} (hn : nt + nt ≤ 1000000) {t u : Nat} (ht : t < nt) (hu : u < nt) (hl : isLate L u = true) : slL nt L t ≠ slot u := by
  intro h
  unfold slL at h
  cases h1 : isLate L t <;> rw [h1] at h <;> simp only [cond_true, cond_false] at h
  · have := slot_inj (by omega) (by omega) h
    subst this
    rw [h1] at hl; cases hl
  · have := slot_inj (by omega) (by omega) h; omega
theorem slL_not {L : List (Nat × Nat)} {t : Nat} (h : isLate L t = false) : slL nt L t = slot t := by unfold slL; rw [h]; rfl
theorem get_e0 (p : Pos) {fr : Fr} (h : T.get fr p = none) : Fr.get fr p = .undef := by unfold Fr.get; rw [h]; rfl
theorem fin1_get (p q : Pos) (fr : Fr) : fin1 p q fr = T.set fr q (some (Fr.get fr p)) := by
  unfold fin1
  cases h : T.get fr p with
  | none => rw [get_e0 p h]; rfl
  | some v => unfold Fr.get; rw [h]; rfl
theorem fins_get (hn : nt + nt ≤ 1000000) : ∀ (L : List (Nat × Nat)) (fr : Fr), (∀ x ∈ L, x.1 < nt) → ∀ t, t < nt → Fr.get (fins nt L fr) (slot t) = Fr.get fr (slL nt L t) ∧ Fr.get (fins nt L fr) (slot (nt + t)) = Fr.get fr (slot (nt + t))
  | [], fr, _, t, ht => ⟨rfl, rfl⟩
  | x :: L, fr, hL, t, ht => by
    have hx := hL x List.mem_cons_self
    obtain ⟨ih1, ih2⟩ := fins_get hn L (fin1 (slot (nt + x.1)) (slot x.1) fr) (fun y hy => hL y (List.mem_cons_of_mem _ hy)) t ht
    have e : fins nt (x :: L) fr = fins nt L (fin1 (slot (nt + x.1)) (slot x.1) fr) := rfl
    have far : Fr.get (fin1 (slot (nt + x.1)) (slot x.1) fr) (slot (nt + t)) = Fr.get fr (slot (nt + t)) := by
      rw [fin1_get, get_set_ne' fr _ (fun e => by have := slot_inj (by omega) (by omega) e; omega)]
    rw [e, ih1, ih2, far]
    refine ⟨?_, rfl⟩
    by_cases hxt : x.1 = t
    · have h1 : isLate (x :: L) t = true := by unfold isLate; rw [List.any_cons, hxt]; simp
      have h2 : slL nt (x :: L) t = slot (nt + t) := by unfold slL; rw [h1]; rfl
      rw [h2]
      cases hl : isLate L t with
      | true =>
        have : slL nt L t = slot (nt + t) := by unfold slL; rw [hl]; rfl
        rw [this, far]
      | false =>
        rw [slL_not hl, fin1_get, hxt, get_set_same']
    · have h1 : isLate (x :: L) t = isLate L t := by
        unfold isLate
        rw [List.any_cons]
        have : Nat.beq x.1 t = false := by rw [Bool.eq_false_iff]; exact fun h => hxt (Nat.eq_of_beq_eq_true h)
        rw [this, Bool.false_or]
      have h2 : slL nt (x :: L) t = slL nt L t := by unfold slL; rw [h1]
      rw [h2, fin1_get]
      refine get_set_ne' fr _ fun e => ?_
      cases hl : isLate L t with
      | true =>
        have : slL nt L t = slot (nt + t) := by unfold slL; rw [hl]; rfl
        rw [this] at e
        have := slot_inj (by omega) (by omega) e; omega
      | false =>
        rw [slL_not hl] at e
        exact hxt (slot_inj (by omega) (by omega) e)
/-- Where an operation of such a region lays its value. -/
def DstL (nt : Nat) (L : List (Nat × Nat)) (dst : Option Tmp) (d : Option Pos) : Prop := (dst = none ∧ d = none) ∨ ∃ t, dst = some t ∧ t < nt ∧ d = some (slL nt L t)
theorem dstL_ok {L : List (Nat × Nat)} {o : Oper} {d : Option Pos} (e : dstL nt L o = some d) : DstL nt L o.dst d := by
  unfold dstL at e
  cases h : o.dst with
  | none => rw [h] at e; cases e; exact .inl ⟨rfl, rfl⟩
  | some t =>
    rw [h] at e
    simp only at e
    cases hb : Nat.blt t nt with
    | false => rw [hb] at e; cases e
    | true =>
      rw [hb] at e
      cases e
      rw [blt_eq] at hb
      exact .inr ⟨t, rfl, of_decide_eq_true hb, rfl⟩

structure Inv (P : Program) (B : Nat) (W : World) (nt : Nat) (ops : Array Oper) (itF : Nat → Option It) (ι0 : Pos → Option Nat) (h0 : H) (w0 : World) (s : St) (ss : List St) (D : Array Bool) (ι : Pos → Option Nat) (fr : Fr) (h : H) (a : Act) (w : World) : Prop where
  dsize : D.size = ops.size
  size : a.tmps.size = nt
  defers : a.defers = []
  rel : Rel P B W ι h w
  ext : Ext ι0 h0 w0 ι h w
  down : ∀ i o, ops[i]? = some o → lst D i → ∀ d ∈ depsOf o, lst D d
  cover : ∀ i, i < ops.size → ¬ lst D i → i ∈ s.opn ∨ i ∈ restOf s.eff ss
  rest : ∀ i ∈ restOf s.eff ss, ¬ lst D i
  frame : ∀ t, t < nt → (∀ i o, ops[i]? = some o → o.dst = some t → lst D i) → V (cx ι h w) (Fr.get fr (slL nt (lates 0 ops.toList) t)) (a.tmps.getD t undef)
  early : ∀ t, t < nt → isLate (lates 0 ops.toList) t = true → (∀ i o, ops[i]? = some o → o.dst = some t → ¬ lst D i) → V (cx ι h w) (Fr.get fr (slot t)) (a.tmps.getD t undef)
  pend : ∀ i ∈ s.opn, ¬ lst D i → ∀ x, itF i = some x → ∀ b, x.blk fr = some b → ι b = none ∧ ¬ b.num < h0.nx.num

variable {itF : Nat → Option It} {s : St} {ss : List St}
theorem put_at {dst : Option Tmp} {u : Value} {t : Nat} : (dst = some t → t < a.tmps.size → (a.put dst u).tmps.getD t undef = u) ∧ (dst ≠ some t → (a.put dst u).tmps.getD t undef = a.tmps.getD t undef) := by
  constructor
  · rintro rfl ht
    simp [Act.put, ht]
  · intro hd
    cases dst with
    | none => rfl
    | some d =>
      have : d ≠ t := fun e => hd (by rw [e])
      simp only [Act.put, Array.getD_eq_getD_getElem?, Array.getElem?_setIfInBounds, if_neg this]
theorem Inv.exec (inv : Inv P B W nt ops itF ι0 h0 w0 s ss D ι fr h a w) {i : Nat} {o : Oper} (hi : ops[i]? = some o) (hs : i ∈ s.opn) (hr : i ∉ restOf s.eff ss) (hd : ∀ d ∈ depsOf o, lst D d) {ι' : Pos → Option Nat} {w' : World} {u : Value}
    (rel' : Rel P B W ι' h w') (ext' : Ext ι0 h0 w0 ι' h w') (le : (cx ι h w).Le (cx ι' h w')) (hv : ∀ t, o.dst = some t → V (cx ι' h w') (Fr.get fr (slL nt (lates 0 ops.toList) t)) u)
    (hp : ∀ j ∈ s.opn, j ≠ i → ¬ lst D j → ∀ x, itF j = some x → ∀ b, x.blk fr = some b → ι' b = none) : Inv P B W nt ops itF ι0 h0 w0 s ss (D.setIfInBounds i true) ι' fr h (a.put o.dst u) w' := by
  have hin : i < D.size := by rw [inv.dsize]; exact (Array.getElem?_eq_some_iff.1 hi).1
  have nl : ∀ {j}, ¬ lst (D.setIfInBounds i true) j → ¬ lst D j ∧ j ≠ i := fun {j} hn => by
    rw [lst_set hin] at hn
    exact ⟨fun h => hn (.inl h), fun h => hn (.inr h)⟩
  refine ⟨by simp [inv.dsize], ?_, ?_, rel', ext', fun j oj hj hl d hdj => ?_, fun j hj hn => inv.cover j hj (nl hn).1, fun j hj hl => ?_, fun t ht hw => ?_, fun t ht hl hw => ?_, fun j hj hn x hx b hb => ?_⟩
  · cases ho : o.dst with
    | none => exact inv.size
    | some d => simp [Act.put, inv.size]
  · cases ho : o.dst with
    | none => exact inv.defers
    | some d => exact inv.defers
  · rw [lst_set hin] at hl ⊢
    rcases hl with hl | rfl
    · exact .inl (inv.down j oj hj hl d hdj)
    · rw [hi] at hj
      cases hj
      exact .inl (hd d hdj)
  · rw [lst_set hin] at hl
    rcases hl with hl | rfl
    · exact inv.rest j hj hl
    · exact hr hj
  · by_cases e : o.dst = some t
    · rw [put_at.1 e (by rw [inv.size]; exact ht)]
      exact hv t e
    · rw [put_at.2 e]
      refine (inv.frame t ht fun j oj hj hdj => ?_).mono le
      have := hw j oj hj hdj
      rw [lst_set hin] at this
      rcases this with h1 | rfl
      · exact h1
      · rw [hi] at hj
        cases hj
        exact absurd hdj e
  · by_cases e : o.dst = some t
    · exact absurd ((lst_set hin).2 (.inr rfl)) (hw i o hi e)
    · rw [put_at.2 e]
      refine (inv.early t ht hl fun j oj hj hdj h => ?_).mono le
      exact hw j oj hj hdj ((lst_set hin).2 (.inl h))
  · obtain ⟨h1, h2⟩ := nl hn
    exact ⟨hp j hj h2 h1 x hx b hb, (inv.pend j hj h1 x hx b hb).2⟩
theorem Inv.fo (inv : Inv P B W nt ops itF ι0 h0 w0 s ss D ι fr h a w) (hm : masksOk M ops.size 0 ops.toList = true) {i : Nat} {o : Oper} (hi : ops[i]? = some o) (hnl : ¬ lst D i) (hd : ∀ d ∈ depsOf o, lst D d) :
    FO (okAt nt (wrts 0 ops.toList) (lates 0 ops.toList) M i) (cx ι h w) fr a :=
  ⟨fun t ht => by
    obtain ⟨h1, ⟨h3, h2⟩ | ⟨h3, h2⟩⟩ := okAt_spec ht
    · rw [← slL_not (nt := nt) h3]
      exact inv.frame t h1 fun j oj hj hdj => ahead_listed hm inv.down i o hi hd j (Array.getElem?_eq_some_iff.1 hj).1 (h2 j oj hj hdj)
    · exact inv.early t h1 h3 fun j oj hj hdj hl => hnl (ahead_listed hm inv.down j oj hj (inv.down j oj hj hl) i (Array.getElem?_eq_some_iff.1 hi).1 (h2 j oj hj hdj))⟩
end
end Ev
end Go.Proofs.YtfpghnldcbhniaaGreat
