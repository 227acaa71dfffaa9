/- Regions that draw their order: whatever the order, the run's values come. -/
import Derived.Test.YtohphljhldcjbaaGreatEvV
namespace Go.Proofs.YtohphljhldcjbaaGreat
set_option linter.unusedVariables false
set_option linter.unusedSimpArgs false
open Go.RowKit Go.Maps
namespace Ev

section
variable {P : Program} {B : Nat} {W : World} {ι ι0 : Pos → Option Nat} {h h0 : H} {w w0 : World} {fr : Fr} {a : Act} {nt : Nat} {ops : Array Oper} {M : List Nat} {D : Array Bool}

def lst (D : Array Bool) (i : Nat) : Prop := D.getD i false = true
theorem lst_set {i j : Nat} (hi : i < D.size) : lst (D.setIfInBounds i true) j ↔ lst D j ∨ j = i := by
  unfold lst
  rw [Array.getD_eq_getD_getElem?, Array.getD_eq_getD_getElem?, Array.getElem?_setIfInBounds]
  by_cases e : i = j
  · subst e
    simp [hi]
  · rw [if_neg e]
    exact ⟨.inl, fun x => x.resolve_right (fun h => e h.symm)⟩
theorem hasN_iff {n : Nat} {l : List Nat} : hasN n l = true ↔ n ∈ l := by
  unfold hasN
  rw [List.any_eq_true]
  constructor
  · rintro ⟨m, hm, e⟩
    rw [← Nat.eq_of_beq_eq_true e]
    exact hm
  · intro hm
    exact ⟨n, hm, by simp⟩
theorem wrts_iff {d i : Nat} : ∀ (l : List Oper) (k : Nat), (d, i) ∈ wrts k l ↔ ∃ j o, l[j]? = some o ∧ i = k + j ∧ o.dst = some d
  | [], k => by simp [wrts]
  | o :: l, k => by
    have ih := wrts_iff (d := d) (i := i) l (k + 1)
    have tail : (∃ j o', l[j]? = some o' ∧ i = k + 1 + j ∧ o'.dst = some d) ↔ ∃ j o', (o :: l)[j + 1]? = some o' ∧ i = k + (j + 1) ∧ o'.dst = some d := by
      constructor
      · rintro ⟨j, o', h1, h2, h3⟩; exact ⟨j, o', by simpa using h1, by omega, h3⟩
      · rintro ⟨j, o', h1, h2, h3⟩; exact ⟨j, o', by simpa using h1, by omega, h3⟩
    unfold wrts
    cases hd : o.dst with
    | none =>
      simp only
      rw [ih, tail]
      constructor
      · rintro ⟨j, o', h⟩; exact ⟨j + 1, o', h⟩
      · rintro ⟨j, o', h1, h2, h3⟩
        cases j with
        | zero => simp at h1; subst h1; rw [hd] at h3; cases h3
        | succ j => exact ⟨j, o', h1, h2, h3⟩
    | some d' =>
      simp only [List.mem_cons, Prod.mk.injEq]
      rw [ih, tail]
      constructor
      · rintro (⟨rfl, rfl⟩ | ⟨j, o', h⟩)
        · exact ⟨0, o, rfl, rfl, hd⟩
        · exact ⟨j + 1, o', h⟩
      · rintro ⟨j, o', h1, h2, h3⟩
        cases j with
        | zero => simp at h1; subst h1; rw [hd] at h3; cases h3; exact .inl ⟨rfl, by omega⟩
        | succ j => exact .inr ⟨j, o', h1, h2, h3⟩
theorem wrts_mem {i d : Nat} : (d, i) ∈ wrts 0 ops.toList ↔ ∃ o, ops[i]? = some o ∧ o.dst = some d := by
  rw [wrts_iff]
  constructor
  · rintro ⟨j, o, h1, h2, h3⟩
    rw [Nat.zero_add] at h2
    subst h2
    exact ⟨o, by simpa using h1, h3⟩
  · rintro ⟨o, h1, h2⟩
    exact ⟨i, o, by simpa using h1, by omega, h2⟩
theorem distinct_eq : ∀ {l : List (Nat × Nat)} {d i j : Nat}, distinctW l = true → (d, i) ∈ l → (d, j) ∈ l → i = j
  | [], _, _, _, _, h, _ => by cases h
  | (d', k) :: l, d, i, j, hd, h1, h2 => by
    unfold distinctW at hd
    rw [Bool.and_eq_true, List.all_eq_true] at hd
    have no : ∀ m, (d', m) ∈ l → False := fun m hm => by
      have := hd.1 _ hm
      simp at this
    rcases List.mem_cons.1 h1 with e1 | h1
    · cases e1
      rcases List.mem_cons.1 h2 with e2 | h2
      · cases e2; rfl
      · exact (no _ h2).elim
    · rcases List.mem_cons.1 h2 with e2 | h2
      · cases e2; exact (no _ h1).elim
      · exact distinct_eq hd.2 h1 h2
theorem masks_at {n : Nat} : ∀ (l : List Oper) (k : Nat), masksOk M n k l = true → ∀ j o, l[j]? = some o → maskOk1 M n (k + j) (depsOf o) = true
  | [], _, _, j, o, h => by simp at h
  | x :: l, k, hm, j, o, h => by
    unfold masksOk at hm
    rw [Bool.and_eq_true] at hm
    cases j with
    | zero => simp at h; subst h; exact hm.1
    | succ j =>
      have := masks_at l (k + 1) hm.2 j o (by simpa using h)
      rwa [show k + 1 + j = k + (j + 1) by omega] at this
theorem mask_spec (hm : masksOk M ops.size 0 ops.toList = true) {i : Nat} {o : Oper} (hi : ops[i]? = some o) : (∀ d ∈ depsOf o, d < i) ∧ ∀ j, j < ops.size → bitAt (nthN M i) j = true → ∃ d ∈ depsOf o, d = j ∨ bitAt (nthN M d) j = true := by
  have h1 := masks_at ops.toList 0 hm i o (by simpa using hi)
  rw [Nat.zero_add] at h1
  unfold maskOk1 at h1
  rw [Bool.and_eq_true, List.all_eq_true, List.all_eq_true] at h1
  refine ⟨fun d hd => ?_, fun j hj hb => ?_⟩
  · have := h1.1 d hd
    rw [blt_eq] at this
    exact of_decide_eq_true this
  · have h2 := h1.2 j (List.mem_range.2 hj)
    rw [hb] at h2
    simp only [Bool.not_true, Bool.false_or] at h2
    rw [List.any_eq_true] at h2
    obtain ⟨d, hd, h3⟩ := h2
    rw [Bool.or_eq_true] at h3
    exact ⟨d, hd, h3.imp (fun e => Nat.eq_of_beq_eq_true e) id⟩
/-- Who stands ahead of one that may run has run. -/
theorem ahead_listed (hm : masksOk M ops.size 0 ops.toList = true) (down : ∀ i o, ops[i]? = some o → lst D i → ∀ d ∈ depsOf o, lst D d) : ∀ (i : Nat) (o : Oper), ops[i]? = some o → (∀ d ∈ depsOf o, lst D d) →
    ∀ j, j < ops.size → bitAt (nthN M i) j = true → lst D j := by
  intro i
  induction i using Nat.strongRecOn with
  | _ i ih =>
    intro o hi hd j hj hb
    obtain ⟨h1, h2⟩ := mask_spec hm hi
    obtain ⟨d, hd1, e | e⟩ := h2 j hj hb
    · subst e; exact hd d hd1
    · have hlt := h1 d hd1
      have hin : i < ops.size := (Array.getElem?_eq_some_iff.1 hi).1
      have hod : ops[d]? = some (ops[d]'(by omega)) := Array.getElem?_eq_getElem (by omega)
      exact ih d hlt _ hod (down d _ hod (hd d hd1)) j hj e
theorem okAt_spec {m t : Nat} (e : okAt nt (wrts 0 ops.toList) m t = true) : t < nt ∧ ∀ j o, ops[j]? = some o → o.dst = some t → bitAt m j = true := by
  unfold okAt at e
  rw [Bool.and_eq_true, List.all_eq_true, blt_eq] at e
  refine ⟨of_decide_eq_true e.1, fun j o hj hd => ?_⟩
  have := e.2 (t, j) (wrts_mem.2 ⟨o, hj, hd⟩)
  simpa using this

structure Inv (P : Program) (B : Nat) (W : World) (nt : Nat) (ops : Array Oper) (itF : Nat → Option It) (ι0 : Pos → Option Nat) (h0 : H) (w0 : World) (s : St) (ss : List St) (D : Array Bool) (ι : Pos → Option Nat) (fr : Fr) (h : H) (a : Act) (w : World) : Prop where
  dsize : D.size = ops.size
  size : a.tmps.size = nt
  defers : a.defers = []
  rel : Rel P B W ι h w
  ext : Ext ι0 h0 w0 ι h w
  down : ∀ i o, ops[i]? = some o → lst D i → ∀ d ∈ depsOf o, lst D d
  cover : ∀ i, i < ops.size → ¬ lst D i → i ∈ s.opn ∨ i ∈ restOf s.eff ss
  rest : ∀ i ∈ restOf s.eff ss, ¬ lst D i
  frame : ∀ t, t < nt → (∀ i o, ops[i]? = some o → o.dst = some t → lst D i) → V (cx ι h w) (Fr.get fr (slot t)) (a.tmps.getD t undef)
  pend : ∀ i ∈ s.opn, ¬ lst D i → ∀ x, itF i = some x → ∀ b, x.blk fr = some b → ι b = none ∧ ¬ b.num < h0.nx.num

variable {itF : Nat → Option It} {s : St} {ss : List St}
theorem put_at {dst : Option Tmp} {u : Value} {t : Nat} : (dst = some t → t < a.tmps.size → (a.put dst u).tmps.getD t undef = u) ∧ (dst ≠ some t → (a.put dst u).tmps.getD t undef = a.tmps.getD t undef) := by
  constructor
  · rintro rfl ht
    simp [Act.put, ht]
  · intro hd
    cases dst with
    | none => rfl
    | some d =>
      have : d ≠ t := fun e => hd (by rw [e])
      simp only [Act.put, Array.getD_eq_getD_getElem?, Array.getElem?_setIfInBounds, if_neg this]
theorem Inv.exec (inv : Inv P B W nt ops itF ι0 h0 w0 s ss D ι fr h a w) {i : Nat} {o : Oper} (hi : ops[i]? = some o) (hs : i ∈ s.opn) (hr : i ∉ restOf s.eff ss) (hd : ∀ d ∈ depsOf o, lst D d) {ι' : Pos → Option Nat} {w' : World} {u : Value}
    (rel' : Rel P B W ι' h w') (ext' : Ext ι0 h0 w0 ι' h w') (le : (cx ι h w).Le (cx ι' h w')) (hv : ∀ t, o.dst = some t → V (cx ι' h w') (Fr.get fr (slot t)) u)
    (hp : ∀ j ∈ s.opn, j ≠ i → ¬ lst D j → ∀ x, itF j = some x → ∀ b, x.blk fr = some b → ι' b = none) : Inv P B W nt ops itF ι0 h0 w0 s ss (D.setIfInBounds i true) ι' fr h (a.put o.dst u) w' := by
  have hin : i < D.size := by rw [inv.dsize]; exact (Array.getElem?_eq_some_iff.1 hi).1
  have nl : ∀ {j}, ¬ lst (D.setIfInBounds i true) j → ¬ lst D j ∧ j ≠ i := fun {j} hn => by
    rw [lst_set hin] at hn
    exact ⟨fun h => hn (.inl h), fun h => hn (.inr h)⟩
  refine ⟨by simp [inv.dsize], ?_, ?_, rel', ext', fun j oj hj hl d hdj => ?_, fun j hj hn => inv.cover j hj (nl hn).1, fun j hj hl => ?_, fun t ht hw => ?_, fun j hj hn x hx b hb => ?_⟩
  · cases ho : o.dst with
    | none => exact inv.size
    | some d => simp [Act.put, inv.size]
  · cases ho : o.dst with
    | none => exact inv.defers
    | some d => exact inv.defers
  · rw [lst_set hin] at hl ⊢
    rcases hl with hl | rfl
    · exact .inl (inv.down j oj hj hl d hdj)
    · rw [hi] at hj
      cases hj
      exact .inl (hd d hdj)
  · rw [lst_set hin] at hl
    rcases hl with hl | rfl
    · exact inv.rest j hj hl
    · exact hr hj
  · by_cases e : o.dst = some t
    · rw [put_at.1 e (by rw [inv.size]; exact ht)]
      exact hv t e
    · rw [put_at.2 e]
      refine (inv.frame t ht fun j oj hj hdj => ?_).mono le
      have := hw j oj hj hdj
      rw [lst_set hin] at this
      rcases this with h1 | rfl
      · exact h1
      · rw [hi] at hj
        cases hj
        exact absurd hdj e
  · obtain ⟨h1, h2⟩ := nl hn
    exact ⟨hp j hj h2 h1 x hx b hb, (inv.pend j hj h1 x hx b hb).2⟩
theorem Inv.fo (inv : Inv P B W nt ops itF ι0 h0 w0 s ss D ι fr h a w) (hm : masksOk M ops.size 0 ops.toList = true) {i : Nat} {o : Oper} (hi : ops[i]? = some o) (hd : ∀ d ∈ depsOf o, lst D d) : FO (okAt nt (wrts 0 ops.toList) (nthN M i)) (cx ι h w) fr a :=
  ⟨fun t ht => by
    obtain ⟨h1, h2⟩ := okAt_spec ht
    exact inv.frame t h1 fun j oj hj hdj => ahead_listed hm inv.down i o hi hd j (Array.getElem?_eq_some_iff.1 hj).1 (h2 j oj hj hdj)⟩
end
end Ev
end Go.Proofs.YtohphljhldcjbaaGreat
