/- Memory that is not made yet; values that are the same. Regions that draw their order: whatever the order, the run's values come. Regions that draw their order: one operation that is no effect. Regions that draw their order: stage by stage. Regions that draw their order: all of it. Code. The run of a function. The run of a function, at last: a reckoned run tells what a call gives. Types of keys: what a seat lays. -/
import Derived.Test.YtoaimjielnempaaGreatDoorNsC
import Derived.Orders
import Derived.Test.YtoaimjielnempaaGreatDoorNsA
import Derived.DeepKeys4
namespace Go.Proofs.YtoaimjielnempaaGreatDoor
set_option linter.unusedVariables false
set_option linter.unusedSimpArgs false
open Go.RowKit Go.Maps
namespace Ev

section
variable {P : Program} {B : Nat} {W : World} {ι : Pos → Option Nat} {h h' : H} {w w' : World} {o : AObj} {b : Pos}

theorem Rel.drew (r : Rel P B W ι h w) : Rel P B W ι h { w with drawn := w.drawn + 1 } ∧ Ext ι h w ι h { w with drawn := w.drawn + 1 } := by
  have ext : Ext ι h w ι h { w with drawn := w.drawn + 1 } :=
    ⟨Nat.le_refl _, fun p o' _ hp => ⟨⟨o', hp⟩, rfl⟩, fun p o' y hn hp hy => absurd (r.fresh p o' hp) hn, Nat.le_refl _, fun _ _ => rfl, fun _ _ _ => rfl, rfl, rfl, rfl⟩
  exact ⟨⟨r.fresh, fun p o' y hp hy => ObjR.mono (ext.le r) rfl (r.ob p o' y hp hy), r.inj, r.base, r.low, ext.out r⟩, ext⟩
/-- What no live number stands for is forgotten. -/
noncomputable def cut (ι : Pos → Option Nat) (h : H) : Pos → Option Nat := fun b => ob (h.obj b) none fun _ => ι b
theorem cut_live (ι : Pos → Option Nat) {h : H} {b : Pos} {o : AObj} (hb : h.obj b = some o) : cut ι h b = ι b := by unfold cut; rw [hb]; rfl
theorem cut_dead (ι : Pos → Option Nat) {h : H} {b : Pos} (hb : h.obj b = none) : cut ι h b = none := by unfold cut; rw [hb]; rfl
theorem Rel.cut (r : Rel P B W ι h w) : Rel P B W (cut ι h) h w ∧ Ext ι h w (cut ι h) h w := by
  have ext : Ext ι h w (Ev.cut ι h) h w :=
    ⟨Nat.le_refl _, fun p o' _ hp => ⟨⟨o', hp⟩, cut_live ι hp⟩, fun p o' y hn hp hy => absurd (r.fresh p o' hp) hn, Nat.le_refl _, fun _ _ => rfl, fun _ _ _ => rfl, rfl, rfl, rfl⟩
  refine ⟨⟨r.fresh, fun p o' y hp hy => ?_, fun p p' o1 o2 y hp hp' hy hy' => ?_, fun p o' y hp hy => ?_, r.low, ext.out r⟩, ext⟩
  · rw [cut_live ι hp] at hy
    exact ObjR.mono (ext.le r) rfl (r.ob p o' y hp hy)
  · rw [cut_live ι hp] at hy
    rw [cut_live ι hp'] at hy'
    exact r.inj p p' o1 o2 y hp hp' hy hy'
  · rw [cut_live ι hp] at hy
    exact r.base p o' y hp hy
/-- A block that is yet to be made. -/
theorem Rel.pend (r : Rel P B W ι h w) (hι : ι h.nx = none) (o : AObj) : Rel P B W ι (h.new o) w ∧ Ext ι h w ι (h.new o) w := by
  have hlt : ∀ p : Pos, p.num < h.nx.num → p ≠ h.nx := fun p hp e => by rw [e] at hp; omega
  have old : ∀ p o' y, (h.new o).obj p = some o' → ι p = some y → h.obj p = some o' := fun p o' y hp hy => by
    by_cases e : p = h.nx
    · subst e; rw [hι] at hy; cases hy
    · rw [obj_new_ne h o e] at hp; exact hp
  have ext : Ext ι h w ι (h.new o) w := by
    refine ⟨by rw [nx_new]; omega, fun p o' hp h1 => ?_, fun p o' y hn hp hy => ?_, Nat.le_refl _, fun _ _ => rfl, fun _ _ _ => rfl, rfl, rfl, rfl⟩
    · rw [obj_new_ne h o (hlt p hp)] at h1
      exact ⟨⟨o', h1⟩, rfl⟩
    · exact absurd (r.fresh p o' (old p o' y hp hy)) hn
  refine ⟨⟨fun p o' hp => ?_, fun p o' y hp hy => ObjR.mono (ext.le r) rfl (r.ob p o' y (old p o' y hp hy) hy), fun p p' o1 o2 y hp hp' hy hy' => r.inj p p' o1 o2 y (old p o1 y hp hy) (old p' o2 y hp' hy') hy hy',
    fun p o' y hp hy => r.base p o' y (old p o' y hp hy) hy, r.low, ext.out r⟩, ext⟩
  rw [nx_new]
  by_cases e : p = h.nx
  · subst e; omega
  · rw [obj_new_ne h o e] at hp
    have := r.fresh p o' hp
    omega
/-- It is made. -/
theorem Rel.fill {obj : Obj} (r : Rel P B W ι h w) (hb : h.obj b = some o) (hι : ι b = none) (u : WNew w w' obj) (ho : ObjR P (cx ι h w) w' w.heap.size o) :
    Rel P B W (upd ι b w.heap.size) h w' ∧ (cx ι h w).Le (cx (upd ι b w.heap.size) h w') ∧
      ∀ ι0 h0 w0, Rel P B W ι0 h0 w0 → Ext ι0 h0 w0 ι h w → ¬ b.num < h0.nx.num → Ext ι0 h0 w0 (upd ι b w.heap.size) h w' := by
  have hne : ∀ p y, ι p = some y → p ≠ b := fun p y hp e => by subst e; rw [hι] at hp; cases hp
  have hold : ∀ y, y < w.heap.size → w'.heap[y]? = w.heap[y]? := fun y hy => by
    rw [u.heap, Array.getElem?_push, if_neg (by omega)]
  have hbs : ∀ y, y < w.heap.size → bsz w' y = bsz w y := fun y hy => by unfold bsz; rw [hold y hy]
  have hsz : w'.heap.size = w.heap.size + 1 := by rw [u.heap]; simp
  have hle : (cx ι h w).Le (cx (upd ι b w.heap.size) h w') := by
    refine ⟨Nat.le_refl _, fun p hp h1 => h1, fun p y hp _ e => ?_, fun p y hp ⟨o', h1⟩ e => ?_⟩
    · show upd ι b w.heap.size p = some y
      rw [upd_ne ι _ (hne p y e)]; exact e
    · exact hbs y (r.ob p o' y h1 e).lt
  have hout : Below B W w' := by
    refine ⟨u.os.trans r.out.os, u.tape.trans r.out.tape, u.output.trans r.out.output, by have := r.out.size; omega, fun k hk => ?_⟩
    have h1 := r.low
    have h2 := r.out.size
    rw [hold k (by omega)]
    exact r.out.block k hk
  refine ⟨⟨r.fresh, fun p o' y hp hy => ?_, fun p p' o1 o2 y hp hp' hy hy' => ?_, fun p o' y hp hy => ?_, r.low, hout⟩, hle, fun ι0 h0 w0 r0 x hn => ?_⟩
  · by_cases e : p = b
    · subst e
      rw [hb] at hp
      cases hp
      rw [upd_same] at hy
      cases hy
      exact ObjR.mono hle rfl ho
    · rw [upd_ne ι _ e] at hy
      have h1 := r.ob p o' y hp hy
      exact ObjR.mono hle (hold y h1.lt) h1
  · by_cases e : p = b
    · by_cases e' : p' = b
      · rw [e, e']
      · subst e
        rw [upd_same] at hy
        cases hy
        rw [upd_ne ι _ e'] at hy'
        have := (r.ob p' o2 _ hp' hy').lt
        omega
    · rw [upd_ne ι _ e] at hy
      by_cases e' : p' = b
      · subst e'
        rw [upd_same] at hy'
        cases hy'
        have := (r.ob p o1 _ hp hy).lt
        omega
      · rw [upd_ne ι _ e'] at hy'
        exact r.inj p p' o1 o2 y hp hp' hy hy'
  · by_cases e : p = b
    · subst e
      rw [upd_same] at hy
      cases hy
      have h1 := r.low
      have h2 := r.out.size
      omega
    · rw [upd_ne ι _ e] at hy
      exact r.base p o' y hp hy
  · refine ⟨x.nx, fun p o' hp h1 => ?_, fun p o' y hp h1 hy => ?_, by have := x.size; omega, fun y hy => ?_, fun y hy hn' => ?_, u.os.trans x.os, u.tape.trans x.tape, u.output.trans x.output⟩
    · obtain ⟨h2, h3⟩ := x.lv p o' hp h1
      exact ⟨h2, (upd_ne ι _ (fun e => by subst e; exact hn hp)).trans h3⟩
    · by_cases e : p = b
      · subst e
        rw [upd_same] at hy
        cases hy
        exact .inl x.size
      · rw [upd_ne ι _ e] at hy
        exact x.nw p o' y hp h1 hy
    · rw [hbs y (by have := x.size; omega), x.bs y hy]
    · rw [hold y (by have := x.size; omega), x.keep y hy hn']
end

/-! ### The same -/
theorem and'_eq {x y : Bool} (h : and' x y = true) : x = true ∧ y = true := by cases x <;> cases y <;> first | exact ⟨rfl, rfl⟩ | cases h
theorem sameO_eq {x y : Option Nat} (h : sameO x y = true) : x = y := by
  cases x <;> cases y <;> first | rfl | cases h | exact congrArg some (Nat.eq_of_beq_eq_true h)
theorem eqI_eq' {x y : Int} (h : eqI x y = true) : x = y := by
  cases x <;> cases y <;> first | cases h | exact congrArg _ (Nat.eq_of_beq_eq_true h)
mutual
theorem sameAV_eq : ∀ (a b : AV), sameAV a b = true → a = b
  | .undef, b, e => by cases b <;> first | rfl | cases e
  | .bool x, b, e => by cases b <;> first | cases e | (rename_i y; cases x <;> cases y <;> first | rfl | cases e)
  | .int k n, b, e => by
    cases b <;> first | cases e | skip
    rename_i j m
    obtain ⟨h1, h2⟩ := and'_eq (show and' (eqK k j) (eqI n m) = true from e)
    rw [eqK_eq h1, eqI_eq' h2]
  | .str s, b, e => by
    cases b <;> first | cases e | skip
    rename_i t
    have e : eqBytes s t = true := e
    rw [eqBytes_eq] at e
    rw [of_decide_eq_true e]
  | .nilp, b, e => by cases b <;> first | rfl | cases e
  | .ptr p o, b, e => by
    cases b <;> first | cases e | skip
    rename_i q n
    obtain ⟨h1, h2⟩ := and'_eq (show and' (p.beq q) (Nat.beq o n) = true from e)
    rw [(Pos.beq_eq _ _).1 h1, Nat.eq_of_beq_eq_true h2]
  | .nils, b, e => by cases b <;> first | rfl | cases e
  | .slice p o n k s, b, e => by
    cases b <;> first | cases e | skip
    rename_i q o' n' k' s'
    obtain ⟨h1, e⟩ := and'_eq (show and' (p.beq q) (and' (Nat.beq o o') (and' (Nat.beq n n') (and' (sameO k k') (Nat.beq s s')))) = true from e)
    obtain ⟨h2, e⟩ := and'_eq e
    obtain ⟨h3, e⟩ := and'_eq e
    obtain ⟨h4, e⟩ := and'_eq e
    rw [(Pos.beq_eq _ _).1 h1, Nat.eq_of_beq_eq_true h2, Nat.eq_of_beq_eq_true h3, sameO_eq h4, Nat.eq_of_beq_eq_true e]
  | .nilm, b, e => by cases b <;> first | rfl | cases e
  | .map p, b, e => by
    cases b <;> first | cases e | skip
    rename_i q
    rw [(Pos.beq_eq p q).1 e]
  | .nilf, b, e => by cases b <;> first | rfl | cases e
  | .func f n cs, b, e => by
    cases b <;> first | cases e | skip
    rename_i g m ds
    obtain ⟨h1, e⟩ := and'_eq (show and' (Nat.beq f g) (and' (Nat.beq n m) (sameL cs ds)) = true from e)
    obtain ⟨h2, e⟩ := and'_eq e
    rw [Nat.eq_of_beq_eq_true h1, Nat.eq_of_beq_eq_true h2, sameL_eq cs ds e]
  | .iface t v, b, e => by
    cases b <;> first | cases e | skip
    rename_i u x
    obtain ⟨h1, e⟩ := and'_eq (show and' (Nat.beq t u) (sameAV v x) = true from e)
    rw [Nat.eq_of_beq_eq_true h1, sameAV_eq v x e]
  | .agg cs, b, e => by
    cases b <;> first | cases e | skip
    rename_i ds
    rw [sameL_eq cs ds e]
  | .tuple cs, b, e => by
    cases b <;> first | cases e | skip
    rename_i ds
    rw [sameL_eq cs ds e]
theorem sameL_eq : ∀ (a b : List AV), sameL a b = true → a = b
  | [], b, e => by cases b <;> first | rfl | cases e
  | x :: xs, b, e => by
    cases b <;> first | cases e | skip
    rename_i y ys
    obtain ⟨h1, h2⟩ := and'_eq (show and' (sameAV x y) (sameL xs ys) = true from e)
    rw [sameAV_eq x y h1, sameL_eq xs ys h2]
end
theorem sameObj_eq {x y : AObj} (e : sameObj x y = true) : x = y := by
  cases x with
  | cells cs t fz =>
    cases y <;> first | cases e | skip
    rename_i ds u gz
    obtain ⟨h1, e⟩ := and'_eq (show and' (sameL cs ds) (and' (Nat.beq t u) (Nat.beq fz gz)) = true from e)
    obtain ⟨h2, h3⟩ := and'_eq e
    rw [sameL_eq _ _ h1, Nat.eq_of_beq_eq_true h2, Nat.eq_of_beq_eq_true h3]
  | map kt es c =>
    cases y <;> first | cases e | skip
    rename_i lt fs d
    obtain ⟨h1, e⟩ := and'_eq (show and' (Nat.beq kt lt) (and' _ (Nat.beq c d)) = true from e)
    obtain ⟨h2, h3⟩ := and'_eq e
    rw [Nat.eq_of_beq_eq_true h1, Nat.eq_of_beq_eq_true h3]
    cases es <;> cases fs <;> first | rfl | cases h2
  | iter => cases e
end Ev
end Go.Proofs.YtoaimjielnempaaGreatDoor
namespace Go.Proofs.YtoaimjielnempaaGreatDoor
set_option linter.unusedVariables false
set_option linter.unusedSimpArgs false
open Go.RowKit Go.Maps
namespace Ev

section
variable {P : Program} {B : Nat} {W : World} {ι ι0 : Pos → Option Nat} {h h0 : H} {w w0 : World} {fr : Fr} {a : Act} {nt : Nat} {ops : Array Oper} {M : List Nat} {D : Array Bool}

def lst (D : Array Bool) (i : Nat) : Prop := D.getD i false = true
theorem lst_set {i j : Nat} (hi : i < D.size) : lst (D.setIfInBounds i true) j ↔ lst D j ∨ j = i := by
  unfold lst
  rw [Array.getD_eq_getD_getElem?, Array.getD_eq_getD_getElem?, Array.getElem?_setIfInBounds]
  by_cases e : i = j
  · subst e
    simp [hi]
  · rw [if_neg e]
    exact ⟨.inl, fun x => x.resolve_right (fun h => e h.symm)⟩
theorem hasN_iff {n : Nat} {l : List Nat} : hasN n l = true ↔ n ∈ l := by
  unfold hasN
  rw [List.any_eq_true]
  constructor
  · rintro ⟨m, hm, e⟩
    rw [← Nat.eq_of_beq_eq_true e]
    exact hm
  · intro hm
    exact ⟨n, hm, by simp⟩
theorem wrts_iff {d i : Nat} : ∀ (l : List Oper) (k : Nat), (d, i) ∈ wrts k l ↔ ∃ j o, l[j]? = some o ∧ i = k + j ∧ o.dst = some d
  | [], k => by simp [wrts]
  | o :: l, k => by
    have ih := wrts_iff (d := d) (i := i) l (k + 1)
    have tail : (∃ j o', l[j]? = some o' ∧ i = k + 1 + j ∧ o'.dst = some d) ↔ ∃ j o', (o :: l)[j + 1]? = some o' ∧ i = k + (j + 1) ∧ o'.dst = some d := by
      constructor
      · rintro ⟨j, o', h1, h2, h3⟩; exact ⟨j, o', by simpa using h1, by omega, h3⟩
      · rintro ⟨j, o', h1, h2, h3⟩; exact ⟨j, o', by simpa using h1, by omega, h3⟩
    unfold wrts
    cases hd : o.dst with
    | none =>
      simp only
      rw [ih, tail]
      constructor
      · rintro ⟨j, o', h⟩; exact ⟨j + 1, o', h⟩
      · rintro ⟨j, o', h1, h2, h3⟩
        cases j with
        | zero => simp at h1; subst h1; rw [hd] at h3; cases h3
        | succ j => exact ⟨j, o', h1, h2, h3⟩
    | some d' =>
      simp only [List.mem_cons, Prod.mk.injEq]
      rw [ih, tail]
      constructor
      · rintro (⟨rfl, rfl⟩ | ⟨j, o', h⟩)
        · exact ⟨0, o, rfl, rfl, hd⟩
        · exact ⟨j + 1, o', h⟩
      · rintro ⟨j, o', h1, h2, h3⟩
        cases j with
        | zero => simp at h1; subst h1; rw [hd] at h3; cases h3; exact .inl ⟨rfl, by omega⟩
        | succ j => exact .inr ⟨j, o', h1, h2, h3⟩
theorem wrts_mem {i d : Nat} : (d, i) ∈ wrts 0 ops.toList ↔ ∃ o, ops[i]? = some o ∧ o.dst = some d := by
  rw [wrts_iff]
  constructor
  · rintro ⟨j, o, h1, h2, h3⟩
    rw [Nat.zero_add] at h2
    subst h2
    exact ⟨o, by simpa using h1, h3⟩
  · rintro ⟨o, h1, h2⟩
    exact ⟨i, o, by simpa using h1, by omega, h2⟩
theorem distinct_eq : ∀ {l : List (Nat × Nat)} {d i j : Nat}, distinctW l = true → (d, i) ∈ l → (d, j) ∈ l → i = j
  | [], _, _, _, _, h, _ => by cases h
  | (d', k) :: l, d, i, j, hd, h1, h2 => by
    unfold distinctW at hd
    rw [Bool.and_eq_true, List.all_eq_true] at hd
    have no : ∀ m, (d', m) ∈ l → False := fun m hm => by
      have := hd.1 _ hm
      simp at this
    rcases List.mem_cons.1 h1 with e1 | h1
    · cases e1
      rcases List.mem_cons.1 h2 with e2 | h2
      · cases e2; rfl
      · exact (no _ h2).elim
    · rcases List.mem_cons.1 h2 with e2 | h2
      · cases e2; exact (no _ h1).elim
      · exact distinct_eq hd.2 h1 h2
theorem masks_at {n : Nat} : ∀ (l : List Oper) (k : Nat), masksOk M n k l = true → ∀ j o, l[j]? = some o → maskOk1 M n (k + j) (depsOf o) = true
  | [], _, _, j, o, h => by simp at h
  | x :: l, k, hm, j, o, h => by
    unfold masksOk at hm
    rw [Bool.and_eq_true] at hm
    cases j with
    | zero => simp at h; subst h; exact hm.1
    | succ j =>
      have := masks_at l (k + 1) hm.2 j o (by simpa using h)
      rwa [show k + 1 + j = k + (j + 1) by omega] at this
theorem mask_spec (hm : masksOk M ops.size 0 ops.toList = true) {i : Nat} {o : Oper} (hi : ops[i]? = some o) : (∀ d ∈ depsOf o, d < i) ∧ ∀ j, j < ops.size → bitAt (nthN M i) j = true → ∃ d ∈ depsOf o, d = j ∨ bitAt (nthN M d) j = true := by
  have h1 := masks_at ops.toList 0 hm i o (by simpa using hi)
  rw [Nat.zero_add] at h1
  unfold maskOk1 at h1
  rw [Bool.and_eq_true, List.all_eq_true, List.all_eq_true] at h1
  refine ⟨fun d hd => ?_, fun j hj hb => ?_⟩
  · have := h1.1 d hd
    rw [blt_eq] at this
    exact of_decide_eq_true this
  · have h2 := h1.2 j (List.mem_range.2 hj)
    rw [hb] at h2
    simp only [Bool.not_true, Bool.false_or] at h2
    rw [List.any_eq_true] at h2
    obtain ⟨d, hd, h3⟩ := h2
    rw [Bool.or_eq_true] at h3
    exact ⟨d, hd, h3.imp (fun e => Nat.eq_of_beq_eq_true e) id⟩
/-- Who stands ahead of one that may run has run. -/
theorem ahead_listed (hm : masksOk M ops.size 0 ops.toList = true) (down : ∀ i o, ops[i]? = some o → lst D i → ∀ d ∈ depsOf o, lst D d) : ∀ (i : Nat) (o : Oper), ops[i]? = some o → (∀ d ∈ depsOf o, lst D d) →
    ∀ j, j < ops.size → bitAt (nthN M i) j = true → lst D j := by
  intro i
  induction i using Nat.strongRecOn with
  | _ i ih =>
    intro o hi hd j hj hb
    obtain ⟨h1, h2⟩ := mask_spec hm hi
    obtain ⟨d, hd1, e | e⟩ := h2 j hj hb
    · subst e; exact hd d hd1
    · have hlt := h1 d hd1
      have hin : i < ops.size := (Array.getElem?_eq_some_iff.1 hi).1
      have hod : ops[d]? = some (ops[d]'(by omega)) := Array.getElem?_eq_getElem (by omega)
      exact ih d hlt _ hod (down d _ hod (hd d hd1)) j hj e
theorem lates_iff {d i : Nat} : ∀ (l : List Oper) (k : Nat), (d, i) ∈ lates k l → (d, i) ∈ wrts k l
  | [], k => by simp [lates]
  | o :: l, k => by
    have ih := lates_iff (d := d) (i := i) l (k + 1)
    unfold lates wrts
    cases hd : o.dst with
    | none => exact ih
    | some d' =>
      simp only
      split
      · rename_i h1 h2
        cases h1
        intro h
        rcases List.mem_cons.1 h with e | h
        · cases e; exact List.mem_cons_self
        · exact List.mem_cons_of_mem _ (ih h)
      · intro h
        exact List.mem_cons_of_mem _ (ih h)
theorem isLate_wr {t : Nat} (e : isLate (lates 0 ops.toList) t = true) : ∃ (i : Nat) (o : Oper), ops[i]? = some o ∧ o.dst = some t := by
  unfold isLate at e
  rw [List.any_eq_true] at e
  obtain ⟨⟨d, i⟩, h1, h2⟩ := e
  have h2 := Nat.eq_of_beq_eq_true h2
  simp only at h2
  subst h2
  obtain ⟨o, h3, h4⟩ := wrts_mem.1 (lates_iff _ _ h1)
  exact ⟨i, o, h3, h4⟩
theorem okAt_spec {L : List (Nat × Nat)} {i t : Nat} (e : okAt nt (wrts 0 ops.toList) L M i t = true) : t < nt ∧ ((isLate L t = false ∧ ∀ j o, ops[j]? = some o → o.dst = some t → bitAt (nthN M i) j = true) ∨
    (isLate L t = true ∧ ∀ j o, ops[j]? = some o → o.dst = some t → bitAt (nthN M j) i = true)) := by
  unfold okAt at e
  rw [Bool.and_eq_true, List.all_eq_true, blt_eq] at e
  refine ⟨of_decide_eq_true e.1, ?_⟩
  cases hl : isLate L t with
  | false =>
    refine .inl ⟨rfl, fun j o hj hd => ?_⟩
    have := e.2 (t, j) (wrts_mem.2 ⟨o, hj, hd⟩)
    simpa [hl] using this
  | true =>
    refine .inr ⟨rfl, fun j o hj hd => ?_⟩
    have := e.2 (t, j) (wrts_mem.2 ⟨o, hj, hd⟩)
    simpa [hl] using this
/-- Places that are written differ from one another, and from those of variables that are looked at. -/
theorem slL_inj {L : List (Nat × Nat)} (hn : nt + nt ≤ 1000000) {t u : Nat} (ht : t < nt) (hu : u < nt) (h : slL nt L t = slL nt L u) : t = u := by
  unfold slL at h
  cases h1 : isLate L t <;> cases h2 : isLate L u <;> rw [h1, h2] at h <;> simp only [cond_true, cond_false] at h
  · exact slot_inj (by omega) (by omega) h
  · have := slot_inj (by omega) (by omega) h; omega
  · have := slot_inj (by omega) (by omega) h; omega
  · have := slot_inj (by omega) (by omega) h; omega
theorem slL_ne {L : List (Nat × Nat)} (hn : nt + nt ≤ 1000000) {t u : Nat} (ht : t < nt) (hu : u < nt) (hl : isLate L u = true) : slL nt L t ≠ slot u := by
  intro h
  unfold slL at h
  cases h1 : isLate L t <;> rw [h1] at h <;> simp only [cond_true, cond_false] at h
  · have := slot_inj (by omega) (by omega) h
    subst this
    rw [h1] at hl; cases hl
  · have := slot_inj (by omega) (by omega) h; omega
theorem slL_not {L : List (Nat × Nat)} {t : Nat} (h : isLate L t = false) : slL nt L t = slot t := by unfold slL; rw [h]; rfl
theorem get_e0 (p : Pos) {fr : Fr} (h : T.get fr p = none) : Fr.get fr p = .undef := by unfold Fr.get; rw [h]; rfl
theorem fin1_get (p q : Pos) (fr : Fr) : fin1 p q fr = T.set fr q (some (Fr.get fr p)) := by
  unfold fin1
  cases h : T.get fr p with
  | none => rw [get_e0 p h]; rfl
  | some v => unfold Fr.get; rw [h]; rfl
theorem fins_get (hn : nt + nt ≤ 1000000) : ∀ (L : List (Nat × Nat)) (fr : Fr), (∀ x ∈ L, x.1 < nt) → ∀ t, t < nt → Fr.get (fins nt L fr) (slot t) = Fr.get fr (slL nt L t) ∧ Fr.get (fins nt L fr) (slot (nt + t)) = Fr.get fr (slot (nt + t))
  | [], fr, _, t, ht => ⟨rfl, rfl⟩
  | x :: L, fr, hL, t, ht => by
    have hx := hL x List.mem_cons_self
    obtain ⟨ih1, ih2⟩ := fins_get hn L (fin1 (slot (nt + x.1)) (slot x.1) fr) (fun y hy => hL y (List.mem_cons_of_mem _ hy)) t ht
    have e : fins nt (x :: L) fr = fins nt L (fin1 (slot (nt + x.1)) (slot x.1) fr) := rfl
    have far : Fr.get (fin1 (slot (nt + x.1)) (slot x.1) fr) (slot (nt + t)) = Fr.get fr (slot (nt + t)) := by
      rw [fin1_get, get_set_ne' fr _ (fun e => by have := slot_inj (by omega) (by omega) e; omega)]
    rw [e, ih1, ih2, far]
    refine ⟨?_, rfl⟩
    by_cases hxt : x.1 = t
    · have h1 : isLate (x :: L) t = true := by unfold isLate; rw [List.any_cons, hxt]; simp
      have h2 : slL nt (x :: L) t = slot (nt + t) := by unfold slL; rw [h1]; rfl
      rw [h2]
      cases hl : isLate L t with
      | true =>
        have : slL nt L t = slot (nt + t) := by unfold slL; rw [hl]; rfl
        rw [this, far]
      | false =>
        rw [slL_not hl, fin1_get, hxt, get_set_same']
    · have h1 : isLate (x :: L) t = isLate L t := by
        unfold isLate
        rw [List.any_cons]
        have : Nat.beq x.1 t = false := by rw [Bool.eq_false_iff]; exact fun h => hxt (Nat.eq_of_beq_eq_true h)
        rw [this, Bool.false_or]
      have h2 : slL nt (x :: L) t = slL nt L t := by unfold slL; rw [h1]
      rw [h2, fin1_get]
      refine get_set_ne' fr _ fun e => ?_
      cases hl : isLate L t with
      | true =>
        have : slL nt L t = slot (nt + t) := by unfold slL; rw [hl]; rfl
        rw [this] at e
        have := slot_inj (by omega) (by omega) e; omega
      | false =>
        rw [slL_not hl] at e
        exact hxt (slot_inj (by omega) (by omega) e)
/-- Where an operation of such a region lays its value. -/
def DstL (nt : Nat) (L : List (Nat × Nat)) (dst : Option Tmp) (d : Option Pos) : Prop := (dst = none ∧ d = none) ∨ ∃ t, dst = some t ∧ t < nt ∧ d = some (slL nt L t)
theorem dstL_ok {L : List (Nat × Nat)} {o : Oper} {d : Option Pos} (e : dstL nt L o = some d) : DstL nt L o.dst d := by
  unfold dstL at e
  cases h : o.dst with
  | none => rw [h] at e; cases e; exact .inl ⟨rfl, rfl⟩
  | some t =>
    rw [h] at e
    simp only at e
    cases hb : Nat.blt t nt with
    | false => rw [hb] at e; cases e
    | true =>
      rw [hb] at e
      cases e
      rw [blt_eq] at hb
      exact .inr ⟨t, rfl, of_decide_eq_true hb, rfl⟩

structure Inv (P : Program) (B : Nat) (W : World) (nt : Nat) (ops : Array Oper) (itF : Nat → Option It) (ι0 : Pos → Option Nat) (h0 : H) (w0 : World) (s : St) (ss : List St) (D : Array Bool) (ι : Pos → Option Nat) (fr : Fr) (h : H) (a : Act) (w : World) : Prop where
  dsize : D.size = ops.size
  size : a.tmps.size = nt
  defers : a.defers = []
  rel : Rel P B W ι h w
  ext : Ext ι0 h0 w0 ι h w
  down : ∀ i o, ops[i]? = some o → lst D i → ∀ d ∈ depsOf o, lst D d
  cover : ∀ i, i < ops.size → ¬ lst D i → i ∈ s.opn ∨ i ∈ restOf s.eff ss
  rest : ∀ i ∈ restOf s.eff ss, ¬ lst D i
  frame : ∀ t, t < nt → (∀ i o, ops[i]? = some o → o.dst = some t → lst D i) → V (cx ι h w) (Fr.get fr (slL nt (lates 0 ops.toList) t)) (a.tmps.getD t undef)
  early : ∀ t, t < nt → isLate (lates 0 ops.toList) t = true → (∀ i o, ops[i]? = some o → o.dst = some t → ¬ lst D i) → V (cx ι h w) (Fr.get fr (slot t)) (a.tmps.getD t undef)
  pend : ∀ i ∈ s.opn, ¬ lst D i → ∀ x, itF i = some x → ∀ b, x.blk fr = some b → ι b = none ∧ ¬ b.num < h0.nx.num

variable {itF : Nat → Option It} {s : St} {ss : List St}
theorem put_at {dst : Option Tmp} {u : Value} {t : Nat} : (dst = some t → t < a.tmps.size → (a.put dst u).tmps.getD t undef = u) ∧ (dst ≠ some t → (a.put dst u).tmps.getD t undef = a.tmps.getD t undef) := by
  constructor
  · rintro rfl ht
    simp [Act.put, ht]
  · intro hd
    cases dst with
    | none => rfl
    | some d =>
      have : d ≠ t := fun e => hd (by rw [e])
      simp only [Act.put, Array.getD_eq_getD_getElem?, Array.getElem?_setIfInBounds, if_neg this]
theorem Inv.exec (inv : Inv P B W nt ops itF ι0 h0 w0 s ss D ι fr h a w) {i : Nat} {o : Oper} (hi : ops[i]? = some o) (hs : i ∈ s.opn) (hr : i ∉ restOf s.eff ss) (hd : ∀ d ∈ depsOf o, lst D d) {ι' : Pos → Option Nat} {w' : World} {u : Value}
    (rel' : Rel P B W ι' h w') (ext' : Ext ι0 h0 w0 ι' h w') (le : (cx ι h w).Le (cx ι' h w')) (hv : ∀ t, o.dst = some t → V (cx ι' h w') (Fr.get fr (slL nt (lates 0 ops.toList) t)) u)
    (hp : ∀ j ∈ s.opn, j ≠ i → ¬ lst D j → ∀ x, itF j = some x → ∀ b, x.blk fr = some b → ι' b = none) : Inv P B W nt ops itF ι0 h0 w0 s ss (D.setIfInBounds i true) ι' fr h (a.put o.dst u) w' := by
  have hin : i < D.size := by rw [inv.dsize]; exact (Array.getElem?_eq_some_iff.1 hi).1
  have nl : ∀ {j}, ¬ lst (D.setIfInBounds i true) j → ¬ lst D j ∧ j ≠ i := fun {j} hn => by
    rw [lst_set hin] at hn
    exact ⟨fun h => hn (.inl h), fun h => hn (.inr h)⟩
  refine ⟨by simp [inv.dsize], ?_, ?_, rel', ext', fun j oj hj hl d hdj => ?_, fun j hj hn => inv.cover j hj (nl hn).1, fun j hj hl => ?_, fun t ht hw => ?_, fun t ht hl hw => ?_, fun j hj hn x hx b hb => ?_⟩
  · cases ho : o.dst with
    | none => exact inv.size
    | some d => simp [Act.put, inv.size]
  · cases ho : o.dst with
    | none => exact inv.defers
    | some d => exact inv.defers
  · rw [lst_set hin] at hl ⊢
    rcases hl with hl | rfl
    · exact .inl (inv.down j oj hj hl d hdj)
    · rw [hi] at hj
      cases hj
      exact .inl (hd d hdj)
  · rw [lst_set hin] at hl
    rcases hl with hl | rfl
    · exact inv.rest j hj hl
    · exact hr hj
  · by_cases e : o.dst = some t
    · rw [put_at.1 e (by rw [inv.size]; exact ht)]
      exact hv t e
    · rw [put_at.2 e]
      refine (inv.frame t ht fun j oj hj hdj => ?_).mono le
      have := hw j oj hj hdj
      rw [lst_set hin] at this
      rcases this with h1 | rfl
      · exact h1
      · rw [hi] at hj
        cases hj
        exact absurd hdj e
  · by_cases e : o.dst = some t
    · exact absurd ((lst_set hin).2 (.inr rfl)) (hw i o hi e)
    · rw [put_at.2 e]
      refine (inv.early t ht hl fun j oj hj hdj h => ?_).mono le
      exact hw j oj hj hdj ((lst_set hin).2 (.inl h))
  · obtain ⟨h1, h2⟩ := nl hn
    exact ⟨hp j hj h2 h1 x hx b hb, (inv.pend j hj h1 x hx b hb).2⟩
theorem Inv.fo (inv : Inv P B W nt ops itF ι0 h0 w0 s ss D ι fr h a w) (hm : masksOk M ops.size 0 ops.toList = true) {i : Nat} {o : Oper} (hi : ops[i]? = some o) (hnl : ¬ lst D i) (hd : ∀ d ∈ depsOf o, lst D d) :
    FO (okAt nt (wrts 0 ops.toList) (lates 0 ops.toList) M i) (cx ι h w) fr a :=
  ⟨fun t ht => by
    obtain ⟨h1, ⟨h3, h2⟩ | ⟨h3, h2⟩⟩ := okAt_spec ht
    · rw [← slL_not (nt := nt) h3]
      exact inv.frame t h1 fun j oj hj hdj => ahead_listed hm inv.down i o hi hd j (Array.getElem?_eq_some_iff.1 hj).1 (h2 j oj hj hdj)
    · exact inv.early t h1 h3 fun j oj hj hdj hl => hnl (ahead_listed hm inv.down j oj hj (inv.down j oj hj hl) i (Array.getElem?_eq_some_iff.1 hi).1 (h2 j oj hj hdj))⟩
end
end Ev
end Go.Proofs.YtoaimjielnempaaGreatDoor
namespace Go.Proofs.YtoaimjielnempaaGreatDoor
set_option linter.unusedVariables false
set_option linter.unusedSimpArgs false
open Go.RowKit Go.Maps
namespace Ev

section
variable {P : Program} {B : Nat} {W : World} {ι ι0 : Pos → Option Nat} {h h0 : H} {w w0 : World} {fr : Fr} {a : Act} {nt : Nat} {ops : Array Oper} {M : List Nat} {D : Array Bool} {itF : Nat → Option It} {s : St} {ss : List St} {o : Oper} {r : AV}
variable {inf : TypeId → Option TypeInfo} {und : TypeId → Option TypeDesc} {kf : TypeId → AV → Bool} {ext : FuncId → Option (List Opd → XOp)}

theorem cIt_ok {ws L : List (Nat × Nat)} {i : Nat} {x : It} (e : cIt inf und kf ext nt ops ws L M i = some x) : ∃ o k, ops[i]? = some o ∧ DstL nt L o.dst x.d ∧ cOp inf und kf ext (okAt nt ws L M i) o.op = .op k x.f ∧ k ≤ 2 ∧ x.nw = Nat.beq k 2 ∧
    ((o.guard = none ∧ x.g = none) ∨ ∃ j b g p, o.guard = some (j, b) ∧ ops[j]? = some g ∧ g.dst = some p ∧ okAt nt ws L M i p = true ∧ x.g = some (slot p, b)) := by
  unfold cIt at e
  cases ho : ops[i]? with
  | none => rw [ho] at e; cases e
  | some o =>
    rw [ho] at e
    simp only at e
    split at e
    case h_2 => cases e
    rename_i d k f hd hc
    cases hk : Nat.ble k 2 with
    | false => rw [hk] at e; cases e
    | true =>
      rw [hk] at e
      simp only [cond_true] at e
      have hk := Nat.le_of_ble_eq_true hk
      cases hg : o.guard with
      | none =>
        rw [hg] at e
        cases e
        exact ⟨o, k, rfl, dstL_ok hd, hc, hk, rfl, .inl ⟨hg, rfl⟩⟩
      | some jb =>
        obtain ⟨j, b⟩ := jb
        rw [hg] at e
        simp only at e
        cases hj : ops[j]? with
        | none => rw [hj] at e; cases e
        | some g =>
          rw [hj] at e
          simp only at e
          cases hp : g.dst with
          | none => rw [hp] at e; cases e
          | some p =>
            rw [hp] at e
            simp only at e
            cases hok : okAt nt ws L M i p with
            | false => rw [hok] at e; cases e
            | true =>
              rw [hok] at e
              cases e
              exact ⟨o, k, rfl, dstL_ok hd, hc, hk, rfl, .inr ⟨j, b, g, p, hg, hj, hp, hok, rfl⟩⟩
theorem cIts_mem {ws L : List (Nat × Nat)} : ∀ {l : List Nat} {xs : List It}, cIts inf und kf ext nt ops ws L M l = some xs → (∀ i ∈ l, ∃ x ∈ xs, cIt inf und kf ext nt ops ws L M i = some x) ∧ ∀ x ∈ xs, ∃ i ∈ l, cIt inf und kf ext nt ops ws L M i = some x
  | [], _, e => by cases e; exact ⟨fun i h => (by cases h), fun x h => (by cases h)⟩
  | i :: l, xs, e => by
    unfold cIts at e
    cases h1 : cIt inf und kf ext nt ops ws L M i with
    | none => rw [h1] at e; cases e
    | some x =>
      cases h2 : cIts inf und kf ext nt ops ws L M l with
      | none => rw [h1, h2] at e; cases e
      | some ys =>
        rw [h1, h2] at e
        cases e
        obtain ⟨g1, g2⟩ := cIts_mem h2
        refine ⟨fun j hj => ?_, fun y hy => ?_⟩
        · rcases List.mem_cons.1 hj with rfl | hj
          · exact ⟨x, List.mem_cons_self, h1⟩
          · obtain ⟨y, hy, e⟩ := g1 j hj
            exact ⟨y, List.mem_cons_of_mem _ hy, e⟩
        · rcases List.mem_cons.1 hy with rfl | hy
          · exact ⟨i, List.mem_cons_self, h1⟩
          · obtain ⟨j, hj, e⟩ := g2 y hy
            exact ⟨j, List.mem_cons_of_mem _ hj, e⟩
theorem allChk_mem : ∀ {l : List It} {x : It}, allChk l fr h = true → x ∈ l → x.chk fr h = true
  | y :: l, x, e, hx => by
    obtain ⟨h1, h2⟩ := and'_eq (show and' (y.chk fr h) (allChk l fr h) = true from e)
    rcases List.mem_cons.1 hx with rfl | hx
    · exact h1
    · exact allChk_mem h2 hx
theorem noBlk_mem {b : Pos} : ∀ {l : List It} {x : It}, noBlk b l fr = true → x ∈ l → ∀ c, x.blk fr = some c → b ≠ c
  | y :: l, x, e, hx, c, hc => by
    have e : ob (y.blk fr) (noBlk b l fr) (fun c => bi (b.beq c) false (noBlk b l fr)) = true := e
    rcases List.mem_cons.1 hx with rfl | hx
    · rw [hc] at e
      intro h
      subst h
      have e : bi (b.beq b) false (noBlk b l fr) = true := e
      rw [(Pos.beq_eq b b).2 rfl] at e
      cases e
    · refine noBlk_mem ?_ hx c hc
      cases hy : y.blk fr with
      | none => rw [hy] at e; exact e
      | some c' =>
        rw [hy] at e
        have e : bi (b.beq c') false (noBlk b l fr) = true := e
        cases hb : b.beq c' with
        | true => rw [hb] at e; cases e
        | false => rw [hb] at e; exact e
theorem dup_ne {ws L : List (Nat × Nat)} : ∀ {l : List Nat} {xs : List It}, cIts inf und kf ext nt ops ws L M l = some xs → dupFree xs fr = true → ∀ i ∈ l, ∀ j ∈ l, i ≠ j → ∀ x y, cIt inf und kf ext nt ops ws L M i = some x → cIt inf und kf ext nt ops ws L M j = some y →
    ∀ b c, x.blk fr = some b → y.blk fr = some c → b ≠ c
  | [], _, _, _, i, hi, _, _, _, _, _, _, _, _, _, _, _ => by cases hi
  | k :: l, xs, e, hd, i, hi, j, hj, hij, x, y, hx, hy, b, c, hb, hc => by
    unfold cIts at e
    cases h1 : cIt inf und kf ext nt ops ws L M k with
    | none => rw [h1] at e; cases e
    | some z =>
      cases h2 : cIts inf und kf ext nt ops ws L M l with
      | none => rw [h1, h2] at e; cases e
      | some ys =>
        rw [h1, h2] at e
        cases e
        have hd : ob (z.blk fr) (dupFree ys fr) (fun b => and' (noBlk b ys fr) (dupFree ys fr)) = true := hd
        have hrest : dupFree ys fr = true := by
          cases hz : z.blk fr with
          | none => rw [hz] at hd; exact hd
          | some b' => rw [hz] at hd; exact (and'_eq hd).2
        have hhead : ∀ b', z.blk fr = some b' → ∀ m ∈ l, ∀ y', cIt inf und kf ext nt ops ws L M m = some y' → ∀ c', y'.blk fr = some c' → b' ≠ c' := fun b' hb' m hm y' hy' c' hc' => by
          rw [hb'] at hd
          obtain ⟨y2, hy2, e2⟩ := (cIts_mem h2).1 m hm
          rw [hy'] at e2
          cases e2
          exact noBlk_mem (and'_eq hd).1 hy2 c' hc'
        rcases List.mem_cons.1 hi with ei | hi2
        · subst ei
          rw [h1] at hx
          cases hx
          rcases List.mem_cons.1 hj with ej | hj2
          · exact absurd ej.symm hij
          · exact hhead b hb j hj2 y hy c hc
        · rcases List.mem_cons.1 hj with ej | hj2
          · subst ej
            rw [h1] at hy
            cases hy
            exact (hhead c hc i hi2 x hx b hb).symm
          · exact dup_ne h2 hrest i hi2 j hj2 hij x y hx hy b c hb hc

theorem sameD_eq {L : List (Nat × Nat)} {dst : Option Tmp} {d : Option Pos} {v : AV} (hd : DstL nt L dst d) (e : sameD d fr v = true) : ∀ t, dst = some t → Fr.get fr (slL nt L t) = v := by
  intro t ht
  rcases hd with ⟨rfl, rfl⟩ | ⟨t', rfl, _, rfl⟩
  · cases ht
  · cases ht
    exact (sameAV_eq _ _ e).symm
theorem blockOf_new {v : AV} {b : Pos} (e : blockOf v = some b) : v ≠ .undef := by
  intro h
  subst h
  cases e
theorem blk_some {x : It} {b : Pos} (e : x.blk fr = some b) : x.nw = true ∧ ∃ p, x.d = some p ∧ blockOf (Fr.get fr p) = some b := by
  unfold It.blk at e
  cases hn : x.nw with
  | false => rw [hn] at e; cases e
  | true =>
    rw [hn] at e
    obtain ⟨p, h1, h2⟩ := ob_some (by simp) (show ob x.d none (fun p => blockOf (Fr.get fr p)) = some b from e)
    exact ⟨rfl, p, h1, h2⟩
theorem chkM_ok {f : XOp} {d : Option Pos} (e : chkM f d fr h = true) : ∃ p b v h' o, d = some p ∧ blockOf (Fr.get fr p) = some b ∧ f fr { t := .e, nx := b } = .ok v h' ∧ v = Fr.get fr p ∧ h'.obj b = some o ∧ h.obj b = some o := by
  obtain ⟨p, h1, e⟩ := ob_some (by simp) (show ob d false _ = true from e)
  obtain ⟨b, h2, e⟩ := ob_some (by simp) e
  cases hf : f fr { t := .e, nx := b } with
  | no => simp only [hf] at e; cases e
  | ok v h' =>
    simp only [hf] at e
    obtain ⟨h3, e⟩ := and'_eq e
    obtain ⟨o, h4, e⟩ := ob_some (by simp) e
    obtain ⟨o', h5, e⟩ := ob_some (by simp) e
    exact ⟨p, b, v, h', o, h1, h2, hf, sameAV_eq _ _ h3, h4, by rw [h5, sameObj_eq e]⟩

theorem open_ok (E : Env P inf und kf) (X : ExtOk P ext) (hm : masksOk M ops.size 0 ops.toList = true) (inv : Inv P B W nt ops itF ι0 h0 w0 s ss D ι fr h a w) (r0 : Rel P B W ι0 h0 w0) (hF : itF = cIt inf und kf ext nt ops (wrts 0 ops.toList) (lates 0 ops.toList) M)
    {i : Nat} {x : It} (hx : itF i = some x) (hs : i ∈ s.opn) (hn : ¬ lst D i) (hr : i ∉ restOf s.eff ss) (hd : ∀ o, ops[i]? = some o → ∀ d ∈ depsOf o, lst D d) (hc : x.chk fr h = true)
    (hdup : ∀ j ∈ s.opn, i ≠ j → ∀ y, itF j = some y → ∀ b c, x.blk fr = some b → y.blk fr = some c → b ≠ c) {Qx : Exit → Act → World → Prop} {K : Act → World → Prop}
    (hK : ∀ ι' a' w', Inv P B W nt ops itF ι0 h0 w0 s ss (D.setIfInBounds i true) ι' fr h a' w' → K a' w') : wpOp P ops Qx i K a w := by
  have hx' := hx
  rw [hF] at hx'
  obtain ⟨o, k, hi, hdst, hop, hk, hnw, hg⟩ := cIt_ok hx'
  have fo := inv.fo hm hi hn (hd o hi)
  unfold wpOp
  rw [hi]
  simp only
  have skip : sameD x.d fr .undef = true → K (a.put o.dst undef) w := fun e => by
    refine hK ι _ w (inv.exec hi hs hr (hd o hi) inv.rel inv.ext ⟨Nat.le_refl _, fun _ _ h => h, fun _ _ _ _ h => h, fun _ _ _ _ _ => rfl⟩ (fun t ht => ?_) fun j hj hji hjn y hy b hb => (inv.pend j hj hjn y hy b hb).1)
    rw [sameD_eq hdst e t ht]
    exact .undef
  have run : bi x.nw (chkM x.f x.d fr h) (chkP x.f x.d fr h) = true → o.wp P a w K Qx := fun e => by
    cases hnw' : x.nw with
    | false =>
      rw [hnw'] at e
      have e : Ev.E.rec (motive := fun _ => Bool) false (fun v _ => sameD x.d fr v) (x.f fr h) = true := e
      cases hf : x.f fr h with
      | no => rw [hf] at e; cases e
      | ok v h' =>
        rw [hf] at e
        have hk2 : k ≠ 2 := fun e => by subst e; rw [hnw'] at hnw; cases hnw
        have hop1 := cOp_ok (w := w) (B := B) (W := W) (ι := ι) E X hop fo (fun _ => ⟨rfl, inv.rel⟩) hf
        have res : Res1 P (cx ι h w) h h' v (execOp a.eval o) w := by
          have hk01 : k = 0 ∨ k = 1 := by omega
          rcases hk01 with rfl | rfl
          · exact Res0.r1 hop1
          · exact hop1
        obtain ⟨_, u, h1, h2⟩ := res
        unfold Oper.wp
        rw [h2, Oper.upon_value]
        refine hK ι _ w (inv.exec hi hs hr (hd o hi) inv.rel inv.ext ⟨Nat.le_refl _, fun _ _ h => h, fun _ _ _ _ h => h, fun _ _ _ _ _ => rfl⟩ (fun t ht => ?_) fun j hj hji hjn y hy b hb => (inv.pend j hj hjn y hy b hb).1)
        rw [sameD_eq hdst e t ht]
        exact h1
    | true =>
      rw [hnw'] at e
      obtain ⟨p, b, v, h', ob1, g1, g2, g3, g4, g5, g6⟩ := chkM_ok (show chkM x.f x.d fr h = true from e)
      have hk2 : k = 2 := by rw [hnw'] at hnw; exact Nat.eq_of_beq_eq_true hnw.symm
      subst hk2
      have hop1 : Res2 P (cx ι h w) { t := .e, nx := b } h' v (execOp a.eval o) := cOp_ok (w := w) (B := B) (W := W) (ι := ι) E X hop fo (fun h => by rcases h with h | h <;> cases h) g3
      obtain ⟨o2, j1, j2⟩ := hop1
      have : o2 = ob1 := by
        rw [j1] at g5
        have := obj_new_same ({ t := .e, nx := b } : H) o2
        rw [g5] at this
        exact (Option.some.inj this).symm
      subst this
      obtain ⟨obj, mk, j3, j4, j5⟩ := j2
      have hblk : x.blk fr = some b := by
        unfold It.blk
        rw [hnw', g1]
        exact g2
      obtain ⟨p1, p2⟩ := inv.pend i hs hn x hx b hblk
      have hn' := heap_new (wnew_alloc w obj)
      obtain ⟨q1, q2, q3⟩ := inv.rel.fill g6 p1 (wnew_alloc w obj) (j4 _ _ hn')
      unfold Oper.wp
      rw [j3 w, Oper.upon_value]
      refine hK _ _ _ (inv.exec hi hs hr (hd o hi) q1 (q3 _ _ _ r0 inv.ext p2) q2 (fun t ht => ?_) fun j hj hji hjn y hy c hc => ?_)
      · have hpt : p = slL nt (lates 0 ops.toList) t := by
          rcases hdst with ⟨e1, e2⟩ | ⟨t', e1, _, e2⟩
          · rw [g1] at e2; cases e2
          · rw [ht] at e1
            cases e1
            rw [g1] at e2
            exact Option.some.inj e2
        rw [← hpt, ← g4]
        refine j5 _ _ ?_ (fun _ => upd_same _ _ _) ?_
        · exact inv.rel.fresh b o2 g6
        · show bsz (w.alloc obj) w.heap.size = objSize obj
          unfold bsz
          rw [hn']
          cases obj <;> rfl
      · rw [upd_ne ι _ (hdup j hj (Ne.symm hji) y hy b c hblk hc).symm]
        exact (inv.pend j hj hjn y hy c hc).1
  rcases hg with ⟨h1, h2⟩ | ⟨j, b, g, p, h1, h2, h3, h4, h5⟩
  · have hw : Region.wanted o (yielded ops a.tmps) = true := by unfold Region.wanted; rw [h1]
    rw [if_pos hw]
    unfold It.chk at hc
    rw [h2] at hc
    exact .inl (run hc)
  · unfold It.chk at hc
    rw [h5] at hc
    have hc : (Fr.get fr (slot p)).bool? (sameD x.d fr .undef) (fun c => bi (bi b c (bi c false true)) (bi x.nw (chkM x.f x.d fr h) (chkP x.f x.d fr h)) (sameD x.d fr .undef)) = true := hc
    rcases wanted_ok h1 h2 h3 h4 fo with ⟨t, ht, hw⟩ | ⟨hnb, hw⟩
    · rw [ht] at hc
      have hc : bi (bi b t (bi t false true)) (bi x.nw (chkM x.f x.d fr h) (chkP x.f x.d fr h)) (sameD x.d fr .undef) = true := hc
      cases htb : bi b t (bi t false true) with
      | true =>
        rw [htb] at hw hc
        rw [if_pos hw]
        exact .inl (run hc)
      | false =>
        rw [htb] at hw hc
        rw [if_neg (by rw [hw]; simp)]
        exact skip hc
    · rw [if_neg (by rw [hw]; simp)]
      refine skip ?_
      rw [← hc]
      generalize Fr.get fr (slot p) = z at hnb
      cases z <;> first | rfl | exact absurd rfl (hnb _)
end
end Ev
end Go.Proofs.YtoaimjielnempaaGreatDoor
namespace Go.Proofs.YtoaimjielnempaaGreatDoor
set_option linter.unusedVariables false
set_option linter.unusedSimpArgs false
open Go.RowKit Go.Maps
namespace Ev

section
variable {P : Program} {B : Nat} {W : World} {ι ι0 : Pos → Option Nat} {h h0 h1 : H} {w w0 : World} {fr fr1 : Fr} {a : Act} {nt : Nat} {ops : Array Oper} {M : List Nat} {D : Array Bool} {itF : Nat → Option It} {s : St} {ss : List St} {o : Oper} {r : AV} {kk : K}
variable {inf : TypeId → Option TypeInfo} {und : TypeId → Option TypeDesc} {kf : TypeId → AV → Bool} {ext : FuncId → Option (List Opd → XOp)}

theorem wGo_Q {g : Option (Pos × Bool)} {x y : Q} {fr' : Fr} {h' : H} (e : wGo g fr x y = .ok fr' h') : x = .ok fr' h' ∨ y = .ok fr' h' := by
  cases g with
  | none => exact .inr e
  | some p =>
    have e : (Fr.get fr p.1).bool? x (fun c => bi (bi p.2 c (bi c false true)) y x) = .ok fr' h' := e
    generalize Fr.get fr p.1 = z at e
    cases z
    case bool c =>
      have e : bi (bi p.2 c (bi c false true)) y x = .ok fr' h' := e
      cases hb : bi p.2 c (bi c false true) with
      | true => rw [hb] at e; exact .inr e
      | false => rw [hb] at e; exact .inl e
    all_goals exact .inl e
theorem eval_ok {x : It} {fr' : Fr} {h' : H} (e : x.eval fr h = .ok fr' h') : (∃ v, fr' = setD fr x.d v) ∧ (h' = h ∨ ∃ o, h' = h.new o) := by
  rcases wGo_Q (show wGo x.g fr _ _ = _ from e) with e | e
  · cases e
    exact ⟨⟨_, rfl⟩, .inl rfl⟩
  · cases hn : x.nw with
    | false =>
      rw [hn] at e
      obtain ⟨v, h2, e1, e2⟩ := eqQ (show eq' (x.f fr h) _ = _ from e)
      rw [force_eq] at e2
      cases e2
      exact ⟨⟨_, rfl⟩, .inl rfl⟩
    | true =>
      rw [hn] at e
      obtain ⟨v, h2, e1, e2⟩ := eqQ (show eq' (x.f fr { t := .e, nx := h.nx }) _ = _ from e)
      obtain ⟨o, e3, e4⟩ := ob_some (by simp) e2
      cases e4
      exact ⟨⟨_, rfl⟩, .inr ⟨o, rfl⟩⟩
theorem seg_ok : ∀ (l : List It) {fr : Fr} {h : H}, runSeg l fr h = .ok fr1 h1 → Rel P B W ι h w → (∀ b, h.obj b = none → ι b = none) →
    Rel P B W ι h1 w ∧ Ext ι h w ι h1 w ∧ (∀ b, b.num < h.nx.num → h1.obj b = h.obj b) ∧ ∀ p, (∀ x ∈ l, x.d ≠ some p) → Fr.get fr1 p = Fr.get fr p
  | [], fr, h, e, rel, hι => by
    cases e
    exact ⟨rel, Ext.refl _ _ _, fun _ _ => rfl, fun _ _ => rfl⟩
  | x :: l, fr, h, e, rel, hι => by
    obtain ⟨fr', h', e1, e2⟩ := qrQ (show qr (x.eval fr h) (runSeg l) = _ from e)
    obtain ⟨⟨v, hv⟩, hh⟩ := eval_ok e1
    have step : Rel P B W ι h' w ∧ Ext ι h w ι h' w ∧ (∀ b, b.num < h.nx.num → h'.obj b = h.obj b) ∧ ∀ b, h'.obj b = none → ι b = none := by
      rcases hh with rfl | ⟨o, rfl⟩
      · exact ⟨rel, Ext.refl _ _ _, fun _ _ => rfl, hι⟩
      · have hnx : ι h.nx = none := hι _ (by
          cases hb : h.obj h.nx with
          | none => rfl
          | some o' => have := rel.fresh _ _ hb; omega)
        obtain ⟨k1, k2⟩ := rel.pend hnx o
        refine ⟨k1, k2, fun b hb => obj_new_ne h o (fun e => by rw [e] at hb; omega), fun b hb => ?_⟩
        by_cases e : b = h.nx
        · rw [e]; exact hnx
        · rw [obj_new_ne h o e] at hb; exact hι b hb
    obtain ⟨k1, k2, k3, k4⟩ := step
    obtain ⟨g1, g2, g3, g4⟩ := seg_ok l e2 k1 k4
    refine ⟨g1, Ext.trans rel k2 g2, fun b hb => (g3 b (Nat.lt_of_lt_of_le hb k2.nx)).trans (k3 b hb), fun p hp => ?_⟩
    rw [g4 p fun y hy => hp y (List.mem_cons_of_mem _ hy), hv]
    have hd := hp x List.mem_cons_self
    cases hxd : x.d with
    | none => rfl
    | some q =>
      rw [hxd] at hd
      exact get_set_ne' fr v fun e => hd (by rw [e])
theorem allNew_mem {hs : H} : ∀ {l : List It} {x : It}, allNew l hs fr = true → x ∈ l → ∀ b, x.blk fr = some b → hs.obj b = none
  | y :: l, x, e, hx, b, hb => by
    have e : ob (y.blk fr) (allNew l hs fr) (fun b => ob (hs.obj b) (allNew l hs fr) fun _ => false) = true := e
    rcases List.mem_cons.1 hx with ex | hx2
    · subst ex
      rw [hb] at e
      cases ho : hs.obj b with
      | none => rfl
      | some o' => have e : ob (hs.obj b) (allNew l hs fr) (fun _ => false) = true := e; rw [ho] at e; cases e
    · refine allNew_mem ?_ hx2 b hb
      cases hy : y.blk fr with
      | none => rw [hy] at e; exact e
      | some c =>
        rw [hy] at e
        have e : ob (hs.obj c) (allNew l hs fr) (fun _ => false) = true := e
        cases ho : hs.obj c with
        | none => rw [ho] at e; exact e
        | some o' => rw [ho] at e; cases e
/-- A block that is to be made lives in the reckoned memory. -/
theorem chk_live {x : It} {b : Pos} (hc : x.chk fr h = true) (hb : x.blk fr = some b) : ∃ o, h.obj b = some o := by
  obtain ⟨hn, p, hd, hbo⟩ := blk_some hb
  have hskip : sameD x.d fr .undef = true → ∃ o, h.obj b = some o := fun e => by
    exfalso
    rw [hd] at e
    have := (sameAV_eq _ _ (show sameAV .undef (Fr.get fr p) = true from e))
    exact blockOf_new hbo this.symm
  have hrun : bi x.nw (chkM x.f x.d fr h) (chkP x.f x.d fr h) = true → ∃ o, h.obj b = some o := fun e => by
    rw [hn] at e
    obtain ⟨p', b', v, h', o, g1, g2, _, _, _, g6⟩ := chkM_ok (show chkM x.f x.d fr h = true from e)
    rw [hd] at g1
    cases g1
    rw [hbo] at g2
    cases g2
    exact ⟨o, g6⟩
  unfold It.chk at hc
  cases hg : x.g with
  | none => rw [hg] at hc; exact hrun hc
  | some pb =>
    rw [hg] at hc
    have hc : (Fr.get fr pb.1).bool? (sameD x.d fr .undef) (fun c => bi (bi pb.2 c (bi c false true)) (bi x.nw (chkM x.f x.d fr h) (chkP x.f x.d fr h)) (sameD x.d fr .undef)) = true := hc
    generalize Fr.get fr pb.1 = z at hc
    cases z
    case bool c =>
      have hc : bi (bi pb.2 c (bi c false true)) (bi x.nw (chkM x.f x.d fr h) (chkP x.f x.d fr h)) (sameD x.d fr .undef) = true := hc
      cases htb : bi pb.2 c (bi c false true) with
      | true => rw [htb] at hc; exact hrun hc
      | false => rw [htb] at hc; exact hskip hc
    all_goals exact hskip hc

theorem okSt_opn : ∀ (ss : List St) (s : St), okSt M s ss = true → ∀ i ∈ s.opn, i ∉ restOf s.eff ss
  | [], s, e, i, hi => by
    unfold okSt at e
    cases he : s.eff with
    | none => simp [restOf]
    | some e' => rw [he] at e; cases e
  | s' :: ss, s, e, i, hi => by
    unfold okSt at e
    cases he : s.eff with
    | none => rw [he] at e; cases e
    | some e' =>
      rw [he] at e
      simp only [Bool.and_eq_true, List.all_eq_true] at e
      have := (e.1.1.1.2 i hi).1
      intro hc
      rw [hasN_iff.2 hc] at this
      cases this
/-- The step from one stage to the next, told of lists. -/
theorem okSt_cons {s' : St} (e : okSt M s (s' :: ss) = true) : ∃ e', s.eff = some e' ∧ (∀ i ∈ restOf s.eff (s' :: ss), i = e' ∨ bitAt (nthN M i) e' = true) ∧ (∀ i ∈ s.opn, bitAt (nthN M e') i = true ∨ i ∈ s'.opn) ∧
    (∀ i ∈ s'.seg, i ∈ s'.opn) ∧ e' ∉ s'.seg ++ restOf s'.eff ss ∧ okSt M s' ss = true ∧ restOf s.eff (s' :: ss) = e' :: (s'.seg ++ restOf s'.eff ss) := by
  unfold okSt at e
  cases he : s.eff with
  | none => rw [he] at e; cases e
  | some e' =>
    rw [he] at e
    simp only [Bool.and_eq_true, List.all_eq_true, Bool.or_eq_true, Bool.not_eq_true'] at e
    refine ⟨e', rfl, fun i hi => (e.1.1.1.1 i hi).imp (fun h => Nat.eq_of_beq_eq_true h) id, fun i hi => ((e.1.1.1.2 i hi).2).imp id hasN_iff.1, fun i hi => hasN_iff.1 (e.1.1.2 i hi), fun hc => ?_, e.2, rfl⟩
    have := e.1.2
    rw [hasN_iff.2 hc] at this
    cases this

/-- From a stage, by its effect, to the next one. -/
theorem Inv.next {s' : St} (hm : masksOk M ops.size 0 ops.toList = true) (hdw : distinctW (wrts 0 ops.toList) = true) (hn : nt + nt ≤ 1000000) (hF : itF = cIt inf und kf ext nt ops (wrts 0 ops.toList) (lates 0 ops.toList) M) (inv : Inv P B W nt ops itF ι0 h0 w0 s (s' :: ss) D ι fr h a w) (r0 : Rel P B W ι0 h0 w0)
    (hok : okSt M s (s' :: ss) = true) {e : Nat} (he : s.eff = some e) {oe : Oper} (hoe : ops[e]? = some oe) (hd : ∀ d ∈ depsOf oe, lst D d) {d : Option Pos} (hdst : DstL nt (lates 0 ops.toList) oe.dst d) {os' : List It} (hos : ∀ i ∈ s.opn, ∃ x, itF i = some x ∧ x.chk fr h = true)
    {h' : H} {ι' : Pos → Option Nat} {w' : World} {u : Value} (rel' : Rel P B W ι' h' w') (x' : Ext ι h w ι' h' w') (hv : V (cx ι' h' w') r u)
    {sg op : List It} (hsg : cIts inf und kf ext nt ops (wrts 0 ops.toList) (lates 0 ops.toList) M s'.seg = some sg) (hop : cIts inf und kf ext nt ops (wrts 0 ops.toList) (lates 0 ops.toList) M s'.opn = some op) {fr1 : Fr} {h1 : H} (hrun : runSeg sg (setD fr d r) h' = .ok fr1 h1)
    (hall : allChk op fr1 h1 = true) (hnew : allNew sg h' fr1 = true) :
    Inv P B W nt ops itF ι0 h0 w0 s' ss (D.setIfInBounds e true) (cut ι' h') fr1 h1 (a.put oe.dst u) w' := by
  obtain ⟨e', he', q1, q2, q3, q4, q5, q6⟩ := okSt_cons hok
  rw [he] at he'
  cases he'
  have hin : e < D.size := by rw [inv.dsize]; exact (Array.getElem?_eq_some_iff.1 hoe).1
  obtain ⟨c1, c2⟩ := rel'.cut
  obtain ⟨g1, g2, g3, g4⟩ := seg_ok sg hrun c1 (fun b hb => cut_dead ι' hb)
  have extAll : Ext ι h w (cut ι' h') h1 w' := Ext.trans inv.rel x' (Ext.trans rel' c2 g2)
  have nl : ∀ {j}, ¬ lst (D.setIfInBounds e true) j → ¬ lst D j ∧ j ≠ e := fun {j} hn => by
    rw [lst_set hin] at hn
    exact ⟨fun h => hn (.inl h), fun h => hn (.inr h)⟩
  have segRest : ∀ j ∈ s'.seg, ¬ lst (D.setIfInBounds e true) j := fun j hj hl => by
    rw [lst_set hin] at hl
    rcases hl with hl | rfl
    · exact inv.rest j (by rw [q6]; exact List.mem_cons_of_mem _ (List.mem_append_left _ hj)) hl
    · exact q4 (List.mem_append_left _ hj)
  -- places that the stage does not write
  have keepP : ∀ q, (∀ t', t' < nt → (∃ j ∈ s'.seg, ∃ oj, ops[j]? = some oj ∧ oj.dst = some t') → slL nt (lates 0 ops.toList) t' ≠ q) → Fr.get fr1 q = Fr.get (setD fr d r) q := fun q hno => by
    refine g4 q fun x hx hxd => ?_
    obtain ⟨j, hj, hjx⟩ := (cIts_mem hsg).2 x hx
    obtain ⟨oj, _, hoj, hdj, _⟩ := cIt_ok hjx
    rcases hdj with ⟨_, e2⟩ | ⟨t', e1, ht', e2⟩
    · rw [hxd] at e2; cases e2
    · rw [hxd] at e2
      exact hno t' ht' ⟨j, hj, oj, hoj, e1⟩ (Option.some.inj e2).symm
  have setKeepP : ∀ q, (∀ t', t' < nt → oe.dst = some t' → slL nt (lates 0 ops.toList) t' ≠ q) → Fr.get (setD fr d r) q = Fr.get fr q := fun q hno => by
    rcases hdst with ⟨_, rfl⟩ | ⟨t', e1, ht', rfl⟩
    · rfl
    · exact get_set_ne' fr r fun e => hno t' ht' e1 e
  have keep : ∀ t, t < nt → (∀ j ∈ s'.seg, ∀ oj, ops[j]? = some oj → oj.dst ≠ some t) → Fr.get fr1 (slL nt (lates 0 ops.toList) t) = Fr.get (setD fr d r) (slL nt (lates 0 ops.toList) t) := fun t ht hno => by
    refine keepP _ fun t' ht' ⟨j, hj, oj, hoj, e1⟩ e => ?_
    have := slL_inj hn ht' ht e
    subst this
    exact hno j hj oj hoj e1
  have setKeep : ∀ t, t < nt → oe.dst ≠ some t → Fr.get (setD fr d r) (slL nt (lates 0 ops.toList) t) = Fr.get fr (slL nt (lates 0 ops.toList) t) := fun t ht hno => by
    refine setKeepP _ fun t' ht' e1 e => ?_
    have := slL_inj hn ht' ht e
    subst this
    exact hno e1
  refine ⟨by simp [inv.dsize], ?_, ?_, g1, Ext.trans r0 inv.ext extAll, fun j oj hj hl dd hdj => ?_, fun j hj hnl => ?_, fun j hj hl => ?_, fun t ht hw => ?_, fun t ht hl hw => ?_, fun j hj hnl x hx b hb => ?_⟩
  · cases ho : oe.dst with
    | none => exact inv.size
    | some d => simp [Act.put, inv.size]
  · cases ho : oe.dst with
    | none => exact inv.defers
    | some d => exact inv.defers
  · rw [lst_set hin] at hl ⊢
    rcases hl with hl | rfl
    · exact .inl (inv.down j oj hj hl dd hdj)
    · rw [hoe] at hj
      cases hj
      exact .inl (hd dd hdj)
  · obtain ⟨n1, n2⟩ := nl hnl
    rcases inv.cover j hj n1 with hc | hc
    · rcases q2 j hc with hb | hb
      · exact absurd (ahead_listed hm inv.down e oe hoe hd j hj hb) n1
      · exact .inl hb
    · rw [q6] at hc
      rcases List.mem_cons.1 hc with hc | hc
      · exact absurd hc n2
      · rcases List.mem_append.1 hc with hc | hc
        · exact .inl (q3 j hc)
        · exact .inr hc
  · rw [lst_set hin] at hl
    rcases hl with hl | rfl
    · exact inv.rest j (by rw [q6]; exact List.mem_cons_of_mem _ (List.mem_append_right _ hj)) hl
    · exact q4 (List.mem_append_right _ hj)
  · rw [keep t ht fun j hj oj hoj hdj => segRest j hj (hw j oj hoj hdj)]
    by_cases et : oe.dst = some t
    · rw [put_at.1 et (by rw [inv.size]; exact ht)]
      rcases hdst with ⟨e1, _⟩ | ⟨t', e1, ht', rfl⟩
      · rw [et] at e1; cases e1
      · rw [et] at e1
        cases e1
        rw [show Fr.get (setD fr (some (slL nt (lates 0 ops.toList) t)) r) (slL nt (lates 0 ops.toList) t) = r from get_set_same' fr (slL nt (lates 0 ops.toList) t) r]
        exact hv.mono ((Ext.trans rel' c2 g2).le rel')
    · rw [put_at.2 et, setKeep t ht et]
      refine (inv.frame t ht fun j oj hj hdj => ?_).mono (extAll.le inv.rel)
      have := hw j oj hj hdj
      rw [lst_set hin] at this
      rcases this with h1 | rfl
      · exact h1
      · rw [hoe] at hj
        cases hj
        exact absurd hdj et
  · rw [keepP _ fun t' ht' _ => slL_ne hn ht' ht hl, setKeepP _ fun t' ht' _ => slL_ne hn ht' ht hl]
    by_cases et : oe.dst = some t
    · exact absurd ((lst_set hin).2 (.inr rfl)) (hw e oe hoe et)
    · rw [put_at.2 et]
      refine (inv.early t ht hl fun j oj hj hdj h => ?_).mono (extAll.le inv.rel)
      exact hw j oj hj hdj ((lst_set hin).2 (.inl h))
  · obtain ⟨n1, n2⟩ := nl hnl
    have hxc := hx
    rw [hF] at hxc
    obtain ⟨oj, _, hoj, hdj, _⟩ := cIt_ok hxc
    have hjn : j < ops.size := (Array.getElem?_eq_some_iff.1 hoj).1
    have hlive : ∃ o', h1.obj b = some o' := by
      obtain ⟨y, hy, hjy⟩ := (cIts_mem hop).1 j hj
      rw [hxc] at hjy
      cases hjy
      exact chk_live (allChk_mem hall hy) hb
    obtain ⟨o', ho'⟩ := hlive
    by_cases hseg : j ∈ s'.seg
    · obtain ⟨y, hy, hjy⟩ := (cIts_mem hsg).1 j hseg
      rw [hxc] at hjy
      cases hjy
      have hdead := allNew_mem hnew hy b hb
      refine ⟨cut_dead ι' hdead, fun hlt => ?_⟩
      have h2 : b.num < h'.nx.num := Nat.lt_of_lt_of_le hlt (Nat.le_trans inv.ext.nx x'.nx)
      rw [g3 b h2, hdead] at ho'
      cases ho'
    · have hopn : j ∈ s.opn := by
        rcases inv.cover j hjn n1 with hc | hc
        · exact hc
        · rw [q6] at hc
          rcases List.mem_cons.1 hc with hc | hc
          · exact absurd hc n2
          · rcases List.mem_append.1 hc with hc | hc
            · exact absurd hc hseg
            · exact absurd hc (okSt_opn ss s' q5 j hj)
      have hsame : x.blk fr1 = x.blk fr := by
        obtain ⟨hnw, p, hxd, _⟩ := blk_some hb
        unfold It.blk
        rw [hnw, hxd]
        show blockOf (Fr.get fr1 p) = blockOf (Fr.get fr p)
        rcases hdj with ⟨_, e2⟩ | ⟨t, e1, ht, e2⟩
        · rw [hxd] at e2; cases e2
        · rw [hxd] at e2
          cases e2
          have huniq : ∀ j' oj', ops[j']? = some oj' → oj'.dst = some t → j' = j := fun j' oj' h1 h2 => distinct_eq hdw (wrts_mem.2 ⟨oj', h1, h2⟩) (wrts_mem.2 ⟨oj, hoj, e1⟩)
          rw [keep t ht fun j' hj' oj' hoj' hdj' => hseg (huniq j' oj' hoj' hdj' ▸ hj'), setKeep t ht fun h2 => n2 (huniq e oe hoe h2).symm]
      rw [hsame] at hb
      obtain ⟨p1, p2⟩ := inv.pend j hopn n1 x hx b hb
      refine ⟨?_, p2⟩
      obtain ⟨y, hy, hyc⟩ := hos j hopn
      rw [hx] at hy
      cases hy
      obtain ⟨o2, ho2⟩ := chk_live hyc hb
      have hlt := inv.rel.fresh b o2 ho2
      cases hb' : h'.obj b with
      | none => exact cut_dead ι' hb'
      | some o3 => rw [cut_live ι' hb', (x'.lv b o3 hlt hb').2]; exact p1
end
end Ev
end Go.Proofs.YtoaimjielnempaaGreatDoor
namespace Go.Proofs.YtoaimjielnempaaGreatDoor
set_option linter.unusedVariables false
set_option linter.unusedSimpArgs false
open Go.RowKit Go.Maps
namespace Ev

theorem countP_lt' {α : Type} {p q : α → Bool} : ∀ {l : List α}, (∀ x ∈ l, q x = true → p x = true) → ∀ {y : α}, y ∈ l → p y = true → q y = false → l.countP q < l.countP p
  | x :: l, h, y, hy, hp, hq => by
    have hle : l.countP q ≤ l.countP p := List.countP_mono_left fun x hx => h x (List.mem_cons_of_mem _ hx)
    rw [List.countP_cons, List.countP_cons]
    rcases List.mem_cons.1 hy with e | hy2
    · subst e
      rw [hp, hq]
      simp
      omega
    · have ih := countP_lt' (fun x hx => h x (List.mem_cons_of_mem _ hx)) hy2 hp hq
      have hx := h x List.mem_cons_self
      cases hqx : q x with
      | true => rw [hx hqx]; simp; exact ih
      | false => cases p x <;> simp <;> omega

section
variable {P : Program} {B : Nat} {W : World} {ι ι0 : Pos → Option Nat} {h h0 h1 : H} {w w0 : World} {fr fr1 : Fr} {a : Act} {nt : Nat} {ops : Array Oper} {M : List Nat} {D : Array Bool} {itF : Nat → Option It} {s : St} {ss : List St} {o : Oper} {r : AV} {kk : K}
variable {inf : TypeId → Option TypeInfo} {und : TypeId → Option TypeDesc} {kf : TypeId → AV → Bool} {ext : FuncId → Option (List Opd → XOp)}

def cnt (D : Array Bool) (n : Nat) : Nat := (List.range n).countP fun i => !D.getD i false
theorem cnt_set {i n : Nat} (hi : i < n) (hd : i < D.size) (hn : ¬ lst D i) : cnt (D.setIfInBounds i true) n < cnt D n := by
  unfold cnt
  refine countP_lt' (fun j _ hj => ?_) (List.mem_range.2 hi) ?_ ?_
  · cases hb : D.getD j false with
    | false => rfl
    | true =>
      have : lst (D.setIfInBounds i true) j := (lst_set hd).2 (.inl hb)
      unfold lst at this
      rw [this] at hj
      cases hj
  · cases hb : D.getD i false with
    | false => rfl
    | true => exact absurd hb hn
  · have : lst (D.setIfInBounds i true) i := (lst_set hd).2 (.inr rfl)
    unfold lst at this
    rw [this]
    rfl
theorem cnt_zero {n : Nat} (h : cnt D n = 0) : ∀ i, i < n → lst D i := fun i hi => by
  unfold cnt at h
  rw [List.countP_eq_zero] at h
  have := h i (List.mem_range.2 hi)
  unfold lst
  simpa using this
theorem ready_mem {i : Nat} : i ∈ Region.ready .any ops D → ∃ o, ops[i]? = some o ∧ ¬ lst D i ∧ ∀ d ∈ depsOf o, lst D d := fun hr => by
  obtain ⟨h1, o, h2, h3⟩ := mem_ready.1 hr
  refine ⟨o, h2, fun hl => ?_, fun d hd => ?_⟩
  · unfold lst at hl
    rw [Array.getD_eq_getD_getElem?] at h1 hl
    cases hg : D[i]? with
    | none => rw [hg] at hl; cases hl
    | some b => rw [hg] at h1 hl; simp at h1 hl; rw [h1] at hl; cases hl
  · unfold depsOf at hd
    obtain ⟨e, he, rfl⟩ := List.mem_map.1 hd
    obtain ⟨he1, he2⟩ := List.mem_filter.1 he
    exact h3 e (by simpa using he1) he2
theorem mem_ready' {i : Nat} (hs : D.size = ops.size) {o : Oper} (hi : ops[i]? = some o) (hn : ¬ lst D i) (hd : ∀ d ∈ depsOf o, lst D d) : i ∈ Region.ready .any ops D := by
  refine mem_ready.2 ⟨?_, o, hi, fun e he hb => hd e.on ?_⟩
  · have hin : i < D.size := by rw [hs]; exact (Array.getElem?_eq_some_iff.1 hi).1
    unfold lst at hn
    rw [Array.getD_eq_getD_getElem?, Array.getElem?_eq_getElem hin] at hn ⊢
    simpa using hn
  · unfold depsOf
    exact List.mem_map.2 ⟨e, List.mem_filter.2 ⟨by simpa using he, hb⟩, rfl⟩
theorem all_listed (hm : masksOk M ops.size 0 ops.toList = true) (hs : D.size = ops.size) (hr : Region.ready .any ops D = []) : ∀ i, i < ops.size → lst D i := by
  intro i
  induction i using Nat.strongRecOn with
  | _ i ih =>
    intro hi
    apply Classical.byContradiction
    intro hn
    have ho : ops[i]? = some (ops[i]'hi) := Array.getElem?_eq_getElem hi
    have := mem_ready' hs ho hn fun d hd => ih d ((mask_spec hm ho).1 d hd) (Nat.lt_trans ((mask_spec hm ho).1 d hd) hi)
    rw [hr] at this
    cases this
theorem cSt_ok {c : StC} (e : cSt inf und kf ext nt ops (wrts 0 ops.toList) (lates 0 ops.toList) M s = some c) : cIts inf und kf ext nt ops (wrts 0 ops.toList) (lates 0 ops.toList) M s.seg = some c.seg ∧ cIts inf und kf ext nt ops (wrts 0 ops.toList) (lates 0 ops.toList) M s.opn = some c.opn ∧
    ((s.eff = none ∧ c.eff = none) ∨ ∃ e q, s.eff = some e ∧ c.eff = some q ∧ cEff inf und kf ext nt ops (wrts 0 ops.toList) (lates 0 ops.toList) M e = .mk q) := by
  unfold cSt at e
  cases h1 : cIts inf und kf ext nt ops (wrts 0 ops.toList) (lates 0 ops.toList) M s.seg with
  | none => rw [h1] at e; cases e
  | some sg =>
    cases h2 : cIts inf und kf ext nt ops (wrts 0 ops.toList) (lates 0 ops.toList) M s.opn with
    | none => rw [h1, h2] at e; cases e
    | some op =>
      rw [h1, h2] at e
      simp only at e
      cases h3 : s.eff with
      | none => rw [h3] at e; cases e; exact ⟨rfl, rfl, .inl ⟨rfl, rfl⟩⟩
      | some k =>
        rw [h3] at e
        simp only at e
        cases h4 : cEff inf und kf ext nt ops (wrts 0 ops.toList) (lates 0 ops.toList) M k with
        | bad => rw [h4] at e; cases e
        | mk q => rw [h4] at e; cases e; exact ⟨rfl, rfl, .inr ⟨k, q, rfl, rfl, h4⟩⟩
theorem cEff_ok {e : Nat} {q : DOp} (he : cEff inf und kf ext nt ops (wrts 0 ops.toList) (lates 0 ops.toList) M e = .mk q) : ∃ o d, ops[e]? = some o ∧ DstL nt (lates 0 ops.toList) o.dst d ∧ cGuardD inf und kf ext (okAt nt (wrts 0 ops.toList) (lates 0 ops.toList) M e) d ops o = .mk q := by
  unfold cEff at he
  cases ho : ops[e]? with
  | none => rw [ho] at he; cases he
  | some o =>
    rw [ho] at he
    simp only at he
    cases hd : dstL nt (lates 0 ops.toList) o with
    | none => rw [hd] at he; cases he
    | some d => rw [hd] at he; exact ⟨o, d, rfl, dstL_ok hd, he⟩
theorem rest_eff {e : Nat} : e ∈ restOf (some e) ss := by
  cases ss <;> exact List.mem_cons_self
theorem stc_ok {c : StC} {hs h : H} (e : c.ok hs fr h = true) : allChk c.opn fr h = true ∧ dupFree c.opn fr = true ∧ allNew c.seg hs fr = true := by
  obtain ⟨h1, e⟩ := and'_eq (show and' _ (and' _ _) = true from e)
  exact ⟨h1, and'_eq e⟩
theorem stages_ok {c : StC} {cs : List StC} {frE : Fr} {hE : H} (e : runStages (c :: cs) kk fr h = .ok frE hE) : ∃ fr1 h1, runSeg c.seg fr h = .ok fr1 h1 ∧ c.ok h fr1 h1 = true ∧ ob c.eff (Q.ok fr1 h1) (fun e => qr (e kk fr1 h1) (runStages cs kk)) = .ok frE hE := by
  obtain ⟨fr1, h1, e1, e2⟩ := qrQ (show qr (runSeg c.seg fr h) _ = _ from e)
  obtain ⟨e3, e4⟩ := bi_some (by simp) e2
  exact ⟨fr1, h1, e1, e3, e4⟩

def Mid (P : Program) (B : Nat) (W : World) (nt : Nat) (ops : Array Oper) (M : List Nat) (inf : TypeId → Option TypeInfo) (und : TypeId → Option TypeDesc) (kf : TypeId → AV → Bool) (ext : FuncId → Option (List Opd → XOp)) (ι0 : Pos → Option Nat) (h0 : H) (w0 : World) (kk : K)
    (Qx : Exit → Act → World → Prop) (frE : Fr) (hE : H) (ss : List St) : Prop := ∀ (s : St) (c : StC) (cs : List StC),
    cSt inf und kf ext nt ops (wrts 0 ops.toList) (lates 0 ops.toList) M s = some c → cSts inf und kf ext nt ops (wrts 0 ops.toList) (lates 0 ops.toList) M ss = some cs → okSt M s ss = true → ∀ (fuel : Nat) (D : Array Bool) (ι : Pos → Option Nat) (fr : Fr) (h : H) (a : Act) (w : World),
    Inv P B W nt ops (cIt inf und kf ext nt ops (wrts 0 ops.toList) (lates 0 ops.toList) M) ι0 h0 w0 s ss D ι fr h a w → allChk c.opn fr h = true → dupFree c.opn fr = true → ob c.eff (Q.ok fr h) (fun e => qr (e kk fr h) (runStages cs kk)) = .ok frE hE → cnt D ops.size ≤ fuel → wpAny P .any ops Qx fuel D a w
theorem mid_step (E : Env P inf und kf) (X : ExtOk P ext) (KO : KOK P B W kk) (hm : masksOk M ops.size 0 ops.toList = true) (hdw : distinctW (wrts 0 ops.toList) = true) (hn : nt + nt ≤ 1000000) (hlt : ∀ x ∈ lates 0 ops.toList, x.1 < nt)
    (r0 : Rel P B W ι0 h0 w0) {Qx : Exit → Act → World → Prop} {frE : Fr} {hE : H} (K : After P B W nt ι0 h0 w0 (fins nt (lates 0 ops.toList) frE) hE (fun a w => Qx .normal a w)) (ss : List St)
    (ih : ∀ s' ss', ss = s' :: ss' → Mid P B W nt ops M inf und kf ext ι0 h0 w0 kk Qx frE hE ss') : Mid P B W nt ops M inf und kf ext ι0 h0 w0 kk Qx frE hE ss := by
  intro s c cs hc hcs hok fuel
  obtain ⟨c1, c2, c3⟩ := cSt_ok hc
  have fin : ∀ (D : Array Bool) (ι : Pos → Option Nat) (fr : Fr) (h : H) (a : Act) (w : World), Inv P B W nt ops (cIt inf und kf ext nt ops (wrts 0 ops.toList) (lates 0 ops.toList) M) ι0 h0 w0 s ss D ι fr h a w → ob c.eff (Q.ok fr h) (fun e => qr (e kk fr h) (runStages cs kk)) = .ok frE hE →
      (∀ i, i < ops.size → lst D i) → Qx .normal a w := fun D ι fr h a w inv hdyn hall => by
    rcases c3 with ⟨e1, e2⟩ | ⟨e, q, e1, e2, e3⟩
    · rw [e2] at hdyn
      cases hdyn
      exact K ι a w ⟨inv.size, fun t ht => by rw [(fins_get hn _ _ hlt t ht).1]; exact inv.frame t ht fun i oi hi _ => hall i (Array.getElem?_eq_some_iff.1 hi).1, inv.defers⟩ inv.rel inv.ext
    · exfalso
      obtain ⟨oe, _, hoe, _⟩ := cEff_ok e3
      refine inv.rest e ?_ (hall e (Array.getElem?_eq_some_iff.1 hoe).1)
      rw [e1]
      exact rest_eff
  induction fuel with
  | zero =>
    intro D ι fr h a w inv hchk hdup hdyn hcnt
    have hall := cnt_zero (Nat.le_zero.1 hcnt)
    refine ⟨?_, fin D ι fr h a w inv hdyn hall⟩
    rw [List.eq_nil_iff_forall_not_mem]
    intro i hi
    obtain ⟨o, ho, hnl, _⟩ := ready_mem hi
    exact hnl (hall i (Array.getElem?_eq_some_iff.1 ho).1)
  | succ fuel ihf =>
    intro D ι fr h a w inv hchk hdup hdyn hcnt
    refine ⟨fun hr => fin D ι fr h a w inv hdyn (all_listed hm inv.dsize hr), fun i hi => ?_⟩
    obtain ⟨o, ho, hnl, hd⟩ := ready_mem hi
    have hin : i < ops.size := (Array.getElem?_eq_some_iff.1 ho).1
    have hcnt' : cnt (D.setIfInBounds i true) ops.size ≤ fuel := by
      have := cnt_set (n := ops.size) hin (by rw [inv.dsize]; exact hin) hnl
      omega
    have hopen : i ∈ s.opn → wpOp P ops Qx i (wpAny P .any ops Qx fuel (D.setIfInBounds i true)) a w := fun hs => by
      obtain ⟨x, hx, hxi⟩ := (cIts_mem c2).1 i hs
      refine open_ok E X hm inv r0 rfl hxi hs hnl (okSt_opn ss s hok i hs) (fun o' ho' => by rw [ho] at ho'; cases ho'; exact hd) (allChk_mem hchk hx) (fun j hj hij y hy b b' hb hb' => dup_ne c2 hdup i hs j hj hij x y hxi hy b b' hb hb') fun ι' a' w' inv' => ?_
      exact ihf _ _ _ _ _ _ inv' hchk hdup hdyn hcnt'
    rcases inv.cover i hin hnl with hs | hs
    · exact hopen hs
    · rcases c3 with ⟨e1, e2⟩ | ⟨e, q, e1, e2, e3⟩
      · rw [e1] at hs
        cases ss <;> cases hs
      · cases ss with
        | nil => unfold okSt at hok; rw [e1] at hok; cases hok
        | cons s' ss' =>
          obtain ⟨e', he', q1, q2, q3, q4, q5, q6⟩ := okSt_cons hok
          rw [e1] at he'
          cases he'
          rcases q1 i hs with rfl | hb
          · obtain ⟨oe, d, hoe, hdst, hg⟩ := cEff_ok e3
            rw [ho] at hoe
            cases hoe
            rw [e2] at hdyn
            obtain ⟨fr', h', d1, d2⟩ := qrQ (show qr (q kk fr h) (runStages cs kk) = _ from hdyn)
            unfold cSts at hcs
            cases hc' : cSt inf und kf ext nt ops (wrts 0 ops.toList) (lates 0 ops.toList) M s' with
            | none => rw [hc'] at hcs; cases hcs
            | some c' =>
              cases hcs' : cSts inf und kf ext nt ops (wrts 0 ops.toList) (lates 0 ops.toList) M ss' with
              | none => rw [hc', hcs'] at hcs; cases hcs
              | some cs' =>
                rw [hc', hcs'] at hcs
                cases hcs
                obtain ⟨fr1, h1, d3, d4, d5⟩ := stages_ok d2
                obtain ⟨k1, k2, k3⟩ := stc_ok d4
                obtain ⟨g1, g2, _⟩ := cSt_ok hc'
                obtain ⟨r, hr, hcont⟩ := guard_core E X KO hg d1 (inv.fo hm ho hnl hd) inv.rel
                subst hr
                unfold wpOp
                rw [ho]
                refine hcont _ _ fun ι' u w' rel' x' hv => ?_
                refine ih s' ss' rfl s' c' cs' hc' hcs' q5 fuel _ _ _ _ _ _ (inv.next hm hdw hn rfl r0 hok e1 ho hd hdst (os' := []) (fun j hj => ?_) rel' x' hv g1 g2 d3 k1 k3) k1 k2 d5 hcnt'
                obtain ⟨x, hx, hxi⟩ := (cIts_mem c2).1 j hj
                exact ⟨x, hxi, allChk_mem hchk hx⟩
          · exfalso
            obtain ⟨oe, _, hoe, _⟩ := cEff_ok e3
            have hen : e < ops.size := (Array.getElem?_eq_some_iff.1 hoe).1
            refine inv.rest e ?_ (ahead_listed hm inv.down i o ho hd e hen hb)
            rw [e1]
            exact rest_eff
theorem mid_ok (E : Env P inf und kf) (X : ExtOk P ext) (KO : KOK P B W kk) (hm : masksOk M ops.size 0 ops.toList = true) (hdw : distinctW (wrts 0 ops.toList) = true) (hn : nt + nt ≤ 1000000) (hlt : ∀ x ∈ lates 0 ops.toList, x.1 < nt)
    (r0 : Rel P B W ι0 h0 w0) {Qx : Exit → Act → World → Prop} {frE : Fr} {hE : H} (K : After P B W nt ι0 h0 w0 (fins nt (lates 0 ops.toList) frE) hE (fun a w => Qx .normal a w)) : ∀ (ss : List St), Mid P B W nt ops M inf und kf ext ι0 h0 w0 kk Qx frE hE ss
  | [] => mid_step E X KO hm hdw hn hlt r0 K [] fun _ _ e => by cases e
  | _ :: ss => mid_step E X KO hm hdw hn hlt r0 K _ fun _ _ e => by cases e; exact mid_ok E X KO hm hdw hn hlt r0 K ss

theorem drawn_ok {id : Nat} (E : Env P inf und kf) (X : ExtOk P ext) (KO : KOK P B W kk) (hmix : P.follows .mixedOrders = true) (hn : nt ≤ 1000000) (hf : FR nt (cx ι h w) fr a) (rel : Rel P B W ι h w) {Qx : Exit → Act → World → Prop}
    (K : Post P B W nt ι h w Qx (bc (cDrawn inf und kf ext nt ops) kk fr h)) : (Code.region id ops true).wp P Qx a w := by
  unfold cDrawn at K
  generalize masks ops.toList [] = M at K
  generalize planGo _ _ _ _ _ _ _ _ = p at K
  unfold cDraw at K
  cases hreg : (Nat.ble (nt + nt) 1000000 && ((lates 0 ops.toList).all fun p => Nat.blt p.1 nt) && okReg M ops.size ops.toList (wrts 0 ops.toList) p) with
  | false => rw [hreg] at K; exact K.elim
  | true =>
    rw [hreg] at K
    simp only [cond_true] at K
    cases hl : cSts inf und kf ext nt ops (wrts 0 ops.toList) (lates 0 ops.toList) M p with
    | none => rw [hl] at K; exact K.elim
    | some l =>
      rw [hl] at K
      have K : Post P B W nt ι h w Qx (qR (runStages l kk fr h) fun fr h => .n (fins nt (lates 0 ops.toList) fr) h) := K
      cases hrun : runStages l kk fr h with
      | no => rw [hrun] at K; exact K.elim
      | ok frE hE =>
        rw [hrun] at K
        have K3 : After P B W nt ι h w (fins nt (lates 0 ops.toList) frE) hE (fun a w => Qx .normal a w) := K
        cases p with
        | nil => simp [okReg] at hreg
        | cons s ss =>
          unfold okReg at hreg
          simp only [Bool.and_eq_true, List.all_eq_true, Bool.or_eq_true, Bool.not_eq_true'] at hreg
          obtain ⟨⟨hn2, hlt⟩, ⟨⟨⟨⟨hm, hdw⟩, hcov⟩, hdis⟩, hseg⟩, hok⟩ := hreg
          have hn2 := Nat.le_of_ble_eq_true hn2
          have hlt : ∀ x ∈ lates 0 ops.toList, x.1 < nt := fun x hx => by
            have := hlt x hx
            rw [blt_eq] at this
            exact of_decide_eq_true this
          unfold cSts at hl
          cases hc : cSt inf und kf ext nt ops (wrts 0 ops.toList) (lates 0 ops.toList) M s with
          | none => rw [hc] at hl; cases hl
          | some c =>
            cases hcs : cSts inf und kf ext nt ops (wrts 0 ops.toList) (lates 0 ops.toList) M ss with
            | none => rw [hc, hcs] at hl; cases hl
            | some cs =>
              rw [hc, hcs] at hl
              cases hl
              obtain ⟨fr1, h1, d3, d4, d5⟩ := stages_ok hrun
              obtain ⟨k1, k2, k3⟩ := stc_ok d4
              obtain ⟨g1, g2, _⟩ := cSt_ok hc
              obtain ⟨v1, v2⟩ := rel.drew
              obtain ⟨u1, u2⟩ := v1.cut
              obtain ⟨t1, t2, t3, t4⟩ := seg_ok c.seg d3 u1 (fun b hb => cut_dead ι hb)
              have nolst : ∀ i, ¬ lst (Array.replicate ops.size false) i := fun i hl => by
                unfold lst at hl
                rw [Array.getD_eq_getD_getElem?, Array.getElem?_replicate] at hl
                split at hl <;> cases hl
              refine wp_region_any hmix (mid_ok E X KO hm hdw hn2 hlt rel K3 ss s c cs hc hcs hok ops.size _ (Ev.cut ι h) fr1 h1 a _ ?_ k1 k2 d5 ?_)
              · refine ⟨by simp, hf.size, hf.defers, t1, Ext.trans rel v2 (Ext.trans v1 u2 t2), fun i oi hi hl => absurd hl (nolst i), fun i hi _ => (hcov i (List.mem_range.2 hi)).imp hasN_iff.1 hasN_iff.1, fun i _ => nolst i, fun t ht hw => ?_, fun t ht hl _ => ?_, fun i hi _ x hx b hb => ?_⟩
                · have hnl : isLate (lates 0 ops.toList) t = false := by
                    cases hl : isLate (lates 0 ops.toList) t with
                    | false => rfl
                    | true =>
                      obtain ⟨i, o, h1, h2⟩ := isLate_wr hl
                      exact absurd (hw i o h1 h2) (nolst i)
                  rw [t4 (slL nt (lates 0 ops.toList) t) fun x hx hxd => ?_]
                  · rw [slL_not hnl]
                    exact (hf.val t ht).mono ((Ext.trans rel v2 (Ext.trans v1 u2 t2)).le rel)
                  · obtain ⟨j, hj, hjx⟩ := (cIts_mem g1).2 x hx
                    obtain ⟨oj, _, hoj, hdj, _⟩ := cIt_ok hjx
                    rcases hdj with ⟨_, e2⟩ | ⟨t', e1, ht', e2⟩
                    · rw [hxd] at e2; cases e2
                    · rw [hxd] at e2
                      have := slL_inj hn2 ht ht' (Option.some.inj e2)
                      subst this
                      exact nolst j (hw j oj hoj e1)
                · rw [t4 (slot t) fun x hx hxd => ?_]
                  · exact (hf.val t ht).mono ((Ext.trans rel v2 (Ext.trans v1 u2 t2)).le rel)
                  · obtain ⟨j, hj, hjx⟩ := (cIts_mem g1).2 x hx
                    obtain ⟨oj, _, hoj, hdj, _⟩ := cIt_ok hjx
                    rcases hdj with ⟨_, e2⟩ | ⟨t', e1, ht', e2⟩
                    · rw [hxd] at e2; cases e2
                    · rw [hxd] at e2
                      exact slL_ne hn2 ht' ht hl (Option.some.inj e2).symm
                · have his := hasN_iff.1 (hseg i hi)
                  obtain ⟨y, hy, hiy⟩ := (cIts_mem g1).1 i his
                  rw [hx] at hiy
                  cases hiy
                  have hdead := allNew_mem k3 hy b hb
                  refine ⟨cut_dead ι hdead, fun hlt => ?_⟩
                  obtain ⟨y, hy, hiy⟩ := (cIts_mem g2).1 i hi
                  rw [hx] at hiy
                  cases hiy
                  obtain ⟨o', ho'⟩ := chk_live (allChk_mem k1 hy) hb
                  rw [t3 b hlt, hdead] at ho'
                  cases ho'
              · unfold cnt
                have := List.countP_le_length (p := fun i => !(Array.replicate ops.size false).getD i false) (l := List.range ops.size)
                simpa using this
end
end Ev
end Go.Proofs.YtoaimjielnempaaGreatDoor
namespace Go.Proofs.YtoaimjielnempaaGreatDoor
set_option linter.unusedVariables false
set_option linter.unusedSimpArgs false
open Go.RowKit Go.Maps
namespace Ev

section
variable {P : Program} {B : Nat} {W : World} {ι : Pos → Option Nat} {h h' : H} {w w' : World} {fr fr' : Fr} {a : Act} {r : AV} {nt N : Nat} {o : Oper} {c : Cx} {kk : K}
variable {inf : TypeId → Option TypeInfo} {und : TypeId → Option TypeDesc} {kf : TypeId → AV → Bool} {ext : FuncId → Option (List Opd → XOp)}

theorem code_ok (E : Env P inf und kf) (X : ExtOk P ext) (KO : KOK P B W kk) (hmix : P.follows .mixedOrders = true) (hn : nt ≤ 1000000) : ∀ (code : Code) {ι : Pos → Option Nat} {h : H} {w : World} {fr : Fr} {a : Act} {Qx : Exit → Act → World → Prop},
    FR nt (cx ι h w) fr a → Rel P B W ι h w → Post P B W nt ι h w Qx (bc (cCode inf und kf ext N nt code) kk fr h) → code.wp P Qx a w
  | .skip, ι, h, w, fr, a, Qx, hf, rel, K => wp_skip (K ι a w hf rel (Ext.refl _ _ _))
  | .label l, ι, h, w, fr, a, Qx, hf, rel, K => wp_label (K ι a w hf rel (Ext.refl _ _ _))
  | .exit id, ι, h, w, fr, a, Qx, hf, rel, K => wp_exit (K ι a w hf rel (Ext.refl _ _ _))
  | .ret, ι, h, w, fr, a, Qx, hf, rel, K => wp_ret (K ι a w hf rel (Ext.refl _ _ _))
  | .region id ops draw, ι, h, w, fr, a, Qx, hf, rel, K => by
    cases draw with
    | true => exact drawn_ok E X KO hmix hn hf rel K
    | false =>
      have K : Post P B W nt ι h w Qx (qR (dOps (cOpers inf und kf ext nt ops ops.toList) kk fr h) fun fr h => .n fr h) := K
      cases e : dOps (cOpers inf und kf ext nt ops ops.toList) kk fr h with
      | no => rw [e] at K; exact K.elim
      | ok fr' h' =>
        rw [e] at K
        exact wp_region_list (ops_ok E X KO hn ops.toList e hf rel K)
  | .seq x y, ι, h, w, fr, a, Qx, hf, rel, K => by
    refine wp_seq (code_ok E X KO hmix hn x hf rel ?_)
    have K : Post P B W nt ι h w Qx (rr (bc (cCode inf und kf ext N nt x) kk fr h) (fun fr h => bc (cCode inf und kf ext N nt y) kk fr h) fun id fr h => .x id fr h) := K
    cases e : bc (cCode inf und kf ext N nt x) kk fr h with
    | no => rw [e] at K; exact K.elim
    | x id fr' h' => rw [e] at K; exact K
    | r fr' h' => rw [e] at K; exact K
    | n fr' h' =>
      rw [e] at K
      intro ι1 a1 w1 f1 r1 x1
      exact code_ok E X KO hmix hn y f1 r1 (Post.step rel x1 K)
  | .cond x t e, ι, h, w, fr, a, Qx, hf, rel, K => by
    simp only [cCode] at K
    cases hx : cX (below nt) x with
    | none => simp only [hx] at K; exact K.elim
    | some x' =>
      simp only [hx] at K
      have K : Post P B W nt ι h w Qx ((x' fr).bool? R.no fun b => bi b (bc (cCode inf und kf ext N nt t) kk fr h) (bc (cCode inf und kf ext N nt e) kk fr h)) := K
      have hv := cX_ok hf.fo hx
      by_cases hb : ∃ b, x' fr = .bool b
      · obtain ⟨b, hb⟩ := hb
        rw [hb] at K hv
        cases b with
        | true => exact wp_cond_true hv.bool_inv (code_ok E X KO hmix hn t hf rel K)
        | false => exact wp_cond_false hv.bool_inv (code_ok E X KO hmix hn e hf rel K)
      · exfalso
        generalize x' fr = z at K hb
        cases z <;> first | exact K | exact hb ⟨_, rfl⟩
  | .block id c, ι, h, w, fr, a, Qx, hf, rel, K => by
    refine wp_block (code_ok E X KO hmix hn c hf rel ?_)
    have K : Post P B W nt ι h w Qx (rr (bc (cCode inf und kf ext N nt c) kk fr h) (fun fr h => .n fr h) fun j fr h => bi (Nat.beq j id) (.n fr h) (.x j fr h)) := K
    cases e : bc (cCode inf und kf ext N nt c) kk fr h with
    | no => rw [e] at K; exact K.elim
    | n fr' h' => rw [e] at K; exact K
    | r fr' h' => rw [e] at K; exact K
    | x j fr' h' =>
      rw [e] at K
      have K : Post P B W nt ι h w Qx (bi (Nat.beq j id) (.n fr' h') (.x j fr' h')) := K
      by_cases hj : j = id
      · subst hj
        rw [show Nat.beq j j = true by simp] at K
        intro ι1 a1 w1 f1 r1 x1
        show if j = j then Qx .normal a1 w1 else Qx (.exit j) a1 w1
        rw [if_pos rfl]
        exact K ι1 a1 w1 f1 r1 x1
      · have : Nat.beq j id = false := by rw [Bool.eq_false_iff]; exact fun h => hj (Nat.eq_of_beq_eq_true h)
        rw [this] at K
        intro ι1 a1 w1 f1 r1 x1
        show if j = id then Qx .normal a1 w1 else Qx (.exit j) a1 w1
        rw [if_neg hj]
        exact K ι1 a1 w1 f1 r1 x1
  | .scope c, ι, h, w, fr, a, Qx, hf, rel, K => by
    refine wp_scope_straight (code_ok E X KO hmix hn c hf rel ?_)
    have K : Post P B W nt ι h w Qx (bc (cCode inf und kf ext N nt c) kk fr h) := K
    cases e : bc (cCode inf und kf ext N nt c) kk fr h with
    | no => rw [e] at K; exact K.elim
    | n fr' h' => rw [e] at K; exact K
    | r fr' h' => rw [e] at K; exact K
    | x j fr' h' => rw [e] at K; exact K
  | .loop c, ι, h, w, fr, a, Qx, hf, rel, K => by
    refine wp_loop_rounds N ?_
    have gen : ∀ (n : Nat) {ι : Pos → Option Nat} {h : H} {w : World} {fr : Fr} {a : Act}, FR nt (cx ι h w) fr a → Rel P B W ι h w →
        Post P B W nt ι h w Qx (Nat.rec (motive := fun _ => Fr → H → R) (fun _ _ => .no) (fun _ ih fr h => rr (bc (cCode inf und kf ext N nt c) kk fr h) ih fun id fr h => .x id fr h) n fr h) → Code.rounds P c Qx n a w := by
      intro n
      induction n with
      | zero => intro ι h w fr a hf rel K; exact K.elim
      | succ n ih =>
        intro ι h w fr a hf rel K
        rw [rounds_succ]
        refine code_ok E X KO hmix hn c hf rel ?_
        have K : Post P B W nt ι h w Qx (rr (bc (cCode inf und kf ext N nt c) kk fr h) (Nat.rec (motive := fun _ => Fr → H → R) (fun _ _ => .no) (fun _ ih fr h => rr (bc (cCode inf und kf ext N nt c) kk fr h) ih fun id fr h => .x id fr h) n) fun id fr h => .x id fr h) := K
        cases e : bc (cCode inf und kf ext N nt c) kk fr h with
        | no => rw [e] at K; exact K.elim
        | x id fr' h' => rw [e] at K; exact K
        | r fr' h' => rw [e] at K; exact K
        | n fr' h' =>
          rw [e] at K
          intro ι1 a1 w1 f1 r1 x1
          exact ih f1 r1 (Post.step rel x1 K)
    exact gen N hf rel K
  | .rangeFunc .., _, _, _, _, _, _, _, _, K => K.elim
  | .goto _, _, _, _, _, _, _, _, _, K => K.elim
end
end Ev
end Go.Proofs.YtoaimjielnempaaGreatDoor
namespace Go.Proofs.YtoaimjielnempaaGreatDoor
set_option linter.unusedVariables false
set_option linter.unusedSimpArgs false
open Go.RowKit Go.Maps
namespace Ev

section
variable {P : Program} {B : Nat} {W : World} {ι : Pos → Option Nat} {h h' : H} {w w' : World} {fr fr' : Fr} {a : Act} {r : AV} {nt N : Nat} {o : Oper} {c : Cx} {kk : K}
variable {inf : TypeId → Option TypeInfo} {und : TypeId → Option TypeDesc} {kf : TypeId → AV → Bool} {ext : FuncId → Option (List Opd → XOp)}

theorem argsIn_get : ∀ (xs : List AV) (p : Nat) (fr : Fr) (t : Nat), p + xs.length ≤ 1000000 → t < 1000000 → Fr.get (argsIn xs p fr) (slot t) = if p ≤ t then (match xs[t - p]? with | some v => v | none => Fr.get fr (slot t)) else Fr.get fr (slot t)
  | [], p, fr, t, _, _ => by
    show Fr.get fr (slot t) = _
    split <;> simp
  | x :: xs, p, fr, t, hl, ht => by
    show Fr.get (argsIn xs (p + 1) (T.set fr (slot p) (some x))) (slot t) = _
    rw [argsIn_get xs (p + 1) _ t (by simp at hl; omega) ht]
    by_cases h1 : p + 1 ≤ t
    · rw [if_pos h1, if_pos (by omega)]
      have : t - p = t - (p + 1) + 1 := by omega
      rw [this]
      simp only [List.getElem?_cons_succ]
      split
      · rfl
      · rw [get_set_ne' fr x (fun e => by have := slot_inj (by simp at hl; omega) ht e; omega)]
    · rw [if_neg h1]
      by_cases h2 : p = t
      · subst h2
        rw [get_set_same', if_pos (Nat.le_refl _)]
        simp
      · rw [get_set_ne' fr x (fun e => h2 (slot_inj (by simp at hl; omega) ht e)), if_neg (by omega)]
theorem get_e' (p : Pos) : Fr.get (.e : Fr) p = .undef := by
  unfold Fr.get
  rw [T.get_e]
  rfl
theorem FR.start {xs : List AV} {vs : List Value} (hn : nt ≤ 1000000) (hl : xs.length ≤ nt) (hv : VL c xs vs) : FR nt c (argsIn xs 0 .e) { tmps := vs.toArray ++ Array.replicate (nt - vs.toArray.size) undef, defers := [] } := by
  have hlen := hv.length
  refine ⟨by simp; omega, fun t ht => ?_, rfl⟩
  rw [argsIn_get xs 0 .e t (by omega) (by omega), if_pos (Nat.zero_le _), Nat.sub_zero, get_e']
  have h2 : (vs.toArray ++ Array.replicate (nt - vs.toArray.size) undef).getD t undef = (vs[t]?).getD undef := by
    rw [Array.getD_eq_getD_getElem?]
    by_cases hlt : t < vs.length
    · rw [Array.getElem?_append_left (by simpa using hlt)]
      simp
    · rw [Array.getElem?_append_right (by simp; omega)]
      rw [List.getElem?_eq_none (by omega)]
      rw [Array.getElem?_replicate]
      split <;> rfl
  show V c _ ((vs.toArray ++ Array.replicate (nt - vs.toArray.size) undef).getD t undef)
  rw [h2]
  cases hx : xs[t]? with
  | none =>
    have : vs[t]? = none := by
      rw [List.getElem?_eq_none_iff] at hx ⊢
      omega
    rw [this]
    exact .undef
  | some x =>
    obtain ⟨v, h3, h4⟩ := hv.get t hx
    rw [h3]
    exact h4

theorem load_var {t : TypeId} {v u : Value} (e : (Instr.loadAt t v).run P w = .ok u w) : (do loadVar t (← asAddr v) : Sem Value).run P w = .ok u w := by
  unfold Instr.loadAt at e
  cases v with
  | pointer x =>
    cases x with
    | none => simp [Instr.sureAddr, stuck] at e
    | some x => exact e
  | _ => simp [Instr.sureAddr, stuck] at e
def resSem (tmps : Array Value) : ResultVar → Sem Value
  | .tmp t => pure (tmps.getD t undef)
  | .cell a t => do loadVar t (← asAddr (tmps.getD a undef))
theorem outs_ok (E : Env P inf und kf) (hf : FR nt (cx ι h w) fr a) (rel : Rel P B W ι h w) : ∀ (l : List ResultVar) {rs : List XOp} {vs : List AV}, cRes inf und nt l = some rs → outs rs fr h = some vs →
    ∃ us, (l.mapM (resSem a.tmps)).run P w = .ok us w ∧ VL (cx ι h w) vs us
  | [], rs, vs, e1, e2 => by
    cases e1
    cases e2
    exact ⟨[], by simp, .nil⟩
  | x :: l, rs, vs, e1, e2 => by
    have main : ∀ (g : XOp) (rs' : List XOp), cRes inf und nt l = some rs' → rs = g :: rs' → (∀ v h1, g fr h = .ok v h1 → ∃ u, V (cx ι h w) v u ∧ (resSem a.tmps x).run P w = .ok u w) →
        ∃ us, ((x :: l).mapM (resSem a.tmps)).run P w = .ok us w ∧ VL (cx ι h w) vs us := fun g rs' h1 h2 h3 => by
      subst h2
      have e2 : Ev.E.rec (motive := fun _ => Option (List AV)) none (fun v _ => ob (outs rs' fr h) none fun r => some (v :: r)) (g fr h) = some vs := e2
      cases hg : g fr h with
      | no => rw [hg] at e2; cases e2
      | ok v h1' =>
        rw [hg] at e2
        obtain ⟨vs', h4, h5⟩ := ob_some (by simp) (show ob (outs rs' fr h) none (fun r => some (v :: r)) = some vs from e2)
        cases h5
        obtain ⟨u, h6, h7⟩ := h3 v h1' hg
        obtain ⟨us, h8, h9⟩ := outs_ok E hf rel l h1 h4
        exact ⟨u :: us, by simp only [List.mapM_cons, Sem.run_bind, h7, Result.andThen_ok, h8, Sem.run_pure], .cons h6 h9⟩
    cases x with
    | tmp t =>
      unfold cRes at e1
      cases hl : cRes inf und nt l with
      | none => rw [hl] at e1; cases e1
      | some rs' =>
        rw [hl] at e1
        simp only at e1
        cases hb : Nat.blt t nt with
        | false => rw [hb] at e1; cases e1
        | true =>
          rw [hb] at e1
          rw [blt_eq] at hb
          refine main (rTmp (slot t)) rs' hl (Option.some.inj e1).symm fun v h1 hg => ?_
          obtain ⟨h2, h3⟩ := okE hg
          subst h2
          exact ⟨_, hf.val t (of_decide_eq_true hb), rfl⟩
    | cell p t =>
      unfold cRes at e1
      cases hb : Nat.blt p nt with
      | false => rw [hb] at e1; cases e1
      | true =>
        rw [hb] at e1
        rw [blt_eq] at hb
        have hv := hf.val p (of_decide_eq_true hb)
        simp only [cond_true] at e1
        cases hw : wideT inf und t with
        | none => rw [hw] at e1; cases e1
        | some m =>
          cases hl : cRes inf und nt l with
          | none => rw [hw, hl] at e1; cases m <;> cases e1
          | some rs' =>
            rw [hw, hl] at e1
            rcases E.wide hw with ⟨rfl, g1⟩ | ⟨n, d, rfl, g1, g2, g3, g4, g5⟩
            · refine main (xLd (oT (slot p))) rs' hl (Option.some.inj e1).symm fun v h1 hg => ?_
              obtain ⟨_, u, h2, h3⟩ := r_ld rel g1 (x := oT (slot p)) hv hg
              exact ⟨u, h2, load_var h3⟩
            · refine main (xLdn n (oT (slot p))) rs' hl (Option.some.inj e1).symm fun v h1 hg => ?_
              obtain ⟨_, u, h2, h3⟩ := r_ldn rel g3 g4 g5 (x := oT (slot p)) hv hg
              exact ⟨u, h2, load_var h3⟩
theorem results_ok {fn : Func} (E : Env P inf und kf) (hf : FR nt (cx ι h w) fr a) (rel : Rel P B W ι h w) {rs : List XOp} (e1 : cRes inf und nt fn.results.toList = some rs) (e2 : endE rs fr h = .ok r h') :
    h' = h ∧ ∃ v, (results fn a.tmps).run P w = .ok v w ∧ V (cx ι h w) r v := by
  obtain ⟨vs, h1, h2⟩ := obE (show ob (outs rs fr h) Ev.E.no _ = Ev.E.ok r h' from e2)
  obtain ⟨us, h3, h4⟩ := outs_ok E hf rel _ e1 h1
  have hm : (fn.results.mapM (resSem a.tmps)).run P w = .ok us.toArray w := by
    rw [Array.mapM_eq_mapM_toList]
    simp only [map_eq_pure_bind, Sem.run_bind]
    rw [h3]
    rfl
  have hr : (results fn a.tmps).run P w = .ok (if h : us.toArray.size = 1 then us.toArray[0] else .tuple us.toArray) w := by
    show (do let vs ← fn.results.mapM (resSem a.tmps); pure (if h : vs.size = 1 then vs[0] else .tuple vs) : Sem Value).run P w = _
    simp only [Sem.run_bind, hm, Result.andThen_ok, Sem.run_pure]
  rw [hr]
  cases h4 with
  | nil =>
    cases h2
    exact ⟨rfl, _, rfl, .tuple [] [] .nil⟩
  | cons g1 g2 =>
    cases g2 with
    | nil =>
      cases h2
      exact ⟨rfl, _, rfl, g1⟩
    | cons g3 g4 =>
      cases h2
      exact ⟨rfl, _, rfl, .tuple _ _ (.cons g1 (.cons g3 g4))⟩
end
end Ev
end Go.Proofs.YtoaimjielnempaaGreatDoor
namespace Go.Proofs.YtoaimjielnempaaGreatDoor
set_option linter.unusedVariables false
set_option linter.unusedSimpArgs false
open Go.RowKit Go.Maps
namespace Ev

section
variable {P : Program} {B : Nat} {W : World} {ι : Pos → Option Nat} {h h' : H} {w w' : World} {fr fr' : Fr} {a : Act} {r : AV} {nt N : Nat} {o : Oper} {c : Cx} {kk : K}
variable {inf : TypeId → Option TypeInfo} {und : TypeId → Option TypeDesc} {kf : TypeId → AV → Bool} {ext : FuncId → Option (List Opd → XOp)}

/-- One function of the run is as the model has it. -/
def OneAt (P : Program) (B : Nat) (W : World) (f : FuncId) (p : List AV → H → Ev.E) : Prop := ∀ (ι : Pos → Option Nat) (h : H) (w : World) (xs : List AV) (vs : List Value) (r : AV) (h' : H), Rel P B W ι h w → VL (cx ι h w) xs vs → p xs h = .ok r h' →
  (∀ w0, (callFunc f vs.toArray).run P w0 = .ok (.enter f vs.toArray) w0) ∧ Calls P f vs.toArray w (CR P B W ι h w r h')
/-- The same, in every world that fits. -/
def OneOk (P : Program) (f : FuncId) (p : List AV → H → Ev.E) : Prop := ∀ (B : Nat) (W : World), Fits P B W → OneAt P B W f p
theorem call_enter {f : FuncId} {F : Func} {vs : Array Value} (hF : P.funcs[f]? = some F) (hn : F.name ≠ "runtime.NumGoroutine") (hb : F.body.isNone = false) (w0 : World) : (callFunc f vs).run P w0 = .ok (.enter f vs) w0 := by
  simp only [callFunc, Sem.run_bind, run_program, Result.andThen_ok, hF]
  have : (F.name == "runtime.NumGoroutine") = false := by simpa using hn
  rw [this, hb]
  rfl
def FnOk (P : Program) (inf : TypeId → Option TypeInfo) (und : TypeId → Option TypeDesc) (kf : TypeId → AV → Bool) (ext : FuncId → Option (List Opd → XOp)) (N : Nat) (fn : FuncId → Bf) : Prop :=
  ∀ f nt c rs, fn f = .mk nt c rs → ∃ F, P.funcs[f]? = some F ∧ F.name ≠ "runtime.NumGoroutine" ∧ cFn inf und kf ext N F = .mk nt c rs
theorem body_ok (E : Env P inf und kf) (X : ExtOk P ext) (hmix : P.follows .mixedOrders = true) (KO : KOK P B W kk) {f : FuncId} {F : Func} {c : Bc} {rs : List XOp} (hF : P.funcs[f]? = some F) (hname : F.name ≠ "runtime.NumGoroutine") (hc : cFn inf und kf ext N F = .mk nt c rs) : OneAt P B W f (body nt c rs kk) := by
  intro ι h w xs vs r h' rel hv e
  unfold cFn at hc
  cases hb : F.body with
  | none => rw [hb] at hc; cases hc
  | some code =>
    cases hr : cRes inf und F.ntmps F.results.toList with
    | none => rw [hb, hr] at hc; cases hc
    | some rs' =>
      rw [hb, hr] at hc
      simp only at hc
      cases hl : Nat.ble F.ntmps 1000000 with
      | false => rw [hl] at hc; cases hc
      | true =>
        rw [hl] at hc
        cases hc
        have hn := Nat.le_of_ble_eq_true hl
        obtain ⟨g1, e⟩ := biE (show bi (Nat.ble (llen xs) F.ntmps) _ Ev.E.no = _ from e)
        have g1 := Nat.le_of_ble_eq_true g1
        rw [llen_eq] at g1
        refine ⟨fun w0 => call_enter hF hname (by rw [hb]; rfl) w0, calls_of_wp hF hb ?_⟩
        refine code_ok (N := N) (inf := inf) (und := und) (kf := kf) (ext := ext) (kk := kk) E X KO hmix hn code (FR.start (c := cx ι h w) hn g1 hv) rel ?_
        have fin : ∀ (fr' : Fr) (h1 : H), endE rs fr' h1 = .ok r h' → After P B W F.ntmps ι h w fr' h1 fun a w' => a.defers = [] ∧ ∃ v, (results F a.tmps).run P w' = .ok v w' ∧ CR P B W ι h w r h' (.returned v) w' := fun fr' h1 e ι1 a1 w1 f1 r1 x1 => by
          obtain ⟨rfl, v, g2, g3⟩ := results_ok E f1 r1 hr e
          exact ⟨f1.defers, v, g2, v, ι1, rfl, r1, x1, g3⟩
        have e : R.rec (motive := fun _ => Ev.E) .no (fun fr h => endE rs fr h) (fun _ _ _ => .no) (fun fr h => endE rs fr h) (bc (cCode inf und kf ext N F.ntmps code) kk (argsIn xs 0 .e) h) = .ok r h' := e
        cases hres : bc (cCode inf und kf ext N F.ntmps code) kk (argsIn xs 0 .e) h with
        | no => rw [hres] at e; cases e
        | x id fr' h1 => rw [hres] at e; cases e
        | n fr' h1 => rw [hres] at e; exact fin fr' h1 e
        | r fr' h1 => rw [hres] at e; exact fin fr' h1 e
theorem run_ok (E : Env P inf und kf) (X : ExtOk P ext) (hmix : P.follows .mixedOrders = true) {fn : FuncId → Bf} {plug : FuncId → Option (List AV → H → Ev.E)} (hfn : FnOk P inf und kf ext N fn) (hp : ∀ f p, plug f = some p → OneAt P B W f p) : ∀ n, KOK P B W (run fn plug n)
  | 0 => fun ι h w f xs vs r h' _ _ e => by cases e
  | n + 1 => fun ι h w f xs vs r h' rel hv e => by
    have e : ob (plug f) (Bf.rec (motive := fun _ => Ev.E) .no (fun nt c rs => body nt c rs (run fn plug n) xs h) (fn f)) (fun p => p xs h) = .ok r h' := e
    cases hpf : plug f with
    | some p =>
      rw [hpf] at e
      exact hp f p hpf ι h w xs vs r h' rel hv e
    | none =>
      rw [hpf] at e
      have e : Bf.rec (motive := fun _ => Ev.E) .no (fun nt c rs => body nt c rs (run fn plug n) xs h) (fn f) = .ok r h' := e
      cases hf : fn f with
      | bad => rw [hf] at e; cases e
      | mk nt c rs =>
        rw [hf] at e
        obtain ⟨F, h1, h2, h3⟩ := hfn f nt c rs hf
        exact body_ok E X hmix (run_ok E X hmix hfn hp n) h1 h2 h3 ι h w xs vs r h' rel hv e

/-- The memory of a run that begins. -/
def H0 : H := { t := .e, nx := .h }
theorem rel_start (P : Program) (w : World) : Rel P w.heap.size w (fun _ => none) H0 w := by
  have h0 : ∀ b, H0.obj b = none := fun b => T.get_e b
  exact ⟨fun b o hb => (by rw [h0] at hb; cases hb), fun b o x hb => (by rw [h0] at hb; cases hb), fun b b' o o' x hb => (by rw [h0] at hb; cases hb), fun b o x hb => (by rw [h0] at hb; cases hb), Nat.le_refl _, Below.refl _ _⟩
/-- A call at values without addresses, of which the run tells such a value. -/
theorem run_calls {f : FuncId} {p : List AV → H → Ev.E} (hp : OneOk P f p) {xs : List AV} {vs : List Value} (hv : ∀ c : Cx, VL c xs vs) (w : World) (fit : Fits P w.heap.size w) {v : Value} (hr : ∀ (c : Cx) u, V c r u → u = v) (e : p xs H0 = .ok r h') :
    Calls P f vs.toArray w fun e w' => e = .returned v ∧ Below w.heap.size w w' := by
  obtain ⟨_, h2⟩ := hp w.heap.size w fit (fun _ => none) H0 w xs vs r h' (rel_start P w) (hv _) e
  refine h2.mono fun e w' ⟨u, ι', h3, h4, h5, h6⟩ => ?_
  rw [hr _ _ h6] at h3
  exact ⟨h3, h4.out⟩
end
end Ev
end Go.Proofs.YtoaimjielnempaaGreatDoor
namespace Go.Proofs.YtoaimjielnempaaGreatDoor
set_option linter.unusedVariables false
set_option linter.unusedSimpArgs false
open Go.RowKit Go.Maps
namespace Ev

section
variable {P : Program} {B : Nat} {W : World} {ι : Pos → Option Nat} {h : H} {w w' : World} {o : AObj}
/-- Blocks are made, the others are as they were; one of them is told. -/
theorem Rel.newAt {g : Nat} (r : Rel P B W ι h w) (u : Below w.heap.size w w') (hg : w.heap.size ≤ g) (ho : ObjR P (cx ι h w) w' g o) :
    Rel P B W (upd ι h.nx g) (h.new o) w' ∧ Ext ι h w (upd ι h.nx g) (h.new o) w' := by
  have hne : ∀ p o', h.obj p = some o' → p ≠ h.nx := fun p o' hp e => by
    have := r.fresh p o' hp
    rw [e] at this
    omega
  have hlt : ∀ p : Pos, p.num < h.nx.num → p ≠ h.nx := fun p hp e => by rw [e] at hp; omega
  have hold : ∀ y, y < w.heap.size → w'.heap[y]? = w.heap[y]? := fun y hy => u.block y hy
  have hbs : ∀ y, y < w.heap.size → bsz w' y = bsz w y := fun y hy => by unfold bsz; rw [hold y hy]
  have hle : (cx ι h w).Le (cx (upd ι h.nx g) (h.new o) w') := by
    refine ⟨?_, fun p hp ⟨o', h1⟩ => ?_, fun p y hp _ e => ?_, fun p y hp ⟨o', h1⟩ e => ?_⟩
    · show h.nx.num ≤ (h.new o).nx.num
      rw [nx_new]; omega
    · rw [obj_new_ne h o (hlt p hp)] at h1; exact ⟨o', h1⟩
    · show upd ι h.nx g p = some y
      rw [upd_ne ι _ (hlt p hp)]; exact e
    · rw [obj_new_ne h o (hlt p hp)] at h1
      exact hbs y (r.ob p o' y h1 e).lt
  have ext : Ext ι h w (upd ι h.nx g) (h.new o) w' := by
    refine ⟨by rw [nx_new]; omega, fun p o' hp h1 => ?_, fun p o' y hn h1 hy => ?_, u.size, hbs, fun y hy _ => hold y hy, u.os, u.tape, u.output⟩
    · rw [obj_new_ne h o (hlt p hp)] at h1
      exact ⟨⟨o', h1⟩, upd_ne ι _ (hlt p hp)⟩
    · by_cases e : p = h.nx
      · subst e
        rw [upd_same] at hy
        cases hy
        exact .inl hg
      · rw [obj_new_ne h o e] at h1
        exact absurd (r.fresh p o' h1) hn
  refine ⟨⟨fun p o' hp => ?_, fun p o' y hp hy => ?_, fun p p' o1 o2 y hp hp' hy hy' => ?_, fun p o' y hp hy => ?_, r.low, ext.out r⟩, ext⟩
  · rw [nx_new]
    by_cases e : p = h.nx
    · subst e; omega
    · rw [obj_new_ne h o e] at hp
      have := r.fresh p o' hp
      omega
  · by_cases e : p = h.nx
    · subst e
      rw [obj_new_same] at hp
      cases hp
      rw [upd_same] at hy
      cases hy
      exact ObjR.mono hle rfl ho
    · rw [obj_new_ne h o e] at hp
      rw [upd_ne ι _ e] at hy
      have h1 := r.ob p o' y hp hy
      exact ObjR.mono hle (hold y h1.lt) h1
  · by_cases e : p = h.nx
    · by_cases e' : p' = h.nx
      · rw [e, e']
      · subst e
        rw [upd_same] at hy
        cases hy
        rw [obj_new_ne h o e'] at hp'
        rw [upd_ne ι _ e'] at hy'
        have := (r.ob p' o2 _ hp' hy').lt
        omega
    · rw [obj_new_ne h o e] at hp
      rw [upd_ne ι _ e] at hy
      by_cases e' : p' = h.nx
      · subst e'
        rw [upd_same] at hy'
        cases hy'
        have := (r.ob p o1 _ hp hy).lt
        omega
      · rw [obj_new_ne h o e'] at hp'
        rw [upd_ne ι _ e'] at hy'
        exact r.inj p p' o1 o2 y hp hp' hy hy'
  · by_cases e : p = h.nx
    · subst e
      rw [upd_same] at hy
      cases hy
      have h1 := r.low
      have h2 := r.out.size
      omega
    · rw [obj_new_ne h o e] at hp
      rw [upd_ne ι _ e] at hy
      exact r.base p o' y hp hy

end
section
variable {P : Program}
theorem keyT_wide (hl : laidOutB P = true) {m : Nat} (hm : m + 1 ≤ 10000) {t : TypeId} (hrow : t < P.types.size) (hk : P.keyTypeAt m t = true) (hwide : (match P.underlying t with | some (.array _ _) | some (.struct _) => true | _ => false) = true)
    (hg : P.eqGuardType P.depth t = false) : KeyT P t := by
  have law := deep_law_laid hl hm hrow hk hwide
  have hof : ∀ {v : Value} {l : Lit}, keyOf P t v = some l → v.formed P t = true ∧ ∃ ls, P.keyLits (P.types.size + 1) t v.cells.toList = some ls ∧ l = .string (keyBytes ls) := fun {v l} h => by
    unfold keyOf at h
    split at hwide
    · rename_i h1
      simp only [h1] at h
      split at h
      · rename_i hf
        obtain ⟨ls, h2, h3⟩ := Option.map_eq_some_iff.1 h
        exact ⟨((Bool.and_eq_true _ _).mp hf).2, ls, h2, h3.symm⟩
      · cases h
    · rename_i h1
      simp only [h1] at h
      split at h
      · rename_i hf
        obtain ⟨ls, h2, h3⟩ := Option.map_eq_some_iff.1 h
        exact ⟨((Bool.and_eq_true _ _).mp hf).2, ls, h2, h3.symm⟩
      · cases h
    · cases hwide
  refine ⟨Keyed.of_law law, fun w a b la lb ha hb => ?_, fun w op ox oy a b => ?_⟩
  · obtain ⟨fa, ls, h1, h2⟩ := hof ha
    obtain ⟨fb, ms, h3, h4⟩ := hof hb
    have h5 := run_equalIn_deep (P := P) (10000 - m) m t hk
    rw [show 10000 - m + m = 10000 by omega] at h5
    obtain ⟨r, h6, h7⟩ := h5 w _ _ a b ls ms fa fb h1 h3
    refine ⟨r, h6, h7.trans ⟨fun e => by rw [h2, h4, e], fun e => ?_⟩⟩
    subst e
    have := law.inj ha hb
    subst this
    rw [h1] at h3
    exact Option.some.inj h3
  · cases op <;> first | rfl | skip
    all_goals simp [eqGuard, hg]
theorem eqIn_int {t : TypeId} {q : IntKind} (hu : P.underlying t = some (.int q)) (d : Nat) (w : World) (k : IntKind) (a b : Int) : (Op.equalIn (d + 1) t (.int k a) (.int k b)).run P w = .ok (a == b) w := by
  simp [Op.equalIn, run_underlying hu]
theorem keyT_int {t : TypeId} {k : IntKind} (hu : P.underlying t = some (.int k)) (hg : P.eqGuardType P.depth t = false) : KeyT P t := by
  have hof : ∀ {v : Value} {l : Lit}, keyOf P t v = some l → ∃ n, v = .int k n ∧ l = .int k n := fun {v l} h => by
    cases v <;> simp [keyOf, mapKey, hu] at h
    obtain ⟨⟨h1, _⟩, h2⟩ := h
    subst h1
    exact ⟨_, rfl, h2.symm⟩
  refine ⟨int_keyed hu, fun w a b la lb ha hb => ?_, fun w op ox oy a b => ?_⟩
  · obtain ⟨n, rfl, rfl⟩ := hof ha
    obtain ⟨m, rfl, rfl⟩ := hof hb
    refine ⟨n == m, ?_, by simp⟩
    exact eqIn_int hu 9999 w k n m
  · cases op <;> first | rfl | skip
    all_goals simp [eqGuard, hg]
end
end Ev
end Go.Proofs.YtoaimjielnempaaGreatDoor
