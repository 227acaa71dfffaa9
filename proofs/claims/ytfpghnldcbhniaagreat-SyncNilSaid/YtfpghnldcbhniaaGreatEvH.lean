/- What becomes of the memory: a block is written, a block is made, a block is given up for another one. -/
import Derived.Test.YtfpghnldcbhniaaGreatEvG
namespace Go.Proofs.YtfpghnldcbhniaaGreat
set_option linter.unusedVariables false
set_option linter.unusedSimpArgs false
open Go.RowKit Go.Maps
namespace Ev

/-- Only block x is turned. -/
structure WUp (w w' : World) (x : Nat) : Prop where
  os : w'.os = w.os
  tape : w'.tape = w.tape
  output : w'.output = w.output
  size : w'.heap.size = w.heap.size
  other : ∀ y, y ≠ x → w'.heap[y]? = w.heap[y]?
/-- One block is made. -/
structure WNew (w w' : World) (o : Obj) : Prop where
  os : w'.os = w.os
  tape : w'.tape = w.tape
  output : w'.output = w.output
  heap : w'.heap = w.heap.push o
def upd (ι : Pos → Option Nat) (b : Pos) (x : Nat) : Pos → Option Nat := fun p => bif p.beq b then some x else ι p
theorem Pos.beq_eq : ∀ p q : Pos, p.beq q = true ↔ p = q
  | .h, .h => by simp [Pos.beq]
  | .h, .o _ => by simp [Pos.beq]
  | .h, .i _ => by simp [Pos.beq]
  | .o _, .h => by simp [Pos.beq]
  | .o p, .o q => by simp [Pos.beq, Pos.beq_eq p q]
  | .o _, .i _ => by simp [Pos.beq]
  | .i _, .h => by simp [Pos.beq]
  | .i _, .o _ => by simp [Pos.beq]
  | .i p, .i q => by simp [Pos.beq, Pos.beq_eq p q]
theorem upd_same (ι : Pos → Option Nat) (b : Pos) (x : Nat) : upd ι b x b = some x := by
  unfold upd
  rw [(Pos.beq_eq b b).2 rfl]
  rfl
theorem upd_ne (ι : Pos → Option Nat) {b p : Pos} (x : Nat) (h : p ≠ b) : upd ι b x p = ι p := by
  unfold upd
  have : p.beq b = false := by rw [Bool.eq_false_iff]; intro e; exact h ((Pos.beq_eq p b).1 e)
  rw [this]
  rfl
theorem obj_put_same (h : H) (b : Pos) (o : AObj) : (h.put b o).obj b = some o := T.get_set_same b _ h.t
theorem obj_put_ne (h : H) {b p : Pos} (o : AObj) (hp : p ≠ b) : (h.put b o).obj p = h.obj p := T.get_set_ne b _ h.t p (Ne.symm hp)
theorem obj_new_same (h : H) (o : AObj) : (h.new o).obj h.nx = some o := T.get_set_same h.nx _ h.t
theorem obj_new_ne (h : H) {p : Pos} (o : AObj) (hp : p ≠ h.nx) : (h.new o).obj p = h.obj p := T.get_set_ne h.nx _ h.t p (Ne.symm hp)
theorem obj_kill_same (h : H) (b : Pos) : (h.kill b).obj b = none := T.get_set_same b _ h.t
theorem obj_kill_ne (h : H) {b p : Pos} (hp : p ≠ b) : (h.kill b).obj p = h.obj p := T.get_set_ne b _ h.t p (Ne.symm hp)
theorem nx_new (h : H) (o : AObj) : (h.new o).nx.num = h.nx.num + 1 := Pos.num_succ h.nx

theorem ObjR.mono {P : Program} {c d : Cx} (hl : c.Le d) {w w' : World} {x : Nat} {o : AObj} (hw : w'.heap[x]? = w.heap[x]?) (h : ObjR P c w x o) : ObjR P d w' x o := by
  cases o with
  | cells cs t fz =>
    obtain ⟨c', lo, hi, h1, h2, h3, h4, h5⟩ := h
    exact ⟨c', lo, hi, hw.trans h1, h2, h3.mono hl, h4, h5⟩
  | map kt es k =>
    obtain ⟨es', h1, h2⟩ := h
    exact ⟨es', hw.trans h1, h2.mono hl⟩
  | iter m s n l =>
    obtain ⟨m', h1, h2⟩ := h
    exact ⟨m', hw.trans h1, h2.mono hl⟩

section
variable {P : Program} {B : Nat} {W : World} {ι : Pos → Option Nat} {h : H} {w w' : World} {b : Pos} {x : Nat} {o o0 : AObj}
theorem bsz_other {y : Nat} (u : WUp w w' x) (hy : y ≠ x) : bsz w' y = bsz w y := by
  unfold bsz
  rw [u.other y hy]
theorem bs_up (u : WUp w w' x) (hs : bsz w' x = bsz w x) (y : Nat) : bsz w' y = bsz w y := by
  by_cases hy : y = x
  · rw [hy, hs]
  · exact bsz_other u hy
theorem Rel.put (r : Rel P B W ι h w) (hb : h.obj b = some o0) (hx : ι b = some x) (u : WUp w w' x) (hs : bsz w' x = bsz w x) (ho : ObjR P (cx ι h w) w' x o) :
    Rel P B W ι (h.put b o) w' ∧ Ext ι h w ι (h.put b o) w' := by
  have live : ∀ p o', (h.put b o).obj p = some o' → ∃ o1, h.obj p = some o1 := fun p o' hp => by
    by_cases e : p = b
    · subst e; exact ⟨_, hb⟩
    · rw [obj_put_ne h o e] at hp; exact ⟨_, hp⟩
  have hle : (cx ι h w).Le (cx ι (h.put b o) w') := ⟨Nat.le_refl _, fun p _ ⟨o', hp⟩ => live p o' hp, fun _ _ _ _ e => e, fun _ y _ _ _ => bs_up u hs y⟩
  have ext : Ext ι h w ι (h.put b o) w' := by
    refine ⟨Nat.le_refl _, fun p o' _ hp => ⟨live p o' hp, rfl⟩, fun p o' y hn hp hy => ?_, Nat.le_of_eq u.size.symm, fun y _ => bs_up u hs y, fun y _ hn => ?_, u.os, u.tape, u.output⟩
    · obtain ⟨o1, h1⟩ := live p o' hp
      exact absurd (r.fresh p o1 h1) hn
    · refine u.other y fun e => ?_
      subst e
      exact hn b o0 hb hx
  refine ⟨⟨fun p o' hp => ?_, fun p o' y hp hy => ?_, fun p p' o1 o2 y hp hp' hy hy' => ?_, fun p o' y hp hy => ?_, r.low, ext.out r⟩, ext⟩
  · obtain ⟨o1, h1⟩ := live p o' hp
    exact r.fresh p o1 h1
  · by_cases e : p = b
    · subst e
      rw [obj_put_same] at hp
      cases hp
      rw [hx] at hy
      cases hy
      exact ObjR.mono hle rfl ho
    · rw [obj_put_ne h o e] at hp
      have hyx : y ≠ x := fun e' => by subst e'; exact e (r.inj p b o' o0 y hp hb hy hx)
      exact ObjR.mono hle (u.other y hyx) (r.ob p o' y hp hy)
  · obtain ⟨q1, h1⟩ := live p o1 hp
    obtain ⟨q2, h2⟩ := live p' o2 hp'
    exact r.inj p p' q1 q2 y h1 h2 hy hy'
  · obtain ⟨q1, h1⟩ := live p o' hp
    exact r.base p q1 y h1 hy

/-- A block is turned, and no more is told of it. -/
theorem Rel.wipe (r : Rel P B W ι h w) (hb : h.obj b = some o0) (hx : ι b = some x) (u : WUp w w' x) (hs : bsz w' x = bsz w x) : Rel P B W ι (h.kill b) w' ∧ Ext ι h w ι (h.kill b) w' := by
  have live : ∀ p o', (h.kill b).obj p = some o' → p ≠ b ∧ h.obj p = some o' := fun p o' hp => by
    by_cases e : p = b
    · subst e; rw [obj_kill_same] at hp; cases hp
    · rw [obj_kill_ne h e] at hp; exact ⟨e, hp⟩
  have hle : (cx ι h w).Le (cx ι (h.kill b) w') := ⟨Nat.le_refl _, fun p _ ⟨o', hp⟩ => ⟨o', (live p o' hp).2⟩, fun _ _ _ _ e => e, fun _ y _ _ _ => bs_up u hs y⟩
  have ext : Ext ι h w ι (h.kill b) w' := by
    refine ⟨Nat.le_refl _, fun p o' _ hp => ⟨⟨o', (live p o' hp).2⟩, rfl⟩, fun p o' y hn hp hy => ?_, Nat.le_of_eq u.size.symm, fun y _ => bs_up u hs y, fun y _ hn => ?_, u.os, u.tape, u.output⟩
    · exact absurd (r.fresh p o' (live p o' hp).2) hn
    · refine u.other y fun e => ?_
      subst e
      exact hn b o0 hb hx
  refine ⟨⟨fun p o' hp => r.fresh p o' (live p o' hp).2, fun p o' y hp hy => ?_, fun p p' o1 o2 y hp hp' hy hy' => r.inj p p' o1 o2 y (live p o1 hp).2 (live p' o2 hp').2 hy hy', fun p o' y hp hy => r.base p o' y (live p o' hp).2 hy, r.low, ext.out r⟩, ext⟩
  obtain ⟨e, hp⟩ := live p o' hp
  have hyx : y ≠ x := fun e' => by subst e'; exact e (r.inj p b o' o0 y hp hb hy hx)
  exact ObjR.mono hle (u.other y hyx) (r.ob p o' y hp hy)
theorem Rel.new {obj : Obj} (r : Rel P B W ι h w) (u : WNew w w' obj) (ho : ObjR P (cx ι h w) w' w.heap.size o) :
    Rel P B W (upd ι h.nx w.heap.size) (h.new o) w' ∧ Ext ι h w (upd ι h.nx w.heap.size) (h.new o) w' := by
  have hne : ∀ p o', h.obj p = some o' → p ≠ h.nx := fun p o' hp e => by
    have := r.fresh p o' hp
    rw [e] at this
    omega
  have hlt : ∀ p : Pos, p.num < h.nx.num → p ≠ h.nx := fun p hp e => by rw [e] at hp; omega
  have hold : ∀ y, y < w.heap.size → w'.heap[y]? = w.heap[y]? := fun y hy => by
    rw [u.heap, Array.getElem?_push, if_neg (by omega)]
  have hbs : ∀ y, y < w.heap.size → bsz w' y = bsz w y := fun y hy => by unfold bsz; rw [hold y hy]
  have hsz : w'.heap.size = w.heap.size + 1 := by rw [u.heap]; simp
  have hle : (cx ι h w).Le (cx (upd ι h.nx w.heap.size) (h.new o) w') := by
    refine ⟨?_, fun p hp ⟨o', h1⟩ => ?_, fun p y hp _ e => ?_, fun p y hp ⟨o', h1⟩ e => ?_⟩
    · show h.nx.num ≤ (h.new o).nx.num
      rw [nx_new]; omega
    · rw [obj_new_ne h o (hlt p hp)] at h1; exact ⟨o', h1⟩
    · show upd ι h.nx w.heap.size p = some y
      rw [upd_ne ι _ (hlt p hp)]; exact e
    · rw [obj_new_ne h o (hlt p hp)] at h1
      exact hbs y (r.ob p o' y h1 e).lt
  have ext : Ext ι h w (upd ι h.nx w.heap.size) (h.new o) w' := by
    refine ⟨by rw [nx_new]; omega, fun p o' hp h1 => ?_, fun p o' y hn h1 hy => ?_, by omega, hbs, fun y hy _ => hold y hy, u.os, u.tape, u.output⟩
    · rw [obj_new_ne h o (hlt p hp)] at h1
      exact ⟨⟨o', h1⟩, upd_ne ι _ (hlt p hp)⟩
    · by_cases e : p = h.nx
      · subst e
        rw [upd_same] at hy
        cases hy
        exact .inl (Nat.le_refl _)
      · rw [obj_new_ne h o e] at h1
        exact absurd (r.fresh p o' h1) hn
  refine ⟨⟨fun p o' hp => ?_, fun p o' y hp hy => ?_, fun p p' o1 o2 y hp hp' hy hy' => ?_, fun p o' y hp hy => ?_, r.low, ext.out r⟩, ext⟩
  · rw [nx_new]
    by_cases e : p = h.nx
    · subst e; omega
    · rw [obj_new_ne h o e] at hp
      have := r.fresh p o' hp
      omega
  · by_cases e : p = h.nx
    · subst e
      rw [obj_new_same] at hp
      cases hp
      rw [upd_same] at hy
      cases hy
      exact ObjR.mono hle rfl ho
    · rw [obj_new_ne h o e] at hp
      rw [upd_ne ι _ e] at hy
      have h1 := r.ob p o' y hp hy
      exact ObjR.mono hle (hold y h1.lt) h1
  · by_cases e : p = h.nx
    · by_cases e' : p' = h.nx
      · rw [e, e']
      · subst e
        rw [upd_same] at hy
        cases hy
        rw [obj_new_ne h o e'] at hp'
        rw [upd_ne ι _ e'] at hy'
        have := (r.ob p' o2 _ hp' hy').lt
        omega
    · rw [obj_new_ne h o e] at hp
      rw [upd_ne ι _ e] at hy
      by_cases e' : p' = h.nx
      · subst e'
        rw [upd_same] at hy'
        cases hy'
        have := (r.ob p o1 _ hp hy).lt
        omega
      · rw [obj_new_ne h o e'] at hp'
        rw [upd_ne ι _ e'] at hy'
        exact r.inj p p' o1 o2 y hp hp' hy hy'
  · by_cases e : p = h.nx
    · subst e
      rw [upd_same] at hy
      cases hy
      have h1 := r.low
      have h2 := r.out.size
      omega
    · rw [obj_new_ne h o e] at hp
      rw [upd_ne ι _ e] at hy
      exact r.base p o' y hp hy

/-- A block is given up. -/
theorem Rel.kill (r : Rel P B W ι h w) (b : Pos) : Rel P B W ι (h.kill b) w ∧ Ext ι h w ι (h.kill b) w := by
  have live : ∀ p o', (h.kill b).obj p = some o' → p ≠ b ∧ h.obj p = some o' := fun p o' hp => by
    by_cases e : p = b
    · subst e; rw [obj_kill_same] at hp; cases hp
    · rw [obj_kill_ne h e] at hp; exact ⟨e, hp⟩
  have hle : (cx ι h w).Le (cx ι (h.kill b) w) := ⟨Nat.le_refl _, fun p _ ⟨o', hp⟩ => ⟨o', (live p o' hp).2⟩, fun _ _ _ _ e => e, fun _ _ _ _ _ => rfl⟩
  refine ⟨⟨fun p o' hp => r.fresh p o' (live p o' hp).2, fun p o' y hp hy => ObjR.mono hle rfl (r.ob p o' y (live p o' hp).2 hy), fun p p' o1 o2 y hp hp' hy hy' => r.inj p p' o1 o2 y (live p o1 hp).2 (live p' o2 hp').2 hy hy',
    fun p o' y hp hy => r.base p o' y (live p o' hp).2 hy, r.low, r.out⟩, ?_⟩
  exact ⟨Nat.le_refl _, fun p o' _ hp => ⟨⟨o', (live p o' hp).2⟩, rfl⟩, fun p o' y hn hp hy => absurd (r.fresh p o' (live p o' hp).2) hn, Nat.le_refl _, fun _ _ => rfl, fun _ _ _ => rfl, rfl, rfl, rfl⟩
/-- A block is given up, and stands, turned, for a new number. -/
theorem Rel.renew (r : Rel P B W ι h w) (hb : h.obj b = some o0) (hx : ι b = some x) (u : WUp w w' x) (hs : bsz w' x = bsz w x) (ho : ObjR P (cx ι h w) w' x o) :
    Rel P B W (upd ι h.nx x) ((h.kill b).new o) w' ∧ Ext ι h w (upd ι h.nx x) ((h.kill b).new o) w' := by
  have hbn : b ≠ h.nx := fun e => by
    have := r.fresh b o0 hb
    rw [e] at this
    omega
  have hnx : (h.kill b).nx = h.nx := rfl
  have live : ∀ p o', ((h.kill b).new o).obj p = some o' → (p = h.nx ∧ o' = o) ∨ (p ≠ h.nx ∧ p ≠ b ∧ h.obj p = some o') := fun p o' hp => by
    by_cases e : p = h.nx
    · subst e
      have := obj_new_same (h.kill b) o
      rw [hnx] at this
      rw [this] at hp
      cases hp
      exact .inl ⟨rfl, rfl⟩
    · rw [obj_new_ne (h.kill b) o (by rw [hnx]; exact e)] at hp
      by_cases e' : p = b
      · subst e'; rw [obj_kill_same] at hp; cases hp
      · rw [obj_kill_ne h e'] at hp
        exact .inr ⟨e, e', hp⟩
  have hlt : ∀ p : Pos, p.num < h.nx.num → p ≠ h.nx := fun p hp e => by rw [e] at hp; omega
  have hle : (cx ι h w).Le (cx (upd ι h.nx x) ((h.kill b).new o) w') := by
    refine ⟨?_, fun p hp ⟨o', h1⟩ => ?_, fun p y hp _ e => ?_, fun p y hp _ e => bs_up u hs y⟩
    · show h.nx.num ≤ ((h.kill b).new o).nx.num
      rw [nx_new, hnx]; omega
    · rcases live p o' h1 with ⟨e, _⟩ | ⟨_, _, h2⟩
      · exact absurd e (hlt p hp)
      · exact ⟨o', h2⟩
    · show upd ι h.nx x p = some y
      rw [upd_ne ι _ (hlt p hp)]; exact e
  have ext : Ext ι h w (upd ι h.nx x) ((h.kill b).new o) w' := by
    refine ⟨by rw [nx_new, hnx]; omega, fun p o' hp h1 => ?_, fun p o' y hn h1 hy => ?_, Nat.le_of_eq u.size.symm, fun y _ => bs_up u hs y, fun y _ hn => ?_, u.os, u.tape, u.output⟩
    · rcases live p o' h1 with ⟨e, _⟩ | ⟨h2, _, h3⟩
      · exact absurd e (hlt p hp)
      · exact ⟨⟨o', h3⟩, upd_ne ι _ h2⟩
    · rcases live p o' h1 with ⟨e, _⟩ | ⟨h2, _, h3⟩
      · subst e
        rw [upd_same] at hy
        cases hy
        exact .inr ⟨b, o0, hb, hx⟩
      · exact absurd (r.fresh p o' h3) hn
    · refine u.other y fun e => ?_
      subst e
      exact hn b o0 hb hx
  refine ⟨⟨fun p o' hp => ?_, fun p o' y hp hy => ?_, fun p p' o1 o2 y hp hp' hy hy' => ?_, fun p o' y hp hy => ?_, r.low, ext.out r⟩, ext⟩
  · rw [nx_new, hnx]
    rcases live p o' hp with ⟨e, _⟩ | ⟨_, _, h3⟩
    · subst e; omega
    · have := r.fresh p o' h3; omega
  · rcases live p o' hp with ⟨e, e'⟩ | ⟨h2, h3, h4⟩
    · subst e e'
      rw [upd_same] at hy
      cases hy
      exact ObjR.mono hle rfl ho
    · rw [upd_ne ι _ h2] at hy
      have hyx : y ≠ x := fun e' => by subst e'; exact h3 (r.inj p b o' o0 y h4 hb hy hx)
      exact ObjR.mono hle (u.other y hyx) (r.ob p o' y h4 hy)
  · rcases live p o1 hp with ⟨e, _⟩ | ⟨h2, h3, h4⟩
    · rcases live p' o2 hp' with ⟨e', _⟩ | ⟨k2, k3, k4⟩
      · rw [e, e']
      · subst e
        rw [upd_same] at hy
        cases hy
        rw [upd_ne ι _ k2] at hy'
        exact absurd (r.inj p' b o2 o0 x k4 hb hy' hx) k3
    · rw [upd_ne ι _ h2] at hy
      rcases live p' o2 hp' with ⟨e', _⟩ | ⟨k2, k3, k4⟩
      · subst e'
        rw [upd_same] at hy'
        cases hy'
        exact absurd (r.inj p b o1 o0 x h4 hb hy hx) h3
      · rw [upd_ne ι _ k2] at hy'
        exact r.inj p p' o1 o2 y h4 k4 hy hy'
  · rcases live p o' hp with ⟨e, _⟩ | ⟨h2, _, h3⟩
    · subst e
      rw [upd_same] at hy
      cases hy
      exact r.base b o0 x hb hx
    · rw [upd_ne ι _ h2] at hy
      exact r.base p o' y h3 hy
end
end Ev
end Go.Proofs.YtfpghnldcbhniaaGreat
