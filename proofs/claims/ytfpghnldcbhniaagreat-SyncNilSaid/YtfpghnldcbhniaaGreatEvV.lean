/- Memory that is not made yet; values that are the same. -/
import Derived.Test.YtfpghnldcbhniaaGreatEvS
import Derived.Orders
namespace Go.Proofs.YtfpghnldcbhniaaGreat
set_option linter.unusedVariables false
set_option linter.unusedSimpArgs false
open Go.RowKit Go.Maps
namespace Ev

section
variable {P : Program} {B : Nat} {W : World} {ι : Pos → Option Nat} {h h' : H} {w w' : World} {o : AObj} {b : Pos}

theorem Rel.drew (r : Rel P B W ι h w) : Rel P B W ι h { w with drawn := w.drawn + 1 } ∧ Ext ι h w ι h { w with drawn := w.drawn + 1 } := by
  have ext : Ext ι h w ι h { w with drawn := w.drawn + 1 } :=
    ⟨Nat.le_refl _, fun p o' _ hp => ⟨⟨o', hp⟩, rfl⟩, fun p o' y hn hp hy => absurd (r.fresh p o' hp) hn, Nat.le_refl _, fun _ _ => rfl, fun _ _ _ => rfl, rfl, rfl, rfl⟩
  exact ⟨⟨r.fresh, fun p o' y hp hy => ObjR.mono (ext.le r) rfl (r.ob p o' y hp hy), r.inj, r.base, r.low, ext.out r⟩, ext⟩
/-- What no live number stands for is forgotten. -/
noncomputable def cut (ι : Pos → Option Nat) (h : H) : Pos → Option Nat := fun b => ob (h.obj b) none fun _ => ι b
theorem cut_live (ι : Pos → Option Nat) {h : H} {b : Pos} {o : AObj} (hb : h.obj b = some o) : cut ι h b = ι b := by unfold cut; rw [hb]; rfl
theorem cut_dead (ι : Pos → Option Nat) {h : H} {b : Pos} (hb : h.obj b = none) : cut ι h b = none := by unfold cut; rw [hb]; rfl
theorem Rel.cut (r : Rel P B W ι h w) : Rel P B W (cut ι h) h w ∧ Ext ι h w (cut ι h) h w := by
  have ext : Ext ι h w (Ev.cut ι h) h w :=
    ⟨Nat.le_refl _, fun p o' _ hp => ⟨⟨o', hp⟩, cut_live ι hp⟩, fun p o' y hn hp hy => absurd (r.fresh p o' hp) hn, Nat.le_refl _, fun _ _ => rfl, fun _ _ _ => rfl, rfl, rfl, rfl⟩
  refine ⟨⟨r.fresh, fun p o' y hp hy => ?_, fun p p' o1 o2 y hp hp' hy hy' => ?_, fun p o' y hp hy => ?_, r.low, ext.out r⟩, ext⟩
  · rw [cut_live ι hp] at hy
    exact ObjR.mono (ext.le r) rfl (r.ob p o' y hp hy)
  · rw [cut_live ι hp] at hy
    rw [cut_live ι hp'] at hy'
    exact r.inj p p' o1 o2 y hp hp' hy hy'
  · rw [cut_live ι hp] at hy
    exact r.base p o' y hp hy
/-- A block that is yet to be made. -/
theorem Rel.pend (r : Rel P B W ι h w) (hι : ι h.nx = none) (o : AObj) : Rel P B W ι (h.new o) w ∧ Ext ι h w ι (h.new o) w := by
  have hlt : ∀ p : Pos, p.num < h.nx.num → p ≠ h.nx := fun p hp e => by rw [e] at hp; omega
  have old : ∀ p o' y, (h.new o).obj p = some o' → ι p = some y → h.obj p = some o' := fun p o' y hp hy => by
    by_cases e : p = h.nx
    · subst e; rw [hι] at hy; cases hy
    · rw [obj_new_ne h o e] at hp; exact hp
  have ext : Ext ι h w ι (h.new o) w := by
    refine ⟨by rw [nx_new]; omega, fun p o' hp h1 => ?_, fun p o' y hn hp hy => ?_, Nat.le_refl _, fun _ _ => rfl, fun _ _ _ => rfl, rfl, rfl, rfl⟩
    · rw [obj_new_ne h o (hlt p hp)] at h1
      exact ⟨⟨o', h1⟩, rfl⟩
    · exact absurd (r.fresh p o' (old p o' y hp hy)) hn
  refine ⟨⟨fun p o' hp => ?_, fun p o' y hp hy => ObjR.mono (ext.le r) rfl (r.ob p o' y (old p o' y hp hy) hy), fun p p' o1 o2 y hp hp' hy hy' => r.inj p p' o1 o2 y (old p o1 y hp hy) (old p' o2 y hp' hy') hy hy',
    fun p o' y hp hy => r.base p o' y (old p o' y hp hy) hy, r.low, ext.out r⟩, ext⟩
  rw [nx_new]
  by_cases e : p = h.nx
  · subst e; omega
  · rw [obj_new_ne h o e] at hp
    have := r.fresh p o' hp
    omega
/-- It is made. -/
theorem Rel.fill {obj : Obj} (r : Rel P B W ι h w) (hb : h.obj b = some o) (hι : ι b = none) (u : WNew w w' obj) (ho : ObjR P (cx ι h w) w' w.heap.size o) :
    Rel P B W (upd ι b w.heap.size) h w' ∧ (cx ι h w).Le (cx (upd ι b w.heap.size) h w') ∧
      ∀ ι0 h0 w0, Rel P B W ι0 h0 w0 → Ext ι0 h0 w0 ι h w → ¬ b.num < h0.nx.num → Ext ι0 h0 w0 (upd ι b w.heap.size) h w' := by
  have hne : ∀ p y, ι p = some y → p ≠ b := fun p y hp e => by subst e; rw [hι] at hp; cases hp
  have hold : ∀ y, y < w.heap.size → w'.heap[y]? = w.heap[y]? := fun y hy => by
    rw [u.heap, Array.getElem?_push, if_neg (by omega)]
  have hbs : ∀ y, y < w.heap.size → bsz w' y = bsz w y := fun y hy => by unfold bsz; rw [hold y hy]
  have hsz : w'.heap.size = w.heap.size + 1 := by rw [u.heap]; simp
  have hle : (cx ι h w).Le (cx (upd ι b w.heap.size) h w') := by
    refine ⟨Nat.le_refl _, fun p hp h1 => h1, fun p y hp _ e => ?_, fun p y hp ⟨o', h1⟩ e => ?_⟩
    · show upd ι b w.heap.size p = some y
      rw [upd_ne ι _ (hne p y e)]; exact e
    · exact hbs y (r.ob p o' y h1 e).lt
  have hout : Below B W w' := by
    refine ⟨u.os.trans r.out.os, u.tape.trans r.out.tape, u.output.trans r.out.output, by have := r.out.size; omega, fun k hk => ?_⟩
    have h1 := r.low
    have h2 := r.out.size
    rw [hold k (by omega)]
    exact r.out.block k hk
  refine ⟨⟨r.fresh, fun p o' y hp hy => ?_, fun p p' o1 o2 y hp hp' hy hy' => ?_, fun p o' y hp hy => ?_, r.low, hout⟩, hle, fun ι0 h0 w0 r0 x hn => ?_⟩
  · by_cases e : p = b
    · subst e
      rw [hb] at hp
      cases hp
      rw [upd_same] at hy
      cases hy
      exact ObjR.mono hle rfl ho
    · rw [upd_ne ι _ e] at hy
      have h1 := r.ob p o' y hp hy
      exact ObjR.mono hle (hold y h1.lt) h1
  · by_cases e : p = b
    · by_cases e' : p' = b
      · rw [e, e']
      · subst e
        rw [upd_same] at hy
        cases hy
        rw [upd_ne ι _ e'] at hy'
        have := (r.ob p' o2 _ hp' hy').lt
        omega
    · rw [upd_ne ι _ e] at hy
      by_cases e' : p' = b
      · subst e'
        rw [upd_same] at hy'
        cases hy'
        have := (r.ob p o1 _ hp hy).lt
        omega
      · rw [upd_ne ι _ e'] at hy'
        exact r.inj p p' o1 o2 y hp hp' hy hy'
  · by_cases e : p = b
    · subst e
      rw [upd_same] at hy
      cases hy
      have h1 := r.low
      have h2 := r.out.size
      omega
    · rw [upd_ne ι _ e] at hy
      exact r.base p o' y hp hy
  · refine ⟨x.nx, fun p o' hp h1 => ?_, fun p o' y hp h1 hy => ?_, by have := x.size; omega, fun y hy => ?_, fun y hy hn' => ?_, u.os.trans x.os, u.tape.trans x.tape, u.output.trans x.output⟩
    · obtain ⟨h2, h3⟩ := x.lv p o' hp h1
      exact ⟨h2, (upd_ne ι _ (fun e => by subst e; exact hn hp)).trans h3⟩
    · by_cases e : p = b
      · subst e
        rw [upd_same] at hy
        cases hy
        exact .inl x.size
      · rw [upd_ne ι _ e] at hy
        exact x.nw p o' y hp h1 hy
    · rw [hbs y (by have := x.size; omega), x.bs y hy]
    · rw [hold y (by have := x.size; omega), x.keep y hy hn']
end

/-! ### The same -/
theorem and'_eq {x y : Bool} (h : and' x y = true) : x = true ∧ y = true := by cases x <;> cases y <;> first | exact ⟨rfl, rfl⟩ | cases h
theorem sameO_eq {x y : Option Nat} (h : sameO x y = true) : x = y := by
  cases x <;> cases y <;> first | rfl | cases h | exact congrArg some (Nat.eq_of_beq_eq_true h)
theorem eqI_eq' {x y : Int} (h : eqI x y = true) : x = y := by
  cases x <;> cases y <;> first | cases h | exact congrArg _ (Nat.eq_of_beq_eq_true h)
mutual
theorem sameAV_eq : ∀ (a b : AV), sameAV a b = true → a = b
  | .undef, b, e => by cases b <;> first | rfl | cases e
  | .bool x, b, e => by cases b <;> first | cases e | (rename_i y; cases x <;> cases y <;> first | rfl | cases e)
  | .int k n, b, e => by
    cases b <;> first | cases e | skip
    rename_i j m
    obtain ⟨h1, h2⟩ := and'_eq (show and' (eqK k j) (eqI n m) = true from e)
    rw [eqK_eq h1, eqI_eq' h2]
  | .str s, b, e => by
    cases b <;> first | cases e | skip
    rename_i t
    have e : eqBytes s t = true := e
    rw [eqBytes_eq] at e
    rw [of_decide_eq_true e]
  | .nilp, b, e => by cases b <;> first | rfl | cases e
  | .ptr p o, b, e => by
    cases b <;> first | cases e | skip
    rename_i q n
    obtain ⟨h1, h2⟩ := and'_eq (show and' (p.beq q) (Nat.beq o n) = true from e)
    rw [(Pos.beq_eq _ _).1 h1, Nat.eq_of_beq_eq_true h2]
  | .nils, b, e => by cases b <;> first | rfl | cases e
  | .slice p o n k s, b, e => by
    cases b <;> first | cases e | skip
    rename_i q o' n' k' s'
    obtain ⟨h1, e⟩ := and'_eq (show and' (p.beq q) (and' (Nat.beq o o') (and' (Nat.beq n n') (and' (sameO k k') (Nat.beq s s')))) = true from e)
    obtain ⟨h2, e⟩ := and'_eq e
    obtain ⟨h3, e⟩ := and'_eq e
    obtain ⟨h4, e⟩ := and'_eq e
    rw [(Pos.beq_eq _ _).1 h1, Nat.eq_of_beq_eq_true h2, Nat.eq_of_beq_eq_true h3, sameO_eq h4, Nat.eq_of_beq_eq_true e]
  | .nilm, b, e => by cases b <;> first | rfl | cases e
  | .map p, b, e => by
    cases b <;> first | cases e | skip
    rename_i q
    rw [(Pos.beq_eq p q).1 e]
  | .nilf, b, e => by cases b <;> first | rfl | cases e
  | .func f n cs, b, e => by
    cases b <;> first | cases e | skip
    rename_i g m ds
    obtain ⟨h1, e⟩ := and'_eq (show and' (Nat.beq f g) (and' (Nat.beq n m) (sameL cs ds)) = true from e)
    obtain ⟨h2, e⟩ := and'_eq e
    rw [Nat.eq_of_beq_eq_true h1, Nat.eq_of_beq_eq_true h2, sameL_eq cs ds e]
  | .iface t v, b, e => by
    cases b <;> first | cases e | skip
    rename_i u x
    obtain ⟨h1, e⟩ := and'_eq (show and' (Nat.beq t u) (sameAV v x) = true from e)
    rw [Nat.eq_of_beq_eq_true h1, sameAV_eq v x e]
  | .agg cs, b, e => by
    cases b <;> first | cases e | skip
    rename_i ds
    rw [sameL_eq cs ds e]
  | .tuple cs, b, e => by
    cases b <;> first | cases e | skip
    rename_i ds
    rw [sameL_eq cs ds e]
theorem sameL_eq : ∀ (a b : List AV), sameL a b = true → a = b
  | [], b, e => by cases b <;> first | rfl | cases e
  | x :: xs, b, e => by
    cases b <;> first | cases e | skip
    rename_i y ys
    obtain ⟨h1, h2⟩ := and'_eq (show and' (sameAV x y) (sameL xs ys) = true from e)
    rw [sameAV_eq x y h1, sameL_eq xs ys h2]
end
theorem sameObj_eq {x y : AObj} (e : sameObj x y = true) : x = y := by
  cases x with
  | cells cs t fz =>
    cases y <;> first | cases e | skip
    rename_i ds u gz
    obtain ⟨h1, e⟩ := and'_eq (show and' (sameL cs ds) (and' (Nat.beq t u) (Nat.beq fz gz)) = true from e)
    obtain ⟨h2, h3⟩ := and'_eq e
    rw [sameL_eq _ _ h1, Nat.eq_of_beq_eq_true h2, Nat.eq_of_beq_eq_true h3]
  | map kt es c =>
    cases y <;> first | cases e | skip
    rename_i lt fs d
    obtain ⟨h1, e⟩ := and'_eq (show and' (Nat.beq kt lt) (and' _ (Nat.beq c d)) = true from e)
    obtain ⟨h2, h3⟩ := and'_eq e
    rw [Nat.eq_of_beq_eq_true h1, Nat.eq_of_beq_eq_true h3]
    cases es <;> cases fs <;> first | rfl | cases h2
  | iter => cases e
end Ev
end Go.Proofs.YtfpghnldcbhniaaGreat
