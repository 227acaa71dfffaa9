/- What a call at given values gives is known once it was reckoned. -/
import Derived.Test.YtfpghnldcbhniaaGreatPlB
namespace Go.Proofs.YtfpghnldcbhniaaGreat
set_option linter.unusedVariables false
set_option linter.unusedSimpArgs false
open Go.RowKit Go.Maps
namespace Ev
section
variable {P : Program} {B : Nat} {W : World} {ι : Pos → Option Nat} {h : H} {w w' : World}
/-- What lies outside is as it was, and blocks are made. -/
theorem Rel.grown (r : Rel P B W ι h w) (u : Below w.heap.size w w') : Rel P B W ι h w' ∧ Ext ι h w ι h w' := by
  have hold : ∀ y, y < w.heap.size → w'.heap[y]? = w.heap[y]? := fun y hy => u.block y hy
  have hbs : ∀ y, y < w.heap.size → bsz w' y = bsz w y := fun y hy => by unfold bsz; rw [hold y hy]
  have hle : (cx ι h w).Le (cx ι h w') := ⟨Nat.le_refl _, fun _ _ h => h, fun _ _ _ _ e => e, fun p y hp ⟨o', h1⟩ e => hbs y (r.ob p o' y h1 e).lt⟩
  have ext : Ext ι h w ι h w' := ⟨Nat.le_refl _, fun p o' _ hp => ⟨⟨o', hp⟩, rfl⟩, fun p o' y hn hp _ => absurd (r.fresh p o' hp) hn, u.size, hbs, fun y hy _ => hold y hy, u.os, u.tape, u.output⟩
  exact ⟨⟨r.fresh, fun p o' y hp hy => ObjR.mono hle (hold y (r.ob p o' y hp hy).lt) (r.ob p o' y hp hy), r.inj, r.base, r.low, ext.out r⟩, ext⟩
end
/-- The same values, none of them an address. -/
noncomputable def memo (xs0 : List AV) (r0 : AV) (xs : List AV) (h : H) : E := bi (sameL xs0 xs) (.ok r0 h) .no
theorem memo_ok {P : Program} {f : FuncId} {p : List AV → H → E} (hp : OneOk P f p) {xs0 : List AV} {r0 : AV} {h0 : H} {v : Value} (hr : ∀ (c : Cx) u, V c r0 u → u = v) (hr' : ∀ c : Cx, V c r0 v) (hx : ∀ (c d : Cx) us, VL c xs0 us → VL d xs0 us) (e : p xs0 H0 = .ok r0 h0) : OneOk P f (memo xs0 r0) := by
  intro B W ι h w xs vs r h' rel hv e1
  obtain ⟨h1, e2⟩ := biE (show bi (sameL xs0 xs) _ E.no = _ from e1)
  obtain ⟨e3, e4⟩ := okE e2
  subst e3 e4
  have := sameL_eq _ _ h1
  subst this
  obtain ⟨g1, g2⟩ := hp w.heap.size w (fun _ => none) H0 w xs0 vs r0 h0 (rel_start P w) (hx _ _ _ hv) e
  refine ⟨g1, g2.mono ?_⟩
  rintro e w' ⟨u, ι', h3, h4, h5, h6⟩
  have hu := hr _ _ h6
  subst hu
  obtain ⟨s1, s2⟩ := rel.grown h4.out
  exact ⟨_, ι, h3, s1, s2, hr' _⟩
/-! A table of such calls. -/
theorem concS_mk {c : Cx} {a : AV} {u : Value} (e : concS a = some u) : V c a u ∧ a.one = true := by
  cases a <;> simp only [concS, reduceCtorEq, Option.some.injEq] at e
  · subst e; exact ⟨.bool _, rfl⟩
  · subst e; exact ⟨.int _ _, rfl⟩
  · subst e; exact ⟨.str _, rfl⟩
theorem concL_mk {c : Cx} : ∀ {cs : List AV} {us : List Value}, concL cs = some us → VL c cs us ∧ ∀ a ∈ cs, a.one = true
  | [], us, e => by cases e; exact ⟨.nil, fun a h => by cases h⟩
  | a :: al, us, e => by
    simp only [concL] at e
    split at e
    · rename_i v r h3 h4
      cases e
      obtain ⟨g1, g2⟩ := concS_mk (c := c) h3
      obtain ⟨g3, g4⟩ := concL_mk (c := c) h4
      refine ⟨.cons g1 g3, fun b hb => ?_⟩
      rcases List.mem_cons.1 hb with rfl | hb
      · exact g2
      · exact g4 b hb
    · cases e
theorem conc_mk {c : Cx} {a : AV} {u : Value} (e : conc a = some u) : V c a u := by
  cases a with
  | agg cs =>
    simp only [conc] at e
    split at e
    · rename_i l hl
      cases e
      obtain ⟨g1, g2⟩ := concL_mk (c := c) hl
      exact .agg _ _ g1 g2
    · cases e
  | bool b => exact (concS_mk (a := .bool b) e).1
  | int k n => exact (concS_mk (a := .int k n) e).1
  | str s => exact (concS_mk (a := .str s) e).1
  | _ => cases e
def concs : List AV → Option (List Value)
  | [] => some []
  | a :: l =>
    match conc a, concs l with
    | some v, some r => some (v :: r)
    | _, _ => none
theorem concs_V {c : Cx} : ∀ {cs : List AV} {vs us : List Value}, VL c cs vs → concs cs = some us → vs = us
  | _, _, us, .nil, e => by cases e; rfl
  | _, _, us, .cons h1 h2, e => by
    simp only [concs] at e
    split at e
    · rename_i v r h3 h4
      cases e
      rw [conc_V h1 h3, concs_V h2 h4]
    · cases e
theorem concs_mk {c : Cx} : ∀ {cs : List AV} {us : List Value}, concs cs = some us → VL c cs us
  | [], us, e => by cases e; exact .nil
  | a :: al, us, e => by
    simp only [concs] at e
    split at e
    · rename_i v r h3 h4
      cases e
      exact .cons (conc_mk h3) (concs_mk h4)
    · cases e
def concT (a : AV) : Option Value :=
  match a with
  | .tuple vs =>
    match concs vs with
    | some l => some (.tuple l.toArray)
    | none => none
  | a => conc a
theorem concT_V {c : Cx} {a : AV} {v u : Value} (h : V c a v) (e : concT a = some u) : v = u := by
  cases a with
  | tuple vs =>
    obtain ⟨ws, rfl, hv⟩ := h.tup_inv
    simp only [concT] at e
    split at e
    · rename_i l hl
      cases e
      rw [concs_V hv hl]
    · cases e
  | bool b => exact conc_V (a := .bool b) h e
  | int k n => exact conc_V (a := .int k n) h e
  | str s => exact conc_V (a := .str s) h e
  | agg cs => exact conc_V (a := .agg cs) h e
  | _ => cases e
theorem concT_mk {c : Cx} {a : AV} {u : Value} (e : concT a = some u) : V c a u := by
  cases a with
  | tuple vs =>
    simp only [concT] at e
    split at e
    · rename_i l hl
      cases e
      exact .tuple _ _ (concs_mk hl)
    · cases e
  | bool b => exact conc_mk (a := .bool b) e
  | int k n => exact conc_mk (a := .int k n) e
  | str s => exact conc_mk (a := .str s) e
  | agg cs => exact conc_mk (a := .agg cs) e
  | _ => cases e
noncomputable def memoT (T : List (List AV × AV)) (xs : List AV) (h : H) : E := List.rec (motive := fun _ => E) .no (fun e _ ih => bi (sameL e.1 xs) (.ok e.2 h) ih) T
/-- What an entry must be: values without addresses, and the run gives it. -/
structure Entry (p : List AV → H → E) (e : List AV × AV) : Prop where
  args : (concs e.1).isSome = true
  res : (concT e.2).isSome = true
  run : ∃ h', p e.1 H0 = .ok e.2 h'
theorem memoT_ok {P : Program} {f : FuncId} {p : List AV → H → E} (hp : OneOk P f p) : ∀ (T : List (List AV × AV)), (∀ e ∈ T, Entry p e) → OneOk P f (memoT T)
  | [], _ => fun B W ι h w xs vs r h' rel hv e => by cases e
  | e0 :: T, hT => fun B W ι h w xs vs r h' rel hv e => by
    have e : bi (sameL e0.1 xs) (.ok e0.2 h) (memoT T xs h) = .ok r h' := e
    cases hs : sameL e0.1 xs with
    | false =>
      rw [hs] at e
      exact memoT_ok hp T (fun x hx => hT x (List.mem_cons_of_mem _ hx)) B W ι h w xs vs r h' rel hv e
    | true =>
      have e1 : memo e0.1 e0.2 xs h = .ok r h' := by
        show bi (sameL e0.1 xs) (.ok e0.2 h) Ev.E.no = _
        rw [hs] at e ⊢
        exact e
      obtain ⟨q1, q2, h0, q3⟩ := hT e0 List.mem_cons_self
      obtain ⟨us, hus⟩ := Option.isSome_iff_exists.1 q1
      obtain ⟨v, hv0⟩ := Option.isSome_iff_exists.1 q2
      exact memo_ok hp (v := v) (fun c u hu => concT_V hu hv0) (fun c => concT_mk hv0) (fun c d ws hw => by rw [concs_V hw hus]; exact concs_mk hus) q3 B W ι h w xs vs r h' rel hv e1
end Ev
end Go.Proofs.YtfpghnldcbhniaaGreat
