/- What a reckoned run has to do with the model's: numbers stand for blocks. -/
import Derived.Test.YtfpghnldcbhniaaGreatEvB
namespace Go.Proofs.YtfpghnldcbhniaaGreat
set_option linter.unusedVariables false
set_option linter.unusedSimpArgs false
open Go.RowKit Go.Maps
namespace Ev

def Pos.num : Pos → Nat
  | .h => 1
  | .o p => 2 * p.num
  | .i p => 2 * p.num + 1
theorem Pos.num_pos : ∀ p : Pos, 1 ≤ p.num
  | .h => Nat.le_refl _
  | .o p => by have := p.num_pos; simp only [Pos.num]; omega
  | .i p => by simp only [Pos.num]; omega
theorem Pos.num_succ : ∀ p : Pos, p.succ.num = p.num + 1
  | .h => rfl
  | .o p => rfl
  | .i p => by have := p.num_succ; simp only [Pos.succ, Pos.num]; omega
theorem Pos.num_inj : ∀ {p q : Pos}, p.num = q.num → p = q
  | .h, .h, _ => rfl
  | .h, .o q, e => by have := q.num_pos; simp only [Pos.num] at e; omega
  | .h, .i q, e => by have := q.num_pos; simp only [Pos.num] at e; omega
  | .o p, .h, e => by have := p.num_pos; simp only [Pos.num] at e; omega
  | .i p, .h, e => by have := p.num_pos; simp only [Pos.num] at e; omega
  | .o p, .o q, e => by rw [Pos.num_inj (p := p) (q := q) (by simp only [Pos.num] at e; omega)]
  | .i p, .i q, e => by rw [Pos.num_inj (p := p) (q := q) (by simp only [Pos.num] at e; omega)]
  | .o p, .i q, e => by simp only [Pos.num] at e; omega
  | .i p, .o q, e => by simp only [Pos.num] at e; omega
theorem posOf_num : ∀ (f n : Nat), 1 ≤ n → n < 2 ^ (f + 1) → (posOf f n).num = n
  | 0, n, h1, h2 => by simp at h2; simp [posOf, Pos.num]; omega
  | f + 1, n, h1, h2 => by
    unfold posOf
    by_cases hn : n ≤ 1
    · rw [if_pos (by simpa using hn)]
      simp only [Pos.num]; omega
    · rw [if_neg (by simpa using hn)]
      have ih := posOf_num f (n / 2) (by omega) (by rw [Nat.pow_succ] at h2; omega)
      by_cases hm : n % 2 = 0
      · rw [if_pos (by simpa using hm)]
        simp only [Pos.num, ih]; omega
      · rw [if_neg (by simpa using hm)]
        simp only [Pos.num, ih]; omega
theorem slot_num {t : Nat} (h : t < 1000000) : (slot t).num = t + 1 := posOf_num 20 (t + 1) (by omega) (by omega)
theorem slot_inj {t u : Nat} (ht : t < 1000000) (hu : u < 1000000) (h : slot t = slot u) : t = u := by
  have := slot_num ht
  rw [h, slot_num hu] at this
  omega

section
variable {α : Type}
theorem T.get_set_same (p : Pos) (x : Option α) : ∀ t : T α, (t.set p x).get p = x := by
  induction p with
  | h => intro t; cases t <;> rfl
  | o p ih => intro t; cases t with
    | e => exact ih .e
    | n l v r => exact ih l
  | i p ih => intro t; cases t with
    | e => exact ih .e
    | n l v r => exact ih r
theorem T.get_e (q : Pos) : (T.e : T α).get q = none := by cases q <;> rfl
theorem T.get_set_ne (p : Pos) (x : Option α) : ∀ (t : T α) (q : Pos), p ≠ q → (t.set p x).get q = t.get q := by
  induction p with
  | h => intro t q hq; cases t <;> cases q <;> first | exact absurd rfl hq | (show T.get .e _ = _; rw [T.get_e]; rfl) | rfl
  | o p ih =>
    intro t q hq
    cases t with
    | e =>
      cases q with
      | h => rfl
      | o q => exact (ih .e q (fun e => hq (by rw [e]))).trans (by rw [T.get_e, T.get_e])
      | i q => exact T.get_e q
    | n l v r =>
      cases q with
      | h => rfl
      | o q => exact ih l q (fun e => hq (by rw [e]))
      | i q => rfl
  | i p ih =>
    intro t q hq
    cases t with
    | e =>
      cases q with
      | h => rfl
      | i q => exact (ih .e q (fun e => hq (by rw [e]))).trans (by rw [T.get_e, T.get_e])
      | o q => exact T.get_e q
    | n l v r =>
      cases q with
      | h => rfl
      | i q => exact ih r q (fun e => hq (by rw [e]))
      | o q => rfl
end

theorem ob_some {α β : Type} {x : Option α} {d : β} {f : α → β} {y : β} (hd : y ≠ d) (h : ob x d f = y) : ∃ a, x = some a ∧ f a = y := by
  cases x with
  | none => exact absurd h.symm hd
  | some a => exact ⟨a, rfl, h⟩
@[simp] theorem ob_none_eq {α β : Type} (d : β) (f : α → β) : ob none d f = d := rfl
@[simp] theorem ob_some_eq {α β : Type} (a : α) (d : β) (f : α → β) : ob (some a) d f = f a := rfl
@[simp] theorem bi_true {β : Type} (x y : β) : bi true x y = x := rfl
@[simp] theorem bi_false {β : Type} (x y : β) : bi false x y = y := rfl
theorem bi_some {β : Type} {b : Bool} {x y z : β} (hd : z ≠ y) (h : bi b x y = z) : b = true ∧ x = z := by
  cases b
  · exact absurd h.symm hd
  · exact ⟨rfl, h⟩

/-- Values that can lie in a cell. -/
def AV.one : AV → Bool
  | .undef | .agg _ | .tuple _ => false
  | _ => true

/-- What there is of the memory for a value: which block a number stands for, which numbers live, how many were given, how large blocks are. -/
structure Cx where
  ι : Pos → Option Nat
  lv : Pos → Prop
  nx : Nat
  bs : Nat → Nat

mutual
inductive V (c : Cx) : AV → Value → Prop
  | undef : V c .undef undef
  | bool (b : Bool) : V c (.bool b) (.bool b)
  | int (k : IntKind) (n : Int) : V c (.int k n) (.int k n)
  | str (s : List UInt8) : V c (.str s) (.string ⟨s.toArray⟩)
  | nilp : V c .nilp (.pointer none)
  | ptr (b : Pos) (o x o' : Nat) : b.num < c.nx → (c.lv b → c.ι b = some x ∧ o' = o) → V c (.ptr b o) (.pointer (some ⟨x, o', none⟩))
  | nils : V c .nils (.slice none 0 0)
  | slice (b : Pos) (o n : Nat) (cap : Option Nat) (sz x o' c' : Nat) : b.num < c.nx → n ≤ c' → (∀ k, cap = some k → c' = k) →
      (c.lv b → c.ι b = some x ∧ (o' = o ∨ c' = 0) ∧ o' + c' * sz ≤ c.bs x) → V c (.slice b o n cap sz) (.slice (some ⟨x, o', none⟩) n c')
  | nilm : V c .nilm (.map none)
  | map (b : Pos) (x : Nat) : b.num < c.nx → (c.lv b → c.ι b = some x) → V c (.map b) (.map (some x))
  | nilf : V c .nilf .nilFunc
  | func (f : FuncId) (n : Nat) (cs : List AV) (vs : List Value) : VL c cs vs → n ≤ cs.length → V c (.func f n cs) (.func (.func f) (vs.take n).toArray (vs.drop n).toArray)
  | iface (t : TypeId) (a : AV) (v : Value) : V c a v → t < 16777216 → V c (.iface t a) (.iface t v)
  | nili : V c (.iface 16777216 .undef) .nilIface
  | rng (k : IntKind) (lo hi n : Int) : lo ≤ n → n ≤ hi → V c (.iface 16777217 (.agg [.int k lo, .int k hi])) (.int k n)
  | any (j : Nat) (v : Value) : v.oneCell' = true → (∀ b, v ≠ .bool b) → V c (.iface (16777218 + j) .undef) v
  | agg (cs : List AV) (vs : List Value) : VL c cs vs → (∀ a ∈ cs, a.one = true) → V c (.agg cs) (.agg vs.toArray)
  | tuple (cs : List AV) (vs : List Value) : VL c cs vs → V c (.tuple cs) (.tuple vs.toArray)
inductive VL (c : Cx) : List AV → List Value → Prop
  | nil : VL c [] []
  | cons {a : AV} {v : Value} {al : List AV} {vs : List Value} : V c a v → VL c al vs → VL c (a :: al) (v :: vs)
end

/-- A later state of the memory, or one that knows more. -/
structure Cx.Le (c d : Cx) : Prop where
  nx : c.nx ≤ d.nx
  lv : ∀ b, b.num < c.nx → d.lv b → c.lv b
  ι : ∀ b x, b.num < c.nx → d.lv b → c.ι b = some x → d.ι b = some x
  bs : ∀ b x, b.num < c.nx → d.lv b → c.ι b = some x → d.bs x = c.bs x

mutual
theorem V.mono {c d : Cx} (h : c.Le d) : ∀ {a : AV} {v : Value}, V c a v → V d a v
  | _, _, .undef => .undef
  | _, _, .bool b => .bool b
  | _, _, .int k n => .int k n
  | _, _, .str s => .str s
  | _, _, .nilp => .nilp
  | _, _, .ptr b o x o' h1 h2 => .ptr b o x o' (Nat.lt_of_lt_of_le h1 h.nx) fun hl => ⟨h.ι b x h1 hl (h2 (h.lv b h1 hl)).1, (h2 (h.lv b h1 hl)).2⟩
  | _, _, .nils => .nils
  | _, _, .slice b o n cap sz x o' c' h1 h2 h3 h4 => .slice b o n cap sz x o' c' (Nat.lt_of_lt_of_le h1 h.nx) h2 h3 fun hl =>
      have h5 := h4 (h.lv b h1 hl)
      ⟨h.ι b x h1 hl h5.1, h5.2.1, by rw [h.bs b x h1 hl h5.1]; exact h5.2.2⟩
  | _, _, .nilm => .nilm
  | _, _, .map b x h1 h2 => .map b x (Nat.lt_of_lt_of_le h1 h.nx) fun hl => h.ι b x h1 hl (h2 (h.lv b h1 hl))
  | _, _, .nilf => .nilf
  | _, _, .func f n cs vs h1 h2 => .func f n cs vs (h1.mono h) h2
  | _, _, .iface t a v h1 h2 => .iface t a v (h1.mono h) h2
  | _, _, .nili => .nili
  | _, _, .rng k lo hi n h1 h2 => .rng k lo hi n h1 h2
  | _, _, .any j v h1 h2 => .any j v h1 h2
  | _, _, .agg cs vs h1 h2 => .agg cs vs (h1.mono h) h2
  | _, _, .tuple cs vs h1 => .tuple cs vs (h1.mono h)
theorem VL.mono {c d : Cx} (h : c.Le d) : ∀ {al : List AV} {vs : List Value}, VL c al vs → VL d al vs
  | _, _, .nil => .nil
  | _, _, .cons h1 h2 => .cons (h1.mono h) (h2.mono h)
end

section
variable {c : Cx}
theorem VL.length : ∀ {al : List AV} {vs : List Value}, VL c al vs → vs.length = al.length
  | _, _, .nil => rfl
  | _, _, .cons _ h => by simp [h.length]
theorem VL.append : ∀ {al bs : List AV} {vs us : List Value}, VL c al vs → VL c bs us → VL c (al ++ bs) (vs ++ us)
  | _, _, _, _, .nil, h => h
  | _, _, _, _, .cons h1 h2, h => .cons h1 (h2.append h)
theorem VL.take : ∀ {al : List AV} {vs : List Value} (n : Nat), VL c al vs → VL c (al.take n) (vs.take n)
  | _, _, 0, _ => by simpa using VL.nil
  | _, _, _ + 1, .nil => VL.nil
  | _, _, n + 1, .cons h1 h2 => VL.cons h1 (h2.take n)
theorem VL.drop : ∀ {al : List AV} {vs : List Value} (n : Nat), VL c al vs → VL c (al.drop n) (vs.drop n)
  | _, _, 0, h => h
  | _, _, _ + 1, .nil => VL.nil
  | _, _, n + 1, .cons h1 h2 => h2.drop n
theorem VL.get : ∀ {al : List AV} {vs : List Value} (n : Nat) {a : AV}, VL c al vs → al[n]? = some a → ∃ v, vs[n]? = some v ∧ V c a v
  | _, _, 0, _, .cons h1 h2, e => by
    simp only [List.getElem?_cons_zero, Option.some.injEq] at e
    subst e
    exact ⟨_, rfl, h1⟩
  | _, _, n + 1, _, .cons h1 h2, e => h2.get n e
theorem VL.split : ∀ {al bs : List AV} {vs : List Value}, VL c (al ++ bs) vs → ∃ us ws, vs = us ++ ws ∧ VL c al us ∧ VL c bs ws
  | [], _, vs, h => ⟨[], vs, rfl, .nil, h⟩
  | a :: al, _, _, .cons h1 h2 => by
    obtain ⟨us, ws, rfl, h3, h4⟩ := h2.split
    exact ⟨_ :: us, ws, rfl, .cons h1 h3, h4⟩
theorem VL.one {a : AV} {v : Value} (h : V c a v) : VL c [a] [v] := .cons h .nil
end

/-- Entries of maps. -/
inductive ML (P : Program) (kt : TypeId) (c : Cx) : List (AV × AV × Nat) → List MapEntry → Prop
  | nil : ML P kt c [] []
  | cons {k v : AV} {n : Nat} {e : MapEntry} {es : List (AV × AV × Nat)} {fs : List MapEntry} : V c k e.key → (∃ l, keyOf P kt e.key = some l) → (∃ u, conc k = some u) → V c v e.val → e.born = n → (∀ f ∈ fs, f.key ≠ e.key) → ML P kt c es fs → ML P kt c ((k, v, n) :: es) (e :: fs)
theorem ML.mono {P : Program} {kt : TypeId} {c d : Cx} (h : c.Le d) : ∀ {es : List (AV × AV × Nat)} {fs : List MapEntry}, ML P kt c es fs → ML P kt d es fs
  | _, _, .nil => .nil
  | _, _, .cons h1 h2 h3 h4 h5 h6 h7 => .cons (h1.mono h) h2 h3 (h4.mono h) h5 h6 (h7.mono h)

/-- How many cells a block has. -/
def bsz (w : World) (x : Nat) : Nat :=
  match w.heap[x]? with
  | some (.cells c _ _) => c.size
  | _ => 0
def cx (ι : Pos → Option Nat) (h : H) (w : World) : Cx := { ι, lv := fun b => ∃ o, h.obj b = some o, nx := h.nx.num, bs := bsz w }

/-- A block is as the reckoned one. -/
def ObjR (P : Program) (c : Cx) (w : World) (x : Nat) : AObj → Prop
  | .cells cs t fz => ∃ c' lo hi, w.heap[x]? = some (.cells c' t (lo, hi)) ∧ cs.length ≤ c'.size ∧ VL c cs (c'.toList.take cs.length) ∧ (∀ a ∈ cs, a.one = true) ∧ ∀ i, lo ≤ i → i < hi → i < c'.size → i < fz
  | .map kt es k => ∃ es', w.heap[x]? = some (.map es' k) ∧ ML P kt c es es'.toList
  | .iter m since seen last => ∃ m', w.heap[x]? = some (.mapIter m' since seen.toArray last) ∧ V c (match m with | some b => .map b | none => .nilm) (.map m')

structure Rel (P : Program) (B : Nat) (W : World) (ι : Pos → Option Nat) (h : H) (w : World) : Prop where
  fresh : ∀ b o, h.obj b = some o → b.num < h.nx.num
  ob : ∀ b o x, h.obj b = some o → ι b = some x → ObjR P (cx ι h w) w x o
  inj : ∀ b b' o o' x, h.obj b = some o → h.obj b' = some o' → ι b = some x → ι b' = some x → b = b'
  base : ∀ b o x, h.obj b = some o → ι b = some x → B ≤ x
  low : B ≤ W.heap.size
  out : Below B W w

structure Ext (ι : Pos → Option Nat) (h : H) (w : World) (ι' : Pos → Option Nat) (h' : H) (w' : World) : Prop where
  nx : h.nx.num ≤ h'.nx.num
  lv : ∀ b o', b.num < h.nx.num → h'.obj b = some o' → (∃ o, h.obj b = some o) ∧ ι' b = ι b
  nw : ∀ b o' x, ¬ b.num < h.nx.num → h'.obj b = some o' → ι' b = some x → w.heap.size ≤ x ∨ ∃ b0 o, h.obj b0 = some o ∧ ι b0 = some x
  size : w.heap.size ≤ w'.heap.size
  bs : ∀ x, x < w.heap.size → bsz w' x = bsz w x
  keep : ∀ x, x < w.heap.size → (∀ b o, h.obj b = some o → ι b ≠ some x) → w'.heap[x]? = w.heap[x]?
  os : w'.os = w.os
  tape : w'.tape = w.tape
  output : w'.output = w.output

theorem ObjR.lt {P : Program} {c : Cx} {w : World} {x : Nat} {o : AObj} (h : ObjR P c w x o) : x < w.heap.size := by
  cases o with
  | cells cs t fz => obtain ⟨c', lo, hi, h1, _⟩ := h; exact (Array.getElem?_eq_some_iff.1 h1).1
  | map kt es k => obtain ⟨es', h1, _⟩ := h; exact (Array.getElem?_eq_some_iff.1 h1).1
  | iter m s n l => obtain ⟨m', h1, _⟩ := h; exact (Array.getElem?_eq_some_iff.1 h1).1

section
variable {P : Program} {B : Nat} {W : World} {ι ι' ι'' : Pos → Option Nat} {h h' h'' : H} {w w' w'' : World}
theorem Ext.refl (ι : Pos → Option Nat) (h : H) (w : World) : Ext ι h w ι h w :=
  ⟨Nat.le_refl _, fun _ o _ e => ⟨⟨o, e⟩, rfl⟩, fun b o' x hn e hx => .inr ⟨b, o', e, hx⟩, Nat.le_refl _, fun _ _ => rfl, fun _ _ _ => rfl, rfl, rfl, rfl⟩
theorem Ext.le (e : Ext ι h w ι' h' w') (r : Rel P B W ι h w) : (cx ι h w).Le (cx ι' h' w') := by
  refine ⟨e.nx, fun b hb hl => ?_, fun b x hb hl hx => ?_, fun b x hb hl hx => ?_⟩
  · obtain ⟨o', ho⟩ := hl
    exact (e.lv b o' hb ho).1
  · obtain ⟨o', ho⟩ := hl
    exact ((e.lv b o' hb ho).2).trans hx
  · obtain ⟨o', ho⟩ := hl
    obtain ⟨⟨o, h1⟩, _⟩ := e.lv b o' hb ho
    exact e.bs x (r.ob b o x h1 hx).lt
theorem Ext.trans (r : Rel P B W ι h w) (e : Ext ι h w ι' h' w') (e' : Ext ι' h' w' ι'' h'' w'') : Ext ι h w ι'' h'' w'' := by
  refine ⟨Nat.le_trans e.nx e'.nx, fun b o'' hb ho => ?_, fun b o'' x hb ho hx => ?_, Nat.le_trans e.size e'.size, fun x hx => ?_, fun x hx hn => ?_, e'.os.trans e.os, e'.tape.trans e.tape, e'.output.trans e.output⟩
  · obtain ⟨⟨o', h1⟩, h2⟩ := e'.lv b o'' (Nat.lt_of_lt_of_le hb e.nx) ho
    obtain ⟨h3, h4⟩ := e.lv b o' hb h1
    exact ⟨h3, h2.trans h4⟩
  · by_cases hb' : b.num < h'.nx.num
    · obtain ⟨⟨o', h1⟩, h2⟩ := e'.lv b o'' hb' ho
      exact e.nw b o' x hb h1 (h2.symm.trans hx)
    · rcases e'.nw b o'' x hb' ho hx with h1 | ⟨b0, o0, h1, h2⟩
      · exact .inl (Nat.le_trans e.size h1)
      · by_cases hb0 : b0.num < h.nx.num
        · obtain ⟨⟨o1, h3⟩, h4⟩ := e.lv b0 o0 hb0 h1
          exact .inr ⟨b0, o1, h3, h4.symm.trans h2⟩
        · exact e.nw b0 o0 x hb0 h1 h2
  · rw [e'.bs x (Nat.lt_of_lt_of_le hx e.size), e.bs x hx]
  · rw [e'.keep x (Nat.lt_of_lt_of_le hx e.size) ?_, e.keep x hx hn]
    intro b o ho hb
    by_cases hlt : b.num < h.nx.num
    · obtain ⟨⟨o1, h3⟩, h4⟩ := e.lv b o hlt ho
      exact hn b o1 h3 (h4.symm.trans hb)
    · rcases e.nw b o x hlt ho hb with h1 | ⟨b0, o0, h1, h2⟩
      · omega
      · exact hn b0 o0 h1 h2
/-- What lies outside stays. -/
theorem Ext.out (r : Rel P B W ι h w) (e : Ext ι h w ι' h' w') : Below B W w' := by
  refine ⟨e.os.trans r.out.os, e.tape.trans r.out.tape, e.output.trans r.out.output, Nat.le_trans r.out.size e.size, fun k hk => ?_⟩
  by_cases hlt : k < w.heap.size
  · rw [e.keep k hlt fun b o ho hb => absurd (r.base b o k ho hb) (by omega)]
    exact r.out.block k hk
  · have h2 := r.out.size
    have h3 := r.low
    omega
end
end Ev
end Go.Proofs.YtfpghnldcbhniaaGreat
