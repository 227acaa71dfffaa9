/- Operations that only reckon, the last: comparisons, lengths. What becomes of the memory: a block is written, a block is made, a block is given up for another one. Operations that read, make and write memory. Stores, appends, copies, texts out of bytes and bytes out of texts. Appends and copies. Maps. Steps of a range over a map. Entries of maps that are changed in place. -/
import Derived.Test.YtoaimjielnempaaGreatDoorNsA
import Derived.Deep.AppendSrc
import Derived.Laws.BytesString
import Derived.Laws.IdiomStrings
import Derived.Deep.Upon
namespace Go.Proofs.YtoaimjielnempaaGreatDoor
set_option linter.unusedVariables false
set_option linter.unusedSimpArgs false
open Go.RowKit Go.Maps
namespace Ev

section
variable {P : Program} {c : Cx} {fr : Fr} {h h' : H} {x y z : Opd} {vx vy vz : Value} {r : AV}
/-- The operation that compares, as a whole. -/
def eqSem (op : BinOp) (t : TypeId) (ox oy : Operand) (a b : Value) : Sem Value := do eqGuard op t ox oy a b; Go.binOp op t a b
def neq? : BinOp → Bool
  | .neq => true
  | _ => false
theorem neB_eq (ne b : Bool) : neB ne b = .bool (ne != b) := by cases ne <;> cases b <;> rfl
theorem V.nilK_inv {a : AV} {v : Value} {k : Nat} {b : Bool} (h : V c a v) (e : a.nilK = some (k, b)) :
    (k = 0 ∧ ∃ p, v = .pointer p ∧ b = p.isNone) ∨ (k = 1 ∧ ((b = true ∧ v = .slice none 0 0) ∨ ∃ p n m, v = .slice (some p) n m ∧ b = false)) ∨ (k = 2 ∧ ∃ p, v = .map p ∧ b = p.isNone) ∨ (k = 3 ∧ ((b = true ∧ v = .nilFunc) ∨ ∃ f l m, v = .func f l m ∧ b = false)) := by
  cases h <;> simp only [AV.nilK, reduceCtorEq, Option.some.injEq, Prod.mk.injEq] at e
  all_goals obtain ⟨rfl, rfl⟩ := e
  · exact .inl ⟨rfl, none, rfl, rfl⟩
  · exact .inl ⟨rfl, some _, rfl, rfl⟩
  · exact .inr (.inl ⟨rfl, .inl ⟨rfl, rfl⟩⟩)
  · exact .inr (.inl ⟨rfl, .inr ⟨_, _, _, rfl, rfl⟩⟩)
  · exact .inr (.inr (.inl ⟨rfl, none, rfl, rfl⟩))
  · exact .inr (.inr (.inl ⟨rfl, some _, rfl, rfl⟩))
  · exact .inr (.inr (.inr ⟨rfl, .inl ⟨rfl, rfl⟩⟩))
  · exact .inr (.inr (.inr ⟨rfl, .inr ⟨_, _, _, rfl, rfl⟩⟩))
theorem eqIn_ptr {t q : TypeId} (hu : P.underlying t = some (.pointer q)) (d : Nat) (p p' : Option Addr) (g : (bi p.isNone true p'.isNone) = true) (w : World) : (Op.equalIn (d + 1) t (.pointer p) (.pointer p')).run P w = .ok (bi p.isNone p'.isNone false) w := by
  cases p <;> cases p' <;> first | (simp at g; done) | simp [Op.equalIn, run_underlying hu]
theorem eqIn_map {t q q' : TypeId} (hu : P.underlying t = some (.map q q')) (d : Nat) (p p' : Option Nat) (g : (bi p.isNone true p'.isNone) = true) (w : World) : (Op.equalIn (d + 1) t (.map p) (.map p')).run P w = .ok (bi p.isNone p'.isNone false) w := by
  cases p <;> cases p' <;> first | (simp at g; done) | simp [Op.equalIn, run_underlying hu]
theorem eqIn_slice {t q : TypeId} (hu : P.underlying t = some (.slice q)) (d : Nat) (p p' : Option Addr) (n m n' m' : Nat) (g : (bi p.isNone true p'.isNone) = true) (w : World) : (Op.equalIn (d + 1) t (.slice p n m) (.slice p' n' m')).run P w = .ok (bi p.isNone p'.isNone false) w := by
  cases p <;> cases p' <;> first | (simp at g; done) | simp [Op.equalIn, run_underlying hu]
theorem eqIn_func {t : TypeId} {q1 q2 : Array TypeId} {q3 : Bool} (hu : P.underlying t = some (.func q1 q2 q3)) (d : Nat) (w : World) (f : Fn) (l m : Array Value) : (Op.equalIn (d + 1) t .nilFunc .nilFunc).run P w = .ok true w ∧ (Op.equalIn (d + 1) t .nilFunc (.func f l m)).run P w = .ok false w ∧ (Op.equalIn (d + 1) t (.func f l m) .nilFunc).run P w = .ok false w := by
  refine ⟨?_, ?_, ?_⟩ <;> simp [Op.equalIn, run_underlying hu]
theorem eqIn_bool {t : TypeId} (hu : P.underlying t = some .bool) (d : Nat) (w : World) (a b : Bool) : (Op.equalIn (d + 1) t (.bool a) (.bool b)).run P w = .ok (a == b) w := by
  simp [Op.equalIn, run_underlying hu]
/-- A comparison, from what the two are. -/
theorem eq_run {op : BinOp} {t : TypeId} {ne b : Bool} (ox oy : Operand) {u v : Value} (hop : op = .eql ∧ ne = false ∨ op = .neq ∧ ne = true) (w : World) (hg : (eqGuard op t ox oy u v).run P w = .ok () w) (he : (Op.equal t u v).run P w = .ok b w)
    (hb : Go.binOp .eql t u v = (Op.equal t u v >>= fun q => pure (.bool q)) ∧ Go.binOp .neq t u v = (Op.equal t u v >>= fun q => pure (.bool (!q)))) : (eqSem op t ox oy u v).run P w = .ok (.bool (ne != b)) w := by
  rcases hop with ⟨rfl, rfl⟩ | ⟨rfl, rfl⟩
  · simp only [eqSem, Sem.run_bind, hg, Result.andThen_ok, hb.1, he, Sem.run_pure]
    cases b <;> rfl
  · simp only [eqSem, Sem.run_bind, hg, Result.andThen_ok, hb.2, he, Sem.run_pure]
    cases b <;> rfl
theorem s_eqN {op : BinOp} {t : TypeId} {kind : Nat} {ne : Bool} (ox oy : Operand) (hop : op = .eql ∧ ne = false ∨ op = .neq ∧ ne = true)
    (hk : (kind = 0 ∧ ∃ e, P.underlying t = some (.pointer e)) ∨ (kind = 1 ∧ ∃ e, P.underlying t = some (.slice e)) ∨ (kind = 2 ∧ ∃ k e, P.underlying t = some (.map k e)) ∨ (kind = 3 ∧ ∃ a b d, P.underlying t = some (.func a b d)))
    (hx : V c (x fr) vx) (hy : V c (y fr) vy) (e : xEqN kind ne x y fr h = .ok r h') : h' = h ∧ ∃ u, V c r u ∧ ∀ w, (eqSem op t ox oy vx vy).run P w = .ok u w := by
  obtain ⟨⟨k1, b1⟩, e1, e⟩ := obE (show ob _ E.no _ = _ from e)
  obtain ⟨⟨k2, b2⟩, e2, e⟩ := obE e
  obtain ⟨g1, e⟩ := biE e
  obtain ⟨g2, e⟩ := biE e
  obtain ⟨g3, e⟩ := biE e
  obtain ⟨e3, e4⟩ := okE e
  have g1 : k1 = kind := Nat.eq_of_beq_eq_true g1
  have g2 : k2 = kind := Nat.eq_of_beq_eq_true g2
  subst e3 g1 g2
  rw [neB_eq]
  refine ⟨e4.symm, _, .bool _, fun w => ?_⟩
  rcases hk with ⟨rfl, q, hu⟩ | ⟨rfl, q, hu⟩ | ⟨rfl, q1, q2, hu⟩ | ⟨rfl, q1, q2, q3, hu⟩
  · rcases hx.nilK_inv e1 with ⟨_, p, rfl, rfl⟩ | ⟨h0, _⟩ | ⟨h0, _⟩ | ⟨h0, _⟩
    · rcases hy.nilK_inv e2 with ⟨_, p', rfl, rfl⟩ | ⟨h0, _⟩ | ⟨h0, _⟩ | ⟨h0, _⟩
      · exact eq_run ox oy hop w (by rcases hop with ⟨rfl, _⟩ | ⟨rfl, _⟩ <;> rfl) (eqIn_ptr hu 9999 p p' g3 w) ⟨rfl, rfl⟩
      all_goals cases h0
    all_goals cases h0
  · rcases hx.nilK_inv e1 with ⟨h0, _⟩ | ⟨_, h1⟩ | ⟨h0, _⟩ | ⟨h0, _⟩
    · cases h0
    · rcases hy.nilK_inv e2 with ⟨h0, _⟩ | ⟨_, h2⟩ | ⟨h0, _⟩ | ⟨h0, _⟩
      · cases h0
      · have h1' : ∃ p n m, vx = .slice p n m ∧ b1 = p.isNone := by
          rcases h1 with ⟨rfl, rfl⟩ | ⟨p, n, m, rfl, rfl⟩
          · exact ⟨none, 0, 0, rfl, rfl⟩
          · exact ⟨some p, n, m, rfl, rfl⟩
        have h2' : ∃ p n m, vy = .slice p n m ∧ b2 = p.isNone := by
          rcases h2 with ⟨rfl, rfl⟩ | ⟨p, n, m, rfl, rfl⟩
          · exact ⟨none, 0, 0, rfl, rfl⟩
          · exact ⟨some p, n, m, rfl, rfl⟩
        obtain ⟨p, n, m, rfl, rfl⟩ := h1'
        obtain ⟨p', n', m', rfl, rfl⟩ := h2'
        exact eq_run ox oy hop w (by rcases hop with ⟨rfl, _⟩ | ⟨rfl, _⟩ <;> rfl) (eqIn_slice hu 9999 p p' n m n' m' g3 w) ⟨rfl, rfl⟩
      all_goals cases h0
    all_goals cases h0
  · rcases hx.nilK_inv e1 with ⟨h0, _⟩ | ⟨h0, _⟩ | ⟨_, p, rfl, rfl⟩ | ⟨h0, _⟩
    · cases h0
    · cases h0
    · rcases hy.nilK_inv e2 with ⟨h0, _⟩ | ⟨h0, _⟩ | ⟨_, p', rfl, rfl⟩ | ⟨h0, _⟩
      · cases h0
      · cases h0
      · exact eq_run ox oy hop w (by rcases hop with ⟨rfl, _⟩ | ⟨rfl, _⟩ <;> rfl) (eqIn_map hu 9999 p p' g3 w) ⟨rfl, rfl⟩
      · cases h0
    · cases h0
  · rcases hx.nilK_inv e1 with ⟨h0, _⟩ | ⟨h0, _⟩ | ⟨h0, _⟩ | ⟨_, h1⟩
    · cases h0
    · cases h0
    · cases h0
    · rcases hy.nilK_inv e2 with ⟨h0, _⟩ | ⟨h0, _⟩ | ⟨h0, _⟩ | ⟨_, h2⟩
      · cases h0
      · cases h0
      · cases h0
      · rcases h1 with ⟨rfl, rfl⟩ | ⟨f, l, m, rfl, rfl⟩ <;> rcases h2 with ⟨rfl, rfl⟩ | ⟨f', l', m', rfl, rfl⟩
        · exact eq_run ox oy hop w (by rcases hop with ⟨rfl, _⟩ | ⟨rfl, _⟩ <;> rfl) ((eqIn_func hu 9999 w (.func 0) #[] #[]).1) ⟨rfl, rfl⟩
        · exact eq_run ox oy hop w (by rcases hop with ⟨rfl, _⟩ | ⟨rfl, _⟩ <;> rfl) ((eqIn_func hu 9999 w f' l' m').2.1) ⟨rfl, rfl⟩
        · exact eq_run ox oy hop w (by rcases hop with ⟨rfl, _⟩ | ⟨rfl, _⟩ <;> rfl) ((eqIn_func hu 9999 w f l m).2.2) ⟨rfl, rfl⟩
        · cases g3
theorem s_eqB {op : BinOp} {t : TypeId} {ne : Bool} (ox oy : Operand) (hop : op = .eql ∧ ne = false ∨ op = .neq ∧ ne = true) (hu : P.underlying t = some .bool)
    (hx : V c (x fr) vx) (hy : V c (y fr) vy) (e : xEqB ne x y fr h = .ok r h') : h' = h ∧ ∃ u, V c r u ∧ ∀ w, (eqSem op t ox oy vx vy).run P w = .ok u w := by
  obtain ⟨a, e1, e⟩ := bool_ok e
  obtain ⟨b, e2, e⟩ := bool_ok e
  obtain ⟨e3, e4⟩ := okE e
  rw [e1] at hx
  rw [e2] at hy
  rw [hx.bool_inv, hy.bool_inv]
  subst e3
  rw [neB_eq]
  refine ⟨e4.symm, _, .bool _, fun w => ?_⟩
  have hb : bi a b (bi b false true) = (a == b) := by cases a <;> cases b <;> rfl
  rw [hb]
  exact eq_run ox oy hop w (by rcases hop with ⟨rfl, _⟩ | ⟨rfl, _⟩ <;> rfl) (eqIn_bool hu 9999 w a b) ⟨rfl, rfl⟩
/-- A type of keys: what the kit's laws on keys give. -/
structure KeyT (P : Program) (t : TypeId) : Prop where
  keyed : Keyed P t
  eq : ∀ (w : World) {a b : Value} {la lb : Lit}, keyOf P t a = some la → keyOf P t b = some lb → ∃ q : Bool, (Op.equal t a b).run P w = .ok q w ∧ (q = true ↔ la = lb)
  guard : ∀ (w : World) (op : BinOp) (ox oy : Operand) {a b : List Value}, (eqGuard op t ox oy (.agg a.toArray) (.agg b.toArray)).run P w = .ok () w
/-- What the run takes for keys are such. -/
def KeyOK (P : Program) (key : TypeId → AV → Bool) : Prop := ∀ t a, key t a = true → KeyT P t ∧ ∃ v l, conc a = some v ∧ keyOf P t v = some l
theorem concS_V {a : AV} {v u : Value} (h : V c a v) (e : concS a = some u) : v = u := by
  cases h <;> simp only [concS, reduceCtorEq, Option.some.injEq] at e <;> exact e
theorem concL_V : ∀ {cs : List AV} {vs us : List Value}, VL c cs vs → concL cs = some us → vs = us
  | _, _, us, .nil, e => by cases e; rfl
  | _, _, us, .cons (a := a) (al := al) h1 h2, e => by
    simp only [concL] at e
    split at e
    · rename_i v r h3 h4
      cases e
      rw [concS_V h1 h3, concL_V h2 h4]
    · cases e
theorem conc_V {a : AV} {v u : Value} (h : V c a v) (e : conc a = some u) : v = u := by
  cases a with
  | agg cs =>
    obtain ⟨vs, rfl, hv, _⟩ := h.agg_inv
    simp only [conc] at e
    split at e
    · rename_i l hl
      cases e
      rw [concL_V hv hl]
    · cases e
  | _ => exact concS_V h e
theorem eqCell_conc {a b : AV} {u v : Value} {q : Bool} (ha : concS a = some u) (hb : concS b = some v) (e : eqCell a b = some q) : q = true ↔ u = v := by
  cases a <;> simp only [concS, reduceCtorEq, Option.some.injEq] at ha <;> cases b <;> simp only [concS, reduceCtorEq, Option.some.injEq, eqCell] at hb e
  · subst ha hb e
    simp
  · rename_i j m k n
    subst ha hb
    cases hk : eqK j k with
    | false => rw [hk] at e; cases e
    | true =>
      rw [hk] at e
      cases e
      cases eqK_eq hk
      rw [eqI_eq]
      simp
  · subst ha hb e
    rw [eqBytes_eq]
    simp
theorem eqCells_conc : ∀ {as_ bs : List AV} {us vs : List Value} {q : Bool}, concL as_ = some us → concL bs = some vs → eqCells as_ bs = some q → (q = true ↔ us = vs)
  | [], [], us, vs, q, h1, h2, e => by cases h1; cases h2; cases e; simp
  | [], _ :: _, us, vs, q, h1, h2, e => by cases e
  | _ :: _, [], us, vs, q, h1, h2, e => by cases e
  | a :: x, b :: y, us, vs, q, h1, h2, e => by
    simp only [concL] at h1 h2
    split at h1
    · rename_i u1 r1 a1 a2
      split at h2
      · rename_i u2 r2 b1 b2
        cases h1
        cases h2
        simp only [eqCells] at e
        split at e
        · rename_i he
          have h3 := (eqCell_conc a1 b1 he).1 rfl
          rw [eqCells_conc a2 b2 e, h3]
          simp
        · rename_i hne
          cases q with
          | true => exact absurd e hne
          | false =>
            have h3 := eqCell_conc a1 b1 e
            constructor
            · intro h; cases h
            · intro h
              exact h3.2 (List.cons.inj h).1
      · cases h2
    · cases h1
theorem s_eqA {op : BinOp} {t : TypeId} {ne : Bool} {key : TypeId → AV → Bool} (ok : KeyOK P key) (ox oy : Operand) (hop : op = .eql ∧ ne = false ∨ op = .neq ∧ ne = true)
    (hx : V c (x fr) vx) (hy : V c (y fr) vy) (e : xEqA ne (key t) x y fr h = .ok r h') : h' = h ∧ ∃ u, V c r u ∧ ∀ w, (eqSem op t ox oy vx vy).run P w = .ok u w := by
  obtain ⟨g1, e⟩ := biE (show bi _ (bi _ _ _) _ = _ from e)
  obtain ⟨g2, e⟩ := biE e
  obtain ⟨a, e1, e⟩ := agg_ok e
  obtain ⟨b, e2, e⟩ := agg_ok e
  obtain ⟨q, e0, e⟩ := obE e
  obtain ⟨e3, e4⟩ := okE e
  obtain ⟨K, u1, l1, c1, k1⟩ := ok t _ g1
  obtain ⟨_, u2, l2, c2, k2⟩ := ok t _ g2
  have hvx := conc_V hx c1
  have hvy := conc_V hy c2
  subst e3
  rw [neB_eq]
  refine ⟨e4.symm, _, .bool _, fun w => ?_⟩
  rw [hvx, hvy]
  rw [e1] at c1
  rw [e2] at c2
  simp only [conc] at c1 c2
  split at c1
  · rename_i us hus
    split at c2
    · rename_i vs hvs
      cases c1
      cases c2
      have hq := eqCells_conc hus hvs e0
      obtain ⟨p, h1, h2⟩ := K.eq w k1 k2
      have hpq : p = q := by
        rw [Bool.eq_iff_iff, h2, hq]
        constructor
        · intro hl
          subst hl
          have := K.keyed.inj k1 k2
          have h3 : us.toArray = vs.toArray := by injection this
          simpa using h3
        · intro hl
          subst hl
          rw [k1] at k2
          exact Option.some.inj k2
      subst hpq
      rcases hop with ⟨rfl, rfl⟩ | ⟨rfl, rfl⟩ <;> simp [eqSem, K.guard, Go.binOp, h1]
    · cases c2
  · cases c1
theorem s_lenS {t : TypeId} (ty : TypeId) (ts : Array TypeId) (ht : ts[0]? = some t) (hu : P.underlying t = some .string) (hx : V c (x fr) vx) (e : xLenS x fr h = .ok r h') : h' = h ∧ ∃ u, V c r u ∧ ∀ w, (Builtin.len_ ts ty #[vx]).run P w = .ok u w := by
  obtain ⟨s, e1, e⟩ := str_ok e
  obtain ⟨e3, e4⟩ := okE e
  rw [e1] at hx
  rw [hx.str_inv]
  subst e3
  have hs : (ByteArray.mk s.toArray).size = s.length := by simp [ByteArray.size]
  exact ⟨e4.symm, _, .int _ _, fun w => by simp [Builtin.len_, ht, run_underlying hu, hs, goInt]⟩
theorem s_lenL {t q : TypeId} (ty : TypeId) (ts : Array TypeId) (ht : ts[0]? = some t) (hu : P.underlying t = some (.slice q)) (hx : V c (x fr) vx) (e : xLenL x fr h = .ok r h') : h' = h ∧ ∃ u, V c r u ∧ ∀ w, (Builtin.len_ ts ty #[vx]).run P w = .ok u w := by
  rcases slice_ok' e with ⟨e1, e⟩ | ⟨b, o, n, k, s, e1, e⟩
  · obtain ⟨e3, e4⟩ := okE e
    rw [e1] at hx
    cases hx
    subst e3
    exact ⟨e4.symm, _, .int _ _, fun w => by simp [Builtin.len_, ht, run_underlying hu, goInt]⟩
  · obtain ⟨e3, e4⟩ := okE e
    rw [e1] at hx
    obtain ⟨q, o', c', rfl, _⟩ := hx.slice_inv
    subst e3
    exact ⟨e4.symm, _, .int _ _, fun w => by simp [Builtin.len_, ht, run_underlying hu, goInt]⟩
end
end Ev
end Go.Proofs.YtoaimjielnempaaGreatDoor
namespace Go.Proofs.YtoaimjielnempaaGreatDoor
set_option linter.unusedVariables false
set_option linter.unusedSimpArgs false
open Go.RowKit Go.Maps
namespace Ev

/-- Only block x is turned. -/
structure WUp (w w' : World) (x : Nat) : Prop where
  os : w'.os = w.os
  tape : w'.tape = w.tape
  output : w'.output = w.output
  size : w'.heap.size = w.heap.size
  other : ∀ y, y ≠ x → w'.heap[y]? = w.heap[y]?
/-- One block is made. -/
structure WNew (w w' : World) (o : Obj) : Prop where
  os : w'.os = w.os
  tape : w'.tape = w.tape
  output : w'.output = w.output
  heap : w'.heap = w.heap.push o
def upd (ι : Pos → Option Nat) (b : Pos) (x : Nat) : Pos → Option Nat := fun p => bif p.beq b then some x else ι p
theorem Pos.beq_eq : ∀ p q : Pos, p.beq q = true ↔ p = q
  | .h, .h => by simp [Pos.beq]
  | .h, .o _ => by simp [Pos.beq]
  | .h, .i _ => by simp [Pos.beq]
  | .o _, .h => by simp [Pos.beq]
  | .o p, .o q => by simp [Pos.beq, Pos.beq_eq p q]
  | .o _, .i _ => by simp [Pos.beq]
  | .i _, .h => by simp [Pos.beq]
  | .i _, .o _ => by simp [Pos.beq]
  | .i p, .i q => by simp [Pos.beq, Pos.beq_eq p q]
theorem upd_same (ι : Pos → Option Nat) (b : Pos) (x : Nat) : upd ι b x b = some x := by
  unfold upd
  rw [(Pos.beq_eq b b).2 rfl]
  rfl
theorem upd_ne (ι : Pos → Option Nat) {b p : Pos} (x : Nat) (h : p ≠ b) : upd ι b x p = ι p := by
  unfold upd
  have : p.beq b = false := by rw [Bool.eq_false_iff]; intro e; exact h ((Pos.beq_eq p b).1 e)
  rw [this]
  rfl
theorem obj_put_same (h : H) (b : Pos) (o : AObj) : (h.put b o).obj b = some o := T.get_set_same b _ h.t
theorem obj_put_ne (h : H) {b p : Pos} (o : AObj) (hp : p ≠ b) : (h.put b o).obj p = h.obj p := T.get_set_ne b _ h.t p (Ne.symm hp)
theorem obj_new_same (h : H) (o : AObj) : (h.new o).obj h.nx = some o := T.get_set_same h.nx _ h.t
theorem obj_new_ne (h : H) {p : Pos} (o : AObj) (hp : p ≠ h.nx) : (h.new o).obj p = h.obj p := T.get_set_ne h.nx _ h.t p (Ne.symm hp)
theorem obj_kill_same (h : H) (b : Pos) : (h.kill b).obj b = none := T.get_set_same b _ h.t
theorem obj_kill_ne (h : H) {b p : Pos} (hp : p ≠ b) : (h.kill b).obj p = h.obj p := T.get_set_ne b _ h.t p (Ne.symm hp)
theorem nx_new (h : H) (o : AObj) : (h.new o).nx.num = h.nx.num + 1 := Pos.num_succ h.nx

theorem ObjR.mono {P : Program} {c d : Cx} (hl : c.Le d) {w w' : World} {x : Nat} {o : AObj} (hw : w'.heap[x]? = w.heap[x]?) (h : ObjR P c w x o) : ObjR P d w' x o := by
  cases o with
  | cells cs t fz =>
    obtain ⟨c', lo, hi, h1, h2, h3, h4, h5⟩ := h
    exact ⟨c', lo, hi, hw.trans h1, h2, h3.mono hl, h4, h5⟩
  | map kt es k =>
    obtain ⟨es', h1, h2⟩ := h
    exact ⟨es', hw.trans h1, h2.mono hl⟩
  | iter m s n l =>
    obtain ⟨m', h1, h2⟩ := h
    exact ⟨m', hw.trans h1, h2.mono hl⟩

section
variable {P : Program} {B : Nat} {W : World} {ι : Pos → Option Nat} {h : H} {w w' : World} {b : Pos} {x : Nat} {o o0 : AObj}
theorem bsz_other {y : Nat} (u : WUp w w' x) (hy : y ≠ x) : bsz w' y = bsz w y := by
  unfold bsz
  rw [u.other y hy]
theorem bs_up (u : WUp w w' x) (hs : bsz w' x = bsz w x) (y : Nat) : bsz w' y = bsz w y := by
  by_cases hy : y = x
  · rw [hy, hs]
  · exact bsz_other u hy
theorem Rel.put (r : Rel P B W ι h w) (hb : h.obj b = some o0) (hx : ι b = some x) (u : WUp w w' x) (hs : bsz w' x = bsz w x) (ho : ObjR P (cx ι h w) w' x o) :
    Rel P B W ι (h.put b o) w' ∧ Ext ι h w ι (h.put b o) w' := by
  have live : ∀ p o', (h.put b o).obj p = some o' → ∃ o1, h.obj p = some o1 := fun p o' hp => by
    by_cases e : p = b
    · subst e; exact ⟨_, hb⟩
    · rw [obj_put_ne h o e] at hp; exact ⟨_, hp⟩
  have hle : (cx ι h w).Le (cx ι (h.put b o) w') := ⟨Nat.le_refl _, fun p _ ⟨o', hp⟩ => live p o' hp, fun _ _ _ _ e => e, fun _ y _ _ _ => bs_up u hs y⟩
  have ext : Ext ι h w ι (h.put b o) w' := by
    refine ⟨Nat.le_refl _, fun p o' _ hp => ⟨live p o' hp, rfl⟩, fun p o' y hn hp hy => ?_, Nat.le_of_eq u.size.symm, fun y _ => bs_up u hs y, fun y _ hn => ?_, u.os, u.tape, u.output⟩
    · obtain ⟨o1, h1⟩ := live p o' hp
      exact absurd (r.fresh p o1 h1) hn
    · refine u.other y fun e => ?_
      subst e
      exact hn b o0 hb hx
  refine ⟨⟨fun p o' hp => ?_, fun p o' y hp hy => ?_, fun p p' o1 o2 y hp hp' hy hy' => ?_, fun p o' y hp hy => ?_, r.low, ext.out r⟩, ext⟩
  · obtain ⟨o1, h1⟩ := live p o' hp
    exact r.fresh p o1 h1
  · by_cases e : p = b
    · subst e
      rw [obj_put_same] at hp
      cases hp
      rw [hx] at hy
      cases hy
      exact ObjR.mono hle rfl ho
    · rw [obj_put_ne h o e] at hp
      have hyx : y ≠ x := fun e' => by subst e'; exact e (r.inj p b o' o0 y hp hb hy hx)
      exact ObjR.mono hle (u.other y hyx) (r.ob p o' y hp hy)
  · obtain ⟨q1, h1⟩ := live p o1 hp
    obtain ⟨q2, h2⟩ := live p' o2 hp'
    exact r.inj p p' q1 q2 y h1 h2 hy hy'
  · obtain ⟨q1, h1⟩ := live p o' hp
    exact r.base p q1 y h1 hy

/-- A block is turned, and no more is told of it. -/
theorem Rel.wipe (r : Rel P B W ι h w) (hb : h.obj b = some o0) (hx : ι b = some x) (u : WUp w w' x) (hs : bsz w' x = bsz w x) : Rel P B W ι (h.kill b) w' ∧ Ext ι h w ι (h.kill b) w' := by
  have live : ∀ p o', (h.kill b).obj p = some o' → p ≠ b ∧ h.obj p = some o' := fun p o' hp => by
    by_cases e : p = b
    · subst e; rw [obj_kill_same] at hp; cases hp
    · rw [obj_kill_ne h e] at hp; exact ⟨e, hp⟩
  have hle : (cx ι h w).Le (cx ι (h.kill b) w') := ⟨Nat.le_refl _, fun p _ ⟨o', hp⟩ => ⟨o', (live p o' hp).2⟩, fun _ _ _ _ e => e, fun _ y _ _ _ => bs_up u hs y⟩
  have ext : Ext ι h w ι (h.kill b) w' := by
    refine ⟨Nat.le_refl _, fun p o' _ hp => ⟨⟨o', (live p o' hp).2⟩, rfl⟩, fun p o' y hn hp hy => ?_, Nat.le_of_eq u.size.symm, fun y _ => bs_up u hs y, fun y _ hn => ?_, u.os, u.tape, u.output⟩
    · exact absurd (r.fresh p o' (live p o' hp).2) hn
    · refine u.other y fun e => ?_
      subst e
      exact hn b o0 hb hx
  refine ⟨⟨fun p o' hp => r.fresh p o' (live p o' hp).2, fun p o' y hp hy => ?_, fun p p' o1 o2 y hp hp' hy hy' => r.inj p p' o1 o2 y (live p o1 hp).2 (live p' o2 hp').2 hy hy', fun p o' y hp hy => r.base p o' y (live p o' hp).2 hy, r.low, ext.out r⟩, ext⟩
  obtain ⟨e, hp⟩ := live p o' hp
  have hyx : y ≠ x := fun e' => by subst e'; exact e (r.inj p b o' o0 y hp hb hy hx)
  exact ObjR.mono hle (u.other y hyx) (r.ob p o' y hp hy)
theorem Rel.new {obj : Obj} (r : Rel P B W ι h w) (u : WNew w w' obj) (ho : ObjR P (cx ι h w) w' w.heap.size o) :
    Rel P B W (upd ι h.nx w.heap.size) (h.new o) w' ∧ Ext ι h w (upd ι h.nx w.heap.size) (h.new o) w' := by
  have hne : ∀ p o', h.obj p = some o' → p ≠ h.nx := fun p o' hp e => by
    have := r.fresh p o' hp
    rw [e] at this
    omega
  have hlt : ∀ p : Pos, p.num < h.nx.num → p ≠ h.nx := fun p hp e => by rw [e] at hp; omega
  have hold : ∀ y, y < w.heap.size → w'.heap[y]? = w.heap[y]? := fun y hy => by
    rw [u.heap, Array.getElem?_push, if_neg (by omega)]
  have hbs : ∀ y, y < w.heap.size → bsz w' y = bsz w y := fun y hy => by unfold bsz; rw [hold y hy]
  have hsz : w'.heap.size = w.heap.size + 1 := by rw [u.heap]; simp
  have hle : (cx ι h w).Le (cx (upd ι h.nx w.heap.size) (h.new o) w') := by
    refine ⟨?_, fun p hp ⟨o', h1⟩ => ?_, fun p y hp _ e => ?_, fun p y hp ⟨o', h1⟩ e => ?_⟩
    · show h.nx.num ≤ (h.new o).nx.num
      rw [nx_new]; omega
    · rw [obj_new_ne h o (hlt p hp)] at h1; exact ⟨o', h1⟩
    · show upd ι h.nx w.heap.size p = some y
      rw [upd_ne ι _ (hlt p hp)]; exact e
    · rw [obj_new_ne h o (hlt p hp)] at h1
      exact hbs y (r.ob p o' y h1 e).lt
  have ext : Ext ι h w (upd ι h.nx w.heap.size) (h.new o) w' := by
    refine ⟨by rw [nx_new]; omega, fun p o' hp h1 => ?_, fun p o' y hn h1 hy => ?_, by omega, hbs, fun y hy _ => hold y hy, u.os, u.tape, u.output⟩
    · rw [obj_new_ne h o (hlt p hp)] at h1
      exact ⟨⟨o', h1⟩, upd_ne ι _ (hlt p hp)⟩
    · by_cases e : p = h.nx
      · subst e
        rw [upd_same] at hy
        cases hy
        exact .inl (Nat.le_refl _)
      · rw [obj_new_ne h o e] at h1
        exact absurd (r.fresh p o' h1) hn
  refine ⟨⟨fun p o' hp => ?_, fun p o' y hp hy => ?_, fun p p' o1 o2 y hp hp' hy hy' => ?_, fun p o' y hp hy => ?_, r.low, ext.out r⟩, ext⟩
  · rw [nx_new]
    by_cases e : p = h.nx
    · subst e; omega
    · rw [obj_new_ne h o e] at hp
      have := r.fresh p o' hp
      omega
  · by_cases e : p = h.nx
    · subst e
      rw [obj_new_same] at hp
      cases hp
      rw [upd_same] at hy
      cases hy
      exact ObjR.mono hle rfl ho
    · rw [obj_new_ne h o e] at hp
      rw [upd_ne ι _ e] at hy
      have h1 := r.ob p o' y hp hy
      exact ObjR.mono hle (hold y h1.lt) h1
  · by_cases e : p = h.nx
    · by_cases e' : p' = h.nx
      · rw [e, e']
      · subst e
        rw [upd_same] at hy
        cases hy
        rw [obj_new_ne h o e'] at hp'
        rw [upd_ne ι _ e'] at hy'
        have := (r.ob p' o2 _ hp' hy').lt
        omega
    · rw [obj_new_ne h o e] at hp
      rw [upd_ne ι _ e] at hy
      by_cases e' : p' = h.nx
      · subst e'
        rw [upd_same] at hy'
        cases hy'
        have := (r.ob p o1 _ hp hy).lt
        omega
      · rw [obj_new_ne h o e'] at hp'
        rw [upd_ne ι _ e'] at hy'
        exact r.inj p p' o1 o2 y hp hp' hy hy'
  · by_cases e : p = h.nx
    · subst e
      rw [upd_same] at hy
      cases hy
      have h1 := r.low
      have h2 := r.out.size
      omega
    · rw [obj_new_ne h o e] at hp
      rw [upd_ne ι _ e] at hy
      exact r.base p o' y hp hy

/-- A block is given up. -/
theorem Rel.kill (r : Rel P B W ι h w) (b : Pos) : Rel P B W ι (h.kill b) w ∧ Ext ι h w ι (h.kill b) w := by
  have live : ∀ p o', (h.kill b).obj p = some o' → p ≠ b ∧ h.obj p = some o' := fun p o' hp => by
    by_cases e : p = b
    · subst e; rw [obj_kill_same] at hp; cases hp
    · rw [obj_kill_ne h e] at hp; exact ⟨e, hp⟩
  have hle : (cx ι h w).Le (cx ι (h.kill b) w) := ⟨Nat.le_refl _, fun p _ ⟨o', hp⟩ => ⟨o', (live p o' hp).2⟩, fun _ _ _ _ e => e, fun _ _ _ _ _ => rfl⟩
  refine ⟨⟨fun p o' hp => r.fresh p o' (live p o' hp).2, fun p o' y hp hy => ObjR.mono hle rfl (r.ob p o' y (live p o' hp).2 hy), fun p p' o1 o2 y hp hp' hy hy' => r.inj p p' o1 o2 y (live p o1 hp).2 (live p' o2 hp').2 hy hy',
    fun p o' y hp hy => r.base p o' y (live p o' hp).2 hy, r.low, r.out⟩, ?_⟩
  exact ⟨Nat.le_refl _, fun p o' _ hp => ⟨⟨o', (live p o' hp).2⟩, rfl⟩, fun p o' y hn hp hy => absurd (r.fresh p o' (live p o' hp).2) hn, Nat.le_refl _, fun _ _ => rfl, fun _ _ _ => rfl, rfl, rfl, rfl⟩
/-- A block is given up, and stands, turned, for a new number. -/
theorem Rel.renew (r : Rel P B W ι h w) (hb : h.obj b = some o0) (hx : ι b = some x) (u : WUp w w' x) (hs : bsz w' x = bsz w x) (ho : ObjR P (cx ι h w) w' x o) :
    Rel P B W (upd ι h.nx x) ((h.kill b).new o) w' ∧ Ext ι h w (upd ι h.nx x) ((h.kill b).new o) w' := by
  have hbn : b ≠ h.nx := fun e => by
    have := r.fresh b o0 hb
    rw [e] at this
    omega
  have hnx : (h.kill b).nx = h.nx := rfl
  have live : ∀ p o', ((h.kill b).new o).obj p = some o' → (p = h.nx ∧ o' = o) ∨ (p ≠ h.nx ∧ p ≠ b ∧ h.obj p = some o') := fun p o' hp => by
    by_cases e : p = h.nx
    · subst e
      have := obj_new_same (h.kill b) o
      rw [hnx] at this
      rw [this] at hp
      cases hp
      exact .inl ⟨rfl, rfl⟩
    · rw [obj_new_ne (h.kill b) o (by rw [hnx]; exact e)] at hp
      by_cases e' : p = b
      · subst e'; rw [obj_kill_same] at hp; cases hp
      · rw [obj_kill_ne h e'] at hp
        exact .inr ⟨e, e', hp⟩
  have hlt : ∀ p : Pos, p.num < h.nx.num → p ≠ h.nx := fun p hp e => by rw [e] at hp; omega
  have hle : (cx ι h w).Le (cx (upd ι h.nx x) ((h.kill b).new o) w') := by
    refine ⟨?_, fun p hp ⟨o', h1⟩ => ?_, fun p y hp _ e => ?_, fun p y hp _ e => bs_up u hs y⟩
    · show h.nx.num ≤ ((h.kill b).new o).nx.num
      rw [nx_new, hnx]; omega
    · rcases live p o' h1 with ⟨e, _⟩ | ⟨_, _, h2⟩
      · exact absurd e (hlt p hp)
      · exact ⟨o', h2⟩
    · show upd ι h.nx x p = some y
      rw [upd_ne ι _ (hlt p hp)]; exact e
  have ext : Ext ι h w (upd ι h.nx x) ((h.kill b).new o) w' := by
    refine ⟨by rw [nx_new, hnx]; omega, fun p o' hp h1 => ?_, fun p o' y hn h1 hy => ?_, Nat.le_of_eq u.size.symm, fun y _ => bs_up u hs y, fun y _ hn => ?_, u.os, u.tape, u.output⟩
    · rcases live p o' h1 with ⟨e, _⟩ | ⟨h2, _, h3⟩
      · exact absurd e (hlt p hp)
      · exact ⟨⟨o', h3⟩, upd_ne ι _ h2⟩
    · rcases live p o' h1 with ⟨e, _⟩ | ⟨h2, _, h3⟩
      · subst e
        rw [upd_same] at hy
        cases hy
        exact .inr ⟨b, o0, hb, hx⟩
      · exact absurd (r.fresh p o' h3) hn
    · refine u.other y fun e => ?_
      subst e
      exact hn b o0 hb hx
  refine ⟨⟨fun p o' hp => ?_, fun p o' y hp hy => ?_, fun p p' o1 o2 y hp hp' hy hy' => ?_, fun p o' y hp hy => ?_, r.low, ext.out r⟩, ext⟩
  · rw [nx_new, hnx]
    rcases live p o' hp with ⟨e, _⟩ | ⟨_, _, h3⟩
    · subst e; omega
    · have := r.fresh p o' h3; omega
  · rcases live p o' hp with ⟨e, e'⟩ | ⟨h2, h3, h4⟩
    · subst e e'
      rw [upd_same] at hy
      cases hy
      exact ObjR.mono hle rfl ho
    · rw [upd_ne ι _ h2] at hy
      have hyx : y ≠ x := fun e' => by subst e'; exact h3 (r.inj p b o' o0 y h4 hb hy hx)
      exact ObjR.mono hle (u.other y hyx) (r.ob p o' y h4 hy)
  · rcases live p o1 hp with ⟨e, _⟩ | ⟨h2, h3, h4⟩
    · rcases live p' o2 hp' with ⟨e', _⟩ | ⟨k2, k3, k4⟩
      · rw [e, e']
      · subst e
        rw [upd_same] at hy
        cases hy
        rw [upd_ne ι _ k2] at hy'
        exact absurd (r.inj p' b o2 o0 x k4 hb hy' hx) k3
    · rw [upd_ne ι _ h2] at hy
      rcases live p' o2 hp' with ⟨e', _⟩ | ⟨k2, k3, k4⟩
      · subst e'
        rw [upd_same] at hy'
        cases hy'
        exact absurd (r.inj p b o1 o0 x h4 hb hy hx) h3
      · rw [upd_ne ι _ k2] at hy'
        exact r.inj p p' o1 o2 y h4 k4 hy hy'
  · rcases live p o' hp with ⟨e, _⟩ | ⟨h2, _, h3⟩
    · subst e
      rw [upd_same] at hy
      cases hy
      exact r.base b o0 x hb hx
    · rw [upd_ne ι _ h2] at hy
      exact r.base p o' y h3 hy
end
end Ev
end Go.Proofs.YtoaimjielnempaaGreatDoor
namespace Go.Proofs.YtoaimjielnempaaGreatDoor
set_option linter.unusedVariables false
set_option linter.unusedSimpArgs false
open Go.RowKit Go.Maps
namespace Ev

theorem at_cells {h h' : H} {b : Pos} {r : AV} {f : List AV → TypeId → Nat → E} (e : cellsAt h b .no f = .ok r h') : ∃ cs t fz, h.obj b = some (.cells cs t fz) ∧ f cs t fz = .ok r h' := by
  obtain ⟨o, ho, e⟩ := obE (show ob (h.obj b) E.no _ = _ from e)
  cases o with
  | cells cs t fz => exact ⟨cs, t, fz, ho, e⟩
  | map => cases e
  | iter => cases e
theorem at_map {h h' : H} {b : Pos} {r : AV} {f : TypeId → List (AV × AV × Nat) → Nat → E} (e : mapAt h b .no f = .ok r h') : ∃ t es c, h.obj b = some (.map t es c) ∧ f t es c = .ok r h' := by
  obtain ⟨o, ho, e⟩ := obE (show ob (h.obj b) E.no _ = _ from e)
  cases o with
  | cells => cases e
  | map t es c => exact ⟨t, es, c, ho, e⟩
  | iter => cases e

section
variable {P : Program} {B : Nat} {W : World} {ι : Pos → Option Nat} {h h' : H} {w w' : World} {fr : Fr} {x y z : Opd} {vx vy vz : Value} {r : AV}

/-- The cells of a live block. -/
theorem block_cells (rel : Rel P B W ι h w) {b : Pos} {cs : List AV} {t : TypeId} {fz : Nat} {q : Nat} (hb : h.obj b = some (.cells cs t fz)) (hq : ι b = some q) :
    ∃ c' lo hi, w.heap[q]? = some (.cells c' t (lo, hi)) ∧ cs.length ≤ c'.size ∧ VL (cx ι h w) cs (c'.toList.take cs.length) ∧ (∀ a ∈ cs, a.one = true) ∧ ∀ i, lo ≤ i → i < hi → i < c'.size → i < fz := rel.ob b _ q hb hq
theorem range_of_block {q : Nat} {c' : Array Value} {t : TypeId} {f : Nat × Nat} (hw : w.heap[q]? = some (.cells c' t f)) (o n : Nat) (hn : o + n ≤ c'.size) : w.rangeAt q o ((c'.toList.drop o).take n) := by
  intro j v hj
  have hjn : j < n := by
    have := (List.getElem?_eq_some_iff.1 hj).1
    simp at this
    omega
  rw [List.getElem?_take_of_lt hjn, List.getElem?_drop] at hj
  simp only [World.cell?, hw]
  simpa using hj
theorem r_ld {t : TypeId} (rel : Rel P B W ι h w) (ha : ∀ w, (isAgg t).run P w = .ok false w) (hx : V (cx ι h w) (x fr) vx) (e : xLd x fr h = .ok r h') :
    h' = h ∧ ∃ u, V (cx ι h w) r u ∧ (Instr.loadAt t vx).run P w = .ok u w := by
  obtain ⟨b, o, ex, e⟩ := ptr_ok e
  obtain ⟨cs, ty, fz, hb, e⟩ := at_cells e
  obtain ⟨e1, e2⟩ := eoE e
  rw [ex] at hx
  obtain ⟨q, o', rfl, g1, g2⟩ := hx.ptr_inv
  obtain ⟨hq, rfl⟩ := g2 ⟨_, hb⟩
  obtain ⟨c', lo, hi, k1, k2, k3, k4, k5⟩ := block_cells rel hb hq
  rw [lget_eq] at e1
  obtain ⟨u, hu, hv⟩ := k3.get o' e1
  have hlt : o' < cs.length := (List.getElem?_eq_some_iff.1 e1).1
  rw [List.getElem?_take_of_lt hlt] at hu
  have hc : w.cell? ⟨q, o', none⟩ = some u := by
    simp only [World.cell?, k1]
    simpa using hu
  exact ⟨e2.symm, u, hv, by simp [Instr.loadAt, Instr.sureAddr, loadVar, ha, hc]⟩
theorem r_ldn {t : TypeId} {n : Nat} {d : TypeDesc} (rel : Rel P B W ι h w) (hu : P.underlying t = some d) (hd : d.isRow = true) (hi : (P.info? t).map (·.size) = some n) (hx : V (cx ι h w) (x fr) vx) (e : xLdn n x fr h = .ok r h') :
    h' = h ∧ ∃ u, V (cx ι h w) r u ∧ (Instr.loadAt t vx).run P w = .ok u w := by
  obtain ⟨b, o, ex, e⟩ := ptr_ok e
  obtain ⟨cs, ty, fz, hb, e⟩ := at_cells e
  obtain ⟨v, e1, e⟩ := obE e
  obtain ⟨e2, e3⟩ := okE e
  rw [ex] at hx
  obtain ⟨q, o', rfl, g1, g2⟩ := hx.ptr_inv
  obtain ⟨hq, rfl⟩ := g2 ⟨_, hb⟩
  obtain ⟨c', lo, hi', k1, k2, k3, k4, k5⟩ := block_cells rel hb hq
  obtain ⟨h1, rfl⟩ := lrange_some e1
  subst e2
  have hv := (k3.drop o').take n
  have hl : ((c'.toList.take cs.length).drop o').take n = (c'.toList.drop o').take n := by
    rw [List.drop_take, List.take_take]
    congr 1
    omega
  rw [hl] at hv
  have hlen : ((c'.toList.drop o').take n).length = n := by simp; omega
  refine ⟨e3.symm, _, .agg _ _ hv (fun a ha => k4 a (List.mem_of_mem_drop (List.mem_of_mem_take ha))), ?_⟩
  exact run_loadAt_mid w q o' t _ d (range_of_block k1 o' n (by omega)) hu hd (by rw [hi, hlen])
theorem r_lenM {t k q : TypeId} (ty : TypeId) (ts : Array TypeId) (rel : Rel P B W ι h w) (ht : ts[0]? = some t) (hu : P.underlying t = some (.map k q)) (hx : V (cx ι h w) (x fr) vx) (e : xLenM x fr h = .ok r h') :
    h' = h ∧ ∃ u, V (cx ι h w) r u ∧ (Builtin.len_ ts ty #[vx]).run P w = .ok u w := by
  rcases map_ok e with ⟨e1, e⟩ | ⟨b, e1, e⟩
  · obtain ⟨e3, e4⟩ := okE e
    rw [e1] at hx
    cases hx
    subst e3
    exact ⟨e4.symm, _, .int _ _, by simp [Builtin.len_, ht, run_underlying hu, goInt]⟩
  · obtain ⟨kt, es, c, hb, e⟩ := at_map e
    obtain ⟨e3, e4⟩ := okE e
    rw [e1] at hx
    obtain ⟨q, rfl, g1, g2⟩ := hx.map_inv
    have hq := g2 ⟨_, hb⟩
    obtain ⟨es', k1, k2⟩ := rel.ob b _ q hb hq
    subst e3
    have hl : es'.size = es.length := by
      have : ∀ {es : List (AV × AV × Nat)} {fs : List MapEntry}, ML P kt (cx ι h w) es fs → fs.length = es.length := by
        intro es fs hm
        induction hm with
        | nil => rfl
        | cons _ _ _ _ _ _ _ ih => simp [ih]
      simpa using this k2
    refine ⟨e4.symm, _, .int _ _, ?_⟩
    simp [Builtin.len_, ht, run_underlying hu, goInt, getObj, Sem.run, k1, hl]

/-! What is made. -/
theorem wnew_alloc (w : World) (o : Obj) : WNew w (w.alloc o) o := ⟨rfl, rfl, rfl, rfl⟩
theorem heap_new {w w' : World} {o : Obj} (u : WNew w w' o) : w'.heap[w.heap.size]? = some o := by rw [u.heap]; simp
/-- A made row of cells, as the run has it. -/
theorem cells_R {c : Cx} {cs : List AV} {c' : Array Value} {t : TypeId} {u : World} {q : Nat} (hq : u.heap[q]? = some (.cells c' t (0, 0))) (hv : VL c cs c'.toList) (h1 : ∀ a ∈ cs, a.one = true) : ObjR P c u q (.cells cs t 0) := by
  have hl := hv.length
  have hs : c'.size = cs.length := by rw [← hl]; simp
  refine ⟨c', 0, 0, hq, by omega, ?_, h1, fun i _ hi => by omega⟩
  rw [List.take_of_length_le (by rw [hl]; exact Nat.le_refl _)]
  exact hv
def objSize : Obj → Nat
  | .cells c _ _ => c.size
  | _ => 0
/-- What is made by an operation that makes one block, wherever it lies. -/
def Mk (P : Program) (c : Cx) (sem : Sem Value) (b : Pos) (r : AV) (o : AObj) : Prop :=
  ∃ (obj : Obj) (mk : Nat → Value), (∀ w, sem.run P w = .ok (mk w.heap.size) (w.alloc obj)) ∧ (∀ u q, u.heap[q]? = some obj → ObjR P c u q o) ∧
    ∀ (d : Cx) q, b.num < d.nx → (d.lv b → d.ι b = some q) → d.bs q = objSize obj → V d r (mk q)
theorem Mk.rel {sem : Sem Value} {o : AObj} (m : Mk P (cx ι h w) sem h.nx r o) (rel : Rel P B W ι h w) :
    ∃ u w', sem.run P w = .ok u w' ∧ Rel P B W (upd ι h.nx w.heap.size) (h.new o) w' ∧ Ext ι h w (upd ι h.nx w.heap.size) (h.new o) w' ∧ V (cx (upd ι h.nx w.heap.size) (h.new o) w') r u := by
  obtain ⟨obj, mk, h1, h2, h3⟩ := m
  have hn := heap_new (wnew_alloc w obj)
  obtain ⟨k1, k2⟩ := rel.new (wnew_alloc w obj) (h2 _ _ hn)
  refine ⟨mk w.heap.size, w.alloc obj, h1 w, k1, k2, h3 _ _ ?_ (fun _ => upd_same _ _ _) ?_⟩
  · show h.nx.num < (h.new _).nx.num
    rw [nx_new]; omega
  · show bsz (w.alloc obj) w.heap.size = objSize obj
    unfold bsz
    rw [hn]
    cases obj <;> rfl
theorem m_cells {c : Cx} {cs : List AV} {t : TypeId} {c' : Array Value} (hv : VL c cs c'.toList) (h1 : ∀ a ∈ cs, a.one = true) : ∀ u q, u.heap[q]? = some (.cells c' t (0, 0)) → ObjR P c u q (.cells cs t 0) :=
  fun _ _ hq => cells_R hq hv h1
theorem m_box {c : Cx} {t : TypeId} (hx : V c (x fr) vx) (e : xBox t x fr h = .ok r h') : ∃ o, h' = h.new o ∧ Mk P c (Instr.box t vx) h.nx r o := by
  have main : ∀ cs, VL c cs vx.cells.toList → (∀ a ∈ cs, a.one = true) → E.ok (.ptr h.nx 0) (h.new (.cells cs t 0)) = .ok r h' → ∃ o, h' = h.new o ∧ Mk P c (Instr.box t vx) h.nx r o := fun cs hv h1 e => by
    obtain ⟨rfl, rfl⟩ := okE e
    exact ⟨_, rfl, .cells vx.cells t, fun q => .pointer (some ⟨q, 0, none⟩), fun w => rfl, m_cells hv h1, fun d q g1 g2 _ => .ptr _ _ _ _ g1 fun hl => ⟨g2 hl, rfl⟩⟩
  rcases cells_ok e with ⟨cs, ex, e⟩ | ⟨h1, e⟩
  · refine main cs ((cells_V hx).1 cs ex) ?_ e
    rw [ex] at hx
    obtain ⟨_, _, _, h2⟩ := hx.agg_inv
    exact h2
  · exact main [x fr] ((cells_V hx).2 h1) (fun a ha => by rw [List.mem_singleton.1 ha]; exact h1) e
theorem m_zero {c : Cx} {t : TypeId} {zs : List AV} {old : Value} (hz : Zero P t zs) (e : xZero t zs fr h = .ok r h') : ∃ o, h' = h.new o ∧ Mk P c (Instr.alloc t true old) h.nx r o := by
  obtain ⟨z, z1, z2, z3⟩ := hz
  obtain ⟨rfl, rfl⟩ := okE e
  refine ⟨_, rfl, .cells z.cells t, fun q => .pointer (some ⟨q, 0, none⟩), fun w => ?_, m_cells (z2 c) z3, fun d q g1 g2 _ => .ptr _ _ _ _ g1 fun hl => ⟨g2 hl, rfl⟩⟩
  simp only [Instr.alloc, Sem.run_bind, z1, Result.andThen_ok]
  rfl
theorem m_mkmap {c : Cx} {t kt : TypeId} (e : xMkmap kt fr h = .ok r h') : ∃ o, h' = h.new o ∧ Mk P c (Instr.makeMap t none) h.nx r o := by
  obtain ⟨rfl, rfl⟩ := okE e
  exact ⟨_, rfl, .map #[] 0, fun q => .map (some q), fun w => rfl, fun u q hq => ⟨#[], hq, .nil⟩, fun d q g1 g2 _ => .map _ _ g1 g2⟩
theorem rep_eq (z : List AV) : ∀ n, rep z n = (List.replicate n z).flatten
  | 0 => rfl
  | n + 1 => by
    show lapp z (rep z n) = _
    rw [lapp_eq, rep_eq z n]
    simp [List.replicate_succ]
theorem VL.rep {c : Cx} {z : List AV} {vz : List Value} (h : VL c z vz) : ∀ n, VL c (rep z n) (List.replicate n vz).flatten
  | 0 => .nil
  | n + 1 => by
    show VL c (lapp z (Ev.rep z n)) _
    rw [lapp_eq]
    simp only [List.replicate_succ, List.flatten_cons]
    exact h.append (VL.rep h n)
theorem rep_one {z : List AV} (h : ∀ a ∈ z, a.one = true) (n : Nat) : ∀ a ∈ rep z n, a.one = true := by
  rw [rep_eq]
  intro a ha
  obtain ⟨l, hl, ha⟩ := List.mem_flatten.1 ha
  rw [List.eq_of_mem_replicate hl] at ha
  exact h a ha
/-- A row of zeros, as the model makes it. -/
theorem zeros_list (z : Array Value) (hz : 0 < z.size) (n : Nat) : ((Array.range (n * z.size)).map (z[· % z.size]!)).toList = (List.replicate n z.toList).flatten := by
  apply List.ext_getElem?
  intro i
  simp only [Array.toList_map, Array.toList_range, List.getElem?_map]
  by_cases hi : i < n * z.size
  · rw [List.getElem?_range hi]
    simp only [Option.map_some]
    rw [Array.getElem!_eq_getD, Array.getD_eq_getD_getElem?, Array.getElem?_eq_getElem (Nat.mod_lt _ hz)]
    have hflat : ∀ (n i : Nat), i < n * z.size → ((List.replicate n z.toList).flatten)[i]? = some (z[i % z.size]'(Nat.mod_lt _ hz)) := by
      intro n
      induction n with
      | zero => intro i hi; omega
      | succ n ih =>
        intro i hi
        rw [List.replicate_succ, List.flatten_cons]
        by_cases hlt : i < z.size
        · rw [List.getElem?_append_left (by simpa using hlt)]
          simp only [Nat.mod_eq_of_lt hlt]
          simp [hlt]
        · rw [List.getElem?_append_right (by simp; omega)]
          have hm : (i - z.toList.length) % z.size = i % z.size := by
            simp only [Array.length_toList]
            rw [← Nat.mod_eq_sub_mod (by omega)]
          rw [ih (i - z.toList.length) (by simp only [Array.length_toList]; rw [Nat.add_mul] at hi; omega)]
          simp only [hm]
    rw [hflat n i hi]
    rfl
  · rw [List.getElem?_eq_none (by simpa using hi), List.getElem?_eq_none]
    · rfl
    · rw [List.length_flatten]
      simp only [List.map_replicate, List.sum_replicate_nat, Array.length_toList]
      omega

theorem Zero.len {t : TypeId} {zs : List AV} (hz : Zero P t zs) : ∃ z : Value, (∀ w, (zeroValue t).run P w = .ok z w) ∧ (∀ c : Cx, VL c zs z.cells.toList) ∧ (∀ a ∈ zs, a.one = true) ∧ z.cells.size = zs.length := by
  obtain ⟨z, z1, z2, z3⟩ := hz
  refine ⟨z, z1, z2, z3, ?_⟩
  have := (z2 ⟨fun _ => none, fun _ => False, 0, fun _ => 0⟩).length
  simpa using this
theorem m_buildS {c : Cx} {t e : TypeId} {sz n : Nat} {zs : List AV} {ps : List (Nat × Nat × Opd)} {qs : List (Nat × Value)} (hu : P.underlying t = some (.slice e)) (hs : ∀ w, (sizeOf e).run P w = .ok sz w) (h0 : 0 < sz) (hz : Zero P e zs) (hl : zs.length = sz) (h24 : n * sz ≤ 16777216)
    (hp : PL c fr (fun i => some (i * sz, sz)) ps qs) (he : xBuildS e sz n (rep zs n) ps fr h = .ok r h') : ∃ o, h' = h.new o ∧ Mk P c (Instr.buildSlice t n qs.toArray) h.nx r o := by
  obtain ⟨cs, e1, e2⟩ := obE (show ob (fills ps fr (rep zs n)) E.no _ = _ from he)
  obtain ⟨e3, e4⟩ := okE e2
  subst e3 e4
  obtain ⟨z, z1, z2, z3, z4⟩ := hz.len
  have hzl := zeros_list z.cells (by rw [z4, hl]; exact h0) n
  have hlen : n * sz = n * z.cells.size := by rw [z4, hl]
  obtain ⟨vz', f1, f2, f3⟩ := s_fill (vz := (Array.range (n * sz)).map (z.cells[· % z.cells.size]!)) hp (by rw [hlen, hzl]; exact (z2 c).rep n) (rep_one z3 n) e1
  refine ⟨_, rfl, .cells vz' e, fun q => .slice (some ⟨q, 0, none⟩) n n, fun w => ?_, m_cells f2 f3, fun d q g1 g2 g3 => .slice _ _ _ _ _ _ _ _ g1 (Nat.le_refl _) (fun k hk => by cases hk; rfl) fun hl' => ⟨g2 hl', .inl rfl, ?_⟩⟩
  · have hn24 : ¬ (n * sz > 2 ^ 24) := by
      have : (2 : Nat) ^ 24 = 16777216 := by decide
      omega
    by_cases hn : n * sz = 0
    · have hrange : Array.map (fun i => (#[] : Array Value)[i % (#[] : Array Value).size]!) (Array.range (n * sz)) = Array.map (z.cells[· % z.cells.size]!) (Array.range (n * sz)) := by
        rw [hn]; simp
      simp only [Instr.buildSlice, Sem.run_bind, run_underlying hu, Result.andThen_ok, hs, if_neg hn24, if_pos hn, Sem.run_pure, hrange, f1]
      rfl
    · simp only [Instr.buildSlice, Sem.run_bind, run_underlying hu, Result.andThen_ok, hs, if_neg hn24, if_neg hn, Sem.run_pure, z1, f1]
      rfl
  · rw [g3]
    show 0 + n * sz ≤ vz'.size
    have h1 := f2.length
    obtain ⟨h2, _⟩ : cs.length = n * sz ∧ True := by
      refine ⟨?_, trivial⟩
      have : ∀ {ps : List (Nat × Nat × Opd)} {z z' : List AV}, fills ps fr z = some z' → z'.length = z.length := by
        intro ps
        induction ps with
        | nil => intro z z' e; cases e; rfl
        | cons p ps ih =>
          intro z z' e
          have step : ∀ cs : List AV, bi (Nat.beq (llen cs) p.2.1) (ob (lput cs p.1 z) none (fills ps fr)) none = some z' → z'.length = z.length := fun cs e => by
            obtain ⟨_, e⟩ := bi_some (by simp) e
            obtain ⟨z1, e1, e2⟩ := ob_some (by simp) e
            obtain ⟨h2, rfl⟩ := lput_some e1
            rw [ih e2]
            simp
            omega
          rcases cells_some (show (p.2.2 fr).cells? none (fun cs => bi (Nat.beq (llen cs) p.2.1) (ob (lput cs p.1 z) none (fills ps fr)) none) = some z' from e) with ⟨cs, _, e⟩ | ⟨_, e⟩
          · exact step cs e
          · exact step _ e
      rw [this e1, rep_eq]
      simp [hl]
    simp at h1
    omega
theorem m_mksl {c : Cx} {t e : TypeId} {i : TypeInfo} {zs : List AV} {l k : Opd} {vl vk : Value} (hu : P.underlying t = some (.slice e)) (hi : P.info? e = some i) (h0 : 0 < i.size) (hz : Zero P e zs) (hl : zs.length = i.size)
    (hx : V c (l fr) vl) (hy : V c (k fr) vk) (he : xMksl e i.size i.bytes zs l k fr h = .ok r h') : ∃ o, h' = h.new o ∧ Mk P c (Instr.makeSlice t vl vk) h.nx r o := by
  obtain ⟨q1, n, ex, he⟩ := nat_ok he
  obtain ⟨q2, m, ey, he⟩ := nat_ok he
  obtain ⟨g1, he⟩ := biE he
  obtain ⟨g2, he⟩ := biE he
  obtain ⟨g3, he⟩ := biE he
  obtain ⟨e3, e4⟩ := okE he
  subst e3 e4
  rw [ex] at hx
  rw [ey] at hy
  rw [nat_val hx, nat_val hy]
  have g1 := Nat.le_of_ble_eq_true g1
  rw [blt_eq] at g2 g3
  have g2 := of_decide_eq_true g2
  have g3 := of_decide_eq_true g3
  obtain ⟨z, z1, z2, z3, z4⟩ := hz.len
  have hzl := zeros_list z.cells (by rw [z4, hl]; exact h0) m
  have hlen : m * i.size = m * z.cells.size := by rw [z4, hl]
  have wn : IntKind.i64.wrap (n : Int) = n := by
    rw [← wrp_eq]
    have : digs .i64 (n : Int) = n := Nat.mod_eq_of_lt (by show n < 18446744073709551616; omega)
    rw [wrp, this]
    have h2 : Nat.blt n (half .i64) = true := by rw [blt_eq]; exact decide_eq_true (by show n < 9223372036854775808; omega)
    simp only [h2]; rfl
  have wm : IntKind.i64.wrap (m : Int) = m := by
    rw [← wrp_eq]
    have : digs .i64 (m : Int) = m := Nat.mod_eq_of_lt (by show m < 18446744073709551616; omega)
    rw [wrp, this]
    have h2 : Nat.blt m (half .i64) = true := by rw [blt_eq]; exact decide_eq_true (by show m < 9223372036854775808; omega)
    simp only [h2]; rfl
  refine ⟨_, rfl, .cells ((Array.range (m * i.size)).map (z.cells[· % z.cells.size]!)) e, fun q => .slice (some ⟨q, 0, none⟩) n m, fun w => ?_, m_cells (by rw [hlen, hzl]; exact (z2 c).rep m) (rep_one z3 m), fun d q g1' g2' g3' => .slice _ _ _ _ _ _ _ _ g1' g1 (fun k hk => by cases hk; rfl) fun hl' => ⟨g2' hl', .inl rfl, ?_⟩⟩
  · have hbig : (decide ((m : Int) < 0) || decide ((i.bytes : Int) * (m : Int) > 2 ^ 48)) = false := by
      have h1 : ((i.bytes : Int) * (m : Int)) = ((m * i.bytes : Nat) : Int) := by rw [Int.natCast_mul]; exact Int.mul_comm _ _
      rw [h1]
      simp
      omega
    have hn0 : ¬ ((n : Int) < 0) := by omega
    have hnm : ¬ ((n : Int) > (m : Int)) := by omega
    simp only [Instr.makeSlice, Sem.run_bind, run_underlying hu, Result.andThen_ok, asInt, asIntOf, Sem.run_pure, typeInfo, run_program, hi, wn, wm, hbig, hn0, hnm, decide_false, Bool.or_false, Bool.false_eq_true, if_false, or_false, false_or, Int.toNat_natCast, run_askRoom, sizeOf]
    by_cases hn : m * i.size = 0
    · have hrange : Array.map (fun i => (#[] : Array Value)[i % (#[] : Array Value).size]!) (Array.range (m * i.size)) = Array.map (z.cells[· % z.cells.size]!) (Array.range (m * i.size)) := by
        rw [hn]; simp
      simp only [if_pos hn, Sem.run_bind, Sem.run_pure, Result.andThen_ok, hrange]
      rfl
    · simp only [if_neg hn, Sem.run_bind, z1, Sem.run_pure, Result.andThen_ok]
      rfl
  · rw [g3']
    show 0 + m * i.size ≤ ((Array.range (m * i.size)).map (z.cells[· % z.cells.size]!)).size
    simp
end
end Ev
end Go.Proofs.YtoaimjielnempaaGreatDoor
namespace Go.Proofs.YtoaimjielnempaaGreatDoor
set_option linter.unusedVariables false
set_option linter.unusedSimpArgs false
open Go.RowKit Go.Maps
namespace Ev

theorem wup_setCell (w : World) (b o : Nat) (v : Value) : WUp w (w.setCell ⟨b, o, none⟩ v) b :=
  ⟨rfl, rfl, rfl, by simp [World.setCell], fun y hy => by simp [World.setCell, Array.getElem?_modify, Ne.symm hy]⟩
theorem WUp.trans {w w' w'' : World} {x : Nat} (h : WUp w w' x) (k : WUp w' w'' x) : WUp w w'' x :=
  ⟨k.os.trans h.os, k.tape.trans h.tape, k.output.trans h.output, k.size.trans h.size, fun y hy => (k.other y hy).trans (h.other y hy)⟩
theorem WUp.refl (w : World) (x : Nat) : WUp w w x := ⟨rfl, rfl, rfl, rfl, fun _ _ => rfl⟩
theorem wup_setCells (b : Nat) : ∀ (vs : List Value) (o : Nat) (w : World), WUp w (w.setCells b o vs) b
  | [], o, w => WUp.refl w b
  | v :: vs, o, w => (wup_setCell w b o v).trans (wup_setCells b vs (o + 1) _)
theorem heap_setCells (b : Nat) (t : TypeId) (f : Nat × Nat) : ∀ (vs : List Value) (o : Nat) (w : World) (c : Array Value), w.heap[b]? = some (.cells c t f) → o + vs.length ≤ c.size →
    ∃ c', (w.setCells b o vs).heap[b]? = some (.cells c' t f) ∧ c'.size = c.size ∧ c'.toList = c.toList.take o ++ vs ++ c.toList.drop (o + vs.length)
  | [], o, w, c, h, _ => ⟨c, h, rfl, by simp⟩
  | v :: vs, o, w, c, h, hl => by
    simp only [List.length_cons] at hl
    have h1 : (w.setCell ⟨b, o, none⟩ v).heap[b]? = some (.cells (c.setIfInBounds o v) t f) := by simp [World.setCell, Array.getElem?_modify, h]
    obtain ⟨c', h2, h3, h4⟩ := heap_setCells b t f vs (o + 1) _ _ h1 (by simp; omega)
    refine ⟨c', h2, by rw [h3]; simp, ?_⟩
    rw [h4]
    have hlt : o < c.toList.length := by simp; omega
    simp only [Array.toList_setIfInBounds]
    rw [List.take_set, List.take_succ_eq_append_getElem hlt, List.drop_set_of_lt (by omega), List.set_append_right _ _ (by simp; omega)]
    simp only [List.length_take, Nat.min_eq_left (Nat.le_of_lt hlt), Nat.sub_self, List.set_cons_zero, List.append_assoc, List.cons_append, List.nil_append, List.length_cons]
    rw [show o + 1 + vs.length = o + (vs.length + 1) by omega]

section
variable {P : Program} {B : Nat} {W : World} {ι : Pos → Option Nat} {h h' : H} {w w' : World} {fr : Fr} {x y z : Opd} {vx vy vz : Value} {r : AV}
/-- Cells are stored into a live block. -/
theorem store_block (rel : Rel P B W ι h w) {b : Pos} {q o fz : Nat} {cs v cs' : List AV} {t : TypeId} {vs : List Value} (hb : h.obj b = some (.cells cs t fz)) (hq : ι b = some q) (hfz : fz ≤ o) (hv : VL (cx ι h w) v vs) (h1 : ∀ a ∈ v, a.one = true)
    (hp : lput v o cs = some cs') : (storeCells ⟨q, o, none⟩ vs).run P w = .ok () (w.setCells q o vs) ∧ Rel P B W ι (h.put b (.cells cs' t fz)) (w.setCells q o vs) ∧ Ext ι h w ι (h.put b (.cells cs' t fz)) (w.setCells q o vs) := by
  obtain ⟨c', lo, hi, k1, k2, k3, k4, k5⟩ := block_cells rel hb hq
  obtain ⟨g1, rfl⟩ := lput_some hp
  have hl := hv.length
  have hone : ∀ u ∈ vs, u.oneCell' = true := by
    have : ∀ {v : List AV} {vs : List Value}, VL (cx ι h w) v vs → (∀ a ∈ v, a.one = true) → ∀ u ∈ vs, u.oneCell' = true := by
      intro v vs hv
      induction vs generalizing v with
      | nil => intro _ u hu; cases hu
      | cons u us ih =>
        intro h1 u' hu'
        cases hv with
        | cons a1 a2 =>
          rcases List.mem_cons.1 hu' with rfl | hu'
          · exact a1.one_cell (h1 _ List.mem_cons_self)
          · exact ih a2 (fun a ha => h1 a (List.mem_cons_of_mem _ ha)) u' hu'
    exact this hv h1
  have hst := run_storeCells_cells (P := P) q o vs 0 w (fun j hj => by
    simp only [World.cell?, k1, Nat.add_zero]
    simp
    omega) (fun j hj => by
    simp only [World.frozen?, k1, Nat.add_zero]
    rw [Bool.and_eq_false_iff]
    by_cases hlo : lo ≤ o + j
    · right
      rw [decide_eq_false_iff_not]
      intro hhi
      have := k5 (o + j) hlo hhi (by omega)
      omega
    · left
      exact decide_eq_false hlo) hone
  simp only [Nat.add_zero] at hst
  obtain ⟨c2, e1, e2, e3⟩ := heap_setCells q t (lo, hi) vs o w c' k1 (by omega)
  have hup := wup_setCells q vs o w
  have hbs : bsz (w.setCells q o vs) q = bsz w q := by simp [bsz, e1, k1, e2]
  refine ⟨hst, rel.put hb hq hup hbs ⟨c2, lo, hi, e1, ?_, ?_, ?_, ?_⟩⟩
  · rw [e2]; simp; omega
  · have hlen : (cs.take o ++ v ++ cs.drop (o + v.length)).length = cs.length := by simp; omega
    rw [hlen, e3]
    have : (c'.toList.take o ++ vs ++ c'.toList.drop (o + vs.length)).take cs.length = (c'.toList.take cs.length).take o ++ vs ++ (c'.toList.take cs.length).drop (o + v.length) := by
      rw [List.take_append, List.take_append, List.take_take, List.drop_take, hl]
      simp only [List.length_append, List.length_take, Array.length_toList]
      rw [show min cs.length o = o by omega, List.take_take, show min o cs.length = o by omega, List.take_of_length_le (by omega : vs.length ≤ cs.length - min o c'.size)]
      congr 2
      omega
    rw [this]
    exact ((k3.take o).append hv).append (k3.drop _)
  · intro a ha
    rcases List.mem_append.1 ha with ha | ha
    · rcases List.mem_append.1 ha with ha | ha
      · exact k4 a (List.mem_of_mem_take ha)
      · exact h1 a ha
    · exact k4 a (List.mem_of_mem_drop ha)
  · intro i a1 a2 a3
    exact k5 i a1 a2 (by omega)
theorem e_st {t : TypeId} {n : Nat} (rel : Rel P B W ι h w) (hs : ∀ w, (sizeOf t).run P w = .ok n w) (hx : V (cx ι h w) (x fr) vx) (hy : V (cx ι h w) (y fr) vy) (e : xSt n x y fr h = .ok r h') :
    ∃ w', r = .undef ∧ (Instr.storeAt t vx vy).run P w = .ok () w' ∧ Rel P B W ι h' w' ∧ Ext ι h w ι h' w' := by
  obtain ⟨b, o, ex, e⟩ := ptr_ok e
  obtain ⟨cs, ty, fz, hb, e⟩ := at_cells e
  rw [ex] at hx
  obtain ⟨q, o', rfl, g1, g2⟩ := hx.ptr_inv
  obtain ⟨hq, rfl⟩ := g2 ⟨_, hb⟩
  have main : ∀ v, VL (cx ι h w) v vy.cells.toList → (∀ a ∈ v, a.one = true) → bi (Nat.beq (llen v) n) (stTo h b o' cs ty fz v) E.no = .ok r h' →
      ∃ w', r = .undef ∧ (Instr.storeAt t (.pointer (some ⟨q, o', none⟩)) vy).run P w = .ok () w' ∧ Rel P B W ι h' w' ∧ Ext ι h w ι h' w' := by
    intro v hv h1 e
    obtain ⟨hn, e⟩ := biE e
    obtain ⟨hf, e⟩ := biE (show bi _ _ _ = _ from e)
    obtain ⟨cs', e1, e⟩ := obE e
    obtain ⟨e2, e3⟩ := okE e
    subst e2 e3
    rw [llen_eq] at hn
    have hn := Nat.eq_of_beq_eq_true hn
    obtain ⟨s1, s2, s3⟩ := store_block rel hb hq (Nat.le_of_ble_eq_true hf) hv h1 e1
    refine ⟨_, rfl, ?_, s2, s3⟩
    have hsz : vy.cells.size = n := by
      have := hv.length
      simp at this
      omega
    simp only [Instr.storeAt, Instr.sureAddr, Sem.run_bind, Sem.run_pure, Result.andThen_ok, storeVar, hs, hsz, ne_eq, not_true, if_false]
    exact s1
  rcases cells_ok e with ⟨v, ey, e⟩ | ⟨h1, e⟩
  · refine main v ((cells_V hy).1 v ey) ?_ e
    rw [ey] at hy
    obtain ⟨_, _, _, h2⟩ := hy.agg_inv
    exact h2
  · exact main [y fr] ((cells_V hy).2 h1) (fun a ha => by rw [List.mem_singleton.1 ha]; exact h1) e
theorem ofBytes_VL (c : Cx) : ∀ s : List UInt8, VL c (ofBytes s) (s.map fun b => Value.int .u8 b.toNat)
  | [] => .nil
  | b :: s => .cons (.int .u8 b.toNat) (ofBytes_VL c s)
theorem ofBytes_one : ∀ s : List UInt8, ∀ a ∈ ofBytes s, a.one = true
  | [], a, h => by cases h
  | b :: s, a, h => by
    rcases List.mem_cons.1 (show a ∈ (AV.int .u8 (.ofNat b.toNat)) :: ofBytes s from h) with rfl | h
    · rfl
    · exact ofBytes_one s a h
theorem ofBytes_length : ∀ s : List UInt8, (ofBytes s).length = s.length
  | [] => rfl
  | b :: s => congrArg (· + 1) (ofBytes_length s)
theorem bytesOf_VL {c : Cx} : ∀ {cs : List AV} {vs : List Value} {s : List UInt8}, VL c cs vs → bytesOf cs = some s → ∃ ns : List Nat, vs = ns.map (fun (n : Nat) => Value.int .u8 (n : Int)) ∧ s = ns.map UInt8.ofNat
  | _, _, s, .nil, e => by cases e; exact ⟨[], rfl, rfl⟩
  | _, _, s, .cons (a := a) (al := al) h1 h2, e => by
    cases a with
    | int k n =>
      obtain ⟨hk, e⟩ := bi_some (by simp) (show bi (eqK k .u8) (Int.cas n (fun m => ob (bytesOf al) none fun r => some (UInt8.ofNat m :: r)) fun _ => none) none = some s from e)
      cases eqK_eq hk
      cases n with
      | negSucc n => cases e
      | ofNat n =>
        obtain ⟨r, e1, e2⟩ := ob_some (by simp) (show ob (bytesOf al) none (fun r => some (UInt8.ofNat n :: r)) = some s from e)
        cases e2
        obtain ⟨ns, rfl, rfl⟩ := bytesOf_VL h2 e1
        rw [h1.int_inv]
        exact ⟨n :: ns, rfl, rfl⟩
    | _ => cases e
theorem r_b2s {s d q : TypeId} (rel : Rel P B W ι h w) (hs : P.underlying s = some (.slice q)) (hq : P.underlying q = some (.int .u8)) (hd : P.underlying d = some .string) (hx : V (cx ι h w) (x fr) vx) (e : xB2s x fr h = .ok r h') :
    h' = h ∧ ∃ u, V (cx ι h w) r u ∧ (Go.convert s d vx).run P w = .ok u w := by
  rcases slice_ok' e with ⟨ex, e⟩ | ⟨b, o, n, k, sz, ex, e⟩
  · obtain ⟨e1, e2⟩ := okE e
    rw [ex] at hx
    cases hx
    subst e1
    refine ⟨e2.symm, _, .str [], ?_⟩
    simp only [Go.convert, Sem.run_bind, run_underlying hs, run_underlying hd, Result.andThen_ok, run_underlying hq, Conv.bytesToString]
    rfl
  · obtain ⟨cs, ty, fz, hb, e⟩ := at_cells e
    obtain ⟨v, e1, e⟩ := obE e
    obtain ⟨l, e2, e⟩ := obE e
    obtain ⟨e3, e4⟩ := okE e
    rw [ex] at hx
    obtain ⟨y, o', c', rfl, g1, g2, g3, g4⟩ := hx.slice_inv
    obtain ⟨hy, h6, h7⟩ := g4 ⟨_, hb⟩
    subst e3
    obtain ⟨c2, lo, hi, k1, k2, k3, k4, k5⟩ := block_cells rel hb hy
    obtain ⟨j1, rfl⟩ := lrange_some e1
    have hv := (k3.drop o).take n
    have hl : ((c2.toList.take cs.length).drop o).take n = (c2.toList.drop o).take n := by
      rw [List.drop_take, List.take_take]
      congr 1
      omega
    rw [hl] at hv
    obtain ⟨ns, m1, rfl⟩ := bytesOf_VL hv e2
    refine ⟨e4.symm, _, .str _, ?_⟩
    have hlen : ns.length = n := by
      have := congrArg List.length m1
      simp at this
      omega
    have hload : (loadCells ⟨y, o', none⟩ n).run P w = .ok ((ns.map (fun (n : Nat) => (n : Int))).map (Value.int .u8)).toArray w := by
      by_cases hn : n = 0
      · subst hn
        have : ns = [] := List.eq_nil_of_length_eq_zero hlen
        subst this
        rfl
      · have ho : o' = o := by
          rcases h6 with h6 | h6
          · exact h6
          · omega
        subst ho
        have h := run_loadCells_list (P := P) w ⟨y, o', none⟩ ((ns.map (fun (n : Nat) => (n : Int))).map (Value.int .u8)) (fun j v hj => by
          rw [Addr.add_mid]
          have hr := range_of_block k1 o' n (by omega)
          refine hr j v ?_
          rw [m1]
          simpa using hj)
        simpa [hlen] using h
    have hb2 := run_bytesToString (P := P) w ⟨y, o', none⟩ n c' _ hload
    rw [run_convert_bytes_string w s d q _ n c' hs hq hd, hb2]
    congr 2
    have hf : ∀ (l : List Nat) (r : ByteArray), (l.map (fun (n : Nat) => (n : Int))).foldl (fun r n => r.push (UInt8.ofNat n.toNat)) r = ⟨r.data ++ (l.map UInt8.ofNat).toArray⟩ := by
      intro l
      induction l with
      | nil => intro r; simp
      | cons a l ih =>
        intro r
        simp only [List.map_cons, List.foldl_cons]
        rw [ih]
        simp [ByteArray.push]
    rw [hf]
    show (⟨#[] ++ (ns.map UInt8.ofNat).toArray⟩ : ByteArray) = _
    simp
theorem wnew_drew (w : World) (o : Obj) : WNew w (w.drew.alloc o) o := ⟨rfl, rfl, rfl, rfl⟩
theorem grown_le (w : World) (need old : Nat) (e : TypeId) : need ≤ grownCap w need old e := by
  unfold grownCap Question.cut
  exact Nat.le_add_right _ _
/-- A made row, whose first cells are known. -/
theorem row_R {c : Cx} {cs : List AV} {c' : Array Value} {t : TypeId} {u : World} {q : Nat} {f : Nat × Nat} (hq : u.heap[q]? = some (.cells c' t f)) (hl : cs.length ≤ c'.size) (hv : VL c cs (c'.toList.take cs.length)) (h1 : ∀ a ∈ cs, a.one = true) (hf : ∀ i, f.1 ≤ i → i < f.2 → i < c'.size → False) (fz : Nat) : ObjR P c u q (.cells cs t fz) :=
  ⟨c', f.1, f.2, hq, hl, hv, h1, fun i a b c => (hf i a b c).elim⟩
theorem e_s2b {s d q : TypeId} (rel : Rel P B W ι h w) (hs : P.underlying s = some .string) (hd : P.underlying d = some (.slice q)) (hq : P.underlying q = some (.int .u8)) (hx : V (cx ι h w) (x fr) vx) (e : xS2b q x fr h = .ok r h') :
    ∃ ι' w' u, (Go.convert s d vx).run P w = .ok u w' ∧ Rel P B W ι' h' w' ∧ Ext ι h w ι' h' w' ∧ V (cx ι' h' w') r u := by
  obtain ⟨l, ex, e⟩ := str_ok e
  obtain ⟨e1, e2⟩ := okE e
  subst e1 e2
  rw [ex] at hx
  rw [hx.str_inv]
  have hsz : (ByteArray.mk l.toArray).size = l.length := by simp [ByteArray.size]
  have hrun := run_bytes_of_string w s d q ⟨l.toArray⟩ hs hd hq
  have hge := grown_le w l.length 0 q
  rw [hsz] at hrun
  have hrow : (bytesRow ⟨l.toArray⟩ (grownCap w l.length 0 q)).toList = (l.map fun b => Value.int .u8 (b.toNat : Int)) ++ List.replicate (grownCap w l.length 0 q - l.length) (.int .u8 0) := by
    unfold bytesRow
    rw [hsz]
    simp
  have hrs : (bytesRow ⟨l.toArray⟩ (grownCap w l.length 0 q)).size = grownCap w l.length 0 q := by
    have := congrArg List.length hrow
    simp at this
    omega
  obtain ⟨k1, k2⟩ := rel.new (o := .cells (ofBytes l) q 0) (wnew_drew w _) (row_R (heap_new (wnew_drew w (.cells (bytesRow ⟨l.toArray⟩ (grownCap w l.length 0 q)) q ((bytesRow ⟨l.toArray⟩ (grownCap w l.length 0 q)).size, (bytesRow ⟨l.toArray⟩ (grownCap w l.length 0 q)).size + 1))))
    (by rw [ofBytes_length, hrs]; exact hge) (by
      rw [hrow, List.take_left' (by rw [ofBytes_length]; simp)]
      exact ofBytes_VL _ l) (ofBytes_one l) (fun i a b c => by omega) 0)
  refine ⟨_, _, _, hrun, k1, k2, .slice _ _ _ _ _ _ _ _ ?_ hge (fun k hk => by cases hk) fun _ => ⟨upd_same _ _ _, .inl rfl, ?_⟩⟩
  · show h.nx.num < (h.new _).nx.num
    rw [nx_new]; omega
  · show 0 + grownCap w l.length 0 q * 1 ≤ bsz _ w.heap.size
    unfold bsz
    rw [heap_new (wnew_drew w _)]
    show _ ≤ (bytesRow ⟨l.toArray⟩ (grownCap w l.length 0 q)).size
    omega
end
end Ev
end Go.Proofs.YtoaimjielnempaaGreatDoor
namespace Go.Proofs.YtoaimjielnempaaGreatDoor
set_option linter.unusedVariables false
set_option linter.unusedSimpArgs false
open Go.RowKit Go.Maps
namespace Ev

section
variable {P : Program} {B : Nat} {W : World} {ι : Pos → Option Nat} {h h' : H} {w w' : World} {fr : Fr} {x y z : Opd} {a : AV} {vx vy vz : Value} {r : AV}
theorem VL.ones {c : Cx} {v : List AV} {vs : List Value} (hv : VL c v vs) (h1 : ∀ a ∈ v, a.one = true) : ∀ u ∈ vs, u.oneCell' = true := by
  induction vs generalizing v with
  | nil => intro u hu; cases hu
  | cons u us ih =>
    intro u' hu'
    cases hv with
    | cons a1 a2 =>
      rcases List.mem_cons.1 hu' with rfl | hu'
      · exact a1.one_cell (h1 _ List.mem_cons_self)
      · exact ih a2 (fun a ha => h1 a (List.mem_cons_of_mem _ ha)) u' hu'
/-- The cells of a slice. -/
theorem slice_cells (rel : Rel P B W ι h w) {b : Pos} {o n : Nat} {cap : Option Nat} {sz q o' c' : Nat} {cs vs : List AV} {t : TypeId} {fz : Nat} (hb : h.obj b = some (.cells cs t fz)) (hq : ι b = some q) (ho : n * sz = 0 ∨ o' = o) (hr : lrange cs (n * sz) o = some vs) :
    ∃ us : List Value, us.length = n * sz ∧ VL (cx ι h w) vs us ∧ (∀ a ∈ vs, a.one = true) ∧ ∀ j u, us[j]? = some u → w.cell? ((⟨q, o', none⟩ : Addr).add j) = some u := by
  obtain ⟨c2, lo, hi, k1, k2, k3, k4, k5⟩ := block_cells rel hb hq
  obtain ⟨j1, rfl⟩ := lrange_some hr
  have hv := (k3.drop o).take (n * sz)
  have hl : ((c2.toList.take cs.length).drop o).take (n * sz) = (c2.toList.drop o).take (n * sz) := by
    rw [List.drop_take, List.take_take]
    congr 1
    omega
  rw [hl] at hv
  refine ⟨_, by simp; omega, hv, fun a ha => k4 a (List.mem_of_mem_drop (List.mem_of_mem_take ha)), fun j u hj => ?_⟩
  rw [Addr.add_mid]
  rcases ho with ho | ho
  · rw [ho] at hj; simp at hj
  · subst ho
    exact range_of_block k1 o' (n * sz) (by omega) j u hj
theorem srcL_ok {sz : Nat} {tx e' : TypeId} {f : Nat → List AV → E} (rel : Rel P B W ι h w) (hk : P.underlying tx = some (.slice e')) (hx : V (cx ι h w) a vx) (e : srcL sz a h f = .ok r h') (hsz : 0 < sz) :
    ∃ n vs news, f n vs = .ok r h' ∧ VL (cx ι h w) vs news ∧ (∀ a ∈ vs, a.one = true) ∧ Src P sz tx vx n news w := by
  rcases slice_ok' e with ⟨rfl, e⟩ | ⟨b, o, n, k, s, rfl, e⟩
  · cases hx
    exact ⟨0, [], [], e, .nil, (fun _ h => by cases h), Src.ofNil w hk 0⟩
  · obtain ⟨cs, ty, fz, hb, e⟩ := at_cells e
    obtain ⟨vs, e1, e⟩ := obE e
    obtain ⟨q, o', c', rfl, g1, g2, g3, g4⟩ := hx.slice_inv
    obtain ⟨hq, h6, h7⟩ := g4 ⟨_, hb⟩
    obtain ⟨us, u1, u2, u3, u4⟩ := slice_cells (cap := k) (c' := c') rel hb hq (o' := o') (by
      rcases h6 with h6 | h6
      · exact .inr h6
      · left; have : n = 0 := by omega
        rw [this]; omega) e1
    exact ⟨n, vs, us, e, u2, u3, Src.ofSlice w hk _ n c' us u1 u4 (u2.ones u3)⟩
theorem srcS_ok {tx : TypeId} {f : Nat → List AV → E} {c : Cx} (hk : P.underlying tx = some .string) (hx : V c a vx) (e : srcS a f = .ok r h') :
    ∃ n vs news, f n vs = .ok r h' ∧ VL c vs news ∧ (∀ a ∈ vs, a.one = true) ∧ Src P 1 tx vx n news w := by
  obtain ⟨s, rfl, e⟩ := str_ok e
  rw [hx.str_inv]
  have hsz : (ByteArray.mk s.toArray).size = s.length := by simp [ByteArray.size]
  have h1 := Src.ofString (P := P) w hk ⟨s.toArray⟩
  rw [hsz] at h1
  refine ⟨s.length, ofBytes s, _, e, ?_, ofBytes_one s, h1⟩
  have := ofBytes_VL c s
  simpa [byteCells] using this
theorem small_ok {n bytes : Nat} {E0 : E} (e : small n bytes E0 = .ok r h') : n * bytes < 1000000000 ∧ n < 1000000000 ∧ E0 = .ok r h' := by
  obtain ⟨h1, e⟩ := biE (show bi _ (bi _ _ _) _ = _ from e)
  obtain ⟨h2, e⟩ := biE e
  rw [blt_eq] at h1 h2
  exact ⟨of_decide_eq_true h1, of_decide_eq_true h2, e⟩
theorem zeroCells_size (z : Array Value) (n : Nat) : (Builtin.zeroCells z n).size = n * z.size := by simp [Builtin.zeroCells]
/-- A grown row. -/
theorem grow_ok {t tx ty e : TypeId} {i : TypeInfo} {z : Value} {cs : List AV} {base : Option Addr} {sLen sCap n : Nat} {olds news : List Value} (rel : Rel P B W ι h w) (ht : P.underlying t = some (.slice e)) (hi : P.info? e = some i) (hz : i.zero = some z) (hzs : z.cells.size = i.size)
    (hold : (Builtin.firstCells i.size sLen (.slice base sLen sCap)).run P w.drew = .ok olds.toArray w.drew) (hol : olds.length = sLen * i.size) (hs : Src P i.size tx vy n news w) (hg : sCap < sLen + n) (hb : (sLen + n) * i.bytes < 1000000000) (h9 : sLen + n < 1000000000)
    (hv : VL (cx ι h w) cs (olds ++ news)) (h1 : ∀ a ∈ cs, a.one = true) (fz : Nat) :
    ∃ ι' w' u, (Builtin.append_ #[t, tx] ty #[.slice base sLen sCap, vy]).run P w = .ok u w' ∧ Rel P B W ι' (h.new (.cells cs e fz)) w' ∧ Ext ι h w ι' (h.new (.cells cs e fz)) w' ∧ V (cx ι' (h.new (.cells cs e fz)) w') (.slice h.nx 0 (sLen + n) none i.size) u := by
  have hrun := run_append_grow_src (P := P) w t tx ty e i z ht hi hz base sLen sCap olds hold vy n news hs hg (by omega) (growslice_fits hg (by omega))
  have hge := grown_le w (sLen + n) sCap e
  have hcsl : cs.length = (sLen + n) * i.size := by
    rw [← hv.length, List.length_append, hol, hs.newsLen, Nat.add_mul]
  have hsize : ((olds ++ news).toArray ++ Builtin.zeroCells z.cells (grownCap w (sLen + n) sCap e - (sLen + n))).size = grownCap w (sLen + n) sCap e * i.size := by
    rw [Array.size_append, zeroCells_size, hzs]
    simp only [List.size_toArray, List.length_append, hol, hs.newsLen]
    rw [← Nat.add_mul, ← Nat.add_mul]
    congr 1
    omega
  obtain ⟨k1, k2⟩ := rel.new (o := .cells cs e fz) (wnew_drew w _) (row_R (heap_new (wnew_drew w (.cells ((olds ++ news).toArray ++ Builtin.zeroCells z.cells (grownCap w (sLen + n) sCap e - (sLen + n))) e)))
    (by rw [hsize, hcsl]; exact Nat.mul_le_mul_right _ hge) (by
      rw [← hv.length]
      simp only [Array.toList_append, List.take_left]
      exact hv) h1 (fun i a b c => by cases b) fz)
  refine ⟨_, _, _, hrun, k1, k2, .slice _ _ _ _ _ _ _ _ ?_ hge (fun k hk => by cases hk) fun _ => ⟨upd_same _ _ _, .inl rfl, ?_⟩⟩
  · show h.nx.num < (h.new _).nx.num
    rw [nx_new]; omega
  · show 0 + grownCap w (sLen + n) sCap e * i.size ≤ bsz _ w.heap.size
    unfold bsz
    rw [heap_new (wnew_drew w _)]
    show _ ≤ ((olds ++ news).toArray ++ Builtin.zeroCells z.cells (grownCap w (sLen + n) sCap e - (sLen + n))).size
    omega
theorem e_appTo {t tx ty e : TypeId} {i : TypeInfo} {z : Value} {n : Nat} {vs : List AV} {news : List Value} (rel : Rel P B W ι h w) (ht : P.underlying t = some (.slice e)) (hi : P.info? e = some i) (hz : i.zero = some z) (hzs : z.cells.size = i.size) (h0 : 0 < i.size)
    (hx : V (cx ι h w) a vx) (hs : Src P i.size tx vy n news w) (hv : VL (cx ι h w) vs news) (h1 : ∀ a ∈ vs, a.one = true) (he : appTo e i.size i.bytes a h n vs = .ok r h') :
    ∃ ι' w' u, (Builtin.append_ #[t, tx] ty #[vx, vy]).run P w = .ok u w' ∧ Rel P B W ι' h' w' ∧ Ext ι h w ι' h' w' ∧ V (cx ι' h' w') r u := by
  have hnl := hs.newsLen
  rcases slice_ok' he with ⟨rfl, he⟩ | ⟨b, o, len, k, s, rfl, he⟩
  · cases hx
    cases n with
    | zero =>
      obtain ⟨e1, e2⟩ := okE (show E.ok .nils h = .ok r h' from he)
      subst e1 e2
      have hnil : news = [] := List.eq_nil_of_length_eq_zero (by omega)
      subst hnil
      exact ⟨ι, w, _, run_append_nothing w t tx ty e i ht hi none 0 0 (Nat.le_refl _) vy hs, rel, Ext.refl _ _ _, .nils⟩
    | succ n =>
      obtain ⟨h2, h3, he⟩ := small_ok (show small (n + 1) i.bytes _ = _ from he)
      obtain ⟨e1, e2⟩ := okE he
      subst e1 e2
      have := grow_ok (ty := ty) (base := none) (sLen := 0) (sCap := 0) (olds := []) (n := n + 1) rel ht hi hz hzs (run_firstCells_none w.drew i.size 0 0 0) (by simp) hs (by omega) (by simpa using h2) (by omega) (by simpa using hv) h1 0
      simpa using this
  · obtain ⟨hsz, hf⟩ := biE he
    clear he
    have hsz := Nat.eq_of_beq_eq_true hsz
    subst hsz
    obtain ⟨q, o', c', rfl, g1, g2, g3, g4⟩ := hx.slice_inv
    cases n with
    | zero =>
      obtain ⟨e1, e2⟩ := okE (show E.ok (.slice b o len k i.size) h = .ok r h' from hf)
      subst e1 e2
      have hnil : news = [] := List.eq_nil_of_length_eq_zero (by omega)
      subst hnil
      exact ⟨ι, w, _, run_append_nothing w t tx ty e i ht hi _ len c' g2 vy hs, rel, Ext.refl _ _ _, hx⟩
    | succ n =>
      obtain ⟨cs, t', fz, hb, he⟩ := at_cells (show cellsAt h b E.no (fun cs t fz => small (len + (n + 1)) i.bytes (ob k (appUnk e i.size h b o len (n + 1) cs t fz vs) fun c => appKn e i.size h b o len c (n + 1) cs t fz vs)) = E.ok r h' from hf)
      clear hf
      obtain ⟨h2, h3, hf⟩ := small_ok he
      clear he
      obtain ⟨hq, h6, h7⟩ := g4 ⟨_, hb⟩
      obtain ⟨c2, lo, hi', k1, k2, k3, k4, k5⟩ := block_cells rel hb hq
      have hbs : bsz w q = c2.size := by simp [bsz, k1]
      have h7 : o' + c' * i.size ≤ c2.size := by rw [← hbs]; exact h7
      -- there is room: the cells are stored
      have room : len + (n + 1) ≤ c' → fz ≤ o + len * i.size → o' = o ∧ (Builtin.append_ #[t, tx] ty #[.slice (some ⟨q, o', none⟩) len c', vy]).run P w = .ok (.slice (some ⟨q, o', none⟩) (len + (n + 1)) c') (w.setCells q (o' + len * i.size) news) ∧ o' + len * i.size + news.length ≤ c2.size := by
        intro hle hfz
        have ho : o' = o := by
          rcases h6 with h6 | h6
          · exact h6
          · omega
        have hm : (len + (n + 1)) * i.size ≤ c' * i.size := Nat.mul_le_mul_right _ hle
        rw [Nat.add_mul] at hm
        have hroom : o' + len * i.size + news.length ≤ c2.size := by omega
        refine ⟨ho, run_append_room_src w t tx ty e i ht hi q o' len c' vy (n + 1) news hs hle (fun j hj => ?_) (fun j hj => ?_), hroom⟩
        · simp only [World.cell?, k1]
          simp
          omega
        · simp only [World.frozen?, k1]
          rw [Bool.and_eq_false_iff]
          by_cases hlo : lo ≤ o' + len * i.size + j
          · right
            rw [decide_eq_false_iff_not]
            intro hhi
            have := k5 _ hlo hhi (by omega)
            omega
          · left
            exact decide_eq_false hlo
      -- there is none
      have oldsOf : ∀ old, lrange cs (len * i.size) o = some old → ∃ olds : List Value, olds.length = len * i.size ∧ VL (cx ι h w) old olds ∧ (∀ a ∈ old, a.one = true) ∧ (Builtin.firstCells i.size len (.slice (some ⟨q, o', none⟩) len c')).run P w.drew = .ok olds.toArray w.drew := by
        intro old hold
        obtain ⟨us, u1, u2, u3, u4⟩ := slice_cells (cap := k) (c' := c') rel hb hq (o' := o') (n := len) (sz := i.size) (by
          rcases h6 with h6 | h6
          · exact .inr h6
          · left; have : len = 0 := by omega
            rw [this]; omega) hold
        exact ⟨us, u1, u2, u3, run_firstCells_some w.drew i.size len ⟨q, o', none⟩ len c' us u1 (fun j v hj => by
          have := u4 j v hj
          simpa using this)⟩
      cases k with
      | some c =>
        have hc := g3 c rfl
        subst hc
        by_cases hle : len + (n + 1) ≤ c'
        · have hble : Nat.ble (len + (n + 1)) c' = true := Nat.ble_eq_true_of_le hle
          have he : bi (Nat.ble fz (o + len * i.size)) (ob (lput vs (o + len * i.size) cs) E.no fun cs' => E.ok (.slice b o (len + (n + 1)) (some c') i.size) (h.put b (.cells cs' t' fz))) E.no = E.ok r h' := by
            have he' : appKn e i.size h b o len c' (n + 1) cs t' fz vs = .ok r h' := hf
            unfold appKn at he'
            rw [hble] at he'
            exact he'
          obtain ⟨hff, he⟩ := biE he
          obtain ⟨cs', e1, he⟩ := obE he
          obtain ⟨e2, e3⟩ := okE he
          subst e2 e3
          obtain ⟨ho, hrun, _⟩ := room hle (Nat.le_of_ble_eq_true hff)
          subst ho
          obtain ⟨s1, s2, s3⟩ := store_block rel hb hq (Nat.le_of_ble_eq_true hff) hv h1 e1
          exact ⟨ι, _, _, hrun, s2, s3, (V.slice b o' (len + (n + 1)) (some c') i.size q o' c' g1 hle (fun k hk => by cases hk; rfl) fun hl => ⟨hq, .inl rfl, by rw [show (cx ι h w).bs q = c2.size from hbs]; exact h7⟩).mono (s3.le rel)⟩
        · have hble : Nat.ble (len + (n + 1)) c' = false := by rw [Bool.eq_false_iff]; intro hb; exact hle (Nat.le_of_ble_eq_true hb)
          have he : (ob (lrange cs (len * i.size) o) E.no fun old => E.ok (.slice h.nx 0 (len + (n + 1)) none i.size) (h.new (.cells (lapp old vs) e 0))) = E.ok r h' := by
            have he' : appKn e i.size h b o len c' (n + 1) cs t' fz vs = .ok r h' := hf
            unfold appKn at he'
            rw [hble] at he'
            exact he'
          obtain ⟨old, e1, he⟩ := obE he
          obtain ⟨e2, e3⟩ := okE he
          subst e2 e3
          obtain ⟨olds, u1, u2, u3, u4⟩ := oldsOf old e1
          rw [lapp_eq]
          exact grow_ok rel ht hi hz hzs u4 u1 hs (by omega) h2 h3 (u2.append hv) (fun a ha => (List.mem_append.1 ha).elim (u3 a) (h1 a)) 0
      | none =>
        have he' : appUnk e i.size h b o len (n + 1) cs t' fz vs = .ok r h' := hf
        obtain ⟨q1, he⟩ := biE (show bi _ (bi _ (bi _ _ _) _) _ = _ from he')
        obtain ⟨q2, he⟩ := biE he
        obtain ⟨q3, he⟩ := biE he
        obtain ⟨q4, he⟩ := biE he
        obtain ⟨e2, e3⟩ := okE he
        have q1 := Nat.eq_of_beq_eq_true q1
        have q2 := Nat.eq_of_beq_eq_true q2
        rw [llen_eq] at q3
        have q3 := Nat.eq_of_beq_eq_true q3
        have q4 := Nat.le_of_ble_eq_true q4
        subst q1 q2 e2 e3
        rw [lapp_eq]
        by_cases hle : len + (n + 1) ≤ c'
        · obtain ⟨ho, hrun, hroom⟩ := room hle (by omega)
          subst ho
          obtain ⟨c3, m1, m2, m3⟩ := heap_setCells q e (lo, hi') news (0 + len * i.size) w c2 k1 hroom
          have hup := wup_setCells q news (0 + len * i.size) w
          have hbs2 : bsz (w.setCells q (0 + len * i.size) news) q = bsz w q := by unfold bsz; rw [m1, k1]; exact m2
          have hvl : vs.length = news.length := hv.length.symm
          obtain ⟨s2, s3⟩ := rel.renew (o := .cells (cs ++ vs) e fz) hb hq hup hbs2 ⟨c3, lo, hi', m1, by rw [m2]; simp; omega, by
            rw [m3]
            have : (c2.toList.take (0 + len * i.size) ++ news ++ c2.toList.drop (0 + len * i.size + news.length)).take (cs ++ vs).length = c2.toList.take cs.length ++ news := by
              rw [List.length_append, q3, hvl, Nat.zero_add, List.take_append_of_le_length (by simp; omega), List.take_of_length_le (by simp; omega)]
            rw [this]
            exact k3.append hv, fun a ha => (List.mem_append.1 ha).elim (k4 a) (h1 a), fun i a1 a2 a3 => k5 i a1 a2 (by omega)⟩
          refine ⟨_, _, _, hrun, s2, s3, .slice _ _ _ _ _ _ _ _ ?_ hle (fun k hk => by cases hk) fun _ => ⟨upd_same _ _ _, .inl rfl, ?_⟩⟩
          · show h.nx.num < ((h.kill b).new _).nx.num
            rw [nx_new]; exact Nat.lt_succ_self _
          · show 0 + c' * i.size ≤ bsz _ q
            rw [hbs2, hbs]
            exact h7
        · obtain ⟨olds, u1, u2, u3, u4⟩ := oldsOf cs (by
            have : ∀ (l : List AV), lrange l l.length 0 = some l := by
              intro l
              induction l with
              | nil => rfl
              | cons a l ih => show ob (ltake l l.length) none _ = _; rw [show ltake l l.length = some l from ih]; rfl
            rw [← q3]
            exact this cs)
          obtain ⟨r1, r2⟩ := rel.kill b
          have hle2 := r2.le rel
          obtain ⟨ι', w', u, h5, h8, h9, h10⟩ := grow_ok (ty := ty) (fz := fz) (cs := cs ++ vs) r1 ht hi hz hzs u4 u1 hs (by omega) h2 h3 ((u2.append hv).mono hle2) (fun a ha => (List.mem_append.1 ha).elim (u3 a) (h1 a))
          exact ⟨ι', w', u, h5, h8, r2.trans rel h9, h10⟩

theorem e_app {t tx ty e e' : TypeId} {i : TypeInfo} {z : Value} (rel : Rel P B W ι h w) (ht : P.underlying t = some (.slice e)) (hk : P.underlying tx = some (.slice e')) (hi : P.info? e = some i) (hz : i.zero = some z) (hzs : z.cells.size = i.size) (h0 : 0 < i.size)
    (hx : V (cx ι h w) (x fr) vx) (hy : V (cx ι h w) (y fr) vy) (he : xApp e i.size i.bytes x y fr h = .ok r h') :
    ∃ ι' w' u, (Builtin.append_ #[t, tx] ty #[vx, vy]).run P w = .ok u w' ∧ Rel P B W ι' h' w' ∧ Ext ι h w ι' h' w' ∧ V (cx ι' h' w') r u := by
  obtain ⟨n, vs, news, e1, e2, e3, e4⟩ := srcL_ok rel hk hy (show srcL i.size (y fr) h _ = _ from he) h0
  exact e_appTo rel ht hi hz hzs h0 hx e4 e2 e3 e1
theorem e_appS {t tx ty e : TypeId} {i : TypeInfo} {z : Value} (rel : Rel P B W ι h w) (ht : P.underlying t = some (.slice e)) (hk : P.underlying tx = some .string) (hi : P.info? e = some i) (hz : i.zero = some z) (hzs : z.cells.size = i.size) (h0 : i.size = 1)
    (hx : V (cx ι h w) (x fr) vx) (hy : V (cx ι h w) (y fr) vy) (he : xAppS e i.bytes x y fr h = .ok r h') :
    ∃ ι' w' u, (Builtin.append_ #[t, tx] ty #[vx, vy]).run P w = .ok u w' ∧ Rel P B W ι' h' w' ∧ Ext ι h w ι' h' w' ∧ V (cx ι' h' w') r u := by
  obtain ⟨n, vs, news, e1, e2, e3, e4⟩ := srcS_ok (w := w) hk hy (show srcS (y fr) _ = _ from he)
  rw [← h0] at e4 e1
  exact e_appTo rel ht hi hz hzs (by omega) hx e4 e2 e3 e1
end
end Ev
end Go.Proofs.YtoaimjielnempaaGreatDoor
namespace Go.Proofs.YtoaimjielnempaaGreatDoor
set_option linter.unusedVariables false
set_option linter.unusedSimpArgs false
open Go.RowKit Go.Maps
namespace Ev

section
variable {P : Program} {B : Nat} {W : World} {ι : Pos → Option Nat} {h h' : H} {w w' : World} {fr : Fr} {x y z : Opd} {a : AV} {vx vy vz : Value} {r : AV} {kf : TypeId → AV → Bool} {kt : TypeId} {c : Cx}
def ZeroV (P : Program) (q : TypeId) (z : AV) : Prop := ∃ v : Value, (∀ w, (zeroValue q).run P w = .ok v w) ∧ ∀ c : Cx, V c z v
def AV.isAgg : AV → Bool
  | .agg _ => true
  | _ => false
theorem conc_flat {a : AV} (h : a.isAgg = false) : conc a = concS a := by cases a <;> first | rfl | cases h
theorem eqAV_flat {a b : AV} (h : a.isAgg = false) : eqAV a b = eqCell a b := by cases a <;> first | rfl | cases h
theorem eqAV_conc {a b : AV} {u v : Value} {q : Bool} (ha : conc a = some u) (hb : conc b = some v) (e : eqAV a b = some q) : q = true ↔ u = v := by
  cases h1 : a.isAgg with
  | false =>
    rw [conc_flat h1] at ha
    rw [eqAV_flat h1] at e
    cases h2 : b.isAgg with
    | false =>
      rw [conc_flat h2] at hb
      exact eqCell_conc ha hb e
    | true =>
      cases b <;> first | (cases h2; done) | skip
      cases a <;> cases e
  | true =>
    cases a <;> first | (cases h1; done) | skip
    rename_i x
    cases b with
    | agg y =>
      simp only [conc] at ha hb
      split at ha
      · rename_i us hus
        split at hb
        · rename_i vs hvs
          cases ha
          cases hb
          rw [eqCells_conc hus hvs e]
          simp
        · cases hb
      · cases ha
    | _ => cases e
theorem ML.keys {es : List (AV × AV × Nat)} {fs : List MapEntry} (m : ML P kt c es fs) : ∀ f ∈ fs, ∃ l, keyOf P kt f.key = some l := by
  induction m with
  | nil => intro f hf; cases hf
  | cons h1 h2 h3 h4 h5 h6 h7 ih =>
    intro f hf
    rcases List.mem_cons.1 hf with rfl | hf
    · exact h2
    · exact ih f hf
theorem ML.uniq {es : List (AV × AV × Nat)} {fs : List MapEntry} (m : ML P kt c es fs) : ∀ (i j : Nat) (e f : MapEntry), fs[i]? = some e → fs[j]? = some f → e.key = f.key → i = j := by
  induction m with
  | nil => intro i j e f hi; cases hi
  | cons h1 h2 h3 h4 h5 h6 h7 ih =>
    intro i j e f hi hj hk
    cases i with
    | zero =>
      cases j with
      | zero => rfl
      | succ j =>
        cases hi
        exact absurd hk.symm (h6 f (List.mem_of_getElem? hj))
    | succ i =>
      cases j with
      | zero =>
        cases hj
        exact absurd hk (h6 e (List.mem_of_getElem? hi))
      | succ j => rw [ih i j e f hi hj hk]
theorem mfind_ok {k : AV} {kv : Value} (hk : conc k = some kv) {es : List (AV × AV × Nat)} {fs : List MapEntry} (m : ML P kt c es fs) : ∀ {res : Option AV}, mfind k es = some res →
    (res = none ∧ ∀ e ∈ fs, e.key ≠ kv) ∨ ∃ (v : AV) (j : Nat) (e : MapEntry), res = some v ∧ fs[j]? = some e ∧ e.key = kv ∧ V c v e.val := by
  induction m with
  | nil => intro res e; cases e; exact .inl ⟨rfl, fun _ h => by cases h⟩
  | cons h1 h2 h3 h4 h5 h6 h7 ih =>
    rename_i k0 v0 n e0 es fs
    intro res e
    obtain ⟨b, e1, e⟩ := ob_some (by simp) (show ob (eqAV k0 k) none (fun b => bi b (some (some v0)) (mfind k es)) = some res from e)
    obtain ⟨u0, hu0⟩ := h3
    have hk0 := conc_V h1 hu0
    have hb := eqAV_conc hu0 hk e1
    cases b with
    | true =>
      cases e
      exact .inr ⟨v0, 0, e0, rfl, rfl, by rw [hk0]; exact hb.1 rfl, h4⟩
    | false =>
      have hne : e0.key ≠ kv := fun he => by
        have := hb.2 (by rw [← hk0]; exact he)
        cases this
      rcases ih e with ⟨rfl, hall⟩ | ⟨v, j, e', rfl, hj, hk', hv⟩
      · exact .inl ⟨rfl, fun f hf => by
          rcases List.mem_cons.1 hf with rfl | hf
          · exact hne
          · exact hall f hf⟩
      · exact .inr ⟨v, j + 1, e', rfl, hj, hk', hv⟩
theorem lookE_ok {ok b : Bool} {v : AV} {vv : Value} (hv : V c v vv) (e : lookE ok v b h = .ok r h') : h' = h ∧ V c r (if ok then .tuple #[vv, .bool b] else vv) := by
  cases ok
  · obtain ⟨e1, e2⟩ := okE e
    subst e1
    exact ⟨e2.symm, hv⟩
  · obtain ⟨e1, e2⟩ := okE e
    subst e1
    exact ⟨e2.symm, .tuple _ _ (.cons hv (.cons (.bool b) .nil))⟩
theorem r_look {t q : TypeId} {zv : AV} {ok : Bool} (K : KeyOK P kf) (rel : Rel P B W ι h w) (hu : P.underlying t = some (.map kt q)) (hz : ZeroV P q zv) (hx : V (cx ι h w) (x fr) vx) (hy : V (cx ι h w) (y fr) vy) (e : xLook kt (kf kt) zv ok x y fr h = .ok r h') :
    h' = h ∧ ∃ u, V (cx ι h w) r u ∧ (Instr.lookup t vx vy ok).run P w = .ok u w := by
  obtain ⟨g1, e⟩ := biE (show bi _ _ _ = _ from e)
  obtain ⟨KT, kv, l, c1, k1⟩ := K kt _ g1
  have hvy := conc_V hy c1
  subst hvy
  obtain ⟨zc, z1, z2⟩ := hz
  rcases map_ok e with ⟨ex, e⟩ | ⟨b, ex, e⟩
  · rw [ex] at hx
    cases hx
    obtain ⟨e1, e2⟩ := lookE_ok (z2 (cx ι h w)) e
    refine ⟨e1, _, e2, ?_⟩
    have hck := KT.keyed.check w true k1
    rcases KT.keyed.find w k1 [] (fun _ h => by cases h) with ⟨hf, _⟩ | ⟨j, e', _, hj, _⟩
    · simp only [Instr.lookup, Sem.run_bind, run_underlying hu, Result.andThen_ok, Sem.run_pure, Array.isEmpty_empty, hck, hf, z1]
    · cases hj
  · obtain ⟨t', es, n, hb, e⟩ := at_map e
    obtain ⟨g2, ee⟩ := biE e
    clear e
    have g2 := Nat.eq_of_beq_eq_true g2
    subst g2
    obtain ⟨res, e1, e⟩ := obE ee
    rw [ex] at hx
    obtain ⟨p, rfl, j1, j2⟩ := hx.map_inv
    obtain ⟨es', m1, m2⟩ := rel.ob b _ p hb (j2 ⟨_, hb⟩)
    have hck := KT.keyed.check w es'.isEmpty k1
    have hget : (getObj p).run P w = .ok (.map es' n) w := by simp [getObj, Sem.run, m1]
    rcases mfind_ok c1 m2 e1 with ⟨rfl, hall⟩ | ⟨v, j, e0, rfl, hj, hk0, hv⟩
    · obtain ⟨e2, e3⟩ := lookE_ok (z2 (cx ι h w)) e
      refine ⟨e2, _, e3, ?_⟩
      rcases KT.keyed.find w k1 es'.toList m2.keys with ⟨hf, _⟩ | ⟨i, e', _, hi, hki⟩
      · simp only [Instr.lookup, Sem.run_bind, run_underlying hu, Result.andThen_ok, hget, Sem.run_pure, hck, hf, z1]
      · exact absurd hki (hall e' (List.mem_of_getElem? hi))
    · obtain ⟨e2, e3⟩ := lookE_ok hv e
      refine ⟨e2, _, e3, ?_⟩
      rcases KT.keyed.find w k1 es'.toList m2.keys with ⟨_, hall⟩ | ⟨i, e', hf, hi, hki⟩
      · exact absurd hk0 (hall e0 (List.mem_of_getElem? hj))
      · have hij := m2.uniq i j e' e0 hi hj (hki.trans hk0.symm)
        subst hij
        rw [hi] at hj
        cases hj
        simp only [Instr.lookup, Sem.run_bind, run_underlying hu, Result.andThen_ok, hget, Sem.run_pure, hck, hf]
theorem wup_setObj (w : World) (p : Nat) (o : Obj) : WUp w { w with heap := w.heap.setIfInBounds p o } p :=
  ⟨rfl, rfl, rfl, by simp, fun y hy => by simp [Array.getElem?_setIfInBounds, Ne.symm hy]⟩
theorem run_setObj {p : Nat} {es : Array MapEntry} {n : Nat} (o : Obj) (hp : w.heap[p]? = some (.map es n)) : (setObj p o).run P w = .ok () { w with heap := w.heap.setIfInBounds p o } := by
  simp [setObj, Sem.run, hp]
theorem heap_setObj {p : Nat} {o o0 : Obj} (hp : w.heap[p]? = some o0) : ({ w with heap := w.heap.setIfInBounds p o } : World).heap[p]? = some o := by
  have := (Array.getElem?_eq_some_iff.1 hp).1
  simp [Array.getElem?_setIfInBounds, this]
theorem mput_ok {k v : AV} {kv u : Value} {n : Nat} (hk : conc k = some kv) (hvk : V c k kv) (hl : ∃ l, keyOf P kt kv = some l) (hv : V c v u) {es : List (AV × AV × Nat)} {fs : List MapEntry} (m : ML P kt c es fs) : ∀ {es' : List (AV × AV × Nat)} {fl : Bool}, mput k v n es = some (es', fl) →
    (fl = true ∧ (∀ e ∈ fs, e.key ≠ kv) ∧ ML P kt c es' (fs ++ [{ key := kv, val := u, born := n }])) ∨ (fl = false ∧ ∃ (j : Nat) (e : MapEntry), fs[j]? = some e ∧ e.key = kv ∧ ML P kt c es' (fs.set j { e with key := kv, val := u })) := by
  induction m with
  | nil =>
    intro es' fl e
    cases e
    exact .inl ⟨rfl, fun _ h => (by cases h), .cons hvk hl ⟨_, hk⟩ hv rfl (fun _ h => by cases h) .nil⟩
  | cons h1 h2 h3 h4 h5 h6 h7 ih =>
    rename_i k0 v0 n0 e0 es fs
    intro es' fl e
    obtain ⟨b, e1, e⟩ := ob_some (by simp) (show ob (eqAV k0 k) none (fun b => bi b (some ((k, v, n0) :: es, false)) (ob (mput k v n es) none fun r => some ((k0, v0, n0) :: r.1, r.2))) = some (es', fl) from e)
    obtain ⟨u0, hu0⟩ := h3
    have hk0 := conc_V h1 hu0
    have hb := eqAV_conc hu0 hk e1
    cases b with
    | true =>
      cases e
      have hke : e0.key = kv := by rw [hk0]; exact hb.1 rfl
      exact .inr ⟨rfl, 0, e0, rfl, hke, .cons hvk hl ⟨_, hk⟩ hv h5 (fun f hf => by rw [← hke]; exact h6 f hf) h7⟩
    | false =>
      have hne : e0.key ≠ kv := fun he => by
        have := hb.2 (by rw [← hk0]; exact he)
        cases this
      obtain ⟨⟨r1, r2⟩, e2, e⟩ := ob_some (by simp) e
      cases e
      rcases ih e2 with ⟨hfl, hall, hm⟩ | ⟨hfl, j, e', hj, hk', hm⟩
      · refine .inl ⟨hfl, fun f hf => ?_, .cons h1 h2 ⟨_, hu0⟩ h4 h5 (fun f hf => ?_) hm⟩
        · rcases List.mem_cons.1 hf with rfl | hf
          · exact hne
          · exact hall f hf
        · rcases List.mem_append.1 hf with hf | hf
          · exact h6 f hf
          · rw [List.mem_singleton.1 hf]
            exact Ne.symm hne
      · refine .inr ⟨hfl, j + 1, e', hj, hk', .cons h1 h2 ⟨_, hu0⟩ h4 h5 (fun f hf => ?_) hm⟩
        rcases List.mem_or_eq_of_mem_set hf with hf | rfl
        · exact h6 f hf
        · exact Ne.symm hne
theorem e_mupd {t q : TypeId} {zx : Opd} (K : KeyOK P kf) (rel : Rel P B W ι h w) (hu : P.underlying t = some (.map kt q)) (hx : V (cx ι h w) (x fr) vx) (hy : V (cx ι h w) (y fr) vy) (hz : V (cx ι h w) (z fr) vz) (e : xMupd kt (kf kt) x y z fr h = .ok r h') :
    ∃ w', r = .undef ∧ (Instr.mapUpdate t vx vy vz).run P w = .ok () w' ∧ Rel P B W ι h' w' ∧ Ext ι h w ι h' w' := by
  obtain ⟨g1, e⟩ := biE (show bi _ _ _ = _ from e)
  obtain ⟨KT, kv, l, c1, k1⟩ := K kt _ g1
  have hvy := conc_V hy c1
  subst hvy
  rcases map_ok e with ⟨ex, e⟩ | ⟨b, ex, e⟩
  · cases e
  · obtain ⟨t', es, n, hb, e⟩ := at_map e
    obtain ⟨g2, ee⟩ := biE e
    clear e
    have g2 := Nat.eq_of_beq_eq_true g2
    subst g2
    obtain ⟨⟨es2, fl⟩, e1, e⟩ := obE ee
    obtain ⟨e2, e3⟩ := okE e
    subst e2 e3
    rw [ex] at hx
    obtain ⟨p, rfl, j1, j2⟩ := hx.map_inv
    have hp := j2 ⟨_, hb⟩
    obtain ⟨es', m1, m2⟩ := rel.ob b _ p hb hp
    have hck := KT.keyed.check w false k1
    have hget : (getObj p).run P w = .ok (.map es' n) w := by simp [getObj, Sem.run, m1]
    have hbs : ∀ o, (∀ cs t f, o ≠ .cells cs t f) → bsz { w with heap := w.heap.setIfInBounds p o } p = bsz w p := fun o ho => by
      unfold bsz
      rw [heap_setObj m1, m1]
      cases o <;> first | rfl | exact absurd rfl (ho _ _ _)
    rcases mput_ok (P := P) c1 hy ⟨l, k1⟩ hz m2 e1 with ⟨rfl, hall, hm⟩ | ⟨rfl, j, e0, hj, hk0, hm⟩
    · rcases KT.keyed.find w k1 es'.toList m2.keys with ⟨hf, _⟩ | ⟨i, e', _, hi, hki⟩
      · obtain ⟨s1, s2⟩ := rel.put (o := .map t' es2 (n + 1)) hb hp (wup_setObj w p (.map (es'.push { key := vy, val := vz, born := n }) (n + 1))) (hbs _ (fun _ _ _ h => by cases h)) ⟨_, heap_setObj m1, by simpa using hm⟩
        refine ⟨_, rfl, ?_, s1, s2⟩
        simp only [Instr.mapUpdate, Sem.run_bind, run_underlying hu, Result.andThen_ok, hget, hck, hf]
        exact run_setObj _ m1
      · exact absurd hki (hall e' (List.mem_of_getElem? hi))
    · rcases KT.keyed.find w k1 es'.toList m2.keys with ⟨_, hall⟩ | ⟨i, e', hf, hi, hki⟩
      · exact absurd hk0 (hall e0 (List.mem_of_getElem? hj))
      · have hij := m2.uniq i j e' e0 hi hj (hki.trans hk0.symm)
        subst hij
        rw [hi] at hj
        cases hj
        have hlt : i < es'.size := by
          have := (List.getElem?_eq_some_iff.1 hi).1
          simpa using this
        have hei : es'[i]? = some e0 := by
          rw [← hi]; simp
        have hmod : (es'.modify i fun e => { e with key := vy, val := vz }).toList = es'.toList.set i { e0 with key := vy, val := vz } := by
          rw [Array.toList_modify]
          apply List.ext_getElem?
          intro m
          rw [List.getElem?_modify, List.getElem?_set]
          by_cases hm : i = m
          · subst hm
            rw [hi]
            simp
            exact hlt
          · simp [hm]
        obtain ⟨s1, s2⟩ := rel.put (o := .map t' es2 n) hb hp (wup_setObj w p (.map (es'.modify i fun e => { e with key := vy, val := vz }) n)) (hbs _ (fun _ _ _ h => by cases h)) ⟨_, heap_setObj m1, by rw [hmod]; exact hm⟩
        refine ⟨_, rfl, ?_, s1, s2⟩
        have hst := KT.keyed.stays w k1
        simp only [Instr.mapUpdate, Sem.run_bind, run_underlying hu, Result.andThen_ok, hget, hck, hf, hei, Option.map_some, Option.getD_some, hki, hst]
        exact run_setObj _ m1

theorem mdel_ok {k : AV} {kv : Value} (hk : conc k = some kv) {es : List (AV × AV × Nat)} {fs : List MapEntry} (m : ML P kt c es fs) : ∀ {es' : List (AV × AV × Nat)}, mdel k es = some es' →
    ((∀ e ∈ fs, e.key ≠ kv) ∧ es' = es) ∨ ∃ (j : Nat) (e : MapEntry), fs[j]? = some e ∧ e.key = kv ∧ ML P kt c es' (fs.eraseIdx j) := by
  induction m with
  | nil => intro es' e; cases e; exact .inl ⟨(fun _ h => by cases h), rfl⟩
  | cons h1 h2 h3 h4 h5 h6 h7 ih =>
    rename_i k0 v0 n0 e0 es fs
    intro es' e
    obtain ⟨b, e1, e⟩ := ob_some (by simp) (show ob (eqAV k0 k) none (fun b => bi b (some es) (ob (mdel k es) none fun r => some ((k0, v0, n0) :: r))) = some es' from e)
    obtain ⟨u0, hu0⟩ := h3
    have hk0 := conc_V h1 hu0
    have hb := eqAV_conc hu0 hk e1
    cases b with
    | true =>
      cases e
      exact .inr ⟨0, e0, rfl, by rw [hk0]; exact hb.1 rfl, h7⟩
    | false =>
      have hne : e0.key ≠ kv := fun he => by
        have := hb.2 (by rw [← hk0]; exact he)
        cases this
      obtain ⟨r1, e2, e⟩ := ob_some (by simp) e
      cases e
      rcases ih e2 with ⟨hall, rfl⟩ | ⟨j, e', hj, hk', hm⟩
      · refine .inl ⟨fun f hf => ?_, rfl⟩
        rcases List.mem_cons.1 hf with rfl | hf
        · exact hne
        · exact hall f hf
      · exact .inr ⟨j + 1, e', hj, hk', .cons h1 h2 ⟨_, hu0⟩ h4 h5 (fun f hf => h6 f (List.mem_of_mem_eraseIdx hf)) hm⟩
theorem e_del {t q ty : TypeId} (ts : Array TypeId) (K : KeyOK P kf) (rel : Rel P B W ι h w) (ht : ts[0]? = some t) (hu : P.underlying t = some (.map kt q)) (hx : V (cx ι h w) (x fr) vx) (hy : V (cx ι h w) (y fr) vy) (e : xDel kt (kf kt) x y fr h = .ok r h') :
    ∃ w' u, (Builtin.delete_ ts ty #[vx, vy]).run P w = .ok u w' ∧ Rel P B W ι h' w' ∧ Ext ι h w ι h' w' ∧ V (cx ι h' w') r u := by
  obtain ⟨g1, e⟩ := biE (show bi _ _ _ = _ from e)
  obtain ⟨KT, kv, l, c1, k1⟩ := K kt _ g1
  have hvy := conc_V hy c1
  subst hvy
  rcases map_ok e with ⟨ex, e⟩ | ⟨b, ex, e⟩
  · obtain ⟨e2, e3⟩ := okE e
    subst e2 e3
    rw [ex] at hx
    cases hx
    have hck := KT.keyed.check w true k1
    refine ⟨w, .tuple #[], ?_, rel, Ext.refl _ _ _, .tuple [] [] .nil⟩
    simp [Builtin.delete_, ht, run_underlying hu, hck]
  · obtain ⟨t', es, n, hb, e⟩ := at_map e
    obtain ⟨g2, ee⟩ := biE e
    clear e
    have g2 := Nat.eq_of_beq_eq_true g2
    subst g2
    obtain ⟨es2, e1, e⟩ := obE ee
    obtain ⟨e2, e3⟩ := okE e
    subst e2 e3
    rw [ex] at hx
    obtain ⟨p, rfl, j1, j2⟩ := hx.map_inv
    have hp := j2 ⟨_, hb⟩
    obtain ⟨es', m1, m2⟩ := rel.ob b _ p hb hp
    have hck := KT.keyed.check w es'.isEmpty k1
    have hget : (getObj p).run P w = .ok (.map es' n) w := by simp [getObj, Sem.run, m1]
    have hbs : ∀ o, (∀ cs t f, o ≠ .cells cs t f) → bsz { w with heap := w.heap.setIfInBounds p o } p = bsz w p := fun o ho => by
      unfold bsz
      rw [heap_setObj m1, m1]
      cases o <;> first | rfl | exact absurd rfl (ho _ _ _)
    have fin : ∀ es3 : Array MapEntry, ML P t' (cx ι h w) es2 es3.toList → (setObj p (.map es3 n)).run P w = .ok () { w with heap := w.heap.setIfInBounds p (.map es3 n) } ∧ Rel P B W ι (h.put b (.map t' es2 n)) { w with heap := w.heap.setIfInBounds p (.map es3 n) } ∧ Ext ι h w ι (h.put b (.map t' es2 n)) { w with heap := w.heap.setIfInBounds p (.map es3 n) } := fun es3 hm =>
      ⟨run_setObj _ m1, rel.put (o := .map t' es2 n) hb hp (wup_setObj w p _) (hbs _ (fun _ _ _ h => by cases h)) ⟨_, heap_setObj m1, hm⟩⟩
    rcases mdel_ok (P := P) c1 m2 e1 with ⟨hall, rfl⟩ | ⟨j, e0, hj, hk0, hm⟩
    · rcases KT.keyed.find w k1 es'.toList m2.keys with ⟨hf, _⟩ | ⟨i, e', _, hi, hki⟩
      · obtain ⟨s0, s1, s2⟩ := fin es' m2
        refine ⟨_, .tuple #[], ?_, s1, s2, .tuple [] [] .nil⟩
        simp only [Builtin.delete_, ht, List.getElem?_toArray, List.getElem?_cons_zero, List.getElem?_cons_succ, Sem.run_bind, run_underlying hu, Result.andThen_ok, hget, hck, hf, s0, Sem.run_pure]
      · exact absurd hki (hall e' (List.mem_of_getElem? hi))
    · rcases KT.keyed.find w k1 es'.toList m2.keys with ⟨_, hall⟩ | ⟨i, e', hf, hi, hki⟩
      · exact absurd hk0 (hall e0 (List.mem_of_getElem? hj))
      · have hij := m2.uniq i j e' e0 hi hj (hki.trans hk0.symm)
        subst hij
        obtain ⟨s0, s1, s2⟩ := fin (es'.eraseIdxIfInBounds i) (by
          rw [Array.toList_eraseIdxIfInBounds]
          exact hm)
        refine ⟨_, .tuple #[], ?_, s1, s2, .tuple [] [] .nil⟩
        simp only [Builtin.delete_, ht, List.getElem?_toArray, List.getElem?_cons_zero, List.getElem?_cons_succ, Sem.run_bind, run_underlying hu, Result.andThen_ok, hget, hck, hf, s0, Sem.run_pure]
theorem e_rng {t q : TypeId} (rel : Rel P B W ι h w) (hu : P.underlying t = some (.map kt q)) (hx : V (cx ι h w) (x fr) vx) (e : xRng x fr h = .ok r h') :
    ∃ ι' w' u, (Instr.range t vx).run P w = .ok u w' ∧ Rel P B W ι' h' w' ∧ Ext ι h w ι' h' w' ∧ V (cx ι' h' w') r u := by
  have fin : ∀ (m : Option Pos) (m' : Option Nat) (n : Nat), V (cx ι h w) (match m with | some b => .map b | none => .nilm) (.map m') →
      Rel P B W (upd ι h.nx w.heap.size) (h.new (.iter m n [] n)) (w.alloc (.mapIter m' n #[] n)) ∧ Ext ι h w (upd ι h.nx w.heap.size) (h.new (.iter m n [] n)) (w.alloc (.mapIter m' n #[] n)) ∧
        V (cx (upd ι h.nx w.heap.size) (h.new (.iter m n [] n)) (w.alloc (.mapIter m' n #[] n))) (.ptr h.nx 0) (.pointer (some ⟨w.heap.size, 0, none⟩)) := fun m m' n hm => by
    obtain ⟨k1, k2⟩ := rel.new (o := .iter m n [] n) (wnew_alloc w (.mapIter m' n #[] n)) ⟨m', heap_new (wnew_alloc w _), hm⟩
    refine ⟨k1, k2, .ptr _ _ _ _ ?_ fun _ => ⟨upd_same _ _ _, rfl⟩⟩
    show h.nx.num < (h.new _).nx.num
    rw [nx_new]; omega
  rcases map_ok e with ⟨ex, e⟩ | ⟨b, ex, e⟩
  · obtain ⟨e2, e3⟩ := okE e
    subst e2 e3
    rw [ex] at hx
    cases hx
    obtain ⟨s1, s2, s3⟩ := fin none none 0 .nilm
    refine ⟨_, _, _, ?_, s1, s2, s3⟩
    simp only [Instr.range, Sem.run_bind, run_underlying hu, Result.andThen_ok, Sem.run_pure]
    rfl
  · obtain ⟨t', es, n, hb, e⟩ := at_map e
    obtain ⟨e2, e3⟩ := okE e
    subst e2 e3
    rw [ex] at hx
    obtain ⟨p, rfl, j1, j2⟩ := hx.map_inv
    have hp := j2 ⟨_, hb⟩
    obtain ⟨es', m1, m2⟩ := rel.ob b _ p hb hp
    have hget : (getObj p).run P w = .ok (.map es' n) w := by simp [getObj, Sem.run, m1]
    obtain ⟨s1, s2, s3⟩ := fin (some b) (some p) n hx
    refine ⟨_, _, _, ?_, s1, s2, s3⟩
    simp only [Instr.range, Sem.run_bind, run_underlying hu, Result.andThen_ok, Sem.run_pure, hget]
    rfl
end
end Ev
end Go.Proofs.YtoaimjielnempaaGreatDoor
namespace Go.Proofs.YtoaimjielnempaaGreatDoor
set_option linter.unusedVariables false
set_option linter.unusedSimpArgs false
open Go.RowKit Go.Maps
namespace Ev

section
variable {P : Program} {B : Nat} {W : World} {ι : Pos → Option Nat} {h h' : H} {w w' : World} {fr : Fr} {x y z : Opd} {a : AV} {vx vy vz : Value} {r : AV} {kt : TypeId} {c : Cx}
theorem mem_eq (n : Nat) : ∀ l : List Nat, mem n l = l.contains n
  | [] => rfl
  | a :: l => by
    show bi (Nat.beq a n) true (mem n l) = _
    rw [mem_eq n l, List.contains_cons]
    by_cases e : a = n
    · subst e; simp [bi]
    · have h1 : Nat.beq a n = false := by rw [Bool.eq_false_iff]; exact fun h => e (Nat.eq_of_beq_eq_true h)
      have h2 : (n == a) = false := by simp; exact fun h => e h.symm
      rw [h1, h2]
      simp [bi]
theorem ML.left (seen : List Nat) : ∀ {es : List (AV × AV × Nat)} {fs : List MapEntry}, ML P kt c es fs → ML P kt c (mleft seen es) (fs.filter fun e => !seen.contains e.born)
  | _, _, .nil => .nil
  | _, _, .cons (k := k) (v := v) (n := n) (e := e) (es := es) (fs := fs) h1 h2 h3 h4 h5 h6 h7 => by
    have ih := ML.left seen h7
    show ML P kt c (bi (mem n seen) (mleft seen es) ((k, v, n) :: mleft seen es)) _
    rw [mem_eq, List.filter_cons, h5]
    cases hb : seen.contains n with
    | true => simpa [bi] using ih
    | false =>
      simp only [bi, Bool.not_false, if_true]
      exact .cons h1 h2 h3 h4 h5 (fun f hf => h6 f (List.mem_filter.1 hf).1) ih
theorem ML.born (n : Nat) : ∀ {es : List (AV × AV × Nat)} {fs : List MapEntry} {kv : AV × AV}, ML P kt c es fs → mborn n es = some kv → ∃ e, fs.find? (·.born == n) = some e ∧ V c kv.1 e.key ∧ V c kv.2 e.val
  | _, _, _, .nil, e => by cases e
  | _, _, kv, .cons (k := k) (v := v) (n := m) (e := e') (es := es) (fs := fs) h1 h2 h3 h4 h5 h6 h7, e => by
    have e : bi (Nat.beq m n) (some (k, v)) (mborn n es) = some kv := e
    rw [List.find?_cons, h5]
    by_cases hm : m = n
    · subst hm
      have : Nat.beq m m = true := by simp
      rw [this] at e
      simp only [bi, Option.some.injEq] at e
      subst e
      simp
      exact ⟨h1, h4⟩
    · have h8 : Nat.beq m n = false := by rw [Bool.eq_false_iff]; exact fun h => hm (Nat.eq_of_beq_eq_true h)
      rw [h8] at e
      have h9 : (m == n) = false := by simpa using hm
      rw [h9]
      exact ML.born n h7 (by simpa [bi] using e)
theorem still_ok {seen : List Nat} {last : Nat} {es : List (AV × AV × Nat)} {fs : List MapEntry} (hm : ML P kt c es fs) (e : stillOk seen last es = true) :
    (!seen.isEmpty && !fs.isEmpty && fs.all (fun e => decide (e.born ≥ last))) = false := by
  cases seen with
  | nil => rfl
  | cons s seen =>
    cases hm with
    | nil => rfl
    | cons h1 h2 h3 h4 h5 h6 h7 =>
      rename_i k v n e0 es fs
      have e : List.rec (motive := fun _ => Bool) false (fun e _ r => bi (Nat.blt e.2.2 last) true r) ((k, v, n) :: es) = true := e
      have gen : ∀ {es : List (AV × AV × Nat)} {fs : List MapEntry}, ML P kt c es fs → List.rec (motive := fun _ => Bool) false (fun (e : AV × AV × Nat) _ r => bi (Nat.blt e.2.2 last) true r) es = true → fs.all (fun e => decide (e.born ≥ last)) = false := by
        intro es fs hm
        induction hm with
        | nil => intro e; cases e
        | cons h1 h2 h3 h4 h5 h6 h7 ih =>
          intro e
          rename_i k v n e0 es fs
          have e : bi (Nat.blt n last) true (List.rec (motive := fun _ => Bool) false (fun (e : AV × AV × Nat) _ r => bi (Nat.blt e.2.2 last) true r) es) = true := e
          rw [List.all_cons, h5]
          cases hb : Nat.blt n last with
          | true =>
            rw [blt_eq] at hb
            have := of_decide_eq_true hb
            have : ¬ (n ≥ last) := by omega
            simp [this]
          | false =>
            rw [hb] at e
            rw [ih e, Bool.and_false]
      have := gen (ML.cons h1 h2 h3 h4 h5 h6 h7) e
      simp [this]
theorem it_at {p : Pos} {f : Option Pos → Nat → List Nat → Nat → E} (e : ob (h.obj p) E.no (fun it => it.iter? .no f) = .ok r h') : ∃ m s n l, h.obj p = some (.iter m s n l) ∧ f m s n l = .ok r h' := by
  obtain ⟨o, ho, e⟩ := obE e
  cases o with
  | cells => cases e
  | map => cases e
  | iter m s n l => exact ⟨m, s, n, l, ho, e⟩
theorem ML.nilOf {fs : List MapEntry} (h : ML P kt c [] fs) : fs = [] := by cases h; rfl
theorem e_nxt {ty : TypeId} (rel : Rel P B W ι h w) (hx : V (cx ι h w) (x fr) vx) (e : xNxt x fr h = .ok r h') :
    ∃ ι' w' u, (Instr.next vx false ty).run P w = .ok u w' ∧ Rel P B W ι' h' w' ∧ Ext ι h w ι' h' w' ∧ V (cx ι' h' w') r u := by
  obtain ⟨p, o, ex, e⟩ := ptr_ok (show (x fr).ptr? E.no _ = _ from e)
  obtain ⟨g0, e⟩ := biE e
  have g0 := Nat.eq_of_beq_eq_true g0
  subst g0
  obtain ⟨m, since, seen, last, hp, e⟩ := it_at e
  rw [ex] at hx
  obtain ⟨q, o', rfl, j1, j2⟩ := hx.ptr_inv
  obtain ⟨hq, ho'⟩ := j2 ⟨_, hp⟩
  subst ho'
  obtain ⟨m', k1, k2⟩ := rel.ob p _ q hp hq
  have hget : (getObj q).run P w = .ok (.mapIter m' since seen.toArray last) w := by simp [getObj, Sem.run, k1]
  cases m with
  | none =>
    obtain ⟨e2, e3⟩ := okE e
    subst e2 e3
    cases k2
    refine ⟨ι, w, .tuple #[.bool false], ?_, rel, Ext.refl _ _ _, .tuple _ [.bool false] (.cons (.bool _) .nil)⟩
    simp only [Instr.next, Sem.run_bind, hget, Result.andThen_ok, Sem.run_pure]
  | some b =>
    obtain ⟨t', es, n, hb, e⟩ := at_map (show mapAt h b .no _ = _ from e)
    obtain ⟨g1, e⟩ := biE e
    obtain ⟨qm, hm', i1, i2⟩ := V.map_inv k2
    cases hm'
    have hqm := i2 ⟨_, hb⟩
    obtain ⟨es', m1, m2⟩ := rel.ob b _ qm hb hqm
    have hget2 : (getObj qm).run P w = .ok (.map es' n) w := by simp [getObj, Sem.run, m1]
    have hst := still_ok m2 g1
    have hst' : (!seen.toArray.isEmpty && !es'.isEmpty && es'.all (fun e => decide (e.born ≥ last))) = false := by
      rw [← hst]; simp
    have hleft := m2.left seen
    have hl' : (es'.filter fun e => !seen.toArray.contains e.born).toList = es'.toList.filter fun e => !seen.contains e.born := by
      simp
    cases hml : mleft seen es with
    | nil =>
      rw [hml] at hleft
      have hnil := hleft.nilOf
      rw [← hl'] at hnil
      have hnil : (es'.filter fun e => !seen.toArray.contains e.born) = #[] := by simpa using hnil
      have e : nxtE h p b since seen es n = .ok r h' := e
      unfold nxtE at e
      rw [hml] at e
      obtain ⟨e2, e3⟩ := okE e
      subst e2 e3
      refine ⟨ι, w, .tuple #[.bool false], ?_, rel, Ext.refl _ _ _, .tuple _ [.bool false] (.cons (.bool _) .nil)⟩
      simp only [Instr.next, Sem.run_bind, hget, hget2, Result.andThen_ok, Sem.run_pure, hst', hnil]
      simp [choose, Sem.run, Question.forced]
    | cons e1 l =>
      have e : nxtE h p b since seen es n = .ok r h' := e
      unfold nxtE at e
      rw [hml] at e
      cases l with
      | cons _ _ => cases e
      | nil =>
        obtain ⟨ka, va, na⟩ := e1
        obtain ⟨g2, e⟩ := biE (show bi _ _ _ = _ from e)
        obtain ⟨e2, e3⟩ := okE e
        subst e2 e3
        rw [hml, ← hl'] at hleft
        generalize hf : (es'.filter fun e => !seen.toArray.contains e.born) = left at hleft
        have hleft : ∃ e0, left = #[e0] ∧ V (cx ι h w) ka e0.key ∧ V (cx ι h w) va e0.val ∧ e0.born = na := by
          obtain ⟨L⟩ := left
          cases hleft with
          | cons h1 h2 h3 h4 h5 h6 h7 => cases h7; exact ⟨_, rfl, h1, h4, h5⟩
        obtain ⟨e0, rfl, v1, v2, rfl⟩ := hleft
        rw [blt_eq] at g2
        have g2 : e0.born < since := of_decide_eq_true g2
        have hset : (setObj q (.mapIter (some qm) since (seen.toArray.push e0.born) n)).run P w = .ok () { w with heap := w.heap.setIfInBounds q (.mapIter (some qm) since (seen.toArray.push e0.born) n) } := by simp [setObj, Sem.run, k1]
        have hbs : bsz { w with heap := w.heap.setIfInBounds q (.mapIter (some qm) since (seen.toArray.push e0.born) n) } q = bsz w q := by
          unfold bsz
          rw [heap_setObj k1, k1]
        obtain ⟨s1, s2⟩ := rel.put (o := .iter (some b) since (seen ++ [e0.born]) n) hp hq (wup_setObj w q _) hbs ⟨some qm, by rw [heap_setObj k1]; simp, k2⟩
        refine ⟨ι, _, .tuple #[.bool true, e0.key, e0.val], ?_, s1, s2, ?_⟩
        · simp only [Instr.next, Sem.run_bind, hget, hget2, Result.andThen_ok, Sem.run_pure, hst', hf]
          have hset' := hset
          rw [show seen.toArray.push e0.born = (seen ++ [e0.born]).toArray by simp] at hset'
          simp [choose, Sem.run, Question.forced, g2, hset']
        · exact .tuple _ [.bool true, e0.key, e0.val] (.cons (.bool _) (.cons (v1.mono (s2.le rel)) (.cons (v2.mono (s2.le rel)) .nil)))
theorem r_entry (rel : Rel P B W ι h w) (hx : V (cx ι h w) (x fr) vx) (e : xEntry x fr h = .ok r h') :
    h' = h ∧ ∃ u, V (cx ι h w) r u ∧ (Instr.entry vx).run P w = .ok u w := by
  obtain ⟨p, o, ex, e⟩ := ptr_ok (show (x fr).ptr? E.no _ = _ from e)
  obtain ⟨g0, e⟩ := biE e
  have g0 := Nat.eq_of_beq_eq_true g0
  subst g0
  obtain ⟨m, since, seen, last, hp, e⟩ := it_at e
  obtain ⟨b, hm, e'⟩ := obE e
  clear e
  subst hm
  obtain ⟨n, hn, e⟩ := obE e'
  clear e'
  obtain ⟨t', es, k, hb, e⟩ := at_map e
  obtain ⟨g1, ee⟩ := biE e
  clear e
  have g1 := Nat.eq_of_beq_eq_true g1
  subst g1
  obtain ⟨kv, hkv, e⟩ := obE ee
  obtain ⟨e2, e3⟩ := okE e
  subst e2
  rw [ex] at hx
  obtain ⟨q, o', rfl, j1, j2⟩ := hx.ptr_inv
  obtain ⟨hq, ho'⟩ := j2 ⟨_, hp⟩
  subst ho'
  obtain ⟨m', k1, k2⟩ := rel.ob p _ q hp hq
  obtain ⟨qm, hm', i1, i2⟩ := V.map_inv k2
  cases hm'
  have hqm := i2 ⟨_, hb⟩
  obtain ⟨es', m1, m2⟩ := rel.ob b _ qm hb hqm
  have hget : (getObj q).run P w = .ok (.mapIter (some qm) since seen.toArray k) w := by simp [getObj, Sem.run, k1]
  have hget2 : (getObj qm).run P w = .ok (.map es' k) w := by simp [getObj, Sem.run, m1]
  obtain ⟨e0, f1, f2, f3⟩ := m2.born n hkv
  have hfind : es'.find? (·.born == n) = some e0 := by rw [← Array.find?_toList]; exact f1
  have hback : seen.toArray.back? = some n := by rw [List.back?_toArray]; exact hn
  refine ⟨e3.symm, .tuple #[e0.key, e0.val], .tuple _ [e0.key, e0.val] (.cons f2 (.cons f3 .nil)), ?_⟩
  simp only [Instr.entry, Sem.run_bind, hget, hget2, Result.andThen_ok, Sem.run_pure, hback, hfind]
  simp
theorem e_clr {t q ty : TypeId} {zs : List AV} (ts : Array TypeId) (rel : Rel P B W ι h w) (ht : ts[0]? = some t) (hu : P.underlying t = some (.slice q)) (hz : Zero P q zs) (hx : V (cx ι h w) (x fr) vx) (e : xClr zs x fr h = .ok r h') :
    ∃ w' u, (Builtin.clear_ ts ty #[vx]).run P w = .ok u w' ∧ Rel P B W ι h' w' ∧ Ext ι h w ι h' w' ∧ V (cx ι h' w') r u := by
  rcases slice_ok' e with ⟨ex, e⟩ | ⟨b, o, n, cap, sz, ex, e⟩
  · obtain ⟨e2, e3⟩ := okE e
    subst e2 e3
    rw [ex] at hx
    cases hx
    refine ⟨w, .tuple #[], ?_, rel, Ext.refl _ _ _, .tuple [] [] .nil⟩
    simp [Builtin.clear_, ht, run_underlying hu]
  · rw [ex] at hx
    obtain ⟨x', o', c', rfl, g1, g2, g3, g4⟩ := hx.slice_inv
    cases n with
    | zero =>
      obtain ⟨e2, e3⟩ := okE (show E.ok (.tuple []) h = .ok r h' from e)
      subst e2 e3
      refine ⟨w, .tuple #[], ?_, rel, Ext.refl _ _ _, .tuple [] [] .nil⟩
      simp [Builtin.clear_, ht, run_underlying hu]
    | succ n =>
      obtain ⟨cs, ty', fz, hb, e⟩ := at_cells (show cellsAt h b .no _ = _ from e)
      obtain ⟨hf, e⟩ := biE e
      obtain ⟨cs', e1, e⟩ := obE e
      obtain ⟨e2, e3⟩ := okE e
      subst e2 e3
      obtain ⟨hq, ho, _⟩ := g4 ⟨_, hb⟩
      have ho' : o' = o := by
        rcases ho with ho | ho
        · exact ho
        · omega
      subst ho'
      obtain ⟨z, z1, z2, z3⟩ := hz
      obtain ⟨s1, s2, s3⟩ := store_block rel hb hq (Nat.le_of_ble_eq_true hf) ((z2 _).rep (n + 1)) (rep_one z3 (n + 1)) e1
      have hlist : (Builtin.zeroCells z.cells (n + 1)).toList = (List.replicate (n + 1) z.cells.toList).flatten := by
        by_cases h0 : 0 < z.cells.size
        · exact zeros_list z.cells h0 (n + 1)
        · have h1 : z.cells = #[] := Array.eq_empty_of_size_eq_zero (by omega)
          rw [h1]
          simp [Builtin.zeroCells]
      refine ⟨_, .tuple #[], ?_, s2, s3, .tuple [] [] .nil⟩
      simp only [Builtin.clear_, List.getElem?_toArray, List.getElem?_cons_zero, ht, Sem.run_bind, run_underlying hu, Result.andThen_ok, z1, hlist, s1, Sem.run_pure]
theorem e_cpyS {t q ty : TypeId} (ts : Array TypeId) (rel : Rel P B W ι h w) (ht : ts[0]? = some t) (hu : P.underlying t = some (.slice q)) (hq : (P.info? q).map (·.size) = some 1) (hx : V (cx ι h w) (x fr) vx) (hy : V (cx ι h w) (y fr) vy) (e : xCpyS x y fr h = .ok r h') :
    ∃ w' u, (Builtin.copy_ ts ty #[vx, vy]).run P w = .ok u w' ∧ Rel P B W ι h' w' ∧ Ext ι h w ι h' w' ∧ V (cx ι h' w') r u := by
  obtain ⟨s, ey, e⟩ := str_ok e
  rcases slice_ok' e with ⟨_, e⟩ | ⟨b, o, n, cap, sz, ex, e⟩
  · cases e
  obtain ⟨hsz, e⟩ := biE e
  rw [ex] at hx
  rw [ey] at hy
  rw [hy.str_inv]
  obtain ⟨x', o', c', rfl, g1, g2, g3, g4⟩ := hx.slice_inv
  have hl : (ByteArray.mk s.toArray).size = s.length := by simp [ByteArray.size]
  obtain ⟨i, hi, hi1⟩ := Option.map_eq_some_iff.1 hq
  have hsize : ∀ w : World, (sizeOf q).run P w = .ok 1 w := fun w => by simp [sizeOf, typeInfo, hi, hi1]
  have hfc := firstCells_string (P := P) ⟨s.toArray⟩ w
  rw [hl] at hfc
  have hbc : (byteCells ⟨s.toArray⟩) = s.map fun b => Value.int .u8 b.toNat := by simp [byteCells]
  rw [hbc] at hfc
  cases hn : s.length with
  | zero =>
    rw [hn] at e hl hfc
    obtain ⟨e2, e3⟩ := okE (show E.ok (.int .i64 (.ofNat 0)) h = .ok r h' from e)
    subst e2 e3
    have hs : s = [] := List.eq_nil_of_length_eq_zero hn
    subst hs
    refine ⟨w, goInt 0, ?_, rel, Ext.refl _ _ _, .int _ _⟩
    simp only [Builtin.copy_, List.getElem?_toArray, List.getElem?_cons_zero, List.getElem?_cons_succ, ht, Sem.run_bind, run_underlying hu, Result.andThen_ok, Builtin.lenOf, Sem.run_pure, hl, Nat.min_def, Nat.zero_le, if_true, hsize, hfc]
    simp [storeCells]
  | succ m =>
    rw [hn] at e hl hfc
    obtain ⟨hmn, e⟩ := biE (show bi (Nat.ble (Nat.succ m) n) _ E.no = _ from e)
    obtain ⟨cs, ty', fz, hb, e⟩ := at_cells e
    obtain ⟨hf, e⟩ := biE e
    obtain ⟨cs', e1, e⟩ := obE e
    obtain ⟨e2, e3⟩ := okE e
    subst e2 e3
    have hmn := Nat.le_of_ble_eq_true hmn
    obtain ⟨hq2, ho, _⟩ := g4 ⟨_, hb⟩
    have ho' : o' = o := by
      rcases ho with ho | ho
      · exact ho
      · omega
    subst ho'
    obtain ⟨s1, s2, s3⟩ := store_block rel hb hq2 (Nat.le_of_ble_eq_true hf) (ofBytes_VL _ s) (ofBytes_one s) e1
    refine ⟨_, goInt (Nat.succ m), ?_, s2, s3, .int _ _⟩
    have hmin : Nat.min (m + 1) n = m + 1 := Nat.min_eq_left hmn
    simp only [Builtin.copy_, List.getElem?_toArray, List.getElem?_cons_zero, List.getElem?_cons_succ, ht, Sem.run_bind, run_underlying hu, Result.andThen_ok, Builtin.lenOf, Sem.run_pure, hl, hmin, hsize, hfc, s1]
end
end Ev
end Go.Proofs.YtoaimjielnempaaGreatDoor
namespace Go.Proofs.YtoaimjielnempaaGreatDoor
set_option linter.unusedVariables false
set_option linter.unusedSimpArgs false
open Go.RowKit Go.Maps
namespace Ev
section
variable {P : Program} {B : Nat} {W : World} {ι : Pos → Option Nat} {h h' : H} {w w' : World} {fr : Fr} {x y z : Opd} {a : AV} {vx vy vz : Value} {r : AV} {kf : TypeId → AV → Bool} {kt : TypeId} {c : Cx}
theorem mplace_ok {k : AV} {kv : Value} (hk : conc k = some kv) {es : List (AV × AV × Nat)} {fs : List MapEntry} (m : ML P kt c es fs) : ∀ {res : Option (AV × Nat)}, mplace k es = some res →
    (res = none ∧ ∀ e ∈ fs, e.key ≠ kv) ∨ ∃ (v : AV) (n j : Nat) (e : MapEntry), res = some (v, n) ∧ fs[j]? = some e ∧ e.key = kv ∧ V c v e.val ∧ e.born = n := by
  induction m with
  | nil => intro res e; cases e; exact .inl ⟨rfl, fun _ h => by cases h⟩
  | cons h1 h2 h3 h4 h5 h6 h7 ih =>
    rename_i k0 v0 n e0 es fs
    intro res e
    obtain ⟨b, e1, e⟩ := ob_some (by simp) (show ob (eqAV k0 k) none (fun b => bi b (some (some (v0, n))) (mplace k es)) = some res from e)
    obtain ⟨u0, hu0⟩ := h3
    have hk0 := conc_V h1 hu0
    have hb := eqAV_conc hu0 hk e1
    cases b with
    | true =>
      cases e
      exact .inr ⟨v0, n, 0, e0, rfl, rfl, by rw [hk0]; exact hb.1 rfl, h4, h5⟩
    | false =>
      have hne : e0.key ≠ kv := fun he => by
        have := hb.2 (by rw [← hk0]; exact he)
        cases this
      rcases ih e with ⟨rfl, hall⟩ | ⟨v, n', j, e', rfl, hj, hk', hv, hn⟩
      · exact .inl ⟨rfl, fun f hf => by
          rcases List.mem_cons.1 hf with rfl | hf
          · exact hne
          · exact hall f hf⟩
      · exact .inr ⟨v, n', j + 1, e', rfl, hj, hk', hv, hn⟩
theorem mset_ok {v : AV} {u : Value} {n : Nat} (hv : V c v u) {es : List (AV × AV × Nat)} {fs : List MapEntry} (m : ML P kt c es fs) : ∀ {es' : List (AV × AV × Nat)}, mset n v es = some es' →
    ∃ (j : Nat) (e : MapEntry), fs.findIdx? (fun e => (e.born : Int) == (n : Int)) = some j ∧ fs[j]? = some e ∧ ML P kt c es' (fs.set j { e with val := u }) := by
  induction m with
  | nil => intro es' e; cases e
  | cons h1 h2 h3 h4 h5 h6 h7 ih =>
    rename_i k0 v0 n0 e0 es fs
    intro es' e
    have e : bi (Nat.beq n0 n) (some ((k0, v, n0) :: es)) (ob (mset n v es) none fun r => some ((k0, v0, n0) :: r)) = some es' := e
    cases hb : Nat.beq n0 n with
    | true =>
      rw [hb] at e
      cases e
      have := Nat.eq_of_beq_eq_true hb
      subst this
      exact ⟨0, e0, by simp [List.findIdx?_cons, h5], rfl, .cons h1 h2 h3 hv h5 h6 h7⟩
    | false =>
      rw [hb] at e
      obtain ⟨r1, e2, e⟩ := ob_some (by simp) (show ob (mset n v es) none (fun r => some ((k0, v0, n0) :: r)) = some es' from e)
      cases e
      obtain ⟨j, e', g1, g2, g3⟩ := ih e2
      have hne : n0 ≠ n := fun he => by
        rw [he, Nat.beq_refl] at hb
        cases hb
      refine ⟨j + 1, e', ?_, g2, .cons h1 h2 h3 h4 h5 (fun f hf => ?_) g3⟩
      · rw [List.findIdx?_cons, g1, h5]
        have : ((n0 : Int) == (n : Int)) = false := by
          rw [beq_eq_false_iff_ne]
          omega
        rw [this]
        rfl
      · rcases List.mem_or_eq_of_mem_set hf with hf | rfl
        · exact h6 f hf
        · exact h6 e' (List.mem_of_getElem? g2)
theorem e_ment {t q : TypeId} {zv : AV} (K : KeyOK P kf) (rel : Rel P B W ι h w) (hu : P.underlying t = some (.map kt q)) (hz : ZeroV P q zv) (hx : V (cx ι h w) (x fr) vx) (hy : V (cx ι h w) (y fr) vy) (e : xMent kt (kf kt) zv x y fr h = .ok r h') :
    ∃ ι' w' u, (Instr.mapEntry t vx vy).run P w = .ok u w' ∧ Rel P B W ι' h' w' ∧ Ext ι h w ι' h' w' ∧ V (cx ι' h' w') r u := by
  obtain ⟨g1, e⟩ := biE (show bi _ _ _ = _ from e)
  obtain ⟨KT, kv, l, c1, k1⟩ := K kt _ g1
  have hvy := conc_V hy c1
  subst hvy
  rcases map_ok e with ⟨ex, e⟩ | ⟨b, ex, e⟩
  · cases e
  · obtain ⟨t', es, n, hb, e⟩ := at_map e
    obtain ⟨g2, ee⟩ := biE e
    clear e
    have g2 := Nat.eq_of_beq_eq_true g2
    subst g2
    obtain ⟨res, e1, e⟩ := obE ee
    rw [ex] at hx
    obtain ⟨p, rfl, j1, j2⟩ := hx.map_inv
    have hp := j2 ⟨_, hb⟩
    obtain ⟨es', m1, m2⟩ := rel.ob b _ p hb hp
    have hck := KT.keyed.check w false k1
    have hget : (getObj p).run P w = .ok (.map es' n) w := by simp [getObj, Sem.run, m1]
    have hbs : ∀ o, (∀ cs t f, o ≠ .cells cs t f) → bsz { w with heap := w.heap.setIfInBounds p o } p = bsz w p := fun o ho => by
      unfold bsz
      rw [heap_setObj m1, m1]
      cases o <;> first | rfl | exact absurd rfl (ho _ _ _)
    rcases mplace_ok c1 m2 e1 with ⟨rfl, hall⟩ | ⟨v, nb, j, e0, rfl, hj, hk0, hv, hborn⟩
    · obtain ⟨⟨es2, fl⟩, e3, e⟩ := obE (show ob (mput (y fr) zv n es) E.no _ = _ from e)
      obtain ⟨e4, e5⟩ := okE e
      subst e4 e5
      obtain ⟨zz, z1, z2⟩ := hz
      rcases mput_ok (P := P) c1 hy ⟨l, k1⟩ (z2 _) m2 e3 with ⟨rfl, _, hm⟩ | ⟨rfl, j, e0, hj, hk0, hm⟩
      · rcases KT.keyed.find w k1 es'.toList m2.keys with ⟨hf, _⟩ | ⟨i, e', _, hi, hki⟩
        · obtain ⟨s1, s2⟩ := rel.put (o := .map t' es2 (n + 1)) hb hp (wup_setObj w p (.map (es'.push { key := vy, val := zz, born := n }) (n + 1))) (hbs _ (fun _ _ _ h => by cases h)) ⟨_, heap_setObj m1, by simpa using hm⟩
          refine ⟨ι, _, .tuple #[zz, goInt n], ?_, s1, s2, .tuple _ [zz, goInt n] (.cons (z2 _) (.cons (.int _ _) .nil))⟩
          have hset := run_setObj (P := P) (.map (es'.push { key := vy, val := zz, born := n }) (n + 1)) m1
          simp only [Instr.mapEntry, Sem.run_bind, run_underlying hu, Result.andThen_ok, hget, hck, hf, z1, hset, Sem.run_pure]
        · exact absurd hki (hall e' (List.mem_of_getElem? hi))
      · exact absurd hk0 (hall e0 (List.mem_of_getElem? hj))
    · obtain ⟨⟨es2, fl⟩, e3, e⟩ := obE (show ob (mput (y fr) v n es) E.no _ = _ from e)
      obtain ⟨e4, e5⟩ := okE e
      subst e4 e5
      rcases mput_ok (P := P) c1 hy ⟨l, k1⟩ hv m2 e3 with ⟨_, hall, hm⟩ | ⟨_, j', e1', hj', hk1, hm⟩
      · exact absurd hk0 (hall e0 (List.mem_of_getElem? hj))
      · have hjj := m2.uniq j' j e1' e0 hj' hj (hk1.trans hk0.symm)
        subst hjj
        rw [hj] at hj'
        cases hj'
        rcases KT.keyed.find w k1 es'.toList m2.keys with ⟨_, hall⟩ | ⟨i, e', hf, hi, hki⟩
        · exact absurd hk0 (hall e0 (List.mem_of_getElem? hj))
        · have hij := m2.uniq i j' e' e0 hi hj (hki.trans hk0.symm)
          subst hij
          rw [hi] at hj
          cases hj
          have hlt : i < es'.size := by
            have := (List.getElem?_eq_some_iff.1 hi).1
            simpa using this
          have hei : es'[i]? = some e0 := by
            rw [← hi]; simp
          have hmod : (es'.modify i fun e => { e with key := vy }).toList = es'.toList.set i { e0 with key := vy, val := e0.val } := by
            rw [Array.toList_modify]
            apply List.ext_getElem?
            intro m
            rw [List.getElem?_modify, List.getElem?_set]
            by_cases hm : i = m
            · subst hm
              rw [hi]
              simp
              exact hlt
            · simp [hm]
          obtain ⟨s1, s2⟩ := rel.put (o := .map t' es2 n) hb hp (wup_setObj w p (.map (es'.modify i fun e => { e with key := vy }) n)) (hbs _ (fun _ _ _ h => by cases h)) ⟨_, heap_setObj m1, by rw [hmod]; exact hm⟩
          refine ⟨ι, _, .tuple #[e0.val, goInt e0.born], ?_, s1, s2, .tuple _ [e0.val, goInt e0.born] (.cons (hv.mono (s2.le rel)) (.cons (by rw [hborn]; exact .int _ _) .nil))⟩
          have hst := KT.keyed.stays w k1
          have hset := run_setObj (P := P) (.map (es'.modify i fun e => { e with key := vy }) n) m1
          simp only [Instr.mapEntry, Sem.run_bind, run_underlying hu, Result.andThen_ok, hget, hck, hf, hei, Option.map_some, Option.getD_some, hki, hst, hset, Sem.run_pure]
theorem e_est {t : TypeId} (rel : Rel P B W ι h w) (hx : V (cx ι h w) (x fr) vx) (hy : V (cx ι h w) (y fr) vy) (hz : V (cx ι h w) (z fr) vz) (e : xEst x y z fr h = .ok r h') :
    ∃ w', r = .undef ∧ (Instr.entryStore t vx vy vz).run P w = .ok () w' ∧ Rel P B W ι h' w' ∧ Ext ι h w ι h' w' := by
  rcases map_ok e with ⟨ex, e⟩ | ⟨b, ex, e⟩
  · cases e
  · obtain ⟨t', es, n, hb, e⟩ := at_map e
    obtain ⟨kd, m, ey, e⟩ := nat_ok e
    obtain ⟨es2, e1, e⟩ := obE e
    obtain ⟨e2, e3⟩ := okE e
    subst e2 e3
    rw [ey] at hy
    cases hy
    rw [ex] at hx
    obtain ⟨p, rfl, j1, j2⟩ := hx.map_inv
    have hp := j2 ⟨_, hb⟩
    obtain ⟨es', m1, m2⟩ := rel.ob b _ p hb hp
    have hget : (getObj p).run P w = .ok (.map es' n) w := by simp [getObj, Sem.run, m1]
    obtain ⟨j, e0, f1, f2, f3⟩ := mset_ok hz m2 e1
    have hbs : bsz { w with heap := w.heap.setIfInBounds p (.map (es'.modify j fun e => { e with val := vz }) n) } p = bsz w p := by
      unfold bsz
      rw [heap_setObj m1, m1]
    have hlt : j < es'.size := by
      have := (List.getElem?_eq_some_iff.1 f2).1
      simpa using this
    have hmod : (es'.modify j fun e => { e with val := vz }).toList = es'.toList.set j { e0 with val := vz } := by
      rw [Array.toList_modify]
      apply List.ext_getElem?
      intro m
      rw [List.getElem?_modify, List.getElem?_set]
      by_cases hm : j = m
      · subst hm
        rw [f2]
        simp
        exact hlt
      · simp [hm]
    obtain ⟨s1, s2⟩ := rel.put (o := .map t' es2 n) hb hp (wup_setObj w p (.map (es'.modify j fun e => { e with val := vz }) n)) hbs ⟨_, heap_setObj m1, by rw [hmod]; exact f3⟩
    refine ⟨_, rfl, ?_, s1, s2⟩
    have hidx : es'.findIdx? (fun e => (e.born : Int) == (m : Int)) = some j := by rw [← f1, ← List.findIdx?_toArray, Array.toArray_toList]
    have hint : (asInt (Value.int kd (Int.ofNat m))).run P w = .ok (m : Int) w := rfl
    have hset := run_setObj (P := P) (.map (es'.modify j fun e => { e with val := vz }) n) m1
    simp only [Instr.entryStore, Sem.run_bind, Result.andThen_ok, hget, hint, hidx, hset]
end
end Ev
end Go.Proofs.YtoaimjielnempaaGreatDoor
