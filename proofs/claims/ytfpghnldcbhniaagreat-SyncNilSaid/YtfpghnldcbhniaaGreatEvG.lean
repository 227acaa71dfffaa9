/- Operations that only reckon, the last: comparisons, lengths. -/
import Derived.Test.YtfpghnldcbhniaaGreatEvF
namespace Go.Proofs.YtfpghnldcbhniaaGreat
set_option linter.unusedVariables false
set_option linter.unusedSimpArgs false
open Go.RowKit Go.Maps
namespace Ev

section
variable {P : Program} {c : Cx} {fr : Fr} {h h' : H} {x y z : Opd} {vx vy vz : Value} {r : AV}
/-- The operation that compares, as a whole. -/
def eqSem (op : BinOp) (t : TypeId) (ox oy : Operand) (a b : Value) : Sem Value := do eqGuard op t ox oy a b; Go.binOp op t a b
def neq? : BinOp → Bool
  | .neq => true
  | _ => false
theorem neB_eq (ne b : Bool) : neB ne b = .bool (ne != b) := by cases ne <;> cases b <;> rfl
theorem V.nilK_inv {a : AV} {v : Value} {k : Nat} {b : Bool} (h : V c a v) (e : a.nilK = some (k, b)) :
    (k = 0 ∧ ∃ p, v = .pointer p ∧ b = p.isNone) ∨ (k = 1 ∧ ((b = true ∧ v = .slice none 0 0) ∨ ∃ p n m, v = .slice (some p) n m ∧ b = false)) ∨ (k = 2 ∧ ∃ p, v = .map p ∧ b = p.isNone) ∨ (k = 3 ∧ ((b = true ∧ v = .nilFunc) ∨ ∃ f l m, v = .func f l m ∧ b = false)) := by
  cases h <;> simp only [AV.nilK, reduceCtorEq, Option.some.injEq, Prod.mk.injEq] at e
  all_goals obtain ⟨rfl, rfl⟩ := e
  · exact .inl ⟨rfl, none, rfl, rfl⟩
  · exact .inl ⟨rfl, some _, rfl, rfl⟩
  · exact .inr (.inl ⟨rfl, .inl ⟨rfl, rfl⟩⟩)
  · exact .inr (.inl ⟨rfl, .inr ⟨_, _, _, rfl, rfl⟩⟩)
  · exact .inr (.inr (.inl ⟨rfl, none, rfl, rfl⟩))
  · exact .inr (.inr (.inl ⟨rfl, some _, rfl, rfl⟩))
  · exact .inr (.inr (.inr ⟨rfl, .inl ⟨rfl, rfl⟩⟩))
  · exact .inr (.inr (.inr ⟨rfl, .inr ⟨_, _, _, rfl, rfl⟩⟩))
theorem eqIn_ptr {t q : TypeId} (hu : P.underlying t = some (.pointer q)) (d : Nat) (p p' : Option Addr) (g : (bi p.isNone true p'.isNone) = true) (w : World) : (Op.equalIn (d + 1) t (.pointer p) (.pointer p')).run P w = .ok (bi p.isNone p'.isNone false) w := by
  cases p <;> cases p' <;> first | (simp at g; done) | simp [Op.equalIn, run_underlying hu]
theorem eqIn_map {t q q' : TypeId} (hu : P.underlying t = some (.map q q')) (d : Nat) (p p' : Option Nat) (g : (bi p.isNone true p'.isNone) = true) (w : World) : (Op.equalIn (d + 1) t (.map p) (.map p')).run P w = .ok (bi p.isNone p'.isNone false) w := by
  cases p <;> cases p' <;> first | (simp at g; done) | simp [Op.equalIn, run_underlying hu]
theorem eqIn_slice {t q : TypeId} (hu : P.underlying t = some (.slice q)) (d : Nat) (p p' : Option Addr) (n m n' m' : Nat) (g : (bi p.isNone true p'.isNone) = true) (w : World) : (Op.equalIn (d + 1) t (.slice p n m) (.slice p' n' m')).run P w = .ok (bi p.isNone p'.isNone false) w := by
  cases p <;> cases p' <;> first | (simp at g; done) | simp [Op.equalIn, run_underlying hu]
theorem eqIn_func {t : TypeId} {q1 q2 : Array TypeId} {q3 : Bool} (hu : P.underlying t = some (.func q1 q2 q3)) (d : Nat) (w : World) (f : Fn) (l m : Array Value) : (Op.equalIn (d + 1) t .nilFunc .nilFunc).run P w = .ok true w ∧ (Op.equalIn (d + 1) t .nilFunc (.func f l m)).run P w = .ok false w ∧ (Op.equalIn (d + 1) t (.func f l m) .nilFunc).run P w = .ok false w := by
  refine ⟨?_, ?_, ?_⟩ <;> simp [Op.equalIn, run_underlying hu]
theorem eqIn_bool {t : TypeId} (hu : P.underlying t = some .bool) (d : Nat) (w : World) (a b : Bool) : (Op.equalIn (d + 1) t (.bool a) (.bool b)).run P w = .ok (a == b) w := by
  simp [Op.equalIn, run_underlying hu]
/-- A comparison, from what the two are. -/
theorem eq_run {op : BinOp} {t : TypeId} {ne b : Bool} (ox oy : Operand) {u v : Value} (hop : op = .eql ∧ ne = false ∨ op = .neq ∧ ne = true) (w : World) (hg : (eqGuard op t ox oy u v).run P w = .ok () w) (he : (Op.equal t u v).run P w = .ok b w)
    (hb : Go.binOp .eql t u v = (Op.equal t u v >>= fun q => pure (.bool q)) ∧ Go.binOp .neq t u v = (Op.equal t u v >>= fun q => pure (.bool (!q)))) : (eqSem op t ox oy u v).run P w = .ok (.bool (ne != b)) w := by
  rcases hop with ⟨rfl, rfl⟩ | ⟨rfl, rfl⟩
  · simp only [eqSem, Sem.run_bind, hg, Result.andThen_ok, hb.1, he, Sem.run_pure]
    cases b <;> rfl
  · simp only [eqSem, Sem.run_bind, hg, Result.andThen_ok, hb.2, he, Sem.run_pure]
    cases b <;> rfl
theorem s_eqN {op : BinOp} {t : TypeId} {kind : Nat} {ne : Bool} (ox oy : Operand) (hop : op = .eql ∧ ne = false ∨ op = .neq ∧ ne = true)
    (hk : (kind = 0 ∧ ∃ e, P.underlying t = some (.pointer e)) ∨ (kind = 1 ∧ ∃ e, P.underlying t = some (.slice e)) ∨ (kind = 2 ∧ ∃ k e, P.underlying t = some (.map k e)) ∨ (kind = 3 ∧ ∃ a b d, P.underlying t = some (.func a b d)))
    (hx : V c (x fr) vx) (hy : V c (y fr) vy) (e : xEqN kind ne x y fr h = .ok r h') : h' = h ∧ ∃ u, V c r u ∧ ∀ w, (eqSem op t ox oy vx vy).run P w = .ok u w := by
  obtain ⟨⟨k1, b1⟩, e1, e⟩ := obE (show ob _ E.no _ = _ from e)
  obtain ⟨⟨k2, b2⟩, e2, e⟩ := obE e
  obtain ⟨g1, e⟩ := biE e
  obtain ⟨g2, e⟩ := biE e
  obtain ⟨g3, e⟩ := biE e
  obtain ⟨e3, e4⟩ := okE e
  have g1 : k1 = kind := Nat.eq_of_beq_eq_true g1
  have g2 : k2 = kind := Nat.eq_of_beq_eq_true g2
  subst e3 g1 g2
  rw [neB_eq]
  refine ⟨e4.symm, _, .bool _, fun w => ?_⟩
  rcases hk with ⟨rfl, q, hu⟩ | ⟨rfl, q, hu⟩ | ⟨rfl, q1, q2, hu⟩ | ⟨rfl, q1, q2, q3, hu⟩
  · rcases hx.nilK_inv e1 with ⟨_, p, rfl, rfl⟩ | ⟨h0, _⟩ | ⟨h0, _⟩ | ⟨h0, _⟩
    · rcases hy.nilK_inv e2 with ⟨_, p', rfl, rfl⟩ | ⟨h0, _⟩ | ⟨h0, _⟩ | ⟨h0, _⟩
      · exact eq_run ox oy hop w (by rcases hop with ⟨rfl, _⟩ | ⟨rfl, _⟩ <;> rfl) (eqIn_ptr hu 9999 p p' g3 w) ⟨rfl, rfl⟩
      all_goals cases h0
    all_goals cases h0
  · rcases hx.nilK_inv e1 with ⟨h0, _⟩ | ⟨_, h1⟩ | ⟨h0, _⟩ | ⟨h0, _⟩
    · cases h0
    · rcases hy.nilK_inv e2 with ⟨h0, _⟩ | ⟨_, h2⟩ | ⟨h0, _⟩ | ⟨h0, _⟩
      · cases h0
      · have h1' : ∃ p n m, vx = .slice p n m ∧ b1 = p.isNone := by
          rcases h1 with ⟨rfl, rfl⟩ | ⟨p, n, m, rfl, rfl⟩
          · exact ⟨none, 0, 0, rfl, rfl⟩
          · exact ⟨some p, n, m, rfl, rfl⟩
        have h2' : ∃ p n m, vy = .slice p n m ∧ b2 = p.isNone := by
          rcases h2 with ⟨rfl, rfl⟩ | ⟨p, n, m, rfl, rfl⟩
          · exact ⟨none, 0, 0, rfl, rfl⟩
          · exact ⟨some p, n, m, rfl, rfl⟩
        obtain ⟨p, n, m, rfl, rfl⟩ := h1'
        obtain ⟨p', n', m', rfl, rfl⟩ := h2'
        exact eq_run ox oy hop w (by rcases hop with ⟨rfl, _⟩ | ⟨rfl, _⟩ <;> rfl) (eqIn_slice hu 9999 p p' n m n' m' g3 w) ⟨rfl, rfl⟩
      all_goals cases h0
    all_goals cases h0
  · rcases hx.nilK_inv e1 with ⟨h0, _⟩ | ⟨h0, _⟩ | ⟨_, p, rfl, rfl⟩ | ⟨h0, _⟩
    · cases h0
    · cases h0
    · rcases hy.nilK_inv e2 with ⟨h0, _⟩ | ⟨h0, _⟩ | ⟨_, p', rfl, rfl⟩ | ⟨h0, _⟩
      · cases h0
      · cases h0
      · exact eq_run ox oy hop w (by rcases hop with ⟨rfl, _⟩ | ⟨rfl, _⟩ <;> rfl) (eqIn_map hu 9999 p p' g3 w) ⟨rfl, rfl⟩
      · cases h0
    · cases h0
  · rcases hx.nilK_inv e1 with ⟨h0, _⟩ | ⟨h0, _⟩ | ⟨h0, _⟩ | ⟨_, h1⟩
    · cases h0
    · cases h0
    · cases h0
    · rcases hy.nilK_inv e2 with ⟨h0, _⟩ | ⟨h0, _⟩ | ⟨h0, _⟩ | ⟨_, h2⟩
      · cases h0
      · cases h0
      · cases h0
      · rcases h1 with ⟨rfl, rfl⟩ | ⟨f, l, m, rfl, rfl⟩ <;> rcases h2 with ⟨rfl, rfl⟩ | ⟨f', l', m', rfl, rfl⟩
        · exact eq_run ox oy hop w (by rcases hop with ⟨rfl, _⟩ | ⟨rfl, _⟩ <;> rfl) ((eqIn_func hu 9999 w (.func 0) #[] #[]).1) ⟨rfl, rfl⟩
        · exact eq_run ox oy hop w (by rcases hop with ⟨rfl, _⟩ | ⟨rfl, _⟩ <;> rfl) ((eqIn_func hu 9999 w f' l' m').2.1) ⟨rfl, rfl⟩
        · exact eq_run ox oy hop w (by rcases hop with ⟨rfl, _⟩ | ⟨rfl, _⟩ <;> rfl) ((eqIn_func hu 9999 w f l m).2.2) ⟨rfl, rfl⟩
        · cases g3
theorem s_eqB {op : BinOp} {t : TypeId} {ne : Bool} (ox oy : Operand) (hop : op = .eql ∧ ne = false ∨ op = .neq ∧ ne = true) (hu : P.underlying t = some .bool)
    (hx : V c (x fr) vx) (hy : V c (y fr) vy) (e : xEqB ne x y fr h = .ok r h') : h' = h ∧ ∃ u, V c r u ∧ ∀ w, (eqSem op t ox oy vx vy).run P w = .ok u w := by
  obtain ⟨a, e1, e⟩ := bool_ok e
  obtain ⟨b, e2, e⟩ := bool_ok e
  obtain ⟨e3, e4⟩ := okE e
  rw [e1] at hx
  rw [e2] at hy
  rw [hx.bool_inv, hy.bool_inv]
  subst e3
  rw [neB_eq]
  refine ⟨e4.symm, _, .bool _, fun w => ?_⟩
  have hb : bi a b (bi b false true) = (a == b) := by cases a <;> cases b <;> rfl
  rw [hb]
  exact eq_run ox oy hop w (by rcases hop with ⟨rfl, _⟩ | ⟨rfl, _⟩ <;> rfl) (eqIn_bool hu 9999 w a b) ⟨rfl, rfl⟩
/-- A type of keys: what the kit's laws on keys give. -/
structure KeyT (P : Program) (t : TypeId) : Prop where
  keyed : Keyed P t
  eq : ∀ (w : World) {a b : Value} {la lb : Lit}, keyOf P t a = some la → keyOf P t b = some lb → ∃ q : Bool, (Op.equal t a b).run P w = .ok q w ∧ (q = true ↔ la = lb)
  guard : ∀ (w : World) (op : BinOp) (ox oy : Operand) {a b : List Value}, (eqGuard op t ox oy (.agg a.toArray) (.agg b.toArray)).run P w = .ok () w
/-- What the run takes for keys are such. -/
def KeyOK (P : Program) (key : TypeId → AV → Bool) : Prop := ∀ t a, key t a = true → KeyT P t ∧ ∃ v l, conc a = some v ∧ keyOf P t v = some l
theorem concS_V {a : AV} {v u : Value} (h : V c a v) (e : concS a = some u) : v = u := by
  cases h <;> simp only [concS, reduceCtorEq, Option.some.injEq] at e <;> exact e
theorem concL_V : ∀ {cs : List AV} {vs us : List Value}, VL c cs vs → concL cs = some us → vs = us
  | _, _, us, .nil, e => by cases e; rfl
  | _, _, us, .cons (a := a) (al := al) h1 h2, e => by
    simp only [concL] at e
    split at e
    · rename_i v r h3 h4
      cases e
      rw [concS_V h1 h3, concL_V h2 h4]
    · cases e
theorem conc_V {a : AV} {v u : Value} (h : V c a v) (e : conc a = some u) : v = u := by
  cases a with
  | agg cs =>
    obtain ⟨vs, rfl, hv, _⟩ := h.agg_inv
    simp only [conc] at e
    split at e
    · rename_i l hl
      cases e
      rw [concL_V hv hl]
    · cases e
  | _ => exact concS_V h e
theorem eqCell_conc {a b : AV} {u v : Value} {q : Bool} (ha : concS a = some u) (hb : concS b = some v) (e : eqCell a b = some q) : q = true ↔ u = v := by
  cases a <;> simp only [concS, reduceCtorEq, Option.some.injEq] at ha <;> cases b <;> simp only [concS, reduceCtorEq, Option.some.injEq, eqCell] at hb e
  · subst ha hb e
    simp
  · rename_i j m k n
    subst ha hb
    cases hk : eqK j k with
    | false => rw [hk] at e; cases e
    | true =>
      rw [hk] at e
      cases e
      cases eqK_eq hk
      rw [eqI_eq]
      simp
  · subst ha hb e
    rw [eqBytes_eq]
    simp
theorem eqCells_conc : ∀ {as_ bs : List AV} {us vs : List Value} {q : Bool}, concL as_ = some us → concL bs = some vs → eqCells as_ bs = some q → (q = true ↔ us = vs)
  | [], [], us, vs, q, h1, h2, e => by cases h1; cases h2; cases e; simp
  | [], _ :: _, us, vs, q, h1, h2, e => by cases e
  | _ :: _, [], us, vs, q, h1, h2, e => by cases e
  | a :: x, b :: y, us, vs, q, h1, h2, e => by
    simp only [concL] at h1 h2
    split at h1
    · rename_i u1 r1 a1 a2
      split at h2
      · rename_i u2 r2 b1 b2
        cases h1
        cases h2
        simp only [eqCells] at e
        split at e
        · rename_i he
          have h3 := (eqCell_conc a1 b1 he).1 rfl
          rw [eqCells_conc a2 b2 e, h3]
          simp
        · rename_i hne
          cases q with
          | true => exact absurd e hne
          | false =>
            have h3 := eqCell_conc a1 b1 e
            constructor
            · intro h; cases h
            · intro h
              exact h3.2 (List.cons.inj h).1
      · cases h2
    · cases h1
theorem s_eqA {op : BinOp} {t : TypeId} {ne : Bool} {key : TypeId → AV → Bool} (ok : KeyOK P key) (ox oy : Operand) (hop : op = .eql ∧ ne = false ∨ op = .neq ∧ ne = true)
    (hx : V c (x fr) vx) (hy : V c (y fr) vy) (e : xEqA ne (key t) x y fr h = .ok r h') : h' = h ∧ ∃ u, V c r u ∧ ∀ w, (eqSem op t ox oy vx vy).run P w = .ok u w := by
  obtain ⟨g1, e⟩ := biE (show bi _ (bi _ _ _) _ = _ from e)
  obtain ⟨g2, e⟩ := biE e
  obtain ⟨a, e1, e⟩ := agg_ok e
  obtain ⟨b, e2, e⟩ := agg_ok e
  obtain ⟨q, e0, e⟩ := obE e
  obtain ⟨e3, e4⟩ := okE e
  obtain ⟨K, u1, l1, c1, k1⟩ := ok t _ g1
  obtain ⟨_, u2, l2, c2, k2⟩ := ok t _ g2
  have hvx := conc_V hx c1
  have hvy := conc_V hy c2
  subst e3
  rw [neB_eq]
  refine ⟨e4.symm, _, .bool _, fun w => ?_⟩
  rw [hvx, hvy]
  rw [e1] at c1
  rw [e2] at c2
  simp only [conc] at c1 c2
  split at c1
  · rename_i us hus
    split at c2
    · rename_i vs hvs
      cases c1
      cases c2
      have hq := eqCells_conc hus hvs e0
      obtain ⟨p, h1, h2⟩ := K.eq w k1 k2
      have hpq : p = q := by
        rw [Bool.eq_iff_iff, h2, hq]
        constructor
        · intro hl
          subst hl
          have := K.keyed.inj k1 k2
          have h3 : us.toArray = vs.toArray := by injection this
          simpa using h3
        · intro hl
          subst hl
          rw [k1] at k2
          exact Option.some.inj k2
      subst hpq
      rcases hop with ⟨rfl, rfl⟩ | ⟨rfl, rfl⟩ <;> simp [eqSem, K.guard, Go.binOp, h1]
    · cases c2
  · cases c1
theorem s_lenS {t : TypeId} (ty : TypeId) (ts : Array TypeId) (ht : ts[0]? = some t) (hu : P.underlying t = some .string) (hx : V c (x fr) vx) (e : xLenS x fr h = .ok r h') : h' = h ∧ ∃ u, V c r u ∧ ∀ w, (Builtin.len_ ts ty #[vx]).run P w = .ok u w := by
  obtain ⟨s, e1, e⟩ := str_ok e
  obtain ⟨e3, e4⟩ := okE e
  rw [e1] at hx
  rw [hx.str_inv]
  subst e3
  have hs : (ByteArray.mk s.toArray).size = s.length := by simp [ByteArray.size]
  exact ⟨e4.symm, _, .int _ _, fun w => by simp [Builtin.len_, ht, run_underlying hu, hs, goInt]⟩
theorem s_lenL {t q : TypeId} (ty : TypeId) (ts : Array TypeId) (ht : ts[0]? = some t) (hu : P.underlying t = some (.slice q)) (hx : V c (x fr) vx) (e : xLenL x fr h = .ok r h') : h' = h ∧ ∃ u, V c r u ∧ ∀ w, (Builtin.len_ ts ty #[vx]).run P w = .ok u w := by
  rcases slice_ok' e with ⟨e1, e⟩ | ⟨b, o, n, k, s, e1, e⟩
  · obtain ⟨e3, e4⟩ := okE e
    rw [e1] at hx
    cases hx
    subst e3
    exact ⟨e4.symm, _, .int _ _, fun w => by simp [Builtin.len_, ht, run_underlying hu, goInt]⟩
  · obtain ⟨e3, e4⟩ := okE e
    rw [e1] at hx
    obtain ⟨q, o', c', rfl, _⟩ := hx.slice_inv
    subst e3
    exact ⟨e4.symm, _, .int _ _, fun w => by simp [Builtin.len_, ht, run_underlying hu, goInt]⟩
end
end Ev
end Go.Proofs.YtfpghnldcbhniaaGreat
