/- Operations that only reckon, on: texts, comparisons, parts, places. -/
import Derived.Test.YtfpghnldcbhniaaGreatEvD
import Derived.DeepKeys4
namespace Go.Proofs.YtfpghnldcbhniaaGreat
set_option linter.unusedVariables false
set_option linter.unusedSimpArgs false
open Go.RowKit Go.Maps
namespace Ev

section
variable {P : Program} {c : Cx} {fr : Fr} {h h' : H} {x y z : Opd} {vx vy vz : Value} {r : AV}
theorem V.int_inv {k : IntKind} {n : Int} {v : Value} (h : V c (.int k n) v) : v = .int k n := by cases h; rfl
theorem V.bool_inv {b : Bool} {v : Value} (h : V c (.bool b) v) : v = .bool b := by cases h; rfl
theorem V.str_inv {s : List UInt8} {v : Value} (h : V c (.str s) v) : v = .string ⟨s.toArray⟩ := by cases h; rfl
theorem V.ptr_inv {b : Pos} {o : Nat} {v : Value} (h : V c (.ptr b o) v) : ∃ x o', v = .pointer (some ⟨x, o', none⟩) ∧ b.num < c.nx ∧ (c.lv b → c.ι b = some x ∧ o' = o) := by
  cases h with
  | ptr b o x o' h1 h2 => exact ⟨x, o', rfl, h1, h2⟩
theorem V.agg_inv {cs : List AV} {v : Value} (h : V c (.agg cs) v) : ∃ vs : List Value, v = .agg vs.toArray ∧ VL c cs vs ∧ ∀ a ∈ cs, a.one = true := by
  cases h with
  | agg cs vs h h1 => exact ⟨vs, rfl, h, h1⟩
theorem V.tup_inv {cs : List AV} {v : Value} (h : V c (.tuple cs) v) : ∃ vs : List Value, v = .tuple vs.toArray ∧ VL c cs vs := by
  cases h with
  | tuple cs vs h => exact ⟨vs, rfl, h⟩
theorem V.slice_inv {b : Pos} {o n : Nat} {cap : Option Nat} {sz : Nat} {v : Value} (h : V c (.slice b o n cap sz) v) : ∃ x o' c', v = .slice (some ⟨x, o', none⟩) n c' ∧ b.num < c.nx ∧ n ≤ c' ∧ (∀ k, cap = some k → c' = k) ∧
    (c.lv b → c.ι b = some x ∧ (o' = o ∨ c' = 0) ∧ o' + c' * sz ≤ c.bs x) := by
  cases h with
  | slice b o n cap sz x o' c' h1 h2 h3 h4 => exact ⟨x, o', c', rfl, h1, h2, h3, h4⟩
theorem V.map_inv {b : Pos} {v : Value} (h : V c (.map b) v) : ∃ x, v = .map (some x) ∧ b.num < c.nx ∧ (c.lv b → c.ι b = some x) := by
  cases h with
  | map b x h1 h2 => exact ⟨x, rfl, h1, h2⟩

theorem s_str {op : BinOp} {a b : List UInt8} (t : TypeId) (e : binS op a b = some r) : ∃ u, V c r u ∧ ∀ w, (Go.binOp op t (.string ⟨a.toArray⟩) (.string ⟨b.toArray⟩)).run P w = .ok u w := by
  have hl : ∀ l : List UInt8, (ByteArray.mk l.toArray).toList = l := fun l => by
    rw [ByteArray.toList_eq]
  have heq : (a == b) = eqBytes a b := by rw [eqBytes_eq]; exact Bool.eq_iff_iff.2 (by simp)
  cases op <;> simp only [binS, reduceCtorEq, Option.some.injEq] at e
  case add =>
    cases hb : Nat.blt (a.length + b.length) 1000000 with
    | false => rw [hb] at e; cases e
    | true =>
      rw [hb] at e
      cases e
      refine ⟨_, .str _, fun w => ?_⟩
      have h1 : a.length + b.length < 1000000 := by simpa [Nat.blt_eq] using hb
      have h2 : ¬ ((((ByteArray.mk a.toArray).size + (ByteArray.mk b.toArray).size : Nat) : Int) > IntKind.i64.max) := by
        have : (ByteArray.mk a.toArray).size = a.length := by simp [ByteArray.size]
        have : (ByteArray.mk b.toArray).size = b.length := by simp [ByteArray.size]
        simp [IntKind.max, IntKind.signed, IntKind.bits]
        omega
      simp only [Go.binOp, Op.stringOp, Sem.run_ite, if_neg h2, Sem.run_pure]
      congr 2
  case eql => cases e; exact ⟨_, .bool _, fun w => by simp [Go.binOp, Op.stringOp, hl, heq]⟩
  case neq => cases e; exact ⟨_, .bool _, fun w => by simp [Go.binOp, Op.stringOp, hl, heq]⟩
  case lss => cases e; exact ⟨_, .bool _, fun w => by simp [Go.binOp, Op.stringOp, hl, ltBytes_eq]⟩
  case geq => cases e; exact ⟨_, .bool _, fun w => by simp [Go.binOp, Op.stringOp, hl, ltBytes_eq]⟩

theorem s_xint {op : BinOp} {f : IntKind → Int → Int → Option AV} (t : TypeId) (hf : (op = .add ∧ f = bAdd) ∨ f = binI op) (hx : V c (x fr) vx) (hy : V c (y fr) vy) (e : xInt f x y fr h = .ok r h') :
    h' = h ∧ ∃ u, V c r u ∧ ∀ w, (Go.binOp op t vx vy).run P w = .ok u w := by
  obtain ⟨j, a, ex, e⟩ := int_ok e
  obtain ⟨k, b, ey, e⟩ := int_ok e
  obtain ⟨hk, e⟩ := biE e
  obtain ⟨e1, e2⟩ := eoE e
  rw [ex] at hx
  rw [ey] at hy
  cases eqK_eq hk
  rw [hx.int_inv, hy.int_inv]
  refine ⟨e2.symm, s_int t ?_⟩
  rcases hf with ⟨rfl, rfl⟩ | rfl
  · exact .inl ⟨rfl, e1⟩
  · exact .inr e1
theorem rng_cases {v : AV} {d : E} {f : IntKind → Int → Int → E} (e : v.rng? d f = .ok r h') : d = .ok r h' ∨ ∃ k j lo hi, v = .iface 16777217 (.agg [.int k lo, .int j hi]) ∧ f k lo hi = .ok r h' := by
  cases v <;> first | exact .inl e | skip
  rename_i t a
  have e1 : bi (Nat.beq t 16777217) (a.agg? d fun l => List.rec (motive := fun _ => E) d (fun x l _ => List.rec (motive := fun _ => E) d (fun y l _ => List.rec (motive := fun _ => E) (x.int? d fun k lo => y.int? d fun _ hi => f k lo hi) (fun _ _ _ => d) l) l) l) d = .ok r h' := e
  clear e
  cases hb : Nat.beq t 16777217 with
  | false => rw [hb] at e1; exact .inl e1
  | true =>
    rw [hb] at e1
    have := Nat.eq_of_beq_eq_true hb
    subst this
    cases a <;> first | exact .inl e1 | skip
    rename_i l
    cases l with
    | nil => exact .inl e1
    | cons x l =>
      cases l with
      | nil => exact .inl e1
      | cons y l =>
        cases l with
        | cons _ _ => exact .inl e1
        | nil =>
          cases x <;> first | exact .inl e1 | skip
          cases y <;> first | exact .inl e1 | skip
          exact .inr ⟨_, _, _, _, rfl, e1⟩
theorem ltI_iff (a b : Int) : ltI a b = true ↔ a < b := by
  cases a <;> cases b <;> simp [ltI, Nat.blt_eq] <;> omega
theorem rng_inv {k j : IntKind} {lo hi : Int} {v : Value} (h : V c (.iface 16777217 (.agg [.int k lo, .int j hi])) v) : ∃ n, v = .int k n ∧ lo ≤ n ∧ n ≤ hi := by
  have key : ∀ (T : Nat) (a : AV), V c (.iface T a) v → T = 16777217 → a = .agg [.int k lo, .int j hi] → ∃ n, v = .int k n ∧ lo ≤ n ∧ n ≤ hi := fun T a h hT ha => by
    cases h with
    | iface t a v hv hlt => exact absurd hlt (by rw [hT]; decide)
    | nili => cases hT
    | rng k' lo' hi' n h1 h2 =>
      simp only [AV.agg.injEq, List.cons.injEq, AV.int.injEq, and_true] at ha
      obtain ⟨⟨rfl, rfl⟩, _, rfl⟩ := ha
      exact ⟨n, rfl, h1, h2⟩
    | any q v hq hb => exact absurd hT (by omega)
  exact key _ _ h rfl rfl
theorem s_xcmp {op : BinOp} (t : TypeId) (hx : V c (x fr) vx) (hy : V c (y fr) vy) (e : xCmp op x y fr h = .ok r h') :
    xInt (binI op) x y fr h = .ok r h' ∨ (∃ k n, vx = .int k n) ∧ h' = h ∧ ∃ u, V c r u ∧ ∀ w, (Go.binOp op t vx vy).run P w = .ok u w := by
  have e0 : xInt (binI op) x y fr h = .ok r h' ∨ ((x fr).rng? .no fun k lo hi => (y fr).int? .no fun j b => bi (eqK k j) (cmpR op lo hi b h) .no) = E.ok r h' := by
    have e1 : (x fr).int? ((x fr).rng? .no fun k lo hi => (y fr).int? .no fun j b => bi (eqK k j) (cmpR op lo hi b h) .no) (fun j a => (y fr).int? .no fun k b => bi (eqK j k) (eo (binI op j a b) h) .no) = E.ok r h' := e
    cases hxf : x fr with
    | int j a =>
      left
      rw [hxf] at e1
      unfold xInt
      rw [hxf]
      exact e1
    | _ =>
      right
      rw [hxf] at e1
      exact e1
  clear e
  rcases e0 with e | e1
  · exact .inl e
  rcases rng_cases e1 with e2 | ⟨k, j, lo, hi, ex, e1⟩
  · cases e2
  · right
    obtain ⟨l, b, ey, e2⟩ := int_ok e1
    clear e1
    obtain ⟨hk, e3⟩ := biE e2
    clear e2
    rw [ex] at hx
    rw [ey] at hy
    cases eqK_eq hk
    rw [hy.int_inv]
    clear ex
    obtain ⟨n, rfl, h1, h2⟩ := rng_inv hx
    · skip
      refine ⟨⟨k, n, rfl⟩, ?_⟩
      have key : ∀ q : Bool, r = .bool q → h' = h → binI op k n b = some (.bool q) → h' = h ∧ ∃ u, V c r u ∧ ∀ w, (Go.binOp op t (.int k n) (.int k b)).run P w = .ok u w := fun q a1 a2 a3 => by
        subst a1
        exact ⟨a2, s_int t (.inr a3)⟩
      have lt1 : ∀ {u v : Int}, ltI u v = true → u < v := fun h => (ltI_iff _ _).1 h
      have lt0 : ∀ {u v : Int}, ltI u v = false → ¬ u < v := fun h g => by rw [(ltI_iff _ _).2 g] at h; cases h
      have mk1 : ∀ {u v : Int}, u < v → ltI u v = true := fun h => (ltI_iff _ _).2 h
      have mk0 : ∀ {u v : Int}, ¬ u < v → ltI u v = false := fun {u v} h => by
        cases hq : ltI u v with
        | false => rfl
        | true => exact absurd ((ltI_iff _ _).1 hq) h
      cases op <;> first | (cases e3; done) | skip
      case lss =>
        have e : bi (ltI hi b) (.ok (.bool true) h) (bi (ltI lo b) .no (.ok (.bool false) h)) = E.ok r h' := e3
        clear e3
        cases q1 : ltI hi b with
        | true => rw [q1] at e; obtain ⟨e1, e2⟩ := okE e; exact key true e1.symm e2.symm (by simp only [binI, bLss]; rw [mk1 (by have := lt1 q1; omega)])
        | false =>
          rw [q1] at e
          cases q2 : ltI lo b with
          | true => rw [q2] at e; cases e
          | false => rw [q2] at e; obtain ⟨e1, e2⟩ := okE e; exact key false e1.symm e2.symm (by simp only [binI, bLss]; rw [mk0 (by have := lt0 q2; omega)])
      case geq =>
        have e : bi (ltI hi b) (.ok (.bool false) h) (bi (ltI lo b) .no (.ok (.bool true) h)) = E.ok r h' := e3
        clear e3
        cases q1 : ltI hi b with
        | true => rw [q1] at e; obtain ⟨e1, e2⟩ := okE e; exact key false e1.symm e2.symm (by simp only [binI, bGeq]; rw [mk1 (by have := lt1 q1; omega)]; rfl)
        | false =>
          rw [q1] at e
          cases q2 : ltI lo b with
          | true => rw [q2] at e; cases e
          | false => rw [q2] at e; obtain ⟨e1, e2⟩ := okE e; exact key true e1.symm e2.symm (by simp only [binI, bGeq]; rw [mk0 (by have := lt0 q2; omega)]; rfl)
      case gtr =>
        have e : bi (ltI b lo) (.ok (.bool true) h) (bi (ltI b hi) .no (.ok (.bool false) h)) = E.ok r h' := e3
        clear e3
        cases q1 : ltI b lo with
        | true => rw [q1] at e; obtain ⟨e1, e2⟩ := okE e; exact key true e1.symm e2.symm (by simp only [binI, bGtr]; rw [mk1 (by have := lt1 q1; omega)])
        | false =>
          rw [q1] at e
          cases q2 : ltI b hi with
          | true => rw [q2] at e; cases e
          | false => rw [q2] at e; obtain ⟨e1, e2⟩ := okE e; exact key false e1.symm e2.symm (by simp only [binI, bGtr]; rw [mk0 (by have := lt0 q2; omega)])
      case leq =>
        have e : bi (ltI b lo) (.ok (.bool false) h) (bi (ltI b hi) .no (.ok (.bool true) h)) = E.ok r h' := e3
        clear e3
        cases q1 : ltI b lo with
        | true => rw [q1] at e; obtain ⟨e1, e2⟩ := okE e; exact key false e1.symm e2.symm (by simp only [binI, bLeq]; rw [mk1 (by have := lt1 q1; omega)]; rfl)
        | false =>
          rw [q1] at e
          cases q2 : ltI b hi with
          | true => rw [q2] at e; cases e
          | false => rw [q2] at e; obtain ⟨e1, e2⟩ := okE e; exact key true e1.symm e2.symm (by simp only [binI, bLeq]; rw [mk0 (by have := lt0 q2; omega)]; rfl)
theorem s_xstr {op : BinOp} (t : TypeId) (hx : V c (x fr) vx) (hy : V c (y fr) vy) (e : xStr op x y fr h = .ok r h') :
    h' = h ∧ ∃ u, V c r u ∧ ∀ w, (Go.binOp op t vx vy).run P w = .ok u w := by
  obtain ⟨a, ex, e⟩ := str_ok e
  obtain ⟨b, ey, e⟩ := str_ok e
  obtain ⟨e1, e2⟩ := eoE e
  rw [ex] at hx
  rw [ey] at hy
  rw [hx.str_inv, hy.str_inv]
  exact ⟨e2.symm, s_str t e1⟩
theorem s_xshf {op : BinOp} (t : TypeId) (hx : V c (x fr) vx) (hy : V c (y fr) vy) (e : xShf op x y fr h = .ok r h') :
    h' = h ∧ ∃ u, V c r u ∧ ∀ w, (Go.binOp op t vx vy).run P w = .ok u w := by
  obtain ⟨k, a, ex, e⟩ := int_ok e
  obtain ⟨j, b, ey, e⟩ := int_ok e
  obtain ⟨e1, e2⟩ := eoE e
  rw [ex] at hx
  rw [ey] at hy
  rw [hx.int_inv, hy.int_inv]
  exact ⟨e2.symm, s_shf t e1⟩
theorem s_not (hx : V c (x fr) vx) (e : xNot x fr h = .ok r h') : h' = h ∧ ∃ u, V c r u ∧ ∀ w, (Op.unary .not vx).run P w = .ok u w := by
  obtain ⟨b, ex, e⟩ := bool_ok e
  obtain ⟨rfl, rfl⟩ := okE e
  rw [ex] at hx
  rw [hx.bool_inv]
  exact ⟨rfl, _, .bool _, fun w => by cases b <;> rfl⟩
theorem s_neg (hx : V c (x fr) vx) (e : xNeg x fr h = .ok r h') : h' = h ∧ ∃ u, V c r u ∧ ∀ w, (Op.unary .neg vx).run P w = .ok u w := by
  obtain ⟨k, n, ex, e⟩ := int_ok e
  obtain ⟨rfl, rfl⟩ := okE e
  rw [ex] at hx
  rw [hx.int_inv]
  exact ⟨rfl, _, .int _ _, fun w => by simp [Op.unary, Op.intArith, wrp_eq]⟩
theorem s_compl (hx : V c (x fr) vx) (e : xCompl x fr h = .ok r h') : h' = h ∧ ∃ u, V c r u ∧ ∀ w, (Op.unary .xor vx).run P w = .ok u w := by
  obtain ⟨k, n, ex, e⟩ := int_ok e
  obtain ⟨rfl, rfl⟩ := okE e
  rw [ex] at hx
  rw [hx.int_inv]
  refine ⟨rfl, _, .int _ _, fun w => ?_⟩
  have h1 : digs k (if k.signed = true then -1 else k.max) = lim k - 1 := by cases k <;> rfl
  simp only [Op.unary, Op.intBits, Sem.run_pure, BitVec.toNat_xor, digs_bits, h1, wrp_eq]
  rfl
theorem s_conv {k : IntKind} {s d : TypeId} (hs : ∃ j, P.underlying s = some (.int j)) (hd : P.underlying d = some (.int k)) (hx : V c (x fr) vx) (e : xConv k x fr h = .ok r h') :
    h' = h ∧ ∃ u, V c r u ∧ ∀ w, (Go.convert s d vx).run P w = .ok u w := by
  obtain ⟨j, n, ex, e⟩ := int_ok e
  obtain ⟨rfl, rfl⟩ := okE e
  rw [ex] at hx
  rw [hx.int_inv]
  obtain ⟨q, hs⟩ := hs
  exact ⟨rfl, _, .int _ _, fun w => by simp [Go.convert, run_underlying hs, run_underlying hd, Conv.intToInt, wrp_eq]⟩
theorem s_nil (hx : V c (x fr) vx) (e : xNil x fr h = .ok r h') : h' = h ∧ V c r vx ∧ ∃ a, vx = .pointer (some a) := by
  obtain ⟨b, o, ex, e⟩ := ptr_ok e
  obtain ⟨rfl, rfl⟩ := okE e
  rw [ex] at hx
  obtain ⟨x, o', rfl, _⟩ := hx.ptr_inv
  exact ⟨rfl, hx, _, rfl⟩
theorem s_pick (hx : V c (x fr) vx) (hy : V c (y fr) vy) (hz : V c (z fr) vz) (e : xPick x y z fr h = .ok r h') : h' = h ∧ ∃ b, vx = .bool b ∧ V c r (if b then vy else vz) := by
  obtain ⟨b, ex, e⟩ := bool_ok e
  obtain ⟨rfl, rfl⟩ := okE e
  rw [ex] at hx
  refine ⟨rfl, b, hx.bool_inv, ?_⟩
  cases b
  · exact hz
  · exact hy
theorem s_faddr {off s i : Nat} {fs : Array Field} {f : Field} {n : Nat} (hu : P.underlying s = some (.struct fs)) (hf : fs[i]? = some f) (hn : (P.info? f.type).map (·.size) = some n) (h0 : n ≠ 0) (ho : off = f.offset)
    (hx : V c (x fr) vx) (e : xFaddr off x fr h = .ok r h') : h' = h ∧ ∃ u, V c r u ∧ ∀ w, (Instr.fieldAt s vx i).run P w = .ok u w := by
  obtain ⟨b, o, ex, e⟩ := ptr_ok e
  obtain ⟨rfl, rfl⟩ := okE e
  rw [ex] at hx
  obtain ⟨q, o', rfl, h1, h2⟩ := hx.ptr_inv
  obtain ⟨inf, hi, rfl⟩ := Option.map_eq_some_iff.1 hn
  refine ⟨rfl, .pointer (some ⟨q, o' + f.offset, none⟩), .ptr b _ q _ h1 fun hl => ⟨(h2 hl).1, by rw [(h2 hl).2, ho]⟩, fun w => ?_⟩
  simp [Instr.fieldAt, run_underlying hu, hf, Instr.sureAddr, fieldPlace, sizeOf, typeInfo, hi, h0, Addr.add_lit]

theorem lget_eq : ∀ (l : List AV) (n : Nat), lget l n = l[n]?
  | [], _ => rfl
  | _ :: _, 0 => rfl
  | _ :: l, n + 1 => lget_eq l n
theorem llen_eq : ∀ l : List AV, llen l = l.length
  | [] => rfl
  | _ :: l => congrArg Nat.succ (llen_eq l)
theorem lapp_eq : ∀ x y : List AV, lapp x y = x ++ y
  | [], _ => rfl
  | a :: x, y => congrArg (a :: ·) (lapp_eq x y)
theorem ltake_some : ∀ {l : List AV} {n : Nat} {r : List AV}, ltake l n = some r → n ≤ l.length ∧ r = l.take n
  | l, 0, r, h => by
    have : some [] = some r := by cases l <;> exact h
    cases this
    simp
  | [], n + 1, r, h => by cases h
  | a :: l, n + 1, r, h => by
    obtain ⟨r', h1, h2⟩ := ob_some (y := some r) (by simp) (show ob (ltake l n) none (fun r => some (a :: r)) = some r from h)
    cases h2
    obtain ⟨h3, rfl⟩ := ltake_some h1
    exact ⟨by simpa using h3, rfl⟩
theorem lrange_some : ∀ {o n : Nat} {l r : List AV}, lrange l n o = some r → o + n ≤ l.length ∧ r = (l.drop o).take n
  | 0, n, l, r, h => by
    obtain ⟨h1, rfl⟩ := ltake_some (show ltake l n = some r from h)
    exact ⟨by omega, rfl⟩
  | o + 1, n, [], r, h => by cases h
  | o + 1, n, a :: l, r, h => by
    obtain ⟨h1, rfl⟩ := lrange_some (show lrange l n o = some r from h)
    exact ⟨by simp only [List.length_cons]; omega, rfl⟩
theorem lover_some : ∀ {x l r : List AV}, lover x l = some r → x.length ≤ l.length ∧ r = x ++ l.drop x.length
  | [], l, r, h => by cases h; simp
  | a :: x, [], r, h => by cases h
  | a :: x, b :: l, r, h => by
    obtain ⟨r', h1, h2⟩ := ob_some (y := some r) (by simp) (show ob (lover x l) none (fun r => some (a :: r)) = some r from h)
    cases h2
    obtain ⟨h3, rfl⟩ := lover_some h1
    exact ⟨by simpa using h3, rfl⟩
theorem lput_some : ∀ {o : Nat} {x l r : List AV}, lput x o l = some r → o + x.length ≤ l.length ∧ r = l.take o ++ x ++ l.drop (o + x.length)
  | 0, x, l, r, h => by
    obtain ⟨h1, rfl⟩ := lover_some (show lover x l = some r from h)
    exact ⟨by omega, by simp⟩
  | o + 1, x, [], r, h => by cases h
  | o + 1, x, a :: l, r, h => by
    obtain ⟨r', h1, h2⟩ := ob_some (y := some r) (by simp) (show ob (lput x o l) none (fun r => some (a :: r)) = some r from h)
    cases h2
    obtain ⟨h3, rfl⟩ := lput_some h1
    refine ⟨by simp only [List.length_cons]; omega, ?_⟩
    rw [show o + 1 + x.length = (o + x.length) + 1 by omega]
    rfl

/-- What is known of a type's width. -/
def Wide (P : Program) (t : TypeId) (m : Option Nat) : Prop :=
  (m = none ∧ (∀ w, (isAgg t).run P w = .ok false w)) ∨ ∃ n, m = some n ∧ (∀ w, (isAgg t).run P w = .ok true w) ∧ ∀ w, (sizeOf t).run P w = .ok n w
theorem s_part {t : TypeId} {m : Option Nat} {cs : List AV} {vs : List Value} {off : Nat} (hw : Wide P t m) (hv : VL c cs vs) (h1a : ∀ a ∈ cs, a.one = true) (e : partE cs off m h = .ok r h') :
    h' = h ∧ ∃ u, V c r u ∧ ∀ w, (part t vs.toArray off).run P w = .ok u w := by
  rcases hw with ⟨rfl, ha⟩ | ⟨n, rfl, ha, hs⟩
  · obtain ⟨e1, e2⟩ := eoE (show eo (lget cs off) h = .ok r h' from e)
    rw [lget_eq] at e1
    obtain ⟨u, h1, h2⟩ := hv.get off e1
    exact ⟨e2.symm, u, h2, fun w => by simp [part, ha, h1]⟩
  · obtain ⟨v, e1, e2⟩ := obE (show ob (lrange cs n off) E.no (fun v => .ok (.agg v) h) = .ok r h' from e)
    obtain ⟨e3, e4⟩ := okE e2
    obtain ⟨h1, rfl⟩ := lrange_some e1
    subst e3
    refine ⟨e4.symm, .agg (((vs.drop off).take n)).toArray, .agg _ _ ((hv.drop off).take n) (fun a ha => h1a a (List.mem_of_mem_drop (List.mem_of_mem_take ha))), fun w => ?_⟩
    simp only [part, Sem.run_bind, ha, hs, Result.andThen_ok, if_true, Sem.run_pure]
    congr 2
    apply Array.ext'
    simp [List.take_drop]
theorem s_fld {s i off : Nat} {m : Option Nat} {fs : Array Field} {f : Field} (hu : P.underlying s = some (.struct fs)) (hf : fs[i]? = some f) (hw : Wide P f.type m) (ho : off = f.offset)
    (hx : V c (x fr) vx) (e : xFld off m x fr h = .ok r h') : h' = h ∧ ∃ u, V c r u ∧ ∀ w, (Instr.field s vx i).run P w = .ok u w := by
  obtain ⟨cs, ex, e⟩ := agg_ok e
  rw [ex] at hx
  obtain ⟨vs, rfl, hv, h1a⟩ := hx.agg_inv
  subst ho
  obtain ⟨h1, u, h2, h3⟩ := s_part hw hv h1a e
  exact ⟨h1, u, h2, fun w => by simp [Instr.field, run_underlying hu, hf, asAgg, h3]⟩
theorem s_ext {i : Nat} (hx : V c (x fr) vx) (e : xExt x i fr h = .ok r h') : h' = h ∧ ∃ u, V c r u ∧ ∀ w, (Instr.extract vx i).run P w = .ok u w := by
  obtain ⟨cs, ex, e⟩ := tup_ok e
  obtain ⟨e1, e2⟩ := eoE e
  rw [ex] at hx
  obtain ⟨vs, rfl, hv⟩ := hx.tup_inv
  rw [lget_eq] at e1
  obtain ⟨u, h1, h2⟩ := hv.get i e1
  exact ⟨e2.symm, u, h2, fun w => by simp [Instr.extract, h1]⟩
theorem nat_val {k : IntKind} {n : Nat} {v : Value} (h : V c (.int k (.ofNat n)) v) : v = .int k (n : Int) := h.int_inv
theorem s_iaddr {t e : TypeId} {sz : Nat} {i : Opd} {vi : Value} (hu : P.underlying t = some (.slice e)) (hs : ∀ w, (sizeOf e).run P w = .ok sz w) (hx : V c (x fr) vx) (hi : V c (i fr) vi)
    (he : xIaddr sz x i fr h = .ok r h') : h' = h ∧ ∃ u, V c r u ∧ ∀ w, (Instr.indexAt t vx vi).run P w = .ok u w := by
  rcases slice_ok' he with ⟨_, he⟩ | ⟨b, o, n, k, s, ex, he⟩
  · cases he
  obtain ⟨hsz, he⟩ := biE he
  have hsz := Nat.eq_of_beq_eq_true hsz
  subst hsz
  obtain ⟨q, j, ei, he⟩ := nat_ok he
  obtain ⟨hlt, he⟩ := biE he
  obtain ⟨e1, e2⟩ := okE he
  rw [ex] at hx
  rw [ei] at hi
  obtain ⟨y, o', c', rfl, h1, h2, h3, h4⟩ := hx.slice_inv
  rw [nat_val hi]
  subst e1
  rw [blt_eq] at hlt
  have hlt' : j < n := of_decide_eq_true hlt
  refine ⟨e2.symm, .pointer (some ⟨y, o' + j * s, none⟩), .ptr b _ y _ h1 fun hl => ?_, fun w => ?_⟩
  · obtain ⟨h5, h6, h7⟩ := h4 hl
    refine ⟨h5, ?_⟩
    rcases h6 with h6 | h6
    · rw [h6]
    · omega
  · have h5 : ¬ n ≤ j := by omega
    simp [Instr.indexAt, asIntOf, run_underlying hu, h5, hs, Addr.add_lit, hlt']
theorem s_iaddrA {t e : TypeId} {n sz : Nat} {i : Opd} {vi : Value} (hu : P.underlying t = some (.array n e)) (hs : ∀ w, (sizeOf e).run P w = .ok sz w) (hx : V c (x fr) vx) (hi : V c (i fr) vi)
    (he : xIaddrA n sz x i fr h = .ok r h') : h' = h ∧ ∃ u, V c r u ∧ ∀ w, (Instr.indexAt t vx vi).run P w = .ok u w := by
  obtain ⟨b, o, ex, he⟩ := ptr_ok he
  obtain ⟨q, j, ei, he⟩ := nat_ok he
  obtain ⟨hlt, he⟩ := biE he
  obtain ⟨e1, e2⟩ := okE he
  rw [ex] at hx
  rw [ei] at hi
  obtain ⟨y, o', rfl, h1, h2⟩ := hx.ptr_inv
  rw [nat_val hi]
  subst e1
  rw [blt_eq] at hlt
  have hlt' : j < n := of_decide_eq_true hlt
  refine ⟨e2.symm, .pointer (some ⟨y, o' + j * sz, none⟩), .ptr b _ y _ h1 fun hl => ⟨(h2 hl).1, by rw [(h2 hl).2]⟩, fun w => ?_⟩
  simp [Instr.indexAt, asIntOf, run_underlying hu, hs, Addr.add_lit, Instr.sureAddr, hlt']
theorem s_idxS {t : TypeId} {i : Opd} {vi : Value} (hu : P.underlying t = some .string) (hx : V c (x fr) vx) (hi : V c (i fr) vi) (he : xIdxS x i fr h = .ok r h') :
    h' = h ∧ ∃ u, V c r u ∧ ∀ w, (Instr.index t vx vi).run P w = .ok u w := by
  obtain ⟨s, ex, he⟩ := str_ok he
  obtain ⟨q, j, ei, he⟩ := nat_ok he
  obtain ⟨b, hb, he⟩ := obE he
  obtain ⟨e1, e2⟩ := okE he
  rw [ex] at hx
  rw [ei] at hi
  rw [hx.str_inv, nat_val hi]
  subst e1
  refine ⟨e2.symm, _, .int _ _, fun w => ?_⟩
  have h1 : (ByteArray.mk s.toArray)[j]? = some b := by
    have hj : j < s.length := (List.getElem?_eq_some_iff.1 hb).1
    rw [getElem?_pos (ByteArray.mk s.toArray) j (show j < s.toArray.size by simpa using hj)]
    rw [List.getElem?_eq_getElem hj] at hb
    exact hb
  simp [Instr.index, asIntOf, run_underlying hu, h1]
theorem s_idxA {t e : TypeId} {n sz : Nat} {m : Option Nat} {i : Opd} {vi : Value} (hu : P.underlying t = some (.array n e)) (hs : ∀ w, (sizeOf e).run P w = .ok sz w) (hw : Wide P e m) (hx : V c (x fr) vx) (hi : V c (i fr) vi)
    (he : xIdxA n sz m x i fr h = .ok r h') : h' = h ∧ ∃ u, V c r u ∧ ∀ w, (Instr.index t vx vi).run P w = .ok u w := by
  obtain ⟨cs, ex, he⟩ := agg_ok he
  obtain ⟨q, j, ei, he⟩ := nat_ok he
  obtain ⟨hlt, he⟩ := biE he
  rw [ex] at hx
  rw [ei] at hi
  obtain ⟨vs, rfl, hv, h1a⟩ := hx.agg_inv
  rw [nat_val hi]
  rw [blt_eq] at hlt
  have hlt' : j < n := of_decide_eq_true hlt
  obtain ⟨h1, u, h2, h3⟩ := s_part hw hv h1a he
  exact ⟨h1, u, h2, fun w => by simp [Instr.index, asIntOf, run_underlying hu, hs, h3, hlt']⟩
theorem s_s2a {t e : TypeId} {n : Nat} (hu : P.underlying t = some (.array n e)) (hx : V c (x fr) vx) (he : xS2a n x fr h = .ok r h') : h' = h ∧ ∃ u, V c r u ∧ ∀ w, (Instr.arrayAt t vx).run P w = .ok u w := by
  rcases slice_ok' he with ⟨_, he⟩ | ⟨b, o, l, k, s, ex, he⟩
  · cases he
  obtain ⟨h1, he⟩ := biE he
  obtain ⟨h2, he⟩ := biE he
  obtain ⟨e1, e2⟩ := okE he
  rw [ex] at hx
  obtain ⟨y, o', c', rfl, g1, g2, g3, g4⟩ := hx.slice_inv
  subst e1
  have h3 : n ≤ l := Nat.le_of_ble_eq_true h1
  have h4 : 0 < n := by rw [blt_eq] at h2; exact of_decide_eq_true h2
  refine ⟨e2.symm, .pointer (some ⟨y, o', none⟩), .ptr b o y o' g1 fun hl => ?_, fun w => ?_⟩
  · obtain ⟨h5, h6, h7⟩ := g4 hl
    exact ⟨h5, h6.resolve_right (by omega)⟩
  · have : ¬ l < n := by omega
    simp [Instr.arrayAt, run_underlying hu, this]
theorem s_mki {t : TypeId} (hu : ∀ w, ∃ d, (underlying t).run P w = .ok d w ∧ ∀ ms, d ≠ .interface ms) (hx : V c (x fr) vx) (he : xMki t x fr h = .ok r h') : h' = h ∧ ∃ u, V c r u ∧ ∀ w, (Instr.makeInterface t vx).run P w = .ok u w := by
  obtain ⟨hlt, he⟩ := biE he
  obtain ⟨e1, e2⟩ := okE he
  subst e1
  rw [blt_eq] at hlt
  refine ⟨e2.symm, _, .iface t _ _ hx (of_decide_eq_true hlt), fun w => ?_⟩
  obtain ⟨d, hd, hn⟩ := hu w
  simp only [Instr.makeInterface, Sem.run_bind, hd, Result.andThen_ok]
  cases d <;> first | rfl | exact absurd rfl (hn _)
theorem s_tas {t s : TypeId} (hu : ∀ w, ∃ d, (underlying t).run P w = .ok d w ∧ ∀ ms, d ≠ .interface ms) (hx : V c (x fr) vx) (he : xTas t x fr h = .ok r h') : h' = h ∧ ∃ u, V c r u ∧ ∀ w, (Instr.typeAssert vx s t false).run P w = .ok u w := by
  obtain ⟨q, a, ex, he⟩ := iface_ok he
  obtain ⟨hb, he⟩ := biE he
  obtain ⟨hlt, he⟩ := biE he
  obtain ⟨e1, e2⟩ := okE he
  rw [ex] at hx
  subst e1
  have hq : t = q := Nat.eq_of_beq_eq_true hb
  subst hq
  cases hx with
  | nili => cases hlt
  | rng => cases hlt
  | any j v h1 h2 =>
    rw [blt_eq] at hlt
    have := of_decide_eq_true hlt
    omega
  | iface t a v hv =>
    refine ⟨e2.symm, v, hv, fun w => ?_⟩
    obtain ⟨d, hd, hn⟩ := hu w
    simp only [Instr.typeAssert, Sem.run_bind, hd, Result.andThen_ok]
    cases d <;> first | exact absurd rfl (hn _) | simp
theorem s_min (ty : TypeId) (ts : Array TypeId) (hx : V c (x fr) vx) (hy : V c (y fr) vy) (he : xMin x y fr h = .ok r h') : h' = h ∧ ∃ u, V c r u ∧ ∀ w, (Builtin.min_ ts ty #[vx, vy]).run P w = .ok u w := by
  obtain ⟨j, a, ex, he⟩ := int_ok he
  obtain ⟨k, b, ey, he⟩ := int_ok he
  obtain ⟨e1, e2⟩ := okE he
  rw [ex] at hx
  rw [ey] at hy
  rw [hx.int_inv, hy.int_inv]
  subst e1
  refine ⟨e2.symm, _, .int _ _, fun w => ?_⟩
  rw [ltI_eq]
  by_cases hb : b < a <;> simp [Builtin.min_, Builtin.min2, hb]
theorem s_max (ty : TypeId) (ts : Array TypeId) (hx : V c (x fr) vx) (hy : V c (y fr) vy) (he : xMax x y fr h = .ok r h') : h' = h ∧ ∃ u, V c r u ∧ ∀ w, (Builtin.max_ ts ty #[vx, vy]).run P w = .ok u w := by
  obtain ⟨j, a, ex, he⟩ := int_ok he
  obtain ⟨k, b, ey, he⟩ := int_ok he
  obtain ⟨e1, e2⟩ := okE he
  rw [ex] at hx
  rw [ey] at hy
  rw [hx.int_inv, hy.int_inv]
  subst e1
  refine ⟨e2.symm, _, .int _ _, fun w => ?_⟩
  rw [ltI_eq]
  by_cases hb : a < b <;> simp [Builtin.max_, Builtin.max2, hb]
/-- Operands and their values. -/
inductive OL (c : Cx) (fr : Fr) : List Opd → List Value → Prop
  | nil : OL c fr [] []
  | cons {x : Opd} {v : Value} {xs : List Opd} {vs : List Value} : V c (x fr) v → OL c fr xs vs → OL c fr (x :: xs) (v :: vs)
theorem OL.append {xs ys : List Opd} {vs us : List Value} (hx : OL c fr xs vs) (hy : OL c fr ys us) : OL c fr (xs ++ ys) (vs ++ us) := by
  induction hx with
  | nil => exact hy
  | cons h1 h2 ih => exact .cons h1 ih
theorem OL.length {xs : List Opd} {vs : List Value} (hx : OL c fr xs vs) : vs.length = xs.length := by
  induction hx with
  | nil => rfl
  | cons h1 h2 ih => simp [ih]
theorem OL.evs {xs : List Opd} {vs : List Value} (hx : OL c fr xs vs) : VL c (evs xs fr) vs := by
  induction hx with
  | nil => exact .nil
  | cons h1 h2 ih => exact .cons h1 ih
theorem evs_append (xs ys : List Opd) : evs (xs ++ ys) fr = evs xs fr ++ evs ys fr := by
  induction xs with
  | nil => rfl
  | cons x xs ih => exact congrArg (x fr :: ·) ih
theorem s_clos {f : FuncId} {xs ys : List Opd} {vs us : List Value} (hx : OL c fr xs vs) (hy : OL c fr ys us) (he : xClos f xs ys fr h = .ok r h') :
    h' = h ∧ V c r (.func (.func f) vs.toArray us.toArray) := by
  obtain ⟨e1, e2⟩ := okE he
  subst e1
  have h1 : VL c (evs (xs ++ ys) fr) (vs ++ us) := (hx.append hy).evs
  have h3 := hx.length
  have h2 := V.func f xs.length _ _ h1 (by rw [← h1.length]; simp [h3])
  refine ⟨e2.symm, ?_⟩
  rw [← h3] at h2 ⊢
  simpa using h2
end
end Ev
end Go.Proofs.YtfpghnldcbhniaaGreat
