/- Operations that only reckon: what the run says is what the model's operation gives, in whatever world. -/
import Derived.Test.YtfpghnldcbhniaaGreatEvC
import Derived.Laws.Sem
import Derived.Deep.MidRow
namespace Go.Proofs.YtfpghnldcbhniaaGreat
set_option linter.unusedVariables false
set_option linter.unusedSimpArgs false
open Go.RowKit Go.Maps
namespace Ev

section
variable {v : AV} {r : AV} {h h' : H}
theorem int_ok {f : IntKind → Int → E} (e : v.int? E.no f = .ok r h) : ∃ k n, v = .int k n ∧ f k n = .ok r h := by cases v <;> first | cases e | exact ⟨_, _, rfl, e⟩
theorem bool_ok {f : Bool → E} (e : v.bool? E.no f = .ok r h) : ∃ b, v = .bool b ∧ f b = .ok r h := by cases v <;> first | cases e | exact ⟨_, rfl, e⟩
theorem ptr_ok {f : Pos → Nat → E} (e : v.ptr? E.no f = .ok r h) : ∃ b o, v = .ptr b o ∧ f b o = .ok r h := by cases v <;> first | cases e | exact ⟨_, _, rfl, e⟩
theorem agg_ok {f : List AV → E} (e : v.agg? E.no f = .ok r h) : ∃ cs, v = .agg cs ∧ f cs = .ok r h := by cases v <;> first | cases e | exact ⟨_, rfl, e⟩
theorem tup_ok {f : List AV → E} (e : v.tup? E.no f = .ok r h) : ∃ cs, v = .tuple cs ∧ f cs = .ok r h := by cases v <;> first | cases e | exact ⟨_, rfl, e⟩
theorem str_ok {f : List UInt8 → E} (e : v.str? E.no f = .ok r h) : ∃ s, v = .str s ∧ f s = .ok r h := by cases v <;> first | cases e | exact ⟨_, rfl, e⟩
theorem iface_ok {f : TypeId → AV → E} (e : v.iface? E.no f = .ok r h) : ∃ t a, v = .iface t a ∧ f t a = .ok r h := by cases v <;> first | cases e | exact ⟨_, _, rfl, e⟩
theorem nat_ok {f : Nat → E} (e : v.nat? E.no f = .ok r h) : ∃ k n, v = .int k (.ofNat n) ∧ f n = .ok r h := by
  obtain ⟨k, n, rfl, e⟩ := int_ok e
  cases n with
  | ofNat n => exact ⟨k, n, rfl, e⟩
  | negSucc n => cases e
theorem slice_ok {d n : E} {f : Pos → Nat → Nat → Option Nat → Nat → E} (e : v.slice? d n f = .ok r h) : (v = .nils ∧ n = .ok r h) ∨ (∃ b o l c s, v = .slice b o l c s ∧ f b o l c s = .ok r h) ∨ d = .ok r h := by
  cases v <;> first | exact .inr (.inr e) | exact .inl ⟨rfl, e⟩ | exact .inr (.inl ⟨_, _, _, _, _, rfl, e⟩)
theorem slice_ok' {n : E} {f : Pos → Nat → Nat → Option Nat → Nat → E} (e : v.slice? E.no n f = .ok r h) : (v = .nils ∧ n = .ok r h) ∨ ∃ b o l c s, v = .slice b o l c s ∧ f b o l c s = .ok r h := by
  cases v <;> first | exact .inl ⟨rfl, e⟩ | exact .inr ⟨_, _, _, _, _, rfl, e⟩ | cases e
theorem map_ok {n : E} {f : Pos → E} (e : v.map? E.no n f = .ok r h) : (v = .nilm ∧ n = .ok r h) ∨ ∃ b, v = .map b ∧ f b = .ok r h := by
  cases v <;> first | exact .inl ⟨rfl, e⟩ | exact .inr ⟨_, rfl, e⟩ | cases e
theorem cells_ok {f : List AV → E} (e : v.cells? E.no f = .ok r h) : (∃ cs, v = .agg cs ∧ f cs = .ok r h) ∨ (v.one = true ∧ f [v] = .ok r h) := by
  cases v <;> first | cases e | exact .inl ⟨_, rfl, e⟩ | exact .inr ⟨rfl, e⟩
theorem obE {α : Type} {x : Option α} {f : α → E} (e : ob x E.no f = .ok r h) : ∃ a, x = some a ∧ f a = .ok r h := ob_some (by simp) e
theorem biE {b : Bool} {x : E} (e : bi b x E.no = .ok r h) : b = true ∧ x = .ok r h := bi_some (by simp) e
theorem okE {a b : AV} {h h' : H} (e : E.ok a h = .ok b h') : a = b ∧ h = h' := by cases e; exact ⟨rfl, rfl⟩
theorem eoE {x : Option AV} {h h' : H} (e : eo x h = .ok r h') : x = some r ∧ h = h' := by
  obtain ⟨a, rfl, e⟩ := obE e
  cases e
  exact ⟨rfl, rfl⟩
end

/-! ### Numbers -/
theorem lim_eq (k : IntKind) : (lim k : Int) = 2 ^ k.bits := by cases k <;> rfl
theorem lim_pos (k : IntKind) : 0 < lim k := by cases k <;> decide
theorem lim_nat (k : IntKind) : lim k = 2 ^ k.bits := by cases k <;> rfl
theorem bitsN_eq (k : IntKind) : bitsN k = k.bits := by cases k <;> rfl
theorem digs_eq (k : IntKind) (n : Int) : (digs k n : Int) = n % (lim k : Int) := by
  cases n with
  | ofNat m => simp [digs]
  | negSucc m =>
    have h := lim_pos k
    have h2 := Nat.mod_lt m h
    simp only [digs]
    rw [Int.negSucc_emod _ (by omega)]
    omega
theorem digs_lt (k : IntKind) (n : Int) : digs k n < lim k := by
  have h := lim_pos k
  cases n with
  | ofNat m => exact Nat.mod_lt m h
  | negSucc m => simp only [digs]; omega
theorem wrp_eq (k : IntKind) (n : Int) : wrp k n = k.wrap n := by
  have hd := digs_eq k n
  have hl := digs_lt k n
  unfold wrp IntKind.wrap
  rw [← lim_eq k, ← hd]
  generalize digs k n = r at *
  have key : ∀ a b : Nat, a ≤ b → r < b → (bif Nat.blt r a then (Int.ofNat r) else Int.negSucc (b - 1 - r)) = if (r : Int) ≥ a then (r : Int) - b else r := by
    intro a b hab hr
    by_cases h : r < a
    · rw [if_neg (by omega)]
      have : Nat.blt r a = true := by simpa [Nat.blt_eq] using h
      rw [this]; rfl
    · rw [if_pos (by omega)]
      have : Nat.blt r a = false := by rw [Bool.eq_false_iff]; simpa [Nat.blt_eq] using h
      rw [this]
      show Int.negSucc (b - 1 - r) = _
      omega
  have keyU : ∀ b : Nat, r < b → (bif Nat.blt r b then (Int.ofNat r) else Int.negSucc (b - 1 - r)) = (r : Int) := by
    intro b hr
    have : Nat.blt r b = true := by simpa [Nat.blt_eq] using hr
    rw [this]; rfl
  cases k
  all_goals simp only [half, lim, IntKind.signed, IntKind.bits, Bool.false_and, Bool.true_and] at *
  all_goals first
    | (rw [key _ _ (by decide) hl]; simp; done)
    | (rw [keyU _ hl]; simp; done)
theorem eqI_eq (x y : Int) : eqI x y = (x == y) := by
  cases x with
  | ofNat a => cases y with
    | ofNat b => by_cases e : a = b
                 · subst e; simp [eqI]
                 · have h1 : Nat.beq a b = false := by rw [Bool.eq_false_iff]; simpa using e
                   rw [eqI, h1]; symm; rw [beq_eq_false_iff_ne]; intro h; exact e (by cases h; rfl)
    | negSucc b => rfl
  | negSucc a => cases y with
    | ofNat b => rfl
    | negSucc b => by_cases e : a = b
                   · subst e; simp [eqI]
                   · have h1 : Nat.beq a b = false := by rw [Bool.eq_false_iff]; simpa using e
                     rw [eqI, h1]; symm; rw [beq_eq_false_iff_ne]; intro h; exact e (by cases h; rfl)
theorem blt_eq (a b : Nat) : Nat.blt a b = decide (a < b) := by
  by_cases h : a < b
  · rw [decide_eq_true h]; simpa [Nat.blt_eq] using h
  · rw [decide_eq_false h, Bool.eq_false_iff]; simpa [Nat.blt_eq] using h
theorem ltI_eq (x y : Int) : ltI x y = decide (x < y) := by
  cases x with
  | ofNat a => cases y with
    | ofNat b => rw [ltI, blt_eq]; exact decide_eq_decide.2 (by show a < b ↔ (a : Int) < (b : Int); omega)
    | negSucc b => rw [ltI]; symm; exact decide_eq_false (by show ¬ (a : Int) < _; omega)
  | negSucc a => cases y with
    | ofNat b => rw [ltI]; symm; exact decide_eq_true (by show _ < (b : Int); omega)
    | negSucc b => rw [ltI, blt_eq]; exact decide_eq_decide.2 (by omega)
theorem eqK_eq {j k : IntKind} (h : eqK j k = true) : j = k := by
  cases j <;> cases k <;> first | rfl | (exfalso; revert h; decide)

theorem intV_eq (k : IntKind) (n : Int) : intV k n = .int k (k.wrap n) := by rw [intV, wrp_eq]
theorem digs_bits (k : IntKind) (n : Int) : (BitVec.ofInt k.bits n).toNat = digs k n := by
  have h := digs_eq k n
  rw [lim_eq] at h
  rw [BitVec.toNat_ofInt]
  have h2 : ((2 ^ k.bits : Nat) : Int) = (2 : Int) ^ k.bits := by simp
  rw [h2, ← h]
  simp
theorem digs_toNat (k : IntKind) (n : Int) : (n % 2 ^ k.bits).toNat = digs k n := by
  rw [← lim_eq, ← digs_eq]
  rfl
section
variable {P : Program} {c : Cx}
/-- What an operation on two numbers gives. -/
theorem s_int {op : BinOp} {k : IntKind} {x y : Int} {r : AV} (t : TypeId) (h : (op = .add ∧ bAdd k x y = some r) ∨ binI op k x y = some r) :
    ∃ u, V c r u ∧ ∀ w, (Go.binOp op t (.int k x) (.int k y)).run P w = .ok u w := by
  rcases h with ⟨rfl, h⟩ | h
  · have h2 : r = .int k (k.wrap (x + y)) := by
      rw [← intV_eq]
      cases x with
      | negSucc a => cases h; rfl
      | ofNat a =>
        cases y with
        | negSucc b => cases h; rfl
        | ofNat b =>
          simp only [bAdd] at h
          cases hb : Nat.blt (Nat.add a b) (half k) with
          | false => rw [hb] at h; cases h; rfl
          | true =>
            rw [hb] at h
            cases h
            have h1 : a + b < half k := by simpa [Nat.blt_eq] using hb
            have h3 : half k ≤ lim k := by cases k <;> decide
            have h4 : digs k (Int.ofNat a + Int.ofNat b) = a + b := by
              show digs k (Int.ofNat (a + b)) = a + b
              exact Nat.mod_eq_of_lt (by omega)
            rw [intV, wrp, h4]
            have h5 : Nat.blt (a + b) (half k) = true := hb
            simp only [h5, cond_true]
            rfl
    subst h2
    exact ⟨_, .int _ _, fun w => by simp [Go.binOp, Op.intArith]⟩
  · cases op <;> simp only [binI, bSub, bMul, bQuo, bRem, bAnd, bOr, bXor, bAndNot, bEql, bNeq, bLss, bLeq, bGtr, bGeq, bNone, intV_eq, Option.some.injEq, reduceCtorEq] at h
    case sub => subst h; exact ⟨_, .int _ _, fun w => by simp [Go.binOp, Op.intArith]⟩
    case mul => subst h; exact ⟨_, .int _ _, fun w => by simp [Go.binOp, Op.intArith]⟩
    case quo =>
      cases hy : eqI y 0 with
      | true => rw [hy] at h; cases h
      | false =>
        rw [hy] at h
        cases h
        rw [eqI_eq] at hy
        have : y ≠ 0 := by simpa using hy
        exact ⟨_, .int _ _, fun w => by simp [Go.binOp, Op.intDiv, this]⟩
    case rem =>
      cases hy : eqI y 0 with
      | true => rw [hy] at h; cases h
      | false =>
        rw [hy] at h
        cases h
        rw [eqI_eq] at hy
        have : y ≠ 0 := by simpa using hy
        exact ⟨_, .int _ _, fun w => by simp [Go.binOp, Op.intDiv, this]⟩
    case and => subst h; exact ⟨_, .int _ _, fun w => by simp [Go.binOp, Op.intBits, BitVec.toNat_and, digs_toNat]⟩
    case or => subst h; exact ⟨_, .int _ _, fun w => by simp [Go.binOp, Op.intBits, BitVec.toNat_or, digs_toNat]⟩
    case xor => subst h; exact ⟨_, .int _ _, fun w => by simp [Go.binOp, Op.intBits, BitVec.toNat_xor, digs_toNat]⟩
    case andNot =>
      subst h
      refine ⟨_, .int _ _, fun w => ?_⟩
      have e1 : ∀ b : BitVec k.bits, ~~~b = BitVec.allOnes k.bits ^^^ b := fun b => by simp
      simp only [Go.binOp, Op.intBits, Sem.run_pure, e1, BitVec.toNat_and, BitVec.toNat_xor, BitVec.toNat_allOnes, digs_bits, lim_nat, ne_eq, not_true, if_false]
      rfl
    case eql => subst h; exact ⟨_, .bool _, fun w => by simp [Go.binOp, Op.intCmp, eqI_eq]⟩
    case neq => subst h; exact ⟨_, .bool _, fun w => by simp [Go.binOp, Op.intCmp, eqI_eq]; rfl⟩
    case lss => subst h; exact ⟨_, .bool _, fun w => by simp [Go.binOp, Op.intCmp, ltI_eq]⟩
    case leq => subst h; exact ⟨_, .bool _, fun w => by simp [Go.binOp, Op.intCmp, ltI_eq, ← Int.not_lt]⟩
    case gtr => subst h; exact ⟨_, .bool _, fun w => by simp [Go.binOp, Op.intCmp, ltI_eq]⟩
    case geq => subst h; exact ⟨_, .bool _, fun w => by simp [Go.binOp, Op.intCmp, ltI_eq, ← Int.not_lt]⟩

theorem s_shf {op : BinOp} {k j : IntKind} {x y : Int} {r : AV} (t : TypeId) (h : shiftI op k x y = some r) : ∃ u, V c r u ∧ ∀ w, (Go.binOp op t (.int k x) (.int j y)).run P w = .ok u w := by
  cases x with
  | negSucc a => cases h
  | ofNat a =>
    cases y with
    | negSucc b => cases h
    | ofNat n =>
      have hm : (bif Nat.blt n (bitsN k) then n else bitsN k) = min n k.bits := by
        rw [bitsN_eq, blt_eq]
        by_cases hn : n < k.bits
        · simp [hn]; omega
        · simp [hn]; omega
      have hy : ¬ ((n : Int) < 0) := by omega
      cases op <;> simp only [shiftI, reduceCtorEq] at h
      case shl =>
        cases h
        rw [hm, wrp_eq]
        refine ⟨_, .int _ _, fun w => ?_⟩
        simp [Go.binOp, Op.shift, hy, Nat.shiftLeft_eq]
      case shr =>
        cases h
        rw [hm]
        refine ⟨_, .int _ _, fun w => ?_⟩
        have h2 : (a : Int).fdiv (2 ^ min n k.bits) = ((a >>> min n k.bits : Nat) : Int) := by
          rw [Int.fdiv_eq_ediv_of_nonneg _ (Int.le_of_lt (Int.pow_pos (by decide))), Nat.shiftRight_eq_div_pow]
          simp
        simp [Go.binOp, Op.shift, hy, h2]
end
theorem eqBytes_eq : ∀ (x y : List UInt8), eqBytes x y = decide (x = y)
  | [], [] => rfl
  | [], _ :: _ => rfl
  | _ :: _, [] => rfl
  | a :: x, b :: y => by
    have ih := eqBytes_eq x y
    have hb : Nat.beq a.toNat b.toNat = decide (a = b) := by
      by_cases e : a = b
      · subst e; simp
      · rw [decide_eq_false e, Bool.eq_false_iff]
        intro h
        exact e (UInt8.toNat_inj.1 (by simpa using h))
    rw [eqBytes, hb, ih]
    by_cases e : a = b <;> by_cases f : x = y <;> simp [e, f]
theorem ltBytes_eq : ∀ (x y : List UInt8), ltBytes x y = Op.bytesLess x y
  | _, [] => by cases ‹List UInt8› <;> rfl
  | [], _ :: _ => rfl
  | a :: x, b :: y => by
    have ih := ltBytes_eq x y
    rw [ltBytes, Op.bytesLess, blt_eq, ih]
    have h1 : decide (a.toNat < b.toNat) = decide (a < b) := rfl
    have hb : Nat.beq a.toNat b.toNat = (a == b) := by
      by_cases e : a = b
      · subst e; simp
      · rw [beq_eq_false_iff_ne.2 e, Bool.eq_false_iff]
        intro h
        exact e (UInt8.toNat_inj.1 (by simpa using h))
    rw [h1, hb]
    cases decide (a < b) <;> cases (a == b) <;> simp
end Ev
end Go.Proofs.YtfpghnldcbhniaaGreat
