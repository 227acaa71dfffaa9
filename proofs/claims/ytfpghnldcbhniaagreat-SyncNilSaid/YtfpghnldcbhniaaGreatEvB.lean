/- The code of a program, made ready for the reckoned run. -/
import Derived.Test.YtfpghnldcbhniaaGreatEvA
namespace Go.Proofs.YtfpghnldcbhniaaGreat
set_option linter.unusedVariables false
set_option linter.unusedSimpArgs false
open Go.RowKit Go.Maps
namespace Ev

def ofScalar : Value → Option AV
  | .bool b => some (.bool b)
  | .int k n => some (.int k n)
  | .string s => some (.str s.data.toList)
  | .pointer none => some .nilp
  | .slice none 0 0 => some .nils
  | .map none => some .nilm
  | .nilFunc => some .nilf
  | .nilIface => some (.iface 16777216 .undef)
  | _ => none
def ofScalars : List Value → Option (List AV)
  | [] => some []
  | v :: l =>
    match ofScalar v, ofScalars l with
    | some a, some r => some (a :: r)
    | _, _ => none
def ofVal : Value → Option AV
  | .agg cs =>
    match ofScalars cs.toList with
    | some l => some (.agg l)
    | none => none
  | v => ofScalar v

/-- An operation, made ready. -/
inductive Bx where
  | bad
  | op (kind : Nat) (f : XOp)
  | call (f : FuncId) (xs : List Opd)
  | callv (x : Opd) (xs : List Opd)

section
variable (inf : TypeId → Option TypeInfo) (und : TypeId → Option TypeDesc) (keyOk : TypeId → AV → Bool) (ext : FuncId → Option (List Opd → XOp)) (okT : Nat → Bool)
def zeroOf (t : TypeId) : Option AV :=
  match inf t with
  | some i =>
    match i.zero with
    | some v => ofVal v
    | none => none
  | none => none
def sizeT (t : TypeId) : Option Nat :=
  match inf t with
  | some i => some i.size
  | none => none
def bytesT (t : TypeId) : Option Nat :=
  match inf t with
  | some i => some i.bytes
  | none => none
/-- Size and bytes of elements that may be appended. -/
def zsz (e : TypeId) : Option (Nat × Nat) :=
  match inf e with
  | some i =>
    match i.zero with
    | some z => bif Nat.beq z.cells.size i.size && Nat.blt 0 i.size then some (i.size, i.bytes) else none
    | none => none
  | none => none
def aggT (t : TypeId) : Option Bool :=
  match und t with
  | some (.struct _) | some (.array _ _) => some true
  | some _ => some false
  | none => none
/-- none: one cell; some n: an aggregate of n cells. -/
def wideT (t : TypeId) : Option (Option Nat) :=
  match aggT und t, sizeT inf t with
  | some true, some n => some (some n)
  | some false, some _ => some none
  | _, _ => none
noncomputable def cX : Operand → Option Opd
  | .tmp t => bif okT t then some (oT (slot t)) else none
  | .const v =>
    match ofVal v with
    | some a => some (oC a)
    | none => none
  | .func f => some (oC (.func f 0 []))
  | .global _ => none
noncomputable def cXs : List Operand → Option (List Opd)
  | [] => some []
  | x :: l =>
    match cX okT x, cXs l with
    | some a, some r => some (a :: r)
    | _, _ => none
noncomputable def cO : Option Operand → Option (Option Opd)
  | none => some none
  | some x =>
    match cX okT x with
    | some a => some (some a)
    | none => none
noncomputable def fieldsAt (fs : Array Field) : List (Nat × Operand) → Option (List (Nat × Nat × Opd))
  | [] => some []
  | (i, x) :: l =>
    match fs[i]?, cX okT x, fieldsAt fs l with
    | some f, some a, some r =>
      match sizeT inf f.type with
      | some n => some ((f.offset, n, a) :: r)
      | none => none
    | _, _, _ => none
noncomputable def elemsAt (sz : Nat) : List (Nat × Operand) → Option (List (Nat × Nat × Opd))
  | [] => some []
  | (i, x) :: l =>
    match cX okT x, elemsAt sz l with
    | some a, some r => some ((i * sz, sz, a) :: r)
    | _, _ => none

noncomputable def c1 (k : Nat) (f : Opd → XOp) (x : Operand) : Bx :=
  match cX okT x with
  | some a => .op k (f a)
  | none => .bad
noncomputable def c2 (k : Nat) (f : Opd → Opd → XOp) (x y : Operand) : Bx :=
  match cX okT x, cX okT y with
  | some a, some b => .op k (f a b)
  | _, _ => .bad
noncomputable def c3 (k : Nat) (f : Opd → Opd → Opd → XOp) (x y z : Operand) : Bx :=
  match cX okT x, cX okT y, cX okT z with
  | some a, some b, some c => .op k (f a b c)
  | _, _, _ => .bad

noncomputable def cBuiltin (b : Builtin) (ts : Array TypeId) (xs : List Operand) : Bx :=
  match b, xs with
  | .len, [x] =>
    match ts[0]? with
    | some t =>
      match und t with
      | some .string => c1 okT 0 xLenS x
      | some (.slice _) => c1 okT 0 xLenL x
      | some (.map _ _) => c1 okT 1 xLenM x
      | _ => .bad
    | none => .bad
  | .append, [x, y] =>
    match ts.toList with
    | [t, u] =>
      match und t, und u with
      | some (.slice e), some .string =>
        match zsz inf e with
        | some (1, by_) => c2 okT 3 (xAppS e by_) x y
        | _ => .bad
      | some (.slice e), some (.slice _) =>
        match zsz inf e with
        | some (sz, by_) => c2 okT 3 (xApp e sz by_) x y
        | _ => .bad
      | _, _ => .bad
    | _ => .bad
  | .delete, [m, k] =>
    match ts[0]? with
    | some t =>
      match und t with
      | some (.map kt _) => c2 okT 3 (xDel kt (keyOk kt)) m k
      | _ => .bad
    | none => .bad
  | .min, [x, y] => c2 okT 0 xMin x y
  | .max, [x, y] => c2 okT 0 xMax x y
  | _, _ => .bad

noncomputable def cOp (o : Op) : Bx :=
  match o with
  | .move x | .assign x => c1 okT 0 xMv x
  | .nilCheck x => c1 okT 0 xNil x
  | .pick c a b => c3 okT 0 xPick c a b
  | .alloc t =>
    match zeroOf inf t with
    | some z => z.cells? .bad fun cs => .op 2 (xZero t cs)
    | none => .bad
  | .box t x => c1 okT 2 (xBox t) x
  | .build t ps =>
    match zeroOf inf t, und t with
    | some z, some (.struct fs) =>
      match fieldsAt inf okT fs ps.toList with
      | some l => bif fs.toList.all fun f => (sizeT inf f.type).isSome then z.cells? .bad fun cs => .op 0 (xBuild cs l) else .bad
      | none => .bad
    | some z, some (.array _ e) =>
      match sizeT inf e with
      | some sz =>
        match elemsAt okT sz ps.toList with
        | some l => z.cells? .bad fun cs => .op 0 (xBuild cs l)
        | none => .bad
      | none => .bad
    | _, _ => .bad
  | .buildSlice t n ps =>
    match und t with
    | some (.slice e) =>
      match sizeT inf e, zeroOf inf e with
      | some (sz + 1), some z =>
        match elemsAt okT (sz + 1) ps.toList with
        | some l => z.cells? .bad fun cs => bif Nat.ble (n * (sz + 1)) 16777216 && Nat.beq (llen cs) (sz + 1) then .op 2 (xBuildS e (sz + 1) n (rep cs n) l) else .bad
        | none => .bad
      | _, _ => .bad
    | _ => .bad
  | .load t a =>
    match wideT inf und t with
    | some none => c1 okT 1 xLd a
    | some (some n) => c1 okT 1 (xLdn n) a
    | none => .bad
  | .store t a x =>
    match sizeT inf t with
    | some n => c2 okT 3 (xSt n) a x
    | none => .bad
  | .binOp op t x y _ =>
    match op with
    | .shl | .shr =>
      match und t with
      | some (.int _) => c2 okT 0 (xShf op) x y
      | _ => .bad
    | .add =>
      match und t with
      | some (.int _) => c2 okT 0 (xInt bAdd) x y
      | some .string => c2 okT 0 (xStr op) x y
      | _ => .bad
    | .eql | .neq =>
      match und t with
      | some (.int _) => c2 okT 0 (xInt (binI op)) x y
      | some .string => c2 okT 0 (xStr op) x y
      | some .bool => c2 okT 0 (xEqB (match op with | .neq => true | _ => false)) x y
      | some (.pointer _) => c2 okT 0 (xEqN 0 (match op with | .neq => true | _ => false)) x y
      | some (.slice _) => c2 okT 0 (xEqN 1 (match op with | .neq => true | _ => false)) x y
      | some (.map _ _) => c2 okT 0 (xEqN 2 (match op with | .neq => true | _ => false)) x y
      | some (.func ..) => c2 okT 0 (xEqN 3 (match op with | .neq => true | _ => false)) x y
      | some (.struct _) | some (.array _ _) => c2 okT 0 (xEqA (match op with | .neq => true | _ => false) (keyOk t)) x y
      | _ => .bad
    | _ =>
      match und t with
      | some (.int _) => c2 okT 0 (xCmp op) x y
      | some .string => c2 okT 0 (xStr op) x y
      | _ => .bad
  | .unOp op _ x =>
    match op with
    | .not => c1 okT 0 xNot x
    | .neg => c1 okT 0 xNeg x
    | .xor => c1 okT 0 xCompl x
    | .plus => .bad
  | .convert s d x =>
    match und s, und d with
    | some (.int _), some (.int k) => c1 okT 0 (xConv k) x
    | some .string, some .string => c1 okT 0 xSid x
    | some .string, some (.slice e) =>
      match und e with
      | some (.int .u8) => c1 okT 3 (xS2b e) x
      | _ => .bad
    | some (.slice e), some .string =>
      match und e with
      | some (.int .u8) => c1 okT 1 xB2s x
      | _ => .bad
    | _, _ => .bad
  | .makeInterface t x =>
    match und t with
    | some (.interface _) => .bad
    | some _ => c1 okT 0 (xMki t) x
    | none => .bad
  | .makeFunc fn first caps =>
    match fn with
    | .func f =>
      match cXs okT first.toList, cXs okT caps.toList with
      | some a, some b => .op 0 (xClos f a b)
      | _, _ => .bad
    | _ => .bad
  | .makeMap t r =>
    match r, und t with
    | none, some (.map kt _) => .op 2 (xMkmap kt)
    | _, _ => .bad
  | .makeSlice t l c =>
    match und t with
    | some (.slice e) =>
      match sizeT inf e, bytesT inf e, zeroOf inf e with
      | some (sz + 1), some by_, some z => z.cells? .bad fun cs => bif Nat.beq (llen cs) (sz + 1) then c2 okT 2 (xMksl e (sz + 1) by_ cs) l c else .bad
      | _, _, _ => .bad
    | _ => .bad
  | .slice t x lo hi mx =>
    match cX okT x, cO okT lo, cO okT hi, cO okT mx with
    | some a, some l, some h, some m =>
      match und t with
      | some .string => (match m with | none => .op 0 (xSlstr a l h) | _ => .bad)
      | some (.slice e) =>
        match sizeT inf e with
        | some sz => .op 0 (xSlc sz a l h m)
        | none => .bad
      | some (.array n e) =>
        match sizeT inf e with
        | some sz => .op 1 (xSlarr n sz a l h m)
        | none => .bad
      | _ => .bad
    | _, _, _, _ => .bad
  | .fieldAddr t x i =>
    match und t with
    | some (.struct fs) =>
      match fs[i]? with
      | some f =>
        match sizeT inf f.type with
        | some (_ + 1) => c1 okT 0 (xFaddr f.offset) x
        | _ => .bad
      | none => .bad
    | _ => .bad
  | .field t x i =>
    match und t with
    | some (.struct fs) =>
      match fs[i]? with
      | some f =>
        match wideT inf und f.type with
        | some n => c1 okT 0 (xFld f.offset n) x
        | none => .bad
      | none => .bad
    | _ => .bad
  | .indexAddr t x i =>
    match und t with
    | some (.array n e) =>
      match sizeT inf e with
      | some sz => c2 okT 0 (xIaddrA n sz) x i
      | none => .bad
    | some (.slice e) =>
      match sizeT inf e with
      | some sz => c2 okT 0 (xIaddr sz) x i
      | none => .bad
    | _ => .bad
  | .index t x i =>
    match und t with
    | some (.array n e) =>
      match sizeT inf e, wideT inf und e with
      | some sz, some m => c2 okT 0 (xIdxA n sz m) x i
      | _, _ => .bad
    | some .string => c2 okT 0 xIdxS x i
    | _ => .bad
  | .lookup t x k ok =>
    match und t with
    | some (.map kt e) =>
      match zeroOf inf e with
      | some z => c2 okT 1 (xLook kt (keyOk kt) z ok) x k
      | none => .bad
    | _ => .bad
  | .mapUpdate t m k v | .insert t m k v =>
    match und t with
    | some (.map kt _) => c3 okT 3 (xMupd kt (keyOk kt)) m k v
    | _ => .bad
  | .range t x =>
    match und t with
    | some (.map _ _) => c1 okT 3 xRng x
    | _ => .bad
  | .next x false => c1 okT 3 xNxt x
  | .entry x => c1 okT 1 xEntry x
  | .typeAssert x _ t false =>
    match und t with
    | some (.interface _) => .bad
    | some _ => c1 okT 0 (xTas t) x
    | none => .bad
  | .sliceToArrayPointer t x =>
    match und t with
    | some (.array n _) => c1 okT 0 (xS2a n) x
    | _ => .bad
  | .extract x i => c1 okT 0 (fun a => xExt a i) x
  | .call c =>
    match c.callee with
    | .builtin b => cBuiltin inf und keyOk okT b c.argTypes c.args.toList
    | .value (.func f) =>
      match cXs okT c.args.toList with
      | some l =>
        match ext f with
        | some g => .op 0 (g l)
        | none => .call f l
      | none => .bad
    | .value x =>
      match cX okT x, cXs okT c.args.toList with
      | some a, some l => .callv a l
      | _, _ => .bad
    | _ => .bad
  | _ => .bad
end

/-! ### The run -/
inductive Q where
  | no
  | ok (fr : Fr) (h : H)
inductive R where
  | no
  | n (fr : Fr) (h : H)
  | x (id : Nat) (fr : Fr) (h : H)
  | r (fr : Fr) (h : H)
abbrev K := FuncId → List AV → H → E
/-- A number in a value is reckoned at once. -/
noncomputable def force (v : AV) (f : AV → Q) : Q :=
  AV.rec (motive_1 := fun _ => Q) (motive_2 := fun _ => Unit) (f v) (fun b => bi b (f (.bool true)) (f (.bool false)))
    (fun k n => Int.cas n (fun m => Nat.cas m (f (.int k (.ofNat 0))) fun p => f (.int k (.ofNat (Nat.succ p)))) (fun m => Nat.cas m (f (.int k (.negSucc 0))) fun p => f (.int k (.negSucc (Nat.succ p)))))
    (fun _ => f v) (f v) (fun b o => Nat.cas o (f (.ptr b 0)) fun p => f (.ptr b (Nat.succ p))) (f v)
    (fun b o n c s => Nat.cas n (f (.slice b o 0 c s)) fun p => f (.slice b o (Nat.succ p) c s)) (f v) (fun _ => f v) (f v) (fun _ _ _ _ => f v) (fun _ _ _ => f v) (fun _ _ => f v) (fun _ _ => f v) () (fun _ _ _ _ => ()) v
noncomputable def setD (fr : Fr) (d : Option Pos) (v : AV) : Fr := ob d fr fun p => T.set fr p (some v)
noncomputable def eq' (e : E) (f : AV → H → Q) : Q := E.rec (motive := fun _ => Q) .no f e
abbrev DOp := K → Fr → H → Q
noncomputable def dOp (f : XOp) (d : Option Pos) : DOp := fun _ fr h => eq' (f fr h) fun v h => force v fun v => .ok (setD fr d v) h
noncomputable def dCall (g : FuncId) (xs : List Opd) (d : Option Pos) : DOp := fun K fr h => eq' (K g (evs xs fr) h) fun v h => force v fun v => .ok (setD fr d v) h
noncomputable def dCallv (x : Opd) (xs : List Opd) (d : Option Pos) : DOp := fun K fr h => (x fr).func? .no fun g n caps =>
  eq' (K g (caps.take n ++ evs xs fr ++ caps.drop n) h) fun v h => force v fun v => .ok (setD fr d v) h
noncomputable def dGuard (p : Pos) (b : Bool) (q : DOp) (d : Option Pos) : DOp := fun K fr h =>
  (Fr.get fr p).bool? (.ok (setD fr d .undef) h) fun c => bi (bi b c (bi c false true)) (q K fr h) (.ok (setD fr d .undef) h)
inductive Bo where
  | bad
  | mk (q : DOp)
abbrev DC := K → Fr → H → R
inductive Bc where
  | bad
  | mk (c : DC)
noncomputable def qr (q : Q) (f : Fr → H → Q) : Q := Q.rec (motive := fun _ => Q) .no f q
noncomputable def qR (q : Q) (f : Fr → H → R) : R := Q.rec (motive := fun _ => R) .no f q
noncomputable def dOps (l : List Bo) (K : K) : Fr → H → Q :=
  List.rec (motive := fun _ => Fr → H → Q) (fun fr h => .ok fr h) (fun o _ ih fr h => Bo.rec (motive := fun _ => Q) .no (fun q => qr (q K fr h) ih) o) l
noncomputable def dReg (l : List Bo) : DC := fun K fr h => qR (dOps l K fr h) fun fr h => .n fr h
noncomputable def bc (c : Bc) (K : K) (fr : Fr) (h : H) : R := Bc.rec (motive := fun _ => R) .no (fun c => c K fr h) c
noncomputable def rr (r : R) (f : Fr → H → R) (g : Nat → Fr → H → R) : R := R.rec (motive := fun _ => R) .no f g (fun fr h => .r fr h) r
noncomputable def dSkip : DC := fun _ fr h => .n fr h
noncomputable def dRet : DC := fun _ fr h => .r fr h
noncomputable def dExit (id : Nat) : DC := fun _ fr h => .x id fr h
noncomputable def dSeq (a b : Bc) : DC := fun K fr h => rr (bc a K fr h) (fun fr h => bc b K fr h) fun id fr h => .x id fr h
noncomputable def dCond (x : Opd) (a b : Bc) : DC := fun K fr h => (x fr).bool? .no fun t => bi t (bc a K fr h) (bc b K fr h)
noncomputable def dBlock (id : Nat) (a : Bc) : DC := fun K fr h => rr (bc a K fr h) (fun fr h => .n fr h) fun j fr h => bi (Nat.beq j id) (.n fr h) (.x j fr h)
noncomputable def dLoop (N : Nat) (a : Bc) : DC := fun K => Nat.rec (motive := fun _ => Fr → H → R) (fun _ _ => .no) (fun _ ih fr h => rr (bc a K fr h) ih fun id fr h => .x id fr h) N


/-! ### Regions that draw their order -/
/-- An operation of such a region that is no effect. -/
structure It where
  g : Option (Pos × Bool)
  nw : Bool
  f : XOp
  d : Option Pos
noncomputable def wGo {β : Type} (g : Option (Pos × Bool)) (fr : Fr) (skip run : β) : β := ob g run fun p => (Fr.get fr p.1).bool? skip fun c => bi (bi p.2 c (bi c false true)) run skip
noncomputable def puE (f : XOp) (d : Option Pos) (fr : Fr) (h : H) : Q := eq' (f fr h) fun v _ => force v fun v => .ok (setD fr d v) h
noncomputable def mkE (f : XOp) (d : Option Pos) (fr : Fr) (h : H) : Q := eq' (f fr { t := .e, nx := h.nx }) fun v h' => ob (h'.obj h.nx) .no fun o => .ok (setD fr d v) (h.new o)
noncomputable def It.eval (x : It) (fr : Fr) (h : H) : Q := wGo x.g fr (.ok (setD fr x.d .undef) h) (bi x.nw (mkE x.f x.d fr h) (puE x.f x.d fr h))
noncomputable def sameD (d : Option Pos) (fr : Fr) (v : AV) : Bool := ob d true fun p => sameAV v (Fr.get fr p)
noncomputable def blockOf (v : AV) : Option Pos := v.ptr? (v.slice? (v.map? none none some) none fun b _ _ _ _ => some b) fun b _ => some b
noncomputable def chkP (f : XOp) (d : Option Pos) (fr : Fr) (h : H) : Bool := E.rec (motive := fun _ => Bool) false (fun v _ => sameD d fr v) (f fr h)
noncomputable def chkM (f : XOp) (d : Option Pos) (fr : Fr) (h : H) : Bool := ob d false fun p => ob (blockOf (Fr.get fr p)) false fun b =>
  E.rec (motive := fun _ => Bool) false (fun v h' => and' (sameAV v (Fr.get fr p)) (ob (h'.obj b) false fun o => ob (h.obj b) false fun o' => sameObj o o')) (f fr { t := .e, nx := b })
noncomputable def It.chk (x : It) (fr : Fr) (h : H) : Bool := wGo x.g fr (sameD x.d fr .undef) (bi x.nw (chkM x.f x.d fr h) (chkP x.f x.d fr h))
noncomputable def It.blk (x : It) (fr : Fr) : Option Pos := bi x.nw (ob x.d none fun p => blockOf (Fr.get fr p)) none
noncomputable def runSeg (l : List It) : Fr → H → Q := List.rec (motive := fun _ => Fr → H → Q) (fun fr h => .ok fr h) (fun x _ ih fr h => qr (x.eval fr h) ih) l
noncomputable def allChk (l : List It) (fr : Fr) (h : H) : Bool := List.rec (motive := fun _ => Bool) true (fun x _ r => and' (x.chk fr h) r) l
/-- No two of the blocks are one. -/
noncomputable def noBlk (b : Pos) (l : List It) (fr : Fr) : Bool := List.rec (motive := fun _ => Bool) true (fun x _ r => ob (x.blk fr) r fun c => bi (b.beq c) false r) l
noncomputable def dupFree (l : List It) (fr : Fr) : Bool := List.rec (motive := fun _ => Bool) true (fun x xs r => ob (x.blk fr) r fun b => and' (noBlk b xs fr) r) l
noncomputable def allNew (l : List It) (hs : H) (fr : Fr) : Bool := List.rec (motive := fun _ => Bool) true (fun x _ r => ob (x.blk fr) r fun b => ob (hs.obj b) r fun _ => false) l
structure StC where
  seg : List It
  opn : List It
  eff : Option DOp
noncomputable def StC.ok (s : StC) (hs : H) (fr : Fr) (h : H) : Bool := and' (allChk s.opn fr h) (and' (dupFree s.opn fr) (allNew s.seg hs fr))
noncomputable def runStages (l : List StC) (K : K) : Fr → H → Q :=
  List.rec (motive := fun _ => Fr → H → Q) (fun _ _ => .no) (fun s _ ih fr h => qr (runSeg s.seg fr h) fun fr1 h1 => bi (s.ok h fr1 h1) (ob s.eff (.ok fr1 h1) fun e => qr (e K fr1 h1) ih) .no) l
/-- What was written aside comes to its place. -/
noncomputable def fin1 (p q : Pos) (fr : Fr) : Fr := ob (T.get fr p) (T.set fr q (some .undef)) fun v => T.set fr q (some v)
noncomputable def fins (nt : Nat) (L : List (Nat × Nat)) : Fr → Fr := List.rec (motive := fun _ => Fr → Fr) (fun fr => fr) (fun x _ ih fr => ih (fin1 (slot (nt + x.1)) (slot x.1) fr)) L
noncomputable def dDraw (nt : Nat) (L : List (Nat × Nat)) (l : List StC) : DC := fun K fr h => qR (runStages l K fr h) fun fr h => .n (fins nt L fr) h

/-! What is known of such a region ahead of its run. -/
def bitAt (m n : Nat) : Bool := Nat.beq (Nat.land (Nat.shiftRight m n) 1) 1
def nthN (l : List Nat) (i : Nat) : Nat := match l[i]? with | some m => m | none => 0
def depsOf (o : Oper) : List Nat := (o.after.toList.filter fun e => Region.binds .any e).map fun e => e.on
def hasN (n : Nat) (l : List Nat) : Bool := l.any fun m => Nat.beq m n
/-- Which operations stand ahead of each. -/
def masks : List Oper → List Nat → List Nat
  | [], acc => acc
  | o :: l, acc => masks l (acc ++ [(depsOf o).foldl (fun m d => Nat.lor (Nat.lor m (Nat.shiftLeft 1 d)) (nthN acc d)) 0])
def maskOk1 (M : List Nat) (n i : Nat) (ds : List Nat) : Bool := ds.all (fun d => Nat.blt d i) && (List.range n).all fun j => !bitAt (nthN M i) j || ds.any fun d => Nat.beq d j || bitAt (nthN M d) j
def masksOk (M : List Nat) (n : Nat) : Nat → List Oper → Bool
  | _, [] => true
  | i, o :: l => maskOk1 M n i (depsOf o) && masksOk M n (i + 1) l
def wrts : Nat → List Oper → List (Nat × Nat)
  | _, [] => []
  | i, o :: l =>
    match o.dst with
    | some d => (d, i) :: wrts (i + 1) l
    | none => wrts (i + 1) l
def distinctW : List (Nat × Nat) → Bool
  | [] => true
  | (d, _) :: l => l.all (fun p => !Nat.beq p.1 d) && distinctW l
structure St where
  seg : List Nat
  opn : List Nat
  eff : Option Nat
def restOf : Option Nat → List St → List Nat
  | none, _ => []
  | some e, [] => [e]
  | some e, s :: ss => e :: (s.seg ++ restOf s.eff ss)
def okSt (M : List Nat) (s : St) : List St → Bool
  | [] => match s.eff with | none => true | some _ => false
  | s' :: ss =>
    match s.eff with
    | none => false
    | some e =>
      (restOf (some e) (s' :: ss)).all (fun i => Nat.beq i e || bitAt (nthN M i) e) && s.opn.all (fun i => !hasN i (restOf (some e) (s' :: ss)) && (bitAt (nthN M e) i || hasN i s'.opn)) &&
      s'.seg.all (fun i => hasN i s'.opn) && !hasN e (s'.seg ++ restOf s'.eff ss) && okSt M s' ss
def okReg (M : List Nat) (n : Nat) (ops : List Oper) (W : List (Nat × Nat)) : List St → Bool
  | [] => false
  | s :: ss => masksOk M n 0 ops && distinctW W && (List.range n).all (fun i => hasN i s.opn || hasN i (restOf s.eff ss)) && (s.opn.all fun i => !hasN i (restOf s.eff ss)) && (s.opn.all fun i => hasN i s.seg) && okSt M s ss
/-- The order that the run takes: effects as late as may be. -/
def planGo (deps : List (List Nat)) (eff : List Bool) (M : List Nat) (n : Nat) : Nat → List Nat → List Nat → List Nat → List St
  | 0, _, _, _ => []
  | f + 1, done, seg, opn =>
    match (List.range n).find? fun i => !hasN i done && !((eff[i]?).getD true) && ((deps[i]?).getD []).all fun d => hasN d done with
    | some i => planGo deps eff M n f (i :: done) (seg ++ [i]) opn
    | none =>
      match (List.range n).find? fun i => !hasN i done && ((deps[i]?).getD []).all fun d => hasN d done with
      | some e => { seg, opn := opn ++ seg, eff := some e } :: planGo deps eff M n f (e :: done) [] ((opn ++ seg).filter fun i => !bitAt (nthN M e) i)
      | none => [{ seg, opn := opn ++ seg, eff := none }]
section
variable (inf : TypeId → Option TypeInfo) (und : TypeId → Option TypeDesc) (keyOk : TypeId → AV → Bool) (ext : FuncId → Option (List Opd → XOp)) (N nt : Nat)
def below (nt : Nat) : Nat → Bool := fun t => Nat.blt t nt
def dstP (o : Oper) : Option (Option Pos) :=
  match o.dst with
  | some d => bif Nat.blt d nt then some (some (slot d)) else none
  | none => some none
noncomputable def cOperD (okT : Nat → Bool) (d : Option Pos) (o : Oper) : Bo :=
  match cOp inf und keyOk ext okT o.op with
  | .op _ f => .mk (dOp f d)
  | .call g xs => .mk (dCall g xs d)
  | .callv x xs => .mk (dCallv x xs d)
  | .bad => .bad
noncomputable def cGuardD (okT : Nat → Bool) (d : Option Pos) (ops : Array Oper) (o : Oper) : Bo :=
  match o.guard with
  | none => cOperD inf und keyOk ext okT d o
  | some (j, b) =>
    match ops[j]? with
    | some g =>
      match g.dst, cOperD inf und keyOk ext okT d o with
      | some p, .mk q => bif okT p then .mk (dGuard (slot p) b q d) else .bad
      | _, _ => .bad
    | none => .bad
noncomputable def cGuard (ops : Array Oper) (o : Oper) : Bo :=
  match dstP nt o with
  | some d => cGuardD inf und keyOk ext (below nt) d ops o
  | none => .bad
noncomputable def cOpers (ops : Array Oper) : List Oper → List Bo
  | [] => []
  | o :: l => cGuard inf und keyOk ext nt ops o :: cOpers ops l
/-- Variables that are assigned: written aside, so that who looks at them ahead of that finds what was. -/
def lates : Nat → List Oper → List (Nat × Nat)
  | _, [] => []
  | i, o :: l =>
    match o.dst, o.op with
    | some d, .assign _ => (d, i) :: lates (i + 1) l
    | _, _ => lates (i + 1) l
def isLate (L : List (Nat × Nat)) (t : Nat) : Bool := L.any fun p => Nat.beq p.1 t
/-- Where a temporary is written. -/
def slL (L : List (Nat × Nat)) (t : Nat) : Pos := bif isLate L t then slot (nt + t) else slot t
def dstL (L : List (Nat × Nat)) (o : Oper) : Option (Option Pos) :=
  match o.dst with
  | some d => bif Nat.blt d nt then some (some (slL nt L d)) else none
  | none => some none
/-- Which places an operation of a region may look at: none that another one writes that is not ahead of it, or, of those written aside, not behind it. -/
def okAt (W L : List (Nat × Nat)) (M : List Nat) (i : Nat) : Nat → Bool := fun t => Nat.blt t nt && W.all fun p => !Nat.beq p.1 t || (bif isLate L t then bitAt (nthN M p.2) i else bitAt (nthN M i) p.2)
noncomputable def cIt (ops : Array Oper) (W L : List (Nat × Nat)) (M : List Nat) (i : Nat) : Option It :=
  match ops[i]? with
  | none => none
  | some o =>
    match dstL nt L o, cOp inf und keyOk ext (okAt nt W L M i) o.op with
    | some d, .op k f =>
      bif Nat.ble k 2 then
        match o.guard with
        | none => some { g := none, nw := Nat.beq k 2, f, d }
        | some (j, b) =>
          match ops[j]? with
          | some g =>
            match g.dst with
            | some p => bif okAt nt W L M i p then some { g := some (slot p, b), nw := Nat.beq k 2, f, d } else none
            | none => none
          | none => none
      else none
    | _, _ => none
noncomputable def cIts (ops : Array Oper) (W L : List (Nat × Nat)) (M : List Nat) : List Nat → Option (List It)
  | [] => some []
  | i :: l =>
    match cIt inf und keyOk ext nt ops W L M i, cIts ops W L M l with
    | some x, some r => some (x :: r)
    | _, _ => none
noncomputable def cEff (ops : Array Oper) (W L : List (Nat × Nat)) (M : List Nat) (e : Nat) : Bo :=
  match ops[e]? with
  | none => .bad
  | some o =>
    match dstL nt L o with
    | some d => cGuardD inf und keyOk ext (okAt nt W L M e) d ops o
    | none => .bad
noncomputable def cSt (ops : Array Oper) (W L : List (Nat × Nat)) (M : List Nat) (s : St) : Option StC :=
  match cIts inf und keyOk ext nt ops W L M s.seg, cIts inf und keyOk ext nt ops W L M s.opn with
  | some seg, some opn =>
    match s.eff with
    | none => some { seg, opn, eff := none }
    | some e =>
      match cEff inf und keyOk ext nt ops W L M e with
      | .mk q => some { seg, opn, eff := some q }
      | .bad => none
  | _, _ => none
noncomputable def cSts (ops : Array Oper) (W L : List (Nat × Nat)) (M : List Nat) : List St → Option (List StC)
  | [] => some []
  | s :: l =>
    match cSt inf und keyOk ext nt ops W L M s, cSts ops W L M l with
    | some x, some r => some (x :: r)
    | _, _ => none
noncomputable def isEff (o : Oper) : Bool :=
  match cOp inf und keyOk ext (fun _ => true) o.op with
  | .op k _ => !Nat.ble k 2
  | _ => true
noncomputable def effs : List Oper → List Bool
  | [] => []
  | o :: l => isEff inf und keyOk ext o :: effs l
noncomputable def cDraw (ops : Array Oper) (M : List Nat) (W L : List (Nat × Nat)) (p : List St) : Bc :=
  bif Nat.ble (nt + nt) 1000000 && (L.all fun p => Nat.blt p.1 nt) && okReg M ops.size ops.toList W p then
    match cSts inf und keyOk ext nt ops W L M p with
    | some l => .mk (dDraw nt L l)
    | none => .bad
  else .bad
noncomputable def cDrawn (ops : Array Oper) : Bc :=
  cDraw inf und keyOk ext nt ops (masks ops.toList []) (wrts 0 ops.toList) (lates 0 ops.toList) (planGo (ops.toList.map depsOf) (effs inf und keyOk ext ops.toList) (masks ops.toList []) ops.size (2 * ops.size + 2) [] [] [])
noncomputable def cCode : Code → Bc
  | .skip => .mk dSkip
  | .label _ => .mk dSkip
  | .region _ ops draw => bif draw then cDrawn inf und keyOk ext nt ops else .mk (dReg (cOpers inf und keyOk ext nt ops ops.toList))
  | .seq a b => .mk (dSeq (cCode a) (cCode b))
  | .cond c a b =>
    match cX (below nt) c with
    | some x => .mk (dCond x (cCode a) (cCode b))
    | none => .bad
  | .block id c => .mk (dBlock id (cCode c))
  | .loop c => .mk (dLoop N (cCode c))
  | .exit id => .mk (dExit id)
  | .scope c => cCode c
  | .ret => .mk dRet
  | _ => .bad
/-- What a result is. -/
noncomputable def rTmp (p : Pos) : XOp := fun fr h => .ok (Fr.get fr p) h
noncomputable def cRes : List ResultVar → Option (List XOp)
  | [] => some []
  | .tmp t :: l =>
    match cRes l with
    | some r => bif Nat.blt t nt then some (rTmp (slot t) :: r) else none
    | none => none
  | .cell a t :: l =>
    bif Nat.blt a nt then
      match wideT inf und t, cRes l with
      | some none, some r => some (xLd (oT (slot a)) :: r)
      | some (some n), some r => some (xLdn n (oT (slot a)) :: r)
      | _, _ => none
    else none
inductive Bf where
  | bad
  | mk (nt : Nat) (c : Bc) (rs : List XOp)
noncomputable def cFn (f : Func) : Bf :=
  match f.body, cRes inf und f.ntmps f.results.toList with
  | some c, some r => bif Nat.ble f.ntmps 1000000 then .mk f.ntmps (cCode inf und keyOk ext N f.ntmps c) r else .bad
  | _, _ => .bad
end
noncomputable def argsIn (xs : List AV) (p : Nat) (fr : Fr) : Fr :=
  List.rec (motive := fun _ => Nat → Fr → Fr) (fun _ fr => fr) (fun x _ ih p fr => ih (p + 1) (T.set fr (slot p) (some x))) xs p fr
noncomputable def outs (rs : List XOp) (fr : Fr) (h : H) : Option (List AV) :=
  List.rec (motive := fun _ => Option (List AV)) (some []) (fun x _ ih => E.rec (motive := fun _ => Option (List AV)) none (fun v _ => ob ih none fun r => some (v :: r)) (x fr h)) rs
noncomputable def endE (rs : List XOp) (fr : Fr) (h : H) : E :=
  ob (outs rs fr h) .no fun vs => List.rec (motive := fun _ => E) (.ok (.tuple []) h) (fun v l _ => List.rec (motive := fun _ => E) (.ok v h) (fun _ _ _ => .ok (.tuple vs) h) l) vs
noncomputable def body (nt : Nat) (c : Bc) (rs : List XOp) (K : K) (xs : List AV) (h : H) : E :=
  bi (Nat.ble (llen xs) nt) (R.rec (motive := fun _ => E) .no (fun fr h => endE rs fr h) (fun _ _ _ => .no) (fun fr h => endE rs fr h) (bc c K (argsIn xs 0 .e) h)) .no
section
variable (fn : FuncId → Bf) (plug : FuncId → Option (List AV → H → E))
noncomputable def run (n : Nat) : K :=
  Nat.rec (motive := fun _ => K) (fun _ _ _ => .no) (fun _ ih f xs h => ob (plug f) (Bf.rec (motive := fun _ => E) .no (fun nt c rs => body nt c rs ih xs h) (fn f)) fun p => p xs h) n
end
end Ev
end Go.Proofs.YtfpghnldcbhniaaGreat
