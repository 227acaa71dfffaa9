/- A run of a program at given values, reckoned: numbers for blocks, values, memory; nothing is proved here. The code of a program, made ready for the reckoned run. What a reckoned run has to do with the model's: numbers stand for blocks. What the run asks of the world that it begins in: strconv.ErrSyntax holds an interface's value. Operations that only reckon: what the run says is what the model's operation gives, in whatever world. Operations that only reckon, on: texts, comparisons, parts, places. Operations that only reckon, on: slice expressions, literals, comparisons, lengths. -/
import Derived.Test.YtoaimjielnempaaGreatDoorBase
import Derived.Laws.Sem
import Derived.Deep.MidRow
import Derived.DeepKeys4
namespace Go.Proofs.YtoaimjielnempaaGreatDoor
set_option linter.unusedVariables false
set_option linter.unusedSimpArgs false
open Go.RowKit Go.Maps
namespace Ev

/-- Numbers from one on, by their digits. -/
inductive Pos where
  | h
  | o (p : Pos)
  | i (p : Pos)
def Pos.succ : Pos → Pos
  | .h => .o .h
  | .o p => .i p
  | .i p => .o p.succ
def Pos.beq : Pos → Pos → Bool
  | .h, .h => true
  | .o p, .o q => p.beq q
  | .i p, .i q => p.beq q
  | _, _ => false
def posOf : Nat → Nat → Pos
  | 0, _ => .h
  | f + 1, n => if Nat.ble n 1 then .h else if Nat.beq (n % 2) 0 then .o (posOf f (n / 2)) else .i (posOf f (n / 2))
/-- The place of a temporary. -/
def slot (t : Nat) : Pos := posOf 20 (t + 1)

inductive T (α : Type) where
  | e
  | n (l : T α) (v : Option α) (r : T α)
noncomputable def T.cas {α : Type} {β : Type} (t : T α) (d : β) (f : T α → Option α → T α → β) : β :=
  T.rec (motive := fun _ => β) d (fun l v r _ _ => f l v r) t
noncomputable def Pos.get {α : Type} (p : Pos) : T α → Option α :=
  Pos.rec (motive := fun _ => T α → Option α) (fun t => t.cas none fun _ v _ => v) (fun _ ih t => t.cas none fun l _ _ => ih l) (fun _ ih t => t.cas none fun _ _ r => ih r) p
noncomputable def T.get {α : Type} (t : T α) (p : Pos) : Option α := p.get t
noncomputable def Pos.set {α : Type} (p : Pos) (x : Option α) : T α → T α :=
  Pos.rec (motive := fun _ => T α → T α) (fun t => t.cas (.n .e x .e) fun l _ r => .n l x r) (fun _ ih t => t.cas (.n (ih .e) none .e) fun l v r => .n (ih l) v r)
    (fun _ ih t => t.cas (.n .e none (ih .e)) fun l v r => .n l v (ih r)) p
noncomputable def T.set {α : Type} (t : T α) (p : Pos) (x : Option α) : T α := p.set x t

/-- Values. A slice's capacity may be unknown. -/
inductive AV where
  | undef
  | bool (b : Bool)
  | int (k : IntKind) (n : Int)
  | str (s : List UInt8)
  | nilp
  | ptr (b : Pos) (o : Nat)
  | nils
  | slice (b : Pos) (o len : Nat) (cap : Option Nat) (sz : Nat)
  | nilm
  | map (b : Pos)
  | nilf
  | func (f : FuncId) (n : Nat) (caps : List AV)
  | iface (t : TypeId) (v : AV)
  | agg (cs : List AV)
  | tuple (vs : List AV)

inductive AObj where
  | cells (cs : List AV) (elem : TypeId) (fz : Nat)
  | map (kt : TypeId) (es : List (AV × AV × Nat)) (clock : Nat)
  | iter (m : Option Pos) (since : Nat) (seen : List Nat) (last : Nat)

structure H where
  t : T AObj
  nx : Pos
noncomputable def ob {α β : Type} (x : Option α) (d : β) (f : α → β) : β := Option.rec (motive := fun _ => β) d f x
noncomputable def H.obj (h : H) (b : Pos) : Option AObj := h.t.get b
noncomputable def H.new (h : H) (o : AObj) : H := { t := h.t.set h.nx (some o), nx := h.nx.succ }
noncomputable def H.put (h : H) (b : Pos) (o : AObj) : H := { t := h.t.set b (some o), nx := h.nx }
noncomputable def H.kill (h : H) (b : Pos) : H := { t := h.t.set b none, nx := h.nx }

/-! ### Numbers -/
def lim : IntKind → Nat
  | .i8 | .u8 => 256
  | .i16 | .u16 => 65536
  | .i32 | .u32 => 4294967296
  | .i64 | .u64 => 18446744073709551616
def half : IntKind → Nat
  | .i8 => 128
  | .i16 => 32768
  | .i32 => 2147483648
  | .i64 => 9223372036854775808
  | .u8 => 256
  | .u16 => 65536
  | .u32 => 4294967296
  | .u64 => 18446744073709551616
def bitsN : IntKind → Nat
  | .i8 | .u8 => 8
  | .i16 | .u16 => 16
  | .i32 | .u32 => 32
  | .i64 | .u64 => 64
/-- The digits of a number of a kind. -/
def digs (k : IntKind) : Int → Nat
  | .ofNat m => m % lim k
  | .negSucc m => lim k - 1 - m % lim k
def wrp (k : IntKind) (n : Int) : Int :=
  let r := digs k n
  bif Nat.blt r (half k) then .ofNat r else .negSucc (lim k - 1 - r)
def ltI : Int → Int → Bool
  | .ofNat a, .ofNat b => Nat.blt a b
  | .ofNat _, .negSucc _ => false
  | .negSucc _, .ofNat _ => true
  | .negSucc a, .negSucc b => Nat.blt b a
def eqI : Int → Int → Bool
  | .ofNat a, .ofNat b => Nat.beq a b
  | .negSucc a, .negSucc b => Nat.beq a b
  | _, _ => false
def kindNo : IntKind → Nat
  | .i8 => 0 | .i16 => 1 | .i32 => 2 | .i64 => 3 | .u8 => 4 | .u16 => 5 | .u32 => 6 | .u64 => 7
def eqK (j k : IntKind) : Bool := Nat.beq (kindNo j) (kindNo k)

/-- A number of a kind: as it is, where it is in reach. -/
def intV (k : IntKind) (n : Int) : AV := .int k (wrp k n)
noncomputable def bAdd (k : IntKind) (x y : Int) : Option AV :=
  Int.rec (motive := fun _ => Option AV) (fun a => Int.rec (motive := fun _ => Option AV) (fun b => Bool.rec (motive := fun _ => Option AV) (some (intV k (x + y))) (some (.int k (.ofNat (Nat.add a b)))) (Nat.blt (Nat.add a b) (half k))) (fun _ => some (intV k (x + y))) y) (fun _ => some (intV k (x + y))) x
def bSub (k : IntKind) (x y : Int) : Option AV := some (intV k (x - y))
def bMul (k : IntKind) (x y : Int) : Option AV := some (intV k (x * y))
def bQuo (k : IntKind) (x y : Int) : Option AV := bif eqI y 0 then none else some (intV k (x.tdiv y))
def bRem (k : IntKind) (x y : Int) : Option AV := bif eqI y 0 then none else some (.int k (x.tmod y))
def bAnd (k : IntKind) (x y : Int) : Option AV := some (intV k (.ofNat (Nat.land (digs k x) (digs k y))))
def bOr (k : IntKind) (x y : Int) : Option AV := some (intV k (.ofNat (Nat.lor (digs k x) (digs k y))))
def bXor (k : IntKind) (x y : Int) : Option AV := some (intV k (.ofNat (Nat.xor (digs k x) (digs k y))))
def bAndNot (k : IntKind) (x y : Int) : Option AV := some (intV k (.ofNat (Nat.land (digs k x) (Nat.xor (lim k - 1) (digs k y)))))
def bEql (_ : IntKind) (x y : Int) : Option AV := some (.bool (eqI x y))
def bNeq (_ : IntKind) (x y : Int) : Option AV := some (.bool (!eqI x y))
def bLss (_ : IntKind) (x y : Int) : Option AV := some (.bool (ltI x y))
def bLeq (_ : IntKind) (x y : Int) : Option AV := some (.bool (!ltI y x))
def bGtr (_ : IntKind) (x y : Int) : Option AV := some (.bool (ltI y x))
def bGeq (_ : IntKind) (x y : Int) : Option AV := some (.bool (!ltI x y))
def bNone (_ : IntKind) (_ _ : Int) : Option AV := none
def binI (op : BinOp) : IntKind → Int → Int → Option AV :=
  match op with
  | .sub => bSub
  | .mul => bMul
  | .quo => bQuo
  | .rem => bRem
  | .and => bAnd
  | .or => bOr
  | .xor => bXor
  | .andNot => bAndNot
  | .eql => bEql
  | .neq => bNeq
  | .lss => bLss
  | .leq => bLeq
  | .gtr => bGtr
  | .geq => bGeq
  | _ => bNone
/-- Shifts of numbers that are not below zero. -/
def shiftI (op : BinOp) (k : IntKind) (x y : Int) : Option AV :=
  match x, y with
  | .ofNat a, .ofNat n =>
    match op with
    | .shl => some (.int k (wrp k (.ofNat (Nat.shiftLeft a (bif Nat.blt n (bitsN k) then n else bitsN k)))))
    | .shr => some (.int k (.ofNat (Nat.shiftRight a (bif Nat.blt n (bitsN k) then n else bitsN k))))
    | _ => none
  | _, _ => none

def eqBytes : List UInt8 → List UInt8 → Bool
  | [], [] => true
  | a :: x, b :: y => bif Nat.beq a.toNat b.toNat then eqBytes x y else false
  | _, _ => false
def ltBytes : List UInt8 → List UInt8 → Bool
  | _, [] => false
  | [], _ :: _ => true
  | a :: x, b :: y => bif Nat.blt a.toNat b.toNat then true else bif Nat.beq a.toNat b.toNat then ltBytes x y else false
def binS (op : BinOp) (x y : List UInt8) : Option AV :=
  match op with
  | .add => bif Nat.blt (x.length + y.length) 1000000 then some (.str (x ++ y)) else none
  | .eql => some (.bool (eqBytes x y))
  | .neq => some (.bool (!eqBytes x y))
  | .lss => some (.bool (ltBytes x y))
  | .geq => some (.bool (!ltBytes x y))
  | _ => none

/-- Cells that are equal, of values without addresses. -/
def eqCell : AV → AV → Option Bool
  | .bool a, .bool b => some (a == b)
  | .int j a, .int k b => bif eqK j k then some (eqI a b) else none
  | .str a, .str b => some (eqBytes a b)
  | _, _ => none
def eqCells : List AV → List AV → Option Bool
  | [], [] => some true
  | a :: x, b :: y =>
    match eqCell a b with
    | some true => eqCells x y
    | r => r
  | _, _ => none
/-- Keys. -/
def eqAV : AV → AV → Option Bool
  | .agg x, .agg y => eqCells x y
  | x, y => eqCell x y

/-! ### What a value is -/
section
variable {β : Type}
noncomputable def AV.int? (v : AV) (d : β) (f : IntKind → Int → β) : β :=
  AV.rec (motive_1 := fun _ => β) (motive_2 := fun _ => Unit) d (fun _ => d) f (fun _ => d) d (fun _ _ => d) d (fun _ _ _ _ _ => d) d (fun _ => d) d (fun _ _ _ _ => d) (fun _ _ _ => d) (fun _ _ => d) (fun _ _ => d) () (fun _ _ _ _ => ()) v
noncomputable def AV.bool? (v : AV) (d : β) (f : Bool → β) : β :=
  AV.rec (motive_1 := fun _ => β) (motive_2 := fun _ => Unit) d f (fun _ _ => d) (fun _ => d) d (fun _ _ => d) d (fun _ _ _ _ _ => d) d (fun _ => d) d (fun _ _ _ _ => d) (fun _ _ _ => d) (fun _ _ => d) (fun _ _ => d) () (fun _ _ _ _ => ()) v
noncomputable def AV.ptr? (v : AV) (d : β) (f : Pos → Nat → β) : β :=
  AV.rec (motive_1 := fun _ => β) (motive_2 := fun _ => Unit) d (fun _ => d) (fun _ _ => d) (fun _ => d) d f d (fun _ _ _ _ _ => d) d (fun _ => d) d (fun _ _ _ _ => d) (fun _ _ _ => d) (fun _ _ => d) (fun _ _ => d) () (fun _ _ _ _ => ()) v
noncomputable def AV.agg? (v : AV) (d : β) (f : List AV → β) : β :=
  AV.rec (motive_1 := fun _ => β) (motive_2 := fun _ => Unit) d (fun _ => d) (fun _ _ => d) (fun _ => d) d (fun _ _ => d) d (fun _ _ _ _ _ => d) d (fun _ => d) d (fun _ _ _ _ => d) (fun _ _ _ => d) (fun cs _ => f cs) (fun _ _ => d) () (fun _ _ _ _ => ()) v
noncomputable def AV.tup? (v : AV) (d : β) (f : List AV → β) : β :=
  AV.rec (motive_1 := fun _ => β) (motive_2 := fun _ => Unit) d (fun _ => d) (fun _ _ => d) (fun _ => d) d (fun _ _ => d) d (fun _ _ _ _ _ => d) d (fun _ => d) d (fun _ _ _ _ => d) (fun _ _ _ => d) (fun _ _ => d) (fun vs _ => f vs) () (fun _ _ _ _ => ()) v
noncomputable def AV.str? (v : AV) (d : β) (f : List UInt8 → β) : β :=
  AV.rec (motive_1 := fun _ => β) (motive_2 := fun _ => Unit) d (fun _ => d) (fun _ _ => d) f d (fun _ _ => d) d (fun _ _ _ _ _ => d) d (fun _ => d) d (fun _ _ _ _ => d) (fun _ _ _ => d) (fun _ _ => d) (fun _ _ => d) () (fun _ _ _ _ => ()) v
noncomputable def AV.slice? (v : AV) (d n : β) (f : Pos → Nat → Nat → Option Nat → Nat → β) : β :=
  AV.rec (motive_1 := fun _ => β) (motive_2 := fun _ => Unit) d (fun _ => d) (fun _ _ => d) (fun _ => d) d (fun _ _ => d) n f d (fun _ => d) d (fun _ _ _ _ => d) (fun _ _ _ => d) (fun _ _ => d) (fun _ _ => d) () (fun _ _ _ _ => ()) v
noncomputable def AV.map? (v : AV) (d n : β) (f : Pos → β) : β :=
  AV.rec (motive_1 := fun _ => β) (motive_2 := fun _ => Unit) d (fun _ => d) (fun _ _ => d) (fun _ => d) d (fun _ _ => d) d (fun _ _ _ _ _ => d) n f d (fun _ _ _ _ => d) (fun _ _ _ => d) (fun _ _ => d) (fun _ _ => d) () (fun _ _ _ _ => ()) v
noncomputable def AV.func? (v : AV) (d : β) (f : FuncId → Nat → List AV → β) : β :=
  AV.rec (motive_1 := fun _ => β) (motive_2 := fun _ => Unit) d (fun _ => d) (fun _ _ => d) (fun _ => d) d (fun _ _ => d) d (fun _ _ _ _ _ => d) d (fun _ => d) d (fun g n cs _ => f g n cs) (fun _ _ _ => d) (fun _ _ => d) (fun _ _ => d) () (fun _ _ _ _ => ()) v
noncomputable def AV.iface? (v : AV) (d : β) (f : TypeId → AV → β) : β :=
  AV.rec (motive_1 := fun _ => β) (motive_2 := fun _ => Unit) d (fun _ => d) (fun _ _ => d) (fun _ => d) d (fun _ _ => d) d (fun _ _ _ _ _ => d) d (fun _ => d) d (fun _ _ _ _ => d) (fun t v _ => f t v) (fun _ _ => d) (fun _ _ => d) () (fun _ _ _ _ => ()) v
noncomputable def AObj.cells? (v : AObj) (d : β) (f : List AV → TypeId → Nat → β) : β := AObj.rec (motive := fun _ => β) f (fun _ _ _ => d) (fun _ _ _ _ => d) v
noncomputable def AObj.map? (v : AObj) (d : β) (f : TypeId → List (AV × AV × Nat) → Nat → β) : β := AObj.rec (motive := fun _ => β) (fun _ _ _ => d) f (fun _ _ _ _ => d) v
noncomputable def AObj.iter? (v : AObj) (d : β) (f : Option Pos → Nat → List Nat → Nat → β) : β := AObj.rec (motive := fun _ => β) (fun _ _ _ => d) (fun _ _ _ => d) f v
noncomputable def bi (b : Bool) (x y : β) : β := Bool.rec (motive := fun _ => β) y x b
noncomputable def Nat.cas (n : Nat) (z : β) (f : Nat → β) : β := Nat.rec (motive := fun _ => β) z (fun m _ => f m) n
noncomputable def Int.cas (n : Int) (f g : Nat → β) : β := Int.rec (motive := fun _ => β) f g n
/-- A whole number that is not below zero. -/
noncomputable def AV.nat? (v : AV) (d : β) (f : Nat → β) : β := v.int? d fun _ n => Int.cas n f fun _ => d
end

abbrev Fr := T AV
noncomputable def Fr.get (fr : Fr) (p : Pos) : AV := ob (T.get fr p) .undef fun v => v
abbrev Opd := Fr → AV
noncomputable def oT (p : Pos) : Opd := fun fr => Fr.get fr p
noncomputable def oC (v : AV) : Opd := fun _ => v
noncomputable def evs (xs : List Opd) (fr : Fr) : List AV := List.rec (motive := fun _ => List AV) [] (fun x _ ih => x fr :: ih) xs

/-! ### Cells -/
/-- The cells of a value, if it can lie in memory. -/
noncomputable def AV.cells? {β : Type} (v : AV) (d : β) (f : List AV → β) : β :=
  AV.rec (motive_1 := fun _ => β) (motive_2 := fun _ => Unit) d (fun _ => f [v]) (fun _ _ => f [v]) (fun _ => f [v]) (f [v]) (fun _ _ => f [v]) (f [v]) (fun _ _ _ _ _ => f [v]) (f [v]) (fun _ => f [v]) (f [v]) (fun _ _ _ _ => f [v]) (fun _ _ _ => f [v])
    (fun cs _ => f cs) (fun _ _ => d) () (fun _ _ _ _ => ()) v
noncomputable def lget (l : List AV) : Nat → Option AV := List.rec (motive := fun _ => Nat → Option AV) (fun _ => none) (fun a _ ih n => Nat.cas n (some a) ih) l
noncomputable def ltake (l : List AV) : Nat → Option (List AV) :=
  List.rec (motive := fun _ => Nat → Option (List AV)) (fun n => Nat.cas n (some []) fun _ => none) (fun a _ ih n => Nat.cas n (some []) fun m => ob (ih m) none fun r => some (a :: r)) l
noncomputable def lrange (l : List AV) (n : Nat) (o : Nat) : Option (List AV) :=
  Nat.rec (motive := fun _ => List AV → Option (List AV)) (fun l => ltake l n) (fun _ ih l => List.rec (motive := fun _ => Option (List AV)) none (fun _ l _ => ih l) l) o l
/-- Cells laid over others from the head on. -/
noncomputable def lover (x : List AV) : List AV → Option (List AV) :=
  List.rec (motive := fun _ => List AV → Option (List AV)) (fun l => some l) (fun a _ ih l => List.rec (motive := fun _ => Option (List AV)) none (fun _ l _ => ob (ih l) none fun r => some (a :: r)) l) x
noncomputable def lput (x : List AV) (o : Nat) (l : List AV) : Option (List AV) :=
  Nat.rec (motive := fun _ => List AV → Option (List AV)) (fun l => lover x l) (fun _ ih l => List.rec (motive := fun _ => Option (List AV)) none (fun a l _ => ob (ih l) none fun r => some (a :: r)) l) o l
noncomputable def llen (l : List AV) : Nat := List.rec (motive := fun _ => Nat) 0 (fun _ _ n => Nat.succ n) l
noncomputable def lapp (x y : List AV) : List AV := List.rec (motive := fun _ => List AV) y (fun a _ r => a :: r) x
noncomputable def fills (ps : List (Nat × Nat × Opd)) (fr : Fr) : List AV → Option (List AV) :=
  List.rec (motive := fun _ => List AV → Option (List AV)) (fun z => some z)
    (fun p _ ih z => (p.2.2 fr).cells? none fun cs => bi (Nat.beq (llen cs) p.2.1) (ob (lput cs p.1 z) none ih) none) ps
noncomputable def bytesOf (l : List AV) : Option (List UInt8) :=
  List.rec (motive := fun _ => Option (List UInt8)) (some []) (fun a _ ih => a.int? none fun k n => bi (eqK k .u8) (Int.cas n (fun m => ob ih none fun r => some (UInt8.ofNat m :: r)) fun _ => none) none) l
noncomputable def ofBytes (l : List UInt8) : List AV := List.rec (motive := fun _ => List AV) [] (fun b _ r => .int .u8 (.ofNat b.toNat) :: r) l
noncomputable def rep (z : List AV) (n : Nat) : List AV := Nat.rec (motive := fun _ => List AV) [] (fun _ r => lapp z r) n
noncomputable def mfind (k : AV) (es : List (AV × AV × Nat)) : Option (Option AV) :=
  List.rec (motive := fun _ => Option (Option AV)) (some none) (fun e _ ih => ob (eqAV e.1 k) none fun b => bi b (some (some e.2.1)) ih) es
noncomputable def mput (k v : AV) (c : Nat) (es : List (AV × AV × Nat)) : Option (List (AV × AV × Nat) × Bool) :=
  List.rec (motive := fun _ => Option (List (AV × AV × Nat) × Bool)) (some ([(k, v, c)], true))
    (fun e es ih => ob (eqAV e.1 k) none fun b => bi b (some ((k, v, e.2.2) :: es, false)) (ob ih none fun r => some (e :: r.1, r.2))) es
noncomputable def mdel (k : AV) (es : List (AV × AV × Nat)) : Option (List (AV × AV × Nat)) :=
  List.rec (motive := fun _ => Option (List (AV × AV × Nat))) (some []) (fun e es ih => ob (eqAV e.1 k) none fun b => bi b (some es) (ob ih none fun r => some (e :: r))) es
noncomputable def mem (n : Nat) (l : List Nat) : Bool := List.rec (motive := fun _ => Bool) false (fun a _ r => bi (Nat.beq a n) true r) l
noncomputable def mleft (seen : List Nat) (es : List (AV × AV × Nat)) : List (AV × AV × Nat) :=
  List.rec (motive := fun _ => List (AV × AV × Nat)) [] (fun e _ r => bi (mem e.2.2 seen) r (e :: r)) es
noncomputable def mborn (n : Nat) (es : List (AV × AV × Nat)) : Option (AV × AV) :=
  List.rec (motive := fun _ => Option (AV × AV)) none (fun e _ r => bi (Nat.beq e.2.2 n) (some (e.1, e.2.1)) r) es

/-- What a value without addresses is in the model. -/
def concS : AV → Option Value
  | .bool b => some (.bool b)
  | .int k n => some (.int k n)
  | .str s => some (.string ⟨s.toArray⟩)
  | _ => none
def concL : List AV → Option (List Value)
  | [] => some []
  | a :: l =>
    match concS a, concL l with
    | some v, some r => some (v :: r)
    | _, _ => none
def conc : AV → Option Value
  | .agg cs =>
    match concL cs with
    | some l => some (.agg l.toArray)
    | none => none
  | a => concS a

/-! ### Operations -/
inductive E where
  | no
  | ok (v : AV) (h : H)
abbrev XOp := Fr → H → E
noncomputable def eo (x : Option AV) (h : H) : E := ob x .no fun v => .ok v h

noncomputable def xMv (x : Opd) : XOp := fun fr h => .ok (x fr) h
noncomputable def xNil (x : Opd) : XOp := fun fr h => (x fr).ptr? .no fun b o => .ok (.ptr b o) h
noncomputable def xPick (c a b : Opd) : XOp := fun fr h => (c fr).bool? .no fun t => .ok (bi t (a fr) (b fr)) h
noncomputable def xBox (t : TypeId) (x : Opd) : XOp := fun fr h => (x fr).cells? .no fun cs => .ok (.ptr h.nx 0) (h.new (.cells cs t 0))
noncomputable def xZero (t : TypeId) (z : List AV) : XOp := fun _ h => .ok (.ptr h.nx 0) (h.new (.cells z t 0))
noncomputable def xBuild (z : List AV) (ps : List (Nat × Nat × Opd)) : XOp := fun fr h => ob (fills ps fr z) .no fun cs => .ok (.agg cs) h
noncomputable def xBuildS (e : TypeId) (sz n : Nat) (z : List AV) (ps : List (Nat × Nat × Opd)) : XOp := fun fr h =>
  ob (fills ps fr z) .no fun cs => .ok (.slice h.nx 0 n (some n) sz) (h.new (.cells cs e 0))
noncomputable def cellsAt (h : H) (b : Pos) (d : E) (f : List AV → TypeId → Nat → E) : E := ob (h.obj b) d fun o => o.cells? d f
noncomputable def mapAt (h : H) (b : Pos) (d : E) (f : TypeId → List (AV × AV × Nat) → Nat → E) : E := ob (h.obj b) d fun o => o.map? d f
noncomputable def xLd (x : Opd) : XOp := fun fr h => (x fr).ptr? .no fun b o => cellsAt h b .no fun cs _ _ => eo (lget cs o) h
noncomputable def xLdn (n : Nat) (x : Opd) : XOp := fun fr h => (x fr).ptr? .no fun b o => cellsAt h b .no fun cs _ _ => ob (lrange cs n o) .no fun v => .ok (.agg v) h
noncomputable def stTo (h : H) (b : Pos) (o : Nat) (cs : List AV) (t : TypeId) (fz : Nat) (v : List AV) : E :=
  bi (Nat.ble fz o) (ob (lput v o cs) .no fun cs' => .ok .undef (h.put b (.cells cs' t fz))) .no
noncomputable def xSt (n : Nat) (a x : Opd) : XOp := fun fr h => (a fr).ptr? .no fun b o => cellsAt h b .no fun cs t fz =>
  (x fr).cells? .no fun v => bi (Nat.beq (llen v) n) (stTo h b o cs t fz v) .no
noncomputable def xInt (f : IntKind → Int → Int → Option AV) (x y : Opd) : XOp := fun fr h => (x fr).int? .no fun j a => (y fr).int? .no fun k b => bi (eqK j k) (eo (f j a b) h) .no
/-- A number of which the bounds are known. -/
noncomputable def AV.rng? {β : Type} (v : AV) (d : β) (f : IntKind → Int → Int → β) : β := v.iface? d fun t a => bi (Nat.beq t 16777217) (a.agg? d fun l => List.rec (motive := fun _ => β) d (fun x l _ => List.rec (motive := fun _ => β) d (fun y l _ => List.rec (motive := fun _ => β) (x.int? d fun k lo => y.int? d fun _ hi => f k lo hi) (fun _ _ _ => d) l) l) l) d
noncomputable def cmpR (op : BinOp) (lo hi b : Int) (h : H) : E :=
  match op with
  | .lss => bi (ltI hi b) (.ok (.bool true) h) (bi (ltI lo b) .no (.ok (.bool false) h))
  | .geq => bi (ltI hi b) (.ok (.bool false) h) (bi (ltI lo b) .no (.ok (.bool true) h))
  | .gtr => bi (ltI b lo) (.ok (.bool true) h) (bi (ltI b hi) .no (.ok (.bool false) h))
  | .leq => bi (ltI b lo) (.ok (.bool false) h) (bi (ltI b hi) .no (.ok (.bool true) h))
  | _ => .no
noncomputable def xCmp (op : BinOp) (x y : Opd) : XOp := fun fr h => (x fr).int? ((x fr).rng? .no fun k lo hi => (y fr).int? .no fun j b => bi (eqK k j) (cmpR op lo hi b h) .no) fun j a => (y fr).int? .no fun k b => bi (eqK j k) (eo (binI op j a b) h) .no
noncomputable def xStr (op : BinOp) (x y : Opd) : XOp := fun fr h => (x fr).str? .no fun a => (y fr).str? .no fun b => eo (binS op a b) h
noncomputable def xShf (op : BinOp) (x y : Opd) : XOp := fun fr h => (x fr).int? .no fun k a => (y fr).int? .no fun _ b => eo (shiftI op k a b) h
/-- Whether a value is a nil one, and of what. -/
noncomputable def AV.nilK (v : AV) : Option (Nat × Bool) :=
  AV.rec (motive_1 := fun _ => Option (Nat × Bool)) (motive_2 := fun _ => Unit) none (fun _ => none) (fun _ _ => none) (fun _ => none) (some (0, true)) (fun _ _ => some (0, false)) (some (1, true)) (fun _ _ _ _ _ => some (1, false)) (some (2, true)) (fun _ => some (2, false))
    (some (3, true)) (fun _ _ _ _ => some (3, false)) (fun _ _ _ => none) (fun _ _ => none) (fun _ _ => none) () (fun _ _ _ _ => ()) v
noncomputable def neB (ne b : Bool) : AV := .bool (bi ne (bi b false true) b)
noncomputable def xEqN (kind : Nat) (ne : Bool) (x y : Opd) : XOp := fun fr h => ob (x fr).nilK .no fun a => ob (y fr).nilK .no fun b =>
  bi (Nat.beq a.1 kind) (bi (Nat.beq b.1 kind) (bi (bi a.2 true b.2) (.ok (neB ne (bi a.2 b.2 false)) h) .no) .no) .no
noncomputable def xEqB (ne : Bool) (x y : Opd) : XOp := fun fr h => (x fr).bool? .no fun a => (y fr).bool? .no fun b => .ok (neB ne (bi a b (bi b false true))) h
/-- Aggregates: of keys' types alone. -/
noncomputable def xEqA (ne : Bool) (key : AV → Bool) (x y : Opd) : XOp := fun fr h => bi (key (x fr)) (bi (key (y fr)) ((x fr).agg? .no fun a => (y fr).agg? .no fun b => ob (eqCells a b) .no fun r => .ok (neB ne r) h) .no) .no
noncomputable def xNot (x : Opd) : XOp := fun fr h => (x fr).bool? .no fun b => .ok (.bool (bi b false true)) h
noncomputable def xNeg (x : Opd) : XOp := fun fr h => (x fr).int? .no fun k n => .ok (.int k (wrp k (0 - n))) h
noncomputable def xCompl (x : Opd) : XOp := fun fr h => (x fr).int? .no fun k n => .ok (.int k (wrp k (.ofNat (Nat.xor (lim k - 1) (digs k n))))) h
noncomputable def xConv (k : IntKind) (x : Opd) : XOp := fun fr h => (x fr).int? .no fun _ n => .ok (.int k (wrp k n)) h
noncomputable def xS2b (e : TypeId) (x : Opd) : XOp := fun fr h => (x fr).str? .no fun s => .ok (.slice h.nx 0 s.length none 1) (h.new (.cells (ofBytes s) e 0))
noncomputable def xB2s (x : Opd) : XOp := fun fr h => (x fr).slice? .no (.ok (.str []) h) fun b o n _ _ => cellsAt h b .no fun cs _ _ =>
  ob (lrange cs n o) .no fun v => ob (bytesOf v) .no fun s => .ok (.str s) h
noncomputable def xClos (f : FuncId) (first caps : List Opd) : XOp := fun fr h => .ok (.func f first.length (evs (first ++ caps) fr)) h
noncomputable def xMkmap (kt : TypeId) : XOp := fun _ h => .ok (.map h.nx) (h.new (.map kt [] 0))
noncomputable def xMksl (e : TypeId) (sz bytes : Nat) (z : List AV) (l c : Opd) : XOp := fun fr h => (l fr).nat? .no fun n => (c fr).nat? .no fun m =>
  bi (Nat.ble n m) (bi (Nat.blt (m * bytes) 1000000000) (bi (Nat.blt m 1000000000) (.ok (.slice h.nx 0 n (some m) sz) (h.new (.cells (rep z m) e 0))) .no) .no) .no
/-- The bounds of a slice expression: none of them may be wrong. -/
noncomputable def optN (x : Option Opd) (fr : Fr) (d : E) (f : Option Nat → E) : E := ob x (f none) fun x => (x fr).nat? d fun n => f (some n)
noncomputable def sliceB (len : Nat) (cap lo hi : Option Nat) (f : Nat → Nat → Option Nat → E) : E :=
  bi (Nat.ble (ob hi len fun h => h) (ob cap len fun c => c)) (bi (Nat.ble (ob lo 0 fun l => l) (ob hi len fun h => h)) (f (ob lo 0 fun l => l) (ob hi len fun h => h) cap) .no) .no
noncomputable def sliceM (len : Nat) (cap lo hi mx : Option Nat) (f : Nat → Nat → Option Nat → E) : E :=
  ob mx (sliceB len cap lo hi f) fun m => ob hi .no fun hi => bi (Nat.ble m (ob cap len fun c => c)) (sliceB len (some m) lo (some hi) f) .no
noncomputable def cutTo (b : Pos) (o sz l r : Nat) (m : Option Nat) : AV :=
  ob m (.slice b (o + l * sz) (r - l) none sz) fun m => bi (Nat.beq m l) (.slice b o (r - l) (some (m - l)) sz) (.slice b (o + l * sz) (r - l) (some (m - l)) sz)
noncomputable def xSlc (sz : Nat) (x : Opd) (lo hi mx : Option Opd) : XOp := fun fr h => optN lo fr .no fun lo => optN hi fr .no fun hi => optN mx fr .no fun mx =>
  (x fr).slice? .no (sliceM 0 (some 0) lo hi mx fun _ _ _ => .ok .nils h) fun b o n c s => bi (Nat.beq s sz) (sliceM n c lo hi mx fun l r m => .ok (cutTo b o sz l r m) h) .no
noncomputable def xSlarr (n sz : Nat) (x : Opd) (lo hi mx : Option Opd) : XOp := fun fr h => optN lo fr .no fun lo => optN hi fr .no fun hi => optN mx fr .no fun mx =>
  (x fr).ptr? .no fun b o => cellsAt h b .no fun cs _ _ => bi (Nat.ble (o + n * sz) (llen cs)) (sliceM n (some n) lo hi mx fun l r m => .ok (cutTo b o sz l r m) h) .no
noncomputable def xSlstr (x : Opd) (lo hi : Option Opd) : XOp := fun fr h => optN lo fr .no fun lo => optN hi fr .no fun hi =>
  (x fr).str? .no fun s => sliceM s.length (some s.length) lo hi none fun l r _ => .ok (.str ((s.drop l).take (r - l))) h
noncomputable def xFaddr (off : Nat) (x : Opd) : XOp := fun fr h => (x fr).ptr? .no fun b o => .ok (.ptr b (o + off)) h
/-- A part of an aggregate. -/
noncomputable def partE (cs : List AV) (off : Nat) (n : Option Nat) (h : H) : E := ob n (eo (lget cs off) h) fun n => ob (lrange cs n off) .no fun v => .ok (.agg v) h
noncomputable def xFld (off : Nat) (n : Option Nat) (x : Opd) : XOp := fun fr h => (x fr).agg? .no fun cs => partE cs off n h
noncomputable def xIaddr (sz : Nat) (x i : Opd) : XOp := fun fr h => (x fr).slice? .no .no fun b o len _ s => bi (Nat.beq s sz) ((i fr).nat? .no fun n => bi (Nat.blt n len) (.ok (.ptr b (o + n * sz)) h) .no) .no
noncomputable def xIaddrA (len sz : Nat) (x i : Opd) : XOp := fun fr h => (x fr).ptr? .no fun b o => (i fr).nat? .no fun n => bi (Nat.blt n len) (.ok (.ptr b (o + n * sz)) h) .no
noncomputable def xIdxS (x i : Opd) : XOp := fun fr h => (x fr).str? .no fun s => (i fr).nat? .no fun n => ob (s[n]?) .no fun b => .ok (.int .u8 (.ofNat b.toNat)) h
noncomputable def xIdxA (len sz : Nat) (m : Option Nat) (x i : Opd) : XOp := fun fr h => (x fr).agg? .no fun cs => (i fr).nat? .no fun n => bi (Nat.blt n len) (partE cs (n * sz) m h) .no
noncomputable def lookE (ok : Bool) (v : AV) (b : Bool) (h : H) : E := bi ok (.ok (.tuple [v, .bool b]) h) (.ok v h)
noncomputable def xLook (kt : TypeId) (key : AV → Bool) (z : AV) (ok : Bool) (x k : Opd) : XOp := fun fr h => bi (key (k fr))
  ((x fr).map? .no (lookE ok z false h) fun b => mapAt h b .no fun t es _ => bi (Nat.beq t kt) (ob (mfind (k fr) es) .no fun r => ob r (lookE ok z false h) fun v => lookE ok v true h) .no) .no
noncomputable def xMupd (kt : TypeId) (key : AV → Bool) (m k v : Opd) : XOp := fun fr h => bi (key (k fr))
  ((m fr).map? .no .no fun b => mapAt h b .no fun t es c => bi (Nat.beq t kt) (ob (mput (k fr) (v fr) c es) .no fun r => .ok .undef (h.put b (.map t r.1 (bi r.2 (c + 1) c)))) .no) .no
/-- Where a key's value stands. -/
noncomputable def mplace (k : AV) (es : List (AV × AV × Nat)) : Option (Option (AV × Nat)) :=
  List.rec (motive := fun _ => Option (Option (AV × Nat))) (some none) (fun e _ ih => ob (eqAV e.1 k) none fun b => bi b (some (some (e.2.1, e.2.2))) ih) es
noncomputable def mset (n : Nat) (v : AV) (es : List (AV × AV × Nat)) : Option (List (AV × AV × Nat)) :=
  List.rec (motive := fun _ => Option (List (AV × AV × Nat))) none (fun e es ih => bi (Nat.beq e.2.2 n) (some ((e.1, v, e.2.2) :: es)) (ob ih none fun r => some ((e.1, e.2.1, e.2.2) :: r))) es
noncomputable def xMent (kt : TypeId) (key : AV → Bool) (z : AV) (m k : Opd) : XOp := fun fr h => bi (key (k fr))
  ((m fr).map? .no .no fun b => mapAt h b .no fun t es c => bi (Nat.beq t kt) (ob (mplace (k fr) es) .no fun r =>
    ob r (ob (mput (k fr) z c es) .no fun q => .ok (.tuple [z, .int .i64 (.ofNat c)]) (h.put b (.map t q.1 (c + 1)))) fun v => ob (mput (k fr) v.1 c es) .no fun q => .ok (.tuple [v.1, .int .i64 (.ofNat v.2)]) (h.put b (.map t q.1 c))) .no) .no
noncomputable def xEst (m s v : Opd) : XOp := fun fr h => (m fr).map? .no .no fun b => mapAt h b .no fun t es c => (s fr).nat? .no fun n => ob (mset n (v fr) es) .no fun es' => .ok .undef (h.put b (.map t es' c))
noncomputable def xRng (x : Opd) : XOp := fun fr h => (x fr).map? .no (.ok (.ptr h.nx 0) (h.new (.iter none 0 [] 0))) fun b => mapAt h b .no fun _ _ c => .ok (.ptr h.nx 0) (h.new (.iter (some b) c [] c))
noncomputable def nxtE (h : H) (r b : Pos) (since : Nat) (seen : List Nat) (es : List (AV × AV × Nat)) (c : Nat) : E :=
  List.rec (motive := fun _ => E) (.ok (.tuple [.bool false]) h)
    (fun e l _ => List.rec (motive := fun _ => E) (bi (Nat.blt e.2.2 since) (.ok (.tuple [.bool true, e.1, e.2.1]) (h.put r (.iter (some b) since (seen ++ [e.2.2]) c))) .no) (fun _ _ _ => .no) l) (mleft seen es)
/-- Of the entries that the map held at the last step one is there still, or none was seen, or there is none. -/
noncomputable def stillOk (seen : List Nat) (last : Nat) (es : List (AV × AV × Nat)) : Bool :=
  List.rec (motive := fun _ => Bool) true (fun _ _ _ => List.rec (motive := fun _ => Bool) true (fun _ _ _ => List.rec (motive := fun _ => Bool) false (fun e _ r => bi (Nat.blt e.2.2 last) true r) es) es) seen
noncomputable def xNxt (x : Opd) : XOp := fun fr h => (x fr).ptr? .no fun r o => bi (Nat.beq o 0) (ob (h.obj r) .no fun it => it.iter? .no fun m since seen last =>
  ob m (.ok (.tuple [.bool false]) h) fun b => mapAt h b .no fun _ es c => bi (stillOk seen last es) (nxtE h r b since seen es c) .no) .no
noncomputable def xEntry (x : Opd) : XOp := fun fr h => (x fr).ptr? .no fun r o => bi (Nat.beq o 0) (ob (h.obj r) .no fun it => it.iter? .no fun m _ seen last =>
  ob m .no fun b => ob seen.getLast? .no fun n => mapAt h b .no fun _ es c => bi (Nat.beq c last) (ob (mborn n es) .no fun kv => .ok (.tuple [kv.1, kv.2]) h) .no) .no
noncomputable def xExt (x : Opd) (i : Nat) : XOp := fun fr h => (x fr).tup? .no fun vs => eo (lget vs i) h
noncomputable def xSid (x : Opd) : XOp := fun fr h => (x fr).str? .no fun s => .ok (.str s) h
noncomputable def xLenS (x : Opd) : XOp := fun fr h => (x fr).str? .no fun s => .ok (.int .i64 (.ofNat s.length)) h
noncomputable def xLenL (x : Opd) : XOp := fun fr h => (x fr).slice? .no (.ok (.int .i64 (.ofNat 0)) h) fun _ _ n _ _ => .ok (.int .i64 (.ofNat n)) h
noncomputable def xLenM (x : Opd) : XOp := fun fr h => (x fr).map? .no (.ok (.int .i64 (.ofNat 0)) h) fun b => mapAt h b .no fun _ es _ => .ok (.int .i64 (.ofNat es.length)) h
/-- What is appended: elements, or a text's bytes. -/
noncomputable def srcL (sz : Nat) (v : AV) (h : H) (f : Nat → List AV → E) : E :=
  v.slice? .no (f 0 []) fun b o n _ _ => cellsAt h b .no fun cs _ _ => ob (lrange cs (n * sz) o) .no fun vs => f n vs
noncomputable def srcS (v : AV) (f : Nat → List AV → E) : E := v.str? .no fun s => f s.length (ofBytes s)
noncomputable def small (n bytes : Nat) (e : E) : E := bi (Nat.blt (n * bytes) 1000000000) (bi (Nat.blt n 1000000000) e .no) .no
noncomputable def appUnk (e : TypeId) (sz : Nat) (h : H) (b : Pos) (o len n : Nat) (cs : List AV) (t : TypeId) (fz : Nat) (vs : List AV) : E :=
  bi (Nat.beq e t) (bi (Nat.beq o 0) (bi (Nat.beq (llen cs) (len * sz)) (bi (Nat.ble fz (len * sz)) (.ok (.slice h.nx 0 (len + n) none sz) ((h.kill b).new (.cells (lapp cs vs) e fz))) .no) .no) .no) .no
noncomputable def appKn (e : TypeId) (sz : Nat) (h : H) (b : Pos) (o len c n : Nat) (cs : List AV) (t : TypeId) (fz : Nat) (vs : List AV) : E :=
  bi (Nat.ble (len + n) c)
    (bi (Nat.ble fz (o + len * sz)) (ob (lput vs (o + len * sz) cs) .no fun cs' => .ok (.slice b o (len + n) (some c) sz) (h.put b (.cells cs' t fz))) .no)
    (ob (lrange cs (len * sz) o) .no fun old => .ok (.slice h.nx 0 (len + n) none sz) (h.new (.cells (lapp old vs) e 0)))
noncomputable def appTo (e : TypeId) (sz bytes : Nat) (x : AV) (h : H) (n : Nat) (vs : List AV) : E :=
  x.slice? .no (Nat.cas n (.ok .nils h) fun _ => small n bytes (.ok (.slice h.nx 0 n none sz) (h.new (.cells vs e 0))))
    fun b o len c s => bi (Nat.beq s sz) (Nat.cas n (.ok (.slice b o len c sz) h) fun _ => cellsAt h b .no fun cs t fz => small (len + n) bytes
      (ob c (appUnk e sz h b o len n cs t fz vs) fun c => appKn e sz h b o len c n cs t fz vs)) .no
noncomputable def xApp (e : TypeId) (sz bytes : Nat) (x y : Opd) : XOp := fun fr h => srcL sz (y fr) h fun n vs => appTo e sz bytes (x fr) h n vs
noncomputable def xAppS (e : TypeId) (bytes : Nat) (x y : Opd) : XOp := fun fr h => srcS (y fr) fun n vs => appTo e 1 bytes (x fr) h n vs
/-- clear of a slice. -/
noncomputable def xClr (zs : List AV) (x : Opd) : XOp := fun fr h => (x fr).slice? .no (.ok (.tuple []) h) fun b o n _ _ => Nat.cas n (.ok (.tuple []) h) fun m => cellsAt h b .no fun cs t fz =>
  bi (Nat.ble fz o) (ob (lput (rep zs (Nat.succ m)) o cs) .no fun cs' => .ok (.tuple []) (h.put b (.cells cs' t fz))) .no
/-- copy of a text's bytes into a slice that has room for all of them. -/
noncomputable def xCpyS (x y : Opd) : XOp := fun fr h => (y fr).str? .no fun s => (x fr).slice? .no .no fun b o n _ sz => bi (Nat.beq sz 1) (Nat.cas s.length (.ok (.int .i64 (.ofNat 0)) h) fun m => bi (Nat.ble (Nat.succ m) n) (cellsAt h b .no fun cs t fz =>
  bi (Nat.ble fz o) (ob (lput (ofBytes s) o cs) .no fun cs' => .ok (.int .i64 (.ofNat (Nat.succ m))) (h.put b (.cells cs' t fz))) .no) .no) .no
/-- An operation that is never carried out. -/
noncomputable def xNever (_ _ : Opd) : XOp := fun _ _ => .no
noncomputable def xDel (kt : TypeId) (key : AV → Bool) (m k : Opd) : XOp := fun fr h => bi (key (k fr))
  ((m fr).map? .no (.ok (.tuple []) h) fun b => mapAt h b .no fun t es c => bi (Nat.beq t kt) (ob (mdel (k fr) es) .no fun es' => .ok (.tuple []) (h.put b (.map t es' c))) .no) .no
noncomputable def xMin (x y : Opd) : XOp := fun fr h => (x fr).int? .no fun j a => (y fr).int? .no fun _ b => .ok (.int j (bi (ltI b a) b a)) h
noncomputable def xMax (x y : Opd) : XOp := fun fr h => (x fr).int? .no fun j a => (y fr).int? .no fun _ b => .ok (.int j (bi (ltI a b) b a)) h
noncomputable def xS2a (n : Nat) (x : Opd) : XOp := fun fr h => (x fr).slice? .no .no fun b o len _ _ => bi (Nat.ble n len) (bi (Nat.blt 0 n) (.ok (.ptr b o) h) .no) .no
noncomputable def xMki (t : TypeId) (x : Opd) : XOp := fun fr h => bi (Nat.blt t 16777216) (.ok (.iface t (x fr)) h) .no
noncomputable def xTas (t : TypeId) (x : Opd) : XOp := fun fr h => (x fr).iface? .no fun u v => bi (Nat.beq t u) (bi (Nat.blt u 16777216) (.ok v h) .no) .no
/-! Functions without a body. -/
def m64 : Nat := 18446744073709551616
noncomputable def pairE (a b : Nat) (h : H) : E := .ok (.tuple [.int .u64 (.ofNat a), .int .u64 (.ofNat b)]) h
noncomputable def three (xs : List Opd) (fr : Fr) (f : Nat → Nat → Nat → E) : E :=
  ob xs[0]? .no fun x => ob xs[1]? .no fun y => ob xs[2]? .no fun c => (x fr).nat? .no fun x => (y fr).nat? .no fun y => (c fr).nat? .no fun c => bi (Nat.ble c 1) (f x y c) .no
noncomputable def xAdd64 (xs : List Opd) : XOp := fun fr h => three xs fr fun x y c => pairE ((x + y + c) % m64) ((x + y + c) / m64) h
noncomputable def xSub64 (xs : List Opd) : XOp := fun fr h => three xs fr fun x y b => pairE ((x + m64 - y - b) % m64) (bi (Nat.blt x (y + b)) 1 0) h
/-! ### The same -/
noncomputable def and' (x y : Bool) : Bool := bi x y false
noncomputable def AV.tag (v : AV) : Nat :=
  AV.rec (motive_1 := fun _ => Nat) (motive_2 := fun _ => Unit) 0 (fun _ => 1) (fun _ _ => 2) (fun _ => 3) 4 (fun _ _ => 5) 6 (fun _ _ _ _ _ => 7) 8 (fun _ => 9) 10 (fun _ _ _ _ => 11) (fun _ _ _ => 12) (fun _ _ => 13) (fun _ _ => 14) () (fun _ _ _ _ => ()) v
noncomputable def sameO (x y : Option Nat) : Bool := ob x (ob y true fun _ => false) fun n => ob y false fun m => Nat.beq n m
noncomputable def sameAV (v : AV) : AV → Bool :=
  AV.rec (motive_1 := fun _ => AV → Bool) (motive_2 := fun _ => List AV → Bool) (fun x => Nat.beq x.tag 0) (fun b x => x.bool? false fun c => bi b c (bi c false true)) (fun k n x => x.int? false fun j m => and' (eqK k j) (eqI n m))
    (fun s x => x.str? false fun t => eqBytes s t) (fun x => Nat.beq x.tag 4) (fun b o x => x.ptr? false fun c p => and' (b.beq c) (Nat.beq o p)) (fun x => Nat.beq x.tag 6)
    (fun b o n k s x => x.slice? false false fun c p m j t => and' (b.beq c) (and' (Nat.beq o p) (and' (Nat.beq n m) (and' (sameO k j) (Nat.beq s t))))) (fun x => Nat.beq x.tag 8) (fun b x => x.map? false false fun c => b.beq c) (fun x => Nat.beq x.tag 10)
    (fun f n _ ih x => x.func? false fun g m cs => and' (Nat.beq f g) (and' (Nat.beq n m) (ih cs))) (fun t _ ih x => x.iface? false fun u y => and' (Nat.beq t u) (ih y)) (fun _ ih x => x.agg? false ih) (fun _ ih x => x.tup? false ih)
    (fun l => List.rec (motive := fun _ => Bool) true (fun _ _ _ => false) l) (fun _ _ ih1 ih2 l => List.rec (motive := fun _ => Bool) false (fun y ys _ => and' (ih1 y) (ih2 ys)) l) v
noncomputable def sameL (l m : List AV) : Bool := sameAV (.agg l) (.agg m)
noncomputable def sameObj (x y : AObj) : Bool :=
  AObj.rec (motive := fun _ => Bool) (fun cs t fz => y.cells? false fun ds u gz => and' (sameL cs ds) (and' (Nat.beq t u) (Nat.beq fz gz)))
    (fun kt es c => y.map? false fun lt fs d => and' (Nat.beq kt lt) (and' (List.rec (motive := fun _ => Bool) (List.rec (motive := fun _ => Bool) true (fun _ _ _ => false) fs) (fun _ _ _ => false) es) (Nat.beq c d))) (fun _ _ _ _ => false) x
end Ev
end Go.Proofs.YtoaimjielnempaaGreatDoor
namespace Go.Proofs.YtoaimjielnempaaGreatDoor
set_option linter.unusedVariables false
set_option linter.unusedSimpArgs false
open Go.RowKit Go.Maps
namespace Ev

def ofScalar : Value → Option AV
  | .bool b => some (.bool b)
  | .int k n => some (.int k n)
  | .string s => some (.str s.data.toList)
  | .pointer none => some .nilp
  | .slice none 0 0 => some .nils
  | .map none => some .nilm
  | .nilFunc => some .nilf
  | .nilIface => some (.iface 16777216 .undef)
  | _ => none
def ofScalars : List Value → Option (List AV)
  | [] => some []
  | v :: l =>
    match ofScalar v, ofScalars l with
    | some a, some r => some (a :: r)
    | _, _ => none
def ofVal : Value → Option AV
  | .agg cs =>
    match ofScalars cs.toList with
    | some l => some (.agg l)
    | none => none
  | v => ofScalar v

/-- An operation, made ready. -/
inductive Bx where
  | bad
  | op (kind : Nat) (f : XOp)
  | call (f : FuncId) (xs : List Opd)
  | callv (x : Opd) (xs : List Opd)

section
variable (inf : TypeId → Option TypeInfo) (und : TypeId → Option TypeDesc) (keyOk : TypeId → AV → Bool) (ext : FuncId → Option (List Opd → XOp)) (okT : Nat → Bool)
def zeroOf (t : TypeId) : Option AV :=
  match inf t with
  | some i =>
    match i.zero with
    | some v => ofVal v
    | none => none
  | none => none
def sizeT (t : TypeId) : Option Nat :=
  match inf t with
  | some i => some i.size
  | none => none
def bytesT (t : TypeId) : Option Nat :=
  match inf t with
  | some i => some i.bytes
  | none => none
/-- Size and bytes of elements that may be appended. -/
def zsz (e : TypeId) : Option (Nat × Nat) :=
  match inf e with
  | some i =>
    match i.zero with
    | some z => bif Nat.beq z.cells.size i.size && Nat.blt 0 i.size then some (i.size, i.bytes) else none
    | none => none
  | none => none
def aggT (t : TypeId) : Option Bool :=
  match und t with
  | some (.struct _) | some (.array _ _) => some true
  | some _ => some false
  | none => none
/-- none: one cell; some n: an aggregate of n cells. -/
def wideT (t : TypeId) : Option (Option Nat) :=
  match aggT und t, sizeT inf t with
  | some true, some n => some (some n)
  | some false, some _ => some none
  | _, _ => none
noncomputable def cX : Operand → Option Opd
  | .tmp t => bif okT t then some (oT (slot t)) else none
  | .const v =>
    match ofVal v with
    | some a => some (oC a)
    | none => none
  | .func f => some (oC (.func f 0 []))
  | .global _ => none
noncomputable def cXs : List Operand → Option (List Opd)
  | [] => some []
  | x :: l =>
    match cX okT x, cXs l with
    | some a, some r => some (a :: r)
    | _, _ => none
noncomputable def cO : Option Operand → Option (Option Opd)
  | none => some none
  | some x =>
    match cX okT x with
    | some a => some (some a)
    | none => none
noncomputable def fieldsAt (fs : Array Field) : List (Nat × Operand) → Option (List (Nat × Nat × Opd))
  | [] => some []
  | (i, x) :: l =>
    match fs[i]?, cX okT x, fieldsAt fs l with
    | some f, some a, some r =>
      match sizeT inf f.type with
      | some n => some ((f.offset, n, a) :: r)
      | none => none
    | _, _, _ => none
noncomputable def elemsAt (sz : Nat) : List (Nat × Operand) → Option (List (Nat × Nat × Opd))
  | [] => some []
  | (i, x) :: l =>
    match cX okT x, elemsAt sz l with
    | some a, some r => some ((i * sz, sz, a) :: r)
    | _, _ => none

noncomputable def c1 (k : Nat) (f : Opd → XOp) (x : Operand) : Bx :=
  match cX okT x with
  | some a => .op k (f a)
  | none => .bad
noncomputable def c2 (k : Nat) (f : Opd → Opd → XOp) (x y : Operand) : Bx :=
  match cX okT x, cX okT y with
  | some a, some b => .op k (f a b)
  | _, _ => .bad
noncomputable def c3 (k : Nat) (f : Opd → Opd → Opd → XOp) (x y z : Operand) : Bx :=
  match cX okT x, cX okT y, cX okT z with
  | some a, some b, some c => .op k (f a b c)
  | _, _, _ => .bad

noncomputable def cBuiltin (b : Builtin) (ts : Array TypeId) (xs : List Operand) : Bx :=
  match b, xs with
  | .len, [x] =>
    match ts[0]? with
    | some t =>
      match und t with
      | some .string => c1 okT 0 xLenS x
      | some (.slice _) => c1 okT 0 xLenL x
      | some (.map _ _) => c1 okT 1 xLenM x
      | _ => .bad
    | none => .bad
  | .append, [x, y] =>
    match ts.toList with
    | [t, u] =>
      match und t, und u with
      | some (.slice e), some .string =>
        match zsz inf e with
        | some (1, by_) => c2 okT 3 (xAppS e by_) x y
        | _ => .bad
      | some (.slice e), some (.slice _) =>
        match zsz inf e with
        | some (sz, by_) => c2 okT 3 (xApp e sz by_) x y
        | _ => .bad
      | _, _ => .bad
    | _ => .bad
  | .delete, [m, k] =>
    match ts[0]? with
    | some t =>
      match und t with
      | some (.map kt _) => c2 okT 3 (xDel kt (keyOk kt)) m k
      | _ => .bad
    | none => .bad
  | .clear, [x] =>
    match ts[0]? with
    | some t =>
      match und t with
      | some (.slice e) =>
        match zeroOf inf e with
        | some z => z.cells? .bad fun cs => c1 okT 3 (xClr cs) x
        | none => .bad
      | _ => .bad
    | none => .bad
  | .copy, [x, y] =>
    match ts[0]? with
    | some t =>
      match und t with
      | some (.slice e) =>
        match sizeT inf e with
        | some 1 => c2 okT 3 xCpyS x y
        | _ => .bad
      | _ => .bad
    | none => .bad
  | .min, [x, y] => c2 okT 0 xMin x y
  | .max, [x, y] => c2 okT 0 xMax x y
  | _, _ => .bad

noncomputable def cOp (o : Op) : Bx :=
  match o with
  | .move x | .assign x => c1 okT 0 xMv x
  | .nilCheck x => c1 okT 0 xNil x
  | .pick c a b => c3 okT 0 xPick c a b
  | .alloc t =>
    match zeroOf inf t with
    | some z => z.cells? .bad fun cs => .op 2 (xZero t cs)
    | none => .bad
  | .box t x => c1 okT 2 (xBox t) x
  | .build t ps =>
    match zeroOf inf t, und t with
    | some z, some (.struct fs) =>
      match fieldsAt inf okT fs ps.toList with
      | some l => bif fs.toList.all fun f => (sizeT inf f.type).isSome then z.cells? .bad fun cs => .op 0 (xBuild cs l) else .bad
      | none => .bad
    | some z, some (.array _ e) =>
      match sizeT inf e with
      | some sz =>
        match elemsAt okT sz ps.toList with
        | some l => z.cells? .bad fun cs => .op 0 (xBuild cs l)
        | none => .bad
      | none => .bad
    | _, _ => .bad
  | .buildSlice t n ps =>
    match und t with
    | some (.slice e) =>
      match sizeT inf e, zeroOf inf e with
      | some (sz + 1), some z =>
        match elemsAt okT (sz + 1) ps.toList with
        | some l => z.cells? .bad fun cs => bif Nat.ble (n * (sz + 1)) 16777216 && Nat.beq (llen cs) (sz + 1) then .op 2 (xBuildS e (sz + 1) n (rep cs n) l) else .bad
        | none => .bad
      | _, _ => .bad
    | _ => .bad
  | .load t a =>
    match wideT inf und t with
    | some none => c1 okT 1 xLd a
    | some (some n) => c1 okT 1 (xLdn n) a
    | none => .bad
  | .store t a x =>
    match sizeT inf t with
    | some n => c2 okT 3 (xSt n) a x
    | none => .bad
  | .binOp op t x y _ =>
    match op with
    | .shl | .shr =>
      match und t with
      | some (.int _) => c2 okT 0 (xShf op) x y
      | _ => .bad
    | .add =>
      match und t with
      | some (.int _) => c2 okT 0 (xInt bAdd) x y
      | some .string => c2 okT 0 (xStr op) x y
      | _ => .bad
    | .eql | .neq =>
      match und t with
      | some (.int _) => c2 okT 0 (xInt (binI op)) x y
      | some .string => c2 okT 0 (xStr op) x y
      | some .bool => c2 okT 0 (xEqB (match op with | .neq => true | _ => false)) x y
      | some (.pointer _) => c2 okT 0 (xEqN 0 (match op with | .neq => true | _ => false)) x y
      | some (.slice _) => c2 okT 0 (xEqN 1 (match op with | .neq => true | _ => false)) x y
      | some (.map _ _) => c2 okT 0 (xEqN 2 (match op with | .neq => true | _ => false)) x y
      | some (.func ..) => c2 okT 0 (xEqN 3 (match op with | .neq => true | _ => false)) x y
      | some (.interface _) => c2 okT 0 xNever x y
      | some (.struct _) | some (.array _ _) => c2 okT 0 (xEqA (match op with | .neq => true | _ => false) (keyOk t)) x y
      | _ => .bad
    | _ =>
      match und t with
      | some (.int _) => c2 okT 0 (xCmp op) x y
      | some .string => c2 okT 0 (xStr op) x y
      | _ => .bad
  | .unOp op _ x =>
    match op with
    | .not => c1 okT 0 xNot x
    | .neg => c1 okT 0 xNeg x
    | .xor => c1 okT 0 xCompl x
    | .plus => .bad
  | .convert s d x =>
    match und s, und d with
    | some (.int _), some (.int k) => c1 okT 0 (xConv k) x
    | some .string, some .string => c1 okT 0 xSid x
    | some .string, some (.slice e) =>
      match und e with
      | some (.int .u8) => c1 okT 3 (xS2b e) x
      | _ => .bad
    | some (.slice e), some .string =>
      match und e with
      | some (.int .u8) => c1 okT 1 xB2s x
      | _ => .bad
    | _, _ => .bad
  | .makeInterface t x =>
    match und t with
    | some (.interface _) => .bad
    | some _ => c1 okT 0 (xMki t) x
    | none => .bad
  | .makeFunc fn first caps =>
    match fn with
    | .func f =>
      match cXs okT first.toList, cXs okT caps.toList with
      | some a, some b => .op 0 (xClos f a b)
      | _, _ => .bad
    | _ => .bad
  | .makeMap t r =>
    match r, und t with
    | none, some (.map kt _) => .op 2 (xMkmap kt)
    | _, _ => .bad
  | .makeSlice t l c =>
    match und t with
    | some (.slice e) =>
      match sizeT inf e, bytesT inf e, zeroOf inf e with
      | some (sz + 1), some by_, some z => z.cells? .bad fun cs => bif Nat.beq (llen cs) (sz + 1) then c2 okT 2 (xMksl e (sz + 1) by_ cs) l c else .bad
      | _, _, _ => .bad
    | _ => .bad
  | .slice t x lo hi mx =>
    match cX okT x, cO okT lo, cO okT hi, cO okT mx with
    | some a, some l, some h, some m =>
      match und t with
      | some .string => (match m with | none => .op 0 (xSlstr a l h) | _ => .bad)
      | some (.slice e) =>
        match sizeT inf e with
        | some sz => .op 0 (xSlc sz a l h m)
        | none => .bad
      | some (.array n e) =>
        match sizeT inf e with
        | some sz => .op 1 (xSlarr n sz a l h m)
        | none => .bad
      | _ => .bad
    | _, _, _, _ => .bad
  | .fieldAddr t x i =>
    match und t with
    | some (.struct fs) =>
      match fs[i]? with
      | some f =>
        match sizeT inf f.type with
        | some (_ + 1) => c1 okT 0 (xFaddr f.offset) x
        | _ => .bad
      | none => .bad
    | _ => .bad
  | .field t x i =>
    match und t with
    | some (.struct fs) =>
      match fs[i]? with
      | some f =>
        match wideT inf und f.type with
        | some n => c1 okT 0 (xFld f.offset n) x
        | none => .bad
      | none => .bad
    | _ => .bad
  | .indexAddr t x i =>
    match und t with
    | some (.array n e) =>
      match sizeT inf e with
      | some sz => c2 okT 0 (xIaddrA n sz) x i
      | none => .bad
    | some (.slice e) =>
      match sizeT inf e with
      | some sz => c2 okT 0 (xIaddr sz) x i
      | none => .bad
    | _ => .bad
  | .index t x i =>
    match und t with
    | some (.array n e) =>
      match sizeT inf e, wideT inf und e with
      | some sz, some m => c2 okT 0 (xIdxA n sz m) x i
      | _, _ => .bad
    | some .string => c2 okT 0 xIdxS x i
    | _ => .bad
  | .lookup t x k ok =>
    match und t with
    | some (.map kt e) =>
      match zeroOf inf e with
      | some z => c2 okT 1 (xLook kt (keyOk kt) z ok) x k
      | none => .bad
    | _ => .bad
  | .mapUpdate t m k v | .insert t m k v =>
    match und t with
    | some (.map kt _) => c3 okT 3 (xMupd kt (keyOk kt)) m k v
    | _ => .bad
  | .mapEntry t m k =>
    match und t with
    | some (.map kt e) =>
      match zeroOf inf e with
      | some z => c2 okT 3 (xMent kt (keyOk kt) z) m k
      | none => .bad
    | _ => .bad
  | .entryStore _ m s v => c3 okT 3 xEst m s v
  | .range t x =>
    match und t with
    | some (.map _ _) => c1 okT 3 xRng x
    | _ => .bad
  | .next x false => c1 okT 3 xNxt x
  | .entry x => c1 okT 1 xEntry x
  | .typeAssert x _ t false =>
    match und t with
    | some (.interface _) => .bad
    | some _ => c1 okT 0 (xTas t) x
    | none => .bad
  | .sliceToArrayPointer t x =>
    match und t with
    | some (.array n _) => c1 okT 0 (xS2a n) x
    | _ => .bad
  | .extract x i => c1 okT 0 (fun a => xExt a i) x
  | .call c =>
    match c.callee with
    | .builtin b => cBuiltin inf und keyOk okT b c.argTypes c.args.toList
    | .value (.func f) =>
      match cXs okT c.args.toList with
      | some l =>
        match ext f with
        | some g => .op 0 (g l)
        | none => .call f l
      | none => .bad
    | .value x =>
      match cX okT x, cXs okT c.args.toList with
      | some a, some l => .callv a l
      | _, _ => .bad
    | _ => .bad
  | _ => .bad
end

/-! ### The run -/
inductive Q where
  | no
  | ok (fr : Fr) (h : H)
inductive R where
  | no
  | n (fr : Fr) (h : H)
  | x (id : Nat) (fr : Fr) (h : H)
  | r (fr : Fr) (h : H)
abbrev K := FuncId → List AV → H → E
/-- A number in a value is reckoned at once. -/
noncomputable def force (v : AV) (f : AV → Q) : Q :=
  AV.rec (motive_1 := fun _ => Q) (motive_2 := fun _ => Unit) (f v) (fun b => bi b (f (.bool true)) (f (.bool false)))
    (fun k n => Int.cas n (fun m => Nat.cas m (f (.int k (.ofNat 0))) fun p => f (.int k (.ofNat (Nat.succ p)))) (fun m => Nat.cas m (f (.int k (.negSucc 0))) fun p => f (.int k (.negSucc (Nat.succ p)))))
    (fun _ => f v) (f v) (fun b o => Nat.cas o (f (.ptr b 0)) fun p => f (.ptr b (Nat.succ p))) (f v)
    (fun b o n c s => Nat.cas n (f (.slice b o 0 c s)) fun p => f (.slice b o (Nat.succ p) c s)) (f v) (fun _ => f v) (f v) (fun _ _ _ _ => f v) (fun _ _ _ => f v) (fun _ _ => f v) (fun _ _ => f v) () (fun _ _ _ _ => ()) v
noncomputable def setD (fr : Fr) (d : Option Pos) (v : AV) : Fr := ob d fr fun p => T.set fr p (some v)
noncomputable def eq' (e : E) (f : AV → H → Q) : Q := E.rec (motive := fun _ => Q) .no f e
abbrev DOp := K → Fr → H → Q
noncomputable def dOp (f : XOp) (d : Option Pos) : DOp := fun _ fr h => eq' (f fr h) fun v h => force v fun v => .ok (setD fr d v) h
noncomputable def dCall (g : FuncId) (xs : List Opd) (d : Option Pos) : DOp := fun K fr h => eq' (K g (evs xs fr) h) fun v h => force v fun v => .ok (setD fr d v) h
noncomputable def dCallv (x : Opd) (xs : List Opd) (d : Option Pos) : DOp := fun K fr h => (x fr).func? .no fun g n caps =>
  eq' (K g (caps.take n ++ evs xs fr ++ caps.drop n) h) fun v h => force v fun v => .ok (setD fr d v) h
noncomputable def dGuard (p : Pos) (b : Bool) (q : DOp) (d : Option Pos) : DOp := fun K fr h =>
  (Fr.get fr p).bool? (.ok (setD fr d .undef) h) fun c => bi (bi b c (bi c false true)) (q K fr h) (.ok (setD fr d .undef) h)
inductive Bo where
  | bad
  | mk (q : DOp)
abbrev DC := K → Fr → H → R
inductive Bc where
  | bad
  | mk (c : DC)
noncomputable def qr (q : Q) (f : Fr → H → Q) : Q := Q.rec (motive := fun _ => Q) .no f q
noncomputable def qR (q : Q) (f : Fr → H → R) : R := Q.rec (motive := fun _ => R) .no f q
noncomputable def dOps (l : List Bo) (K : K) : Fr → H → Q :=
  List.rec (motive := fun _ => Fr → H → Q) (fun fr h => .ok fr h) (fun o _ ih fr h => Bo.rec (motive := fun _ => Q) .no (fun q => qr (q K fr h) ih) o) l
noncomputable def dReg (l : List Bo) : DC := fun K fr h => qR (dOps l K fr h) fun fr h => .n fr h
noncomputable def bc (c : Bc) (K : K) (fr : Fr) (h : H) : R := Bc.rec (motive := fun _ => R) .no (fun c => c K fr h) c
noncomputable def rr (r : R) (f : Fr → H → R) (g : Nat → Fr → H → R) : R := R.rec (motive := fun _ => R) .no f g (fun fr h => .r fr h) r
noncomputable def dSkip : DC := fun _ fr h => .n fr h
noncomputable def dRet : DC := fun _ fr h => .r fr h
noncomputable def dExit (id : Nat) : DC := fun _ fr h => .x id fr h
noncomputable def dSeq (a b : Bc) : DC := fun K fr h => rr (bc a K fr h) (fun fr h => bc b K fr h) fun id fr h => .x id fr h
noncomputable def dCond (x : Opd) (a b : Bc) : DC := fun K fr h => (x fr).bool? .no fun t => bi t (bc a K fr h) (bc b K fr h)
noncomputable def dBlock (id : Nat) (a : Bc) : DC := fun K fr h => rr (bc a K fr h) (fun fr h => .n fr h) fun j fr h => bi (Nat.beq j id) (.n fr h) (.x j fr h)
noncomputable def dLoop (N : Nat) (a : Bc) : DC := fun K => Nat.rec (motive := fun _ => Fr → H → R) (fun _ _ => .no) (fun _ ih fr h => rr (bc a K fr h) ih fun id fr h => .x id fr h) N


/-! ### Regions that draw their order -/
/-- An operation of such a region that is no effect. -/
structure It where
  g : Option (Pos × Bool)
  nw : Bool
  f : XOp
  d : Option Pos
noncomputable def wGo {β : Type} (g : Option (Pos × Bool)) (fr : Fr) (skip run : β) : β := ob g run fun p => (Fr.get fr p.1).bool? skip fun c => bi (bi p.2 c (bi c false true)) run skip
noncomputable def puE (f : XOp) (d : Option Pos) (fr : Fr) (h : H) : Q := eq' (f fr h) fun v _ => force v fun v => .ok (setD fr d v) h
noncomputable def mkE (f : XOp) (d : Option Pos) (fr : Fr) (h : H) : Q := eq' (f fr { t := .e, nx := h.nx }) fun v h' => ob (h'.obj h.nx) .no fun o => .ok (setD fr d v) (h.new o)
noncomputable def It.eval (x : It) (fr : Fr) (h : H) : Q := wGo x.g fr (.ok (setD fr x.d .undef) h) (bi x.nw (mkE x.f x.d fr h) (puE x.f x.d fr h))
noncomputable def sameD (d : Option Pos) (fr : Fr) (v : AV) : Bool := ob d true fun p => sameAV v (Fr.get fr p)
noncomputable def blockOf (v : AV) : Option Pos := v.ptr? (v.slice? (v.map? none none some) none fun b _ _ _ _ => some b) fun b _ => some b
noncomputable def chkP (f : XOp) (d : Option Pos) (fr : Fr) (h : H) : Bool := E.rec (motive := fun _ => Bool) false (fun v _ => sameD d fr v) (f fr h)
noncomputable def chkM (f : XOp) (d : Option Pos) (fr : Fr) (h : H) : Bool := ob d false fun p => ob (blockOf (Fr.get fr p)) false fun b =>
  E.rec (motive := fun _ => Bool) false (fun v h' => and' (sameAV v (Fr.get fr p)) (ob (h'.obj b) false fun o => ob (h.obj b) false fun o' => sameObj o o')) (f fr { t := .e, nx := b })
noncomputable def It.chk (x : It) (fr : Fr) (h : H) : Bool := wGo x.g fr (sameD x.d fr .undef) (bi x.nw (chkM x.f x.d fr h) (chkP x.f x.d fr h))
noncomputable def It.blk (x : It) (fr : Fr) : Option Pos := bi x.nw (ob x.d none fun p => blockOf (Fr.get fr p)) none
noncomputable def runSeg (l : List It) : Fr → H → Q := List.rec (motive := fun _ => Fr → H → Q) (fun fr h => .ok fr h) (fun x _ ih fr h => qr (x.eval fr h) ih) l
noncomputable def allChk (l : List It) (fr : Fr) (h : H) : Bool := List.rec (motive := fun _ => Bool) true (fun x _ r => and' (x.chk fr h) r) l
/-- No two of the blocks are one. -/
noncomputable def noBlk (b : Pos) (l : List It) (fr : Fr) : Bool := List.rec (motive := fun _ => Bool) true (fun x _ r => ob (x.blk fr) r fun c => bi (b.beq c) false r) l
noncomputable def dupFree (l : List It) (fr : Fr) : Bool := List.rec (motive := fun _ => Bool) true (fun x xs r => ob (x.blk fr) r fun b => and' (noBlk b xs fr) r) l
noncomputable def allNew (l : List It) (hs : H) (fr : Fr) : Bool := List.rec (motive := fun _ => Bool) true (fun x _ r => ob (x.blk fr) r fun b => ob (hs.obj b) r fun _ => false) l
structure StC where
  seg : List It
  opn : List It
  eff : Option DOp
noncomputable def StC.ok (s : StC) (hs : H) (fr : Fr) (h : H) : Bool := and' (allChk s.opn fr h) (and' (dupFree s.opn fr) (allNew s.seg hs fr))
noncomputable def runStages (l : List StC) (K : K) : Fr → H → Q :=
  List.rec (motive := fun _ => Fr → H → Q) (fun _ _ => .no) (fun s _ ih fr h => qr (runSeg s.seg fr h) fun fr1 h1 => bi (s.ok h fr1 h1) (ob s.eff (.ok fr1 h1) fun e => qr (e K fr1 h1) ih) .no) l
/-- What was written aside comes to its place. -/
noncomputable def fin1 (p q : Pos) (fr : Fr) : Fr := ob (T.get fr p) (T.set fr q (some .undef)) fun v => T.set fr q (some v)
noncomputable def fins (nt : Nat) (L : List (Nat × Nat)) : Fr → Fr := List.rec (motive := fun _ => Fr → Fr) (fun fr => fr) (fun x _ ih fr => ih (fin1 (slot (nt + x.1)) (slot x.1) fr)) L
noncomputable def dDraw (nt : Nat) (L : List (Nat × Nat)) (l : List StC) : DC := fun K fr h => qR (runStages l K fr h) fun fr h => .n (fins nt L fr) h

/-! What is known of such a region ahead of its run. -/
def bitAt (m n : Nat) : Bool := Nat.beq (Nat.land (Nat.shiftRight m n) 1) 1
def nthN (l : List Nat) (i : Nat) : Nat := match l[i]? with | some m => m | none => 0
def depsOf (o : Oper) : List Nat := (o.after.toList.filter fun e => Region.binds .any e).map fun e => e.on
def hasN (n : Nat) (l : List Nat) : Bool := l.any fun m => Nat.beq m n
/-- Which operations stand ahead of each. -/
def masks : List Oper → List Nat → List Nat
  | [], acc => acc
  | o :: l, acc => masks l (acc ++ [(depsOf o).foldl (fun m d => Nat.lor (Nat.lor m (Nat.shiftLeft 1 d)) (nthN acc d)) 0])
def maskOk1 (M : List Nat) (n i : Nat) (ds : List Nat) : Bool := ds.all (fun d => Nat.blt d i) && (List.range n).all fun j => !bitAt (nthN M i) j || ds.any fun d => Nat.beq d j || bitAt (nthN M d) j
def masksOk (M : List Nat) (n : Nat) : Nat → List Oper → Bool
  | _, [] => true
  | i, o :: l => maskOk1 M n i (depsOf o) && masksOk M n (i + 1) l
def wrts : Nat → List Oper → List (Nat × Nat)
  | _, [] => []
  | i, o :: l =>
    match o.dst with
    | some d => (d, i) :: wrts (i + 1) l
    | none => wrts (i + 1) l
def distinctW : List (Nat × Nat) → Bool
  | [] => true
  | (d, _) :: l => l.all (fun p => !Nat.beq p.1 d) && distinctW l
structure St where
  seg : List Nat
  opn : List Nat
  eff : Option Nat
def restOf : Option Nat → List St → List Nat
  | none, _ => []
  | some e, [] => [e]
  | some e, s :: ss => e :: (s.seg ++ restOf s.eff ss)
def okSt (M : List Nat) (s : St) : List St → Bool
  | [] => match s.eff with | none => true | some _ => false
  | s' :: ss =>
    match s.eff with
    | none => false
    | some e =>
      (restOf (some e) (s' :: ss)).all (fun i => Nat.beq i e || bitAt (nthN M i) e) && s.opn.all (fun i => !hasN i (restOf (some e) (s' :: ss)) && (bitAt (nthN M e) i || hasN i s'.opn)) &&
      s'.seg.all (fun i => hasN i s'.opn) && !hasN e (s'.seg ++ restOf s'.eff ss) && okSt M s' ss
def okReg (M : List Nat) (n : Nat) (ops : List Oper) (W : List (Nat × Nat)) : List St → Bool
  | [] => false
  | s :: ss => masksOk M n 0 ops && distinctW W && (List.range n).all (fun i => hasN i s.opn || hasN i (restOf s.eff ss)) && (s.opn.all fun i => !hasN i (restOf s.eff ss)) && (s.opn.all fun i => hasN i s.seg) && okSt M s ss
/-- The order that the run takes: effects as late as may be. -/
def planGo (deps : List (List Nat)) (eff : List Bool) (M : List Nat) (n : Nat) : Nat → List Nat → List Nat → List Nat → List St
  | 0, _, _, _ => []
  | f + 1, done, seg, opn =>
    match (List.range n).find? fun i => !hasN i done && !((eff[i]?).getD true) && ((deps[i]?).getD []).all fun d => hasN d done with
    | some i => planGo deps eff M n f (i :: done) (seg ++ [i]) opn
    | none =>
      match (List.range n).find? fun i => !hasN i done && ((deps[i]?).getD []).all fun d => hasN d done with
      | some e => { seg, opn := opn ++ seg, eff := some e } :: planGo deps eff M n f (e :: done) [] ((opn ++ seg).filter fun i => !bitAt (nthN M e) i)
      | none => [{ seg, opn := opn ++ seg, eff := none }]
section
variable (inf : TypeId → Option TypeInfo) (und : TypeId → Option TypeDesc) (keyOk : TypeId → AV → Bool) (ext : FuncId → Option (List Opd → XOp)) (N nt : Nat)
def below (nt : Nat) : Nat → Bool := fun t => Nat.blt t nt
def dstP (o : Oper) : Option (Option Pos) :=
  match o.dst with
  | some d => bif Nat.blt d nt then some (some (slot d)) else none
  | none => some none
noncomputable def cOperD (okT : Nat → Bool) (d : Option Pos) (o : Oper) : Bo :=
  match cOp inf und keyOk ext okT o.op with
  | .op _ f => .mk (dOp f d)
  | .call g xs => .mk (dCall g xs d)
  | .callv x xs => .mk (dCallv x xs d)
  | .bad => .bad
noncomputable def cGuardD (okT : Nat → Bool) (d : Option Pos) (ops : Array Oper) (o : Oper) : Bo :=
  match o.guard with
  | none => cOperD inf und keyOk ext okT d o
  | some (j, b) =>
    match ops[j]? with
    | some g =>
      match g.dst, cOperD inf und keyOk ext okT d o with
      | some p, .mk q => bif okT p then .mk (dGuard (slot p) b q d) else .bad
      | _, _ => .bad
    | none => .bad
noncomputable def cGuard (ops : Array Oper) (o : Oper) : Bo :=
  match dstP nt o with
  | some d => cGuardD inf und keyOk ext (below nt) d ops o
  | none => .bad
noncomputable def cOpers (ops : Array Oper) : List Oper → List Bo
  | [] => []
  | o :: l => cGuard inf und keyOk ext nt ops o :: cOpers ops l
/-- Variables that are assigned: written aside, so that who looks at them ahead of that finds what was. -/
def lates : Nat → List Oper → List (Nat × Nat)
  | _, [] => []
  | i, o :: l =>
    match o.dst, o.op with
    | some d, .assign _ => (d, i) :: lates (i + 1) l
    | _, _ => lates (i + 1) l
def isLate (L : List (Nat × Nat)) (t : Nat) : Bool := L.any fun p => Nat.beq p.1 t
/-- Where a temporary is written. -/
def slL (L : List (Nat × Nat)) (t : Nat) : Pos := bif isLate L t then slot (nt + t) else slot t
def dstL (L : List (Nat × Nat)) (o : Oper) : Option (Option Pos) :=
  match o.dst with
  | some d => bif Nat.blt d nt then some (some (slL nt L d)) else none
  | none => some none
/-- Which places an operation of a region may look at: none that another one writes that is not ahead of it, or, of those written aside, not behind it. -/
def okAt (W L : List (Nat × Nat)) (M : List Nat) (i : Nat) : Nat → Bool := fun t => Nat.blt t nt && W.all fun p => !Nat.beq p.1 t || (bif isLate L t then bitAt (nthN M p.2) i else bitAt (nthN M i) p.2)
noncomputable def cIt (ops : Array Oper) (W L : List (Nat × Nat)) (M : List Nat) (i : Nat) : Option It :=
  match ops[i]? with
  | none => none
  | some o =>
    match dstL nt L o, cOp inf und keyOk ext (okAt nt W L M i) o.op with
    | some d, .op k f =>
      bif Nat.ble k 2 then
        match o.guard with
        | none => some { g := none, nw := Nat.beq k 2, f, d }
        | some (j, b) =>
          match ops[j]? with
          | some g =>
            match g.dst with
            | some p => bif okAt nt W L M i p then some { g := some (slot p, b), nw := Nat.beq k 2, f, d } else none
            | none => none
          | none => none
      else none
    | _, _ => none
noncomputable def cIts (ops : Array Oper) (W L : List (Nat × Nat)) (M : List Nat) : List Nat → Option (List It)
  | [] => some []
  | i :: l =>
    match cIt inf und keyOk ext nt ops W L M i, cIts ops W L M l with
    | some x, some r => some (x :: r)
    | _, _ => none
noncomputable def cEff (ops : Array Oper) (W L : List (Nat × Nat)) (M : List Nat) (e : Nat) : Bo :=
  match ops[e]? with
  | none => .bad
  | some o =>
    match dstL nt L o with
    | some d => cGuardD inf und keyOk ext (okAt nt W L M e) d ops o
    | none => .bad
noncomputable def cSt (ops : Array Oper) (W L : List (Nat × Nat)) (M : List Nat) (s : St) : Option StC :=
  match cIts inf und keyOk ext nt ops W L M s.seg, cIts inf und keyOk ext nt ops W L M s.opn with
  | some seg, some opn =>
    match s.eff with
    | none => some { seg, opn, eff := none }
    | some e =>
      match cEff inf und keyOk ext nt ops W L M e with
      | .mk q => some { seg, opn, eff := some q }
      | .bad => none
  | _, _ => none
noncomputable def cSts (ops : Array Oper) (W L : List (Nat × Nat)) (M : List Nat) : List St → Option (List StC)
  | [] => some []
  | s :: l =>
    match cSt inf und keyOk ext nt ops W L M s, cSts ops W L M l with
    | some x, some r => some (x :: r)
    | _, _ => none
noncomputable def isEff (o : Oper) : Bool :=
  match cOp inf und keyOk ext (fun _ => true) o.op with
  | .op k _ => !Nat.ble k 2
  | _ => true
noncomputable def effs : List Oper → List Bool
  | [] => []
  | o :: l => isEff inf und keyOk ext o :: effs l
noncomputable def cDraw (ops : Array Oper) (M : List Nat) (W L : List (Nat × Nat)) (p : List St) : Bc :=
  bif Nat.ble (nt + nt) 1000000 && (L.all fun p => Nat.blt p.1 nt) && okReg M ops.size ops.toList W p then
    match cSts inf und keyOk ext nt ops W L M p with
    | some l => .mk (dDraw nt L l)
    | none => .bad
  else .bad
noncomputable def cDrawn (ops : Array Oper) : Bc :=
  cDraw inf und keyOk ext nt ops (masks ops.toList []) (wrts 0 ops.toList) (lates 0 ops.toList) (planGo (ops.toList.map depsOf) (effs inf und keyOk ext ops.toList) (masks ops.toList []) ops.size (2 * ops.size + 2) [] [] [])
noncomputable def cCode : Code → Bc
  | .skip => .mk dSkip
  | .label _ => .mk dSkip
  | .region _ ops draw => bif draw then cDrawn inf und keyOk ext nt ops else .mk (dReg (cOpers inf und keyOk ext nt ops ops.toList))
  | .seq a b => .mk (dSeq (cCode a) (cCode b))
  | .cond c a b =>
    match cX (below nt) c with
    | some x => .mk (dCond x (cCode a) (cCode b))
    | none => .bad
  | .block id c => .mk (dBlock id (cCode c))
  | .loop c => .mk (dLoop N (cCode c))
  | .exit id => .mk (dExit id)
  | .scope c => cCode c
  | .ret => .mk dRet
  | _ => .bad
/-- What a result is. -/
noncomputable def rTmp (p : Pos) : XOp := fun fr h => .ok (Fr.get fr p) h
noncomputable def cRes : List ResultVar → Option (List XOp)
  | [] => some []
  | .tmp t :: l =>
    match cRes l with
    | some r => bif Nat.blt t nt then some (rTmp (slot t) :: r) else none
    | none => none
  | .cell a t :: l =>
    bif Nat.blt a nt then
      match wideT inf und t, cRes l with
      | some none, some r => some (xLd (oT (slot a)) :: r)
      | some (some n), some r => some (xLdn n (oT (slot a)) :: r)
      | _, _ => none
    else none
inductive Bf where
  | bad
  | mk (nt : Nat) (c : Bc) (rs : List XOp)
noncomputable def cFn (f : Func) : Bf :=
  match f.body, cRes inf und f.ntmps f.results.toList with
  | some c, some r => bif Nat.ble f.ntmps 1000000 then .mk f.ntmps (cCode inf und keyOk ext N f.ntmps c) r else .bad
  | _, _ => .bad
end
noncomputable def argsIn (xs : List AV) (p : Nat) (fr : Fr) : Fr :=
  List.rec (motive := fun _ => Nat → Fr → Fr) (fun _ fr => fr) (fun x _ ih p fr => ih (p + 1) (T.set fr (slot p) (some x))) xs p fr
noncomputable def outs (rs : List XOp) (fr : Fr) (h : H) : Option (List AV) :=
  List.rec (motive := fun _ => Option (List AV)) (some []) (fun x _ ih => E.rec (motive := fun _ => Option (List AV)) none (fun v _ => ob ih none fun r => some (v :: r)) (x fr h)) rs
noncomputable def endE (rs : List XOp) (fr : Fr) (h : H) : E :=
  ob (outs rs fr h) .no fun vs => List.rec (motive := fun _ => E) (.ok (.tuple []) h) (fun v l _ => List.rec (motive := fun _ => E) (.ok v h) (fun _ _ _ => .ok (.tuple vs) h) l) vs
noncomputable def body (nt : Nat) (c : Bc) (rs : List XOp) (K : K) (xs : List AV) (h : H) : E :=
  bi (Nat.ble (llen xs) nt) (R.rec (motive := fun _ => E) .no (fun fr h => endE rs fr h) (fun _ _ _ => .no) (fun fr h => endE rs fr h) (bc c K (argsIn xs 0 .e) h)) .no
section
variable (fn : FuncId → Bf) (plug : FuncId → Option (List AV → H → E))
noncomputable def run (n : Nat) : K :=
  Nat.rec (motive := fun _ => K) (fun _ _ _ => .no) (fun _ ih f xs h => ob (plug f) (Bf.rec (motive := fun _ => E) .no (fun nt c rs => body nt c rs ih xs h) (fn f)) fun p => p xs h) n
end
end Ev
end Go.Proofs.YtoaimjielnempaaGreatDoor
namespace Go.Proofs.YtoaimjielnempaaGreatDoor
set_option linter.unusedVariables false
set_option linter.unusedSimpArgs false
open Go.RowKit Go.Maps
namespace Ev

def Pos.num : Pos → Nat
  | .h => 1
  | .o p => 2 * p.num
  | .i p => 2 * p.num + 1
theorem Pos.num_pos : ∀ p : Pos, 1 ≤ p.num
  | .h => Nat.le_refl _
  | .o p => by have := p.num_pos; simp only [Pos.num]; omega
  | .i p => by simp only [Pos.num]; omega
theorem Pos.num_succ : ∀ p : Pos, p.succ.num = p.num + 1
  | .h => rfl
  | .o p => rfl
  | .i p => by have := p.num_succ; simp only [Pos.succ, Pos.num]; omega
theorem Pos.num_inj : ∀ {p q : Pos}, p.num = q.num → p = q
  | .h, .h, _ => rfl
  | .h, .o q, e => by have := q.num_pos; simp only [Pos.num] at e; omega
  | .h, .i q, e => by have := q.num_pos; simp only [Pos.num] at e; omega
  | .o p, .h, e => by have := p.num_pos; simp only [Pos.num] at e; omega
  | .i p, .h, e => by have := p.num_pos; simp only [Pos.num] at e; omega
  | .o p, .o q, e => by rw [Pos.num_inj (p := p) (q := q) (by simp only [Pos.num] at e; omega)]
  | .i p, .i q, e => by rw [Pos.num_inj (p := p) (q := q) (by simp only [Pos.num] at e; omega)]
  | .o p, .i q, e => by simp only [Pos.num] at e; omega
  | .i p, .o q, e => by simp only [Pos.num] at e; omega
theorem posOf_num : ∀ (f n : Nat), 1 ≤ n → n < 2 ^ (f + 1) → (posOf f n).num = n
  | 0, n, h1, h2 => by simp at h2; simp [posOf, Pos.num]; omega
  | f + 1, n, h1, h2 => by
    unfold posOf
    by_cases hn : n ≤ 1
    · rw [if_pos (by simpa using hn)]
      simp only [Pos.num]; omega
    · rw [if_neg (by simpa using hn)]
      have ih := posOf_num f (n / 2) (by omega) (by rw [Nat.pow_succ] at h2; omega)
      by_cases hm : n % 2 = 0
      · rw [if_pos (by simpa using hm)]
        simp only [Pos.num, ih]; omega
      · rw [if_neg (by simpa using hm)]
        simp only [Pos.num, ih]; omega
theorem slot_num {t : Nat} (h : t < 1000000) : (slot t).num = t + 1 := posOf_num 20 (t + 1) (by omega) (by omega)
theorem slot_inj {t u : Nat} (ht : t < 1000000) (hu : u < 1000000) (h : slot t = slot u) : t = u := by
  have := slot_num ht
  rw [h, slot_num hu] at this
  omega

section
variable {α : Type}
theorem T.get_set_same (p : Pos) (x : Option α) : ∀ t : T α, (t.set p x).get p = x := by
  induction p with
  | h => intro t; cases t <;> rfl
  | o p ih => intro t; cases t with
    | e => exact ih .e
    | n l v r => exact ih l
  | i p ih => intro t; cases t with
    | e => exact ih .e
    | n l v r => exact ih r
theorem T.get_e (q : Pos) : (T.e : T α).get q = none := by cases q <;> rfl
theorem T.get_set_ne (p : Pos) (x : Option α) : ∀ (t : T α) (q : Pos), p ≠ q → (t.set p x).get q = t.get q := by
  induction p with
  | h => intro t q hq; cases t <;> cases q <;> first | exact absurd rfl hq | (show T.get .e _ = _; rw [T.get_e]; rfl) | rfl
  | o p ih =>
    intro t q hq
    cases t with
    | e =>
      cases q with
      | h => rfl
      | o q => exact (ih .e q (fun e => hq (by rw [e]))).trans (by rw [T.get_e, T.get_e])
      | i q => exact T.get_e q
    | n l v r =>
      cases q with
      | h => rfl
      | o q => exact ih l q (fun e => hq (by rw [e]))
      | i q => rfl
  | i p ih =>
    intro t q hq
    cases t with
    | e =>
      cases q with
      | h => rfl
      | i q => exact (ih .e q (fun e => hq (by rw [e]))).trans (by rw [T.get_e, T.get_e])
      | o q => exact T.get_e q
    | n l v r =>
      cases q with
      | h => rfl
      | i q => exact ih r q (fun e => hq (by rw [e]))
      | o q => rfl
end

theorem ob_some {α β : Type} {x : Option α} {d : β} {f : α → β} {y : β} (hd : y ≠ d) (h : ob x d f = y) : ∃ a, x = some a ∧ f a = y := by
  cases x with
  | none => exact absurd h.symm hd
  | some a => exact ⟨a, rfl, h⟩
@[simp] theorem ob_none_eq {α β : Type} (d : β) (f : α → β) : ob none d f = d := rfl
@[simp] theorem ob_some_eq {α β : Type} (a : α) (d : β) (f : α → β) : ob (some a) d f = f a := rfl
@[simp] theorem bi_true {β : Type} (x y : β) : bi true x y = x := rfl
@[simp] theorem bi_false {β : Type} (x y : β) : bi false x y = y := rfl
theorem bi_some {β : Type} {b : Bool} {x y z : β} (hd : z ≠ y) (h : bi b x y = z) : b = true ∧ x = z := by
  cases b
  · exact absurd h.symm hd
  · exact ⟨rfl, h⟩

/-- Values that can lie in a cell. -/
def AV.one : AV → Bool
  | .undef | .agg _ | .tuple _ => false
  | _ => true

/-- What there is of the memory for a value: which block a number stands for, which numbers live, how many were given, how large blocks are. -/
structure Cx where
  ι : Pos → Option Nat
  lv : Pos → Prop
  nx : Nat
  bs : Nat → Nat

mutual
inductive V (c : Cx) : AV → Value → Prop
  | undef : V c .undef undef
  | bool (b : Bool) : V c (.bool b) (.bool b)
  | int (k : IntKind) (n : Int) : V c (.int k n) (.int k n)
  | str (s : List UInt8) : V c (.str s) (.string ⟨s.toArray⟩)
  | nilp : V c .nilp (.pointer none)
  | ptr (b : Pos) (o x o' : Nat) : b.num < c.nx → (c.lv b → c.ι b = some x ∧ o' = o) → V c (.ptr b o) (.pointer (some ⟨x, o', none⟩))
  | nils : V c .nils (.slice none 0 0)
  | slice (b : Pos) (o n : Nat) (cap : Option Nat) (sz x o' c' : Nat) : b.num < c.nx → n ≤ c' → (∀ k, cap = some k → c' = k) →
      (c.lv b → c.ι b = some x ∧ (o' = o ∨ c' = 0) ∧ o' + c' * sz ≤ c.bs x) → V c (.slice b o n cap sz) (.slice (some ⟨x, o', none⟩) n c')
  | nilm : V c .nilm (.map none)
  | map (b : Pos) (x : Nat) : b.num < c.nx → (c.lv b → c.ι b = some x) → V c (.map b) (.map (some x))
  | nilf : V c .nilf .nilFunc
  | func (f : FuncId) (n : Nat) (cs : List AV) (vs : List Value) : VL c cs vs → n ≤ cs.length → V c (.func f n cs) (.func (.func f) (vs.take n).toArray (vs.drop n).toArray)
  | iface (t : TypeId) (a : AV) (v : Value) : V c a v → t < 16777216 → V c (.iface t a) (.iface t v)
  | nili : V c (.iface 16777216 .undef) .nilIface
  | rng (k : IntKind) (lo hi n : Int) : lo ≤ n → n ≤ hi → V c (.iface 16777217 (.agg [.int k lo, .int k hi])) (.int k n)
  | any (j : Nat) (v : Value) : v.oneCell' = true → (∀ b, v ≠ .bool b) → V c (.iface (16777218 + j) .undef) v
  | agg (cs : List AV) (vs : List Value) : VL c cs vs → (∀ a ∈ cs, a.one = true) → V c (.agg cs) (.agg vs.toArray)
  | tuple (cs : List AV) (vs : List Value) : VL c cs vs → V c (.tuple cs) (.tuple vs.toArray)
inductive VL (c : Cx) : List AV → List Value → Prop
  | nil : VL c [] []
  | cons {a : AV} {v : Value} {al : List AV} {vs : List Value} : V c a v → VL c al vs → VL c (a :: al) (v :: vs)
end

/-- A later state of the memory, or one that knows more. -/
structure Cx.Le (c d : Cx) : Prop where
  nx : c.nx ≤ d.nx
  lv : ∀ b, b.num < c.nx → d.lv b → c.lv b
  ι : ∀ b x, b.num < c.nx → d.lv b → c.ι b = some x → d.ι b = some x
  bs : ∀ b x, b.num < c.nx → d.lv b → c.ι b = some x → d.bs x = c.bs x

mutual
theorem V.mono {c d : Cx} (h : c.Le d) : ∀ {a : AV} {v : Value}, V c a v → V d a v
  | _, _, .undef => .undef
  | _, _, .bool b => .bool b
  | _, _, .int k n => .int k n
  | _, _, .str s => .str s
  | _, _, .nilp => .nilp
  | _, _, .ptr b o x o' h1 h2 => .ptr b o x o' (Nat.lt_of_lt_of_le h1 h.nx) fun hl => ⟨h.ι b x h1 hl (h2 (h.lv b h1 hl)).1, (h2 (h.lv b h1 hl)).2⟩
  | _, _, .nils => .nils
  | _, _, .slice b o n cap sz x o' c' h1 h2 h3 h4 => .slice b o n cap sz x o' c' (Nat.lt_of_lt_of_le h1 h.nx) h2 h3 fun hl =>
      have h5 := h4 (h.lv b h1 hl)
      ⟨h.ι b x h1 hl h5.1, h5.2.1, by rw [h.bs b x h1 hl h5.1]; exact h5.2.2⟩
  | _, _, .nilm => .nilm
  | _, _, .map b x h1 h2 => .map b x (Nat.lt_of_lt_of_le h1 h.nx) fun hl => h.ι b x h1 hl (h2 (h.lv b h1 hl))
  | _, _, .nilf => .nilf
  | _, _, .func f n cs vs h1 h2 => .func f n cs vs (h1.mono h) h2
  | _, _, .iface t a v h1 h2 => .iface t a v (h1.mono h) h2
  | _, _, .nili => .nili
  | _, _, .rng k lo hi n h1 h2 => .rng k lo hi n h1 h2
  | _, _, .any j v h1 h2 => .any j v h1 h2
  | _, _, .agg cs vs h1 h2 => .agg cs vs (h1.mono h) h2
  | _, _, .tuple cs vs h1 => .tuple cs vs (h1.mono h)
theorem VL.mono {c d : Cx} (h : c.Le d) : ∀ {al : List AV} {vs : List Value}, VL c al vs → VL d al vs
  | _, _, .nil => .nil
  | _, _, .cons h1 h2 => .cons (h1.mono h) (h2.mono h)
end

section
variable {c : Cx}
theorem VL.length : ∀ {al : List AV} {vs : List Value}, VL c al vs → vs.length = al.length
  | _, _, .nil => rfl
  | _, _, .cons _ h => by simp [h.length]
theorem VL.append : ∀ {al bs : List AV} {vs us : List Value}, VL c al vs → VL c bs us → VL c (al ++ bs) (vs ++ us)
  | _, _, _, _, .nil, h => h
  | _, _, _, _, .cons h1 h2, h => .cons h1 (h2.append h)
theorem VL.take : ∀ {al : List AV} {vs : List Value} (n : Nat), VL c al vs → VL c (al.take n) (vs.take n)
  | _, _, 0, _ => by simpa using VL.nil
  | _, _, _ + 1, .nil => VL.nil
  | _, _, n + 1, .cons h1 h2 => VL.cons h1 (h2.take n)
theorem VL.drop : ∀ {al : List AV} {vs : List Value} (n : Nat), VL c al vs → VL c (al.drop n) (vs.drop n)
  | _, _, 0, h => h
  | _, _, _ + 1, .nil => VL.nil
  | _, _, n + 1, .cons h1 h2 => h2.drop n
theorem VL.get : ∀ {al : List AV} {vs : List Value} (n : Nat) {a : AV}, VL c al vs → al[n]? = some a → ∃ v, vs[n]? = some v ∧ V c a v
  | _, _, 0, _, .cons h1 h2, e => by
    simp only [List.getElem?_cons_zero, Option.some.injEq] at e
    subst e
    exact ⟨_, rfl, h1⟩
  | _, _, n + 1, _, .cons h1 h2, e => h2.get n e
theorem VL.split : ∀ {al bs : List AV} {vs : List Value}, VL c (al ++ bs) vs → ∃ us ws, vs = us ++ ws ∧ VL c al us ∧ VL c bs ws
  | [], _, vs, h => ⟨[], vs, rfl, .nil, h⟩
  | a :: al, _, _, .cons h1 h2 => by
    obtain ⟨us, ws, rfl, h3, h4⟩ := h2.split
    exact ⟨_ :: us, ws, rfl, .cons h1 h3, h4⟩
theorem VL.one {a : AV} {v : Value} (h : V c a v) : VL c [a] [v] := .cons h .nil
end

/-- Entries of maps. -/
inductive ML (P : Program) (kt : TypeId) (c : Cx) : List (AV × AV × Nat) → List MapEntry → Prop
  | nil : ML P kt c [] []
  | cons {k v : AV} {n : Nat} {e : MapEntry} {es : List (AV × AV × Nat)} {fs : List MapEntry} : V c k e.key → (∃ l, keyOf P kt e.key = some l) → (∃ u, conc k = some u) → V c v e.val → e.born = n → (∀ f ∈ fs, f.key ≠ e.key) → ML P kt c es fs → ML P kt c ((k, v, n) :: es) (e :: fs)
theorem ML.mono {P : Program} {kt : TypeId} {c d : Cx} (h : c.Le d) : ∀ {es : List (AV × AV × Nat)} {fs : List MapEntry}, ML P kt c es fs → ML P kt d es fs
  | _, _, .nil => .nil
  | _, _, .cons h1 h2 h3 h4 h5 h6 h7 => .cons (h1.mono h) h2 h3 (h4.mono h) h5 h6 (h7.mono h)

/-- How many cells a block has. -/
def bsz (w : World) (x : Nat) : Nat :=
  match w.heap[x]? with
  | some (.cells c _ _) => c.size
  | _ => 0
def cx (ι : Pos → Option Nat) (h : H) (w : World) : Cx := { ι, lv := fun b => ∃ o, h.obj b = some o, nx := h.nx.num, bs := bsz w }

/-- A block is as the reckoned one. -/
def ObjR (P : Program) (c : Cx) (w : World) (x : Nat) : AObj → Prop
  | .cells cs t fz => ∃ c' lo hi, w.heap[x]? = some (.cells c' t (lo, hi)) ∧ cs.length ≤ c'.size ∧ VL c cs (c'.toList.take cs.length) ∧ (∀ a ∈ cs, a.one = true) ∧ ∀ i, lo ≤ i → i < hi → i < c'.size → i < fz
  | .map kt es k => ∃ es', w.heap[x]? = some (.map es' k) ∧ ML P kt c es es'.toList
  | .iter m since seen last => ∃ m', w.heap[x]? = some (.mapIter m' since seen.toArray last) ∧ V c (match m with | some b => .map b | none => .nilm) (.map m')

structure Rel (P : Program) (B : Nat) (W : World) (ι : Pos → Option Nat) (h : H) (w : World) : Prop where
  fresh : ∀ b o, h.obj b = some o → b.num < h.nx.num
  ob : ∀ b o x, h.obj b = some o → ι b = some x → ObjR P (cx ι h w) w x o
  inj : ∀ b b' o o' x, h.obj b = some o → h.obj b' = some o' → ι b = some x → ι b' = some x → b = b'
  base : ∀ b o x, h.obj b = some o → ι b = some x → B ≤ x
  low : B ≤ W.heap.size
  out : Below B W w

structure Ext (ι : Pos → Option Nat) (h : H) (w : World) (ι' : Pos → Option Nat) (h' : H) (w' : World) : Prop where
  nx : h.nx.num ≤ h'.nx.num
  lv : ∀ b o', b.num < h.nx.num → h'.obj b = some o' → (∃ o, h.obj b = some o) ∧ ι' b = ι b
  nw : ∀ b o' x, ¬ b.num < h.nx.num → h'.obj b = some o' → ι' b = some x → w.heap.size ≤ x ∨ ∃ b0 o, h.obj b0 = some o ∧ ι b0 = some x
  size : w.heap.size ≤ w'.heap.size
  bs : ∀ x, x < w.heap.size → bsz w' x = bsz w x
  keep : ∀ x, x < w.heap.size → (∀ b o, h.obj b = some o → ι b ≠ some x) → w'.heap[x]? = w.heap[x]?
  os : w'.os = w.os
  tape : w'.tape = w.tape
  output : w'.output = w.output

theorem ObjR.lt {P : Program} {c : Cx} {w : World} {x : Nat} {o : AObj} (h : ObjR P c w x o) : x < w.heap.size := by
  cases o with
  | cells cs t fz => obtain ⟨c', lo, hi, h1, _⟩ := h; exact (Array.getElem?_eq_some_iff.1 h1).1
  | map kt es k => obtain ⟨es', h1, _⟩ := h; exact (Array.getElem?_eq_some_iff.1 h1).1
  | iter m s n l => obtain ⟨m', h1, _⟩ := h; exact (Array.getElem?_eq_some_iff.1 h1).1

section
variable {P : Program} {B : Nat} {W : World} {ι ι' ι'' : Pos → Option Nat} {h h' h'' : H} {w w' w'' : World}
theorem Ext.refl (ι : Pos → Option Nat) (h : H) (w : World) : Ext ι h w ι h w :=
  ⟨Nat.le_refl _, fun _ o _ e => ⟨⟨o, e⟩, rfl⟩, fun b o' x hn e hx => .inr ⟨b, o', e, hx⟩, Nat.le_refl _, fun _ _ => rfl, fun _ _ _ => rfl, rfl, rfl, rfl⟩
theorem Ext.le (e : Ext ι h w ι' h' w') (r : Rel P B W ι h w) : (cx ι h w).Le (cx ι' h' w') := by
  refine ⟨e.nx, fun b hb hl => ?_, fun b x hb hl hx => ?_, fun b x hb hl hx => ?_⟩
  · obtain ⟨o', ho⟩ := hl
    exact (e.lv b o' hb ho).1
  · obtain ⟨o', ho⟩ := hl
    exact ((e.lv b o' hb ho).2).trans hx
  · obtain ⟨o', ho⟩ := hl
    obtain ⟨⟨o, h1⟩, _⟩ := e.lv b o' hb ho
    exact e.bs x (r.ob b o x h1 hx).lt
theorem Ext.trans (r : Rel P B W ι h w) (e : Ext ι h w ι' h' w') (e' : Ext ι' h' w' ι'' h'' w'') : Ext ι h w ι'' h'' w'' := by
  refine ⟨Nat.le_trans e.nx e'.nx, fun b o'' hb ho => ?_, fun b o'' x hb ho hx => ?_, Nat.le_trans e.size e'.size, fun x hx => ?_, fun x hx hn => ?_, e'.os.trans e.os, e'.tape.trans e.tape, e'.output.trans e.output⟩
  · obtain ⟨⟨o', h1⟩, h2⟩ := e'.lv b o'' (Nat.lt_of_lt_of_le hb e.nx) ho
    obtain ⟨h3, h4⟩ := e.lv b o' hb h1
    exact ⟨h3, h2.trans h4⟩
  · by_cases hb' : b.num < h'.nx.num
    · obtain ⟨⟨o', h1⟩, h2⟩ := e'.lv b o'' hb' ho
      exact e.nw b o' x hb h1 (h2.symm.trans hx)
    · rcases e'.nw b o'' x hb' ho hx with h1 | ⟨b0, o0, h1, h2⟩
      · exact .inl (Nat.le_trans e.size h1)
      · by_cases hb0 : b0.num < h.nx.num
        · obtain ⟨⟨o1, h3⟩, h4⟩ := e.lv b0 o0 hb0 h1
          exact .inr ⟨b0, o1, h3, h4.symm.trans h2⟩
        · exact e.nw b0 o0 x hb0 h1 h2
  · rw [e'.bs x (Nat.lt_of_lt_of_le hx e.size), e.bs x hx]
  · rw [e'.keep x (Nat.lt_of_lt_of_le hx e.size) ?_, e.keep x hx hn]
    intro b o ho hb
    by_cases hlt : b.num < h.nx.num
    · obtain ⟨⟨o1, h3⟩, h4⟩ := e.lv b o hlt ho
      exact hn b o1 h3 (h4.symm.trans hb)
    · rcases e.nw b o x hlt ho hb with h1 | ⟨b0, o0, h1, h2⟩
      · omega
      · exact hn b0 o0 h1 h2
/-- What lies outside stays. -/
theorem Ext.out (r : Rel P B W ι h w) (e : Ext ι h w ι' h' w') : Below B W w' := by
  refine ⟨e.os.trans r.out.os, e.tape.trans r.out.tape, e.output.trans r.out.output, Nat.le_trans r.out.size e.size, fun k hk => ?_⟩
  by_cases hlt : k < w.heap.size
  · rw [e.keep k hlt fun b o ho hb => absurd (r.base b o k ho hb) (by omega)]
    exact r.out.block k hk
  · have h2 := r.out.size
    have h3 := r.low
    omega
end
end Ev
end Go.Proofs.YtoaimjielnempaaGreatDoor
namespace Go.Proofs.YtoaimjielnempaaGreatDoor
set_option linter.unusedVariables false
set_option linter.unusedSimpArgs false
open Go.RowKit Go.Maps
namespace Ev
/-- The variable's block. -/
def errB : Nat := 0
def Fits (P : Program) (B : Nat) (W : World) : Prop := ∃ ev, W.cell? ⟨errB, 0, none⟩ = some ev ∧ (ev = .nilIface ∨ ∃ te pe, ev = .iface te pe) ∧ errB < B
theorem Fits.on {P : Program} {B : Nat} {W w : World} {ι : Pos → Option Nat} {h : H} (fit : Fits P B W) (rel : Rel P B W ι h w) : Fits P w.heap.size w := by
  obtain ⟨ev, h1, h2, h3⟩ := fit
  refine ⟨ev, (rel.out.cell (p := ⟨errB, 0, none⟩) h3).trans h1, h2, ?_⟩
  have h4 := rel.low
  have h5 := rel.out.size
  omega
theorem Fits.now {P : Program} {B : Nat} {W w : World} {ι : Pos → Option Nat} {h : H} (fit : Fits P B W) (rel : Rel P B W ι h w) : ∃ ev, w.cell? ⟨errB, 0, none⟩ = some ev ∧ (ev = .nilIface ∨ ∃ te pe, ev = .iface te pe) := by
  obtain ⟨ev, h1, h2, h3⟩ := fit.on rel
  exact ⟨ev, h1, h2⟩
end Ev
end Go.Proofs.YtoaimjielnempaaGreatDoor
namespace Go.Proofs.YtoaimjielnempaaGreatDoor
set_option linter.unusedVariables false
set_option linter.unusedSimpArgs false
open Go.RowKit Go.Maps
namespace Ev

section
variable {v : AV} {r : AV} {h h' : H}
theorem int_ok {f : IntKind → Int → E} (e : v.int? E.no f = .ok r h) : ∃ k n, v = .int k n ∧ f k n = .ok r h := by cases v <;> first | cases e | exact ⟨_, _, rfl, e⟩
theorem bool_ok {f : Bool → E} (e : v.bool? E.no f = .ok r h) : ∃ b, v = .bool b ∧ f b = .ok r h := by cases v <;> first | cases e | exact ⟨_, rfl, e⟩
theorem ptr_ok {f : Pos → Nat → E} (e : v.ptr? E.no f = .ok r h) : ∃ b o, v = .ptr b o ∧ f b o = .ok r h := by cases v <;> first | cases e | exact ⟨_, _, rfl, e⟩
theorem agg_ok {f : List AV → E} (e : v.agg? E.no f = .ok r h) : ∃ cs, v = .agg cs ∧ f cs = .ok r h := by cases v <;> first | cases e | exact ⟨_, rfl, e⟩
theorem tup_ok {f : List AV → E} (e : v.tup? E.no f = .ok r h) : ∃ cs, v = .tuple cs ∧ f cs = .ok r h := by cases v <;> first | cases e | exact ⟨_, rfl, e⟩
theorem str_ok {f : List UInt8 → E} (e : v.str? E.no f = .ok r h) : ∃ s, v = .str s ∧ f s = .ok r h := by cases v <;> first | cases e | exact ⟨_, rfl, e⟩
theorem iface_ok {f : TypeId → AV → E} (e : v.iface? E.no f = .ok r h) : ∃ t a, v = .iface t a ∧ f t a = .ok r h := by cases v <;> first | cases e | exact ⟨_, _, rfl, e⟩
theorem nat_ok {f : Nat → E} (e : v.nat? E.no f = .ok r h) : ∃ k n, v = .int k (.ofNat n) ∧ f n = .ok r h := by
  obtain ⟨k, n, rfl, e⟩ := int_ok e
  cases n with
  | ofNat n => exact ⟨k, n, rfl, e⟩
  | negSucc n => cases e
theorem slice_ok {d n : E} {f : Pos → Nat → Nat → Option Nat → Nat → E} (e : v.slice? d n f = .ok r h) : (v = .nils ∧ n = .ok r h) ∨ (∃ b o l c s, v = .slice b o l c s ∧ f b o l c s = .ok r h) ∨ d = .ok r h := by
  cases v <;> first | exact .inr (.inr e) | exact .inl ⟨rfl, e⟩ | exact .inr (.inl ⟨_, _, _, _, _, rfl, e⟩)
theorem slice_ok' {n : E} {f : Pos → Nat → Nat → Option Nat → Nat → E} (e : v.slice? E.no n f = .ok r h) : (v = .nils ∧ n = .ok r h) ∨ ∃ b o l c s, v = .slice b o l c s ∧ f b o l c s = .ok r h := by
  cases v <;> first | exact .inl ⟨rfl, e⟩ | exact .inr ⟨_, _, _, _, _, rfl, e⟩ | cases e
theorem map_ok {n : E} {f : Pos → E} (e : v.map? E.no n f = .ok r h) : (v = .nilm ∧ n = .ok r h) ∨ ∃ b, v = .map b ∧ f b = .ok r h := by
  cases v <;> first | exact .inl ⟨rfl, e⟩ | exact .inr ⟨_, rfl, e⟩ | cases e
theorem cells_ok {f : List AV → E} (e : v.cells? E.no f = .ok r h) : (∃ cs, v = .agg cs ∧ f cs = .ok r h) ∨ (v.one = true ∧ f [v] = .ok r h) := by
  cases v <;> first | cases e | exact .inl ⟨_, rfl, e⟩ | exact .inr ⟨rfl, e⟩
theorem obE {α : Type} {x : Option α} {f : α → E} (e : ob x E.no f = .ok r h) : ∃ a, x = some a ∧ f a = .ok r h := ob_some (by simp) e
theorem biE {b : Bool} {x : E} (e : bi b x E.no = .ok r h) : b = true ∧ x = .ok r h := bi_some (by simp) e
theorem okE {a b : AV} {h h' : H} (e : E.ok a h = .ok b h') : a = b ∧ h = h' := by cases e; exact ⟨rfl, rfl⟩
theorem eoE {x : Option AV} {h h' : H} (e : eo x h = .ok r h') : x = some r ∧ h = h' := by
  obtain ⟨a, rfl, e⟩ := obE e
  cases e
  exact ⟨rfl, rfl⟩
end

/-! ### Numbers -/
theorem lim_eq (k : IntKind) : (lim k : Int) = 2 ^ k.bits := by cases k <;> rfl
theorem lim_pos (k : IntKind) : 0 < lim k := by cases k <;> decide
theorem lim_nat (k : IntKind) : lim k = 2 ^ k.bits := by cases k <;> rfl
theorem bitsN_eq (k : IntKind) : bitsN k = k.bits := by cases k <;> rfl
theorem digs_eq (k : IntKind) (n : Int) : (digs k n : Int) = n % (lim k : Int) := by
  cases n with
  | ofNat m => simp [digs]
  | negSucc m =>
    have h := lim_pos k
    have h2 := Nat.mod_lt m h
    simp only [digs]
    rw [Int.negSucc_emod _ (by omega)]
    omega
theorem digs_lt (k : IntKind) (n : Int) : digs k n < lim k := by
  have h := lim_pos k
  cases n with
  | ofNat m => exact Nat.mod_lt m h
  | negSucc m => simp only [digs]; omega
theorem wrp_eq (k : IntKind) (n : Int) : wrp k n = k.wrap n := by
  have hd := digs_eq k n
  have hl := digs_lt k n
  unfold wrp IntKind.wrap
  rw [← lim_eq k, ← hd]
  generalize digs k n = r at *
  have key : ∀ a b : Nat, a ≤ b → r < b → (bif Nat.blt r a then (Int.ofNat r) else Int.negSucc (b - 1 - r)) = if (r : Int) ≥ a then (r : Int) - b else r := by
    intro a b hab hr
    by_cases h : r < a
    · rw [if_neg (by omega)]
      have : Nat.blt r a = true := by simpa [Nat.blt_eq] using h
      rw [this]; rfl
    · rw [if_pos (by omega)]
      have : Nat.blt r a = false := by rw [Bool.eq_false_iff]; simpa [Nat.blt_eq] using h
      rw [this]
      show Int.negSucc (b - 1 - r) = _
      omega
  have keyU : ∀ b : Nat, r < b → (bif Nat.blt r b then (Int.ofNat r) else Int.negSucc (b - 1 - r)) = (r : Int) := by
    intro b hr
    have : Nat.blt r b = true := by simpa [Nat.blt_eq] using hr
    rw [this]; rfl
  cases k
  all_goals simp only [half, lim, IntKind.signed, IntKind.bits, Bool.false_and, Bool.true_and] at *
  all_goals first
    | (rw [key _ _ (by decide) hl]; simp; done)
    | (rw [keyU _ hl]; simp; done)
theorem eqI_eq (x y : Int) : eqI x y = (x == y) := by
  cases x with
  | ofNat a => cases y with
    | ofNat b => by_cases e : a = b
                 · subst e; simp [eqI]
                 · have h1 : Nat.beq a b = false := by rw [Bool.eq_false_iff]; simpa using e
                   rw [eqI, h1]; symm; rw [beq_eq_false_iff_ne]; intro h; exact e (by cases h; rfl)
    | negSucc b => rfl
  | negSucc a => cases y with
    | ofNat b => rfl
    | negSucc b => by_cases e : a = b
                   · subst e; simp [eqI]
                   · have h1 : Nat.beq a b = false := by rw [Bool.eq_false_iff]; simpa using e
                     rw [eqI, h1]; symm; rw [beq_eq_false_iff_ne]; intro h; exact e (by cases h; rfl)
theorem blt_eq (a b : Nat) : Nat.blt a b = decide (a < b) := by
  by_cases h : a < b
  · rw [decide_eq_true h]; simpa [Nat.blt_eq] using h
  · rw [decide_eq_false h, Bool.eq_false_iff]; simpa [Nat.blt_eq] using h
theorem ltI_eq (x y : Int) : ltI x y = decide (x < y) := by
  cases x with
  | ofNat a => cases y with
    | ofNat b => rw [ltI, blt_eq]; exact decide_eq_decide.2 (by show a < b ↔ (a : Int) < (b : Int); omega)
    | negSucc b => rw [ltI]; symm; exact decide_eq_false (by show ¬ (a : Int) < _; omega)
  | negSucc a => cases y with
    | ofNat b => rw [ltI]; symm; exact decide_eq_true (by show _ < (b : Int); omega)
    | negSucc b => rw [ltI, blt_eq]; exact decide_eq_decide.2 (by omega)
theorem eqK_eq {j k : IntKind} (h : eqK j k = true) : j = k := by
  cases j <;> cases k <;> first | rfl | (exfalso; revert h; decide)

theorem intV_eq (k : IntKind) (n : Int) : intV k n = .int k (k.wrap n) := by rw [intV, wrp_eq]
theorem digs_bits (k : IntKind) (n : Int) : (BitVec.ofInt k.bits n).toNat = digs k n := by
  have h := digs_eq k n
  rw [lim_eq] at h
  rw [BitVec.toNat_ofInt]
  have h2 : ((2 ^ k.bits : Nat) : Int) = (2 : Int) ^ k.bits := by simp
  rw [h2, ← h]
  simp
theorem digs_toNat (k : IntKind) (n : Int) : (n % 2 ^ k.bits).toNat = digs k n := by
  rw [← lim_eq, ← digs_eq]
  rfl
section
variable {P : Program} {c : Cx}
/-- What an operation on two numbers gives. -/
theorem s_int {op : BinOp} {k : IntKind} {x y : Int} {r : AV} (t : TypeId) (h : (op = .add ∧ bAdd k x y = some r) ∨ binI op k x y = some r) :
    ∃ u, V c r u ∧ ∀ w, (Go.binOp op t (.int k x) (.int k y)).run P w = .ok u w := by
  rcases h with ⟨rfl, h⟩ | h
  · have h2 : r = .int k (k.wrap (x + y)) := by
      rw [← intV_eq]
      cases x with
      | negSucc a => cases h; rfl
      | ofNat a =>
        cases y with
        | negSucc b => cases h; rfl
        | ofNat b =>
          simp only [bAdd] at h
          cases hb : Nat.blt (Nat.add a b) (half k) with
          | false => rw [hb] at h; cases h; rfl
          | true =>
            rw [hb] at h
            cases h
            have h1 : a + b < half k := by simpa [Nat.blt_eq] using hb
            have h3 : half k ≤ lim k := by cases k <;> decide
            have h4 : digs k (Int.ofNat a + Int.ofNat b) = a + b := by
              show digs k (Int.ofNat (a + b)) = a + b
              exact Nat.mod_eq_of_lt (by omega)
            rw [intV, wrp, h4]
            have h5 : Nat.blt (a + b) (half k) = true := hb
            simp only [h5, cond_true]
            rfl
    subst h2
    exact ⟨_, .int _ _, fun w => by simp [Go.binOp, Op.intArith]⟩
  · cases op <;> simp only [binI, bSub, bMul, bQuo, bRem, bAnd, bOr, bXor, bAndNot, bEql, bNeq, bLss, bLeq, bGtr, bGeq, bNone, intV_eq, Option.some.injEq, reduceCtorEq] at h
    case sub => subst h; exact ⟨_, .int _ _, fun w => by simp [Go.binOp, Op.intArith]⟩
    case mul => subst h; exact ⟨_, .int _ _, fun w => by simp [Go.binOp, Op.intArith]⟩
    case quo =>
      cases hy : eqI y 0 with
      | true => rw [hy] at h; cases h
      | false =>
        rw [hy] at h
        cases h
        rw [eqI_eq] at hy
        have : y ≠ 0 := by simpa using hy
        exact ⟨_, .int _ _, fun w => by simp [Go.binOp, Op.intDiv, this]⟩
    case rem =>
      cases hy : eqI y 0 with
      | true => rw [hy] at h; cases h
      | false =>
        rw [hy] at h
        cases h
        rw [eqI_eq] at hy
        have : y ≠ 0 := by simpa using hy
        exact ⟨_, .int _ _, fun w => by simp [Go.binOp, Op.intDiv, this]⟩
    case and => subst h; exact ⟨_, .int _ _, fun w => by simp [Go.binOp, Op.intBits, BitVec.toNat_and, digs_toNat]⟩
    case or => subst h; exact ⟨_, .int _ _, fun w => by simp [Go.binOp, Op.intBits, BitVec.toNat_or, digs_toNat]⟩
    case xor => subst h; exact ⟨_, .int _ _, fun w => by simp [Go.binOp, Op.intBits, BitVec.toNat_xor, digs_toNat]⟩
    case andNot =>
      subst h
      refine ⟨_, .int _ _, fun w => ?_⟩
      have e1 : ∀ b : BitVec k.bits, ~~~b = BitVec.allOnes k.bits ^^^ b := fun b => by simp
      simp only [Go.binOp, Op.intBits, Sem.run_pure, e1, BitVec.toNat_and, BitVec.toNat_xor, BitVec.toNat_allOnes, digs_bits, lim_nat, ne_eq, not_true, if_false]
      rfl
    case eql => subst h; exact ⟨_, .bool _, fun w => by simp [Go.binOp, Op.intCmp, eqI_eq]⟩
    case neq => subst h; exact ⟨_, .bool _, fun w => by simp [Go.binOp, Op.intCmp, eqI_eq]; rfl⟩
    case lss => subst h; exact ⟨_, .bool _, fun w => by simp [Go.binOp, Op.intCmp, ltI_eq]⟩
    case leq => subst h; exact ⟨_, .bool _, fun w => by simp [Go.binOp, Op.intCmp, ltI_eq, ← Int.not_lt]⟩
    case gtr => subst h; exact ⟨_, .bool _, fun w => by simp [Go.binOp, Op.intCmp, ltI_eq]⟩
    case geq => subst h; exact ⟨_, .bool _, fun w => by simp [Go.binOp, Op.intCmp, ltI_eq, ← Int.not_lt]⟩

theorem s_shf {op : BinOp} {k j : IntKind} {x y : Int} {r : AV} (t : TypeId) (h : shiftI op k x y = some r) : ∃ u, V c r u ∧ ∀ w, (Go.binOp op t (.int k x) (.int j y)).run P w = .ok u w := by
  cases x with
  | negSucc a => cases h
  | ofNat a =>
    cases y with
    | negSucc b => cases h
    | ofNat n =>
      have hm : (bif Nat.blt n (bitsN k) then n else bitsN k) = min n k.bits := by
        rw [bitsN_eq, blt_eq]
        by_cases hn : n < k.bits
        · simp [hn]; omega
        · simp [hn]; omega
      have hy : ¬ ((n : Int) < 0) := by omega
      cases op <;> simp only [shiftI, reduceCtorEq] at h
      case shl =>
        cases h
        rw [hm, wrp_eq]
        refine ⟨_, .int _ _, fun w => ?_⟩
        simp [Go.binOp, Op.shift, hy, Nat.shiftLeft_eq]
      case shr =>
        cases h
        rw [hm]
        refine ⟨_, .int _ _, fun w => ?_⟩
        have h2 : (a : Int).fdiv (2 ^ min n k.bits) = ((a >>> min n k.bits : Nat) : Int) := by
          rw [Int.fdiv_eq_ediv_of_nonneg _ (Int.le_of_lt (Int.pow_pos (by decide))), Nat.shiftRight_eq_div_pow]
          simp
        simp [Go.binOp, Op.shift, hy, h2]
end
theorem eqBytes_eq : ∀ (x y : List UInt8), eqBytes x y = decide (x = y)
  | [], [] => rfl
  | [], _ :: _ => rfl
  | _ :: _, [] => rfl
  | a :: x, b :: y => by
    have ih := eqBytes_eq x y
    have hb : Nat.beq a.toNat b.toNat = decide (a = b) := by
      by_cases e : a = b
      · subst e; simp
      · rw [decide_eq_false e, Bool.eq_false_iff]
        intro h
        exact e (UInt8.toNat_inj.1 (by simpa using h))
    rw [eqBytes, hb, ih]
    by_cases e : a = b <;> by_cases f : x = y <;> simp [e, f]
theorem ltBytes_eq : ∀ (x y : List UInt8), ltBytes x y = Op.bytesLess x y
  | _, [] => by cases ‹List UInt8› <;> rfl
  | [], _ :: _ => rfl
  | a :: x, b :: y => by
    have ih := ltBytes_eq x y
    rw [ltBytes, Op.bytesLess, blt_eq, ih]
    have h1 : decide (a.toNat < b.toNat) = decide (a < b) := rfl
    have hb : Nat.beq a.toNat b.toNat = (a == b) := by
      by_cases e : a = b
      · subst e; simp
      · rw [beq_eq_false_iff_ne.2 e, Bool.eq_false_iff]
        intro h
        exact e (UInt8.toNat_inj.1 (by simpa using h))
    rw [h1, hb]
    cases decide (a < b) <;> cases (a == b) <;> simp
end Ev
end Go.Proofs.YtoaimjielnempaaGreatDoor
namespace Go.Proofs.YtoaimjielnempaaGreatDoor
set_option linter.unusedVariables false
set_option linter.unusedSimpArgs false
open Go.RowKit Go.Maps
namespace Ev

section
variable {P : Program} {c : Cx} {fr : Fr} {h h' : H} {x y z : Opd} {vx vy vz : Value} {r : AV}
theorem V.int_inv {k : IntKind} {n : Int} {v : Value} (h : V c (.int k n) v) : v = .int k n := by cases h; rfl
theorem V.bool_inv {b : Bool} {v : Value} (h : V c (.bool b) v) : v = .bool b := by cases h; rfl
theorem V.str_inv {s : List UInt8} {v : Value} (h : V c (.str s) v) : v = .string ⟨s.toArray⟩ := by cases h; rfl
theorem V.ptr_inv {b : Pos} {o : Nat} {v : Value} (h : V c (.ptr b o) v) : ∃ x o', v = .pointer (some ⟨x, o', none⟩) ∧ b.num < c.nx ∧ (c.lv b → c.ι b = some x ∧ o' = o) := by
  cases h with
  | ptr b o x o' h1 h2 => exact ⟨x, o', rfl, h1, h2⟩
theorem V.agg_inv {cs : List AV} {v : Value} (h : V c (.agg cs) v) : ∃ vs : List Value, v = .agg vs.toArray ∧ VL c cs vs ∧ ∀ a ∈ cs, a.one = true := by
  cases h with
  | agg cs vs h h1 => exact ⟨vs, rfl, h, h1⟩
theorem V.tup_inv {cs : List AV} {v : Value} (h : V c (.tuple cs) v) : ∃ vs : List Value, v = .tuple vs.toArray ∧ VL c cs vs := by
  cases h with
  | tuple cs vs h => exact ⟨vs, rfl, h⟩
theorem V.slice_inv {b : Pos} {o n : Nat} {cap : Option Nat} {sz : Nat} {v : Value} (h : V c (.slice b o n cap sz) v) : ∃ x o' c', v = .slice (some ⟨x, o', none⟩) n c' ∧ b.num < c.nx ∧ n ≤ c' ∧ (∀ k, cap = some k → c' = k) ∧
    (c.lv b → c.ι b = some x ∧ (o' = o ∨ c' = 0) ∧ o' + c' * sz ≤ c.bs x) := by
  cases h with
  | slice b o n cap sz x o' c' h1 h2 h3 h4 => exact ⟨x, o', c', rfl, h1, h2, h3, h4⟩
theorem V.map_inv {b : Pos} {v : Value} (h : V c (.map b) v) : ∃ x, v = .map (some x) ∧ b.num < c.nx ∧ (c.lv b → c.ι b = some x) := by
  cases h with
  | map b x h1 h2 => exact ⟨x, rfl, h1, h2⟩

theorem s_str {op : BinOp} {a b : List UInt8} (t : TypeId) (e : binS op a b = some r) : ∃ u, V c r u ∧ ∀ w, (Go.binOp op t (.string ⟨a.toArray⟩) (.string ⟨b.toArray⟩)).run P w = .ok u w := by
  have hl : ∀ l : List UInt8, (ByteArray.mk l.toArray).toList = l := fun l => by
    rw [ByteArray.toList_eq]
  have heq : (a == b) = eqBytes a b := by rw [eqBytes_eq]; exact Bool.eq_iff_iff.2 (by simp)
  cases op <;> simp only [binS, reduceCtorEq, Option.some.injEq] at e
  case add =>
    cases hb : Nat.blt (a.length + b.length) 1000000 with
    | false => rw [hb] at e; cases e
    | true =>
      rw [hb] at e
      cases e
      refine ⟨_, .str _, fun w => ?_⟩
      have h1 : a.length + b.length < 1000000 := by simpa [Nat.blt_eq] using hb
      have h2 : ¬ ((((ByteArray.mk a.toArray).size + (ByteArray.mk b.toArray).size : Nat) : Int) > IntKind.i64.max) := by
        have : (ByteArray.mk a.toArray).size = a.length := by simp [ByteArray.size]
        have : (ByteArray.mk b.toArray).size = b.length := by simp [ByteArray.size]
        simp [IntKind.max, IntKind.signed, IntKind.bits]
        omega
      simp only [Go.binOp, Op.stringOp, Sem.run_ite, if_neg h2, Sem.run_pure]
      congr 2
  case eql => cases e; exact ⟨_, .bool _, fun w => by simp [Go.binOp, Op.stringOp, hl, heq]⟩
  case neq => cases e; exact ⟨_, .bool _, fun w => by simp [Go.binOp, Op.stringOp, hl, heq]⟩
  case lss => cases e; exact ⟨_, .bool _, fun w => by simp [Go.binOp, Op.stringOp, hl, ltBytes_eq]⟩
  case geq => cases e; exact ⟨_, .bool _, fun w => by simp [Go.binOp, Op.stringOp, hl, ltBytes_eq]⟩

theorem s_xint {op : BinOp} {f : IntKind → Int → Int → Option AV} (t : TypeId) (hf : (op = .add ∧ f = bAdd) ∨ f = binI op) (hx : V c (x fr) vx) (hy : V c (y fr) vy) (e : xInt f x y fr h = .ok r h') :
    h' = h ∧ ∃ u, V c r u ∧ ∀ w, (Go.binOp op t vx vy).run P w = .ok u w := by
  obtain ⟨j, a, ex, e⟩ := int_ok e
  obtain ⟨k, b, ey, e⟩ := int_ok e
  obtain ⟨hk, e⟩ := biE e
  obtain ⟨e1, e2⟩ := eoE e
  rw [ex] at hx
  rw [ey] at hy
  cases eqK_eq hk
  rw [hx.int_inv, hy.int_inv]
  refine ⟨e2.symm, s_int t ?_⟩
  rcases hf with ⟨rfl, rfl⟩ | rfl
  · exact .inl ⟨rfl, e1⟩
  · exact .inr e1
theorem rng_cases {v : AV} {d : E} {f : IntKind → Int → Int → E} (e : v.rng? d f = .ok r h') : d = .ok r h' ∨ ∃ k j lo hi, v = .iface 16777217 (.agg [.int k lo, .int j hi]) ∧ f k lo hi = .ok r h' := by
  cases v <;> first | exact .inl e | skip
  rename_i t a
  have e1 : bi (Nat.beq t 16777217) (a.agg? d fun l => List.rec (motive := fun _ => E) d (fun x l _ => List.rec (motive := fun _ => E) d (fun y l _ => List.rec (motive := fun _ => E) (x.int? d fun k lo => y.int? d fun _ hi => f k lo hi) (fun _ _ _ => d) l) l) l) d = .ok r h' := e
  clear e
  cases hb : Nat.beq t 16777217 with
  | false => rw [hb] at e1; exact .inl e1
  | true =>
    rw [hb] at e1
    have := Nat.eq_of_beq_eq_true hb
    subst this
    cases a <;> first | exact .inl e1 | skip
    rename_i l
    cases l with
    | nil => exact .inl e1
    | cons x l =>
      cases l with
      | nil => exact .inl e1
      | cons y l =>
        cases l with
        | cons _ _ => exact .inl e1
        | nil =>
          cases x <;> first | exact .inl e1 | skip
          cases y <;> first | exact .inl e1 | skip
          exact .inr ⟨_, _, _, _, rfl, e1⟩
theorem ltI_iff (a b : Int) : ltI a b = true ↔ a < b := by
  cases a <;> cases b <;> simp [ltI, Nat.blt_eq] <;> omega
theorem rng_inv {k j : IntKind} {lo hi : Int} {v : Value} (h : V c (.iface 16777217 (.agg [.int k lo, .int j hi])) v) : ∃ n, v = .int k n ∧ lo ≤ n ∧ n ≤ hi := by
  have key : ∀ (T : Nat) (a : AV), V c (.iface T a) v → T = 16777217 → a = .agg [.int k lo, .int j hi] → ∃ n, v = .int k n ∧ lo ≤ n ∧ n ≤ hi := fun T a h hT ha => by
    cases h with
    | iface t a v hv hlt => exact absurd hlt (by rw [hT]; decide)
    | nili => cases hT
    | rng k' lo' hi' n h1 h2 =>
      simp only [AV.agg.injEq, List.cons.injEq, AV.int.injEq, and_true] at ha
      obtain ⟨⟨rfl, rfl⟩, _, rfl⟩ := ha
      exact ⟨n, rfl, h1, h2⟩
    | any q v hq hb => exact absurd hT (by omega)
  exact key _ _ h rfl rfl
theorem s_xcmp {op : BinOp} (t : TypeId) (hx : V c (x fr) vx) (hy : V c (y fr) vy) (e : xCmp op x y fr h = .ok r h') :
    xInt (binI op) x y fr h = .ok r h' ∨ (∃ k n, vx = .int k n) ∧ h' = h ∧ ∃ u, V c r u ∧ ∀ w, (Go.binOp op t vx vy).run P w = .ok u w := by
  have e0 : xInt (binI op) x y fr h = .ok r h' ∨ ((x fr).rng? .no fun k lo hi => (y fr).int? .no fun j b => bi (eqK k j) (cmpR op lo hi b h) .no) = E.ok r h' := by
    have e1 : (x fr).int? ((x fr).rng? .no fun k lo hi => (y fr).int? .no fun j b => bi (eqK k j) (cmpR op lo hi b h) .no) (fun j a => (y fr).int? .no fun k b => bi (eqK j k) (eo (binI op j a b) h) .no) = E.ok r h' := e
    cases hxf : x fr with
    | int j a =>
      left
      rw [hxf] at e1
      unfold xInt
      rw [hxf]
      exact e1
    | _ =>
      right
      rw [hxf] at e1
      exact e1
  clear e
  rcases e0 with e | e1
  · exact .inl e
  rcases rng_cases e1 with e2 | ⟨k, j, lo, hi, ex, e1⟩
  · cases e2
  · right
    obtain ⟨l, b, ey, e2⟩ := int_ok e1
    clear e1
    obtain ⟨hk, e3⟩ := biE e2
    clear e2
    rw [ex] at hx
    rw [ey] at hy
    cases eqK_eq hk
    rw [hy.int_inv]
    clear ex
    obtain ⟨n, rfl, h1, h2⟩ := rng_inv hx
    · skip
      refine ⟨⟨k, n, rfl⟩, ?_⟩
      have key : ∀ q : Bool, r = .bool q → h' = h → binI op k n b = some (.bool q) → h' = h ∧ ∃ u, V c r u ∧ ∀ w, (Go.binOp op t (.int k n) (.int k b)).run P w = .ok u w := fun q a1 a2 a3 => by
        subst a1
        exact ⟨a2, s_int t (.inr a3)⟩
      have lt1 : ∀ {u v : Int}, ltI u v = true → u < v := fun h => (ltI_iff _ _).1 h
      have lt0 : ∀ {u v : Int}, ltI u v = false → ¬ u < v := fun h g => by rw [(ltI_iff _ _).2 g] at h; cases h
      have mk1 : ∀ {u v : Int}, u < v → ltI u v = true := fun h => (ltI_iff _ _).2 h
      have mk0 : ∀ {u v : Int}, ¬ u < v → ltI u v = false := fun {u v} h => by
        cases hq : ltI u v with
        | false => rfl
        | true => exact absurd ((ltI_iff _ _).1 hq) h
      cases op <;> first | (cases e3; done) | skip
      case lss =>
        have e : bi (ltI hi b) (.ok (.bool true) h) (bi (ltI lo b) .no (.ok (.bool false) h)) = E.ok r h' := e3
        clear e3
        cases q1 : ltI hi b with
        | true => rw [q1] at e; obtain ⟨e1, e2⟩ := okE e; exact key true e1.symm e2.symm (by simp only [binI, bLss]; rw [mk1 (by have := lt1 q1; omega)])
        | false =>
          rw [q1] at e
          cases q2 : ltI lo b with
          | true => rw [q2] at e; cases e
          | false => rw [q2] at e; obtain ⟨e1, e2⟩ := okE e; exact key false e1.symm e2.symm (by simp only [binI, bLss]; rw [mk0 (by have := lt0 q2; omega)])
      case geq =>
        have e : bi (ltI hi b) (.ok (.bool false) h) (bi (ltI lo b) .no (.ok (.bool true) h)) = E.ok r h' := e3
        clear e3
        cases q1 : ltI hi b with
        | true => rw [q1] at e; obtain ⟨e1, e2⟩ := okE e; exact key false e1.symm e2.symm (by simp only [binI, bGeq]; rw [mk1 (by have := lt1 q1; omega)]; rfl)
        | false =>
          rw [q1] at e
          cases q2 : ltI lo b with
          | true => rw [q2] at e; cases e
          | false => rw [q2] at e; obtain ⟨e1, e2⟩ := okE e; exact key true e1.symm e2.symm (by simp only [binI, bGeq]; rw [mk0 (by have := lt0 q2; omega)]; rfl)
      case gtr =>
        have e : bi (ltI b lo) (.ok (.bool true) h) (bi (ltI b hi) .no (.ok (.bool false) h)) = E.ok r h' := e3
        clear e3
        cases q1 : ltI b lo with
        | true => rw [q1] at e; obtain ⟨e1, e2⟩ := okE e; exact key true e1.symm e2.symm (by simp only [binI, bGtr]; rw [mk1 (by have := lt1 q1; omega)])
        | false =>
          rw [q1] at e
          cases q2 : ltI b hi with
          | true => rw [q2] at e; cases e
          | false => rw [q2] at e; obtain ⟨e1, e2⟩ := okE e; exact key false e1.symm e2.symm (by simp only [binI, bGtr]; rw [mk0 (by have := lt0 q2; omega)])
      case leq =>
        have e : bi (ltI b lo) (.ok (.bool false) h) (bi (ltI b hi) .no (.ok (.bool true) h)) = E.ok r h' := e3
        clear e3
        cases q1 : ltI b lo with
        | true => rw [q1] at e; obtain ⟨e1, e2⟩ := okE e; exact key false e1.symm e2.symm (by simp only [binI, bLeq]; rw [mk1 (by have := lt1 q1; omega)]; rfl)
        | false =>
          rw [q1] at e
          cases q2 : ltI b hi with
          | true => rw [q2] at e; cases e
          | false => rw [q2] at e; obtain ⟨e1, e2⟩ := okE e; exact key true e1.symm e2.symm (by simp only [binI, bLeq]; rw [mk0 (by have := lt0 q2; omega)]; rfl)
theorem s_xstr {op : BinOp} (t : TypeId) (hx : V c (x fr) vx) (hy : V c (y fr) vy) (e : xStr op x y fr h = .ok r h') :
    h' = h ∧ ∃ u, V c r u ∧ ∀ w, (Go.binOp op t vx vy).run P w = .ok u w := by
  obtain ⟨a, ex, e⟩ := str_ok e
  obtain ⟨b, ey, e⟩ := str_ok e
  obtain ⟨e1, e2⟩ := eoE e
  rw [ex] at hx
  rw [ey] at hy
  rw [hx.str_inv, hy.str_inv]
  exact ⟨e2.symm, s_str t e1⟩
theorem s_xshf {op : BinOp} (t : TypeId) (hx : V c (x fr) vx) (hy : V c (y fr) vy) (e : xShf op x y fr h = .ok r h') :
    h' = h ∧ ∃ u, V c r u ∧ ∀ w, (Go.binOp op t vx vy).run P w = .ok u w := by
  obtain ⟨k, a, ex, e⟩ := int_ok e
  obtain ⟨j, b, ey, e⟩ := int_ok e
  obtain ⟨e1, e2⟩ := eoE e
  rw [ex] at hx
  rw [ey] at hy
  rw [hx.int_inv, hy.int_inv]
  exact ⟨e2.symm, s_shf t e1⟩
theorem s_not (hx : V c (x fr) vx) (e : xNot x fr h = .ok r h') : h' = h ∧ ∃ u, V c r u ∧ ∀ w, (Op.unary .not vx).run P w = .ok u w := by
  obtain ⟨b, ex, e⟩ := bool_ok e
  obtain ⟨rfl, rfl⟩ := okE e
  rw [ex] at hx
  rw [hx.bool_inv]
  exact ⟨rfl, _, .bool _, fun w => by cases b <;> rfl⟩
theorem s_neg (hx : V c (x fr) vx) (e : xNeg x fr h = .ok r h') : h' = h ∧ ∃ u, V c r u ∧ ∀ w, (Op.unary .neg vx).run P w = .ok u w := by
  obtain ⟨k, n, ex, e⟩ := int_ok e
  obtain ⟨rfl, rfl⟩ := okE e
  rw [ex] at hx
  rw [hx.int_inv]
  exact ⟨rfl, _, .int _ _, fun w => by simp [Op.unary, Op.intArith, wrp_eq]⟩
theorem s_compl (hx : V c (x fr) vx) (e : xCompl x fr h = .ok r h') : h' = h ∧ ∃ u, V c r u ∧ ∀ w, (Op.unary .xor vx).run P w = .ok u w := by
  obtain ⟨k, n, ex, e⟩ := int_ok e
  obtain ⟨rfl, rfl⟩ := okE e
  rw [ex] at hx
  rw [hx.int_inv]
  refine ⟨rfl, _, .int _ _, fun w => ?_⟩
  have h1 : digs k (if k.signed = true then -1 else k.max) = lim k - 1 := by cases k <;> rfl
  simp only [Op.unary, Op.intBits, Sem.run_pure, BitVec.toNat_xor, digs_bits, h1, wrp_eq]
  rfl
theorem s_conv {k : IntKind} {s d : TypeId} (hs : ∃ j, P.underlying s = some (.int j)) (hd : P.underlying d = some (.int k)) (hx : V c (x fr) vx) (e : xConv k x fr h = .ok r h') :
    h' = h ∧ ∃ u, V c r u ∧ ∀ w, (Go.convert s d vx).run P w = .ok u w := by
  obtain ⟨j, n, ex, e⟩ := int_ok e
  obtain ⟨rfl, rfl⟩ := okE e
  rw [ex] at hx
  rw [hx.int_inv]
  obtain ⟨q, hs⟩ := hs
  exact ⟨rfl, _, .int _ _, fun w => by simp [Go.convert, run_underlying hs, run_underlying hd, Conv.intToInt, wrp_eq]⟩
theorem s_nil (hx : V c (x fr) vx) (e : xNil x fr h = .ok r h') : h' = h ∧ V c r vx ∧ ∃ a, vx = .pointer (some a) := by
  obtain ⟨b, o, ex, e⟩ := ptr_ok e
  obtain ⟨rfl, rfl⟩ := okE e
  rw [ex] at hx
  obtain ⟨x, o', rfl, _⟩ := hx.ptr_inv
  exact ⟨rfl, hx, _, rfl⟩
theorem s_pick (hx : V c (x fr) vx) (hy : V c (y fr) vy) (hz : V c (z fr) vz) (e : xPick x y z fr h = .ok r h') : h' = h ∧ ∃ b, vx = .bool b ∧ V c r (if b then vy else vz) := by
  obtain ⟨b, ex, e⟩ := bool_ok e
  obtain ⟨rfl, rfl⟩ := okE e
  rw [ex] at hx
  refine ⟨rfl, b, hx.bool_inv, ?_⟩
  cases b
  · exact hz
  · exact hy
theorem s_faddr {off s i : Nat} {fs : Array Field} {f : Field} {n : Nat} (hu : P.underlying s = some (.struct fs)) (hf : fs[i]? = some f) (hn : (P.info? f.type).map (·.size) = some n) (h0 : n ≠ 0) (ho : off = f.offset)
    (hx : V c (x fr) vx) (e : xFaddr off x fr h = .ok r h') : h' = h ∧ ∃ u, V c r u ∧ ∀ w, (Instr.fieldAt s vx i).run P w = .ok u w := by
  obtain ⟨b, o, ex, e⟩ := ptr_ok e
  obtain ⟨rfl, rfl⟩ := okE e
  rw [ex] at hx
  obtain ⟨q, o', rfl, h1, h2⟩ := hx.ptr_inv
  obtain ⟨inf, hi, rfl⟩ := Option.map_eq_some_iff.1 hn
  refine ⟨rfl, .pointer (some ⟨q, o' + f.offset, none⟩), .ptr b _ q _ h1 fun hl => ⟨(h2 hl).1, by rw [(h2 hl).2, ho]⟩, fun w => ?_⟩
  simp [Instr.fieldAt, run_underlying hu, hf, Instr.sureAddr, fieldPlace, sizeOf, typeInfo, hi, h0, Addr.add_lit]

theorem lget_eq : ∀ (l : List AV) (n : Nat), lget l n = l[n]?
  | [], _ => rfl
  | _ :: _, 0 => rfl
  | _ :: l, n + 1 => lget_eq l n
theorem llen_eq : ∀ l : List AV, llen l = l.length
  | [] => rfl
  | _ :: l => congrArg Nat.succ (llen_eq l)
theorem lapp_eq : ∀ x y : List AV, lapp x y = x ++ y
  | [], _ => rfl
  | a :: x, y => congrArg (a :: ·) (lapp_eq x y)
theorem ltake_some : ∀ {l : List AV} {n : Nat} {r : List AV}, ltake l n = some r → n ≤ l.length ∧ r = l.take n
  | l, 0, r, h => by
    have : some [] = some r := by cases l <;> exact h
    cases this
    simp
  | [], n + 1, r, h => by cases h
  | a :: l, n + 1, r, h => by
    obtain ⟨r', h1, h2⟩ := ob_some (y := some r) (by simp) (show ob (ltake l n) none (fun r => some (a :: r)) = some r from h)
    cases h2
    obtain ⟨h3, rfl⟩ := ltake_some h1
    exact ⟨by simpa using h3, rfl⟩
theorem lrange_some : ∀ {o n : Nat} {l r : List AV}, lrange l n o = some r → o + n ≤ l.length ∧ r = (l.drop o).take n
  | 0, n, l, r, h => by
    obtain ⟨h1, rfl⟩ := ltake_some (show ltake l n = some r from h)
    exact ⟨by omega, rfl⟩
  | o + 1, n, [], r, h => by cases h
  | o + 1, n, a :: l, r, h => by
    obtain ⟨h1, rfl⟩ := lrange_some (show lrange l n o = some r from h)
    exact ⟨by simp only [List.length_cons]; omega, rfl⟩
theorem lover_some : ∀ {x l r : List AV}, lover x l = some r → x.length ≤ l.length ∧ r = x ++ l.drop x.length
  | [], l, r, h => by cases h; simp
  | a :: x, [], r, h => by cases h
  | a :: x, b :: l, r, h => by
    obtain ⟨r', h1, h2⟩ := ob_some (y := some r) (by simp) (show ob (lover x l) none (fun r => some (a :: r)) = some r from h)
    cases h2
    obtain ⟨h3, rfl⟩ := lover_some h1
    exact ⟨by simpa using h3, rfl⟩
theorem lput_some : ∀ {o : Nat} {x l r : List AV}, lput x o l = some r → o + x.length ≤ l.length ∧ r = l.take o ++ x ++ l.drop (o + x.length)
  | 0, x, l, r, h => by
    obtain ⟨h1, rfl⟩ := lover_some (show lover x l = some r from h)
    exact ⟨by omega, by simp⟩
  | o + 1, x, [], r, h => by cases h
  | o + 1, x, a :: l, r, h => by
    obtain ⟨r', h1, h2⟩ := ob_some (y := some r) (by simp) (show ob (lput x o l) none (fun r => some (a :: r)) = some r from h)
    cases h2
    obtain ⟨h3, rfl⟩ := lput_some h1
    refine ⟨by simp only [List.length_cons]; omega, ?_⟩
    rw [show o + 1 + x.length = (o + x.length) + 1 by omega]
    rfl

/-- What is known of a type's width. -/
def Wide (P : Program) (t : TypeId) (m : Option Nat) : Prop :=
  (m = none ∧ (∀ w, (isAgg t).run P w = .ok false w)) ∨ ∃ n, m = some n ∧ (∀ w, (isAgg t).run P w = .ok true w) ∧ ∀ w, (sizeOf t).run P w = .ok n w
theorem s_part {t : TypeId} {m : Option Nat} {cs : List AV} {vs : List Value} {off : Nat} (hw : Wide P t m) (hv : VL c cs vs) (h1a : ∀ a ∈ cs, a.one = true) (e : partE cs off m h = .ok r h') :
    h' = h ∧ ∃ u, V c r u ∧ ∀ w, (part t vs.toArray off).run P w = .ok u w := by
  rcases hw with ⟨rfl, ha⟩ | ⟨n, rfl, ha, hs⟩
  · obtain ⟨e1, e2⟩ := eoE (show eo (lget cs off) h = .ok r h' from e)
    rw [lget_eq] at e1
    obtain ⟨u, h1, h2⟩ := hv.get off e1
    exact ⟨e2.symm, u, h2, fun w => by simp [part, ha, h1]⟩
  · obtain ⟨v, e1, e2⟩ := obE (show ob (lrange cs n off) E.no (fun v => .ok (.agg v) h) = .ok r h' from e)
    obtain ⟨e3, e4⟩ := okE e2
    obtain ⟨h1, rfl⟩ := lrange_some e1
    subst e3
    refine ⟨e4.symm, .agg (((vs.drop off).take n)).toArray, .agg _ _ ((hv.drop off).take n) (fun a ha => h1a a (List.mem_of_mem_drop (List.mem_of_mem_take ha))), fun w => ?_⟩
    simp only [part, Sem.run_bind, ha, hs, Result.andThen_ok, if_true, Sem.run_pure]
    congr 2
    apply Array.ext'
    simp [List.take_drop]
theorem s_fld {s i off : Nat} {m : Option Nat} {fs : Array Field} {f : Field} (hu : P.underlying s = some (.struct fs)) (hf : fs[i]? = some f) (hw : Wide P f.type m) (ho : off = f.offset)
    (hx : V c (x fr) vx) (e : xFld off m x fr h = .ok r h') : h' = h ∧ ∃ u, V c r u ∧ ∀ w, (Instr.field s vx i).run P w = .ok u w := by
  obtain ⟨cs, ex, e⟩ := agg_ok e
  rw [ex] at hx
  obtain ⟨vs, rfl, hv, h1a⟩ := hx.agg_inv
  subst ho
  obtain ⟨h1, u, h2, h3⟩ := s_part hw hv h1a e
  exact ⟨h1, u, h2, fun w => by simp [Instr.field, run_underlying hu, hf, asAgg, h3]⟩
theorem s_ext {i : Nat} (hx : V c (x fr) vx) (e : xExt x i fr h = .ok r h') : h' = h ∧ ∃ u, V c r u ∧ ∀ w, (Instr.extract vx i).run P w = .ok u w := by
  obtain ⟨cs, ex, e⟩ := tup_ok e
  obtain ⟨e1, e2⟩ := eoE e
  rw [ex] at hx
  obtain ⟨vs, rfl, hv⟩ := hx.tup_inv
  rw [lget_eq] at e1
  obtain ⟨u, h1, h2⟩ := hv.get i e1
  exact ⟨e2.symm, u, h2, fun w => by simp [Instr.extract, h1]⟩
theorem nat_val {k : IntKind} {n : Nat} {v : Value} (h : V c (.int k (.ofNat n)) v) : v = .int k (n : Int) := h.int_inv
theorem s_iaddr {t e : TypeId} {sz : Nat} {i : Opd} {vi : Value} (hu : P.underlying t = some (.slice e)) (hs : ∀ w, (sizeOf e).run P w = .ok sz w) (hx : V c (x fr) vx) (hi : V c (i fr) vi)
    (he : xIaddr sz x i fr h = .ok r h') : h' = h ∧ ∃ u, V c r u ∧ ∀ w, (Instr.indexAt t vx vi).run P w = .ok u w := by
  rcases slice_ok' he with ⟨_, he⟩ | ⟨b, o, n, k, s, ex, he⟩
  · cases he
  obtain ⟨hsz, he⟩ := biE he
  have hsz := Nat.eq_of_beq_eq_true hsz
  subst hsz
  obtain ⟨q, j, ei, he⟩ := nat_ok he
  obtain ⟨hlt, he⟩ := biE he
  obtain ⟨e1, e2⟩ := okE he
  rw [ex] at hx
  rw [ei] at hi
  obtain ⟨y, o', c', rfl, h1, h2, h3, h4⟩ := hx.slice_inv
  rw [nat_val hi]
  subst e1
  rw [blt_eq] at hlt
  have hlt' : j < n := of_decide_eq_true hlt
  refine ⟨e2.symm, .pointer (some ⟨y, o' + j * s, none⟩), .ptr b _ y _ h1 fun hl => ?_, fun w => ?_⟩
  · obtain ⟨h5, h6, h7⟩ := h4 hl
    refine ⟨h5, ?_⟩
    rcases h6 with h6 | h6
    · rw [h6]
    · omega
  · have h5 : ¬ n ≤ j := by omega
    simp [Instr.indexAt, asIntOf, run_underlying hu, h5, hs, Addr.add_lit, hlt']
theorem s_iaddrA {t e : TypeId} {n sz : Nat} {i : Opd} {vi : Value} (hu : P.underlying t = some (.array n e)) (hs : ∀ w, (sizeOf e).run P w = .ok sz w) (hx : V c (x fr) vx) (hi : V c (i fr) vi)
    (he : xIaddrA n sz x i fr h = .ok r h') : h' = h ∧ ∃ u, V c r u ∧ ∀ w, (Instr.indexAt t vx vi).run P w = .ok u w := by
  obtain ⟨b, o, ex, he⟩ := ptr_ok he
  obtain ⟨q, j, ei, he⟩ := nat_ok he
  obtain ⟨hlt, he⟩ := biE he
  obtain ⟨e1, e2⟩ := okE he
  rw [ex] at hx
  rw [ei] at hi
  obtain ⟨y, o', rfl, h1, h2⟩ := hx.ptr_inv
  rw [nat_val hi]
  subst e1
  rw [blt_eq] at hlt
  have hlt' : j < n := of_decide_eq_true hlt
  refine ⟨e2.symm, .pointer (some ⟨y, o' + j * sz, none⟩), .ptr b _ y _ h1 fun hl => ⟨(h2 hl).1, by rw [(h2 hl).2]⟩, fun w => ?_⟩
  simp [Instr.indexAt, asIntOf, run_underlying hu, hs, Addr.add_lit, Instr.sureAddr, hlt']
theorem s_idxS {t : TypeId} {i : Opd} {vi : Value} (hu : P.underlying t = some .string) (hx : V c (x fr) vx) (hi : V c (i fr) vi) (he : xIdxS x i fr h = .ok r h') :
    h' = h ∧ ∃ u, V c r u ∧ ∀ w, (Instr.index t vx vi).run P w = .ok u w := by
  obtain ⟨s, ex, he⟩ := str_ok he
  obtain ⟨q, j, ei, he⟩ := nat_ok he
  obtain ⟨b, hb, he⟩ := obE he
  obtain ⟨e1, e2⟩ := okE he
  rw [ex] at hx
  rw [ei] at hi
  rw [hx.str_inv, nat_val hi]
  subst e1
  refine ⟨e2.symm, _, .int _ _, fun w => ?_⟩
  have h1 : (ByteArray.mk s.toArray)[j]? = some b := by
    have hj : j < s.length := (List.getElem?_eq_some_iff.1 hb).1
    rw [getElem?_pos (ByteArray.mk s.toArray) j (show j < s.toArray.size by simpa using hj)]
    rw [List.getElem?_eq_getElem hj] at hb
    exact hb
  simp [Instr.index, asIntOf, run_underlying hu, h1]
theorem s_idxA {t e : TypeId} {n sz : Nat} {m : Option Nat} {i : Opd} {vi : Value} (hu : P.underlying t = some (.array n e)) (hs : ∀ w, (sizeOf e).run P w = .ok sz w) (hw : Wide P e m) (hx : V c (x fr) vx) (hi : V c (i fr) vi)
    (he : xIdxA n sz m x i fr h = .ok r h') : h' = h ∧ ∃ u, V c r u ∧ ∀ w, (Instr.index t vx vi).run P w = .ok u w := by
  obtain ⟨cs, ex, he⟩ := agg_ok he
  obtain ⟨q, j, ei, he⟩ := nat_ok he
  obtain ⟨hlt, he⟩ := biE he
  rw [ex] at hx
  rw [ei] at hi
  obtain ⟨vs, rfl, hv, h1a⟩ := hx.agg_inv
  rw [nat_val hi]
  rw [blt_eq] at hlt
  have hlt' : j < n := of_decide_eq_true hlt
  obtain ⟨h1, u, h2, h3⟩ := s_part hw hv h1a he
  exact ⟨h1, u, h2, fun w => by simp [Instr.index, asIntOf, run_underlying hu, hs, h3, hlt']⟩
theorem s_s2a {t e : TypeId} {n : Nat} (hu : P.underlying t = some (.array n e)) (hx : V c (x fr) vx) (he : xS2a n x fr h = .ok r h') : h' = h ∧ ∃ u, V c r u ∧ ∀ w, (Instr.arrayAt t vx).run P w = .ok u w := by
  rcases slice_ok' he with ⟨_, he⟩ | ⟨b, o, l, k, s, ex, he⟩
  · cases he
  obtain ⟨h1, he⟩ := biE he
  obtain ⟨h2, he⟩ := biE he
  obtain ⟨e1, e2⟩ := okE he
  rw [ex] at hx
  obtain ⟨y, o', c', rfl, g1, g2, g3, g4⟩ := hx.slice_inv
  subst e1
  have h3 : n ≤ l := Nat.le_of_ble_eq_true h1
  have h4 : 0 < n := by rw [blt_eq] at h2; exact of_decide_eq_true h2
  refine ⟨e2.symm, .pointer (some ⟨y, o', none⟩), .ptr b o y o' g1 fun hl => ?_, fun w => ?_⟩
  · obtain ⟨h5, h6, h7⟩ := g4 hl
    exact ⟨h5, h6.resolve_right (by omega)⟩
  · have : ¬ l < n := by omega
    simp [Instr.arrayAt, run_underlying hu, this]
theorem s_mki {t : TypeId} (hu : ∀ w, ∃ d, (underlying t).run P w = .ok d w ∧ ∀ ms, d ≠ .interface ms) (hx : V c (x fr) vx) (he : xMki t x fr h = .ok r h') : h' = h ∧ ∃ u, V c r u ∧ ∀ w, (Instr.makeInterface t vx).run P w = .ok u w := by
  obtain ⟨hlt, he⟩ := biE he
  obtain ⟨e1, e2⟩ := okE he
  subst e1
  rw [blt_eq] at hlt
  refine ⟨e2.symm, _, .iface t _ _ hx (of_decide_eq_true hlt), fun w => ?_⟩
  obtain ⟨d, hd, hn⟩ := hu w
  simp only [Instr.makeInterface, Sem.run_bind, hd, Result.andThen_ok]
  cases d <;> first | rfl | exact absurd rfl (hn _)
theorem s_tas {t s : TypeId} (hu : ∀ w, ∃ d, (underlying t).run P w = .ok d w ∧ ∀ ms, d ≠ .interface ms) (hx : V c (x fr) vx) (he : xTas t x fr h = .ok r h') : h' = h ∧ ∃ u, V c r u ∧ ∀ w, (Instr.typeAssert vx s t false).run P w = .ok u w := by
  obtain ⟨q, a, ex, he⟩ := iface_ok he
  obtain ⟨hb, he⟩ := biE he
  obtain ⟨hlt, he⟩ := biE he
  obtain ⟨e1, e2⟩ := okE he
  rw [ex] at hx
  subst e1
  have hq : t = q := Nat.eq_of_beq_eq_true hb
  subst hq
  cases hx with
  | nili => cases hlt
  | rng => cases hlt
  | any j v h1 h2 =>
    rw [blt_eq] at hlt
    have := of_decide_eq_true hlt
    omega
  | iface t a v hv =>
    refine ⟨e2.symm, v, hv, fun w => ?_⟩
    obtain ⟨d, hd, hn⟩ := hu w
    simp only [Instr.typeAssert, Sem.run_bind, hd, Result.andThen_ok]
    cases d <;> first | exact absurd rfl (hn _) | simp
theorem s_min (ty : TypeId) (ts : Array TypeId) (hx : V c (x fr) vx) (hy : V c (y fr) vy) (he : xMin x y fr h = .ok r h') : h' = h ∧ ∃ u, V c r u ∧ ∀ w, (Builtin.min_ ts ty #[vx, vy]).run P w = .ok u w := by
  obtain ⟨j, a, ex, he⟩ := int_ok he
  obtain ⟨k, b, ey, he⟩ := int_ok he
  obtain ⟨e1, e2⟩ := okE he
  rw [ex] at hx
  rw [ey] at hy
  rw [hx.int_inv, hy.int_inv]
  subst e1
  refine ⟨e2.symm, _, .int _ _, fun w => ?_⟩
  rw [ltI_eq]
  by_cases hb : b < a <;> simp [Builtin.min_, Builtin.min2, hb]
theorem s_max (ty : TypeId) (ts : Array TypeId) (hx : V c (x fr) vx) (hy : V c (y fr) vy) (he : xMax x y fr h = .ok r h') : h' = h ∧ ∃ u, V c r u ∧ ∀ w, (Builtin.max_ ts ty #[vx, vy]).run P w = .ok u w := by
  obtain ⟨j, a, ex, he⟩ := int_ok he
  obtain ⟨k, b, ey, he⟩ := int_ok he
  obtain ⟨e1, e2⟩ := okE he
  rw [ex] at hx
  rw [ey] at hy
  rw [hx.int_inv, hy.int_inv]
  subst e1
  refine ⟨e2.symm, _, .int _ _, fun w => ?_⟩
  rw [ltI_eq]
  by_cases hb : a < b <;> simp [Builtin.max_, Builtin.max2, hb]
/-- Operands and their values. -/
inductive OL (c : Cx) (fr : Fr) : List Opd → List Value → Prop
  | nil : OL c fr [] []
  | cons {x : Opd} {v : Value} {xs : List Opd} {vs : List Value} : V c (x fr) v → OL c fr xs vs → OL c fr (x :: xs) (v :: vs)
theorem OL.append {xs ys : List Opd} {vs us : List Value} (hx : OL c fr xs vs) (hy : OL c fr ys us) : OL c fr (xs ++ ys) (vs ++ us) := by
  induction hx with
  | nil => exact hy
  | cons h1 h2 ih => exact .cons h1 ih
theorem OL.length {xs : List Opd} {vs : List Value} (hx : OL c fr xs vs) : vs.length = xs.length := by
  induction hx with
  | nil => rfl
  | cons h1 h2 ih => simp [ih]
theorem OL.evs {xs : List Opd} {vs : List Value} (hx : OL c fr xs vs) : VL c (evs xs fr) vs := by
  induction hx with
  | nil => exact .nil
  | cons h1 h2 ih => exact .cons h1 ih
theorem evs_append (xs ys : List Opd) : evs (xs ++ ys) fr = evs xs fr ++ evs ys fr := by
  induction xs with
  | nil => rfl
  | cons x xs ih => exact congrArg (x fr :: ·) ih
theorem s_clos {f : FuncId} {xs ys : List Opd} {vs us : List Value} (hx : OL c fr xs vs) (hy : OL c fr ys us) (he : xClos f xs ys fr h = .ok r h') :
    h' = h ∧ V c r (.func (.func f) vs.toArray us.toArray) := by
  obtain ⟨e1, e2⟩ := okE he
  subst e1
  have h1 : VL c (evs (xs ++ ys) fr) (vs ++ us) := (hx.append hy).evs
  have h3 := hx.length
  have h2 := V.func f xs.length _ _ h1 (by rw [← h1.length]; simp [h3])
  refine ⟨e2.symm, ?_⟩
  rw [← h3] at h2 ⊢
  simpa using h2
end
end Ev
end Go.Proofs.YtoaimjielnempaaGreatDoor
namespace Go.Proofs.YtoaimjielnempaaGreatDoor
set_option linter.unusedVariables false
set_option linter.unusedSimpArgs false
open Go.RowKit Go.Maps
namespace Ev

section
variable {P : Program} {c : Cx} {fr : Fr} {h h' : H} {x y z : Opd} {vx vy vz : Value} {r : AV}
/-- Operands that may lack. -/
inductive OO (c : Cx) (fr : Fr) : Option Opd → Option Value → Prop
  | none : OO c fr none none
  | some {x : Opd} {v : Value} : V c (x fr) v → OO c fr (some x) (some v)
inductive ON : Option Nat → Option Value → Prop
  | none : ON none none
  | some (k : IntKind) (n : Nat) : ON (some n) (some (.int k (n : Int)))
theorem opt_ok {o : Option Opd} {v : Option Value} {f : Option Nat → E} (ho : OO c fr o v) (e : optN o fr .no f = .ok r h') : ∃ m, ON m v ∧ f m = .ok r h' := by
  cases ho with
  | none => exact ⟨_, .none, e⟩
  | some hx =>
    obtain ⟨k, n, ex, e⟩ := nat_ok (show AV.nat? _ E.no _ = _ from e)
    rw [ex] at hx
    rw [nat_val hx]
    exact ⟨_, .some k n, e⟩
theorem s_bounds (b : Bool) {len cap' : Nat} {cap lo hi mx : Option Nat} {vlo vhi vmx : Option Value} {f : Nat → Nat → Option Nat → E} (hcap : ∀ k, cap = some k → cap' = k) (hlen : len ≤ cap') (hlo : ON lo vlo) (hhi : ON hi vhi) (hmx : ON mx vmx)
    (e : sliceM len cap lo hi mx f = .ok r h') :
    ∃ l u m m', f l u m = .ok r h' ∧ (∀ w, (Instr.sliceBounds b len cap' vlo vhi vmx).run P w = .ok (l, u, m') w) ∧ l ≤ u ∧ u ≤ m' ∧ m' ≤ cap' ∧ (∀ k, m = some k → m' = k) ∧ (m = none → m' = cap') := by
  have inner : ∀ {cap : Option Nat} {cap' : Nat} {hi : Option Nat}, (∀ k, cap = some k → cap' = k) → (cap = none → len ≤ cap') → sliceB len cap lo hi f = .ok r h' →
      ∃ l u, f l u cap = .ok r h' ∧ l = lo.getD 0 ∧ u = hi.getD len ∧ l ≤ u ∧ u ≤ cap' := by
    intro cap cap' hi hc hlc e
    obtain ⟨h1, e⟩ := biE (show bi _ (bi _ _ _) _ = _ from e)
    obtain ⟨h2, e⟩ := biE e
    have h1' := Nat.le_of_ble_eq_true h1
    have h2' := Nat.le_of_ble_eq_true h2
    refine ⟨_, _, e, by cases lo <;> rfl, by cases hi <;> rfl, h2', Nat.le_trans h1' ?_⟩
    cases cap with
    | none => exact hlc rfl
    | some k => rw [hc k rfl]; exact Nat.le_refl _
  cases hmx with
  | none =>
    obtain ⟨l, u, h1, rfl, rfl, h2, h3⟩ := inner hcap (fun _ => hlen) (show sliceB len cap lo hi f = _ from e)
    refine ⟨_, _, cap, cap', h1, fun w => ?_, h2, h3, Nat.le_refl _, hcap, fun _ => rfl⟩
    cases hhi with
    | none =>
      cases hlo with
      | none => simp [Instr.sliceBounds]
      | some k n =>
        simp only [Option.getD] at h2 h3 ⊢
        simp [Instr.sliceBounds, run_sliceBound _ _ _ _ _ (Int.natCast_nonneg n) (Int.ofNat_le.2 h2)]
    | some k n =>
      simp only [Option.getD] at h2 h3 ⊢
      cases hlo with
      | none => simp [Instr.sliceBounds, run_sliceBound _ _ _ _ _ (Int.natCast_nonneg n) (Int.ofNat_le.2 h3)]
      | some k' n' =>
        simp only at h2
        simp [Instr.sliceBounds, run_sliceBound _ _ _ _ _ (Int.natCast_nonneg n) (Int.ofNat_le.2 h3), run_sliceBound _ _ _ _ _ (Int.natCast_nonneg n') (Int.ofNat_le.2 h2)]
  | some km m =>
    cases hhi with
    | none => cases e
    | some k n =>
      obtain ⟨h0, e⟩ := biE (show bi _ (sliceB len (some m) lo (some n) f) E.no = _ from e)
      have h0' := Nat.le_of_ble_eq_true h0
      have hm : m ≤ cap' := by
        refine Nat.le_trans h0' ?_
        cases cap with
        | none => exact hlen
        | some k => rw [hcap k rfl]; exact Nat.le_refl _
      obtain ⟨l, u, h1, hl, hu, h2, h3⟩ := inner (cap := some m) (cap' := m) (fun k hk => by cases hk; rfl) (fun hk => by cases hk) e
      have hu' : u = n := hu
      subst hu'
      refine ⟨l, u, some m, m, h1, fun w => ?_, h2, h3, hm, fun k hk => by cases hk; rfl, fun hk => by cases hk⟩
      cases hlo with
      | none =>
        have hl' : l = 0 := hl
        subst hl'
        simp [Instr.sliceBounds, run_sliceBound _ _ _ _ _ (Int.natCast_nonneg u) (Int.ofNat_le.2 h3), run_sliceBound _ _ _ _ _ (Int.natCast_nonneg m) (Int.ofNat_le.2 hm)]
      | some k' n' =>
        have hl' : l = n' := hl
        subst hl'
        simp [Instr.sliceBounds, run_sliceBound _ _ _ _ _ (Int.natCast_nonneg u) (Int.ofNat_le.2 h3), run_sliceBound _ _ _ _ _ (Int.natCast_nonneg l) (Int.ofNat_le.2 h2), run_sliceBound _ _ _ _ _ (Int.natCast_nonneg m) (Int.ofNat_le.2 hm)]
theorem cut_V {b : Pos} {o o' sz q c' l u m' : Nat} {m : Option Nat} (h1 : b.num < c.nx) (h4 : c.lv b → c.ι b = some q ∧ (o' = o ∨ c' = 0) ∧ o' + c' * sz ≤ c.bs q) (hlu : l ≤ u) (hum : u ≤ m') (hmc : m' ≤ c') (hm : ∀ k, m = some k → m' = k) :
    V c (cutTo b o sz l u m) (.slice (some (if m' = l then (⟨q, o', none⟩ : Addr) else (⟨q, o', none⟩ : Addr).add (l * sz))) (u - l) (m' - l)) := by
  have hmul : l * sz + (m' - l) * sz = m' * sz := by rw [← Nat.add_mul]; congr 1; omega
  have hle : m' * sz ≤ c' * sz := Nat.mul_le_mul_right _ hmc
  have same : m' = l → V c (.slice b o (u - l) (some (m' - l)) sz) (.slice (some (⟨q, o', none⟩ : Addr)) (u - l) (m' - l)) := fun e =>
    .slice b o _ _ sz q o' _ h1 (by omega) (fun k hk => by cases hk; rfl) fun hl => by
      obtain ⟨h5, h6, h7⟩ := h4 hl
      refine ⟨h5, .inr (by omega), ?_⟩
      rw [show m' - l = 0 by omega]
      omega
  have away : ∀ cap : Option Nat, (∀ k, cap = some k → m' - l = k) → V c (.slice b (o + l * sz) (u - l) cap sz) (.slice (some (if m' = l then (⟨q, o', none⟩ : Addr) else (⟨q, o', none⟩ : Addr).add (l * sz))) (u - l) (m' - l)) := by
    intro cap hcap
    by_cases e : m' = l
    · rw [if_pos e]
      refine .slice b _ _ _ sz q o' _ h1 (by omega) hcap fun hl => ?_
      obtain ⟨h5, h6, h7⟩ := h4 hl
      refine ⟨h5, .inr (by omega), ?_⟩
      rw [show m' - l = 0 by omega]
      omega
    · rw [if_neg e, Addr.add_lit]
      refine .slice b _ _ _ sz q _ _ h1 (by omega) hcap fun hl => ?_
      obtain ⟨h5, h6, h7⟩ := h4 hl
      exact ⟨h5, .inl (by rcases h6 with h6 | h6 <;> omega), by omega⟩
  cases m with
  | none => exact away none (fun k hk => by cases hk)
  | some k =>
    have hk := hm k rfl
    subst hk
    show V c (bi (Nat.beq m' l) _ _) _
    by_cases e : m' = l
    · have hb : Nat.beq m' l = true := by simpa using e
      rw [hb, if_pos e]
      exact same e
    · have hb : Nat.beq m' l = false := by rw [Bool.eq_false_iff]; simpa using e
      rw [hb]
      exact away _ (fun k hk => by cases hk; rfl)
theorem s_slc {t e : TypeId} {sz : Nat} {lo hi mx : Option Opd} {vlo vhi vmx : Option Value} (hu : P.underlying t = some (.slice e)) (hs : ∀ w, (sizeOf e).run P w = .ok sz w) (hlo : OO c fr lo vlo) (hhi : OO c fr hi vhi) (hmx : OO c fr mx vmx)
    (hx : V c (x fr) vx) (he : xSlc sz x lo hi mx fr h = .ok r h') : h' = h ∧ ∃ u, V c r u ∧ ∀ w, (Instr.sliceAt t vx vlo vhi vmx).run P w = .ok u w := by
  obtain ⟨lo', g1, he⟩ := opt_ok hlo he
  obtain ⟨hi', g2, he⟩ := opt_ok hhi he
  obtain ⟨mx', g3, he⟩ := opt_ok hmx he
  rcases slice_ok' he with ⟨ex, he⟩ | ⟨b, o, n, k, s, ex, he⟩
  · rw [ex] at hx
    obtain ⟨l, u, m, m', h1, h2, h3, h4, h5, h6, h7⟩ := s_bounds (P := P) (cap' := 0) true (fun k hk => by cases hk; rfl) (Nat.le_refl _) g1 g2 g3 he
    obtain ⟨e1, e2⟩ := okE h1
    subst e1
    cases hx
    have : m' = 0 ∧ u = 0 ∧ l = 0 := by omega
    obtain ⟨rfl, rfl, rfl⟩ := this
    exact ⟨e2.symm, _, .nils, fun w => by simp [Instr.sliceAt, run_underlying hu, Instr.slice, h2, hs]⟩
  · rw [ex] at hx
    obtain ⟨hsz, he⟩ := biE he
    have hsz := Nat.eq_of_beq_eq_true hsz
    subst hsz
    obtain ⟨q, o', c', rfl, g4, g5, g6, g7⟩ := hx.slice_inv
    obtain ⟨l, u, m, m', h1, h2, h3, h4, h5, h6, h7⟩ := s_bounds (P := P) true g6 g5 g1 g2 g3 he
    obtain ⟨e1, e2⟩ := okE h1
    subst e1
    refine ⟨e2.symm, _, cut_V g4 g7 h3 h4 h5 h6, fun w => ?_⟩
    simp only [Instr.sliceAt, Sem.run_bind, run_underlying hu, Result.andThen_ok, Instr.slice, h2, hs, Sem.run_pure]
    by_cases e : m' = l <;> simp [e]
theorem s_slstr {t : TypeId} {lo hi : Option Opd} {vlo vhi : Option Value} (hu : P.underlying t = some .string) (hlo : OO c fr lo vlo) (hhi : OO c fr hi vhi)
    (hx : V c (x fr) vx) (he : xSlstr x lo hi fr h = .ok r h') : h' = h ∧ ∃ u, V c r u ∧ ∀ w, (Instr.sliceAt t vx vlo vhi none).run P w = .ok u w := by
  obtain ⟨lo', g1, he⟩ := opt_ok hlo he
  obtain ⟨hi', g2, he⟩ := opt_ok hhi he
  obtain ⟨s, ex, he⟩ := str_ok he
  rw [ex] at hx
  rw [hx.str_inv]
  obtain ⟨l, u, m, m', h1, h2, h3, h4, h5, h6, h7⟩ := s_bounds (P := P) (cap' := s.length) false (fun k hk => by cases hk; rfl) (Nat.le_refl _) g1 g2 .none he
  obtain ⟨e1, e2⟩ := okE h1
  subst e1
  refine ⟨e2.symm, _, .str _, fun w => ?_⟩
  have hs : (ByteArray.mk s.toArray).size = s.length := by simp [ByteArray.size]
  simp only [Instr.sliceAt, Sem.run_bind, run_underlying hu, Result.andThen_ok, Instr.slice, hs, h2, Sem.run_pure]
  have : (ByteArray.mk s.toArray).extract l u = ⟨((s.drop l).take (u - l)).toArray⟩ := by
    apply ByteArray.ext
    simp [List.take_drop]
  simp [h2, this]
theorem s_slarr {B : Nat} {W w0 : World} {ι : Pos → Option Nat} {t e : TypeId} {n sz : Nat} {lo hi mx : Option Opd} {vlo vhi vmx : Option Value} (rel : Rel P B W ι h w0) (hc : c = cx ι h w0)
    (hu : P.underlying t = some (.array n e)) (hs : ∀ w, (sizeOf e).run P w = .ok sz w) (hlo : OO c fr lo vlo) (hhi : OO c fr hi vhi) (hmx : OO c fr mx vmx)
    (hx : V c (x fr) vx) (he : xSlarr n sz x lo hi mx fr h = .ok r h') : h' = h ∧ ∃ u, V c r u ∧ ∀ w, (Instr.sliceAt t vx vlo vhi vmx).run P w = .ok u w := by
  obtain ⟨lo', g1, he⟩ := opt_ok hlo he
  obtain ⟨hi', g2, he⟩ := opt_ok hhi he
  obtain ⟨mx', g3, he⟩ := opt_ok hmx he
  obtain ⟨b, o, ex, he⟩ := ptr_ok he
  obtain ⟨ob0, hob, he⟩ := obE (show ob (h.obj b) E.no _ = _ from he)
  cases ob0 with
  | map => cases he
  | iter => cases he
  | cells cs ty fz =>
  obtain ⟨hb, he⟩ := biE (show bi _ _ _ = _ from he)
  rw [ex] at hx
  obtain ⟨q, o', rfl, g4, g5⟩ := hx.ptr_inv
  obtain ⟨l, u, m, m', h1, h2, h3, h4, h5, h6, h7⟩ := s_bounds (P := P) (cap' := n) false (fun k hk => by cases hk; rfl) (Nat.le_refl _) g1 g2 g3 he
  obtain ⟨e1, e2⟩ := okE h1
  subst e1
  have hv := cut_V (o := o) (o' := o') (q := q) (sz := sz) g4 (fun hl => ⟨(g5 hl).1, .inl (g5 hl).2, by
    obtain ⟨h8, h9⟩ := g5 hl
    subst hc
    obtain ⟨c', lo2, hi2, k1, k2, _⟩ := rel.ob b _ q hob h8
    have : bsz w0 q = c'.size := by simp [bsz, k1]
    show o' + n * sz ≤ bsz w0 q
    rw [this, h9]
    have := Nat.le_of_ble_eq_true hb
    rw [llen_eq] at this
    omega⟩) h3 h4 h5 h6
  refine ⟨e2.symm, _, hv, fun w => ?_⟩
  simp only [Instr.sliceAt, Sem.run_bind, run_underlying hu, Result.andThen_ok, Instr.sureAddr, h2, hs, Sem.run_pure]

/-! Literals. -/
/-- Parts as the model has them, beside the run's. -/
inductive PL (c : Cx) (fr : Fr) (place : Nat → Option (Nat × Nat)) : List (Nat × Nat × Opd) → List (Nat × Value) → Prop
  | nil : PL c fr place [] []
  | cons {off n i : Nat} {x : Opd} {v : Value} {ps : List (Nat × Nat × Opd)} {qs : List (Nat × Value)} : place i = some (off, n) → V c (x fr) v → PL c fr place ps qs → PL c fr place ((off, n, x) :: ps) ((i, v) :: qs)
theorem cells_some {β : Type} {v : AV} {f : List AV → Option β} {r : β} (e : v.cells? none f = some r) : (∃ cs, v = .agg cs ∧ f cs = some r) ∨ (v.one = true ∧ f [v] = some r) := by
  cases v <;> first | exact .inl ⟨_, rfl, e⟩ | exact .inr ⟨rfl, e⟩ | cases e
theorem V.one_cell {a : AV} {v : Value} (h : V c a v) (h1 : a.one = true) : v.oneCell' = true := by
  cases h with
  | any j v hq hb => exact hq
  | _ => first | rfl | cases h1
theorem V.cells_eq {a : AV} {v : Value} (h : V c a v) (h1 : a.one = true) : v.cells = #[v] := by
  cases h with
  | any j v hq hb => cases v <;> first | rfl | cases hq
  | _ => first | rfl | cases h1
/-- The cells of a value. -/
theorem cells_V {a : AV} {v : Value} (h : V c a v) : (∀ cs, a = .agg cs → VL c cs v.cells.toList) ∧ (a.one = true → VL c [a] v.cells.toList) := by
  refine ⟨fun cs e => ?_, fun e => ?_⟩
  · subst e
    obtain ⟨vs, rfl, hv, _⟩ := h.agg_inv
    simpa [Value.cells] using hv
  · rw [h.cells_eq e]
    exact VL.one h
theorem foldl_set : ∀ (l : List Value) (off j : Nat) (cs : Array Value), off + j + l.length ≤ cs.size →
    ((l.zipIdx j).foldl (fun (cs : Array Value) (p : Value × Nat) => cs.setIfInBounds (off + p.2) p.1) cs).toList = cs.toList.take (off + j) ++ l ++ cs.toList.drop (off + j + l.length)
  | [], off, j, cs, _ => by simp
  | a :: l, off, j, cs, h => by
    simp only [List.length_cons] at h
    rw [List.zipIdx_cons, List.foldl_cons, foldl_set l off (j + 1) _ (by simp; omega)]
    have hlt : off + j < cs.toList.length := by simp; omega
    simp only [Array.toList_setIfInBounds, List.length_cons]
    rw [← Nat.add_assoc, List.take_set, List.take_succ_eq_append_getElem hlt, List.drop_set_of_lt (by omega)]
    rw [List.set_append_right _ _ (by simp; omega)]
    have h0 : min (off + j) cs.toList.length = off + j := by omega
    simp only [List.length_take, h0, Nat.sub_self, List.set_cons_zero, List.append_assoc, List.cons_append, List.nil_append, List.singleton_append]
    rw [show off + j + 1 + l.length = off + j + (l.length + 1) by omega]
theorem s_fill {place : Nat → Option (Nat × Nat)} : ∀ {ps : List (Nat × Nat × Opd)} {qs : List (Nat × Value)} {z z' : List AV} {vz : Array Value}, PL c fr place ps qs → VL c z vz.toList → (∀ a ∈ z, a.one = true) → fills ps fr z = some z' →
    ∃ vz' : Array Value, Instr.fill place vz qs = some vz' ∧ VL c z' vz'.toList ∧ ∀ a ∈ z', a.one = true
  | _, _, z, z', vz, .nil, hz, hone, e => by
    cases e
    exact ⟨vz, rfl, hz, hone⟩
  | _, _, z, z', vz, .cons (off := off) (n := n) (i := i) (x := x) (v := v) (ps := ps) (qs := qs) hp hx hrest, hz, hone, e => by
    have step : ∀ cs : List AV, VL c cs v.cells.toList → (∀ a ∈ cs, a.one = true) → bi (Nat.beq (llen cs) n) (ob (lput cs off z) none (fills ps fr)) none = some z' →
        ∃ vz' : Array Value, Instr.fill place vz ((i, v) :: qs) = some vz' ∧ VL c z' vz'.toList ∧ ∀ a ∈ z', a.one = true := by
      intro cs hcs h1 e
      obtain ⟨hb, e⟩ := bi_some (by simp) e
      obtain ⟨z1, e1, e2⟩ := ob_some (by simp) e
      obtain ⟨h2, rfl⟩ := lput_some e1
      rw [llen_eq] at hb
      have hn : cs.length = n := Nat.eq_of_beq_eq_true hb
      have hl := hcs.length
      have hzl := hz.length
      have hsz : v.cells.size = n := by rw [← hn, ← hl]; simp
      have hroom : off + 0 + v.cells.toList.length ≤ vz.size := by
        have : vz.size = z.length := by rw [← hzl]; simp
        rw [hl]; omega
      have hf := foldl_set v.cells.toList off 0 vz hroom
      have hv1 : VL c (z.take off ++ cs ++ z.drop (off + cs.length)) ((v.cells.zipIdx.foldl (fun (cs : Array Value) (p : Value × Nat) => cs.setIfInBounds (off + p.2) p.1) vz)).toList := by
        rw [← Array.foldl_toList, Array.toList_zipIdx, hf]
        simp only [Nat.add_zero]
        rw [← hl]
        exact ((hz.take off).append hcs).append (by rw [hl]; exact hz.drop _)
      obtain ⟨vz', h3, h4, h5⟩ := s_fill hrest hv1 (fun a ha => by
        rcases List.mem_append.1 ha with ha | ha
        · rcases List.mem_append.1 ha with ha | ha
          · exact hone a (List.mem_of_mem_take ha)
          · exact h1 a ha
        · exact hone a (List.mem_of_mem_drop ha)) e2
      refine ⟨vz', ?_, h4, h5⟩
      have hno : ¬ (off + v.cells.size > vz.size) := by
        have : v.cells.toList.length = v.cells.size := by simp
        omega
      have hne : (decide (v.cells.size ≠ n) || decide (off + v.cells.size > vz.size)) = false := by
        simp [hsz]
        omega
      unfold Instr.fill
      simp only [hp]
      rw [if_neg (by simp only [Bool.not_eq_true]; exact hne)]
      exact h3
    rcases cells_some (show (x fr).cells? none (fun cs => bi (Nat.beq (llen cs) n) (ob (lput cs off z) none (fills ps fr)) none) = some z' from e) with ⟨cs, ex, e⟩ | ⟨h1, e⟩
    · exact step cs ((cells_V hx).1 cs ex) (by rw [ex] at hx; obtain ⟨_, _, _, h1a⟩ := hx.agg_inv; exact h1a) e
    · exact step [x fr] ((cells_V hx).2 h1) (fun a ha => by rw [List.mem_singleton.1 ha]; exact h1) e

/-- The zero of a type, as the run has it. -/
def Zero (P : Program) (t : TypeId) (cs : List AV) : Prop := ∃ z : Value, (∀ w, (zeroValue t).run P w = .ok z w) ∧ (∀ c : Cx, VL c cs z.cells.toList) ∧ ∀ a ∈ cs, a.one = true
theorem s_build {t : TypeId} {place : Nat → Option (Nat × Nat)} {zs : List AV} {ps : List (Nat × Nat × Opd)} {qs : List (Nat × Value)} (hz : Zero P t zs) (hp : PL c fr place ps qs)
    (hb : ∀ (w : World) (z : Value) (cells : Array Value), (zeroValue t).run P w = .ok z w → Instr.fill place z.cells qs = some cells → (Instr.build t qs.toArray).run P w = .ok (.agg cells) w)
    (e : xBuild zs ps fr h = .ok r h') : h' = h ∧ ∃ u, V c r u ∧ ∀ w, (Instr.build t qs.toArray).run P w = .ok u w := by
  obtain ⟨cs, e1, e2⟩ := obE (show ob (fills ps fr zs) E.no _ = _ from e)
  obtain ⟨e3, e4⟩ := okE e2
  subst e3
  obtain ⟨z, h1, h2, h3⟩ := hz
  obtain ⟨vz', h4, h5, h6⟩ := s_fill hp (h2 c) h3 e1
  refine ⟨e4.symm, .agg vz', ?_, fun w => hb w z vz' (h1 w) h4⟩
  have := V.agg _ _ h5 h6
  simpa using this
theorem build_struct {t : TypeId} {fs : Array Field} {place : Nat → Option (Nat × Nat)} (hu : P.underlying t = some (.struct fs)) (hpl : ∀ w, ∃ places : Array (Nat × Nat), (fs.mapM fun f => do pure (f.offset, ← sizeOf f.type) : Sem (Array (Nat × Nat))).run P w = .ok places w ∧ ∀ i p, place i = some p → places[i]? = some p)
    {qs : List (Nat × Value)} (hq : ∀ q ∈ qs, (place q.1).isSome = true) (w : World) (z : Value) (cells : Array Value) (hz : (zeroValue t).run P w = .ok z w) (hf : Instr.fill place z.cells qs = some cells) : (Instr.build t qs.toArray).run P w = .ok (.agg cells) w := by
  obtain ⟨places, h1, h2⟩ := hpl w
  have hfill : ∀ (qs : List (Nat × Value)) (z : Array Value), (∀ q ∈ qs, (place q.1).isSome = true) → Instr.fill (places[·]?) z qs = Instr.fill place z qs := by
    intro qs
    induction qs with
    | nil => intro z _; rfl
    | cons q qs ih =>
      intro z hq
      obtain ⟨i, v⟩ := q
      obtain ⟨p, hp⟩ := Option.isSome_iff_exists.1 (hq _ List.mem_cons_self)
      unfold Instr.fill
      rw [hp, h2 i p hp]
      simp only
      split
      · rfl
      · exact ih _ fun q hq' => hq q (List.mem_cons_of_mem _ hq')
  simp only [Instr.build, Sem.run_bind, hz, Result.andThen_ok, run_underlying hu, h1, hfill qs z.cells hq, hf]
  rfl
theorem build_array {t e : TypeId} {n sz : Nat} {place : Nat → Option (Nat × Nat)} (hu : P.underlying t = some (.array n e)) (hs : ∀ w, (sizeOf e).run P w = .ok sz w) (hpl : place = fun i => some (i * sz, sz))
    {qs : List (Nat × Value)} (w : World) (z : Value) (cells : Array Value) (hz : (zeroValue t).run P w = .ok z w) (hf : Instr.fill place z.cells qs = some cells) : (Instr.build t qs.toArray).run P w = .ok (.agg cells) w := by
  subst hpl
  simp only [Instr.build, Sem.run_bind, hz, Result.andThen_ok, run_underlying hu, hs, hf]
  rfl
end
end Ev
end Go.Proofs.YtoaimjielnempaaGreatDoor
