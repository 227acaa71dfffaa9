/- A run of a program at given values, reckoned: numbers for blocks, values, memory; nothing is proved here. -/
import Derived.Test.YtfpghnldcbhniaaGreatBase
namespace Go.Proofs.YtfpghnldcbhniaaGreat
set_option linter.unusedVariables false
set_option linter.unusedSimpArgs false
open Go.RowKit Go.Maps
namespace Ev

/-- Numbers from one on, by their digits. -/
inductive Pos where
  | h
  | o (p : Pos)
  | i (p : Pos)
def Pos.succ : Pos → Pos
  | .h => .o .h
  | .o p => .i p
  | .i p => .o p.succ
def Pos.beq : Pos → Pos → Bool
  | .h, .h => true
  | .o p, .o q => p.beq q
  | .i p, .i q => p.beq q
  | _, _ => false
def posOf : Nat → Nat → Pos
  | 0, _ => .h
  | f + 1, n => if Nat.ble n 1 then .h else if Nat.beq (n % 2) 0 then .o (posOf f (n / 2)) else .i (posOf f (n / 2))
/-- The place of a temporary. -/
def slot (t : Nat) : Pos := posOf 20 (t + 1)

inductive T (α : Type) where
  | e
  | n (l : T α) (v : Option α) (r : T α)
noncomputable def T.cas {α : Type} {β : Type} (t : T α) (d : β) (f : T α → Option α → T α → β) : β :=
  T.rec (motive := fun _ => β) d (fun l v r _ _ => f l v r) t
noncomputable def Pos.get {α : Type} (p : Pos) : T α → Option α :=
  Pos.rec (motive := fun _ => T α → Option α) (fun t => t.cas none fun _ v _ => v) (fun _ ih t => t.cas none fun l _ _ => ih l) (fun _ ih t => t.cas none fun _ _ r => ih r) p
noncomputable def T.get {α : Type} (t : T α) (p : Pos) : Option α := p.get t
noncomputable def Pos.set {α : Type} (p : Pos) (x : Option α) : T α → T α :=
  Pos.rec (motive := fun _ => T α → T α) (fun t => t.cas (.n .e x .e) fun l _ r => .n l x r) (fun _ ih t => t.cas (.n (ih .e) none .e) fun l v r => .n (ih l) v r)
    (fun _ ih t => t.cas (.n .e none (ih .e)) fun l v r => .n l v (ih r)) p
noncomputable def T.set {α : Type} (t : T α) (p : Pos) (x : Option α) : T α := p.set x t

/-- Values. A slice's capacity may be unknown. -/
inductive AV where
  | undef
  | bool (b : Bool)
  | int (k : IntKind) (n : Int)
  | str (s : List UInt8)
  | nilp
  | ptr (b : Pos) (o : Nat)
  | nils
  | slice (b : Pos) (o len : Nat) (cap : Option Nat) (sz : Nat)
  | nilm
  | map (b : Pos)
  | nilf
  | func (f : FuncId) (n : Nat) (caps : List AV)
  | iface (t : TypeId) (v : AV)
  | agg (cs : List AV)
  | tuple (vs : List AV)

inductive AObj where
  | cells (cs : List AV) (elem : TypeId) (fz : Nat)
  | map (kt : TypeId) (es : List (AV × AV × Nat)) (clock : Nat)
  | iter (m : Option Pos) (since : Nat) (seen : List Nat) (last : Nat)

structure H where
  t : T AObj
  nx : Pos
noncomputable def ob {α β : Type} (x : Option α) (d : β) (f : α → β) : β := Option.rec (motive := fun _ => β) d f x
noncomputable def H.obj (h : H) (b : Pos) : Option AObj := h.t.get b
noncomputable def H.new (h : H) (o : AObj) : H := { t := h.t.set h.nx (some o), nx := h.nx.succ }
noncomputable def H.put (h : H) (b : Pos) (o : AObj) : H := { t := h.t.set b (some o), nx := h.nx }
noncomputable def H.kill (h : H) (b : Pos) : H := { t := h.t.set b none, nx := h.nx }

/-! ### Numbers -/
def lim : IntKind → Nat
  | .i8 | .u8 => 256
  | .i16 | .u16 => 65536
  | .i32 | .u32 => 4294967296
  | .i64 | .u64 => 18446744073709551616
def half : IntKind → Nat
  | .i8 => 128
  | .i16 => 32768
  | .i32 => 2147483648
  | .i64 => 9223372036854775808
  | .u8 => 256
  | .u16 => 65536
  | .u32 => 4294967296
  | .u64 => 18446744073709551616
def bitsN : IntKind → Nat
  | .i8 | .u8 => 8
  | .i16 | .u16 => 16
  | .i32 | .u32 => 32
  | .i64 | .u64 => 64
/-- The digits of a number of a kind. -/
def digs (k : IntKind) : Int → Nat
  | .ofNat m => m % lim k
  | .negSucc m => lim k - 1 - m % lim k
def wrp (k : IntKind) (n : Int) : Int :=
  let r := digs k n
  bif Nat.blt r (half k) then .ofNat r else .negSucc (lim k - 1 - r)
def ltI : Int → Int → Bool
  | .ofNat a, .ofNat b => Nat.blt a b
  | .ofNat _, .negSucc _ => false
  | .negSucc _, .ofNat _ => true
  | .negSucc a, .negSucc b => Nat.blt b a
def eqI : Int → Int → Bool
  | .ofNat a, .ofNat b => Nat.beq a b
  | .negSucc a, .negSucc b => Nat.beq a b
  | _, _ => false
def kindNo : IntKind → Nat
  | .i8 => 0 | .i16 => 1 | .i32 => 2 | .i64 => 3 | .u8 => 4 | .u16 => 5 | .u32 => 6 | .u64 => 7
def eqK (j k : IntKind) : Bool := Nat.beq (kindNo j) (kindNo k)

/-- A number of a kind: as it is, where it is in reach. -/
def intV (k : IntKind) (n : Int) : AV := .int k (wrp k n)
noncomputable def bAdd (k : IntKind) (x y : Int) : Option AV :=
  Int.rec (motive := fun _ => Option AV) (fun a => Int.rec (motive := fun _ => Option AV) (fun b => Bool.rec (motive := fun _ => Option AV) (some (intV k (x + y))) (some (.int k (.ofNat (Nat.add a b)))) (Nat.blt (Nat.add a b) (half k))) (fun _ => some (intV k (x + y))) y) (fun _ => some (intV k (x + y))) x
def bSub (k : IntKind) (x y : Int) : Option AV := some (intV k (x - y))
def bMul (k : IntKind) (x y : Int) : Option AV := some (intV k (x * y))
def bQuo (k : IntKind) (x y : Int) : Option AV := bif eqI y 0 then none else some (intV k (x.tdiv y))
def bRem (k : IntKind) (x y : Int) : Option AV := bif eqI y 0 then none else some (.int k (x.tmod y))
def bAnd (k : IntKind) (x y : Int) : Option AV := some (intV k (.ofNat (Nat.land (digs k x) (digs k y))))
def bOr (k : IntKind) (x y : Int) : Option AV := some (intV k (.ofNat (Nat.lor (digs k x) (digs k y))))
def bXor (k : IntKind) (x y : Int) : Option AV := some (intV k (.ofNat (Nat.xor (digs k x) (digs k y))))
def bAndNot (k : IntKind) (x y : Int) : Option AV := some (intV k (.ofNat (Nat.land (digs k x) (Nat.xor (lim k - 1) (digs k y)))))
def bEql (_ : IntKind) (x y : Int) : Option AV := some (.bool (eqI x y))
def bNeq (_ : IntKind) (x y : Int) : Option AV := some (.bool (!eqI x y))
def bLss (_ : IntKind) (x y : Int) : Option AV := some (.bool (ltI x y))
def bLeq (_ : IntKind) (x y : Int) : Option AV := some (.bool (!ltI y x))
def bGtr (_ : IntKind) (x y : Int) : Option AV := some (.bool (ltI y x))
def bGeq (_ : IntKind) (x y : Int) : Option AV := some (.bool (!ltI x y))
def bNone (_ : IntKind) (_ _ : Int) : Option AV := none
def binI (op : BinOp) : IntKind → Int → Int → Option AV :=
  match op with
  | .sub => bSub
  | .mul => bMul
  | .quo => bQuo
  | .rem => bRem
  | .and => bAnd
  | .or => bOr
  | .xor => bXor
  | .andNot => bAndNot
  | .eql => bEql
  | .neq => bNeq
  | .lss => bLss
  | .leq => bLeq
  | .gtr => bGtr
  | .geq => bGeq
  | _ => bNone
/-- Shifts of numbers that are not below zero. -/
def shiftI (op : BinOp) (k : IntKind) (x y : Int) : Option AV :=
  match x, y with
  | .ofNat a, .ofNat n =>
    match op with
    | .shl => some (.int k (wrp k (.ofNat (Nat.shiftLeft a (bif Nat.blt n (bitsN k) then n else bitsN k)))))
    | .shr => some (.int k (.ofNat (Nat.shiftRight a (bif Nat.blt n (bitsN k) then n else bitsN k))))
    | _ => none
  | _, _ => none

def eqBytes : List UInt8 → List UInt8 → Bool
  | [], [] => true
  | a :: x, b :: y => bif Nat.beq a.toNat b.toNat then eqBytes x y else false
  | _, _ => false
def ltBytes : List UInt8 → List UInt8 → Bool
  | _, [] => false
  | [], _ :: _ => true
  | a :: x, b :: y => bif Nat.blt a.toNat b.toNat then true else bif Nat.beq a.toNat b.toNat then ltBytes x y else false
def binS (op : BinOp) (x y : List UInt8) : Option AV :=
  match op with
  | .add => bif Nat.blt (x.length + y.length) 1000000 then some (.str (x ++ y)) else none
  | .eql => some (.bool (eqBytes x y))
  | .neq => some (.bool (!eqBytes x y))
  | .lss => some (.bool (ltBytes x y))
  | .geq => some (.bool (!ltBytes x y))
  | _ => none

/-- Cells that are equal, of values without addresses. -/
def eqCell : AV → AV → Option Bool
  | .bool a, .bool b => some (a == b)
  | .int j a, .int k b => bif eqK j k then some (eqI a b) else none
  | .str a, .str b => some (eqBytes a b)
  | _, _ => none
def eqCells : List AV → List AV → Option Bool
  | [], [] => some true
  | a :: x, b :: y =>
    match eqCell a b with
    | some true => eqCells x y
    | r => r
  | _, _ => none
/-- Keys. -/
def eqAV : AV → AV → Option Bool
  | .agg x, .agg y => eqCells x y
  | x, y => eqCell x y

/-! ### What a value is -/
section
variable {β : Type}
noncomputable def AV.int? (v : AV) (d : β) (f : IntKind → Int → β) : β :=
  AV.rec (motive_1 := fun _ => β) (motive_2 := fun _ => Unit) d (fun _ => d) f (fun _ => d) d (fun _ _ => d) d (fun _ _ _ _ _ => d) d (fun _ => d) d (fun _ _ _ _ => d) (fun _ _ _ => d) (fun _ _ => d) (fun _ _ => d) () (fun _ _ _ _ => ()) v
noncomputable def AV.bool? (v : AV) (d : β) (f : Bool → β) : β :=
  AV.rec (motive_1 := fun _ => β) (motive_2 := fun _ => Unit) d f (fun _ _ => d) (fun _ => d) d (fun _ _ => d) d (fun _ _ _ _ _ => d) d (fun _ => d) d (fun _ _ _ _ => d) (fun _ _ _ => d) (fun _ _ => d) (fun _ _ => d) () (fun _ _ _ _ => ()) v
noncomputable def AV.ptr? (v : AV) (d : β) (f : Pos → Nat → β) : β :=
  AV.rec (motive_1 := fun _ => β) (motive_2 := fun _ => Unit) d (fun _ => d) (fun _ _ => d) (fun _ => d) d f d (fun _ _ _ _ _ => d) d (fun _ => d) d (fun _ _ _ _ => d) (fun _ _ _ => d) (fun _ _ => d) (fun _ _ => d) () (fun _ _ _ _ => ()) v
noncomputable def AV.agg? (v : AV) (d : β) (f : List AV → β) : β :=
  AV.rec (motive_1 := fun _ => β) (motive_2 := fun _ => Unit) d (fun _ => d) (fun _ _ => d) (fun _ => d) d (fun _ _ => d) d (fun _ _ _ _ _ => d) d (fun _ => d) d (fun _ _ _ _ => d) (fun _ _ _ => d) (fun cs _ => f cs) (fun _ _ => d) () (fun _ _ _ _ => ()) v
noncomputable def AV.tup? (v : AV) (d : β) (f : List AV → β) : β :=
  AV.rec (motive_1 := fun _ => β) (motive_2 := fun _ => Unit) d (fun _ => d) (fun _ _ => d) (fun _ => d) d (fun _ _ => d) d (fun _ _ _ _ _ => d) d (fun _ => d) d (fun _ _ _ _ => d) (fun _ _ _ => d) (fun _ _ => d) (fun vs _ => f vs) () (fun _ _ _ _ => ()) v
noncomputable def AV.str? (v : AV) (d : β) (f : List UInt8 → β) : β :=
  AV.rec (motive_1 := fun _ => β) (motive_2 := fun _ => Unit) d (fun _ => d) (fun _ _ => d) f d (fun _ _ => d) d (fun _ _ _ _ _ => d) d (fun _ => d) d (fun _ _ _ _ => d) (fun _ _ _ => d) (fun _ _ => d) (fun _ _ => d) () (fun _ _ _ _ => ()) v
noncomputable def AV.slice? (v : AV) (d n : β) (f : Pos → Nat → Nat → Option Nat → Nat → β) : β :=
  AV.rec (motive_1 := fun _ => β) (motive_2 := fun _ => Unit) d (fun _ => d) (fun _ _ => d) (fun _ => d) d (fun _ _ => d) n f d (fun _ => d) d (fun _ _ _ _ => d) (fun _ _ _ => d) (fun _ _ => d) (fun _ _ => d) () (fun _ _ _ _ => ()) v
noncomputable def AV.map? (v : AV) (d n : β) (f : Pos → β) : β :=
  AV.rec (motive_1 := fun _ => β) (motive_2 := fun _ => Unit) d (fun _ => d) (fun _ _ => d) (fun _ => d) d (fun _ _ => d) d (fun _ _ _ _ _ => d) n f d (fun _ _ _ _ => d) (fun _ _ _ => d) (fun _ _ => d) (fun _ _ => d) () (fun _ _ _ _ => ()) v
noncomputable def AV.func? (v : AV) (d : β) (f : FuncId → Nat → List AV → β) : β :=
  AV.rec (motive_1 := fun _ => β) (motive_2 := fun _ => Unit) d (fun _ => d) (fun _ _ => d) (fun _ => d) d (fun _ _ => d) d (fun _ _ _ _ _ => d) d (fun _ => d) d (fun g n cs _ => f g n cs) (fun _ _ _ => d) (fun _ _ => d) (fun _ _ => d) () (fun _ _ _ _ => ()) v
noncomputable def AV.iface? (v : AV) (d : β) (f : TypeId → AV → β) : β :=
  AV.rec (motive_1 := fun _ => β) (motive_2 := fun _ => Unit) d (fun _ => d) (fun _ _ => d) (fun _ => d) d (fun _ _ => d) d (fun _ _ _ _ _ => d) d (fun _ => d) d (fun _ _ _ _ => d) (fun t v _ => f t v) (fun _ _ => d) (fun _ _ => d) () (fun _ _ _ _ => ()) v
noncomputable def AObj.cells? (v : AObj) (d : β) (f : List AV → TypeId → Nat → β) : β := AObj.rec (motive := fun _ => β) f (fun _ _ _ => d) (fun _ _ _ _ => d) v
noncomputable def AObj.map? (v : AObj) (d : β) (f : TypeId → List (AV × AV × Nat) → Nat → β) : β := AObj.rec (motive := fun _ => β) (fun _ _ _ => d) f (fun _ _ _ _ => d) v
noncomputable def AObj.iter? (v : AObj) (d : β) (f : Option Pos → Nat → List Nat → Nat → β) : β := AObj.rec (motive := fun _ => β) (fun _ _ _ => d) (fun _ _ _ => d) f v
noncomputable def bi (b : Bool) (x y : β) : β := Bool.rec (motive := fun _ => β) y x b
noncomputable def Nat.cas (n : Nat) (z : β) (f : Nat → β) : β := Nat.rec (motive := fun _ => β) z (fun m _ => f m) n
noncomputable def Int.cas (n : Int) (f g : Nat → β) : β := Int.rec (motive := fun _ => β) f g n
/-- A whole number that is not below zero. -/
noncomputable def AV.nat? (v : AV) (d : β) (f : Nat → β) : β := v.int? d fun _ n => Int.cas n f fun _ => d
end

abbrev Fr := T AV
noncomputable def Fr.get (fr : Fr) (p : Pos) : AV := ob (T.get fr p) .undef fun v => v
abbrev Opd := Fr → AV
noncomputable def oT (p : Pos) : Opd := fun fr => Fr.get fr p
noncomputable def oC (v : AV) : Opd := fun _ => v
noncomputable def evs (xs : List Opd) (fr : Fr) : List AV := List.rec (motive := fun _ => List AV) [] (fun x _ ih => x fr :: ih) xs

/-! ### Cells -/
/-- The cells of a value, if it can lie in memory. -/
noncomputable def AV.cells? {β : Type} (v : AV) (d : β) (f : List AV → β) : β :=
  AV.rec (motive_1 := fun _ => β) (motive_2 := fun _ => Unit) d (fun _ => f [v]) (fun _ _ => f [v]) (fun _ => f [v]) (f [v]) (fun _ _ => f [v]) (f [v]) (fun _ _ _ _ _ => f [v]) (f [v]) (fun _ => f [v]) (f [v]) (fun _ _ _ _ => f [v]) (fun _ _ _ => f [v])
    (fun cs _ => f cs) (fun _ _ => d) () (fun _ _ _ _ => ()) v
noncomputable def lget (l : List AV) : Nat → Option AV := List.rec (motive := fun _ => Nat → Option AV) (fun _ => none) (fun a _ ih n => Nat.cas n (some a) ih) l
noncomputable def ltake (l : List AV) : Nat → Option (List AV) :=
  List.rec (motive := fun _ => Nat → Option (List AV)) (fun n => Nat.cas n (some []) fun _ => none) (fun a _ ih n => Nat.cas n (some []) fun m => ob (ih m) none fun r => some (a :: r)) l
noncomputable def lrange (l : List AV) (n : Nat) (o : Nat) : Option (List AV) :=
  Nat.rec (motive := fun _ => List AV → Option (List AV)) (fun l => ltake l n) (fun _ ih l => List.rec (motive := fun _ => Option (List AV)) none (fun _ l _ => ih l) l) o l
/-- Cells laid over others from the head on. -/
noncomputable def lover (x : List AV) : List AV → Option (List AV) :=
  List.rec (motive := fun _ => List AV → Option (List AV)) (fun l => some l) (fun a _ ih l => List.rec (motive := fun _ => Option (List AV)) none (fun _ l _ => ob (ih l) none fun r => some (a :: r)) l) x
noncomputable def lput (x : List AV) (o : Nat) (l : List AV) : Option (List AV) :=
  Nat.rec (motive := fun _ => List AV → Option (List AV)) (fun l => lover x l) (fun _ ih l => List.rec (motive := fun _ => Option (List AV)) none (fun a l _ => ob (ih l) none fun r => some (a :: r)) l) o l
noncomputable def llen (l : List AV) : Nat := List.rec (motive := fun _ => Nat) 0 (fun _ _ n => Nat.succ n) l
noncomputable def lapp (x y : List AV) : List AV := List.rec (motive := fun _ => List AV) y (fun a _ r => a :: r) x
noncomputable def fills (ps : List (Nat × Nat × Opd)) (fr : Fr) : List AV → Option (List AV) :=
  List.rec (motive := fun _ => List AV → Option (List AV)) (fun z => some z)
    (fun p _ ih z => (p.2.2 fr).cells? none fun cs => bi (Nat.beq (llen cs) p.2.1) (ob (lput cs p.1 z) none ih) none) ps
noncomputable def bytesOf (l : List AV) : Option (List UInt8) :=
  List.rec (motive := fun _ => Option (List UInt8)) (some []) (fun a _ ih => a.int? none fun k n => bi (eqK k .u8) (Int.cas n (fun m => ob ih none fun r => some (UInt8.ofNat m :: r)) fun _ => none) none) l
noncomputable def ofBytes (l : List UInt8) : List AV := List.rec (motive := fun _ => List AV) [] (fun b _ r => .int .u8 (.ofNat b.toNat) :: r) l
noncomputable def rep (z : List AV) (n : Nat) : List AV := Nat.rec (motive := fun _ => List AV) [] (fun _ r => lapp z r) n
noncomputable def mfind (k : AV) (es : List (AV × AV × Nat)) : Option (Option AV) :=
  List.rec (motive := fun _ => Option (Option AV)) (some none) (fun e _ ih => ob (eqAV e.1 k) none fun b => bi b (some (some e.2.1)) ih) es
noncomputable def mput (k v : AV) (c : Nat) (es : List (AV × AV × Nat)) : Option (List (AV × AV × Nat) × Bool) :=
  List.rec (motive := fun _ => Option (List (AV × AV × Nat) × Bool)) (some ([(k, v, c)], true))
    (fun e es ih => ob (eqAV e.1 k) none fun b => bi b (some ((k, v, e.2.2) :: es, false)) (ob ih none fun r => some (e :: r.1, r.2))) es
noncomputable def mdel (k : AV) (es : List (AV × AV × Nat)) : Option (List (AV × AV × Nat)) :=
  List.rec (motive := fun _ => Option (List (AV × AV × Nat))) (some []) (fun e es ih => ob (eqAV e.1 k) none fun b => bi b (some es) (ob ih none fun r => some (e :: r))) es
noncomputable def mem (n : Nat) (l : List Nat) : Bool := List.rec (motive := fun _ => Bool) false (fun a _ r => bi (Nat.beq a n) true r) l
noncomputable def mleft (seen : List Nat) (es : List (AV × AV × Nat)) : List (AV × AV × Nat) :=
  List.rec (motive := fun _ => List (AV × AV × Nat)) [] (fun e _ r => bi (mem e.2.2 seen) r (e :: r)) es
noncomputable def mborn (n : Nat) (es : List (AV × AV × Nat)) : Option (AV × AV) :=
  List.rec (motive := fun _ => Option (AV × AV)) none (fun e _ r => bi (Nat.beq e.2.2 n) (some (e.1, e.2.1)) r) es

/-- What a value without addresses is in the model. -/
def concS : AV → Option Value
  | .bool b => some (.bool b)
  | .int k n => some (.int k n)
  | .str s => some (.string ⟨s.toArray⟩)
  | _ => none
def concL : List AV → Option (List Value)
  | [] => some []
  | a :: l =>
    match concS a, concL l with
    | some v, some r => some (v :: r)
    | _, _ => none
def conc : AV → Option Value
  | .agg cs =>
    match concL cs with
    | some l => some (.agg l.toArray)
    | none => none
  | a => concS a

/-! ### Operations -/
inductive E where
  | no
  | ok (v : AV) (h : H)
abbrev XOp := Fr → H → E
noncomputable def eo (x : Option AV) (h : H) : E := ob x .no fun v => .ok v h

noncomputable def xMv (x : Opd) : XOp := fun fr h => .ok (x fr) h
noncomputable def xNil (x : Opd) : XOp := fun fr h => (x fr).ptr? .no fun b o => .ok (.ptr b o) h
noncomputable def xPick (c a b : Opd) : XOp := fun fr h => (c fr).bool? .no fun t => .ok (bi t (a fr) (b fr)) h
noncomputable def xBox (t : TypeId) (x : Opd) : XOp := fun fr h => (x fr).cells? .no fun cs => .ok (.ptr h.nx 0) (h.new (.cells cs t 0))
noncomputable def xZero (t : TypeId) (z : List AV) : XOp := fun _ h => .ok (.ptr h.nx 0) (h.new (.cells z t 0))
noncomputable def xBuild (z : List AV) (ps : List (Nat × Nat × Opd)) : XOp := fun fr h => ob (fills ps fr z) .no fun cs => .ok (.agg cs) h
noncomputable def xBuildS (e : TypeId) (sz n : Nat) (z : List AV) (ps : List (Nat × Nat × Opd)) : XOp := fun fr h =>
  ob (fills ps fr z) .no fun cs => .ok (.slice h.nx 0 n (some n) sz) (h.new (.cells cs e 0))
noncomputable def cellsAt (h : H) (b : Pos) (d : E) (f : List AV → TypeId → Nat → E) : E := ob (h.obj b) d fun o => o.cells? d f
noncomputable def mapAt (h : H) (b : Pos) (d : E) (f : TypeId → List (AV × AV × Nat) → Nat → E) : E := ob (h.obj b) d fun o => o.map? d f
noncomputable def xLd (x : Opd) : XOp := fun fr h => (x fr).ptr? .no fun b o => cellsAt h b .no fun cs _ _ => eo (lget cs o) h
noncomputable def xLdn (n : Nat) (x : Opd) : XOp := fun fr h => (x fr).ptr? .no fun b o => cellsAt h b .no fun cs _ _ => ob (lrange cs n o) .no fun v => .ok (.agg v) h
noncomputable def stTo (h : H) (b : Pos) (o : Nat) (cs : List AV) (t : TypeId) (fz : Nat) (v : List AV) : E :=
  bi (Nat.ble fz o) (ob (lput v o cs) .no fun cs' => .ok .undef (h.put b (.cells cs' t fz))) .no
noncomputable def xSt (n : Nat) (a x : Opd) : XOp := fun fr h => (a fr).ptr? .no fun b o => cellsAt h b .no fun cs t fz =>
  (x fr).cells? .no fun v => bi (Nat.beq (llen v) n) (stTo h b o cs t fz v) .no
noncomputable def xInt (f : IntKind → Int → Int → Option AV) (x y : Opd) : XOp := fun fr h => (x fr).int? .no fun j a => (y fr).int? .no fun k b => bi (eqK j k) (eo (f j a b) h) .no
/-- A number of which the bounds are known. -/
noncomputable def AV.rng? {β : Type} (v : AV) (d : β) (f : IntKind → Int → Int → β) : β := v.iface? d fun t a => bi (Nat.beq t 16777217) (a.agg? d fun l => List.rec (motive := fun _ => β) d (fun x l _ => List.rec (motive := fun _ => β) d (fun y l _ => List.rec (motive := fun _ => β) (x.int? d fun k lo => y.int? d fun _ hi => f k lo hi) (fun _ _ _ => d) l) l) l) d
noncomputable def cmpR (op : BinOp) (lo hi b : Int) (h : H) : E :=
  match op with
  | .lss => bi (ltI hi b) (.ok (.bool true) h) (bi (ltI lo b) .no (.ok (.bool false) h))
  | .geq => bi (ltI hi b) (.ok (.bool false) h) (bi (ltI lo b) .no (.ok (.bool true) h))
  | .gtr => bi (ltI b lo) (.ok (.bool true) h) (bi (ltI b hi) .no (.ok (.bool false) h))
  | .leq => bi (ltI b lo) (.ok (.bool false) h) (bi (ltI b hi) .no (.ok (.bool true) h))
  | _ => .no
noncomputable def xCmp (op : BinOp) (x y : Opd) : XOp := fun fr h => (x fr).int? ((x fr).rng? .no fun k lo hi => (y fr).int? .no fun j b => bi (eqK k j) (cmpR op lo hi b h) .no) fun j a => (y fr).int? .no fun k b => bi (eqK j k) (eo (binI op j a b) h) .no
noncomputable def xStr (op : BinOp) (x y : Opd) : XOp := fun fr h => (x fr).str? .no fun a => (y fr).str? .no fun b => eo (binS op a b) h
noncomputable def xShf (op : BinOp) (x y : Opd) : XOp := fun fr h => (x fr).int? .no fun k a => (y fr).int? .no fun _ b => eo (shiftI op k a b) h
/-- Whether a value is a nil one, and of what. -/
noncomputable def AV.nilK (v : AV) : Option (Nat × Bool) :=
  AV.rec (motive_1 := fun _ => Option (Nat × Bool)) (motive_2 := fun _ => Unit) none (fun _ => none) (fun _ _ => none) (fun _ => none) (some (0, true)) (fun _ _ => some (0, false)) (some (1, true)) (fun _ _ _ _ _ => some (1, false)) (some (2, true)) (fun _ => some (2, false))
    (some (3, true)) (fun _ _ _ _ => some (3, false)) (fun _ _ _ => none) (fun _ _ => none) (fun _ _ => none) () (fun _ _ _ _ => ()) v
noncomputable def neB (ne b : Bool) : AV := .bool (bi ne (bi b false true) b)
noncomputable def xEqN (kind : Nat) (ne : Bool) (x y : Opd) : XOp := fun fr h => ob (x fr).nilK .no fun a => ob (y fr).nilK .no fun b =>
  bi (Nat.beq a.1 kind) (bi (Nat.beq b.1 kind) (bi (bi a.2 true b.2) (.ok (neB ne (bi a.2 b.2 false)) h) .no) .no) .no
noncomputable def xEqB (ne : Bool) (x y : Opd) : XOp := fun fr h => (x fr).bool? .no fun a => (y fr).bool? .no fun b => .ok (neB ne (bi a b (bi b false true))) h
/-- Aggregates: of keys' types alone. -/
noncomputable def xEqA (ne : Bool) (key : AV → Bool) (x y : Opd) : XOp := fun fr h => bi (key (x fr)) (bi (key (y fr)) ((x fr).agg? .no fun a => (y fr).agg? .no fun b => ob (eqCells a b) .no fun r => .ok (neB ne r) h) .no) .no
noncomputable def xNot (x : Opd) : XOp := fun fr h => (x fr).bool? .no fun b => .ok (.bool (bi b false true)) h
noncomputable def xNeg (x : Opd) : XOp := fun fr h => (x fr).int? .no fun k n => .ok (.int k (wrp k (0 - n))) h
noncomputable def xCompl (x : Opd) : XOp := fun fr h => (x fr).int? .no fun k n => .ok (.int k (wrp k (.ofNat (Nat.xor (lim k - 1) (digs k n))))) h
noncomputable def xConv (k : IntKind) (x : Opd) : XOp := fun fr h => (x fr).int? .no fun _ n => .ok (.int k (wrp k n)) h
noncomputable def xS2b (e : TypeId) (x : Opd) : XOp := fun fr h => (x fr).str? .no fun s => .ok (.slice h.nx 0 s.length none 1) (h.new (.cells (ofBytes s) e 0))
noncomputable def xB2s (x : Opd) : XOp := fun fr h => (x fr).slice? .no (.ok (.str []) h) fun b o n _ _ => cellsAt h b .no fun cs _ _ =>
  ob (lrange cs n o) .no fun v => ob (bytesOf v) .no fun s => .ok (.str s) h
noncomputable def xClos (f : FuncId) (first caps : List Opd) : XOp := fun fr h => .ok (.func f first.length (evs (first ++ caps) fr)) h
noncomputable def xMkmap (kt : TypeId) : XOp := fun _ h => .ok (.map h.nx) (h.new (.map kt [] 0))
noncomputable def xMksl (e : TypeId) (sz bytes : Nat) (z : List AV) (l c : Opd) : XOp := fun fr h => (l fr).nat? .no fun n => (c fr).nat? .no fun m =>
  bi (Nat.ble n m) (bi (Nat.blt (m * bytes) 1000000000) (bi (Nat.blt m 1000000000) (.ok (.slice h.nx 0 n (some m) sz) (h.new (.cells (rep z m) e 0))) .no) .no) .no
/-- The bounds of a slice expression: none of them may be wrong. -/
noncomputable def optN (x : Option Opd) (fr : Fr) (d : E) (f : Option Nat → E) : E := ob x (f none) fun x => (x fr).nat? d fun n => f (some n)
noncomputable def sliceB (len : Nat) (cap lo hi : Option Nat) (f : Nat → Nat → Option Nat → E) : E :=
  bi (Nat.ble (ob hi len fun h => h) (ob cap len fun c => c)) (bi (Nat.ble (ob lo 0 fun l => l) (ob hi len fun h => h)) (f (ob lo 0 fun l => l) (ob hi len fun h => h) cap) .no) .no
noncomputable def sliceM (len : Nat) (cap lo hi mx : Option Nat) (f : Nat → Nat → Option Nat → E) : E :=
  ob mx (sliceB len cap lo hi f) fun m => ob hi .no fun hi => bi (Nat.ble m (ob cap len fun c => c)) (sliceB len (some m) lo (some hi) f) .no
noncomputable def cutTo (b : Pos) (o sz l r : Nat) (m : Option Nat) : AV :=
  ob m (.slice b (o + l * sz) (r - l) none sz) fun m => bi (Nat.beq m l) (.slice b o (r - l) (some (m - l)) sz) (.slice b (o + l * sz) (r - l) (some (m - l)) sz)
noncomputable def xSlc (sz : Nat) (x : Opd) (lo hi mx : Option Opd) : XOp := fun fr h => optN lo fr .no fun lo => optN hi fr .no fun hi => optN mx fr .no fun mx =>
  (x fr).slice? .no (sliceM 0 (some 0) lo hi mx fun _ _ _ => .ok .nils h) fun b o n c s => bi (Nat.beq s sz) (sliceM n c lo hi mx fun l r m => .ok (cutTo b o sz l r m) h) .no
noncomputable def xSlarr (n sz : Nat) (x : Opd) (lo hi mx : Option Opd) : XOp := fun fr h => optN lo fr .no fun lo => optN hi fr .no fun hi => optN mx fr .no fun mx =>
  (x fr).ptr? .no fun b o => cellsAt h b .no fun cs _ _ => bi (Nat.ble (o + n * sz) (llen cs)) (sliceM n (some n) lo hi mx fun l r m => .ok (cutTo b o sz l r m) h) .no
noncomputable def xSlstr (x : Opd) (lo hi : Option Opd) : XOp := fun fr h => optN lo fr .no fun lo => optN hi fr .no fun hi =>
  (x fr).str? .no fun s => sliceM s.length (some s.length) lo hi none fun l r _ => .ok (.str ((s.drop l).take (r - l))) h
noncomputable def xFaddr (off : Nat) (x : Opd) : XOp := fun fr h => (x fr).ptr? .no fun b o => .ok (.ptr b (o + off)) h
/-- A part of an aggregate. -/
noncomputable def partE (cs : List AV) (off : Nat) (n : Option Nat) (h : H) : E := ob n (eo (lget cs off) h) fun n => ob (lrange cs n off) .no fun v => .ok (.agg v) h
noncomputable def xFld (off : Nat) (n : Option Nat) (x : Opd) : XOp := fun fr h => (x fr).agg? .no fun cs => partE cs off n h
noncomputable def xIaddr (sz : Nat) (x i : Opd) : XOp := fun fr h => (x fr).slice? .no .no fun b o len _ s => bi (Nat.beq s sz) ((i fr).nat? .no fun n => bi (Nat.blt n len) (.ok (.ptr b (o + n * sz)) h) .no) .no
noncomputable def xIaddrA (len sz : Nat) (x i : Opd) : XOp := fun fr h => (x fr).ptr? .no fun b o => (i fr).nat? .no fun n => bi (Nat.blt n len) (.ok (.ptr b (o + n * sz)) h) .no
noncomputable def xIdxS (x i : Opd) : XOp := fun fr h => (x fr).str? .no fun s => (i fr).nat? .no fun n => ob (s[n]?) .no fun b => .ok (.int .u8 (.ofNat b.toNat)) h
noncomputable def xIdxA (len sz : Nat) (m : Option Nat) (x i : Opd) : XOp := fun fr h => (x fr).agg? .no fun cs => (i fr).nat? .no fun n => bi (Nat.blt n len) (partE cs (n * sz) m h) .no
noncomputable def lookE (ok : Bool) (v : AV) (b : Bool) (h : H) : E := bi ok (.ok (.tuple [v, .bool b]) h) (.ok v h)
noncomputable def xLook (kt : TypeId) (key : AV → Bool) (z : AV) (ok : Bool) (x k : Opd) : XOp := fun fr h => bi (key (k fr))
  ((x fr).map? .no (lookE ok z false h) fun b => mapAt h b .no fun t es _ => bi (Nat.beq t kt) (ob (mfind (k fr) es) .no fun r => ob r (lookE ok z false h) fun v => lookE ok v true h) .no) .no
noncomputable def xMupd (kt : TypeId) (key : AV → Bool) (m k v : Opd) : XOp := fun fr h => bi (key (k fr))
  ((m fr).map? .no .no fun b => mapAt h b .no fun t es c => bi (Nat.beq t kt) (ob (mput (k fr) (v fr) c es) .no fun r => .ok .undef (h.put b (.map t r.1 (bi r.2 (c + 1) c)))) .no) .no
noncomputable def xRng (x : Opd) : XOp := fun fr h => (x fr).map? .no (.ok (.ptr h.nx 0) (h.new (.iter none 0 [] 0))) fun b => mapAt h b .no fun _ _ c => .ok (.ptr h.nx 0) (h.new (.iter (some b) c [] c))
noncomputable def nxtE (h : H) (r b : Pos) (since : Nat) (seen : List Nat) (es : List (AV × AV × Nat)) (c : Nat) : E :=
  List.rec (motive := fun _ => E) (.ok (.tuple [.bool false]) h)
    (fun e l _ => List.rec (motive := fun _ => E) (bi (Nat.blt e.2.2 since) (.ok (.tuple [.bool true, e.1, e.2.1]) (h.put r (.iter (some b) since (seen ++ [e.2.2]) c))) .no) (fun _ _ _ => .no) l) (mleft seen es)
/-- Of the entries that the map held at the last step one is there still, or none was seen, or there is none. -/
noncomputable def stillOk (seen : List Nat) (last : Nat) (es : List (AV × AV × Nat)) : Bool :=
  List.rec (motive := fun _ => Bool) true (fun _ _ _ => List.rec (motive := fun _ => Bool) true (fun _ _ _ => List.rec (motive := fun _ => Bool) false (fun e _ r => bi (Nat.blt e.2.2 last) true r) es) es) seen
noncomputable def xNxt (x : Opd) : XOp := fun fr h => (x fr).ptr? .no fun r o => bi (Nat.beq o 0) (ob (h.obj r) .no fun it => it.iter? .no fun m since seen last =>
  ob m (.ok (.tuple [.bool false]) h) fun b => mapAt h b .no fun _ es c => bi (stillOk seen last es) (nxtE h r b since seen es c) .no) .no
noncomputable def xEntry (x : Opd) : XOp := fun fr h => (x fr).ptr? .no fun r o => bi (Nat.beq o 0) (ob (h.obj r) .no fun it => it.iter? .no fun m _ seen last =>
  ob m .no fun b => ob seen.getLast? .no fun n => mapAt h b .no fun _ es c => bi (Nat.beq c last) (ob (mborn n es) .no fun kv => .ok (.tuple [kv.1, kv.2]) h) .no) .no
noncomputable def xExt (x : Opd) (i : Nat) : XOp := fun fr h => (x fr).tup? .no fun vs => eo (lget vs i) h
noncomputable def xSid (x : Opd) : XOp := fun fr h => (x fr).str? .no fun s => .ok (.str s) h
noncomputable def xLenS (x : Opd) : XOp := fun fr h => (x fr).str? .no fun s => .ok (.int .i64 (.ofNat s.length)) h
noncomputable def xLenL (x : Opd) : XOp := fun fr h => (x fr).slice? .no (.ok (.int .i64 (.ofNat 0)) h) fun _ _ n _ _ => .ok (.int .i64 (.ofNat n)) h
noncomputable def xLenM (x : Opd) : XOp := fun fr h => (x fr).map? .no (.ok (.int .i64 (.ofNat 0)) h) fun b => mapAt h b .no fun _ es _ => .ok (.int .i64 (.ofNat es.length)) h
/-- What is appended: elements, or a text's bytes. -/
noncomputable def srcL (sz : Nat) (v : AV) (h : H) (f : Nat → List AV → E) : E :=
  v.slice? .no (f 0 []) fun b o n _ _ => cellsAt h b .no fun cs _ _ => ob (lrange cs (n * sz) o) .no fun vs => f n vs
noncomputable def srcS (v : AV) (f : Nat → List AV → E) : E := v.str? .no fun s => f s.length (ofBytes s)
noncomputable def small (n bytes : Nat) (e : E) : E := bi (Nat.blt (n * bytes) 1000000000) (bi (Nat.blt n 1000000000) e .no) .no
noncomputable def appUnk (e : TypeId) (sz : Nat) (h : H) (b : Pos) (o len n : Nat) (cs : List AV) (t : TypeId) (fz : Nat) (vs : List AV) : E :=
  bi (Nat.beq e t) (bi (Nat.beq o 0) (bi (Nat.beq (llen cs) (len * sz)) (bi (Nat.ble fz (len * sz)) (.ok (.slice h.nx 0 (len + n) none sz) ((h.kill b).new (.cells (lapp cs vs) e fz))) .no) .no) .no) .no
noncomputable def appKn (e : TypeId) (sz : Nat) (h : H) (b : Pos) (o len c n : Nat) (cs : List AV) (t : TypeId) (fz : Nat) (vs : List AV) : E :=
  bi (Nat.ble (len + n) c)
    (bi (Nat.ble fz (o + len * sz)) (ob (lput vs (o + len * sz) cs) .no fun cs' => .ok (.slice b o (len + n) (some c) sz) (h.put b (.cells cs' t fz))) .no)
    (ob (lrange cs (len * sz) o) .no fun old => .ok (.slice h.nx 0 (len + n) none sz) (h.new (.cells (lapp old vs) e 0)))
noncomputable def appTo (e : TypeId) (sz bytes : Nat) (x : AV) (h : H) (n : Nat) (vs : List AV) : E :=
  x.slice? .no (Nat.cas n (.ok .nils h) fun _ => small n bytes (.ok (.slice h.nx 0 n none sz) (h.new (.cells vs e 0))))
    fun b o len c s => bi (Nat.beq s sz) (Nat.cas n (.ok (.slice b o len c sz) h) fun _ => cellsAt h b .no fun cs t fz => small (len + n) bytes
      (ob c (appUnk e sz h b o len n cs t fz vs) fun c => appKn e sz h b o len c n cs t fz vs)) .no
noncomputable def xApp (e : TypeId) (sz bytes : Nat) (x y : Opd) : XOp := fun fr h => srcL sz (y fr) h fun n vs => appTo e sz bytes (x fr) h n vs
noncomputable def xAppS (e : TypeId) (bytes : Nat) (x y : Opd) : XOp := fun fr h => srcS (y fr) fun n vs => appTo e 1 bytes (x fr) h n vs
noncomputable def xDel (kt : TypeId) (key : AV → Bool) (m k : Opd) : XOp := fun fr h => bi (key (k fr))
  ((m fr).map? .no (.ok (.tuple []) h) fun b => mapAt h b .no fun t es c => bi (Nat.beq t kt) (ob (mdel (k fr) es) .no fun es' => .ok (.tuple []) (h.put b (.map t es' c))) .no) .no
noncomputable def xMin (x y : Opd) : XOp := fun fr h => (x fr).int? .no fun j a => (y fr).int? .no fun _ b => .ok (.int j (bi (ltI b a) b a)) h
noncomputable def xMax (x y : Opd) : XOp := fun fr h => (x fr).int? .no fun j a => (y fr).int? .no fun _ b => .ok (.int j (bi (ltI a b) b a)) h
noncomputable def xS2a (n : Nat) (x : Opd) : XOp := fun fr h => (x fr).slice? .no .no fun b o len _ _ => bi (Nat.ble n len) (bi (Nat.blt 0 n) (.ok (.ptr b o) h) .no) .no
noncomputable def xMki (t : TypeId) (x : Opd) : XOp := fun fr h => bi (Nat.blt t 16777216) (.ok (.iface t (x fr)) h) .no
noncomputable def xTas (t : TypeId) (x : Opd) : XOp := fun fr h => (x fr).iface? .no fun u v => bi (Nat.beq t u) (bi (Nat.blt u 16777216) (.ok v h) .no) .no
/-! Functions without a body. -/
def m64 : Nat := 18446744073709551616
noncomputable def pairE (a b : Nat) (h : H) : E := .ok (.tuple [.int .u64 (.ofNat a), .int .u64 (.ofNat b)]) h
noncomputable def three (xs : List Opd) (fr : Fr) (f : Nat → Nat → Nat → E) : E :=
  ob xs[0]? .no fun x => ob xs[1]? .no fun y => ob xs[2]? .no fun c => (x fr).nat? .no fun x => (y fr).nat? .no fun y => (c fr).nat? .no fun c => bi (Nat.ble c 1) (f x y c) .no
noncomputable def xAdd64 (xs : List Opd) : XOp := fun fr h => three xs fr fun x y c => pairE ((x + y + c) % m64) ((x + y + c) / m64) h
noncomputable def xSub64 (xs : List Opd) : XOp := fun fr h => three xs fr fun x y b => pairE ((x + m64 - y - b) % m64) (bi (Nat.blt x (y + b)) 1 0) h
/-! ### The same -/
noncomputable def and' (x y : Bool) : Bool := bi x y false
noncomputable def AV.tag (v : AV) : Nat :=
  AV.rec (motive_1 := fun _ => Nat) (motive_2 := fun _ => Unit) 0 (fun _ => 1) (fun _ _ => 2) (fun _ => 3) 4 (fun _ _ => 5) 6 (fun _ _ _ _ _ => 7) 8 (fun _ => 9) 10 (fun _ _ _ _ => 11) (fun _ _ _ => 12) (fun _ _ => 13) (fun _ _ => 14) () (fun _ _ _ _ => ()) v
noncomputable def sameO (x y : Option Nat) : Bool := ob x (ob y true fun _ => false) fun n => ob y false fun m => Nat.beq n m
noncomputable def sameAV (v : AV) : AV → Bool :=
  AV.rec (motive_1 := fun _ => AV → Bool) (motive_2 := fun _ => List AV → Bool) (fun x => Nat.beq x.tag 0) (fun b x => x.bool? false fun c => bi b c (bi c false true)) (fun k n x => x.int? false fun j m => and' (eqK k j) (eqI n m))
    (fun s x => x.str? false fun t => eqBytes s t) (fun x => Nat.beq x.tag 4) (fun b o x => x.ptr? false fun c p => and' (b.beq c) (Nat.beq o p)) (fun x => Nat.beq x.tag 6)
    (fun b o n k s x => x.slice? false false fun c p m j t => and' (b.beq c) (and' (Nat.beq o p) (and' (Nat.beq n m) (and' (sameO k j) (Nat.beq s t))))) (fun x => Nat.beq x.tag 8) (fun b x => x.map? false false fun c => b.beq c) (fun x => Nat.beq x.tag 10)
    (fun f n _ ih x => x.func? false fun g m cs => and' (Nat.beq f g) (and' (Nat.beq n m) (ih cs))) (fun t _ ih x => x.iface? false fun u y => and' (Nat.beq t u) (ih y)) (fun _ ih x => x.agg? false ih) (fun _ ih x => x.tup? false ih)
    (fun l => List.rec (motive := fun _ => Bool) true (fun _ _ _ => false) l) (fun _ _ ih1 ih2 l => List.rec (motive := fun _ => Bool) false (fun y ys _ => and' (ih1 y) (ih2 ys)) l) v
noncomputable def sameL (l m : List AV) : Bool := sameAV (.agg l) (.agg m)
noncomputable def sameObj (x y : AObj) : Bool :=
  AObj.rec (motive := fun _ => Bool) (fun cs t fz => y.cells? false fun ds u gz => and' (sameL cs ds) (and' (Nat.beq t u) (Nat.beq fz gz)))
    (fun kt es c => y.map? false fun lt fs d => and' (Nat.beq kt lt) (and' (List.rec (motive := fun _ => Bool) (List.rec (motive := fun _ => Bool) true (fun _ _ _ => false) fs) (fun _ _ _ => false) es) (Nat.beq c d))) (fun _ _ _ _ => false) x
end Ev
end Go.Proofs.YtfpghnldcbhniaaGreat
