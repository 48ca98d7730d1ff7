/- The abstract interpreter, part 0: typed values, entities, states, and the interpreter itself (definitions alone). -/
import Derived.ProofKit
import Derived.Orders
import Derived.Scope
import Derived.Laws.AppendOwnNone
import Derived.Laws.MakeOwn
import Derived.Maps.AppendAt
set_option linter.unusedVariables false
set_option linter.unusedSimpArgs false
namespace Go.Proofs.YtlcphnmkkilefaaDoor.Ab
open Go

/-! ### typed values -/
inductive Ty where
  | int (k : IntKind)
  | bool
  | str
  | slice (e : Ty)
  | unit
  | f64
  | ptr (e : Ty)
  | map (e : Ty)
  | prod (a b : Ty)
  deriving DecidableEq

@[reducible] def den : Ty → Type
  | .int _ => Int
  | .bool => Bool
  | .str => ByteArray
  | .slice e => List (den e)
  | .unit => Unit
  | .f64 => Nat
  | .ptr e => Option (den e)
  | .map e => List (Int × den e)
  | .prod a b => den a × den b

def Ty.size : Ty → Nat
  | .unit => 0
  | .prod a b => a.size + b.size
  | _ => 1

def Ty.isS : Ty → Bool
  | .unit => true
  | .prod _ _ => true
  | _ => false

def dflt : (T : Ty) → den T
  | .int _ => (0 : Int)
  | .bool => false
  | .str => (⟨#[]⟩ : ByteArray)
  | .slice _ => []
  | .unit => ()
  | .f64 => (0 : Nat)
  | .ptr _ => none
  | .map _ => []
  | .prod a b => (dflt a, dflt b)

def castT (T T' : Ty) (x : den T') : Option (den T) := if h : T' = T then some (h ▸ x) else none

/-- A value written out in cells, read as one of a type. -/
def parse : (T : Ty) → List Value → Option (den T × List Value)
  | .int k, cs => match cs with
    | .int k' n :: r => if k = k' then some (n, r) else none
    | _ => none
  | .bool, cs => match cs with
    | .bool b :: r => some (b, r)
    | _ => none
  | .str, cs => match cs with
    | .string s :: r => some (s, r)
    | _ => none
  | .slice _, cs => match cs with
    | .slice none 0 0 :: r => some ([], r)
    | _ => none
  | .unit, r => some ((), r)
  | .f64, cs => match cs with
    | .float .f64 n :: r => some (n, r)
    | _ => none
  | .ptr _, cs => match cs with
    | .pointer none :: r => some (none, r)
    | _ => none
  | .map _, cs => match cs with
    | .map none :: r => some ([], r)
    | _ => none
  | .prod a b, cs =>
    match parse a cs with
    | some (x, r) => match parse b r with
      | some (y, r') => some ((x, y), r')
      | none => none
    | none => none

def Value.isAgg : Value → Bool
  | .agg _ => true
  | _ => false

def parseV (T : Ty) (v : Value) : Option (den T) :=
  match parse T v.cells.toList with
  | some (x, []) => bif Value.isAgg v == T.isS then some x else none
  | _ => none

abbrev TV := (T : Ty) × den T

def getF : (T : Ty) → den T → Nat → Option TV
  | .prod a _, x, 0 => some ⟨a, x.1⟩
  | .prod _ b, x, n + 1 => getF b x.2 n
  | _, _, _ => none

def setF : (T : Ty) → den T → Nat → (T' : Ty) → den T' → Option (den T)
  | .prod a _, x, 0, T', y => (castT a T' y).map fun z => (z, x.2)
  | .prod _ b, x, n + 1, T', y => (setF b x.2 n T' y).map fun z => (x.1, z)
  | _, _, _, _, _ => none

/-- The type and the place (in cells) of a field. -/
def offF : Ty → Nat → Option (Ty × Nat)
  | .prod a _, 0 => some (a, 0)
  | .prod a b, n + 1 => (offF b n).map fun p => (p.1, a.size + p.2)
  | _, _ => none

def getP (T : Ty) (x : den T) : List Nat → Option TV
  | [] => some ⟨T, x⟩
  | f :: p => match getF T x f with
    | some ⟨T', y⟩ => getP T' y p
    | none => none

def setP (T : Ty) (x : den T) : List Nat → (T' : Ty) → den T' → Option (den T)
  | [], T', y => castT T T' y
  | f :: p, T', y => match getF T x f with
    | some ⟨T1, z⟩ => match setP T1 z p T' y with
      | some z' => setF T x f T1 z'
      | none => none
    | none => none

def offP : Ty → List Nat → Option (Ty × Nat)
  | T, [] => some (T, 0)
  | T, f :: p => match offF T f with
    | some (T1, o) => (offP T1 p).map fun q => (q.1, o + q.2)
    | none => none

def eqT : (T : Ty) → den T → den T → Bool
  | .int _, a, b => decide ((a : Int) = b)
  | .bool, a, b => (a : Bool) == b
  | .str, a, b => (a : ByteArray).toList == ByteArray.toList b
  | .slice _, _, _ => false
  | .unit, _, _ => true
  | .f64, _, _ => false
  | .ptr _, _, _ => false
  | .map _, _, _ => false
  | .prod A B, a, b => eqT A a.1 b.1 && eqT B a.2 b.2

def Ty.ht : Ty → Nat
  | .prod a b => max (a.ht + 1) b.ht
  | _ => 1
def cmpT : Ty → Bool
  | .slice _ => false
  | .f64 => false
  | .ptr _ => false
  | .map _ => false
  | .prod a b => cmpT a && cmpT b
  | _ => true

/-! ### entities and states -/
inductive E0 : Type where
  | undef
  | val (T : Ty) (x : den T)
  | eptr (T : Ty) (x : den T)
  | cst (v : Value)
  | ref (s : Nat) (p : List Nat)
  | arr (s : Nat)
  | aref (s i : Nat) (p : List Nat)
  | aview (s i : Nat)
  | own (s : Nat)
  | glob (T : Ty) (l : List (den T))

inductive Ent : Type where
  | s (e : E0)
  | fn (f : FuncId) (caps : List E0)
  | tup (es : List E0)

/-- obj: what is looked at from without alone; its kind says how it lies in memory. -/
inductive Obj : Type where
  | box (T : Ty) (x : den T)
  | arr (e : TypeId) (T : Ty) (l : List (den T))
  | obj (k : Nat) (T : Ty) (x : den T)

structure St : Type where
  env : List Ent
  objs : List (Nat × Obj)

def oget (s : Nat) : List (Nat × Obj) → Option Obj
  | [] => none
  | p :: r => bif Nat.beq p.1 s then some p.2 else oget s r
def odel (s : Nat) : List (Nat × Obj) → List (Nat × Obj)
  | [] => []
  | p :: r => bif Nat.beq p.1 s then odel s r else p :: odel s r

def U : Ent := .s .undef
def eget (t : Nat) : List Ent → Ent
  | [] => U
  | e :: r => match t with
    | 0 => e
    | t + 1 => eget t r
def eset (t : Nat) (x : Ent) : List Ent → List Ent
  | [] => []
  | e :: r => match t with
    | 0 => x :: r
    | t + 1 => e :: eset t x r

def St.set (st : St) (d : Nat) (e : Ent) : St := { st with env := eset d e st.env }
def St.put (st : St) (d : Option Nat) (e : Ent) : St := match d with
  | some d => st.set d e
  | none => st

def map1 (f : E0 → E0) : Ent → Ent
  | .s e => .s (f e)
  | .fn g caps => .fn g (caps.map f)
  | .tup es => .tup (es.map f)

def slotOf : E0 → Option Nat
  | .ref s _ => some s
  | .arr s => some s
  | .aref s _ _ => some s
  | .aview s _ => some s
  | .own s => some s
  | _ => none
def onSlot (s : Nat) (e : E0) : Bool := match slotOf e with
  | some s' => Nat.beq s' s
  | none => false

/-- A slot is given up: whatever led to it is undefined. -/
def kill (s : Nat) (st : St) : St :=
  { env := st.env.map (map1 fun e => bif onSlot s e then .undef else e), objs := odel s st.objs }

def has (l : List Nat) (n : Nat) : Bool := l.any fun m => Nat.beq m n
def fgt1 (keep : List Nat) (e : E0) : E0 := match slotOf e with
  | some s => bif has keep s then e else .undef
  | none => e
def fgtE (keep : List Nat) : Nat → List Ent → List Ent
  | _, [] => []
  | i, e :: r => (bif has keep i then map1 (fgt1 keep) e else U) :: fgtE keep (i + 1) r
def fgtO (objs : List (Nat × Obj)) : List Nat → List (Nat × Obj)
  | [] => []
  | s :: r => match oget s objs with
    | some o => (s, o) :: fgtO objs r
    | none => fgtO objs r
/-- All but some slots is forgotten. -/
def fgt0 (keep : List Nat) (st : St) : St := { env := fgtE keep 0 st.env, objs := fgtO st.objs keep }

/-- What a slot owned is nobody's any more and never written again: it is a value. -/
def pub1 (s : Nat) (o : Obj) (e : E0) : E0 :=
  bif onSlot s e then
    match o, e with
    | .arr _ T l, .arr _ => .val (.slice T) l
    | .box T x, .ref _ p => match getP T x p with
      | some ⟨T', y⟩ => .eptr T' y
      | none => .undef
    | _, _ => .undef
  else e
def pubS (s : Nat) (st : St) : St := match oget s st.objs with
  | some o => { env := st.env.map (map1 (pub1 s o)), objs := odel s st.objs }
  | none => st
/-- At a loop's head: numbers from 1000000 on name slots that are made public first. -/
def pubKeep : List Nat → St → St
  | [], st => st
  | k :: r, st => pubKeep r (bif Nat.ble 1000000 k then pubS (k - 1000000) st else st)
def fgt (keep : List Nat) (st : St) : St := fgt0 keep (pubKeep keep st)
def pubCaps : List E0 → St → St
  | [], st => st
  | .ref s _ :: r, st => pubCaps r (pubS s st)
  | _ :: r, st => pubCaps r st
def pubE (e : Ent) (st : St) : St := match e with
  | .s (.arr s) => pubS s st
  | .fn _ caps => pubCaps caps st
  | _ => st

/-! ### operands -/
def lk {α : Type} (n : Nat) : List (Nat × α) → Option α
  | [] => none
  | p :: r => bif Nat.beq p.1 n then some p.2 else lk n r
abbrev AccT : Ty := .prod (.int .u8) (.prod (.int .u8) .unit)
def firstL : List Int := [240, 240, 240, 240, 240, 240, 240, 240, 240, 240, 240, 240, 240, 240, 240, 240, 240, 240, 240, 240, 240, 240, 240, 240, 240, 240, 240, 240, 240, 240, 240, 240, 240, 240, 240, 240, 240, 240, 240, 240, 240, 240, 240, 240, 240, 240, 240, 240, 240, 240, 240, 240, 240, 240, 240, 240, 240, 240, 240, 240, 240, 240, 240, 240, 240, 240, 240, 240, 240, 240, 240, 240, 240, 240, 240, 240, 240, 240, 240, 240, 240, 240, 240, 240, 240, 240, 240, 240, 240, 240, 240, 240, 240, 240, 240, 240, 240, 240, 240, 240, 240, 240, 240, 240, 240, 240, 240, 240, 240, 240, 240, 240, 240, 240, 240, 240, 240, 240, 240, 240, 240, 240, 240, 240, 240, 240, 240, 240, 241, 241, 241, 241, 241, 241, 241, 241, 241, 241, 241, 241, 241, 241, 241, 241, 241, 241, 241, 241, 241, 241, 241, 241, 241, 241, 241, 241, 241, 241, 241, 241, 241, 241, 241, 241, 241, 241, 241, 241, 241, 241, 241, 241, 241, 241, 241, 241, 241, 241, 241, 241, 241, 241, 241, 241, 241, 241, 241, 241, 241, 241, 241, 241, 241, 241, 2, 2, 2, 2, 2, 2, 2, 2, 2, 2, 2, 2, 2, 2, 2, 2, 2, 2, 2, 2, 2, 2, 2, 2, 2, 2, 2, 2, 2, 2, 19, 3, 3, 3, 3, 3, 3, 3, 3, 3, 3, 3, 3, 35, 3, 3, 52, 4, 4, 4, 68, 241, 241, 241, 241, 241, 241, 241, 241, 241, 241, 241]
def accL : List (den AccT) := [(128, (191, ())), (160, (191, ())), (128, (159, ())), (144, (191, ())), (128, (143, ())), (0, (0, ())), (0, (0, ())), (0, (0, ())), (0, (0, ())), (0, (0, ())), (0, (0, ())), (0, (0, ())), (0, (0, ())), (0, (0, ())), (0, (0, ())), (0, (0, ()))]
abbrev ambL : List (Nat × ((T : Ty) × List (den T))) := [(1, ⟨.int .u8, firstL⟩), (2, ⟨AccT, accL⟩)]
/-- A listed package-level variable: where its table lies. -/
def ambE (g : Nat) : Ent := match lk g ambL with
  | some ⟨T, l⟩ => .s (.glob T l)
  | none => U
def ent (st : St) : Operand → Ent
  | .tmp t => eget t st.env
  | .const v => .s (.cst v)
  | .func f => .fn f []
  | .global g => ambE g

def asT (T : Ty) : Ent → Option (den T)
  | .s (.val T' x) => castT T T' x
  | .s (.cst v) => parseV T v
  | _ => none
def asInt : Ent → Option Int
  | .s (.val (.int _) x) => some x
  | .s (.cst (.int _ n)) => some n
  | _ => none

inductive RTy where
  | none
  | one (T : Ty)
  | two (A B : Ty)
  | three (A B C : Ty)
  deriving DecidableEq
@[reducible] def denR : RTy → Type
  | .none => Unit
  | .one T => den T
  | .two A B => den A × den B
  | .three A B C => den A × den B × den C

def lk2 (n m : Nat) : List ((Nat × Nat) × List Nat) → List Nat
  | [] => []
  | p :: r => bif Nat.beq p.1.1 n && Nat.beq p.1.2 m then p.2 else lk2 n m r

/-- What a call by reference gives back: values, or a row of its own; and of each slot that was lent what is in it. -/
inductive SRes where
  | vals (R : RTy)
  | row (e : TypeId) (T : Ty)
  | rowv (e : TypeId) (T A : Ty)
  | newobj (k : Nat) (T : Ty)
  deriving DecidableEq
@[reducible] def denSR : SRes → Type
  | .vals R => denR R
  | .row _ T => List (den T)
  | .rowv _ T A => List (den T) × den A
  | .newobj _ T => den T
inductive LentK where
  | dead
  | box (T : Ty)
  | arr (e : TypeId) (T : Ty)
  | obj (k : Nat) (T : Ty)
  deriving DecidableEq
@[reducible] def denK : LentK → Type
  | .dead => Unit
  | .box T => den T
  | .arr _ T => List (den T)
  | .obj _ T => den T
@[reducible] def denKs : List LentK → Type
  | [] => Unit
  | k :: r => denK k × denKs r
structure Sig where
  res : SRes
  lent : List LentK
@[reducible] def denS (S : Sig) : Type := denSR S.res × denKs S.lent
structure Cfg where
  ty : List (TypeId × Ty)
  el : List (TypeId × TypeId)
  bytes : List (TypeId × Nat)
  fns : List (FuncId × Func)
  res : List (FuncId × RTy)
  keep : List ((FuncId × Nat) × List Nat)
  inl : List (FuncId × Sig)
  cut : List ((FuncId × Nat) × List Nat)
  ext : List (FuncId × Nat)
  arr : List (TypeId × (Nat × TypeId))
structure Call0 where
  p : FuncId → List Ent → (R : RTy) → Option (denR R)
  i : FuncId → List Ent → List (Nat × Obj) → (S : Sig) → Option (denS S)

def entT (cfg : Cfg) (t : TypeId) (st : St) (x : Operand) : Ent := match x with
  | .const v => match lk t cfg.ty with
    | some T => match parseV T v with
      | some y => .s (.val T y)
      | none => .s (.cst v)
    | none => .s (.cst v)
  | x => ent st x

def resE (R : RTy) (x : denR R) : Ent := match R, x with
  | .none, _ => .s (.cst (.tuple #[]))
  | .one T, x => .s (.val T x)
  | .two A B, x => .tup [.val A x.1, .val B x.2]
  | .three A B C, x => .tup [.val A x.1, .val B x.2.1, .val C x.2.2]

def caps? : List Ent → Option (List E0)
  | [] => some []
  | .s (.eptr T x) :: r => (caps? r).map fun l => .eptr T x :: l
  | .s (.val T x) :: r => (caps? r).map fun l => .val T x :: l
  | .s (.ref s p) :: r => (caps? r).map fun l => .ref s p :: l
  | _ :: _ => none

def free1 (e : E0) : Bool := match slotOf e with
  | some _ => false
  | none => true
def free : Ent → Bool
  | .s e => free1 e
  | .fn _ caps => caps.all free1
  | .tup _ => false
def sliceFree : Ty → Bool
  | .slice _ => false
  | .ptr _ => false
  | .map _ => false
  | .prod a b => sliceFree a && sliceFree b
  | _ => true
def sliceFreeR : RTy → Bool
  | .none => true
  | .one A => sliceFree A
  | .two A B => sliceFree A && sliceFree B
  | .three A B C => sliceFree A && sliceFree B && sliceFree C
/-- What is owned, read as a value for a while. -/
def bor1 (objs : List (Nat × Obj)) (e : E0) : E0 := match e with
  | .arr s => match oget s objs with
    | some (.arr _ T l) => .val (.slice T) l
    | _ => .undef
  | .ref s p => match oget s objs with
    | some (.box T x) => match getP T x p with
      | some ⟨T', y⟩ => .eptr T' y
      | none => .undef
    | _ => .undef
  | .aref _ _ _ => .undef
  | .aview _ _ => .undef
  | .own _ => .undef
  | e => e
/-- Arguments, constants typed by the callee's parameters. -/
def args? (cfg : Cfg) (lend : Bool) (st : St) : List TypeId → List Operand → Option (List Ent)
  | _, [] => some []
  | ts, x :: r =>
    let e := bif lend then map1 (bor1 st.objs) (entT cfg (ts.headD 0) st x) else entT cfg (ts.headD 0) st x
    bif free e then (args? cfg lend st ts.tail r).map fun l => e :: l else none

def icmp (op : BinOp) (x y : Int) : Option Bool := match op with
  | .eql => some (decide (x = y))
  | .neq => some (!decide (x = y))
  | .lss => some (decide (x < y))
  | .leq => some (decide (x ≤ y))
  | .gtr => some (decide (y < x))
  | .geq => some (decide (y ≤ x))
  | _ => none
def andI (k : IntKind) (x y : Int) : Int := k.wrap ((BitVec.ofInt k.bits x &&& BitVec.ofInt k.bits y).toNat : Int)
def orI (k : IntKind) (x y : Int) : Int := k.wrap ((BitVec.ofInt k.bits x ||| BitVec.ofInt k.bits y).toNat : Int)
def xorI (k : IntKind) (x y : Int) : Int := k.wrap ((BitVec.ofInt k.bits x ^^^ BitVec.ofInt k.bits y).toNat : Int)
def andNotI (k : IntKind) (x y : Int) : Int := k.wrap ((BitVec.ofInt k.bits x &&& ~~~(BitVec.ofInt k.bits y)).toNat : Int)
def iop (op : BinOp) (k : IntKind) (x y : Int) : Option Int := match op with
  | .add => some (k.wrap (x + y))
  | .sub => some (k.wrap (x - y))
  | .mul => some (k.wrap (x * y))
  | .quo => if y = 0 then none else some (k.wrap (x.tdiv y))
  | .rem => if y = 0 then none else some (x.tmod y)
  | .and => some (andI k x y)
  | .or => some (orI k x y)
  | .xor => some (xorI k x y)
  | .andNot => some (andNotI k x y)
  | _ => none

variable {α : Type}

def binC (op : BinOp) (T : Ty) (x y : den T) (K : Ent → Option α) : Option α := match T, x, y with
  | .int k, x, y => match icmp op x y with
    | some b => K (.s (.val .bool b))
    | none => match iop op k x y with
      | some n => K (.s (.val (.int k) n))
      | none => none
  | .f64, x, y => match op with
    | .eql => K (.s (.val .bool (FloatKind.f64.format.order x y == some .eq)))
    | .neq => K (.s (.val .bool (FloatKind.f64.format.order x y != some .eq)))
    | _ => none
  | .ptr _, x, y => match op, x, y with
    | .eql, x, none => K (.s (.val .bool x.isNone))
    | .neq, x, none => K (.s (.val .bool x.isSome))
    | _, _, _ => none
  | T, x, y => match op with
    | .eql => bif cmpT T && Nat.ble T.ht 10000 then K (.s (.val .bool (eqT T x y))) else none
    | .neq => bif cmpT T && Nat.ble T.ht 10000 then K (.s (.val .bool (!eqT T x y))) else none
    | _ => none

def buildF (T : Ty) (st : St) : den T → List (Nat × Operand) → Option (den T)
  | x, [] => some x
  | x, (i, y) :: r => match offF T i with
    | some (T', _) => match asT T' (ent st y) with
      | some z => match setF T x i T' z with
        | some x' => buildF T st x' r
        | none => none
      | none => none
    | none => none

def elems? (T : Ty) (st : St) : Nat → List (Nat × Operand) → Option (List (den T))
  | _, [] => some []
  | i, (j, y) :: r => bif Nat.beq i j then match asT T (ent st y) with
      | some z => (elems? T st (i + 1) r).map fun l => z :: l
      | none => none
    else none

/-- Through a pointer. -/
def derefK : (T : Ty) → den T → ((T' : Ty) → den T' → Option α) → Option α
  | .ptr e, x, k => Option.bind x (k e)
  | _, _, _ => none
def findM (V : Ty) (k : Int) : List (Int × den V) → den V × Bool
  | [] => (dflt V, false)
  | p :: r => bif decide (k = p.1) then (p.2, true) else findM V k r
/-- A string's bytes; bytes as a string. -/
def bytesL (s : ByteArray) : List Int := s.data.toList.map fun b => (b.toNat : Int)
def strL (l : List Int) : ByteArray := l.foldl (fun r n => r.push (UInt8.ofNat n.toNat)) ByteArray.empty
/-- Functions without a body. -/
def extV (k : Nat) (e : Ent) (K : Ent → Option α) : Option α := match k with
  | 0 => match asT (.int .u64) e with
    | some n => K (.s (.val .f64 (Int.toNat n)))
    | none => none
  | 1 => match asT .f64 e with
    | some n => K (.s (.val (.int .u64) ((n : Nat) : Int)))
    | none => none
  | _ => none
/-- Operations that yield a value and change nothing else. -/
def opP (cfg : Cfg) (call : Call0) (o : Oper) (st : St) (K : Ent → Option α) : Option α :=
  match o.op with
  | .move x => K (entT cfg o.type st x)
  | .pick c a b => match asT .bool (ent st c) with
    | some t => bif t then K (entT cfg o.type st a) else K (entT cfg o.type st b)
    | none => none
  | .load t x => match lk t cfg.ty with
    | none => none
    | some T => match ent st x with
      | .s (.eptr T' y) => match castT T T' y with
        | some z => K (.s (.val T z))
        | none => none
      | .s (.ref s p) => match oget s st.objs with
        | some (.box T0 y) => match getP T0 y p with
          | some ⟨T', z⟩ => match castT T T' z with
            | some u => K (.s (.val T u))
            | none => none
          | none => none
        | _ => none
      | .s (.aref s i p) => match oget s st.objs with
        | some (.arr _ T0 l) => match getP T0 (l.getD i (dflt T0)) p with
          | some ⟨T', z⟩ => match castT T T' z with
            | some u => K (.s (.val T u))
            | none => none
          | none => none
        | _ => none
      | _ => none
  | .indexAddr t (.global g) ix => match lk t cfg.arr, asInt (ent st ix), ent st (.global g) with
    | some (n, e), some i, .s (.glob T l) => bif Nat.beq n l.length && decide (lk e cfg.ty = some T) && decide (0 ≤ i) && decide (i < (l.length : Int)) then K (.s (.eptr T (l.getD i.toNat (dflt T)))) else none
    | _, _, _ => none
  | .indexAddr t x ix => match lk t cfg.ty, asInt (ent st ix) with
    | some (.slice T1), some i => match ent st x with
      | .s (.val (.slice T) l) => bif decide (T = T1) && decide (0 ≤ i) && decide (i < (l.length : Int)) then K (.s (.eptr T (l.getD i.toNat (dflt T)))) else none
      | .s (.arr s) => match oget s st.objs with
        | some (.arr _ T l) => bif decide (T = T1) && decide (0 ≤ i) && decide (i < (l.length : Int)) then K (.s (.aref s i.toNat [])) else none
        | _ => none
      | _ => none
    | _, _ => none
  | .fieldAddr t x f => match lk t cfg.ty with
    | none => none
    | some T1 => match ent st x with
      | .s (.eptr T y) => bif decide (T = T1) then
          (match getF T y f with
            | some ⟨T', z⟩ => K (.s (.eptr T' z))
            | none => none)
        else none
      | .s (.ref s p) => match oget s st.objs with
        | some (.box T0 _) => match offP T0 p with
          | some (T2, _) => bif decide (T2 = T1) && (offF T1 f).isSome then K (.s (.ref s (p ++ [f]))) else none
          | none => none
        | _ => none
      | .s (.aref s i p) => match oget s st.objs with
        | some (.arr _ T0 _) => match offP T0 p with
          | some (T2, _) => bif decide (T2 = T1) && (offF T1 f).isSome then K (.s (.aref s i (p ++ [f]))) else none
          | none => none
        | _ => none
      | _ => none
  | .field t x f => match lk t cfg.ty with
    | none => none
    | some T => match asT T (ent st x) with
      | none => none
      | some y => match getF T y f with
        | some ⟨T', z⟩ => K (.s (.val T' z))
        | none => none
  | .binOp .shr t x y _ => match lk t cfg.ty with
    | some (.int k) => match asT (.int k) (ent st x), asInt (ent st y) with
      | some a, some b => bif decide (0 ≤ b) then K (.s (.val (.int k) (Int.fdiv a (2 ^ (min b.toNat k.bits))))) else none
      | _, _ => none
    | _ => none
  | .binOp .shl t x y _ => match lk t cfg.ty with
    | some (.int k) => match asT (.int k) (ent st x), asInt (ent st y) with
      | some a, some b => bif decide (0 ≤ b) then K (.s (.val (.int k) (k.wrap (a * 2 ^ (min b.toNat k.bits))))) else none
      | _, _ => none
    | _ => none
  | .binOp op t x y t' => match lk t cfg.ty with
    | none => none
    | some T => bif Nat.beq t t' || decide (lk t' cfg.ty = some T) then
        match asT T (ent st x) with
        | none => none
        | some a => match asT T (ent st y) with
          | none => none
          | some b => binC op T a b K
      else none
  | .unOp .not _ x => match asT .bool (ent st x) with
    | some b => K (.s (.val .bool (!b)))
    | none => none
  | .convert a b x => match lk a cfg.ty, lk b cfg.ty with
    | some (.int k), some (.int k') => match asT (.int k) (ent st x) with
      | some n => K (.s (.val (.int k') (k'.wrap n)))
      | none => none
    | some .str, some (.slice (.int .u8)) => match asT .str (ent st x) with
      | some s => K (.s (.val (.slice (.int .u8)) (bytesL s)))
      | none => none
    | some (.slice (.int .u8)), some .str => match asT (.slice (.int .u8)) (ent st x) with
      | some l => K (.s (.val .str (strL l)))
      | none => none
    | _, _ => none
  | .extract x ix => match ent st x with
    | .tup es => match es[ix]? with
      | some e => K (.s e)
      | none => none
    | _ => none
  | .nilCheck x => match ent st x with
    | .s (.eptr T y) => K (.s (.eptr T y))
    | .s (.ref s p) => K (.s (.ref s p))
    | .s (.aref s i p) => K (.s (.aref s i p))
    | .s (.own s) => K (.s (.own s))
    | .s (.val T y) => derefK T y fun T' z => K (.s (.eptr T' z))
    | _ => none
  | .lookup t x ix true => match lk t cfg.ty with
    | some (.map V) => match asT (.map V) (ent st x), asT (.int .i64) (ent st ix) with
      | some l, some k => K (.tup [.val V (findM V k l).1, .val .bool (findM V k l).2])
      | _, _ => none
    | _ => none
  | .build t parts => match lk t cfg.ty with
    | none => none
    | some T => bif T.isS then match buildF T st (dflt T) parts.toList with
        | some x => K (.s (.val T x))
        | none => none
      else none
  | .makeFunc (.func f) first captured => match first.toList, caps? (captured.toList.map (ent st)) with
    | [], some cs => K (.fn f cs)
    | _, _ => none
  | .call { callee := .builtin .len, args, argTypes } => match args.toList, argTypes.toList with
    | [x], [t] => match lk t cfg.ty, ent st x with
      | some (.slice _), .s (.val (.slice _) l) => K (.s (.val (.int .i64) (l.length : Int)))
      | some .str, .s (.val .str s) => K (.s (.val (.int .i64) (ByteArray.size s : Int)))
      | some (.slice _), .s (.arr s) => match oget s st.objs with
        | some (.arr _ _ l) => K (.s (.val (.int .i64) (l.length : Int)))
        | _ => none
      | _, _ => none
    | _, _ => none
  | .call { callee := .builtin .max, args, argTypes } => match args.toList, lk o.type cfg.ty with
    | [x, y], some (.int k) => match asT (.int k) (ent st x), asT (.int k) (ent st y) with
      | some a, some b => K (.s (.val (.int k) (bif decide ((a : Int) < b) then b else a)))
      | _, _ => none
    | _, _ => none
  | .call { callee := .builtin .min, args, argTypes } => match args.toList, lk o.type cfg.ty with
    | [x, y], some (.int k) => match asT (.int k) (ent st x), asT (.int k) (ent st y) with
      | some a, some b => K (.s (.val (.int k) (bif decide ((b : Int) < a) then b else a)))
      | _, _ => none
    | _, _ => none
  | .slice t x lo hi none => match lk t cfg.ty with
    | some (.slice T) => match asT (.slice T) (ent st x) with
      | none => none
      | some l => match (match lo with | none => some 0 | some y => asInt (ent st y)), (match hi with | none => some (l.length : Int) | some y => asInt (ent st y)) with
        | some i, some j => bif decide (0 ≤ i) && decide (i ≤ j) && decide (j ≤ (l.length : Int)) then
            (match hi with
              | none => K (.s (.val (.slice T) (l.drop i.toNat)))
              | some _ => K (.s (.val (.slice T) ((l.take j.toNat).drop i.toNat))))
          else none
        | _, _ => none
    | _ => none
  | .slice t x lo (some hi) (some mx) => match lk t cfg.ty with
    | some (.slice T) => match asT (.slice T) (ent st x) with
      | none => none
      | some l => match (match lo with | none => some 0 | some y => asInt (ent st y)), asInt (ent st hi), asInt (ent st mx) with
        | some i, some j, some m => bif decide (0 ≤ i) && decide (i ≤ j) && decide (j ≤ m) && decide (m ≤ (l.length : Int)) then K (.s (.val (.slice T) ((l.take j.toNat).drop i.toNat))) else none
        | _, _, _ => none
    | _ => none
  | .call { callee := .value g, args, .. } => match ent st g with
    | .fn f cs => match lk f cfg.ext with
     | some k => match cs, args.toList with
      | [], [x] => extV k (ent st x) K
      | _, _ => none
     | none => match lk f cfg.fns, lk f cfg.res with
      | some F, some R => match args? cfg (sliceFreeR R) st F.params.toList args.toList with
        | some l =>
          let cs' := bif sliceFreeR R then cs.map (bor1 st.objs) else cs
          bif cs'.all free1 then (call.p f (l ++ cs'.map .s) R).bind fun r => K (resE R r) else none
        | none => none
      | _, _ => none
    | _ => none
  | _ => none

/-- A string that is ranged over, and how far. -/
abbrev itT : Ty := .prod .str (.int .i64)
def dfree (d : Nat) (st : St) : Bool := match oget d st.objs with
  | none => Nat.blt d st.env.length
  | some _ => false

/-- Operations that change the slots; what they are given that is owned has been given up ahead (pubFor). -/
def opE (cfg : Cfg) (o : Oper) (st : St) (K : St → Option α) : Option α :=
  match o.op, o.dst with
  | .alloc t, some d => match lk t cfg.ty, dfree d st with
    | some T, true => K { env := eset d (.s (.ref d [])) st.env, objs := (d, .box T (dflt T)) :: st.objs }
    | _, _ => none
  | .box t x, some d => match lk t cfg.ty, dfree d st with
    | some T, true => match asT T (ent st x) with
      | some y => K { env := eset d (.s (.ref d [])) st.env, objs := (d, .box T y) :: st.objs }
      | none => none
    | _, _ => none
  | .buildSlice t n parts, some d => match lk t cfg.ty, lk t cfg.el, dfree d st with
    | some (.slice T), some e, true => match elems? T st 0 parts.toList with
      | some l => bif Nat.beq l.length n && Nat.ble (l.length * T.size) 16777216 && Nat.ble l.length 16777216 then K { env := eset d (.s (.arr d)) st.env, objs := (d, .arr e T l) :: st.objs } else none
      | none => none
    | _, _, _ => none
  | .range t x, some d => match lk t cfg.ty, asT .str (ent st x), dfree d st with
    | some .str, some s, true => K { env := eset d (.s (.own d)) st.env, objs := (d, .obj 0 itT (s, (0 : Int))) :: st.objs }
    | _, _, _ => none
  | .next x true, some d => match ent st x with
    | .s (.own s) => match oget s st.objs with
      | some (.obj 0 T y) => match castT itT T y with
        | some y => bif decide (0 ≤ y.2) && decide (y.2 < (ByteArray.size y.1 : Int)) then
            K { env := eset d (.tup [.val .bool true, .val (.int .i64) y.2, .val (.int .i32) ((Utf8.decode y.1 (Int.toNat y.2)).1 : Int)]) st.env, objs := (s, .obj 0 itT (y.1, (y.2 + ((Utf8.decode y.1 (Int.toNat y.2)).2 : Int)))) :: odel s st.objs }
          else bif decide (0 ≤ y.2) then K (st.set d (.tup [.val .bool false])) else none
        | none => none
      | _ => none
    | _ => none
  | .store t x v, none => match lk t cfg.ty with
    | none => none
    | some T => match asT T (ent st v) with
      | none => none
      | some z => match ent st x with
        | .s (.ref s p) => match oget s st.objs with
          | some (.box T0 y) => match setP T0 y p T z with
            | some y' => K { st with objs := (s, .box T0 y') :: odel s st.objs }
            | none => none
          | _ => none
        | .s (.aref s i p) => match oget s st.objs with
          | some (.arr e T0 l) => match setP T0 (l.getD i (dflt T0)) p T z with
            | some y' => K { st with objs := (s, .arr e T0 (l.set i y')) :: odel s st.objs }
            | none => none
          | _ => none
        | _ => none
  | .slice t x none (some hi) none, some d => match lk t cfg.ty, lk t cfg.el, asInt (ent st hi), ent st x with
    | some (.slice T), some e, some i, .s (.arr s) => match oget s st.objs with
      | some (.arr e' T' l) => bif Nat.beq e e' && decide (T' = T) && decide (0 ≤ i) && decide (i ≤ (l.length : Int)) then
          let st1 := kill s st
          match dfree d st1 with
          | true => K { env := eset d (.s (.arr d)) st1.env, objs := (d, .arr e' T' (l.take i.toNat)) :: st1.objs }
          | false => none
        else none
      | _ => none
    | _, _, _, _ => none
  | .slice t x (some lo) none none, some d => match lk t cfg.ty, lk t cfg.el, asInt (ent st lo), ent st x with
    | some (.slice T), some e, some i, .s (.arr s) => match oget s st.objs with
      | some (.arr e' T' l) => bif Nat.beq e e' && decide (T' = T) && decide (0 ≤ i) && decide (i ≤ (l.length : Int)) then
          K (st.set d (.s (.aview s i.toNat)))
        else none
      | _ => none
    | _, _, _, _ => none
  | .call { callee := .builtin .clear, args, argTypes }, none => match args.toList, argTypes.toList with
    | [x], [t] => match lk t cfg.ty, lk t cfg.el, ent st x with
      | some (.slice T), some e, .s (.aview s i) => match oget s st.objs with
        | some (.arr e' T' l) => bif Nat.beq e e' && decide (T' = T) then
            K { st with objs := (s, .arr e' T' (l.take i ++ List.replicate (l.length - i) (dflt T'))) :: odel s st.objs }
          else none
        | _ => none
      | _, _, _ => none
    | _, _ => none
  | .call { callee := .builtin .append, args, argTypes }, some d => match args.toList, argTypes.toList with
    | [x, y], [t, t'] => match lk t cfg.ty, lk t cfg.el, ent st x with
      | some (.slice T), some e, .s (.arr s) => match oget s st.objs with
        | some (.arr e' T' l) => bif Nat.beq e e' && decide (T' = T) && Nat.beq t t' && Nat.blt 0 T.size then
            match castT (.slice T) (.slice T') l, (match ent st y with
              | .s (.arr s') => match oget s' st.objs with
                | some (.arr _ T1 l1) => castT (.slice T) (.slice T1) l1
                | _ => none
              | e => asT (.slice T) e), lk e cfg.bytes with
            | some l0, some l1, some b =>
              bif decide ((l0.length + l1.length) * b ≤ 140737488355328) then
                let st1 := kill s st
                match dfree d st1 with
                | true => K { env := eset d (.s (.arr d)) st1.env, objs := (d, .arr e T (l0 ++ l1)) :: st1.objs }
                | false => none
              else none
            | _, _, _ => none
          else none
        | _ => none
      | _, _, _ => none
    | _, _ => none
  | _, _ => none

def ren1 (s d : Nat) (e : E0) : E0 := bif onSlot s e then
    match e with
    | .ref _ p => .ref d p
    | .arr _ => .arr d
    | .aref _ i p => .aref d i p
    | .aview _ i => .aview d i
    | .own _ => .own d
    | e => e
  else e

/-- A variable is assigned to: an owned row moves into its slot; a nil slice is a row of its own. -/
def opA (cfg : Cfg) (o : Oper) (st : St) (K : St → Option α) : Option α :=
  match o.op, o.dst with
  | .assign x, some d => match x with
    | .const (.slice none 0 0) => match lk o.type cfg.ty, lk o.type cfg.el with
      | some (.slice T), some e =>
        let st1 := kill d st
        bif Nat.blt d st.env.length then K { env := eset d (.s (.arr d)) st1.env, objs := (d, .arr e T []) :: st1.objs } else none
      | _, _ => none
    | x => match entT cfg o.type st x with
      | .s (.arr s) => bif Nat.beq s d then K (st.set d (.s (.arr d))) else match oget s st.objs with
        | some ob =>
          let st1 := kill d st
          bif Nat.blt d st.env.length then K { env := eset d (.s (.arr d)) (st1.env.map (map1 (ren1 s d))), objs := (d, ob) :: odel s st1.objs } else none
        | none => none
      | e => K (st.set d e)
  | _, _ => none

def isE : Op → Bool
  | .alloc _ | .box _ _ | .buildSlice .. | .store .. | .call { callee := .builtin .append, .. } => true
  | .call { callee := .builtin .clear, .. } => true
  | .range .. | .next .. => true
  | _ => false
/-- A part of a row that is owned. -/
def isT (o : Oper) (st : St) : Bool := match o.op with
  | .slice _ x none (some _) none => match ent st x with
    | .s (.arr _) => true
    | _ => false
  | .slice _ x (some _) none none => match ent st x with
    | .s (.arr _) => true
    | _ => false
  | _ => false
def isA : Op → Bool
  | .assign _ => true
  | _ => false

/-- Operands that are owned and are handed on are given up. -/
def pubList : List Operand → St → St
  | [], st => st
  | x :: r, st => pubList r (pubE (ent st x) st)
/-- Where the results can lead to nothing that is owned, what is handed over is but lent. -/
def pubFor (cfg : Cfg) (o : Oper) (st : St) : St := match o.op with
  | .call { callee := .value g, args, .. } => match ent st g with
    | .fn f _ => match lk f cfg.res with
      | some R => bif sliceFreeR R then st else pubList (g :: args.toList) st
      | none => st
    | _ => st
  | .box _ x => pubList [x] st
  | .store _ _ x => pubList [x] st
  | .build _ parts => pubList (parts.toList.map (·.2)) st
  | .buildSlice _ _ parts => pubList (parts.toList.map (·.2)) st
  | .slice _ x none (some _) none => match ent st x with
    | .s (.arr _) => st
    | _ => st
  | .slice _ x (some _) none none => match ent st x with
    | .s (.arr _) => st
    | _ => st
  | .slice _ x _ _ _ => pubList [x] st
  | _ => st

/-! calls by reference -/
def slotsE : Ent → List Nat
  | .s e => match slotOf e with
    | some s => [s]
    | none => []
  | .fn _ caps => caps.filterMap slotOf
  | .tup _ => []
def addL (L : List Nat) (s : Nat) : List Nat := bif has L s then L else L ++ [s]
def lendL (es : List Ent) : List Nat := (es.flatMap slotsE).foldl addL []
def idx (s : Nat) : List Nat → Option Nat
  | [] => none
  | t :: r => bif Nat.beq t s then some 0 else (idx s r).map (· + 1)
def setSlot (d : Nat) : E0 → E0
  | .ref _ p => .ref d p
  | .arr _ => .arr d
  | .aref _ i p => .aref d i p
  | .aview _ i => .aview d i
  | .own _ => .own d
  | e => e
def ren (nt : Nat) (L : List Nat) (e : E0) : E0 := match slotOf e with
  | some s => match idx s L with
    | some k => setSlot (nt + k) e
    | none => .undef
  | none => e
def lentO (objs : List (Nat × Obj)) : Nat → List Nat → Option (List (Nat × Obj))
  | _, [] => some []
  | k, s :: r => match oget s objs, lentO objs (k + 1) r with
    | some o, some l => some ((k, o) :: l)
    | _, _ => none
def entA (cfg : Cfg) (st : St) : List TypeId → List Operand → List Ent
  | _, [] => []
  | ts, x :: r => entT cfg (ts.headD 0) st x :: entA cfg st ts.tail r
def pubFns : List Operand → St → St
  | [], st => st
  | x :: r, st => pubFns r (match ent st x with
    | .fn f cs => pubE (.fn f cs) st
    | _ => st)
def lkI (f n : Nat) : List (FuncId × Sig) → Option Sig
  | [] => none
  | p :: r => bif Nat.beq p.1 f && Nat.beq p.2.lent.length n then some p.2 else lkI f n r
/-- What was lent comes back. -/
def survK : (ks : List LentK) → denKs ks → List Nat → List (Nat × Obj)
  | .dead :: ks, x, _ :: L => survK ks x.2 L
  | .box T :: ks, x, s :: L => (s, .box T x.1) :: survK ks x.2 L
  | .arr e T :: ks, x, s :: L => (s, .arr e T x.1) :: survK ks x.2 L
  | .obj k T :: ks, x, s :: L => (s, .obj k T x.1) :: survK ks x.2 L
  | _, _, _ => []
def okK (objs : List (Nat × Obj)) : List LentK → List Nat → Bool
  | [], [] => true
  | .dead :: ks, _ :: L => okK objs ks L
  | .box T :: ks, s :: L => match oget s objs with
    | some (.box T' _) => decide (T = T') && okK objs ks L
    | _ => false
  | .arr e T :: ks, s :: L => match oget s objs with
    | some (.arr e' T' _) => Nat.beq e e' && decide (T = T') && okK objs ks L
    | _ => false
  | .obj k T :: ks, s :: L => match oget s objs with
    | some (.obj k' T' _) => Nat.beq k k' && decide (T = T') && okK objs ks L
    | _ => false
  | _, _ => false
def deadK : List LentK → List Nat → List Nat
  | .dead :: ks, s :: L => s :: deadK ks L
  | _ :: ks, _ :: L => deadK ks L
  | _, _ => []
def delL (L : List Nat) : List (Nat × Obj) → List (Nat × Obj)
  | [] => []
  | p :: r => bif has L p.1 then delL L r else p :: delL L r
def die1 (D : List Nat) (e : E0) : E0 := match slotOf e with
  | some s => bif has D s then .undef else e
  | none => e
def nodupL : List Nat → Bool
  | [] => true
  | s :: r => !(has r s) && nodupL r
def give (ks : List LentK) (x : denKs ks) (L : List Nat) (st : St) : Option St :=
  bif okK st.objs ks L && nodupL L then some { env := st.env.map (map1 (die1 (deadK ks L))), objs := survK ks x L ++ delL L st.objs } else none
def opI1 (call : Call0) (F : Func) (f : FuncId) (S : Sig) (L : List Nat) (ents : List Ent) (dst : Option Nat) (st : St) (K : St → Option α) : Option α :=
  match lentO st.objs F.ntmps L with
  | none => none
  | some ob => (call.i f (ents.map (map1 (ren F.ntmps L))) ob S).bind fun x =>
    match give S.lent x.2 L st with
    | none => none
    | some st1 => match S, x, dst with
      | { res := .vals R, .. }, x, dst => K (st1.put dst (resE R x.1))
      | { res := .row e T, .. }, x, some d =>
        let st2 := kill d st1
        bif Nat.blt d st.env.length then K { env := eset d (.s (.arr d)) st2.env, objs := (d, .arr e T x.1) :: st2.objs } else none
      | { res := .rowv e T A, .. }, x, some d =>
        let st2 := kill d st1
        bif Nat.blt d st.env.length then K { env := eset d (.tup [.arr d, .val A x.1.2]) st2.env, objs := (d, .arr e T x.1.1) :: st2.objs } else none
      | { res := .newobj k T, .. }, x, some d =>
        let st2 := kill d st1
        bif Nat.blt d st.env.length then K { env := eset d (.s (.own d)) st2.env, objs := (d, .obj k T x.1) :: st2.objs } else none
      | _, _, none => none
/-- Closures whose variables are not lent make them public. -/
def lendSt (cfg : Cfg) (f : FuncId) (F : Func) (args : List Operand) (cs : List E0) (st : St) : St := match lkI f (lendL (entA cfg st F.params.toList args ++ cs.map .s)).length cfg.inl with
  | some _ => st
  | none => match lkI f (lendL (entA cfg (pubFns args st) F.params.toList args ++ cs.map .s)).length cfg.inl with
    | some _ => pubFns args st
    | none => pubList args st
/-- A call whose callee is given what is owned. -/
def opI (cfg : Cfg) (call : Call0) (o : Oper) (st : St) (K : St → Option α) : Option α := match o.op with
  | .call { callee := .value g, args, .. } => match ent st g with
    | .fn f cs => match lk f cfg.fns with
      | some F =>
        let st1 := lendSt cfg f F args.toList cs st
        match ent st1 g with
        | .fn f1 cs1 =>
          let es := entA cfg st1 F.params.toList args.toList ++ cs1.map .s
          match lkI f (lendL es).length cfg.inl with
          | some S => bif Nat.beq f1 f then opI1 call F f S (lendL es) es o.dst st1 K else none
          | none => none
        | _ => none
      | none => none
    | _ => none
  | _ => none
def isI (cfg : Cfg) (o : Oper) (st : St) : Bool := match o.op with
  | .call { callee := .value g, .. } => match ent st g with
    | .fn f _ => cfg.inl.any fun p => Nat.beq p.1 f
    | _ => false
  | _ => false

def opC (cfg : Cfg) (call : Call0) (o : Oper) (st : St) (K : St → Option α) : Option α :=
  bif isA o.op then opA cfg o st K
  else bif isI cfg o st then opI cfg call o st K
  else bif isE o.op || isT o st then opE cfg o (pubFor cfg o st) K
  else opP cfg call o (pubFor cfg o st) fun e => K ((pubFor cfg o st).put o.dst e)

/-- An operation's guard. -/
def guardC (ops : Array Oper) (o : Oper) (st : St) (yes no : St → Option α) : Option α := match o.guard with
  | none => yes st
  | some (j, want) => match (ops[j]?).bind (·.dst) with
    | none => no st
    | some g => match eget g st.env with
      | .s (.val .bool b) => bif b then (bif want then yes (st.set g (.s (.val .bool true))) else no (st.set g (.s (.val .bool true))))
          else (bif want then no (st.set g (.s (.val .bool false))) else yes (st.set g (.s (.val .bool false))))
      | .s (.cst (.tuple _)) => no st
      | _ => none

def skipE : Ent := .s (.cst (.tuple #[]))

def execOps (cfg : Cfg) (call : Call0) (ops : Array Oper) (K : St → Option α) : List Oper → St → Option α
  | [], st => K st
  | o :: r, st => guardC ops o st (fun st => opC cfg call o st (execOps cfg call ops K r)) (fun st => execOps cfg call ops K r (st.put o.dst skipE))

/-- The same for a region whose order is drawn: each operation but yields a value. -/
def execOpsD (cfg : Cfg) (call : Call0) (ops : Array Oper) (K : St → Option α) : List Oper → St → Option α
  | [], st => K st
  | o :: r, st => guardC ops o st
      (fun st => bif isE o.op then none else bif isA o.op then
          (match o.op with
            | .assign x => match entT cfg o.type st x with
              | .s (.val T y) => execOpsD cfg call ops K r (st.put o.dst (.s (.val T y)))
              | _ => none
            | _ => none)
        else opP cfg call o st fun e => execOpsD cfg call ops K r (st.put o.dst e))
      (fun st => execOpsD cfg call ops K r (st.put o.dst skipE))

def looks (ops : Array Oper) (o : Oper) : List Nat := o.looksAt ops
def inL (t : Nat) (l : List Nat) : Bool := l.any fun m => Nat.beq m t
def edge (o : Oper) (i : Nat) : Bool := o.after.toList.any fun e => Nat.beq e.on i && Region.binds .any e
def drawPair (ops : Array Oper) (i j : Nat) (a b : Oper) : Bool :=
  match a.dst, b.dst with
  | some t, some u => !(Nat.beq t u) && !(inL u (looks ops a)) && (!(inL t (looks ops b)) || edge b i) && Nat.ble j j
  | _, _ => false
def drawRow (ops : Array Oper) (i : Nat) (a : Oper) : Nat → List Oper → Bool
  | _, [] => true
  | j, b :: r => drawPair ops i j a b && drawRow ops i a (j + 1) r
def drawAll (ops : Array Oper) : Nat → List Oper → Bool
  | _, [] => true
  | i, a :: r => (match a.dst with | some t => !(inL t (looks ops a)) | none => false) && a.after.toList.all (fun e => Nat.blt e.on i || !Region.binds .any e) &&
      drawRow ops i a (i + 1) r && drawAll ops (i + 1) r
def drawOk (ops : Array Oper) : Bool := Region.noSelect ops && drawAll ops 0 ops.toList

/-! a drawn region: ahead operations in any order, which yield values or fill slots of their own; behind, each behind all ahead of it -/
def notTup : Ent → Bool
  | .tup _ => false
  | _ => true
def stepI (cfg : Cfg) (call : Call0) (o : Oper) (d : Nat) (st : St) (K : Ent → Option Obj → Option α) : Option α := match o.op with
  | .call { callee := .value g, args, .. } => match ent st g with
    | .fn f cs => match lk f cfg.fns with
      | some F => match lendL (entA cfg st F.params.toList args.toList ++ cs.map .s), lkI f 0 cfg.inl with
        | [], some ⟨.row e T, []⟩ => bif (entA cfg st F.params.toList args.toList).all notTup then (call.i f (entA cfg st F.params.toList args.toList ++ cs.map .s) [] ⟨.row e T, []⟩).bind fun x => K (.s (.arr d)) (some (.arr e T x.1)) else none
        | _, _ => none
      | none => none
    | _ => none
  | _ => none
def stepX (cfg : Cfg) (call : Call0) (o : Oper) (st : St) (K : Ent → Option Obj → Option α) : Option α := match o.dst with
  | none => none
  | some d => match o.op with
    | .alloc t => match lk t cfg.ty with
      | some T => K (.s (.ref d [])) (some (.box T (dflt T)))
      | none => none
    | .box t x => match lk t cfg.ty with
      | some T => match asT T (ent st x) with
        | some y => K (.s (.ref d [])) (some (.box T y))
        | none => none
      | none => none
    | .buildSlice t n parts => match lk t cfg.ty, lk t cfg.el with
      | some (.slice T), some e => match elems? T st 0 parts.toList with
        | some l => bif Nat.beq l.length n && Nat.ble (l.length * T.size) 16777216 && Nat.ble l.length 16777216 then K (.s (.arr d)) (some (.arr e T l)) else none
        | none => none
      | _, _ => none
    | .assign x => match entT cfg o.type st x with
      | .s (.val T y) => K (.s (.val T y)) none
      | _ => none
    | _ => bif isI cfg o st then stepI cfg call o d st K else bif isE o.op then none else opP cfg call o st fun e => K e none
def freshOk (d : Nat) (st : St) (fr : List (Nat × Obj)) : Bool := dfree d st && !(fr.any fun p => Nat.beq p.1 d)
def execOpsX (cfg : Cfg) (call : Call0) (ops : Array Oper) (K : St → Option α) : Nat → List Oper → St → List (Nat × Obj) → Option α
  | 0, l, st, fr => execOps cfg call ops K l { env := st.env, objs := fr ++ st.objs }
  | _ + 1, [], _, _ => none
  | m + 1, o :: r, st, fr => bif fr.all (fun p => !(inL p.1 (looks ops o))) then
      guardC ops o st (fun st => stepX cfg call o st fun e ob => match ob, o.dst with
          | none, _ => execOpsX cfg call ops K m r (st.put o.dst e) fr
          | some b, some d => bif freshOk d st fr then execOpsX cfg call ops K m r (st.set d e) ((d, b) :: fr) else none
          | some _, none => none)
        (fun st => execOpsX cfg call ops K m r (st.put o.dst skipE) fr)
    else none
def bindE (o : Oper) : List Nat := (o.after.toList.filter fun e => Region.binds .any e).map (·.on)
/-- What must lie ahead of each operation. -/
def ancs : List Oper → List (List Nat) → List (List Nat)
  | [], acc => acc
  | o :: r, acc => ancs r (acc ++ [bindE o ++ (bindE o).flatMap fun i => acc.getD i []])
def upto : Nat → List Nat
  | 0 => []
  | n + 1 => upto n ++ [n]
def behind (acc : List (List Nat)) : Nat → List Oper → Bool
  | _, [] => true
  | i, _ :: r => (upto i).all (fun j => inL j (acc.getD i [])) && behind acc (i + 1) r
def drawOkX (ops : Array Oper) (m : Nat) : Bool := Region.noSelect ops && drawAll ops 0 (ops.toList.take m) && ops.toList.zipIdx.all (fun p => (bindE p.1).all fun j => Nat.blt j p.2) && behind (ancs ops.toList []) m (ops.toList.drop m) && Nat.ble m ops.size
def prekillX : List Oper → St → St
  | [], st => st
  | o :: r, st => prekillX r (match o.dst with
    | some d => (match oget d st.objs with
      | some _ => kill d st
      | none => st)
    | none => st)

/-- Slots that a region will fill anew. -/
def fresh? : Op → Bool
  | .alloc _ | .box _ _ | .buildSlice .. | .call { callee := .builtin .append, .. } => true
  | .slice _ _ none (some _) none => true
  | .range .. => true
  | _ => false
def prekill : List Oper → St → St
  | [], st => st
  | o :: r, st => prekill r (bif fresh? o.op then (match o.dst with
      | some d => (match oget d st.objs with | some _ => kill d st | none => st)
      | none => st) else st)

/-! ### code -/
inductive Ex where
  | normal
  | exit (id : Nat)
  | ret

def kSeq (f : St → Option α) (K : Ex → St → Option α) : Ex → St → Option α
  | .normal, st => f st
  | e, st => K e st
def kSq (f : (Ex → St → Option α) → St → Option α) (K : Ex → St → Option α) : Ex → St → Option α := kSeq (f K) K
def kBlock (id : Nat) (K : Ex → St → Option α) : Ex → St → Option α
  | .exit i, st => bif Nat.beq i id then K .normal st else K (.exit i) st
  | e, st => K e st
def kLoop (rec : St → Option α) (keep : List Nat) (K : Ex → St → Option α) : Ex → St → Option α
  | .normal, st => rec (fgt keep st)
  | e, st => K e st

def loopN (F : (St → Option α) → St → Option α) : Nat → St → Option α
  | 0, _ => none
  | n + 1, st => F (loopN F n) st

def first : Code → Nat
  | .region id _ _ => id
  | .seq a _ => first a
  | .block _ c => first c
  | .loop c => first c
  | .scope c => first c
  | _ => 0

def exec (cfg : Cfg) (call : Call0) (n : Nat) (fid : FuncId) : Code → (Ex → St → Option α) → St → Option α
  | .skip, K, st => K .normal st
  | .label _, K, st => K .normal st
  | .region id ops draw, K, st => bif draw then (match lk2 fid id cfg.cut with
        | [] => bif drawOk ops then execOpsD cfg call ops (K .normal) ops.toList st else none
        | m :: _ => bif drawOkX ops m then execOpsX cfg call ops (K .normal) m ops.toList (prekillX (ops.toList.take m) st) [] else none)
      else execOps cfg call ops (K .normal) ops.toList (prekill ops.toList st)
  | .seq a b, K, st => exec cfg call n fid a (kSeq (exec cfg call n fid b K) K) st
  | .cond c x y, K, st => match asT .bool (ent st c) with
    | some b => bif b then exec cfg call n fid x K st else exec cfg call n fid y K st
    | none => none
  | .block id c, K, st => exec cfg call n fid c (kBlock id K) st
  | .loop c, K, st => loopN (fun rec => exec cfg call n fid c (kLoop rec (lk2 fid (first c) cfg.keep) K)) n (fgt (lk2 fid (first c) cfg.keep) st)
  | .scope c, K, st => exec cfg call n fid c K st
  | .exit id, K, st => K (.exit id) st
  | .ret, K, st => K .ret st
  | _, _, _ => none

/-- A part of a code. -/
def cat : Code → List Nat → Code
  | c, [] => c
  | .seq a _, 0 :: p => cat a p
  | .seq _ b, _ :: p => cat b p
  | .cond _ a _, 0 :: p => cat a p
  | .cond _ _ b, _ :: p => cat b p
  | .block _ c, _ :: p => cat c p
  | .loop c, _ :: p => cat c p
  | .scope c, _ :: p => cat c p
  | _, _ => .skip

def pubRes : List ResultVar → St → St
  | [], st => st
  | .tmp t :: r, st => pubRes r (pubE (eget t st.env) st)
  | _ :: r, st => pubRes r st
def resVal (cfg : Cfg) (T : Ty) (st : St) (rv : ResultVar) : Option (den T) := match rv with
  | .tmp t => asT T (eget t st.env)
  | .cell a t => match lk t cfg.ty, eget a st.env with
    | some T1, .s (.ref s []) => match oget s st.objs with
      | some (.box T' x) => bif decide (T' = T1) then castT T T' x else none
      | _ => none
    | _, _ => none
def retV (cfg : Cfg) (R : RTy) (rs : List ResultVar) (st : St) : Option (denR R) := match R, rs with
  | .none, [] => some ()
  | .one T, [a] => resVal cfg T st a
  | .two A B, [a, b] => match resVal cfg A st a, resVal cfg B st b with
    | some x, some y => some (x, y)
    | _, _ => none
  | .three A B C, [a, b, c] => match resVal cfg A st a, resVal cfg B st b, resVal cfg C st c with
    | some x, some y, some z => some (x, y, z)
    | _, _, _ => none
  | _, _ => none
def kret (cfg : Cfg) (F : Func) (R : RTy) : Ex → St → Option (denR R)
  | .exit _, _ => none
  | _, st => retV cfg R F.results.toList (pubRes F.results.toList st)

def undefs : Nat → List Ent
  | 0 => []
  | n + 1 => skipE :: undefs n
def st0 (F : Func) (args : List Ent) : St := { env := args ++ undefs (F.ntmps - args.length), objs := [] }

abbrev Intr := List (FuncId × (Nat → List Ent → (R : RTy) → Option (denR R)))
abbrev IntrI := List (FuncId × (Nat → List Ent → List (Nat × Obj) → (S : Sig) → Option (denS S)))

def lents (nt : Nat) (objs : List (Nat × Obj)) : (ks : List LentK) → Option (denKs ks)
  | [] => some ()
  | .dead :: ks => (lents (nt + 1) objs ks).map fun r => ((), r)
  | .box T :: ks => match oget nt objs with
    | some (.box T' x) => match castT T T' x, lents (nt + 1) objs ks with
      | some y, some r => some (y, r)
      | _, _ => none
    | _ => none
  | .arr e T :: ks => match oget nt objs with
    | some (.arr e' T' l) => match castT (.slice T) (.slice T') l, lents (nt + 1) objs ks with
      | some y, some r => bif Nat.beq e e' then some (y, r) else none
      | _, _ => none
    | _ => none
  | .obj k T :: ks => match oget nt objs with
    | some (.obj k' T' x) => match castT T T' x, lents (nt + 1) objs ks with
      | some y, some r => bif Nat.beq k k' then some (y, r) else none
      | _, _ => none
    | _ => none
def retS (cfg : Cfg) (F : Func) (S : Sig) (st : St) : Option (denS S) := match S with
  | { res := .vals R, lent } =>
    let st1 := pubRes F.results.toList st
    match retV cfg R F.results.toList st1, lents F.ntmps st1.objs lent with
    | some x, some y => some (x, y)
    | _, _ => none
  | { res := .rowv e T A, lent } => match F.results.toList with
    | [.tmp t, rv] => match eget t st.env with
      | .s (.arr s) => match oget s st.objs with
        | some (.arr e' T' l) => match castT (.slice T) (.slice T') l, lents F.ntmps (odel s st.objs) lent, resVal cfg A st rv with
          | some x, some y, some z => bif Nat.beq e e' then some ((x, z), y) else none
          | _, _, _ => none
        | _ => none
      | _ => none
    | _ => none
  | { res := .newobj _ _, .. } => none
  | { res := .row e T, lent } => match F.results.toList with
    | [.tmp t] => match eget t st.env with
      | .s (.arr s) => match oget s st.objs with
        | some (.arr e' T' l) => match castT (.slice T) (.slice T') l, lents F.ntmps (odel s st.objs) lent with
          | some x, some y => bif Nat.beq e e' then some (x, y) else none
          | _, _ => none
        | _ => none
      | _ => none
    | _ => none
def kretS (cfg : Cfg) (F : Func) (S : Sig) : Ex → St → Option (denS S)
  | .exit _, _ => none
  | _, st => retS cfg F S st
def stI (F : Func) (args : List Ent) (objs : List (Nat × Obj)) : St := { env := args ++ undefs (F.ntmps - args.length), objs := objs }

def acalls (cfg : Cfg) (intr : Intr) (intrI : IntrI) : Nat → Call0
  | 0 => ⟨fun _ _ _ => none, fun _ _ _ _ => none⟩
  | n + 1 =>
    { p := fun f args R => match lk f intr with
        | some g => g n args R
        | none => match lk f cfg.fns with
          | some F => match F.body with
            | some B => exec cfg (acalls cfg intr intrI n) n f B (kret cfg F R) (st0 F args)
            | none => none
          | none => none
      i := fun f args objs S => match lk f intrI with
        | some g => g n args objs S
        | none => match lk f cfg.fns with
          | some F => match F.body with
            | some B => bif Nat.ble args.length F.ntmps then exec cfg (acalls cfg intr intrI n) n f B (kretS cfg F S) (stI F args objs) else none
            | none => none
          | none => none }
end Go.Proofs.YtlcphnmkkilefaaDoor.Ab
