/- An engine for walks. Part 2: what an operation asks and gives, and that this is what the model does. -/
import Derived.Test.YtkofhjopeppnoaaAnn1
namespace Go.Ann
set_option linter.unusedVariables false
set_option linter.unusedSimpArgs false
open Go

def un1 (f : Value → PV) : Option Value → PV
  | some x => f x
  | none => none
def bin2 (f : Value → Value → PV) : Option Value → Option Value → PV
  | some x, some y => f x y
  | _, _ => none

def pvW (pv : PV) (w : World) (K : Value → World → Prop) : Prop :=
  match pv with
  | some (ob, v) => ob ∧ K v w
  | none => False

def mvW (o : Option Value) (w : World) (K : Value → World → Prop) : Prop :=
  match o with
  | some v => K v w
  | none => False

def pickV : Option Value → Option Value → Option Value → Option Value
  | some (.bool true), a, _ => a
  | some (.bool false), _, b => b
  | _, _, _ => none

/-- Integers. -/
def intV (op : BinOp) (k : IntKind) (a b : Int) : PV :=
  match op with
  | .add => if k = .i64 then some (I64 (a + b), .int k (a + b)) else some (True, .int k (k.wrap (a + b)))
  | .sub => if k = .i64 then some (I64 (a - b), .int k (a - b)) else some (True, .int k (k.wrap (a - b)))
  | .mul => if k = .i64 then some (I64 (a * b), .int k (a * b)) else some (True, .int k (k.wrap (a * b)))
  | .quo => if k = .i64 then some (b ≠ 0 ∧ b ≠ -1 ∧ I64 a, .int k (a.tdiv b)) else some (b ≠ 0, .int k (k.wrap (a.tdiv b)))
  | .rem => some (b ≠ 0, .int k (a.tmod b))
  | .and => some (True, .int k (bits .and k a b))
  | .or => some (True, .int k (bits .or k a b))
  | .xor => some (True, .int k (bits .xor k a b))
  | .andNot => some (True, .int k (bits .andNot k a b))
  | .eql => some (True, .bool (decide (a = b)))
  | .neq => some (True, .bool (decide (a ≠ b)))
  | .lss => some (True, .bool (decide (a < b)))
  | .leq => some (True, .bool (decide (a ≤ b)))
  | .gtr => some (True, .bool (decide (b < a)))
  | .geq => some (True, .bool (decide (b ≤ a)))
  | _ => none

def strV (op : BinOp) (a b : List UInt8) : PV :=
  match op with
  | .add => some ((a.length : Int) + b.length ≤ 9223372036854775807, .string (ofL (a ++ b)))
  | .eql => some (True, .bool (decide (a = b)))
  | .neq => some (True, .bool (decide (a ≠ b)))
  | .lss => some (True, .bool (Op.bytesLess a b))
  | .leq => some (True, .bool (Op.bytesLess a b || decide (a = b)))
  | .gtr => some (True, .bool (!(Op.bytesLess a b || decide (a = b))))
  | .geq => some (True, .bool (!(Op.bytesLess a b)))
  | _ => none

def isTy (P : Program) (t : TypeId) (p : TypeDesc → Bool) : Bool := match P.underlying t with | some d => p d | none => false
def isBoolT (P : Program) (t : TypeId) : Bool := isTy P t fun | .bool => true | _ => false
def isStrT (P : Program) (t : TypeId) : Bool := isTy P t fun | .string => true | _ => false
def isPtrT (P : Program) (t : TypeId) : Bool := isTy P t fun | .pointer _ => true | _ => false
def isSliceT (P : Program) (t : TypeId) : Bool := isTy P t fun | .slice _ => true | _ => false
def isMapT (P : Program) (t : TypeId) : Bool := isTy P t fun | .map _ _ => true | _ => false
def isFuncT (P : Program) (t : TypeId) : Bool := isTy P t fun | .func _ _ _ => true | _ => false
def isIfaceT (P : Program) (t : TypeId) : Bool := isTy P t fun | .interface _ => true | _ => false
def isAggT (P : Program) (t : TypeId) : Bool := isTy P t fun | .struct _ => true | .array _ _ => true | _ => false
def elemT (P : Program) (t : TypeId) : Option TypeId := match P.underlying t with | some (.slice e) => some e | _ => none

/-- '==' between values that are no integers and no texts. -/
def eqV (P : Program) (t : TypeId) (x y : Value) : PV :=
  match x, y with
  | .bool a, .bool b => if isBoolT P t then some (True, .bool (a == b)) else none
  | .pointer p, .pointer none => if isPtrT P t then some (True, .bool p.isNone) else none
  | .pointer none, .pointer (some _) => if isPtrT P t then some (True, .bool false) else none
  | .slice a _ _, .slice none 0 0 => if isSliceT P t then some (True, .bool a.isNone) else none
  | .map r, .map none => if isMapT P t then some (True, .bool r.isNone) else none
  | .func _ _ _, .nilFunc => if isFuncT P t then some (True, .bool false) else none
  | .nilFunc, .nilFunc => if isFuncT P t then some (True, .bool true) else none
  | .iface _ _, .nilIface => if isIfaceT P t then some (True, .bool false) else none
  | _, _ => none

def notV : PV → PV
  | some (ob, .bool b) => some (ob, .bool (!b))
  | _ => none

/-- What a struct's field is, where structs are compared. -/
inductive FK where
  | int | bool | str
def kindF (P : Program) (t : TypeId) : Option FK :=
  match P.underlying t with
  | some (.int _) => some .int
  | some .bool => some .bool
  | some .string => some .str
  | _ => none
def flatF (P : Program) : Nat → List Field → Option (List FK)
  | _, [] => some []
  | i, f :: r => if f.offset = i ∧ f.name ≠ "_" then (match kindF P f.type, flatF P (i + 1) r with
    | some k, some ks => some (k :: ks)
    | _, _ => none) else none
/-- A struct of plain fields, one cell each. -/
def flatT (P : Program) (t : TypeId) : Option (List FK) :=
  if P.stoodInHeld t = false ∧ P.eqGuardType P.depth t = false then (match P.underlying t with
    | some (.struct fs) => flatF P 0 fs.toList
    | _ => none) else none
def vEq : FK → Value → Value → Option Bool
  | .int, .int k a, .int k' b => if k = k' then some (decide (a = b)) else none
  | .bool, .bool a, .bool b => some (a == b)
  | .str, .string a, .string b => some (decide (toL a = toL b))
  | _, _, _ => none
def andO : Option Bool → Option Bool → Option Bool
  | some a, some b => some (a && b)
  | _, _ => none
/-- Whether two structs' cells are the same. -/
def aggEq : List FK → List Value → List Value → Option Bool
  | [], _, _ => some true
  | k :: ks, x :: r, y :: q => andO (vEq k x y) (aggEq ks r q)
  | _, _, _ => none
def agPV (o : Option Bool) (f : Bool → Bool) : PV := match o with | some b => some (True, .bool (f b)) | none => none
def agV (P : Program) (op : BinOp) (o : Option (List FK)) (xs ys : List Value) : PV :=
  match o, op with
  | some ks, .eql => agPV (aggEq ks xs ys) id
  | some ks, .neq => agPV (aggEq ks xs ys) not
  | _, _ => none

def binV (P : Program) (op : BinOp) (t : TypeId) (x y : Value) : PV :=
  match x, y with
  | .int k a, .int k' b =>
    match op with
    | .shl => some (0 ≤ b, .int k (k.wrap (a * 2 ^ min b.toNat k.bits)))
    | .shr => some (0 ≤ b, .int k (a / 2 ^ min b.toNat k.bits))
    | _ => if k = k' then intV op k a b else none
  | .string a, .string b => strV op (toL a) (toL b)
  | .agg xs, .agg ys => agV P op (flatT P t) xs.toList ys.toList
  | x, y => match op with
    | .eql => eqV P t x y
    | .neq => notV (eqV P t x y)
    | _ => none

def unV (op : UnOp) (x : Value) : PV :=
  match op, x with
  | .neg, .int k n => if k = .i64 then some (I64 (0 - n), .int k (0 - n)) else some (True, .int k (k.wrap (0 - n)))
  | .xor, .int k n => some (True, .int k (bits .xor k (if k.signed then -1 else k.max) n))
  | .not, .bool b => some (True, .bool (!b))
  | _, _ => none

/-- Where a field lies: its place, how many cells it has, and whether it is a struct or an array. -/
def fldI (P : Program) (t : TypeId) (f : Nat) : Option (Nat × Nat × Bool) :=
  match P.underlying t with
  | some (.struct fields) => match fields[f]? with
    | some fd => match P.info? fd.type, P.underlying fd.type with
      | some i, some _ => some (fd.offset, i.size, isAggT P fd.type)
      | _, _ => none
    | none => none
  | _ => none

def partV (off size : Nat) (agg : Bool) (cs : Array Value) : Option Value :=
  if agg then some (.agg (cs.extract off (off + size))) else cs[off]?

def toPV : Option Value → PV
  | some v => some (True, v)
  | none => none

def fieldV (P : Program) (t : TypeId) (f : Nat) (x : Value) : PV :=
  match x, fldI P t f with
  | .agg cs, some (off, size, agg) => toPV (partV off size agg cs)
  | _, _ => none

def fieldAddrV (P : Program) (t : TypeId) (f : Nat) (x : Value) : PV :=
  match x, fldI P t f with
  | .pointer (some a), some (off, _ + 1, _) => some (True, .pointer (some (a.add off)))
  | _, _ => none

/-- Of an array's type: how many elements, how many cells each, whether each is a struct or an array. -/
def arrI (P : Program) (t : TypeId) : Option (Nat × Nat × Bool) :=
  match P.underlying t with
  | some (.array n e) => match P.info? e, P.underlying e with
    | some i, some _ => some (n, i.size, isAggT P e)
    | _, _ => none
  | _ => none
/-- Of a slice's type: how many cells an element has. -/
def sliI (P : Program) (t : TypeId) : Option Nat :=
  match P.underlying t with
  | some (.slice e) => match P.info? e with
    | some i => some i.size
    | none => none
  | _ => none

def indexV (P : Program) (t : TypeId) (x i : Value) : PV :=
  match x, i with
  | .string s, .int _ j => if isStrT P t then some (0 ≤ j ∧ j < ((toL s).length : Int), .int .u8 (bN (toL s) j)) else none
  | .agg cs, .int _ (.ofNat j) => match arrI P t with
    | some (n, size, agg) => if j < n then toPV (partV (j * size) size agg cs) else none
    | none => none
  | _, _ => none

def indexAddrV (P : Program) (t : TypeId) (x i : Value) : PV :=
  match x, i with
  | .slice (some a) n _, .int _ j => match sliI P t with
    | some size => some (0 ≤ j ∧ j < (n : Int), .pointer (some (a.add (j.toNat * size))))
    | none => none
  | .pointer (some a), .int _ j => match arrI P t with
    | some (n, size, _) => some (0 ≤ j ∧ j < (n : Int), .pointer (some (a.add (j.toNat * size))))
    | none => none
  | _, _ => none

/-- Where a part of a slice begins. -/
def offA (a : Option Addr) (cap lo size : Nat) : Option Addr := if cap = lo then a else a.map (·.add (lo * size))

/-- An operand that may be none. -/
def evo (ρ : Env) : Option Operand → Option (Option Value)
  | none => some none
  | some x => match ev ρ x with
    | some v => some (some v)
    | none => none

def sliceStrV (l : List UInt8) (lo hi : Option Value) : PV :=
  match lo, hi with
  | none, none => some (True, .string (ofL l))
  | some (.int _ i), none => some (0 ≤ i ∧ i ≤ (l.length : Int), .string (ofL (l.drop i.toNat)))
  | none, some (.int _ j) => some (0 ≤ j ∧ j ≤ (l.length : Int), .string (ofL (l.take j.toNat)))
  | some (.int _ i), some (.int _ j) => some (0 ≤ i ∧ i ≤ j ∧ j ≤ (l.length : Int), .string (ofL (cutL l i j)))
  | _, _ => none

def sliceSlV (size : Nat) (a : Option Addr) (n c : Nat) (lo hi : Option Value) : PV :=
  match lo, hi with
  | none, none => some (True, .slice (offA a c 0 size) n c)
  | some (.int _ i), none => some (0 ≤ i ∧ i ≤ (n : Int), .slice (offA a c i.toNat size) (n - i.toNat) (c - i.toNat))
  | none, some (.int _ j) => some (0 ≤ j ∧ j ≤ (c : Int), .slice (offA a c 0 size) j.toNat c)
  | some (.int _ i), some (.int _ j) => some (0 ≤ i ∧ i ≤ j ∧ j ≤ (c : Int), .slice (offA a c i.toNat size) (j.toNat - i.toNat) (c - i.toNat))
  | _, _ => none

def sliceV (P : Program) (t : TypeId) (x : Option Value) (lo hi : Option (Option Value)) : PV :=
  match x, lo, hi with
  | some (.string s), some lo, some hi => if isStrT P t then sliceStrV (toL s) lo hi else none
  | some (.slice a n c), some lo, some hi => match sliI P t with
    | some size => sliceSlV size a n c lo hi
    | none => none
  | _, _, _ => none

def extractV (k : Nat) (x : Value) : PV :=
  match x with
  | .tuple vs => toPV vs[k]?
  | _ => none

def ifaceV (P : Program) (t : TypeId) (x : Value) : PV := if P.concrete t then some (True, .iface t x) else none

def nilCheckV (x : Value) : PV :=
  match x with
  | .pointer (some a) => some (True, .pointer (some a))
  | .func (.func f) a b => some (True, .func (.func f) a b)
  | _ => none

/-- The built-ins that only compute. -/
def biV (P : Program) (b : Builtin) (ats : List TypeId) (xs : List Value) : PV :=
  match b, xs with
  | .len, [.string s] => match ats with
    | [t] => if isStrT P t then some (True, .int .i64 ((toL s).length : Int)) else none
    | _ => none
  | .len, [.slice _ n _] => match ats with
    | [t] => if isSliceT P t then some (True, .int .i64 (n : Int)) else none
    | _ => none
  | .min, [.int k x, .int _ y] => some (True, .int k (min x y))
  | .max, [.int k x, .int _ y] => some (True, .int k (max x y))
  | .min, [.int k x, .int _ y, .int _ z] => some (True, .int k (min (min x y) z))
  | .max, [.int k x, .int _ y, .int _ z] => some (True, .int k (max (max x y) z))
  | _, _ => none

end Go.Ann
