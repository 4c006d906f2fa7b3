/- An engine for walks: a function of plain code and a list of known slots that gives what is to be shown, and the proof that it suffices. Part 1: the words. -/
import Derived.WalkKit
import Derived.WalkSpells
import Derived.WalkLawsBesides
import Derived.RangeFuncNested
import Derived.RangeFuncKeeps
import Derived.RangeFuncLeaves
import Derived.OrdersIn
import Derived.TacticsIn
namespace Go.Ann
set_option linter.unusedVariables false
set_option linter.unusedSimpArgs false
open Go

/-- The slots that are known. -/
abbrev Env := List (Nat × Value)

def lk : Env → Nat → Option Value
  | [], _ => none
  | (m, v) :: ρ, n => bif m == n then some v else lk ρ n
theorem lk_if {m n : Nat} {v : Value} {ρ : Env} : lk ((m, v) :: ρ) n = if m = n then some v else lk ρ n := by
  simp only [lk]
  by_cases h : m = n
  · simp [h]
  · have : (m == n) = false := by simpa using h
    simp [h, this]
theorem lk_emp {n : Nat} : lk [] n = none := rfl

def ev (ρ : Env) : Operand → Option Value
  | .tmp n => lk ρ n
  | .const v => some v
  | .global g => some (.pointer (some ⟨g, 0, none⟩))
  | .func f => some (.func (.func f) #[] #[])

def evs (ρ : Env) : List Operand → Option (List Value)
  | [] => some []
  | x :: r => match ev ρ x, evs ρ r with
    | some v, some vs => some (v :: vs)
    | _, _ => none

def put (ρ : Env) : Option Nat → Value → Env
  | none, _ => ρ
  | some d, v => (d, v) :: ρ

def addK (n : Nat) : Option Value → Env → Env
  | some v, r => (n, v) :: r
  | none, r => r

/-- The marks that ranges over functions have left: they stand behind 1000000, where no function has slots. -/
def mkE : Env → Env
  | [] => []
  | (m, v) :: ρ => if m < 1000000 then mkE ρ else (m, v) :: mkE ρ
/-- What is known of the slots of a list, and the marks. -/
def restr : List Nat → Env → Env
  | [], ρ => mkE ρ
  | n :: l, ρ => if n < 1000000 then addK n (lk ρ n) (restr l ρ) else restr l ρ

def argEnv : Nat → List Value → Env
  | _, [] => []
  | n, v :: r => (n, v) :: argEnv (n + 1) r

/-- An operation, its guard by the slot that holds the bit. -/
structure Ins where
  dst : Option Nat
  op : Op
  ty : TypeId
  g : Option (Nat × Bool)

inductive Cmd where
  | skip (keep : List Nat)
  | ops (l : List Ins) (keep : List Nat)
  | draw (l : List Oper) (keep : List Nat)
  | seq (a b : Cmd)
  | cond (x : Operand) (a b : Cmd)
  | block (id : Nat) (a : Cmd)
  | loop (a : Cmd)
  | exit (id : Nat) (keep : List Nat)
  | scope (a : Cmd)
  | rangeF (g : Operand) (ps : List Nat) (a b : Cmd) (keep : List Nat)
  | ret

def stripG (ops : List Oper) : Option (Nat × Bool) → Option (Option (Nat × Bool))
  | none => some none
  | some (j, b) => match (ops[j]?).bind (·.dst) with
    | some s => some (some (s, b))
    | none => none

def okDst (N : Nat) : Option Nat → Bool
  | none => true
  | some d => d < N

def strip1 (N : Nat) (ops : List Oper) (o : Oper) : Option Ins :=
  if okDst N o.dst then match stripG ops o.guard with
    | some g => some ⟨o.dst, o.op, o.type, g⟩
    | none => none
  else none

def stripL (N : Nat) (ops : List Oper) : List Oper → Option (List Ins)
  | [] => some []
  | o :: r => match strip1 N ops o, stripL N ops r with
    | some i, some l => some (i :: l)
    | _, _ => none

/-- The statements that leave their order open, in the text's order. -/
def drawsOf : Code → List (List Oper)
  | .region _ ops true => [ops.toList]
  | .seq a b => drawsOf a ++ drawsOf b
  | .cond _ a b => drawsOf a ++ drawsOf b
  | .block _ a => drawsOf a
  | .loop a => drawsOf a
  | .scope a => drawsOf a
  | .rangeFunc _ _ a b => drawsOf a ++ drawsOf b
  | _ => []
def drawOps (k : Nat) (c : Code) : List Oper := (drawsOf c).getD k []

def noDefer : Op → Bool
  | .defer _ => false
  | _ => true
/-- May it stand within a round of a range over a function? -/
def roundOk : Code → Bool
  | .seq a b => roundOk a && roundOk b
  | .cond _ a b => roundOk a && roundOk b
  | .block _ a => roundOk a
  | .loop a => roundOk a
  | .scope _ => false
  | .rangeFunc .. => false
  | _ => true
/-- The code as commands; what may be forgotten is not said. -/
def toCmd (N : Nat) : Code → Option Cmd
  | .skip => some (.skip [])
  | .region _ ops false => match stripL N ops.toList ops.toList with
    | some l => some (.ops l [])
    | none => none
  | .region _ ops true => if ops.toList.all (fun o => okDst N o.dst) && ops.toList.all (fun o => noDefer o.op) then some (.draw ops.toList []) else none
  | .seq a b => match toCmd N a, toCmd N b with
    | some a, some b => some (.seq a b)
    | _, _ => none
  | .cond x a b => match toCmd N a, toCmd N b with
    | some a, some b => some (.cond x a b)
    | _, _ => none
  | .block id a => match toCmd N a with
    | some a => some (.block id a)
    | none => none
  | .loop a => match toCmd N a with
    | some a => some (.loop a)
    | none => none
  | .scope a => match toCmd N a with
    | some a => some (.scope a)
    | none => none
  | .rangeFunc g ps a b => if roundOk a && roundOk b && ps.toList.all (fun p => decide (p < N)) then match toCmd N a, toCmd N b with
    | some a, some b => some (.rangeF g ps.toList a b [])
    | _, _ => none
    else none
  | .exit id => some (.exit id [])
  | .ret => some .ret
  | .label _ => some (.skip [])
  | _ => none

def Cmd.erase : Cmd → Cmd
  | .ops l _ => .ops l []
  | .draw l _ => .draw l []
  | .seq a b => .seq a.erase b.erase
  | .cond x a b => .cond x a.erase b.erase
  | .block id a => .block id a.erase
  | .loop a => .loop a.erase
  | .scope a => .scope a.erase
  | .rangeF g ps a b _ => .rangeF g ps a.erase b.erase []
  | .skip _ => .skip []
  | .exit id _ => .exit id []
  | .ret => .ret

/-- An int. -/
def I64 (n : Int) : Prop := -9223372036854775808 ≤ n ∧ n ≤ 9223372036854775807

/-- A text of bytes, and back. -/
def ofL (l : List UInt8) : ByteArray := ⟨l.toArray⟩
def toL (s : ByteArray) : List UInt8 := s.data.toList
@[simp] theorem toL_ofL (l : List UInt8) : toL (ofL l) = l := rfl
@[simp] theorem ofL_toL (s : ByteArray) : ofL (toL s) = s := rfl
theorem size_toL (s : ByteArray) : s.size = (toL s).length := by show s.data.size = s.data.toList.length; simp only [Array.length_toList]
theorem toL_inj {s t : ByteArray} (h : toL s = toL t) : s = t := by rw [← ofL_toL s, h, ofL_toL]
theorem ofL_inj {l m : List UInt8} (h : ofL l = ofL m) : l = m := by rw [← toL_ofL l, h, toL_ofL]

/-- The byte at a place, as a number. -/
def bN (l : List UInt8) (i : Int) : Int := ((l.getD i.toNat 0).toNat : Int)
theorem bN_bd (l : List UInt8) (i : Int) : 0 ≤ bN l i ∧ bN l i ≤ 255 := by
  unfold bN; have := (l.getD i.toNat 0).toNat_lt; omega

/-- The part of a text from a place to another one. -/
def cutL {α : Type} (l : List α) (i j : Int) : List α := (l.take j.toNat).drop i.toNat

/-- What a plain operation asks, and what it gives. -/
abbrev PV := Option (Prop × Value)

end Go.Ann
