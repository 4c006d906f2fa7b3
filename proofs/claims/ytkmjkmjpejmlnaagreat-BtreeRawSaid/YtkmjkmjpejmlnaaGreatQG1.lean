/- Texts put together by program. -/
import Derived.WalkKit
import Derived.WalkSpells
import Derived.WalkLawsBesides
import Derived.RangeFuncNested
import Derived.RangeFuncKeeps
import Derived.RangeFuncLeaves
import Derived.OrdersIn
import Derived.TacticsIn
import Derived.Laws.StructEq
import Derived.Scope
import Derived.Orders
import Derived.Deep.Quiet
import Derived.Deep.AppendLies
import Derived.Deep.DeepAppendWide
import Derived.Laws.Tables
import Derived.OrdersHeld
import Derived.ProofKit
import Derived.Deep.Slices
import Derived.OpenShut
import Derived.WideLaws
import Derived.MapKept
import Derived.Maps.RangeRun
import Derived.Laws.CopyRow
import Derived.Lib.Overlaps
import Derived.Lib.AppendZerosOnto
import Derived.Lib.AppendStr
import Derived.Lib.UnsafeStr
import Derived.Test.YtkmjkmjpejmlnaaGreatRows
import Derived.KernelRfl
import Derived.Shelf.SlSortCmp.WholeK
import Derived.Shelf.Strings.OnBuilder
import Derived.Test.YtkmjkmjpejmlnaaGreatProg
set_option linter.unusedSimpArgs false
set_option linter.unusedVariables false
set_option maxRecDepth 100000
noncomputable section

namespace Go.Ann
open Go
abbrev Env:=List (Nat × Value)
def lk:Env→Nat→Option Value
 | [],_=>none
 | (m,v)::ρ,n=>bif m == n then some v else lk ρ n
theorem lk_if{m n:Nat}{v:Value}{ρ:Env}:lk ((m,v)::ρ) n=if m=n then some v else lk ρ n:=by
 simp only [lk]
 by_cases h:m=n
 ·simp [h]
 ·have:(m == n)=false:=by simpa using h
  simp [h,this]
theorem lk_emp{n:Nat}:lk [] n=none:=rfl
def ev(ρ:Env):Operand→Option Value
 | .tmp n=>lk ρ n
 | .const v=>some v
 | .global g=>some (.pointer (some ⟨g,0,none⟩))
 | .func f=>some (.func (.func f) #[] #[])
def evs(ρ:Env):List Operand→Option (List Value)
 | []=>some []
 | x::r=>match ev ρ x,evs ρ r with
  | some v,some vs=>some (v::vs)
  | _,_=>none
def put(ρ:Env):Option Nat→Value→Env
 | none,_=>ρ
 | some d,v=>(d,v)::ρ
def addK(n:Nat):Option Value→Env→Env
 | some v,r=>(n,v)::r
 | none,r=>r
def mkE:Env→Env
 | []=>[]
 | (m,v)::ρ=>if m<1000000 then mkE ρ else (m,v)::mkE ρ
def restr:List Nat→Env→Env
 | [],ρ=>mkE ρ
 | n::l,ρ=>if n<1000000 then addK n (lk ρ n) (restr l ρ) else restr l ρ
def argEnv:Nat→List Value→Env
 | _,[]=>[]
 | n,v::r=>(n,v)::argEnv (n+1) r
structure Ins where
 dst:Option Nat
 op:Op
 ty:TypeId
 g:Option (Nat × Bool)
inductive Cmd where
 | skip (keep:List Nat)
 | ops (l:List Ins) (keep:List Nat)
 /-- The same,sums and differences as they are reckoned: they may wrap. -/
 | opsX (l:List Ins) (keep:List Nat)
 | draw (l:List Oper) (keep:List Nat)
 | seq (a b:Cmd)
 | cond (x:Operand) (a b:Cmd)
 | block (id:Nat) (a:Cmd)
 | loop (a:Cmd)
 | exit (id:Nat) (keep:List Nat)
 | scope (a:Cmd)
 | rangeF (g:Operand) (ps:List Nat) (a b:Cmd) (keep:List Nat)
 /-- A range whose rounds have ranges of their own: their commands are told of its loop. -/
 | rangeG (g:Operand) (ps:List Nat) (a:Cmd) (b:Nat→Cmd) (keep:List Nat)
 /-- A range within a round of a loop. -/
 | rangeN (l:Nat) (g:Operand) (ps:List Nat) (a b:Cmd) (keep:List Nat)
 | ret
def stripG(ops:List Oper):Option (Nat × Bool)→Option (Option (Nat × Bool))
 | none=>some none
 | some (j,b)=>match (ops[j]?).bind (·.dst) with
  | some s=>some (some (s,b))
  | none=>none
def okDst(N:Nat):Option Nat→Bool
 | none=>true
 | some d=>d<N
def strip1(N:Nat)(ops:List Oper)(o:Oper):Option Ins :=
 if okDst N o.dst then match stripG ops o.guard with
  | some g=>some ⟨o.dst,o.op,o.type,g⟩
  | none=>none
 else none
def stripL(N:Nat)(ops:List Oper):List Oper→Option (List Ins)
 | []=>some []
 | o::r=>match strip1 N ops o,stripL N ops r with
  | some i,some l=>some (i::l)
  | _,_=>none
def drawsOf:Code→List (List Oper)
 | .region _ ops true=>[ops.toList]
 | .seq a b=>drawsOf a++drawsOf b
 | .cond _ a b=>drawsOf a++drawsOf b
 | .block _ a=>drawsOf a
 | .loop a=>drawsOf a
 | .scope a=>drawsOf a
 | .rangeFunc _ _ a b=>drawsOf a++drawsOf b
 | _=>[]
def drawOps(k:Nat)(c:Code):List Oper:=(drawsOf c).getD k []
def noDefer:Op→Bool
 | .defer _=>false
 | _=>true
def roundOk:Code→Bool
 | .seq a b=>roundOk a && roundOk b
 | .cond _ a b=>roundOk a && roundOk b
 | .block _ a=>roundOk a
 | .loop a=>roundOk a
 | .scope _=>false
 | .rangeFunc ..=>false
 | _=>true
def roundOk2:Code→Bool
 | .seq a b=>roundOk2 a && roundOk2 b
 | .cond _ a b=>roundOk2 a && roundOk2 b
 | .block _ a=>roundOk2 a
 | .loop a=>roundOk2 a
 | .scope _=>false
 | .rangeFunc _ _ a b=>roundOk a && roundOk b
 | _=>true
def toCmd(N:Nat):Code→Option Cmd
 | .skip=>some (.skip [])
 | .region _ ops false=>match stripL N ops.toList ops.toList with
  | some l=>some (.ops l [])
  | none=>none
 | .region _ ops true=>if ops.toList.all (fun o=>okDst N o.dst) && ops.toList.all (fun o=>noDefer o.op) then some (.draw ops.toList []) else none
 | .seq a b=>match toCmd N a,toCmd N b with
  | some a,some b=>some (.seq a b)
  | _,_=>none
 | .cond x a b=>match toCmd N a,toCmd N b with
  | some a,some b=>some (.cond x a b)
  | _,_=>none
 | .block id a=>match toCmd N a with
  | some a=>some (.block id a)
  | none=>none
 | .loop a=>match toCmd N a with
  | some a=>some (.loop a)
  | none=>none
 | .scope a=>match toCmd N a with
  | some a=>some (.scope a)
  | none=>none
 | .rangeFunc g ps a b=>if roundOk a && roundOk b && ps.toList.all (fun p=>decide (p<N)) then match toCmd N a,toCmd N b with
  | some a,some b=>some (.rangeF g ps.toList a b [])
  | _,_=>none
  else if roundOk a && roundOk2 b && ps.toList.all (fun p=>decide (p<N)) then match toCmd N a,toCmd N b with
  | some a,some b=>some (.rangeG g ps.toList a (fun _=>b) [])
  | _,_=>none
  else none
 | .exit id=>some (.exit id [])
 | .ret=>some .ret
 | .label _=>some (.skip [])
 | _=>none
mutual
def Cmd.erase:Cmd→Cmd
 | .ops l _=>.ops l []
 | .opsX l _=>.ops l []
 | .draw l _=>.draw l []
 | .seq a b=>.seq a.erase b.erase
 | .cond x a b=>.cond x a.erase b.erase
 | .block id a=>.block id a.erase
 | .loop a=>.loop a.erase
 | .scope a=>.scope a.erase
 | .rangeF g ps a b _=>.rangeF g ps a.erase b.erase []
 | .rangeG g ps a b _=>.rangeG g ps a.erase (fun l=>(b l).erase2) []
 | .rangeN l g ps a b _=>.rangeN l g ps a.erase b.erase []
 | .skip _=>.skip []
 | .exit id _=>.exit id []
 | .ret=>.ret
def Cmd.erase2:Cmd→Cmd
 | .ops l _=>.ops l []
 | .opsX l _=>.ops l []
 | .draw l _=>.draw l []
 | .seq a b=>.seq a.erase2 b.erase2
 | .cond x a b=>.cond x a.erase2 b.erase2
 | .block id a=>.block id a.erase2
 | .loop a=>.loop a.erase2
 | .scope a=>.scope a.erase2
 | .rangeF g ps a b _=>.rangeF g ps a.erase b.erase []
 | .rangeG g ps a b _=>.rangeG g ps a.erase (fun l=>(b l).erase2) []
 | .rangeN _ g ps a b _=>.rangeF g ps a.erase b.erase []
 | .skip _=>.skip []
 | .exit id _=>.exit id []
 | .ret=>.ret
end
def I64(n:Int):Prop:=-9223372036854775808≤n∧n≤9223372036854775807
def ofL(l:List UInt8):ByteArray:=⟨l.toArray⟩
def toL(s:ByteArray):List UInt8:=s.data.toList
@[simp] theorem toL_ofL (l:List UInt8):toL (ofL l)=l:=rfl
@[simp] theorem ofL_toL (s:ByteArray):ofL (toL s)=s:=rfl
theorem size_toL(s:ByteArray):s.size=(toL s).length:=by show s.data.size=s.data.toList.length; simp only [Array.length_toList]
theorem toL_inj{s t:ByteArray}(h:toL s=toL t):s=t:=by rw [← ofL_toL s,h,ofL_toL]
def bN(l:List UInt8)(i:Int):Int:=((l.getD i.toNat 0).toNat:Int)
theorem bN_bd(l:List UInt8)(i:Int):0≤bN l i∧bN l i≤255:=by
 unfold bN; have:=(l.getD i.toNat 0).toNat_lt; omega
def cutL{α:Type}(l:List α)(i j:Int):List α:=(l.take j.toNat).drop i.toNat
abbrev PV:=Option (Prop × Value)
end Go.Ann

namespace Go.Ann
open Go
def un1(f:Value→PV):Option Value→PV
 | some x=>f x
 | none=>none
def bin2(f:Value→Value→PV):Option Value→Option Value→PV
 | some x,some y=>f x y
 | _,_=>none
def pvW(pv:PV)(w:World)(K:Value→World→Prop):Prop :=
 match pv with
 | some (ob,v)=>ob∧K v w
 | none=>False
def mvW(o:Option Value)(w:World)(K:Value→World→Prop):Prop :=
 match o with
 | some v=>K v w
 | none=>False
def pickV:Option Value→Option Value→Option Value→Option Value
 | some (.bool true),a,_=>a
 | some (.bool false),_,b=>b
 | _,_,_=>none
def intV(op:BinOp)(k:IntKind)(a b:Int):PV :=
 match op with
 | .add=>if k=.i64 then some (I64 (a+b),.int k (a+b)) else some (True,.int k (k.wrap (a+b)))
 | .sub=>if k=.i64 then some (I64 (a - b),.int k (a - b)) else some (True,.int k (k.wrap (a - b)))
 | .mul=>if k=.i64 then some (I64 (a * b),.int k (a * b)) else some (True,.int k (k.wrap (a * b)))
 | .quo=>if k=.i64 then some (b≠0∧b ≠ -1∧I64 a,.int k (a.tdiv b)) else some (b≠0,.int k (k.wrap (a.tdiv b)))
 | .rem=>some (b≠0,.int k (a.tmod b))
 | .and=>some (True,.int k (bits .and k a b))
 | .or=>some (True,.int k (bits .or k a b))
 | .xor=>some (True,.int k (bits .xor k a b))
 | .andNot=>some (True,.int k (bits .andNot k a b))
 | .eql=>some (True,.bool (decide (a=b)))
 | .neq=>some (True,.bool (decide (a≠b)))
 | .lss=>some (True,.bool (decide (a<b)))
 | .leq=>some (True,.bool (decide (a≤b)))
 | .gtr=>some (True,.bool (decide (b<a)))
 | .geq=>some (True,.bool (decide (b≤a)))
 | _=>none
def strV(op:BinOp)(a b:List UInt8):PV :=
 match op with
 | .add=>some ((a.length:Int)+b.length≤9223372036854775807,.string (ofL (a++b)))
 | .eql=>some (True,.bool (decide (a=b)))
 | .neq=>some (True,.bool (decide (a≠b)))
 | .lss=>some (True,.bool (Op.bytesLess a b))
 | .leq=>some (True,.bool (Op.bytesLess a b || decide (a=b)))
 | .gtr=>some (True,.bool (!(Op.bytesLess a b || decide (a=b))))
 | .geq=>some (True,.bool (!(Op.bytesLess a b)))
 | _=>none
def isTy(P:Program)(t:TypeId)(p:TypeDesc→Bool):Bool:=match P.underlying t with | some d=>p d | none=>false
def isBoolT(P:Program)(t:TypeId):Bool:=isTy P t fun | .bool=>true | _=>false
def isStrT(P:Program)(t:TypeId):Bool:=isTy P t fun | .string=>true | _=>false
def isPtrT(P:Program)(t:TypeId):Bool:=isTy P t fun | .pointer _=>true | _=>false
def isSliceT(P:Program)(t:TypeId):Bool:=isTy P t fun | .slice _=>true | _=>false
def isMapT(P:Program)(t:TypeId):Bool:=isTy P t fun | .map _ _=>true | _=>false
def isFuncT(P:Program)(t:TypeId):Bool:=isTy P t fun | .func _ _ _=>true | _=>false
def isIfaceT(P:Program)(t:TypeId):Bool:=isTy P t fun | .interface _=>true | _=>false
def isAggT(P:Program)(t:TypeId):Bool:=isTy P t fun | .struct _=>true | .array _ _=>true | _=>false
def elemT(P:Program)(t:TypeId):Option TypeId:=match P.underlying t with | some (.slice e)=>some e | _=>none
def eqV(P:Program)(t:TypeId)(x y:Value):PV :=
 match x,y with
 | .bool a,.bool b=>if isBoolT P t then some (True,.bool (a == b)) else none
 | .pointer p,.pointer none=>if isPtrT P t then some (True,.bool p.isNone) else none
 | .pointer none,.pointer (some _)=>if isPtrT P t then some (True,.bool false) else none
 | .slice a _ _,.slice none 0 0=>if isSliceT P t then some (True,.bool a.isNone) else none
 | .map r,.map none=>if isMapT P t then some (True,.bool r.isNone) else none
 | .func _ _ _,.nilFunc=>if isFuncT P t then some (True,.bool false) else none
 | .nilFunc,.nilFunc=>if isFuncT P t then some (True,.bool true) else none
 | .iface _ _,.nilIface=>if isIfaceT P t then some (True,.bool false) else none
 | _,_=>none
def notV:PV→PV
 | some (ob,.bool b)=>some (ob,.bool (!b))
 | _=>none
inductive FK where
 | int | bool | str
def kindF(P:Program)(t:TypeId):Option FK :=
 match P.underlying t with
 | some (.int _)=>some .int
 | some .bool=>some .bool
 | some .string=>some .str
 | _=>none
def flatF(P : Program) : Nat → List Field → Option (List FK)
  | _, [] => some []
  | i, f :: r => if f.offset = i ∧ f.name ≠ "_" then (match kindF P f.type, flatF P (i + 1) r with
    | some k, some ks => some (k :: ks)
    | _, _ => none) else none
def flatT(P:Program)(t:TypeId):Option (List FK) :=
 if P.stoodInHeld t=false∧P.eqGuardType P.depth t=false then (match P.underlying t with
  | some (.struct fs)=>flatF P 0 fs.toList
  | _=>none) else none
def vEq:FK→Value→Value→Option Bool
 | .int,.int k a,.int k' b=>if k=k' then some (decide (a=b)) else none
 | .bool,.bool a,.bool b=>some (a == b)
 | .str,.string a,.string b=>some (decide (toL a=toL b))
 | _,_,_=>none
def andO:Option Bool→Option Bool→Option Bool
 | some a,some b=>some (a && b)
 | _,_=>none
def aggEq:List FK→List Value→List Value→Option Bool
 | [],_,_=>some true
 | k::ks,x::r,y::q=>andO (vEq k x y) (aggEq ks r q)
 | _,_,_=>none
def agPV(o:Option Bool)(f:Bool→Bool):PV:=match o with | some b=>some (True,.bool (f b)) | none=>none
def agV(P:Program)(op:BinOp)(o:Option (List FK))(xs ys:List Value):PV :=
 match o,op with
 | some ks,.eql=>agPV (aggEq ks xs ys) id
 | some ks,.neq=>agPV (aggEq ks xs ys) not
 | _,_=>none
def binV(P:Program)(op:BinOp)(t:TypeId)(x y:Value):PV :=
 match x,y with
 | .int k a,.int k' b =>
  match op with
  | .shl=>some (0≤b,.int k (k.wrap (a * 2 ^ min b.toNat k.bits)))
  | .shr=>some (0≤b,.int k (a / 2 ^ min b.toNat k.bits))
  | _=>if k=k' then intV op k a b else none
 | .string a,.string b=>strV op (toL a) (toL b)
 | .agg xs,.agg ys=>agV P op (flatT P t) xs.toList ys.toList
 | x,y=>match op with
  | .eql=>eqV P t x y
  | .neq=>notV (eqV P t x y)
  | _=>none
def unV(op:UnOp)(x:Value):PV :=
 match op,x with
 | .neg,.int k n=>some (True,.int k (k.wrap (0 - n)))
 | .xor,.int k n=>some (True,.int k (bits .xor k (if k.signed then -1 else k.max) n))
 | .not,.bool b=>some (True,.bool (!b))
 | _,_=>none
def fldI(P:Program)(t:TypeId)(f:Nat):Option (Nat × Nat × Bool) :=
 match P.underlying t with
 | some (.struct fields)=>match fields[f]? with
  | some fd=>match P.info? fd.type,P.underlying fd.type with
   | some i,some _=>some (fd.offset,i.size,isAggT P fd.type)
   | _,_=>none
  | none=>none
 | _=>none
def partV(off size:Nat)(agg:Bool)(cs:Array Value):Option Value :=
 if agg then some (.agg (cs.extract off (off+size))) else cs[off]?
def toPV:Option Value→PV
 | some v=>some (True,v)
 | none=>none
def fieldV(P:Program)(t:TypeId)(f:Nat)(x:Value):PV :=
 match x,fldI P t f with
 | .agg cs,some (off,size,agg)=>toPV (partV off size agg cs)
 | _,_=>none
def fieldAddrV(P:Program)(t:TypeId)(f:Nat)(x:Value):PV :=
 match x,fldI P t f with
 | .pointer (some a),some (off,_+1,_)=>some (True,.pointer (some (a.add off)))
 | _,_=>none
def arrI(P:Program)(t:TypeId):Option (Nat × Nat × Bool) :=
 match P.underlying t with
 | some (.array n e)=>match P.info? e,P.underlying e with
  | some i,some _=>some (n,i.size,isAggT P e)
  | _,_=>none
 | _=>none
def sliI(P:Program)(t:TypeId):Option Nat :=
 match P.underlying t with
 | some (.slice e)=>match P.info? e with
  | some i=>some i.size
  | none=>none
 | _=>none
def indexV(P:Program)(t:TypeId)(x i:Value):PV :=
 match x,i with
 | .string s,.int _ j=>if isStrT P t then some (0≤j∧j<((toL s).length:Int),.int .u8 (bN (toL s) j)) else none
 | .agg cs,.int _ (.ofNat j)=>match arrI P t with
  | some (n,size,agg)=>if j<n then toPV (partV (j * size) size agg cs) else none
  | none=>none
 | _,_=>none
def indexAddrV(P:Program)(t:TypeId)(x i:Value):PV :=
 match x,i with
 | .slice (some a) n _,.int _ j=>match sliI P t with
  | some size=>some (0≤j∧j<(n:Int),.pointer (some (a.add (j.toNat * size))))
  | none=>none
 | .pointer (some a),.int _ j=>match arrI P t with
  | some (n,size,_)=>some (0≤j∧j<(n:Int),.pointer (some (a.add (j.toNat * size))))
  | none=>none
 | _,_=>none
def offA(a:Option Addr)(cap lo size:Nat):Option Addr:=if cap=lo then a else a.map (·.add (lo * size))
def evo(ρ:Env):Option Operand→Option (Option Value)
 | none=>some none
 | some x=>match ev ρ x with
  | some v=>some (some v)
  | none=>none
def sliceStrV(l:List UInt8)(lo hi:Option Value):PV :=
 match lo,hi with
 | none,none=>some (True,.string (ofL l))
 | some (.int _ i),none=>some (0≤i∧i≤(l.length:Int),.string (ofL (l.drop i.toNat)))
 | none,some (.int _ j)=>some (0≤j∧j≤(l.length:Int),.string (ofL (l.take j.toNat)))
 | some (.int _ i),some (.int _ j)=>some (0≤i∧i≤j∧j≤(l.length:Int),.string (ofL (cutL l i j)))
 | _,_=>none
def sliceSlV(size:Nat)(a:Option Addr)(n c:Nat)(lo hi:Option Value):PV :=
 match lo,hi with
 | none,none=>some (True,.slice (offA a c 0 size) n c)
 | some (.int _ i),none=>some (0≤i∧i≤(n:Int),.slice (offA a c i.toNat size) (n - i.toNat) (c - i.toNat))
 | none,some (.int _ j)=>some (0≤j∧j≤(c:Int),.slice (offA a c 0 size) j.toNat c)
 | some (.int _ i),some (.int _ j)=>some (0≤i∧i≤j∧j≤(c:Int),.slice (offA a c i.toNat size) (j.toNat - i.toNat) (c - i.toNat))
 | _,_=>none
def sliceV(P:Program)(t:TypeId)(x:Option Value)(lo hi:Option (Option Value)):PV :=
 match x,lo,hi with
 | some (.string s),some lo,some hi=>if isStrT P t then sliceStrV (toL s) lo hi else none
 | some (.slice a n c),some lo,some hi=>match sliI P t with
  | some size=>sliceSlV size a n c lo hi
  | none=>none
 | _,_,_=>none
def extractV(k:Nat)(x:Value):PV :=
 match x with
 | .tuple vs=>toPV vs[k]?
 | _=>none
def ifaceV(P:Program)(t:TypeId)(x:Value):PV:=if P.concrete t then some (True,.iface t x) else none
def nilCheckV(x:Value):PV :=
 match x with
 | .pointer (some a)=>some (True,.pointer (some a))
 | .func (.func f) a b=>some (True,.func (.func f) a b)
 | _=>none
def biV(P:Program)(b:Builtin)(ats:List TypeId)(xs:List Value):PV :=
 match b,xs with
 | .len,[.string s]=>match ats with
  | [t]=>if isStrT P t then some (True,.int .i64 ((toL s).length:Int)) else none
  | _=>none
 | .len,[.slice _ n _]=>match ats with
  | [t]=>if isSliceT P t then some (True,.int .i64 (n:Int)) else none
  | _=>none
 | .min,[.int k x,.int _ y]=>some (True,.int k (min x y))
 | .max,[.int k x,.int _ y]=>some (True,.int k (max x y))
 | .min,[.int k x,.int _ y,.int _ z]=>some (True,.int k (min (min x y) z))
 | .max,[.int k x,.int _ y,.int _ z]=>some (True,.int k (max (max x y) z))
 | _,_=>none
end Go.Ann

namespace Go.Ann
open Go
theorem wrap_i64(n:Int)(h:I64 n):IntKind.i64.wrap n=n:=by
 obtain ⟨h1,h2⟩:=h
 simp [IntKind.wrap,IntKind.bits,IntKind.signed]
 omega
theorem tdiv_i64(a b:Int)(hb:b≠0)(hb1:b ≠ -1)(h:I64 a):I64 (a.tdiv b):=by
 obtain ⟨h1,h2⟩:=h
 by_cases h1':b=1
 ·subst h1'; rw [Int.tdiv_one]; exact ⟨h1,h2⟩
 ·have h3:(a.tdiv b).natAbs≤a.natAbs / 2:=by
   rw [Int.natAbs_tdiv]; exact Nat.div_le_div_left (by omega) (by decide)
  exact ⟨by omega,by omega⟩
section
variable {P:Program} (w:World)
theorem intV_sound{op:BinOp}{k:IntKind}{a b:Int}{ob:Prop}{v:Value}{t:TypeId}(h:intV op k a b=some (ob,v))(hob:ob) :
  (binOp op t (.int k a) (.int k b)).run P w=.ok v w:=by
 cases op <;> simp only [intV] at h
 case add =>
  simp only [binOp_add,Op.intArith]
  split at h <;> simp only [Option.some.injEq,Prod.mk.injEq] at h <;> obtain ⟨rfl,rfl⟩:=h
  ·subst_vars; rw [wrap_i64 _ hob]; rfl
  ·rfl
 case sub =>
  simp only [binOp_sub,Op.intArith]
  split at h <;> simp only [Option.some.injEq,Prod.mk.injEq] at h <;> obtain ⟨rfl,rfl⟩:=h
  ·subst_vars; rw [wrap_i64 _ hob]; rfl
  ·rfl
 case mul =>
  simp only [binOp_mul,Op.intArith]
  split at h <;> simp only [Option.some.injEq,Prod.mk.injEq] at h <;> obtain ⟨rfl,rfl⟩:=h
  ·subst_vars; rw [wrap_i64 _ hob]; rfl
  ·rfl
 case quo =>
  simp only [binOp_quo,Op.intDiv]
  split at h <;> simp only [Option.some.injEq,Prod.mk.injEq] at h <;> obtain ⟨rfl,rfl⟩:=h
  ·subst_vars; rw [if_neg hob.1,wrap_i64 _ (tdiv_i64 a b hob.1 hob.2.1 hob.2.2)]; rfl
  ·rw [if_neg hob]; rfl
 case rem =>
  simp only [binOp_rem,Op.intDiv]
  simp only [Option.some.injEq,Prod.mk.injEq] at h; obtain ⟨rfl,rfl⟩:=h
  rw [if_neg hob]; rfl
 case and=>simp only [Option.some.injEq,Prod.mk.injEq] at h; obtain ⟨rfl,rfl⟩:=h; simp only [binOp_and,intBits_and]; rfl
 case or=>simp only [Option.some.injEq,Prod.mk.injEq] at h; obtain ⟨rfl,rfl⟩:=h; simp only [binOp_or,intBits_or]; rfl
 case xor=>simp only [Option.some.injEq,Prod.mk.injEq] at h; obtain ⟨rfl,rfl⟩:=h; simp only [binOp_xor,intBits_xor]; rfl
 case andNot=>simp only [Option.some.injEq,Prod.mk.injEq] at h; obtain ⟨rfl,rfl⟩:=h; simp only [binOp_andNot,intBits_andNot]; rfl
 case eql =>
  simp only [Option.some.injEq,Prod.mk.injEq] at h; obtain ⟨rfl,rfl⟩:=h; simp only [binOp_eql]
  have:(a == b)=decide (a=b):=by rw [Bool.eq_iff_iff]; simp
  rw [this]; rfl
 case neq =>
  simp only [Option.some.injEq,Prod.mk.injEq] at h; obtain ⟨rfl,rfl⟩:=h; simp only [binOp_neq]
  have:(a != b)=decide (a≠b):=by rw [Bool.eq_iff_iff]; simp
  rw [this]; rfl
 case lss=>simp only [Option.some.injEq,Prod.mk.injEq] at h; obtain ⟨rfl,rfl⟩:=h; simp only [binOp_lss]; rfl
 case leq=>simp only [Option.some.injEq,Prod.mk.injEq] at h; obtain ⟨rfl,rfl⟩:=h; simp only [binOp_leq]; rfl
 case gtr=>simp only [Option.some.injEq,Prod.mk.injEq] at h; obtain ⟨rfl,rfl⟩:=h; simp only [binOp_gtr]; rfl
 case geq=>simp only [Option.some.injEq,Prod.mk.injEq] at h; obtain ⟨rfl,rfl⟩:=h; simp only [binOp_geq]; rfl
 all_goals cases h
theorem strV_sound{op:BinOp}{a b:ByteArray}{ob:Prop}{v:Value}{t:TypeId}(h:strV op (toL a) (toL b)=some (ob,v))(hob:ob) :
  (binOp op t (.string a) (.string b)).run P w=.ok v w:=by
 have he:(a.toList == b.toList)=decide (toL a=toL b):=by
  rw [ByteArray.toList_eq,ByteArray.toList_eq,Bool.eq_iff_iff]; simp [toL]
 have ha:a.toList=toL a:=ByteArray.toList_eq a
 have hb:b.toList=toL b:=ByteArray.toList_eq b
 cases op <;> simp only [strV] at h
 case add =>
  simp only [Option.some.injEq,Prod.mk.injEq] at h; obtain ⟨rfl,rfl⟩:=h
  simp only [binOp_string_add]
  rw [← size_toL,← size_toL] at hob
  rw [run_string_add_sum w a b (by omega)]
  congr 2
 all_goals first | (cases h; done) | skip
 all_goals simp only [Option.some.injEq,Prod.mk.injEq] at h; obtain ⟨rfl,rfl⟩:=h
 case eql=>simp only [binOp_string_eql,he]; rfl
 case neq=>simp only [binOp_string_neq,he]; simp [Sem.run_pure]
 case lss=>simp only [binOp_string_lss,ha,hb]; rfl
 case leq=>simp only [binOp_string_leq,he]; simp only [ha,hb]; rfl
 case gtr=>simp only [binOp_string_gtr,he]; simp only [ha,hb]; rfl
 case geq=>simp only [binOp_string_geq,ha,hb]; rfl
theorem ty_of{t:TypeId}{p:TypeDesc→Bool}(h:isTy P t p=true):∃ d,P.underlying t=some d∧p d=true:=by
 unfold isTy at h
 split at h
 ·exact ⟨_,by assumption,h⟩
 ·cases h
theorem run_beh{x y:Value}{t:TypeId}{b:Bool}(he:∀ d,(Op.equalIn (d+1) t x y).run P w=.ok b w)
  (h1:binOp .eql t x y=(do pure (.bool (← Op.equal t x y)))) (h2:binOp .neq t x y=(do pure (.bool (!(← Op.equal t x y))))) :
  (binOp .eql t x y).run P w=.ok (.bool b) w∧(binOp .neq t x y).run P w=.ok (.bool (!b)) w:=by
 have he':(Op.equal t x y).run P w=.ok b w:=he 9999
 rw [h1,h2]
 simp only [Sem.run_bind,he',Result.andThen]
 exact ⟨rfl,rfl⟩
theorem eqV_sound{x y:Value}{ob:Prop}{v:Value}{t:TypeId}(h:eqV P t x y=some (ob,v)) :
  ∃ b,ob=True∧v=.bool b∧(binOp .eql t x y).run P w=.ok (.bool b) w∧(binOp .neq t x y).run P w=.ok (.bool (!b)) w∧∀ op ox oy,eqGuard op t ox oy x y=pure ():=by
 unfold eqV at h
 split at h <;> try (cases h; done)
 all_goals
  split at h <;> try (cases h; done)
  rename_i hty
  simp only [Option.some.injEq,Prod.mk.injEq] at h
  obtain ⟨rfl,rfl⟩:=h
  obtain ⟨d,hd,hp⟩:=ty_of hty
  cases d <;> simp at hp
  refine ⟨_,rfl,rfl,?_⟩
  rw [← and_assoc]
  refine ⟨run_beh w ?_ rfl rfl,fun op ox oy=>?_⟩
  rotate_left
  ·cases op <;> rfl
  intro dd
  rw [Op.equalIn]
  simp only [Sem.run_bind,run_underlying hd,Result.andThen]
 all_goals first
  | rfl
  | (rename_i p _; cases p <;> rfl)
  | (rename_i r _ _; cases r <;> rfl)
  | (rename_i r _ _ _; cases r <;> rfl)
  | skip
end
end Go.Ann

namespace Go.Ann
open Go
section
variable {P:Program} (w:World)
theorem run_isAgg0{t:TypeId}{d:TypeDesc}(h:P.underlying t=some d):(isAgg t).run P w=.ok (isAggT P t) w:=by
 simp only [isAgg,Sem.run_bind,run_underlying h,Result.andThen,isAggT,isTy,h]
 cases d <;> rfl
theorem kindF_some{t:TypeId}{k:FK}(h:kindF P t=some k):∃ d,P.underlying t=some d∧isAggT P t=false∧(match k,d with | .int,.int _=>True | .bool,.bool=>True | .str,.string=>True | _,_=>False):=by
 unfold kindF at h
 split at h
 all_goals first | cases h; done | skip
 all_goals rename_i hu; simp only [Option.some.injEq] at h; subst h; exact ⟨_,hu,by simp [isAggT,isTy,hu],trivial⟩
theorem eqF_run(d:Nat)(xs ys:Array Value):∀ (fs:List Field) (ks:List FK) (i:Nat) (b:Bool),flatF P i fs=some ks→aggEq ks (xs.toList.drop i) (ys.toList.drop i)=some b→(Op.eqFields (d+1) xs ys fs).run P w=.ok b w
 | [],ks,i,b,h1,h2=>by
  simp only [flatF,Option.some.injEq] at h1; subst h1
  simp only [aggEq,Option.some.injEq] at h2; subst h2
  rfl
 | f::r,ks,i,b,h1,h2=>by
  simp only [flatF] at h1
  split at h1
  case isFalse=>cases h1
  rename_i hf
  split at h1
  case h_2=>cases h1
  rename_i k ks' hk hks
  simp only [Option.some.injEq] at h1; subst h1
  have hx:∀ (zs:Array Value),zs.toList.drop i=[]∨∃ z,zs[i]?=some z∧zs.toList.drop i=z::zs.toList.drop (i+1):=by
   intro zs
   rcases Nat.lt_or_ge i zs.size with hi | hi
   ·exact .inr ⟨zs[i],by simp [hi],by rw [List.drop_eq_getElem_cons (by simpa using hi)]; simp⟩
   ·exact .inl (List.drop_of_length_le (by simpa using hi))
  rcases hx xs with e | ⟨x,hx1,hx2⟩
  ·rw [e] at h2; simp [aggEq] at h2
  rcases hx ys with e | ⟨y,hy1,hy2⟩
  ·rw [e,hx2] at h2; simp [aggEq] at h2
  rw [hx2,hy2] at h2
  simp only [aggEq] at h2
  obtain ⟨dd,hd,hag,hm⟩:=kindF_some hk
  have hp:∀ (zs:Array Value) (z:Value),zs[i]?=some z→(part f.type zs f.offset).run P w=.ok z w:=by
   intro zs z hz
   rw [hf.1]
   simp only [part,Sem.run_bind,run_isAgg0 w hd,Result.andThen,hag,Bool.false_eq_true,if_false,hz,Sem.run_pure]
  cases hv:vEq k x y with
  | none=>rw [hv] at h2; simp [andO] at h2
  | some c =>
   rw [hv] at h2
   cases hr:aggEq ks' (xs.toList.drop (i+1)) (ys.toList.drop (i+1)) with
   | none=>rw [hr] at h2; simp [andO] at h2
   | some c' =>
    rw [hr] at h2
    simp only [andO,Option.some.injEq] at h2; subst h2
    have he:(Op.equalIn (d+1) f.type x y).run P w=.ok c w:=by
     unfold vEq at hv
     split at hv
     ·split at hv
      ·rename_i ek; subst ek
       simp only [Option.some.injEq] at hv; subst hv
       cases dd <;> simp at hm
       rw [run_equalIn_int w d f.type _ _ _ _ hd]
       congr 1
      ·cases hv
     ·simp only [Option.some.injEq] at hv; subst hv
      cases dd <;> simp at hm
      exact run_equalIn_bool' w d f.type _ _ hd
     ·simp only [Option.some.injEq] at hv; subst hv
      cases dd <;> simp at hm
      rw [run_equalIn_string w d f.type _ _ hd]
      congr 1
      rw [ByteArray.toList_eq,ByteArray.toList_eq,Bool.eq_iff_iff]; simp [toL]
     ·cases hv
    rw [Op.eqFields,if_pos hf.2]
    simp only [Sem.run_bind,hp xs x hx1,hp ys y hy1,Result.andThen_ok,he]
    cases c
    ·simp [Sem.run_pure]
    ·simp only [Bool.not_true,Bool.false_eq_true,if_false,Bool.true_and]
     exact eqF_run d xs ys r ks' (i+1) c' hks hr
theorem agV_sound{op:BinOp}{xs ys:Array Value}{ob:Prop}{v:Value}{t:TypeId}(h:agV P op (flatT P t) xs.toList ys.toList=some (ob,v))(ox oy:Operand) :
  (do eqGuard op t ox oy (.agg xs) (.agg ys); binOp op t (.agg xs) (.agg ys):Sem Value).run P w=.ok v w:=by
 unfold agV at h
 have key:∀ ks b,flatT P t=some ks→aggEq ks xs.toList ys.toList=some b→(Op.equalIn 10000 t (.agg xs) (.agg ys)).run P w=.ok b w∧P.eqGuardType P.depth t=false:=by
  intro ks b hk ha
  unfold flatT at hk
  split at hk
  case isFalse=>cases hk
  rename_i hg
  split at hk
  ·rename_i fs hu
   have hfo:P.fieldsOf t=fs:=by simp [Program.fieldsOf,hu]
   refine ⟨?_,hg.2⟩
   rw [run_equalIn_struct w 9999 t xs ys (by rw [hfo]; exact hu) hg.1,hfo]
   exact eqF_run w 9998 xs ys fs.toList ks 0 b hk (by simpa using ha)
  ·cases hk
 split at h
 ·rename_i ks hk
  unfold agPV at h
  split at h
  ·rename_i b hb
   simp only [Option.some.injEq,Prod.mk.injEq] at h; obtain ⟨rfl,rfl⟩:=h
   obtain ⟨h1,h2⟩:=key ks b hk hb
   simp only [Sem.run_bind,run_eqGuard_agg w _ t ox oy xs ys h2,Result.andThen_ok]
   rw [run_eql_struct,h1]; rfl
  ·cases h
 ·rename_i ks hk
  unfold agPV at h
  split at h
  ·rename_i b hb
   simp only [Option.some.injEq,Prod.mk.injEq] at h; obtain ⟨rfl,rfl⟩:=h
   obtain ⟨h1,h2⟩:=key ks b hk hb
   simp only [Sem.run_bind,run_eqGuard_agg w _ t ox oy xs ys h2,Result.andThen_ok]
   rw [run_neq_struct,h1]; rfl
  ·cases h
 ·cases h
theorem binV_sound{op:BinOp}{x y:Value}{ob:Prop}{v:Value}{t:TypeId}(h:binV P op t x y=some (ob,v))(hob:ob)(ox oy:Operand) :
  (do eqGuard op t ox oy x y; binOp op t x y:Sem Value).run P w=.ok v w:=by
 have key:eqGuard op t ox oy x y=pure ()→(binOp op t x y).run P w=.ok v w→(do eqGuard op t ox oy x y; binOp op t x y:Sem Value).run P w=.ok v w:=by
  intro h1 h2
  rw [h1]; simpa using h2
 unfold binV at h
 split at h
 ·refine key (eqGuard_at_int ..) ?_
  split at h
  ·simp only [Option.some.injEq,Prod.mk.injEq] at h; obtain ⟨rfl,rfl⟩:=h
   rw [binOp_shl,shift_shl_any _ _ _ _ hob]; rfl
  ·simp only [Option.some.injEq,Prod.mk.injEq] at h; obtain ⟨rfl,rfl⟩:=h
   rw [binOp_shr,shift_shr_any _ _ _ _ hob]; rfl
  ·split at h
   ·rename_i hk; subst hk; exact intV_sound w h hob
   ·cases h
 ·exact key (eqGuard_at_string ..) (strV_sound w h hob)
 ·exact agV_sound w h ox oy
 ·split at h
  ·obtain ⟨b,rfl,rfl,h1,h2,h3⟩:=eqV_sound w h
   exact key (h3 _ _ _) h1
  ·cases he:eqV P t x y with
   | none=>rw [he] at h; cases h
   | some p =>
    obtain ⟨ob',v'⟩:=p
    obtain ⟨b,rfl,rfl,h1,h2,h3⟩:=eqV_sound w he
    rw [he] at h
    simp only [notV,Option.some.injEq,Prod.mk.injEq] at h
    obtain ⟨rfl,rfl⟩:=h
    exact key (h3 _ _ _) h2
  ·cases h
theorem unV_sound{op:UnOp}{x:Value}{ob:Prop}{v:Value}(h:unV op x=some (ob,v))(hob:ob):(Op.unary op x).run P w=.ok v w:=by
 unfold unV at h
 split at h
 ·simp only [Option.some.injEq,Prod.mk.injEq] at h; obtain ⟨rfl,rfl⟩:=h
  rfl
 ·simp only [Option.some.injEq,Prod.mk.injEq] at h; obtain ⟨rfl,rfl⟩:=h
  simp only [Op.unary,intBits_xor]; rfl
 ·simp only [Option.some.injEq,Prod.mk.injEq] at h; obtain ⟨rfl,rfl⟩:=h; rfl
 ·cases h
theorem run_sizeOf{t:TypeId}{i:TypeInfo}(h:P.info? t=some i):(Go.sizeOf t).run P w=.ok i.size w:=by
 simp [Go.sizeOf,typeInfo,h]
theorem run_isAgg{t:TypeId}{d:TypeDesc}(h:P.underlying t=some d):(isAgg t).run P w=.ok (isAggT P t) w:=by
 simp only [isAgg,Sem.run_bind,run_underlying h,Result.andThen,isAggT,isTy,h]
 cases d <;> rfl
theorem run_part{t:TypeId}{d:TypeDesc}{i:TypeInfo}(h:P.underlying t=some d)(hi:P.info? t=some i){cs:Array Value}{off:Nat}{v:Value}
  (hv:partV off i.size (isAggT P t) cs=some v):(part t cs off).run P w=.ok v w:=by
 simp only [part,Sem.run_bind,run_isAgg w h,Result.andThen]
 unfold partV at hv
 split at hv
 ·rename_i ha
  simp only [Option.some.injEq] at hv; subst hv
  simp only [ha,if_true,Sem.run_bind,run_sizeOf w hi,Result.andThen]; rfl
 ·rename_i ha
  simp only [ha,Bool.false_eq_true,if_false,hv]; rfl
theorem toPV_some{o:Option Value}{ob:Prop}{v:Value}(h:toPV o=some (ob,v)):ob=True∧o=some v:=by
 cases o with
 | none=>cases h
 | some u=>simp only [toPV,Option.some.injEq,Prod.mk.injEq] at h; exact ⟨h.1.symm,by rw [h.2]⟩
theorem fldI_some{t:TypeId}{f off size:Nat}{agg:Bool}(h:fldI P t f=some (off,size,agg)) :
  ∃ fields fd i d,P.underlying t=some (.struct fields)∧fields[f]?=some fd∧P.info? fd.type=some i∧P.underlying fd.type=some d∧off=fd.offset∧size=i.size∧agg=isAggT P fd.type:=by
 unfold fldI at h
 split at h
 ·rename_i fields hu
  split at h
  ·rename_i fd hf
   split at h
   ·rename_i i d hi hd
    simp only [Option.some.injEq,Prod.mk.injEq] at h
    exact ⟨fields,fd,i,d,hu,hf,hi,hd,h.1.symm,h.2.1.symm,h.2.2.symm⟩
   ·cases h
  ·cases h
 ·cases h
theorem fieldV_sound{t:TypeId}{f:Nat}{x:Value}{ob:Prop}{v:Value}(h:fieldV P t f x=some (ob,v)):(Instr.field t x f).run P w=.ok v w:=by
 unfold fieldV at h
 split at h
 ·rename_i cs off size agg hf
  obtain ⟨rfl,hv⟩:=toPV_some h
  obtain ⟨fields,fd,i,d,hu,hfd,hi,hd,rfl,rfl,rfl⟩:=fldI_some hf
  simp only [Instr.field,Sem.run_bind,run_underlying hu,Result.andThen,hfd,asAgg,Sem.run_pure,run_part w hd hi hv]
 ·cases h
theorem fieldAddrV_sound{t:TypeId}{f:Nat}{x:Value}{ob:Prop}{v:Value}(h:fieldAddrV P t f x=some (ob,v)):(Instr.fieldAt t x f).run P w=.ok v w:=by
 unfold fieldAddrV at h
 split at h
 ·rename_i a off size agg hf
  simp only [Option.some.injEq,Prod.mk.injEq] at h; obtain ⟨rfl,rfl⟩:=h
  obtain ⟨fields,fd,i,d,hu,hfd,hi,hd,rfl,hs,rfl⟩:=fldI_some hf
  have:i.size≠0:=by omega
  simp only [Instr.fieldAt,Sem.run_bind,run_underlying hu,Result.andThen,hfd,Instr.sureAddr,Sem.run_pure,fieldPlace,run_sizeOf w hi,this,if_false]
 ·cases h
theorem arrI_some{t:TypeId}{n size:Nat}{agg:Bool}(h:arrI P t=some (n,size,agg)) :
  ∃ e i d,P.underlying t=some (.array n e)∧P.info? e=some i∧P.underlying e=some d∧size=i.size∧agg=isAggT P e:=by
 unfold arrI at h
 split at h
 ·rename_i n' e hu
  split at h
  ·rename_i i d hi hd
   simp only [Option.some.injEq,Prod.mk.injEq] at h
   exact ⟨e,i,d,by rw [hu,h.1],hi,hd,h.2.1.symm,h.2.2.symm⟩
  ·cases h
 ·cases h
theorem sliI_some{t:TypeId}{size:Nat}(h:sliI P t=some size):∃ e i,P.underlying t=some (.slice e)∧P.info? e=some i∧size=i.size:=by
 unfold sliI at h
 split at h
 ·rename_i e hu
  split at h
  ·rename_i i hi
   simp only [Option.some.injEq] at h
   exact ⟨e,i,hu,hi,h.symm⟩
  ·cases h
 ·cases h
theorem isStrT_some{t:TypeId}(h:isStrT P t=true):P.underlying t=some .string:=by
 obtain ⟨d,hd,hp⟩:=ty_of h
 cases d <;> simp at hp
 exact hd
theorem isSliceT_some{t:TypeId}(h:isSliceT P t=true):∃ e,P.underlying t=some (.slice e):=by
 obtain ⟨d,hd,hp⟩:=ty_of h
 cases d <;> simp at hp
 exact ⟨_,hd⟩
theorem indexV_sound{t:TypeId}{x i:Value}{ob:Prop}{v:Value}(h:indexV P t x i=some (ob,v))(hob:ob):(Instr.index t x i).run P w=.ok v w:=by
 unfold indexV at h
 split at h
 ·rename_i s k j
  split at h
  ·rename_i hs
   simp only [Option.some.injEq,Prod.mk.injEq] at h; obtain ⟨rfl,rfl⟩:=h
   rw [← size_toL] at hob
   rw [run_index_string w t s k j (isStrT_some hs),dif_pos hob]
   congr 2
   have hlt:j.toNat<s.size:=by omega
   have:(toL s).getD j.toNat 0=s[j.toNat]:=by
    rw [List.getD_eq_getElem?_getD]
    show (s.data.toList)[j.toNat]?.getD 0=_
    rw [Array.getElem?_toList,Array.getElem?_eq_getElem (by simpa using hlt)]; rfl
   unfold bN; rw [this]
  ·cases h
 ·rename_i cs k j
  split at h
  ·rename_i n size agg ha
   split at h
   ·rename_i hj
    obtain ⟨rfl,hv⟩:=toPV_some h
    obtain ⟨e,i,d,hu,hi,hd,rfl,rfl⟩:=arrI_some ha
    have:(0:Int)≤Int.ofNat j∧Int.ofNat j<n:=⟨Int.natCast_nonneg _,by simpa using hj⟩
    simp only [Instr.index,asIntOf,Sem.run_bind,Sem.run_pure,Result.andThen,run_underlying hu,this,and_self,if_true,run_sizeOf w hi]
    exact run_part w hd hi hv
   ·cases h
  ·cases h
 ·cases h
theorem indexAddrV_sound{t:TypeId}{x i:Value}{ob:Prop}{v:Value}(h:indexAddrV P t x i=some (ob,v))(hob:ob):(Instr.indexAt t x i).run P w=.ok v w:=by
 unfold indexAddrV at h
 split at h
 ·split at h
  ·rename_i size hs
   simp only [Option.some.injEq,Prod.mk.injEq] at h; obtain ⟨rfl,rfl⟩:=h
   obtain ⟨e,i,hu,hi,rfl⟩:=sliI_some hs
   have he:P.elem t=e:=by simp [Program.elem,hu]
   rw [run_indexAt_slice w _ _ _ _ _ _ (by rw [he]; exact hu),if_pos hob,he,run_sizeOf w hi]; rfl
  ·cases h
 ·split at h
  ·rename_i n size agg hs
   simp only [Option.some.injEq,Prod.mk.injEq] at h; obtain ⟨rfl,rfl⟩:=h
   obtain ⟨e,i,d,hu,hi,hd,rfl,rfl⟩:=arrI_some hs
   simp only [Instr.indexAt,asIntOf,Sem.run_bind,Sem.run_pure,Result.andThen,run_underlying hu,Instr.sureAddr,hob,and_self,if_true,run_sizeOf w hi]
  ·cases h
 ·cases h
end
end Go.Ann

namespace Go.Ann
open Go
section
variable {P:Program} (w:World)
theorem run_bound{k:IntKind}{i:Int}{y:Nat}{code:BoundsCode}(h0:0≤i)(h1:i≤y):(Instr.sliceBound (.int k i) y code).run P w=.ok i.toNat w:=by
 simp only [Instr.sliceBound,asIntOf,Sem.run_bind,Sem.run_pure,Result.andThen,h0,h1,and_self,if_true]
theorem sliceStrV_sound{t:TypeId}{s:ByteArray}{lo hi:Option Value}{ob:Prop}{v:Value}(hu:P.underlying t=some .string)(h:sliceStrV (toL s) lo hi=some (ob,v))(hob:ob) :
  (Instr.slice t (.string s) lo hi none).run P w=.ok v w:=by
 have hx:∀ a b:Nat,toL (s.extract a b)=((toL s).take b).drop a:=by
  intro a b
  simp [toL,ByteArray.data_extract,List.extract_eq_take_drop,List.drop_take]
 unfold sliceStrV at h
 split at h <;> simp only [Option.some.injEq,Prod.mk.injEq,reduceCtorEq] at h
 all_goals obtain ⟨rfl,rfl⟩:=h
 ·simp only [Instr.slice,Sem.run_bind,run_underlying hu,Result.andThen,Instr.sliceBounds,Sem.run_pure,Option.isSome,Bool.false_eq_true,if_false]
  refine congrArg (fun x=>Result.ok (Value.string x) w) (toL_inj ?_)
  rw [hx,toL_ofL,size_toL]; simp
 ·rename_i k i
  rw [← size_toL] at hob
  simp only [Instr.slice,Sem.run_bind,run_underlying hu,Result.andThen,Instr.sliceBounds,Sem.run_pure,Option.isSome,Bool.false_eq_true,if_false,run_bound w hob.1 hob.2]
  refine congrArg (fun x=>Result.ok (Value.string x) w) (toL_inj ?_)
  rw [hx,toL_ofL,size_toL]; simp
 ·rename_i k j
  rw [← size_toL] at hob
  simp only [Instr.slice,Sem.run_bind,run_underlying hu,Result.andThen,Instr.sliceBounds,Sem.run_pure,Option.isSome,Bool.false_eq_true,if_false,run_bound w hob.1 hob.2]
  refine congrArg (fun x=>Result.ok (Value.string x) w) (toL_inj ?_)
  rw [hx,toL_ofL]; simp
 ·rename_i k i k' j
  rw [← size_toL] at hob
  have h1:i≤(j.toNat:Int):=by omega
  simp only [Instr.slice,Sem.run_bind,run_underlying hu,Result.andThen,Instr.sliceBounds,Sem.run_pure,Option.isSome,Bool.false_eq_true,if_false,run_bound w (show 0≤j by omega) hob.2.2,run_bound w hob.1 h1]
  refine congrArg (fun x=>Result.ok (Value.string x) w) (toL_inj ?_)
  rw [hx,toL_ofL]; rfl
theorem sliceSlV_sound{t:TypeId}{e:TypeId}{i:TypeInfo}{a:Option Addr}{n c:Nat}{lo hi:Option Value}{ob:Prop}{v:Value}(hu:P.underlying t=some (.slice e))(hi':P.info? e=some i)(h:sliceSlV i.size a n c lo hi=some (ob,v))(hob:ob) :
  (Instr.slice t (.slice a n c) lo hi none).run P w=.ok v w:=by
 unfold sliceSlV at h
 split at h <;> simp only [Option.some.injEq,Prod.mk.injEq,reduceCtorEq] at h
 all_goals obtain ⟨rfl,rfl⟩:=h
 ·simp only [Instr.slice,Sem.run_bind,run_underlying hu,Result.andThen,Instr.sliceBounds,Sem.run_pure,Option.isSome,Bool.false_eq_true,if_false,run_sizeOf w hi',Nat.sub_zero]; rfl
 ·simp only [Instr.slice,Sem.run_bind,run_underlying hu,Result.andThen,Instr.sliceBounds,Sem.run_pure,Option.isSome,Bool.false_eq_true,if_false,run_sizeOf w hi',run_bound w hob.1 hob.2]; rfl
 ·simp only [Instr.slice,Sem.run_bind,run_underlying hu,Result.andThen,Instr.sliceBounds,Sem.run_pure,Option.isSome,Bool.false_eq_true,if_false,run_sizeOf w hi',run_bound w hob.1 hob.2,Nat.sub_zero]; rfl
 ·rename_i k i' k' j
  have h1:i'≤(j.toNat:Int):=by omega
  simp only [Instr.slice,Sem.run_bind,run_underlying hu,Result.andThen,Instr.sliceBounds,Sem.run_pure,Option.isSome,Bool.false_eq_true,if_false,run_sizeOf w hi',run_bound w (show 0≤j by omega) hob.2.2,run_bound w hob.1 h1]; rfl
theorem sliceV_sound{t:TypeId}{x:Value}{lo hi:Option Value}{ob:Prop}{v:Value}(h:sliceV P t (some x) (some lo) (some hi)=some (ob,v))(hob:ob):(Instr.sliceAt t x lo hi none).run P w=.ok v w:=by
 unfold sliceV at h
 split at h
 ·rename_i h1 h2 h3
  simp only [Option.some.injEq] at h1 h2 h3; subst h1 h2 h3
  split at h
  ·rename_i hs
   rw [run_sliceAt_string w _ _ _ _ _ (isStrT_some hs)]
   exact sliceStrV_sound w (isStrT_some hs) h hob
  ·cases h
 ·rename_i h1 h2 h3
  simp only [Option.some.injEq] at h1 h2 h3; subst h1 h2 h3
  split at h
  ·rename_i size hs
   obtain ⟨e,i,hu,hi,rfl⟩:=sliI_some hs
   rw [run_sliceAt_slice w _ _ _ _ _ (by simp [Program.elem,hu])]
   exact sliceSlV_sound w hu hi h hob
  ·cases h
 ·cases h
theorem extractV_sound{k:Nat}{x:Value}{ob:Prop}{v:Value}(h:extractV k x=some (ob,v)):(Instr.extract x k).run P w=.ok v w:=by
 unfold extractV at h
 split at h
 ·obtain ⟨rfl,hv⟩:=toPV_some h
  simp only [Instr.extract,hv]; rfl
 ·cases h
theorem ifaceV_sound{t:TypeId}{x:Value}{ob:Prop}{v:Value}(h:ifaceV P t x=some (ob,v)):(Instr.makeInterface t x).run P w=.ok v w:=by
 unfold ifaceV at h
 split at h
 ·rename_i hc
  simp only [Option.some.injEq,Prod.mk.injEq] at h; obtain ⟨rfl,rfl⟩:=h
  exact run_makeInterface w t x hc
 ·cases h
theorem max_int(x y:Int):(if y > x then y else x)=max x y:=by split <;> omega
theorem min_int(x y:Int):(if y<x then y else x)=min x y:=by split <;> omega
theorem biV_sound{b:Builtin}{ats:List TypeId}{ty:TypeId}{cs:Array Bool}{xs:List Value}{ob:Prop}{v:Value}(h:biV P b ats xs=some (ob,v))(_hob:ob) :
  (builtin b ats.toArray ty cs xs.toArray).run P w=.ok (.value v) w:=by
 unfold biV at h
 split at h
 ·split at h
  ·split at h
   ·rename_i hs
    simp only [Option.some.injEq,Prod.mk.injEq] at h; obtain ⟨rfl,rfl⟩:=h
    rw [← size_toL]
    simp only [builtin,Sem.run_bind,run_len_string w _ _ _ (isStrT_some hs),Result.andThen]; rfl
   ·cases h
  ·cases h
 ·split at h
  ·split at h
   ·rename_i hs
    simp only [Option.some.injEq,Prod.mk.injEq] at h; obtain ⟨rfl,rfl⟩:=h
    obtain ⟨e,he⟩:=isSliceT_some hs
    rename_i t
    have he':P.underlying t=some (.slice (P.elem t)):=by simp [Program.elem,he]
    simp only [builtin,Sem.run_bind,run_len_slice w _ _ _ _ _ he',Result.andThen]; rfl
   ·cases h
  ·cases h
 ·simp only [Option.some.injEq,Prod.mk.injEq] at h; obtain ⟨rfl,rfl⟩:=h
  simp only [builtin,Sem.run_bind,run_min_int2,Result.andThen,min_int]; rfl
 ·simp only [Option.some.injEq,Prod.mk.injEq] at h; obtain ⟨rfl,rfl⟩:=h
  simp only [builtin,Sem.run_bind,run_max_int2,Result.andThen,max_int]; rfl
 ·simp only [Option.some.injEq,Prod.mk.injEq] at h; obtain ⟨rfl,rfl⟩:=h
  simp only [builtin,Sem.run_bind,run_min_int3,Result.andThen,min_int]; rfl
 ·simp only [Option.some.injEq,Prod.mk.injEq] at h; obtain ⟨rfl,rfl⟩:=h
  simp only [builtin,Sem.run_bind,run_max_int3,Result.andThen,max_int]; rfl
 ·cases h
end
end Go.Ann

namespace Go.Ann
open Go
def Ret(P:Program)(f:FuncId)(args:List Value)(w:World)(K:Value→World→Prop):Prop :=
 Calls P f args.toArray w fun e w'=>∃ v,e=.returned v∧K v w'
theorem Ret.mono{P:Program}{f:FuncId}{args:List Value}{w:World}{K K':Value→World→Prop}(h:Ret P f args w K)(hk:∀ v w',K v w'→K' v w'):Ret P f args w K' :=
 Calls.mono h fun _ _ ⟨v,he,hv⟩=>⟨v,he,hk _ _ hv⟩
def goFunc(P : Program)(f : FuncId) : Bool :=
  match P.funcs[f]? with
  | some fn => !(fn.name == "runtime.NumGoroutine") && fn.body.isSome
  | none => false
def extW(P:Program)(f:FuncId)(args:List Value)(w:World)(K:Value→World→Prop):Prop:=∃ v w',(callFunc f args.toArray).run P w=.ok (.value v) w'∧K v w'
def callW(P:Program)(f:Value)(args:List Value)(w:World)(K:Value→World→Prop):Prop :=
 match f with
 | .func (.func f) first cap=>(goFunc P f=true∧Ret P f (first.toList++args++cap.toList) w K)∨(goFunc P f=false∧extW P f (first.toList++args++cap.toList) w K)
 | .func (.yield l) first cap=>first=#[]∧cap=#[]∧YieldAt Fence.wide 0 P l args.toArray w fun e w'=>∃ v,e=.returned v∧K v w'
 | _=>False
def noYV:Option Value→Prop
 | some (.func (.yield _) _ _)=>False
 | _=>True
def noY(ρ:Env):Op→Prop
 | .call ⟨.value f,_,_⟩=>noYV (ev ρ f)
 | _=>True
def rawOp(op : Op)(ty : TypeId) : Oper := ⟨none, op, ty, "", #[], none⟩
def rawW(P:Program)(op:Op)(ty:TypeId)(ρ:Env)(w:World)(K:Value→World→Prop):Prop :=
 ∀ a:Operand→Value,(∀ x v,ev ρ x=some v→a x=v)→∃ v w',(execOp a (rawOp op ty)).run P w=.ok (.value v) w'∧K v w'
def cellsAt(w:World)(p:Addr)(cs:List Value):Prop:=∀ i v,cs[i]?=some v→w.cell? (p.add i)=some v
def sizeT(P:Program)(t:TypeId):Option Nat:=match P.info? t with | some i=>some i.size | none=>none
def zeroT(P:Program)(t:TypeId):Option Value:=match P.info? t with | some i=>i.zero | none=>none
def isU8(P:Program)(t:TypeId):Bool:=isTy P t fun | .int .u8=>true | _=>false
inductive TyK where
 | int (k:IntKind) | bool | str | slice (u8:Bool) (e:TypeId) | ptr | map | agg (n:Nat) | other | none
def tyK(P:Program)(t:TypeId):TyK :=
 match P.underlying t with
 | some (.int k)=>.int k
 | some .bool=>.bool
 | some .string=>.str
 | some (.slice e)=>.slice (isU8 P e) e
 | some (.pointer _)=>.ptr
 | some (.map _ _)=>.map
 | some (.struct _)=>match sizeT P t with | some n=>.agg n | Option.none=>.none
 | some (.array _ _)=>match sizeT P t with | some n=>.agg n | Option.none=>.none
 | some _=>.other
 | Option.none=>.none
def loadK(k:TyK)(p:Addr)(w:World)(K:Value→World→Prop):Prop :=
 match k with
 | .int k=>∃ n,w.cell? p=some (.int k n)∧K (.int k n) w
 | .bool=>∃ b,w.cell? p=some (.bool b)∧K (.bool b) w
 | .str=>∃ l,w.cell? p=some (.string (ofL l))∧K (.string (ofL l)) w
 | .slice _ _=>∃ a n c,w.cell? p=some (.slice a n c)∧K (.slice a n c) w
 | .ptr=>∃ q,w.cell? p=some (.pointer q)∧K (.pointer q) w
 | .map=>∃ r,w.cell? p=some (.map r)∧K (.map r) w
 | .agg n=>∃ cs,cellsAt w p cs∧cs.length=n∧K (.agg cs.toArray) w
 | .other=>∃ v,w.cell? p=some v∧K v w
 | .none=>False
def loadW(P:Program)(t:TypeId)(p:Addr)(w:World)(K:Value→World→Prop):Prop:=loadK (tyK P t) p w K
def setCellsW(w:World)(p:Addr):Nat→List Value→World
 | _,[]=>w
 | i,v::r=>setCellsW (w.setCell (p.add i) v) p (i+1) r
def storeW(P:Program)(t:TypeId)(p:Addr)(v:Value)(w:World)(K:Value→World→Prop):Prop :=
 sizeT P t=some v.cells.size∧(∀ u∈v.cells.toList,u.oneCell'=true) ∧
  (∀ i,i<v.cells.size→(∃ old,w.cell? (p.add i)=some old)∧w.frozen? (p.add i)=false)∧K undef (setCellsW w p 0 v.cells.toList)
def byteRow(l:List UInt8)(c:Nat):Array Value:=(l.map fun b=>Value.int .u8 b.toNat).toArray++Array.replicate (c - l.length) (.int .u8 0)
def bytesW(w:World)(l:List UInt8)(c:Nat)(e:TypeId):World:=(w.alloc (.cells (byteRow l c) e (c,c+1))).drew
def bytesAt(w:World)(a:Option Addr)(l:List UInt8):Prop :=
 match a with
 | none=>l=[]
 | some a=>∀ i b,l[i]?=some b→w.cell? (a.add i)=some (.int .u8 b.toNat)
def convK(s d:TyK)(x:Value)(w:World)(K:Value→World→Prop):Prop :=
 match s,d,x with
 | .int _,.int .i64,.int _ n=>I64 n∧K (.int .i64 n) w
 | .int _,.int k,.int _ n=>K (.int k (k.wrap n)) w
 | .str,.str,.string b=>K (.string b) w
 | .str,.slice true e,.string b=>∀ c,(toL b).length≤c→K (.slice (some ⟨w.heap.size,0,none⟩) (toL b).length c) (bytesW w (toL b) c e)
 | .slice true _,.str,.slice a n _=>∃ l,l.length=n∧bytesAt w a l∧K (.string (ofL l)) w
 | _,_,_=>False
def convW(P:Program)(s d:TypeId)(x:Value)(w:World)(K:Value→World→Prop):Prop:=convK (tyK P s) (tyK P d) x w K
def lsPV(f:List Value→PV):Option (List Value)→PV
 | some xs=>f xs
 | none=>none
def runW(P:Program)(s:Sem Value)(w:World)(K:Value→World→Prop):Prop:=∃ v w',s.run P w=.ok v w'∧K v w'
def runU(P:Program)(s:Sem Unit)(w:World)(K:Value→World→Prop):Prop:=∃ w',s.run P w=.ok () w'∧K undef w'
def rawB(P:Program)(b:Builtin)(ats:Array TypeId)(ty:TypeId)(cs:Array Bool)(xs:List Value)(w:World)(K:Value→World→Prop):Prop :=
 ∃ v w',(builtin b ats ty cs xs.toArray).run P w=.ok (.value v) w'∧K v w'
def isConstO:Operand→Bool
 | .const _=>true
 | _=>false
def biW(P:Program)(b:Builtin)(ats:Array TypeId)(ty:TypeId)(cs:Array Bool)(xs:List Value)(w:World)(K:Value→World→Prop):Prop :=
 match b,xs with
 | .len,[.map (some r)]=>rawB P .len ats ty cs [.map (some r)] w K
 | .len,xs=>pvW (biV P .len ats.toList xs) w K
 | .min,xs=>pvW (biV P .min ats.toList xs) w K
 | .max,xs=>pvW (biV P .max ats.toList xs) w K
 | b,xs=>rawB P b ats ty cs xs w K
def zipP:List Nat→List Value→List (Nat × Value)
 | i::r,v::vs=>(i,v)::zipP r vs
 | _,_=>[]
def un1W(f:Value→Prop):Option Value→Prop
 | some v=>f v
 | none=>False
def ls1W(f:List Value→Prop):Option (List Value)→Prop
 | some v=>f v
 | none=>False
def ptrW(f:Addr→Prop):Option Value→Prop
 | some (.pointer (some p))=>f p
 | _=>False
def opW(P:Program)(op:Op)(ty:TypeId)(ρ:Env)(w:World)(K:Value→World→Prop):Prop :=
 match op with
 | .move x=>mvW (ev ρ x) w K
 | .assign x=>mvW (ev ρ x) w K
 | .pick c a b=>mvW (pickV (ev ρ c) (ev ρ a) (ev ρ b)) w K
 | .binOp op t x y _=>pvW (bin2 (binV P op t) (ev ρ x) (ev ρ y)) w K
 | .unOp op _ x=>pvW (un1 (unV op) (ev ρ x)) w K
 | .index t x i=>pvW (bin2 (indexV P t) (ev ρ x) (ev ρ i)) w K
 | .slice t x lo hi none=>pvW (sliceV P t (ev ρ x) (evo ρ lo) (evo ρ hi)) w K
 | .field t x f=>pvW (un1 (fieldV P t f) (ev ρ x)) w K
 | .fieldAddr t x f=>pvW (un1 (fieldAddrV P t f) (ev ρ x)) w K
 | .indexAddr t x i=>pvW (bin2 (indexAddrV P t) (ev ρ x) (ev ρ i)) w K
 | .extract x k=>pvW (un1 (extractV k) (ev ρ x)) w K
 | .makeInterface t x=>pvW (un1 (ifaceV P t) (ev ρ x)) w K
 | .nilCheck x=>pvW (un1 nilCheckV (ev ρ x)) w K
 | .makeFunc fn first cap=>ls1W (fun f=>ls1W (fun c=>K (.func fn f.toArray c.toArray) w) (evs ρ cap.toList)) (evs ρ first.toList)
 | .load t a=>ptrW (fun p=>loadW P t p w K) (ev ρ a)
 | .store t a v=>ptrW (fun p=>un1W (fun v=>storeW P t p v w K) (ev ρ v)) (ev ρ a)
 | .alloc t=>un1W (fun z=>K (.pointer (some ⟨w.heap.size,0,none⟩)) (w.alloc (.cells z.cells t))) (zeroT P t)
 | .box t v=>un1W (fun z=>K (.pointer (some ⟨w.heap.size,0,none⟩)) (w.alloc (.cells z.cells t))) (ev ρ v)
 | .convert s d x=>un1W (fun x=>convW P s d x w K) (ev ρ x)
 | .build t parts=>ls1W (fun vs=>runW P (Instr.build t (zipP (parts.toList.map (·.1)) vs).toArray) w K) (evs ρ (parts.toList.map (·.2)))
 | .buildSlice t n parts=>ls1W (fun vs=>runW P (Instr.buildSlice t n (zipP (parts.toList.map (·.1)) vs).toArray) w K) (evs ρ (parts.toList.map (·.2)))
 | .makeSlice t l c=>un1W (fun l=>un1W (fun c=>runW P (Instr.makeSlice t l c) w K) (ev ρ c)) (ev ρ l)
 | .makeMap t none=>runW P (Instr.makeMap t none) w K
 | .lookup t m k ok=>un1W (fun m=>un1W (fun k=>runW P (Instr.lookup t m k ok) w K) (ev ρ k)) (ev ρ m)
 | .mapUpdate t m k v=>un1W (fun m=>un1W (fun k=>un1W (fun v=>runU P (Instr.mapUpdate t m k v) w K) (ev ρ v)) (ev ρ k)) (ev ρ m)
 | .insert t m k v=>un1W (fun m=>un1W (fun k=>un1W (fun v=>runU P (Instr.mapUpdate t m k v) w K) (ev ρ v)) (ev ρ k)) (ev ρ m)
 | .range t x=>un1W (fun x=>runW P (Instr.range t x) w K) (ev ρ x)
 | .next it isS=>un1W (fun it=>runW P (Instr.next it isS ty) w K) (ev ρ it)
 | .entry it=>un1W (fun it=>runW P (Instr.entry it) w K) (ev ρ it)
 | .typeAssert x xt at' ok=>un1W (fun x=>runW P (Instr.typeAssert x xt at' ok) w K) (ev ρ x)
 | .call ⟨.builtin b,args,ats⟩=>ls1W (fun xs=>biW P b ats ty (args.map isConstO) xs w K) (evs ρ args.toList)
 | .call ⟨.value f,args,_⟩=>un1W (fun f=>ls1W (fun xs=>callW P f xs w K) (evs ρ args.toList)) (ev ρ f)
 | .defer _=>False
 | op=>rawW P op ty ρ w K
abbrev Post:=Exit→Env→World→Prop
def WL(P:Program):List Ins→List Nat→Env→World→Post→Prop
 | [],L,ρ,w,Q=>Q .normal (restr L ρ) w
 | ⟨d,op,ty,none⟩::r,L,ρ,w,Q=>opW P op ty ρ w (fun v w'=>WL P r L (put ρ d v) w' Q)
 | ⟨d,op,ty,some (s,b)⟩::r,L,ρ,w,Q=>match lk ρ s with
  | some (.bool c)=>(c=b→opW P op ty ((s,.bool b)::ρ) w (fun v w'=>WL P r L (put ((s,.bool b)::ρ) d v) w' Q)) ∧
    (c=!b→WL P r L (put ((s,.bool !b)::ρ) d undef) w Q)
  | some (.tuple _)=>WL P r L (put ρ d undef) w Q
  | _=>False
def exV(f:Int→Int→Int):Value→Value→PV
 | .int k a,.int k' b=>if k=k' then some (True,.int k (k.wrap (f a b))) else none
 | _,_=>none
def opX(P:Program)(op:Op)(ty:TypeId)(ρ:Env)(w:World)(K:Value→World→Prop):Prop :=
 match op with
 | .binOp .add _ x y _=>pvW (bin2 (exV fun a b=>a+b) (ev ρ x) (ev ρ y)) w K
 | .binOp .sub _ x y _=>pvW (bin2 (exV fun a b=>a - b) (ev ρ x) (ev ρ y)) w K
 | .binOp .mul _ x y _=>pvW (bin2 (exV fun a b=>a * b) (ev ρ x) (ev ρ y)) w K
 | op=>opW P op ty ρ w K
def WX(P:Program):List Ins→List Nat→Env→World→Post→Prop
 | [],L,ρ,w,Q=>Q .normal (restr L ρ) w
 | ⟨d,op,ty,none⟩::r,L,ρ,w,Q=>opX P op ty ρ w (fun v w'=>WX P r L (put ρ d v) w' Q)
 | _,_,_,_,_=>False
def marksD:Env→List Nat
 | []=>[]
 | (m,_)::ρ=>if m<1000000 then marksD ρ else (m - 1000000)::marksD ρ
def markDefs(l:List Nat):List Deferred:=l.map fun D=>{ target:=.collected D,args:=#[] }
structure Sim(N:Nat)(a:Act)(ρ:Env):Prop where
 size:a.tmps.size=N
 small:N≤1000000
 defers:a.defers=markDefs (marksD ρ)
 slot:∀ n v,lk ρ n=some v→a.tmps.getD n undef=v
def drawW(P:Program)(l:List Oper)(L:List Nat)(ρ:Env)(w:World)(Q:Post):Prop :=
 ∀ N a,l.all (fun o=>okDst N o.dst)=true→Sim N a ρ →
  (∀ t,wpOps P l.toArray (fun e a' w'=>∃ ρ',Sim N a' ρ'∧e=.normal∧Q .normal (restr L ρ') w') (Region.schedule (P.follows .mixedOrders) l.toArray t) a w.drew) ∨
  (∀ (r:Option Nat) (n t:Nat),wpOpsIn { Fence.wide with round:=r } n P l.toArray (fun e a' w'=>∃ ρ',Sim N a' ρ'∧e=.normal∧Q .normal (restr L ρ') w') (Region.schedule (P.follows .mixedOrders) l.toArray t) a w.drew)
def liftQ(N:Nat)(Q:Post):Exit→Act→World→Prop:=fun e a w=>∃ ρ,Sim N a ρ∧Q e ρ w
def RangeW(P:Program)(g:Operand)(ps:List Nat)(A B:Cmd)(ρ:Env)(w:World)(Q:Post):Prop :=
 ∀ N a ca cb,toCmd N ca=some A.erase→toCmd N cb=some B.erase→roundOk ca=true→roundOk cb=true→(∀ p∈ps,p<N)→Sim N a ρ→(Code.rangeFunc g ps.toArray ca cb).wpIn Fence.wide 9 P (liftQ N Q) a w
def RangeG(P:Program)(g:Operand)(ps:List Nat)(A:Cmd)(B:Nat→Cmd)(ρ:Env)(w:World)(Q:Post):Prop :=
 ∀ N a ca cb,toCmd N ca=some A.erase→(∀ l,toCmd N cb=some (B l).erase2)→roundOk ca=true→roundOk2 cb=true→(∀ p∈ps,p<N)→Sim N a ρ→(Code.rangeFunc g ps.toArray ca cb).wpIn Fence.wide 9 P (liftQ N Q) a w
def RangeN(P:Program)(l:Nat)(g:Operand)(ps:List Nat)(A B:Cmd)(ρ:Env)(w:World)(Q:Post):Prop :=
 ∀ N n a ca cb,toCmd N ca=some A.erase→toCmd N cb=some B.erase→roundOk ca=true→roundOk cb=true→(∀ p∈ps,p<N)→Sim N a ρ→(Code.rangeFunc g ps.toArray ca cb).wpIn (Fence.wide.inRound l) n P (liftQ N Q) a w
def keepQ(L:List Nat)(Q:Post):Post:=fun e ρ w=>match e with
 | .normal=>Q .normal (restr L ρ) w
 | e=>Q e ρ w
def LoopW(body:Env→World→Post→Prop)(ρ:Env)(w:World)(Q:Post):Prop :=
 ∃ I:Nat→Env→World→Prop,(∃ n,I n ρ w)∧∀ n ρ' w',I n ρ' w'→body ρ' w' (fun e ρ'' w''=>match e with
  | .normal=>∃ m,m<n∧I m ρ'' w''
  | e=>Q e ρ'' w'')
def condW(o:Option Value)(A B:Prop):Prop :=
 match o with
 | some (.bool c)=>(c=true→A)∧(c=false→B)
 | _=>False
def blockQ(id:Nat)(Q:Post):Post:=fun e ρ w =>
 match e with
 | .exit j=>if j=id then Q .normal ρ w else Q (.exit j) ρ w
 | e=>Q e ρ w
def scopeQ(Q:Post):Post:=fun e ρ w =>
 match e with
 | .goto _=>False
 | e=>Q e ρ w
def W(P:Program):Cmd→Env→World→Post→Prop
 | .skip L,ρ,w,Q=>Q .normal (restr L ρ) w
 | .ops l L,ρ,w,Q=>WL P l L ρ w Q
 | .opsX l L,ρ,w,Q=>WX P l L ρ w Q
 | .draw l L,ρ,w,Q=>drawW P l L ρ w Q
 | .seq a b,ρ,w,Q=>W P a ρ w (fun e ρ' w'=>match e with
  | .normal=>W P b ρ' w' Q
  | e=>Q e ρ' w')
 | .cond x a b,ρ,w,Q=>condW (ev ρ x) (W P a ρ w Q) (W P b ρ w Q)
 | .block id a,ρ,w,Q=>W P a ρ w (blockQ id Q)
 | .loop a,ρ,w,Q=>LoopW (W P a) ρ w Q
 | .exit id L,ρ,w,Q=>Q (.exit id) (restr L ρ) w
 | .scope a,ρ,w,Q=>W P a ρ w (scopeQ Q)
 | .rangeF g ps a b L,ρ,w,Q=>RangeW P g ps a b ρ w (keepQ L Q)
 | .rangeG g ps a b L,ρ,w,Q=>RangeG P g ps a b ρ w (keepQ L Q)
 | .rangeN l g ps a b L,ρ,w,Q=>RangeN P l g ps a b ρ w (keepQ L Q)
 | .ret,ρ,w,Q=>Q .ret ρ w
def resW(P:Program):List ResultVar→Env→World→List Value→(List Value→Prop)→Prop
 | [],_,_,acc,K=>K acc.reverse
 | .tmp t::r,ρ,w,acc,K=>un1W (fun v=>resW P r ρ w (v::acc) K) (lk ρ t)
 | .cell a t::r,ρ,w,acc,K=>ptrW (fun p=>loadW P t p w (fun v _=>resW P r ρ w (v::acc) K)) (lk ρ a)
def tupV:List Value→Value
 | [v]=>v
 | vs=>.tuple vs.toArray
def shutW:List Nat→World→(World→Prop)→Prop
 | [],w,k=>k w
 | D::r,w,k=>w.heap[D]?=some (.deferred (some []))∧shutW r (w.putObj D (.deferred none)) k
def finQ(P:Program)(rs:List ResultVar)(K:Value→World→Prop):Post:=fun e ρ w =>
 match e with
 | .normal=>shutW (marksD ρ) w fun w=>resW P rs ρ w [] (fun vs=>K (tupV vs) w)
 | .ret=>shutW (marksD ρ) w fun w=>resW P rs ρ w [] (fun vs=>K (tupV vs) w)
 | _=>False
end Go.Ann

namespace Go.Ann
open Go
section
variable {P:Program} {w:World} {K:Value→World→Prop}
def Done(P:Program)(s:Sem Next)(w:World)(K:Value→World→Prop):Prop :=
 (∃ v w',s.run P w=.ok (.value v) w'∧K v w')∨(∃ w',s.run P w=.ok .skip w'∧K undef w') ∨
 (∃ f args w',s.run P w=.ok (.enter f args) w'∧Calls P f args w' (fun e w''=>∃ v,e=.returned v∧K v w''))
def DoneY(P:Program)(s:Sem Next)(w:World)(K:Value→World→Prop):Prop :=
 Done P s w K∨∃ l f tmps assign body w',s.run P w=.ok (.round l f tmps assign body) w'∧RoundIn Fence.wide 0 P l f tmps assign body w' fun e w''=>∃ v,e=.returned v∧K v w''
theorem Done.val{s:Sem Value}{v:Value}{w':World}(h:s.run P w=.ok v w')(hk:K v w'):Done P (do pure (.value (← s))) w K:=by
 refine .inl ⟨v,w',?_,hk⟩
 simp only [Sem.run_bind,h,Result.andThen]; rfl
theorem Done.now{v:Value}(hk:K v w):Done P (pure (.value v)) w K:=.inl ⟨v,w,rfl,hk⟩
theorem pvW_out{pv:PV}(h:pvW pv w K):∃ ob v,pv=some (ob,v)∧ob∧K v w:=by
 unfold pvW at h
 split at h
 ·exact ⟨_,_,rfl,h.1,h.2⟩
 ·exact h.elim
theorem un1_out{f:Value→PV}{o:Option Value}{ob:Prop}{v:Value}(h:un1 f o=some (ob,v)):∃ x,o=some x∧f x=some (ob,v):=by
 cases o with
 | none=>cases h
 | some x=>exact ⟨x,rfl,h⟩
theorem bin2_out{f:Value→Value→PV}{o o':Option Value}{ob:Prop}{v:Value}(h:bin2 f o o'=some (ob,v)):∃ x y,o=some x∧o'=some y∧f x y=some (ob,v):=by
 cases o with
 | none=>cases h
 | some x=>cases o' with
  | none=>cases h
  | some y=>exact ⟨x,y,rfl,rfl,h⟩
theorem mvW_out{o:Option Value}(h:mvW o w K):∃ v,o=some v∧K v w:=by
 unfold mvW at h
 split at h
 ·exact ⟨_,rfl,h⟩
 ·exact h.elim
theorem un1W_out{f:Value→Prop}{o:Option Value}(h:un1W f o):∃ v,o=some v∧f v:=by
 cases o with
 | none=>exact h.elim
 | some v=>exact ⟨v,rfl,h⟩
theorem ls1W_out{f:List Value→Prop}{o:Option (List Value)}(h:ls1W f o):∃ v,o=some v∧f v:=by
 cases o with
 | none=>exact h.elim
 | some v=>exact ⟨v,rfl,h⟩
theorem ptrW_out{f:Addr→Prop}{o:Option Value}(h:ptrW f o):∃ p,o=some (.pointer (some p))∧f p:=by
 unfold ptrW at h
 split at h
 ·exact ⟨_,rfl,h⟩
 ·exact h.elim
theorem evs_map{ρ:Env}{a:Operand→Value}(ha:∀ x v,ev ρ x=some v→a x=v):∀ {xs:List Operand} {vs:List Value},evs ρ xs=some vs→xs.map a=vs
 | [],vs,h=>by simp only [evs,Option.some.injEq] at h; subst h; rfl
 | x::r,vs,h=>by
  simp only [evs] at h
  split at h
  ·rename_i v us hv hus
   simp only [Option.some.injEq] at h; subst h
   rw [List.map_cons,ha _ _ hv,evs_map ha hus]
  ·cases h
theorem evs_map'{ρ:Env}{a:Operand→Value}(ha:∀ x v,ev ρ x=some v→a x=v){xs:Array Operand}{vs:List Value}(h:evs ρ xs.toList=some vs):xs.map a=vs.toArray:=by
 have:=evs_map ha h
 rw [← Array.toList_map] at this
 rw [← this]
theorem run_loadVar_cells{t:TypeId}{p:Addr}{cs:List Value}{d:TypeDesc}(hu:P.underlying t=some d)(ha:isAggT P t=true)(hs:sizeT P t=some cs.length)(hc:cellsAt w p cs) :
  (loadVar t p).run P w=.ok (.agg cs.toArray) w:=by
 unfold sizeT at hs
 split at hs
 ·rename_i i hi
  simp only [Option.some.injEq] at hs
  simp only [loadVar,Sem.run_bind,run_isAgg w hu,Result.andThen,ha,if_true,run_sizeOf w hi,hs,run_loadCells_list w p cs hc]; rfl
 ·cases hs
theorem run_loadVar_one{t:TypeId}{p:Addr}{v:Value}{d:TypeDesc}(hu:P.underlying t=some d)(ha:isAggT P t=false)(hc:w.cell? p=some v) :
  (loadVar t p).run P w=.ok v w:=by
 simp only [loadVar,Sem.run_bind,run_isAgg w hu,Result.andThen,ha,Bool.false_eq_true,if_false,run_load,hc]
theorem tyK_int{t:TypeId}{k:IntKind}(h:tyK P t=.int k):P.underlying t=some (.int k):=by
 unfold tyK at h
 split at h <;> try (cases h; done)
 ·cases h; assumption
 all_goals (split at h <;> cases h)
theorem tyK_str{t:TypeId}(h:tyK P t=.str):P.underlying t=some .string:=by
 unfold tyK at h
 split at h <;> try (cases h; done)
 ·assumption
 all_goals (split at h <;> cases h)
theorem tyK_slice{t e:TypeId}{b:Bool}(h:tyK P t=.slice b e):P.underlying t=some (.slice e)∧isU8 P e=b:=by
 unfold tyK at h
 split at h <;> try (cases h; done)
 ·cases h; exact ⟨by assumption,rfl⟩
 all_goals (split at h <;> cases h)
theorem tyK_agg{t:TypeId}{n:Nat}(h:tyK P t=.agg n):(∃ d,P.underlying t=some d)∧isAggT P t=true∧sizeT P t=some n:=by
 unfold tyK at h
 split at h <;> try (cases h; done)
 all_goals
  rename_i hu
  split at h
  ·cases h; rename_i hn; exact ⟨⟨_,hu⟩,by simp [isAggT,isTy,hu],hn⟩
  ·cases h
theorem tyK_one{t:TypeId}(h1:∀ n,tyK P t≠.agg n)(h2:tyK P t≠.none):(∃ d,P.underlying t=some d)∧isAggT P t=false:=by
 unfold tyK at h1 h2
 cases hu:P.underlying t with
 | none=>rw [hu] at h2; exact (h2 rfl).elim
 | some d =>
  refine ⟨⟨d,rfl⟩,?_⟩
  rw [hu] at h1 h2
  cases d <;> simp [isAggT,isTy,hu]
  all_goals
   simp only at h1 h2
   split at h1
   ·exact h1 _ rfl
   ·rename_i hs; rw [hs] at h2; exact h2 rfl
theorem loadW_out{t:TypeId}{p:Addr}(h:loadW P t p w K):∃ v,(loadVar t p).run P w=.ok v w∧K v w:=by
 unfold loadW at h
 have one:(∀ n,tyK P t≠.agg n)→tyK P t≠.none→∀ v,w.cell? p=some v→K v w→∃ v,(loadVar t p).run P w=.ok v w∧K v w:=by
  intro h1 h2 v hv hk
  obtain ⟨⟨d,hd⟩,ha⟩:=tyK_one h1 h2
  exact ⟨v,run_loadVar_one hd ha hv,hk⟩
 cases hk:tyK P t with
 | none=>rw [hk] at h; exact h.elim
 | agg n =>
  rw [hk] at h
  obtain ⟨cs,h1,h2,h3⟩:=h
  obtain ⟨⟨d,hd⟩,ha,hn⟩:=tyK_agg hk
  exact ⟨_,run_loadVar_cells hd ha (by rw [hn,h2]) h1,h3⟩
 | slice b e =>
  rw [hk] at h
  obtain ⟨_,_,_,h1,h2⟩:=h
  exact one (by rw [hk]; intro n hn; cases hn) (by rw [hk]; intro hn; cases hn) _ h1 h2
 | _ =>
  rw [hk] at h
  obtain ⟨_,h1,h2⟩:=h
  exact one (by rw [hk]; intro n hn; cases hn) (by rw [hk]; intro hn; cases hn) _ h1 h2
theorem cell_setCell_some{w:World}{p q:Addr}{x v:Value}(h:w.cell? q=some v):∃ v',(w.setCell p x).cell? q=some v':=by
 by_cases e:p=q
 ·subst e; exact ⟨x,World.cell?_setCell_same w p x h⟩
 ·exact ⟨v,(World.cell?_setCell_other w p q x e).trans h⟩
theorem run_storeCells_W:∀ (vs:List Value) (i:Nat) (w:World) (p:Addr),(∀ u∈vs,u.oneCell'=true) →
  (∀ j,j<vs.length→(∃ old,w.cell? (p.add (i+j))=some old)∧w.frozen? (p.add (i+j))=false) →
  (storeCells p vs i).run P w=.ok () (setCellsW w p i vs)
 | [],i,w,p,_,_=>rfl
 | v::r,i,w,p,h1,h2=>by
  obtain ⟨⟨old,ho⟩,hf⟩:=h2 0 (by simp)
  simp only [Nat.add_zero] at ho hf
  have hst:(store (p.add i) v).run P w=.ok () (w.setCell (p.add i) v):=by
   rw [run_store P w _ v .plain (h1 v (by simp))]
   simp [ho,hf]
  simp only [storeCells,Sem.run_bind,hst,Result.andThen,setCellsW]
  refine run_storeCells_W r (i+1) _ p (fun u hu=>h1 u (by simp [hu])) fun j hj=>?_
  have:=h2 (j+1) (by simp; omega)
  rw [show i+1+j=i+(j+1) by omega]
  refine ⟨?_,?_⟩
  ·obtain ⟨⟨old',ho'⟩,_⟩:=this
   obtain ⟨v',hv'⟩:=cell_setCell_some (w:=w) (p:=p.add i) (x:=v) (q:=p.add (i+(j+1))) (v:=old') ho'
   exact ⟨_,hv'⟩
  ·rw [World.frozen?_setCell]; exact this.2
theorem storeW_out{t:TypeId}{p:Addr}{v:Value}(h:storeW P t p v w K):∃ w',(Instr.storeAt t (.pointer (some p)) v).run P w=.ok () w'∧K undef w':=by
 obtain ⟨h1,h2,h3,h4⟩:=h
 refine ⟨_,?_,h4⟩
 unfold sizeT at h1
 split at h1
 ·rename_i i hi
  simp only [Option.some.injEq] at h1
  simp only [Instr.storeAt,Instr.sureAddr,Sem.run_bind,Sem.run_pure,Result.andThen,storeVar,run_sizeOf w hi,h1,ne_eq,not_true,if_false]
  exact run_storeCells_W _ 0 w p h2 (fun j hj=>by rw [Nat.zero_add]; exact h3 j (by simpa using hj))
 ·cases h1
theorem isU8_some{t:TypeId}(h:isU8 P t=true):P.underlying t=some (.int .u8):=by
 obtain ⟨d,hd,hp⟩:=ty_of h
 cases d with
 | int k=>cases k <;> first | exact hd | cases hp
 | _=>cases hp
theorem run_mark_new(w:World)(C:Array Value)(e:TypeId):(markStringish ⟨w.heap.size,0,none⟩).run P (w.alloc (.cells C e))=.ok () (w.alloc (.cells C e (C.size,C.size+1))):=by
 have hsh:(w.alloc (.cells C e)).shape? w.heap.size=some (e,C.size):=by
  have:(w.alloc (.cells C e)).heap[w.heap.size]?=some (.cells C e):=by
   show (w.heap.push (.cells C e))[w.heap.size]?=_
   simp
  unfold World.shape?
  rw [this]
 have hfr:∀ (k:Nat),(w.alloc (.cells C e)).freeze ⟨w.heap.size,k,none⟩ 1=w.alloc (.cells C e (k,k+1)):=fun k=>by
  have hm:∀ (a:Array Obj) (x:Obj) (f:Obj→Obj),(a.push x).modify a.size f=a.push (f x):=by
   intro a x f
   apply Array.ext
   ·simp
   ·intro i h1 h2
    simp only [Array.getElem_modify,Array.getElem_push]
    by_cases h:a.size=i
    ·subst h
     simp
    ·have hi:i<a.size:=by simp at h1; omega
     simp [h,hi]
  unfold World.freeze
  rw [if_neg (by decide)]
  show ({ w.alloc (.cells C e) with heap:=(w.heap.push (.cells C e)).modify w.heap.size _ }:World)=_
  rw [hm]
  rfl
 simp only [markStringish,Sem.run_bind,run_shape,hsh,Result.andThen,run_freeze]
 exact congrArg _ (hfr _)
theorem run_convert_bytes{s d e:TypeId}{b:ByteArray}(hs:P.underlying s=some .string)(hd:P.underlying d=some (.slice e))(he:P.underlying e=some (.int .u8)) :
  ∃ c,(toL b).length≤c∧(convert s d (.string b)).run P w=.ok (.slice (some ⟨w.heap.size,0,none⟩) (toL b).length c) (bytesW w (toL b) c e):=by
 refine ⟨grownCap w b.size 0 e,by rw [← size_toL]; exact grownCap_ge w _ _ _,?_⟩
 have hge:=grownCap_ge w b.size 0 e
 have hrow:b.data.map (fun b=>Value.int .u8 b.toNat)++Array.replicate (grownCap w b.size 0 e - b.size) (.int .u8 0)=byteRow (toL b) (grownCap w b.size 0 e):=by
  unfold byteRow
  rw [← size_toL]
  congr 1
  apply Array.toList_inj.1
  simp [toL]
 have hsz:(byteRow (toL b) (grownCap w b.size 0 e)).size=grownCap w b.size 0 e:=by
  rw [← hrow]; simp only [Array.size_append,Array.size_map,Array.size_replicate]
  have:b.data.size=b.size:=rfl
  omega
 have hq:(Question.appendCap b.size 0 e).forced=false:=rfl
 have hmk:=run_mark_new (P:=P) w.drew (byteRow (toL b) (grownCap w b.size 0 e)) e
 rw [hsz] at hmk
 rw [← size_toL]
 simp only [convert,Sem.run_bind,run_underlying hs,run_underlying hd,run_underlying he,Result.andThen,Conv.stringToBytes,run_choose_drew,hq,Bool.false_eq_true,if_false]
 rw [show (Question.appendCap b.size 0 e).cut (w.tape w.drawn (.appendCap b.size 0 e))=grownCap w b.size 0 e from rfl,hrow]
 simp only [newRow,Sem.run_bind,run_newObj_alloc,Result.andThen,Sem.run_pure]
 simp only [World.size_drew] at hmk ⊢
 rw [hmk]
 rfl
theorem convW_out{s d:TypeId}{x:Value}(h:convW P s d x w K):∃ v w',(convert s d x).run P w=.ok v w'∧K v w':=by
 unfold convW at h
 generalize hs:tyK P s=ks at h
 generalize hd:tyK P d=kd at h
 unfold convK at h
 split at h
 ·have hs':=tyK_int hs
  have hd':=tyK_int hd
  rename_i k' n
  have hk:P.intKind d=.i64:=by simp [Program.intKind,hd']
  have hr:=run_convert_int w s d k' n (by rw [hs']; rfl) (by rw [hk]; exact hd')
  rw [hk,wrap_i64 _ h.1] at hr
  exact ⟨_,_,hr,h.2⟩
 ·have hs':=tyK_int hs
  have hd':=tyK_int hd
  rename_i k k' n _
  have hk:P.intKind d=k:=by simp [Program.intKind,hd']
  have hr:=run_convert_int w s d k' n (by rw [hs']; rfl) (by rw [hk]; exact hd')
  rw [hk] at hr
  exact ⟨_,_,hr,h⟩
 ·refine ⟨_,_,?_,h⟩
  simp only [convert,Sem.run_bind,run_underlying (tyK_str hs),run_underlying (tyK_str hd),Result.andThen]; rfl
 ·obtain ⟨hu,h8⟩:=tyK_slice hd
  rename_i e b
  obtain ⟨c,hc,hr⟩:=run_convert_bytes (w:=w) (b:=b) (tyK_str hs) hu (isU8_some h8)
  exact ⟨_,_,hr,h c hc⟩
 ·obtain ⟨hu,h8⟩:=tyK_slice hs
  rename_i e a n c
  obtain ⟨l,hl,hb,hk⟩:=h
  refine ⟨_,_,?_,hk⟩
  rw [run_convert_bytes_string w s d e a n c hu (isU8_some h8) (tyK_str hd)]
  cases a with
  | none =>
   simp only [bytesAt] at hb; subst hb
   rfl
  | some a =>
   have hld:(loadCells a n).run P w=.ok ((l.map fun b=>(b.toNat:Int)).map (Value.int .u8)).toArray w:=by
    subst hl
    have:=run_loadCells_list (P:=P) w a ((l.map fun b=>(b.toNat:Int)).map (Value.int .u8)) (fun j v hj=>by
     simp only [List.getElem?_map,Option.map_eq_some_iff] at hj
     obtain ⟨u,⟨b,hb1,rfl⟩,rfl⟩:=hj
     exact hb j b hb1)
    simpa using this
   rw [run_bytesToString w a n c _ hld,foldl_push_bytes]
   refine congrArg (fun x=>Result.ok (Value.string x) w) (toL_inj ?_)
   simp [toL,ofL,ByteArray.empty,ByteArray.emptyWithCapacity,Function.comp_def]
   rfl
 ·exact h.elim
end
end Go.Ann

namespace Go.Ann
open Go
section
variable {P:Program}
theorem execOp_raw(a:Operand→Value)(o:Oper):execOp a o=execOp a (rawOp o.op o.type):=rfl
theorem raw_done{op:Op}{ty:TypeId}{ρ:Env}{w:World}{K:Value→World→Prop}(h:rawW P op ty ρ w K)(a:Operand→Value)(ha:∀ x v,ev ρ x=some v→a x=v):Done P (execOp a (rawOp op ty)) w K:=by
 obtain ⟨v,w',hr,hk⟩:=h a ha
 exact .inl ⟨v,w',hr,hk⟩
theorem callFunc_run{f:FuncId}(h:goFunc P f=true)(args:Array Value)(w:World):(callFunc f args).run P w=.ok (.enter f args) w:=by
 unfold goFunc at h
 split at h
 ·rename_i fn hf
  simp only [Bool.and_eq_true,Bool.not_eq_true'] at h
  obtain ⟨h1,h2⟩:=h
  obtain ⟨b,hb⟩:=Option.isSome_iff_exists.1 h2
  simp only [callFunc,Sem.run_bind,run_program,Result.andThen,hf,h1,hb,Option.isNone,Bool.false_eq_true,if_false]; rfl
 ·cases h
theorem rawB_done{b:Builtin}{args:Array Operand}{ats:Array TypeId}{ty:TypeId}{w:World}{K:Value→World→Prop}{xs:List Value}
  (h:rawB P b ats ty (args.map isConstO) xs w K) (a:Operand→Value) (hx:args.map a=xs.toArray) :
  Done P (execOp a (rawOp (.call ⟨.builtin b,args,ats⟩) ty)) w K:=by
 obtain ⟨v,w',hr,hk⟩:=h
 refine .inl ⟨v,w',?_,hk⟩
 simp only [execOp,rawOp,resolve,Sem.run_bind,Sem.run_pure,Result.andThen,invoke,hx]
 exact hr
theorem bi_done{b:Builtin}{args:Array Operand}{ats:Array TypeId}{ty:TypeId}{ρ:Env}{w:World}{K:Value→World→Prop}
  (h:ls1W (fun xs=>biW P b ats ty (args.map isConstO) xs w K) (evs ρ args.toList)) (a:Operand→Value) (ha:∀ x v,ev ρ x=some v→a x=v) :
  Done P (execOp a (rawOp (.call ⟨.builtin b,args,ats⟩) ty)) w K:=by
 obtain ⟨xs,hx,h⟩:=ls1W_out h
 have hx:=evs_map' ha hx
 have key:∀ b',b'=b→pvW (biV P b' ats.toList xs) w K→Done P (execOp a (rawOp (.call ⟨.builtin b,args,ats⟩) ty)) w K:=by
  intro b' hb' h'
  subst hb'
  obtain ⟨ob,v,h1,hob,hk⟩:=pvW_out h'
  refine .inl ⟨v,w,?_,hk⟩
  simp only [execOp,rawOp,resolve,Sem.run_bind,Sem.run_pure,Result.andThen,invoke,hx]
  exact biV_sound w (ats:=ats.toList) h1 hob
 unfold biW at h
 split at h
 ·exact rawB_done h a hx
 ·exact key _ rfl h
 ·exact key _ rfl h
 ·exact key _ rfl h
 ·exact rawB_done h a hx
theorem runW_done{s:Sem Value}{w:World}{K:Value→World→Prop}(h:runW P s w K):Done P (do pure (.value (← s))) w K:=by
 obtain ⟨v,w',hr,hk⟩:=h
 exact .val hr hk
theorem runU_done{s:Sem Unit}{w:World}{K:Value→World→Prop}(h:runU P s w K):Done P (do s; pure .skip) w K:=by
 obtain ⟨w',hr,hk⟩:=h
 refine .inr (.inl ⟨w',?_,hk⟩)
 simp only [Sem.run_bind,hr,Result.andThen,Sem.run_pure]
theorem zip_map{ρ:Env}{a:Operand→Value}(ha:∀ x v,ev ρ x=some v→a x=v):∀ {ps:List (Nat × Operand)} {vs:List Value},evs ρ (ps.map (·.2))=some vs→ps.map (fun p=>(p.1,a p.2))=zipP (ps.map (·.1)) vs
 | [],vs,h=>by simp only [List.map_nil,evs,Option.some.injEq] at h; subst h; rfl
 | p::r,vs,h=>by
  simp only [List.map_cons,evs] at h
  split at h
  ·rename_i v us hv hus
   simp only [Option.some.injEq] at h; subst h
   simp only [List.map_cons,zipP]
   rw [ha _ _ hv,zip_map ha hus]
  ·cases h
theorem call_done{f:Operand}{args:Array Operand}{ats:Array TypeId}{ty:TypeId}{ρ:Env}{w:World}{K:Value→World→Prop}
  (h:un1W (fun f=>ls1W (fun xs=>callW P f xs w K) (evs ρ args.toList)) (ev ρ f)) (hn:noYV (ev ρ f)) (a:Operand→Value) (ha:∀ x v,ev ρ x=some v→a x=v) :
  Done P (execOp a (rawOp (.call ⟨.value f,args,ats⟩) ty)) w K:=by
 obtain ⟨fv,hf,h⟩:=un1W_out h
 obtain ⟨xs,hx,h⟩:=ls1W_out h
 unfold callW at h
 split at h
 ·rcases h with ⟨hg,hr⟩ | ⟨_,v,w',hr,hK⟩
  ·rename_i f' first cap
   refine .inr (.inr ⟨f',first++xs.toArray++cap,w,?_,?_⟩)
   ·simp only [execOp,rawOp,resolve,Sem.run_bind,Sem.run_pure,Result.andThen,ha _ _ hf,evs_map' ha hx,Deferred.ofValue,invoke,callFunc_run hg]
   ·unfold Ret at hr
    have e:(first.toList++xs++cap.toList).toArray=first++xs.toArray++cap:=by simp
    rw [e] at hr
    exact hr
  ·rename_i f' first cap _
   refine .inl ⟨v,w',?_,hK⟩
   have e:(first.toList++xs++cap.toList).toArray=first++xs.toArray++cap:=by simp
   rw [e] at hr
   simp only [execOp,rawOp,resolve,Sem.run_bind,Sem.run_pure,Result.andThen,ha _ _ hf,evs_map' ha hx,Deferred.ofValue,invoke]
   exact hr
 ·rw [hf] at hn; exact hn.elim
 ·exact h.elim
theorem yield_done{f:Operand}{args:Array Operand}{ats:Array TypeId}{ty:TypeId}{ρ:Env}{w:World}{K:Value→World→Prop}
  (h:un1W (fun f=>ls1W (fun xs=>callW P f xs w K) (evs ρ args.toList)) (ev ρ f)) (hn:¬ noYV (ev ρ f)) (a:Operand→Value) (ha:∀ x v,ev ρ x=some v→a x=v) :
  DoneY P (execOp a (rawOp (.call ⟨.value f,args,ats⟩) ty)) w K:=by
 obtain ⟨fv,hf,h⟩:=un1W_out h
 obtain ⟨xs,hx,h⟩:=ls1W_out h
 rw [hf] at hn
 unfold callW at h
 split at h
 ·exact (hn trivial).elim
 ·obtain ⟨rfl,rfl,fn,tmps,assign,body,hr,hR⟩:=h
  rename_i l
  refine .inr ⟨l,fn,tmps,assign,body,w,?_,hR⟩
  simp only [execOp,rawOp,resolve,Sem.run_bind,Sem.run_pure,Result.andThen,ha _ _ hf,evs_map' ha hx,Deferred.ofValue,invoke]
  simpa using hr
 ·exact h.elim
theorem opW_done{op:Op}{ty:TypeId}{ρ:Env}{w:World}{K:Value→World→Prop}(h:opW P op ty ρ w K)(hn:noY ρ op)(a:Operand→Value)(ha:∀ x v,ev ρ x=some v→a x=v):Done P (execOp a (rawOp op ty)) w K:=by
 have evo_out:∀ {o:Option Operand} {u:Option Value},evo ρ o=some u→o.map a=u:=by
  intro o u hu
  cases o with
  | none=>simp only [evo,Option.some.injEq] at hu; subst hu; rfl
  | some x =>
   simp only [evo] at hu
   split at hu
   ·rename_i v hv
    simp only [Option.some.injEq] at hu; subst hu
    rw [Option.map_some,ha _ _ hv]
   ·cases hu
 unfold opW at h
 split at h
 ·obtain ⟨v,hv,hk⟩:=mvW_out h
  simp only [execOp,rawOp,ha _ _ hv]; exact .now hk
 ·obtain ⟨v,hv,hk⟩:=mvW_out h
  simp only [execOp,rawOp,ha _ _ hv]; exact .now hk
 ·obtain ⟨v,hv,hk⟩:=mvW_out h
  unfold pickV at hv
  split at hv
  ·rename_i h1
   simp only [execOp,rawOp,ha _ _ h1,asBool,ha _ _ hv]
   exact .inl ⟨v,w,by simp,hk⟩
  ·rename_i h1
   simp only [execOp,rawOp,ha _ _ h1,asBool,ha _ _ hv]
   exact .inl ⟨v,w,by simp,hk⟩
  ·cases hv
 ·obtain ⟨ob,v,h1,hob,hk⟩:=pvW_out h
  obtain ⟨x,y,hx,hy,h1⟩:=bin2_out h1
  simp only [execOp,rawOp,ha _ _ hx,ha _ _ hy]
  exact .val (binV_sound w h1 hob _ _) hk
 ·obtain ⟨ob,v,h1,hob,hk⟩:=pvW_out h
  obtain ⟨x,hx,h1⟩:=un1_out h1
  simp only [execOp,rawOp,ha _ _ hx]
  exact .val (unV_sound w h1 hob) hk
 ·obtain ⟨ob,v,h1,hob,hk⟩:=pvW_out h
  obtain ⟨x,y,hx,hy,h1⟩:=bin2_out h1
  simp only [execOp,rawOp,ha _ _ hx,ha _ _ hy]
  exact .val (indexV_sound w h1 hob) hk
 ·obtain ⟨ob,v,h1,hob,hk⟩:=pvW_out h
  rename_i t x lo hi
  cases hx:ev ρ x with
  | none=>rw [hx] at h1; unfold sliceV at h1; simp at h1
  | some xv=>cases hl:evo ρ lo with
   | none=>rw [hx,hl] at h1; unfold sliceV at h1; simp at h1
   | some lv=>cases hh:evo ρ hi with
    | none=>rw [hx,hl,hh] at h1; unfold sliceV at h1; simp at h1
    | some hv =>
     rw [hx,hl,hh] at h1
     simp only [execOp,rawOp,ha _ _ hx,evo_out hl,evo_out hh,Option.map_none]
     exact .val (sliceV_sound w h1 hob) hk
 ·obtain ⟨ob,v,h1,hob,hk⟩:=pvW_out h
  obtain ⟨x,hx,h1⟩:=un1_out h1
  simp only [execOp,rawOp,ha _ _ hx]
  exact .val (fieldV_sound w h1) hk
 ·obtain ⟨ob,v,h1,hob,hk⟩:=pvW_out h
  obtain ⟨x,hx,h1⟩:=un1_out h1
  simp only [execOp,rawOp,ha _ _ hx]
  exact .val (fieldAddrV_sound w h1) hk
 ·obtain ⟨ob,v,h1,hob,hk⟩:=pvW_out h
  obtain ⟨x,y,hx,hy,h1⟩:=bin2_out h1
  simp only [execOp,rawOp,ha _ _ hx,ha _ _ hy]
  exact .val (indexAddrV_sound w h1 hob) hk
 ·obtain ⟨ob,v,h1,hob,hk⟩:=pvW_out h
  obtain ⟨x,hx,h1⟩:=un1_out h1
  simp only [execOp,rawOp,ha _ _ hx]
  exact .val (extractV_sound w h1) hk
 ·obtain ⟨ob,v,h1,hob,hk⟩:=pvW_out h
  obtain ⟨x,hx,h1⟩:=un1_out h1
  simp only [execOp,rawOp,ha _ _ hx]
  exact .val (ifaceV_sound w h1) hk
 ·obtain ⟨ob,v,h1,hob,hk⟩:=pvW_out h
  obtain ⟨x,hx,h1⟩:=un1_out h1
  unfold nilCheckV at h1
  split at h1
  ·simp only [Option.some.injEq,Prod.mk.injEq] at h1; obtain ⟨rfl,rfl⟩:=h1
   simp only [execOp,rawOp,ha _ _ hx]; exact .now hk
  ·simp only [Option.some.injEq,Prod.mk.injEq] at h1; obtain ⟨rfl,rfl⟩:=h1
   simp only [execOp,rawOp,ha _ _ hx]; exact .now hk
  ·cases h1
 ·obtain ⟨f,hf,h⟩:=ls1W_out h
  obtain ⟨c,hc,hk⟩:=ls1W_out h
  simp only [execOp,rawOp,evs_map' ha hf,evs_map' ha hc]
  exact .val rfl hk
 ·obtain ⟨p,hp,h⟩:=ptrW_out h
  obtain ⟨v,hr,hk⟩:=loadW_out h
  simp only [execOp,rawOp,ha _ _ hp]
  exact .val (by simp only [Instr.loadAt,Instr.sureAddr,Sem.run_bind,Sem.run_pure,Result.andThen,hr]) hk
 ·obtain ⟨p,hp,h⟩:=ptrW_out h
  obtain ⟨v,hv,h⟩:=un1W_out h
  obtain ⟨w',hr,hk⟩:=storeW_out h
  refine .inr (.inl ⟨w',?_,hk⟩)
  simp only [execOp,rawOp,ha _ _ hp,ha _ _ hv,Sem.run_bind,hr,Result.andThen,Sem.run_pure]
 ·obtain ⟨z,hz,hk⟩:=un1W_out h
  unfold zeroT at hz
  split at hz
  ·rename_i i hi
   simp only [execOp,rawOp]
   refine .val (v:=.pointer (some ⟨w.heap.size,0,none⟩)) (w':=w.alloc (.cells z.cells _)) ?_ hk
   simp only [Instr.alloc,zeroValue,typeInfo,Sem.run_bind,run_program,Result.andThen,hi,Sem.run_pure,hz,newVar,newRow,run_newObj_alloc]
  ·cases hz
 ·obtain ⟨z,hz,hk⟩:=un1W_out h
  simp only [execOp,rawOp,ha _ _ hz]
  refine .val (v:=.pointer (some ⟨w.heap.size,0,none⟩)) (w':=w.alloc (.cells z.cells _)) ?_ hk
  simp only [Instr.box,Sem.run_bind,Result.andThen,Sem.run_pure,newVar,newRow,run_newObj_alloc]
 ·obtain ⟨x,hx,h⟩:=un1W_out h
  obtain ⟨v,w',hr,hk⟩:=convW_out h
  simp only [execOp,rawOp,ha _ _ hx]
  exact .val hr hk
 ·obtain ⟨vs,hv,h⟩:=ls1W_out h
  have e:=zip_map ha hv
  rw [← Array.toList_map] at e
  simp only [execOp,rawOp]
  have:=runW_done h
  rw [← e] at this
  exact this
 ·obtain ⟨vs,hv,h⟩:=ls1W_out h
  have e:=zip_map ha hv
  rw [← Array.toList_map] at e
  simp only [execOp,rawOp]
  have:=runW_done h
  rw [← e] at this
  exact this
 ·obtain ⟨l,hl,h⟩:=un1W_out h
  obtain ⟨c,hc,h⟩:=un1W_out h
  simp only [execOp,rawOp,ha _ _ hl,ha _ _ hc]; exact runW_done h
 ·simp only [execOp,rawOp,Option.map_none]; exact runW_done h
 ·obtain ⟨l,hl,h⟩:=un1W_out h
  obtain ⟨c,hc,h⟩:=un1W_out h
  simp only [execOp,rawOp,ha _ _ hl,ha _ _ hc]; exact runW_done h
 ·obtain ⟨l,hl,h⟩:=un1W_out h
  obtain ⟨c,hc,h⟩:=un1W_out h
  obtain ⟨d,hd,h⟩:=un1W_out h
  simp only [execOp,rawOp,ha _ _ hl,ha _ _ hc,ha _ _ hd]; exact runU_done h
 ·obtain ⟨l,hl,h⟩:=un1W_out h
  obtain ⟨c,hc,h⟩:=un1W_out h
  obtain ⟨d,hd,h⟩:=un1W_out h
  simp only [execOp,rawOp,ha _ _ hl,ha _ _ hc,ha _ _ hd]; exact runU_done h
 ·obtain ⟨l,hl,h⟩:=un1W_out h
  simp only [execOp,rawOp,ha _ _ hl]; exact runW_done h
 ·obtain ⟨l,hl,h⟩:=un1W_out h
  simp only [execOp,rawOp,ha _ _ hl]; exact runW_done h
 ·obtain ⟨l,hl,h⟩:=un1W_out h
  simp only [execOp,rawOp,ha _ _ hl]; exact runW_done h
 ·obtain ⟨l,hl,h⟩:=un1W_out h
  simp only [execOp,rawOp,ha _ _ hl]; exact runW_done h
 ·exact bi_done h a ha
 ·exact call_done h hn a ha
 ·exact h.elim
 ·exact raw_done h a ha
theorem opW_doneY{op:Op}{ty:TypeId}{ρ:Env}{w:World}{K:Value→World→Prop}(h:opW P op ty ρ w K)(a:Operand→Value)(ha:∀ x v,ev ρ x=some v→a x=v):DoneY P (execOp a (rawOp op ty)) w K:=by
 by_cases hn:noY ρ op
 ·exact .inl (opW_done h hn a ha)
 ·unfold noY at hn
  split at hn
  ·exact yield_done h hn a ha
  ·exact (hn trivial).elim
theorem exV_out{f:Int→Int→Int}{x y:Value}{ob:Prop}{v:Value}(h:exV f x y=some (ob,v)):∃ k a b,x=.int k a∧y=.int k b∧v=.int k (k.wrap (f a b)):=by
 unfold exV at h
 split at h
 ·split at h
  ·rename_i k a k' b e
   subst e
   simp only [Option.some.injEq,Prod.mk.injEq] at h
   exact ⟨k,a,b,rfl,rfl,h.2.symm⟩
  ·cases h
 ·cases h
theorem opX_doneY{op:Op}{ty:TypeId}{ρ:Env}{w:World}{K:Value→World→Prop}(h:opX P op ty ρ w K)(a:Operand→Value)(ha:∀ x v,ev ρ x=some v→a x=v):DoneY P (execOp a (rawOp op ty)) w K:=by
 have key:∀ (bop:BinOp) (f:Int→Int→Int) (t:TypeId) (x y:Operand) (t2:TypeId),pvW (bin2 (exV f) (ev ρ x) (ev ρ y)) w K →
   (∀ k m n,(binOp bop t (.int k m) (.int k n)).run P w=.ok (.int k (k.wrap (f m n))) w)→DoneY P (execOp a (rawOp (.binOp bop t x y t2) ty)) w K:=by
  intro bop f t x y t2 h hb
  obtain ⟨ob,v,h1,hob,hk⟩:=pvW_out h
  obtain ⟨vx,vy,hx,hy,h1⟩:=bin2_out h1
  obtain ⟨k,m,n,rfl,rfl,rfl⟩:=exV_out h1
  refine .inl ?_
  simp only [execOp,rawOp,ha _ _ hx,ha _ _ hy]
  refine .val ?_ hk
  rw [show eqGuard bop t x y (.int k m) (.int k n)=pure () from eqGuard_at_int ..]
  simpa using hb k m n
 unfold opX at h
 split at h
 ·exact key _ _ _ _ _ _ h fun k m n=>by simp only [binOp_add,Op.intArith]; rfl
 ·exact key _ _ _ _ _ _ h fun k m n=>by simp only [binOp_sub,Op.intArith]; rfl
 ·exact key _ _ _ _ _ _ h fun k m n=>by simp only [binOp_mul,Op.intArith]; rfl
 ·exact opW_doneY h a ha
theorem opX_noDefer{op:Op}{ty:TypeId}{ρ:Env}{w:World}{K:Value→World→Prop}(h:opX P op ty ρ w K):∀ c,op≠.defer c:=by
 rintro c rfl
 exact h
theorem opW_noDefer{op:Op}{ty:TypeId}{ρ:Env}{w:World}{K:Value→World→Prop}(h:opW P op ty ρ w K):∀ c,op≠.defer c:=by
 rintro c rfl
 exact h
end
end Go.Ann

namespace Go.Ann
open Go
section
variable {P:Program} {N:Nat}
theorem Sim.eval{a:Act}{ρ:Env}(h:Sim N a ρ):∀ x v,ev ρ x=some v→a.eval x=v:=by
 intro x v hx
 cases x with
 | tmp n=>exact h.slot n v hx
 | const c=>simp only [ev,Option.some.injEq] at hx; exact hx
 | global g=>simp only [ev,Option.some.injEq] at hx; exact hx
 | func f=>simp only [ev,Option.some.injEq] at hx; exact hx
theorem Sim.put{a:Act}{ρ:Env}(h:Sim N a ρ){d:Option Nat}(hd:okDst N d=true)(v:Value):Sim N (a.put d v) (put ρ d v):=by
 cases d with
 | none=>exact h
 | some d =>
  have hlt:d<N:=by simpa [okDst] using hd
  refine ⟨by simp [Act.put,h.size],h.small,?_,fun n u hu=>?_⟩
  ·show a.defers=_
   rw [h.defers]
   simp only [Ann.put,marksD,if_pos (Nat.lt_of_lt_of_le hlt h.small)]
  simp only [Ann.put,lk_if] at hu
  simp only [Act.put,Array.getD_eq_getD_getElem?,Array.getElem?_setIfInBounds]
  split at hu
  ·rename_i e; subst e
   simp only [Option.some.injEq] at hu; subst hu
   simp [h.size,hlt]
  ·rename_i e
   rw [if_neg e]
   have:=h.slot n u hu
   simpa [Array.getD_eq_getD_getElem?] using this
theorem Sim.low{a:Act}{ρ:Env}(h:Sim N a ρ){s:Nat}{b:Bool}(hs:lk ρ s=some (.bool b)):s<1000000:=by
 rcases Nat.lt_or_ge s 1000000 with h1 | h1
 ·exact h1
 ·have h2:=h.slot _ _ hs
  rw [Array.getD_eq_getD_getElem?,Array.getElem?_eq_none (by rw [h.size]; exact Nat.le_trans h.small h1)] at h2
  cases h2
theorem Sim.know{a:Act}{ρ:Env}(h:Sim N a ρ){s:Nat}{b:Bool}(hs:lk ρ s=some (.bool b)):Sim N a ((s,.bool b)::ρ) :=
 ⟨h.size,h.small,by rw [h.defers]; simp only [marksD,if_pos (h.low hs)],fun n u hu=>by
  simp only [lk_if] at hu
  split at hu
  ·rename_i e; subst e
   simp only [Option.some.injEq] at hu; subst hu
   exact h.slot _ _ hs
  ·exact h.slot n u hu⟩
theorem lk_mkE:∀ (ρ:Env) (n:Nat) (v:Value),1000000≤n→lk (mkE ρ) n=some v→lk ρ n=some v
 | [],_,_,_,h=>h
 | (m,u)::ρ,n,v,hn,h=>by
  simp only [mkE] at h
  split at h
  ·rename_i hm
   rw [lk_if,if_neg (by omega)]
   exact lk_mkE ρ n v hn h
  ·simp only [lk_if] at h ⊢
   split at h
   ·rename_i e; rw [if_pos e]; exact h
   ·rename_i e; rw [if_neg e]; exact lk_mkE ρ n v hn h
theorem mkE_low:∀ (ρ:Env) (n:Nat) (v:Value),lk (mkE ρ) n=some v→1000000≤n
 | [],_,_,h=>by simp [mkE,lk_emp] at h
 | (m,u)::ρ,n,v,h=>by
  simp only [mkE] at h
  split at h
  ·exact mkE_low ρ n v h
  ·rename_i hm
   simp only [lk_if] at h
   split at h
   ·omega
   ·exact mkE_low ρ n v h
theorem lk_restr:∀ (L:List Nat) (ρ:Env) (n:Nat) (v:Value),lk (restr L ρ) n=some v→lk ρ n=some v
 | [],ρ,n,v,h=>lk_mkE ρ n v (mkE_low ρ n v h) h
 | m::L,ρ,n,v,h=>by
  simp only [restr] at h
  split at h
  ·cases hm:lk ρ m with
   | none=>rw [hm] at h; exact lk_restr L ρ n v h
   | some u =>
    rw [hm] at h
    simp only [addK,lk_if] at h
    split at h
    ·rename_i e; subst e; rw [hm]; exact h
    ·exact lk_restr L ρ n v h
  ·exact lk_restr L ρ n v h
theorem marksD_mkE:∀ ρ:Env,marksD (mkE ρ)=marksD ρ
 | []=>rfl
 | (m,v)::ρ=>by
  by_cases h:m<1000000
  ·simp only [mkE,marksD,if_pos h,marksD_mkE ρ]
  ·simp only [mkE,marksD,if_neg h,marksD_mkE ρ]
theorem marksD_restr:∀ (L:List Nat) (ρ:Env),marksD (restr L ρ)=marksD ρ
 | [],ρ=>marksD_mkE ρ
 | m::L,ρ=>by
  simp only [restr]
  split
  ·rename_i hm
   cases lk ρ m with
   | none=>exact marksD_restr L ρ
   | some u=>simp only [addK,marksD,if_pos hm]; exact marksD_restr L ρ
  ·exact marksD_restr L ρ
theorem Sim.restr{a:Act}{ρ:Env}(h:Sim N a ρ)(L:List Nat):Sim N a (restr L ρ) :=
 ⟨h.size,h.small,by rw [h.defers,marksD_restr],fun n v hv=>h.slot n v (lk_restr L ρ n v hv)⟩
def FR(r:Option Nat):Fence:={ Fence.wide with round:=r }
theorem calls_FR{r:Option Nat}{n:Nat}{f:FuncId}{args:Array Value}{w:World}{R:Ending→World→Prop}(h:Calls P f args w R):CallsIn (FR r) n P f args w R:=callsIn_wide.2 h
theorem rows_FR{r:Option Nat}{n:Nat}{row:String}{args:Array Value}{w:World}{R:Value→World→Prop}(h:Rows P row args w R):RowsIn (FR r) n P row args w R:=fun c cs _ =>
 let ⟨v,w',hr,s⟩:=h c cs
 ⟨v,w',hr,stepsIn_wide.2 s⟩
theorem round_FR{r:Option Nat}{n:Nat}{l:Nat}{f:FuncId}{tmps:Array Value}{assign body:Code}{w:World}{R:Ending→World→Prop}(h:RoundIn Fence.wide 0 P l f tmps assign body w R):RoundIn (FR r) n P l f tmps assign body w R :=
 ⟨trivial,fun c cs _=>h.2 c cs (room_wide _)⟩
theorem wpIn_of_wp{r:Option Nat}{n:Nat}{o:Oper}{a:Act}{w:World}{K:Act→World→Prop}{Q:Exit→Act→World→Prop}(hd:noDefer o.op=true)(h:o.wp P a w K Q):o.wpIn (FR r) n P a w K Q:=by
 refine ⟨fun _ _=>trivial,?_⟩
 have e:o.semAt (FR r).round a.eval=execOp a.eval o:=Oper.semAt_eq _ _ _ fun c hc=>by rw [hc] at hd; cases hd
 rw [e]
 unfold Oper.wp at h
 generalize (execOp a.eval o).run P w=x at h ⊢
 cases x with
 | ok y w' =>
  cases y <;> simp only [Oper.upon,Oper.uponIn] at h ⊢
  case enter=>exact ⟨fun e=>(by cases e),calls_FR h⟩
  case row=>exact ⟨fun e=>(by cases e),rows_FR h⟩
  all_goals exact h
 | halt y w'=>cases y <;> simp only [Oper.upon,Oper.uponIn] at h ⊢ <;> exact h
theorem opsIn_of_ops{r:Option Nat}{n:Nat}{l:List Oper}{Q:Exit→Act→World→Prop}(hd:l.all (fun o=>noDefer o.op)=true)(hL:¬ LetsOut Q):∀ (s:List Nat) (a:Act) (w:World),wpOps P l.toArray Q s a w→wpOpsIn (FR r) n P l.toArray Q s a w
 | [],_,_,h=>h
 | i::s,a,w,h=>by
  simp only [wpOps,wpOpsIn] at h ⊢
  cases ho:l.toArray[i]? with
  | none=>rw [ho] at h; exact opsIn_of_ops hd hL s a w h
  | some o =>
   rw [ho] at h
   have hm:o∈l:=List.mem_of_getElem? (by simpa using ho)
   simp only at h ⊢
   split
   ·rename_i hw
    simp only [hw,if_true] at h
    rcases h with h | ⟨_,h⟩
    ·exact Oper.wpIn_mono (fun a w=>opsIn_of_ops hd hL s a w) (wpIn_of_wp (List.all_eq_true.1 hd o hm) h)
    ·exact (hL h).elim
   ·rename_i hw
    simp only [hw] at h
    exact ⟨fun _ _=>trivial,opsIn_of_ops hd hL s _ w h⟩
theorem done_wp{s:Sem Next}{o:Oper}{a:Act}{w:World}{K:Value→World→Prop}{next:Act→World→Prop}{Q:Exit→Act→World→Prop}
  (hs:execOp a.eval o=s) (h:Done P s w K) (hk:∀ v w',K v w'→next (a.put o.dst v) w'):o.wp P a w next Q:=by
 unfold Oper.wp
 rw [hs]
 rcases h with ⟨v,w',hr,hK⟩ | ⟨w',hr,hK⟩ | ⟨f,args,w',hr,hc⟩
 ·rw [hr]; exact hk v w' hK
 ·rw [hr]; exact hk _ w' hK
 ·rw [hr]
  refine Calls.mono hc fun e w'' hh=>?_
  obtain ⟨v,rfl,hv⟩:=hh
  exact hk v w'' hv
theorem done_wpIn{r:Option Nat}{n:Nat}{s:Sem Next}{o:Oper}{a:Act}{w:World}{K:Value→World→Prop}{next:Act→World→Prop}{Q:Exit→Act→World→Prop}
  (hd:∀ c,o.op≠.defer c) (hs:execOp a.eval o=s) (h:DoneY P s w K) (hk:∀ v w',K v w'→next (a.put o.dst v) w'):o.wpIn (FR r) n P a w next Q:=by
 refine ⟨fun _ _=>trivial,?_⟩
 rw [show o.semAt (FR r).round a.eval=s from (Oper.semAt_eq _ _ _ hd).trans hs]
 rcases h with (⟨v,w',hr,hK⟩ | ⟨w',hr,hK⟩ | ⟨f,args,w',hr,hc⟩) | ⟨l,f,tmps,assign,body,w',hr,hR⟩
 ·rw [hr]; exact hk v w' hK
 ·rw [hr]; exact hk _ w' hK
 ·rw [hr]
  refine ⟨fun h=>(by cases h),CallsIn.mono (calls_FR hc) fun e w'' hh=>?_⟩
  obtain ⟨v,rfl,hv⟩:=hh
  exact hk v w'' hv
 ·rw [hr]
  refine ⟨fun h=>(by cases h),RoundIn.mono (round_FR hR) fun e w'' hh=>?_⟩
  obtain ⟨v,rfl,hv⟩:=hh
  exact hk v w'' hv
theorem WX_sound{r:Option Nat}{n:Nat}{ops:List Oper}:∀ (rest:List Oper) (l:List Ins) (L:List Nat) (ρ:Env) (w:World) (Q:Post) (a:Act),
  stripL N ops rest=some l→Sim N a ρ→WX P l L ρ w Q→wpListIn (FR r) n P ops.toArray (liftQ N Q) rest a w
 | [],l,L,ρ,w,Q,a,hl,hsim,h=>by
  simp only [stripL,Option.some.injEq] at hl; subst hl
  exact ⟨_,hsim.restr L,h⟩
 | o::rest,l,L,ρ,w,Q,a,hl,hsim,h=>by
  simp only [stripL] at hl
  split at hl
  case h_2=>cases hl
  rename_i i l' hi hl'
  simp only [Option.some.injEq] at hl; subst hl
  unfold strip1 at hi
  split at hi
  case isFalse=>cases hi
  rename_i hd
  split at hi
  case h_2=>cases hi
  rename_i g hg
  simp only [Option.some.injEq] at hi; subst hi
  cases hgo:o.guard with
  | none =>
   rw [hgo] at hg
   simp only [stripG,Option.some.injEq] at hg; subst hg
   simp only [WX] at h
   refine wpListIn_plain hgo fun K hK=>?_
   refine done_wpIn (opX_noDefer h) (execOp_raw _ _) (opX_doneY h a.eval hsim.eval) fun v w' hv=>?_
   exact hK _ _ (WX_sound rest l' L _ w' Q _ hl' (hsim.put hd v) hv)
  | some jb =>
   obtain ⟨j,b⟩:=jb
   rw [hgo] at hg
   simp only [stripG] at hg
   split at hg
   case h_2=>cases hg
   rename_i s hs
   simp only [Option.some.injEq] at hg; subst hg
   simp only [WX] at h
theorem WL_sound{r:Option Nat}{n:Nat}{ops:List Oper}:∀ (rest:List Oper) (l:List Ins) (L:List Nat) (ρ:Env) (w:World) (Q:Post) (a:Act),
  stripL N ops rest=some l→Sim N a ρ→WL P l L ρ w Q→wpListIn (FR r) n P ops.toArray (liftQ N Q) rest a w
 | [],l,L,ρ,w,Q,a,hl,hsim,h=>by
  simp only [stripL,Option.some.injEq] at hl; subst hl
  exact ⟨_,hsim.restr L,h⟩
 | o::rest,l,L,ρ,w,Q,a,hl,hsim,h=>by
  simp only [stripL] at hl
  split at hl
  case h_2=>cases hl
  rename_i i l' hi hl'
  simp only [Option.some.injEq] at hl; subst hl
  unfold strip1 at hi
  split at hi
  case isFalse=>cases hi
  rename_i hd
  split at hi
  case h_2=>cases hi
  rename_i g hg
  simp only [Option.some.injEq] at hi; subst hi
  cases hgo:o.guard with
  | none =>
   rw [hgo] at hg
   simp only [stripG,Option.some.injEq] at hg; subst hg
   simp only [WL] at h
   refine wpListIn_plain hgo fun K hK=>?_
   refine done_wpIn (opW_noDefer h) (execOp_raw _ _) (opW_doneY h a.eval hsim.eval) fun v w' hv=>?_
   exact hK _ _ (WL_sound rest l' L _ w' Q _ hl' (hsim.put hd v) hv)
  | some jb =>
   obtain ⟨j,b⟩:=jb
   rw [hgo] at hg
   simp only [stripG] at hg
   split at hg
   case h_2=>cases hg
   rename_i s hs
   simp only [Option.some.injEq] at hg; subst hg
   simp only [WL] at h
   have hy:∀ c,lk ρ s=some (.bool c)→yielded ops.toArray a.tmps j=some c:=by
    intro c hc
    have h1:=hsim.slot _ _ hc
    unfold yielded
    simp only [List.getElem?_toArray,hs,Option.bind_some]
    have h2:a.tmps[s]?=some (.bool c):=by
     rw [Array.getD_eq_getD_getElem?] at h1
     cases h3:a.tmps[s]? with
     | none=>rw [h3] at h1; simp [undef] at h1
     | some u=>rw [h3] at h1; simp only [Option.getD_some] at h1; rw [h1]
    rw [h2]
   split at h
   ·rename_i c hc
    refine wpListIn_step fun K hK=>?_
    simp only [Region.wanted,hgo,hy c hc]
    by_cases hcb:c=b
    ·subst hcb
     simp only [beq_self_eq_true,if_true]
     refine done_wpIn (opW_noDefer (h.1 rfl)) (execOp_raw _ _) (opW_doneY (h.1 rfl) a.eval (hsim.know hc).eval) fun v w' hv=>?_
     exact hK _ _ (WL_sound rest l' L _ w' Q _ hl' ((hsim.know hc).put hd v) hv)
    ·have hne:(some c == some b)=false:=by simpa using hcb
     simp only [hne,Bool.false_eq_true,if_false]
     have hcb':c=!b:=by cases c <;> cases b <;> simp_all
     have hc':lk ρ s=some (.bool !b):=by rw [← hcb']; exact hc
     exact ⟨fun _ _=>trivial,hK _ _ (WL_sound rest l' L _ w Q _ hl' ((hsim.know hc').put hd undef) (h.2 hcb'))⟩
   ·rename_i u hc
    refine wpListIn_step fun K hK=>?_
    have hyn:yielded ops.toArray a.tmps j=none:=by
     have h1:=hsim.slot _ _ hc
     unfold yielded
     simp only [List.getElem?_toArray,hs,Option.bind_some]
     rw [Array.getD_eq_getD_getElem?] at h1
     cases h3:a.tmps[s]? with
     | none=>rfl
     | some u=>rw [h3] at h1; simp only [Option.getD_some] at h1; rw [h1]
    simp only [Region.wanted,hgo,hyn]
    have hne:((none:Option Bool) == some b)=false:=rfl
    simp only [hne,Bool.false_eq_true,if_false]
    exact ⟨fun _ _=>trivial,hK _ _ (WL_sound rest l' L _ w Q _ hl' (hsim.put hd undef) h)⟩
   ·exact h.elim
end
end Go.Ann

namespace Go.Ann
open Go
section
variable {P:Program} {N:Nat}
theorem wpOpsIn_mono{r:Option Nat}{n:Nat}{ops:Array Oper}{Q K':Exit→Act→World→Prop}(hq:∀ e a w,Q e a w→K' e a w):∀ (s:List Nat) (a:Act) (w:World),wpOpsIn (FR r) n P ops Q s a w→wpOpsIn (FR r) n P ops K' s a w
 | [],a,w,h=>hq _ _ _ h
 | i::s,a,w,h=>by
  simp only [wpOpsIn] at h ⊢
  cases ho:ops[i]? with
  | none=>rw [ho] at h; exact wpOpsIn_mono hq s a w h
  | some o =>
   rw [ho] at h
   simp only at h ⊢
   split
   ·rename_i hw
    simp only [hw,if_true] at h
    have h1:=Oper.wpIn_mono (fun a w=>wpOpsIn_mono hq s a w) h
    refine ⟨h1.1,?_⟩
    have h2:=h1.2
    generalize (o.semAt (FR r).round a.eval).run P w=x at h2 ⊢
    cases x with
    | ok y w' =>
     cases y <;> simp only [Oper.uponIn] at h2 ⊢
     case enter=>exact ⟨h2.1,CallsIn.mono h2.2 fun e w'' he=>by
      cases e with
      | returned v=>exact he
      | panicked c=>exact hq _ _ _ he
      | outgrown=>obtain ⟨a0,w0,he⟩:=he; exact ⟨a0,w0,hq _ _ _ he⟩⟩
     case round=>exact ⟨h2.1,RoundIn.mono h2.2 fun e w'' he=>by
      cases e with
      | returned v=>exact he
      | panicked c=>exact hq _ _ _ he
      | outgrown=>obtain ⟨a0,w0,he⟩:=he; exact ⟨a0,w0,hq _ _ _ he⟩⟩
     all_goals exact h2
    | halt y w'=>cases y <;> simp only [Oper.uponIn] at h2 ⊢ <;> first | exact hq _ _ _ h2 | exact h2
   ·rename_i hw
    simp only [hw] at h
    exact ⟨h.1,wpOpsIn_mono hq s _ w h.2⟩
theorem W_sound{r:Option Nat}{n:Nat}:∀ (code:Code) (c:Cmd),toCmd N code=some c.erase→(roundOk code=true∨r=none∧n=9)→∀ (ρ:Env) (w:World) (Q:Post) (a:Act),Sim N a ρ→W P c ρ w Q→code.wpIn (FR r) n P (liftQ N Q) a w
 | .skip,c,hc,hr,ρ,w,Q,a,hs,h=>by
  cases c <;> simp [toCmd,Cmd.erase] at hc
  exact wpIn_skip ⟨_,hs.restr _,h⟩
 | .label l,c,hc,hr,ρ,w,Q,a,hs,h=>by
  cases c <;> simp [toCmd,Cmd.erase] at hc
  exact wpIn_label ⟨_,hs.restr _,h⟩
 | .ret,c,hc,hr,ρ,w,Q,a,hs,h=>by
  cases c <;> simp [toCmd,Cmd.erase] at hc
  exact wpIn_ret ⟨ρ,hs,h⟩
 | .exit id,c,hc,hr,ρ,w,Q,a,hs,h=>by
  cases c <;> simp [toCmd,Cmd.erase] at hc
  subst hc
  exact wpIn_exit ⟨_,hs.restr _,h⟩
 | .region id ops false,c,hc,hr,ρ,w,Q,a,hs,h=>by
  simp only [toCmd] at hc
  split at hc
  case h_2=>cases hc
  rename_i l hl
  cases c <;> simp [Cmd.erase] at hc
  ·subst hc
   have:=wpIn_region_list (F:=FR r) (n:=n) (P:=P) (id:=id) (WL_sound (P:=P) (ops:=ops.toList) ops.toList _ _ ρ w Q a hl hs h)
   simpa using this
  ·subst hc
   have:=wpIn_region_list (F:=FR r) (n:=n) (P:=P) (id:=id) (WX_sound (P:=P) (ops:=ops.toList) ops.toList _ _ ρ w Q a hl hs h)
   simpa using this
 | .region id ops true,c,hc,hr,ρ,w,Q,a,hs,h=>by
  simp only [toCmd] at hc
  split at hc
  case isFalse=>cases hc
  rename_i hall
  rw [Bool.and_eq_true] at hall
  cases c <;> simp [Cmd.erase] at hc
  subst hc
  refine wpIn_region_draw fun t=>?_
  have:=(h N a hall.1 hs).elim (fun h=>opsIn_of_ops (r:=r) (n:=n) hall.2 (by rintro ⟨_,_,_,_,e,_⟩; cases e) _ _ _ (h t)) (fun h=>h r n t)
  have:=wpOpsIn_mono (K':=liftQ N Q) (fun e a' w' hh=>by
   obtain ⟨ρ',hs',rfl,hq⟩:=hh
   exact ⟨_,hs'.restr _,hq⟩) _ _ _ this
  simpa using this
 | .seq x y,c,hc,hr,ρ,w,Q,a,hs,h=>by
  simp only [toCmd] at hc
  split at hc
  case h_2=>cases hc
  rename_i cx cy hx hy
  cases c <;> simp [Cmd.erase] at hc
  obtain ⟨rfl,rfl⟩:=hc
  simp only [W] at h
  have hr1:roundOk x=true∨r=none∧n=9:=hr.imp (fun h=>by simp only [roundOk,Bool.and_eq_true] at h; exact h.1) id
  have hr2:roundOk y=true∨r=none∧n=9:=hr.imp (fun h=>by simp only [roundOk,Bool.and_eq_true] at h; exact h.2) id
  refine wpIn_seq (wpIn_mono (W_sound x _ hx hr1 ρ w _ a hs h) fun e a' w' hh=>?_)
  obtain ⟨ρ',hs',hq⟩:=hh
  cases e with
  | normal=>exact W_sound y _ hy hr2 ρ' w' Q a' hs' hq
  | _=>exact ⟨ρ',hs',hq⟩
 | .cond x y z,c,hc,hr,ρ,w,Q,a,hs,h=>by
  simp only [toCmd] at hc
  split at hc
  case h_2=>cases hc
  rename_i cx cy hx hy
  cases c <;> simp [Cmd.erase] at hc
  obtain ⟨rfl,rfl,rfl⟩:=hc
  simp only [W] at h
  have hr1:roundOk y=true∨r=none∧n=9:=hr.imp (fun h=>by simp only [roundOk,Bool.and_eq_true] at h; exact h.1) id
  have hr2:roundOk z=true∨r=none∧n=9:=hr.imp (fun h=>by simp only [roundOk,Bool.and_eq_true] at h; exact h.2) id
  unfold condW at h
  split at h
  ·rename_i t ht
   exact wpIn_cond_split (hs.eval _ _ ht) (fun e=>W_sound y _ hx hr1 ρ w Q a hs (h.1 e)) (fun e=>W_sound z _ hy hr2 ρ w Q a hs (h.2 e))
  ·exact h.elim
 | .block id x,c,hc,hr,ρ,w,Q,a,hs,h=>by
  simp only [toCmd] at hc
  split at hc
  case h_2=>cases hc
  rename_i cx hx
  cases c <;> simp [Cmd.erase] at hc
  obtain ⟨rfl,rfl⟩:=hc
  simp only [W] at h
  refine wpIn_block (wpIn_mono (W_sound x _ hx hr ρ w _ a hs h) fun e a' w' hh=>?_)
  obtain ⟨ρ',hs',hq⟩:=hh
  cases e with
  | exit j =>
   simp only [blockQ] at hq
   simp only [Exit.inBlock]
   split at hq
   ·rename_i e; rw [if_pos e]; exact ⟨ρ',hs',hq⟩
   ·rename_i e; rw [if_neg e]; exact ⟨ρ',hs',hq⟩
  | _=>exact ⟨ρ',hs',hq⟩
 | .scope x,c,hc,hr,ρ,w,Q,a,hs,h=>by
  simp only [toCmd] at hc
  split at hc
  case h_2=>cases hc
  rename_i cx hx
  cases c <;> simp [Cmd.erase] at hc
  subst hc
  simp only [W] at h
  rcases hr with hr | ⟨rfl,rfl⟩
  ·cases hr
  refine wpIn_wide.2 (wp_scope_straight (wpIn_wide.1 (wpIn_mono (W_sound (r:=none) (n:=9) x _ hx (.inr ⟨rfl,rfl⟩) ρ w _ a hs h) fun e a' w' hh=>?_)))
  obtain ⟨ρ',hs',hq⟩:=hh
  cases e with
  | goto l=>exact hq
  | _=>exact ⟨ρ',hs',hq⟩
 | .loop x,c,hc,hr,ρ,w,Q,a,hs,h=>by
  simp only [toCmd] at hc
  split at hc
  case h_2=>cases hc
  rename_i cx hx
  cases c <;> simp [Cmd.erase] at hc
  subst hc
  simp only [W] at h
  obtain ⟨I,⟨n0,hI⟩,hround⟩:=h
  have hex:∀ (a:Act) (w:World),(∃ n ρ,Sim N a ρ∧I n ρ w)→∃ n,(∃ ρ,Sim N a ρ∧I n ρ w)∧∀ m,(∃ ρ,Sim N a ρ∧I m ρ w)→n≤m:=by
   intro a w ⟨n,hn⟩
   induction n using Nat.strongRecOn with
   | _ n ih =>
    by_cases hlt:∃ m,m<n∧∃ ρ,Sim N a ρ∧I m ρ w
    ·obtain ⟨m,hm,hh⟩:=hlt
     exact ih m hm hh
    ·refine ⟨n,hn,fun m hm=>?_⟩
     rcases Nat.lt_or_ge m n with hmn | hmn
     ·exact (hlt ⟨m,hmn,hm⟩).elim
     ·exact hmn
  let μ:Act→World→Nat:=fun a w=>open Classical in if h:∃ n ρ,Sim N a ρ∧I n ρ w then (hex a w h).choose else 0
  have hμ:∀ a w,(∃ n ρ,Sim N a ρ∧I n ρ w)→(∃ ρ,Sim N a ρ∧I (μ a w) ρ w)∧∀ m,(∃ ρ,Sim N a ρ∧I m ρ w)→μ a w≤m:=by
   intro a w h
   simp only [μ,dif_pos h]
   exact (hex a w h).choose_spec
  refine wpIn_loop (fun a w=>∃ n ρ,Sim N a ρ∧I n ρ w) μ ⟨n0,ρ,hs,hI⟩ fun a w hi=>?_
  obtain ⟨⟨ρ',hs',hI'⟩,_⟩:=hμ a w hi
  refine wpIn_mono (W_sound x _ hx hr ρ' w _ a hs' (hround _ ρ' w hI')) fun e a' w' hh=>?_
  obtain ⟨ρ'',hs'',hq⟩:=hh
  cases e with
  | normal =>
   obtain ⟨m,hm,hI''⟩:=hq
   have hi':∃ n ρ,Sim N a' ρ∧I n ρ w':=⟨m,ρ'',hs'',hI''⟩
   exact ⟨hi',Nat.lt_of_le_of_lt ((hμ a' w' hi').2 m ⟨ρ'',hs'',hI''⟩) hm⟩
  | _=>exact ⟨ρ'',hs'',hq⟩
 | .rangeFunc g ps x y,c,hc,hr,ρ,w,Q,a,hs,h=>by
  simp only [toCmd] at hc
  rcases hr with hr | ⟨rfl,rfl⟩
  ·cases hr
  split at hc
  ·rename_i hok
   rw [Bool.and_eq_true,Bool.and_eq_true] at hok
   split at hc
   case h_2=>cases hc
   rename_i cx cy hx hy
   cases c <;> simp [Cmd.erase] at hc
   obtain ⟨rfl,hps,rfl,rfl⟩:=hc
   simp only [W] at h
   have:=h N a x y hx hy hok.1.1 hok.1.2 (fun p hp=>by have:=List.all_eq_true.1 hok.2 p (by rw [hps]; exact hp); simpa using this) hs
   rw [← hps] at this
   rw [Array.toArray_toList] at this
   refine wpIn_mono (show (Code.rangeFunc _ ps x y).wpIn (FR none) 9 P _ a w from this) fun e a' w' hh=>?_
   obtain ⟨ρ',hs',hq⟩:=hh
   cases e with
   | normal=>exact ⟨_,hs'.restr _,hq⟩
   | _=>exact ⟨ρ',hs',hq⟩
  split at hc
  case isFalse=>cases hc
  rename_i hok
  rw [Bool.and_eq_true,Bool.and_eq_true] at hok
  split at hc
  case h_2=>cases hc
  rename_i cx cy hx hy
  cases c <;> simp only [Cmd.erase,Option.some.injEq,reduceCtorEq] at hc
  injection hc with h1 h2 h3 h4
  have h4':=fun l=>congrFun h4 l
  subst h1 h3
  simp only [W] at h
  have:=h N a x y hx (fun l=>by rw [hy,h4' l]) hok.1.1 hok.1.2 (fun p hp=>by have:=List.all_eq_true.1 hok.2 p (by rw [h2]; exact hp); simpa using this) hs
  rw [← h2] at this
  rw [Array.toArray_toList] at this
  refine wpIn_mono (show (Code.rangeFunc _ ps x y).wpIn (FR none) 9 P _ a w from this) fun e a' w' hh=>?_
  obtain ⟨ρ',hs',hq⟩:=hh
  cases e with
  | normal=>exact ⟨_,hs'.restr _,hq⟩
  | _=>exact ⟨ρ',hs',hq⟩
 | .goto ..,c,hc,hr,ρ,w,Q,a,hs,h=>by simp [toCmd] at hc
 | .refuse ..,c,hc,hr,ρ,w,Q,a,hs,h=>by simp [toCmd] at hc
theorem lk_argEnv:∀ (vs:List Value) (i n:Nat) (v:Value),lk (argEnv i vs) n=some v→i≤n∧vs[n - i]?=some v
 | [],_,_,_,h=>by simp [argEnv,lk_emp] at h
 | u::r,i,n,v,h=>by
  simp only [argEnv,lk_if] at h
  split at h
  ·rename_i e; subst e; simpa using h
  ·rename_i e
   obtain ⟨h1,h2⟩:=lk_argEnv r (i+1) n v h
   refine ⟨by omega,?_⟩
   rw [show n - i=(n - (i+1))+1 by omega]
   simpa using h2
theorem marks_argEnv:∀ (vs:List Value) (i:Nat),i+vs.length≤1000000→marksD (argEnv i vs)=[]
 | [],_,_=>rfl
 | v::r,i,h=>by
  simp only [List.length_cons] at h
  simp only [argEnv,marksD,if_pos (show i<1000000 by omega)]
  exact marks_argEnv r (i+1) (by omega)
theorem loadW_fix{t:TypeId}{p:Addr}{w:World}{K:Value→Prop}(h:loadW P t p w (fun v _=>K v)):∃ v,(loadVar t p).run P w=.ok v w∧K v:=loadW_out h
def resF(tmps:Array Value):ResultVar→Sem Value
 | .tmp t=>pure (tmps.getD t undef)
 | .cell b t=>do loadVar t (← asAddr (tmps.getD b undef))
theorem results_eq(fn:Func)(tmps:Array Value):results fn tmps=(do let vs ← fn.results.mapM (resF tmps); pure (if h:vs.size=1 then vs[0] else .tuple vs)):=by
 unfold results
 congr 1
theorem resW_out:∀ (rs:List ResultVar) (ρ:Env) (w:World) (a:Act) (acc:List Value) (K:List Value→Prop),Sim N a ρ→resW P rs ρ w acc K →
  ∃ vs,(rs.mapM (resF a.tmps)).run P w=.ok vs w∧K (acc.reverse++vs)
 | [],ρ,w,a,acc,K,hs,h=>⟨[],rfl,by simpa [resW] using h⟩
 | .tmp t::r,ρ,w,a,acc,K,hs,h=>by
  simp only [resW] at h
  obtain ⟨v,hv,h⟩:=un1W_out h
  obtain ⟨vs,h1,h2⟩:=resW_out r ρ w a (v::acc) K hs h
  refine ⟨v::vs,?_,by simpa using h2⟩
  simp only [List.mapM_cons,resF,Sem.run_bind,Sem.run_pure,Result.andThen,hs.slot _ _ hv,h1]
 | .cell b t::r,ρ,w,a,acc,K,hs,h=>by
  simp only [resW] at h
  obtain ⟨p,hp,h⟩:=ptrW_out h
  obtain ⟨v,hv,h⟩:=loadW_fix h
  obtain ⟨vs,h1,h2⟩:=resW_out r ρ w a (v::acc) K hs h
  refine ⟨v::vs,?_,by simpa using h2⟩
  simp only [List.mapM_cons,resF,Sem.run_bind,Sem.run_pure,Result.andThen,hs.slot _ _ hp,asAddr,hv,h1]
theorem results_out{fn:Func}{ρ:Env}{w:World}{a:Act}{K:Value→World→Prop}(hs:Sim N a ρ)(h:resW P fn.results.toList ρ w [] (fun vs=>K (tupV vs) w)) :
  ∃ v,(results fn a.tmps).run P w=.ok v w∧K v w:=by
 obtain ⟨vs,h1,h2⟩:=resW_out _ ρ w a [] _ hs h
 refine ⟨tupV vs,?_,by simpa using h2⟩
 rw [results_eq,Array.mapM_eq_mapM_toList,map_eq_pure_bind]
 simp only [Sem.run_bind,h1,Result.andThen,Sem.run_pure]
 congr 1
 match vs with
 | []=>rfl
 | [v]=>rfl
 | u::v::r=>rw [dif_neg (by simp)]; rfl
theorem leaves_marks{fn:Func}{a:Act}{ρ:Env}{R:Ending→World→Prop}{K:Value→World→Prop}(hs:Sim N a ρ)(hR:∀ v w,K v w→R (.returned v) w):∀ (ds:List Nat) (w:World),
  shutW ds w (fun w=>resW P fn.results.toList ρ w [] fun vs=>K (tupV vs) w)→LeavesInM Fence.wide 9 P fn a.tmps R (markDefs ds) .returning w
 | [],w,h=>by
  obtain ⟨v,h1,h2⟩:=results_out hs h
  exact ⟨v,h1,hR v w h2⟩
 | D::ds,w,h=>by
  obtain ⟨hD,h⟩:=h
  exact ⟨(by intro e; cases e),.inl ⟨D,_,rfl,run_takeDeferred hD,leaves_marks hs hR ds _ h⟩⟩
theorem Ret_of_W{f:FuncId}{fn:Func}{code:Code}{c:Cmd}{args:List Value}{w:World}{K:Value→World→Prop}
  (hf:P.funcs[f]?=some fn) (hb:fn.body=some code) (hc:toCmd fn.ntmps code=some c.erase) (hn:args.length≤fn.ntmps∧fn.ntmps≤1000000)
  (h:W P c (argEnv 0 args) w (finQ P fn.results.toList K)):Ret P f args w K:=by
 refine callsIn_wide.1 (callsIn_of_wp_marks (F:=Fence.wide) (n:=9) hf hb trivial (wpIn_mono (W_sound (r:=none) (n:=9) code c hc (.inr ⟨rfl,rfl⟩) _ w _ _ (N:=fn.ntmps) ⟨by simp; omega,hn.2,?_,fun n v hv=>?_⟩ h) fun e a' w' hh=>?_))
 ·show ([]:List Deferred)=_
  rw [marks_argEnv args 0 (by omega)]; rfl
 ·obtain ⟨_,hv⟩:=lk_argEnv args 0 n v hv
  simp only [Nat.sub_zero] at hv
  have hlt:n<args.length:=(List.getElem?_eq_some_iff.1 hv).1
  rw [Array.getD_eq_getD_getElem?,Array.getElem?_append_left (by simpa using hlt)]
  simp [hv]
 ·obtain ⟨ρ',hs,hq⟩:=hh
  have key:shutW (marksD ρ') w' (fun w=>resW P fn.results.toList ρ' w [] fun vs=>K (tupV vs) w)→LeavesInM Fence.wide 9 P fn a'.tmps (fun e w'=>∃ v,e=.returned v∧K v w') a'.defers .returning w':=fun hq=>by
   rw [hs.defers]
   exact leaves_marks hs (fun v w h=>⟨v,rfl,h⟩) _ w' hq
  cases e with
  | normal=>exact key hq
  | ret=>exact key hq
  | _=>exact hq.elim
end
end Go.Ann

namespace Go.Ann
open Go
section
variable {P:Program} {w:World} {K:Value→World→Prop} {ρ:Env} {Q:Post} {r:List Ins} {L:List Nat} {d:Option Nat} {ty:TypeId}
def Kn(P:Program)(r:List Ins)(L:List Nat)(ρ:Env)(d:Option Nat)(Q:Post):Value→World→Prop:=fun v w=>WL P r L (put ρ d v) w Q
def thenQ(P:Program)(b:Cmd)(Q:Post):Post:=fun e ρ w =>
 match e with
 | .normal=>W P b ρ w Q
 | e=>Q e ρ w
def gD(P:Program)(o:Option Value)(s:Nat)(b:Bool)(d:Option Nat)(op:Op)(ty:TypeId)(r:List Ins)(L:List Nat)(ρ:Env)(w:World)(Q:Post):Prop :=
 match o with
 | some (.bool c)=>(c=b→opW P op ty ((s,.bool b)::ρ) w (Kn P r L ((s,.bool b)::ρ) d Q))∧(c=!b→WL P r L (put ((s,.bool !b)::ρ) d undef) w Q)
 | some (.tuple _)=>WL P r L (put ρ d undef) w Q
 | _=>False
def condD(P:Program)(o:Option Value)(a b:Cmd)(ρ:Env)(w:World)(Q:Post):Prop :=
 match o with
 | some (.bool c)=>(c=true→W P a ρ w Q)∧(c=false→W P b ρ w Q)
 | _=>False
def cvD(P:Program)(s t:TypeId)(o:Option Value)(w:World)(K:Value→World→Prop):Prop:=un1W (fun x=>convW P s t x w K) o
def ldD(P:Program)(t:TypeId)(o:Option Value)(w:World)(K:Value→World→Prop):Prop:=ptrW (fun p=>loadW P t p w K) o
def stD(P:Program)(t:TypeId)(o o':Option Value)(w:World)(K:Value→World→Prop):Prop:=ptrW (fun p=>un1W (fun v=>storeW P t p v w K) o') o
def clD(P:Program)(o:Option Value)(os:Option (List Value))(w:World)(K:Value→World→Prop):Prop:=un1W (fun f=>ls1W (fun xs=>callW P f xs w K) os) o
def biD(P:Program)(b:Builtin)(ats:Array TypeId)(ty:TypeId)(cs:Array Bool)(os:Option (List Value))(w:World)(K:Value→World→Prop):Prop:=ls1W (fun xs=>biW P b ats ty cs xs w K) os
def bxD(t:TypeId)(o:Option Value)(w:World)(K:Value→World→Prop):Prop:=un1W (fun z=>K (.pointer (some ⟨w.heap.size,0,none⟩)) (w.alloc (.cells z.cells t))) o
def mfD(fn:Fn)(o o':Option (List Value))(w:World)(K:Value→World→Prop):Prop:=ls1W (fun f=>ls1W (fun c=>K (.func fn f.toArray c.toArray) w) o') o
def bdW(P:Program)(t:TypeId)(is:List Nat)(vs:List Value)(w:World)(K:Value→World→Prop):Prop:=runW P (Instr.build t (zipP is vs).toArray) w K
def bsW(P:Program)(t:TypeId)(n:Nat)(is:List Nat)(vs:List Value)(w:World)(K:Value→World→Prop):Prop:=runW P (Instr.buildSlice t n (zipP is vs).toArray) w K
def msW(P:Program)(t:TypeId)(l c:Value)(w:World)(K:Value→World→Prop):Prop:=runW P (Instr.makeSlice t l c) w K
def mmW(P:Program)(t:TypeId)(w:World)(K:Value→World→Prop):Prop:=runW P (Instr.makeMap t none) w K
def luW(P:Program)(t:TypeId)(m k:Value)(ok:Bool)(w:World)(K:Value→World→Prop):Prop:=runW P (Instr.lookup t m k ok) w K
def muW(P:Program)(t:TypeId)(m k v:Value)(w:World)(K:Value→World→Prop):Prop:=runU P (Instr.mapUpdate t m k v) w K
def rgW(P:Program)(t:TypeId)(x:Value)(w:World)(K:Value→World→Prop):Prop:=runW P (Instr.range t x) w K
def nxW(P:Program)(x:Value)(b:Bool)(ty:TypeId)(w:World)(K:Value→World→Prop):Prop:=runW P (Instr.next x b ty) w K
def enW(P:Program)(x:Value)(w:World)(K:Value→World→Prop):Prop:=runW P (Instr.entry x) w K
def taW(P:Program)(x:Value)(xt t:TypeId)(ok:Bool)(w:World)(K:Value→World→Prop):Prop:=runW P (Instr.typeAssert x xt t ok) w K
def k1(f:Value→World→(Value→World→Prop)→Prop)(o:Option Value)(w:World)(K:Value→World→Prop):Prop:=un1W (fun x=>f x w K) o
def k2(f:Value→Value→World→(Value→World→Prop)→Prop)(o o':Option Value)(w:World)(K:Value→World→Prop):Prop:=un1W (fun x=>un1W (fun y=>f x y w K) o') o
def k3(f:Value→Value→Value→World→(Value→World→Prop)→Prop)(o o' o'':Option Value)(w:World)(K:Value→World→Prop):Prop:=un1W (fun x=>un1W (fun y=>un1W (fun z=>f x y z w K) o'') o') o
def kl(f:List Value→World→(Value→World→Prop)→Prop)(o:Option (List Value))(w:World)(K:Value→World→Prop):Prop:=ls1W (fun x=>f x w K) o
def rtD(P:Program)(o:Option Value)(rs:List ResultVar)(ρ:Env)(w:World)(acc:List Value)(F:List Value→Prop):Prop:=un1W (fun v=>resW P rs ρ w (v::acc) F) o
def rcD(P:Program)(t:TypeId)(o:Option Value)(rs:List ResultVar)(ρ:Env)(w:World)(acc:List Value)(F:List Value→Prop):Prop:=ptrW (fun p=>loadW P t p w (fun v _=>resW P rs ρ w (v::acc) F)) o
theorem WL_nil:WL P [] L ρ w Q=Q .normal (restr L ρ) w:=(rfl)
theorem WL_cons{op:Op}:WL P (⟨d,op,ty,none⟩::r) L ρ w Q=opW P op ty ρ w (Kn P r L ρ d Q):=(rfl)
theorem WL_guard{op:Op}{s:Nat}{b:Bool}:WL P (⟨d,op,ty,some (s,b)⟩::r) L ρ w Q=gD P (lk ρ s) s b d op ty r L ρ w Q:=by
 simp only [WL,gD]; rfl
theorem Kn_app{v:Value}:Kn P r L ρ d Q v w=WL P r L (put ρ d v) w Q:=(rfl)
section
variable {op:Op} {s:Nat} {b c:Bool}
theorem gD_t:gD P (some (.bool true)) s true d op ty r L ρ w Q=opW P op ty ((s,.bool true)::ρ) w (Kn P r L ((s,.bool true)::ρ) d Q):=by simp [gD]
theorem gD_f:gD P (some (.bool false)) s false d op ty r L ρ w Q=opW P op ty ((s,.bool false)::ρ) w (Kn P r L ((s,.bool false)::ρ) d Q):=by simp [gD]
theorem gD_tf:gD P (some (.bool true)) s false d op ty r L ρ w Q=WL P r L (put ((s,.bool true)::ρ) d undef) w Q:=by simp [gD]
theorem gD_ft:gD P (some (.bool false)) s true d op ty r L ρ w Q=WL P r L (put ((s,.bool false)::ρ) d undef) w Q:=by simp [gD]
theorem gD_gen:gD P (some (.bool c)) s b d op ty r L ρ w Q=((c=b→opW P op ty ((s,.bool b)::ρ) w (Kn P r L ((s,.bool b)::ρ) d Q))∧(c=!b→WL P r L (put ((s,.bool !b)::ρ) d undef) w Q)):=(rfl)
theorem gD_undef:gD P (some undef) s b d op ty r L ρ w Q=WL P r L (put ρ d undef) w Q:=(rfl)
end
def sg(f:Unit→Cmd):Cmd:=f ()
theorem W_sg{f:Unit→Cmd}:W P (sg f) ρ w Q=W P (f ()) ρ w Q:=(rfl)
theorem W_skip:W P (.skip L) ρ w Q=Q .normal (restr L ρ) w:=(rfl)
theorem W_opsX{l:List Ins}:W P (.opsX l L) ρ w Q=WX P l L ρ w Q:=(rfl)
theorem W_ops{l:List Ins}:W P (.ops l L) ρ w Q=WL P l L ρ w Q:=(rfl)
theorem W_draw{l:List Oper}:W P (.draw l L) ρ w Q=drawW P l L ρ w Q:=(rfl)
theorem W_seq{a b:Cmd}:W P (.seq a b) ρ w Q=W P a ρ w (thenQ P b Q):=(rfl)
theorem W_cond{x:Operand}{a b:Cmd}:W P (.cond x a b) ρ w Q=condD P (ev ρ x) a b ρ w Q:=by
 (simp only [W,condD,condW]) <;> rfl
theorem W_block{id:Nat}{a:Cmd}:W P (.block id a) ρ w Q=W P a ρ w (blockQ id Q):=(rfl)
theorem W_exit{id:Nat}:W P (.exit id L) ρ w Q=Q (.exit id) (restr L ρ) w:=(rfl)
theorem W_scope{a:Cmd}:W P (.scope a) ρ w Q=W P a ρ w (scopeQ Q):=(rfl)
theorem W_ret:W P .ret ρ w Q=Q .ret ρ w:=(rfl)
theorem thenQ_normal{b:Cmd}:thenQ P b Q .normal ρ w=W P b ρ w Q:=(rfl)
theorem thenQ_exit{b:Cmd}{i:Nat}:thenQ P b Q (.exit i) ρ w=Q (.exit i) ρ w:=(rfl)
theorem thenQ_ret{b:Cmd}:thenQ P b Q .ret ρ w=Q .ret ρ w:=(rfl)
theorem blockQ_normal{id:Nat}:blockQ id Q .normal ρ w=Q .normal ρ w:=(rfl)
theorem blockQ_ret{id:Nat}:blockQ id Q .ret ρ w=Q .ret ρ w:=(rfl)
theorem blockQ_exit{id j:Nat}:blockQ id Q (.exit j) ρ w=if j=id then Q .normal ρ w else Q (.exit j) ρ w:=(rfl)
theorem scopeQ_normal:scopeQ Q .normal ρ w=Q .normal ρ w:=(rfl)
theorem scopeQ_ret:scopeQ Q .ret ρ w=Q .ret ρ w:=(rfl)
theorem scopeQ_exit{j:Nat}:scopeQ Q (.exit j) ρ w=Q (.exit j) ρ w:=(rfl)
theorem condD_t{a b:Cmd}:condD P (some (.bool true)) a b ρ w Q=W P a ρ w Q:=by simp [condD]
theorem condD_f{a b:Cmd}:condD P (some (.bool false)) a b ρ w Q=W P b ρ w Q:=by simp [condD]
theorem condD_gen{a b:Cmd}{c:Bool}:condD P (some (.bool c)) a b ρ w Q=((c=true→W P a ρ w Q)∧(c=false→W P b ρ w Q)):=(rfl)
theorem cvD_some{s t:TypeId}{v:Value}:cvD P s t (some v) w K=convW P s t v w K:=(rfl)
theorem ldD_some{t:TypeId}{p:Addr}:ldD P t (some (.pointer (some p))) w K=loadW P t p w K:=(rfl)
theorem stD_some{t:TypeId}{p:Addr}{v:Value}:stD P t (some (.pointer (some p))) (some v) w K=storeW P t p v w K:=(rfl)
theorem clD_some{v:Value}{vs:List Value}:clD P (some v) (some vs) w K=callW P v vs w K:=(rfl)
theorem biD_some{b:Builtin}{ats:Array TypeId}{cs:Array Bool}{vs:List Value}:biD P b ats ty cs (some vs) w K=biW P b ats ty cs vs w K:=(rfl)
theorem bxD_some{t:TypeId}{v:Value}:bxD t (some v) w K=K (.pointer (some ⟨w.heap.size,0,none⟩)) (w.alloc (.cells v.cells t)):=(rfl)
theorem mfD_some{fn:Fn}{vs us:List Value}:mfD fn (some vs) (some us) w K=K (.func fn vs.toArray us.toArray) w:=(rfl)
theorem rtD_some{v:Value}{rs:List ResultVar}{acc:List Value}{F:List Value→Prop}:rtD P (some v) rs ρ w acc F=resW P rs ρ w (v::acc) F:=(rfl)
theorem rcD_some{t:TypeId}{p:Addr}{rs:List ResultVar}{acc:List Value}{F:List Value→Prop}:rcD P t (some (.pointer (some p))) rs ρ w acc F=loadW P t p w (fun v _=>resW P rs ρ w (v::acc) F):=(rfl)
theorem finQ_normal{rs:List ResultVar}:finQ P rs K .normal ρ w=shutW (marksD ρ) w fun w=>resW P rs ρ w [] (fun vs=>K (tupV vs) w):=(rfl)
theorem finQ_ret{rs:List ResultVar}:finQ P rs K .ret ρ w=shutW (marksD ρ) w fun w=>resW P rs ρ w [] (fun vs=>K (tupV vs) w):=(rfl)
theorem shutW_nil{k:World→Prop}:shutW [] w k=k w:=(rfl)
theorem shutW_cons{D:Nat}{l:List Nat}{k:World→Prop}:shutW (D::l) w k=(w.heap[D]?=some (.deferred (some []))∧shutW l (w.putObj D (.deferred none)) k):=(rfl)
theorem marksD_nil:marksD []=[]:=rfl
theorem marksD_cons{m:Nat}{v:Value}:marksD ((m,v)::ρ)=if m<1000000 then marksD ρ else (m - 1000000)::marksD ρ:=rfl
theorem mkE_nil:mkE []=[]:=rfl
theorem mkE_cons{m:Nat}{v:Value}:mkE ((m,v)::ρ)=if m<1000000 then mkE ρ else (m,v)::mkE ρ:=rfl
theorem mark_nlt{D:Nat}:(D+1000000<1000000)=False:=by simp
theorem resW_nil{acc:List Value}{F:List Value→Prop}:resW P [] ρ w acc F=F acc.reverse:=(rfl)
theorem resW_tmp{t:Nat}{rs:List ResultVar}{acc:List Value}{F:List Value→Prop}:resW P (.tmp t::rs) ρ w acc F=rtD P (lk ρ t) rs ρ w acc F:=(rfl)
theorem resW_cell{a t:Nat}{rs:List ResultVar}{acc:List Value}{F:List Value→Prop}:resW P (.cell a t::rs) ρ w acc F=rcD P t (lk ρ a) rs ρ w acc F:=(rfl)
theorem tupV_one{v:Value}:tupV [v]=v:=(rfl)
theorem tupV_two{v u:Value}:tupV [v,u]=.tuple #[v,u]:=(rfl)
theorem tupV_three{v u x:Value}:tupV [v,u,x]=.tuple #[v,u,x]:=(rfl)
theorem tupV_four{v u x y:Value}:tupV [v,u,x,y]=.tuple #[v,u,x,y]:=(rfl)
theorem tupV_nil:tupV []=.tuple #[]:=(rfl)
theorem un1W_some{f:Value→Prop}{v:Value}:un1W f (some v)=f v:=(rfl)
theorem ls1W_some{f:List Value→Prop}{v:List Value}:ls1W f (some v)=f v:=(rfl)
theorem ptrW_some{f:Addr→Prop}{p:Addr}:ptrW f (some (.pointer (some p)))=f p:=(rfl)
theorem opW_move{x:Operand}:opW P (.move x) ty ρ w K=mvW (ev ρ x) w K:=(rfl)
theorem opW_assign{x:Operand}:opW P (.assign x) ty ρ w K=mvW (ev ρ x) w K:=(rfl)
theorem opW_pick{c a b:Operand}:opW P (.pick c a b) ty ρ w K=mvW (pickV (ev ρ c) (ev ρ a) (ev ρ b)) w K:=(rfl)
theorem opW_bin{op:BinOp}{t t':TypeId}{x y:Operand}:opW P (.binOp op t x y t') ty ρ w K=pvW (bin2 (binV P op t) (ev ρ x) (ev ρ y)) w K:=(rfl)
theorem opW_un{op:UnOp}{t:TypeId}{x:Operand}:opW P (.unOp op t x) ty ρ w K=pvW (un1 (unV op) (ev ρ x)) w K:=(rfl)
theorem opW_index{t:TypeId}{x i:Operand}:opW P (.index t x i) ty ρ w K=pvW (bin2 (indexV P t) (ev ρ x) (ev ρ i)) w K:=(rfl)
theorem opW_slice{t:TypeId}{x:Operand}{lo hi:Option Operand}:opW P (.slice t x lo hi none) ty ρ w K=pvW (sliceV P t (ev ρ x) (evo ρ lo) (evo ρ hi)) w K:=(rfl)
theorem opW_field{t:TypeId}{x:Operand}{f:Nat}:opW P (.field t x f) ty ρ w K=pvW (un1 (fieldV P t f) (ev ρ x)) w K:=(rfl)
theorem opW_fieldAddr{t:TypeId}{x:Operand}{f:Nat}:opW P (.fieldAddr t x f) ty ρ w K=pvW (un1 (fieldAddrV P t f) (ev ρ x)) w K:=(rfl)
theorem opW_indexAddr{t:TypeId}{x i:Operand}:opW P (.indexAddr t x i) ty ρ w K=pvW (bin2 (indexAddrV P t) (ev ρ x) (ev ρ i)) w K:=(rfl)
theorem opW_extract{x:Operand}{k:Nat}:opW P (.extract x k) ty ρ w K=pvW (un1 (extractV k) (ev ρ x)) w K:=(rfl)
theorem opW_iface{t:TypeId}{x:Operand}:opW P (.makeInterface t x) ty ρ w K=pvW (un1 (ifaceV P t) (ev ρ x)) w K:=(rfl)
theorem opW_nilCheck{x:Operand}:opW P (.nilCheck x) ty ρ w K=pvW (un1 nilCheckV (ev ρ x)) w K:=(rfl)
theorem opW_makeFunc{fn:Fn}{first cap:Array Operand}:opW P (.makeFunc fn first cap) ty ρ w K=mfD fn (evs ρ first.toList) (evs ρ cap.toList) w K:=(rfl)
theorem opW_load{t:TypeId}{a:Operand}:opW P (.load t a) ty ρ w K=ldD P t (ev ρ a) w K:=(rfl)
theorem opW_store{t:TypeId}{a v:Operand}:opW P (.store t a v) ty ρ w K=stD P t (ev ρ a) (ev ρ v) w K:=(rfl)
theorem opW_alloc{t:TypeId}:opW P (.alloc t) ty ρ w K=bxD t (zeroT P t) w K:=(rfl)
theorem opW_box{t:TypeId}{v:Operand}:opW P (.box t v) ty ρ w K=bxD t (ev ρ v) w K:=(rfl)
theorem opW_conv{s t:TypeId}{x:Operand}:opW P (.convert s t x) ty ρ w K=cvD P s t (ev ρ x) w K:=(rfl)
theorem opW_build{t:TypeId}{parts:Array (Nat × Operand)}:opW P (.build t parts) ty ρ w K=kl (bdW P t (parts.toList.map (·.1))) (evs ρ (parts.toList.map (·.2))) w K:=(rfl)
theorem opW_buildSlice{t:TypeId}{n:Nat}{parts:Array (Nat × Operand)}:opW P (.buildSlice t n parts) ty ρ w K=kl (bsW P t n (parts.toList.map (·.1))) (evs ρ (parts.toList.map (·.2))) w K:=(rfl)
theorem opW_makeSlice{t:TypeId}{l c:Operand}:opW P (.makeSlice t l c) ty ρ w K=k2 (msW P t) (ev ρ l) (ev ρ c) w K:=(rfl)
theorem opW_makeMap{t:TypeId}:opW P (.makeMap t none) ty ρ w K=mmW P t w K:=(rfl)
theorem opW_lookup{t:TypeId}{m k:Operand}{ok:Bool}:opW P (.lookup t m k ok) ty ρ w K=k2 (fun m k=>luW P t m k ok) (ev ρ m) (ev ρ k) w K:=(rfl)
theorem opW_mapUpdate{t:TypeId}{m k v:Operand}:opW P (.mapUpdate t m k v) ty ρ w K=k3 (muW P t) (ev ρ m) (ev ρ k) (ev ρ v) w K:=(rfl)
theorem opW_insert{t:TypeId}{m k v:Operand}:opW P (.insert t m k v) ty ρ w K=k3 (muW P t) (ev ρ m) (ev ρ k) (ev ρ v) w K:=(rfl)
theorem opW_range{t:TypeId}{x:Operand}:opW P (.range t x) ty ρ w K=k1 (rgW P t) (ev ρ x) w K:=(rfl)
theorem opW_next{x:Operand}{b:Bool}:opW P (.next x b) ty ρ w K=k1 (fun it=>nxW P it b ty) (ev ρ x) w K:=(rfl)
theorem opW_entry{x:Operand}:opW P (.entry x) ty ρ w K=k1 (enW P) (ev ρ x) w K:=(rfl)
theorem opW_typeAssert{x:Operand}{xt t:TypeId}{ok:Bool}:opW P (.typeAssert x xt t ok) ty ρ w K=k1 (fun x=>taW P x xt t ok) (ev ρ x) w K:=(rfl)
theorem opW_bi{b:Builtin}{args:Array Operand}{ats:Array TypeId}:opW P (.call ⟨.builtin b,args,ats⟩) ty ρ w K=biD P b ats ty (args.map isConstO) (evs ρ args.toList) w K:=(rfl)
theorem opW_call{f:Operand}{args:Array Operand}{ats:Array TypeId}:opW P (.call ⟨.value f,args,ats⟩) ty ρ w K=clD P (ev ρ f) (evs ρ args.toList) w K:=(rfl)
theorem k1_some{f:Value→World→(Value→World→Prop)→Prop}{v:Value}:k1 f (some v) w K=f v w K:=(rfl)
theorem k2_some{f:Value→Value→World→(Value→World→Prop)→Prop}{v u:Value}:k2 f (some v) (some u) w K=f v u w K:=(rfl)
theorem k3_some{f:Value→Value→Value→World→(Value→World→Prop)→Prop}{v u x:Value}:k3 f (some v) (some u) (some x) w K=f v u x w K:=(rfl)
theorem kl_some{f:List Value→World→(Value→World→Prop)→Prop}{v:List Value}:kl f (some v) w K=f v w K:=(rfl)
theorem mvW_some{v:Value}:mvW (some v) w K=K v w:=(rfl)
theorem pvW_some{ob:Prop}{v:Value}:pvW (some (ob,v)) w K=(ob∧K v w):=(rfl)
theorem un1_some{f:Value→PV}{x:Value}:un1 f (some x)=f x:=rfl
theorem bin2_some{f:Value→Value→PV}{x y:Value}:bin2 f (some x) (some y)=f x y:=rfl
theorem pickV_true{a b:Option Value}:pickV (some (.bool true)) a b=a:=rfl
theorem pickV_false{a b:Option Value}:pickV (some (.bool false)) a b=b:=rfl
def sel(b:Bool)(v:Value)(ρ:Env)(n:Nat):Option Value:=match b with
 | true=>some v
 | false=>lk ρ n
theorem sel_true{v:Value}{n:Nat}:sel true v ρ n=some v:=rfl
theorem sel_false{v:Value}{n:Nat}:sel false v ρ n=lk ρ n:=rfl
theorem lk_cons{m n:Nat}{v:Value}:lk ((m,v)::ρ) n=sel (m == n) v ρ n:=by
 simp only [lk]; cases m == n <;> rfl
theorem ev_tmp{n:Nat}:ev ρ (.tmp n)=lk ρ n:=rfl
theorem ev_const{v:Value}:ev ρ (.const v)=some v:=rfl
theorem ev_func{f:FuncId}:ev ρ (.func f)=some (.func (.func f) #[] #[]):=rfl
theorem ev_global{g:Nat}:ev ρ (.global g)=some (.pointer (some ⟨g,0,none⟩)):=rfl
def consO:Option Value→Option (List Value)→Option (List Value)
 | some v,some vs=>some (v::vs)
 | _,_=>none
theorem evs_nil:evs ρ []=some []:=rfl
theorem evs_cons{x:Operand}{xs:List Operand}:evs ρ (x::xs)=consO (ev ρ x) (evs ρ xs):=by
 simp only [evs]; cases ev ρ x <;> cases evs ρ xs <;> rfl
theorem consO_some{v:Value}{vs:List Value}:consO (some v) (some vs)=some (v::vs):=rfl
def someO:Option Value→Option (Option Value)
 | some v=>some (some v)
 | none=>none
theorem evo_none:evo ρ none=some none:=rfl
theorem evo_some{x:Operand}:evo ρ (some x)=someO (ev ρ x):=by simp only [evo]; cases ev ρ x <;> rfl
theorem someO_some{v:Value}:someO (some v)=some (some v):=rfl
theorem put_some{n:Nat}{v:Value}:put ρ (some n) v=(n,v)::ρ:=rfl
theorem put_none{v:Value}:put ρ none v=ρ:=rfl
theorem restr_nil:restr [] ρ=mkE ρ:=rfl
theorem restr_cons{n:Nat}{l:List Nat}:restr (n::l) ρ=if n<1000000 then addK n (lk ρ n) (restr l ρ) else restr l ρ:=rfl
theorem addK_some{n:Nat}{v:Value}{e:Env}:addK n (some v) e=(n,v)::e:=rfl
theorem addK_none{n:Nat}{e:Env}:addK n none e=e:=rfl
theorem lk_nil{n:Nat}:lk [] n=none:=rfl
end
section
variable {P:Program} {w:World} {K:Value→World→Prop} {t t':TypeId}
theorem bV_add_i64{a b:Int}:binV P .add t (.int .i64 a) (.int .i64 b)=some (I64 (a+b),.int .i64 (a+b)):=rfl
theorem bV_sub_i64{a b:Int}:binV P .sub t (.int .i64 a) (.int .i64 b)=some (I64 (a - b),.int .i64 (a - b)):=rfl
theorem bV_mul_i64{a b:Int}:binV P .mul t (.int .i64 a) (.int .i64 b)=some (I64 (a * b),.int .i64 (a * b)):=rfl
theorem bV_quo_i64{a b:Int}:binV P .quo t (.int .i64 a) (.int .i64 b)=some (b≠0∧b ≠ -1∧I64 a,.int .i64 (a.tdiv b)):=rfl
theorem bV_add_u8{a b:Int}:binV P .add t (.int .u8 a) (.int .u8 b)=some (True,.int .u8 (IntKind.u8.wrap (a+b))):=rfl
theorem bV_sub_u8{a b:Int}:binV P .sub t (.int .u8 a) (.int .u8 b)=some (True,.int .u8 (IntKind.u8.wrap (a - b))):=rfl
theorem bV_mul_u8{a b:Int}:binV P .mul t (.int .u8 a) (.int .u8 b)=some (True,.int .u8 (IntKind.u8.wrap (a * b))):=rfl
theorem bV_quo_u8{a b:Int}:binV P .quo t (.int .u8 a) (.int .u8 b)=some (b≠0,.int .u8 (IntKind.u8.wrap (a.tdiv b))):=rfl
theorem bV_add_u32{a b:Int}:binV P .add t (.int .u32 a) (.int .u32 b)=some (True,.int .u32 (IntKind.u32.wrap (a+b))):=rfl
theorem bV_sub_u32{a b:Int}:binV P .sub t (.int .u32 a) (.int .u32 b)=some (True,.int .u32 (IntKind.u32.wrap (a - b))):=rfl
theorem bV_mul_u32{a b:Int}:binV P .mul t (.int .u32 a) (.int .u32 b)=some (True,.int .u32 (IntKind.u32.wrap (a * b))):=rfl
theorem bV_quo_u32{a b:Int}:binV P .quo t (.int .u32 a) (.int .u32 b)=some (b≠0,.int .u32 (IntKind.u32.wrap (a.tdiv b))):=rfl
theorem bV_add_u64{a b:Int}:binV P .add t (.int .u64 a) (.int .u64 b)=some (True,.int .u64 (IntKind.u64.wrap (a+b))):=rfl
theorem bV_sub_u64{a b:Int}:binV P .sub t (.int .u64 a) (.int .u64 b)=some (True,.int .u64 (IntKind.u64.wrap (a - b))):=rfl
theorem bV_mul_u64{a b:Int}:binV P .mul t (.int .u64 a) (.int .u64 b)=some (True,.int .u64 (IntKind.u64.wrap (a * b))):=rfl
theorem bV_quo_u64{a b:Int}:binV P .quo t (.int .u64 a) (.int .u64 b)=some (b≠0,.int .u64 (IntKind.u64.wrap (a.tdiv b))):=rfl
theorem bV_rem{k:IntKind}{a b:Int}:binV P .rem t (.int k a) (.int k b)=some (b≠0,.int k (a.tmod b)):=by simp [binV,intV]
theorem bV_and{k:IntKind}{a b:Int}:binV P .and t (.int k a) (.int k b)=some (True,.int k (bits .and k a b)):=by simp [binV,intV]
theorem bV_or{k:IntKind}{a b:Int}:binV P .or t (.int k a) (.int k b)=some (True,.int k (bits .or k a b)):=by simp [binV,intV]
theorem bV_xor{k:IntKind}{a b:Int}:binV P .xor t (.int k a) (.int k b)=some (True,.int k (bits .xor k a b)):=by simp [binV,intV]
theorem bV_andNot{k:IntKind}{a b:Int}:binV P .andNot t (.int k a) (.int k b)=some (True,.int k (bits .andNot k a b)):=by simp [binV,intV]
theorem bV_shl{k k':IntKind}{a b:Int}:binV P .shl t (.int k a) (.int k' b)=some (0≤b,.int k (k.wrap (a * 2 ^ min b.toNat k.bits))):=rfl
theorem bV_shr{k k':IntKind}{a b:Int}:binV P .shr t (.int k a) (.int k' b)=some (0≤b,.int k (a / 2 ^ min b.toNat k.bits)):=rfl
theorem bV_eql{k:IntKind}{a b:Int}:binV P .eql t (.int k a) (.int k b)=some (True,.bool (decide (a=b))):=by simp [binV,intV]
theorem bV_neq{k:IntKind}{a b:Int}:binV P .neq t (.int k a) (.int k b)=some (True,.bool (decide (a≠b))):=by simp [binV,intV]
theorem bV_lss{k:IntKind}{a b:Int}:binV P .lss t (.int k a) (.int k b)=some (True,.bool (decide (a<b))):=by simp [binV,intV]
theorem bV_leq{k:IntKind}{a b:Int}:binV P .leq t (.int k a) (.int k b)=some (True,.bool (decide (a≤b))):=by simp [binV,intV]
theorem bV_gtr{k:IntKind}{a b:Int}:binV P .gtr t (.int k a) (.int k b)=some (True,.bool (decide (b<a))):=by simp [binV,intV]
theorem bV_geq{k:IntKind}{a b:Int}:binV P .geq t (.int k a) (.int k b)=some (True,.bool (decide (b≤a))):=by simp [binV,intV]
theorem bV_sadd{a b:ByteArray}:binV P .add t (.string a) (.string b)=some (((toL a).length:Int)+(toL b).length≤9223372036854775807,.string (ofL (toL a++toL b))):=rfl
theorem bV_seql{a b:ByteArray}:binV P .eql t (.string a) (.string b)=some (True,.bool (decide (toL a=toL b))):=rfl
theorem bV_sneq{a b:ByteArray}:binV P .neq t (.string a) (.string b)=some (True,.bool (decide (toL a≠toL b))):=rfl
theorem bV_slss{a b:ByteArray}:binV P .lss t (.string a) (.string b)=some (True,.bool (Op.bytesLess (toL a) (toL b))):=rfl
theorem bV_sleq{a b:ByteArray}:binV P .leq t (.string a) (.string b)=some (True,.bool (Op.bytesLess (toL a) (toL b) || decide (toL a=toL b))):=rfl
theorem bV_sgtr{a b:ByteArray}:binV P .gtr t (.string a) (.string b)=some (True,.bool (!(Op.bytesLess (toL a) (toL b) || decide (toL a=toL b)))):=rfl
theorem bV_sgeq{a b:ByteArray}:binV P .geq t (.string a) (.string b)=some (True,.bool (!(Op.bytesLess (toL a) (toL b)))):=rfl
theorem bV_beql{a b:Bool}:binV P .eql t (.bool a) (.bool b)=if isBoolT P t then some (True,.bool (a == b)) else none:=rfl
theorem bV_bneq{a b:Bool}:binV P .neq t (.bool a) (.bool b)=if isBoolT P t then some (True,.bool (!(a == b))) else none:=by
 simp only [binV,eqV]; split <;> rfl
theorem bV_peql{p:Option Addr}:binV P .eql t (.pointer p) (.pointer none)=if isPtrT P t then some (True,.bool p.isNone) else none:=by
 cases p <;> rfl
theorem bV_pneq{p:Option Addr}:binV P .neq t (.pointer p) (.pointer none)=if isPtrT P t then some (True,.bool (!p.isNone)) else none:=by
 cases p <;> (simp only [binV,eqV]; split <;> rfl)
theorem bV_sleql{a:Option Addr}{n c:Nat}:binV P .eql t (.slice a n c) (.slice none 0 0)=if isSliceT P t then some (True,.bool a.isNone) else none:=rfl
theorem bV_slneq{a:Option Addr}{n c:Nat}:binV P .neq t (.slice a n c) (.slice none 0 0)=if isSliceT P t then some (True,.bool (!a.isNone)) else none:=by
 simp only [binV,eqV]; split <;> rfl
theorem bV_feql{f:Fn}{a c:Array Value}:binV P .eql t (.func f a c) .nilFunc=if isFuncT P t then some (True,.bool false) else none:=rfl
theorem uV_neg_i64{n:Int}:unV .neg (.int .i64 n)=some (True,.int .i64 (IntKind.i64.wrap (0 - n))):=rfl
theorem uV_xor{k:IntKind}{n:Int}:unV .xor (.int k n)=some (True,.int k (bits .xor k (if k.signed then -1 else k.max) n)):=rfl
theorem uV_not{b:Bool}:unV .not (.bool b)=some (True,.bool (!b)):=rfl
theorem iV_str{s:ByteArray}{k:IntKind}{j:Int}:indexV P t (.string s) (.int k j)=if isStrT P t then some (0≤j∧j<((toL s).length:Int),.int .u8 (bN (toL s) j)) else none:=(rfl)
def mapPV(o:Option Nat)(f:Nat→Prop × Value):PV:=match o with | some x=>some (f x) | none=>none
theorem mapPV_some{x:Nat}{f:Nat→Prop × Value}:mapPV (some x) f=some (f x):=rfl
theorem iaV_sl{a:Addr}{n c:Nat}{k:IntKind}{j:Int}:indexAddrV P t (.slice (some a) n c) (.int k j)=mapPV (sliI P t) fun size=>(0≤j∧j<(n:Int),.pointer (some (a.add (j.toNat * size)))):=by
 simp only [indexAddrV]; cases sliI P t <;> rfl
def fldPV(o:Option (Nat × Nat × Bool))(f:Nat→Nat→Bool→PV):PV:=match o with | some (a,b,c)=>f a b c | none=>none
theorem fldPV_some{a b:Nat}{c:Bool}{f:Nat→Nat→Bool→PV}:fldPV (some (a,b,c)) f=f a b c:=rfl
theorem iaV_arr{a:Addr}{k:IntKind}{j:Int}:indexAddrV P t (.pointer (some a)) (.int k j)=fldPV (arrI P t) fun n size _=>some (0≤j∧j<(n:Int),.pointer (some (a.add (j.toNat * size)))):=by
 simp only [indexAddrV]; cases arrI P t <;> rfl
theorem fV_agg{cs:Array Value}{f:Nat}:fieldV P t f (.agg cs)=fldPV (fldI P t f) fun off size agg=>toPV (partV off size agg cs):=by
 unfold fieldV
 rcases fldI P t f with _ | ⟨off,size,agg⟩ <;> rfl
theorem faV_ptr{a:Addr}{f:Nat}:fieldAddrV P t f (.pointer (some a))=fldPV (fldI P t f) fun off size _=>if size=0 then none else some (True,.pointer (some (a.add off))):=by
 unfold fieldAddrV
 rcases fldI P t f with _ | ⟨off,_ | size,agg⟩ <;> rfl
theorem toPV_some'{v:Value}:toPV (some v)=some (True,v):=rfl
theorem partV_agg{off size:Nat}{cs:Array Value}:partV off size true cs=some (.agg (cs.extract off (off+size))):=rfl
theorem partV_one{off size:Nat}{cs:Array Value}:partV off size false cs=cs[off]?:=rfl
theorem sV_str{s:ByteArray}{lo hi:Option Value}:sliceV P t (some (.string s)) (some lo) (some hi)=if isStrT P t then sliceStrV (toL s) lo hi else none:=(rfl)
def natPV(o:Option Nat)(f:Nat→PV):PV:=match o with | some x=>f x | none=>none
theorem natPV_some{x:Nat}{f:Nat→PV}:natPV (some x) f=f x:=rfl
theorem sV_sl{a:Option Addr}{n c:Nat}{lo hi:Option Value}:sliceV P t (some (.slice a n c)) (some lo) (some hi)=natPV (sliI P t) fun size=>sliceSlV size a n c lo hi:=by
 simp only [sliceV]; cases sliI P t <;> rfl
theorem ssV_nn{l:List UInt8}:sliceStrV l none none=some (True,.string (ofL l)):=rfl
theorem ssV_in{l:List UInt8}{k:IntKind}{i:Int}:sliceStrV l (some (.int k i)) none=some (0≤i∧i≤(l.length:Int),.string (ofL (l.drop i.toNat))):=rfl
theorem ssV_ni{l:List UInt8}{k:IntKind}{i:Int}:sliceStrV l none (some (.int k i))=some (0≤i∧i≤(l.length:Int),.string (ofL (l.take i.toNat))):=rfl
theorem ssV_ii{l:List UInt8}{k k':IntKind}{i j:Int}:sliceStrV l (some (.int k i)) (some (.int k' j))=some (0≤i∧i≤j∧j≤(l.length:Int),.string (ofL (cutL l i j))):=rfl
theorem slV_nn{size:Nat}{a:Option Addr}{n c:Nat}:sliceSlV size a n c none none=some (True,.slice (offA a c 0 size) n c):=rfl
theorem slV_in{size:Nat}{a:Option Addr}{n c:Nat}{k:IntKind}{i:Int}:sliceSlV size a n c (some (.int k i)) none=some (0≤i∧i≤(n:Int),.slice (offA a c i.toNat size) (n - i.toNat) (c - i.toNat)):=rfl
theorem slV_ni{size:Nat}{a:Option Addr}{n c:Nat}{k:IntKind}{j:Int}:sliceSlV size a n c none (some (.int k j))=some (0≤j∧j≤(c:Int),.slice (offA a c 0 size) j.toNat c):=rfl
theorem slV_ii{size:Nat}{a:Option Addr}{n c:Nat}{k k':IntKind}{i j:Int}:sliceSlV size a n c (some (.int k i)) (some (.int k' j))=some (0≤i∧i≤j∧j≤(c:Int),.slice (offA a c i.toNat size) (j.toNat - i.toNat) (c - i.toNat)):=rfl
theorem eV_tuple{vs:Array Value}{k:Nat}:extractV k (.tuple vs)=toPV vs[k]?:=rfl
theorem nV_ptr{a:Addr}:nilCheckV (.pointer (some a))=some (True,.pointer (some a)):=rfl
theorem nV_func{f:FuncId}{a b:Array Value}:nilCheckV (.func (.func f) a b)=some (True,.func (.func f) a b):=rfl
theorem iV_iface{x:Value}:ifaceV P t x=if P.concrete t then some (True,.iface t x) else none:=(rfl)
theorem biW_lens{s:ByteArray}{ty:TypeId}{cs:Array Bool}:biW P .len #[t] ty cs [.string s] w K=pvW (if isStrT P t then some (True,.int .i64 ((toL s).length:Int)) else none) w K:=(rfl)
theorem biW_lensl{a:Option Addr}{n c:Nat}{ty:TypeId}{cs:Array Bool}:biW P .len #[t] ty cs [.slice a n c] w K=pvW (if isSliceT P t then some (True,.int .i64 (n:Int)) else none) w K:=(rfl)
theorem biW_min2{k k':IntKind}{x y:Int}{ats:Array TypeId}{ty:TypeId}{cs:Array Bool}:biW P .min ats ty cs [.int k x,.int k' y] w K=pvW (some (True,.int k (min x y))) w K:=(rfl)
theorem biW_max2{k k':IntKind}{x y:Int}{ats:Array TypeId}{ty:TypeId}{cs:Array Bool}:biW P .max ats ty cs [.int k x,.int k' y] w K=pvW (some (True,.int k (max x y))) w K:=(rfl)
theorem biW_min3{k k' k'':IntKind}{x y z:Int}{ats:Array TypeId}{ty:TypeId}{cs:Array Bool}:biW P .min ats ty cs [.int k x,.int k' y,.int k'' z] w K=pvW (some (True,.int k (min (min x y) z))) w K:=(rfl)
theorem biW_max3{k k' k'':IntKind}{x y z:Int}{ats:Array TypeId}{ty:TypeId}{cs:Array Bool}:biW P .max ats ty cs [.int k x,.int k' y,.int k'' z] w K=pvW (some (True,.int k (max (max x y) z))) w K:=(rfl)
theorem callW_yield{l:Nat}{args:List Value}:callW P (.func (.yield l) #[] #[]) args w K=YieldAt Fence.wide 0 P l args.toArray w (fun e w'=>∃ v,e=.returned v∧K v w'):=by
 simp [callW]
theorem callW_func{f:FuncId}{args:List Value}:callW P (.func (.func f) #[] #[]) args w K=((goFunc P f=true∧Ret P f args w K)∨(goFunc P f=false∧extW P f args w K)):=by
 simp [callW]
theorem loadW_k{p:Addr}:loadW P t p w K=loadK (tyK P t) p w K:=(rfl)
theorem loadK_int{k:IntKind}{p:Addr}:loadK (.int k) p w K=∃ n,w.cell? p=some (.int k n)∧K (.int k n) w:=(rfl)
theorem loadK_bool{p:Addr}:loadK .bool p w K=∃ n,w.cell? p=some (.bool n)∧K (.bool n) w:=(rfl)
theorem loadK_str{p:Addr}:loadK .str p w K=∃ l,w.cell? p=some (.string (ofL l))∧K (.string (ofL l)) w:=(rfl)
theorem loadK_slice{p:Addr}{b:Bool}{e:TypeId}:loadK (.slice b e) p w K=∃ a n c,w.cell? p=some (.slice a n c)∧K (.slice a n c) w:=(rfl)
theorem loadK_ptr{p:Addr}:loadK .ptr p w K=∃ q,w.cell? p=some (.pointer q)∧K (.pointer q) w:=(rfl)
theorem loadK_map{p:Addr}:loadK .map p w K=∃ r,w.cell? p=some (.map r)∧K (.map r) w:=(rfl)
theorem loadK_agg{n:Nat}{p:Addr}:loadK (.agg n) p w K=∃ cs,cellsAt w p cs∧cs.length=n∧K (.agg cs.toArray) w:=(rfl)
theorem loadK_other{p:Addr}:loadK .other p w K=∃ v,w.cell? p=some v∧K v w:=(rfl)
theorem convW_k{s d:TypeId}{x:Value}:convW P s d x w K=convK (tyK P s) (tyK P d) x w K:=(rfl)
theorem convK_i64{k k':IntKind}{n:Int}:convK (.int k) (.int .i64) (.int k' n) w K=(I64 n∧K (.int .i64 n) w):=(rfl)
theorem convK_u8{k k':IntKind}{n:Int}:convK (.int k) (.int .u8) (.int k' n) w K=K (.int .u8 (IntKind.u8.wrap n)) w:=(rfl)
theorem convK_u32{k k':IntKind}{n:Int}:convK (.int k) (.int .u32) (.int k' n) w K=K (.int .u32 (IntKind.u32.wrap n)) w:=(rfl)
theorem convK_u64{k k':IntKind}{n:Int}:convK (.int k) (.int .u64) (.int k' n) w K=K (.int .u64 (IntKind.u64.wrap n)) w:=(rfl)
theorem convK_i32{k k':IntKind}{n:Int}:convK (.int k) (.int .i32) (.int k' n) w K=K (.int .i32 (IntKind.i32.wrap n)) w:=(rfl)
theorem convK_u16{k k':IntKind}{n:Int}:convK (.int k) (.int .u16) (.int k' n) w K=K (.int .u16 (IntKind.u16.wrap n)) w:=(rfl)
theorem convK_ss{b:ByteArray}:convK .str .str (.string b) w K=K (.string b) w:=(rfl)
theorem convK_sb{b:ByteArray}{e:TypeId}:convK .str (.slice true e) (.string b) w K=∀ c,(toL b).length≤c→K (.slice (some ⟨w.heap.size,0,none⟩) (toL b).length c) (bytesW w (toL b) c e):=(rfl)
theorem convK_bs{a:Option Addr}{n c:Nat}{e:TypeId}:convK (.slice true e) .str (.slice a n c) w K=∃ l,l.length=n∧bytesAt w a l∧K (.string (ofL l)) w:=(rfl)
theorem storeW_one{p:Addr}{v:Value}(h:sizeT P t=some 1∧v.oneCell'=true∧(∃ old,w.cell? p=some old)∧w.frozen? p=false∧K undef (w.setCell p v)):storeW P t p v w K:=by
 obtain ⟨h1,h2,h3,h4,h5⟩:=h
 have hc:v.cells=#[v]:=by cases v <;> simp_all [Value.cells,Value.oneCell']
 refine ⟨by rw [hc]; exact h1,by rw [hc]; simpa using h2,?_,?_⟩
 ·rw [hc]; intro i hi
  have:i=0:=by simpa using hi
  subst this
  simpa using ⟨h3,h4⟩
 ·rw [hc]; simpa [setCellsW,Addr.add_zero'] using h5
theorem storeW_eq{p:Addr}{v:Value}(hv:v.oneCell'=true):storeW P t p v w K=(sizeT P t=some 1∧(∃ old,w.cell? p=some old)∧w.frozen? p=false∧K undef (w.setCell p v)):=by
 apply propext
 refine ⟨fun ⟨h1,h2,h3,h4⟩=>?_,fun ⟨h1,h3,h4,h5⟩=>storeW_one ⟨h1,hv,h3,h4,h5⟩⟩
 have hc:v.cells=#[v]:=by cases v <;> simp_all [Value.cells,Value.oneCell']
 rw [hc] at h1 h3 h4
 have:=h3 0 (by simp)
 simp only [Addr.add_zero'] at this
 exact ⟨h1,this.1,this.2,by simpa [setCellsW,Addr.add_zero'] using h4⟩
theorem storeW_int{p:Addr}{k:IntKind}{n:Int}:storeW P t p (.int k n) w K=(sizeT P t=some 1∧(∃ old,w.cell? p=some old)∧w.frozen? p=false∧K undef (w.setCell p (.int k n))):=storeW_eq rfl
theorem storeW_bool{p:Addr}{n:Bool}:storeW P t p (.bool n) w K=(sizeT P t=some 1∧(∃ old,w.cell? p=some old)∧w.frozen? p=false∧K undef (w.setCell p (.bool n))):=storeW_eq rfl
theorem storeW_str{p:Addr}{n:ByteArray}:storeW P t p (.string n) w K=(sizeT P t=some 1∧(∃ old,w.cell? p=some old)∧w.frozen? p=false∧K undef (w.setCell p (.string n))):=storeW_eq rfl
theorem storeW_ptr{p:Addr}{n:Option Addr}:storeW P t p (.pointer n) w K=(sizeT P t=some 1∧(∃ old,w.cell? p=some old)∧w.frozen? p=false∧K undef (w.setCell p (.pointer n))):=storeW_eq rfl
theorem storeW_slice{p:Addr}{a:Option Addr}{n c:Nat}:storeW P t p (.slice a n c) w K=(sizeT P t=some 1∧(∃ old,w.cell? p=some old)∧w.frozen? p=false∧K undef (w.setCell p (.slice a n c))):=storeW_eq rfl
theorem storeW_map{p:Addr}{n:Option Nat}:storeW P t p (.map n) w K=(sizeT P t=some 1∧(∃ old,w.cell? p=some old)∧w.frozen? p=false∧K undef (w.setCell p (.map n))):=storeW_eq rfl
theorem storeW_func{p:Addr}{f:Fn}{a c:Array Value}:storeW P t p (.func f a c) w K=(sizeT P t=some 1∧(∃ old,w.cell? p=some old)∧w.frozen? p=false∧K undef (w.setCell p (.func f a c))):=storeW_eq rfl
theorem storeW_nilFunc{p:Addr}:storeW P t p .nilFunc w K=(sizeT P t=some 1∧(∃ old,w.cell? p=some old)∧w.frozen? p=false∧K undef (w.setCell p .nilFunc)):=storeW_eq rfl
theorem storeW_iface{p:Addr}{d:TypeId}{x:Value}:storeW P t p (.iface d x) w K=(sizeT P t=some 1∧(∃ old,w.cell? p=some old)∧w.frozen? p=false∧K undef (w.setCell p (.iface d x))):=storeW_eq rfl
theorem storeW_nilIface{p:Addr}:storeW P t p .nilIface w K=(sizeT P t=some 1∧(∃ old,w.cell? p=some old)∧w.frozen? p=false∧K undef (w.setCell p .nilIface)):=storeW_eq rfl
def loopS{σ:Type}(env:σ→Env)(R:σ→World→Prop)(μ:σ→Nat)(s:σ)(Q:Post):Post:=fun e ρ w =>
 match e with
 | .normal=>∃ s',ρ=env s'∧R s' w∧μ s'<μ s
 | e=>Q e ρ w
theorem loopS_normal{σ:Type}{env:σ→Env}{R:σ→World→Prop}{μ:σ→Nat}{s:σ}{Q:Post}{ρ:Env}:loopS env R μ s Q .normal ρ w=∃ s',ρ=env s'∧R s' w∧μ s'<μ s:=(rfl)
theorem loopS_exit{σ:Type}{env:σ→Env}{R:σ→World→Prop}{μ:σ→Nat}{s:σ}{Q:Post}{ρ:Env}{j:Nat}:loopS env R μ s Q (.exit j) ρ w=Q (.exit j) ρ w:=(rfl)
theorem loopS_ret{σ:Type}{env:σ→Env}{R:σ→World→Prop}{μ:σ→Nat}{s:σ}{Q:Post}{ρ:Env}:loopS env R μ s Q .ret ρ w=Q .ret ρ w:=(rfl)
theorem W_loop{σ:Type}{c:Cmd}{ρ:Env}{Q:Post}(env:σ→Env)(R:σ→World→Prop)(μ:σ→Nat)(s0:σ)(h0:ρ=env s0)(hR:R s0 w)
  (round:∀ s w,R s w→W P c (env s) w (loopS env R μ s Q)):W P (.loop c) ρ w Q:=by
 show LoopW _ _ _ _
 refine ⟨fun n ρ w=>∃ s,n=μ s∧ρ=env s∧R s w,⟨μ s0,s0,rfl,h0,hR⟩,fun n ρ' w' ⟨s,hn,hρ,hs⟩=>?_⟩
 subst hn hρ
 have:=round s w' hs
 have e:loopS env R μ s Q=(fun e ρ'' w''=>match e with
   | .normal=>∃ m,m<μ s∧∃ s',m=μ s'∧ρ''=env s'∧R s' w''
   | e=>Q e ρ'' w''):=by
  funext e ρ w
  cases e <;> try rfl
  simp only [loopS]
  apply propext
  refine ⟨fun ⟨s',h1,h2,h3⟩=>⟨_,h3,s',rfl,h1,h2⟩,fun ⟨m,hm,s',h1,h2,h3⟩=>⟨s',h2,h3,by omega⟩⟩
 rw [e] at this
 exact this
end
theorem callW_go{P:Program}{w:World}{K:Value→World→Prop}{f:FuncId}{first cap:Array Value}{args:List Value}(h:goFunc P f=true∧Ret P f (first.toList++args++cap.toList) w K):callW P (.func (.func f) first cap) args w K:=.inl h
attribute [go_sem low] gD_gen condD_gen
attribute [go_sem] shutW_nil shutW_cons marksD_nil marksD_cons mkE_nil mkE_cons mark_nlt Nat.add_sub_cancel Nat.reduceLT callW_yield W_sg k1_some k2_some k3_some kl_some loopS_normal loopS_exit loopS_ret gD_t gD_f gD_tf gD_ft gD_undef condD_t condD_f cvD_some ldD_some stD_some clD_some biD_some bxD_some mfD_some rtD_some rcD_some sel_true sel_false WL_nil WL_cons WL_guard Kn_app W_skip W_ops W_draw W_seq W_cond W_block W_exit W_scope W_ret thenQ_normal thenQ_exit thenQ_ret blockQ_normal blockQ_ret blockQ_exit scopeQ_normal scopeQ_ret scopeQ_exit finQ_normal finQ_ret resW_nil resW_tmp resW_cell tupV_one tupV_two tupV_three tupV_four tupV_nil un1W_some ls1W_some ptrW_some opW_move opW_assign opW_pick
attribute [go_sem] opW_bin opW_un opW_index opW_slice opW_field opW_fieldAddr opW_indexAddr opW_extract opW_iface opW_nilCheck opW_makeFunc opW_load opW_store opW_alloc opW_box opW_conv opW_build opW_buildSlice opW_makeSlice opW_makeMap opW_lookup opW_mapUpdate opW_insert opW_range opW_next opW_entry opW_typeAssert opW_bi opW_call mvW_some pvW_some un1_some bin2_some pickV_true pickV_false lk_cons lk_nil
attribute [go_sem] ev_tmp ev_const ev_func ev_global evs_nil evs_cons consO_some evo_none evo_some someO_some put_some put_none restr_nil restr_cons addK_some addK_none bV_add_i64 bV_sub_i64 bV_mul_i64 bV_quo_i64 bV_add_u8 bV_sub_u8 bV_mul_u8 bV_quo_u8 bV_add_u32 bV_sub_u32 bV_mul_u32 bV_quo_u32 bV_add_u64 bV_sub_u64 bV_mul_u64 bV_quo_u64 bV_rem bV_and bV_or bV_xor bV_andNot bV_shl bV_shr bV_eql bV_neq
attribute [go_sem] bV_lss bV_leq bV_gtr bV_geq bV_sadd bV_seql bV_sneq bV_slss bV_sleq bV_sgtr bV_sgeq bV_beql bV_bneq bV_peql bV_pneq bV_sleql bV_slneq bV_feql uV_neg_i64 uV_xor uV_not iV_str mapPV_some iaV_sl fldPV_some iaV_arr fV_agg faV_ptr toPV_some' partV_agg partV_one sV_str natPV_some sV_sl ssV_nn ssV_in ssV_ni ssV_ii slV_nn slV_in slV_ni slV_ii eV_tuple nV_ptr nV_func iV_iface biW_lens biW_lensl
attribute [go_sem] biW_min2 biW_max2 biW_min3 biW_max3 callW_func loadW_k  convW_k convK_i64 convK_u8 convK_u32 convK_u64 convK_i32 convK_u16 convK_ss convK_sb convK_bs storeW_int storeW_bool storeW_str storeW_ptr storeW_slice storeW_map storeW_func storeW_nilFunc storeW_iface storeW_nilIface toL_ofL decide_eq_true_eq
attribute [go_sem] decide_eq_false_iff_not Bool.not_true Bool.not_false Bool.not_eq_true' Bool.not_eq_false' true_and and_true false_and and_false or_false false_or true_implies false_implies implies_true forall_const eq_self Bool.true_eq_false Bool.false_eq_true ne_eq not_true_eq_false not_false_eq_true List.toList_toArray List.reverse_cons List.reverse_nil List.nil_append List.cons_append List.map_cons List.map_nil
attribute [go_sem] Nat.one_ne_zero Nat.zero_ne_one Int.not_lt Int.not_le List.getElem?_toArray List.getElem?_cons_zero List.getElem?_cons_succ Nat.zero_add Option.isNone_some Option.isNone_none
section
variable {P:Program} {w:World} {K:Value→World→Prop} {ρ:Env} {Q:Post} {r:List Ins} {L:List Nat} {d:Option Nat} {ty:TypeId}
def KnX(P:Program)(r:List Ins)(L:List Nat)(ρ:Env)(d:Option Nat)(Q:Post):Value→World→Prop:=fun v w=>WX P r L (put ρ d v) w Q
theorem WX_nil:WX P [] L ρ w Q=Q .normal (restr L ρ) w:=(rfl)
theorem WX_cons{op:Op}:WX P (⟨d,op,ty,none⟩::r) L ρ w Q=opX P op ty ρ w (KnX P r L ρ d Q):=(rfl)
theorem KnX_app{v:Value}:KnX P r L ρ d Q v w=WX P r L (put ρ d v) w Q:=(rfl)
theorem opX_add{t t2:TypeId}{x y:Operand}:opX P (.binOp .add t x y t2) ty ρ w K=pvW (bin2 (exV fun a b=>a+b) (ev ρ x) (ev ρ y)) w K:=(rfl)
theorem opX_sub{t t2:TypeId}{x y:Operand}:opX P (.binOp .sub t x y t2) ty ρ w K=pvW (bin2 (exV fun a b=>a - b) (ev ρ x) (ev ρ y)) w K:=(rfl)
theorem opX_mul{t t2:TypeId}{x y:Operand}:opX P (.binOp .mul t x y t2) ty ρ w K=pvW (bin2 (exV fun a b=>a * b) (ev ρ x) (ev ρ y)) w K:=(rfl)
theorem opX_move{x}:opX P (.move x) ty ρ w K=opW P (.move x) ty ρ w K:=(rfl)
theorem opX_assign{x}:opX P (.assign x) ty ρ w K=opW P (.assign x) ty ρ w K:=(rfl)
theorem opX_pick{x y z}:opX P (.pick x y z) ty ρ w K=opW P (.pick x y z) ty ρ w K:=(rfl)
theorem opX_unOp{o t x}:opX P (.unOp o t x) ty ρ w K=opW P (.unOp o t x) ty ρ w K:=(rfl)
theorem opX_index{t x y}:opX P (.index t x y) ty ρ w K=opW P (.index t x y) ty ρ w K:=(rfl)
theorem opX_field{t x f}:opX P (.field t x f) ty ρ w K=opW P (.field t x f) ty ρ w K:=(rfl)
theorem opX_fieldAddr{t x f}:opX P (.fieldAddr t x f) ty ρ w K=opW P (.fieldAddr t x f) ty ρ w K:=(rfl)
theorem opX_indexAddr{t x y}:opX P (.indexAddr t x y) ty ρ w K=opW P (.indexAddr t x y) ty ρ w K:=(rfl)
theorem opX_extract{x k}:opX P (.extract x k) ty ρ w K=opW P (.extract x k) ty ρ w K:=(rfl)
theorem opX_makeInterface{t x}:opX P (.makeInterface t x) ty ρ w K=opW P (.makeInterface t x) ty ρ w K:=(rfl)
theorem opX_nilCheck{x}:opX P (.nilCheck x) ty ρ w K=opW P (.nilCheck x) ty ρ w K:=(rfl)
theorem opX_load{t x}:opX P (.load t x) ty ρ w K=opW P (.load t x) ty ρ w K:=(rfl)
theorem opX_store{t x y}:opX P (.store t x y) ty ρ w K=opW P (.store t x y) ty ρ w K:=(rfl)
theorem opX_alloc{t}:opX P (.alloc t) ty ρ w K=opW P (.alloc t) ty ρ w K:=(rfl)
theorem opX_box{t x}:opX P (.box t x) ty ρ w K=opW P (.box t x) ty ρ w K:=(rfl)
theorem opX_convert{s d x}:opX P (.convert s d x) ty ρ w K=opW P (.convert s d x) ty ρ w K:=(rfl)
theorem opX_build{t p}:opX P (.build t p) ty ρ w K=opW P (.build t p) ty ρ w K:=(rfl)
theorem opX_buildSlice{t n p}:opX P (.buildSlice t n p) ty ρ w K=opW P (.buildSlice t n p) ty ρ w K:=(rfl)
theorem opX_makeSlice{t x y}:opX P (.makeSlice t x y) ty ρ w K=opW P (.makeSlice t x y) ty ρ w K:=(rfl)
theorem opX_lookup{t x y b}:opX P (.lookup t x y b) ty ρ w K=opW P (.lookup t x y b) ty ρ w K:=(rfl)
theorem opX_mapUpdate{t x y z}:opX P (.mapUpdate t x y z) ty ρ w K=opW P (.mapUpdate t x y z) ty ρ w K:=(rfl)
theorem opX_call{c}:opX P (.call c) ty ρ w K=opW P (.call c) ty ρ w K:=(rfl)
theorem opX_slice{t x lo hi mx}:opX P (.slice t x lo hi mx) ty ρ w K=opW P (.slice t x lo hi mx) ty ρ w K:=(rfl)
theorem opX_beql{t x y t2}:opX P (.binOp .eql t x y t2) ty ρ w K=opW P (.binOp .eql t x y t2) ty ρ w K:=(rfl)
theorem opX_bneq{t x y t2}:opX P (.binOp .neq t x y t2) ty ρ w K=opW P (.binOp .neq t x y t2) ty ρ w K:=(rfl)
theorem opX_blss{t x y t2}:opX P (.binOp .lss t x y t2) ty ρ w K=opW P (.binOp .lss t x y t2) ty ρ w K:=(rfl)
theorem opX_bleq{t x y t2}:opX P (.binOp .leq t x y t2) ty ρ w K=opW P (.binOp .leq t x y t2) ty ρ w K:=(rfl)
theorem opX_bgtr{t x y t2}:opX P (.binOp .gtr t x y t2) ty ρ w K=opW P (.binOp .gtr t x y t2) ty ρ w K:=(rfl)
theorem opX_bgeq{t x y t2}:opX P (.binOp .geq t x y t2) ty ρ w K=opW P (.binOp .geq t x y t2) ty ρ w K:=(rfl)
theorem opX_band{t x y t2}:opX P (.binOp .and t x y t2) ty ρ w K=opW P (.binOp .and t x y t2) ty ρ w K:=(rfl)
theorem opX_bor{t x y t2}:opX P (.binOp .or t x y t2) ty ρ w K=opW P (.binOp .or t x y t2) ty ρ w K:=(rfl)
theorem opX_bxor{t x y t2}:opX P (.binOp .xor t x y t2) ty ρ w K=opW P (.binOp .xor t x y t2) ty ρ w K:=(rfl)
theorem opX_bshl{t x y t2}:opX P (.binOp .shl t x y t2) ty ρ w K=opW P (.binOp .shl t x y t2) ty ρ w K:=(rfl)
theorem opX_bshr{t x y t2}:opX P (.binOp .shr t x y t2) ty ρ w K=opW P (.binOp .shr t x y t2) ty ρ w K:=(rfl)
theorem opX_bquo{t x y t2}:opX P (.binOp .quo t x y t2) ty ρ w K=opW P (.binOp .quo t x y t2) ty ρ w K:=(rfl)
theorem opX_brem{t x y t2}:opX P (.binOp .rem t x y t2) ty ρ w K=opW P (.binOp .rem t x y t2) ty ρ w K:=(rfl)
theorem opX_bandNot{t x y t2}:opX P (.binOp .andNot t x y t2) ty ρ w K=opW P (.binOp .andNot t x y t2) ty ρ w K:=(rfl)
theorem exV_int{f:Int→Int→Int}{k:IntKind}{a b:Int}:exV f (.int k a) (.int k b)=some (True,.int k (k.wrap (f a b))):=by simp [exV]
end
attribute [go_sem] W_opsX WX_nil WX_cons KnX_app opX_add opX_sub opX_mul exV_int opX_move opX_assign opX_pick opX_unOp opX_index opX_field opX_fieldAddr opX_indexAddr opX_extract opX_makeInterface opX_nilCheck opX_load opX_store opX_alloc opX_box opX_convert opX_build opX_buildSlice opX_makeSlice opX_lookup opX_mapUpdate opX_call opX_slice opX_beql opX_bneq opX_blss opX_bleq opX_bgtr opX_bgeq opX_band opX_bor opX_bxor opX_bshl opX_bshr opX_bquo opX_brem opX_bandNot
end Go.Ann

namespace Go.Ann
open Go Go.RowKit
theorem wrap_u64_id(n:Int)(h0:0≤n)(h1:n≤18446744073709551615):IntKind.u64.wrap n=n:=by
 simp [IntKind.wrap,IntKind.bits,IntKind.signed]; omega
theorem wrap_u8_mod(n:Int):IntKind.u8.wrap n=n % 256:=by
 simp [IntKind.wrap,IntKind.bits,IntKind.signed]
theorem wrap_u64_mod(n:Int):IntKind.u64.wrap n=n % 18446744073709551616:=by
 simp [IntKind.wrap,IntKind.bits,IntKind.signed]
theorem below_bytesW(w:World)(l:List UInt8)(c:Nat)(e:TypeId):Below w.heap.size w (bytesW w l c e):=((Below.refl _ _).alloc (Nat.le_refl _) _).drew
@[simp] theorem size_bytesW (w:World) (l:List UInt8) (c:Nat) (e:TypeId):(bytesW w l c e).heap.size=w.heap.size+1:=by simp [bytesW]
theorem heap_bytesW(w:World)(l:List UInt8)(c:Nat)(e:TypeId):(bytesW w l c e).heap[w.heap.size]?=some (.cells (byteRow l c) e (c,c+1)):=by
 show ((w.heap.push _))[w.heap.size]?=_
 simp
theorem cell_bytesW(w:World)(l:List UInt8)(c:Nat)(e:TypeId)(i:Nat)(b:UInt8)(h:l[i]?=some b):(bytesW w l c e).cell? ⟨w.heap.size,i,none⟩=some (.int .u8 b.toNat):=by
 have hlt:=(List.getElem?_eq_some_iff.1 h).1
 simp only [World.cell?,heap_bytesW,Option.isSome,Bool.false_eq_true,if_false]
 unfold byteRow
 rw [Array.getElem?_append_left (by simpa using hlt)]
 simp [h]
theorem frozen_bytesW(w:World)(l:List UInt8)(c:Nat)(e:TypeId)(i:Nat)(h:i<c):(bytesW w l c e).frozen? ⟨w.heap.size,i,none⟩=false:=by
 simp only [World.frozen?,heap_bytesW]
 simp; omega
theorem bN_get(l:List UInt8)(i:Nat)(b:UInt8)(h:l[i]?=some b):bN l (i:Int)=(b.toNat:Int):=by
 unfold bN; rw [Int.toNat_natCast,List.getD_eq_getElem?_getD,h]; rfl
theorem bytesAt_set{w:World}{b o:Nat}{l:List UInt8}{j:Nat}{n:Int}(h:bytesAt w (some ⟨b,o,none⟩) l)(h0:0≤n)(h1:n≤255)(hj:j<l.length) :
  bytesAt (w.setCell ⟨b,o+j,none⟩ (.int .u8 n)) (some ⟨b,o,none⟩) (l.set j (UInt8.ofNat n.toNat)):=by
 intro i c hc
 simp only [Addr.add_lit]
 by_cases hij:j=i
 ·subst hij
  rw [List.getElem?_set_self hj] at hc
  simp only [Option.some.injEq] at hc; subst hc
  have:=h j _ (List.getElem?_eq_getElem hj)
  simp only [Addr.add_lit] at this
  rw [World.cell?_setCell_same _ _ _ this]
  congr 2
  simp; omega
 ·rw [List.getElem?_set_ne hij] at hc
  have:=h i c hc
  simp only [Addr.add_lit] at this
  rw [World.cell?_setCell_other _ _ _ _ (by intro e; simp only [Addr.mk.injEq] at e; omega)]
  exact this
theorem bytesAt_bytesW(w:World)(l:List UInt8)(c:Nat)(e:TypeId):bytesAt (bytesW w l c e) (some ⟨w.heap.size,0,none⟩) l:=by
 intro i b h
 simp only [Addr.add_lit,Nat.zero_add]
 exact cell_bytesW w l c e i b h
end Go.Ann

namespace Go.Ann
open Go Go.RowKit
section
variable {P:Program}
def convIk(s d:TyK)(x:Value)(w:World)(K:Value→World→Prop):Prop :=
 match s,d,x with
 | .int k,.int k',.int k'' n=>convK (.int k) (.int k') (.int k'' n) w K
 | _,_,_=>False
def cvI(P:Program)(s d:TypeId)(o:Option Value)(w:World)(K:Value→World→Prop):Prop:=un1W (fun x=>convIk (tyK P s) (tyK P d) x w K) o
theorem convIk_out{P:Program}{s d:TypeId}{x:Value}{w:World}{K:Value→World→Prop}(h:convIk (tyK P s) (tyK P d) x w K):∃ v,(∀ w',(convert s d x).run P w'=.ok v w')∧K v w:=by
 generalize hs:tyK P s=ks at h
 generalize hd:tyK P d=kd at h
 unfold convIk at h
 split at h
 ·rename_i k k' k'' n
  have hs':=tyK_int hs
  have hd':=tyK_int hd
  have hk:P.intKind d=k':=by simp [Program.intKind,hd']
  have hr:=fun w'=>run_convert_int w' s d k'' n (by rw [hs']; rfl) (by rw [hk]; exact hd')
  rw [hk] at hr
  refine ⟨_,hr,?_⟩
  unfold convK at h
  split at h <;> rename_i h1 h2 h3
  ·simp only [TyK.int.injEq,Value.int.injEq] at h2 h3
   rw [h2,h3.2,wrap_i64 _ h.1]; exact h.2
  ·simp only [TyK.int.injEq,Value.int.injEq] at h2 h3
   rw [h2,h3.2]; exact h
  all_goals first | cases h1 | cases h2 | cases h3 | exact h.elim
 ·exact h.elim
def pureW(P:Program)(op:Op)(ty:TypeId)(ρ:Env)(w:World)(K:Value→World→Prop):Prop :=
 match op with
 | .move x=>mvW (ev ρ x) w K
 | .assign x=>mvW (ev ρ x) w K
 | .pick c a b=>mvW (pickV (ev ρ c) (ev ρ a) (ev ρ b)) w K
 | .binOp op t x y _=>pvW (bin2 (binV P op t) (ev ρ x) (ev ρ y)) w K
 | .unOp op _ x=>pvW (un1 (unV op) (ev ρ x)) w K
 | .index t x i=>pvW (bin2 (indexV P t) (ev ρ x) (ev ρ i)) w K
 | .slice t x lo hi none=>pvW (sliceV P t (ev ρ x) (evo ρ lo) (evo ρ hi)) w K
 | .field t x f=>pvW (un1 (fieldV P t f) (ev ρ x)) w K
 | .fieldAddr t x f=>pvW (un1 (fieldAddrV P t f) (ev ρ x)) w K
 | .indexAddr t x i=>pvW (bin2 (indexAddrV P t) (ev ρ x) (ev ρ i)) w K
 | .extract x k=>pvW (un1 (extractV k) (ev ρ x)) w K
 | .makeInterface t x=>pvW (un1 (ifaceV P t) (ev ρ x)) w K
 | .nilCheck x=>pvW (un1 nilCheckV (ev ρ x)) w K
 | .convert s d x=>cvI P s d (ev ρ x) w K
 | .makeFunc fn first cap=>mfD fn (evs ρ first.toList) (evs ρ cap.toList) w K
 | .call ⟨.builtin .len,args,ats⟩=>pvW (lsPV (biV P .len ats.toList) (evs ρ args.toList)) w K
 | .call ⟨.builtin .min,args,ats⟩=>pvW (lsPV (biV P .min ats.toList) (evs ρ args.toList)) w K
 | .call ⟨.builtin .max,args,ats⟩=>pvW (lsPV (biV P .max ats.toList) (evs ρ args.toList)) w K
 | _=>False
def Runs(P:Program)(op:Op)(ty:TypeId)(ρ:Env)(v:Value):Prop :=
 ∀ a:Operand→Value,(∀ x v,ev ρ x=some v→a x=v)→∀ w,(execOp a (rawOp op ty)).run P w=.ok (.value v) w
theorem run_val{s:Sem Value}{v:Value}{w:World}(h:s.run P w=.ok v w):(do pure (Next.value (← s)):Sem Next).run P w=.ok (.value v) w:=by
 simp only [Sem.run_bind,h,Result.andThen]; rfl
theorem bi_runs{b:Builtin}{args:Array Operand}{ats:Array TypeId}{ty:TypeId}{ρ:Env}{w:World}{K:Value→World→Prop}
  (h:pvW (lsPV (biV P b ats.toList) (evs ρ args.toList)) w K):∃ v,Runs P (.call ⟨.builtin b,args,ats⟩) ty ρ v∧K v w:=by
 obtain ⟨ob,v,h1,hob,hk⟩:=pvW_out h
 cases hx:evs ρ args.toList with
 | none=>rw [hx] at h1; cases h1
 | some xs =>
  rw [hx] at h1
  refine ⟨v,fun a ha w'=>?_,hk⟩
  simp only [execOp,rawOp,resolve,Sem.run_bind,Sem.run_pure,Result.andThen,invoke,evs_map' ha hx]
  exact biV_sound w' (ats:=ats.toList) h1 hob
theorem pureW_runs{op:Op}{ty:TypeId}{ρ:Env}{w:World}{K:Value→World→Prop}(h:pureW P op ty ρ w K):∃ v,Runs P op ty ρ v∧K v w:=by
 unfold pureW at h
 split at h
 ·obtain ⟨v,hv,hk⟩:=mvW_out h
  exact ⟨v,fun a ha w=>by simp only [execOp,rawOp,ha _ _ hv]; rfl,hk⟩
 ·obtain ⟨v,hv,hk⟩:=mvW_out h
  exact ⟨v,fun a ha w=>by simp only [execOp,rawOp,ha _ _ hv]; rfl,hk⟩
 ·obtain ⟨v,hv,hk⟩:=mvW_out h
  refine ⟨v,fun a ha w=>?_,hk⟩
  unfold pickV at hv
  split at hv
  ·rename_i h1
   simp only [execOp,rawOp,ha _ _ h1,asBool,ha _ _ hv]; simp
  ·rename_i h1
   simp only [execOp,rawOp,ha _ _ h1,asBool,ha _ _ hv]; simp
  ·cases hv
 ·obtain ⟨ob,v,h1,hob,hk⟩:=pvW_out h
  obtain ⟨x,y,hx,hy,h1⟩:=bin2_out h1
  exact ⟨v,fun a ha w=>by simp only [execOp,rawOp,ha _ _ hx,ha _ _ hy]; exact run_val (binV_sound w h1 hob _ _),hk⟩
 ·obtain ⟨ob,v,h1,hob,hk⟩:=pvW_out h
  obtain ⟨x,hx,h1⟩:=un1_out h1
  exact ⟨v,fun a ha w=>by simp only [execOp,rawOp,ha _ _ hx]; exact run_val (unV_sound w h1 hob),hk⟩
 ·obtain ⟨ob,v,h1,hob,hk⟩:=pvW_out h
  obtain ⟨x,y,hx,hy,h1⟩:=bin2_out h1
  exact ⟨v,fun a ha w=>by simp only [execOp,rawOp,ha _ _ hx,ha _ _ hy]; exact run_val (indexV_sound w h1 hob),hk⟩
 ·obtain ⟨ob,v,h1,hob,hk⟩:=pvW_out h
  rename_i t x lo hi
  have evo_out:∀ {a:Operand→Value},(∀ x v,ev ρ x=some v→a x=v)→∀ {o:Option Operand} {u:Option Value},evo ρ o=some u→o.map a=u:=by
   intro a ha o u hu
   cases o with
   | none=>simp only [evo,Option.some.injEq] at hu; subst hu; rfl
   | some x =>
    simp only [evo] at hu
    split at hu
    ·rename_i v hv
     simp only [Option.some.injEq] at hu; subst hu
     rw [Option.map_some,ha _ _ hv]
    ·cases hu
  cases hx:ev ρ x with
  | none=>rw [hx] at h1; unfold sliceV at h1; simp at h1
  | some xv=>cases hl:evo ρ lo with
   | none=>rw [hx,hl] at h1; unfold sliceV at h1; simp at h1
   | some lv=>cases hh:evo ρ hi with
    | none=>rw [hx,hl,hh] at h1; unfold sliceV at h1; simp at h1
    | some hv =>
     rw [hx,hl,hh] at h1
     exact ⟨v,fun a ha w=>by simp only [execOp,rawOp,ha _ _ hx,evo_out ha hl,evo_out ha hh,Option.map_none]; exact run_val (sliceV_sound w h1 hob),hk⟩
 ·obtain ⟨ob,v,h1,hob,hk⟩:=pvW_out h
  obtain ⟨x,hx,h1⟩:=un1_out h1
  exact ⟨v,fun a ha w=>by simp only [execOp,rawOp,ha _ _ hx]; exact run_val (fieldV_sound w h1),hk⟩
 ·obtain ⟨ob,v,h1,hob,hk⟩:=pvW_out h
  obtain ⟨x,hx,h1⟩:=un1_out h1
  exact ⟨v,fun a ha w=>by simp only [execOp,rawOp,ha _ _ hx]; exact run_val (fieldAddrV_sound w h1),hk⟩
 ·obtain ⟨ob,v,h1,hob,hk⟩:=pvW_out h
  obtain ⟨x,y,hx,hy,h1⟩:=bin2_out h1
  exact ⟨v,fun a ha w=>by simp only [execOp,rawOp,ha _ _ hx,ha _ _ hy]; exact run_val (indexAddrV_sound w h1 hob),hk⟩
 ·obtain ⟨ob,v,h1,hob,hk⟩:=pvW_out h
  obtain ⟨x,hx,h1⟩:=un1_out h1
  exact ⟨v,fun a ha w=>by simp only [execOp,rawOp,ha _ _ hx]; exact run_val (extractV_sound w h1),hk⟩
 ·obtain ⟨ob,v,h1,hob,hk⟩:=pvW_out h
  obtain ⟨x,hx,h1⟩:=un1_out h1
  exact ⟨v,fun a ha w=>by simp only [execOp,rawOp,ha _ _ hx]; exact run_val (ifaceV_sound w h1),hk⟩
 ·obtain ⟨ob,v,h1,hob,hk⟩:=pvW_out h
  obtain ⟨x,hx,h1⟩:=un1_out h1
  unfold nilCheckV at h1
  split at h1
  ·simp only [Option.some.injEq,Prod.mk.injEq] at h1; obtain ⟨rfl,rfl⟩:=h1
   exact ⟨_,fun a ha w=>by simp only [execOp,rawOp,ha _ _ hx]; rfl,hk⟩
  ·simp only [Option.some.injEq,Prod.mk.injEq] at h1; obtain ⟨rfl,rfl⟩:=h1
   exact ⟨_,fun a ha w=>by simp only [execOp,rawOp,ha _ _ hx]; rfl,hk⟩
  ·cases h1
 ·obtain ⟨x,hx,h⟩:=un1W_out h
  obtain ⟨v,hr,hk⟩:=convIk_out h
  exact ⟨v,fun a ha w=>by simp only [execOp,rawOp,ha _ _ hx]; exact run_val (hr w),hk⟩
 ·obtain ⟨f,hf,h⟩:=ls1W_out h
  obtain ⟨c,hc,hk⟩:=ls1W_out h
  exact ⟨_,fun a ha w=>by simp only [execOp,rawOp,evs_map' ha hf,evs_map' ha hc]; rfl,hk⟩
 ·exact bi_runs h
 ·exact bi_runs h
 ·exact bi_runs h
 ·exact h.elim
def DL(P:Program):List (Bool × Ins)→List Nat→Env→World→Post→Prop
 | [],L,ρ,w,Q=>Q .normal (restr L ρ) w
 | (p,⟨d,op,ty,none⟩)::r,L,ρ,w,Q =>
  if p then pureW P op ty ρ w (fun v w'=>DL P r L (put ρ d v) w' Q) else noY ρ op∧opW P op ty ρ w (fun v w'=>DL P r L (put ρ d v) w' Q)
 | (p,⟨d,op,ty,some (s,b)⟩)::r,L,ρ,w,Q=>match lk ρ s with
  | some (.bool c)=>(c=b→if p then pureW P op ty ((s,.bool b)::ρ) w (fun v w'=>DL P r L (put ((s,.bool b)::ρ) d v) w' Q) else noY ((s,.bool b)::ρ) op∧opW P op ty ((s,.bool b)::ρ) w (fun v w'=>DL P r L (put ((s,.bool b)::ρ) d v) w' Q)) ∧
    (c=!b→DL P r L (put ((s,.bool !b)::ρ) d undef) w Q)
  | some (.tuple _)=>DL P r L (put ρ d undef) w Q
  | _=>False
def schedOk(ops:Array Oper):List (Bool × Nat)→Array Bool→Bool
 | [],listed=>(Region.ready .any ops listed).isEmpty
 | (true,i)::r,listed=>(Region.ready .any ops listed).contains i && Region.free .any ops listed i && schedOk ops r (listed.setIfInBounds i true)
 | (false,i)::r,listed=>(Region.ready .any ops listed == [i]) && schedOk ops r (listed.setIfInBounds i true)
def schedIns(l:List Oper):List (Bool × Nat)→Option (List (Bool × Ins))
 | []=>some []
 | (p,i)::r=>match l[i]? with
  | none=>none
  | some o=>match stripG l o.guard,schedIns l r with
   | some g,some q=>some ((p,⟨o.dst,o.op,o.type,g⟩)::q)
   | _,_=>none
variable {N:Nat}
def drawQ(N:Nat)(L:List Nat)(Q:Post):Exit→Act→World→Prop:=fun e a w=>∃ ρ,Sim N a ρ∧e=.normal∧Q .normal (restr L ρ) w
theorem wpOp_done{ops:Array Oper}{i:Nat}{o:Oper}{a:Act}{w:World}{K:Value→World→Prop}{next:Act→World→Prop}{Q:Exit→Act→World→Prop}(hi:ops[i]?=some o)
  (hw:Region.wanted o (yielded ops a.tmps)=true) (h:Done P (execOp a.eval (rawOp o.op o.type)) w K) (hk:∀ v w',K v w'→next (a.put o.dst v) w'):wpOp P ops Q i next a w:=by
 unfold wpOp
 simp only [hi,hw,if_true]
 exact .inl (done_wp (execOp_raw _ _) h hk)
theorem wpOp_skip{ops:Array Oper}{i:Nat}{o:Oper}{a:Act}{w:World}{next:Act→World→Prop}{Q:Exit→Act→World→Prop}(hi:ops[i]?=some o)
  (hw:Region.wanted o (yielded ops a.tmps)=false) (h:next (a.put o.dst undef) w):wpOp P ops Q i next a w:=by
 unfold wpOp
 simp only [hi,hw,Bool.false_eq_true,if_false]
 exact h
theorem yielded_of{l:List Oper}{a:Act}{ρ:Env}(hsim:Sim N a ρ){j s:Nat}(hs:(l[j]?).bind (·.dst)=some s){c:Bool}(hc:lk ρ s=some (.bool c)):yielded l.toArray a.tmps j=some c:=by
 have h1:=hsim.slot _ _ hc
 unfold yielded
 simp only [List.getElem?_toArray,hs,Option.bind_some]
 have h2:a.tmps[s]?=some (.bool c):=by
  rw [Array.getD_eq_getD_getElem?] at h1
  cases h3:a.tmps[s]? with
  | none=>rw [h3] at h1; simp [undef] at h1
  | some u=>rw [h3] at h1; simp only [Option.getD_some] at h1; rw [h1]
 rw [h2]
theorem yielded_undef{l:List Oper}{a:Act}{ρ:Env}(hsim:Sim N a ρ){j s:Nat}(hs:(l[j]?).bind (·.dst)=some s){u:Array Value}(hc:lk ρ s=some (.tuple u)):yielded l.toArray a.tmps j=none:=by
 have h1:=hsim.slot _ _ hc
 unfold yielded
 simp only [List.getElem?_toArray,hs,Option.bind_some]
 rw [Array.getD_eq_getD_getElem?] at h1
 cases h3:a.tmps[s]? with
 | none=>rfl
 | some u=>rw [h3] at h1; simp only [Option.getD_some] at h1; rw [h1]
theorem bool_ne{c b:Bool}(h:¬ c=b):c=!b:=by revert h; cases c <;> cases b <;> simp
theorem DL_sound{l:List Oper}(hall:l.all (fun o=>okDst N o.dst)=true)(hns:Region.noSelect l.toArray=true):∀ (sched:List (Bool × Nat)) (ins:List (Bool × Ins)) (L:List Nat) (ρ:Env) (w:World) (Q:Post) (a:Act) (listed:Array Bool),
  schedIns l sched=some ins→schedOk l.toArray sched listed=true→Sim N a ρ→DL P ins L ρ w Q→wpAny P .any l.toArray (drawQ N L Q) sched.length listed a w
 | [],ins,L,ρ,w,Q,a,listed,hi,hok,hs,h=>by
  simp only [schedIns,Option.some.injEq] at hi; subst hi
  simp only [schedOk,List.isEmpty_iff] at hok
  exact ⟨hok,ρ,hs,rfl,h⟩
 | (p,i)::r,ins,L,ρ,w,Q,a,listed,hi,hok,hs,h=>by
  simp only [schedIns] at hi
  split at hi
  ·cases hi
  rename_i o ho
  split at hi
  case h_2=>cases hi
  rename_i g q hg hq
  simp only [Option.some.injEq] at hi; subst hi
  have ho':l.toArray[i]?=some o:=by simpa using ho
  have hd:okDst N o.dst=true:=List.all_eq_true.1 hall o (List.mem_of_getElem? ho)
  -- how an operation is met,once what it is to give is known
  have take:∀ (ρ':Env),Sim N a ρ'→(Region.wanted o (yielded l.toArray a.tmps)=true) →
    (if p then pureW P o.op o.type ρ' w (fun v w'=>DL P q L (put ρ' o.dst v) w' Q) else noY ρ' o.op∧opW P o.op o.type ρ' w (fun v w'=>DL P q L (put ρ' o.dst v) w' Q)) →
    wpAny P .any l.toArray (drawQ N L Q) (r.length+1) listed a w:=by
   intro ρ' hs' hw h
   cases p with
   | true =>
    simp only [schedOk,Bool.and_eq_true] at hok
    simp only [if_true] at h
    obtain ⟨v,hv,hk⟩:=pureW_runs h
    refine wpAny_take ho' hns hok.1.2 hok.1.1 (fun c a w hh=>?_) (.inl ⟨hw,fun w'=>?_⟩) (DL_sound hall hns r q L _ w Q _ _ hq hok.2 (hs'.put hd v) hk)
    ·obtain ⟨_,_,hn,_⟩:=hh; cases hn
    ·rw [execOp_raw]; exact hv a.eval hs'.eval w'
   | false =>
    simp only [schedOk,Bool.and_eq_true,beq_iff_eq] at hok
    simp only [Bool.false_eq_true,if_false] at h
    refine wpAny_all hok.1 (by simp) fun j hj=>?_
    simp only [List.mem_singleton] at hj; subst hj
    exact wpOp_done ho' hw (opW_done h.2 h.1 a.eval hs'.eval) fun v w' hk=>DL_sound hall hns r q L _ w' Q _ _ hq hok.2 (hs'.put hd v) hk
  have skip:∀ (ρ':Env),Sim N a ρ'→(Region.wanted o (yielded l.toArray a.tmps)=false)→DL P q L (put ρ' o.dst undef) w Q→wpAny P .any l.toArray (drawQ N L Q) (r.length+1) listed a w:=by
   intro ρ' hs' hw h2
   cases p with
   | true =>
    simp only [schedOk,Bool.and_eq_true] at hok
    refine wpAny_take ho' hns hok.1.2 hok.1.1 (fun c a w hh=>?_) (.inr ⟨hw,rfl⟩) (DL_sound hall hns r q L _ w Q _ _ hq hok.2 (hs'.put hd undef) h2)
    obtain ⟨_,_,hn,_⟩:=hh; cases hn
   | false =>
    simp only [schedOk,Bool.and_eq_true,beq_iff_eq] at hok
    refine wpAny_all hok.1 (by simp) fun j hj=>?_
    simp only [List.mem_singleton] at hj; subst hj
    exact wpOp_skip ho' hw (DL_sound hall hns r q L _ w Q _ _ hq hok.2 (hs'.put hd undef) h2)
  cases hgo:o.guard with
  | none =>
   rw [hgo] at hg
   simp only [stripG,Option.some.injEq] at hg; subst hg
   simp only [DL] at h
   exact take ρ hs (by simp only [Region.wanted,hgo]) h
  | some jb =>
   obtain ⟨j,b⟩:=jb
   rw [hgo] at hg
   simp only [stripG] at hg
   split at hg
   case h_2=>cases hg
   rename_i s hs0
   simp only [Option.some.injEq] at hg; subst hg
   simp only [DL] at h
   split at h
   ·rename_i c hc
    have hy:=yielded_of hs hs0 hc
    by_cases hcb:c=b
    ·subst hcb
     exact take _ (hs.know hc) (by simp only [Region.wanted,hgo,hy,beq_self_eq_true]) (h.1 rfl)
    ·have hcb':c=!b:=bool_ne hcb
     have hc':lk ρ s=some (.bool !b):=by rw [← hcb']; exact hc
     exact skip _ (hs.know hc') (by simp only [Region.wanted,hgo,hy]; simpa using hcb) (h.2 hcb')
   ·rename_i u hc
    exact skip ρ hs (by simp only [Region.wanted,hgo,yielded_undef hs hs0 hc]; rfl) h
   ·exact h.elim
theorem ops_of_any{l:List Oper}{Q:Exit→Act→World→Prop}{a:Act}{w:World}(hm:P.follows .mixedOrders=true)(h:wpAny P .any l.toArray Q l.toArray.size (Array.replicate l.toArray.size false) a w) :
  ∀ t,wpOps P l.toArray Q (Region.schedule (P.follows .mixedOrders) l.toArray t) a w:=fun t=>by
 simp only [Region.schedule,hm,Bool.true_or,if_true]
 exact wpAny_sound _ t _ a _ h
theorem drawW_by{l:List Oper}{L:List Nat}{ρ:Env}{w:World}{Q:Post}(sched:List (Bool × Nat))(ins:List (Bool × Ins))(hm:P.follows .mixedOrders=true)
  (hi:schedIns l sched=some ins) (hok:(Region.noSelect l.toArray && (sched.length == l.length) && schedOk l.toArray sched (Array.replicate l.length false))=true) (h:DL P ins L ρ w.drew Q):drawW P l L ρ w Q:=by
 intro N a hall hs
 refine .inl ?_
 simp only [Bool.and_eq_true,beq_iff_eq] at hok
 refine ops_of_any hm ?_
 have:=DL_sound hall hok.1.1 sched ins L ρ w.drew Q a (Array.replicate l.length false) hi hok.2 hs h
 rw [hok.1.2] at this
 have e:l.toArray.size=l.length:=by simp
 rw [e]
 exact this
def isLoad:Op→Bool
 | .load _ _=>true
 | _=>false
theorem load_runs{op:Op}{ty:TypeId}{ρ:Env}{w:World}{K:Value→World→Prop}(hl:isLoad op=true)(h:opW P op ty ρ w K) :
  ∃ v,(∀ a:Operand→Value,(∀ x v,ev ρ x=some v→a x=v)→(execOp a (rawOp op ty)).run P w=.ok (.value v) w)∧K v w:=by
 unfold isLoad at hl
 split at hl
 ·obtain ⟨p,hp,h⟩:=ptrW_out h
  obtain ⟨v,hr,hk⟩:=loadW_out h
  refine ⟨v,fun a ha=>?_,hk⟩
  simp only [execOp,rawOp,ha _ _ hp]
  exact run_val (by simp only [Instr.loadAt,Instr.sureAddr,Sem.run_bind,Sem.run_pure,Result.andThen,hr])
 ·cases hl
def stillIns(l:List Oper):List (Bool × Oper)→Option (List (Bool × Ins))
 | []=>some []
 | (p,o)::r=>match stripG l o.guard,stillIns l r with
  | some g,some q=>if p || isLoad o.op then some ((p,⟨o.dst,o.op,o.type,g⟩)::q) else none
  | _,_=>none
theorem still_sound{l:List Oper}(hall:l.all (fun o=>okDst N o.dst)=true){w:World}{L:List Nat}{Q:Post}:∀ (os:List (Bool × Oper)) (ins:List (Bool × Ins)) (ρ:Env) (a:Act),
  stillIns l os=some ins→(∀ x∈os,okDst N x.2.dst=true)→Sim N a ρ→DL P ins L ρ w Q→wpQuiet P l.toArray (fun w'=>w'=w) (fun a'=>∀ w',w'=w→drawQ N L Q .normal a' w') (os.map (·.2)) a
 | [],ins,ρ,a,hi,_,hs,h=>by
  simp only [stillIns,Option.some.injEq] at hi; subst hi
  intro w' hw; subst hw
  exact ⟨ρ,hs,rfl,h⟩
 | (p,o)::r,ins,ρ,a,hi,hd0,hs,h=>by
  simp only [stillIns] at hi
  split at hi
  case h_2=>cases hi
  rename_i g q hg hq
  split at hi
  case isFalse=>cases hi
  rename_i hp
  simp only [Option.some.injEq] at hi; subst hi
  have hd:okDst N o.dst=true:=hd0 (p,o) (by simp)
  have hd':∀ x∈r,okDst N x.2.dst=true:=fun x hx=>hd0 x (by simp [hx])
  have take:∀ (ρ':Env),Sim N a ρ'→(Region.wanted o (yielded l.toArray a.tmps)=true) →
    (if p then pureW P o.op o.type ρ' w (fun v w'=>DL P q L (put ρ' o.dst v) w' Q) else noY ρ' o.op∧opW P o.op o.type ρ' w (fun v w'=>DL P q L (put ρ' o.dst v) w' Q)) →
    wpQuiet P l.toArray (fun w'=>w'=w) (fun a'=>∀ w',w'=w→drawQ N L Q .normal a' w') (o::r.map (·.2)) a:=by
   intro ρ' hs' hw h
   unfold wpQuiet
   simp only [hw,if_true]
   have key:∀ v,(∀ a:Operand→Value,(∀ x v,ev ρ' x=some v→a x=v)→(execOp a (rawOp o.op o.type)).run P w=.ok (.value v) w)→DL P q L (put ρ' o.dst v) w Q →
     o.quiet P a (fun w'=>w'=w) (wpQuiet P l.toArray (fun w'=>w'=w) (fun a'=>∀ w',w'=w→drawQ N L Q .normal a' w') (r.map (·.2))):=by
    intro v hv hk
    refine ⟨v,fun w' hw'=>?_,still_sound hall r q _ _ hq hd' (hs'.put hd v) hk⟩
    subst hw'
    unfold Oper.quietAt
    rw [execOp_raw,hv a.eval hs'.eval]
    exact ⟨rfl,rfl⟩
   cases p with
   | true =>
    simp only [if_true] at h
    obtain ⟨v,hv,hk⟩:=pureW_runs h
    exact key v (fun a ha=>hv a ha w) hk
   | false =>
    simp only [Bool.false_eq_true,if_false] at h
    obtain ⟨v,hv,hk⟩:=load_runs (by simpa using hp) h.2
    exact key v hv hk
  have skip:∀ (ρ':Env),Sim N a ρ'→(Region.wanted o (yielded l.toArray a.tmps)=false)→DL P q L (put ρ' o.dst undef) w Q →
    wpQuiet P l.toArray (fun w'=>w'=w) (fun a'=>∀ w',w'=w→drawQ N L Q .normal a' w') (o::r.map (·.2)) a:=by
   intro ρ' hs' hw h2
   unfold wpQuiet
   simp only [hw,Bool.false_eq_true,if_false]
   exact still_sound hall r q _ _ hq hd' (hs'.put hd undef) h2
  simp only [List.map_cons]
  cases hgo:o.guard with
  | none =>
   rw [hgo] at hg
   simp only [stripG,Option.some.injEq] at hg; subst hg
   simp only [DL] at h
   exact take ρ hs (by simp only [Region.wanted,hgo]) h
  | some jb =>
   obtain ⟨j,b⟩:=jb
   rw [hgo] at hg
   simp only [stripG] at hg
   split at hg
   case h_2=>cases hg
   rename_i s hs0
   simp only [Option.some.injEq] at hg; subst hg
   simp only [DL] at h
   split at h
   ·rename_i c hc
    have hy:=yielded_of hs hs0 hc
    by_cases hcb:c=b
    ·subst hcb
     exact take _ (hs.know hc) (by simp only [Region.wanted,hgo,hy,beq_self_eq_true]) (h.1 rfl)
    ·have hcb':c=!b:=bool_ne hcb
     have hc':lk ρ s=some (.bool !b):=by rw [← hcb']; exact hc
     exact skip _ (hs.know hc') (by simp only [Region.wanted,hgo,hy]; simpa using hcb) (h.2 hcb')
   ·rename_i u hc
    exact skip ρ hs (by simp only [Region.wanted,hgo,yielded_undef hs hs0 hc]; rfl) h
   ·exact h.elim
theorem drawW_still{l:List Oper}{L:List Nat}{ρ:Env}{w:World}{Q:Post}(ps:List Bool)(ins:List (Bool × Ins))(hm:P.follows .mixedOrders=true)
  (hi:stillIns l (ps.zip l)=some ins) (hok:(Region.lexB .any l.toArray && (ps.length == l.length))=true) (h:DL P ins L ρ w.drew Q):drawW P l L ρ w Q:=by
 intro N a hall hs
 refine .inl ?_
 simp only [Bool.and_eq_true,beq_iff_eq] at hok
 have hmap:(ps.zip l).map (·.2)=l:=List.map_snd_zip (by omega)
 have:=still_sound (w:=w.drew) (L:=L) (Q:=Q) hall (ps.zip l) ins ρ a hi (fun x hx=>List.all_eq_true.1 hall _ (List.of_mem_zip hx).2) hs h
 rw [hmap] at this
 have hB:=hok.1
 simp only [Region.lexB,Bool.and_eq_true] at hB
 refine ops_of_any hm (wpAny_of_quiet (C:=fun w'=>w'=w.drew) (Q:=fun a'=>∀ w',w'=w.drew→drawQ N L Q .normal a' w') (fun _ w' hw' h=>h w' hw') _ _ _ _ rfl ?_)
 have:=wpAnyQ_lex (C:=fun w'=>w'=w.drew) (md:=.any) hB.1 l 0 (Array.replicate l.toArray.size false) a (by simp) (by simpa using hB.2) (by simpa using this)
 simpa using this
end
section
variable {P:Program} {w:World} {K:Value→World→Prop} {ρ:Env} {Q:Post} {r:List (Bool × Ins)} {L:List Nat} {d:Option Nat} {ty:TypeId}
def Dn(P:Program)(r:List (Bool × Ins))(L:List Nat)(ρ:Env)(d:Option Nat)(Q:Post):Value→World→Prop:=fun v w=>DL P r L (put ρ d v) w Q
def opD(P:Program)(p:Bool)(op:Op)(ty:TypeId)(ρ:Env)(w:World)(K:Value→World→Prop):Prop:=if p then pureW P op ty ρ w K else noY ρ op∧opW P op ty ρ w K
def dD(P:Program)(o:Option Value)(s:Nat)(b p:Bool)(d:Option Nat)(op:Op)(ty:TypeId)(r:List (Bool × Ins))(L:List Nat)(ρ:Env)(w:World)(Q:Post):Prop :=
 match o with
 | some (.bool c)=>(c=b→opD P p op ty ((s,.bool b)::ρ) w (Dn P r L ((s,.bool b)::ρ) d Q))∧(c=!b→DL P r L (put ((s,.bool !b)::ρ) d undef) w Q)
 | some (.tuple _)=>DL P r L (put ρ d undef) w Q
 | _=>False
theorem DL_nil:DL P [] L ρ w Q=Q .normal (restr L ρ) w:=(rfl)
theorem DL_cons{p:Bool}{op:Op}:DL P ((p,⟨d,op,ty,none⟩)::r) L ρ w Q=opD P p op ty ρ w (Dn P r L ρ d Q):=(rfl)
theorem DL_guard{p:Bool}{op:Op}{s:Nat}{b:Bool}:DL P ((p,⟨d,op,ty,some (s,b)⟩)::r) L ρ w Q=dD P (lk ρ s) s b p d op ty r L ρ w Q:=by
 simp only [DL,dD]; rfl
theorem Dn_app{v:Value}:Dn P r L ρ d Q v w=DL P r L (put ρ d v) w Q:=(rfl)
theorem opD_t{op:Op}:opD P true op ty ρ w K=pureW P op ty ρ w K:=(rfl)
theorem opD_f{op:Op}:opD P false op ty ρ w K=(noY ρ op∧opW P op ty ρ w K):=by simp [opD]
section
variable {x y z:Operand} {t u:TypeId} {o1 o2 o3:Option Operand} {n:Nat} {b:Bool}
theorem noYV_func{f:FuncId}{a c:Array Value}:noYV (some (.func (.func f) a c))=True:=rfl
theorem noY_call{xs:Array Operand}{ts:Array TypeId}:noY ρ (.call ⟨.value x,xs,ts⟩)=noYV (ev ρ x):=rfl
theorem noY_bcall{f:Builtin}{xs:Array Operand}{ts:Array TypeId}:noY ρ (.call ⟨.builtin f,xs,ts⟩)=True:=rfl
theorem noY_load:noY ρ (.load t x)=True:=rfl
theorem noY_store:noY ρ (.store t x y)=True:=rfl
theorem noY_alloc:noY ρ (.alloc t)=True:=rfl
theorem noY_box:noY ρ (.box t x)=True:=rfl
theorem noY_convert:noY ρ (.convert t u x)=True:=rfl
theorem noY_build{ps:Array (Nat × Operand)}:noY ρ (.build t ps)=True:=rfl
theorem noY_buildSlice{ps:Array (Nat × Operand)}:noY ρ (.buildSlice t n ps)=True:=rfl
theorem noY_makeSlice:noY ρ (.makeSlice t x y)=True:=rfl
theorem noY_makeMap:noY ρ (.makeMap t o1)=True:=rfl
theorem noY_lookup:noY ρ (.lookup t x y b)=True:=rfl
theorem noY_mapUpdate:noY ρ (.mapUpdate t x y z)=True:=rfl
theorem noY_insert:noY ρ (.insert t x y z)=True:=rfl
theorem noY_range:noY ρ (.range t x)=True:=rfl
theorem noY_next:noY ρ (.next x b)=True:=rfl
theorem noY_entry:noY ρ (.entry x)=True:=rfl
theorem noY_typeAssert:noY ρ (.typeAssert x t u b)=True:=rfl
theorem noY_move:noY ρ (.move x)=True:=rfl
theorem noY_assign:noY ρ (.assign x)=True:=rfl
theorem noY_slice:noY ρ (.slice t x o1 o2 o3)=True:=rfl
theorem noY_binOp{o:BinOp}:noY ρ (.binOp o t x y u)=True:=rfl
theorem noY_unOp{o:UnOp}:noY ρ (.unOp o t x)=True:=rfl
theorem noY_index:noY ρ (.index t x y)=True:=rfl
theorem noY_field:noY ρ (.field t x n)=True:=rfl
theorem noY_fieldAddr:noY ρ (.fieldAddr t x n)=True:=rfl
theorem noY_indexAddr:noY ρ (.indexAddr t x y)=True:=rfl
theorem noY_extract:noY ρ (.extract x n)=True:=rfl
theorem noY_iface:noY ρ (.makeInterface t x)=True:=rfl
theorem noY_nilCheck:noY ρ (.nilCheck x)=True:=rfl
theorem noY_pick:noY ρ (.pick x y z)=True:=rfl
theorem noY_makeFunc{f:Fn}{a c:Array Operand}:noY ρ (.makeFunc f a c)=True:=rfl
end
section
variable {op:Op} {s:Nat} {b c p:Bool}
theorem dD_t:dD P (some (.bool true)) s true p d op ty r L ρ w Q=opD P p op ty ((s,.bool true)::ρ) w (Dn P r L ((s,.bool true)::ρ) d Q):=by simp [dD]
theorem dD_f:dD P (some (.bool false)) s false p d op ty r L ρ w Q=opD P p op ty ((s,.bool false)::ρ) w (Dn P r L ((s,.bool false)::ρ) d Q):=by simp [dD]
theorem dD_tf:dD P (some (.bool true)) s false p d op ty r L ρ w Q=DL P r L (put ((s,.bool true)::ρ) d undef) w Q:=by simp [dD]
theorem dD_ft:dD P (some (.bool false)) s true p d op ty r L ρ w Q=DL P r L (put ((s,.bool false)::ρ) d undef) w Q:=by simp [dD]
theorem dD_gen:dD P (some (.bool c)) s b p d op ty r L ρ w Q=((c=b→opD P p op ty ((s,.bool b)::ρ) w (Dn P r L ((s,.bool b)::ρ) d Q))∧(c=!b→DL P r L (put ((s,.bool !b)::ρ) d undef) w Q)):=(rfl)
theorem dD_undef:dD P (some undef) s b p d op ty r L ρ w Q=DL P r L (put ρ d undef) w Q:=(rfl)
end
theorem lsPV_some{f:List Value→PV}{xs:List Value}:lsPV f (some xs)=f xs:=rfl
theorem biV_lens{t:TypeId}{s:ByteArray}:biV P .len [t] [.string s]=if isStrT P t then some (True,.int .i64 ((toL s).length:Int)) else none:=rfl
theorem biV_lensl{t:TypeId}{a:Option Addr}{n c:Nat}:biV P .len [t] [.slice a n c]=if isSliceT P t then some (True,.int .i64 (n:Int)) else none:=rfl
theorem biV_min2{ats:List TypeId}{k k':IntKind}{x y:Int}:biV P .min ats [.int k x,.int k' y]=some (True,.int k (min x y)):=rfl
theorem biV_max2{ats:List TypeId}{k k':IntKind}{x y:Int}:biV P .max ats [.int k x,.int k' y]=some (True,.int k (max x y)):=rfl
theorem pureW_move{x:Operand}:pureW P (.move x) ty ρ w K=mvW (ev ρ x) w K:=(rfl)
theorem pureW_assign{x:Operand}:pureW P (.assign x) ty ρ w K=mvW (ev ρ x) w K:=(rfl)
theorem pureW_pick{c a b:Operand}:pureW P (.pick c a b) ty ρ w K=mvW (pickV (ev ρ c) (ev ρ a) (ev ρ b)) w K:=(rfl)
theorem pureW_bin{op:BinOp}{t t':TypeId}{x y:Operand}:pureW P (.binOp op t x y t') ty ρ w K=pvW (bin2 (binV P op t) (ev ρ x) (ev ρ y)) w K:=(rfl)
theorem pureW_un{op:UnOp}{t:TypeId}{x:Operand}:pureW P (.unOp op t x) ty ρ w K=pvW (un1 (unV op) (ev ρ x)) w K:=(rfl)
theorem pureW_index{t:TypeId}{x i:Operand}:pureW P (.index t x i) ty ρ w K=pvW (bin2 (indexV P t) (ev ρ x) (ev ρ i)) w K:=(rfl)
theorem pureW_slice{t:TypeId}{x:Operand}{lo hi:Option Operand}:pureW P (.slice t x lo hi none) ty ρ w K=pvW (sliceV P t (ev ρ x) (evo ρ lo) (evo ρ hi)) w K:=(rfl)
theorem pureW_field{t:TypeId}{x:Operand}{f:Nat}:pureW P (.field t x f) ty ρ w K=pvW (un1 (fieldV P t f) (ev ρ x)) w K:=(rfl)
theorem pureW_fieldAddr{t:TypeId}{x:Operand}{f:Nat}:pureW P (.fieldAddr t x f) ty ρ w K=pvW (un1 (fieldAddrV P t f) (ev ρ x)) w K:=(rfl)
theorem pureW_indexAddr{t:TypeId}{x i:Operand}:pureW P (.indexAddr t x i) ty ρ w K=pvW (bin2 (indexAddrV P t) (ev ρ x) (ev ρ i)) w K:=(rfl)
theorem pureW_extract{x:Operand}{k:Nat}:pureW P (.extract x k) ty ρ w K=pvW (un1 (extractV k) (ev ρ x)) w K:=(rfl)
theorem pureW_iface{t:TypeId}{x:Operand}:pureW P (.makeInterface t x) ty ρ w K=pvW (un1 (ifaceV P t) (ev ρ x)) w K:=(rfl)
theorem pureW_nilCheck{x:Operand}:pureW P (.nilCheck x) ty ρ w K=pvW (un1 nilCheckV (ev ρ x)) w K:=(rfl)
theorem pureW_convert{s d:TypeId}{x:Operand}:pureW P (.convert s d x) ty ρ w K=cvI P s d (ev ρ x) w K:=(rfl)
theorem cvI_some{s d:TypeId}{x:Value}:cvI P s d (some x) w K=convIk (tyK P s) (tyK P d) x w K:=(rfl)
theorem convIk_int{k k' k'':IntKind}{n:Int}:convIk (.int k) (.int k') (.int k'' n) w K=convK (.int k) (.int k') (.int k'' n) w K:=(rfl)
theorem pureW_makeFunc{fn:Fn}{first cap:Array Operand}:pureW P (.makeFunc fn first cap) ty ρ w K=mfD fn (evs ρ first.toList) (evs ρ cap.toList) w K:=(rfl)
theorem pureW_len{args:Array Operand}{ats:Array TypeId}:pureW P (.call ⟨.builtin .len,args,ats⟩) ty ρ w K=pvW (lsPV (biV P .len ats.toList) (evs ρ args.toList)) w K:=(rfl)
theorem pureW_min{args:Array Operand}{ats:Array TypeId}:pureW P (.call ⟨.builtin .min,args,ats⟩) ty ρ w K=pvW (lsPV (biV P .min ats.toList) (evs ρ args.toList)) w K:=(rfl)
theorem pureW_max{args:Array Operand}{ats:Array TypeId}:pureW P (.call ⟨.builtin .max,args,ats⟩) ty ρ w K=pvW (lsPV (biV P .max ats.toList) (evs ρ args.toList)) w K:=(rfl)
end
attribute [go_sem low] dD_gen
attribute [go_sem] pureW_convert cvI_some convIk_int noYV_func noY_call noY_bcall noY_load noY_store noY_alloc noY_box noY_convert noY_build noY_buildSlice noY_makeSlice noY_makeMap noY_lookup noY_mapUpdate noY_insert noY_range noY_next noY_entry noY_typeAssert noY_move noY_assign noY_slice noY_binOp noY_unOp noY_index noY_field noY_fieldAddr noY_indexAddr noY_extract noY_iface noY_nilCheck noY_pick noY_makeFunc true_and
attribute [go_sem] DL_nil DL_cons DL_guard Dn_app opD_t opD_f dD_t dD_f dD_tf dD_ft dD_undef lsPV_some biV_lens biV_lensl biV_min2 biV_max2 pureW_move pureW_assign pureW_pick pureW_bin pureW_un pureW_index pureW_slice pureW_field pureW_fieldAddr pureW_indexAddr pureW_extract pureW_iface pureW_nilCheck pureW_makeFunc pureW_len pureW_min pureW_max
end Go.Ann

namespace Go.Ann
open Go Go.RowKit
def mkI(P:Program)(t:TypeId):Option (Nat × Nat × Nat × Value) :=
 match P.underlying t with
 | some (.slice e)=>match P.info? e with
  | some i=>match i.zero with
   | some z=>some (e,i.size,i.bytes,z)
   | none=>none
  | none=>none
 | _=>none
theorem mkI_some{P:Program}{t e size bytes:Nat}{z:Value}(h:mkI P t=some (e,size,bytes,z)) :
  ∃ i,P.underlying t=some (.slice e)∧P.info? e=some i∧i.zero=some z∧size=i.size∧bytes=i.bytes:=by
 unfold mkI at h
 split at h
 ·rename_i e' hu
  split at h
  ·rename_i i hi
   split at h
   ·rename_i z' hz
    simp only [Option.some.injEq,Prod.mk.injEq] at h
    obtain ⟨rfl,rfl,rfl,rfl⟩:=h
    exact ⟨i,hu,hi,hz,rfl,rfl⟩
   ·cases h
  ·cases h
 ·cases h
section
variable {P:Program} {w:World} {K:Value→World→Prop} {t:TypeId}
def zerosA(z:Value)(n:Nat):Array Value:=Array.replicate n z
theorem madeCells_one{z:Value}(hz:z.oneCell'=true)(n:Nat):madeCells z.cells n=zerosA z n:=by
 have hc:z.cells=#[z]:=by cases z <;> simp_all [Value.cells,Value.oneCell']
 rw [hc]
 unfold madeCells zerosA
 apply Array.ext
 ·simp
 ·intro j h1 h2
  simp [Nat.mod_one]
theorem msW_make{e size bytes:Nat}{z:Value}{k k':IntKind}{n c:Int}(hm:mkI P t=some (e,size,bytes,z))
  (h0:0≤n) (h1:n≤c) (h2:bytes * c≤281474976710656) (h3:c≤9223372036854775807)
  (hK:K (.slice (some ⟨w.heap.size,0,none⟩) n.toNat c.toNat) (w.alloc (.cells (madeCells z.cells (c.toNat * size)) e))) :
  msW P t (.int k n) (.int k' c) w K:=by
 obtain ⟨i,hu,hi,hzz,rfl,rfl⟩:=mkI_some hm
 exact ⟨_,_,run_make w t e i z hu hi hzz k k' n c h0 h1 h2 h3,hK⟩
theorem msW_one{e bytes:Nat}{z:Value}{k k':IntKind}{n c:Int}(hm:mkI P t=some (e,1,bytes,z))(hz:z.oneCell'=true)
  (h0:0≤n) (h1:n≤c) (h2:bytes * c≤281474976710656) (h3:c≤9223372036854775807)
  (hK:K (.slice (some ⟨w.heap.size,0,none⟩) n.toNat c.toNat) (w.alloc (.cells (zerosA z c.toNat) e))) :
  msW P t (.int k n) (.int k' c) w K:=by
 refine msW_make hm h0 h1 h2 h3 ?_
 rw [Nat.mul_one,madeCells_one hz]
 exact hK
theorem bsW_cells{e size bytes:Nat}{z:Value}{len:Nat}{is:List Nat}{vs:List Value}{cells:Array Value}(hm:mkI P t=some (e,size,bytes,z))
  (h0:len * size≤16777216) (h1:len * size≠0) (hf:Instr.fill (fun i=>some (i * size,size)) (madeCells z.cells (len * size)) (zipP is vs)=some cells)
  (hK:K (.slice (some ⟨w.heap.size,0,none⟩) len len) (w.alloc (.cells cells e))) :
  bsW P t len is vs w K:=by
 obtain ⟨i,hu,hi,hzz,rfl,rfl⟩:=mkI_some hm
 refine ⟨_,_,?_,hK⟩
 have e1:¬ (len * i.size > 2 ^ 24):=by omega
 unfold madeCells at hf
 simp only [Instr.buildSlice,Sem.run_bind,run_underlying hu,Result.andThen,run_sizeOf w hi,e1,if_false,h1,zeroValue,typeInfo,run_program,hi,hzz,Sem.run_pure,hf,newRow,run_newObj_alloc]
def setFrom:Array Value→Nat→List Value→Array Value
 | cs,_,[]=>cs
 | cs,k,v::vs=>setFrom (cs.setIfInBounds k v) (k+1) vs
theorem size_setFrom:∀ (vs:List Value) (k:Nat) (cs:Array Value),(setFrom cs k vs).size=cs.size
 | [],_,_=>rfl
 | v::vs,k,cs=>by rw [setFrom,size_setFrom]; simp
theorem get_setFrom:∀ (vs:List Value) (k:Nat) (cs:Array Value) (j:Nat),j<cs.size→(setFrom cs k vs)[j]?=if k≤j∧j<k+vs.length then vs[j - k]? else cs[j]?
 | [],k,cs,j,_=>by simp [setFrom]; intro h1 h2; omega
 | v::vs,k,cs,j,hj=>by
  rw [setFrom,get_setFrom vs (k+1) _ j (by simpa using hj)]
  by_cases h1:k+1≤j∧j<k+1+vs.length
  ·rw [if_pos h1,if_pos ⟨by omega,by simp; omega⟩,show j - k=(j - (k+1))+1 by omega]; simp
  ·rw [if_neg h1,Array.getElem?_setIfInBounds]
   by_cases h2:k=j
   ·subst h2; simp [hj]
   ·rw [if_neg h2,if_neg]
    simp only [List.length_cons]; omega
theorem fill_ones:∀ (vs:List Value) (k:Nat) (cs:Array Value),(∀ v∈vs,v.oneCell'=true)→k+vs.length≤cs.size →
  Instr.fill (fun i=>some (i * 1,1)) cs (zipP (List.range' k vs.length) vs)=some (setFrom cs k vs)
 | [],k,cs,_,_=>rfl
 | v::vs,k,cs,h1,h2=>by
  have hv:=h1 v (by simp)
  have hc:v.cells=#[v]:=by cases v <;> simp_all [Value.cells,Value.oneCell']
  simp only [List.length_cons] at h2
  simp only [List.length_cons,List.range'_succ,zipP,Instr.fill,hc,List.size_toArray,List.length_cons,List.length_nil]
  rw [if_neg (by simp; omega)]
  have:=fill_ones vs (k+1) (cs.setIfInBounds k v) (fun u hu=>h1 u (by simp [hu])) (by simp; omega)
  simpa [setFrom] using this
theorem setFrom_all(vs:List Value)(cs:Array Value)(h:cs.size=vs.length):setFrom cs 0 vs=vs.toArray:=by
 apply Array.ext_getElem?
 intro j
 by_cases hj:j<cs.size
 ·rw [get_setFrom vs 0 cs j hj,if_pos ⟨by omega,by omega⟩]; simp
 ·rw [Array.getElem?_eq_none (by rw [size_setFrom]; omega),Array.getElem?_eq_none (by simp; omega)]
theorem bsW_ones{e bytes:Nat}{z:Value}{len:Nat}{is:List Nat}{vs:List Value}(hm:mkI P t=some (e,1,bytes,z))(hi:is=List.range' 0 vs.length)(hl:vs.length=len)
  (h0:len≤16777216) (h1:len≠0) (hv:∀ v∈vs,v.oneCell'=true)
  (hK:K (.slice (some ⟨w.heap.size,0,none⟩) len len) (w.alloc (.cells vs.toArray e))):bsW P t len is vs w K:=by
 subst hi
 refine bsW_cells hm (by omega) (by omega) ?_ hK
 have hsz:(madeCells z.cells (len * 1)).size=len:=by simp [size_madeCells]
 rw [fill_ones vs 0 _ hv (by omega),setFrom_all _ _ (by omega)]
end
theorem zipP_nil:zipP [] []=[]:=rfl
theorem zipP_cons{i:Nat}{l:List Nat}{v:Value}{vs:List Value}:zipP (i::l) (v::vs)=(i,v)::zipP l vs:=rfl
attribute [go_sem] zipP_nil zipP_cons
end Go.Ann

namespace Go.Ann
open Go Go.RowKit
def Rd(w:World)(size:Nat)(v:Value)(n:Nat)(xs:List Value):Prop :=
 xs.length=n * size∧∃ a cap,v=.slice a n cap∧n≤cap∧(n≠0→∃ ad,a=some ad∧∀ j u,xs[j]?=some u→w.cell? (ad.add j)=some u)
theorem Rd.of_own{w:World}{B e size n:Nat}{v:Value}{xs:List Value}(h:w.ownsRow B e size v n xs):Rd w size v n xs:=by
 refine ⟨h.1,?_⟩
 rcases h.2 with ⟨rfl,rfl⟩ | ⟨g,cap,cur,rfl,hb,hg,hn,hc,hs,ht⟩
 ·exact ⟨none,0,rfl,Nat.le_refl _,fun h=>absurd rfl h⟩
 ·exact ⟨some ⟨g,0,none⟩,cap,rfl,hn,fun _=>⟨_,rfl,h.cells rfl⟩⟩
theorem Rd.below{w w':World}{size n:Nat}{v:Value}{xs:List Value}(h:Rd w size v n xs)(hb:Below w.heap.size w w')(hs:0<size):Rd w' size v n xs:=by
 obtain ⟨h1,a,cap,rfl,h2,h3⟩:=h
 refine ⟨h1,a,cap,rfl,h2,fun h=>?_⟩
 obtain ⟨ad,rfl,h4⟩:=h3 h
 refine ⟨ad,rfl,fun j u hu=>?_⟩
 have hc:=h4 j u hu
 rw [hb.cell (World.block_lt_of_cell? w _ hc),hc]
structure Chg(S:Nat→Prop)(w w':World):Prop where
 os:w'.os=w.os
 tape:w'.tape=w.tape
 output:w'.output=w.output
 size:w.heap.size≤w'.heap.size
 block:∀ k,k<w.heap.size→¬ S k→w'.heap[k]?=w.heap[k]?
theorem Chg.refl(S:Nat→Prop)(w:World):Chg S w w:=⟨rfl,rfl,rfl,Nat.le_refl _,fun _ _ _=>rfl⟩
theorem Chg.trans{S:Nat→Prop}{a b c:World}(h:Chg S a b)(k:Chg S b c):Chg S a c :=
 ⟨k.os.trans h.os,k.tape.trans h.tape,k.output.trans h.output,Nat.le_trans h.size k.size,fun i hi hs=>(k.block i (Nat.lt_of_lt_of_le hi h.size) hs).trans (h.block i hi hs)⟩
theorem Chg.mono{S T:Nat→Prop}{w w':World}(h:Chg S w w')(hT:∀ i,i<w.heap.size→S i→T i):Chg T w w' :=
 ⟨h.os,h.tape,h.output,h.size,fun i hi ht=>h.block i hi fun s=>ht (hT i hi s)⟩
theorem Chg.drew{S:Nat→Prop}{a w:World}(h:Chg S a w):Chg S a w.drew:=⟨h.os,h.tape,h.output,h.size,h.block⟩
theorem Chg.alloc{S:Nat→Prop}{a w:World}(h:Chg S a w)(o:Obj):Chg S a (w.alloc o) :=
 ⟨h.os,h.tape,h.output,by have:=h.size; simp; omega,fun k hk hs=>(Below.heap_alloc w o k (Nat.lt_of_lt_of_le hk h.size)).trans (h.block k hk hs)⟩
theorem Chg.setCell{S:Nat→Prop}{a w:World}(h:Chg S a w)(p:Addr)(v:Value)(hp:p.block<a.heap.size→S p.block):Chg S a (w.setCell p v) :=
 have b:=(Below.refl 0 w).setCell (p:=p) (Nat.zero_le _) v
 ⟨b.os.trans h.os,b.tape.trans h.tape,b.output.trans h.output,Nat.le_trans h.size b.size,fun k hk hs=>(Below.heap_setCell w p v k (by rintro rfl; exact hs (hp hk))).trans (h.block k hk hs)⟩
theorem Chg.grown{S:Nat→Prop}{a w w':World}{row:Option Nat}(h:Chg S a w)(hg:w.grownBy w' row)(hr:∀ k,row=some k→k<a.heap.size→S k):Chg S a w' :=
 ⟨hg.os.trans h.os,hg.tape.trans h.tape,hg.output.trans h.output,Nat.le_trans h.size hg.size,
  fun k hk hs=>(hg.block k (Nat.lt_of_lt_of_le hk h.size) (fun e=>hs (hr k e.symm hk))).trans (h.block k hk hs)⟩
theorem Chg.below{S:Nat→Prop}{w w':World}{B:Nat}(h:Chg S w w')(hB:B≤w.heap.size)(hS:∀ k,k<B→¬ S k):Below B w w' :=
 ⟨h.os,h.tape,h.output,h.size,fun k hk=>h.block k (Nat.lt_of_lt_of_le hk hB) (hS k hk)⟩
theorem Chg.of_below{S:Nat→Prop}{w w':World}(h:Below w.heap.size w w'):Chg S w w':=⟨h.os,h.tape,h.output,h.size,fun k hk _=>h.block k hk⟩
theorem Chg.own{S:Nat→Prop}{w w':World}(h:Chg S w w'){B e size n:Nat}{v:Value}{xs:List Value}(hv:w.ownsRow B e size v n xs)(hS:∀ k,v.ownBlock=some k→¬ S k):w'.ownsRow B e size v n xs:=by
 refine ⟨hv.1,hv.2.imp id ?_⟩
 rintro ⟨g,cap,cur,rfl,h2,h3,h4⟩
 refine ⟨g,cap,cur,rfl,h2,(h.block g ?_ (hS g rfl)).trans h3,h4⟩
 rcases Nat.lt_or_ge g w.heap.size with hlt | hge
 ·exact hlt
 ·rw [Array.getElem?_eq_none hge] at h3; cases h3
theorem add_add(a:Addr)(m n:Nat):(a.add m).add n=a.add (m+n):=by
 unfold Addr.add
 by_cases hm:m=0
 ·subst hm; simp
 ·by_cases hn:n=0
  ·subst hn; simp
  ·rw [if_neg hm,if_neg hn,if_neg (by omega)]
   simp [Nat.add_assoc]
theorem flat_get{α:Type}(enc:α→List Value)(sz:Nat)(h:∀ a,(enc a).length=sz):∀ (els:List α) (k i:Nat),i<sz→(els.flatMap enc)[k * sz+i]?=(els[k]?).bind fun a=>(enc a)[i]?
 | [],k,i,_=>by simp
 | a::els,0,i,hi=>by
  rw [List.flatMap_cons,Nat.zero_mul,Nat.zero_add,List.getElem?_append_left (by rw [h]; exact hi)]
  rfl
 | a::els,k+1,i,hi=>by
  have e:(k+1) * sz+i=sz+(k * sz+i):=by rw [Nat.add_mul]; omega
  rw [List.flatMap_cons,e,List.getElem?_append_right (by rw [h]; omega),h,Nat.add_sub_cancel_left,flat_get enc sz h els k i hi]
  rfl
theorem cellsAt_flat{α:Type}{enc:α→List Value}{sz:Nat}(h:∀ a,(enc a).length=sz){els:List α}{w:World}{ad:Addr}{k:Nat}{a:α}
  (hcell:∀ j u,(els.flatMap enc)[j]?=some u→w.cell? (ad.add j)=some u) (hk:els[k]?=some a):cellsAt w (ad.add (k * sz)) (enc a):=by
 intro i v hv
 rw [add_add]
 refine hcell _ _ ?_
 have hi:i<sz:=by
  have:=(List.getElem?_eq_some_iff.1 hv).1
  rwa [h] at this
 rw [flat_get enc sz h els k i hi,hk]
 exact hv
theorem bytesAt_new(w:World)(n:Nat)(e:Nat):bytesAt (w.alloc (.cells (zerosA (.int .u8 0) n) e)) (some ⟨w.heap.size,0,none⟩) (List.replicate n 0):=by
 intro i b h
 simp only [Addr.add_lit,Nat.zero_add]
 obtain ⟨hi,hb⟩:=List.getElem?_eq_some_iff.1 h
 simp only [List.length_replicate] at hi
 simp only [List.getElem_replicate] at hb
 subst hb
 rw [World.cell?_alloc_at _ _ _ _ rfl]
 simp [zerosA,hi]
theorem Below.next{a b c:World}(h:Below a.heap.size a b)(k:Below b.heap.size b c):Below a.heap.size a c:=h.trans (k.mono h.size)
section
variable {P:Program} {w:World} {K:Value→World→Prop}
theorem setCells_new(n:Nat)(hn:n=w.heap.size)(t:TypeId):∀ (vs:List Value) (k:Nat) (z:Array Value),setCellsW (w.alloc (.cells z t)) ⟨n,0,none⟩ k vs=w.alloc (.cells (setFrom z k vs) t)
 | [],_,_=>rfl
 | v::vs,k,z=>by
  rw [setCellsW,Addr.add_lit,Nat.zero_add,World.setCell_alloc_at (hn:=hn),setCells_new n hn t vs (k+1)]
  rfl
theorem storeW_new{n:Nat}{t t':TypeId}{z:Array Value}{v:Value}(hn:n=w.heap.size)(hz:sizeT P t=some v.cells.size)(hs:z.size=v.cells.size)(h1:∀ u∈v.cells.toList,u.oneCell'=true)
  (hK:K undef (w.alloc (.cells v.cells t'))):storeW P t ⟨n,0,none⟩ v (w.alloc (.cells z t')) K:=by
 refine ⟨hz,h1,fun i hi=>⟨?_,?_⟩,?_⟩
 ·rw [Addr.add_lit,Nat.zero_add,World.cell?_alloc_at (hn:=hn)]
  exact ⟨z[i]'(by omega),Array.getElem?_eq_getElem (by omega)⟩
 ·rw [Addr.add_lit,World.frozen?_alloc_at (hn:=hn)]
 ·rw [setCells_new n hn t' _ 0 z,setFrom_all _ _ (by simpa using hs)]
  simpa using hK
theorem fold_set(off:Nat):∀ (l:List Value) (k:Nat) (acc:Array Value),(l.zipIdx k).foldl (fun cs (x:Value × Nat)=>cs.setIfInBounds (off+x.2) x.1) acc=setFrom acc (off+k) l
 | [],_,_=>rfl
 | v::l,k,acc=>by
  rw [List.zipIdx_cons,List.foldl_cons,fold_set off l (k+1)]
  rfl
theorem fill_whole{cs z:Array Value}{size:Nat}(hz:z.size=cs.size)(hs:cs.size=size):Instr.fill (fun i=>some (i * size,size)) z [(0,.agg cs)]=some cs:=by
 have hc:(Value.agg cs).cells=cs:=rfl
 simp only [Instr.fill,hc,Nat.zero_mul,hs,ne_eq,not_true,decide_false,Bool.false_or]
 rw [if_neg (by simp; omega)]
 have:=fold_set 0 cs.toList 0 z
 rw [setFrom_all _ _ (by simpa using hz)] at this
 simp only [Option.some.injEq]
 rw [← Array.foldl_toList,Array.toList_zipIdx]
 simpa using this
theorem bsW_agg{t e size bytes:Nat}{z:Value}{cs:Array Value}(hm:mkI P t=some (e,size,bytes,z))(hs:cs.size=size)(h0:size≤16777216)(h1:size≠0)
  (hK:K (.slice (some ⟨w.heap.size,0,none⟩) 1 1) (w.alloc (.cells cs e))):bsW P t 1 [0] [.agg cs] w K :=
 bsW_cells hm (by omega) (by omega) (fill_whole (by simp [size_madeCells,hs]) hs) hK
theorem bdW_built{t:TypeId}{is:List Nat}{vs:List Value}{cells:Array Value}(h:P.built t (zipP is vs)=some cells)(hK:K (.agg cells) w):bdW P t is vs w K :=
 ⟨_,_,run_build w t (zipP is vs).toArray cells (by simpa using h),hK⟩
theorem callW_mono{f:Value}{args:List Value}{K K':Value→World→Prop}(h:callW P f args w K)(hk:∀ v w',K v w'→K' v w'):callW P f args w K':=by
 cases f with
 | func g a b=>cases g with
  | func n =>
   rcases h with h | ⟨h1,v,w',h2,h3⟩
   ·exact .inl ⟨h.1,h.2.mono hk⟩
   ·exact .inr ⟨h1,v,w',h2,hk _ _ h3⟩
  | yield l =>
   obtain ⟨h1,h2,fn,tmps,ag,bd,hr,hR⟩:=h
   exact ⟨h1,h2,fn,tmps,ag,bd,hr,RoundIn.mono hR fun e w' ⟨v,he,hv⟩=>⟨v,he,hk v w' hv⟩⟩
  | _=>exact h.elim
 | _=>exact h.elim
theorem rawB_append{t ty e size bytes:Nat}{z:Value}{cs:Array Bool}{base n m c:Nat}{v:Value}{xs news:List Value}{ad:Addr}
  (hm:mkI P t=some (e,size,bytes,z)) (hzs:z.cells.size=size) (hsz:0<size)
  (hown:w.ownsRow base e size v n xs) (hl:news.length=m * size) (hnews:∀ j u,news[j]?=some u→w.cell? (ad.add j)=some u)
  (h1:∀ u∈news,u.oneCell'=true) (h0:0<m) (hbytes:(n+m) * bytes≤140737488355328) (h63:n+m≤9223372036854775807) (hbase:base≤w.heap.size)
  (hK:∀ g cap w',w'.ownsRow base e size (.slice (some ⟨g,0,none⟩) (n+m) cap) (n+m) (xs++news)→w.grownBy w' v.ownBlock→(v.ownBlock=some g∨g=w.heap.size)→g<w'.heap.size →
   K (.slice (some ⟨g,0,none⟩) (n+m) cap) w') :
  rawB P .append #[t,t] ty cs [v,.slice (some ad) m c] w K:=by
 obtain ⟨i,hu,hi,hzz,hsi,hby⟩:=mkI_some hm
 obtain ⟨g,cap,w',hr,h2,h3,h4,h5⟩:=run_append_lies (P:=P) w t ty base e i z size bytes hu hi hzz hsi.symm hby.symm hzs hsz v n xs hown ad m c news hl hnews h1 h0 (by have:maxLen=9223372036854775807:=(by decide); omega) hbytes hbase w.heap.size rfl
 refine ⟨_,w',?_,hK g cap w' h2 h3 h4 h5⟩
 simp only [builtin,Sem.run_bind,hr,Result.andThen_ok,Sem.run_pure]
def plcT(P:Program)(t:TypeId):Option (List (Nat × Nat)) :=
 match P.underlying t with
 | some (.struct fields)=>fields.toList.mapM fun f=>(P.info? f.type).map fun i=>(f.offset,i.size)
 | _=>none
def fillS(pl:List (Nat × Nat)):Array Value→List (Nat × Value)→Option (Array Value)
 | cs,[]=>some cs
 | cs,(i,v)::r=>match pl[i]? with
  | some (off,size)=>if v.cells.size=size∧off+size≤cs.size then fillS pl (setFrom cs off v.cells.toList) r else none
  | none=>none
def bdD(pl:Option (List (Nat × Nat)))(z:Option Value)(parts:List (Nat × Value))(w:World)(K:Value→World→Prop):Prop :=
 match pl,z with
 | some pl,some z=>(match fillS pl z.cells parts with
  | some cells=>K (.agg cells) w
  | none=>False)
 | _,_=>False
def agW(o:Option (Array Value))(w:World)(K:Value→World→Prop):Prop :=
 match o with
 | some cells=>K (.agg cells) w
 | none=>False
theorem bdD_some{pl:List (Nat × Nat)}{z:Value}{parts:List (Nat × Value)}:bdD (some pl) (some z) parts w K=agW (fillS pl z.cells parts) w K:=by
 simp only [bdD,agW]
theorem agW_some{cs:Array Value}:agW (some cs) w K=K (.agg cs) w:=rfl
theorem fillS_nil{pl:List (Nat × Nat)}{cs:Array Value}:fillS pl cs []=some cs:=rfl
def plD(o:Option (Nat × Nat))(f:Nat→Nat→Option (Array Value)):Option (Array Value):=match o with | some (a,b)=>f a b | none=>none
theorem plD_some{a b:Nat}{f:Nat→Nat→Option (Array Value)}:plD (some (a,b)) f=f a b:=rfl
theorem fillS_cons{pl:List (Nat × Nat)}{cs:Array Value}{i:Nat}{v:Value}{r:List (Nat × Value)}:fillS pl cs ((i,v)::r)=plD pl[i]? fun off size=>if v.cells.size=size∧off+size≤cs.size then fillS pl (setFrom cs off v.cells.toList) r else none:=by
 simp only [fillS,plD]
theorem cells_agg{cs:Array Value}:(Value.agg cs).cells=cs:=rfl
theorem cells_int{k:IntKind}{n:Int}:(Value.int k n).cells=#[.int k n]:=rfl
theorem cells_bool{b:Bool}:(Value.bool b).cells=#[.bool b]:=rfl
theorem cells_string{b:ByteArray}:(Value.string b).cells=#[.string b]:=rfl
theorem cells_slice{a:Option Addr}{n c:Nat}:(Value.slice a n c).cells=#[.slice a n c]:=rfl
theorem cells_ptr{a:Option Addr}:(Value.pointer a).cells=#[.pointer a]:=rfl
theorem cells_map{a:Option Nat}:(Value.map a).cells=#[.map a]:=rfl
theorem cells_func{f:Fn}{a c:Array Value}:(Value.func f a c).cells=#[.func f a c]:=rfl
theorem cells_nilFunc:Value.nilFunc.cells=#[.nilFunc]:=rfl
theorem setFrom_nil{cs:Array Value}{k:Nat}:setFrom cs k []=cs:=rfl
theorem setFrom_cons{cs:Array Value}{k:Nat}{v:Value}{vs:List Value}:setFrom cs k (v::vs)=setFrom (cs.setIfInBounds k v) (k+1) vs:=rfl
end
attribute [go_sem] bdD_some agW_some fillS_nil plD_some fillS_cons cells_agg cells_int cells_bool cells_string cells_slice cells_ptr cells_map cells_func cells_nilFunc setFrom_nil setFrom_cons
end Go.Ann

namespace Go.Ann
open Go Go.RowKit
section
variable {P:Program} {ops:Array Oper} {Q:Exit→Act→World→Prop} {md:Region.Mode} {S T:World→Prop} {hb:List Nat}
def needB(md:Region.Mode)(ops:Array Oper)(hb:List Nat)(j:Nat):Bool :=
 match ops[j]? with
 | some o=>!(hb.all fun h=>o.after.any fun e=>Region.binds md e && e.on == h)
 | none=>true
def wpAnyG(P:Program)(md:Region.Mode)(ops:Array Oper)(Q:Exit→Act→World→Prop)(S:World→Prop)(hb:List Nat):Nat→Array Bool→Act→World→Prop
 | 0,listed,a,w=>Region.ready md ops listed=[]∧Q .normal a w
 | fuel+1,listed,a,w =>
  (Region.ready md ops listed=[]→Q .normal a w) ∧
  ∀ i∈Region.ready md ops listed,wpOp P ops Q i (fun a' w'=>(needB md ops hb i=true→S w→S w')∧wpAnyG P md ops Q S hb fuel (listed.setIfInBounds i true) a' w') a w
theorem wpAny_of_G:∀ (fuel:Nat) (listed:Array Bool) (a:Act) (w:World),wpAnyG P md ops Q S hb fuel listed a w→wpAny P md ops Q fuel listed a w
 | 0,_,_,_,h=>h
 | fuel+1,_,_,_,h=>⟨h.1,fun i hi=>wpOp_mono (fun a' w' h'=>wpAny_of_G fuel _ a' w' h'.2) (h.2 i hi)⟩
theorem unlisted_after{i j:Nat}{listed:Array Bool}(hi:i∈Region.ready md ops listed){oj:Oper}(hall:∀ e∈oj.after,Region.binds md e=true→listed.getD e.on false=true) :
  ∀ e∈oj.after,Region.binds md e=true→e.on≠i:=by
 intro e he hb heq
 have h1:=hall e he hb
 have h0:=(mem_ready.1 hi).1
 rw [heq] at h1
 rcases Nat.lt_or_ge i listed.size with h' | h'
 ·simp [h'] at h0 h1; rw [h0] at h1; cases h1
 ·simp [Array.getElem?_eq_none h'] at h1
theorem wpAnyG_first{i:Nat}{oi:Oper}{v:Value}(hi:ops[i]?=some oi)(hsel:∀ (j:Nat) (o:Oper) cs b,ops[j]?=some o→o.op≠.select cs b)
  (hT:(∀ w,T w)∨(i∈hb∧T=S)) (hQ:∀ c a w,Q (.panic c) (a.put oi.dst v) w→Q (.panic c) a w) :
  ∀ (fuel:Nat) (listed:Array Bool) (a:Act) (w:World),
   (∀ j oj,ops[j]?=some oj→j≠i→listed.getD j true=false→(∀ e∈oj.after,Region.binds md e=true→e.on≠i)→oi.apart ops oj=true) →
   i∈Region.ready md ops listed→YieldsIf P ops T oi v a→T w →
   wpAnyG P md ops Q S hb fuel (listed.setIfInBounds i true) (a.put oi.dst v) w→wpAnyG P md ops Q S hb (fuel+1) listed a w:=by
 intro fuel
 induction fuel with
 | zero =>
  intro listed a w _ hr hy hS H
  refine ⟨fun h=>(by rw [h] at hr; cases hr),fun j hj=>?_⟩
  by_cases hji:j=i
  ·subst hji; exact hy.wpOp hi hS ⟨fun _ h=>h,H⟩
  ·have:=ready_mono hj hji
   rw [H.1] at this
   cases this
 | succ fuel ih =>
  intro listed a w hfree hr hy hS H
  refine ⟨fun h=>(by rw [h] at hr; cases hr),fun j hj=>?_⟩
  by_cases hji:j=i
  ·subst hji; exact hy.wpOp hi hS ⟨fun _ h=>h,H⟩
  ·have h1:=H.2 j (ready_mono hj hji)
   obtain ⟨hjun,oj,hoj,hall⟩:=mem_ready.1 hj
   have hnot:=unlisted_after (j:=j) hr hall
   have h2:=wpOp_putIf hoj (hfree j oj hoj hji hjun hnot) (fun cs b=>hsel i oi cs b hi) (fun cs b=>hsel j oj cs b hoj) hQ hy h1
   have hfree':∀ k ok,ops[k]?=some ok→k≠i→(listed.setIfInBounds j true).getD k true=false →
     (∀ e∈ok.after,Region.binds md e=true→e.on≠i)→oi.apart ops ok=true:=fun k ok hk hki hun hno=>by
    refine hfree k ok hk hki ?_ hno
    by_cases hjk:j=k
    ·subst hjk; exact hjun
    ·rw [getD_set_ne true hjk] at hun; exact hun
   refine wpOp_mono (fun a' w' h3=>⟨h3.2.1,ih (listed.setIfInBounds j true) a' w' hfree' (ready_mono hr (Ne.symm hji)) h3.1 ?_ ?_⟩) h2
   ·rcases hT with hT | ⟨hib,rfl⟩
    ·exact hT w'
    ·refine h3.2.1 ?_ hS
     unfold needB
     rw [hoj]
     simp only [Bool.not_eq_true']
     rw [Bool.eq_false_iff]
     intro hc
     have:=List.all_eq_true.1 hc i hib
     obtain ⟨e,he,hb'⟩:=Array.any_eq_true'.1 this
     simp only [Bool.and_eq_true,beq_iff_eq] at hb'
     exact hnot e he hb'.1 hb'.2
   ·rw [Array.setIfInBounds_comm _ _ hji]
    exact h3.2.2
theorem wpAnyG_take{i:Nat}{oi:Oper}{v:Value}{fuel:Nat}{listed:Array Bool}{a:Act}{w:World}(hi:ops[i]?=some oi)
  (hs:Region.noSelect ops=true) (hf:Region.free md ops listed i=true) (hr:(Region.ready md ops listed).contains i=true)
  (hT:(∀ w,T w)∨(i∈hb∧T=S)) (hQ:∀ c a w,Q (.panic c) (a.put oi.dst v) w→Q (.panic c) a w) (hy:YieldsIf P ops T oi v a) (hTw:T w)
  (h:wpAnyG P md ops Q S hb fuel (listed.setIfInBounds i true) (a.put oi.dst v) w):wpAnyG P md ops Q S hb (fuel+1) listed a w :=
 wpAnyG_first hi (Region.noSelect_spec hs) hT hQ fuel listed a w (Region.free_spec hi hf) (by simpa using hr) hy hTw h
theorem wpAnyG_all{rs:List Nat}{fuel:Nat}{listed:Array Bool}{a:Act}{w:World}(hr:Region.ready md ops listed=rs)(hne:rs≠[])
  (h:∀ i∈rs,wpOp P ops Q i (fun a' w'=>(needB md ops hb i=true→S w→S w')∧wpAnyG P md ops Q S hb fuel (listed.setIfInBounds i true) a' w') a w):wpAnyG P md ops Q S hb (fuel+1) listed a w :=
 ⟨fun h0=>absurd (hr ▸ h0) hne,hr ▸ h⟩
end
section
variable {P:Program} {N:Nat} {S:World→Prop}
def heldW(P:Program)(S:World→Prop)(t:TypeId)(p:Addr)(w:World)(K:Value→World→Prop):Prop :=
 ∃ v,(∀ w',S w'→loadW P t p w' fun v' w''=>v'=v∧w''=w')∧K v w
def opH(P:Program)(S:World→Prop)(op:Op)(ty:TypeId)(ρ:Env)(w:World)(K:Value→World→Prop):Prop :=
 match op with
 | .load t a=>ptrW (fun p=>heldW P S t p w K) (ev ρ a)
 | _=>False
def opG(P:Program)(S:World→Prop)(k:Nat)(op:Op)(ty:TypeId)(ρ:Env)(w:World)(K:Value→World→Prop):Prop :=
 match k with
 | 0=>pureW P op ty ρ w K
 | 1=>opH P S op ty ρ w K
 | 2=>noY ρ op∧opW P op ty ρ w fun v w'=>S w'∧K v w'
 | _=>noY ρ op∧opW P op ty ρ w K
theorem opH_runs{op:Op}{ty:TypeId}{ρ:Env}{w:World}{K:Value→World→Prop}(h:opH P S op ty ρ w K) :
  ∃ v,(∀ a:Operand→Value,(∀ x v,ev ρ x=some v→a x=v)→∀ w',S w'→(execOp a (rawOp op ty)).run P w'=.ok (.value v) w')∧K v w:=by
 unfold opH at h
 split at h
 ·obtain ⟨p,hp,v,h,hk⟩:=ptrW_out h
  refine ⟨v,fun a ha w' hS=>?_,hk⟩
  obtain ⟨v',hr,rfl,_⟩:=loadW_out (h w' hS)
  simp only [execOp,rawOp,ha _ _ hp]
  exact run_val (by simp only [Instr.loadAt,Instr.sureAddr,Sem.run_bind,Sem.run_pure,Result.andThen,hr])
 ·exact h.elim
def DG(P:Program)(S:World→Prop):List (Nat × Ins)→List Nat→Env→World→Post→Prop
 | [],L,ρ,w,Q=>Q .normal (restr L ρ) w
 | (k,⟨d,op,ty,none⟩)::r,L,ρ,w,Q=>opG P S k op ty ρ w fun v w'=>DG P S r L (put ρ d v) w' Q
 | (k,⟨d,op,ty,some (s,b)⟩)::r,L,ρ,w,Q=>match lk ρ s with
  | some (.bool c)=>(c=b→opG P S k op ty ((s,.bool b)::ρ) w fun v w'=>DG P S r L (put ((s,.bool b)::ρ) d v) w' Q) ∧
    (c=!b→DG P S r L (put ((s,.bool !b)::ρ) d undef) w Q)
  | some (.tuple _)=>DG P S r L (put ρ d undef) w Q
  | _=>False
def schedG(ops:Array Oper)(hb:List Nat):List (Nat × Nat)→Array Bool→Bool
 | [],listed=>(Region.ready .any ops listed).isEmpty
 | (0,i)::r,listed=>(Region.ready .any ops listed).contains i && Region.free .any ops listed i && schedG ops hb r (listed.setIfInBounds i true)
 | (1,i)::r,listed=>hb.contains i && (Region.ready .any ops listed).contains i && Region.free .any ops listed i && schedG ops hb r (listed.setIfInBounds i true)
 | (2,i)::r,listed=>(Region.ready .any ops listed == [i]) && schedG ops hb r (listed.setIfInBounds i true)
 | (_,i)::r,listed=>(Region.ready .any ops listed == [i]) && !(needB .any ops hb i) && !(r.any fun x=>x.1 == 1) && schedG ops hb r (listed.setIfInBounds i true)
def insG(l:List Oper):List (Nat × Nat)→Option (List (Nat × Ins))
 | []=>some []
 | (p,i)::r=>match l[i]? with
  | none=>none
  | some o=>match stripG l o.guard,insG l r with
   | some g,some q=>some ((p,⟨o.dst,o.op,o.type,g⟩)::q)
   | _,_=>none
theorem wpOp_doneG{ops:Array Oper}{i:Nat}{o:Oper}{a:Act}{w:World}{K:Value→World→Prop}{next:Act→World→Prop}{Q:Exit→Act→World→Prop}(hi:ops[i]?=some o)
  (hw:Region.wanted o (yielded ops a.tmps)=true) (h:Done P (execOp a.eval (rawOp o.op o.type)) w K) (hk:∀ v w',K v w'→next (a.put o.dst v) w'):wpOp P ops Q i next a w:=wpOp_done hi hw h hk
theorem DG_sound{l:List Oper}(hall:l.all (fun o=>okDst N o.dst)=true)(hns:Region.noSelect l.toArray=true)(hb:List Nat):∀ (sched:List (Nat × Nat)) (ins:List (Nat × Ins)) (L:List Nat) (ρ:Env) (w:World) (Q:Post) (a:Act) (listed:Array Bool),
  insG l sched=some ins→schedG l.toArray hb sched listed=true→Sim N a ρ→((sched.any fun x=>x.1 == 1)=true→S w)→DG P S ins L ρ w Q→wpAnyG P .any l.toArray (drawQ N L Q) S hb sched.length listed a w
 | [],ins,L,ρ,w,Q,a,listed,hi,hok,hs,hSw,h=>by
  simp only [insG,Option.some.injEq] at hi; subst hi
  simp only [schedG,List.isEmpty_iff] at hok
  exact ⟨hok,ρ,hs,rfl,h⟩
 | (k,i)::r,ins,L,ρ,w,Q,a,listed,hi,hok,hs,hSw,h=>by
  simp only [insG] at hi
  split at hi
  ·cases hi
  rename_i o ho
  split at hi
  case h_2=>cases hi
  rename_i g q hg hq
  simp only [Option.some.injEq] at hi; subst hi
  have ho':l.toArray[i]?=some o:=by simpa using ho
  have hd:okDst N o.dst=true:=List.all_eq_true.1 hall o (List.mem_of_getElem? ho)
  have hSr:(r.any fun x=>x.1 == 1)=true→S w:=fun h=>hSw (by simp only [List.any_cons,h,Bool.or_true])
  have hpan:∀ (d:Option Nat) (v:Value) c (a:Act) (w:World),drawQ N L Q (.panic c) (a.put d v) w→drawQ N L Q (.panic c) a w:=by
   rintro d v c a w ⟨_,_,hn,_⟩; cases hn
  have take:∀ (ρ':Env),Sim N a ρ'→(Region.wanted o (yielded l.toArray a.tmps)=true) →
    opG P S k o.op o.type ρ' w (fun v w'=>DG P S q L (put ρ' o.dst v) w' Q) →
    wpAnyG P .any l.toArray (drawQ N L Q) S hb (r.length+1) listed a w:=by
   intro ρ' hs' hw h
   match k,hok,hSw,h with
   | 0,hok,hSw,h =>
    simp only [schedG,Bool.and_eq_true] at hok
    obtain ⟨v,hv,hk⟩:=pureW_runs (show pureW P o.op o.type ρ' w _ from h)
    refine wpAnyG_take (T:=fun _=>True) ho' hns hok.1.2 hok.1.1 (.inl fun _=>trivial) (hpan _ _) (.inl ⟨hw,fun w' _=>?_⟩) trivial (DG_sound hall hns hb r q L _ w Q _ _ hq hok.2 (hs'.put hd v) hSr hk)
    rw [execOp_raw]; exact hv a.eval hs'.eval w'
   | 1,hok,hSw,h =>
    simp only [schedG,Bool.and_eq_true,List.contains_iff_mem] at hok
    obtain ⟨v,hv,hk⟩:=opH_runs (show opH P S o.op o.type ρ' w _ from h)
    refine wpAnyG_take (T:=S) ho' hns hok.1.2 (by simpa using hok.1.1.2) (.inr ⟨hok.1.1.1,rfl⟩) (hpan _ _) (.inl ⟨hw,fun w' hw'=>?_⟩) (hSw (by simp)) (DG_sound hall hns hb r q L _ w Q _ _ hq hok.2 (hs'.put hd v) hSr hk)
    rw [execOp_raw]; exact hv a.eval hs'.eval w' hw'
   | 2,hok,hSw,h =>
    simp only [schedG,Bool.and_eq_true,beq_iff_eq] at hok
    refine wpAnyG_all hok.1 (by simp) fun j hj=>?_
    simp only [List.mem_singleton] at hj; subst hj
    refine wpOp_doneG ho' hw (opW_done (show opW P o.op o.type ρ' w _ from h.2) h.1 a.eval hs'.eval) fun v w' hk=>⟨fun _ _=>hk.1,DG_sound hall hns hb r q L _ w' Q _ _ hq hok.2 (hs'.put hd v) (fun _=>hk.1) hk.2⟩
   | k+3,hok,hSw,h =>
    simp only [schedG,Bool.and_eq_true,beq_iff_eq,Bool.not_eq_true'] at hok
    refine wpAnyG_all hok.1.1.1 (by simp) fun j hj=>?_
    simp only [List.mem_singleton] at hj; subst hj
    refine wpOp_doneG ho' hw (opW_done (show opW P o.op o.type ρ' w _ from h.2) h.1 a.eval hs'.eval) fun v w' hk=>⟨fun hn=>?_,DG_sound hall hns hb r q L _ w' Q _ _ hq hok.2 (hs'.put hd v) (fun hn=>?_) hk⟩
    ·rw [hok.1.1.2] at hn; cases hn
    ·rw [hok.1.2] at hn; cases hn
  have skip:∀ (ρ':Env),Sim N a ρ'→(Region.wanted o (yielded l.toArray a.tmps)=false)→DG P S q L (put ρ' o.dst undef) w Q→wpAnyG P .any l.toArray (drawQ N L Q) S hb (r.length+1) listed a w:=by
   intro ρ' hs' hw h2
   match k,hok with
   | 0,hok =>
    simp only [schedG,Bool.and_eq_true] at hok
    exact wpAnyG_take (T:=fun _=>True) ho' hns hok.1.2 hok.1.1 (.inl fun _=>trivial) (hpan _ _) (.inr ⟨hw,rfl⟩) trivial (DG_sound hall hns hb r q L _ w Q _ _ hq hok.2 (hs'.put hd undef) hSr h2)
   | 1,hok =>
    simp only [schedG,Bool.and_eq_true,List.contains_iff_mem] at hok
    exact wpAnyG_take (T:=fun _=>True) ho' hns hok.1.2 (by simpa using hok.1.1.2) (.inl fun _=>trivial) (hpan _ _) (.inr ⟨hw,rfl⟩) trivial (DG_sound hall hns hb r q L _ w Q _ _ hq hok.2 (hs'.put hd undef) hSr h2)
   | 2,hok =>
    simp only [schedG,Bool.and_eq_true,beq_iff_eq] at hok
    refine wpAnyG_all hok.1 (by simp) fun j hj=>?_
    simp only [List.mem_singleton] at hj; subst hj
    exact wpOp_skip ho' hw ⟨fun _ h=>h,DG_sound hall hns hb r q L _ w Q _ _ hq hok.2 (hs'.put hd undef) hSr h2⟩
   | k+3,hok =>
    simp only [schedG,Bool.and_eq_true,beq_iff_eq,Bool.not_eq_true'] at hok
    refine wpAnyG_all hok.1.1.1 (by simp) fun j hj=>?_
    simp only [List.mem_singleton] at hj; subst hj
    exact wpOp_skip ho' hw ⟨fun _ h=>h,DG_sound hall hns hb r q L _ w Q _ _ hq hok.2 (hs'.put hd undef) hSr h2⟩
  cases hgo:o.guard with
  | none =>
   rw [hgo] at hg
   simp only [stripG,Option.some.injEq] at hg; subst hg
   simp only [DG] at h
   exact take ρ hs (by simp only [Region.wanted,hgo]) h
  | some jb =>
   obtain ⟨j,b⟩:=jb
   rw [hgo] at hg
   simp only [stripG] at hg
   split at hg
   case h_2=>cases hg
   rename_i s hs0
   simp only [Option.some.injEq] at hg; subst hg
   simp only [DG] at h
   split at h
   ·rename_i c hc
    have hy:=yielded_of hs hs0 hc
    by_cases hcb:c=b
    ·subst hcb
     exact take _ (hs.know hc) (by simp only [Region.wanted,hgo,hy,beq_self_eq_true]) (h.1 rfl)
    ·have hcb':c=!b:=bool_ne hcb
     have hc':lk ρ s=some (.bool !b):=by rw [← hcb']; exact hc
     exact skip _ (hs.know hc') (by simp only [Region.wanted,hgo,hy]; simpa using hcb) (h.2 hcb')
   ·rename_i u hc
    exact skip ρ hs (by simp only [Region.wanted,hgo,yielded_undef hs hs0 hc]; rfl) h
   ·exact h.elim
theorem drawW_held{l:List Oper}{L:List Nat}{ρ:Env}{w:World}{Q:Post}(hb:List Nat)(sched:List (Nat × Nat))(ins:List (Nat × Ins))(hm:P.follows .mixedOrders=true)
  (hi:insG l sched=some ins) (hok:(Region.noSelect l.toArray && (sched.length == l.length) && schedG l.toArray hb sched (Array.replicate l.length false))=true)
  (S:World→Prop) (hS:S w.drew) (h:DG P S ins L ρ w.drew Q):drawW P l L ρ w Q:=by
 intro N a hall hs
 refine .inl ?_
 simp only [Bool.and_eq_true,beq_iff_eq] at hok
 refine ops_of_any hm (wpAny_of_G (S:=S) (hb:=hb) _ _ _ _ ?_)
 have:=DG_sound (S:=S) hall hok.1.1 hb sched ins L ρ w.drew Q a (Array.replicate l.length false) hi hok.2 hs (fun _=>hS) h
 rw [hok.1.2] at this
 have e:l.toArray.size=l.length:=by simp
 rw [e]
 exact this
end
section
variable {P:Program} {S:World→Prop} {w:World} {K:Value→World→Prop} {ρ:Env} {Q:Post} {r:List (Nat × Ins)} {L:List Nat} {d:Option Nat} {ty:TypeId} {k:Nat} {op:Op} {s:Nat} {b c:Bool}
def DGn(P:Program)(S:World→Prop)(r:List (Nat × Ins))(L:List Nat)(ρ:Env)(d:Option Nat)(Q:Post):Value→World→Prop:=fun v w=>DG P S r L (put ρ d v) w Q
def DGs(P:Program)(S:World→Prop)(r:List (Nat × Ins))(L:List Nat)(ρ:Env)(d:Option Nat)(Q:Post):Value→World→Prop:=fun v w=>S w∧DG P S r L (put ρ d v) w Q
def opG'(P:Program)(S:World→Prop)(k:Nat)(op:Op)(ty:TypeId)(r:List (Nat × Ins))(L:List Nat)(ρ:Env)(d:Option Nat)(w:World)(Q:Post):Prop:=opG P S k op ty ρ w (DGn P S r L ρ d Q)
def dG(P:Program)(S:World→Prop)(o:Option Value)(s:Nat)(b:Bool)(k:Nat)(d:Option Nat)(op:Op)(ty:TypeId)(r:List (Nat × Ins))(L:List Nat)(ρ:Env)(w:World)(Q:Post):Prop :=
 match o with
 | some (.bool c)=>(c=b→opG' P S k op ty r L ((s,.bool b)::ρ) d w Q)∧(c=!b→DG P S r L (put ((s,.bool !b)::ρ) d undef) w Q)
 | some (.tuple _)=>DG P S r L (put ρ d undef) w Q
 | _=>False
theorem DG_nil:DG P S [] L ρ w Q=Q .normal (restr L ρ) w:=(rfl)
theorem DG_cons:DG P S ((k,⟨d,op,ty,none⟩)::r) L ρ w Q=opG' P S k op ty r L ρ d w Q:=(rfl)
theorem DG_guard:DG P S ((k,⟨d,op,ty,some (s,b)⟩)::r) L ρ w Q=dG P S (lk ρ s) s b k d op ty r L ρ w Q:=by
 simp only [DG,dG]; rfl
theorem DGn_app{v:Value}:DGn P S r L ρ d Q v w=DG P S r L (put ρ d v) w Q:=(rfl)
theorem DGs_app{v:Value}:DGs P S r L ρ d Q v w=(S w∧DG P S r L (put ρ d v) w Q):=(rfl)
theorem opG_0:opG' P S 0 op ty r L ρ d w Q=pureW P op ty ρ w (DGn P S r L ρ d Q):=(rfl)
theorem opG_1{t:TypeId}{x:Operand}:opG' P S 1 (.load t x) ty r L ρ d w Q=ptrW (fun p=>heldW P S t p w (DGn P S r L ρ d Q)) (ev ρ x):=(rfl)
theorem opG_2:opG' P S 2 op ty r L ρ d w Q=(noY ρ op∧opW P op ty ρ w (DGs P S r L ρ d Q)):=(rfl)
theorem opG_3:opG' P S 3 op ty r L ρ d w Q=(noY ρ op∧opW P op ty ρ w (DGn P S r L ρ d Q)):=(rfl)
theorem dG_t:dG P S (some (.bool true)) s true k d op ty r L ρ w Q=opG' P S k op ty r L ((s,.bool true)::ρ) d w Q:=by simp [dG]
theorem dG_f:dG P S (some (.bool false)) s false k d op ty r L ρ w Q=opG' P S k op ty r L ((s,.bool false)::ρ) d w Q:=by simp [dG]
theorem dG_tf:dG P S (some (.bool true)) s false k d op ty r L ρ w Q=DG P S r L (put ((s,.bool true)::ρ) d undef) w Q:=by simp [dG]
theorem dG_ft:dG P S (some (.bool false)) s true k d op ty r L ρ w Q=DG P S r L (put ((s,.bool false)::ρ) d undef) w Q:=by simp [dG]
theorem dG_gen:dG P S (some (.bool c)) s b k d op ty r L ρ w Q=((c=b→opG' P S k op ty r L ((s,.bool b)::ρ) d w Q)∧(c=!b→DG P S r L (put ((s,.bool !b)::ρ) d undef) w Q)):=(rfl)
theorem dG_undef:dG P S (some undef) s b k d op ty r L ρ w Q=DG P S r L (put ρ d undef) w Q:=(rfl)
end
attribute [go_sem low] dG_gen
attribute [go_sem] DG_nil DG_cons DG_guard DGn_app DGs_app opG_0 opG_1 opG_2 opG_3 dG_t dG_f dG_tf dG_ft dG_undef
end Go.Ann

namespace Go.Ann
open Go Go.RowKit
section
variable {P:Program} {w:World} {K:Value→World→Prop} {t:TypeId}
def ldO(k:TyK)(o:Option Value)(w:World)(K:Value→World→Prop):Prop :=
 match k,o with
 | .int k,some (.int k' n)=>k=k'∧K (.int k' n) w
 | .bool,some (.bool b)=>K (.bool b) w
 | .str,some (.string s)=>K (.string s) w
 | .slice _ _,some (.slice a n c)=>K (.slice a n c) w
 | .ptr,some (.pointer q)=>K (.pointer q) w
 | .map,some (.map r)=>K (.map r) w
 | .other,some v=>K v w
 | _,_=>False
def cellsO(w:World)(p:Addr):Nat→Nat→Option (List Value)
 | _,0=>some []
 | i,n+1=>match w.cell? (p.add i),cellsO w p (i+1) n with
  | some v,some l=>some (v::l)
  | _,_=>none
def ldA(o:Option (List Value))(w:World)(K:Value→World→Prop):Prop :=
 match o with
 | some cs=>K (.agg cs.toArray) w
 | none=>False
theorem ldK_int{k:IntKind}{p:Addr}:loadK (.int k) p w K=ldO (.int k) (w.cell? p) w K:=by
 apply propext
 constructor
 ·rintro ⟨n,h,hk⟩; rw [h]; exact ⟨rfl,hk⟩
 ·intro h
  cases hc:w.cell? p with
  | none=>rw [hc] at h; exact h.elim
  | some v =>
   rw [hc] at h
   cases v <;> first | exact h.elim | skip
   obtain ⟨rfl,hk⟩:=h
   exact ⟨_,hc,hk⟩
theorem ldK_bool{p:Addr}:loadK .bool p w K=ldO .bool (w.cell? p) w K:=by
 apply propext
 constructor
 ·rintro ⟨n,h,hk⟩; rw [h]; exact hk
 ·intro h
  cases hc:w.cell? p with
  | none=>rw [hc] at h; exact h.elim
  | some v =>
   rw [hc] at h
   cases v <;> first | exact h.elim | exact ⟨_,hc,h⟩
theorem ldK_str{p:Addr}:loadK .str p w K=ldO .str (w.cell? p) w K:=by
 apply propext
 constructor
 ·rintro ⟨n,h,hk⟩; rw [h]; exact hk
 ·intro h
  cases hc:w.cell? p with
  | none=>rw [hc] at h; exact h.elim
  | some v =>
   rw [hc] at h
   cases v <;> first | exact h.elim | skip
   rename_i s
   exact ⟨toL s,hc,h⟩
theorem ldK_slice{p:Addr}{b:Bool}{e:TypeId}:loadK (.slice b e) p w K=ldO (.slice b e) (w.cell? p) w K:=by
 apply propext
 constructor
 ·rintro ⟨a,n,c,h,hk⟩; rw [h]; exact hk
 ·intro h
  cases hc:w.cell? p with
  | none=>rw [hc] at h; exact h.elim
  | some v =>
   rw [hc] at h
   cases v <;> first | exact h.elim | exact ⟨_,_,_,hc,h⟩
theorem ldK_ptr{p:Addr}:loadK .ptr p w K=ldO .ptr (w.cell? p) w K:=by
 apply propext
 constructor
 ·rintro ⟨n,h,hk⟩; rw [h]; exact hk
 ·intro h
  cases hc:w.cell? p with
  | none=>rw [hc] at h; exact h.elim
  | some v =>
   rw [hc] at h
   cases v <;> first | exact h.elim | exact ⟨_,hc,h⟩
theorem ldK_map{p:Addr}:loadK .map p w K=ldO .map (w.cell? p) w K:=by
 apply propext
 constructor
 ·rintro ⟨n,h,hk⟩; rw [h]; exact hk
 ·intro h
  cases hc:w.cell? p with
  | none=>rw [hc] at h; exact h.elim
  | some v =>
   rw [hc] at h
   cases v <;> first | exact h.elim | exact ⟨_,hc,h⟩
theorem ldK_other{p:Addr}:loadK .other p w K=ldO .other (w.cell? p) w K:=by
 apply propext
 constructor
 ·rintro ⟨n,h,hk⟩; rw [h]; exact hk
 ·intro h
  cases hc:w.cell? p with
  | none=>rw [hc] at h; exact h.elim
  | some v=>rw [hc] at h; exact ⟨_,hc,h⟩
theorem cellsO_of{w:World}{p:Addr}:∀ {n i:Nat} {cs:List Value},cs.length=n→(∀ j v,cs[j]?=some v→w.cell? (p.add (i+j))=some v)→cellsO w p i n=some cs
 | 0,i,cs,hl,_=>by
  have:cs=[]:=List.eq_nil_of_length_eq_zero hl
  subst this; rfl
 | n+1,i,[],hl,_=>by simp at hl
 | n+1,i,c::cs,hl,h=>by
  have h0:=h 0 c rfl
  have hr:=cellsO_of (w:=w) (p:=p) (n:=n) (i:=i+1) (cs:=cs) (by simpa using hl) (fun j v hv=>by
   have:=h (j+1) v (by simpa using hv)
   rwa [show i+1+j=i+(j+1) by omega])
  simp only [Nat.add_zero] at h0
  simp only [cellsO,h0,hr]
theorem of_cellsO{w:World}{p:Addr}:∀ {n i:Nat} {cs:List Value},cellsO w p i n=some cs→cs.length=n∧∀ j v,cs[j]?=some v→w.cell? (p.add (i+j))=some v
 | 0,i,cs,h=>by
  simp only [cellsO,Option.some.injEq] at h; subst h
  exact ⟨rfl,fun j v hv=>by simp at hv⟩
 | n+1,i,cs,h=>by
  simp only [cellsO] at h
  split at h
  ·rename_i v l hv hl
   simp only [Option.some.injEq] at h; subst h
   obtain ⟨h1,h2⟩:=of_cellsO hl
   refine ⟨by simp [h1],fun j u hu=>?_⟩
   match j,hu with
   | 0,hu=>simpa using (by simpa using hu) ▸ hv
   | j+1,hu =>
    have:=h2 j u (by simpa using hu)
    rwa [show i+(j+1)=i+1+j by omega]
  ·cases h
theorem cellsAt_iff{p:Addr}{cs:List Value}{n:Nat}:(cellsAt w p cs∧cs.length=n)↔cellsO w p 0 n=some cs:=by
 constructor
 ·rintro ⟨h1,h2⟩
  exact cellsO_of h2 fun j v hv=>by rw [Nat.zero_add]; exact h1 j v hv
 ·intro h
  obtain ⟨h1,h2⟩:=of_cellsO h
  exact ⟨fun j v hv=>by have:=h2 j v hv; rwa [Nat.zero_add] at this,h1⟩
theorem ldK_agg{n:Nat}{p:Addr}:loadK (.agg n) p w K=ldA (cellsO w p 0 n) w K:=by
 apply propext
 constructor
 ·rintro ⟨cs,h1,h2,hk⟩
  rw [cellsAt_iff.1 ⟨h1,h2⟩]; exact hk
 ·intro h
  cases hc:cellsO w p 0 n with
  | none=>rw [hc] at h; exact h.elim
  | some cs =>
   rw [hc] at h
   obtain ⟨h1,h2⟩:=cellsAt_iff.2 hc
   exact ⟨cs,h1,h2,h⟩
theorem ldO_int{k:IntKind}{n:Int}:ldO (.int k) (some (.int k n)) w K=K (.int k n) w:=by simp [ldO]
theorem ldO_bool{n:Bool}:ldO .bool (some (.bool n)) w K=K (.bool n) w:=(rfl)
theorem ldO_str{n:ByteArray}:ldO .str (some (.string n)) w K=K (.string n) w:=(rfl)
theorem ldO_slice{b:Bool}{e:TypeId}{a:Option Addr}{n c:Nat}:ldO (.slice b e) (some (.slice a n c)) w K=K (.slice a n c) w:=(rfl)
theorem ldO_ptr{q:Option Addr}:ldO .ptr (some (.pointer q)) w K=K (.pointer q) w:=(rfl)
theorem ldO_map{q:Option Nat}:ldO .map (some (.map q)) w K=K (.map q) w:=(rfl)
theorem ldO_other{v:Value}:ldO .other (some v) w K=K v w:=(rfl)
theorem ldA_some{cs:List Value}:ldA (some cs) w K=K (.agg cs.toArray) w:=(rfl)
def cellsC(a:Option Value)(b:Option (List Value)):Option (List Value) :=
 match a,b with
 | some v,some l=>some (v::l)
 | _,_=>none
theorem cellsO_nil{p:Addr}{i:Nat}:cellsO w p i 0=some []:=rfl
theorem cellsO_cons{b o i n:Nat}:cellsO w ⟨b,o,none⟩ i (n+1)=cellsC (w.cell? ⟨b,o+i,none⟩) (cellsO w ⟨b,o,none⟩ (i+1) n):=by
 have:(⟨b,o,none⟩:Addr).add i=⟨b,o+i,none⟩:=Addr.add_lit ..
 simp only [cellsO,this,cellsC]
theorem cellsC_some{v:Value}{l:List Value}:cellsC (some v) (some l)=some (v::l):=rfl
theorem cast0:((0:Nat):Int)=0:=rfl
theorem cast1:((1:Nat):Int)=1:=rfl
section
variable {a:World} {o:Obj} {cs:Array Value} {b i:Nat} {n:Nat}
theorem cA_new(h:b=w.heap.size):(w.alloc (.cells cs t)).cell? ⟨b,i,none⟩=cs[i]?:=World.cell?_alloc_at cs t b i h
theorem cA_old(h:b<w.heap.size):(w.alloc o).cell? ⟨b,i,none⟩=w.cell? ⟨b,i,none⟩:=World.cell?_alloc_past o b i h
theorem fA_new(h:b=w.heap.size):(w.alloc (.cells cs t)).frozen? ⟨b,i,none⟩=false:=World.frozen?_alloc_at cs t b i h
theorem fA_old(h:b<w.heap.size):(w.alloc o).frozen? ⟨b,i,none⟩=w.frozen? ⟨b,i,none⟩:=World.frozen?_alloc_past o b i h
def setO(o:Option Value)(v:Value):Option Value :=
 match o with
 | some _=>some v
 | none=>none
theorem setO_some{u v:Value}:setO (some u) v=some v:=rfl
theorem cS_same{v:Value}{p:Addr}:(w.setCell p v).cell? p=setO (w.cell? p) v:=by
 cases h:w.cell? p with
 | some u=>rw [World.cell?_setCell_same _ _ _ h]; rfl
 | none =>
  show (w.setCell p v).cell? p=none
  unfold World.cell? World.setCell at *
  simp only [Array.getElem?_modify,if_true]
  cases hb:w.heap[p.block]? with
  | none=>rfl
  | some o =>
   rw [hb] at h
   cases o <;> try rfl
   simp only [Option.map_some]
   simp only at h
   by_cases hs:p.spot.isSome=true
   ·simp only [hs,if_true]
   ·simp only [hs,Bool.false_eq_true,if_false] at h ⊢
    rw [Array.getElem?_setIfInBounds,if_pos rfl,if_neg]
    intro hlt
    rw [Array.getElem?_eq_getElem hlt] at h
    cases h
theorem cS_off{v:Value}{j:Nat}(h:i≠j):(w.setCell ⟨b,i,none⟩ v).cell? ⟨b,j,none⟩=w.cell? ⟨b,j,none⟩ :=
 World.cell?_setCell_other w _ _ _ (fun e=>h (congrArg Addr.off e))
theorem cS_blk{v:Value}{b' j:Nat}(h:b≠b'):(w.setCell ⟨b,i,none⟩ v).cell? ⟨b',j,none⟩=w.cell? ⟨b',j,none⟩ :=
 World.cell?_setCell_other w _ _ _ (fun e=>h (congrArg Addr.block e))
theorem cellsO_drew{p:Addr}:∀ (n i:Nat),cellsO w.drew p i n=cellsO w p i n
 | 0,_=>rfl
 | n+1,i=>by simp only [cellsO,cellsO_drew n,World.cell?_drew]
theorem cell_alloc_old{p:Addr}(h:p.block<w.heap.size):(w.alloc o).cell? p=w.cell? p:=World.cell?_of_block (Below.heap_alloc w o _ h)
theorem cellsO_alloc{p:Addr}(h:p.block<w.heap.size):∀ (n i:Nat),cellsO (w.alloc o) p i n=cellsO w p i n
 | 0,_=>rfl
 | n+1,i=>by
  have e:(p.add i).block=p.block:=by unfold Addr.add; split <;> rfl
  simp only [cellsO,cellsO_alloc h n,cell_alloc_old (show (p.add i).block<w.heap.size by rw [e]; exact h)]
theorem cA_add{p:Addr}{m:Nat}(h:p.block<w.heap.size):(w.alloc o).cell? (p.add m)=w.cell? (p.add m):=by
 have e:(p.add m).block=p.block:=by unfold Addr.add; split <;> rfl
 exact cell_alloc_old (by rw [e]; exact h)
theorem cS_add{p:Addr}{m:Nat}{v:Value}(h:b≠p.block):(w.setCell ⟨b,i,none⟩ v).cell? (p.add m)=w.cell? (p.add m):=by
 have e:(p.add m).block=p.block:=by unfold Addr.add; split <;> rfl
 exact World.cell?_setCell_other w _ _ _ (fun e'=>h (by rw [← e,← e']))
def Blk(w:World)(b:Nat)(cs:Array Value)(t:TypeId):Prop:=w.heap[b]?=some (.cells cs t (0,0))
theorem Blk.cell(h:Blk w b cs t)(i:Nat):w.cell? ⟨b,i,none⟩=cs[i]?:=by unfold World.cell?; rw [h]; rfl
theorem Blk.frozen(h:Blk w b cs t)(i:Nat):w.frozen? ⟨b,i,none⟩=false:=by
 unfold World.frozen?; rw [h]; simp
def okSize(cs:Array Value)(n:Nat):Bool:=cs.toList.length == n
theorem okSize_t{cs:Array Value}{n:Nat}(h:okSize cs n=true):okSize cs n=true:=h
theorem Blk.all(h:Blk w b cs t)(n:Nat)(hn:okSize cs n=true):cellsO w ⟨b,0,none⟩ 0 n=some cs.toList:=by
 simp only [okSize,beq_iff_eq] at hn
 refine cellsO_of hn fun j v hv=>?_
 rw [Addr.add_lit,h.cell]
 simpa using hv
theorem Blk.rules(h:Blk w b cs t):(∀ i,w.cell? ⟨b,i,none⟩=cs[i]?)∧(∀ i,w.frozen? ⟨b,i,none⟩=false)∧(∀ n,okSize cs n=true→cellsO w ⟨b,0,none⟩ 0 n=some cs.toList):=⟨h.cell,h.frozen,h.all⟩
theorem Blk.lt(h:Blk w b cs t):b<w.heap.size:=(Array.getElem?_eq_some_iff.1 h).1
theorem Blk.new:Blk (w.alloc (.cells cs t)) w.heap.size cs t:=by
 show (w.heap.push _)[w.heap.size]?=_
 rw [Array.getElem?_push,if_pos rfl]
theorem cellsO_new(hb:b=w.heap.size){n:Nat}(hn:okSize cs n=true):cellsO (w.alloc (.cells cs t)) ⟨b,0,none⟩ 0 n=some cs.toList:=by
 subst hb; exact Blk.all Blk.new n hn
theorem Blk.set(h:Blk w b cs t)(i:Nat)(v:Value):Blk (w.setCell ⟨b,i,none⟩ v) b (cs.setIfInBounds i v) t:=by
 unfold Blk World.setCell at *
 simp only [Array.getElem?_modify,if_true,h]; rfl
theorem Blk.chg{S:Nat→Prop}{w':World}(h:Blk w b cs t)(hc:Chg S w w')(hS:¬ S b):Blk w' b cs t:=(hc.block b h.lt hS).trans h
theorem Blk.below{w':World}{B:Nat}(h:Blk w b cs t)(hb:Below B w w')(hB:b<B):Blk w' b cs t:=(hb.block b hB).trans h
theorem chg_refl{S:Nat→Prop}:Chg S w w=True:=eq_true (Chg.refl _ _)
theorem chg_drew{S:Nat→Prop}(h:Chg S a w):Chg S a w.drew=True:=eq_true h.drew
end
theorem Below.via{a b c:World}{n B:Nat}(k:Below B b c)(hB:n≤B)(h:Below n a b):Below n a c:=h.trans (k.mono hB)
theorem add_block(p:Addr)(j:Nat):(p.add j).block=p.block:=by unfold Addr.add; split <;> rfl
theorem heldX_held{X:Nat→Prop}{w0:World}{p:Addr}(h1:p.block<w0.heap.size)(h2:¬ X p.block)(h3:loadW P t p w0 fun v _=>K v w):heldW P (Chg X w0) t p w K:=by
 have key:∀ w' j,Chg X w0 w'→w'.cell? (p.add j)=w0.cell? (p.add j):=fun w' j hc=>by
  have e:(p.add j).block=p.block:=by unfold Addr.add; split <;> rfl
  exact World.cell?_of_block (hc.block _ (by rw [e]; exact h1) (by rw [e]; exact h2))
 have key0:∀ w',Chg X w0 w'→w'.cell? p=w0.cell? p:=fun w' hc=>by have:=key w' 0 hc; simpa only [Addr.add_zero'] using this
 unfold heldW
 unfold loadW at h3 ⊢
 cases hk:tyK P t with
 | int k=>rw [hk] at h3; obtain ⟨n,hc,hK⟩:=h3; exact ⟨_,fun w' hw=>⟨n,(key0 w' hw).trans hc,rfl,rfl⟩,hK⟩
 | bool=>rw [hk] at h3; obtain ⟨n,hc,hK⟩:=h3; exact ⟨_,fun w' hw=>⟨n,(key0 w' hw).trans hc,rfl,rfl⟩,hK⟩
 | str=>rw [hk] at h3; obtain ⟨n,hc,hK⟩:=h3; exact ⟨_,fun w' hw=>⟨n,(key0 w' hw).trans hc,rfl,rfl⟩,hK⟩
 | slice u e=>rw [hk] at h3; obtain ⟨x,n,c,hc,hK⟩:=h3; exact ⟨_,fun w' hw=>⟨x,n,c,(key0 w' hw).trans hc,rfl,rfl⟩,hK⟩
 | ptr=>rw [hk] at h3; obtain ⟨n,hc,hK⟩:=h3; exact ⟨_,fun w' hw=>⟨n,(key0 w' hw).trans hc,rfl,rfl⟩,hK⟩
 | map=>rw [hk] at h3; obtain ⟨n,hc,hK⟩:=h3; exact ⟨_,fun w' hw=>⟨n,(key0 w' hw).trans hc,rfl,rfl⟩,hK⟩
 | agg n=>rw [hk] at h3; obtain ⟨cs,hc,hl,hK⟩:=h3; exact ⟨_,fun w' hw=>⟨cs,fun i v hv=>(key w' i hw).trans (hc i v hv),hl,rfl,rfl⟩,hK⟩
 | other=>rw [hk] at h3; obtain ⟨n,hc,hK⟩:=h3; exact ⟨_,fun w' hw=>⟨n,(key0 w' hw).trans hc,rfl,rfl⟩,hK⟩
 | none=>rw [hk] at h3; exact h3.elim
theorem loadW_mono{w:World}{p:Addr}{K K':Value→World→Prop}(h:loadW P t p w K)(hk:∀ v,K v w→K' v w):loadW P t p w K':=by
 unfold loadW at h ⊢
 cases hc:tyK P t with
 | int k=>rw [hc] at h; obtain ⟨n,h1,h2⟩:=h; exact ⟨n,h1,hk _ h2⟩
 | bool=>rw [hc] at h; obtain ⟨n,h1,h2⟩:=h; exact ⟨n,h1,hk _ h2⟩
 | str=>rw [hc] at h; obtain ⟨n,h1,h2⟩:=h; exact ⟨n,h1,hk _ h2⟩
 | slice u e=>rw [hc] at h; obtain ⟨x,n,c,h1,h2⟩:=h; exact ⟨x,n,c,h1,hk _ h2⟩
 | ptr=>rw [hc] at h; obtain ⟨n,h1,h2⟩:=h; exact ⟨n,h1,hk _ h2⟩
 | map=>rw [hc] at h; obtain ⟨n,h1,h2⟩:=h; exact ⟨n,h1,hk _ h2⟩
 | agg n=>rw [hc] at h; obtain ⟨n,h1,h0,h2⟩:=h; exact ⟨n,h1,h0,hk _ h2⟩
 | other=>rw [hc] at h; obtain ⟨n,h1,h2⟩:=h; exact ⟨n,h1,hk _ h2⟩
 | none=>rw [hc] at h; exact h.elim
theorem heldX_eq{X:Nat→Prop}{w0:World}{b i:Nat}(h1:b<w0.heap.size)(h2:¬ X b):heldW P (Chg X w0) t ⟨b,i,none⟩ w K=loadW P t ⟨b,i,none⟩ w0 fun v _=>K v w:=by
 apply propext
 refine ⟨fun ⟨v,h,hk⟩=>loadW_mono (h w0 (Chg.refl _ _)) fun u hu=>by rw [hu.1]; exact hk,heldX_held h1 h2⟩
theorem heldX_add{X:Nat→Prop}{w0:World}{p:Addr}{m:Nat}(h1:p.block<w0.heap.size)(h2:¬ X p.block):heldW P (Chg X w0) t (p.add m) w K=loadW P t (p.add m) w0 fun v _=>K v w:=by
 apply propext
 refine ⟨fun ⟨v,h,hk⟩=>loadW_mono (h w0 (Chg.refl _ _)) fun u hu=>by rw [hu.1]; exact hk,heldX_held (by rw [add_block]; exact h1) (by rw [add_block]; exact h2)⟩
def okFill(z cs:Array Value):Bool:=z.toList.length == cs.toList.length && cs.toList.all Value.oneCell'
theorem okFill_t{z cs:Array Value}(h:okFill z cs=true):okFill z cs=true:=h
theorem storeW_fill{b:Nat}{t':TypeId}{z cs:Array Value}(hb:b=w.heap.size)(h:okFill z cs=true):storeW P t ⟨b,0,none⟩ (.agg cs) (w.alloc (.cells z t')) K=(sizeT P t=some cs.size∧K undef (w.alloc (.cells cs t'))):=by
 simp only [okFill,Bool.and_eq_true,beq_iff_eq,Array.length_toList] at h
 subst hb
 apply propext
 constructor
 ·rintro ⟨h1,h2,h3,h4⟩
  refine ⟨h1,?_⟩
  have e:setCellsW (w.alloc (.cells z t')) ⟨w.heap.size,0,none⟩ 0 (Value.agg cs).cells.toList=w.alloc (.cells cs t'):=by
   rw [setCells_new _ rfl,setFrom_all _ _ (by simpa [Value.cells] using h.1)]; rfl
  rwa [e] at h4
 ·rintro ⟨h1,h2⟩
  exact storeW_new (v:=.agg cs) rfl h1 h.1 (fun u hu=>List.all_eq_true.1 h.2 u (by simpa [Value.cells] using hu)) h2
def _root_.Go.World.fill(w:World)(b:Nat)(cs:Array Value):World:=setCellsW w ⟨b,0,none⟩ 0 cs.toList
def fillO(o n:Option Value):Option Value :=
 match o,n with
 | some _,some v=>some v
 | some u,none=>some u
 | none,_=>none
theorem fillO_some{u v:Value}:fillO (some u) (some v)=some v:=rfl
theorem fillO_none{u:Value}:fillO (some u) none=some u:=rfl
theorem setCellsW_size{b:Nat}:∀ (l:List Value) (i:Nat) (w:World),(setCellsW w ⟨b,0,none⟩ i l).heap.size=w.heap.size
 | [],_,_=>rfl
 | v::r,i,w=>by rw [setCellsW,setCellsW_size r]; simp
theorem setCellsW_other{b b' j:Nat}(h:b≠b'):∀ (l:List Value) (i:Nat) (w:World),(setCellsW w ⟨b,0,none⟩ i l).cell? ⟨b',j,none⟩=w.cell? ⟨b',j,none⟩
 | [],_,_=>rfl
 | v::r,i,w=>by rw [setCellsW,setCellsW_other h r,Addr.add_lit,Nat.zero_add,cS_blk h]
theorem setCellsW_frozen{b:Nat}{p:Addr}:∀ (l:List Value) (i:Nat) (w:World),(setCellsW w ⟨b,0,none⟩ i l).frozen? p=w.frozen? p
 | [],_,_=>rfl
 | v::r,i,w=>by rw [setCellsW,setCellsW_frozen r,World.frozen?_setCell]
theorem setCellsW_cell{b j:Nat}:∀ (l:List Value) (i:Nat) (w:World),(setCellsW w ⟨b,0,none⟩ i l).cell? ⟨b,j,none⟩=if i≤j then fillO (w.cell? ⟨b,j,none⟩) l[j - i]? else w.cell? ⟨b,j,none⟩
 | [],i,w=>by
  simp only [setCellsW]
  split
  ·cases w.cell? ⟨b,j,none⟩ <;> rfl
  ·rfl
 | v::r,i,w=>by
  rw [setCellsW,setCellsW_cell r,Addr.add_lit,Nat.zero_add]
  by_cases h:i=j
  ·subst h
   rw [if_neg (by omega),if_pos (Nat.le_refl _),cS_same,Nat.sub_self]
   cases w.cell? ⟨b,i,none⟩ <;> rfl
  ·rw [cS_off h]
   by_cases h1:i≤j
   ·rw [if_pos (by omega),if_pos h1,show j - i=(j - (i+1))+1 by omega]; rfl
   ·rw [if_neg (by omega),if_neg h1]
theorem cF_same{b j:Nat}{cs:Array Value}:(w.fill b cs).cell? ⟨b,j,none⟩=fillO (w.cell? ⟨b,j,none⟩) cs[j]?:=by
 unfold World.fill
 rw [setCellsW_cell,if_pos (Nat.zero_le _),Nat.sub_zero]; simp
theorem cF_blk{b b' j:Nat}{cs:Array Value}(h:b≠b'):(w.fill b cs).cell? ⟨b',j,none⟩=w.cell? ⟨b',j,none⟩:=setCellsW_other h _ _ _
theorem fF_any{b:Nat}{cs:Array Value}{p:Addr}:(w.fill b cs).frozen? p=w.frozen? p:=setCellsW_frozen _ _ _
theorem size_fill{b:Nat}{cs:Array Value}:(w.fill b cs).heap.size=w.heap.size:=setCellsW_size _ _ _
theorem Below.fill{a:World}{n b:Nat}{cs:Array Value}(h:Below n a w)(hb:n≤b):Below n a (w.fill b cs):=by
 have:∀ (l:List Value) (i:Nat) (w:World),Below n a w→Below n a (setCellsW w ⟨b,0,none⟩ i l):=by
  intro l
  induction l with
  | nil=>intro i w h; exact h
  | cons v r ih=>intro i w h; rw [setCellsW,Addr.add_lit]; exact ih _ _ (h.setCell hb v)
 exact this _ _ _ h
theorem Chg.fill{S:Nat→Prop}{a:World}{b:Nat}{cs:Array Value}(h:Chg S a w)(hb:b<a.heap.size→S b):Chg S a (w.fill b cs):=by
 have:∀ (l:List Value) (i:Nat) (w:World),Chg S a w→Chg S a (setCellsW w ⟨b,0,none⟩ i l):=by
  intro l
  induction l with
  | nil=>intro i w h; exact h
  | cons v r ih=>intro i w h; rw [setCellsW,Addr.add_lit]; exact ih _ _ (h.setCell _ v hb)
 exact this _ _ _ h
theorem Blk.fill{b:Nat}{z cs:Array Value}(h:Blk w b z t)(hs:z.size=cs.size):Blk (w.fill b cs) b cs t:=by
 have:∀ (l:List Value) (i:Nat) (z:Array Value) (w:World),Blk w b z t→Blk (setCellsW w ⟨b,0,none⟩ i l) b (setFrom z i l) t:=by
  intro l
  induction l with
  | nil=>intro i z w h; exact h
  | cons v r ih=>intro i z w h; rw [setCellsW,Addr.add_lit,setFrom,Nat.zero_add]; exact ih _ _ _ (h.set i v)
 have h1:=this cs.toList 0 z w h
 rw [setFrom_all _ _ (by simpa using hs)] at h1
 exact h1
def okSt(w:World)(b:Nat):Nat→List Value→Prop
 | _,[]=>True
 | i,v::r=>v.oneCell'=true∧(∃ old,w.cell? ⟨b,i,none⟩=some old)∧w.frozen? ⟨b,i,none⟩=false∧okSt w b (i+1) r
theorem okSt_nil{b i:Nat}:okSt w b i []=True:=rfl
theorem okSt_cons{b i:Nat}{v:Value}{r:List Value}:okSt w b i (v::r)=(v.oneCell'=true∧(∃ old,w.cell? ⟨b,i,none⟩=some old)∧w.frozen? ⟨b,i,none⟩=false∧okSt w b (i+1) r):=rfl
theorem okSt_iff{b:Nat}:∀ (l:List Value) (i:Nat),okSt w b i l↔(∀ u∈l,u.oneCell'=true)∧∀ j,j<l.length→(∃ old,w.cell? ⟨b,i+j,none⟩=some old)∧w.frozen? ⟨b,i+j,none⟩=false
 | [],i=>by simp [okSt]
 | v::r,i=>by
  rw [okSt,okSt_iff r (i+1)]
  constructor
  ·rintro ⟨h1,h2,h3,h4,h5⟩
   refine ⟨fun u hu=>?_,fun j hj=>?_⟩
   ·rcases List.mem_cons.1 hu with rfl | hu
    ·exact h1
    ·exact h4 u hu
   ·match j,hj with
    | 0,_=>exact ⟨h2,h3⟩
    | j+1,hj=>have:=h5 j (by simpa using hj); rwa [show i+1+j=i+(j+1) by omega] at this
  ·rintro ⟨h1,h2⟩
   refine ⟨h1 v List.mem_cons_self,(h2 0 (by simp)).1,(h2 0 (by simp)).2,fun u hu=>h1 u (List.mem_cons_of_mem _ hu),fun j hj=>?_⟩
   have:=h2 (j+1) (by simpa using hj)
   rwa [show i+(j+1)=i+1+j by omega] at this
theorem storeW_agg{b:Nat}{cs:Array Value}:storeW P t ⟨b,0,none⟩ (.agg cs) w K=(sizeT P t=some cs.size∧okSt w b 0 cs.toList∧K undef (w.fill b cs)):=by
 apply propext
 rw [okSt_iff]
 have e:(Value.agg cs).cells=cs:=rfl
 unfold storeW
 rw [e]
 constructor
 ·rintro ⟨h1,h2,h3,h4⟩
  exact ⟨h1,⟨h2,fun j hj=>by have:=h3 j (by simpa using hj); rwa [Addr.add_lit] at this⟩,h4⟩
 ·rintro ⟨h1,⟨h2,h3⟩,h4⟩
  exact ⟨h1,h2,fun j hj=>by have:=h3 j (by simpa using hj); rwa [Addr.add_lit],h4⟩
theorem bV_aeql{xs ys:Array Value}:binV P .eql t (.agg xs) (.agg ys)=agV P .eql (flatT P t) xs.toList ys.toList:=rfl
theorem bV_aneq{xs ys:Array Value}:binV P .neq t (.agg xs) (.agg ys)=agV P .neq (flatT P t) xs.toList ys.toList:=rfl
theorem agV_eql{ks:List FK}{xs ys:List Value}:agV P .eql (some ks) xs ys=agPV (aggEq ks xs ys) id:=rfl
theorem agV_neq{ks:List FK}{xs ys:List Value}:agV P .neq (some ks) xs ys=agPV (aggEq ks xs ys) not:=rfl
theorem agPV_some{b:Bool}{f:Bool→Bool}:agPV (some b) f=some (True,.bool (f b)):=rfl
attribute [go_sem] bV_aeql bV_aneq agV_eql agV_neq agPV_some id_eq List.toList_toArray
attribute [go_sem low] storeW_agg cellsO_cons
def ovr(ch:Env):Env→Env
 | []=>[]
 | (n,v)::ρ=>(n,(lk ch n).getD v)::ovr ch ρ
theorem ovr_nil{ch:Env}:ovr ch []=[]:=rfl
theorem ovr_cons{ch:Env}{n:Nat}{v:Value}{ρ:Env}:ovr ch ((n,v)::ρ)=(n,(lk ch n).getD v)::ovr ch ρ:=rfl
theorem W_loopU{σ:Type}{c:Cmd}{ρ:Env}{Q:Post}(ch:σ→Env)(R:σ→World→Prop)(μ:σ→Nat)(s0:σ)(h0:ρ=ovr (ch s0) ρ)(hR:R s0 w)
  (round:∀ s w,R s w→W P c (ovr (ch s) ρ) w (loopS (fun s=>ovr (ch s) ρ) R μ s Q)):W P (.loop c) ρ w Q :=
 W_loop (fun s=>ovr (ch s) ρ) R μ s0 h0 hR round
end
end Go.Ann

namespace Go.Ann
theorem I64_of_wf{n:Int}(h:(Lit.int .i64 n).wf=true):I64 n:=by
 simp [Lit.wf,IntKind.min,IntKind.max,IntKind.signed,IntKind.bits] at h
 exact ⟨by omega,by omega⟩
theorem len_of_max{s:ByteArray}(h:s.size≤maxLen):((toL s).length:Int)≤9223372036854775807:=by
 rw [size_toL] at h
 have:maxLen=9223372036854775807:=by decide
 omega
end Go.Ann

namespace Go.Ann
open Go Go.RowKit Go.WideShapes
def RdS{α:Type}(w:World)(sz:Nat)(enc:α→List Value)(v:Value)(xs:List α):Prop:=Rd w sz v xs.length (xs.flatMap enc)
def RdR{α:Type}(w:World)(sz:Nat)(R:World→α→List Value→Prop)(v:Value)(xs:List α):Prop :=
 ∃ cs:List (List Value),cs.length=xs.length∧(∀ (i:Nat) (c:List Value) (x:α),cs[i]?=some c→xs[i]?=some x→c.length=sz∧R w x c)∧Rd w sz v xs.length cs.flatten
section
variable {α:Type} {w:World} {sz:Nat} {enc:α→List Value} {v:Value} {xs:List α}
theorem RdS.form(h:RdS w sz enc v xs):∃ a cap,v=.slice a xs.length cap∧xs.length≤cap:=by
 obtain ⟨_,a,cap,rfl,h2,_⟩:=h
 exact ⟨a,cap,rfl,h2⟩
theorem RdS.ptr{a:Option Addr}{n cap:Nat}(h:RdS w sz enc (.slice a n cap) xs)(h0:0<xs.length):∃ ad,a=some ad:=by
 obtain ⟨_,a',cap',he,h2,h3⟩:=h
 simp only [Value.slice.injEq] at he
 obtain ⟨rfl,rfl,rfl⟩:=he
 obtain ⟨ad,rfl,_⟩:=h3 (by omega)
 exact ⟨ad,rfl⟩
theorem RdS.at{ad:Addr}{n cap:Nat}(h:RdS w sz enc (.slice (some ad) n cap) xs)(hsz:∀ x,(enc x).length=sz){k:Nat}(hk:k<xs.length):cellsO w (ad.add (k * sz)) 0 sz=some (enc xs[k]):=by
 obtain ⟨h1,a',cap',he,h2,h3⟩:=h
 simp only [Value.slice.injEq] at he
 obtain ⟨rfl,rfl,rfl⟩:=he
 obtain ⟨ad',e,h4⟩:=h3 (by omega)
 simp only [Option.some.injEq] at e; subst e
 exact cellsAt_iff.1 ⟨cellsAt_flat hsz h4 (List.getElem?_eq_getElem hk),hsz _⟩
theorem cellsO_one{p:Addr}{u:Value}(h:cellsO w p 0 1=some [u]):w.cell? p=some u:=by
 have:=(of_cellsO h).2 0 u rfl
 simpa only [Nat.add_zero,Addr.add_zero'] using this
theorem RdS.at1{e1:α→Value}{ad:Addr}{n cap:Nat}(h:RdS w 1 (fun x=>[e1 x]) (.slice (some ad) n cap) xs){k:Nat}(hk:k<xs.length):w.cell? (ad.add k)=some (e1 xs[k]):=by
 have:=h.at (fun _=>rfl) hk
 rw [Nat.mul_one] at this
 exact cellsO_one this
theorem RdS.atF{ad:Addr}{n cap:Nat}(h:RdS w sz enc (.slice (some ad) n cap) xs)(hsz:∀ x,(enc x).length=sz){k:Nat}(hk:k<xs.length){j:Nat}{u:Value}(hj:(enc xs[k])[j]?=some u):w.cell? ((ad.add (k * sz)).add j)=some u:=by
 have:=(of_cellsO (h.at hsz hk)).2 j u hj
 rwa [Nat.zero_add] at this
theorem add_off(p:Addr)(m:Nat):(p.add m).off=p.off+m:=by unfold Addr.add; split <;> simp_all
theorem add_lit1(p:Addr)(m j:Nat)(hj:0<j):(p.add m).add j=⟨p.block,p.off+m+j,none⟩:=by
 rw [show ((p.add m).add j)={ (p.add m) with off:=(p.add m).off+j,spot:=none } by rw [Addr.add,if_neg (by omega)]]
 show (⟨(p.add m).block,(p.add m).off+j,none⟩:Addr)=_
 rw [add_off,add_block]
theorem RdS.elt{ad:Addr}{n cap:Nat}(h:RdS w sz enc (.slice (some ad) n cap) xs)(hsz:∀ x,(enc x).length=sz)(h0:0<sz){k:Nat}(hk:k<xs.length) :
  w.cell? (ad.add (k * sz))=(enc xs[k])[0]?∧∀ j,0<j→j<sz→w.cell? ⟨ad.block,ad.off+k * sz+j,none⟩=(enc xs[k])[j]?:=by
 have key:∀ j,j<sz→w.cell? ((ad.add (k * sz)).add j)=(enc xs[k])[j]?:=fun j hj=>by
  have hl:j<(enc xs[k]).length:=by rw [hsz]; exact hj
  rw [List.getElem?_eq_getElem hl]
  exact h.atF hsz hk (List.getElem?_eq_getElem hl)
 refine ⟨by have:=key 0 h0; rwa [Addr.add_zero'] at this,fun j h1 h2=>?_⟩
 rw [← add_lit1 _ _ _ h1]; exact key j h2
theorem RdS.below{w':World}(h:RdS w sz enc v xs)(hb:Below w.heap.size w w')(hs:0<sz):RdS w' sz enc v xs:=Rd.below h hb hs
theorem RdS.eltB{w':World}{ad:Addr}{n cap:Nat}(h:RdS w sz enc (.slice (some ad) n cap) xs)(hb:Below w.heap.size w w')(hsz:∀ x,(enc x).length=sz)(h0:0<sz){k:Nat}(hk:k<xs.length) :
  w'.cell? (ad.add (k * sz))=(enc xs[k])[0]?∧∀ j,0<j→j<sz→w'.cell? ⟨ad.block,ad.off+k * sz+j,none⟩=(enc xs[k])[j]?:=(h.below hb h0).elt hsz h0 hk
theorem RdS.blt{ad:Addr}{n cap:Nat}(h:RdS w sz enc (.slice (some ad) n cap) xs)(hsz:∀ x,(enc x).length=sz)(h0:0<sz)(hk:0<xs.length):ad.block<w.heap.size:=by
 have:=(h.elt hsz h0 hk).1
 rw [List.getElem?_eq_getElem (show 0<(enc xs[0]).length by rw [hsz]; exact h0)] at this
 have:=World.block_lt_of_cell? w _ this
 rwa [add_block] at this
theorem RdS.of_own{B e:Nat}(h:w.ownsRow B e sz v xs.length (xs.flatMap enc)):RdS w sz enc v xs:=Rd.of_own h
theorem RdS.nil:RdS w sz enc (.slice none 0 0) []:=⟨by simp,none,0,rfl,Nat.le_refl _,fun h=>absurd rfl h⟩
end
section
variable {α:Type} {w w':World} {sz:Nat} {R:World→α→List Value→Prop} {v:Value} {xs:List α}
end
def Opens{α:Type}(P:Program)(t:TypeId)(R:World→α→List Value→Prop):Prop :=
 ∀ {H:Type} (enc:TypeId × Value→H) (w:World) (base:Nat) (sp:Nat→Bool) (hd:Bool) (fuel:Nat) (cs:List Value) (x:DataW H × List MemPlace),
  DataW.trod enc P w base sp hd fuel t cs=some x→∃ a,R w a cs
section
variable {P:Program} {t e:TypeId} {α β:Type}
theorem Opens.mono{R:World→α→List Value→Prop}{R':World→β→List Value→Prop}(h:Opens P t R)(hr:∀ w a cs,R w a cs→∃ b,R' w b cs):Opens P t R':=by
 intro H enc w base sp hd fuel cs x hx
 obtain ⟨a,ha⟩:=h enc w base sp hd fuel cs x hx
 exact hr w a cs ha
def kOk(k:IntKind)(n:Int):Prop:=(Lit.int k n).wf=true
def intR(k:IntKind)(_:World)(n:Int)(cs:List Value):Prop:=cs=[.int k n]∧kOk k n
def strR(_:World)(l:List UInt8)(cs:List Value):Prop:=cs=[.string (ofL l)]∧(l.length:Int)≤9223372036854775807
theorem opens_int{k:IntKind}(ht:P.underlying t=some (.int k)):Opens P t (intR k):=by
 intro H enc w base sp hd fuel cs x hx
 obtain ⟨n,rfl,_,h⟩:=DataW.trod_int ht hx
 exact ⟨n,rfl,h⟩
theorem opens_str(ht:P.underlying t=some .string):Opens P t strR:=by
 intro H enc w base sp hd fuel cs x hx
 obtain ⟨s,rfl,_,h⟩:=DataW.trod_string ht hx
 exact ⟨toL s,rfl,len_of_max h⟩
theorem opens_slice{R:World→α→List Value→Prop}{sz:Nat}(he:Opens P e R)(ht:P.underlying t=some (.slice e))(hc:P.cellsOf e=sz) :
  Opens P t (fun w (xs:List α) cs=>∃ v,cs=[v]∧RdR w sz R v xs∧(xs.length:Int)≤9223372036854775807):=by
 intro H enc w base sp hd fuel cs x hx
 rcases Go.Deep.open_slice ht hx with ⟨rfl,_⟩ | ⟨a,len,cap,m,n,D,Pl,rfl,_,hl,hm,hmm,_,hel⟩
 ·exact ⟨[],_,rfl,⟨[],rfl,fun i c x h=>by simp at h,by simp,none,0,rfl,Nat.le_refl _,fun h=>absurd rfl h⟩,by simp⟩
 have hlm:len≤m:=by rw [hmm]; split <;> omega
 have each:∀ i,i<len→∃ q:List Value × α,w.cells? base (a.add (i * sz)) sz=some q.1∧R w q.2 q.1:=by
  intro i hi
  obtain ⟨cs',h1,h2⟩:=hel i (by omega)
  obtain ⟨y,hy⟩:=he enc w base sp hd n cs' _ h2
  rw [hc] at h1
  exact ⟨(cs',y),h1,hy⟩
 by_cases h0:len=0
 ·subst h0
  exact ⟨[],_,rfl,⟨[],rfl,fun i c x h=>by simp at h,by simp,some a,cap,rfl,hl,fun h=>absurd rfl h⟩,by simp⟩
 obtain ⟨q0,_⟩:=each 0 (by omega)
 haveI:Inhabited (List Value × α):=⟨q0⟩
 obtain ⟨q,hq⟩:=Go.Deep.choose_lt each
 have hln:∀ i,i<len→(q i).1.length=sz:=fun i hi=>(World.cells?_some (hq i hi).1).2.1
 have hml:maxLen=9223372036854775807:=by decide
 refine ⟨(List.range len).map fun i=>(q i).2,_,rfl,⟨(List.range len).map fun i=>(q i).1,by simp,?_,?_,some a,cap,by simp,by simpa using hl,fun _=>⟨a,rfl,?_⟩⟩,by simp; omega⟩
 ·intro i c y h1 h2
  simp only [List.getElem?_map,Option.map_eq_some_iff] at h1 h2
  obtain ⟨i1,e1,rfl⟩:=h1
  obtain ⟨i2,e2,rfl⟩:=h2
  rw [e1] at e2
  simp only [Option.some.injEq] at e2; subst e2
  have:=List.mem_range.1 (List.mem_of_getElem? e1)
  exact ⟨hln _ this,(hq _ this).2⟩
 ·rw [List.length_flatten]
  have:∀ (l:List Nat),(∀ i∈l,i<len)→((l.map fun i=>(q i).1).map List.length).sum=l.length * sz:=by
   intro l
   induction l with
   | nil=>intro _; simp
   | cons i l ih =>
    intro h
    simp only [List.map_cons,List.sum_cons,List.length_cons]
    rw [ih fun j hj=>h j (List.mem_cons_of_mem _ hj),hln i (h i List.mem_cons_self),Nat.add_mul]; omega
  rw [this (List.range len) fun i hi=>List.mem_range.1 hi]
  simp
 ·intro j u hj
  have hsz0:0<sz:=by
   rcases Nat.eq_zero_or_pos sz with hz | hz
   ·exfalso
    have:((List.range len).map fun i=>(q i).1).flatten=[]:=by
     rw [List.flatten_eq_nil_iff]
     intro l hl
     obtain ⟨i,hi,rfl⟩:=List.mem_map.1 hl
     exact List.eq_nil_of_length_eq_zero (by rw [hln i (List.mem_range.1 hi),hz])
    rw [this] at hj; simp at hj
   ·exact hz
  have hmap:((List.range len).map fun i=>(q i).1).flatten=(List.range len).flatMap fun i=>((List.range sz).map fun s=>(q i).1.getD s default):=by
   rw [List.flatMap_def]
   congr 1
   refine List.map_congr_left fun i hi=>?_
   have hl':=hln i (List.mem_range.1 hi)
   apply List.ext_getElem?
   intro s
   by_cases hs:s<sz
   ·simp [hs,List.getElem?_eq_getElem (show s<(q i).1.length by omega)]
   ·rw [List.getElem?_eq_none (by omega),List.getElem?_eq_none (by simp; omega)]
  rw [hmap] at hj
  have hd':j=(j / sz) * sz+j % sz:=by rw [Nat.mul_comm]; exact (Nat.div_add_mod j sz).symm
  have hm':j % sz<sz:=Nat.mod_lt _ hsz0
  rw [hd',flat_get (fun i=>(List.range sz).map fun s=>(q i).1.getD s default) sz (fun i=>by simp) (List.range len) (j / sz) (j % sz) hm'] at hj
  simp only [Option.bind_eq_some_iff] at hj
  obtain ⟨i,hi,hj⟩:=hj
  have hi':=List.getElem?_eq_some_iff.1 hi
  obtain ⟨hi1,hi2⟩:=hi'
  simp only [List.getElem_range] at hi2
  subst hi2
  have hlt:j / sz<len:=by simpa using hi1
  obtain ⟨_,_,hcell⟩:=World.cells?_some (hq _ hlt).1
  have h9:=hcell (j % sz) hm'
  rw [add_add,← hd'] at h9
  rw [h9]
  have hl':=hln _ hlt
  simp only [List.getElem?_map,List.getElem?_range hm',Option.map_some,Option.some.injEq] at hj
  rw [← hj,List.getElem?_eq_getElem (by omega),List.getD_eq_getElem?_getD,List.getElem?_eq_getElem (by omega)]; rfl
theorem RdR.plain{w:World}{R:World→α→List Value→Prop}{sz:Nat}{enc:α→List Value}{ok:α→Prop}{v:Value}{xs:List α}(h:RdR w sz R v xs)(hr:∀ x c,R w x c→c=enc x∧ok x) :
  RdS w sz enc v xs∧∀ x∈xs,ok x:=by
 obtain ⟨cs,h1,h2,h3⟩:=h
 have hcs:cs=xs.map enc:=by
  apply List.ext_getElem?
  intro i
  by_cases hi:i<cs.length
  ·have:=h2 i cs[i] (xs[i]'(by omega)) (List.getElem?_eq_getElem hi) (List.getElem?_eq_getElem (by omega))
   rw [List.getElem?_eq_getElem hi,List.getElem?_map,List.getElem?_eq_getElem (by omega),(hr _ _ this.2).1]; rfl
  ·rw [List.getElem?_eq_none (by omega),List.getElem?_eq_none (by simp; omega)]
 constructor
 ·unfold RdS
  rw [List.flatMap_def,← hcs]
  exact h3
 ·intro x hx
  obtain ⟨i,hi,rfl⟩:=List.mem_iff_getElem.1 hx
  exact (hr _ _ (h2 i (cs[i]'(by omega)) xs[i] (List.getElem?_eq_getElem (by omega)) (List.getElem?_eq_getElem hi)).2).2
theorem opens_fields{fs:Array Field}(ht:P.underlying t=some (.struct fs)){H:Type}{enc:TypeId × Value→H}{w:World}{base:Nat}{sp:Nat→Bool}{hd:Bool}{fuel:Nat}{cs:List Value}{x:DataW H × List MemPlace}
  (h:DataW.trod enc P w base sp hd fuel t cs=some x):cs.length=P.cellsOf t∧∀ (i:Nat) (f:Field),fs[i]?=some f→∃ n y,DataW.trod enc P w base sp hd n f.type ((cs.drop f.offset).take (P.cellsOf f.type))=some y:=by
 obtain ⟨xs,n,rfl,_,h1,h2,h3⟩:=DataW.trod_struct ht h
 refine ⟨h1,fun i f hf=>⟨n,?_⟩⟩
 have:=h3 i f hf
 have hi:i<xs.length:=by rw [h2]; exact (Array.getElem?_eq_some_iff.1 hf).1
 rw [List.getElem?_eq_getElem hi] at this
 exact ⟨_,this⟩
theorem Opens.slice_arg{H:Type}{enc:TypeId × Value→H}{w:World}{r:Reach}{b base:Nat}{sp:Nat→Bool}{hd:Bool}{v:Value}{d:DataW H}{ps:List MemPlace}{R:World→List α→Value→Prop}
  (h:Opens P t (fun w (xs:List α) cs=>∃ v,cs=[v]∧R w xs v)) (ht:P.underlying t=some (.slice e)) (hv:Value.okWide P w r b t v) (hk:DataW.Trod enc P w base sp hd t v d ps):∃ xs,R w xs v:=by
 obtain ⟨fuel,hk⟩:=hk
 obtain ⟨xs,v',h1,h2⟩:=h enc w base sp hd fuel _ _ hk
 obtain ⟨a,n,c,rfl⟩:=okWide_slice ht hv
 simp only [Value.cells,List.cons.injEq,and_true] at h1
 subst h1
 exact ⟨xs,h2⟩
end
end Go.Ann

namespace Go.Ann
open Go Go.RowKit Go.WideShapes
inductive Res where
 | blk (b:Nat) (cs:Array Value) (t:TypeId)
 | row (v:Value) (e sz n:Nat) (xs:List Value)
 | obj (b:Nat) (o:Obj)
def Res.own:Res→Option Nat
 | .blk b _ _=>some b
 | .row v _ _ _ _=>v.ownBlock
 | .obj b _=>some b
def Res.ok(w:World)(base:Nat):Res→Prop
 | .blk b cs t=>Blk w b cs t∧base≤b
 | .row v e sz n xs=>w.ownsRow base e sz v n xs
 | .obj b o=>w.heap[b]?=some o∧base≤b
structure Inv where
 holds:World→Prop
 foot:Nat→Prop
 loc:∀ w w':World,holds w→(∀ k,foot k→w'.heap[k]?=w.heap[k]?)→holds w'
structure St(W0 w:World)(F:Nat→Prop)(L:List Res)(I:List Inv):Prop where
 bel:Below W0.heap.size W0 w
 foot:∀ k,F k→W0.heap.size≤k∧k<w.heap.size
 res:∀ r∈L,r.ok w W0.heap.size∧∀ k,r.own=some k→¬ F k
 nd:(L.filterMap Res.own).Nodup
 inv:∀ a∈I,a.holds w∧∀ k,a.foot k→k<w.heap.size∧¬ F k∧∀ r∈L,r.own≠some k
theorem Res.ok.lt{w:World}{base:Nat}{r:Res}(h:r.ok w base):∀ k,r.own=some k→base≤k∧k<w.heap.size:=by
 intro k hk
 cases r with
 | blk b cs t=>simp only [Res.own,Option.some.injEq] at hk; subst hk; exact ⟨h.2,h.1.lt⟩
 | row v e sz n xs=>exact World.ownsRow.lt h k hk
 | obj b o=>simp only [Res.own,Option.some.injEq] at hk; subst hk; exact ⟨h.2,(Array.getElem?_eq_some_iff.1 h.1).1⟩
theorem Res.ok.chg{S:Nat→Prop}{w w':World}{base:Nat}{r:Res}(h:r.ok w base)(hc:Chg S w w')(hS:∀ k,r.own=some k→¬ S k):r.ok w' base:=by
 cases r with
 | blk b cs t=>exact ⟨h.1.chg hc (hS b rfl),h.2⟩
 | row v e sz n xs=>exact hc.own h hS
 | obj b o=>exact ⟨(hc.block b (Array.getElem?_eq_some_iff.1 h.1).1 (hS b rfl)).trans h.1,h.2⟩
section
variable {W0 w w':World} {F F':Nat→Prop} {L:List Res} {I:List Inv}
theorem St.start:St W0 W0 (fun _=>False) [] []:=⟨Below.refl _ _,fun _ h=>h.elim,fun _ h=>(by cases h),List.Pairwise.nil,fun _ h=>(by cases h)⟩
theorem St.size(h:St W0 w F L I):W0.heap.size≤w.heap.size:=h.bel.size
theorem St.below(h:St W0 w F L I){B:Nat}(hb:Below B w w')(hB:w.heap.size≤B):St W0 w' F L I :=
 have hc:Chg (fun _=>False) w w':=Chg.of_below (hb.mono hB)
 ⟨h.bel.trans (hb.mono (Nat.le_trans h.size hB)),fun k hk=>⟨(h.foot k hk).1,Nat.lt_of_lt_of_le (h.foot k hk).2 hb.size⟩,fun r hr=>⟨(h.res r hr).1.chg hc fun _ _ h=>h,(h.res r hr).2⟩,h.nd,
  fun a ha=>⟨a.loc _ _ (h.inv a ha).1 fun k hk=>hb.block k (Nat.lt_of_lt_of_le ((h.inv a ha).2 k hk).1 hB),fun k hk=>⟨Nat.lt_of_lt_of_le ((h.inv a ha).2 k hk).1 hb.size,((h.inv a ha).2 k hk).2⟩⟩⟩
theorem St.call(h:St W0 w F L I)(hb:Below w.heap.size w w'):St W0 w' F L I:=h.below hb (Nat.le_refl _)
theorem St.drew(h:St W0 w F L I):St W0 w.drew F L I:=h.below ((Below.refl _ w).drew) (Nat.le_refl _)
theorem St.alloc'(h:St W0 w F L I)(o:Obj):St W0 (w.alloc o) F L I:=h.below ((Below.refl w.heap.size w).alloc (Nat.le_refl _) o) (Nat.le_refl _)
theorem fresh_nd{L:List Res}{r:Res}(hn:(L.filterMap Res.own).Nodup)(hr:∀ k,r.own=some k→∀ x∈L,x.own≠some k):((r::L).filterMap Res.own).Nodup:=by
 cases hk:r.own with
 | none=>rw [List.filterMap_cons_none hk]; exact hn
 | some k =>
  rw [List.filterMap_cons_some hk]
  refine List.nodup_cons.2 ⟨fun hm=>?_,hn⟩
  obtain ⟨x,hx,hxk⟩:=List.mem_filterMap.1 hm
  exact hr k hk x hx hxk
theorem St.add(h:St W0 w F L I)(hb:Below w.heap.size w w')(r:Res)(hr:r.ok w' W0.heap.size)(hn:∀ k,r.own=some k→w.heap.size≤k):St W0 w' F (r::L) I:=by
 have h':=h.call hb
 refine ⟨h'.bel,h'.foot,?_,fresh_nd h.nd fun k hk x hx hxk=>?_,fun a ha=>⟨(h'.inv a ha).1,fun k hk=>⟨((h'.inv a ha).2 k hk).1,((h'.inv a ha).2 k hk).2.1,?_⟩⟩⟩
 ·intro x hx
  rcases List.mem_cons.1 hx with rfl | hx
  ·exact ⟨hr,fun k hk hF=>by have:=(h.foot k hF).2; have:=hn k hk; omega⟩
  ·exact h'.res x hx
 ·have:=((h.res x hx).1.lt k hxk).2; have:=hn k hk; omega
 ·intro x hx
  rcases List.mem_cons.1 hx with rfl | hx
  ·intro e
   have:=hn k e
   have:=((h.inv a ha).2 k hk).1
   omega
  ·exact ((h'.inv a ha).2 k hk).2.2 x hx
theorem St.box(h:St W0 w F L I)(cs:Array Value)(t:TypeId):St W0 (w.alloc (.cells cs t)) F (.blk w.heap.size cs t::L) I :=
 h.add ((Below.refl _ w).alloc (Nat.le_refl _) _) _ ⟨Blk.new,h.size⟩ fun k hk=>by simp only [Res.own,Option.some.injEq] at hk; omega
theorem St.nilRow(h:St W0 w F L I)(e sz:Nat):St W0 w F (.row (.slice none 0 0) e sz 0 []::L) I :=
 h.add (Below.refl _ w) _ (World.ownsRow_nil _ _ _ _) fun k hk=>by simp [Res.own,Value.ownBlock] at hk
theorem St.sub(h:St W0 w F L I){L':List Res}(hs:L'.Sublist L):St W0 w F L' I :=
 ⟨h.bel,h.foot,fun r hr=>h.res r (hs.subset hr),h.nd.sublist (hs.filterMap _),fun a ha=>⟨(h.inv a ha).1,fun k hk=>⟨((h.inv a ha).2 k hk).1,((h.inv a ha).2 k hk).2.1,fun r hr=>((h.inv a ha).2 k hk).2.2 r (hs.subset hr)⟩⟩⟩
theorem St.perm(h:St W0 w F L I){L':List Res}(hs:L'.Perm L):St W0 w F L' I :=
 ⟨h.bel,h.foot,fun r hr=>h.res r (hs.subset hr),(hs.filterMap _).nodup_iff.2 h.nd,fun a ha=>⟨(h.inv a ha).1,fun k hk=>⟨((h.inv a ha).2 k hk).1,((h.inv a ha).2 k hk).2.1,fun r hr=>((h.inv a ha).2 k hk).2.2 r (hs.subset hr)⟩⟩⟩
theorem St.inv_sub(h:St W0 w F L I){I':List Inv}(hs:∀ a∈I',a∈I):St W0 w F L I':=⟨h.bel,h.foot,h.res,h.nd,fun a ha=>h.inv a (hs a ha)⟩
theorem nd_other{L:List Res}(hn:(L.filterMap Res.own).Nodup){i j:Nat}{r x:Res}(hi:L[i]?=some r)(hj:L[j]?=some x)(hij:i≠j){k:Nat}(hr:r.own=some k):x.own≠some k:=by
 intro hx
 induction L generalizing i j with
 | nil=>simp at hi
 | cons y l ih =>
  match i,j,hi,hj,hij with
  | 0,0,_,_,h=>exact h rfl
  | 0,j+1,hi,hj,_ =>
   simp only [List.getElem?_cons_zero,Option.some.injEq] at hi; subst hi
   simp only [List.getElem?_cons_succ] at hj
   rw [List.filterMap_cons_some hr] at hn
   exact (List.nodup_cons.1 hn).1 (List.mem_filterMap.2 ⟨x,List.mem_of_getElem? hj,hx⟩)
  | i+1,0,hi,hj,_ =>
   simp only [List.getElem?_cons_zero,Option.some.injEq] at hj; subst hj
   simp only [List.getElem?_cons_succ] at hi
   rw [List.filterMap_cons_some hx] at hn
   exact (List.nodup_cons.1 hn).1 (List.mem_filterMap.2 ⟨r,List.mem_of_getElem? hi,hr⟩)
  | i+1,j+1,hi,hj,h =>
   simp only [List.getElem?_cons_succ] at hi hj
   refine ih ?_ hi hj (by omega)
   cases hy:y.own with
   | none=>rw [List.filterMap_cons_none hy] at hn; exact hn
   | some m=>rw [List.filterMap_cons_some hy] at hn; exact (List.nodup_cons.1 hn).2
theorem nd_set{L:List Res}{i:Nat}{r r':Res}(hn:(L.filterMap Res.own).Nodup)(hi:L[i]?=some r)(h:∀ k,r'.own=some k→r.own=some k∨∀ x∈L,x.own≠some k):((L.set i r').filterMap Res.own).Nodup:=by
 induction L generalizing i with
 | nil=>simp at hi
 | cons y l ih =>
  match i,hi with
  | 0,hi =>
   simp only [List.getElem?_cons_zero,Option.some.injEq] at hi; subst hi
   simp only [List.set_cons_zero]
   have hl:(l.filterMap Res.own).Nodup:=by
    cases hy:y.own with
    | none=>rw [List.filterMap_cons_none hy] at hn; exact hn
    | some m=>rw [List.filterMap_cons_some hy] at hn; exact (List.nodup_cons.1 hn).2
   refine fresh_nd hl fun k hk x hx=>?_
   rcases h k hk with h1 | h1
   ·intro e
    rw [List.filterMap_cons_some h1] at hn
    exact (List.nodup_cons.1 hn).1 (List.mem_filterMap.2 ⟨x,hx,e⟩)
   ·exact h1 x (List.mem_cons_of_mem _ hx)
  | i+1,hi =>
   simp only [List.getElem?_cons_succ] at hi
   simp only [List.set_cons_succ]
   have hl:(l.filterMap Res.own).Nodup:=by
    cases hy:y.own with
    | none=>rw [List.filterMap_cons_none hy] at hn; exact hn
    | some m=>rw [List.filterMap_cons_some hy] at hn; exact (List.nodup_cons.1 hn).2
   refine fresh_nd (ih hl hi fun k hk=>(h k hk).imp id fun h1 x hx=>h1 x (List.mem_cons_of_mem _ hx)) fun k hk x hx=>?_
   intro e
   obtain ⟨j,hj,hjx⟩:=List.mem_iff_getElem.1 hx
   rw [List.getElem_set] at hjx
   split at hjx
   ·subst hjx
    rcases h k e with h1 | h1
    ·have:(y::l)[0]?=some y:=rfl
     exact nd_other hn (i:=i+1) (j:=0) (by simpa using hi) this (by omega) h1 hk
    ·exact h1 y List.mem_cons_self hk
   ·rw [List.filterMap_cons_some hk] at hn
    subst hjx
    exact (List.nodup_cons.1 hn).1 (List.mem_filterMap.2 ⟨_,List.getElem_mem _,e⟩)
theorem St.upd(h:St W0 w F L I)(i:Nat){r:Res}(hi:L[i]?=some r)(hc:Chg (fun k=>r.own=some k) w w')(r':Res)(hr:r'.ok w' W0.heap.size)(hn:∀ k,r'.own=some k→r.own=some k∨w.heap.size≤k):St W0 w' F (L.set i r') I:=by
 have hm:=List.mem_of_getElem? hi
 have hlow:=fun k hk=>((h.res r hm).1.lt k hk)
 have hset:∀ x∈L.set i r',x=r'∨∃ j,j≠i∧L[j]?=some x:=by
  intro x hx
  obtain ⟨j,hj,hjx⟩:=List.mem_iff_getElem.1 hx
  rw [List.getElem_set] at hjx
  split at hjx
  ·exact .inl hjx.symm
  ·rename_i hij
   exact .inr ⟨j,fun e=>hij e.symm,by rw [← hjx]; exact List.getElem?_eq_getElem (by simpa using hj)⟩
 have hF:∀ k,r'.own=some k→¬ F k:=fun k hk hF=>by
  rcases hn k hk with h1 | h1
  ·exact (h.res r hm).2 k h1 hF
  ·have:=(h.foot k hF).2; omega
 refine ⟨h.bel.trans (hc.below h.size fun k hk hS=>by have:=(hlow k hS).1; omega),fun k hk=>⟨(h.foot k hk).1,Nat.lt_of_lt_of_le (h.foot k hk).2 hc.size⟩,?_,nd_set h.nd hi fun k hk=>?_,?_⟩
 ·intro x hx
  rcases hset x hx with rfl | ⟨j,hji,hj⟩
  ·exact ⟨hr,hF⟩
  ·have hx':=List.mem_of_getElem? hj
   exact ⟨(h.res x hx').1.chg hc fun k hk hrk=>nd_other h.nd hi hj (Ne.symm hji) hrk hk,(h.res x hx').2⟩
 ·rcases hn k hk with h1 | h1
  ·exact .inl h1
  ·exact .inr fun x hx hxk=>by have:=((h.res x hx).1.lt k hxk).2; omega
 ·intro a ha
  refine ⟨a.loc _ _ (h.inv a ha).1 fun k hk=>hc.block k ((h.inv a ha).2 k hk).1 (((h.inv a ha).2 k hk).2.2 r hm),fun k hk=>⟨Nat.lt_of_lt_of_le ((h.inv a ha).2 k hk).1 hc.size,((h.inv a ha).2 k hk).2.1,fun x hx=>?_⟩⟩
  rcases hset x hx with rfl | ⟨j,hji,hj⟩
  ·intro e
   rcases hn k e with h1 | h1
   ·exact ((h.inv a ha).2 k hk).2.2 r hm h1
   ·have:=((h.inv a ha).2 k hk).1; omega
  ·exact ((h.inv a ha).2 k hk).2.2 x (List.mem_of_getElem? hj)
theorem St.blk(h:St W0 w F L I)(i:Nat){b:Nat}{cs:Array Value}{t:TypeId}(hi:L[i]?=some (.blk b cs t)):Blk w b cs t:=(h.res _ (List.mem_of_getElem? hi)).1.1
theorem St.low(h:St W0 w F L I)(i:Nat){b:Nat}{cs:Array Value}{t:TypeId}(hi:L[i]?=some (.blk b cs t)):W0.heap.size≤b∧b<w.heap.size:=⟨(h.res _ (List.mem_of_getElem? hi)).1.2,(h.blk i hi).lt⟩
theorem St.row(h:St W0 w F L I)(i:Nat){v:Value}{e sz n:Nat}{xs:List Value}(hi:L[i]?=some (.row v e sz n xs)):w.ownsRow W0.heap.size e sz v n xs:=(h.res _ (List.mem_of_getElem? hi)).1
theorem St.obj(h:St W0 w F L I)(i:Nat){b:Nat}{o:Obj}(hi:L[i]?=some (.obj b o)):w.heap[b]?=some o:=(h.res _ (List.mem_of_getElem? hi)).1.1
theorem St.lay(h:St W0 w F L I)(o:Obj):St W0 (w.alloc o) F (.obj w.heap.size o::L) I :=
 h.add ((Below.refl _ w).alloc (Nat.le_refl _) _) _ ⟨World.alloc_heap_new w o,h.size⟩ fun k hk=>by simp only [Res.own,Option.some.injEq] at hk; omega
theorem St.putObj(h:St W0 w F L I)(i:Nat){b:Nat}{o:Obj}(hi:L[i]?=some (.obj b o))(o':Obj):St W0 (w.putObj b o') F (L.set i (.obj b o')) I :=
 h.upd i hi ((Chg.refl _ w).grown (grownBy_putObj' w b o') fun k hk _=>hk) (.obj b o')
  ⟨World.putObj_heap_same (Array.getElem?_eq_some_iff.1 (h.obj i hi)).1,(h.res _ (List.mem_of_getElem? hi)).1.2⟩ fun k hk=>.inl hk
theorem St.ne(h:St W0 w F L I)(i j:Nat){r x:Res}(hi:L[i]?=some r)(hj:L[j]?=some x)(hij:i≠j){k:Nat}(hr:r.own=some k):x.own≠some k:=nd_other h.nd hi hj hij hr
theorem St.rules(h:St W0 w F L I)(i:Nat){b:Nat}{cs:Array Value}{t:TypeId}(hi:L[i]?=some (.blk b cs t)):(∀ i,w.cell? ⟨b,i,none⟩=cs[i]?)∧(∀ i,w.frozen? ⟨b,i,none⟩=false)∧(∀ n,okSize cs n=true→cellsO w ⟨b,0,none⟩ 0 n=some cs.toList):=(h.blk i hi).rules
theorem St.set(h:St W0 w F L I)(i:Nat){b:Nat}{cs:Array Value}{t:TypeId}(hi:L[i]?=some (.blk b cs t))(j:Nat)(v:Value):St W0 (w.setCell ⟨b,j,none⟩ v) F (L.set i (.blk b (cs.setIfInBounds j v) t)) I :=
 h.upd i hi ((Chg.refl _ w).setCell _ _ fun _=>rfl) _ ⟨(h.blk i hi).set j v,(h.low i hi).1⟩ fun k hk=>.inl hk
theorem St.grow(h:St W0 w F L I)(i:Nat){v v':Value}{e sz n n':Nat}{xs xs':List Value}(hi:L[i]?=some (.row v e sz n xs))(hg:w.grownBy w' v.ownBlock)(hr:w'.ownsRow W0.heap.size e sz v' n' xs')
  (hn:∀ k,v'.ownBlock=some k→v.ownBlock=some k∨w.heap.size≤k):St W0 w' F (L.set i (.row v' e sz n' xs')) I :=
 h.upd i hi ((Chg.refl _ w).grown hg fun k hk _=>hk) (.row v' e sz n' xs') hr hn
theorem St.put(h:St W0 w F L I)(i:Nat){g cap:Nat}{e sz n:Nat}{xs:List Value}(hi:L[i]?=some (.row (.slice (some ⟨g,0,none⟩) n cap) e sz n xs))(j:Nat)(u:Value) :
  St W0 (w.setCell ⟨g,j,none⟩ u) F (L.set i (.row (.slice (some ⟨g,0,none⟩) n cap) e sz n (xs.set j u))) I :=
 h.upd i hi ((Chg.refl _ w).setCell ⟨g,j,none⟩ u fun _=>rfl) (.row (.slice (some ⟨g,0,none⟩) n cap) e sz n (xs.set j u)) ((h.row i hi).stored j u).1 fun k hk=>.inl hk
theorem St.keep(h:St W0 w F L I)(a:Inv)(ha:a.holds w)(hf:∀ k,a.foot k→k<w.heap.size∧¬ F k∧∀ r∈L,r.own≠some k):St W0 w F L (a::I) :=
 ⟨h.bel,h.foot,h.res,h.nd,fun x hx=>by
  rcases List.mem_cons.1 hx with rfl | hx
  ·exact ⟨ha,hf⟩
  ·exact h.inv x hx⟩
theorem St.seal{r:Res}(h:St W0 w F (r::L) I)(a:Inv)(ha:a.holds w)(hf:∀ k,a.foot k→r.own=some k):St W0 w F L (a::I):=by
 have hr:=h.res r List.mem_cons_self
 refine (h.sub (List.sublist_cons_self r L)).keep a ha fun k hk=>?_
 have e:=hf k hk
 refine ⟨(hr.1.lt k e).2,hr.2 k e,fun x hx hxk=>?_⟩
 obtain ⟨j,hj,rfl⟩:=List.mem_iff_getElem.1 hx
 exact nd_other h.nd (i:=0) (j:=j+1) rfl (by simp [List.getElem?_eq_getElem hj]) (by omega) e hxk
theorem St.get(h:St W0 w F L I)(i:Nat){a:Inv}(hi:I[i]?=some a):a.holds w:=(h.inv a (List.mem_of_getElem? hi)).1
end
section
variable {P:Program} {W0 w:World} {F:Nat→Prop} {L:List Res} {I:List Inv} {K:Value→World→Prop}
theorem St.fill(h:St W0 w F L I)(i:Nat){b:Nat}{z cs:Array Value}{t:TypeId}(hi:L[i]?=some (.blk b z t))(hs:z.size=cs.size):St W0 (w.fill b cs) F (L.set i (.blk b cs t)) I :=
 h.upd i hi ((Chg.refl _ w).fill fun _=>rfl) _ ⟨(h.blk i hi).fill hs,(h.low i hi).1⟩ fun k hk=>.inl hk
theorem own_slice{base e sz n:Nat}{v:Value}{xs:List Value}(h:w.ownsRow base e sz v n xs):∃ a cap,v=.slice a n cap∧n≤cap:=by
 rcases h.2 with ⟨rfl,rfl⟩ | ⟨g,cap,cur,rfl,_,_,hn,_⟩
 ·exact ⟨none,0,rfl,Nat.le_refl _⟩
 ·exact ⟨_,cap,rfl,hn⟩
theorem rawB_append0{t ty e size bytes:Nat}{z:Value}{cs:Array Bool}{a a':Option Addr}{n cap c:Nat}
  (hm:mkI P t=some (e,size,bytes,z)) (hle:n≤cap) (hK:K (.slice a n cap) w):rawB P .append #[t,t] ty cs [.slice a n cap,.slice a' 0 c] w K:=by
 obtain ⟨i,hu,hi,hzz,hsi,hby⟩:=mkI_some hm
 refine ⟨_,w,?_,hK⟩
 cases a <;> cases a' <;> simp [builtin,Builtin.append_,run_underlying hu,sizeOf,typeInfo,hi,Builtin.lenOf,Builtin.firstCells,loadCells,loadCellsFrom,hle,storeCells]
theorem St.append{t ty e sz bytes:Nat}{z:Value}{cs:Array Bool}{n m:Nat}{v x:Value}{xs ys:List Value}(h:St W0 w F L I)(i:Nat)(hi:L[i]?=some (.row v e sz n xs))
  (hm:mkI P t=some (e,sz,bytes,z)) (hzs:z.cells.size=sz) (hsz:0<sz) (hx:Rd w sz x m ys) (h1:∀ u∈ys,u.oneCell'=true) (hbytes:(n+m) * bytes≤140737488355328) (h63:n+m≤9223372036854775807)
  (hK:∀ v' w',St W0 w' F (L.set i (.row v' e sz (n+m) (xs++ys))) I→Chg (fun k=>v.ownBlock=some k) w w'→K v' w'):rawB P .append #[t,t] ty cs [v,x] w K:=by
 have hr:=h.row i hi
 obtain ⟨hl,a,c,rfl,hac,hcell⟩:=hx
 obtain ⟨a',cap',rfl,hac'⟩:=own_slice hr
 rcases Nat.eq_zero_or_pos m with hm0 | hm0
 ·subst hm0
  have hy:ys=[]:=List.eq_nil_of_length_eq_zero (by rw [hl]; simp)
  subst hy
  refine rawB_append0 hm hac' (hK _ _ ?_ (Chg.refl _ _))
  rw [List.append_nil,Nat.add_zero]
  have:L.set i (.row (.slice a' n cap') e sz n xs)=L:=by
   apply List.ext_getElem?
   intro j
   rw [List.getElem?_set]
   split
   ·rename_i e; subst e; rw [hi]; simp [(List.getElem?_eq_some_iff.1 hi).1]
   ·rfl
  rw [this]; exact h
 ·obtain ⟨ad,rfl,hc⟩:=hcell (by omega)
  refine rawB_append hm hzs hsz hr hl hc h1 hm0 hbytes h63 h.size ?_
  intro g cap w' hown hgr hg hlt
  refine hK _ _ (h.grow i hi hgr hown fun k hk=>?_) ((Chg.refl _ w).grown hgr fun k hk _=>hk)
  simp only [Value.ownBlock,Option.some.injEq] at hk
  subst hk
  exact hg.imp id fun e=>Nat.le_of_eq e.symm
theorem rd_new{t:TypeId}{sz n:Nat}{cs:Array Value}(hs:cs.size=n * sz):Rd (w.alloc (.cells cs t)) sz (.slice (some ⟨w.heap.size,0,none⟩) n n) n cs.toList :=
 ⟨by simpa using hs,_,n,rfl,Nat.le_refl _,fun _=>⟨_,rfl,fun j u hu=>by rw [Addr.add_lit,Nat.zero_add,cA_new rfl]; simpa using hu⟩⟩
end
theorem RdS.of_own'{α:Type}{w:World}{B e sz n:Nat}{enc:α→List Value}{v:Value}{ys:List Value}(h:w.ownsRow B e sz v n ys)(xs:List α)(hn:n=xs.length)(hy:ys=xs.flatMap enc):RdS w sz enc v xs:=by
 subst hn hy; exact RdS.of_own h
def slFoot(v:Value)(k:Nat):Prop:=∃ a n c,v=.slice (some a) n c∧n≠0∧k=a.block
theorem slFoot_own{v:Value}{k:Nat}(h:slFoot v k):v.ownBlock=some k:=by
 obtain ⟨a,n,c,rfl,_,rfl⟩:=h; rfl
theorem Rd.loc{w w':World}{sz n:Nat}{v:Value}{xs:List Value}(h:Rd w sz v n xs)(hk:∀ k,slFoot v k→w'.heap[k]?=w.heap[k]?):Rd w' sz v n xs:=by
 obtain ⟨h1,a,cap,rfl,h2,h3⟩:=h
 refine ⟨h1,a,cap,rfl,h2,fun hn=>?_⟩
 obtain ⟨ad,rfl,h4⟩:=h3 hn
 exact ⟨ad,rfl,fun j u hu=>(World.cell?_of_block (hk _ (by rw [add_block]; exact ⟨_,_,_,rfl,hn,rfl⟩))).trans (h4 j u hu)⟩
def Inv.rd{α:Type}(sz:Nat)(enc:α→List Value)(v:Value)(xs:List α):Inv:=⟨fun w=>RdS w sz enc v xs,slFoot v,fun _ _ h hk=>Rd.loc h hk⟩
section
variable {W0 w w':World} {F:Nat→Prop} {L:List Res} {I:List Inv} {α:Type} {sz:Nat} {enc:α→List Value} {v:Value} {xs:List α}
theorem St.rd(h:St W0 w F L I)(i:Nat)(hi:I[i]?=some (.rd sz enc v xs)):RdS w sz enc v xs:=h.get i hi
end
end Go.Ann

namespace Go.Ann
open Go Go.RowKit
section
variable {P:Program} {N:Nat}
def lowE:Env→Env
 | []=>[]
 | (m,v)::ρ=>if m<1000000 then (m,v)::lowE ρ else lowE ρ
theorem lowE_nil:lowE []=[]:=rfl
theorem lowE_cons{m:Nat}{v:Value}{ρ:Env}:lowE ((m,v)::ρ)=if m<1000000 then (m,v)::lowE ρ else lowE ρ:=rfl
def zipE:List Nat→List Value→Env→Env
 | p::ps,v::vs,ρ=>zipE ps vs ((p,v)::ρ)
 | _,_,ρ=>ρ
theorem zipE_nil{vs:List Value}{ρ:Env}:zipE [] vs ρ=ρ:=by cases vs <;> rfl
theorem zipE_none{ps:List Nat}{ρ:Env}:zipE ps [] ρ=ρ:=by cases ps <;> rfl
theorem zipE_cons{p:Nat}{ps:List Nat}{v:Value}{vs:List Value}{ρ:Env}:zipE (p::ps) (v::vs) ρ=zipE ps vs ((p,v)::ρ):=rfl
attribute [go_sem] lowE_nil lowE_cons zipE_nil zipE_none zipE_cons
theorem marksD_lowE:∀ ρ:Env,marksD (lowE ρ)=[]
 | []=>rfl
 | (m,v)::ρ=>by
  simp only [lowE]
  split
  ·rename_i h; simp only [marksD,if_pos h]; exact marksD_lowE ρ
  ·exact marksD_lowE ρ
theorem lk_lowE:∀ (ρ:Env) (n:Nat) (v:Value),lk (lowE ρ) n=some v→lk ρ n=some v
 | [],_,_,h=>h
 | (m,u)::ρ,n,v,h=>by
  have low:∀ (ρ:Env) (n:Nat) (v:Value),lk (lowE ρ) n=some v→n<1000000:=by
   intro ρ
   induction ρ with
   | nil=>intro n v h; simp [lowE,lk_emp] at h
   | cons x ρ ih =>
    obtain ⟨m,u⟩:=x
    intro n v h
    simp only [lowE] at h
    split at h
    ·simp only [lk_if] at h
     split at h
     ·omega
     ·exact ih n v h
    ·exact ih n v h
  simp only [lowE] at h
  split at h
  ·simp only [lk_if] at h ⊢
   split at h
   ·rename_i e; rw [if_pos e]; exact h
   ·rename_i e; rw [if_neg e]; exact lk_lowE ρ n v h
  ·rename_i hm
   have:=low ρ n v h
   rw [lk_if,if_neg (by omega)]
   exact lk_lowE ρ n v h
theorem Sim.lowE{a:Act}{ρ:Env}(h:Sim N a ρ):Sim N { tmps:=a.tmps,defers:=[] } (lowE ρ) :=
 ⟨h.size,h.small,by rw [marksD_lowE]; rfl,fun n v hv=>h.slot n v (lk_lowE ρ n v hv)⟩
theorem Sim.zipE{a:Act}:∀ (ps:List Nat) (vs:List Value) (ρ:Env) (t:Array Value),(∀ p∈ps,p<N)→Sim N { tmps:=t,defers:=a.defers } ρ→Sim N { tmps:=(ps.zip vs).foldl (fun t (p,v)=>t.setIfInBounds p v) t,defers:=a.defers } (zipE ps vs ρ)
 | [],vs,ρ,t,_,h=>by cases vs <;> exact h
 | p::ps,[],ρ,t,_,h=>h
 | p::ps,v::vs,ρ,t,hp,h=>by
  simp only [List.zip_cons_cons,List.foldl_cons,Ann.zipE]
  exact Sim.zipE ps vs _ _ (fun q hq=>hp q (List.mem_cons_of_mem _ hq)) (h.put (d:=some p) (by simpa [okDst] using hp p List.mem_cons_self) v)
theorem Sim.mark{a:Act}{ρ:Env}(h:Sim N a ρ)(D:Nat):Sim N { a with defers:={ target:=.collected D,args:=#[] }::a.defers } ((D+1000000,undef)::ρ):=by
 refine ⟨h.size,h.small,?_,fun n v hv=>?_⟩
 ·show _::a.defers=_
  rw [h.defers]
  simp only [marksD,if_neg (show ¬ D+1000000<1000000 by omega),Nat.add_sub_cancel]
  rfl
 ·simp only [lk_if] at hv
  split at hv
  ·rename_i e
   simp only [Option.some.injEq] at hv; subst hv
   show a.tmps.getD n undef=undef
   rw [Array.getD_eq_getD_getElem?,Array.getElem?_eq_none (by rw [h.size]; have:=h.small; omega)]; rfl
  ·exact h.slot n v hv
theorem W_rangeF{g:Operand}{ps L:List Nat}{a b:Cmd}{ρ:Env}{w:World}{Q:Post}:W P (.rangeF g ps a b L) ρ w Q=RangeW P g ps a b ρ w (keepQ L Q):=(rfl)
theorem keepQ_normal{L:List Nat}{ρ:Env}{w:World}{Q:Post}:keepQ L Q .normal ρ w=Q .normal (restr L ρ) w:=(rfl)
theorem keepQ_ret{L:List Nat}{ρ:Env}{w:World}{Q:Post}:keepQ L Q .ret ρ w=Q .ret ρ w:=(rfl)
theorem keepQ_exit{L:List Nat}{ρ:Env}{w:World}{Q:Post}{i:Nat}:keepQ L Q (.exit i) ρ w=Q (.exit i) ρ w:=(rfl)
theorem mark_beq{D n:Nat}:(D+1000000 == n)=decide (D+1000000=n):=by rw [Bool.eq_iff_iff,beq_iff_eq,decide_eq_true_eq]
theorem marks_one{D:Nat}{v:Value}:marksD [(D+1000000,v)]=[D]:=by simp [marksD]
attribute [go_sem] W_rangeF mark_beq marks_one keepQ_normal keepQ_ret keepQ_exit
end
end Go.Ann

namespace Go.Ann
open Go Go.RowKit
inductive ST where
 | nil
 | one (k i:Nat) (r:ST)
 | alt (i:Nat) (r q:ST)
 | stop
inductive GT where
 | nil
 | one (k:Nat) (x:Ins) (r:GT)
 | alt (x:Ins) (r q:GT)
 | stop
def insOf(l:List Oper)(i:Nat):Option Ins :=
 match l[i]? with
 | none=>none
 | some o=>match stripG l o.guard with
  | some g=>some ⟨o.dst,o.op,o.type,g⟩
  | none=>none
def insT(l:List Oper):ST→Option GT
 | .nil=>some .nil
 | .stop=>some .stop
 | .one k i r=>match insOf l i,insT l r with
  | some x,some t=>some (.one k x t)
  | _,_=>none
 | .alt i r q=>match insOf l i,insT l r,insT l q with
  | some x,some t,some u=>some (.alt x t u)
  | _,_,_=>none
def ST.heads:ST→List Nat
 | .alt i _ q=>i::q.heads
 | _=>[]
def schedT(ops:Array Oper)(hb:List Nat):ST→Nat→Bool→Array Bool→Bool
 | .nil,n,top,listed=>top && n == 0 && (Region.ready .any ops listed).isEmpty
 | .one 0 i r,n,top,listed=>top && n != 0 && (Region.ready .any ops listed).contains i && Region.free .any ops listed i && schedT ops hb r (n - 1) true (listed.setIfInBounds i true)
 | .one 1 i r,n,top,listed=>top && n != 0 && hb.contains i && (Region.ready .any ops listed).contains i && Region.free .any ops listed i && schedT ops hb r (n - 1) true (listed.setIfInBounds i true)
 | .one 2 i r,n,top,listed=>top && n != 0 && (Region.ready .any ops listed == [i]) && schedT ops hb r (n - 1) true (listed.setIfInBounds i true)
 | .one (_+3) _ _,_,_,_=>false
 | .alt i r q,n,top,listed=>(!top || Region.ready .any ops listed == i::q.heads) && n != 0 && schedT ops hb r (n - 1) true (listed.setIfInBounds i true) && schedT ops hb q n false listed
 | .stop,_,top,_=>!top
def stepX(P:Program)(S:World→Prop)(k:Nat)(x:Ins)(ρ:Env)(w:World)(C:Env→World→Prop):Prop :=
 match x.g with
 | none=>opG P S k x.op x.ty ρ w fun v w'=>C (put ρ x.dst v) w'
 | some (s,b)=>match lk ρ s with
  | some (.bool c)=>(c=b→opG P S k x.op x.ty ((s,.bool b)::ρ) w fun v w'=>C (put ((s,.bool b)::ρ) x.dst v) w')∧(c=!b→C (put ((s,.bool !b)::ρ) x.dst undef) w)
  | some (.tuple _)=>C (put ρ x.dst undef) w
  | _=>False
def DT(P:Program)(S:World→Prop):GT→List Nat→Env→World→Post→Prop
 | .nil,L,ρ,w,Q=>Q .normal (restr L ρ) w
 | .one k x r,L,ρ,w,Q=>stepX P S k x ρ w fun ρ' w'=>DT P S r L ρ' w' Q
 | .alt x r q,L,ρ,w,Q=>(stepX P S 2 x ρ w fun ρ' w'=>DT P S r L ρ' w' Q)∧DT P S q L ρ w Q
 | .stop,_,_,_,_=>True
theorem stepX_cases{P:Program}{S:World→Prop}{N:Nat}{l:List Oper}{k i:Nat}{x:Ins}{o:Oper}{ρ:Env}{w:World}{a:Act}{C:Env→World→Prop}(ho:l[i]?=some o)(hx:insOf l i=some x)(hs:Sim N a ρ)(h:stepX P S k x ρ w C) :
  x.dst=o.dst∧x.op=o.op∧x.ty=o.type∧((∃ ρ',Sim N a ρ'∧Region.wanted o (yielded l.toArray a.tmps)=true∧opG P S k o.op o.type ρ' w fun v w'=>C (put ρ' o.dst v) w') ∨
   (∃ ρ',Sim N a ρ'∧Region.wanted o (yielded l.toArray a.tmps)=false∧C (put ρ' o.dst undef) w)):=by
 unfold insOf at hx
 rw [ho] at hx
 simp only at hx
 split at hx
 case h_2=>cases hx
 rename_i g hg
 simp only [Option.some.injEq] at hx
 subst hx
 refine ⟨rfl,rfl,rfl,?_⟩
 unfold stepX at h
 simp only at h
 cases hgo:o.guard with
 | none =>
  rw [hgo] at hg
  simp only [stripG,Option.some.injEq] at hg; subst hg
  exact .inl ⟨ρ,hs,by simp only [Region.wanted,hgo],h⟩
 | some jb =>
  obtain ⟨j,b⟩:=jb
  rw [hgo] at hg
  simp only [stripG] at hg
  split at hg
  case h_2=>cases hg
  rename_i s hs0
  simp only [Option.some.injEq] at hg; subst hg
  simp only at h
  split at h
  ·rename_i c hc
   have hy:=yielded_of hs hs0 hc
   by_cases hcb:c=b
   ·subst hcb
    exact .inl ⟨_,hs.know hc,by simp only [Region.wanted,hgo,hy,beq_self_eq_true],h.1 rfl⟩
   ·have hcb':c=!b:=bool_ne hcb
    have hc':lk ρ s=some (.bool !b):=by rw [← hcb']; exact hc
    exact .inr ⟨_,hs.know hc',by simp only [Region.wanted,hgo,hy]; simpa using hcb,h.2 hcb'⟩
  ·rename_i u hc
   exact .inr ⟨ρ,hs,by simp only [Region.wanted,hgo,yielded_undef hs hs0 hc]; rfl,h⟩
  ·exact h.elim
theorem stepX_op{P:Program}{S:World→Prop}{N:Nat}{l:List Oper}(hall:l.all (fun o=>okDst N o.dst)=true){hb:List Nat}{L:List Nat}{Q:Post}{i n:Nat}{x:Ins}{ρ:Env}{w:World}{a:Act}{listed:Array Bool}{C:Env→World→Prop}
  (hx:insOf l i=some x) (hs:Sim N a ρ) (hSw:S w) (h:stepX P S 2 x ρ w C)
  (hC:∀ ρ' a' w',Sim N a' ρ'→S w'→C ρ' w'→wpAnyG P .any l.toArray (drawQ N L Q) S hb n (listed.setIfInBounds i true) a' w') :
  wpOp P l.toArray (drawQ N L Q) i (fun a' w'=>(needB .any l.toArray hb i=true→S w→S w')∧wpAnyG P .any l.toArray (drawQ N L Q) S hb n (listed.setIfInBounds i true) a' w') a w:=by
 obtain ⟨o,ho⟩:∃ o,l[i]?=some o:=by
  unfold insOf at hx
  split at hx
  ·cases hx
  ·exact ⟨_,by assumption⟩
 have ho':l.toArray[i]?=some o:=by simpa using ho
 have hd:okDst N o.dst=true:=List.all_eq_true.1 hall o (List.mem_of_getElem? ho)
 obtain ⟨_,_,_,⟨ρ',hs',hw,h⟩ | ⟨ρ',hs',hw,h⟩⟩:=stepX_cases ho hx hs h
 ·exact wpOp_doneG ho' hw (opW_done (show opW P o.op o.type ρ' w _ from h.2) h.1 a.eval hs'.eval) fun v w' hk=>⟨fun _ _=>hk.1,hC _ _ _ (hs'.put hd v) hk.1 hk.2⟩
 ·exact wpOp_skip ho' hw ⟨fun _ h=>h,hC _ _ _ (hs'.put hd undef) hSw h⟩
theorem DT_sound{P:Program}{S:World→Prop}{N:Nat}{l:List Oper}(hall:l.all (fun o=>okDst N o.dst)=true)(hns:Region.noSelect l.toArray=true)(hb:List Nat)(L:List Nat)(Q:Post):∀ st:ST,
  (∀ (n:Nat) (gt:GT) (ρ:Env) (w:World) (a:Act) (listed:Array Bool),insT l st=some gt→schedT l.toArray hb st n true listed=true→Sim N a ρ→S w→DT P S gt L ρ w Q→wpAnyG P .any l.toArray (drawQ N L Q) S hb n listed a w) ∧
  (∀ (n:Nat) (gt:GT) (ρ:Env) (w:World) (a:Act) (listed:Array Bool),insT l st=some gt→schedT l.toArray hb st (n+1) false listed=true→Sim N a ρ→S w→DT P S gt L ρ w Q →
   ∀ j∈st.heads,wpOp P l.toArray (drawQ N L Q) j (fun a' w'=>(needB .any l.toArray hb j=true→S w→S w')∧wpAnyG P .any l.toArray (drawQ N L Q) S hb n (listed.setIfInBounds j true) a' w') a w):=by
 have hpan:∀ (d:Option Nat) (v:Value) c (a:Act) (w:World),drawQ N L Q (.panic c) (a.put d v) w→drawQ N L Q (.panic c) a w:=by
  rintro d v c a w ⟨_,_,hn,_⟩; cases hn
 intro st
 induction st with
 | nil =>
  refine ⟨fun n gt ρ w a listed hi hok hs hSw h=>?_,fun n gt ρ w a listed hi hok hs hSw h j hj=>by cases hj⟩
  simp only [insT,Option.some.injEq] at hi; subst hi
  simp only [schedT,Bool.and_eq_true,beq_iff_eq,List.isEmpty_iff,true_and] at hok
  obtain ⟨rfl,hr⟩:=hok
  exact ⟨hr,ρ,hs,rfl,h⟩
 | stop =>
  refine ⟨fun n gt ρ w a listed hi hok hs hSw h=>?_,fun n gt ρ w a listed hi hok hs hSw h j hj=>by cases hj⟩
  simp [schedT] at hok
 | one k i r ih =>
  refine ⟨fun n gt ρ w a listed hi hok hs hSw h=>?_,fun n gt ρ w a listed hi hok hs hSw h j hj=>by cases hj⟩
  simp only [insT] at hi
  split at hi
  case h_2=>cases hi
  rename_i x t hx ht
  simp only [Option.some.injEq] at hi; subst hi
  obtain ⟨o,ho⟩:∃ o,l[i]?=some o:=by
   unfold insOf at hx
   split at hx
   ·cases hx
   ·exact ⟨_,by assumption⟩
  have ho':l.toArray[i]?=some o:=by simpa using ho
  have hd:okDst N o.dst=true:=List.all_eq_true.1 hall o (List.mem_of_getElem? ho)
  simp only [DT] at h
  match k,hok,h with
  | 0,hok,h =>
   simp only [schedT,Bool.and_eq_true,bne_iff_ne,ne_eq,true_and] at hok
   obtain ⟨m,rfl⟩:∃ m,n=m+1:=⟨n - 1,by omega⟩
   rw [Nat.add_sub_cancel] at hok
   obtain ⟨_,_,_,⟨ρ',hs',hw,h⟩ | ⟨ρ',hs',hw,h⟩⟩:=stepX_cases ho hx hs h
   ·obtain ⟨v,hv,hk⟩:=pureW_runs (show pureW P o.op o.type ρ' w _ from h)
    refine wpAnyG_take (T:=fun _=>True) ho' hns hok.1.2 hok.1.1.2 (.inl fun _=>trivial) (hpan _ _) (.inl ⟨hw,fun w' _=>?_⟩) trivial (ih.1 m t _ w _ _ ht hok.2 (hs'.put hd v) hSw hk)
    rw [execOp_raw]; exact hv a.eval hs'.eval w'
   ·exact wpAnyG_take (T:=fun _=>True) ho' hns hok.1.2 hok.1.1.2 (.inl fun _=>trivial) (hpan _ _) (.inr ⟨hw,rfl⟩) trivial (ih.1 m t _ w _ _ ht hok.2 (hs'.put hd undef) hSw h)
  | 1,hok,h =>
   simp only [schedT,Bool.and_eq_true,bne_iff_ne,ne_eq,true_and,List.contains_iff_mem] at hok
   obtain ⟨m,rfl⟩:∃ m,n=m+1:=⟨n - 1,by omega⟩
   rw [Nat.add_sub_cancel] at hok
   obtain ⟨_,_,_,⟨ρ',hs',hw,h⟩ | ⟨ρ',hs',hw,h⟩⟩:=stepX_cases ho hx hs h
   ·obtain ⟨v,hv,hk⟩:=opH_runs (show opH P S o.op o.type ρ' w _ from h)
    refine wpAnyG_take (T:=S) ho' hns hok.1.2 (by simpa using hok.1.1.2) (.inr ⟨hok.1.1.1.2,rfl⟩) (hpan _ _) (.inl ⟨hw,fun w' hw'=>?_⟩) hSw (ih.1 m t _ w _ _ ht hok.2 (hs'.put hd v) hSw hk)
    rw [execOp_raw]; exact hv a.eval hs'.eval w' hw'
   ·exact wpAnyG_take (T:=fun _=>True) ho' hns hok.1.2 (by simpa using hok.1.1.2) (.inl fun _=>trivial) (hpan _ _) (.inr ⟨hw,rfl⟩) trivial (ih.1 m t _ w _ _ ht hok.2 (hs'.put hd undef) hSw h)
  | 2,hok,h =>
   simp only [schedT,Bool.and_eq_true,bne_iff_ne,ne_eq,true_and,beq_iff_eq] at hok
   obtain ⟨m,rfl⟩:∃ m,n=m+1:=⟨n - 1,by omega⟩
   rw [Nat.add_sub_cancel] at hok
   refine wpAnyG_all hok.1.2 (by simp) fun j hj=>?_
   simp only [List.mem_singleton] at hj; subst hj
   exact stepX_op hall hx hs hSw h fun ρ' a' w' hs' hSw' hC=>ih.1 m t ρ' w' a' _ ht hok.2 hs' hSw' hC
  | k+3,hok,h=>simp [schedT] at hok
 | alt i r q ihr ihq =>
  have step:∀ (n:Nat) (top:Bool) (gt:GT) (ρ:Env) (w:World) (a:Act) (listed:Array Bool),insT l (.alt i r q)=some gt→schedT l.toArray hb (.alt i r q) (n+1) top listed=true→Sim N a ρ→S w→DT P S gt L ρ w Q →
    ∀ j∈(ST.alt i r q).heads,wpOp P l.toArray (drawQ N L Q) j (fun a' w'=>(needB .any l.toArray hb j=true→S w→S w')∧wpAnyG P .any l.toArray (drawQ N L Q) S hb n (listed.setIfInBounds j true) a' w') a w:=by
   intro n top gt ρ w a listed hi hok hs hSw h j hj
   simp only [insT] at hi
   split at hi
   case h_2=>cases hi
   rename_i x t u hx ht hu
   simp only [Option.some.injEq] at hi; subst hi
   simp only [schedT,Bool.and_eq_true,Nat.add_sub_cancel] at hok
   obtain ⟨h1,h2⟩:=h
   rcases List.mem_cons.1 hj with rfl | hj
   ·exact stepX_op hall hx hs hSw h1 fun ρ' a' w' hs' hSw' hC=>ihr.1 n t ρ' w' a' _ ht hok.1.2 hs' hSw' hC
   ·exact ihq.2 n u ρ w a listed hu hok.2 hs hSw h2 j hj
  refine ⟨fun n gt ρ w a listed hi hok hs hSw h=>?_,fun n gt ρ w a listed hi hok hs hSw h j hj=>step n false gt ρ w a listed hi hok hs hSw h j hj⟩
  have hok2:=hok
  simp only [schedT,Bool.and_eq_true,bne_iff_ne,ne_eq,Bool.not_true,Bool.false_or,beq_iff_eq] at hok2
  obtain ⟨m,rfl⟩:∃ m,n=m+1:=⟨n - 1,by omega⟩
  exact wpAnyG_all hok2.1.1.1 (by simp) fun j hj=>step m true gt ρ w a listed hi hok hs hSw h j hj
theorem drawW_tree{P:Program}{l:List Oper}{L:List Nat}{ρ:Env}{w:World}{Q:Post}(hb:List Nat)(st:ST)(gt:GT)(hm:P.follows .mixedOrders=true)
  (hi:insT l st=some gt) (hok:(Region.noSelect l.toArray && schedT l.toArray hb st l.length true (Array.replicate l.length false))=true)
  (S:World→Prop) (hS:S w.drew) (h:DT P S gt L ρ w.drew Q):drawW P l L ρ w Q:=by
 intro N a hall hs
 refine .inl ?_
 simp only [Bool.and_eq_true] at hok
 refine ops_of_any hm (wpAny_of_G (S:=S) (hb:=hb) _ _ _ _ ?_)
 have:=(DT_sound (S:=S) hall hok.1 hb L Q st).1 l.length gt ρ w.drew a (Array.replicate l.length false) hi hok.2 hs hS h
 have e:l.toArray.size=l.length:=by simp
 rw [e]
 exact this
section
variable {P:Program} {S:World→Prop} {w:World} {ρ:Env} {Q:Post} {r q:GT} {L:List Nat} {d:Option Nat} {ty:TypeId} {k:Nat} {op:Op} {s:Nat} {b c:Bool} {x:Ins}
def DTn(P:Program)(S:World→Prop)(r:GT)(L:List Nat)(ρ:Env)(d:Option Nat)(Q:Post):Value→World→Prop:=fun v w=>DT P S r L (put ρ d v) w Q
def DTs(P:Program)(S:World→Prop)(r:GT)(L:List Nat)(ρ:Env)(d:Option Nat)(Q:Post):Value→World→Prop:=fun v w=>S w∧DT P S r L (put ρ d v) w Q
def opT(P:Program)(S:World→Prop)(k:Nat)(op:Op)(ty:TypeId)(r:GT)(L:List Nat)(ρ:Env)(d:Option Nat)(w:World)(Q:Post):Prop:=opG P S k op ty ρ w (DTn P S r L ρ d Q)
def dT(P:Program)(S:World→Prop)(o:Option Value)(s:Nat)(b:Bool)(k:Nat)(d:Option Nat)(op:Op)(ty:TypeId)(r:GT)(L:List Nat)(ρ:Env)(w:World)(Q:Post):Prop :=
 match o with
 | some (.bool c)=>(c=b→opT P S k op ty r L ((s,.bool b)::ρ) d w Q)∧(c=!b→DT P S r L (put ((s,.bool !b)::ρ) d undef) w Q)
 | some (.tuple _)=>DT P S r L (put ρ d undef) w Q
 | _=>False
def nxT(P:Program)(S:World→Prop)(k:Nat)(x:Ins)(r:GT)(L:List Nat)(ρ:Env)(w:World)(Q:Post):Prop:=stepX P S k x ρ w fun ρ' w'=>DT P S r L ρ' w' Q
theorem DT_nil:DT P S .nil L ρ w Q=Q .normal (restr L ρ) w:=(rfl)
theorem DT_stop:DT P S .stop L ρ w Q=True:=(rfl)
theorem DT_one:DT P S (.one k x r) L ρ w Q=nxT P S k x r L ρ w Q:=(rfl)
theorem DT_alt:DT P S (.alt x r q) L ρ w Q=(nxT P S 2 x r L ρ w Q∧DT P S q L ρ w Q):=(rfl)
theorem nxT_plain:nxT P S k ⟨d,op,ty,none⟩ r L ρ w Q=opT P S k op ty r L ρ d w Q:=(rfl)
theorem nxT_guard:nxT P S k ⟨d,op,ty,some (s,b)⟩ r L ρ w Q=dT P S (lk ρ s) s b k d op ty r L ρ w Q:=by
 simp only [nxT,stepX,dT]; rfl
theorem DTn_app{v:Value}:DTn P S r L ρ d Q v w=DT P S r L (put ρ d v) w Q:=(rfl)
theorem DTs_app{v:Value}:DTs P S r L ρ d Q v w=(S w∧DT P S r L (put ρ d v) w Q):=(rfl)
theorem opT_0:opT P S 0 op ty r L ρ d w Q=pureW P op ty ρ w (DTn P S r L ρ d Q):=(rfl)
theorem opT_1{t:TypeId}{x:Operand}:opT P S 1 (.load t x) ty r L ρ d w Q=ptrW (fun p=>heldW P S t p w (DTn P S r L ρ d Q)) (ev ρ x):=(rfl)
theorem opT_2:opT P S 2 op ty r L ρ d w Q=(noY ρ op∧opW P op ty ρ w (DTs P S r L ρ d Q)):=(rfl)
theorem dT_t:dT P S (some (.bool true)) s true k d op ty r L ρ w Q=opT P S k op ty r L ((s,.bool true)::ρ) d w Q:=by simp [dT]
theorem dT_f:dT P S (some (.bool false)) s false k d op ty r L ρ w Q=opT P S k op ty r L ((s,.bool false)::ρ) d w Q:=by simp [dT]
theorem dT_tf:dT P S (some (.bool true)) s false k d op ty r L ρ w Q=DT P S r L (put ((s,.bool true)::ρ) d undef) w Q:=by simp [dT]
theorem dT_ft:dT P S (some (.bool false)) s true k d op ty r L ρ w Q=DT P S r L (put ((s,.bool false)::ρ) d undef) w Q:=by simp [dT]
theorem dT_gen:dT P S (some (.bool c)) s b k d op ty r L ρ w Q=((c=b→opT P S k op ty r L ((s,.bool b)::ρ) d w Q)∧(c=!b→DT P S r L (put ((s,.bool !b)::ρ) d undef) w Q)):=(rfl)
theorem dT_undef:dT P S (some undef) s b k d op ty r L ρ w Q=DT P S r L (put ρ d undef) w Q:=(rfl)
end
attribute [go_sem low] dT_gen
attribute [go_sem] DT_nil DT_stop DT_one DT_alt nxT_plain nxT_guard DTn_app DTs_app opT_0 opT_1 opT_2 dT_t dT_f dT_tf dT_ft dT_undef
end Go.Ann

namespace Go.Ann
open Go Go.RowKit
section
variable {κ:Type} {P:Program} {enc:κ→Value} {t:TypeId}
def entL(enc:κ→Value):Nat→List κ→List MapEntry
 | _,[]=>[]
 | n,k::l=>{ key:=enc k,val:=.bool true,born:=n }::entL enc (n+1) l
def mapO(enc:κ→Value)(l:List κ):Obj:=.map (entL enc 0 l).toArray l.length
theorem entL_append:∀ (l m:List κ) (n:Nat),entL enc n (l++m)=entL enc n l++entL enc (n+l.length) m
 | [],m,n=>rfl
 | k::l,m,n=>by
  simp only [List.cons_append,entL,List.length_cons]
  rw [entL_append l m (n+1),show n+1+l.length=n+(l.length+1) by omega]
theorem mmW_map{m:TypeId}{w:World}{K:Value→World→Prop}(hK:K (.map (some w.heap.size)) (w.alloc (mapO (κ:=κ) enc []))):mmW P m w K:=by
 refine ⟨_,_,?_,hK⟩
 unfold Instr.makeMap
 simp [Sem.run_bind,Result.andThen,run_newObj_alloc]
 rfl
variable [DecidableEq κ]
structure KeyT(P:Program)(t:TypeId)(enc:κ→Value)(d:TypeDesc):Prop where
 und:P.underlying t=some d
 chk':∀ (n:Nat) (w:World) (em:Bool) (a:κ),(Instr.checkKey em (n+2) t (enc a)).run P w=.ok () w
 now:∀ a b:κ,Instr.sameNow d (enc a) (enc b)=none∨Instr.sameNow d (enc a) (enc b)=some (decide (a=b))
 eq:∀ (w:World) (a b:κ),(Op.equal t (enc a) (enc b)).run P w=.ok (decide (a=b)) w
theorem KeyT.chk{d:TypeDesc}(h:KeyT P t enc d)(w:World)(em:Bool)(a:κ):(Instr.checkKey em 10000 t (enc a)).run P w=.ok () w:=h.chk' 9998 w em a
def whereK(a:κ):List κ→Nat→Option (Nat × Value)
 | [],_=>none
 | b::l,i=>if a=b then some (i,.bool true) else whereK a l (i+1)
theorem whereK_not{a:κ}:∀ {l:List κ} {i:Nat},a ∉ l→whereK a l i=none
 | [],_,_=>rfl
 | b::l,i,h=>by
  rw [whereK,if_neg (fun e=>h (by rw [e]; exact List.mem_cons_self ..)),whereK_not fun hm=>h (List.mem_cons_of_mem _ hm)]
theorem whereK_mem{a:κ}:∀ {l:List κ} {i:Nat},a∈l→∃ j,whereK a l i=some (j,.bool true)
 | b::l,i,h=>by
  rw [whereK]
  split
  ·exact ⟨_,rfl⟩
  ·rename_i hne
   rcases List.mem_cons.1 h with e | h
   ·exact absurd e hne
   ·exact whereK_mem h
variable {d:TypeDesc}
theorem findNow_ent(hk:KeyT P t enc d)(a:κ):∀ (l:List κ) (n i:Nat),Instr.findNow d (enc a) (entL enc n l) i=none∨Instr.findNow d (enc a) (entL enc n l) i=some (whereK a l i)
 | [],n,i=>.inr rfl
 | b::l,n,i=>by
  simp only [entL,Instr.findNow,whereK]
  rcases hk.now a b with h | h
  ·exact .inl (by rw [h])
  ·rw [h]
   by_cases e:a=b
   ·rw [decide_eq_true e,if_pos e]; exact .inr rfl
   ·rw [decide_eq_false e,if_neg e]; exact findNow_ent hk a l _ _
theorem findAsk_ent(hk:KeyT P t enc d)(w:World)(a:κ):∀ (l:List κ) (n i:Nat),(Instr.findAsking t (enc a) (entL enc n l) i).run P w=.ok (whereK a l i) w
 | [],n,i=>rfl
 | b::l,n,i=>by
  simp only [entL,Instr.findAsking,whereK,Sem.run_bind,hk.eq w a b,Result.andThen_ok]
  by_cases e:a=b
  ·rw [decide_eq_true e,if_pos e]; rfl
  ·rw [decide_eq_false e,if_neg e]
   simp only [Bool.false_eq_true,if_false]
   exact findAsk_ent hk w a l _ _
theorem findKey_ent(hk:KeyT P t enc d)(w:World)(a:κ)(l:List κ)(n:Nat):(Instr.findKey t (enc a) (entL enc n l)).run P w=.ok (whereK a l 0) w:=by
 unfold Instr.findKey
 simp only [Sem.run_bind,run_underlying hk.und,Result.andThen_ok]
 rcases findNow_ent hk a l n 0 with h | h
 ·rw [h]; exact findAsk_ent hk w a l n 0
 ·rw [h]; rfl
theorem luW_map{m e:TypeId}{w:World}{K:Value→World→Prop}{r:Nat}(hk:KeyT P t enc d)(hm:P.underlying m=some (.map t e)){l:List κ}(hr:w.heap[r]?=some (mapO enc l))(a:κ)
  (hz:(zeroValue e).run P w=.ok (.bool false) w) (hK:K (.bool (decide (a∈l))) w):luW P m (.map (some r)) (enc a) false w K:=by
 refine ⟨_,_,?_,hK⟩
 unfold Instr.lookup
 have hg:(getObj r).run P w=.ok (.map (entL enc 0 l).toArray l.length) w:=run_getObj_map w r _ _ hr
 simp only [Sem.run_bind,run_underlying hm,Result.andThen_ok,hg,Sem.run_pure,hk.chk,findKey_ent hk,List.toList_toArray]
 by_cases h:a∈l
 ·obtain ⟨j,hj⟩:=whereK_mem (i:=0) h
  rw [hj,decide_eq_true h]; rfl
 ·rw [whereK_not h,decide_eq_false h]
  simp only [Sem.run_bind,hz,Result.andThen_ok]
  rfl
theorem muW_map{m e:TypeId}{w:World}{K:Value→World→Prop}{r:Nat}(hk:KeyT P t enc d)(hm:P.underlying m=some (.map t e)){l:List κ}(hr:w.heap[r]?=some (mapO enc l))(a:κ)(ha:a ∉ l)
  (hK:K undef (w.putObj r (mapO enc (l++[a])))):muW P m (.map (some r)) (enc a) (.bool true) w K:=by
 refine ⟨_,?_,hK⟩
 unfold Instr.mapUpdate
 have hg:(getObj r).run P w=.ok (.map (entL enc 0 l).toArray l.length) w:=run_getObj_map w r _ _ hr
 simp only [Sem.run_bind,run_underlying hm,Result.andThen_ok,hg,Sem.run_pure,hk.chk,findKey_ent hk,List.toList_toArray,whereK_not ha]
 have e:(entL enc 0 l).toArray.push { key:=enc a,val:=Value.bool true,born:=l.length }=(entL enc 0 (l++[a])).toArray:=by
  rw [entL_append,Nat.zero_add]; simp [entL]
 rw [e]
 have hs:∀ o,(setObj r o).run P w=.ok () (w.putObj r o):=fun o=>by simp [setObj,Sem.run,hr,mapO,World.putObj]
 rw [hs]
 show _=Result.ok () (w.putObj r (.map _ (l++[a]).length))
 rw [List.length_append]; rfl
end
section
variable {P:Program} {t:TypeId}
end
end Go.Ann

end
