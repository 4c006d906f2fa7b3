/- An engine for walks. Part 6: what is to be shown of operations and commands. -/
import Derived.Test.YtkofhjopeppnoaaAnn5
namespace Go.Ann
set_option linter.unusedVariables false
set_option linter.unusedSimpArgs false
open Go

/-- A call that returns, with what holds then. -/
def Ret (P : Program) (f : FuncId) (args : List Value) (w : World) (K : Value → World → Prop) : Prop :=
  Calls P f args.toArray w fun e w' => ∃ v, e = .returned v ∧ K v w'

theorem Ret.mono {P : Program} {f : FuncId} {args : List Value} {w : World} {K K' : Value → World → Prop} (h : Ret P f args w K) (hk : ∀ v w', K v w' → K' v w') : Ret P f args w K' :=
  Calls.mono h fun _ _ ⟨v, he, hv⟩ => ⟨v, he, hk _ _ hv⟩

/-- A function of the program with a body. -/
def goFunc (P : Program) (f : FuncId) : Bool :=
  match P.funcs[f]? with
  | some fn => !(fn.name == "runtime.NumGoroutine") && fn.body.isSome
  | none => false

def callW (P : Program) (f : Value) (args : List Value) (w : World) (K : Value → World → Prop) : Prop :=
  match f with
  | .func (.func f) first cap => goFunc P f = true ∧ Ret P f (first.toList ++ args ++ cap.toList) w K
  | .func (.yield l) first cap => first = #[] ∧ cap = #[] ∧ YieldAt Fence.wide 0 P l args.toArray w fun e w' => ∃ v, e = .returned v ∧ K v w'
  | _ => False
/-- No round of a range over a function. -/
def noYV : Option Value → Prop
  | some (.func (.yield _) _ _) => False
  | _ => True
def noY (ρ : Env) : Op → Prop
  | .call ⟨.value f, _, _⟩ => noYV (ev ρ f)
  | _ => True

def rawOp (op : Op) (ty : TypeId) : Oper := ⟨none, op, ty, "", #[], none⟩

/-- An operation as the model carries it out. -/
def rawW (P : Program) (op : Op) (ty : TypeId) (ρ : Env) (w : World) (K : Value → World → Prop) : Prop :=
  ∀ a : Operand → Value, (∀ x v, ev ρ x = some v → a x = v) → ∃ v w', (execOp a (rawOp op ty)).run P w = .ok (.value v) w' ∧ K v w'

def cellsAt (w : World) (p : Addr) (cs : List Value) : Prop := ∀ i v, cs[i]? = some v → w.cell? (p.add i) = some v

def sizeT (P : Program) (t : TypeId) : Option Nat := match P.info? t with | some i => some i.size | none => none
def zeroT (P : Program) (t : TypeId) : Option Value := match P.info? t with | some i => i.zero | none => none

def isU8 (P : Program) (t : TypeId) : Bool := isTy P t fun | .int .u8 => true | _ => false

/-- What is known of a type. -/
inductive TyK where
  | int (k : IntKind) | bool | str | slice (u8 : Bool) (e : TypeId) | ptr | map | agg (n : Nat) | other | none
def tyK (P : Program) (t : TypeId) : TyK :=
  match P.underlying t with
  | some (.int k) => .int k
  | some .bool => .bool
  | some .string => .str
  | some (.slice e) => .slice (isU8 P e) e
  | some (.pointer _) => .ptr
  | some (.map _ _) => .map
  | some (.struct _) => match sizeT P t with | some n => .agg n | Option.none => .none
  | some (.array _ _) => match sizeT P t with | some n => .agg n | Option.none => .none
  | some _ => .other
  | Option.none => .none
def loadK (k : TyK) (p : Addr) (w : World) (K : Value → World → Prop) : Prop :=
  match k with
  | .int k => ∃ n, w.cell? p = some (.int k n) ∧ K (.int k n) w
  | .bool => ∃ b, w.cell? p = some (.bool b) ∧ K (.bool b) w
  | .str => ∃ l, w.cell? p = some (.string (ofL l)) ∧ K (.string (ofL l)) w
  | .slice _ _ => ∃ a n c, w.cell? p = some (.slice a n c) ∧ K (.slice a n c) w
  | .ptr => ∃ q, w.cell? p = some (.pointer q) ∧ K (.pointer q) w
  | .map => ∃ r, w.cell? p = some (.map r) ∧ K (.map r) w
  | .agg n => ∃ cs, cellsAt w p cs ∧ cs.length = n ∧ K (.agg cs.toArray) w
  | .other => ∃ v, w.cell? p = some v ∧ K v w
  | .none => False
def loadW (P : Program) (t : TypeId) (p : Addr) (w : World) (K : Value → World → Prop) : Prop := loadK (tyK P t) p w K

def setCellsW (w : World) (p : Addr) : Nat → List Value → World
  | _, [] => w
  | i, v :: r => setCellsW (w.setCell (p.add i) v) p (i + 1) r

def storeW (P : Program) (t : TypeId) (p : Addr) (v : Value) (w : World) (K : Value → World → Prop) : Prop :=
  sizeT P t = some v.cells.size ∧ (∀ u ∈ v.cells.toList, u.oneCell' = true) ∧
    (∀ i, i < v.cells.size → (∃ old, w.cell? (p.add i) = some old) ∧ w.frozen? (p.add i) = false) ∧ K undef (setCellsW w p 0 v.cells.toList)

/-- A text as bytes, with spare room. -/
def byteRow (l : List UInt8) (c : Nat) : Array Value := (l.map fun b => Value.int .u8 b.toNat).toArray ++ Array.replicate (c - l.length) (.int .u8 0)
def bytesW (w : World) (l : List UInt8) (c : Nat) (e : TypeId) : World := (w.alloc (.cells (byteRow l c) e (c, c + 1))).drew
def bytesAt (w : World) (a : Option Addr) (l : List UInt8) : Prop :=
  match a with
  | none => l = []
  | some a => ∀ i b, l[i]? = some b → w.cell? (a.add i) = some (.int .u8 b.toNat)
def convK (s d : TyK) (x : Value) (w : World) (K : Value → World → Prop) : Prop :=
  match s, d, x with
  | .int _, .int .i64, .int _ n => I64 n ∧ K (.int .i64 n) w
  | .int _, .int k, .int _ n => K (.int k (k.wrap n)) w
  | .str, .str, .string b => K (.string b) w
  | .str, .slice true e, .string b => ∀ c, (toL b).length ≤ c → K (.slice (some ⟨w.heap.size, 0, none⟩) (toL b).length c) (bytesW w (toL b) c e)
  | .slice true _, .str, .slice a n _ => ∃ l, l.length = n ∧ bytesAt w a l ∧ K (.string (ofL l)) w
  | _, _, _ => False
def convW (P : Program) (s d : TypeId) (x : Value) (w : World) (K : Value → World → Prop) : Prop := convK (tyK P s) (tyK P d) x w K

def lsPV (f : List Value → PV) : Option (List Value) → PV
  | some xs => f xs
  | none => none

/-- What the model's own reckoning gives. -/
def runW (P : Program) (s : Sem Value) (w : World) (K : Value → World → Prop) : Prop := ∃ v w', s.run P w = .ok v w' ∧ K v w'
def runU (P : Program) (s : Sem Unit) (w : World) (K : Value → World → Prop) : Prop := ∃ w', s.run P w = .ok () w' ∧ K undef w'
def rawB (P : Program) (b : Builtin) (ats : Array TypeId) (ty : TypeId) (cs : Array Bool) (xs : List Value) (w : World) (K : Value → World → Prop) : Prop :=
  ∃ v w', (builtin b ats ty cs xs.toArray).run P w = .ok (.value v) w' ∧ K v w'
def isConstO : Operand → Bool
  | .const _ => true
  | _ => false

def biW (P : Program) (b : Builtin) (ats : Array TypeId) (ty : TypeId) (cs : Array Bool) (xs : List Value) (w : World) (K : Value → World → Prop) : Prop :=
  match b, xs with
  | .len, [.map (some r)] => rawB P .len ats ty cs [.map (some r)] w K
  | .len, xs => pvW (biV P .len ats.toList xs) w K
  | .min, xs => pvW (biV P .min ats.toList xs) w K
  | .max, xs => pvW (biV P .max ats.toList xs) w K
  | b, xs => rawB P b ats ty cs xs w K

def zipP : List Nat → List Value → List (Nat × Value)
  | i :: r, v :: vs => (i, v) :: zipP r vs
  | _, _ => []

def un1W (f : Value → Prop) : Option Value → Prop
  | some v => f v
  | none => False
def ls1W (f : List Value → Prop) : Option (List Value) → Prop
  | some v => f v
  | none => False
def ptrW (f : Addr → Prop) : Option Value → Prop
  | some (.pointer (some p)) => f p
  | _ => False

def opW (P : Program) (op : Op) (ty : TypeId) (ρ : Env) (w : World) (K : Value → World → Prop) : Prop :=
  match op with
  | .move x => mvW (ev ρ x) w K
  | .assign x => mvW (ev ρ x) w K
  | .pick c a b => mvW (pickV (ev ρ c) (ev ρ a) (ev ρ b)) w K
  | .binOp op t x y _ => pvW (bin2 (binV P op t) (ev ρ x) (ev ρ y)) w K
  | .unOp op _ x => pvW (un1 (unV op) (ev ρ x)) w K
  | .index t x i => pvW (bin2 (indexV P t) (ev ρ x) (ev ρ i)) w K
  | .slice t x lo hi none => pvW (sliceV P t (ev ρ x) (evo ρ lo) (evo ρ hi)) w K
  | .field t x f => pvW (un1 (fieldV P t f) (ev ρ x)) w K
  | .fieldAddr t x f => pvW (un1 (fieldAddrV P t f) (ev ρ x)) w K
  | .indexAddr t x i => pvW (bin2 (indexAddrV P t) (ev ρ x) (ev ρ i)) w K
  | .extract x k => pvW (un1 (extractV k) (ev ρ x)) w K
  | .makeInterface t x => pvW (un1 (ifaceV P t) (ev ρ x)) w K
  | .nilCheck x => pvW (un1 nilCheckV (ev ρ x)) w K
  | .makeFunc fn first cap => ls1W (fun f => ls1W (fun c => K (.func fn f.toArray c.toArray) w) (evs ρ cap.toList)) (evs ρ first.toList)
  | .load t a => ptrW (fun p => loadW P t p w K) (ev ρ a)
  | .store t a v => ptrW (fun p => un1W (fun v => storeW P t p v w K) (ev ρ v)) (ev ρ a)
  | .alloc t => un1W (fun z => K (.pointer (some ⟨w.heap.size, 0, none⟩)) (w.alloc (.cells z.cells t))) (zeroT P t)
  | .box t v => un1W (fun z => K (.pointer (some ⟨w.heap.size, 0, none⟩)) (w.alloc (.cells z.cells t))) (ev ρ v)
  | .convert s d x => un1W (fun x => convW P s d x w K) (ev ρ x)
  | .build t parts => ls1W (fun vs => runW P (Instr.build t (zipP (parts.toList.map (·.1)) vs).toArray) w K) (evs ρ (parts.toList.map (·.2)))
  | .buildSlice t n parts => ls1W (fun vs => runW P (Instr.buildSlice t n (zipP (parts.toList.map (·.1)) vs).toArray) w K) (evs ρ (parts.toList.map (·.2)))
  | .makeSlice t l c => un1W (fun l => un1W (fun c => runW P (Instr.makeSlice t l c) w K) (ev ρ c)) (ev ρ l)
  | .makeMap t none => runW P (Instr.makeMap t none) w K
  | .lookup t m k ok => un1W (fun m => un1W (fun k => runW P (Instr.lookup t m k ok) w K) (ev ρ k)) (ev ρ m)
  | .mapUpdate t m k v => un1W (fun m => un1W (fun k => un1W (fun v => runU P (Instr.mapUpdate t m k v) w K) (ev ρ v)) (ev ρ k)) (ev ρ m)
  | .insert t m k v => un1W (fun m => un1W (fun k => un1W (fun v => runU P (Instr.mapUpdate t m k v) w K) (ev ρ v)) (ev ρ k)) (ev ρ m)
  | .range t x => un1W (fun x => runW P (Instr.range t x) w K) (ev ρ x)
  | .next it isS => un1W (fun it => runW P (Instr.next it isS ty) w K) (ev ρ it)
  | .entry it => un1W (fun it => runW P (Instr.entry it) w K) (ev ρ it)
  | .typeAssert x xt at' ok => un1W (fun x => runW P (Instr.typeAssert x xt at' ok) w K) (ev ρ x)
  | .call ⟨.builtin b, args, ats⟩ => ls1W (fun xs => biW P b ats ty (args.map isConstO) xs w K) (evs ρ args.toList)
  | .call ⟨.value f, args, _⟩ => un1W (fun f => ls1W (fun xs => callW P f xs w K) (evs ρ args.toList)) (ev ρ f)
  | .defer _ => False
  | op => rawW P op ty ρ w K

abbrev Post := Exit → Env → World → Prop

def WL (P : Program) : List Ins → List Nat → Env → World → Post → Prop
  | [], L, ρ, w, Q => Q .normal (restr L ρ) w
  | ⟨d, op, ty, none⟩ :: r, L, ρ, w, Q => opW P op ty ρ w (fun v w' => WL P r L (put ρ d v) w' Q)
  | ⟨d, op, ty, some (s, b)⟩ :: r, L, ρ, w, Q => match lk ρ s with
    | some (.bool c) => (c = b → opW P op ty ((s, .bool b) :: ρ) w (fun v w' => WL P r L (put ((s, .bool b) :: ρ) d v) w' Q)) ∧
        (c = !b → WL P r L (put ((s, .bool !b) :: ρ) d undef) w Q)
    | some (.tuple _) => WL P r L (put ρ d undef) w Q
    | _ => False

/-- The frame holds what is known. -/
def marksD : Env → List Nat
  | [] => []
  | (m, _) :: ρ => if m < 1000000 then marksD ρ else (m - 1000000) :: marksD ρ
def markDefs (l : List Nat) : List Deferred := l.map fun D => { target := .collected D, args := #[] }
structure Sim (N : Nat) (a : Act) (ρ : Env) : Prop where
  size : a.tmps.size = N
  small : N ≤ 1000000
  defers : a.defers = markDefs (marksD ρ)
  slot : ∀ n v, lk ρ n = some v → a.tmps.getD n undef = v

/-- A statement that leaves its order open. -/
def drawW (P : Program) (l : List Oper) (L : List Nat) (ρ : Env) (w : World) (Q : Post) : Prop :=
  ∀ N a, l.all (fun o => okDst N o.dst) = true → Sim N a ρ → ∀ t, wpOps P l.toArray (fun e a' w' => ∃ ρ', Sim N a' ρ' ∧ e = .normal ∧ Q .normal (restr L ρ') w') (Region.schedule (P.follows .mixedOrders) l.toArray t) a w.drew

/-- What a region's end is to be, of a frame. -/
def liftQ (N : Nat) (Q : Post) : Exit → Act → World → Prop := fun e a w => ∃ ρ, Sim N a ρ ∧ Q e ρ w
/-- A range over a function. -/
def RangeW (P : Program) (g : Operand) (ps : List Nat) (A B : Cmd) (ρ : Env) (w : World) (Q : Post) : Prop :=
  ∀ N a ca cb, toCmd N ca = some A.erase → toCmd N cb = some B.erase → roundOk ca = true → roundOk cb = true → (∀ p ∈ ps, p < N) → Sim N a ρ → (Code.rangeFunc g ps.toArray ca cb).wpIn Fence.wide 9 P (liftQ N Q) a w
def keepQ (L : List Nat) (Q : Post) : Post := fun e ρ w => match e with
  | .normal => Q .normal (restr L ρ) w
  | e => Q e ρ w

def LoopW (body : Env → World → Post → Prop) (ρ : Env) (w : World) (Q : Post) : Prop :=
  ∃ I : Nat → Env → World → Prop, (∃ n, I n ρ w) ∧ ∀ n ρ' w', I n ρ' w' → body ρ' w' (fun e ρ'' w'' => match e with
    | .normal => ∃ m, m < n ∧ I m ρ'' w''
    | e => Q e ρ'' w'')

def condW (o : Option Value) (A B : Prop) : Prop :=
  match o with
  | some (.bool c) => (c = true → A) ∧ (c = false → B)
  | _ => False

def blockQ (id : Nat) (Q : Post) : Post := fun e ρ w =>
  match e with
  | .exit j => if j = id then Q .normal ρ w else Q (.exit j) ρ w
  | e => Q e ρ w
def scopeQ (Q : Post) : Post := fun e ρ w =>
  match e with
  | .goto _ => False
  | e => Q e ρ w

def W (P : Program) : Cmd → Env → World → Post → Prop
  | .skip L, ρ, w, Q => Q .normal (restr L ρ) w
  | .ops l L, ρ, w, Q => WL P l L ρ w Q
  | .draw l L, ρ, w, Q => drawW P l L ρ w Q
  | .seq a b, ρ, w, Q => W P a ρ w (fun e ρ' w' => match e with
    | .normal => W P b ρ' w' Q
    | e => Q e ρ' w')
  | .cond x a b, ρ, w, Q => condW (ev ρ x) (W P a ρ w Q) (W P b ρ w Q)
  | .block id a, ρ, w, Q => W P a ρ w (blockQ id Q)
  | .loop a, ρ, w, Q => LoopW (W P a) ρ w Q
  | .exit id L, ρ, w, Q => Q (.exit id) (restr L ρ) w
  | .scope a, ρ, w, Q => W P a ρ w (scopeQ Q)
  | .rangeF g ps a b L, ρ, w, Q => RangeW P g ps a b ρ w (keepQ L Q)
  | .ret, ρ, w, Q => Q .ret ρ w

def resW (P : Program) : List ResultVar → Env → World → List Value → (List Value → Prop) → Prop
  | [], _, _, acc, K => K acc.reverse
  | .tmp t :: r, ρ, w, acc, K => un1W (fun v => resW P r ρ w (v :: acc) K) (lk ρ t)
  | .cell a t :: r, ρ, w, acc, K => ptrW (fun p => loadW P t p w (fun v _ => resW P r ρ w (v :: acc) K)) (lk ρ a)

def tupV : List Value → Value
  | [v] => v
  | vs => .tuple vs.toArray

/-- The marks are taken off. -/
def shutW : List Nat → World → (World → Prop) → Prop
  | [], w, k => k w
  | D :: r, w, k => w.heap[D]? = some (.deferred (some [])) ∧ shutW r (w.putObj D (.deferred none)) k
def finQ (P : Program) (rs : List ResultVar) (K : Value → World → Prop) : Post := fun e ρ w =>
  match e with
  | .normal => shutW (marksD ρ) w fun w => resW P rs ρ w [] (fun vs => K (tupV vs) w)
  | .ret => shutW (marksD ρ) w fun w => resW P rs ρ w [] (fun vs => K (tupV vs) w)
  | _ => False
end Go.Ann
