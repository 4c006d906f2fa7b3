/- An engine for walks. Part 11: the equations by which what is to be shown is reckoned. -/
import Derived.Test.YtkofhjopeppnoaaAnn10
namespace Go.Ann
set_option linter.unusedVariables false
set_option linter.unusedSimpArgs false
open Go
section
variable {P : Program} {w : World} {K : Value → World → Prop} {ρ : Env} {Q : Post} {r : List Ins} {L : List Nat} {d : Option Nat} {ty : TypeId}

def Kn (P : Program) (r : List Ins) (L : List Nat) (ρ : Env) (d : Option Nat) (Q : Post) : Value → World → Prop := fun v w => WL P r L (put ρ d v) w Q
def thenQ (P : Program) (b : Cmd) (Q : Post) : Post := fun e ρ w =>
  match e with
  | .normal => W P b ρ w Q
  | e => Q e ρ w
/-- A guarded operation, by what its guard's slot holds. -/
def gD (P : Program) (o : Option Value) (s : Nat) (b : Bool) (d : Option Nat) (op : Op) (ty : TypeId) (r : List Ins) (L : List Nat) (ρ : Env) (w : World) (Q : Post) : Prop :=
  match o with
  | some (.bool c) => (c = b → opW P op ty ((s, .bool b) :: ρ) w (Kn P r L ((s, .bool b) :: ρ) d Q)) ∧ (c = !b → WL P r L (put ((s, .bool !b) :: ρ) d undef) w Q)
  | some (.tuple _) => WL P r L (put ρ d undef) w Q
  | _ => False
def condD (P : Program) (o : Option Value) (a b : Cmd) (ρ : Env) (w : World) (Q : Post) : Prop :=
  match o with
  | some (.bool c) => (c = true → W P a ρ w Q) ∧ (c = false → W P b ρ w Q)
  | _ => False
def cvD (P : Program) (s t : TypeId) (o : Option Value) (w : World) (K : Value → World → Prop) : Prop := un1W (fun x => convW P s t x w K) o
def ldD (P : Program) (t : TypeId) (o : Option Value) (w : World) (K : Value → World → Prop) : Prop := ptrW (fun p => loadW P t p w K) o
def stD (P : Program) (t : TypeId) (o o' : Option Value) (w : World) (K : Value → World → Prop) : Prop := ptrW (fun p => un1W (fun v => storeW P t p v w K) o') o
def clD (P : Program) (o : Option Value) (os : Option (List Value)) (w : World) (K : Value → World → Prop) : Prop := un1W (fun f => ls1W (fun xs => callW P f xs w K) os) o
def biD (P : Program) (b : Builtin) (ats : Array TypeId) (ty : TypeId) (cs : Array Bool) (os : Option (List Value)) (w : World) (K : Value → World → Prop) : Prop := ls1W (fun xs => biW P b ats ty cs xs w K) os
def bxD (t : TypeId) (o : Option Value) (w : World) (K : Value → World → Prop) : Prop := un1W (fun z => K (.pointer (some ⟨w.heap.size, 0, none⟩)) (w.alloc (.cells z.cells t))) o
def mfD (fn : Fn) (o o' : Option (List Value)) (w : World) (K : Value → World → Prop) : Prop := ls1W (fun f => ls1W (fun c => K (.func fn f.toArray c.toArray) w) o') o
def bdW (P : Program) (t : TypeId) (is : List Nat) (vs : List Value) (w : World) (K : Value → World → Prop) : Prop := runW P (Instr.build t (zipP is vs).toArray) w K
def bsW (P : Program) (t : TypeId) (n : Nat) (is : List Nat) (vs : List Value) (w : World) (K : Value → World → Prop) : Prop := runW P (Instr.buildSlice t n (zipP is vs).toArray) w K
def msW (P : Program) (t : TypeId) (l c : Value) (w : World) (K : Value → World → Prop) : Prop := runW P (Instr.makeSlice t l c) w K
def mmW (P : Program) (t : TypeId) (w : World) (K : Value → World → Prop) : Prop := runW P (Instr.makeMap t none) w K
def luW (P : Program) (t : TypeId) (m k : Value) (ok : Bool) (w : World) (K : Value → World → Prop) : Prop := runW P (Instr.lookup t m k ok) w K
def muW (P : Program) (t : TypeId) (m k v : Value) (w : World) (K : Value → World → Prop) : Prop := runU P (Instr.mapUpdate t m k v) w K
def rgW (P : Program) (t : TypeId) (x : Value) (w : World) (K : Value → World → Prop) : Prop := runW P (Instr.range t x) w K
def nxW (P : Program) (x : Value) (b : Bool) (ty : TypeId) (w : World) (K : Value → World → Prop) : Prop := runW P (Instr.next x b ty) w K
def enW (P : Program) (x : Value) (w : World) (K : Value → World → Prop) : Prop := runW P (Instr.entry x) w K
def taW (P : Program) (x : Value) (xt t : TypeId) (ok : Bool) (w : World) (K : Value → World → Prop) : Prop := runW P (Instr.typeAssert x xt t ok) w K
/-- One, two, three values that are known. -/
def k1 (f : Value → World → (Value → World → Prop) → Prop) (o : Option Value) (w : World) (K : Value → World → Prop) : Prop := un1W (fun x => f x w K) o
def k2 (f : Value → Value → World → (Value → World → Prop) → Prop) (o o' : Option Value) (w : World) (K : Value → World → Prop) : Prop := un1W (fun x => un1W (fun y => f x y w K) o') o
def k3 (f : Value → Value → Value → World → (Value → World → Prop) → Prop) (o o' o'' : Option Value) (w : World) (K : Value → World → Prop) : Prop := un1W (fun x => un1W (fun y => un1W (fun z => f x y z w K) o'') o') o
def kl (f : List Value → World → (Value → World → Prop) → Prop) (o : Option (List Value)) (w : World) (K : Value → World → Prop) : Prop := ls1W (fun x => f x w K) o
def rtD (P : Program) (o : Option Value) (rs : List ResultVar) (ρ : Env) (w : World) (acc : List Value) (F : List Value → Prop) : Prop := un1W (fun v => resW P rs ρ w (v :: acc) F) o
def rcD (P : Program) (t : TypeId) (o : Option Value) (rs : List ResultVar) (ρ : Env) (w : World) (acc : List Value) (F : List Value → Prop) : Prop := ptrW (fun p => loadW P t p w (fun v _ => resW P rs ρ w (v :: acc) F)) o

theorem WL_nil : WL P [] L ρ w Q = Q .normal (restr L ρ) w := (rfl)
theorem WL_cons {op : Op} : WL P (⟨d, op, ty, none⟩ :: r) L ρ w Q = opW P op ty ρ w (Kn P r L ρ d Q) := (rfl)
theorem WL_guard {op : Op} {s : Nat} {b : Bool} : WL P (⟨d, op, ty, some (s, b)⟩ :: r) L ρ w Q = gD P (lk ρ s) s b d op ty r L ρ w Q := by
  simp only [WL, gD]; rfl
theorem Kn_app {v : Value} : Kn P r L ρ d Q v w = WL P r L (put ρ d v) w Q := (rfl)
section
variable {op : Op} {s : Nat} {b c : Bool}
theorem gD_t : gD P (some (.bool true)) s true d op ty r L ρ w Q = opW P op ty ((s, .bool true) :: ρ) w (Kn P r L ((s, .bool true) :: ρ) d Q) := by simp [gD]
theorem gD_f : gD P (some (.bool false)) s false d op ty r L ρ w Q = opW P op ty ((s, .bool false) :: ρ) w (Kn P r L ((s, .bool false) :: ρ) d Q) := by simp [gD]
theorem gD_tf : gD P (some (.bool true)) s false d op ty r L ρ w Q = WL P r L (put ((s, .bool true) :: ρ) d undef) w Q := by simp [gD]
theorem gD_ft : gD P (some (.bool false)) s true d op ty r L ρ w Q = WL P r L (put ((s, .bool false) :: ρ) d undef) w Q := by simp [gD]
theorem gD_gen : gD P (some (.bool c)) s b d op ty r L ρ w Q = ((c = b → opW P op ty ((s, .bool b) :: ρ) w (Kn P r L ((s, .bool b) :: ρ) d Q)) ∧ (c = !b → WL P r L (put ((s, .bool !b) :: ρ) d undef) w Q)) := (rfl)
theorem gD_undef : gD P (some undef) s b d op ty r L ρ w Q = WL P r L (put ρ d undef) w Q := (rfl)
end

/-- A part of the text, by its name: it is looked into when it is come to. -/
def sg (f : Unit → Cmd) : Cmd := f ()
theorem W_sg {f : Unit → Cmd} : W P (sg f) ρ w Q = W P (f ()) ρ w Q := (rfl)
theorem W_skip : W P (.skip L) ρ w Q = Q .normal (restr L ρ) w := (rfl)
theorem W_ops {l : List Ins} : W P (.ops l L) ρ w Q = WL P l L ρ w Q := (rfl)
theorem W_draw {l : List Oper} : W P (.draw l L) ρ w Q = drawW P l L ρ w Q := (rfl)
theorem W_seq {a b : Cmd} : W P (.seq a b) ρ w Q = W P a ρ w (thenQ P b Q) := (rfl)
theorem W_cond {x : Operand} {a b : Cmd} : W P (.cond x a b) ρ w Q = condD P (ev ρ x) a b ρ w Q := by
  simp only [W, condD, condW]; rfl
theorem W_block {id : Nat} {a : Cmd} : W P (.block id a) ρ w Q = W P a ρ w (blockQ id Q) := (rfl)
theorem W_exit {id : Nat} : W P (.exit id L) ρ w Q = Q (.exit id) (restr L ρ) w := (rfl)
theorem W_scope {a : Cmd} : W P (.scope a) ρ w Q = W P a ρ w (scopeQ Q) := (rfl)
theorem W_ret : W P .ret ρ w Q = Q .ret ρ w := (rfl)
theorem thenQ_normal {b : Cmd} : thenQ P b Q .normal ρ w = W P b ρ w Q := (rfl)
theorem thenQ_exit {b : Cmd} {i : Nat} : thenQ P b Q (.exit i) ρ w = Q (.exit i) ρ w := (rfl)
theorem thenQ_ret {b : Cmd} : thenQ P b Q .ret ρ w = Q .ret ρ w := (rfl)
theorem blockQ_normal {id : Nat} : blockQ id Q .normal ρ w = Q .normal ρ w := (rfl)
theorem blockQ_ret {id : Nat} : blockQ id Q .ret ρ w = Q .ret ρ w := (rfl)
theorem blockQ_exit {id j : Nat} : blockQ id Q (.exit j) ρ w = if j = id then Q .normal ρ w else Q (.exit j) ρ w := (rfl)
theorem scopeQ_normal : scopeQ Q .normal ρ w = Q .normal ρ w := (rfl)
theorem scopeQ_ret : scopeQ Q .ret ρ w = Q .ret ρ w := (rfl)
theorem scopeQ_exit {j : Nat} : scopeQ Q (.exit j) ρ w = Q (.exit j) ρ w := (rfl)
theorem condD_t {a b : Cmd} : condD P (some (.bool true)) a b ρ w Q = W P a ρ w Q := by simp [condD]
theorem condD_f {a b : Cmd} : condD P (some (.bool false)) a b ρ w Q = W P b ρ w Q := by simp [condD]
theorem condD_gen {a b : Cmd} {c : Bool} : condD P (some (.bool c)) a b ρ w Q = ((c = true → W P a ρ w Q) ∧ (c = false → W P b ρ w Q)) := (rfl)
theorem cvD_some {s t : TypeId} {v : Value} : cvD P s t (some v) w K = convW P s t v w K := (rfl)
theorem ldD_some {t : TypeId} {p : Addr} : ldD P t (some (.pointer (some p))) w K = loadW P t p w K := (rfl)
theorem stD_some {t : TypeId} {p : Addr} {v : Value} : stD P t (some (.pointer (some p))) (some v) w K = storeW P t p v w K := (rfl)
theorem clD_some {v : Value} {vs : List Value} : clD P (some v) (some vs) w K = callW P v vs w K := (rfl)
theorem biD_some {b : Builtin} {ats : Array TypeId} {cs : Array Bool} {vs : List Value} : biD P b ats ty cs (some vs) w K = biW P b ats ty cs vs w K := (rfl)
theorem bxD_some {t : TypeId} {v : Value} : bxD t (some v) w K = K (.pointer (some ⟨w.heap.size, 0, none⟩)) (w.alloc (.cells v.cells t)) := (rfl)
theorem mfD_some {fn : Fn} {vs us : List Value} : mfD fn (some vs) (some us) w K = K (.func fn vs.toArray us.toArray) w := (rfl)
theorem rtD_some {v : Value} {rs : List ResultVar} {acc : List Value} {F : List Value → Prop} : rtD P (some v) rs ρ w acc F = resW P rs ρ w (v :: acc) F := (rfl)
theorem rcD_some {t : TypeId} {p : Addr} {rs : List ResultVar} {acc : List Value} {F : List Value → Prop} : rcD P t (some (.pointer (some p))) rs ρ w acc F = loadW P t p w (fun v _ => resW P rs ρ w (v :: acc) F) := (rfl)
theorem finQ_normal {rs : List ResultVar} : finQ P rs K .normal ρ w = shutW (marksD ρ) w fun w => resW P rs ρ w [] (fun vs => K (tupV vs) w) := (rfl)
theorem finQ_ret {rs : List ResultVar} : finQ P rs K .ret ρ w = shutW (marksD ρ) w fun w => resW P rs ρ w [] (fun vs => K (tupV vs) w) := (rfl)
theorem shutW_nil {k : World → Prop} : shutW [] w k = k w := (rfl)
theorem shutW_cons {D : Nat} {l : List Nat} {k : World → Prop} : shutW (D :: l) w k = (w.heap[D]? = some (.deferred (some [])) ∧ shutW l (w.putObj D (.deferred none)) k) := (rfl)
theorem marksD_nil : marksD [] = [] := rfl
theorem marksD_cons {m : Nat} {v : Value} : marksD ((m, v) :: ρ) = if m < 1000000 then marksD ρ else (m - 1000000) :: marksD ρ := rfl
theorem mkE_nil : mkE [] = [] := rfl
theorem mkE_cons {m : Nat} {v : Value} : mkE ((m, v) :: ρ) = if m < 1000000 then mkE ρ else (m, v) :: mkE ρ := rfl
theorem mark_nlt {D : Nat} : (D + 1000000 < 1000000) = False := by simp
theorem resW_nil {acc : List Value} {F : List Value → Prop} : resW P [] ρ w acc F = F acc.reverse := (rfl)
theorem resW_tmp {t : Nat} {rs : List ResultVar} {acc : List Value} {F : List Value → Prop} : resW P (.tmp t :: rs) ρ w acc F = rtD P (lk ρ t) rs ρ w acc F := (rfl)
theorem resW_cell {a t : Nat} {rs : List ResultVar} {acc : List Value} {F : List Value → Prop} : resW P (.cell a t :: rs) ρ w acc F = rcD P t (lk ρ a) rs ρ w acc F := (rfl)
theorem tupV_one {v : Value} : tupV [v] = v := (rfl)
theorem tupV_two {v u : Value} : tupV [v, u] = .tuple #[v, u] := (rfl)
theorem tupV_three {v u x : Value} : tupV [v, u, x] = .tuple #[v, u, x] := (rfl)
theorem tupV_four {v u x y : Value} : tupV [v, u, x, y] = .tuple #[v, u, x, y] := (rfl)
theorem tupV_nil : tupV [] = .tuple #[] := (rfl)

theorem un1W_some {f : Value → Prop} {v : Value} : un1W f (some v) = f v := (rfl)
theorem ls1W_some {f : List Value → Prop} {v : List Value} : ls1W f (some v) = f v := (rfl)
theorem ptrW_some {f : Addr → Prop} {p : Addr} : ptrW f (some (.pointer (some p))) = f p := (rfl)

theorem opW_move {x : Operand} : opW P (.move x) ty ρ w K = mvW (ev ρ x) w K := (rfl)
theorem opW_assign {x : Operand} : opW P (.assign x) ty ρ w K = mvW (ev ρ x) w K := (rfl)
theorem opW_pick {c a b : Operand} : opW P (.pick c a b) ty ρ w K = mvW (pickV (ev ρ c) (ev ρ a) (ev ρ b)) w K := (rfl)
theorem opW_bin {op : BinOp} {t t' : TypeId} {x y : Operand} : opW P (.binOp op t x y t') ty ρ w K = pvW (bin2 (binV P op t) (ev ρ x) (ev ρ y)) w K := (rfl)
theorem opW_un {op : UnOp} {t : TypeId} {x : Operand} : opW P (.unOp op t x) ty ρ w K = pvW (un1 (unV op) (ev ρ x)) w K := (rfl)
theorem opW_index {t : TypeId} {x i : Operand} : opW P (.index t x i) ty ρ w K = pvW (bin2 (indexV P t) (ev ρ x) (ev ρ i)) w K := (rfl)
theorem opW_slice {t : TypeId} {x : Operand} {lo hi : Option Operand} : opW P (.slice t x lo hi none) ty ρ w K = pvW (sliceV P t (ev ρ x) (evo ρ lo) (evo ρ hi)) w K := (rfl)
theorem opW_field {t : TypeId} {x : Operand} {f : Nat} : opW P (.field t x f) ty ρ w K = pvW (un1 (fieldV P t f) (ev ρ x)) w K := (rfl)
theorem opW_fieldAddr {t : TypeId} {x : Operand} {f : Nat} : opW P (.fieldAddr t x f) ty ρ w K = pvW (un1 (fieldAddrV P t f) (ev ρ x)) w K := (rfl)
theorem opW_indexAddr {t : TypeId} {x i : Operand} : opW P (.indexAddr t x i) ty ρ w K = pvW (bin2 (indexAddrV P t) (ev ρ x) (ev ρ i)) w K := (rfl)
theorem opW_extract {x : Operand} {k : Nat} : opW P (.extract x k) ty ρ w K = pvW (un1 (extractV k) (ev ρ x)) w K := (rfl)
theorem opW_iface {t : TypeId} {x : Operand} : opW P (.makeInterface t x) ty ρ w K = pvW (un1 (ifaceV P t) (ev ρ x)) w K := (rfl)
theorem opW_nilCheck {x : Operand} : opW P (.nilCheck x) ty ρ w K = pvW (un1 nilCheckV (ev ρ x)) w K := (rfl)
theorem opW_makeFunc {fn : Fn} {first cap : Array Operand} : opW P (.makeFunc fn first cap) ty ρ w K = mfD fn (evs ρ first.toList) (evs ρ cap.toList) w K := (rfl)
theorem opW_load {t : TypeId} {a : Operand} : opW P (.load t a) ty ρ w K = ldD P t (ev ρ a) w K := (rfl)
theorem opW_store {t : TypeId} {a v : Operand} : opW P (.store t a v) ty ρ w K = stD P t (ev ρ a) (ev ρ v) w K := (rfl)
theorem opW_alloc {t : TypeId} : opW P (.alloc t) ty ρ w K = bxD t (zeroT P t) w K := (rfl)
theorem opW_box {t : TypeId} {v : Operand} : opW P (.box t v) ty ρ w K = bxD t (ev ρ v) w K := (rfl)
theorem opW_conv {s t : TypeId} {x : Operand} : opW P (.convert s t x) ty ρ w K = cvD P s t (ev ρ x) w K := (rfl)
theorem opW_build {t : TypeId} {parts : Array (Nat × Operand)} : opW P (.build t parts) ty ρ w K = kl (bdW P t (parts.toList.map (·.1))) (evs ρ (parts.toList.map (·.2))) w K := (rfl)
theorem opW_buildSlice {t : TypeId} {n : Nat} {parts : Array (Nat × Operand)} : opW P (.buildSlice t n parts) ty ρ w K = kl (bsW P t n (parts.toList.map (·.1))) (evs ρ (parts.toList.map (·.2))) w K := (rfl)
theorem opW_makeSlice {t : TypeId} {l c : Operand} : opW P (.makeSlice t l c) ty ρ w K = k2 (msW P t) (ev ρ l) (ev ρ c) w K := (rfl)
theorem opW_makeMap {t : TypeId} : opW P (.makeMap t none) ty ρ w K = mmW P t w K := (rfl)
theorem opW_lookup {t : TypeId} {m k : Operand} {ok : Bool} : opW P (.lookup t m k ok) ty ρ w K = k2 (fun m k => luW P t m k ok) (ev ρ m) (ev ρ k) w K := (rfl)
theorem opW_mapUpdate {t : TypeId} {m k v : Operand} : opW P (.mapUpdate t m k v) ty ρ w K = k3 (muW P t) (ev ρ m) (ev ρ k) (ev ρ v) w K := (rfl)
theorem opW_insert {t : TypeId} {m k v : Operand} : opW P (.insert t m k v) ty ρ w K = k3 (muW P t) (ev ρ m) (ev ρ k) (ev ρ v) w K := (rfl)
theorem opW_range {t : TypeId} {x : Operand} : opW P (.range t x) ty ρ w K = k1 (rgW P t) (ev ρ x) w K := (rfl)
theorem opW_next {x : Operand} {b : Bool} : opW P (.next x b) ty ρ w K = k1 (fun it => nxW P it b ty) (ev ρ x) w K := (rfl)
theorem opW_entry {x : Operand} : opW P (.entry x) ty ρ w K = k1 (enW P) (ev ρ x) w K := (rfl)
theorem opW_typeAssert {x : Operand} {xt t : TypeId} {ok : Bool} : opW P (.typeAssert x xt t ok) ty ρ w K = k1 (fun x => taW P x xt t ok) (ev ρ x) w K := (rfl)
theorem opW_bi {b : Builtin} {args : Array Operand} {ats : Array TypeId} : opW P (.call ⟨.builtin b, args, ats⟩) ty ρ w K = biD P b ats ty (args.map isConstO) (evs ρ args.toList) w K := (rfl)
theorem opW_call {f : Operand} {args : Array Operand} {ats : Array TypeId} : opW P (.call ⟨.value f, args, ats⟩) ty ρ w K = clD P (ev ρ f) (evs ρ args.toList) w K := (rfl)

theorem k1_some {f : Value → World → (Value → World → Prop) → Prop} {v : Value} : k1 f (some v) w K = f v w K := (rfl)
theorem k2_some {f : Value → Value → World → (Value → World → Prop) → Prop} {v u : Value} : k2 f (some v) (some u) w K = f v u w K := (rfl)
theorem k3_some {f : Value → Value → Value → World → (Value → World → Prop) → Prop} {v u x : Value} : k3 f (some v) (some u) (some x) w K = f v u x w K := (rfl)
theorem kl_some {f : List Value → World → (Value → World → Prop) → Prop} {v : List Value} : kl f (some v) w K = f v w K := (rfl)
theorem mvW_some {v : Value} : mvW (some v) w K = K v w := (rfl)
theorem pvW_some {ob : Prop} {v : Value} : pvW (some (ob, v)) w K = (ob ∧ K v w) := (rfl)
theorem un1_some {f : Value → PV} {x : Value} : un1 f (some x) = f x := rfl
theorem bin2_some {f : Value → Value → PV} {x y : Value} : bin2 f (some x) (some y) = f x y := rfl
theorem pickV_true {a b : Option Value} : pickV (some (.bool true)) a b = a := rfl
theorem pickV_false {a b : Option Value} : pickV (some (.bool false)) a b = b := rfl

def sel (b : Bool) (v : Value) (ρ : Env) (n : Nat) : Option Value := match b with
  | true => some v
  | false => lk ρ n
theorem sel_true {v : Value} {n : Nat} : sel true v ρ n = some v := rfl
theorem sel_false {v : Value} {n : Nat} : sel false v ρ n = lk ρ n := rfl
theorem lk_cons {m n : Nat} {v : Value} : lk ((m, v) :: ρ) n = sel (m == n) v ρ n := by
  simp only [lk]; cases m == n <;> rfl
theorem ev_tmp {n : Nat} : ev ρ (.tmp n) = lk ρ n := rfl
theorem ev_const {v : Value} : ev ρ (.const v) = some v := rfl
theorem ev_func {f : FuncId} : ev ρ (.func f) = some (.func (.func f) #[] #[]) := rfl
theorem ev_global {g : Nat} : ev ρ (.global g) = some (.pointer (some ⟨g, 0, none⟩)) := rfl
def consO : Option Value → Option (List Value) → Option (List Value)
  | some v, some vs => some (v :: vs)
  | _, _ => none
theorem evs_nil : evs ρ [] = some [] := rfl
theorem evs_cons {x : Operand} {xs : List Operand} : evs ρ (x :: xs) = consO (ev ρ x) (evs ρ xs) := by
  simp only [evs]; cases ev ρ x <;> cases evs ρ xs <;> rfl
theorem consO_some {v : Value} {vs : List Value} : consO (some v) (some vs) = some (v :: vs) := rfl
def someO : Option Value → Option (Option Value)
  | some v => some (some v)
  | none => none
theorem evo_none : evo ρ none = some none := rfl
theorem evo_some {x : Operand} : evo ρ (some x) = someO (ev ρ x) := by simp only [evo]; cases ev ρ x <;> rfl
theorem someO_some {v : Value} : someO (some v) = some (some v) := rfl
theorem put_some {n : Nat} {v : Value} : put ρ (some n) v = (n, v) :: ρ := rfl
theorem put_none {v : Value} : put ρ none v = ρ := rfl
theorem restr_nil : restr [] ρ = mkE ρ := rfl
theorem restr_cons {n : Nat} {l : List Nat} : restr (n :: l) ρ = if n < 1000000 then addK n (lk ρ n) (restr l ρ) else restr l ρ := rfl
theorem addK_some {n : Nat} {v : Value} {e : Env} : addK n (some v) e = (n, v) :: e := rfl
theorem addK_none {n : Nat} {e : Env} : addK n none e = e := rfl
theorem lk_nil {n : Nat} : lk [] n = none := rfl
theorem argEnv_nil {i : Nat} : argEnv i [] = [] := (rfl)
theorem argEnv_cons {i : Nat} {v : Value} {vs : List Value} : argEnv i (v :: vs) = (i, v) :: argEnv (i + 1) vs := (rfl)
end

section
variable {P : Program} {w : World} {K : Value → World → Prop} {t t' : TypeId}
theorem bV_add_i64 {a b : Int} : binV P .add t (.int .i64 a) (.int .i64 b) = some (I64 (a + b), .int .i64 (a + b)) := rfl
theorem bV_sub_i64 {a b : Int} : binV P .sub t (.int .i64 a) (.int .i64 b) = some (I64 (a - b), .int .i64 (a - b)) := rfl
theorem bV_mul_i64 {a b : Int} : binV P .mul t (.int .i64 a) (.int .i64 b) = some (I64 (a * b), .int .i64 (a * b)) := rfl
theorem bV_quo_i64 {a b : Int} : binV P .quo t (.int .i64 a) (.int .i64 b) = some (b ≠ 0 ∧ b ≠ -1 ∧ I64 a, .int .i64 (a.tdiv b)) := rfl
theorem bV_add_u8 {a b : Int} : binV P .add t (.int .u8 a) (.int .u8 b) = some (True, .int .u8 (IntKind.u8.wrap (a + b))) := rfl
theorem bV_sub_u8 {a b : Int} : binV P .sub t (.int .u8 a) (.int .u8 b) = some (True, .int .u8 (IntKind.u8.wrap (a - b))) := rfl
theorem bV_mul_u8 {a b : Int} : binV P .mul t (.int .u8 a) (.int .u8 b) = some (True, .int .u8 (IntKind.u8.wrap (a * b))) := rfl
theorem bV_quo_u8 {a b : Int} : binV P .quo t (.int .u8 a) (.int .u8 b) = some (b ≠ 0, .int .u8 (IntKind.u8.wrap (a.tdiv b))) := rfl
theorem bV_add_u32 {a b : Int} : binV P .add t (.int .u32 a) (.int .u32 b) = some (True, .int .u32 (IntKind.u32.wrap (a + b))) := rfl
theorem bV_sub_u32 {a b : Int} : binV P .sub t (.int .u32 a) (.int .u32 b) = some (True, .int .u32 (IntKind.u32.wrap (a - b))) := rfl
theorem bV_mul_u32 {a b : Int} : binV P .mul t (.int .u32 a) (.int .u32 b) = some (True, .int .u32 (IntKind.u32.wrap (a * b))) := rfl
theorem bV_quo_u32 {a b : Int} : binV P .quo t (.int .u32 a) (.int .u32 b) = some (b ≠ 0, .int .u32 (IntKind.u32.wrap (a.tdiv b))) := rfl
theorem bV_add_u64 {a b : Int} : binV P .add t (.int .u64 a) (.int .u64 b) = some (True, .int .u64 (IntKind.u64.wrap (a + b))) := rfl
theorem bV_sub_u64 {a b : Int} : binV P .sub t (.int .u64 a) (.int .u64 b) = some (True, .int .u64 (IntKind.u64.wrap (a - b))) := rfl
theorem bV_mul_u64 {a b : Int} : binV P .mul t (.int .u64 a) (.int .u64 b) = some (True, .int .u64 (IntKind.u64.wrap (a * b))) := rfl
theorem bV_quo_u64 {a b : Int} : binV P .quo t (.int .u64 a) (.int .u64 b) = some (b ≠ 0, .int .u64 (IntKind.u64.wrap (a.tdiv b))) := rfl
theorem bV_rem {k : IntKind} {a b : Int} : binV P .rem t (.int k a) (.int k b) = some (b ≠ 0, .int k (a.tmod b)) := by simp [binV, intV]
theorem bV_and {k : IntKind} {a b : Int} : binV P .and t (.int k a) (.int k b) = some (True, .int k (bits .and k a b)) := by simp [binV, intV]
theorem bV_or {k : IntKind} {a b : Int} : binV P .or t (.int k a) (.int k b) = some (True, .int k (bits .or k a b)) := by simp [binV, intV]
theorem bV_xor {k : IntKind} {a b : Int} : binV P .xor t (.int k a) (.int k b) = some (True, .int k (bits .xor k a b)) := by simp [binV, intV]
theorem bV_andNot {k : IntKind} {a b : Int} : binV P .andNot t (.int k a) (.int k b) = some (True, .int k (bits .andNot k a b)) := by simp [binV, intV]
theorem bV_shl {k k' : IntKind} {a b : Int} : binV P .shl t (.int k a) (.int k' b) = some (0 ≤ b, .int k (k.wrap (a * 2 ^ min b.toNat k.bits))) := rfl
theorem bV_shr {k k' : IntKind} {a b : Int} : binV P .shr t (.int k a) (.int k' b) = some (0 ≤ b, .int k (a / 2 ^ min b.toNat k.bits)) := rfl
theorem bV_eql {k : IntKind} {a b : Int} : binV P .eql t (.int k a) (.int k b) = some (True, .bool (decide (a = b))) := by simp [binV, intV]
theorem bV_neq {k : IntKind} {a b : Int} : binV P .neq t (.int k a) (.int k b) = some (True, .bool (decide (a ≠ b))) := by simp [binV, intV]
theorem bV_lss {k : IntKind} {a b : Int} : binV P .lss t (.int k a) (.int k b) = some (True, .bool (decide (a < b))) := by simp [binV, intV]
theorem bV_leq {k : IntKind} {a b : Int} : binV P .leq t (.int k a) (.int k b) = some (True, .bool (decide (a ≤ b))) := by simp [binV, intV]
theorem bV_gtr {k : IntKind} {a b : Int} : binV P .gtr t (.int k a) (.int k b) = some (True, .bool (decide (b < a))) := by simp [binV, intV]
theorem bV_geq {k : IntKind} {a b : Int} : binV P .geq t (.int k a) (.int k b) = some (True, .bool (decide (b ≤ a))) := by simp [binV, intV]
theorem bV_sadd {a b : ByteArray} : binV P .add t (.string a) (.string b) = some (((toL a).length : Int) + (toL b).length ≤ 9223372036854775807, .string (ofL (toL a ++ toL b))) := rfl
theorem bV_seql {a b : ByteArray} : binV P .eql t (.string a) (.string b) = some (True, .bool (decide (toL a = toL b))) := rfl
theorem bV_sneq {a b : ByteArray} : binV P .neq t (.string a) (.string b) = some (True, .bool (decide (toL a ≠ toL b))) := rfl
theorem bV_slss {a b : ByteArray} : binV P .lss t (.string a) (.string b) = some (True, .bool (Op.bytesLess (toL a) (toL b))) := rfl
theorem bV_sleq {a b : ByteArray} : binV P .leq t (.string a) (.string b) = some (True, .bool (Op.bytesLess (toL a) (toL b) || decide (toL a = toL b))) := rfl
theorem bV_sgtr {a b : ByteArray} : binV P .gtr t (.string a) (.string b) = some (True, .bool (!(Op.bytesLess (toL a) (toL b) || decide (toL a = toL b)))) := rfl
theorem bV_sgeq {a b : ByteArray} : binV P .geq t (.string a) (.string b) = some (True, .bool (!(Op.bytesLess (toL a) (toL b)))) := rfl
theorem bV_beql {a b : Bool} : binV P .eql t (.bool a) (.bool b) = if isBoolT P t then some (True, .bool (a == b)) else none := rfl
theorem bV_bneq {a b : Bool} : binV P .neq t (.bool a) (.bool b) = if isBoolT P t then some (True, .bool (!(a == b))) else none := by
  simp only [binV, eqV]; split <;> rfl
theorem bV_peql {p : Option Addr} : binV P .eql t (.pointer p) (.pointer none) = if isPtrT P t then some (True, .bool p.isNone) else none := by
  cases p <;> rfl
theorem bV_pneq {p : Option Addr} : binV P .neq t (.pointer p) (.pointer none) = if isPtrT P t then some (True, .bool (!p.isNone)) else none := by
  cases p <;> (simp only [binV, eqV]; split <;> rfl)
theorem bV_sleql {a : Option Addr} {n c : Nat} : binV P .eql t (.slice a n c) (.slice none 0 0) = if isSliceT P t then some (True, .bool a.isNone) else none := rfl
theorem bV_slneq {a : Option Addr} {n c : Nat} : binV P .neq t (.slice a n c) (.slice none 0 0) = if isSliceT P t then some (True, .bool (!a.isNone)) else none := by
  simp only [binV, eqV]; split <;> rfl
theorem bV_feql {f : Fn} {a c : Array Value} : binV P .eql t (.func f a c) .nilFunc = if isFuncT P t then some (True, .bool false) else none := rfl
theorem uV_neg_i64 {n : Int} : unV .neg (.int .i64 n) = some (I64 (0 - n), .int .i64 (0 - n)) := rfl
theorem uV_xor {k : IntKind} {n : Int} : unV .xor (.int k n) = some (True, .int k (bits .xor k (if k.signed then -1 else k.max) n)) := rfl
theorem uV_not {b : Bool} : unV .not (.bool b) = some (True, .bool (!b)) := rfl

theorem iV_str {s : ByteArray} {k : IntKind} {j : Int} : indexV P t (.string s) (.int k j) = if isStrT P t then some (0 ≤ j ∧ j < ((toL s).length : Int), .int .u8 (bN (toL s) j)) else none := (rfl)
def mapPV (o : Option Nat) (f : Nat → Prop × Value) : PV := match o with | some x => some (f x) | none => none
theorem mapPV_some {x : Nat} {f : Nat → Prop × Value} : mapPV (some x) f = some (f x) := rfl
theorem iaV_sl {a : Addr} {n c : Nat} {k : IntKind} {j : Int} : indexAddrV P t (.slice (some a) n c) (.int k j) = mapPV (sliI P t) fun size => (0 ≤ j ∧ j < (n : Int), .pointer (some (a.add (j.toNat * size)))) := by
  simp only [indexAddrV]; cases sliI P t <;> rfl
def fldPV (o : Option (Nat × Nat × Bool)) (f : Nat → Nat → Bool → PV) : PV := match o with | some (a, b, c) => f a b c | none => none
theorem fldPV_some {a b : Nat} {c : Bool} {f : Nat → Nat → Bool → PV} : fldPV (some (a, b, c)) f = f a b c := rfl
theorem iaV_arr {a : Addr} {k : IntKind} {j : Int} : indexAddrV P t (.pointer (some a)) (.int k j) = fldPV (arrI P t) fun n size _ => some (0 ≤ j ∧ j < (n : Int), .pointer (some (a.add (j.toNat * size)))) := by
  simp only [indexAddrV]; cases arrI P t <;> rfl
theorem fV_agg {cs : Array Value} {f : Nat} : fieldV P t f (.agg cs) = fldPV (fldI P t f) fun off size agg => toPV (partV off size agg cs) := by
  unfold fieldV
  rcases fldI P t f with _ | ⟨off, size, agg⟩ <;> rfl
theorem faV_ptr {a : Addr} {f : Nat} : fieldAddrV P t f (.pointer (some a)) = fldPV (fldI P t f) fun off size _ => if size = 0 then none else some (True, .pointer (some (a.add off))) := by
  unfold fieldAddrV
  rcases fldI P t f with _ | ⟨off, _ | size, agg⟩ <;> rfl
theorem toPV_some' {v : Value} : toPV (some v) = some (True, v) := rfl
theorem partV_agg {off size : Nat} {cs : Array Value} : partV off size true cs = some (.agg (cs.extract off (off + size))) := rfl
theorem partV_one {off size : Nat} {cs : Array Value} : partV off size false cs = cs[off]? := rfl
theorem sV_str {s : ByteArray} {lo hi : Option Value} : sliceV P t (some (.string s)) (some lo) (some hi) = if isStrT P t then sliceStrV (toL s) lo hi else none := (rfl)
def natPV (o : Option Nat) (f : Nat → PV) : PV := match o with | some x => f x | none => none
theorem natPV_some {x : Nat} {f : Nat → PV} : natPV (some x) f = f x := rfl
theorem sV_sl {a : Option Addr} {n c : Nat} {lo hi : Option Value} : sliceV P t (some (.slice a n c)) (some lo) (some hi) = natPV (sliI P t) fun size => sliceSlV size a n c lo hi := by
  simp only [sliceV]; cases sliI P t <;> rfl
theorem ssV_nn {l : List UInt8} : sliceStrV l none none = some (True, .string (ofL l)) := rfl
theorem ssV_in {l : List UInt8} {k : IntKind} {i : Int} : sliceStrV l (some (.int k i)) none = some (0 ≤ i ∧ i ≤ (l.length : Int), .string (ofL (l.drop i.toNat))) := rfl
theorem ssV_ni {l : List UInt8} {k : IntKind} {i : Int} : sliceStrV l none (some (.int k i)) = some (0 ≤ i ∧ i ≤ (l.length : Int), .string (ofL (l.take i.toNat))) := rfl
theorem ssV_ii {l : List UInt8} {k k' : IntKind} {i j : Int} : sliceStrV l (some (.int k i)) (some (.int k' j)) = some (0 ≤ i ∧ i ≤ j ∧ j ≤ (l.length : Int), .string (ofL (cutL l i j))) := rfl
theorem slV_nn {size : Nat} {a : Option Addr} {n c : Nat} : sliceSlV size a n c none none = some (True, .slice (offA a c 0 size) n c) := rfl
theorem slV_in {size : Nat} {a : Option Addr} {n c : Nat} {k : IntKind} {i : Int} : sliceSlV size a n c (some (.int k i)) none = some (0 ≤ i ∧ i ≤ (n : Int), .slice (offA a c i.toNat size) (n - i.toNat) (c - i.toNat)) := rfl
theorem slV_ni {size : Nat} {a : Option Addr} {n c : Nat} {k : IntKind} {j : Int} : sliceSlV size a n c none (some (.int k j)) = some (0 ≤ j ∧ j ≤ (c : Int), .slice (offA a c 0 size) j.toNat c) := rfl
theorem slV_ii {size : Nat} {a : Option Addr} {n c : Nat} {k k' : IntKind} {i j : Int} : sliceSlV size a n c (some (.int k i)) (some (.int k' j)) = some (0 ≤ i ∧ i ≤ j ∧ j ≤ (c : Int), .slice (offA a c i.toNat size) (j.toNat - i.toNat) (c - i.toNat)) := rfl
theorem eV_tuple {vs : Array Value} {k : Nat} : extractV k (.tuple vs) = toPV vs[k]? := rfl
theorem nV_ptr {a : Addr} : nilCheckV (.pointer (some a)) = some (True, .pointer (some a)) := rfl
theorem nV_func {f : FuncId} {a b : Array Value} : nilCheckV (.func (.func f) a b) = some (True, .func (.func f) a b) := rfl
theorem iV_iface {x : Value} : ifaceV P t x = if P.concrete t then some (True, .iface t x) else none := (rfl)
theorem biW_lens {s : ByteArray} {ty : TypeId} {cs : Array Bool} : biW P .len #[t] ty cs [.string s] w K = pvW (if isStrT P t then some (True, .int .i64 ((toL s).length : Int)) else none) w K := (rfl)
theorem biW_lensl {a : Option Addr} {n c : Nat} {ty : TypeId} {cs : Array Bool} : biW P .len #[t] ty cs [.slice a n c] w K = pvW (if isSliceT P t then some (True, .int .i64 (n : Int)) else none) w K := (rfl)
theorem biW_min2 {k k' : IntKind} {x y : Int} {ats : Array TypeId} {ty : TypeId} {cs : Array Bool} : biW P .min ats ty cs [.int k x, .int k' y] w K = pvW (some (True, .int k (min x y))) w K := (rfl)
theorem biW_max2 {k k' : IntKind} {x y : Int} {ats : Array TypeId} {ty : TypeId} {cs : Array Bool} : biW P .max ats ty cs [.int k x, .int k' y] w K = pvW (some (True, .int k (max x y))) w K := (rfl)
theorem biW_min3 {k k' k'' : IntKind} {x y z : Int} {ats : Array TypeId} {ty : TypeId} {cs : Array Bool} : biW P .min ats ty cs [.int k x, .int k' y, .int k'' z] w K = pvW (some (True, .int k (min (min x y) z))) w K := (rfl)
theorem biW_max3 {k k' k'' : IntKind} {x y z : Int} {ats : Array TypeId} {ty : TypeId} {cs : Array Bool} : biW P .max ats ty cs [.int k x, .int k' y, .int k'' z] w K = pvW (some (True, .int k (max (max x y) z))) w K := (rfl)
theorem callW_yield {l : Nat} {args : List Value} : callW P (.func (.yield l) #[] #[]) args w K = YieldAt Fence.wide 0 P l args.toArray w (fun e w' => ∃ v, e = .returned v ∧ K v w') := by
  simp [callW]
theorem callW_func {f : FuncId} {args : List Value} : callW P (.func (.func f) #[] #[]) args w K = (goFunc P f = true ∧ Ret P f args w K) := by
  simp [callW]

theorem loadW_k {p : Addr} : loadW P t p w K = loadK (tyK P t) p w K := (rfl)
theorem loadK_int {k : IntKind} {p : Addr} : loadK (.int k) p w K = ∃ n, w.cell? p = some (.int k n) ∧ K (.int k n) w := (rfl)
theorem loadK_bool {p : Addr} : loadK .bool p w K = ∃ n, w.cell? p = some (.bool n) ∧ K (.bool n) w := (rfl)
theorem loadK_str {p : Addr} : loadK .str p w K = ∃ l, w.cell? p = some (.string (ofL l)) ∧ K (.string (ofL l)) w := (rfl)
theorem loadK_slice {p : Addr} {b : Bool} {e : TypeId} : loadK (.slice b e) p w K = ∃ a n c, w.cell? p = some (.slice a n c) ∧ K (.slice a n c) w := (rfl)
theorem loadK_ptr {p : Addr} : loadK .ptr p w K = ∃ q, w.cell? p = some (.pointer q) ∧ K (.pointer q) w := (rfl)
theorem loadK_map {p : Addr} : loadK .map p w K = ∃ r, w.cell? p = some (.map r) ∧ K (.map r) w := (rfl)
theorem loadK_agg {n : Nat} {p : Addr} : loadK (.agg n) p w K = ∃ cs, cellsAt w p cs ∧ cs.length = n ∧ K (.agg cs.toArray) w := (rfl)
theorem loadK_other {p : Addr} : loadK .other p w K = ∃ v, w.cell? p = some v ∧ K v w := (rfl)
theorem convW_k {s d : TypeId} {x : Value} : convW P s d x w K = convK (tyK P s) (tyK P d) x w K := (rfl)
theorem convK_i64 {k k' : IntKind} {n : Int} : convK (.int k) (.int .i64) (.int k' n) w K = (I64 n ∧ K (.int .i64 n) w) := (rfl)
theorem convK_u8 {k k' : IntKind} {n : Int} : convK (.int k) (.int .u8) (.int k' n) w K = K (.int .u8 (IntKind.u8.wrap n)) w := (rfl)
theorem convK_u32 {k k' : IntKind} {n : Int} : convK (.int k) (.int .u32) (.int k' n) w K = K (.int .u32 (IntKind.u32.wrap n)) w := (rfl)
theorem convK_u64 {k k' : IntKind} {n : Int} : convK (.int k) (.int .u64) (.int k' n) w K = K (.int .u64 (IntKind.u64.wrap n)) w := (rfl)
theorem convK_i32 {k k' : IntKind} {n : Int} : convK (.int k) (.int .i32) (.int k' n) w K = K (.int .i32 (IntKind.i32.wrap n)) w := (rfl)
theorem convK_u16 {k k' : IntKind} {n : Int} : convK (.int k) (.int .u16) (.int k' n) w K = K (.int .u16 (IntKind.u16.wrap n)) w := (rfl)
theorem convK_ss {b : ByteArray} : convK .str .str (.string b) w K = K (.string b) w := (rfl)
theorem convK_sb {b : ByteArray} {e : TypeId} : convK .str (.slice true e) (.string b) w K = ∀ c, (toL b).length ≤ c → K (.slice (some ⟨w.heap.size, 0, none⟩) (toL b).length c) (bytesW w (toL b) c e) := (rfl)
theorem convK_bs {a : Option Addr} {n c : Nat} {e : TypeId} : convK (.slice true e) .str (.slice a n c) w K = ∃ l, l.length = n ∧ bytesAt w a l ∧ K (.string (ofL l)) w := (rfl)

theorem storeW_one {p : Addr} {v : Value} (h : sizeT P t = some 1 ∧ v.oneCell' = true ∧ (∃ old, w.cell? p = some old) ∧ w.frozen? p = false ∧ K undef (w.setCell p v)) : storeW P t p v w K := by
  obtain ⟨h1, h2, h3, h4, h5⟩ := h
  have hc : v.cells = #[v] := by cases v <;> simp_all [Value.cells, Value.oneCell']
  refine ⟨by rw [hc]; exact h1, by rw [hc]; simpa using h2, ?_, ?_⟩
  · rw [hc]; intro i hi
    have : i = 0 := by simpa using hi
    subst this
    simpa using ⟨h3, h4⟩
  · rw [hc]; simpa [setCellsW, Addr.add_zero'] using h5
theorem storeW_eq {p : Addr} {v : Value} (hv : v.oneCell' = true) : storeW P t p v w K = (sizeT P t = some 1 ∧ (∃ old, w.cell? p = some old) ∧ w.frozen? p = false ∧ K undef (w.setCell p v)) := by
  apply propext
  refine ⟨fun ⟨h1, h2, h3, h4⟩ => ?_, fun ⟨h1, h3, h4, h5⟩ => storeW_one ⟨h1, hv, h3, h4, h5⟩⟩
  have hc : v.cells = #[v] := by cases v <;> simp_all [Value.cells, Value.oneCell']
  rw [hc] at h1 h3 h4
  have := h3 0 (by simp)
  simp only [Addr.add_zero'] at this
  exact ⟨h1, this.1, this.2, by simpa [setCellsW, Addr.add_zero'] using h4⟩
theorem storeW_int {p : Addr} {k : IntKind} {n : Int} : storeW P t p (.int k n) w K = (sizeT P t = some 1 ∧ (∃ old, w.cell? p = some old) ∧ w.frozen? p = false ∧ K undef (w.setCell p (.int k n))) := storeW_eq rfl
theorem storeW_bool {p : Addr} {n : Bool} : storeW P t p (.bool n) w K = (sizeT P t = some 1 ∧ (∃ old, w.cell? p = some old) ∧ w.frozen? p = false ∧ K undef (w.setCell p (.bool n))) := storeW_eq rfl
theorem storeW_str {p : Addr} {n : ByteArray} : storeW P t p (.string n) w K = (sizeT P t = some 1 ∧ (∃ old, w.cell? p = some old) ∧ w.frozen? p = false ∧ K undef (w.setCell p (.string n))) := storeW_eq rfl
theorem storeW_ptr {p : Addr} {n : Option Addr} : storeW P t p (.pointer n) w K = (sizeT P t = some 1 ∧ (∃ old, w.cell? p = some old) ∧ w.frozen? p = false ∧ K undef (w.setCell p (.pointer n))) := storeW_eq rfl
theorem storeW_slice {p : Addr} {a : Option Addr} {n c : Nat} : storeW P t p (.slice a n c) w K = (sizeT P t = some 1 ∧ (∃ old, w.cell? p = some old) ∧ w.frozen? p = false ∧ K undef (w.setCell p (.slice a n c))) := storeW_eq rfl
theorem storeW_map {p : Addr} {n : Option Nat} : storeW P t p (.map n) w K = (sizeT P t = some 1 ∧ (∃ old, w.cell? p = some old) ∧ w.frozen? p = false ∧ K undef (w.setCell p (.map n))) := storeW_eq rfl
theorem storeW_func {p : Addr} {f : Fn} {a c : Array Value} : storeW P t p (.func f a c) w K = (sizeT P t = some 1 ∧ (∃ old, w.cell? p = some old) ∧ w.frozen? p = false ∧ K undef (w.setCell p (.func f a c))) := storeW_eq rfl
theorem storeW_nilFunc {p : Addr} : storeW P t p .nilFunc w K = (sizeT P t = some 1 ∧ (∃ old, w.cell? p = some old) ∧ w.frozen? p = false ∧ K undef (w.setCell p .nilFunc)) := storeW_eq rfl
theorem storeW_iface {p : Addr} {d : TypeId} {x : Value} : storeW P t p (.iface d x) w K = (sizeT P t = some 1 ∧ (∃ old, w.cell? p = some old) ∧ w.frozen? p = false ∧ K undef (w.setCell p (.iface d x))) := storeW_eq rfl
theorem storeW_nilIface {p : Addr} : storeW P t p .nilIface w K = (sizeT P t = some 1 ∧ (∃ old, w.cell? p = some old) ∧ w.frozen? p = false ∧ K undef (w.setCell p .nilIface)) := storeW_eq rfl

/-- What a round's end is to be. -/
def loopS {σ : Type} (env : σ → Env) (R : σ → World → Prop) (μ : σ → Nat) (s : σ) (Q : Post) : Post := fun e ρ w =>
  match e with
  | .normal => ∃ s', ρ = env s' ∧ R s' w ∧ μ s' < μ s
  | e => Q e ρ w
theorem loopS_normal {σ : Type} {env : σ → Env} {R : σ → World → Prop} {μ : σ → Nat} {s : σ} {Q : Post} {ρ : Env} : loopS env R μ s Q .normal ρ w = ∃ s', ρ = env s' ∧ R s' w ∧ μ s' < μ s := (rfl)
theorem loopS_exit {σ : Type} {env : σ → Env} {R : σ → World → Prop} {μ : σ → Nat} {s : σ} {Q : Post} {ρ : Env} {j : Nat} : loopS env R μ s Q (.exit j) ρ w = Q (.exit j) ρ w := (rfl)
theorem loopS_ret {σ : Type} {env : σ → Env} {R : σ → World → Prop} {μ : σ → Nat} {s : σ} {Q : Post} {ρ : Env} : loopS env R μ s Q .ret ρ w = Q .ret ρ w := (rfl)
/-- A loop: by the slots and the world as a state has them, and a number that each round lowers. -/
theorem W_loop {σ : Type} {c : Cmd} {ρ : Env} {Q : Post} (env : σ → Env) (R : σ → World → Prop) (μ : σ → Nat) (s0 : σ) (h0 : ρ = env s0) (hR : R s0 w)
    (round : ∀ s w, R s w → W P c (env s) w (loopS env R μ s Q)) : W P (.loop c) ρ w Q := by
  show LoopW _ _ _ _
  refine ⟨fun n ρ w => ∃ s, n = μ s ∧ ρ = env s ∧ R s w, ⟨μ s0, s0, rfl, h0, hR⟩, fun n ρ' w' ⟨s, hn, hρ, hs⟩ => ?_⟩
  subst hn hρ
  have := round s w' hs
  have e : loopS env R μ s Q = (fun e ρ'' w'' => match e with
      | .normal => ∃ m, m < μ s ∧ ∃ s', m = μ s' ∧ ρ'' = env s' ∧ R s' w''
      | e => Q e ρ'' w'') := by
    funext e ρ w
    cases e <;> try rfl
    simp only [loopS]
    apply propext
    refine ⟨fun ⟨s', h1, h2, h3⟩ => ⟨_, h3, s', rfl, h1, h2⟩, fun ⟨m, hm, s', h1, h2, h3⟩ => ⟨s', h2, h3, by omega⟩⟩
  rw [e] at this
  exact this
end

attribute [go_sem low] gD_gen condD_gen
attribute [go_sem] shutW_nil shutW_cons marksD_nil marksD_cons mkE_nil mkE_cons mark_nlt Nat.add_sub_cancel Nat.reduceLT callW_yield W_sg k1_some k2_some k3_some kl_some loopS_normal loopS_exit loopS_ret gD_t gD_f gD_tf gD_ft gD_undef condD_t condD_f cvD_some ldD_some stD_some clD_some biD_some bxD_some mfD_some rtD_some rcD_some sel_true sel_false WL_nil WL_cons WL_guard Kn_app W_skip W_ops W_draw W_seq W_cond W_block W_exit W_scope W_ret thenQ_normal thenQ_exit thenQ_ret blockQ_normal blockQ_ret blockQ_exit scopeQ_normal scopeQ_ret scopeQ_exit finQ_normal finQ_ret resW_nil resW_tmp resW_cell tupV_one tupV_two tupV_three tupV_four tupV_nil un1W_some ls1W_some ptrW_some opW_move opW_assign opW_pick
attribute [go_sem] opW_bin opW_un opW_index opW_slice opW_field opW_fieldAddr opW_indexAddr opW_extract opW_iface opW_nilCheck opW_makeFunc opW_load opW_store opW_alloc opW_box opW_conv opW_build opW_buildSlice opW_makeSlice opW_makeMap opW_lookup opW_mapUpdate opW_insert opW_range opW_next opW_entry opW_typeAssert opW_bi opW_call mvW_some pvW_some un1_some bin2_some pickV_true pickV_false lk_cons lk_nil
attribute [go_sem] ev_tmp ev_const ev_func ev_global evs_nil evs_cons consO_some evo_none evo_some someO_some put_some put_none restr_nil restr_cons addK_some addK_none bV_add_i64 bV_sub_i64 bV_mul_i64 bV_quo_i64 bV_add_u8 bV_sub_u8 bV_mul_u8 bV_quo_u8 bV_add_u32 bV_sub_u32 bV_mul_u32 bV_quo_u32 bV_add_u64 bV_sub_u64 bV_mul_u64 bV_quo_u64 bV_rem bV_and bV_or bV_xor bV_andNot bV_shl bV_shr bV_eql bV_neq
attribute [go_sem] bV_lss bV_leq bV_gtr bV_geq bV_sadd bV_seql bV_sneq bV_slss bV_sleq bV_sgtr bV_sgeq bV_beql bV_bneq bV_peql bV_pneq bV_sleql bV_slneq bV_feql uV_neg_i64 uV_xor uV_not iV_str mapPV_some iaV_sl fldPV_some iaV_arr fV_agg faV_ptr toPV_some' partV_agg partV_one sV_str natPV_some sV_sl ssV_nn ssV_in ssV_ni ssV_ii slV_nn slV_in slV_ni slV_ii eV_tuple nV_ptr nV_func iV_iface biW_lens biW_lensl
attribute [go_sem] biW_min2 biW_max2 biW_min3 biW_max3 callW_func loadW_k  convW_k convK_i64 convK_u8 convK_u32 convK_u64 convK_i32 convK_u16 convK_ss convK_sb convK_bs storeW_int storeW_bool storeW_str storeW_ptr storeW_slice storeW_map storeW_func storeW_nilFunc storeW_iface storeW_nilIface toL_ofL decide_eq_true_eq
attribute [go_sem] decide_eq_false_iff_not Bool.not_true Bool.not_false Bool.not_eq_true' Bool.not_eq_false' true_and and_true false_and and_false true_implies false_implies implies_true forall_const eq_self Bool.true_eq_false Bool.false_eq_true ne_eq not_true_eq_false not_false_eq_true List.toList_toArray List.reverse_cons List.reverse_nil List.nil_append List.cons_append List.map_cons List.map_nil
attribute [go_sem] Nat.one_ne_zero Nat.zero_ne_one Int.not_lt Int.not_le List.getElem?_toArray List.getElem?_cons_zero List.getElem?_cons_succ Nat.zero_add Option.isNone_some Option.isNone_none
end Go.Ann
