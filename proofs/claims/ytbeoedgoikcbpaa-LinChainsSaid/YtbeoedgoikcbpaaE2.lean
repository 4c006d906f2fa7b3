/- Texts put together by program: Ann13, Ann14, Ann15, Ann16, Ann17, Ann18, Ann19, Ann20, Ann21, Ann22, Ann23, Ann24, Ann25. -/
import Derived.Test.YtbeoedgoikcbpaaE1
import Derived.Orders
import Derived.Deep.Quiet
import Derived.ProofKit
import Derived.Deep.AppendLies
import Derived.Deep.DeepAppendWide
import Derived.Laws.Tables
import Derived.OrdersHeld
import Derived.Deep.Slices
import Derived.OpenShut
import Derived.WideLaws
import Derived.MapKept
namespace Go.Ann
set_option linter.unusedSimpArgs false
open Go Go.RowKit
section
set_option linter.unusedVariables false
variable {P : Program}

/-- A conversion between whole numbers. -/
def convIk (s d : TyK) (x : Value) (w : World) (K : Value → World → Prop) : Prop :=
  match s, d, x with
  | .int k, .int k', .int k'' n => convK (.int k) (.int k') (.int k'' n) w K
  | _, _, _ => False
def cvI (P : Program) (s d : TypeId) (o : Option Value) (w : World) (K : Value → World → Prop) : Prop := un1W (fun x => convIk (tyK P s) (tyK P d) x w K) o
theorem convIk_out {P : Program} {s d : TypeId} {x : Value} {w : World} {K : Value → World → Prop} (h : convIk (tyK P s) (tyK P d) x w K) : ∃ v, (∀ w', (convert s d x).run P w' = .ok v w') ∧ K v w := by
  generalize hs : tyK P s = ks at h
  generalize hd : tyK P d = kd at h
  unfold convIk at h
  split at h
  · rename_i k k' k'' n
    have hs' := tyK_int hs
    have hd' := tyK_int hd
    have hk : P.intKind d = k' := by simp [Program.intKind, hd']
    have hr := fun w' => run_convert_int w' s d k'' n (by rw [hs']; rfl) (by rw [hk]; exact hd')
    rw [hk] at hr
    refine ⟨_, hr, ?_⟩
    unfold convK at h
    split at h <;> rename_i h1 h2 h3
    · simp only [TyK.int.injEq, Value.int.injEq] at h2 h3
      rw [h2, h3.2, wrap_i64 _ h.1]; exact h.2
    · simp only [TyK.int.injEq, Value.int.injEq] at h2 h3
      rw [h2, h3.2]; exact h
    all_goals first | cases h1 | cases h2 | cases h3 | exact h.elim
  · exact h.elim
/-- What is to be shown of an operation that hangs on no memory. -/
def pureW (P : Program) (op : Op) (ty : TypeId) (ρ : Env) (w : World) (K : Value → World → Prop) : Prop :=
  match op with
  | .move x => mvW (ev ρ x) w K
  | .assign x => mvW (ev ρ x) w K
  | .pick c a b => mvW (pickV (ev ρ c) (ev ρ a) (ev ρ b)) w K
  | .binOp op t x y _ => pvW (bin2 (binV P op t) (ev ρ x) (ev ρ y)) w K
  | .unOp op _ x => pvW (un1 (unV op) (ev ρ x)) w K
  | .index t x i => pvW (bin2 (indexV P t) (ev ρ x) (ev ρ i)) w K
  | .slice t x lo hi none => pvW (sliceV P t (ev ρ x) (evo ρ lo) (evo ρ hi)) w K
  | .field t x f => pvW (un1 (fieldV P t f) (ev ρ x)) w K
  | .fieldAddr t x f => pvW (un1 (fieldAddrV P t f) (ev ρ x)) w K
  | .indexAddr t x i => pvW (bin2 (indexAddrV P t) (ev ρ x) (ev ρ i)) w K
  | .extract x k => pvW (un1 (extractV k) (ev ρ x)) w K
  | .makeInterface t x => pvW (un1 (ifaceV P t) (ev ρ x)) w K
  | .nilCheck x => pvW (un1 nilCheckV (ev ρ x)) w K
  | .convert s d x => cvI P s d (ev ρ x) w K
  | .makeFunc fn first cap => mfD fn (evs ρ first.toList) (evs ρ cap.toList) w K
  | .call ⟨.builtin .len, args, ats⟩ => pvW (lsPV (biV P .len ats.toList) (evs ρ args.toList)) w K
  | .call ⟨.builtin .min, args, ats⟩ => pvW (lsPV (biV P .min ats.toList) (evs ρ args.toList)) w K
  | .call ⟨.builtin .max, args, ats⟩ => pvW (lsPV (biV P .max ats.toList) (evs ρ args.toList)) w K
  | _ => False

def Runs (P : Program) (op : Op) (ty : TypeId) (ρ : Env) (v : Value) : Prop :=
  ∀ a : Operand → Value, (∀ x v, ev ρ x = some v → a x = v) → ∀ w, (execOp a (rawOp op ty)).run P w = .ok (.value v) w

theorem run_val {s : Sem Value} {v : Value} {w : World} (h : s.run P w = .ok v w) : (do pure (Next.value (← s)) : Sem Next).run P w = .ok (.value v) w := by
  simp only [Sem.run_bind, h, Result.andThen]; rfl

theorem bi_runs {b : Builtin} {args : Array Operand} {ats : Array TypeId} {ty : TypeId} {ρ : Env} {w : World} {K : Value → World → Prop}
    (h : pvW (lsPV (biV P b ats.toList) (evs ρ args.toList)) w K) : ∃ v, Runs P (.call ⟨.builtin b, args, ats⟩) ty ρ v ∧ K v w := by
  obtain ⟨ob, v, h1, hob, hk⟩ := pvW_out h
  cases hx : evs ρ args.toList with
  | none => rw [hx] at h1; cases h1
  | some xs =>
    rw [hx] at h1
    refine ⟨v, fun a ha w' => ?_, hk⟩
    simp only [execOp, rawOp, resolve, Sem.run_bind, Sem.run_pure, Result.andThen, invoke, evs_map' ha hx]
    exact biV_sound w' (ats := ats.toList) h1 hob

theorem pureW_runs {op : Op} {ty : TypeId} {ρ : Env} {w : World} {K : Value → World → Prop} (h : pureW P op ty ρ w K) : ∃ v, Runs P op ty ρ v ∧ K v w := by
  unfold pureW at h
  split at h
  · obtain ⟨v, hv, hk⟩ := mvW_out h
    exact ⟨v, fun a ha w => by simp only [execOp, rawOp, ha _ _ hv]; rfl, hk⟩
  · obtain ⟨v, hv, hk⟩ := mvW_out h
    exact ⟨v, fun a ha w => by simp only [execOp, rawOp, ha _ _ hv]; rfl, hk⟩
  · obtain ⟨v, hv, hk⟩ := mvW_out h
    refine ⟨v, fun a ha w => ?_, hk⟩
    unfold pickV at hv
    split at hv
    · rename_i h1
      simp only [execOp, rawOp, ha _ _ h1, asBool, ha _ _ hv]; simp
    · rename_i h1
      simp only [execOp, rawOp, ha _ _ h1, asBool, ha _ _ hv]; simp
    · cases hv
  · obtain ⟨ob, v, h1, hob, hk⟩ := pvW_out h
    obtain ⟨x, y, hx, hy, h1⟩ := bin2_out h1
    exact ⟨v, fun a ha w => by simp only [execOp, rawOp, ha _ _ hx, ha _ _ hy]; exact run_val (binV_sound w h1 hob _ _), hk⟩
  · obtain ⟨ob, v, h1, hob, hk⟩ := pvW_out h
    obtain ⟨x, hx, h1⟩ := un1_out h1
    exact ⟨v, fun a ha w => by simp only [execOp, rawOp, ha _ _ hx]; exact run_val (unV_sound w h1 hob), hk⟩
  · obtain ⟨ob, v, h1, hob, hk⟩ := pvW_out h
    obtain ⟨x, y, hx, hy, h1⟩ := bin2_out h1
    exact ⟨v, fun a ha w => by simp only [execOp, rawOp, ha _ _ hx, ha _ _ hy]; exact run_val (indexV_sound w h1 hob), hk⟩
  · obtain ⟨ob, v, h1, hob, hk⟩ := pvW_out h
    rename_i t x lo hi
    have evo_out : ∀ {a : Operand → Value}, (∀ x v, ev ρ x = some v → a x = v) → ∀ {o : Option Operand} {u : Option Value}, evo ρ o = some u → o.map a = u := by
      intro a ha o u hu
      cases o with
      | none => simp only [evo, Option.some.injEq] at hu; subst hu; rfl
      | some x =>
        simp only [evo] at hu
        split at hu
        · rename_i v hv
          simp only [Option.some.injEq] at hu; subst hu
          rw [Option.map_some, ha _ _ hv]
        · cases hu
    cases hx : ev ρ x with
    | none => rw [hx] at h1; unfold sliceV at h1; simp at h1
    | some xv => cases hl : evo ρ lo with
      | none => rw [hx, hl] at h1; unfold sliceV at h1; simp at h1
      | some lv => cases hh : evo ρ hi with
        | none => rw [hx, hl, hh] at h1; unfold sliceV at h1; simp at h1
        | some hv =>
          rw [hx, hl, hh] at h1
          exact ⟨v, fun a ha w => by simp only [execOp, rawOp, ha _ _ hx, evo_out ha hl, evo_out ha hh, Option.map_none]; exact run_val (sliceV_sound w h1 hob), hk⟩
  · obtain ⟨ob, v, h1, hob, hk⟩ := pvW_out h
    obtain ⟨x, hx, h1⟩ := un1_out h1
    exact ⟨v, fun a ha w => by simp only [execOp, rawOp, ha _ _ hx]; exact run_val (fieldV_sound w h1), hk⟩
  · obtain ⟨ob, v, h1, hob, hk⟩ := pvW_out h
    obtain ⟨x, hx, h1⟩ := un1_out h1
    exact ⟨v, fun a ha w => by simp only [execOp, rawOp, ha _ _ hx]; exact run_val (fieldAddrV_sound w h1), hk⟩
  · obtain ⟨ob, v, h1, hob, hk⟩ := pvW_out h
    obtain ⟨x, y, hx, hy, h1⟩ := bin2_out h1
    exact ⟨v, fun a ha w => by simp only [execOp, rawOp, ha _ _ hx, ha _ _ hy]; exact run_val (indexAddrV_sound w h1 hob), hk⟩
  · obtain ⟨ob, v, h1, hob, hk⟩ := pvW_out h
    obtain ⟨x, hx, h1⟩ := un1_out h1
    exact ⟨v, fun a ha w => by simp only [execOp, rawOp, ha _ _ hx]; exact run_val (extractV_sound w h1), hk⟩
  · obtain ⟨ob, v, h1, hob, hk⟩ := pvW_out h
    obtain ⟨x, hx, h1⟩ := un1_out h1
    exact ⟨v, fun a ha w => by simp only [execOp, rawOp, ha _ _ hx]; exact run_val (ifaceV_sound w h1), hk⟩
  · obtain ⟨ob, v, h1, hob, hk⟩ := pvW_out h
    obtain ⟨x, hx, h1⟩ := un1_out h1
    unfold nilCheckV at h1
    split at h1
    · simp only [Option.some.injEq, Prod.mk.injEq] at h1; obtain ⟨rfl, rfl⟩ := h1
      exact ⟨_, fun a ha w => by simp only [execOp, rawOp, ha _ _ hx]; rfl, hk⟩
    · simp only [Option.some.injEq, Prod.mk.injEq] at h1; obtain ⟨rfl, rfl⟩ := h1
      exact ⟨_, fun a ha w => by simp only [execOp, rawOp, ha _ _ hx]; rfl, hk⟩
    · cases h1
  · obtain ⟨x, hx, h⟩ := un1W_out h
    obtain ⟨v, hr, hk⟩ := convIk_out h
    exact ⟨v, fun a ha w => by simp only [execOp, rawOp, ha _ _ hx]; exact run_val (hr w), hk⟩
  · obtain ⟨f, hf, h⟩ := ls1W_out h
    obtain ⟨c, hc, hk⟩ := ls1W_out h
    exact ⟨_, fun a ha w => by simp only [execOp, rawOp, evs_map' ha hf, evs_map' ha hc]; rfl, hk⟩
  · exact bi_runs h
  · exact bi_runs h
  · exact bi_runs h
  · exact h.elim

/-- The operations in an order of our own: which are plain, which are met alone. -/
def DL (P : Program) : List (Bool × Ins) → List Nat → Env → World → Post → Prop
  | [], L, ρ, w, Q => Q .normal (restr L ρ) w
  | (p, ⟨d, op, ty, none⟩) :: r, L, ρ, w, Q =>
    if p then pureW P op ty ρ w (fun v w' => DL P r L (put ρ d v) w' Q) else noY ρ op ∧ opW P op ty ρ w (fun v w' => DL P r L (put ρ d v) w' Q)
  | (p, ⟨d, op, ty, some (s, b)⟩) :: r, L, ρ, w, Q => match lk ρ s with
    | some (.bool c) => (c = b → if p then pureW P op ty ((s, .bool b) :: ρ) w (fun v w' => DL P r L (put ((s, .bool b) :: ρ) d v) w' Q) else noY ((s, .bool b) :: ρ) op ∧ opW P op ty ((s, .bool b) :: ρ) w (fun v w' => DL P r L (put ((s, .bool b) :: ρ) d v) w' Q)) ∧
        (c = !b → DL P r L (put ((s, .bool !b) :: ρ) d undef) w Q)
    | some (.tuple _) => DL P r L (put ρ d undef) w Q
    | _ => False

/-- Does an order of ours serve? A plain operation that is apart from all that may come; or the one that alone may come. -/
def schedOk (ops : Array Oper) : List (Bool × Nat) → Array Bool → Bool
  | [], listed => (Region.ready .any ops listed).isEmpty
  | (true, i) :: r, listed => (Region.ready .any ops listed).contains i && Region.free .any ops listed i && schedOk ops r (listed.setIfInBounds i true)
  | (false, i) :: r, listed => (Region.ready .any ops listed == [i]) && schedOk ops r (listed.setIfInBounds i true)

def schedIns (l : List Oper) : List (Bool × Nat) → Option (List (Bool × Ins))
  | [] => some []
  | (p, i) :: r => match l[i]? with
    | none => none
    | some o => match stripG l o.guard, schedIns l r with
      | some g, some q => some ((p, ⟨o.dst, o.op, o.type, g⟩) :: q)
      | _, _ => none

variable {N : Nat}
def drawQ (N : Nat) (L : List Nat) (Q : Post) : Exit → Act → World → Prop := fun e a w => ∃ ρ, Sim N a ρ ∧ e = .normal ∧ Q .normal (restr L ρ) w

theorem wpOp_done {ops : Array Oper} {i : Nat} {o : Oper} {a : Act} {w : World} {K : Value → World → Prop} {next : Act → World → Prop} {Q : Exit → Act → World → Prop} (hi : ops[i]? = some o)
    (hw : Region.wanted o (yielded ops a.tmps) = true) (h : Done P (execOp a.eval (rawOp o.op o.type)) w K) (hk : ∀ v w', K v w' → next (a.put o.dst v) w') : wpOp P ops Q i next a w := by
  unfold wpOp
  simp only [hi, hw, if_true]
  exact .inl (done_wp (execOp_raw _ _) h hk)
theorem wpOp_skip {ops : Array Oper} {i : Nat} {o : Oper} {a : Act} {w : World} {next : Act → World → Prop} {Q : Exit → Act → World → Prop} (hi : ops[i]? = some o)
    (hw : Region.wanted o (yielded ops a.tmps) = false) (h : next (a.put o.dst undef) w) : wpOp P ops Q i next a w := by
  unfold wpOp
  simp only [hi, hw, Bool.false_eq_true, if_false]
  exact h

theorem yielded_of {l : List Oper} {a : Act} {ρ : Env} (hsim : Sim N a ρ) {j s : Nat} (hs : (l[j]?).bind (·.dst) = some s) {c : Bool} (hc : lk ρ s = some (.bool c)) : yielded l.toArray a.tmps j = some c := by
  have h1 := hsim.slot _ _ hc
  unfold yielded
  simp only [List.getElem?_toArray, hs, Option.bind_some]
  have h2 : a.tmps[s]? = some (.bool c) := by
    rw [Array.getD_eq_getD_getElem?] at h1
    cases h3 : a.tmps[s]? with
    | none => rw [h3] at h1; simp [undef] at h1
    | some u => rw [h3] at h1; simp only [Option.getD_some] at h1; rw [h1]
  rw [h2]
theorem yielded_undef {l : List Oper} {a : Act} {ρ : Env} (hsim : Sim N a ρ) {j s : Nat} (hs : (l[j]?).bind (·.dst) = some s) {u : Array Value} (hc : lk ρ s = some (.tuple u)) : yielded l.toArray a.tmps j = none := by
  have h1 := hsim.slot _ _ hc
  unfold yielded
  simp only [List.getElem?_toArray, hs, Option.bind_some]
  rw [Array.getD_eq_getD_getElem?] at h1
  cases h3 : a.tmps[s]? with
  | none => rfl
  | some u => rw [h3] at h1; simp only [Option.getD_some] at h1; rw [h1]

theorem bool_ne {c b : Bool} (h : ¬ c = b) : c = !b := by revert h; cases c <;> cases b <;> simp

theorem DL_sound {l : List Oper} (hall : l.all (fun o => okDst N o.dst) = true) (hns : Region.noSelect l.toArray = true) : ∀ (sched : List (Bool × Nat)) (ins : List (Bool × Ins)) (L : List Nat) (ρ : Env) (w : World) (Q : Post) (a : Act) (listed : Array Bool),
    schedIns l sched = some ins → schedOk l.toArray sched listed = true → Sim N a ρ → DL P ins L ρ w Q → wpAny P .any l.toArray (drawQ N L Q) sched.length listed a w
  | [], ins, L, ρ, w, Q, a, listed, hi, hok, hs, h => by
    simp only [schedIns, Option.some.injEq] at hi; subst hi
    simp only [schedOk, List.isEmpty_iff] at hok
    exact ⟨hok, ρ, hs, rfl, h⟩
  | (p, i) :: r, ins, L, ρ, w, Q, a, listed, hi, hok, hs, h => by
    simp only [schedIns] at hi
    split at hi
    · cases hi
    rename_i o ho
    split at hi
    case h_2 => cases hi
    rename_i g q hg hq
    simp only [Option.some.injEq] at hi; subst hi
    have ho' : l.toArray[i]? = some o := by simpa using ho
    have hd : okDst N o.dst = true := List.all_eq_true.1 hall o (List.mem_of_getElem? ho)
    -- how an operation is met, once what it is to give is known
    have take : ∀ (ρ' : Env), Sim N a ρ' → (Region.wanted o (yielded l.toArray a.tmps) = true) →
        (if p then pureW P o.op o.type ρ' w (fun v w' => DL P q L (put ρ' o.dst v) w' Q) else noY ρ' o.op ∧ opW P o.op o.type ρ' w (fun v w' => DL P q L (put ρ' o.dst v) w' Q)) →
        wpAny P .any l.toArray (drawQ N L Q) (r.length + 1) listed a w := by
      intro ρ' hs' hw h
      cases p with
      | true =>
        simp only [schedOk, Bool.and_eq_true] at hok
        simp only [if_true] at h
        obtain ⟨v, hv, hk⟩ := pureW_runs h
        refine wpAny_take ho' hns hok.1.2 hok.1.1 (fun c a w hh => ?_) (.inl ⟨hw, fun w' => ?_⟩) (DL_sound hall hns r q L _ w Q _ _ hq hok.2 (hs'.put hd v) hk)
        · obtain ⟨_, _, hn, _⟩ := hh; cases hn
        · rw [execOp_raw]; exact hv a.eval hs'.eval w'
      | false =>
        simp only [schedOk, Bool.and_eq_true, beq_iff_eq] at hok
        simp only [Bool.false_eq_true, if_false] at h
        refine wpAny_all hok.1 (by simp) fun j hj => ?_
        simp only [List.mem_singleton] at hj; subst hj
        exact wpOp_done ho' hw (opW_done h.2 h.1 a.eval hs'.eval) fun v w' hk => DL_sound hall hns r q L _ w' Q _ _ hq hok.2 (hs'.put hd v) hk
    have skip : ∀ (ρ' : Env), Sim N a ρ' → (Region.wanted o (yielded l.toArray a.tmps) = false) → DL P q L (put ρ' o.dst undef) w Q → wpAny P .any l.toArray (drawQ N L Q) (r.length + 1) listed a w := by
      intro ρ' hs' hw h2
      cases p with
      | true =>
        simp only [schedOk, Bool.and_eq_true] at hok
        refine wpAny_take ho' hns hok.1.2 hok.1.1 (fun c a w hh => ?_) (.inr ⟨hw, rfl⟩) (DL_sound hall hns r q L _ w Q _ _ hq hok.2 (hs'.put hd undef) h2)
        obtain ⟨_, _, hn, _⟩ := hh; cases hn
      | false =>
        simp only [schedOk, Bool.and_eq_true, beq_iff_eq] at hok
        refine wpAny_all hok.1 (by simp) fun j hj => ?_
        simp only [List.mem_singleton] at hj; subst hj
        exact wpOp_skip ho' hw (DL_sound hall hns r q L _ w Q _ _ hq hok.2 (hs'.put hd undef) h2)
    cases hgo : o.guard with
    | none =>
      rw [hgo] at hg
      simp only [stripG, Option.some.injEq] at hg; subst hg
      simp only [DL] at h
      exact take ρ hs (by simp only [Region.wanted, hgo]) h
    | some jb =>
      obtain ⟨j, b⟩ := jb
      rw [hgo] at hg
      simp only [stripG] at hg
      split at hg
      case h_2 => cases hg
      rename_i s hs0
      simp only [Option.some.injEq] at hg; subst hg
      simp only [DL] at h
      split at h
      · rename_i c hc
        have hy := yielded_of hs hs0 hc
        by_cases hcb : c = b
        · subst hcb
          exact take _ (hs.know hc) (by simp only [Region.wanted, hgo, hy, beq_self_eq_true]) (h.1 rfl)
        · have hcb' : c = !b := bool_ne hcb
          have hc' : lk ρ s = some (.bool !b) := by rw [← hcb']; exact hc
          exact skip _ (hs.know hc') (by simp only [Region.wanted, hgo, hy]; simpa using hcb) (h.2 hcb')
      · rename_i u hc
        exact skip ρ hs (by simp only [Region.wanted, hgo, yielded_undef hs hs0 hc]; rfl) h
      · exact h.elim

theorem ops_of_any {l : List Oper} {Q : Exit → Act → World → Prop} {a : Act} {w : World} (hm : P.follows .mixedOrders = true) (h : wpAny P .any l.toArray Q l.toArray.size (Array.replicate l.toArray.size false) a w) :
    ∀ t, wpOps P l.toArray Q (Region.schedule (P.follows .mixedOrders) l.toArray t) a w := fun t => by
  simp only [Region.schedule, hm, Bool.true_or, if_true]
  exact wpAny_sound _ t _ a _ h
/-- A statement that leaves its order open, by an order of ours. -/
theorem drawW_by {l : List Oper} {L : List Nat} {ρ : Env} {w : World} {Q : Post} (sched : List (Bool × Nat)) (ins : List (Bool × Ins)) (hm : P.follows .mixedOrders = true)
    (hi : schedIns l sched = some ins) (hok : (Region.noSelect l.toArray && (sched.length == l.length) && schedOk l.toArray sched (Array.replicate l.length false)) = true) (h : DL P ins L ρ w.drew Q) : drawW P l L ρ w Q := by
  intro N a hall hs
  simp only [Bool.and_eq_true, beq_iff_eq] at hok
  refine ops_of_any hm ?_
  have := DL_sound hall hok.1.1 sched ins L ρ w.drew Q a (Array.replicate l.length false) hi hok.2 hs h
  rw [hok.1.2] at this
  have e : l.toArray.size = l.length := by simp
  rw [e]
  exact this

/-! ### A statement whose operations only compute and read. -/
def isLoad : Op → Bool
  | .load _ _ => true
  | _ => false

theorem load_runs {op : Op} {ty : TypeId} {ρ : Env} {w : World} {K : Value → World → Prop} (hl : isLoad op = true) (h : opW P op ty ρ w K) :
    ∃ v, (∀ a : Operand → Value, (∀ x v, ev ρ x = some v → a x = v) → (execOp a (rawOp op ty)).run P w = .ok (.value v) w) ∧ K v w := by
  unfold isLoad at hl
  split at hl
  · obtain ⟨p, hp, h⟩ := ptrW_out h
    obtain ⟨v, hr, hk⟩ := loadW_out h
    refine ⟨v, fun a ha => ?_, hk⟩
    simp only [execOp, rawOp, ha _ _ hp]
    exact run_val (by simp only [Instr.loadAt, Instr.sureAddr, Sem.run_bind, Sem.run_pure, Result.andThen, hr])
  · cases hl

/-- The operations in the text's order: those that do not only compute read. -/
def stillIns (l : List Oper) : List (Bool × Oper) → Option (List (Bool × Ins))
  | [] => some []
  | (p, o) :: r => match stripG l o.guard, stillIns l r with
    | some g, some q => if p || isLoad o.op then some ((p, ⟨o.dst, o.op, o.type, g⟩) :: q) else none
    | _, _ => none

theorem still_sound {l : List Oper} (hall : l.all (fun o => okDst N o.dst) = true) {w : World} {L : List Nat} {Q : Post} : ∀ (os : List (Bool × Oper)) (ins : List (Bool × Ins)) (ρ : Env) (a : Act),
    stillIns l os = some ins → (∀ x ∈ os, okDst N x.2.dst = true) → Sim N a ρ → DL P ins L ρ w Q → wpQuiet P l.toArray (fun w' => w' = w) (fun a' => ∀ w', w' = w → drawQ N L Q .normal a' w') (os.map (·.2)) a
  | [], ins, ρ, a, hi, _, hs, h => by
    simp only [stillIns, Option.some.injEq] at hi; subst hi
    intro w' hw; subst hw
    exact ⟨ρ, hs, rfl, h⟩
  | (p, o) :: r, ins, ρ, a, hi, hd0, hs, h => by
    simp only [stillIns] at hi
    split at hi
    case h_2 => cases hi
    rename_i g q hg hq
    split at hi
    case isFalse => cases hi
    rename_i hp
    simp only [Option.some.injEq] at hi; subst hi
    have hd : okDst N o.dst = true := hd0 (p, o) (by simp)
    have hd' : ∀ x ∈ r, okDst N x.2.dst = true := fun x hx => hd0 x (by simp [hx])
    have take : ∀ (ρ' : Env), Sim N a ρ' → (Region.wanted o (yielded l.toArray a.tmps) = true) →
        (if p then pureW P o.op o.type ρ' w (fun v w' => DL P q L (put ρ' o.dst v) w' Q) else noY ρ' o.op ∧ opW P o.op o.type ρ' w (fun v w' => DL P q L (put ρ' o.dst v) w' Q)) →
        wpQuiet P l.toArray (fun w' => w' = w) (fun a' => ∀ w', w' = w → drawQ N L Q .normal a' w') (o :: r.map (·.2)) a := by
      intro ρ' hs' hw h
      unfold wpQuiet
      simp only [hw, if_true]
      have key : ∀ v, (∀ a : Operand → Value, (∀ x v, ev ρ' x = some v → a x = v) → (execOp a (rawOp o.op o.type)).run P w = .ok (.value v) w) → DL P q L (put ρ' o.dst v) w Q →
          o.quiet P a (fun w' => w' = w) (wpQuiet P l.toArray (fun w' => w' = w) (fun a' => ∀ w', w' = w → drawQ N L Q .normal a' w') (r.map (·.2))) := by
        intro v hv hk
        refine ⟨v, fun w' hw' => ?_, still_sound hall r q _ _ hq hd' (hs'.put hd v) hk⟩
        subst hw'
        unfold Oper.quietAt
        rw [execOp_raw, hv a.eval hs'.eval]
        exact ⟨rfl, rfl⟩
      cases p with
      | true =>
        simp only [if_true] at h
        obtain ⟨v, hv, hk⟩ := pureW_runs h
        exact key v (fun a ha => hv a ha w) hk
      | false =>
        simp only [Bool.false_eq_true, if_false] at h
        obtain ⟨v, hv, hk⟩ := load_runs (by simpa using hp) h.2
        exact key v hv hk
    have skip : ∀ (ρ' : Env), Sim N a ρ' → (Region.wanted o (yielded l.toArray a.tmps) = false) → DL P q L (put ρ' o.dst undef) w Q →
        wpQuiet P l.toArray (fun w' => w' = w) (fun a' => ∀ w', w' = w → drawQ N L Q .normal a' w') (o :: r.map (·.2)) a := by
      intro ρ' hs' hw h2
      unfold wpQuiet
      simp only [hw, Bool.false_eq_true, if_false]
      exact still_sound hall r q _ _ hq hd' (hs'.put hd undef) h2
    simp only [List.map_cons]
    cases hgo : o.guard with
    | none =>
      rw [hgo] at hg
      simp only [stripG, Option.some.injEq] at hg; subst hg
      simp only [DL] at h
      exact take ρ hs (by simp only [Region.wanted, hgo]) h
    | some jb =>
      obtain ⟨j, b⟩ := jb
      rw [hgo] at hg
      simp only [stripG] at hg
      split at hg
      case h_2 => cases hg
      rename_i s hs0
      simp only [Option.some.injEq] at hg; subst hg
      simp only [DL] at h
      split at h
      · rename_i c hc
        have hy := yielded_of hs hs0 hc
        by_cases hcb : c = b
        · subst hcb
          exact take _ (hs.know hc) (by simp only [Region.wanted, hgo, hy, beq_self_eq_true]) (h.1 rfl)
        · have hcb' : c = !b := bool_ne hcb
          have hc' : lk ρ s = some (.bool !b) := by rw [← hcb']; exact hc
          exact skip _ (hs.know hc') (by simp only [Region.wanted, hgo, hy]; simpa using hcb) (h.2 hcb')
      · rename_i u hc
        exact skip ρ hs (by simp only [Region.wanted, hgo, yielded_undef hs hs0 hc]; rfl) h
      · exact h.elim

/-- A statement whose operations only compute and read, in the text's order. -/
theorem drawW_still {l : List Oper} {L : List Nat} {ρ : Env} {w : World} {Q : Post} (ps : List Bool) (ins : List (Bool × Ins)) (hm : P.follows .mixedOrders = true)
    (hi : stillIns l (ps.zip l) = some ins) (hok : (Region.lexB .any l.toArray && (ps.length == l.length)) = true) (h : DL P ins L ρ w.drew Q) : drawW P l L ρ w Q := by
  intro N a hall hs
  simp only [Bool.and_eq_true, beq_iff_eq] at hok
  have hmap : (ps.zip l).map (·.2) = l := List.map_snd_zip (by omega)
  have := still_sound (w := w.drew) (L := L) (Q := Q) hall (ps.zip l) ins ρ a hi (fun x hx => List.all_eq_true.1 hall _ (List.of_mem_zip hx).2) hs h
  rw [hmap] at this
  have hB := hok.1
  simp only [Region.lexB, Bool.and_eq_true] at hB
  refine ops_of_any hm (wpAny_of_quiet (C := fun w' => w' = w.drew) (Q := fun a' => ∀ w', w' = w.drew → drawQ N L Q .normal a' w') (fun _ w' hw' h => h w' hw') _ _ _ _ rfl ?_)
  have := wpAnyQ_lex (C := fun w' => w' = w.drew) (md := .any) hB.1 l 0 (Array.replicate l.toArray.size false) a (by simp) (by simpa using hB.2) (by simpa using this)
  simpa using this
end
section
variable {P : Program} {w : World} {K : Value → World → Prop} {ρ : Env} {Q : Post} {r : List (Bool × Ins)} {L : List Nat} {d : Option Nat} {ty : TypeId}
def Dn (P : Program) (r : List (Bool × Ins)) (L : List Nat) (ρ : Env) (d : Option Nat) (Q : Post) : Value → World → Prop := fun v w => DL P r L (put ρ d v) w Q
def opD (P : Program) (p : Bool) (op : Op) (ty : TypeId) (ρ : Env) (w : World) (K : Value → World → Prop) : Prop := if p then pureW P op ty ρ w K else noY ρ op ∧ opW P op ty ρ w K
def dD (P : Program) (o : Option Value) (s : Nat) (b p : Bool) (d : Option Nat) (op : Op) (ty : TypeId) (r : List (Bool × Ins)) (L : List Nat) (ρ : Env) (w : World) (Q : Post) : Prop :=
  match o with
  | some (.bool c) => (c = b → opD P p op ty ((s, .bool b) :: ρ) w (Dn P r L ((s, .bool b) :: ρ) d Q)) ∧ (c = !b → DL P r L (put ((s, .bool !b) :: ρ) d undef) w Q)
  | some (.tuple _) => DL P r L (put ρ d undef) w Q
  | _ => False
theorem DL_nil : DL P [] L ρ w Q = Q .normal (restr L ρ) w := (rfl)
theorem DL_cons {p : Bool} {op : Op} : DL P ((p, ⟨d, op, ty, none⟩) :: r) L ρ w Q = opD P p op ty ρ w (Dn P r L ρ d Q) := (rfl)
theorem DL_guard {p : Bool} {op : Op} {s : Nat} {b : Bool} : DL P ((p, ⟨d, op, ty, some (s, b)⟩) :: r) L ρ w Q = dD P (lk ρ s) s b p d op ty r L ρ w Q := by
  simp only [DL, dD]; rfl
theorem Dn_app {v : Value} : Dn P r L ρ d Q v w = DL P r L (put ρ d v) w Q := (rfl)
theorem opD_t {op : Op} : opD P true op ty ρ w K = pureW P op ty ρ w K := (rfl)
theorem opD_f {op : Op} : opD P false op ty ρ w K = (noY ρ op ∧ opW P op ty ρ w K) := by simp [opD]
section
variable {x y z : Operand} {t u : TypeId} {o1 o2 o3 : Option Operand} {n : Nat} {b : Bool}
theorem noYV_func {f : FuncId} {a c : Array Value} : noYV (some (.func (.func f) a c)) = True := rfl
theorem noY_call {xs : Array Operand} {ts : Array TypeId} : noY ρ (.call ⟨.value x, xs, ts⟩) = noYV (ev ρ x) := rfl
theorem noY_bcall {f : Builtin} {xs : Array Operand} {ts : Array TypeId} : noY ρ (.call ⟨.builtin f, xs, ts⟩) = True := rfl
theorem noY_load : noY ρ (.load t x) = True := rfl
theorem noY_store : noY ρ (.store t x y) = True := rfl
theorem noY_alloc : noY ρ (.alloc t) = True := rfl
theorem noY_box : noY ρ (.box t x) = True := rfl
theorem noY_convert : noY ρ (.convert t u x) = True := rfl
theorem noY_build {ps : Array (Nat × Operand)} : noY ρ (.build t ps) = True := rfl
theorem noY_buildSlice {ps : Array (Nat × Operand)} : noY ρ (.buildSlice t n ps) = True := rfl
theorem noY_makeSlice : noY ρ (.makeSlice t x y) = True := rfl
theorem noY_makeMap : noY ρ (.makeMap t o1) = True := rfl
theorem noY_lookup : noY ρ (.lookup t x y b) = True := rfl
theorem noY_mapUpdate : noY ρ (.mapUpdate t x y z) = True := rfl
theorem noY_insert : noY ρ (.insert t x y z) = True := rfl
theorem noY_range : noY ρ (.range t x) = True := rfl
theorem noY_next : noY ρ (.next x b) = True := rfl
theorem noY_entry : noY ρ (.entry x) = True := rfl
theorem noY_typeAssert : noY ρ (.typeAssert x t u b) = True := rfl
theorem noY_move : noY ρ (.move x) = True := rfl
theorem noY_assign : noY ρ (.assign x) = True := rfl
theorem noY_slice : noY ρ (.slice t x o1 o2 o3) = True := rfl
theorem noY_binOp {o : BinOp} : noY ρ (.binOp o t x y u) = True := rfl
theorem noY_unOp {o : UnOp} : noY ρ (.unOp o t x) = True := rfl
theorem noY_index : noY ρ (.index t x y) = True := rfl
theorem noY_field : noY ρ (.field t x n) = True := rfl
theorem noY_fieldAddr : noY ρ (.fieldAddr t x n) = True := rfl
theorem noY_indexAddr : noY ρ (.indexAddr t x y) = True := rfl
theorem noY_extract : noY ρ (.extract x n) = True := rfl
theorem noY_iface : noY ρ (.makeInterface t x) = True := rfl
theorem noY_nilCheck : noY ρ (.nilCheck x) = True := rfl
theorem noY_pick : noY ρ (.pick x y z) = True := rfl
theorem noY_makeFunc {f : Fn} {a c : Array Operand} : noY ρ (.makeFunc f a c) = True := rfl
end
section
variable {op : Op} {s : Nat} {b c p : Bool}
theorem dD_t : dD P (some (.bool true)) s true p d op ty r L ρ w Q = opD P p op ty ((s, .bool true) :: ρ) w (Dn P r L ((s, .bool true) :: ρ) d Q) := by simp [dD]
theorem dD_f : dD P (some (.bool false)) s false p d op ty r L ρ w Q = opD P p op ty ((s, .bool false) :: ρ) w (Dn P r L ((s, .bool false) :: ρ) d Q) := by simp [dD]
theorem dD_tf : dD P (some (.bool true)) s false p d op ty r L ρ w Q = DL P r L (put ((s, .bool true) :: ρ) d undef) w Q := by simp [dD]
theorem dD_ft : dD P (some (.bool false)) s true p d op ty r L ρ w Q = DL P r L (put ((s, .bool false) :: ρ) d undef) w Q := by simp [dD]
theorem dD_gen : dD P (some (.bool c)) s b p d op ty r L ρ w Q = ((c = b → opD P p op ty ((s, .bool b) :: ρ) w (Dn P r L ((s, .bool b) :: ρ) d Q)) ∧ (c = !b → DL P r L (put ((s, .bool !b) :: ρ) d undef) w Q)) := (rfl)
theorem dD_undef : dD P (some undef) s b p d op ty r L ρ w Q = DL P r L (put ρ d undef) w Q := (rfl)
end
theorem lsPV_some {f : List Value → PV} {xs : List Value} : lsPV f (some xs) = f xs := rfl
theorem biV_lens {t : TypeId} {s : ByteArray} : biV P .len [t] [.string s] = if isStrT P t then some (True, .int .i64 ((toL s).length : Int)) else none := rfl
theorem biV_lensl {t : TypeId} {a : Option Addr} {n c : Nat} : biV P .len [t] [.slice a n c] = if isSliceT P t then some (True, .int .i64 (n : Int)) else none := rfl
theorem biV_min2 {ats : List TypeId} {k k' : IntKind} {x y : Int} : biV P .min ats [.int k x, .int k' y] = some (True, .int k (min x y)) := rfl
theorem biV_max2 {ats : List TypeId} {k k' : IntKind} {x y : Int} : biV P .max ats [.int k x, .int k' y] = some (True, .int k (max x y)) := rfl
theorem pureW_move {x : Operand} : pureW P (.move x) ty ρ w K = mvW (ev ρ x) w K := (rfl)
theorem pureW_assign {x : Operand} : pureW P (.assign x) ty ρ w K = mvW (ev ρ x) w K := (rfl)
theorem pureW_pick {c a b : Operand} : pureW P (.pick c a b) ty ρ w K = mvW (pickV (ev ρ c) (ev ρ a) (ev ρ b)) w K := (rfl)
theorem pureW_bin {op : BinOp} {t t' : TypeId} {x y : Operand} : pureW P (.binOp op t x y t') ty ρ w K = pvW (bin2 (binV P op t) (ev ρ x) (ev ρ y)) w K := (rfl)
theorem pureW_un {op : UnOp} {t : TypeId} {x : Operand} : pureW P (.unOp op t x) ty ρ w K = pvW (un1 (unV op) (ev ρ x)) w K := (rfl)
theorem pureW_index {t : TypeId} {x i : Operand} : pureW P (.index t x i) ty ρ w K = pvW (bin2 (indexV P t) (ev ρ x) (ev ρ i)) w K := (rfl)
theorem pureW_slice {t : TypeId} {x : Operand} {lo hi : Option Operand} : pureW P (.slice t x lo hi none) ty ρ w K = pvW (sliceV P t (ev ρ x) (evo ρ lo) (evo ρ hi)) w K := (rfl)
theorem pureW_field {t : TypeId} {x : Operand} {f : Nat} : pureW P (.field t x f) ty ρ w K = pvW (un1 (fieldV P t f) (ev ρ x)) w K := (rfl)
theorem pureW_fieldAddr {t : TypeId} {x : Operand} {f : Nat} : pureW P (.fieldAddr t x f) ty ρ w K = pvW (un1 (fieldAddrV P t f) (ev ρ x)) w K := (rfl)
theorem pureW_indexAddr {t : TypeId} {x i : Operand} : pureW P (.indexAddr t x i) ty ρ w K = pvW (bin2 (indexAddrV P t) (ev ρ x) (ev ρ i)) w K := (rfl)
theorem pureW_extract {x : Operand} {k : Nat} : pureW P (.extract x k) ty ρ w K = pvW (un1 (extractV k) (ev ρ x)) w K := (rfl)
theorem pureW_iface {t : TypeId} {x : Operand} : pureW P (.makeInterface t x) ty ρ w K = pvW (un1 (ifaceV P t) (ev ρ x)) w K := (rfl)
theorem pureW_nilCheck {x : Operand} : pureW P (.nilCheck x) ty ρ w K = pvW (un1 nilCheckV (ev ρ x)) w K := (rfl)
theorem pureW_convert {s d : TypeId} {x : Operand} : pureW P (.convert s d x) ty ρ w K = cvI P s d (ev ρ x) w K := (rfl)
theorem cvI_some {s d : TypeId} {x : Value} : cvI P s d (some x) w K = convIk (tyK P s) (tyK P d) x w K := (rfl)
theorem convIk_int {k k' k'' : IntKind} {n : Int} : convIk (.int k) (.int k') (.int k'' n) w K = convK (.int k) (.int k') (.int k'' n) w K := (rfl)
theorem pureW_makeFunc {fn : Fn} {first cap : Array Operand} : pureW P (.makeFunc fn first cap) ty ρ w K = mfD fn (evs ρ first.toList) (evs ρ cap.toList) w K := (rfl)
theorem pureW_len {args : Array Operand} {ats : Array TypeId} : pureW P (.call ⟨.builtin .len, args, ats⟩) ty ρ w K = pvW (lsPV (biV P .len ats.toList) (evs ρ args.toList)) w K := (rfl)
theorem pureW_min {args : Array Operand} {ats : Array TypeId} : pureW P (.call ⟨.builtin .min, args, ats⟩) ty ρ w K = pvW (lsPV (biV P .min ats.toList) (evs ρ args.toList)) w K := (rfl)
theorem pureW_max {args : Array Operand} {ats : Array TypeId} : pureW P (.call ⟨.builtin .max, args, ats⟩) ty ρ w K = pvW (lsPV (biV P .max ats.toList) (evs ρ args.toList)) w K := (rfl)
end
attribute [go_sem low] dD_gen
attribute [go_sem] pureW_convert cvI_some convIk_int noYV_func noY_call noY_bcall noY_load noY_store noY_alloc noY_box noY_convert noY_build noY_buildSlice noY_makeSlice noY_makeMap noY_lookup noY_mapUpdate noY_insert noY_range noY_next noY_entry noY_typeAssert noY_move noY_assign noY_slice noY_binOp noY_unOp noY_index noY_field noY_fieldAddr noY_indexAddr noY_extract noY_iface noY_nilCheck noY_pick noY_makeFunc true_and
attribute [go_sem] DL_nil DL_cons DL_guard Dn_app opD_t opD_f dD_t dD_f dD_tf dD_ft dD_undef lsPV_some biV_lens biV_lensl biV_min2 biV_max2 pureW_move pureW_assign pureW_pick pureW_bin pureW_un pureW_index pureW_slice pureW_field pureW_fieldAddr pureW_indexAddr pureW_extract pureW_iface pureW_nilCheck pureW_makeFunc pureW_len pureW_min pureW_max
end Go.Ann
namespace Go.Ann
set_option linter.unusedVariables false
set_option linter.unusedSimpArgs false
open Go Go.RowKit

/-- Of a slice's type: its elements' type, how many cells and bytes each has, its zero. -/
def mkI (P : Program) (t : TypeId) : Option (Nat × Nat × Nat × Value) :=
  match P.underlying t with
  | some (.slice e) => match P.info? e with
    | some i => match i.zero with
      | some z => some (e, i.size, i.bytes, z)
      | none => none
    | none => none
  | _ => none
theorem mkI_some {P : Program} {t e size bytes : Nat} {z : Value} (h : mkI P t = some (e, size, bytes, z)) :
    ∃ i, P.underlying t = some (.slice e) ∧ P.info? e = some i ∧ i.zero = some z ∧ size = i.size ∧ bytes = i.bytes := by
  unfold mkI at h
  split at h
  · rename_i e' hu
    split at h
    · rename_i i hi
      split at h
      · rename_i z' hz
        simp only [Option.some.injEq, Prod.mk.injEq] at h
        obtain ⟨rfl, rfl, rfl, rfl⟩ := h
        exact ⟨i, hu, hi, hz, rfl, rfl⟩
      · cases h
    · cases h
  · cases h

section
variable {P : Program} {w : World} {K : Value → World → Prop} {t : TypeId}

/-- The cells of n zeros. -/
def zerosA (z : Value) (n : Nat) : Array Value := Array.replicate n z
theorem madeCells_one {z : Value} (hz : z.oneCell' = true) (n : Nat) : madeCells z.cells n = zerosA z n := by
  have hc : z.cells = #[z] := by cases z <;> simp_all [Value.cells, Value.oneCell']
  rw [hc]
  unfold madeCells zerosA
  apply Array.ext
  · simp
  · intro j h1 h2
    simp [Nat.mod_one]

theorem msW_make {e size bytes : Nat} {z : Value} {k k' : IntKind} {n c : Int} (hm : mkI P t = some (e, size, bytes, z))
    (h0 : 0 ≤ n) (h1 : n ≤ c) (h2 : bytes * c ≤ 281474976710656) (h3 : c ≤ 9223372036854775807)
    (hK : K (.slice (some ⟨w.heap.size, 0, none⟩) n.toNat c.toNat) (w.alloc (.cells (madeCells z.cells (c.toNat * size)) e))) :
    msW P t (.int k n) (.int k' c) w K := by
  obtain ⟨i, hu, hi, hzz, rfl, rfl⟩ := mkI_some hm
  exact ⟨_, _, run_make w t e i z hu hi hzz k k' n c h0 h1 h2 h3, hK⟩

theorem msW_one {e bytes : Nat} {z : Value} {k k' : IntKind} {n c : Int} (hm : mkI P t = some (e, 1, bytes, z)) (hz : z.oneCell' = true)
    (h0 : 0 ≤ n) (h1 : n ≤ c) (h2 : bytes * c ≤ 281474976710656) (h3 : c ≤ 9223372036854775807)
    (hK : K (.slice (some ⟨w.heap.size, 0, none⟩) n.toNat c.toNat) (w.alloc (.cells (zerosA z c.toNat) e))) :
    msW P t (.int k n) (.int k' c) w K := by
  refine msW_make hm h0 h1 h2 h3 ?_
  rw [Nat.mul_one, madeCells_one hz]
  exact hK

theorem bsW_cells {e size bytes : Nat} {z : Value} {len : Nat} {is : List Nat} {vs : List Value} {cells : Array Value} (hm : mkI P t = some (e, size, bytes, z))
    (h0 : len * size ≤ 16777216) (h1 : len * size ≠ 0) (hf : Instr.fill (fun i => some (i * size, size)) (madeCells z.cells (len * size)) (zipP is vs) = some cells)
    (hK : K (.slice (some ⟨w.heap.size, 0, none⟩) len len) (w.alloc (.cells cells e))) :
    bsW P t len is vs w K := by
  obtain ⟨i, hu, hi, hzz, rfl, rfl⟩ := mkI_some hm
  refine ⟨_, _, ?_, hK⟩
  have e1 : ¬ (len * i.size > 2 ^ 24) := by omega
  unfold madeCells at hf
  simp only [Instr.buildSlice, Sem.run_bind, run_underlying hu, Result.andThen, run_sizeOf w hi, e1, if_false, h1, zeroValue, typeInfo, run_program, hi, hzz, Sem.run_pure, hf, newRow, run_newObj_alloc]

def setFrom : Array Value → Nat → List Value → Array Value
  | cs, _, [] => cs
  | cs, k, v :: vs => setFrom (cs.setIfInBounds k v) (k + 1) vs
theorem size_setFrom : ∀ (vs : List Value) (k : Nat) (cs : Array Value), (setFrom cs k vs).size = cs.size
  | [], _, _ => rfl
  | v :: vs, k, cs => by rw [setFrom, size_setFrom]; simp
theorem get_setFrom : ∀ (vs : List Value) (k : Nat) (cs : Array Value) (j : Nat), j < cs.size → (setFrom cs k vs)[j]? = if k ≤ j ∧ j < k + vs.length then vs[j - k]? else cs[j]?
  | [], k, cs, j, _ => by simp [setFrom]; intro h1 h2; omega
  | v :: vs, k, cs, j, hj => by
    rw [setFrom, get_setFrom vs (k + 1) _ j (by simpa using hj)]
    by_cases h1 : k + 1 ≤ j ∧ j < k + 1 + vs.length
    · rw [if_pos h1, if_pos ⟨by omega, by simp; omega⟩, show j - k = (j - (k + 1)) + 1 by omega]; simp
    · rw [if_neg h1, Array.getElem?_setIfInBounds]
      by_cases h2 : k = j
      · subst h2; simp [hj]
      · rw [if_neg h2, if_neg]
        simp only [List.length_cons]; omega
theorem fill_ones : ∀ (vs : List Value) (k : Nat) (cs : Array Value), (∀ v ∈ vs, v.oneCell' = true) → k + vs.length ≤ cs.size →
    Instr.fill (fun i => some (i * 1, 1)) cs (zipP (List.range' k vs.length) vs) = some (setFrom cs k vs)
  | [], k, cs, _, _ => rfl
  | v :: vs, k, cs, h1, h2 => by
    have hv := h1 v (by simp)
    have hc : v.cells = #[v] := by cases v <;> simp_all [Value.cells, Value.oneCell']
    simp only [List.length_cons] at h2
    simp only [List.length_cons, List.range'_succ, zipP, Instr.fill, hc, List.size_toArray, List.length_cons, List.length_nil]
    rw [if_neg (by simp; omega)]
    have := fill_ones vs (k + 1) (cs.setIfInBounds k v) (fun u hu => h1 u (by simp [hu])) (by simp; omega)
    simpa [setFrom] using this
theorem setFrom_all (vs : List Value) (cs : Array Value) (h : cs.size = vs.length) : setFrom cs 0 vs = vs.toArray := by
  apply Array.ext_getElem?
  intro j
  by_cases hj : j < cs.size
  · rw [get_setFrom vs 0 cs j hj, if_pos ⟨by omega, by omega⟩]; simp
  · rw [Array.getElem?_eq_none (by rw [size_setFrom]; omega), Array.getElem?_eq_none (by simp; omega)]

/-- A slice of values of one cell each, written out. -/
theorem bsW_ones {e bytes : Nat} {z : Value} {len : Nat} {is : List Nat} {vs : List Value} (hm : mkI P t = some (e, 1, bytes, z)) (hi : is = List.range' 0 vs.length) (hl : vs.length = len)
    (h0 : len ≤ 16777216) (h1 : len ≠ 0) (hv : ∀ v ∈ vs, v.oneCell' = true)
    (hK : K (.slice (some ⟨w.heap.size, 0, none⟩) len len) (w.alloc (.cells vs.toArray e))) : bsW P t len is vs w K := by
  subst hi
  refine bsW_cells hm (by omega) (by omega) ?_ hK
  have hsz : (madeCells z.cells (len * 1)).size = len := by simp [size_madeCells]
  rw [fill_ones vs 0 _ hv (by omega), setFrom_all _ _ (by omega)]
end
theorem zipP_nil : zipP [] [] = [] := rfl
theorem zipP_cons {i : Nat} {l : List Nat} {v : Value} {vs : List Value} : zipP (i :: l) (v :: vs) = (i, v) :: zipP l vs := rfl
attribute [go_sem] zipP_nil zipP_cons
end Go.Ann
namespace Go.Ann
set_option linter.unusedVariables false
set_option linter.unusedSimpArgs false
theorem I64_of_wf {n : Int} (h : (Lit.int .i64 n).wf = true) : I64 n := by
  simp [Lit.wf, IntKind.min, IntKind.max, IntKind.signed, IntKind.bits] at h
  exact ⟨by omega, by omega⟩
theorem len_of_max {s : ByteArray} (h : s.size ≤ maxLen) : ((toL s).length : Int) ≤ 9223372036854775807 := by
  rw [size_toL] at h
  have : maxLen = 9223372036854775807 := by decide
  omega
end Go.Ann
namespace Go.Ann
set_option linter.unusedSimpArgs false
open Go Go.RowKit
set_option linter.unusedVariables false

theorem and_one_u64 (x : Int) (h0 : 0 ≤ x) (h1 : x ≤ 18446744073709551615) : bits .and .u64 x 1 = x % 2 := by
  obtain ⟨a, rfl⟩ := Int.eq_ofNat_of_zero_le h0
  have e : (BitVec.ofInt 64 (a : Int) &&& BitVec.ofInt 64 1).toNat = a % 2 := by
    rw [BitVec.toNat_and]
    have h2 : (BitVec.ofInt 64 (a : Int)).toNat = a := by
      rw [BitVec.ofInt_natCast, BitVec.toNat_ofNat]; exact Nat.mod_eq_of_lt (by omega)
    have h3 : (BitVec.ofInt 64 1).toNat = 1 := by decide
    rw [h2, h3, Nat.and_one_is_mod]
  show IntKind.u64.wrap (((BitVec.ofInt 64 (a : Int) &&& BitVec.ofInt 64 1).toNat : Nat) : Int) = _
  rw [e, wrap_u64_id _ (by omega) (by omega)]
  omega
theorem and_63_i64 (k : Nat) (h1 : (k : Int) ≤ 9223372036854775807) : bits .and .i64 (k : Int) 63 = ((k % 64 : Nat) : Int) := by
  have e : (BitVec.ofInt 64 (k : Int) &&& BitVec.ofInt 64 63).toNat = k % 64 := by
    rw [BitVec.toNat_and]
    have h2 : (BitVec.ofInt 64 (k : Int)).toNat = k := by
      rw [BitVec.ofInt_natCast, BitVec.toNat_ofNat]; exact Nat.mod_eq_of_lt (by omega)
    have h3 : (BitVec.ofInt 64 63).toNat = 2 ^ 6 - 1 := by decide
    rw [h2, h3, Nat.and_two_pow_sub_one_eq_mod]
  show IntKind.i64.wrap (((BitVec.ofInt 64 (k : Int) &&& BitVec.ofInt 64 63).toNat : Nat) : Int) = _
  rw [e]
  have hm := Nat.mod_lt k (show 64 > 0 by decide)
  simp only [IntKind.wrap, IntKind.signed, IntKind.bits]
  simp
  omega

/-- A slice that can be read: its elements' cells, one after the other. -/
def Rd (w : World) (size : Nat) (v : Value) (n : Nat) (xs : List Value) : Prop :=
  xs.length = n * size ∧ ∃ a cap, v = .slice a n cap ∧ n ≤ cap ∧ (n ≠ 0 → ∃ ad, a = some ad ∧ ∀ j u, xs[j]? = some u → w.cell? (ad.add j) = some u)

theorem Rd.of_own {w : World} {B e size n : Nat} {v : Value} {xs : List Value} (h : w.ownsRow B e size v n xs) : Rd w size v n xs := by
  refine ⟨h.1, ?_⟩
  rcases h.2 with ⟨rfl, rfl⟩ | ⟨g, cap, cur, rfl, hb, hg, hn, hc, hs, ht⟩
  · exact ⟨none, 0, rfl, Nat.le_refl _, fun h => absurd rfl h⟩
  · exact ⟨some ⟨g, 0, none⟩, cap, rfl, hn, fun _ => ⟨_, rfl, h.cells rfl⟩⟩

theorem Rd.below {w w' : World} {size n : Nat} {v : Value} {xs : List Value} (h : Rd w size v n xs) (hb : Below w.heap.size w w') (hs : 0 < size) : Rd w' size v n xs := by
  obtain ⟨h1, a, cap, rfl, h2, h3⟩ := h
  refine ⟨h1, a, cap, rfl, h2, fun h => ?_⟩
  obtain ⟨ad, rfl, h4⟩ := h3 h
  refine ⟨ad, rfl, fun j u hu => ?_⟩
  have hc := h4 j u hu
  rw [hb.cell (World.block_lt_of_cell? w _ hc), hc]

/-- The first k elements. -/
theorem Rd.take {w : World} {size n k cap : Nat} {a : Option Addr} {xs : List Value} (h : Rd w size (.slice a n cap) n xs) (hk : k ≤ n) : Rd w size (.slice a k cap) k (xs.take (k * size)) := by
  obtain ⟨h1, a', cap', he, h2, h3⟩ := h
  simp only [Value.slice.injEq, true_and] at he
  obtain ⟨rfl, rfl⟩ := he
  refine ⟨?_, a, cap, rfl, by omega, fun h => ?_⟩
  · rw [List.length_take, h1]
    exact Nat.min_eq_left (Nat.mul_le_mul_right _ hk)
  · obtain ⟨ad, rfl, h4⟩ := h3 (by omega)
    refine ⟨ad, rfl, fun j u hu => h4 j u ?_⟩
    rw [List.getElem?_take] at hu
    split at hu
    · exact hu
    · cases hu

theorem Below.of_grown {w w' : World} {B : Nat} {row : Option Nat} (h : w.grownBy w' row) (hB : B ≤ w.heap.size) (hr : ∀ k, row = some k → B ≤ k) : Below B w w' :=
  (Below.refl B w).grown h hB hr

/-- What was there before is as it was, but for the blocks of S. -/
structure Chg (S : Nat → Prop) (w w' : World) : Prop where
  os : w'.os = w.os
  tape : w'.tape = w.tape
  output : w'.output = w.output
  size : w.heap.size ≤ w'.heap.size
  block : ∀ k, k < w.heap.size → ¬ S k → w'.heap[k]? = w.heap[k]?
theorem Chg.refl (S : Nat → Prop) (w : World) : Chg S w w := ⟨rfl, rfl, rfl, Nat.le_refl _, fun _ _ _ => rfl⟩
theorem Chg.trans {S : Nat → Prop} {a b c : World} (h : Chg S a b) (k : Chg S b c) : Chg S a c :=
  ⟨k.os.trans h.os, k.tape.trans h.tape, k.output.trans h.output, Nat.le_trans h.size k.size, fun i hi hs => (k.block i (Nat.lt_of_lt_of_le hi h.size) hs).trans (h.block i hi hs)⟩
/-- What follows may also change what is new. -/
theorem Chg.next {S T : Nat → Prop} {a b c : World} (h : Chg S a b) (k : Chg T b c) (hT : ∀ i, i < a.heap.size → T i → S i) : Chg S a c :=
  ⟨k.os.trans h.os, k.tape.trans h.tape, k.output.trans h.output, Nat.le_trans h.size k.size, fun i hi hs => (k.block i (Nat.lt_of_lt_of_le hi h.size) (fun t => hs (hT i hi t))).trans (h.block i hi hs)⟩
theorem Chg.mono {S T : Nat → Prop} {w w' : World} (h : Chg S w w') (hT : ∀ i, i < w.heap.size → S i → T i) : Chg T w w' :=
  ⟨h.os, h.tape, h.output, h.size, fun i hi ht => h.block i hi fun s => ht (hT i hi s)⟩
theorem Chg.drew {S : Nat → Prop} {a w : World} (h : Chg S a w) : Chg S a w.drew := ⟨h.os, h.tape, h.output, h.size, h.block⟩
theorem Chg.alloc {S : Nat → Prop} {a w : World} (h : Chg S a w) (o : Obj) : Chg S a (w.alloc o) :=
  ⟨h.os, h.tape, h.output, by have := h.size; simp; omega, fun k hk hs => (Below.heap_alloc w o k (Nat.lt_of_lt_of_le hk h.size)).trans (h.block k hk hs)⟩
theorem Chg.setCell {S : Nat → Prop} {a w : World} (h : Chg S a w) (p : Addr) (v : Value) (hp : p.block < a.heap.size → S p.block) : Chg S a (w.setCell p v) :=
  have b := (Below.refl 0 w).setCell (p := p) (Nat.zero_le _) v
  ⟨b.os.trans h.os, b.tape.trans h.tape, b.output.trans h.output, Nat.le_trans h.size b.size, fun k hk hs => (Below.heap_setCell w p v k (by rintro rfl; exact hs (hp hk))).trans (h.block k hk hs)⟩
theorem Chg.grown {S : Nat → Prop} {a w w' : World} {row : Option Nat} (h : Chg S a w) (hg : w.grownBy w' row) (hr : ∀ k, row = some k → k < a.heap.size → S k) : Chg S a w' :=
  ⟨hg.os.trans h.os, hg.tape.trans h.tape, hg.output.trans h.output, Nat.le_trans h.size hg.size,
    fun k hk hs => (hg.block k (Nat.lt_of_lt_of_le hk h.size) (fun e => hs (hr k e.symm hk))).trans (h.block k hk hs)⟩
theorem Chg.below {S : Nat → Prop} {w w' : World} {B : Nat} (h : Chg S w w') (hB : B ≤ w.heap.size) (hS : ∀ k, k < B → ¬ S k) : Below B w w' :=
  ⟨h.os, h.tape, h.output, h.size, fun k hk => h.block k (Nat.lt_of_lt_of_le hk hB) (hS k hk)⟩
theorem Chg.of_below {S : Nat → Prop} {w w' : World} (h : Below w.heap.size w w') : Chg S w w' := ⟨h.os, h.tape, h.output, h.size, fun k hk _ => h.block k hk⟩
theorem Chg.cell {S : Nat → Prop} {w w' : World} (h : Chg S w w') {p : Addr} {v : Value} (hc : w.cell? p = some v) (hp : ¬ S p.block) : w'.cell? p = some v :=
  (World.cell?_of_block (h.block p.block (World.block_lt_of_cell? w p hc) hp)).trans hc
theorem Chg.frozen {S : Nat → Prop} {w w' : World} (h : Chg S w w') {p : Addr} (hl : p.block < w.heap.size) (hp : ¬ S p.block) : w'.frozen? p = w.frozen? p :=
  World.frozen?_of_block (h.block p.block hl hp)
theorem Chg.own {S : Nat → Prop} {w w' : World} (h : Chg S w w') {B e size n : Nat} {v : Value} {xs : List Value} (hv : w.ownsRow B e size v n xs) (hS : ∀ k, v.ownBlock = some k → ¬ S k) : w'.ownsRow B e size v n xs := by
  refine ⟨hv.1, hv.2.imp id ?_⟩
  rintro ⟨g, cap, cur, rfl, h2, h3, h4⟩
  refine ⟨g, cap, cur, rfl, h2, (h.block g ?_ (hS g rfl)).trans h3, h4⟩
  rcases Nat.lt_or_ge g w.heap.size with hlt | hge
  · exact hlt
  · rw [Array.getElem?_eq_none hge] at h3; cases h3
theorem Chg.rd {S : Nat → Prop} {w w' : World} (h : Chg S w w') {size n : Nat} {a : Option Addr} {cap : Nat} {xs : List Value} (hv : Rd w size (.slice a n cap) n xs) (hS : ∀ p, a = some p → ¬ S p.block) : Rd w' size (.slice a n cap) n xs := by
  obtain ⟨h1, a', cap', he, h2, h3⟩ := hv
  simp only [Value.slice.injEq, true_and] at he
  obtain ⟨rfl, rfl⟩ := he
  refine ⟨h1, a, cap, rfl, h2, fun hn => ?_⟩
  obtain ⟨ad, rfl, h4⟩ := h3 hn
  refine ⟨ad, rfl, fun j u hu => h.cell (h4 j u hu) ?_⟩
  rw [show (ad.add j).block = ad.block by unfold Addr.add; split <;> rfl]
  exact hS ad rfl

/-- Nothing was written or made; the order may have been drawn. -/
def Still (w w' : World) : Prop := ∀ B, Below B w w'
theorem Still.refl (w : World) : Still w w := fun B => Below.refl B w
theorem Still.trans {a b c : World} (h : Still a b) (k : Still b c) : Still a c := fun B => (h B).trans (k B)
theorem Still.drew {a w : World} (h : Still a w) : Still a w.drew := fun B => (h B).drew
theorem Still.cell {w w' : World} (h : Still w w') (p : Addr) : w'.cell? p = w.cell? p := (h (p.block + 1)).cell (Nat.lt_succ_self _)
theorem Still.heap {w w' : World} (h : Still w w') (k : Nat) : w'.heap[k]? = w.heap[k]? := (h (k + 1)).block k (Nat.lt_succ_self _)
theorem Still.size {w w' : World} (h : Still w w') : w'.heap.size = w.heap.size := by
  refine Nat.le_antisymm ?_ (h 0).size
  apply Nat.le_of_not_lt
  intro hlt
  have := h.heap w.heap.size
  rw [Array.getElem?_eq_getElem hlt, Array.getElem?_eq_none (Nat.le_refl _)] at this
  cases this
theorem Still.own {w w' : World} (h : Still w w') {B e size n : Nat} {v : Value} {xs : List Value} (hv : w.ownsRow B e size v n xs) : w'.ownsRow B e size v n xs := by
  refine ⟨hv.1, hv.2.imp id ?_⟩
  rintro ⟨g, cap, cur, h1, h2, h3, h4⟩
  exact ⟨g, cap, cur, h1, h2, (h.heap g).trans h3, h4⟩
theorem Still.rd {w w' : World} (h : Still w w') {size n : Nat} {v : Value} {xs : List Value} (hv : Rd w size v n xs) : Rd w' size v n xs := by
  obtain ⟨h1, a, cap, rfl, h2, h3⟩ := hv
  refine ⟨h1, a, cap, rfl, h2, fun hn => ?_⟩
  obtain ⟨ad, rfl, h4⟩ := h3 hn
  exact ⟨ad, rfl, fun j u hu => (h.cell _).trans (h4 j u hu)⟩

theorem add_add (a : Addr) (m n : Nat) : (a.add m).add n = a.add (m + n) := by
  unfold Addr.add
  by_cases hm : m = 0
  · subst hm; simp
  · by_cases hn : n = 0
    · subst hn; simp
    · rw [if_neg hm, if_neg hn, if_neg (by omega)]
      simp [Nat.add_assoc]
/-- The cells of values of several cells each, one after the other. -/
theorem flat_get {α : Type} (enc : α → List Value) (sz : Nat) (h : ∀ a, (enc a).length = sz) : ∀ (els : List α) (k i : Nat), i < sz → (els.flatMap enc)[k * sz + i]? = (els[k]?).bind fun a => (enc a)[i]?
  | [], k, i, _ => by simp
  | a :: els, 0, i, hi => by
    rw [List.flatMap_cons, Nat.zero_mul, Nat.zero_add, List.getElem?_append_left (by rw [h]; exact hi)]
    rfl
  | a :: els, k + 1, i, hi => by
    have e : (k + 1) * sz + i = sz + (k * sz + i) := by rw [Nat.add_mul]; omega
    rw [List.flatMap_cons, e, List.getElem?_append_right (by rw [h]; omega), h, Nat.add_sub_cancel_left, flat_get enc sz h els k i hi]
    rfl
theorem cellsAt_flat {α : Type} {enc : α → List Value} {sz : Nat} (h : ∀ a, (enc a).length = sz) {els : List α} {w : World} {ad : Addr} {k : Nat} {a : α}
    (hcell : ∀ j u, (els.flatMap enc)[j]? = some u → w.cell? (ad.add j) = some u) (hk : els[k]? = some a) : cellsAt w (ad.add (k * sz)) (enc a) := by
  intro i v hv
  rw [add_add]
  refine hcell _ _ ?_
  have hi : i < sz := by
    have := (List.getElem?_eq_some_iff.1 hv).1
    rwa [h] at this
  rw [flat_get enc sz h els k i hi, hk]
  exact hv
theorem flat_length {α : Type} (enc : α → List Value) (sz : Nat) (h : ∀ a, (enc a).length = sz) : ∀ els : List α, (els.flatMap enc).length = els.length * sz
  | [] => by simp
  | a :: els => by rw [List.flatMap_cons, List.length_append, h, flat_length enc sz h els, List.length_cons, Nat.add_mul]; omega
theorem cellsAt.below {w w' : World} {p : Addr} {cs : List Value} (h : cellsAt w p cs) (hb : Below w.heap.size w w') : cellsAt w' p cs := by
  intro i v hv
  have hc := h i v hv
  rw [hb.cell (World.block_lt_of_cell? w _ hc), hc]

/-- Bytes just made are noughts. -/
theorem bytesAt_new (w : World) (n : Nat) (e : Nat) : bytesAt (w.alloc (.cells (zerosA (.int .u8 0) n) e)) (some ⟨w.heap.size, 0, none⟩) (List.replicate n 0) := by
  intro i b h
  simp only [Addr.add_lit, Nat.zero_add]
  obtain ⟨hi, hb⟩ := List.getElem?_eq_some_iff.1 h
  simp only [List.length_replicate] at hi
  simp only [List.getElem_replicate] at hb
  subst hb
  rw [World.cell?_alloc_at _ _ _ _ rfl]
  simp [zerosA, hi]
theorem Below.next {a b c : World} (h : Below a.heap.size a b) (k : Below b.heap.size b c) : Below a.heap.size a c := h.trans (k.mono h.size)

section
variable {P : Program} {w : World} {K : Value → World → Prop}

theorem setCells_new (n : Nat) (hn : n = w.heap.size) (t : TypeId) : ∀ (vs : List Value) (k : Nat) (z : Array Value), setCellsW (w.alloc (.cells z t)) ⟨n, 0, none⟩ k vs = w.alloc (.cells (setFrom z k vs) t)
  | [], _, _ => rfl
  | v :: vs, k, z => by
    rw [setCellsW, Addr.add_lit, Nat.zero_add, World.setCell_alloc_at (hn := hn), setCells_new n hn t vs (k + 1)]
    rfl
/-- A variable just made, and written whole. -/
theorem storeW_new {n : Nat} {t t' : TypeId} {z : Array Value} {v : Value} (hn : n = w.heap.size) (hz : sizeT P t = some v.cells.size) (hs : z.size = v.cells.size) (h1 : ∀ u ∈ v.cells.toList, u.oneCell' = true)
    (hK : K undef (w.alloc (.cells v.cells t'))) : storeW P t ⟨n, 0, none⟩ v (w.alloc (.cells z t')) K := by
  refine ⟨hz, h1, fun i hi => ⟨?_, ?_⟩, ?_⟩
  · rw [Addr.add_lit, Nat.zero_add, World.cell?_alloc_at (hn := hn)]
    exact ⟨z[i]'(by omega), Array.getElem?_eq_getElem (by omega)⟩
  · rw [Addr.add_lit, World.frozen?_alloc_at (hn := hn)]
  · rw [setCells_new n hn t' _ 0 z, setFrom_all _ _ (by simpa using hs)]
    simpa using hK
theorem fold_set (off : Nat) : ∀ (l : List Value) (k : Nat) (acc : Array Value), (l.zipIdx k).foldl (fun cs (x : Value × Nat) => cs.setIfInBounds (off + x.2) x.1) acc = setFrom acc (off + k) l
  | [], _, _ => rfl
  | v :: l, k, acc => by
    rw [List.zipIdx_cons, List.foldl_cons, fold_set off l (k + 1)]
    rfl
theorem fill_whole {cs z : Array Value} {size : Nat} (hz : z.size = cs.size) (hs : cs.size = size) : Instr.fill (fun i => some (i * size, size)) z [(0, .agg cs)] = some cs := by
  have hc : (Value.agg cs).cells = cs := rfl
  simp only [Instr.fill, hc, Nat.zero_mul, hs, ne_eq, not_true, decide_false, Bool.false_or]
  rw [if_neg (by simp; omega)]
  have := fold_set 0 cs.toList 0 z
  rw [setFrom_all _ _ (by simpa using hz)] at this
  simp only [Option.some.injEq]
  rw [← Array.foldl_toList, Array.toList_zipIdx]
  simpa using this
/-- A slice of one struct, written out. -/
theorem bsW_agg {t e size bytes : Nat} {z : Value} {cs : Array Value} (hm : mkI P t = some (e, size, bytes, z)) (hs : cs.size = size) (h0 : size ≤ 16777216) (h1 : size ≠ 0)
    (hK : K (.slice (some ⟨w.heap.size, 0, none⟩) 1 1) (w.alloc (.cells cs e))) : bsW P t 1 [0] [.agg cs] w K :=
  bsW_cells hm (by omega) (by omega) (fill_whole (by simp [size_madeCells, hs]) hs) hK
theorem bdW_built {t : TypeId} {is : List Nat} {vs : List Value} {cells : Array Value} (h : P.built t (zipP is vs) = some cells) (hK : K (.agg cells) w) : bdW P t is vs w K :=
  ⟨_, _, run_build w t (zipP is vs).toArray cells (by simpa using h), hK⟩
theorem callW_mono {f : Value} {args : List Value} {K K' : Value → World → Prop} (h : callW P f args w K) (hk : ∀ v w', K v w' → K' v w') : callW P f args w K' := by
  cases f with
  | func g a b => cases g with
    | func n => exact ⟨h.1, h.2.mono hk⟩
    | yield l =>
      obtain ⟨h1, h2, fn, tmps, as, bd, hr, hR⟩ := h
      exact ⟨h1, h2, fn, tmps, as, bd, hr, RoundIn.mono hR fun e w' ⟨v, he, hv⟩ => ⟨v, he, hk v w' hv⟩⟩
    | _ => exact h.elim
  | _ => exact h.elim

/-- append, of cells that can be read, onto a row of one's own. -/
theorem rawB_append {t ty e size bytes : Nat} {z : Value} {cs : Array Bool} {base n m c : Nat} {v : Value} {xs news : List Value} {ad : Addr}
    (hm : mkI P t = some (e, size, bytes, z)) (hzs : z.cells.size = size) (hsz : 0 < size)
    (hown : w.ownsRow base e size v n xs) (hl : news.length = m * size) (hnews : ∀ j u, news[j]? = some u → w.cell? (ad.add j) = some u)
    (h1 : ∀ u ∈ news, u.oneCell' = true) (h0 : 0 < m) (hbytes : (n + m) * bytes ≤ 140737488355328) (h63 : n + m ≤ 9223372036854775807) (hbase : base ≤ w.heap.size)
    (hK : ∀ g cap w', w'.ownsRow base e size (.slice (some ⟨g, 0, none⟩) (n + m) cap) (n + m) (xs ++ news) → w.grownBy w' v.ownBlock → (v.ownBlock = some g ∨ g = w.heap.size) → g < w'.heap.size →
      K (.slice (some ⟨g, 0, none⟩) (n + m) cap) w') :
    rawB P .append #[t, t] ty cs [v, .slice (some ad) m c] w K := by
  obtain ⟨i, hu, hi, hzz, hsi, hby⟩ := mkI_some hm
  obtain ⟨g, cap, w', hr, h2, h3, h4, h5⟩ := run_append_lies (P := P) w t ty base e i z size bytes hu hi hzz hsi.symm hby.symm hzs hsz v n xs hown ad m c news hl hnews h1 h0 (by have : maxLen = 9223372036854775807 := (by decide); omega) hbytes hbase w.heap.size rfl
  refine ⟨_, w', ?_, hK g cap w' h2 h3 h4 h5⟩
  simp only [builtin, Sem.run_bind, hr, Result.andThen_ok, Sem.run_pure]

/-- append of nothing. -/
theorem rawB_append_nil {t ty e size bytes : Nat} {z : Value} {cs : Array Bool} {v : Value} {a : Option Addr} {n cap c : Nat}
    (hm : mkI P t = some (e, size, bytes, z)) (hle : n ≤ cap)
    (hK : K (.slice a n cap) w) : rawB P .append #[t, t] ty cs [.slice a n cap, .slice none 0 c] w K := by
  obtain ⟨i, hu, hi, hzz, hsi, hby⟩ := mkI_some hm
  refine ⟨_, w, ?_, hK⟩
  cases a <;> simp [builtin, Builtin.append_, run_underlying hu, sizeOf, typeInfo, hi, Builtin.lenOf, Builtin.firstCells, loadCells, loadCellsFrom, hle, storeCells]

/-- Where a struct's fields lie, and how many cells each has. -/
def plcT (P : Program) (t : TypeId) : Option (List (Nat × Nat)) :=
  match P.underlying t with
  | some (.struct fields) => fields.toList.mapM fun f => (P.info? f.type).map fun i => (f.offset, i.size)
  | _ => none
/-- The parts, each in its place. -/
def fillS (pl : List (Nat × Nat)) : Array Value → List (Nat × Value) → Option (Array Value)
  | cs, [] => some cs
  | cs, (i, v) :: r => match pl[i]? with
    | some (off, size) => if v.cells.size = size ∧ off + size ≤ cs.size then fillS pl (setFrom cs off v.cells.toList) r else none
    | none => none
theorem fillS_fill (pl : List (Nat × Nat)) : ∀ (parts : List (Nat × Value)) (cs cells : Array Value), fillS pl cs parts = some cells → Instr.fill (pl.toArray[·]?) cs parts = some cells
  | [], cs, cells, h => h
  | (i, v) :: r, cs, cells, h => by
    simp only [fillS] at h
    split at h
    · rename_i off size hp
      split at h
      · rename_i hc
        have hp' : pl.toArray[i]? = some (off, size) := by simpa using hp
        simp only [Instr.fill, hp']
        rw [if_neg (by simp; omega)]
        have := fillS_fill pl r _ cells h
        have e : v.cells.zipIdx.foldl (fun cs (x : Value × Nat) => cs.setIfInBounds (off + x.2) x.1) cs = setFrom cs off v.cells.toList := by
          rw [← Array.foldl_toList, Array.toList_zipIdx]
          have := fold_set off v.cells.toList 0 cs
          simpa using this
        rw [← e] at this
        exact this
      · cases h
    · cases h
def bdD (pl : Option (List (Nat × Nat))) (z : Option Value) (parts : List (Nat × Value)) (w : World) (K : Value → World → Prop) : Prop :=
  match pl, z with
  | some pl, some z => (match fillS pl z.cells parts with
    | some cells => K (.agg cells) w
    | none => False)
  | _, _ => False
theorem bdW_go {t : TypeId} {is : List Nat} {vs : List Value} (h : bdD (plcT P t) (zeroT P t) (zipP is vs) w K) : bdW P t is vs w K := by
  unfold bdD at h
  split at h
  · rename_i pl z hpl hz
    split at h
    · rename_i cells hf
      refine bdW_built ?_ h
      unfold plcT at hpl
      unfold zeroT at hz
      split at hpl
      · rename_i fields hu
        split at hz
        · rename_i it hi
          unfold Program.built
          rw [hi, hu]
          simp only [hz, hpl]
          exact fillS_fill pl _ _ _ hf
        · cases hz
      · cases hpl
    · exact h.elim
  · exact h.elim
def fillD (c : Prop) [Decidable c] (a : Option (Array Value)) : Option (Array Value) := if c then a else none
def agW (o : Option (Array Value)) (w : World) (K : Value → World → Prop) : Prop :=
  match o with
  | some cells => K (.agg cells) w
  | none => False
theorem bdD_some {pl : List (Nat × Nat)} {z : Value} {parts : List (Nat × Value)} : bdD (some pl) (some z) parts w K = agW (fillS pl z.cells parts) w K := by
  simp only [bdD, agW]
theorem agW_some {cs : Array Value} : agW (some cs) w K = K (.agg cs) w := rfl
theorem fillS_nil {pl : List (Nat × Nat)} {cs : Array Value} : fillS pl cs [] = some cs := rfl
def plD (o : Option (Nat × Nat)) (f : Nat → Nat → Option (Array Value)) : Option (Array Value) := match o with | some (a, b) => f a b | none => none
theorem plD_some {a b : Nat} {f : Nat → Nat → Option (Array Value)} : plD (some (a, b)) f = f a b := rfl
theorem fillS_cons {pl : List (Nat × Nat)} {cs : Array Value} {i : Nat} {v : Value} {r : List (Nat × Value)} : fillS pl cs ((i, v) :: r) = plD pl[i]? fun off size => if v.cells.size = size ∧ off + size ≤ cs.size then fillS pl (setFrom cs off v.cells.toList) r else none := by
  simp only [fillS, plD]
theorem cells_agg {cs : Array Value} : (Value.agg cs).cells = cs := rfl
theorem cells_int {k : IntKind} {n : Int} : (Value.int k n).cells = #[.int k n] := rfl
theorem cells_bool {b : Bool} : (Value.bool b).cells = #[.bool b] := rfl
theorem cells_string {b : ByteArray} : (Value.string b).cells = #[.string b] := rfl
theorem cells_slice {a : Option Addr} {n c : Nat} : (Value.slice a n c).cells = #[.slice a n c] := rfl
theorem cells_ptr {a : Option Addr} : (Value.pointer a).cells = #[.pointer a] := rfl
theorem cells_map {a : Option Nat} : (Value.map a).cells = #[.map a] := rfl
theorem cells_func {f : Fn} {a c : Array Value} : (Value.func f a c).cells = #[.func f a c] := rfl
theorem cells_nilFunc : Value.nilFunc.cells = #[.nilFunc] := rfl
theorem setFrom_nil {cs : Array Value} {k : Nat} : setFrom cs k [] = cs := rfl
theorem setFrom_cons {cs : Array Value} {k : Nat} {v : Value} {vs : List Value} : setFrom cs k (v :: vs) = setFrom (cs.setIfInBounds k v) (k + 1) vs := rfl
end
attribute [go_sem] bdD_some agW_some fillS_nil plD_some fillS_cons cells_agg cells_int cells_bool cells_string cells_slice cells_ptr cells_map cells_func cells_nilFunc setFrom_nil setFrom_cons
end Go.Ann
namespace Go.Ann
set_option linter.unusedSimpArgs false
open Go Go.RowKit
set_option linter.unusedVariables false
section
variable {P : Program} {ops : Array Oper} {Q : Exit → Act → World → Prop} {md : Region.Mode} {S T : World → Prop} {hb : List Nat}

/-- Must the condition be kept behind this one? Not if it waits for all that lean on it. -/
def needB (md : Region.Mode) (ops : Array Oper) (hb : List Nat) (j : Nat) : Bool :=
  match ops[j]? with
  | some o => !(hb.all fun h => o.after.any fun e => Region.binds md e && e.on == h)
  | none => true

/-- Whatever order is picked from here on, the condition being kept behind each that others may follow who lean on it. -/
def wpAnyG (P : Program) (md : Region.Mode) (ops : Array Oper) (Q : Exit → Act → World → Prop) (S : World → Prop) (hb : List Nat) : Nat → Array Bool → Act → World → Prop
  | 0, listed, a, w => Region.ready md ops listed = [] ∧ Q .normal a w
  | fuel + 1, listed, a, w =>
    (Region.ready md ops listed = [] → Q .normal a w) ∧
    ∀ i ∈ Region.ready md ops listed, wpOp P ops Q i (fun a' w' => (needB md ops hb i = true → S w → S w') ∧ wpAnyG P md ops Q S hb fuel (listed.setIfInBounds i true) a' w') a w

theorem wpAny_of_G : ∀ (fuel : Nat) (listed : Array Bool) (a : Act) (w : World), wpAnyG P md ops Q S hb fuel listed a w → wpAny P md ops Q fuel listed a w
  | 0, _, _, _, h => h
  | fuel + 1, _, _, _, h => ⟨h.1, fun i hi => wpOp_mono (fun a' w' h' => wpAny_of_G fuel _ a' w' h'.2) (h.2 i hi)⟩

theorem unlisted_after {i j : Nat} {listed : Array Bool} (hi : i ∈ Region.ready md ops listed) {oj : Oper} (hall : ∀ e ∈ oj.after, Region.binds md e = true → listed.getD e.on false = true) :
    ∀ e ∈ oj.after, Region.binds md e = true → e.on ≠ i := by
  intro e he hb heq
  have h1 := hall e he hb
  have h0 := (mem_ready.1 hi).1
  rw [heq] at h1
  rcases Nat.lt_or_ge i listed.size with h' | h'
  · simp [h'] at h0 h1; rw [h0] at h1; cases h1
  · simp [Array.getElem?_eq_none h'] at h1

theorem wpAnyG_first {i : Nat} {oi : Oper} {v : Value} (hi : ops[i]? = some oi) (hsel : ∀ (j : Nat) (o : Oper) cs b, ops[j]? = some o → o.op ≠ .select cs b)
    (hT : (∀ w, T w) ∨ (i ∈ hb ∧ T = S)) (hQ : ∀ c a w, Q (.panic c) (a.put oi.dst v) w → Q (.panic c) a w) :
    ∀ (fuel : Nat) (listed : Array Bool) (a : Act) (w : World),
      (∀ j oj, ops[j]? = some oj → j ≠ i → listed.getD j true = false → (∀ e ∈ oj.after, Region.binds md e = true → e.on ≠ i) → oi.apart ops oj = true) →
      i ∈ Region.ready md ops listed → YieldsIf P ops T oi v a → T w →
      wpAnyG P md ops Q S hb fuel (listed.setIfInBounds i true) (a.put oi.dst v) w → wpAnyG P md ops Q S hb (fuel + 1) listed a w := by
  intro fuel
  induction fuel with
  | zero =>
    intro listed a w _ hr hy hS H
    refine ⟨fun h => (by rw [h] at hr; cases hr), fun j hj => ?_⟩
    by_cases hji : j = i
    · subst hji; exact hy.wpOp hi hS ⟨fun _ h => h, H⟩
    · have := ready_mono hj hji
      rw [H.1] at this
      cases this
  | succ fuel ih =>
    intro listed a w hfree hr hy hS H
    refine ⟨fun h => (by rw [h] at hr; cases hr), fun j hj => ?_⟩
    by_cases hji : j = i
    · subst hji; exact hy.wpOp hi hS ⟨fun _ h => h, H⟩
    · have h1 := H.2 j (ready_mono hj hji)
      obtain ⟨hjun, oj, hoj, hall⟩ := mem_ready.1 hj
      have hnot := unlisted_after (j := j) hr hall
      have h2 := wpOp_putIf hoj (hfree j oj hoj hji hjun hnot) (fun cs b => hsel i oi cs b hi) (fun cs b => hsel j oj cs b hoj) hQ hy h1
      have hfree' : ∀ k ok, ops[k]? = some ok → k ≠ i → (listed.setIfInBounds j true).getD k true = false →
          (∀ e ∈ ok.after, Region.binds md e = true → e.on ≠ i) → oi.apart ops ok = true := fun k ok hk hki hun hno => by
        refine hfree k ok hk hki ?_ hno
        by_cases hjk : j = k
        · subst hjk; exact hjun
        · rw [getD_set_ne true hjk] at hun; exact hun
      refine wpOp_mono (fun a' w' h3 => ⟨h3.2.1, ih (listed.setIfInBounds j true) a' w' hfree' (ready_mono hr (Ne.symm hji)) h3.1 ?_ ?_⟩) h2
      · rcases hT with hT | ⟨hib, rfl⟩
        · exact hT w'
        · refine h3.2.1 ?_ hS
          unfold needB
          rw [hoj]
          simp only [Bool.not_eq_true']
          rw [Bool.eq_false_iff]
          intro hc
          have := List.all_eq_true.1 hc i hib
          obtain ⟨e, he, hb'⟩ := Array.any_eq_true'.1 this
          simp only [Bool.and_eq_true, beq_iff_eq] at hb'
          exact hnot e he hb'.1 hb'.2
      · rw [Array.setIfInBounds_comm _ _ hji]
        exact h3.2.2

theorem wpAnyG_take {i : Nat} {oi : Oper} {v : Value} {fuel : Nat} {listed : Array Bool} {a : Act} {w : World} (hi : ops[i]? = some oi)
    (hs : Region.noSelect ops = true) (hf : Region.free md ops listed i = true) (hr : (Region.ready md ops listed).contains i = true)
    (hT : (∀ w, T w) ∨ (i ∈ hb ∧ T = S)) (hQ : ∀ c a w, Q (.panic c) (a.put oi.dst v) w → Q (.panic c) a w) (hy : YieldsIf P ops T oi v a) (hTw : T w)
    (h : wpAnyG P md ops Q S hb fuel (listed.setIfInBounds i true) (a.put oi.dst v) w) : wpAnyG P md ops Q S hb (fuel + 1) listed a w :=
  wpAnyG_first hi (Region.noSelect_spec hs) hT hQ fuel listed a w (Region.free_spec hi hf) (by simpa using hr) hy hTw h

theorem wpAnyG_all {rs : List Nat} {fuel : Nat} {listed : Array Bool} {a : Act} {w : World} (hr : Region.ready md ops listed = rs) (hne : rs ≠ [])
    (h : ∀ i ∈ rs, wpOp P ops Q i (fun a' w' => (needB md ops hb i = true → S w → S w') ∧ wpAnyG P md ops Q S hb fuel (listed.setIfInBounds i true) a' w') a w) : wpAnyG P md ops Q S hb (fuel + 1) listed a w :=
  ⟨fun h0 => absurd (hr ▸ h0) hne, hr ▸ h⟩
end

section
variable {P : Program} {N : Nat} {S : World → Prop}

/-- A read that may come before others: what it gives wherever the condition holds. -/
def heldW (P : Program) (S : World → Prop) (t : TypeId) (p : Addr) (w : World) (K : Value → World → Prop) : Prop :=
  ∃ v, (∀ w', S w' → loadW P t p w' fun v' w'' => v' = v ∧ w'' = w') ∧ K v w
def opH (P : Program) (S : World → Prop) (op : Op) (ty : TypeId) (ρ : Env) (w : World) (K : Value → World → Prop) : Prop :=
  match op with
  | .load t a => ptrW (fun p => heldW P S t p w K) (ev ρ a)
  | _ => False
/-- An operation by its kind: 0 plain, 1 a read, 2 alone, the condition to be shown behind it, 3 alone. -/
def opG (P : Program) (S : World → Prop) (k : Nat) (op : Op) (ty : TypeId) (ρ : Env) (w : World) (K : Value → World → Prop) : Prop :=
  match k with
  | 0 => pureW P op ty ρ w K
  | 1 => opH P S op ty ρ w K
  | 2 => noY ρ op ∧ opW P op ty ρ w fun v w' => S w' ∧ K v w'
  | _ => noY ρ op ∧ opW P op ty ρ w K

theorem opH_runs {op : Op} {ty : TypeId} {ρ : Env} {w : World} {K : Value → World → Prop} (h : opH P S op ty ρ w K) :
    ∃ v, (∀ a : Operand → Value, (∀ x v, ev ρ x = some v → a x = v) → ∀ w', S w' → (execOp a (rawOp op ty)).run P w' = .ok (.value v) w') ∧ K v w := by
  unfold opH at h
  split at h
  · obtain ⟨p, hp, v, h, hk⟩ := ptrW_out h
    refine ⟨v, fun a ha w' hS => ?_, hk⟩
    obtain ⟨v', hr, rfl, _⟩ := loadW_out (h w' hS)
    simp only [execOp, rawOp, ha _ _ hp]
    exact run_val (by simp only [Instr.loadAt, Instr.sureAddr, Sem.run_bind, Sem.run_pure, Result.andThen, hr])
  · exact h.elim

/-- The operations in an order of our own. -/
def DG (P : Program) (S : World → Prop) : List (Nat × Ins) → List Nat → Env → World → Post → Prop
  | [], L, ρ, w, Q => Q .normal (restr L ρ) w
  | (k, ⟨d, op, ty, none⟩) :: r, L, ρ, w, Q => opG P S k op ty ρ w fun v w' => DG P S r L (put ρ d v) w' Q
  | (k, ⟨d, op, ty, some (s, b)⟩) :: r, L, ρ, w, Q => match lk ρ s with
    | some (.bool c) => (c = b → opG P S k op ty ((s, .bool b) :: ρ) w fun v w' => DG P S r L (put ((s, .bool b) :: ρ) d v) w' Q) ∧
        (c = !b → DG P S r L (put ((s, .bool !b) :: ρ) d undef) w Q)
    | some (.tuple _) => DG P S r L (put ρ d undef) w Q
    | _ => False

def schedG (ops : Array Oper) (hb : List Nat) : List (Nat × Nat) → Array Bool → Bool
  | [], listed => (Region.ready .any ops listed).isEmpty
  | (0, i) :: r, listed => (Region.ready .any ops listed).contains i && Region.free .any ops listed i && schedG ops hb r (listed.setIfInBounds i true)
  | (1, i) :: r, listed => hb.contains i && (Region.ready .any ops listed).contains i && Region.free .any ops listed i && schedG ops hb r (listed.setIfInBounds i true)
  | (2, i) :: r, listed => (Region.ready .any ops listed == [i]) && schedG ops hb r (listed.setIfInBounds i true)
  | (_, i) :: r, listed => (Region.ready .any ops listed == [i]) && !(needB .any ops hb i) && !(r.any fun x => x.1 == 1) && schedG ops hb r (listed.setIfInBounds i true)

def insG (l : List Oper) : List (Nat × Nat) → Option (List (Nat × Ins))
  | [] => some []
  | (p, i) :: r => match l[i]? with
    | none => none
    | some o => match stripG l o.guard, insG l r with
      | some g, some q => some ((p, ⟨o.dst, o.op, o.type, g⟩) :: q)
      | _, _ => none

theorem wpOp_doneG {ops : Array Oper} {i : Nat} {o : Oper} {a : Act} {w : World} {K : Value → World → Prop} {next : Act → World → Prop} {Q : Exit → Act → World → Prop} (hi : ops[i]? = some o)
    (hw : Region.wanted o (yielded ops a.tmps) = true) (h : Done P (execOp a.eval (rawOp o.op o.type)) w K) (hk : ∀ v w', K v w' → next (a.put o.dst v) w') : wpOp P ops Q i next a w := wpOp_done hi hw h hk

theorem DG_sound {l : List Oper} (hall : l.all (fun o => okDst N o.dst) = true) (hns : Region.noSelect l.toArray = true) (hb : List Nat) : ∀ (sched : List (Nat × Nat)) (ins : List (Nat × Ins)) (L : List Nat) (ρ : Env) (w : World) (Q : Post) (a : Act) (listed : Array Bool),
    insG l sched = some ins → schedG l.toArray hb sched listed = true → Sim N a ρ → ((sched.any fun x => x.1 == 1) = true → S w) → DG P S ins L ρ w Q → wpAnyG P .any l.toArray (drawQ N L Q) S hb sched.length listed a w
  | [], ins, L, ρ, w, Q, a, listed, hi, hok, hs, hSw, h => by
    simp only [insG, Option.some.injEq] at hi; subst hi
    simp only [schedG, List.isEmpty_iff] at hok
    exact ⟨hok, ρ, hs, rfl, h⟩
  | (k, i) :: r, ins, L, ρ, w, Q, a, listed, hi, hok, hs, hSw, h => by
    simp only [insG] at hi
    split at hi
    · cases hi
    rename_i o ho
    split at hi
    case h_2 => cases hi
    rename_i g q hg hq
    simp only [Option.some.injEq] at hi; subst hi
    have ho' : l.toArray[i]? = some o := by simpa using ho
    have hd : okDst N o.dst = true := List.all_eq_true.1 hall o (List.mem_of_getElem? ho)
    have hSr : (r.any fun x => x.1 == 1) = true → S w := fun h => hSw (by simp only [List.any_cons, h, Bool.or_true])
    have hpan : ∀ (d : Option Nat) (v : Value) c (a : Act) (w : World), drawQ N L Q (.panic c) (a.put d v) w → drawQ N L Q (.panic c) a w := by
      rintro d v c a w ⟨_, _, hn, _⟩; cases hn
    have take : ∀ (ρ' : Env), Sim N a ρ' → (Region.wanted o (yielded l.toArray a.tmps) = true) →
        opG P S k o.op o.type ρ' w (fun v w' => DG P S q L (put ρ' o.dst v) w' Q) →
        wpAnyG P .any l.toArray (drawQ N L Q) S hb (r.length + 1) listed a w := by
      intro ρ' hs' hw h
      match k, hok, hSw, h with
      | 0, hok, hSw, h =>
        simp only [schedG, Bool.and_eq_true] at hok
        obtain ⟨v, hv, hk⟩ := pureW_runs (show pureW P o.op o.type ρ' w _ from h)
        refine wpAnyG_take (T := fun _ => True) ho' hns hok.1.2 hok.1.1 (.inl fun _ => trivial) (hpan _ _) (.inl ⟨hw, fun w' _ => ?_⟩) trivial (DG_sound hall hns hb r q L _ w Q _ _ hq hok.2 (hs'.put hd v) hSr hk)
        rw [execOp_raw]; exact hv a.eval hs'.eval w'
      | 1, hok, hSw, h =>
        simp only [schedG, Bool.and_eq_true, List.contains_iff_mem] at hok
        obtain ⟨v, hv, hk⟩ := opH_runs (show opH P S o.op o.type ρ' w _ from h)
        refine wpAnyG_take (T := S) ho' hns hok.1.2 (by simpa using hok.1.1.2) (.inr ⟨hok.1.1.1, rfl⟩) (hpan _ _) (.inl ⟨hw, fun w' hw' => ?_⟩) (hSw (by simp)) (DG_sound hall hns hb r q L _ w Q _ _ hq hok.2 (hs'.put hd v) hSr hk)
        rw [execOp_raw]; exact hv a.eval hs'.eval w' hw'
      | 2, hok, hSw, h =>
        simp only [schedG, Bool.and_eq_true, beq_iff_eq] at hok
        refine wpAnyG_all hok.1 (by simp) fun j hj => ?_
        simp only [List.mem_singleton] at hj; subst hj
        refine wpOp_doneG ho' hw (opW_done (show opW P o.op o.type ρ' w _ from h.2) h.1 a.eval hs'.eval) fun v w' hk => ⟨fun _ _ => hk.1, DG_sound hall hns hb r q L _ w' Q _ _ hq hok.2 (hs'.put hd v) (fun _ => hk.1) hk.2⟩
      | k + 3, hok, hSw, h =>
        simp only [schedG, Bool.and_eq_true, beq_iff_eq, Bool.not_eq_true'] at hok
        refine wpAnyG_all hok.1.1.1 (by simp) fun j hj => ?_
        simp only [List.mem_singleton] at hj; subst hj
        refine wpOp_doneG ho' hw (opW_done (show opW P o.op o.type ρ' w _ from h.2) h.1 a.eval hs'.eval) fun v w' hk => ⟨fun hn => ?_, DG_sound hall hns hb r q L _ w' Q _ _ hq hok.2 (hs'.put hd v) (fun hn => ?_) hk⟩
        · rw [hok.1.1.2] at hn; cases hn
        · rw [hok.1.2] at hn; cases hn
    have skip : ∀ (ρ' : Env), Sim N a ρ' → (Region.wanted o (yielded l.toArray a.tmps) = false) → DG P S q L (put ρ' o.dst undef) w Q → wpAnyG P .any l.toArray (drawQ N L Q) S hb (r.length + 1) listed a w := by
      intro ρ' hs' hw h2
      match k, hok with
      | 0, hok =>
        simp only [schedG, Bool.and_eq_true] at hok
        exact wpAnyG_take (T := fun _ => True) ho' hns hok.1.2 hok.1.1 (.inl fun _ => trivial) (hpan _ _) (.inr ⟨hw, rfl⟩) trivial (DG_sound hall hns hb r q L _ w Q _ _ hq hok.2 (hs'.put hd undef) hSr h2)
      | 1, hok =>
        simp only [schedG, Bool.and_eq_true, List.contains_iff_mem] at hok
        exact wpAnyG_take (T := fun _ => True) ho' hns hok.1.2 (by simpa using hok.1.1.2) (.inl fun _ => trivial) (hpan _ _) (.inr ⟨hw, rfl⟩) trivial (DG_sound hall hns hb r q L _ w Q _ _ hq hok.2 (hs'.put hd undef) hSr h2)
      | 2, hok =>
        simp only [schedG, Bool.and_eq_true, beq_iff_eq] at hok
        refine wpAnyG_all hok.1 (by simp) fun j hj => ?_
        simp only [List.mem_singleton] at hj; subst hj
        exact wpOp_skip ho' hw ⟨fun _ h => h, DG_sound hall hns hb r q L _ w Q _ _ hq hok.2 (hs'.put hd undef) hSr h2⟩
      | k + 3, hok =>
        simp only [schedG, Bool.and_eq_true, beq_iff_eq, Bool.not_eq_true'] at hok
        refine wpAnyG_all hok.1.1.1 (by simp) fun j hj => ?_
        simp only [List.mem_singleton] at hj; subst hj
        exact wpOp_skip ho' hw ⟨fun _ h => h, DG_sound hall hns hb r q L _ w Q _ _ hq hok.2 (hs'.put hd undef) hSr h2⟩
    cases hgo : o.guard with
    | none =>
      rw [hgo] at hg
      simp only [stripG, Option.some.injEq] at hg; subst hg
      simp only [DG] at h
      exact take ρ hs (by simp only [Region.wanted, hgo]) h
    | some jb =>
      obtain ⟨j, b⟩ := jb
      rw [hgo] at hg
      simp only [stripG] at hg
      split at hg
      case h_2 => cases hg
      rename_i s hs0
      simp only [Option.some.injEq] at hg; subst hg
      simp only [DG] at h
      split at h
      · rename_i c hc
        have hy := yielded_of hs hs0 hc
        by_cases hcb : c = b
        · subst hcb
          exact take _ (hs.know hc) (by simp only [Region.wanted, hgo, hy, beq_self_eq_true]) (h.1 rfl)
        · have hcb' : c = !b := bool_ne hcb
          have hc' : lk ρ s = some (.bool !b) := by rw [← hcb']; exact hc
          exact skip _ (hs.know hc') (by simp only [Region.wanted, hgo, hy]; simpa using hcb) (h.2 hcb')
      · rename_i u hc
        exact skip ρ hs (by simp only [Region.wanted, hgo, yielded_undef hs hs0 hc]; rfl) h
      · exact h.elim

/-- A statement that leaves its order open, by an order of ours, its reads ahead of what writes elsewhere. -/
theorem drawW_held {l : List Oper} {L : List Nat} {ρ : Env} {w : World} {Q : Post} (hb : List Nat) (sched : List (Nat × Nat)) (ins : List (Nat × Ins)) (hm : P.follows .mixedOrders = true)
    (hi : insG l sched = some ins) (hok : (Region.noSelect l.toArray && (sched.length == l.length) && schedG l.toArray hb sched (Array.replicate l.length false)) = true)
    (S : World → Prop) (hS : S w.drew) (h : DG P S ins L ρ w.drew Q) : drawW P l L ρ w Q := by
  intro N a hall hs
  simp only [Bool.and_eq_true, beq_iff_eq] at hok
  refine ops_of_any hm (wpAny_of_G (S := S) (hb := hb) _ _ _ _ ?_)
  have := DG_sound (S := S) hall hok.1.1 hb sched ins L ρ w.drew Q a (Array.replicate l.length false) hi hok.2 hs (fun _ => hS) h
  rw [hok.1.2] at this
  have e : l.toArray.size = l.length := by simp
  rw [e]
  exact this
end
section
variable {P : Program} {S : World → Prop} {w : World} {K : Value → World → Prop} {ρ : Env} {Q : Post} {r : List (Nat × Ins)} {L : List Nat} {d : Option Nat} {ty : TypeId} {k : Nat} {op : Op} {s : Nat} {b c : Bool}
def DGn (P : Program) (S : World → Prop) (r : List (Nat × Ins)) (L : List Nat) (ρ : Env) (d : Option Nat) (Q : Post) : Value → World → Prop := fun v w => DG P S r L (put ρ d v) w Q
def DGs (P : Program) (S : World → Prop) (r : List (Nat × Ins)) (L : List Nat) (ρ : Env) (d : Option Nat) (Q : Post) : Value → World → Prop := fun v w => S w ∧ DG P S r L (put ρ d v) w Q
def opG' (P : Program) (S : World → Prop) (k : Nat) (op : Op) (ty : TypeId) (r : List (Nat × Ins)) (L : List Nat) (ρ : Env) (d : Option Nat) (w : World) (Q : Post) : Prop := opG P S k op ty ρ w (DGn P S r L ρ d Q)
def dG (P : Program) (S : World → Prop) (o : Option Value) (s : Nat) (b : Bool) (k : Nat) (d : Option Nat) (op : Op) (ty : TypeId) (r : List (Nat × Ins)) (L : List Nat) (ρ : Env) (w : World) (Q : Post) : Prop :=
  match o with
  | some (.bool c) => (c = b → opG' P S k op ty r L ((s, .bool b) :: ρ) d w Q) ∧ (c = !b → DG P S r L (put ((s, .bool !b) :: ρ) d undef) w Q)
  | some (.tuple _) => DG P S r L (put ρ d undef) w Q
  | _ => False
theorem DG_nil : DG P S [] L ρ w Q = Q .normal (restr L ρ) w := (rfl)
theorem DG_cons : DG P S ((k, ⟨d, op, ty, none⟩) :: r) L ρ w Q = opG' P S k op ty r L ρ d w Q := (rfl)
theorem DG_guard : DG P S ((k, ⟨d, op, ty, some (s, b)⟩) :: r) L ρ w Q = dG P S (lk ρ s) s b k d op ty r L ρ w Q := by
  simp only [DG, dG]; rfl
theorem DGn_app {v : Value} : DGn P S r L ρ d Q v w = DG P S r L (put ρ d v) w Q := (rfl)
theorem DGs_app {v : Value} : DGs P S r L ρ d Q v w = (S w ∧ DG P S r L (put ρ d v) w Q) := (rfl)
theorem opG_0 : opG' P S 0 op ty r L ρ d w Q = pureW P op ty ρ w (DGn P S r L ρ d Q) := (rfl)
theorem opG_1 {t : TypeId} {x : Operand} : opG' P S 1 (.load t x) ty r L ρ d w Q = ptrW (fun p => heldW P S t p w (DGn P S r L ρ d Q)) (ev ρ x) := (rfl)
theorem opG_2 : opG' P S 2 op ty r L ρ d w Q = (noY ρ op ∧ opW P op ty ρ w (DGs P S r L ρ d Q)) := (rfl)
theorem opG_3 : opG' P S 3 op ty r L ρ d w Q = (noY ρ op ∧ opW P op ty ρ w (DGn P S r L ρ d Q)) := (rfl)
theorem dG_t : dG P S (some (.bool true)) s true k d op ty r L ρ w Q = opG' P S k op ty r L ((s, .bool true) :: ρ) d w Q := by simp [dG]
theorem dG_f : dG P S (some (.bool false)) s false k d op ty r L ρ w Q = opG' P S k op ty r L ((s, .bool false) :: ρ) d w Q := by simp [dG]
theorem dG_tf : dG P S (some (.bool true)) s false k d op ty r L ρ w Q = DG P S r L (put ((s, .bool true) :: ρ) d undef) w Q := by simp [dG]
theorem dG_ft : dG P S (some (.bool false)) s true k d op ty r L ρ w Q = DG P S r L (put ((s, .bool false) :: ρ) d undef) w Q := by simp [dG]
theorem dG_gen : dG P S (some (.bool c)) s b k d op ty r L ρ w Q = ((c = b → opG' P S k op ty r L ((s, .bool b) :: ρ) d w Q) ∧ (c = !b → DG P S r L (put ((s, .bool !b) :: ρ) d undef) w Q)) := (rfl)
theorem dG_undef : dG P S (some undef) s b k d op ty r L ρ w Q = DG P S r L (put ρ d undef) w Q := (rfl)
end
attribute [go_sem low] dG_gen
attribute [go_sem] DG_nil DG_cons DG_guard DGn_app DGs_app opG_0 opG_1 opG_2 opG_3 dG_t dG_f dG_tf dG_ft dG_undef
end Go.Ann
namespace Go.Ann
open Go Go.RowKit
set_option linter.unusedVariables false
set_option linter.unusedSimpArgs false
section
variable {P : Program} {w : World} {K : Value → World → Prop} {t : TypeId}

/-- A read of one cell, by what the cell holds. -/
def ldO (k : TyK) (o : Option Value) (w : World) (K : Value → World → Prop) : Prop :=
  match k, o with
  | .int k, some (.int k' n) => k = k' ∧ K (.int k' n) w
  | .bool, some (.bool b) => K (.bool b) w
  | .str, some (.string s) => K (.string s) w
  | .slice _ _, some (.slice a n c) => K (.slice a n c) w
  | .ptr, some (.pointer q) => K (.pointer q) w
  | .map, some (.map r) => K (.map r) w
  | .other, some v => K v w
  | _, _ => False
/-- The cells from a place on. -/
def cellsO (w : World) (p : Addr) : Nat → Nat → Option (List Value)
  | _, 0 => some []
  | i, n + 1 => match w.cell? (p.add i), cellsO w p (i + 1) n with
    | some v, some l => some (v :: l)
    | _, _ => none
def ldA (o : Option (List Value)) (w : World) (K : Value → World → Prop) : Prop :=
  match o with
  | some cs => K (.agg cs.toArray) w
  | none => False

theorem ldK_int {k : IntKind} {p : Addr} : loadK (.int k) p w K = ldO (.int k) (w.cell? p) w K := by
  apply propext
  constructor
  · rintro ⟨n, h, hk⟩; rw [h]; exact ⟨rfl, hk⟩
  · intro h
    cases hc : w.cell? p with
    | none => rw [hc] at h; exact h.elim
    | some v =>
      rw [hc] at h
      cases v <;> first | exact h.elim | skip
      obtain ⟨rfl, hk⟩ := h
      exact ⟨_, hc, hk⟩
theorem ldK_bool {p : Addr} : loadK .bool p w K = ldO .bool (w.cell? p) w K := by
  apply propext
  constructor
  · rintro ⟨n, h, hk⟩; rw [h]; exact hk
  · intro h
    cases hc : w.cell? p with
    | none => rw [hc] at h; exact h.elim
    | some v =>
      rw [hc] at h
      cases v <;> first | exact h.elim | exact ⟨_, hc, h⟩
theorem ldK_str {p : Addr} : loadK .str p w K = ldO .str (w.cell? p) w K := by
  apply propext
  constructor
  · rintro ⟨n, h, hk⟩; rw [h]; exact hk
  · intro h
    cases hc : w.cell? p with
    | none => rw [hc] at h; exact h.elim
    | some v =>
      rw [hc] at h
      cases v <;> first | exact h.elim | skip
      rename_i s
      exact ⟨toL s, hc, h⟩
theorem ldK_slice {p : Addr} {b : Bool} {e : TypeId} : loadK (.slice b e) p w K = ldO (.slice b e) (w.cell? p) w K := by
  apply propext
  constructor
  · rintro ⟨a, n, c, h, hk⟩; rw [h]; exact hk
  · intro h
    cases hc : w.cell? p with
    | none => rw [hc] at h; exact h.elim
    | some v =>
      rw [hc] at h
      cases v <;> first | exact h.elim | exact ⟨_, _, _, hc, h⟩
theorem ldK_ptr {p : Addr} : loadK .ptr p w K = ldO .ptr (w.cell? p) w K := by
  apply propext
  constructor
  · rintro ⟨n, h, hk⟩; rw [h]; exact hk
  · intro h
    cases hc : w.cell? p with
    | none => rw [hc] at h; exact h.elim
    | some v =>
      rw [hc] at h
      cases v <;> first | exact h.elim | exact ⟨_, hc, h⟩
theorem ldK_map {p : Addr} : loadK .map p w K = ldO .map (w.cell? p) w K := by
  apply propext
  constructor
  · rintro ⟨n, h, hk⟩; rw [h]; exact hk
  · intro h
    cases hc : w.cell? p with
    | none => rw [hc] at h; exact h.elim
    | some v =>
      rw [hc] at h
      cases v <;> first | exact h.elim | exact ⟨_, hc, h⟩
theorem ldK_other {p : Addr} : loadK .other p w K = ldO .other (w.cell? p) w K := by
  apply propext
  constructor
  · rintro ⟨n, h, hk⟩; rw [h]; exact hk
  · intro h
    cases hc : w.cell? p with
    | none => rw [hc] at h; exact h.elim
    | some v => rw [hc] at h; exact ⟨_, hc, h⟩

theorem cellsO_of {w : World} {p : Addr} : ∀ {n i : Nat} {cs : List Value}, cs.length = n → (∀ j v, cs[j]? = some v → w.cell? (p.add (i + j)) = some v) → cellsO w p i n = some cs
  | 0, i, cs, hl, _ => by
    have : cs = [] := List.eq_nil_of_length_eq_zero hl
    subst this; rfl
  | n + 1, i, [], hl, _ => by simp at hl
  | n + 1, i, c :: cs, hl, h => by
    have h0 := h 0 c rfl
    have hr := cellsO_of (w := w) (p := p) (n := n) (i := i + 1) (cs := cs) (by simpa using hl) (fun j v hv => by
      have := h (j + 1) v (by simpa using hv)
      rwa [show i + 1 + j = i + (j + 1) by omega])
    simp only [Nat.add_zero] at h0
    simp only [cellsO, h0, hr]
theorem of_cellsO {w : World} {p : Addr} : ∀ {n i : Nat} {cs : List Value}, cellsO w p i n = some cs → cs.length = n ∧ ∀ j v, cs[j]? = some v → w.cell? (p.add (i + j)) = some v
  | 0, i, cs, h => by
    simp only [cellsO, Option.some.injEq] at h; subst h
    exact ⟨rfl, fun j v hv => by simp at hv⟩
  | n + 1, i, cs, h => by
    simp only [cellsO] at h
    split at h
    · rename_i v l hv hl
      simp only [Option.some.injEq] at h; subst h
      obtain ⟨h1, h2⟩ := of_cellsO hl
      refine ⟨by simp [h1], fun j u hu => ?_⟩
      match j, hu with
      | 0, hu => simpa using (by simpa using hu) ▸ hv
      | j + 1, hu =>
        have := h2 j u (by simpa using hu)
        rwa [show i + (j + 1) = i + 1 + j by omega]
    · cases h
theorem cellsAt_iff {p : Addr} {cs : List Value} {n : Nat} : (cellsAt w p cs ∧ cs.length = n) ↔ cellsO w p 0 n = some cs := by
  constructor
  · rintro ⟨h1, h2⟩
    exact cellsO_of h2 fun j v hv => by rw [Nat.zero_add]; exact h1 j v hv
  · intro h
    obtain ⟨h1, h2⟩ := of_cellsO h
    exact ⟨fun j v hv => by have := h2 j v hv; rwa [Nat.zero_add] at this, h1⟩
theorem ldK_agg {n : Nat} {p : Addr} : loadK (.agg n) p w K = ldA (cellsO w p 0 n) w K := by
  apply propext
  constructor
  · rintro ⟨cs, h1, h2, hk⟩
    rw [cellsAt_iff.1 ⟨h1, h2⟩]; exact hk
  · intro h
    cases hc : cellsO w p 0 n with
    | none => rw [hc] at h; exact h.elim
    | some cs =>
      rw [hc] at h
      obtain ⟨h1, h2⟩ := cellsAt_iff.2 hc
      exact ⟨cs, h1, h2, h⟩
theorem ldO_int {k : IntKind} {n : Int} : ldO (.int k) (some (.int k n)) w K = K (.int k n) w := by simp [ldO]
theorem ldO_bool {n : Bool} : ldO .bool (some (.bool n)) w K = K (.bool n) w := (rfl)
theorem ldO_str {n : ByteArray} : ldO .str (some (.string n)) w K = K (.string n) w := (rfl)
theorem ldO_slice {b : Bool} {e : TypeId} {a : Option Addr} {n c : Nat} : ldO (.slice b e) (some (.slice a n c)) w K = K (.slice a n c) w := (rfl)
theorem ldO_ptr {q : Option Addr} : ldO .ptr (some (.pointer q)) w K = K (.pointer q) w := (rfl)
theorem ldO_map {q : Option Nat} : ldO .map (some (.map q)) w K = K (.map q) w := (rfl)
theorem ldO_other {v : Value} : ldO .other (some v) w K = K v w := (rfl)
theorem ldA_some {cs : List Value} : ldA (some cs) w K = K (.agg cs.toArray) w := (rfl)
def cellsC (a : Option Value) (b : Option (List Value)) : Option (List Value) :=
  match a, b with
  | some v, some l => some (v :: l)
  | _, _ => none
theorem cellsO_nil {p : Addr} {i : Nat} : cellsO w p i 0 = some [] := rfl
theorem cellsO_cons {b o i n : Nat} : cellsO w ⟨b, o, none⟩ i (n + 1) = cellsC (w.cell? ⟨b, o + i, none⟩) (cellsO w ⟨b, o, none⟩ (i + 1) n) := by
  have : (⟨b, o, none⟩ : Addr).add i = ⟨b, o + i, none⟩ := Addr.add_lit ..
  simp only [cellsO, this, cellsC]
theorem cellsC_some {v : Value} {l : List Value} : cellsC (some v) (some l) = some (v :: l) := rfl

theorem cast0 : ((0 : Nat) : Int) = 0 := rfl
theorem cast1 : ((1 : Nat) : Int) = 1 := rfl
theorem cast_lit (n : Nat) : ((OfNat.ofNat n : Nat) : Int) = OfNat.ofNat n := rfl
/-! ### Looking through worlds. -/
section
variable {a : World} {o : Obj} {cs : Array Value} {b i : Nat} {n : Nat}
theorem cA_new (h : b = w.heap.size) : (w.alloc (.cells cs t)).cell? ⟨b, i, none⟩ = cs[i]? := World.cell?_alloc_at cs t b i h
theorem cA_old (h : b < w.heap.size) : (w.alloc o).cell? ⟨b, i, none⟩ = w.cell? ⟨b, i, none⟩ := World.cell?_alloc_past o b i h
theorem fA_new (h : b = w.heap.size) : (w.alloc (.cells cs t)).frozen? ⟨b, i, none⟩ = false := World.frozen?_alloc_at cs t b i h
theorem fA_old (h : b < w.heap.size) : (w.alloc o).frozen? ⟨b, i, none⟩ = w.frozen? ⟨b, i, none⟩ := World.frozen?_alloc_past o b i h
def setO (o : Option Value) (v : Value) : Option Value :=
  match o with
  | some _ => some v
  | none => none
theorem setO_some {u v : Value} : setO (some u) v = some v := rfl
theorem cS_same {v : Value} {p : Addr} : (w.setCell p v).cell? p = setO (w.cell? p) v := by
  cases h : w.cell? p with
  | some u => rw [World.cell?_setCell_same _ _ _ h]; rfl
  | none =>
    show (w.setCell p v).cell? p = none
    unfold World.cell? World.setCell at *
    simp only [Array.getElem?_modify, if_true]
    cases hb : w.heap[p.block]? with
    | none => rfl
    | some o =>
      rw [hb] at h
      cases o <;> try rfl
      simp only [Option.map_some]
      simp only at h
      by_cases hs : p.spot.isSome = true
      · simp only [hs, if_true]
      · simp only [hs, Bool.false_eq_true, if_false] at h ⊢
        rw [Array.getElem?_setIfInBounds, if_pos rfl, if_neg]
        intro hlt
        rw [Array.getElem?_eq_getElem hlt] at h
        cases h
theorem cS_off {v : Value} {j : Nat} (h : i ≠ j) : (w.setCell ⟨b, i, none⟩ v).cell? ⟨b, j, none⟩ = w.cell? ⟨b, j, none⟩ :=
  World.cell?_setCell_other w _ _ _ (fun e => h (congrArg Addr.off e))
theorem cS_blk {v : Value} {b' j : Nat} (h : b ≠ b') : (w.setCell ⟨b, i, none⟩ v).cell? ⟨b', j, none⟩ = w.cell? ⟨b', j, none⟩ :=
  World.cell?_setCell_other w _ _ _ (fun e => h (congrArg Addr.block e))
theorem cellsO_drew {p : Addr} : ∀ (n i : Nat), cellsO w.drew p i n = cellsO w p i n
  | 0, _ => rfl
  | n + 1, i => by simp only [cellsO, cellsO_drew n, World.cell?_drew]
theorem cell_alloc_old {p : Addr} (h : p.block < w.heap.size) : (w.alloc o).cell? p = w.cell? p := World.cell?_of_block (Below.heap_alloc w o _ h)
theorem cellsO_alloc {p : Addr} (h : p.block < w.heap.size) : ∀ (n i : Nat), cellsO (w.alloc o) p i n = cellsO w p i n
  | 0, _ => rfl
  | n + 1, i => by
    have e : (p.add i).block = p.block := by unfold Addr.add; split <;> rfl
    simp only [cellsO, cellsO_alloc h n, cell_alloc_old (show (p.add i).block < w.heap.size by rw [e]; exact h)]
theorem cA_add {p : Addr} {m : Nat} (h : p.block < w.heap.size) : (w.alloc o).cell? (p.add m) = w.cell? (p.add m) := by
  have e : (p.add m).block = p.block := by unfold Addr.add; split <;> rfl
  exact cell_alloc_old (by rw [e]; exact h)
theorem cS_add {p : Addr} {m : Nat} {v : Value} (h : b ≠ p.block) : (w.setCell ⟨b, i, none⟩ v).cell? (p.add m) = w.cell? (p.add m) := by
  have e : (p.add m).block = p.block := by unfold Addr.add; split <;> rfl
  exact World.cell?_setCell_other w _ _ _ (fun e' => h (by rw [← e, ← e']))
/-- What a block's cells are. -/
def Blk (w : World) (b : Nat) (cs : Array Value) (t : TypeId) : Prop := w.heap[b]? = some (.cells cs t (0, 0))
theorem Blk.cell (h : Blk w b cs t) (i : Nat) : w.cell? ⟨b, i, none⟩ = cs[i]? := by unfold World.cell?; rw [h]; rfl
theorem Blk.frozen (h : Blk w b cs t) (i : Nat) : w.frozen? ⟨b, i, none⟩ = false := by
  unfold World.frozen?; rw [h]; simp
/-- How many cells. -/
def okSize (cs : Array Value) (n : Nat) : Bool := cs.toList.length == n
theorem okSize_t {cs : Array Value} {n : Nat} (h : okSize cs n = true) : okSize cs n = true := h
theorem Blk.all (h : Blk w b cs t) (n : Nat) (hn : okSize cs n = true) : cellsO w ⟨b, 0, none⟩ 0 n = some cs.toList := by
  simp only [okSize, beq_iff_eq] at hn
  refine cellsO_of hn fun j v hv => ?_
  rw [Addr.add_lit, h.cell]
  simpa using hv
/-- Its cells, and that they may be written: rules. -/
theorem Blk.rules (h : Blk w b cs t) : (∀ i, w.cell? ⟨b, i, none⟩ = cs[i]?) ∧ (∀ i, w.frozen? ⟨b, i, none⟩ = false) ∧ (∀ n, okSize cs n = true → cellsO w ⟨b, 0, none⟩ 0 n = some cs.toList) := ⟨h.cell, h.frozen, h.all⟩
theorem Blk.lt (h : Blk w b cs t) : b < w.heap.size := (Array.getElem?_eq_some_iff.1 h).1
theorem Blk.new : Blk (w.alloc (.cells cs t)) w.heap.size cs t := by
  show (w.heap.push _)[w.heap.size]? = _
  rw [Array.getElem?_push, if_pos rfl]
theorem cellsO_new (hb : b = w.heap.size) {n : Nat} (hn : okSize cs n = true) : cellsO (w.alloc (.cells cs t)) ⟨b, 0, none⟩ 0 n = some cs.toList := by
  subst hb; exact Blk.all Blk.new n hn
theorem Blk.alloc (h : Blk w b cs t) (o : Obj) : Blk (w.alloc o) b cs t := (Below.heap_alloc w o b h.lt).trans h
theorem Blk.drew (h : Blk w b cs t) : Blk w.drew b cs t := h
theorem Blk.set (h : Blk w b cs t) (i : Nat) (v : Value) : Blk (w.setCell ⟨b, i, none⟩ v) b (cs.setIfInBounds i v) t := by
  unfold Blk World.setCell at *
  simp only [Array.getElem?_modify, if_true, h]; rfl
theorem Blk.other (h : Blk w b cs t) {p : Addr} (hp : p.block ≠ b) (v : Value) : Blk (w.setCell p v) b cs t := (Below.heap_setCell w p v b (Ne.symm hp)).trans h
theorem Blk.chg {S : Nat → Prop} {w' : World} (h : Blk w b cs t) (hc : Chg S w w') (hS : ¬ S b) : Blk w' b cs t := (hc.block b h.lt hS).trans h
theorem Blk.below {w' : World} {B : Nat} (h : Blk w b cs t) (hb : Below B w w') (hB : b < B) : Blk w' b cs t := (hb.block b hB).trans h
theorem Blk.own {n cap e size : Nat} {xs : List Value} (h : Blk w b cs e) {base : Nat} (hb : base ≤ b) (hc : n ≤ cap) (hm : cap ≤ maxLen) (hs : cs.size = cap * size) (hx : cs.toList.take (n * size) = xs) :
    w.ownsRow base e size (.slice (some ⟨b, 0, none⟩) n cap) n xs := by
  refine ⟨?_, .inr ⟨b, cap, cs, rfl, hb, h, hc, hm, hs, hx⟩⟩
  rw [← hx, List.length_take, Array.length_toList, hs]
  exact Nat.min_eq_left (Nat.mul_le_mul_right _ hc)

/-! As rules: what old cells hold behind a call. -/
theorem Below.rules {w1 w2 : World} {B : Nat} (h : Below B w1 w2) : (∀ b i, b < B → w2.cell? ⟨b, i, none⟩ = w1.cell? ⟨b, i, none⟩) ∧ (∀ b i, b < B → w2.frozen? ⟨b, i, none⟩ = w1.frozen? ⟨b, i, none⟩) ∧
    (∀ n a, n ≤ B → Below n a w1 → Below n a w2 = True) :=
  ⟨fun b i hb => h.cell (p := ⟨b, i, none⟩) hb, fun b i hb => h.frozen (p := ⟨b, i, none⟩) hb, fun n a hn ha => eq_true (ha.trans (h.mono hn))⟩
theorem Chg.rules {S : Nat → Prop} {w1 w2 : World} (h : Chg S w1 w2) : (∀ b i, b < w1.heap.size → ¬ S b → w2.cell? ⟨b, i, none⟩ = w1.cell? ⟨b, i, none⟩) ∧ (∀ b i, b < w1.heap.size → ¬ S b → w2.frozen? ⟨b, i, none⟩ = w1.frozen? ⟨b, i, none⟩) :=
  ⟨fun b i hb hs => World.cell?_of_block (h.block b hb hs), fun b i hb hs => h.frozen (p := ⟨b, i, none⟩) hb hs⟩
theorem bel_refl {n : Nat} : Below n w w = True := eq_true (Below.refl _ _)
theorem bel_drew {n : Nat} (h : Below n a w) : Below n a w.drew = True := eq_true h.drew
theorem bel_alloc {n : Nat} (h : Below n a w) (hn : n ≤ w.heap.size) : Below n a (w.alloc o) = True := eq_true (h.alloc hn o)
theorem bel_set {n : Nat} {p : Addr} {v : Value} (h : Below n a w) (hn : n ≤ p.block) : Below n a (w.setCell p v) = True := eq_true (h.setCell hn v)
theorem chg_refl {S : Nat → Prop} : Chg S w w = True := eq_true (Chg.refl _ _)
theorem chg_drew {S : Nat → Prop} (h : Chg S a w) : Chg S a w.drew = True := eq_true h.drew
theorem chg_alloc {S : Nat → Prop} (h : Chg S a w) : Chg S a (w.alloc o) = True := eq_true (h.alloc o)
theorem chg_set {S : Nat → Prop} {p : Addr} {v : Value} (h : Chg S a w) (hp : p.block < a.heap.size → S p.block) : Chg S a (w.setCell p v) = True := eq_true (h.setCell p v hp)
end

theorem Below.via {a b c : World} {n B : Nat} (k : Below B b c) (hB : n ≤ B) (h : Below n a b) : Below n a c := h.trans (k.mono hB)

/-! ### Statements that leave their order open: what the held reads read is as it was at the start, but for the blocks of X. -/
theorem add_block (p : Addr) (j : Nat) : (p.add j).block = p.block := by unfold Addr.add; split <;> rfl
theorem heldX_held {X : Nat → Prop} {w0 : World} {p : Addr} (h1 : p.block < w0.heap.size) (h2 : ¬ X p.block) (h3 : loadW P t p w0 fun v _ => K v w) : heldW P (Chg X w0) t p w K := by
  have key : ∀ w' j, Chg X w0 w' → w'.cell? (p.add j) = w0.cell? (p.add j) := fun w' j hc => by
    have e : (p.add j).block = p.block := by unfold Addr.add; split <;> rfl
    exact World.cell?_of_block (hc.block _ (by rw [e]; exact h1) (by rw [e]; exact h2))
  have key0 : ∀ w', Chg X w0 w' → w'.cell? p = w0.cell? p := fun w' hc => by have := key w' 0 hc; simpa only [Addr.add_zero'] using this
  unfold heldW
  unfold loadW at h3 ⊢
  cases hk : tyK P t with
  | int k => rw [hk] at h3; obtain ⟨n, hc, hK⟩ := h3; exact ⟨_, fun w' hw => ⟨n, (key0 w' hw).trans hc, rfl, rfl⟩, hK⟩
  | bool => rw [hk] at h3; obtain ⟨n, hc, hK⟩ := h3; exact ⟨_, fun w' hw => ⟨n, (key0 w' hw).trans hc, rfl, rfl⟩, hK⟩
  | str => rw [hk] at h3; obtain ⟨n, hc, hK⟩ := h3; exact ⟨_, fun w' hw => ⟨n, (key0 w' hw).trans hc, rfl, rfl⟩, hK⟩
  | slice u e => rw [hk] at h3; obtain ⟨x, n, c, hc, hK⟩ := h3; exact ⟨_, fun w' hw => ⟨x, n, c, (key0 w' hw).trans hc, rfl, rfl⟩, hK⟩
  | ptr => rw [hk] at h3; obtain ⟨n, hc, hK⟩ := h3; exact ⟨_, fun w' hw => ⟨n, (key0 w' hw).trans hc, rfl, rfl⟩, hK⟩
  | map => rw [hk] at h3; obtain ⟨n, hc, hK⟩ := h3; exact ⟨_, fun w' hw => ⟨n, (key0 w' hw).trans hc, rfl, rfl⟩, hK⟩
  | agg n => rw [hk] at h3; obtain ⟨cs, hc, hl, hK⟩ := h3; exact ⟨_, fun w' hw => ⟨cs, fun i v hv => (key w' i hw).trans (hc i v hv), hl, rfl, rfl⟩, hK⟩
  | other => rw [hk] at h3; obtain ⟨n, hc, hK⟩ := h3; exact ⟨_, fun w' hw => ⟨n, (key0 w' hw).trans hc, rfl, rfl⟩, hK⟩
  | none => rw [hk] at h3; exact h3.elim
theorem loadW_mono {w : World} {p : Addr} {K K' : Value → World → Prop} (h : loadW P t p w K) (hk : ∀ v, K v w → K' v w) : loadW P t p w K' := by
  unfold loadW at h ⊢
  cases hc : tyK P t with
  | int k => rw [hc] at h; obtain ⟨n, h1, h2⟩ := h; exact ⟨n, h1, hk _ h2⟩
  | bool => rw [hc] at h; obtain ⟨n, h1, h2⟩ := h; exact ⟨n, h1, hk _ h2⟩
  | str => rw [hc] at h; obtain ⟨n, h1, h2⟩ := h; exact ⟨n, h1, hk _ h2⟩
  | slice u e => rw [hc] at h; obtain ⟨x, n, c, h1, h2⟩ := h; exact ⟨x, n, c, h1, hk _ h2⟩
  | ptr => rw [hc] at h; obtain ⟨n, h1, h2⟩ := h; exact ⟨n, h1, hk _ h2⟩
  | map => rw [hc] at h; obtain ⟨n, h1, h2⟩ := h; exact ⟨n, h1, hk _ h2⟩
  | agg n => rw [hc] at h; obtain ⟨n, h1, h0, h2⟩ := h; exact ⟨n, h1, h0, hk _ h2⟩
  | other => rw [hc] at h; obtain ⟨n, h1, h2⟩ := h; exact ⟨n, h1, hk _ h2⟩
  | none => rw [hc] at h; exact h.elim
theorem heldX_eq {X : Nat → Prop} {w0 : World} {b i : Nat} (h1 : b < w0.heap.size) (h2 : ¬ X b) : heldW P (Chg X w0) t ⟨b, i, none⟩ w K = loadW P t ⟨b, i, none⟩ w0 fun v _ => K v w := by
  apply propext
  refine ⟨fun ⟨v, h, hk⟩ => loadW_mono (h w0 (Chg.refl _ _)) fun u hu => by rw [hu.1]; exact hk, heldX_held h1 h2⟩
theorem heldX_add {X : Nat → Prop} {w0 : World} {p : Addr} {m : Nat} (h1 : p.block < w0.heap.size) (h2 : ¬ X p.block) : heldW P (Chg X w0) t (p.add m) w K = loadW P t (p.add m) w0 fun v _ => K v w := by
  apply propext
  refine ⟨fun ⟨v, h, hk⟩ => loadW_mono (h w0 (Chg.refl _ _)) fun u hu => by rw [hu.1]; exact hk, heldX_held (by rw [add_block]; exact h1) (by rw [add_block]; exact h2)⟩

/-- What is stored fits what is there. -/
def okFill (z cs : Array Value) : Bool := z.toList.length == cs.toList.length && cs.toList.all Value.oneCell'
theorem okFill_t {z cs : Array Value} (h : okFill z cs = true) : okFill z cs = true := h
/-- A struct, or an array, stored into memory that was just made. -/
theorem storeW_fill {b : Nat} {t' : TypeId} {z cs : Array Value} (hb : b = w.heap.size) (h : okFill z cs = true) : storeW P t ⟨b, 0, none⟩ (.agg cs) (w.alloc (.cells z t')) K = (sizeT P t = some cs.size ∧ K undef (w.alloc (.cells cs t'))) := by
  simp only [okFill, Bool.and_eq_true, beq_iff_eq, Array.length_toList] at h
  subst hb
  apply propext
  constructor
  · rintro ⟨h1, h2, h3, h4⟩
    refine ⟨h1, ?_⟩
    have e : setCellsW (w.alloc (.cells z t')) ⟨w.heap.size, 0, none⟩ 0 (Value.agg cs).cells.toList = w.alloc (.cells cs t') := by
      rw [setCells_new _ rfl, setFrom_all _ _ (by simpa [Value.cells] using h.1)]; rfl
    rwa [e] at h4
  · rintro ⟨h1, h2⟩
    exact storeW_new (v := .agg cs) rfl h1 h.1 (fun u hu => List.all_eq_true.1 h.2 u (by simpa [Value.cells] using hu)) h2

/-- A block that is written from its start on. -/
def _root_.Go.World.fill (w : World) (b : Nat) (cs : Array Value) : World := setCellsW w ⟨b, 0, none⟩ 0 cs.toList
def fillO (o n : Option Value) : Option Value :=
  match o, n with
  | some _, some v => some v
  | some u, none => some u
  | none, _ => none
theorem fillO_some {u v : Value} : fillO (some u) (some v) = some v := rfl
theorem fillO_none {u : Value} : fillO (some u) none = some u := rfl
theorem setCellsW_size {b : Nat} : ∀ (l : List Value) (i : Nat) (w : World), (setCellsW w ⟨b, 0, none⟩ i l).heap.size = w.heap.size
  | [], _, _ => rfl
  | v :: r, i, w => by rw [setCellsW, setCellsW_size r]; simp
theorem setCellsW_other {b b' j : Nat} (h : b ≠ b') : ∀ (l : List Value) (i : Nat) (w : World), (setCellsW w ⟨b, 0, none⟩ i l).cell? ⟨b', j, none⟩ = w.cell? ⟨b', j, none⟩
  | [], _, _ => rfl
  | v :: r, i, w => by rw [setCellsW, setCellsW_other h r, Addr.add_lit, Nat.zero_add, cS_blk h]
theorem setCellsW_frozen {b : Nat} {p : Addr} : ∀ (l : List Value) (i : Nat) (w : World), (setCellsW w ⟨b, 0, none⟩ i l).frozen? p = w.frozen? p
  | [], _, _ => rfl
  | v :: r, i, w => by rw [setCellsW, setCellsW_frozen r, World.frozen?_setCell]
theorem setCellsW_cell {b j : Nat} : ∀ (l : List Value) (i : Nat) (w : World), (setCellsW w ⟨b, 0, none⟩ i l).cell? ⟨b, j, none⟩ = if i ≤ j then fillO (w.cell? ⟨b, j, none⟩) l[j - i]? else w.cell? ⟨b, j, none⟩
  | [], i, w => by
    simp only [setCellsW]
    split
    · cases w.cell? ⟨b, j, none⟩ <;> rfl
    · rfl
  | v :: r, i, w => by
    rw [setCellsW, setCellsW_cell r, Addr.add_lit, Nat.zero_add]
    by_cases h : i = j
    · subst h
      rw [if_neg (by omega), if_pos (Nat.le_refl _), cS_same, Nat.sub_self]
      cases w.cell? ⟨b, i, none⟩ <;> rfl
    · rw [cS_off h]
      by_cases h1 : i ≤ j
      · rw [if_pos (by omega), if_pos h1, show j - i = (j - (i + 1)) + 1 by omega]; rfl
      · rw [if_neg (by omega), if_neg h1]
theorem cF_same {b j : Nat} {cs : Array Value} : (w.fill b cs).cell? ⟨b, j, none⟩ = fillO (w.cell? ⟨b, j, none⟩) cs[j]? := by
  unfold World.fill
  rw [setCellsW_cell, if_pos (Nat.zero_le _), Nat.sub_zero]; simp
theorem cF_blk {b b' j : Nat} {cs : Array Value} (h : b ≠ b') : (w.fill b cs).cell? ⟨b', j, none⟩ = w.cell? ⟨b', j, none⟩ := setCellsW_other h _ _ _
theorem fF_any {b : Nat} {cs : Array Value} {p : Addr} : (w.fill b cs).frozen? p = w.frozen? p := setCellsW_frozen _ _ _
theorem size_fill {b : Nat} {cs : Array Value} : (w.fill b cs).heap.size = w.heap.size := setCellsW_size _ _ _
theorem Below.fill {a : World} {n b : Nat} {cs : Array Value} (h : Below n a w) (hb : n ≤ b) : Below n a (w.fill b cs) := by
  have : ∀ (l : List Value) (i : Nat) (w : World), Below n a w → Below n a (setCellsW w ⟨b, 0, none⟩ i l) := by
    intro l
    induction l with
    | nil => intro i w h; exact h
    | cons v r ih => intro i w h; rw [setCellsW, Addr.add_lit]; exact ih _ _ (h.setCell hb v)
  exact this _ _ _ h
theorem Chg.fill {S : Nat → Prop} {a : World} {b : Nat} {cs : Array Value} (h : Chg S a w) (hb : b < a.heap.size → S b) : Chg S a (w.fill b cs) := by
  have : ∀ (l : List Value) (i : Nat) (w : World), Chg S a w → Chg S a (setCellsW w ⟨b, 0, none⟩ i l) := by
    intro l
    induction l with
    | nil => intro i w h; exact h
    | cons v r ih => intro i w h; rw [setCellsW, Addr.add_lit]; exact ih _ _ (h.setCell _ v hb)
  exact this _ _ _ h
theorem Blk.fill {b : Nat} {z cs : Array Value} (h : Blk w b z t) (hs : z.size = cs.size) : Blk (w.fill b cs) b cs t := by
  have : ∀ (l : List Value) (i : Nat) (z : Array Value) (w : World), Blk w b z t → Blk (setCellsW w ⟨b, 0, none⟩ i l) b (setFrom z i l) t := by
    intro l
    induction l with
    | nil => intro i z w h; exact h
    | cons v r ih => intro i z w h; rw [setCellsW, Addr.add_lit, setFrom, Nat.zero_add]; exact ih _ _ _ (h.set i v)
  have h1 := this cs.toList 0 z w h
  rw [setFrom_all _ _ (by simpa using hs)] at h1
  exact h1
/-- That a struct can be stored into what is there. -/
def okSt (w : World) (b : Nat) : Nat → List Value → Prop
  | _, [] => True
  | i, v :: r => v.oneCell' = true ∧ (∃ old, w.cell? ⟨b, i, none⟩ = some old) ∧ w.frozen? ⟨b, i, none⟩ = false ∧ okSt w b (i + 1) r
theorem okSt_nil {b i : Nat} : okSt w b i [] = True := rfl
theorem okSt_cons {b i : Nat} {v : Value} {r : List Value} : okSt w b i (v :: r) = (v.oneCell' = true ∧ (∃ old, w.cell? ⟨b, i, none⟩ = some old) ∧ w.frozen? ⟨b, i, none⟩ = false ∧ okSt w b (i + 1) r) := rfl
theorem okSt_iff {b : Nat} : ∀ (l : List Value) (i : Nat), okSt w b i l ↔ (∀ u ∈ l, u.oneCell' = true) ∧ ∀ j, j < l.length → (∃ old, w.cell? ⟨b, i + j, none⟩ = some old) ∧ w.frozen? ⟨b, i + j, none⟩ = false
  | [], i => by simp [okSt]
  | v :: r, i => by
    rw [okSt, okSt_iff r (i + 1)]
    constructor
    · rintro ⟨h1, h2, h3, h4, h5⟩
      refine ⟨fun u hu => ?_, fun j hj => ?_⟩
      · rcases List.mem_cons.1 hu with rfl | hu
        · exact h1
        · exact h4 u hu
      · match j, hj with
        | 0, _ => exact ⟨h2, h3⟩
        | j + 1, hj => have := h5 j (by simpa using hj); rwa [show i + 1 + j = i + (j + 1) by omega] at this
    · rintro ⟨h1, h2⟩
      refine ⟨h1 v List.mem_cons_self, (h2 0 (by simp)).1, (h2 0 (by simp)).2, fun u hu => h1 u (List.mem_cons_of_mem _ hu), fun j hj => ?_⟩
      have := h2 (j + 1) (by simpa using hj)
      rwa [show i + (j + 1) = i + 1 + j by omega] at this
theorem storeW_agg {b : Nat} {cs : Array Value} : storeW P t ⟨b, 0, none⟩ (.agg cs) w K = (sizeT P t = some cs.size ∧ okSt w b 0 cs.toList ∧ K undef (w.fill b cs)) := by
  apply propext
  rw [okSt_iff]
  have e : (Value.agg cs).cells = cs := rfl
  unfold storeW
  rw [e]
  constructor
  · rintro ⟨h1, h2, h3, h4⟩
    exact ⟨h1, ⟨h2, fun j hj => by have := h3 j (by simpa using hj); rwa [Addr.add_lit] at this⟩, h4⟩
  · rintro ⟨h1, ⟨h2, h3⟩, h4⟩
    exact ⟨h1, h2, fun j hj => by have := h3 j (by simpa using hj); rwa [Addr.add_lit], h4⟩
theorem bV_aeql {xs ys : Array Value} : binV P .eql t (.agg xs) (.agg ys) = agV P .eql (flatT P t) xs.toList ys.toList := rfl
theorem bV_aneq {xs ys : Array Value} : binV P .neq t (.agg xs) (.agg ys) = agV P .neq (flatT P t) xs.toList ys.toList := rfl
theorem agV_eql {ks : List FK} {xs ys : List Value} : agV P .eql (some ks) xs ys = agPV (aggEq ks xs ys) id := rfl
theorem agV_neq {ks : List FK} {xs ys : List Value} : agV P .neq (some ks) xs ys = agPV (aggEq ks xs ys) not := rfl
theorem agPV_some {b : Bool} {f : Bool → Bool} : agPV (some b) f = some (True, .bool (f b)) := rfl
attribute [go_sem] bV_aeql bV_aneq agV_eql agV_neq agPV_some id_eq List.toList_toArray
attribute [go_sem low] storeW_agg cellsO_cons

/-! ### Loops: the slots that change. -/
/-- The slots, with what the first list says in their place. -/
def ovr (ch : Env) : Env → Env
  | [] => []
  | (n, v) :: ρ => (n, (lk ch n).getD v) :: ovr ch ρ
theorem ovr_nil {ch : Env} : ovr ch [] = [] := rfl
theorem ovr_cons {ch : Env} {n : Nat} {v : Value} {ρ : Env} : ovr ch ((n, v) :: ρ) = (n, (lk ch n).getD v) :: ovr ch ρ := rfl
theorem W_loopU {σ : Type} {c : Cmd} {ρ : Env} {Q : Post} (ch : σ → Env) (R : σ → World → Prop) (μ : σ → Nat) (s0 : σ) (h0 : ρ = ovr (ch s0) ρ) (hR : R s0 w)
    (round : ∀ s w, R s w → W P c (ovr (ch s) ρ) w (loopS (fun s => ovr (ch s) ρ) R μ s Q)) : W P (.loop c) ρ w Q :=
  W_loop (fun s => ovr (ch s) ρ) R μ s0 h0 hR round
end
end Go.Ann
namespace Go.Ann
open Go Go.RowKit Go.WideShapes
set_option linter.unusedVariables false
set_option linter.unusedSimpArgs false

/-- A slice of things of a fixed size that can be read. -/
def RdS {α : Type} (w : World) (sz : Nat) (enc : α → List Value) (v : Value) (xs : List α) : Prop := Rd w sz v xs.length (xs.flatMap enc)
/-- A slice of things that are told by a relation. -/
def RdR {α : Type} (w : World) (sz : Nat) (R : World → α → List Value → Prop) (v : Value) (xs : List α) : Prop :=
  ∃ cs : List (List Value), cs.length = xs.length ∧ (∀ (i : Nat) (c : List Value) (x : α), cs[i]? = some c → xs[i]? = some x → c.length = sz ∧ R w x c) ∧ Rd w sz v xs.length cs.flatten

section
variable {α : Type} {w : World} {sz : Nat} {enc : α → List Value} {v : Value} {xs : List α}
theorem RdS.form (h : RdS w sz enc v xs) : ∃ a cap, v = .slice a xs.length cap ∧ xs.length ≤ cap := by
  obtain ⟨_, a, cap, rfl, h2, _⟩ := h
  exact ⟨a, cap, rfl, h2⟩
theorem RdS.ptr {a : Option Addr} {n cap : Nat} (h : RdS w sz enc (.slice a n cap) xs) (h0 : 0 < xs.length) : ∃ ad, a = some ad := by
  obtain ⟨_, a', cap', he, h2, h3⟩ := h
  simp only [Value.slice.injEq] at he
  obtain ⟨rfl, rfl, rfl⟩ := he
  obtain ⟨ad, rfl, _⟩ := h3 (by omega)
  exact ⟨ad, rfl⟩
theorem RdS.at {ad : Addr} {n cap : Nat} (h : RdS w sz enc (.slice (some ad) n cap) xs) (hsz : ∀ x, (enc x).length = sz) {k : Nat} (hk : k < xs.length) : cellsO w (ad.add (k * sz)) 0 sz = some (enc xs[k]) := by
  obtain ⟨h1, a', cap', he, h2, h3⟩ := h
  simp only [Value.slice.injEq] at he
  obtain ⟨rfl, rfl, rfl⟩ := he
  obtain ⟨ad', e, h4⟩ := h3 (by omega)
  simp only [Option.some.injEq] at e; subst e
  exact cellsAt_iff.1 ⟨cellsAt_flat hsz h4 (List.getElem?_eq_getElem hk), hsz _⟩
theorem cellsO_one {p : Addr} {u : Value} (h : cellsO w p 0 1 = some [u]) : w.cell? p = some u := by
  have := (of_cellsO h).2 0 u rfl
  simpa only [Nat.add_zero, Addr.add_zero'] using this
theorem RdS.at1 {e1 : α → Value} {ad : Addr} {n cap : Nat} (h : RdS w 1 (fun x => [e1 x]) (.slice (some ad) n cap) xs) {k : Nat} (hk : k < xs.length) : w.cell? (ad.add k) = some (e1 xs[k]) := by
  have := h.at (fun _ => rfl) hk
  rw [Nat.mul_one] at this
  exact cellsO_one this
/-- One field of an element. -/
theorem RdS.atF {ad : Addr} {n cap : Nat} (h : RdS w sz enc (.slice (some ad) n cap) xs) (hsz : ∀ x, (enc x).length = sz) {k : Nat} (hk : k < xs.length) {j : Nat} {u : Value} (hj : (enc xs[k])[j]? = some u) : w.cell? ((ad.add (k * sz)).add j) = some u := by
  have := (of_cellsO (h.at hsz hk)).2 j u hj
  rwa [Nat.zero_add] at this
theorem RdS.at0 {ad : Addr} {n cap : Nat} (h : RdS w sz enc (.slice (some ad) n cap) xs) (hsz : ∀ x, (enc x).length = sz) {k : Nat} (hk : k < xs.length) {u : Value} (hj : (enc xs[k])[0]? = some u) : w.cell? (ad.add (k * sz)) = some u := by
  have := h.atF hsz hk hj
  rwa [Addr.add_zero'] at this
theorem add_off (p : Addr) (m : Nat) : (p.add m).off = p.off + m := by unfold Addr.add; split <;> simp_all
theorem add_lit1 (p : Addr) (m j : Nat) (hj : 0 < j) : (p.add m).add j = ⟨p.block, p.off + m + j, none⟩ := by
  rw [show ((p.add m).add j) = { (p.add m) with off := (p.add m).off + j, spot := none } by rw [Addr.add, if_neg (by omega)]]
  show (⟨(p.add m).block, (p.add m).off + j, none⟩ : Addr) = _
  rw [add_off, add_block]
/-- The cells of an element, as rules. -/
theorem RdS.elt {ad : Addr} {n cap : Nat} (h : RdS w sz enc (.slice (some ad) n cap) xs) (hsz : ∀ x, (enc x).length = sz) (h0 : 0 < sz) {k : Nat} (hk : k < xs.length) :
    w.cell? (ad.add (k * sz)) = (enc xs[k])[0]? ∧ ∀ j, 0 < j → j < sz → w.cell? ⟨ad.block, ad.off + k * sz + j, none⟩ = (enc xs[k])[j]? := by
  have key : ∀ j, j < sz → w.cell? ((ad.add (k * sz)).add j) = (enc xs[k])[j]? := fun j hj => by
    have hl : j < (enc xs[k]).length := by rw [hsz]; exact hj
    rw [List.getElem?_eq_getElem hl]
    exact h.atF hsz hk (List.getElem?_eq_getElem hl)
  refine ⟨by have := key 0 h0; rwa [Addr.add_zero'] at this, fun j h1 h2 => ?_⟩
  rw [← add_lit1 _ _ _ h1]; exact key j h2
theorem RdS.chg {S : Nat → Prop} {w' : World} {a : Option Addr} {n cap : Nat} (h : RdS w sz enc (.slice a n cap) xs) (hc : Chg S w w') (hS : ∀ p, a = some p → ¬ S p.block) : RdS w' sz enc (.slice a n cap) xs := by
  have e : n = xs.length := by
    obtain ⟨_, a', cap', he, _⟩ := h
    simp only [Value.slice.injEq] at he
    exact he.2.1
  subst e
  exact Chg.rd hc h hS
theorem RdS.below {w' : World} (h : RdS w sz enc v xs) (hb : Below w.heap.size w w') (hs : 0 < sz) : RdS w' sz enc v xs := Rd.below h hb hs
theorem RdS.eltB {w' : World} {ad : Addr} {n cap : Nat} (h : RdS w sz enc (.slice (some ad) n cap) xs) (hb : Below w.heap.size w w') (hsz : ∀ x, (enc x).length = sz) (h0 : 0 < sz) {k : Nat} (hk : k < xs.length) :
    w'.cell? (ad.add (k * sz)) = (enc xs[k])[0]? ∧ ∀ j, 0 < j → j < sz → w'.cell? ⟨ad.block, ad.off + k * sz + j, none⟩ = (enc xs[k])[j]? := (h.below hb h0).elt hsz h0 hk
theorem RdS.blt {ad : Addr} {n cap : Nat} (h : RdS w sz enc (.slice (some ad) n cap) xs) (hsz : ∀ x, (enc x).length = sz) (h0 : 0 < sz) (hk : 0 < xs.length) : ad.block < w.heap.size := by
  have := (h.elt hsz h0 hk).1
  rw [List.getElem?_eq_getElem (show 0 < (enc xs[0]).length by rw [hsz]; exact h0)] at this
  have := World.block_lt_of_cell? w _ this
  rwa [add_block] at this
theorem RdS.of_own {B e : Nat} (h : w.ownsRow B e sz v xs.length (xs.flatMap enc)) : RdS w sz enc v xs := Rd.of_own h
theorem cellsO_below {w' : World} {p : Addr} {n : Nat} {cs : List Value} (hb : Below w.heap.size w w') (h : cellsO w p 0 n = some cs) : cellsO w' p 0 n = some cs := by
  obtain ⟨h1, h2⟩ := cellsAt_iff.2 h
  exact cellsAt_iff.1 ⟨h1.below hb, h2⟩
theorem cell_below {w' : World} {p : Addr} {u : Value} (hb : Below w.heap.size w w') (h : w.cell? p = some u) : w'.cell? p = some u :=
  (hb.cell (World.block_lt_of_cell? w _ h)).trans h
theorem RdS.nil : RdS w sz enc (.slice none 0 0) [] := ⟨by simp, none, 0, rfl, Nat.le_refl _, fun h => absurd rfl h⟩
end

/-! ### Slices of things that are told by a relation. -/
section
variable {α : Type} {w w' : World} {sz : Nat} {R : World → α → List Value → Prop} {v : Value} {xs : List α}
theorem RdR.form (h : RdR w sz R v xs) : ∃ a cap, v = .slice a xs.length cap ∧ xs.length ≤ cap := by
  obtain ⟨cs, _, _, _, a, cap, rfl, h2, _⟩ := h
  exact ⟨a, cap, rfl, h2⟩
theorem RdR.ptr {a : Option Addr} {n cap : Nat} (h : RdR w sz R (.slice a n cap) xs) (h0 : 0 < xs.length) : ∃ ad, a = some ad := by
  obtain ⟨cs, _, _, _, a', cap', he, h2, h3⟩ := h
  simp only [Value.slice.injEq] at he
  obtain ⟨rfl, rfl, rfl⟩ := he
  obtain ⟨ad, rfl, _⟩ := h3 (by omega)
  exact ⟨ad, rfl⟩
theorem flatten_at : ∀ (cs : List (List Value)) (k j : Nat) (c : List Value) (u : Value), (∀ c ∈ cs, c.length = sz) → cs[k]? = some c → c[j]? = some u → cs.flatten[k * sz + j]? = some u
  | [], k, j, c, u, _, h, _ => by simp at h
  | d :: cs, 0, j, c, u, hs, h, hu => by
    simp only [List.getElem?_cons_zero, Option.some.injEq] at h; subst h
    rw [Nat.zero_mul, Nat.zero_add, List.flatten_cons, List.getElem?_append_left (List.getElem?_eq_some_iff.1 hu).1]
    exact hu
  | d :: cs, k + 1, j, c, u, hs, h, hu => by
    have hd : d.length = sz := hs d List.mem_cons_self
    rw [List.flatten_cons, List.getElem?_append_right (by rw [hd, Nat.add_mul]; omega), hd]
    rw [show (k + 1) * sz + j - sz = k * sz + j by rw [Nat.add_mul]; omega]
    exact flatten_at cs k j c u (fun x hx => hs x (List.mem_cons_of_mem _ hx)) (by simpa using h) hu
/-- An element: what it is, and its cells as rules. -/
theorem RdR.elt {ad : Addr} {n cap : Nat} (h : RdR w sz R (.slice (some ad) n cap) xs) (h0 : 0 < sz) {k : Nat} (hk : k < xs.length) :
    ∃ c, c.length = sz ∧ R w xs[k] c ∧ cellsO w (ad.add (k * sz)) 0 sz = some c ∧ (w.cell? (ad.add (k * sz)) = c[0]? ∧ ∀ j, 0 < j → j < sz → w.cell? ⟨ad.block, ad.off + k * sz + j, none⟩ = c[j]?) := by
  obtain ⟨cs, h1, h2, h3, a', cap', he, h4, h5⟩ := h
  simp only [Value.slice.injEq] at he
  obtain ⟨rfl, rfl, rfl⟩ := he
  obtain ⟨ad', e, h6⟩ := h5 (by omega)
  simp only [Option.some.injEq] at e; subst e
  have hkc : k < cs.length := by omega
  have hel := h2 k cs[k] xs[k] (List.getElem?_eq_getElem hkc) (List.getElem?_eq_getElem hk)
  have hall : ∀ c ∈ cs, c.length = sz := by
    intro c hc
    obtain ⟨i, hi, rfl⟩ := List.mem_iff_getElem.1 hc
    exact (h2 i cs[i] (xs[i]'(by omega)) (List.getElem?_eq_getElem hi) (List.getElem?_eq_getElem (by omega))).1
  have key : ∀ j, j < sz → w.cell? ((ad.add (k * sz)).add j) = cs[k][j]? := fun j hj => by
    have hj' : j < cs[k].length := by rw [hel.1]; exact hj
    rw [List.getElem?_eq_getElem hj', add_add]
    exact h6 _ _ (flatten_at cs k j cs[k] _ hall (List.getElem?_eq_getElem hkc) (List.getElem?_eq_getElem hj'))
  refine ⟨cs[k], hel.1, hel.2, cellsAt_iff.1 ⟨fun j u hu => ?_, hel.1⟩, ?_, fun j h1 h2 => ?_⟩
  · rw [key j (by rw [← hel.1]; exact (List.getElem?_eq_some_iff.1 hu).1)]; exact hu
  · have := key 0 h0; rwa [Addr.add_zero'] at this
  · rw [← add_lit1 _ _ _ h1]; exact key j h2
theorem RdR.blt {ad : Addr} {n cap : Nat} (h : RdR w sz R (.slice (some ad) n cap) xs) (h0 : 0 < sz) (hk : 0 < xs.length) : ad.block < w.heap.size := by
  obtain ⟨c, hc, _, _, h1, _⟩ := h.elt h0 hk
  rw [List.getElem?_eq_getElem (show 0 < c.length by rw [hc]; exact h0)] at h1
  have := World.block_lt_of_cell? w _ h1
  rwa [add_block] at this
theorem RdR.below (h : RdR w sz R v xs) (hb : Below w.heap.size w w') (hs : 0 < sz) (hR : ∀ x c, R w x c → R w' x c) : RdR w' sz R v xs := by
  obtain ⟨cs, h1, h2, h3⟩ := h
  exact ⟨cs, h1, fun i c x hc hx => ⟨(h2 i c x hc hx).1, hR _ _ (h2 i c x hc hx).2⟩, Rd.below h3 hb hs⟩
theorem RdR.imp {R' : World → α → List Value → Prop} (h : RdR w sz R v xs) (hR : ∀ x c, x ∈ xs → R w x c → R' w x c) : RdR w sz R' v xs := by
  obtain ⟨cs, h1, h2, h3⟩ := h
  exact ⟨cs, h1, fun i c x hc hx => ⟨(h2 i c x hc hx).1, hR _ _ (List.mem_of_getElem? hx) (h2 i c x hc hx).2⟩, h3⟩
theorem RdR.nil : RdR w sz R (.slice none 0 0) [] := ⟨[], rfl, fun i c x h => by simp at h, by simp, none, 0, rfl, Nat.le_refl _, fun h => absurd rfl h⟩
end

/-- How a type's things are read off their cells. -/
def Opens {α : Type} (P : Program) (t : TypeId) (R : World → α → List Value → Prop) : Prop :=
  ∀ {H : Type} (enc : TypeId × Value → H) (w : World) (base : Nat) (sp : Nat → Bool) (hd : Bool) (fuel : Nat) (cs : List Value) (x : DataW H × List MemPlace),
    DataW.trod enc P w base sp hd fuel t cs = some x → ∃ a, R w a cs
section
variable {P : Program} {t e : TypeId} {α β : Type}
theorem Opens.mono {R : World → α → List Value → Prop} {R' : World → β → List Value → Prop} (h : Opens P t R) (hr : ∀ w a cs, R w a cs → ∃ b, R' w b cs) : Opens P t R' := by
  intro H enc w base sp hd fuel cs x hx
  obtain ⟨a, ha⟩ := h enc w base sp hd fuel cs x hx
  exact hr w a cs ha
def kOk (k : IntKind) (n : Int) : Prop := (Lit.int k n).wf = true
def intR (k : IntKind) (_ : World) (n : Int) (cs : List Value) : Prop := cs = [.int k n] ∧ kOk k n
def boolR (_ : World) (b : Bool) (cs : List Value) : Prop := cs = [.bool b]
def strR (_ : World) (l : List UInt8) (cs : List Value) : Prop := cs = [.string (ofL l)] ∧ (l.length : Int) ≤ 9223372036854775807
theorem opens_int {k : IntKind} (ht : P.underlying t = some (.int k)) : Opens P t (intR k) := by
  intro H enc w base sp hd fuel cs x hx
  obtain ⟨n, rfl, _, h⟩ := DataW.trod_int ht hx
  exact ⟨n, rfl, h⟩
theorem opens_bool (ht : P.underlying t = some .bool) : Opens P t boolR := by
  intro H enc w base sp hd fuel cs x hx
  obtain ⟨b, rfl, _⟩ := DataW.trod_bool ht hx
  exact ⟨b, rfl⟩
theorem opens_str (ht : P.underlying t = some .string) : Opens P t strR := by
  intro H enc w base sp hd fuel cs x hx
  obtain ⟨s, rfl, _, h⟩ := DataW.trod_string ht hx
  exact ⟨toL s, rfl, len_of_max h⟩
theorem opens_slice {R : World → α → List Value → Prop} {sz : Nat} (he : Opens P e R) (ht : P.underlying t = some (.slice e)) (hc : P.cellsOf e = sz) :
    Opens P t (fun w (xs : List α) cs => ∃ v, cs = [v] ∧ RdR w sz R v xs ∧ (xs.length : Int) ≤ 9223372036854775807) := by
  intro H enc w base sp hd fuel cs x hx
  rcases Go.Deep.open_slice ht hx with ⟨rfl, _⟩ | ⟨a, len, cap, m, n, D, Pl, rfl, _, hl, hm, hmm, _, hel⟩
  · exact ⟨[], _, rfl, ⟨[], rfl, fun i c x h => by simp at h, by simp, none, 0, rfl, Nat.le_refl _, fun h => absurd rfl h⟩, by simp⟩
  have hlm : len ≤ m := by rw [hmm]; split <;> omega
  have each : ∀ i, i < len → ∃ q : List Value × α, w.cells? base (a.add (i * sz)) sz = some q.1 ∧ R w q.2 q.1 := by
    intro i hi
    obtain ⟨cs', h1, h2⟩ := hel i (by omega)
    obtain ⟨y, hy⟩ := he enc w base sp hd n cs' _ h2
    rw [hc] at h1
    exact ⟨(cs', y), h1, hy⟩
  by_cases h0 : len = 0
  · subst h0
    exact ⟨[], _, rfl, ⟨[], rfl, fun i c x h => by simp at h, by simp, some a, cap, rfl, hl, fun h => absurd rfl h⟩, by simp⟩
  obtain ⟨q0, _⟩ := each 0 (by omega)
  haveI : Inhabited (List Value × α) := ⟨q0⟩
  obtain ⟨q, hq⟩ := Go.Deep.choose_lt each
  have hln : ∀ i, i < len → (q i).1.length = sz := fun i hi => (World.cells?_some (hq i hi).1).2.1
  have hml : maxLen = 9223372036854775807 := by decide
  refine ⟨(List.range len).map fun i => (q i).2, _, rfl, ⟨(List.range len).map fun i => (q i).1, by simp, ?_, ?_, some a, cap, by simp, by simpa using hl, fun _ => ⟨a, rfl, ?_⟩⟩, by simp; omega⟩
  · intro i c y h1 h2
    simp only [List.getElem?_map, Option.map_eq_some_iff] at h1 h2
    obtain ⟨i1, e1, rfl⟩ := h1
    obtain ⟨i2, e2, rfl⟩ := h2
    rw [e1] at e2
    simp only [Option.some.injEq] at e2; subst e2
    have := List.mem_range.1 (List.mem_of_getElem? e1)
    exact ⟨hln _ this, (hq _ this).2⟩
  · rw [List.length_flatten]
    have : ∀ (l : List Nat), (∀ i ∈ l, i < len) → ((l.map fun i => (q i).1).map List.length).sum = l.length * sz := by
      intro l
      induction l with
      | nil => intro _; simp
      | cons i l ih =>
        intro h
        simp only [List.map_cons, List.sum_cons, List.length_cons]
        rw [ih fun j hj => h j (List.mem_cons_of_mem _ hj), hln i (h i List.mem_cons_self), Nat.add_mul]; omega
    rw [this (List.range len) fun i hi => List.mem_range.1 hi]
    simp
  · intro j u hj
    have hsz0 : 0 < sz := by
      rcases Nat.eq_zero_or_pos sz with hz | hz
      · exfalso
        have : ((List.range len).map fun i => (q i).1).flatten = [] := by
          rw [List.flatten_eq_nil_iff]
          intro l hl
          obtain ⟨i, hi, rfl⟩ := List.mem_map.1 hl
          exact List.eq_nil_of_length_eq_zero (by rw [hln i (List.mem_range.1 hi), hz])
        rw [this] at hj; simp at hj
      · exact hz
    have hmap : ((List.range len).map fun i => (q i).1).flatten = (List.range len).flatMap fun i => ((List.range sz).map fun s => (q i).1.getD s default) := by
      rw [List.flatMap_def]
      congr 1
      refine List.map_congr_left fun i hi => ?_
      have hl' := hln i (List.mem_range.1 hi)
      apply List.ext_getElem?
      intro s
      by_cases hs : s < sz
      · simp [hs, List.getElem?_eq_getElem (show s < (q i).1.length by omega)]
      · rw [List.getElem?_eq_none (by omega), List.getElem?_eq_none (by simp; omega)]
    rw [hmap] at hj
    have hd' : j = (j / sz) * sz + j % sz := by rw [Nat.mul_comm]; exact (Nat.div_add_mod j sz).symm
    have hm' : j % sz < sz := Nat.mod_lt _ hsz0
    rw [hd', flat_get (fun i => (List.range sz).map fun s => (q i).1.getD s default) sz (fun i => by simp) (List.range len) (j / sz) (j % sz) hm'] at hj
    simp only [Option.bind_eq_some_iff] at hj
    obtain ⟨i, hi, hj⟩ := hj
    have hi' := List.getElem?_eq_some_iff.1 hi
    obtain ⟨hi1, hi2⟩ := hi'
    simp only [List.getElem_range] at hi2
    subst hi2
    have hlt : j / sz < len := by simpa using hi1
    obtain ⟨_, _, hcell⟩ := World.cells?_some (hq _ hlt).1
    have h9 := hcell (j % sz) hm'
    rw [add_add, ← hd'] at h9
    rw [h9]
    have hl' := hln _ hlt
    simp only [List.getElem?_map, List.getElem?_range hm', Option.map_some, Option.some.injEq] at hj
    rw [← hj, List.getElem?_eq_getElem (by omega), List.getD_eq_getElem?_getD, List.getElem?_eq_getElem (by omega)]; rfl

/-- Things that are plainly encoded. -/
theorem RdR.plain {w : World} {R : World → α → List Value → Prop} {sz : Nat} {enc : α → List Value} {ok : α → Prop} {v : Value} {xs : List α} (h : RdR w sz R v xs) (hr : ∀ x c, R w x c → c = enc x ∧ ok x) :
    RdS w sz enc v xs ∧ ∀ x ∈ xs, ok x := by
  obtain ⟨cs, h1, h2, h3⟩ := h
  have hcs : cs = xs.map enc := by
    apply List.ext_getElem?
    intro i
    by_cases hi : i < cs.length
    · have := h2 i cs[i] (xs[i]'(by omega)) (List.getElem?_eq_getElem hi) (List.getElem?_eq_getElem (by omega))
      rw [List.getElem?_eq_getElem hi, List.getElem?_map, List.getElem?_eq_getElem (by omega), (hr _ _ this.2).1]; rfl
    · rw [List.getElem?_eq_none (by omega), List.getElem?_eq_none (by simp; omega)]
  constructor
  · unfold RdS
    rw [List.flatMap_def, ← hcs]
    exact h3
  · intro x hx
    obtain ⟨i, hi, rfl⟩ := List.mem_iff_getElem.1 hx
    exact (hr _ _ (h2 i (cs[i]'(by omega)) xs[i] (List.getElem?_eq_getElem (by omega)) (List.getElem?_eq_getElem hi)).2).2

/-- A field's cells. -/
theorem opens_fields {fs : Array Field} (ht : P.underlying t = some (.struct fs)) {H : Type} {enc : TypeId × Value → H} {w : World} {base : Nat} {sp : Nat → Bool} {hd : Bool} {fuel : Nat} {cs : List Value} {x : DataW H × List MemPlace}
    (h : DataW.trod enc P w base sp hd fuel t cs = some x) : cs.length = P.cellsOf t ∧ ∀ (i : Nat) (f : Field), fs[i]? = some f → ∃ n y, DataW.trod enc P w base sp hd n f.type ((cs.drop f.offset).take (P.cellsOf f.type)) = some y := by
  obtain ⟨xs, n, rfl, _, h1, h2, h3⟩ := DataW.trod_struct ht h
  refine ⟨h1, fun i f hf => ⟨n, ?_⟩⟩
  have := h3 i f hf
  have hi : i < xs.length := by rw [h2]; exact (Array.getElem?_eq_some_iff.1 hf).1
  rw [List.getElem?_eq_getElem hi] at this
  exact ⟨_, this⟩
/-- An argument that is a slice. -/
theorem Opens.slice_arg {H : Type} {enc : TypeId × Value → H} {w : World} {r : Reach} {b base : Nat} {sp : Nat → Bool} {hd : Bool} {v : Value} {d : DataW H} {ps : List MemPlace} {R : World → List α → Value → Prop}
    (h : Opens P t (fun w (xs : List α) cs => ∃ v, cs = [v] ∧ R w xs v)) (ht : P.underlying t = some (.slice e)) (hv : Value.okWide P w r b t v) (hk : DataW.Trod enc P w base sp hd t v d ps) : ∃ xs, R w xs v := by
  obtain ⟨fuel, hk⟩ := hk
  obtain ⟨xs, v', h1, h2⟩ := h enc w base sp hd fuel _ _ hk
  obtain ⟨a, n, c, rfl⟩ := okWide_slice ht hv
  simp only [Value.cells, List.cons.injEq, and_true] at h1
  subst h1
  exact ⟨xs, h2⟩
/-- An argument that is a struct. -/
theorem Opens.struct_arg {H : Type} {enc : TypeId × Value → H} {w : World} {r : Reach} {b base : Nat} {sp : Nat → Bool} {hd : Bool} {v : Value} {d : DataW H} {ps : List MemPlace} {R : World → α → List Value → Prop} {fs : Array Field}
    (h : Opens P t R) (ht : P.underlying t = some (.struct fs)) (hv : Value.okWide P w r b t v) (hk : DataW.Trod enc P w base sp hd t v d ps) : ∃ a cs, v = .agg cs.toArray ∧ R w a cs := by
  obtain ⟨fuel, hk⟩ := hk
  obtain ⟨a, h1⟩ := h enc w base sp hd fuel _ _ hk
  obtain ⟨cs, rfl, _⟩ := okWide_struct ht hv
  exact ⟨a, cs.toList, by simp, h1⟩
end
end Go.Ann
namespace Go.Ann
open Go Go.RowKit Go.WideShapes
set_option linter.unusedVariables false
set_option linter.unusedSimpArgs false

/-- A thing of the walk's own: a block, whole; or a slice that may be appended to. -/
inductive Res where
  | blk (b : Nat) (cs : Array Value) (t : TypeId)
  | row (v : Value) (e sz n : Nat) (xs : List Value)
  | obj (b : Nat) (o : Obj)
def Res.own : Res → Option Nat
  | .blk b _ _ => some b
  | .row v _ _ _ _ => v.ownBlock
  | .obj b _ => some b
def Res.ok (w : World) (base : Nat) : Res → Prop
  | .blk b cs t => Blk w b cs t ∧ base ≤ b
  | .row v e sz n xs => w.ownsRow base e sz v n xs
  | .obj b o => w.heap[b]? = some o ∧ base ≤ b
/-- A thing that nobody writes: it leans on some blocks alone. -/
structure Inv where
  holds : World → Prop
  foot : Nat → Prop
  loc : ∀ w w' : World, holds w → (∀ k, foot k → w'.heap[k]? = w.heap[k]?) → holds w'
/-- What a walk from W0 holds in w: F the blocks of other things of its own, L its own ones, I what stays. -/
structure St (W0 w : World) (F : Nat → Prop) (L : List Res) (I : List Inv) : Prop where
  bel : Below W0.heap.size W0 w
  foot : ∀ k, F k → W0.heap.size ≤ k ∧ k < w.heap.size
  res : ∀ r ∈ L, r.ok w W0.heap.size ∧ ∀ k, r.own = some k → ¬ F k
  nd : (L.filterMap Res.own).Nodup
  inv : ∀ a ∈ I, a.holds w ∧ ∀ k, a.foot k → k < w.heap.size ∧ ¬ F k ∧ ∀ r ∈ L, r.own ≠ some k

theorem Res.ok.lt {w : World} {base : Nat} {r : Res} (h : r.ok w base) : ∀ k, r.own = some k → base ≤ k ∧ k < w.heap.size := by
  intro k hk
  cases r with
  | blk b cs t => simp only [Res.own, Option.some.injEq] at hk; subst hk; exact ⟨h.2, h.1.lt⟩
  | row v e sz n xs => exact World.ownsRow.lt h k hk
  | obj b o => simp only [Res.own, Option.some.injEq] at hk; subst hk; exact ⟨h.2, (Array.getElem?_eq_some_iff.1 h.1).1⟩
theorem Res.ok.chg {S : Nat → Prop} {w w' : World} {base : Nat} {r : Res} (h : r.ok w base) (hc : Chg S w w') (hS : ∀ k, r.own = some k → ¬ S k) : r.ok w' base := by
  cases r with
  | blk b cs t => exact ⟨h.1.chg hc (hS b rfl), h.2⟩
  | row v e sz n xs => exact hc.own h hS
  | obj b o => exact ⟨(hc.block b (Array.getElem?_eq_some_iff.1 h.1).1 (hS b rfl)).trans h.1, h.2⟩

section
variable {W0 w w' : World} {F F' : Nat → Prop} {L : List Res} {I : List Inv}
theorem St.start : St W0 W0 (fun _ => False) [] [] := ⟨Below.refl _ _, fun _ h => h.elim, fun _ h => (by cases h), List.Pairwise.nil, fun _ h => (by cases h)⟩
theorem St.size (h : St W0 w F L I) : W0.heap.size ≤ w.heap.size := h.bel.size
/-- Nothing that is old is turned. -/
theorem St.below (h : St W0 w F L I) {B : Nat} (hb : Below B w w') (hB : w.heap.size ≤ B) : St W0 w' F L I :=
  have hc : Chg (fun _ => False) w w' := Chg.of_below (hb.mono hB)
  ⟨h.bel.trans (hb.mono (Nat.le_trans h.size hB)), fun k hk => ⟨(h.foot k hk).1, Nat.lt_of_lt_of_le (h.foot k hk).2 hb.size⟩, fun r hr => ⟨(h.res r hr).1.chg hc fun _ _ h => h, (h.res r hr).2⟩, h.nd,
    fun a ha => ⟨a.loc _ _ (h.inv a ha).1 fun k hk => hb.block k (Nat.lt_of_lt_of_le ((h.inv a ha).2 k hk).1 hB), fun k hk => ⟨Nat.lt_of_lt_of_le ((h.inv a ha).2 k hk).1 hb.size, ((h.inv a ha).2 k hk).2⟩⟩⟩
theorem St.call (h : St W0 w F L I) (hb : Below w.heap.size w w') : St W0 w' F L I := h.below hb (Nat.le_refl _)
theorem St.drew (h : St W0 w F L I) : St W0 w.drew F L I := h.below ((Below.refl _ w).drew) (Nat.le_refl _)
theorem St.alloc' (h : St W0 w F L I) (o : Obj) : St W0 (w.alloc o) F L I := h.below ((Below.refl w.heap.size w).alloc (Nat.le_refl _) o) (Nat.le_refl _)
theorem fresh_nd {L : List Res} {r : Res} (hn : (L.filterMap Res.own).Nodup) (hr : ∀ k, r.own = some k → ∀ x ∈ L, x.own ≠ some k) : ((r :: L).filterMap Res.own).Nodup := by
  cases hk : r.own with
  | none => rw [List.filterMap_cons_none hk]; exact hn
  | some k =>
    rw [List.filterMap_cons_some hk]
    refine List.nodup_cons.2 ⟨fun hm => ?_, hn⟩
    obtain ⟨x, hx, hxk⟩ := List.mem_filterMap.1 hm
    exact hr k hk x hx hxk
/-- One thing more, that is new. -/
theorem St.add (h : St W0 w F L I) (hb : Below w.heap.size w w') (r : Res) (hr : r.ok w' W0.heap.size) (hn : ∀ k, r.own = some k → w.heap.size ≤ k) : St W0 w' F (r :: L) I := by
  have h' := h.call hb
  refine ⟨h'.bel, h'.foot, ?_, fresh_nd h.nd fun k hk x hx hxk => ?_, fun a ha => ⟨(h'.inv a ha).1, fun k hk => ⟨((h'.inv a ha).2 k hk).1, ((h'.inv a ha).2 k hk).2.1, ?_⟩⟩⟩
  · intro x hx
    rcases List.mem_cons.1 hx with rfl | hx
    · exact ⟨hr, fun k hk hF => by have := (h.foot k hF).2; have := hn k hk; omega⟩
    · exact h'.res x hx
  · have := ((h.res x hx).1.lt k hxk).2; have := hn k hk; omega
  · intro x hx
    rcases List.mem_cons.1 hx with rfl | hx
    · intro e
      have := hn k e
      have := ((h.inv a ha).2 k hk).1
      omega
    · exact ((h'.inv a ha).2 k hk).2.2 x hx
theorem St.box (h : St W0 w F L I) (cs : Array Value) (t : TypeId) : St W0 (w.alloc (.cells cs t)) F (.blk w.heap.size cs t :: L) I :=
  h.add ((Below.refl _ w).alloc (Nat.le_refl _) _) _ ⟨Blk.new, h.size⟩ fun k hk => by simp only [Res.own, Option.some.injEq] at hk; omega
theorem St.nilRow (h : St W0 w F L I) (e sz : Nat) : St W0 w F (.row (.slice none 0 0) e sz 0 [] :: L) I :=
  h.add (Below.refl _ w) _ (World.ownsRow_nil _ _ _ _) fun k hk => by simp [Res.own, Value.ownBlock] at hk
/-- Some things less, or in another order. -/
theorem St.sub (h : St W0 w F L I) {L' : List Res} (hs : L'.Sublist L) : St W0 w F L' I :=
  ⟨h.bel, h.foot, fun r hr => h.res r (hs.subset hr), h.nd.sublist (hs.filterMap _), fun a ha => ⟨(h.inv a ha).1, fun k hk => ⟨((h.inv a ha).2 k hk).1, ((h.inv a ha).2 k hk).2.1, fun r hr => ((h.inv a ha).2 k hk).2.2 r (hs.subset hr)⟩⟩⟩
theorem St.perm (h : St W0 w F L I) {L' : List Res} (hs : L'.Perm L) : St W0 w F L' I :=
  ⟨h.bel, h.foot, fun r hr => h.res r (hs.subset hr), (hs.filterMap _).nodup_iff.2 h.nd, fun a ha => ⟨(h.inv a ha).1, fun k hk => ⟨((h.inv a ha).2 k hk).1, ((h.inv a ha).2 k hk).2.1, fun r hr => ((h.inv a ha).2 k hk).2.2 r (hs.subset hr)⟩⟩⟩
theorem St.inv_sub (h : St W0 w F L I) {I' : List Inv} (hs : ∀ a ∈ I', a ∈ I) : St W0 w F L I' := ⟨h.bel, h.foot, h.res, h.nd, fun a ha => h.inv a (hs a ha)⟩
/-- The other things of the walk's own are turned. -/
theorem St.chg (h : St W0 w F L I) (hc : Chg F w w') (h1 : ∀ k, k < w.heap.size → F' k → F k) (h2 : ∀ k, F' k → k < w'.heap.size) : St W0 w' F' L I := by
  have fl : ∀ k, F' k → W0.heap.size ≤ k := fun k hk => by
    rcases Nat.lt_or_ge k w.heap.size with h' | h'
    · exact (h.foot k (h1 k h' hk)).1
    · have := h.size; omega
  refine ⟨h.bel.trans (hc.below h.size fun k hk hF => by have := (h.foot k hF).1; omega), fun k hk => ⟨fl k hk, h2 k hk⟩,
    fun r hr => ⟨(h.res r hr).1.chg hc (h.res r hr).2, fun k hk hF => (h.res r hr).2 k hk (h1 k ((h.res r hr).1.lt k hk).2 hF)⟩, h.nd,
    fun a ha => ⟨a.loc _ _ (h.inv a ha).1 fun k hk => hc.block k ((h.inv a ha).2 k hk).1 ((h.inv a ha).2 k hk).2.1, fun k hk => ⟨Nat.lt_of_lt_of_le ((h.inv a ha).2 k hk).1 hc.size, fun hF => ((h.inv a ha).2 k hk).2.1 (h1 k ((h.inv a ha).2 k hk).1 hF), ((h.inv a ha).2 k hk).2.2⟩⟩⟩
theorem nd_other {L : List Res} (hn : (L.filterMap Res.own).Nodup) {i j : Nat} {r x : Res} (hi : L[i]? = some r) (hj : L[j]? = some x) (hij : i ≠ j) {k : Nat} (hr : r.own = some k) : x.own ≠ some k := by
  intro hx
  induction L generalizing i j with
  | nil => simp at hi
  | cons y l ih =>
    match i, j, hi, hj, hij with
    | 0, 0, _, _, h => exact h rfl
    | 0, j + 1, hi, hj, _ =>
      simp only [List.getElem?_cons_zero, Option.some.injEq] at hi; subst hi
      simp only [List.getElem?_cons_succ] at hj
      rw [List.filterMap_cons_some hr] at hn
      exact (List.nodup_cons.1 hn).1 (List.mem_filterMap.2 ⟨x, List.mem_of_getElem? hj, hx⟩)
    | i + 1, 0, hi, hj, _ =>
      simp only [List.getElem?_cons_zero, Option.some.injEq] at hj; subst hj
      simp only [List.getElem?_cons_succ] at hi
      rw [List.filterMap_cons_some hx] at hn
      exact (List.nodup_cons.1 hn).1 (List.mem_filterMap.2 ⟨r, List.mem_of_getElem? hi, hr⟩)
    | i + 1, j + 1, hi, hj, h =>
      simp only [List.getElem?_cons_succ] at hi hj
      refine ih ?_ hi hj (by omega)
      cases hy : y.own with
      | none => rw [List.filterMap_cons_none hy] at hn; exact hn
      | some m => rw [List.filterMap_cons_some hy] at hn; exact (List.nodup_cons.1 hn).2
theorem nd_set {L : List Res} {i : Nat} {r r' : Res} (hn : (L.filterMap Res.own).Nodup) (hi : L[i]? = some r) (h : ∀ k, r'.own = some k → r.own = some k ∨ ∀ x ∈ L, x.own ≠ some k) : ((L.set i r').filterMap Res.own).Nodup := by
  induction L generalizing i with
  | nil => simp at hi
  | cons y l ih =>
    match i, hi with
    | 0, hi =>
      simp only [List.getElem?_cons_zero, Option.some.injEq] at hi; subst hi
      simp only [List.set_cons_zero]
      have hl : (l.filterMap Res.own).Nodup := by
        cases hy : y.own with
        | none => rw [List.filterMap_cons_none hy] at hn; exact hn
        | some m => rw [List.filterMap_cons_some hy] at hn; exact (List.nodup_cons.1 hn).2
      refine fresh_nd hl fun k hk x hx => ?_
      rcases h k hk with h1 | h1
      · intro e
        rw [List.filterMap_cons_some h1] at hn
        exact (List.nodup_cons.1 hn).1 (List.mem_filterMap.2 ⟨x, hx, e⟩)
      · exact h1 x (List.mem_cons_of_mem _ hx)
    | i + 1, hi =>
      simp only [List.getElem?_cons_succ] at hi
      simp only [List.set_cons_succ]
      have hl : (l.filterMap Res.own).Nodup := by
        cases hy : y.own with
        | none => rw [List.filterMap_cons_none hy] at hn; exact hn
        | some m => rw [List.filterMap_cons_some hy] at hn; exact (List.nodup_cons.1 hn).2
      refine fresh_nd (ih hl hi fun k hk => (h k hk).imp id fun h1 x hx => h1 x (List.mem_cons_of_mem _ hx)) fun k hk x hx => ?_
      intro e
      obtain ⟨j, hj, hjx⟩ := List.mem_iff_getElem.1 hx
      rw [List.getElem_set] at hjx
      split at hjx
      · subst hjx
        rcases h k e with h1 | h1
        · have : (y :: l)[0]? = some y := rfl
          exact nd_other hn (i := i + 1) (j := 0) (by simpa using hi) this (by omega) h1 hk
        · exact h1 y List.mem_cons_self hk
      · rw [List.filterMap_cons_some hk] at hn
        subst hjx
        exact (List.nodup_cons.1 hn).1 (List.mem_filterMap.2 ⟨_, List.getElem_mem _, e⟩)
/-- One thing is turned. -/
theorem St.upd (h : St W0 w F L I) (i : Nat) {r : Res} (hi : L[i]? = some r) (hc : Chg (fun k => r.own = some k) w w') (r' : Res) (hr : r'.ok w' W0.heap.size) (hn : ∀ k, r'.own = some k → r.own = some k ∨ w.heap.size ≤ k) : St W0 w' F (L.set i r') I := by
  have hm := List.mem_of_getElem? hi
  have hlow := fun k hk => ((h.res r hm).1.lt k hk)
  have hset : ∀ x ∈ L.set i r', x = r' ∨ ∃ j, j ≠ i ∧ L[j]? = some x := by
    intro x hx
    obtain ⟨j, hj, hjx⟩ := List.mem_iff_getElem.1 hx
    rw [List.getElem_set] at hjx
    split at hjx
    · exact .inl hjx.symm
    · rename_i hij
      exact .inr ⟨j, fun e => hij e.symm, by rw [← hjx]; exact List.getElem?_eq_getElem (by simpa using hj)⟩
  have hF : ∀ k, r'.own = some k → ¬ F k := fun k hk hF => by
    rcases hn k hk with h1 | h1
    · exact (h.res r hm).2 k h1 hF
    · have := (h.foot k hF).2; omega
  refine ⟨h.bel.trans (hc.below h.size fun k hk hS => by have := (hlow k hS).1; omega), fun k hk => ⟨(h.foot k hk).1, Nat.lt_of_lt_of_le (h.foot k hk).2 hc.size⟩, ?_, nd_set h.nd hi fun k hk => ?_, ?_⟩
  · intro x hx
    rcases hset x hx with rfl | ⟨j, hji, hj⟩
    · exact ⟨hr, hF⟩
    · have hx' := List.mem_of_getElem? hj
      exact ⟨(h.res x hx').1.chg hc fun k hk hrk => nd_other h.nd hi hj (Ne.symm hji) hrk hk, (h.res x hx').2⟩
  · rcases hn k hk with h1 | h1
    · exact .inl h1
    · exact .inr fun x hx hxk => by have := ((h.res x hx).1.lt k hxk).2; omega
  · intro a ha
    refine ⟨a.loc _ _ (h.inv a ha).1 fun k hk => hc.block k ((h.inv a ha).2 k hk).1 (((h.inv a ha).2 k hk).2.2 r hm), fun k hk => ⟨Nat.lt_of_lt_of_le ((h.inv a ha).2 k hk).1 hc.size, ((h.inv a ha).2 k hk).2.1, fun x hx => ?_⟩⟩
    rcases hset x hx with rfl | ⟨j, hji, hj⟩
    · intro e
      rcases hn k e with h1 | h1
      · exact ((h.inv a ha).2 k hk).2.2 r hm h1
      · have := ((h.inv a ha).2 k hk).1; omega
    · exact ((h.inv a ha).2 k hk).2.2 x (List.mem_of_getElem? hj)
theorem St.blk (h : St W0 w F L I) (i : Nat) {b : Nat} {cs : Array Value} {t : TypeId} (hi : L[i]? = some (.blk b cs t)) : Blk w b cs t := (h.res _ (List.mem_of_getElem? hi)).1.1
theorem St.low (h : St W0 w F L I) (i : Nat) {b : Nat} {cs : Array Value} {t : TypeId} (hi : L[i]? = some (.blk b cs t)) : W0.heap.size ≤ b ∧ b < w.heap.size := ⟨(h.res _ (List.mem_of_getElem? hi)).1.2, (h.blk i hi).lt⟩
theorem St.row (h : St W0 w F L I) (i : Nat) {v : Value} {e sz n : Nat} {xs : List Value} (hi : L[i]? = some (.row v e sz n xs)) : w.ownsRow W0.heap.size e sz v n xs := (h.res _ (List.mem_of_getElem? hi)).1
theorem St.obj (h : St W0 w F L I) (i : Nat) {b : Nat} {o : Obj} (hi : L[i]? = some (.obj b o)) : w.heap[b]? = some o := (h.res _ (List.mem_of_getElem? hi)).1.1
/-- An object more, that is new. -/
theorem St.lay (h : St W0 w F L I) (o : Obj) : St W0 (w.alloc o) F (.obj w.heap.size o :: L) I :=
  h.add ((Below.refl _ w).alloc (Nat.le_refl _) _) _ ⟨World.alloc_heap_new w o, h.size⟩ fun k hk => by simp only [Res.own, Option.some.injEq] at hk; omega
/-- An object is turned. -/
theorem St.putObj (h : St W0 w F L I) (i : Nat) {b : Nat} {o : Obj} (hi : L[i]? = some (.obj b o)) (o' : Obj) : St W0 (w.putObj b o') F (L.set i (.obj b o')) I :=
  h.upd i hi ((Chg.refl _ w).grown (grownBy_putObj' w b o') fun k hk _ => hk) (.obj b o')
    ⟨World.putObj_heap_same (Array.getElem?_eq_some_iff.1 (h.obj i hi)).1, (h.res _ (List.mem_of_getElem? hi)).1.2⟩ fun k hk => .inl hk
theorem St.ne (h : St W0 w F L I) (i j : Nat) {r x : Res} (hi : L[i]? = some r) (hj : L[j]? = some x) (hij : i ≠ j) {k : Nat} (hr : r.own = some k) : x.own ≠ some k := nd_other h.nd hi hj hij hr
theorem St.rules (h : St W0 w F L I) (i : Nat) {b : Nat} {cs : Array Value} {t : TypeId} (hi : L[i]? = some (.blk b cs t)) : (∀ i, w.cell? ⟨b, i, none⟩ = cs[i]?) ∧ (∀ i, w.frozen? ⟨b, i, none⟩ = false) ∧ (∀ n, okSize cs n = true → cellsO w ⟨b, 0, none⟩ 0 n = some cs.toList) := (h.blk i hi).rules
/-- A store into a block. -/
theorem St.set (h : St W0 w F L I) (i : Nat) {b : Nat} {cs : Array Value} {t : TypeId} (hi : L[i]? = some (.blk b cs t)) (j : Nat) (v : Value) : St W0 (w.setCell ⟨b, j, none⟩ v) F (L.set i (.blk b (cs.setIfInBounds j v) t)) I :=
  h.upd i hi ((Chg.refl _ w).setCell _ _ fun _ => rfl) _ ⟨(h.blk i hi).set j v, (h.low i hi).1⟩ fun k hk => .inl hk
/-- An append. -/
theorem St.grow (h : St W0 w F L I) (i : Nat) {v v' : Value} {e sz n n' : Nat} {xs xs' : List Value} (hi : L[i]? = some (.row v e sz n xs)) (hg : w.grownBy w' v.ownBlock) (hr : w'.ownsRow W0.heap.size e sz v' n' xs')
    (hn : ∀ k, v'.ownBlock = some k → v.ownBlock = some k ∨ w.heap.size ≤ k) : St W0 w' F (L.set i (.row v' e sz n' xs')) I :=
  h.upd i hi ((Chg.refl _ w).grown hg fun k hk _ => hk) (.row v' e sz n' xs') hr hn
/-- A store into a row. -/
theorem St.put (h : St W0 w F L I) (i : Nat) {g cap : Nat} {e sz n : Nat} {xs : List Value} (hi : L[i]? = some (.row (.slice (some ⟨g, 0, none⟩) n cap) e sz n xs)) (j : Nat) (u : Value) :
    St W0 (w.setCell ⟨g, j, none⟩ u) F (L.set i (.row (.slice (some ⟨g, 0, none⟩) n cap) e sz n (xs.set j u))) I :=
  h.upd i hi ((Chg.refl _ w).setCell ⟨g, j, none⟩ u fun _ => rfl) (.row (.slice (some ⟨g, 0, none⟩) n cap) e sz n (xs.set j u)) ((h.row i hi).stored j u).1 fun k hk => .inl hk
/-- A thing that stays, more. -/
theorem St.keep (h : St W0 w F L I) (a : Inv) (ha : a.holds w) (hf : ∀ k, a.foot k → k < w.heap.size ∧ ¬ F k ∧ ∀ r ∈ L, r.own ≠ some k) : St W0 w F L (a :: I) :=
  ⟨h.bel, h.foot, h.res, h.nd, fun x hx => by
    rcases List.mem_cons.1 hx with rfl | hx
    · exact ⟨ha, hf⟩
    · exact h.inv x hx⟩
/-- .. what a call has made. -/
theorem St.made (h : St W0 w F L I) (hb : Below w.heap.size w w') (a : Inv) (ha : a.holds w') (hf : ∀ k, a.foot k → w.heap.size ≤ k ∧ k < w'.heap.size) : St W0 w' F L (a :: I) := by
  refine (h.call hb).keep a ha fun k hk => ⟨(hf k hk).2, fun hF => ?_, fun r hr e => ?_⟩
  · have := (h.foot k hF).2; have := (hf k hk).1; omega
  · have := ((h.res r hr).1.lt k e).2; have := (hf k hk).1; omega
/-- A row that is not written any more. -/
theorem St.seal {r : Res} (h : St W0 w F (r :: L) I) (a : Inv) (ha : a.holds w) (hf : ∀ k, a.foot k → r.own = some k) : St W0 w F L (a :: I) := by
  have hr := h.res r List.mem_cons_self
  refine (h.sub (List.sublist_cons_self r L)).keep a ha fun k hk => ?_
  have e := hf k hk
  refine ⟨(hr.1.lt k e).2, hr.2 k e, fun x hx hxk => ?_⟩
  obtain ⟨j, hj, rfl⟩ := List.mem_iff_getElem.1 hx
  exact nd_other h.nd (i := 0) (j := j + 1) rfl (by simp [List.getElem?_eq_getElem hj]) (by omega) e hxk
theorem St.get (h : St W0 w F L I) (i : Nat) {a : Inv} (hi : I[i]? = some a) : a.holds w := (h.inv a (List.mem_of_getElem? hi)).1
end

section
variable {P : Program} {W0 w : World} {F : Nat → Prop} {L : List Res} {I : List Inv} {K : Value → World → Prop}
theorem St.fill (h : St W0 w F L I) (i : Nat) {b : Nat} {z cs : Array Value} {t : TypeId} (hi : L[i]? = some (.blk b z t)) (hs : z.size = cs.size) : St W0 (w.fill b cs) F (L.set i (.blk b cs t)) I :=
  h.upd i hi ((Chg.refl _ w).fill fun _ => rfl) _ ⟨(h.blk i hi).fill hs, (h.low i hi).1⟩ fun k hk => .inl hk
/-- An empty slice, written out. -/
theorem bsW_none {t e size bytes : Nat} {z : Value} (hm : mkI P t = some (e, size, bytes, z)) (hK : K (.slice (some ⟨w.heap.size, 0, none⟩) 0 0) (w.alloc (.cells #[] e))) : bsW P t 0 [] [] w K := by
  obtain ⟨i, hu, hi, hzz, rfl, rfl⟩ := mkI_some hm
  refine ⟨_, _, ?_, hK⟩
  simp [Instr.buildSlice, Sem.run_bind, run_underlying hu, Result.andThen, run_sizeOf w hi, zipP, Instr.fill, newRow, run_newObj_alloc]
  congr 2
  exact Array.eq_empty_of_size_eq_zero (by simp)
theorem St.emptyRow (h : St W0 w F L I) (e sz : Nat) : St W0 (w.alloc (.cells #[] e)) F (.row (.slice (some ⟨w.heap.size, 0, none⟩) 0 0) e sz 0 [] :: L) I :=
  h.add ((Below.refl _ w).alloc (Nat.le_refl _) _) _ (by
    refine ⟨by simp, .inr ⟨w.heap.size, 0, #[], rfl, h.size, Blk.new, Nat.le_refl _, Nat.zero_le _, by simp, by simp⟩⟩) fun k hk => by simp only [Res.own, Value.ownBlock, Option.some.injEq] at hk; omega
theorem own_slice {base e sz n : Nat} {v : Value} {xs : List Value} (h : w.ownsRow base e sz v n xs) : ∃ a cap, v = .slice a n cap ∧ n ≤ cap := by
  rcases h.2 with ⟨rfl, rfl⟩ | ⟨g, cap, cur, rfl, _, _, hn, _⟩
  · exact ⟨none, 0, rfl, Nat.le_refl _⟩
  · exact ⟨_, cap, rfl, hn⟩
theorem rawB_append0 {t ty e size bytes : Nat} {z : Value} {cs : Array Bool} {a a' : Option Addr} {n cap c : Nat}
    (hm : mkI P t = some (e, size, bytes, z)) (hle : n ≤ cap) (hK : K (.slice a n cap) w) : rawB P .append #[t, t] ty cs [.slice a n cap, .slice a' 0 c] w K := by
  obtain ⟨i, hu, hi, hzz, hsi, hby⟩ := mkI_some hm
  refine ⟨_, w, ?_, hK⟩
  cases a <;> cases a' <;> simp [builtin, Builtin.append_, run_underlying hu, sizeOf, typeInfo, hi, Builtin.lenOf, Builtin.firstCells, loadCells, loadCellsFrom, hle, storeCells]
/-- An append of what can be read onto a row of the walk's own. -/
theorem St.append {t ty e sz bytes : Nat} {z : Value} {cs : Array Bool} {n m : Nat} {v x : Value} {xs ys : List Value} (h : St W0 w F L I) (i : Nat) (hi : L[i]? = some (.row v e sz n xs))
    (hm : mkI P t = some (e, sz, bytes, z)) (hzs : z.cells.size = sz) (hsz : 0 < sz) (hx : Rd w sz x m ys) (h1 : ∀ u ∈ ys, u.oneCell' = true) (hbytes : (n + m) * bytes ≤ 140737488355328) (h63 : n + m ≤ 9223372036854775807)
    (hK : ∀ v' w', St W0 w' F (L.set i (.row v' e sz (n + m) (xs ++ ys))) I → Chg (fun k => v.ownBlock = some k) w w' → K v' w') : rawB P .append #[t, t] ty cs [v, x] w K := by
  have hr := h.row i hi
  obtain ⟨hl, a, c, rfl, hac, hcell⟩ := hx
  obtain ⟨a', cap', rfl, hac'⟩ := own_slice hr
  rcases Nat.eq_zero_or_pos m with hm0 | hm0
  · subst hm0
    have hy : ys = [] := List.eq_nil_of_length_eq_zero (by rw [hl]; simp)
    subst hy
    refine rawB_append0 hm hac' (hK _ _ ?_ (Chg.refl _ _))
    rw [List.append_nil, Nat.add_zero]
    have : L.set i (.row (.slice a' n cap') e sz n xs) = L := by
      apply List.ext_getElem?
      intro j
      rw [List.getElem?_set]
      split
      · rename_i e; subst e; rw [hi]; simp [(List.getElem?_eq_some_iff.1 hi).1]
      · rfl
    rw [this]; exact h
  · obtain ⟨ad, rfl, hc⟩ := hcell (by omega)
    refine rawB_append hm hzs hsz hr hl hc h1 hm0 hbytes h63 h.size ?_
    intro g cap w' hown hgr hg hlt
    refine hK _ _ (h.grow i hi hgr hown fun k hk => ?_) ((Chg.refl _ w).grown hgr fun k hk _ => hk)
    simp only [Value.ownBlock, Option.some.injEq] at hk
    subst hk
    exact hg.imp id fun e => Nat.le_of_eq e.symm
/-- A slice that was just written out. -/
theorem rd_new {t : TypeId} {sz n : Nat} {cs : Array Value} (hs : cs.size = n * sz) : Rd (w.alloc (.cells cs t)) sz (.slice (some ⟨w.heap.size, 0, none⟩) n n) n cs.toList :=
  ⟨by simpa using hs, _, n, rfl, Nat.le_refl _, fun _ => ⟨_, rfl, fun j u hu => by rw [Addr.add_lit, Nat.zero_add, cA_new rfl]; simpa using hu⟩⟩
end

theorem RdS.of_own' {α : Type} {w : World} {B e sz n : Nat} {enc : α → List Value} {v : Value} {ys : List Value} (h : w.ownsRow B e sz v n ys) (xs : List α) (hn : n = xs.length) (hy : ys = xs.flatMap enc) : RdS w sz enc v xs := by
  subst hn hy; exact RdS.of_own h
/-- The block that a slice with elements lies in. -/
def slFoot (v : Value) (k : Nat) : Prop := ∃ a n c, v = .slice (some a) n c ∧ n ≠ 0 ∧ k = a.block
theorem slFoot_none {n c k : Nat} : ¬ slFoot (.slice none n c) k := by rintro ⟨_, _, _, h, _⟩; cases h
theorem slFoot_zero {a : Option Addr} {c k : Nat} : ¬ slFoot (.slice a 0 c) k := by
  rintro ⟨_, _, _, h, h0, _⟩
  simp only [Value.slice.injEq] at h
  exact h0 h.2.1.symm
theorem slFoot_own {v : Value} {k : Nat} (h : slFoot v k) : v.ownBlock = some k := by
  obtain ⟨a, n, c, rfl, _, rfl⟩ := h; rfl
theorem Rd.loc {w w' : World} {sz n : Nat} {v : Value} {xs : List Value} (h : Rd w sz v n xs) (hk : ∀ k, slFoot v k → w'.heap[k]? = w.heap[k]?) : Rd w' sz v n xs := by
  obtain ⟨h1, a, cap, rfl, h2, h3⟩ := h
  refine ⟨h1, a, cap, rfl, h2, fun hn => ?_⟩
  obtain ⟨ad, rfl, h4⟩ := h3 hn
  exact ⟨ad, rfl, fun j u hu => (World.cell?_of_block (hk _ (by rw [add_block]; exact ⟨_, _, _, rfl, hn, rfl⟩))).trans (h4 j u hu)⟩
theorem Rd.footLt {w : World} {sz n : Nat} {v : Value} {xs : List Value} (h : Rd w sz v n xs) (hs : 0 < sz) {k : Nat} (hk : slFoot v k) : k < w.heap.size := by
  obtain ⟨h1, a, cap, rfl, h2, h3⟩ := h
  obtain ⟨a', n', c', e, hn, rfl⟩ := hk
  simp only [Value.slice.injEq] at e
  obtain ⟨rfl, rfl, rfl⟩ := e
  obtain ⟨ad, e, h4⟩ := h3 hn
  simp only [Option.some.injEq] at e; subst e
  have h0 : 0 < xs.length := by rw [h1]; exact Nat.mul_pos (Nat.pos_of_ne_zero hn) hs
  have := World.block_lt_of_cell? w _ (h4 0 xs[0] (List.getElem?_eq_getElem h0))
  rwa [add_block] at this
theorem RdS.footLt {α : Type} {w : World} {sz : Nat} {enc : α → List Value} {v : Value} {xs : List α} (h : RdS w sz enc v xs) (hs : 0 < sz) {k : Nat} (hk : slFoot v k) : k < w.heap.size := Rd.footLt h hs hk
theorem RdS.loc {α : Type} {w w' : World} {sz : Nat} {enc : α → List Value} {v : Value} {xs : List α} (h : RdS w sz enc v xs) (hk : ∀ k, slFoot v k → w'.heap[k]? = w.heap[k]?) : RdS w' sz enc v xs := Rd.loc h hk
/-- A slice that can be read, and that nobody writes. -/
def Inv.rd {α : Type} (sz : Nat) (enc : α → List Value) (v : Value) (xs : List α) : Inv := ⟨fun w => RdS w sz enc v xs, slFoot v, fun _ _ h hk => Rd.loc h hk⟩
section
variable {W0 w w' : World} {F : Nat → Prop} {L : List Res} {I : List Inv} {α : Type} {sz : Nat} {enc : α → List Value} {v : Value} {xs : List α}
/-- A slice that was handed in, or made by a call, or part of what stays. -/
theorem St.addRd (h : St W0 w F L I) (hb : Below w.heap.size w w') (hr : RdS w' sz enc v xs) (hs : 0 < sz) (hf : ∀ k, slFoot v k → k < W0.heap.size ∨ (∃ a ∈ I, a.foot k) ∨ w.heap.size ≤ k) : St W0 w' F L (.rd sz enc v xs :: I) := by
  refine (h.call hb).keep _ hr fun k hk => ⟨hr.footLt hs hk, fun hF => ?_, fun r hr' e => ?_⟩
  · have hF' := h.foot k hF
    rcases hf k hk with h1 | ⟨a, ha, h1⟩ | h1
    · omega
    · exact ((h.inv a ha).2 k h1).2.1 hF
    · omega
  · have hl := (h.res r hr').1.lt k e
    rcases hf k hk with h1 | ⟨a, ha, h1⟩ | h1
    · omega
    · exact ((h.inv a ha).2 k h1).2.2 r hr' e
    · omega
/-- A slice that was handed in. -/
theorem St.old (h : St W0 w F L I) (hr : RdS W0 sz enc v xs) (hs : 0 < sz) : St W0 w F L (.rd sz enc v xs :: I) :=
  h.addRd (Below.refl _ _) (hr.below h.bel hs) hs fun k hk => .inl (hr.footLt hs hk)
theorem St.rd (h : St W0 w F L I) (i : Nat) (hi : I[i]? = some (.rd sz enc v xs)) : RdS w sz enc v xs := h.get i hi
end
end Go.Ann
namespace Go.Ann
open Go Go.RowKit
set_option linter.unusedVariables false
set_option linter.unusedSimpArgs false
section
variable {P : Program} {N : Nat}
/-- The slots in a round: no mark. -/
def lowE : Env → Env
  | [] => []
  | (m, v) :: ρ => if m < 1000000 then (m, v) :: lowE ρ else lowE ρ
theorem lowE_nil : lowE [] = [] := rfl
theorem lowE_cons {m : Nat} {v : Value} {ρ : Env} : lowE ((m, v) :: ρ) = if m < 1000000 then (m, v) :: lowE ρ else lowE ρ := rfl
def zipE : List Nat → List Value → Env → Env
  | p :: ps, v :: vs, ρ => zipE ps vs ((p, v) :: ρ)
  | _, _, ρ => ρ
theorem zipE_nil {vs : List Value} {ρ : Env} : zipE [] vs ρ = ρ := by cases vs <;> rfl
theorem zipE_none {ps : List Nat} {ρ : Env} : zipE ps [] ρ = ρ := by cases ps <;> rfl
theorem zipE_cons {p : Nat} {ps : List Nat} {v : Value} {vs : List Value} {ρ : Env} : zipE (p :: ps) (v :: vs) ρ = zipE ps vs ((p, v) :: ρ) := rfl
attribute [go_sem] lowE_nil lowE_cons zipE_nil zipE_none zipE_cons
theorem marksD_lowE : ∀ ρ : Env, marksD (lowE ρ) = []
  | [] => rfl
  | (m, v) :: ρ => by
    simp only [lowE]
    split
    · rename_i h; simp only [marksD, if_pos h]; exact marksD_lowE ρ
    · exact marksD_lowE ρ
theorem lk_lowE : ∀ (ρ : Env) (n : Nat) (v : Value), lk (lowE ρ) n = some v → lk ρ n = some v
  | [], _, _, h => h
  | (m, u) :: ρ, n, v, h => by
    have low : ∀ (ρ : Env) (n : Nat) (v : Value), lk (lowE ρ) n = some v → n < 1000000 := by
      intro ρ
      induction ρ with
      | nil => intro n v h; simp [lowE, lk_emp] at h
      | cons x ρ ih =>
        obtain ⟨m, u⟩ := x
        intro n v h
        simp only [lowE] at h
        split at h
        · simp only [lk_if] at h
          split at h
          · omega
          · exact ih n v h
        · exact ih n v h
    simp only [lowE] at h
    split at h
    · simp only [lk_if] at h ⊢
      split at h
      · rename_i e; rw [if_pos e]; exact h
      · rename_i e; rw [if_neg e]; exact lk_lowE ρ n v h
    · rename_i hm
      have := low ρ n v h
      rw [lk_if, if_neg (by omega)]
      exact lk_lowE ρ n v h
theorem Sim.lowE {a : Act} {ρ : Env} (h : Sim N a ρ) : Sim N { tmps := a.tmps, defers := [] } (lowE ρ) :=
  ⟨h.size, h.small, by rw [marksD_lowE]; rfl, fun n v hv => h.slot n v (lk_lowE ρ n v hv)⟩
theorem Sim.zipE {a : Act} : ∀ (ps : List Nat) (vs : List Value) (ρ : Env) (t : Array Value), (∀ p ∈ ps, p < N) → Sim N { tmps := t, defers := a.defers } ρ → Sim N { tmps := (ps.zip vs).foldl (fun t (p, v) => t.setIfInBounds p v) t, defers := a.defers } (zipE ps vs ρ)
  | [], vs, ρ, t, _, h => by cases vs <;> exact h
  | p :: ps, [], ρ, t, _, h => h
  | p :: ps, v :: vs, ρ, t, hp, h => by
    simp only [List.zip_cons_cons, List.foldl_cons, Ann.zipE]
    exact Sim.zipE ps vs _ _ (fun q hq => hp q (List.mem_cons_of_mem _ hq)) (h.put (d := some p) (by simpa [okDst] using hp p List.mem_cons_self) v)
theorem Sim.mark {a : Act} {ρ : Env} (h : Sim N a ρ) (D : Nat) : Sim N { a with defers := { target := .collected D, args := #[] } :: a.defers } ((D + 1000000, undef) :: ρ) := by
  refine ⟨h.size, h.small, ?_, fun n v hv => ?_⟩
  · show _ :: a.defers = _
    rw [h.defers]
    simp only [marksD, if_neg (show ¬ D + 1000000 < 1000000 by omega), Nat.add_sub_cancel]
    rfl
  · simp only [lk_if] at hv
    split at hv
    · rename_i e
      simp only [Option.some.injEq] at hv; subst hv
      show a.tmps.getD n undef = undef
      rw [Array.getD_eq_getD_getElem?, Array.getElem?_eq_none (by rw [h.size]; have := h.small; omega)]; rfl
    · exact h.slot n v hv

theorem W_rangeF {g : Operand} {ps L : List Nat} {a b : Cmd} {ρ : Env} {w : World} {Q : Post} : W P (.rangeF g ps a b L) ρ w Q = RangeW P g ps a b ρ w (keepQ L Q) := (rfl)
theorem keepQ_normal {L : List Nat} {ρ : Env} {w : World} {Q : Post} : keepQ L Q .normal ρ w = Q .normal (restr L ρ) w := (rfl)
theorem keepQ_ret {L : List Nat} {ρ : Env} {w : World} {Q : Post} : keepQ L Q .ret ρ w = Q .ret ρ w := (rfl)
theorem keepQ_exit {L : List Nat} {ρ : Env} {w : World} {Q : Post} {i : Nat} : keepQ L Q (.exit i) ρ w = Q (.exit i) ρ w := (rfl)
theorem mark_beq {D n : Nat} : (D + 1000000 == n) = decide (D + 1000000 = n) := by rw [Bool.eq_iff_iff, beq_iff_eq, decide_eq_true_eq]
theorem marks_one {D : Nat} {v : Value} : marksD [(D + 1000000, v)] = [D] := by simp [marksD]
attribute [go_sem] W_rangeF mark_beq marks_one keepQ_normal keepQ_ret keepQ_exit
/-- A range over a function, of which every round goes on to the next one. -/
theorem RangeW_all {g : Operand} {ps : List Nat} {A B : Cmd} {ρ : Env} {w W0 : World} {Q : Post} {F : Nat → Prop} {L0 : List Res} {I : List Inv} {α : Type} {gf : Nat} {lb : Array Value}
    (encs : α → List Value) (xs : List α) (L : List α → List Res)
    (hg : ev ρ g = some (.func (.func gf) #[] lb)) (hgo : goFunc P gf = true) (s : St W0 w F L0 I) (hL : L [] = L0) (hlen : ∀ x, (encs x).length = ps.length)
    (hit : ∀ (fv : Value) (J : List α → World → Prop) (w1 : World), (∀ pre w', J pre w' → ∃ l D o, St W0 w' F (.obj l o :: .obj D (.deferred (some [])) :: L pre) I) → (∀ pre w' w'', J pre w' → Below w'.heap.size w' w'' → J pre w'') →
      (∀ pre x w', J pre w' → (∃ r, pre ++ x :: r = xs) → callW P fv (encs x) w' fun v w'' => v = .bool true ∧ J (pre ++ [x]) w'') → J [] w1 → Ret P gf (fv :: lb.toList) w1 fun _ w' => J xs w')
    (hbody : ∀ pre x w' l D o o2, (∃ r, pre ++ x :: r = xs) → St W0 w' F (.obj l o :: .obj D (.deferred (some [])) :: L pre) I → W P A (zipE ps (encs x) (lowE ρ)) w' fun e ρ1 w1 => match e with
      | .normal => ∃ M, St W0 w1 F (.obj l o :: .obj D (.deferred (some [])) :: M) I ∧ ∀ w2, St W0 w2 F (.obj l o2 :: .obj D (.deferred (some [])) :: M) I → W P B ρ1 w2 fun e2 _ w3 => match e2 with
        | .normal => St W0 w3 F (.obj l o2 :: .obj D (.deferred (some [])) :: L (pre ++ [x])) I
        | _ => False
      | _ => False)
    (hdone : ∀ D w', St W0 w' F (.obj D (.deferred (some [])) :: L xs) I → Q .normal ((D + 1000000, undef) :: ρ) w') : RangeW P g ps A B ρ w Q := by
  intro N a ca cb hca hcb hra hrb hps hs
  refine wpIn_rangeFunc fun fn _ => ?_
  obtain ⟨rec, hrec⟩ : ∃ rec : LoopState → Option Code → Loop, rec = fun st pe => { state := st, pending := pe, fn, tmps := a.tmps, params := ps.toArray, assign := ca, body := cb, defers := w.heap.size } := ⟨_, rfl⟩
  have hs1 : St W0 ((w.alloc (.deferred (some []))).alloc (.loop (rec .ready none))) F (.obj (w.heap.size + 1) (.loop (rec .ready none)) :: .obj w.heap.size (.deferred (some [])) :: L []) I := by
    rw [hL]
    have := (s.lay (.deferred (some []))).lay (.loop (rec .ready none))
    rw [World.size_alloc] at this
    exact this
  generalize hw1 : (w.alloc (.deferred (some []))).alloc (.loop (rec .ready none)) = w1 at hs1
  refine ⟨w.heap.size + 1, [{ target := .collected w.heap.size, args := #[] }], w1, { target := .fn (.func gf) lb, args := #[.func (.yield (w.heap.size + 1)) #[] #[]] }, w1, gf,
    #[.func (.yield (w.heap.size + 1)) #[] #[]] ++ lb, w1, ?_, ?_, ?_, ?_, fun _ => by decide, ?_⟩
  · rw [← hw1, hrec]; exact run_enterLoop_outer _ _ _ _ _
  · simp only [resolve, hs.eval _ _ hg]
    simp [go_sem]
  · intro f' _; exact trivial
  · simp [invoke, go_sem, callFunc_run hgo]
  · generalize w.heap.size + 1 = l at hs1 ⊢
    generalize w.heap.size = D at hrec hs1 ⊢
    have key := hit (.func (.yield l) #[] #[]) (fun pre w' => St W0 w' F (.obj l (.loop (rec .ready none)) :: .obj D (.deferred (some [])) :: L pre) I) w1 (fun pre w' h => ⟨_, _, _, h⟩) (fun pre w' w'' h hb => h.call hb) ?_ hs1
    · have e : #[Value.func (.yield l) #[] #[]] ++ lb = (Value.func (.yield l) #[] #[] :: lb.toList).toArray := by simp
      rw [e]
      refine CallsIn.mono (callsIn_wide.2 key) fun e w2 ⟨v, he, h2⟩ => ?_
      subst he
      have hl := h2.obj 0 rfl
      refine ⟨none, w2.putObj l (.loop { rec .ready none with state := .exhausted }), ?_, ?_⟩
      · have := run_endLoop (P := P) hl (by rw [hrec]; simp)
        rw [hrec] at this ⊢
        exact this
      · have h3 := (h2.putObj 0 rfl (.loop { rec .ready none with state := .exhausted })).sub (L' := .obj D (.deferred (some [])) :: L xs) (by simp)
        exact ⟨_, hs.mark D, hdone D _ h3⟩
    · intro pre x w' h hx
      have hl := h.obj 0 rfl
      have hsz : (encs x).toArray.size = (rec .ready none).params.size := by rw [hrec]; simp [hlen]
      have hy := run_yield (P := P) hl hsz
      rw [hrec] at hy
      refine ⟨rfl, rfl, fn, _, ca, cb, hy, ?_⟩
      refine roundIn_of_wpIn trivial ?_
      have hsim : Sim N { tmps := ((ps.toArray.zip (encs x).toArray).foldl (fun t (p, v) => t.setIfInBounds p v) a.tmps), defers := [] } (zipE ps (encs x) (lowE ρ)) := by
        have := Sim.zipE (a := { tmps := a.tmps, defers := [] }) ps (encs x) (lowE ρ) a.tmps hps hs.lowE
        rw [← Array.foldl_toList, Array.toList_zip]
        exact this
      have hA := W_sound (r := some l) (n := 0) ca A hca (.inl hra) _ w' _ _ hsim (hbody pre x w' l D _ (.loop { rec .ready none with state := .busy }) hx h)
      refine wpIn_mono hA fun e a1 w1 hh => ?_
      obtain ⟨ρ1, hs1, hq⟩ := hh
      cases e with
      | normal =>
        obtain ⟨M, hM, hB⟩ := hq
        have hl1 := hM.obj 0 rfl
        refine ⟨_, run_beginRound hl1 (by rw [hrec]), ?_⟩
        have hB' := W_sound (r := some l) (n := 0) cb B hcb (.inl hrb) _ _ _ a1 hs1 (hB _ (hM.putObj 0 rfl _))
        refine wpIn_mono hB' fun e2 a2 w2 hh => ?_
        obtain ⟨ρ2, hs2, hq2⟩ := hh
        cases e2 with
        | normal =>
          have hl2 := St.obj hq2 0 rfl
          have he := run_endRound (P := P) none hl2
          refine ⟨.bool true, w2.putObj l (.loop (rec .ready none)), ?_, .bool true, rfl, rfl, ?_⟩
          · rw [hrec] at he ⊢; exact he
          · exact St.putObj hq2 0 rfl _
        | _ => exact hq2.elim
      | _ => exact hq.elim
end
end Go.Ann
namespace Go.Ann
open Go Go.RowKit
theorem ask_drawn {α : Type} : ∀ (a : Ask α) (w : World), w.drawn ≤ (w.ask a).2.drawn
  | .done _, w => Nat.le_refl _
  | .ask what range k, w => by
    unfold World.ask
    simp only
    split
    · exact ask_drawn (k 0) w
    · exact Nat.le_trans (Nat.le_succ _) (ask_drawn _ { w with drawn := w.drawn + 1 })
theorem sys_drawn (w : World) (c : Sys) : w.drawn ≤ (w.sys c).2.drawn := by
  unfold World.sys
  have := ask_drawn (Kernel.perform c w.os) w
  split
  · exact Nat.le_refl _
  · rename_i e; rw [e] at this; exact this
theorem view_drawn {p : Program} {w : World} {at_ : Addr} {u : TypeId} {k : Addr} {v : Value} {atomic : Bool} {r : World × List Addr} (h : World.viewStore p w at_ u k v atomic = .ok r) : r.1.drawn = w.drawn := by
  unfold World.viewStore at h
  simp only [bind, Except.bind, pure, Except.pure, throw, throwThe, MonadExceptOf.throw] at h
  repeat' split at h
  all_goals first | (cases h; done) | (cases h; rfl)
theorem far_drawn {p : Program} {w w' : World} {a : Addr} {v : Value} {atomic : Bool} {l : List Addr} (h : World.farStore p w a v atomic = .ok (w', l)) : w'.drawn = w.drawn := by
  unfold World.farStore at h
  split at h
  · split at h
    · rename_i r e
      cases h
      exact view_drawn e
    · cases h
  · cases h
theorem freeze_drawn (w : World) (a : Addr) (n : Nat) : (w.freeze a n).drawn = w.drawn := by
  unfold World.freeze
  first | rfl | (split <;> rfl)
theorem run_drawn {α : Type} (p : Program) (m : Sem α) : ∀ (w w' : World) (v : α), m.run p w = .ok v w' → w.drawn ≤ w'.drawn := by
  induction m with
  | pure a => intro w w' v h; cases h; exact Nat.le_refl _
  | load m a k ih =>
    intro w w' v h
    unfold Sem.run at h
    split at h
    · exact ih _ _ _ _ h
    · split at h
      · exact ih _ _ _ _ h
      · cases h
  | store m a x k ih =>
    intro w w' v h
    have key : (match w.cell? a with
        | some _ => if w.frozen? a then Result.halt (.unsupported (.unsafePointer "a write to bytes that a string shares")) w else k.run p (w.setCell a x)
        | none => match w.farStore p a x (m == Mode.atomic) with
          | .ok (w, _) => k.run p w
          | .error h => .halt h w) = .ok v w' → w.drawn ≤ w'.drawn := by
      intro h
      split at h
      · split at h
        · cases h
        · have t := ih _ _ _ h; exact t
      · split at h
        · rename_i e
          have t := ih _ _ _ h
          rw [far_drawn e] at t
          exact t
        · cases h
    cases x with
    | agg _ => cases h
    | tuple _ => cases h
    | _ => rw [Sem.run] at h; exact key h; all_goals (intros; simp_all)
  | new o k ih => intro w w' v h; have t := ih _ _ _ _ h; exact t
  | shape r k ih => intro w w' v h; exact ih _ _ _ _ h
  | freeze a n k ih => intro w w' v h; have t := ih _ _ _ h; rw [freeze_drawn] at t; exact t
  | frozen a k ih => intro w w' v h; exact ih _ _ _ _ h
  | getObj r k ih =>
    intro w w' v h
    unfold Sem.run at h
    split at h
    · cases h
    · exact ih _ _ _ _ h
    · cases h
  | setObj r o k ih =>
    intro w w' v h
    unfold Sem.run at h
    split at h
    · cases h
    · have t := ih _ _ _ h; exact t
    · cases h
  | choose q k ih =>
    intro w w' v h
    unfold Sem.run at h
    split at h
    · exact ih _ _ _ _ h
    · exact Nat.le_trans (Nat.le_succ _) (ih _ _ _ _ h)
  | sys c k ih => intro w w' v h; exact Nat.le_trans (sys_drawn w c) (ih _ _ _ _ h)
  | program k ih => intro w w' v h; exact ih _ _ _ _ h
  | mark m k ih => intro w w' v h; exact ih _ _ _ h
  | halt h => intro w w' v h; cases h
/-- A builtin's world has drawn no less. -/
theorem rawB_D {P : Program} {b : Builtin} {ats : Array TypeId} {ty : TypeId} {cs : Array Bool} {xs : List Value} {w : World} {K : Value → World → Prop} (h : rawB P b ats ty cs xs w fun v w' => w.drawn ≤ w'.drawn → K v w') : rawB P b ats ty cs xs w K := by
  obtain ⟨v, w', h1, h2⟩ := h
  exact ⟨v, w', h1, h2 (run_drawn _ _ _ _ _ h1)⟩
/-- Behind a world: draws and new blocks, nothing else. -/
def Gr (w w' : World) : Prop := Below w.heap.size w w' ∧ w.drawn ≤ w'.drawn
theorem Gr.refl (w : World) : Gr w w := ⟨Below.refl _ _, Nat.le_refl _⟩
theorem Gr.below {w w' : World} (h : Gr w w') : Below w.heap.size w w' := h.1
theorem Gr.trans {a b c : World} (h : Gr a b) (k : Gr b c) : Gr a c := ⟨Below.next h.1 k.1, Nat.le_trans h.2 k.2⟩
theorem drawn_drew (w : World) : w.drew.drawn = w.drawn + 1 := rfl
theorem drawn_alloc (w : World) (o : Obj) : (w.alloc o).drawn = w.drawn := rfl
theorem drawn_set (w : World) (a : Addr) (v : Value) : (w.setCell a v).drawn = w.drawn := rfl
end Go.Ann
namespace Go.Ann
set_option linter.unusedSimpArgs false
set_option linter.unusedVariables false
open Go Go.RowKit
/-- Orders, by the operations' numbers: 'one': this one next (0 plain, 1 a read, 2 alone); 'alt': this one next, or one of those that follow, to 'stop'. -/
inductive ST where
  | nil
  | one (k i : Nat) (r : ST)
  | alt (i : Nat) (r q : ST)
  | stop
inductive GT where
  | nil
  | one (k : Nat) (x : Ins) (r : GT)
  | alt (x : Ins) (r q : GT)
  | stop
def insOf (l : List Oper) (i : Nat) : Option Ins :=
  match l[i]? with
  | none => none
  | some o => match stripG l o.guard with
    | some g => some ⟨o.dst, o.op, o.type, g⟩
    | none => none
def insT (l : List Oper) : ST → Option GT
  | .nil => some .nil
  | .stop => some .stop
  | .one k i r => match insOf l i, insT l r with
    | some x, some t => some (.one k x t)
    | _, _ => none
  | .alt i r q => match insOf l i, insT l r, insT l q with
    | some x, some t, some u => some (.alt x t u)
    | _, _, _ => none
def ST.heads : ST → List Nat
  | .alt i _ q => i :: q.heads
  | _ => []
def schedT (ops : Array Oper) (hb : List Nat) : ST → Nat → Bool → Array Bool → Bool
  | .nil, n, top, listed => top && n == 0 && (Region.ready .any ops listed).isEmpty
  | .one 0 i r, n, top, listed => top && n != 0 && (Region.ready .any ops listed).contains i && Region.free .any ops listed i && schedT ops hb r (n - 1) true (listed.setIfInBounds i true)
  | .one 1 i r, n, top, listed => top && n != 0 && hb.contains i && (Region.ready .any ops listed).contains i && Region.free .any ops listed i && schedT ops hb r (n - 1) true (listed.setIfInBounds i true)
  | .one 2 i r, n, top, listed => top && n != 0 && (Region.ready .any ops listed == [i]) && schedT ops hb r (n - 1) true (listed.setIfInBounds i true)
  | .one (_ + 3) _ _, _, _, _ => false
  | .alt i r q, n, top, listed => (!top || Region.ready .any ops listed == i :: q.heads) && n != 0 && schedT ops hb r (n - 1) true (listed.setIfInBounds i true) && schedT ops hb q n false listed
  | .stop, _, top, _ => !top
/-- One operation, and what is to hold behind it. -/
def stepX (P : Program) (S : World → Prop) (k : Nat) (x : Ins) (ρ : Env) (w : World) (C : Env → World → Prop) : Prop :=
  match x.g with
  | none => opG P S k x.op x.ty ρ w fun v w' => C (put ρ x.dst v) w'
  | some (s, b) => match lk ρ s with
    | some (.bool c) => (c = b → opG P S k x.op x.ty ((s, .bool b) :: ρ) w fun v w' => C (put ((s, .bool b) :: ρ) x.dst v) w') ∧ (c = !b → C (put ((s, .bool !b) :: ρ) x.dst undef) w)
    | some (.tuple _) => C (put ρ x.dst undef) w
    | _ => False
def DT (P : Program) (S : World → Prop) : GT → List Nat → Env → World → Post → Prop
  | .nil, L, ρ, w, Q => Q .normal (restr L ρ) w
  | .one k x r, L, ρ, w, Q => stepX P S k x ρ w fun ρ' w' => DT P S r L ρ' w' Q
  | .alt x r q, L, ρ, w, Q => (stepX P S 2 x ρ w fun ρ' w' => DT P S r L ρ' w' Q) ∧ DT P S q L ρ w Q
  | .stop, _, _, _, _ => True
theorem stepX_cases {P : Program} {S : World → Prop} {N : Nat} {l : List Oper} {k i : Nat} {x : Ins} {o : Oper} {ρ : Env} {w : World} {a : Act} {C : Env → World → Prop} (ho : l[i]? = some o) (hx : insOf l i = some x) (hs : Sim N a ρ) (h : stepX P S k x ρ w C) :
    x.dst = o.dst ∧ x.op = o.op ∧ x.ty = o.type ∧ ((∃ ρ', Sim N a ρ' ∧ Region.wanted o (yielded l.toArray a.tmps) = true ∧ opG P S k o.op o.type ρ' w fun v w' => C (put ρ' o.dst v) w') ∨
      (∃ ρ', Sim N a ρ' ∧ Region.wanted o (yielded l.toArray a.tmps) = false ∧ C (put ρ' o.dst undef) w)) := by
  unfold insOf at hx
  rw [ho] at hx
  simp only at hx
  split at hx
  case h_2 => cases hx
  rename_i g hg
  simp only [Option.some.injEq] at hx
  subst hx
  refine ⟨rfl, rfl, rfl, ?_⟩
  unfold stepX at h
  simp only at h
  cases hgo : o.guard with
  | none =>
    rw [hgo] at hg
    simp only [stripG, Option.some.injEq] at hg; subst hg
    exact .inl ⟨ρ, hs, by simp only [Region.wanted, hgo], h⟩
  | some jb =>
    obtain ⟨j, b⟩ := jb
    rw [hgo] at hg
    simp only [stripG] at hg
    split at hg
    case h_2 => cases hg
    rename_i s hs0
    simp only [Option.some.injEq] at hg; subst hg
    simp only at h
    split at h
    · rename_i c hc
      have hy := yielded_of hs hs0 hc
      by_cases hcb : c = b
      · subst hcb
        exact .inl ⟨_, hs.know hc, by simp only [Region.wanted, hgo, hy, beq_self_eq_true], h.1 rfl⟩
      · have hcb' : c = !b := bool_ne hcb
        have hc' : lk ρ s = some (.bool !b) := by rw [← hcb']; exact hc
        exact .inr ⟨_, hs.know hc', by simp only [Region.wanted, hgo, hy]; simpa using hcb, h.2 hcb'⟩
    · rename_i u hc
      exact .inr ⟨ρ, hs, by simp only [Region.wanted, hgo, yielded_undef hs hs0 hc]; rfl, h⟩
    · exact h.elim
theorem stepX_op {P : Program} {S : World → Prop} {N : Nat} {l : List Oper} (hall : l.all (fun o => okDst N o.dst) = true) {hb : List Nat} {L : List Nat} {Q : Post} {i n : Nat} {x : Ins} {ρ : Env} {w : World} {a : Act} {listed : Array Bool} {C : Env → World → Prop}
    (hx : insOf l i = some x) (hs : Sim N a ρ) (hSw : S w) (h : stepX P S 2 x ρ w C)
    (hC : ∀ ρ' a' w', Sim N a' ρ' → S w' → C ρ' w' → wpAnyG P .any l.toArray (drawQ N L Q) S hb n (listed.setIfInBounds i true) a' w') :
    wpOp P l.toArray (drawQ N L Q) i (fun a' w' => (needB .any l.toArray hb i = true → S w → S w') ∧ wpAnyG P .any l.toArray (drawQ N L Q) S hb n (listed.setIfInBounds i true) a' w') a w := by
  obtain ⟨o, ho⟩ : ∃ o, l[i]? = some o := by
    unfold insOf at hx
    split at hx
    · cases hx
    · exact ⟨_, by assumption⟩
  have ho' : l.toArray[i]? = some o := by simpa using ho
  have hd : okDst N o.dst = true := List.all_eq_true.1 hall o (List.mem_of_getElem? ho)
  obtain ⟨_, _, _, ⟨ρ', hs', hw, h⟩ | ⟨ρ', hs', hw, h⟩⟩ := stepX_cases ho hx hs h
  · exact wpOp_doneG ho' hw (opW_done (show opW P o.op o.type ρ' w _ from h.2) h.1 a.eval hs'.eval) fun v w' hk => ⟨fun _ _ => hk.1, hC _ _ _ (hs'.put hd v) hk.1 hk.2⟩
  · exact wpOp_skip ho' hw ⟨fun _ h => h, hC _ _ _ (hs'.put hd undef) hSw h⟩
theorem DT_sound {P : Program} {S : World → Prop} {N : Nat} {l : List Oper} (hall : l.all (fun o => okDst N o.dst) = true) (hns : Region.noSelect l.toArray = true) (hb : List Nat) (L : List Nat) (Q : Post) : ∀ st : ST,
    (∀ (n : Nat) (gt : GT) (ρ : Env) (w : World) (a : Act) (listed : Array Bool), insT l st = some gt → schedT l.toArray hb st n true listed = true → Sim N a ρ → S w → DT P S gt L ρ w Q → wpAnyG P .any l.toArray (drawQ N L Q) S hb n listed a w) ∧
    (∀ (n : Nat) (gt : GT) (ρ : Env) (w : World) (a : Act) (listed : Array Bool), insT l st = some gt → schedT l.toArray hb st (n + 1) false listed = true → Sim N a ρ → S w → DT P S gt L ρ w Q →
      ∀ j ∈ st.heads, wpOp P l.toArray (drawQ N L Q) j (fun a' w' => (needB .any l.toArray hb j = true → S w → S w') ∧ wpAnyG P .any l.toArray (drawQ N L Q) S hb n (listed.setIfInBounds j true) a' w') a w) := by
  have hpan : ∀ (d : Option Nat) (v : Value) c (a : Act) (w : World), drawQ N L Q (.panic c) (a.put d v) w → drawQ N L Q (.panic c) a w := by
    rintro d v c a w ⟨_, _, hn, _⟩; cases hn
  intro st
  induction st with
  | nil =>
    refine ⟨fun n gt ρ w a listed hi hok hs hSw h => ?_, fun n gt ρ w a listed hi hok hs hSw h j hj => by cases hj⟩
    simp only [insT, Option.some.injEq] at hi; subst hi
    simp only [schedT, Bool.and_eq_true, beq_iff_eq, List.isEmpty_iff, true_and] at hok
    obtain ⟨rfl, hr⟩ := hok
    exact ⟨hr, ρ, hs, rfl, h⟩
  | stop =>
    refine ⟨fun n gt ρ w a listed hi hok hs hSw h => ?_, fun n gt ρ w a listed hi hok hs hSw h j hj => by cases hj⟩
    simp [schedT] at hok
  | one k i r ih =>
    refine ⟨fun n gt ρ w a listed hi hok hs hSw h => ?_, fun n gt ρ w a listed hi hok hs hSw h j hj => by cases hj⟩
    simp only [insT] at hi
    split at hi
    case h_2 => cases hi
    rename_i x t hx ht
    simp only [Option.some.injEq] at hi; subst hi
    obtain ⟨o, ho⟩ : ∃ o, l[i]? = some o := by
      unfold insOf at hx
      split at hx
      · cases hx
      · exact ⟨_, by assumption⟩
    have ho' : l.toArray[i]? = some o := by simpa using ho
    have hd : okDst N o.dst = true := List.all_eq_true.1 hall o (List.mem_of_getElem? ho)
    simp only [DT] at h
    match k, hok, h with
    | 0, hok, h =>
      simp only [schedT, Bool.and_eq_true, bne_iff_ne, ne_eq, true_and] at hok
      obtain ⟨m, rfl⟩ : ∃ m, n = m + 1 := ⟨n - 1, by omega⟩
      rw [Nat.add_sub_cancel] at hok
      obtain ⟨_, _, _, ⟨ρ', hs', hw, h⟩ | ⟨ρ', hs', hw, h⟩⟩ := stepX_cases ho hx hs h
      · obtain ⟨v, hv, hk⟩ := pureW_runs (show pureW P o.op o.type ρ' w _ from h)
        refine wpAnyG_take (T := fun _ => True) ho' hns hok.1.2 hok.1.1.2 (.inl fun _ => trivial) (hpan _ _) (.inl ⟨hw, fun w' _ => ?_⟩) trivial (ih.1 m t _ w _ _ ht hok.2 (hs'.put hd v) hSw hk)
        rw [execOp_raw]; exact hv a.eval hs'.eval w'
      · exact wpAnyG_take (T := fun _ => True) ho' hns hok.1.2 hok.1.1.2 (.inl fun _ => trivial) (hpan _ _) (.inr ⟨hw, rfl⟩) trivial (ih.1 m t _ w _ _ ht hok.2 (hs'.put hd undef) hSw h)
    | 1, hok, h =>
      simp only [schedT, Bool.and_eq_true, bne_iff_ne, ne_eq, true_and, List.contains_iff_mem] at hok
      obtain ⟨m, rfl⟩ : ∃ m, n = m + 1 := ⟨n - 1, by omega⟩
      rw [Nat.add_sub_cancel] at hok
      obtain ⟨_, _, _, ⟨ρ', hs', hw, h⟩ | ⟨ρ', hs', hw, h⟩⟩ := stepX_cases ho hx hs h
      · obtain ⟨v, hv, hk⟩ := opH_runs (show opH P S o.op o.type ρ' w _ from h)
        refine wpAnyG_take (T := S) ho' hns hok.1.2 (by simpa using hok.1.1.2) (.inr ⟨hok.1.1.1.2, rfl⟩) (hpan _ _) (.inl ⟨hw, fun w' hw' => ?_⟩) hSw (ih.1 m t _ w _ _ ht hok.2 (hs'.put hd v) hSw hk)
        rw [execOp_raw]; exact hv a.eval hs'.eval w' hw'
      · exact wpAnyG_take (T := fun _ => True) ho' hns hok.1.2 (by simpa using hok.1.1.2) (.inl fun _ => trivial) (hpan _ _) (.inr ⟨hw, rfl⟩) trivial (ih.1 m t _ w _ _ ht hok.2 (hs'.put hd undef) hSw h)
    | 2, hok, h =>
      simp only [schedT, Bool.and_eq_true, bne_iff_ne, ne_eq, true_and, beq_iff_eq] at hok
      obtain ⟨m, rfl⟩ : ∃ m, n = m + 1 := ⟨n - 1, by omega⟩
      rw [Nat.add_sub_cancel] at hok
      refine wpAnyG_all hok.1.2 (by simp) fun j hj => ?_
      simp only [List.mem_singleton] at hj; subst hj
      exact stepX_op hall hx hs hSw h fun ρ' a' w' hs' hSw' hC => ih.1 m t ρ' w' a' _ ht hok.2 hs' hSw' hC
    | k + 3, hok, h => simp [schedT] at hok
  | alt i r q ihr ihq =>
    have step : ∀ (n : Nat) (top : Bool) (gt : GT) (ρ : Env) (w : World) (a : Act) (listed : Array Bool), insT l (.alt i r q) = some gt → schedT l.toArray hb (.alt i r q) (n + 1) top listed = true → Sim N a ρ → S w → DT P S gt L ρ w Q →
        ∀ j ∈ (ST.alt i r q).heads, wpOp P l.toArray (drawQ N L Q) j (fun a' w' => (needB .any l.toArray hb j = true → S w → S w') ∧ wpAnyG P .any l.toArray (drawQ N L Q) S hb n (listed.setIfInBounds j true) a' w') a w := by
      intro n top gt ρ w a listed hi hok hs hSw h j hj
      simp only [insT] at hi
      split at hi
      case h_2 => cases hi
      rename_i x t u hx ht hu
      simp only [Option.some.injEq] at hi; subst hi
      simp only [schedT, Bool.and_eq_true, Nat.add_sub_cancel] at hok
      obtain ⟨h1, h2⟩ := h
      rcases List.mem_cons.1 hj with rfl | hj
      · exact stepX_op hall hx hs hSw h1 fun ρ' a' w' hs' hSw' hC => ihr.1 n t ρ' w' a' _ ht hok.1.2 hs' hSw' hC
      · exact ihq.2 n u ρ w a listed hu hok.2 hs hSw h2 j hj
    refine ⟨fun n gt ρ w a listed hi hok hs hSw h => ?_, fun n gt ρ w a listed hi hok hs hSw h j hj => step n false gt ρ w a listed hi hok hs hSw h j hj⟩
    have hok2 := hok
    simp only [schedT, Bool.and_eq_true, bne_iff_ne, ne_eq, Bool.not_true, Bool.false_or, beq_iff_eq] at hok2
    obtain ⟨m, rfl⟩ : ∃ m, n = m + 1 := ⟨n - 1, by omega⟩
    exact wpAnyG_all hok2.1.1.1 (by simp) fun j hj => step m true gt ρ w a listed hi hok hs hSw h j hj
/-- A statement that leaves its order open, by a tree of orders. -/
theorem drawW_tree {P : Program} {l : List Oper} {L : List Nat} {ρ : Env} {w : World} {Q : Post} (hb : List Nat) (st : ST) (gt : GT) (hm : P.follows .mixedOrders = true)
    (hi : insT l st = some gt) (hok : (Region.noSelect l.toArray && schedT l.toArray hb st l.length true (Array.replicate l.length false)) = true)
    (S : World → Prop) (hS : S w.drew) (h : DT P S gt L ρ w.drew Q) : drawW P l L ρ w Q := by
  intro N a hall hs
  simp only [Bool.and_eq_true] at hok
  refine ops_of_any hm (wpAny_of_G (S := S) (hb := hb) _ _ _ _ ?_)
  have := (DT_sound (S := S) hall hok.1 hb L Q st).1 l.length gt ρ w.drew a (Array.replicate l.length false) hi hok.2 hs hS h
  have e : l.toArray.size = l.length := by simp
  rw [e]
  exact this
section
variable {P : Program} {S : World → Prop} {w : World} {ρ : Env} {Q : Post} {r q : GT} {L : List Nat} {d : Option Nat} {ty : TypeId} {k : Nat} {op : Op} {s : Nat} {b c : Bool} {x : Ins}
def DTn (P : Program) (S : World → Prop) (r : GT) (L : List Nat) (ρ : Env) (d : Option Nat) (Q : Post) : Value → World → Prop := fun v w => DT P S r L (put ρ d v) w Q
def DTs (P : Program) (S : World → Prop) (r : GT) (L : List Nat) (ρ : Env) (d : Option Nat) (Q : Post) : Value → World → Prop := fun v w => S w ∧ DT P S r L (put ρ d v) w Q
def opT (P : Program) (S : World → Prop) (k : Nat) (op : Op) (ty : TypeId) (r : GT) (L : List Nat) (ρ : Env) (d : Option Nat) (w : World) (Q : Post) : Prop := opG P S k op ty ρ w (DTn P S r L ρ d Q)
def dT (P : Program) (S : World → Prop) (o : Option Value) (s : Nat) (b : Bool) (k : Nat) (d : Option Nat) (op : Op) (ty : TypeId) (r : GT) (L : List Nat) (ρ : Env) (w : World) (Q : Post) : Prop :=
  match o with
  | some (.bool c) => (c = b → opT P S k op ty r L ((s, .bool b) :: ρ) d w Q) ∧ (c = !b → DT P S r L (put ((s, .bool !b) :: ρ) d undef) w Q)
  | some (.tuple _) => DT P S r L (put ρ d undef) w Q
  | _ => False
def nxT (P : Program) (S : World → Prop) (k : Nat) (x : Ins) (r : GT) (L : List Nat) (ρ : Env) (w : World) (Q : Post) : Prop := stepX P S k x ρ w fun ρ' w' => DT P S r L ρ' w' Q
theorem DT_nil : DT P S .nil L ρ w Q = Q .normal (restr L ρ) w := (rfl)
theorem DT_stop : DT P S .stop L ρ w Q = True := (rfl)
theorem DT_one : DT P S (.one k x r) L ρ w Q = nxT P S k x r L ρ w Q := (rfl)
theorem DT_alt : DT P S (.alt x r q) L ρ w Q = (nxT P S 2 x r L ρ w Q ∧ DT P S q L ρ w Q) := (rfl)
theorem nxT_plain : nxT P S k ⟨d, op, ty, none⟩ r L ρ w Q = opT P S k op ty r L ρ d w Q := (rfl)
theorem nxT_guard : nxT P S k ⟨d, op, ty, some (s, b)⟩ r L ρ w Q = dT P S (lk ρ s) s b k d op ty r L ρ w Q := by
  simp only [nxT, stepX, dT]; rfl
theorem DTn_app {v : Value} : DTn P S r L ρ d Q v w = DT P S r L (put ρ d v) w Q := (rfl)
theorem DTs_app {v : Value} : DTs P S r L ρ d Q v w = (S w ∧ DT P S r L (put ρ d v) w Q) := (rfl)
theorem opT_0 : opT P S 0 op ty r L ρ d w Q = pureW P op ty ρ w (DTn P S r L ρ d Q) := (rfl)
theorem opT_1 {t : TypeId} {x : Operand} : opT P S 1 (.load t x) ty r L ρ d w Q = ptrW (fun p => heldW P S t p w (DTn P S r L ρ d Q)) (ev ρ x) := (rfl)
theorem opT_2 : opT P S 2 op ty r L ρ d w Q = (noY ρ op ∧ opW P op ty ρ w (DTs P S r L ρ d Q)) := (rfl)
theorem dT_t : dT P S (some (.bool true)) s true k d op ty r L ρ w Q = opT P S k op ty r L ((s, .bool true) :: ρ) d w Q := by simp [dT]
theorem dT_f : dT P S (some (.bool false)) s false k d op ty r L ρ w Q = opT P S k op ty r L ((s, .bool false) :: ρ) d w Q := by simp [dT]
theorem dT_tf : dT P S (some (.bool true)) s false k d op ty r L ρ w Q = DT P S r L (put ((s, .bool true) :: ρ) d undef) w Q := by simp [dT]
theorem dT_ft : dT P S (some (.bool false)) s true k d op ty r L ρ w Q = DT P S r L (put ((s, .bool false) :: ρ) d undef) w Q := by simp [dT]
theorem dT_gen : dT P S (some (.bool c)) s b k d op ty r L ρ w Q = ((c = b → opT P S k op ty r L ((s, .bool b) :: ρ) d w Q) ∧ (c = !b → DT P S r L (put ((s, .bool !b) :: ρ) d undef) w Q)) := (rfl)
theorem dT_undef : dT P S (some undef) s b k d op ty r L ρ w Q = DT P S r L (put ρ d undef) w Q := (rfl)
end
attribute [go_sem low] dT_gen
attribute [go_sem] DT_nil DT_stop DT_one DT_alt nxT_plain nxT_guard DTn_app DTs_app opT_0 opT_1 opT_2 dT_t dT_f dT_tf dT_ft dT_undef
end Go.Ann
namespace Go.Ann
open Go Go.RowKit
set_option linter.unusedVariables false
set_option linter.unusedSimpArgs false
section
variable {κ : Type} {P : Program} {enc : κ → Value} {t : TypeId}
/-- The entries for keys, the first one born at n. -/
def entL (enc : κ → Value) : Nat → List κ → List MapEntry
  | _, [] => []
  | n, k :: l => { key := enc k, val := .bool true, born := n } :: entL enc (n + 1) l
/-- The map of keys, in the order in which they were come to. -/
def mapO (enc : κ → Value) (l : List κ) : Obj := .map (entL enc 0 l).toArray l.length
theorem entL_append : ∀ (l m : List κ) (n : Nat), entL enc n (l ++ m) = entL enc n l ++ entL enc (n + l.length) m
  | [], m, n => rfl
  | k :: l, m, n => by
    simp only [List.cons_append, entL, List.length_cons]
    rw [entL_append l m (n + 1), show n + 1 + l.length = n + (l.length + 1) by omega]
theorem mmW_map {m : TypeId} {w : World} {K : Value → World → Prop} (hK : K (.map (some w.heap.size)) (w.alloc (mapO (κ := κ) enc []))) : mmW P m w K := by
  refine ⟨_, _, ?_, hK⟩
  unfold Instr.makeMap
  simp [Sem.run_bind, Result.andThen, run_newObj_alloc]
  rfl
variable [DecidableEq κ]
/-- A type of keys: how they are looked at, and compared. -/
structure KeyT (P : Program) (t : TypeId) (enc : κ → Value) (d : TypeDesc) : Prop where
  und : P.underlying t = some d
  chk' : ∀ (n : Nat) (w : World) (em : Bool) (a : κ), (Instr.checkKey em (n + 2) t (enc a)).run P w = .ok () w
  now : ∀ a b : κ, Instr.sameNow d (enc a) (enc b) = none ∨ Instr.sameNow d (enc a) (enc b) = some (decide (a = b))
  eq : ∀ (w : World) (a b : κ), (Op.equal t (enc a) (enc b)).run P w = .ok (decide (a = b)) w
theorem KeyT.chk {d : TypeDesc} (h : KeyT P t enc d) (w : World) (em : Bool) (a : κ) : (Instr.checkKey em 10000 t (enc a)).run P w = .ok () w := h.chk' 9998 w em a
/-- Where a key is. -/
def whereK (a : κ) : List κ → Nat → Option (Nat × Value)
  | [], _ => none
  | b :: l, i => if a = b then some (i, .bool true) else whereK a l (i + 1)
theorem whereK_not {a : κ} : ∀ {l : List κ} {i : Nat}, a ∉ l → whereK a l i = none
  | [], _, _ => rfl
  | b :: l, i, h => by
    rw [whereK, if_neg (fun e => h (by rw [e]; exact List.mem_cons_self ..)), whereK_not fun hm => h (List.mem_cons_of_mem _ hm)]
theorem whereK_mem {a : κ} : ∀ {l : List κ} {i : Nat}, a ∈ l → ∃ j, whereK a l i = some (j, .bool true)
  | b :: l, i, h => by
    rw [whereK]
    split
    · exact ⟨_, rfl⟩
    · rename_i hne
      rcases List.mem_cons.1 h with e | h
      · exact absurd e hne
      · exact whereK_mem h
variable {d : TypeDesc}
theorem findNow_ent (hk : KeyT P t enc d) (a : κ) : ∀ (l : List κ) (n i : Nat), Instr.findNow d (enc a) (entL enc n l) i = none ∨ Instr.findNow d (enc a) (entL enc n l) i = some (whereK a l i)
  | [], n, i => .inr rfl
  | b :: l, n, i => by
    simp only [entL, Instr.findNow, whereK]
    rcases hk.now a b with h | h
    · exact .inl (by rw [h])
    · rw [h]
      by_cases e : a = b
      · rw [decide_eq_true e, if_pos e]; exact .inr rfl
      · rw [decide_eq_false e, if_neg e]; exact findNow_ent hk a l _ _
theorem findAsk_ent (hk : KeyT P t enc d) (w : World) (a : κ) : ∀ (l : List κ) (n i : Nat), (Instr.findAsking t (enc a) (entL enc n l) i).run P w = .ok (whereK a l i) w
  | [], n, i => rfl
  | b :: l, n, i => by
    simp only [entL, Instr.findAsking, whereK, Sem.run_bind, hk.eq w a b, Result.andThen_ok]
    by_cases e : a = b
    · rw [decide_eq_true e, if_pos e]; rfl
    · rw [decide_eq_false e, if_neg e]
      simp only [Bool.false_eq_true, if_false]
      exact findAsk_ent hk w a l _ _
theorem findKey_ent (hk : KeyT P t enc d) (w : World) (a : κ) (l : List κ) (n : Nat) : (Instr.findKey t (enc a) (entL enc n l)).run P w = .ok (whereK a l 0) w := by
  unfold Instr.findKey
  simp only [Sem.run_bind, run_underlying hk.und, Result.andThen_ok]
  rcases findNow_ent hk a l n 0 with h | h
  · rw [h]; exact findAsk_ent hk w a l n 0
  · rw [h]; rfl
theorem luW_map {m e : TypeId} {w : World} {K : Value → World → Prop} {r : Nat} (hk : KeyT P t enc d) (hm : P.underlying m = some (.map t e)) {l : List κ} (hr : w.heap[r]? = some (mapO enc l)) (a : κ)
    (hz : (zeroValue e).run P w = .ok (.bool false) w) (hK : K (.bool (decide (a ∈ l))) w) : luW P m (.map (some r)) (enc a) false w K := by
  refine ⟨_, _, ?_, hK⟩
  unfold Instr.lookup
  have hg : (getObj r).run P w = .ok (.map (entL enc 0 l).toArray l.length) w := run_getObj_map w r _ _ hr
  simp only [Sem.run_bind, run_underlying hm, Result.andThen_ok, hg, Sem.run_pure, hk.chk, findKey_ent hk, List.toList_toArray]
  by_cases h : a ∈ l
  · obtain ⟨j, hj⟩ := whereK_mem (i := 0) h
    rw [hj, decide_eq_true h]; rfl
  · rw [whereK_not h, decide_eq_false h]
    simp only [Sem.run_bind, hz, Result.andThen_ok]
    rfl
theorem muW_map {m e : TypeId} {w : World} {K : Value → World → Prop} {r : Nat} (hk : KeyT P t enc d) (hm : P.underlying m = some (.map t e)) {l : List κ} (hr : w.heap[r]? = some (mapO enc l)) (a : κ) (ha : a ∉ l)
    (hK : K undef (w.putObj r (mapO enc (l ++ [a])))) : muW P m (.map (some r)) (enc a) (.bool true) w K := by
  refine ⟨_, ?_, hK⟩
  unfold Instr.mapUpdate
  have hg : (getObj r).run P w = .ok (.map (entL enc 0 l).toArray l.length) w := run_getObj_map w r _ _ hr
  simp only [Sem.run_bind, run_underlying hm, Result.andThen_ok, hg, Sem.run_pure, hk.chk, findKey_ent hk, List.toList_toArray, whereK_not ha]
  have e : (entL enc 0 l).toArray.push { key := enc a, val := Value.bool true, born := l.length } = (entL enc 0 (l ++ [a])).toArray := by
    rw [entL_append, Nat.zero_add]; simp [entL]
  rw [e]
  have hs : ∀ o, (setObj r o).run P w = .ok () (w.putObj r o) := fun o => by simp [setObj, Sem.run, hr, mapO, World.putObj]
  rw [hs]
  show _ = Result.ok () (w.putObj r (.map _ (l ++ [a]).length))
  rw [List.length_append]; rfl
end
section
variable {P : Program} {t : TypeId}
/-- Texts. -/
theorem keyT_str (ht : P.underlying t = some .string) : KeyT P t (fun l : List UInt8 => .string (ofL l)) .string := by
  refine ⟨ht, fun n w em a => ?_, fun a b => .inr ?_, fun w a b => ?_⟩
  · simp only [Instr.checkKey, Sem.run_bind, run_underlying ht, Result.andThen_ok]; rfl
  · simp only [Instr.sameNow, Option.some.injEq]
    rw [Bool.eq_iff_iff, MapKept.bytes_beq, decide_eq_true_eq]
    exact ⟨ofL_inj, congrArg ofL⟩
  · show (Op.equalIn 10000 t _ _).run P w = _
    rw [run_equalIn_string w 9999 t _ _ ht]
    congr 1
    rw [ByteArray.toList_eq, ByteArray.toList_eq, Bool.eq_iff_iff]; simp [ofL]
/-- Structs of plain fields. -/
theorem keyT_flat {κ : Type} [DecidableEq κ] {enc : κ → List Value} {ks : List FK} {fs : Array Field} (hf : flatT P t = some ks) (hu : P.underlying t = some (.struct fs)) (he : ∀ a b, aggEq ks (enc a) (enc b) = some (decide (a = b))) (hl : ∀ (a : κ) (i : Nat) (f : Field), fs[i]? = some f → ∃ v, (enc a)[f.offset]? = some v) :
    KeyT P t (fun a => .agg (enc a).toArray) (.struct fs) := by
  have hg : (P.stoodInHeld t = false ∧ P.eqGuardType P.depth t = false) ∧ flatF P 0 fs.toList = some ks := by
    unfold flatT at hf
    split at hf
    · rename_i hg
      rw [hu] at hf
      exact ⟨hg, hf⟩
    · cases hf
  refine ⟨hu, fun n w em a => ?_, fun a b => .inl rfl, fun w a b => ?_⟩
  · have one : ∀ (l : List Field) (i : Nat) (ks : List FK), flatF P i l = some ks → (∀ f ∈ l, ∃ v, (enc a)[f.offset]? = some v) → ∀ f ∈ l, ((if f.name ≠ "_" then do Instr.checkKey em (n + 1) f.type (← part f.type (enc a).toArray f.offset) else pure () : Sem Unit)).run P w = .ok () w := by
      intro l
      induction l with
      | nil => intro i ks _ _ f hf; cases hf
      | cons g l ih =>
        intro i ks h1 h2 f hfm
        simp only [flatF] at h1
        split at h1
        case isFalse => cases h1
        rename_i hgo
        split at h1
        case h_2 => cases h1
        rename_i k ks' hk hks
        rcases List.mem_cons.1 hfm with rfl | hfm
        · obtain ⟨v, hv⟩ := h2 _ (List.mem_cons_self ..)
          obtain ⟨dd, hd, hag, hm⟩ := kindF_some hk
          rw [if_pos hgo.2]
          have hp : (part f.type (enc a).toArray f.offset).run P w = .ok v w := by
            simp only [part, Sem.run_bind, run_isAgg0 w hd, Result.andThen, hag, Bool.false_eq_true, if_false, List.getElem?_toArray, hv, Sem.run_pure]
          simp only [Sem.run_bind, hp, Result.andThen_ok]
          simp only [Instr.checkKey, Sem.run_bind, run_underlying hd, Result.andThen_ok]
          cases k <;> cases dd <;> first | exact hm.elim | rfl
        · exact ih _ _ hks (fun f hf => h2 f (List.mem_cons_of_mem _ hf)) f hfm
    have each := one fs.toList 0 ks hg.2 fun f hf => by
      obtain ⟨i, hi, rfl⟩ := List.mem_iff_getElem.1 hf
      exact hl a i _ (by rw [← Array.getElem?_toList]; exact List.getElem?_eq_getElem hi)
    rw [Instr.checkKey]
    simp only [Sem.run_bind, run_underlying hu, Result.andThen_ok]
    rw [← Array.forIn_toList]
    revert each
    generalize fs.toList = l
    intro each
    induction l with
    | nil => rfl
    | cons f l ih =>
      have h1 := each f (List.mem_cons_self ..)
      have h2 := ih fun f hf => each f (List.mem_cons_of_mem _ hf)
      rw [List.forIn_cons]
      simp only [Sem.run_bind] at h2 ⊢
      by_cases hn : f.name ≠ "_"
      · rw [if_pos hn] at h1
        simp only [Sem.run_bind] at h1
        rw [if_pos hn]
        simp only [Sem.run_bind]
        cases hp : (part f.type (enc a).toArray f.offset).run P w with
        | ok v w1 =>
          rw [hp] at h1
          simp only [Result.andThen_ok] at h1 ⊢
          rw [h1]
          simpa using h2
        | _ => rw [hp] at h1; cases h1
      · rw [if_neg hn]
        simpa using h2
  · show (Op.equalIn 10000 t _ _).run P w = _
    have hfo : P.fieldsOf t = fs := by simp [Program.fieldsOf, hu]
    rw [run_equalIn_struct w 9999 t _ _ (by rw [hfo]; exact hu) hg.1.1, hfo]
    exact eqF_run w 9998 _ _ fs.toList ks 0 _ hg.2 (by simpa using he a b)
end
end Go.Ann
namespace Go.Ann
open Go Go.RowKit
attribute [go_sem] storeW_fill List.setIfInBounds_toArray List.set_cons_zero List.set_cons_succ List.getElem_toArray List.getElem_cons_zero List.getElem_cons_succ Nat.reduceLeDiff Nat.reduceSub okSt_nil okSt_cons fillO_some fillO_none cF_same cF_blk fF_any size_fill Value.oneCell' Int.toNat_natCast Int.cast_ofNat_Int cast0 cast1 Int.natCast_add add_block add_off Classical.not_not decide_not Bool.not_eq_false decide_true decide_false Bool.true_beq Bool.false_beq beq_true beq_false Bool.true_bne Bool.false_bne Bool.bne_true Bool.bne_false decide_eq_true_eq Bool.not_eq_eq_eq_not Nat.mul_one List.size_toArray List.length_cons List.length_nil Nat.le_refl ldK_int ldK_bool ldK_str ldK_slice ldK_ptr ldK_map ldK_agg ldK_other ldO_int ldO_bool ldO_str ldO_slice ldO_ptr ldO_map ldO_other ldA_some cellsO_new cellsO_nil cellsC_some cellsO_drew cellsO_alloc cA_add cS_add cA_new cA_old fA_new fA_old setO_some cS_same cS_off cS_blk World.cell?_drew World.frozen?_drew World.frozen?_setCell World.size_alloc World.size_drew World.size_setCell heldX_eq heldX_add chg_refl chg_drew ovr_nil ovr_cons Option.getD_some Option.getD_none Addr.add_lit Nat.add_zero Option.some.injEq exists_eq' exists_eq_left' Value.int.injEq Value.bool.injEq Value.pointer.injEq Value.string.injEq
end Go.Ann
