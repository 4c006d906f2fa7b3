/- An engine for walks. Part 13: statements that leave their order open: one order that serves for all. -/
import Derived.Test.YtkofhjopeppnoaaAnn12
import Derived.Orders
import Derived.Deep.Quiet
namespace Go.Ann
set_option linter.unusedSimpArgs false
open Go Go.RowKit
section
set_option linter.unusedVariables false
variable {P : Program}

/-- A conversion between whole numbers. -/
def convIk (s d : TyK) (x : Value) (w : World) (K : Value → World → Prop) : Prop :=
  match s, d, x with
  | .int k, .int k', .int k'' n => convK (.int k) (.int k') (.int k'' n) w K
  | _, _, _ => False
def cvI (P : Program) (s d : TypeId) (o : Option Value) (w : World) (K : Value → World → Prop) : Prop := un1W (fun x => convIk (tyK P s) (tyK P d) x w K) o
theorem convIk_out {P : Program} {s d : TypeId} {x : Value} {w : World} {K : Value → World → Prop} (h : convIk (tyK P s) (tyK P d) x w K) : ∃ v, (∀ w', (convert s d x).run P w' = .ok v w') ∧ K v w := by
  generalize hs : tyK P s = ks at h
  generalize hd : tyK P d = kd at h
  unfold convIk at h
  split at h
  · rename_i k k' k'' n
    have hs' := tyK_int hs
    have hd' := tyK_int hd
    have hk : P.intKind d = k' := by simp [Program.intKind, hd']
    have hr := fun w' => run_convert_int w' s d k'' n (by rw [hs']; rfl) (by rw [hk]; exact hd')
    rw [hk] at hr
    refine ⟨_, hr, ?_⟩
    unfold convK at h
    split at h <;> rename_i h1 h2 h3
    · simp only [TyK.int.injEq, Value.int.injEq] at h2 h3
      rw [h2, h3.2, wrap_i64 _ h.1]; exact h.2
    · simp only [TyK.int.injEq, Value.int.injEq] at h2 h3
      rw [h2, h3.2]; exact h
    all_goals first | cases h1 | cases h2 | cases h3 | exact h.elim
  · exact h.elim
/-- What is to be shown of an operation that hangs on no memory. -/
def pureW (P : Program) (op : Op) (ty : TypeId) (ρ : Env) (w : World) (K : Value → World → Prop) : Prop :=
  match op with
  | .move x => mvW (ev ρ x) w K
  | .assign x => mvW (ev ρ x) w K
  | .pick c a b => mvW (pickV (ev ρ c) (ev ρ a) (ev ρ b)) w K
  | .binOp op t x y _ => pvW (bin2 (binV P op t) (ev ρ x) (ev ρ y)) w K
  | .unOp op _ x => pvW (un1 (unV op) (ev ρ x)) w K
  | .index t x i => pvW (bin2 (indexV P t) (ev ρ x) (ev ρ i)) w K
  | .slice t x lo hi none => pvW (sliceV P t (ev ρ x) (evo ρ lo) (evo ρ hi)) w K
  | .field t x f => pvW (un1 (fieldV P t f) (ev ρ x)) w K
  | .fieldAddr t x f => pvW (un1 (fieldAddrV P t f) (ev ρ x)) w K
  | .indexAddr t x i => pvW (bin2 (indexAddrV P t) (ev ρ x) (ev ρ i)) w K
  | .extract x k => pvW (un1 (extractV k) (ev ρ x)) w K
  | .makeInterface t x => pvW (un1 (ifaceV P t) (ev ρ x)) w K
  | .nilCheck x => pvW (un1 nilCheckV (ev ρ x)) w K
  | .convert s d x => cvI P s d (ev ρ x) w K
  | .makeFunc fn first cap => mfD fn (evs ρ first.toList) (evs ρ cap.toList) w K
  | .call ⟨.builtin .len, args, ats⟩ => pvW (lsPV (biV P .len ats.toList) (evs ρ args.toList)) w K
  | .call ⟨.builtin .min, args, ats⟩ => pvW (lsPV (biV P .min ats.toList) (evs ρ args.toList)) w K
  | .call ⟨.builtin .max, args, ats⟩ => pvW (lsPV (biV P .max ats.toList) (evs ρ args.toList)) w K
  | _ => False

def Runs (P : Program) (op : Op) (ty : TypeId) (ρ : Env) (v : Value) : Prop :=
  ∀ a : Operand → Value, (∀ x v, ev ρ x = some v → a x = v) → ∀ w, (execOp a (rawOp op ty)).run P w = .ok (.value v) w

theorem run_val {s : Sem Value} {v : Value} {w : World} (h : s.run P w = .ok v w) : (do pure (Next.value (← s)) : Sem Next).run P w = .ok (.value v) w := by
  simp only [Sem.run_bind, h, Result.andThen]; rfl

theorem bi_runs {b : Builtin} {args : Array Operand} {ats : Array TypeId} {ty : TypeId} {ρ : Env} {w : World} {K : Value → World → Prop}
    (h : pvW (lsPV (biV P b ats.toList) (evs ρ args.toList)) w K) : ∃ v, Runs P (.call ⟨.builtin b, args, ats⟩) ty ρ v ∧ K v w := by
  obtain ⟨ob, v, h1, hob, hk⟩ := pvW_out h
  cases hx : evs ρ args.toList with
  | none => rw [hx] at h1; cases h1
  | some xs =>
    rw [hx] at h1
    refine ⟨v, fun a ha w' => ?_, hk⟩
    simp only [execOp, rawOp, resolve, Sem.run_bind, Sem.run_pure, Result.andThen, invoke, evs_map' ha hx]
    exact biV_sound w' (ats := ats.toList) h1 hob

theorem pureW_runs {op : Op} {ty : TypeId} {ρ : Env} {w : World} {K : Value → World → Prop} (h : pureW P op ty ρ w K) : ∃ v, Runs P op ty ρ v ∧ K v w := by
  unfold pureW at h
  split at h
  · obtain ⟨v, hv, hk⟩ := mvW_out h
    exact ⟨v, fun a ha w => by simp only [execOp, rawOp, ha _ _ hv]; rfl, hk⟩
  · obtain ⟨v, hv, hk⟩ := mvW_out h
    exact ⟨v, fun a ha w => by simp only [execOp, rawOp, ha _ _ hv]; rfl, hk⟩
  · obtain ⟨v, hv, hk⟩ := mvW_out h
    refine ⟨v, fun a ha w => ?_, hk⟩
    unfold pickV at hv
    split at hv
    · rename_i h1
      simp only [execOp, rawOp, ha _ _ h1, asBool, ha _ _ hv]; simp
    · rename_i h1
      simp only [execOp, rawOp, ha _ _ h1, asBool, ha _ _ hv]; simp
    · cases hv
  · obtain ⟨ob, v, h1, hob, hk⟩ := pvW_out h
    obtain ⟨x, y, hx, hy, h1⟩ := bin2_out h1
    exact ⟨v, fun a ha w => by simp only [execOp, rawOp, ha _ _ hx, ha _ _ hy]; exact run_val (binV_sound w h1 hob _ _), hk⟩
  · obtain ⟨ob, v, h1, hob, hk⟩ := pvW_out h
    obtain ⟨x, hx, h1⟩ := un1_out h1
    exact ⟨v, fun a ha w => by simp only [execOp, rawOp, ha _ _ hx]; exact run_val (unV_sound w h1 hob), hk⟩
  · obtain ⟨ob, v, h1, hob, hk⟩ := pvW_out h
    obtain ⟨x, y, hx, hy, h1⟩ := bin2_out h1
    exact ⟨v, fun a ha w => by simp only [execOp, rawOp, ha _ _ hx, ha _ _ hy]; exact run_val (indexV_sound w h1 hob), hk⟩
  · obtain ⟨ob, v, h1, hob, hk⟩ := pvW_out h
    rename_i t x lo hi
    have evo_out : ∀ {a : Operand → Value}, (∀ x v, ev ρ x = some v → a x = v) → ∀ {o : Option Operand} {u : Option Value}, evo ρ o = some u → o.map a = u := by
      intro a ha o u hu
      cases o with
      | none => simp only [evo, Option.some.injEq] at hu; subst hu; rfl
      | some x =>
        simp only [evo] at hu
        split at hu
        · rename_i v hv
          simp only [Option.some.injEq] at hu; subst hu
          rw [Option.map_some, ha _ _ hv]
        · cases hu
    cases hx : ev ρ x with
    | none => rw [hx] at h1; unfold sliceV at h1; simp at h1
    | some xv => cases hl : evo ρ lo with
      | none => rw [hx, hl] at h1; unfold sliceV at h1; simp at h1
      | some lv => cases hh : evo ρ hi with
        | none => rw [hx, hl, hh] at h1; unfold sliceV at h1; simp at h1
        | some hv =>
          rw [hx, hl, hh] at h1
          exact ⟨v, fun a ha w => by simp only [execOp, rawOp, ha _ _ hx, evo_out ha hl, evo_out ha hh, Option.map_none]; exact run_val (sliceV_sound w h1 hob), hk⟩
  · obtain ⟨ob, v, h1, hob, hk⟩ := pvW_out h
    obtain ⟨x, hx, h1⟩ := un1_out h1
    exact ⟨v, fun a ha w => by simp only [execOp, rawOp, ha _ _ hx]; exact run_val (fieldV_sound w h1), hk⟩
  · obtain ⟨ob, v, h1, hob, hk⟩ := pvW_out h
    obtain ⟨x, hx, h1⟩ := un1_out h1
    exact ⟨v, fun a ha w => by simp only [execOp, rawOp, ha _ _ hx]; exact run_val (fieldAddrV_sound w h1), hk⟩
  · obtain ⟨ob, v, h1, hob, hk⟩ := pvW_out h
    obtain ⟨x, y, hx, hy, h1⟩ := bin2_out h1
    exact ⟨v, fun a ha w => by simp only [execOp, rawOp, ha _ _ hx, ha _ _ hy]; exact run_val (indexAddrV_sound w h1 hob), hk⟩
  · obtain ⟨ob, v, h1, hob, hk⟩ := pvW_out h
    obtain ⟨x, hx, h1⟩ := un1_out h1
    exact ⟨v, fun a ha w => by simp only [execOp, rawOp, ha _ _ hx]; exact run_val (extractV_sound w h1), hk⟩
  · obtain ⟨ob, v, h1, hob, hk⟩ := pvW_out h
    obtain ⟨x, hx, h1⟩ := un1_out h1
    exact ⟨v, fun a ha w => by simp only [execOp, rawOp, ha _ _ hx]; exact run_val (ifaceV_sound w h1), hk⟩
  · obtain ⟨ob, v, h1, hob, hk⟩ := pvW_out h
    obtain ⟨x, hx, h1⟩ := un1_out h1
    unfold nilCheckV at h1
    split at h1
    · simp only [Option.some.injEq, Prod.mk.injEq] at h1; obtain ⟨rfl, rfl⟩ := h1
      exact ⟨_, fun a ha w => by simp only [execOp, rawOp, ha _ _ hx]; rfl, hk⟩
    · simp only [Option.some.injEq, Prod.mk.injEq] at h1; obtain ⟨rfl, rfl⟩ := h1
      exact ⟨_, fun a ha w => by simp only [execOp, rawOp, ha _ _ hx]; rfl, hk⟩
    · cases h1
  · obtain ⟨x, hx, h⟩ := un1W_out h
    obtain ⟨v, hr, hk⟩ := convIk_out h
    exact ⟨v, fun a ha w => by simp only [execOp, rawOp, ha _ _ hx]; exact run_val (hr w), hk⟩
  · obtain ⟨f, hf, h⟩ := ls1W_out h
    obtain ⟨c, hc, hk⟩ := ls1W_out h
    exact ⟨_, fun a ha w => by simp only [execOp, rawOp, evs_map' ha hf, evs_map' ha hc]; rfl, hk⟩
  · exact bi_runs h
  · exact bi_runs h
  · exact bi_runs h
  · exact h.elim

/-- The operations in an order of our own: which are plain, which are met alone. -/
def DL (P : Program) : List (Bool × Ins) → List Nat → Env → World → Post → Prop
  | [], L, ρ, w, Q => Q .normal (restr L ρ) w
  | (p, ⟨d, op, ty, none⟩) :: r, L, ρ, w, Q =>
    if p then pureW P op ty ρ w (fun v w' => DL P r L (put ρ d v) w' Q) else noY ρ op ∧ opW P op ty ρ w (fun v w' => DL P r L (put ρ d v) w' Q)
  | (p, ⟨d, op, ty, some (s, b)⟩) :: r, L, ρ, w, Q => match lk ρ s with
    | some (.bool c) => (c = b → if p then pureW P op ty ((s, .bool b) :: ρ) w (fun v w' => DL P r L (put ((s, .bool b) :: ρ) d v) w' Q) else noY ((s, .bool b) :: ρ) op ∧ opW P op ty ((s, .bool b) :: ρ) w (fun v w' => DL P r L (put ((s, .bool b) :: ρ) d v) w' Q)) ∧
        (c = !b → DL P r L (put ((s, .bool !b) :: ρ) d undef) w Q)
    | some (.tuple _) => DL P r L (put ρ d undef) w Q
    | _ => False

/-- Does an order of ours serve? A plain operation that is apart from all that may come; or the one that alone may come. -/
def schedOk (ops : Array Oper) : List (Bool × Nat) → Array Bool → Bool
  | [], listed => (Region.ready .any ops listed).isEmpty
  | (true, i) :: r, listed => (Region.ready .any ops listed).contains i && Region.free .any ops listed i && schedOk ops r (listed.setIfInBounds i true)
  | (false, i) :: r, listed => (Region.ready .any ops listed == [i]) && schedOk ops r (listed.setIfInBounds i true)

def schedIns (l : List Oper) : List (Bool × Nat) → Option (List (Bool × Ins))
  | [] => some []
  | (p, i) :: r => match l[i]? with
    | none => none
    | some o => match stripG l o.guard, schedIns l r with
      | some g, some q => some ((p, ⟨o.dst, o.op, o.type, g⟩) :: q)
      | _, _ => none

variable {N : Nat}
def drawQ (N : Nat) (L : List Nat) (Q : Post) : Exit → Act → World → Prop := fun e a w => ∃ ρ, Sim N a ρ ∧ e = .normal ∧ Q .normal (restr L ρ) w

theorem wpOp_done {ops : Array Oper} {i : Nat} {o : Oper} {a : Act} {w : World} {K : Value → World → Prop} {next : Act → World → Prop} {Q : Exit → Act → World → Prop} (hi : ops[i]? = some o)
    (hw : Region.wanted o (yielded ops a.tmps) = true) (h : Done P (execOp a.eval (rawOp o.op o.type)) w K) (hk : ∀ v w', K v w' → next (a.put o.dst v) w') : wpOp P ops Q i next a w := by
  unfold wpOp
  simp only [hi, hw, if_true]
  exact .inl (done_wp (execOp_raw _ _) h hk)
theorem wpOp_skip {ops : Array Oper} {i : Nat} {o : Oper} {a : Act} {w : World} {next : Act → World → Prop} {Q : Exit → Act → World → Prop} (hi : ops[i]? = some o)
    (hw : Region.wanted o (yielded ops a.tmps) = false) (h : next (a.put o.dst undef) w) : wpOp P ops Q i next a w := by
  unfold wpOp
  simp only [hi, hw, Bool.false_eq_true, if_false]
  exact h

theorem yielded_of {l : List Oper} {a : Act} {ρ : Env} (hsim : Sim N a ρ) {j s : Nat} (hs : (l[j]?).bind (·.dst) = some s) {c : Bool} (hc : lk ρ s = some (.bool c)) : yielded l.toArray a.tmps j = some c := by
  have h1 := hsim.slot _ _ hc
  unfold yielded
  simp only [List.getElem?_toArray, hs, Option.bind_some]
  have h2 : a.tmps[s]? = some (.bool c) := by
    rw [Array.getD_eq_getD_getElem?] at h1
    cases h3 : a.tmps[s]? with
    | none => rw [h3] at h1; simp [undef] at h1
    | some u => rw [h3] at h1; simp only [Option.getD_some] at h1; rw [h1]
  rw [h2]
theorem yielded_undef {l : List Oper} {a : Act} {ρ : Env} (hsim : Sim N a ρ) {j s : Nat} (hs : (l[j]?).bind (·.dst) = some s) {u : Array Value} (hc : lk ρ s = some (.tuple u)) : yielded l.toArray a.tmps j = none := by
  have h1 := hsim.slot _ _ hc
  unfold yielded
  simp only [List.getElem?_toArray, hs, Option.bind_some]
  rw [Array.getD_eq_getD_getElem?] at h1
  cases h3 : a.tmps[s]? with
  | none => rfl
  | some u => rw [h3] at h1; simp only [Option.getD_some] at h1; rw [h1]

theorem bool_ne {c b : Bool} (h : ¬ c = b) : c = !b := by revert h; cases c <;> cases b <;> simp

theorem DL_sound {l : List Oper} (hall : l.all (fun o => okDst N o.dst) = true) (hns : Region.noSelect l.toArray = true) : ∀ (sched : List (Bool × Nat)) (ins : List (Bool × Ins)) (L : List Nat) (ρ : Env) (w : World) (Q : Post) (a : Act) (listed : Array Bool),
    schedIns l sched = some ins → schedOk l.toArray sched listed = true → Sim N a ρ → DL P ins L ρ w Q → wpAny P .any l.toArray (drawQ N L Q) sched.length listed a w
  | [], ins, L, ρ, w, Q, a, listed, hi, hok, hs, h => by
    simp only [schedIns, Option.some.injEq] at hi; subst hi
    simp only [schedOk, List.isEmpty_iff] at hok
    exact ⟨hok, ρ, hs, rfl, h⟩
  | (p, i) :: r, ins, L, ρ, w, Q, a, listed, hi, hok, hs, h => by
    simp only [schedIns] at hi
    split at hi
    · cases hi
    rename_i o ho
    split at hi
    case h_2 => cases hi
    rename_i g q hg hq
    simp only [Option.some.injEq] at hi; subst hi
    have ho' : l.toArray[i]? = some o := by simpa using ho
    have hd : okDst N o.dst = true := List.all_eq_true.1 hall o (List.mem_of_getElem? ho)
    -- how an operation is met, once what it is to give is known
    have take : ∀ (ρ' : Env), Sim N a ρ' → (Region.wanted o (yielded l.toArray a.tmps) = true) →
        (if p then pureW P o.op o.type ρ' w (fun v w' => DL P q L (put ρ' o.dst v) w' Q) else noY ρ' o.op ∧ opW P o.op o.type ρ' w (fun v w' => DL P q L (put ρ' o.dst v) w' Q)) →
        wpAny P .any l.toArray (drawQ N L Q) (r.length + 1) listed a w := by
      intro ρ' hs' hw h
      cases p with
      | true =>
        simp only [schedOk, Bool.and_eq_true] at hok
        simp only [if_true] at h
        obtain ⟨v, hv, hk⟩ := pureW_runs h
        refine wpAny_take ho' hns hok.1.2 hok.1.1 (fun c a w hh => ?_) (.inl ⟨hw, fun w' => ?_⟩) (DL_sound hall hns r q L _ w Q _ _ hq hok.2 (hs'.put hd v) hk)
        · obtain ⟨_, _, hn, _⟩ := hh; cases hn
        · rw [execOp_raw]; exact hv a.eval hs'.eval w'
      | false =>
        simp only [schedOk, Bool.and_eq_true, beq_iff_eq] at hok
        simp only [Bool.false_eq_true, if_false] at h
        refine wpAny_all hok.1 (by simp) fun j hj => ?_
        simp only [List.mem_singleton] at hj; subst hj
        exact wpOp_done ho' hw (opW_done h.2 h.1 a.eval hs'.eval) fun v w' hk => DL_sound hall hns r q L _ w' Q _ _ hq hok.2 (hs'.put hd v) hk
    have skip : ∀ (ρ' : Env), Sim N a ρ' → (Region.wanted o (yielded l.toArray a.tmps) = false) → DL P q L (put ρ' o.dst undef) w Q → wpAny P .any l.toArray (drawQ N L Q) (r.length + 1) listed a w := by
      intro ρ' hs' hw h2
      cases p with
      | true =>
        simp only [schedOk, Bool.and_eq_true] at hok
        refine wpAny_take ho' hns hok.1.2 hok.1.1 (fun c a w hh => ?_) (.inr ⟨hw, rfl⟩) (DL_sound hall hns r q L _ w Q _ _ hq hok.2 (hs'.put hd undef) h2)
        obtain ⟨_, _, hn, _⟩ := hh; cases hn
      | false =>
        simp only [schedOk, Bool.and_eq_true, beq_iff_eq] at hok
        refine wpAny_all hok.1 (by simp) fun j hj => ?_
        simp only [List.mem_singleton] at hj; subst hj
        exact wpOp_skip ho' hw (DL_sound hall hns r q L _ w Q _ _ hq hok.2 (hs'.put hd undef) h2)
    cases hgo : o.guard with
    | none =>
      rw [hgo] at hg
      simp only [stripG, Option.some.injEq] at hg; subst hg
      simp only [DL] at h
      exact take ρ hs (by simp only [Region.wanted, hgo]) h
    | some jb =>
      obtain ⟨j, b⟩ := jb
      rw [hgo] at hg
      simp only [stripG] at hg
      split at hg
      case h_2 => cases hg
      rename_i s hs0
      simp only [Option.some.injEq] at hg; subst hg
      simp only [DL] at h
      split at h
      · rename_i c hc
        have hy := yielded_of hs hs0 hc
        by_cases hcb : c = b
        · subst hcb
          exact take _ (hs.know hc) (by simp only [Region.wanted, hgo, hy, beq_self_eq_true]) (h.1 rfl)
        · have hcb' : c = !b := bool_ne hcb
          have hc' : lk ρ s = some (.bool !b) := by rw [← hcb']; exact hc
          exact skip _ (hs.know hc') (by simp only [Region.wanted, hgo, hy]; simpa using hcb) (h.2 hcb')
      · rename_i u hc
        exact skip ρ hs (by simp only [Region.wanted, hgo, yielded_undef hs hs0 hc]; rfl) h
      · exact h.elim

theorem ops_of_any {l : List Oper} {Q : Exit → Act → World → Prop} {a : Act} {w : World} (hm : P.follows .mixedOrders = true) (h : wpAny P .any l.toArray Q l.toArray.size (Array.replicate l.toArray.size false) a w) :
    ∀ t, wpOps P l.toArray Q (Region.schedule (P.follows .mixedOrders) l.toArray t) a w := fun t => by
  simp only [Region.schedule, hm, Bool.true_or, if_true]
  exact wpAny_sound _ t _ a _ h
/-- A statement that leaves its order open, by an order of ours. -/
theorem drawW_by {l : List Oper} {L : List Nat} {ρ : Env} {w : World} {Q : Post} (sched : List (Bool × Nat)) (ins : List (Bool × Ins)) (hm : P.follows .mixedOrders = true)
    (hi : schedIns l sched = some ins) (hok : (Region.noSelect l.toArray && (sched.length == l.length) && schedOk l.toArray sched (Array.replicate l.length false)) = true) (h : DL P ins L ρ w.drew Q) : drawW P l L ρ w Q := by
  intro N a hall hs
  simp only [Bool.and_eq_true, beq_iff_eq] at hok
  refine ops_of_any hm ?_
  have := DL_sound hall hok.1.1 sched ins L ρ w.drew Q a (Array.replicate l.length false) hi hok.2 hs h
  rw [hok.1.2] at this
  have e : l.toArray.size = l.length := by simp
  rw [e]
  exact this

/-! ### A statement whose operations only compute and read. -/
def isLoad : Op → Bool
  | .load _ _ => true
  | _ => false

theorem load_runs {op : Op} {ty : TypeId} {ρ : Env} {w : World} {K : Value → World → Prop} (hl : isLoad op = true) (h : opW P op ty ρ w K) :
    ∃ v, (∀ a : Operand → Value, (∀ x v, ev ρ x = some v → a x = v) → (execOp a (rawOp op ty)).run P w = .ok (.value v) w) ∧ K v w := by
  unfold isLoad at hl
  split at hl
  · obtain ⟨p, hp, h⟩ := ptrW_out h
    obtain ⟨v, hr, hk⟩ := loadW_out h
    refine ⟨v, fun a ha => ?_, hk⟩
    simp only [execOp, rawOp, ha _ _ hp]
    exact run_val (by simp only [Instr.loadAt, Instr.sureAddr, Sem.run_bind, Sem.run_pure, Result.andThen, hr])
  · cases hl

/-- The operations in the text's order: those that do not only compute read. -/
def stillIns (l : List Oper) : List (Bool × Oper) → Option (List (Bool × Ins))
  | [] => some []
  | (p, o) :: r => match stripG l o.guard, stillIns l r with
    | some g, some q => if p || isLoad o.op then some ((p, ⟨o.dst, o.op, o.type, g⟩) :: q) else none
    | _, _ => none

theorem still_sound {l : List Oper} (hall : l.all (fun o => okDst N o.dst) = true) {w : World} {L : List Nat} {Q : Post} : ∀ (os : List (Bool × Oper)) (ins : List (Bool × Ins)) (ρ : Env) (a : Act),
    stillIns l os = some ins → (∀ x ∈ os, okDst N x.2.dst = true) → Sim N a ρ → DL P ins L ρ w Q → wpQuiet P l.toArray (fun w' => w' = w) (fun a' => ∀ w', w' = w → drawQ N L Q .normal a' w') (os.map (·.2)) a
  | [], ins, ρ, a, hi, _, hs, h => by
    simp only [stillIns, Option.some.injEq] at hi; subst hi
    intro w' hw; subst hw
    exact ⟨ρ, hs, rfl, h⟩
  | (p, o) :: r, ins, ρ, a, hi, hd0, hs, h => by
    simp only [stillIns] at hi
    split at hi
    case h_2 => cases hi
    rename_i g q hg hq
    split at hi
    case isFalse => cases hi
    rename_i hp
    simp only [Option.some.injEq] at hi; subst hi
    have hd : okDst N o.dst = true := hd0 (p, o) (by simp)
    have hd' : ∀ x ∈ r, okDst N x.2.dst = true := fun x hx => hd0 x (by simp [hx])
    have take : ∀ (ρ' : Env), Sim N a ρ' → (Region.wanted o (yielded l.toArray a.tmps) = true) →
        (if p then pureW P o.op o.type ρ' w (fun v w' => DL P q L (put ρ' o.dst v) w' Q) else noY ρ' o.op ∧ opW P o.op o.type ρ' w (fun v w' => DL P q L (put ρ' o.dst v) w' Q)) →
        wpQuiet P l.toArray (fun w' => w' = w) (fun a' => ∀ w', w' = w → drawQ N L Q .normal a' w') (o :: r.map (·.2)) a := by
      intro ρ' hs' hw h
      unfold wpQuiet
      simp only [hw, if_true]
      have key : ∀ v, (∀ a : Operand → Value, (∀ x v, ev ρ' x = some v → a x = v) → (execOp a (rawOp o.op o.type)).run P w = .ok (.value v) w) → DL P q L (put ρ' o.dst v) w Q →
          o.quiet P a (fun w' => w' = w) (wpQuiet P l.toArray (fun w' => w' = w) (fun a' => ∀ w', w' = w → drawQ N L Q .normal a' w') (r.map (·.2))) := by
        intro v hv hk
        refine ⟨v, fun w' hw' => ?_, still_sound hall r q _ _ hq hd' (hs'.put hd v) hk⟩
        subst hw'
        unfold Oper.quietAt
        rw [execOp_raw, hv a.eval hs'.eval]
        exact ⟨rfl, rfl⟩
      cases p with
      | true =>
        simp only [if_true] at h
        obtain ⟨v, hv, hk⟩ := pureW_runs h
        exact key v (fun a ha => hv a ha w) hk
      | false =>
        simp only [Bool.false_eq_true, if_false] at h
        obtain ⟨v, hv, hk⟩ := load_runs (by simpa using hp) h.2
        exact key v hv hk
    have skip : ∀ (ρ' : Env), Sim N a ρ' → (Region.wanted o (yielded l.toArray a.tmps) = false) → DL P q L (put ρ' o.dst undef) w Q →
        wpQuiet P l.toArray (fun w' => w' = w) (fun a' => ∀ w', w' = w → drawQ N L Q .normal a' w') (o :: r.map (·.2)) a := by
      intro ρ' hs' hw h2
      unfold wpQuiet
      simp only [hw, Bool.false_eq_true, if_false]
      exact still_sound hall r q _ _ hq hd' (hs'.put hd undef) h2
    simp only [List.map_cons]
    cases hgo : o.guard with
    | none =>
      rw [hgo] at hg
      simp only [stripG, Option.some.injEq] at hg; subst hg
      simp only [DL] at h
      exact take ρ hs (by simp only [Region.wanted, hgo]) h
    | some jb =>
      obtain ⟨j, b⟩ := jb
      rw [hgo] at hg
      simp only [stripG] at hg
      split at hg
      case h_2 => cases hg
      rename_i s hs0
      simp only [Option.some.injEq] at hg; subst hg
      simp only [DL] at h
      split at h
      · rename_i c hc
        have hy := yielded_of hs hs0 hc
        by_cases hcb : c = b
        · subst hcb
          exact take _ (hs.know hc) (by simp only [Region.wanted, hgo, hy, beq_self_eq_true]) (h.1 rfl)
        · have hcb' : c = !b := bool_ne hcb
          have hc' : lk ρ s = some (.bool !b) := by rw [← hcb']; exact hc
          exact skip _ (hs.know hc') (by simp only [Region.wanted, hgo, hy]; simpa using hcb) (h.2 hcb')
      · rename_i u hc
        exact skip ρ hs (by simp only [Region.wanted, hgo, yielded_undef hs hs0 hc]; rfl) h
      · exact h.elim

/-- A statement whose operations only compute and read, in the text's order. -/
theorem drawW_still {l : List Oper} {L : List Nat} {ρ : Env} {w : World} {Q : Post} (ps : List Bool) (ins : List (Bool × Ins)) (hm : P.follows .mixedOrders = true)
    (hi : stillIns l (ps.zip l) = some ins) (hok : (Region.lexB .any l.toArray && (ps.length == l.length)) = true) (h : DL P ins L ρ w.drew Q) : drawW P l L ρ w Q := by
  intro N a hall hs
  simp only [Bool.and_eq_true, beq_iff_eq] at hok
  have hmap : (ps.zip l).map (·.2) = l := List.map_snd_zip (by omega)
  have := still_sound (w := w.drew) (L := L) (Q := Q) hall (ps.zip l) ins ρ a hi (fun x hx => List.all_eq_true.1 hall _ (List.of_mem_zip hx).2) hs h
  rw [hmap] at this
  have hB := hok.1
  simp only [Region.lexB, Bool.and_eq_true] at hB
  refine ops_of_any hm (wpAny_of_quiet (C := fun w' => w' = w.drew) (Q := fun a' => ∀ w', w' = w.drew → drawQ N L Q .normal a' w') (fun _ w' hw' h => h w' hw') _ _ _ _ rfl ?_)
  have := wpAnyQ_lex (C := fun w' => w' = w.drew) (md := .any) hB.1 l 0 (Array.replicate l.toArray.size false) a (by simp) (by simpa using hB.2) (by simpa using this)
  simpa using this
end
section
variable {P : Program} {w : World} {K : Value → World → Prop} {ρ : Env} {Q : Post} {r : List (Bool × Ins)} {L : List Nat} {d : Option Nat} {ty : TypeId}
def Dn (P : Program) (r : List (Bool × Ins)) (L : List Nat) (ρ : Env) (d : Option Nat) (Q : Post) : Value → World → Prop := fun v w => DL P r L (put ρ d v) w Q
def opD (P : Program) (p : Bool) (op : Op) (ty : TypeId) (ρ : Env) (w : World) (K : Value → World → Prop) : Prop := if p then pureW P op ty ρ w K else noY ρ op ∧ opW P op ty ρ w K
def dD (P : Program) (o : Option Value) (s : Nat) (b p : Bool) (d : Option Nat) (op : Op) (ty : TypeId) (r : List (Bool × Ins)) (L : List Nat) (ρ : Env) (w : World) (Q : Post) : Prop :=
  match o with
  | some (.bool c) => (c = b → opD P p op ty ((s, .bool b) :: ρ) w (Dn P r L ((s, .bool b) :: ρ) d Q)) ∧ (c = !b → DL P r L (put ((s, .bool !b) :: ρ) d undef) w Q)
  | some (.tuple _) => DL P r L (put ρ d undef) w Q
  | _ => False
theorem DL_nil : DL P [] L ρ w Q = Q .normal (restr L ρ) w := (rfl)
theorem DL_cons {p : Bool} {op : Op} : DL P ((p, ⟨d, op, ty, none⟩) :: r) L ρ w Q = opD P p op ty ρ w (Dn P r L ρ d Q) := (rfl)
theorem DL_guard {p : Bool} {op : Op} {s : Nat} {b : Bool} : DL P ((p, ⟨d, op, ty, some (s, b)⟩) :: r) L ρ w Q = dD P (lk ρ s) s b p d op ty r L ρ w Q := by
  simp only [DL, dD]; rfl
theorem Dn_app {v : Value} : Dn P r L ρ d Q v w = DL P r L (put ρ d v) w Q := (rfl)
theorem opD_t {op : Op} : opD P true op ty ρ w K = pureW P op ty ρ w K := (rfl)
theorem opD_f {op : Op} : opD P false op ty ρ w K = (noY ρ op ∧ opW P op ty ρ w K) := by simp [opD]
section
variable {x y z : Operand} {t u : TypeId} {o1 o2 o3 : Option Operand} {n : Nat} {b : Bool}
theorem noYV_func {f : FuncId} {a c : Array Value} : noYV (some (.func (.func f) a c)) = True := rfl
theorem noY_call {xs : Array Operand} {ts : Array TypeId} : noY ρ (.call ⟨.value x, xs, ts⟩) = noYV (ev ρ x) := rfl
theorem noY_bcall {f : Builtin} {xs : Array Operand} {ts : Array TypeId} : noY ρ (.call ⟨.builtin f, xs, ts⟩) = True := rfl
theorem noY_load : noY ρ (.load t x) = True := rfl
theorem noY_store : noY ρ (.store t x y) = True := rfl
theorem noY_alloc : noY ρ (.alloc t) = True := rfl
theorem noY_box : noY ρ (.box t x) = True := rfl
theorem noY_convert : noY ρ (.convert t u x) = True := rfl
theorem noY_build {ps : Array (Nat × Operand)} : noY ρ (.build t ps) = True := rfl
theorem noY_buildSlice {ps : Array (Nat × Operand)} : noY ρ (.buildSlice t n ps) = True := rfl
theorem noY_makeSlice : noY ρ (.makeSlice t x y) = True := rfl
theorem noY_makeMap : noY ρ (.makeMap t o1) = True := rfl
theorem noY_lookup : noY ρ (.lookup t x y b) = True := rfl
theorem noY_mapUpdate : noY ρ (.mapUpdate t x y z) = True := rfl
theorem noY_insert : noY ρ (.insert t x y z) = True := rfl
theorem noY_range : noY ρ (.range t x) = True := rfl
theorem noY_next : noY ρ (.next x b) = True := rfl
theorem noY_entry : noY ρ (.entry x) = True := rfl
theorem noY_typeAssert : noY ρ (.typeAssert x t u b) = True := rfl
theorem noY_move : noY ρ (.move x) = True := rfl
theorem noY_assign : noY ρ (.assign x) = True := rfl
theorem noY_slice : noY ρ (.slice t x o1 o2 o3) = True := rfl
theorem noY_binOp {o : BinOp} : noY ρ (.binOp o t x y u) = True := rfl
theorem noY_unOp {o : UnOp} : noY ρ (.unOp o t x) = True := rfl
theorem noY_index : noY ρ (.index t x y) = True := rfl
theorem noY_field : noY ρ (.field t x n) = True := rfl
theorem noY_fieldAddr : noY ρ (.fieldAddr t x n) = True := rfl
theorem noY_indexAddr : noY ρ (.indexAddr t x y) = True := rfl
theorem noY_extract : noY ρ (.extract x n) = True := rfl
theorem noY_iface : noY ρ (.makeInterface t x) = True := rfl
theorem noY_nilCheck : noY ρ (.nilCheck x) = True := rfl
theorem noY_pick : noY ρ (.pick x y z) = True := rfl
theorem noY_makeFunc {f : Fn} {a c : Array Operand} : noY ρ (.makeFunc f a c) = True := rfl
end
section
variable {op : Op} {s : Nat} {b c p : Bool}
theorem dD_t : dD P (some (.bool true)) s true p d op ty r L ρ w Q = opD P p op ty ((s, .bool true) :: ρ) w (Dn P r L ((s, .bool true) :: ρ) d Q) := by simp [dD]
theorem dD_f : dD P (some (.bool false)) s false p d op ty r L ρ w Q = opD P p op ty ((s, .bool false) :: ρ) w (Dn P r L ((s, .bool false) :: ρ) d Q) := by simp [dD]
theorem dD_tf : dD P (some (.bool true)) s false p d op ty r L ρ w Q = DL P r L (put ((s, .bool true) :: ρ) d undef) w Q := by simp [dD]
theorem dD_ft : dD P (some (.bool false)) s true p d op ty r L ρ w Q = DL P r L (put ((s, .bool false) :: ρ) d undef) w Q := by simp [dD]
theorem dD_gen : dD P (some (.bool c)) s b p d op ty r L ρ w Q = ((c = b → opD P p op ty ((s, .bool b) :: ρ) w (Dn P r L ((s, .bool b) :: ρ) d Q)) ∧ (c = !b → DL P r L (put ((s, .bool !b) :: ρ) d undef) w Q)) := (rfl)
theorem dD_undef : dD P (some undef) s b p d op ty r L ρ w Q = DL P r L (put ρ d undef) w Q := (rfl)
end
theorem lsPV_some {f : List Value → PV} {xs : List Value} : lsPV f (some xs) = f xs := rfl
theorem biV_lens {t : TypeId} {s : ByteArray} : biV P .len [t] [.string s] = if isStrT P t then some (True, .int .i64 ((toL s).length : Int)) else none := rfl
theorem biV_lensl {t : TypeId} {a : Option Addr} {n c : Nat} : biV P .len [t] [.slice a n c] = if isSliceT P t then some (True, .int .i64 (n : Int)) else none := rfl
theorem biV_min2 {ats : List TypeId} {k k' : IntKind} {x y : Int} : biV P .min ats [.int k x, .int k' y] = some (True, .int k (min x y)) := rfl
theorem biV_max2 {ats : List TypeId} {k k' : IntKind} {x y : Int} : biV P .max ats [.int k x, .int k' y] = some (True, .int k (max x y)) := rfl
theorem pureW_move {x : Operand} : pureW P (.move x) ty ρ w K = mvW (ev ρ x) w K := (rfl)
theorem pureW_assign {x : Operand} : pureW P (.assign x) ty ρ w K = mvW (ev ρ x) w K := (rfl)
theorem pureW_pick {c a b : Operand} : pureW P (.pick c a b) ty ρ w K = mvW (pickV (ev ρ c) (ev ρ a) (ev ρ b)) w K := (rfl)
theorem pureW_bin {op : BinOp} {t t' : TypeId} {x y : Operand} : pureW P (.binOp op t x y t') ty ρ w K = pvW (bin2 (binV P op t) (ev ρ x) (ev ρ y)) w K := (rfl)
theorem pureW_un {op : UnOp} {t : TypeId} {x : Operand} : pureW P (.unOp op t x) ty ρ w K = pvW (un1 (unV op) (ev ρ x)) w K := (rfl)
theorem pureW_index {t : TypeId} {x i : Operand} : pureW P (.index t x i) ty ρ w K = pvW (bin2 (indexV P t) (ev ρ x) (ev ρ i)) w K := (rfl)
theorem pureW_slice {t : TypeId} {x : Operand} {lo hi : Option Operand} : pureW P (.slice t x lo hi none) ty ρ w K = pvW (sliceV P t (ev ρ x) (evo ρ lo) (evo ρ hi)) w K := (rfl)
theorem pureW_field {t : TypeId} {x : Operand} {f : Nat} : pureW P (.field t x f) ty ρ w K = pvW (un1 (fieldV P t f) (ev ρ x)) w K := (rfl)
theorem pureW_fieldAddr {t : TypeId} {x : Operand} {f : Nat} : pureW P (.fieldAddr t x f) ty ρ w K = pvW (un1 (fieldAddrV P t f) (ev ρ x)) w K := (rfl)
theorem pureW_indexAddr {t : TypeId} {x i : Operand} : pureW P (.indexAddr t x i) ty ρ w K = pvW (bin2 (indexAddrV P t) (ev ρ x) (ev ρ i)) w K := (rfl)
theorem pureW_extract {x : Operand} {k : Nat} : pureW P (.extract x k) ty ρ w K = pvW (un1 (extractV k) (ev ρ x)) w K := (rfl)
theorem pureW_iface {t : TypeId} {x : Operand} : pureW P (.makeInterface t x) ty ρ w K = pvW (un1 (ifaceV P t) (ev ρ x)) w K := (rfl)
theorem pureW_nilCheck {x : Operand} : pureW P (.nilCheck x) ty ρ w K = pvW (un1 nilCheckV (ev ρ x)) w K := (rfl)
theorem pureW_convert {s d : TypeId} {x : Operand} : pureW P (.convert s d x) ty ρ w K = cvI P s d (ev ρ x) w K := (rfl)
theorem cvI_some {s d : TypeId} {x : Value} : cvI P s d (some x) w K = convIk (tyK P s) (tyK P d) x w K := (rfl)
theorem convIk_int {k k' k'' : IntKind} {n : Int} : convIk (.int k) (.int k') (.int k'' n) w K = convK (.int k) (.int k') (.int k'' n) w K := (rfl)
theorem pureW_makeFunc {fn : Fn} {first cap : Array Operand} : pureW P (.makeFunc fn first cap) ty ρ w K = mfD fn (evs ρ first.toList) (evs ρ cap.toList) w K := (rfl)
theorem pureW_len {args : Array Operand} {ats : Array TypeId} : pureW P (.call ⟨.builtin .len, args, ats⟩) ty ρ w K = pvW (lsPV (biV P .len ats.toList) (evs ρ args.toList)) w K := (rfl)
theorem pureW_min {args : Array Operand} {ats : Array TypeId} : pureW P (.call ⟨.builtin .min, args, ats⟩) ty ρ w K = pvW (lsPV (biV P .min ats.toList) (evs ρ args.toList)) w K := (rfl)
theorem pureW_max {args : Array Operand} {ats : Array TypeId} : pureW P (.call ⟨.builtin .max, args, ats⟩) ty ρ w K = pvW (lsPV (biV P .max ats.toList) (evs ρ args.toList)) w K := (rfl)
end
attribute [go_sem low] dD_gen
attribute [go_sem] pureW_convert cvI_some convIk_int noYV_func noY_call noY_bcall noY_load noY_store noY_alloc noY_box noY_convert noY_build noY_buildSlice noY_makeSlice noY_makeMap noY_lookup noY_mapUpdate noY_insert noY_range noY_next noY_entry noY_typeAssert noY_move noY_assign noY_slice noY_binOp noY_unOp noY_index noY_field noY_fieldAddr noY_indexAddr noY_extract noY_iface noY_nilCheck noY_pick noY_makeFunc true_and
attribute [go_sem] DL_nil DL_cons DL_guard Dn_app opD_t opD_f dD_t dD_f dD_tf dD_ft dD_undef lsPV_some biV_lens biV_lensl biV_min2 biV_max2 pureW_move pureW_assign pureW_pick pureW_bin pureW_un pureW_index pureW_slice pureW_field pureW_fieldAddr pureW_indexAddr pureW_extract pureW_iface pureW_nilCheck pureW_makeFunc pureW_len pureW_min pureW_max
end Go.Ann
