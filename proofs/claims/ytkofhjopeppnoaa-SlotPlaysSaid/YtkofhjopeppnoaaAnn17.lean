/- An engine for walks. Part 17: statements that leave their order open, with reads of cells that nobody writes meanwhile. -/
import Derived.Test.YtkofhjopeppnoaaAnn16
import Derived.OrdersHeld
namespace Go.Ann
set_option linter.unusedSimpArgs false
open Go Go.RowKit
set_option linter.unusedVariables false
section
variable {P : Program} {ops : Array Oper} {Q : Exit → Act → World → Prop} {md : Region.Mode} {S T : World → Prop} {hb : List Nat}

/-- Must the condition be kept behind this one? Not if it waits for all that lean on it. -/
def needB (md : Region.Mode) (ops : Array Oper) (hb : List Nat) (j : Nat) : Bool :=
  match ops[j]? with
  | some o => !(hb.all fun h => o.after.any fun e => Region.binds md e && e.on == h)
  | none => true

/-- Whatever order is picked from here on, the condition being kept behind each that others may follow who lean on it. -/
def wpAnyG (P : Program) (md : Region.Mode) (ops : Array Oper) (Q : Exit → Act → World → Prop) (S : World → Prop) (hb : List Nat) : Nat → Array Bool → Act → World → Prop
  | 0, listed, a, w => Region.ready md ops listed = [] ∧ Q .normal a w
  | fuel + 1, listed, a, w =>
    (Region.ready md ops listed = [] → Q .normal a w) ∧
    ∀ i ∈ Region.ready md ops listed, wpOp P ops Q i (fun a' w' => (needB md ops hb i = true → S w → S w') ∧ wpAnyG P md ops Q S hb fuel (listed.setIfInBounds i true) a' w') a w

theorem wpAny_of_G : ∀ (fuel : Nat) (listed : Array Bool) (a : Act) (w : World), wpAnyG P md ops Q S hb fuel listed a w → wpAny P md ops Q fuel listed a w
  | 0, _, _, _, h => h
  | fuel + 1, _, _, _, h => ⟨h.1, fun i hi => wpOp_mono (fun a' w' h' => wpAny_of_G fuel _ a' w' h'.2) (h.2 i hi)⟩

theorem unlisted_after {i j : Nat} {listed : Array Bool} (hi : i ∈ Region.ready md ops listed) {oj : Oper} (hall : ∀ e ∈ oj.after, Region.binds md e = true → listed.getD e.on false = true) :
    ∀ e ∈ oj.after, Region.binds md e = true → e.on ≠ i := by
  intro e he hb heq
  have h1 := hall e he hb
  have h0 := (mem_ready.1 hi).1
  rw [heq] at h1
  rcases Nat.lt_or_ge i listed.size with h' | h'
  · simp [h'] at h0 h1; rw [h0] at h1; cases h1
  · simp [Array.getElem?_eq_none h'] at h1

theorem wpAnyG_first {i : Nat} {oi : Oper} {v : Value} (hi : ops[i]? = some oi) (hsel : ∀ (j : Nat) (o : Oper) cs b, ops[j]? = some o → o.op ≠ .select cs b)
    (hT : (∀ w, T w) ∨ (i ∈ hb ∧ T = S)) (hQ : ∀ c a w, Q (.panic c) (a.put oi.dst v) w → Q (.panic c) a w) :
    ∀ (fuel : Nat) (listed : Array Bool) (a : Act) (w : World),
      (∀ j oj, ops[j]? = some oj → j ≠ i → listed.getD j true = false → (∀ e ∈ oj.after, Region.binds md e = true → e.on ≠ i) → oi.apart ops oj = true) →
      i ∈ Region.ready md ops listed → YieldsIf P ops T oi v a → T w →
      wpAnyG P md ops Q S hb fuel (listed.setIfInBounds i true) (a.put oi.dst v) w → wpAnyG P md ops Q S hb (fuel + 1) listed a w := by
  intro fuel
  induction fuel with
  | zero =>
    intro listed a w _ hr hy hS H
    refine ⟨fun h => (by rw [h] at hr; cases hr), fun j hj => ?_⟩
    by_cases hji : j = i
    · subst hji; exact hy.wpOp hi hS ⟨fun _ h => h, H⟩
    · have := ready_mono hj hji
      rw [H.1] at this
      cases this
  | succ fuel ih =>
    intro listed a w hfree hr hy hS H
    refine ⟨fun h => (by rw [h] at hr; cases hr), fun j hj => ?_⟩
    by_cases hji : j = i
    · subst hji; exact hy.wpOp hi hS ⟨fun _ h => h, H⟩
    · have h1 := H.2 j (ready_mono hj hji)
      obtain ⟨hjun, oj, hoj, hall⟩ := mem_ready.1 hj
      have hnot := unlisted_after (j := j) hr hall
      have h2 := wpOp_putIf hoj (hfree j oj hoj hji hjun hnot) (fun cs b => hsel i oi cs b hi) (fun cs b => hsel j oj cs b hoj) hQ hy h1
      have hfree' : ∀ k ok, ops[k]? = some ok → k ≠ i → (listed.setIfInBounds j true).getD k true = false →
          (∀ e ∈ ok.after, Region.binds md e = true → e.on ≠ i) → oi.apart ops ok = true := fun k ok hk hki hun hno => by
        refine hfree k ok hk hki ?_ hno
        by_cases hjk : j = k
        · subst hjk; exact hjun
        · rw [getD_set_ne true hjk] at hun; exact hun
      refine wpOp_mono (fun a' w' h3 => ⟨h3.2.1, ih (listed.setIfInBounds j true) a' w' hfree' (ready_mono hr (Ne.symm hji)) h3.1 ?_ ?_⟩) h2
      · rcases hT with hT | ⟨hib, rfl⟩
        · exact hT w'
        · refine h3.2.1 ?_ hS
          unfold needB
          rw [hoj]
          simp only [Bool.not_eq_true']
          rw [Bool.eq_false_iff]
          intro hc
          have := List.all_eq_true.1 hc i hib
          obtain ⟨e, he, hb'⟩ := Array.any_eq_true'.1 this
          simp only [Bool.and_eq_true, beq_iff_eq] at hb'
          exact hnot e he hb'.1 hb'.2
      · rw [Array.setIfInBounds_comm _ _ hji]
        exact h3.2.2

theorem wpAnyG_take {i : Nat} {oi : Oper} {v : Value} {fuel : Nat} {listed : Array Bool} {a : Act} {w : World} (hi : ops[i]? = some oi)
    (hs : Region.noSelect ops = true) (hf : Region.free md ops listed i = true) (hr : (Region.ready md ops listed).contains i = true)
    (hT : (∀ w, T w) ∨ (i ∈ hb ∧ T = S)) (hQ : ∀ c a w, Q (.panic c) (a.put oi.dst v) w → Q (.panic c) a w) (hy : YieldsIf P ops T oi v a) (hTw : T w)
    (h : wpAnyG P md ops Q S hb fuel (listed.setIfInBounds i true) (a.put oi.dst v) w) : wpAnyG P md ops Q S hb (fuel + 1) listed a w :=
  wpAnyG_first hi (Region.noSelect_spec hs) hT hQ fuel listed a w (Region.free_spec hi hf) (by simpa using hr) hy hTw h

theorem wpAnyG_all {rs : List Nat} {fuel : Nat} {listed : Array Bool} {a : Act} {w : World} (hr : Region.ready md ops listed = rs) (hne : rs ≠ [])
    (h : ∀ i ∈ rs, wpOp P ops Q i (fun a' w' => (needB md ops hb i = true → S w → S w') ∧ wpAnyG P md ops Q S hb fuel (listed.setIfInBounds i true) a' w') a w) : wpAnyG P md ops Q S hb (fuel + 1) listed a w :=
  ⟨fun h0 => absurd (hr ▸ h0) hne, hr ▸ h⟩
end

section
variable {P : Program} {N : Nat} {S : World → Prop}

/-- A read that may come before others: what it gives wherever the condition holds. -/
def heldW (P : Program) (S : World → Prop) (t : TypeId) (p : Addr) (w : World) (K : Value → World → Prop) : Prop :=
  ∃ v, (∀ w', S w' → loadW P t p w' fun v' w'' => v' = v ∧ w'' = w') ∧ K v w
def opH (P : Program) (S : World → Prop) (op : Op) (ty : TypeId) (ρ : Env) (w : World) (K : Value → World → Prop) : Prop :=
  match op with
  | .load t a => ptrW (fun p => heldW P S t p w K) (ev ρ a)
  | _ => False
/-- An operation by its kind: 0 plain, 1 a read, 2 alone, the condition to be shown behind it, 3 alone. -/
def opG (P : Program) (S : World → Prop) (k : Nat) (op : Op) (ty : TypeId) (ρ : Env) (w : World) (K : Value → World → Prop) : Prop :=
  match k with
  | 0 => pureW P op ty ρ w K
  | 1 => opH P S op ty ρ w K
  | 2 => noY ρ op ∧ opW P op ty ρ w fun v w' => S w' ∧ K v w'
  | _ => noY ρ op ∧ opW P op ty ρ w K

theorem opH_runs {op : Op} {ty : TypeId} {ρ : Env} {w : World} {K : Value → World → Prop} (h : opH P S op ty ρ w K) :
    ∃ v, (∀ a : Operand → Value, (∀ x v, ev ρ x = some v → a x = v) → ∀ w', S w' → (execOp a (rawOp op ty)).run P w' = .ok (.value v) w') ∧ K v w := by
  unfold opH at h
  split at h
  · obtain ⟨p, hp, v, h, hk⟩ := ptrW_out h
    refine ⟨v, fun a ha w' hS => ?_, hk⟩
    obtain ⟨v', hr, rfl, _⟩ := loadW_out (h w' hS)
    simp only [execOp, rawOp, ha _ _ hp]
    exact run_val (by simp only [Instr.loadAt, Instr.sureAddr, Sem.run_bind, Sem.run_pure, Result.andThen, hr])
  · exact h.elim

/-- The operations in an order of our own. -/
def DG (P : Program) (S : World → Prop) : List (Nat × Ins) → List Nat → Env → World → Post → Prop
  | [], L, ρ, w, Q => Q .normal (restr L ρ) w
  | (k, ⟨d, op, ty, none⟩) :: r, L, ρ, w, Q => opG P S k op ty ρ w fun v w' => DG P S r L (put ρ d v) w' Q
  | (k, ⟨d, op, ty, some (s, b)⟩) :: r, L, ρ, w, Q => match lk ρ s with
    | some (.bool c) => (c = b → opG P S k op ty ((s, .bool b) :: ρ) w fun v w' => DG P S r L (put ((s, .bool b) :: ρ) d v) w' Q) ∧
        (c = !b → DG P S r L (put ((s, .bool !b) :: ρ) d undef) w Q)
    | some (.tuple _) => DG P S r L (put ρ d undef) w Q
    | _ => False

def schedG (ops : Array Oper) (hb : List Nat) : List (Nat × Nat) → Array Bool → Bool
  | [], listed => (Region.ready .any ops listed).isEmpty
  | (0, i) :: r, listed => (Region.ready .any ops listed).contains i && Region.free .any ops listed i && schedG ops hb r (listed.setIfInBounds i true)
  | (1, i) :: r, listed => hb.contains i && (Region.ready .any ops listed).contains i && Region.free .any ops listed i && schedG ops hb r (listed.setIfInBounds i true)
  | (2, i) :: r, listed => (Region.ready .any ops listed == [i]) && schedG ops hb r (listed.setIfInBounds i true)
  | (_, i) :: r, listed => (Region.ready .any ops listed == [i]) && !(needB .any ops hb i) && !(r.any fun x => x.1 == 1) && schedG ops hb r (listed.setIfInBounds i true)

def insG (l : List Oper) : List (Nat × Nat) → Option (List (Nat × Ins))
  | [] => some []
  | (p, i) :: r => match l[i]? with
    | none => none
    | some o => match stripG l o.guard, insG l r with
      | some g, some q => some ((p, ⟨o.dst, o.op, o.type, g⟩) :: q)
      | _, _ => none

theorem wpOp_doneG {ops : Array Oper} {i : Nat} {o : Oper} {a : Act} {w : World} {K : Value → World → Prop} {next : Act → World → Prop} {Q : Exit → Act → World → Prop} (hi : ops[i]? = some o)
    (hw : Region.wanted o (yielded ops a.tmps) = true) (h : Done P (execOp a.eval (rawOp o.op o.type)) w K) (hk : ∀ v w', K v w' → next (a.put o.dst v) w') : wpOp P ops Q i next a w := wpOp_done hi hw h hk

theorem DG_sound {l : List Oper} (hall : l.all (fun o => okDst N o.dst) = true) (hns : Region.noSelect l.toArray = true) (hb : List Nat) : ∀ (sched : List (Nat × Nat)) (ins : List (Nat × Ins)) (L : List Nat) (ρ : Env) (w : World) (Q : Post) (a : Act) (listed : Array Bool),
    insG l sched = some ins → schedG l.toArray hb sched listed = true → Sim N a ρ → ((sched.any fun x => x.1 == 1) = true → S w) → DG P S ins L ρ w Q → wpAnyG P .any l.toArray (drawQ N L Q) S hb sched.length listed a w
  | [], ins, L, ρ, w, Q, a, listed, hi, hok, hs, hSw, h => by
    simp only [insG, Option.some.injEq] at hi; subst hi
    simp only [schedG, List.isEmpty_iff] at hok
    exact ⟨hok, ρ, hs, rfl, h⟩
  | (k, i) :: r, ins, L, ρ, w, Q, a, listed, hi, hok, hs, hSw, h => by
    simp only [insG] at hi
    split at hi
    · cases hi
    rename_i o ho
    split at hi
    case h_2 => cases hi
    rename_i g q hg hq
    simp only [Option.some.injEq] at hi; subst hi
    have ho' : l.toArray[i]? = some o := by simpa using ho
    have hd : okDst N o.dst = true := List.all_eq_true.1 hall o (List.mem_of_getElem? ho)
    have hSr : (r.any fun x => x.1 == 1) = true → S w := fun h => hSw (by simp only [List.any_cons, h, Bool.or_true])
    have hpan : ∀ (d : Option Nat) (v : Value) c (a : Act) (w : World), drawQ N L Q (.panic c) (a.put d v) w → drawQ N L Q (.panic c) a w := by
      rintro d v c a w ⟨_, _, hn, _⟩; cases hn
    have take : ∀ (ρ' : Env), Sim N a ρ' → (Region.wanted o (yielded l.toArray a.tmps) = true) →
        opG P S k o.op o.type ρ' w (fun v w' => DG P S q L (put ρ' o.dst v) w' Q) →
        wpAnyG P .any l.toArray (drawQ N L Q) S hb (r.length + 1) listed a w := by
      intro ρ' hs' hw h
      match k, hok, hSw, h with
      | 0, hok, hSw, h =>
        simp only [schedG, Bool.and_eq_true] at hok
        obtain ⟨v, hv, hk⟩ := pureW_runs (show pureW P o.op o.type ρ' w _ from h)
        refine wpAnyG_take (T := fun _ => True) ho' hns hok.1.2 hok.1.1 (.inl fun _ => trivial) (hpan _ _) (.inl ⟨hw, fun w' _ => ?_⟩) trivial (DG_sound hall hns hb r q L _ w Q _ _ hq hok.2 (hs'.put hd v) hSr hk)
        rw [execOp_raw]; exact hv a.eval hs'.eval w'
      | 1, hok, hSw, h =>
        simp only [schedG, Bool.and_eq_true, List.contains_iff_mem] at hok
        obtain ⟨v, hv, hk⟩ := opH_runs (show opH P S o.op o.type ρ' w _ from h)
        refine wpAnyG_take (T := S) ho' hns hok.1.2 (by simpa using hok.1.1.2) (.inr ⟨hok.1.1.1, rfl⟩) (hpan _ _) (.inl ⟨hw, fun w' hw' => ?_⟩) (hSw (by simp)) (DG_sound hall hns hb r q L _ w Q _ _ hq hok.2 (hs'.put hd v) hSr hk)
        rw [execOp_raw]; exact hv a.eval hs'.eval w' hw'
      | 2, hok, hSw, h =>
        simp only [schedG, Bool.and_eq_true, beq_iff_eq] at hok
        refine wpAnyG_all hok.1 (by simp) fun j hj => ?_
        simp only [List.mem_singleton] at hj; subst hj
        refine wpOp_doneG ho' hw (opW_done (show opW P o.op o.type ρ' w _ from h.2) h.1 a.eval hs'.eval) fun v w' hk => ⟨fun _ _ => hk.1, DG_sound hall hns hb r q L _ w' Q _ _ hq hok.2 (hs'.put hd v) (fun _ => hk.1) hk.2⟩
      | k + 3, hok, hSw, h =>
        simp only [schedG, Bool.and_eq_true, beq_iff_eq, Bool.not_eq_true'] at hok
        refine wpAnyG_all hok.1.1.1 (by simp) fun j hj => ?_
        simp only [List.mem_singleton] at hj; subst hj
        refine wpOp_doneG ho' hw (opW_done (show opW P o.op o.type ρ' w _ from h.2) h.1 a.eval hs'.eval) fun v w' hk => ⟨fun hn => ?_, DG_sound hall hns hb r q L _ w' Q _ _ hq hok.2 (hs'.put hd v) (fun hn => ?_) hk⟩
        · rw [hok.1.1.2] at hn; cases hn
        · rw [hok.1.2] at hn; cases hn
    have skip : ∀ (ρ' : Env), Sim N a ρ' → (Region.wanted o (yielded l.toArray a.tmps) = false) → DG P S q L (put ρ' o.dst undef) w Q → wpAnyG P .any l.toArray (drawQ N L Q) S hb (r.length + 1) listed a w := by
      intro ρ' hs' hw h2
      match k, hok with
      | 0, hok =>
        simp only [schedG, Bool.and_eq_true] at hok
        exact wpAnyG_take (T := fun _ => True) ho' hns hok.1.2 hok.1.1 (.inl fun _ => trivial) (hpan _ _) (.inr ⟨hw, rfl⟩) trivial (DG_sound hall hns hb r q L _ w Q _ _ hq hok.2 (hs'.put hd undef) hSr h2)
      | 1, hok =>
        simp only [schedG, Bool.and_eq_true, List.contains_iff_mem] at hok
        exact wpAnyG_take (T := fun _ => True) ho' hns hok.1.2 (by simpa using hok.1.1.2) (.inl fun _ => trivial) (hpan _ _) (.inr ⟨hw, rfl⟩) trivial (DG_sound hall hns hb r q L _ w Q _ _ hq hok.2 (hs'.put hd undef) hSr h2)
      | 2, hok =>
        simp only [schedG, Bool.and_eq_true, beq_iff_eq] at hok
        refine wpAnyG_all hok.1 (by simp) fun j hj => ?_
        simp only [List.mem_singleton] at hj; subst hj
        exact wpOp_skip ho' hw ⟨fun _ h => h, DG_sound hall hns hb r q L _ w Q _ _ hq hok.2 (hs'.put hd undef) hSr h2⟩
      | k + 3, hok =>
        simp only [schedG, Bool.and_eq_true, beq_iff_eq, Bool.not_eq_true'] at hok
        refine wpAnyG_all hok.1.1.1 (by simp) fun j hj => ?_
        simp only [List.mem_singleton] at hj; subst hj
        exact wpOp_skip ho' hw ⟨fun _ h => h, DG_sound hall hns hb r q L _ w Q _ _ hq hok.2 (hs'.put hd undef) hSr h2⟩
    cases hgo : o.guard with
    | none =>
      rw [hgo] at hg
      simp only [stripG, Option.some.injEq] at hg; subst hg
      simp only [DG] at h
      exact take ρ hs (by simp only [Region.wanted, hgo]) h
    | some jb =>
      obtain ⟨j, b⟩ := jb
      rw [hgo] at hg
      simp only [stripG] at hg
      split at hg
      case h_2 => cases hg
      rename_i s hs0
      simp only [Option.some.injEq] at hg; subst hg
      simp only [DG] at h
      split at h
      · rename_i c hc
        have hy := yielded_of hs hs0 hc
        by_cases hcb : c = b
        · subst hcb
          exact take _ (hs.know hc) (by simp only [Region.wanted, hgo, hy, beq_self_eq_true]) (h.1 rfl)
        · have hcb' : c = !b := bool_ne hcb
          have hc' : lk ρ s = some (.bool !b) := by rw [← hcb']; exact hc
          exact skip _ (hs.know hc') (by simp only [Region.wanted, hgo, hy]; simpa using hcb) (h.2 hcb')
      · rename_i u hc
        exact skip ρ hs (by simp only [Region.wanted, hgo, yielded_undef hs hs0 hc]; rfl) h
      · exact h.elim

/-- A statement that leaves its order open, by an order of ours, its reads ahead of what writes elsewhere. -/
theorem drawW_held {l : List Oper} {L : List Nat} {ρ : Env} {w : World} {Q : Post} (hb : List Nat) (sched : List (Nat × Nat)) (ins : List (Nat × Ins)) (hm : P.follows .mixedOrders = true)
    (hi : insG l sched = some ins) (hok : (Region.noSelect l.toArray && (sched.length == l.length) && schedG l.toArray hb sched (Array.replicate l.length false)) = true)
    (S : World → Prop) (hS : S w.drew) (h : DG P S ins L ρ w.drew Q) : drawW P l L ρ w Q := by
  intro N a hall hs
  simp only [Bool.and_eq_true, beq_iff_eq] at hok
  refine ops_of_any hm (wpAny_of_G (S := S) (hb := hb) _ _ _ _ ?_)
  have := DG_sound (S := S) hall hok.1.1 hb sched ins L ρ w.drew Q a (Array.replicate l.length false) hi hok.2 hs (fun _ => hS) h
  rw [hok.1.2] at this
  have e : l.toArray.size = l.length := by simp
  rw [e]
  exact this
end
section
variable {P : Program} {S : World → Prop} {w : World} {K : Value → World → Prop} {ρ : Env} {Q : Post} {r : List (Nat × Ins)} {L : List Nat} {d : Option Nat} {ty : TypeId} {k : Nat} {op : Op} {s : Nat} {b c : Bool}
def DGn (P : Program) (S : World → Prop) (r : List (Nat × Ins)) (L : List Nat) (ρ : Env) (d : Option Nat) (Q : Post) : Value → World → Prop := fun v w => DG P S r L (put ρ d v) w Q
def DGs (P : Program) (S : World → Prop) (r : List (Nat × Ins)) (L : List Nat) (ρ : Env) (d : Option Nat) (Q : Post) : Value → World → Prop := fun v w => S w ∧ DG P S r L (put ρ d v) w Q
def opG' (P : Program) (S : World → Prop) (k : Nat) (op : Op) (ty : TypeId) (r : List (Nat × Ins)) (L : List Nat) (ρ : Env) (d : Option Nat) (w : World) (Q : Post) : Prop := opG P S k op ty ρ w (DGn P S r L ρ d Q)
def dG (P : Program) (S : World → Prop) (o : Option Value) (s : Nat) (b : Bool) (k : Nat) (d : Option Nat) (op : Op) (ty : TypeId) (r : List (Nat × Ins)) (L : List Nat) (ρ : Env) (w : World) (Q : Post) : Prop :=
  match o with
  | some (.bool c) => (c = b → opG' P S k op ty r L ((s, .bool b) :: ρ) d w Q) ∧ (c = !b → DG P S r L (put ((s, .bool !b) :: ρ) d undef) w Q)
  | some (.tuple _) => DG P S r L (put ρ d undef) w Q
  | _ => False
theorem DG_nil : DG P S [] L ρ w Q = Q .normal (restr L ρ) w := (rfl)
theorem DG_cons : DG P S ((k, ⟨d, op, ty, none⟩) :: r) L ρ w Q = opG' P S k op ty r L ρ d w Q := (rfl)
theorem DG_guard : DG P S ((k, ⟨d, op, ty, some (s, b)⟩) :: r) L ρ w Q = dG P S (lk ρ s) s b k d op ty r L ρ w Q := by
  simp only [DG, dG]; rfl
theorem DGn_app {v : Value} : DGn P S r L ρ d Q v w = DG P S r L (put ρ d v) w Q := (rfl)
theorem DGs_app {v : Value} : DGs P S r L ρ d Q v w = (S w ∧ DG P S r L (put ρ d v) w Q) := (rfl)
theorem opG_0 : opG' P S 0 op ty r L ρ d w Q = pureW P op ty ρ w (DGn P S r L ρ d Q) := (rfl)
theorem opG_1 {t : TypeId} {x : Operand} : opG' P S 1 (.load t x) ty r L ρ d w Q = ptrW (fun p => heldW P S t p w (DGn P S r L ρ d Q)) (ev ρ x) := (rfl)
theorem opG_2 : opG' P S 2 op ty r L ρ d w Q = (noY ρ op ∧ opW P op ty ρ w (DGs P S r L ρ d Q)) := (rfl)
theorem opG_3 : opG' P S 3 op ty r L ρ d w Q = (noY ρ op ∧ opW P op ty ρ w (DGn P S r L ρ d Q)) := (rfl)
theorem dG_t : dG P S (some (.bool true)) s true k d op ty r L ρ w Q = opG' P S k op ty r L ((s, .bool true) :: ρ) d w Q := by simp [dG]
theorem dG_f : dG P S (some (.bool false)) s false k d op ty r L ρ w Q = opG' P S k op ty r L ((s, .bool false) :: ρ) d w Q := by simp [dG]
theorem dG_tf : dG P S (some (.bool true)) s false k d op ty r L ρ w Q = DG P S r L (put ((s, .bool true) :: ρ) d undef) w Q := by simp [dG]
theorem dG_ft : dG P S (some (.bool false)) s true k d op ty r L ρ w Q = DG P S r L (put ((s, .bool false) :: ρ) d undef) w Q := by simp [dG]
theorem dG_gen : dG P S (some (.bool c)) s b k d op ty r L ρ w Q = ((c = b → opG' P S k op ty r L ((s, .bool b) :: ρ) d w Q) ∧ (c = !b → DG P S r L (put ((s, .bool !b) :: ρ) d undef) w Q)) := (rfl)
theorem dG_undef : dG P S (some undef) s b k d op ty r L ρ w Q = DG P S r L (put ρ d undef) w Q := (rfl)
end
attribute [go_sem low] dG_gen
attribute [go_sem] DG_nil DG_cons DG_guard DGn_app DGs_app opG_0 opG_1 opG_2 opG_3 dG_t dG_f dG_tf dG_ft dG_undef
end Go.Ann
