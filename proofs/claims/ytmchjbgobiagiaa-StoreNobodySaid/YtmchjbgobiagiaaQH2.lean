/- Texts put together by program. -/
import Derived.Test.YtmchjbgobiagiaaQH1
namespace Go.Ann
open Go Go.RowKit
set_option linter.unusedVariables false
set_option linter.unusedSimpArgs false
section
variable {P : Program} {N : Nat}
def lowE : Env → Env
  | [] => []
  | (m, v) :: ρ => if m < 1000000 then (m, v) :: lowE ρ else lowE ρ
theorem lowE_nil : lowE [] = [] := rfl
theorem lowE_cons {m : Nat} {v : Value} {ρ : Env} : lowE ((m, v) :: ρ) = if m < 1000000 then (m, v) :: lowE ρ else lowE ρ := rfl
def zipE : List Nat → List Value → Env → Env
  | p :: ps, v :: vs, ρ => zipE ps vs ((p, v) :: ρ)
  | _, _, ρ => ρ
theorem zipE_nil {vs : List Value} {ρ : Env} : zipE [] vs ρ = ρ := by cases vs <;> rfl
theorem zipE_none {ps : List Nat} {ρ : Env} : zipE ps [] ρ = ρ := by cases ps <;> rfl
theorem zipE_cons {p : Nat} {ps : List Nat} {v : Value} {vs : List Value} {ρ : Env} : zipE (p :: ps) (v :: vs) ρ = zipE ps vs ((p, v) :: ρ) := rfl
attribute [go_sem] lowE_nil lowE_cons zipE_nil zipE_none zipE_cons
theorem marksD_lowE : ∀ ρ : Env, marksD (lowE ρ) = []
  | [] => rfl
  | (m, v) :: ρ => by
    simp only [lowE]
    split
    · rename_i h; simp only [marksD, if_pos h]; exact marksD_lowE ρ
    · exact marksD_lowE ρ
theorem lk_lowE : ∀ (ρ : Env) (n : Nat) (v : Value), lk (lowE ρ) n = some v → lk ρ n = some v
  | [], _, _, h => h
  | (m, u) :: ρ, n, v, h => by
    have low : ∀ (ρ : Env) (n : Nat) (v : Value), lk (lowE ρ) n = some v → n < 1000000 := by
      intro ρ
      induction ρ with
      | nil => intro n v h; simp [lowE, lk_emp] at h
      | cons x ρ ih =>
        obtain ⟨m, u⟩ := x
        intro n v h
        simp only [lowE] at h
        split at h
        · simp only [lk_if] at h
          split at h
          · omega
          · exact ih n v h
        · exact ih n v h
    simp only [lowE] at h
    split at h
    · simp only [lk_if] at h ⊢
      split at h
      · rename_i e; rw [if_pos e]; exact h
      · rename_i e; rw [if_neg e]; exact lk_lowE ρ n v h
    · rename_i hm
      have := low ρ n v h
      rw [lk_if, if_neg (by omega)]
      exact lk_lowE ρ n v h
theorem Sim.lowE {a : Act} {ρ : Env} (h : Sim N a ρ) : Sim N { tmps := a.tmps, defers := [] } (lowE ρ) :=
  ⟨h.size, h.small, by rw [marksD_lowE]; rfl, fun n v hv => h.slot n v (lk_lowE ρ n v hv)⟩
theorem Sim.zipE {a : Act} : ∀ (ps : List Nat) (vs : List Value) (ρ : Env) (t : Array Value), (∀ p ∈ ps, p < N) → Sim N { tmps := t, defers := a.defers } ρ → Sim N { tmps := (ps.zip vs).foldl (fun t (p, v) => t.setIfInBounds p v) t, defers := a.defers } (zipE ps vs ρ)
  | [], vs, ρ, t, _, h => by cases vs <;> exact h
  | p :: ps, [], ρ, t, _, h => h
  | p :: ps, v :: vs, ρ, t, hp, h => by
    simp only [List.zip_cons_cons, List.foldl_cons, Ann.zipE]
    exact Sim.zipE ps vs _ _ (fun q hq => hp q (List.mem_cons_of_mem _ hq)) (h.put (d := some p) (by simpa [okDst] using hp p List.mem_cons_self) v)
theorem Sim.mark {a : Act} {ρ : Env} (h : Sim N a ρ) (D : Nat) : Sim N { a with defers := { target := .collected D, args := #[] } :: a.defers } ((D + 1000000, undef) :: ρ) := by
  refine ⟨h.size, h.small, ?_, fun n v hv => ?_⟩
  · show _ :: a.defers = _
    rw [h.defers]
    simp only [marksD, if_neg (show ¬ D + 1000000 < 1000000 by omega), Nat.add_sub_cancel]
    rfl
  · simp only [lk_if] at hv
    split at hv
    · rename_i e
      simp only [Option.some.injEq] at hv; subst hv
      show a.tmps.getD n undef = undef
      rw [Array.getD_eq_getD_getElem?, Array.getElem?_eq_none (by rw [h.size]; have := h.small; omega)]; rfl
    · exact h.slot n v hv
theorem W_rangeF {g : Operand} {ps L : List Nat} {a b : Cmd} {ρ : Env} {w : World} {Q : Post} : W P (.rangeF g ps a b L) ρ w Q = RangeW P g ps a b ρ w (keepQ L Q) := (rfl)
theorem keepQ_normal {L : List Nat} {ρ : Env} {w : World} {Q : Post} : keepQ L Q .normal ρ w = Q .normal (restr L ρ) w := (rfl)
theorem keepQ_ret {L : List Nat} {ρ : Env} {w : World} {Q : Post} : keepQ L Q .ret ρ w = Q .ret ρ w := (rfl)
theorem keepQ_exit {L : List Nat} {ρ : Env} {w : World} {Q : Post} {i : Nat} : keepQ L Q (.exit i) ρ w = Q (.exit i) ρ w := (rfl)
theorem mark_beq {D n : Nat} : (D + 1000000 == n) = decide (D + 1000000 = n) := by rw [Bool.eq_iff_iff, beq_iff_eq, decide_eq_true_eq]
theorem marks_one {D : Nat} {v : Value} : marksD [(D + 1000000, v)] = [D] := by simp [marksD]
attribute [go_sem] W_rangeF mark_beq marks_one keepQ_normal keepQ_ret keepQ_exit
end
end Go.Ann

namespace Go.Ann
open Go Go.RowKit
def Gr (w w' : World) : Prop := Below w.heap.size w w' ∧ w.drawn ≤ w'.drawn
theorem Gr.refl (w : World) : Gr w w := ⟨Below.refl _ _, Nat.le_refl _⟩
theorem Gr.below {w w' : World} (h : Gr w w') : Below w.heap.size w w' := h.1
theorem Gr.trans {a b c : World} (h : Gr a b) (k : Gr b c) : Gr a c := ⟨Below.next h.1 k.1, Nat.le_trans h.2 k.2⟩
end Go.Ann

namespace Go.Ann
set_option linter.unusedSimpArgs false
set_option linter.unusedVariables false
open Go Go.RowKit
inductive ST where
  | nil
  | one (k i : Nat) (r : ST)
  | alt (i : Nat) (r q : ST)
  | stop
inductive GT where
  | nil
  | one (k : Nat) (x : Ins) (r : GT)
  | alt (x : Ins) (r q : GT)
  | stop
def insOf (l : List Oper) (i : Nat) : Option Ins :=
  match l[i]? with
  | none => none
  | some o => match stripG l o.guard with
    | some g => some ⟨o.dst, o.op, o.type, g⟩
    | none => none
def insT (l : List Oper) : ST → Option GT
  | .nil => some .nil
  | .stop => some .stop
  | .one k i r => match insOf l i, insT l r with
    | some x, some t => some (.one k x t)
    | _, _ => none
  | .alt i r q => match insOf l i, insT l r, insT l q with
    | some x, some t, some u => some (.alt x t u)
    | _, _, _ => none
def stepX (P : Program) (S : World → Prop) (k : Nat) (x : Ins) (ρ : Env) (w : World) (C : Env → World → Prop) : Prop :=
  match x.g with
  | none => opG P S k x.op x.ty ρ w fun v w' => C (put ρ x.dst v) w'
  | some (s, b) => match lk ρ s with
    | some (.bool c) => (c = b → opG P S k x.op x.ty ((s, .bool b) :: ρ) w fun v w' => C (put ((s, .bool b) :: ρ) x.dst v) w') ∧ (c = !b → C (put ((s, .bool !b) :: ρ) x.dst undef) w)
    | some (.tuple _) => C (put ρ x.dst undef) w
    | _ => False
def DT (P : Program) (S : World → Prop) : GT → List Nat → Env → World → Post → Prop
  | .nil, L, ρ, w, Q => Q .normal (restr L ρ) w
  | .one k x r, L, ρ, w, Q => stepX P S k x ρ w fun ρ' w' => DT P S r L ρ' w' Q
  | .alt x r q, L, ρ, w, Q => (stepX P S 2 x ρ w fun ρ' w' => DT P S r L ρ' w' Q) ∧ DT P S q L ρ w Q
  | .stop, _, _, _, _ => True
section
variable {P : Program} {S : World → Prop} {w : World} {ρ : Env} {Q : Post} {r q : GT} {L : List Nat} {d : Option Nat} {ty : TypeId} {k : Nat} {op : Op} {s : Nat} {b c : Bool} {x : Ins}
def DTn (P : Program) (S : World → Prop) (r : GT) (L : List Nat) (ρ : Env) (d : Option Nat) (Q : Post) : Value → World → Prop := fun v w => DT P S r L (put ρ d v) w Q
def DTs (P : Program) (S : World → Prop) (r : GT) (L : List Nat) (ρ : Env) (d : Option Nat) (Q : Post) : Value → World → Prop := fun v w => S w ∧ DT P S r L (put ρ d v) w Q
def opT (P : Program) (S : World → Prop) (k : Nat) (op : Op) (ty : TypeId) (r : GT) (L : List Nat) (ρ : Env) (d : Option Nat) (w : World) (Q : Post) : Prop := opG P S k op ty ρ w (DTn P S r L ρ d Q)
def dT (P : Program) (S : World → Prop) (o : Option Value) (s : Nat) (b : Bool) (k : Nat) (d : Option Nat) (op : Op) (ty : TypeId) (r : GT) (L : List Nat) (ρ : Env) (w : World) (Q : Post) : Prop :=
  match o with
  | some (.bool c) => (c = b → opT P S k op ty r L ((s, .bool b) :: ρ) d w Q) ∧ (c = !b → DT P S r L (put ((s, .bool !b) :: ρ) d undef) w Q)
  | some (.tuple _) => DT P S r L (put ρ d undef) w Q
  | _ => False
def nxT (P : Program) (S : World → Prop) (k : Nat) (x : Ins) (r : GT) (L : List Nat) (ρ : Env) (w : World) (Q : Post) : Prop := stepX P S k x ρ w fun ρ' w' => DT P S r L ρ' w' Q
theorem DT_nil : DT P S .nil L ρ w Q = Q .normal (restr L ρ) w := (rfl)
theorem DT_stop : DT P S .stop L ρ w Q = True := (rfl)
theorem DT_one : DT P S (.one k x r) L ρ w Q = nxT P S k x r L ρ w Q := (rfl)
theorem DT_alt : DT P S (.alt x r q) L ρ w Q = (nxT P S 2 x r L ρ w Q ∧ DT P S q L ρ w Q) := (rfl)
theorem nxT_plain : nxT P S k ⟨d, op, ty, none⟩ r L ρ w Q = opT P S k op ty r L ρ d w Q := (rfl)
theorem nxT_guard : nxT P S k ⟨d, op, ty, some (s, b)⟩ r L ρ w Q = dT P S (lk ρ s) s b k d op ty r L ρ w Q := by
  simp only [nxT, stepX, dT]; rfl
theorem DTn_app {v : Value} : DTn P S r L ρ d Q v w = DT P S r L (put ρ d v) w Q := (rfl)
theorem DTs_app {v : Value} : DTs P S r L ρ d Q v w = (S w ∧ DT P S r L (put ρ d v) w Q) := (rfl)
theorem opT_0 : opT P S 0 op ty r L ρ d w Q = pureW P op ty ρ w (DTn P S r L ρ d Q) := (rfl)
theorem opT_1 {t : TypeId} {x : Operand} : opT P S 1 (.load t x) ty r L ρ d w Q = ptrW (fun p => heldW P S t p w (DTn P S r L ρ d Q)) (ev ρ x) := (rfl)
theorem opT_2 : opT P S 2 op ty r L ρ d w Q = (noY ρ op ∧ opW P op ty ρ w (DTs P S r L ρ d Q)) := (rfl)
theorem dT_t : dT P S (some (.bool true)) s true k d op ty r L ρ w Q = opT P S k op ty r L ((s, .bool true) :: ρ) d w Q := by simp [dT]
theorem dT_f : dT P S (some (.bool false)) s false k d op ty r L ρ w Q = opT P S k op ty r L ((s, .bool false) :: ρ) d w Q := by simp [dT]
theorem dT_tf : dT P S (some (.bool true)) s false k d op ty r L ρ w Q = DT P S r L (put ((s, .bool true) :: ρ) d undef) w Q := by simp [dT]
theorem dT_ft : dT P S (some (.bool false)) s true k d op ty r L ρ w Q = DT P S r L (put ((s, .bool false) :: ρ) d undef) w Q := by simp [dT]
theorem dT_gen : dT P S (some (.bool c)) s b k d op ty r L ρ w Q = ((c = b → opT P S k op ty r L ((s, .bool b) :: ρ) d w Q) ∧ (c = !b → DT P S r L (put ((s, .bool !b) :: ρ) d undef) w Q)) := (rfl)
theorem dT_undef : dT P S (some undef) s b k d op ty r L ρ w Q = DT P S r L (put ρ d undef) w Q := (rfl)
end
attribute [go_sem low] dT_gen
attribute [go_sem] DT_nil DT_stop DT_one DT_alt nxT_plain nxT_guard DTn_app DTs_app opT_0 opT_1 opT_2 dT_t dT_f dT_tf dT_ft dT_undef
end Go.Ann

namespace Go.Ann
open Go Go.RowKit
set_option linter.unusedVariables false
set_option linter.unusedSimpArgs false
section
variable {κ : Type} {P : Program} {enc : κ → Value} {t : TypeId}
variable [DecidableEq κ]
structure KeyT (P : Program) (t : TypeId) (enc : κ → Value) (d : TypeDesc) : Prop where
  und : P.underlying t = some d
  chk' : ∀ (n : Nat) (w : World) (em : Bool) (a : κ), (Instr.checkKey em (n + 2) t (enc a)).run P w = .ok () w
  now : ∀ a b : κ, Instr.sameNow d (enc a) (enc b) = none ∨ Instr.sameNow d (enc a) (enc b) = some (decide (a = b))
  eq : ∀ (w : World) (a b : κ), (Op.equal t (enc a) (enc b)).run P w = .ok (decide (a = b)) w
theorem KeyT.chk {d : TypeDesc} (h : KeyT P t enc d) (w : World) (em : Bool) (a : κ) : (Instr.checkKey em 10000 t (enc a)).run P w = .ok () w := h.chk' 9998 w em a
variable {d : TypeDesc}
end
section
variable {P : Program} {t : TypeId}
end
end Go.Ann

namespace Go.Ann
open Go Go.RowKit
attribute [go_sem] storeW_fill List.setIfInBounds_toArray List.set_cons_zero List.set_cons_succ List.getElem_toArray List.getElem_cons_zero List.getElem_cons_succ Nat.reduceLeDiff Nat.reduceSub okSt_nil okSt_cons fillO_some fillO_none cF_same cF_blk fF_any size_fill Value.oneCell' Int.toNat_natCast Int.cast_ofNat_Int cast0 cast1 Int.natCast_add add_block add_off Classical.not_not decide_not Bool.not_eq_false decide_true decide_false Bool.true_beq Bool.false_beq beq_true beq_false Bool.true_bne Bool.false_bne Bool.bne_true Bool.bne_false decide_eq_true_eq Bool.not_eq_eq_eq_not Nat.mul_one List.size_toArray List.length_cons List.length_nil Nat.le_refl ldK_int ldK_bool ldK_str ldK_slice ldK_ptr ldK_map ldK_agg ldK_other ldO_int ldO_bool ldO_str ldO_slice ldO_ptr ldO_map ldO_other ldA_some cellsO_new cellsO_nil cellsC_some cellsO_drew cellsO_alloc cA_add cS_add cA_new cA_old fA_new fA_old setO_some cS_same cS_off cS_blk World.cell?_drew World.frozen?_drew World.frozen?_setCell World.size_alloc World.size_drew World.size_setCell heldX_eq heldX_add chg_refl chg_drew ovr_nil ovr_cons Option.getD_some Option.getD_none Addr.add_lit Nat.add_zero Option.some.injEq exists_eq' exists_eq_left' Value.int.injEq Value.bool.injEq Value.pointer.injEq Value.string.injEq
end Go.Ann
section
attribute [go_sem_proc] reduceCtorEq Nat.reduceBEq Nat.reduceEqDiff Nat.reduceAdd Nat.reduceMul Int.reduceNe Int.reduceEq Int.reduceLT Int.reduceLE Int.reduceNeg Int.reduceAdd Int.reduceSub Int.reduceMul Int.reduceToNat
attribute [go_sem_proc ↓] reduceIte
attribute [go_sem] beq_self_eq_true
end

namespace Go.Ann
open Go Go.RowKit
set_option linter.unusedVariables false
set_option linter.unusedSimpArgs false
attribute [go_sem_proc] reduceCtorEq Nat.reduceBEq Nat.reduceEqDiff Nat.reduceAdd Nat.reduceMul Int.reduceNe Int.reduceEq Int.reduceLT Int.reduceLE Int.reduceNeg Int.reduceAdd Int.reduceSub Int.reduceMul Int.reduceToNat
attribute [go_sem_proc ↓] reduceIte
attribute [go_sem] beq_self_eq_true
section
variable {κ ν : Type} {P : Program} {ek : κ → Value} {ev : ν → Value} {t : TypeId}
def entG (ek : κ → Value) (ev : ν → Value) (x : κ × ν × Nat) : MapEntry := { key := ek x.1, val := ev x.2.1, born := x.2.2 }
def mapG (ek : κ → Value) (ev : ν → Value) (l : List (κ × ν × Nat)) (c : Nat) : Obj := .map (l.map (entG ek ev)).toArray c
theorem mmG {m : TypeId} {w : World} {K : Value → World → Prop} (hK : K (.map (some w.heap.size)) (w.alloc (mapG ek ev [] 0))) : mmW P m w K := by
  refine ⟨_, _, ?_, hK⟩
  unfold Instr.makeMap
  simp [Sem.run_bind, Result.andThen, run_newObj_alloc]
  rfl
variable [DecidableEq κ]
def getM (a : κ) : List (κ × ν × Nat) → Option ν
  | [] => none
  | x :: l => if a = x.1 then some x.2.1 else getM a l
def setM (a : κ) (v : ν) (c : Nat) : List (κ × ν × Nat) → List (κ × ν × Nat)
  | [] => [(a, v, c)]
  | x :: l => if a = x.1 then (x.1, v, x.2.2) :: l else x :: setM a v c l
def whereM (ev : ν → Value) (a : κ) : List (κ × ν × Nat) → Nat → Option (Nat × Value)
  | [], _ => none
  | x :: l, i => if a = x.1 then some (i, ev x.2.1) else whereM ev a l (i + 1)
theorem whereM_get (a : κ) : ∀ (l : List (κ × ν × Nat)) (i : Nat), (whereM ev a l i).map Prod.snd = (getM a l).map ev
  | [], _ => rfl
  | x :: l, i => by
    simp only [whereM, getM]
    split
    · rfl
    · exact whereM_get a l (i + 1)
variable {d : TypeDesc}
theorem findNow_G (hk : KeyT P t ek d) (a : κ) : ∀ (l : List (κ × ν × Nat)) (i : Nat), Instr.findNow d (ek a) (l.map (entG ek ev)) i = none ∨ Instr.findNow d (ek a) (l.map (entG ek ev)) i = some (whereM ev a l i)
  | [], i => .inr rfl
  | b :: l, i => by
    simp only [List.map_cons, entG, Instr.findNow, whereM]
    rcases hk.now a b.1 with h | h
    · exact .inl (by rw [h])
    · rw [h]
      by_cases e : a = b.1
      · rw [decide_eq_true e, if_pos e]; exact .inr rfl
      · rw [decide_eq_false e, if_neg e]; exact findNow_G hk a l _
theorem findAsk_G (hk : KeyT P t ek d) (w : World) (a : κ) : ∀ (l : List (κ × ν × Nat)) (i : Nat), (Instr.findAsking t (ek a) (l.map (entG ek ev)) i).run P w = .ok (whereM ev a l i) w
  | [], i => rfl
  | b :: l, i => by
    simp only [List.map_cons, entG, Instr.findAsking, whereM, Sem.run_bind, hk.eq w a b.1, Result.andThen_ok]
    by_cases e : a = b.1
    · rw [decide_eq_true e, if_pos e]; rfl
    · rw [decide_eq_false e, if_neg e]
      simp only [Bool.false_eq_true, if_false]
      exact findAsk_G hk w a l _
theorem findKey_G (hk : KeyT P t ek d) (w : World) (a : κ) (l : List (κ × ν × Nat)) : (Instr.findKey t (ek a) (l.map (entG ek ev))).run P w = .ok (whereM ev a l 0) w := by
  unfold Instr.findKey
  simp only [Sem.run_bind, run_underlying hk.und, Result.andThen_ok]
  rcases findNow_G (ev := ev) hk a l 0 with h | h
  · rw [h]; exact findAsk_G hk w a l 0
  · rw [h]; rfl
def luG (ev : ν → Value) (z : Value) : Option ν → Bool → Value
  | some v, true => .tuple #[ev v, .bool true]
  | none, true => .tuple #[z, .bool false]
  | some v, false => ev v
  | none, false => z
theorem luG_map {m e : TypeId} {w : World} {K : Value → World → Prop} {r c : Nat} {ok : Bool} {z : Value} (hk : KeyT P t ek d) (hm : P.underlying m = some (.map t e)) {l : List (κ × ν × Nat)} (hr : w.heap[r]? = some (mapG ek ev l c)) (a : κ)
    (hz : (zeroValue e).run P w = .ok z w) (hK : K (luG ev z (getM a l) ok) w) : luW P m (.map (some r)) (ek a) ok w K := by
  refine ⟨_, _, ?_, hK⟩
  unfold Instr.lookup
  have hg : (getObj r).run P w = .ok (.map (l.map (entG ek ev)).toArray c) w := run_getObj_map w r _ _ hr
  simp only [Sem.run_bind, run_underlying hm, Result.andThen_ok, hg, Sem.run_pure, hk.chk, findKey_G hk, List.toList_toArray]
  have h := whereM_get (ev := ev) a l 0
  cases hw : whereM ev a l 0 with
  | some p =>
    rw [hw] at h
    cases hg2 : getM a l with
    | none => rw [hg2] at h; cases h
    | some v =>
      rw [hg2] at h
      obtain ⟨pj, pv⟩ := p
      simp only [Option.map_some, Option.some.injEq] at h
      subst h
      cases ok <;> rfl
  | none =>
    rw [hw] at h
    cases hg2 : getM a l with
    | some v => rw [hg2] at h; cases h
    | none =>
      simp only [Sem.run_bind, hz, Result.andThen_ok]
      cases ok <;> rfl
theorem whereM_set (a : κ) (v : ν) (c : Nat) : ∀ (l : List (κ × ν × Nat)) (i j : Nat) (u : Value), whereM ev a l i = some (j, u) → i ≤ j ∧ j - i < l.length ∧ (∃ x, (l.map (entG ek ev))[j - i]? = some (entG ek ev x) ∧ x.1 = a) ∧ (setM a v c l).map (entG ek ev) = (l.map (entG ek ev)).modify (j - i) (fun e => { e with key := ek a, val := ev v })
  | [], _, _, _, h => by cases h
  | x :: l, i, j, u, h => by
    simp only [whereM] at h
    split at h
    · rename_i e
      simp only [Option.some.injEq, Prod.mk.injEq] at h
      obtain ⟨rfl, rfl⟩ := h
      refine ⟨Nat.le_refl _, by simp, ⟨x, by simp, e.symm⟩, ?_⟩
      rw [show setM a v c (x :: l) = (x.1, v, x.2.2) :: l from if_pos e]
      simp only [Nat.sub_self, List.map_cons, List.modify_zero_cons, entG, e]
    · rename_i e
      obtain ⟨h1, h2, ⟨y, h3, h4⟩, h5⟩ := whereM_set a v c l (i + 1) j u h
      have e1 : j - i = (j - (i + 1)) + 1 := by omega
      refine ⟨by omega, by simp only [List.length_cons]; omega, ⟨y, ?_, h4⟩, ?_⟩
      · rw [e1, List.map_cons, List.getElem?_cons_succ]; exact h3
      · rw [e1]
        simp only [setM, if_neg e, List.map_cons, List.modify_succ_cons, h5]
theorem whereM_none {a : κ} (v : ν) (c : Nat) : ∀ {l : List (κ × ν × Nat)} {i : Nat}, whereM ev a l i = none → setM a v c l = l ++ [(a, v, c)] ∧ getM a l = none
  | [], _, _ => ⟨rfl, rfl⟩
  | x :: l, i, h => by
    simp only [whereM] at h
    split at h
    · cases h
    · rename_i e
      obtain ⟨h1, h2⟩ := whereM_none v c h
      exact ⟨by simp only [setM, if_neg e, h1, List.cons_append], by simp only [getM, if_neg e, h2]⟩
theorem muG_map {m e : TypeId} {w : World} {K : Value → World → Prop} {r c : Nat} (hk : KeyT P t ek d) (hm : P.underlying m = some (.map t e)) (hs : ∀ a : κ, Instr.sameBits 10000 (ek a) (ek a) = true) {l : List (κ × ν × Nat)} (hr : w.heap[r]? = some (mapG ek ev l c)) (a : κ) (v : ν)
    (hK : K undef (w.putObj r (mapG ek ev (setM a v c l) (if (getM a l).isSome then c else c + 1)))) : muW P m (.map (some r)) (ek a) (ev v) w K := by
  have hg : (getObj r).run P w = .ok (.map (l.map (entG ek ev)).toArray c) w := run_getObj_map w r _ _ hr
  have hs' : ∀ o, (setObj r o).run P w = .ok () (w.putObj r o) := fun o => by simp [setObj, Sem.run, hr, mapG, World.putObj]
  cases hw : whereM ev a l 0 with
  | none =>
    obtain ⟨h1, h2⟩ := whereM_none v c hw
    refine ⟨_, ?_, hK⟩
    unfold Instr.mapUpdate
    simp only [Sem.run_bind, run_underlying hm, Result.andThen_ok, hg, Sem.run_pure, hk.chk, findKey_G hk, List.toList_toArray, hw]
    rw [hs', h1]
    have e : (l.map (entG ek ev)).toArray.push { key := ek a, val := ev v, born := c } = ((l ++ [(a, v, c)]).map (entG ek ev)).toArray := by
      rw [List.map_append]; simp [entG]
    rw [e, h2]; rfl
  | some p =>
    obtain ⟨j, u⟩ := p
    obtain ⟨_, h2, ⟨x, h3, h4⟩, h5⟩ := whereM_set (ek := ek) a v c l 0 j u hw
    rw [Nat.sub_zero] at h2 h3 h5
    have hsome : (getM a l).isSome = true := by
      have := whereM_get (ev := ev) a l 0
      rw [hw] at this
      cases h : getM a l with
      | none => rw [h] at this; cases this
      | some _ => rfl
    rw [if_pos hsome] at hK
    refine ⟨_, ?_, hK⟩
    unfold Instr.mapUpdate
    simp only [Sem.run_bind, run_underlying hm, Result.andThen_ok, hg, Sem.run_pure, hk.chk, findKey_G hk, List.toList_toArray, hw]
    have e0 : ((((l.map (entG ek ev)).toArray)[j]?).map (·.key)).getD (ek a) = ek a := by
      rw [List.getElem?_toArray, h3]; simp [entG, h4]
    have e1 : (Instr.keyThatStays ((((l.map (entG ek ev)).toArray)[j]?).map (·.key)|>.getD (ek a)) (ek a)).run P w = .ok (ek a) w := by
      rw [e0]; unfold Instr.keyThatStays; rw [if_pos (hs a)]; rfl
    rw [e1]
    simp only [Result.andThen_ok]
    rw [hs']
    unfold mapG
    rw [h5]
    congr 3
    apply Array.ext'
    simp [Array.toList_modify]
theorem keyT_int {ki : IntKind} (ht : P.underlying t = some (.int ki)) : KeyT P t (fun n : Int => .int ki n) (.int ki) := by
  refine ⟨ht, fun n w em a => ?_, fun a b => .inr ?_, fun w a b => ?_⟩
  · simp only [Instr.checkKey, Sem.run_bind, run_underlying ht, Result.andThen_ok]; rfl
  · simp [Instr.sameNow]; rfl
  · show (Op.equalIn 10000 t _ _).run P w = _
    rw [run_equalIn_int w 9999 t ki ki a b ht]
    rfl
end
section
variable {P : Program} {w : World} {K : Value → World → Prop}
theorem rgG {m t e : TypeId} {r clock : Nat} {es : Array MapEntry} (hm : P.underlying m = some (.map t e)) (hr : w.heap[r]? = some (.map es clock)) (hK : K (.pointer (some ⟨w.heap.size, 0, none⟩)) (w.alloc (.mapIter (some r) clock #[] clock))) : rgW P m (.map (some r)) w K := by
  refine ⟨_, _, ?_, hK⟩
  unfold Instr.range
  have hg : (getObj r).run P w = .ok (.map es clock) w := run_getObj_map w r _ _ hr
  simp only [Sem.run_bind, run_underlying hm, Result.andThen_ok, hg, Sem.run_pure, run_newObj_alloc]
theorem nxG {ty q r since c0 clock : Nat} {seen : Array Nat} {es : Array MapEntry} (hq : w.heap[q]? = some (.mapIter (some r) since seen c0)) (hr : w.heap[r]? = some (.map es clock)) (hold : ∀ x ∈ es.toList, x.born < since) (hsc : since ≤ c0)
    (h0 : (leftOf es seen).size = 0 → K (.tuple #[.bool false]) w) (h1 : ∀ e ∈ (leftOf es seen).toList, ∀ w1, (w1 = w ∨ w1 = w.drew) → K (.tuple #[.bool true, e.key, e.val]) (w1.putObj q (.mapIter (some r) since (seen.push e.born) clock))) :
    nxW P (.pointer (some ⟨q, 0, none⟩)) false ty w K := by
  rcases run_next_at w ty q r since c0 seen es clock hq hr hold hsc with ⟨h, hrun⟩ | ⟨e, he, w1, hw1, hrun⟩
  · exact ⟨_, _, hrun, h0 h⟩
  · exact ⟨_, _, hrun, h1 e he w1 hw1⟩
theorem enG {q r since clock : Nat} {seen : Array Nat} {es : Array MapEntry} {e : MapEntry} (hq : w.heap[q]? = some (.mapIter (some r) since (seen.push e.born) clock)) (hr : w.heap[r]? = some (.map es clock)) (he : e ∈ es.toList) (hn : (es.toList.map (·.born)).Nodup)
    (hK : K (.tuple #[e.key, e.val]) w) : enW P (.pointer (some ⟨q, 0, none⟩)) w K := ⟨_, _, run_entry_at w q r since seen es clock e hq hr he hn, hK⟩
theorem clearG {m t e ty : TypeId} {cs : Array Bool} {r clock : Nat} {es : Array MapEntry} (hm : P.underlying m = some (.map t e)) (hr : w.heap[r]? = some (.map es clock)) (hK : K (.tuple #[]) (w.putObj r (.map #[] clock))) : rawB P .clear #[m] ty cs [.map (some r)] w K := by
  refine ⟨_, _, ?_, hK⟩
  have hg : (getObj r).run P w = .ok (.map es clock) w := run_getObj_map w r _ _ hr
  have hs' : ∀ o, (setObj r o).run P w = .ok () (w.putObj r o) := fun o => by simp [setObj, Sem.run, hr, World.putObj]
  simp [builtin, Builtin.clear_, run_underlying hm, hg, hs']
theorem clearG_nil {m t e ty : TypeId} {cs : Array Bool} (hm : P.underlying m = some (.map t e)) (hK : K (.tuple #[]) w) : rawB P .clear #[m] ty cs [.map none] w K := by
  refine ⟨_, _, ?_, hK⟩
  simp [builtin, Builtin.clear_, run_underlying hm]
def Same (X : Nat → Prop) (w0 w' : World) : Prop := ∀ b, X b → w'.heap[b]? = w0.heap[b]?
theorem Same.refl (X : Nat → Prop) (w : World) : Same X w w := fun _ _ => rfl
theorem heldS_held {X : Nat → Prop} {t : TypeId} {w0 : World} {p : Addr} (h2 : X p.block) (h3 : loadW P t p w0 fun v _ => K v w) : heldW P (Same X w0) t p w K := by
  have key : ∀ w' j, Same X w0 w' → w'.cell? (p.add j) = w0.cell? (p.add j) := fun w' j hc => by
    have e : (p.add j).block = p.block := by unfold Addr.add; split <;> rfl
    exact World.cell?_of_block (hc _ (by rw [e]; exact h2))
  have key0 : ∀ w', Same X w0 w' → w'.cell? p = w0.cell? p := fun w' hc => by have := key w' 0 hc; simpa only [Addr.add_zero'] using this
  unfold heldW
  unfold loadW at h3 ⊢
  cases hk : tyK P t with
  | int k => rw [hk] at h3; obtain ⟨n, hc, hK⟩ := h3; exact ⟨_, fun w' hw => ⟨n, (key0 w' hw).trans hc, rfl, rfl⟩, hK⟩
  | bool => rw [hk] at h3; obtain ⟨n, hc, hK⟩ := h3; exact ⟨_, fun w' hw => ⟨n, (key0 w' hw).trans hc, rfl, rfl⟩, hK⟩
  | str => rw [hk] at h3; obtain ⟨n, hc, hK⟩ := h3; exact ⟨_, fun w' hw => ⟨n, (key0 w' hw).trans hc, rfl, rfl⟩, hK⟩
  | slice u e => rw [hk] at h3; obtain ⟨x, n, c, hc, hK⟩ := h3; exact ⟨_, fun w' hw => ⟨x, n, c, (key0 w' hw).trans hc, rfl, rfl⟩, hK⟩
  | ptr => rw [hk] at h3; obtain ⟨n, hc, hK⟩ := h3; exact ⟨_, fun w' hw => ⟨n, (key0 w' hw).trans hc, rfl, rfl⟩, hK⟩
  | map => rw [hk] at h3; obtain ⟨n, hc, hK⟩ := h3; exact ⟨_, fun w' hw => ⟨n, (key0 w' hw).trans hc, rfl, rfl⟩, hK⟩
  | agg n => rw [hk] at h3; obtain ⟨cs, hc, hl, hK⟩ := h3; exact ⟨_, fun w' hw => ⟨cs, fun i v hv => (key w' i hw).trans (hc i v hv), hl, rfl, rfl⟩, hK⟩
  | other => rw [hk] at h3; obtain ⟨n, hc, hK⟩ := h3; exact ⟨_, fun w' hw => ⟨n, (key0 w' hw).trans hc, rfl, rfl⟩, hK⟩
  | none => rw [hk] at h3; exact h3.elim
@[go_sem] theorem heldS_eq {X : Nat → Prop} {t : TypeId} {w0 : World} {b i : Nat} (h2 : X b) : heldW P (Same X w0) t ⟨b, i, none⟩ w K = loadW P t ⟨b, i, none⟩ w0 fun v _ => K v w := by
  apply propext
  exact ⟨fun ⟨v, h, hk⟩ => loadW_mono (h w0 (Same.refl _ _)) fun u hu => by rw [hu.1]; exact hk, heldS_held h2⟩
end
end Go.Ann

namespace Go.Proofs.Ytmchjbgobiagiaa
open Go Go.Ann
@[go_sem] theorem ty3tyK : tyK Try.prog 3 = .int .i64 := by kernel_rfl
@[go_sem] theorem ty3sizeT : sizeT Try.prog 3 = some 1 := by kernel_rfl
@[go_sem] theorem ty3zeroT : zeroT Try.prog 3 = some (.int .i64 0) := by kernel_rfl
@[go_sem] theorem ty3conc : Program.concrete Try.prog 3 = true := by kernel_rfl
@[go_sem] theorem ty4tyK : tyK Try.prog 4 = .bool := by kernel_rfl
@[go_sem] theorem ty4isBoolT : isBoolT Try.prog 4 = true := by kernel_rfl
@[go_sem] theorem ty4sizeT : sizeT Try.prog 4 = some 1 := by kernel_rfl
@[go_sem] theorem ty4zeroT : zeroT Try.prog 4 = some (.bool false) := by kernel_rfl
@[go_sem] theorem ty4conc : Program.concrete Try.prog 4 = true := by kernel_rfl
@[go_sem] theorem ty5tyK : tyK Try.prog 5 = .int .u8 := by kernel_rfl
@[go_sem] theorem ty5sizeT : sizeT Try.prog 5 = some 1 := by kernel_rfl
@[go_sem] theorem ty5zeroT : zeroT Try.prog 5 = some (.int .u8 0) := by kernel_rfl
@[go_sem] theorem ty5conc : Program.concrete Try.prog 5 = true := by kernel_rfl
@[go_sem] theorem ty9tyK : tyK Try.prog 9 = .str := by kernel_rfl
@[go_sem] theorem ty9isStrT : isStrT Try.prog 9 = true := by kernel_rfl
@[go_sem] theorem ty9sizeT : sizeT Try.prog 9 = some 1 := by kernel_rfl
@[go_sem] theorem ty9zeroT : zeroT Try.prog 9 = some (.string (ofL [])) := by kernel_rfl
@[go_sem] theorem ty9conc : Program.concrete Try.prog 9 = true := by kernel_rfl
@[go_sem] theorem ty22tyK : tyK Try.prog 22 = .int .u64 := by kernel_rfl
@[go_sem] theorem ty22sizeT : sizeT Try.prog 22 = some 1 := by kernel_rfl
@[go_sem] theorem ty22zeroT : zeroT Try.prog 22 = some (.int .u64 0) := by kernel_rfl
@[go_sem] theorem ty22conc : Program.concrete Try.prog 22 = true := by kernel_rfl
@[go_sem] theorem ty23tyK : tyK Try.prog 23 = .ptr := by kernel_rfl
@[go_sem] theorem ty23isPtrT : isPtrT Try.prog 23 = true := by kernel_rfl
@[go_sem] theorem ty23sizeT : sizeT Try.prog 23 = some 1 := by kernel_rfl
@[go_sem] theorem ty23zeroT : zeroT Try.prog 23 = some (.pointer none) := by kernel_rfl
@[go_sem] theorem ty23conc : Program.concrete Try.prog 23 = true := by kernel_rfl
@[go_sem] theorem ty24tyK : tyK Try.prog 24 = .ptr := by kernel_rfl
@[go_sem] theorem ty24isPtrT : isPtrT Try.prog 24 = true := by kernel_rfl
@[go_sem] theorem ty24sizeT : sizeT Try.prog 24 = some 1 := by kernel_rfl
@[go_sem] theorem ty24zeroT : zeroT Try.prog 24 = some (.pointer none) := by kernel_rfl
@[go_sem] theorem ty24conc : Program.concrete Try.prog 24 = true := by kernel_rfl
@[go_sem] theorem ty25tyK : tyK Try.prog 25 = .ptr := by kernel_rfl
@[go_sem] theorem ty25isPtrT : isPtrT Try.prog 25 = true := by kernel_rfl
@[go_sem] theorem ty25sizeT : sizeT Try.prog 25 = some 1 := by kernel_rfl
@[go_sem] theorem ty25zeroT : zeroT Try.prog 25 = some (.pointer none) := by kernel_rfl
@[go_sem] theorem ty25conc : Program.concrete Try.prog 25 = true := by kernel_rfl
@[go_sem] theorem ty28tyK : tyK Try.prog 28 = .int .i64 := by kernel_rfl
@[go_sem] theorem ty28sizeT : sizeT Try.prog 28 = some 1 := by kernel_rfl
@[go_sem] theorem ty28zeroT : zeroT Try.prog 28 = some (.int .i64 0) := by kernel_rfl
@[go_sem] theorem ty28conc : Program.concrete Try.prog 28 = true := by kernel_rfl
@[go_sem] theorem ty36tyK : tyK Try.prog 36 = .slice false 9 := by kernel_rfl
@[go_sem] theorem ty36isSliceT : isSliceT Try.prog 36 = true := by kernel_rfl
@[go_sem] theorem ty36sliI : sliI Try.prog 36 = some 1 := by kernel_rfl
@[go_sem] theorem ty36mkI : mkI Try.prog 36 = some (9, 1, 16, (.string (ofL []))) := by kernel_rfl
@[go_sem] theorem ty36sizeT : sizeT Try.prog 36 = some 1 := by kernel_rfl
@[go_sem] theorem ty36zeroT : zeroT Try.prog 36 = some (.slice none 0 0) := by kernel_rfl
@[go_sem] theorem ty36conc : Program.concrete Try.prog 36 = true := by kernel_rfl
@[go_sem] theorem ty37tyK : tyK Try.prog 37 = .slice false 22 := by kernel_rfl
@[go_sem] theorem ty37isSliceT : isSliceT Try.prog 37 = true := by kernel_rfl
@[go_sem] theorem ty37sliI : sliI Try.prog 37 = some 1 := by kernel_rfl
@[go_sem] theorem ty37mkI : mkI Try.prog 37 = some (22, 1, 8, (.int .u64 0)) := by kernel_rfl
@[go_sem] theorem ty37sizeT : sizeT Try.prog 37 = some 1 := by kernel_rfl
@[go_sem] theorem ty37zeroT : zeroT Try.prog 37 = some (.slice none 0 0) := by kernel_rfl
@[go_sem] theorem ty37conc : Program.concrete Try.prog 37 = true := by kernel_rfl
@[go_sem] theorem ty38tyK : tyK Try.prog 38 = .slice false 3 := by kernel_rfl
@[go_sem] theorem ty38isSliceT : isSliceT Try.prog 38 = true := by kernel_rfl
@[go_sem] theorem ty38sliI : sliI Try.prog 38 = some 1 := by kernel_rfl
@[go_sem] theorem ty38mkI : mkI Try.prog 38 = some (3, 1, 8, (.int .i64 0)) := by kernel_rfl
@[go_sem] theorem ty38sizeT : sizeT Try.prog 38 = some 1 := by kernel_rfl
@[go_sem] theorem ty38zeroT : zeroT Try.prog 38 = some (.slice none 0 0) := by kernel_rfl
@[go_sem] theorem ty38conc : Program.concrete Try.prog 38 = true := by kernel_rfl
@[go_sem] theorem ty40tyK : tyK Try.prog 40 = .map := by kernel_rfl
@[go_sem] theorem ty40isMapT : isMapT Try.prog 40 = true := by kernel_rfl
@[go_sem] theorem ty40sizeT : sizeT Try.prog 40 = some 1 := by kernel_rfl
@[go_sem] theorem ty40zeroT : zeroT Try.prog 40 = some (.map none) := by kernel_rfl
@[go_sem] theorem ty40conc : Program.concrete Try.prog 40 = true := by kernel_rfl
@[go_sem] theorem ty48tyK : tyK Try.prog 48 = .slice false 54 := by kernel_rfl
@[go_sem] theorem ty48isSliceT : isSliceT Try.prog 48 = true := by kernel_rfl
@[go_sem] theorem ty48sliI : sliI Try.prog 48 = some 2 := by kernel_rfl
@[go_sem] theorem ty48mkI : mkI Try.prog 48 = some (54, 2, 24, (.agg #[(.int .i64 0), (.string (ofL []))])) := by kernel_rfl
@[go_sem] theorem ty48sizeT : sizeT Try.prog 48 = some 1 := by kernel_rfl
@[go_sem] theorem ty48zeroT : zeroT Try.prog 48 = some (.slice none 0 0) := by kernel_rfl
@[go_sem] theorem ty48conc : Program.concrete Try.prog 48 = true := by kernel_rfl
@[go_sem] theorem ty54tyK : tyK Try.prog 54 = .agg 2 := by kernel_rfl
@[go_sem] theorem ty54sizeT : sizeT Try.prog 54 = some 2 := by kernel_rfl
@[go_sem] theorem ty54zeroT : zeroT Try.prog 54 = some (.agg #[(.int .i64 0), (.string (ofL []))]) := by kernel_rfl
@[go_sem] theorem ty54conc : Program.concrete Try.prog 54 = true := by kernel_rfl
@[go_sem] theorem ty54plc : plcT Try.prog 54 = some [(0, 1), (1, 1)] := by kernel_rfl
@[go_sem] theorem ty54flat : flatT Try.prog 54 = some [.int, .str] := by kernel_rfl
@[go_sem] theorem ty54fld0 : fldI Try.prog 54 0 = some (0, 1, false) := by kernel_rfl
@[go_sem] theorem ty54fld1 : fldI Try.prog 54 1 = some (1, 1, false) := by kernel_rfl
@[go_sem] theorem ty59tyK : tyK Try.prog 59 = .int .u64 := by kernel_rfl
@[go_sem] theorem ty59sizeT : sizeT Try.prog 59 = some 1 := by kernel_rfl
@[go_sem] theorem ty59zeroT : zeroT Try.prog 59 = some (.int .u64 0) := by kernel_rfl
@[go_sem] theorem ty59conc : Program.concrete Try.prog 59 = true := by kernel_rfl
@[go_sem] theorem ty71tyK : tyK Try.prog 71 = .agg 6 := by kernel_rfl
@[go_sem] theorem ty71sizeT : sizeT Try.prog 71 = some 6 := by kernel_rfl
@[go_sem] theorem ty71zeroT : zeroT Try.prog 71 = some (.agg #[(.int .i64 0), (.int .i64 0), (.string (ofL [])), (.int .u64 0), (.int .i64 0), (.int .i64 0)]) := by kernel_rfl
@[go_sem] theorem ty71conc : Program.concrete Try.prog 71 = true := by kernel_rfl
@[go_sem] theorem ty71plc : plcT Try.prog 71 = some [(0, 1), (1, 1), (2, 1), (3, 1), (4, 1), (5, 1)] := by kernel_rfl
@[go_sem] theorem ty71flat : flatT Try.prog 71 = some [.int, .int, .str, .int, .int, .int] := by kernel_rfl
@[go_sem] theorem ty71fld0 : fldI Try.prog 71 0 = some (0, 1, false) := by kernel_rfl
@[go_sem] theorem ty71fld1 : fldI Try.prog 71 1 = some (1, 1, false) := by kernel_rfl
@[go_sem] theorem ty71fld2 : fldI Try.prog 71 2 = some (2, 1, false) := by kernel_rfl
@[go_sem] theorem ty71fld3 : fldI Try.prog 71 3 = some (3, 1, false) := by kernel_rfl
@[go_sem] theorem ty71fld4 : fldI Try.prog 71 4 = some (4, 1, false) := by kernel_rfl
@[go_sem] theorem ty71fld5 : fldI Try.prog 71 5 = some (5, 1, false) := by kernel_rfl
@[go_sem] theorem ty73tyK : tyK Try.prog 73 = .agg 4 := by kernel_rfl
@[go_sem] theorem ty73sizeT : sizeT Try.prog 73 = some 4 := by kernel_rfl
@[go_sem] theorem ty73zeroT : zeroT Try.prog 73 = some (.agg #[(.int .u64 0), (.int .i64 0), (.int .i64 0), (.int .i64 0)]) := by kernel_rfl
@[go_sem] theorem ty73conc : Program.concrete Try.prog 73 = true := by kernel_rfl
@[go_sem] theorem ty73plc : plcT Try.prog 73 = some [(0, 1), (1, 1), (2, 1), (3, 1)] := by kernel_rfl
@[go_sem] theorem ty73flat : flatT Try.prog 73 = some [.int, .int, .int, .int] := by kernel_rfl
@[go_sem] theorem ty73fld0 : fldI Try.prog 73 0 = some (0, 1, false) := by kernel_rfl
@[go_sem] theorem ty73fld1 : fldI Try.prog 73 1 = some (1, 1, false) := by kernel_rfl
@[go_sem] theorem ty73fld2 : fldI Try.prog 73 2 = some (2, 1, false) := by kernel_rfl
@[go_sem] theorem ty73fld3 : fldI Try.prog 73 3 = some (3, 1, false) := by kernel_rfl
@[go_sem] theorem ty74tyK : tyK Try.prog 74 = .map := by kernel_rfl
@[go_sem] theorem ty74isMapT : isMapT Try.prog 74 = true := by kernel_rfl
@[go_sem] theorem ty74sizeT : sizeT Try.prog 74 = some 1 := by kernel_rfl
@[go_sem] theorem ty74zeroT : zeroT Try.prog 74 = some (.map none) := by kernel_rfl
@[go_sem] theorem ty74conc : Program.concrete Try.prog 74 = true := by kernel_rfl
@[go_sem] theorem ty76tyK : tyK Try.prog 76 = .agg 7 := by kernel_rfl
@[go_sem] theorem ty76sizeT : sizeT Try.prog 76 = some 7 := by kernel_rfl
@[go_sem] theorem ty76zeroT : zeroT Try.prog 76 = some (.agg #[(.pointer none), (.int .u64 0), (.int .i64 0), (.int .i64 0), (.int .i64 0), (.map none), (.bool false)]) := by kernel_rfl
@[go_sem] theorem ty76conc : Program.concrete Try.prog 76 = true := by kernel_rfl
@[go_sem] theorem ty76plc : plcT Try.prog 76 = some [(0, 1), (1, 4), (5, 1), (6, 1)] := by kernel_rfl
@[go_sem] theorem ty76fld0 : fldI Try.prog 76 0 = some (0, 1, false) := by kernel_rfl
@[go_sem] theorem ty76fld1 : fldI Try.prog 76 1 = some (1, 4, true) := by kernel_rfl
@[go_sem] theorem ty76fld2 : fldI Try.prog 76 2 = some (5, 1, false) := by kernel_rfl
@[go_sem] theorem ty76fld3 : fldI Try.prog 76 3 = some (6, 1, false) := by kernel_rfl
@[go_sem] theorem ty77tyK : tyK Try.prog 77 = .slice false 24 := by kernel_rfl
@[go_sem] theorem ty77isSliceT : isSliceT Try.prog 77 = true := by kernel_rfl
@[go_sem] theorem ty77sliI : sliI Try.prog 77 = some 1 := by kernel_rfl
@[go_sem] theorem ty77mkI : mkI Try.prog 77 = some (24, 1, 8, (.pointer none)) := by kernel_rfl
@[go_sem] theorem ty77sizeT : sizeT Try.prog 77 = some 1 := by kernel_rfl
@[go_sem] theorem ty77zeroT : zeroT Try.prog 77 = some (.slice none 0 0) := by kernel_rfl
@[go_sem] theorem ty77conc : Program.concrete Try.prog 77 = true := by kernel_rfl
@[go_sem] theorem ty95tyK : tyK Try.prog 95 = .slice true 5 := by kernel_rfl
@[go_sem] theorem ty95isSliceT : isSliceT Try.prog 95 = true := by kernel_rfl
@[go_sem] theorem ty95sliI : sliI Try.prog 95 = some 1 := by kernel_rfl
@[go_sem] theorem ty95mkI : mkI Try.prog 95 = some (5, 1, 1, (.int .u8 0)) := by kernel_rfl
@[go_sem] theorem ty95sizeT : sizeT Try.prog 95 = some 1 := by kernel_rfl
@[go_sem] theorem ty95zeroT : zeroT Try.prog 95 = some (.slice none 0 0) := by kernel_rfl
@[go_sem] theorem ty95conc : Program.concrete Try.prog 95 = true := by kernel_rfl
@[go_sem] theorem ty102tyK : tyK Try.prog 102 = .slice false 106 := by kernel_rfl
@[go_sem] theorem ty102isSliceT : isSliceT Try.prog 102 = true := by kernel_rfl
@[go_sem] theorem ty102sliI : sliI Try.prog 102 = some 2 := by kernel_rfl
@[go_sem] theorem ty102mkI : mkI Try.prog 102 = some (106, 2, 24, (.agg #[(.int .i64 0), (.string (ofL []))])) := by kernel_rfl
@[go_sem] theorem ty102sizeT : sizeT Try.prog 102 = some 1 := by kernel_rfl
@[go_sem] theorem ty102zeroT : zeroT Try.prog 102 = some (.slice none 0 0) := by kernel_rfl
@[go_sem] theorem ty102conc : Program.concrete Try.prog 102 = true := by kernel_rfl
@[go_sem] theorem ty104tyK : tyK Try.prog 104 = .agg 5 := by kernel_rfl
@[go_sem] theorem ty104sizeT : sizeT Try.prog 104 = some 5 := by kernel_rfl
@[go_sem] theorem ty104zeroT : zeroT Try.prog 104 = some (.agg #[(.slice none 0 0), (.slice none 0 0), (.int .i64 0), (.bool false), (.string (ofL []))]) := by kernel_rfl
@[go_sem] theorem ty104conc : Program.concrete Try.prog 104 = true := by kernel_rfl
@[go_sem] theorem ty104plc : plcT Try.prog 104 = some [(0, 1), (1, 1), (2, 1), (3, 1), (4, 1)] := by kernel_rfl
@[go_sem] theorem ty104fld0 : fldI Try.prog 104 0 = some (0, 1, false) := by kernel_rfl
@[go_sem] theorem ty104fld1 : fldI Try.prog 104 1 = some (1, 1, false) := by kernel_rfl
@[go_sem] theorem ty104fld2 : fldI Try.prog 104 2 = some (2, 1, false) := by kernel_rfl
@[go_sem] theorem ty104fld3 : fldI Try.prog 104 3 = some (3, 1, false) := by kernel_rfl
@[go_sem] theorem ty104fld4 : fldI Try.prog 104 4 = some (4, 1, false) := by kernel_rfl
@[go_sem] theorem ty106tyK : tyK Try.prog 106 = .agg 2 := by kernel_rfl
@[go_sem] theorem ty106sizeT : sizeT Try.prog 106 = some 2 := by kernel_rfl
@[go_sem] theorem ty106zeroT : zeroT Try.prog 106 = some (.agg #[(.int .i64 0), (.string (ofL []))]) := by kernel_rfl
@[go_sem] theorem ty106conc : Program.concrete Try.prog 106 = true := by kernel_rfl
@[go_sem] theorem ty106plc : plcT Try.prog 106 = some [(0, 1), (1, 1)] := by kernel_rfl
@[go_sem] theorem ty106flat : flatT Try.prog 106 = some [.int, .str] := by kernel_rfl
@[go_sem] theorem ty106fld0 : fldI Try.prog 106 0 = some (0, 1, false) := by kernel_rfl
@[go_sem] theorem ty106fld1 : fldI Try.prog 106 1 = some (1, 1, false) := by kernel_rfl
@[go_sem] theorem ty152tyK : tyK Try.prog 152 = .agg 2 := by kernel_rfl
@[go_sem] theorem ty152sizeT : sizeT Try.prog 152 = some 2 := by kernel_rfl
@[go_sem] theorem ty152zeroT : zeroT Try.prog 152 = some (.agg #[(.pointer none), (.slice none 0 0)]) := by kernel_rfl
@[go_sem] theorem ty152conc : Program.concrete Try.prog 152 = true := by kernel_rfl
@[go_sem] theorem ty152plc : plcT Try.prog 152 = some [(0, 1), (1, 1)] := by kernel_rfl
@[go_sem] theorem ty152fld0 : fldI Try.prog 152 0 = some (0, 1, false) := by kernel_rfl
@[go_sem] theorem ty152fld1 : fldI Try.prog 152 1 = some (1, 1, false) := by kernel_rfl
@[go_sem] theorem ty169tyK : tyK Try.prog 169 = .ptr := by kernel_rfl
@[go_sem] theorem ty169isPtrT : isPtrT Try.prog 169 = true := by kernel_rfl
@[go_sem] theorem ty169sizeT : sizeT Try.prog 169 = some 1 := by kernel_rfl
@[go_sem] theorem ty169zeroT : zeroT Try.prog 169 = some (.pointer none) := by kernel_rfl
@[go_sem] theorem ty169conc : Program.concrete Try.prog 169 = true := by kernel_rfl
noncomputable def c3code : Code := match Try.f3.body with | some c => c | none => .skip
noncomputable def c3S0 (_ : Unit) : Cmd := (.cond (.tmp 34)
  (.seq (.ops [
  ⟨some 4, .assign (.const (.bool false)), 4, none⟩] [4])
  .ret)
  (.skip [1, 5, 8]))
noncomputable def c3S1 (_ : Unit) : Cmd := (.cond (.tmp 60)
  (.seq (.ops [
  ⟨some 4, .assign (.const (.bool false)), 4, none⟩] [4])
  .ret)
  (.skip [1, 5, 8, 9]))
noncomputable def c3S2 (_ : Unit) : Cmd := (.seq (.ops [
 ⟨some 45, .move (.tmp 11), 28, none⟩,
 ⟨some 46, .binOp .neq 28 (.tmp 45) (.const (.int .i64 0)) 28, 4, none⟩,
 ⟨some 47, .move (.tmp 46), 4, none⟩,
 ⟨some 48, .move (.tmp 10), 3, (some (47, false))⟩,
 ⟨some 49, .move (.tmp 9), 3, (some (47, false))⟩,
 ⟨some 50, .binOp .neq 3 (.tmp 48) (.tmp 49) 3, 4, (some (47, false))⟩,
 ⟨some 51, .pick (.tmp 47) (.const (.bool true)) (.tmp 50), 4, none⟩,
 ⟨some 52, .move (.tmp 51), 4, none⟩,
 ⟨some 53, .move (.tmp 8), 25, (some (52, false))⟩,
 ⟨some 54, .call ⟨.value (.func 14), #[(.tmp 53)], #[25]⟩, 3, (some (52, false))⟩,
 ⟨some 55, .move (.tmp 5), 3, (some (52, false))⟩,
 ⟨some 56, .binOp .sub 3 (.tmp 55) (.const (.int .i64 1)) 3, 3, (some (52, false))⟩,
 ⟨some 57, .move (.tmp 9), 3, (some (52, false))⟩,
 ⟨some 58, .binOp .sub 3 (.tmp 56) (.tmp 57) 3, 3, (some (52, false))⟩,
 ⟨some 59, .binOp .neq 3 (.tmp 54) (.tmp 58) 3, 4, (some (52, false))⟩,
 ⟨some 60, .pick (.tmp 52) (.const (.bool true)) (.tmp 59), 4, none⟩] [1, 5, 8, 9, 60]) (sg c3S1))
noncomputable def c3S3 (_ : Unit) : Cmd := (.ops [
 ⟨some 38, .move (.tmp 9), 3, none⟩,
 ⟨some 39, .binOp .add 3 (.tmp 38) (.const (.int .i64 1)) 3, 3, none⟩,
 ⟨some 9, .assign (.tmp 39), 3, none⟩] [1, 5, 8, 9])
noncomputable def c3S4 (_ : Unit) : Cmd := (.seq (.block 1 (.seq (.ops [
 ⟨some 41, .move (.tmp 8), 25, none⟩,
 ⟨some 42, .call ⟨.value (.func 13), #[(.tmp 41)], #[25]⟩, 30, none⟩,
 ⟨some 40, .move (.tmp 42), 30, none⟩,
 ⟨some 43, .extract (.tmp 40) 0, 3, none⟩,
 ⟨some 44, .extract (.tmp 40) 1, 28, none⟩,
 ⟨some 10, .assign (.tmp 43), 3, none⟩,
 ⟨some 11, .assign (.tmp 44), 28, none⟩] [1, 5, 8, 9, 10, 11]) (sg c3S2))) (sg c3S3))
noncomputable def c3L0 (_ : Unit) : Cmd := (.seq (.seq (.ops [
 ⟨some 35, .move (.tmp 9), 3, none⟩,
 ⟨some 36, .move (.tmp 5), 3, none⟩,
 ⟨some 37, .binOp .lss 3 (.tmp 35) (.tmp 36) 3, 4, none⟩] [1, 5, 8, 9, 37])
 (.cond (.tmp 37)
  (.skip [1, 5, 8, 9])
  (.exit 0 [1, 5, 8]))) (sg c3S4))
noncomputable def c3S5 (_ : Unit) : Cmd := .ret
noncomputable def c3S6 (_ : Unit) : Cmd := (.seq (.ops [
 ⟨some 81, .move (.tmp 13), 28, none⟩,
 ⟨some 82, .binOp .eql 28 (.tmp 81) (.const (.int .i64 13)) 28, 4, none⟩,
 ⟨some 83, .move (.tmp 82), 4, none⟩,
 ⟨some 84, .move (.tmp 15), 28, (some (83, true))⟩,
 ⟨some 85, .binOp .eql 28 (.tmp 84) (.const (.int .i64 0)) 28, 4, (some (83, true))⟩,
 ⟨some 86, .pick (.tmp 83) (.tmp 85) (.const (.bool false)), 4, none⟩,
 ⟨some 87, .move (.tmp 86), 4, none⟩,
 ⟨some 88, .move (.tmp 17), 28, (some (87, true))⟩,
 ⟨some 89, .move (.tmp 15), 28, (some (87, true))⟩,
 ⟨some 90, .binOp .eql 28 (.tmp 88) (.tmp 89) 28, 4, (some (87, true))⟩,
 ⟨some 91, .pick (.tmp 87) (.tmp 90) (.const (.bool false)), 4, none⟩,
 ⟨some 92, .move (.tmp 91), 4, none⟩,
 ⟨some 93, .move (.tmp 16), 3, (some (92, true))⟩,
 ⟨some 94, .move (.tmp 14), 3, (some (92, true))⟩,
 ⟨some 95, .binOp .eql 3 (.tmp 93) (.tmp 94) 3, 4, (some (92, true))⟩,
 ⟨some 96, .pick (.tmp 92) (.tmp 95) (.const (.bool false)), 4, none⟩,
 ⟨some 97, .move (.tmp 96), 4, none⟩,
 ⟨some 98, .call ⟨.value (.func 16), #[], #[]⟩, 4, (some (97, true))⟩,
 ⟨some 99, .pick (.tmp 97) (.tmp 98) (.const (.bool false)), 4, none⟩,
 ⟨some 4, .assign (.tmp 99), 4, none⟩] [4]) (sg c3S5))
noncomputable def c3S7 (_ : Unit) : Cmd := (.seq (.ops [
 ⟨some 77, .move (.tmp 8), 25, none⟩,
 ⟨some 78, .call ⟨.value (.func 13), #[(.tmp 77)], #[25]⟩, 30, none⟩,
 ⟨some 76, .move (.tmp 78), 30, none⟩,
 ⟨some 79, .extract (.tmp 76) 0, 3, none⟩,
 ⟨some 80, .extract (.tmp 76) 1, 28, none⟩,
 ⟨some 16, .assign (.tmp 79), 3, none⟩,
 ⟨some 17, .assign (.tmp 80), 28, none⟩] [13, 14, 15, 16, 17]) (sg c3S6))
noncomputable def c3S8 (_ : Unit) : Cmd := (.seq (.ops [
 ⟨some 66, .move (.tmp 1), 22, none⟩,
 ⟨some 67, .move (.tmp 5), 3, none⟩,
 ⟨some 68, .binOp .sub 3 (.tmp 67) (.const (.int .i64 2)) 3, 3, none⟩,
 ⟨some 69, .convert 3 22 (.tmp 68), 22, none⟩,
 ⟨some 70, .binOp .rem 22 (.tmp 66) (.tmp 69) 22, 22, none⟩,
 ⟨some 71, .convert 22 3 (.tmp 70), 3, none⟩,
 ⟨some 72, .binOp .add 3 (.const (.int .i64 2)) (.tmp 71) 3, 3, none⟩,
 ⟨some 14, .assign (.tmp 72), 3, none⟩] [8, 13, 14])
 (.seq (.ops [
 ⟨some 73, .move (.tmp 8), 25, none⟩,
 ⟨some 74, .move (.tmp 14), 3, none⟩,
 ⟨some 75, .call ⟨.value (.func 15), #[(.tmp 73), (.tmp 74)], #[25, 3]⟩, 28, none⟩,
 ⟨some 15, .assign (.tmp 75), 28, none⟩] [8, 13, 14, 15]) (sg c3S7)))
noncomputable def c3S9 (_ : Unit) : Cmd := (.seq (.ops [
 ⟨some 62, .move (.tmp 8), 25, none⟩,
 ⟨some 63, .call ⟨.value (.func 13), #[(.tmp 62)], #[25]⟩, 30, none⟩,
 ⟨some 61, .move (.tmp 63), 30, none⟩,
 ⟨some 64, .extract (.tmp 61) 0, 3, none⟩,
 ⟨some 65, .extract (.tmp 61) 1, 28, none⟩,
 ⟨some 12, .assign (.tmp 64), 3, none⟩,
 ⟨some 13, .assign (.tmp 65), 28, none⟩] [1, 5, 8, 13]) (sg c3S8))
noncomputable def c3S10 (_ : Unit) : Cmd := (.seq (.seq (.ops [
 ⟨some 9, .assign (.const (.int .i64 2)), 3, none⟩] [1, 5, 8, 9])
 (.block 0 (.loop (sg c3L0)))) (sg c3S9))
noncomputable def c3S11 (_ : Unit) : Cmd := (.seq (.seq (.ops [
 ⟨some 28, .move (.tmp 8), 25, none⟩,
 ⟨some 29, .binOp .eql 25 (.tmp 28) (.const (.pointer none)) 25, 4, none⟩,
 ⟨some 30, .move (.tmp 29), 4, none⟩,
 ⟨some 31, .move (.tmp 8), 25, (some (30, false))⟩,
 ⟨some 32, .call ⟨.value (.func 12), #[(.tmp 31)], #[25]⟩, 28, (some (30, false))⟩,
 ⟨some 33, .binOp .neq 28 (.tmp 32) (.const (.int .i64 0)) 28, 4, (some (30, false))⟩,
 ⟨some 34, .pick (.tmp 30) (.const (.bool true)) (.tmp 33), 4, none⟩] [1, 5, 8, 34]) (sg c3S0)) (sg c3S10))
noncomputable def c3 : Cmd := (.seq (.ops [
 ⟨some 4, .assign (.const (.bool false)), 4, none⟩] [0, 1])
 (.seq (.ops [
 ⟨some 18, .move (.tmp 0), 5, none⟩,
 ⟨some 19, .binOp .rem 5 (.tmp 18) (.const (.int .u8 20)) 5, 5, none⟩,
 ⟨some 20, .convert 5 3 (.tmp 19), 3, none⟩,
 ⟨some 21, .binOp .add 3 (.tmp 20) (.const (.int .i64 3)) 3, 3, none⟩,
 ⟨some 5, .assign (.tmp 21), 3, none⟩] [1, 5])
 (.seq (.ops [
 ⟨some 23, .move (.tmp 5), 3, none⟩,
 ⟨some 24, .call ⟨.value (.func 11), #[(.tmp 23)], #[3]⟩, 26, none⟩,
 ⟨some 22, .move (.tmp 24), 26, none⟩,
 ⟨some 25, .extract (.tmp 22) 0, 23, none⟩,
 ⟨some 26, .extract (.tmp 22) 1, 24, none⟩,
 ⟨some 27, .extract (.tmp 22) 2, 25, none⟩,
 ⟨some 6, .assign (.tmp 25), 23, none⟩,
 ⟨some 7, .assign (.tmp 26), 24, none⟩,
 ⟨some 8, .assign (.tmp 27), 25, none⟩] [1, 5, 8]) (sg c3S11))))
@[go_sem] theorem go3 : goFunc Try.prog 3 = true := by kernel_rfl
noncomputable def c4code : Code := match Try.f4.body with | some c => c | none => .skip
noncomputable def c4S0 (_ : Unit) : Cmd := (.cond (.tmp 30)
  (.seq (.ops [
  ⟨some 4, .assign (.const (.bool false)), 4, none⟩] [4])
  .ret)
  (.skip [0, 1, 7]))
noncomputable def c4S1 (_ : Unit) : Cmd := .ret
noncomputable def c4S2 (_ : Unit) : Cmd := (.ops [
 ⟨some 67, .move (.tmp 12), 3, none⟩,
 ⟨some 68, .binOp .add 3 (.tmp 67) (.const (.int .i64 1)) 3, 3, none⟩,
 ⟨some 12, .assign (.tmp 68), 3, none⟩] [0, 1, 7, 8, 9, 10, 12])
noncomputable def c4S3 (_ : Unit) : Cmd := (.seq (.block 3 (.seq (.ops [
 ⟨some 69, .move (.tmp 8), 38, none⟩,
 ⟨some 70, .move (.tmp 12), 3, none⟩,
 ⟨some 71, .indexAddr 38 (.tmp 69) (.tmp 70), 0, none⟩,
 ⟨some 72, .load 3 (.tmp 71), 3, none⟩,
 ⟨some 73, .move (.tmp 10), 3, none⟩,
 ⟨some 74, .binOp .eql 3 (.tmp 72) (.tmp 73) 3, 4, none⟩] [0, 1, 7, 8, 9, 10, 12, 74])
 (.cond (.tmp 74)
  (.seq (.ops [
  ⟨some 4, .assign (.const (.bool false)), 4, none⟩] [4])
  .ret)
  (.skip [0, 1, 7, 8, 9, 10, 12])))) (sg c4S2))
noncomputable def c4L0 (_ : Unit) : Cmd := (.seq (.seq (.ops [
 ⟨some 63, .move (.tmp 12), 3, none⟩,
 ⟨some 64, .move (.tmp 8), 38, none⟩,
 ⟨some 65, .call ⟨.builtin .len, #[(.tmp 64)], #[38]⟩, 3, none⟩,
 ⟨some 66, .binOp .lss 3 (.tmp 63) (.tmp 65) 3, 4, none⟩] [0, 1, 7, 8, 9, 10, 12, 66])
 (.cond (.tmp 66)
  (.skip [0, 1, 7, 8, 9, 10, 12])
  (.exit 2 [0, 1, 7, 8, 9, 10]))) (sg c4S3))
noncomputable def c4S4 (_ : Unit) : Cmd := (.cond (.tmp 86)
  (.seq (.ops [
  ⟨some 4, .assign (.const (.bool false)), 4, none⟩] [4])
  .ret)
  (.skip [0, 1, 7, 8, 9]))
noncomputable def c4S5 (_ : Unit) : Cmd := (.seq (.ops [
 ⟨some 79, .move (.tmp 7), 25, none⟩,
 ⟨some 80, .move (.tmp 10), 3, none⟩,
 ⟨some 81, .move (.tmp 0), 36, none⟩,
 ⟨some 82, .move (.tmp 9), 3, none⟩,
 ⟨some 83, .indexAddr 36 (.tmp 81) (.tmp 82), 0, none⟩,
 ⟨some 84, .load 9 (.tmp 83), 9, none⟩,
 ⟨some 85, .call ⟨.value (.func 17), #[(.tmp 79), (.tmp 80), (.tmp 84)], #[25, 3, 9]⟩, 28, none⟩,
 ⟨some 86, .binOp .neq 28 (.tmp 85) (.const (.int .i64 0)) 28, 4, none⟩] [0, 1, 7, 8, 9, 86]) (sg c4S4))
noncomputable def c4S6 (_ : Unit) : Cmd := (.seq (.ops [
 ⟨some 75, .move (.tmp 8), 38, none⟩,
 ⟨some 76, .move (.tmp 10), 3, none⟩,
 ⟨some 77, .buildSlice 38 1 #[(0, (.tmp 76))], 38, none⟩,
 ⟨some 78, .call ⟨.builtin .append, #[(.tmp 75), (.tmp 77)], #[38, 38]⟩, 38, none⟩,
 ⟨some 8, .assign (.tmp 78), 38, none⟩] [0, 1, 7, 8, 9, 10]) (sg c4S5))
noncomputable def c4S7 (_ : Unit) : Cmd := (.seq (.seq (.ops [
 ⟨some 12, .assign (.const (.int .i64 0)), 3, none⟩] [0, 1, 7, 8, 9, 10, 12])
 (.block 2 (.loop (sg c4L0)))) (sg c4S6))
noncomputable def c4S8 (_ : Unit) : Cmd := (.seq (.seq (.ops [
 ⟨some 53, .move (.tmp 11), 28, none⟩,
 ⟨some 54, .binOp .neq 28 (.tmp 53) (.const (.int .i64 0)) 28, 4, none⟩,
 ⟨some 55, .move (.tmp 54), 4, none⟩,
 ⟨some 56, .move (.tmp 10), 3, (some (55, false))⟩,
 ⟨some 57, .binOp .lss 3 (.tmp 56) (.const (.int .i64 2)) 3, 4, (some (55, false))⟩,
 ⟨some 58, .pick (.tmp 55) (.const (.bool true)) (.tmp 57), 4, none⟩,
 ⟨some 59, .move (.tmp 58), 4, none⟩,
 ⟨some 60, .move (.tmp 10), 3, (some (59, false))⟩,
 ⟨some 61, .binOp .geq 3 (.tmp 60) (.const (.int .i64 40)) 3, 4, (some (59, false))⟩,
 ⟨some 62, .pick (.tmp 59) (.const (.bool true)) (.tmp 61), 4, none⟩] [0, 1, 7, 8, 9, 10, 62])
 (.cond (.tmp 62)
  (.seq (.ops [
  ⟨some 4, .assign (.const (.bool false)), 4, none⟩] [4])
  .ret)
  (.skip [0, 1, 7, 8, 9, 10]))) (sg c4S7))
noncomputable def c4S9 (_ : Unit) : Cmd := (.seq (.ops [
 ⟨some 49, .move (.tmp 7), 25, none⟩,
 ⟨some 50, .call ⟨.value (.func 13), #[(.tmp 49)], #[25]⟩, 30, none⟩,
 ⟨some 48, .move (.tmp 50), 30, none⟩,
 ⟨some 51, .extract (.tmp 48) 0, 3, none⟩,
 ⟨some 52, .extract (.tmp 48) 1, 28, none⟩,
 ⟨some 10, .assign (.tmp 51), 3, none⟩,
 ⟨some 11, .assign (.tmp 52), 28, none⟩] [0, 1, 7, 8, 9, 10, 11]) (sg c4S8))
noncomputable def c4S10 (_ : Unit) : Cmd := (.ops [
 ⟨some 39, .move (.tmp 9), 3, none⟩,
 ⟨some 40, .binOp .add 3 (.tmp 39) (.const (.int .i64 1)) 3, 3, none⟩,
 ⟨some 9, .assign (.tmp 40), 3, none⟩] [0, 1, 7, 8, 9])
noncomputable def c4S11 (_ : Unit) : Cmd := (.seq (.block 1 (.seq (.seq (.ops [
 ⟨some 41, .move (.tmp 0), 36, none⟩,
 ⟨some 42, .move (.tmp 9), 3, none⟩,
 ⟨some 43, .indexAddr 36 (.tmp 41) (.tmp 42), 0, none⟩,
 ⟨some 44, .load 9 (.tmp 43), 9, none⟩,
 ⟨some 45, .call ⟨.builtin .len, #[(.tmp 44)], #[9]⟩, 3, none⟩,
 ⟨some 46, .binOp .gtr 3 (.tmp 45) (.const (.int .i64 256)) 3, 4, none⟩] [0, 1, 7, 8, 9, 46])
 (.cond (.tmp 46)
  (.seq (.ops [
  ⟨some 47, .call ⟨.value (.func 16), #[], #[]⟩, 4, none⟩,
  ⟨some 4, .assign (.tmp 47), 4, none⟩] [4]) (sg c4S1))
  (.skip [0, 1, 7, 8, 9]))) (sg c4S9))) (sg c4S10))
noncomputable def c4L1 (_ : Unit) : Cmd := (.seq (.seq (.ops [
 ⟨some 31, .move (.tmp 9), 3, none⟩,
 ⟨some 32, .move (.tmp 0), 36, none⟩,
 ⟨some 33, .call ⟨.builtin .len, #[(.tmp 32)], #[36]⟩, 3, none⟩,
 ⟨some 34, .binOp .lss 3 (.tmp 31) (.tmp 33) 3, 4, none⟩,
 ⟨some 35, .move (.tmp 34), 4, none⟩,
 ⟨some 36, .move (.tmp 9), 3, (some (35, true))⟩,
 ⟨some 37, .binOp .lss 3 (.tmp 36) (.const (.int .i64 38)) 3, 4, (some (35, true))⟩,
 ⟨some 38, .pick (.tmp 35) (.tmp 37) (.const (.bool false)), 4, none⟩] [0, 1, 7, 8, 9, 38])
 (.cond (.tmp 38)
  (.skip [0, 1, 7, 8, 9])
  (.exit 0 [0, 1, 7, 8]))) (sg c4S11))
noncomputable def c4S12 (_ : Unit) : Cmd := (.cond (.tmp 121)
  (.seq (.ops [
  ⟨some 4, .assign (.const (.bool false)), 4, none⟩] [4])
  .ret)
  (.skip [0, 1, 7, 8, 13, 14, 15]))
noncomputable def c4S13 (_ : Unit) : Cmd := (.ops [
 ⟨some 122, .move (.tmp 13), 40, none⟩,
 ⟨some 123, .move (.tmp 15), 3, none⟩,
 ⟨none, .mapUpdate 40 (.tmp 122) (.tmp 123) (.const (.bool true)), 0, none⟩] [0, 1, 7, 8, 13, 14])
noncomputable def c4S14 (_ : Unit) : Cmd := (.ops [
 ⟨some 101, .move (.tmp 14), 3, none⟩,
 ⟨some 102, .binOp .add 3 (.tmp 101) (.const (.int .i64 1)) 3, 3, none⟩,
 ⟨some 14, .assign (.tmp 102), 3, none⟩] [0, 1, 7, 8, 13, 14])
noncomputable def c4S15 (_ : Unit) : Cmd := (.seq (.block 5 (.seq (.ops [
 ⟨some 103, .move (.tmp 8), 38, none⟩,
 ⟨some 104, .move (.tmp 1), 37, none⟩,
 ⟨some 105, .move (.tmp 14), 3, none⟩,
 ⟨some 106, .indexAddr 37 (.tmp 104) (.tmp 105), 0, none⟩,
 ⟨some 107, .load 22 (.tmp 106), 22, none⟩,
 ⟨some 108, .move (.tmp 8), 38, none⟩,
 ⟨some 109, .call ⟨.builtin .len, #[(.tmp 108)], #[38]⟩, 3, none⟩,
 ⟨some 110, .convert 3 22 (.tmp 109), 22, none⟩,
 ⟨some 111, .binOp .rem 22 (.tmp 107) (.tmp 110) 22, 22, none⟩,
 ⟨some 112, .indexAddr 38 (.tmp 103) (.tmp 111), 0, none⟩,
 ⟨some 113, .load 3 (.tmp 112), 3, none⟩,
 ⟨some 15, .assign (.tmp 113), 3, none⟩] [0, 1, 7, 8, 13, 14, 15])
 (.seq (.seq (.draw (drawOps 0 c4code) [0, 1, 7, 8, 13, 14, 15, 121]) (sg c4S12)) (sg c4S13)))) (sg c4S14))
noncomputable def c4L2 (_ : Unit) : Cmd := (.seq (.seq (.ops [
 ⟨some 88, .move (.tmp 14), 3, none⟩,
 ⟨some 89, .move (.tmp 1), 37, none⟩,
 ⟨some 90, .call ⟨.builtin .len, #[(.tmp 89)], #[37]⟩, 3, none⟩,
 ⟨some 91, .binOp .lss 3 (.tmp 88) (.tmp 90) 3, 4, none⟩,
 ⟨some 92, .move (.tmp 91), 4, none⟩,
 ⟨some 93, .move (.tmp 14), 3, (some (92, true))⟩,
 ⟨some 94, .binOp .lss 3 (.tmp 93) (.const (.int .i64 20)) 3, 4, (some (92, true))⟩,
 ⟨some 95, .pick (.tmp 92) (.tmp 94) (.const (.bool false)), 4, none⟩,
 ⟨some 96, .move (.tmp 95), 4, none⟩,
 ⟨some 97, .move (.tmp 8), 38, (some (96, true))⟩,
 ⟨some 98, .call ⟨.builtin .len, #[(.tmp 97)], #[38]⟩, 3, (some (96, true))⟩,
 ⟨some 99, .binOp .gtr 3 (.tmp 98) (.const (.int .i64 0)) 3, 4, (some (96, true))⟩,
 ⟨some 100, .pick (.tmp 96) (.tmp 99) (.const (.bool false)), 4, none⟩] [0, 1, 7, 8, 13, 14, 100])
 (.cond (.tmp 100)
  (.skip [0, 1, 7, 8, 13, 14])
  (.exit 4 [0, 7, 8, 13]))) (sg c4S15))
noncomputable def c4S16 (_ : Unit) : Cmd := (.cond (.tmp 170)
  (.seq (.ops [
  ⟨some 4, .assign (.const (.bool false)), 4, none⟩] [4])
  .ret)
  (.skip [0, 7, 8, 13, 16]))
noncomputable def c4S17 (_ : Unit) : Cmd := (.seq (.ops [
 ⟨some 139, .move (.tmp 13), 40, none⟩,
 ⟨some 140, .move (.tmp 8), 38, none⟩,
 ⟨some 141, .move (.tmp 16), 3, none⟩,
 ⟨some 142, .indexAddr 38 (.tmp 140) (.tmp 141), 0, none⟩,
 ⟨some 143, .load 3 (.tmp 142), 3, none⟩,
 ⟨some 144, .lookup 40 (.tmp 139) (.tmp 143) false, 4, none⟩,
 ⟨some 145, .move (.tmp 144), 4, none⟩,
 ⟨some 146, .move (.tmp 18), 28, (some (145, true))⟩,
 ⟨some 147, .binOp .neq 28 (.tmp 146) (.const (.int .i64 6)) 28, 4, (some (145, true))⟩,
 ⟨some 148, .pick (.tmp 145) (.tmp 147) (.const (.bool false)), 4, none⟩,
 ⟨some 149, .move (.tmp 148), 4, none⟩,
 ⟨some 150, .move (.tmp 13), 40, (some (149, false))⟩,
 ⟨some 151, .move (.tmp 8), 38, (some (149, false))⟩,
 ⟨some 152, .move (.tmp 16), 3, (some (149, false))⟩,
 ⟨some 153, .indexAddr 38 (.tmp 151) (.tmp 152), 0, (some (149, false))⟩,
 ⟨some 154, .load 3 (.tmp 153), 3, (some (149, false))⟩,
 ⟨some 155, .lookup 40 (.tmp 150) (.tmp 154) false, 4, (some (149, false))⟩,
 ⟨some 156, .unOp .not 4 (.tmp 155), 4, (some (149, false))⟩,
 ⟨some 157, .move (.tmp 156), 4, (some (149, false))⟩,
 ⟨some 158, .move (.tmp 18), 28, (some (157, true))⟩,
 ⟨some 159, .binOp .neq 28 (.tmp 158) (.const (.int .i64 0)) 28, 4, (some (157, true))⟩,
 ⟨some 160, .move (.tmp 159), 4, (some (157, true))⟩,
 ⟨some 161, .move (.tmp 17), 9, (some (160, false))⟩,
 ⟨some 162, .move (.tmp 0), 36, (some (160, false))⟩,
 ⟨some 163, .move (.tmp 16), 3, (some (160, false))⟩,
 ⟨some 164, .indexAddr 36 (.tmp 162) (.tmp 163), 0, (some (160, false))⟩,
 ⟨some 165, .load 9 (.tmp 164), 9, (some (160, false))⟩,
 ⟨some 166, .call ⟨.value (.func 19), #[(.tmp 165)], #[9]⟩, 9, (some (160, false))⟩,
 ⟨some 167, .binOp .neq 9 (.tmp 161) (.tmp 166) 9, 4, (some (160, false))⟩,
 ⟨some 168, .pick (.tmp 160) (.const (.bool true)) (.tmp 167), 4, (some (157, true))⟩,
 ⟨some 169, .pick (.tmp 157) (.tmp 168) (.const (.bool false)), 4, (some (149, false))⟩,
 ⟨some 170, .pick (.tmp 149) (.const (.bool true)) (.tmp 169), 4, none⟩] [0, 7, 8, 13, 16, 170]) (sg c4S16))
noncomputable def c4S18 (_ : Unit) : Cmd := (.ops [
 ⟨some 128, .move (.tmp 16), 3, none⟩,
 ⟨some 129, .binOp .add 3 (.tmp 128) (.const (.int .i64 1)) 3, 3, none⟩,
 ⟨some 16, .assign (.tmp 129), 3, none⟩] [0, 7, 8, 13, 16])
noncomputable def c4S19 (_ : Unit) : Cmd := (.seq (.block 7 (.seq (.ops [
 ⟨some 131, .move (.tmp 7), 25, none⟩,
 ⟨some 132, .move (.tmp 8), 38, none⟩,
 ⟨some 133, .move (.tmp 16), 3, none⟩,
 ⟨some 134, .indexAddr 38 (.tmp 132) (.tmp 133), 0, none⟩,
 ⟨some 135, .load 3 (.tmp 134), 3, none⟩,
 ⟨some 136, .call ⟨.value (.func 18), #[(.tmp 131), (.tmp 135)], #[25, 3]⟩, 41, none⟩,
 ⟨some 130, .move (.tmp 136), 41, none⟩,
 ⟨some 137, .extract (.tmp 130) 0, 9, none⟩,
 ⟨some 138, .extract (.tmp 130) 1, 28, none⟩,
 ⟨some 17, .assign (.tmp 137), 9, none⟩,
 ⟨some 18, .assign (.tmp 138), 28, none⟩] [0, 7, 8, 13, 16, 17, 18]) (sg c4S17))) (sg c4S18))
noncomputable def c4L3 (_ : Unit) : Cmd := (.seq (.seq (.ops [
 ⟨some 124, .move (.tmp 16), 3, none⟩,
 ⟨some 125, .move (.tmp 8), 38, none⟩,
 ⟨some 126, .call ⟨.builtin .len, #[(.tmp 125)], #[38]⟩, 3, none⟩,
 ⟨some 127, .binOp .lss 3 (.tmp 124) (.tmp 126) 3, 4, none⟩] [0, 7, 8, 13, 16, 127])
 (.cond (.tmp 127)
  (.skip [0, 7, 8, 13, 16])
  (.exit 6 [7, 8, 13]))) (sg c4S19))
noncomputable def c4S20 (_ : Unit) : Cmd := .ret
noncomputable def c4S21 (_ : Unit) : Cmd := (.seq (.ops [
 ⟨some 171, .move (.tmp 7), 25, none⟩,
 ⟨some 172, .call ⟨.value (.func 14), #[(.tmp 171)], #[25]⟩, 3, none⟩,
 ⟨some 173, .move (.tmp 8), 38, none⟩,
 ⟨some 174, .call ⟨.builtin .len, #[(.tmp 173)], #[38]⟩, 3, none⟩,
 ⟨some 175, .binOp .sub 3 (.const (.int .i64 38)) (.tmp 174) 3, 3, none⟩,
 ⟨some 176, .move (.tmp 13), 40, none⟩,
 ⟨some 177, .call ⟨.builtin .len, #[(.tmp 176)], #[40]⟩, 3, none⟩,
 ⟨some 178, .binOp .add 3 (.tmp 175) (.tmp 177) 3, 3, none⟩,
 ⟨some 179, .binOp .eql 3 (.tmp 172) (.tmp 178) 3, 4, none⟩,
 ⟨some 180, .move (.tmp 179), 4, none⟩,
 ⟨some 181, .call ⟨.value (.func 16), #[], #[]⟩, 4, (some (180, true))⟩,
 ⟨some 182, .pick (.tmp 180) (.tmp 181) (.const (.bool false)), 4, none⟩,
 ⟨some 4, .assign (.tmp 182), 4, none⟩] [4]) (sg c4S20))
noncomputable def c4S22 (_ : Unit) : Cmd := (.seq (.seq (.ops [
 ⟨some 16, .assign (.const (.int .i64 0)), 3, none⟩] [0, 7, 8, 13, 16])
 (.block 6 (.loop (sg c4L3)))) (sg c4S21))
noncomputable def c4S23 (_ : Unit) : Cmd := (.seq (.ops [
 ⟨some 87, .makeMap 40 none, 40, none⟩,
 ⟨some 13, .assign (.tmp 87), 40, none⟩] [0, 1, 7, 8, 13])
 (.seq (.seq (.ops [
 ⟨some 14, .assign (.const (.int .i64 0)), 3, none⟩] [0, 1, 7, 8, 13, 14])
 (.block 4 (.loop (sg c4L2)))) (sg c4S22)))
noncomputable def c4S24 (_ : Unit) : Cmd := (.seq (.ops [
 ⟨some 8, .assign (.const (.slice none 0 0)), 38, none⟩] [0, 1, 7, 8])
 (.seq (.seq (.ops [
 ⟨some 9, .assign (.const (.int .i64 0)), 3, none⟩] [0, 1, 7, 8, 9])
 (.block 0 (.loop (sg c4L1)))) (sg c4S23)))
noncomputable def c4S25 (_ : Unit) : Cmd := (.seq (.seq (.ops [
 ⟨some 24, .move (.tmp 7), 25, none⟩,
 ⟨some 25, .binOp .eql 25 (.tmp 24) (.const (.pointer none)) 25, 4, none⟩,
 ⟨some 26, .move (.tmp 25), 4, none⟩,
 ⟨some 27, .move (.tmp 7), 25, (some (26, false))⟩,
 ⟨some 28, .call ⟨.value (.func 12), #[(.tmp 27)], #[25]⟩, 28, (some (26, false))⟩,
 ⟨some 29, .binOp .neq 28 (.tmp 28) (.const (.int .i64 0)) 28, 4, (some (26, false))⟩,
 ⟨some 30, .pick (.tmp 26) (.const (.bool true)) (.tmp 29), 4, none⟩] [0, 1, 7, 30]) (sg c4S0)) (sg c4S24))
noncomputable def c4 : Cmd := (.seq (.ops [
 ⟨some 4, .assign (.const (.bool false)), 4, none⟩] [0, 1])
 (.seq (.ops [
 ⟨some 20, .call ⟨.value (.func 11), #[(.const (.int .i64 40))], #[3]⟩, 26, none⟩,
 ⟨some 19, .move (.tmp 20), 26, none⟩,
 ⟨some 21, .extract (.tmp 19) 0, 23, none⟩,
 ⟨some 22, .extract (.tmp 19) 1, 24, none⟩,
 ⟨some 23, .extract (.tmp 19) 2, 25, none⟩,
 ⟨some 5, .assign (.tmp 21), 23, none⟩,
 ⟨some 6, .assign (.tmp 22), 24, none⟩,
 ⟨some 7, .assign (.tmp 23), 25, none⟩] [0, 1, 7]) (sg c4S25)))
@[go_sem] theorem go4 : goFunc Try.prog 4 = true := by kernel_rfl
noncomputable def c5S0 (_ : Unit) : Cmd := (.cond (.tmp 29)
  (.seq (.ops [
  ⟨some 6, .assign (.const (.bool false)), 4, none⟩] [6])
  .ret)
  (.skip [0, 1, 2, 9]))
noncomputable def c5S1 (_ : Unit) : Cmd := (.cond (.tmp 43)
  (.seq (.ops [
  ⟨some 6, .assign (.const (.bool false)), 4, none⟩] [6])
  .ret)
  (.skip [0, 1, 2, 9, 10, 12]))
noncomputable def c5S2 (_ : Unit) : Cmd := .ret
noncomputable def c5S3 (_ : Unit) : Cmd := (.seq (.ops [
 ⟨some 93, .move (.tmp 16), 28, none⟩,
 ⟨some 94, .binOp .eql 28 (.tmp 93) (.const (.int .i64 0)) 28, 4, none⟩,
 ⟨some 95, .move (.tmp 1), 3, none⟩,
 ⟨some 96, .binOp .geq 3 (.tmp 95) (.const (.int .i64 0)) 3, 4, none⟩,
 ⟨some 97, .move (.tmp 96), 4, none⟩,
 ⟨some 98, .move (.tmp 1), 3, (some (97, true))⟩,
 ⟨some 99, .binOp .lss 3 (.tmp 98) (.const (.int .i64 16)) 3, 4, (some (97, true))⟩,
 ⟨some 100, .pick (.tmp 97) (.tmp 99) (.const (.bool false)), 4, none⟩,
 ⟨some 101, .binOp .eql 4 (.tmp 94) (.tmp 100) 4, 4, none⟩,
 ⟨some 102, .move (.tmp 101), 4, none⟩,
 ⟨some 103, .move (.tmp 16), 28, (some (102, true))⟩,
 ⟨some 104, .binOp .neq 28 (.tmp 103) (.const (.int .i64 0)) 28, 4, (some (102, true))⟩,
 ⟨some 105, .move (.tmp 104), 4, (some (102, true))⟩,
 ⟨some 106, .move (.tmp 15), 3, (some (105, false))⟩,
 ⟨some 107, .move (.tmp 17), 3, (some (105, false))⟩,
 ⟨some 108, .binOp .eql 3 (.tmp 106) (.tmp 107) 3, 4, (some (105, false))⟩,
 ⟨some 109, .pick (.tmp 105) (.const (.bool true)) (.tmp 108), 4, (some (102, true))⟩,
 ⟨some 110, .pick (.tmp 102) (.tmp 109) (.const (.bool false)), 4, none⟩,
 ⟨some 111, .move (.tmp 110), 4, none⟩,
 ⟨some 112, .call ⟨.value (.func 16), #[], #[]⟩, 4, (some (111, true))⟩,
 ⟨some 113, .pick (.tmp 111) (.tmp 112) (.const (.bool false)), 4, none⟩,
 ⟨some 6, .assign (.tmp 113), 4, none⟩] [6]) (sg c5S2))
noncomputable def c5S4 (_ : Unit) : Cmd := (.seq (.seq (.ops [
 ⟨some 85, .move (.tmp 1), 3, none⟩,
 ⟨some 86, .move (.tmp 0), 3, none⟩,
 ⟨some 87, .binOp .eql 3 (.tmp 85) (.tmp 86) 3, 4, none⟩,
 ⟨some 88, .move (.tmp 87), 4, none⟩,
 ⟨some 89, .move (.tmp 14), 28, (some (88, true))⟩,
 ⟨some 90, .binOp .eql 28 (.tmp 89) (.const (.int .i64 0)) 28, 4, (some (88, true))⟩,
 ⟨some 91, .pick (.tmp 88) (.tmp 90) (.const (.bool false)), 4, none⟩] [1, 2, 15, 16, 17, 91])
 (.cond (.tmp 91)
  (.ops [
  ⟨some 92, .move (.tmp 2), 3, none⟩,
  ⟨some 17, .assign (.tmp 92), 3, none⟩] [1, 15, 16, 17])
  (.skip [1, 15, 16, 17]))) (sg c5S3))
noncomputable def c5S5 (_ : Unit) : Cmd := (.seq (.ops [
 ⟨some 17, .assign (.const (.int .i64 0)), 3, none⟩] [0, 1, 2, 10, 14, 15, 16, 17])
 (.seq (.seq (.ops [
 ⟨some 82, .move (.tmp 1), 3, none⟩,
 ⟨some 83, .binOp .eql 3 (.tmp 82) (.const (.int .i64 3)) 3, 4, none⟩] [0, 1, 2, 10, 14, 15, 16, 17, 83])
 (.cond (.tmp 83)
  (.ops [
  ⟨some 84, .move (.tmp 10), 3, none⟩,
  ⟨some 17, .assign (.tmp 84), 3, none⟩] [0, 1, 2, 14, 15, 16, 17])
  (.skip [0, 1, 2, 14, 15, 16, 17]))) (sg c5S4)))
noncomputable def c5S6 (_ : Unit) : Cmd := (.seq (.ops [
 ⟨some 77, .move (.tmp 9), 25, none⟩,
 ⟨some 78, .move (.tmp 1), 3, none⟩,
 ⟨some 79, .call ⟨.value (.func 21), #[(.tmp 77), (.tmp 78)], #[25, 3]⟩, 30, none⟩,
 ⟨some 76, .move (.tmp 79), 30, none⟩,
 ⟨some 80, .extract (.tmp 76) 0, 3, none⟩,
 ⟨some 81, .extract (.tmp 76) 1, 28, none⟩,
 ⟨some 15, .assign (.tmp 80), 3, none⟩,
 ⟨some 16, .assign (.tmp 81), 28, none⟩] [0, 1, 2, 10, 14, 15, 16]) (sg c5S5))
noncomputable def c5S7 (_ : Unit) : Cmd := (.seq (.seq (.ops [
 ⟨some 57, .move (.tmp 14), 28, none⟩,
 ⟨some 58, .binOp .neq 28 (.tmp 57) (.const (.int .i64 1)) 28, 4, none⟩,
 ⟨some 59, .move (.tmp 58), 4, none⟩,
 ⟨some 60, .move (.tmp 14), 28, (some (59, true))⟩,
 ⟨some 61, .binOp .eql 28 (.tmp 60) (.const (.int .i64 0)) 28, 4, (some (59, true))⟩,
 ⟨some 62, .move (.tmp 2), 3, (some (59, true))⟩,
 ⟨some 63, .binOp .eql 3 (.tmp 62) (.const (.int .i64 0)) 3, 4, (some (59, true))⟩,
 ⟨some 64, .move (.tmp 63), 4, (some (59, true))⟩,
 ⟨some 65, .move (.tmp 2), 3, (some (64, false))⟩,
 ⟨some 66, .move (.tmp 10), 3, (some (64, false))⟩,
 ⟨some 67, .binOp .eql 3 (.tmp 65) (.tmp 66) 3, 4, (some (64, false))⟩,
 ⟨some 68, .pick (.tmp 64) (.const (.bool true)) (.tmp 67), 4, (some (59, true))⟩,
 ⟨some 69, .move (.tmp 68), 4, (some (59, true))⟩,
 ⟨some 70, .move (.tmp 2), 3, (some (69, false))⟩,
 ⟨some 71, .move (.tmp 12), 3, (some (69, false))⟩,
 ⟨some 72, .binOp .eql 3 (.tmp 70) (.tmp 71) 3, 4, (some (69, false))⟩,
 ⟨some 73, .pick (.tmp 69) (.const (.bool true)) (.tmp 72), 4, (some (59, true))⟩,
 ⟨some 74, .binOp .neq 4 (.tmp 61) (.tmp 73) 4, 4, (some (59, true))⟩,
 ⟨some 75, .pick (.tmp 59) (.tmp 74) (.const (.bool false)), 4, none⟩] [0, 1, 2, 9, 10, 14, 75])
 (.cond (.tmp 75)
  (.seq (.ops [
  ⟨some 6, .assign (.const (.bool false)), 4, none⟩] [6])
  .ret)
  (.skip [0, 1, 2, 9, 10, 14]))) (sg c5S6))
noncomputable def c5S8 (_ : Unit) : Cmd := (.seq (.seq (.ops [
 ⟨some 48, .move (.tmp 0), 3, none⟩,
 ⟨some 49, .binOp .lss 3 (.tmp 48) (.const (.int .i64 0)) 3, 4, none⟩,
 ⟨some 50, .move (.tmp 49), 4, none⟩,
 ⟨some 51, .move (.tmp 0), 3, (some (50, false))⟩,
 ⟨some 52, .binOp .gtr 3 (.tmp 51) (.const (.int .i64 15)) 3, 4, (some (50, false))⟩,
 ⟨some 53, .pick (.tmp 50) (.const (.bool true)) (.tmp 52), 4, none⟩,
 ⟨some 54, .move (.tmp 14), 28, none⟩,
 ⟨some 55, .binOp .eql 28 (.tmp 54) (.const (.int .i64 1)) 28, 4, none⟩,
 ⟨some 56, .binOp .neq 4 (.tmp 53) (.tmp 55) 4, 4, none⟩] [0, 1, 2, 9, 10, 12, 14, 56])
 (.cond (.tmp 56)
  (.seq (.ops [
  ⟨some 6, .assign (.const (.bool false)), 4, none⟩] [6])
  .ret)
  (.skip [0, 1, 2, 9, 10, 12, 14]))) (sg c5S7))
noncomputable def c5S9 (_ : Unit) : Cmd := (.seq (.ops [
 ⟨some 44, .move (.tmp 9), 25, none⟩,
 ⟨some 45, .move (.tmp 0), 3, none⟩,
 ⟨some 46, .move (.tmp 2), 3, none⟩,
 ⟨some 47, .call ⟨.value (.func 20), #[(.tmp 44), (.tmp 45), (.tmp 46)], #[25, 3, 3]⟩, 28, none⟩,
 ⟨some 14, .assign (.tmp 47), 28, none⟩] [0, 1, 2, 9, 10, 12, 14]) (sg c5S8))
noncomputable def c5S10 (_ : Unit) : Cmd := (.seq (.seq (.ops [
 ⟨some 40, .move (.tmp 9), 25, none⟩,
 ⟨some 41, .move (.tmp 10), 3, none⟩,
 ⟨some 42, .call ⟨.value (.func 20), #[(.tmp 40), (.const (.int .i64 3)), (.tmp 41)], #[25, 3, 3]⟩, 28, none⟩,
 ⟨some 43, .binOp .neq 28 (.tmp 42) (.const (.int .i64 0)) 28, 4, none⟩] [0, 1, 2, 9, 10, 12, 43]) (sg c5S1)) (sg c5S9))
noncomputable def c5S11 (_ : Unit) : Cmd := (.seq (.ops [
 ⟨some 36, .move (.tmp 9), 25, none⟩,
 ⟨some 37, .call ⟨.value (.func 13), #[(.tmp 36)], #[25]⟩, 30, none⟩,
 ⟨some 35, .move (.tmp 37), 30, none⟩,
 ⟨some 38, .extract (.tmp 35) 0, 3, none⟩,
 ⟨some 39, .extract (.tmp 35) 1, 28, none⟩,
 ⟨some 12, .assign (.tmp 38), 3, none⟩,
 ⟨some 13, .assign (.tmp 39), 28, none⟩] [0, 1, 2, 9, 10, 12]) (sg c5S10))
noncomputable def c5S12 (_ : Unit) : Cmd := (.seq (.ops [
 ⟨some 31, .move (.tmp 9), 25, none⟩,
 ⟨some 32, .call ⟨.value (.func 13), #[(.tmp 31)], #[25]⟩, 30, none⟩,
 ⟨some 30, .move (.tmp 32), 30, none⟩,
 ⟨some 33, .extract (.tmp 30) 0, 3, none⟩,
 ⟨some 34, .extract (.tmp 30) 1, 28, none⟩,
 ⟨some 10, .assign (.tmp 33), 3, none⟩,
 ⟨some 11, .assign (.tmp 34), 28, none⟩] [0, 1, 2, 9, 10]) (sg c5S11))
noncomputable def c5S13 (_ : Unit) : Cmd := (.seq (.seq (.ops [
 ⟨some 23, .move (.tmp 9), 25, none⟩,
 ⟨some 24, .binOp .eql 25 (.tmp 23) (.const (.pointer none)) 25, 4, none⟩,
 ⟨some 25, .move (.tmp 24), 4, none⟩,
 ⟨some 26, .move (.tmp 9), 25, (some (25, false))⟩,
 ⟨some 27, .call ⟨.value (.func 12), #[(.tmp 26)], #[25]⟩, 28, (some (25, false))⟩,
 ⟨some 28, .binOp .neq 28 (.tmp 27) (.const (.int .i64 0)) 28, 4, (some (25, false))⟩,
 ⟨some 29, .pick (.tmp 25) (.const (.bool true)) (.tmp 28), 4, none⟩] [0, 1, 2, 9, 29]) (sg c5S0)) (sg c5S12))
noncomputable def c5 : Cmd := (.seq (.ops [
 ⟨some 6, .assign (.const (.bool false)), 4, none⟩] [0, 1, 2])
 (.seq (.ops [
 ⟨some 19, .call ⟨.value (.func 11), #[(.const (.int .i64 9))], #[3]⟩, 26, none⟩,
 ⟨some 18, .move (.tmp 19), 26, none⟩,
 ⟨some 20, .extract (.tmp 18) 0, 23, none⟩,
 ⟨some 21, .extract (.tmp 18) 1, 24, none⟩,
 ⟨some 22, .extract (.tmp 18) 2, 25, none⟩,
 ⟨some 7, .assign (.tmp 20), 23, none⟩,
 ⟨some 8, .assign (.tmp 21), 24, none⟩,
 ⟨some 9, .assign (.tmp 22), 25, none⟩] [0, 1, 2, 9]) (sg c5S13)))
@[go_sem] theorem go5 : goFunc Try.prog 5 = true := by kernel_rfl
noncomputable def c6code : Code := match Try.f6.body with | some c => c | none => .skip
noncomputable def c6S0 (_ : Unit) : Cmd := (.ops [
 ⟨some 37, .move (.tmp 9), 3, none⟩,
 ⟨some 38, .binOp .add 3 (.tmp 37) (.const (.int .i64 1)) 3, 3, none⟩,
 ⟨some 9, .assign (.tmp 38), 3, none⟩] [1, 6, 7, 8, 9])
noncomputable def c6S1 (_ : Unit) : Cmd := (.seq (.block 1 (.seq (.ops [
 ⟨some 39, .move (.tmp 1), 48, none⟩,
 ⟨some 40, .move (.tmp 9), 3, none⟩,
 ⟨some 41, .indexAddr 48 (.tmp 39) (.tmp 40), 0, none⟩,
 ⟨some 42, .fieldAddr 54 (.tmp 41) 0, 0, none⟩,
 ⟨some 43, .load 3 (.tmp 42), 3, none⟩,
 ⟨some 44, .binOp .geq 3 (.tmp 43) (.const (.int .i64 0)) 3, 4, none⟩,
 ⟨some 45, .move (.tmp 44), 4, none⟩,
 ⟨some 46, .move (.tmp 1), 48, (some (45, true))⟩,
 ⟨some 47, .move (.tmp 9), 3, (some (45, true))⟩,
 ⟨some 48, .indexAddr 48 (.tmp 46) (.tmp 47), 0, (some (45, true))⟩,
 ⟨some 49, .fieldAddr 54 (.tmp 48) 0, 0, (some (45, true))⟩,
 ⟨some 50, .load 3 (.tmp 49), 3, (some (45, true))⟩,
 ⟨some 51, .move (.tmp 8), 36, (some (45, true))⟩,
 ⟨some 52, .call ⟨.builtin .len, #[(.tmp 51)], #[36]⟩, 3, (some (45, true))⟩,
 ⟨some 53, .binOp .lss 3 (.tmp 50) (.tmp 52) 3, 4, (some (45, true))⟩,
 ⟨some 54, .pick (.tmp 45) (.tmp 53) (.const (.bool false)), 4, none⟩,
 ⟨some 55, .move (.tmp 54), 4, none⟩,
 ⟨some 56, .move (.tmp 1), 48, (some (55, true))⟩,
 ⟨some 57, .move (.tmp 9), 3, (some (55, true))⟩,
 ⟨some 58, .indexAddr 48 (.tmp 56) (.tmp 57), 0, (some (55, true))⟩,
 ⟨some 59, .fieldAddr 54 (.tmp 58) 1, 0, (some (55, true))⟩,
 ⟨some 60, .load 9 (.tmp 59), 9, (some (55, true))⟩,
 ⟨some 61, .call ⟨.builtin .len, #[(.tmp 60)], #[9]⟩, 3, (some (55, true))⟩,
 ⟨some 62, .binOp .leq 3 (.tmp 61) (.const (.int .i64 256)) 3, 4, (some (55, true))⟩,
 ⟨some 63, .pick (.tmp 55) (.tmp 62) (.const (.bool false)), 4, none⟩] [1, 6, 7, 8, 9, 63])
 (.cond (.tmp 63)
  (.draw (drawOps 0 c6code) [1, 6, 7, 8, 9])
  (.skip [1, 6, 7, 8, 9])))) (sg c6S0))
noncomputable def c6L0 (_ : Unit) : Cmd := (.seq (.seq (.ops [
 ⟨some 29, .move (.tmp 9), 3, none⟩,
 ⟨some 30, .move (.tmp 1), 48, none⟩,
 ⟨some 31, .call ⟨.builtin .len, #[(.tmp 30)], #[48]⟩, 3, none⟩,
 ⟨some 32, .binOp .lss 3 (.tmp 29) (.tmp 31) 3, 4, none⟩,
 ⟨some 33, .move (.tmp 32), 4, none⟩,
 ⟨some 34, .move (.tmp 9), 3, (some (33, true))⟩,
 ⟨some 35, .binOp .lss 3 (.tmp 34) (.const (.int .i64 30)) 3, 4, (some (33, true))⟩,
 ⟨some 36, .pick (.tmp 33) (.tmp 35) (.const (.bool false)), 4, none⟩] [1, 6, 7, 8, 9, 36])
 (.cond (.tmp 36)
  (.skip [1, 6, 7, 8, 9])
  (.exit 0 [6, 7, 8]))) (sg c6S1))
noncomputable def c6S2 (_ : Unit) : Cmd := (.cond (.tmp 86)
  (.seq (.ops [
  ⟨some 4, .assign (.const (.bool false)), 4, none⟩] [4])
  .ret)
  (.skip [6, 7]))
noncomputable def c6S3 (_ : Unit) : Cmd := .ret
noncomputable def c6S4 (_ : Unit) : Cmd := (.seq (.ops [
 ⟨some 89, .move (.tmp 6), 24, none⟩,
 ⟨some 90, .call ⟨.value (.func 25), #[(.tmp 89)], #[24]⟩, 36, none⟩,
 ⟨some 91, .move (.tmp 7), 36, none⟩,
 ⟨some 92, .call ⟨.value (.func 26), #[(.tmp 90), (.tmp 91)], #[36, 36]⟩, 4, none⟩,
 ⟨some 93, .move (.tmp 92), 4, none⟩,
 ⟨some 94, .move (.tmp 6), 24, (some (93, true))⟩,
 ⟨some 95, .call ⟨.value (.func 24), #[(.tmp 94)], #[24]⟩, 28, (some (93, true))⟩,
 ⟨some 96, .binOp .eql 28 (.tmp 95) (.const (.int .i64 0)) 28, 4, (some (93, true))⟩,
 ⟨some 97, .pick (.tmp 93) (.tmp 96) (.const (.bool false)), 4, none⟩,
 ⟨some 98, .move (.tmp 97), 4, none⟩,
 ⟨some 99, .move (.tmp 6), 24, (some (98, true))⟩,
 ⟨some 100, .call ⟨.value (.func 25), #[(.tmp 99)], #[24]⟩, 36, (some (98, true))⟩,
 ⟨some 101, .move (.tmp 7), 36, (some (98, true))⟩,
 ⟨some 102, .call ⟨.value (.func 26), #[(.tmp 100), (.tmp 101)], #[36, 36]⟩, 4, (some (98, true))⟩,
 ⟨some 103, .pick (.tmp 98) (.tmp 102) (.const (.bool false)), 4, none⟩,
 ⟨some 104, .move (.tmp 103), 4, none⟩,
 ⟨some 105, .call ⟨.value (.func 28), #[], #[]⟩, 4, (some (104, true))⟩,
 ⟨some 106, .pick (.tmp 104) (.tmp 105) (.const (.bool false)), 4, none⟩,
 ⟨some 4, .assign (.tmp 106), 4, none⟩] [4]) (sg c6S3))
noncomputable def c6S5 (_ : Unit) : Cmd := (.seq (.ops [
 ⟨some 87, .move (.tmp 6), 24, none⟩,
 ⟨some 88, .call ⟨.value (.func 27), #[(.tmp 87)], #[24]⟩, 0, none⟩] [6, 7]) (sg c6S4))
noncomputable def c6S6 (_ : Unit) : Cmd := (.seq (.seq (.ops [
 ⟨some 77, .move (.tmp 7), 36, none⟩,
 ⟨some 78, .call ⟨.builtin .len, #[(.tmp 77)], #[36]⟩, 3, none⟩,
 ⟨some 79, .binOp .neq 3 (.tmp 78) (.const (.int .i64 8)) 3, 4, none⟩,
 ⟨some 80, .move (.tmp 79), 4, none⟩,
 ⟨some 81, .move (.tmp 6), 24, (some (80, false))⟩,
 ⟨some 82, .call ⟨.value (.func 25), #[(.tmp 81)], #[24]⟩, 36, (some (80, false))⟩,
 ⟨some 83, .move (.tmp 8), 36, (some (80, false))⟩,
 ⟨some 84, .call ⟨.value (.func 26), #[(.tmp 82), (.tmp 83)], #[36, 36]⟩, 4, (some (80, false))⟩,
 ⟨some 85, .unOp .not 4 (.tmp 84), 4, (some (80, false))⟩,
 ⟨some 86, .pick (.tmp 80) (.const (.bool true)) (.tmp 85), 4, none⟩] [6, 7, 86]) (sg c6S2)) (sg c6S5))
noncomputable def c6S7 (_ : Unit) : Cmd := (.seq (.seq (.ops [
 ⟨some 9, .assign (.const (.int .i64 0)), 3, none⟩] [1, 6, 7, 8, 9])
 (.block 0 (.loop (sg c6L0)))) (sg c6S6))
noncomputable def c6S8 (_ : Unit) : Cmd := (.seq (.ops [
 ⟨some 26, .buildSlice 36 0 #[], 36, none⟩,
 ⟨some 27, .move (.tmp 7), 36, none⟩,
 ⟨some 28, .call ⟨.builtin .append, #[(.tmp 26), (.tmp 27)], #[36, 36]⟩, 36, none⟩,
 ⟨some 8, .assign (.tmp 28), 36, none⟩] [1, 6, 7, 8]) (sg c6S7))
noncomputable def c6S9 (_ : Unit) : Cmd := (.seq (.ops [
 ⟨some 23, .move (.tmp 6), 24, none⟩,
 ⟨some 24, .move (.tmp 1), 48, none⟩,
 ⟨some 25, .call ⟨.value (.func 23), #[(.tmp 23), (.tmp 24)], #[24, 48]⟩, 0, none⟩] [1, 6, 7]) (sg c6S8))
noncomputable def c6S10 (_ : Unit) : Cmd := (.seq (.ops [
 ⟨some 21, .move (.tmp 6), 24, none⟩,
 ⟨some 22, .call ⟨.value (.func 25), #[(.tmp 21)], #[24]⟩, 36, none⟩,
 ⟨some 7, .assign (.tmp 22), 36, none⟩] [1, 6, 7]) (sg c6S9))
noncomputable def c6S11 (_ : Unit) : Cmd := (.seq (.ops [
 ⟨some 19, .move (.tmp 6), 24, none⟩,
 ⟨some 20, .call ⟨.value (.func 24), #[(.tmp 19)], #[24]⟩, 28, none⟩] [1, 6]) (sg c6S10))
noncomputable def c6S12 (_ : Unit) : Cmd := (.seq (.ops [
 ⟨some 16, .move (.tmp 6), 24, none⟩,
 ⟨some 17, .move (.tmp 0), 48, none⟩,
 ⟨some 18, .call ⟨.value (.func 23), #[(.tmp 16), (.tmp 17)], #[24, 48]⟩, 0, none⟩] [1, 6]) (sg c6S11))
noncomputable def c6S13 (_ : Unit) : Cmd := (.seq (.seq (.ops [
 ⟨some 14, .move (.tmp 6), 24, none⟩,
 ⟨some 15, .binOp .eql 24 (.tmp 14) (.const (.pointer none)) 24, 4, none⟩] [0, 1, 6, 15])
 (.cond (.tmp 15)
  (.seq (.ops [
  ⟨some 4, .assign (.const (.bool false)), 4, none⟩] [4])
  .ret)
  (.skip [0, 1, 6]))) (sg c6S12))
noncomputable def c6 : Cmd := (.seq (.ops [
 ⟨some 4, .assign (.const (.bool false)), 4, none⟩] [0, 1])
 (.seq (.ops [
 ⟨some 11, .call ⟨.value (.func 22), #[(.const (.int .i64 40)), (.const (.int .i64 30))], #[3, 3]⟩, 49, none⟩,
 ⟨some 10, .move (.tmp 11), 49, none⟩,
 ⟨some 12, .extract (.tmp 10) 0, 23, none⟩,
 ⟨some 13, .extract (.tmp 10) 1, 24, none⟩,
 ⟨some 5, .assign (.tmp 12), 23, none⟩,
 ⟨some 6, .assign (.tmp 13), 24, none⟩] [0, 1, 6]) (sg c6S13)))
@[go_sem] theorem go6 : goFunc Try.prog 6 = true := by kernel_rfl
@[go_sem] theorem go7 : goFunc Try.prog 7 = true := by kernel_rfl
@[go_sem] theorem go8 : goFunc Try.prog 8 = true := by kernel_rfl
noncomputable def c9S0 (_ : Unit) : Cmd := .ret
noncomputable def c9S1 (_ : Unit) : Cmd := (.cond (.tmp 42)
  (.seq (.ops [
  ⟨some 43, .move (.tmp 11), 28, none⟩,
  ⟨some 44, .binOp .eql 28 (.tmp 43) (.const (.int .i64 12)) 28, 4, none⟩,
  ⟨some 45, .move (.tmp 44), 4, none⟩,
  ⟨some 46, .move (.tmp 7), 24, (some (45, true))⟩,
  ⟨some 47, .call ⟨.value (.func 25), #[(.tmp 46)], #[24]⟩, 36, (some (45, true))⟩,
  ⟨some 48, .move (.tmp 8), 36, (some (45, true))⟩,
  ⟨some 49, .call ⟨.value (.func 26), #[(.tmp 47), (.tmp 48)], #[36, 36]⟩, 4, (some (45, true))⟩,
  ⟨some 50, .pick (.tmp 45) (.tmp 49) (.const (.bool false)), 4, none⟩,
  ⟨some 51, .move (.tmp 50), 4, none⟩,
  ⟨some 52, .move (.tmp 7), 24, (some (51, true))⟩,
  ⟨some 53, .call ⟨.value (.func 32), #[(.tmp 52)], #[24]⟩, 38, (some (51, true))⟩,
  ⟨some 54, .call ⟨.builtin .len, #[(.tmp 53)], #[38]⟩, 3, (some (51, true))⟩,
  ⟨some 55, .binOp .eql 3 (.tmp 54) (.const (.int .i64 0)) 3, 4, (some (51, true))⟩,
  ⟨some 56, .pick (.tmp 51) (.tmp 55) (.const (.bool false)), 4, none⟩,
  ⟨some 57, .move (.tmp 56), 4, none⟩,
  ⟨some 58, .call ⟨.value (.func 28), #[], #[]⟩, 4, (some (57, true))⟩,
  ⟨some 59, .pick (.tmp 57) (.tmp 58) (.const (.bool false)), 4, none⟩,
  ⟨some 4, .assign (.tmp 59), 4, none⟩] [4]) (sg c9S0))
  (.skip [7, 10, 11]))
noncomputable def c9S2 (_ : Unit) : Cmd := .ret
noncomputable def c9S3 (_ : Unit) : Cmd := (.seq (.ops [
 ⟨some 60, .move (.tmp 11), 28, none⟩,
 ⟨some 61, .binOp .eql 28 (.tmp 60) (.const (.int .i64 0)) 28, 4, none⟩,
 ⟨some 62, .move (.tmp 61), 4, none⟩,
 ⟨some 63, .move (.tmp 7), 24, (some (62, true))⟩,
 ⟨some 64, .call ⟨.value (.func 25), #[(.tmp 63)], #[24]⟩, 36, (some (62, true))⟩,
 ⟨some 65, .move (.tmp 10), 36, (some (62, true))⟩,
 ⟨some 66, .call ⟨.value (.func 26), #[(.tmp 64), (.tmp 65)], #[36, 36]⟩, 4, (some (62, true))⟩,
 ⟨some 67, .pick (.tmp 62) (.tmp 66) (.const (.bool false)), 4, none⟩,
 ⟨some 68, .move (.tmp 67), 4, none⟩,
 ⟨some 69, .call ⟨.value (.func 28), #[], #[]⟩, 4, (some (68, true))⟩,
 ⟨some 70, .pick (.tmp 68) (.tmp 69) (.const (.bool false)), 4, none⟩,
 ⟨some 4, .assign (.tmp 70), 4, none⟩] [4]) (sg c9S2))
noncomputable def c9S4 (_ : Unit) : Cmd := (.seq (.seq (.ops [
 ⟨some 35, .move (.tmp 9), 3, none⟩,
 ⟨some 36, .binOp .gtr 3 (.tmp 35) (.const (.int .i64 0)) 3, 4, none⟩,
 ⟨some 37, .move (.tmp 36), 4, none⟩,
 ⟨some 38, .move (.tmp 9), 3, (some (37, true))⟩,
 ⟨some 39, .call ⟨.value (.func 33), #[(.tmp 38)], #[3]⟩, 3, (some (37, true))⟩,
 ⟨some 40, .move (.tmp 5), 3, (some (37, true))⟩,
 ⟨some 41, .binOp .gtr 3 (.tmp 39) (.tmp 40) 3, 4, (some (37, true))⟩,
 ⟨some 42, .pick (.tmp 37) (.tmp 41) (.const (.bool false)), 4, none⟩] [7, 8, 10, 11, 42]) (sg c9S1)) (sg c9S3))
noncomputable def c9S5 (_ : Unit) : Cmd := (.seq (.ops [
 ⟨some 33, .move (.tmp 7), 24, none⟩,
 ⟨some 34, .call ⟨.value (.func 24), #[(.tmp 33)], #[24]⟩, 28, none⟩,
 ⟨some 11, .assign (.tmp 34), 28, none⟩] [5, 7, 8, 9, 10, 11]) (sg c9S4))
noncomputable def c9S6 (_ : Unit) : Cmd := (.seq (.ops [
 ⟨some 31, .move (.tmp 7), 24, none⟩,
 ⟨some 32, .call ⟨.value (.func 25), #[(.tmp 31)], #[24]⟩, 36, none⟩,
 ⟨some 10, .assign (.tmp 32), 36, none⟩] [5, 7, 8, 9, 10]) (sg c9S5))
noncomputable def c9S7 (_ : Unit) : Cmd := (.seq (.ops [
 ⟨some 28, .move (.tmp 7), 24, none⟩,
 ⟨some 29, .call ⟨.value (.func 32), #[(.tmp 28)], #[24]⟩, 38, none⟩,
 ⟨some 30, .call ⟨.builtin .len, #[(.tmp 29)], #[38]⟩, 3, none⟩,
 ⟨some 9, .assign (.tmp 30), 3, none⟩] [5, 7, 8, 9]) (sg c9S6))
noncomputable def c9S8 (_ : Unit) : Cmd := (.seq (.ops [
 ⟨some 25, .move (.tmp 7), 24, none⟩,
 ⟨some 26, .move (.tmp 1), 48, none⟩,
 ⟨some 27, .call ⟨.value (.func 23), #[(.tmp 25), (.tmp 26)], #[24, 48]⟩, 0, none⟩] [5, 7, 8]) (sg c9S7))
noncomputable def c9S9 (_ : Unit) : Cmd := (.seq (.ops [
 ⟨some 23, .move (.tmp 7), 24, none⟩,
 ⟨some 24, .call ⟨.value (.func 25), #[(.tmp 23)], #[24]⟩, 36, none⟩,
 ⟨some 8, .assign (.tmp 24), 36, none⟩] [1, 5, 7, 8]) (sg c9S8))
noncomputable def c9S10 (_ : Unit) : Cmd := (.seq (.seq (.ops [
 ⟨some 21, .move (.tmp 7), 24, none⟩,
 ⟨some 22, .binOp .eql 24 (.tmp 21) (.const (.pointer none)) 24, 4, none⟩] [1, 5, 7, 22])
 (.cond (.tmp 22)
  (.seq (.ops [
  ⟨some 4, .assign (.const (.bool false)), 4, none⟩] [4])
  .ret)
  (.skip [1, 5, 7]))) (sg c9S9))
noncomputable def c9 : Cmd := (.seq (.ops [
 ⟨some 4, .assign (.const (.bool false)), 4, none⟩] [0, 1])
 (.seq (.ops [
 ⟨some 12, .move (.tmp 0), 5, none⟩,
 ⟨some 13, .binOp .rem 5 (.tmp 12) (.const (.int .u8 12)) 5, 5, none⟩,
 ⟨some 14, .convert 5 3 (.tmp 13), 3, none⟩,
 ⟨some 15, .binOp .add 3 (.tmp 14) (.const (.int .i64 1)) 3, 3, none⟩,
 ⟨some 5, .assign (.tmp 15), 3, none⟩] [1, 5])
 (.seq (.ops [
 ⟨some 17, .move (.tmp 5), 3, none⟩,
 ⟨some 18, .call ⟨.value (.func 22), #[(.const (.int .i64 40)), (.tmp 17)], #[3, 3]⟩, 49, none⟩,
 ⟨some 16, .move (.tmp 18), 49, none⟩,
 ⟨some 19, .extract (.tmp 16) 0, 23, none⟩,
 ⟨some 20, .extract (.tmp 16) 1, 24, none⟩,
 ⟨some 6, .assign (.tmp 19), 23, none⟩,
 ⟨some 7, .assign (.tmp 20), 24, none⟩] [1, 5, 7]) (sg c9S10))))
@[go_sem] theorem go9 : goFunc Try.prog 9 = true := by kernel_rfl
noncomputable def c10code : Code := match Try.f10.body with | some c => c | none => .skip
noncomputable def c10S0 (_ : Unit) : Cmd := (.cond (.tmp 66)
  (.seq (.ops [
  ⟨some 2, .assign (.const (.bool false)), 4, none⟩] [2])
  .ret)
  (.skip [1, 17, 18, 19]))
noncomputable def c10S1 (_ : Unit) : Cmd := (.seq (.ops [
 ⟨some 40, .move (.tmp 5), 9, none⟩,
 ⟨some 41, .binOp .neq 9 (.tmp 40) (.const (.string (ofL []))) 9, 4, none⟩,
 ⟨some 42, .move (.tmp 41), 4, none⟩,
 ⟨some 43, .move (.tmp 6), 28, (some (42, false))⟩,
 ⟨some 44, .binOp .neq 28 (.tmp 43) (.const (.int .i64 3)) 28, 4, (some (42, false))⟩,
 ⟨some 45, .pick (.tmp 42) (.const (.bool true)) (.tmp 44), 4, none⟩,
 ⟨some 46, .move (.tmp 45), 4, none⟩,
 ⟨some 47, .move (.tmp 7), 28, (some (46, false))⟩,
 ⟨some 48, .move (.tmp 6), 28, (some (46, false))⟩,
 ⟨some 49, .binOp .neq 28 (.tmp 47) (.tmp 48) 28, 4, (some (46, false))⟩,
 ⟨some 50, .pick (.tmp 46) (.const (.bool true)) (.tmp 49), 4, none⟩,
 ⟨some 51, .move (.tmp 50), 4, none⟩,
 ⟨some 52, .move (.tmp 8), 28, (some (51, false))⟩,
 ⟨some 53, .move (.tmp 6), 28, (some (51, false))⟩,
 ⟨some 54, .binOp .neq 28 (.tmp 52) (.tmp 53) 28, 4, (some (51, false))⟩,
 ⟨some 55, .pick (.tmp 51) (.const (.bool true)) (.tmp 54), 4, none⟩,
 ⟨some 56, .move (.tmp 55), 4, none⟩,
 ⟨some 57, .move (.tmp 4), 24, (some (56, false))⟩,
 ⟨some 58, .call ⟨.value (.func 36), #[(.tmp 57)], #[24]⟩, 3, (some (56, false))⟩,
 ⟨some 59, .binOp .neq 3 (.tmp 58) (.const (.int .i64 0)) 3, 4, (some (56, false))⟩,
 ⟨some 60, .pick (.tmp 56) (.const (.bool true)) (.tmp 59), 4, none⟩,
 ⟨some 61, .move (.tmp 60), 4, none⟩,
 ⟨some 62, .move (.tmp 4), 24, (some (61, false))⟩,
 ⟨some 63, .call ⟨.value (.func 32), #[(.tmp 62)], #[24]⟩, 38, (some (61, false))⟩,
 ⟨some 64, .call ⟨.builtin .len, #[(.tmp 63)], #[38]⟩, 3, (some (61, false))⟩,
 ⟨some 65, .binOp .neq 3 (.tmp 64) (.const (.int .i64 0)) 3, 4, (some (61, false))⟩,
 ⟨some 66, .pick (.tmp 61) (.const (.bool true)) (.tmp 65), 4, none⟩] [1, 17, 18, 19, 66]) (sg c10S0))
noncomputable def c10S2 (_ : Unit) : Cmd := (.seq (.ops [
 ⟨some 38, .move (.tmp 4), 24, none⟩,
 ⟨some 39, .call ⟨.value (.func 27), #[(.tmp 38)], #[24]⟩, 0, none⟩] [1, 4, 5, 6, 7, 8, 17, 18, 19]) (sg c10S1))
noncomputable def c10S3 (_ : Unit) : Cmd := (.seq (.ops [
 ⟨some 36, .move (.tmp 4), 24, none⟩,
 ⟨some 37, .call ⟨.value (.func 24), #[(.tmp 36)], #[24]⟩, 28, none⟩,
 ⟨some 8, .assign (.tmp 37), 28, none⟩] [1, 4, 5, 6, 7, 8, 17, 18, 19]) (sg c10S2))
noncomputable def c10S4 (_ : Unit) : Cmd := (.seq (.ops [
 ⟨some 30, .move (.tmp 4), 24, none⟩,
 ⟨some 31, .fieldAddr 71 (.tmp 1) 1, 0, none⟩,
 ⟨some 32, .load 3 (.tmp 31), 3, none⟩,
 ⟨some 33, .fieldAddr 71 (.tmp 1) 2, 0, none⟩,
 ⟨some 34, .load 9 (.tmp 33), 9, none⟩,
 ⟨some 35, .call ⟨.value (.func 35), #[(.tmp 30), (.tmp 32), (.tmp 34)], #[24, 3, 9]⟩, 28, none⟩,
 ⟨some 7, .assign (.tmp 35), 28, none⟩] [1, 4, 5, 6, 7, 17, 18, 19]) (sg c10S3))
noncomputable def c10S5 (_ : Unit) : Cmd := (.ops [
 ⟨some 67, .binOp .add 3 (.tmp 19) (.const (.int .i64 1)) 3, 3, none⟩,
 ⟨some 19, .move (.tmp 67), 3, none⟩] [1, 17, 18, 19])
noncomputable def c10S6 (_ : Unit) : Cmd := (.seq (.block 1 (.seq (.ops [
 ⟨some 21, .indexAddr 77 (.tmp 17) (.tmp 19), 0, none⟩,
 ⟨some 22, .load 24 (.tmp 21), 24, none⟩,
 ⟨some 4, .assign (.tmp 22), 24, none⟩] [1, 4, 17, 18, 19])
 (.seq (.ops [
 ⟨some 24, .move (.tmp 4), 24, none⟩,
 ⟨some 25, .fieldAddr 71 (.tmp 1) 1, 0, none⟩,
 ⟨some 26, .load 3 (.tmp 25), 3, none⟩,
 ⟨some 27, .call ⟨.value (.func 34), #[(.tmp 24), (.tmp 26)], #[24, 3]⟩, 41, none⟩,
 ⟨some 23, .move (.tmp 27), 41, none⟩,
 ⟨some 28, .extract (.tmp 23) 0, 9, none⟩,
 ⟨some 29, .extract (.tmp 23) 1, 28, none⟩,
 ⟨some 5, .assign (.tmp 28), 9, none⟩,
 ⟨some 6, .assign (.tmp 29), 28, none⟩] [1, 4, 5, 6, 17, 18, 19]) (sg c10S4)))) (sg c10S5))
noncomputable def c10L0 (_ : Unit) : Cmd := (.seq (.ops [
 ⟨some 20, .binOp .lss 3 (.tmp 19) (.tmp 18) 3, 0, none⟩] [1, 17, 18, 19, 20])
 (.seq (.cond (.tmp 20)
  (.skip [1, 17, 18, 19])
  (.exit 0 [])) (sg c10S6)))
noncomputable def c10S7 (_ : Unit) : Cmd := .ret
noncomputable def c10S8 (_ : Unit) : Cmd := (.seq (.ops [
 ⟨some 81, .move (.tmp 10), 28, none⟩,
 ⟨some 82, .binOp .eql 28 (.tmp 81) (.const (.int .i64 0)) 28, 4, none⟩,
 ⟨some 83, .move (.tmp 82), 4, none⟩,
 ⟨some 84, .move (.tmp 11), 24, (some (83, true))⟩,
 ⟨some 85, .binOp .eql 24 (.tmp 84) (.const (.pointer none)) 24, 4, (some (83, true))⟩,
 ⟨some 86, .pick (.tmp 83) (.tmp 85) (.const (.bool false)), 4, none⟩,
 ⟨some 87, .move (.tmp 86), 4, none⟩,
 ⟨some 88, .move (.tmp 12), 28, (some (87, true))⟩,
 ⟨some 89, .binOp .eql 28 (.tmp 88) (.const (.int .i64 14)) 28, 4, (some (87, true))⟩,
 ⟨some 90, .pick (.tmp 87) (.tmp 89) (.const (.bool false)), 4, none⟩,
 ⟨some 91, .move (.tmp 90), 4, none⟩,
 ⟨some 92, .move (.tmp 13), 24, (some (91, true))⟩,
 ⟨some 93, .binOp .eql 24 (.tmp 92) (.const (.pointer none)) 24, 4, (some (91, true))⟩,
 ⟨some 94, .pick (.tmp 91) (.tmp 93) (.const (.bool false)), 4, none⟩,
 ⟨some 95, .move (.tmp 94), 4, none⟩,
 ⟨some 96, .move (.tmp 14), 28, (some (95, true))⟩,
 ⟨some 97, .binOp .eql 28 (.tmp 96) (.const (.int .i64 3)) 28, 4, (some (95, true))⟩,
 ⟨some 98, .pick (.tmp 95) (.tmp 97) (.const (.bool false)), 4, none⟩,
 ⟨some 99, .move (.tmp 98), 4, none⟩,
 ⟨some 100, .call ⟨.value (.func 38), #[(.const (.pointer none)), (.const (.int .i64 1))], #[23, 3]⟩, 28, (some (99, true))⟩,
 ⟨some 101, .move (.tmp 14), 28, (some (99, true))⟩,
 ⟨some 102, .binOp .eql 28 (.tmp 100) (.tmp 101) 28, 4, (some (99, true))⟩,
 ⟨some 103, .pick (.tmp 99) (.tmp 102) (.const (.bool false)), 4, none⟩,
 ⟨some 104, .move (.tmp 103), 4, none⟩,
 ⟨some 105, .call ⟨.value (.func 28), #[], #[]⟩, 4, (some (104, true))⟩,
 ⟨some 106, .pick (.tmp 104) (.tmp 105) (.const (.bool false)), 4, none⟩,
 ⟨some 2, .assign (.tmp 106), 4, none⟩] [2]) (sg c10S7))
noncomputable def c10S9 (_ : Unit) : Cmd := (.seq (.ops [
 ⟨some 78, .call ⟨.value (.func 31), #[(.const (.pointer none))], #[23]⟩, 63, none⟩,
 ⟨some 77, .move (.tmp 78), 63, none⟩,
 ⟨some 79, .extract (.tmp 77) 0, 24, none⟩,
 ⟨some 80, .extract (.tmp 77) 1, 28, none⟩,
 ⟨some 13, .assign (.tmp 79), 24, none⟩,
 ⟨some 14, .assign (.tmp 80), 28, none⟩] [10, 11, 12, 13, 14]) (sg c10S8))
noncomputable def c10S10 (_ : Unit) : Cmd := (.seq (.ops [
 ⟨some 73, .move (.tmp 9), 23, none⟩,
 ⟨some 74, .call ⟨.value (.func 31), #[(.tmp 73)], #[23]⟩, 63, none⟩,
 ⟨some 72, .move (.tmp 74), 63, none⟩,
 ⟨some 75, .extract (.tmp 72) 0, 24, none⟩,
 ⟨some 76, .extract (.tmp 72) 1, 28, none⟩,
 ⟨some 11, .assign (.tmp 75), 24, none⟩,
 ⟨some 12, .assign (.tmp 76), 28, none⟩] [10, 11, 12]) (sg c10S9))
noncomputable def c10S11 (_ : Unit) : Cmd := (.seq (.ops [
 ⟨some 69, .call ⟨.value (.func 37), #[(.const (.int .i64 9))], #[3]⟩, 78, none⟩,
 ⟨some 68, .move (.tmp 69), 78, none⟩,
 ⟨some 70, .extract (.tmp 68) 0, 23, none⟩,
 ⟨some 71, .extract (.tmp 68) 1, 28, none⟩,
 ⟨some 9, .assign (.tmp 70), 23, none⟩,
 ⟨some 10, .assign (.tmp 71), 28, none⟩] [9, 10]) (sg c10S10))
noncomputable def c10 : Cmd := (.seq (.ops [
 ⟨some 1, .box 71 (.tmp 0), 0, none⟩,
 ⟨some 2, .assign (.const (.bool false)), 4, none⟩] [1])
 (.seq (.seq (.ops [
 ⟨some 15, .build 76 #[], 76, none⟩,
 ⟨some 16, .box 76 (.tmp 15), 24, none⟩,
 ⟨some 17, .buildSlice 77 2 #[(0, (.const (.pointer none))), (1, (.tmp 16))], 77, none⟩,
 ⟨some 18, .call ⟨.builtin .len, #[(.tmp 17)], #[77]⟩, 3, none⟩,
 ⟨some 19, .move (.const (.int .i64 0)), 3, none⟩] [1, 17, 18, 19])
 (.block 0 (.loop (sg c10L0)))) (sg c10S11)))
set_option maxRecDepth 100000 in
theorem ent10 (a0 : Value) (w : World) (K : Value → World → Prop) (h : W Try.prog c10 [(0, a0)] w (finQ Try.prog [.tmp 2] K)) : Ret Try.prog 10 [a0] w K :=
  Ret_of_W (code := c10code) Try.func10 (by kernel_rfl) (by kernel_rfl) (of_decide_eq_true (by kernel_rfl)) h
@[go_sem] theorem go10 : goFunc Try.prog 10 = true := by kernel_rfl
@[go_sem] theorem go11 : goFunc Try.prog 11 = true := by kernel_rfl
@[go_sem] theorem go12 : goFunc Try.prog 12 = true := by kernel_rfl
@[go_sem] theorem go13 : goFunc Try.prog 13 = true := by kernel_rfl
@[go_sem] theorem go14 : goFunc Try.prog 14 = true := by kernel_rfl
@[go_sem] theorem go15 : goFunc Try.prog 15 = true := by kernel_rfl
@[go_sem] theorem go16 : goFunc Try.prog 16 = true := by kernel_rfl
@[go_sem] theorem go17 : goFunc Try.prog 17 = true := by kernel_rfl
@[go_sem] theorem go18 : goFunc Try.prog 18 = true := by kernel_rfl
noncomputable def c19code : Code := match Try.f19.body with | some c => c | none => .skip
noncomputable def c19 : Cmd := (.seq (.ops [
 ⟨some 2, .assign (.const (.string (ofL []))), 9, none⟩] [0])
 (.seq (.ops [
 ⟨some 3, .move (.tmp 0), 9, none⟩,
 ⟨some 4, .move (.tmp 0), 9, none⟩,
 ⟨some 5, .call ⟨.builtin .len, #[(.tmp 4)], #[9]⟩, 3, none⟩,
 ⟨some 6, .binOp .sub 3 (.const (.int .i64 256)) (.tmp 5) 3, 3, none⟩,
 ⟨some 7, .makeSlice 95 (.tmp 6) (.tmp 6), 95, none⟩,
 ⟨some 8, .convert 95 9 (.tmp 7), 9, none⟩,
 ⟨some 9, .binOp .add 9 (.tmp 3) (.tmp 8) 9, 9, none⟩,
 ⟨some 2, .assign (.tmp 9), 9, none⟩] [2])
 .ret))
set_option maxRecDepth 100000 in
theorem ent19 (a0 : Value) (w : World) (K : Value → World → Prop) (h : W Try.prog c19 [(0, a0)] w (finQ Try.prog [.tmp 2] K)) : Ret Try.prog 19 [a0] w K :=
  Ret_of_W (code := c19code) Try.func19 (by kernel_rfl) (by kernel_rfl) (of_decide_eq_true (by kernel_rfl)) h
@[go_sem] theorem go19 : goFunc Try.prog 19 = true := by kernel_rfl
@[go_sem] theorem go20 : goFunc Try.prog 20 = true := by kernel_rfl
@[go_sem] theorem go21 : goFunc Try.prog 21 = true := by kernel_rfl
noncomputable def c22code : Code := match Try.f22.body with | some c => c | none => .skip
noncomputable def c22S0 (_ : Unit) : Cmd := (.cond (.tmp 22)
  (.seq (.ops [
  ⟨some 4, .assign (.const (.pointer none)), 23, none⟩,
  ⟨some 5, .assign (.const (.pointer none)), 24, none⟩] [4, 5])
  .ret)
  (.skip [6]))
noncomputable def c22S1 (_ : Unit) : Cmd := (.seq (.ops [
 ⟨some 30, .move (.tmp 6), 23, none⟩,
 ⟨some 31, .move (.tmp 8), 24, none⟩,
 ⟨some 4, .assign (.tmp 30), 23, none⟩,
 ⟨some 5, .assign (.tmp 31), 24, none⟩] [4, 5])
 .ret)
noncomputable def c22S2 (_ : Unit) : Cmd := (.seq (.seq (.ops [
 ⟨some 28, .move (.tmp 7), 28, none⟩,
 ⟨some 29, .binOp .neq 28 (.tmp 28) (.const (.int .i64 0)) 28, 4, none⟩] [6, 8, 29])
 (.cond (.tmp 29)
  (.seq (.ops [
  ⟨some 4, .assign (.const (.pointer none)), 23, none⟩,
  ⟨some 5, .assign (.const (.pointer none)), 24, none⟩] [4, 5])
  .ret)
  (.skip [6, 8]))) (sg c22S1))
noncomputable def c22S3 (_ : Unit) : Cmd := (.seq (.ops [
 ⟨some 24, .move (.tmp 6), 23, none⟩,
 ⟨some 25, .call ⟨.value (.func 31), #[(.tmp 24)], #[23]⟩, 63, none⟩,
 ⟨some 23, .move (.tmp 25), 63, none⟩,
 ⟨some 26, .extract (.tmp 23) 0, 24, none⟩,
 ⟨some 27, .extract (.tmp 23) 1, 28, none⟩,
 ⟨some 8, .assign (.tmp 26), 24, none⟩,
 ⟨some 7, .assign (.tmp 27), 28, none⟩] [6, 7, 8]) (sg c22S2))
noncomputable def c22S4 (_ : Unit) : Cmd := (.seq (.seq (.ops [
 ⟨some 14, .move (.tmp 7), 28, none⟩,
 ⟨some 15, .binOp .neq 28 (.tmp 14) (.const (.int .i64 0)) 28, 4, none⟩,
 ⟨some 16, .move (.tmp 15), 4, none⟩,
 ⟨some 17, .move (.tmp 6), 23, (some (16, false))⟩,
 ⟨some 18, .move (.tmp 1), 3, (some (16, false))⟩,
 ⟨some 19, .call ⟨.value (.func 38), #[(.tmp 17), (.tmp 18)], #[23, 3]⟩, 28, (some (16, false))⟩,
 ⟨some 20, .move (.tmp 7), 28, (some (16, false))⟩,
 ⟨some 21, .binOp .neq 28 (.tmp 19) (.tmp 20) 28, 4, (some (16, false))⟩,
 ⟨some 22, .pick (.tmp 16) (.const (.bool true)) (.tmp 21), 4, none⟩] [6, 22]) (sg c22S0)) (sg c22S3))
noncomputable def c22 : Cmd := (.seq (.ops [
 ⟨some 4, .assign (.const (.pointer none)), 23, none⟩,
 ⟨some 5, .assign (.const (.pointer none)), 24, none⟩] [0, 1])
 (.seq (.ops [
 ⟨some 10, .move (.tmp 0), 3, none⟩,
 ⟨some 11, .call ⟨.value (.func 37), #[(.tmp 10)], #[3]⟩, 78, none⟩,
 ⟨some 9, .move (.tmp 11), 78, none⟩,
 ⟨some 12, .extract (.tmp 9) 0, 23, none⟩,
 ⟨some 13, .extract (.tmp 9) 1, 28, none⟩,
 ⟨some 6, .assign (.tmp 12), 23, none⟩,
 ⟨some 7, .assign (.tmp 13), 28, none⟩] [1, 6, 7]) (sg c22S4)))
set_option maxRecDepth 100000 in
theorem ent22 (a0 a1 : Value) (w : World) (K : Value → World → Prop) (h : W Try.prog c22 [(0, a0), (1, a1)] w (finQ Try.prog [.tmp 4, .tmp 5] K)) : Ret Try.prog 22 [a0, a1] w K :=
  Ret_of_W (code := c22code) Try.func22 (by kernel_rfl) (by kernel_rfl) (of_decide_eq_true (by kernel_rfl)) h
@[go_sem] theorem go22 : goFunc Try.prog 22 = true := by kernel_rfl
@[go_sem] theorem go23 : goFunc Try.prog 23 = true := by kernel_rfl
@[go_sem] theorem go25 : goFunc Try.prog 25 = true := by kernel_rfl
@[go_sem] theorem go26 : goFunc Try.prog 26 = true := by kernel_rfl
noncomputable def c28code : Code := match Try.f28.body with | some c => c | none => .skip
noncomputable def c28S0 (_ : Unit) : Cmd := (.cond (.tmp 26)
  (.seq (.ops [
  ⟨some 0, .assign (.const (.bool false)), 4, none⟩] [0])
  .ret)
  (.skip [2]))
noncomputable def c28S1 (_ : Unit) : Cmd := (.cond (.tmp 61)
  (.seq (.ops [
  ⟨some 0, .assign (.const (.bool false)), 4, none⟩] [0])
  .ret)
  (.skip [2]))
noncomputable def c28S2 (_ : Unit) : Cmd := .ret
noncomputable def c28S3 (_ : Unit) : Cmd := (.seq (.ops [
 ⟨some 67, .move (.tmp 4), 28, none⟩,
 ⟨some 68, .binOp .eql 28 (.tmp 67) (.const (.int .i64 0)) 28, 4, none⟩,
 ⟨some 69, .move (.tmp 68), 4, none⟩,
 ⟨some 70, .move (.tmp 3), 9, (some (69, true))⟩,
 ⟨some 71, .call ⟨.value (.func 19), #[(.const (.string (ofL [97])))], #[9]⟩, 9, (some (69, true))⟩,
 ⟨some 72, .binOp .eql 9 (.tmp 70) (.tmp 71) 9, 4, (some (69, true))⟩,
 ⟨some 73, .pick (.tmp 69) (.tmp 72) (.const (.bool false)), 4, none⟩,
 ⟨some 0, .assign (.tmp 73), 4, none⟩] [0]) (sg c28S2))
noncomputable def c28S4 (_ : Unit) : Cmd := (.seq (.ops [
 ⟨some 63, .move (.tmp 2), 24, none⟩,
 ⟨some 64, .call ⟨.value (.func 34), #[(.tmp 63), (.const (.int .i64 0))], #[24, 3]⟩, 41, none⟩,
 ⟨some 62, .move (.tmp 64), 41, none⟩,
 ⟨some 65, .extract (.tmp 62) 0, 9, none⟩,
 ⟨some 66, .extract (.tmp 62) 1, 28, none⟩,
 ⟨some 3, .assign (.tmp 65), 9, none⟩,
 ⟨some 4, .assign (.tmp 66), 28, none⟩] [3, 4]) (sg c28S3))
noncomputable def c28S5 (_ : Unit) : Cmd := (.seq (.seq (.ops [
 ⟨some 32, .move (.tmp 4), 28, none⟩,
 ⟨some 33, .binOp .neq 28 (.tmp 32) (.const (.int .i64 0)) 28, 4, none⟩,
 ⟨some 34, .move (.tmp 33), 4, none⟩,
 ⟨some 35, .move (.tmp 3), 9, (some (34, false))⟩,
 ⟨some 36, .call ⟨.value (.func 19), #[(.const (.string (ofL [98])))], #[9]⟩, 9, (some (34, false))⟩,
 ⟨some 37, .binOp .neq 9 (.tmp 35) (.tmp 36) 9, 4, (some (34, false))⟩,
 ⟨some 38, .pick (.tmp 34) (.const (.bool true)) (.tmp 37), 4, none⟩,
 ⟨some 39, .move (.tmp 38), 4, none⟩,
 ⟨some 40, .move (.tmp 2), 24, (some (39, false))⟩,
 ⟨some 41, .call ⟨.value (.func 35), #[(.tmp 40), (.const (.int .i64 0)), (.const (.string (ofL [120])))], #[24, 3, 9]⟩, 28, (some (39, false))⟩,
 ⟨some 42, .move (.tmp 4), 28, (some (39, false))⟩,
 ⟨some 43, .binOp .neq 28 (.tmp 41) (.tmp 42) 28, 4, (some (39, false))⟩,
 ⟨some 44, .pick (.tmp 39) (.const (.bool true)) (.tmp 43), 4, none⟩,
 ⟨some 45, .move (.tmp 44), 4, none⟩,
 ⟨some 46, .move (.tmp 2), 24, (some (45, false))⟩,
 ⟨some 47, .call ⟨.value (.func 35), #[(.tmp 46), (.const (.int .i64 1)), (.const (.string (ofL [121])))], #[24, 3, 9]⟩, 28, (some (45, false))⟩,
 ⟨some 48, .move (.tmp 4), 28, (some (45, false))⟩,
 ⟨some 49, .binOp .neq 28 (.tmp 47) (.tmp 48) 28, 4, (some (45, false))⟩,
 ⟨some 50, .pick (.tmp 45) (.const (.bool true)) (.tmp 49), 4, none⟩,
 ⟨some 51, .move (.tmp 50), 4, none⟩,
 ⟨some 52, .move (.tmp 2), 24, (some (51, false))⟩,
 ⟨some 53, .call ⟨.value (.func 35), #[(.tmp 52), (.const (.int .i64 2)), (.const (.string (ofL [122])))], #[24, 3, 9]⟩, 28, (some (51, false))⟩,
 ⟨some 54, .move (.tmp 4), 28, (some (51, false))⟩,
 ⟨some 55, .binOp .neq 28 (.tmp 53) (.tmp 54) 28, 4, (some (51, false))⟩,
 ⟨some 56, .pick (.tmp 51) (.const (.bool true)) (.tmp 55), 4, none⟩,
 ⟨some 57, .move (.tmp 56), 4, none⟩,
 ⟨some 58, .move (.tmp 2), 24, (some (57, false))⟩,
 ⟨some 59, .call ⟨.value (.func 24), #[(.tmp 58)], #[24]⟩, 28, (some (57, false))⟩,
 ⟨some 60, .binOp .neq 28 (.tmp 59) (.const (.int .i64 12)) 28, 4, (some (57, false))⟩,
 ⟨some 61, .pick (.tmp 57) (.const (.bool true)) (.tmp 60), 4, none⟩] [2, 61]) (sg c28S1)) (sg c28S4))
noncomputable def c28S6 (_ : Unit) : Cmd := (.seq (.ops [
 ⟨some 28, .move (.tmp 2), 24, none⟩,
 ⟨some 29, .call ⟨.value (.func 34), #[(.tmp 28), (.const (.int .i64 4))], #[24, 3]⟩, 41, none⟩,
 ⟨some 27, .move (.tmp 29), 41, none⟩,
 ⟨some 30, .extract (.tmp 27) 0, 9, none⟩,
 ⟨some 31, .extract (.tmp 27) 1, 28, none⟩,
 ⟨some 3, .assign (.tmp 30), 9, none⟩,
 ⟨some 4, .assign (.tmp 31), 28, none⟩] [2, 3, 4]) (sg c28S5))
noncomputable def c28S7 (_ : Unit) : Cmd := (.seq (.seq (.ops [
 ⟨some 9, .move (.tmp 2), 24, none⟩,
 ⟨some 10, .call ⟨.value (.func 36), #[(.tmp 9)], #[24]⟩, 3, none⟩,
 ⟨some 11, .binOp .neq 3 (.tmp 10) (.const (.int .i64 5)) 3, 4, none⟩,
 ⟨some 12, .move (.tmp 11), 4, none⟩,
 ⟨some 13, .move (.tmp 2), 24, (some (12, false))⟩,
 ⟨some 14, .call ⟨.value (.func 35), #[(.tmp 13), (.const (.int .i64 0)), (.const (.string (ofL [97])))], #[24, 3, 9]⟩, 28, (some (12, false))⟩,
 ⟨some 15, .binOp .neq 28 (.tmp 14) (.const (.int .i64 0)) 28, 4, (some (12, false))⟩,
 ⟨some 16, .pick (.tmp 12) (.const (.bool true)) (.tmp 15), 4, none⟩,
 ⟨some 17, .move (.tmp 16), 4, none⟩,
 ⟨some 18, .move (.tmp 2), 24, (some (17, false))⟩,
 ⟨some 19, .call ⟨.value (.func 35), #[(.tmp 18), (.const (.int .i64 4)), (.const (.string (ofL [98])))], #[24, 3, 9]⟩, 28, (some (17, false))⟩,
 ⟨some 20, .binOp .neq 28 (.tmp 19) (.const (.int .i64 0)) 28, 4, (some (17, false))⟩,
 ⟨some 21, .pick (.tmp 17) (.const (.bool true)) (.tmp 20), 4, none⟩,
 ⟨some 22, .move (.tmp 21), 4, none⟩,
 ⟨some 23, .move (.tmp 2), 24, (some (22, false))⟩,
 ⟨some 24, .call ⟨.value (.func 24), #[(.tmp 23)], #[24]⟩, 28, (some (22, false))⟩,
 ⟨some 25, .binOp .neq 28 (.tmp 24) (.const (.int .i64 0)) 28, 4, (some (22, false))⟩,
 ⟨some 26, .pick (.tmp 22) (.const (.bool true)) (.tmp 25), 4, none⟩] [2, 26]) (sg c28S0)) (sg c28S6))
noncomputable def c28 : Cmd := (.seq (.ops [
 ⟨some 0, .assign (.const (.bool false)), 4, none⟩] [])
 (.seq (.ops [
 ⟨some 6, .call ⟨.value (.func 22), #[(.const (.int .i64 10)), (.const (.int .i64 3))], #[3, 3]⟩, 49, none⟩,
 ⟨some 5, .move (.tmp 6), 49, none⟩,
 ⟨some 7, .extract (.tmp 5) 0, 23, none⟩,
 ⟨some 8, .extract (.tmp 5) 1, 24, none⟩,
 ⟨some 1, .assign (.tmp 7), 23, none⟩,
 ⟨some 2, .assign (.tmp 8), 24, none⟩] [2]) (sg c28S7)))
set_option maxRecDepth 100000 in
theorem ent28 (w : World) (K : Value → World → Prop) (h : W Try.prog c28 [] w (finQ Try.prog [.tmp 0] K)) : Ret Try.prog 28 [] w K :=
  Ret_of_W (code := c28code) Try.func28 (by kernel_rfl) (by kernel_rfl) (of_decide_eq_true (by kernel_rfl)) h
@[go_sem] theorem go28 : goFunc Try.prog 28 = true := by kernel_rfl
@[go_sem] theorem go29 : goFunc Try.prog 29 = true := by kernel_rfl
@[go_sem] theorem go30 : goFunc Try.prog 30 = true := by kernel_rfl
noncomputable def c31code : Code := match Try.f31.body with | some c => c | none => .skip
noncomputable def c31S0 (_ : Unit) : Cmd := (.ops [
 ⟨some 45, .move (.tmp 7), 36, none⟩,
 ⟨some 46, .move (.tmp 9), 9, none⟩,
 ⟨some 47, .buildSlice 36 1 #[(0, (.tmp 46))], 36, none⟩,
 ⟨some 48, .call ⟨.builtin .append, #[(.tmp 45), (.tmp 47)], #[36, 36]⟩, 36, none⟩,
 ⟨some 7, .assign (.tmp 48), 36, none⟩] [0, 6, 7, 31, 32])
noncomputable def c31S1 (_ : Unit) : Cmd := (.seq (.seq (.ops [
 ⟨some 42, .move (.tmp 10), 28, none⟩,
 ⟨some 43, .binOp .neq 28 (.tmp 42) (.const (.int .i64 0)) 28, 4, none⟩] [0, 6, 7, 9, 10, 31, 32, 43])
 (.cond (.tmp 43)
  (.seq (.ops [
  ⟨some 44, .move (.tmp 10), 28, none⟩,
  ⟨some 2, .assign (.const (.pointer none)), 24, none⟩,
  ⟨some 3, .assign (.tmp 44), 28, none⟩] [2, 3])
  .ret)
  (.skip [0, 6, 7, 9, 31, 32]))) (sg c31S0))
noncomputable def c31S2 (_ : Unit) : Cmd := (.ops [
 ⟨some 49, .binOp .add 3 (.tmp 32) (.const (.int .i64 1)) 3, 3, none⟩,
 ⟨some 32, .move (.tmp 49), 3, none⟩] [0, 6, 7, 31, 32])
noncomputable def c31S3 (_ : Unit) : Cmd := (.seq (.block 1 (.seq (.ops [
 ⟨some 34, .move (.tmp 32), 3, none⟩,
 ⟨some 8, .assign (.tmp 34), 3, none⟩] [0, 6, 7, 8, 31, 32])
 (.seq (.ops [
 ⟨some 36, .move (.tmp 0), 23, none⟩,
 ⟨some 37, .move (.tmp 8), 3, none⟩,
 ⟨some 38, .binOp .add 3 (.const (.int .i64 2)) (.tmp 37) 3, 3, none⟩,
 ⟨some 39, .call ⟨.value (.func 59), #[(.tmp 36), (.tmp 38)], #[23, 3]⟩, 41, none⟩,
 ⟨some 35, .move (.tmp 39), 41, none⟩,
 ⟨some 40, .extract (.tmp 35) 0, 9, none⟩,
 ⟨some 41, .extract (.tmp 35) 1, 28, none⟩,
 ⟨some 9, .assign (.tmp 40), 9, none⟩,
 ⟨some 10, .assign (.tmp 41), 28, none⟩] [0, 6, 7, 9, 10, 31, 32]) (sg c31S1)))) (sg c31S2))
noncomputable def c31L0 (_ : Unit) : Cmd := (.seq (.ops [
 ⟨some 33, .binOp .lss 3 (.tmp 32) (.tmp 31) 3, 4, none⟩] [0, 6, 7, 31, 32, 33])
 (.seq (.cond (.tmp 33)
  (.skip [0, 6, 7, 31, 32])
  (.exit 0 [6, 7])) (sg c31S3)))
noncomputable def c31S4 (_ : Unit) : Cmd := (.seq (.ops [
  ⟨some 61, .move (.tmp 13), 28, none⟩,
  ⟨some 62, .binOp .neq 28 (.tmp 61) (.const (.int .i64 0)) 28, 4, none⟩] [6, 13, 62])
  (.cond (.tmp 62)
   (.seq (.ops [
   ⟨some 63, .move (.tmp 13), 28, none⟩,
   ⟨some 2, .assign (.const (.pointer none)), 24, none⟩,
   ⟨some 3, .assign (.tmp 63), 28, none⟩] [2, 3])
   .ret)
   (.skip [6])))
noncomputable def c31S5 (_ : Unit) : Cmd := (.seq (.ops [
  ⟨some 58, .move (.tmp 6), 24, none⟩,
  ⟨some 59, .move (.tmp 11), 48, none⟩,
  ⟨some 60, .call ⟨.value (.func 61), #[(.tmp 58), (.tmp 59)], #[24, 48]⟩, 28, none⟩,
  ⟨some 13, .assign (.tmp 60), 28, none⟩] [6, 13]) (sg c31S4))
noncomputable def c31S6 (_ : Unit) : Cmd := (.seq (.seq (.ops [
  ⟨some 55, .move (.tmp 12), 28, none⟩,
  ⟨some 56, .binOp .neq 28 (.tmp 55) (.const (.int .i64 0)) 28, 4, none⟩] [6, 11, 12, 56])
  (.cond (.tmp 56)
   (.seq (.ops [
   ⟨some 57, .move (.tmp 12), 28, none⟩,
   ⟨some 2, .assign (.const (.pointer none)), 24, none⟩,
   ⟨some 3, .assign (.tmp 57), 28, none⟩] [2, 3])
   .ret)
   (.skip [6, 11]))) (sg c31S5))
noncomputable def c31S7 (_ : Unit) : Cmd := (.seq (.ops [
  ⟨some 51, .move (.tmp 7), 36, none⟩,
  ⟨some 52, .call ⟨.value (.func 60), #[(.tmp 51)], #[36]⟩, 109, none⟩,
  ⟨some 50, .move (.tmp 52), 109, none⟩,
  ⟨some 53, .extract (.tmp 50) 0, 48, none⟩,
  ⟨some 54, .extract (.tmp 50) 1, 28, none⟩,
  ⟨some 11, .assign (.tmp 53), 48, none⟩,
  ⟨some 12, .assign (.tmp 54), 28, none⟩] [6, 11, 12]) (sg c31S6))
noncomputable def c31S8 (_ : Unit) : Cmd := (.seq (.ops [
 ⟨some 64, .move (.tmp 6), 24, none⟩,
 ⟨some 2, .assign (.tmp 64), 24, none⟩,
 ⟨some 3, .assign (.const (.int .i64 0)), 28, none⟩] [2, 3])
 .ret)
noncomputable def c31S9 (_ : Unit) : Cmd := (.seq (.ops [
 ⟨some 22, .move (.tmp 0), 23, none⟩,
 ⟨some 23, .load 73 (.tmp 4), 73, none⟩,
 ⟨some 24, .makeMap 74 none, 74, none⟩,
 ⟨some 25, .build 76 #[(0, (.tmp 22)), (1, (.tmp 23)), (2, (.tmp 24))], 76, none⟩,
 ⟨some 26, .box 76 (.tmp 25), 24, none⟩,
 ⟨some 6, .assign (.tmp 26), 24, none⟩] [0, 4, 6])
 (.seq (.seq (.ops [
 ⟨some 27, .fieldAddr 73 (.tmp 4) 1, 0, none⟩,
 ⟨some 28, .load 3 (.tmp 27), 3, none⟩,
 ⟨some 29, .binOp .gtr 3 (.tmp 28) (.const (.int .i64 0)) 3, 4, none⟩] [0, 4, 6, 29])
 (.cond (.tmp 29)
  (.seq (.ops [
  ⟨some 7, .assign (.const (.slice none 0 0)), 36, none⟩] [0, 4, 6, 7])
  (.seq (.seq (.ops [
  ⟨some 30, .fieldAddr 73 (.tmp 4) 1, 0, none⟩,
  ⟨some 31, .load 3 (.tmp 30), 3, none⟩,
  ⟨some 32, .move (.const (.int .i64 0)), 3, none⟩] [0, 6, 7, 31, 32])
  (.block 0 (.loop (sg c31L0)))) (sg c31S7)))
  (.skip [6]))) (sg c31S8)))
noncomputable def c31S10 (_ : Unit) : Cmd := (.seq (.seq (.ops [
 ⟨some 19, .move (.tmp 5), 28, none⟩,
 ⟨some 20, .binOp .neq 28 (.tmp 19) (.const (.int .i64 0)) 28, 4, none⟩] [0, 4, 5, 20])
 (.cond (.tmp 20)
  (.seq (.ops [
  ⟨some 21, .move (.tmp 5), 28, none⟩,
  ⟨some 2, .assign (.const (.pointer none)), 24, none⟩,
  ⟨some 3, .assign (.tmp 21), 28, none⟩] [2, 3])
  .ret)
  (.skip [0, 4]))) (sg c31S9))
noncomputable def c31 : Cmd := (.seq (.ops [
 ⟨some 2, .assign (.const (.pointer none)), 24, none⟩,
 ⟨some 3, .assign (.const (.int .i64 0)), 28, none⟩] [0])
 (.seq (.ops [
 ⟨some 15, .move (.tmp 0), 23, none⟩,
 ⟨some 16, .call ⟨.value (.func 58), #[(.tmp 15)], #[23]⟩, 107, none⟩,
 ⟨some 14, .move (.tmp 16), 107, none⟩,
 ⟨some 17, .extract (.tmp 14) 0, 73, none⟩,
 ⟨some 18, .extract (.tmp 14) 1, 28, none⟩,
 ⟨some 4, .alloc 73, 0, none⟩,
 ⟨none, .store 73 (.tmp 4) (.tmp 17), 0, none⟩,
 ⟨some 5, .assign (.tmp 18), 28, none⟩] [0, 4, 5]) (sg c31S10)))
set_option maxRecDepth 100000 in
theorem ent31 (a0 : Value) (w : World) (K : Value → World → Prop) (h : W Try.prog c31 [(0, a0)] w (finQ Try.prog [.tmp 2, .tmp 3] K)) : Ret Try.prog 31 [a0] w K :=
  Ret_of_W (code := c31code) Try.func31 (by kernel_rfl) (by kernel_rfl) (of_decide_eq_true (by kernel_rfl)) h
@[go_sem] theorem go31 : goFunc Try.prog 31 = true := by kernel_rfl
noncomputable def c32code : Code := match Try.f32.body with | some c => c | none => .skip
noncomputable def c32S0 (_ : Unit) : Cmd := .ret
noncomputable def c32S1 (_ : Unit) : Cmd := (.seq (.ops [
 ⟨some 5, .move (.tmp 0), 24, none⟩,
 ⟨some 6, .nilCheck (.tmp 5), 0, none⟩,
 ⟨some 7, .fieldAddr 76 (.tmp 6) 2, 0, none⟩,
 ⟨some 8, .load 74 (.tmp 7), 74, none⟩,
 ⟨some 9, .call ⟨.value (.func 63), #[(.tmp 8)], #[74]⟩, 113, none⟩,
 ⟨some 10, .call ⟨.value (.func 62), #[(.tmp 9)], #[113]⟩, 38, none⟩,
 ⟨some 2, .assign (.tmp 10), 38, none⟩] [2]) (sg c32S0))
noncomputable def c32 : Cmd := (.seq (.ops [
 ⟨some 2, .assign (.const (.slice none 0 0)), 38, none⟩] [0])
 (.seq (.seq (.ops [
 ⟨some 3, .move (.tmp 0), 24, none⟩,
 ⟨some 4, .binOp .eql 24 (.tmp 3) (.const (.pointer none)) 24, 4, none⟩] [0, 4])
 (.cond (.tmp 4)
  (.seq (.ops [
  ⟨some 2, .assign (.const (.slice none 0 0)), 38, none⟩] [2])
  .ret)
  (.skip [0]))) (sg c32S1)))
set_option maxRecDepth 100000 in
theorem ent32 (a0 : Value) (w : World) (K : Value → World → Prop) (h : W Try.prog c32 [(0, a0)] w (finQ Try.prog [.tmp 2] K)) : Ret Try.prog 32 [a0] w K :=
  Ret_of_W (code := c32code) Try.func32 (by kernel_rfl) (by kernel_rfl) (of_decide_eq_true (by kernel_rfl)) h
@[go_sem] theorem go32 : goFunc Try.prog 32 = true := by kernel_rfl
@[go_sem] theorem go33 : goFunc Try.prog 33 = true := by kernel_rfl
noncomputable def c34code : Code := match Try.f34.body with | some c => c | none => .skip
noncomputable def c34S0 (_ : Unit) : Cmd := (.seq (.ops [
 ⟨some 14, .move (.tmp 6), 28, none⟩,
 ⟨some 15, .binOp .neq 28 (.tmp 14) (.const (.int .i64 0)) 28, 4, none⟩] [0, 1, 6, 15])
 (.cond (.tmp 15)
  (.seq (.ops [
  ⟨some 16, .move (.tmp 6), 28, none⟩,
  ⟨some 4, .assign (.const (.string (ofL []))), 9, none⟩,
  ⟨some 5, .assign (.tmp 16), 28, none⟩] [4, 5])
  .ret)
  (.skip [0, 1])))
noncomputable def c34S1 (_ : Unit) : Cmd := (.seq (.ops [
 ⟨some 49, .move (.tmp 9), 9, none⟩,
 ⟨some 50, .move (.tmp 10), 28, none⟩,
 ⟨some 4, .assign (.tmp 49), 9, none⟩,
 ⟨some 5, .assign (.tmp 50), 28, none⟩] [4, 5])
 .ret)
noncomputable def c34S2 (_ : Unit) : Cmd := (.seq (.seq (.ops [
 ⟨some 44, .move (.tmp 10), 28, none⟩,
 ⟨some 45, .binOp .neq 28 (.tmp 44) (.const (.int .i64 0)) 28, 4, none⟩] [0, 9, 10, 45])
 (.cond (.tmp 45)
  (.ops [
  ⟨some 46, .move (.tmp 0), 24, none⟩,
  ⟨some 47, .nilCheck (.tmp 46), 0, none⟩,
  ⟨some 48, .fieldAddr 76 (.tmp 47) 3, 0, none⟩,
  ⟨none, .store 4 (.tmp 48) (.const (.bool true)), 0, none⟩] [9, 10])
  (.skip [9, 10]))) (sg c34S1))
noncomputable def c34S3 (_ : Unit) : Cmd := (.seq (.draw (drawOps 0 c34code) [0, 9, 10]) (sg c34S2))
noncomputable def c34S4 (_ : Unit) : Cmd := (.seq (.seq (.ops [
 ⟨some 18, .move (.tmp 0), 24, none⟩,
 ⟨some 19, .nilCheck (.tmp 18), 0, none⟩,
 ⟨some 20, .fieldAddr 76 (.tmp 19) 2, 0, none⟩,
 ⟨some 21, .load 74 (.tmp 20), 74, none⟩,
 ⟨some 22, .move (.tmp 1), 3, none⟩,
 ⟨some 23, .lookup 74 (.tmp 21) (.tmp 22) true, 88, none⟩,
 ⟨some 17, .move (.tmp 23), 88, none⟩,
 ⟨some 24, .extract (.tmp 17) 0, 9, none⟩,
 ⟨some 25, .extract (.tmp 17) 1, 4, none⟩,
 ⟨some 7, .assign (.tmp 24), 9, none⟩,
 ⟨some 8, .assign (.tmp 25), 4, none⟩] [0, 1, 7, 8])
 (.seq (.ops [
 ⟨some 26, .move (.tmp 8), 4, none⟩] [0, 1, 7, 26])
 (.cond (.tmp 26)
  (.seq (.ops [
  ⟨some 27, .move (.tmp 7), 9, none⟩,
  ⟨some 4, .assign (.tmp 27), 9, none⟩,
  ⟨some 5, .assign (.const (.int .i64 0)), 28, none⟩] [4, 5])
  .ret)
  (.skip [0, 1])))) (sg c34S3))
noncomputable def c34 : Cmd := (.seq (.ops [
 ⟨some 4, .assign (.const (.string (ofL []))), 9, none⟩,
 ⟨some 5, .assign (.const (.int .i64 0)), 28, none⟩] [0, 1])
 (.seq (.seq (.ops [
 ⟨some 11, .move (.tmp 0), 24, none⟩,
 ⟨some 12, .move (.tmp 1), 3, none⟩,
 ⟨some 13, .call ⟨.value (.func 52), #[(.tmp 11), (.tmp 12)], #[24, 3]⟩, 28, none⟩,
 ⟨some 6, .assign (.tmp 13), 28, none⟩] [0, 1, 6]) (sg c34S0)) (sg c34S4)))
noncomputable def c34D0 : List (Nat × Ins) := [
 (0, ⟨some 29, .move (.tmp 0), 24, none⟩),
 (0, ⟨some 30, .nilCheck (.tmp 29), 0, none⟩),
 (0, ⟨some 31, .fieldAddr 76 (.tmp 30) 0, 0, none⟩),
 (0, ⟨some 33, .move (.tmp 0), 24, none⟩),
 (0, ⟨some 34, .nilCheck (.tmp 33), 0, none⟩),
 (0, ⟨some 35, .fieldAddr 76 (.tmp 34) 1, 0, none⟩),
 (0, ⟨some 36, .fieldAddr 73 (.tmp 35) 2, 0, none⟩),
 (0, ⟨some 39, .move (.tmp 1), 3, none⟩),
 (1, ⟨some 32, .load 23 (.tmp 31), 23, none⟩),
 (2, ⟨some 37, .load 3 (.tmp 36), 3, none⟩),
 (0, ⟨some 38, .binOp .add 3 (.const (.int .i64 2)) (.tmp 37) 3, 3, none⟩),
 (0, ⟨some 40, .binOp .add 3 (.tmp 38) (.tmp 39) 3, 3, none⟩),
 (3, ⟨some 41, .call ⟨.value (.func 59), #[(.tmp 32), (.tmp 40)], #[23, 3]⟩, 41, none⟩),
 (0, ⟨some 28, .move (.tmp 41), 41, none⟩),
 (0, ⟨some 42, .extract (.tmp 28) 0, 9, none⟩),
 (0, ⟨some 43, .extract (.tmp 28) 1, 28, none⟩),
 (0, ⟨some 9, .assign (.tmp 42), 9, none⟩),
 (0, ⟨some 10, .assign (.tmp 43), 28, none⟩)]
theorem c34draw0 {L : List Nat} {ρ : Env} {w : World} {Q : Post} (S : World → Prop) (hS : S w.drew) (h : DG Try.prog S c34D0 L ρ w.drew Q) : drawW Try.prog (drawOps 0 c34code) L ρ w Q :=
  drawW_held [3] [(0, 0), (0, 1), (0, 2), (0, 4), (0, 5), (0, 6), (0, 7), (0, 10), (1, 3), (2, 8), (0, 9), (0, 11), (3, 12), (0, 13), (0, 14), (0, 15), (0, 16), (0, 17)] c34D0 (by kernel_rfl) (by kernel_rfl) (by kernel_rfl) S hS h
set_option maxRecDepth 100000 in
theorem ent34 (a0 a1 : Value) (w : World) (K : Value → World → Prop) (h : W Try.prog c34 [(0, a0), (1, a1)] w (finQ Try.prog [.tmp 4, .tmp 5] K)) : Ret Try.prog 34 [a0, a1] w K :=
  Ret_of_W (code := c34code) Try.func34 (by kernel_rfl) (by kernel_rfl) (of_decide_eq_true (by kernel_rfl)) h
@[go_sem] theorem go34 : goFunc Try.prog 34 = true := by kernel_rfl
noncomputable def c35code : Code := match Try.f35.body with | some c => c | none => .skip
noncomputable def c35S0 (_ : Unit) : Cmd := (.seq (.ops [
 ⟨some 11, .move (.tmp 7), 28, none⟩,
 ⟨some 12, .binOp .neq 28 (.tmp 11) (.const (.int .i64 0)) 28, 4, none⟩] [0, 1, 2, 7, 12])
 (.cond (.tmp 12)
  (.seq (.ops [
  ⟨some 13, .move (.tmp 7), 28, none⟩,
  ⟨some 6, .assign (.tmp 13), 28, none⟩] [6])
  .ret)
  (.skip [0, 1, 2])))
noncomputable def c35S1 (_ : Unit) : Cmd := (.seq (.ops [
 ⟨some 6, .assign (.const (.int .i64 0)), 28, none⟩] [6])
 .ret)
noncomputable def c35S2 (_ : Unit) : Cmd := (.seq (.draw (drawOps 0 c35code) []) (sg c35S1))
noncomputable def c35S3 (_ : Unit) : Cmd := (.seq (.seq (.ops [
 ⟨some 14, .move (.tmp 2), 9, none⟩,
 ⟨some 15, .call ⟨.builtin .len, #[(.tmp 14)], #[9]⟩, 3, none⟩,
 ⟨some 16, .binOp .gtr 3 (.tmp 15) (.const (.int .i64 256)) 3, 4, none⟩] [0, 1, 2, 16])
 (.cond (.tmp 16)
  (.seq (.ops [
  ⟨some 6, .assign (.const (.int .i64 21)), 28, none⟩] [6])
  .ret)
  (.skip [0, 1, 2]))) (sg c35S2))
noncomputable def c35 : Cmd := (.seq (.ops [
 ⟨some 6, .assign (.const (.int .i64 0)), 28, none⟩] [0, 1, 2])
 (.seq (.seq (.ops [
 ⟨some 8, .move (.tmp 0), 24, none⟩,
 ⟨some 9, .move (.tmp 1), 3, none⟩,
 ⟨some 10, .call ⟨.value (.func 52), #[(.tmp 8), (.tmp 9)], #[24, 3]⟩, 28, none⟩,
 ⟨some 7, .assign (.tmp 10), 28, none⟩] [0, 1, 2, 7]) (sg c35S0)) (sg c35S3)))
noncomputable def c35D0 : List (Nat × Ins) := [
 (0, ⟨some 17, .move (.tmp 0), 24, none⟩),
 (0, ⟨some 18, .nilCheck (.tmp 17), 0, none⟩),
 (0, ⟨some 19, .fieldAddr 76 (.tmp 18) 2, 0, none⟩),
 (0, ⟨some 21, .move (.tmp 1), 3, none⟩),
 (0, ⟨some 22, .move (.tmp 2), 9, none⟩),
 (0, ⟨some 23, .move (.tmp 2), 9, none⟩),
 (0, ⟨some 24, .call ⟨.builtin .len, #[(.tmp 23)], #[9]⟩, 3, none⟩),
 (0, ⟨some 25, .binOp .sub 3 (.const (.int .i64 256)) (.tmp 24) 3, 3, none⟩),
 (1, ⟨some 20, .load 74 (.tmp 19), 74, none⟩),
 (2, ⟨some 26, .makeSlice 95 (.tmp 25) (.tmp 25), 95, none⟩),
 (2, ⟨some 27, .convert 95 9 (.tmp 26), 9, none⟩),
 (0, ⟨some 28, .binOp .add 9 (.tmp 22) (.tmp 27) 9, 9, none⟩),
 (3, ⟨none, .mapUpdate 74 (.tmp 20) (.tmp 21) (.tmp 28), 0, none⟩)]
theorem c35draw0 {L : List Nat} {ρ : Env} {w : World} {Q : Post} (S : World → Prop) (hS : S w.drew) (h : DG Try.prog S c35D0 L ρ w.drew Q) : drawW Try.prog (drawOps 0 c35code) L ρ w Q :=
  drawW_held [3] [(0, 0), (0, 1), (0, 2), (0, 4), (0, 5), (0, 6), (0, 7), (0, 8), (1, 3), (2, 9), (2, 10), (0, 11), (3, 12)] c35D0 (by kernel_rfl) (by kernel_rfl) (by kernel_rfl) S hS h
set_option maxRecDepth 100000 in
theorem ent35 (a0 a1 a2 : Value) (w : World) (K : Value → World → Prop) (h : W Try.prog c35 [(0, a0), (1, a1), (2, a2)] w (finQ Try.prog [.tmp 6] K)) : Ret Try.prog 35 [a0, a1, a2] w K :=
  Ret_of_W (code := c35code) Try.func35 (by kernel_rfl) (by kernel_rfl) (of_decide_eq_true (by kernel_rfl)) h
@[go_sem] theorem go35 : goFunc Try.prog 35 = true := by kernel_rfl
noncomputable def c36code : Code := match Try.f36.body with | some c => c | none => .skip
noncomputable def c36S0 (_ : Unit) : Cmd := (.seq (.ops [
 ⟨some 5, .move (.tmp 0), 24, none⟩,
 ⟨some 6, .nilCheck (.tmp 5), 0, none⟩,
 ⟨some 7, .fieldAddr 76 (.tmp 6) 1, 0, none⟩,
 ⟨some 8, .fieldAddr 73 (.tmp 7) 3, 0, none⟩,
 ⟨some 9, .load 3 (.tmp 8), 3, none⟩,
 ⟨some 2, .assign (.tmp 9), 3, none⟩] [2])
 .ret)
noncomputable def c36 : Cmd := (.seq (.ops [
 ⟨some 2, .assign (.const (.int .i64 0)), 3, none⟩] [0])
 (.seq (.seq (.ops [
 ⟨some 3, .move (.tmp 0), 24, none⟩,
 ⟨some 4, .binOp .eql 24 (.tmp 3) (.const (.pointer none)) 24, 4, none⟩] [0, 4])
 (.cond (.tmp 4)
  (.seq (.ops [
  ⟨some 2, .assign (.const (.int .i64 0)), 3, none⟩] [2])
  .ret)
  (.skip [0]))) (sg c36S0)))
set_option maxRecDepth 100000 in
theorem ent36 (a0 : Value) (w : World) (K : Value → World → Prop) (h : W Try.prog c36 [(0, a0)] w (finQ Try.prog [.tmp 2] K)) : Ret Try.prog 36 [a0] w K :=
  Ret_of_W (code := c36code) Try.func36 (by kernel_rfl) (by kernel_rfl) (of_decide_eq_true (by kernel_rfl)) h
@[go_sem] theorem go36 : goFunc Try.prog 36 = true := by kernel_rfl
noncomputable def c37code : Code := match Try.f37.body with | some c => c | none => .skip
noncomputable def c37S0 (_ : Unit) : Cmd := (.ops [
 ⟨some 30, .binOp .add 3 (.tmp 15) (.const (.int .i64 1)) 3, 3, none⟩,
 ⟨some 15, .move (.tmp 30), 3, none⟩] [4, 14, 15])
noncomputable def c37S1 (_ : Unit) : Cmd := (.seq (.block 1 (.draw (drawOps 0 c37code) [4, 14, 15])) (sg c37S0))
noncomputable def c37L0 (_ : Unit) : Cmd := (.seq (.ops [
 ⟨some 16, .binOp .lss 3 (.tmp 15) (.tmp 14) 3, 4, none⟩] [4, 14, 15, 16])
 (.seq (.cond (.tmp 16)
  (.skip [4, 14, 15])
  (.exit 0 [4])) (sg c37S1)))
noncomputable def c37S2 (_ : Unit) : Cmd := (.seq (.ops [
 ⟨some 31, .move (.tmp 4), 23, none⟩,
 ⟨some 2, .assign (.tmp 31), 23, none⟩,
 ⟨some 3, .assign (.const (.int .i64 0)), 28, none⟩] [2, 3])
 .ret)
noncomputable def c37S3 (_ : Unit) : Cmd := (.seq (.seq (.ops [
 ⟨some 14, .move (.tmp 0), 3, none⟩,
 ⟨some 15, .move (.const (.int .i64 0)), 3, none⟩] [4, 14, 15])
 (.block 0 (.loop (sg c37L0)))) (sg c37S2))
noncomputable def c37S4 (_ : Unit) : Cmd := (.seq (.ops [
 ⟨some 11, .call ⟨.value (.func 64), #[], #[]⟩, 9, none⟩,
 ⟨some 12, .build 104 #[(2, (.const (.int .i64 (-1)))), (4, (.tmp 11))], 104, none⟩,
 ⟨some 13, .box 104 (.tmp 12), 23, none⟩,
 ⟨some 4, .assign (.tmp 13), 23, none⟩] [0, 4]) (sg c37S3))
noncomputable def c37 : Cmd := (.seq (.ops [
 ⟨some 2, .assign (.const (.pointer none)), 23, none⟩,
 ⟨some 3, .assign (.const (.int .i64 0)), 28, none⟩] [0])
 (.seq (.seq (.ops [
 ⟨some 5, .move (.tmp 0), 3, none⟩,
 ⟨some 6, .binOp .lss 3 (.tmp 5) (.const (.int .i64 1)) 3, 4, none⟩,
 ⟨some 7, .move (.tmp 6), 4, none⟩,
 ⟨some 8, .move (.tmp 0), 3, (some (7, false))⟩,
 ⟨some 9, .binOp .gtr 3 (.tmp 8) (.const (.int .i64 2048)) 3, 4, (some (7, false))⟩,
 ⟨some 10, .pick (.tmp 7) (.const (.bool true)) (.tmp 9), 4, none⟩] [0, 10])
 (.cond (.tmp 10)
  (.seq (.ops [
  ⟨some 2, .assign (.const (.pointer none)), 23, none⟩,
  ⟨some 3, .assign (.const (.int .i64 1)), 28, none⟩] [2, 3])
  .ret)
  (.skip [0]))) (sg c37S4)))
noncomputable def c37D0 : List (Nat × Ins) := [
 (0, ⟨some 17, .move (.tmp 4), 23, none⟩),
 (0, ⟨some 18, .move (.tmp 4), 23, none⟩),
 (0, ⟨some 19, .nilCheck (.tmp 18), 0, none⟩),
 (0, ⟨some 20, .fieldAddr 104 (.tmp 19) 0, 0, none⟩),
 (0, ⟨some 22, .move (.tmp 4), 23, none⟩),
 (0, ⟨some 23, .nilCheck (.tmp 22), 0, none⟩),
 (0, ⟨some 24, .fieldAddr 104 (.tmp 23) 4, 0, none⟩),
 (1, ⟨some 21, .load 36 (.tmp 20), 36, none⟩),
 (2, ⟨some 25, .load 9 (.tmp 24), 9, none⟩),
 (2, ⟨some 26, .buildSlice 36 1 #[(0, (.tmp 25))], 36, none⟩),
 (3, ⟨some 27, .call ⟨.builtin .append, #[(.tmp 21), (.tmp 26)], #[36, 36]⟩, 36, none⟩),
 (0, ⟨some 28, .nilCheck (.tmp 17), 0, none⟩),
 (0, ⟨some 29, .fieldAddr 104 (.tmp 28) 0, 0, none⟩),
 (3, ⟨none, .store 36 (.tmp 29) (.tmp 27), 0, none⟩)]
theorem c37draw0 {L : List Nat} {ρ : Env} {w : World} {Q : Post} (S : World → Prop) (hS : S w.drew) (h : DG Try.prog S c37D0 L ρ w.drew Q) : drawW Try.prog (drawOps 0 c37code) L ρ w Q :=
  drawW_held [4] [(0, 0), (0, 1), (0, 2), (0, 3), (0, 5), (0, 6), (0, 7), (1, 4), (2, 8), (2, 9), (3, 10), (0, 11), (0, 12), (3, 13)] c37D0 (by kernel_rfl) (by kernel_rfl) (by kernel_rfl) S hS h
set_option maxRecDepth 100000 in
theorem ent37 (a0 : Value) (w : World) (K : Value → World → Prop) (h : W Try.prog c37 [(0, a0)] w (finQ Try.prog [.tmp 2, .tmp 3] K)) : Ret Try.prog 37 [a0] w K :=
  Ret_of_W (code := c37code) Try.func37 (by kernel_rfl) (by kernel_rfl) (of_decide_eq_true (by kernel_rfl)) h
@[go_sem] theorem go37 : goFunc Try.prog 37 = true := by kernel_rfl
noncomputable def c38code : Code := match Try.f38.body with | some c => c | none => .skip
noncomputable def c38S0 (_ : Unit) : Cmd := (.seq (.ops [
 ⟨some 16, .move (.tmp 7), 28, none⟩,
 ⟨some 17, .binOp .neq 28 (.tmp 16) (.const (.int .i64 0)) 28, 4, none⟩] [0, 1, 5, 7, 17])
 (.cond (.tmp 17)
  (.seq (.ops [
  ⟨some 18, .move (.tmp 7), 28, none⟩,
  ⟨some 4, .assign (.tmp 18), 28, none⟩] [4])
  .ret)
  (.skip [0, 1, 5])))
noncomputable def c38S1 (_ : Unit) : Cmd := (.seq (.ops [
 ⟨some 35, .move (.tmp 8), 28, none⟩,
 ⟨some 36, .binOp .neq 28 (.tmp 35) (.const (.int .i64 0)) 28, 4, none⟩] [0, 1, 5, 8, 36])
 (.cond (.tmp 36)
  (.seq (.ops [
  ⟨some 37, .move (.tmp 8), 28, none⟩,
  ⟨some 4, .assign (.tmp 37), 28, none⟩] [4])
  .ret)
  (.skip [0, 1, 5])))
noncomputable def c38S2 (_ : Unit) : Cmd := .ret
noncomputable def c38S3 (_ : Unit) : Cmd := (.seq (.ops [
 ⟨some 38, .move (.tmp 0), 23, none⟩,
 ⟨some 39, .move (.tmp 1), 3, none⟩,
 ⟨some 40, .move (.tmp 5), 3, none⟩,
 ⟨some 41, .binOp .sub 3 (.tmp 40) (.const (.int .i64 2)) 3, 3, none⟩,
 ⟨some 42, .move (.tmp 1), 3, none⟩,
 ⟨some 43, .binOp .sub 3 (.tmp 41) (.tmp 42) 3, 3, none⟩,
 ⟨some 44, .call ⟨.builtin .min, #[(.tmp 43), (.const (.int .i64 1024))], #[3, 3]⟩, 3, none⟩,
 ⟨some 45, .build 73 #[(0, (.const (.int .u64 2))), (2, (.tmp 39)), (3, (.tmp 44))], 73, none⟩,
 ⟨some 46, .call ⟨.value (.func 67), #[(.tmp 38), (.tmp 45)], #[23, 73]⟩, 28, none⟩,
 ⟨some 4, .assign (.tmp 46), 28, none⟩] [4]) (sg c38S2))
noncomputable def c38S4 (_ : Unit) : Cmd := (.seq (.seq (.ops [
 ⟨some 33, .move (.tmp 0), 23, none⟩,
 ⟨some 34, .call ⟨.value (.func 66), #[(.tmp 33), (.const (.int .i64 1)), (.const (.string (ofL [])))], #[23, 3, 9]⟩, 28, none⟩,
 ⟨some 8, .assign (.tmp 34), 28, none⟩] [0, 1, 5, 8]) (sg c38S1)) (sg c38S3))
noncomputable def c38S5 (_ : Unit) : Cmd := (.seq (.seq (.ops [
 ⟨some 19, .move (.tmp 1), 3, none⟩,
 ⟨some 20, .binOp .lss 3 (.tmp 19) (.const (.int .i64 1)) 3, 4, none⟩,
 ⟨some 21, .move (.tmp 20), 4, none⟩,
 ⟨some 22, .move (.tmp 1), 3, (some (21, false))⟩,
 ⟨some 23, .move (.tmp 5), 3, (some (21, false))⟩,
 ⟨some 24, .binOp .gtr 3 (.tmp 22) (.tmp 23) 3, 4, (some (21, false))⟩,
 ⟨some 25, .pick (.tmp 21) (.const (.bool true)) (.tmp 24), 4, none⟩,
 ⟨some 26, .move (.tmp 25), 4, none⟩,
 ⟨some 27, .move (.tmp 5), 3, (some (26, false))⟩,
 ⟨some 28, .binOp .sub 3 (.tmp 27) (.const (.int .i64 2)) 3, 3, (some (26, false))⟩,
 ⟨some 29, .move (.tmp 1), 3, (some (26, false))⟩,
 ⟨some 30, .binOp .sub 3 (.tmp 28) (.tmp 29) 3, 3, (some (26, false))⟩,
 ⟨some 31, .binOp .lss 3 (.tmp 30) (.const (.int .i64 1)) 3, 4, (some (26, false))⟩,
 ⟨some 32, .pick (.tmp 26) (.const (.bool true)) (.tmp 31), 4, none⟩] [0, 1, 5, 32])
 (.cond (.tmp 32)
  (.seq (.ops [
  ⟨some 4, .assign (.const (.int .i64 1)), 28, none⟩] [4])
  .ret)
  (.skip [0, 1, 5]))) (sg c38S4))
noncomputable def c38S6 (_ : Unit) : Cmd := (.seq (.seq (.ops [
 ⟨some 12, .move (.tmp 0), 23, none⟩,
 ⟨some 13, .call ⟨.value (.func 59), #[(.tmp 12), (.const (.int .i64 0))], #[23, 3]⟩, 41, none⟩,
 ⟨some 11, .move (.tmp 13), 41, none⟩,
 ⟨some 14, .extract (.tmp 11) 0, 9, none⟩,
 ⟨some 15, .extract (.tmp 11) 1, 28, none⟩,
 ⟨some 6, .assign (.tmp 14), 9, none⟩,
 ⟨some 7, .assign (.tmp 15), 28, none⟩] [0, 1, 5, 7]) (sg c38S0)) (sg c38S5))
noncomputable def c38 : Cmd := (.seq (.ops [
 ⟨some 4, .assign (.const (.int .i64 0)), 28, none⟩] [0, 1])
 (.seq (.ops [
 ⟨some 9, .move (.tmp 0), 23, none⟩,
 ⟨some 10, .call ⟨.value (.func 65), #[(.tmp 9)], #[23]⟩, 3, none⟩,
 ⟨some 5, .assign (.tmp 10), 3, none⟩] [0, 1, 5]) (sg c38S6)))
set_option maxRecDepth 100000 in
theorem ent38 (a0 a1 : Value) (w : World) (K : Value → World → Prop) (h : W Try.prog c38 [(0, a0), (1, a1)] w (finQ Try.prog [.tmp 4] K)) : Ret Try.prog 38 [a0, a1] w K :=
  Ret_of_W (code := c38code) Try.func38 (by kernel_rfl) (by kernel_rfl) (of_decide_eq_true (by kernel_rfl)) h
@[go_sem] theorem go38 : goFunc Try.prog 38 = true := by kernel_rfl
@[go_sem] theorem go39 : goFunc Try.prog 39 = true := by kernel_rfl
@[go_sem] theorem go40 : goFunc Try.prog 40 = true := by kernel_rfl
@[go_sem] theorem go41 : goFunc Try.prog 41 = true := by kernel_rfl
@[go_sem] theorem go42 : goFunc Try.prog 42 = true := by kernel_rfl
@[go_sem] theorem go43 : goFunc Try.prog 43 = true := by kernel_rfl
@[go_sem] theorem go44 : goFunc Try.prog 44 = true := by kernel_rfl
@[go_sem] theorem go45 : goFunc Try.prog 45 = true := by kernel_rfl
@[go_sem] theorem go46 : goFunc Try.prog 46 = true := by kernel_rfl
@[go_sem] theorem go47 : goFunc Try.prog 47 = true := by kernel_rfl
@[go_sem] theorem go48 : goFunc Try.prog 48 = true := by kernel_rfl
@[go_sem] theorem go49 : goFunc Try.prog 49 = true := by kernel_rfl
noncomputable def c50code : Code := match Try.f50.body with | some c => c | none => .skip
noncomputable def c50S0 (_ : Unit) : Cmd := (.ops [
 ⟨some 23, .binOp .add 3 (.tmp 11) (.const (.int .i64 1)) 3, 3, none⟩,
 ⟨some 11, .move (.tmp 23), 3, none⟩] [0, 5, 10, 11])
noncomputable def c50S1 (_ : Unit) : Cmd := (.seq (.block 1 (.seq (.ops [
 ⟨some 13, .move (.tmp 11), 3, none⟩,
 ⟨some 6, .assign (.tmp 13), 3, none⟩] [0, 5, 6, 10, 11])
 (.ops [
 ⟨some 14, .move (.tmp 5), 95, none⟩,
 ⟨some 15, .move (.tmp 0), 59, none⟩,
 ⟨some 16, .move (.tmp 6), 3, none⟩,
 ⟨some 17, .binOp .mul 3 (.const (.int .i64 8)) (.tmp 16) 3, 3, none⟩,
 ⟨some 18, .convert 3 22 (.tmp 17), 22, none⟩,
 ⟨some 19, .binOp .shr 59 (.tmp 15) (.tmp 18) 22, 59, none⟩,
 ⟨some 20, .convert 59 5 (.tmp 19), 5, none⟩,
 ⟨some 21, .buildSlice 95 1 #[(0, (.tmp 20))], 95, none⟩,
 ⟨some 22, .call ⟨.builtin .append, #[(.tmp 14), (.tmp 21)], #[95, 95]⟩, 95, none⟩,
 ⟨some 5, .assign (.tmp 22), 95, none⟩] [0, 5, 10, 11]))) (sg c50S0))
noncomputable def c50L0 (_ : Unit) : Cmd := (.seq (.ops [
 ⟨some 12, .binOp .lss 3 (.tmp 11) (.tmp 10) 3, 4, none⟩] [0, 5, 10, 11, 12])
 (.seq (.cond (.tmp 12)
  (.skip [0, 5, 10, 11])
  (.exit 0 [5])) (sg c50S1)))
noncomputable def c50S2 (_ : Unit) : Cmd := (.block 0 (.loop (sg c50L0)))
noncomputable def c50S3 (_ : Unit) : Cmd := (.seq (.ops [
 ⟨some 24, .move (.tmp 5), 95, none⟩,
 ⟨some 25, .convert 95 9 (.tmp 24), 9, none⟩,
 ⟨some 4, .assign (.tmp 25), 9, none⟩] [4])
 .ret)
noncomputable def c50 : Cmd := (.seq (.ops [
 ⟨some 4, .assign (.const (.string (ofL []))), 9, none⟩] [0, 1])
 (.seq (.ops [
 ⟨some 7, .makeSlice 95 (.const (.int .i64 0)) (.const (.int .i64 8)), 95, none⟩,
 ⟨some 5, .assign (.tmp 7), 95, none⟩] [0, 1, 5])
 (.seq (.seq (.ops [
 ⟨some 8, .move (.tmp 1), 3, none⟩,
 ⟨some 9, .call ⟨.builtin .min, #[(.tmp 8), (.const (.int .i64 8))], #[3, 3]⟩, 3, none⟩,
 ⟨some 10, .call ⟨.builtin .max, #[(.const (.int .i64 0)), (.tmp 9)], #[3, 3]⟩, 3, none⟩,
 ⟨some 11, .move (.const (.int .i64 0)), 3, none⟩] [0, 5, 10, 11]) (sg c50S2)) (sg c50S3))))
set_option maxRecDepth 100000 in
theorem ent50 (a0 a1 : Value) (w : World) (K : Value → World → Prop) (h : W Try.prog c50 [(0, a0), (1, a1)] w (finQ Try.prog [.tmp 4] K)) : Ret Try.prog 50 [a0, a1] w K :=
  Ret_of_W (code := c50code) Try.func50 (by kernel_rfl) (by kernel_rfl) (of_decide_eq_true (by kernel_rfl)) h
@[go_sem] theorem go50 : goFunc Try.prog 50 = true := by kernel_rfl
noncomputable def c51code : Code := match Try.f51.body with | some c => c | none => .skip
noncomputable def c51S0 (_ : Unit) : Cmd := (.seq (.block 1 (.seq (.ops [
 ⟨some 10, .move (.tmp 8), 3, none⟩,
 ⟨some 4, .assign (.tmp 10), 3, none⟩] [0, 3, 4, 7, 8])
 (.ops [
 ⟨some 11, .move (.tmp 3), 59, none⟩,
 ⟨some 12, .move (.tmp 0), 9, none⟩,
 ⟨some 13, .move (.tmp 4), 3, none⟩,
 ⟨some 14, .index 9 (.tmp 12) (.tmp 13), 5, none⟩,
 ⟨some 15, .convert 5 59 (.tmp 14), 59, none⟩,
 ⟨some 16, .move (.tmp 4), 3, none⟩,
 ⟨some 17, .binOp .mul 3 (.const (.int .i64 8)) (.tmp 16) 3, 3, none⟩,
 ⟨some 18, .convert 3 22 (.tmp 17), 22, none⟩,
 ⟨some 19, .binOp .shl 59 (.tmp 15) (.tmp 18) 22, 59, none⟩,
 ⟨some 20, .binOp .or 59 (.tmp 11) (.tmp 19) 59, 59, none⟩,
 ⟨some 3, .assign (.tmp 20), 59, none⟩] [0, 3, 7, 8])))
 (.ops [
 ⟨some 21, .binOp .add 3 (.tmp 8) (.const (.int .i64 1)) 3, 3, none⟩,
 ⟨some 8, .move (.tmp 21), 3, none⟩] [0, 3, 7, 8]))
noncomputable def c51L0 (_ : Unit) : Cmd := (.seq (.ops [
 ⟨some 9, .binOp .lss 3 (.tmp 8) (.tmp 7) 3, 4, none⟩] [0, 3, 7, 8, 9])
 (.seq (.cond (.tmp 9)
  (.skip [0, 3, 7, 8])
  (.exit 0 [3])) (sg c51S0)))
noncomputable def c51S1 (_ : Unit) : Cmd := (.block 0 (.loop (sg c51L0)))
noncomputable def c51S2 (_ : Unit) : Cmd := (.seq (.ops [
 ⟨some 22, .move (.tmp 3), 59, none⟩,
 ⟨some 2, .assign (.tmp 22), 59, none⟩] [2])
 .ret)
noncomputable def c51 : Cmd := (.seq (.ops [
 ⟨some 2, .assign (.const (.int .u64 0)), 59, none⟩] [0])
 (.seq (.ops [
 ⟨some 3, .assign (.const (.int .u64 0)), 59, none⟩] [0, 3])
 (.seq (.seq (.ops [
 ⟨some 5, .move (.tmp 0), 9, none⟩,
 ⟨some 6, .call ⟨.builtin .len, #[(.tmp 5)], #[9]⟩, 3, none⟩,
 ⟨some 7, .call ⟨.builtin .min, #[(.tmp 6), (.const (.int .i64 8))], #[3, 3]⟩, 3, none⟩,
 ⟨some 8, .move (.const (.int .i64 0)), 3, none⟩] [0, 3, 7, 8]) (sg c51S1)) (sg c51S2))))
set_option maxRecDepth 100000 in
theorem ent51 (a0 : Value) (w : World) (K : Value → World → Prop) (h : W Try.prog c51 [(0, a0)] w (finQ Try.prog [.tmp 2] K)) : Ret Try.prog 51 [a0] w K :=
  Ret_of_W (code := c51code) Try.func51 (by kernel_rfl) (by kernel_rfl) (of_decide_eq_true (by kernel_rfl)) h
@[go_sem] theorem go51 : goFunc Try.prog 51 = true := by kernel_rfl
noncomputable def c52code : Code := match Try.f52.body with | some c => c | none => .skip
noncomputable def c52S0 (_ : Unit) : Cmd := (.seq (.ops [
 ⟨some 4, .assign (.const (.int .i64 0)), 28, none⟩] [4])
 .ret)
noncomputable def c52 : Cmd := (.seq (.ops [
 ⟨some 4, .assign (.const (.int .i64 0)), 28, none⟩] [0, 1])
 (.seq (.block 0 (.seq (.ops [
 ⟨some 6, .move (.tmp 0), 24, none⟩,
 ⟨some 7, .binOp .eql 24 (.tmp 6) (.const (.pointer none)) 24, 4, none⟩,
 ⟨some 8, .move (.tmp 7), 4, none⟩,
 ⟨some 9, .move (.tmp 0), 24, (some (8, false))⟩,
 ⟨some 10, .nilCheck (.tmp 9), 0, (some (8, false))⟩,
 ⟨some 11, .fieldAddr 76 (.tmp 10) 0, 0, (some (8, false))⟩,
 ⟨some 12, .load 23 (.tmp 11), 23, (some (8, false))⟩,
 ⟨some 13, .binOp .eql 23 (.tmp 12) (.const (.pointer none)) 23, 4, (some (8, false))⟩,
 ⟨some 14, .pick (.tmp 8) (.const (.bool true)) (.tmp 13), 4, none⟩,
 ⟨some 5, .assign (.tmp 14), 4, none⟩] [0, 1, 5])
 (.cond (.tmp 5)
  (.seq (.ops [
  ⟨some 4, .assign (.const (.int .i64 3)), 28, none⟩] [4])
  .ret)
  (.seq (.ops [
  ⟨some 16, .move (.tmp 0), 24, none⟩,
  ⟨some 17, .nilCheck (.tmp 16), 0, none⟩,
  ⟨some 18, .fieldAddr 76 (.tmp 17) 3, 0, none⟩,
  ⟨some 19, .load 4 (.tmp 18), 4, none⟩,
  ⟨some 15, .assign (.tmp 19), 4, none⟩] [0, 1, 15])
  (.cond (.tmp 15)
   (.seq (.ops [
   ⟨some 4, .assign (.const (.int .i64 11)), 28, none⟩] [4])
   .ret)
   (.seq (.ops [
   ⟨some 21, .move (.tmp 1), 3, none⟩,
   ⟨some 22, .binOp .lss 3 (.tmp 21) (.const (.int .i64 0)) 3, 4, none⟩,
   ⟨some 23, .move (.tmp 22), 4, none⟩,
   ⟨some 24, .move (.tmp 1), 3, (some (23, false))⟩,
   ⟨some 25, .move (.tmp 0), 24, (some (23, false))⟩,
   ⟨some 26, .nilCheck (.tmp 25), 0, (some (23, false))⟩,
   ⟨some 27, .fieldAddr 76 (.tmp 26) 1, 0, (some (23, false))⟩,
   ⟨some 28, .fieldAddr 73 (.tmp 27) 3, 0, (some (23, false))⟩,
   ⟨some 29, .load 3 (.tmp 28), 3, (some (23, false))⟩,
   ⟨some 30, .binOp .geq 3 (.tmp 24) (.tmp 29) 3, 4, (some (23, false))⟩,
   ⟨some 31, .pick (.tmp 23) (.const (.bool true)) (.tmp 30), 4, none⟩,
   ⟨some 20, .assign (.tmp 31), 4, none⟩] [20])
   (.cond (.tmp 20)
    (.seq (.ops [
    ⟨some 4, .assign (.const (.int .i64 10)), 28, none⟩] [4])
    .ret)
    (.skip [])))))))) (sg c52S0)))
set_option maxRecDepth 100000 in
theorem ent52 (a0 a1 : Value) (w : World) (K : Value → World → Prop) (h : W Try.prog c52 [(0, a0), (1, a1)] w (finQ Try.prog [.tmp 4] K)) : Ret Try.prog 52 [a0, a1] w K :=
  Ret_of_W (code := c52code) Try.func52 (by kernel_rfl) (by kernel_rfl) (of_decide_eq_true (by kernel_rfl)) h
@[go_sem] theorem go52 : goFunc Try.prog 52 = true := by kernel_rfl
noncomputable def c58code : Code := match Try.f58.body with | some c => c | none => .skip
noncomputable def c58S0 (_ : Unit) : Cmd := (.seq (.ops [
 ⟨some 70, .move (.tmp 10), 4, none⟩,
 ⟨some 71, .move (.tmp 70), 4, none⟩,
 ⟨some 72, .move (.tmp 11), 4, (some (71, true))⟩,
 ⟨some 73, .pick (.tmp 71) (.tmp 72) (.const (.bool false)), 4, none⟩,
 ⟨some 74, .move (.tmp 73), 4, none⟩,
 ⟨some 75, .fieldAddr 73 (.tmp 9) 0, 0, (some (74, true))⟩,
 ⟨some 76, .load 59 (.tmp 75), 59, (some (74, true))⟩,
 ⟨some 77, .fieldAddr 73 (.tmp 4) 0, 0, (some (74, true))⟩,
 ⟨some 78, .load 59 (.tmp 77), 59, (some (74, true))⟩,
 ⟨some 79, .binOp .gtr 59 (.tmp 76) (.tmp 78) 59, 4, (some (74, true))⟩,
 ⟨some 80, .pick (.tmp 74) (.tmp 79) (.const (.bool false)), 4, none⟩,
 ⟨some 81, .move (.tmp 80), 4, none⟩,
 ⟨some 82, .fieldAddr 73 (.tmp 9) 0, 0, (some (81, true))⟩,
 ⟨some 83, .load 59 (.tmp 82), 59, (some (81, true))⟩,
 ⟨some 84, .binOp .rem 59 (.tmp 83) (.const (.int .u64 2)) 59, 59, (some (81, true))⟩,
 ⟨some 85, .convert 59 3 (.tmp 84), 3, (some (81, true))⟩,
 ⟨some 86, .move (.tmp 6), 3, (some (81, true))⟩,
 ⟨some 87, .binOp .eql 3 (.tmp 85) (.tmp 86) 3, 4, (some (81, true))⟩,
 ⟨some 88, .pick (.tmp 81) (.tmp 87) (.const (.bool false)), 4, none⟩] [0, 2, 4, 5, 9, 12, 88])
 (.cond (.tmp 88)
  (.ops [
  ⟨some 89, .load 73 (.tmp 9), 73, none⟩,
  ⟨none, .store 73 (.tmp 4) (.tmp 89), 0, none⟩,
  ⟨some 5, .assign (.const (.bool true)), 4, none⟩] [0, 2, 4, 5, 12])
  (.skip [0, 2, 4, 5, 12])))
noncomputable def c58S1 (_ : Unit) : Cmd := (.seq (.draw (drawOps 0 c58code) [0, 2, 4, 5, 6, 9, 10, 11, 12]) (sg c58S0))
noncomputable def c58S2 (_ : Unit) : Cmd := (.seq (.ops [
 ⟨some 28, .move (.tmp 7), 9, none⟩,
 ⟨some 29, .call ⟨.value (.func 80), #[(.tmp 28)], #[9]⟩, 128, none⟩,
 ⟨some 27, .move (.tmp 29), 128, none⟩,
 ⟨some 30, .extract (.tmp 27) 0, 73, none⟩,
 ⟨some 31, .extract (.tmp 27) 1, 4, none⟩,
 ⟨some 9, .alloc 73, 0, none⟩,
 ⟨none, .store 73 (.tmp 9) (.tmp 30), 0, none⟩,
 ⟨some 10, .assign (.tmp 31), 4, none⟩] [0, 2, 4, 5, 6, 9, 10, 12]) (sg c58S1))
noncomputable def c58S3 (_ : Unit) : Cmd := (.seq (.seq (.ops [
 ⟨some 23, .move (.tmp 8), 28, none⟩,
 ⟨some 24, .binOp .neq 28 (.tmp 23) (.const (.int .i64 0)) 28, 4, none⟩] [0, 2, 4, 5, 6, 7, 8, 12, 24])
 (.cond (.tmp 24)
  (.seq (.ops [
  ⟨some 25, .load 73 (.tmp 4), 73, none⟩,
  ⟨some 26, .move (.tmp 8), 28, none⟩,
  ⟨none, .store 73 (.tmp 2) (.tmp 25), 0, none⟩,
  ⟨some 3, .assign (.tmp 26), 28, none⟩] [2, 3])
  .ret)
  (.skip [0, 2, 4, 5, 6, 7, 12]))) (sg c58S2))
noncomputable def c58S4 (_ : Unit) : Cmd := (.seq (.seq (.ops [
 ⟨some 21, .move (.tmp 8), 28, none⟩,
 ⟨some 22, .binOp .eql 28 (.tmp 21) (.const (.int .i64 10)) 28, 4, none⟩] [0, 2, 4, 5, 6, 7, 8, 12, 22])
 (.cond (.tmp 22)
  (.exit 1 [0, 2, 4, 5, 12])
  (.skip [0, 2, 4, 5, 6, 7, 8, 12]))) (sg c58S3))
noncomputable def c58S5 (_ : Unit) : Cmd := (.ops [
 ⟨some 90, .binOp .add 3 (.tmp 12) (.const (.int .i64 1)) 3, 3, none⟩,
 ⟨some 12, .move (.tmp 90), 3, none⟩] [0, 2, 4, 5, 12])
noncomputable def c58S6 (_ : Unit) : Cmd := (.seq (.block 1 (.seq (.ops [
 ⟨some 14, .move (.tmp 12), 3, none⟩,
 ⟨some 6, .assign (.tmp 14), 3, none⟩] [0, 2, 4, 5, 6, 12])
 (.seq (.ops [
 ⟨some 16, .move (.tmp 0), 23, none⟩,
 ⟨some 17, .move (.tmp 6), 3, none⟩,
 ⟨some 18, .call ⟨.value (.func 59), #[(.tmp 16), (.tmp 17)], #[23, 3]⟩, 41, none⟩,
 ⟨some 15, .move (.tmp 18), 41, none⟩,
 ⟨some 19, .extract (.tmp 15) 0, 9, none⟩,
 ⟨some 20, .extract (.tmp 15) 1, 28, none⟩,
 ⟨some 7, .assign (.tmp 19), 9, none⟩,
 ⟨some 8, .assign (.tmp 20), 28, none⟩] [0, 2, 4, 5, 6, 7, 8, 12]) (sg c58S4)))) (sg c58S5))
noncomputable def c58L0 (_ : Unit) : Cmd := (.seq (.ops [
 ⟨some 13, .binOp .lss 3 (.tmp 12) (.const (.int .i64 2)) 3, 4, none⟩] [0, 2, 4, 5, 12, 13])
 (.seq (.cond (.tmp 13)
  (.skip [0, 2, 4, 5, 12])
  (.exit 0 [2, 4, 5])) (sg c58S6)))
noncomputable def c58S7 (_ : Unit) : Cmd := (.seq (.ops [
 ⟨some 94, .load 73 (.tmp 4), 73, none⟩,
 ⟨none, .store 73 (.tmp 2) (.tmp 94), 0, none⟩,
 ⟨some 3, .assign (.const (.int .i64 0)), 28, none⟩] [2, 3])
 .ret)
noncomputable def c58S8 (_ : Unit) : Cmd := (.seq (.seq (.ops [
 ⟨some 91, .move (.tmp 5), 4, none⟩,
 ⟨some 92, .unOp .not 4 (.tmp 91), 4, none⟩] [2, 4, 92])
 (.cond (.tmp 92)
  (.seq (.ops [
  ⟨some 93, .load 73 (.tmp 4), 73, none⟩,
  ⟨none, .store 73 (.tmp 2) (.tmp 93), 0, none⟩,
  ⟨some 3, .assign (.const (.int .i64 14)), 28, none⟩] [2, 3])
  .ret)
  (.skip [2, 4]))) (sg c58S7))
noncomputable def c58 : Cmd := (.seq (.ops [
 ⟨some 2, .alloc 73, 0, none⟩,
 ⟨some 3, .assign (.const (.int .i64 0)), 28, none⟩] [0, 2])
 (.seq (.ops [
 ⟨some 4, .alloc 73, 0, none⟩] [0, 2, 4])
 (.seq (.ops [
 ⟨some 5, .assign (.const (.bool false)), 4, none⟩] [0, 2, 4, 5])
 (.seq (.seq (.ops [
 ⟨some 12, .move (.const (.int .i64 0)), 3, none⟩] [0, 2, 4, 5, 12])
 (.block 0 (.loop (sg c58L0)))) (sg c58S8)))))
noncomputable def c58D0 : List (Nat × Ins) := [
 (0, ⟨some 32, .fieldAddr 73 (.tmp 9) 2, 0, none⟩),
 (2, ⟨some 33, .load 3 (.tmp 32), 3, none⟩),
 (0, ⟨some 34, .binOp .geq 3 (.tmp 33) (.const (.int .i64 1)) 3, 4, none⟩),
 (0, ⟨some 35, .move (.tmp 34), 4, none⟩),
 (0, ⟨some 36, .fieldAddr 73 (.tmp 9) 3, 0, (some (35, true))⟩),
 (2, ⟨some 37, .load 3 (.tmp 36), 3, (some (35, true))⟩),
 (0, ⟨some 38, .binOp .geq 3 (.tmp 37) (.const (.int .i64 1)) 3, 4, (some (35, true))⟩),
 (0, ⟨some 39, .pick (.tmp 35) (.tmp 38) (.const (.bool false)), 4, none⟩),
 (0, ⟨some 40, .move (.tmp 39), 4, none⟩),
 (0, ⟨some 41, .fieldAddr 73 (.tmp 9) 3, 0, (some (40, true))⟩),
 (2, ⟨some 42, .load 3 (.tmp 41), 3, (some (40, true))⟩),
 (0, ⟨some 43, .binOp .leq 3 (.tmp 42) (.const (.int .i64 1024)) 3, 4, (some (40, true))⟩),
 (0, ⟨some 44, .pick (.tmp 40) (.tmp 43) (.const (.bool false)), 4, none⟩),
 (0, ⟨some 45, .move (.tmp 44), 4, none⟩),
 (0, ⟨some 46, .fieldAddr 73 (.tmp 9) 1, 0, (some (45, true))⟩),
 (0, ⟨some 48, .fieldAddr 73 (.tmp 9) 2, 0, (some (45, true))⟩),
 (1, ⟨some 47, .load 3 (.tmp 46), 3, (some (45, true))⟩),
 (2, ⟨some 49, .load 3 (.tmp 48), 3, (some (45, true))⟩),
 (0, ⟨some 50, .binOp .leq 3 (.tmp 47) (.tmp 49) 3, 4, (some (45, true))⟩),
 (0, ⟨some 51, .pick (.tmp 45) (.tmp 50) (.const (.bool false)), 4, none⟩),
 (0, ⟨some 52, .move (.tmp 51), 4, none⟩),
 (0, ⟨some 53, .fieldAddr 73 (.tmp 9) 2, 0, (some (52, true))⟩),
 (0, ⟨some 55, .move (.tmp 0), 23, (some (52, true))⟩),
 (1, ⟨some 54, .load 3 (.tmp 53), 3, (some (52, true))⟩),
 (2, ⟨some 56, .call ⟨.value (.func 65), #[(.tmp 55)], #[23]⟩, 3, (some (52, true))⟩),
 (0, ⟨some 57, .binOp .leq 3 (.tmp 54) (.tmp 56) 3, 4, (some (52, true))⟩),
 (0, ⟨some 58, .pick (.tmp 52) (.tmp 57) (.const (.bool false)), 4, none⟩),
 (0, ⟨some 59, .move (.tmp 58), 4, none⟩),
 (0, ⟨some 60, .fieldAddr 73 (.tmp 9) 2, 0, (some (59, true))⟩),
 (0, ⟨some 63, .fieldAddr 73 (.tmp 9) 3, 0, (some (59, true))⟩),
 (0, ⟨some 66, .move (.tmp 0), 23, (some (59, true))⟩),
 (1, ⟨some 61, .load 3 (.tmp 60), 3, (some (59, true))⟩),
 (0, ⟨some 62, .binOp .add 3 (.const (.int .i64 2)) (.tmp 61) 3, 3, (some (59, true))⟩),
 (1, ⟨some 64, .load 3 (.tmp 63), 3, (some (59, true))⟩),
 (0, ⟨some 65, .binOp .add 3 (.tmp 62) (.tmp 64) 3, 3, (some (59, true))⟩),
 (2, ⟨some 67, .call ⟨.value (.func 65), #[(.tmp 66)], #[23]⟩, 3, (some (59, true))⟩),
 (0, ⟨some 68, .binOp .leq 3 (.tmp 65) (.tmp 67) 3, 4, (some (59, true))⟩),
 (0, ⟨some 69, .pick (.tmp 59) (.tmp 68) (.const (.bool false)), 4, none⟩),
 (0, ⟨some 11, .assign (.tmp 69), 4, none⟩)]
theorem c58draw0 {L : List Nat} {ρ : Env} {w : World} {Q : Post} (S : World → Prop) (hS : S w.drew) (h : DG Try.prog S c58D0 L ρ w.drew Q) : drawW Try.prog (drawOps 0 c58code) L ρ w Q :=
  drawW_held [15, 22, 29, 32] [(0, 0), (2, 1), (0, 2), (0, 3), (0, 4), (2, 5), (0, 6), (0, 7), (0, 8), (0, 9), (2, 10), (0, 11), (0, 12), (0, 13), (0, 14), (0, 16), (1, 15), (2, 17), (0, 18), (0, 19), (0, 20), (0, 21), (0, 23), (1, 22), (2, 24), (0, 25), (0, 26), (0, 27), (0, 28), (0, 31), (0, 34), (1, 29), (0, 30), (1, 32), (0, 33), (2, 35), (0, 36), (0, 37), (0, 38)] c58D0 (by kernel_rfl) (by kernel_rfl) (by kernel_rfl) S hS h
set_option maxRecDepth 100000 in
theorem ent58 (a0 : Value) (w : World) (K : Value → World → Prop) (h : W Try.prog c58 [(0, a0)] w (finQ Try.prog [.cell 2 73, .tmp 3] K)) : Ret Try.prog 58 [a0] w K :=
  Ret_of_W (code := c58code) Try.func58 (by kernel_rfl) (by kernel_rfl) (of_decide_eq_true (by kernel_rfl)) h
@[go_sem] theorem go58 : goFunc Try.prog 58 = true := by kernel_rfl
noncomputable def c59code : Code := match Try.f59.body with | some c => c | none => .skip
noncomputable def c59S0 (_ : Unit) : Cmd := (.seq (.ops [
 ⟨some 13, .move (.tmp 6), 28, none⟩,
 ⟨some 14, .binOp .neq 28 (.tmp 13) (.const (.int .i64 0)) 28, 4, none⟩] [0, 1, 6, 14])
 (.cond (.tmp 14)
  (.seq (.ops [
  ⟨some 15, .move (.tmp 6), 28, none⟩,
  ⟨some 4, .assign (.const (.string (ofL []))), 9, none⟩,
  ⟨some 5, .assign (.tmp 15), 28, none⟩] [4, 5])
  .ret)
  (.skip [0, 1])))
noncomputable def c59S1 (_ : Unit) : Cmd := (.ops [
 ⟨some 38, .binOp .add 3 (.tmp 28) (.const (.int .i64 1)) 3, 3, none⟩,
 ⟨some 28, .move (.tmp 38), 3, none⟩] [1, 7, 26, 27, 28])
noncomputable def c59S2 (_ : Unit) : Cmd := (.seq (.block 1 (.seq (.ops [
 ⟨some 30, .indexAddr 102 (.tmp 26) (.tmp 28), 0, none⟩,
 ⟨some 31, .load 106 (.tmp 30), 106, none⟩,
 ⟨some 9, .alloc 106, 0, none⟩,
 ⟨none, .store 106 (.tmp 9) (.tmp 31), 0, none⟩] [1, 7, 9, 26, 27, 28])
 (.seq (.ops [
 ⟨some 32, .fieldAddr 106 (.tmp 9) 0, 0, none⟩,
 ⟨some 33, .load 3 (.tmp 32), 3, none⟩,
 ⟨some 34, .move (.tmp 1), 3, none⟩,
 ⟨some 35, .binOp .eql 3 (.tmp 33) (.tmp 34) 3, 4, none⟩] [1, 7, 9, 26, 27, 28, 35])
 (.cond (.tmp 35)
  (.ops [
  ⟨some 36, .fieldAddr 106 (.tmp 9) 1, 0, none⟩,
  ⟨some 37, .load 9 (.tmp 36), 9, none⟩,
  ⟨some 7, .assign (.tmp 37), 9, none⟩] [1, 7, 26, 27, 28])
  (.skip [1, 7, 26, 27, 28]))))) (sg c59S1))
noncomputable def c59L0 (_ : Unit) : Cmd := (.seq (.ops [
 ⟨some 29, .binOp .lss 3 (.tmp 28) (.tmp 27) 3, 0, none⟩] [1, 7, 26, 27, 28, 29])
 (.seq (.cond (.tmp 29)
  (.skip [1, 7, 26, 27, 28])
  (.exit 0 [7])) (sg c59S2)))
noncomputable def c59S3 (_ : Unit) : Cmd := (.seq (.ops [
 ⟨some 39, .move (.tmp 7), 9, none⟩,
 ⟨some 4, .assign (.tmp 39), 9, none⟩,
 ⟨some 5, .assign (.const (.int .i64 0)), 28, none⟩] [4, 5])
 .ret)
noncomputable def c59S4 (_ : Unit) : Cmd := (.seq (.ops [
 ⟨some 16, .move (.tmp 0), 23, none⟩,
 ⟨some 17, .nilCheck (.tmp 16), 0, none⟩,
 ⟨some 18, .fieldAddr 104 (.tmp 17) 0, 0, none⟩,
 ⟨some 19, .load 36 (.tmp 18), 36, none⟩,
 ⟨some 20, .move (.tmp 1), 3, none⟩,
 ⟨some 21, .indexAddr 36 (.tmp 19) (.tmp 20), 0, none⟩,
 ⟨some 22, .load 9 (.tmp 21), 9, none⟩,
 ⟨some 7, .assign (.tmp 22), 9, none⟩] [0, 1, 7])
 (.seq (.seq (.ops [
 ⟨some 23, .move (.tmp 0), 23, none⟩,
 ⟨some 24, .nilCheck (.tmp 23), 0, none⟩,
 ⟨some 25, .fieldAddr 104 (.tmp 24) 1, 0, none⟩,
 ⟨some 26, .load 102 (.tmp 25), 102, none⟩,
 ⟨some 27, .call ⟨.builtin .len, #[(.tmp 26)], #[102]⟩, 3, none⟩,
 ⟨some 28, .move (.const (.int .i64 0)), 3, none⟩] [1, 7, 26, 27, 28])
 (.block 0 (.loop (sg c59L0)))) (sg c59S3)))
noncomputable def c59 : Cmd := (.seq (.ops [
 ⟨some 4, .assign (.const (.string (ofL []))), 9, none⟩,
 ⟨some 5, .assign (.const (.int .i64 0)), 28, none⟩] [0, 1])
 (.seq (.seq (.ops [
 ⟨some 10, .move (.tmp 0), 23, none⟩,
 ⟨some 11, .move (.tmp 1), 3, none⟩,
 ⟨some 12, .call ⟨.value (.func 81), #[(.tmp 10), (.tmp 11)], #[23, 3]⟩, 28, none⟩,
 ⟨some 6, .assign (.tmp 12), 28, none⟩] [0, 1, 6]) (sg c59S0)) (sg c59S4)))
set_option maxRecDepth 100000 in
theorem ent59 (a0 a1 : Value) (w : World) (K : Value → World → Prop) (h : W Try.prog c59 [(0, a0), (1, a1)] w (finQ Try.prog [.tmp 4, .tmp 5] K)) : Ret Try.prog 59 [a0, a1] w K :=
  Ret_of_W (code := c59code) Try.func59 (by kernel_rfl) (by kernel_rfl) (of_decide_eq_true (by kernel_rfl)) h
@[go_sem] theorem go59 : goFunc Try.prog 59 = true := by kernel_rfl
noncomputable def c64code : Code := match Try.f64.body with | some c => c | none => .skip
noncomputable def c64 : Cmd := (.seq (.ops [
 ⟨some 0, .assign (.const (.string (ofL []))), 9, none⟩] [])
 (.seq (.ops [
 ⟨some 1, .makeSlice 95 (.const (.int .i64 256)) (.const (.int .i64 256)), 95, none⟩,
 ⟨some 2, .convert 95 9 (.tmp 1), 9, none⟩,
 ⟨some 0, .assign (.tmp 2), 9, none⟩] [0])
 .ret))
set_option maxRecDepth 100000 in
theorem ent64 (w : World) (K : Value → World → Prop) (h : W Try.prog c64 [] w (finQ Try.prog [.tmp 0] K)) : Ret Try.prog 64 [] w K :=
  Ret_of_W (code := c64code) Try.func64 (by kernel_rfl) (by kernel_rfl) (of_decide_eq_true (by kernel_rfl)) h
@[go_sem] theorem go64 : goFunc Try.prog 64 = true := by kernel_rfl
noncomputable def c65code : Code := match Try.f65.body with | some c => c | none => .skip
noncomputable def c65S0 (_ : Unit) : Cmd := (.seq (.ops [
 ⟨some 5, .move (.tmp 0), 23, none⟩,
 ⟨some 6, .nilCheck (.tmp 5), 0, none⟩,
 ⟨some 7, .fieldAddr 104 (.tmp 6) 0, 0, none⟩,
 ⟨some 8, .load 36 (.tmp 7), 36, none⟩,
 ⟨some 9, .call ⟨.builtin .len, #[(.tmp 8)], #[36]⟩, 3, none⟩,
 ⟨some 2, .assign (.tmp 9), 3, none⟩] [2])
 .ret)
noncomputable def c65 : Cmd := (.seq (.ops [
 ⟨some 2, .assign (.const (.int .i64 0)), 3, none⟩] [0])
 (.seq (.seq (.ops [
 ⟨some 3, .move (.tmp 0), 23, none⟩,
 ⟨some 4, .binOp .eql 23 (.tmp 3) (.const (.pointer none)) 23, 4, none⟩] [0, 4])
 (.cond (.tmp 4)
  (.seq (.ops [
  ⟨some 2, .assign (.const (.int .i64 0)), 3, none⟩] [2])
  .ret)
  (.skip [0]))) (sg c65S0)))
set_option maxRecDepth 100000 in
theorem ent65 (a0 : Value) (w : World) (K : Value → World → Prop) (h : W Try.prog c65 [(0, a0)] w (finQ Try.prog [.tmp 2] K)) : Ret Try.prog 65 [a0] w K :=
  Ret_of_W (code := c65code) Try.func65 (by kernel_rfl) (by kernel_rfl) (of_decide_eq_true (by kernel_rfl)) h
@[go_sem] theorem go65 : goFunc Try.prog 65 = true := by kernel_rfl
noncomputable def c66code : Code := match Try.f66.body with | some c => c | none => .skip
noncomputable def c66S0 (_ : Unit) : Cmd := (.seq (.ops [
 ⟨some 44, .move (.tmp 7), 28, none⟩,
 ⟨some 6, .assign (.tmp 44), 28, none⟩] [6])
 .ret)
noncomputable def c66S1 (_ : Unit) : Cmd := (.seq (.seq (.ops [
 ⟨some 22, .move (.tmp 7), 28, none⟩,
 ⟨some 23, .binOp .eql 28 (.tmp 22) (.const (.int .i64 0)) 28, 4, none⟩] [0, 1, 2, 7, 23])
 (.cond (.tmp 23)
  (.draw (drawOps 0 c66code) [7])
  (.skip [7]))) (sg c66S0))
noncomputable def c66S2 (_ : Unit) : Cmd := (.seq (.seq (.ops [
 ⟨some 18, .move (.tmp 7), 28, none⟩,
 ⟨some 19, .binOp .eql 28 (.tmp 18) (.const (.int .i64 0)) 28, 4, none⟩] [0, 1, 2, 7, 19])
 (.cond (.tmp 19)
  (.ops [
  ⟨some 20, .move (.tmp 0), 23, none⟩,
  ⟨some 21, .call ⟨.value (.func 86), #[(.tmp 20)], #[23]⟩, 28, none⟩,
  ⟨some 7, .assign (.tmp 21), 28, none⟩] [0, 1, 2, 7])
  (.skip [0, 1, 2, 7]))) (sg c66S1))
noncomputable def c66S3 (_ : Unit) : Cmd := (.seq (.seq (.ops [
 ⟨some 11, .move (.tmp 7), 28, none⟩,
 ⟨some 12, .binOp .eql 28 (.tmp 11) (.const (.int .i64 0)) 28, 4, none⟩,
 ⟨some 13, .move (.tmp 12), 4, none⟩,
 ⟨some 14, .move (.tmp 2), 9, (some (13, true))⟩,
 ⟨some 15, .call ⟨.builtin .len, #[(.tmp 14)], #[9]⟩, 3, (some (13, true))⟩,
 ⟨some 16, .binOp .gtr 3 (.tmp 15) (.const (.int .i64 256)) 3, 4, (some (13, true))⟩,
 ⟨some 17, .pick (.tmp 13) (.tmp 16) (.const (.bool false)), 4, none⟩] [0, 1, 2, 7, 17])
 (.cond (.tmp 17)
  (.ops [
  ⟨some 7, .assign (.const (.int .i64 21)), 28, none⟩] [0, 1, 2, 7])
  (.skip [0, 1, 2, 7]))) (sg c66S2))
noncomputable def c66 : Cmd := (.seq (.ops [
 ⟨some 6, .assign (.const (.int .i64 0)), 28, none⟩] [0, 1, 2])
 (.seq (.ops [
 ⟨some 8, .move (.tmp 0), 23, none⟩,
 ⟨some 9, .move (.tmp 1), 3, none⟩,
 ⟨some 10, .call ⟨.value (.func 81), #[(.tmp 8), (.tmp 9)], #[23, 3]⟩, 28, none⟩,
 ⟨some 7, .assign (.tmp 10), 28, none⟩] [0, 1, 2, 7]) (sg c66S3)))
noncomputable def c66D0 : List (Nat × Ins) := [
 (0, ⟨some 24, .move (.tmp 0), 23, none⟩),
 (0, ⟨some 25, .move (.tmp 0), 23, none⟩),
 (0, ⟨some 26, .nilCheck (.tmp 25), 0, none⟩),
 (0, ⟨some 27, .fieldAddr 104 (.tmp 26) 1, 0, none⟩),
 (0, ⟨some 29, .move (.tmp 1), 3, none⟩),
 (0, ⟨some 30, .move (.tmp 2), 9, none⟩),
 (0, ⟨some 31, .move (.tmp 0), 23, none⟩),
 (0, ⟨some 32, .nilCheck (.tmp 31), 0, none⟩),
 (0, ⟨some 33, .fieldAddr 104 (.tmp 32) 4, 0, none⟩),
 (0, ⟨some 35, .move (.tmp 2), 9, none⟩),
 (0, ⟨some 36, .call ⟨.builtin .len, #[(.tmp 35)], #[9]⟩, 3, none⟩),
 (1, ⟨some 28, .load 102 (.tmp 27), 102, none⟩),
 (2, ⟨some 34, .load 9 (.tmp 33), 9, none⟩),
 (0, ⟨some 37, .slice 9 (.tmp 34) (some (.tmp 36)) none none, 9, none⟩),
 (0, ⟨some 38, .binOp .add 9 (.tmp 30) (.tmp 37) 9, 9, none⟩),
 (2, ⟨some 39, .build 106 #[(0, (.tmp 29)), (1, (.tmp 38))], 106, none⟩),
 (2, ⟨some 40, .buildSlice 102 1 #[(0, (.tmp 39))], 102, none⟩),
 (3, ⟨some 41, .call ⟨.builtin .append, #[(.tmp 28), (.tmp 40)], #[102, 102]⟩, 102, none⟩),
 (0, ⟨some 42, .nilCheck (.tmp 24), 0, none⟩),
 (0, ⟨some 43, .fieldAddr 104 (.tmp 42) 1, 0, none⟩),
 (3, ⟨none, .store 102 (.tmp 43) (.tmp 41), 0, none⟩)]
theorem c66draw0 {L : List Nat} {ρ : Env} {w : World} {Q : Post} (S : World → Prop) (hS : S w.drew) (h : DG Try.prog S c66D0 L ρ w.drew Q) : drawW Try.prog (drawOps 0 c66code) L ρ w Q :=
  drawW_held [4] [(0, 0), (0, 1), (0, 2), (0, 3), (0, 5), (0, 6), (0, 7), (0, 8), (0, 9), (0, 11), (0, 12), (1, 4), (2, 10), (0, 13), (0, 14), (2, 15), (2, 16), (3, 17), (0, 18), (0, 19), (3, 20)] c66D0 (by kernel_rfl) (by kernel_rfl) (by kernel_rfl) S hS h
set_option maxRecDepth 100000 in
theorem ent66 (a0 a1 a2 : Value) (w : World) (K : Value → World → Prop) (h : W Try.prog c66 [(0, a0), (1, a1), (2, a2)] w (finQ Try.prog [.tmp 6] K)) : Ret Try.prog 66 [a0, a1, a2] w K :=
  Ret_of_W (code := c66code) Try.func66 (by kernel_rfl) (by kernel_rfl) (of_decide_eq_true (by kernel_rfl)) h
@[go_sem] theorem go66 : goFunc Try.prog 66 = true := by kernel_rfl
noncomputable def c67code : Code := match Try.f67.body with | some c => c | none => .skip
noncomputable def c67S0 (_ : Unit) : Cmd := (.seq (.ops [
 ⟨some 14, .move (.tmp 5), 28, none⟩,
 ⟨some 15, .binOp .neq 28 (.tmp 14) (.const (.int .i64 0)) 28, 4, none⟩] [0, 5, 15])
 (.cond (.tmp 15)
  (.seq (.ops [
  ⟨some 16, .move (.tmp 5), 28, none⟩,
  ⟨some 4, .assign (.tmp 16), 28, none⟩] [4])
  .ret)
  (.skip [0])))
noncomputable def c67S1 (_ : Unit) : Cmd := .ret
noncomputable def c67S2 (_ : Unit) : Cmd := (.seq (.ops [
 ⟨some 17, .move (.tmp 0), 23, none⟩,
 ⟨some 18, .call ⟨.value (.func 78), #[(.tmp 17)], #[23]⟩, 28, none⟩,
 ⟨some 4, .assign (.tmp 18), 28, none⟩] [4]) (sg c67S1))
noncomputable def c67 : Cmd := (.seq (.ops [
 ⟨some 3, .box 73 (.tmp 1), 0, none⟩,
 ⟨some 4, .assign (.const (.int .i64 0)), 28, none⟩] [0, 3])
 (.seq (.seq (.draw (drawOps 0 c67code) [0, 5]) (sg c67S0)) (sg c67S2)))
noncomputable def c67D0 : List (Nat × Ins) := [
 (0, ⟨some 6, .move (.tmp 0), 23, none⟩),
 (0, ⟨some 7, .fieldAddr 73 (.tmp 3) 0, 0, none⟩),
 (1, ⟨some 8, .load 59 (.tmp 7), 59, none⟩),
 (0, ⟨some 9, .binOp .rem 59 (.tmp 8) (.const (.int .u64 2)) 59, 59, none⟩),
 (0, ⟨some 10, .convert 59 3 (.tmp 9), 3, none⟩),
 (2, ⟨some 11, .load 73 (.tmp 3), 73, none⟩),
 (2, ⟨some 12, .call ⟨.value (.func 87), #[(.tmp 11)], #[73]⟩, 9, none⟩),
 (2, ⟨some 13, .call ⟨.value (.func 66), #[(.tmp 6), (.tmp 10), (.tmp 12)], #[23, 3, 9]⟩, 28, none⟩),
 (0, ⟨some 5, .assign (.tmp 13), 28, none⟩)]
theorem c67draw0 {L : List Nat} {ρ : Env} {w : World} {Q : Post} (S : World → Prop) (hS : S w.drew) (h : DG Try.prog S c67D0 L ρ w.drew Q) : drawW Try.prog (drawOps 0 c67code) L ρ w Q :=
  drawW_held [2] [(0, 0), (0, 1), (1, 2), (0, 3), (0, 4), (2, 5), (2, 6), (2, 7), (0, 8)] c67D0 (by kernel_rfl) (by kernel_rfl) (by kernel_rfl) S hS h
set_option maxRecDepth 100000 in
theorem ent67 (a0 a1 : Value) (w : World) (K : Value → World → Prop) (h : W Try.prog c67 [(0, a0), (1, a1)] w (finQ Try.prog [.tmp 4] K)) : Ret Try.prog 67 [a0, a1] w K :=
  Ret_of_W (code := c67code) Try.func67 (by kernel_rfl) (by kernel_rfl) (of_decide_eq_true (by kernel_rfl)) h
@[go_sem] theorem go67 : goFunc Try.prog 67 = true := by kernel_rfl
@[go_sem] theorem go68 : goFunc Try.prog 68 = true := by kernel_rfl
@[go_sem] theorem go69 : goFunc Try.prog 69 = true := by kernel_rfl
@[go_sem] theorem go70 : goFunc Try.prog 70 = true := by kernel_rfl
@[go_sem] theorem go71 : goFunc Try.prog 71 = true := by kernel_rfl
@[go_sem] theorem go72 : goFunc Try.prog 72 = true := by kernel_rfl
noncomputable def c78code : Code := match Try.f78.body with | some c => c | none => .skip
noncomputable def c78S0 (_ : Unit) : Cmd := (.ops [
 ⟨some 32, .binOp .add 3 (.tmp 19) (.const (.int .i64 1)) 3, 3, none⟩,
 ⟨some 19, .move (.tmp 32), 3, none⟩] [0, 3, 17, 18, 19])
noncomputable def c78S1 (_ : Unit) : Cmd := (.seq (.block 1 (.seq (.ops [
 ⟨some 21, .indexAddr 102 (.tmp 17) (.tmp 19), 0, none⟩,
 ⟨some 22, .load 106 (.tmp 21), 106, none⟩,
 ⟨some 5, .alloc 106, 0, none⟩,
 ⟨none, .store 106 (.tmp 5) (.tmp 22), 0, none⟩] [0, 3, 5, 17, 18, 19])
 (.draw (drawOps 0 c78code) [0, 3, 17, 18, 19]))) (sg c78S0))
noncomputable def c78L0 (_ : Unit) : Cmd := (.seq (.ops [
 ⟨some 20, .binOp .lss 3 (.tmp 19) (.tmp 18) 3, 0, none⟩] [0, 3, 17, 18, 19, 20])
 (.seq (.cond (.tmp 20)
  (.skip [0, 3, 17, 18, 19])
  (.exit 0 [0, 3])) (sg c78S1)))
noncomputable def c78S2 (_ : Unit) : Cmd := (.ops [
  ⟨some 33, .move (.tmp 0), 23, none⟩,
  ⟨some 34, .nilCheck (.tmp 33), 0, none⟩,
  ⟨some 35, .fieldAddr 104 (.tmp 34) 1, 0, none⟩,
  ⟨none, .store 102 (.tmp 35) (.const (.slice none 0 0)), 0, none⟩] [3])
noncomputable def c78S3 (_ : Unit) : Cmd := (.seq (.ops [
 ⟨some 36, .move (.tmp 3), 28, none⟩,
 ⟨some 2, .assign (.tmp 36), 28, none⟩] [2])
 .ret)
noncomputable def c78S4 (_ : Unit) : Cmd := (.seq (.seq (.ops [
 ⟨some 12, .move (.tmp 3), 28, none⟩,
 ⟨some 13, .binOp .eql 28 (.tmp 12) (.const (.int .i64 0)) 28, 4, none⟩] [0, 3, 13])
 (.cond (.tmp 13)
  (.seq (.seq (.ops [
  ⟨some 14, .move (.tmp 0), 23, none⟩,
  ⟨some 15, .nilCheck (.tmp 14), 0, none⟩,
  ⟨some 16, .fieldAddr 104 (.tmp 15) 1, 0, none⟩,
  ⟨some 17, .load 102 (.tmp 16), 102, none⟩,
  ⟨some 18, .call ⟨.builtin .len, #[(.tmp 17)], #[102]⟩, 3, none⟩,
  ⟨some 19, .move (.const (.int .i64 0)), 3, none⟩] [0, 3, 17, 18, 19])
  (.block 0 (.loop (sg c78L0)))) (sg c78S2))
  (.skip [3]))) (sg c78S3))
noncomputable def c78S5 (_ : Unit) : Cmd := (.seq (.seq (.ops [
 ⟨some 8, .move (.tmp 3), 28, none⟩,
 ⟨some 9, .binOp .eql 28 (.tmp 8) (.const (.int .i64 0)) 28, 4, none⟩] [0, 3, 9])
 (.cond (.tmp 9)
  (.ops [
  ⟨some 10, .move (.tmp 0), 23, none⟩,
  ⟨some 11, .call ⟨.value (.func 86), #[(.tmp 10)], #[23]⟩, 28, none⟩,
  ⟨some 3, .assign (.tmp 11), 28, none⟩] [0, 3])
  (.skip [0, 3]))) (sg c78S4))
noncomputable def c78 : Cmd := (.seq (.ops [
 ⟨some 2, .assign (.const (.int .i64 0)), 28, none⟩] [0])
 (.seq (.ops [
 ⟨some 6, .move (.tmp 0), 23, none⟩,
 ⟨some 7, .call ⟨.value (.func 81), #[(.tmp 6), (.const (.int .i64 0))], #[23, 3]⟩, 28, none⟩,
 ⟨some 3, .assign (.tmp 7), 28, none⟩] [0, 3]) (sg c78S5)))
noncomputable def c78D0 : List (Nat × Ins) := [
 (0, ⟨some 23, .move (.tmp 0), 23, none⟩),
 (0, ⟨some 24, .nilCheck (.tmp 23), 0, none⟩),
 (0, ⟨some 25, .fieldAddr 104 (.tmp 24) 0, 0, none⟩),
 (0, ⟨some 27, .fieldAddr 106 (.tmp 5) 0, 0, none⟩),
 (0, ⟨some 29, .fieldAddr 106 (.tmp 5) 1, 0, none⟩),
 (1, ⟨some 26, .load 36 (.tmp 25), 36, none⟩),
 (1, ⟨some 28, .load 3 (.tmp 27), 3, none⟩),
 (2, ⟨some 30, .load 9 (.tmp 29), 9, none⟩),
 (0, ⟨some 31, .indexAddr 36 (.tmp 26) (.tmp 28), 0, none⟩),
 (3, ⟨none, .store 9 (.tmp 31) (.tmp 30), 0, none⟩)]
theorem c78draw0 {L : List Nat} {ρ : Env} {w : World} {Q : Post} (S : World → Prop) (hS : S w.drew) (h : DG Try.prog S c78D0 L ρ w.drew Q) : drawW Try.prog (drawOps 0 c78code) L ρ w Q :=
  drawW_held [3, 5] [(0, 0), (0, 1), (0, 2), (0, 4), (0, 6), (1, 3), (1, 5), (2, 7), (0, 8), (3, 9)] c78D0 (by kernel_rfl) (by kernel_rfl) (by kernel_rfl) S hS h
set_option maxRecDepth 100000 in
theorem ent78 (a0 : Value) (w : World) (K : Value → World → Prop) (h : W Try.prog c78 [(0, a0)] w (finQ Try.prog [.tmp 2] K)) : Ret Try.prog 78 [a0] w K :=
  Ret_of_W (code := c78code) Try.func78 (by kernel_rfl) (by kernel_rfl) (of_decide_eq_true (by kernel_rfl)) h
@[go_sem] theorem go78 : goFunc Try.prog 78 = true := by kernel_rfl
noncomputable def c79code : Code := match Try.f79.body with | some c => c | none => .skip
noncomputable def c79S0 (_ : Unit) : Cmd := (.seq (.ops [
 ⟨some 23, .move (.tmp 6), 28, none⟩,
 ⟨some 24, .binOp .neq 28 (.tmp 23) (.const (.int .i64 0)) 28, 4, none⟩] [0, 5, 6, 24])
 (.cond (.tmp 24)
  (.seq (.ops [
  ⟨some 25, .move (.tmp 6), 28, none⟩,
  ⟨some 4, .assign (.tmp 25), 28, none⟩] [4])
  .ret)
  (.skip [0, 5])))
noncomputable def c79S1 (_ : Unit) : Cmd := (.seq (.ops [
 ⟨some 26, .move (.tmp 0), 24, none⟩,
 ⟨some 27, .load 73 (.tmp 5), 73, none⟩,
 ⟨some 28, .nilCheck (.tmp 26), 0, none⟩,
 ⟨some 29, .fieldAddr 76 (.tmp 28) 1, 0, none⟩,
 ⟨none, .store 73 (.tmp 29) (.tmp 27), 0, none⟩] [])
 (.seq (.ops [
 ⟨some 4, .assign (.const (.int .i64 0)), 28, none⟩] [4])
 .ret))
noncomputable def c79 : Cmd := (.seq (.ops [
 ⟨some 4, .assign (.const (.int .i64 0)), 28, none⟩] [0, 1])
 (.seq (.ops [
 ⟨some 7, .move (.tmp 0), 24, none⟩,
 ⟨some 8, .nilCheck (.tmp 7), 0, none⟩,
 ⟨some 9, .fieldAddr 76 (.tmp 8) 1, 0, none⟩,
 ⟨some 10, .load 73 (.tmp 9), 73, none⟩,
 ⟨some 5, .alloc 73, 0, none⟩,
 ⟨none, .store 73 (.tmp 5) (.tmp 10), 0, none⟩] [0, 1, 5])
 (.seq (.ops [
 ⟨some 11, .fieldAddr 73 (.tmp 5) 0, 0, none⟩,
 ⟨some 12, .load 59 (.tmp 11), 59, none⟩,
 ⟨some 13, .binOp .add 59 (.tmp 12) (.const (.int .u64 1)) 59, 59, none⟩,
 ⟨some 14, .move (.tmp 1), 3, none⟩,
 ⟨some 15, .fieldAddr 73 (.tmp 5) 0, 0, none⟩,
 ⟨none, .store 59 (.tmp 15) (.tmp 13), 0, none⟩,
 ⟨some 16, .fieldAddr 73 (.tmp 5) 1, 0, none⟩,
 ⟨none, .store 3 (.tmp 16) (.tmp 14), 0, none⟩] [0, 5])
 (.seq (.seq (.draw (drawOps 0 c79code) [0, 5, 6]) (sg c79S0)) (sg c79S1)))))
noncomputable def c79D0 : List (Nat × Ins) := [
 (0, ⟨some 17, .move (.tmp 0), 24, none⟩),
 (0, ⟨some 18, .nilCheck (.tmp 17), 0, none⟩),
 (0, ⟨some 19, .fieldAddr 76 (.tmp 18) 0, 0, none⟩),
 (1, ⟨some 20, .load 23 (.tmp 19), 23, none⟩),
 (2, ⟨some 21, .load 73 (.tmp 5), 73, none⟩),
 (3, ⟨some 22, .call ⟨.value (.func 67), #[(.tmp 20), (.tmp 21)], #[23, 73]⟩, 28, none⟩),
 (0, ⟨some 6, .assign (.tmp 22), 28, none⟩)]
theorem c79draw0 {L : List Nat} {ρ : Env} {w : World} {Q : Post} (S : World → Prop) (hS : S w.drew) (h : DG Try.prog S c79D0 L ρ w.drew Q) : drawW Try.prog (drawOps 0 c79code) L ρ w Q :=
  drawW_held [3] [(0, 0), (0, 1), (0, 2), (1, 3), (2, 4), (3, 5), (0, 6)] c79D0 (by kernel_rfl) (by kernel_rfl) (by kernel_rfl) S hS h
set_option maxRecDepth 100000 in
theorem ent79 (a0 a1 : Value) (w : World) (K : Value → World → Prop) (h : W Try.prog c79 [(0, a0), (1, a1)] w (finQ Try.prog [.tmp 4] K)) : Ret Try.prog 79 [a0, a1] w K :=
  Ret_of_W (code := c79code) Try.func79 (by kernel_rfl) (by kernel_rfl) (of_decide_eq_true (by kernel_rfl)) h
@[go_sem] theorem go79 : goFunc Try.prog 79 = true := by kernel_rfl
noncomputable def c80code : Code := match Try.f80.body with | some c => c | none => .skip
noncomputable def c80S0 (_ : Unit) : Cmd := (.cond (.tmp 15)
  (.seq (.ops [
  ⟨some 16, .build 73 #[], 73, none⟩,
  ⟨none, .store 73 (.tmp 2) (.tmp 16), 0, none⟩,
  ⟨some 3, .assign (.const (.bool false)), 4, none⟩] [2, 3])
  .ret)
  (.skip [1, 2]))
noncomputable def c80S1 (_ : Unit) : Cmd := .ret
noncomputable def c80S2 (_ : Unit) : Cmd := (.seq (.ops [
 ⟨some 17, .makeFunc (.func 106) #[] #[(.tmp 1)], 68, none⟩,
 ⟨some 4, .assign (.tmp 17), 68, none⟩] [1, 2, 4])
 (.seq (.ops [
 ⟨some 18, .load 9 (.tmp 1), 9, none⟩,
 ⟨some 19, .slice 9 (.tmp 18) none (some (.const (.int .i64 8))) none, 9, none⟩,
 ⟨some 20, .call ⟨.value (.func 51), #[(.tmp 19)], #[9]⟩, 59, none⟩,
 ⟨some 21, .move (.tmp 4), 68, none⟩,
 ⟨some 22, .call ⟨.value (.tmp 21), #[(.const (.int .i64 8))], #[3]⟩, 3, none⟩,
 ⟨some 23, .move (.tmp 4), 68, none⟩,
 ⟨some 24, .call ⟨.value (.tmp 23), #[(.const (.int .i64 12))], #[3]⟩, 3, none⟩,
 ⟨some 25, .move (.tmp 4), 68, none⟩,
 ⟨some 26, .call ⟨.value (.tmp 25), #[(.const (.int .i64 16))], #[3]⟩, 3, none⟩,
 ⟨some 27, .build 73 #[(0, (.tmp 20)), (1, (.tmp 22)), (2, (.tmp 24)), (3, (.tmp 26))], 73, none⟩,
 ⟨none, .store 73 (.tmp 2) (.tmp 27), 0, none⟩,
 ⟨some 3, .assign (.const (.bool true)), 4, none⟩] [2, 3]) (sg c80S1)))
noncomputable def c80 : Cmd := (.seq (.ops [
 ⟨some 1, .box 9 (.tmp 0), 0, none⟩,
 ⟨some 2, .alloc 73, 0, none⟩,
 ⟨some 3, .assign (.const (.bool false)), 4, none⟩] [1, 2])
 (.seq (.seq (.draw (drawOps 0 c80code) [1, 2, 15]) (sg c80S0)) (sg c80S2)))
noncomputable def c80D0 : List (Nat × Ins) := [
 (2, ⟨some 5, .load 9 (.tmp 1), 9, none⟩),
 (0, ⟨some 6, .call ⟨.builtin .len, #[(.tmp 5)], #[9]⟩, 3, none⟩),
 (0, ⟨some 7, .binOp .lss 3 (.tmp 6) (.const (.int .i64 40)) 3, 4, none⟩),
 (0, ⟨some 8, .move (.tmp 7), 4, none⟩),
 (1, ⟨some 9, .load 9 (.tmp 1), 9, (some (8, false))⟩),
 (0, ⟨some 10, .slice 9 (.tmp 9) none (some (.const (.int .i64 20))) none, 9, (some (8, false))⟩),
 (1, ⟨some 12, .load 9 (.tmp 1), 9, (some (8, false))⟩),
 (0, ⟨some 13, .slice 9 (.tmp 12) (some (.const (.int .i64 20))) (some (.const (.int .i64 40))) none, 9, (some (8, false))⟩),
 (2, ⟨some 11, .call ⟨.value (.func 105), #[(.tmp 10)], #[9]⟩, 9, (some (8, false))⟩),
 (0, ⟨some 14, .binOp .neq 9 (.tmp 11) (.tmp 13) 9, 4, (some (8, false))⟩),
 (0, ⟨some 15, .pick (.tmp 8) (.const (.bool true)) (.tmp 14), 4, none⟩)]
theorem c80draw0 {L : List Nat} {ρ : Env} {w : World} {Q : Post} (S : World → Prop) (hS : S w.drew) (h : DG Try.prog S c80D0 L ρ w.drew Q) : drawW Try.prog (drawOps 0 c80code) L ρ w Q :=
  drawW_held [4, 7] [(2, 0), (0, 1), (0, 2), (0, 3), (1, 4), (0, 5), (1, 7), (0, 8), (2, 6), (0, 9), (0, 10)] c80D0 (by kernel_rfl) (by kernel_rfl) (by kernel_rfl) S hS h
set_option maxRecDepth 100000 in
theorem ent80 (a0 : Value) (w : World) (K : Value → World → Prop) (h : W Try.prog c80 [(0, a0)] w (finQ Try.prog [.cell 2 73, .tmp 3] K)) : Ret Try.prog 80 [a0] w K :=
  Ret_of_W (code := c80code) Try.func80 (by kernel_rfl) (by kernel_rfl) (of_decide_eq_true (by kernel_rfl)) h
@[go_sem] theorem go80 : goFunc Try.prog 80 = true := by kernel_rfl
noncomputable def c81code : Code := match Try.f81.body with | some c => c | none => .skip
noncomputable def c81S0 (_ : Unit) : Cmd := (.seq (.ops [
 ⟨some 4, .assign (.const (.int .i64 0)), 28, none⟩] [4])
 .ret)
noncomputable def c81 : Cmd := (.seq (.ops [
 ⟨some 4, .assign (.const (.int .i64 0)), 28, none⟩] [0, 1])
 (.seq (.block 0 (.seq (.ops [
 ⟨some 6, .move (.tmp 0), 23, none⟩,
 ⟨some 7, .binOp .eql 23 (.tmp 6) (.const (.pointer none)) 23, 4, none⟩,
 ⟨some 8, .move (.tmp 7), 4, none⟩,
 ⟨some 9, .move (.tmp 0), 23, (some (8, false))⟩,
 ⟨some 10, .nilCheck (.tmp 9), 0, (some (8, false))⟩,
 ⟨some 11, .fieldAddr 104 (.tmp 10) 0, 0, (some (8, false))⟩,
 ⟨some 12, .load 36 (.tmp 11), 36, (some (8, false))⟩,
 ⟨some 13, .binOp .eql 36 (.tmp 12) (.const (.slice none 0 0)) 36, 4, (some (8, false))⟩,
 ⟨some 14, .pick (.tmp 8) (.const (.bool true)) (.tmp 13), 4, none⟩,
 ⟨some 5, .assign (.tmp 14), 4, none⟩] [0, 1, 5])
 (.cond (.tmp 5)
  (.seq (.ops [
  ⟨some 4, .assign (.const (.int .i64 3)), 28, none⟩] [4])
  .ret)
  (.seq (.ops [
  ⟨some 16, .move (.tmp 0), 23, none⟩,
  ⟨some 17, .nilCheck (.tmp 16), 0, none⟩,
  ⟨some 18, .fieldAddr 104 (.tmp 17) 3, 0, none⟩,
  ⟨some 19, .load 4 (.tmp 18), 4, none⟩,
  ⟨some 15, .assign (.tmp 19), 4, none⟩] [0, 1, 15])
  (.cond (.tmp 15)
   (.seq (.ops [
   ⟨some 4, .assign (.const (.int .i64 11)), 28, none⟩] [4])
   .ret)
   (.seq (.ops [
   ⟨some 21, .move (.tmp 1), 3, none⟩,
   ⟨some 22, .binOp .lss 3 (.tmp 21) (.const (.int .i64 0)) 3, 4, none⟩,
   ⟨some 23, .move (.tmp 22), 4, none⟩,
   ⟨some 24, .move (.tmp 1), 3, (some (23, false))⟩,
   ⟨some 25, .move (.tmp 0), 23, (some (23, false))⟩,
   ⟨some 26, .nilCheck (.tmp 25), 0, (some (23, false))⟩,
   ⟨some 27, .fieldAddr 104 (.tmp 26) 0, 0, (some (23, false))⟩,
   ⟨some 28, .load 36 (.tmp 27), 36, (some (23, false))⟩,
   ⟨some 29, .call ⟨.builtin .len, #[(.tmp 28)], #[36]⟩, 3, (some (23, false))⟩,
   ⟨some 30, .binOp .geq 3 (.tmp 24) (.tmp 29) 3, 4, (some (23, false))⟩,
   ⟨some 31, .pick (.tmp 23) (.const (.bool true)) (.tmp 30), 4, none⟩,
   ⟨some 20, .assign (.tmp 31), 4, none⟩] [20])
   (.cond (.tmp 20)
    (.seq (.ops [
    ⟨some 4, .assign (.const (.int .i64 10)), 28, none⟩] [4])
    .ret)
    (.skip [])))))))) (sg c81S0)))
set_option maxRecDepth 100000 in
theorem ent81 (a0 a1 : Value) (w : World) (K : Value → World → Prop) (h : W Try.prog c81 [(0, a0), (1, a1)] w (finQ Try.prog [.tmp 4] K)) : Ret Try.prog 81 [a0, a1] w K :=
  Ret_of_W (code := c81code) Try.func81 (by kernel_rfl) (by kernel_rfl) (of_decide_eq_true (by kernel_rfl)) h
@[go_sem] theorem go81 : goFunc Try.prog 81 = true := by kernel_rfl
noncomputable def c86code : Code := match Try.f86.body with | some c => c | none => .skip
noncomputable def c86S0 (_ : Unit) : Cmd := (.seq (.ops [
 ⟨some 2, .assign (.const (.int .i64 0)), 28, none⟩] [2])
 .ret)
noncomputable def c86S1 (_ : Unit) : Cmd := (.seq (.seq (.ops [
 ⟨some 11, .move (.tmp 0), 23, none⟩,
 ⟨some 12, .nilCheck (.tmp 11), 0, none⟩,
 ⟨some 13, .fieldAddr 104 (.tmp 12) 2, 0, none⟩,
 ⟨some 14, .load 3 (.tmp 13), 3, none⟩,
 ⟨some 15, .binOp .gtr 3 (.tmp 14) (.const (.int .i64 0)) 3, 4, none⟩] [0, 15])
 (.cond (.tmp 15)
  (.ops [
  ⟨some 16, .move (.tmp 0), 23, none⟩,
  ⟨some 17, .nilCheck (.tmp 16), 0, none⟩,
  ⟨some 18, .fieldAddr 104 (.tmp 17) 2, 0, none⟩,
  ⟨some 19, .load 3 (.tmp 18), 3, none⟩,
  ⟨some 20, .binOp .sub 3 (.tmp 19) (.const (.int .i64 1)) 3, 3, none⟩,
  ⟨some 21, .nilCheck (.tmp 16), 0, none⟩,
  ⟨some 22, .fieldAddr 104 (.tmp 21) 2, 0, none⟩,
  ⟨none, .store 3 (.tmp 22) (.tmp 20), 0, none⟩] [])
  (.skip []))) (sg c86S0))
noncomputable def c86 : Cmd := (.seq (.ops [
 ⟨some 2, .assign (.const (.int .i64 0)), 28, none⟩] [0])
 (.seq (.seq (.ops [
 ⟨some 3, .move (.tmp 0), 23, none⟩,
 ⟨some 4, .nilCheck (.tmp 3), 0, none⟩,
 ⟨some 5, .fieldAddr 104 (.tmp 4) 2, 0, none⟩,
 ⟨some 6, .load 3 (.tmp 5), 3, none⟩,
 ⟨some 7, .binOp .eql 3 (.tmp 6) (.const (.int .i64 0)) 3, 4, none⟩] [0, 7])
 (.cond (.tmp 7)
  (.seq (.ops [
  ⟨some 8, .move (.tmp 0), 23, none⟩,
  ⟨some 9, .nilCheck (.tmp 8), 0, none⟩,
  ⟨some 10, .fieldAddr 104 (.tmp 9) 3, 0, none⟩,
  ⟨none, .store 4 (.tmp 10) (.const (.bool true)), 0, none⟩] [])
  (.seq (.ops [
  ⟨some 2, .assign (.const (.int .i64 11)), 28, none⟩] [2])
  .ret))
  (.skip [0]))) (sg c86S1)))
set_option maxRecDepth 100000 in
theorem ent86 (a0 : Value) (w : World) (K : Value → World → Prop) (h : W Try.prog c86 [(0, a0)] w (finQ Try.prog [.tmp 2] K)) : Ret Try.prog 86 [a0] w K :=
  Ret_of_W (code := c86code) Try.func86 (by kernel_rfl) (by kernel_rfl) (of_decide_eq_true (by kernel_rfl)) h
@[go_sem] theorem go86 : goFunc Try.prog 86 = true := by kernel_rfl
noncomputable def c87code : Code := match Try.f87.body with | some c => c | none => .skip
noncomputable def c87S0 (_ : Unit) : Cmd := .ret
noncomputable def c87S1 (_ : Unit) : Cmd := (.seq (.ops [
 ⟨some 22, .move (.tmp 3), 9, none⟩,
 ⟨some 23, .move (.tmp 3), 9, none⟩,
 ⟨some 24, .call ⟨.value (.func 105), #[(.tmp 23)], #[9]⟩, 9, none⟩,
 ⟨some 25, .binOp .add 9 (.tmp 22) (.tmp 24) 9, 9, none⟩,
 ⟨some 2, .assign (.tmp 25), 9, none⟩] [2]) (sg c87S0))
noncomputable def c87 : Cmd := (.seq (.ops [
 ⟨some 1, .box 73 (.tmp 0), 0, none⟩,
 ⟨some 2, .assign (.const (.string (ofL []))), 9, none⟩] [1])
 (.seq (.draw (drawOps 0 c87code) [3]) (sg c87S1)))
noncomputable def c87D0 : List (Nat × Ins) := [
 (0, ⟨some 4, .fieldAddr 73 (.tmp 1) 0, 0, none⟩),
 (0, ⟨some 7, .fieldAddr 73 (.tmp 1) 1, 0, none⟩),
 (0, ⟨some 12, .fieldAddr 73 (.tmp 1) 2, 0, none⟩),
 (0, ⟨some 17, .fieldAddr 73 (.tmp 1) 3, 0, none⟩),
 (1, ⟨some 5, .load 59 (.tmp 4), 59, none⟩),
 (1, ⟨some 8, .load 3 (.tmp 7), 3, none⟩),
 (0, ⟨some 9, .convert 3 59 (.tmp 8), 59, none⟩),
 (1, ⟨some 13, .load 3 (.tmp 12), 3, none⟩),
 (0, ⟨some 14, .convert 3 59 (.tmp 13), 59, none⟩),
 (1, ⟨some 18, .load 3 (.tmp 17), 3, none⟩),
 (0, ⟨some 19, .convert 3 59 (.tmp 18), 59, none⟩),
 (2, ⟨some 6, .call ⟨.value (.func 50), #[(.tmp 5), (.const (.int .i64 8))], #[59, 3]⟩, 9, none⟩),
 (2, ⟨some 10, .call ⟨.value (.func 50), #[(.tmp 9), (.const (.int .i64 4))], #[59, 3]⟩, 9, none⟩),
 (0, ⟨some 11, .binOp .add 9 (.tmp 6) (.tmp 10) 9, 9, none⟩),
 (2, ⟨some 15, .call ⟨.value (.func 50), #[(.tmp 14), (.const (.int .i64 4))], #[59, 3]⟩, 9, none⟩),
 (0, ⟨some 16, .binOp .add 9 (.tmp 11) (.tmp 15) 9, 9, none⟩),
 (2, ⟨some 20, .call ⟨.value (.func 50), #[(.tmp 19), (.const (.int .i64 4))], #[59, 3]⟩, 9, none⟩),
 (0, ⟨some 21, .binOp .add 9 (.tmp 16) (.tmp 20) 9, 9, none⟩),
 (0, ⟨some 3, .assign (.tmp 21), 9, none⟩)]
theorem c87draw0 {L : List Nat} {ρ : Env} {w : World} {Q : Post} (S : World → Prop) (hS : S w.drew) (h : DG Try.prog S c87D0 L ρ w.drew Q) : drawW Try.prog (drawOps 0 c87code) L ρ w Q :=
  drawW_held [1, 4, 9, 14] [(0, 0), (0, 3), (0, 8), (0, 13), (1, 1), (1, 4), (0, 5), (1, 9), (0, 10), (1, 14), (0, 15), (2, 2), (2, 6), (0, 7), (2, 11), (0, 12), (2, 16), (0, 17), (0, 18)] c87D0 (by kernel_rfl) (by kernel_rfl) (by kernel_rfl) S hS h
set_option maxRecDepth 100000 in
theorem ent87 (a0 : Value) (w : World) (K : Value → World → Prop) (h : W Try.prog c87 [(0, a0)] w (finQ Try.prog [.tmp 2] K)) : Ret Try.prog 87 [a0] w K :=
  Ret_of_W (code := c87code) Try.func87 (by kernel_rfl) (by kernel_rfl) (of_decide_eq_true (by kernel_rfl)) h
@[go_sem] theorem go87 : goFunc Try.prog 87 = true := by kernel_rfl
@[go_sem] theorem go88 : goFunc Try.prog 88 = true := by kernel_rfl
@[go_sem] theorem go90 : goFunc Try.prog 90 = true := by kernel_rfl
noncomputable def c105code : Code := match Try.f105.body with | some c => c | none => .skip
noncomputable def c105S0 (_ : Unit) : Cmd := (.seq (.block 1 (.seq (.ops [
 ⟨some 11, .move (.tmp 9), 3, none⟩,
 ⟨some 4, .assign (.tmp 11), 3, none⟩] [3, 4, 8, 9])
 (.ops [
 ⟨some 12, .move (.tmp 3), 95, none⟩,
 ⟨some 13, .move (.tmp 4), 3, none⟩,
 ⟨some 14, .indexAddr 95 (.tmp 12) (.tmp 13), 0, none⟩,
 ⟨some 15, .load 5 (.tmp 14), 5, none⟩,
 ⟨some 16, .binOp .xor 5 (.tmp 15) (.const (.int .u8 255)) 5, 5, none⟩,
 ⟨some 17, .indexAddr 95 (.tmp 12) (.tmp 13), 0, none⟩,
 ⟨none, .store 5 (.tmp 17) (.tmp 16), 0, none⟩] [3, 8, 9])))
 (.ops [
 ⟨some 18, .binOp .add 3 (.tmp 9) (.const (.int .i64 1)) 3, 3, none⟩,
 ⟨some 9, .move (.tmp 18), 3, none⟩] [3, 8, 9]))
noncomputable def c105L0 (_ : Unit) : Cmd := (.seq (.ops [
 ⟨some 10, .binOp .lss 3 (.tmp 9) (.tmp 8) 3, 0, none⟩] [3, 8, 9, 10])
 (.seq (.cond (.tmp 10)
  (.skip [3, 8, 9])
  (.exit 0 [3])) (sg c105S0)))
noncomputable def c105S1 (_ : Unit) : Cmd := (.seq (.ops [
 ⟨some 19, .move (.tmp 3), 95, none⟩,
 ⟨some 20, .convert 95 9 (.tmp 19), 9, none⟩,
 ⟨some 2, .assign (.tmp 20), 9, none⟩] [2])
 .ret)
noncomputable def c105 : Cmd := (.seq (.ops [
 ⟨some 2, .assign (.const (.string (ofL []))), 9, none⟩] [0])
 (.seq (.ops [
 ⟨some 5, .move (.tmp 0), 9, none⟩,
 ⟨some 6, .convert 9 95 (.tmp 5), 95, none⟩,
 ⟨some 3, .assign (.tmp 6), 95, none⟩] [3])
 (.seq (.seq (.ops [
 ⟨some 7, .move (.tmp 3), 95, none⟩,
 ⟨some 8, .call ⟨.builtin .len, #[(.tmp 7)], #[95]⟩, 3, none⟩,
 ⟨some 9, .move (.const (.int .i64 0)), 3, none⟩] [3, 8, 9])
 (.block 0 (.loop (sg c105L0)))) (sg c105S1))))
set_option maxRecDepth 100000 in
theorem ent105 (a0 : Value) (w : World) (K : Value → World → Prop) (h : W Try.prog c105 [(0, a0)] w (finQ Try.prog [.tmp 2] K)) : Ret Try.prog 105 [a0] w K :=
  Ret_of_W (code := c105code) Try.func105 (by kernel_rfl) (by kernel_rfl) (of_decide_eq_true (by kernel_rfl)) h
@[go_sem] theorem go105 : goFunc Try.prog 105 = true := by kernel_rfl
noncomputable def c106code : Code := match Try.f106.body with | some c => c | none => .skip
noncomputable def c106S0 (_ : Unit) : Cmd := .ret
noncomputable def c106 : Cmd := (.seq (.ops [
 ⟨some 3, .assign (.const (.int .i64 0)), 3, none⟩] [0, 1])
 (.seq (.ops [
 ⟨some 4, .load 9 (.tmp 1), 9, none⟩,
 ⟨some 5, .move (.tmp 0), 3, none⟩,
 ⟨some 6, .move (.tmp 0), 3, none⟩,
 ⟨some 7, .binOp .add 3 (.tmp 6) (.const (.int .i64 4)) 3, 3, none⟩,
 ⟨some 8, .slice 9 (.tmp 4) (some (.tmp 5)) (some (.tmp 7)) none, 9, none⟩,
 ⟨some 9, .call ⟨.value (.func 51), #[(.tmp 8)], #[9]⟩, 59, none⟩,
 ⟨some 10, .convert 59 3 (.tmp 9), 3, none⟩,
 ⟨some 3, .assign (.tmp 10), 3, none⟩] [3]) (sg c106S0)))
set_option maxRecDepth 100000 in
theorem ent106 (a0 a1 : Value) (w : World) (K : Value → World → Prop) (h : W Try.prog c106 [(0, a0), (1, a1)] w (finQ Try.prog [.tmp 3] K)) : Ret Try.prog 106 [a0, a1] w K :=
  Ret_of_W (code := c106code) Try.func106 (by kernel_rfl) (by kernel_rfl) (of_decide_eq_true (by kernel_rfl)) h
@[go_sem] theorem go106 : goFunc Try.prog 106 = true := by kernel_rfl
@[go_sem] theorem go110 : goFunc Try.prog 110 = true := by kernel_rfl
@[go_sem] theorem go111 : goFunc Try.prog 111 = true := by kernel_rfl
noncomputable def c27code : Code := match Try.f27.body with | some c => c | none => .skip
noncomputable def c27 : Cmd := (.seq (.ops [
 ⟨some 2, .move (.tmp 0), 24, none⟩,
 ⟨some 3, .binOp .neq 24 (.tmp 2) (.const (.pointer none)) 24, 4, none⟩] [0, 3])
 (.cond (.tmp 3)
  (.ops [
  ⟨some 4, .move (.tmp 0), 24, none⟩,
  ⟨some 5, .nilCheck (.tmp 4), 0, none⟩,
  ⟨some 6, .fieldAddr 76 (.tmp 5) 2, 0, none⟩,
  ⟨some 7, .load 74 (.tmp 6), 74, none⟩,
  ⟨none, .call ⟨.builtin .clear, #[(.tmp 7)], #[74]⟩, 0, none⟩] [])
  (.skip [])))
set_option maxRecDepth 100000 in
theorem ent27 (a0 : Value) (w : World) (K : Value → World → Prop) (h : W Try.prog c27 [(0, a0)] w (finQ Try.prog [] K)) : Ret Try.prog 27 [a0] w K :=
  Ret_of_W (code := c27code) Try.func27 (by kernel_rfl) (by kernel_rfl) (of_decide_eq_true (by kernel_rfl)) h
@[go_sem] theorem go27 : goFunc Try.prog 27 = true := by kernel_rfl
noncomputable def c24code : Code := match Try.f24.body with | some c => c | none => .skip
noncomputable def c24S0 (_ : Unit) : Cmd := (.seq (.ops [
 ⟨some 10, .move (.tmp 3), 28, none⟩,
 ⟨some 11, .binOp .neq 28 (.tmp 10) (.const (.int .i64 0)) 28, 4, none⟩,
 ⟨some 12, .move (.tmp 11), 4, none⟩,
 ⟨some 13, .move (.tmp 0), 24, (some (12, false))⟩,
 ⟨some 14, .nilCheck (.tmp 13), 0, (some (12, false))⟩,
 ⟨some 15, .fieldAddr 76 (.tmp 14) 2, 0, (some (12, false))⟩,
 ⟨some 16, .load 74 (.tmp 15), 74, (some (12, false))⟩,
 ⟨some 17, .call ⟨.builtin .len, #[(.tmp 16)], #[74]⟩, 3, (some (12, false))⟩,
 ⟨some 18, .binOp .eql 3 (.tmp 17) (.const (.int .i64 0)) 3, 4, (some (12, false))⟩,
 ⟨some 19, .pick (.tmp 12) (.const (.bool true)) (.tmp 18), 4, none⟩] [0, 3, 19])
 (.cond (.tmp 19)
  (.seq (.ops [
  ⟨some 20, .move (.tmp 3), 28, none⟩,
  ⟨some 2, .assign (.tmp 20), 28, none⟩] [2])
  .ret)
  (.skip [0])))
noncomputable def c24S1 (_ : Unit) : Cmd := (.block 1 (.seq (.ops [
 ⟨some 28, .entry (.tmp 25), 0, none⟩,
 ⟨some 29, .extract (.tmp 28) 0, 3, none⟩,
 ⟨some 30, .extract (.tmp 28) 1, 9, none⟩,
 ⟨some 5, .assign (.tmp 29), 3, none⟩,
 ⟨some 6, .assign (.tmp 30), 9, none⟩] [0, 4, 5, 6, 25])
 (.ops [
 ⟨some 31, .move (.tmp 4), 48, none⟩,
 ⟨some 32, .move (.tmp 5), 3, none⟩,
 ⟨some 33, .move (.tmp 6), 9, none⟩,
 ⟨some 34, .build 54 #[(0, (.tmp 32)), (1, (.tmp 33))], 54, none⟩,
 ⟨some 35, .buildSlice 48 1 #[(0, (.tmp 34))], 48, none⟩,
 ⟨some 36, .call ⟨.builtin .append, #[(.tmp 31), (.tmp 35)], #[48, 48]⟩, 48, none⟩,
 ⟨some 4, .assign (.tmp 36), 48, none⟩] [0, 4, 25])))
noncomputable def c24L0 (_ : Unit) : Cmd := (.seq (.ops [
 ⟨some 26, .next (.tmp 25) false, 0, none⟩,
 ⟨some 27, .extract (.tmp 26) 0, 4, none⟩] [0, 4, 25, 27])
 (.seq (.cond (.tmp 27)
  (.skip [0, 4, 25])
  (.exit 0 [0, 4])) (sg c24S1)))
noncomputable def c24S2 (_ : Unit) : Cmd := (.cond (.tmp 51)
  (.seq (.ops [
  ⟨some 2, .assign (.const (.int .i64 12)), 28, none⟩] [2])
  .ret)
  (.skip [0, 4]))
noncomputable def c24S3 (_ : Unit) : Cmd := (.seq (.ops [
 ⟨some 55, .move (.tmp 0), 24, none⟩,
 ⟨some 56, .move (.tmp 7), 28, none⟩,
 ⟨some 57, .binOp .neq 28 (.tmp 56) (.const (.int .i64 0)) 28, 4, none⟩,
 ⟨some 58, .nilCheck (.tmp 55), 0, none⟩,
 ⟨some 59, .fieldAddr 76 (.tmp 58) 3, 0, none⟩,
 ⟨none, .store 4 (.tmp 59) (.tmp 57), 0, none⟩] [7])
 (.seq (.ops [
 ⟨some 60, .move (.tmp 7), 28, none⟩,
 ⟨some 2, .assign (.tmp 60), 28, none⟩] [2])
 .ret))
noncomputable def c24S4 (_ : Unit) : Cmd := (.seq (.ops [
 ⟨some 52, .move (.tmp 0), 24, none⟩,
 ⟨some 53, .move (.tmp 4), 48, none⟩,
 ⟨some 54, .call ⟨.value (.func 57), #[(.tmp 52), (.tmp 53)], #[24, 48]⟩, 28, none⟩,
 ⟨some 7, .assign (.tmp 54), 28, none⟩] [0, 7]) (sg c24S3))
noncomputable def c24S5 (_ : Unit) : Cmd := (.seq (.seq (.draw (drawOps 0 c24code) [0, 4, 51]) (sg c24S2)) (sg c24S4))
noncomputable def c24S6 (_ : Unit) : Cmd := (.seq (.ops [
 ⟨some 39, .move (.tmp 0), 24, none⟩,
 ⟨some 40, .nilCheck (.tmp 39), 0, none⟩,
 ⟨some 41, .fieldAddr 76 (.tmp 40) 2, 0, none⟩,
 ⟨some 42, .load 74 (.tmp 41), 74, none⟩,
 ⟨none, .call ⟨.builtin .clear, #[(.tmp 42)], #[74]⟩, 0, none⟩] [0, 4]) (sg c24S5))
noncomputable def c24S7 (_ : Unit) : Cmd := (.seq (.ops [
 ⟨some 37, .move (.tmp 4), 48, none⟩,
 ⟨some 38, .call ⟨.value (.func 53), #[(.tmp 37), (.func 54)], #[48, 100]⟩, 0, none⟩] [0, 4]) (sg c24S6))
noncomputable def c24S8 (_ : Unit) : Cmd := (.seq (.ops [
 ⟨some 4, .assign (.const (.slice none 0 0)), 48, none⟩] [0, 4])
 (.seq (.seq (.ops [
 ⟨some 21, .move (.tmp 0), 24, none⟩,
 ⟨some 22, .nilCheck (.tmp 21), 0, none⟩,
 ⟨some 23, .fieldAddr 76 (.tmp 22) 2, 0, none⟩,
 ⟨some 24, .load 74 (.tmp 23), 74, none⟩,
 ⟨some 25, .range 74 (.tmp 24), 0, none⟩] [0, 4, 25])
 (.block 0 (.loop (sg c24L0)))) (sg c24S7)))
noncomputable def c24 : Cmd := (.seq (.ops [
 ⟨some 2, .assign (.const (.int .i64 0)), 28, none⟩] [0])
 (.seq (.seq (.ops [
 ⟨some 8, .move (.tmp 0), 24, none⟩,
 ⟨some 9, .call ⟨.value (.func 52), #[(.tmp 8), (.const (.int .i64 0))], #[24, 3]⟩, 28, none⟩,
 ⟨some 3, .assign (.tmp 9), 28, none⟩] [0, 3]) (sg c24S0)) (sg c24S8)))
noncomputable def c24D0 : List (Nat × Ins) := [
 (0, ⟨some 43, .move (.tmp 4), 48, none⟩),
 (0, ⟨some 44, .call ⟨.builtin .len, #[(.tmp 43)], #[48]⟩, 3, none⟩),
 (0, ⟨some 46, .move (.tmp 0), 24, none⟩),
 (0, ⟨some 47, .nilCheck (.tmp 46), 0, none⟩),
 (0, ⟨some 48, .fieldAddr 76 (.tmp 47) 1, 0, none⟩),
 (0, ⟨some 49, .fieldAddr 73 (.tmp 48) 2, 0, none⟩),
 (1, ⟨some 50, .load 3 (.tmp 49), 3, none⟩),
 (2, ⟨some 45, .call ⟨.value (.func 56), #[(.tmp 44)], #[3]⟩, 3, none⟩),
 (0, ⟨some 51, .binOp .gtr 3 (.tmp 45) (.tmp 50) 3, 4, none⟩)]
theorem c24draw0 {L : List Nat} {ρ : Env} {w : World} {Q : Post} (S : World → Prop) (hS : S w.drew) (h : DG Try.prog S c24D0 L ρ w.drew Q) : drawW Try.prog (drawOps 0 c24code) L ρ w Q :=
  drawW_held [7] [(0, 0), (0, 1), (0, 3), (0, 4), (0, 5), (0, 6), (1, 7), (2, 2), (0, 8)] c24D0 (by kernel_rfl) (by kernel_rfl) (by kernel_rfl) S hS h
set_option maxRecDepth 100000 in
theorem ent24 (a0 : Value) (w : World) (K : Value → World → Prop) (h : W Try.prog c24 [(0, a0)] w (finQ Try.prog [.tmp 2] K)) : Ret Try.prog 24 [a0] w K :=
  Ret_of_W (code := c24code) Try.func24 (by kernel_rfl) (by kernel_rfl) (of_decide_eq_true (by kernel_rfl)) h
@[go_sem] theorem go24 : goFunc Try.prog 24 = true := by kernel_rfl
noncomputable def c54code : Code := match Try.f54.body with | some c => c | none => .skip
noncomputable def c54S0 (_ : Unit) : Cmd := .ret
noncomputable def c54 : Cmd := (.seq (.ops [
 ⟨some 2, .box 54 (.tmp 0), 0, none⟩,
 ⟨some 3, .box 54 (.tmp 1), 0, none⟩,
 ⟨some 4, .assign (.const (.int .i64 0)), 3, none⟩] [2, 3])
 (.seq (.ops [
 ⟨some 5, .fieldAddr 54 (.tmp 2) 0, 0, none⟩,
 ⟨some 6, .load 3 (.tmp 5), 3, none⟩,
 ⟨some 7, .fieldAddr 54 (.tmp 3) 0, 0, none⟩,
 ⟨some 8, .load 3 (.tmp 7), 3, none⟩,
 ⟨some 9, .call ⟨.value (.func 55), #[(.tmp 6), (.tmp 8)], #[3, 3]⟩, 3, none⟩,
 ⟨some 4, .assign (.tmp 9), 3, none⟩] [4]) (sg c54S0)))
set_option maxRecDepth 100000 in
theorem ent54 (a0 a1 : Value) (w : World) (K : Value → World → Prop) (h : W Try.prog c54 [(0, a0), (1, a1)] w (finQ Try.prog [.tmp 4] K)) : Ret Try.prog 54 [a0, a1] w K :=
  Ret_of_W (code := c54code) Try.func54 (by kernel_rfl) (by kernel_rfl) (of_decide_eq_true (by kernel_rfl)) h
@[go_sem] theorem go54 : goFunc Try.prog 54 = true := by kernel_rfl
noncomputable def c55code : Code := match Try.f55.body with | some c => c | none => .skip
noncomputable def c55S0 (_ : Unit) : Cmd := (.seq (.ops [
  ⟨some 4, .assign (.const (.int .i64 (-1))), 3, none⟩] [4])
  .ret)
noncomputable def c55S1 (_ : Unit) : Cmd := (.seq (.ops [
 ⟨some 4, .assign (.const (.int .i64 0)), 3, none⟩] [4])
 .ret)
noncomputable def c55S2 (_ : Unit) : Cmd := (.seq (.seq (.ops [
 ⟨some 17, .move (.tmp 0), 3, none⟩,
 ⟨some 18, .move (.tmp 1), 3, none⟩,
 ⟨some 19, .binOp .gtr 3 (.tmp 17) (.tmp 18) 3, 4, none⟩] [19])
 (.cond (.tmp 19)
  (.seq (.ops [
  ⟨some 4, .assign (.const (.int .i64 1)), 3, none⟩] [4])
  .ret)
  (.skip []))) (sg c55S1))
noncomputable def c55S3 (_ : Unit) : Cmd := (.seq (.seq (.ops [
 ⟨some 14, .move (.tmp 0), 3, none⟩,
 ⟨some 15, .move (.tmp 1), 3, none⟩,
 ⟨some 16, .binOp .lss 3 (.tmp 14) (.tmp 15) 3, 4, none⟩] [0, 1, 16])
 (.cond (.tmp 16)
  (.seq (.ops [
  ⟨some 4, .assign (.const (.int .i64 (-1))), 3, none⟩] [4])
  .ret)
  (.skip [0, 1]))) (sg c55S2))
noncomputable def c55S4 (_ : Unit) : Cmd := (.seq (.seq (.ops [
 ⟨some 13, .move (.tmp 6), 4, none⟩] [0, 1, 13])
 (.cond (.tmp 13)
  (.seq (.ops [
  ⟨some 4, .assign (.const (.int .i64 1)), 3, none⟩] [4])
  .ret)
  (.skip [0, 1]))) (sg c55S3))
noncomputable def c55S5 (_ : Unit) : Cmd := (.seq (.seq (.ops [
 ⟨some 11, .move (.tmp 5), 4, none⟩] [0, 1, 6, 11])
 (.cond (.tmp 11)
  (.seq (.seq (.ops [
  ⟨some 12, .move (.tmp 6), 4, none⟩] [12])
  (.cond (.tmp 12)
   (.seq (.ops [
   ⟨some 4, .assign (.const (.int .i64 0)), 3, none⟩] [4])
   .ret)
   (.skip []))) (sg c55S0))
  (.skip [0, 1, 6]))) (sg c55S4))
noncomputable def c55S6 (_ : Unit) : Cmd := (.seq (.ops [
 ⟨some 9, .move (.tmp 1), 3, none⟩,
 ⟨some 10, .call ⟨.value (.func 75), #[(.tmp 9)], #[3]⟩, 4, none⟩,
 ⟨some 6, .assign (.tmp 10), 4, none⟩] [0, 1, 5, 6]) (sg c55S5))
noncomputable def c55 : Cmd := (.seq (.ops [
 ⟨some 4, .assign (.const (.int .i64 0)), 3, none⟩] [0, 1])
 (.seq (.ops [
 ⟨some 7, .move (.tmp 0), 3, none⟩,
 ⟨some 8, .call ⟨.value (.func 75), #[(.tmp 7)], #[3]⟩, 4, none⟩,
 ⟨some 5, .assign (.tmp 8), 4, none⟩] [0, 1, 5]) (sg c55S6)))
set_option maxRecDepth 100000 in
theorem ent55 (a0 a1 : Value) (w : World) (K : Value → World → Prop) (h : W Try.prog c55 [(0, a0), (1, a1)] w (finQ Try.prog [.tmp 4] K)) : Ret Try.prog 55 [a0, a1] w K :=
  Ret_of_W (code := c55code) Try.func55 (by kernel_rfl) (by kernel_rfl) (of_decide_eq_true (by kernel_rfl)) h
@[go_sem] theorem go55 : goFunc Try.prog 55 = true := by kernel_rfl
noncomputable def c56code : Code := match Try.f56.body with | some c => c | none => .skip
noncomputable def c56S0 (_ : Unit) : Cmd := .ret
noncomputable def c56 : Cmd := (.seq (.ops [
 ⟨some 2, .assign (.const (.int .i64 0)), 3, none⟩] [0])
 (.seq (.ops [
 ⟨some 3, .move (.tmp 0), 3, none⟩,
 ⟨some 4, .call ⟨.value (.func 76), #[(.tmp 3)], #[3]⟩, 3, none⟩,
 ⟨some 5, .move (.tmp 0), 3, none⟩,
 ⟨some 6, .binOp .add 3 (.tmp 4) (.tmp 5) 3, 3, none⟩,
 ⟨some 2, .assign (.tmp 6), 3, none⟩] [2]) (sg c56S0)))
set_option maxRecDepth 100000 in
theorem ent56 (a0 : Value) (w : World) (K : Value → World → Prop) (h : W Try.prog c56 [(0, a0)] w (finQ Try.prog [.tmp 2] K)) : Ret Try.prog 56 [a0] w K :=
  Ret_of_W (code := c56code) Try.func56 (by kernel_rfl) (by kernel_rfl) (of_decide_eq_true (by kernel_rfl)) h
@[go_sem] theorem go56 : goFunc Try.prog 56 = true := by kernel_rfl
noncomputable def c57code : Code := match Try.f57.body with | some c => c | none => .skip
noncomputable def c57S0 (_ : Unit) : Cmd := (.seq (.ops [
 ⟨some 35, .move (.tmp 9), 28, none⟩,
 ⟨some 36, .binOp .neq 28 (.tmp 35) (.const (.int .i64 0)) 28, 4, none⟩] [0, 1, 5, 9, 20, 21, 22, 36])
 (.cond (.tmp 36)
  (.seq (.ops [
  ⟨some 37, .move (.tmp 9), 28, none⟩,
  ⟨some 4, .assign (.tmp 37), 28, none⟩] [4])
  .ret)
  (.skip [0, 1, 5, 20, 21, 22])))
noncomputable def c57S1 (_ : Unit) : Cmd := (.ops [
 ⟨some 38, .binOp .add 3 (.tmp 22) (.const (.int .i64 1)) 3, 3, none⟩,
 ⟨some 22, .move (.tmp 38), 3, none⟩] [0, 1, 5, 20, 21, 22])
noncomputable def c57S2 (_ : Unit) : Cmd := (.seq (.block 1 (.seq (.ops [
 ⟨some 24, .move (.tmp 22), 3, none⟩,
 ⟨some 25, .indexAddr 36 (.tmp 20) (.tmp 22), 0, none⟩,
 ⟨some 26, .load 9 (.tmp 25), 9, none⟩,
 ⟨some 7, .assign (.tmp 24), 3, none⟩,
 ⟨some 8, .assign (.tmp 26), 9, none⟩] [0, 1, 5, 7, 8, 20, 21, 22])
 (.seq (.ops [
 ⟨some 27, .move (.tmp 0), 24, none⟩,
 ⟨some 28, .nilCheck (.tmp 27), 0, none⟩,
 ⟨some 29, .fieldAddr 76 (.tmp 28) 0, 0, none⟩,
 ⟨some 30, .load 23 (.tmp 29), 23, none⟩,
 ⟨some 31, .move (.tmp 7), 3, none⟩,
 ⟨some 32, .binOp .add 3 (.const (.int .i64 2)) (.tmp 31) 3, 3, none⟩,
 ⟨some 33, .move (.tmp 8), 9, none⟩,
 ⟨some 34, .call ⟨.value (.func 66), #[(.tmp 30), (.tmp 32), (.tmp 33)], #[23, 3, 9]⟩, 28, none⟩,
 ⟨some 9, .assign (.tmp 34), 28, none⟩] [0, 1, 5, 9, 20, 21, 22]) (sg c57S0)))) (sg c57S1))
noncomputable def c57L0 (_ : Unit) : Cmd := (.seq (.ops [
 ⟨some 23, .binOp .lss 3 (.tmp 22) (.tmp 21) 3, 0, none⟩] [0, 1, 5, 20, 21, 22, 23])
 (.seq (.cond (.tmp 23)
  (.skip [0, 1, 5, 20, 21, 22])
  (.exit 0 [0, 1, 5])) (sg c57S2)))
noncomputable def c57S3 (_ : Unit) : Cmd := (.seq (.ops [
 ⟨some 44, .move (.tmp 10), 28, none⟩,
 ⟨some 45, .binOp .neq 28 (.tmp 44) (.const (.int .i64 0)) 28, 4, none⟩] [0, 1, 5, 10, 45])
 (.cond (.tmp 45)
  (.seq (.ops [
  ⟨some 46, .move (.tmp 10), 28, none⟩,
  ⟨some 4, .assign (.tmp 46), 28, none⟩] [4])
  .ret)
  (.skip [0, 1, 5])))
noncomputable def c57S4 (_ : Unit) : Cmd := (.seq (.ops [
 ⟨some 51, .move (.tmp 11), 28, none⟩,
 ⟨some 52, .binOp .neq 28 (.tmp 51) (.const (.int .i64 0)) 28, 4, none⟩] [0, 1, 11, 52])
 (.cond (.tmp 52)
  (.seq (.ops [
  ⟨some 53, .move (.tmp 11), 28, none⟩,
  ⟨some 4, .assign (.tmp 53), 28, none⟩] [4])
  .ret)
  (.skip [0, 1])))
noncomputable def c57S5 (_ : Unit) : Cmd := .ret
noncomputable def c57S6 (_ : Unit) : Cmd := (.seq (.ops [
 ⟨some 54, .move (.tmp 0), 24, none⟩,
 ⟨some 55, .move (.tmp 1), 48, none⟩,
 ⟨some 56, .call ⟨.value (.func 61), #[(.tmp 54), (.tmp 55)], #[24, 48]⟩, 28, none⟩,
 ⟨some 4, .assign (.tmp 56), 28, none⟩] [4]) (sg c57S5))
noncomputable def c57S7 (_ : Unit) : Cmd := (.seq (.seq (.ops [
 ⟨some 47, .move (.tmp 0), 24, none⟩,
 ⟨some 48, .move (.tmp 5), 36, none⟩,
 ⟨some 49, .call ⟨.builtin .len, #[(.tmp 48)], #[36]⟩, 3, none⟩,
 ⟨some 50, .call ⟨.value (.func 79), #[(.tmp 47), (.tmp 49)], #[24, 3]⟩, 28, none⟩,
 ⟨some 11, .assign (.tmp 50), 28, none⟩] [0, 1, 11]) (sg c57S4)) (sg c57S6))
noncomputable def c57S8 (_ : Unit) : Cmd := (.seq (.seq (.ops [
 ⟨some 39, .move (.tmp 0), 24, none⟩,
 ⟨some 40, .nilCheck (.tmp 39), 0, none⟩,
 ⟨some 41, .fieldAddr 76 (.tmp 40) 0, 0, none⟩,
 ⟨some 42, .load 23 (.tmp 41), 23, none⟩,
 ⟨some 43, .call ⟨.value (.func 78), #[(.tmp 42)], #[23]⟩, 28, none⟩,
 ⟨some 10, .assign (.tmp 43), 28, none⟩] [0, 1, 5, 10]) (sg c57S3)) (sg c57S7))
noncomputable def c57S9 (_ : Unit) : Cmd := (.seq (.seq (.ops [
 ⟨some 20, .move (.tmp 5), 36, none⟩,
 ⟨some 21, .call ⟨.builtin .len, #[(.tmp 20)], #[36]⟩, 3, none⟩,
 ⟨some 22, .move (.const (.int .i64 0)), 3, none⟩] [0, 1, 5, 20, 21, 22])
 (.block 0 (.loop (sg c57L0)))) (sg c57S8))
noncomputable def c57S10 (_ : Unit) : Cmd := (.seq (.seq (.ops [
 ⟨some 17, .move (.tmp 6), 28, none⟩,
 ⟨some 18, .binOp .neq 28 (.tmp 17) (.const (.int .i64 0)) 28, 4, none⟩] [0, 1, 5, 6, 18])
 (.cond (.tmp 18)
  (.seq (.ops [
  ⟨some 19, .move (.tmp 6), 28, none⟩,
  ⟨some 4, .assign (.tmp 19), 28, none⟩] [4])
  .ret)
  (.skip [0, 1, 5]))) (sg c57S9))
noncomputable def c57 : Cmd := (.seq (.ops [
 ⟨some 4, .assign (.const (.int .i64 0)), 28, none⟩] [0, 1])
 (.seq (.ops [
 ⟨some 13, .move (.tmp 1), 48, none⟩,
 ⟨some 14, .call ⟨.value (.func 77), #[(.tmp 13)], #[48]⟩, 126, none⟩,
 ⟨some 12, .move (.tmp 14), 126, none⟩,
 ⟨some 15, .extract (.tmp 12) 0, 36, none⟩,
 ⟨some 16, .extract (.tmp 12) 1, 28, none⟩,
 ⟨some 5, .assign (.tmp 15), 36, none⟩,
 ⟨some 6, .assign (.tmp 16), 28, none⟩] [0, 1, 5, 6]) (sg c57S10)))
set_option maxRecDepth 100000 in
theorem ent57 (a0 a1 : Value) (w : World) (K : Value → World → Prop) (h : W Try.prog c57 [(0, a0), (1, a1)] w (finQ Try.prog [.tmp 4] K)) : Ret Try.prog 57 [a0, a1] w K :=
  Ret_of_W (code := c57code) Try.func57 (by kernel_rfl) (by kernel_rfl) (of_decide_eq_true (by kernel_rfl)) h
@[go_sem] theorem go57 : goFunc Try.prog 57 = true := by kernel_rfl
@[go_sem] theorem go60 : goFunc Try.prog 60 = true := by kernel_rfl
noncomputable def c61code : Code := match Try.f61.body with | some c => c | none => .skip
noncomputable def c61S0 (_ : Unit) : Cmd := (.cond (.tmp 22)
  (.seq (.ops [
  ⟨some 4, .assign (.const (.int .i64 14)), 28, none⟩] [4])
  .ret)
  (.skip [0, 6, 9, 10, 11]))
noncomputable def c61S1 (_ : Unit) : Cmd := (.seq (.ops [
 ⟨some 39, .move (.tmp 7), 28, none⟩,
 ⟨some 40, .binOp .neq 28 (.tmp 39) (.const (.int .i64 0)) 28, 4, none⟩] [0, 7, 9, 10, 11, 40])
 (.cond (.tmp 40)
  (.seq (.ops [
  ⟨some 41, .move (.tmp 7), 28, none⟩,
  ⟨some 4, .assign (.tmp 41), 28, none⟩] [4])
  .ret)
  (.skip [0, 9, 10, 11])))
noncomputable def c61S2 (_ : Unit) : Cmd := (.seq (.draw (drawOps 1 c61code) [0, 7, 9, 10, 11]) (sg c61S1))
noncomputable def c61S3 (_ : Unit) : Cmd := (.ops [
 ⟨some 42, .binOp .add 3 (.tmp 11) (.const (.int .i64 1)) 3, 3, none⟩,
 ⟨some 11, .move (.tmp 42), 3, none⟩] [0, 9, 10, 11])
noncomputable def c61S4 (_ : Unit) : Cmd := (.seq (.block 1 (.seq (.ops [
 ⟨some 13, .indexAddr 48 (.tmp 9) (.tmp 11), 0, none⟩,
 ⟨some 14, .load 54 (.tmp 13), 54, none⟩,
 ⟨some 6, .alloc 54, 0, none⟩,
 ⟨none, .store 54 (.tmp 6) (.tmp 14), 0, none⟩] [0, 6, 9, 10, 11])
 (.seq (.seq (.draw (drawOps 0 c61code) [0, 6, 9, 10, 11, 22]) (sg c61S0)) (sg c61S2)))) (sg c61S3))
noncomputable def c61L0 (_ : Unit) : Cmd := (.seq (.ops [
 ⟨some 12, .binOp .lss 3 (.tmp 11) (.tmp 10) 3, 0, none⟩] [0, 9, 10, 11, 12])
 (.seq (.cond (.tmp 12)
  (.skip [0, 9, 10, 11])
  (.exit 0 [0])) (sg c61S4)))
noncomputable def c61S5 (_ : Unit) : Cmd := (.seq (.ops [
 ⟨some 48, .move (.tmp 8), 28, none⟩,
 ⟨some 49, .binOp .neq 28 (.tmp 48) (.const (.int .i64 0)) 28, 4, none⟩] [0, 8, 49])
 (.cond (.tmp 49)
  (.seq (.ops [
  ⟨some 50, .move (.tmp 8), 28, none⟩,
  ⟨some 4, .assign (.tmp 50), 28, none⟩] [4])
  .ret)
  (.skip [0])))
noncomputable def c61S6 (_ : Unit) : Cmd := .ret
noncomputable def c61S7 (_ : Unit) : Cmd := (.seq (.ops [
 ⟨some 51, .move (.tmp 0), 24, none⟩,
 ⟨some 52, .call ⟨.value (.func 79), #[(.tmp 51), (.const (.int .i64 0))], #[24, 3]⟩, 28, none⟩,
 ⟨some 4, .assign (.tmp 52), 28, none⟩] [4]) (sg c61S6))
noncomputable def c61S8 (_ : Unit) : Cmd := (.seq (.seq (.ops [
 ⟨some 43, .move (.tmp 0), 24, none⟩,
 ⟨some 44, .nilCheck (.tmp 43), 0, none⟩,
 ⟨some 45, .fieldAddr 76 (.tmp 44) 0, 0, none⟩,
 ⟨some 46, .load 23 (.tmp 45), 23, none⟩,
 ⟨some 47, .call ⟨.value (.func 78), #[(.tmp 46)], #[23]⟩, 28, none⟩,
 ⟨some 8, .assign (.tmp 47), 28, none⟩] [0, 8]) (sg c61S5)) (sg c61S7))
noncomputable def c61 : Cmd := (.seq (.ops [
 ⟨some 4, .assign (.const (.int .i64 0)), 28, none⟩] [0, 1])
 (.seq (.seq (.ops [
 ⟨some 9, .move (.tmp 1), 48, none⟩,
 ⟨some 10, .call ⟨.builtin .len, #[(.tmp 9)], #[48]⟩, 3, none⟩,
 ⟨some 11, .move (.const (.int .i64 0)), 3, none⟩] [0, 9, 10, 11])
 (.block 0 (.loop (sg c61L0)))) (sg c61S8)))
noncomputable def c61D0 : List (Bool × Ins) := [
 (true, ⟨some 15, .fieldAddr 54 (.tmp 6) 0, 0, none⟩),
 (false, ⟨some 16, .load 3 (.tmp 15), 3, none⟩),
 (true, ⟨some 17, .move (.tmp 0), 24, none⟩),
 (true, ⟨some 18, .nilCheck (.tmp 17), 0, none⟩),
 (true, ⟨some 19, .fieldAddr 76 (.tmp 18) 1, 0, none⟩),
 (true, ⟨some 20, .fieldAddr 73 (.tmp 19) 3, 0, none⟩),
 (false, ⟨some 21, .load 3 (.tmp 20), 3, none⟩),
 (true, ⟨some 22, .binOp .geq 3 (.tmp 16) (.tmp 21) 3, 4, none⟩)]
theorem c61draw0 {L : List Nat} {ρ : Env} {w : World} {Q : Post} (h : DL Try.prog c61D0 L ρ w.drew Q) : drawW Try.prog (drawOps 0 c61code) L ρ w Q :=
  drawW_still [true, false, true, true, true, true, false, true] c61D0 (by kernel_rfl) (by kernel_rfl) (by kernel_rfl) h
noncomputable def c61D1 : List (Nat × Ins) := [
 (0, ⟨some 23, .move (.tmp 0), 24, none⟩),
 (0, ⟨some 24, .nilCheck (.tmp 23), 0, none⟩),
 (0, ⟨some 25, .fieldAddr 76 (.tmp 24) 0, 0, none⟩),
 (0, ⟨some 27, .move (.tmp 0), 24, none⟩),
 (0, ⟨some 28, .nilCheck (.tmp 27), 0, none⟩),
 (0, ⟨some 29, .fieldAddr 76 (.tmp 28) 1, 0, none⟩),
 (0, ⟨some 30, .fieldAddr 73 (.tmp 29) 2, 0, none⟩),
 (0, ⟨some 33, .fieldAddr 54 (.tmp 6) 0, 0, none⟩),
 (0, ⟨some 36, .fieldAddr 54 (.tmp 6) 1, 0, none⟩),
 (1, ⟨some 26, .load 23 (.tmp 25), 23, none⟩),
 (1, ⟨some 31, .load 3 (.tmp 30), 3, none⟩),
 (0, ⟨some 32, .binOp .add 3 (.const (.int .i64 2)) (.tmp 31) 3, 3, none⟩),
 (1, ⟨some 34, .load 3 (.tmp 33), 3, none⟩),
 (0, ⟨some 35, .binOp .add 3 (.tmp 32) (.tmp 34) 3, 3, none⟩),
 (2, ⟨some 37, .load 9 (.tmp 36), 9, none⟩),
 (2, ⟨some 38, .call ⟨.value (.func 66), #[(.tmp 26), (.tmp 35), (.tmp 37)], #[23, 3, 9]⟩, 28, none⟩),
 (0, ⟨some 7, .assign (.tmp 38), 28, none⟩)]
theorem c61draw1 {L : List Nat} {ρ : Env} {w : World} {Q : Post} (S : World → Prop) (hS : S w.drew) (h : DG Try.prog S c61D1 L ρ w.drew Q) : drawW Try.prog (drawOps 1 c61code) L ρ w Q :=
  drawW_held [3, 8, 11] [(0, 0), (0, 1), (0, 2), (0, 4), (0, 5), (0, 6), (0, 7), (0, 10), (0, 13), (1, 3), (1, 8), (0, 9), (1, 11), (0, 12), (2, 14), (2, 15), (0, 16)] c61D1 (by kernel_rfl) (by kernel_rfl) (by kernel_rfl) S hS h
set_option maxRecDepth 100000 in
theorem ent61 (a0 a1 : Value) (w : World) (K : Value → World → Prop) (h : W Try.prog c61 [(0, a0), (1, a1)] w (finQ Try.prog [.tmp 4] K)) : Ret Try.prog 61 [a0, a1] w K :=
  Ret_of_W (code := c61code) Try.func61 (by kernel_rfl) (by kernel_rfl) (of_decide_eq_true (by kernel_rfl)) h
@[go_sem] theorem go61 : goFunc Try.prog 61 = true := by kernel_rfl
noncomputable def c76code : Code := match Try.f76.body with | some c => c | none => .skip
noncomputable def c76 : Cmd := (.seq (.ops [
 ⟨some 2, .assign (.const (.int .i64 0)), 3, none⟩] [0])
 (.seq (.ops [
 ⟨some 3, .move (.tmp 0), 3, none⟩,
 ⟨some 4, .binOp .mul 3 (.const (.int .i64 4)) (.tmp 3) 3, 3, none⟩,
 ⟨some 5, .binOp .add 3 (.tmp 4) (.const (.int .i64 4)) 3, 3, none⟩,
 ⟨some 6, .binOp .add 3 (.tmp 5) (.const (.int .i64 256)) 3, 3, none⟩,
 ⟨some 7, .binOp .sub 3 (.tmp 6) (.const (.int .i64 1)) 3, 3, none⟩,
 ⟨some 8, .binOp .quo 3 (.tmp 7) (.const (.int .i64 256)) 3, 3, none⟩,
 ⟨some 2, .assign (.tmp 8), 3, none⟩] [2])
 .ret))
set_option maxRecDepth 100000 in
theorem ent76 (a0 : Value) (w : World) (K : Value → World → Prop) (h : W Try.prog c76 [(0, a0)] w (finQ Try.prog [.tmp 2] K)) : Ret Try.prog 76 [a0] w K :=
  Ret_of_W (code := c76code) Try.func76 (by kernel_rfl) (by kernel_rfl) (of_decide_eq_true (by kernel_rfl)) h
@[go_sem] theorem go76 : goFunc Try.prog 76 = true := by kernel_rfl
noncomputable def c77code : Code := match Try.f77.body with | some c => c | none => .skip
noncomputable def c77S0 (_ : Unit) : Cmd := (.ops [
 ⟨some 40, .fieldAddr 54 (.tmp 6) 0, 0, none⟩,
 ⟨some 41, .load 3 (.tmp 40), 3, none⟩,
 ⟨some 42, .convert 3 59 (.tmp 41), 59, none⟩,
 ⟨some 43, .call ⟨.value (.func 50), #[(.tmp 42), (.const (.int .i64 4))], #[59, 3]⟩, 9, none⟩,
 ⟨some 44, .call ⟨.value (.func 102), #[(.tmp 4), (.tmp 43)], #[152, 9]⟩, 155, none⟩] [0, 4, 20, 21, 22])
noncomputable def c77S1 (_ : Unit) : Cmd := (.ops [
 ⟨some 45, .binOp .add 3 (.tmp 22) (.const (.int .i64 1)) 3, 3, none⟩,
 ⟨some 22, .move (.tmp 45), 3, none⟩] [0, 4, 20, 21, 22])
noncomputable def c77S2 (_ : Unit) : Cmd := (.seq (.block 1 (.seq (.ops [
 ⟨some 24, .indexAddr 48 (.tmp 20) (.tmp 22), 0, none⟩,
 ⟨some 25, .load 54 (.tmp 24), 54, none⟩,
 ⟨some 6, .alloc 54, 0, none⟩,
 ⟨none, .store 54 (.tmp 6) (.tmp 25), 0, none⟩] [0, 4, 6, 20, 21, 22])
 (.seq (.block 2 (.seq (.ops [
 ⟨some 27, .fieldAddr 54 (.tmp 6) 0, 0, none⟩,
 ⟨some 28, .load 3 (.tmp 27), 3, none⟩,
 ⟨some 29, .binOp .lss 3 (.tmp 28) (.const (.int .i64 0)) 3, 4, none⟩,
 ⟨some 30, .move (.tmp 29), 4, none⟩,
 ⟨some 31, .fieldAddr 54 (.tmp 6) 0, 0, (some (30, false))⟩,
 ⟨some 32, .load 3 (.tmp 31), 3, (some (30, false))⟩,
 ⟨some 33, .binOp .geq 3 (.tmp 32) (.const (.int .i64 2048)) 3, 4, (some (30, false))⟩,
 ⟨some 34, .pick (.tmp 30) (.const (.bool true)) (.tmp 33), 4, none⟩,
 ⟨some 26, .assign (.tmp 34), 4, none⟩] [0, 4, 6, 20, 21, 22, 26])
 (.cond (.tmp 26)
  (.seq (.ops [
  ⟨some 2, .assign (.const (.slice none 0 0)), 36, none⟩,
  ⟨some 3, .assign (.const (.int .i64 10)), 28, none⟩] [2, 3])
  .ret)
  (.seq (.ops [
  ⟨some 36, .fieldAddr 54 (.tmp 6) 1, 0, none⟩,
  ⟨some 37, .load 9 (.tmp 36), 9, none⟩,
  ⟨some 38, .call ⟨.builtin .len, #[(.tmp 37)], #[9]⟩, 3, none⟩,
  ⟨some 39, .binOp .gtr 3 (.tmp 38) (.const (.int .i64 256)) 3, 4, none⟩,
  ⟨some 35, .assign (.tmp 39), 4, none⟩] [0, 4, 6, 20, 21, 22, 35])
  (.cond (.tmp 35)
   (.seq (.ops [
   ⟨some 2, .assign (.const (.slice none 0 0)), 36, none⟩,
   ⟨some 3, .assign (.const (.int .i64 21)), 28, none⟩] [2, 3])
   .ret)
   (.skip [0, 4, 6, 20, 21, 22])))))) (sg c77S0)))) (sg c77S1))
noncomputable def c77L0 (_ : Unit) : Cmd := (.seq (.ops [
 ⟨some 23, .binOp .lss 3 (.tmp 22) (.tmp 21) 3, 0, none⟩] [0, 4, 20, 21, 22, 23])
 (.seq (.cond (.tmp 23)
  (.skip [0, 4, 20, 21, 22])
  (.exit 0 [0, 4])) (sg c77S2)))
noncomputable def c77S3 (_ : Unit) : Cmd := (.ops [
 ⟨some 62, .move (.tmp 7), 9, none⟩,
 ⟨some 63, .move (.tmp 9), 3, none⟩,
 ⟨some 64, .slice 9 (.tmp 62) (some (.tmp 63)) none none, 9, none⟩,
 ⟨some 7, .assign (.tmp 64), 9, none⟩] [0, 7, 8, 49, 50])
noncomputable def c77S4 (_ : Unit) : Cmd := (.seq (.ops [
 ⟨some 55, .move (.tmp 8), 36, none⟩,
 ⟨some 56, .move (.tmp 7), 9, none⟩,
 ⟨some 57, .move (.tmp 9), 3, none⟩,
 ⟨some 58, .slice 9 (.tmp 56) none (some (.tmp 57)) none, 9, none⟩,
 ⟨some 59, .call ⟨.value (.func 104), #[(.tmp 58)], #[9]⟩, 9, none⟩,
 ⟨some 60, .buildSlice 36 1 #[(0, (.tmp 59))], 36, none⟩,
 ⟨some 61, .call ⟨.builtin .append, #[(.tmp 55), (.tmp 60)], #[36, 36]⟩, 36, none⟩,
 ⟨some 8, .assign (.tmp 61), 36, none⟩] [0, 7, 8, 9, 49, 50]) (sg c77S3))
noncomputable def c77S5 (_ : Unit) : Cmd := (.ops [
 ⟨some 65, .binOp .add 3 (.tmp 50) (.const (.int .i64 1)) 3, 3, none⟩,
 ⟨some 50, .move (.tmp 65), 3, none⟩] [0, 7, 8, 49, 50])
noncomputable def c77S6 (_ : Unit) : Cmd := (.seq (.block 4 (.seq (.ops [
 ⟨some 52, .move (.tmp 7), 9, none⟩,
 ⟨some 53, .call ⟨.builtin .len, #[(.tmp 52)], #[9]⟩, 3, none⟩,
 ⟨some 54, .call ⟨.builtin .min, #[(.tmp 53), (.const (.int .i64 256))], #[3, 3]⟩, 3, none⟩,
 ⟨some 9, .assign (.tmp 54), 3, none⟩] [0, 7, 8, 9, 49, 50]) (sg c77S4))) (sg c77S5))
noncomputable def c77L1 (_ : Unit) : Cmd := (.seq (.ops [
 ⟨some 51, .binOp .lss 3 (.tmp 50) (.tmp 49) 3, 4, none⟩] [0, 7, 8, 49, 50, 51])
 (.seq (.cond (.tmp 51)
  (.skip [0, 7, 8, 49, 50])
  (.exit 3 [0, 8])) (sg c77S6)))
noncomputable def c77S7 (_ : Unit) : Cmd := (.block 3 (.loop (sg c77L1)))
noncomputable def c77S8 (_ : Unit) : Cmd := (.ops [
 ⟨some 78, .binOp .add 3 (.tmp 68) (.const (.int .i64 1)) 3, 3, none⟩,
 ⟨some 68, .move (.tmp 78), 3, none⟩] [8, 66, 67, 68])
noncomputable def c77S9 (_ : Unit) : Cmd := (.seq (.block 6 (.seq (.ops [
 ⟨some 70, .indexAddr 48 (.tmp 66) (.tmp 68), 0, none⟩,
 ⟨some 71, .load 54 (.tmp 70), 54, none⟩,
 ⟨some 11, .alloc 54, 0, none⟩,
 ⟨none, .store 54 (.tmp 11) (.tmp 71), 0, none⟩] [8, 11, 66, 67, 68])
 (.ops [
 ⟨some 72, .move (.tmp 8), 36, none⟩,
 ⟨some 73, .fieldAddr 54 (.tmp 11) 1, 0, none⟩,
 ⟨some 74, .load 9 (.tmp 73), 9, none⟩,
 ⟨some 75, .call ⟨.value (.func 104), #[(.tmp 74)], #[9]⟩, 9, none⟩,
 ⟨some 76, .buildSlice 36 1 #[(0, (.tmp 75))], 36, none⟩,
 ⟨some 77, .call ⟨.builtin .append, #[(.tmp 72), (.tmp 76)], #[36, 36]⟩, 36, none⟩,
 ⟨some 8, .assign (.tmp 77), 36, none⟩] [8, 66, 67, 68]))) (sg c77S8))
noncomputable def c77L2 (_ : Unit) : Cmd := (.seq (.ops [
 ⟨some 69, .binOp .lss 3 (.tmp 68) (.tmp 67) 3, 0, none⟩] [8, 66, 67, 68, 69])
 (.seq (.cond (.tmp 69)
  (.skip [8, 66, 67, 68])
  (.exit 5 [8])) (sg c77S9)))
noncomputable def c77S10 (_ : Unit) : Cmd := (.seq (.ops [
 ⟨some 79, .move (.tmp 8), 36, none⟩,
 ⟨some 2, .assign (.tmp 79), 36, none⟩,
 ⟨some 3, .assign (.const (.int .i64 0)), 28, none⟩] [2, 3])
 .ret)
noncomputable def c77S11 (_ : Unit) : Cmd := (.seq (.seq (.ops [
 ⟨some 66, .move (.tmp 0), 48, none⟩,
 ⟨some 67, .call ⟨.builtin .len, #[(.tmp 66)], #[48]⟩, 3, none⟩,
 ⟨some 68, .move (.const (.int .i64 0)), 3, none⟩] [8, 66, 67, 68])
 (.block 5 (.loop (sg c77L2)))) (sg c77S10))
noncomputable def c77S12 (_ : Unit) : Cmd := (.seq (.ops [
 ⟨some 8, .assign (.const (.slice none 0 0)), 36, none⟩] [0, 7, 8])
 (.seq (.seq (.ops [
 ⟨some 47, .move (.tmp 0), 48, none⟩,
 ⟨some 48, .call ⟨.builtin .len, #[(.tmp 47)], #[48]⟩, 3, none⟩,
 ⟨some 49, .call ⟨.value (.func 76), #[(.tmp 48)], #[3]⟩, 3, none⟩,
 ⟨some 50, .move (.const (.int .i64 0)), 3, none⟩] [0, 7, 8, 49, 50]) (sg c77S7)) (sg c77S11)))
noncomputable def c77S13 (_ : Unit) : Cmd := (.seq (.ops [
 ⟨some 46, .call ⟨.value (.func 103), #[(.tmp 4)], #[152]⟩, 9, none⟩,
 ⟨some 7, .assign (.tmp 46), 9, none⟩] [0, 7]) (sg c77S12))
noncomputable def c77S14 (_ : Unit) : Cmd := (.seq (.seq (.ops [
 ⟨some 20, .move (.tmp 0), 48, none⟩,
 ⟨some 21, .call ⟨.builtin .len, #[(.tmp 20)], #[48]⟩, 3, none⟩,
 ⟨some 22, .move (.const (.int .i64 0)), 3, none⟩] [0, 4, 20, 21, 22])
 (.block 0 (.loop (sg c77L0)))) (sg c77S13))
noncomputable def c77S15 (_ : Unit) : Cmd := (.seq (.ops [
 ⟨some 4, .alloc 152, 0, none⟩] [0, 4])
 (.seq (.ops [
 ⟨some 15, .move (.tmp 0), 48, none⟩,
 ⟨some 16, .call ⟨.builtin .len, #[(.tmp 15)], #[48]⟩, 3, none⟩,
 ⟨some 17, .convert 3 59 (.tmp 16), 59, none⟩,
 ⟨some 18, .call ⟨.value (.func 50), #[(.tmp 17), (.const (.int .i64 4))], #[59, 3]⟩, 9, none⟩,
 ⟨some 19, .call ⟨.value (.func 102), #[(.tmp 4), (.tmp 18)], #[152, 9]⟩, 155, none⟩] [0, 4]) (sg c77S14)))
noncomputable def c77 : Cmd := (.seq (.ops [
 ⟨some 2, .assign (.const (.slice none 0 0)), 36, none⟩,
 ⟨some 3, .assign (.const (.int .i64 0)), 28, none⟩] [0])
 (.seq (.seq (.ops [
 ⟨some 12, .move (.tmp 0), 48, none⟩,
 ⟨some 13, .call ⟨.builtin .len, #[(.tmp 12)], #[48]⟩, 3, none⟩,
 ⟨some 14, .binOp .gtr 3 (.tmp 13) (.const (.int .i64 1024)) 3, 4, none⟩] [0, 14])
 (.cond (.tmp 14)
  (.seq (.ops [
  ⟨some 2, .assign (.const (.slice none 0 0)), 36, none⟩,
  ⟨some 3, .assign (.const (.int .i64 2)), 28, none⟩] [2, 3])
  .ret)
  (.skip [0]))) (sg c77S15)))
set_option maxRecDepth 100000 in
theorem ent77 (a0 : Value) (w : World) (K : Value → World → Prop) (h : W Try.prog c77 [(0, a0)] w (finQ Try.prog [.tmp 2, .tmp 3] K)) : Ret Try.prog 77 [a0] w K :=
  Ret_of_W (code := c77code) Try.func77 (by kernel_rfl) (by kernel_rfl) (of_decide_eq_true (by kernel_rfl)) h
@[go_sem] theorem go77 : goFunc Try.prog 77 = true := by kernel_rfl
noncomputable def c104code : Code := match Try.f104.body with | some c => c | none => .skip
noncomputable def c104 : Cmd := (.seq (.ops [
 ⟨some 2, .assign (.const (.string (ofL []))), 9, none⟩] [0])
 (.seq (.ops [
 ⟨some 3, .move (.tmp 0), 9, none⟩,
 ⟨some 4, .move (.tmp 0), 9, none⟩,
 ⟨some 5, .call ⟨.builtin .len, #[(.tmp 4)], #[9]⟩, 3, none⟩,
 ⟨some 6, .binOp .sub 3 (.const (.int .i64 256)) (.tmp 5) 3, 3, none⟩,
 ⟨some 7, .makeSlice 95 (.tmp 6) (.tmp 6), 95, none⟩,
 ⟨some 8, .convert 95 9 (.tmp 7), 9, none⟩,
 ⟨some 9, .binOp .add 9 (.tmp 3) (.tmp 8) 9, 9, none⟩,
 ⟨some 2, .assign (.tmp 9), 9, none⟩] [2])
 .ret))
set_option maxRecDepth 100000 in
theorem ent104 (a0 : Value) (w : World) (K : Value → World → Prop) (h : W Try.prog c104 [(0, a0)] w (finQ Try.prog [.tmp 2] K)) : Ret Try.prog 104 [a0] w K :=
  Ret_of_W (code := c104code) Try.func104 (by kernel_rfl) (by kernel_rfl) (of_decide_eq_true (by kernel_rfl)) h
@[go_sem] theorem go104 : goFunc Try.prog 104 = true := by kernel_rfl
@[go_sem] theorem go82 : goFunc Try.prog 82 = true := by kernel_rfl
noncomputable def c102code : Code := match Try.f102.body with | some c => c | none => .skip
noncomputable def c102S0 (_ : Unit) : Cmd := (.seq (.ops [
 ⟨some 17, .move (.tmp 1), 9, none⟩,
 ⟨some 18, .call ⟨.builtin .len, #[(.tmp 17)], #[9]⟩, 3, none⟩,
 ⟨some 4, .assign (.tmp 18), 3, none⟩,
 ⟨some 5, .assign (.const .nilIface), 154, none⟩] [4, 5])
 .ret)
noncomputable def c102S1 (_ : Unit) : Cmd := (.seq (.ops [
 ⟨some 8, .move (.tmp 0), 150, none⟩,
 ⟨some 9, .move (.tmp 0), 150, none⟩,
 ⟨some 10, .nilCheck (.tmp 9), 0, none⟩,
 ⟨some 11, .fieldAddr 152 (.tmp 10) 1, 0, none⟩,
 ⟨some 12, .load 95 (.tmp 11), 95, none⟩,
 ⟨some 13, .move (.tmp 1), 9, none⟩,
 ⟨some 14, .call ⟨.builtin .append, #[(.tmp 12), (.tmp 13)], #[95, 9]⟩, 95, none⟩,
 ⟨some 15, .nilCheck (.tmp 8), 0, none⟩,
 ⟨some 16, .fieldAddr 152 (.tmp 15) 1, 0, none⟩,
 ⟨none, .store 95 (.tmp 16) (.tmp 14), 0, none⟩] [1]) (sg c102S0))
noncomputable def c102 : Cmd := (.seq (.ops [
 ⟨some 4, .assign (.const (.int .i64 0)), 3, none⟩,
 ⟨some 5, .assign (.const .nilIface), 154, none⟩] [0, 1])
 (.seq (.ops [
 ⟨some 6, .move (.tmp 0), 150, none⟩,
 ⟨some 7, .call ⟨.value (.func 119), #[(.tmp 6)], #[150]⟩, 0, none⟩] [0, 1]) (sg c102S1)))
set_option maxRecDepth 100000 in
theorem ent102 (a0 a1 : Value) (w : World) (K : Value → World → Prop) (h : W Try.prog c102 [(0, a0), (1, a1)] w (finQ Try.prog [.tmp 4, .tmp 5] K)) : Ret Try.prog 102 [a0, a1] w K :=
  Ret_of_W (code := c102code) Try.func102 (by kernel_rfl) (by kernel_rfl) (of_decide_eq_true (by kernel_rfl)) h
@[go_sem] theorem go102 : goFunc Try.prog 102 = true := by kernel_rfl
noncomputable def c103code : Code := match Try.f103.body with | some c => c | none => .skip
noncomputable def c103S0 (_ : Unit) : Cmd := .ret
noncomputable def c103 : Cmd := (.seq (.ops [
 ⟨some 2, .assign (.const (.string (ofL []))), 9, none⟩] [0])
 (.seq (.draw (drawOps 0 c103code) [2]) (sg c103S0)))
noncomputable def c103D0 : List (Nat × Ins) := [
 (0, ⟨some 3, .move (.tmp 0), 150, none⟩),
 (0, ⟨some 4, .nilCheck (.tmp 3), 0, none⟩),
 (0, ⟨some 5, .fieldAddr 152 (.tmp 4) 1, 0, none⟩),
 (0, ⟨some 8, .move (.tmp 0), 150, none⟩),
 (0, ⟨some 9, .nilCheck (.tmp 8), 0, none⟩),
 (0, ⟨some 10, .fieldAddr 152 (.tmp 9) 1, 0, none⟩),
 (1, ⟨some 6, .load 95 (.tmp 5), 95, none⟩),
 (1, ⟨some 11, .load 95 (.tmp 10), 95, none⟩),
 (0, ⟨some 12, .call ⟨.builtin .len, #[(.tmp 11)], #[95]⟩, 3, none⟩),
 (2, ⟨some 7, .call ⟨.builtin .unsafeSliceData, #[(.tmp 6)], #[95]⟩, 169, none⟩),
 (2, ⟨some 13, .call ⟨.builtin .unsafeString, #[(.tmp 7), (.tmp 12)], #[169, 3]⟩, 9, none⟩),
 (0, ⟨some 2, .assign (.tmp 13), 9, none⟩)]
theorem c103draw0 {L : List Nat} {ρ : Env} {w : World} {Q : Post} (S : World → Prop) (hS : S w.drew) (h : DG Try.prog S c103D0 L ρ w.drew Q) : drawW Try.prog (drawOps 0 c103code) L ρ w Q :=
  drawW_held [3, 8] [(0, 0), (0, 1), (0, 2), (0, 5), (0, 6), (0, 7), (1, 3), (1, 8), (0, 9), (2, 4), (2, 10), (0, 11)] c103D0 (by kernel_rfl) (by kernel_rfl) (by kernel_rfl) S hS h
set_option maxRecDepth 100000 in
theorem ent103 (a0 : Value) (w : World) (K : Value → World → Prop) (h : W Try.prog c103 [(0, a0)] w (finQ Try.prog [.tmp 2] K)) : Ret Try.prog 103 [a0] w K :=
  Ret_of_W (code := c103code) Try.func103 (by kernel_rfl) (by kernel_rfl) (of_decide_eq_true (by kernel_rfl)) h
@[go_sem] theorem go103 : goFunc Try.prog 103 = true := by kernel_rfl
@[go_sem] theorem go89 : goFunc Try.prog 89 = true := by kernel_rfl
@[go_sem] theorem go91 : goFunc Try.prog 91 = true := by kernel_rfl
noncomputable def c75code : Code := match Try.f75.body with | some c => c | none => .skip
noncomputable def c75 : Cmd := (.seq (.ops [
 ⟨some 2, .assign (.const (.bool false)), 4, none⟩] [0])
 (.seq (.ops [
 ⟨some 3, .move (.tmp 0), 3, none⟩,
 ⟨some 4, .move (.tmp 0), 3, none⟩,
 ⟨some 5, .binOp .neq 3 (.tmp 3) (.tmp 4) 3, 4, none⟩,
 ⟨some 2, .assign (.tmp 5), 4, none⟩] [2])
 .ret))
set_option maxRecDepth 100000 in
theorem ent75 (a0 : Value) (w : World) (K : Value → World → Prop) (h : W Try.prog c75 [(0, a0)] w (finQ Try.prog [.tmp 2] K)) : Ret Try.prog 75 [a0] w K :=
  Ret_of_W (code := c75code) Try.func75 (by kernel_rfl) (by kernel_rfl) (of_decide_eq_true (by kernel_rfl)) h
@[go_sem] theorem go75 : goFunc Try.prog 75 = true := by kernel_rfl
noncomputable def c62code : Code := match Try.f62.body with | some c => c | none => .skip
noncomputable def c62S0 (_ : Unit) : Cmd := (.seq (.ops [
 ⟨some 8, .move (.tmp 3), 38, none⟩,
 ⟨some 2, .assign (.tmp 8), 38, none⟩] [2])
 .ret)
noncomputable def c62S1 (_ : Unit) : Cmd := (.seq (.ops [
 ⟨some 6, .move (.tmp 3), 38, none⟩,
 ⟨some 7, .call ⟨.value (.func 84), #[(.tmp 6)], #[38]⟩, 0, none⟩] [3]) (sg c62S0))
noncomputable def c62 : Cmd := (.seq (.ops [
 ⟨some 2, .assign (.const (.slice none 0 0)), 38, none⟩] [0])
 (.seq (.ops [
 ⟨some 4, .move (.tmp 0), 113, none⟩,
 ⟨some 5, .call ⟨.value (.func 83), #[(.tmp 4)], #[113]⟩, 38, none⟩,
 ⟨some 3, .assign (.tmp 5), 38, none⟩] [3]) (sg c62S1)))
set_option maxRecDepth 100000 in
theorem ent62 (a0 : Value) (w : World) (K : Value → World → Prop) (h : W Try.prog c62 [(0, a0)] w (finQ Try.prog [.tmp 2] K)) : Ret Try.prog 62 [a0] w K :=
  Ret_of_W (code := c62code) Try.func62 (by kernel_rfl) (by kernel_rfl) (of_decide_eq_true (by kernel_rfl)) h
@[go_sem] theorem go62 : goFunc Try.prog 62 = true := by kernel_rfl
noncomputable def c63code : Code := match Try.f63.body with | some c => c | none => .skip
noncomputable def c63 : Cmd := (.seq (.ops [
 ⟨some 1, .box 74 (.tmp 0), 0, none⟩,
 ⟨some 2, .assign (.const .nilFunc), 113, none⟩] [1])
 (.seq (.ops [
 ⟨some 3, .makeFunc (.func 85) #[] #[(.tmp 1)], 112, none⟩,
 ⟨some 2, .assign (.tmp 3), 113, none⟩] [2])
 .ret))
set_option maxRecDepth 100000 in
theorem ent63 (a0 : Value) (w : World) (K : Value → World → Prop) (h : W Try.prog c63 [(0, a0)] w (finQ Try.prog [.tmp 2] K)) : Ret Try.prog 63 [a0] w K :=
  Ret_of_W (code := c63code) Try.func63 (by kernel_rfl) (by kernel_rfl) (of_decide_eq_true (by kernel_rfl)) h
@[go_sem] theorem go63 : goFunc Try.prog 63 = true := by kernel_rfl
noncomputable def c83code : Code := match Try.f83.body with | some c => c | none => .skip
noncomputable def c83S0 (_ : Unit) : Cmd := .ret
noncomputable def c83 : Cmd := (.seq (.ops [
 ⟨some 2, .assign (.const (.slice none 0 0)), 38, none⟩] [0])
 (.seq (.ops [
 ⟨some 3, .move (.tmp 0), 113, none⟩,
 ⟨some 4, .call ⟨.value (.func 108), #[(.const (.slice none 0 0)), (.tmp 3)], #[38, 113]⟩, 38, none⟩,
 ⟨some 2, .assign (.tmp 4), 38, none⟩] [2]) (sg c83S0)))
set_option maxRecDepth 100000 in
theorem ent83 (a0 : Value) (w : World) (K : Value → World → Prop) (h : W Try.prog c83 [(0, a0)] w (finQ Try.prog [.tmp 2] K)) : Ret Try.prog 83 [a0] w K :=
  Ret_of_W (code := c83code) Try.func83 (by kernel_rfl) (by kernel_rfl) (of_decide_eq_true (by kernel_rfl)) h
@[go_sem] theorem go83 : goFunc Try.prog 83 = true := by kernel_rfl
@[go_sem] theorem go84 : goFunc Try.prog 84 = true := by kernel_rfl
noncomputable def c85code : Code := match Try.f85.body with | some c => c | none => .skip
noncomputable def c85S0 (_ : Unit) : Cmd := (.cond (.tmp 13)
  .ret
  (.skip [0, 5]))
noncomputable def c85S1 (_ : Unit) : Cmd := (.block 1 (.seq (.ops [
 ⟨some 8, .entry (.tmp 5), 0, none⟩,
 ⟨some 9, .extract (.tmp 8) 0, 3, none⟩,
 ⟨some 3, .assign (.tmp 9), 3, none⟩] [0, 3, 5])
 (.seq (.ops [
 ⟨some 10, .move (.tmp 0), 119, none⟩,
 ⟨some 11, .move (.tmp 3), 3, none⟩,
 ⟨some 12, .call ⟨.value (.tmp 10), #[(.tmp 11)], #[3]⟩, 4, none⟩,
 ⟨some 13, .unOp .not 4 (.tmp 12), 4, none⟩] [0, 5, 13]) (sg c85S0))))
noncomputable def c85L0 (_ : Unit) : Cmd := (.seq (.ops [
 ⟨some 6, .next (.tmp 5) false, 0, none⟩,
 ⟨some 7, .extract (.tmp 6) 0, 4, none⟩] [0, 5, 7])
 (.seq (.cond (.tmp 7)
  (.skip [0, 5])
  (.exit 0 [])) (sg c85S1)))
noncomputable def c85 : Cmd := (.seq (.ops [
 ⟨some 4, .load 74 (.tmp 1), 74, none⟩,
 ⟨some 5, .range 74 (.tmp 4), 0, none⟩] [0, 5])
 (.block 0 (.loop (sg c85L0))))
set_option maxRecDepth 100000 in
theorem ent85 (a0 a1 : Value) (w : World) (K : Value → World → Prop) (h : W Try.prog c85 [(0, a0), (1, a1)] w (finQ Try.prog [] K)) : Ret Try.prog 85 [a0, a1] w K :=
  Ret_of_W (code := c85code) Try.func85 (by kernel_rfl) (by kernel_rfl) (of_decide_eq_true (by kernel_rfl)) h
@[go_sem] theorem go85 : goFunc Try.prog 85 = true := by kernel_rfl
noncomputable def c108code : Code := match Try.f108.body with | some c => c | none => .skip
noncomputable def c108A0 (_ : Unit) : Cmd := (.ops [
 ⟨some 5, .assign (.tmp 7), 3, none⟩] [2, 5])
noncomputable def c108B0 (_ : Unit) : Cmd := (.block 1 (.ops [
 ⟨some 8, .load 38 (.tmp 2), 38, none⟩,
 ⟨some 9, .move (.tmp 5), 3, none⟩,
 ⟨some 10, .buildSlice 38 1 #[(0, (.tmp 9))], 38, none⟩,
 ⟨some 11, .call ⟨.builtin .append, #[(.tmp 8), (.tmp 10)], #[38, 38]⟩, 38, none⟩,
 ⟨none, .store 38 (.tmp 2) (.tmp 11), 0, none⟩] []))
noncomputable def c108S0 (_ : Unit) : Cmd := (.seq (.ops [
 ⟨some 12, .load 38 (.tmp 2), 38, none⟩,
 ⟨some 4, .assign (.tmp 12), 38, none⟩] [4])
 .ret)
noncomputable def c108 : Cmd := (.seq (.ops [
 ⟨some 2, .box 38 (.tmp 0), 0, none⟩,
 ⟨some 4, .assign (.const (.slice none 0 0)), 38, none⟩] [1, 2, 4])
 (.seq (.seq (.ops [
 ⟨some 6, .move (.tmp 1), 113, none⟩] [2, 4, 6])
 (.block 0 (.rangeF (.tmp 6) [7] (sg c108A0) (sg c108B0) [2, 4]))) (sg c108S0)))
set_option maxRecDepth 100000 in
theorem ent108 (a0 a1 : Value) (w : World) (K : Value → World → Prop) (h : W Try.prog c108 [(0, a0), (1, a1)] w (finQ Try.prog [.tmp 4] K)) : Ret Try.prog 108 [a0, a1] w K :=
  Ret_of_W (code := c108code) Try.func108 (by kernel_rfl) (by kernel_rfl) (of_decide_eq_true (by kernel_rfl)) h
@[go_sem] theorem go108 : goFunc Try.prog 108 = true := by kernel_rfl
end Go.Proofs.Ytmchjbgobiagiaa

namespace Go.Proofs.Ytmchjbgobiagiaa
set_option linter.unusedSimpArgs false
set_option linter.unusedVariables false
set_option maxRecDepth 100000
open Go Go.Ann Go.RowKit Go.WideShapes
def zeroB : List UInt8 := List.replicate 256 0
def filledL (l : List UInt8) : List UInt8 := l ++ List.replicate (256 - l.length) 0
theorem filledL_length {l : List UInt8} (h : l.length ≤ 256) : (filledL l).length = 256 := by
  unfold filledL; rw [List.length_append, List.length_replicate]; omega
structure Dk where
  safe : List (List UInt8)
  late : List (Int × List UInt8)
  left : Int
  gone : Bool
structure Dk.ok (m : Dk) : Prop where
  safe : ∀ s ∈ m.safe, s.length = 256
  late : ∀ x ∈ m.late, 0 ≤ x.1 ∧ x.1 < m.safe.length ∧ x.2.length = 256
  left : I64 m.left
  some : 0 < m.safe.length
  few : m.safe.length ≤ 2048
  less : m.late.length ≤ 1048576
def strE (s : List UInt8) : List Value := [.string (ofL s)]
theorem strE_ones (l : List (List UInt8)) : ∀ u ∈ l.flatMap strE, u.oneCell' = true := by
  intro u hu
  obtain ⟨s, _, h⟩ := List.mem_flatMap.1 hu
  rw [strE, List.mem_singleton] at h
  subst h; rfl
def pendV (x : Int × List UInt8) : List Value := [.int .i64 x.1, .string (ofL x.2)]
theorem pendV_len (x : Int × List UInt8) : (pendV x).length = 2 := rfl
theorem pendV_ones (l : List (Int × List UInt8)) : ∀ u ∈ l.flatMap pendV, u.oneCell' = true := by
  intro u hu
  obtain ⟨s, _, h⟩ := List.mem_flatMap.1 hu
  simp only [pendV, List.mem_cons, List.not_mem_nil, or_false] at h
  rcases h with rfl | rfl <;> rfl
theorem strE_map (l : List (List UInt8)) : l.flatMap strE = l.map fun s => Value.string (ofL s) := by
  induction l with
  | nil => rfl
  | cons a l ih => rw [List.flatMap_cons, ih]; rfl
theorem strE_set (l : List (List UInt8)) (j : Nat) (s : List UInt8) : (l.flatMap strE).set j (.string (ofL s)) = (l.set j s).flatMap strE := by
  rw [strE_map, strE_map, List.map_set]
def DkL (g : Nat) (vb vl : Value) (m : Dk) : List Res :=
  [.blk g #[vb, vl, .int .i64 m.left, .bool m.gone, .string (ofL zeroB)] 104, .row vb 9 1 m.safe.length (m.safe.flatMap strE), .row vl 106 2 m.late.length (m.late.flatMap pendV)]
theorem st_recast {W0 w : World} {F : Nat → Prop} {L L' : List Res} {I : List Inv} (h : St W0 w F L I) (e : L = L') : St W0 w F L' I := e ▸ h
theorem St.front {W0 w : World} {F : Nat → Prop} {A D L : List Res} {I : List Inv} (h : St W0 w F (A ++ (D ++ L)) I) : St W0 w F (D ++ (A ++ L)) I :=
  h.perm (by rw [← List.append_assoc, ← List.append_assoc]; exact List.perm_append_comm.append_right L)
section
variable {W0 w : World} {F : Nat → Prop} {L : List Res} {I : List Inv} {g : Nat} {vb vl : Value} {m : Dk}
def readyN (m : Dk) (i : Int) : Int := if m.gone = true then 11 else if 0 ≤ i ∧ i < m.safe.length then 0 else 10
theorem dk_form (h : St W0 w F (DkL g vb vl m ++ L) I) (ok : m.ok) : ∃ gb cb al cl, vb = .slice (some ⟨gb, 0, none⟩) m.safe.length cb ∧ vl = .slice al m.late.length cl ∧ m.late.length ≤ cl := by
  obtain ⟨gb, cb, h1, _⟩ := (h.row 1 rfl).form ok.some
  obtain ⟨al, cl, h2, h3⟩ := own_slice (h.row 2 rfl)
  exact ⟨gb, cb, al, cl, h1, h2, h3⟩
theorem ready_ok (i : Int) (h : St W0 w F (DkL g vb vl m ++ L) I) (ok : m.ok) :
    Ret Try.prog 81 [.pointer (some ⟨g, 0, none⟩), .int .i64 i] w fun u w' => u = .int .i64 (readyN m i) ∧ w' = w := by
  obtain ⟨gb, cb, al, cl, rfl, rfl, _⟩ := dk_form h ok
  refine ent81 _ _ _ _ ?_
  have r1 := h.rules 0 rfl
  simp (disch := first | omega | exact okFill_t rfl | exact okSize_t rfl | exact fun h => h | (simp only [World.size_alloc, World.size_drew, World.size_setCell, size_fill, bytesW]; omega)) only [go_sem, c81, c81S0, r1]
  unfold readyN
  refine ⟨fun hg => ?_, fun hg => ?_⟩
  · rw [if_pos hg]
  · rw [if_neg (by rw [hg]; decide)]
    by_cases h0 : 0 ≤ i
    · by_cases h1 : i < m.safe.length
      · rw [if_pos ⟨h0, h1⟩]
        exact ⟨fun _ => ⟨fun h => by omega, fun _ => rfl⟩, fun h => by omega⟩
      · rw [if_neg (by omega)]
        exact ⟨fun _ => ⟨fun _ => rfl, fun h => by omega⟩, fun h => by omega⟩
    · rw [if_neg (by omega)]
      exact ⟨fun h => by omega, fun _ => rfl⟩
def useN (m : Dk) : Dk × Int := if m.left = 0 then ({ m with gone := true }, 11) else if 0 < m.left then ({ m with left := m.left - 1 }, 0) else (m, 0)
theorem useN_ok (ok : m.ok) : (useN m).1.ok := by
  unfold useN
  have hl := ok.left
  split
  · exact ⟨ok.safe, ok.late, ok.left, ok.some, ok.few, ok.less⟩
  · split
    · exact ⟨ok.safe, ok.late, ⟨by have := hl.1; simp only; omega, by have := hl.2; simp only; omega⟩, ok.some, ok.few, ok.less⟩
    · exact ok
theorem useN_late (m : Dk) : (useN m).1.late = m.late ∧ (useN m).1.safe = m.safe := by
  unfold useN; split
  · exact ⟨rfl, rfl⟩
  · split <;> exact ⟨rfl, rfl⟩
theorem use_ok (h : St W0 w F (DkL g vb vl m ++ L) I) (ok : m.ok) :
    Ret Try.prog 86 [.pointer (some ⟨g, 0, none⟩)] w fun u w' => u = .int .i64 (useN m).2 ∧ St W0 w' F (DkL g vb vl (useN m).1 ++ L) I := by
  refine ent86 _ _ _ ?_
  have r1 := h.rules 0 rfl
  simp (disch := first | omega | exact okFill_t rfl | exact okSize_t rfl | exact fun h => h | (simp only [World.size_alloc, World.size_drew, World.size_setCell, size_fill, bytesW]; omega)) only [go_sem, c86, c86S0, c86S1, r1]
  unfold useN
  have hl := ok.left
  refine ⟨fun h0 => ?_, fun h0 => ⟨fun h1 => ?_, fun h1 => ?_⟩⟩
  · rw [if_pos h0]
    exact ⟨rfl, h.set 0 rfl 3 (.bool true)⟩
  · rw [if_neg h0, if_pos h1]
    exact ⟨⟨by have := hl.1; omega, by have := hl.2; omega⟩, rfl, h.set 0 rfl 2 (.int .i64 (m.left - 1))⟩
  · rw [if_neg h0, if_neg (by omega)]
    exact ⟨rfl, h⟩
def lastL (l : List (Int × List UInt8)) (i : Int) (s : List UInt8) : List UInt8 := l.foldl (fun s x => if x.1 = i then x.2 else s) s
def readN (m : Dk) (i : Int) : List UInt8 × Int := if readyN m i = 0 then (lastL m.late i (m.safe.getD i.toNat []), 0) else ([], readyN m i)
theorem lastL_snoc (l : List (Int × List UInt8)) (x : Int × List UInt8) (i : Int) (s : List UInt8) : lastL (l ++ [x]) i s = if x.1 = i then x.2 else lastL l i s := by
  unfold lastL; rw [List.foldl_append]; rfl
theorem readyN_in {i : Int} (hr : readyN m i = 0) : 0 ≤ i ∧ i < m.safe.length := by
  unfold readyN at hr
  split at hr
  · cases hr
  · split at hr
    · assumption
    · cases hr
theorem read_ok (i : Int) (h : St W0 w F (DkL g vb vl m ++ L) I) (ok : m.ok) :
    Ret Try.prog 59 [.pointer (some ⟨g, 0, none⟩), .int .i64 i] w fun u w' => u = .tuple #[.string (ofL (readN m i).1), .int .i64 (readN m i).2] ∧ Below w.heap.size w w' := by
  refine ent59 _ _ _ _ ?_
  simp (disch := first | omega | exact okFill_t rfl | exact okSize_t rfl | exact fun h => h | (simp only [World.size_alloc, World.size_drew, World.size_setCell, size_fill, bytesW]; omega)) only [go_sem, c59, c59S0, c59S1, c59S2, c59L0, c59S3, c59S4]
  refine Ret.mono (ready_ok i h ok) ?_
  rintro _ w2 ⟨rfl, e2⟩
  subst w2
  obtain ⟨gb, cb, al, cl, rfl, rfl, hcl⟩ := dk_form h ok
  have r1 := h.rules 0 rfl
  unfold readN
  by_cases hr : readyN m i = 0
  case neg =>
    rw [if_neg hr]
    simp (disch := first | omega | exact okFill_t rfl | exact okSize_t rfl | exact fun h => h | (simp only [World.size_alloc, World.size_drew, World.size_setCell, size_fill, bytesW]; omega)) only [go_sem, c59, c59S0, c59S1, c59S2, c59L0, c59S3, c59S4, hr]
    exact Below.refl _ _
  rw [if_pos hr]
  obtain ⟨h0, hlt⟩ := readyN_in hr
  have hS : RdS w 1 strE (.slice (some ⟨gb, 0, none⟩) m.safe.length cb) m.safe := RdS.of_own' (h.row 1 rfl) m.safe rfl rfl
  have hL : RdS w 2 pendV (.slice al m.late.length cl) m.late := RdS.of_own' (h.row 2 rfl) m.late rfl rfl
  obtain ⟨k0, rfl⟩ := Int.eq_ofNat_of_zero_le h0
  have hk0 : k0 < m.safe.length := by omega
  have eS := RdS.at1 (e1 := fun s => .string (ofL s)) hS hk0
  rw [Addr.add_lit, Nat.zero_add] at eS
  have e0 : m.safe.getD ((k0 : Int).toNat) [] = m.safe[k0] := by simp [List.getD_eq_getElem?_getD, List.getElem?_eq_getElem hk0]
  rw [e0]
  simp (disch := first | omega | exact okFill_t rfl | exact okSize_t rfl | exact fun h => h | (simp only [World.size_alloc, World.size_drew, World.size_setCell, size_fill, bytesW]; omega)) only [go_sem, c59, c59S0, c59S1, c59S2, c59S3, c59S4, hr, r1, eS, hlt]
  refine ⟨by omega, ?_⟩
  refine W_loopU (fun k : Nat => [(7, .string (ofL (lastL (m.late.take k) k0 m.safe[k0]))), (28, .int .i64 k)]) (fun k w' => k ≤ m.late.length ∧ Below w.heap.size w w') (fun k => m.late.length - k) 0 rfl ⟨Nat.zero_le _, Below.refl _ _⟩ ?_
  rintro k w3 ⟨hk, hb⟩
  by_cases hlt2 : k < m.late.length
  · have hlt' : (k : Int) < m.late.length := by omega
    obtain ⟨p, rfl⟩ := hL.ptr (by omega)
    have eL := (hL.below hb (by decide)).at pendV_len hlt2
    simp (disch := first | omega | exact okFill_t rfl | exact okSize_t rfl | exact fun h => h | (simp only [World.size_alloc, World.size_drew, World.size_setCell, size_fill, bytesW]; omega)) only [go_sem, c59, c59S0, c59S1, c59S2, c59L0, c59S3, c59S4, c59L0, hlt', eL, pendV]
    have es : lastL (m.late.take (k + 1)) k0 m.safe[k0] = if m.late[k].1 = k0 then m.late[k].2 else lastL (m.late.take k) k0 m.safe[k0] := by
      rw [List.take_succ_eq_append_getElem hlt2, lastL_snoc]
    have b' : Below w.heap.size w (w3.alloc (.cells #[.int .i64 m.late[k].1, .string (ofL m.late[k].2)] 106)) := hb.alloc hb.size _
    have hless := ok.less
    clear r1
    refine ⟨by omega, fun e => ⟨⟨by omega, by omega⟩, k + 1, ?_, ⟨by omega, b'⟩, by omega⟩, fun e => ⟨⟨by omega, by omega⟩, k + 1, ?_, ⟨by omega, b'⟩, by omega⟩⟩
    · rw [es, if_pos e]; rfl
    · rw [es, if_neg e]; rfl
  · have hlt' : ¬ (k : Int) < m.late.length := by omega
    simp (disch := first | omega | exact okFill_t rfl | exact okSize_t rfl | exact fun h => h | (simp only [World.size_alloc, World.size_drew, World.size_setCell, size_fill, bytesW]; omega)) only [go_sem, c59, c59S0, c59S1, c59S2, c59L0, c59S3, c59S4, c59L0, hlt']
    rw [List.take_of_length_le (by omega)]
    exact ⟨rfl, hb⟩
def writeN (m : Dk) (i : Int) (data : List UInt8) : Dk × Int :=
  if readyN m i ≠ 0 then (m, readyN m i) else if 256 < data.length then (m, 21) else
  if (useN m).2 = 0 then ({ (useN m).1 with late := (useN m).1.late ++ [(i, filledL data)] }, 0) else useN m
theorem writeN_ok (ok : m.ok) (hless : m.late.length < 1000000) (i : Int) (data : List UInt8) : (writeN m i data).1.ok := by
  unfold writeN
  split
  · exact ok
  · rename_i hr
    have hr : readyN m i = 0 := Decidable.not_not.1 hr
    split
    · exact ok
    · have hu := useN_ok ok
      have hl := useN_late m
      have hin := readyN_in hr
      split
      · refine ⟨hu.safe, fun x hx => ?_, hu.left, hu.some, hu.few, ?_⟩
        · rcases List.mem_append.1 hx with h | h
          · exact hu.late x h
          · rw [List.mem_singleton] at h; subst h
            rw [hl.2]
            exact ⟨hin.1, hin.2, filledL_length (by omega)⟩
        · simp only [List.length_append, List.length_singleton, hl.1]; omega
      · exact hu
theorem write_ok (i : Int) (data : List UInt8) (h : St W0 w F (DkL g vb vl m ++ L) I) (ok : m.ok) (hless : m.late.length < 1000000) :
    Ret Try.prog 66 [.pointer (some ⟨g, 0, none⟩), .int .i64 i, .string (ofL data)] w fun u w' => u = .int .i64 (writeN m i data).2 ∧ ∃ vl', St W0 w' F (DkL g vb vl' (writeN m i data).1 ++ L) I := by
  refine ent66 _ _ _ _ _ ?_
  simp (disch := first | omega | exact okFill_t rfl | exact okSize_t rfl | exact fun h => h | (simp only [World.size_alloc, World.size_drew, World.size_setCell, size_fill, bytesW]; omega)) only [go_sem, c66, c66S0, c66S1, c66S2, c66S3]
  refine Ret.mono (ready_ok i h ok) ?_
  rintro _ w2 ⟨rfl, e2⟩
  subst w2
  unfold writeN
  by_cases hr : readyN m i = 0
  case neg =>
    rw [if_pos hr]
    simp (disch := first | omega | exact okFill_t rfl | exact okSize_t rfl | exact fun h => h | (simp only [World.size_alloc, World.size_drew, World.size_setCell, size_fill, bytesW]; omega)) only [go_sem, c66, c66S0, c66S1, c66S2, c66S3, hr]
    exact ⟨vl, h⟩
  rw [if_neg (by omega)]
  by_cases hd : 256 < data.length
  · have hd' : (256 : Int) < data.length := by omega
    rw [if_pos hd]
    simp (disch := first | omega | exact okFill_t rfl | exact okSize_t rfl | exact fun h => h | (simp only [World.size_alloc, World.size_drew, World.size_setCell, size_fill, bytesW]; omega)) only [go_sem, c66, c66S0, c66S1, c66S2, c66S3, hr, hd']
    exact ⟨vl, h⟩
  have hd' : ¬ (256 : Int) < data.length := by omega
  rw [if_neg hd]
  simp (disch := first | omega | exact okFill_t rfl | exact okSize_t rfl | exact fun h => h | (simp only [World.size_alloc, World.size_drew, World.size_setCell, size_fill, bytesW]; omega)) only [go_sem, c66, c66S0, c66S1, c66S2, c66S3, hr, hd']
  refine Ret.mono (use_ok h ok) ?_
  rintro _ w2 ⟨rfl, h2⟩
  have ok2 := useN_ok ok
  have hl := useN_late m
  by_cases hu : (useN m).2 = 0
  case neg =>
    rw [if_neg hu]
    simp (disch := first | omega | exact okFill_t rfl | exact okSize_t rfl | exact fun h => h | (simp only [World.size_alloc, World.size_drew, World.size_setCell, size_fill, bytesW]; omega)) only [go_sem, c66, c66S0, c66S1, c66S2, c66S3, hu]
    exact ⟨vl, h2⟩
  rw [if_pos hu]
  generalize (useN m).1 = m1 at h2 ok2 hl ⊢
  obtain ⟨gb, cb, al, cl, rfl, rfl, hcl⟩ := dk_form h2 ok2
  have r1 := h2.rules 0 rfl
  simp (disch := first | omega | exact okFill_t rfl | exact okSize_t rfl | exact fun h => h | (simp only [World.size_alloc, World.size_drew, World.size_setCell, size_fill, bytesW]; omega)) only [go_sem, c66, c66S0, c66S1, c66S2, c66S3, hu, r1]
  refine c66draw0 (Chg (fun _ => False) _) (Chg.refl _ _) ?_
  have h3 := h2.drew
  have r3 := h3.rules 0 rfl
  have l3 := h3.low 0 rfl
  generalize w2.drew = w3 at h3 r3 l3 ⊢
  simp (disch := first | omega | exact okFill_t rfl | exact okSize_t rfl | exact fun h => h | (simp only [World.size_alloc, World.size_drew, World.size_setCell, size_fill, bytesW]; omega)) only [go_sem, c66, c66S0, c66S1, c66S2, c66S3, c66D0, r3]
  have ez : data ++ zeroB.drop data.length = filledL data := by unfold zeroB filledL; rw [List.drop_replicate]
  have hz : zeroB.length = 256 := List.length_replicate
  rw [ez]
  refine ⟨by rw [hz]; omega, by rw [List.length_drop, hz]; omega, ?_⟩
  refine bdW_built (cells := (pendV (i, filledL data)).toArray) (by kernel_rfl) ?_
  simp (disch := first | omega | exact okFill_t rfl | exact okSize_t rfl | exact fun h => h | (simp only [World.size_alloc, World.size_drew, World.size_setCell, size_fill, bytesW]; omega)) only [go_sem, c66, c66S0, c66S1, c66S2, c66S3]
  refine bsW_agg ty102mkI rfl (by decide) (by decide) ?_
  have hx : Rd (w3.alloc (.cells (pendV (i, filledL data)).toArray 106)) 2 (.slice (some ⟨w3.heap.size, 0, none⟩) 1 1) 1 (pendV (i, filledL data)) := rd_new (n := 1) (cs := (pendV (i, filledL data)).toArray) rfl
  simp (disch := first | omega | exact okFill_t rfl | exact okSize_t rfl | exact fun h => h | (simp only [World.size_alloc, World.size_drew, World.size_setCell, size_fill, bytesW]; omega)) only [go_sem, c66, c66S0, c66S1, c66S2, c66S3]
  have h1 : ∀ u ∈ pendV (i, filledL data), u.oneCell' = true := by simpa using pendV_ones [(i, filledL data)]
  refine ⟨(Chg.refl _ _).alloc _, ?_⟩
  refine (h3.alloc' (.cells (pendV (i, filledL data)).toArray 106)).append 2 rfl ty102mkI rfl (by decide) hx h1 (by have := ok.less; rw [hl.1]; omega) (by have := ok.less; rw [hl.1]; omega) ?_
  intro v6 w6 h6 c6
  obtain ⟨a6, d6, rfl, _⟩ := own_slice (h6.row 2 rfl)
  have r6 := h6.rules 0 rfl
  simp (disch := first | omega | exact okFill_t rfl | exact okSize_t rfl | exact fun h => h | (simp only [World.size_alloc, World.size_drew, World.size_setCell, size_fill, bytesW]; omega)) only [go_sem, c66, c66S0, c66S1, c66S2, c66S3, r6]
  refine ⟨.slice a6 (m1.late.length + 1) d6, st_recast (h6.set 0 rfl 1 (.slice a6 (m1.late.length + 1) d6)) ?_⟩
  simp only [DkL, List.length_append, List.length_singleton, List.flatMap_append, List.flatMap_cons, List.flatMap_nil, List.append_nil]
  rfl
def doneL (safe : List (List UInt8)) (late : List (Int × List UInt8)) : List (List UInt8) := late.foldl (fun s x => s.set x.1.toNat x.2) safe
theorem doneL_length (safe : List (List UInt8)) : ∀ late, (doneL safe late).length = safe.length := by
  intro late
  unfold doneL
  induction late generalizing safe with
  | nil => rfl
  | cons x l ih => rw [List.foldl_cons, ih]; simp
theorem doneL_snoc (safe : List (List UInt8)) (l : List (Int × List UInt8)) (x : Int × List UInt8) : doneL safe (l ++ [x]) = (doneL safe l).set x.1.toNat x.2 := by
  unfold doneL; rw [List.foldl_append]; rfl
theorem doneL_256 {safe : List (List UInt8)} (h : ∀ s ∈ safe, s.length = 256) : ∀ {late : List (Int × List UInt8)}, (∀ x ∈ late, x.2.length = 256) → ∀ s ∈ doneL safe late, s.length = 256 := by
  intro late
  unfold doneL
  induction late generalizing safe with
  | nil => intro _; exact h
  | cons x l ih =>
    intro hl
    rw [List.foldl_cons]
    refine ih (fun s hs => ?_) fun y hy => hl y (List.mem_cons_of_mem _ hy)
    rcases List.mem_or_eq_of_mem_set hs with h' | rfl
    · exact h s h'
    · exact hl x (List.mem_cons_self ..)
def flushN (m : Dk) : Dk × Int :=
  if readyN m 0 ≠ 0 then (m, readyN m 0) else if (useN m).2 ≠ 0 then useN m else ({ (useN m).1 with safe := doneL m.safe m.late, late := [] }, 0)
theorem flushN_ok (ok : m.ok) : (flushN m).1.ok := by
  unfold flushN
  split
  · exact ok
  · split
    · exact useN_ok ok
    · have hu := useN_ok ok
      exact ⟨doneL_256 ok.safe fun x hx => (ok.late x hx).2.2, fun _ h => (by cases h), hu.left, by simp only [doneL_length]; exact ok.some, by simp only [doneL_length]; exact ok.few, by simp⟩
theorem flush_ok (h : St W0 w F (DkL g vb vl m ++ L) I) (ok : m.ok) :
    Ret Try.prog 78 [.pointer (some ⟨g, 0, none⟩)] w fun u w' => u = .int .i64 (flushN m).2 ∧ ∃ vl', St W0 w' F (DkL g vb vl' (flushN m).1 ++ L) I := by
  refine ent78 _ _ _ ?_
  simp (disch := first | omega | exact okFill_t rfl | exact okSize_t rfl | exact fun h => h | (simp only [World.size_alloc, World.size_drew, World.size_setCell, size_fill, bytesW]; omega)) only [go_sem, c78, c78S0, c78S1, c78L0, c78S2, c78S3, c78S4, c78S5]
  refine Ret.mono (ready_ok 0 h ok) ?_
  rintro _ w2 ⟨rfl, e2⟩
  subst w2
  unfold flushN
  by_cases hr : readyN m 0 = 0
  case neg =>
    rw [if_pos hr]
    simp (disch := first | omega | exact okFill_t rfl | exact okSize_t rfl | exact fun h => h | (simp only [World.size_alloc, World.size_drew, World.size_setCell, size_fill, bytesW]; omega)) only [go_sem, c78, c78S0, c78S1, c78L0, c78S2, c78S3, c78S4, c78S5, hr]
    exact ⟨vl, h⟩
  rw [if_neg (by omega)]
  simp (disch := first | omega | exact okFill_t rfl | exact okSize_t rfl | exact fun h => h | (simp only [World.size_alloc, World.size_drew, World.size_setCell, size_fill, bytesW]; omega)) only [go_sem, c78, c78S0, c78S1, c78L0, c78S2, c78S3, c78S4, c78S5, hr]
  refine Ret.mono (use_ok h ok) ?_
  rintro _ w2 ⟨rfl, h2⟩
  have ok2 := useN_ok ok
  have hl := useN_late m
  by_cases hu : (useN m).2 = 0
  case neg =>
    rw [if_pos hu]
    simp (disch := first | omega | exact okFill_t rfl | exact okSize_t rfl | exact fun h => h | (simp only [World.size_alloc, World.size_drew, World.size_setCell, size_fill, bytesW]; omega)) only [go_sem, c78, c78S0, c78S1, c78L0, c78S2, c78S3, c78S4, c78S5, hu]
    exact ⟨vl, h2⟩
  rw [if_neg (by omega), ← hl.1, ← hl.2]
  generalize (useN m).1 = m1 at h2 ok2 ⊢
  obtain ⟨gb, cb, al, cl, rfl, rfl, hcl⟩ := dk_form h2 ok2
  have r1 := h2.rules 0 rfl
  simp (disch := first | omega | exact okFill_t rfl | exact okSize_t rfl | exact fun h => h | (simp only [World.size_alloc, World.size_drew, World.size_setCell, size_fill, bytesW]; omega)) only [go_sem, c78, c78S0, c78S1, c78S2, c78S3, c78S4, c78S5, hu, r1]
  refine W_loopU (fun k : Nat => [(19, .int .i64 k)]) (fun k w' => St W0 w' F (DkL g (.slice (some ⟨gb, 0, none⟩) m1.safe.length cb) (.slice al m1.late.length cl) { m1 with safe := doneL m1.safe (m1.late.take k) } ++ L) I ∧ k ≤ m1.late.length) (fun k => m1.late.length - k) 0 rfl ⟨h2, Nat.zero_le _⟩ ?_
  rintro k w4 ⟨h4, hk⟩
  have r4 := h4.rules 0 rfl
  have l4 := h4.low 0 rfl
  by_cases hlt : k < m1.late.length
  · have hlt' : (k : Int) < m1.late.length := by omega
    have hL : RdS w4 2 pendV (.slice al m1.late.length cl) m1.late := RdS.of_own' (h4.row 2 rfl) m1.late rfl rfl
    obtain ⟨p, rfl⟩ := hL.ptr (by omega)
    have eL := hL.at pendV_len hlt
    obtain ⟨x0, x1, x2⟩ := ok2.late _ (List.getElem_mem hlt)
    obtain ⟨i0, ei⟩ := Int.eq_ofNat_of_zero_le x0
    have x1' : (i0 : Int) < m1.safe.length := by omega
    simp (disch := first | omega | exact okFill_t rfl | exact okSize_t rfl | exact fun h => h | (simp only [World.size_alloc, World.size_drew, World.size_setCell, size_fill, bytesW]; omega)) only [go_sem, c78, c78S0, c78S1, c78L0, c78S2, c78S3, c78S4, c78S5, c78L0, hlt', eL, pendV, r4, ei]
    refine ⟨by omega, c78draw0 (Chg (fun _ => False) _) (Chg.refl _ _) ?_⟩
    have hlen : (doneL m1.safe (m1.late.take k)).length = m1.safe.length := doneL_length ..
    have h4' := st_recast h4 (L' := [.blk g #[.slice (some ⟨gb, 0, none⟩) m1.safe.length cb, .slice (some p) m1.late.length cl, .int .i64 m1.left, .bool m1.gone, .string (ofL zeroB)] 104, .row (.slice (some ⟨gb, 0, none⟩) m1.safe.length cb) 9 1 m1.safe.length ((doneL m1.safe (m1.late.take k)).flatMap strE), .row (.slice (some p) m1.late.length cl) 106 2 m1.late.length (m1.late.flatMap pendV)] ++ L) (by simp only [DkL, hlen])
    have h5 := (h4'.box #[.int .i64 i0, .string (ofL m1.late[k].2)] 106).drew
    generalize w4.heap.size = y at h5 ⊢
    generalize (w4.alloc (.cells #[.int .i64 i0, .string (ofL m1.late[k].2)] 106)).drew = w5 at h5 ⊢
    have r5 := h5.rules 0 rfl
    have l5 := h5.low 0 rfl
    have q5 := h5.rules 1 rfl
    have m5 := h5.low 1 rfl
    clear r4 l4
    have hS : RdS w5 1 strE (.slice (some ⟨gb, 0, none⟩) m1.safe.length cb) (doneL m1.safe (m1.late.take k)) := RdS.of_own' (h5.row 2 rfl) _ hlen.symm rfl
    simp (disch := first | omega | exact okFill_t rfl | exact okSize_t rfl | exact fun h => h | (simp only [World.size_alloc, World.size_drew, World.size_setCell, size_fill, bytesW]; omega)) only [go_sem, c78, c78S0, c78S1, c78L0, c78S2, c78S3, c78S4, c78S5, c78D0, r5, q5, x1']
    have eS := RdS.at1 (e1 := fun s => .string (ofL s)) hS (k := i0) (by rw [hlen]; omega)
    rw [Addr.add_lit, Nat.zero_add] at eS
    have hfz := (h5.row 2 rfl).frozenAt i0
    have h6 := (h5.put 2 rfl i0 (.string (ofL m1.late[k].2))).sub (List.sublist_cons_self _ _)
    have e1 : doneL m1.safe (m1.late.take (k + 1)) = (doneL m1.safe (m1.late.take k)).set i0 m1.late[k].2 := by
      rw [List.take_succ_eq_append_getElem hlt, doneL_snoc, ei]; rfl
    have hless := ok2.less
    refine ⟨by omega, ⟨_, eS⟩, hfz, ⟨by omega, by omega⟩, k + 1, rfl, ⟨st_recast h6 ?_, by omega⟩, by omega⟩
    simp only [DkL, e1, List.length_set, hlen]
    rw [← strE_set]
    rfl
  · have hlt' : ¬ (k : Int) < m1.late.length := by omega
    simp (disch := first | omega | exact okFill_t rfl | exact okSize_t rfl | exact fun h => h | (simp only [World.size_alloc, World.size_drew, World.size_setCell, size_fill, bytesW]; omega)) only [go_sem, c78, c78S0, c78S1, c78L0, c78S2, c78S3, c78S4, c78S5, c78L0, hlt', r4]
    refine ⟨.slice none 0 0, ?_⟩
    have h5 := h4.set 0 rfl 1 (.slice none 0 0)
    rw [List.take_of_length_le (by omega)] at h5
    have h6 := h5.sub (L' := [.blk g #[.slice (some ⟨gb, 0, none⟩) m1.safe.length cb, .slice none 0 0, .int .i64 m1.left, .bool m1.gone, .string (ofL zeroB)] 104, .row (.slice (some ⟨gb, 0, none⟩) m1.safe.length cb) 9 1 (doneL m1.safe m1.late).length ((doneL m1.safe m1.late).flatMap strE)] ++ L) (by
      refine List.Sublist.cons_cons _ (List.Sublist.cons_cons _ ?_)
      exact List.sublist_cons_self _ _)
    exact St.front (A := [.row (.slice none 0 0) 106 2 0 []]) (D := [.blk g #[.slice (some ⟨gb, 0, none⟩) m1.safe.length cb, .slice none 0 0, .int .i64 m1.left, .bool m1.gone, .string (ofL zeroB)] 104, .row (.slice (some ⟨gb, 0, none⟩) m1.safe.length cb) 9 1 (doneL m1.safe m1.late).length ((doneL m1.safe m1.late).flatMap strE)]) (L := L) (h6.nilRow 106 2)
end
end Go.Proofs.Ytmchjbgobiagiaa

namespace Go.Proofs.Ytmchjbgobiagiaa
set_option linter.unusedSimpArgs false
set_option linter.unusedVariables false
set_option maxRecDepth 100000
open Go Go.Ann Go.RowKit Go.WideShapes
theorem zeros_ok (w : World) :
    Ret Try.prog 64 [] w fun v w' => v = .string (ofL zeroB) ∧ Below w.heap.size w w' := by
  refine ent64 _ _ ?_
  simp only [go_sem, c64, loadK_int, loadK_bool, loadK_str, loadK_slice, loadK_ptr, loadK_map, loadK_agg, loadK_other, heldW]
  refine msW_one ty95mkI rfl (by omega) (by omega) (by omega) (by omega) ?_
  simp only [go_sem, c64, loadK_int, loadK_bool, loadK_str, loadK_slice, loadK_ptr, loadK_map, loadK_agg, loadK_other, heldW]
  exact ⟨zeroB, List.length_replicate, bytesAt_new w 256 _, rfl, (Below.refl _ _).alloc (Nat.le_refl _) _⟩
theorem filled_ok (l : List UInt8) (w : World) (h : l.length ≤ 256) :
    Ret Try.prog 19 [.string (ofL l)] w fun v w' => v = .string (ofL (filledL l)) ∧ Below w.heap.size w w' := by
  refine ent19 _ _ _ ?_
  simp only [go_sem, c19, loadK_int, loadK_bool, loadK_str, loadK_slice, loadK_ptr, loadK_map, loadK_agg, loadK_other, heldW]
  refine ⟨⟨by omega, by omega⟩, ?_⟩
  refine msW_one ty95mkI rfl (by omega) (by omega) (by omega) (by omega) ?_
  simp only [go_sem, c19, loadK_int, loadK_bool, loadK_str, loadK_slice, loadK_ptr, loadK_map, loadK_agg, loadK_other, heldW]
  have e : ((256 : Int) - (l.length : Int)).toNat = 256 - l.length := by omega
  rw [e]
  exact ⟨_, List.length_replicate, bytesAt_new w (256 - l.length) _, by rw [List.length_replicate]; omega, rfl, (Below.refl _ _).alloc (Nat.le_refl _) _⟩
def newDk (n : Nat) : Dk := { safe := List.replicate n zeroB, late := [], left := -1, gone := false }
theorem newDk_ok {n : Nat} (h0 : 0 < n) (h1 : n ≤ 2048) : (newDk n).ok :=
  ⟨fun s hs => by rw [List.eq_of_mem_replicate hs]; exact List.length_replicate, fun _ h => (by cases h), ⟨by simp [newDk], by simp [newDk]⟩, by simp [newDk]; omega, by simp [newDk]; omega, by simp [newDk]⟩
section
variable {W0 w : World} {F : Nat → Prop} {L : List Res} {I : List Inv}
theorem new_ok {n : Nat} (h : St W0 w F L I) (h0 : 0 < n) (h1 : n ≤ 2048) :
    Ret Try.prog 37 [.int .i64 n] w fun u w' => ∃ g vb vl, u = .tuple #[.pointer (some ⟨g, 0, none⟩), .int .i64 0] ∧ St W0 w' F (DkL g vb vl (newDk n) ++ L) I := by
  have h0' : ¬ (n : Int) < 1 := by omega
  have h1' : ¬ (2048 : Int) < n := by omega
  refine ent37 _ _ _ ?_
  simp (disch := first | omega | exact okFill_t rfl | exact okSize_t rfl | exact fun h => h | (simp only [World.size_alloc, World.size_drew, World.size_setCell, size_fill, bytesW]; omega)) only [go_sem, c37, c37S0, c37S1, c37S2, c37S3, c37S4, h0', h1']
  refine Ret.mono (zeros_ok w) ?_
  rintro _ w2 ⟨rfl, b2⟩
  have s2 := h.call b2
  simp (disch := first | omega | exact okFill_t rfl | exact okSize_t rfl | exact fun h => h | (simp only [World.size_alloc, World.size_drew, World.size_setCell, size_fill, bytesW]; omega)) only [go_sem, c37, c37S0, c37S1, c37S2, c37S3, c37S4]
  refine bdW_built (cells := #[.slice none 0 0, .slice none 0 0, .int .i64 (-1), .bool false, .string (ofL zeroB)]) (by kernel_rfl) ?_
  have s3 := (s2.box #[.slice none 0 0, .slice none 0 0, .int .i64 (-1), .bool false, .string (ofL zeroB)] 104)
  simp (disch := first | omega | exact okFill_t rfl | exact okSize_t rfl | exact fun h => h | (simp only [World.size_alloc, World.size_drew, World.size_setCell, size_fill, bytesW]; omega)) only [go_sem, c37, c37S0, c37S1, c37S2, c37S3, c37S4]
  generalize w2.heap.size = g at s3 ⊢
  generalize w2.alloc (.cells #[.slice none 0 0, .slice none 0 0, .int .i64 (-1), .bool false, .string (ofL zeroB)] 104) = w3 at s3 ⊢
  have s3 : St W0 w3 F (DkL g (.slice none 0 0) (.slice none 0 0) (newDk 0) ++ L) I :=
    St.front (A := [.row (.slice none 0 0) 9 1 0 [], .row (.slice none 0 0) 106 2 0 []]) (D := [.blk g #[.slice none 0 0, .slice none 0 0, .int .i64 (-1), .bool false, .string (ofL zeroB)] 104]) (L := L) ((s3.nilRow 106 2).nilRow 9 1)
  refine W_loopU (fun q : Nat × Value => [(15, .int .i64 q.1)]) (fun q w' => St W0 w' F (DkL g q.2 (.slice none 0 0) (newDk q.1) ++ L) I ∧ q.1 ≤ n) (fun q => n - q.1) (0, .slice none 0 0) rfl ⟨s3, Nat.zero_le _⟩ ?_
  clear s3 s2 b2
  rintro ⟨k, v⟩ w4 ⟨s4, hk⟩
  simp only at s4 hk
  by_cases hlt : k < n
  · have hlt' : (k : Int) < n := by omega
    simp (disch := first | omega | exact okFill_t rfl | exact okSize_t rfl | exact fun h => h | (simp only [World.size_alloc, World.size_drew, World.size_setCell, size_fill, bytesW]; omega)) only [go_sem, c37, c37S0, c37S1, c37L0, c37S2, c37S3, c37S4, c37L0, hlt']
    refine c37draw0 (Chg (fun _ => False) _) (Chg.refl _ _) ?_
    have s5 := s4.drew
    have r5 := s5.rules 0 rfl
    have l5 := s5.low 0 rfl
    obtain ⟨va, vc, rfl, _⟩ := own_slice (s5.row 1 rfl)
    generalize w4.drew = w5 at s5 r5 l5 ⊢
    simp (disch := first | omega | exact okFill_t rfl | exact okSize_t rfl | exact fun h => h | (simp only [World.size_alloc, World.size_drew, World.size_setCell, size_fill, bytesW]; omega)) only [go_sem, c37, c37S0, c37S1, c37L0, c37S2, c37S3, c37S4, c37D0, r5]
    have ones : ∀ u ∈ strE zeroB, u.oneCell' = true := by simpa using strE_ones [zeroB]
    refine bsW_ones ty36mkI rfl rfl (by decide) (by decide) ones ?_
    have hx : Rd (w5.alloc (.cells (strE zeroB).toArray 9)) 1 (.slice (some ⟨w5.heap.size, 0, none⟩) 1 1) 1 (strE zeroB) := rd_new (n := 1) (cs := (strE zeroB).toArray) rfl
    simp (disch := first | omega | exact okFill_t rfl | exact okSize_t rfl | exact fun h => h | (simp only [World.size_alloc, World.size_drew, World.size_setCell, size_fill, bytesW]; omega)) only [go_sem, c37, c37S0, c37S1, c37L0, c37S2, c37S3, c37S4]
    refine ⟨(Chg.refl _ _).alloc _, ?_⟩
    have hlk : (newDk k).safe.length = k := List.length_replicate
    refine (s5.alloc' (.cells (strE zeroB).toArray 9)).append 1 rfl ty36mkI rfl (by decide) hx ones (by omega) (by omega) ?_
    intro v6 w6 h6 c6
    obtain ⟨a6, d6, rfl, _⟩ := own_slice (h6.row 1 rfl)
    have r6 := h6.rules 0 rfl
    simp (disch := first | omega | exact okFill_t rfl | exact okSize_t rfl | exact fun h => h | (simp only [World.size_alloc, World.size_drew, World.size_setCell, size_fill, bytesW]; omega)) only [go_sem, c37, c37S0, c37S1, c37L0, c37S2, c37S3, c37S4, r6]
    refine ⟨⟨by omega, by omega⟩, (k + 1, .slice a6 ((newDk k).safe.length + 1) d6), rfl, ⟨st_recast (h6.set 0 rfl 0 (.slice a6 ((newDk k).safe.length + 1) d6)) ?_, by simp only; omega⟩, by simp only; omega⟩
    have e : (newDk (k + 1)).safe = (newDk k).safe ++ [zeroB] := List.replicate_succ'
    simp only [DkL, e, List.length_append, List.length_singleton, List.flatMap_append, List.flatMap_cons, List.flatMap_nil, List.append_nil]
    rfl
  · have hlt' : ¬ (k : Int) < n := by omega
    obtain rfl : k = n := by omega
    simp (disch := first | omega | exact okFill_t rfl | exact okSize_t rfl | exact fun h => h | (simp only [World.size_alloc, World.size_drew, World.size_setCell, size_fill, bytesW]; omega)) only [go_sem, c37, c37S0, c37S1, c37L0, c37S2, c37S3, c37S4, c37L0, hlt']
    exact ⟨g, v, _, rfl, s4⟩
theorem len_ok {g : Nat} {vb vl : Value} {m : Dk} (h : St W0 w F (DkL g vb vl m ++ L) I) (ok : m.ok) :
    Ret Try.prog 65 [.pointer (some ⟨g, 0, none⟩)] w fun u w' => u = .int .i64 m.safe.length ∧ w' = w := by
  obtain ⟨gb, cb, al, cl, rfl, rfl, _⟩ := dk_form h ok
  refine ent65 _ _ _ ?_
  have r1 := h.rules 0 rfl
  simp (disch := first | omega | exact okFill_t rfl | exact okSize_t rfl | exact fun h => h | (simp only [World.size_alloc, World.size_drew, World.size_setCell, size_fill, bytesW]; omega)) only [go_sem, c65, c65S0, r1]
end
end Go.Proofs.Ytmchjbgobiagiaa

namespace Go.Proofs.Ytmchjbgobiagiaa
set_option linter.unusedSimpArgs false
set_option linter.unusedVariables false
set_option maxRecDepth 100000
open Go Go.Ann Go.RowKit
theorem bytesAt_zeros (w : World) (n : Nat) (e : Nat) : bytesAt (w.alloc (.cells (zerosA (.int .u8 0) n) e)) (some ⟨w.heap.size, 0, none⟩) (List.replicate n 0) := by
  intro i b h
  simp only [Addr.add_lit, Nat.zero_add]
  obtain ⟨hi, hb⟩ := List.getElem?_eq_some_iff.1 h
  simp only [List.length_replicate] at hi
  simp only [List.getElem_replicate] at hb
  subst hb
  rw [World.cell?_alloc_at _ _ _ _ rfl]
  simp [zerosA, hi]
end Go.Proofs.Ytmchjbgobiagiaa

namespace Go.Proofs.Ytmchjbgobiagiaa
set_option linter.unusedSimpArgs false
set_option linter.unusedVariables false
set_option maxRecDepth 100000
open Go Go.Ann Go.RowKit Go.WideShapes
def u8 (n : Nat) : UInt8 := UInt8.ofNat n
def byteC (b : UInt8) : Value := .int .u8 b.toNat
theorem byte_one (b : UInt8) : ∀ u ∈ [byteC b], u.oneCell' = true := by intro u hu; rw [List.mem_singleton] at hu; subst hu; rfl
theorem wrap_u8 (n : Nat) : IntKind.u8.wrap (n : Int) = ((u8 n).toNat : Int) := by
  rw [wrap_u8_mod]; unfold u8; simp
def fixL (n k : Nat) : List UInt8 := (List.range k).map fun i => u8 (n / 256 ^ i)
theorem fixL_len (n k : Nat) : (fixL n k).length = k := by unfold fixL; simp
theorem fixL_succ (n k : Nat) : fixL n (k + 1) = fixL n k ++ [u8 (n / 256 ^ k)] := by unfold fixL; rw [List.range_succ, List.map_append]; rfl
def unfixL : List UInt8 → Nat
  | [] => 0
  | b :: l => b.toNat + 256 * unfixL l
theorem unfixL_snoc (b : UInt8) : ∀ l : List UInt8, unfixL (l ++ [b]) = unfixL l + b.toNat * 256 ^ l.length
  | [] => by simp [unfixL]
  | a :: l => by
    rw [List.cons_append, unfixL, unfixL, unfixL_snoc b l, List.length_cons, Nat.pow_succ, Nat.mul_add, ← Nat.add_assoc, Nat.mul_comm (256 ^ l.length) 256, Nat.mul_left_comm]
theorem unfixL_lt : ∀ l : List UInt8, unfixL l < 256 ^ l.length
  | [] => by decide
  | b :: l => by
    have h1 := unfixL_lt l
    have h2 := b.toNat_lt
    rw [unfixL, List.length_cons, Nat.pow_succ]
    omega
theorem unfixL_fixL (n : Nat) : ∀ k, unfixL (fixL n k) = n % 256 ^ k
  | 0 => by simp [fixL, unfixL, Nat.mod_one]
  | k + 1 => by
    rw [fixL_succ, unfixL_snoc, unfixL_fixL n k, fixL_len, Nat.pow_succ]
    have e : (u8 (n / 256 ^ k)).toNat = n / 256 ^ k % 256 := by unfold u8; simp
    rw [e, Nat.mod_mul, Nat.mul_comm (256 ^ k)]
theorem pow256 (k : Nat) : (256 : Nat) ^ k = 2 ^ (8 * k) := by rw [show (256 : Nat) = 2 ^ 8 from rfl, ← Nat.pow_mul]
theorem or_next {a b i : Nat} (ha : a < 2 ^ i) (hb : b < 256) (hi : i ≤ 56) : bits .or .u64 (a : Int) (IntKind.u64.wrap ((b : Int) * 2 ^ i)) = ((a + b * 2 ^ i : Nat) : Int) := by
  have h56 : 2 ^ i ≤ 2 ^ 56 := Nat.pow_le_pow_right (by decide) hi
  have hb2 : b * 2 ^ i ≤ 255 * 2 ^ 56 := Nat.mul_le_mul (by omega) h56
  have e0 : IntKind.u64.wrap ((b : Int) * 2 ^ i) = ((b * 2 ^ i : Nat) : Int) := by
    have : ((b : Int) * 2 ^ i) = ((b * 2 ^ i : Nat) : Int) := by push_cast; rfl
    rw [this, wrap_u64_id _ (by omega) (by omega)]
  rw [e0]
  have e : (BitVec.ofInt 64 (a : Int) ||| BitVec.ofInt 64 ((b * 2 ^ i : Nat) : Int)).toNat = a + b * 2 ^ i := by
    rw [BitVec.toNat_or, BitVec.ofInt_natCast, BitVec.ofInt_natCast, BitVec.toNat_ofNat, BitVec.toNat_ofNat, Nat.mod_eq_of_lt (by omega), Nat.mod_eq_of_lt (by omega), Nat.or_comm]
    have := Nat.shiftLeft_add_eq_or_of_lt ha b
    rw [Nat.shiftLeft_eq] at this
    rw [← this]; omega
  show IntKind.u64.wrap (((BitVec.ofInt 64 (a : Int) ||| BitVec.ofInt 64 ((b * 2 ^ i : Nat) : Int)).toNat : Nat) : Int) = _
  rw [e, wrap_u64_id _ (by omega) (by omega)]
theorem row_bytes {w : World} {B e n c : Nat} {a : Option Addr} {l : List UInt8} (h : w.ownsRow B e 1 (.slice a n c) n (l.map byteC)) : bytesAt w a l := by
  rcases h.2 with ⟨e, h0⟩ | ⟨g, cap, cur, e, _⟩
  · have hl := h.1
    rw [List.length_map] at hl
    have hn : l = [] := List.eq_nil_of_length_eq_zero (by omega)
    simp only [Value.slice.injEq] at e
    obtain ⟨rfl, _, _⟩ := e
    exact hn
  · simp only [Value.slice.injEq] at e
    obtain ⟨rfl, _, rfl⟩ := e
    intro j b hb
    refine h.cells rfl j _ ?_
    rw [List.getElem?_map, hb]; rfl
theorem fixed_ok (n k : Nat) (w : World) (hn : n < 18446744073709551616) (hk : k ≤ 8) : Ret Try.prog 50 [.int .u64 n, .int .i64 k] w fun u w' => u = .string (ofL (fixL n k)) ∧ Below w.heap.size w w' := by
  refine ent50 _ _ _ _ ?_
  simp (disch := first | omega | exact okFill_t rfl | exact okSize_t rfl | exact fun h => h | (simp only [World.size_alloc, World.size_drew, World.size_setCell, size_fill, bytesW]; omega)) only [go_sem, c50, c50S0, c50S1, c50S2, c50S3]
  refine msW_one ty95mkI rfl (by omega) (by omega) (by omega) (by omega) ?_
  have s1 : St w (w.alloc (.cells (zerosA (.int .u8 0) 8) 5)) (fun _ => False) [.row (.slice (some ⟨w.heap.size, 0, none⟩) 0 8) 5 1 0 []] [] :=
    St.start.add ((Below.refl _ w).alloc (Nat.le_refl _) _) _ (World.ownsRow_made _ _ 8 (Nat.le_refl _) (by decide) (by rfl)) fun k hk => by simp only [Res.own, Value.ownBlock, Option.some.injEq] at hk; omega
  have e8 : max 0 (min (k : Int) 8) = k := by omega
  simp (disch := first | omega | exact okFill_t rfl | exact okSize_t rfl | exact fun h => h | (simp only [World.size_alloc, World.size_drew, World.size_setCell, size_fill, bytesW]; omega)) only [go_sem, c50, c50S0, c50S1, c50S2, c50S3, e8]
  refine W_loopU (fun q : Nat × Value => [(5, q.2), (11, .int .i64 q.1)]) (fun q w' => St w w' (fun _ => False) [.row q.2 5 1 q.1 ((fixL n q.1).map byteC)] [] ∧ q.1 ≤ k) (fun q => k - q.1) (0, .slice (some ⟨w.heap.size, 0, none⟩) 0 8) rfl ⟨s1, Nat.zero_le _⟩ ?_
  clear s1
  rintro ⟨j, v⟩ w1 ⟨s1, hj⟩
  simp only at s1 hj
  obtain ⟨a, c, rfl, _⟩ := own_slice (s1.row 0 rfl)
  by_cases hlt : j < k
  · have hlt' : (j : Int) < k := by omega
    simp (disch := first | omega | exact okFill_t rfl | exact okSize_t rfl | exact fun h => h | (simp only [World.size_alloc, World.size_drew, World.size_setCell, size_fill, bytesW]; omega)) only [go_sem, c50, c50S0, c50S1, c50L0, c50S2, c50S3, c50L0, hlt']
    have e1 : IntKind.u8.wrap ((n : Int) / 2 ^ min (IntKind.u64.wrap (8 * (j : Int))).toNat 64) = ((u8 (n / 256 ^ j)).toNat : Int) := by
      rw [wrap_u64_id _ (by omega) (by omega)]
      have e2 : min (8 * (j : Int)).toNat 64 = 8 * j := by omega
      rw [e2, ← wrap_u8, pow256]
      congr 1
    rw [e1]
    refine ⟨⟨by omega, by omega⟩, bsW_ones ty95mkI rfl rfl (by decide) (by decide) (byte_one (u8 (n / 256 ^ j))) ?_⟩
    simp (disch := first | omega | exact okFill_t rfl | exact okSize_t rfl | exact fun h => h | (simp only [World.size_alloc, World.size_drew, World.size_setCell, size_fill, bytesW]; omega)) only [go_sem, c50, c50S0, c50S1, c50L0, c50S2, c50S3]
    have hx : Rd (w1.alloc (.cells #[byteC (u8 (n / 256 ^ j))] 5)) 1 (.slice (some ⟨w1.heap.size, 0, none⟩) 1 1) 1 [byteC (u8 (n / 256 ^ j))] := rd_new (n := 1) (cs := #[byteC (u8 (n / 256 ^ j))]) rfl
    refine (s1.alloc' (.cells #[byteC (u8 (n / 256 ^ j))] 5)).append 0 rfl ty95mkI rfl (by decide) hx (byte_one _) (by omega) (by omega) ?_
    intro v6 w6 s6 c6
    simp only [List.set_cons_zero] at s6
    simp (disch := first | omega | exact okFill_t rfl | exact okSize_t rfl | exact fun h => h | (simp only [World.size_alloc, World.size_drew, World.size_setCell, size_fill, bytesW]; omega)) only [go_sem, c50, c50S0, c50S1, c50L0, c50S2, c50S3]
    refine ⟨⟨by omega, by omega⟩, (j + 1, v6), rfl, ⟨st_recast s6 ?_, by simp only; omega⟩, by simp only; omega⟩
    simp only [fixL_succ, List.map_append, List.map_cons, List.map_nil]
  · have hlt' : ¬ (j : Int) < k := by omega
    obtain rfl : j = k := by omega
    simp (disch := first | omega | exact okFill_t rfl | exact okSize_t rfl | exact fun h => h | (simp only [World.size_alloc, World.size_drew, World.size_setCell, size_fill, bytesW]; omega)) only [go_sem, c50, c50S0, c50S1, c50L0, c50S2, c50S3, c50L0, hlt']
    refine ⟨fixL n j, fixL_len n j, ?_, rfl, s1.bel⟩
    exact row_bytes (s1.row 0 rfl)
theorem unfixed_ok (l : List UInt8) (w : World) (hl : l.length ≤ 8) : Ret Try.prog 51 [.string (ofL l)] w fun u w' => u = .int .u64 (unfixL l) ∧ w' = w := by
  refine ent51 _ _ _ ?_
  have e8 : min (l.length : Int) 8 = l.length := by omega
  simp (disch := first | omega | exact okFill_t rfl | exact okSize_t rfl | exact fun h => h | (simp only [World.size_alloc, World.size_drew, World.size_setCell, size_fill, bytesW]; omega)) only [go_sem, c51, c51S0, c51S1, c51S2, e8]
  refine W_loopU (fun j : Nat => [(3, .int .u64 (unfixL (l.take j))), (8, .int .i64 j)]) (fun j w' => w' = w ∧ j ≤ l.length) (fun j => l.length - j) 0 rfl ⟨rfl, Nat.zero_le _⟩ ?_
  rintro j w1 ⟨e1, hj⟩
  subst w1
  by_cases hlt : j < l.length
  · have hlt' : (j : Int) < l.length := by omega
    simp (disch := first | omega | exact okFill_t rfl | exact okSize_t rfl | exact fun h => h | (simp only [World.size_alloc, World.size_drew, World.size_setCell, size_fill, bytesW]; omega)) only [go_sem, c51, c51S0, c51L0, c51S1, c51S2, c51L0, hlt']
    have hb : bN l (j : Int) = ((l[j].toNat : Nat) : Int) := (bN_get l j _ (List.getElem?_eq_getElem hlt))
    have e2 : min (8 * (j : Int)).toNat 64 = 8 * j := by omega
    have hlt2 := unfixL_lt (l.take j)
    rw [List.length_take, Nat.min_eq_left (by omega), pow256] at hlt2
    have hbl := l[j].toNat_lt
    rw [hb, wrap_u64_id _ (show 0 ≤ ((l[j].toNat : Nat) : Int) by omega) (by omega), wrap_u64_id (8 * (j : Int)) (by omega) (by omega), e2, or_next hlt2 (by omega) (by omega)]
    refine ⟨by omega, ⟨by omega, by omega⟩, ⟨by omega, by omega⟩, j + 1, ?_, by omega, by omega⟩
    rw [List.take_succ_eq_append_getElem hlt, unfixL_snoc, List.length_take, Nat.min_eq_left (by omega), pow256]
    rfl
  · have hlt' : ¬ (j : Int) < l.length := by omega
    simp (disch := first | omega | exact okFill_t rfl | exact okSize_t rfl | exact fun h => h | (simp only [World.size_alloc, World.size_drew, World.size_setCell, size_fill, bytesW]; omega)) only [go_sem, c51, c51S0, c51L0, c51S1, c51S2, c51L0, hlt']
    rw [List.take_of_length_le (by omega)]
def notB (b : UInt8) : UInt8 := 255 - b
def notL (l : List UInt8) : List UInt8 := l.map notB
theorem notL_len (l : List UInt8) : (notL l).length = l.length := by unfold notL; simp
theorem xor255 : ∀ x : Fin 256, bits BinOp.xor IntKind.u8 (x.val : Int) 255 = ((255 - x.val : Nat) : Int) := by decide +kernel
theorem xor_u8 (b : UInt8) : bits BinOp.xor IntKind.u8 ((b.toNat : Nat) : Int) 255 = (((notB b).toNat : Nat) : Int) := by
  have h := xor255 ⟨b.toNat, b.toNat_lt⟩
  rw [h]
  unfold notB
  have := b.toNat_lt
  rw [UInt8.toNat_sub_of_le _ _ (by rw [UInt8.le_iff_toNat_le]; show b.toNat ≤ 255; omega)]
  rfl
theorem not_ok (l : List UInt8) (w : World) (hl : (l.length : Int) ≤ 1000000) : Ret Try.prog 105 [.string (ofL l)] w fun u w' => u = .string (ofL (notL l)) ∧ Below w.heap.size w w' := by
  refine ent105 _ _ _ ?_
  simp (disch := first | omega | exact okFill_t rfl | exact okSize_t rfl | exact fun h => h | (simp only [World.size_alloc, World.size_drew, World.size_setCell, size_fill, bytesW]; omega)) only [go_sem, c105, c105S0, c105S1]
  intro c hc
  have hf0 : ∀ i, i < l.length → (bytesW w l c 5).frozen? ⟨w.heap.size, i, none⟩ = false := fun i hi => frozen_bytesW w l c 5 i (by omega)
  refine W_loopU (fun j : Nat => [(9, .int .i64 j)]) (fun j w' => j ≤ l.length ∧ bytesAt w' (some ⟨w.heap.size, 0, none⟩) (notL (l.take j) ++ l.drop j) ∧ (∀ i, i < l.length → w'.frozen? ⟨w.heap.size, i, none⟩ = false) ∧ Below w.heap.size w w') (fun j => l.length - j) 0 rfl ⟨Nat.zero_le _, bytesAt_bytesW w l c 5, hf0, below_bytesW w l c 5⟩ ?_
  rintro j w1 ⟨hj, ha, hf, hb⟩
  by_cases hlt : j < l.length
  · have hlt' : (j : Int) < l.length := by omega
    have e1 : (notL (l.take j) ++ l.drop j)[j]? = some l[j] := by
      rw [List.getElem?_append_right (by rw [notL_len, List.length_take]; omega), notL_len, List.length_take, Nat.min_eq_left (by omega), Nat.sub_self, List.getElem?_drop, Nat.add_zero, List.getElem?_eq_getElem hlt]
    have ec := ha j _ e1
    rw [Addr.add_lit, Nat.zero_add] at ec
    have ef := hf j hlt
    simp (disch := first | omega | exact okFill_t rfl | exact okSize_t rfl | exact fun h => h | (simp only [World.size_alloc, World.size_drew, World.size_setCell, size_fill, bytesW]; omega)) only [go_sem, c105, c105S0, c105L0, c105S1, c105L0, hlt', ec, ef]
    rw [xor_u8]
    have hs := bytesAt_set ha (j := j) (n := (((notB l[j]).toNat : Nat) : Int)) (by omega) (by have := (notB l[j]).toNat_lt; omega) (by rw [List.length_append, notL_len, List.length_take, List.length_drop]; omega)
    rw [Nat.zero_add] at hs
    refine ⟨by omega, by omega, ⟨by omega, by omega⟩, j + 1, rfl, ⟨by omega, ?_, hf, hb.setCell (Nat.le_refl _) _⟩, by omega⟩
    have e2 : (notL (l.take j) ++ l.drop j).set j (UInt8.ofNat (((notB l[j]).toNat : Nat) : Int).toNat) = notL (l.take (j + 1)) ++ l.drop (j + 1) := by
      rw [List.set_append_right _ _ (by rw [notL_len, List.length_take]; omega), notL_len, List.length_take, Nat.min_eq_left (by omega), Nat.sub_self, List.drop_eq_getElem_cons hlt, List.set_cons_zero, List.take_succ_eq_append_getElem hlt]
      unfold notL
      rw [List.map_append, List.append_assoc]
      simp
    rw [e2] at hs
    exact hs
  · have hlt' : ¬ (j : Int) < l.length := by omega
    obtain rfl : j = l.length := by omega
    simp (disch := first | omega | exact okFill_t rfl | exact okSize_t rfl | exact fun h => h | (simp only [World.size_alloc, World.size_drew, World.size_setCell, size_fill, bytesW]; omega)) only [go_sem, c105, c105S0, c105L0, c105S1, c105L0, hlt']
    rw [List.take_length, List.drop_length, List.append_nil] at ha
    exact ⟨notL l, notL_len l, ha, rfl, hb⟩
end Go.Proofs.Ytmchjbgobiagiaa

namespace Go.Proofs.Ytmchjbgobiagiaa
set_option linter.unusedSimpArgs false
set_option linter.unusedVariables false
set_option maxRecDepth 100000
open Go Go.Ann Go.RowKit Go.WideShapes
structure Hd where
  seq : Nat
  used : Nat
  room : Nat
  pages : Nat
deriving DecidableEq
structure Hd.ok (h : Hd) : Prop where
  seq : h.seq < 18446744073709551616
  used : h.used < 4294967296
  room : h.room < 4294967296
  pages : h.pages < 4294967296
def Hd.enc (h : Hd) : List Value := [.int .u64 h.seq, .int .i64 h.used, .int .i64 h.room, .int .i64 h.pages]
theorem Hd.len (h : Hd) : h.enc.length = 4 := rfl
theorem Hd.one (h : Hd) : ∀ u ∈ h.enc, u.oneCell' = true := by
  intro u hu
  simp only [Hd.enc, List.mem_cons, List.not_mem_nil, or_false] at hu
  rcases hu with rfl | rfl | rfl | rfl <;> rfl
def head0 (h : Hd) : List UInt8 := fixL h.seq 8 ++ fixL h.used 4 ++ fixL h.room 4 ++ fixL h.pages 4
def headL (h : Hd) : List UInt8 := head0 h ++ notL (head0 h)
theorem head0_len (h : Hd) : (head0 h).length = 20 := by unfold head0; simp only [List.length_append, fixL_len]
theorem headL_len (h : Hd) : (headL h).length = 40 := by unfold headL; rw [List.length_append, notL_len, head0_len]
def hd0 : Hd := ⟨0, 0, 0, 0⟩
def readHd (b : List UInt8) : Option Hd :=
  if b.length < 40 then none else if notL (b.take 20) = cutL b 20 40 then some ⟨unfixL (b.take 8), unfixL (cutL b 8 12), unfixL (cutL b 12 16), unfixL (cutL b 16 20)⟩ else none
theorem writeHead_ok (h : Hd) (ok : h.ok) (w : World) : Ret Try.prog 87 [.agg h.enc.toArray] w fun u w' => u = .string (ofL (headL h)) ∧ Below w.heap.size w w' := by
  refine ent87 _ _ _ ?_
  have s1 := (St.start (W0 := w)).box h.enc.toArray 73
  have r1 := s1.rules 0 rfl
  simp (disch := first | omega | exact okFill_t rfl | exact okSize_t rfl | exact fun h => h | (simp only [World.size_alloc, World.size_drew, World.size_setCell, size_fill, bytesW]; omega)) only [go_sem, c87, c87S0, c87S1]
  generalize hb : w.heap.size = b at s1 r1 ⊢
  generalize w.alloc (.cells h.enc.toArray 73) = w1 at s1 r1 ⊢
  refine c87draw0 (Chg (fun _ => False) _) (Chg.refl _ _) ?_
  have s2 := s1.drew
  have r2 := s2.rules 0 rfl
  have l2 := s2.low 0 rfl
  generalize w1.drew = w2 at s2 r2 l2 ⊢
  obtain ⟨o1, o2, o3, o4⟩ := ok
  simp (disch := first | omega | exact okFill_t rfl | exact okSize_t rfl | exact fun h => h | (simp only [World.size_alloc, World.size_drew, World.size_setCell, size_fill, bytesW]; omega)) only [go_sem, c87, c87S0, c87S1, c87D0, r2, Hd.enc]
  rw [wrap_u64_id (h.used : Int) (by omega) (by omega), wrap_u64_id (h.room : Int) (by omega) (by omega), wrap_u64_id (h.pages : Int) (by omega) (by omega)]
  refine Ret.mono (fixed_ok h.seq 8 w2 o1 (by omega)) ?_
  rintro _ w3 ⟨rfl, b3⟩
  simp (disch := first | omega | exact okFill_t rfl | exact okSize_t rfl | exact fun h => h | (simp only [World.size_alloc, World.size_drew, World.size_setCell, size_fill, bytesW]; omega)) only [go_sem, c87, c87S0, c87S1]
  refine ⟨Chg.of_below b3, Ret.mono (fixed_ok h.used 4 w3 (by omega) (by omega)) ?_⟩
  rintro _ w4 ⟨rfl, b4⟩
  have b4 := Below.next b3 b4
  simp (disch := first | omega | exact okFill_t rfl | exact okSize_t rfl | exact fun h => h | (simp only [World.size_alloc, World.size_drew, World.size_setCell, size_fill, bytesW]; omega)) only [go_sem, c87, c87S0, c87S1]
  refine ⟨Chg.of_below b4, by simp only [fixL_len]; omega, Ret.mono (fixed_ok h.room 4 w4 (by omega) (by omega)) ?_⟩
  rintro _ w5 ⟨rfl, b5⟩
  have b5 := Below.next b4 b5
  simp (disch := first | omega | exact okFill_t rfl | exact okSize_t rfl | exact fun h => h | (simp only [World.size_alloc, World.size_drew, World.size_setCell, size_fill, bytesW]; omega)) only [go_sem, c87, c87S0, c87S1]
  refine ⟨Chg.of_below b5, by simp only [List.length_append, fixL_len]; omega, Ret.mono (fixed_ok h.pages 4 w5 (by omega) (by omega)) ?_⟩
  rintro _ w6 ⟨rfl, b6⟩
  have b6 := Below.next b5 b6
  simp (disch := first | omega | exact okFill_t rfl | exact okSize_t rfl | exact fun h => h | (simp only [World.size_alloc, World.size_drew, World.size_setCell, size_fill, bytesW]; omega)) only [go_sem, c87, c87S0, c87S1]
  refine ⟨Chg.of_below b6, by simp only [List.length_append, fixL_len]; omega, Ret.mono (not_ok (head0 h) w6 (by rw [head0_len]; omega)) ?_⟩
  rintro _ w7 ⟨rfl, b7⟩
  have hl := head0_len h
  simp (disch := first | omega | exact okFill_t rfl | exact okSize_t rfl | exact fun h => h | (simp only [World.size_alloc, World.size_drew, World.size_setCell, size_fill, bytesW]; omega)) only [go_sem, c87, c87S0, c87S1]
  refine ⟨?_, rfl, ?_⟩
  · rw [notL_len, hl]
    show ((head0 h).length : Int) + (20 : Nat) ≤ _
    rw [hl]; omega
  · rw [← hb]
    exact (s2.call (Below.next b6 b7)).bel
theorem readAt_ok (b : List UInt8) (y : Nat) (i j : Nat) (w : World) (hy : w.cell? ⟨y, 0, none⟩ = some (.string (ofL b))) (hj : j = i + 4) (hi : j ≤ b.length) (hb : b.length ≤ 1000) :
    Ret Try.prog 106 [.int .i64 i, .pointer (some ⟨y, 0, none⟩)] w fun u w' => u = .int .i64 (unfixL (cutL b i j)) ∧ w' = w := by
  refine ent106 _ _ _ _ ?_
  simp (disch := first | omega | exact okFill_t rfl | exact okSize_t rfl | exact fun h => h | (simp only [World.size_alloc, World.size_drew, World.size_setCell, size_fill, bytesW]; omega)) only [go_sem, c106, c106S0, hy]
  subst hj
  have hc : (cutL b (i : Int) ((i : Int) + 4)).length = 4 := by
    unfold cutL; rw [List.length_drop, List.length_take]; omega
  refine ⟨⟨by omega, by omega⟩, ⟨by omega, by omega, by omega⟩, Ret.mono (unfixed_ok _ w (by rw [hc]; omega)) ?_⟩
  rintro _ w2 ⟨rfl, e2⟩
  subst w2
  have hlt := unfixL_lt (cutL b (i : Int) ((i : Int) + 4))
  rw [hc] at hlt
  have hlt : unfixL (cutL b (i : Int) ((i : Int) + 4)) < 4294967296 := hlt
  simp (disch := first | omega | exact okFill_t rfl | exact okSize_t rfl | exact fun h => h | (simp only [World.size_alloc, World.size_drew, World.size_setCell, size_fill, bytesW]; omega)) only [go_sem, c106, c106S0]
  constructor <;> omega
theorem readHead_ok (b : List UInt8) (hb : b.length ≤ 1000) (w : World) : Ret Try.prog 80 [.string (ofL b)] w fun u w' => u = .tuple #[.agg ((readHd b).getD hd0).enc.toArray, .bool (readHd b).isSome] ∧ Below w.heap.size w w' := by
  refine ent80 _ _ _ ?_
  have s1 := ((St.start (W0 := w)).box #[.string (ofL b)] 9).box #[.int .u64 0, .int .i64 0, .int .i64 0, .int .i64 0] 73
  simp (disch := first | omega | exact okFill_t rfl | exact okSize_t rfl | exact fun h => h | (simp only [World.size_alloc, World.size_drew, World.size_setCell, size_fill, bytesW]; omega)) only [go_sem, c80, c80S0, c80S1, c80S2]
  rw [World.size_alloc] at s1
  generalize hw : w.heap.size = y at s1 ⊢
  refine c80draw0 (Chg (fun _ => False) _) (Chg.refl _ _) ?_
  have s2 := s1.drew
  have r2 := s2.rules 1 rfl
  have l2 := s2.low 1 rfl
  generalize hw2 : ((w.alloc (.cells #[.string (ofL b)] 9)).alloc (.cells #[.int .u64 0, .int .i64 0, .int .i64 0, .int .i64 0] 73)).drew = w2 at s2 r2 l2 ⊢
  by_cases h40 : b.length < 40
  · have h40' : (b.length : Int) < 40 := by omega
    have e0 : readHd b = none := by unfold readHd; rw [if_pos h40]
    have q2 := s2.rules 0 rfl
    simp (disch := first | omega | exact okFill_t rfl | exact okSize_t rfl | exact fun h => h | (simp only [World.size_alloc, World.size_drew, World.size_setCell, size_fill, bytesW]; omega)) only [go_sem, c80, c80S0, c80S1, c80S2, c80D0, r2, h40', q2]
    refine bdW_built (cells := #[.int .u64 0, .int .i64 0, .int .i64 0, .int .i64 0]) (by kernel_rfl) ?_
    simp (disch := first | omega | exact okFill_t rfl | exact okSize_t rfl | exact fun h => h | (simp only [World.size_alloc, World.size_drew, World.size_setCell, size_fill, bytesW]; omega)) only [go_sem, c80, c80S0, c80S1, c80S2, q2]
    rw [e0]
    exact ⟨rfl, hw ▸ (s2.fill 0 rfl (cs := #[.int .u64 0, .int .i64 0, .int .i64 0, .int .i64 0]) rfl).bel⟩
  · have h40' : ¬ (b.length : Int) < 40 := by omega
    simp (disch := first | omega | exact okFill_t rfl | exact okSize_t rfl | exact fun h => h | (simp only [World.size_alloc, World.size_drew, World.size_setCell, size_fill, bytesW]; omega)) only [go_sem, c80, c80S0, c80S1, c80S2, c80D0, r2, h40']
    refine ⟨by omega, by omega, Ret.mono (not_ok (b.take 20) w2 (by rw [List.length_take]; omega)) ?_⟩
    rintro _ w3 ⟨rfl, b3⟩
    have s3 := s2.call b3
    have r3 := s3.rules 1 rfl
    have q3 := s3.rules 0 rfl
    by_cases hn : notL (b.take 20) = cutL b 20 40
    · have e0 : readHd b = some ⟨unfixL (b.take 8), unfixL (cutL b 8 12), unfixL (cutL b 12 16), unfixL (cutL b 16 20)⟩ := by unfold readHd; rw [if_neg h40, if_pos hn]
      rw [e0]
      simp (disch := first | omega | exact okFill_t rfl | exact okSize_t rfl | exact fun h => h | (simp only [World.size_alloc, World.size_drew, World.size_setCell, size_fill, bytesW]; omega)) only [go_sem, c80, c80S0, c80S1, c80S2, c80D0, hn, r3]
      have l8 : (b.take 8).length = 8 := by rw [List.length_take]; omega
      have h8 := unfixL_lt (b.take 8)
      rw [l8] at h8
      have h8 : unfixL (b.take 8) < 18446744073709551616 := h8
      refine ⟨Chg.of_below b3, by omega, Ret.mono (unfixed_ok (b.take 8) w3 (by omega)) ?_⟩
      rintro _ w4 ⟨rfl, e4⟩
      subst w4
      have hy : w3.cell? ⟨y, 0, none⟩ = some (.string (ofL b)) := (s3.blk 1 rfl).cell 0
      simp (disch := first | omega | exact okFill_t rfl | exact okSize_t rfl | exact fun h => h | (simp only [World.size_alloc, World.size_drew, World.size_setCell, size_fill, bytesW]; omega)) only [go_sem, c80, c80S0, c80S1, c80S2]
      refine callW_go ⟨by kernel_rfl, Ret.mono (readAt_ok b y 8 12 w3 hy rfl (by omega) hb) ?_⟩
      rintro _ w4 ⟨rfl, e4⟩
      subst w4
      simp (disch := first | omega | exact okFill_t rfl | exact okSize_t rfl | exact fun h => h | (simp only [World.size_alloc, World.size_drew, World.size_setCell, size_fill, bytesW]; omega)) only [go_sem, c80, c80S0, c80S1, c80S2]
      refine callW_go ⟨by kernel_rfl, Ret.mono (readAt_ok b y 12 16 w3 hy rfl (by omega) hb) ?_⟩
      rintro _ w4 ⟨rfl, e4⟩
      subst w4
      simp (disch := first | omega | exact okFill_t rfl | exact okSize_t rfl | exact fun h => h | (simp only [World.size_alloc, World.size_drew, World.size_setCell, size_fill, bytesW]; omega)) only [go_sem, c80, c80S0, c80S1, c80S2]
      refine callW_go ⟨by kernel_rfl, Ret.mono (readAt_ok b y 16 20 w3 hy rfl (by omega) hb) ?_⟩
      rintro _ w4 ⟨rfl, e4⟩
      subst w4
      simp (disch := first | omega | exact okFill_t rfl | exact okSize_t rfl | exact fun h => h | (simp only [World.size_alloc, World.size_drew, World.size_setCell, size_fill, bytesW]; omega)) only [go_sem, c80, c80S0, c80S1, c80S2]
      refine bdW_built (cells := (Hd.mk (unfixL (b.take 8)) (unfixL (cutL b 8 12)) (unfixL (cutL b 12 16)) (unfixL (cutL b 16 20))).enc.toArray) (by kernel_rfl) ?_
      simp (disch := first | omega | exact okFill_t rfl | exact okSize_t rfl | exact fun h => h | (simp only [World.size_alloc, World.size_drew, World.size_setCell, size_fill, bytesW]; omega)) only [go_sem, c80, c80S0, c80S1, c80S2, q3, Hd.enc]
      exact ⟨rfl, hw ▸ (s3.fill 0 rfl (cs := (Hd.mk (unfixL (b.take 8)) (unfixL (cutL b 8 12)) (unfixL (cutL b 12 16)) (unfixL (cutL b 16 20))).enc.toArray) rfl).bel⟩
    · have e0 : readHd b = none := by unfold readHd; rw [if_neg h40, if_neg hn]
      rw [e0]
      simp (disch := first | omega | exact okFill_t rfl | exact okSize_t rfl | exact fun h => h | (simp only [World.size_alloc, World.size_drew, World.size_setCell, size_fill, bytesW]; omega)) only [go_sem, c80, c80S0, c80S1, c80S2, c80D0, hn, r3]
      refine ⟨Chg.of_below b3, bdW_built (cells := #[.int .u64 0, .int .i64 0, .int .i64 0, .int .i64 0]) (by kernel_rfl) ?_⟩
      simp (disch := first | omega | exact okFill_t rfl | exact okSize_t rfl | exact fun h => h | (simp only [World.size_alloc, World.size_drew, World.size_setCell, size_fill, bytesW]; omega)) only [go_sem, c80, c80S0, c80S1, c80S2, q3]
      exact ⟨rfl, hw ▸ (s3.fill 0 rfl (cs := #[.int .u64 0, .int .i64 0, .int .i64 0, .int .i64 0]) rfl).bel⟩
end Go.Proofs.Ytmchjbgobiagiaa
