/- Texts put together by program. -/
import Derived.Test.YtmchjbgobiagiaaGreatQA1
namespace Go.Ann
set_option linter.unusedSimpArgs false
set_option linter.unusedVariables false
open Go Go.RowKit
inductive ST where
  | nil
  | one (k i : Nat) (r : ST)
  | alt (i : Nat) (r q : ST)
  | stop
inductive GT where
  | nil
  | one (k : Nat) (x : Ins) (r : GT)
  | alt (x : Ins) (r q : GT)
  | stop
def insOf (l : List Oper) (i : Nat) : Option Ins :=
  match l[i]? with
  | none => none
  | some o => match stripG l o.guard with
    | some g => some ⟨o.dst, o.op, o.type, g⟩
    | none => none
def insT (l : List Oper) : ST → Option GT
  | .nil => some .nil
  | .stop => some .stop
  | .one k i r => match insOf l i, insT l r with
    | some x, some t => some (.one k x t)
    | _, _ => none
  | .alt i r q => match insOf l i, insT l r, insT l q with
    | some x, some t, some u => some (.alt x t u)
    | _, _, _ => none
def stepX (P : Program) (S : World → Prop) (k : Nat) (x : Ins) (ρ : Env) (w : World) (C : Env → World → Prop) : Prop :=
  match x.g with
  | none => opG P S k x.op x.ty ρ w fun v w' => C (put ρ x.dst v) w'
  | some (s, b) => match lk ρ s with
    | some (.bool c) => (c = b → opG P S k x.op x.ty ((s, .bool b) :: ρ) w fun v w' => C (put ((s, .bool b) :: ρ) x.dst v) w') ∧ (c = !b → C (put ((s, .bool !b) :: ρ) x.dst undef) w)
    | some (.tuple _) => C (put ρ x.dst undef) w
    | _ => False
def DT (P : Program) (S : World → Prop) : GT → List Nat → Env → World → Post → Prop
  | .nil, L, ρ, w, Q => Q .normal (restr L ρ) w
  | .one k x r, L, ρ, w, Q => stepX P S k x ρ w fun ρ' w' => DT P S r L ρ' w' Q
  | .alt x r q, L, ρ, w, Q => (stepX P S 2 x ρ w fun ρ' w' => DT P S r L ρ' w' Q) ∧ DT P S q L ρ w Q
  | .stop, _, _, _, _ => True
section
variable {P : Program} {S : World → Prop} {w : World} {ρ : Env} {Q : Post} {r q : GT} {L : List Nat} {d : Option Nat} {ty : TypeId} {k : Nat} {op : Op} {s : Nat} {b c : Bool} {x : Ins}
def DTn (P : Program) (S : World → Prop) (r : GT) (L : List Nat) (ρ : Env) (d : Option Nat) (Q : Post) : Value → World → Prop := fun v w => DT P S r L (put ρ d v) w Q
def DTs (P : Program) (S : World → Prop) (r : GT) (L : List Nat) (ρ : Env) (d : Option Nat) (Q : Post) : Value → World → Prop := fun v w => S w ∧ DT P S r L (put ρ d v) w Q
def opT (P : Program) (S : World → Prop) (k : Nat) (op : Op) (ty : TypeId) (r : GT) (L : List Nat) (ρ : Env) (d : Option Nat) (w : World) (Q : Post) : Prop := opG P S k op ty ρ w (DTn P S r L ρ d Q)
def dT (P : Program) (S : World → Prop) (o : Option Value) (s : Nat) (b : Bool) (k : Nat) (d : Option Nat) (op : Op) (ty : TypeId) (r : GT) (L : List Nat) (ρ : Env) (w : World) (Q : Post) : Prop :=
  match o with
  | some (.bool c) => (c = b → opT P S k op ty r L ((s, .bool b) :: ρ) d w Q) ∧ (c = !b → DT P S r L (put ((s, .bool !b) :: ρ) d undef) w Q)
  | some (.tuple _) => DT P S r L (put ρ d undef) w Q
  | _ => False
def nxT (P : Program) (S : World → Prop) (k : Nat) (x : Ins) (r : GT) (L : List Nat) (ρ : Env) (w : World) (Q : Post) : Prop := stepX P S k x ρ w fun ρ' w' => DT P S r L ρ' w' Q
theorem DT_nil : DT P S .nil L ρ w Q = Q .normal (restr L ρ) w := (rfl)
theorem DT_stop : DT P S .stop L ρ w Q = True := (rfl)
theorem DT_one : DT P S (.one k x r) L ρ w Q = nxT P S k x r L ρ w Q := (rfl)
theorem DT_alt : DT P S (.alt x r q) L ρ w Q = (nxT P S 2 x r L ρ w Q ∧ DT P S q L ρ w Q) := (rfl)
theorem nxT_plain : nxT P S k ⟨d, op, ty, none⟩ r L ρ w Q = opT P S k op ty r L ρ d w Q := (rfl)
theorem nxT_guard : nxT P S k ⟨d, op, ty, some (s, b)⟩ r L ρ w Q = dT P S (lk ρ s) s b k d op ty r L ρ w Q := by
  simp only [nxT, stepX, dT]; rfl
theorem DTn_app {v : Value} : DTn P S r L ρ d Q v w = DT P S r L (put ρ d v) w Q := (rfl)
theorem DTs_app {v : Value} : DTs P S r L ρ d Q v w = (S w ∧ DT P S r L (put ρ d v) w Q) := (rfl)
theorem opT_0 : opT P S 0 op ty r L ρ d w Q = pureW P op ty ρ w (DTn P S r L ρ d Q) := (rfl)
theorem opT_1 {t : TypeId} {x : Operand} : opT P S 1 (.load t x) ty r L ρ d w Q = ptrW (fun p => heldW P S t p w (DTn P S r L ρ d Q)) (ev ρ x) := (rfl)
theorem opT_2 : opT P S 2 op ty r L ρ d w Q = (noY ρ op ∧ opW P op ty ρ w (DTs P S r L ρ d Q)) := (rfl)
theorem dT_t : dT P S (some (.bool true)) s true k d op ty r L ρ w Q = opT P S k op ty r L ((s, .bool true) :: ρ) d w Q := by simp [dT]
theorem dT_f : dT P S (some (.bool false)) s false k d op ty r L ρ w Q = opT P S k op ty r L ((s, .bool false) :: ρ) d w Q := by simp [dT]
theorem dT_tf : dT P S (some (.bool true)) s false k d op ty r L ρ w Q = DT P S r L (put ((s, .bool true) :: ρ) d undef) w Q := by simp [dT]
theorem dT_ft : dT P S (some (.bool false)) s true k d op ty r L ρ w Q = DT P S r L (put ((s, .bool false) :: ρ) d undef) w Q := by simp [dT]
theorem dT_gen : dT P S (some (.bool c)) s b k d op ty r L ρ w Q = ((c = b → opT P S k op ty r L ((s, .bool b) :: ρ) d w Q) ∧ (c = !b → DT P S r L (put ((s, .bool !b) :: ρ) d undef) w Q)) := (rfl)
theorem dT_undef : dT P S (some undef) s b k d op ty r L ρ w Q = DT P S r L (put ρ d undef) w Q := (rfl)
end
attribute [go_sem low] dT_gen
attribute [go_sem] DT_nil DT_stop DT_one DT_alt nxT_plain nxT_guard DTn_app DTs_app opT_0 opT_1 opT_2 dT_t dT_f dT_tf dT_ft dT_undef
end Go.Ann

namespace Go.Ann
open Go Go.RowKit
set_option linter.unusedVariables false
set_option linter.unusedSimpArgs false
section
variable {κ : Type} {P : Program} {enc : κ → Value} {t : TypeId}
variable [DecidableEq κ]
structure KeyT (P : Program) (t : TypeId) (enc : κ → Value) (d : TypeDesc) : Prop where
  und : P.underlying t = some d
  chk' : ∀ (n : Nat) (w : World) (em : Bool) (a : κ), (Instr.checkKey em (n + 2) t (enc a)).run P w = .ok () w
  now : ∀ a b : κ, Instr.sameNow d (enc a) (enc b) = none ∨ Instr.sameNow d (enc a) (enc b) = some (decide (a = b))
  eq : ∀ (w : World) (a b : κ), (Op.equal t (enc a) (enc b)).run P w = .ok (decide (a = b)) w
theorem KeyT.chk {d : TypeDesc} (h : KeyT P t enc d) (w : World) (em : Bool) (a : κ) : (Instr.checkKey em 10000 t (enc a)).run P w = .ok () w := h.chk' 9998 w em a
variable {d : TypeDesc}
end
section
variable {P : Program} {t : TypeId}
end
end Go.Ann

namespace Go.Ann
open Go Go.RowKit
attribute [go_sem] storeW_fill List.setIfInBounds_toArray List.set_cons_zero List.set_cons_succ List.getElem_toArray List.getElem_cons_zero List.getElem_cons_succ Nat.reduceLeDiff Nat.reduceSub okSt_nil okSt_cons fillO_some fillO_none cF_same cF_blk fF_any size_fill Value.oneCell' Int.toNat_natCast Int.cast_ofNat_Int cast0 cast1 Int.natCast_add add_block add_off Classical.not_not decide_not Bool.not_eq_false decide_true decide_false Bool.true_beq Bool.false_beq beq_true beq_false Bool.true_bne Bool.false_bne Bool.bne_true Bool.bne_false decide_eq_true_eq Bool.not_eq_eq_eq_not Nat.mul_one List.size_toArray List.length_cons List.length_nil Nat.le_refl ldK_int ldK_bool ldK_str ldK_slice ldK_ptr ldK_map ldK_agg ldK_other ldO_int ldO_bool ldO_str ldO_slice ldO_ptr ldO_map ldO_other ldA_some cellsO_new cellsO_nil cellsC_some cellsO_drew cellsO_alloc cA_add cS_add cA_new cA_old fA_new fA_old setO_some cS_same cS_off cS_blk World.cell?_drew World.frozen?_drew World.frozen?_setCell World.size_alloc World.size_drew World.size_setCell heldX_eq heldX_add chg_refl chg_drew ovr_nil ovr_cons Option.getD_some Option.getD_none Addr.add_lit Nat.add_zero Option.some.injEq exists_eq' exists_eq_left' Value.int.injEq Value.bool.injEq Value.pointer.injEq Value.string.injEq
end Go.Ann
section
attribute [go_sem_proc] reduceCtorEq Nat.reduceBEq Nat.reduceEqDiff Nat.reduceAdd Nat.reduceMul Int.reduceNe Int.reduceEq Int.reduceLT Int.reduceLE Int.reduceNeg Int.reduceAdd Int.reduceSub Int.reduceMul Int.reduceToNat
attribute [go_sem_proc ↓] reduceIte
attribute [go_sem] beq_self_eq_true
end

namespace Go.Ann
open Go Go.RowKit
set_option linter.unusedVariables false
set_option linter.unusedSimpArgs false
attribute [go_sem_proc] reduceCtorEq Nat.reduceBEq Nat.reduceEqDiff Nat.reduceAdd Nat.reduceMul Int.reduceNe Int.reduceEq Int.reduceLT Int.reduceLE Int.reduceNeg Int.reduceAdd Int.reduceSub Int.reduceMul Int.reduceToNat
attribute [go_sem_proc ↓] reduceIte
attribute [go_sem] beq_self_eq_true
section
variable {κ ν : Type} {P : Program} {ek : κ → Value} {ev : ν → Value} {t : TypeId}
def entG (ek : κ → Value) (ev : ν → Value) (x : κ × ν × Nat) : MapEntry := { key := ek x.1, val := ev x.2.1, born := x.2.2 }
def mapG (ek : κ → Value) (ev : ν → Value) (l : List (κ × ν × Nat)) (c : Nat) : Obj := .map (l.map (entG ek ev)).toArray c
theorem mmG {m : TypeId} {w : World} {K : Value → World → Prop} (hK : K (.map (some w.heap.size)) (w.alloc (mapG ek ev [] 0))) : mmW P m w K := by
  refine ⟨_, _, ?_, hK⟩
  unfold Instr.makeMap
  simp [Sem.run_bind, Result.andThen, run_newObj_alloc]
  rfl
variable [DecidableEq κ]
def getM (a : κ) : List (κ × ν × Nat) → Option ν
  | [] => none
  | x :: l => if a = x.1 then some x.2.1 else getM a l
def setM (a : κ) (v : ν) (c : Nat) : List (κ × ν × Nat) → List (κ × ν × Nat)
  | [] => [(a, v, c)]
  | x :: l => if a = x.1 then (x.1, v, x.2.2) :: l else x :: setM a v c l
def whereM (ev : ν → Value) (a : κ) : List (κ × ν × Nat) → Nat → Option (Nat × Value)
  | [], _ => none
  | x :: l, i => if a = x.1 then some (i, ev x.2.1) else whereM ev a l (i + 1)
theorem whereM_get (a : κ) : ∀ (l : List (κ × ν × Nat)) (i : Nat), (whereM ev a l i).map Prod.snd = (getM a l).map ev
  | [], _ => rfl
  | x :: l, i => by
    simp only [whereM, getM]
    split
    · rfl
    · exact whereM_get a l (i + 1)
variable {d : TypeDesc}
theorem findNow_G (hk : KeyT P t ek d) (a : κ) : ∀ (l : List (κ × ν × Nat)) (i : Nat), Instr.findNow d (ek a) (l.map (entG ek ev)) i = none ∨ Instr.findNow d (ek a) (l.map (entG ek ev)) i = some (whereM ev a l i)
  | [], i => .inr rfl
  | b :: l, i => by
    simp only [List.map_cons, entG, Instr.findNow, whereM]
    rcases hk.now a b.1 with h | h
    · exact .inl (by rw [h])
    · rw [h]
      by_cases e : a = b.1
      · rw [decide_eq_true e, if_pos e]; exact .inr rfl
      · rw [decide_eq_false e, if_neg e]; exact findNow_G hk a l _
theorem findAsk_G (hk : KeyT P t ek d) (w : World) (a : κ) : ∀ (l : List (κ × ν × Nat)) (i : Nat), (Instr.findAsking t (ek a) (l.map (entG ek ev)) i).run P w = .ok (whereM ev a l i) w
  | [], i => rfl
  | b :: l, i => by
    simp only [List.map_cons, entG, Instr.findAsking, whereM, Sem.run_bind, hk.eq w a b.1, Result.andThen_ok]
    by_cases e : a = b.1
    · rw [decide_eq_true e, if_pos e]; rfl
    · rw [decide_eq_false e, if_neg e]
      simp only [Bool.false_eq_true, if_false]
      exact findAsk_G hk w a l _
theorem findKey_G (hk : KeyT P t ek d) (w : World) (a : κ) (l : List (κ × ν × Nat)) : (Instr.findKey t (ek a) (l.map (entG ek ev))).run P w = .ok (whereM ev a l 0) w := by
  unfold Instr.findKey
  simp only [Sem.run_bind, run_underlying hk.und, Result.andThen_ok]
  rcases findNow_G (ev := ev) hk a l 0 with h | h
  · rw [h]; exact findAsk_G hk w a l 0
  · rw [h]; rfl
def luG (ev : ν → Value) (z : Value) : Option ν → Bool → Value
  | some v, true => .tuple #[ev v, .bool true]
  | none, true => .tuple #[z, .bool false]
  | some v, false => ev v
  | none, false => z
theorem luG_map {m e : TypeId} {w : World} {K : Value → World → Prop} {r c : Nat} {ok : Bool} {z : Value} (hk : KeyT P t ek d) (hm : P.underlying m = some (.map t e)) {l : List (κ × ν × Nat)} (hr : w.heap[r]? = some (mapG ek ev l c)) (a : κ)
    (hz : (zeroValue e).run P w = .ok z w) (hK : K (luG ev z (getM a l) ok) w) : luW P m (.map (some r)) (ek a) ok w K := by
  refine ⟨_, _, ?_, hK⟩
  unfold Instr.lookup
  have hg : (getObj r).run P w = .ok (.map (l.map (entG ek ev)).toArray c) w := run_getObj_map w r _ _ hr
  simp only [Sem.run_bind, run_underlying hm, Result.andThen_ok, hg, Sem.run_pure, hk.chk, findKey_G hk, List.toList_toArray]
  have h := whereM_get (ev := ev) a l 0
  cases hw : whereM ev a l 0 with
  | some p =>
    rw [hw] at h
    cases hg2 : getM a l with
    | none => rw [hg2] at h; cases h
    | some v =>
      rw [hg2] at h
      obtain ⟨pj, pv⟩ := p
      simp only [Option.map_some, Option.some.injEq] at h
      subst h
      cases ok <;> rfl
  | none =>
    rw [hw] at h
    cases hg2 : getM a l with
    | some v => rw [hg2] at h; cases h
    | none =>
      simp only [Sem.run_bind, hz, Result.andThen_ok]
      cases ok <;> rfl
theorem whereM_set (a : κ) (v : ν) (c : Nat) : ∀ (l : List (κ × ν × Nat)) (i j : Nat) (u : Value), whereM ev a l i = some (j, u) → i ≤ j ∧ j - i < l.length ∧ (∃ x, (l.map (entG ek ev))[j - i]? = some (entG ek ev x) ∧ x.1 = a) ∧ (setM a v c l).map (entG ek ev) = (l.map (entG ek ev)).modify (j - i) (fun e => { e with key := ek a, val := ev v })
  | [], _, _, _, h => by cases h
  | x :: l, i, j, u, h => by
    simp only [whereM] at h
    split at h
    · rename_i e
      simp only [Option.some.injEq, Prod.mk.injEq] at h
      obtain ⟨rfl, rfl⟩ := h
      refine ⟨Nat.le_refl _, by simp, ⟨x, by simp, e.symm⟩, ?_⟩
      rw [show setM a v c (x :: l) = (x.1, v, x.2.2) :: l from if_pos e]
      simp only [Nat.sub_self, List.map_cons, List.modify_zero_cons, entG, e]
    · rename_i e
      obtain ⟨h1, h2, ⟨y, h3, h4⟩, h5⟩ := whereM_set a v c l (i + 1) j u h
      have e1 : j - i = (j - (i + 1)) + 1 := by omega
      refine ⟨by omega, by simp only [List.length_cons]; omega, ⟨y, ?_, h4⟩, ?_⟩
      · rw [e1, List.map_cons, List.getElem?_cons_succ]; exact h3
      · rw [e1]
        simp only [setM, if_neg e, List.map_cons, List.modify_succ_cons, h5]
theorem whereM_none {a : κ} (v : ν) (c : Nat) : ∀ {l : List (κ × ν × Nat)} {i : Nat}, whereM ev a l i = none → setM a v c l = l ++ [(a, v, c)] ∧ getM a l = none
  | [], _, _ => ⟨rfl, rfl⟩
  | x :: l, i, h => by
    simp only [whereM] at h
    split at h
    · cases h
    · rename_i e
      obtain ⟨h1, h2⟩ := whereM_none v c h
      exact ⟨by simp only [setM, if_neg e, h1, List.cons_append], by simp only [getM, if_neg e, h2]⟩
theorem muG_map {m e : TypeId} {w : World} {K : Value → World → Prop} {r c : Nat} (hk : KeyT P t ek d) (hm : P.underlying m = some (.map t e)) (hs : ∀ a : κ, Instr.sameBits 10000 (ek a) (ek a) = true) {l : List (κ × ν × Nat)} (hr : w.heap[r]? = some (mapG ek ev l c)) (a : κ) (v : ν)
    (hK : K undef (w.putObj r (mapG ek ev (setM a v c l) (if (getM a l).isSome then c else c + 1)))) : muW P m (.map (some r)) (ek a) (ev v) w K := by
  have hg : (getObj r).run P w = .ok (.map (l.map (entG ek ev)).toArray c) w := run_getObj_map w r _ _ hr
  have hs' : ∀ o, (setObj r o).run P w = .ok () (w.putObj r o) := fun o => by simp [setObj, Sem.run, hr, mapG, World.putObj]
  cases hw : whereM ev a l 0 with
  | none =>
    obtain ⟨h1, h2⟩ := whereM_none v c hw
    refine ⟨_, ?_, hK⟩
    unfold Instr.mapUpdate
    simp only [Sem.run_bind, run_underlying hm, Result.andThen_ok, hg, Sem.run_pure, hk.chk, findKey_G hk, List.toList_toArray, hw]
    rw [hs', h1]
    have e : (l.map (entG ek ev)).toArray.push { key := ek a, val := ev v, born := c } = ((l ++ [(a, v, c)]).map (entG ek ev)).toArray := by
      rw [List.map_append]; simp [entG]
    rw [e, h2]; rfl
  | some p =>
    obtain ⟨j, u⟩ := p
    obtain ⟨_, h2, ⟨x, h3, h4⟩, h5⟩ := whereM_set (ek := ek) a v c l 0 j u hw
    rw [Nat.sub_zero] at h2 h3 h5
    have hsome : (getM a l).isSome = true := by
      have := whereM_get (ev := ev) a l 0
      rw [hw] at this
      cases h : getM a l with
      | none => rw [h] at this; cases this
      | some _ => rfl
    rw [if_pos hsome] at hK
    refine ⟨_, ?_, hK⟩
    unfold Instr.mapUpdate
    simp only [Sem.run_bind, run_underlying hm, Result.andThen_ok, hg, Sem.run_pure, hk.chk, findKey_G hk, List.toList_toArray, hw]
    have e0 : ((((l.map (entG ek ev)).toArray)[j]?).map (·.key)).getD (ek a) = ek a := by
      rw [List.getElem?_toArray, h3]; simp [entG, h4]
    have e1 : (Instr.keyThatStays ((((l.map (entG ek ev)).toArray)[j]?).map (·.key)|>.getD (ek a)) (ek a)).run P w = .ok (ek a) w := by
      rw [e0]; unfold Instr.keyThatStays; rw [if_pos (hs a)]; rfl
    rw [e1]
    simp only [Result.andThen_ok]
    rw [hs']
    unfold mapG
    rw [h5]
    congr 3
    apply Array.ext'
    simp [Array.toList_modify]
theorem keyT_int {ki : IntKind} (ht : P.underlying t = some (.int ki)) : KeyT P t (fun n : Int => .int ki n) (.int ki) := by
  refine ⟨ht, fun n w em a => ?_, fun a b => .inr ?_, fun w a b => ?_⟩
  · simp only [Instr.checkKey, Sem.run_bind, run_underlying ht, Result.andThen_ok]; rfl
  · simp [Instr.sameNow]; rfl
  · show (Op.equalIn 10000 t _ _).run P w = _
    rw [run_equalIn_int w 9999 t ki ki a b ht]
    rfl
end
section
variable {P : Program} {w : World} {K : Value → World → Prop}
theorem St.copy {W0 : World} {F : Nat → Prop} {L : List Res} {I : List Inv} {dT sT ty e sz bytes g n cap k o m dc sc i : Nat} {z : Value} {cs : Array Bool} {xs : List Value} (h : St W0 w F L I) (hi : L[i]? = some (.row (.slice (some ⟨g, 0, none⟩) n cap) e sz n xs))
    (hm : mkI P dT = some (e, sz, bytes, z)) (ho : o + k ≤ n) (hmk : m + k ≤ n) (h1 : ∀ u ∈ xs, u.oneCell' = true) {kd ks : Nat} (hk : min ks kd = k)
    (hK : ∀ w', St W0 w' F (L.set i (.row (.slice (some ⟨g, 0, none⟩) n cap) e sz n (xs.take (o * sz) ++ (xs.drop (m * sz)).take (k * sz) ++ xs.drop ((o + k) * sz)))) I → K (goInt (k : Nat)) w') :
    rawB P .copy #[dT, sT] ty cs [.slice (some ⟨g, o * sz, none⟩) kd dc, .slice (some ⟨g, m * sz, none⟩) ks sc] w K := by
  obtain ⟨inf, hu, hinf, _, hsi, _⟩ := mkI_some hm
  have hr := h.row i hi
  have hlen : xs.length = n * sz := hr.1
  rcases hr.2 with ⟨h', _⟩ | ⟨g', cap', cur, h', hb, hg, hnc, hcm, hcs, htake⟩
  · simp at h'
  simp only [Value.slice.injEq, Option.some.injEq, Addr.mk.injEq, and_true, true_and] at h'
  obtain ⟨rfl, rfl⟩ := h'
  have a1 : (o + k) * sz ≤ n * sz := Nat.mul_le_mul_right _ ho
  have a2 : (m + k) * sz ≤ n * sz := Nat.mul_le_mul_right _ hmk
  have a3 : n * sz ≤ cap * sz := Nat.mul_le_mul_right _ hnc
  rw [Nat.add_mul] at a1 a2
  have hcl : ((xs.drop (m * sz)).take (k * sz)).length = k * sz := by rw [List.length_take, List.length_drop]; omega
  have hsrc : ∀ j v, ((xs.drop (m * sz)).take (k * sz))[j]? = some v → w.cell? ((⟨g, m * sz, none⟩ : Addr).add j) = some v := fun j v hj => by
    rw [List.getElem?_take] at hj
    split at hj
    · rw [List.getElem?_drop] at hj
      have e : (⟨g, m * sz, none⟩ : Addr).add j = ⟨g, m * sz + j, none⟩ := by unfold Addr.add; split <;> simp_all
      rw [e, hr.cellAt _ (by omega), hj]
    · cases hj
  have hl := run_loadCells_list (P := P) w ⟨g, m * sz, none⟩ _ hsrc
  have h1' : ∀ v ∈ (xs.drop (m * sz)).take (k * sz), v.oneCell' = true := fun v hv => h1 v (List.mem_of_mem_drop (List.mem_of_mem_take hv))
  have hst := run_storeCells_at P g (o * sz) e _ 0 cur w hg (by rw [hcl, hcs]; omega) h1'
  rw [hcl] at hl hst
  have hrow : (w.setRow g (cur.toList.take (o * sz) ++ (xs.drop (m * sz)).take (k * sz) ++ cur.toList.drop (o * sz + k * sz)).toArray).ownsRow W0.heap.size e sz (.slice (some ⟨g, 0, none⟩) n cap) n (xs.take (o * sz) ++ (xs.drop (m * sz)).take (k * sz) ++ xs.drop ((o + k) * sz)) := by
    have hcur : cur.toList.length = cap * sz := by rw [Array.length_toList, hcs]
    refine ⟨?_, .inr ⟨g, cap, _, rfl, hb, setRow_heap w g cur _ e _ hg, hnc, hcm, ?_, ?_⟩⟩
    · simp only [List.length_append, hcl, List.length_take, List.length_drop, Nat.add_mul]; omega
    · simp only [List.size_toArray, List.length_append, hcl, List.length_take, List.length_drop]; omega
    · simp only [List.toList_toArray]
      rw [← htake]
      apply List.ext_getElem?
      intro j
      simp only [List.getElem?_take, List.getElem?_append, List.length_append, List.length_take, List.length_drop, List.getElem?_drop, hcur, hcl]
      rw [← htake] at hcl
      simp only [List.length_take, List.length_drop, hcur] at hcl
      simp only [Nat.add_mul, List.length_take, hcur, List.length_drop, hcl]
      have e1 : min (o * sz) (cap * sz) = o * sz := by omega
      have e2 : min (o * sz) (min (n * sz) (cap * sz)) = o * sz := by omega
      simp only [e1, e2]
      by_cases c1 : j < n * sz
      · rw [if_pos c1]
        by_cases c2 : j < o * sz
        · rw [if_pos (by omega), if_pos c2, if_pos (by omega), if_pos c2, if_pos c2, if_pos c1, if_pos (by omega)]
        · by_cases c3 : j < o * sz + k * sz
          · rw [if_pos (by omega), if_neg c2, if_pos (by omega), if_neg c2, if_pos c3]
          · rw [if_neg (by omega), if_neg (by omega), if_pos (by omega)]
      · rw [if_neg c1, if_neg (by omega), if_neg (by omega)]
  refine ⟨_, w.setRow g (cur.toList.take (o * sz) ++ (xs.drop (m * sz)).take (k * sz) ++ cur.toList.drop (o * sz + k * sz)).toArray, ?_, hK _ (h.upd i hi ?_ _ hrow fun k' hk' => .inl hk')⟩
  · simp only [Nat.add_zero] at hst
    have hk' : Nat.min ks kd = k := hk
    simp [builtin, Builtin.copy_, run_underlying hu, Builtin.lenOf, Builtin.firstCells, sizeOf, typeInfo, hinf, ← hsi, hk', hl]
    simp [hst]
  · refine (Chg.refl _ w).grown (row := some g) ⟨rfl, rfl, rfl, by simp, fun j hj hne => ?_⟩ fun j hj _ => by
      simp only [Option.some.injEq] at hj; subst hj; rfl
    simp only [World.setRow, Array.getElem?_modify]
    rw [if_neg (fun e => hne (by rw [e]))]
def Same (X : Nat → Prop) (w0 w' : World) : Prop := ∀ b, X b → w'.heap[b]? = w0.heap[b]?
theorem Same.refl (X : Nat → Prop) (w : World) : Same X w w := fun _ _ => rfl
theorem heldS_held {X : Nat → Prop} {t : TypeId} {w0 : World} {p : Addr} (h2 : X p.block) (h3 : loadW P t p w0 fun v _ => K v w) : heldW P (Same X w0) t p w K := by
  have key : ∀ w' j, Same X w0 w' → w'.cell? (p.add j) = w0.cell? (p.add j) := fun w' j hc => by
    have e : (p.add j).block = p.block := by unfold Addr.add; split <;> rfl
    exact World.cell?_of_block (hc _ (by rw [e]; exact h2))
  have key0 : ∀ w', Same X w0 w' → w'.cell? p = w0.cell? p := fun w' hc => by have := key w' 0 hc; simpa only [Addr.add_zero'] using this
  unfold heldW
  unfold loadW at h3 ⊢
  cases hk : tyK P t with
  | int k => rw [hk] at h3; obtain ⟨n, hc, hK⟩ := h3; exact ⟨_, fun w' hw => ⟨n, (key0 w' hw).trans hc, rfl, rfl⟩, hK⟩
  | bool => rw [hk] at h3; obtain ⟨n, hc, hK⟩ := h3; exact ⟨_, fun w' hw => ⟨n, (key0 w' hw).trans hc, rfl, rfl⟩, hK⟩
  | str => rw [hk] at h3; obtain ⟨n, hc, hK⟩ := h3; exact ⟨_, fun w' hw => ⟨n, (key0 w' hw).trans hc, rfl, rfl⟩, hK⟩
  | slice u e => rw [hk] at h3; obtain ⟨x, n, c, hc, hK⟩ := h3; exact ⟨_, fun w' hw => ⟨x, n, c, (key0 w' hw).trans hc, rfl, rfl⟩, hK⟩
  | ptr => rw [hk] at h3; obtain ⟨n, hc, hK⟩ := h3; exact ⟨_, fun w' hw => ⟨n, (key0 w' hw).trans hc, rfl, rfl⟩, hK⟩
  | map => rw [hk] at h3; obtain ⟨n, hc, hK⟩ := h3; exact ⟨_, fun w' hw => ⟨n, (key0 w' hw).trans hc, rfl, rfl⟩, hK⟩
  | agg n => rw [hk] at h3; obtain ⟨cs, hc, hl, hK⟩ := h3; exact ⟨_, fun w' hw => ⟨cs, fun i v hv => (key w' i hw).trans (hc i v hv), hl, rfl, rfl⟩, hK⟩
  | other => rw [hk] at h3; obtain ⟨n, hc, hK⟩ := h3; exact ⟨_, fun w' hw => ⟨n, (key0 w' hw).trans hc, rfl, rfl⟩, hK⟩
  | none => rw [hk] at h3; exact h3.elim
@[go_sem] theorem heldS_eq {X : Nat → Prop} {t : TypeId} {w0 : World} {b i : Nat} (h2 : X b) : heldW P (Same X w0) t ⟨b, i, none⟩ w K = loadW P t ⟨b, i, none⟩ w0 fun v _ => K v w := by
  apply propext
  exact ⟨fun ⟨v, h, hk⟩ => loadW_mono (h w0 (Same.refl _ _)) fun u hu => by rw [hu.1]; exact hk, heldS_held h2⟩
end
end Go.Ann

namespace Go.Ann
open Go Go.RowKit
set_option linter.unusedVariables false
set_option linter.unusedSimpArgs false
def overL (xs : List Value) (o : Nat) (vs : List Value) : List Value := xs.take o ++ vs ++ xs.drop (o + vs.length)
theorem overL_length {xs vs : List Value} {o : Nat} (h : o + vs.length ≤ xs.length) : (overL xs o vs).length = xs.length := by
  unfold overL; simp only [List.length_append, List.length_take, List.length_drop]; omega
theorem overL_take {xs vs : List Value} {o k : Nat} (h : o + vs.length = k) (h' : k ≤ xs.length) : (overL xs o vs).take k = xs.take o ++ vs := by
  unfold overL
  have : (xs.take o ++ vs).length = k := by rw [List.length_append, List.length_take]; omega
  rw [← this, List.take_left]
section
variable {P : Program} {w : World} {K : Value → World → Prop} {g t e sz bytes : Nat} {z : Value} {cur : Array Value}
theorem storeB {vs : List Value} {o : Nat} (hB : Blk w g cur e) (hf : o + vs.length ≤ cur.size) (h1 : ∀ u ∈ vs, u.oneCell' = true) :
    (storeCells ⟨g, o, none⟩ vs).run P w = .ok () (w.setRow g (overL cur.toList o vs).toArray) ∧ Blk (w.setRow g (overL cur.toList o vs).toArray) g (overL cur.toList o vs).toArray e ∧ Chg (fun k => k = g) w (w.setRow g (overL cur.toList o vs).toArray) := by
  have hst := run_storeCells_at P g o e vs 0 cur w hB (by simpa using hf) h1
  simp only [Nat.add_zero] at hst
  refine ⟨hst, setRow_heap w g cur _ e _ hB, ?_⟩
  refine (Chg.refl _ w).grown (row := some g) ⟨rfl, rfl, rfl, by simp, fun j hj hne => ?_⟩ fun j hj _ => by
    simp only [Option.some.injEq] at hj; subst hj; rfl
  simp only [World.setRow, Array.getElem?_modify]
  rw [if_neg (fun e => hne (by rw [e]))]
theorem appendB {ty n m cap c : Nat} {src : Option Addr} {cs : Array Bool} {ys : List Value} (hm : mkI P t = some (e, sz, bytes, z)) (hB : Blk w g cur e) (hfit : n + m ≤ cap) (hcap : cap * sz ≤ cur.size) (hy : Rd w sz (.slice src m c) m ys) (h1 : ∀ u ∈ ys, u.oneCell' = true)
    (hK : ∀ w', Blk w' g (overL cur.toList (n * sz) ys).toArray e → Chg (fun k => k = g) w w' → K (.slice (some ⟨g, 0, none⟩) (n + m) cap) w') :
    rawB P .append #[t, t] ty cs [.slice (some ⟨g, 0, none⟩) n cap, .slice src m c] w K := by
  obtain ⟨i, hu, hi, _, hsi, _⟩ := mkI_some hm
  obtain ⟨hl, a', c', he, _, hr⟩ := hy
  simp only [Value.slice.injEq, true_and] at he
  obtain ⟨rfl, rfl⟩ := he
  have hmul : (n + m) * sz ≤ cap * sz := Nat.mul_le_mul_right _ hfit
  rw [Nat.add_mul] at hmul
  have hf : n * sz + ys.length ≤ cur.size := by omega
  obtain ⟨r1, r2, r3⟩ := storeB (P := P) hB hf h1
  rcases Nat.eq_zero_or_pos m with h0 | h0
  · subst h0
    have hy0 : ys = [] := List.eq_nil_of_length_eq_zero (by rw [hl]; simp)
    subst hy0
    refine ⟨_, _, ?_, hK _ r2 r3⟩
    have hst := run_storeCells_at P g (n * sz) e [] 0 cur w hB (by simpa using hf) h1
    have hfc : (Builtin.firstCells sz 0 (.slice src 0 c)).run P w = .ok #[] w := by
      cases src with
      | none => rfl
      | some a => simp [Builtin.firstCells, loadCells, loadCellsFrom]
    have ha : (Builtin.append_ #[t, t] ty #[.slice (some ⟨g, 0, none⟩) n cap, .slice src 0 c]).run P w = .ok (.slice (some ⟨g, 0, none⟩) (n + 0) cap) (w.setRow g (overL cur.toList (n * sz) []).toArray) := by
      simp [Builtin.append_, run_underlying hu, sizeOf, typeInfo, hi, Builtin.lenOf, Addr.add_lit, ← hsi, hfc, r1, (show n ≤ cap by omega)]
    simp [builtin, ha]
  · obtain ⟨ad, rfl, h4⟩ := hr (by omega)
    have hroom := run_append_room (P := P) (w := w) t ty e i hu hi g n cap cur hB ad m c ys (by rw [hl, hsi]) h4 h1 hfit (by rw [← hsi]; exact hf)
    refine ⟨_, _, ?_, hK _ r2 r3⟩
    rw [← hsi] at hroom
    simp [builtin, hroom, overL]
theorem overL_nil {xs : List Value} {o : Nat} : overL xs o [] = xs := by
  unfold overL; simp [List.take_append_drop]
theorem copyB {dT sT ty o kd dc ks sc k : Nat} {a : Addr} {cs : Array Bool} {ys : List Value} (hm : mkI P dT = some (e, sz, bytes, z)) (hB : Blk w g cur e) (hk : min ks kd = k) (hl : ys.length = k * sz) (hy : ∀ j u, ys[j]? = some u → w.cell? (a.add j) = some u) (h1 : ∀ u ∈ ys, u.oneCell' = true) (hf : o + ys.length ≤ cur.size)
    (hK : ∀ w', Blk w' g (overL cur.toList o ys).toArray e → Chg (fun k => k = g) w w' → K (goInt (k : Nat)) w') :
    rawB P .copy #[dT, sT] ty cs [.slice (some ⟨g, o, none⟩) kd dc, .slice (some a) ks sc] w K := by
  obtain ⟨i, hu, hi, _, hsi, _⟩ := mkI_some hm
  obtain ⟨r1, r2, r3⟩ := storeB (P := P) hB hf h1
  have hll := run_loadCells_list (P := P) w a ys hy
  rw [hl] at hll
  have hk' : Nat.min ks kd = k := hk
  refine ⟨_, _, ?_, hK _ r2 r3⟩
  simp [builtin, Builtin.copy_, run_underlying hu, Builtin.lenOf, Builtin.firstCells, sizeOf, typeInfo, hi, ← hsi, hk', hll, r1]
theorem clearB {ty o n c : Nat} {cs : Array Bool} (hm : mkI P t = some (e, sz, bytes, z)) (hzs : z.cells.size = sz) (h1 : ∀ u ∈ z.cells.toList, u.oneCell' = true) (hB : Blk w g cur e) (hf : o + n * sz ≤ cur.size)
    (hK : ∀ w' ys, ys.length = n * sz → Blk w' g (overL cur.toList o ys).toArray e → Chg (fun k => k = g) w w' → K (.tuple #[]) w') :
    rawB P .clear #[t] ty cs [.slice (some ⟨g, o, none⟩) n c] w K := by
  obtain ⟨i, hu, hi, hzz, hsi, _⟩ := mkI_some hm
  rcases Nat.eq_zero_or_pos n with h0 | h0
  · subst h0
    refine ⟨_, w, ?_, hK w [] (by simp) (by rw [overL_nil]; exact hB) (Chg.refl _ _)⟩
    simp [builtin, Builtin.clear_, run_underlying hu]
  · have hl : (Builtin.zeroCells z.cells n).toList.length = n * sz := by rw [Array.length_toList, size_zeroCells, hzs]
    have h1' : ∀ u ∈ (Builtin.zeroCells z.cells n).toList, u.oneCell' = true := fun u hu => by
      rw [Array.mem_toList_iff] at hu
      unfold Builtin.zeroCells at hu
      rw [Array.mem_map] at hu
      obtain ⟨j, hj, rfl⟩ := hu
      rw [Array.mem_range] at hj
      have hp : 0 < z.cells.size := by
        rcases Nat.eq_zero_or_pos z.cells.size with h | h
        · rw [h] at hj; omega
        · exact h
      rw [getElem!_pos z.cells _ (Nat.mod_lt _ hp)]
      exact h1 _ (by simp)
    obtain ⟨r1, r2, r3⟩ := storeB (P := P) (o := o) hB (by rw [hl]; exact hf) h1'
    refine ⟨_, _, ?_, hK _ _ hl r2 r3⟩
    obtain ⟨m, rfl⟩ : ∃ m, n = m + 1 := ⟨n - 1, by omega⟩
    simp [builtin, Builtin.clear_, run_underlying hu, zeroValue, typeInfo, hi, hzz, r1]
theorem growB {tn ty m cap : Nat} {a : Option Addr} {kq kn : IntKind} {cs : Array Bool} (hm : mkI P t = some (e, sz, bytes, z)) (htn : P.underlying tn = some (.int kn)) (hzs : z.cells.size = sz) (hsz : 0 < sz) (h0 : 0 < m) (hg : cap < m) (h63 : m ≤ 9223372036854775807) (hb : m * bytes ≤ 140737488355328)
    (hK : ∀ G Z, m ≤ G → G ≤ maxLen → Z.size = G * sz → K (.slice (some ⟨w.heap.size, 0, none⟩) m G) (w.drew.alloc (.cells Z e))) :
    rawB P .append #[t, tn] ty cs [.slice a 0 cap, .int kq m] w K := by
  obtain ⟨i, hu, hi, hzz, hsi, hby⟩ := mkI_some hm
  have hold : (Builtin.firstCells i.size 0 (.slice a 0 cap)).run P w.drew = .ok ([] : List Value).toArray w.drew := by
    cases a with
    | none => rfl
    | some a => simp [Builtin.firstCells, loadCells, loadCellsFrom]
  have h := Lib.run_append_grow_zeros w t tn ty e i z kq kn hu htn hi hzz a 0 cap [] hold m h0 (by omega) (by omega) (by omega) (by rw [← hby]; omega) (by rw [← hby, Nat.zero_add]; exact growslice_fits hg hb)
  rw [Nat.zero_add] at h
  refine ⟨_, _, ?_, hK (grownCap w m cap e) (([] : List Value).toArray ++ Builtin.zeroCells z.cells m ++ Builtin.zeroCells z.cells (grownCap w m cap e - m)) (grownCap_ge w m cap e) (grownCap_le_maxLen w m cap e (by simp only [maxLen]; omega)) ?_⟩
  · simp [builtin, h]
  · have := grownCap_ge w m cap e
    simp only [Array.size_append, size_zeroCells, hzs, List.size_toArray, List.length_nil, Nat.zero_add, ← Nat.add_mul]
    congr 1
    omega
theorem overlapsW {f tR la ca lb cb : Nat} {fn : Func} {a b : Addr} {ca' cb' : Array Value} {ta tb : TypeId} (hf : P.funcs[f]? = some fn) (hname : (fn.name == "runtime.NumGoroutine") = false) (hb : fn.body.isNone = true) (hn : Extern.findNext fn = none) (he : Extern.find fn = some (Extern.SlicesOverlaps.overlaps #[t, t] #[tR]))
    (hm : mkI P t = some (e, sz, bytes, z)) (hne : a.block ≠ b.block) (hA : Blk w a.block ca' ta) (hBb : Blk w b.block cb' tb) (hk : 0 < cb'.size) (hK : K (.bool false) w) :
    extW P f [.slice (some a) la ca, .slice (some b) lb cb] w K := by
  obtain ⟨i, hu, hi, hzz, hsi, hby⟩ := mkI_some hm
  refine ⟨.bool false, w, ?_, hK⟩
  have hsa : w.shape? a.block = some (ta, ca'.size) := by unfold World.shape?; rw [hA]
  have hsb : w.shape? b.block = some (tb, cb'.size) := by unfold World.shape?; rw [hBb]
  have hfz : ∀ p : Addr, p.block = a.block → w.frozen? p = false := fun p hp => by unfold World.frozen?; rw [hp, hA]; simp
  rw [run_callFunc_extern hf hname hb hn he, Lib.run_overlaps_apart w t tR e hu i.size (fun w => by simp [sizeOf, typeInfo, hi]) a b la ca lb cb hne ta tb ca'.size cb'.size hsa hsb (by omega) (hfz _ rfl) (hfz _ rfl)]
  rfl
end
end Go.Ann

namespace Go.Proofs.YtmchjbgobiagiaaGreat
open Go Go.Ann
@[go_sem] theorem ty3tyK : tyK Tryz.prog 3 = .int .i64 := by kernel_rfl
@[go_sem] theorem ty3sizeT : sizeT Tryz.prog 3 = some 1 := by kernel_rfl
@[go_sem] theorem ty3zeroT : zeroT Tryz.prog 3 = some (.int .i64 0) := by kernel_rfl
@[go_sem] theorem ty3conc : Program.concrete Tryz.prog 3 = true := by kernel_rfl
@[go_sem] theorem ty4tyK : tyK Tryz.prog 4 = .bool := by kernel_rfl
@[go_sem] theorem ty4isBoolT : isBoolT Tryz.prog 4 = true := by kernel_rfl
@[go_sem] theorem ty4sizeT : sizeT Tryz.prog 4 = some 1 := by kernel_rfl
@[go_sem] theorem ty4zeroT : zeroT Tryz.prog 4 = some (.bool false) := by kernel_rfl
@[go_sem] theorem ty4conc : Program.concrete Tryz.prog 4 = true := by kernel_rfl
@[go_sem] theorem ty5tyK : tyK Tryz.prog 5 = .int .u8 := by kernel_rfl
@[go_sem] theorem ty5sizeT : sizeT Tryz.prog 5 = some 1 := by kernel_rfl
@[go_sem] theorem ty5zeroT : zeroT Tryz.prog 5 = some (.int .u8 0) := by kernel_rfl
@[go_sem] theorem ty5conc : Program.concrete Tryz.prog 5 = true := by kernel_rfl
@[go_sem] theorem ty9tyK : tyK Tryz.prog 9 = .str := by kernel_rfl
@[go_sem] theorem ty9isStrT : isStrT Tryz.prog 9 = true := by kernel_rfl
@[go_sem] theorem ty9sizeT : sizeT Tryz.prog 9 = some 1 := by kernel_rfl
@[go_sem] theorem ty9zeroT : zeroT Tryz.prog 9 = some (.string (ofL [])) := by kernel_rfl
@[go_sem] theorem ty9conc : Program.concrete Tryz.prog 9 = true := by kernel_rfl
@[go_sem] theorem ty23tyK : tyK Tryz.prog 23 = .agg 4 := by kernel_rfl
@[go_sem] theorem ty23sizeT : sizeT Tryz.prog 23 = some 4 := by kernel_rfl
@[go_sem] theorem ty23zeroT : zeroT Tryz.prog 23 = some (.agg #[(.int .i64 0), (.int .i64 0), (.int .i64 0), (.string (ofL []))]) := by kernel_rfl
@[go_sem] theorem ty23conc : Program.concrete Tryz.prog 23 = true := by kernel_rfl
@[go_sem] theorem ty23plc : plcT Tryz.prog 23 = some [(0, 1), (1, 1), (2, 1), (3, 1)] := by kernel_rfl
@[go_sem] theorem ty23flat : flatT Tryz.prog 23 = some [.int, .int, .int, .str] := by kernel_rfl
@[go_sem] theorem ty23fld0 : fldI Tryz.prog 23 0 = some (0, 1, false) := by kernel_rfl
@[go_sem] theorem ty23fld1 : fldI Tryz.prog 23 1 = some (1, 1, false) := by kernel_rfl
@[go_sem] theorem ty23fld2 : fldI Tryz.prog 23 2 = some (2, 1, false) := by kernel_rfl
@[go_sem] theorem ty23fld3 : fldI Tryz.prog 23 3 = some (3, 1, false) := by kernel_rfl
@[go_sem] theorem ty24tyK : tyK Tryz.prog 24 = .ptr := by kernel_rfl
@[go_sem] theorem ty24isPtrT : isPtrT Tryz.prog 24 = true := by kernel_rfl
@[go_sem] theorem ty24sizeT : sizeT Tryz.prog 24 = some 1 := by kernel_rfl
@[go_sem] theorem ty24zeroT : zeroT Tryz.prog 24 = some (.pointer none) := by kernel_rfl
@[go_sem] theorem ty24conc : Program.concrete Tryz.prog 24 = true := by kernel_rfl
@[go_sem] theorem ty25tyK : tyK Tryz.prog 25 = .ptr := by kernel_rfl
@[go_sem] theorem ty25isPtrT : isPtrT Tryz.prog 25 = true := by kernel_rfl
@[go_sem] theorem ty25sizeT : sizeT Tryz.prog 25 = some 1 := by kernel_rfl
@[go_sem] theorem ty25zeroT : zeroT Tryz.prog 25 = some (.pointer none) := by kernel_rfl
@[go_sem] theorem ty25conc : Program.concrete Tryz.prog 25 = true := by kernel_rfl
@[go_sem] theorem ty26tyK : tyK Tryz.prog 26 = .ptr := by kernel_rfl
@[go_sem] theorem ty26isPtrT : isPtrT Tryz.prog 26 = true := by kernel_rfl
@[go_sem] theorem ty26sizeT : sizeT Tryz.prog 26 = some 1 := by kernel_rfl
@[go_sem] theorem ty26zeroT : zeroT Tryz.prog 26 = some (.pointer none) := by kernel_rfl
@[go_sem] theorem ty26conc : Program.concrete Tryz.prog 26 = true := by kernel_rfl
@[go_sem] theorem ty28tyK : tyK Tryz.prog 28 = .agg 2 := by kernel_rfl
@[go_sem] theorem ty28sizeT : sizeT Tryz.prog 28 = some 2 := by kernel_rfl
@[go_sem] theorem ty28zeroT : zeroT Tryz.prog 28 = some (.agg #[(.pointer none), (.pointer none)]) := by kernel_rfl
@[go_sem] theorem ty28conc : Program.concrete Tryz.prog 28 = true := by kernel_rfl
@[go_sem] theorem ty28plc : plcT Tryz.prog 28 = some [(0, 1), (1, 1)] := by kernel_rfl
@[go_sem] theorem ty28fld0 : fldI Tryz.prog 28 0 = some (0, 1, false) := by kernel_rfl
@[go_sem] theorem ty28fld1 : fldI Tryz.prog 28 1 = some (1, 1, false) := by kernel_rfl
@[go_sem] theorem ty29tyK : tyK Tryz.prog 29 = .slice false 24 := by kernel_rfl
@[go_sem] theorem ty29isSliceT : isSliceT Tryz.prog 29 = true := by kernel_rfl
@[go_sem] theorem ty29sliI : sliI Tryz.prog 29 = some 1 := by kernel_rfl
@[go_sem] theorem ty29mkI : mkI Tryz.prog 29 = some (24, 1, 8, (.pointer none)) := by kernel_rfl
@[go_sem] theorem ty29sizeT : sizeT Tryz.prog 29 = some 1 := by kernel_rfl
@[go_sem] theorem ty29zeroT : zeroT Tryz.prog 29 = some (.slice none 0 0) := by kernel_rfl
@[go_sem] theorem ty29conc : Program.concrete Tryz.prog 29 = true := by kernel_rfl
@[go_sem] theorem ty30tyK : tyK Tryz.prog 30 = .int .i64 := by kernel_rfl
@[go_sem] theorem ty30sizeT : sizeT Tryz.prog 30 = some 1 := by kernel_rfl
@[go_sem] theorem ty30zeroT : zeroT Tryz.prog 30 = some (.int .i64 0) := by kernel_rfl
@[go_sem] theorem ty30conc : Program.concrete Tryz.prog 30 = true := by kernel_rfl
@[go_sem] theorem ty45tyK : tyK Tryz.prog 45 = .slice false 23 := by kernel_rfl
@[go_sem] theorem ty45isSliceT : isSliceT Tryz.prog 45 = true := by kernel_rfl
@[go_sem] theorem ty45sliI : sliI Tryz.prog 45 = some 4 := by kernel_rfl
@[go_sem] theorem ty45mkI : mkI Tryz.prog 45 = some (23, 4, 40, (.agg #[(.int .i64 0), (.int .i64 0), (.int .i64 0), (.string (ofL []))])) := by kernel_rfl
@[go_sem] theorem ty45sizeT : sizeT Tryz.prog 45 = some 1 := by kernel_rfl
@[go_sem] theorem ty45zeroT : zeroT Tryz.prog 45 = some (.slice none 0 0) := by kernel_rfl
@[go_sem] theorem ty45conc : Program.concrete Tryz.prog 45 = true := by kernel_rfl
@[go_sem] theorem ty46tyK : tyK Tryz.prog 46 = .ptr := by kernel_rfl
@[go_sem] theorem ty46isPtrT : isPtrT Tryz.prog 46 = true := by kernel_rfl
@[go_sem] theorem ty46sizeT : sizeT Tryz.prog 46 = some 1 := by kernel_rfl
@[go_sem] theorem ty46zeroT : zeroT Tryz.prog 46 = some (.pointer none) := by kernel_rfl
@[go_sem] theorem ty46conc : Program.concrete Tryz.prog 46 = true := by kernel_rfl
@[go_sem] theorem ty49tyK : tyK Tryz.prog 49 = .slice false 9 := by kernel_rfl
@[go_sem] theorem ty49isSliceT : isSliceT Tryz.prog 49 = true := by kernel_rfl
@[go_sem] theorem ty49sliI : sliI Tryz.prog 49 = some 1 := by kernel_rfl
@[go_sem] theorem ty49mkI : mkI Tryz.prog 49 = some (9, 1, 16, (.string (ofL []))) := by kernel_rfl
@[go_sem] theorem ty49sizeT : sizeT Tryz.prog 49 = some 1 := by kernel_rfl
@[go_sem] theorem ty49zeroT : zeroT Tryz.prog 49 = some (.slice none 0 0) := by kernel_rfl
@[go_sem] theorem ty49conc : Program.concrete Tryz.prog 49 = true := by kernel_rfl
@[go_sem] theorem ty51tyK : tyK Tryz.prog 51 = .agg 2 := by kernel_rfl
@[go_sem] theorem ty51sizeT : sizeT Tryz.prog 51 = some 2 := by kernel_rfl
@[go_sem] theorem ty51zeroT : zeroT Tryz.prog 51 = some (.agg #[(.slice none 0 0), (.slice none 0 0)]) := by kernel_rfl
@[go_sem] theorem ty51conc : Program.concrete Tryz.prog 51 = true := by kernel_rfl
@[go_sem] theorem ty51plc : plcT Tryz.prog 51 = some [(0, 1), (1, 1)] := by kernel_rfl
@[go_sem] theorem ty51fld0 : fldI Tryz.prog 51 0 = some (0, 1, false) := by kernel_rfl
@[go_sem] theorem ty51fld1 : fldI Tryz.prog 51 1 = some (1, 1, false) := by kernel_rfl
@[go_sem] theorem ty58tyK : tyK Tryz.prog 58 = .int .u64 := by kernel_rfl
@[go_sem] theorem ty58sizeT : sizeT Tryz.prog 58 = some 1 := by kernel_rfl
@[go_sem] theorem ty58zeroT : zeroT Tryz.prog 58 = some (.int .u64 0) := by kernel_rfl
@[go_sem] theorem ty58conc : Program.concrete Tryz.prog 58 = true := by kernel_rfl
@[go_sem] theorem ty89tyK : tyK Tryz.prog 89 = .slice false 93 := by kernel_rfl
@[go_sem] theorem ty89isSliceT : isSliceT Tryz.prog 89 = true := by kernel_rfl
@[go_sem] theorem ty89sliI : sliI Tryz.prog 89 = some 2 := by kernel_rfl
@[go_sem] theorem ty89mkI : mkI Tryz.prog 89 = some (93, 2, 24, (.agg #[(.int .i64 0), (.string (ofL []))])) := by kernel_rfl
@[go_sem] theorem ty89sizeT : sizeT Tryz.prog 89 = some 1 := by kernel_rfl
@[go_sem] theorem ty89zeroT : zeroT Tryz.prog 89 = some (.slice none 0 0) := by kernel_rfl
@[go_sem] theorem ty89conc : Program.concrete Tryz.prog 89 = true := by kernel_rfl
@[go_sem] theorem ty91tyK : tyK Tryz.prog 91 = .agg 5 := by kernel_rfl
@[go_sem] theorem ty91sizeT : sizeT Tryz.prog 91 = some 5 := by kernel_rfl
@[go_sem] theorem ty91zeroT : zeroT Tryz.prog 91 = some (.agg #[(.slice none 0 0), (.slice none 0 0), (.int .i64 0), (.bool false), (.string (ofL []))]) := by kernel_rfl
@[go_sem] theorem ty91conc : Program.concrete Tryz.prog 91 = true := by kernel_rfl
@[go_sem] theorem ty91plc : plcT Tryz.prog 91 = some [(0, 1), (1, 1), (2, 1), (3, 1), (4, 1)] := by kernel_rfl
@[go_sem] theorem ty91fld0 : fldI Tryz.prog 91 0 = some (0, 1, false) := by kernel_rfl
@[go_sem] theorem ty91fld1 : fldI Tryz.prog 91 1 = some (1, 1, false) := by kernel_rfl
@[go_sem] theorem ty91fld2 : fldI Tryz.prog 91 2 = some (2, 1, false) := by kernel_rfl
@[go_sem] theorem ty91fld3 : fldI Tryz.prog 91 3 = some (3, 1, false) := by kernel_rfl
@[go_sem] theorem ty91fld4 : fldI Tryz.prog 91 4 = some (4, 1, false) := by kernel_rfl
@[go_sem] theorem ty93tyK : tyK Tryz.prog 93 = .agg 2 := by kernel_rfl
@[go_sem] theorem ty93sizeT : sizeT Tryz.prog 93 = some 2 := by kernel_rfl
@[go_sem] theorem ty93zeroT : zeroT Tryz.prog 93 = some (.agg #[(.int .i64 0), (.string (ofL []))]) := by kernel_rfl
@[go_sem] theorem ty93conc : Program.concrete Tryz.prog 93 = true := by kernel_rfl
@[go_sem] theorem ty93plc : plcT Tryz.prog 93 = some [(0, 1), (1, 1)] := by kernel_rfl
@[go_sem] theorem ty93flat : flatT Tryz.prog 93 = some [.int, .str] := by kernel_rfl
@[go_sem] theorem ty93fld0 : fldI Tryz.prog 93 0 = some (0, 1, false) := by kernel_rfl
@[go_sem] theorem ty93fld1 : fldI Tryz.prog 93 1 = some (1, 1, false) := by kernel_rfl
@[go_sem] theorem ty94tyK : tyK Tryz.prog 94 = .int .u64 := by kernel_rfl
@[go_sem] theorem ty94sizeT : sizeT Tryz.prog 94 = some 1 := by kernel_rfl
@[go_sem] theorem ty94zeroT : zeroT Tryz.prog 94 = some (.int .u64 0) := by kernel_rfl
@[go_sem] theorem ty94conc : Program.concrete Tryz.prog 94 = true := by kernel_rfl
@[go_sem] theorem ty96tyK : tyK Tryz.prog 96 = .agg 4 := by kernel_rfl
@[go_sem] theorem ty96sizeT : sizeT Tryz.prog 96 = some 4 := by kernel_rfl
@[go_sem] theorem ty96zeroT : zeroT Tryz.prog 96 = some (.agg #[(.int .u64 0), (.int .i64 0), (.int .i64 0), (.int .i64 0)]) := by kernel_rfl
@[go_sem] theorem ty96conc : Program.concrete Tryz.prog 96 = true := by kernel_rfl
@[go_sem] theorem ty96plc : plcT Tryz.prog 96 = some [(0, 1), (1, 1), (2, 1), (3, 1)] := by kernel_rfl
@[go_sem] theorem ty96flat : flatT Tryz.prog 96 = some [.int, .int, .int, .int] := by kernel_rfl
@[go_sem] theorem ty96fld0 : fldI Tryz.prog 96 0 = some (0, 1, false) := by kernel_rfl
@[go_sem] theorem ty96fld1 : fldI Tryz.prog 96 1 = some (1, 1, false) := by kernel_rfl
@[go_sem] theorem ty96fld2 : fldI Tryz.prog 96 2 = some (2, 1, false) := by kernel_rfl
@[go_sem] theorem ty96fld3 : fldI Tryz.prog 96 3 = some (3, 1, false) := by kernel_rfl
@[go_sem] theorem ty99tyK : tyK Tryz.prog 99 = .map := by kernel_rfl
@[go_sem] theorem ty99isMapT : isMapT Tryz.prog 99 = true := by kernel_rfl
@[go_sem] theorem ty99sizeT : sizeT Tryz.prog 99 = some 1 := by kernel_rfl
@[go_sem] theorem ty99zeroT : zeroT Tryz.prog 99 = some (.map none) := by kernel_rfl
@[go_sem] theorem ty99conc : Program.concrete Tryz.prog 99 = true := by kernel_rfl
@[go_sem] theorem ty101tyK : tyK Tryz.prog 101 = .agg 7 := by kernel_rfl
@[go_sem] theorem ty101sizeT : sizeT Tryz.prog 101 = some 7 := by kernel_rfl
@[go_sem] theorem ty101zeroT : zeroT Tryz.prog 101 = some (.agg #[(.pointer none), (.int .u64 0), (.int .i64 0), (.int .i64 0), (.int .i64 0), (.map none), (.bool false)]) := by kernel_rfl
@[go_sem] theorem ty101conc : Program.concrete Tryz.prog 101 = true := by kernel_rfl
@[go_sem] theorem ty101plc : plcT Tryz.prog 101 = some [(0, 1), (1, 4), (5, 1), (6, 1)] := by kernel_rfl
@[go_sem] theorem ty101fld0 : fldI Tryz.prog 101 0 = some (0, 1, false) := by kernel_rfl
@[go_sem] theorem ty101fld1 : fldI Tryz.prog 101 1 = some (1, 4, true) := by kernel_rfl
@[go_sem] theorem ty101fld2 : fldI Tryz.prog 101 2 = some (5, 1, false) := by kernel_rfl
@[go_sem] theorem ty101fld3 : fldI Tryz.prog 101 3 = some (6, 1, false) := by kernel_rfl
@[go_sem] theorem ty106tyK : tyK Tryz.prog 106 = .slice true 5 := by kernel_rfl
@[go_sem] theorem ty106isSliceT : isSliceT Tryz.prog 106 = true := by kernel_rfl
@[go_sem] theorem ty106sliI : sliI Tryz.prog 106 = some 1 := by kernel_rfl
@[go_sem] theorem ty106mkI : mkI Tryz.prog 106 = some (5, 1, 1, (.int .u8 0)) := by kernel_rfl
@[go_sem] theorem ty106sizeT : sizeT Tryz.prog 106 = some 1 := by kernel_rfl
@[go_sem] theorem ty106zeroT : zeroT Tryz.prog 106 = some (.slice none 0 0) := by kernel_rfl
@[go_sem] theorem ty106conc : Program.concrete Tryz.prog 106 = true := by kernel_rfl
@[go_sem] theorem ty121tyK : tyK Tryz.prog 121 = .slice false 132 := by kernel_rfl
@[go_sem] theorem ty121isSliceT : isSliceT Tryz.prog 121 = true := by kernel_rfl
@[go_sem] theorem ty121sliI : sliI Tryz.prog 121 = some 3 := by kernel_rfl
@[go_sem] theorem ty121mkI : mkI Tryz.prog 121 = some (132, 3, 32, (.agg #[(.int .i64 0), (.string (ofL [])), (.int .i64 0)])) := by kernel_rfl
@[go_sem] theorem ty121sizeT : sizeT Tryz.prog 121 = some 1 := by kernel_rfl
@[go_sem] theorem ty121zeroT : zeroT Tryz.prog 121 = some (.slice none 0 0) := by kernel_rfl
@[go_sem] theorem ty121conc : Program.concrete Tryz.prog 121 = true := by kernel_rfl
@[go_sem] theorem ty123tyK : tyK Tryz.prog 123 = .agg 2 := by kernel_rfl
@[go_sem] theorem ty123sizeT : sizeT Tryz.prog 123 = some 2 := by kernel_rfl
@[go_sem] theorem ty123zeroT : zeroT Tryz.prog 123 = some (.agg #[(.int .i64 0), (.slice none 0 0)]) := by kernel_rfl
@[go_sem] theorem ty123conc : Program.concrete Tryz.prog 123 = true := by kernel_rfl
@[go_sem] theorem ty123plc : plcT Tryz.prog 123 = some [(0, 1), (1, 1)] := by kernel_rfl
@[go_sem] theorem ty123fld0 : fldI Tryz.prog 123 0 = some (0, 1, false) := by kernel_rfl
@[go_sem] theorem ty123fld1 : fldI Tryz.prog 123 1 = some (1, 1, false) := by kernel_rfl
@[go_sem] theorem ty132tyK : tyK Tryz.prog 132 = .agg 3 := by kernel_rfl
@[go_sem] theorem ty132sizeT : sizeT Tryz.prog 132 = some 3 := by kernel_rfl
@[go_sem] theorem ty132zeroT : zeroT Tryz.prog 132 = some (.agg #[(.int .i64 0), (.string (ofL [])), (.int .i64 0)]) := by kernel_rfl
@[go_sem] theorem ty132conc : Program.concrete Tryz.prog 132 = true := by kernel_rfl
@[go_sem] theorem ty132plc : plcT Tryz.prog 132 = some [(0, 1), (1, 1), (2, 1)] := by kernel_rfl
@[go_sem] theorem ty132flat : flatT Tryz.prog 132 = some [.int, .str, .int] := by kernel_rfl
@[go_sem] theorem ty132fld0 : fldI Tryz.prog 132 0 = some (0, 1, false) := by kernel_rfl
@[go_sem] theorem ty132fld1 : fldI Tryz.prog 132 1 = some (1, 1, false) := by kernel_rfl
@[go_sem] theorem ty132fld2 : fldI Tryz.prog 132 2 = some (2, 1, false) := by kernel_rfl
noncomputable def c17code : Code := match Tryz.f17.body with | some c => c | none => .skip
noncomputable def c17S0 (_ : Unit) : Cmd := (.cond (.tmp 22)
  (.seq (.ops [
  ⟨some 2, .assign (.const (.pointer none)), 46, none⟩,
  ⟨some 3, .assign (.const (.pointer none)), 25, none⟩,
  ⟨some 4, .assign (.const (.pointer none)), 24, none⟩] [2, 3, 4])
  .ret)
  (.skip [5]))
noncomputable def c17S1 (_ : Unit) : Cmd := (.seq (.ops [
 ⟨some 37, .move (.tmp 5), 46, none⟩,
 ⟨some 38, .move (.tmp 7), 25, none⟩,
 ⟨some 39, .move (.tmp 8), 24, none⟩,
 ⟨some 2, .assign (.tmp 37), 46, none⟩,
 ⟨some 3, .assign (.tmp 38), 25, none⟩,
 ⟨some 4, .assign (.tmp 39), 24, none⟩] [2, 3, 4])
 .ret)
noncomputable def c17S2 (_ : Unit) : Cmd := (.seq (.seq (.ops [
 ⟨some 35, .move (.tmp 6), 30, none⟩,
 ⟨some 36, .binOp .neq 30 (.tmp 35) (.const (.int .i64 0)) 30, 4, none⟩] [5, 7, 8, 36])
 (.cond (.tmp 36)
  (.seq (.ops [
  ⟨some 2, .assign (.const (.pointer none)), 46, none⟩,
  ⟨some 3, .assign (.const (.pointer none)), 25, none⟩,
  ⟨some 4, .assign (.const (.pointer none)), 24, none⟩] [2, 3, 4])
  .ret)
  (.skip [5, 7, 8]))) (sg c17S1))
noncomputable def c17S3 (_ : Unit) : Cmd := (.seq (.ops [
 ⟨some 31, .move (.tmp 7), 25, none⟩,
 ⟨some 32, .call ⟨.value (.func 15), #[(.tmp 31)], #[25]⟩, 41, none⟩,
 ⟨some 30, .move (.tmp 32), 41, none⟩,
 ⟨some 33, .extract (.tmp 30) 0, 24, none⟩,
 ⟨some 34, .extract (.tmp 30) 1, 30, none⟩,
 ⟨some 8, .assign (.tmp 33), 24, none⟩,
 ⟨some 6, .assign (.tmp 34), 30, none⟩] [5, 6, 7, 8]) (sg c17S2))
noncomputable def c17S4 (_ : Unit) : Cmd := (.seq (.seq (.ops [
 ⟨some 28, .move (.tmp 6), 30, none⟩,
 ⟨some 29, .binOp .neq 30 (.tmp 28) (.const (.int .i64 0)) 30, 4, none⟩] [5, 7, 29])
 (.cond (.tmp 29)
  (.seq (.ops [
  ⟨some 2, .assign (.const (.pointer none)), 46, none⟩,
  ⟨some 3, .assign (.const (.pointer none)), 25, none⟩,
  ⟨some 4, .assign (.const (.pointer none)), 24, none⟩] [2, 3, 4])
  .ret)
  (.skip [5, 7]))) (sg c17S3))
noncomputable def c17S5 (_ : Unit) : Cmd := (.seq (.ops [
 ⟨some 24, .move (.tmp 5), 46, none⟩,
 ⟨some 25, .call ⟨.value (.func 22), #[(.tmp 24)], #[46]⟩, 59, none⟩,
 ⟨some 23, .move (.tmp 25), 59, none⟩,
 ⟨some 26, .extract (.tmp 23) 0, 25, none⟩,
 ⟨some 27, .extract (.tmp 23) 1, 30, none⟩,
 ⟨some 7, .assign (.tmp 26), 25, none⟩,
 ⟨some 6, .assign (.tmp 27), 30, none⟩] [5, 6, 7]) (sg c17S4))
noncomputable def c17S6 (_ : Unit) : Cmd := (.seq (.seq (.ops [
 ⟨some 15, .move (.tmp 6), 30, none⟩,
 ⟨some 16, .binOp .neq 30 (.tmp 15) (.const (.int .i64 0)) 30, 4, none⟩,
 ⟨some 17, .move (.tmp 16), 4, none⟩,
 ⟨some 18, .move (.tmp 5), 46, (some (17, false))⟩,
 ⟨some 19, .call ⟨.value (.func 43), #[(.tmp 18), (.const (.int .i64 50))], #[46, 3]⟩, 30, (some (17, false))⟩,
 ⟨some 20, .move (.tmp 6), 30, (some (17, false))⟩,
 ⟨some 21, .binOp .neq 30 (.tmp 19) (.tmp 20) 30, 4, (some (17, false))⟩,
 ⟨some 22, .pick (.tmp 17) (.const (.bool true)) (.tmp 21), 4, none⟩] [5, 22]) (sg c17S0)) (sg c17S5))
noncomputable def c17 : Cmd := (.seq (.ops [
 ⟨some 2, .assign (.const (.pointer none)), 46, none⟩,
 ⟨some 3, .assign (.const (.pointer none)), 25, none⟩,
 ⟨some 4, .assign (.const (.pointer none)), 24, none⟩] [0])
 (.seq (.ops [
 ⟨some 10, .move (.tmp 0), 3, none⟩,
 ⟨some 11, .binOp .add 3 (.tmp 10) (.const (.int .i64 52)) 3, 3, none⟩,
 ⟨some 12, .call ⟨.value (.func 42), #[(.tmp 11)], #[3]⟩, 75, none⟩,
 ⟨some 9, .move (.tmp 12), 75, none⟩,
 ⟨some 13, .extract (.tmp 9) 0, 46, none⟩,
 ⟨some 14, .extract (.tmp 9) 1, 30, none⟩,
 ⟨some 5, .assign (.tmp 13), 46, none⟩,
 ⟨some 6, .assign (.tmp 14), 30, none⟩] [5, 6]) (sg c17S6)))
set_option maxRecDepth 100000 in
theorem ent17 (a0 : Value) (w : World) (K : Value → World → Prop) (h : W Tryz.prog c17 [(0, a0)] w (finQ Tryz.prog [.tmp 2, .tmp 3, .tmp 4] K)) : Ret Tryz.prog 17 [a0] w K :=
  Ret_of_W (code := c17code) Tryz.func17 (by kernel_rfl) (by kernel_rfl) (of_decide_eq_true (by kernel_rfl)) h
@[go_sem] theorem go17 : goFunc Tryz.prog 17 = true := by kernel_rfl
noncomputable def c14code : Code := match Tryz.f14.body with | some c => c | none => .skip
noncomputable def c14S0 (_ : Unit) : Cmd := (.cond (.tmp 8)
  (.seq (.ops [
  ⟨some 2, .assign (.const (.int .i64 3)), 30, none⟩] [2])
  .ret)
  (.skip [0]))
noncomputable def c14S1 (_ : Unit) : Cmd := (.cond (.tmp 14)
  (.seq (.ops [
  ⟨some 2, .assign (.const (.int .i64 1)), 30, none⟩] [2])
  .ret)
  (.skip [0]))
noncomputable def c14S2 (_ : Unit) : Cmd := (.ops [
 ⟨some 25, .binOp .add 3 (.tmp 16) (.const (.int .i64 1)) 3, 3, none⟩,
 ⟨some 16, .move (.tmp 25), 3, none⟩] [0, 3, 16])
noncomputable def c14S3 (_ : Unit) : Cmd := (.seq (.block 1 (.seq (.ops [
 ⟨some 18, .move (.tmp 16), 3, none⟩,
 ⟨some 4, .assign (.tmp 18), 3, none⟩] [0, 3, 4, 16])
 (.ops [
 ⟨some 20, .move (.tmp 3), 9, none⟩,
 ⟨some 21, .move (.tmp 4), 3, none⟩,
 ⟨some 22, .call ⟨.value (.func 28), #[(.tmp 20), (.tmp 21), (.const (.bool true))], #[9, 3, 4]⟩, 66, none⟩,
 ⟨some 19, .move (.tmp 22), 66, none⟩,
 ⟨some 23, .extract (.tmp 19) 0, 9, none⟩,
 ⟨some 24, .extract (.tmp 19) 1, 4, none⟩,
 ⟨some 3, .assign (.tmp 23), 9, none⟩] [0, 3, 16]))) (sg c14S2))
noncomputable def c14L0 (_ : Unit) : Cmd := (.seq (.ops [
 ⟨some 17, .binOp .lss 3 (.tmp 16) (.const (.int .i64 2)) 3, 4, none⟩] [0, 3, 16, 17])
 (.seq (.cond (.tmp 17)
  (.skip [0, 3, 16])
  (.exit 0 [0, 3])) (sg c14S3)))
noncomputable def c14S4 (_ : Unit) : Cmd := (.seq (.ops [
 ⟨some 29, .move (.tmp 5), 30, none⟩,
 ⟨some 30, .binOp .neq 30 (.tmp 29) (.const (.int .i64 0)) 30, 4, none⟩] [0, 5, 30])
 (.cond (.tmp 30)
  (.seq (.ops [
  ⟨some 31, .move (.tmp 5), 30, none⟩,
  ⟨some 2, .assign (.tmp 31), 30, none⟩] [2])
  .ret)
  (.skip [0])))
noncomputable def c14S5 (_ : Unit) : Cmd := .ret
noncomputable def c14S6 (_ : Unit) : Cmd := (.seq (.ops [
 ⟨some 32, .move (.tmp 0), 24, none⟩,
 ⟨some 33, .call ⟨.value (.func 29), #[(.tmp 32), (.const (.int .i64 1)), (.const (.string (ofL [])))], #[24, 3, 9]⟩, 30, none⟩,
 ⟨some 2, .assign (.tmp 33), 30, none⟩] [2]) (sg c14S5))
noncomputable def c14S7 (_ : Unit) : Cmd := (.seq (.seq (.ops [
 ⟨some 26, .move (.tmp 0), 24, none⟩,
 ⟨some 27, .move (.tmp 3), 9, none⟩,
 ⟨some 28, .call ⟨.value (.func 29), #[(.tmp 26), (.const (.int .i64 0)), (.tmp 27)], #[24, 3, 9]⟩, 30, none⟩,
 ⟨some 5, .assign (.tmp 28), 30, none⟩] [0, 5]) (sg c14S4)) (sg c14S6))
noncomputable def c14S8 (_ : Unit) : Cmd := (.seq (.seq (.ops [
 ⟨some 16, .move (.const (.int .i64 0)), 3, none⟩] [0, 3, 16])
 (.block 0 (.loop (sg c14L0)))) (sg c14S7))
noncomputable def c14S9 (_ : Unit) : Cmd := (.seq (.ops [
 ⟨some 15, .call ⟨.value (.func 40), #[(.const (.int .i64 2048))], #[3]⟩, 9, none⟩,
 ⟨some 3, .assign (.tmp 15), 9, none⟩] [0, 3]) (sg c14S8))
noncomputable def c14S10 (_ : Unit) : Cmd := (.seq (.seq (.ops [
 ⟨some 9, .move (.tmp 0), 24, none⟩,
 ⟨some 10, .nilCheck (.tmp 9), 0, none⟩,
 ⟨some 11, .fieldAddr 28 (.tmp 10) 0, 0, none⟩,
 ⟨some 12, .load 25 (.tmp 11), 25, none⟩,
 ⟨some 13, .call ⟨.value (.func 23), #[(.tmp 12)], #[25]⟩, 3, none⟩,
 ⟨some 14, .binOp .leq 3 (.tmp 13) (.const (.int .i64 2)) 3, 4, none⟩] [0, 14]) (sg c14S1)) (sg c14S9))
noncomputable def c14 : Cmd := (.seq (.ops [
 ⟨some 2, .assign (.const (.int .i64 0)), 30, none⟩] [0])
 (.seq (.seq (.ops [
 ⟨some 6, .move (.tmp 0), 24, none⟩,
 ⟨some 7, .call ⟨.value (.func 32), #[(.tmp 6)], #[24]⟩, 4, none⟩,
 ⟨some 8, .unOp .not 4 (.tmp 7), 4, none⟩] [0, 8]) (sg c14S0)) (sg c14S10)))
set_option maxRecDepth 100000 in
theorem ent14 (a0 : Value) (w : World) (K : Value → World → Prop) (h : W Tryz.prog c14 [(0, a0)] w (finQ Tryz.prog [.tmp 2] K)) : Ret Tryz.prog 14 [a0] w K :=
  Ret_of_W (code := c14code) Tryz.func14 (by kernel_rfl) (by kernel_rfl) (of_decide_eq_true (by kernel_rfl)) h
@[go_sem] theorem go14 : goFunc Tryz.prog 14 = true := by kernel_rfl
noncomputable def c5code : Code := match Tryz.f5.body with | some c => c | none => .skip
noncomputable def c5S0 (_ : Unit) : Cmd := (.seq (.ops [
 ⟨some 38, .move (.tmp 8), 30, none⟩,
 ⟨some 39, .binOp .neq 30 (.tmp 38) (.const (.int .i64 0)) 30, 4, none⟩] [0, 6, 8, 39])
 (.cond (.tmp 39)
  (.seq (.ops [
  ⟨some 40, .move (.tmp 8), 30, none⟩,
  ⟨some 2, .assign (.const (.int .i64 0)), 3, none⟩,
  ⟨some 3, .assign (.tmp 40), 30, none⟩] [2, 3])
  .ret)
  (.skip [0, 6])))
noncomputable def c5S1 (_ : Unit) : Cmd := .ret
noncomputable def c5S2 (_ : Unit) : Cmd := (.seq (.ops [
 ⟨some 41, .move (.tmp 6), 3, none⟩,
 ⟨some 42, .move (.tmp 0), 24, none⟩,
 ⟨some 43, .move (.tmp 6), 3, none⟩,
 ⟨some 44, .call ⟨.value (.func 29), #[(.tmp 42), (.tmp 43), (.const (.string (ofL [])))], #[24, 3, 9]⟩, 30, none⟩,
 ⟨some 2, .assign (.tmp 41), 3, none⟩,
 ⟨some 3, .assign (.tmp 44), 30, none⟩] [2, 3]) (sg c5S1))
noncomputable def c5S3 (_ : Unit) : Cmd := (.seq (.seq (.ops [
 ⟨some 35, .move (.tmp 0), 24, none⟩,
 ⟨some 36, .move (.tmp 4), 9, none⟩,
 ⟨some 37, .call ⟨.value (.func 29), #[(.tmp 35), (.const (.int .i64 0)), (.tmp 36)], #[24, 3, 9]⟩, 30, none⟩,
 ⟨some 8, .assign (.tmp 37), 30, none⟩] [0, 6, 8]) (sg c5S0)) (sg c5S2))
noncomputable def c5S4 (_ : Unit) : Cmd := (.seq (.ops [
 ⟨some 30, .move (.tmp 4), 9, none⟩,
 ⟨some 31, .move (.tmp 6), 3, none⟩,
 ⟨some 32, .call ⟨.value (.func 28), #[(.tmp 30), (.tmp 31), (.const (.bool true))], #[9, 3, 4]⟩, 66, none⟩,
 ⟨some 29, .move (.tmp 32), 66, none⟩,
 ⟨some 33, .extract (.tmp 29) 0, 9, none⟩,
 ⟨some 34, .extract (.tmp 29) 1, 4, none⟩,
 ⟨some 4, .assign (.tmp 33), 9, none⟩] [0, 4, 6]) (sg c5S3))
noncomputable def c5S5 (_ : Unit) : Cmd := (.seq (.seq (.ops [
 ⟨some 27, .move (.tmp 7), 4, none⟩,
 ⟨some 28, .unOp .not 4 (.tmp 27), 4, none⟩] [0, 4, 6, 28])
 (.cond (.tmp 28)
  (.seq (.ops [
  ⟨some 2, .assign (.const (.int .i64 0)), 3, none⟩,
  ⟨some 3, .assign (.const (.int .i64 13)), 30, none⟩] [2, 3])
  .ret)
  (.skip [0, 4, 6]))) (sg c5S4))
noncomputable def c5S6 (_ : Unit) : Cmd := (.seq (.ops [
 ⟨some 18, .move (.tmp 4), 9, none⟩,
 ⟨some 19, .move (.tmp 0), 24, none⟩,
 ⟨some 20, .nilCheck (.tmp 19), 0, none⟩,
 ⟨some 21, .fieldAddr 28 (.tmp 20) 0, 0, none⟩,
 ⟨some 22, .load 25 (.tmp 21), 25, none⟩,
 ⟨some 23, .call ⟨.value (.func 23), #[(.tmp 22)], #[25]⟩, 3, none⟩,
 ⟨some 24, .call ⟨.value (.func 27), #[(.tmp 18), (.const (.int .i64 2)), (.tmp 23)], #[9, 3, 3]⟩, 64, none⟩,
 ⟨some 17, .move (.tmp 24), 64, none⟩,
 ⟨some 25, .extract (.tmp 17) 0, 3, none⟩,
 ⟨some 26, .extract (.tmp 17) 1, 4, none⟩,
 ⟨some 6, .assign (.tmp 25), 3, none⟩,
 ⟨some 7, .assign (.tmp 26), 4, none⟩] [0, 4, 6, 7]) (sg c5S5))
noncomputable def c5S7 (_ : Unit) : Cmd := (.seq (.seq (.ops [
 ⟨some 14, .move (.tmp 5), 30, none⟩,
 ⟨some 15, .binOp .neq 30 (.tmp 14) (.const (.int .i64 0)) 30, 4, none⟩] [0, 4, 5, 15])
 (.cond (.tmp 15)
  (.seq (.ops [
  ⟨some 16, .move (.tmp 5), 30, none⟩,
  ⟨some 2, .assign (.const (.int .i64 0)), 3, none⟩,
  ⟨some 3, .assign (.tmp 16), 30, none⟩] [2, 3])
  .ret)
  (.skip [0, 4]))) (sg c5S6))
noncomputable def c5 : Cmd := (.seq (.ops [
 ⟨some 2, .assign (.const (.int .i64 0)), 3, none⟩,
 ⟨some 3, .assign (.const (.int .i64 0)), 30, none⟩] [0])
 (.seq (.ops [
 ⟨some 10, .move (.tmp 0), 24, none⟩,
 ⟨some 11, .call ⟨.value (.func 26), #[(.tmp 10)], #[24]⟩, 33, none⟩,
 ⟨some 9, .move (.tmp 11), 33, none⟩,
 ⟨some 12, .extract (.tmp 9) 0, 9, none⟩,
 ⟨some 13, .extract (.tmp 9) 1, 30, none⟩,
 ⟨some 4, .assign (.tmp 12), 9, none⟩,
 ⟨some 5, .assign (.tmp 13), 30, none⟩] [0, 4, 5]) (sg c5S7)))
set_option maxRecDepth 100000 in
theorem ent5 (a0 : Value) (w : World) (K : Value → World → Prop) (h : W Tryz.prog c5 [(0, a0)] w (finQ Tryz.prog [.tmp 2, .tmp 3] K)) : Ret Tryz.prog 5 [a0] w K :=
  Ret_of_W (code := c5code) Tryz.func5 (by kernel_rfl) (by kernel_rfl) (of_decide_eq_true (by kernel_rfl)) h
@[go_sem] theorem go5 : goFunc Tryz.prog 5 = true := by kernel_rfl
noncomputable def c12code : Code := match Tryz.f12.body with | some c => c | none => .skip
noncomputable def c12S0 (_ : Unit) : Cmd := (.cond (.tmp 37)
  (.ops [
  ⟨some 38, .move (.tmp 6), 3, none⟩,
  ⟨some 39, .binOp .sub 3 (.tmp 38) (.const (.int .i64 1)) 3, 3, none⟩,
  ⟨some 6, .assign (.tmp 39), 3, none⟩] [3, 5, 6, 7])
  (.skip [3, 5, 6, 7]))
noncomputable def c12S1 (_ : Unit) : Cmd := (.ops [
 ⟨some 33, .move (.tmp 7), 3, none⟩,
 ⟨some 34, .binOp .add 3 (.tmp 33) (.const (.int .i64 1)) 3, 3, none⟩,
 ⟨some 7, .assign (.tmp 34), 3, none⟩] [3, 5, 6, 7])
noncomputable def c12S2 (_ : Unit) : Cmd := (.seq (.block 1 (.seq (.ops [
 ⟨some 35, .move (.tmp 3), 9, none⟩,
 ⟨some 36, .move (.tmp 7), 3, none⟩,
 ⟨some 37, .call ⟨.value (.func 38), #[(.tmp 35), (.tmp 36)], #[9, 3]⟩, 4, none⟩] [3, 5, 6, 7, 37]) (sg c12S0))) (sg c12S1))
noncomputable def c12L0 (_ : Unit) : Cmd := (.seq (.seq (.ops [
 ⟨some 30, .move (.tmp 7), 3, none⟩,
 ⟨some 31, .move (.tmp 5), 3, none⟩,
 ⟨some 32, .binOp .lss 3 (.tmp 30) (.tmp 31) 3, 4, none⟩] [3, 5, 6, 7, 32])
 (.cond (.tmp 32)
  (.skip [3, 5, 6, 7])
  (.exit 0 [6]))) (sg c12S2))
noncomputable def c12S3 (_ : Unit) : Cmd := (.seq (.ops [
 ⟨some 40, .move (.tmp 6), 3, none⟩,
 ⟨some 2, .assign (.tmp 40), 3, none⟩] [2])
 .ret)
noncomputable def c12S4 (_ : Unit) : Cmd := (.seq (.seq (.ops [
 ⟨some 27, .move (.tmp 5), 3, none⟩,
 ⟨some 28, .binOp .quo 3 (.tmp 27) (.const (.int .i64 8)) 3, 3, none⟩,
 ⟨some 29, .binOp .mul 3 (.tmp 28) (.const (.int .i64 8)) 3, 3, none⟩,
 ⟨some 7, .assign (.tmp 29), 3, none⟩] [3, 5, 6, 7])
 (.block 0 (.loop (sg c12L0)))) (sg c12S3))
noncomputable def c12S5 (_ : Unit) : Cmd := (.seq (.ops [
 ⟨some 20, .move (.tmp 5), 3, none⟩,
 ⟨some 21, .move (.tmp 3), 9, none⟩,
 ⟨some 22, .move (.tmp 5), 3, none⟩,
 ⟨some 23, .binOp .quo 3 (.tmp 22) (.const (.int .i64 8)) 3, 3, none⟩,
 ⟨some 24, .slice 9 (.tmp 21) none (some (.tmp 23)) none, 9, none⟩,
 ⟨some 25, .call ⟨.value (.func 37), #[(.tmp 24)], #[9]⟩, 3, none⟩,
 ⟨some 26, .binOp .sub 3 (.tmp 20) (.tmp 25) 3, 3, none⟩,
 ⟨some 6, .assign (.tmp 26), 3, none⟩] [3, 5, 6]) (sg c12S4))
noncomputable def c12S6 (_ : Unit) : Cmd := (.seq (.ops [
 ⟨some 15, .move (.tmp 0), 24, none⟩,
 ⟨some 16, .nilCheck (.tmp 15), 0, none⟩,
 ⟨some 17, .fieldAddr 28 (.tmp 16) 0, 0, none⟩,
 ⟨some 18, .load 25 (.tmp 17), 25, none⟩,
 ⟨some 19, .call ⟨.value (.func 23), #[(.tmp 18)], #[25]⟩, 3, none⟩,
 ⟨some 5, .assign (.tmp 19), 3, none⟩] [3, 5]) (sg c12S5))
noncomputable def c12S7 (_ : Unit) : Cmd := (.seq (.seq (.ops [
 ⟨some 13, .move (.tmp 4), 30, none⟩,
 ⟨some 14, .binOp .neq 30 (.tmp 13) (.const (.int .i64 0)) 30, 4, none⟩] [0, 3, 14])
 (.cond (.tmp 14)
  (.seq (.ops [
  ⟨some 2, .assign (.const (.int .i64 0)), 3, none⟩] [2])
  .ret)
  (.skip [0, 3]))) (sg c12S6))
noncomputable def c12 : Cmd := (.seq (.ops [
 ⟨some 2, .assign (.const (.int .i64 0)), 3, none⟩] [0])
 (.seq (.ops [
 ⟨some 9, .move (.tmp 0), 24, none⟩,
 ⟨some 10, .call ⟨.value (.func 26), #[(.tmp 9)], #[24]⟩, 33, none⟩,
 ⟨some 8, .move (.tmp 10), 33, none⟩,
 ⟨some 11, .extract (.tmp 8) 0, 9, none⟩,
 ⟨some 12, .extract (.tmp 8) 1, 30, none⟩,
 ⟨some 3, .assign (.tmp 11), 9, none⟩,
 ⟨some 4, .assign (.tmp 12), 30, none⟩] [0, 3, 4]) (sg c12S7)))
set_option maxRecDepth 100000 in
theorem ent12 (a0 : Value) (w : World) (K : Value → World → Prop) (h : W Tryz.prog c12 [(0, a0)] w (finQ Tryz.prog [.tmp 2] K)) : Ret Tryz.prog 12 [a0] w K :=
  Ret_of_W (code := c12code) Tryz.func12 (by kernel_rfl) (by kernel_rfl) (of_decide_eq_true (by kernel_rfl)) h
@[go_sem] theorem go12 : goFunc Tryz.prog 12 = true := by kernel_rfl
noncomputable def c9code : Code := match Tryz.f9.body with | some c => c | none => .skip
noncomputable def c9S0 (_ : Unit) : Cmd := (.seq (.ops [
 ⟨some 11, .move (.tmp 5), 30, none⟩,
 ⟨some 12, .binOp .neq 30 (.tmp 11) (.const (.int .i64 0)) 30, 4, none⟩] [0, 1, 5, 12])
 (.cond (.tmp 12)
  (.seq (.ops [
  ⟨some 13, .move (.tmp 5), 30, none⟩,
  ⟨some 4, .assign (.tmp 13), 30, none⟩] [4])
  .ret)
  (.skip [0, 1])))
noncomputable def c9S1 (_ : Unit) : Cmd := .ret
noncomputable def c9S2 (_ : Unit) : Cmd := (.seq (.ops [
 ⟨some 25, .move (.tmp 0), 24, none⟩,
 ⟨some 26, .move (.tmp 6), 9, none⟩,
 ⟨some 27, .call ⟨.value (.func 29), #[(.tmp 25), (.const (.int .i64 0)), (.tmp 26)], #[24, 3, 9]⟩, 30, none⟩,
 ⟨some 4, .assign (.tmp 27), 30, none⟩] [4]) (sg c9S1))
noncomputable def c9S3 (_ : Unit) : Cmd := (.seq (.ops [
 ⟨some 20, .move (.tmp 6), 9, none⟩,
 ⟨some 21, .move (.tmp 1), 3, none⟩,
 ⟨some 22, .call ⟨.value (.func 28), #[(.tmp 20), (.tmp 21), (.const (.bool false))], #[9, 3, 4]⟩, 66, none⟩,
 ⟨some 19, .move (.tmp 22), 66, none⟩,
 ⟨some 23, .extract (.tmp 19) 0, 9, none⟩,
 ⟨some 24, .extract (.tmp 19) 1, 4, none⟩,
 ⟨some 6, .assign (.tmp 23), 9, none⟩] [0, 6]) (sg c9S2))
noncomputable def c9S4 (_ : Unit) : Cmd := (.seq (.ops [
 ⟨some 15, .move (.tmp 0), 24, none⟩,
 ⟨some 16, .call ⟨.value (.func 26), #[(.tmp 15)], #[24]⟩, 33, none⟩,
 ⟨some 14, .move (.tmp 16), 33, none⟩,
 ⟨some 17, .extract (.tmp 14) 0, 9, none⟩,
 ⟨some 18, .extract (.tmp 14) 1, 30, none⟩,
 ⟨some 6, .assign (.tmp 17), 9, none⟩,
 ⟨some 7, .assign (.tmp 18), 30, none⟩] [0, 1, 6]) (sg c9S3))
noncomputable def c9 : Cmd := (.seq (.ops [
 ⟨some 4, .assign (.const (.int .i64 0)), 30, none⟩] [0, 1])
 (.seq (.seq (.ops [
 ⟨some 8, .move (.tmp 0), 24, none⟩,
 ⟨some 9, .move (.tmp 1), 3, none⟩,
 ⟨some 10, .call ⟨.value (.func 30), #[(.tmp 8), (.tmp 9)], #[24, 3]⟩, 30, none⟩,
 ⟨some 5, .assign (.tmp 10), 30, none⟩] [0, 1, 5]) (sg c9S0)) (sg c9S4)))
set_option maxRecDepth 100000 in
theorem ent9 (a0 a1 : Value) (w : World) (K : Value → World → Prop) (h : W Tryz.prog c9 [(0, a0), (1, a1)] w (finQ Tryz.prog [.tmp 4] K)) : Ret Tryz.prog 9 [a0, a1] w K :=
  Ret_of_W (code := c9code) Tryz.func9 (by kernel_rfl) (by kernel_rfl) (of_decide_eq_true (by kernel_rfl)) h
@[go_sem] theorem go9 : goFunc Tryz.prog 9 = true := by kernel_rfl
noncomputable def c16code : Code := match Tryz.f16.body with | some c => c | none => .skip
noncomputable def c16S0 (_ : Unit) : Cmd := (.cond (.tmp 23)
  (.seq (.ops [
  ⟨some 0, .assign (.const (.bool false)), 4, none⟩] [0])
  .ret)
  (.skip [3]))
noncomputable def c16S1 (_ : Unit) : Cmd := (.seq (.ops [
 ⟨some 41, .move (.tmp 5), 30, none⟩,
 ⟨some 42, .binOp .eql 30 (.tmp 41) (.const (.int .i64 0)) 30, 4, none⟩,
 ⟨some 43, .move (.tmp 42), 4, none⟩,
 ⟨some 44, .move (.tmp 7), 30, (some (43, true))⟩,
 ⟨some 45, .move (.tmp 5), 30, (some (43, true))⟩,
 ⟨some 46, .binOp .eql 30 (.tmp 44) (.tmp 45) 30, 4, (some (43, true))⟩,
 ⟨some 47, .pick (.tmp 43) (.tmp 46) (.const (.bool false)), 4, none⟩,
 ⟨some 48, .move (.tmp 47), 4, none⟩,
 ⟨some 49, .move (.tmp 8), 30, (some (48, true))⟩,
 ⟨some 50, .move (.tmp 5), 30, (some (48, true))⟩,
 ⟨some 51, .binOp .eql 30 (.tmp 49) (.tmp 50) 30, 4, (some (48, true))⟩,
 ⟨some 52, .pick (.tmp 48) (.tmp 51) (.const (.bool false)), 4, none⟩,
 ⟨some 53, .move (.tmp 52), 4, none⟩,
 ⟨some 54, .move (.tmp 10), 30, (some (53, true))⟩,
 ⟨some 55, .move (.tmp 5), 30, (some (53, true))⟩,
 ⟨some 56, .binOp .eql 30 (.tmp 54) (.tmp 55) 30, 4, (some (53, true))⟩,
 ⟨some 57, .pick (.tmp 53) (.tmp 56) (.const (.bool false)), 4, none⟩,
 ⟨some 58, .move (.tmp 57), 4, none⟩,
 ⟨some 59, .move (.tmp 4), 3, (some (58, true))⟩,
 ⟨some 60, .binOp .eql 3 (.tmp 59) (.const (.int .i64 2)) 3, 4, (some (58, true))⟩,
 ⟨some 61, .pick (.tmp 58) (.tmp 60) (.const (.bool false)), 4, none⟩,
 ⟨some 62, .move (.tmp 61), 4, none⟩,
 ⟨some 63, .move (.tmp 6), 3, (some (62, true))⟩,
 ⟨some 64, .binOp .eql 3 (.tmp 63) (.const (.int .i64 3)) 3, 4, (some (62, true))⟩,
 ⟨some 65, .pick (.tmp 62) (.tmp 64) (.const (.bool false)), 4, none⟩,
 ⟨some 66, .move (.tmp 65), 4, none⟩,
 ⟨some 67, .move (.tmp 9), 3, (some (66, true))⟩,
 ⟨some 68, .binOp .eql 3 (.tmp 67) (.const (.int .i64 2)) 3, 4, (some (66, true))⟩,
 ⟨some 69, .pick (.tmp 66) (.tmp 68) (.const (.bool false)), 4, none⟩,
 ⟨some 0, .assign (.tmp 69), 4, none⟩] [0])
 .ret)
noncomputable def c16S2 (_ : Unit) : Cmd := (.seq (.ops [
 ⟨some 37, .move (.tmp 3), 24, none⟩,
 ⟨some 38, .call ⟨.value (.func 5), #[(.tmp 37)], #[24]⟩, 31, none⟩,
 ⟨some 36, .move (.tmp 38), 31, none⟩,
 ⟨some 39, .extract (.tmp 36) 0, 3, none⟩,
 ⟨some 40, .extract (.tmp 36) 1, 30, none⟩,
 ⟨some 9, .assign (.tmp 39), 3, none⟩,
 ⟨some 10, .assign (.tmp 40), 30, none⟩] [4, 5, 6, 7, 8, 9, 10]) (sg c16S1))
noncomputable def c16S3 (_ : Unit) : Cmd := (.seq (.ops [
 ⟨some 34, .move (.tmp 3), 24, none⟩,
 ⟨some 35, .call ⟨.value (.func 9), #[(.tmp 34), (.const (.int .i64 2))], #[24, 3]⟩, 30, none⟩,
 ⟨some 8, .assign (.tmp 35), 30, none⟩] [3, 4, 5, 6, 7, 8]) (sg c16S2))
noncomputable def c16S4 (_ : Unit) : Cmd := (.seq (.ops [
 ⟨some 30, .move (.tmp 3), 24, none⟩,
 ⟨some 31, .call ⟨.value (.func 5), #[(.tmp 30)], #[24]⟩, 31, none⟩,
 ⟨some 29, .move (.tmp 31), 31, none⟩,
 ⟨some 32, .extract (.tmp 29) 0, 3, none⟩,
 ⟨some 33, .extract (.tmp 29) 1, 30, none⟩,
 ⟨some 6, .assign (.tmp 32), 3, none⟩,
 ⟨some 7, .assign (.tmp 33), 30, none⟩] [3, 4, 5, 6, 7]) (sg c16S3))
noncomputable def c16S5 (_ : Unit) : Cmd := (.seq (.ops [
 ⟨some 25, .move (.tmp 3), 24, none⟩,
 ⟨some 26, .call ⟨.value (.func 5), #[(.tmp 25)], #[24]⟩, 31, none⟩,
 ⟨some 24, .move (.tmp 26), 31, none⟩,
 ⟨some 27, .extract (.tmp 24) 0, 3, none⟩,
 ⟨some 28, .extract (.tmp 24) 1, 30, none⟩,
 ⟨some 4, .assign (.tmp 27), 3, none⟩,
 ⟨some 5, .assign (.tmp 28), 30, none⟩] [3, 4, 5]) (sg c16S4))
noncomputable def c16S6 (_ : Unit) : Cmd := (.seq (.seq (.ops [
 ⟨some 16, .move (.tmp 3), 24, none⟩,
 ⟨some 17, .call ⟨.value (.func 14), #[(.tmp 16)], #[24]⟩, 30, none⟩,
 ⟨some 18, .binOp .neq 30 (.tmp 17) (.const (.int .i64 0)) 30, 4, none⟩,
 ⟨some 19, .move (.tmp 18), 4, none⟩,
 ⟨some 20, .move (.tmp 3), 24, (some (19, false))⟩,
 ⟨some 21, .call ⟨.value (.func 12), #[(.tmp 20)], #[24]⟩, 3, (some (19, false))⟩,
 ⟨some 22, .binOp .neq 3 (.tmp 21) (.const (.int .i64 3)) 3, 4, (some (19, false))⟩,
 ⟨some 23, .pick (.tmp 19) (.const (.bool true)) (.tmp 22), 4, none⟩] [3, 23]) (sg c16S0)) (sg c16S5))
noncomputable def c16 : Cmd := (.seq (.ops [
 ⟨some 0, .assign (.const (.bool false)), 4, none⟩] [])
 (.seq (.ops [
 ⟨some 12, .call ⟨.value (.func 17), #[(.const (.int .i64 5))], #[3]⟩, 47, none⟩,
 ⟨some 11, .move (.tmp 12), 47, none⟩,
 ⟨some 13, .extract (.tmp 11) 0, 46, none⟩,
 ⟨some 14, .extract (.tmp 11) 1, 25, none⟩,
 ⟨some 15, .extract (.tmp 11) 2, 24, none⟩,
 ⟨some 1, .assign (.tmp 13), 46, none⟩,
 ⟨some 2, .assign (.tmp 14), 25, none⟩,
 ⟨some 3, .assign (.tmp 15), 24, none⟩] [3]) (sg c16S6)))
set_option maxRecDepth 100000 in
theorem ent16 (w : World) (K : Value → World → Prop) (h : W Tryz.prog c16 [] w (finQ Tryz.prog [.tmp 0] K)) : Ret Tryz.prog 16 [] w K :=
  Ret_of_W (code := c16code) Tryz.func16 (by kernel_rfl) (by kernel_rfl) (of_decide_eq_true (by kernel_rfl)) h
@[go_sem] theorem go16 : goFunc Tryz.prog 16 = true := by kernel_rfl
noncomputable def c10code : Code := match Tryz.f10.body with | some c => c | none => .skip
noncomputable def c10S0 (_ : Unit) : Cmd := (.seq (.ops [
 ⟨some 11, .move (.tmp 7), 30, none⟩,
 ⟨some 12, .binOp .neq 30 (.tmp 11) (.const (.int .i64 0)) 30, 4, none⟩] [0, 1, 2, 7, 12])
 (.cond (.tmp 12)
  (.seq (.ops [
  ⟨some 13, .move (.tmp 7), 30, none⟩,
  ⟨some 6, .assign (.tmp 13), 30, none⟩] [6])
  .ret)
  (.skip [0, 1, 2])))
noncomputable def c10S1 (_ : Unit) : Cmd := .ret
noncomputable def c10S2 (_ : Unit) : Cmd := (.seq (.ops [
 ⟨some 14, .move (.tmp 0), 24, none⟩,
 ⟨some 15, .move (.tmp 1), 3, none⟩,
 ⟨some 16, .move (.tmp 2), 9, none⟩,
 ⟨some 17, .call ⟨.value (.func 29), #[(.tmp 14), (.tmp 15), (.tmp 16)], #[24, 3, 9]⟩, 30, none⟩,
 ⟨some 6, .assign (.tmp 17), 30, none⟩] [6]) (sg c10S1))
noncomputable def c10 : Cmd := (.seq (.ops [
 ⟨some 6, .assign (.const (.int .i64 0)), 30, none⟩] [0, 1, 2])
 (.seq (.seq (.ops [
 ⟨some 8, .move (.tmp 0), 24, none⟩,
 ⟨some 9, .move (.tmp 1), 3, none⟩,
 ⟨some 10, .call ⟨.value (.func 30), #[(.tmp 8), (.tmp 9)], #[24, 3]⟩, 30, none⟩,
 ⟨some 7, .assign (.tmp 10), 30, none⟩] [0, 1, 2, 7]) (sg c10S0)) (sg c10S2)))
set_option maxRecDepth 100000 in
theorem ent10 (a0 a1 a2 : Value) (w : World) (K : Value → World → Prop) (h : W Tryz.prog c10 [(0, a0), (1, a1), (2, a2)] w (finQ Tryz.prog [.tmp 6] K)) : Ret Tryz.prog 10 [a0, a1, a2] w K :=
  Ret_of_W (code := c10code) Tryz.func10 (by kernel_rfl) (by kernel_rfl) (of_decide_eq_true (by kernel_rfl)) h
@[go_sem] theorem go10 : goFunc Tryz.prog 10 = true := by kernel_rfl
noncomputable def c6code : Code := match Tryz.f6.body with | some c => c | none => .skip
noncomputable def c6S0 (_ : Unit) : Cmd := (.seq (.ops [
 ⟨some 10, .move (.tmp 6), 30, none⟩,
 ⟨some 11, .binOp .neq 30 (.tmp 10) (.const (.int .i64 0)) 30, 4, none⟩] [0, 1, 6, 11])
 (.cond (.tmp 11)
  (.seq (.ops [
  ⟨some 12, .move (.tmp 6), 30, none⟩,
  ⟨some 4, .assign (.const (.string (ofL []))), 9, none⟩,
  ⟨some 5, .assign (.tmp 12), 30, none⟩] [4, 5])
  .ret)
  (.skip [0, 1])))
noncomputable def c6S1 (_ : Unit) : Cmd := .ret
noncomputable def c6S2 (_ : Unit) : Cmd := (.seq (.ops [
 ⟨some 13, .move (.tmp 0), 24, none⟩,
 ⟨some 14, .move (.tmp 1), 3, none⟩,
 ⟨some 15, .call ⟨.value (.func 31), #[(.tmp 13), (.tmp 14)], #[24, 3]⟩, 33, none⟩,
 ⟨some 16, .extract (.tmp 15) 0, 9, none⟩,
 ⟨some 17, .extract (.tmp 15) 1, 30, none⟩,
 ⟨some 4, .assign (.tmp 16), 9, none⟩,
 ⟨some 5, .assign (.tmp 17), 30, none⟩] [4, 5]) (sg c6S1))
noncomputable def c6 : Cmd := (.seq (.ops [
 ⟨some 4, .assign (.const (.string (ofL []))), 9, none⟩,
 ⟨some 5, .assign (.const (.int .i64 0)), 30, none⟩] [0, 1])
 (.seq (.seq (.ops [
 ⟨some 7, .move (.tmp 0), 24, none⟩,
 ⟨some 8, .move (.tmp 1), 3, none⟩,
 ⟨some 9, .call ⟨.value (.func 30), #[(.tmp 7), (.tmp 8)], #[24, 3]⟩, 30, none⟩,
 ⟨some 6, .assign (.tmp 9), 30, none⟩] [0, 1, 6]) (sg c6S0)) (sg c6S2)))
set_option maxRecDepth 100000 in
theorem ent6 (a0 a1 : Value) (w : World) (K : Value → World → Prop) (h : W Tryz.prog c6 [(0, a0), (1, a1)] w (finQ Tryz.prog [.tmp 4, .tmp 5] K)) : Ret Tryz.prog 6 [a0, a1] w K :=
  Ret_of_W (code := c6code) Tryz.func6 (by kernel_rfl) (by kernel_rfl) (of_decide_eq_true (by kernel_rfl)) h
@[go_sem] theorem go6 : goFunc Tryz.prog 6 = true := by kernel_rfl
@[go_sem] theorem go44 : goFunc Tryz.prog 44 = true := by kernel_rfl
noncomputable def c11code : Code := match Tryz.f11.body with | some c => c | none => .skip
noncomputable def c11S0 (_ : Unit) : Cmd := (.seq (.ops [
 ⟨some 18, .move (.tmp 8), 30, none⟩,
 ⟨some 19, .binOp .neq 30 (.tmp 18) (.const (.int .i64 0)) 30, 4, none⟩] [0, 1, 2, 8, 19])
 (.cond (.tmp 19)
  (.seq (.ops [
  ⟨some 20, .move (.tmp 8), 30, none⟩,
  ⟨some 6, .assign (.tmp 20), 30, none⟩] [6])
  .ret)
  (.skip [0, 1, 2])))
noncomputable def c11S1 (_ : Unit) : Cmd := (.seq (.ops [
  ⟨some 26, .move (.tmp 9), 30, none⟩,
  ⟨some 27, .binOp .neq 30 (.tmp 26) (.const (.int .i64 0)) 30, 4, none⟩] [0, 1, 2, 9, 27])
  (.cond (.tmp 27)
   (.seq (.ops [
   ⟨some 28, .move (.tmp 9), 30, none⟩,
   ⟨some 6, .assign (.tmp 28), 30, none⟩] [6])
   .ret)
   (.skip [0, 1, 2])))
noncomputable def c11S2 (_ : Unit) : Cmd := .ret
noncomputable def c11S3 (_ : Unit) : Cmd := (.seq (.draw (drawOps 0 c11code) [6]) (sg c11S2))
noncomputable def c11S4 (_ : Unit) : Cmd := (.seq (.seq (.ops [
 ⟨some 34, .move (.tmp 11), 30, none⟩,
 ⟨some 35, .binOp .neq 30 (.tmp 34) (.const (.int .i64 0)) 30, 4, none⟩] [0, 1, 2, 10, 11, 35])
 (.cond (.tmp 35)
  (.seq (.ops [
  ⟨some 36, .move (.tmp 11), 30, none⟩,
  ⟨some 6, .assign (.tmp 36), 30, none⟩] [6])
  .ret)
  (.skip [0, 1, 2, 10]))) (sg c11S3))
noncomputable def c11S5 (_ : Unit) : Cmd := (.seq (.ops [
 ⟨some 30, .move (.tmp 0), 24, none⟩,
 ⟨some 31, .call ⟨.value (.func 31), #[(.tmp 30), (.const (.int .i64 1))], #[24, 3]⟩, 33, none⟩,
 ⟨some 29, .move (.tmp 31), 33, none⟩,
 ⟨some 32, .extract (.tmp 29) 0, 9, none⟩,
 ⟨some 33, .extract (.tmp 29) 1, 30, none⟩,
 ⟨some 10, .assign (.tmp 32), 9, none⟩,
 ⟨some 11, .assign (.tmp 33), 30, none⟩] [0, 1, 2, 10, 11]) (sg c11S4))
noncomputable def c11S6 (_ : Unit) : Cmd := (.seq (.seq (.ops [
 ⟨some 21, .move (.tmp 2), 3, none⟩,
 ⟨some 22, .binOp .neq 3 (.tmp 21) (.const (.int .i64 0)) 3, 4, none⟩] [0, 1, 2, 22])
 (.cond (.tmp 22)
  (.seq (.ops [
  ⟨some 23, .move (.tmp 0), 24, none⟩,
  ⟨some 24, .move (.tmp 2), 3, none⟩,
  ⟨some 25, .call ⟨.value (.func 30), #[(.tmp 23), (.tmp 24)], #[24, 3]⟩, 30, none⟩,
  ⟨some 9, .assign (.tmp 25), 30, none⟩] [0, 1, 2, 9]) (sg c11S1))
  (.skip [0, 1, 2]))) (sg c11S5))
noncomputable def c11 : Cmd := (.seq (.ops [
 ⟨some 6, .assign (.const (.int .i64 0)), 30, none⟩] [0, 1, 2])
 (.seq (.seq (.ops [
 ⟨some 13, .move (.tmp 0), 24, none⟩,
 ⟨some 14, .move (.tmp 1), 3, none⟩,
 ⟨some 15, .call ⟨.value (.func 7), #[(.tmp 13), (.tmp 14)], #[24, 3]⟩, 31, none⟩,
 ⟨some 12, .move (.tmp 15), 31, none⟩,
 ⟨some 16, .extract (.tmp 12) 0, 3, none⟩,
 ⟨some 17, .extract (.tmp 12) 1, 30, none⟩,
 ⟨some 7, .assign (.tmp 16), 3, none⟩,
 ⟨some 8, .assign (.tmp 17), 30, none⟩] [0, 1, 2, 8]) (sg c11S0)) (sg c11S6)))
set_option maxRecDepth 100000 in
theorem ent11 (a0 a1 a2 : Value) (w : World) (K : Value → World → Prop) (h : W Tryz.prog c11 [(0, a0), (1, a1), (2, a2)] w (finQ Tryz.prog [.tmp 6] K)) : Ret Tryz.prog 11 [a0, a1, a2] w K :=
  Ret_of_W (code := c11code) Tryz.func11 (by kernel_rfl) (by kernel_rfl) (of_decide_eq_true (by kernel_rfl)) h
@[go_sem] theorem go11 : goFunc Tryz.prog 11 = true := by kernel_rfl
noncomputable def c7code : Code := match Tryz.f7.body with | some c => c | none => .skip
noncomputable def c7S0 (_ : Unit) : Cmd := (.cond (.tmp 10)
  (.seq (.ops [
  ⟨some 4, .assign (.const (.int .i64 0)), 3, none⟩,
  ⟨some 5, .assign (.const (.int .i64 3)), 30, none⟩] [4, 5])
  .ret)
  (.skip [0, 1]))
noncomputable def c7S1 (_ : Unit) : Cmd := .ret
noncomputable def c7S2 (_ : Unit) : Cmd := (.seq (.ops [
 ⟨some 25, .move (.tmp 6), 9, none⟩,
 ⟨some 26, .move (.tmp 1), 3, none⟩,
 ⟨some 27, .binOp .mul 3 (.const (.int .i64 4)) (.tmp 26) 3, 3, none⟩,
 ⟨some 28, .move (.tmp 1), 3, none⟩,
 ⟨some 29, .binOp .mul 3 (.const (.int .i64 4)) (.tmp 28) 3, 3, none⟩,
 ⟨some 30, .binOp .add 3 (.tmp 29) (.const (.int .i64 4)) 3, 3, none⟩,
 ⟨some 31, .slice 9 (.tmp 25) (some (.tmp 27)) (some (.tmp 30)) none, 9, none⟩,
 ⟨some 32, .call ⟨.value (.func 33), #[(.tmp 31)], #[9]⟩, 58, none⟩,
 ⟨some 33, .convert 58 3 (.tmp 32), 3, none⟩,
 ⟨some 4, .assign (.tmp 33), 3, none⟩,
 ⟨some 5, .assign (.const (.int .i64 0)), 30, none⟩] [4, 5]) (sg c7S1))
noncomputable def c7S3 (_ : Unit) : Cmd := (.seq (.seq (.ops [
 ⟨some 22, .move (.tmp 7), 30, none⟩,
 ⟨some 23, .binOp .neq 30 (.tmp 22) (.const (.int .i64 0)) 30, 4, none⟩] [1, 6, 7, 23])
 (.cond (.tmp 23)
  (.seq (.ops [
  ⟨some 24, .move (.tmp 7), 30, none⟩,
  ⟨some 4, .assign (.const (.int .i64 0)), 3, none⟩,
  ⟨some 5, .assign (.tmp 24), 30, none⟩] [4, 5])
  .ret)
  (.skip [1, 6]))) (sg c7S2))
noncomputable def c7S4 (_ : Unit) : Cmd := (.seq (.ops [
 ⟨some 18, .move (.tmp 0), 24, none⟩,
 ⟨some 19, .call ⟨.value (.func 31), #[(.tmp 18), (.const (.int .i64 1))], #[24, 3]⟩, 33, none⟩,
 ⟨some 17, .move (.tmp 19), 33, none⟩,
 ⟨some 20, .extract (.tmp 17) 0, 9, none⟩,
 ⟨some 21, .extract (.tmp 17) 1, 30, none⟩,
 ⟨some 6, .assign (.tmp 20), 9, none⟩,
 ⟨some 7, .assign (.tmp 21), 30, none⟩] [1, 6, 7]) (sg c7S3))
noncomputable def c7S5 (_ : Unit) : Cmd := (.seq (.seq (.ops [
 ⟨some 11, .move (.tmp 1), 3, none⟩,
 ⟨some 12, .binOp .lss 3 (.tmp 11) (.const (.int .i64 0)) 3, 4, none⟩,
 ⟨some 13, .move (.tmp 12), 4, none⟩,
 ⟨some 14, .move (.tmp 1), 3, (some (13, false))⟩,
 ⟨some 15, .binOp .geq 3 (.tmp 14) (.const (.int .i64 16)) 3, 4, (some (13, false))⟩,
 ⟨some 16, .pick (.tmp 13) (.const (.bool true)) (.tmp 15), 4, none⟩] [0, 1, 16])
 (.cond (.tmp 16)
  (.seq (.ops [
  ⟨some 4, .assign (.const (.int .i64 0)), 3, none⟩,
  ⟨some 5, .assign (.const (.int .i64 1)), 30, none⟩] [4, 5])
  .ret)
  (.skip [0, 1]))) (sg c7S4))
noncomputable def c7 : Cmd := (.seq (.ops [
 ⟨some 4, .assign (.const (.int .i64 0)), 3, none⟩,
 ⟨some 5, .assign (.const (.int .i64 0)), 30, none⟩] [0, 1])
 (.seq (.seq (.ops [
 ⟨some 8, .move (.tmp 0), 24, none⟩,
 ⟨some 9, .call ⟨.value (.func 32), #[(.tmp 8)], #[24]⟩, 4, none⟩,
 ⟨some 10, .unOp .not 4 (.tmp 9), 4, none⟩] [0, 1, 10]) (sg c7S0)) (sg c7S5)))
set_option maxRecDepth 100000 in
theorem ent7 (a0 a1 : Value) (w : World) (K : Value → World → Prop) (h : W Tryz.prog c7 [(0, a0), (1, a1)] w (finQ Tryz.prog [.tmp 4, .tmp 5] K)) : Ret Tryz.prog 7 [a0, a1] w K :=
  Ret_of_W (code := c7code) Tryz.func7 (by kernel_rfl) (by kernel_rfl) (of_decide_eq_true (by kernel_rfl)) h
@[go_sem] theorem go7 : goFunc Tryz.prog 7 = true := by kernel_rfl
@[go_sem] theorem go21 : goFunc Tryz.prog 21 = true := by kernel_rfl
noncomputable def c22code : Code := match Tryz.f22.body with | some c => c | none => .skip
noncomputable def c22S0 (_ : Unit) : Cmd := (.ops [
 ⟨some 45, .move (.tmp 7), 49, none⟩,
 ⟨some 46, .move (.tmp 9), 9, none⟩,
 ⟨some 47, .buildSlice 49 1 #[(0, (.tmp 46))], 49, none⟩,
 ⟨some 48, .call ⟨.builtin .append, #[(.tmp 45), (.tmp 47)], #[49, 49]⟩, 49, none⟩,
 ⟨some 7, .assign (.tmp 48), 49, none⟩] [0, 6, 7, 31, 32])
noncomputable def c22S1 (_ : Unit) : Cmd := (.seq (.seq (.ops [
 ⟨some 42, .move (.tmp 10), 30, none⟩,
 ⟨some 43, .binOp .neq 30 (.tmp 42) (.const (.int .i64 0)) 30, 4, none⟩] [0, 6, 7, 9, 10, 31, 32, 43])
 (.cond (.tmp 43)
  (.seq (.ops [
  ⟨some 44, .move (.tmp 10), 30, none⟩,
  ⟨some 2, .assign (.const (.pointer none)), 25, none⟩,
  ⟨some 3, .assign (.tmp 44), 30, none⟩] [2, 3])
  .ret)
  (.skip [0, 6, 7, 9, 31, 32]))) (sg c22S0))
noncomputable def c22S2 (_ : Unit) : Cmd := (.ops [
 ⟨some 49, .binOp .add 3 (.tmp 32) (.const (.int .i64 1)) 3, 3, none⟩,
 ⟨some 32, .move (.tmp 49), 3, none⟩] [0, 6, 7, 31, 32])
noncomputable def c22S3 (_ : Unit) : Cmd := (.seq (.block 1 (.seq (.ops [
 ⟨some 34, .move (.tmp 32), 3, none⟩,
 ⟨some 8, .assign (.tmp 34), 3, none⟩] [0, 6, 7, 8, 31, 32])
 (.seq (.ops [
 ⟨some 36, .move (.tmp 0), 46, none⟩,
 ⟨some 37, .move (.tmp 8), 3, none⟩,
 ⟨some 38, .binOp .add 3 (.const (.int .i64 2)) (.tmp 37) 3, 3, none⟩,
 ⟨some 39, .call ⟨.value (.func 53), #[(.tmp 36), (.tmp 38)], #[46, 3]⟩, 33, none⟩,
 ⟨some 35, .move (.tmp 39), 33, none⟩,
 ⟨some 40, .extract (.tmp 35) 0, 9, none⟩,
 ⟨some 41, .extract (.tmp 35) 1, 30, none⟩,
 ⟨some 9, .assign (.tmp 40), 9, none⟩,
 ⟨some 10, .assign (.tmp 41), 30, none⟩] [0, 6, 7, 9, 10, 31, 32]) (sg c22S1)))) (sg c22S2))
noncomputable def c22L0 (_ : Unit) : Cmd := (.seq (.ops [
 ⟨some 33, .binOp .lss 3 (.tmp 32) (.tmp 31) 3, 4, none⟩] [0, 6, 7, 31, 32, 33])
 (.seq (.cond (.tmp 33)
  (.skip [0, 6, 7, 31, 32])
  (.exit 0 [6, 7])) (sg c22S3)))
noncomputable def c22S4 (_ : Unit) : Cmd := (.seq (.ops [
  ⟨some 61, .move (.tmp 13), 30, none⟩,
  ⟨some 62, .binOp .neq 30 (.tmp 61) (.const (.int .i64 0)) 30, 4, none⟩] [6, 13, 62])
  (.cond (.tmp 62)
   (.seq (.ops [
   ⟨some 63, .move (.tmp 13), 30, none⟩,
   ⟨some 2, .assign (.const (.pointer none)), 25, none⟩,
   ⟨some 3, .assign (.tmp 63), 30, none⟩] [2, 3])
   .ret)
   (.skip [6])))
noncomputable def c22S5 (_ : Unit) : Cmd := (.seq (.ops [
  ⟨some 58, .move (.tmp 6), 25, none⟩,
  ⟨some 59, .move (.tmp 11), 102, none⟩,
  ⟨some 60, .call ⟨.value (.func 55), #[(.tmp 58), (.tmp 59)], #[25, 102]⟩, 30, none⟩,
  ⟨some 13, .assign (.tmp 60), 30, none⟩] [6, 13]) (sg c22S4))
noncomputable def c22S6 (_ : Unit) : Cmd := (.seq (.seq (.ops [
  ⟨some 55, .move (.tmp 12), 30, none⟩,
  ⟨some 56, .binOp .neq 30 (.tmp 55) (.const (.int .i64 0)) 30, 4, none⟩] [6, 11, 12, 56])
  (.cond (.tmp 56)
   (.seq (.ops [
   ⟨some 57, .move (.tmp 12), 30, none⟩,
   ⟨some 2, .assign (.const (.pointer none)), 25, none⟩,
   ⟨some 3, .assign (.tmp 57), 30, none⟩] [2, 3])
   .ret)
   (.skip [6, 11]))) (sg c22S5))
noncomputable def c22S7 (_ : Unit) : Cmd := (.seq (.ops [
  ⟨some 51, .move (.tmp 7), 49, none⟩,
  ⟨some 52, .call ⟨.value (.func 54), #[(.tmp 51)], #[49]⟩, 103, none⟩,
  ⟨some 50, .move (.tmp 52), 103, none⟩,
  ⟨some 53, .extract (.tmp 50) 0, 102, none⟩,
  ⟨some 54, .extract (.tmp 50) 1, 30, none⟩,
  ⟨some 11, .assign (.tmp 53), 102, none⟩,
  ⟨some 12, .assign (.tmp 54), 30, none⟩] [6, 11, 12]) (sg c22S6))
noncomputable def c22S8 (_ : Unit) : Cmd := (.seq (.ops [
 ⟨some 64, .move (.tmp 6), 25, none⟩,
 ⟨some 2, .assign (.tmp 64), 25, none⟩,
 ⟨some 3, .assign (.const (.int .i64 0)), 30, none⟩] [2, 3])
 .ret)
noncomputable def c22S9 (_ : Unit) : Cmd := (.seq (.ops [
 ⟨some 22, .move (.tmp 0), 46, none⟩,
 ⟨some 23, .load 96 (.tmp 4), 96, none⟩,
 ⟨some 24, .makeMap 99 none, 99, none⟩,
 ⟨some 25, .build 101 #[(0, (.tmp 22)), (1, (.tmp 23)), (2, (.tmp 24))], 101, none⟩,
 ⟨some 26, .box 101 (.tmp 25), 25, none⟩,
 ⟨some 6, .assign (.tmp 26), 25, none⟩] [0, 4, 6])
 (.seq (.seq (.ops [
 ⟨some 27, .fieldAddr 96 (.tmp 4) 1, 0, none⟩,
 ⟨some 28, .load 3 (.tmp 27), 3, none⟩,
 ⟨some 29, .binOp .gtr 3 (.tmp 28) (.const (.int .i64 0)) 3, 4, none⟩] [0, 4, 6, 29])
 (.cond (.tmp 29)
  (.seq (.ops [
  ⟨some 7, .assign (.const (.slice none 0 0)), 49, none⟩] [0, 4, 6, 7])
  (.seq (.seq (.ops [
  ⟨some 30, .fieldAddr 96 (.tmp 4) 1, 0, none⟩,
  ⟨some 31, .load 3 (.tmp 30), 3, none⟩,
  ⟨some 32, .move (.const (.int .i64 0)), 3, none⟩] [0, 6, 7, 31, 32])
  (.block 0 (.loop (sg c22L0)))) (sg c22S7)))
  (.skip [6]))) (sg c22S8)))
noncomputable def c22S10 (_ : Unit) : Cmd := (.seq (.seq (.ops [
 ⟨some 19, .move (.tmp 5), 30, none⟩,
 ⟨some 20, .binOp .neq 30 (.tmp 19) (.const (.int .i64 0)) 30, 4, none⟩] [0, 4, 5, 20])
 (.cond (.tmp 20)
  (.seq (.ops [
  ⟨some 21, .move (.tmp 5), 30, none⟩,
  ⟨some 2, .assign (.const (.pointer none)), 25, none⟩,
  ⟨some 3, .assign (.tmp 21), 30, none⟩] [2, 3])
  .ret)
  (.skip [0, 4]))) (sg c22S9))
noncomputable def c22 : Cmd := (.seq (.ops [
 ⟨some 2, .assign (.const (.pointer none)), 25, none⟩,
 ⟨some 3, .assign (.const (.int .i64 0)), 30, none⟩] [0])
 (.seq (.ops [
 ⟨some 15, .move (.tmp 0), 46, none⟩,
 ⟨some 16, .call ⟨.value (.func 52), #[(.tmp 15)], #[46]⟩, 97, none⟩,
 ⟨some 14, .move (.tmp 16), 97, none⟩,
 ⟨some 17, .extract (.tmp 14) 0, 96, none⟩,
 ⟨some 18, .extract (.tmp 14) 1, 30, none⟩,
 ⟨some 4, .alloc 96, 0, none⟩,
 ⟨none, .store 96 (.tmp 4) (.tmp 17), 0, none⟩,
 ⟨some 5, .assign (.tmp 18), 30, none⟩] [0, 4, 5]) (sg c22S10)))
set_option maxRecDepth 100000 in
theorem ent22 (a0 : Value) (w : World) (K : Value → World → Prop) (h : W Tryz.prog c22 [(0, a0)] w (finQ Tryz.prog [.tmp 2, .tmp 3] K)) : Ret Tryz.prog 22 [a0] w K :=
  Ret_of_W (code := c22code) Tryz.func22 (by kernel_rfl) (by kernel_rfl) (of_decide_eq_true (by kernel_rfl)) h
@[go_sem] theorem go22 : goFunc Tryz.prog 22 = true := by kernel_rfl
noncomputable def c24code : Code := match Tryz.f24.body with | some c => c | none => .skip
noncomputable def c24S0 (_ : Unit) : Cmd := (.seq (.ops [
 ⟨some 14, .move (.tmp 6), 30, none⟩,
 ⟨some 15, .binOp .neq 30 (.tmp 14) (.const (.int .i64 0)) 30, 4, none⟩] [0, 1, 6, 15])
 (.cond (.tmp 15)
  (.seq (.ops [
  ⟨some 16, .move (.tmp 6), 30, none⟩,
  ⟨some 4, .assign (.const (.string (ofL []))), 9, none⟩,
  ⟨some 5, .assign (.tmp 16), 30, none⟩] [4, 5])
  .ret)
  (.skip [0, 1])))
noncomputable def c24S1 (_ : Unit) : Cmd := (.seq (.ops [
 ⟨some 49, .move (.tmp 9), 9, none⟩,
 ⟨some 50, .move (.tmp 10), 30, none⟩,
 ⟨some 4, .assign (.tmp 49), 9, none⟩,
 ⟨some 5, .assign (.tmp 50), 30, none⟩] [4, 5])
 .ret)
noncomputable def c24S2 (_ : Unit) : Cmd := (.seq (.seq (.ops [
 ⟨some 44, .move (.tmp 10), 30, none⟩,
 ⟨some 45, .binOp .neq 30 (.tmp 44) (.const (.int .i64 0)) 30, 4, none⟩] [0, 9, 10, 45])
 (.cond (.tmp 45)
  (.ops [
  ⟨some 46, .move (.tmp 0), 25, none⟩,
  ⟨some 47, .nilCheck (.tmp 46), 0, none⟩,
  ⟨some 48, .fieldAddr 101 (.tmp 47) 3, 0, none⟩,
  ⟨none, .store 4 (.tmp 48) (.const (.bool true)), 0, none⟩] [9, 10])
  (.skip [9, 10]))) (sg c24S1))
noncomputable def c24S3 (_ : Unit) : Cmd := (.seq (.draw (drawOps 0 c24code) [0, 9, 10]) (sg c24S2))
noncomputable def c24S4 (_ : Unit) : Cmd := (.seq (.seq (.ops [
 ⟨some 18, .move (.tmp 0), 25, none⟩,
 ⟨some 19, .nilCheck (.tmp 18), 0, none⟩,
 ⟨some 20, .fieldAddr 101 (.tmp 19) 2, 0, none⟩,
 ⟨some 21, .load 99 (.tmp 20), 99, none⟩,
 ⟨some 22, .move (.tmp 1), 3, none⟩,
 ⟨some 23, .lookup 99 (.tmp 21) (.tmp 22) true, 66, none⟩,
 ⟨some 17, .move (.tmp 23), 66, none⟩,
 ⟨some 24, .extract (.tmp 17) 0, 9, none⟩,
 ⟨some 25, .extract (.tmp 17) 1, 4, none⟩,
 ⟨some 7, .assign (.tmp 24), 9, none⟩,
 ⟨some 8, .assign (.tmp 25), 4, none⟩] [0, 1, 7, 8])
 (.seq (.ops [
 ⟨some 26, .move (.tmp 8), 4, none⟩] [0, 1, 7, 26])
 (.cond (.tmp 26)
  (.seq (.ops [
  ⟨some 27, .move (.tmp 7), 9, none⟩,
  ⟨some 4, .assign (.tmp 27), 9, none⟩,
  ⟨some 5, .assign (.const (.int .i64 0)), 30, none⟩] [4, 5])
  .ret)
  (.skip [0, 1])))) (sg c24S3))
noncomputable def c24 : Cmd := (.seq (.ops [
 ⟨some 4, .assign (.const (.string (ofL []))), 9, none⟩,
 ⟨some 5, .assign (.const (.int .i64 0)), 30, none⟩] [0, 1])
 (.seq (.seq (.ops [
 ⟨some 11, .move (.tmp 0), 25, none⟩,
 ⟨some 12, .move (.tmp 1), 3, none⟩,
 ⟨some 13, .call ⟨.value (.func 56), #[(.tmp 11), (.tmp 12)], #[25, 3]⟩, 30, none⟩,
 ⟨some 6, .assign (.tmp 13), 30, none⟩] [0, 1, 6]) (sg c24S0)) (sg c24S4)))
noncomputable def c24D0 : List (Nat × Ins) := [
 (0, ⟨some 29, .move (.tmp 0), 25, none⟩),
 (0, ⟨some 30, .nilCheck (.tmp 29), 0, none⟩),
 (0, ⟨some 31, .fieldAddr 101 (.tmp 30) 0, 0, none⟩),
 (0, ⟨some 33, .move (.tmp 0), 25, none⟩),
 (0, ⟨some 34, .nilCheck (.tmp 33), 0, none⟩),
 (0, ⟨some 35, .fieldAddr 101 (.tmp 34) 1, 0, none⟩),
 (0, ⟨some 36, .fieldAddr 96 (.tmp 35) 2, 0, none⟩),
 (0, ⟨some 39, .move (.tmp 1), 3, none⟩),
 (1, ⟨some 32, .load 46 (.tmp 31), 46, none⟩),
 (2, ⟨some 37, .load 3 (.tmp 36), 3, none⟩),
 (0, ⟨some 38, .binOp .add 3 (.const (.int .i64 2)) (.tmp 37) 3, 3, none⟩),
 (0, ⟨some 40, .binOp .add 3 (.tmp 38) (.tmp 39) 3, 3, none⟩),
 (3, ⟨some 41, .call ⟨.value (.func 53), #[(.tmp 32), (.tmp 40)], #[46, 3]⟩, 33, none⟩),
 (0, ⟨some 28, .move (.tmp 41), 33, none⟩),
 (0, ⟨some 42, .extract (.tmp 28) 0, 9, none⟩),
 (0, ⟨some 43, .extract (.tmp 28) 1, 30, none⟩),
 (0, ⟨some 9, .assign (.tmp 42), 9, none⟩),
 (0, ⟨some 10, .assign (.tmp 43), 30, none⟩)]
theorem c24draw0 {L : List Nat} {ρ : Env} {w : World} {Q : Post} (S : World → Prop) (hS : S w.drew) (h : DG Tryz.prog S c24D0 L ρ w.drew Q) : drawW Tryz.prog (drawOps 0 c24code) L ρ w Q :=
  drawW_held [3] [(0, 0), (0, 1), (0, 2), (0, 4), (0, 5), (0, 6), (0, 7), (0, 10), (1, 3), (2, 8), (0, 9), (0, 11), (3, 12), (0, 13), (0, 14), (0, 15), (0, 16), (0, 17)] c24D0 (by kernel_rfl) (by kernel_rfl) (by kernel_rfl) S hS h
set_option maxRecDepth 100000 in
theorem ent24 (a0 a1 : Value) (w : World) (K : Value → World → Prop) (h : W Tryz.prog c24 [(0, a0), (1, a1)] w (finQ Tryz.prog [.tmp 4, .tmp 5] K)) : Ret Tryz.prog 24 [a0, a1] w K :=
  Ret_of_W (code := c24code) Tryz.func24 (by kernel_rfl) (by kernel_rfl) (of_decide_eq_true (by kernel_rfl)) h
@[go_sem] theorem go24 : goFunc Tryz.prog 24 = true := by kernel_rfl
noncomputable def c58code : Code := match Tryz.f58.body with | some c => c | none => .skip
noncomputable def c58S0 (_ : Unit) : Cmd := (.seq (.ops [
 ⟨some 11, .move (.tmp 7), 30, none⟩,
 ⟨some 12, .binOp .neq 30 (.tmp 11) (.const (.int .i64 0)) 30, 4, none⟩] [0, 1, 2, 7, 12])
 (.cond (.tmp 12)
  (.seq (.ops [
  ⟨some 13, .move (.tmp 7), 30, none⟩,
  ⟨some 6, .assign (.tmp 13), 30, none⟩] [6])
  .ret)
  (.skip [0, 1, 2])))
noncomputable def c58S1 (_ : Unit) : Cmd := (.seq (.ops [
 ⟨some 6, .assign (.const (.int .i64 0)), 30, none⟩] [6])
 .ret)
noncomputable def c58S2 (_ : Unit) : Cmd := (.seq (.draw (drawOps 0 c58code) []) (sg c58S1))
noncomputable def c58S3 (_ : Unit) : Cmd := (.seq (.seq (.ops [
 ⟨some 14, .move (.tmp 2), 9, none⟩,
 ⟨some 15, .call ⟨.builtin .len, #[(.tmp 14)], #[9]⟩, 3, none⟩,
 ⟨some 16, .binOp .gtr 3 (.tmp 15) (.const (.int .i64 256)) 3, 4, none⟩] [0, 1, 2, 16])
 (.cond (.tmp 16)
  (.seq (.ops [
  ⟨some 6, .assign (.const (.int .i64 21)), 30, none⟩] [6])
  .ret)
  (.skip [0, 1, 2]))) (sg c58S2))
noncomputable def c58 : Cmd := (.seq (.ops [
 ⟨some 6, .assign (.const (.int .i64 0)), 30, none⟩] [0, 1, 2])
 (.seq (.seq (.ops [
 ⟨some 8, .move (.tmp 0), 25, none⟩,
 ⟨some 9, .move (.tmp 1), 3, none⟩,
 ⟨some 10, .call ⟨.value (.func 56), #[(.tmp 8), (.tmp 9)], #[25, 3]⟩, 30, none⟩,
 ⟨some 7, .assign (.tmp 10), 30, none⟩] [0, 1, 2, 7]) (sg c58S0)) (sg c58S3)))
noncomputable def c58D0 : List (Nat × Ins) := [
 (0, ⟨some 17, .move (.tmp 0), 25, none⟩),
 (0, ⟨some 18, .nilCheck (.tmp 17), 0, none⟩),
 (0, ⟨some 19, .fieldAddr 101 (.tmp 18) 2, 0, none⟩),
 (0, ⟨some 21, .move (.tmp 1), 3, none⟩),
 (0, ⟨some 22, .move (.tmp 2), 9, none⟩),
 (0, ⟨some 23, .move (.tmp 2), 9, none⟩),
 (0, ⟨some 24, .call ⟨.builtin .len, #[(.tmp 23)], #[9]⟩, 3, none⟩),
 (0, ⟨some 25, .binOp .sub 3 (.const (.int .i64 256)) (.tmp 24) 3, 3, none⟩),
 (1, ⟨some 20, .load 99 (.tmp 19), 99, none⟩),
 (2, ⟨some 26, .makeSlice 106 (.tmp 25) (.tmp 25), 106, none⟩),
 (2, ⟨some 27, .convert 106 9 (.tmp 26), 9, none⟩),
 (0, ⟨some 28, .binOp .add 9 (.tmp 22) (.tmp 27) 9, 9, none⟩),
 (3, ⟨none, .mapUpdate 99 (.tmp 20) (.tmp 21) (.tmp 28), 0, none⟩)]
theorem c58draw0 {L : List Nat} {ρ : Env} {w : World} {Q : Post} (S : World → Prop) (hS : S w.drew) (h : DG Tryz.prog S c58D0 L ρ w.drew Q) : drawW Tryz.prog (drawOps 0 c58code) L ρ w Q :=
  drawW_held [3] [(0, 0), (0, 1), (0, 2), (0, 4), (0, 5), (0, 6), (0, 7), (0, 8), (1, 3), (2, 9), (2, 10), (0, 11), (3, 12)] c58D0 (by kernel_rfl) (by kernel_rfl) (by kernel_rfl) S hS h
set_option maxRecDepth 100000 in
theorem ent58 (a0 a1 a2 : Value) (w : World) (K : Value → World → Prop) (h : W Tryz.prog c58 [(0, a0), (1, a1), (2, a2)] w (finQ Tryz.prog [.tmp 6] K)) : Ret Tryz.prog 58 [a0, a1, a2] w K :=
  Ret_of_W (code := c58code) Tryz.func58 (by kernel_rfl) (by kernel_rfl) (of_decide_eq_true (by kernel_rfl)) h
@[go_sem] theorem go58 : goFunc Tryz.prog 58 = true := by kernel_rfl
noncomputable def c23code : Code := match Tryz.f23.body with | some c => c | none => .skip
noncomputable def c23S0 (_ : Unit) : Cmd := (.seq (.ops [
 ⟨some 5, .move (.tmp 0), 25, none⟩,
 ⟨some 6, .nilCheck (.tmp 5), 0, none⟩,
 ⟨some 7, .fieldAddr 101 (.tmp 6) 1, 0, none⟩,
 ⟨some 8, .fieldAddr 96 (.tmp 7) 3, 0, none⟩,
 ⟨some 9, .load 3 (.tmp 8), 3, none⟩,
 ⟨some 2, .assign (.tmp 9), 3, none⟩] [2])
 .ret)
noncomputable def c23 : Cmd := (.seq (.ops [
 ⟨some 2, .assign (.const (.int .i64 0)), 3, none⟩] [0])
 (.seq (.seq (.ops [
 ⟨some 3, .move (.tmp 0), 25, none⟩,
 ⟨some 4, .binOp .eql 25 (.tmp 3) (.const (.pointer none)) 25, 4, none⟩] [0, 4])
 (.cond (.tmp 4)
  (.seq (.ops [
  ⟨some 2, .assign (.const (.int .i64 0)), 3, none⟩] [2])
  .ret)
  (.skip [0]))) (sg c23S0)))
set_option maxRecDepth 100000 in
theorem ent23 (a0 : Value) (w : World) (K : Value → World → Prop) (h : W Tryz.prog c23 [(0, a0)] w (finQ Tryz.prog [.tmp 2] K)) : Ret Tryz.prog 23 [a0] w K :=
  Ret_of_W (code := c23code) Tryz.func23 (by kernel_rfl) (by kernel_rfl) (of_decide_eq_true (by kernel_rfl)) h
@[go_sem] theorem go23 : goFunc Tryz.prog 23 = true := by kernel_rfl
noncomputable def c42code : Code := match Tryz.f42.body with | some c => c | none => .skip
noncomputable def c42S0 (_ : Unit) : Cmd := (.ops [
 ⟨some 30, .binOp .add 3 (.tmp 15) (.const (.int .i64 1)) 3, 3, none⟩,
 ⟨some 15, .move (.tmp 30), 3, none⟩] [4, 14, 15])
noncomputable def c42S1 (_ : Unit) : Cmd := (.seq (.block 1 (.draw (drawOps 0 c42code) [4, 14, 15])) (sg c42S0))
noncomputable def c42L0 (_ : Unit) : Cmd := (.seq (.ops [
 ⟨some 16, .binOp .lss 3 (.tmp 15) (.tmp 14) 3, 4, none⟩] [4, 14, 15, 16])
 (.seq (.cond (.tmp 16)
  (.skip [4, 14, 15])
  (.exit 0 [4])) (sg c42S1)))
noncomputable def c42S2 (_ : Unit) : Cmd := (.seq (.ops [
 ⟨some 31, .move (.tmp 4), 46, none⟩,
 ⟨some 2, .assign (.tmp 31), 46, none⟩,
 ⟨some 3, .assign (.const (.int .i64 0)), 30, none⟩] [2, 3])
 .ret)
noncomputable def c42S3 (_ : Unit) : Cmd := (.seq (.seq (.ops [
 ⟨some 14, .move (.tmp 0), 3, none⟩,
 ⟨some 15, .move (.const (.int .i64 0)), 3, none⟩] [4, 14, 15])
 (.block 0 (.loop (sg c42L0)))) (sg c42S2))
noncomputable def c42S4 (_ : Unit) : Cmd := (.seq (.ops [
 ⟨some 11, .call ⟨.value (.func 68), #[], #[]⟩, 9, none⟩,
 ⟨some 12, .build 91 #[(2, (.const (.int .i64 (-1)))), (4, (.tmp 11))], 91, none⟩,
 ⟨some 13, .box 91 (.tmp 12), 46, none⟩,
 ⟨some 4, .assign (.tmp 13), 46, none⟩] [0, 4]) (sg c42S3))
noncomputable def c42 : Cmd := (.seq (.ops [
 ⟨some 2, .assign (.const (.pointer none)), 46, none⟩,
 ⟨some 3, .assign (.const (.int .i64 0)), 30, none⟩] [0])
 (.seq (.seq (.ops [
 ⟨some 5, .move (.tmp 0), 3, none⟩,
 ⟨some 6, .binOp .lss 3 (.tmp 5) (.const (.int .i64 1)) 3, 4, none⟩,
 ⟨some 7, .move (.tmp 6), 4, none⟩,
 ⟨some 8, .move (.tmp 0), 3, (some (7, false))⟩,
 ⟨some 9, .binOp .gtr 3 (.tmp 8) (.const (.int .i64 2048)) 3, 4, (some (7, false))⟩,
 ⟨some 10, .pick (.tmp 7) (.const (.bool true)) (.tmp 9), 4, none⟩] [0, 10])
 (.cond (.tmp 10)
  (.seq (.ops [
  ⟨some 2, .assign (.const (.pointer none)), 46, none⟩,
  ⟨some 3, .assign (.const (.int .i64 1)), 30, none⟩] [2, 3])
  .ret)
  (.skip [0]))) (sg c42S4)))
noncomputable def c42D0 : List (Nat × Ins) := [
 (0, ⟨some 17, .move (.tmp 4), 46, none⟩),
 (0, ⟨some 18, .move (.tmp 4), 46, none⟩),
 (0, ⟨some 19, .nilCheck (.tmp 18), 0, none⟩),
 (0, ⟨some 20, .fieldAddr 91 (.tmp 19) 0, 0, none⟩),
 (0, ⟨some 22, .move (.tmp 4), 46, none⟩),
 (0, ⟨some 23, .nilCheck (.tmp 22), 0, none⟩),
 (0, ⟨some 24, .fieldAddr 91 (.tmp 23) 4, 0, none⟩),
 (1, ⟨some 21, .load 49 (.tmp 20), 49, none⟩),
 (2, ⟨some 25, .load 9 (.tmp 24), 9, none⟩),
 (2, ⟨some 26, .buildSlice 49 1 #[(0, (.tmp 25))], 49, none⟩),
 (3, ⟨some 27, .call ⟨.builtin .append, #[(.tmp 21), (.tmp 26)], #[49, 49]⟩, 49, none⟩),
 (0, ⟨some 28, .nilCheck (.tmp 17), 0, none⟩),
 (0, ⟨some 29, .fieldAddr 91 (.tmp 28) 0, 0, none⟩),
 (3, ⟨none, .store 49 (.tmp 29) (.tmp 27), 0, none⟩)]
theorem c42draw0 {L : List Nat} {ρ : Env} {w : World} {Q : Post} (S : World → Prop) (hS : S w.drew) (h : DG Tryz.prog S c42D0 L ρ w.drew Q) : drawW Tryz.prog (drawOps 0 c42code) L ρ w Q :=
  drawW_held [4] [(0, 0), (0, 1), (0, 2), (0, 3), (0, 5), (0, 6), (0, 7), (1, 4), (2, 8), (2, 9), (3, 10), (0, 11), (0, 12), (3, 13)] c42D0 (by kernel_rfl) (by kernel_rfl) (by kernel_rfl) S hS h
set_option maxRecDepth 100000 in
theorem ent42 (a0 : Value) (w : World) (K : Value → World → Prop) (h : W Tryz.prog c42 [(0, a0)] w (finQ Tryz.prog [.tmp 2, .tmp 3] K)) : Ret Tryz.prog 42 [a0] w K :=
  Ret_of_W (code := c42code) Tryz.func42 (by kernel_rfl) (by kernel_rfl) (of_decide_eq_true (by kernel_rfl)) h
@[go_sem] theorem go42 : goFunc Tryz.prog 42 = true := by kernel_rfl
noncomputable def c43code : Code := match Tryz.f43.body with | some c => c | none => .skip
noncomputable def c43S0 (_ : Unit) : Cmd := (.seq (.ops [
 ⟨some 16, .move (.tmp 7), 30, none⟩,
 ⟨some 17, .binOp .neq 30 (.tmp 16) (.const (.int .i64 0)) 30, 4, none⟩] [0, 1, 5, 7, 17])
 (.cond (.tmp 17)
  (.seq (.ops [
  ⟨some 18, .move (.tmp 7), 30, none⟩,
  ⟨some 4, .assign (.tmp 18), 30, none⟩] [4])
  .ret)
  (.skip [0, 1, 5])))
noncomputable def c43S1 (_ : Unit) : Cmd := (.seq (.ops [
 ⟨some 35, .move (.tmp 8), 30, none⟩,
 ⟨some 36, .binOp .neq 30 (.tmp 35) (.const (.int .i64 0)) 30, 4, none⟩] [0, 1, 5, 8, 36])
 (.cond (.tmp 36)
  (.seq (.ops [
  ⟨some 37, .move (.tmp 8), 30, none⟩,
  ⟨some 4, .assign (.tmp 37), 30, none⟩] [4])
  .ret)
  (.skip [0, 1, 5])))
noncomputable def c43S2 (_ : Unit) : Cmd := .ret
noncomputable def c43S3 (_ : Unit) : Cmd := (.seq (.ops [
 ⟨some 38, .move (.tmp 0), 46, none⟩,
 ⟨some 39, .move (.tmp 1), 3, none⟩,
 ⟨some 40, .move (.tmp 5), 3, none⟩,
 ⟨some 41, .binOp .sub 3 (.tmp 40) (.const (.int .i64 2)) 3, 3, none⟩,
 ⟨some 42, .move (.tmp 1), 3, none⟩,
 ⟨some 43, .binOp .sub 3 (.tmp 41) (.tmp 42) 3, 3, none⟩,
 ⟨some 44, .call ⟨.builtin .min, #[(.tmp 43), (.const (.int .i64 1024))], #[3, 3]⟩, 3, none⟩,
 ⟨some 45, .build 96 #[(0, (.const (.int .u64 2))), (2, (.tmp 39)), (3, (.tmp 44))], 96, none⟩,
 ⟨some 46, .call ⟨.value (.func 71), #[(.tmp 38), (.tmp 45)], #[46, 96]⟩, 30, none⟩,
 ⟨some 4, .assign (.tmp 46), 30, none⟩] [4]) (sg c43S2))
noncomputable def c43S4 (_ : Unit) : Cmd := (.seq (.seq (.ops [
 ⟨some 33, .move (.tmp 0), 46, none⟩,
 ⟨some 34, .call ⟨.value (.func 70), #[(.tmp 33), (.const (.int .i64 1)), (.const (.string (ofL [])))], #[46, 3, 9]⟩, 30, none⟩,
 ⟨some 8, .assign (.tmp 34), 30, none⟩] [0, 1, 5, 8]) (sg c43S1)) (sg c43S3))
noncomputable def c43S5 (_ : Unit) : Cmd := (.seq (.seq (.ops [
 ⟨some 19, .move (.tmp 1), 3, none⟩,
 ⟨some 20, .binOp .lss 3 (.tmp 19) (.const (.int .i64 1)) 3, 4, none⟩,
 ⟨some 21, .move (.tmp 20), 4, none⟩,
 ⟨some 22, .move (.tmp 1), 3, (some (21, false))⟩,
 ⟨some 23, .move (.tmp 5), 3, (some (21, false))⟩,
 ⟨some 24, .binOp .gtr 3 (.tmp 22) (.tmp 23) 3, 4, (some (21, false))⟩,
 ⟨some 25, .pick (.tmp 21) (.const (.bool true)) (.tmp 24), 4, none⟩,
 ⟨some 26, .move (.tmp 25), 4, none⟩,
 ⟨some 27, .move (.tmp 5), 3, (some (26, false))⟩,
 ⟨some 28, .binOp .sub 3 (.tmp 27) (.const (.int .i64 2)) 3, 3, (some (26, false))⟩,
 ⟨some 29, .move (.tmp 1), 3, (some (26, false))⟩,
 ⟨some 30, .binOp .sub 3 (.tmp 28) (.tmp 29) 3, 3, (some (26, false))⟩,
 ⟨some 31, .binOp .lss 3 (.tmp 30) (.const (.int .i64 1)) 3, 4, (some (26, false))⟩,
 ⟨some 32, .pick (.tmp 26) (.const (.bool true)) (.tmp 31), 4, none⟩] [0, 1, 5, 32])
 (.cond (.tmp 32)
  (.seq (.ops [
  ⟨some 4, .assign (.const (.int .i64 1)), 30, none⟩] [4])
  .ret)
  (.skip [0, 1, 5]))) (sg c43S4))
noncomputable def c43S6 (_ : Unit) : Cmd := (.seq (.seq (.ops [
 ⟨some 12, .move (.tmp 0), 46, none⟩,
 ⟨some 13, .call ⟨.value (.func 53), #[(.tmp 12), (.const (.int .i64 0))], #[46, 3]⟩, 33, none⟩,
 ⟨some 11, .move (.tmp 13), 33, none⟩,
 ⟨some 14, .extract (.tmp 11) 0, 9, none⟩,
 ⟨some 15, .extract (.tmp 11) 1, 30, none⟩,
 ⟨some 6, .assign (.tmp 14), 9, none⟩,
 ⟨some 7, .assign (.tmp 15), 30, none⟩] [0, 1, 5, 7]) (sg c43S0)) (sg c43S5))
noncomputable def c43 : Cmd := (.seq (.ops [
 ⟨some 4, .assign (.const (.int .i64 0)), 30, none⟩] [0, 1])
 (.seq (.ops [
 ⟨some 9, .move (.tmp 0), 46, none⟩,
 ⟨some 10, .call ⟨.value (.func 69), #[(.tmp 9)], #[46]⟩, 3, none⟩,
 ⟨some 5, .assign (.tmp 10), 3, none⟩] [0, 1, 5]) (sg c43S6)))
set_option maxRecDepth 100000 in
theorem ent43 (a0 a1 : Value) (w : World) (K : Value → World → Prop) (h : W Tryz.prog c43 [(0, a0), (1, a1)] w (finQ Tryz.prog [.tmp 4] K)) : Ret Tryz.prog 43 [a0, a1] w K :=
  Ret_of_W (code := c43code) Tryz.func43 (by kernel_rfl) (by kernel_rfl) (of_decide_eq_true (by kernel_rfl)) h
@[go_sem] theorem go43 : goFunc Tryz.prog 43 = true := by kernel_rfl
noncomputable def c15code : Code := match Tryz.f15.body with | some c => c | none => .skip
noncomputable def c15S0 (_ : Unit) : Cmd := (.seq (.ops [
 ⟨some 13, .move (.tmp 5), 30, none⟩,
 ⟨some 14, .binOp .neq 30 (.tmp 13) (.const (.int .i64 0)) 30, 4, none⟩] [0, 5, 14])
 (.cond (.tmp 14)
  (.seq (.ops [
  ⟨some 15, .move (.tmp 5), 30, none⟩,
  ⟨some 2, .assign (.const (.pointer none)), 24, none⟩,
  ⟨some 3, .assign (.tmp 15), 30, none⟩] [2, 3])
  .ret)
  (.skip [0])))
noncomputable def c15S1 (_ : Unit) : Cmd := (.seq (.ops [
 ⟨some 20, .move (.tmp 0), 25, none⟩,
 ⟨some 21, .move (.tmp 6), 26, none⟩,
 ⟨some 22, .build 28 #[(0, (.tmp 20)), (1, (.tmp 21))], 28, none⟩,
 ⟨some 23, .box 28 (.tmp 22), 24, none⟩,
 ⟨some 24, .move (.tmp 7), 30, none⟩,
 ⟨some 2, .assign (.tmp 23), 24, none⟩,
 ⟨some 3, .assign (.tmp 24), 30, none⟩] [2, 3])
 .ret)
noncomputable def c15S2 (_ : Unit) : Cmd := (.seq (.ops [
 ⟨some 17, .call ⟨.value (.func 41), #[(.const (.int .i64 64))], #[3]⟩, 73, none⟩,
 ⟨some 16, .move (.tmp 17), 73, none⟩,
 ⟨some 18, .extract (.tmp 16) 0, 26, none⟩,
 ⟨some 19, .extract (.tmp 16) 1, 30, none⟩,
 ⟨some 6, .assign (.tmp 18), 26, none⟩,
 ⟨some 7, .assign (.tmp 19), 30, none⟩] [0, 6, 7]) (sg c15S1))
noncomputable def c15 : Cmd := (.seq (.ops [
 ⟨some 2, .assign (.const (.pointer none)), 24, none⟩,
 ⟨some 3, .assign (.const (.int .i64 0)), 30, none⟩] [0])
 (.seq (.seq (.ops [
 ⟨some 9, .move (.tmp 0), 25, none⟩,
 ⟨some 10, .call ⟨.value (.func 24), #[(.tmp 9), (.const (.int .i64 0))], #[25, 3]⟩, 33, none⟩,
 ⟨some 8, .move (.tmp 10), 33, none⟩,
 ⟨some 11, .extract (.tmp 8) 0, 9, none⟩,
 ⟨some 12, .extract (.tmp 8) 1, 30, none⟩,
 ⟨some 4, .assign (.tmp 11), 9, none⟩,
 ⟨some 5, .assign (.tmp 12), 30, none⟩] [0, 5]) (sg c15S0)) (sg c15S2)))
set_option maxRecDepth 100000 in
theorem ent15 (a0 : Value) (w : World) (K : Value → World → Prop) (h : W Tryz.prog c15 [(0, a0)] w (finQ Tryz.prog [.tmp 2, .tmp 3] K)) : Ret Tryz.prog 15 [a0] w K :=
  Ret_of_W (code := c15code) Tryz.func15 (by kernel_rfl) (by kernel_rfl) (of_decide_eq_true (by kernel_rfl)) h
@[go_sem] theorem go15 : goFunc Tryz.prog 15 = true := by kernel_rfl
noncomputable def c32code : Code := match Tryz.f32.body with | some c => c | none => .skip
noncomputable def c32 : Cmd := (.seq (.ops [
 ⟨some 2, .assign (.const (.bool false)), 4, none⟩] [0])
 (.seq (.ops [
 ⟨some 3, .move (.tmp 0), 24, none⟩,
 ⟨some 4, .binOp .neq 24 (.tmp 3) (.const (.pointer none)) 24, 4, none⟩,
 ⟨some 5, .move (.tmp 4), 4, none⟩,
 ⟨some 6, .move (.tmp 0), 24, (some (5, true))⟩,
 ⟨some 7, .nilCheck (.tmp 6), 0, (some (5, true))⟩,
 ⟨some 8, .fieldAddr 28 (.tmp 7) 0, 0, (some (5, true))⟩,
 ⟨some 9, .load 25 (.tmp 8), 25, (some (5, true))⟩,
 ⟨some 10, .binOp .neq 25 (.tmp 9) (.const (.pointer none)) 25, 4, (some (5, true))⟩,
 ⟨some 11, .pick (.tmp 5) (.tmp 10) (.const (.bool false)), 4, none⟩,
 ⟨some 2, .assign (.tmp 11), 4, none⟩] [2])
 .ret))
set_option maxRecDepth 100000 in
theorem ent32 (a0 : Value) (w : World) (K : Value → World → Prop) (h : W Tryz.prog c32 [(0, a0)] w (finQ Tryz.prog [.tmp 2] K)) : Ret Tryz.prog 32 [a0] w K :=
  Ret_of_W (code := c32code) Tryz.func32 (by kernel_rfl) (by kernel_rfl) (of_decide_eq_true (by kernel_rfl)) h
@[go_sem] theorem go32 : goFunc Tryz.prog 32 = true := by kernel_rfl
noncomputable def c40code : Code := match Tryz.f40.body with | some c => c | none => .skip
noncomputable def c40S0 (_ : Unit) : Cmd := .ret
noncomputable def c40 : Cmd := (.seq (.ops [
 ⟨some 2, .assign (.const (.string (ofL []))), 9, none⟩] [0])
 (.seq (.ops [
 ⟨some 3, .move (.tmp 0), 3, none⟩,
 ⟨some 4, .binOp .quo 3 (.tmp 3) (.const (.int .i64 8)) 3, 3, none⟩,
 ⟨some 5, .move (.tmp 0), 3, none⟩,
 ⟨some 6, .binOp .rem 3 (.tmp 5) (.const (.int .i64 8)) 3, 3, none⟩,
 ⟨some 7, .call ⟨.builtin .max, #[(.const (.int .i64 0)), (.tmp 6)], #[3, 3]⟩, 3, none⟩,
 ⟨some 8, .call ⟨.builtin .min, #[(.const (.int .i64 1)), (.tmp 7)], #[3, 3]⟩, 3, none⟩,
 ⟨some 9, .binOp .add 3 (.tmp 4) (.tmp 8) 3, 3, none⟩,
 ⟨some 10, .call ⟨.builtin .max, #[(.const (.int .i64 0)), (.tmp 9)], #[3, 3]⟩, 3, none⟩,
 ⟨some 11, .makeSlice 106 (.tmp 10) (.tmp 10), 106, none⟩,
 ⟨some 12, .convert 106 9 (.tmp 11), 9, none⟩,
 ⟨some 2, .assign (.tmp 12), 9, none⟩] [2]) (sg c40S0)))
set_option maxRecDepth 100000 in
theorem ent40 (a0 : Value) (w : World) (K : Value → World → Prop) (h : W Tryz.prog c40 [(0, a0)] w (finQ Tryz.prog [.tmp 2] K)) : Ret Tryz.prog 40 [a0] w K :=
  Ret_of_W (code := c40code) Tryz.func40 (by kernel_rfl) (by kernel_rfl) (of_decide_eq_true (by kernel_rfl)) h
@[go_sem] theorem go40 : goFunc Tryz.prog 40 = true := by kernel_rfl
noncomputable def c28code : Code := match Tryz.f28.body with | some c => c | none => .skip
noncomputable def c28S0 (_ : Unit) : Cmd := (.seq (.ops [
 ⟨some 44, .move (.tmp 8), 106, none⟩,
 ⟨some 45, .convert 106 9 (.tmp 44), 9, none⟩,
 ⟨some 6, .assign (.tmp 45), 9, none⟩,
 ⟨some 7, .assign (.const (.bool true)), 4, none⟩] [6, 7])
 .ret)
noncomputable def c28S1 (_ : Unit) : Cmd := (.seq (.ops [
 ⟨some 19, .move (.tmp 0), 9, none⟩,
 ⟨some 20, .convert 9 106 (.tmp 19), 106, none⟩,
 ⟨some 8, .assign (.tmp 20), 106, none⟩] [1, 2, 8])
 (.seq (.seq (.ops [
 ⟨some 21, .move (.tmp 2), 4, none⟩] [1, 8, 21])
 (.cond (.tmp 21)
  (.ops [
  ⟨some 22, .move (.tmp 8), 106, none⟩,
  ⟨some 23, .move (.tmp 1), 3, none⟩,
  ⟨some 24, .binOp .quo 3 (.tmp 23) (.const (.int .i64 8)) 3, 3, none⟩,
  ⟨some 25, .indexAddr 106 (.tmp 22) (.tmp 24), 0, none⟩,
  ⟨some 26, .load 5 (.tmp 25), 5, none⟩,
  ⟨some 27, .move (.tmp 1), 3, none⟩,
  ⟨some 28, .binOp .rem 3 (.tmp 27) (.const (.int .i64 8)) 3, 3, none⟩,
  ⟨some 29, .convert 3 94 (.tmp 28), 94, none⟩,
  ⟨some 30, .binOp .shl 5 (.const (.int .u8 1)) (.tmp 29) 94, 5, none⟩,
  ⟨some 31, .binOp .or 5 (.tmp 26) (.tmp 30) 5, 5, none⟩,
  ⟨some 32, .indexAddr 106 (.tmp 22) (.tmp 24), 0, none⟩,
  ⟨none, .store 5 (.tmp 32) (.tmp 31), 0, none⟩] [8])
  (.ops [
  ⟨some 33, .move (.tmp 8), 106, none⟩,
  ⟨some 34, .move (.tmp 1), 3, none⟩,
  ⟨some 35, .binOp .quo 3 (.tmp 34) (.const (.int .i64 8)) 3, 3, none⟩,
  ⟨some 36, .indexAddr 106 (.tmp 33) (.tmp 35), 0, none⟩,
  ⟨some 37, .load 5 (.tmp 36), 5, none⟩,
  ⟨some 38, .move (.tmp 1), 3, none⟩,
  ⟨some 39, .binOp .rem 3 (.tmp 38) (.const (.int .i64 8)) 3, 3, none⟩,
  ⟨some 40, .convert 3 94 (.tmp 39), 94, none⟩,
  ⟨some 41, .binOp .shl 5 (.const (.int .u8 1)) (.tmp 40) 94, 5, none⟩,
  ⟨some 42, .binOp .andNot 5 (.tmp 37) (.tmp 41) 5, 5, none⟩,
  ⟨some 43, .indexAddr 106 (.tmp 33) (.tmp 35), 0, none⟩,
  ⟨none, .store 5 (.tmp 43) (.tmp 42), 0, none⟩] [8]))) (sg c28S0)))
noncomputable def c28 : Cmd := (.seq (.ops [
 ⟨some 6, .assign (.const (.string (ofL []))), 9, none⟩,
 ⟨some 7, .assign (.const (.bool false)), 4, none⟩] [0, 1, 2])
 (.seq (.seq (.ops [
 ⟨some 9, .move (.tmp 1), 3, none⟩,
 ⟨some 10, .binOp .lss 3 (.tmp 9) (.const (.int .i64 0)) 3, 4, none⟩,
 ⟨some 11, .move (.tmp 10), 4, none⟩,
 ⟨some 12, .move (.tmp 1), 3, (some (11, false))⟩,
 ⟨some 13, .binOp .quo 3 (.tmp 12) (.const (.int .i64 8)) 3, 3, (some (11, false))⟩,
 ⟨some 14, .move (.tmp 0), 9, (some (11, false))⟩,
 ⟨some 15, .call ⟨.builtin .len, #[(.tmp 14)], #[9]⟩, 3, (some (11, false))⟩,
 ⟨some 16, .binOp .geq 3 (.tmp 13) (.tmp 15) 3, 4, (some (11, false))⟩,
 ⟨some 17, .pick (.tmp 11) (.const (.bool true)) (.tmp 16), 4, none⟩] [0, 1, 2, 17])
 (.cond (.tmp 17)
  (.seq (.ops [
  ⟨some 18, .move (.tmp 0), 9, none⟩,
  ⟨some 6, .assign (.tmp 18), 9, none⟩,
  ⟨some 7, .assign (.const (.bool false)), 4, none⟩] [6, 7])
  .ret)
  (.skip [0, 1, 2]))) (sg c28S1)))
set_option maxRecDepth 100000 in
theorem ent28 (a0 a1 a2 : Value) (w : World) (K : Value → World → Prop) (h : W Tryz.prog c28 [(0, a0), (1, a1), (2, a2)] w (finQ Tryz.prog [.tmp 6, .tmp 7] K)) : Ret Tryz.prog 28 [a0, a1, a2] w K :=
  Ret_of_W (code := c28code) Tryz.func28 (by kernel_rfl) (by kernel_rfl) (of_decide_eq_true (by kernel_rfl)) h
@[go_sem] theorem go28 : goFunc Tryz.prog 28 = true := by kernel_rfl
noncomputable def c29code : Code := match Tryz.f29.body with | some c => c | none => .skip
noncomputable def c29S0 (_ : Unit) : Cmd := .ret
noncomputable def c29S1 (_ : Unit) : Cmd := (.seq (.ops [
 ⟨some 13, .move (.tmp 0), 24, none⟩,
 ⟨some 14, .nilCheck (.tmp 13), 0, none⟩,
 ⟨some 15, .fieldAddr 28 (.tmp 14) 0, 0, none⟩,
 ⟨some 16, .load 25 (.tmp 15), 25, none⟩,
 ⟨some 17, .move (.tmp 1), 3, none⟩,
 ⟨some 18, .move (.tmp 2), 9, none⟩,
 ⟨some 19, .call ⟨.value (.func 58), #[(.tmp 16), (.tmp 17), (.tmp 18)], #[25, 3, 9]⟩, 30, none⟩,
 ⟨some 6, .assign (.tmp 19), 30, none⟩] [6]) (sg c29S0))
noncomputable def c29 : Cmd := (.seq (.ops [
 ⟨some 6, .assign (.const (.int .i64 0)), 30, none⟩] [0, 1, 2])
 (.seq (.ops [
 ⟨some 7, .move (.tmp 0), 24, none⟩,
 ⟨some 8, .nilCheck (.tmp 7), 0, none⟩,
 ⟨some 9, .fieldAddr 28 (.tmp 8) 1, 0, none⟩,
 ⟨some 10, .load 26 (.tmp 9), 26, none⟩,
 ⟨some 11, .move (.tmp 1), 3, none⟩,
 ⟨some 12, .call ⟨.value (.func 57), #[(.tmp 10), (.tmp 11)], #[26, 3]⟩, 4, none⟩] [0, 1, 2]) (sg c29S1)))
set_option maxRecDepth 100000 in
theorem ent29 (a0 a1 a2 : Value) (w : World) (K : Value → World → Prop) (h : W Tryz.prog c29 [(0, a0), (1, a1), (2, a2)] w (finQ Tryz.prog [.tmp 6] K)) : Ret Tryz.prog 29 [a0, a1, a2] w K :=
  Ret_of_W (code := c29code) Tryz.func29 (by kernel_rfl) (by kernel_rfl) (of_decide_eq_true (by kernel_rfl)) h
@[go_sem] theorem go29 : goFunc Tryz.prog 29 = true := by kernel_rfl
noncomputable def c26code : Code := match Tryz.f26.body with | some c => c | none => .skip
noncomputable def c26S0 (_ : Unit) : Cmd := (.cond (.tmp 6)
  (.seq (.ops [
  ⟨some 2, .assign (.const (.string (ofL []))), 9, none⟩,
  ⟨some 3, .assign (.const (.int .i64 3)), 30, none⟩] [2, 3])
  .ret)
  (.skip [0]))
noncomputable def c26S1 (_ : Unit) : Cmd := .ret
noncomputable def c26S2 (_ : Unit) : Cmd := (.seq (.ops [
 ⟨some 7, .move (.tmp 0), 24, none⟩,
 ⟨some 8, .call ⟨.value (.func 31), #[(.tmp 7), (.const (.int .i64 0))], #[24, 3]⟩, 33, none⟩,
 ⟨some 9, .extract (.tmp 8) 0, 9, none⟩,
 ⟨some 10, .extract (.tmp 8) 1, 30, none⟩,
 ⟨some 2, .assign (.tmp 9), 9, none⟩,
 ⟨some 3, .assign (.tmp 10), 30, none⟩] [2, 3]) (sg c26S1))
noncomputable def c26 : Cmd := (.seq (.ops [
 ⟨some 2, .assign (.const (.string (ofL []))), 9, none⟩,
 ⟨some 3, .assign (.const (.int .i64 0)), 30, none⟩] [0])
 (.seq (.seq (.ops [
 ⟨some 4, .move (.tmp 0), 24, none⟩,
 ⟨some 5, .call ⟨.value (.func 32), #[(.tmp 4)], #[24]⟩, 4, none⟩,
 ⟨some 6, .unOp .not 4 (.tmp 5), 4, none⟩] [0, 6]) (sg c26S0)) (sg c26S2)))
set_option maxRecDepth 100000 in
theorem ent26 (a0 : Value) (w : World) (K : Value → World → Prop) (h : W Tryz.prog c26 [(0, a0)] w (finQ Tryz.prog [.tmp 2, .tmp 3] K)) : Ret Tryz.prog 26 [a0] w K :=
  Ret_of_W (code := c26code) Tryz.func26 (by kernel_rfl) (by kernel_rfl) (of_decide_eq_true (by kernel_rfl)) h
@[go_sem] theorem go26 : goFunc Tryz.prog 26 = true := by kernel_rfl
noncomputable def c27code : Code := match Tryz.f27.body with | some c => c | none => .skip
noncomputable def c27S0 (_ : Unit) : Cmd := (.cond (.tmp 38)
  (.seq (.ops [
  ⟨some 39, .move (.tmp 8), 3, none⟩,
  ⟨some 6, .assign (.tmp 39), 3, none⟩,
  ⟨some 7, .assign (.const (.bool true)), 4, none⟩] [6, 7])
  .ret)
  (.skip [0, 2, 8]))
noncomputable def c27S1 (_ : Unit) : Cmd := (.seq (.ops [
 ⟨some 35, .move (.tmp 0), 9, none⟩,
 ⟨some 36, .move (.tmp 8), 3, none⟩,
 ⟨some 37, .call ⟨.value (.func 38), #[(.tmp 35), (.tmp 36)], #[9, 3]⟩, 4, none⟩,
 ⟨some 38, .unOp .not 4 (.tmp 37), 4, none⟩] [0, 2, 8, 38]) (sg c27S0))
noncomputable def c27S2 (_ : Unit) : Cmd := (.ops [
 ⟨some 21, .move (.tmp 8), 3, none⟩,
 ⟨some 22, .binOp .add 3 (.tmp 21) (.const (.int .i64 1)) 3, 3, none⟩,
 ⟨some 8, .assign (.tmp 22), 3, none⟩] [0, 2, 8])
noncomputable def c27S3 (_ : Unit) : Cmd := (.seq (.block 1 (.seq (.seq (.ops [
 ⟨some 23, .move (.tmp 8), 3, none⟩,
 ⟨some 24, .binOp .rem 3 (.tmp 23) (.const (.int .i64 8)) 3, 3, none⟩,
 ⟨some 25, .binOp .eql 3 (.tmp 24) (.const (.int .i64 0)) 3, 4, none⟩,
 ⟨some 26, .move (.tmp 25), 4, none⟩,
 ⟨some 27, .move (.tmp 0), 9, (some (26, true))⟩,
 ⟨some 28, .move (.tmp 8), 3, (some (26, true))⟩,
 ⟨some 29, .binOp .quo 3 (.tmp 28) (.const (.int .i64 8)) 3, 3, (some (26, true))⟩,
 ⟨some 30, .index 9 (.tmp 27) (.tmp 29), 5, (some (26, true))⟩,
 ⟨some 31, .binOp .eql 5 (.tmp 30) (.const (.int .u8 255)) 5, 4, (some (26, true))⟩,
 ⟨some 32, .pick (.tmp 26) (.tmp 31) (.const (.bool false)), 4, none⟩] [0, 2, 8, 32])
 (.cond (.tmp 32)
  (.seq (.ops [
  ⟨some 33, .move (.tmp 8), 3, none⟩,
  ⟨some 34, .binOp .add 3 (.tmp 33) (.const (.int .i64 7)) 3, 3, none⟩,
  ⟨some 8, .assign (.tmp 34), 3, none⟩] [0, 2, 8])
  (.exit 1 [0, 2, 8]))
  (.skip [0, 2, 8]))) (sg c27S1))) (sg c27S2))
noncomputable def c27L0 (_ : Unit) : Cmd := (.seq (.seq (.ops [
 ⟨some 11, .move (.tmp 8), 3, none⟩,
 ⟨some 12, .move (.tmp 2), 3, none⟩,
 ⟨some 13, .binOp .lss 3 (.tmp 11) (.tmp 12) 3, 4, none⟩,
 ⟨some 14, .move (.tmp 13), 4, none⟩,
 ⟨some 15, .move (.tmp 8), 3, (some (14, true))⟩,
 ⟨some 16, .binOp .quo 3 (.tmp 15) (.const (.int .i64 8)) 3, 3, (some (14, true))⟩,
 ⟨some 17, .move (.tmp 0), 9, (some (14, true))⟩,
 ⟨some 18, .call ⟨.builtin .len, #[(.tmp 17)], #[9]⟩, 3, (some (14, true))⟩,
 ⟨some 19, .binOp .lss 3 (.tmp 16) (.tmp 18) 3, 4, (some (14, true))⟩,
 ⟨some 20, .pick (.tmp 14) (.tmp 19) (.const (.bool false)), 4, none⟩] [0, 2, 8, 20])
 (.cond (.tmp 20)
  (.skip [0, 2, 8])
  (.exit 0 []))) (sg c27S3))
noncomputable def c27S4 (_ : Unit) : Cmd := (.block 0 (.loop (sg c27L0)))
noncomputable def c27S5 (_ : Unit) : Cmd := (.seq (.ops [
 ⟨some 6, .assign (.const (.int .i64 0)), 3, none⟩,
 ⟨some 7, .assign (.const (.bool false)), 4, none⟩] [6, 7])
 .ret)
noncomputable def c27 : Cmd := (.seq (.ops [
 ⟨some 6, .assign (.const (.int .i64 0)), 3, none⟩,
 ⟨some 7, .assign (.const (.bool false)), 4, none⟩] [0, 1, 2])
 (.seq (.seq (.ops [
 ⟨some 9, .move (.tmp 1), 3, none⟩,
 ⟨some 10, .call ⟨.builtin .max, #[(.const (.int .i64 0)), (.tmp 9)], #[3, 3]⟩, 3, none⟩,
 ⟨some 8, .assign (.tmp 10), 3, none⟩] [0, 2, 8]) (sg c27S4)) (sg c27S5)))
set_option maxRecDepth 100000 in
theorem ent27 (a0 a1 a2 : Value) (w : World) (K : Value → World → Prop) (h : W Tryz.prog c27 [(0, a0), (1, a1), (2, a2)] w (finQ Tryz.prog [.tmp 6, .tmp 7] K)) : Ret Tryz.prog 27 [a0, a1, a2] w K :=
  Ret_of_W (code := c27code) Tryz.func27 (by kernel_rfl) (by kernel_rfl) (of_decide_eq_true (by kernel_rfl)) h
@[go_sem] theorem go27 : goFunc Tryz.prog 27 = true := by kernel_rfl
noncomputable def c37code : Code := match Tryz.f37.body with | some c => c | none => .skip
noncomputable def c37S0 (_ : Unit) : Cmd := (.ops [
 ⟨some 16, .binOp .add 3 (.tmp 7) (.const (.int .i64 1)) 3, 3, none⟩,
 ⟨some 7, .move (.tmp 16), 3, none⟩] [0, 3, 6, 7])
noncomputable def c37S1 (_ : Unit) : Cmd := (.seq (.block 1 (.seq (.ops [
 ⟨some 9, .move (.tmp 7), 3, none⟩,
 ⟨some 4, .assign (.tmp 9), 3, none⟩] [0, 3, 4, 6, 7])
 (.ops [
 ⟨some 10, .move (.tmp 3), 3, none⟩,
 ⟨some 11, .move (.tmp 0), 9, none⟩,
 ⟨some 12, .move (.tmp 4), 3, none⟩,
 ⟨some 13, .index 9 (.tmp 11) (.tmp 12), 5, none⟩,
 ⟨some 14, .call ⟨.value (.func 62), #[(.tmp 13)], #[5]⟩, 3, none⟩,
 ⟨some 15, .binOp .add 3 (.tmp 10) (.tmp 14) 3, 3, none⟩,
 ⟨some 3, .assign (.tmp 15), 3, none⟩] [0, 3, 6, 7]))) (sg c37S0))
noncomputable def c37L0 (_ : Unit) : Cmd := (.seq (.ops [
 ⟨some 8, .binOp .lss 3 (.tmp 7) (.tmp 6) 3, 4, none⟩] [0, 3, 6, 7, 8])
 (.seq (.cond (.tmp 8)
  (.skip [0, 3, 6, 7])
  (.exit 0 [3])) (sg c37S1)))
noncomputable def c37S2 (_ : Unit) : Cmd := (.seq (.ops [
 ⟨some 17, .move (.tmp 3), 3, none⟩,
 ⟨some 2, .assign (.tmp 17), 3, none⟩] [2])
 .ret)
noncomputable def c37 : Cmd := (.seq (.ops [
 ⟨some 2, .assign (.const (.int .i64 0)), 3, none⟩] [0])
 (.seq (.ops [
 ⟨some 3, .assign (.const (.int .i64 0)), 3, none⟩] [0, 3])
 (.seq (.seq (.ops [
 ⟨some 5, .move (.tmp 0), 9, none⟩,
 ⟨some 6, .call ⟨.builtin .len, #[(.tmp 5)], #[9]⟩, 3, none⟩,
 ⟨some 7, .move (.const (.int .i64 0)), 3, none⟩] [0, 3, 6, 7])
 (.block 0 (.loop (sg c37L0)))) (sg c37S2))))
set_option maxRecDepth 100000 in
theorem ent37 (a0 : Value) (w : World) (K : Value → World → Prop) (h : W Tryz.prog c37 [(0, a0)] w (finQ Tryz.prog [.tmp 2] K)) : Ret Tryz.prog 37 [a0] w K :=
  Ret_of_W (code := c37code) Tryz.func37 (by kernel_rfl) (by kernel_rfl) (of_decide_eq_true (by kernel_rfl)) h
@[go_sem] theorem go37 : goFunc Tryz.prog 37 = true := by kernel_rfl
noncomputable def c38code : Code := match Tryz.f38.body with | some c => c | none => .skip
noncomputable def c38 : Cmd := (.seq (.ops [
 ⟨some 4, .assign (.const (.bool false)), 4, none⟩] [0, 1])
 (.seq (.ops [
 ⟨some 5, .move (.tmp 1), 3, none⟩,
 ⟨some 6, .binOp .geq 3 (.tmp 5) (.const (.int .i64 0)) 3, 4, none⟩,
 ⟨some 7, .move (.tmp 6), 4, none⟩,
 ⟨some 8, .move (.tmp 1), 3, (some (7, true))⟩,
 ⟨some 9, .binOp .quo 3 (.tmp 8) (.const (.int .i64 8)) 3, 3, (some (7, true))⟩,
 ⟨some 10, .move (.tmp 0), 9, (some (7, true))⟩,
 ⟨some 11, .call ⟨.builtin .len, #[(.tmp 10)], #[9]⟩, 3, (some (7, true))⟩,
 ⟨some 12, .binOp .lss 3 (.tmp 9) (.tmp 11) 3, 4, (some (7, true))⟩,
 ⟨some 13, .pick (.tmp 7) (.tmp 12) (.const (.bool false)), 4, none⟩,
 ⟨some 14, .move (.tmp 13), 4, none⟩,
 ⟨some 15, .move (.tmp 0), 9, (some (14, true))⟩,
 ⟨some 16, .move (.tmp 1), 3, (some (14, true))⟩,
 ⟨some 17, .binOp .quo 3 (.tmp 16) (.const (.int .i64 8)) 3, 3, (some (14, true))⟩,
 ⟨some 18, .index 9 (.tmp 15) (.tmp 17), 5, (some (14, true))⟩,
 ⟨some 19, .move (.tmp 1), 3, (some (14, true))⟩,
 ⟨some 20, .binOp .rem 3 (.tmp 19) (.const (.int .i64 8)) 3, 3, (some (14, true))⟩,
 ⟨some 21, .convert 3 94 (.tmp 20), 94, (some (14, true))⟩,
 ⟨some 22, .binOp .shr 5 (.tmp 18) (.tmp 21) 94, 5, (some (14, true))⟩,
 ⟨some 23, .binOp .and 5 (.tmp 22) (.const (.int .u8 1)) 5, 5, (some (14, true))⟩,
 ⟨some 24, .binOp .eql 5 (.tmp 23) (.const (.int .u8 1)) 5, 4, (some (14, true))⟩,
 ⟨some 25, .pick (.tmp 14) (.tmp 24) (.const (.bool false)), 4, none⟩,
 ⟨some 4, .assign (.tmp 25), 4, none⟩] [4])
 .ret))
set_option maxRecDepth 100000 in
theorem ent38 (a0 a1 : Value) (w : World) (K : Value → World → Prop) (h : W Tryz.prog c38 [(0, a0), (1, a1)] w (finQ Tryz.prog [.tmp 4] K)) : Ret Tryz.prog 38 [a0, a1] w K :=
  Ret_of_W (code := c38code) Tryz.func38 (by kernel_rfl) (by kernel_rfl) (of_decide_eq_true (by kernel_rfl)) h
@[go_sem] theorem go38 : goFunc Tryz.prog 38 = true := by kernel_rfl
noncomputable def c30code : Code := match Tryz.f30.body with | some c => c | none => .skip
noncomputable def c30S0 (_ : Unit) : Cmd := (.cond (.tmp 32)
  (.ops [
  ⟨some 6, .assign (.const (.int .i64 6)), 30, none⟩] [6])
  (.skip [6]))
noncomputable def c30S1 (_ : Unit) : Cmd := (.seq (.ops [
 ⟨some 33, .move (.tmp 6), 30, none⟩,
 ⟨some 4, .assign (.tmp 33), 30, none⟩] [4])
 .ret)
noncomputable def c30S2 (_ : Unit) : Cmd := (.seq (.seq (.ops [
 ⟨some 12, .move (.tmp 6), 30, none⟩,
 ⟨some 13, .binOp .eql 30 (.tmp 12) (.const (.int .i64 0)) 30, 4, none⟩,
 ⟨some 14, .move (.tmp 13), 4, none⟩,
 ⟨some 15, .move (.tmp 1), 3, (some (14, true))⟩,
 ⟨some 16, .binOp .lss 3 (.tmp 15) (.const (.int .i64 2)) 3, 4, (some (14, true))⟩,
 ⟨some 17, .move (.tmp 16), 4, (some (14, true))⟩,
 ⟨some 18, .move (.tmp 1), 3, (some (17, false))⟩,
 ⟨some 19, .move (.tmp 0), 24, (some (17, false))⟩,
 ⟨some 20, .nilCheck (.tmp 19), 0, (some (17, false))⟩,
 ⟨some 21, .fieldAddr 28 (.tmp 20) 0, 0, (some (17, false))⟩,
 ⟨some 22, .load 25 (.tmp 21), 25, (some (17, false))⟩,
 ⟨some 23, .call ⟨.value (.func 23), #[(.tmp 22)], #[25]⟩, 3, (some (17, false))⟩,
 ⟨some 24, .binOp .geq 3 (.tmp 18) (.tmp 23) 3, 4, (some (17, false))⟩,
 ⟨some 25, .pick (.tmp 17) (.const (.bool true)) (.tmp 24), 4, (some (14, true))⟩,
 ⟨some 26, .move (.tmp 25), 4, (some (14, true))⟩,
 ⟨some 27, .move (.tmp 5), 9, (some (26, false))⟩,
 ⟨some 28, .move (.tmp 1), 3, (some (26, false))⟩,
 ⟨some 29, .call ⟨.value (.func 38), #[(.tmp 27), (.tmp 28)], #[9, 3]⟩, 4, (some (26, false))⟩,
 ⟨some 30, .unOp .not 4 (.tmp 29), 4, (some (26, false))⟩,
 ⟨some 31, .pick (.tmp 26) (.const (.bool true)) (.tmp 30), 4, (some (14, true))⟩,
 ⟨some 32, .pick (.tmp 14) (.tmp 31) (.const (.bool false)), 4, none⟩] [6, 32]) (sg c30S0)) (sg c30S1))
noncomputable def c30 : Cmd := (.seq (.ops [
 ⟨some 4, .assign (.const (.int .i64 0)), 30, none⟩] [0, 1])
 (.seq (.ops [
 ⟨some 8, .move (.tmp 0), 24, none⟩,
 ⟨some 9, .call ⟨.value (.func 26), #[(.tmp 8)], #[24]⟩, 33, none⟩,
 ⟨some 7, .move (.tmp 9), 33, none⟩,
 ⟨some 10, .extract (.tmp 7) 0, 9, none⟩,
 ⟨some 11, .extract (.tmp 7) 1, 30, none⟩,
 ⟨some 5, .assign (.tmp 10), 9, none⟩,
 ⟨some 6, .assign (.tmp 11), 30, none⟩] [0, 1, 5, 6]) (sg c30S2)))
set_option maxRecDepth 100000 in
theorem ent30 (a0 a1 : Value) (w : World) (K : Value → World → Prop) (h : W Tryz.prog c30 [(0, a0), (1, a1)] w (finQ Tryz.prog [.tmp 4] K)) : Ret Tryz.prog 30 [a0, a1] w K :=
  Ret_of_W (code := c30code) Tryz.func30 (by kernel_rfl) (by kernel_rfl) (of_decide_eq_true (by kernel_rfl)) h
@[go_sem] theorem go30 : goFunc Tryz.prog 30 = true := by kernel_rfl
noncomputable def c31code : Code := match Tryz.f31.body with | some c => c | none => .skip
noncomputable def c31S0 (_ : Unit) : Cmd := (.seq (.ops [
 ⟨some 19, .move (.tmp 7), 4, none⟩] [0, 1, 6, 19])
 (.cond (.tmp 19)
  (.seq (.ops [
  ⟨some 20, .move (.tmp 6), 9, none⟩,
  ⟨some 4, .assign (.tmp 20), 9, none⟩,
  ⟨some 5, .assign (.const (.int .i64 0)), 30, none⟩] [4, 5])
  .ret)
  (.skip [0, 1])))
noncomputable def c31S1 (_ : Unit) : Cmd := (.seq (.ops [
 ⟨some 39, .move (.tmp 8), 9, none⟩,
 ⟨some 40, .move (.tmp 9), 30, none⟩,
 ⟨some 4, .assign (.tmp 39), 9, none⟩,
 ⟨some 5, .assign (.tmp 40), 30, none⟩] [4, 5])
 .ret)
noncomputable def c31S2 (_ : Unit) : Cmd := (.seq (.seq (.ops [
 ⟨some 30, .move (.tmp 9), 30, none⟩,
 ⟨some 31, .binOp .eql 30 (.tmp 30) (.const (.int .i64 0)) 30, 4, none⟩] [0, 1, 8, 9, 31])
 (.cond (.tmp 31)
  (.ops [
  ⟨some 32, .move (.tmp 0), 24, none⟩,
  ⟨some 33, .nilCheck (.tmp 32), 0, none⟩,
  ⟨some 34, .fieldAddr 28 (.tmp 33) 1, 0, none⟩,
  ⟨some 35, .load 26 (.tmp 34), 26, none⟩,
  ⟨some 36, .move (.tmp 1), 3, none⟩,
  ⟨some 37, .move (.tmp 8), 9, none⟩,
  ⟨some 38, .call ⟨.value (.func 60), #[(.tmp 35), (.tmp 36), (.tmp 37)], #[26, 3, 9]⟩, 109, none⟩] [8, 9])
  (.skip [8, 9]))) (sg c31S1))
noncomputable def c31S3 (_ : Unit) : Cmd := (.seq (.ops [
 ⟨some 22, .move (.tmp 0), 24, none⟩,
 ⟨some 23, .nilCheck (.tmp 22), 0, none⟩,
 ⟨some 24, .fieldAddr 28 (.tmp 23) 0, 0, none⟩,
 ⟨some 25, .load 25 (.tmp 24), 25, none⟩,
 ⟨some 26, .move (.tmp 1), 3, none⟩,
 ⟨some 27, .call ⟨.value (.func 24), #[(.tmp 25), (.tmp 26)], #[25, 3]⟩, 33, none⟩,
 ⟨some 21, .move (.tmp 27), 33, none⟩,
 ⟨some 28, .extract (.tmp 21) 0, 9, none⟩,
 ⟨some 29, .extract (.tmp 21) 1, 30, none⟩,
 ⟨some 8, .assign (.tmp 28), 9, none⟩,
 ⟨some 9, .assign (.tmp 29), 30, none⟩] [0, 1, 8, 9]) (sg c31S2))
noncomputable def c31 : Cmd := (.seq (.ops [
 ⟨some 4, .assign (.const (.string (ofL []))), 9, none⟩,
 ⟨some 5, .assign (.const (.int .i64 0)), 30, none⟩] [0, 1])
 (.seq (.seq (.ops [
 ⟨some 11, .move (.tmp 0), 24, none⟩,
 ⟨some 12, .nilCheck (.tmp 11), 0, none⟩,
 ⟨some 13, .fieldAddr 28 (.tmp 12) 1, 0, none⟩,
 ⟨some 14, .load 26 (.tmp 13), 26, none⟩,
 ⟨some 15, .move (.tmp 1), 3, none⟩,
 ⟨some 16, .call ⟨.value (.func 59), #[(.tmp 14), (.tmp 15)], #[26, 3]⟩, 66, none⟩,
 ⟨some 10, .move (.tmp 16), 66, none⟩,
 ⟨some 17, .extract (.tmp 10) 0, 9, none⟩,
 ⟨some 18, .extract (.tmp 10) 1, 4, none⟩,
 ⟨some 6, .assign (.tmp 17), 9, none⟩,
 ⟨some 7, .assign (.tmp 18), 4, none⟩] [0, 1, 6, 7]) (sg c31S0)) (sg c31S3)))
set_option maxRecDepth 100000 in
theorem ent31 (a0 a1 : Value) (w : World) (K : Value → World → Prop) (h : W Tryz.prog c31 [(0, a0), (1, a1)] w (finQ Tryz.prog [.tmp 4, .tmp 5] K)) : Ret Tryz.prog 31 [a0, a1] w K :=
  Ret_of_W (code := c31code) Tryz.func31 (by kernel_rfl) (by kernel_rfl) (of_decide_eq_true (by kernel_rfl)) h
@[go_sem] theorem go31 : goFunc Tryz.prog 31 = true := by kernel_rfl
noncomputable def c36code : Code := match Tryz.f36.body with | some c => c | none => .skip
noncomputable def c36S0 (_ : Unit) : Cmd := (.ops [
 ⟨some 23, .binOp .add 3 (.tmp 11) (.const (.int .i64 1)) 3, 3, none⟩,
 ⟨some 11, .move (.tmp 23), 3, none⟩] [0, 5, 10, 11])
noncomputable def c36S1 (_ : Unit) : Cmd := (.seq (.block 1 (.seq (.ops [
 ⟨some 13, .move (.tmp 11), 3, none⟩,
 ⟨some 6, .assign (.tmp 13), 3, none⟩] [0, 5, 6, 10, 11])
 (.ops [
 ⟨some 14, .move (.tmp 5), 106, none⟩,
 ⟨some 15, .move (.tmp 0), 58, none⟩,
 ⟨some 16, .move (.tmp 6), 3, none⟩,
 ⟨some 17, .binOp .mul 3 (.const (.int .i64 8)) (.tmp 16) 3, 3, none⟩,
 ⟨some 18, .convert 3 94 (.tmp 17), 94, none⟩,
 ⟨some 19, .binOp .shr 58 (.tmp 15) (.tmp 18) 94, 58, none⟩,
 ⟨some 20, .convert 58 5 (.tmp 19), 5, none⟩,
 ⟨some 21, .buildSlice 106 1 #[(0, (.tmp 20))], 106, none⟩,
 ⟨some 22, .call ⟨.builtin .append, #[(.tmp 14), (.tmp 21)], #[106, 106]⟩, 106, none⟩,
 ⟨some 5, .assign (.tmp 22), 106, none⟩] [0, 5, 10, 11]))) (sg c36S0))
noncomputable def c36L0 (_ : Unit) : Cmd := (.seq (.ops [
 ⟨some 12, .binOp .lss 3 (.tmp 11) (.tmp 10) 3, 4, none⟩] [0, 5, 10, 11, 12])
 (.seq (.cond (.tmp 12)
  (.skip [0, 5, 10, 11])
  (.exit 0 [5])) (sg c36S1)))
noncomputable def c36S2 (_ : Unit) : Cmd := (.block 0 (.loop (sg c36L0)))
noncomputable def c36S3 (_ : Unit) : Cmd := (.seq (.ops [
 ⟨some 24, .move (.tmp 5), 106, none⟩,
 ⟨some 25, .convert 106 9 (.tmp 24), 9, none⟩,
 ⟨some 4, .assign (.tmp 25), 9, none⟩] [4])
 .ret)
noncomputable def c36 : Cmd := (.seq (.ops [
 ⟨some 4, .assign (.const (.string (ofL []))), 9, none⟩] [0, 1])
 (.seq (.ops [
 ⟨some 7, .makeSlice 106 (.const (.int .i64 0)) (.const (.int .i64 8)), 106, none⟩,
 ⟨some 5, .assign (.tmp 7), 106, none⟩] [0, 1, 5])
 (.seq (.seq (.ops [
 ⟨some 8, .move (.tmp 1), 3, none⟩,
 ⟨some 9, .call ⟨.builtin .min, #[(.tmp 8), (.const (.int .i64 8))], #[3, 3]⟩, 3, none⟩,
 ⟨some 10, .call ⟨.builtin .max, #[(.const (.int .i64 0)), (.tmp 9)], #[3, 3]⟩, 3, none⟩,
 ⟨some 11, .move (.const (.int .i64 0)), 3, none⟩] [0, 5, 10, 11]) (sg c36S2)) (sg c36S3))))
set_option maxRecDepth 100000 in
theorem ent36 (a0 a1 : Value) (w : World) (K : Value → World → Prop) (h : W Tryz.prog c36 [(0, a0), (1, a1)] w (finQ Tryz.prog [.tmp 4] K)) : Ret Tryz.prog 36 [a0, a1] w K :=
  Ret_of_W (code := c36code) Tryz.func36 (by kernel_rfl) (by kernel_rfl) (of_decide_eq_true (by kernel_rfl)) h
@[go_sem] theorem go36 : goFunc Tryz.prog 36 = true := by kernel_rfl
noncomputable def c33code : Code := match Tryz.f33.body with | some c => c | none => .skip
noncomputable def c33S0 (_ : Unit) : Cmd := (.seq (.block 1 (.seq (.ops [
 ⟨some 10, .move (.tmp 8), 3, none⟩,
 ⟨some 4, .assign (.tmp 10), 3, none⟩] [0, 3, 4, 7, 8])
 (.ops [
 ⟨some 11, .move (.tmp 3), 58, none⟩,
 ⟨some 12, .move (.tmp 0), 9, none⟩,
 ⟨some 13, .move (.tmp 4), 3, none⟩,
 ⟨some 14, .index 9 (.tmp 12) (.tmp 13), 5, none⟩,
 ⟨some 15, .convert 5 58 (.tmp 14), 58, none⟩,
 ⟨some 16, .move (.tmp 4), 3, none⟩,
 ⟨some 17, .binOp .mul 3 (.const (.int .i64 8)) (.tmp 16) 3, 3, none⟩,
 ⟨some 18, .convert 3 94 (.tmp 17), 94, none⟩,
 ⟨some 19, .binOp .shl 58 (.tmp 15) (.tmp 18) 94, 58, none⟩,
 ⟨some 20, .binOp .or 58 (.tmp 11) (.tmp 19) 58, 58, none⟩,
 ⟨some 3, .assign (.tmp 20), 58, none⟩] [0, 3, 7, 8])))
 (.ops [
 ⟨some 21, .binOp .add 3 (.tmp 8) (.const (.int .i64 1)) 3, 3, none⟩,
 ⟨some 8, .move (.tmp 21), 3, none⟩] [0, 3, 7, 8]))
noncomputable def c33L0 (_ : Unit) : Cmd := (.seq (.ops [
 ⟨some 9, .binOp .lss 3 (.tmp 8) (.tmp 7) 3, 4, none⟩] [0, 3, 7, 8, 9])
 (.seq (.cond (.tmp 9)
  (.skip [0, 3, 7, 8])
  (.exit 0 [3])) (sg c33S0)))
noncomputable def c33S1 (_ : Unit) : Cmd := (.block 0 (.loop (sg c33L0)))
noncomputable def c33S2 (_ : Unit) : Cmd := (.seq (.ops [
 ⟨some 22, .move (.tmp 3), 58, none⟩,
 ⟨some 2, .assign (.tmp 22), 58, none⟩] [2])
 .ret)
noncomputable def c33 : Cmd := (.seq (.ops [
 ⟨some 2, .assign (.const (.int .u64 0)), 58, none⟩] [0])
 (.seq (.ops [
 ⟨some 3, .assign (.const (.int .u64 0)), 58, none⟩] [0, 3])
 (.seq (.seq (.ops [
 ⟨some 5, .move (.tmp 0), 9, none⟩,
 ⟨some 6, .call ⟨.builtin .len, #[(.tmp 5)], #[9]⟩, 3, none⟩,
 ⟨some 7, .call ⟨.builtin .min, #[(.tmp 6), (.const (.int .i64 8))], #[3, 3]⟩, 3, none⟩,
 ⟨some 8, .move (.const (.int .i64 0)), 3, none⟩] [0, 3, 7, 8]) (sg c33S1)) (sg c33S2))))
set_option maxRecDepth 100000 in
theorem ent33 (a0 : Value) (w : World) (K : Value → World → Prop) (h : W Tryz.prog c33 [(0, a0)] w (finQ Tryz.prog [.tmp 2] K)) : Ret Tryz.prog 33 [a0] w K :=
  Ret_of_W (code := c33code) Tryz.func33 (by kernel_rfl) (by kernel_rfl) (of_decide_eq_true (by kernel_rfl)) h
@[go_sem] theorem go33 : goFunc Tryz.prog 33 = true := by kernel_rfl
noncomputable def c56code : Code := match Tryz.f56.body with | some c => c | none => .skip
noncomputable def c56S0 (_ : Unit) : Cmd := (.seq (.ops [
 ⟨some 4, .assign (.const (.int .i64 0)), 30, none⟩] [4])
 .ret)
noncomputable def c56 : Cmd := (.seq (.ops [
 ⟨some 4, .assign (.const (.int .i64 0)), 30, none⟩] [0, 1])
 (.seq (.block 0 (.seq (.ops [
 ⟨some 6, .move (.tmp 0), 25, none⟩,
 ⟨some 7, .binOp .eql 25 (.tmp 6) (.const (.pointer none)) 25, 4, none⟩,
 ⟨some 8, .move (.tmp 7), 4, none⟩,
 ⟨some 9, .move (.tmp 0), 25, (some (8, false))⟩,
 ⟨some 10, .nilCheck (.tmp 9), 0, (some (8, false))⟩,
 ⟨some 11, .fieldAddr 101 (.tmp 10) 0, 0, (some (8, false))⟩,
 ⟨some 12, .load 46 (.tmp 11), 46, (some (8, false))⟩,
 ⟨some 13, .binOp .eql 46 (.tmp 12) (.const (.pointer none)) 46, 4, (some (8, false))⟩,
 ⟨some 14, .pick (.tmp 8) (.const (.bool true)) (.tmp 13), 4, none⟩,
 ⟨some 5, .assign (.tmp 14), 4, none⟩] [0, 1, 5])
 (.cond (.tmp 5)
  (.seq (.ops [
  ⟨some 4, .assign (.const (.int .i64 3)), 30, none⟩] [4])
  .ret)
  (.seq (.ops [
  ⟨some 16, .move (.tmp 0), 25, none⟩,
  ⟨some 17, .nilCheck (.tmp 16), 0, none⟩,
  ⟨some 18, .fieldAddr 101 (.tmp 17) 3, 0, none⟩,
  ⟨some 19, .load 4 (.tmp 18), 4, none⟩,
  ⟨some 15, .assign (.tmp 19), 4, none⟩] [0, 1, 15])
  (.cond (.tmp 15)
   (.seq (.ops [
   ⟨some 4, .assign (.const (.int .i64 11)), 30, none⟩] [4])
   .ret)
   (.seq (.ops [
   ⟨some 21, .move (.tmp 1), 3, none⟩,
   ⟨some 22, .binOp .lss 3 (.tmp 21) (.const (.int .i64 0)) 3, 4, none⟩,
   ⟨some 23, .move (.tmp 22), 4, none⟩,
   ⟨some 24, .move (.tmp 1), 3, (some (23, false))⟩,
   ⟨some 25, .move (.tmp 0), 25, (some (23, false))⟩,
   ⟨some 26, .nilCheck (.tmp 25), 0, (some (23, false))⟩,
   ⟨some 27, .fieldAddr 101 (.tmp 26) 1, 0, (some (23, false))⟩,
   ⟨some 28, .fieldAddr 96 (.tmp 27) 3, 0, (some (23, false))⟩,
   ⟨some 29, .load 3 (.tmp 28), 3, (some (23, false))⟩,
   ⟨some 30, .binOp .geq 3 (.tmp 24) (.tmp 29) 3, 4, (some (23, false))⟩,
   ⟨some 31, .pick (.tmp 23) (.const (.bool true)) (.tmp 30), 4, none⟩,
   ⟨some 20, .assign (.tmp 31), 4, none⟩] [20])
   (.cond (.tmp 20)
    (.seq (.ops [
    ⟨some 4, .assign (.const (.int .i64 10)), 30, none⟩] [4])
    .ret)
    (.skip [])))))))) (sg c56S0)))
set_option maxRecDepth 100000 in
theorem ent56 (a0 a1 : Value) (w : World) (K : Value → World → Prop) (h : W Tryz.prog c56 [(0, a0), (1, a1)] w (finQ Tryz.prog [.tmp 4] K)) : Ret Tryz.prog 56 [a0, a1] w K :=
  Ret_of_W (code := c56code) Tryz.func56 (by kernel_rfl) (by kernel_rfl) (of_decide_eq_true (by kernel_rfl)) h
@[go_sem] theorem go56 : goFunc Tryz.prog 56 = true := by kernel_rfl
noncomputable def c52code : Code := match Tryz.f52.body with | some c => c | none => .skip
noncomputable def c52S0 (_ : Unit) : Cmd := (.seq (.ops [
 ⟨some 70, .move (.tmp 10), 4, none⟩,
 ⟨some 71, .move (.tmp 70), 4, none⟩,
 ⟨some 72, .move (.tmp 11), 4, (some (71, true))⟩,
 ⟨some 73, .pick (.tmp 71) (.tmp 72) (.const (.bool false)), 4, none⟩,
 ⟨some 74, .move (.tmp 73), 4, none⟩,
 ⟨some 75, .fieldAddr 96 (.tmp 9) 0, 0, (some (74, true))⟩,
 ⟨some 76, .load 58 (.tmp 75), 58, (some (74, true))⟩,
 ⟨some 77, .fieldAddr 96 (.tmp 4) 0, 0, (some (74, true))⟩,
 ⟨some 78, .load 58 (.tmp 77), 58, (some (74, true))⟩,
 ⟨some 79, .binOp .gtr 58 (.tmp 76) (.tmp 78) 58, 4, (some (74, true))⟩,
 ⟨some 80, .pick (.tmp 74) (.tmp 79) (.const (.bool false)), 4, none⟩,
 ⟨some 81, .move (.tmp 80), 4, none⟩,
 ⟨some 82, .fieldAddr 96 (.tmp 9) 0, 0, (some (81, true))⟩,
 ⟨some 83, .load 58 (.tmp 82), 58, (some (81, true))⟩,
 ⟨some 84, .binOp .rem 58 (.tmp 83) (.const (.int .u64 2)) 58, 58, (some (81, true))⟩,
 ⟨some 85, .convert 58 3 (.tmp 84), 3, (some (81, true))⟩,
 ⟨some 86, .move (.tmp 6), 3, (some (81, true))⟩,
 ⟨some 87, .binOp .eql 3 (.tmp 85) (.tmp 86) 3, 4, (some (81, true))⟩,
 ⟨some 88, .pick (.tmp 81) (.tmp 87) (.const (.bool false)), 4, none⟩] [0, 2, 4, 5, 9, 12, 88])
 (.cond (.tmp 88)
  (.ops [
  ⟨some 89, .load 96 (.tmp 9), 96, none⟩,
  ⟨none, .store 96 (.tmp 4) (.tmp 89), 0, none⟩,
  ⟨some 5, .assign (.const (.bool true)), 4, none⟩] [0, 2, 4, 5, 12])
  (.skip [0, 2, 4, 5, 12])))
noncomputable def c52S1 (_ : Unit) : Cmd := (.seq (.draw (drawOps 0 c52code) [0, 2, 4, 5, 6, 9, 10, 11, 12]) (sg c52S0))
noncomputable def c52S2 (_ : Unit) : Cmd := (.seq (.ops [
 ⟨some 28, .move (.tmp 7), 9, none⟩,
 ⟨some 29, .call ⟨.value (.func 77), #[(.tmp 28)], #[9]⟩, 127, none⟩,
 ⟨some 27, .move (.tmp 29), 127, none⟩,
 ⟨some 30, .extract (.tmp 27) 0, 96, none⟩,
 ⟨some 31, .extract (.tmp 27) 1, 4, none⟩,
 ⟨some 9, .alloc 96, 0, none⟩,
 ⟨none, .store 96 (.tmp 9) (.tmp 30), 0, none⟩,
 ⟨some 10, .assign (.tmp 31), 4, none⟩] [0, 2, 4, 5, 6, 9, 10, 12]) (sg c52S1))
noncomputable def c52S3 (_ : Unit) : Cmd := (.seq (.seq (.ops [
 ⟨some 23, .move (.tmp 8), 30, none⟩,
 ⟨some 24, .binOp .neq 30 (.tmp 23) (.const (.int .i64 0)) 30, 4, none⟩] [0, 2, 4, 5, 6, 7, 8, 12, 24])
 (.cond (.tmp 24)
  (.seq (.ops [
  ⟨some 25, .load 96 (.tmp 4), 96, none⟩,
  ⟨some 26, .move (.tmp 8), 30, none⟩,
  ⟨none, .store 96 (.tmp 2) (.tmp 25), 0, none⟩,
  ⟨some 3, .assign (.tmp 26), 30, none⟩] [2, 3])
  .ret)
  (.skip [0, 2, 4, 5, 6, 7, 12]))) (sg c52S2))
noncomputable def c52S4 (_ : Unit) : Cmd := (.seq (.seq (.ops [
 ⟨some 21, .move (.tmp 8), 30, none⟩,
 ⟨some 22, .binOp .eql 30 (.tmp 21) (.const (.int .i64 10)) 30, 4, none⟩] [0, 2, 4, 5, 6, 7, 8, 12, 22])
 (.cond (.tmp 22)
  (.exit 1 [0, 2, 4, 5, 12])
  (.skip [0, 2, 4, 5, 6, 7, 8, 12]))) (sg c52S3))
noncomputable def c52S5 (_ : Unit) : Cmd := (.ops [
 ⟨some 90, .binOp .add 3 (.tmp 12) (.const (.int .i64 1)) 3, 3, none⟩,
 ⟨some 12, .move (.tmp 90), 3, none⟩] [0, 2, 4, 5, 12])
noncomputable def c52S6 (_ : Unit) : Cmd := (.seq (.block 1 (.seq (.ops [
 ⟨some 14, .move (.tmp 12), 3, none⟩,
 ⟨some 6, .assign (.tmp 14), 3, none⟩] [0, 2, 4, 5, 6, 12])
 (.seq (.ops [
 ⟨some 16, .move (.tmp 0), 46, none⟩,
 ⟨some 17, .move (.tmp 6), 3, none⟩,
 ⟨some 18, .call ⟨.value (.func 53), #[(.tmp 16), (.tmp 17)], #[46, 3]⟩, 33, none⟩,
 ⟨some 15, .move (.tmp 18), 33, none⟩,
 ⟨some 19, .extract (.tmp 15) 0, 9, none⟩,
 ⟨some 20, .extract (.tmp 15) 1, 30, none⟩,
 ⟨some 7, .assign (.tmp 19), 9, none⟩,
 ⟨some 8, .assign (.tmp 20), 30, none⟩] [0, 2, 4, 5, 6, 7, 8, 12]) (sg c52S4)))) (sg c52S5))
noncomputable def c52L0 (_ : Unit) : Cmd := (.seq (.ops [
 ⟨some 13, .binOp .lss 3 (.tmp 12) (.const (.int .i64 2)) 3, 4, none⟩] [0, 2, 4, 5, 12, 13])
 (.seq (.cond (.tmp 13)
  (.skip [0, 2, 4, 5, 12])
  (.exit 0 [2, 4, 5])) (sg c52S6)))
noncomputable def c52S7 (_ : Unit) : Cmd := (.seq (.ops [
 ⟨some 94, .load 96 (.tmp 4), 96, none⟩,
 ⟨none, .store 96 (.tmp 2) (.tmp 94), 0, none⟩,
 ⟨some 3, .assign (.const (.int .i64 0)), 30, none⟩] [2, 3])
 .ret)
noncomputable def c52S8 (_ : Unit) : Cmd := (.seq (.seq (.ops [
 ⟨some 91, .move (.tmp 5), 4, none⟩,
 ⟨some 92, .unOp .not 4 (.tmp 91), 4, none⟩] [2, 4, 92])
 (.cond (.tmp 92)
  (.seq (.ops [
  ⟨some 93, .load 96 (.tmp 4), 96, none⟩,
  ⟨none, .store 96 (.tmp 2) (.tmp 93), 0, none⟩,
  ⟨some 3, .assign (.const (.int .i64 14)), 30, none⟩] [2, 3])
  .ret)
  (.skip [2, 4]))) (sg c52S7))
noncomputable def c52 : Cmd := (.seq (.ops [
 ⟨some 2, .alloc 96, 0, none⟩,
 ⟨some 3, .assign (.const (.int .i64 0)), 30, none⟩] [0, 2])
 (.seq (.ops [
 ⟨some 4, .alloc 96, 0, none⟩] [0, 2, 4])
 (.seq (.ops [
 ⟨some 5, .assign (.const (.bool false)), 4, none⟩] [0, 2, 4, 5])
 (.seq (.seq (.ops [
 ⟨some 12, .move (.const (.int .i64 0)), 3, none⟩] [0, 2, 4, 5, 12])
 (.block 0 (.loop (sg c52L0)))) (sg c52S8)))))
noncomputable def c52D0 : List (Nat × Ins) := [
 (0, ⟨some 32, .fieldAddr 96 (.tmp 9) 2, 0, none⟩),
 (2, ⟨some 33, .load 3 (.tmp 32), 3, none⟩),
 (0, ⟨some 34, .binOp .geq 3 (.tmp 33) (.const (.int .i64 1)) 3, 4, none⟩),
 (0, ⟨some 35, .move (.tmp 34), 4, none⟩),
 (0, ⟨some 36, .fieldAddr 96 (.tmp 9) 3, 0, (some (35, true))⟩),
 (2, ⟨some 37, .load 3 (.tmp 36), 3, (some (35, true))⟩),
 (0, ⟨some 38, .binOp .geq 3 (.tmp 37) (.const (.int .i64 1)) 3, 4, (some (35, true))⟩),
 (0, ⟨some 39, .pick (.tmp 35) (.tmp 38) (.const (.bool false)), 4, none⟩),
 (0, ⟨some 40, .move (.tmp 39), 4, none⟩),
 (0, ⟨some 41, .fieldAddr 96 (.tmp 9) 3, 0, (some (40, true))⟩),
 (2, ⟨some 42, .load 3 (.tmp 41), 3, (some (40, true))⟩),
 (0, ⟨some 43, .binOp .leq 3 (.tmp 42) (.const (.int .i64 1024)) 3, 4, (some (40, true))⟩),
 (0, ⟨some 44, .pick (.tmp 40) (.tmp 43) (.const (.bool false)), 4, none⟩),
 (0, ⟨some 45, .move (.tmp 44), 4, none⟩),
 (0, ⟨some 46, .fieldAddr 96 (.tmp 9) 1, 0, (some (45, true))⟩),
 (0, ⟨some 48, .fieldAddr 96 (.tmp 9) 2, 0, (some (45, true))⟩),
 (1, ⟨some 47, .load 3 (.tmp 46), 3, (some (45, true))⟩),
 (2, ⟨some 49, .load 3 (.tmp 48), 3, (some (45, true))⟩),
 (0, ⟨some 50, .binOp .leq 3 (.tmp 47) (.tmp 49) 3, 4, (some (45, true))⟩),
 (0, ⟨some 51, .pick (.tmp 45) (.tmp 50) (.const (.bool false)), 4, none⟩),
 (0, ⟨some 52, .move (.tmp 51), 4, none⟩),
 (0, ⟨some 53, .fieldAddr 96 (.tmp 9) 2, 0, (some (52, true))⟩),
 (0, ⟨some 55, .move (.tmp 0), 46, (some (52, true))⟩),
 (1, ⟨some 54, .load 3 (.tmp 53), 3, (some (52, true))⟩),
 (2, ⟨some 56, .call ⟨.value (.func 69), #[(.tmp 55)], #[46]⟩, 3, (some (52, true))⟩),
 (0, ⟨some 57, .binOp .leq 3 (.tmp 54) (.tmp 56) 3, 4, (some (52, true))⟩),
 (0, ⟨some 58, .pick (.tmp 52) (.tmp 57) (.const (.bool false)), 4, none⟩),
 (0, ⟨some 59, .move (.tmp 58), 4, none⟩),
 (0, ⟨some 60, .fieldAddr 96 (.tmp 9) 2, 0, (some (59, true))⟩),
 (0, ⟨some 63, .fieldAddr 96 (.tmp 9) 3, 0, (some (59, true))⟩),
 (0, ⟨some 66, .move (.tmp 0), 46, (some (59, true))⟩),
 (1, ⟨some 61, .load 3 (.tmp 60), 3, (some (59, true))⟩),
 (0, ⟨some 62, .binOp .add 3 (.const (.int .i64 2)) (.tmp 61) 3, 3, (some (59, true))⟩),
 (1, ⟨some 64, .load 3 (.tmp 63), 3, (some (59, true))⟩),
 (0, ⟨some 65, .binOp .add 3 (.tmp 62) (.tmp 64) 3, 3, (some (59, true))⟩),
 (2, ⟨some 67, .call ⟨.value (.func 69), #[(.tmp 66)], #[46]⟩, 3, (some (59, true))⟩),
 (0, ⟨some 68, .binOp .leq 3 (.tmp 65) (.tmp 67) 3, 4, (some (59, true))⟩),
 (0, ⟨some 69, .pick (.tmp 59) (.tmp 68) (.const (.bool false)), 4, none⟩),
 (0, ⟨some 11, .assign (.tmp 69), 4, none⟩)]
theorem c52draw0 {L : List Nat} {ρ : Env} {w : World} {Q : Post} (S : World → Prop) (hS : S w.drew) (h : DG Tryz.prog S c52D0 L ρ w.drew Q) : drawW Tryz.prog (drawOps 0 c52code) L ρ w Q :=
  drawW_held [15, 22, 29, 32] [(0, 0), (2, 1), (0, 2), (0, 3), (0, 4), (2, 5), (0, 6), (0, 7), (0, 8), (0, 9), (2, 10), (0, 11), (0, 12), (0, 13), (0, 14), (0, 16), (1, 15), (2, 17), (0, 18), (0, 19), (0, 20), (0, 21), (0, 23), (1, 22), (2, 24), (0, 25), (0, 26), (0, 27), (0, 28), (0, 31), (0, 34), (1, 29), (0, 30), (1, 32), (0, 33), (2, 35), (0, 36), (0, 37), (0, 38)] c52D0 (by kernel_rfl) (by kernel_rfl) (by kernel_rfl) S hS h
set_option maxRecDepth 100000 in
theorem ent52 (a0 : Value) (w : World) (K : Value → World → Prop) (h : W Tryz.prog c52 [(0, a0)] w (finQ Tryz.prog [.cell 2 96, .tmp 3] K)) : Ret Tryz.prog 52 [a0] w K :=
  Ret_of_W (code := c52code) Tryz.func52 (by kernel_rfl) (by kernel_rfl) (of_decide_eq_true (by kernel_rfl)) h
@[go_sem] theorem go52 : goFunc Tryz.prog 52 = true := by kernel_rfl
noncomputable def c53code : Code := match Tryz.f53.body with | some c => c | none => .skip
noncomputable def c53S0 (_ : Unit) : Cmd := (.seq (.ops [
 ⟨some 13, .move (.tmp 6), 30, none⟩,
 ⟨some 14, .binOp .neq 30 (.tmp 13) (.const (.int .i64 0)) 30, 4, none⟩] [0, 1, 6, 14])
 (.cond (.tmp 14)
  (.seq (.ops [
  ⟨some 15, .move (.tmp 6), 30, none⟩,
  ⟨some 4, .assign (.const (.string (ofL []))), 9, none⟩,
  ⟨some 5, .assign (.tmp 15), 30, none⟩] [4, 5])
  .ret)
  (.skip [0, 1])))
noncomputable def c53S1 (_ : Unit) : Cmd := (.ops [
 ⟨some 38, .binOp .add 3 (.tmp 28) (.const (.int .i64 1)) 3, 3, none⟩,
 ⟨some 28, .move (.tmp 38), 3, none⟩] [1, 7, 26, 27, 28])
noncomputable def c53S2 (_ : Unit) : Cmd := (.seq (.block 1 (.seq (.ops [
 ⟨some 30, .indexAddr 89 (.tmp 26) (.tmp 28), 0, none⟩,
 ⟨some 31, .load 93 (.tmp 30), 93, none⟩,
 ⟨some 9, .alloc 93, 0, none⟩,
 ⟨none, .store 93 (.tmp 9) (.tmp 31), 0, none⟩] [1, 7, 9, 26, 27, 28])
 (.seq (.ops [
 ⟨some 32, .fieldAddr 93 (.tmp 9) 0, 0, none⟩,
 ⟨some 33, .load 3 (.tmp 32), 3, none⟩,
 ⟨some 34, .move (.tmp 1), 3, none⟩,
 ⟨some 35, .binOp .eql 3 (.tmp 33) (.tmp 34) 3, 4, none⟩] [1, 7, 9, 26, 27, 28, 35])
 (.cond (.tmp 35)
  (.ops [
  ⟨some 36, .fieldAddr 93 (.tmp 9) 1, 0, none⟩,
  ⟨some 37, .load 9 (.tmp 36), 9, none⟩,
  ⟨some 7, .assign (.tmp 37), 9, none⟩] [1, 7, 26, 27, 28])
  (.skip [1, 7, 26, 27, 28]))))) (sg c53S1))
noncomputable def c53L0 (_ : Unit) : Cmd := (.seq (.ops [
 ⟨some 29, .binOp .lss 3 (.tmp 28) (.tmp 27) 3, 0, none⟩] [1, 7, 26, 27, 28, 29])
 (.seq (.cond (.tmp 29)
  (.skip [1, 7, 26, 27, 28])
  (.exit 0 [7])) (sg c53S2)))
noncomputable def c53S3 (_ : Unit) : Cmd := (.seq (.ops [
 ⟨some 39, .move (.tmp 7), 9, none⟩,
 ⟨some 4, .assign (.tmp 39), 9, none⟩,
 ⟨some 5, .assign (.const (.int .i64 0)), 30, none⟩] [4, 5])
 .ret)
noncomputable def c53S4 (_ : Unit) : Cmd := (.seq (.ops [
 ⟨some 16, .move (.tmp 0), 46, none⟩,
 ⟨some 17, .nilCheck (.tmp 16), 0, none⟩,
 ⟨some 18, .fieldAddr 91 (.tmp 17) 0, 0, none⟩,
 ⟨some 19, .load 49 (.tmp 18), 49, none⟩,
 ⟨some 20, .move (.tmp 1), 3, none⟩,
 ⟨some 21, .indexAddr 49 (.tmp 19) (.tmp 20), 0, none⟩,
 ⟨some 22, .load 9 (.tmp 21), 9, none⟩,
 ⟨some 7, .assign (.tmp 22), 9, none⟩] [0, 1, 7])
 (.seq (.seq (.ops [
 ⟨some 23, .move (.tmp 0), 46, none⟩,
 ⟨some 24, .nilCheck (.tmp 23), 0, none⟩,
 ⟨some 25, .fieldAddr 91 (.tmp 24) 1, 0, none⟩,
 ⟨some 26, .load 89 (.tmp 25), 89, none⟩,
 ⟨some 27, .call ⟨.builtin .len, #[(.tmp 26)], #[89]⟩, 3, none⟩,
 ⟨some 28, .move (.const (.int .i64 0)), 3, none⟩] [1, 7, 26, 27, 28])
 (.block 0 (.loop (sg c53L0)))) (sg c53S3)))
noncomputable def c53 : Cmd := (.seq (.ops [
 ⟨some 4, .assign (.const (.string (ofL []))), 9, none⟩,
 ⟨some 5, .assign (.const (.int .i64 0)), 30, none⟩] [0, 1])
 (.seq (.seq (.ops [
 ⟨some 10, .move (.tmp 0), 46, none⟩,
 ⟨some 11, .move (.tmp 1), 3, none⟩,
 ⟨some 12, .call ⟨.value (.func 78), #[(.tmp 10), (.tmp 11)], #[46, 3]⟩, 30, none⟩,
 ⟨some 6, .assign (.tmp 12), 30, none⟩] [0, 1, 6]) (sg c53S0)) (sg c53S4)))
set_option maxRecDepth 100000 in
theorem ent53 (a0 a1 : Value) (w : World) (K : Value → World → Prop) (h : W Tryz.prog c53 [(0, a0), (1, a1)] w (finQ Tryz.prog [.tmp 4, .tmp 5] K)) : Ret Tryz.prog 53 [a0, a1] w K :=
  Ret_of_W (code := c53code) Tryz.func53 (by kernel_rfl) (by kernel_rfl) (of_decide_eq_true (by kernel_rfl)) h
@[go_sem] theorem go53 : goFunc Tryz.prog 53 = true := by kernel_rfl
noncomputable def c68code : Code := match Tryz.f68.body with | some c => c | none => .skip
noncomputable def c68 : Cmd := (.seq (.ops [
 ⟨some 0, .assign (.const (.string (ofL []))), 9, none⟩] [])
 (.seq (.ops [
 ⟨some 1, .makeSlice 106 (.const (.int .i64 256)) (.const (.int .i64 256)), 106, none⟩,
 ⟨some 2, .convert 106 9 (.tmp 1), 9, none⟩,
 ⟨some 0, .assign (.tmp 2), 9, none⟩] [0])
 .ret))
set_option maxRecDepth 100000 in
theorem ent68 (w : World) (K : Value → World → Prop) (h : W Tryz.prog c68 [] w (finQ Tryz.prog [.tmp 0] K)) : Ret Tryz.prog 68 [] w K :=
  Ret_of_W (code := c68code) Tryz.func68 (by kernel_rfl) (by kernel_rfl) (of_decide_eq_true (by kernel_rfl)) h
@[go_sem] theorem go68 : goFunc Tryz.prog 68 = true := by kernel_rfl
noncomputable def c69code : Code := match Tryz.f69.body with | some c => c | none => .skip
noncomputable def c69S0 (_ : Unit) : Cmd := (.seq (.ops [
 ⟨some 5, .move (.tmp 0), 46, none⟩,
 ⟨some 6, .nilCheck (.tmp 5), 0, none⟩,
 ⟨some 7, .fieldAddr 91 (.tmp 6) 0, 0, none⟩,
 ⟨some 8, .load 49 (.tmp 7), 49, none⟩,
 ⟨some 9, .call ⟨.builtin .len, #[(.tmp 8)], #[49]⟩, 3, none⟩,
 ⟨some 2, .assign (.tmp 9), 3, none⟩] [2])
 .ret)
noncomputable def c69 : Cmd := (.seq (.ops [
 ⟨some 2, .assign (.const (.int .i64 0)), 3, none⟩] [0])
 (.seq (.seq (.ops [
 ⟨some 3, .move (.tmp 0), 46, none⟩,
 ⟨some 4, .binOp .eql 46 (.tmp 3) (.const (.pointer none)) 46, 4, none⟩] [0, 4])
 (.cond (.tmp 4)
  (.seq (.ops [
  ⟨some 2, .assign (.const (.int .i64 0)), 3, none⟩] [2])
  .ret)
  (.skip [0]))) (sg c69S0)))
set_option maxRecDepth 100000 in
theorem ent69 (a0 : Value) (w : World) (K : Value → World → Prop) (h : W Tryz.prog c69 [(0, a0)] w (finQ Tryz.prog [.tmp 2] K)) : Ret Tryz.prog 69 [a0] w K :=
  Ret_of_W (code := c69code) Tryz.func69 (by kernel_rfl) (by kernel_rfl) (of_decide_eq_true (by kernel_rfl)) h
@[go_sem] theorem go69 : goFunc Tryz.prog 69 = true := by kernel_rfl
noncomputable def c70code : Code := match Tryz.f70.body with | some c => c | none => .skip
noncomputable def c70S0 (_ : Unit) : Cmd := (.seq (.ops [
 ⟨some 44, .move (.tmp 7), 30, none⟩,
 ⟨some 6, .assign (.tmp 44), 30, none⟩] [6])
 .ret)
noncomputable def c70S1 (_ : Unit) : Cmd := (.seq (.seq (.ops [
 ⟨some 22, .move (.tmp 7), 30, none⟩,
 ⟨some 23, .binOp .eql 30 (.tmp 22) (.const (.int .i64 0)) 30, 4, none⟩] [0, 1, 2, 7, 23])
 (.cond (.tmp 23)
  (.draw (drawOps 0 c70code) [7])
  (.skip [7]))) (sg c70S0))
noncomputable def c70S2 (_ : Unit) : Cmd := (.seq (.seq (.ops [
 ⟨some 18, .move (.tmp 7), 30, none⟩,
 ⟨some 19, .binOp .eql 30 (.tmp 18) (.const (.int .i64 0)) 30, 4, none⟩] [0, 1, 2, 7, 19])
 (.cond (.tmp 19)
  (.ops [
  ⟨some 20, .move (.tmp 0), 46, none⟩,
  ⟨some 21, .call ⟨.value (.func 93), #[(.tmp 20)], #[46]⟩, 30, none⟩,
  ⟨some 7, .assign (.tmp 21), 30, none⟩] [0, 1, 2, 7])
  (.skip [0, 1, 2, 7]))) (sg c70S1))
noncomputable def c70S3 (_ : Unit) : Cmd := (.seq (.seq (.ops [
 ⟨some 11, .move (.tmp 7), 30, none⟩,
 ⟨some 12, .binOp .eql 30 (.tmp 11) (.const (.int .i64 0)) 30, 4, none⟩,
 ⟨some 13, .move (.tmp 12), 4, none⟩,
 ⟨some 14, .move (.tmp 2), 9, (some (13, true))⟩,
 ⟨some 15, .call ⟨.builtin .len, #[(.tmp 14)], #[9]⟩, 3, (some (13, true))⟩,
 ⟨some 16, .binOp .gtr 3 (.tmp 15) (.const (.int .i64 256)) 3, 4, (some (13, true))⟩,
 ⟨some 17, .pick (.tmp 13) (.tmp 16) (.const (.bool false)), 4, none⟩] [0, 1, 2, 7, 17])
 (.cond (.tmp 17)
  (.ops [
  ⟨some 7, .assign (.const (.int .i64 21)), 30, none⟩] [0, 1, 2, 7])
  (.skip [0, 1, 2, 7]))) (sg c70S2))
noncomputable def c70 : Cmd := (.seq (.ops [
 ⟨some 6, .assign (.const (.int .i64 0)), 30, none⟩] [0, 1, 2])
 (.seq (.ops [
 ⟨some 8, .move (.tmp 0), 46, none⟩,
 ⟨some 9, .move (.tmp 1), 3, none⟩,
 ⟨some 10, .call ⟨.value (.func 78), #[(.tmp 8), (.tmp 9)], #[46, 3]⟩, 30, none⟩,
 ⟨some 7, .assign (.tmp 10), 30, none⟩] [0, 1, 2, 7]) (sg c70S3)))
noncomputable def c70D0 : List (Nat × Ins) := [
 (0, ⟨some 24, .move (.tmp 0), 46, none⟩),
 (0, ⟨some 25, .move (.tmp 0), 46, none⟩),
 (0, ⟨some 26, .nilCheck (.tmp 25), 0, none⟩),
 (0, ⟨some 27, .fieldAddr 91 (.tmp 26) 1, 0, none⟩),
 (0, ⟨some 29, .move (.tmp 1), 3, none⟩),
 (0, ⟨some 30, .move (.tmp 2), 9, none⟩),
 (0, ⟨some 31, .move (.tmp 0), 46, none⟩),
 (0, ⟨some 32, .nilCheck (.tmp 31), 0, none⟩),
 (0, ⟨some 33, .fieldAddr 91 (.tmp 32) 4, 0, none⟩),
 (0, ⟨some 35, .move (.tmp 2), 9, none⟩),
 (0, ⟨some 36, .call ⟨.builtin .len, #[(.tmp 35)], #[9]⟩, 3, none⟩),
 (1, ⟨some 28, .load 89 (.tmp 27), 89, none⟩),
 (2, ⟨some 34, .load 9 (.tmp 33), 9, none⟩),
 (0, ⟨some 37, .slice 9 (.tmp 34) (some (.tmp 36)) none none, 9, none⟩),
 (0, ⟨some 38, .binOp .add 9 (.tmp 30) (.tmp 37) 9, 9, none⟩),
 (2, ⟨some 39, .build 93 #[(0, (.tmp 29)), (1, (.tmp 38))], 93, none⟩),
 (2, ⟨some 40, .buildSlice 89 1 #[(0, (.tmp 39))], 89, none⟩),
 (3, ⟨some 41, .call ⟨.builtin .append, #[(.tmp 28), (.tmp 40)], #[89, 89]⟩, 89, none⟩),
 (0, ⟨some 42, .nilCheck (.tmp 24), 0, none⟩),
 (0, ⟨some 43, .fieldAddr 91 (.tmp 42) 1, 0, none⟩),
 (3, ⟨none, .store 89 (.tmp 43) (.tmp 41), 0, none⟩)]
theorem c70draw0 {L : List Nat} {ρ : Env} {w : World} {Q : Post} (S : World → Prop) (hS : S w.drew) (h : DG Tryz.prog S c70D0 L ρ w.drew Q) : drawW Tryz.prog (drawOps 0 c70code) L ρ w Q :=
  drawW_held [4] [(0, 0), (0, 1), (0, 2), (0, 3), (0, 5), (0, 6), (0, 7), (0, 8), (0, 9), (0, 11), (0, 12), (1, 4), (2, 10), (0, 13), (0, 14), (2, 15), (2, 16), (3, 17), (0, 18), (0, 19), (3, 20)] c70D0 (by kernel_rfl) (by kernel_rfl) (by kernel_rfl) S hS h
set_option maxRecDepth 100000 in
theorem ent70 (a0 a1 a2 : Value) (w : World) (K : Value → World → Prop) (h : W Tryz.prog c70 [(0, a0), (1, a1), (2, a2)] w (finQ Tryz.prog [.tmp 6] K)) : Ret Tryz.prog 70 [a0, a1, a2] w K :=
  Ret_of_W (code := c70code) Tryz.func70 (by kernel_rfl) (by kernel_rfl) (of_decide_eq_true (by kernel_rfl)) h
@[go_sem] theorem go70 : goFunc Tryz.prog 70 = true := by kernel_rfl
noncomputable def c71code : Code := match Tryz.f71.body with | some c => c | none => .skip
noncomputable def c71S0 (_ : Unit) : Cmd := (.seq (.ops [
 ⟨some 14, .move (.tmp 5), 30, none⟩,
 ⟨some 15, .binOp .neq 30 (.tmp 14) (.const (.int .i64 0)) 30, 4, none⟩] [0, 5, 15])
 (.cond (.tmp 15)
  (.seq (.ops [
  ⟨some 16, .move (.tmp 5), 30, none⟩,
  ⟨some 4, .assign (.tmp 16), 30, none⟩] [4])
  .ret)
  (.skip [0])))
noncomputable def c71S1 (_ : Unit) : Cmd := .ret
noncomputable def c71S2 (_ : Unit) : Cmd := (.seq (.ops [
 ⟨some 17, .move (.tmp 0), 46, none⟩,
 ⟨some 18, .call ⟨.value (.func 81), #[(.tmp 17)], #[46]⟩, 30, none⟩,
 ⟨some 4, .assign (.tmp 18), 30, none⟩] [4]) (sg c71S1))
noncomputable def c71 : Cmd := (.seq (.ops [
 ⟨some 3, .box 96 (.tmp 1), 0, none⟩,
 ⟨some 4, .assign (.const (.int .i64 0)), 30, none⟩] [0, 3])
 (.seq (.seq (.draw (drawOps 0 c71code) [0, 5]) (sg c71S0)) (sg c71S2)))
noncomputable def c71D0 : List (Nat × Ins) := [
 (0, ⟨some 6, .move (.tmp 0), 46, none⟩),
 (0, ⟨some 7, .fieldAddr 96 (.tmp 3) 0, 0, none⟩),
 (1, ⟨some 8, .load 58 (.tmp 7), 58, none⟩),
 (0, ⟨some 9, .binOp .rem 58 (.tmp 8) (.const (.int .u64 2)) 58, 58, none⟩),
 (0, ⟨some 10, .convert 58 3 (.tmp 9), 3, none⟩),
 (2, ⟨some 11, .load 96 (.tmp 3), 96, none⟩),
 (2, ⟨some 12, .call ⟨.value (.func 94), #[(.tmp 11)], #[96]⟩, 9, none⟩),
 (2, ⟨some 13, .call ⟨.value (.func 70), #[(.tmp 6), (.tmp 10), (.tmp 12)], #[46, 3, 9]⟩, 30, none⟩),
 (0, ⟨some 5, .assign (.tmp 13), 30, none⟩)]
theorem c71draw0 {L : List Nat} {ρ : Env} {w : World} {Q : Post} (S : World → Prop) (hS : S w.drew) (h : DG Tryz.prog S c71D0 L ρ w.drew Q) : drawW Tryz.prog (drawOps 0 c71code) L ρ w Q :=
  drawW_held [2] [(0, 0), (0, 1), (1, 2), (0, 3), (0, 4), (2, 5), (2, 6), (2, 7), (0, 8)] c71D0 (by kernel_rfl) (by kernel_rfl) (by kernel_rfl) S hS h
set_option maxRecDepth 100000 in
theorem ent71 (a0 a1 : Value) (w : World) (K : Value → World → Prop) (h : W Tryz.prog c71 [(0, a0), (1, a1)] w (finQ Tryz.prog [.tmp 4] K)) : Ret Tryz.prog 71 [a0, a1] w K :=
  Ret_of_W (code := c71code) Tryz.func71 (by kernel_rfl) (by kernel_rfl) (of_decide_eq_true (by kernel_rfl)) h
@[go_sem] theorem go71 : goFunc Tryz.prog 71 = true := by kernel_rfl
noncomputable def c41code : Code := match Tryz.f41.body with | some c => c | none => .skip
noncomputable def c41S0 (_ : Unit) : Cmd := (.seq (.ops [
 ⟨some 10, .move (.tmp 0), 3, none⟩,
 ⟨some 11, .build 123 #[(0, (.tmp 10))], 123, none⟩,
 ⟨some 12, .box 123 (.tmp 11), 26, none⟩,
 ⟨some 2, .assign (.tmp 12), 26, none⟩,
 ⟨some 3, .assign (.const (.int .i64 0)), 30, none⟩] [2, 3])
 .ret)
noncomputable def c41 : Cmd := (.seq (.ops [
 ⟨some 2, .assign (.const (.pointer none)), 26, none⟩,
 ⟨some 3, .assign (.const (.int .i64 0)), 30, none⟩] [0])
 (.seq (.seq (.ops [
 ⟨some 4, .move (.tmp 0), 3, none⟩,
 ⟨some 5, .binOp .lss 3 (.tmp 4) (.const (.int .i64 1)) 3, 4, none⟩,
 ⟨some 6, .move (.tmp 5), 4, none⟩,
 ⟨some 7, .move (.tmp 0), 3, (some (6, false))⟩,
 ⟨some 8, .binOp .gtr 3 (.tmp 7) (.const (.int .i64 1024)) 3, 4, (some (6, false))⟩,
 ⟨some 9, .pick (.tmp 6) (.const (.bool true)) (.tmp 8), 4, none⟩] [0, 9])
 (.cond (.tmp 9)
  (.seq (.ops [
  ⟨some 2, .assign (.const (.pointer none)), 26, none⟩,
  ⟨some 3, .assign (.const (.int .i64 1)), 30, none⟩] [2, 3])
  .ret)
  (.skip [0]))) (sg c41S0)))
set_option maxRecDepth 100000 in
theorem ent41 (a0 : Value) (w : World) (K : Value → World → Prop) (h : W Tryz.prog c41 [(0, a0)] w (finQ Tryz.prog [.tmp 2, .tmp 3] K)) : Ret Tryz.prog 41 [a0] w K :=
  Ret_of_W (code := c41code) Tryz.func41 (by kernel_rfl) (by kernel_rfl) (of_decide_eq_true (by kernel_rfl)) h
@[go_sem] theorem go41 : goFunc Tryz.prog 41 = true := by kernel_rfl
noncomputable def c57code : Code := match Tryz.f57.body with | some c => c | none => .skip
noncomputable def c57S0 (_ : Unit) : Cmd := (.seq (.ops [
 ⟨some 22, .move (.tmp 5), 3, none⟩,
 ⟨some 23, .binOp .geq 3 (.tmp 22) (.const (.int .i64 0)) 3, 4, none⟩,
 ⟨some 4, .assign (.tmp 23), 4, none⟩] [4])
 .ret)
noncomputable def c57S1 (_ : Unit) : Cmd := (.seq (.seq (.ops [
 ⟨some 9, .move (.tmp 5), 3, none⟩,
 ⟨some 10, .binOp .geq 3 (.tmp 9) (.const (.int .i64 0)) 3, 4, none⟩] [0, 5, 10])
 (.cond (.tmp 10)
  (.ops [
  ⟨some 11, .move (.tmp 0), 26, none⟩,
  ⟨some 12, .move (.tmp 0), 26, none⟩,
  ⟨some 13, .nilCheck (.tmp 12), 0, none⟩,
  ⟨some 14, .fieldAddr 123 (.tmp 13) 1, 0, none⟩,
  ⟨some 15, .load 121 (.tmp 14), 121, none⟩,
  ⟨some 16, .move (.tmp 5), 3, none⟩,
  ⟨some 17, .move (.tmp 5), 3, none⟩,
  ⟨some 18, .binOp .add 3 (.tmp 17) (.const (.int .i64 1)) 3, 3, none⟩,
  ⟨some 19, .call ⟨.value (.func 84), #[(.tmp 15), (.tmp 16), (.tmp 18)], #[121, 3, 3]⟩, 121, none⟩,
  ⟨some 20, .nilCheck (.tmp 11), 0, none⟩,
  ⟨some 21, .fieldAddr 123 (.tmp 20) 1, 0, none⟩,
  ⟨none, .store 121 (.tmp 21) (.tmp 19), 0, none⟩] [5])
  (.skip [5]))) (sg c57S0))
noncomputable def c57 : Cmd := (.seq (.ops [
 ⟨some 4, .assign (.const (.bool false)), 4, none⟩] [0, 1])
 (.seq (.ops [
 ⟨some 6, .move (.tmp 0), 26, none⟩,
 ⟨some 7, .move (.tmp 1), 3, none⟩,
 ⟨some 8, .call ⟨.value (.func 83), #[(.tmp 6), (.tmp 7)], #[26, 3]⟩, 3, none⟩,
 ⟨some 5, .assign (.tmp 8), 3, none⟩] [0, 5]) (sg c57S1)))
set_option maxRecDepth 100000 in
theorem ent57 (a0 a1 : Value) (w : World) (K : Value → World → Prop) (h : W Tryz.prog c57 [(0, a0), (1, a1)] w (finQ Tryz.prog [.tmp 4] K)) : Ret Tryz.prog 57 [a0, a1] w K :=
  Ret_of_W (code := c57code) Tryz.func57 (by kernel_rfl) (by kernel_rfl) (of_decide_eq_true (by kernel_rfl)) h
@[go_sem] theorem go57 : goFunc Tryz.prog 57 = true := by kernel_rfl
noncomputable def str256x1466348926 : List UInt8 := [0, 1, 1, 2, 1, 2, 2, 3, 1, 2, 2, 3, 2, 3, 3, 4, 1, 2, 2, 3, 2, 3, 3, 4, 2, 3, 3, 4, 3, 4, 4, 5, 1, 2, 2, 3, 2, 3, 3, 4, 2, 3, 3, 4, 3, 4, 4, 5, 2, 3, 3, 4, 3, 4, 4, 5, 3, 4, 4, 5, 4, 5, 5, 6, 1, 2, 2, 3, 2, 3, 3, 4, 2, 3, 3, 4, 3, 4, 4, 5, 2, 3, 3, 4, 3, 4, 4, 5, 3, 4, 4, 5, 4, 5, 5, 6, 2, 3, 3, 4, 3, 4, 4, 5, 3, 4, 4, 5, 4, 5, 5, 6, 3, 4, 4, 5, 4, 5, 5, 6, 4, 5, 5, 6, 5, 6, 6, 7, 1, 2, 2, 3, 2, 3, 3, 4, 2, 3, 3, 4, 3, 4, 4, 5, 2, 3, 3, 4, 3, 4, 4, 5, 3, 4, 4, 5, 4, 5, 5, 6, 2, 3, 3, 4, 3, 4, 4, 5, 3, 4, 4, 5, 4, 5, 5, 6, 3, 4, 4, 5, 4, 5, 5, 6, 4, 5, 5, 6, 5, 6, 6, 7, 2, 3, 3, 4, 3, 4, 4, 5, 3, 4, 4, 5, 4, 5, 5, 6, 3, 4, 4, 5, 4, 5, 5, 6, 4, 5, 5, 6, 5, 6, 6, 7, 3, 4, 4, 5, 4, 5, 5, 6, 4, 5, 5, 6, 5, 6, 6, 7, 4, 5, 5, 6, 5, 6, 6, 7, 5, 6, 6, 7, 6, 7, 7, 8]
noncomputable def c62code : Code := match Tryz.f62.body with | some c => c | none => .skip
noncomputable def c62 : Cmd := (.seq (.ops [
 ⟨some 2, .assign (.const (.int .i64 0)), 3, none⟩] [0])
 (.seq (.ops [
 ⟨some 3, .move (.tmp 0), 5, none⟩,
 ⟨some 4, .index 9 (.const (.string (ofL str256x1466348926))) (.tmp 3), 5, none⟩,
 ⟨some 5, .convert 5 3 (.tmp 4), 3, none⟩,
 ⟨some 2, .assign (.tmp 5), 3, none⟩] [2])
 .ret))
set_option maxRecDepth 100000 in
theorem ent62 (a0 : Value) (w : World) (K : Value → World → Prop) (h : W Tryz.prog c62 [(0, a0)] w (finQ Tryz.prog [.tmp 2] K)) : Ret Tryz.prog 62 [a0] w K :=
  Ret_of_W (code := c62code) Tryz.func62 (by kernel_rfl) (by kernel_rfl) (of_decide_eq_true (by kernel_rfl)) h
@[go_sem] theorem go62 : goFunc Tryz.prog 62 = true := by kernel_rfl
noncomputable def c59code : Code := match Tryz.f59.body with | some c => c | none => .skip
noncomputable def c59S0 (_ : Unit) : Cmd := (.seq (.ops [
 ⟨some 17, .move (.tmp 0), 26, none⟩,
 ⟨some 18, .nilCheck (.tmp 17), 0, none⟩,
 ⟨some 19, .fieldAddr 123 (.tmp 18) 1, 0, none⟩,
 ⟨some 20, .load 121 (.tmp 19), 121, none⟩,
 ⟨some 21, .indexAddr 121 (.tmp 20) (.const (.int .i64 0)), 0, none⟩,
 ⟨some 22, .fieldAddr 132 (.tmp 21) 1, 0, none⟩,
 ⟨some 23, .load 9 (.tmp 22), 9, none⟩,
 ⟨some 4, .assign (.tmp 23), 9, none⟩,
 ⟨some 5, .assign (.const (.bool true)), 4, none⟩] [4, 5])
 .ret)
noncomputable def c59S1 (_ : Unit) : Cmd := (.seq (.ops [
 ⟨some 14, .move (.tmp 0), 26, none⟩,
 ⟨some 15, .move (.tmp 6), 3, none⟩,
 ⟨some 16, .call ⟨.value (.func 85), #[(.tmp 14), (.tmp 15)], #[26, 3]⟩, 0, none⟩] [0]) (sg c59S0))
noncomputable def c59S2 (_ : Unit) : Cmd := (.seq (.seq (.ops [
 ⟨some 11, .move (.tmp 6), 3, none⟩,
 ⟨some 12, .binOp .lss 3 (.tmp 11) (.const (.int .i64 0)) 3, 4, none⟩] [0, 6, 12])
 (.cond (.tmp 12)
  (.seq (.ops [
  ⟨some 7, .assign (.const (.string (ofL []))), 9, none⟩] [7])
  (.seq (.ops [
  ⟨some 13, .move (.tmp 7), 9, none⟩,
  ⟨some 4, .assign (.tmp 13), 9, none⟩,
  ⟨some 5, .assign (.const (.bool false)), 4, none⟩] [4, 5])
  .ret))
  (.skip [0, 6]))) (sg c59S1))
noncomputable def c59 : Cmd := (.seq (.ops [
 ⟨some 4, .assign (.const (.string (ofL []))), 9, none⟩,
 ⟨some 5, .assign (.const (.bool false)), 4, none⟩] [0, 1])
 (.seq (.ops [
 ⟨some 8, .move (.tmp 0), 26, none⟩,
 ⟨some 9, .move (.tmp 1), 3, none⟩,
 ⟨some 10, .call ⟨.value (.func 83), #[(.tmp 8), (.tmp 9)], #[26, 3]⟩, 3, none⟩,
 ⟨some 6, .assign (.tmp 10), 3, none⟩] [0, 6]) (sg c59S2)))
set_option maxRecDepth 100000 in
theorem ent59 (a0 a1 : Value) (w : World) (K : Value → World → Prop) (h : W Tryz.prog c59 [(0, a0), (1, a1)] w (finQ Tryz.prog [.tmp 4, .tmp 5] K)) : Ret Tryz.prog 59 [a0, a1] w K :=
  Ret_of_W (code := c59code) Tryz.func59 (by kernel_rfl) (by kernel_rfl) (of_decide_eq_true (by kernel_rfl)) h
@[go_sem] theorem go59 : goFunc Tryz.prog 59 = true := by kernel_rfl
noncomputable def c60code : Code := match Tryz.f60.body with | some c => c | none => .skip
noncomputable def c60S0 (_ : Unit) : Cmd := (.seq (.ops [
  ⟨some 31, .move (.tmp 0), 26, none⟩,
  ⟨some 32, .nilCheck (.tmp 31), 0, none⟩,
  ⟨some 33, .fieldAddr 123 (.tmp 32) 1, 0, none⟩,
  ⟨some 34, .load 121 (.tmp 33), 121, none⟩,
  ⟨some 35, .move (.tmp 2), 9, none⟩,
  ⟨some 36, .indexAddr 121 (.tmp 34) (.const (.int .i64 0)), 0, none⟩,
  ⟨some 37, .fieldAddr 132 (.tmp 36) 1, 0, none⟩,
  ⟨none, .store 9 (.tmp 37) (.tmp 35), 0, none⟩] [9])
  (.seq (.ops [
  ⟨some 38, .move (.tmp 9), 3, none⟩,
  ⟨some 6, .assign (.tmp 38), 3, none⟩,
  ⟨some 7, .assign (.const (.bool false)), 4, none⟩,
  ⟨some 8, .assign (.const (.int .i64 0)), 30, none⟩] [6, 7, 8])
  .ret))
noncomputable def c60S1 (_ : Unit) : Cmd := (.seq (.ops [
 ⟨some 26, .move (.tmp 10), 3, none⟩,
 ⟨some 27, .binOp .geq 3 (.tmp 26) (.const (.int .i64 0)) 3, 4, none⟩] [0, 1, 2, 9, 10, 27])
 (.cond (.tmp 27)
  (.seq (.ops [
  ⟨some 28, .move (.tmp 0), 26, none⟩,
  ⟨some 29, .move (.tmp 10), 3, none⟩,
  ⟨some 30, .call ⟨.value (.func 85), #[(.tmp 28), (.tmp 29)], #[26, 3]⟩, 0, none⟩] [0, 2, 9]) (sg c60S0))
  (.skip [0, 1, 2, 9])))
noncomputable def c60S2 (_ : Unit) : Cmd := (.block 1 (.ops [
 ⟨some 68, .move (.tmp 12), 3, none⟩,
 ⟨some 69, .binOp .sub 3 (.tmp 68) (.const (.int .i64 1)) 3, 3, none⟩,
 ⟨some 12, .assign (.tmp 69), 3, none⟩] [0, 1, 2, 9, 12]))
noncomputable def c60L0 (_ : Unit) : Cmd := (.seq (.seq (.ops [
 ⟨some 55, .move (.tmp 12), 3, none⟩,
 ⟨some 56, .binOp .geq 3 (.tmp 55) (.const (.int .i64 0)) 3, 4, none⟩,
 ⟨some 57, .move (.tmp 56), 4, none⟩,
 ⟨some 58, .move (.tmp 0), 26, (some (57, true))⟩,
 ⟨some 59, .nilCheck (.tmp 58), 0, (some (57, true))⟩,
 ⟨some 60, .fieldAddr 123 (.tmp 59) 1, 0, (some (57, true))⟩,
 ⟨some 61, .load 121 (.tmp 60), 121, (some (57, true))⟩,
 ⟨some 62, .move (.tmp 12), 3, (some (57, true))⟩,
 ⟨some 63, .indexAddr 121 (.tmp 61) (.tmp 62), 0, (some (57, true))⟩,
 ⟨some 64, .fieldAddr 132 (.tmp 63) 2, 0, (some (57, true))⟩,
 ⟨some 65, .load 3 (.tmp 64), 3, (some (57, true))⟩,
 ⟨some 66, .binOp .gtr 3 (.tmp 65) (.const (.int .i64 0)) 3, 4, (some (57, true))⟩,
 ⟨some 67, .pick (.tmp 57) (.tmp 66) (.const (.bool false)), 4, none⟩] [0, 1, 2, 9, 12, 67])
 (.cond (.tmp 67)
  (.skip [0, 1, 2, 9, 12])
  (.exit 0 [0, 1, 2, 9, 12]))) (sg c60S2))
noncomputable def c60S3 (_ : Unit) : Cmd := (.seq (.ops [
  ⟨some 73, .move (.tmp 0), 26, none⟩,
  ⟨some 74, .nilCheck (.tmp 73), 0, none⟩,
  ⟨some 75, .fieldAddr 123 (.tmp 74) 1, 0, none⟩,
  ⟨some 76, .load 121 (.tmp 75), 121, none⟩,
  ⟨some 77, .move (.tmp 12), 3, none⟩,
  ⟨some 78, .indexAddr 121 (.tmp 76) (.tmp 77), 0, none⟩,
  ⟨some 79, .fieldAddr 132 (.tmp 78) 0, 0, none⟩,
  ⟨some 80, .load 3 (.tmp 79), 3, none⟩,
  ⟨some 9, .assign (.tmp 80), 3, none⟩,
  ⟨some 11, .assign (.const (.bool true)), 4, none⟩] [0, 1, 2, 9, 11, 12])
  (.ops [
  ⟨some 81, .move (.tmp 0), 26, none⟩,
  ⟨some 82, .move (.tmp 0), 26, none⟩,
  ⟨some 83, .nilCheck (.tmp 82), 0, none⟩,
  ⟨some 84, .fieldAddr 123 (.tmp 83) 1, 0, none⟩,
  ⟨some 85, .load 121 (.tmp 84), 121, none⟩,
  ⟨some 86, .move (.tmp 12), 3, none⟩,
  ⟨some 87, .move (.tmp 12), 3, none⟩,
  ⟨some 88, .binOp .add 3 (.tmp 87) (.const (.int .i64 1)) 3, 3, none⟩,
  ⟨some 89, .call ⟨.value (.func 84), #[(.tmp 85), (.tmp 86), (.tmp 88)], #[121, 3, 3]⟩, 121, none⟩,
  ⟨some 90, .nilCheck (.tmp 81), 0, none⟩,
  ⟨some 91, .fieldAddr 123 (.tmp 90) 1, 0, none⟩,
  ⟨none, .store 121 (.tmp 91) (.tmp 89), 0, none⟩] [0, 1, 2, 9, 11]))
noncomputable def c60S4 (_ : Unit) : Cmd := (.seq (.seq (.ops [
  ⟨some 70, .move (.tmp 12), 3, none⟩,
  ⟨some 71, .binOp .lss 3 (.tmp 70) (.const (.int .i64 0)) 3, 4, none⟩] [0, 1, 2, 9, 12, 71])
  (.cond (.tmp 71)
   (.seq (.ops [
   ⟨some 72, .move (.tmp 9), 3, none⟩,
   ⟨some 6, .assign (.tmp 72), 3, none⟩,
   ⟨some 7, .assign (.const (.bool false)), 4, none⟩,
   ⟨some 8, .assign (.const (.int .i64 12)), 30, none⟩] [6, 7, 8])
   .ret)
   (.skip [0, 1, 2, 12]))) (sg c60S3))
noncomputable def c60S5 (_ : Unit) : Cmd := (.cond (.tmp 48)
  (.seq (.ops [
  ⟨some 49, .move (.tmp 0), 26, none⟩,
  ⟨some 50, .nilCheck (.tmp 49), 0, none⟩,
  ⟨some 51, .fieldAddr 123 (.tmp 50) 1, 0, none⟩,
  ⟨some 52, .load 121 (.tmp 51), 121, none⟩,
  ⟨some 53, .call ⟨.builtin .len, #[(.tmp 52)], #[121]⟩, 3, none⟩,
  ⟨some 54, .binOp .sub 3 (.tmp 53) (.const (.int .i64 1)) 3, 3, none⟩,
  ⟨some 12, .assign (.tmp 54), 3, none⟩] [0, 1, 2, 9, 12])
  (.seq (.block 0 (.loop (sg c60L0))) (sg c60S4)))
  (.skip [0, 1, 2, 9, 11]))
noncomputable def c60S6 (_ : Unit) : Cmd := (.seq (.ops [
 ⟨some 104, .move (.tmp 9), 3, none⟩,
 ⟨some 105, .move (.tmp 11), 4, none⟩,
 ⟨some 6, .assign (.tmp 104), 3, none⟩,
 ⟨some 7, .assign (.tmp 105), 4, none⟩,
 ⟨some 8, .assign (.const (.int .i64 0)), 30, none⟩] [6, 7, 8])
 .ret)
noncomputable def c60S7 (_ : Unit) : Cmd := (.seq (.ops [
 ⟨some 92, .move (.tmp 0), 26, none⟩,
 ⟨some 93, .move (.tmp 0), 26, none⟩,
 ⟨some 94, .nilCheck (.tmp 93), 0, none⟩,
 ⟨some 95, .fieldAddr 123 (.tmp 94) 1, 0, none⟩,
 ⟨some 96, .load 121 (.tmp 95), 121, none⟩,
 ⟨some 97, .move (.tmp 1), 3, none⟩,
 ⟨some 98, .move (.tmp 2), 9, none⟩,
 ⟨some 99, .build 132 #[(0, (.tmp 97)), (1, (.tmp 98))], 132, none⟩,
 ⟨some 100, .buildSlice 121 1 #[(0, (.tmp 99))], 121, none⟩,
 ⟨some 101, .call ⟨.value (.func 86), #[(.tmp 96), (.const (.int .i64 0)), (.tmp 100)], #[121, 3, 121]⟩, 121, none⟩,
 ⟨some 102, .nilCheck (.tmp 92), 0, none⟩,
 ⟨some 103, .fieldAddr 123 (.tmp 102) 1, 0, none⟩,
 ⟨none, .store 121 (.tmp 103) (.tmp 101), 0, none⟩] [9, 11]) (sg c60S6))
noncomputable def c60S8 (_ : Unit) : Cmd := (.seq (.ops [
 ⟨some 11, .assign (.const (.bool false)), 4, none⟩] [0, 1, 2, 9, 11])
 (.seq (.seq (.draw (drawOps 0 c60code) [0, 1, 2, 9, 11, 48]) (sg c60S5)) (sg c60S7)))
noncomputable def c60S9 (_ : Unit) : Cmd := (.seq (.seq (.ops [
 ⟨some 23, .move (.tmp 0), 26, none⟩,
 ⟨some 24, .move (.tmp 1), 3, none⟩,
 ⟨some 25, .call ⟨.value (.func 83), #[(.tmp 23), (.tmp 24)], #[26, 3]⟩, 3, none⟩,
 ⟨some 10, .assign (.tmp 25), 3, none⟩] [0, 1, 2, 9, 10]) (sg c60S1)) (sg c60S8))
noncomputable def c60 : Cmd := (.seq (.ops [
 ⟨some 6, .assign (.const (.int .i64 0)), 3, none⟩,
 ⟨some 7, .assign (.const (.bool false)), 4, none⟩,
 ⟨some 8, .assign (.const (.int .i64 0)), 30, none⟩] [0, 1, 2])
 (.seq (.ops [
 ⟨some 9, .assign (.const (.int .i64 0)), 3, none⟩] [0, 1, 2, 9])
 (.seq (.seq (.ops [
 ⟨some 13, .move (.tmp 0), 26, none⟩,
 ⟨some 14, .binOp .eql 26 (.tmp 13) (.const (.pointer none)) 26, 4, none⟩,
 ⟨some 15, .move (.tmp 14), 4, none⟩,
 ⟨some 16, .move (.tmp 0), 26, (some (15, false))⟩,
 ⟨some 17, .nilCheck (.tmp 16), 0, (some (15, false))⟩,
 ⟨some 18, .fieldAddr 123 (.tmp 17) 0, 0, (some (15, false))⟩,
 ⟨some 19, .load 3 (.tmp 18), 3, (some (15, false))⟩,
 ⟨some 20, .binOp .eql 3 (.tmp 19) (.const (.int .i64 0)) 3, 4, (some (15, false))⟩,
 ⟨some 21, .pick (.tmp 15) (.const (.bool true)) (.tmp 20), 4, none⟩] [0, 1, 2, 9, 21])
 (.cond (.tmp 21)
  (.seq (.ops [
  ⟨some 22, .move (.tmp 9), 3, none⟩,
  ⟨some 6, .assign (.tmp 22), 3, none⟩,
  ⟨some 7, .assign (.const (.bool false)), 4, none⟩,
  ⟨some 8, .assign (.const (.int .i64 3)), 30, none⟩] [6, 7, 8])
  .ret)
  (.skip [0, 1, 2, 9]))) (sg c60S9))))
noncomputable def c60D0 : List (Bool × Ins) := [
 (true, ⟨some 39, .move (.tmp 0), 26, none⟩),
 (true, ⟨some 40, .nilCheck (.tmp 39), 0, none⟩),
 (true, ⟨some 41, .fieldAddr 123 (.tmp 40) 1, 0, none⟩),
 (false, ⟨some 42, .load 121 (.tmp 41), 121, none⟩),
 (true, ⟨some 43, .call ⟨.builtin .len, #[(.tmp 42)], #[121]⟩, 3, none⟩),
 (true, ⟨some 44, .move (.tmp 0), 26, none⟩),
 (true, ⟨some 45, .nilCheck (.tmp 44), 0, none⟩),
 (true, ⟨some 46, .fieldAddr 123 (.tmp 45) 0, 0, none⟩),
 (false, ⟨some 47, .load 3 (.tmp 46), 3, none⟩),
 (true, ⟨some 48, .binOp .geq 3 (.tmp 43) (.tmp 47) 3, 4, none⟩)]
theorem c60draw0 {L : List Nat} {ρ : Env} {w : World} {Q : Post} (h : DL Tryz.prog c60D0 L ρ w.drew Q) : drawW Tryz.prog (drawOps 0 c60code) L ρ w Q :=
  drawW_still [true, true, true, false, true, true, true, true, false, true] c60D0 (by kernel_rfl) (by kernel_rfl) (by kernel_rfl) h
set_option maxRecDepth 100000 in
theorem ent60 (a0 a1 a2 : Value) (w : World) (K : Value → World → Prop) (h : W Tryz.prog c60 [(0, a0), (1, a1), (2, a2)] w (finQ Tryz.prog [.tmp 6, .tmp 7, .tmp 8] K)) : Ret Tryz.prog 60 [a0, a1, a2] w K :=
  Ret_of_W (code := c60code) Tryz.func60 (by kernel_rfl) (by kernel_rfl) (of_decide_eq_true (by kernel_rfl)) h
@[go_sem] theorem go60 : goFunc Tryz.prog 60 = true := by kernel_rfl
noncomputable def c81code : Code := match Tryz.f81.body with | some c => c | none => .skip
noncomputable def c81S0 (_ : Unit) : Cmd := (.ops [
 ⟨some 32, .binOp .add 3 (.tmp 19) (.const (.int .i64 1)) 3, 3, none⟩,
 ⟨some 19, .move (.tmp 32), 3, none⟩] [0, 3, 17, 18, 19])
noncomputable def c81S1 (_ : Unit) : Cmd := (.seq (.block 1 (.seq (.ops [
 ⟨some 21, .indexAddr 89 (.tmp 17) (.tmp 19), 0, none⟩,
 ⟨some 22, .load 93 (.tmp 21), 93, none⟩,
 ⟨some 5, .alloc 93, 0, none⟩,
 ⟨none, .store 93 (.tmp 5) (.tmp 22), 0, none⟩] [0, 3, 5, 17, 18, 19])
 (.draw (drawOps 0 c81code) [0, 3, 17, 18, 19]))) (sg c81S0))
noncomputable def c81L0 (_ : Unit) : Cmd := (.seq (.ops [
 ⟨some 20, .binOp .lss 3 (.tmp 19) (.tmp 18) 3, 0, none⟩] [0, 3, 17, 18, 19, 20])
 (.seq (.cond (.tmp 20)
  (.skip [0, 3, 17, 18, 19])
  (.exit 0 [0, 3])) (sg c81S1)))
noncomputable def c81S2 (_ : Unit) : Cmd := (.ops [
  ⟨some 33, .move (.tmp 0), 46, none⟩,
  ⟨some 34, .nilCheck (.tmp 33), 0, none⟩,
  ⟨some 35, .fieldAddr 91 (.tmp 34) 1, 0, none⟩,
  ⟨none, .store 89 (.tmp 35) (.const (.slice none 0 0)), 0, none⟩] [3])
noncomputable def c81S3 (_ : Unit) : Cmd := (.seq (.ops [
 ⟨some 36, .move (.tmp 3), 30, none⟩,
 ⟨some 2, .assign (.tmp 36), 30, none⟩] [2])
 .ret)
noncomputable def c81S4 (_ : Unit) : Cmd := (.seq (.seq (.ops [
 ⟨some 12, .move (.tmp 3), 30, none⟩,
 ⟨some 13, .binOp .eql 30 (.tmp 12) (.const (.int .i64 0)) 30, 4, none⟩] [0, 3, 13])
 (.cond (.tmp 13)
  (.seq (.seq (.ops [
  ⟨some 14, .move (.tmp 0), 46, none⟩,
  ⟨some 15, .nilCheck (.tmp 14), 0, none⟩,
  ⟨some 16, .fieldAddr 91 (.tmp 15) 1, 0, none⟩,
  ⟨some 17, .load 89 (.tmp 16), 89, none⟩,
  ⟨some 18, .call ⟨.builtin .len, #[(.tmp 17)], #[89]⟩, 3, none⟩,
  ⟨some 19, .move (.const (.int .i64 0)), 3, none⟩] [0, 3, 17, 18, 19])
  (.block 0 (.loop (sg c81L0)))) (sg c81S2))
  (.skip [3]))) (sg c81S3))
noncomputable def c81S5 (_ : Unit) : Cmd := (.seq (.seq (.ops [
 ⟨some 8, .move (.tmp 3), 30, none⟩,
 ⟨some 9, .binOp .eql 30 (.tmp 8) (.const (.int .i64 0)) 30, 4, none⟩] [0, 3, 9])
 (.cond (.tmp 9)
  (.ops [
  ⟨some 10, .move (.tmp 0), 46, none⟩,
  ⟨some 11, .call ⟨.value (.func 93), #[(.tmp 10)], #[46]⟩, 30, none⟩,
  ⟨some 3, .assign (.tmp 11), 30, none⟩] [0, 3])
  (.skip [0, 3]))) (sg c81S4))
noncomputable def c81 : Cmd := (.seq (.ops [
 ⟨some 2, .assign (.const (.int .i64 0)), 30, none⟩] [0])
 (.seq (.ops [
 ⟨some 6, .move (.tmp 0), 46, none⟩,
 ⟨some 7, .call ⟨.value (.func 78), #[(.tmp 6), (.const (.int .i64 0))], #[46, 3]⟩, 30, none⟩,
 ⟨some 3, .assign (.tmp 7), 30, none⟩] [0, 3]) (sg c81S5)))
noncomputable def c81D0 : List (Nat × Ins) := [
 (0, ⟨some 23, .move (.tmp 0), 46, none⟩),
 (0, ⟨some 24, .nilCheck (.tmp 23), 0, none⟩),
 (0, ⟨some 25, .fieldAddr 91 (.tmp 24) 0, 0, none⟩),
 (0, ⟨some 27, .fieldAddr 93 (.tmp 5) 0, 0, none⟩),
 (0, ⟨some 29, .fieldAddr 93 (.tmp 5) 1, 0, none⟩),
 (1, ⟨some 26, .load 49 (.tmp 25), 49, none⟩),
 (1, ⟨some 28, .load 3 (.tmp 27), 3, none⟩),
 (2, ⟨some 30, .load 9 (.tmp 29), 9, none⟩),
 (0, ⟨some 31, .indexAddr 49 (.tmp 26) (.tmp 28), 0, none⟩),
 (3, ⟨none, .store 9 (.tmp 31) (.tmp 30), 0, none⟩)]
theorem c81draw0 {L : List Nat} {ρ : Env} {w : World} {Q : Post} (S : World → Prop) (hS : S w.drew) (h : DG Tryz.prog S c81D0 L ρ w.drew Q) : drawW Tryz.prog (drawOps 0 c81code) L ρ w Q :=
  drawW_held [3, 5] [(0, 0), (0, 1), (0, 2), (0, 4), (0, 6), (1, 3), (1, 5), (2, 7), (0, 8), (3, 9)] c81D0 (by kernel_rfl) (by kernel_rfl) (by kernel_rfl) S hS h
set_option maxRecDepth 100000 in
theorem ent81 (a0 : Value) (w : World) (K : Value → World → Prop) (h : W Tryz.prog c81 [(0, a0)] w (finQ Tryz.prog [.tmp 2] K)) : Ret Tryz.prog 81 [a0] w K :=
  Ret_of_W (code := c81code) Tryz.func81 (by kernel_rfl) (by kernel_rfl) (of_decide_eq_true (by kernel_rfl)) h
@[go_sem] theorem go81 : goFunc Tryz.prog 81 = true := by kernel_rfl
@[go_sem] theorem go82 : goFunc Tryz.prog 82 = true := by kernel_rfl
noncomputable def c77code : Code := match Tryz.f77.body with | some c => c | none => .skip
noncomputable def c77S0 (_ : Unit) : Cmd := (.cond (.tmp 15)
  (.seq (.ops [
  ⟨some 16, .build 96 #[], 96, none⟩,
  ⟨none, .store 96 (.tmp 2) (.tmp 16), 0, none⟩,
  ⟨some 3, .assign (.const (.bool false)), 4, none⟩] [2, 3])
  .ret)
  (.skip [1, 2]))
noncomputable def c77S1 (_ : Unit) : Cmd := .ret
noncomputable def c77S2 (_ : Unit) : Cmd := (.seq (.ops [
 ⟨some 17, .makeFunc (.func 98) #[] #[(.tmp 1)], 120, none⟩,
 ⟨some 4, .assign (.tmp 17), 120, none⟩] [1, 2, 4])
 (.seq (.ops [
 ⟨some 18, .load 9 (.tmp 1), 9, none⟩,
 ⟨some 19, .slice 9 (.tmp 18) none (some (.const (.int .i64 8))) none, 9, none⟩,
 ⟨some 20, .call ⟨.value (.func 33), #[(.tmp 19)], #[9]⟩, 58, none⟩,
 ⟨some 21, .move (.tmp 4), 120, none⟩,
 ⟨some 22, .call ⟨.value (.tmp 21), #[(.const (.int .i64 8))], #[3]⟩, 3, none⟩,
 ⟨some 23, .move (.tmp 4), 120, none⟩,
 ⟨some 24, .call ⟨.value (.tmp 23), #[(.const (.int .i64 12))], #[3]⟩, 3, none⟩,
 ⟨some 25, .move (.tmp 4), 120, none⟩,
 ⟨some 26, .call ⟨.value (.tmp 25), #[(.const (.int .i64 16))], #[3]⟩, 3, none⟩,
 ⟨some 27, .build 96 #[(0, (.tmp 20)), (1, (.tmp 22)), (2, (.tmp 24)), (3, (.tmp 26))], 96, none⟩,
 ⟨none, .store 96 (.tmp 2) (.tmp 27), 0, none⟩,
 ⟨some 3, .assign (.const (.bool true)), 4, none⟩] [2, 3]) (sg c77S1)))
noncomputable def c77 : Cmd := (.seq (.ops [
 ⟨some 1, .box 9 (.tmp 0), 0, none⟩,
 ⟨some 2, .alloc 96, 0, none⟩,
 ⟨some 3, .assign (.const (.bool false)), 4, none⟩] [1, 2])
 (.seq (.seq (.draw (drawOps 0 c77code) [1, 2, 15]) (sg c77S0)) (sg c77S2)))
noncomputable def c77D0 : List (Nat × Ins) := [
 (2, ⟨some 5, .load 9 (.tmp 1), 9, none⟩),
 (0, ⟨some 6, .call ⟨.builtin .len, #[(.tmp 5)], #[9]⟩, 3, none⟩),
 (0, ⟨some 7, .binOp .lss 3 (.tmp 6) (.const (.int .i64 40)) 3, 4, none⟩),
 (0, ⟨some 8, .move (.tmp 7), 4, none⟩),
 (1, ⟨some 9, .load 9 (.tmp 1), 9, (some (8, false))⟩),
 (0, ⟨some 10, .slice 9 (.tmp 9) none (some (.const (.int .i64 20))) none, 9, (some (8, false))⟩),
 (1, ⟨some 12, .load 9 (.tmp 1), 9, (some (8, false))⟩),
 (0, ⟨some 13, .slice 9 (.tmp 12) (some (.const (.int .i64 20))) (some (.const (.int .i64 40))) none, 9, (some (8, false))⟩),
 (2, ⟨some 11, .call ⟨.value (.func 97), #[(.tmp 10)], #[9]⟩, 9, (some (8, false))⟩),
 (0, ⟨some 14, .binOp .neq 9 (.tmp 11) (.tmp 13) 9, 4, (some (8, false))⟩),
 (0, ⟨some 15, .pick (.tmp 8) (.const (.bool true)) (.tmp 14), 4, none⟩)]
theorem c77draw0 {L : List Nat} {ρ : Env} {w : World} {Q : Post} (S : World → Prop) (hS : S w.drew) (h : DG Tryz.prog S c77D0 L ρ w.drew Q) : drawW Tryz.prog (drawOps 0 c77code) L ρ w Q :=
  drawW_held [4, 7] [(2, 0), (0, 1), (0, 2), (0, 3), (1, 4), (0, 5), (1, 7), (0, 8), (2, 6), (0, 9), (0, 10)] c77D0 (by kernel_rfl) (by kernel_rfl) (by kernel_rfl) S hS h
set_option maxRecDepth 100000 in
theorem ent77 (a0 : Value) (w : World) (K : Value → World → Prop) (h : W Tryz.prog c77 [(0, a0)] w (finQ Tryz.prog [.cell 2 96, .tmp 3] K)) : Ret Tryz.prog 77 [a0] w K :=
  Ret_of_W (code := c77code) Tryz.func77 (by kernel_rfl) (by kernel_rfl) (of_decide_eq_true (by kernel_rfl)) h
@[go_sem] theorem go77 : goFunc Tryz.prog 77 = true := by kernel_rfl
noncomputable def c78code : Code := match Tryz.f78.body with | some c => c | none => .skip
noncomputable def c78S0 (_ : Unit) : Cmd := (.seq (.ops [
 ⟨some 4, .assign (.const (.int .i64 0)), 30, none⟩] [4])
 .ret)
noncomputable def c78 : Cmd := (.seq (.ops [
 ⟨some 4, .assign (.const (.int .i64 0)), 30, none⟩] [0, 1])
 (.seq (.block 0 (.seq (.ops [
 ⟨some 6, .move (.tmp 0), 46, none⟩,
 ⟨some 7, .binOp .eql 46 (.tmp 6) (.const (.pointer none)) 46, 4, none⟩,
 ⟨some 8, .move (.tmp 7), 4, none⟩,
 ⟨some 9, .move (.tmp 0), 46, (some (8, false))⟩,
 ⟨some 10, .nilCheck (.tmp 9), 0, (some (8, false))⟩,
 ⟨some 11, .fieldAddr 91 (.tmp 10) 0, 0, (some (8, false))⟩,
 ⟨some 12, .load 49 (.tmp 11), 49, (some (8, false))⟩,
 ⟨some 13, .binOp .eql 49 (.tmp 12) (.const (.slice none 0 0)) 49, 4, (some (8, false))⟩,
 ⟨some 14, .pick (.tmp 8) (.const (.bool true)) (.tmp 13), 4, none⟩,
 ⟨some 5, .assign (.tmp 14), 4, none⟩] [0, 1, 5])
 (.cond (.tmp 5)
  (.seq (.ops [
  ⟨some 4, .assign (.const (.int .i64 3)), 30, none⟩] [4])
  .ret)
  (.seq (.ops [
  ⟨some 16, .move (.tmp 0), 46, none⟩,
  ⟨some 17, .nilCheck (.tmp 16), 0, none⟩,
  ⟨some 18, .fieldAddr 91 (.tmp 17) 3, 0, none⟩,
  ⟨some 19, .load 4 (.tmp 18), 4, none⟩,
  ⟨some 15, .assign (.tmp 19), 4, none⟩] [0, 1, 15])
  (.cond (.tmp 15)
   (.seq (.ops [
   ⟨some 4, .assign (.const (.int .i64 11)), 30, none⟩] [4])
   .ret)
   (.seq (.ops [
   ⟨some 21, .move (.tmp 1), 3, none⟩,
   ⟨some 22, .binOp .lss 3 (.tmp 21) (.const (.int .i64 0)) 3, 4, none⟩,
   ⟨some 23, .move (.tmp 22), 4, none⟩,
   ⟨some 24, .move (.tmp 1), 3, (some (23, false))⟩,
   ⟨some 25, .move (.tmp 0), 46, (some (23, false))⟩,
   ⟨some 26, .nilCheck (.tmp 25), 0, (some (23, false))⟩,
   ⟨some 27, .fieldAddr 91 (.tmp 26) 0, 0, (some (23, false))⟩,
   ⟨some 28, .load 49 (.tmp 27), 49, (some (23, false))⟩,
   ⟨some 29, .call ⟨.builtin .len, #[(.tmp 28)], #[49]⟩, 3, (some (23, false))⟩,
   ⟨some 30, .binOp .geq 3 (.tmp 24) (.tmp 29) 3, 4, (some (23, false))⟩,
   ⟨some 31, .pick (.tmp 23) (.const (.bool true)) (.tmp 30), 4, none⟩,
   ⟨some 20, .assign (.tmp 31), 4, none⟩] [20])
   (.cond (.tmp 20)
    (.seq (.ops [
    ⟨some 4, .assign (.const (.int .i64 10)), 30, none⟩] [4])
    .ret)
    (.skip [])))))))) (sg c78S0)))
set_option maxRecDepth 100000 in
theorem ent78 (a0 a1 : Value) (w : World) (K : Value → World → Prop) (h : W Tryz.prog c78 [(0, a0), (1, a1)] w (finQ Tryz.prog [.tmp 4] K)) : Ret Tryz.prog 78 [a0, a1] w K :=
  Ret_of_W (code := c78code) Tryz.func78 (by kernel_rfl) (by kernel_rfl) (of_decide_eq_true (by kernel_rfl)) h
@[go_sem] theorem go78 : goFunc Tryz.prog 78 = true := by kernel_rfl
noncomputable def c93code : Code := match Tryz.f93.body with | some c => c | none => .skip
noncomputable def c93S0 (_ : Unit) : Cmd := (.seq (.ops [
 ⟨some 2, .assign (.const (.int .i64 0)), 30, none⟩] [2])
 .ret)
noncomputable def c93S1 (_ : Unit) : Cmd := (.seq (.seq (.ops [
 ⟨some 11, .move (.tmp 0), 46, none⟩,
 ⟨some 12, .nilCheck (.tmp 11), 0, none⟩,
 ⟨some 13, .fieldAddr 91 (.tmp 12) 2, 0, none⟩,
 ⟨some 14, .load 3 (.tmp 13), 3, none⟩,
 ⟨some 15, .binOp .gtr 3 (.tmp 14) (.const (.int .i64 0)) 3, 4, none⟩] [0, 15])
 (.cond (.tmp 15)
  (.ops [
  ⟨some 16, .move (.tmp 0), 46, none⟩,
  ⟨some 17, .nilCheck (.tmp 16), 0, none⟩,
  ⟨some 18, .fieldAddr 91 (.tmp 17) 2, 0, none⟩,
  ⟨some 19, .load 3 (.tmp 18), 3, none⟩,
  ⟨some 20, .binOp .sub 3 (.tmp 19) (.const (.int .i64 1)) 3, 3, none⟩,
  ⟨some 21, .nilCheck (.tmp 16), 0, none⟩,
  ⟨some 22, .fieldAddr 91 (.tmp 21) 2, 0, none⟩,
  ⟨none, .store 3 (.tmp 22) (.tmp 20), 0, none⟩] [])
  (.skip []))) (sg c93S0))
noncomputable def c93 : Cmd := (.seq (.ops [
 ⟨some 2, .assign (.const (.int .i64 0)), 30, none⟩] [0])
 (.seq (.seq (.ops [
 ⟨some 3, .move (.tmp 0), 46, none⟩,
 ⟨some 4, .nilCheck (.tmp 3), 0, none⟩,
 ⟨some 5, .fieldAddr 91 (.tmp 4) 2, 0, none⟩,
 ⟨some 6, .load 3 (.tmp 5), 3, none⟩,
 ⟨some 7, .binOp .eql 3 (.tmp 6) (.const (.int .i64 0)) 3, 4, none⟩] [0, 7])
 (.cond (.tmp 7)
  (.seq (.ops [
  ⟨some 8, .move (.tmp 0), 46, none⟩,
  ⟨some 9, .nilCheck (.tmp 8), 0, none⟩,
  ⟨some 10, .fieldAddr 91 (.tmp 9) 3, 0, none⟩,
  ⟨none, .store 4 (.tmp 10) (.const (.bool true)), 0, none⟩] [])
  (.seq (.ops [
  ⟨some 2, .assign (.const (.int .i64 11)), 30, none⟩] [2])
  .ret))
  (.skip [0]))) (sg c93S1)))
set_option maxRecDepth 100000 in
theorem ent93 (a0 : Value) (w : World) (K : Value → World → Prop) (h : W Tryz.prog c93 [(0, a0)] w (finQ Tryz.prog [.tmp 2] K)) : Ret Tryz.prog 93 [a0] w K :=
  Ret_of_W (code := c93code) Tryz.func93 (by kernel_rfl) (by kernel_rfl) (of_decide_eq_true (by kernel_rfl)) h
@[go_sem] theorem go93 : goFunc Tryz.prog 93 = true := by kernel_rfl
noncomputable def c94code : Code := match Tryz.f94.body with | some c => c | none => .skip
noncomputable def c94S0 (_ : Unit) : Cmd := .ret
noncomputable def c94S1 (_ : Unit) : Cmd := (.seq (.ops [
 ⟨some 22, .move (.tmp 3), 9, none⟩,
 ⟨some 23, .move (.tmp 3), 9, none⟩,
 ⟨some 24, .call ⟨.value (.func 97), #[(.tmp 23)], #[9]⟩, 9, none⟩,
 ⟨some 25, .binOp .add 9 (.tmp 22) (.tmp 24) 9, 9, none⟩,
 ⟨some 2, .assign (.tmp 25), 9, none⟩] [2]) (sg c94S0))
noncomputable def c94 : Cmd := (.seq (.ops [
 ⟨some 1, .box 96 (.tmp 0), 0, none⟩,
 ⟨some 2, .assign (.const (.string (ofL []))), 9, none⟩] [1])
 (.seq (.draw (drawOps 0 c94code) [3]) (sg c94S1)))
noncomputable def c94D0 : List (Nat × Ins) := [
 (0, ⟨some 4, .fieldAddr 96 (.tmp 1) 0, 0, none⟩),
 (0, ⟨some 7, .fieldAddr 96 (.tmp 1) 1, 0, none⟩),
 (0, ⟨some 12, .fieldAddr 96 (.tmp 1) 2, 0, none⟩),
 (0, ⟨some 17, .fieldAddr 96 (.tmp 1) 3, 0, none⟩),
 (1, ⟨some 5, .load 58 (.tmp 4), 58, none⟩),
 (1, ⟨some 8, .load 3 (.tmp 7), 3, none⟩),
 (0, ⟨some 9, .convert 3 58 (.tmp 8), 58, none⟩),
 (1, ⟨some 13, .load 3 (.tmp 12), 3, none⟩),
 (0, ⟨some 14, .convert 3 58 (.tmp 13), 58, none⟩),
 (1, ⟨some 18, .load 3 (.tmp 17), 3, none⟩),
 (0, ⟨some 19, .convert 3 58 (.tmp 18), 58, none⟩),
 (2, ⟨some 6, .call ⟨.value (.func 36), #[(.tmp 5), (.const (.int .i64 8))], #[58, 3]⟩, 9, none⟩),
 (2, ⟨some 10, .call ⟨.value (.func 36), #[(.tmp 9), (.const (.int .i64 4))], #[58, 3]⟩, 9, none⟩),
 (0, ⟨some 11, .binOp .add 9 (.tmp 6) (.tmp 10) 9, 9, none⟩),
 (2, ⟨some 15, .call ⟨.value (.func 36), #[(.tmp 14), (.const (.int .i64 4))], #[58, 3]⟩, 9, none⟩),
 (0, ⟨some 16, .binOp .add 9 (.tmp 11) (.tmp 15) 9, 9, none⟩),
 (2, ⟨some 20, .call ⟨.value (.func 36), #[(.tmp 19), (.const (.int .i64 4))], #[58, 3]⟩, 9, none⟩),
 (0, ⟨some 21, .binOp .add 9 (.tmp 16) (.tmp 20) 9, 9, none⟩),
 (0, ⟨some 3, .assign (.tmp 21), 9, none⟩)]
theorem c94draw0 {L : List Nat} {ρ : Env} {w : World} {Q : Post} (S : World → Prop) (hS : S w.drew) (h : DG Tryz.prog S c94D0 L ρ w.drew Q) : drawW Tryz.prog (drawOps 0 c94code) L ρ w Q :=
  drawW_held [1, 4, 9, 14] [(0, 0), (0, 3), (0, 8), (0, 13), (1, 1), (1, 4), (0, 5), (1, 9), (0, 10), (1, 14), (0, 15), (2, 2), (2, 6), (0, 7), (2, 11), (0, 12), (2, 16), (0, 17), (0, 18)] c94D0 (by kernel_rfl) (by kernel_rfl) (by kernel_rfl) S hS h
set_option maxRecDepth 100000 in
theorem ent94 (a0 : Value) (w : World) (K : Value → World → Prop) (h : W Tryz.prog c94 [(0, a0)] w (finQ Tryz.prog [.tmp 2] K)) : Ret Tryz.prog 94 [a0] w K :=
  Ret_of_W (code := c94code) Tryz.func94 (by kernel_rfl) (by kernel_rfl) (of_decide_eq_true (by kernel_rfl)) h
@[go_sem] theorem go94 : goFunc Tryz.prog 94 = true := by kernel_rfl
noncomputable def c83code : Code := match Tryz.f83.body with | some c => c | none => .skip
noncomputable def c83S0 (_ : Unit) : Cmd := .ret
noncomputable def c83S1 (_ : Unit) : Cmd := (.seq (.ops [
 ⟨some 7, .move (.tmp 0), 26, none⟩,
 ⟨some 8, .nilCheck (.tmp 7), 0, none⟩,
 ⟨some 9, .fieldAddr 123 (.tmp 8) 1, 0, none⟩,
 ⟨some 10, .load 121 (.tmp 9), 121, none⟩,
 ⟨some 11, .makeFunc (.func 103) #[] #[(.tmp 3)], 151, none⟩,
 ⟨some 12, .call ⟨.value (.func 102), #[(.tmp 10), (.tmp 11)], #[121, 151]⟩, 3, none⟩,
 ⟨some 4, .assign (.tmp 12), 3, none⟩] [4]) (sg c83S0))
noncomputable def c83 : Cmd := (.seq (.ops [
 ⟨some 3, .box 3 (.tmp 1), 0, none⟩,
 ⟨some 4, .assign (.const (.int .i64 0)), 3, none⟩] [0, 3])
 (.seq (.seq (.ops [
 ⟨some 5, .move (.tmp 0), 26, none⟩,
 ⟨some 6, .binOp .eql 26 (.tmp 5) (.const (.pointer none)) 26, 4, none⟩] [0, 3, 6])
 (.cond (.tmp 6)
  (.seq (.ops [
  ⟨some 4, .assign (.const (.int .i64 (-1))), 3, none⟩] [4])
  .ret)
  (.skip [0, 3]))) (sg c83S1)))
set_option maxRecDepth 100000 in
theorem ent83 (a0 a1 : Value) (w : World) (K : Value → World → Prop) (h : W Tryz.prog c83 [(0, a0), (1, a1)] w (finQ Tryz.prog [.tmp 4] K)) : Ret Tryz.prog 83 [a0, a1] w K :=
  Ret_of_W (code := c83code) Tryz.func83 (by kernel_rfl) (by kernel_rfl) (of_decide_eq_true (by kernel_rfl)) h
@[go_sem] theorem go83 : goFunc Tryz.prog 83 = true := by kernel_rfl
noncomputable def c85code : Code := match Tryz.f85.body with | some c => c | none => .skip
noncomputable def c85S0 (_ : Unit) : Cmd := (.draw (drawOps 1 c85code) [])
noncomputable def c85 : Cmd := (.seq (.ops [
 ⟨some 5, .move (.tmp 0), 26, none⟩,
 ⟨some 6, .nilCheck (.tmp 5), 0, none⟩,
 ⟨some 7, .fieldAddr 123 (.tmp 6) 1, 0, none⟩,
 ⟨some 8, .load 121 (.tmp 7), 121, none⟩,
 ⟨some 9, .move (.tmp 1), 3, none⟩,
 ⟨some 10, .indexAddr 121 (.tmp 8) (.tmp 9), 0, none⟩,
 ⟨some 11, .load 132 (.tmp 10), 132, none⟩,
 ⟨some 4, .alloc 132, 0, none⟩,
 ⟨none, .store 132 (.tmp 4) (.tmp 11), 0, none⟩] [0, 1, 4])
 (.seq (.draw (drawOps 0 c85code) [0, 4]) (sg c85S0)))
noncomputable def c85D0 : List (Nat × Ins) := [
 (0, ⟨some 12, .move (.tmp 0), 26, none⟩),
 (0, ⟨some 13, .nilCheck (.tmp 12), 0, none⟩),
 (0, ⟨some 14, .fieldAddr 123 (.tmp 13) 1, 0, none⟩),
 (0, ⟨some 16, .move (.tmp 1), 3, none⟩),
 (0, ⟨some 17, .binOp .add 3 (.tmp 16) (.const (.int .i64 1)) 3, 3, none⟩),
 (0, ⟨some 19, .move (.tmp 0), 26, none⟩),
 (0, ⟨some 20, .nilCheck (.tmp 19), 0, none⟩),
 (0, ⟨some 21, .fieldAddr 123 (.tmp 20) 1, 0, none⟩),
 (0, ⟨some 23, .move (.tmp 1), 3, none⟩),
 (1, ⟨some 15, .load 121 (.tmp 14), 121, none⟩),
 (0, ⟨some 18, .slice 121 (.tmp 15) (some (.const (.int .i64 1))) (some (.tmp 17)) none, 121, none⟩),
 (2, ⟨some 22, .load 121 (.tmp 21), 121, none⟩),
 (0, ⟨some 24, .slice 121 (.tmp 22) none (some (.tmp 23)) none, 121, none⟩),
 (2, ⟨some 25, .call ⟨.builtin .copy, #[(.tmp 18), (.tmp 24)], #[121, 121]⟩, 3, none⟩)]
theorem c85draw0 {L : List Nat} {ρ : Env} {w : World} {Q : Post} (S : World → Prop) (hS : S w.drew) (h : DG Tryz.prog S c85D0 L ρ w.drew Q) : drawW Tryz.prog (drawOps 0 c85code) L ρ w Q :=
  drawW_held [3] [(0, 0), (0, 1), (0, 2), (0, 4), (0, 5), (0, 7), (0, 8), (0, 9), (0, 11), (1, 3), (0, 6), (2, 10), (0, 12), (2, 13)] c85D0 (by kernel_rfl) (by kernel_rfl) (by kernel_rfl) S hS h
noncomputable def c85D1 : List (Nat × Ins) := [
 (0, ⟨some 26, .move (.tmp 0), 26, none⟩),
 (0, ⟨some 27, .nilCheck (.tmp 26), 0, none⟩),
 (0, ⟨some 28, .fieldAddr 123 (.tmp 27) 1, 0, none⟩),
 (1, ⟨some 29, .load 121 (.tmp 28), 121, none⟩),
 (2, ⟨some 30, .load 132 (.tmp 4), 132, none⟩),
 (0, ⟨some 31, .indexAddr 121 (.tmp 29) (.const (.int .i64 0)), 0, none⟩),
 (3, ⟨none, .store 132 (.tmp 31) (.tmp 30), 0, none⟩)]
theorem c85draw1 {L : List Nat} {ρ : Env} {w : World} {Q : Post} (S : World → Prop) (hS : S w.drew) (h : DG Tryz.prog S c85D1 L ρ w.drew Q) : drawW Tryz.prog (drawOps 1 c85code) L ρ w Q :=
  drawW_held [3] [(0, 0), (0, 1), (0, 2), (1, 3), (2, 4), (0, 5), (3, 6)] c85D1 (by kernel_rfl) (by kernel_rfl) (by kernel_rfl) S hS h
set_option maxRecDepth 100000 in
theorem ent85 (a0 a1 : Value) (w : World) (K : Value → World → Prop) (h : W Tryz.prog c85 [(0, a0), (1, a1)] w (finQ Tryz.prog [] K)) : Ret Tryz.prog 85 [a0, a1] w K :=
  Ret_of_W (code := c85code) Tryz.func85 (by kernel_rfl) (by kernel_rfl) (of_decide_eq_true (by kernel_rfl)) h
@[go_sem] theorem go85 : goFunc Tryz.prog 85 = true := by kernel_rfl
noncomputable def c97code : Code := match Tryz.f97.body with | some c => c | none => .skip
noncomputable def c97S0 (_ : Unit) : Cmd := (.seq (.block 1 (.seq (.ops [
 ⟨some 11, .move (.tmp 9), 3, none⟩,
 ⟨some 4, .assign (.tmp 11), 3, none⟩] [3, 4, 8, 9])
 (.ops [
 ⟨some 12, .move (.tmp 3), 106, none⟩,
 ⟨some 13, .move (.tmp 4), 3, none⟩,
 ⟨some 14, .indexAddr 106 (.tmp 12) (.tmp 13), 0, none⟩,
 ⟨some 15, .load 5 (.tmp 14), 5, none⟩,
 ⟨some 16, .binOp .xor 5 (.tmp 15) (.const (.int .u8 255)) 5, 5, none⟩,
 ⟨some 17, .indexAddr 106 (.tmp 12) (.tmp 13), 0, none⟩,
 ⟨none, .store 5 (.tmp 17) (.tmp 16), 0, none⟩] [3, 8, 9])))
 (.ops [
 ⟨some 18, .binOp .add 3 (.tmp 9) (.const (.int .i64 1)) 3, 3, none⟩,
 ⟨some 9, .move (.tmp 18), 3, none⟩] [3, 8, 9]))
noncomputable def c97L0 (_ : Unit) : Cmd := (.seq (.ops [
 ⟨some 10, .binOp .lss 3 (.tmp 9) (.tmp 8) 3, 0, none⟩] [3, 8, 9, 10])
 (.seq (.cond (.tmp 10)
  (.skip [3, 8, 9])
  (.exit 0 [3])) (sg c97S0)))
noncomputable def c97S1 (_ : Unit) : Cmd := (.seq (.ops [
 ⟨some 19, .move (.tmp 3), 106, none⟩,
 ⟨some 20, .convert 106 9 (.tmp 19), 9, none⟩,
 ⟨some 2, .assign (.tmp 20), 9, none⟩] [2])
 .ret)
noncomputable def c97 : Cmd := (.seq (.ops [
 ⟨some 2, .assign (.const (.string (ofL []))), 9, none⟩] [0])
 (.seq (.ops [
 ⟨some 5, .move (.tmp 0), 9, none⟩,
 ⟨some 6, .convert 9 106 (.tmp 5), 106, none⟩,
 ⟨some 3, .assign (.tmp 6), 106, none⟩] [3])
 (.seq (.seq (.ops [
 ⟨some 7, .move (.tmp 3), 106, none⟩,
 ⟨some 8, .call ⟨.builtin .len, #[(.tmp 7)], #[106]⟩, 3, none⟩,
 ⟨some 9, .move (.const (.int .i64 0)), 3, none⟩] [3, 8, 9])
 (.block 0 (.loop (sg c97L0)))) (sg c97S1))))
set_option maxRecDepth 100000 in
theorem ent97 (a0 : Value) (w : World) (K : Value → World → Prop) (h : W Tryz.prog c97 [(0, a0)] w (finQ Tryz.prog [.tmp 2] K)) : Ret Tryz.prog 97 [a0] w K :=
  Ret_of_W (code := c97code) Tryz.func97 (by kernel_rfl) (by kernel_rfl) (of_decide_eq_true (by kernel_rfl)) h
@[go_sem] theorem go97 : goFunc Tryz.prog 97 = true := by kernel_rfl
noncomputable def c98code : Code := match Tryz.f98.body with | some c => c | none => .skip
noncomputable def c98S0 (_ : Unit) : Cmd := .ret
noncomputable def c98 : Cmd := (.seq (.ops [
 ⟨some 3, .assign (.const (.int .i64 0)), 3, none⟩] [0, 1])
 (.seq (.ops [
 ⟨some 4, .load 9 (.tmp 1), 9, none⟩,
 ⟨some 5, .move (.tmp 0), 3, none⟩,
 ⟨some 6, .move (.tmp 0), 3, none⟩,
 ⟨some 7, .binOp .add 3 (.tmp 6) (.const (.int .i64 4)) 3, 3, none⟩,
 ⟨some 8, .slice 9 (.tmp 4) (some (.tmp 5)) (some (.tmp 7)) none, 9, none⟩,
 ⟨some 9, .call ⟨.value (.func 33), #[(.tmp 8)], #[9]⟩, 58, none⟩,
 ⟨some 10, .convert 58 3 (.tmp 9), 3, none⟩,
 ⟨some 3, .assign (.tmp 10), 3, none⟩] [3]) (sg c98S0)))
set_option maxRecDepth 100000 in
theorem ent98 (a0 a1 : Value) (w : World) (K : Value → World → Prop) (h : W Tryz.prog c98 [(0, a0), (1, a1)] w (finQ Tryz.prog [.tmp 3] K)) : Ret Tryz.prog 98 [a0, a1] w K :=
  Ret_of_W (code := c98code) Tryz.func98 (by kernel_rfl) (by kernel_rfl) (of_decide_eq_true (by kernel_rfl)) h
@[go_sem] theorem go98 : goFunc Tryz.prog 98 = true := by kernel_rfl
noncomputable def c102code : Code := match Tryz.f102.body with | some c => c | none => .skip
noncomputable def c102S0 (_ : Unit) : Cmd := (.cond (.tmp 16)
  (.seq (.ops [
  ⟨some 17, .move (.tmp 5), 3, none⟩,
  ⟨some 4, .assign (.tmp 17), 3, none⟩] [4])
  .ret)
  (.skip [0, 1, 7, 8]))
noncomputable def c102S1 (_ : Unit) : Cmd := (.ops [
 ⟨some 18, .binOp .add 3 (.tmp 8) (.const (.int .i64 1)) 3, 3, none⟩,
 ⟨some 8, .move (.tmp 18), 3, none⟩] [0, 1, 7, 8])
noncomputable def c102S2 (_ : Unit) : Cmd := (.seq (.block 1 (.seq (.ops [
 ⟨some 10, .move (.tmp 8), 3, none⟩,
 ⟨some 5, .assign (.tmp 10), 3, none⟩] [0, 1, 5, 7, 8])
 (.seq (.ops [
 ⟨some 11, .move (.tmp 1), 151, none⟩,
 ⟨some 12, .move (.tmp 0), 121, none⟩,
 ⟨some 13, .move (.tmp 5), 3, none⟩,
 ⟨some 14, .indexAddr 121 (.tmp 12) (.tmp 13), 0, none⟩,
 ⟨some 15, .load 132 (.tmp 14), 132, none⟩,
 ⟨some 16, .call ⟨.value (.tmp 11), #[(.tmp 15)], #[132]⟩, 4, none⟩] [0, 1, 5, 7, 8, 16]) (sg c102S0)))) (sg c102S1))
noncomputable def c102L0 (_ : Unit) : Cmd := (.seq (.ops [
 ⟨some 9, .binOp .lss 3 (.tmp 8) (.tmp 7) 3, 0, none⟩] [0, 1, 7, 8, 9])
 (.seq (.cond (.tmp 9)
  (.skip [0, 1, 7, 8])
  (.exit 0 [])) (sg c102S2)))
noncomputable def c102S3 (_ : Unit) : Cmd := (.seq (.ops [
 ⟨some 4, .assign (.const (.int .i64 (-1))), 3, none⟩] [4])
 .ret)
noncomputable def c102 : Cmd := (.seq (.ops [
 ⟨some 4, .assign (.const (.int .i64 0)), 3, none⟩] [0, 1])
 (.seq (.seq (.ops [
 ⟨some 6, .move (.tmp 0), 121, none⟩,
 ⟨some 7, .call ⟨.builtin .len, #[(.tmp 6)], #[121]⟩, 3, none⟩,
 ⟨some 8, .move (.const (.int .i64 0)), 3, none⟩] [0, 1, 7, 8])
 (.block 0 (.loop (sg c102L0)))) (sg c102S3)))
set_option maxRecDepth 100000 in
theorem ent102 (a0 a1 : Value) (w : World) (K : Value → World → Prop) (h : W Tryz.prog c102 [(0, a0), (1, a1)] w (finQ Tryz.prog [.tmp 4] K)) : Ret Tryz.prog 102 [a0, a1] w K :=
  Ret_of_W (code := c102code) Tryz.func102 (by kernel_rfl) (by kernel_rfl) (of_decide_eq_true (by kernel_rfl)) h
@[go_sem] theorem go102 : goFunc Tryz.prog 102 = true := by kernel_rfl
noncomputable def c103code : Code := match Tryz.f103.body with | some c => c | none => .skip
noncomputable def c103 : Cmd := (.seq (.ops [
 ⟨some 2, .box 132 (.tmp 0), 0, none⟩,
 ⟨some 3, .assign (.const (.bool false)), 4, none⟩] [1, 2])
 (.seq (.ops [
 ⟨some 4, .fieldAddr 132 (.tmp 2) 0, 0, none⟩,
 ⟨some 5, .load 3 (.tmp 4), 3, none⟩,
 ⟨some 6, .load 3 (.tmp 1), 3, none⟩,
 ⟨some 7, .binOp .eql 3 (.tmp 5) (.tmp 6) 3, 4, none⟩,
 ⟨some 3, .assign (.tmp 7), 4, none⟩] [3])
 .ret))
set_option maxRecDepth 100000 in
theorem ent103 (a0 a1 : Value) (w : World) (K : Value → World → Prop) (h : W Tryz.prog c103 [(0, a0), (1, a1)] w (finQ Tryz.prog [.tmp 3] K)) : Ret Tryz.prog 103 [a0, a1] w K :=
  Ret_of_W (code := c103code) Tryz.func103 (by kernel_rfl) (by kernel_rfl) (of_decide_eq_true (by kernel_rfl)) h
@[go_sem] theorem go103 : goFunc Tryz.prog 103 = true := by kernel_rfl
@[go_sem] theorem go34 : goFunc Tryz.prog 34 = true := by kernel_rfl
@[go_sem] theorem go39 : goFunc Tryz.prog 39 = true := by kernel_rfl
@[go_sem] theorem go64 : goFunc Tryz.prog 64 = true := by kernel_rfl
@[go_sem] theorem go65 : goFunc Tryz.prog 65 = true := by kernel_rfl
@[go_sem] theorem go66 : goFunc Tryz.prog 66 = true := by kernel_rfl
@[go_sem] theorem go67 : goFunc Tryz.prog 67 = true := by kernel_rfl
@[go_sem] theorem go54 : goFunc Tryz.prog 54 = true := by kernel_rfl
@[go_sem] theorem go55 : goFunc Tryz.prog 55 = true := by kernel_rfl
@[go_sem] theorem go80 : goFunc Tryz.prog 80 = true := by kernel_rfl
@[go_sem] theorem go92 : goFunc Tryz.prog 92 = true := by kernel_rfl
@[go_sem] theorem go116 : goFunc Tryz.prog 116 = true := by kernel_rfl
@[go_sem] theorem go79 : goFunc Tryz.prog 79 = true := by kernel_rfl
@[go_sem] theorem go100 : goFunc Tryz.prog 100 = true := by kernel_rfl
@[go_sem] theorem go101 : goFunc Tryz.prog 101 = true := by kernel_rfl
noncomputable def c84code : Code := match Tryz.f84.body with | some c => c | none => .skip
noncomputable def c84S0 (_ : Unit) : Cmd := (.seq (.ops [
 ⟨some 32, .move (.tmp 0), 121, none⟩,
 ⟨some 6, .assign (.tmp 32), 121, none⟩] [6])
 .ret)
noncomputable def c84S1 (_ : Unit) : Cmd := (.seq (.ops [
 ⟨some 27, .move (.tmp 0), 121, none⟩,
 ⟨some 28, .move (.tmp 0), 121, none⟩,
 ⟨some 29, .call ⟨.builtin .len, #[(.tmp 28)], #[121]⟩, 3, none⟩,
 ⟨some 30, .move (.tmp 7), 3, none⟩,
 ⟨some 31, .slice 121 (.tmp 27) (some (.tmp 29)) (some (.tmp 30)) none, 121, none⟩,
 ⟨none, .call ⟨.builtin .clear, #[(.tmp 31)], #[121]⟩, 0, none⟩] [0]) (sg c84S0))
noncomputable def c84S2 (_ : Unit) : Cmd := (.seq (.ops [
 ⟨some 18, .move (.tmp 0), 121, none⟩,
 ⟨some 19, .call ⟨.builtin .len, #[(.tmp 18)], #[121]⟩, 3, none⟩,
 ⟨some 7, .assign (.tmp 19), 3, none⟩] [0, 1, 2, 7])
 (.seq (.draw (drawOps 0 c84code) [0, 7]) (sg c84S1)))
noncomputable def c84 : Cmd := (.seq (.ops [
 ⟨some 6, .assign (.const (.slice none 0 0)), 121, none⟩] [0, 1, 2])
 (.seq (.ops [
 ⟨some 8, .move (.tmp 0), 121, none⟩,
 ⟨some 9, .move (.tmp 1), 3, none⟩,
 ⟨some 10, .move (.tmp 2), 3, none⟩,
 ⟨some 11, .move (.tmp 0), 121, none⟩,
 ⟨some 12, .call ⟨.builtin .len, #[(.tmp 11)], #[121]⟩, 3, none⟩,
 ⟨some 13, .slice 121 (.tmp 8) (some (.tmp 9)) (some (.tmp 10)) (some (.tmp 12)), 121, none⟩] [0, 1, 2])
 (.seq (.seq (.ops [
 ⟨some 14, .move (.tmp 1), 3, none⟩,
 ⟨some 15, .move (.tmp 2), 3, none⟩,
 ⟨some 16, .binOp .eql 3 (.tmp 14) (.tmp 15) 3, 4, none⟩] [0, 1, 2, 16])
 (.cond (.tmp 16)
  (.seq (.ops [
  ⟨some 17, .move (.tmp 0), 121, none⟩,
  ⟨some 6, .assign (.tmp 17), 121, none⟩] [6])
  .ret)
  (.skip [0, 1, 2]))) (sg c84S2))))
noncomputable def c84D0 : List (Bool × Ins) := [
 (true, ⟨some 20, .move (.tmp 0), 121, none⟩),
 (true, ⟨some 21, .move (.tmp 1), 3, none⟩),
 (true, ⟨some 22, .slice 121 (.tmp 20) none (some (.tmp 21)) none, 121, none⟩),
 (true, ⟨some 23, .move (.tmp 0), 121, none⟩),
 (true, ⟨some 24, .move (.tmp 2), 3, none⟩),
 (true, ⟨some 25, .slice 121 (.tmp 23) (some (.tmp 24)) none none, 121, none⟩),
 (false, ⟨some 26, .call ⟨.builtin .append, #[(.tmp 22), (.tmp 25)], #[121, 121]⟩, 121, none⟩),
 (true, ⟨some 0, .assign (.tmp 26), 121, none⟩)]
theorem c84draw0 {L : List Nat} {ρ : Env} {w : World} {Q : Post} (h : DL Tryz.prog c84D0 L ρ w.drew Q) : drawW Tryz.prog (drawOps 0 c84code) L ρ w Q :=
  drawW_by [(true, 0), (true, 1), (true, 2), (true, 3), (true, 4), (true, 5), (false, 6), (true, 7)] c84D0 (by kernel_rfl) (by kernel_rfl) (by kernel_rfl) h
set_option maxRecDepth 100000 in
theorem ent84 (a0 a1 a2 : Value) (w : World) (K : Value → World → Prop) (h : W Tryz.prog c84 [(0, a0), (1, a1), (2, a2)] w (finQ Tryz.prog [.tmp 6] K)) : Ret Tryz.prog 84 [a0, a1, a2] w K :=
  Ret_of_W (code := c84code) Tryz.func84 (by kernel_rfl) (by kernel_rfl) (of_decide_eq_true (by kernel_rfl)) h
@[go_sem] theorem go84 : goFunc Tryz.prog 84 = true := by kernel_rfl
noncomputable def c86code : Code := match Tryz.f86.body with | some c => c | none => .skip
noncomputable def c86S0 (_ : Unit) : Cmd := .ret
noncomputable def c86S1 (_ : Unit) : Cmd := (.seq (.ops [
  ⟨some 55, .move (.tmp 9), 121, none⟩,
  ⟨some 6, .assign (.tmp 55), 121, none⟩] [6])
  .ret)
noncomputable def c86S2 (_ : Unit) : Cmd := (.seq (.draw (drawOps 0 c86code) [9]) (sg c86S1))
noncomputable def c86S3 (_ : Unit) : Cmd := (.seq (.ops [
  ⟨some 41, .move (.tmp 9), 121, none⟩,
  ⟨some 42, .move (.tmp 1), 3, none⟩,
  ⟨some 43, .slice 121 (.tmp 41) (some (.tmp 42)) none none, 121, none⟩,
  ⟨some 44, .move (.tmp 2), 121, none⟩,
  ⟨some 45, .call ⟨.builtin .copy, #[(.tmp 43), (.tmp 44)], #[121, 121]⟩, 3, none⟩] [0, 1, 7, 9]) (sg c86S2))
noncomputable def c86S4 (_ : Unit) : Cmd := (.cond (.tmp 31)
  (.seq (.ops [
  ⟨some 32, .move (.tmp 0), 121, none⟩,
  ⟨some 33, .move (.tmp 1), 3, none⟩,
  ⟨some 34, .slice 121 (.tmp 32) none (some (.tmp 33)) none, 121, none⟩,
  ⟨some 35, .move (.tmp 8), 3, none⟩,
  ⟨some 36, .move (.tmp 7), 3, none⟩,
  ⟨some 37, .binOp .add 3 (.tmp 35) (.tmp 36) 3, 3, none⟩,
  ⟨some 38, .move (.tmp 1), 3, none⟩,
  ⟨some 39, .binOp .sub 3 (.tmp 37) (.tmp 38) 3, 3, none⟩,
  ⟨some 40, .call ⟨.builtin .append, #[(.tmp 34), (.tmp 39)], #[121, 3]⟩, 121, none⟩,
  ⟨some 9, .assign (.tmp 40), 121, none⟩] [0, 1, 2, 7, 9]) (sg c86S3))
  (.skip [0, 1, 2, 7, 8]))
noncomputable def c86S5 (_ : Unit) : Cmd := (.seq (.ops [
  ⟨some 83, .move (.tmp 0), 121, none⟩,
  ⟨some 6, .assign (.tmp 83), 121, none⟩] [6])
  .ret)
noncomputable def c86S6 (_ : Unit) : Cmd := (.seq (.ops [
  ⟨some 78, .move (.tmp 0), 121, none⟩,
  ⟨some 79, .move (.tmp 1), 3, none⟩,
  ⟨some 80, .slice 121 (.tmp 78) (some (.tmp 79)) none none, 121, none⟩,
  ⟨some 81, .move (.tmp 2), 121, none⟩,
  ⟨some 82, .call ⟨.builtin .copy, #[(.tmp 80), (.tmp 81)], #[121, 121]⟩, 3, none⟩] [0]) (sg c86S5))
noncomputable def c86S7 (_ : Unit) : Cmd := (.cond (.tmp 68)
  (.seq (.draw (drawOps 1 c86code) [0, 1, 2]) (sg c86S6))
  (.skip [0, 1, 2, 7, 8]))
noncomputable def c86S8 (_ : Unit) : Cmd := (.seq (.ops [
 ⟨some 94, .move (.tmp 0), 121, none⟩,
 ⟨some 6, .assign (.tmp 94), 121, none⟩] [6])
 .ret)
noncomputable def c86S9 (_ : Unit) : Cmd := (.seq (.ops [
 ⟨some 89, .move (.tmp 0), 121, none⟩,
 ⟨some 90, .move (.tmp 1), 3, none⟩,
 ⟨some 91, .slice 121 (.tmp 89) (some (.tmp 90)) none none, 121, none⟩,
 ⟨some 92, .move (.tmp 7), 3, none⟩,
 ⟨some 93, .call ⟨.value (.func 105), #[(.tmp 91), (.tmp 92)], #[121, 3]⟩, 0, none⟩] [0]) (sg c86S8))
noncomputable def c86S10 (_ : Unit) : Cmd := (.seq (.ops [
 ⟨some 84, .move (.tmp 0), 121, none⟩,
 ⟨some 85, .move (.tmp 8), 3, none⟩,
 ⟨some 86, .slice 121 (.tmp 84) (some (.tmp 85)) none none, 121, none⟩,
 ⟨some 87, .move (.tmp 2), 121, none⟩,
 ⟨some 88, .call ⟨.builtin .copy, #[(.tmp 86), (.tmp 87)], #[121, 121]⟩, 3, none⟩] [0, 1, 7]) (sg c86S9))
noncomputable def c86S11 (_ : Unit) : Cmd := (.seq (.ops [
 ⟨some 56, .move (.tmp 0), 121, none⟩,
 ⟨some 57, .move (.tmp 8), 3, none⟩,
 ⟨some 58, .move (.tmp 7), 3, none⟩,
 ⟨some 59, .binOp .add 3 (.tmp 57) (.tmp 58) 3, 3, none⟩,
 ⟨some 60, .slice 121 (.tmp 56) none (some (.tmp 59)) none, 121, none⟩,
 ⟨some 0, .assign (.tmp 60), 121, none⟩] [0, 1, 2, 7, 8])
 (.seq (.seq (.ops [
 ⟨some 61, .move (.tmp 2), 121, none⟩,
 ⟨some 62, .move (.tmp 0), 121, none⟩,
 ⟨some 63, .move (.tmp 1), 3, none⟩,
 ⟨some 64, .move (.tmp 7), 3, none⟩,
 ⟨some 65, .binOp .add 3 (.tmp 63) (.tmp 64) 3, 3, none⟩,
 ⟨some 66, .slice 121 (.tmp 62) (some (.tmp 65)) none none, 121, none⟩,
 ⟨some 67, .call ⟨.value (.func 104), #[(.tmp 61), (.tmp 66)], #[121, 121]⟩, 4, none⟩,
 ⟨some 68, .unOp .not 4 (.tmp 67), 4, none⟩] [0, 1, 2, 7, 8, 68]) (sg c86S7)) (sg c86S10)))
noncomputable def c86S12 (_ : Unit) : Cmd := (.seq (.seq (.ops [
 ⟨some 26, .move (.tmp 8), 3, none⟩,
 ⟨some 27, .move (.tmp 7), 3, none⟩,
 ⟨some 28, .binOp .add 3 (.tmp 26) (.tmp 27) 3, 3, none⟩,
 ⟨some 29, .move (.tmp 0), 121, none⟩,
 ⟨some 30, .call ⟨.builtin .cap, #[(.tmp 29)], #[121]⟩, 3, none⟩,
 ⟨some 31, .binOp .gtr 3 (.tmp 28) (.tmp 30) 3, 4, none⟩] [0, 1, 2, 7, 8, 31]) (sg c86S4)) (sg c86S11))
noncomputable def c86S13 (_ : Unit) : Cmd := (.seq (.ops [
 ⟨some 18, .move (.tmp 0), 121, none⟩,
 ⟨some 19, .call ⟨.builtin .len, #[(.tmp 18)], #[121]⟩, 3, none⟩,
 ⟨some 8, .assign (.tmp 19), 3, none⟩] [0, 1, 2, 7, 8])
 (.seq (.seq (.ops [
 ⟨some 20, .move (.tmp 1), 3, none⟩,
 ⟨some 21, .move (.tmp 8), 3, none⟩,
 ⟨some 22, .binOp .eql 3 (.tmp 20) (.tmp 21) 3, 4, none⟩] [0, 1, 2, 7, 8, 22])
 (.cond (.tmp 22)
  (.seq (.ops [
  ⟨some 23, .move (.tmp 0), 121, none⟩,
  ⟨some 24, .move (.tmp 2), 121, none⟩,
  ⟨some 25, .call ⟨.builtin .append, #[(.tmp 23), (.tmp 24)], #[121, 121]⟩, 121, none⟩,
  ⟨some 6, .assign (.tmp 25), 121, none⟩] [6]) (sg c86S0))
  (.skip [0, 1, 2, 7, 8]))) (sg c86S12)))
noncomputable def c86 : Cmd := (.seq (.ops [
 ⟨some 6, .assign (.const (.slice none 0 0)), 121, none⟩] [0, 1, 2])
 (.seq (.ops [
 ⟨some 10, .move (.tmp 0), 121, none⟩,
 ⟨some 11, .move (.tmp 1), 3, none⟩,
 ⟨some 12, .slice 121 (.tmp 10) (some (.tmp 11)) none none, 121, none⟩] [0, 1, 2])
 (.seq (.ops [
 ⟨some 13, .move (.tmp 2), 121, none⟩,
 ⟨some 14, .call ⟨.builtin .len, #[(.tmp 13)], #[121]⟩, 3, none⟩,
 ⟨some 7, .assign (.tmp 14), 3, none⟩] [0, 1, 2, 7])
 (.seq (.seq (.ops [
 ⟨some 15, .move (.tmp 7), 3, none⟩,
 ⟨some 16, .binOp .eql 3 (.tmp 15) (.const (.int .i64 0)) 3, 4, none⟩] [0, 1, 2, 7, 16])
 (.cond (.tmp 16)
  (.seq (.ops [
  ⟨some 17, .move (.tmp 0), 121, none⟩,
  ⟨some 6, .assign (.tmp 17), 121, none⟩] [6])
  .ret)
  (.skip [0, 1, 2, 7]))) (sg c86S13)))))
noncomputable def c86D0 : List (Bool × Ins) := [
 (true, ⟨some 46, .move (.tmp 9), 121, none⟩),
 (true, ⟨some 47, .move (.tmp 1), 3, none⟩),
 (true, ⟨some 48, .move (.tmp 7), 3, none⟩),
 (true, ⟨some 49, .binOp .add 3 (.tmp 47) (.tmp 48) 3, 3, none⟩),
 (true, ⟨some 50, .slice 121 (.tmp 46) (some (.tmp 49)) none none, 121, none⟩),
 (true, ⟨some 51, .move (.tmp 0), 121, none⟩),
 (true, ⟨some 52, .move (.tmp 1), 3, none⟩),
 (true, ⟨some 53, .slice 121 (.tmp 51) (some (.tmp 52)) none none, 121, none⟩),
 (false, ⟨some 54, .call ⟨.builtin .copy, #[(.tmp 50), (.tmp 53)], #[121, 121]⟩, 3, none⟩)]
theorem c86draw0 {L : List Nat} {ρ : Env} {w : World} {Q : Post} (h : DL Tryz.prog c86D0 L ρ w.drew Q) : drawW Tryz.prog (drawOps 0 c86code) L ρ w Q :=
  drawW_by [(true, 0), (true, 1), (true, 2), (true, 3), (true, 4), (true, 5), (true, 6), (true, 7), (false, 8)] c86D0 (by kernel_rfl) (by kernel_rfl) (by kernel_rfl) h
noncomputable def c86D1 : List (Bool × Ins) := [
 (true, ⟨some 69, .move (.tmp 0), 121, none⟩),
 (true, ⟨some 70, .move (.tmp 1), 3, none⟩),
 (true, ⟨some 71, .move (.tmp 7), 3, none⟩),
 (true, ⟨some 72, .binOp .add 3 (.tmp 70) (.tmp 71) 3, 3, none⟩),
 (true, ⟨some 73, .slice 121 (.tmp 69) (some (.tmp 72)) none none, 121, none⟩),
 (true, ⟨some 74, .move (.tmp 0), 121, none⟩),
 (true, ⟨some 75, .move (.tmp 1), 3, none⟩),
 (true, ⟨some 76, .slice 121 (.tmp 74) (some (.tmp 75)) none none, 121, none⟩),
 (false, ⟨some 77, .call ⟨.builtin .copy, #[(.tmp 73), (.tmp 76)], #[121, 121]⟩, 3, none⟩)]
theorem c86draw1 {L : List Nat} {ρ : Env} {w : World} {Q : Post} (h : DL Tryz.prog c86D1 L ρ w.drew Q) : drawW Tryz.prog (drawOps 1 c86code) L ρ w Q :=
  drawW_by [(true, 0), (true, 1), (true, 2), (true, 3), (true, 4), (true, 5), (true, 6), (true, 7), (false, 8)] c86D1 (by kernel_rfl) (by kernel_rfl) (by kernel_rfl) h
set_option maxRecDepth 100000 in
theorem ent86 (a0 a1 a2 : Value) (w : World) (K : Value → World → Prop) (h : W Tryz.prog c86 [(0, a0), (1, a1), (2, a2)] w (finQ Tryz.prog [.tmp 6] K)) : Ret Tryz.prog 86 [a0, a1, a2] w K :=
  Ret_of_W (code := c86code) Tryz.func86 (by kernel_rfl) (by kernel_rfl) (of_decide_eq_true (by kernel_rfl)) h
@[go_sem] theorem go86 : goFunc Tryz.prog 86 = true := by kernel_rfl
@[go_sem] theorem go91 : goFunc Tryz.prog 91 = true := by kernel_rfl
noncomputable def c3code : Code := match Tryz.f3.body with | some c => c | none => .skip
noncomputable def c3S0 (_ : Unit) : Cmd := (.cond (.tmp 110)
  (.seq (.ops [
  ⟨some 2, .assign (.const (.bool false)), 4, none⟩] [2])
  .ret)
  (.skip [1, 15, 16, 17]))
noncomputable def c3S1 (_ : Unit) : Cmd := (.seq (.ops [
 ⟨some 42, .move (.tmp 5), 3, none⟩,
 ⟨some 43, .binOp .neq 3 (.tmp 42) (.const (.int .i64 0)) 3, 4, none⟩,
 ⟨some 44, .move (.tmp 43), 4, none⟩,
 ⟨some 45, .move (.tmp 6), 30, (some (44, false))⟩,
 ⟨some 46, .binOp .neq 30 (.tmp 45) (.const (.int .i64 3)) 30, 4, (some (44, false))⟩,
 ⟨some 47, .pick (.tmp 44) (.const (.bool true)) (.tmp 46), 4, none⟩,
 ⟨some 48, .move (.tmp 47), 4, none⟩,
 ⟨some 49, .move (.tmp 7), 9, (some (48, false))⟩,
 ⟨some 50, .binOp .neq 9 (.tmp 49) (.const (.string (ofL []))) 9, 4, (some (48, false))⟩,
 ⟨some 51, .pick (.tmp 48) (.const (.bool true)) (.tmp 50), 4, none⟩,
 ⟨some 52, .move (.tmp 51), 4, none⟩,
 ⟨some 53, .move (.tmp 8), 30, (some (52, false))⟩,
 ⟨some 54, .move (.tmp 6), 30, (some (52, false))⟩,
 ⟨some 55, .binOp .neq 30 (.tmp 53) (.tmp 54) 30, 4, (some (52, false))⟩,
 ⟨some 56, .pick (.tmp 52) (.const (.bool true)) (.tmp 55), 4, none⟩,
 ⟨some 57, .move (.tmp 56), 4, none⟩,
 ⟨some 58, .move (.tmp 9), 3, (some (57, false))⟩,
 ⟨some 59, .binOp .neq 3 (.tmp 58) (.const (.int .i64 0)) 3, 4, (some (57, false))⟩,
 ⟨some 60, .pick (.tmp 57) (.const (.bool true)) (.tmp 59), 4, none⟩,
 ⟨some 61, .move (.tmp 60), 4, none⟩,
 ⟨some 62, .move (.tmp 10), 30, (some (61, false))⟩,
 ⟨some 63, .move (.tmp 6), 30, (some (61, false))⟩,
 ⟨some 64, .binOp .neq 30 (.tmp 62) (.tmp 63) 30, 4, (some (61, false))⟩,
 ⟨some 65, .pick (.tmp 61) (.const (.bool true)) (.tmp 64), 4, none⟩,
 ⟨some 66, .move (.tmp 65), 4, none⟩,
 ⟨some 67, .move (.tmp 4), 24, (some (66, false))⟩,
 ⟨some 68, .fieldAddr 23 (.tmp 1) 1, 0, (some (66, false))⟩,
 ⟨some 69, .load 3 (.tmp 68), 3, (some (66, false))⟩,
 ⟨some 70, .call ⟨.value (.func 9), #[(.tmp 67), (.tmp 69)], #[24, 3]⟩, 30, (some (66, false))⟩,
 ⟨some 71, .move (.tmp 6), 30, (some (66, false))⟩,
 ⟨some 72, .binOp .neq 30 (.tmp 70) (.tmp 71) 30, 4, (some (66, false))⟩,
 ⟨some 73, .pick (.tmp 66) (.const (.bool true)) (.tmp 72), 4, none⟩,
 ⟨some 74, .move (.tmp 73), 4, none⟩,
 ⟨some 75, .move (.tmp 4), 24, (some (74, false))⟩,
 ⟨some 76, .fieldAddr 23 (.tmp 1) 1, 0, (some (74, false))⟩,
 ⟨some 77, .load 3 (.tmp 76), 3, (some (74, false))⟩,
 ⟨some 78, .fieldAddr 23 (.tmp 1) 3, 0, (some (74, false))⟩,
 ⟨some 79, .load 9 (.tmp 78), 9, (some (74, false))⟩,
 ⟨some 80, .call ⟨.value (.func 10), #[(.tmp 75), (.tmp 77), (.tmp 79)], #[24, 3, 9]⟩, 30, (some (74, false))⟩,
 ⟨some 81, .move (.tmp 6), 30, (some (74, false))⟩,
 ⟨some 82, .binOp .neq 30 (.tmp 80) (.tmp 81) 30, 4, (some (74, false))⟩,
 ⟨some 83, .pick (.tmp 74) (.const (.bool true)) (.tmp 82), 4, none⟩,
 ⟨some 84, .move (.tmp 83), 4, none⟩,
 ⟨some 85, .move (.tmp 4), 24, (some (84, false))⟩,
 ⟨some 86, .fieldAddr 23 (.tmp 1) 1, 0, (some (84, false))⟩,
 ⟨some 87, .load 3 (.tmp 86), 3, (some (84, false))⟩,
 ⟨some 88, .fieldAddr 23 (.tmp 1) 2, 0, (some (84, false))⟩,
 ⟨some 89, .load 3 (.tmp 88), 3, (some (84, false))⟩,
 ⟨some 90, .call ⟨.value (.func 11), #[(.tmp 85), (.tmp 87), (.tmp 89)], #[24, 3, 3]⟩, 30, (some (84, false))⟩,
 ⟨some 91, .move (.tmp 6), 30, (some (84, false))⟩,
 ⟨some 92, .binOp .neq 30 (.tmp 90) (.tmp 91) 30, 4, (some (84, false))⟩,
 ⟨some 93, .pick (.tmp 84) (.const (.bool true)) (.tmp 92), 4, none⟩,
 ⟨some 94, .move (.tmp 93), 4, none⟩,
 ⟨some 95, .move (.tmp 4), 24, (some (94, false))⟩,
 ⟨some 96, .call ⟨.value (.func 12), #[(.tmp 95)], #[24]⟩, 3, (some (94, false))⟩,
 ⟨some 97, .binOp .neq 3 (.tmp 96) (.const (.int .i64 0)) 3, 4, (some (94, false))⟩,
 ⟨some 98, .pick (.tmp 94) (.const (.bool true)) (.tmp 97), 4, none⟩,
 ⟨some 99, .move (.tmp 98), 4, none⟩,
 ⟨some 100, .move (.tmp 4), 24, (some (99, false))⟩,
 ⟨some 101, .call ⟨.value (.func 13), #[(.tmp 100)], #[24]⟩, 30, (some (99, false))⟩,
 ⟨some 102, .move (.tmp 6), 30, (some (99, false))⟩,
 ⟨some 103, .binOp .neq 30 (.tmp 101) (.tmp 102) 30, 4, (some (99, false))⟩,
 ⟨some 104, .pick (.tmp 99) (.const (.bool true)) (.tmp 103), 4, none⟩,
 ⟨some 105, .move (.tmp 104), 4, none⟩,
 ⟨some 106, .move (.tmp 4), 24, (some (105, false))⟩,
 ⟨some 107, .call ⟨.value (.func 14), #[(.tmp 106)], #[24]⟩, 30, (some (105, false))⟩,
 ⟨some 108, .move (.tmp 6), 30, (some (105, false))⟩,
 ⟨some 109, .binOp .neq 30 (.tmp 107) (.tmp 108) 30, 4, (some (105, false))⟩,
 ⟨some 110, .pick (.tmp 105) (.const (.bool true)) (.tmp 109), 4, none⟩] [1, 15, 16, 17, 110]) (sg c3S0))
noncomputable def c3S2 (_ : Unit) : Cmd := (.seq (.ops [
 ⟨some 40, .move (.tmp 4), 24, none⟩,
 ⟨some 41, .call ⟨.value (.func 8), #[(.tmp 40)], #[24]⟩, 0, none⟩] [1, 4, 5, 6, 7, 8, 9, 10, 15, 16, 17]) (sg c3S1))
noncomputable def c3S3 (_ : Unit) : Cmd := (.seq (.ops [
 ⟨some 34, .move (.tmp 4), 24, none⟩,
 ⟨some 35, .fieldAddr 23 (.tmp 1) 1, 0, none⟩,
 ⟨some 36, .load 3 (.tmp 35), 3, none⟩,
 ⟨some 37, .call ⟨.value (.func 7), #[(.tmp 34), (.tmp 36)], #[24, 3]⟩, 31, none⟩,
 ⟨some 33, .move (.tmp 37), 31, none⟩,
 ⟨some 38, .extract (.tmp 33) 0, 3, none⟩,
 ⟨some 39, .extract (.tmp 33) 1, 30, none⟩,
 ⟨some 9, .assign (.tmp 38), 3, none⟩,
 ⟨some 10, .assign (.tmp 39), 30, none⟩] [1, 4, 5, 6, 7, 8, 9, 10, 15, 16, 17]) (sg c3S2))
noncomputable def c3S4 (_ : Unit) : Cmd := (.seq (.ops [
 ⟨some 27, .move (.tmp 4), 24, none⟩,
 ⟨some 28, .fieldAddr 23 (.tmp 1) 1, 0, none⟩,
 ⟨some 29, .load 3 (.tmp 28), 3, none⟩,
 ⟨some 30, .call ⟨.value (.func 6), #[(.tmp 27), (.tmp 29)], #[24, 3]⟩, 33, none⟩,
 ⟨some 26, .move (.tmp 30), 33, none⟩,
 ⟨some 31, .extract (.tmp 26) 0, 9, none⟩,
 ⟨some 32, .extract (.tmp 26) 1, 30, none⟩,
 ⟨some 7, .assign (.tmp 31), 9, none⟩,
 ⟨some 8, .assign (.tmp 32), 30, none⟩] [1, 4, 5, 6, 7, 8, 15, 16, 17]) (sg c3S3))
noncomputable def c3S5 (_ : Unit) : Cmd := (.ops [
 ⟨some 111, .binOp .add 3 (.tmp 17) (.const (.int .i64 1)) 3, 3, none⟩,
 ⟨some 17, .move (.tmp 111), 3, none⟩] [1, 15, 16, 17])
noncomputable def c3S6 (_ : Unit) : Cmd := (.seq (.block 1 (.seq (.ops [
 ⟨some 19, .indexAddr 29 (.tmp 15) (.tmp 17), 0, none⟩,
 ⟨some 20, .load 24 (.tmp 19), 24, none⟩,
 ⟨some 4, .assign (.tmp 20), 24, none⟩] [1, 4, 15, 16, 17])
 (.seq (.ops [
 ⟨some 22, .move (.tmp 4), 24, none⟩,
 ⟨some 23, .call ⟨.value (.func 5), #[(.tmp 22)], #[24]⟩, 31, none⟩,
 ⟨some 21, .move (.tmp 23), 31, none⟩,
 ⟨some 24, .extract (.tmp 21) 0, 3, none⟩,
 ⟨some 25, .extract (.tmp 21) 1, 30, none⟩,
 ⟨some 5, .assign (.tmp 24), 3, none⟩,
 ⟨some 6, .assign (.tmp 25), 30, none⟩] [1, 4, 5, 6, 15, 16, 17]) (sg c3S4)))) (sg c3S5))
noncomputable def c3L0 (_ : Unit) : Cmd := (.seq (.ops [
 ⟨some 18, .binOp .lss 3 (.tmp 17) (.tmp 16) 3, 0, none⟩] [1, 15, 16, 17, 18])
 (.seq (.cond (.tmp 18)
  (.skip [1, 15, 16, 17])
  (.exit 0 [])) (sg c3S6)))
noncomputable def c3S7 (_ : Unit) : Cmd := .ret
noncomputable def c3S8 (_ : Unit) : Cmd := (.seq (.ops [
 ⟨some 116, .move (.tmp 11), 24, none⟩,
 ⟨some 117, .binOp .eql 24 (.tmp 116) (.const (.pointer none)) 24, 4, none⟩,
 ⟨some 118, .move (.tmp 117), 4, none⟩,
 ⟨some 119, .move (.tmp 12), 30, (some (118, true))⟩,
 ⟨some 120, .binOp .eql 30 (.tmp 119) (.const (.int .i64 3)) 30, 4, (some (118, true))⟩,
 ⟨some 121, .pick (.tmp 118) (.tmp 120) (.const (.bool false)), 4, none⟩,
 ⟨some 122, .move (.tmp 121), 4, none⟩,
 ⟨some 123, .call ⟨.value (.func 16), #[], #[]⟩, 4, (some (122, true))⟩,
 ⟨some 124, .pick (.tmp 122) (.tmp 123) (.const (.bool false)), 4, none⟩,
 ⟨some 2, .assign (.tmp 124), 4, none⟩] [2]) (sg c3S7))
noncomputable def c3S9 (_ : Unit) : Cmd := (.seq (.ops [
 ⟨some 113, .call ⟨.value (.func 15), #[(.const (.pointer none))], #[25]⟩, 41, none⟩,
 ⟨some 112, .move (.tmp 113), 41, none⟩,
 ⟨some 114, .extract (.tmp 112) 0, 24, none⟩,
 ⟨some 115, .extract (.tmp 112) 1, 30, none⟩,
 ⟨some 11, .assign (.tmp 114), 24, none⟩,
 ⟨some 12, .assign (.tmp 115), 30, none⟩] [11, 12]) (sg c3S8))
noncomputable def c3 : Cmd := (.seq (.ops [
 ⟨some 1, .box 23 (.tmp 0), 0, none⟩,
 ⟨some 2, .assign (.const (.bool false)), 4, none⟩] [1])
 (.seq (.seq (.ops [
 ⟨some 13, .build 28 #[], 28, none⟩,
 ⟨some 14, .box 28 (.tmp 13), 24, none⟩,
 ⟨some 15, .buildSlice 29 2 #[(0, (.const (.pointer none))), (1, (.tmp 14))], 29, none⟩,
 ⟨some 16, .call ⟨.builtin .len, #[(.tmp 15)], #[29]⟩, 3, none⟩,
 ⟨some 17, .move (.const (.int .i64 0)), 3, none⟩] [1, 15, 16, 17])
 (.block 0 (.loop (sg c3L0)))) (sg c3S9)))
set_option maxRecDepth 100000 in
theorem ent3 (a0 : Value) (w : World) (K : Value → World → Prop) (h : W Tryz.prog c3 [(0, a0)] w (finQ Tryz.prog [.tmp 2] K)) : Ret Tryz.prog 3 [a0] w K :=
  Ret_of_W (code := c3code) Tryz.func3 (by kernel_rfl) (by kernel_rfl) (of_decide_eq_true (by kernel_rfl)) h
@[go_sem] theorem go3 : goFunc Tryz.prog 3 = true := by kernel_rfl
noncomputable def c4S0 (_ : Unit) : Cmd := (.cond (.tmp 30)
  (.seq (.ops [
  ⟨some 4, .assign (.const (.bool false)), 4, none⟩] [4])
  .ret)
  (.skip [0, 1, 5, 7]))
noncomputable def c4S1 (_ : Unit) : Cmd := (.ops [
 ⟨some 44, .move (.tmp 10), 3, none⟩,
 ⟨some 45, .binOp .add 3 (.tmp 44) (.const (.int .i64 1)) 3, 3, none⟩,
 ⟨some 10, .assign (.tmp 45), 3, none⟩] [0, 1, 5, 7, 8, 10])
noncomputable def c4S2 (_ : Unit) : Cmd := (.seq (.block 1 (.seq (.ops [
 ⟨some 46, .move (.tmp 0), 45, none⟩,
 ⟨some 47, .move (.tmp 10), 3, none⟩,
 ⟨some 48, .indexAddr 45 (.tmp 46) (.tmp 47), 0, none⟩,
 ⟨some 49, .fieldAddr 23 (.tmp 48) 0, 0, none⟩,
 ⟨some 50, .load 3 (.tmp 49), 3, none⟩,
 ⟨some 51, .binOp .lss 3 (.tmp 50) (.const (.int .i64 6)) 3, 4, none⟩,
 ⟨some 52, .move (.tmp 51), 4, none⟩,
 ⟨some 53, .move (.tmp 0), 45, (some (52, true))⟩,
 ⟨some 54, .move (.tmp 10), 3, (some (52, true))⟩,
 ⟨some 55, .indexAddr 45 (.tmp 53) (.tmp 54), 0, (some (52, true))⟩,
 ⟨some 56, .fieldAddr 23 (.tmp 55) 3, 0, (some (52, true))⟩,
 ⟨some 57, .load 9 (.tmp 56), 9, (some (52, true))⟩,
 ⟨some 58, .call ⟨.builtin .len, #[(.tmp 57)], #[9]⟩, 3, (some (52, true))⟩,
 ⟨some 59, .binOp .leq 3 (.tmp 58) (.const (.int .i64 2000)) 3, 4, (some (52, true))⟩,
 ⟨some 60, .pick (.tmp 52) (.tmp 59) (.const (.bool false)), 4, none⟩] [0, 1, 5, 7, 8, 10, 60])
 (.cond (.tmp 60)
  (.ops [
  ⟨some 61, .move (.tmp 7), 24, none⟩,
  ⟨some 62, .move (.tmp 0), 45, none⟩,
  ⟨some 63, .move (.tmp 10), 3, none⟩,
  ⟨some 64, .indexAddr 45 (.tmp 62) (.tmp 63), 0, none⟩,
  ⟨some 65, .load 23 (.tmp 64), 23, none⟩,
  ⟨some 66, .call ⟨.value (.func 20), #[(.tmp 61), (.tmp 8), (.tmp 65)], #[24, 56, 23]⟩, 4, none⟩] [0, 1, 5, 7, 8, 10])
  (.skip [0, 1, 5, 7, 8, 10])))) (sg c4S1))
noncomputable def c4L0 (_ : Unit) : Cmd := (.seq (.seq (.ops [
 ⟨some 36, .move (.tmp 10), 3, none⟩,
 ⟨some 37, .move (.tmp 0), 45, none⟩,
 ⟨some 38, .call ⟨.builtin .len, #[(.tmp 37)], #[45]⟩, 3, none⟩,
 ⟨some 39, .binOp .lss 3 (.tmp 36) (.tmp 38) 3, 4, none⟩,
 ⟨some 40, .move (.tmp 39), 4, none⟩,
 ⟨some 41, .move (.tmp 10), 3, (some (40, true))⟩,
 ⟨some 42, .binOp .lss 3 (.tmp 41) (.const (.int .i64 30)) 3, 4, (some (40, true))⟩,
 ⟨some 43, .pick (.tmp 40) (.tmp 42) (.const (.bool false)), 4, none⟩] [0, 1, 5, 7, 8, 10, 43])
 (.cond (.tmp 43)
  (.skip [0, 1, 5, 7, 8, 10])
  (.exit 0 [1, 5, 7, 8]))) (sg c4S2))
noncomputable def c4S3 (_ : Unit) : Cmd := (.cond (.tmp 69)
  (.seq (.ops [
  ⟨some 4, .assign (.const (.bool false)), 4, none⟩] [4])
  .ret)
  (.skip [1, 5, 7, 8]))
noncomputable def c4S4 (_ : Unit) : Cmd := (.ops [
 ⟨some 80, .move (.tmp 12), 3, none⟩,
 ⟨some 81, .binOp .add 3 (.tmp 80) (.const (.int .i64 1)) 3, 3, none⟩,
 ⟨some 12, .assign (.tmp 81), 3, none⟩] [1, 5, 7, 8, 11, 12])
noncomputable def c4S5 (_ : Unit) : Cmd := (.seq (.block 3 (.seq (.ops [
 ⟨some 82, .move (.tmp 1), 45, none⟩,
 ⟨some 83, .move (.tmp 12), 3, none⟩,
 ⟨some 84, .indexAddr 45 (.tmp 82) (.tmp 83), 0, none⟩,
 ⟨some 85, .fieldAddr 23 (.tmp 84) 0, 0, none⟩,
 ⟨some 86, .load 3 (.tmp 85), 3, none⟩,
 ⟨some 87, .binOp .geq 3 (.tmp 86) (.const (.int .i64 0)) 3, 4, none⟩,
 ⟨some 88, .move (.tmp 87), 4, none⟩,
 ⟨some 89, .move (.tmp 1), 45, (some (88, true))⟩,
 ⟨some 90, .move (.tmp 12), 3, (some (88, true))⟩,
 ⟨some 91, .indexAddr 45 (.tmp 89) (.tmp 90), 0, (some (88, true))⟩,
 ⟨some 92, .fieldAddr 23 (.tmp 91) 0, 0, (some (88, true))⟩,
 ⟨some 93, .load 3 (.tmp 92), 3, (some (88, true))⟩,
 ⟨some 94, .binOp .lss 3 (.tmp 93) (.const (.int .i64 6)) 3, 4, (some (88, true))⟩,
 ⟨some 95, .pick (.tmp 88) (.tmp 94) (.const (.bool false)), 4, none⟩,
 ⟨some 96, .move (.tmp 95), 4, none⟩,
 ⟨some 97, .move (.tmp 1), 45, (some (96, true))⟩,
 ⟨some 98, .move (.tmp 12), 3, (some (96, true))⟩,
 ⟨some 99, .indexAddr 45 (.tmp 97) (.tmp 98), 0, (some (96, true))⟩,
 ⟨some 100, .fieldAddr 23 (.tmp 99) 3, 0, (some (96, true))⟩,
 ⟨some 101, .load 9 (.tmp 100), 9, (some (96, true))⟩,
 ⟨some 102, .call ⟨.builtin .len, #[(.tmp 101)], #[9]⟩, 3, (some (96, true))⟩,
 ⟨some 103, .binOp .leq 3 (.tmp 102) (.const (.int .i64 2000)) 3, 4, (some (96, true))⟩,
 ⟨some 104, .pick (.tmp 96) (.tmp 103) (.const (.bool false)), 4, none⟩] [1, 5, 7, 8, 11, 12, 104])
 (.cond (.tmp 104)
  (.ops [
  ⟨some 105, .move (.tmp 7), 24, none⟩,
  ⟨some 106, .move (.tmp 1), 45, none⟩,
  ⟨some 107, .move (.tmp 12), 3, none⟩,
  ⟨some 108, .indexAddr 45 (.tmp 106) (.tmp 107), 0, none⟩,
  ⟨some 109, .load 23 (.tmp 108), 23, none⟩,
  ⟨some 110, .call ⟨.value (.func 20), #[(.tmp 105), (.tmp 8), (.tmp 109)], #[24, 56, 23]⟩, 4, none⟩] [1, 5, 7, 8, 11, 12])
  (.skip [1, 5, 7, 8, 11, 12])))) (sg c4S4))
noncomputable def c4L1 (_ : Unit) : Cmd := (.seq (.seq (.ops [
 ⟨some 72, .move (.tmp 12), 3, none⟩,
 ⟨some 73, .move (.tmp 1), 45, none⟩,
 ⟨some 74, .call ⟨.builtin .len, #[(.tmp 73)], #[45]⟩, 3, none⟩,
 ⟨some 75, .binOp .lss 3 (.tmp 72) (.tmp 74) 3, 4, none⟩,
 ⟨some 76, .move (.tmp 75), 4, none⟩,
 ⟨some 77, .move (.tmp 12), 3, (some (76, true))⟩,
 ⟨some 78, .binOp .lss 3 (.tmp 77) (.const (.int .i64 30)) 3, 4, (some (76, true))⟩,
 ⟨some 79, .pick (.tmp 76) (.tmp 78) (.const (.bool false)), 4, none⟩] [1, 5, 7, 8, 11, 12, 79])
 (.cond (.tmp 79)
  (.skip [1, 5, 7, 8, 11, 12])
  (.exit 2 [5, 11]))) (sg c4S5))
noncomputable def c4S6 (_ : Unit) : Cmd := (.cond (.tmp 123)
  (.skip [11, 13, 15, 16])
  (.exit 4 [11, 15]))
noncomputable def c4S7 (_ : Unit) : Cmd := (.ops [
 ⟨some 132, .move (.tmp 15), 49, none⟩,
 ⟨some 133, .move (.tmp 17), 9, none⟩,
 ⟨some 134, .buildSlice 49 1 #[(0, (.tmp 133))], 49, none⟩,
 ⟨some 135, .call ⟨.builtin .append, #[(.tmp 132), (.tmp 134)], #[49, 49]⟩, 49, none⟩,
 ⟨some 15, .assign (.tmp 135), 49, none⟩] [11, 13, 15, 16])
noncomputable def c4S8 (_ : Unit) : Cmd := (.ops [
 ⟨some 124, .move (.tmp 16), 3, none⟩,
 ⟨some 125, .binOp .add 3 (.tmp 124) (.const (.int .i64 1)) 3, 3, none⟩,
 ⟨some 16, .assign (.tmp 125), 3, none⟩] [11, 13, 15, 16])
noncomputable def c4S9 (_ : Unit) : Cmd := (.seq (.block 5 (.seq (.ops [
 ⟨some 127, .move (.tmp 13), 25, none⟩,
 ⟨some 128, .move (.tmp 16), 3, none⟩,
 ⟨some 129, .call ⟨.value (.func 24), #[(.tmp 127), (.tmp 128)], #[25, 3]⟩, 33, none⟩,
 ⟨some 126, .move (.tmp 129), 33, none⟩,
 ⟨some 130, .extract (.tmp 126) 0, 9, none⟩,
 ⟨some 131, .extract (.tmp 126) 1, 30, none⟩,
 ⟨some 17, .assign (.tmp 130), 9, none⟩,
 ⟨some 18, .assign (.tmp 131), 30, none⟩] [11, 13, 15, 16, 17]) (sg c4S7))) (sg c4S8))
noncomputable def c4L2 (_ : Unit) : Cmd := (.seq (.seq (.ops [
 ⟨some 120, .move (.tmp 16), 3, none⟩,
 ⟨some 121, .move (.tmp 13), 25, none⟩,
 ⟨some 122, .call ⟨.value (.func 23), #[(.tmp 121)], #[25]⟩, 3, none⟩,
 ⟨some 123, .binOp .lss 3 (.tmp 120) (.tmp 122) 3, 4, none⟩] [11, 13, 15, 16, 123]) (sg c4S6)) (sg c4S9))
noncomputable def c4S10 (_ : Unit) : Cmd := .ret
noncomputable def c4S11 (_ : Unit) : Cmd := (.seq (.ops [
 ⟨some 136, .move (.tmp 15), 49, none⟩,
 ⟨some 137, .move (.tmp 11), 49, none⟩,
 ⟨some 138, .call ⟨.value (.func 25), #[(.tmp 136), (.tmp 137)], #[49, 49]⟩, 4, none⟩,
 ⟨some 139, .move (.tmp 138), 4, none⟩,
 ⟨some 140, .call ⟨.value (.func 16), #[], #[]⟩, 4, (some (139, true))⟩,
 ⟨some 141, .pick (.tmp 139) (.tmp 140) (.const (.bool false)), 4, none⟩,
 ⟨some 4, .assign (.tmp 141), 4, none⟩] [4]) (sg c4S10))
noncomputable def c4S12 (_ : Unit) : Cmd := (.seq (.ops [
 ⟨some 15, .assign (.const (.slice none 0 0)), 49, none⟩] [11, 13, 15])
 (.seq (.seq (.ops [
 ⟨some 16, .assign (.const (.int .i64 0)), 3, none⟩] [11, 13, 15, 16])
 (.block 4 (.loop (sg c4L2)))) (sg c4S11)))
noncomputable def c4S13 (_ : Unit) : Cmd := (.seq (.seq (.ops [
 ⟨some 118, .move (.tmp 14), 30, none⟩,
 ⟨some 119, .binOp .neq 30 (.tmp 118) (.const (.int .i64 0)) 30, 4, none⟩] [11, 13, 119])
 (.cond (.tmp 119)
  (.seq (.ops [
  ⟨some 4, .assign (.const (.bool false)), 4, none⟩] [4])
  .ret)
  (.skip [11, 13]))) (sg c4S12))
noncomputable def c4S14 (_ : Unit) : Cmd := (.seq (.ops [
 ⟨some 114, .move (.tmp 5), 46, none⟩,
 ⟨some 115, .call ⟨.value (.func 22), #[(.tmp 114)], #[46]⟩, 59, none⟩,
 ⟨some 113, .move (.tmp 115), 59, none⟩,
 ⟨some 116, .extract (.tmp 113) 0, 25, none⟩,
 ⟨some 117, .extract (.tmp 113) 1, 30, none⟩,
 ⟨some 13, .assign (.tmp 116), 25, none⟩,
 ⟨some 14, .assign (.tmp 117), 30, none⟩] [11, 13, 14]) (sg c4S13))
noncomputable def c4S15 (_ : Unit) : Cmd := (.seq (.ops [
 ⟨some 111, .move (.tmp 5), 46, none⟩,
 ⟨some 112, .call ⟨.value (.func 21), #[(.tmp 111), (.const (.int .u64 18446744073709551615)), (.const (.int .i64 (-1))), (.const (.int .i64 0))], #[46, 58, 3, 3]⟩, 0, none⟩] [5, 11]) (sg c4S14))
noncomputable def c4S16 (_ : Unit) : Cmd := (.seq (.ops [
 ⟨some 70, .fieldAddr 51 (.tmp 8) 0, 0, none⟩,
 ⟨some 71, .load 49 (.tmp 70), 49, none⟩,
 ⟨some 11, .assign (.tmp 71), 49, none⟩] [1, 5, 7, 8, 11])
 (.seq (.seq (.ops [
 ⟨some 12, .assign (.const (.int .i64 0)), 3, none⟩] [1, 5, 7, 8, 11, 12])
 (.block 2 (.loop (sg c4L1)))) (sg c4S15)))
noncomputable def c4S17 (_ : Unit) : Cmd := (.seq (.seq (.ops [
 ⟨some 67, .move (.tmp 7), 24, none⟩,
 ⟨some 68, .call ⟨.value (.func 13), #[(.tmp 67)], #[24]⟩, 30, none⟩,
 ⟨some 69, .binOp .neq 30 (.tmp 68) (.const (.int .i64 0)) 30, 4, none⟩] [1, 5, 7, 8, 69]) (sg c4S3)) (sg c4S16))
noncomputable def c4S18 (_ : Unit) : Cmd := (.seq (.seq (.ops [
 ⟨some 10, .assign (.const (.int .i64 0)), 3, none⟩] [0, 1, 5, 7, 8, 10])
 (.block 0 (.loop (sg c4L0)))) (sg c4S17))
noncomputable def c4S19 (_ : Unit) : Cmd := (.seq (.ops [
 ⟨some 32, .call ⟨.value (.func 18), #[(.const (.int .i64 12))], #[3]⟩, 51, none⟩,
 ⟨some 33, .call ⟨.value (.func 19), #[(.tmp 32)], #[51]⟩, 52, none⟩,
 ⟨some 31, .move (.tmp 33), 52, none⟩,
 ⟨some 34, .extract (.tmp 31) 0, 51, none⟩,
 ⟨some 35, .extract (.tmp 31) 1, 3, none⟩,
 ⟨some 8, .alloc 51, 0, none⟩,
 ⟨none, .store 51 (.tmp 8) (.tmp 34), 0, none⟩,
 ⟨some 9, .assign (.tmp 35), 3, none⟩] [0, 1, 5, 7, 8]) (sg c4S18))
noncomputable def c4S20 (_ : Unit) : Cmd := (.seq (.seq (.ops [
 ⟨some 24, .move (.tmp 7), 24, none⟩,
 ⟨some 25, .binOp .eql 24 (.tmp 24) (.const (.pointer none)) 24, 4, none⟩,
 ⟨some 26, .move (.tmp 25), 4, none⟩,
 ⟨some 27, .move (.tmp 7), 24, (some (26, false))⟩,
 ⟨some 28, .call ⟨.value (.func 14), #[(.tmp 27)], #[24]⟩, 30, (some (26, false))⟩,
 ⟨some 29, .binOp .neq 30 (.tmp 28) (.const (.int .i64 0)) 30, 4, (some (26, false))⟩,
 ⟨some 30, .pick (.tmp 26) (.const (.bool true)) (.tmp 29), 4, none⟩] [0, 1, 5, 7, 30]) (sg c4S0)) (sg c4S19))
noncomputable def c4 : Cmd := (.seq (.ops [
 ⟨some 4, .assign (.const (.bool false)), 4, none⟩] [0, 1])
 (.seq (.ops [
 ⟨some 20, .call ⟨.value (.func 17), #[(.const (.int .i64 12))], #[3]⟩, 47, none⟩,
 ⟨some 19, .move (.tmp 20), 47, none⟩,
 ⟨some 21, .extract (.tmp 19) 0, 46, none⟩,
 ⟨some 22, .extract (.tmp 19) 1, 25, none⟩,
 ⟨some 23, .extract (.tmp 19) 2, 24, none⟩,
 ⟨some 5, .assign (.tmp 21), 46, none⟩,
 ⟨some 6, .assign (.tmp 22), 25, none⟩,
 ⟨some 7, .assign (.tmp 23), 24, none⟩] [0, 1, 5, 7]) (sg c4S20)))
@[go_sem] theorem go4 : goFunc Tryz.prog 4 = true := by kernel_rfl
noncomputable def c8code : Code := match Tryz.f8.body with | some c => c | none => .skip
noncomputable def c8S0 (_ : Unit) : Cmd := (.ops [
  ⟨some 9, .move (.tmp 0), 24, none⟩,
  ⟨some 10, .call ⟨.value (.func 35), #[(.tmp 9)], #[24]⟩, 0, none⟩] [])
noncomputable def c8S1 (_ : Unit) : Cmd := (.cond (.tmp 3)
  (.seq (.ops [
  ⟨some 4, .move (.tmp 0), 24, none⟩,
  ⟨some 5, .nilCheck (.tmp 4), 0, none⟩,
  ⟨some 6, .fieldAddr 28 (.tmp 5) 0, 0, none⟩,
  ⟨some 7, .load 25 (.tmp 6), 25, none⟩,
  ⟨some 8, .call ⟨.value (.func 34), #[(.tmp 7)], #[25]⟩, 0, none⟩] [0]) (sg c8S0))
  (.skip []))
noncomputable def c8 : Cmd := (.seq (.ops [
 ⟨some 2, .move (.tmp 0), 24, none⟩,
 ⟨some 3, .call ⟨.value (.func 32), #[(.tmp 2)], #[24]⟩, 4, none⟩] [0, 3]) (sg c8S1))
set_option maxRecDepth 100000 in
theorem ent8 (a0 : Value) (w : World) (K : Value → World → Prop) (h : W Tryz.prog c8 [(0, a0)] w (finQ Tryz.prog [] K)) : Ret Tryz.prog 8 [a0] w K :=
  Ret_of_W (code := c8code) Tryz.func8 (by kernel_rfl) (by kernel_rfl) (of_decide_eq_true (by kernel_rfl)) h
@[go_sem] theorem go8 : goFunc Tryz.prog 8 = true := by kernel_rfl
noncomputable def c13code : Code := match Tryz.f13.body with | some c => c | none => .skip
noncomputable def c13S0 (_ : Unit) : Cmd := (.cond (.tmp 6)
  (.seq (.ops [
  ⟨some 2, .assign (.const (.int .i64 3)), 30, none⟩] [2])
  .ret)
  (.skip [0]))
noncomputable def c13S1 (_ : Unit) : Cmd := (.seq (.ops [
 ⟨some 16, .move (.tmp 3), 30, none⟩,
 ⟨some 2, .assign (.tmp 16), 30, none⟩] [2])
 .ret)
noncomputable def c13S2 (_ : Unit) : Cmd := (.seq (.seq (.ops [
 ⟨some 12, .move (.tmp 3), 30, none⟩,
 ⟨some 13, .binOp .neq 30 (.tmp 12) (.const (.int .i64 0)) 30, 4, none⟩] [0, 3, 13])
 (.cond (.tmp 13)
  (.ops [
  ⟨some 14, .move (.tmp 0), 24, none⟩,
  ⟨some 15, .call ⟨.value (.func 35), #[(.tmp 14)], #[24]⟩, 0, none⟩] [3])
  (.skip [3]))) (sg c13S1))
noncomputable def c13S3 (_ : Unit) : Cmd := (.seq (.ops [
 ⟨some 7, .move (.tmp 0), 24, none⟩,
 ⟨some 8, .nilCheck (.tmp 7), 0, none⟩,
 ⟨some 9, .fieldAddr 28 (.tmp 8) 0, 0, none⟩,
 ⟨some 10, .load 25 (.tmp 9), 25, none⟩,
 ⟨some 11, .call ⟨.value (.func 39), #[(.tmp 10)], #[25]⟩, 30, none⟩,
 ⟨some 3, .assign (.tmp 11), 30, none⟩] [0, 3]) (sg c13S2))
noncomputable def c13 : Cmd := (.seq (.ops [
 ⟨some 2, .assign (.const (.int .i64 0)), 30, none⟩] [0])
 (.seq (.seq (.ops [
 ⟨some 4, .move (.tmp 0), 24, none⟩,
 ⟨some 5, .call ⟨.value (.func 32), #[(.tmp 4)], #[24]⟩, 4, none⟩,
 ⟨some 6, .unOp .not 4 (.tmp 5), 4, none⟩] [0, 6]) (sg c13S0)) (sg c13S3)))
set_option maxRecDepth 100000 in
theorem ent13 (a0 : Value) (w : World) (K : Value → World → Prop) (h : W Tryz.prog c13 [(0, a0)] w (finQ Tryz.prog [.tmp 2] K)) : Ret Tryz.prog 13 [a0] w K :=
  Ret_of_W (code := c13code) Tryz.func13 (by kernel_rfl) (by kernel_rfl) (of_decide_eq_true (by kernel_rfl)) h
@[go_sem] theorem go13 : goFunc Tryz.prog 13 = true := by kernel_rfl
@[go_sem] theorem go18 : goFunc Tryz.prog 18 = true := by kernel_rfl
@[go_sem] theorem go19 : goFunc Tryz.prog 19 = true := by kernel_rfl
@[go_sem] theorem go20 : goFunc Tryz.prog 20 = true := by kernel_rfl
@[go_sem] theorem go25 : goFunc Tryz.prog 25 = true := by kernel_rfl
@[go_sem] theorem go35 : goFunc Tryz.prog 35 = true := by kernel_rfl
@[go_sem] theorem go45 : goFunc Tryz.prog 45 = true := by kernel_rfl
@[go_sem] theorem go46 : goFunc Tryz.prog 46 = true := by kernel_rfl
@[go_sem] theorem go47 : goFunc Tryz.prog 47 = true := by kernel_rfl
@[go_sem] theorem go48 : goFunc Tryz.prog 48 = true := by kernel_rfl
@[go_sem] theorem go49 : goFunc Tryz.prog 49 = true := by kernel_rfl
@[go_sem] theorem go50 : goFunc Tryz.prog 50 = true := by kernel_rfl
@[go_sem] theorem go51 : goFunc Tryz.prog 51 = true := by kernel_rfl
@[go_sem] theorem go72 : goFunc Tryz.prog 72 = true := by kernel_rfl
@[go_sem] theorem go73 : goFunc Tryz.prog 73 = true := by kernel_rfl
@[go_sem] theorem go74 : goFunc Tryz.prog 74 = true := by kernel_rfl
@[go_sem] theorem go75 : goFunc Tryz.prog 75 = true := by kernel_rfl
@[go_sem] theorem go76 : goFunc Tryz.prog 76 = true := by kernel_rfl
@[go_sem] theorem go95 : goFunc Tryz.prog 95 = true := by kernel_rfl
@[go_sem] theorem go96 : goFunc Tryz.prog 96 = true := by kernel_rfl
end Go.Proofs.YtmchjbgobiagiaaGreat

namespace Go.Proofs.YtmchjbgobiagiaaGreat
set_option linter.unusedSimpArgs false
set_option linter.unusedVariables false
set_option maxRecDepth 100000
open Go Go.Ann Go.RowKit Go.WideShapes
def zeroB : List UInt8 := List.replicate 256 0
def filledL (l : List UInt8) : List UInt8 := l ++ List.replicate (256 - l.length) 0
theorem filledL_length {l : List UInt8} (h : l.length ≤ 256) : (filledL l).length = 256 := by
  unfold filledL; rw [List.length_append, List.length_replicate]; omega
structure Dk where
  safe : List (List UInt8)
  late : List (Int × List UInt8)
  left : Int
  gone : Bool
structure Dk.ok (m : Dk) : Prop where
  safe : ∀ s ∈ m.safe, s.length = 256
  late : ∀ x ∈ m.late, 0 ≤ x.1 ∧ x.1 < m.safe.length ∧ x.2.length = 256
  left : I64 m.left
  some : 0 < m.safe.length
  few : m.safe.length ≤ 2048
  less : m.late.length ≤ 1048576
def strE (s : List UInt8) : List Value := [.string (ofL s)]
theorem strE_ones (l : List (List UInt8)) : ∀ u ∈ l.flatMap strE, u.oneCell' = true := by
  intro u hu
  obtain ⟨s, _, h⟩ := List.mem_flatMap.1 hu
  rw [strE, List.mem_singleton] at h
  subst h; rfl
def pendV (x : Int × List UInt8) : List Value := [.int .i64 x.1, .string (ofL x.2)]
theorem pendV_len (x : Int × List UInt8) : (pendV x).length = 2 := rfl
theorem pendV_ones (l : List (Int × List UInt8)) : ∀ u ∈ l.flatMap pendV, u.oneCell' = true := by
  intro u hu
  obtain ⟨s, _, h⟩ := List.mem_flatMap.1 hu
  simp only [pendV, List.mem_cons, List.not_mem_nil, or_false] at h
  rcases h with rfl | rfl <;> rfl
theorem strE_map (l : List (List UInt8)) : l.flatMap strE = l.map fun s => Value.string (ofL s) := by
  induction l with
  | nil => rfl
  | cons a l ih => rw [List.flatMap_cons, ih]; rfl
theorem strE_set (l : List (List UInt8)) (j : Nat) (s : List UInt8) : (l.flatMap strE).set j (.string (ofL s)) = (l.set j s).flatMap strE := by
  rw [strE_map, strE_map, List.map_set]
def DkL (g : Nat) (vb vl : Value) (m : Dk) : List Res :=
  [.blk g #[vb, vl, .int .i64 m.left, .bool m.gone, .string (ofL zeroB)] 91, .row vb 9 1 m.safe.length (m.safe.flatMap strE), .row vl 93 2 m.late.length (m.late.flatMap pendV)]
theorem st_recast {W0 w : World} {F : Nat → Prop} {L L' : List Res} {I : List Inv} (h : St W0 w F L I) (e : L = L') : St W0 w F L' I := e ▸ h
theorem St.front {W0 w : World} {F : Nat → Prop} {A D L : List Res} {I : List Inv} (h : St W0 w F (A ++ (D ++ L)) I) : St W0 w F (D ++ (A ++ L)) I :=
  h.perm (by rw [← List.append_assoc, ← List.append_assoc]; exact List.perm_append_comm.append_right L)
section
variable {W0 w : World} {F : Nat → Prop} {L : List Res} {I : List Inv} {g : Nat} {vb vl : Value} {m : Dk}
def readyN (m : Dk) (i : Int) : Int := if m.gone = true then 11 else if 0 ≤ i ∧ i < m.safe.length then 0 else 10
theorem dk_form (h : St W0 w F (DkL g vb vl m ++ L) I) (ok : m.ok) : ∃ gb cb al cl, vb = .slice (some ⟨gb, 0, none⟩) m.safe.length cb ∧ vl = .slice al m.late.length cl ∧ m.late.length ≤ cl := by
  obtain ⟨gb, cb, h1, _⟩ := (h.row 1 rfl).form ok.some
  obtain ⟨al, cl, h2, h3⟩ := own_slice (h.row 2 rfl)
  exact ⟨gb, cb, al, cl, h1, h2, h3⟩
theorem ready_ok (i : Int) (h : St W0 w F (DkL g vb vl m ++ L) I) (ok : m.ok) :
    Ret Tryz.prog 78 [.pointer (some ⟨g, 0, none⟩), .int .i64 i] w fun u w' => u = .int .i64 (readyN m i) ∧ w' = w := by
  obtain ⟨gb, cb, al, cl, rfl, rfl, _⟩ := dk_form h ok
  refine ent78 _ _ _ _ ?_
  have r1 := h.rules 0 rfl
  simp (disch := first | omega | exact okFill_t rfl | exact okSize_t rfl | exact fun h => h | (simp only [World.size_alloc, World.size_drew, World.size_setCell, size_fill, bytesW]; omega)) only [go_sem, c78, c78S0, r1]
  unfold readyN
  refine ⟨fun hg => ?_, fun hg => ?_⟩
  · rw [if_pos hg]
  · rw [if_neg (by rw [hg]; decide)]
    by_cases h0 : 0 ≤ i
    · by_cases h1 : i < m.safe.length
      · rw [if_pos ⟨h0, h1⟩]
        exact ⟨fun _ => ⟨fun h => by omega, fun _ => rfl⟩, fun h => by omega⟩
      · rw [if_neg (by omega)]
        exact ⟨fun _ => ⟨fun _ => rfl, fun h => by omega⟩, fun h => by omega⟩
    · rw [if_neg (by omega)]
      exact ⟨fun h => by omega, fun _ => rfl⟩
def useN (m : Dk) : Dk × Int := if m.left = 0 then ({ m with gone := true }, 11) else if 0 < m.left then ({ m with left := m.left - 1 }, 0) else (m, 0)
theorem useN_ok (ok : m.ok) : (useN m).1.ok := by
  unfold useN
  have hl := ok.left
  split
  · exact ⟨ok.safe, ok.late, ok.left, ok.some, ok.few, ok.less⟩
  · split
    · exact ⟨ok.safe, ok.late, ⟨by have := hl.1; simp only; omega, by have := hl.2; simp only; omega⟩, ok.some, ok.few, ok.less⟩
    · exact ok
theorem useN_late (m : Dk) : (useN m).1.late = m.late ∧ (useN m).1.safe = m.safe := by
  unfold useN; split
  · exact ⟨rfl, rfl⟩
  · split <;> exact ⟨rfl, rfl⟩
theorem use_ok (h : St W0 w F (DkL g vb vl m ++ L) I) (ok : m.ok) :
    Ret Tryz.prog 93 [.pointer (some ⟨g, 0, none⟩)] w fun u w' => u = .int .i64 (useN m).2 ∧ St W0 w' F (DkL g vb vl (useN m).1 ++ L) I := by
  refine ent93 _ _ _ ?_
  have r1 := h.rules 0 rfl
  simp (disch := first | omega | exact okFill_t rfl | exact okSize_t rfl | exact fun h => h | (simp only [World.size_alloc, World.size_drew, World.size_setCell, size_fill, bytesW]; omega)) only [go_sem, c93, c93S0, c93S1, r1]
  unfold useN
  have hl := ok.left
  refine ⟨fun h0 => ?_, fun h0 => ⟨fun h1 => ?_, fun h1 => ?_⟩⟩
  · rw [if_pos h0]
    exact ⟨rfl, h.set 0 rfl 3 (.bool true)⟩
  · rw [if_neg h0, if_pos h1]
    exact ⟨⟨by have := hl.1; omega, by have := hl.2; omega⟩, rfl, h.set 0 rfl 2 (.int .i64 (m.left - 1))⟩
  · rw [if_neg h0, if_neg (by omega)]
    exact ⟨rfl, h⟩
def lastL (l : List (Int × List UInt8)) (i : Int) (s : List UInt8) : List UInt8 := l.foldl (fun s x => if x.1 = i then x.2 else s) s
def readN (m : Dk) (i : Int) : List UInt8 × Int := if readyN m i = 0 then (lastL m.late i (m.safe.getD i.toNat []), 0) else ([], readyN m i)
theorem lastL_snoc (l : List (Int × List UInt8)) (x : Int × List UInt8) (i : Int) (s : List UInt8) : lastL (l ++ [x]) i s = if x.1 = i then x.2 else lastL l i s := by
  unfold lastL; rw [List.foldl_append]; rfl
theorem readyN_in {i : Int} (hr : readyN m i = 0) : 0 ≤ i ∧ i < m.safe.length := by
  unfold readyN at hr
  split at hr
  · cases hr
  · split at hr
    · assumption
    · cases hr
theorem read_ok (i : Int) (h : St W0 w F (DkL g vb vl m ++ L) I) (ok : m.ok) :
    Ret Tryz.prog 53 [.pointer (some ⟨g, 0, none⟩), .int .i64 i] w fun u w' => u = .tuple #[.string (ofL (readN m i).1), .int .i64 (readN m i).2] ∧ Below w.heap.size w w' := by
  refine ent53 _ _ _ _ ?_
  simp (disch := first | omega | exact okFill_t rfl | exact okSize_t rfl | exact fun h => h | (simp only [World.size_alloc, World.size_drew, World.size_setCell, size_fill, bytesW]; omega)) only [go_sem, c53, c53S0, c53S1, c53S2, c53L0, c53S3, c53S4]
  refine Ret.mono (ready_ok i h ok) ?_
  rintro _ w2 ⟨rfl, e2⟩
  subst w2
  obtain ⟨gb, cb, al, cl, rfl, rfl, hcl⟩ := dk_form h ok
  have r1 := h.rules 0 rfl
  unfold readN
  by_cases hr : readyN m i = 0
  case neg =>
    rw [if_neg hr]
    simp (disch := first | omega | exact okFill_t rfl | exact okSize_t rfl | exact fun h => h | (simp only [World.size_alloc, World.size_drew, World.size_setCell, size_fill, bytesW]; omega)) only [go_sem, c53, c53S0, c53S1, c53S2, c53L0, c53S3, c53S4, hr]
    exact Below.refl _ _
  rw [if_pos hr]
  obtain ⟨h0, hlt⟩ := readyN_in hr
  have hS : RdS w 1 strE (.slice (some ⟨gb, 0, none⟩) m.safe.length cb) m.safe := RdS.of_own' (h.row 1 rfl) m.safe rfl rfl
  have hL : RdS w 2 pendV (.slice al m.late.length cl) m.late := RdS.of_own' (h.row 2 rfl) m.late rfl rfl
  obtain ⟨k0, rfl⟩ := Int.eq_ofNat_of_zero_le h0
  have hk0 : k0 < m.safe.length := by omega
  have eS := RdS.at1 (e1 := fun s => .string (ofL s)) hS hk0
  rw [Addr.add_lit, Nat.zero_add] at eS
  have e0 : m.safe.getD ((k0 : Int).toNat) [] = m.safe[k0] := by simp [List.getD_eq_getElem?_getD, List.getElem?_eq_getElem hk0]
  rw [e0]
  simp (disch := first | omega | exact okFill_t rfl | exact okSize_t rfl | exact fun h => h | (simp only [World.size_alloc, World.size_drew, World.size_setCell, size_fill, bytesW]; omega)) only [go_sem, c53, c53S0, c53S1, c53S2, c53S3, c53S4, hr, r1, eS, hlt]
  refine ⟨by omega, ?_⟩
  refine W_loopU (fun k : Nat => [(7, .string (ofL (lastL (m.late.take k) k0 m.safe[k0]))), (28, .int .i64 k)]) (fun k w' => k ≤ m.late.length ∧ Below w.heap.size w w') (fun k => m.late.length - k) 0 rfl ⟨Nat.zero_le _, Below.refl _ _⟩ ?_
  rintro k w3 ⟨hk, hb⟩
  by_cases hlt2 : k < m.late.length
  · have hlt' : (k : Int) < m.late.length := by omega
    obtain ⟨p, rfl⟩ := hL.ptr (by omega)
    have eL := (hL.below hb (by decide)).at pendV_len hlt2
    simp (disch := first | omega | exact okFill_t rfl | exact okSize_t rfl | exact fun h => h | (simp only [World.size_alloc, World.size_drew, World.size_setCell, size_fill, bytesW]; omega)) only [go_sem, c53, c53S0, c53S1, c53S2, c53L0, c53S3, c53S4, c53L0, hlt', eL, pendV]
    have es : lastL (m.late.take (k + 1)) k0 m.safe[k0] = if m.late[k].1 = k0 then m.late[k].2 else lastL (m.late.take k) k0 m.safe[k0] := by
      rw [List.take_succ_eq_append_getElem hlt2, lastL_snoc]
    have b' : Below w.heap.size w (w3.alloc (.cells #[.int .i64 m.late[k].1, .string (ofL m.late[k].2)] 93)) := hb.alloc hb.size _
    have hless := ok.less
    clear r1
    refine ⟨by omega, fun e => ⟨⟨by omega, by omega⟩, k + 1, ?_, ⟨by omega, b'⟩, by omega⟩, fun e => ⟨⟨by omega, by omega⟩, k + 1, ?_, ⟨by omega, b'⟩, by omega⟩⟩
    · rw [es, if_pos e]; rfl
    · rw [es, if_neg e]; rfl
  · have hlt' : ¬ (k : Int) < m.late.length := by omega
    simp (disch := first | omega | exact okFill_t rfl | exact okSize_t rfl | exact fun h => h | (simp only [World.size_alloc, World.size_drew, World.size_setCell, size_fill, bytesW]; omega)) only [go_sem, c53, c53S0, c53S1, c53S2, c53L0, c53S3, c53S4, c53L0, hlt']
    rw [List.take_of_length_le (by omega)]
    exact ⟨rfl, hb⟩
def writeN (m : Dk) (i : Int) (data : List UInt8) : Dk × Int :=
  if readyN m i ≠ 0 then (m, readyN m i) else if 256 < data.length then (m, 21) else
  if (useN m).2 = 0 then ({ (useN m).1 with late := (useN m).1.late ++ [(i, filledL data)] }, 0) else useN m
theorem writeN_ok (ok : m.ok) (hless : m.late.length < 1000000) (i : Int) (data : List UInt8) : (writeN m i data).1.ok := by
  unfold writeN
  split
  · exact ok
  · rename_i hr
    have hr : readyN m i = 0 := Decidable.not_not.1 hr
    split
    · exact ok
    · have hu := useN_ok ok
      have hl := useN_late m
      have hin := readyN_in hr
      split
      · refine ⟨hu.safe, fun x hx => ?_, hu.left, hu.some, hu.few, ?_⟩
        · rcases List.mem_append.1 hx with h | h
          · exact hu.late x h
          · rw [List.mem_singleton] at h; subst h
            rw [hl.2]
            exact ⟨hin.1, hin.2, filledL_length (by omega)⟩
        · simp only [List.length_append, List.length_singleton, hl.1]; omega
      · exact hu
theorem write_ok (i : Int) (data : List UInt8) (h : St W0 w F (DkL g vb vl m ++ L) I) (ok : m.ok) (hless : m.late.length < 1000000) :
    Ret Tryz.prog 70 [.pointer (some ⟨g, 0, none⟩), .int .i64 i, .string (ofL data)] w fun u w' => u = .int .i64 (writeN m i data).2 ∧ ∃ vl', St W0 w' F (DkL g vb vl' (writeN m i data).1 ++ L) I := by
  refine ent70 _ _ _ _ _ ?_
  simp (disch := first | omega | exact okFill_t rfl | exact okSize_t rfl | exact fun h => h | (simp only [World.size_alloc, World.size_drew, World.size_setCell, size_fill, bytesW]; omega)) only [go_sem, c70, c70S0, c70S1, c70S2, c70S3]
  refine Ret.mono (ready_ok i h ok) ?_
  rintro _ w2 ⟨rfl, e2⟩
  subst w2
  unfold writeN
  by_cases hr : readyN m i = 0
  case neg =>
    rw [if_pos hr]
    simp (disch := first | omega | exact okFill_t rfl | exact okSize_t rfl | exact fun h => h | (simp only [World.size_alloc, World.size_drew, World.size_setCell, size_fill, bytesW]; omega)) only [go_sem, c70, c70S0, c70S1, c70S2, c70S3, hr]
    exact ⟨vl, h⟩
  rw [if_neg (by omega)]
  by_cases hd : 256 < data.length
  · have hd' : (256 : Int) < data.length := by omega
    rw [if_pos hd]
    simp (disch := first | omega | exact okFill_t rfl | exact okSize_t rfl | exact fun h => h | (simp only [World.size_alloc, World.size_drew, World.size_setCell, size_fill, bytesW]; omega)) only [go_sem, c70, c70S0, c70S1, c70S2, c70S3, hr, hd']
    exact ⟨vl, h⟩
  have hd' : ¬ (256 : Int) < data.length := by omega
  rw [if_neg hd]
  simp (disch := first | omega | exact okFill_t rfl | exact okSize_t rfl | exact fun h => h | (simp only [World.size_alloc, World.size_drew, World.size_setCell, size_fill, bytesW]; omega)) only [go_sem, c70, c70S0, c70S1, c70S2, c70S3, hr, hd']
  refine Ret.mono (use_ok h ok) ?_
  rintro _ w2 ⟨rfl, h2⟩
  have ok2 := useN_ok ok
  have hl := useN_late m
  by_cases hu : (useN m).2 = 0
  case neg =>
    rw [if_neg hu]
    simp (disch := first | omega | exact okFill_t rfl | exact okSize_t rfl | exact fun h => h | (simp only [World.size_alloc, World.size_drew, World.size_setCell, size_fill, bytesW]; omega)) only [go_sem, c70, c70S0, c70S1, c70S2, c70S3, hu]
    exact ⟨vl, h2⟩
  rw [if_pos hu]
  generalize (useN m).1 = m1 at h2 ok2 hl ⊢
  obtain ⟨gb, cb, al, cl, rfl, rfl, hcl⟩ := dk_form h2 ok2
  have r1 := h2.rules 0 rfl
  simp (disch := first | omega | exact okFill_t rfl | exact okSize_t rfl | exact fun h => h | (simp only [World.size_alloc, World.size_drew, World.size_setCell, size_fill, bytesW]; omega)) only [go_sem, c70, c70S0, c70S1, c70S2, c70S3, hu, r1]
  refine c70draw0 (Chg (fun _ => False) _) (Chg.refl _ _) ?_
  have h3 := h2.drew
  have r3 := h3.rules 0 rfl
  have l3 := h3.low 0 rfl
  generalize w2.drew = w3 at h3 r3 l3 ⊢
  simp (disch := first | omega | exact okFill_t rfl | exact okSize_t rfl | exact fun h => h | (simp only [World.size_alloc, World.size_drew, World.size_setCell, size_fill, bytesW]; omega)) only [go_sem, c70, c70S0, c70S1, c70S2, c70S3, c70D0, r3]
  have ez : data ++ zeroB.drop data.length = filledL data := by unfold zeroB filledL; rw [List.drop_replicate]
  have hz : zeroB.length = 256 := List.length_replicate
  rw [ez]
  refine ⟨by rw [hz]; omega, by rw [List.length_drop, hz]; omega, ?_⟩
  refine bdW_built (cells := (pendV (i, filledL data)).toArray) (by kernel_rfl) ?_
  simp (disch := first | omega | exact okFill_t rfl | exact okSize_t rfl | exact fun h => h | (simp only [World.size_alloc, World.size_drew, World.size_setCell, size_fill, bytesW]; omega)) only [go_sem, c70, c70S0, c70S1, c70S2, c70S3]
  refine bsW_agg ty89mkI rfl (by decide) (by decide) ?_
  have hx : Rd (w3.alloc (.cells (pendV (i, filledL data)).toArray 93)) 2 (.slice (some ⟨w3.heap.size, 0, none⟩) 1 1) 1 (pendV (i, filledL data)) := rd_new (n := 1) (cs := (pendV (i, filledL data)).toArray) rfl
  simp (disch := first | omega | exact okFill_t rfl | exact okSize_t rfl | exact fun h => h | (simp only [World.size_alloc, World.size_drew, World.size_setCell, size_fill, bytesW]; omega)) only [go_sem, c70, c70S0, c70S1, c70S2, c70S3]
  have h1 : ∀ u ∈ pendV (i, filledL data), u.oneCell' = true := by simpa using pendV_ones [(i, filledL data)]
  refine ⟨(Chg.refl _ _).alloc _, ?_⟩
  refine (h3.alloc' (.cells (pendV (i, filledL data)).toArray 93)).append 2 rfl ty89mkI rfl (by decide) hx h1 (by have := ok.less; rw [hl.1]; omega) (by have := ok.less; rw [hl.1]; omega) ?_
  intro v6 w6 h6 c6
  obtain ⟨a6, d6, rfl, _⟩ := own_slice (h6.row 2 rfl)
  have r6 := h6.rules 0 rfl
  simp (disch := first | omega | exact okFill_t rfl | exact okSize_t rfl | exact fun h => h | (simp only [World.size_alloc, World.size_drew, World.size_setCell, size_fill, bytesW]; omega)) only [go_sem, c70, c70S0, c70S1, c70S2, c70S3, r6]
  refine ⟨.slice a6 (m1.late.length + 1) d6, st_recast (h6.set 0 rfl 1 (.slice a6 (m1.late.length + 1) d6)) ?_⟩
  simp only [DkL, List.length_append, List.length_singleton, List.flatMap_append, List.flatMap_cons, List.flatMap_nil, List.append_nil]
  rfl
def doneL (safe : List (List UInt8)) (late : List (Int × List UInt8)) : List (List UInt8) := late.foldl (fun s x => s.set x.1.toNat x.2) safe
theorem doneL_length (safe : List (List UInt8)) : ∀ late, (doneL safe late).length = safe.length := by
  intro late
  unfold doneL
  induction late generalizing safe with
  | nil => rfl
  | cons x l ih => rw [List.foldl_cons, ih]; simp
theorem doneL_snoc (safe : List (List UInt8)) (l : List (Int × List UInt8)) (x : Int × List UInt8) : doneL safe (l ++ [x]) = (doneL safe l).set x.1.toNat x.2 := by
  unfold doneL; rw [List.foldl_append]; rfl
def flushN (m : Dk) : Dk × Int :=
  if readyN m 0 ≠ 0 then (m, readyN m 0) else if (useN m).2 ≠ 0 then useN m else ({ (useN m).1 with safe := doneL m.safe m.late, late := [] }, 0)
theorem flush_ok (h : St W0 w F (DkL g vb vl m ++ L) I) (ok : m.ok) :
    Ret Tryz.prog 81 [.pointer (some ⟨g, 0, none⟩)] w fun u w' => u = .int .i64 (flushN m).2 ∧ ∃ vl', St W0 w' F (DkL g vb vl' (flushN m).1 ++ L) I := by
  refine ent81 _ _ _ ?_
  simp (disch := first | omega | exact okFill_t rfl | exact okSize_t rfl | exact fun h => h | (simp only [World.size_alloc, World.size_drew, World.size_setCell, size_fill, bytesW]; omega)) only [go_sem, c81, c81S0, c81S1, c81L0, c81S2, c81S3, c81S4, c81S5]
  refine Ret.mono (ready_ok 0 h ok) ?_
  rintro _ w2 ⟨rfl, e2⟩
  subst w2
  unfold flushN
  by_cases hr : readyN m 0 = 0
  case neg =>
    rw [if_pos hr]
    simp (disch := first | omega | exact okFill_t rfl | exact okSize_t rfl | exact fun h => h | (simp only [World.size_alloc, World.size_drew, World.size_setCell, size_fill, bytesW]; omega)) only [go_sem, c81, c81S0, c81S1, c81L0, c81S2, c81S3, c81S4, c81S5, hr]
    exact ⟨vl, h⟩
  rw [if_neg (by omega)]
  simp (disch := first | omega | exact okFill_t rfl | exact okSize_t rfl | exact fun h => h | (simp only [World.size_alloc, World.size_drew, World.size_setCell, size_fill, bytesW]; omega)) only [go_sem, c81, c81S0, c81S1, c81L0, c81S2, c81S3, c81S4, c81S5, hr]
  refine Ret.mono (use_ok h ok) ?_
  rintro _ w2 ⟨rfl, h2⟩
  have ok2 := useN_ok ok
  have hl := useN_late m
  by_cases hu : (useN m).2 = 0
  case neg =>
    rw [if_pos hu]
    simp (disch := first | omega | exact okFill_t rfl | exact okSize_t rfl | exact fun h => h | (simp only [World.size_alloc, World.size_drew, World.size_setCell, size_fill, bytesW]; omega)) only [go_sem, c81, c81S0, c81S1, c81L0, c81S2, c81S3, c81S4, c81S5, hu]
    exact ⟨vl, h2⟩
  rw [if_neg (by omega), ← hl.1, ← hl.2]
  generalize (useN m).1 = m1 at h2 ok2 ⊢
  obtain ⟨gb, cb, al, cl, rfl, rfl, hcl⟩ := dk_form h2 ok2
  have r1 := h2.rules 0 rfl
  simp (disch := first | omega | exact okFill_t rfl | exact okSize_t rfl | exact fun h => h | (simp only [World.size_alloc, World.size_drew, World.size_setCell, size_fill, bytesW]; omega)) only [go_sem, c81, c81S0, c81S1, c81S2, c81S3, c81S4, c81S5, hu, r1]
  refine W_loopU (fun k : Nat => [(19, .int .i64 k)]) (fun k w' => St W0 w' F (DkL g (.slice (some ⟨gb, 0, none⟩) m1.safe.length cb) (.slice al m1.late.length cl) { m1 with safe := doneL m1.safe (m1.late.take k) } ++ L) I ∧ k ≤ m1.late.length) (fun k => m1.late.length - k) 0 rfl ⟨h2, Nat.zero_le _⟩ ?_
  rintro k w4 ⟨h4, hk⟩
  have r4 := h4.rules 0 rfl
  have l4 := h4.low 0 rfl
  by_cases hlt : k < m1.late.length
  · have hlt' : (k : Int) < m1.late.length := by omega
    have hL : RdS w4 2 pendV (.slice al m1.late.length cl) m1.late := RdS.of_own' (h4.row 2 rfl) m1.late rfl rfl
    obtain ⟨p, rfl⟩ := hL.ptr (by omega)
    have eL := hL.at pendV_len hlt
    obtain ⟨x0, x1, x2⟩ := ok2.late _ (List.getElem_mem hlt)
    obtain ⟨i0, ei⟩ := Int.eq_ofNat_of_zero_le x0
    have x1' : (i0 : Int) < m1.safe.length := by omega
    simp (disch := first | omega | exact okFill_t rfl | exact okSize_t rfl | exact fun h => h | (simp only [World.size_alloc, World.size_drew, World.size_setCell, size_fill, bytesW]; omega)) only [go_sem, c81, c81S0, c81S1, c81L0, c81S2, c81S3, c81S4, c81S5, c81L0, hlt', eL, pendV, r4, ei]
    refine ⟨by omega, c81draw0 (Chg (fun _ => False) _) (Chg.refl _ _) ?_⟩
    have hlen : (doneL m1.safe (m1.late.take k)).length = m1.safe.length := doneL_length ..
    have h4' := st_recast h4 (L' := [.blk g #[.slice (some ⟨gb, 0, none⟩) m1.safe.length cb, .slice (some p) m1.late.length cl, .int .i64 m1.left, .bool m1.gone, .string (ofL zeroB)] 91, .row (.slice (some ⟨gb, 0, none⟩) m1.safe.length cb) 9 1 m1.safe.length ((doneL m1.safe (m1.late.take k)).flatMap strE), .row (.slice (some p) m1.late.length cl) 93 2 m1.late.length (m1.late.flatMap pendV)] ++ L) (by simp only [DkL, hlen])
    have h5 := (h4'.box #[.int .i64 i0, .string (ofL m1.late[k].2)] 93).drew
    generalize w4.heap.size = y at h5 ⊢
    generalize (w4.alloc (.cells #[.int .i64 i0, .string (ofL m1.late[k].2)] 93)).drew = w5 at h5 ⊢
    have r5 := h5.rules 0 rfl
    have l5 := h5.low 0 rfl
    have q5 := h5.rules 1 rfl
    have m5 := h5.low 1 rfl
    clear r4 l4
    have hS : RdS w5 1 strE (.slice (some ⟨gb, 0, none⟩) m1.safe.length cb) (doneL m1.safe (m1.late.take k)) := RdS.of_own' (h5.row 2 rfl) _ hlen.symm rfl
    simp (disch := first | omega | exact okFill_t rfl | exact okSize_t rfl | exact fun h => h | (simp only [World.size_alloc, World.size_drew, World.size_setCell, size_fill, bytesW]; omega)) only [go_sem, c81, c81S0, c81S1, c81L0, c81S2, c81S3, c81S4, c81S5, c81D0, r5, q5, x1']
    have eS := RdS.at1 (e1 := fun s => .string (ofL s)) hS (k := i0) (by rw [hlen]; omega)
    rw [Addr.add_lit, Nat.zero_add] at eS
    have hfz := (h5.row 2 rfl).frozenAt i0
    have h6 := (h5.put 2 rfl i0 (.string (ofL m1.late[k].2))).sub (List.sublist_cons_self _ _)
    have e1 : doneL m1.safe (m1.late.take (k + 1)) = (doneL m1.safe (m1.late.take k)).set i0 m1.late[k].2 := by
      rw [List.take_succ_eq_append_getElem hlt, doneL_snoc, ei]; rfl
    have hless := ok2.less
    refine ⟨by omega, ⟨_, eS⟩, hfz, ⟨by omega, by omega⟩, k + 1, rfl, ⟨st_recast h6 ?_, by omega⟩, by omega⟩
    simp only [DkL, e1, List.length_set, hlen]
    rw [← strE_set]
    rfl
  · have hlt' : ¬ (k : Int) < m1.late.length := by omega
    simp (disch := first | omega | exact okFill_t rfl | exact okSize_t rfl | exact fun h => h | (simp only [World.size_alloc, World.size_drew, World.size_setCell, size_fill, bytesW]; omega)) only [go_sem, c81, c81S0, c81S1, c81L0, c81S2, c81S3, c81S4, c81S5, c81L0, hlt', r4]
    refine ⟨.slice none 0 0, ?_⟩
    have h5 := h4.set 0 rfl 1 (.slice none 0 0)
    rw [List.take_of_length_le (by omega)] at h5
    have h6 := h5.sub (L' := [.blk g #[.slice (some ⟨gb, 0, none⟩) m1.safe.length cb, .slice none 0 0, .int .i64 m1.left, .bool m1.gone, .string (ofL zeroB)] 91, .row (.slice (some ⟨gb, 0, none⟩) m1.safe.length cb) 9 1 (doneL m1.safe m1.late).length ((doneL m1.safe m1.late).flatMap strE)] ++ L) (by
      refine List.Sublist.cons_cons _ (List.Sublist.cons_cons _ ?_)
      exact List.sublist_cons_self _ _)
    exact St.front (A := [.row (.slice none 0 0) 93 2 0 []]) (D := [.blk g #[.slice (some ⟨gb, 0, none⟩) m1.safe.length cb, .slice none 0 0, .int .i64 m1.left, .bool m1.gone, .string (ofL zeroB)] 91, .row (.slice (some ⟨gb, 0, none⟩) m1.safe.length cb) 9 1 (doneL m1.safe m1.late).length ((doneL m1.safe m1.late).flatMap strE)]) (L := L) (h6.nilRow 93 2)
end
end Go.Proofs.YtmchjbgobiagiaaGreat

namespace Go.Proofs.YtmchjbgobiagiaaGreat
set_option linter.unusedSimpArgs false
set_option linter.unusedVariables false
set_option maxRecDepth 100000
open Go Go.Ann Go.RowKit Go.WideShapes
theorem zeros_ok (w : World) :
    Ret Tryz.prog 68 [] w fun v w' => v = .string (ofL zeroB) ∧ Below w.heap.size w w' := by
  refine ent68 _ _ ?_
  simp only [go_sem, c68, loadK_int, loadK_bool, loadK_str, loadK_slice, loadK_ptr, loadK_map, loadK_agg, loadK_other, heldW]
  refine msW_one ty106mkI rfl (by omega) (by omega) (by omega) (by omega) ?_
  simp only [go_sem, c68, loadK_int, loadK_bool, loadK_str, loadK_slice, loadK_ptr, loadK_map, loadK_agg, loadK_other, heldW]
  exact ⟨zeroB, List.length_replicate, bytesAt_new w 256 _, rfl, (Below.refl _ _).alloc (Nat.le_refl _) _⟩
def newDk (n : Nat) : Dk := { safe := List.replicate n zeroB, late := [], left := -1, gone := false }
theorem newDk_ok {n : Nat} (h0 : 0 < n) (h1 : n ≤ 2048) : (newDk n).ok :=
  ⟨fun s hs => by rw [List.eq_of_mem_replicate hs]; exact List.length_replicate, fun _ h => (by cases h), ⟨by simp [newDk], by simp [newDk]⟩, by simp [newDk]; omega, by simp [newDk]; omega, by simp [newDk]⟩
section
variable {W0 w : World} {F : Nat → Prop} {L : List Res} {I : List Inv}
theorem new_ok {n : Nat} (h : St W0 w F L I) (h0 : 0 < n) (h1 : n ≤ 2048) :
    Ret Tryz.prog 42 [.int .i64 n] w fun u w' => ∃ g vb vl, u = .tuple #[.pointer (some ⟨g, 0, none⟩), .int .i64 0] ∧ St W0 w' F (DkL g vb vl (newDk n) ++ L) I := by
  have h0' : ¬ (n : Int) < 1 := by omega
  have h1' : ¬ (2048 : Int) < n := by omega
  refine ent42 _ _ _ ?_
  simp (disch := first | omega | exact okFill_t rfl | exact okSize_t rfl | exact fun h => h | (simp only [World.size_alloc, World.size_drew, World.size_setCell, size_fill, bytesW]; omega)) only [go_sem, c42, c42S0, c42S1, c42S2, c42S3, c42S4, h0', h1']
  refine Ret.mono (zeros_ok w) ?_
  rintro _ w2 ⟨rfl, b2⟩
  have s2 := h.call b2
  simp (disch := first | omega | exact okFill_t rfl | exact okSize_t rfl | exact fun h => h | (simp only [World.size_alloc, World.size_drew, World.size_setCell, size_fill, bytesW]; omega)) only [go_sem, c42, c42S0, c42S1, c42S2, c42S3, c42S4]
  refine bdW_built (cells := #[.slice none 0 0, .slice none 0 0, .int .i64 (-1), .bool false, .string (ofL zeroB)]) (by kernel_rfl) ?_
  have s3 := (s2.box #[.slice none 0 0, .slice none 0 0, .int .i64 (-1), .bool false, .string (ofL zeroB)] 91)
  simp (disch := first | omega | exact okFill_t rfl | exact okSize_t rfl | exact fun h => h | (simp only [World.size_alloc, World.size_drew, World.size_setCell, size_fill, bytesW]; omega)) only [go_sem, c42, c42S0, c42S1, c42S2, c42S3, c42S4]
  generalize w2.heap.size = g at s3 ⊢
  generalize w2.alloc (.cells #[.slice none 0 0, .slice none 0 0, .int .i64 (-1), .bool false, .string (ofL zeroB)] 91) = w3 at s3 ⊢
  have s3 : St W0 w3 F (DkL g (.slice none 0 0) (.slice none 0 0) (newDk 0) ++ L) I :=
    St.front (A := [.row (.slice none 0 0) 9 1 0 [], .row (.slice none 0 0) 93 2 0 []]) (D := [.blk g #[.slice none 0 0, .slice none 0 0, .int .i64 (-1), .bool false, .string (ofL zeroB)] 91]) (L := L) ((s3.nilRow 93 2).nilRow 9 1)
  refine W_loopU (fun q : Nat × Value => [(15, .int .i64 q.1)]) (fun q w' => St W0 w' F (DkL g q.2 (.slice none 0 0) (newDk q.1) ++ L) I ∧ q.1 ≤ n) (fun q => n - q.1) (0, .slice none 0 0) rfl ⟨s3, Nat.zero_le _⟩ ?_
  clear s3 s2 b2
  rintro ⟨k, v⟩ w4 ⟨s4, hk⟩
  simp only at s4 hk
  by_cases hlt : k < n
  · have hlt' : (k : Int) < n := by omega
    simp (disch := first | omega | exact okFill_t rfl | exact okSize_t rfl | exact fun h => h | (simp only [World.size_alloc, World.size_drew, World.size_setCell, size_fill, bytesW]; omega)) only [go_sem, c42, c42S0, c42S1, c42L0, c42S2, c42S3, c42S4, c42L0, hlt']
    refine c42draw0 (Chg (fun _ => False) _) (Chg.refl _ _) ?_
    have s5 := s4.drew
    have r5 := s5.rules 0 rfl
    have l5 := s5.low 0 rfl
    obtain ⟨va, vc, rfl, _⟩ := own_slice (s5.row 1 rfl)
    generalize w4.drew = w5 at s5 r5 l5 ⊢
    simp (disch := first | omega | exact okFill_t rfl | exact okSize_t rfl | exact fun h => h | (simp only [World.size_alloc, World.size_drew, World.size_setCell, size_fill, bytesW]; omega)) only [go_sem, c42, c42S0, c42S1, c42L0, c42S2, c42S3, c42S4, c42D0, r5]
    have ones : ∀ u ∈ strE zeroB, u.oneCell' = true := by simpa using strE_ones [zeroB]
    refine bsW_ones ty49mkI rfl rfl (by decide) (by decide) ones ?_
    have hx : Rd (w5.alloc (.cells (strE zeroB).toArray 9)) 1 (.slice (some ⟨w5.heap.size, 0, none⟩) 1 1) 1 (strE zeroB) := rd_new (n := 1) (cs := (strE zeroB).toArray) rfl
    simp (disch := first | omega | exact okFill_t rfl | exact okSize_t rfl | exact fun h => h | (simp only [World.size_alloc, World.size_drew, World.size_setCell, size_fill, bytesW]; omega)) only [go_sem, c42, c42S0, c42S1, c42L0, c42S2, c42S3, c42S4]
    refine ⟨(Chg.refl _ _).alloc _, ?_⟩
    have hlk : (newDk k).safe.length = k := List.length_replicate
    refine (s5.alloc' (.cells (strE zeroB).toArray 9)).append 1 rfl ty49mkI rfl (by decide) hx ones (by omega) (by omega) ?_
    intro v6 w6 h6 c6
    obtain ⟨a6, d6, rfl, _⟩ := own_slice (h6.row 1 rfl)
    have r6 := h6.rules 0 rfl
    simp (disch := first | omega | exact okFill_t rfl | exact okSize_t rfl | exact fun h => h | (simp only [World.size_alloc, World.size_drew, World.size_setCell, size_fill, bytesW]; omega)) only [go_sem, c42, c42S0, c42S1, c42L0, c42S2, c42S3, c42S4, r6]
    refine ⟨⟨by omega, by omega⟩, (k + 1, .slice a6 ((newDk k).safe.length + 1) d6), rfl, ⟨st_recast (h6.set 0 rfl 0 (.slice a6 ((newDk k).safe.length + 1) d6)) ?_, by simp only; omega⟩, by simp only; omega⟩
    have e : (newDk (k + 1)).safe = (newDk k).safe ++ [zeroB] := List.replicate_succ'
    simp only [DkL, e, List.length_append, List.length_singleton, List.flatMap_append, List.flatMap_cons, List.flatMap_nil, List.append_nil]
    rfl
  · have hlt' : ¬ (k : Int) < n := by omega
    obtain rfl : k = n := by omega
    simp (disch := first | omega | exact okFill_t rfl | exact okSize_t rfl | exact fun h => h | (simp only [World.size_alloc, World.size_drew, World.size_setCell, size_fill, bytesW]; omega)) only [go_sem, c42, c42S0, c42S1, c42L0, c42S2, c42S3, c42S4, c42L0, hlt']
    exact ⟨g, v, _, rfl, s4⟩
theorem len_ok {g : Nat} {vb vl : Value} {m : Dk} (h : St W0 w F (DkL g vb vl m ++ L) I) (ok : m.ok) :
    Ret Tryz.prog 69 [.pointer (some ⟨g, 0, none⟩)] w fun u w' => u = .int .i64 m.safe.length ∧ w' = w := by
  obtain ⟨gb, cb, al, cl, rfl, rfl, _⟩ := dk_form h ok
  refine ent69 _ _ _ ?_
  have r1 := h.rules 0 rfl
  simp (disch := first | omega | exact okFill_t rfl | exact okSize_t rfl | exact fun h => h | (simp only [World.size_alloc, World.size_drew, World.size_setCell, size_fill, bytesW]; omega)) only [go_sem, c69, c69S0, r1]
end
end Go.Proofs.YtmchjbgobiagiaaGreat

namespace Go.Proofs.YtmchjbgobiagiaaGreat
set_option linter.unusedSimpArgs false
set_option linter.unusedVariables false
set_option maxRecDepth 100000
open Go Go.Ann Go.RowKit
def bitOf (c : Int) (k : Nat) : Bool := decide (c / 2 ^ k % 2 = 1)
def hasL (l : List UInt8) (i : Int) : Bool := decide (0 ≤ i) && decide (i < 8 * l.length) && bitOf (bN l (i / 8)) (i % 8).toNat
theorem and_one_u8 (x : Int) (h0 : 0 ≤ x) (h1 : x ≤ 255) : bits BinOp.and IntKind.u8 x 1 = x % 2 := by
  obtain ⟨n, rfl⟩ := Int.eq_ofNat_of_zero_le h0
  have : ∀ m : Fin 256, bits BinOp.and IntKind.u8 ((m.val : Nat) : Int) 1 = (m.val : Int) % 2 := by decide +kernel
  exact this ⟨n, by omega⟩
theorem div_pow_bd (c : Int) (k : Nat) (hc0 : 0 ≤ c) (hc : c ≤ 255) : 0 ≤ c / 2 ^ k ∧ c / 2 ^ k ≤ 255 := by
  have h1 : (0:Int) < 2 ^ k := Int.pow_pos (by decide)
  refine ⟨Int.ediv_nonneg hc0 (Int.le_of_lt h1), ?_⟩
  exact Int.le_trans (Int.ediv_le_self _ hc0) hc
theorem has_ok (l : List UInt8) (i : Int) (w : World) (hi : I64 i) :
    Ret Tryz.prog 38 [.string (ofL l), .int .i64 i] w fun v w' => v = .bool (hasL l i) ∧ w' = w := by
  refine ent38 _ _ _ _ ?_
  simp only [go_sem, c38, loadK_int, loadK_bool, loadK_str, loadK_slice, loadK_ptr, loadK_map, loadK_agg, loadK_other, heldW]
  refine ⟨fun h0 => ?_, fun h0 => ?_⟩
  · rw [Int.tdiv_eq_ediv_of_nonneg h0, Int.tmod_eq_emod_of_nonneg h0]
    refine ⟨hi, fun h1 => ⟨hi, ⟨by omega, h1⟩, ?_⟩, fun h1 => ?_⟩
    · have b := bN_bd l (i / 8)
      rw [wrap_u64_id _ (by omega) (by omega), show min (i % 8).toNat 8 = (i % 8).toNat by omega]
      have b' := div_pow_bd _ (i % 8).toNat b.1 b.2
      rw [and_one_u8 _ b'.1 b'.2]
      have e1 : decide (0 ≤ i) = true := by simpa using h0
      have e2 : decide (i < 8 * (l.length : Int)) = true := by simp; omega
      simp [hasL, e1, e2, bitOf]
    · have e2 : decide (i < 8 * (l.length : Int)) = false := by simp; omega
      simp [hasL, e2]
  · have e2 : decide (0 ≤ i) = false := by simp; omega
    simp [hasL, e2]
def setBit (c : Int) (k : Nat) (b : Bool) : Int := if b then (if bitOf c k then c else c + 2 ^ k) else (if bitOf c k then c - 2 ^ k else c)
theorem setBit_or (c : Int) (k : Nat) (h0 : 0 ≤ c) (h1 : c ≤ 255) (hk : k < 8) : bits .or .u8 c (IntKind.u8.wrap (1 * 2 ^ k)) = setBit c k true := by
  obtain ⟨n, rfl⟩ := Int.eq_ofNat_of_zero_le h0
  have : ∀ (m : Fin 256) (k : Fin 8), bits .or .u8 ((m.val : Nat) : Int) (IntKind.u8.wrap (1 * 2 ^ k.val)) = setBit (m.val : Int) k.val true := by decide +kernel
  exact this ⟨n, by omega⟩ ⟨k, hk⟩
theorem setBit_andNot (c : Int) (k : Nat) (h0 : 0 ≤ c) (h1 : c ≤ 255) (hk : k < 8) : bits .andNot .u8 c (IntKind.u8.wrap (1 * 2 ^ k)) = setBit c k false := by
  obtain ⟨n, rfl⟩ := Int.eq_ofNat_of_zero_le h0
  have : ∀ (m : Fin 256) (k : Fin 8), bits .andNot .u8 ((m.val : Nat) : Int) (IntKind.u8.wrap (1 * 2 ^ k.val)) = setBit (m.val : Int) k.val false := by decide +kernel
  exact this ⟨n, by omega⟩ ⟨k, hk⟩
theorem setBit_bd (c : Int) (k : Nat) (b : Bool) (h0 : 0 ≤ c) (h1 : c ≤ 255) (hk : k < 8) : 0 ≤ setBit c k b ∧ setBit c k b ≤ 255 := by
  obtain ⟨n, rfl⟩ := Int.eq_ofNat_of_zero_le h0
  have : ∀ (m : Fin 256) (k : Fin 8) (b : Bool), 0 ≤ setBit (m.val : Int) k.val b ∧ setBit (m.val : Int) k.val b ≤ 255 := by decide +kernel
  exact this ⟨n, by omega⟩ ⟨k, hk⟩ b
def withL (l : List UInt8) (i : Int) (b : Bool) : List UInt8 :=
  if 0 ≤ i ∧ i < 8 * l.length then l.set (i / 8).toNat (UInt8.ofNat (setBit (bN l (i / 8)) (i % 8).toNat b).toNat) else l
def fitsL (l : List UInt8) (i : Int) : Bool := decide (0 ≤ i ∧ i < 8 * l.length)
theorem with_ok (l : List UInt8) (i : Int) (b : Bool) (w : World) (hi : I64 i) :
    Ret Tryz.prog 28 [.string (ofL l), .int .i64 i, .bool b] w fun v w' => v = .tuple #[.string (ofL (withL l i b)), .bool (fitsL l i)] ∧ Below w.heap.size w w' := by
  refine ent28 _ _ _ _ _ ?_
  simp only [go_sem, c28, c28S0, c28S1, loadK_int, loadK_bool, loadK_str, loadK_slice, loadK_ptr, loadK_map, loadK_agg, loadK_other, heldW]
  refine ⟨fun h0 => ?_, fun h0 => ?_⟩
  · rw [Int.tdiv_eq_ediv_of_nonneg h0, Int.tmod_eq_emod_of_nonneg h0]
    refine ⟨hi, fun h1 => ?_, fun h1 c hc => ?_⟩
    · have h2 : ¬ (0 ≤ i ∧ i < 8 * (l.length : Int)) := by omega
      rw [withL, fitsL, if_neg h2, decide_eq_false h2]
      exact ⟨rfl, Below.refl _ _⟩
    · have h2 : (0 ≤ i ∧ i < 8 * (l.length : Int)) := by omega
      have h3 : 0 ≤ i / 8 := by omega
      have hlt : (i / 8).toNat < l.length := by omega
      have hg := List.getElem?_eq_getElem hlt
      have hcell := cell_bytesW w l c 5 _ _ hg
      have hfr := frozen_bytesW w l c 5 (i / 8).toNat (by omega)
      have hbn : bN l (i / 8) = (l[(i / 8).toNat].toNat : Int) := by
        rw [← bN_get l _ _ hg, Int.toNat_of_nonneg h3]
      have bd := bN_bd l (i / 8)
      have e5 : min (i % 8).toNat 8 = (i % 8).toNat := by omega
      rw [hcell, hfr, wrap_u64_id _ (show 0 ≤ i % 8 by omega) (by omega), e5, ← hbn]
      have hat := bytesAt_bytesW w l c 5
      have key : ∀ bb, bytesAt ((bytesW w l c 5).setCell ⟨w.heap.size, (i / 8).toNat, none⟩ (.int .u8 (setBit (bN l (i / 8)) (i % 8).toNat bb))) (some ⟨w.heap.size, 0, none⟩) (withL l i bb) := by
        intro bb
        have bd2 := setBit_bd (bN l (i / 8)) (i % 8).toNat bb bd.1 bd.2 (by omega)
        have := bytesAt_set hat bd2.1 bd2.2 hlt
        rw [Nat.zero_add] at this
        rw [withL, if_pos h2]
        exact this
      have hlen : ∀ bb, (withL l i bb).length = l.length := fun bb => by rw [withL, if_pos h2, List.length_set]
      refine ⟨fun hb => ?_, fun hb => ?_⟩ <;> subst hb
      · refine ⟨hi, ⟨h3, h1⟩, _, rfl, ⟨h3, h1⟩, ⟨_, rfl⟩, rfl, withL l i true, hlen true, ?_, ?_, (below_bytesW _ _ _ _).setCell (Nat.le_refl _) _⟩
        · rw [setBit_or _ _ bd.1 bd.2 (by omega)]; exact key true
        · rw [fitsL, decide_eq_true h2]
      · refine ⟨hi, ⟨h3, h1⟩, _, rfl, ⟨h3, h1⟩, ⟨_, rfl⟩, rfl, withL l i false, hlen false, ?_, ?_, (below_bytesW _ _ _ _).setCell (Nat.le_refl _) _⟩
        · rw [setBit_andNot _ _ bd.1 bd.2 (by omega)]; exact key false
        · rw [fitsL, decide_eq_true h2]
  · have h2 : ¬ (0 ≤ i ∧ i < 8 * (l.length : Int)) := by omega
    rw [withL, fitsL, if_neg h2, decide_eq_false h2]
    exact ⟨rfl, Below.refl _ _⟩
def emptyL (n : Int) : List UInt8 := List.replicate ((n + 7) / 8).toNat 0
theorem bytesAt_zeros (w : World) (n : Nat) (e : Nat) : bytesAt (w.alloc (.cells (zerosA (.int .u8 0) n) e)) (some ⟨w.heap.size, 0, none⟩) (List.replicate n 0) := by
  intro i b h
  simp only [Addr.add_lit, Nat.zero_add]
  obtain ⟨hi, hb⟩ := List.getElem?_eq_some_iff.1 h
  simp only [List.length_replicate] at hi
  simp only [List.getElem_replicate] at hb
  subst hb
  rw [World.cell?_alloc_at _ _ _ _ rfl]
  simp [zerosA, hi]
theorem empty_ok (n : Int) (w : World) (hi : I64 n) (hn : n ≤ 100000000) :
    Ret Tryz.prog 40 [.int .i64 n] w fun v w' => v = .string (ofL (emptyL n)) ∧ Below w.heap.size w w' := by
  have hk : max 0 (n.tdiv 8 + min 1 (max 0 (n.tmod 8))) = max 0 ((n + 7) / 8) := by
    rcases Int.le_total 0 n with h | h
    · rw [Int.tdiv_eq_ediv_of_nonneg h, Int.tmod_eq_emod_of_nonneg h]; omega
    · have h1 : n.tdiv 8 ≤ 0 := by
        have h2 : n.tdiv 8 = -((-n) / 8) := by
          rw [← Int.tdiv_eq_ediv_of_nonneg (by omega), Int.neg_tdiv, Int.neg_neg]
        omega
      have h2 : n.tmod 8 ≤ 0 := by
        have h2 : n.tmod 8 = -((-n) % 8) := by
          rw [← Int.tmod_eq_emod_of_nonneg (by omega), Int.neg_tmod, Int.neg_neg]
        omega
      omega
  have hd : I64 (n.tdiv 8) := tdiv_i64 n 8 (by decide) (by decide) hi
  refine ent40 _ _ _ ?_
  simp only [go_sem, c40, c40S0, loadK_int, loadK_bool, loadK_str, loadK_slice, loadK_ptr, loadK_map, loadK_agg, loadK_other, heldW]
  refine ⟨hi, ?_, ?_⟩
  · obtain ⟨h1, h2⟩ := hd
    have h3 : n.tdiv 8 ≤ 100000000 := by
      rcases Int.le_total 0 n with h | h
      · rw [Int.tdiv_eq_ediv_of_nonneg h]; omega
      · have h2 : n.tdiv 8 = -((-n) / 8) := by
          rw [← Int.tdiv_eq_ediv_of_nonneg (by omega), Int.neg_tdiv, Int.neg_neg]
        omega
    exact ⟨by omega, by omega⟩
  · rw [hk]
    refine msW_one ty106mkI rfl (by omega) (by omega) (by omega) (by omega) ?_
    simp only [go_sem, c40, c40S0, loadK_int, loadK_bool, loadK_str, loadK_slice, loadK_ptr, loadK_map, loadK_agg, loadK_other, heldW]
    have hb := bytesAt_zeros w (max 0 ((n + 7) / 8)).toNat 5
    have e : List.replicate (max 0 ((n + 7) / 8)).toNat (0 : UInt8) = emptyL n := by unfold emptyL; congr 1; omega
    rw [e] at hb
    exact ⟨emptyL n, by unfold emptyL; rw [List.length_replicate]; omega, hb, rfl, (Below.refl _ _).alloc (Nat.le_refl _) _⟩
def IsLow (l : List UInt8) (a b v : Int) (ok : Bool) : Prop :=
  (ok = true ∧ a ≤ v ∧ 0 ≤ v ∧ v < b ∧ v < 8 * l.length ∧ hasL l v = false ∧ ∀ j, a ≤ j → 0 ≤ j → j < v → hasL l j = true) ∨
  (ok = false ∧ v = 0 ∧ ∀ j, a ≤ j → 0 ≤ j → j < b → j < 8 * l.length → hasL l j = true)
theorem hasL_255 (l : List UInt8) (i : Int) (h0 : 0 ≤ i) (h1 : i < 8 * l.length) (hb : bN l (i / 8) = 255) : hasL l i = true := by
  have e1 : decide (0 ≤ i) = true := by simpa using h0
  have e2 : decide (i < 8 * (l.length : Int)) = true := by simpa using h1
  have : ∀ k : Fin 8, bitOf 255 k.val = true := by decide
  have := this ⟨(i % 8).toNat, by omega⟩
  simp [hasL, e1, e2, hb, this]
theorem lowest_ok (l : List UInt8) (a b : Int) (w : World) (ha : I64 a) (hb : I64 b) (hl : (l.length : Int) ≤ 140737488355328) :
    Ret Tryz.prog 27 [.string (ofL l), .int .i64 a, .int .i64 b] w fun v w' => ∃ n ok, v = .tuple #[.int .i64 n, .bool ok] ∧ IsLow l a b n ok ∧ w' = w := by
  obtain ⟨b1, b2⟩ := hb
  obtain ⟨a1, a2⟩ := ha
  refine ent27 _ _ _ _ _ ?_
  simp only [go_sem, c27, c27S0, c27S1, c27S2, c27S3, c27L0, c27S4, c27S5, loadK_int, loadK_bool, loadK_str, loadK_slice, loadK_ptr, loadK_map, loadK_agg, loadK_other, heldW]
  refine W_loop (fun i : Int => [(0, .string (ofL l)), (2, .int .i64 b), (8, .int .i64 i)]) (fun i w' => max 0 a ≤ i ∧ i ≤ 9223372036854775807 ∧ (∀ j, a ≤ j → 0 ≤ j → j < i → j < b → j < 8 * l.length → hasL l j = true) ∧ w' = w)
    (fun i => (9223372036854775807 - i).toNat) (max 0 a) (by rfl) ⟨by omega, by omega, fun j h1 h2 h3 => by omega, rfl⟩ ?_
  rintro i w' ⟨hi0, hi1, hall, rfl⟩
  have hii : I64 i := ⟨by omega, by omega⟩
  have i0 : 0 ≤ i := by omega
  have none : (i < b → (l.length : Int) ≤ i / 8) → ∃ n ok, Value.tuple #[.int .i64 0, .bool false] = .tuple #[.int .i64 n, .bool ok] ∧ IsLow l a b n ok := by
    intro h
    refine ⟨0, false, rfl, .inr ⟨rfl, rfl, fun j h1 h2 h3 h4 => ?_⟩⟩
    rcases Int.lt_or_le j i with h5 | h5
    · exact hall j h1 h2 h5 h3 h4
    · have := h (by omega); omega
  have next : ∀ d : Int, 1 ≤ d → d ≤ 8 → i < b → i / 8 < l.length → (∀ j, i ≤ j → j < i + d → j < 8 * l.length → hasL l j = true) →
      ∃ s', [(0, Value.string (ofL l)), (2, Value.int .i64 b), (8, Value.int .i64 (i + d))] = [(0, Value.string (ofL l)), (2, Value.int .i64 b), (8, Value.int .i64 s')] ∧
        (max 0 a ≤ s' ∧ s' ≤ 9223372036854775807 ∧ (∀ j, a ≤ j → 0 ≤ j → j < s' → j < b → j < 8 * l.length → hasL l j = true)) ∧ (9223372036854775807 - s').toNat < (9223372036854775807 - i).toNat := by
    intro d d1 d8 h1 h2 h3
    refine ⟨i + d, rfl, ⟨by omega, by omega, fun j g1 g2 g3 g4 g5 => ?_⟩, by omega⟩
    rcases Int.lt_or_le j i with h5 | h5
    · exact hall j g1 g2 h5 g4 g5
    · exact h3 j h5 g3 g5
  have done : i < b → i / 8 < l.length → hasL l i = false → ∃ n ok, Value.tuple #[.int .i64 i, .bool true] = .tuple #[.int .i64 n, .bool ok] ∧ IsLow l a b n ok := by
    intro h1 h2 h3
    exact ⟨i, true, rfl, .inl ⟨rfl, by omega, i0, h1, by omega, h3, fun j g1 g2 g3 => hall j g1 g2 g3 (by omega) (by omega)⟩⟩
  simp only [go_sem, c27, c27S0, c27S1, c27S2, c27S3, c27L0, c27S4, c27S5, c27L0, loadK_int, loadK_bool, loadK_str, loadK_slice, loadK_ptr, loadK_map, loadK_agg, loadK_other, heldW]
  rw [Int.tdiv_eq_ediv_of_nonneg i0, Int.tmod_eq_emod_of_nonneg i0]
  refine ⟨fun h1 => ⟨hii, fun h2 => ⟨fun h3 => ⟨hii, ⟨by omega, h2⟩, fun h4 => ⟨⟨by omega, by omega⟩, ⟨by omega, by omega⟩, ?_⟩, fun h4 => ?_⟩, fun h3 => ?_⟩, fun h2 => ?_⟩, fun h1 => ?_⟩
  · have := next 8 (by omega) (by omega) h1 h2 (fun j g1 g2 g3 => hasL_255 l j (by omega) g3 (by rw [show j / 8 = i / 8 by omega]; exact h4))
    rw [show i + 7 + 1 = i + 8 by omega]
    exact this
  · refine (has_ok l i _ hii).mono ?_
    rintro _ _ ⟨rfl, rfl⟩
    simp only [go_sem, c27, c27S0, c27S1, c27S2, c27S3, c27L0, c27S4, c27S5, loadK_int, loadK_bool, loadK_str, loadK_slice, loadK_ptr, loadK_map, loadK_agg, loadK_other, heldW]
    refine ⟨fun h5 => done h1 h2 h5, fun h5 => ⟨⟨by omega, by omega⟩, next 1 (by omega) (by omega) h1 h2 (fun j g1 g2 g3 => by rw [show j = i by omega]; exact h5)⟩⟩
  · refine (has_ok l i _ hii).mono ?_
    rintro _ _ ⟨rfl, rfl⟩
    simp only [go_sem, c27, c27S0, c27S1, c27S2, c27S3, c27L0, c27S4, c27S5, loadK_int, loadK_bool, loadK_str, loadK_slice, loadK_ptr, loadK_map, loadK_agg, loadK_other, heldW]
    refine ⟨fun h5 => done h1 h2 h5, fun h5 => ⟨⟨by omega, by omega⟩, next 1 (by omega) (by omega) h1 h2 (fun j g1 g2 g3 => by rw [show j = i by omega]; exact h5)⟩⟩
  · exact none (fun _ => h2)
  · exact none (fun h => by omega)
def popN (c : Int) : Nat := ((List.range 8).filter (bitOf c)).length
def countL (l : List UInt8) : Nat := (l.map fun b => popN b.toNat).sum
theorem popN_le (c : Int) : popN c ≤ 8 := by
  unfold popN
  exact Nat.le_trans (List.length_filter_le _ _) (by simp)
theorem countL_le : ∀ l : List UInt8, countL l ≤ 8 * l.length
  | [] => by simp [countL]
  | b :: l => by
    have := countL_le l
    have h := popN_le b.toNat
    simp only [countL, List.map_cons, List.sum_cons, List.length_cons] at *
    omega
theorem countL_take (l : List UInt8) (k : Nat) (h : k < l.length) : countL (l.take (k + 1)) = countL (l.take k) + popN (bN l k) := by
  rw [List.take_succ_eq_append_getElem h]
  have : bN l k = (l[k].toNat : Int) := bN_get l k _ (List.getElem?_eq_getElem h)
  rw [this]
  unfold countL
  rw [List.map_append, List.sum_append]
  simp
theorem ones_ok (c : Int) (w : World) (h0 : 0 ≤ c) (h1 : c ≤ 255) :
    Ret Tryz.prog 62 [.int .u8 c] w fun v w' => v = .int .i64 (popN c) ∧ w' = w := by
  refine ent62 _ _ _ ?_
  simp only [go_sem, c62, loadK_int, loadK_bool, loadK_str, loadK_slice, loadK_ptr, loadK_map, loadK_agg, loadK_other, heldW]
  have len : str256x1466348926.length = 256 := by decide +kernel
  have all : ∀ m : Fin 256, bN str256x1466348926 (m.val : Int) = (popN (m.val : Int) : Int) := by decide +kernel
  have e : bN str256x1466348926 c = popN c := by
    have := all ⟨c.toNat, by omega⟩
    rwa [show ((c.toNat : Nat) : Int) = c by omega] at this
  have := popN_le c
  refine ⟨⟨h0, by omega⟩, ?_, ?_⟩
  · rw [e]; constructor <;> omega
  · rw [e]
theorem count_ok (l : List UInt8) (w : World) (hl : (l.length : Int) ≤ 140737488355328) :
    Ret Tryz.prog 37 [.string (ofL l)] w fun v w' => v = .int .i64 (countL l) ∧ w' = w := by
  refine ent37 _ _ _ ?_
  simp only [go_sem, c37, c37S0, c37S1, c37L0, c37S2, loadK_int, loadK_bool, loadK_str, loadK_slice, loadK_ptr, loadK_map, loadK_agg, loadK_other, heldW]
  refine W_loop (fun k : Nat => [(0, Value.string (ofL l)), (3, .int .i64 (countL (l.take k))), (6, .int .i64 l.length), (7, .int .i64 (k : Int))])
    (fun k w' => k ≤ l.length ∧ w' = w) (fun k => l.length - k) 0 (by rfl) ⟨Nat.zero_le _, rfl⟩ ?_
  rintro k w' ⟨hk, rfl⟩
  simp only [go_sem, c37, c37S0, c37S1, c37L0, c37S2, c37L0, loadK_int, loadK_bool, loadK_str, loadK_slice, loadK_ptr, loadK_map, loadK_agg, loadK_other, heldW]
  refine ⟨fun h => ⟨⟨by omega, h⟩, ?_⟩, fun h => ?_⟩
  · have bd := bN_bd l k
    have h' : k < l.length := by omega
    have ct := countL_take l k h'
    have c1 := countL_le (l.take (k + 1))
    have c2 := countL_le (l.take k)
    have l1 : (l.take (k + 1)).length = k + 1 := by rw [List.length_take]; omega
    have l2 : (l.take k).length = k := by rw [List.length_take]; omega
    rw [l1] at c1
    rw [l2] at c2
    refine (ones_ok _ _ bd.1 bd.2).mono ?_
    rintro _ w3 ⟨rfl, rfl⟩
    simp only [go_sem, c37, c37S0, c37S1, c37L0, c37S2, loadK_int, loadK_bool, loadK_str, loadK_slice, loadK_ptr, loadK_map, loadK_agg, loadK_other, heldW]
    refine ⟨by constructor <;> omega, by constructor <;> omega, k + 1, ?_, by omega, by omega⟩
    rw [ct]; simp
  · rw [List.take_of_length_le (by omega)]
theorem set_bits : ∀ (c : Fin 256) (k j : Fin 8) (b : Bool), bitOf ((UInt8.ofNat (setBit (c.val : Int) k.val b).toNat).toNat : Int) j.val = if j = k then b else bitOf c.val j.val := by decide +kernel
theorem bN_set (l : List UInt8) (j : Int) (u : UInt8) (h0 : 0 ≤ j) (h : j < l.length) (k : Int) (hk : 0 ≤ k) : bN (l.set j.toNat u) k = if k = j then (u.toNat : Int) else bN l k := by
  by_cases e : k = j
  · subst e
    rw [if_pos rfl]
    have := bN_get (l.set k.toNat u) k.toNat u (by rw [List.getElem?_set_self (by omega)])
    rwa [show ((k.toNat : Nat) : Int) = k by omega] at this
  · rw [if_neg e]
    unfold bN
    rw [List.getD_eq_getElem?_getD, List.getD_eq_getElem?_getD, List.getElem?_set_ne (by omega)]
theorem hasL_in (l : List UInt8) (i : Int) (h : 0 ≤ i ∧ i < 8 * l.length) : hasL l i = bitOf (bN l (i / 8)) (i % 8).toNat := by
  simp [hasL, h.1, h.2]
theorem withL_length (l : List UInt8) (i : Int) (b : Bool) : (withL l i b).length = l.length := by
  unfold withL; split <;> simp
theorem withL_has (l : List UInt8) (i : Int) (b : Bool) (h : fitsL l i = true) (k : Int) : hasL (withL l i b) k = if k = i then b else hasL l k := by
  have h' := of_decide_eq_true h
  by_cases hk : 0 ≤ k ∧ k < 8 * l.length
  · rw [hasL_in _ k (by rw [withL_length]; exact hk), hasL_in l k hk]
    unfold withL
    rw [if_pos h', bN_set _ _ _ (by omega) (by omega) _ (by omega)]
    have bd := bN_bd l (i / 8)
    by_cases e : k / 8 = i / 8
    · rw [if_pos e]
      have := set_bits ⟨(bN l (i / 8)).toNat, by omega⟩ ⟨(i % 8).toNat, by omega⟩ ⟨(k % 8).toNat, by omega⟩ b
      rw [show ((bN l (i / 8)).toNat : Int) = bN l (i / 8) by omega] at this
      rw [this, e]
      by_cases e2 : k = i
      · subst e2; simp
      · rw [if_neg e2, if_neg (by intro h; have := congrArg Fin.val h; simp only at this; omega)]
    · rw [if_neg e, if_neg (by rintro rfl; exact e rfl)]
  · have hn : ∀ m : List UInt8, m.length = l.length → hasL m k = false := by
      intro m hm
      unfold hasL
      rw [hm]
      rw [← Bool.decide_and, decide_eq_false hk]; rfl
    rw [hn l rfl, hn _ (withL_length l i b), if_neg (by rintro rfl; exact hk h')]
end Go.Proofs.YtmchjbgobiagiaaGreat
