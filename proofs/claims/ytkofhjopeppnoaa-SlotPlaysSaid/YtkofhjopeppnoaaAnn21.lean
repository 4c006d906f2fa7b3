/- An engine for walks. Part 21: a range over a function. -/
import Derived.Test.YtkofhjopeppnoaaAnn20
namespace Go.Ann
open Go Go.RowKit
set_option linter.unusedVariables false
set_option linter.unusedSimpArgs false
section
variable {P : Program} {N : Nat}
/-- The slots in a round: no mark. -/
def lowE : Env → Env
  | [] => []
  | (m, v) :: ρ => if m < 1000000 then (m, v) :: lowE ρ else lowE ρ
theorem lowE_nil : lowE [] = [] := rfl
theorem lowE_cons {m : Nat} {v : Value} {ρ : Env} : lowE ((m, v) :: ρ) = if m < 1000000 then (m, v) :: lowE ρ else lowE ρ := rfl
def zipE : List Nat → List Value → Env → Env
  | p :: ps, v :: vs, ρ => zipE ps vs ((p, v) :: ρ)
  | _, _, ρ => ρ
theorem zipE_nil {vs : List Value} {ρ : Env} : zipE [] vs ρ = ρ := by cases vs <;> rfl
theorem zipE_none {ps : List Nat} {ρ : Env} : zipE ps [] ρ = ρ := by cases ps <;> rfl
theorem zipE_cons {p : Nat} {ps : List Nat} {v : Value} {vs : List Value} {ρ : Env} : zipE (p :: ps) (v :: vs) ρ = zipE ps vs ((p, v) :: ρ) := rfl
attribute [go_sem] lowE_nil lowE_cons zipE_nil zipE_none zipE_cons
theorem marksD_lowE : ∀ ρ : Env, marksD (lowE ρ) = []
  | [] => rfl
  | (m, v) :: ρ => by
    simp only [lowE]
    split
    · rename_i h; simp only [marksD, if_pos h]; exact marksD_lowE ρ
    · exact marksD_lowE ρ
theorem lk_lowE : ∀ (ρ : Env) (n : Nat) (v : Value), lk (lowE ρ) n = some v → lk ρ n = some v
  | [], _, _, h => h
  | (m, u) :: ρ, n, v, h => by
    have low : ∀ (ρ : Env) (n : Nat) (v : Value), lk (lowE ρ) n = some v → n < 1000000 := by
      intro ρ
      induction ρ with
      | nil => intro n v h; simp [lowE, lk_emp] at h
      | cons x ρ ih =>
        obtain ⟨m, u⟩ := x
        intro n v h
        simp only [lowE] at h
        split at h
        · simp only [lk_if] at h
          split at h
          · omega
          · exact ih n v h
        · exact ih n v h
    simp only [lowE] at h
    split at h
    · simp only [lk_if] at h ⊢
      split at h
      · rename_i e; rw [if_pos e]; exact h
      · rename_i e; rw [if_neg e]; exact lk_lowE ρ n v h
    · rename_i hm
      have := low ρ n v h
      rw [lk_if, if_neg (by omega)]
      exact lk_lowE ρ n v h
theorem Sim.lowE {a : Act} {ρ : Env} (h : Sim N a ρ) : Sim N { tmps := a.tmps, defers := [] } (lowE ρ) :=
  ⟨h.size, h.small, by rw [marksD_lowE]; rfl, fun n v hv => h.slot n v (lk_lowE ρ n v hv)⟩
theorem Sim.zipE {a : Act} : ∀ (ps : List Nat) (vs : List Value) (ρ : Env) (t : Array Value), (∀ p ∈ ps, p < N) → Sim N { tmps := t, defers := a.defers } ρ → Sim N { tmps := (ps.zip vs).foldl (fun t (p, v) => t.setIfInBounds p v) t, defers := a.defers } (zipE ps vs ρ)
  | [], vs, ρ, t, _, h => by cases vs <;> exact h
  | p :: ps, [], ρ, t, _, h => h
  | p :: ps, v :: vs, ρ, t, hp, h => by
    simp only [List.zip_cons_cons, List.foldl_cons, Ann.zipE]
    exact Sim.zipE ps vs _ _ (fun q hq => hp q (List.mem_cons_of_mem _ hq)) (h.put (d := some p) (by simpa [okDst] using hp p List.mem_cons_self) v)
theorem Sim.mark {a : Act} {ρ : Env} (h : Sim N a ρ) (D : Nat) : Sim N { a with defers := { target := .collected D, args := #[] } :: a.defers } ((D + 1000000, undef) :: ρ) := by
  refine ⟨h.size, h.small, ?_, fun n v hv => ?_⟩
  · show _ :: a.defers = _
    rw [h.defers]
    simp only [marksD, if_neg (show ¬ D + 1000000 < 1000000 by omega), Nat.add_sub_cancel]
    rfl
  · simp only [lk_if] at hv
    split at hv
    · rename_i e
      simp only [Option.some.injEq] at hv; subst hv
      show a.tmps.getD n undef = undef
      rw [Array.getD_eq_getD_getElem?, Array.getElem?_eq_none (by rw [h.size]; have := h.small; omega)]; rfl
    · exact h.slot n v hv

theorem W_rangeF {g : Operand} {ps L : List Nat} {a b : Cmd} {ρ : Env} {w : World} {Q : Post} : W P (.rangeF g ps a b L) ρ w Q = RangeW P g ps a b ρ w (keepQ L Q) := (rfl)
theorem keepQ_normal {L : List Nat} {ρ : Env} {w : World} {Q : Post} : keepQ L Q .normal ρ w = Q .normal (restr L ρ) w := (rfl)
theorem keepQ_ret {L : List Nat} {ρ : Env} {w : World} {Q : Post} : keepQ L Q .ret ρ w = Q .ret ρ w := (rfl)
theorem keepQ_exit {L : List Nat} {ρ : Env} {w : World} {Q : Post} {i : Nat} : keepQ L Q (.exit i) ρ w = Q (.exit i) ρ w := (rfl)
theorem mark_beq {D n : Nat} : (D + 1000000 == n) = decide (D + 1000000 = n) := by rw [Bool.eq_iff_iff, beq_iff_eq, decide_eq_true_eq]
theorem marks_one {D : Nat} {v : Value} : marksD [(D + 1000000, v)] = [D] := by simp [marksD]
attribute [go_sem] W_rangeF mark_beq marks_one keepQ_normal keepQ_ret keepQ_exit
/-- A range over a function, of which every round goes on to the next one. -/
theorem RangeW_all {g : Operand} {ps : List Nat} {A B : Cmd} {ρ : Env} {w W0 : World} {Q : Post} {F : Nat → Prop} {L0 : List Res} {I : List Inv} {α : Type} {gf : Nat} {lb : Array Value}
    (encs : α → List Value) (xs : List α) (L : List α → List Res)
    (hg : ev ρ g = some (.func (.func gf) #[] lb)) (hgo : goFunc P gf = true) (s : St W0 w F L0 I) (hL : L [] = L0) (hlen : ∀ x, (encs x).length = ps.length)
    (hit : ∀ (fv : Value) (J : List α → World → Prop) (w1 : World), (∀ pre w', J pre w' → ∃ l D o, St W0 w' F (.obj l o :: .obj D (.deferred (some [])) :: L pre) I) → (∀ pre w' w'', J pre w' → Below w'.heap.size w' w'' → J pre w'') →
      (∀ pre x w', J pre w' → (∃ r, pre ++ x :: r = xs) → callW P fv (encs x) w' fun v w'' => v = .bool true ∧ J (pre ++ [x]) w'') → J [] w1 → Ret P gf (fv :: lb.toList) w1 fun _ w' => J xs w')
    (hbody : ∀ pre x w' l D o o2, (∃ r, pre ++ x :: r = xs) → St W0 w' F (.obj l o :: .obj D (.deferred (some [])) :: L pre) I → W P A (zipE ps (encs x) (lowE ρ)) w' fun e ρ1 w1 => match e with
      | .normal => ∃ M, St W0 w1 F (.obj l o :: .obj D (.deferred (some [])) :: M) I ∧ ∀ w2, St W0 w2 F (.obj l o2 :: .obj D (.deferred (some [])) :: M) I → W P B ρ1 w2 fun e2 _ w3 => match e2 with
        | .normal => St W0 w3 F (.obj l o2 :: .obj D (.deferred (some [])) :: L (pre ++ [x])) I
        | _ => False
      | _ => False)
    (hdone : ∀ D w', St W0 w' F (.obj D (.deferred (some [])) :: L xs) I → Q .normal ((D + 1000000, undef) :: ρ) w') : RangeW P g ps A B ρ w Q := by
  intro N a ca cb hca hcb hra hrb hps hs
  refine wpIn_rangeFunc fun fn _ => ?_
  obtain ⟨rec, hrec⟩ : ∃ rec : LoopState → Option Code → Loop, rec = fun st pe => { state := st, pending := pe, fn, tmps := a.tmps, params := ps.toArray, assign := ca, body := cb, defers := w.heap.size } := ⟨_, rfl⟩
  have hs1 : St W0 ((w.alloc (.deferred (some []))).alloc (.loop (rec .ready none))) F (.obj (w.heap.size + 1) (.loop (rec .ready none)) :: .obj w.heap.size (.deferred (some [])) :: L []) I := by
    rw [hL]
    have := (s.lay (.deferred (some []))).lay (.loop (rec .ready none))
    rw [World.size_alloc] at this
    exact this
  generalize hw1 : (w.alloc (.deferred (some []))).alloc (.loop (rec .ready none)) = w1 at hs1
  refine ⟨w.heap.size + 1, [{ target := .collected w.heap.size, args := #[] }], w1, { target := .fn (.func gf) lb, args := #[.func (.yield (w.heap.size + 1)) #[] #[]] }, w1, gf,
    #[.func (.yield (w.heap.size + 1)) #[] #[]] ++ lb, w1, ?_, ?_, ?_, ?_, fun _ => by decide, ?_⟩
  · rw [← hw1, hrec]; exact run_enterLoop_outer _ _ _ _ _
  · simp only [resolve, hs.eval _ _ hg]
    simp [go_sem]
  · intro f' _; exact trivial
  · simp [invoke, go_sem, callFunc_run hgo]
  · generalize w.heap.size + 1 = l at hs1 ⊢
    generalize w.heap.size = D at hrec hs1 ⊢
    have key := hit (.func (.yield l) #[] #[]) (fun pre w' => St W0 w' F (.obj l (.loop (rec .ready none)) :: .obj D (.deferred (some [])) :: L pre) I) w1 (fun pre w' h => ⟨_, _, _, h⟩) (fun pre w' w'' h hb => h.call hb) ?_ hs1
    · have e : #[Value.func (.yield l) #[] #[]] ++ lb = (Value.func (.yield l) #[] #[] :: lb.toList).toArray := by simp
      rw [e]
      refine CallsIn.mono (callsIn_wide.2 key) fun e w2 ⟨v, he, h2⟩ => ?_
      subst he
      have hl := h2.obj 0 rfl
      refine ⟨none, w2.putObj l (.loop { rec .ready none with state := .exhausted }), ?_, ?_⟩
      · have := run_endLoop (P := P) hl (by rw [hrec]; simp)
        rw [hrec] at this ⊢
        exact this
      · have h3 := (h2.putObj 0 rfl (.loop { rec .ready none with state := .exhausted })).sub (L' := .obj D (.deferred (some [])) :: L xs) (by simp)
        exact ⟨_, hs.mark D, hdone D _ h3⟩
    · intro pre x w' h hx
      have hl := h.obj 0 rfl
      have hsz : (encs x).toArray.size = (rec .ready none).params.size := by rw [hrec]; simp [hlen]
      have hy := run_yield (P := P) hl hsz
      rw [hrec] at hy
      refine ⟨rfl, rfl, fn, _, ca, cb, hy, ?_⟩
      refine roundIn_of_wpIn trivial ?_
      have hsim : Sim N { tmps := ((ps.toArray.zip (encs x).toArray).foldl (fun t (p, v) => t.setIfInBounds p v) a.tmps), defers := [] } (zipE ps (encs x) (lowE ρ)) := by
        have := Sim.zipE (a := { tmps := a.tmps, defers := [] }) ps (encs x) (lowE ρ) a.tmps hps hs.lowE
        rw [← Array.foldl_toList, Array.toList_zip]
        exact this
      have hA := W_sound (r := some l) (n := 0) ca A hca (.inl hra) _ w' _ _ hsim (hbody pre x w' l D _ (.loop { rec .ready none with state := .busy }) hx h)
      refine wpIn_mono hA fun e a1 w1 hh => ?_
      obtain ⟨ρ1, hs1, hq⟩ := hh
      cases e with
      | normal =>
        obtain ⟨M, hM, hB⟩ := hq
        have hl1 := hM.obj 0 rfl
        refine ⟨_, run_beginRound hl1 (by rw [hrec]), ?_⟩
        have hB' := W_sound (r := some l) (n := 0) cb B hcb (.inl hrb) _ _ _ a1 hs1 (hB _ (hM.putObj 0 rfl _))
        refine wpIn_mono hB' fun e2 a2 w2 hh => ?_
        obtain ⟨ρ2, hs2, hq2⟩ := hh
        cases e2 with
        | normal =>
          have hl2 := St.obj hq2 0 rfl
          have he := run_endRound (P := P) none hl2
          refine ⟨.bool true, w2.putObj l (.loop (rec .ready none)), ?_, .bool true, rfl, rfl, ?_⟩
          · rw [hrec] at he ⊢; exact he
          · exact St.putObj hq2 0 rfl _
        | _ => exact hq2.elim
      | _ => exact hq.elim
end
end Go.Ann
