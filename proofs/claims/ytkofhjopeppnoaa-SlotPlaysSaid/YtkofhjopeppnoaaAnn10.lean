/- An engine for walks. Part 10: commands, loops, the end of a call. -/
import Derived.Test.YtkofhjopeppnoaaAnn9
import Derived.Scope
namespace Go.Ann
set_option linter.unusedVariables false
set_option linter.unusedSimpArgs false
open Go
section
variable {P : Program} {N : Nat}

theorem wpOpsIn_mono {r : Option Nat} {n : Nat} {ops : Array Oper} {Q K' : Exit → Act → World → Prop} (hq : ∀ e a w, Q e a w → K' e a w) : ∀ (s : List Nat) (a : Act) (w : World), wpOpsIn (FR r) n P ops Q s a w → wpOpsIn (FR r) n P ops K' s a w
  | [], a, w, h => hq _ _ _ h
  | i :: s, a, w, h => by
    simp only [wpOpsIn] at h ⊢
    cases ho : ops[i]? with
    | none => rw [ho] at h; exact wpOpsIn_mono hq s a w h
    | some o =>
      rw [ho] at h
      simp only at h ⊢
      split
      · rename_i hw
        simp only [hw, if_true] at h
        have h1 := Oper.wpIn_mono (fun a w => wpOpsIn_mono hq s a w) h
        refine ⟨h1.1, ?_⟩
        have h2 := h1.2
        generalize (o.semAt (FR r).round a.eval).run P w = x at h2 ⊢
        cases x with
        | ok y w' =>
          cases y <;> simp only [Oper.uponIn] at h2 ⊢
          case enter => exact ⟨h2.1, CallsIn.mono h2.2 fun e w'' he => by
            cases e with
            | returned v => exact he
            | panicked c => exact hq _ _ _ he
            | outgrown => obtain ⟨a0, w0, he⟩ := he; exact ⟨a0, w0, hq _ _ _ he⟩⟩
          case round => exact ⟨h2.1, RoundIn.mono h2.2 fun e w'' he => by
            cases e with
            | returned v => exact he
            | panicked c => exact hq _ _ _ he
            | outgrown => obtain ⟨a0, w0, he⟩ := he; exact ⟨a0, w0, hq _ _ _ he⟩⟩
          all_goals exact h2
        | halt y w' => cases y <;> simp only [Oper.uponIn] at h2 ⊢ <;> first | exact hq _ _ _ h2 | exact h2
      · rename_i hw
        simp only [hw] at h
        exact ⟨h.1, wpOpsIn_mono hq s _ w h.2⟩
theorem W_sound {r : Option Nat} {n : Nat} : ∀ (code : Code) (c : Cmd), toCmd N code = some c.erase → (roundOk code = true ∨ r = none ∧ n = 9) → ∀ (ρ : Env) (w : World) (Q : Post) (a : Act), Sim N a ρ → W P c ρ w Q → code.wpIn (FR r) n P (liftQ N Q) a w
  | .skip, c, hc, hr, ρ, w, Q, a, hs, h => by
    cases c <;> simp [toCmd, Cmd.erase] at hc
    exact wpIn_skip ⟨_, hs.restr _, h⟩
  | .label l, c, hc, hr, ρ, w, Q, a, hs, h => by
    cases c <;> simp [toCmd, Cmd.erase] at hc
    exact wpIn_label ⟨_, hs.restr _, h⟩
  | .ret, c, hc, hr, ρ, w, Q, a, hs, h => by
    cases c <;> simp [toCmd, Cmd.erase] at hc
    exact wpIn_ret ⟨ρ, hs, h⟩
  | .exit id, c, hc, hr, ρ, w, Q, a, hs, h => by
    cases c <;> simp [toCmd, Cmd.erase] at hc
    subst hc
    exact wpIn_exit ⟨_, hs.restr _, h⟩
  | .region id ops false, c, hc, hr, ρ, w, Q, a, hs, h => by
    simp only [toCmd] at hc
    split at hc
    case h_2 => cases hc
    rename_i l hl
    cases c <;> simp [Cmd.erase] at hc
    subst hc
    have := wpIn_region_list (F := FR r) (n := n) (P := P) (id := id) (WL_sound (P := P) (ops := ops.toList) ops.toList _ _ ρ w Q a hl hs h)
    simpa using this
  | .region id ops true, c, hc, hr, ρ, w, Q, a, hs, h => by
    simp only [toCmd] at hc
    split at hc
    case isFalse => cases hc
    rename_i hall
    rw [Bool.and_eq_true] at hall
    cases c <;> simp [Cmd.erase] at hc
    subst hc
    refine wpIn_region_draw fun t => ?_
    have := opsIn_of_ops (r := r) (n := n) hall.2 (by rintro ⟨_, _, _, _, e, _⟩; cases e) _ _ _ (h N a hall.1 hs t)
    have := wpOpsIn_mono (K' := liftQ N Q) (fun e a' w' hh => by
      obtain ⟨ρ', hs', rfl, hq⟩ := hh
      exact ⟨_, hs'.restr _, hq⟩) _ _ _ this
    simpa using this
  | .seq x y, c, hc, hr, ρ, w, Q, a, hs, h => by
    simp only [toCmd] at hc
    split at hc
    case h_2 => cases hc
    rename_i cx cy hx hy
    cases c <;> simp [Cmd.erase] at hc
    obtain ⟨rfl, rfl⟩ := hc
    simp only [W] at h
    have hr1 : roundOk x = true ∨ r = none ∧ n = 9 := hr.imp (fun h => by simp only [roundOk, Bool.and_eq_true] at h; exact h.1) id
    have hr2 : roundOk y = true ∨ r = none ∧ n = 9 := hr.imp (fun h => by simp only [roundOk, Bool.and_eq_true] at h; exact h.2) id
    refine wpIn_seq (wpIn_mono (W_sound x _ hx hr1 ρ w _ a hs h) fun e a' w' hh => ?_)
    obtain ⟨ρ', hs', hq⟩ := hh
    cases e with
    | normal => exact W_sound y _ hy hr2 ρ' w' Q a' hs' hq
    | _ => exact ⟨ρ', hs', hq⟩
  | .cond x y z, c, hc, hr, ρ, w, Q, a, hs, h => by
    simp only [toCmd] at hc
    split at hc
    case h_2 => cases hc
    rename_i cx cy hx hy
    cases c <;> simp [Cmd.erase] at hc
    obtain ⟨rfl, rfl, rfl⟩ := hc
    simp only [W] at h
    have hr1 : roundOk y = true ∨ r = none ∧ n = 9 := hr.imp (fun h => by simp only [roundOk, Bool.and_eq_true] at h; exact h.1) id
    have hr2 : roundOk z = true ∨ r = none ∧ n = 9 := hr.imp (fun h => by simp only [roundOk, Bool.and_eq_true] at h; exact h.2) id
    unfold condW at h
    split at h
    · rename_i t ht
      exact wpIn_cond_split (hs.eval _ _ ht) (fun e => W_sound y _ hx hr1 ρ w Q a hs (h.1 e)) (fun e => W_sound z _ hy hr2 ρ w Q a hs (h.2 e))
    · exact h.elim
  | .block id x, c, hc, hr, ρ, w, Q, a, hs, h => by
    simp only [toCmd] at hc
    split at hc
    case h_2 => cases hc
    rename_i cx hx
    cases c <;> simp [Cmd.erase] at hc
    obtain ⟨rfl, rfl⟩ := hc
    simp only [W] at h
    refine wpIn_block (wpIn_mono (W_sound x _ hx hr ρ w _ a hs h) fun e a' w' hh => ?_)
    obtain ⟨ρ', hs', hq⟩ := hh
    cases e with
    | exit j =>
      simp only [blockQ] at hq
      simp only [Exit.inBlock]
      split at hq
      · rename_i e; rw [if_pos e]; exact ⟨ρ', hs', hq⟩
      · rename_i e; rw [if_neg e]; exact ⟨ρ', hs', hq⟩
    | _ => exact ⟨ρ', hs', hq⟩
  | .scope x, c, hc, hr, ρ, w, Q, a, hs, h => by
    simp only [toCmd] at hc
    split at hc
    case h_2 => cases hc
    rename_i cx hx
    cases c <;> simp [Cmd.erase] at hc
    subst hc
    simp only [W] at h
    rcases hr with hr | ⟨rfl, rfl⟩
    · cases hr
    refine wpIn_wide.2 (wp_scope_straight (wpIn_wide.1 (wpIn_mono (W_sound (r := none) (n := 9) x _ hx (.inr ⟨rfl, rfl⟩) ρ w _ a hs h) fun e a' w' hh => ?_)))
    obtain ⟨ρ', hs', hq⟩ := hh
    cases e with
    | goto l => exact hq
    | _ => exact ⟨ρ', hs', hq⟩
  | .loop x, c, hc, hr, ρ, w, Q, a, hs, h => by
    simp only [toCmd] at hc
    split at hc
    case h_2 => cases hc
    rename_i cx hx
    cases c <;> simp [Cmd.erase] at hc
    subst hc
    simp only [W] at h
    obtain ⟨I, ⟨n0, hI⟩, hround⟩ := h
    have hex : ∀ (a : Act) (w : World), (∃ n ρ, Sim N a ρ ∧ I n ρ w) → ∃ n, (∃ ρ, Sim N a ρ ∧ I n ρ w) ∧ ∀ m, (∃ ρ, Sim N a ρ ∧ I m ρ w) → n ≤ m := by
      intro a w ⟨n, hn⟩
      induction n using Nat.strongRecOn with
      | _ n ih =>
        by_cases hlt : ∃ m, m < n ∧ ∃ ρ, Sim N a ρ ∧ I m ρ w
        · obtain ⟨m, hm, hh⟩ := hlt
          exact ih m hm hh
        · refine ⟨n, hn, fun m hm => ?_⟩
          rcases Nat.lt_or_ge m n with hmn | hmn
          · exact (hlt ⟨m, hmn, hm⟩).elim
          · exact hmn
    let μ : Act → World → Nat := fun a w => open Classical in if h : ∃ n ρ, Sim N a ρ ∧ I n ρ w then (hex a w h).choose else 0
    have hμ : ∀ a w, (∃ n ρ, Sim N a ρ ∧ I n ρ w) → (∃ ρ, Sim N a ρ ∧ I (μ a w) ρ w) ∧ ∀ m, (∃ ρ, Sim N a ρ ∧ I m ρ w) → μ a w ≤ m := by
      intro a w h
      simp only [μ, dif_pos h]
      exact (hex a w h).choose_spec
    refine wpIn_loop (fun a w => ∃ n ρ, Sim N a ρ ∧ I n ρ w) μ ⟨n0, ρ, hs, hI⟩ fun a w hi => ?_
    obtain ⟨⟨ρ', hs', hI'⟩, _⟩ := hμ a w hi
    refine wpIn_mono (W_sound x _ hx hr ρ' w _ a hs' (hround _ ρ' w hI')) fun e a' w' hh => ?_
    obtain ⟨ρ'', hs'', hq⟩ := hh
    cases e with
    | normal =>
      obtain ⟨m, hm, hI''⟩ := hq
      have hi' : ∃ n ρ, Sim N a' ρ ∧ I n ρ w' := ⟨m, ρ'', hs'', hI''⟩
      exact ⟨hi', Nat.lt_of_le_of_lt ((hμ a' w' hi').2 m ⟨ρ'', hs'', hI''⟩) hm⟩
    | _ => exact ⟨ρ'', hs'', hq⟩
  | .rangeFunc g ps x y, c, hc, hr, ρ, w, Q, a, hs, h => by
    simp only [toCmd] at hc
    split at hc
    case isFalse => cases hc
    rename_i hok
    rw [Bool.and_eq_true, Bool.and_eq_true] at hok
    split at hc
    case h_2 => cases hc
    rename_i cx cy hx hy
    cases c <;> simp [Cmd.erase] at hc
    obtain ⟨rfl, hps, rfl, rfl⟩ := hc
    simp only [W] at h
    rcases hr with hr | ⟨rfl, rfl⟩
    · cases hr
    have := h N a x y hx hy hok.1.1 hok.1.2 (fun p hp => by have := List.all_eq_true.1 hok.2 p (by rw [hps]; exact hp); simpa using this) hs
    rw [← hps] at this
    rw [Array.toArray_toList] at this
    refine wpIn_mono (show (Code.rangeFunc _ ps x y).wpIn (FR none) 9 P _ a w from this) fun e a' w' hh => ?_
    obtain ⟨ρ', hs', hq⟩ := hh
    cases e with
    | normal => exact ⟨_, hs'.restr _, hq⟩
    | _ => exact ⟨ρ', hs', hq⟩
  | .goto .., c, hc, hr, ρ, w, Q, a, hs, h => by simp [toCmd] at hc
  | .refuse .., c, hc, hr, ρ, w, Q, a, hs, h => by simp [toCmd] at hc

theorem lk_argEnv : ∀ (vs : List Value) (i n : Nat) (v : Value), lk (argEnv i vs) n = some v → i ≤ n ∧ vs[n - i]? = some v
  | [], _, _, _, h => by simp [argEnv, lk_emp] at h
  | u :: r, i, n, v, h => by
    simp only [argEnv, lk_if] at h
    split at h
    · rename_i e; subst e; simpa using h
    · rename_i e
      obtain ⟨h1, h2⟩ := lk_argEnv r (i + 1) n v h
      refine ⟨by omega, ?_⟩
      rw [show n - i = (n - (i + 1)) + 1 by omega]
      simpa using h2

theorem marks_argEnv : ∀ (vs : List Value) (i : Nat), i + vs.length ≤ 1000000 → marksD (argEnv i vs) = []
  | [], _, _ => rfl
  | v :: r, i, h => by
    simp only [List.length_cons] at h
    simp only [argEnv, marksD, if_pos (show i < 1000000 by omega)]
    exact marks_argEnv r (i + 1) (by omega)
theorem loadW_fix {t : TypeId} {p : Addr} {w : World} {K : Value → Prop} (h : loadW P t p w (fun v _ => K v)) : ∃ v, (loadVar t p).run P w = .ok v w ∧ K v := loadW_out h

def resF (tmps : Array Value) : ResultVar → Sem Value
  | .tmp t => pure (tmps.getD t undef)
  | .cell b t => do loadVar t (← asAddr (tmps.getD b undef))

theorem results_eq (fn : Func) (tmps : Array Value) : results fn tmps = (do let vs ← fn.results.mapM (resF tmps); pure (if h : vs.size = 1 then vs[0] else .tuple vs)) := by
  unfold results
  congr 1

theorem resW_out : ∀ (rs : List ResultVar) (ρ : Env) (w : World) (a : Act) (acc : List Value) (K : List Value → Prop), Sim N a ρ → resW P rs ρ w acc K →
    ∃ vs, (rs.mapM (resF a.tmps)).run P w = .ok vs w ∧ K (acc.reverse ++ vs)
  | [], ρ, w, a, acc, K, hs, h => ⟨[], rfl, by simpa [resW] using h⟩
  | .tmp t :: r, ρ, w, a, acc, K, hs, h => by
    simp only [resW] at h
    obtain ⟨v, hv, h⟩ := un1W_out h
    obtain ⟨vs, h1, h2⟩ := resW_out r ρ w a (v :: acc) K hs h
    refine ⟨v :: vs, ?_, by simpa using h2⟩
    simp only [List.mapM_cons, resF, Sem.run_bind, Sem.run_pure, Result.andThen, hs.slot _ _ hv, h1]
  | .cell b t :: r, ρ, w, a, acc, K, hs, h => by
    simp only [resW] at h
    obtain ⟨p, hp, h⟩ := ptrW_out h
    obtain ⟨v, hv, h⟩ := loadW_fix h
    obtain ⟨vs, h1, h2⟩ := resW_out r ρ w a (v :: acc) K hs h
    refine ⟨v :: vs, ?_, by simpa using h2⟩
    simp only [List.mapM_cons, resF, Sem.run_bind, Sem.run_pure, Result.andThen, hs.slot _ _ hp, asAddr, hv, h1]

theorem results_out {fn : Func} {ρ : Env} {w : World} {a : Act} {K : Value → World → Prop} (hs : Sim N a ρ) (h : resW P fn.results.toList ρ w [] (fun vs => K (tupV vs) w)) :
    ∃ v, (results fn a.tmps).run P w = .ok v w ∧ K v w := by
  obtain ⟨vs, h1, h2⟩ := resW_out _ ρ w a [] _ hs h
  refine ⟨tupV vs, ?_, by simpa using h2⟩
  rw [results_eq, Array.mapM_eq_mapM_toList, map_eq_pure_bind]
  simp only [Sem.run_bind, h1, Result.andThen, Sem.run_pure]
  congr 1
  match vs with
  | [] => rfl
  | [v] => rfl
  | u :: v :: r => rw [dif_neg (by simp)]; rfl

theorem leaves_marks {fn : Func} {a : Act} {ρ : Env} {R : Ending → World → Prop} {K : Value → World → Prop} (hs : Sim N a ρ) (hR : ∀ v w, K v w → R (.returned v) w) : ∀ (ds : List Nat) (w : World),
    shutW ds w (fun w => resW P fn.results.toList ρ w [] fun vs => K (tupV vs) w) → LeavesInM Fence.wide 9 P fn a.tmps R (markDefs ds) .returning w
  | [], w, h => by
    obtain ⟨v, h1, h2⟩ := results_out hs h
    exact ⟨v, h1, hR v w h2⟩
  | D :: ds, w, h => by
    obtain ⟨hD, h⟩ := h
    exact ⟨(by intro e; cases e), .inl ⟨D, _, rfl, run_takeDeferred hD, leaves_marks hs hR ds _ h⟩⟩

theorem Ret_of_W {f : FuncId} {fn : Func} {code : Code} {c : Cmd} {args : List Value} {w : World} {K : Value → World → Prop}
    (hf : P.funcs[f]? = some fn) (hb : fn.body = some code) (hc : toCmd fn.ntmps code = some c.erase) (hn : args.length ≤ fn.ntmps ∧ fn.ntmps ≤ 1000000)
    (h : W P c (argEnv 0 args) w (finQ P fn.results.toList K)) : Ret P f args w K := by
  refine callsIn_wide.1 (callsIn_of_wp_marks (F := Fence.wide) (n := 9) hf hb trivial (wpIn_mono (W_sound (r := none) (n := 9) code c hc (.inr ⟨rfl, rfl⟩) _ w _ _ (N := fn.ntmps) ⟨by simp; omega, hn.2, ?_, fun n v hv => ?_⟩ h) fun e a' w' hh => ?_))
  · show ([] : List Deferred) = _
    rw [marks_argEnv args 0 (by omega)]; rfl
  · obtain ⟨_, hv⟩ := lk_argEnv args 0 n v hv
    simp only [Nat.sub_zero] at hv
    have hlt : n < args.length := (List.getElem?_eq_some_iff.1 hv).1
    rw [Array.getD_eq_getD_getElem?, Array.getElem?_append_left (by simpa using hlt)]
    simp [hv]
  · obtain ⟨ρ', hs, hq⟩ := hh
    have key : shutW (marksD ρ') w' (fun w => resW P fn.results.toList ρ' w [] fun vs => K (tupV vs) w) → LeavesInM Fence.wide 9 P fn a'.tmps (fun e w' => ∃ v, e = .returned v ∧ K v w') a'.defers .returning w' := fun hq => by
      rw [hs.defers]
      exact leaves_marks hs (fun v w h => ⟨v, rfl, h⟩) _ w' hq
    cases e with
    | normal => exact key hq
    | ret => exact key hq
    | _ => exact hq.elim
end
end Go.Ann
