/- An engine for walks. Part 10: commands, loops, the end of a call. -/
import Derived.Test.YtobamkckamnmoaaAnn9
import Derived.Scope
namespace Go.Ann
set_option linter.unusedVariables false
set_option linter.unusedSimpArgs false
open Go
section
variable {P : Program} {N : Nat}

theorem W_sound : ∀ (code : Code) (c : Cmd), toCmd N code = some c.erase → ∀ (ρ : Env) (w : World) (Q : Post) (a : Act), Sim N a ρ → W P c ρ w Q → code.wp P (liftQ N Q) a w
  | .skip, c, hc, ρ, w, Q, a, hs, h => by
    cases c <;> simp [toCmd, Cmd.erase] at hc
    exact wp_skip ⟨_, hs.restr _, h⟩
  | .label l, c, hc, ρ, w, Q, a, hs, h => by
    cases c <;> simp [toCmd, Cmd.erase] at hc
    exact wp_label ⟨_, hs.restr _, h⟩
  | .ret, c, hc, ρ, w, Q, a, hs, h => by
    cases c <;> simp [toCmd, Cmd.erase] at hc
    exact wp_ret ⟨ρ, hs, h⟩
  | .exit id, c, hc, ρ, w, Q, a, hs, h => by
    cases c <;> simp [toCmd, Cmd.erase] at hc
    subst hc
    exact wp_exit ⟨_, hs.restr _, h⟩
  | .region id ops false, c, hc, ρ, w, Q, a, hs, h => by
    simp only [toCmd] at hc
    split at hc
    case h_2 => cases hc
    rename_i l hl
    cases c <;> simp [Cmd.erase] at hc
    subst hc
    have := wp_region_list (P := P) (id := id) (WL_sound (P := P) (ops := ops.toList) ops.toList _ _ ρ w Q a hl hs h)
    simpa using this
  | .region id ops true, c, hc, ρ, w, Q, a, hs, h => by
    simp only [toCmd] at hc
    split at hc
    case isFalse => cases hc
    rename_i hall
    cases c <;> simp [Cmd.erase] at hc
    subst hc
    refine wp_mono (h N a id hall hs) fun e a' w' hh => ?_
    obtain ⟨ρ', hs', rfl, hq⟩ := hh
    exact ⟨_, hs'.restr _, hq⟩
  | .seq x y, c, hc, ρ, w, Q, a, hs, h => by
    simp only [toCmd] at hc
    split at hc
    case h_2 => cases hc
    rename_i cx cy hx hy
    cases c <;> simp [Cmd.erase] at hc
    obtain ⟨rfl, rfl⟩ := hc
    simp only [W] at h
    refine wp_seq (wp_mono (W_sound x _ hx ρ w _ a hs h) fun e a' w' hh => ?_)
    obtain ⟨ρ', hs', hq⟩ := hh
    cases e with
    | normal => exact W_sound y _ hy ρ' w' Q a' hs' hq
    | _ => exact ⟨ρ', hs', hq⟩
  | .cond x y z, c, hc, ρ, w, Q, a, hs, h => by
    simp only [toCmd] at hc
    split at hc
    case h_2 => cases hc
    rename_i cx cy hx hy
    cases c <;> simp [Cmd.erase] at hc
    obtain ⟨rfl, rfl, rfl⟩ := hc
    simp only [W] at h
    unfold condW at h
    split at h
    · rename_i t ht
      exact wp_cond_split (hs.eval _ _ ht) (fun e => W_sound y _ hx ρ w Q a hs (h.1 e)) (fun e => W_sound z _ hy ρ w Q a hs (h.2 e))
    · exact h.elim
  | .block id x, c, hc, ρ, w, Q, a, hs, h => by
    simp only [toCmd] at hc
    split at hc
    case h_2 => cases hc
    rename_i cx hx
    cases c <;> simp [Cmd.erase] at hc
    obtain ⟨rfl, rfl⟩ := hc
    simp only [W] at h
    refine wp_block (wp_mono (W_sound x _ hx ρ w _ a hs h) fun e a' w' hh => ?_)
    obtain ⟨ρ', hs', hq⟩ := hh
    cases e with
    | exit j =>
      simp only [blockQ] at hq
      simp only [Exit.inBlock]
      split at hq
      · rename_i e; rw [if_pos e]; exact ⟨ρ', hs', hq⟩
      · rename_i e; rw [if_neg e]; exact ⟨ρ', hs', hq⟩
    | _ => exact ⟨ρ', hs', hq⟩
  | .scope x, c, hc, ρ, w, Q, a, hs, h => by
    simp only [toCmd] at hc
    split at hc
    case h_2 => cases hc
    rename_i cx hx
    cases c <;> simp [Cmd.erase] at hc
    subst hc
    simp only [W] at h
    refine wp_scope_straight (wp_mono (W_sound x _ hx ρ w _ a hs h) fun e a' w' hh => ?_)
    obtain ⟨ρ', hs', hq⟩ := hh
    cases e with
    | goto l => exact hq
    | _ => exact ⟨ρ', hs', hq⟩
  | .loop x, c, hc, ρ, w, Q, a, hs, h => by
    simp only [toCmd] at hc
    split at hc
    case h_2 => cases hc
    rename_i cx hx
    cases c <;> simp [Cmd.erase] at hc
    subst hc
    simp only [W] at h
    obtain ⟨I, ⟨n0, hI⟩, hround⟩ := h
    have hex : ∀ (a : Act) (w : World), (∃ n ρ, Sim N a ρ ∧ I n ρ w) → ∃ n, (∃ ρ, Sim N a ρ ∧ I n ρ w) ∧ ∀ m, (∃ ρ, Sim N a ρ ∧ I m ρ w) → n ≤ m := by
      intro a w ⟨n, hn⟩
      induction n using Nat.strongRecOn with
      | _ n ih =>
        by_cases hlt : ∃ m, m < n ∧ ∃ ρ, Sim N a ρ ∧ I m ρ w
        · obtain ⟨m, hm, hh⟩ := hlt
          exact ih m hm hh
        · refine ⟨n, hn, fun m hm => ?_⟩
          rcases Nat.lt_or_ge m n with hmn | hmn
          · exact (hlt ⟨m, hmn, hm⟩).elim
          · exact hmn
    let μ : Act → World → Nat := fun a w => open Classical in if h : ∃ n ρ, Sim N a ρ ∧ I n ρ w then (hex a w h).choose else 0
    have hμ : ∀ a w, (∃ n ρ, Sim N a ρ ∧ I n ρ w) → (∃ ρ, Sim N a ρ ∧ I (μ a w) ρ w) ∧ ∀ m, (∃ ρ, Sim N a ρ ∧ I m ρ w) → μ a w ≤ m := by
      intro a w h
      simp only [μ, dif_pos h]
      exact (hex a w h).choose_spec
    refine wp_loop (fun a w => ∃ n ρ, Sim N a ρ ∧ I n ρ w) μ ⟨n0, ρ, hs, hI⟩ fun a w hi => ?_
    obtain ⟨⟨ρ', hs', hI'⟩, _⟩ := hμ a w hi
    refine wp_mono (W_sound x _ hx ρ' w _ a hs' (hround _ ρ' w hI')) fun e a' w' hh => ?_
    obtain ⟨ρ'', hs'', hq⟩ := hh
    cases e with
    | normal =>
      obtain ⟨m, hm, hI''⟩ := hq
      have hi' : ∃ n ρ, Sim N a' ρ ∧ I n ρ w' := ⟨m, ρ'', hs'', hI''⟩
      exact ⟨hi', Nat.lt_of_le_of_lt ((hμ a' w' hi').2 m ⟨ρ'', hs'', hI''⟩) hm⟩
    | _ => exact ⟨ρ'', hs'', hq⟩
  | .rangeFunc .., c, hc, ρ, w, Q, a, hs, h => by simp [toCmd] at hc
  | .goto .., c, hc, ρ, w, Q, a, hs, h => by simp [toCmd] at hc
  | .refuse .., c, hc, ρ, w, Q, a, hs, h => by simp [toCmd] at hc

theorem lk_argEnv : ∀ (vs : List Value) (i n : Nat) (v : Value), lk (argEnv i vs) n = some v → i ≤ n ∧ vs[n - i]? = some v
  | [], _, _, _, h => by simp [argEnv, lk_emp] at h
  | u :: r, i, n, v, h => by
    simp only [argEnv, lk_if] at h
    split at h
    · rename_i e; subst e; simpa using h
    · rename_i e
      obtain ⟨h1, h2⟩ := lk_argEnv r (i + 1) n v h
      refine ⟨by omega, ?_⟩
      rw [show n - i = (n - (i + 1)) + 1 by omega]
      simpa using h2

theorem loadW_fix {t : TypeId} {p : Addr} {w : World} {K : Value → Prop} (h : loadW P t p w (fun v _ => K v)) : ∃ v, (loadVar t p).run P w = .ok v w ∧ K v := loadW_out h

def resF (tmps : Array Value) : ResultVar → Sem Value
  | .tmp t => pure (tmps.getD t undef)
  | .cell b t => do loadVar t (← asAddr (tmps.getD b undef))

theorem results_eq (fn : Func) (tmps : Array Value) : results fn tmps = (do let vs ← fn.results.mapM (resF tmps); pure (if h : vs.size = 1 then vs[0] else .tuple vs)) := by
  unfold results
  congr 1

theorem resW_out : ∀ (rs : List ResultVar) (ρ : Env) (w : World) (a : Act) (acc : List Value) (K : List Value → Prop), Sim N a ρ → resW P rs ρ w acc K →
    ∃ vs, (rs.mapM (resF a.tmps)).run P w = .ok vs w ∧ K (acc.reverse ++ vs)
  | [], ρ, w, a, acc, K, hs, h => ⟨[], rfl, by simpa [resW] using h⟩
  | .tmp t :: r, ρ, w, a, acc, K, hs, h => by
    simp only [resW] at h
    obtain ⟨v, hv, h⟩ := un1W_out h
    obtain ⟨vs, h1, h2⟩ := resW_out r ρ w a (v :: acc) K hs h
    refine ⟨v :: vs, ?_, by simpa using h2⟩
    simp only [List.mapM_cons, resF, Sem.run_bind, Sem.run_pure, Result.andThen, hs.slot _ _ hv, h1]
  | .cell b t :: r, ρ, w, a, acc, K, hs, h => by
    simp only [resW] at h
    obtain ⟨p, hp, h⟩ := ptrW_out h
    obtain ⟨v, hv, h⟩ := loadW_fix h
    obtain ⟨vs, h1, h2⟩ := resW_out r ρ w a (v :: acc) K hs h
    refine ⟨v :: vs, ?_, by simpa using h2⟩
    simp only [List.mapM_cons, resF, Sem.run_bind, Sem.run_pure, Result.andThen, hs.slot _ _ hp, asAddr, hv, h1]

theorem results_out {fn : Func} {ρ : Env} {w : World} {a : Act} {K : Value → World → Prop} (hs : Sim N a ρ) (h : resW P fn.results.toList ρ w [] (fun vs => K (tupV vs) w)) :
    ∃ v, (results fn a.tmps).run P w = .ok v w ∧ K v w := by
  obtain ⟨vs, h1, h2⟩ := resW_out _ ρ w a [] _ hs h
  refine ⟨tupV vs, ?_, by simpa using h2⟩
  rw [results_eq, Array.mapM_eq_mapM_toList, map_eq_pure_bind]
  simp only [Sem.run_bind, h1, Result.andThen, Sem.run_pure]
  congr 1
  match vs with
  | [] => rfl
  | [v] => rfl
  | u :: v :: r => rw [dif_neg (by simp)]; rfl

theorem Ret_of_W {f : FuncId} {fn : Func} {code : Code} {c : Cmd} {args : List Value} {w : World} {K : Value → World → Prop}
    (hf : P.funcs[f]? = some fn) (hb : fn.body = some code) (hc : toCmd fn.ntmps code = some c.erase) (hn : args.length ≤ fn.ntmps)
    (h : W P c (argEnv 0 args) w (finQ P fn.results.toList K)) : Ret P f args w K := by
  refine calls_of_wp hf hb (wp_mono (W_sound code c hc _ w _ _ (N := fn.ntmps) ⟨by simp; omega, rfl, fun n v hv => ?_⟩ h) fun e a' w' hh => ?_)
  · obtain ⟨_, hv⟩ := lk_argEnv args 0 n v hv
    simp only [Nat.sub_zero] at hv
    have hlt : n < args.length := (List.getElem?_eq_some_iff.1 hv).1
    rw [Array.getD_eq_getD_getElem?, Array.getElem?_append_left (by simpa using hlt)]
    simp [hv]
  · obtain ⟨ρ', hs, hq⟩ := hh
    cases e with
    | normal =>
      obtain ⟨v, h1, h2⟩ := results_out hs hq
      exact ⟨hs.defers, v, h1, v, rfl, h2⟩
    | ret =>
      obtain ⟨v, h1, h2⟩ := results_out hs hq
      exact ⟨hs.defers, v, h1, v, rfl, h2⟩
    | _ => exact hq.elim
end
end Go.Ann
