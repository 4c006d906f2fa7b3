/- An engine for walks. Part 9: that what is to be shown of a function's commands suffices for a call of it. -/
import Derived.Test.YtobamkckamnmoaaAnn8
namespace Go.Ann
set_option linter.unusedVariables false
set_option linter.unusedSimpArgs false
open Go
section
variable {P : Program} {N : Nat}

theorem Sim.eval {a : Act} {ρ : Env} (h : Sim N a ρ) : ∀ x v, ev ρ x = some v → a.eval x = v := by
  intro x v hx
  cases x with
  | tmp n => exact h.slot n v hx
  | const c => simp only [ev, Option.some.injEq] at hx; exact hx
  | global g => simp only [ev, Option.some.injEq] at hx; exact hx
  | func f => simp only [ev, Option.some.injEq] at hx; exact hx

theorem Sim.put {a : Act} {ρ : Env} (h : Sim N a ρ) {d : Option Nat} (hd : okDst N d = true) (v : Value) : Sim N (a.put d v) (put ρ d v) := by
  cases d with
  | none => exact h
  | some d =>
    have hlt : d < N := by simpa [okDst] using hd
    refine ⟨by simp [Act.put, h.size], h.defers, fun n u hu => ?_⟩
    simp only [Ann.put, lk_if] at hu
    simp only [Act.put, Array.getD_eq_getD_getElem?, Array.getElem?_setIfInBounds]
    split at hu
    · rename_i e; subst e
      simp only [Option.some.injEq] at hu; subst hu
      simp [h.size, hlt]
    · rename_i e
      rw [if_neg e]
      have := h.slot n u hu
      simpa [Array.getD_eq_getD_getElem?] using this

theorem Sim.know {a : Act} {ρ : Env} (h : Sim N a ρ) {s : Nat} {v : Value} (hs : lk ρ s = some v) : Sim N a ((s, v) :: ρ) :=
  ⟨h.size, h.defers, fun n u hu => by
    simp only [lk_if] at hu
    split at hu
    · rename_i e; subst e
      simp only [Option.some.injEq] at hu; subst hu
      exact h.slot _ _ hs
    · exact h.slot n u hu⟩

theorem lk_restr : ∀ (L : List Nat) (ρ : Env) (n : Nat) (v : Value), lk (restr L ρ) n = some v → lk ρ n = some v
  | [], _, _, _, h => by simp [restr, lk_emp] at h
  | m :: L, ρ, n, v, h => by
    simp only [restr] at h
    cases hm : lk ρ m with
    | none => rw [hm] at h; exact lk_restr L ρ n v h
    | some u =>
      rw [hm] at h
      simp only [addK, lk_if] at h
      split at h
      · rename_i e; subst e; rw [hm]; exact h
      · exact lk_restr L ρ n v h
theorem Sim.restr {a : Act} {ρ : Env} (h : Sim N a ρ) (L : List Nat) : Sim N a (restr L ρ) :=
  ⟨h.size, h.defers, fun n v hv => h.slot n v (lk_restr L ρ n v hv)⟩

/-- What a region's end is to be, of a frame. -/
def liftQ (N : Nat) (Q : Post) : Exit → Act → World → Prop := fun e a w => ∃ ρ, Sim N a ρ ∧ Q e ρ w

theorem done_wp {s : Sem Next} {o : Oper} {a : Act} {w : World} {K : Value → World → Prop} {next : Act → World → Prop} {Q : Exit → Act → World → Prop}
    (hs : execOp a.eval o = s) (h : Done P s w K) (hk : ∀ v w', K v w' → next (a.put o.dst v) w') : o.wp P a w next Q := by
  unfold Oper.wp
  rw [hs]
  rcases h with ⟨v, w', hr, hK⟩ | ⟨w', hr, hK⟩ | ⟨f, args, w', hr, hc⟩
  · rw [hr]; exact hk v w' hK
  · rw [hr]; exact hk _ w' hK
  · rw [hr]
    refine Calls.mono hc fun e w'' hh => ?_
    obtain ⟨v, rfl, hv⟩ := hh
    exact hk v w'' hv

theorem WL_sound {ops : List Oper} : ∀ (rest : List Oper) (l : List Ins) (L : List Nat) (ρ : Env) (w : World) (Q : Post) (a : Act),
    stripL N ops rest = some l → Sim N a ρ → WL P l L ρ w Q → wpList P ops.toArray (liftQ N Q) rest a w
  | [], l, L, ρ, w, Q, a, hl, hsim, h => by
    simp only [stripL, Option.some.injEq] at hl; subst hl
    exact ⟨_, hsim.restr L, h⟩
  | o :: rest, l, L, ρ, w, Q, a, hl, hsim, h => by
    simp only [stripL] at hl
    split at hl
    case h_2 => cases hl
    rename_i i l' hi hl'
    simp only [Option.some.injEq] at hl; subst hl
    unfold strip1 at hi
    split at hi
    case isFalse => cases hi
    rename_i hd
    split at hi
    case h_2 => cases hi
    rename_i g hg
    simp only [Option.some.injEq] at hi; subst hi
    cases hgo : o.guard with
    | none =>
      rw [hgo] at hg
      simp only [stripG, Option.some.injEq] at hg; subst hg
      simp only [WL] at h
      refine wpList_plain hgo fun K hK => ?_
      refine done_wp (execOp_raw _ _) (opW_done h a.eval hsim.eval) fun v w' hv => ?_
      exact hK _ _ (WL_sound rest l' L _ w' Q _ hl' (hsim.put hd v) hv)
    | some jb =>
      obtain ⟨j, b⟩ := jb
      rw [hgo] at hg
      simp only [stripG] at hg
      split at hg
      case h_2 => cases hg
      rename_i s hs
      simp only [Option.some.injEq] at hg; subst hg
      simp only [WL] at h
      have hy : ∀ c, lk ρ s = some (.bool c) → yielded ops.toArray a.tmps j = some c := by
        intro c hc
        have h1 := hsim.slot _ _ hc
        unfold yielded
        simp only [List.getElem?_toArray, hs, Option.bind_some]
        have h2 : a.tmps[s]? = some (.bool c) := by
          rw [Array.getD_eq_getD_getElem?] at h1
          cases h3 : a.tmps[s]? with
          | none => rw [h3] at h1; simp [undef] at h1
          | some u => rw [h3] at h1; simp only [Option.getD_some] at h1; rw [h1]
        rw [h2]
      split at h
      · rename_i c hc
        refine wpList_step fun K hK => ?_
        simp only [Region.wanted, hgo, hy c hc]
        by_cases hcb : c = b
        · subst hcb
          simp only [beq_self_eq_true, if_true]
          refine done_wp (execOp_raw _ _) (opW_done (h.1 rfl) a.eval (hsim.know hc).eval) fun v w' hv => ?_
          exact hK _ _ (WL_sound rest l' L _ w' Q _ hl' ((hsim.know hc).put hd v) hv)
        · have hne : (some c == some b) = false := by simpa using hcb
          simp only [hne, Bool.false_eq_true, if_false]
          have hcb' : c = !b := by cases c <;> cases b <;> simp_all
          have hc' : lk ρ s = some (.bool !b) := by rw [← hcb']; exact hc
          exact hK _ _ (WL_sound rest l' L _ w Q _ hl' ((hsim.know hc').put hd undef) (h.2 hcb'))
      · rename_i u hc
        refine wpList_step fun K hK => ?_
        have hyn : yielded ops.toArray a.tmps j = none := by
          have h1 := hsim.slot _ _ hc
          unfold yielded
          simp only [List.getElem?_toArray, hs, Option.bind_some]
          rw [Array.getD_eq_getD_getElem?] at h1
          cases h3 : a.tmps[s]? with
          | none => rfl
          | some u => rw [h3] at h1; simp only [Option.getD_some] at h1; rw [h1]
        simp only [Region.wanted, hgo, hyn]
        have hne : ((none : Option Bool) == some b) = false := rfl
        simp only [hne, Bool.false_eq_true, if_false]
        exact hK _ _ (WL_sound rest l' L _ w Q _ hl' (hsim.put hd undef) h)
      · exact h.elim
end
end Go.Ann
