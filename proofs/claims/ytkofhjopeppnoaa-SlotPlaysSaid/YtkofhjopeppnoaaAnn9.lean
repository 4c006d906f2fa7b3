/- An engine for walks. Part 9: that what is to be shown of a function's commands suffices for a call of it. -/
import Derived.Test.YtkofhjopeppnoaaAnn8
namespace Go.Ann
set_option linter.unusedVariables false
set_option linter.unusedSimpArgs false
open Go
section
variable {P : Program} {N : Nat}

theorem Sim.eval {a : Act} {ρ : Env} (h : Sim N a ρ) : ∀ x v, ev ρ x = some v → a.eval x = v := by
  intro x v hx
  cases x with
  | tmp n => exact h.slot n v hx
  | const c => simp only [ev, Option.some.injEq] at hx; exact hx
  | global g => simp only [ev, Option.some.injEq] at hx; exact hx
  | func f => simp only [ev, Option.some.injEq] at hx; exact hx

theorem Sim.put {a : Act} {ρ : Env} (h : Sim N a ρ) {d : Option Nat} (hd : okDst N d = true) (v : Value) : Sim N (a.put d v) (put ρ d v) := by
  cases d with
  | none => exact h
  | some d =>
    have hlt : d < N := by simpa [okDst] using hd
    refine ⟨by simp [Act.put, h.size], h.small, ?_, fun n u hu => ?_⟩
    · show a.defers = _
      rw [h.defers]
      simp only [Ann.put, marksD, if_pos (Nat.lt_of_lt_of_le hlt h.small)]
    simp only [Ann.put, lk_if] at hu
    simp only [Act.put, Array.getD_eq_getD_getElem?, Array.getElem?_setIfInBounds]
    split at hu
    · rename_i e; subst e
      simp only [Option.some.injEq] at hu; subst hu
      simp [h.size, hlt]
    · rename_i e
      rw [if_neg e]
      have := h.slot n u hu
      simpa [Array.getD_eq_getD_getElem?] using this

theorem Sim.low {a : Act} {ρ : Env} (h : Sim N a ρ) {s : Nat} {b : Bool} (hs : lk ρ s = some (.bool b)) : s < 1000000 := by
  rcases Nat.lt_or_ge s 1000000 with h1 | h1
  · exact h1
  · have h2 := h.slot _ _ hs
    rw [Array.getD_eq_getD_getElem?, Array.getElem?_eq_none (by rw [h.size]; exact Nat.le_trans h.small h1)] at h2
    cases h2
theorem Sim.know {a : Act} {ρ : Env} (h : Sim N a ρ) {s : Nat} {b : Bool} (hs : lk ρ s = some (.bool b)) : Sim N a ((s, .bool b) :: ρ) :=
  ⟨h.size, h.small, by rw [h.defers]; simp only [marksD, if_pos (h.low hs)], fun n u hu => by
    simp only [lk_if] at hu
    split at hu
    · rename_i e; subst e
      simp only [Option.some.injEq] at hu; subst hu
      exact h.slot _ _ hs
    · exact h.slot n u hu⟩

theorem lk_mkE : ∀ (ρ : Env) (n : Nat) (v : Value), 1000000 ≤ n → lk (mkE ρ) n = some v → lk ρ n = some v
  | [], _, _, _, h => h
  | (m, u) :: ρ, n, v, hn, h => by
    simp only [mkE] at h
    split at h
    · rename_i hm
      rw [lk_if, if_neg (by omega)]
      exact lk_mkE ρ n v hn h
    · simp only [lk_if] at h ⊢
      split at h
      · rename_i e; rw [if_pos e]; exact h
      · rename_i e; rw [if_neg e]; exact lk_mkE ρ n v hn h
theorem mkE_low : ∀ (ρ : Env) (n : Nat) (v : Value), lk (mkE ρ) n = some v → 1000000 ≤ n
  | [], _, _, h => by simp [mkE, lk_emp] at h
  | (m, u) :: ρ, n, v, h => by
    simp only [mkE] at h
    split at h
    · exact mkE_low ρ n v h
    · rename_i hm
      simp only [lk_if] at h
      split at h
      · omega
      · exact mkE_low ρ n v h
theorem lk_restr : ∀ (L : List Nat) (ρ : Env) (n : Nat) (v : Value), lk (restr L ρ) n = some v → lk ρ n = some v
  | [], ρ, n, v, h => lk_mkE ρ n v (mkE_low ρ n v h) h
  | m :: L, ρ, n, v, h => by
    simp only [restr] at h
    split at h
    · cases hm : lk ρ m with
      | none => rw [hm] at h; exact lk_restr L ρ n v h
      | some u =>
        rw [hm] at h
        simp only [addK, lk_if] at h
        split at h
        · rename_i e; subst e; rw [hm]; exact h
        · exact lk_restr L ρ n v h
    · exact lk_restr L ρ n v h
theorem marksD_mkE : ∀ ρ : Env, marksD (mkE ρ) = marksD ρ
  | [] => rfl
  | (m, v) :: ρ => by
    by_cases h : m < 1000000
    · simp only [mkE, marksD, if_pos h, marksD_mkE ρ]
    · simp only [mkE, marksD, if_neg h, marksD_mkE ρ]
theorem marksD_restr : ∀ (L : List Nat) (ρ : Env), marksD (restr L ρ) = marksD ρ
  | [], ρ => marksD_mkE ρ
  | m :: L, ρ => by
    simp only [restr]
    split
    · rename_i hm
      cases lk ρ m with
      | none => exact marksD_restr L ρ
      | some u => simp only [addK, marksD, if_pos hm]; exact marksD_restr L ρ
    · exact marksD_restr L ρ
theorem Sim.restr {a : Act} {ρ : Env} (h : Sim N a ρ) (L : List Nat) : Sim N a (restr L ρ) :=
  ⟨h.size, h.small, by rw [h.defers, marksD_restr], fun n v hv => h.slot n v (lk_restr L ρ n v hv)⟩

/-- Fences that let all in: of a function's frame, or of a round's. -/
def FR (r : Option Nat) : Fence := { Fence.wide with round := r }
theorem calls_FR {r : Option Nat} {n : Nat} {f : FuncId} {args : Array Value} {w : World} {R : Ending → World → Prop} (h : Calls P f args w R) : CallsIn (FR r) n P f args w R := callsIn_wide.2 h
theorem rows_FR {r : Option Nat} {n : Nat} {row : String} {args : Array Value} {w : World} {R : Value → World → Prop} (h : Rows P row args w R) : RowsIn (FR r) n P row args w R := fun c cs _ =>
  let ⟨v, w', hr, s⟩ := h c cs
  ⟨v, w', hr, stepsIn_wide.2 s⟩
theorem round_FR {r : Option Nat} {n : Nat} {l : Nat} {f : FuncId} {tmps : Array Value} {assign body : Code} {w : World} {R : Ending → World → Prop} (h : RoundIn Fence.wide 0 P l f tmps assign body w R) : RoundIn (FR r) n P l f tmps assign body w R :=
  ⟨trivial, fun c cs _ => h.2 c cs (room_wide _)⟩
theorem wpIn_of_wp {r : Option Nat} {n : Nat} {o : Oper} {a : Act} {w : World} {K : Act → World → Prop} {Q : Exit → Act → World → Prop} (hd : noDefer o.op = true) (h : o.wp P a w K Q) : o.wpIn (FR r) n P a w K Q := by
  refine ⟨fun _ _ => trivial, ?_⟩
  have e : o.semAt (FR r).round a.eval = execOp a.eval o := Oper.semAt_eq _ _ _ fun c hc => by rw [hc] at hd; cases hd
  rw [e]
  unfold Oper.wp at h
  generalize (execOp a.eval o).run P w = x at h ⊢
  cases x with
  | ok y w' =>
    cases y <;> simp only [Oper.upon, Oper.uponIn] at h ⊢
    case enter => exact ⟨fun e => (by cases e), calls_FR h⟩
    case row => exact ⟨fun e => (by cases e), rows_FR h⟩
    all_goals exact h
  | halt y w' => cases y <;> simp only [Oper.upon, Oper.uponIn] at h ⊢ <;> exact h
theorem opsIn_of_ops {r : Option Nat} {n : Nat} {l : List Oper} {Q : Exit → Act → World → Prop} (hd : l.all (fun o => noDefer o.op) = true) (hL : ¬ LetsOut Q) : ∀ (s : List Nat) (a : Act) (w : World), wpOps P l.toArray Q s a w → wpOpsIn (FR r) n P l.toArray Q s a w
  | [], _, _, h => h
  | i :: s, a, w, h => by
    simp only [wpOps, wpOpsIn] at h ⊢
    cases ho : l.toArray[i]? with
    | none => rw [ho] at h; exact opsIn_of_ops hd hL s a w h
    | some o =>
      rw [ho] at h
      have hm : o ∈ l := List.mem_of_getElem? (by simpa using ho)
      simp only at h ⊢
      split
      · rename_i hw
        simp only [hw, if_true] at h
        rcases h with h | ⟨_, h⟩
        · exact Oper.wpIn_mono (fun a w => opsIn_of_ops hd hL s a w) (wpIn_of_wp (List.all_eq_true.1 hd o hm) h)
        · exact (hL h).elim
      · rename_i hw
        simp only [hw] at h
        exact ⟨fun _ _ => trivial, opsIn_of_ops hd hL s _ w h⟩

theorem done_wp {s : Sem Next} {o : Oper} {a : Act} {w : World} {K : Value → World → Prop} {next : Act → World → Prop} {Q : Exit → Act → World → Prop}
    (hs : execOp a.eval o = s) (h : Done P s w K) (hk : ∀ v w', K v w' → next (a.put o.dst v) w') : o.wp P a w next Q := by
  unfold Oper.wp
  rw [hs]
  rcases h with ⟨v, w', hr, hK⟩ | ⟨w', hr, hK⟩ | ⟨f, args, w', hr, hc⟩
  · rw [hr]; exact hk v w' hK
  · rw [hr]; exact hk _ w' hK
  · rw [hr]
    refine Calls.mono hc fun e w'' hh => ?_
    obtain ⟨v, rfl, hv⟩ := hh
    exact hk v w'' hv

theorem done_wpIn {r : Option Nat} {n : Nat} {s : Sem Next} {o : Oper} {a : Act} {w : World} {K : Value → World → Prop} {next : Act → World → Prop} {Q : Exit → Act → World → Prop}
    (hd : ∀ c, o.op ≠ .defer c) (hs : execOp a.eval o = s) (h : DoneY P s w K) (hk : ∀ v w', K v w' → next (a.put o.dst v) w') : o.wpIn (FR r) n P a w next Q := by
  refine ⟨fun _ _ => trivial, ?_⟩
  rw [show o.semAt (FR r).round a.eval = s from (Oper.semAt_eq _ _ _ hd).trans hs]
  rcases h with (⟨v, w', hr, hK⟩ | ⟨w', hr, hK⟩ | ⟨f, args, w', hr, hc⟩) | ⟨l, f, tmps, assign, body, w', hr, hR⟩
  · rw [hr]; exact hk v w' hK
  · rw [hr]; exact hk _ w' hK
  · rw [hr]
    refine ⟨fun h => (by cases h), CallsIn.mono (calls_FR hc) fun e w'' hh => ?_⟩
    obtain ⟨v, rfl, hv⟩ := hh
    exact hk v w'' hv
  · rw [hr]
    refine ⟨fun h => (by cases h), RoundIn.mono (round_FR hR) fun e w'' hh => ?_⟩
    obtain ⟨v, rfl, hv⟩ := hh
    exact hk v w'' hv

theorem WL_sound {r : Option Nat} {n : Nat} {ops : List Oper} : ∀ (rest : List Oper) (l : List Ins) (L : List Nat) (ρ : Env) (w : World) (Q : Post) (a : Act),
    stripL N ops rest = some l → Sim N a ρ → WL P l L ρ w Q → wpListIn (FR r) n P ops.toArray (liftQ N Q) rest a w
  | [], l, L, ρ, w, Q, a, hl, hsim, h => by
    simp only [stripL, Option.some.injEq] at hl; subst hl
    exact ⟨_, hsim.restr L, h⟩
  | o :: rest, l, L, ρ, w, Q, a, hl, hsim, h => by
    simp only [stripL] at hl
    split at hl
    case h_2 => cases hl
    rename_i i l' hi hl'
    simp only [Option.some.injEq] at hl; subst hl
    unfold strip1 at hi
    split at hi
    case isFalse => cases hi
    rename_i hd
    split at hi
    case h_2 => cases hi
    rename_i g hg
    simp only [Option.some.injEq] at hi; subst hi
    cases hgo : o.guard with
    | none =>
      rw [hgo] at hg
      simp only [stripG, Option.some.injEq] at hg; subst hg
      simp only [WL] at h
      refine wpListIn_plain hgo fun K hK => ?_
      refine done_wpIn (opW_noDefer h) (execOp_raw _ _) (opW_doneY h a.eval hsim.eval) fun v w' hv => ?_
      exact hK _ _ (WL_sound rest l' L _ w' Q _ hl' (hsim.put hd v) hv)
    | some jb =>
      obtain ⟨j, b⟩ := jb
      rw [hgo] at hg
      simp only [stripG] at hg
      split at hg
      case h_2 => cases hg
      rename_i s hs
      simp only [Option.some.injEq] at hg; subst hg
      simp only [WL] at h
      have hy : ∀ c, lk ρ s = some (.bool c) → yielded ops.toArray a.tmps j = some c := by
        intro c hc
        have h1 := hsim.slot _ _ hc
        unfold yielded
        simp only [List.getElem?_toArray, hs, Option.bind_some]
        have h2 : a.tmps[s]? = some (.bool c) := by
          rw [Array.getD_eq_getD_getElem?] at h1
          cases h3 : a.tmps[s]? with
          | none => rw [h3] at h1; simp [undef] at h1
          | some u => rw [h3] at h1; simp only [Option.getD_some] at h1; rw [h1]
        rw [h2]
      split at h
      · rename_i c hc
        refine wpListIn_step fun K hK => ?_
        simp only [Region.wanted, hgo, hy c hc]
        by_cases hcb : c = b
        · subst hcb
          simp only [beq_self_eq_true, if_true]
          refine done_wpIn (opW_noDefer (h.1 rfl)) (execOp_raw _ _) (opW_doneY (h.1 rfl) a.eval (hsim.know hc).eval) fun v w' hv => ?_
          exact hK _ _ (WL_sound rest l' L _ w' Q _ hl' ((hsim.know hc).put hd v) hv)
        · have hne : (some c == some b) = false := by simpa using hcb
          simp only [hne, Bool.false_eq_true, if_false]
          have hcb' : c = !b := by cases c <;> cases b <;> simp_all
          have hc' : lk ρ s = some (.bool !b) := by rw [← hcb']; exact hc
          exact ⟨fun _ _ => trivial, hK _ _ (WL_sound rest l' L _ w Q _ hl' ((hsim.know hc').put hd undef) (h.2 hcb'))⟩
      · rename_i u hc
        refine wpListIn_step fun K hK => ?_
        have hyn : yielded ops.toArray a.tmps j = none := by
          have h1 := hsim.slot _ _ hc
          unfold yielded
          simp only [List.getElem?_toArray, hs, Option.bind_some]
          rw [Array.getD_eq_getD_getElem?] at h1
          cases h3 : a.tmps[s]? with
          | none => rfl
          | some u => rw [h3] at h1; simp only [Option.getD_some] at h1; rw [h1]
        simp only [Region.wanted, hgo, hyn]
        have hne : ((none : Option Bool) == some b) = false := rfl
        simp only [hne, Bool.false_eq_true, if_false]
        exact ⟨fun _ _ => trivial, hK _ _ (WL_sound rest l' L _ w Q _ hl' (hsim.put hd undef) h)⟩
      · exact h.elim
end
end Go.Ann
