/- An engine for walks. Part 8: that what is to be shown of commands suffices. -/
import Derived.Test.YtkofhjopeppnoaaAnn7
namespace Go.Ann
set_option linter.unusedVariables false
set_option linter.unusedSimpArgs false
open Go
section
variable {P : Program}

theorem execOp_raw (a : Operand → Value) (o : Oper) : execOp a o = execOp a (rawOp o.op o.type) := rfl

theorem raw_done {op : Op} {ty : TypeId} {ρ : Env} {w : World} {K : Value → World → Prop} (h : rawW P op ty ρ w K) (a : Operand → Value) (ha : ∀ x v, ev ρ x = some v → a x = v) : Done P (execOp a (rawOp op ty)) w K := by
  obtain ⟨v, w', hr, hk⟩ := h a ha
  exact .inl ⟨v, w', hr, hk⟩

theorem callFunc_run {f : FuncId} (h : goFunc P f = true) (args : Array Value) (w : World) : (callFunc f args).run P w = .ok (.enter f args) w := by
  unfold goFunc at h
  split at h
  · rename_i fn hf
    simp only [Bool.and_eq_true, Bool.not_eq_true'] at h
    obtain ⟨h1, h2⟩ := h
    obtain ⟨b, hb⟩ := Option.isSome_iff_exists.1 h2
    simp only [callFunc, Sem.run_bind, run_program, Result.andThen, hf, h1, hb, Option.isNone, Bool.false_eq_true, if_false]; rfl
  · cases h

theorem rawB_done {b : Builtin} {args : Array Operand} {ats : Array TypeId} {ty : TypeId} {w : World} {K : Value → World → Prop} {xs : List Value}
    (h : rawB P b ats ty (args.map isConstO) xs w K) (a : Operand → Value) (hx : args.map a = xs.toArray) :
    Done P (execOp a (rawOp (.call ⟨.builtin b, args, ats⟩) ty)) w K := by
  obtain ⟨v, w', hr, hk⟩ := h
  refine .inl ⟨v, w', ?_, hk⟩
  simp only [execOp, rawOp, resolve, Sem.run_bind, Sem.run_pure, Result.andThen, invoke, hx]
  exact hr

theorem bi_done {b : Builtin} {args : Array Operand} {ats : Array TypeId} {ty : TypeId} {ρ : Env} {w : World} {K : Value → World → Prop}
    (h : ls1W (fun xs => biW P b ats ty (args.map isConstO) xs w K) (evs ρ args.toList)) (a : Operand → Value) (ha : ∀ x v, ev ρ x = some v → a x = v) :
    Done P (execOp a (rawOp (.call ⟨.builtin b, args, ats⟩) ty)) w K := by
  obtain ⟨xs, hx, h⟩ := ls1W_out h
  have hx := evs_map' ha hx
  have key : ∀ b', b' = b → pvW (biV P b' ats.toList xs) w K → Done P (execOp a (rawOp (.call ⟨.builtin b, args, ats⟩) ty)) w K := by
    intro b' hb' h'
    subst hb'
    obtain ⟨ob, v, h1, hob, hk⟩ := pvW_out h'
    refine .inl ⟨v, w, ?_, hk⟩
    simp only [execOp, rawOp, resolve, Sem.run_bind, Sem.run_pure, Result.andThen, invoke, hx]
    exact biV_sound w (ats := ats.toList) h1 hob
  unfold biW at h
  split at h
  · exact rawB_done h a hx
  · exact key _ rfl h
  · exact key _ rfl h
  · exact key _ rfl h
  · exact rawB_done h a hx

theorem runW_done {s : Sem Value} {w : World} {K : Value → World → Prop} (h : runW P s w K) : Done P (do pure (.value (← s))) w K := by
  obtain ⟨v, w', hr, hk⟩ := h
  exact .val hr hk
theorem runU_done {s : Sem Unit} {w : World} {K : Value → World → Prop} (h : runU P s w K) : Done P (do s; pure .skip) w K := by
  obtain ⟨w', hr, hk⟩ := h
  refine .inr (.inl ⟨w', ?_, hk⟩)
  simp only [Sem.run_bind, hr, Result.andThen, Sem.run_pure]

theorem zip_map {ρ : Env} {a : Operand → Value} (ha : ∀ x v, ev ρ x = some v → a x = v) : ∀ {ps : List (Nat × Operand)} {vs : List Value}, evs ρ (ps.map (·.2)) = some vs → ps.map (fun p => (p.1, a p.2)) = zipP (ps.map (·.1)) vs
  | [], vs, h => by simp only [List.map_nil, evs, Option.some.injEq] at h; subst h; rfl
  | p :: r, vs, h => by
    simp only [List.map_cons, evs] at h
    split at h
    · rename_i v us hv hus
      simp only [Option.some.injEq] at h; subst h
      simp only [List.map_cons, zipP]
      rw [ha _ _ hv, zip_map ha hus]
    · cases h

theorem call_done {f : Operand} {args : Array Operand} {ats : Array TypeId} {ty : TypeId} {ρ : Env} {w : World} {K : Value → World → Prop}
    (h : un1W (fun f => ls1W (fun xs => callW P f xs w K) (evs ρ args.toList)) (ev ρ f)) (hn : noYV (ev ρ f)) (a : Operand → Value) (ha : ∀ x v, ev ρ x = some v → a x = v) :
    Done P (execOp a (rawOp (.call ⟨.value f, args, ats⟩) ty)) w K := by
  obtain ⟨fv, hf, h⟩ := un1W_out h
  obtain ⟨xs, hx, h⟩ := ls1W_out h
  unfold callW at h
  split at h
  · obtain ⟨hg, hr⟩ := h
    rename_i f' first cap
    refine .inr (.inr ⟨f', first ++ xs.toArray ++ cap, w, ?_, ?_⟩)
    · simp only [execOp, rawOp, resolve, Sem.run_bind, Sem.run_pure, Result.andThen, ha _ _ hf, evs_map' ha hx, Deferred.ofValue, invoke, callFunc_run hg]
    · unfold Ret at hr
      have e : (first.toList ++ xs ++ cap.toList).toArray = first ++ xs.toArray ++ cap := by simp
      rw [e] at hr
      exact hr
  · rw [hf] at hn; exact hn.elim
  · exact h.elim
theorem yield_done {f : Operand} {args : Array Operand} {ats : Array TypeId} {ty : TypeId} {ρ : Env} {w : World} {K : Value → World → Prop}
    (h : un1W (fun f => ls1W (fun xs => callW P f xs w K) (evs ρ args.toList)) (ev ρ f)) (hn : ¬ noYV (ev ρ f)) (a : Operand → Value) (ha : ∀ x v, ev ρ x = some v → a x = v) :
    DoneY P (execOp a (rawOp (.call ⟨.value f, args, ats⟩) ty)) w K := by
  obtain ⟨fv, hf, h⟩ := un1W_out h
  obtain ⟨xs, hx, h⟩ := ls1W_out h
  rw [hf] at hn
  unfold callW at h
  split at h
  · exact (hn trivial).elim
  · obtain ⟨rfl, rfl, fn, tmps, assign, body, hr, hR⟩ := h
    rename_i l
    refine .inr ⟨l, fn, tmps, assign, body, w, ?_, hR⟩
    simp only [execOp, rawOp, resolve, Sem.run_bind, Sem.run_pure, Result.andThen, ha _ _ hf, evs_map' ha hx, Deferred.ofValue, invoke]
    simpa using hr
  · exact h.elim

theorem opW_done {op : Op} {ty : TypeId} {ρ : Env} {w : World} {K : Value → World → Prop} (h : opW P op ty ρ w K) (hn : noY ρ op) (a : Operand → Value) (ha : ∀ x v, ev ρ x = some v → a x = v) : Done P (execOp a (rawOp op ty)) w K := by
  have evo_out : ∀ {o : Option Operand} {u : Option Value}, evo ρ o = some u → o.map a = u := by
    intro o u hu
    cases o with
    | none => simp only [evo, Option.some.injEq] at hu; subst hu; rfl
    | some x =>
      simp only [evo] at hu
      split at hu
      · rename_i v hv
        simp only [Option.some.injEq] at hu; subst hu
        rw [Option.map_some, ha _ _ hv]
      · cases hu
  unfold opW at h
  split at h
  · obtain ⟨v, hv, hk⟩ := mvW_out h
    simp only [execOp, rawOp, ha _ _ hv]; exact .now hk
  · obtain ⟨v, hv, hk⟩ := mvW_out h
    simp only [execOp, rawOp, ha _ _ hv]; exact .now hk
  · obtain ⟨v, hv, hk⟩ := mvW_out h
    unfold pickV at hv
    split at hv
    · rename_i h1
      simp only [execOp, rawOp, ha _ _ h1, asBool, ha _ _ hv]
      exact .inl ⟨v, w, by simp, hk⟩
    · rename_i h1
      simp only [execOp, rawOp, ha _ _ h1, asBool, ha _ _ hv]
      exact .inl ⟨v, w, by simp, hk⟩
    · cases hv
  · obtain ⟨ob, v, h1, hob, hk⟩ := pvW_out h
    obtain ⟨x, y, hx, hy, h1⟩ := bin2_out h1
    simp only [execOp, rawOp, ha _ _ hx, ha _ _ hy]
    exact .val (binV_sound w h1 hob _ _) hk
  · obtain ⟨ob, v, h1, hob, hk⟩ := pvW_out h
    obtain ⟨x, hx, h1⟩ := un1_out h1
    simp only [execOp, rawOp, ha _ _ hx]
    exact .val (unV_sound w h1 hob) hk
  · obtain ⟨ob, v, h1, hob, hk⟩ := pvW_out h
    obtain ⟨x, y, hx, hy, h1⟩ := bin2_out h1
    simp only [execOp, rawOp, ha _ _ hx, ha _ _ hy]
    exact .val (indexV_sound w h1 hob) hk
  · obtain ⟨ob, v, h1, hob, hk⟩ := pvW_out h
    rename_i t x lo hi
    cases hx : ev ρ x with
    | none => rw [hx] at h1; unfold sliceV at h1; simp at h1
    | some xv => cases hl : evo ρ lo with
      | none => rw [hx, hl] at h1; unfold sliceV at h1; simp at h1
      | some lv => cases hh : evo ρ hi with
        | none => rw [hx, hl, hh] at h1; unfold sliceV at h1; simp at h1
        | some hv =>
          rw [hx, hl, hh] at h1
          simp only [execOp, rawOp, ha _ _ hx, evo_out hl, evo_out hh, Option.map_none]
          exact .val (sliceV_sound w h1 hob) hk
  · obtain ⟨ob, v, h1, hob, hk⟩ := pvW_out h
    obtain ⟨x, hx, h1⟩ := un1_out h1
    simp only [execOp, rawOp, ha _ _ hx]
    exact .val (fieldV_sound w h1) hk
  · obtain ⟨ob, v, h1, hob, hk⟩ := pvW_out h
    obtain ⟨x, hx, h1⟩ := un1_out h1
    simp only [execOp, rawOp, ha _ _ hx]
    exact .val (fieldAddrV_sound w h1) hk
  · obtain ⟨ob, v, h1, hob, hk⟩ := pvW_out h
    obtain ⟨x, y, hx, hy, h1⟩ := bin2_out h1
    simp only [execOp, rawOp, ha _ _ hx, ha _ _ hy]
    exact .val (indexAddrV_sound w h1 hob) hk
  · obtain ⟨ob, v, h1, hob, hk⟩ := pvW_out h
    obtain ⟨x, hx, h1⟩ := un1_out h1
    simp only [execOp, rawOp, ha _ _ hx]
    exact .val (extractV_sound w h1) hk
  · obtain ⟨ob, v, h1, hob, hk⟩ := pvW_out h
    obtain ⟨x, hx, h1⟩ := un1_out h1
    simp only [execOp, rawOp, ha _ _ hx]
    exact .val (ifaceV_sound w h1) hk
  · obtain ⟨ob, v, h1, hob, hk⟩ := pvW_out h
    obtain ⟨x, hx, h1⟩ := un1_out h1
    unfold nilCheckV at h1
    split at h1
    · simp only [Option.some.injEq, Prod.mk.injEq] at h1; obtain ⟨rfl, rfl⟩ := h1
      simp only [execOp, rawOp, ha _ _ hx]; exact .now hk
    · simp only [Option.some.injEq, Prod.mk.injEq] at h1; obtain ⟨rfl, rfl⟩ := h1
      simp only [execOp, rawOp, ha _ _ hx]; exact .now hk
    · cases h1
  · obtain ⟨f, hf, h⟩ := ls1W_out h
    obtain ⟨c, hc, hk⟩ := ls1W_out h
    simp only [execOp, rawOp, evs_map' ha hf, evs_map' ha hc]
    exact .val rfl hk
  · obtain ⟨p, hp, h⟩ := ptrW_out h
    obtain ⟨v, hr, hk⟩ := loadW_out h
    simp only [execOp, rawOp, ha _ _ hp]
    exact .val (by simp only [Instr.loadAt, Instr.sureAddr, Sem.run_bind, Sem.run_pure, Result.andThen, hr]) hk
  · obtain ⟨p, hp, h⟩ := ptrW_out h
    obtain ⟨v, hv, h⟩ := un1W_out h
    obtain ⟨w', hr, hk⟩ := storeW_out h
    refine .inr (.inl ⟨w', ?_, hk⟩)
    simp only [execOp, rawOp, ha _ _ hp, ha _ _ hv, Sem.run_bind, hr, Result.andThen, Sem.run_pure]
  · obtain ⟨z, hz, hk⟩ := un1W_out h
    unfold zeroT at hz
    split at hz
    · rename_i i hi
      simp only [execOp, rawOp]
      refine .val (v := .pointer (some ⟨w.heap.size, 0, none⟩)) (w' := w.alloc (.cells z.cells _)) ?_ hk
      simp only [Instr.alloc, zeroValue, typeInfo, Sem.run_bind, run_program, Result.andThen, hi, Sem.run_pure, hz, newVar, newRow, run_newObj_alloc]
    · cases hz
  · obtain ⟨z, hz, hk⟩ := un1W_out h
    simp only [execOp, rawOp, ha _ _ hz]
    refine .val (v := .pointer (some ⟨w.heap.size, 0, none⟩)) (w' := w.alloc (.cells z.cells _)) ?_ hk
    simp only [Instr.box, Sem.run_bind, Result.andThen, Sem.run_pure, newVar, newRow, run_newObj_alloc]
  · obtain ⟨x, hx, h⟩ := un1W_out h
    obtain ⟨v, w', hr, hk⟩ := convW_out h
    simp only [execOp, rawOp, ha _ _ hx]
    exact .val hr hk
  · obtain ⟨vs, hv, h⟩ := ls1W_out h
    have e := zip_map ha hv
    rw [← Array.toList_map] at e
    simp only [execOp, rawOp]
    have := runW_done h
    rw [← e] at this
    exact this
  · obtain ⟨vs, hv, h⟩ := ls1W_out h
    have e := zip_map ha hv
    rw [← Array.toList_map] at e
    simp only [execOp, rawOp]
    have := runW_done h
    rw [← e] at this
    exact this
  · obtain ⟨l, hl, h⟩ := un1W_out h
    obtain ⟨c, hc, h⟩ := un1W_out h
    simp only [execOp, rawOp, ha _ _ hl, ha _ _ hc]; exact runW_done h
  · simp only [execOp, rawOp, Option.map_none]; exact runW_done h
  · obtain ⟨l, hl, h⟩ := un1W_out h
    obtain ⟨c, hc, h⟩ := un1W_out h
    simp only [execOp, rawOp, ha _ _ hl, ha _ _ hc]; exact runW_done h
  · obtain ⟨l, hl, h⟩ := un1W_out h
    obtain ⟨c, hc, h⟩ := un1W_out h
    obtain ⟨d, hd, h⟩ := un1W_out h
    simp only [execOp, rawOp, ha _ _ hl, ha _ _ hc, ha _ _ hd]; exact runU_done h
  · obtain ⟨l, hl, h⟩ := un1W_out h
    obtain ⟨c, hc, h⟩ := un1W_out h
    obtain ⟨d, hd, h⟩ := un1W_out h
    simp only [execOp, rawOp, ha _ _ hl, ha _ _ hc, ha _ _ hd]; exact runU_done h
  · obtain ⟨l, hl, h⟩ := un1W_out h
    simp only [execOp, rawOp, ha _ _ hl]; exact runW_done h
  · obtain ⟨l, hl, h⟩ := un1W_out h
    simp only [execOp, rawOp, ha _ _ hl]; exact runW_done h
  · obtain ⟨l, hl, h⟩ := un1W_out h
    simp only [execOp, rawOp, ha _ _ hl]; exact runW_done h
  · obtain ⟨l, hl, h⟩ := un1W_out h
    simp only [execOp, rawOp, ha _ _ hl]; exact runW_done h
  · exact bi_done h a ha
  · exact call_done h hn a ha
  · exact h.elim
  · exact raw_done h a ha
theorem opW_doneY {op : Op} {ty : TypeId} {ρ : Env} {w : World} {K : Value → World → Prop} (h : opW P op ty ρ w K) (a : Operand → Value) (ha : ∀ x v, ev ρ x = some v → a x = v) : DoneY P (execOp a (rawOp op ty)) w K := by
  by_cases hn : noY ρ op
  · exact .inl (opW_done h hn a ha)
  · unfold noY at hn
    split at hn
    · exact yield_done h hn a ha
    · exact (hn trivial).elim
theorem opW_noDefer {op : Op} {ty : TypeId} {ρ : Env} {w : World} {K : Value → World → Prop} (h : opW P op ty ρ w K) : ∀ c, op ≠ .defer c := by
  rintro c rfl
  exact h
end
end Go.Ann
