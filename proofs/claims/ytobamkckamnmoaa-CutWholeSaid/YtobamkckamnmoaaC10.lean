/- The reference's objects. -/
import Derived.Test.YtobamkckamnmoaaC9
namespace Go.Proofs.Ytobamkckamnmoaa
set_option linter.unusedSimpArgs false
set_option linter.unusedVariables false
set_option maxRecDepth 100000
open Go Go.Ann Go.RowKit
def ofObj (x : Int) (l : List OpT) : List OpT := l.filter fun o => decide (o.Object = x)
/-- What a cutting by objects is. -/
structure ByObj (l : List OpT) (acc : List Seg) : Prop where
  up : acc.Pairwise fun a b => a.obj < b.obj
  sorts : ∀ s ∈ acc, Sorts earI (ofObj s.obj l) s.ops
  kind : ∀ s ∈ acc, ∃ o r, s.ops = o :: r ∧ s.kind = o.Kind
  all : ∀ o ∈ l, ∃ s ∈ acc, s.obj = o.Object
/-- The least object above those that are done. -/
def Next (l : List OpT) (any : Bool) (last : Int) (k : Nat) (found : Bool) (next : Int) : Prop :=
  (found = false ∧ ∀ o ∈ l.take k, any = true ∧ o.Object ≤ last) ∨ (found = true ∧ (∃ o ∈ l.take k, o.Object = next) ∧ (any = true → last < next) ∧ ∀ o ∈ l.take k, (any = true → last < o.Object) → next ≤ o.Object)
/-- What is still to be cut. -/
def left (l : List OpT) (any : Bool) (last : Int) : List OpT := l.filter fun o => !any || decide (last < o.Object)
/-- A cutting by objects, so far. -/
structure Part (l : List OpT) (acc : List Seg) (any : Bool) (last : Int) : Prop where
  up : acc.Pairwise fun a b => a.obj < b.obj
  sorts : ∀ s ∈ acc, Sorts earI (ofObj s.obj l) s.ops
  kind : ∀ s ∈ acc, ∃ o r, s.ops = o :: r ∧ s.kind = o.Kind
  low : ∀ s ∈ acc, any = true ∧ s.obj ≤ last
  all : ∀ o ∈ l, o ∈ left l any last ∨ ∃ s ∈ acc, s.obj = o.Object
theorem Part.nil (l : List OpT) (x : Int) : Part l [] false x := ⟨List.Pairwise.nil, (fun s h => by cases h), (fun s h => by cases h), (fun s h => by cases h), fun o h => .inl (by unfold left; simpa using h)⟩
theorem mem_take_succ {l : List OpT} {k : Nat} (hk : k < l.length) {o : OpT} : o ∈ l.take (k + 1) ↔ o ∈ l.take k ∨ o = l[k] := by
  rw [List.take_succ_eq_append_getElem hk, List.mem_append, List.mem_singleton]
theorem Next.take {l : List OpT} {any found : Bool} {last next : Int} {k : Nat} (h : Next l any last k found next) (hk : k < l.length) (h1 : any = true → last < l[k].Object) (h2 : found = true → l[k].Object < next) : Next l any last (k + 1) true l[k].Object := by
  refine .inr ⟨rfl, ⟨_, (mem_take_succ hk).2 (.inr rfl), rfl⟩, h1, fun o ho hlo => ?_⟩
  rcases (mem_take_succ hk).1 ho with ho | rfl
  · rcases h with ⟨_, h⟩ | ⟨hf, _, _, h⟩
    · have := h o ho; have := hlo this.1; omega
    · have := h o ho hlo; have := h2 hf; omega
  · exact Int.le_refl _
theorem Next.skip {l : List OpT} {any found : Bool} {last next : Int} {k : Nat} (h : Next l any last k found next) (hk : k < l.length) (h1 : (any = true ∧ l[k].Object ≤ last) ∨ (found = true ∧ next ≤ l[k].Object)) : Next l any last (k + 1) found next := by
  rcases h with ⟨hf, h⟩ | ⟨hf, ⟨x, hx, hxe⟩, h2, h⟩
  · subst hf
    refine .inl ⟨rfl, fun o ho => ?_⟩
    rcases (mem_take_succ hk).1 ho with ho | rfl
    · exact h o ho
    · rcases h1 with h1 | h1
      · exact h1
      · cases h1.1
  · refine .inr ⟨hf, ⟨x, (mem_take_succ hk).2 (.inl hx), hxe⟩, h2, fun o ho hlo => ?_⟩
    rcases (mem_take_succ hk).1 ho with ho | rfl
    · exact h o ho hlo
    · rcases h1 with h1 | h1
      · have := hlo h1.1; omega
      · exact h1.2
theorem segs_rd {W0 w : World} {F : Nat → Prop} {L : List Res} {I : List Inv} {vo : Value} {acc : List Seg} {vs : List Value} (hvs : vs.length = acc.length) (h : St W0 w F (.row vo 24 3 acc.length (segCells acc vs) :: L) I)
    (hr : ∀ (j : Nat) (s : Seg) (v : Value), acc[j]? = some s → vs[j]? = some v → RdS w 11 OpT.enc v s.ops) (hl : ∀ s ∈ acc, (s.ops.length : Int) ≤ 9223372036854775806) : RdR w 3 segR vo acc := by
  refine ⟨List.zipWith segC acc vs, by simp [hvs], ?_, ?_⟩
  · intro j c x hc hx
    rw [List.getElem?_zipWith, hx] at hc
    cases hv : vs[j]? with
    | none => rw [hv] at hc; cases hc
    | some v =>
      rw [hv] at hc
      simp only [Option.some.injEq] at hc
      subst hc
      exact ⟨rfl, v, rfl, hr j x v hx hv, hl x (List.mem_of_getElem? hx)⟩
  · rw [segCells_flat]
    exact Rd.of_own (h.row 0 rfl)
theorem ofObj_len (x : Int) (l : List OpT) : (ofObj x l).length ≤ l.length := List.length_filter_le _ _
theorem ofObj_snoc (x : Int) {l : List OpT} {k : Nat} (hk : k < l.length) : ofObj x (l.take (k + 1)) = ofObj x (l.take k) ++ if l[k].Object = x then [l[k]] else [] := by
  rw [List.take_succ_eq_append_getElem hk]
  unfold ofObj
  rw [List.filter_append]
  by_cases h : l[k].Object = x
  · rw [if_pos h]; simp [h]
  · rw [if_neg h]; simp [h]
theorem Part.step {l : List OpT} {acc : List Seg} {any : Bool} {last next : Int} {x o : OpT} {r' : List OpT} (h : Part l acc any last) (hx : x ∈ l) (hxe : x.Object = next) (hlo : any = true → last < next) (hmin : ∀ o ∈ l, (any = true → last < o.Object) → next ≤ o.Object) (hs : Sorts earI (ofObj next l) (o :: r')) :
    Part l (acc ++ [⟨next, o.Kind, o :: r'⟩]) true next ∧ (left l true next).length < (left l any last).length := by
  refine ⟨⟨?_, fun s hm => ?_, fun s hm => ?_, fun s hm => ?_, fun y hy => ?_⟩, ?_⟩
  · rw [List.pairwise_append]
    refine ⟨h.up, List.pairwise_singleton _ _, fun a ha b hb => ?_⟩
    simp only [List.mem_singleton] at hb; subst hb
    obtain ⟨a1, a2⟩ := h.low a ha
    have := hlo a1
    simp only; omega
  · rcases List.mem_append.1 hm with hm | hm
    · exact h.sorts s hm
    · simp only [List.mem_singleton] at hm; subst hm; exact hs
  · rcases List.mem_append.1 hm with hm | hm
    · exact h.kind s hm
    · simp only [List.mem_singleton] at hm; subst hm; exact ⟨o, r', rfl, rfl⟩
  · refine ⟨rfl, ?_⟩
    rcases List.mem_append.1 hm with hm | hm
    · obtain ⟨a1, a2⟩ := h.low s hm
      have := hlo a1; omega
    · simp only [List.mem_singleton] at hm; subst hm; exact Int.le_refl _
  · rcases h.all y hy with hl | ⟨s, hm, he⟩
    · by_cases hn : y.Object = next
      · exact .inr ⟨_, List.mem_append_right _ (List.mem_singleton_self _), hn.symm⟩
      · unfold left at hl ⊢
        rw [List.mem_filter] at hl ⊢
        have := hmin y hy fun ha => by have := hl.2; rw [ha] at this; simpa using this
        exact .inl ⟨hy, by simp; omega⟩
    · exact .inr ⟨s, List.mem_append_left _ hm, he⟩
  · have hsub : (left l true next) = (left l any last).filter fun o => decide (next < o.Object) := by
      unfold left
      rw [List.filter_filter]
      apply List.filter_congr
      intro y hy
      cases any with
      | false => simp
      | true => have := hlo rfl; simp; omega
    rw [hsub]
    refine List.length_filter_lt_length_iff_exists.2 ⟨x, ?_, ?_⟩
    · unfold left
      rw [List.mem_filter]
      refine ⟨hx, ?_⟩
      cases any with
      | false => rfl
      | true => have := hlo rfl; simp; omega
    · simp; omega
theorem robjects_ok (v : Value) (l : List OpT) (w : World) (h : RdS w 11 OpT.enc v l) (hl : l.length ≤ 100) :
    Ret Try.prog 19 [v] w fun u w' => (∃ acc, ByObj l acc ∧ RdR w' 3 segR u acc) ∧ Below w.heap.size w w' := by
  obtain ⟨a, c, rfl, _⟩ := h.form
  refine ent19 _ _ _ ?_
  simp (disch := first | omega | exact okFill_t rfl | exact okSize_t rfl | exact fun h => h | (simp only [World.size_alloc, World.size_drew, World.size_setCell, size_fill, bytesW]; omega)) only [go_sem, ↓reduceIte, reduceCtorEq, Nat.reduceBEq, Nat.reduceEqDiff, Nat.reduceAdd, Nat.reduceMul, Int.reduceNe, Int.reduceEq, Int.reduceLT, Int.reduceLE, Int.reduceNeg, Int.reduceAdd, Int.reduceSub, Int.reduceMul, Int.reduceToNat, beq_self_eq_true, c19, c19S0, c19S1, c19L0, c19S2, c19S3, c19L1, c19S4, c19S5, c19S6, c19S7, c19S8, c19L2, storeW_fill, List.setIfInBounds_toArray, List.set_cons_zero, List.set_cons_succ, List.getElem_toArray, List.getElem_cons_zero, List.getElem_cons_succ, Nat.reduceLeDiff, Nat.reduceSub, okSt_nil, okSt_cons, fillO_some, fillO_none, cF_same, cF_blk, fF_any, size_fill, Value.oneCell', Int.toNat_natCast, Int.cast_ofNat_Int, cast0, cast1, Int.natCast_add, add_block, add_off, Classical.not_not, decide_not, Bool.not_eq_false, decide_true, decide_false, Bool.true_beq, Bool.false_beq, beq_true, beq_false, Bool.true_bne, Bool.false_bne, Bool.bne_true, Bool.bne_false, decide_eq_true_eq, Bool.not_eq_eq_eq_not, Nat.mul_one, List.size_toArray, List.length_cons, List.length_nil, Nat.le_refl, ldK_int, ldK_bool, ldK_str, ldK_slice, ldK_ptr, ldK_map, ldK_agg, ldK_other, ldO_int, ldO_bool, ldO_str, ldO_slice, ldO_ptr, ldO_map, ldO_other, ldA_some, cellsO_new, cellsO_nil, cellsC_some, cellsO_drew, cellsO_alloc, cA_add, cS_add, cA_new, cA_old, fA_new, fA_old, setO_some, cS_same, cS_off, cS_blk, World.cell?_drew, World.frozen?_drew, World.frozen?_setCell, World.size_alloc, World.size_drew, World.size_setCell, heldX_eq, heldX_add, chg_refl, chg_drew, ovr_nil, ovr_cons, Option.getD_some, Option.getD_none, Addr.add_lit, Nat.add_zero, Option.some.injEq, exists_eq', exists_eq_left', Value.int.injEq, Value.bool.injEq, Value.pointer.injEq, Value.string.injEq]
  refine W_loopU (fun x : Value × Int × Bool => [(3, x.1), (4, .int .i64 x.2.1), (5, .bool x.2.2)]) (fun x w' => ∃ acc vs, vs.length = acc.length ∧ acc.length + (left l x.2.2 x.2.1).length ≤ l.length ∧ St w w' (fun _ => False) [.row x.1 24 3 acc.length (segCells acc vs)] (segInvs acc vs) ∧ Part l acc x.2.2 x.2.1) (fun x => (left l x.2.2 x.2.1).length) (.slice none 0 0, 0, false) rfl ⟨[], [], rfl, by rw [List.length_nil, Nat.zero_add]; exact List.length_filter_le _ _, (St.start (W0 := w)).nilRow 24 3, Part.nil l 0⟩ ?_
  rintro ⟨vo, last, any⟩ w1 ⟨acc, vs, hvs, hlen, s1, hp⟩
  simp only at hlen s1 hp
  simp (disch := first | omega | exact okFill_t rfl | exact okSize_t rfl | exact fun h => h | (simp only [World.size_alloc, World.size_drew, World.size_setCell, size_fill, bytesW]; omega)) only [go_sem, ↓reduceIte, reduceCtorEq, Nat.reduceBEq, Nat.reduceEqDiff, Nat.reduceAdd, Nat.reduceMul, Int.reduceNe, Int.reduceEq, Int.reduceLT, Int.reduceLE, Int.reduceNeg, Int.reduceAdd, Int.reduceSub, Int.reduceMul, Int.reduceToNat, beq_self_eq_true, c19, c19S0, c19S1, c19L0, c19S2, c19S3, c19L1, c19S4, c19S5, c19S6, c19S7, c19L2, storeW_fill, List.setIfInBounds_toArray, List.set_cons_zero, List.set_cons_succ, List.getElem_toArray, List.getElem_cons_zero, List.getElem_cons_succ, Nat.reduceLeDiff, Nat.reduceSub, okSt_nil, okSt_cons, fillO_some, fillO_none, cF_same, cF_blk, fF_any, size_fill, Value.oneCell', Int.toNat_natCast, Int.cast_ofNat_Int, cast0, cast1, Int.natCast_add, add_block, add_off, Classical.not_not, decide_not, Bool.not_eq_false, decide_true, decide_false, Bool.true_beq, Bool.false_beq, beq_true, beq_false, Bool.true_bne, Bool.false_bne, Bool.bne_true, Bool.bne_false, decide_eq_true_eq, Bool.not_eq_eq_eq_not, Nat.mul_one, List.size_toArray, List.length_cons, List.length_nil, Nat.le_refl, ldK_int, ldK_bool, ldK_str, ldK_slice, ldK_ptr, ldK_map, ldK_agg, ldK_other, ldO_int, ldO_bool, ldO_str, ldO_slice, ldO_ptr, ldO_map, ldO_other, ldA_some, cellsO_new, cellsO_nil, cellsC_some, cellsO_drew, cellsO_alloc, cA_add, cS_add, cA_new, cA_old, fA_new, fA_old, setO_some, cS_same, cS_off, cS_blk, World.cell?_drew, World.frozen?_drew, World.frozen?_setCell, World.size_alloc, World.size_drew, World.size_setCell, heldX_eq, heldX_add, chg_refl, chg_drew, ovr_nil, ovr_cons, Option.getD_some, Option.getD_none, Addr.add_lit, Nat.add_zero, Option.some.injEq, exists_eq', exists_eq_left', Value.int.injEq, Value.bool.injEq, Value.pointer.injEq, Value.string.injEq]
  refine W_loopU (fun x : Int × Bool × Nat => [(6, .int .i64 x.1), (7, .bool x.2.1), (8, .int .i64 x.2.2)]) (fun x w' => w' = w1 ∧ x.2.2 ≤ l.length ∧ Next l any last x.2.2 x.2.1 x.1) (fun x => l.length - x.2.2) (0, false, 0) rfl ⟨rfl, Nat.zero_le _, .inl ⟨rfl, fun o h => by simp at h⟩⟩ ?_
  rintro ⟨next, found, k⟩ _ ⟨rfl, hk, hn⟩
  simp only at hk hn
  by_cases hkl : k < l.length
  · have hkl' : (k : Int) < l.length := by omega
    obtain ⟨q, rfl⟩ := h.ptr (by omega)
    have ek := h.eltB s1.bel OpT.len (by decide) hkl
    have ak := l[k].at
    simp (disch := first | omega | exact okFill_t rfl | exact okSize_t rfl | exact fun h => h | (simp only [World.size_alloc, World.size_drew, World.size_setCell, size_fill, bytesW]; omega)) only [go_sem, ↓reduceIte, reduceCtorEq, Nat.reduceBEq, Nat.reduceEqDiff, Nat.reduceAdd, Nat.reduceMul, Int.reduceNe, Int.reduceEq, Int.reduceLT, Int.reduceLE, Int.reduceNeg, Int.reduceAdd, Int.reduceSub, Int.reduceMul, Int.reduceToNat, beq_self_eq_true, c19, c19S0, c19S1, c19L0, c19S2, c19S3, c19L1, c19S4, c19S5, c19S6, c19S7, c19L2, hkl', ek, ak, storeW_fill, List.setIfInBounds_toArray, List.set_cons_zero, List.set_cons_succ, List.getElem_toArray, List.getElem_cons_zero, List.getElem_cons_succ, Nat.reduceLeDiff, Nat.reduceSub, okSt_nil, okSt_cons, fillO_some, fillO_none, cF_same, cF_blk, fF_any, size_fill, Value.oneCell', Int.toNat_natCast, Int.cast_ofNat_Int, cast0, cast1, Int.natCast_add, add_block, add_off, Classical.not_not, decide_not, Bool.not_eq_false, decide_true, decide_false, Bool.true_beq, Bool.false_beq, beq_true, beq_false, Bool.true_bne, Bool.false_bne, Bool.bne_true, Bool.bne_false, decide_eq_true_eq, Bool.not_eq_eq_eq_not, Nat.mul_one, List.size_toArray, List.length_cons, List.length_nil, Nat.le_refl, ldK_int, ldK_bool, ldK_str, ldK_slice, ldK_ptr, ldK_map, ldK_agg, ldK_other, ldO_int, ldO_bool, ldO_str, ldO_slice, ldO_ptr, ldO_map, ldO_other, ldA_some, cellsO_new, cellsO_nil, cellsC_some, cellsO_drew, cellsO_alloc, cA_add, cS_add, cA_new, cA_old, fA_new, fA_old, setO_some, cS_same, cS_off, cS_blk, World.cell?_drew, World.frozen?_drew, World.frozen?_setCell, World.size_alloc, World.size_drew, World.size_setCell, heldX_eq, heldX_add, chg_refl, chg_drew, ovr_nil, ovr_cons, Option.getD_some, Option.getD_none, Addr.add_lit, Nat.add_zero, Option.some.injEq, exists_eq', exists_eq_left', Value.int.injEq, Value.bool.injEq, Value.pointer.injEq, Value.string.injEq]
    have tk : (any = true → last < l[k].Object) → (found = true → l[k].Object < next) → k + 1 ≤ l.length ∧ Next l any last (k + 1) true l[k].Object := fun a b => ⟨hkl, hn.take hkl a b⟩
    have sk : ((any = true ∧ l[k].Object ≤ last) ∨ (found = true ∧ next ≤ l[k].Object)) → k + 1 ≤ l.length ∧ Next l any last (k + 1) found next := fun a => ⟨hkl, hn.skip hkl a⟩
    refine ⟨fun ha => ⟨by omega, fun h1 => ⟨fun hf => ⟨by omega, fun h2 => ⟨by omega, ⟨by omega, by omega⟩, (_, _, k + 1), rfl, tk (fun _ => h1) (fun _ => h2), by simp only; omega⟩, fun h2 => ⟨⟨by omega, by omega⟩, (_, _, k + 1), rfl, sk (.inr ⟨hf, h2⟩), by simp only; omega⟩⟩, fun hf => ⟨by omega, ⟨by omega, by omega⟩, (_, _, k + 1), rfl, tk (fun _ => h1) (fun h => by rw [hf] at h; cases h), by simp only; omega⟩⟩, fun h1 => ⟨⟨by omega, by omega⟩, (_, _, k + 1), rfl, sk (.inl ⟨ha, h1⟩), by simp only; omega⟩⟩, fun ha => ⟨fun hf => ⟨by omega, fun h2 => ⟨by omega, ⟨by omega, by omega⟩, (_, _, k + 1), rfl, tk (fun h => by rw [ha] at h; cases h) (fun _ => h2), by simp only; omega⟩, fun h2 => ⟨⟨by omega, by omega⟩, (_, _, k + 1), rfl, sk (.inr ⟨hf, h2⟩), by simp only; omega⟩⟩, fun hf => ⟨by omega, ⟨by omega, by omega⟩, (_, _, k + 1), rfl, tk (fun h => by rw [ha] at h; cases h) (fun h => by rw [hf] at h; cases h), by simp only; omega⟩⟩⟩
  · have hkl' : ¬ (k : Int) < l.length := by omega
    simp (disch := first | omega | exact okFill_t rfl | exact okSize_t rfl | exact fun h => h | (simp only [World.size_alloc, World.size_drew, World.size_setCell, size_fill, bytesW]; omega)) only [go_sem, ↓reduceIte, reduceCtorEq, Nat.reduceBEq, Nat.reduceEqDiff, Nat.reduceAdd, Nat.reduceMul, Int.reduceNe, Int.reduceEq, Int.reduceLT, Int.reduceLE, Int.reduceNeg, Int.reduceAdd, Int.reduceSub, Int.reduceMul, Int.reduceToNat, beq_self_eq_true, c19, c19S0, c19S1, c19L0, c19S2, c19S3, c19L1, c19S4, c19S5, c19S6, c19S8, c19L2, hkl', storeW_fill, List.setIfInBounds_toArray, List.set_cons_zero, List.set_cons_succ, List.getElem_toArray, List.getElem_cons_zero, List.getElem_cons_succ, Nat.reduceLeDiff, Nat.reduceSub, okSt_nil, okSt_cons, fillO_some, fillO_none, cF_same, cF_blk, fF_any, size_fill, Value.oneCell', Int.toNat_natCast, Int.cast_ofNat_Int, cast0, cast1, Int.natCast_add, add_block, add_off, Classical.not_not, decide_not, Bool.not_eq_false, decide_true, decide_false, Bool.true_beq, Bool.false_beq, beq_true, beq_false, Bool.true_bne, Bool.false_bne, Bool.bne_true, Bool.bne_false, decide_eq_true_eq, Bool.not_eq_eq_eq_not, Nat.mul_one, List.size_toArray, List.length_cons, List.length_nil, Nat.le_refl, ldK_int, ldK_bool, ldK_str, ldK_slice, ldK_ptr, ldK_map, ldK_agg, ldK_other, ldO_int, ldO_bool, ldO_str, ldO_slice, ldO_ptr, ldO_map, ldO_other, ldA_some, cellsO_new, cellsO_nil, cellsC_some, cellsO_drew, cellsO_alloc, cA_add, cS_add, cA_new, cA_old, fA_new, fA_old, setO_some, cS_same, cS_off, cS_blk, World.cell?_drew, World.frozen?_drew, World.frozen?_setCell, World.size_alloc, World.size_drew, World.size_setCell, heldX_eq, heldX_add, chg_refl, chg_drew, ovr_nil, ovr_cons, Option.getD_some, Option.getD_none, Addr.add_lit, Nat.add_zero, Option.some.injEq, exists_eq', exists_eq_left', Value.int.injEq, Value.bool.injEq, Value.pointer.injEq, Value.string.injEq]
    have hkk : k = l.length := by omega
    subst hkk
    unfold Next at hn
    rw [List.take_length] at hn
    refine ⟨fun hf => ⟨⟨acc, ⟨hp.up, hp.sorts, hp.kind, fun o ho => ?_⟩, segs_rd hvs s1 (fun j s v hs hv => ?_) fun s hs => ?_⟩, s1.bel⟩, fun hf => ?_⟩
    · rcases hn with ⟨_, hn⟩ | ⟨hn, _⟩
      · rcases hp.all o ho with h' | h'
        · unfold left at h'
          rw [List.mem_filter] at h'
          obtain ⟨a1, a2⟩ := hn o ho
          rw [a1] at h'
          have := h'.2
          simp at this
          omega
        · exact h'
      · rw [hf] at hn; cases hn
    · exact (s1.inv _ (segInvs_mem acc vs j s v hs hv)).1
    · have e1 := (hp.sorts s hs).1.length_eq
      have e2 := ofObj_len s.obj l
      omega
    · rcases hn with ⟨hn, _⟩ | ⟨_, ⟨x, hx, hxe⟩, hlo, hmin⟩
      · rw [hf] at hn; cases hn
      simp (disch := first | omega | exact okFill_t rfl | exact okSize_t rfl | exact fun h => h | (simp only [World.size_alloc, World.size_drew, World.size_setCell, size_fill, bytesW]; omega)) only [go_sem, ↓reduceIte, reduceCtorEq, Nat.reduceBEq, Nat.reduceEqDiff, Nat.reduceAdd, Nat.reduceMul, Int.reduceNe, Int.reduceEq, Int.reduceLT, Int.reduceLE, Int.reduceNeg, Int.reduceAdd, Int.reduceSub, Int.reduceMul, Int.reduceToNat, beq_self_eq_true, c19, c19S0, c19S1, c19L0, c19S2, c19S3, c19L1, c19S4, c19S5, c19S7, c19S8, c19L2, storeW_fill, List.setIfInBounds_toArray, List.set_cons_zero, List.set_cons_succ, List.getElem_toArray, List.getElem_cons_zero, List.getElem_cons_succ, Nat.reduceLeDiff, Nat.reduceSub, okSt_nil, okSt_cons, fillO_some, fillO_none, cF_same, cF_blk, fF_any, size_fill, Value.oneCell', Int.toNat_natCast, Int.cast_ofNat_Int, cast0, cast1, Int.natCast_add, add_block, add_off, Classical.not_not, decide_not, Bool.not_eq_false, decide_true, decide_false, Bool.true_beq, Bool.false_beq, beq_true, beq_false, Bool.true_bne, Bool.false_bne, Bool.bne_true, Bool.bne_false, decide_eq_true_eq, Bool.not_eq_eq_eq_not, Nat.mul_one, List.size_toArray, List.length_cons, List.length_nil, Nat.le_refl, ldK_int, ldK_bool, ldK_str, ldK_slice, ldK_ptr, ldK_map, ldK_agg, ldK_other, ldO_int, ldO_bool, ldO_str, ldO_slice, ldO_ptr, ldO_map, ldO_other, ldA_some, cellsO_new, cellsO_nil, cellsC_some, cellsO_drew, cellsO_alloc, cA_add, cS_add, cA_new, cA_old, fA_new, fA_old, setO_some, cS_same, cS_off, cS_blk, World.cell?_drew, World.frozen?_drew, World.frozen?_setCell, World.size_alloc, World.size_drew, World.size_setCell, heldX_eq, heldX_add, chg_refl, chg_drew, ovr_nil, ovr_cons, Option.getD_some, Option.getD_none, Addr.add_lit, Nat.add_zero, Option.some.injEq, exists_eq', exists_eq_left', Value.int.injEq, Value.bool.injEq, Value.pointer.injEq, Value.string.injEq]
      refine W_loopU (fun y : Value × Nat => [(9, y.1), (10, .int .i64 y.2)]) (fun y w' => y.2 ≤ l.length ∧ St w w' (fun _ => False) [.row y.1 35 11 (ofObj next (l.take y.2)).length ((ofObj next (l.take y.2)).flatMap OpT.enc), .row vo 24 3 acc.length (segCells acc vs)] (segInvs acc vs)) (fun y => l.length - y.2) (.slice none 0 0, 0) rfl ⟨Nat.zero_le _, s1.nilRow 35 11⟩ ?_
      rintro ⟨v2, k⟩ w2 ⟨hk2, s2⟩
      simp only at hk2 s2
      by_cases hkl2 : k < l.length
      · have hkl2' : (k : Int) < l.length := by omega
        obtain ⟨q, rfl⟩ := h.ptr (by omega)
        have ek := h.eltB s2.bel OpT.len (by decide) hkl2
        have ck := cellsO_below s2.bel (h.at OpT.len hkl2)
        have ak := l[k].at
        have hf1 := ofObj_len next (l.take k)
        rw [List.length_take] at hf1
        have hsn := ofObj_snoc next hkl2
        simp (disch := first | omega | exact okFill_t rfl | exact okSize_t rfl | exact fun h => h | (simp only [World.size_alloc, World.size_drew, World.size_setCell, size_fill, bytesW]; omega)) only [go_sem, ↓reduceIte, reduceCtorEq, Nat.reduceBEq, Nat.reduceEqDiff, Nat.reduceAdd, Nat.reduceMul, Int.reduceNe, Int.reduceEq, Int.reduceLT, Int.reduceLE, Int.reduceNeg, Int.reduceAdd, Int.reduceSub, Int.reduceMul, Int.reduceToNat, beq_self_eq_true, c19, c19S0, c19S1, c19L0, c19S2, c19S3, c19L1, c19S4, c19S5, c19S7, c19S8, c19L2, hkl2', ek, ak, ck, storeW_fill, List.setIfInBounds_toArray, List.set_cons_zero, List.set_cons_succ, List.getElem_toArray, List.getElem_cons_zero, List.getElem_cons_succ, Nat.reduceLeDiff, Nat.reduceSub, okSt_nil, okSt_cons, fillO_some, fillO_none, cF_same, cF_blk, fF_any, size_fill, Value.oneCell', Int.toNat_natCast, Int.cast_ofNat_Int, cast0, cast1, Int.natCast_add, add_block, add_off, Classical.not_not, decide_not, Bool.not_eq_false, decide_true, decide_false, Bool.true_beq, Bool.false_beq, beq_true, beq_false, Bool.true_bne, Bool.false_bne, Bool.bne_true, Bool.bne_false, decide_eq_true_eq, Bool.not_eq_eq_eq_not, Nat.mul_one, List.size_toArray, List.length_cons, List.length_nil, Nat.le_refl, ldK_int, ldK_bool, ldK_str, ldK_slice, ldK_ptr, ldK_map, ldK_agg, ldK_other, ldO_int, ldO_bool, ldO_str, ldO_slice, ldO_ptr, ldO_map, ldO_other, ldA_some, cellsO_new, cellsO_nil, cellsC_some, cellsO_drew, cellsO_alloc, cA_add, cS_add, cA_new, cA_old, fA_new, fA_old, setO_some, cS_same, cS_off, cS_blk, World.cell?_drew, World.frozen?_drew, World.frozen?_setCell, World.size_alloc, World.size_drew, World.size_setCell, heldX_eq, heldX_add, chg_refl, chg_drew, ovr_nil, ovr_cons, Option.getD_some, Option.getD_none, Addr.add_lit, Nat.add_zero, Option.some.injEq, exists_eq', exists_eq_left', Value.int.injEq, Value.bool.injEq, Value.pointer.injEq, Value.string.injEq]
        refine ⟨by omega, fun he => ⟨by omega, bsW_agg ty22mkI rfl (by decide) (by decide) ?_⟩, fun he => ⟨⟨by omega, by omega⟩, (v2, k + 1), rfl, ⟨hkl2, ?_⟩, by simp only; omega⟩⟩
        · have hrd : Rd (w2.alloc (.cells l[k].enc.toArray 35)) 11 (.slice (some ⟨w2.heap.size, 0, none⟩) 1 1) 1 l[k].enc := rd_new (t := 35) (sz := 11) (n := 1) (cs := l[k].enc.toArray) rfl
          have s3 := s2.alloc' (.cells l[k].enc.toArray 35)
          generalize w2.alloc (.cells l[k].enc.toArray 35) = w3 at s3 hrd ⊢
          simp (disch := first | omega | exact okFill_t rfl | exact okSize_t rfl | exact fun h => h | (simp only [World.size_alloc, World.size_drew, World.size_setCell, size_fill, bytesW]; omega)) only [go_sem, ↓reduceIte, reduceCtorEq, Nat.reduceBEq, Nat.reduceEqDiff, Nat.reduceAdd, Nat.reduceMul, Int.reduceNe, Int.reduceEq, Int.reduceLT, Int.reduceLE, Int.reduceNeg, Int.reduceAdd, Int.reduceSub, Int.reduceMul, Int.reduceToNat, beq_self_eq_true, c19, c19S0, c19S1, c19L0, c19S2, c19S3, c19L1, c19S4, c19S5, c19S7, c19S8, c19L2, storeW_fill, List.setIfInBounds_toArray, List.set_cons_zero, List.set_cons_succ, List.getElem_toArray, List.getElem_cons_zero, List.getElem_cons_succ, Nat.reduceLeDiff, Nat.reduceSub, okSt_nil, okSt_cons, fillO_some, fillO_none, cF_same, cF_blk, fF_any, size_fill, Value.oneCell', Int.toNat_natCast, Int.cast_ofNat_Int, cast0, cast1, Int.natCast_add, add_block, add_off, Classical.not_not, decide_not, Bool.not_eq_false, decide_true, decide_false, Bool.true_beq, Bool.false_beq, beq_true, beq_false, Bool.true_bne, Bool.false_bne, Bool.bne_true, Bool.bne_false, decide_eq_true_eq, Bool.not_eq_eq_eq_not, Nat.mul_one, List.size_toArray, List.length_cons, List.length_nil, Nat.le_refl, ldK_int, ldK_bool, ldK_str, ldK_slice, ldK_ptr, ldK_map, ldK_agg, ldK_other, ldO_int, ldO_bool, ldO_str, ldO_slice, ldO_ptr, ldO_map, ldO_other, ldA_some, cellsO_new, cellsO_nil, cellsC_some, cellsO_drew, cellsO_alloc, cA_add, cS_add, cA_new, cA_old, fA_new, fA_old, setO_some, cS_same, cS_off, cS_blk, World.cell?_drew, World.frozen?_drew, World.frozen?_setCell, World.size_alloc, World.size_drew, World.size_setCell, heldX_eq, heldX_add, chg_refl, chg_drew, ovr_nil, ovr_cons, Option.getD_some, Option.getD_none, Addr.add_lit, Nat.add_zero, Option.some.injEq, exists_eq', exists_eq_left', Value.int.injEq, Value.bool.injEq, Value.pointer.injEq, Value.string.injEq]
          refine s3.append 0 rfl ty22mkI rfl (by decide) hrd l[k].one (by omega) (by omega) ?_
          intro v4 w4 s4 _
          simp only [List.set_cons_zero] at s4
          simp (disch := first | omega | exact okFill_t rfl | exact okSize_t rfl | exact fun h => h | (simp only [World.size_alloc, World.size_drew, World.size_setCell, size_fill, bytesW]; omega)) only [go_sem, ↓reduceIte, reduceCtorEq, Nat.reduceBEq, Nat.reduceEqDiff, Nat.reduceAdd, Nat.reduceMul, Int.reduceNe, Int.reduceEq, Int.reduceLT, Int.reduceLE, Int.reduceNeg, Int.reduceAdd, Int.reduceSub, Int.reduceMul, Int.reduceToNat, beq_self_eq_true, c19, c19S0, c19S1, c19L0, c19S2, c19S3, c19L1, c19S4, c19S5, c19S7, c19S8, c19L2, storeW_fill, List.setIfInBounds_toArray, List.set_cons_zero, List.set_cons_succ, List.getElem_toArray, List.getElem_cons_zero, List.getElem_cons_succ, Nat.reduceLeDiff, Nat.reduceSub, okSt_nil, okSt_cons, fillO_some, fillO_none, cF_same, cF_blk, fF_any, size_fill, Value.oneCell', Int.toNat_natCast, Int.cast_ofNat_Int, cast0, cast1, Int.natCast_add, add_block, add_off, Classical.not_not, decide_not, Bool.not_eq_false, decide_true, decide_false, Bool.true_beq, Bool.false_beq, beq_true, beq_false, Bool.true_bne, Bool.false_bne, Bool.bne_true, Bool.bne_false, decide_eq_true_eq, Bool.not_eq_eq_eq_not, Nat.mul_one, List.size_toArray, List.length_cons, List.length_nil, Nat.le_refl, ldK_int, ldK_bool, ldK_str, ldK_slice, ldK_ptr, ldK_map, ldK_agg, ldK_other, ldO_int, ldO_bool, ldO_str, ldO_slice, ldO_ptr, ldO_map, ldO_other, ldA_some, cellsO_new, cellsO_nil, cellsC_some, cellsO_drew, cellsO_alloc, cA_add, cS_add, cA_new, cA_old, fA_new, fA_old, setO_some, cS_same, cS_off, cS_blk, World.cell?_drew, World.frozen?_drew, World.frozen?_setCell, World.size_alloc, World.size_drew, World.size_setCell, heldX_eq, heldX_add, chg_refl, chg_drew, ovr_nil, ovr_cons, Option.getD_some, Option.getD_none, Addr.add_lit, Nat.add_zero, Option.some.injEq, exists_eq', exists_eq_left', Value.int.injEq, Value.bool.injEq, Value.pointer.injEq, Value.string.injEq]
          refine ⟨⟨by omega, by omega⟩, (v4, k + 1), rfl, ⟨hkl2, ?_⟩, by simp only; omega⟩
          simp only
          have e2 : (ofObj next (l.take k) ++ [l[k]]).length = (ofObj next (l.take k)).length + 1 := by simp
          have e3 : (ofObj next (l.take k) ++ [l[k]]).flatMap OpT.enc = (ofObj next (l.take k)).flatMap OpT.enc ++ l[k].enc := by rw [List.flatMap_append]; simp
          rw [hsn, if_pos he, e2, e3]
          exact s4
        · simp only
          rw [hsn, if_neg he, List.append_nil]
          exact s2
      · have hkl2' : ¬ (k : Int) < l.length := by omega
        simp (disch := first | omega | exact okFill_t rfl | exact okSize_t rfl | exact fun h => h | (simp only [World.size_alloc, World.size_drew, World.size_setCell, size_fill, bytesW]; omega)) only [go_sem, ↓reduceIte, reduceCtorEq, Nat.reduceBEq, Nat.reduceEqDiff, Nat.reduceAdd, Nat.reduceMul, Int.reduceNe, Int.reduceEq, Int.reduceLT, Int.reduceLE, Int.reduceNeg, Int.reduceAdd, Int.reduceSub, Int.reduceMul, Int.reduceToNat, beq_self_eq_true, c19, c19S0, c19S1, c19L0, c19S2, c19S3, c19L1, c19S4, c19S5, c19S7, c19S8, c19L2, hkl2', storeW_fill, List.setIfInBounds_toArray, List.set_cons_zero, List.set_cons_succ, List.getElem_toArray, List.getElem_cons_zero, List.getElem_cons_succ, Nat.reduceLeDiff, Nat.reduceSub, okSt_nil, okSt_cons, fillO_some, fillO_none, cF_same, cF_blk, fF_any, size_fill, Value.oneCell', Int.toNat_natCast, Int.cast_ofNat_Int, cast0, cast1, Int.natCast_add, add_block, add_off, Classical.not_not, decide_not, Bool.not_eq_false, decide_true, decide_false, Bool.true_beq, Bool.false_beq, beq_true, beq_false, Bool.true_bne, Bool.false_bne, Bool.bne_true, Bool.bne_false, decide_eq_true_eq, Bool.not_eq_eq_eq_not, Nat.mul_one, List.size_toArray, List.length_cons, List.length_nil, Nat.le_refl, ldK_int, ldK_bool, ldK_str, ldK_slice, ldK_ptr, ldK_map, ldK_agg, ldK_other, ldO_int, ldO_bool, ldO_str, ldO_slice, ldO_ptr, ldO_map, ldO_other, ldA_some, cellsO_new, cellsO_nil, cellsC_some, cellsO_drew, cellsO_alloc, cA_add, cS_add, cA_new, cA_old, fA_new, fA_old, setO_some, cS_same, cS_off, cS_blk, World.cell?_drew, World.frozen?_drew, World.frozen?_setCell, World.size_alloc, World.size_drew, World.size_setCell, heldX_eq, heldX_add, chg_refl, chg_drew, ovr_nil, ovr_cons, Option.getD_some, Option.getD_none, Addr.add_lit, Nat.add_zero, Option.some.injEq, exists_eq', exists_eq_left', Value.int.injEq, Value.bool.injEq, Value.pointer.injEq, Value.string.injEq]
        have hkk : k = l.length := by omega
        subst hkk
        rw [List.take_length] at s2
        simp (disch := first | omega | exact okFill_t rfl | exact okSize_t rfl | exact fun h => h | (simp only [World.size_alloc, World.size_drew, World.size_setCell, size_fill, bytesW]; omega)) only [go_sem, ↓reduceIte, reduceCtorEq, Nat.reduceBEq, Nat.reduceEqDiff, Nat.reduceAdd, Nat.reduceMul, Int.reduceNe, Int.reduceEq, Int.reduceLT, Int.reduceLE, Int.reduceNeg, Int.reduceAdd, Int.reduceSub, Int.reduceMul, Int.reduceToNat, beq_self_eq_true, c19, c19S0, c19S1, c19L0, c19S2, c19S3, c19L1, c19S4, c19S5, c19S6, c19S7, c19S8, c19L2, storeW_fill, List.setIfInBounds_toArray, List.set_cons_zero, List.set_cons_succ, List.getElem_toArray, List.getElem_cons_zero, List.getElem_cons_succ, Nat.reduceLeDiff, Nat.reduceSub, okSt_nil, okSt_cons, fillO_some, fillO_none, cF_same, cF_blk, fF_any, size_fill, Value.oneCell', Int.toNat_natCast, Int.cast_ofNat_Int, cast0, cast1, Int.natCast_add, add_block, add_off, Classical.not_not, decide_not, Bool.not_eq_false, decide_true, decide_false, Bool.true_beq, Bool.false_beq, beq_true, beq_false, Bool.true_bne, Bool.false_bne, Bool.bne_true, Bool.bne_false, decide_eq_true_eq, Bool.not_eq_eq_eq_not, Nat.mul_one, List.size_toArray, List.length_cons, List.length_nil, Nat.le_refl, ldK_int, ldK_bool, ldK_str, ldK_slice, ldK_ptr, ldK_map, ldK_agg, ldK_other, ldO_int, ldO_bool, ldO_str, ldO_slice, ldO_ptr, ldO_map, ldO_other, ldA_some, cellsO_new, cellsO_nil, cellsC_some, cellsO_drew, cellsO_alloc, cA_add, cS_add, cA_new, cA_old, fA_new, fA_old, setO_some, cS_same, cS_off, cS_blk, World.cell?_drew, World.frozen?_drew, World.frozen?_setCell, World.size_alloc, World.size_drew, World.size_setCell, heldX_eq, heldX_add, chg_refl, chg_drew, ovr_nil, ovr_cons, Option.getD_some, Option.getD_none, Addr.add_lit, Nat.add_zero, Option.some.injEq, exists_eq', exists_eq_left', Value.int.injEq, Value.bool.injEq, Value.pointer.injEq, Value.string.injEq]
        refine Ret.mono (sorted_ok _ _ _ (RdS.of_own (s2.row 0 rfl)) (by have := ofObj_len next l; omega)) ?_
        rintro v3 w3 ⟨⟨r, hs, o3⟩, b3⟩
        have s3 := (s2.sub (List.sublist_cons_self _ _)).add b3 (.row v3 35 11 r.length (r.flatMap OpT.enc)) (own_mono o3 s2.size) fun k hk => (o3.lt k hk).1
        have hrx : r ≠ [] := fun e => by
          have hm : x ∈ ofObj next l := by unfold ofObj; rw [List.mem_filter]; exact ⟨hx, by simpa using hxe⟩
          have := hs.1.length_eq
          rw [e] at this
          rw [List.eq_nil_of_length_eq_zero this.symm] at hm
          cases hm
        obtain ⟨o, r', rfl⟩ := List.exists_cons_of_ne_nil hrx
        have hro : RdS w3 11 OpT.enc v3 (o :: r') := RdS.of_own o3
        obtain ⟨p, cp, rfl, _⟩ := hro.form
        obtain ⟨p, rfl⟩ := hro.ptr (by simp)
        have er := hro.elt OpT.len (by decide) (show 0 < (o :: r').length by simp)
        have ar := o.at
        have e3 : w3.cell? ⟨p.block, p.off + 3, none⟩ = some (.int .i64 o.Kind) := by
          have := er.2 3 (by decide) (by decide)
          simpa [ar] using this
        simp (disch := first | omega | exact okFill_t rfl | exact okSize_t rfl | exact fun h => h | (simp only [World.size_alloc, World.size_drew, World.size_setCell, size_fill, bytesW]; omega)) only [go_sem, ↓reduceIte, reduceCtorEq, Nat.reduceBEq, Nat.reduceEqDiff, Nat.reduceAdd, Nat.reduceMul, Int.reduceNe, Int.reduceEq, Int.reduceLT, Int.reduceLE, Int.reduceNeg, Int.reduceAdd, Int.reduceSub, Int.reduceMul, Int.reduceToNat, beq_self_eq_true, c19, c19S0, c19S1, c19L0, c19S2, c19S3, c19L1, c19S4, c19S5, c19S6, c19S7, c19S8, c19L2, er, ar, e3, storeW_fill, List.setIfInBounds_toArray, List.set_cons_zero, List.set_cons_succ, List.getElem_toArray, List.getElem_cons_zero, List.getElem_cons_succ, Nat.reduceLeDiff, Nat.reduceSub, okSt_nil, okSt_cons, fillO_some, fillO_none, cF_same, cF_blk, fF_any, size_fill, Value.oneCell', Int.toNat_natCast, Int.cast_ofNat_Int, cast0, cast1, Int.natCast_add, add_block, add_off, Classical.not_not, decide_not, Bool.not_eq_false, decide_true, decide_false, Bool.true_beq, Bool.false_beq, beq_true, beq_false, Bool.true_bne, Bool.false_bne, Bool.bne_true, Bool.bne_false, decide_eq_true_eq, Bool.not_eq_eq_eq_not, Nat.mul_one, List.size_toArray, List.length_cons, List.length_nil, Nat.le_refl, ldK_int, ldK_bool, ldK_str, ldK_slice, ldK_ptr, ldK_map, ldK_agg, ldK_other, ldO_int, ldO_bool, ldO_str, ldO_slice, ldO_ptr, ldO_map, ldO_other, ldA_some, cellsO_new, cellsO_nil, cellsC_some, cellsO_drew, cellsO_alloc, cA_add, cS_add, cA_new, cA_old, fA_new, fA_old, setO_some, cS_same, cS_off, cS_blk, World.cell?_drew, World.frozen?_drew, World.frozen?_setCell, World.size_alloc, World.size_drew, World.size_setCell, heldX_eq, heldX_add, chg_refl, chg_drew, ovr_nil, ovr_cons, Option.getD_some, Option.getD_none, Addr.add_lit, Nat.add_zero, Option.some.injEq, exists_eq', exists_eq_left', Value.int.injEq, Value.bool.injEq, Value.pointer.injEq, Value.string.injEq]
        refine ⟨by omega, bdW_built (cells := (segC ⟨next, o.Kind, []⟩ (.slice (some p) (r'.length + 1) cp)).toArray) (by kernel_rfl) ?_⟩
        simp (disch := first | omega | exact okFill_t rfl | exact okSize_t rfl | exact fun h => h | (simp only [World.size_alloc, World.size_drew, World.size_setCell, size_fill, bytesW]; omega)) only [go_sem, ↓reduceIte, reduceCtorEq, Nat.reduceBEq, Nat.reduceEqDiff, Nat.reduceAdd, Nat.reduceMul, Int.reduceNe, Int.reduceEq, Int.reduceLT, Int.reduceLE, Int.reduceNeg, Int.reduceAdd, Int.reduceSub, Int.reduceMul, Int.reduceToNat, beq_self_eq_true, c19, c19S0, c19S1, c19L0, c19S2, c19S3, c19L1, c19S4, c19S5, c19S6, c19S7, c19S8, c19L2, storeW_fill, List.setIfInBounds_toArray, List.set_cons_zero, List.set_cons_succ, List.getElem_toArray, List.getElem_cons_zero, List.getElem_cons_succ, Nat.reduceLeDiff, Nat.reduceSub, okSt_nil, okSt_cons, fillO_some, fillO_none, cF_same, cF_blk, fF_any, size_fill, Value.oneCell', Int.toNat_natCast, Int.cast_ofNat_Int, cast0, cast1, Int.natCast_add, add_block, add_off, Classical.not_not, decide_not, Bool.not_eq_false, decide_true, decide_false, Bool.true_beq, Bool.false_beq, beq_true, beq_false, Bool.true_bne, Bool.false_bne, Bool.bne_true, Bool.bne_false, decide_eq_true_eq, Bool.not_eq_eq_eq_not, Nat.mul_one, List.size_toArray, List.length_cons, List.length_nil, Nat.le_refl, ldK_int, ldK_bool, ldK_str, ldK_slice, ldK_ptr, ldK_map, ldK_agg, ldK_other, ldO_int, ldO_bool, ldO_str, ldO_slice, ldO_ptr, ldO_map, ldO_other, ldA_some, cellsO_new, cellsO_nil, cellsC_some, cellsO_drew, cellsO_alloc, cA_add, cS_add, cA_new, cA_old, fA_new, fA_old, setO_some, cS_same, cS_off, cS_blk, World.cell?_drew, World.frozen?_drew, World.frozen?_setCell, World.size_alloc, World.size_drew, World.size_setCell, heldX_eq, heldX_add, chg_refl, chg_drew, ovr_nil, ovr_cons, Option.getD_some, Option.getD_none, Addr.add_lit, Nat.add_zero, Option.some.injEq, exists_eq', exists_eq_left', Value.int.injEq, Value.bool.injEq, Value.pointer.injEq, Value.string.injEq]
        refine bsW_agg ty28mkI rfl (by decide) (by decide) ?_
        have s4 := (s3.seal (.rd 11 OpT.enc (.slice (some p) (r'.length + 1) cp) (o :: r')) hro fun k hk => slFoot_own hk).alloc' (.cells (segC ⟨next, o.Kind, []⟩ (.slice (some p) (r'.length + 1) cp)).toArray 24)
        have hrd : Rd (w3.alloc (.cells (segC ⟨next, o.Kind, []⟩ (.slice (some p) (r'.length + 1) cp)).toArray 24)) 3 (.slice (some ⟨w3.heap.size, 0, none⟩) 1 1) 1 (segC ⟨next, o.Kind, []⟩ (.slice (some p) (r'.length + 1) cp)) := rd_new (t := 24) (sz := 3) (n := 1) (cs := (segC ⟨next, o.Kind, []⟩ (.slice (some p) (r'.length + 1) cp)).toArray) rfl
        generalize w3.alloc (.cells (segC ⟨next, o.Kind, []⟩ (.slice (some p) (r'.length + 1) cp)).toArray 24) = w4 at s4 hrd ⊢
        simp (disch := first | omega | exact okFill_t rfl | exact okSize_t rfl | exact fun h => h | (simp only [World.size_alloc, World.size_drew, World.size_setCell, size_fill, bytesW]; omega)) only [go_sem, ↓reduceIte, reduceCtorEq, Nat.reduceBEq, Nat.reduceEqDiff, Nat.reduceAdd, Nat.reduceMul, Int.reduceNe, Int.reduceEq, Int.reduceLT, Int.reduceLE, Int.reduceNeg, Int.reduceAdd, Int.reduceSub, Int.reduceMul, Int.reduceToNat, beq_self_eq_true, c19, c19S0, c19S1, c19L0, c19S2, c19S3, c19L1, c19S4, c19S5, c19S6, c19S7, c19S8, c19L2, storeW_fill, List.setIfInBounds_toArray, List.set_cons_zero, List.set_cons_succ, List.getElem_toArray, List.getElem_cons_zero, List.getElem_cons_succ, Nat.reduceLeDiff, Nat.reduceSub, okSt_nil, okSt_cons, fillO_some, fillO_none, cF_same, cF_blk, fF_any, size_fill, Value.oneCell', Int.toNat_natCast, Int.cast_ofNat_Int, cast0, cast1, Int.natCast_add, add_block, add_off, Classical.not_not, decide_not, Bool.not_eq_false, decide_true, decide_false, Bool.true_beq, Bool.false_beq, beq_true, beq_false, Bool.true_bne, Bool.false_bne, Bool.bne_true, Bool.bne_false, decide_eq_true_eq, Bool.not_eq_eq_eq_not, Nat.mul_one, List.size_toArray, List.length_cons, List.length_nil, Nat.le_refl, ldK_int, ldK_bool, ldK_str, ldK_slice, ldK_ptr, ldK_map, ldK_agg, ldK_other, ldO_int, ldO_bool, ldO_str, ldO_slice, ldO_ptr, ldO_map, ldO_other, ldA_some, cellsO_new, cellsO_nil, cellsC_some, cellsO_drew, cellsO_alloc, cA_add, cS_add, cA_new, cA_old, fA_new, fA_old, setO_some, cS_same, cS_off, cS_blk, World.cell?_drew, World.frozen?_drew, World.frozen?_setCell, World.size_alloc, World.size_drew, World.size_setCell, heldX_eq, heldX_add, chg_refl, chg_drew, ovr_nil, ovr_cons, Option.getD_some, Option.getD_none, Addr.add_lit, Nat.add_zero, Option.some.injEq, exists_eq', exists_eq_left', Value.int.injEq, Value.bool.injEq, Value.pointer.injEq, Value.string.injEq]
        refine s4.append 0 rfl ty28mkI rfl (by decide) hrd (by intro u hu; simp only [segC, List.mem_cons, List.not_mem_nil, or_false] at hu; rcases hu with rfl | rfl | rfl <;> rfl) (by omega) (by omega) ?_
        intro v5 w5 s5 _
        simp only [List.set_cons_zero] at s5
        simp (disch := first | omega | exact okFill_t rfl | exact okSize_t rfl | exact fun h => h | (simp only [World.size_alloc, World.size_drew, World.size_setCell, size_fill, bytesW]; omega)) only [go_sem, ↓reduceIte, reduceCtorEq, Nat.reduceBEq, Nat.reduceEqDiff, Nat.reduceAdd, Nat.reduceMul, Int.reduceNe, Int.reduceEq, Int.reduceLT, Int.reduceLE, Int.reduceNeg, Int.reduceAdd, Int.reduceSub, Int.reduceMul, Int.reduceToNat, beq_self_eq_true, c19, c19S0, c19S1, c19L0, c19S2, c19S3, c19L1, c19S4, c19S5, c19S6, c19S7, c19S8, c19L2, storeW_fill, List.setIfInBounds_toArray, List.set_cons_zero, List.set_cons_succ, List.getElem_toArray, List.getElem_cons_zero, List.getElem_cons_succ, Nat.reduceLeDiff, Nat.reduceSub, okSt_nil, okSt_cons, fillO_some, fillO_none, cF_same, cF_blk, fF_any, size_fill, Value.oneCell', Int.toNat_natCast, Int.cast_ofNat_Int, cast0, cast1, Int.natCast_add, add_block, add_off, Classical.not_not, decide_not, Bool.not_eq_false, decide_true, decide_false, Bool.true_beq, Bool.false_beq, beq_true, beq_false, Bool.true_bne, Bool.false_bne, Bool.bne_true, Bool.bne_false, decide_eq_true_eq, Bool.not_eq_eq_eq_not, Nat.mul_one, List.size_toArray, List.length_cons, List.length_nil, Nat.le_refl, ldK_int, ldK_bool, ldK_str, ldK_slice, ldK_ptr, ldK_map, ldK_agg, ldK_other, ldO_int, ldO_bool, ldO_str, ldO_slice, ldO_ptr, ldO_map, ldO_other, ldA_some, cellsO_new, cellsO_nil, cellsC_some, cellsO_drew, cellsO_alloc, cA_add, cS_add, cA_new, cA_old, fA_new, fA_old, setO_some, cS_same, cS_off, cS_blk, World.cell?_drew, World.frozen?_drew, World.frozen?_setCell, World.size_alloc, World.size_drew, World.size_setCell, heldX_eq, heldX_add, chg_refl, chg_drew, ovr_nil, ovr_cons, Option.getD_some, Option.getD_none, Addr.add_lit, Nat.add_zero, Option.some.injEq, exists_eq', exists_eq_left', Value.int.injEq, Value.bool.injEq, Value.pointer.injEq, Value.string.injEq]
        obtain ⟨p1, p2⟩ := hp.step hx hxe hlo hmin hs
        refine ⟨(v5, next, true), rfl, ⟨acc ++ [⟨next, o.Kind, o :: r'⟩], vs ++ [.slice (some p) (r'.length + 1) cp], by simp [hvs], by simp only; rw [List.length_append, List.length_singleton]; omega, ?_, p1⟩, p2⟩
        rw [List.length_append, List.length_singleton, segCells_snoc _ _ _ _ hvs]
        refine St.inv_sub s5 fun a ha => ?_
        rcases (segInvs_snoc acc vs _ _ hvs a).1 ha with rfl | ha
        · exact List.mem_cons_self
        · exact List.mem_cons_of_mem _ ha
end Go.Proofs.Ytobamkckamnmoaa
