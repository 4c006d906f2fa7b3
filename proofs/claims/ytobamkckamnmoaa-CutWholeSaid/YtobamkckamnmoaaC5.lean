/- Sorting a row of the walk's own. -/
import Derived.Test.YtobamkckamnmoaaC4
namespace Go.Proofs.Ytobamkckamnmoaa
set_option linter.unusedSimpArgs false
set_option linter.unusedVariables false
set_option maxRecDepth 100000
open Go Go.Ann Go.RowKit
theorem sortnil1 (fv : Value) (w : World) : Ret Try.prog 84 [.slice none 0 0, .int .i64 0, .int .i64 0, fv] w fun u w' => w' = w := by
  refine ent84 _ _ _ _ _ _ ?_
  simp (disch := first | omega | exact okFill_t rfl | exact okSize_t rfl | exact fun h => h | (simp only [World.size_alloc, World.size_drew, World.size_setCell, size_fill, bytesW]; omega)) only [go_sem, ↓reduceIte, reduceCtorEq, Nat.reduceBEq, Nat.reduceEqDiff, Nat.reduceAdd, Nat.reduceMul, Int.reduceNe, Int.reduceEq, Int.reduceLT, Int.reduceLE, Int.reduceNeg, Int.reduceAdd, Int.reduceSub, Int.reduceMul, Int.reduceToNat, beq_self_eq_true, c84, c84S0, c84S1, c84S2, c84L0, c84S3, c84S4, c84L1, storeW_fill, List.setIfInBounds_toArray, List.set_cons_zero, List.set_cons_succ, List.getElem_toArray, List.getElem_cons_zero, List.getElem_cons_succ, Nat.reduceLeDiff, Nat.reduceSub, okSt_nil, okSt_cons, fillO_some, fillO_none, cF_same, cF_blk, fF_any, size_fill, Value.oneCell', Int.toNat_natCast, Int.cast_ofNat_Int, cast0, cast1, Int.natCast_add, add_block, add_off, Classical.not_not, decide_not, Bool.not_eq_false, decide_true, decide_false, Bool.true_beq, Bool.false_beq, beq_true, beq_false, Bool.true_bne, Bool.false_bne, Bool.bne_true, Bool.bne_false, decide_eq_true_eq, Bool.not_eq_eq_eq_not, Nat.mul_one, List.size_toArray, List.length_cons, List.length_nil, Nat.le_refl, ldK_int, ldK_bool, ldK_str, ldK_slice, ldK_ptr, ldK_map, ldK_agg, ldK_other, ldO_int, ldO_bool, ldO_str, ldO_slice, ldO_ptr, ldO_map, ldO_other, ldA_some, cellsO_new, cellsO_nil, cellsC_some, cellsO_drew, cellsO_alloc, cA_add, cS_add, cA_new, cA_old, fA_new, fA_old, setO_some, cS_same, cS_off, cS_blk, World.cell?_drew, World.frozen?_drew, World.frozen?_setCell, World.size_alloc, World.size_drew, World.size_setCell, heldX_eq, heldX_add, chg_refl, chg_drew, ovr_nil, ovr_cons, Option.getD_some, Option.getD_none, Addr.add_lit, Nat.add_zero, Option.some.injEq, exists_eq', exists_eq_left', Value.int.injEq, Value.bool.injEq, Value.pointer.injEq, Value.string.injEq]
  refine ⟨⟨by decide, by decide⟩, ?_⟩
  refine W_loopU (fun _ : Unit => []) (fun _ w' => w' = w) (fun _ => 0) () rfl rfl ?_
  rintro _ _ rfl
  simp (disch := first | omega | exact okFill_t rfl | exact okSize_t rfl | exact fun h => h | (simp only [World.size_alloc, World.size_drew, World.size_setCell, size_fill, bytesW]; omega)) only [go_sem, ↓reduceIte, reduceCtorEq, Nat.reduceBEq, Nat.reduceEqDiff, Nat.reduceAdd, Nat.reduceMul, Int.reduceNe, Int.reduceEq, Int.reduceLT, Int.reduceLE, Int.reduceNeg, Int.reduceAdd, Int.reduceSub, Int.reduceMul, Int.reduceToNat, beq_self_eq_true, c84, c84S0, c84S1, c84S2, c84L0, c84S3, c84S4, c84L1, storeW_fill, List.setIfInBounds_toArray, List.set_cons_zero, List.set_cons_succ, List.getElem_toArray, List.getElem_cons_zero, List.getElem_cons_succ, Nat.reduceLeDiff, Nat.reduceSub, okSt_nil, okSt_cons, fillO_some, fillO_none, cF_same, cF_blk, fF_any, size_fill, Value.oneCell', Int.toNat_natCast, Int.cast_ofNat_Int, cast0, cast1, Int.natCast_add, add_block, add_off, Classical.not_not, decide_not, Bool.not_eq_false, decide_true, decide_false, Bool.true_beq, Bool.false_beq, beq_true, beq_false, Bool.true_bne, Bool.false_bne, Bool.bne_true, Bool.bne_false, decide_eq_true_eq, Bool.not_eq_eq_eq_not, Nat.mul_one, List.size_toArray, List.length_cons, List.length_nil, Nat.le_refl, ldK_int, ldK_bool, ldK_str, ldK_slice, ldK_ptr, ldK_map, ldK_agg, ldK_other, ldO_int, ldO_bool, ldO_str, ldO_slice, ldO_ptr, ldO_map, ldO_other, ldA_some, cellsO_new, cellsO_nil, cellsC_some, cellsO_drew, cellsO_alloc, cA_add, cS_add, cA_new, cA_old, fA_new, fA_old, setO_some, cS_same, cS_off, cS_blk, World.cell?_drew, World.frozen?_drew, World.frozen?_setCell, World.size_alloc, World.size_drew, World.size_setCell, heldX_eq, heldX_add, chg_refl, chg_drew, ovr_nil, ovr_cons, Option.getD_some, Option.getD_none, Addr.add_lit, Nat.add_zero, Option.some.injEq, exists_eq', exists_eq_left', Value.int.injEq, Value.bool.injEq, Value.pointer.injEq, Value.string.injEq]
theorem sortnil2 (fv : Value) (l : Int) (w : World) : Ret Try.prog 65 [.slice none 0 0, .int .i64 0, .int .i64 0, .int .i64 l, fv] w fun u w' => w' = w := by
  refine ent65 _ _ _ _ _ _ _ ?_
  simp (disch := first | omega | exact okFill_t rfl | exact okSize_t rfl | exact fun h => h | (simp only [World.size_alloc, World.size_drew, World.size_setCell, size_fill, bytesW]; omega)) only [go_sem, ↓reduceIte, reduceCtorEq, Nat.reduceBEq, Nat.reduceEqDiff, Nat.reduceAdd, Nat.reduceMul, Int.reduceNe, Int.reduceEq, Int.reduceLT, Int.reduceLE, Int.reduceNeg, Int.reduceAdd, Int.reduceSub, Int.reduceMul, Int.reduceToNat, beq_self_eq_true, c65, c65S0, c65S1, c65S2, c65S3, c65S4, c65S5, c65S6, c65S7, c65S8, c65S9, c65S10, c65S11, c65S12, c65S13, c65S14, c65S15, c65S16, c65L0, storeW_fill, List.setIfInBounds_toArray, List.set_cons_zero, List.set_cons_succ, List.getElem_toArray, List.getElem_cons_zero, List.getElem_cons_succ, Nat.reduceLeDiff, Nat.reduceSub, okSt_nil, okSt_cons, fillO_some, fillO_none, cF_same, cF_blk, fF_any, size_fill, Value.oneCell', Int.toNat_natCast, Int.cast_ofNat_Int, cast0, cast1, Int.natCast_add, add_block, add_off, Classical.not_not, decide_not, Bool.not_eq_false, decide_true, decide_false, Bool.true_beq, Bool.false_beq, beq_true, beq_false, Bool.true_bne, Bool.false_bne, Bool.bne_true, Bool.bne_false, decide_eq_true_eq, Bool.not_eq_eq_eq_not, Nat.mul_one, List.size_toArray, List.length_cons, List.length_nil, Nat.le_refl, ldK_int, ldK_bool, ldK_str, ldK_slice, ldK_ptr, ldK_map, ldK_agg, ldK_other, ldO_int, ldO_bool, ldO_str, ldO_slice, ldO_ptr, ldO_map, ldO_other, ldA_some, cellsO_new, cellsO_nil, cellsC_some, cellsO_drew, cellsO_alloc, cA_add, cS_add, cA_new, cA_old, fA_new, fA_old, setO_some, cS_same, cS_off, cS_blk, World.cell?_drew, World.frozen?_drew, World.frozen?_setCell, World.size_alloc, World.size_drew, World.size_setCell, heldX_eq, heldX_add, chg_refl, chg_drew, ovr_nil, ovr_cons, Option.getD_some, Option.getD_none, Addr.add_lit, Nat.add_zero, Option.some.injEq, exists_eq', exists_eq_left', Value.int.injEq, Value.bool.injEq, Value.pointer.injEq, Value.string.injEq]
  refine W_loopU (fun _ : Unit => []) (fun _ w' => w' = w) (fun _ => 0) () rfl rfl ?_
  rintro _ _ rfl
  simp (disch := first | omega | exact okFill_t rfl | exact okSize_t rfl | exact fun h => h | (simp only [World.size_alloc, World.size_drew, World.size_setCell, size_fill, bytesW]; omega)) only [go_sem, ↓reduceIte, reduceCtorEq, Nat.reduceBEq, Nat.reduceEqDiff, Nat.reduceAdd, Nat.reduceMul, Int.reduceNe, Int.reduceEq, Int.reduceLT, Int.reduceLE, Int.reduceNeg, Int.reduceAdd, Int.reduceSub, Int.reduceMul, Int.reduceToNat, beq_self_eq_true, c65, c65S0, c65S1, c65S2, c65S3, c65S4, c65S5, c65S6, c65S7, c65S8, c65S9, c65S10, c65S11, c65S12, c65S13, c65S14, c65S15, c65S16, c65L0, storeW_fill, List.setIfInBounds_toArray, List.set_cons_zero, List.set_cons_succ, List.getElem_toArray, List.getElem_cons_zero, List.getElem_cons_succ, Nat.reduceLeDiff, Nat.reduceSub, okSt_nil, okSt_cons, fillO_some, fillO_none, cF_same, cF_blk, fF_any, size_fill, Value.oneCell', Int.toNat_natCast, Int.cast_ofNat_Int, cast0, cast1, Int.natCast_add, add_block, add_off, Classical.not_not, decide_not, Bool.not_eq_false, decide_true, decide_false, Bool.true_beq, Bool.false_beq, beq_true, beq_false, Bool.true_bne, Bool.false_bne, Bool.bne_true, Bool.bne_false, decide_eq_true_eq, Bool.not_eq_eq_eq_not, Nat.mul_one, List.size_toArray, List.length_cons, List.length_nil, Nat.le_refl, ldK_int, ldK_bool, ldK_str, ldK_slice, ldK_ptr, ldK_map, ldK_agg, ldK_other, ldO_int, ldO_bool, ldO_str, ldO_slice, ldO_ptr, ldO_map, ldO_other, ldA_some, cellsO_new, cellsO_nil, cellsC_some, cellsO_drew, cellsO_alloc, cA_add, cS_add, cA_new, cA_old, fA_new, fA_old, setO_some, cS_same, cS_off, cS_blk, World.cell?_drew, World.frozen?_drew, World.frozen?_setCell, World.size_alloc, World.size_drew, World.size_setCell, heldX_eq, heldX_add, chg_refl, chg_drew, ovr_nil, ovr_cons, Option.getD_some, Option.getD_none, Addr.add_lit, Nat.add_zero, Option.some.injEq, exists_eq', exists_eq_left', Value.int.injEq, Value.bool.injEq, Value.pointer.injEq, Value.string.injEq]
  refine ⟨⟨by decide, by decide⟩, Ret.mono (sortnil1 _ _) ?_⟩
  rintro _ _ rfl
  simp (disch := first | omega | exact okFill_t rfl | exact okSize_t rfl | exact fun h => h | (simp only [World.size_alloc, World.size_drew, World.size_setCell, size_fill, bytesW]; omega)) only [go_sem, ↓reduceIte, reduceCtorEq, Nat.reduceBEq, Nat.reduceEqDiff, Nat.reduceAdd, Nat.reduceMul, Int.reduceNe, Int.reduceEq, Int.reduceLT, Int.reduceLE, Int.reduceNeg, Int.reduceAdd, Int.reduceSub, Int.reduceMul, Int.reduceToNat, beq_self_eq_true, c65, c65S0, c65S1, c65S2, c65S3, c65S4, c65S5, c65S6, c65S7, c65S8, c65S9, c65S10, c65S11, c65S12, c65S13, c65S14, c65S15, c65S16, c65L0, storeW_fill, List.setIfInBounds_toArray, List.set_cons_zero, List.set_cons_succ, List.getElem_toArray, List.getElem_cons_zero, List.getElem_cons_succ, Nat.reduceLeDiff, Nat.reduceSub, okSt_nil, okSt_cons, fillO_some, fillO_none, cF_same, cF_blk, fF_any, size_fill, Value.oneCell', Int.toNat_natCast, Int.cast_ofNat_Int, cast0, cast1, Int.natCast_add, add_block, add_off, Classical.not_not, decide_not, Bool.not_eq_false, decide_true, decide_false, Bool.true_beq, Bool.false_beq, beq_true, beq_false, Bool.true_bne, Bool.false_bne, Bool.bne_true, Bool.bne_false, decide_eq_true_eq, Bool.not_eq_eq_eq_not, Nat.mul_one, List.size_toArray, List.length_cons, List.length_nil, Nat.le_refl, ldK_int, ldK_bool, ldK_str, ldK_slice, ldK_ptr, ldK_map, ldK_agg, ldK_other, ldO_int, ldO_bool, ldO_str, ldO_slice, ldO_ptr, ldO_map, ldO_other, ldA_some, cellsO_new, cellsO_nil, cellsC_some, cellsO_drew, cellsO_alloc, cA_add, cS_add, cA_new, cA_old, fA_new, fA_old, setO_some, cS_same, cS_off, cS_blk, World.cell?_drew, World.frozen?_drew, World.frozen?_setCell, World.size_alloc, World.size_drew, World.size_setCell, heldX_eq, heldX_add, chg_refl, chg_drew, ovr_nil, ovr_cons, Option.getD_some, Option.getD_none, Addr.add_lit, Nat.add_zero, Option.some.injEq, exists_eq', exists_eq_left', Value.int.injEq, Value.bool.injEq, Value.pointer.injEq, Value.string.injEq]
theorem sortnil (fv : Value) (w : World) : Ret Try.prog 35 [.slice none 0 0, fv] w fun u w' => w' = w := by
  refine ent35 _ _ _ _ ?_
  simp (disch := first | omega | exact okFill_t rfl | exact okSize_t rfl | exact fun h => h | (simp only [World.size_alloc, World.size_drew, World.size_setCell, size_fill, bytesW]; omega)) only [go_sem, ↓reduceIte, reduceCtorEq, Nat.reduceBEq, Nat.reduceEqDiff, Nat.reduceAdd, Nat.reduceMul, Int.reduceNe, Int.reduceEq, Int.reduceLT, Int.reduceLE, Int.reduceNeg, Int.reduceAdd, Int.reduceSub, Int.reduceMul, Int.reduceToNat, beq_self_eq_true, c35, storeW_fill, List.setIfInBounds_toArray, List.set_cons_zero, List.set_cons_succ, List.getElem_toArray, List.getElem_cons_zero, List.getElem_cons_succ, Nat.reduceLeDiff, Nat.reduceSub, okSt_nil, okSt_cons, fillO_some, fillO_none, cF_same, cF_blk, fF_any, size_fill, Value.oneCell', Int.toNat_natCast, Int.cast_ofNat_Int, cast0, cast1, Int.natCast_add, add_block, add_off, Classical.not_not, decide_not, Bool.not_eq_false, decide_true, decide_false, Bool.true_beq, Bool.false_beq, beq_true, beq_false, Bool.true_bne, Bool.false_bne, Bool.bne_true, Bool.bne_false, decide_eq_true_eq, Bool.not_eq_eq_eq_not, Nat.mul_one, List.size_toArray, List.length_cons, List.length_nil, Nat.le_refl, ldK_int, ldK_bool, ldK_str, ldK_slice, ldK_ptr, ldK_map, ldK_agg, ldK_other, ldO_int, ldO_bool, ldO_str, ldO_slice, ldO_ptr, ldO_map, ldO_other, ldA_some, cellsO_new, cellsO_nil, cellsC_some, cellsO_drew, cellsO_alloc, cA_add, cS_add, cA_new, cA_old, fA_new, fA_old, setO_some, cS_same, cS_off, cS_blk, World.cell?_drew, World.frozen?_drew, World.frozen?_setCell, World.size_alloc, World.size_drew, World.size_setCell, heldX_eq, heldX_add, chg_refl, chg_drew, ovr_nil, ovr_cons, Option.getD_some, Option.getD_none, Addr.add_lit, Nat.add_zero, Option.some.injEq, exists_eq', exists_eq_left', Value.int.injEq, Value.bool.injEq, Value.pointer.injEq, Value.string.injEq]
  refine ⟨by kernel_rfl, ?_⟩
  have hb := Any.bits_Len (SlLaysF0.n15.bits (P := Try.prog) (ρ := laySortOps_ren) { laySortOps with }) 0 w (by omega) (by omega)
  have hb' : Ret Try.prog 66 [.int .u64 (IntKind.u64.wrap 0)] w fun u w' => u = .int .i64 (Lib.bitLen 0 : Nat) ∧ w' = w := hb.mono fun e w' ⟨h1, h2⟩ => ⟨_, h1, rfl, h2⟩
  refine Ret.mono hb' ?_
  rintro _ _ ⟨rfl, rfl⟩
  simp (disch := first | omega | exact okFill_t rfl | exact okSize_t rfl | exact fun h => h | (simp only [World.size_alloc, World.size_drew, World.size_setCell, size_fill, bytesW]; omega)) only [go_sem, ↓reduceIte, reduceCtorEq, Nat.reduceBEq, Nat.reduceEqDiff, Nat.reduceAdd, Nat.reduceMul, Int.reduceNe, Int.reduceEq, Int.reduceLT, Int.reduceLE, Int.reduceNeg, Int.reduceAdd, Int.reduceSub, Int.reduceMul, Int.reduceToNat, beq_self_eq_true, c35, storeW_fill, List.setIfInBounds_toArray, List.set_cons_zero, List.set_cons_succ, List.getElem_toArray, List.getElem_cons_zero, List.getElem_cons_succ, Nat.reduceLeDiff, Nat.reduceSub, okSt_nil, okSt_cons, fillO_some, fillO_none, cF_same, cF_blk, fF_any, size_fill, Value.oneCell', Int.toNat_natCast, Int.cast_ofNat_Int, cast0, cast1, Int.natCast_add, add_block, add_off, Classical.not_not, decide_not, Bool.not_eq_false, decide_true, decide_false, Bool.true_beq, Bool.false_beq, beq_true, beq_false, Bool.true_bne, Bool.false_bne, Bool.bne_true, Bool.bne_false, decide_eq_true_eq, Bool.not_eq_eq_eq_not, Nat.mul_one, List.size_toArray, List.length_cons, List.length_nil, Nat.le_refl, ldK_int, ldK_bool, ldK_str, ldK_slice, ldK_ptr, ldK_map, ldK_agg, ldK_other, ldO_int, ldO_bool, ldO_str, ldO_slice, ldO_ptr, ldO_map, ldO_other, ldA_some, cellsO_new, cellsO_nil, cellsC_some, cellsO_drew, cellsO_alloc, cA_add, cS_add, cA_new, cA_old, fA_new, fA_old, setO_some, cS_same, cS_off, cS_blk, World.cell?_drew, World.frozen?_drew, World.frozen?_setCell, World.size_alloc, World.size_drew, World.size_setCell, heldX_eq, heldX_add, chg_refl, chg_drew, ovr_nil, ovr_cons, Option.getD_some, Option.getD_none, Addr.add_lit, Nat.add_zero, Option.some.injEq, exists_eq', exists_eq_left', Value.int.injEq, Value.bool.injEq, Value.pointer.injEq, Value.string.injEq]
  refine Ret.mono (sortnil2 _ _ _) ?_
  rintro _ _ rfl
  simp (disch := first | omega | exact okFill_t rfl | exact okSize_t rfl | exact fun h => h | (simp only [World.size_alloc, World.size_drew, World.size_setCell, size_fill, bytesW]; omega)) only [go_sem, ↓reduceIte, reduceCtorEq, Nat.reduceBEq, Nat.reduceEqDiff, Nat.reduceAdd, Nat.reduceMul, Int.reduceNe, Int.reduceEq, Int.reduceLT, Int.reduceLE, Int.reduceNeg, Int.reduceAdd, Int.reduceSub, Int.reduceMul, Int.reduceToNat, beq_self_eq_true, c35, storeW_fill, List.setIfInBounds_toArray, List.set_cons_zero, List.set_cons_succ, List.getElem_toArray, List.getElem_cons_zero, List.getElem_cons_succ, Nat.reduceLeDiff, Nat.reduceSub, okSt_nil, okSt_cons, fillO_some, fillO_none, cF_same, cF_blk, fF_any, size_fill, Value.oneCell', Int.toNat_natCast, Int.cast_ofNat_Int, cast0, cast1, Int.natCast_add, add_block, add_off, Classical.not_not, decide_not, Bool.not_eq_false, decide_true, decide_false, Bool.true_beq, Bool.false_beq, beq_true, beq_false, Bool.true_bne, Bool.false_bne, Bool.bne_true, Bool.bne_false, decide_eq_true_eq, Bool.not_eq_eq_eq_not, Nat.mul_one, List.size_toArray, List.length_cons, List.length_nil, Nat.le_refl, ldK_int, ldK_bool, ldK_str, ldK_slice, ldK_ptr, ldK_map, ldK_agg, ldK_other, ldO_int, ldO_bool, ldO_str, ldO_slice, ldO_ptr, ldO_map, ldO_other, ldA_some, cellsO_new, cellsO_nil, cellsC_some, cellsO_drew, cellsO_alloc, cA_add, cS_add, cA_new, cA_old, fA_new, fA_old, setO_some, cS_same, cS_off, cS_blk, World.cell?_drew, World.frozen?_drew, World.frozen?_setCell, World.size_alloc, World.size_drew, World.size_setCell, heldX_eq, heldX_add, chg_refl, chg_drew, ovr_nil, ovr_cons, Option.getD_some, Option.getD_none, Addr.add_lit, Nat.add_zero, Option.some.injEq, exists_eq', exists_eq_left', Value.int.injEq, Value.bool.injEq, Value.pointer.injEq, Value.string.injEq]
theorem flatK_eq {α : Type} [Inhabited α] {enc : α → List Value} {k : Nat} (hk : ∀ x, (enc x).length = k) (d : Array α) : (Go.Sort.flatK enc k d).toList = d.toList.flatMap enc := by
  have hl : (d.toList.flatMap enc).length = d.size * k := by
    rw [List.length_flatMap, ← Array.length_toList]
    generalize d.toList = l
    induction l with
    | nil => simp
    | cons a l ih => rw [List.map_cons, List.sum_cons, ih, hk, List.length_cons, Nat.add_mul]; omega
  refine List.ext_getElem (by rw [hl, Array.length_toList, Go.Sort.size_flatK]) fun t h1 h2 => ?_
  have ht : t < d.size * k := by omega
  have hk0 : 0 < k := Nat.pos_of_ne_zero fun h => by subst h; omega
  have hi : t / k < d.size := (Nat.div_lt_iff_lt_mul hk0).2 ht
  have hj : t % k < k := Nat.mod_lt _ hk0
  have a := Go.Sort.get_flatK enc k d t ht
  rw [getElem!_pos d _ hi, getElem!_pos (enc _) _ (by rw [hk]; exact hj), getElem!_pos _ _ (by rw [Go.Sort.size_flatK]; exact ht)] at a
  rw [Array.getElem_toList, a]
  have b := flatten_at (sz := k) (d.toList.map enc) (t / k) (t % k) (enc d[t / k]) ((enc d[t / k])[t % k]'(by rw [hk]; exact hj)) (fun c hc => by obtain ⟨x, _, rfl⟩ := List.mem_map.1 hc; exact hk x) (by rw [List.getElem?_map, List.getElem?_eq_getElem (by simpa using hi)]; rfl) (List.getElem?_eq_getElem _)
  rw [show t / k * k + t % k = t by rw [Nat.mul_comm]; exact Nat.div_add_mod t k] at b
  have c : (d.toList.flatMap enc)[t]? = some ((enc d[t / k])[t % k]'(by rw [hk]; exact hj)) := b
  rw [List.getElem?_eq_getElem h2] at c
  exact (Option.some.inj c).symm
theorem own_holdsK {α : Type} [Inhabited α] {enc : α → List Value} {k B e g n cap : Nat} {w : World} {d : Array α} (hk : ∀ x, (enc x).length = k) (hd : d.size = n) (h : w.ownsRow B e k (.slice (some ⟨g, 0, none⟩) n cap) n (d.toList.flatMap enc)) :
    Go.Sort.HoldsK enc k w g 0 d := by
  obtain ⟨hl, ⟨h0, _⟩ | ⟨g', cap', cur, he, hB, hb, hc, hm, hs, hx⟩⟩ := h
  · cases h0
  cases he
  have hblk : Blk w g cur e := hb
  intro j hj
  rw [Go.Sort.size_flatK] at hj
  have hj' : j < (Go.Sort.flatK enc k d).size := by rw [Go.Sort.size_flatK]; exact hj
  refine ⟨?_, hblk.frozen _⟩
  rw [hblk.cell, Nat.zero_add, getElem!_pos (Go.Sort.flatK enc k d) j hj']
  have e1 := flatK_eq hk d
  rw [← hx] at e1
  have e2 : (Go.Sort.flatK enc k d).toList[j]? = (cur.toList.take (n * k))[j]? := by rw [e1]
  rw [List.getElem?_take_of_lt (by rw [← hd]; exact hj), Array.getElem?_toList, Array.getElem?_toList, Array.getElem?_eq_getElem hj'] at e2
  exact e2.symm
theorem own_sorted {α : Type} [Inhabited α] {enc : α → List Value} {k B e g n cap : Nat} {w : World} {d : Array α} (hk : ∀ x, (enc x).length = k) (hd : d.size = n) (h : w.ownsRow B e k (.slice (some ⟨g, 0, none⟩) n cap) n (d.toList.flatMap enc))
    (m : Nat) (d' : Array α) (os : Array Obj) (hd' : d'.size = n) : (sortWorldK enc k w g 0 m d' os).ownsRow B e k (.slice (some ⟨g, 0, none⟩) n cap) n (d'.toList.flatMap enc) ∧ Chg (fun k => k = g) w (sortWorldK enc k w g 0 m d' os) := by
  obtain ⟨hl, ⟨h0, _⟩ | ⟨g', cap', cur, he, hB, hb, hc, hm, hs, hx⟩⟩ := h
  · cases h0
  cases he
  have hg : g < w.heap.size := (Array.getElem?_eq_some_iff.1 hb).1
  have hh : (sortWorldK enc k w g 0 m d' os).heap = w.heap.modify g (Go.Sort.onCells (Go.Sort.putCells id 0 (Go.Sort.flatK enc k d'))) ++ os := rfl
  have hgb : (sortWorldK enc k w g 0 m d' os).heap[g]? = some (.cells (Go.Sort.putCells id 0 (Go.Sort.flatK enc k d') cur) e (0, 0)) := by
    rw [hh, Array.getElem?_append_left (by rw [Array.size_modify]; exact hg), Array.getElem?_modify, if_pos rfl, hb]
    rfl
  have e1 := flatK_eq hk d'
  have hle : n * k ≤ cap * k := Nat.mul_le_mul_right _ hc
  refine ⟨⟨by rw [← e1, Array.length_toList, Go.Sort.size_flatK, hd'], .inr ⟨g, cap, _, rfl, hB, hgb, hc, hm, by unfold Go.Sort.putCells; rw [Array.size_mapIdx]; exact hs, ?_⟩⟩, rfl, rfl, rfl, ?_, fun j hj hne => ?_⟩
  · rw [← e1]
    refine List.ext_getElem (by simp only [Go.Sort.putCells, List.length_take, Array.length_toList, Array.size_mapIdx, Go.Sort.size_flatK, hs, hd']; omega) fun t h1 h2 => ?_
    rw [Array.length_toList, Go.Sort.size_flatK, hd'] at h2
    rw [List.getElem_take, Array.getElem_toList, Array.getElem_toList]
    unfold Go.Sort.putCells
    rw [Array.getElem_mapIdx, if_pos ⟨Nat.zero_le _, by rw [Go.Sort.size_flatK, hd']; omega⟩, Nat.sub_zero, getElem!_pos (Go.Sort.flatK enc k d') t (by rw [Go.Sort.size_flatK, hd']; exact h2)]
    rfl
  · rw [hh, Array.size_append, Array.size_modify]; omega
  · rw [hh, Array.getElem?_append_left (by rw [Array.size_modify]; exact hj), Array.getElem?_modify, if_neg (fun e => hne e.symm)]
instance : Inhabited OpT := ⟨⟨0, 0, 0, 0, 0, 0, 0, false, 0, 0, 0⟩⟩
/-- What sorting makes. -/
def Sorts (cf : OpT → OpT → Int) (l l' : List OpT) : Prop := l'.Perm l ∧ l'.Pairwise fun a b => ¬ cf b a < 0
theorem sort_ok (cf : OpT → OpT → Int) (g : Nat) (eg : ∀ args w, (callFunc g args).run Try.prog w = .ok (.enter g args) w) (hO : Go.Sort.SWO (ltOf cf)) (hf : ∀ a b w, Ret Try.prog g [.agg a.enc.toArray, .agg b.enc.toArray] w fun u w' => u = .int .i64 (cf a b) ∧ Gr w w')
    (v : Value) (l : List OpT) (w : World) (B : Nat) (h : w.ownsRow B 35 11 v l.length (l.flatMap OpT.enc)) (hl : l.length ≤ 100) :
    Ret Try.prog 35 [v, .func (.func g) #[] #[]] w fun _ w' => ∃ l', Sorts cf l l' ∧ w'.ownsRow B 35 11 v l.length (l'.flatMap OpT.enc) ∧ Chg (fun k => v.ownBlock = some k) w w' := by
  obtain ⟨hlen, ⟨rfl, h0⟩ | ⟨g', cap, cur, rfl, hB, hb, hc, hm, hs, hx⟩⟩ := id h
  · refine Ret.mono (sortnil _ _) ?_
    rintro _ _ rfl
    have hl0 : l = [] := List.eq_nil_of_length_eq_zero h0
    subst hl0
    exact ⟨[], ⟨List.Perm.refl _, List.Pairwise.nil⟩, h, Chg.refl _ _⟩
  have hcl : CmpLays Try.prog g #[] OpT.enc 11 cf g' 0 l.toArray.size w := fun m os dk hdk x y => by
    have e := hf x y (sortWorldK OpT.enc 11 w g' 0 m dk os)
    unfold Ret at e
    rw [Array.append_empty]
    exact e.mono fun e w' ⟨u, h1, h2, h3⟩ => ⟨by rw [h1, h2], h3⟩
  have hH : Go.Sort.HoldsK OpT.enc 11 w g' 0 l.toArray := own_holdsK OpT.len (by simp) h
  have hs := AnyQ.slices_SortFunc laySortOps 11 Try.isAgg35 Try.sizeOf35 OpT.enc OpT.len OpT.one cf hO g #[] g' 0 cap l.toArray w eg hcl hH (Array.getElem?_eq_some_iff.1 hb).1 (by simp; omega)
  refine hs.mono ?_
  rintro e w' ⟨rfl, d', n, os, hp, hs, rfl⟩
  have hsz : d'.size = l.length := hp.1
  obtain ⟨o1, o2⟩ := own_sorted OpT.len (by simp) (show w.ownsRow B 35 11 (.slice (some ⟨g', 0, none⟩) l.length cap) l.length (l.toArray.toList.flatMap OpT.enc) from h) n d' os hsz
  refine ⟨_, rfl, d'.toList, ⟨?_, ?_⟩, o1, o2.mono fun k _ e => by rw [e]; rfl⟩
  · have := hp.2.2
    simp only [List.size_toArray] at this
    rw [Array.extract_eq_self_of_le (by omega), Array.extract_eq_self_of_le (by simp)] at this
    exact this
  · rw [List.pairwise_iff_getElem]
    intro i j hi hj hij
    have := hs i j (Nat.zero_le _) hij (by simpa [hsz] using hj)
    rw [getElem!_pos d' i (by simpa using hi), getElem!_pos d' j (by simpa using hj)] at this
    simpa [ltOf] using this
end Go.Proofs.Ytobamkckamnmoaa
