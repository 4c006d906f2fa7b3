/- Contracts over the document's disk, on. -/
import Derived.Test.YtlaflmkgfafhpaaB11
namespace Go.Proofs.Ytlaflmkgfafhpaa
set_option linter.unusedSimpArgs false
set_option linter.unusedVariables false
open Go Go.Ann Go.RowKit

theorem readN_e (m : Dk) (i : Int) : (readN m i).2 = readyN m i := by
  unfold readN; split
  · rename_i h; rw [h]
  · rfl
theorem useN_left {m : Dk} (h : I64 m.left) : I64 (useN m).1.left := by
  unfold useN I64 at *
  split
  · exact h
  · split
    · simp only; omega
    · exact h
/-- What a call of the document's disk hands back: its slices lie where the elder ones do, or are new. -/
def ROut (w w' : World) (vs vl : Value) (m : Dk) (v : Value) : Prop :=
  ∃ vs' vl', v = .agg #[vs', vl', .int .i64 m.left, .bool m.gone] ∧ RdS w' 1 enc1 vs' m.safe ∧ RdS w' 2 pendV vl' m.late ∧ (∀ k, slFoot vs' k → slFoot vs k ∨ w.heap.size ≤ k) ∧ (∀ k, slFoot vl' k → slFoot vl k ∨ w.heap.size ≤ k) ∧ Below w.heap.size w w'
theorem enc1_one : ∀ (l : List (List UInt8)), ∀ u ∈ l.flatMap enc1, u.oneCell' = true := by
  intro l u hu; rw [enc1_flat] at hu; unfold strsV at hu; obtain ⟨x, _, rfl⟩ := List.mem_map.1 hu; rfl
theorem pendV_one : ∀ (l : List (Int × List UInt8)), ∀ u ∈ l.flatMap pendV, u.oneCell' = true := by
  intro l u hu
  obtain ⟨x, _, hx⟩ := List.mem_flatMap.1 hu
  simp only [pendV, List.mem_cons, List.not_mem_nil, or_false] at hx
  rcases hx with rfl | rfl <;> rfl
set_option maxRecDepth 100000 in
theorem rwrite_ok (vs vl : Value) (m : Dk) (i : Int) (data : List UInt8) (w : World) (h1 : RdS w 1 enc1 vs m.safe) (h2 : RdS w 2 pendV vl m.late) (hok : m.ok) (hless : m.late.length < 1000000) :
    Ret Try.prog 45 [.agg #[vs, vl, .int .i64 m.left, .bool m.gone], .int .i64 i, .string (ofL data)] w fun u w' => ∃ v', u = .tuple #[v', .int .i64 (writeN m i data).2] ∧ ROut w w' vs vl (writeN m i data).1 v' := by
  obtain ⟨asf, caps, rfl, hcs⟩ := h1.form
  obtain ⟨al, capl, rfl, hcl⟩ := h2.form
  have hlt : m.late.length ≤ 1048576 := by omega
  refine ent45 _ _ _ _ _ ?_
  simp (disch := first | omega | exact okFill_t rfl | exact fun h => h | (simp only [World.size_alloc, World.size_drew, World.size_setCell, size_fill, bytesW]; omega)) only [go_sem, ↓reduceIte, reduceCtorEq, Nat.reduceBEq, Nat.reduceEqDiff, Nat.reduceAdd, Nat.reduceMul, Int.reduceNe, Int.reduceEq, Int.reduceLT, Int.reduceLE, Int.reduceNeg, Int.reduceAdd, Int.reduceSub, Int.reduceMul, Int.reduceToNat, beq_self_eq_true, c45, c45S0, c45S1, c45S2, c45S3, c45S4, storeW_fill, List.setIfInBounds_toArray, List.set_cons_zero, List.set_cons_succ, List.getElem_toArray, List.getElem_cons_zero, List.getElem_cons_succ, Nat.reduceLeDiff, Nat.reduceSub, okSt_nil, okSt_cons, fillO_some, fillO_none, cF_same, cF_blk, fF_any, size_fill, Value.oneCell', Int.toNat_natCast, Int.cast_ofNat_Int, cast0, cast1, Int.natCast_add, add_block, add_off, Classical.not_not, decide_not, Bool.not_eq_false, decide_true, decide_false, Bool.true_beq, Bool.false_beq, beq_true, beq_false, Bool.true_bne, Bool.false_bne, Bool.bne_true, Bool.bne_false, decide_eq_true_eq, Bool.not_eq_eq_eq_not, Nat.mul_one, List.size_toArray, List.length_cons, List.length_nil, Nat.le_refl, ldK_int, ldK_bool, ldK_str, ldK_slice, ldK_ptr, ldK_map, ldK_agg, ldK_other, ldO_int, ldO_bool, ldO_str, ldO_slice, ldO_ptr, ldO_map, ldO_other, ldA_some, cellsO_nil, cellsO_cons, cellsC_some, cA_new, cA_old, fA_new, fA_old, setO_some, cS_same, cS_off, cS_blk, World.cell?_drew, World.frozen?_drew, World.frozen?_setCell, World.size_alloc, World.size_drew, World.size_setCell, heldX_eq, heldX_add, chg_refl, chg_drew, ovr_nil, ovr_cons, Option.getD_some, Option.getD_none, Addr.add_lit, Nat.add_zero, Option.some.injEq, exists_eq', exists_eq_left', Value.int.injEq, Value.bool.injEq, Value.pointer.injEq, Value.string.injEq]
  have s1 := ((St.start (W0 := w)).box #[.slice asf m.safe.length caps, .slice al m.late.length capl, .int .i64 m.left, .bool m.gone] 48).box #[.slice none 0 0, .slice none 0 0, .int .i64 0, .bool false] 48
  rw [World.size_alloc] at s1
  generalize (w.alloc (.cells #[.slice asf m.safe.length caps, .slice al m.late.length capl, .int .i64 m.left, .bool m.gone] 48)).alloc (.cells #[.slice none 0 0, .slice none 0 0, .int .i64 0, .bool false] 48) = w1 at s1 ⊢
  refine Ret.mono (rread_ok _ m i w1 ⟨_, _, rfl, h1.below s1.bel (by decide), h2.below s1.bel (by decide)⟩ (by omega)) ?_
  rintro _ w2 ⟨rfl, hb2⟩
  have s2 := s1.call hb2
  rw [readN_e]
  have r2 := s2.rules 0 rfl
  have q2 := s2.rules 1 rfl
  simp (disch := first | omega | exact okFill_t rfl | exact fun h => h | (simp only [World.size_alloc, World.size_drew, World.size_setCell, size_fill, bytesW]; omega)) only [go_sem, ↓reduceIte, reduceCtorEq, Nat.reduceBEq, Nat.reduceEqDiff, Nat.reduceAdd, Nat.reduceMul, Int.reduceNe, Int.reduceEq, Int.reduceLT, Int.reduceLE, Int.reduceNeg, Int.reduceAdd, Int.reduceSub, Int.reduceMul, Int.reduceToNat, beq_self_eq_true, c45, c45S0, c45S1, c45S2, c45S3, c45S4, r2, q2, storeW_fill, List.setIfInBounds_toArray, List.set_cons_zero, List.set_cons_succ, List.getElem_toArray, List.getElem_cons_zero, List.getElem_cons_succ, Nat.reduceLeDiff, Nat.reduceSub, okSt_nil, okSt_cons, fillO_some, fillO_none, cF_same, cF_blk, fF_any, size_fill, Value.oneCell', Int.toNat_natCast, Int.cast_ofNat_Int, cast0, cast1, Int.natCast_add, add_block, add_off, Classical.not_not, decide_not, Bool.not_eq_false, decide_true, decide_false, Bool.true_beq, Bool.false_beq, beq_true, beq_false, Bool.true_bne, Bool.false_bne, Bool.bne_true, Bool.bne_false, decide_eq_true_eq, Bool.not_eq_eq_eq_not, Nat.mul_one, List.size_toArray, List.length_cons, List.length_nil, Nat.le_refl, ldK_int, ldK_bool, ldK_str, ldK_slice, ldK_ptr, ldK_map, ldK_agg, ldK_other, ldO_int, ldO_bool, ldO_str, ldO_slice, ldO_ptr, ldO_map, ldO_other, ldA_some, cellsO_nil, cellsO_cons, cellsC_some, cA_new, cA_old, fA_new, fA_old, setO_some, cS_same, cS_off, cS_blk, World.cell?_drew, World.frozen?_drew, World.frozen?_setCell, World.size_alloc, World.size_drew, World.size_setCell, heldX_eq, heldX_add, chg_refl, chg_drew, ovr_nil, ovr_cons, Option.getD_some, Option.getD_none, Addr.add_lit, Nat.add_zero, Option.some.injEq, exists_eq', exists_eq_left', Value.int.injEq, Value.bool.injEq, Value.pointer.injEq, Value.string.injEq]
  have hs2 := s2.size
  have out : ∀ w' m', m'.safe = m.safe → m'.late = m.late → Below w.heap.size w w' → ROut w w' (.slice asf m.safe.length caps) (.slice al m.late.length capl) m' (.agg #[.slice asf m.safe.length caps, .slice al m.late.length capl, .int .i64 m'.left, .bool m'.gone]) := fun w' m' e1 e2 hb =>
    ⟨_, _, rfl, by rw [e1]; exact h1.below hb (by decide), by rw [e2]; exact h2.below hb (by decide), fun k hk => .inl hk, fun k hk => .inl hk, hb⟩
  refine ⟨fun hr => ?_, fun hr => ⟨fun hb => ?_, fun hb => ?_⟩⟩
  · have e : writeN m i data = (m, readyN m i) := by unfold writeN; rw [if_pos hr]
    rw [e]
    have s3 := s2.fill 0 rfl (cs := #[.slice asf m.safe.length caps, .slice al m.late.length capl, .int .i64 m.left, .bool m.gone]) rfl
    exact ⟨_, rfl, out _ m rfl rfl s3.bel⟩
  · have e : writeN m i data = (m, 21) := by unfold writeN; rw [if_neg (by omega), if_pos (by omega)]
    rw [e]
    have s3 := s2.fill 0 rfl (cs := #[.slice asf m.safe.length caps, .slice al m.late.length capl, .int .i64 m.left, .bool m.gone]) rfl
    exact ⟨_, rfl, out _ m rfl rfl s3.bel⟩
  refine Ret.mono (spent_ok _ _ m w2 (h1.below s2.bel (by decide)) (h2.below s2.bel (by decide)) hok.left) ?_
  rintro _ w3 ⟨rfl, hb3⟩
  obtain ⟨ul, us⟩ := useN_late m
  have eu : writeN m i data = if (useN m).2 = 0 then ({ (useN m).1 with late := (useN m).1.late ++ [(i, filledL data)] }, 0) else useN m := by unfold writeN; rw [if_neg (by omega), if_neg (by omega)]
  have s3 := s2.call hb3
  generalize useN m = um at *
  obtain ⟨m1, e1⟩ := um
  simp only at ul us eu ⊢
  have r3 := s3.rules 0 rfl
  have q3 := s3.rules 1 rfl
  have hs3 := s3.size
  simp (disch := first | omega | exact okFill_t rfl | exact fun h => h | (simp only [World.size_alloc, World.size_drew, World.size_setCell, size_fill, bytesW]; omega)) only [go_sem, ↓reduceIte, reduceCtorEq, Nat.reduceBEq, Nat.reduceEqDiff, Nat.reduceAdd, Nat.reduceMul, Int.reduceNe, Int.reduceEq, Int.reduceLT, Int.reduceLE, Int.reduceNeg, Int.reduceAdd, Int.reduceSub, Int.reduceMul, Int.reduceToNat, beq_self_eq_true, c45, c45S0, c45S1, c45S2, c45S3, c45S4, r3, q3, storeW_fill, List.setIfInBounds_toArray, List.set_cons_zero, List.set_cons_succ, List.getElem_toArray, List.getElem_cons_zero, List.getElem_cons_succ, Nat.reduceLeDiff, Nat.reduceSub, okSt_nil, okSt_cons, fillO_some, fillO_none, cF_same, cF_blk, fF_any, size_fill, Value.oneCell', Int.toNat_natCast, Int.cast_ofNat_Int, cast0, cast1, Int.natCast_add, add_block, add_off, Classical.not_not, decide_not, Bool.not_eq_false, decide_true, decide_false, Bool.true_beq, Bool.false_beq, beq_true, beq_false, Bool.true_bne, Bool.false_bne, Bool.bne_true, Bool.bne_false, decide_eq_true_eq, Bool.not_eq_eq_eq_not, Nat.mul_one, List.size_toArray, List.length_cons, List.length_nil, Nat.le_refl, ldK_int, ldK_bool, ldK_str, ldK_slice, ldK_ptr, ldK_map, ldK_agg, ldK_other, ldO_int, ldO_bool, ldO_str, ldO_slice, ldO_ptr, ldO_map, ldO_other, ldA_some, cellsO_nil, cellsO_cons, cellsC_some, cA_new, cA_old, fA_new, fA_old, setO_some, cS_same, cS_off, cS_blk, World.cell?_drew, World.frozen?_drew, World.frozen?_setCell, World.size_alloc, World.size_drew, World.size_setCell, heldX_eq, heldX_add, chg_refl, chg_drew, ovr_nil, ovr_cons, Option.getD_some, Option.getD_none, Addr.add_lit, Nat.add_zero, Option.some.injEq, exists_eq', exists_eq_left', Value.int.injEq, Value.bool.injEq, Value.pointer.injEq, Value.string.injEq]
  have s4 := s3.fill 1 rfl (cs := #[.slice asf m.safe.length caps, .slice al m.late.length capl, .int .i64 m1.left, .bool m1.gone]) rfl
  simp only [List.set_cons_zero, List.set_cons_succ] at s4
  generalize w3.fill w.heap.size #[.slice asf m.safe.length caps, .slice al m.late.length capl, .int .i64 m1.left, .bool m1.gone] = w4 at s4 ⊢
  refine ⟨fun h0 => ?_, fun h0 => ?_⟩
  · rw [eu, if_pos h0]
    refine bsW_none ty46mkI ?_
    have s5 := s4.emptyRow 95 2
    have r5 := s5.rules 2 rfl
    generalize w4.alloc (.cells #[] 95) = w5 at s5 r5 ⊢
    simp (disch := first | omega | exact okFill_t rfl | exact fun h => h | (simp only [World.size_alloc, World.size_drew, World.size_setCell, size_fill, bytesW]; omega)) only [go_sem, ↓reduceIte, reduceCtorEq, Nat.reduceBEq, Nat.reduceEqDiff, Nat.reduceAdd, Nat.reduceMul, Int.reduceNe, Int.reduceEq, Int.reduceLT, Int.reduceLE, Int.reduceNeg, Int.reduceAdd, Int.reduceSub, Int.reduceMul, Int.reduceToNat, beq_self_eq_true, c45, c45S0, c45S1, c45S2, c45S3, c45S4, r5, storeW_fill, List.setIfInBounds_toArray, List.set_cons_zero, List.set_cons_succ, List.getElem_toArray, List.getElem_cons_zero, List.getElem_cons_succ, Nat.reduceLeDiff, Nat.reduceSub, okSt_nil, okSt_cons, fillO_some, fillO_none, cF_same, cF_blk, fF_any, size_fill, Value.oneCell', Int.toNat_natCast, Int.cast_ofNat_Int, cast0, cast1, Int.natCast_add, add_block, add_off, Classical.not_not, decide_not, Bool.not_eq_false, decide_true, decide_false, Bool.true_beq, Bool.false_beq, beq_true, beq_false, Bool.true_bne, Bool.false_bne, Bool.bne_true, Bool.bne_false, decide_eq_true_eq, Bool.not_eq_eq_eq_not, Nat.mul_one, List.size_toArray, List.length_cons, List.length_nil, Nat.le_refl, ldK_int, ldK_bool, ldK_str, ldK_slice, ldK_ptr, ldK_map, ldK_agg, ldK_other, ldO_int, ldO_bool, ldO_str, ldO_slice, ldO_ptr, ldO_map, ldO_other, ldA_some, cellsO_nil, cellsO_cons, cellsC_some, cA_new, cA_old, fA_new, fA_old, setO_some, cS_same, cS_off, cS_blk, World.cell?_drew, World.frozen?_drew, World.frozen?_setCell, World.size_alloc, World.size_drew, World.size_setCell, heldX_eq, heldX_add, chg_refl, chg_drew, ovr_nil, ovr_cons, Option.getD_some, Option.getD_none, Addr.add_lit, Nat.add_zero, Option.some.injEq, exists_eq', exists_eq_left', Value.int.injEq, Value.bool.injEq, Value.pointer.injEq, Value.string.injEq]
    refine s5.append 0 rfl ty46mkI rfl (by decide) (h2.below s5.bel (by decide)) (pendV_one _) (by omega) (by omega) ?_
    intro v6 w6 s6 _
    simp only [List.set_cons_zero, List.set_cons_succ, Nat.zero_add, List.nil_append] at s6
    simp (disch := first | omega | exact okFill_t rfl | exact fun h => h | (simp only [World.size_alloc, World.size_drew, World.size_setCell, size_fill, bytesW]; omega)) only [go_sem, ↓reduceIte, reduceCtorEq, Nat.reduceBEq, Nat.reduceEqDiff, Nat.reduceAdd, Nat.reduceMul, Int.reduceNe, Int.reduceEq, Int.reduceLT, Int.reduceLE, Int.reduceNeg, Int.reduceAdd, Int.reduceSub, Int.reduceMul, Int.reduceToNat, beq_self_eq_true, c45, c45S0, c45S1, c45S2, c45S3, c45S4, storeW_fill, List.setIfInBounds_toArray, List.set_cons_zero, List.set_cons_succ, List.getElem_toArray, List.getElem_cons_zero, List.getElem_cons_succ, Nat.reduceLeDiff, Nat.reduceSub, okSt_nil, okSt_cons, fillO_some, fillO_none, cF_same, cF_blk, fF_any, size_fill, Value.oneCell', Int.toNat_natCast, Int.cast_ofNat_Int, cast0, cast1, Int.natCast_add, add_block, add_off, Classical.not_not, decide_not, Bool.not_eq_false, decide_true, decide_false, Bool.true_beq, Bool.false_beq, beq_true, beq_false, Bool.true_bne, Bool.false_bne, Bool.bne_true, Bool.bne_false, decide_eq_true_eq, Bool.not_eq_eq_eq_not, Nat.mul_one, List.size_toArray, List.length_cons, List.length_nil, Nat.le_refl, ldK_int, ldK_bool, ldK_str, ldK_slice, ldK_ptr, ldK_map, ldK_agg, ldK_other, ldO_int, ldO_bool, ldO_str, ldO_slice, ldO_ptr, ldO_map, ldO_other, ldA_some, cellsO_nil, cellsO_cons, cellsC_some, cA_new, cA_old, fA_new, fA_old, setO_some, cS_same, cS_off, cS_blk, World.cell?_drew, World.frozen?_drew, World.frozen?_setCell, World.size_alloc, World.size_drew, World.size_setCell, heldX_eq, heldX_add, chg_refl, chg_drew, ovr_nil, ovr_cons, Option.getD_some, Option.getD_none, Addr.add_lit, Nat.add_zero, Option.some.injEq, exists_eq', exists_eq_left', Value.int.injEq, Value.bool.injEq, Value.pointer.injEq, Value.string.injEq]
    refine Ret.mono (filled_ok data w6 (by omega)) ?_
    rintro _ w7 ⟨rfl, hb7⟩
    have s7 := s6.call hb7
    simp (disch := first | omega | exact okFill_t rfl | exact fun h => h | (simp only [World.size_alloc, World.size_drew, World.size_setCell, size_fill, bytesW]; omega)) only [go_sem, ↓reduceIte, reduceCtorEq, Nat.reduceBEq, Nat.reduceEqDiff, Nat.reduceAdd, Nat.reduceMul, Int.reduceNe, Int.reduceEq, Int.reduceLT, Int.reduceLE, Int.reduceNeg, Int.reduceAdd, Int.reduceSub, Int.reduceMul, Int.reduceToNat, beq_self_eq_true, c45, c45S0, c45S1, c45S2, c45S3, c45S4, storeW_fill, List.setIfInBounds_toArray, List.set_cons_zero, List.set_cons_succ, List.getElem_toArray, List.getElem_cons_zero, List.getElem_cons_succ, Nat.reduceLeDiff, Nat.reduceSub, okSt_nil, okSt_cons, fillO_some, fillO_none, cF_same, cF_blk, fF_any, size_fill, Value.oneCell', Int.toNat_natCast, Int.cast_ofNat_Int, cast0, cast1, Int.natCast_add, add_block, add_off, Classical.not_not, decide_not, Bool.not_eq_false, decide_true, decide_false, Bool.true_beq, Bool.false_beq, beq_true, beq_false, Bool.true_bne, Bool.false_bne, Bool.bne_true, Bool.bne_false, decide_eq_true_eq, Bool.not_eq_eq_eq_not, Nat.mul_one, List.size_toArray, List.length_cons, List.length_nil, Nat.le_refl, ldK_int, ldK_bool, ldK_str, ldK_slice, ldK_ptr, ldK_map, ldK_agg, ldK_other, ldO_int, ldO_bool, ldO_str, ldO_slice, ldO_ptr, ldO_map, ldO_other, ldA_some, cellsO_nil, cellsO_cons, cellsC_some, cA_new, cA_old, fA_new, fA_old, setO_some, cS_same, cS_off, cS_blk, World.cell?_drew, World.frozen?_drew, World.frozen?_setCell, World.size_alloc, World.size_drew, World.size_setCell, heldX_eq, heldX_add, chg_refl, chg_drew, ovr_nil, ovr_cons, Option.getD_some, Option.getD_none, Addr.add_lit, Nat.add_zero, Option.some.injEq, exists_eq', exists_eq_left', Value.int.injEq, Value.bool.injEq, Value.pointer.injEq, Value.string.injEq]
    refine bdW_built (cells := #[.int .i64 i, .string (ofL (filledL data))]) (by kernel_rfl) ?_
    simp (disch := first | omega | exact okFill_t rfl | exact fun h => h | (simp only [World.size_alloc, World.size_drew, World.size_setCell, size_fill, bytesW]; omega)) only [go_sem, ↓reduceIte, reduceCtorEq, Nat.reduceBEq, Nat.reduceEqDiff, Nat.reduceAdd, Nat.reduceMul, Int.reduceNe, Int.reduceEq, Int.reduceLT, Int.reduceLE, Int.reduceNeg, Int.reduceAdd, Int.reduceSub, Int.reduceMul, Int.reduceToNat, beq_self_eq_true, c45, c45S0, c45S1, c45S2, c45S3, c45S4, storeW_fill, List.setIfInBounds_toArray, List.set_cons_zero, List.set_cons_succ, List.getElem_toArray, List.getElem_cons_zero, List.getElem_cons_succ, Nat.reduceLeDiff, Nat.reduceSub, okSt_nil, okSt_cons, fillO_some, fillO_none, cF_same, cF_blk, fF_any, size_fill, Value.oneCell', Int.toNat_natCast, Int.cast_ofNat_Int, cast0, cast1, Int.natCast_add, add_block, add_off, Classical.not_not, decide_not, Bool.not_eq_false, decide_true, decide_false, Bool.true_beq, Bool.false_beq, beq_true, beq_false, Bool.true_bne, Bool.false_bne, Bool.bne_true, Bool.bne_false, decide_eq_true_eq, Bool.not_eq_eq_eq_not, Nat.mul_one, List.size_toArray, List.length_cons, List.length_nil, Nat.le_refl, ldK_int, ldK_bool, ldK_str, ldK_slice, ldK_ptr, ldK_map, ldK_agg, ldK_other, ldO_int, ldO_bool, ldO_str, ldO_slice, ldO_ptr, ldO_map, ldO_other, ldA_some, cellsO_nil, cellsO_cons, cellsC_some, cA_new, cA_old, fA_new, fA_old, setO_some, cS_same, cS_off, cS_blk, World.cell?_drew, World.frozen?_drew, World.frozen?_setCell, World.size_alloc, World.size_drew, World.size_setCell, heldX_eq, heldX_add, chg_refl, chg_drew, ovr_nil, ovr_cons, Option.getD_some, Option.getD_none, Addr.add_lit, Nat.add_zero, Option.some.injEq, exists_eq', exists_eq_left', Value.int.injEq, Value.bool.injEq, Value.pointer.injEq, Value.string.injEq]
    refine bsW_agg ty46mkI rfl (by decide) (by decide) ?_
    simp (disch := first | omega | exact okFill_t rfl | exact fun h => h | (simp only [World.size_alloc, World.size_drew, World.size_setCell, size_fill, bytesW]; omega)) only [go_sem, ↓reduceIte, reduceCtorEq, Nat.reduceBEq, Nat.reduceEqDiff, Nat.reduceAdd, Nat.reduceMul, Int.reduceNe, Int.reduceEq, Int.reduceLT, Int.reduceLE, Int.reduceNeg, Int.reduceAdd, Int.reduceSub, Int.reduceMul, Int.reduceToNat, beq_self_eq_true, c45, c45S0, c45S1, c45S2, c45S3, c45S4, storeW_fill, List.setIfInBounds_toArray, List.set_cons_zero, List.set_cons_succ, List.getElem_toArray, List.getElem_cons_zero, List.getElem_cons_succ, Nat.reduceLeDiff, Nat.reduceSub, okSt_nil, okSt_cons, fillO_some, fillO_none, cF_same, cF_blk, fF_any, size_fill, Value.oneCell', Int.toNat_natCast, Int.cast_ofNat_Int, cast0, cast1, Int.natCast_add, add_block, add_off, Classical.not_not, decide_not, Bool.not_eq_false, decide_true, decide_false, Bool.true_beq, Bool.false_beq, beq_true, beq_false, Bool.true_bne, Bool.false_bne, Bool.bne_true, Bool.bne_false, decide_eq_true_eq, Bool.not_eq_eq_eq_not, Nat.mul_one, List.size_toArray, List.length_cons, List.length_nil, Nat.le_refl, ldK_int, ldK_bool, ldK_str, ldK_slice, ldK_ptr, ldK_map, ldK_agg, ldK_other, ldO_int, ldO_bool, ldO_str, ldO_slice, ldO_ptr, ldO_map, ldO_other, ldA_some, cellsO_nil, cellsO_cons, cellsC_some, cA_new, cA_old, fA_new, fA_old, setO_some, cS_same, cS_off, cS_blk, World.cell?_drew, World.frozen?_drew, World.frozen?_setCell, World.size_alloc, World.size_drew, World.size_setCell, heldX_eq, heldX_add, chg_refl, chg_drew, ovr_nil, ovr_cons, Option.getD_some, Option.getD_none, Addr.add_lit, Nat.add_zero, Option.some.injEq, exists_eq', exists_eq_left', Value.int.injEq, Value.bool.injEq, Value.pointer.injEq, Value.string.injEq]
    have hrd := rd_new (w := w7) (t := 95) (sz := 2) (n := 1) (cs := #[.int .i64 i, .string (ofL (filledL data))]) rfl
    have s8 := s7.alloc' (.cells #[.int .i64 i, .string (ofL (filledL data))] 95)
    generalize w7.alloc (.cells #[.int .i64 i, .string (ofL (filledL data))] 95) = w8 at s8 hrd ⊢
    refine s8.append 0 rfl ty46mkI rfl (by decide) hrd (by intro u hu; simp only [List.mem_cons, List.not_mem_nil, or_false] at hu; rcases hu with rfl | rfl <;> rfl) (by omega) (by omega) ?_
    intro v9 w9 s9 _
    simp only [List.set_cons_zero, List.set_cons_succ] at s9
    obtain ⟨a9, c9, rfl, _⟩ := own_slice (s9.row 0 rfl)
    have r9 := s9.rules 2 rfl
    have q9 := s9.rules 1 rfl
    have hs9 := s9.size
    simp (disch := first | omega | exact okFill_t rfl | exact fun h => h | (simp only [World.size_alloc, World.size_drew, World.size_setCell, size_fill, bytesW]; omega)) only [go_sem, ↓reduceIte, reduceCtorEq, Nat.reduceBEq, Nat.reduceEqDiff, Nat.reduceAdd, Nat.reduceMul, Int.reduceNe, Int.reduceEq, Int.reduceLT, Int.reduceLE, Int.reduceNeg, Int.reduceAdd, Int.reduceSub, Int.reduceMul, Int.reduceToNat, beq_self_eq_true, c45, c45S0, c45S1, c45S2, c45S3, c45S4, r9, q9, storeW_fill, List.setIfInBounds_toArray, List.set_cons_zero, List.set_cons_succ, List.getElem_toArray, List.getElem_cons_zero, List.getElem_cons_succ, Nat.reduceLeDiff, Nat.reduceSub, okSt_nil, okSt_cons, fillO_some, fillO_none, cF_same, cF_blk, fF_any, size_fill, Value.oneCell', Int.toNat_natCast, Int.cast_ofNat_Int, cast0, cast1, Int.natCast_add, add_block, add_off, Classical.not_not, decide_not, Bool.not_eq_false, decide_true, decide_false, Bool.true_beq, Bool.false_beq, beq_true, beq_false, Bool.true_bne, Bool.false_bne, Bool.bne_true, Bool.bne_false, decide_eq_true_eq, Bool.not_eq_eq_eq_not, Nat.mul_one, List.size_toArray, List.length_cons, List.length_nil, Nat.le_refl, ldK_int, ldK_bool, ldK_str, ldK_slice, ldK_ptr, ldK_map, ldK_agg, ldK_other, ldO_int, ldO_bool, ldO_str, ldO_slice, ldO_ptr, ldO_map, ldO_other, ldA_some, cellsO_nil, cellsO_cons, cellsC_some, cA_new, cA_old, fA_new, fA_old, setO_some, cS_same, cS_off, cS_blk, World.cell?_drew, World.frozen?_drew, World.frozen?_setCell, World.size_alloc, World.size_drew, World.size_setCell, heldX_eq, heldX_add, chg_refl, chg_drew, ovr_nil, ovr_cons, Option.getD_some, Option.getD_none, Addr.add_lit, Nat.add_zero, Option.some.injEq, exists_eq', exists_eq_left', Value.int.injEq, Value.bool.injEq, Value.pointer.injEq, Value.string.injEq]
    subst h0
    generalize filledL data = fd at s9 ⊢
    have ef : (m1.late ++ [(i, fd)]).flatMap pendV = m.late.flatMap pendV ++ (#[Value.int .i64 i, .string (ofL (fd))] : Array Value).toList := by rw [ul, List.flatMap_append]; rfl
    have el : (m1.late ++ [(i, fd)]).length = m.late.length + 1 := by rw [ul]; simp
    have hown := s9.row 0 rfl
    rw [← ef, ← el] at hown
    have hv := hown.lt
    rw [← el] at s9
    have s10 := s9.seal (.rd 2 pendV (.slice a9 (m1.late ++ [(i, fd)]).length c9) (m1.late ++ [(i, fd)])) (RdS.of_own hown) fun k hk => slFoot_own hk
    have s11 := (s10.set 1 rfl 1 (.slice a9 (m.late.length + 1) c9)).fill 0 rfl (cs := #[.slice asf m.safe.length caps, .slice a9 (m.late.length + 1) c9, .int .i64 m1.left, .bool m1.gone]) rfl
    have o1 := h1.below s11.bel (by decide)
    have o2 := s11.rd 0 rfl
    have ob := s11.bel
    rw [el] at o2 hv
    generalize ((w9.setCell ⟨w.heap.size, 1, none⟩ (.slice a9 (m.late.length + 1) c9)).fill (w.heap.size + 1) #[.slice asf m.safe.length caps, .slice a9 (m.late.length + 1) c9, .int .i64 m1.left, .bool m1.gone]) = w12 at o1 o2 ob ⊢
    rw [← us] at o1 ⊢
    refine ⟨_, rfl, ?_⟩
    unfold ROut
    exact ⟨_, _, rfl, o1, o2, fun k hk => .inl hk, fun k hk => .inr (hv k (slFoot_own hk)).1, ob⟩
  · rw [eu, if_neg h0]
    have s5 := s4.fill 0 rfl (cs := #[.slice asf m.safe.length caps, .slice al m.late.length capl, .int .i64 m1.left, .bool m1.gone]) rfl
    exact ⟨_, rfl, out _ m1 us ul s5.bel⟩
end Go.Proofs.Ytlaflmkgfafhpaa
