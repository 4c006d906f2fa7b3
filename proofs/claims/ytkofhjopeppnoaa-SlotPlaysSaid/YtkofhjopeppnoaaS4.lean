/- Room on a page; a record put, set, deleted: the program's. -/
import Derived.Test.YtkofhjopeppnoaaS3
namespace Go.Proofs.Ytkofhjopeppnoaa
set_option linter.unusedSimpArgs false
set_option linter.unusedVariables false
set_option maxRecDepth 100000
open Go Go.Ann Go.RowKit
theorem own_mono {w : World} {B B' e sz n : Nat} {v : Value} {xs : List Value} (h : w.ownsRow B e sz v n xs) (hb : B' ≤ B) : w.ownsRow B' e sz v n xs := by
  refine ⟨h.1, h.2.imp id fun ⟨g, cap, cur, h1, h2, h3⟩ => ⟨g, cap, cur, h1, Nat.le_trans hb h2, h3⟩⟩
def freeP (size : Nat) (L : List (List UInt8)) : Int := max 0 (min (if vacantP L = L.length then (size : Int) - takesP L - 2 else (size : Int) - takesP L) 255)
theorem Pg.sum {s : List UInt8} {L : List (List UInt8)} (h : Pg s L) : sumP L ≤ 255 * L.length := by
  have : ∀ k, k ≤ L.length → sumP (L.take k) ≤ 255 * k := by
    intro k
    induction k with
    | zero => intro _; simp [sumP]
    | succ k ih =>
      intro hk
      have h1 := sumP_take (L := L) (k := k) (by omega)
      have h2 := h.len (show k < L.length by omega)
      have h3 := bN_bd s (2 + 2 * k)
      have := ih (by omega)
      omega
  have h1 := this L.length (Nat.le_refl _)
  rwa [List.take_length] at h1
theorem Pg.ne {s : List UInt8} {L : List (List UInt8)} (h : Pg s L) : s ≠ [] := by rintro rfl; have := h.lo; simp at this
theorem free_ok (s : List UInt8) (L : List (List UInt8)) (w : World) (h : Pg s L) : Ret Try.prog 16 [.string (ofL s)] w fun u w' => u = .int .i64 (freeP s.length L) ∧ Below w.heap.size w w' := by
  have hfew := h.few
  have hsum := h.sum
  have hhi := h.hi
  refine ent16 _ _ _ ?_
  simp (disch := first | omega | exact okFill_t rfl | exact okSize_t rfl | exact fun h => h | (simp only [World.size_alloc, World.size_drew, World.size_setCell, size_fill, bytesW]; omega)) only [go_sem, ↓reduceIte, reduceCtorEq, Nat.reduceBEq, Nat.reduceEqDiff, Nat.reduceAdd, Nat.reduceMul, Int.reduceNe, Int.reduceEq, Int.reduceLT, Int.reduceLE, Int.reduceNeg, Int.reduceAdd, Int.reduceSub, Int.reduceMul, Int.reduceToNat, beq_self_eq_true, c16, c16S0, c16S1, c16S2, c16S3, c16S4, c16S5, storeW_fill, List.setIfInBounds_toArray, List.set_cons_zero, List.set_cons_succ, List.getElem_toArray, List.getElem_cons_zero, List.getElem_cons_succ, Nat.reduceLeDiff, Nat.reduceSub, okSt_nil, okSt_cons, fillO_some, fillO_none, cF_same, cF_blk, fF_any, size_fill, Value.oneCell', Int.toNat_natCast, Int.cast_ofNat_Int, cast0, cast1, Int.natCast_add, add_block, add_off, Classical.not_not, decide_not, Bool.not_eq_false, decide_true, decide_false, Bool.true_beq, Bool.false_beq, beq_true, beq_false, Bool.true_bne, Bool.false_bne, Bool.bne_true, Bool.bne_false, decide_eq_true_eq, Bool.not_eq_eq_eq_not, Nat.mul_one, List.size_toArray, List.length_cons, List.length_nil, Nat.le_refl, ldK_int, ldK_bool, ldK_str, ldK_slice, ldK_ptr, ldK_map, ldK_agg, ldK_other, ldO_int, ldO_bool, ldO_str, ldO_slice, ldO_ptr, ldO_map, ldO_other, ldA_some, cellsO_new, cellsO_nil, cellsC_some, cellsO_drew, cellsO_alloc, cA_add, cS_add, cA_new, cA_old, fA_new, fA_old, setO_some, cS_same, cS_off, cS_blk, World.cell?_drew, World.frozen?_drew, World.frozen?_setCell, World.size_alloc, World.size_drew, World.size_setCell, heldX_eq, heldX_add, chg_refl, chg_drew, ovr_nil, ovr_cons, Option.getD_some, Option.getD_none, Addr.add_lit, Nat.add_zero, Option.some.injEq, exists_eq', exists_eq_left', Value.int.injEq, Value.bool.injEq, Value.pointer.injEq, Value.string.injEq]
  refine ⟨fun e => absurd (of_decide_eq_true e) h.ne, fun _ => Ret.mono (list_ok s L w h) ?_⟩
  rintro v w2 ⟨o2, b2⟩
  have h2 := RdS.of_own' o2 L rfl rfl
  obtain ⟨a, c, rfl, _⟩ := h2.form
  simp (disch := first | omega | exact okFill_t rfl | exact okSize_t rfl | exact fun h => h | (simp only [World.size_alloc, World.size_drew, World.size_setCell, size_fill, bytesW]; omega)) only [go_sem, ↓reduceIte, reduceCtorEq, Nat.reduceBEq, Nat.reduceEqDiff, Nat.reduceAdd, Nat.reduceMul, Int.reduceNe, Int.reduceEq, Int.reduceLT, Int.reduceLE, Int.reduceNeg, Int.reduceAdd, Int.reduceSub, Int.reduceMul, Int.reduceToNat, beq_self_eq_true, c16, c16S0, c16S1, c16S2, c16S3, c16S4, c16S5, storeW_fill, List.setIfInBounds_toArray, List.set_cons_zero, List.set_cons_succ, List.getElem_toArray, List.getElem_cons_zero, List.getElem_cons_succ, Nat.reduceLeDiff, Nat.reduceSub, okSt_nil, okSt_cons, fillO_some, fillO_none, cF_same, cF_blk, fF_any, size_fill, Value.oneCell', Int.toNat_natCast, Int.cast_ofNat_Int, cast0, cast1, Int.natCast_add, add_block, add_off, Classical.not_not, decide_not, Bool.not_eq_false, decide_true, decide_false, Bool.true_beq, Bool.false_beq, beq_true, beq_false, Bool.true_bne, Bool.false_bne, Bool.bne_true, Bool.bne_false, decide_eq_true_eq, Bool.not_eq_eq_eq_not, Nat.mul_one, List.size_toArray, List.length_cons, List.length_nil, Nat.le_refl, ldK_int, ldK_bool, ldK_str, ldK_slice, ldK_ptr, ldK_map, ldK_agg, ldK_other, ldO_int, ldO_bool, ldO_str, ldO_slice, ldO_ptr, ldO_map, ldO_other, ldA_some, cellsO_new, cellsO_nil, cellsC_some, cellsO_drew, cellsO_alloc, cA_add, cS_add, cA_new, cA_old, fA_new, fA_old, setO_some, cS_same, cS_off, cS_blk, World.cell?_drew, World.frozen?_drew, World.frozen?_setCell, World.size_alloc, World.size_drew, World.size_setCell, heldX_eq, heldX_add, chg_refl, chg_drew, ovr_nil, ovr_cons, Option.getD_some, Option.getD_none, Addr.add_lit, Nat.add_zero, Option.some.injEq, exists_eq', exists_eq_left', Value.int.injEq, Value.bool.injEq, Value.pointer.injEq, Value.string.injEq]
  refine Ret.mono (used_ok _ L w2 h2 (by omega) (by omega)) ?_
  rintro _ w3 ⟨rfl, b3⟩
  have h3 := h2.below b3 (by decide)
  have b03 := b2.trans (b3.mono b2.size)
  have ht : takesP L = 1 + 2 * L.length + sumP L := rfl
  simp (disch := first | omega | exact okFill_t rfl | exact okSize_t rfl | exact fun h => h | (simp only [World.size_alloc, World.size_drew, World.size_setCell, size_fill, bytesW]; omega)) only [go_sem, ↓reduceIte, reduceCtorEq, Nat.reduceBEq, Nat.reduceEqDiff, Nat.reduceAdd, Nat.reduceMul, Int.reduceNe, Int.reduceEq, Int.reduceLT, Int.reduceLE, Int.reduceNeg, Int.reduceAdd, Int.reduceSub, Int.reduceMul, Int.reduceToNat, beq_self_eq_true, c16, c16S0, c16S1, c16S2, c16S3, c16S4, c16S5, storeW_fill, List.setIfInBounds_toArray, List.set_cons_zero, List.set_cons_succ, List.getElem_toArray, List.getElem_cons_zero, List.getElem_cons_succ, Nat.reduceLeDiff, Nat.reduceSub, okSt_nil, okSt_cons, fillO_some, fillO_none, cF_same, cF_blk, fF_any, size_fill, Value.oneCell', Int.toNat_natCast, Int.cast_ofNat_Int, cast0, cast1, Int.natCast_add, add_block, add_off, Classical.not_not, decide_not, Bool.not_eq_false, decide_true, decide_false, Bool.true_beq, Bool.false_beq, beq_true, beq_false, Bool.true_bne, Bool.false_bne, Bool.bne_true, Bool.bne_false, decide_eq_true_eq, Bool.not_eq_eq_eq_not, Nat.mul_one, List.size_toArray, List.length_cons, List.length_nil, Nat.le_refl, ldK_int, ldK_bool, ldK_str, ldK_slice, ldK_ptr, ldK_map, ldK_agg, ldK_other, ldO_int, ldO_bool, ldO_str, ldO_slice, ldO_ptr, ldO_map, ldO_other, ldA_some, cellsO_new, cellsO_nil, cellsC_some, cellsO_drew, cellsO_alloc, cA_add, cS_add, cA_new, cA_old, fA_new, fA_old, setO_some, cS_same, cS_off, cS_blk, World.cell?_drew, World.frozen?_drew, World.frozen?_setCell, World.size_alloc, World.size_drew, World.size_setCell, heldX_eq, heldX_add, chg_refl, chg_drew, ovr_nil, ovr_cons, Option.getD_some, Option.getD_none, Addr.add_lit, Nat.add_zero, Option.some.injEq, exists_eq', exists_eq_left', Value.int.injEq, Value.bool.injEq, Value.pointer.injEq, Value.string.injEq]
  refine ⟨⟨by omega, by omega⟩, Ret.mono (contains_ok _ L [] w3 h3 (by omega)) ?_⟩
  rintro _ w4 ⟨rfl, b4⟩
  have b04 := b03.trans (b4.mono b03.size)
  have hv := List.findIdx_le_length (xs := L) (p := fun r => decide (r = []))
  simp (disch := first | omega | exact okFill_t rfl | exact okSize_t rfl | exact fun h => h | (simp only [World.size_alloc, World.size_drew, World.size_setCell, size_fill, bytesW]; omega)) only [go_sem, ↓reduceIte, reduceCtorEq, Nat.reduceBEq, Nat.reduceEqDiff, Nat.reduceAdd, Nat.reduceMul, Int.reduceNe, Int.reduceEq, Int.reduceLT, Int.reduceLE, Int.reduceNeg, Int.reduceAdd, Int.reduceSub, Int.reduceMul, Int.reduceToNat, beq_self_eq_true, c16, c16S0, c16S1, c16S2, c16S3, c16S4, c16S5, storeW_fill, List.setIfInBounds_toArray, List.set_cons_zero, List.set_cons_succ, List.getElem_toArray, List.getElem_cons_zero, List.getElem_cons_succ, Nat.reduceLeDiff, Nat.reduceSub, okSt_nil, okSt_cons, fillO_some, fillO_none, cF_same, cF_blk, fF_any, size_fill, Value.oneCell', Int.toNat_natCast, Int.cast_ofNat_Int, cast0, cast1, Int.natCast_add, add_block, add_off, Classical.not_not, decide_not, Bool.not_eq_false, decide_true, decide_false, Bool.true_beq, Bool.false_beq, beq_true, beq_false, Bool.true_bne, Bool.false_bne, Bool.bne_true, Bool.bne_false, decide_eq_true_eq, Bool.not_eq_eq_eq_not, Nat.mul_one, List.size_toArray, List.length_cons, List.length_nil, Nat.le_refl, ldK_int, ldK_bool, ldK_str, ldK_slice, ldK_ptr, ldK_map, ldK_agg, ldK_other, ldO_int, ldO_bool, ldO_str, ldO_slice, ldO_ptr, ldO_map, ldO_other, ldA_some, cellsO_new, cellsO_nil, cellsC_some, cellsO_drew, cellsO_alloc, cA_add, cS_add, cA_new, cA_old, fA_new, fA_old, setO_some, cS_same, cS_off, cS_blk, World.cell?_drew, World.frozen?_drew, World.frozen?_setCell, World.size_alloc, World.size_drew, World.size_setCell, heldX_eq, heldX_add, chg_refl, chg_drew, ovr_nil, ovr_cons, Option.getD_some, Option.getD_none, Addr.add_lit, Nat.add_zero, Option.some.injEq, exists_eq', exists_eq_left', Value.int.injEq, Value.bool.injEq, Value.pointer.injEq, Value.string.injEq]
  have hv2 : vacantP L = List.findIdx (fun x => decide (x = [])) L := rfl
  refine ⟨fun e => ⟨⟨by omega, by omega⟩, ?_, b04⟩, fun e => ⟨?_, b04⟩⟩
  · unfold freeP; rw [if_pos (by omega)]
  · unfold freeP; rw [if_neg (by omega)]
def withP (i : Nat) (r : List UInt8) (L : List (List UInt8)) : List (List UInt8) := trimP (if i = L.length then L ++ [r] else L.set i r)
theorem takes_trim (L : List (List UInt8)) : takesP (trimP L) ≤ takesP L := by
  have h1 := trimN_le L L.length
  have h2 := sumP_le (L := L) (trimN L L.length)
  unfold takesP trimP
  rw [List.length_take]; omega
theorem sumP_set : ∀ {L : List (List UInt8)} {k : Nat} (h : k < L.length) (r : List UInt8), sumP (L.set k r) + L[k].length = sumP L + r.length
  | a :: L, 0, h, r => by simp [sumP]; omega
  | a :: L, k + 1, h, r => by
    have := sumP_set (L := L) (k := k) (by simpa using h) r
    have e1 : sumP (a :: L.set k r) = a.length + sumP (L.set k r) := by simp [sumP]
    have e2 : sumP (a :: L) = a.length + sumP L := by simp [sumP]
    rw [List.set_cons_succ, e1, e2, List.getElem_cons_succ]; omega
theorem vacant_nil {L : List (List UInt8)} (h : vacantP L < L.length) : L[vacantP L] = [] := by
  unfold vacantP at h ⊢
  have := List.findIdx_getElem (w := h)
  exact of_decide_eq_true this
theorem put9 {s r : List UInt8} {l : List (List UInt8)} {i : Nat} {v : Value} {W0 w : World} {K : Value → World → Prop} (h : St W0 w (fun _ => False) [.row v 9 1 l.length (l.flatMap strE)] []) (hi : i < l.length) (hl : l.length ≤ 1000) (hf : Fits s.length (trimP (l.set i r)))
    (hK : ∀ w', Below W0.heap.size W0 w' → K (.tuple #[.string (ofL (textP s.length (trimP (l.set i r)))), .int .i64 i, .bool true]) w') :
    W Try.prog (c9S2 ()) [(0, .string (ofL s)), (1, .string (ofL r)), (7, v), (8, .int .i64 i)] w (finQ Try.prog [.tmp 4, .tmp 5, .tmp 6] K) := by
  have hrow := h.row 0 rfl
  have hlen := strs_len l
  obtain ⟨g, cap, rfl, hcap⟩ : ∃ g cap, v = .slice (some ⟨g, 0, none⟩) l.length cap ∧ l.length ≤ cap := by
    obtain ⟨_, ⟨_, h0⟩ | ⟨g, cap, cur, e, _, _, hc, _⟩⟩ := hrow
    · omega
    · exact ⟨g, cap, e, hc⟩
  have hc0 : ∃ old, w.cell? ⟨g, i, none⟩ = some old := by
    have := hrow.cells rfl i _ (List.getElem?_eq_getElem (show i < (l.flatMap strE).length by omega))
    rw [Addr.add_lit, Nat.zero_add] at this
    exact ⟨_, this⟩
  have hf0 : w.frozen? ⟨g, i, none⟩ = false := by
    obtain ⟨_, ⟨h0, _⟩ | ⟨g', cap', cur, e, _, hb, _⟩⟩ := hrow
    · cases h0
    · cases e; exact Blk.frozen (show Blk w g cur _ from hb) _
  have hi' : (i : Int) < l.length := by omega
  simp (disch := first | omega | exact okFill_t rfl | exact okSize_t rfl | exact fun h => h | (simp only [World.size_alloc, World.size_drew, World.size_setCell, size_fill, bytesW]; omega)) only [go_sem, ↓reduceIte, reduceCtorEq, Nat.reduceBEq, Nat.reduceEqDiff, Nat.reduceAdd, Nat.reduceMul, Int.reduceNe, Int.reduceEq, Int.reduceLT, Int.reduceLE, Int.reduceNeg, Int.reduceAdd, Int.reduceSub, Int.reduceMul, Int.reduceToNat, beq_self_eq_true, c9, c9S0, c9S1, c9S2, c9S3, c9S4, c9S5, hi', hf0, storeW_fill, List.setIfInBounds_toArray, List.set_cons_zero, List.set_cons_succ, List.getElem_toArray, List.getElem_cons_zero, List.getElem_cons_succ, Nat.reduceLeDiff, Nat.reduceSub, okSt_nil, okSt_cons, fillO_some, fillO_none, cF_same, cF_blk, fF_any, size_fill, Value.oneCell', Int.toNat_natCast, Int.cast_ofNat_Int, cast0, cast1, Int.natCast_add, add_block, add_off, Classical.not_not, decide_not, Bool.not_eq_false, decide_true, decide_false, Bool.true_beq, Bool.false_beq, beq_true, beq_false, Bool.true_bne, Bool.false_bne, Bool.bne_true, Bool.bne_false, decide_eq_true_eq, Bool.not_eq_eq_eq_not, Nat.mul_one, List.size_toArray, List.length_cons, List.length_nil, Nat.le_refl, ldK_int, ldK_bool, ldK_str, ldK_slice, ldK_ptr, ldK_map, ldK_agg, ldK_other, ldO_int, ldO_bool, ldO_str, ldO_slice, ldO_ptr, ldO_map, ldO_other, ldA_some, cellsO_new, cellsO_nil, cellsC_some, cellsO_drew, cellsO_alloc, cA_add, cS_add, cA_new, cA_old, fA_new, fA_old, setO_some, cS_same, cS_off, cS_blk, World.cell?_drew, World.frozen?_drew, World.frozen?_setCell, World.size_alloc, World.size_drew, World.size_setCell, heldX_eq, heldX_add, chg_refl, chg_drew, ovr_nil, ovr_cons, Option.getD_some, Option.getD_none, Addr.add_lit, Nat.add_zero, Option.some.injEq, exists_eq', exists_eq_left', Value.int.injEq, Value.bool.injEq, Value.pointer.injEq, Value.string.injEq]
  refine ⟨by omega, hc0, ?_⟩
  have s2 := h.put 0 rfl i (.string (ofL r))
  simp only [List.set_cons_zero] at s2
  rw [← strs_set] at s2
  generalize w.setCell ⟨g, i, none⟩ (.string (ofL r)) = w2 at s2 ⊢
  have hs := RdS.of_own' (s2.row 0 rfl) (l.set i r) (by simp) rfl
  have hll : (l.set i r).length = l.length := List.length_set
  refine Ret.mono (lay_ok _ s.length (l.set i r) w2 hs (by omega) hf) ?_
  rintro _ w3 ⟨rfl, b3⟩
  simp (disch := first | omega | exact okFill_t rfl | exact okSize_t rfl | exact fun h => h | (simp only [World.size_alloc, World.size_drew, World.size_setCell, size_fill, bytesW]; omega)) only [go_sem, ↓reduceIte, reduceCtorEq, Nat.reduceBEq, Nat.reduceEqDiff, Nat.reduceAdd, Nat.reduceMul, Int.reduceNe, Int.reduceEq, Int.reduceLT, Int.reduceLE, Int.reduceNeg, Int.reduceAdd, Int.reduceSub, Int.reduceMul, Int.reduceToNat, beq_self_eq_true, c9, c9S0, c9S1, c9S2, c9S3, c9S4, c9S5, storeW_fill, List.setIfInBounds_toArray, List.set_cons_zero, List.set_cons_succ, List.getElem_toArray, List.getElem_cons_zero, List.getElem_cons_succ, Nat.reduceLeDiff, Nat.reduceSub, okSt_nil, okSt_cons, fillO_some, fillO_none, cF_same, cF_blk, fF_any, size_fill, Value.oneCell', Int.toNat_natCast, Int.cast_ofNat_Int, cast0, cast1, Int.natCast_add, add_block, add_off, Classical.not_not, decide_not, Bool.not_eq_false, decide_true, decide_false, Bool.true_beq, Bool.false_beq, beq_true, beq_false, Bool.true_bne, Bool.false_bne, Bool.bne_true, Bool.bne_false, decide_eq_true_eq, Bool.not_eq_eq_eq_not, Nat.mul_one, List.size_toArray, List.length_cons, List.length_nil, Nat.le_refl, ldK_int, ldK_bool, ldK_str, ldK_slice, ldK_ptr, ldK_map, ldK_agg, ldK_other, ldO_int, ldO_bool, ldO_str, ldO_slice, ldO_ptr, ldO_map, ldO_other, ldA_some, cellsO_new, cellsO_nil, cellsC_some, cellsO_drew, cellsO_alloc, cA_add, cS_add, cA_new, cA_old, fA_new, fA_old, setO_some, cS_same, cS_off, cS_blk, World.cell?_drew, World.frozen?_drew, World.frozen?_setCell, World.size_alloc, World.size_drew, World.size_setCell, heldX_eq, heldX_add, chg_refl, chg_drew, ovr_nil, ovr_cons, Option.getD_some, Option.getD_none, Addr.add_lit, Nat.add_zero, Option.some.injEq, exists_eq', exists_eq_left', Value.int.injEq, Value.bool.injEq, Value.pointer.injEq, Value.string.injEq]
  exact hK _ (s2.bel.trans (b3.mono s2.size))
theorem slot_put_ok (s r : List UInt8) (L : List (List UInt8)) (w : World) (h : Pg s L) : Ret Try.prog 9 [.string (ofL s), .string (ofL r)] w fun u w' =>
    u = (if r = [] ∨ freeP s.length L < r.length then .tuple #[.string (ofL s), .int .i64 0, .bool false] else .tuple #[.string (ofL (textP s.length (withP (vacantP L) r L))), .int .i64 (vacantP L : Nat), .bool true]) ∧ Below w.heap.size w w' := by
  have hfew := h.few
  have hsum := h.sum
  have hhi := h.hi
  refine ent9 _ _ _ _ ?_
  simp (disch := first | omega | exact okFill_t rfl | exact okSize_t rfl | exact fun h => h | (simp only [World.size_alloc, World.size_drew, World.size_setCell, size_fill, bytesW]; omega)) only [go_sem, ↓reduceIte, reduceCtorEq, Nat.reduceBEq, Nat.reduceEqDiff, Nat.reduceAdd, Nat.reduceMul, Int.reduceNe, Int.reduceEq, Int.reduceLT, Int.reduceLE, Int.reduceNeg, Int.reduceAdd, Int.reduceSub, Int.reduceMul, Int.reduceToNat, beq_self_eq_true, c9, c9S0, c9S1, c9S2, c9S3, c9S4, c9S5, storeW_fill, List.setIfInBounds_toArray, List.set_cons_zero, List.set_cons_succ, List.getElem_toArray, List.getElem_cons_zero, List.getElem_cons_succ, Nat.reduceLeDiff, Nat.reduceSub, okSt_nil, okSt_cons, fillO_some, fillO_none, cF_same, cF_blk, fF_any, size_fill, Value.oneCell', Int.toNat_natCast, Int.cast_ofNat_Int, cast0, cast1, Int.natCast_add, add_block, add_off, Classical.not_not, decide_not, Bool.not_eq_false, decide_true, decide_false, Bool.true_beq, Bool.false_beq, beq_true, beq_false, Bool.true_bne, Bool.false_bne, Bool.bne_true, Bool.bne_false, decide_eq_true_eq, Bool.not_eq_eq_eq_not, Nat.mul_one, List.size_toArray, List.length_cons, List.length_nil, Nat.le_refl, ldK_int, ldK_bool, ldK_str, ldK_slice, ldK_ptr, ldK_map, ldK_agg, ldK_other, ldO_int, ldO_bool, ldO_str, ldO_slice, ldO_ptr, ldO_map, ldO_other, ldA_some, cellsO_new, cellsO_nil, cellsC_some, cellsO_drew, cellsO_alloc, cA_add, cS_add, cA_new, cA_old, fA_new, fA_old, setO_some, cS_same, cS_off, cS_blk, World.cell?_drew, World.frozen?_drew, World.frozen?_setCell, World.size_alloc, World.size_drew, World.size_setCell, heldX_eq, heldX_add, chg_refl, chg_drew, ovr_nil, ovr_cons, Option.getD_some, Option.getD_none, Addr.add_lit, Nat.add_zero, Option.some.injEq, exists_eq', exists_eq_left', Value.int.injEq, Value.bool.injEq, Value.pointer.injEq, Value.string.injEq]
  refine ⟨fun e => Ret.mono (free_ok s L w h) ?_, fun e => ⟨by rw [if_pos (.inl (of_decide_eq_true e))], Below.refl _ _⟩⟩
  have hr : r ≠ [] := of_decide_eq_false e
  rintro _ w2 ⟨rfl, b2⟩
  simp (disch := first | omega | exact okFill_t rfl | exact okSize_t rfl | exact fun h => h | (simp only [World.size_alloc, World.size_drew, World.size_setCell, size_fill, bytesW]; omega)) only [go_sem, ↓reduceIte, reduceCtorEq, Nat.reduceBEq, Nat.reduceEqDiff, Nat.reduceAdd, Nat.reduceMul, Int.reduceNe, Int.reduceEq, Int.reduceLT, Int.reduceLE, Int.reduceNeg, Int.reduceAdd, Int.reduceSub, Int.reduceMul, Int.reduceToNat, beq_self_eq_true, c9, c9S0, c9S1, c9S2, c9S3, c9S4, c9S5, storeW_fill, List.setIfInBounds_toArray, List.set_cons_zero, List.set_cons_succ, List.getElem_toArray, List.getElem_cons_zero, List.getElem_cons_succ, Nat.reduceLeDiff, Nat.reduceSub, okSt_nil, okSt_cons, fillO_some, fillO_none, cF_same, cF_blk, fF_any, size_fill, Value.oneCell', Int.toNat_natCast, Int.cast_ofNat_Int, cast0, cast1, Int.natCast_add, add_block, add_off, Classical.not_not, decide_not, Bool.not_eq_false, decide_true, decide_false, Bool.true_beq, Bool.false_beq, beq_true, beq_false, Bool.true_bne, Bool.false_bne, Bool.bne_true, Bool.bne_false, decide_eq_true_eq, Bool.not_eq_eq_eq_not, Nat.mul_one, List.size_toArray, List.length_cons, List.length_nil, Nat.le_refl, ldK_int, ldK_bool, ldK_str, ldK_slice, ldK_ptr, ldK_map, ldK_agg, ldK_other, ldO_int, ldO_bool, ldO_str, ldO_slice, ldO_ptr, ldO_map, ldO_other, ldA_some, cellsO_new, cellsO_nil, cellsC_some, cellsO_drew, cellsO_alloc, cA_add, cS_add, cA_new, cA_old, fA_new, fA_old, setO_some, cS_same, cS_off, cS_blk, World.cell?_drew, World.frozen?_drew, World.frozen?_setCell, World.size_alloc, World.size_drew, World.size_setCell, heldX_eq, heldX_add, chg_refl, chg_drew, ovr_nil, ovr_cons, Option.getD_some, Option.getD_none, Addr.add_lit, Nat.add_zero, Option.some.injEq, exists_eq', exists_eq_left', Value.int.injEq, Value.bool.injEq, Value.pointer.injEq, Value.string.injEq]
  refine ⟨fun hfr => ⟨by rw [if_pos (.inr hfr)], b2⟩, fun hfr => ?_⟩
  have hno : ¬ (r = [] ∨ freeP s.length L < r.length) := by rintro (h | h); exact hr h; omega
  rw [if_neg hno]
  have hrpos := List.length_pos_iff.2 hr
  refine Ret.mono (list_ok s L w2 h) ?_
  rintro v w3 ⟨o3, b3⟩
  have s3 := ((St.start (W0 := w)).call b2).add b3 (.row v 9 1 L.length (L.flatMap strE)) (own_mono o3 b2.size) fun k hk => (o3.lt k hk).1
  have h3 := RdS.of_own' (s3.row 0 rfl) L rfl rfl
  simp (disch := first | omega | exact okFill_t rfl | exact okSize_t rfl | exact fun h => h | (simp only [World.size_alloc, World.size_drew, World.size_setCell, size_fill, bytesW]; omega)) only [go_sem, ↓reduceIte, reduceCtorEq, Nat.reduceBEq, Nat.reduceEqDiff, Nat.reduceAdd, Nat.reduceMul, Int.reduceNe, Int.reduceEq, Int.reduceLT, Int.reduceLE, Int.reduceNeg, Int.reduceAdd, Int.reduceSub, Int.reduceMul, Int.reduceToNat, beq_self_eq_true, c9, c9S0, c9S1, c9S2, c9S3, c9S4, c9S5, storeW_fill, List.setIfInBounds_toArray, List.set_cons_zero, List.set_cons_succ, List.getElem_toArray, List.getElem_cons_zero, List.getElem_cons_succ, Nat.reduceLeDiff, Nat.reduceSub, okSt_nil, okSt_cons, fillO_some, fillO_none, cF_same, cF_blk, fF_any, size_fill, Value.oneCell', Int.toNat_natCast, Int.cast_ofNat_Int, cast0, cast1, Int.natCast_add, add_block, add_off, Classical.not_not, decide_not, Bool.not_eq_false, decide_true, decide_false, Bool.true_beq, Bool.false_beq, beq_true, beq_false, Bool.true_bne, Bool.false_bne, Bool.bne_true, Bool.bne_false, decide_eq_true_eq, Bool.not_eq_eq_eq_not, Nat.mul_one, List.size_toArray, List.length_cons, List.length_nil, Nat.le_refl, ldK_int, ldK_bool, ldK_str, ldK_slice, ldK_ptr, ldK_map, ldK_agg, ldK_other, ldO_int, ldO_bool, ldO_str, ldO_slice, ldO_ptr, ldO_map, ldO_other, ldA_some, cellsO_new, cellsO_nil, cellsC_some, cellsO_drew, cellsO_alloc, cA_add, cS_add, cA_new, cA_old, fA_new, fA_old, setO_some, cS_same, cS_off, cS_blk, World.cell?_drew, World.frozen?_drew, World.frozen?_setCell, World.size_alloc, World.size_drew, World.size_setCell, heldX_eq, heldX_add, chg_refl, chg_drew, ovr_nil, ovr_cons, Option.getD_some, Option.getD_none, Addr.add_lit, Nat.add_zero, Option.some.injEq, exists_eq', exists_eq_left', Value.int.injEq, Value.bool.injEq, Value.pointer.injEq, Value.string.injEq]
  refine Ret.mono (index_ok v L [] w3 h3 (by omega)) ?_
  rintro _ w4 ⟨rfl, b4⟩
  have s4 := s3.call b4
  have hv2 : List.findIdx (fun x => decide (x = [])) L = vacantP L := rfl
  have hv := List.findIdx_le_length (xs := L) (p := fun r => decide (r = []))
  have ht : takesP L = 1 + 2 * L.length + sumP L := rfl
  rw [hv2] at hv ⊢
  by_cases hfd : vacantP L < L.length
  · rw [if_pos hfd]
    have hlt' : ¬ ((vacantP L : Nat) : Int) < 0 := by omega
    simp (disch := first | omega | exact okFill_t rfl | exact okSize_t rfl | exact fun h => h | (simp only [World.size_alloc, World.size_drew, World.size_setCell, size_fill, bytesW]; omega)) only [go_sem, ↓reduceIte, reduceCtorEq, Nat.reduceBEq, Nat.reduceEqDiff, Nat.reduceAdd, Nat.reduceMul, Int.reduceNe, Int.reduceEq, Int.reduceLT, Int.reduceLE, Int.reduceNeg, Int.reduceAdd, Int.reduceSub, Int.reduceMul, Int.reduceToNat, beq_self_eq_true, c9, c9S0, c9S1, c9S3, c9S4, c9S5, hlt', storeW_fill, List.setIfInBounds_toArray, List.set_cons_zero, List.set_cons_succ, List.getElem_toArray, List.getElem_cons_zero, List.getElem_cons_succ, Nat.reduceLeDiff, Nat.reduceSub, okSt_nil, okSt_cons, fillO_some, fillO_none, cF_same, cF_blk, fF_any, size_fill, Value.oneCell', Int.toNat_natCast, Int.cast_ofNat_Int, cast0, cast1, Int.natCast_add, add_block, add_off, Classical.not_not, decide_not, Bool.not_eq_false, decide_true, decide_false, Bool.true_beq, Bool.false_beq, beq_true, beq_false, Bool.true_bne, Bool.false_bne, Bool.bne_true, Bool.bne_false, decide_eq_true_eq, Bool.not_eq_eq_eq_not, Nat.mul_one, List.size_toArray, List.length_cons, List.length_nil, Nat.le_refl, ldK_int, ldK_bool, ldK_str, ldK_slice, ldK_ptr, ldK_map, ldK_agg, ldK_other, ldO_int, ldO_bool, ldO_str, ldO_slice, ldO_ptr, ldO_map, ldO_other, ldA_some, cellsO_new, cellsO_nil, cellsC_some, cellsO_drew, cellsO_alloc, cA_add, cS_add, cA_new, cA_old, fA_new, fA_old, setO_some, cS_same, cS_off, cS_blk, World.cell?_drew, World.frozen?_drew, World.frozen?_setCell, World.size_alloc, World.size_drew, World.size_setCell, heldX_eq, heldX_add, chg_refl, chg_drew, ovr_nil, ovr_cons, Option.getD_some, Option.getD_none, Addr.add_lit, Nat.add_zero, Option.some.injEq, exists_eq', exists_eq_left', Value.int.injEq, Value.bool.injEq, Value.pointer.injEq, Value.string.injEq]
    have e1 : withP (vacantP L) r L = trimP (L.set (vacantP L) r) := by unfold withP; rw [if_neg (by omega)]
    rw [e1]
    refine put9 s4 hfd (by omega) ⟨h.lo, h.hi, ?_⟩ fun w' b => ⟨rfl, b⟩
    have h5 := takes_trim (L.set (vacantP L) r)
    have h6 := sumP_set hfd r
    rw [vacant_nil hfd] at h6
    have ht2 : takesP (L.set (vacantP L) r) = 1 + 2 * (L.set (vacantP L) r).length + sumP (L.set (vacantP L) r) := rfl
    rw [List.length_set] at ht2
    simp only [List.length_nil] at h6
    unfold freeP at hfr
    rw [if_neg (by omega)] at hfr
    omega
  · rw [if_neg hfd]
    have hvl : vacantP L = L.length := by omega
    obtain ⟨a4, c4, rfl, _⟩ := own_slice o3
    simp (disch := first | omega | exact okFill_t rfl | exact okSize_t rfl | exact fun h => h | (simp only [World.size_alloc, World.size_drew, World.size_setCell, size_fill, bytesW]; omega)) only [go_sem, ↓reduceIte, reduceCtorEq, Nat.reduceBEq, Nat.reduceEqDiff, Nat.reduceAdd, Nat.reduceMul, Int.reduceNe, Int.reduceEq, Int.reduceLT, Int.reduceLE, Int.reduceNeg, Int.reduceAdd, Int.reduceSub, Int.reduceMul, Int.reduceToNat, beq_self_eq_true, c9, c9S0, c9S1, c9S3, c9S4, c9S5, storeW_fill, List.setIfInBounds_toArray, List.set_cons_zero, List.set_cons_succ, List.getElem_toArray, List.getElem_cons_zero, List.getElem_cons_succ, Nat.reduceLeDiff, Nat.reduceSub, okSt_nil, okSt_cons, fillO_some, fillO_none, cF_same, cF_blk, fF_any, size_fill, Value.oneCell', Int.toNat_natCast, Int.cast_ofNat_Int, cast0, cast1, Int.natCast_add, add_block, add_off, Classical.not_not, decide_not, Bool.not_eq_false, decide_true, decide_false, Bool.true_beq, Bool.false_beq, beq_true, beq_false, Bool.true_bne, Bool.false_bne, Bool.bne_true, Bool.bne_false, decide_eq_true_eq, Bool.not_eq_eq_eq_not, Nat.mul_one, List.size_toArray, List.length_cons, List.length_nil, Nat.le_refl, ldK_int, ldK_bool, ldK_str, ldK_slice, ldK_ptr, ldK_map, ldK_agg, ldK_other, ldO_int, ldO_bool, ldO_str, ldO_slice, ldO_ptr, ldO_map, ldO_other, ldA_some, cellsO_new, cellsO_nil, cellsC_some, cellsO_drew, cellsO_alloc, cA_add, cS_add, cA_new, cA_old, fA_new, fA_old, setO_some, cS_same, cS_off, cS_blk, World.cell?_drew, World.frozen?_drew, World.frozen?_setCell, World.size_alloc, World.size_drew, World.size_setCell, heldX_eq, heldX_add, chg_refl, chg_drew, ovr_nil, ovr_cons, Option.getD_some, Option.getD_none, Addr.add_lit, Nat.add_zero, Option.some.injEq, exists_eq', exists_eq_left', Value.int.injEq, Value.bool.injEq, Value.pointer.injEq, Value.string.injEq]
    refine bsW_ones ty22mkI rfl rfl (by decide) (by decide) (by intro v hv; rw [List.mem_singleton] at hv; subst hv; rfl) ?_
    simp (disch := first | omega | exact okFill_t rfl | exact okSize_t rfl | exact fun h => h | (simp only [World.size_alloc, World.size_drew, World.size_setCell, size_fill, bytesW]; omega)) only [go_sem, ↓reduceIte, reduceCtorEq, Nat.reduceBEq, Nat.reduceEqDiff, Nat.reduceAdd, Nat.reduceMul, Int.reduceNe, Int.reduceEq, Int.reduceLT, Int.reduceLE, Int.reduceNeg, Int.reduceAdd, Int.reduceSub, Int.reduceMul, Int.reduceToNat, beq_self_eq_true, c9, c9S0, c9S1, c9S3, c9S4, c9S5, storeW_fill, List.setIfInBounds_toArray, List.set_cons_zero, List.set_cons_succ, List.getElem_toArray, List.getElem_cons_zero, List.getElem_cons_succ, Nat.reduceLeDiff, Nat.reduceSub, okSt_nil, okSt_cons, fillO_some, fillO_none, cF_same, cF_blk, fF_any, size_fill, Value.oneCell', Int.toNat_natCast, Int.cast_ofNat_Int, cast0, cast1, Int.natCast_add, add_block, add_off, Classical.not_not, decide_not, Bool.not_eq_false, decide_true, decide_false, Bool.true_beq, Bool.false_beq, beq_true, beq_false, Bool.true_bne, Bool.false_bne, Bool.bne_true, Bool.bne_false, decide_eq_true_eq, Bool.not_eq_eq_eq_not, Nat.mul_one, List.size_toArray, List.length_cons, List.length_nil, Nat.le_refl, ldK_int, ldK_bool, ldK_str, ldK_slice, ldK_ptr, ldK_map, ldK_agg, ldK_other, ldO_int, ldO_bool, ldO_str, ldO_slice, ldO_ptr, ldO_map, ldO_other, ldA_some, cellsO_new, cellsO_nil, cellsC_some, cellsO_drew, cellsO_alloc, cA_add, cS_add, cA_new, cA_old, fA_new, fA_old, setO_some, cS_same, cS_off, cS_blk, World.cell?_drew, World.frozen?_drew, World.frozen?_setCell, World.size_alloc, World.size_drew, World.size_setCell, heldX_eq, heldX_add, chg_refl, chg_drew, ovr_nil, ovr_cons, Option.getD_some, Option.getD_none, Addr.add_lit, Nat.add_zero, Option.some.injEq, exists_eq', exists_eq_left', Value.int.injEq, Value.bool.injEq, Value.pointer.injEq, Value.string.injEq]
    have hx : Rd (w4.alloc (.cells #[.string (ofL [])] 9)) 1 (.slice (some ⟨w4.heap.size, 0, none⟩) 1 1) 1 (strE []) := rd_new (n := 1) (cs := #[.string (ofL [])]) rfl
    refine (s4.alloc' (.cells #[.string (ofL [])] 9)).append 0 rfl ty22mkI rfl (by decide) hx (strE_one []) (by omega) (by omega) ?_
    intro v6 w6 s6 c6
    simp only [List.set_cons_zero] at s6
    have e6 : L.flatMap strE ++ strE [] = (L ++ [[]]).flatMap strE := by rw [List.flatMap_append]; simp
    have e7 : L.length + 1 = (L ++ [[]]).length := by simp
    rw [e6, e7] at s6
    simp (disch := first | omega | exact okFill_t rfl | exact okSize_t rfl | exact fun h => h | (simp only [World.size_alloc, World.size_drew, World.size_setCell, size_fill, bytesW]; omega)) only [go_sem, ↓reduceIte, reduceCtorEq, Nat.reduceBEq, Nat.reduceEqDiff, Nat.reduceAdd, Nat.reduceMul, Int.reduceNe, Int.reduceEq, Int.reduceLT, Int.reduceLE, Int.reduceNeg, Int.reduceAdd, Int.reduceSub, Int.reduceMul, Int.reduceToNat, beq_self_eq_true, c9, c9S0, c9S1, c9S3, c9S4, c9S5, storeW_fill, List.setIfInBounds_toArray, List.set_cons_zero, List.set_cons_succ, List.getElem_toArray, List.getElem_cons_zero, List.getElem_cons_succ, Nat.reduceLeDiff, Nat.reduceSub, okSt_nil, okSt_cons, fillO_some, fillO_none, cF_same, cF_blk, fF_any, size_fill, Value.oneCell', Int.toNat_natCast, Int.cast_ofNat_Int, cast0, cast1, Int.natCast_add, add_block, add_off, Classical.not_not, decide_not, Bool.not_eq_false, decide_true, decide_false, Bool.true_beq, Bool.false_beq, beq_true, beq_false, Bool.true_bne, Bool.false_bne, Bool.bne_true, Bool.bne_false, decide_eq_true_eq, Bool.not_eq_eq_eq_not, Nat.mul_one, List.size_toArray, List.length_cons, List.length_nil, Nat.le_refl, ldK_int, ldK_bool, ldK_str, ldK_slice, ldK_ptr, ldK_map, ldK_agg, ldK_other, ldO_int, ldO_bool, ldO_str, ldO_slice, ldO_ptr, ldO_map, ldO_other, ldA_some, cellsO_new, cellsO_nil, cellsC_some, cellsO_drew, cellsO_alloc, cA_add, cS_add, cA_new, cA_old, fA_new, fA_old, setO_some, cS_same, cS_off, cS_blk, World.cell?_drew, World.frozen?_drew, World.frozen?_setCell, World.size_alloc, World.size_drew, World.size_setCell, heldX_eq, heldX_add, chg_refl, chg_drew, ovr_nil, ovr_cons, Option.getD_some, Option.getD_none, Addr.add_lit, Nat.add_zero, Option.some.injEq, exists_eq', exists_eq_left', Value.int.injEq, Value.bool.injEq, Value.pointer.injEq, Value.string.injEq]
    have e8 : (L ++ [[]]).set L.length r = L ++ [r] := by rw [List.set_append_right _ _ (Nat.le_refl _), Nat.sub_self]; rfl
    have e1 : withP (vacantP L) r L = trimP ((L ++ [[]]).set L.length r) := by unfold withP; rw [if_pos hvl, e8]
    rw [e1, hvl]
    refine put9 s6 (by simp) (by simp; omega) ⟨h.lo, h.hi, ?_⟩ fun w' b => ⟨rfl, b⟩
    rw [e8]
    have h5 := takes_trim (L ++ [r])
    have h6 := sumP_append L [r]
    rw [sumP_one] at h6
    have ht2 : takesP (L ++ [r]) = 1 + 2 * (L ++ [r]).length + sumP (L ++ [r]) := rfl
    rw [List.length_append, List.length_singleton] at ht2
    unfold freeP at hfr
    rw [if_pos hvl] at hfr
    omega
end Go.Proofs.Ytkofhjopeppnoaa
