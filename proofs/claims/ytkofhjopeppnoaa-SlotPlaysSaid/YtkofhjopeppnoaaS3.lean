/- A page laid: its bytes. -/
import Derived.Test.YtkofhjopeppnoaaS2
namespace Go.Proofs.Ytkofhjopeppnoaa
set_option linter.unusedSimpArgs false
set_option linter.unusedVariables false
set_option maxRecDepth 100000
open Go Go.Ann Go.RowKit
def u8 (n : Nat) : UInt8 := UInt8.ofNat n
theorem wrap_u8 (n : Nat) : IntKind.u8.wrap (n : Int) = ((u8 n).toNat : Int) := by
  rw [wrap_u8_mod]
  unfold u8
  simp
def bytesC (b : List UInt8) : Array Value := (b.map fun x => Value.int .u8 x.toNat).toArray
theorem bytesC_size (b : List UInt8) : (bytesC b).size = b.length := by simp [bytesC]
theorem bytesC_set (b : List UInt8) (j : Nat) (x : UInt8) : (bytesC b).setIfInBounds j (.int .u8 x.toNat) = bytesC (b.set j x) := by
  simp [bytesC, List.map_set]
theorem bytesC_get {b : List UInt8} {j : Nat} (h : j < b.length) : ∃ v, (bytesC b)[j]? = some v := ⟨.int .u8 b[j].toNat, by simp [bytesC, h]⟩
/-- Bytes put in, the first k of them. -/
def putTo (b : List UInt8) (e : Nat) (r : List UInt8) (k : Nat) : List UInt8 := b.take e ++ r.take k ++ b.drop (e + k)
theorem putTo_len {b r : List UInt8} {e k : Nat} (h : e + k ≤ b.length) (hk : k ≤ r.length) : (putTo b e r k).length = b.length := by
  unfold putTo; simp; omega
theorem putTo_zero (b r : List UInt8) (e : Nat) : putTo b e r 0 = b := by unfold putTo; simp
theorem putTo_succ {b r : List UInt8} {e k : Nat} (h : e + k < b.length) (hk : k < r.length) : (putTo b e r k).set (e + k) r[k] = putTo b e r (k + 1) := by
  unfold putTo
  have h1 : (b.take e ++ r.take k).length = e + k := by simp; omega
  rw [List.set_append_right _ _ (by omega), h1, Nat.sub_self, List.drop_eq_getElem_cons h, List.set_cons_zero, List.take_succ_eq_append_getElem hk, Nat.add_assoc]
  simp only [List.append_assoc, List.singleton_append]
def putAt (b : List UInt8) (e : Nat) (r : List UInt8) : List UInt8 := putTo b e r r.length
def layS (i : Nat) (st : List UInt8 × Nat) (r : List UInt8) : List UInt8 × Nat :=
  if r = [] then st else (putAt ((st.1.set (1 + 2 * i) (u8 (st.2 - r.length))).set (2 + 2 * i) (u8 r.length)) (st.2 - r.length) r, st.2 - r.length)
/-- A page, laid, so far. -/
def layTo (size : Nat) (L : List (List UInt8)) : Nat → List UInt8 × Nat
  | 0 => ((List.replicate size 0).set 0 (u8 L.length), size)
  | k + 1 => match L[k]? with | some r => layS k (layTo size L k) r | none => layTo size L k
def textP (size : Nat) (L : List (List UInt8)) : List UInt8 := (layTo size L L.length).1
theorem layTo_succ {size : Nat} {L : List (List UInt8)} {k : Nat} (h : k < L.length) : layTo size L (k + 1) = layS k (layTo size L k) L[k] := by
  simp only [layTo, List.getElem?_eq_getElem h]
/-- What may be laid. -/
structure Fits (size : Nat) (L : List (List UInt8)) : Prop where
  lo : 8 ≤ size
  hi : size ≤ 256
  room : takesP L ≤ size
theorem layTo_end {size : Nat} {L : List (List UInt8)} (h : Fits size L) : ∀ {k : Nat}, k ≤ L.length → (layTo size L k).2 + sumP (L.take k) = size
  | 0, _ => by simp [layTo, sumP]
  | k + 1, hk => by
    have ih := layTo_end h (k := k) (by omega)
    have h1 := sumP_take (L := L) (k := k) (by omega)
    have h2 := sumP_le (L := L) (k + 1)
    have h3 := h.room
    unfold takesP at h3
    rw [layTo_succ (by omega)]
    unfold layS
    split
    · rename_i e; rw [e] at h1; simp at h1; omega
    · simp only; omega
theorem layTo_len {size : Nat} {L : List (List UInt8)} (h : Fits size L) : ∀ {k : Nat}, k ≤ L.length → (layTo size L k).1.length = size
  | 0, _ => by simp [layTo]
  | k + 1, hk => by
    have ih := layTo_len h (k := k) (by omega)
    have he := layTo_end h (k := k) (by omega)
    have h1 := sumP_take (L := L) (k := k) (by omega)
    have h2 := sumP_le (L := L) (k + 1)
    have h3 := h.room
    unfold takesP at h3
    rw [layTo_succ (by omega)]
    unfold layS
    split
    · exact ih
    · unfold putAt
      rw [putTo_len (by rw [List.length_set, List.length_set, ih]; omega) (Nat.le_refl _), List.length_set, List.length_set, ih]
theorem zeros_bytes (n : Nat) : zerosA (.int .u8 0) n = bytesC (List.replicate n 0) := by simp [zerosA, bytesC]
theorem rtext_ok (u : Value) (size : Nat) (L : List (List UInt8)) (w : World) (h : PgV w u size L) (hf : Fits size L) :
    Ret Try.prog 11 [u] w fun u w' => u = .string (ofL (textP size L)) ∧ Below w.heap.size w w' := by
  obtain ⟨v, rfl, h⟩ := h
  obtain ⟨a, c, rfl, _⟩ := h.form
  have hhi := hf.hi
  have hlo := hf.lo
  have hroom := hf.room
  unfold takesP at hroom
  refine ent11 _ _ _ ?_
  simp (disch := first | omega | exact okFill_t rfl | exact okSize_t rfl | exact fun h => h | (simp only [World.size_alloc, World.size_drew, World.size_setCell, size_fill, bytesW]; omega)) only [go_sem, ↓reduceIte, reduceCtorEq, Nat.reduceBEq, Nat.reduceEqDiff, Nat.reduceAdd, Nat.reduceMul, Int.reduceNe, Int.reduceEq, Int.reduceLT, Int.reduceLE, Int.reduceNeg, Int.reduceAdd, Int.reduceSub, Int.reduceMul, Int.reduceToNat, beq_self_eq_true, c11, c11S0, c11L0, c11S1, c11S2, c11S3, c11L1, c11S4, storeW_fill, List.setIfInBounds_toArray, List.set_cons_zero, List.set_cons_succ, List.getElem_toArray, List.getElem_cons_zero, List.getElem_cons_succ, Nat.reduceLeDiff, Nat.reduceSub, okSt_nil, okSt_cons, fillO_some, fillO_none, cF_same, cF_blk, fF_any, size_fill, Value.oneCell', Int.toNat_natCast, Int.cast_ofNat_Int, cast0, cast1, Int.natCast_add, add_block, add_off, Classical.not_not, decide_not, Bool.not_eq_false, decide_true, decide_false, Bool.true_beq, Bool.false_beq, beq_true, beq_false, Bool.true_bne, Bool.false_bne, Bool.bne_true, Bool.bne_false, decide_eq_true_eq, Bool.not_eq_eq_eq_not, Nat.mul_one, List.size_toArray, List.length_cons, List.length_nil, Nat.le_refl, ldK_int, ldK_bool, ldK_str, ldK_slice, ldK_ptr, ldK_map, ldK_agg, ldK_other, ldO_int, ldO_bool, ldO_str, ldO_slice, ldO_ptr, ldO_map, ldO_other, ldA_some, cellsO_new, cellsO_nil, cellsC_some, cellsO_drew, cellsO_alloc, cA_add, cS_add, cA_new, cA_old, fA_new, fA_old, setO_some, cS_same, cS_off, cS_blk, World.cell?_drew, World.frozen?_drew, World.frozen?_setCell, World.size_alloc, World.size_drew, World.size_setCell, heldX_eq, heldX_add, chg_refl, chg_drew, ovr_nil, ovr_cons, Option.getD_some, Option.getD_none, Addr.add_lit, Nat.add_zero, Option.some.injEq, exists_eq', exists_eq_left', Value.int.injEq, Value.bool.injEq, Value.pointer.injEq, Value.string.injEq]
  have s1 := (St.start (W0 := w)).box #[.int .i64 size, .slice a L.length c] 24
  obtain ⟨b0, hb0⟩ : ∃ b, b = w.heap.size := ⟨_, rfl⟩
  have hbb : ∀ w', Below w.heap.size w w' → Below b0 w w' := fun _ h => by rw [hb0]; exact h
  rw [← hb0] at s1 ⊢
  generalize w.alloc (.cells #[.int .i64 size, .slice a L.length c] 24) = w1 at s1 ⊢
  have r1 := s1.rules 0 rfl
  refine msW_one ty54mkI rfl (by omega) (by omega) (by omega) (by omega) ?_
  rw [Int.toNat_natCast, zeros_bytes]
  have s2 := s1.box (bytesC (List.replicate size 0)) 5
  obtain ⟨g, hg⟩ : ∃ g, g = w1.heap.size := ⟨_, rfl⟩
  rw [← hg] at s2 ⊢
  generalize w1.alloc (.cells (bytesC (List.replicate size 0)) 5) = w2 at s2 ⊢
  have r2 := s2.rules 1 rfl
  have q2 := s2.rules 0 rfl
  simp (disch := first | omega | exact okFill_t rfl | exact okSize_t rfl | exact fun h => h | (simp only [World.size_alloc, World.size_drew, World.size_setCell, size_fill, bytesW]; omega)) only [go_sem, ↓reduceIte, reduceCtorEq, Nat.reduceBEq, Nat.reduceEqDiff, Nat.reduceAdd, Nat.reduceMul, Int.reduceNe, Int.reduceEq, Int.reduceLT, Int.reduceLE, Int.reduceNeg, Int.reduceAdd, Int.reduceSub, Int.reduceMul, Int.reduceToNat, beq_self_eq_true, c11, c11S0, c11L0, c11S1, c11S2, c11S3, c11L1, c11S4, r2, q2, storeW_fill, List.setIfInBounds_toArray, List.set_cons_zero, List.set_cons_succ, List.getElem_toArray, List.getElem_cons_zero, List.getElem_cons_succ, Nat.reduceLeDiff, Nat.reduceSub, okSt_nil, okSt_cons, fillO_some, fillO_none, cF_same, cF_blk, fF_any, size_fill, Value.oneCell', Int.toNat_natCast, Int.cast_ofNat_Int, cast0, cast1, Int.natCast_add, add_block, add_off, Classical.not_not, decide_not, Bool.not_eq_false, decide_true, decide_false, Bool.true_beq, Bool.false_beq, beq_true, beq_false, Bool.true_bne, Bool.false_bne, Bool.bne_true, Bool.bne_false, decide_eq_true_eq, Bool.not_eq_eq_eq_not, Nat.mul_one, List.size_toArray, List.length_cons, List.length_nil, Nat.le_refl, ldK_int, ldK_bool, ldK_str, ldK_slice, ldK_ptr, ldK_map, ldK_agg, ldK_other, ldO_int, ldO_bool, ldO_str, ldO_slice, ldO_ptr, ldO_map, ldO_other, ldA_some, cellsO_new, cellsO_nil, cellsC_some, cellsO_drew, cellsO_alloc, cA_add, cS_add, cA_new, cA_old, fA_new, fA_old, setO_some, cS_same, cS_off, cS_blk, World.cell?_drew, World.frozen?_drew, World.frozen?_setCell, World.size_alloc, World.size_drew, World.size_setCell, heldX_eq, heldX_add, chg_refl, chg_drew, ovr_nil, ovr_cons, Option.getD_some, Option.getD_none, Addr.add_lit, Nat.add_zero, Option.some.injEq, exists_eq', exists_eq_left', Value.int.injEq, Value.bool.injEq, Value.pointer.injEq, Value.string.injEq]
  refine ⟨by omega, bytesC_get (by simp; omega), ?_⟩
  have s3 := s2.set 0 rfl 0 (.int .u8 (IntKind.u8.wrap (L.length : Int)))
  simp only [List.set_cons_zero] at s3
  rw [wrap_u8, bytesC_set] at s3
  rw [wrap_u8]
  generalize w2.setCell ⟨g, 0, none⟩ (.int .u8 ((u8 L.length).toNat : Int)) = w3 at s3 ⊢
  have q3 := s3.rules 1 rfl
  simp (disch := first | omega | exact okFill_t rfl | exact okSize_t rfl | exact fun h => h | (simp only [World.size_alloc, World.size_drew, World.size_setCell, size_fill, bytesW]; omega)) only [go_sem, ↓reduceIte, reduceCtorEq, Nat.reduceBEq, Nat.reduceEqDiff, Nat.reduceAdd, Nat.reduceMul, Int.reduceNe, Int.reduceEq, Int.reduceLT, Int.reduceLE, Int.reduceNeg, Int.reduceAdd, Int.reduceSub, Int.reduceMul, Int.reduceToNat, beq_self_eq_true, c11, c11S0, c11L0, c11S1, c11S2, c11S3, c11L1, c11S4, q3, storeW_fill, List.setIfInBounds_toArray, List.set_cons_zero, List.set_cons_succ, List.getElem_toArray, List.getElem_cons_zero, List.getElem_cons_succ, Nat.reduceLeDiff, Nat.reduceSub, okSt_nil, okSt_cons, fillO_some, fillO_none, cF_same, cF_blk, fF_any, size_fill, Value.oneCell', Int.toNat_natCast, Int.cast_ofNat_Int, cast0, cast1, Int.natCast_add, add_block, add_off, Classical.not_not, decide_not, Bool.not_eq_false, decide_true, decide_false, Bool.true_beq, Bool.false_beq, beq_true, beq_false, Bool.true_bne, Bool.false_bne, Bool.bne_true, Bool.bne_false, decide_eq_true_eq, Bool.not_eq_eq_eq_not, Nat.mul_one, List.size_toArray, List.length_cons, List.length_nil, Nat.le_refl, ldK_int, ldK_bool, ldK_str, ldK_slice, ldK_ptr, ldK_map, ldK_agg, ldK_other, ldO_int, ldO_bool, ldO_str, ldO_slice, ldO_ptr, ldO_map, ldO_other, ldA_some, cellsO_new, cellsO_nil, cellsC_some, cellsO_drew, cellsO_alloc, cA_add, cS_add, cA_new, cA_old, fA_new, fA_old, setO_some, cS_same, cS_off, cS_blk, World.cell?_drew, World.frozen?_drew, World.frozen?_setCell, World.size_alloc, World.size_drew, World.size_setCell, heldX_eq, heldX_add, chg_refl, chg_drew, ovr_nil, ovr_cons, Option.getD_some, Option.getD_none, Addr.add_lit, Nat.add_zero, Option.some.injEq, exists_eq', exists_eq_left', Value.int.injEq, Value.bool.injEq, Value.pointer.injEq, Value.string.injEq]
  refine W_loopU (fun i : Nat => [(4, .int .i64 ((layTo size L i).2 : Nat)), (5, .int .i64 i)]) (fun i w' => St w w' (fun _ => False) [.blk g (bytesC (layTo size L i).1) 5, .blk b0 #[.int .i64 size, .slice a L.length c] 24] [] ∧ i ≤ L.length) (fun i => L.length - i) 0 rfl ⟨s3, Nat.zero_le _⟩ ?_
  rintro i w4 ⟨s4, hi⟩
  have h4 := h.below s4.bel (by decide)
  have q4 := s4.rules 1 rfl
  by_cases hlt : i < L.length
  · have hlt' : (i : Int) < L.length := by omega
    obtain ⟨p, rfl⟩ := h.ptr (by omega)
    have ei := RdS.str h4 hlt
    have hend := layTo_end hf (k := i) hi
    have hlen := layTo_len hf (k := i) hi
    have hs1 := sumP_take hlt
    have hs2 := sumP_le (L := L) (i + 1)
    have hsucc := layTo_succ (size := size) hlt
    have ht1 : ((1 : Int) + 2 * (i : Int)).toNat = 1 + 2 * i := by omega
    have ht2 : ((2 : Int) + 2 * (i : Int)).toNat = 2 + 2 * i := by omega
    obtain ⟨e, he⟩ : ∃ e, e = (layTo size L i).2 - L[i].length := ⟨_, rfl⟩
    have hee : ((layTo size L i).2 : Int) - (L[i].length : Int) = (e : Int) := by omega
    have r4 := s4.rules 0 rfl
    simp (disch := first | omega | exact okFill_t rfl | exact okSize_t rfl | exact fun h => h | (simp only [World.size_alloc, World.size_drew, World.size_setCell, size_fill, bytesW]; omega)) only [go_sem, ↓reduceIte, reduceCtorEq, Nat.reduceBEq, Nat.reduceEqDiff, Nat.reduceAdd, Nat.reduceMul, Int.reduceNe, Int.reduceEq, Int.reduceLT, Int.reduceLE, Int.reduceNeg, Int.reduceAdd, Int.reduceSub, Int.reduceMul, Int.reduceToNat, beq_self_eq_true, c11, c11S0, c11L0, c11S1, c11S2, c11S3, c11L1, c11S4, hlt', ei, q4, storeW_fill, List.setIfInBounds_toArray, List.set_cons_zero, List.set_cons_succ, List.getElem_toArray, List.getElem_cons_zero, List.getElem_cons_succ, Nat.reduceLeDiff, Nat.reduceSub, okSt_nil, okSt_cons, fillO_some, fillO_none, cF_same, cF_blk, fF_any, size_fill, Value.oneCell', Int.toNat_natCast, Int.cast_ofNat_Int, cast0, cast1, Int.natCast_add, add_block, add_off, Classical.not_not, decide_not, Bool.not_eq_false, decide_true, decide_false, Bool.true_beq, Bool.false_beq, beq_true, beq_false, Bool.true_bne, Bool.false_bne, Bool.bne_true, Bool.bne_false, decide_eq_true_eq, Bool.not_eq_eq_eq_not, Nat.mul_one, List.size_toArray, List.length_cons, List.length_nil, Nat.le_refl, ldK_int, ldK_bool, ldK_str, ldK_slice, ldK_ptr, ldK_map, ldK_agg, ldK_other, ldO_int, ldO_bool, ldO_str, ldO_slice, ldO_ptr, ldO_map, ldO_other, ldA_some, cellsO_new, cellsO_nil, cellsC_some, cellsO_drew, cellsO_alloc, cA_add, cS_add, cA_new, cA_old, fA_new, fA_old, setO_some, cS_same, cS_off, cS_blk, World.cell?_drew, World.frozen?_drew, World.frozen?_setCell, World.size_alloc, World.size_drew, World.size_setCell, heldX_eq, heldX_add, chg_refl, chg_drew, ovr_nil, ovr_cons, Option.getD_some, Option.getD_none, Addr.add_lit, Nat.add_zero, Option.some.injEq, exists_eq', exists_eq_left', Value.int.injEq, Value.bool.injEq, Value.pointer.injEq, Value.string.injEq]
    refine ⟨by omega, fun hr => ?_, fun hr => ?_⟩
    · have hr' := of_decide_eq_true hr
      have e1 : layTo size L (i + 1) = layTo size L i := by rw [hsucc, layS, if_pos hr']
      exact ⟨⟨by omega, by omega⟩, i + 1, by rw [e1]; rfl, ⟨by rw [e1]; exact s4, by omega⟩, by omega⟩
    · have hr' := of_decide_eq_false hr
      have e1 : layTo size L (i + 1) = (putAt (((layTo size L i).1.set (1 + 2 * i) (u8 e)).set (2 + 2 * i) (u8 L[i].length)) e L[i], e) := by rw [hsucc, layS, if_neg hr', he]
      have hpos := List.length_pos_iff.2 hr'
      rw [ht1, ht2, hee, r4.1, r4.1, r4.2.1, r4.2.1]
      refine ⟨⟨by omega, by omega⟩, ⟨by omega, by omega⟩, ⟨by omega, by omega⟩, ⟨by omega, by omega⟩, bytesC_get (by omega), rfl, ⟨by omega, by omega⟩, ⟨by omega, by omega⟩, ⟨by omega, by omega⟩, bytesC_get (by omega), rfl, ?_⟩
      have s5 := (s4.set 0 rfl (1 + 2 * i) (.int .u8 (IntKind.u8.wrap (e : Int)))).set 0 rfl (2 + 2 * i) (.int .u8 (IntKind.u8.wrap (L[i].length : Int)))
      simp only [List.set_cons_zero] at s5
      rw [wrap_u8, wrap_u8, bytesC_set, bytesC_set] at s5
      rw [wrap_u8, wrap_u8]
      generalize (w4.setCell ⟨g, 1 + 2 * i, none⟩ (.int .u8 ((u8 e).toNat : Int))).setCell ⟨g, 2 + 2 * i, none⟩ (.int .u8 ((u8 L[i].length).toNat : Int)) = w5 at s5 ⊢
      obtain ⟨bb, hbbd⟩ : ∃ bb, bb = ((layTo size L i).1.set (1 + 2 * i) (u8 e)).set (2 + 2 * i) (u8 L[i].length) := ⟨_, rfl⟩
      rw [← hbbd] at s5 e1
      have hbl : bb.length = size := by rw [hbbd, List.length_set, List.length_set, hlen]
      refine W_loopU (fun k : Nat => [(7, .int .i64 k)]) (fun k w' => St w w' (fun _ => False) [.blk g (bytesC (putTo bb e L[i] k)) 5, .blk b0 #[.int .i64 size, .slice (some p) L.length c] 24] [] ∧ k ≤ L[i].length) (fun k => L[i].length - k) 0 rfl ⟨by rw [putTo_zero]; exact s5, Nat.zero_le _⟩ ?_
      rintro k w6 ⟨s6, hk⟩
      have r6 := s6.rules 0 rfl
      by_cases hkl : k < L[i].length
      · have hkl' : (k : Int) < L[i].length := by omega
        have hek : ((e : Int) + (k : Int)).toNat = e + k := by omega
        have hpl := putTo_len (b := bb) (r := L[i]) (e := e) (k := k) (by omega) hk
        have hbn := bN_get L[i] k L[i][k] (List.getElem?_eq_getElem hkl)
        simp (disch := first | omega | exact okFill_t rfl | exact okSize_t rfl | exact fun h => h | (simp only [World.size_alloc, World.size_drew, World.size_setCell, size_fill, bytesW]; omega)) only [go_sem, ↓reduceIte, reduceCtorEq, Nat.reduceBEq, Nat.reduceEqDiff, Nat.reduceAdd, Nat.reduceMul, Int.reduceNe, Int.reduceEq, Int.reduceLT, Int.reduceLE, Int.reduceNeg, Int.reduceAdd, Int.reduceSub, Int.reduceMul, Int.reduceToNat, beq_self_eq_true, c11, c11S0, c11L0, c11S1, c11S2, c11S3, c11L1, c11S4, hkl', storeW_fill, List.setIfInBounds_toArray, List.set_cons_zero, List.set_cons_succ, List.getElem_toArray, List.getElem_cons_zero, List.getElem_cons_succ, Nat.reduceLeDiff, Nat.reduceSub, okSt_nil, okSt_cons, fillO_some, fillO_none, cF_same, cF_blk, fF_any, size_fill, Value.oneCell', Int.toNat_natCast, Int.cast_ofNat_Int, cast0, cast1, Int.natCast_add, add_block, add_off, Classical.not_not, decide_not, Bool.not_eq_false, decide_true, decide_false, Bool.true_beq, Bool.false_beq, beq_true, beq_false, Bool.true_bne, Bool.false_bne, Bool.bne_true, Bool.bne_false, decide_eq_true_eq, Bool.not_eq_eq_eq_not, Nat.mul_one, List.size_toArray, List.length_cons, List.length_nil, Nat.le_refl, ldK_int, ldK_bool, ldK_str, ldK_slice, ldK_ptr, ldK_map, ldK_agg, ldK_other, ldO_int, ldO_bool, ldO_str, ldO_slice, ldO_ptr, ldO_map, ldO_other, ldA_some, cellsO_new, cellsO_nil, cellsC_some, cellsO_drew, cellsO_alloc, cA_add, cS_add, cA_new, cA_old, fA_new, fA_old, setO_some, cS_same, cS_off, cS_blk, World.cell?_drew, World.frozen?_drew, World.frozen?_setCell, World.size_alloc, World.size_drew, World.size_setCell, heldX_eq, heldX_add, chg_refl, chg_drew, ovr_nil, ovr_cons, Option.getD_some, Option.getD_none, Addr.add_lit, Nat.add_zero, Option.some.injEq, exists_eq', exists_eq_left', Value.int.injEq, Value.bool.injEq, Value.pointer.injEq, Value.string.injEq]
        rw [hek, hbn, r6.1, r6.2.1]
        have s7 := s6.set 0 rfl (e + k) (.int .u8 (L[i][k].toNat : Int))
        simp only [List.set_cons_zero] at s7
        rw [bytesC_set, putTo_succ (by omega) hkl] at s7
        exact ⟨⟨by omega, by omega⟩, by omega, ⟨by omega, by omega⟩, bytesC_get (by omega), rfl, ⟨by omega, by omega⟩, k + 1, rfl, ⟨s7, by omega⟩, by omega⟩
      · have hkl' : ¬ (k : Int) < L[i].length := by omega
        obtain rfl : k = L[i].length := by omega
        simp (disch := first | omega | exact okFill_t rfl | exact okSize_t rfl | exact fun h => h | (simp only [World.size_alloc, World.size_drew, World.size_setCell, size_fill, bytesW]; omega)) only [go_sem, ↓reduceIte, reduceCtorEq, Nat.reduceBEq, Nat.reduceEqDiff, Nat.reduceAdd, Nat.reduceMul, Int.reduceNe, Int.reduceEq, Int.reduceLT, Int.reduceLE, Int.reduceNeg, Int.reduceAdd, Int.reduceSub, Int.reduceMul, Int.reduceToNat, beq_self_eq_true, c11, c11S0, c11L0, c11S1, c11S2, c11S3, c11L1, c11S4, hkl', storeW_fill, List.setIfInBounds_toArray, List.set_cons_zero, List.set_cons_succ, List.getElem_toArray, List.getElem_cons_zero, List.getElem_cons_succ, Nat.reduceLeDiff, Nat.reduceSub, okSt_nil, okSt_cons, fillO_some, fillO_none, cF_same, cF_blk, fF_any, size_fill, Value.oneCell', Int.toNat_natCast, Int.cast_ofNat_Int, cast0, cast1, Int.natCast_add, add_block, add_off, Classical.not_not, decide_not, Bool.not_eq_false, decide_true, decide_false, Bool.true_beq, Bool.false_beq, beq_true, beq_false, Bool.true_bne, Bool.false_bne, Bool.bne_true, Bool.bne_false, decide_eq_true_eq, Bool.not_eq_eq_eq_not, Nat.mul_one, List.size_toArray, List.length_cons, List.length_nil, Nat.le_refl, ldK_int, ldK_bool, ldK_str, ldK_slice, ldK_ptr, ldK_map, ldK_agg, ldK_other, ldO_int, ldO_bool, ldO_str, ldO_slice, ldO_ptr, ldO_map, ldO_other, ldA_some, cellsO_new, cellsO_nil, cellsC_some, cellsO_drew, cellsO_alloc, cA_add, cS_add, cA_new, cA_old, fA_new, fA_old, setO_some, cS_same, cS_off, cS_blk, World.cell?_drew, World.frozen?_drew, World.frozen?_setCell, World.size_alloc, World.size_drew, World.size_setCell, heldX_eq, heldX_add, chg_refl, chg_drew, ovr_nil, ovr_cons, Option.getD_some, Option.getD_none, Addr.add_lit, Nat.add_zero, Option.some.injEq, exists_eq', exists_eq_left', Value.int.injEq, Value.bool.injEq, Value.pointer.injEq, Value.string.injEq]
        exact ⟨⟨by omega, by omega⟩, i + 1, by rw [e1]; rfl, ⟨by rw [e1]; exact s6, by omega⟩, by omega⟩
  · have hlt' : ¬ (i : Int) < L.length := by omega
    obtain rfl : i = L.length := by omega
    have r4 := s4.rules 0 rfl
    simp (disch := first | omega | exact okFill_t rfl | exact okSize_t rfl | exact fun h => h | (simp only [World.size_alloc, World.size_drew, World.size_setCell, size_fill, bytesW]; omega)) only [go_sem, ↓reduceIte, reduceCtorEq, Nat.reduceBEq, Nat.reduceEqDiff, Nat.reduceAdd, Nat.reduceMul, Int.reduceNe, Int.reduceEq, Int.reduceLT, Int.reduceLE, Int.reduceNeg, Int.reduceAdd, Int.reduceSub, Int.reduceMul, Int.reduceToNat, beq_self_eq_true, c11, c11S0, c11L0, c11S1, c11S2, c11S3, c11L1, c11S4, hlt', r4, q4, storeW_fill, List.setIfInBounds_toArray, List.set_cons_zero, List.set_cons_succ, List.getElem_toArray, List.getElem_cons_zero, List.getElem_cons_succ, Nat.reduceLeDiff, Nat.reduceSub, okSt_nil, okSt_cons, fillO_some, fillO_none, cF_same, cF_blk, fF_any, size_fill, Value.oneCell', Int.toNat_natCast, Int.cast_ofNat_Int, cast0, cast1, Int.natCast_add, add_block, add_off, Classical.not_not, decide_not, Bool.not_eq_false, decide_true, decide_false, Bool.true_beq, Bool.false_beq, beq_true, beq_false, Bool.true_bne, Bool.false_bne, Bool.bne_true, Bool.bne_false, decide_eq_true_eq, Bool.not_eq_eq_eq_not, Nat.mul_one, List.size_toArray, List.length_cons, List.length_nil, Nat.le_refl, ldK_int, ldK_bool, ldK_str, ldK_slice, ldK_ptr, ldK_map, ldK_agg, ldK_other, ldO_int, ldO_bool, ldO_str, ldO_slice, ldO_ptr, ldO_map, ldO_other, ldA_some, cellsO_new, cellsO_nil, cellsC_some, cellsO_drew, cellsO_alloc, cA_add, cS_add, cA_new, cA_old, fA_new, fA_old, setO_some, cS_same, cS_off, cS_blk, World.cell?_drew, World.frozen?_drew, World.frozen?_setCell, World.size_alloc, World.size_drew, World.size_setCell, heldX_eq, heldX_add, chg_refl, chg_drew, ovr_nil, ovr_cons, Option.getD_some, Option.getD_none, Addr.add_lit, Nat.add_zero, Option.some.injEq, exists_eq', exists_eq_left', Value.int.injEq, Value.bool.injEq, Value.pointer.injEq, Value.string.injEq]
    refine ⟨_, layTo_len hf (Nat.le_refl _), fun j b hb => ?_, rfl, hbb _ s4.bel⟩
    rw [Addr.add_lit, Nat.zero_add, r4.1]
    simp [bytesC, hb]
theorem setCellsW_append {p : Addr} : ∀ (l1 l2 : List Value) (i : Nat) (w : World), setCellsW w p i (l1 ++ l2) = setCellsW (setCellsW w p i l1) p (i + l1.length) l2
  | [], l2, i, w => by simp [setCellsW]
  | v :: r, l2, i, w => by
    rw [List.cons_append, setCellsW, setCellsW, setCellsW_append r l2, List.length_cons]
    congr 1; omega
/-- A text copied into a row of bytes. -/
theorem St.copyS {W0 w : World} {F : Nat → Prop} {L : List Res} {I : List Inv} {K : Value → World → Prop} (h : St W0 w F L I) (i : Nat) {g n c e : Nat} {b r : List UInt8} {ty : TypeId} {cs : Array Bool} (hi : L[i]? = some (.blk g (bytesC b) 5))
    (hr : r.length ≤ n) (hb : e + r.length ≤ b.length) (hK : ∀ w', St W0 w' F (L.set i (.blk g (bytesC (putAt b e r)) 5)) I → K (.int .i64 r.length) w') :
    rawB Try.prog .copy #[54, 9] ty cs [.slice (some ⟨g, e, none⟩) n c, .string (ofL r)] w K := by
  have hb0 := h.blk i hi
  have rr := hb0.rules
  have hu : Try.prog.underlying 54 = some (.slice 5) := by kernel_rfl
  have hsz : (sizeOf 5).run Try.prog w = .ok 1 w := by kernel_rfl
  have hex : ((ofL r).extract 0 r.length).data.map (fun b => Value.int .u8 b.toNat) = (r.map fun b => Value.int .u8 b.toNat).toArray := by
    have : (ofL r).extract 0 r.length = ofL r := by
      have h1 : (ofL r).size = r.length := by simp [ofL, ByteArray.size]
      rw [← h1]; exact ByteArray.extract_zero_size
    rw [this]; simp [ofL]
  have hst := run_storeCells_W (P := Try.prog) (r.map fun b => Value.int .u8 b.toNat) 0 w ⟨g, e, none⟩ (by intro u hu; obtain ⟨x, _, rfl⟩ := List.mem_map.1 hu; rfl) (fun j hj => by
    rw [List.length_map] at hj
    rw [Nat.zero_add, Addr.add_lit, rr.1, rr.2.1]
    exact ⟨bytesC_get (by omega), rfl⟩)
  refine ⟨.int .i64 r.length, setCellsW w ⟨g, e, none⟩ 0 (r.map fun b => Value.int .u8 b.toNat), ?_, hK _ ?_⟩
  · have h1 : (ofL r).size = r.length := by simp [ofL, ByteArray.size]
    have hmin : Nat.min r.length n = r.length := Nat.min_eq_left hr
    simp only [builtin, Builtin.copy_, Sem.run_bind, run_underlying hu, Result.andThen, Sem.run_pure, Builtin.lenOf, Builtin.firstCells, hsz, h1, hmin, hex, hst]
    have e3 : (ofL r).size.min n = r.length := by rw [h1]; exact hmin
    have e4 : List.take r.length (List.map (fun b => Value.int .u8 b.toNat) (ofL r).data.toList) = r.map fun b => Value.int .u8 b.toNat := by
      rw [List.take_of_length_le (by simp [ofL])]; rfl
    simp [Result.andThen, goInt, Sem.run_bind, e3, e4, hst]
  · have key : ∀ (k : Nat), k ≤ r.length → St W0 (setCellsW w ⟨g, e, none⟩ 0 ((r.take k).map fun b => Value.int .u8 b.toNat)) F (L.set i (.blk g (bytesC (putTo b e r k)) 5)) I := by
      intro k
      induction k with
      | zero =>
        intro _
        rw [putTo_zero]
        have e0 : L.set i (.blk g (bytesC b) 5) = L := by
          apply List.ext_getElem?
          intro j
          rw [List.getElem?_set]
          split
          · rename_i e; subst e; rw [hi]; simp [(List.getElem?_eq_some_iff.1 hi).1]
          · rfl
        rw [e0]; exact h
      | succ k ih =>
        intro hk
        have ih' := ih (by omega)
        have hlt : i < L.length := (List.getElem?_eq_some_iff.1 hi).1
        have s' := ih'.set i (by rw [List.getElem?_set_self hlt]) (e + k) (.int .u8 (r[k].toNat : Int))
        rw [List.set_set, bytesC_set, putTo_succ (by omega) (by omega)] at s'
        rw [List.take_succ_eq_append_getElem (by omega), List.map_append, setCellsW_append]
        simp only [List.map_cons, List.map_nil, setCellsW, List.length_map, List.length_take, Nat.zero_add, Addr.add_lit, Nat.min_eq_left (show k ≤ r.length by omega)]
        exact s'
    have := key r.length (Nat.le_refl _)
    rw [List.take_length] at this
    exact this
theorem layC {b r : List UInt8} {e j : Nat} {x : UInt8} (hj : j < e) (hb : e + r.length ≤ b.length) : (putAt b e r).set j x = putAt (b.set j x) e r := by
  unfold putAt putTo
  rw [List.append_assoc, List.set_append_left _ _ (by simp; omega), List.take_set, List.drop_set_of_lt (by omega), List.append_assoc]
theorem lay6 {a : Option Addr} {c : Nat} {size : Nat} {L : List (List UInt8)} {w : World} {K : Value → World → Prop} (h : RdS w 1 strE (.slice a L.length c) L) (hf : Fits size L) (hK : ∀ w', Below w.heap.size w w' → K (.string (ofL (textP size L))) w') :
    W Try.prog (c26S6 ()) [(0, .int .i64 size), (1, .slice a L.length c)] w (finQ Try.prog [.tmp 4] K) := by
  have hhi := hf.hi
  have hlo := hf.lo
  have hroom := hf.room
  unfold takesP at hroom
  simp (disch := first | omega | exact okFill_t rfl | exact okSize_t rfl | exact fun h => h | (simp only [World.size_alloc, World.size_drew, World.size_setCell, size_fill, bytesW]; omega)) only [go_sem, ↓reduceIte, reduceCtorEq, Nat.reduceBEq, Nat.reduceEqDiff, Nat.reduceAdd, Nat.reduceMul, Int.reduceNe, Int.reduceEq, Int.reduceLT, Int.reduceLE, Int.reduceNeg, Int.reduceAdd, Int.reduceSub, Int.reduceMul, Int.reduceToNat, beq_self_eq_true, c26, c26S0, c26L0, c26S1, c26S2, c26S3, c26S4, c26L1, c26S5, c26S6, storeW_fill, List.setIfInBounds_toArray, List.set_cons_zero, List.set_cons_succ, List.getElem_toArray, List.getElem_cons_zero, List.getElem_cons_succ, Nat.reduceLeDiff, Nat.reduceSub, okSt_nil, okSt_cons, fillO_some, fillO_none, cF_same, cF_blk, fF_any, size_fill, Value.oneCell', Int.toNat_natCast, Int.cast_ofNat_Int, cast0, cast1, Int.natCast_add, add_block, add_off, Classical.not_not, decide_not, Bool.not_eq_false, decide_true, decide_false, Bool.true_beq, Bool.false_beq, beq_true, beq_false, Bool.true_bne, Bool.false_bne, Bool.bne_true, Bool.bne_false, decide_eq_true_eq, Bool.not_eq_eq_eq_not, Nat.mul_one, List.size_toArray, List.length_cons, List.length_nil, Nat.le_refl, ldK_int, ldK_bool, ldK_str, ldK_slice, ldK_ptr, ldK_map, ldK_agg, ldK_other, ldO_int, ldO_bool, ldO_str, ldO_slice, ldO_ptr, ldO_map, ldO_other, ldA_some, cellsO_new, cellsO_nil, cellsC_some, cellsO_drew, cellsO_alloc, cA_add, cS_add, cA_new, cA_old, fA_new, fA_old, setO_some, cS_same, cS_off, cS_blk, World.cell?_drew, World.frozen?_drew, World.frozen?_setCell, World.size_alloc, World.size_drew, World.size_setCell, heldX_eq, heldX_add, chg_refl, chg_drew, ovr_nil, ovr_cons, Option.getD_some, Option.getD_none, Addr.add_lit, Nat.add_zero, Option.some.injEq, exists_eq', exists_eq_left', Value.int.injEq, Value.bool.injEq, Value.pointer.injEq, Value.string.injEq]
  refine msW_one ty54mkI rfl (by omega) (by omega) (by omega) (by omega) ?_
  rw [Int.toNat_natCast, zeros_bytes]
  have s2 := (St.start (W0 := w)).box (bytesC (List.replicate size 0)) 5
  obtain ⟨g, hg⟩ : ∃ g, g = w.heap.size := ⟨_, rfl⟩
  rw [← hg] at s2 ⊢
  generalize w.alloc (.cells (bytesC (List.replicate size 0)) 5) = w2 at s2 ⊢
  have r2 := s2.rules 0 rfl
  simp (disch := first | omega | exact okFill_t rfl | exact okSize_t rfl | exact fun h => h | (simp only [World.size_alloc, World.size_drew, World.size_setCell, size_fill, bytesW]; omega)) only [go_sem, ↓reduceIte, reduceCtorEq, Nat.reduceBEq, Nat.reduceEqDiff, Nat.reduceAdd, Nat.reduceMul, Int.reduceNe, Int.reduceEq, Int.reduceLT, Int.reduceLE, Int.reduceNeg, Int.reduceAdd, Int.reduceSub, Int.reduceMul, Int.reduceToNat, beq_self_eq_true, c26, c26S0, c26L0, c26S1, c26S2, c26S3, c26S4, c26L1, c26S5, c26S6, r2, storeW_fill, List.setIfInBounds_toArray, List.set_cons_zero, List.set_cons_succ, List.getElem_toArray, List.getElem_cons_zero, List.getElem_cons_succ, Nat.reduceLeDiff, Nat.reduceSub, okSt_nil, okSt_cons, fillO_some, fillO_none, cF_same, cF_blk, fF_any, size_fill, Value.oneCell', Int.toNat_natCast, Int.cast_ofNat_Int, cast0, cast1, Int.natCast_add, add_block, add_off, Classical.not_not, decide_not, Bool.not_eq_false, decide_true, decide_false, Bool.true_beq, Bool.false_beq, beq_true, beq_false, Bool.true_bne, Bool.false_bne, Bool.bne_true, Bool.bne_false, decide_eq_true_eq, Bool.not_eq_eq_eq_not, Nat.mul_one, List.size_toArray, List.length_cons, List.length_nil, Nat.le_refl, ldK_int, ldK_bool, ldK_str, ldK_slice, ldK_ptr, ldK_map, ldK_agg, ldK_other, ldO_int, ldO_bool, ldO_str, ldO_slice, ldO_ptr, ldO_map, ldO_other, ldA_some, cellsO_new, cellsO_nil, cellsC_some, cellsO_drew, cellsO_alloc, cA_add, cS_add, cA_new, cA_old, fA_new, fA_old, setO_some, cS_same, cS_off, cS_blk, World.cell?_drew, World.frozen?_drew, World.frozen?_setCell, World.size_alloc, World.size_drew, World.size_setCell, heldX_eq, heldX_add, chg_refl, chg_drew, ovr_nil, ovr_cons, Option.getD_some, Option.getD_none, Addr.add_lit, Nat.add_zero, Option.some.injEq, exists_eq', exists_eq_left', Value.int.injEq, Value.bool.injEq, Value.pointer.injEq, Value.string.injEq]
  refine ⟨by omega, bytesC_get (by simp; omega), ?_⟩
  have s3 := s2.set 0 rfl 0 (.int .u8 (IntKind.u8.wrap (L.length : Int)))
  simp only [List.set_cons_zero] at s3
  rw [wrap_u8, bytesC_set] at s3
  rw [wrap_u8]
  generalize w2.setCell ⟨g, 0, none⟩ (.int .u8 ((u8 L.length).toNat : Int)) = w3 at s3 ⊢
  refine W_loopU (fun i : Nat => [(6, .int .i64 ((layTo size L i).2 : Nat)), (36, .int .i64 i)]) (fun i w' => St w w' (fun _ => False) [.blk g (bytesC (layTo size L i).1) 5] [] ∧ i ≤ L.length) (fun i => L.length - i) 0 rfl ⟨s3, Nat.zero_le _⟩ ?_
  rintro i w4 ⟨s4, hi⟩
  have h4 := h.below s4.bel (by decide)
  by_cases hlt : i < L.length
  · have hlt' : (i : Int) < L.length := by omega
    obtain ⟨p, rfl⟩ := h.ptr (by omega)
    have ei := RdS.str h4 hlt
    have hend := layTo_end hf (k := i) hi
    have hlen := layTo_len hf (k := i) hi
    have hs1 := sumP_take hlt
    have hs2 := sumP_le (L := L) (i + 1)
    have hsucc := layTo_succ (size := size) hlt
    have ht1 : ((1 : Int) + 2 * (i : Int)).toNat = 1 + 2 * i := by omega
    have ht2 : ((1 : Int) + 2 * (i : Int) + 1).toNat = 2 + 2 * i := by omega
    obtain ⟨e, he⟩ : ∃ e, e = (layTo size L i).2 - L[i].length := ⟨_, rfl⟩
    have hee : ((layTo size L i).2 : Int) - (L[i].length : Int) = (e : Int) := by omega
    simp (disch := first | omega | exact okFill_t rfl | exact okSize_t rfl | exact fun h => h | (simp only [World.size_alloc, World.size_drew, World.size_setCell, size_fill, bytesW]; omega)) only [go_sem, ↓reduceIte, reduceCtorEq, Nat.reduceBEq, Nat.reduceEqDiff, Nat.reduceAdd, Nat.reduceMul, Int.reduceNe, Int.reduceEq, Int.reduceLT, Int.reduceLE, Int.reduceNeg, Int.reduceAdd, Int.reduceSub, Int.reduceMul, Int.reduceToNat, beq_self_eq_true, c26, c26S0, c26L0, c26S1, c26S2, c26S3, c26S4, c26L1, c26S5, c26S6, hlt', ei, storeW_fill, List.setIfInBounds_toArray, List.set_cons_zero, List.set_cons_succ, List.getElem_toArray, List.getElem_cons_zero, List.getElem_cons_succ, Nat.reduceLeDiff, Nat.reduceSub, okSt_nil, okSt_cons, fillO_some, fillO_none, cF_same, cF_blk, fF_any, size_fill, Value.oneCell', Int.toNat_natCast, Int.cast_ofNat_Int, cast0, cast1, Int.natCast_add, add_block, add_off, Classical.not_not, decide_not, Bool.not_eq_false, decide_true, decide_false, Bool.true_beq, Bool.false_beq, beq_true, beq_false, Bool.true_bne, Bool.false_bne, Bool.bne_true, Bool.bne_false, decide_eq_true_eq, Bool.not_eq_eq_eq_not, Nat.mul_one, List.size_toArray, List.length_cons, List.length_nil, Nat.le_refl, ldK_int, ldK_bool, ldK_str, ldK_slice, ldK_ptr, ldK_map, ldK_agg, ldK_other, ldO_int, ldO_bool, ldO_str, ldO_slice, ldO_ptr, ldO_map, ldO_other, ldA_some, cellsO_new, cellsO_nil, cellsC_some, cellsO_drew, cellsO_alloc, cA_add, cS_add, cA_new, cA_old, fA_new, fA_old, setO_some, cS_same, cS_off, cS_blk, World.cell?_drew, World.frozen?_drew, World.frozen?_setCell, World.size_alloc, World.size_drew, World.size_setCell, heldX_eq, heldX_add, chg_refl, chg_drew, ovr_nil, ovr_cons, Option.getD_some, Option.getD_none, Addr.add_lit, Nat.add_zero, Option.some.injEq, exists_eq', exists_eq_left', Value.int.injEq, Value.bool.injEq, Value.pointer.injEq, Value.string.injEq]
    refine ⟨by omega, fun hr => ?_, fun hr => ?_⟩
    · have hr' := of_decide_eq_true hr
      have e1 : layTo size L (i + 1) = layTo size L i := by rw [hsucc, layS, if_pos hr']
      exact ⟨⟨by omega, by omega⟩, i + 1, by rw [e1]; rfl, ⟨by rw [e1]; exact s4, by omega⟩, by omega⟩
    · have hr' := of_decide_eq_false hr
      have e1 : layTo size L (i + 1) = (putAt (((layTo size L i).1.set (1 + 2 * i) (u8 e)).set (2 + 2 * i) (u8 L[i].length)) e L[i], e) := by rw [hsucc, layS, if_neg hr', he]
      have hpos := List.length_pos_iff.2 hr'
      rw [hee]
      have hoff2 : offA (some ⟨g, 0, none⟩) size ((e : Int)).toNat 1 = some ⟨g, e, none⟩ := by
        rw [Int.toNat_natCast]
        unfold offA
        rw [if_neg (by omega)]
        simp [Addr.add_lit]
      have h1e : (0 : Int) ≤ e := by omega
      refine ⟨⟨by omega, by omega⟩, ⟨by omega, by omega⟩, ?_⟩
      rw [hoff2]
      refine St.copyS s4 0 rfl (by rw [Int.toNat_natCast]; omega) (by omega) ?_
      intro w5 s5
      simp only [List.set_cons_zero] at s5
      have r5 := s5.rules 0 rfl
      have hpl : (putAt (layTo size L i).1 e L[i]).length = size := by unfold putAt; rw [putTo_len (by omega) (Nat.le_refl _), hlen]
      simp (disch := first | omega | exact okFill_t rfl | exact okSize_t rfl | exact fun h => h | (simp only [World.size_alloc, World.size_drew, World.size_setCell, size_fill, bytesW]; omega)) only [go_sem, ↓reduceIte, reduceCtorEq, Nat.reduceBEq, Nat.reduceEqDiff, Nat.reduceAdd, Nat.reduceMul, Int.reduceNe, Int.reduceEq, Int.reduceLT, Int.reduceLE, Int.reduceNeg, Int.reduceAdd, Int.reduceSub, Int.reduceMul, Int.reduceToNat, beq_self_eq_true, c26, c26S0, c26L0, c26S1, c26S2, c26S3, c26S4, c26L1, c26S5, c26S6, hlt', ei, storeW_fill, List.setIfInBounds_toArray, List.set_cons_zero, List.set_cons_succ, List.getElem_toArray, List.getElem_cons_zero, List.getElem_cons_succ, Nat.reduceLeDiff, Nat.reduceSub, okSt_nil, okSt_cons, fillO_some, fillO_none, cF_same, cF_blk, fF_any, size_fill, Value.oneCell', Int.toNat_natCast, Int.cast_ofNat_Int, cast0, cast1, Int.natCast_add, add_block, add_off, Classical.not_not, decide_not, Bool.not_eq_false, decide_true, decide_false, Bool.true_beq, Bool.false_beq, beq_true, beq_false, Bool.true_bne, Bool.false_bne, Bool.bne_true, Bool.bne_false, decide_eq_true_eq, Bool.not_eq_eq_eq_not, Nat.mul_one, List.size_toArray, List.length_cons, List.length_nil, Nat.le_refl, ldK_int, ldK_bool, ldK_str, ldK_slice, ldK_ptr, ldK_map, ldK_agg, ldK_other, ldO_int, ldO_bool, ldO_str, ldO_slice, ldO_ptr, ldO_map, ldO_other, ldA_some, cellsO_new, cellsO_nil, cellsC_some, cellsO_drew, cellsO_alloc, cA_add, cS_add, cA_new, cA_old, fA_new, fA_old, setO_some, cS_same, cS_off, cS_blk, World.cell?_drew, World.frozen?_drew, World.frozen?_setCell, World.size_alloc, World.size_drew, World.size_setCell, heldX_eq, heldX_add, chg_refl, chg_drew, ovr_nil, ovr_cons, Option.getD_some, Option.getD_none, Addr.add_lit, Nat.add_zero, Option.some.injEq, exists_eq', exists_eq_left', Value.int.injEq, Value.bool.injEq, Value.pointer.injEq, Value.string.injEq]
      rw [ht1, ht2, r5.1, r5.1, r5.2.1, r5.2.1]
      have s6 := (s5.set 0 rfl (1 + 2 * i) (.int .u8 (IntKind.u8.wrap (e : Int)))).set 0 rfl (2 + 2 * i) (.int .u8 (IntKind.u8.wrap (L[i].length : Int)))
      simp only [List.set_cons_zero] at s6
      rw [wrap_u8, wrap_u8, bytesC_set, bytesC_set, layC (by omega) (by omega), layC (by omega) (by rw [List.length_set]; omega)] at s6
      rw [wrap_u8, wrap_u8]
      exact ⟨⟨by omega, by omega⟩, ⟨by omega, by omega⟩, ⟨by omega, by omega⟩, ⟨by omega, by omega⟩, ⟨by omega, by omega⟩, ⟨by omega, by omega⟩, bytesC_get (by omega), rfl, ⟨by omega, by omega⟩, bytesC_get (by omega), rfl, ⟨by omega, by omega⟩, i + 1, by rw [e1]; rfl, ⟨by rw [e1]; exact s6, by omega⟩, by omega⟩
  · have hlt' : ¬ (i : Int) < L.length := by omega
    obtain rfl : i = L.length := by omega
    have r4 := s4.rules 0 rfl
    simp (disch := first | omega | exact okFill_t rfl | exact okSize_t rfl | exact fun h => h | (simp only [World.size_alloc, World.size_drew, World.size_setCell, size_fill, bytesW]; omega)) only [go_sem, ↓reduceIte, reduceCtorEq, Nat.reduceBEq, Nat.reduceEqDiff, Nat.reduceAdd, Nat.reduceMul, Int.reduceNe, Int.reduceEq, Int.reduceLT, Int.reduceLE, Int.reduceNeg, Int.reduceAdd, Int.reduceSub, Int.reduceMul, Int.reduceToNat, beq_self_eq_true, c26, c26S0, c26L0, c26S1, c26S2, c26S3, c26S4, c26L1, c26S5, c26S6, hlt', r4, storeW_fill, List.setIfInBounds_toArray, List.set_cons_zero, List.set_cons_succ, List.getElem_toArray, List.getElem_cons_zero, List.getElem_cons_succ, Nat.reduceLeDiff, Nat.reduceSub, okSt_nil, okSt_cons, fillO_some, fillO_none, cF_same, cF_blk, fF_any, size_fill, Value.oneCell', Int.toNat_natCast, Int.cast_ofNat_Int, cast0, cast1, Int.natCast_add, add_block, add_off, Classical.not_not, decide_not, Bool.not_eq_false, decide_true, decide_false, Bool.true_beq, Bool.false_beq, beq_true, beq_false, Bool.true_bne, Bool.false_bne, Bool.bne_true, Bool.bne_false, decide_eq_true_eq, Bool.not_eq_eq_eq_not, Nat.mul_one, List.size_toArray, List.length_cons, List.length_nil, Nat.le_refl, ldK_int, ldK_bool, ldK_str, ldK_slice, ldK_ptr, ldK_map, ldK_agg, ldK_other, ldO_int, ldO_bool, ldO_str, ldO_slice, ldO_ptr, ldO_map, ldO_other, ldA_some, cellsO_new, cellsO_nil, cellsC_some, cellsO_drew, cellsO_alloc, cA_add, cS_add, cA_new, cA_old, fA_new, fA_old, setO_some, cS_same, cS_off, cS_blk, World.cell?_drew, World.frozen?_drew, World.frozen?_setCell, World.size_alloc, World.size_drew, World.size_setCell, heldX_eq, heldX_add, chg_refl, chg_drew, ovr_nil, ovr_cons, Option.getD_some, Option.getD_none, Addr.add_lit, Nat.add_zero, Option.some.injEq, exists_eq', exists_eq_left', Value.int.injEq, Value.bool.injEq, Value.pointer.injEq, Value.string.injEq]
    refine ⟨_, layTo_len hf (Nat.le_refl _), fun j b hb => ?_, hK _ s4.bel⟩
    rw [Addr.add_lit, Nat.zero_add, r4.1]
    simp [bytesC, hb]
theorem lay_ok (v : Value) (size : Nat) (l : List (List UInt8)) (w : World) (h : RdS w 1 strE v l) (hl : l.length ≤ 1000) (hf : Fits size (trimP l)) :
    Ret Try.prog 26 [.int .i64 size, v] w fun u w' => u = .string (ofL (textP size (trimP l))) ∧ Below w.heap.size w w' := by
  obtain ⟨a, c, rfl, _⟩ := h.form
  have hhi := hf.hi
  have hlo := hf.lo
  have hroom := hf.room
  unfold takesP at hroom
  refine ent26 _ _ _ _ ?_
  simp (disch := first | omega | exact okFill_t rfl | exact okSize_t rfl | exact fun h => h | (simp only [World.size_alloc, World.size_drew, World.size_setCell, size_fill, bytesW]; omega)) only [go_sem, ↓reduceIte, reduceCtorEq, Nat.reduceBEq, Nat.reduceEqDiff, Nat.reduceAdd, Nat.reduceMul, Int.reduceNe, Int.reduceEq, Int.reduceLT, Int.reduceLE, Int.reduceNeg, Int.reduceAdd, Int.reduceSub, Int.reduceMul, Int.reduceToNat, beq_self_eq_true, c26, c26S0, c26L0, c26S1, c26S2, c26S3, c26S4, c26L1, c26S5, c26S6, storeW_fill, List.setIfInBounds_toArray, List.set_cons_zero, List.set_cons_succ, List.getElem_toArray, List.getElem_cons_zero, List.getElem_cons_succ, Nat.reduceLeDiff, Nat.reduceSub, okSt_nil, okSt_cons, fillO_some, fillO_none, cF_same, cF_blk, fF_any, size_fill, Value.oneCell', Int.toNat_natCast, Int.cast_ofNat_Int, cast0, cast1, Int.natCast_add, add_block, add_off, Classical.not_not, decide_not, Bool.not_eq_false, decide_true, decide_false, Bool.true_beq, Bool.false_beq, beq_true, beq_false, Bool.true_bne, Bool.false_bne, Bool.bne_true, Bool.bne_false, decide_eq_true_eq, Bool.not_eq_eq_eq_not, Nat.mul_one, List.size_toArray, List.length_cons, List.length_nil, Nat.le_refl, ldK_int, ldK_bool, ldK_str, ldK_slice, ldK_ptr, ldK_map, ldK_agg, ldK_other, ldO_int, ldO_bool, ldO_str, ldO_slice, ldO_ptr, ldO_map, ldO_other, ldA_some, cellsO_new, cellsO_nil, cellsC_some, cellsO_drew, cellsO_alloc, cA_add, cS_add, cA_new, cA_old, fA_new, fA_old, setO_some, cS_same, cS_off, cS_blk, World.cell?_drew, World.frozen?_drew, World.frozen?_setCell, World.size_alloc, World.size_drew, World.size_setCell, heldX_eq, heldX_add, chg_refl, chg_drew, ovr_nil, ovr_cons, Option.getD_some, Option.getD_none, Addr.add_lit, Nat.add_zero, Option.some.injEq, exists_eq', exists_eq_left', Value.int.injEq, Value.bool.injEq, Value.pointer.injEq, Value.string.injEq]
  refine W_loopU (fun k : Nat => [(1, .slice a k c)]) (fun k w' => Below w.heap.size w w' ∧ k ≤ l.length ∧ trimN l l.length = trimN l k) (fun k => k) l.length rfl ⟨Below.refl _ _, Nat.le_refl _, rfl⟩ ?_
  rintro k w1 ⟨b1, hk, he⟩
  have h1 := h.below b1 (by decide)
  have hoff : offA a c 0 1 = a := offA_zero
  have fin : ∀ k, k ≤ l.length → trimN l l.length = k → W Try.prog (c26S6 ()) [(0, .int .i64 size), (1, .slice a k c)] w1 (finQ Try.prog [.tmp 4] fun u w' => u = .string (ofL (textP size (trimP l))) ∧ Below w.heap.size w w') := by
    intro k hk e
    have h2 := rd_take (show Rd w1 1 (.slice a l.length c) l.length (l.flatMap strE) from h1) hk
    rw [Nat.mul_one, hoff, strs_take] at h2
    have e4 : (l.take k).length = k := by rw [List.length_take]; omega
    have e5 : trimP l = l.take k := by unfold trimP; rw [e]
    rw [e5] at hf ⊢
    have h3 : RdS w1 1 strE (.slice a (l.take k).length c) (l.take k) := by show Rd w1 1 _ _ _; rw [e4]; exact h2
    have := lay6 h3 hf (K := fun u w' => u = .string (ofL (textP size (l.take k))) ∧ Below w.heap.size w w') fun w' b => ⟨rfl, b1.trans (b.mono b1.size)⟩
    rw [e4] at this
    exact this
  cases k with
  | zero =>
    simp (disch := first | omega | exact okFill_t rfl | exact okSize_t rfl | exact fun h => h | (simp only [World.size_alloc, World.size_drew, World.size_setCell, size_fill, bytesW]; omega)) only [go_sem, ↓reduceIte, reduceCtorEq, Nat.reduceBEq, Nat.reduceEqDiff, Nat.reduceAdd, Nat.reduceMul, Int.reduceNe, Int.reduceEq, Int.reduceLT, Int.reduceLE, Int.reduceNeg, Int.reduceAdd, Int.reduceSub, Int.reduceMul, Int.reduceToNat, beq_self_eq_true, c26, c26S0, c26L0, c26S1, c26S2, c26S3, c26S4, c26L1, c26S5, storeW_fill, List.setIfInBounds_toArray, List.set_cons_zero, List.set_cons_succ, List.getElem_toArray, List.getElem_cons_zero, List.getElem_cons_succ, Nat.reduceLeDiff, Nat.reduceSub, okSt_nil, okSt_cons, fillO_some, fillO_none, cF_same, cF_blk, fF_any, size_fill, Value.oneCell', Int.toNat_natCast, Int.cast_ofNat_Int, cast0, cast1, Int.natCast_add, add_block, add_off, Classical.not_not, decide_not, Bool.not_eq_false, decide_true, decide_false, Bool.true_beq, Bool.false_beq, beq_true, beq_false, Bool.true_bne, Bool.false_bne, Bool.bne_true, Bool.bne_false, decide_eq_true_eq, Bool.not_eq_eq_eq_not, Nat.mul_one, List.size_toArray, List.length_cons, List.length_nil, Nat.le_refl, ldK_int, ldK_bool, ldK_str, ldK_slice, ldK_ptr, ldK_map, ldK_agg, ldK_other, ldO_int, ldO_bool, ldO_str, ldO_slice, ldO_ptr, ldO_map, ldO_other, ldA_some, cellsO_new, cellsO_nil, cellsC_some, cellsO_drew, cellsO_alloc, cA_add, cS_add, cA_new, cA_old, fA_new, fA_old, setO_some, cS_same, cS_off, cS_blk, World.cell?_drew, World.frozen?_drew, World.frozen?_setCell, World.size_alloc, World.size_drew, World.size_setCell, heldX_eq, heldX_add, chg_refl, chg_drew, ovr_nil, ovr_cons, Option.getD_some, Option.getD_none, Addr.add_lit, Nat.add_zero, Option.some.injEq, exists_eq', exists_eq_left', Value.int.injEq, Value.bool.injEq, Value.pointer.injEq, Value.string.injEq]
    exact fin 0 (Nat.zero_le _) he
  | succ k =>
    have hlt : k < l.length := by omega
    have hk1 : ((k + 1 : Nat) : Int) - 1 = k := by omega
    have hpos : (0 : Int) < ((k + 1 : Nat) : Int) := by omega
    obtain ⟨p, rfl⟩ := h.ptr (by omega)
    have ek := RdS.str h1 hlt
    generalize hm : k + 1 = m at *
    have hem1 : l[k] = [] → trimN l m = trimN l k := fun e => by rw [← hm]; simp [trimN, List.getElem?_eq_getElem hlt, e]
    have hem2 : l[k] ≠ [] → trimN l m = m := fun e => by rw [← hm]; simp [trimN, List.getElem?_eq_getElem hlt, e]
    have hkm : (k : Int) < m := by omega
    simp (disch := first | omega | exact okFill_t rfl | exact okSize_t rfl | exact fun h => h | (simp only [World.size_alloc, World.size_drew, World.size_setCell, size_fill, bytesW]; omega)) only [go_sem, ↓reduceIte, reduceCtorEq, Nat.reduceBEq, Nat.reduceEqDiff, Nat.reduceAdd, Nat.reduceMul, Int.reduceNe, Int.reduceEq, Int.reduceLT, Int.reduceLE, Int.reduceNeg, Int.reduceAdd, Int.reduceSub, Int.reduceMul, Int.reduceToNat, beq_self_eq_true, c26, c26S0, c26L0, c26S1, c26S2, c26S3, c26S4, c26L1, c26S5, hpos, hk1, ek, hkm, hoff, storeW_fill, List.setIfInBounds_toArray, List.set_cons_zero, List.set_cons_succ, List.getElem_toArray, List.getElem_cons_zero, List.getElem_cons_succ, Nat.reduceLeDiff, Nat.reduceSub, okSt_nil, okSt_cons, fillO_some, fillO_none, cF_same, cF_blk, fF_any, size_fill, Value.oneCell', Int.toNat_natCast, Int.cast_ofNat_Int, cast0, cast1, Int.natCast_add, add_block, add_off, Classical.not_not, decide_not, Bool.not_eq_false, decide_true, decide_false, Bool.true_beq, Bool.false_beq, beq_true, beq_false, Bool.true_bne, Bool.false_bne, Bool.bne_true, Bool.bne_false, decide_eq_true_eq, Bool.not_eq_eq_eq_not, Nat.mul_one, List.size_toArray, List.length_cons, List.length_nil, Nat.le_refl, ldK_int, ldK_bool, ldK_str, ldK_slice, ldK_ptr, ldK_map, ldK_agg, ldK_other, ldO_int, ldO_bool, ldO_str, ldO_slice, ldO_ptr, ldO_map, ldO_other, ldA_some, cellsO_new, cellsO_nil, cellsC_some, cellsO_drew, cellsO_alloc, cA_add, cS_add, cA_new, cA_old, fA_new, fA_old, setO_some, cS_same, cS_off, cS_blk, World.cell?_drew, World.frozen?_drew, World.frozen?_setCell, World.size_alloc, World.size_drew, World.size_setCell, heldX_eq, heldX_add, chg_refl, chg_drew, ovr_nil, ovr_cons, Option.getD_some, Option.getD_none, Addr.add_lit, Nat.add_zero, Option.some.injEq, exists_eq', exists_eq_left', Value.int.injEq, Value.bool.injEq, Value.pointer.injEq, Value.string.injEq]
    refine ⟨⟨by omega, by omega⟩, by omega, fun e => ⟨⟨by omega, by omega⟩, ⟨by omega, by omega⟩, k, rfl, ⟨b1, by omega, ?_⟩, by omega⟩, fun e => fin m hk ?_⟩
    · rw [he, hem1 (of_decide_eq_true e)]
    · rw [he, hem2 (of_decide_eq_false e)]
end Go.Proofs.Ytkofhjopeppnoaa
