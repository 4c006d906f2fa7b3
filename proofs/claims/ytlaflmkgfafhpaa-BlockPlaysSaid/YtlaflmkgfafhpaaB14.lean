/- A call of both disks; the law on what every call answers, as a contract. -/
import Derived.Test.YtlaflmkgfafhpaaB13
namespace Go.Proofs.Ytlaflmkgfafhpaa
set_option linter.unusedSimpArgs false
set_option linter.unusedVariables false
open Go Go.Ann Go.RowKit

/-- A disk, and what else the walk holds. -/
structure DI (W0 w : World) (g : Nat) (vb vl : Value) (m : Dk) (L : List Res) (I : List Inv) : Prop where
  disk : DiskAt w g vb vl m
  st : St W0 w (foot g vb vl) L I
section
variable {W0 w w' : World} {g : Nat} {vb vl vb' vl' : Value} {m m' : Dk} {L : List Res} {I : List Inv}
theorem DI.begin (s : St W0 w (fun _ => False) L I) (h : DiskAt w' g vb vl m) (hb : Below w.heap.size w w') (hf : ∀ k, foot g vb vl k → w.heap.size ≤ k) : DI W0 w' g vb vl m L I :=
  ⟨h, s.chg (Chg.of_below hb) (fun k hk hF => by have := hf k hF; omega) fun k hk => h.foot_lt hk⟩
theorem DI.call (h : DI W0 w g vb vl m L I) (hb : Below w.heap.size w w') : DI W0 w' g vb vl m L I := ⟨h.disk.keep (Chg.of_below (S := fun _ => False) hb) fun _ _ h => h, h.st.call hb⟩
theorem DI.box (h : DI W0 w g vb vl m L I) (cs : Array Value) (t : TypeId) : DI W0 (w.alloc (.cells cs t)) g vb vl m (.blk w.heap.size cs t :: L) I :=
  ⟨(h.call ((Below.refl _ w).alloc (Nat.le_refl _) _)).disk, h.st.box cs t⟩
theorem DI.drew (h : DI W0 w g vb vl m L I) : DI W0 w.drew g vb vl m L I := h.call ((Below.refl _ w).drew)
theorem DI.turn (h : DI W0 w g vb vl m L I) (hd : DiskAt w' g vb' vl' m') (hg : Grew w w' g vb vl vb' vl') : DI W0 w' g vb' vl' m' L I := ⟨hd, h.st.chg hg.1 hg.2 fun k hk => hd.foot_lt hk⟩
theorem DI.set (h : DI W0 w g vb vl m L I) (i : Nat) {b : Nat} {cs : Array Value} {t : TypeId} (hi : L[i]? = some (.blk b cs t)) (j : Nat) (v : Value) : DI W0 (w.setCell ⟨b, j, none⟩ v) g vb vl m (L.set i (.blk b (cs.setIfInBounds j v) t)) I :=
  ⟨h.disk.keep (S := fun k => k = b) ((Chg.refl _ w).setCell _ v fun _ => rfl) fun k hk e => (h.st.res _ (List.mem_of_getElem? hi)).2 k (by rw [e]; rfl) hk, h.st.set i hi j v⟩
theorem DI.fill (h : DI W0 w g vb vl m L I) (i : Nat) {b : Nat} {z cs : Array Value} {t : TypeId} (hi : L[i]? = some (.blk b z t)) (hs : z.size = cs.size) : DI W0 (w.fill b cs) g vb vl m (L.set i (.blk b cs t)) I :=
  ⟨h.disk.keep (S := fun k => k = b) ((Chg.refl _ w).fill fun _ => rfl) fun k hk e => (h.st.res _ (List.mem_of_getElem? hi)).2 k (by rw [e]; rfl) hk, h.st.fill i hi hs⟩
theorem DI.sub (h : DI W0 w g vb vl m L I) {L' : List Res} (hs : L'.Sublist L) : DI W0 w g vb vl m L' I := ⟨h.disk, h.st.sub hs⟩
/-- What a call of the document's disk has handed back. -/
theorem DI.rout {vs vlr v : Value} {m' : Dk} {safe : List (List UInt8)} {late : List (Int × List UInt8)} (h : DI W0 w g vb vl m L [.rd 1 enc1 vs safe, .rd 2 pendV vlr late]) (ho : ROut w w' vs vlr m' v) :
    ∃ vs' vlr', v = .agg #[vs', vlr', .int .i64 m'.left, .bool m'.gone] ∧ DI W0 w' g vb vl m L [.rd 1 enc1 vs' m'.safe, .rd 2 pendV vlr' m'.late] := by
  obtain ⟨vs', vlr', rfl, r1, r2, f1, f2, hb⟩ := ho
  refine ⟨vs', vlr', rfl, (h.call hb).disk, ?_⟩
  have s1 := h.st.addRd hb r1 (by decide) fun k hk => (f1 k hk).imp (fun h' => h') (fun h' => h') |> fun o => by
    rcases o with o | o
    · exact .inr (.inl ⟨_, List.mem_cons_self, o⟩)
    · exact .inr (.inr o)
  have s2 := h.st.addRd hb r2 (by decide) fun k hk => by
    rcases f2 k hk with o | o
    · exact .inr (.inl ⟨_, List.mem_cons_of_mem _ List.mem_cons_self, o⟩)
    · exact .inr (.inr o)
  refine ⟨s1.bel, s1.foot, s1.res, s1.nd, fun a ha => ?_⟩
  rcases List.mem_cons.1 ha with rfl | ha
  · exact s1.inv _ List.mem_cons_self
  · simp only [List.mem_cons, List.not_mem_nil, or_false] at ha; subst ha
    exact s2.inv _ List.mem_cons_self
end
theorem useN_okL {m : Dk} (h : m.ok) : (useN m).1.ok := by
  obtain ⟨e1, e2⟩ := useN_late m
  exact ⟨by rw [e2]; exact h.safe, by rw [e1, e2]; exact h.late, useN_left h.left, by rw [e2]; exact h.some, by rw [e2]; exact h.few, by rw [e1]; exact h.less⟩
/-- The document's call. -/
def actN (m : Dk) (a : Act) : Dk :=
  if a.Kind = 0 then (writeN m a.At a.Data).1 else if a.Kind = 1 then (flushN m).1 else if a.Kind = 2 then m else if a.Kind = 3 then { m with left := a.At } else crashN m a.Mask a.Torn a.Cut
set_option maxRecDepth 100000 in
theorem does_ok {W0 w : World} {g br : Nat} {vb vl vs vlr : Value} {m : Dk} {L : List Res} {i : Nat} (a : Act) (q : a.wf)
    (h : DI W0 w g vb vl m L [.rd 1 enc1 vs m.safe, .rd 2 pendV vlr m.late]) (hi : L[i]? = some (.blk br #[vs, vlr, .int .i64 m.left, .bool m.gone] 48)) (hl : m.late.length < 1000000) :
    Ret Try.prog 24 [.pointer (some ⟨g, 0, none⟩), .pointer (some ⟨br, 0, none⟩), .agg a.enc.toArray] w fun u w' => u = .bool true ∧
      ∃ vl' vs' vlr', DI W0 w' g vb vl' (actN m a) (L.set i (.blk br #[vs', vlr', .int .i64 (actN m a).left, .bool (actN m a).gone] 48)) [.rd 1 enc1 vs' (actN m a).safe, .rd 2 pendV vlr' (actN m a).late] := by
  refine ent24 _ _ _ _ _ ?_
  simp (disch := first | omega | exact okFill_t rfl | exact fun h => h | (simp only [World.size_alloc, World.size_drew, World.size_setCell, size_fill, bytesW]; omega)) only [go_sem, ↓reduceIte, reduceCtorEq, Nat.reduceBEq, Nat.reduceEqDiff, Nat.reduceAdd, Nat.reduceMul, Int.reduceNe, Int.reduceEq, Int.reduceLT, Int.reduceLE, Int.reduceNeg, Int.reduceAdd, Int.reduceSub, Int.reduceMul, Int.reduceToNat, beq_self_eq_true, c24, c24S0, c24S1, c24S2, c24S3, c24S4, c24S5, storeW_fill, List.setIfInBounds_toArray, List.set_cons_zero, List.set_cons_succ, List.getElem_toArray, List.getElem_cons_zero, List.getElem_cons_succ, Nat.reduceLeDiff, Nat.reduceSub, okSt_nil, okSt_cons, fillO_some, fillO_none, cF_same, cF_blk, fF_any, size_fill, Value.oneCell', Int.toNat_natCast, Int.cast_ofNat_Int, cast0, cast1, Int.natCast_add, add_block, add_off, Classical.not_not, decide_not, Bool.not_eq_false, decide_true, decide_false, Bool.true_beq, Bool.false_beq, beq_true, beq_false, Bool.true_bne, Bool.false_bne, Bool.bne_true, Bool.bne_false, decide_eq_true_eq, Bool.not_eq_eq_eq_not, Nat.mul_one, List.size_toArray, List.length_cons, List.length_nil, Nat.le_refl, ldK_int, ldK_bool, ldK_str, ldK_slice, ldK_ptr, ldK_map, ldK_agg, ldK_other, ldO_int, ldO_bool, ldO_str, ldO_slice, ldO_ptr, ldO_map, ldO_other, ldA_some, cellsO_nil, cellsO_cons, cellsC_some, cA_new, cA_old, fA_new, fA_old, setO_some, cS_same, cS_off, cS_blk, World.cell?_drew, World.frozen?_drew, World.frozen?_setCell, World.size_alloc, World.size_drew, World.size_setCell, heldX_eq, heldX_add, chg_refl, chg_drew, ovr_nil, ovr_cons, Option.getD_some, Option.getD_none, Addr.add_lit, Nat.add_zero, Option.some.injEq, exists_eq', exists_eq_left', Value.int.injEq, Value.bool.injEq, Value.pointer.injEq, Value.string.injEq]
  have rs := h.st.rd 0 rfl
  have rl := h.st.rd 1 rfl
  obtain ⟨asf, caps, rfl, hcs⟩ := rs.form
  obtain ⟨al, capl, rfl, hcl⟩ := rl.form
  have d1 := (h.box a.enc.toArray 28)
  have hz : w.heap.size < (w.alloc (.cells a.enc.toArray 28)).heap.size := by simp
  generalize w.alloc (.cells a.enc.toArray 28) = w1 at d1 hz ⊢
  have r1 := d1.st.rules (i + 1) (by simpa using hi)
  have q1 := d1.st.rules 0 rfl
  simp only [Act.enc] at q1
  simp (disch := first | omega | exact okFill_t rfl | exact fun h => h | (simp only [World.size_alloc, World.size_drew, World.size_setCell, size_fill, bytesW]; omega)) only [go_sem, ↓reduceIte, reduceCtorEq, Nat.reduceBEq, Nat.reduceEqDiff, Nat.reduceAdd, Nat.reduceMul, Int.reduceNe, Int.reduceEq, Int.reduceLT, Int.reduceLE, Int.reduceNeg, Int.reduceAdd, Int.reduceSub, Int.reduceMul, Int.reduceToNat, beq_self_eq_true, c24, c24S0, c24S1, c24S2, c24S3, c24S4, c24S5, r1, q1, storeW_fill, List.setIfInBounds_toArray, List.set_cons_zero, List.set_cons_succ, List.getElem_toArray, List.getElem_cons_zero, List.getElem_cons_succ, Nat.reduceLeDiff, Nat.reduceSub, okSt_nil, okSt_cons, fillO_some, fillO_none, cF_same, cF_blk, fF_any, size_fill, Value.oneCell', Int.toNat_natCast, Int.cast_ofNat_Int, cast0, cast1, Int.natCast_add, add_block, add_off, Classical.not_not, decide_not, Bool.not_eq_false, decide_true, decide_false, Bool.true_beq, Bool.false_beq, beq_true, beq_false, Bool.true_bne, Bool.false_bne, Bool.bne_true, Bool.bne_false, decide_eq_true_eq, Bool.not_eq_eq_eq_not, Nat.mul_one, List.size_toArray, List.length_cons, List.length_nil, Nat.le_refl, ldK_int, ldK_bool, ldK_str, ldK_slice, ldK_ptr, ldK_map, ldK_agg, ldK_other, ldO_int, ldO_bool, ldO_str, ldO_slice, ldO_ptr, ldO_map, ldO_other, ldA_some, cellsO_nil, cellsO_cons, cellsC_some, cA_new, cA_old, fA_new, fA_old, setO_some, cS_same, cS_off, cS_blk, World.cell?_drew, World.frozen?_drew, World.frozen?_setCell, World.size_alloc, World.size_drew, World.size_setCell, heldX_eq, heldX_add, chg_refl, chg_drew, ovr_nil, ovr_cons, Option.getD_some, Option.getD_none, Addr.add_lit, Nat.add_zero, Option.some.injEq, exists_eq', exists_eq_left', Value.int.injEq, Value.bool.injEq, Value.pointer.injEq, Value.string.injEq]
  have ea : actN m a = if a.Kind = 0 then (writeN m a.At a.Data).1 else if a.Kind = 1 then (flushN m).1 else if a.Kind = 2 then m else if a.Kind = 3 then { m with left := a.At } else crashN m a.Mask a.Torn a.Cut := rfl
  have wat := w64 q.2.1
  refine ⟨fun k0 => ?_, fun k0 => ⟨fun k1 => ?_, fun k1 => ⟨fun k2 => ?_, fun k2 => ⟨fun k3 => ?_, fun k3 => ?_⟩⟩⟩⟩
  · rw [if_pos k0] at ea
    have d2 := d1.box #[.slice asf m.safe.length caps, .slice al m.late.length capl, .int .i64 m.left, .bool m.gone] 48
    generalize hb2 : w1.heap.size = b2 at d2 ⊢
    generalize w1.alloc (.cells #[.slice asf m.safe.length caps, .slice al m.late.length capl, .int .i64 m.left, .bool m.gone] 48) = w2 at d2 ⊢
    have r2 := d2.st.rules (i + 2) (by simpa using hi)
    have a2 := d2.st.rules 1 rfl
    simp only [Act.enc] at a2
    have n2 := d2.st.rules 0 rfl
    have lt1 := (d2.st.low 1 rfl).2
    have lt0 := (d2.st.low (i + 2) (by simpa using hi)).2
    refine c24draw0 (Chg (fun _ => False) _) (Chg.refl _ _) ?_
    simp (disch := first | omega | exact okFill_t rfl | exact fun h => h | (simp only [World.size_alloc, World.size_drew, World.size_setCell, size_fill, bytesW]; omega)) only [go_sem, ↓reduceIte, reduceCtorEq, Nat.reduceBEq, Nat.reduceEqDiff, Nat.reduceAdd, Nat.reduceMul, Int.reduceNe, Int.reduceEq, Int.reduceLT, Int.reduceLE, Int.reduceNeg, Int.reduceAdd, Int.reduceSub, Int.reduceMul, Int.reduceToNat, beq_self_eq_true, c24, c24S0, c24S1, c24S2, c24S3, c24S4, c24S5, c24D0, a2, r2, n2, storeW_fill, List.setIfInBounds_toArray, List.set_cons_zero, List.set_cons_succ, List.getElem_toArray, List.getElem_cons_zero, List.getElem_cons_succ, Nat.reduceLeDiff, Nat.reduceSub, okSt_nil, okSt_cons, fillO_some, fillO_none, cF_same, cF_blk, fF_any, size_fill, Value.oneCell', Int.toNat_natCast, Int.cast_ofNat_Int, cast0, cast1, Int.natCast_add, add_block, add_off, Classical.not_not, decide_not, Bool.not_eq_false, decide_true, decide_false, Bool.true_beq, Bool.false_beq, beq_true, beq_false, Bool.true_bne, Bool.false_bne, Bool.bne_true, Bool.bne_false, decide_eq_true_eq, Bool.not_eq_eq_eq_not, Nat.mul_one, List.size_toArray, List.length_cons, List.length_nil, Nat.le_refl, ldK_int, ldK_bool, ldK_str, ldK_slice, ldK_ptr, ldK_map, ldK_agg, ldK_other, ldO_int, ldO_bool, ldO_str, ldO_slice, ldO_ptr, ldO_map, ldO_other, ldA_some, cellsO_nil, cellsO_cons, cellsC_some, cA_new, cA_old, fA_new, fA_old, setO_some, cS_same, cS_off, cS_blk, World.cell?_drew, World.frozen?_drew, World.frozen?_setCell, World.size_alloc, World.size_drew, World.size_setCell, heldX_eq, heldX_add, chg_refl, chg_drew, ovr_nil, ovr_cons, Option.getD_some, Option.getD_none, Addr.add_lit, Nat.add_zero, Option.some.injEq, exists_eq', exists_eq_left', Value.int.injEq, Value.bool.injEq, Value.pointer.injEq, Value.string.injEq]
    refine Ret.mono (rwrite_ok _ _ m a.At a.Data w2.drew (d2.drew.st.rd 0 rfl) (d2.drew.st.rd 1 rfl) d2.disk.ok hl) ?_
    rintro _ w3 ⟨v3, rfl, ho⟩
    obtain ⟨vs3, vl3, rfl, d3⟩ := d2.drew.rout ho
    obtain ⟨as3, cs3, rfl, _⟩ := (d3.st.rd 0 rfl).form
    obtain ⟨al3, cl3, rfl, _⟩ := (d3.st.rd 1 rfl).form
    have r3 := d3.st.rules (i + 2) (by simpa using hi)
    have a3 := d3.st.rules 1 rfl
    simp only [Act.enc] at a3
    have n3 := d3.st.rules 0 rfl
    have ne01 := d3.st.ne 0 1 rfl rfl (by decide) (k := b2) rfl
    simp only [Res.own, ne_eq, Option.some.injEq] at ne01
    simp (disch := first | omega | exact okFill_t rfl | exact fun h => h | (simp only [World.size_alloc, World.size_drew, World.size_setCell, size_fill, bytesW]; omega)) only [go_sem, ↓reduceIte, reduceCtorEq, Nat.reduceBEq, Nat.reduceEqDiff, Nat.reduceAdd, Nat.reduceMul, Int.reduceNe, Int.reduceEq, Int.reduceLT, Int.reduceLE, Int.reduceNeg, Int.reduceAdd, Int.reduceSub, Int.reduceMul, Int.reduceToNat, beq_self_eq_true, c24, c24S0, c24S1, c24S2, c24S3, c24S4, c24S5, c24D0, a3, r3, n3, storeW_fill, List.setIfInBounds_toArray, List.set_cons_zero, List.set_cons_succ, List.getElem_toArray, List.getElem_cons_zero, List.getElem_cons_succ, Nat.reduceLeDiff, Nat.reduceSub, okSt_nil, okSt_cons, fillO_some, fillO_none, cF_same, cF_blk, fF_any, size_fill, Value.oneCell', Int.toNat_natCast, Int.cast_ofNat_Int, cast0, cast1, Int.natCast_add, add_block, add_off, Classical.not_not, decide_not, Bool.not_eq_false, decide_true, decide_false, Bool.true_beq, Bool.false_beq, beq_true, beq_false, Bool.true_bne, Bool.false_bne, Bool.bne_true, Bool.bne_false, decide_eq_true_eq, Bool.not_eq_eq_eq_not, Nat.mul_one, List.size_toArray, List.length_cons, List.length_nil, Nat.le_refl, ldK_int, ldK_bool, ldK_str, ldK_slice, ldK_ptr, ldK_map, ldK_agg, ldK_other, ldO_int, ldO_bool, ldO_str, ldO_slice, ldO_ptr, ldO_map, ldO_other, ldA_some, cellsO_nil, cellsO_cons, cellsC_some, cA_new, cA_old, fA_new, fA_old, setO_some, cS_same, cS_off, cS_blk, World.cell?_drew, World.frozen?_drew, World.frozen?_setCell, World.size_alloc, World.size_drew, World.size_setCell, heldX_eq, heldX_add, chg_refl, chg_drew, ovr_nil, ovr_cons, Option.getD_some, Option.getD_none, Addr.add_lit, Nat.add_zero, Option.some.injEq, exists_eq', exists_eq_left', Value.int.injEq, Value.bool.injEq, Value.pointer.injEq, Value.string.injEq]
    have d4 := d3.fill 0 rfl (cs := #[.slice as3 (writeN m a.At a.Data).1.safe.length cs3, .slice al3 (writeN m a.At a.Data).1.late.length cl3, .int .i64 (writeN m a.At a.Data).1.left, .bool (writeN m a.At a.Data).1.gone]) rfl
    simp only [List.set_cons_zero] at d4
    refine Ret.mono (write_ok g vb vl m a.At a.Data _ d4.disk hl) ?_
    rintro _ w5 ⟨rfl, vl5, h5, g5⟩
    have d5 := d4.turn h5 g5
    have r5 := d5.st.rules (i + 2) (by simpa using hi)
    have n5 := d5.st.rules 0 rfl
    simp (disch := first | omega | exact okFill_t rfl | exact fun h => h | (simp only [World.size_alloc, World.size_drew, World.size_setCell, size_fill, bytesW]; omega)) only [go_sem, ↓reduceIte, reduceCtorEq, Nat.reduceBEq, Nat.reduceEqDiff, Nat.reduceAdd, Nat.reduceMul, Int.reduceNe, Int.reduceEq, Int.reduceLT, Int.reduceLE, Int.reduceNeg, Int.reduceAdd, Int.reduceSub, Int.reduceMul, Int.reduceToNat, beq_self_eq_true, c24, c24S0, c24S1, c24S2, c24S3, c24S4, c24S5, r5, n5, storeW_fill, List.setIfInBounds_toArray, List.set_cons_zero, List.set_cons_succ, List.getElem_toArray, List.getElem_cons_zero, List.getElem_cons_succ, Nat.reduceLeDiff, Nat.reduceSub, okSt_nil, okSt_cons, fillO_some, fillO_none, cF_same, cF_blk, fF_any, size_fill, Value.oneCell', Int.toNat_natCast, Int.cast_ofNat_Int, cast0, cast1, Int.natCast_add, add_block, add_off, Classical.not_not, decide_not, Bool.not_eq_false, decide_true, decide_false, Bool.true_beq, Bool.false_beq, beq_true, beq_false, Bool.true_bne, Bool.false_bne, Bool.bne_true, Bool.bne_false, decide_eq_true_eq, Bool.not_eq_eq_eq_not, Nat.mul_one, List.size_toArray, List.length_cons, List.length_nil, Nat.le_refl, ldK_int, ldK_bool, ldK_str, ldK_slice, ldK_ptr, ldK_map, ldK_agg, ldK_other, ldO_int, ldO_bool, ldO_str, ldO_slice, ldO_ptr, ldO_map, ldO_other, ldA_some, cellsO_nil, cellsO_cons, cellsC_some, cA_new, cA_old, fA_new, fA_old, setO_some, cS_same, cS_off, cS_blk, World.cell?_drew, World.frozen?_drew, World.frozen?_setCell, World.size_alloc, World.size_drew, World.size_setCell, heldX_eq, heldX_add, chg_refl, chg_drew, ovr_nil, ovr_cons, Option.getD_some, Option.getD_none, Addr.add_lit, Nat.add_zero, Option.some.injEq, exists_eq', exists_eq_left', Value.int.injEq, Value.bool.injEq, Value.pointer.injEq, Value.string.injEq]
    rw [ea]
    exact ⟨vl5, _, _, (d5.fill (i + 2) (show _ = some (Res.blk br #[.slice asf m.safe.length caps, .slice al m.late.length capl, .int .i64 m.left, .bool m.gone] 48) by simpa using hi) (cs := #[.slice as3 (writeN m a.At a.Data).1.safe.length cs3, .slice al3 (writeN m a.At a.Data).1.late.length cl3, .int .i64 (writeN m a.At a.Data).1.left, .bool (writeN m a.At a.Data).1.gone]) rfl).sub ((List.sublist_cons_self _ _).trans (List.sublist_cons_self _ _))⟩
  · rw [if_neg k0, if_pos k1] at ea
    have d2 := d1.box #[.slice asf m.safe.length caps, .slice al m.late.length capl, .int .i64 m.left, .bool m.gone] 48
    generalize hb2 : w1.heap.size = b2 at d2 ⊢
    generalize w1.alloc (.cells #[.slice asf m.safe.length caps, .slice al m.late.length capl, .int .i64 m.left, .bool m.gone] 48) = w2 at d2 ⊢
    have r2 := d2.st.rules (i + 2) (by simpa using hi)
    have a2 := d2.st.rules 1 rfl
    simp only [Act.enc] at a2
    have n2 := d2.st.rules 0 rfl
    have lt1 := (d2.st.low 1 rfl).2
    have lt0 := (d2.st.low (i + 2) (by simpa using hi)).2
    simp (disch := first | omega | exact okFill_t rfl | exact fun h => h | (simp only [World.size_alloc, World.size_drew, World.size_setCell, size_fill, bytesW]; omega)) only [go_sem, ↓reduceIte, reduceCtorEq, Nat.reduceBEq, Nat.reduceEqDiff, Nat.reduceAdd, Nat.reduceMul, Int.reduceNe, Int.reduceEq, Int.reduceLT, Int.reduceLE, Int.reduceNeg, Int.reduceAdd, Int.reduceSub, Int.reduceMul, Int.reduceToNat, beq_self_eq_true, c24, c24S0, c24S1, c24S2, c24S3, c24S4, c24S5, r2, a2, n2, storeW_fill, List.setIfInBounds_toArray, List.set_cons_zero, List.set_cons_succ, List.getElem_toArray, List.getElem_cons_zero, List.getElem_cons_succ, Nat.reduceLeDiff, Nat.reduceSub, okSt_nil, okSt_cons, fillO_some, fillO_none, cF_same, cF_blk, fF_any, size_fill, Value.oneCell', Int.toNat_natCast, Int.cast_ofNat_Int, cast0, cast1, Int.natCast_add, add_block, add_off, Classical.not_not, decide_not, Bool.not_eq_false, decide_true, decide_false, Bool.true_beq, Bool.false_beq, beq_true, beq_false, Bool.true_bne, Bool.false_bne, Bool.bne_true, Bool.bne_false, decide_eq_true_eq, Bool.not_eq_eq_eq_not, Nat.mul_one, List.size_toArray, List.length_cons, List.length_nil, Nat.le_refl, ldK_int, ldK_bool, ldK_str, ldK_slice, ldK_ptr, ldK_map, ldK_agg, ldK_other, ldO_int, ldO_bool, ldO_str, ldO_slice, ldO_ptr, ldO_map, ldO_other, ldA_some, cellsO_nil, cellsO_cons, cellsC_some, cA_new, cA_old, fA_new, fA_old, setO_some, cS_same, cS_off, cS_blk, World.cell?_drew, World.frozen?_drew, World.frozen?_setCell, World.size_alloc, World.size_drew, World.size_setCell, heldX_eq, heldX_add, chg_refl, chg_drew, ovr_nil, ovr_cons, Option.getD_some, Option.getD_none, Addr.add_lit, Nat.add_zero, Option.some.injEq, exists_eq', exists_eq_left', Value.int.injEq, Value.bool.injEq, Value.pointer.injEq, Value.string.injEq]
    refine Ret.mono (rflush_ok _ _ m w2 (d2.st.rd 0 rfl) (d2.st.rd 1 rfl) d2.disk.ok) ?_
    rintro _ w3 ⟨v3, rfl, ho⟩
    obtain ⟨vs3, vl3, rfl, d3⟩ := d2.rout ho
    obtain ⟨as3, cs3, rfl, _⟩ := (d3.st.rd 0 rfl).form
    obtain ⟨al3, cl3, rfl, _⟩ := (d3.st.rd 1 rfl).form
    have r3 := d3.st.rules (i + 2) (by simpa using hi)
    have a3 := d3.st.rules 1 rfl
    simp only [Act.enc] at a3
    have n3 := d3.st.rules 0 rfl
    have ne01 := d3.st.ne 0 1 rfl rfl (by decide) (k := b2) rfl
    simp only [Res.own, ne_eq, Option.some.injEq] at ne01
    simp (disch := first | omega | exact okFill_t rfl | exact fun h => h | (simp only [World.size_alloc, World.size_drew, World.size_setCell, size_fill, bytesW]; omega)) only [go_sem, ↓reduceIte, reduceCtorEq, Nat.reduceBEq, Nat.reduceEqDiff, Nat.reduceAdd, Nat.reduceMul, Int.reduceNe, Int.reduceEq, Int.reduceLT, Int.reduceLE, Int.reduceNeg, Int.reduceAdd, Int.reduceSub, Int.reduceMul, Int.reduceToNat, beq_self_eq_true, c24, c24S0, c24S1, c24S2, c24S3, c24S4, c24S5, a3, r3, n3, storeW_fill, List.setIfInBounds_toArray, List.set_cons_zero, List.set_cons_succ, List.getElem_toArray, List.getElem_cons_zero, List.getElem_cons_succ, Nat.reduceLeDiff, Nat.reduceSub, okSt_nil, okSt_cons, fillO_some, fillO_none, cF_same, cF_blk, fF_any, size_fill, Value.oneCell', Int.toNat_natCast, Int.cast_ofNat_Int, cast0, cast1, Int.natCast_add, add_block, add_off, Classical.not_not, decide_not, Bool.not_eq_false, decide_true, decide_false, Bool.true_beq, Bool.false_beq, beq_true, beq_false, Bool.true_bne, Bool.false_bne, Bool.bne_true, Bool.bne_false, decide_eq_true_eq, Bool.not_eq_eq_eq_not, Nat.mul_one, List.size_toArray, List.length_cons, List.length_nil, Nat.le_refl, ldK_int, ldK_bool, ldK_str, ldK_slice, ldK_ptr, ldK_map, ldK_agg, ldK_other, ldO_int, ldO_bool, ldO_str, ldO_slice, ldO_ptr, ldO_map, ldO_other, ldA_some, cellsO_nil, cellsO_cons, cellsC_some, cA_new, cA_old, fA_new, fA_old, setO_some, cS_same, cS_off, cS_blk, World.cell?_drew, World.frozen?_drew, World.frozen?_setCell, World.size_alloc, World.size_drew, World.size_setCell, heldX_eq, heldX_add, chg_refl, chg_drew, ovr_nil, ovr_cons, Option.getD_some, Option.getD_none, Addr.add_lit, Nat.add_zero, Option.some.injEq, exists_eq', exists_eq_left', Value.int.injEq, Value.bool.injEq, Value.pointer.injEq, Value.string.injEq]
    have d4 := d3.fill 0 rfl (cs := #[.slice as3 (flushN m).1.safe.length cs3, .slice al3 (flushN m).1.late.length cl3, .int .i64 (flushN m).1.left, .bool (flushN m).1.gone]) rfl
    simp only [List.set_cons_zero] at d4
    refine Ret.mono (flush_ok g vb vl m _ d4.disk) ?_
    rintro _ w5 ⟨rfl, vl5, h5, g5⟩
    have d5 := d4.turn h5 g5
    have r5 := d5.st.rules (i + 2) (by simpa using hi)
    have n5 := d5.st.rules 0 rfl
    simp (disch := first | omega | exact okFill_t rfl | exact fun h => h | (simp only [World.size_alloc, World.size_drew, World.size_setCell, size_fill, bytesW]; omega)) only [go_sem, ↓reduceIte, reduceCtorEq, Nat.reduceBEq, Nat.reduceEqDiff, Nat.reduceAdd, Nat.reduceMul, Int.reduceNe, Int.reduceEq, Int.reduceLT, Int.reduceLE, Int.reduceNeg, Int.reduceAdd, Int.reduceSub, Int.reduceMul, Int.reduceToNat, beq_self_eq_true, c24, c24S0, c24S1, c24S2, c24S3, c24S4, c24S5, r5, n5, storeW_fill, List.setIfInBounds_toArray, List.set_cons_zero, List.set_cons_succ, List.getElem_toArray, List.getElem_cons_zero, List.getElem_cons_succ, Nat.reduceLeDiff, Nat.reduceSub, okSt_nil, okSt_cons, fillO_some, fillO_none, cF_same, cF_blk, fF_any, size_fill, Value.oneCell', Int.toNat_natCast, Int.cast_ofNat_Int, cast0, cast1, Int.natCast_add, add_block, add_off, Classical.not_not, decide_not, Bool.not_eq_false, decide_true, decide_false, Bool.true_beq, Bool.false_beq, beq_true, beq_false, Bool.true_bne, Bool.false_bne, Bool.bne_true, Bool.bne_false, decide_eq_true_eq, Bool.not_eq_eq_eq_not, Nat.mul_one, List.size_toArray, List.length_cons, List.length_nil, Nat.le_refl, ldK_int, ldK_bool, ldK_str, ldK_slice, ldK_ptr, ldK_map, ldK_agg, ldK_other, ldO_int, ldO_bool, ldO_str, ldO_slice, ldO_ptr, ldO_map, ldO_other, ldA_some, cellsO_nil, cellsO_cons, cellsC_some, cA_new, cA_old, fA_new, fA_old, setO_some, cS_same, cS_off, cS_blk, World.cell?_drew, World.frozen?_drew, World.frozen?_setCell, World.size_alloc, World.size_drew, World.size_setCell, heldX_eq, heldX_add, chg_refl, chg_drew, ovr_nil, ovr_cons, Option.getD_some, Option.getD_none, Addr.add_lit, Nat.add_zero, Option.some.injEq, exists_eq', exists_eq_left', Value.int.injEq, Value.bool.injEq, Value.pointer.injEq, Value.string.injEq]
    rw [ea]
    exact ⟨vl5, _, _, (d5.fill (i + 2) (show _ = some (Res.blk br #[.slice asf m.safe.length caps, .slice al m.late.length capl, .int .i64 m.left, .bool m.gone] 48) by simpa using hi) (cs := #[.slice as3 (flushN m).1.safe.length cs3, .slice al3 (flushN m).1.late.length cl3, .int .i64 (flushN m).1.left, .bool (flushN m).1.gone]) rfl).sub ((List.sublist_cons_self _ _).trans (List.sublist_cons_self _ _))⟩
  · rw [if_neg k0, if_neg k1, if_pos k2] at ea
    have d2 := d1.box #[.slice asf m.safe.length caps, .slice al m.late.length capl, .int .i64 m.left, .bool m.gone] 48
    generalize hb2 : w1.heap.size = b2 at d2 ⊢
    generalize w1.alloc (.cells #[.slice asf m.safe.length caps, .slice al m.late.length capl, .int .i64 m.left, .bool m.gone] 48) = w2 at d2 ⊢
    have r2 := d2.st.rules (i + 2) (by simpa using hi)
    have a2 := d2.st.rules 1 rfl
    simp only [Act.enc] at a2
    have n2 := d2.st.rules 0 rfl
    have lt1 := (d2.st.low 1 rfl).2
    have lt0 := (d2.st.low (i + 2) (by simpa using hi)).2
    refine c24draw1 (Chg (fun _ => False) _) (Chg.refl _ _) ?_
    simp (disch := first | omega | exact okFill_t rfl | exact fun h => h | (simp only [World.size_alloc, World.size_drew, World.size_setCell, size_fill, bytesW]; omega)) only [go_sem, ↓reduceIte, reduceCtorEq, Nat.reduceBEq, Nat.reduceEqDiff, Nat.reduceAdd, Nat.reduceMul, Int.reduceNe, Int.reduceEq, Int.reduceLT, Int.reduceLE, Int.reduceNeg, Int.reduceAdd, Int.reduceSub, Int.reduceMul, Int.reduceToNat, beq_self_eq_true, c24, c24S0, c24S1, c24S2, c24S3, c24S4, c24S5, c24D1, a2, r2, n2, storeW_fill, List.setIfInBounds_toArray, List.set_cons_zero, List.set_cons_succ, List.getElem_toArray, List.getElem_cons_zero, List.getElem_cons_succ, Nat.reduceLeDiff, Nat.reduceSub, okSt_nil, okSt_cons, fillO_some, fillO_none, cF_same, cF_blk, fF_any, size_fill, Value.oneCell', Int.toNat_natCast, Int.cast_ofNat_Int, cast0, cast1, Int.natCast_add, add_block, add_off, Classical.not_not, decide_not, Bool.not_eq_false, decide_true, decide_false, Bool.true_beq, Bool.false_beq, beq_true, beq_false, Bool.true_bne, Bool.false_bne, Bool.bne_true, Bool.bne_false, decide_eq_true_eq, Bool.not_eq_eq_eq_not, Nat.mul_one, List.size_toArray, List.length_cons, List.length_nil, Nat.le_refl, ldK_int, ldK_bool, ldK_str, ldK_slice, ldK_ptr, ldK_map, ldK_agg, ldK_other, ldO_int, ldO_bool, ldO_str, ldO_slice, ldO_ptr, ldO_map, ldO_other, ldA_some, cellsO_nil, cellsO_cons, cellsC_some, cA_new, cA_old, fA_new, fA_old, setO_some, cS_same, cS_off, cS_blk, World.cell?_drew, World.frozen?_drew, World.frozen?_setCell, World.size_alloc, World.size_drew, World.size_setCell, heldX_eq, heldX_add, chg_refl, chg_drew, ovr_nil, ovr_cons, Option.getD_some, Option.getD_none, Addr.add_lit, Nat.add_zero, Option.some.injEq, exists_eq', exists_eq_left', Value.int.injEq, Value.bool.injEq, Value.pointer.injEq, Value.string.injEq]
    refine Ret.mono (rread_ok _ m a.At w2.drew ⟨_, _, rfl, d2.drew.st.rd 0 rfl, d2.drew.st.rd 1 rfl⟩ (by omega)) ?_
    rintro _ w3 ⟨rfl, hb3⟩
    have d3 := d2.drew.call hb3
    have a3 := d3.st.rules 1 rfl
    simp only [Act.enc] at a3
    simp (disch := first | omega | exact okFill_t rfl | exact fun h => h | (simp only [World.size_alloc, World.size_drew, World.size_setCell, size_fill, bytesW]; omega)) only [go_sem, ↓reduceIte, reduceCtorEq, Nat.reduceBEq, Nat.reduceEqDiff, Nat.reduceAdd, Nat.reduceMul, Int.reduceNe, Int.reduceEq, Int.reduceLT, Int.reduceLE, Int.reduceNeg, Int.reduceAdd, Int.reduceSub, Int.reduceMul, Int.reduceToNat, beq_self_eq_true, c24, c24S0, c24S1, c24S2, c24S3, c24S4, c24S5, c24D1, a3, storeW_fill, List.setIfInBounds_toArray, List.set_cons_zero, List.set_cons_succ, List.getElem_toArray, List.getElem_cons_zero, List.getElem_cons_succ, Nat.reduceLeDiff, Nat.reduceSub, okSt_nil, okSt_cons, fillO_some, fillO_none, cF_same, cF_blk, fF_any, size_fill, Value.oneCell', Int.toNat_natCast, Int.cast_ofNat_Int, cast0, cast1, Int.natCast_add, add_block, add_off, Classical.not_not, decide_not, Bool.not_eq_false, decide_true, decide_false, Bool.true_beq, Bool.false_beq, beq_true, beq_false, Bool.true_bne, Bool.false_bne, Bool.bne_true, Bool.bne_false, decide_eq_true_eq, Bool.not_eq_eq_eq_not, Nat.mul_one, List.size_toArray, List.length_cons, List.length_nil, Nat.le_refl, ldK_int, ldK_bool, ldK_str, ldK_slice, ldK_ptr, ldK_map, ldK_agg, ldK_other, ldO_int, ldO_bool, ldO_str, ldO_slice, ldO_ptr, ldO_map, ldO_other, ldA_some, cellsO_nil, cellsO_cons, cellsC_some, cA_new, cA_old, fA_new, fA_old, setO_some, cS_same, cS_off, cS_blk, World.cell?_drew, World.frozen?_drew, World.frozen?_setCell, World.size_alloc, World.size_drew, World.size_setCell, heldX_eq, heldX_add, chg_refl, chg_drew, ovr_nil, ovr_cons, Option.getD_some, Option.getD_none, Addr.add_lit, Nat.add_zero, Option.some.injEq, exists_eq', exists_eq_left', Value.int.injEq, Value.bool.injEq, Value.pointer.injEq, Value.string.injEq]
    refine Ret.mono (read_ok g vb vl m a.At w3 d3.disk) ?_
    rintro _ w4 ⟨rfl, hb4⟩
    have d4 := d3.call hb4
    simp (disch := first | omega | exact okFill_t rfl | exact fun h => h | (simp only [World.size_alloc, World.size_drew, World.size_setCell, size_fill, bytesW]; omega)) only [go_sem, ↓reduceIte, reduceCtorEq, Nat.reduceBEq, Nat.reduceEqDiff, Nat.reduceAdd, Nat.reduceMul, Int.reduceNe, Int.reduceEq, Int.reduceLT, Int.reduceLE, Int.reduceNeg, Int.reduceAdd, Int.reduceSub, Int.reduceMul, Int.reduceToNat, beq_self_eq_true, c24, c24S0, c24S1, c24S2, c24S3, c24S4, c24S5, storeW_fill, List.setIfInBounds_toArray, List.set_cons_zero, List.set_cons_succ, List.getElem_toArray, List.getElem_cons_zero, List.getElem_cons_succ, Nat.reduceLeDiff, Nat.reduceSub, okSt_nil, okSt_cons, fillO_some, fillO_none, cF_same, cF_blk, fF_any, size_fill, Value.oneCell', Int.toNat_natCast, Int.cast_ofNat_Int, cast0, cast1, Int.natCast_add, add_block, add_off, Classical.not_not, decide_not, Bool.not_eq_false, decide_true, decide_false, Bool.true_beq, Bool.false_beq, beq_true, beq_false, Bool.true_bne, Bool.false_bne, Bool.bne_true, Bool.bne_false, decide_eq_true_eq, Bool.not_eq_eq_eq_not, Nat.mul_one, List.size_toArray, List.length_cons, List.length_nil, Nat.le_refl, ldK_int, ldK_bool, ldK_str, ldK_slice, ldK_ptr, ldK_map, ldK_agg, ldK_other, ldO_int, ldO_bool, ldO_str, ldO_slice, ldO_ptr, ldO_map, ldO_other, ldA_some, cellsO_nil, cellsO_cons, cellsC_some, cA_new, cA_old, fA_new, fA_old, setO_some, cS_same, cS_off, cS_blk, World.cell?_drew, World.frozen?_drew, World.frozen?_setCell, World.size_alloc, World.size_drew, World.size_setCell, heldX_eq, heldX_add, chg_refl, chg_drew, ovr_nil, ovr_cons, Option.getD_some, Option.getD_none, Addr.add_lit, Nat.add_zero, Option.some.injEq, exists_eq', exists_eq_left', Value.int.injEq, Value.bool.injEq, Value.pointer.injEq, Value.string.injEq]
    rw [ea]
    have es : L.set i (.blk br #[.slice asf m.safe.length caps, .slice al m.late.length capl, .int .i64 m.left, .bool m.gone] 48) = L := by
      apply List.ext_getElem?
      intro j
      rw [List.getElem?_set]
      split
      · rename_i e; subst e; rw [hi]; simp [(List.getElem?_eq_some_iff.1 hi).1]
      · rfl
    exact ⟨vl, _, _, by rw [es]; exact d4.sub ((List.sublist_cons_self _ _).trans (List.sublist_cons_self _ _))⟩
  · rw [if_neg k0, if_neg k1, if_neg k2, if_pos k3] at ea
    have d2 := d1.box #[.slice asf m.safe.length caps, .slice al m.late.length capl, .int .i64 a.At, .bool m.gone] 48
    generalize hb2 : w1.heap.size = b2 at d2 ⊢
    generalize w1.alloc (.cells #[.slice asf m.safe.length caps, .slice al m.late.length capl, .int .i64 a.At, .bool m.gone] 48) = w2 at d2 ⊢
    have r2 := d2.st.rules (i + 2) (by simpa using hi)
    have a2 := d2.st.rules 1 rfl
    simp only [Act.enc] at a2
    have n2 := d2.st.rules 0 rfl
    have lt1 := (d2.st.low 1 rfl).2
    have lt0 := (d2.st.low (i + 2) (by simpa using hi)).2
    refine Ret.mono (limit_ok g vb vl m a.At w2 d2.disk wat) ?_
    rintro _ w5 ⟨h5, g5⟩
    have d5 := d2.turn h5 g5
    have r5 := d5.st.rules (i + 2) (by simpa using hi)
    have n5 := d5.st.rules 0 rfl
    simp (disch := first | omega | exact okFill_t rfl | exact fun h => h | (simp only [World.size_alloc, World.size_drew, World.size_setCell, size_fill, bytesW]; omega)) only [go_sem, ↓reduceIte, reduceCtorEq, Nat.reduceBEq, Nat.reduceEqDiff, Nat.reduceAdd, Nat.reduceMul, Int.reduceNe, Int.reduceEq, Int.reduceLT, Int.reduceLE, Int.reduceNeg, Int.reduceAdd, Int.reduceSub, Int.reduceMul, Int.reduceToNat, beq_self_eq_true, c24, c24S0, c24S1, c24S2, c24S3, c24S4, c24S5, r5, n5, storeW_fill, List.setIfInBounds_toArray, List.set_cons_zero, List.set_cons_succ, List.getElem_toArray, List.getElem_cons_zero, List.getElem_cons_succ, Nat.reduceLeDiff, Nat.reduceSub, okSt_nil, okSt_cons, fillO_some, fillO_none, cF_same, cF_blk, fF_any, size_fill, Value.oneCell', Int.toNat_natCast, Int.cast_ofNat_Int, cast0, cast1, Int.natCast_add, add_block, add_off, Classical.not_not, decide_not, Bool.not_eq_false, decide_true, decide_false, Bool.true_beq, Bool.false_beq, beq_true, beq_false, Bool.true_bne, Bool.false_bne, Bool.bne_true, Bool.bne_false, decide_eq_true_eq, Bool.not_eq_eq_eq_not, Nat.mul_one, List.size_toArray, List.length_cons, List.length_nil, Nat.le_refl, ldK_int, ldK_bool, ldK_str, ldK_slice, ldK_ptr, ldK_map, ldK_agg, ldK_other, ldO_int, ldO_bool, ldO_str, ldO_slice, ldO_ptr, ldO_map, ldO_other, ldA_some, cellsO_nil, cellsO_cons, cellsC_some, cA_new, cA_old, fA_new, fA_old, setO_some, cS_same, cS_off, cS_blk, World.cell?_drew, World.frozen?_drew, World.frozen?_setCell, World.size_alloc, World.size_drew, World.size_setCell, heldX_eq, heldX_add, chg_refl, chg_drew, ovr_nil, ovr_cons, Option.getD_some, Option.getD_none, Addr.add_lit, Nat.add_zero, Option.some.injEq, exists_eq', exists_eq_left', Value.int.injEq, Value.bool.injEq, Value.pointer.injEq, Value.string.injEq]
    rw [ea]
    exact ⟨vl, _, _, (d5.fill (i + 2) (show _ = some (Res.blk br #[.slice asf m.safe.length caps, .slice al m.late.length capl, .int .i64 m.left, .bool m.gone] 48) by simpa using hi) (cs := #[.slice asf m.safe.length caps, .slice al m.late.length capl, .int .i64 a.At, .bool m.gone]) rfl).sub ((List.sublist_cons_self _ _).trans (List.sublist_cons_self _ _))⟩
  · rw [if_neg k0, if_neg k1, if_neg k2, if_neg k3] at ea
    have d2 := d1.box #[.slice asf m.safe.length caps, .slice al m.late.length capl, .int .i64 m.left, .bool m.gone] 48
    generalize hb2 : w1.heap.size = b2 at d2 ⊢
    generalize w1.alloc (.cells #[.slice asf m.safe.length caps, .slice al m.late.length capl, .int .i64 m.left, .bool m.gone] 48) = w2 at d2 ⊢
    have r2 := d2.st.rules (i + 2) (by simpa using hi)
    have a2 := d2.st.rules 1 rfl
    simp only [Act.enc] at a2
    have n2 := d2.st.rules 0 rfl
    have lt1 := (d2.st.low 1 rfl).2
    have lt0 := (d2.st.low (i + 2) (by simpa using hi)).2
    refine c24draw2 (Chg (fun _ => False) _) (Chg.refl _ _) ?_
    simp (disch := first | omega | exact okFill_t rfl | exact fun h => h | (simp only [World.size_alloc, World.size_drew, World.size_setCell, size_fill, bytesW]; omega)) only [go_sem, ↓reduceIte, reduceCtorEq, Nat.reduceBEq, Nat.reduceEqDiff, Nat.reduceAdd, Nat.reduceMul, Int.reduceNe, Int.reduceEq, Int.reduceLT, Int.reduceLE, Int.reduceNeg, Int.reduceAdd, Int.reduceSub, Int.reduceMul, Int.reduceToNat, beq_self_eq_true, c24, c24S0, c24S1, c24S2, c24S3, c24S4, c24S5, c24D2, a2, r2, n2, storeW_fill, List.setIfInBounds_toArray, List.set_cons_zero, List.set_cons_succ, List.getElem_toArray, List.getElem_cons_zero, List.getElem_cons_succ, Nat.reduceLeDiff, Nat.reduceSub, okSt_nil, okSt_cons, fillO_some, fillO_none, cF_same, cF_blk, fF_any, size_fill, Value.oneCell', Int.toNat_natCast, Int.cast_ofNat_Int, cast0, cast1, Int.natCast_add, add_block, add_off, Classical.not_not, decide_not, Bool.not_eq_false, decide_true, decide_false, Bool.true_beq, Bool.false_beq, beq_true, beq_false, Bool.true_bne, Bool.false_bne, Bool.bne_true, Bool.bne_false, decide_eq_true_eq, Bool.not_eq_eq_eq_not, Nat.mul_one, List.size_toArray, List.length_cons, List.length_nil, Nat.le_refl, ldK_int, ldK_bool, ldK_str, ldK_slice, ldK_ptr, ldK_map, ldK_agg, ldK_other, ldO_int, ldO_bool, ldO_str, ldO_slice, ldO_ptr, ldO_map, ldO_other, ldA_some, cellsO_nil, cellsO_cons, cellsC_some, cA_new, cA_old, fA_new, fA_old, setO_some, cS_same, cS_off, cS_blk, World.cell?_drew, World.frozen?_drew, World.frozen?_setCell, World.size_alloc, World.size_drew, World.size_setCell, heldX_eq, heldX_add, chg_refl, chg_drew, ovr_nil, ovr_cons, Option.getD_some, Option.getD_none, Addr.add_lit, Nat.add_zero, Option.some.injEq, exists_eq', exists_eq_left', Value.int.injEq, Value.bool.injEq, Value.pointer.injEq, Value.string.injEq]
    refine Ret.mono (rcrash_ok _ _ m a.Mask a.Torn a.Cut w2.drew (d2.drew.st.rd 0 rfl) (d2.drew.st.rd 1 rfl) d2.disk.ok (u64_of_wf q.2.2.2.1).1 (u64_of_wf q.2.2.2.1).2 (w64 q.2.2.2.2.1) (w64 q.2.2.2.2.2)) ?_
    rintro _ w3 ho
    obtain ⟨vs3, vl3, rfl, d3⟩ := d2.drew.rout ho
    obtain ⟨as3, cs3, rfl, _⟩ := (d3.st.rd 0 rfl).form
    obtain ⟨al3, cl3, rfl, _⟩ := (d3.st.rd 1 rfl).form
    have r3 := d3.st.rules (i + 2) (by simpa using hi)
    have a3 := d3.st.rules 1 rfl
    simp only [Act.enc] at a3
    have n3 := d3.st.rules 0 rfl
    have ne01 := d3.st.ne 0 1 rfl rfl (by decide) (k := b2) rfl
    simp only [Res.own, ne_eq, Option.some.injEq] at ne01
    simp (disch := first | omega | exact okFill_t rfl | exact fun h => h | (simp only [World.size_alloc, World.size_drew, World.size_setCell, size_fill, bytesW]; omega)) only [go_sem, ↓reduceIte, reduceCtorEq, Nat.reduceBEq, Nat.reduceEqDiff, Nat.reduceAdd, Nat.reduceMul, Int.reduceNe, Int.reduceEq, Int.reduceLT, Int.reduceLE, Int.reduceNeg, Int.reduceAdd, Int.reduceSub, Int.reduceMul, Int.reduceToNat, beq_self_eq_true, c24, c24S0, c24S1, c24S2, c24S3, c24S4, c24S5, c24D2, a3, r3, n3, storeW_fill, List.setIfInBounds_toArray, List.set_cons_zero, List.set_cons_succ, List.getElem_toArray, List.getElem_cons_zero, List.getElem_cons_succ, Nat.reduceLeDiff, Nat.reduceSub, okSt_nil, okSt_cons, fillO_some, fillO_none, cF_same, cF_blk, fF_any, size_fill, Value.oneCell', Int.toNat_natCast, Int.cast_ofNat_Int, cast0, cast1, Int.natCast_add, add_block, add_off, Classical.not_not, decide_not, Bool.not_eq_false, decide_true, decide_false, Bool.true_beq, Bool.false_beq, beq_true, beq_false, Bool.true_bne, Bool.false_bne, Bool.bne_true, Bool.bne_false, decide_eq_true_eq, Bool.not_eq_eq_eq_not, Nat.mul_one, List.size_toArray, List.length_cons, List.length_nil, Nat.le_refl, ldK_int, ldK_bool, ldK_str, ldK_slice, ldK_ptr, ldK_map, ldK_agg, ldK_other, ldO_int, ldO_bool, ldO_str, ldO_slice, ldO_ptr, ldO_map, ldO_other, ldA_some, cellsO_nil, cellsO_cons, cellsC_some, cA_new, cA_old, fA_new, fA_old, setO_some, cS_same, cS_off, cS_blk, World.cell?_drew, World.frozen?_drew, World.frozen?_setCell, World.size_alloc, World.size_drew, World.size_setCell, heldX_eq, heldX_add, chg_refl, chg_drew, ovr_nil, ovr_cons, Option.getD_some, Option.getD_none, Addr.add_lit, Nat.add_zero, Option.some.injEq, exists_eq', exists_eq_left', Value.int.injEq, Value.bool.injEq, Value.pointer.injEq, Value.string.injEq]
    have d4 := d3.fill 0 rfl (cs := #[.slice as3 (crashN m a.Mask a.Torn a.Cut).safe.length cs3, .slice al3 (crashN m a.Mask a.Torn a.Cut).late.length cl3, .int .i64 (crashN m a.Mask a.Torn a.Cut).left, .bool (crashN m a.Mask a.Torn a.Cut).gone]) rfl
    simp only [List.set_cons_zero] at d4
    refine Ret.mono (crash_ok g vb vl m a.Mask a.Torn a.Cut _ d4.disk (u64_of_wf q.2.2.2.1).1 (u64_of_wf q.2.2.2.1).2 (w64 q.2.2.2.2.1) (w64 q.2.2.2.2.2)) ?_
    rintro _ w5 ⟨vl5, h5, g5⟩
    have d5 := d4.turn h5 g5
    have r5 := d5.st.rules (i + 2) (by simpa using hi)
    have n5 := d5.st.rules 0 rfl
    simp (disch := first | omega | exact okFill_t rfl | exact fun h => h | (simp only [World.size_alloc, World.size_drew, World.size_setCell, size_fill, bytesW]; omega)) only [go_sem, ↓reduceIte, reduceCtorEq, Nat.reduceBEq, Nat.reduceEqDiff, Nat.reduceAdd, Nat.reduceMul, Int.reduceNe, Int.reduceEq, Int.reduceLT, Int.reduceLE, Int.reduceNeg, Int.reduceAdd, Int.reduceSub, Int.reduceMul, Int.reduceToNat, beq_self_eq_true, c24, c24S0, c24S1, c24S2, c24S3, c24S4, c24S5, r5, n5, storeW_fill, List.setIfInBounds_toArray, List.set_cons_zero, List.set_cons_succ, List.getElem_toArray, List.getElem_cons_zero, List.getElem_cons_succ, Nat.reduceLeDiff, Nat.reduceSub, okSt_nil, okSt_cons, fillO_some, fillO_none, cF_same, cF_blk, fF_any, size_fill, Value.oneCell', Int.toNat_natCast, Int.cast_ofNat_Int, cast0, cast1, Int.natCast_add, add_block, add_off, Classical.not_not, decide_not, Bool.not_eq_false, decide_true, decide_false, Bool.true_beq, Bool.false_beq, beq_true, beq_false, Bool.true_bne, Bool.false_bne, Bool.bne_true, Bool.bne_false, decide_eq_true_eq, Bool.not_eq_eq_eq_not, Nat.mul_one, List.size_toArray, List.length_cons, List.length_nil, Nat.le_refl, ldK_int, ldK_bool, ldK_str, ldK_slice, ldK_ptr, ldK_map, ldK_agg, ldK_other, ldO_int, ldO_bool, ldO_str, ldO_slice, ldO_ptr, ldO_map, ldO_other, ldA_some, cellsO_nil, cellsO_cons, cellsC_some, cA_new, cA_old, fA_new, fA_old, setO_some, cS_same, cS_off, cS_blk, World.cell?_drew, World.frozen?_drew, World.frozen?_setCell, World.size_alloc, World.size_drew, World.size_setCell, heldX_eq, heldX_add, chg_refl, chg_drew, ovr_nil, ovr_cons, Option.getD_some, Option.getD_none, Addr.add_lit, Nat.add_zero, Option.some.injEq, exists_eq', exists_eq_left', Value.int.injEq, Value.bool.injEq, Value.pointer.injEq, Value.string.injEq]
    rw [ea]
    exact ⟨vl5, _, _, (d5.fill (i + 2) (show _ = some (Res.blk br #[.slice asf m.safe.length caps, .slice al m.late.length capl, .int .i64 m.left, .bool m.gone] 48) by simpa using hi) (cs := #[.slice as3 (crashN m a.Mask a.Torn a.Cut).safe.length cs3, .slice al3 (crashN m a.Mask a.Torn a.Cut).late.length cl3, .int .i64 (crashN m a.Mask a.Torn a.Cut).left, .bool (crashN m a.Mask a.Torn a.Cut).gone]) rfl).sub ((List.sublist_cons_self _ _).trans (List.sublist_cons_self _ _))⟩
end Go.Proofs.Ytlaflmkgfafhpaa
