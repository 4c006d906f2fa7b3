/- The laws on a disk without a second one, as contracts: what was written last. -/
import Derived.Test.YtlaflmkgfafhpaaB6
namespace Go.Proofs.Ytlaflmkgfafhpaa
set_option linter.unusedSimpArgs false
set_option linter.unusedVariables false
open Go Go.Ann Go.RowKit

theorem lastL_snoc (l : List (Int × List UInt8)) (x : Int × List UInt8) (i : Int) (s : List UInt8) : lastL (l ++ [x]) i s = if x.1 = i then x.2 else lastL l i s := by
  unfold lastL; rw [List.foldl_append]; rfl
theorem doneL_last : ∀ (late : List (Int × List UInt8)) (safe : List (List UInt8)) (k : Nat), (∀ x ∈ late, 0 ≤ x.1 ∧ x.1 < safe.length) → k < safe.length → (doneL safe late).getD k [] = lastL late k (safe.getD k [])
  | [], safe, k, _, _ => rfl
  | x :: l, safe, k, h, hk => by
    have hx := h x List.mem_cons_self
    show (doneL (safe.set x.1.toNat x.2) l).getD k [] = lastL l k (if x.1 = k then x.2 else safe.getD k [])
    rw [doneL_last l _ k (fun y hy => by rw [List.length_set]; exact h y (List.mem_cons_of_mem _ hy)) (by simpa using hk)]
    congr 1
    rw [List.getD_eq_getElem?_getD, List.getElem?_set]
    by_cases e : x.1 = (k : Int)
    · rw [if_pos (by omega), if_pos (by omega), if_pos e]; rfl
    · rw [if_neg (by omega), if_neg e, List.getD_eq_getElem?_getD]
/-- A disk of six blocks that has power and no limit. -/
structure Free (m : Dk) : Prop where
  left : m.left < 0
  gone : m.gone = false
  six : m.safe.length = 6
/-- What a block is. -/
def nowL (m : Dk) (k : Int) : List UInt8 := lastL m.late k (m.safe.getD k.toNat [])
theorem Grew.blk {w w' : World} {g : Nat} {vb vl vb' vl' : Value} {b : Nat} {cs : Array Value} {t : TypeId} (h : Grew w w' g vb vl vb' vl') (hb : Blk w b cs t) (hf : ¬ foot g vb vl b) : Blk w' b cs t ∧ ¬ foot g vb' vl' b :=
  ⟨hb.chg h.1 hf, fun hk => hf (h.2 b hb.lt hk)⟩
theorem Own.alloc {w0 w : World} {g : Nat} {vb vl : Value} {m : Dk} (h : Own w0 w g vb vl m) (o : Obj) : Own w0 (w.alloc o) g vb vl m := h.below ((Below.refl _ _).alloc (Nat.le_refl _) o)
theorem Own.set {w0 w : World} {g : Nat} {vb vl : Value} {m : Dk} (h : Own w0 w g vb vl m) {p : Addr} (hp : w0.heap.size ≤ p.block) (hf : ¬ foot g vb vl p.block) (v : Value) : Own w0 (w.setCell p v) g vb vl m :=
  ⟨h.1.keep (S := fun k => k = p.block) ((Chg.refl _ _).setCell p v fun _ => rfl) (fun k hk e => hf (e ▸ hk)), h.2.1.setCell hp v, h.2.2⟩
theorem newDk_free : Free (newDk 6) := ⟨by decide, rfl, rfl⟩
theorem nowL_write {m : Dk} {i : Int} {d : List UInt8} (k : Int) : nowL { m with late := m.late ++ [(i, filledL d)] } k = if i = k then filledL d else nowL m k := lastL_snoc ..
theorem nowL_flush {m : Dk} (hok : m.ok) (k : Int) (h0 : 0 ≤ k) (hk : k < m.safe.length) : nowL { m with safe := doneL m.safe m.late, late := [] } k = nowL m k := by
  obtain ⟨j, rfl⟩ := Int.eq_ofNat_of_zero_le h0
  exact doneL_last m.late m.safe j (fun x hx => ⟨(hok.late x hx).1, (hok.late x hx).2.1⟩) (by omega)
theorem writeN_bad {m : Dk} (hg : m.gone = false) {i : Int} {d : List UInt8} (h : ¬ (0 ≤ i ∧ i < m.safe.length ∧ d.length ≤ 256)) : (writeN m i d).1 = m ∧ (writeN m i d).2 ≠ 0 := by
  unfold writeN readyN
  rw [if_neg (show ¬ m.gone = true by rw [hg]; decide)]
  by_cases h1 : 0 ≤ i ∧ i < (m.safe.length : Int)
  · rw [if_pos h1, if_neg (by decide), if_pos (by omega)]; exact ⟨rfl, fun h => by cases h⟩
  · rw [if_neg h1, if_pos (by decide)]; exact ⟨rfl, fun h => by cases h⟩
theorem exits2 {a b na nb X T : Prop} (h1 : a → b → X) (h2 : T) : (a → (b → X) ∧ (nb → T)) ∧ (na → T) := ⟨fun x => ⟨fun y => h1 x y, fun _ => h2⟩, fun _ => h2⟩
theorem w64 {n : Int} (h : kOk .i64 n) : I64 n := I64_of_wf h

/-- What one round says of the disk and of what was written. -/
structure Round (w0 w : World) (g b : Nat) (vb vl : Value) (m : Dk) (last : List (List UInt8)) (n : Nat) : Prop where
  own : Own w0 w g vb vl m
  free : Free m
  few : m.late.length ≤ n
  six : last.length = 6
  blk : Blk w b (strsV last).toArray 25
  foot : ¬ foot g vb vl b
  low : w0.heap.size ≤ b
  now : ∀ k, (hk : k < last.length) → last[k].length ≤ 256 ∧ nowL m k = filledL last[k]
theorem Round.below {w0 w w' : World} {g b : Nat} {vb vl : Value} {m : Dk} {last : List (List UInt8)} {n : Nat} (h : Round w0 w g b vb vl m last n) (hb : Below w.heap.size w w') : Round w0 w' g b vb vl m last n :=
  ⟨h.own.below hb, h.free, h.few, h.six, h.blk.below hb h.blk.lt, h.foot, h.low, h.now⟩
set_option maxRecDepth 100000 in
/-- The end of a round: a flush, if it is asked for. -/
theorem last_seg {w0 w : World} {g b ba : Nat} {vb vl : Value} {m : Dk} {last : List (List UInt8)} {n k : Nat} {v0 : Value} {a : Act} {Q : Post} (h : Round w0 w g b vb vl m last n) (hA : Blk w ba a.enc.toArray 28)
    (hQ : ∀ w' vl' m', Round w0 w' g b vb vl' m' last n → Q .normal [(0, v0), (3, .pointer (some ⟨g, 0, none⟩)), (4, .pointer (some ⟨b, 0, none⟩)), (5, .int .i64 k)] w') :
    W Try.prog (c3S2 ()) [(0, v0), (3, .pointer (some ⟨g, 0, none⟩)), (4, .pointer (some ⟨b, 0, none⟩)), (5, .int .i64 k), (6, .pointer (some ⟨ba, 0, none⟩))] w Q := by
  have hh := hA.rules
  simp only [Act.enc] at hh
  simp (disch := first | omega | exact okFill_t rfl | (simp only [World.size_alloc, World.size_drew, World.size_setCell, bytesW]; omega)) only [go_sem, ↓reduceIte, reduceCtorEq, Nat.reduceBEq, Nat.reduceEqDiff, Nat.reduceAdd, Nat.reduceMul, Int.reduceNe, Int.reduceEq, Int.reduceLT, Int.reduceLE, Int.reduceNeg, Int.reduceAdd, Int.reduceSub, Int.reduceMul, Int.reduceToNat, beq_self_eq_true, c3, c3S0, c3S1, c3S2, c3S3, c3S4, c3S5, c3L0, c3S6, c3S7, c3S8, c3S9, c3L1, c3S10, c3S11, c3S12, c3S13, c3S14, hh, storeW_fill, Int.toNat_natCast, Int.cast_ofNat_Int, Int.natCast_add, decide_true, decide_false, Nat.mul_one, List.size_toArray, List.length_cons, List.length_nil, Nat.le_refl, ldK_int, ldK_bool, ldK_str, ldK_slice, ldK_ptr, ldK_map, ldK_agg, ldK_other, ldO_int, ldO_bool, ldO_str, ldO_slice, ldO_ptr, ldO_map, ldO_other, ldA_some, cellsO_nil, cellsO_cons, cellsC_some, cA_new, cA_old, fA_new, fA_old, setO_some, cS_same, cS_off, cS_blk, World.cell?_drew, World.frozen?_drew, World.frozen?_setCell, World.size_alloc, World.size_drew, World.size_setCell, heldX_eq, heldX_add, chg_refl, chg_drew, ovr_nil, ovr_cons, Option.getD_some, Option.getD_none, Addr.add_lit, Nat.add_zero, Option.some.injEq, exists_eq', exists_eq_left', Value.int.injEq, Value.bool.injEq, Value.pointer.injEq, Value.string.injEq]
  refine ⟨fun hk => ?_, fun hk => hQ _ _ _ h⟩
  refine Ret.mono (flush_ok g vb vl m w h.own.1) ?_
  rintro _ w4 ⟨rfl, vl4, h4, g4⟩
  have o4 := h.own.grew h4 g4
  obtain ⟨hB4, hf4⟩ := g4.blk h.blk h.foot
  rw [flushN_free h.free.left h.free.gone h.own.1.ok.some] at *
  simp (disch := first | omega | exact okFill_t rfl | (simp only [World.size_alloc, World.size_drew, World.size_setCell, bytesW]; omega)) only [go_sem, ↓reduceIte, reduceCtorEq, Nat.reduceBEq, Nat.reduceEqDiff, Nat.reduceAdd, Nat.reduceMul, Int.reduceNe, Int.reduceEq, Int.reduceLT, Int.reduceLE, Int.reduceNeg, Int.reduceAdd, Int.reduceSub, Int.reduceMul, Int.reduceToNat, beq_self_eq_true, c3, c3S0, c3S1, c3S2, c3S3, c3S4, c3S5, c3L0, c3S6, c3S7, c3S8, c3S9, c3L1, c3S10, c3S11, c3S12, c3S13, c3S14, storeW_fill, Int.toNat_natCast, Int.cast_ofNat_Int, Int.natCast_add, decide_true, decide_false, Nat.mul_one, List.size_toArray, List.length_cons, List.length_nil, Nat.le_refl, ldK_int, ldK_bool, ldK_str, ldK_slice, ldK_ptr, ldK_map, ldK_agg, ldK_other, ldO_int, ldO_bool, ldO_str, ldO_slice, ldO_ptr, ldO_map, ldO_other, ldA_some, cellsO_nil, cellsO_cons, cellsC_some, cA_new, cA_old, fA_new, fA_old, setO_some, cS_same, cS_off, cS_blk, World.cell?_drew, World.frozen?_drew, World.frozen?_setCell, World.size_alloc, World.size_drew, World.size_setCell, heldX_eq, heldX_add, chg_refl, chg_drew, ovr_nil, ovr_cons, Option.getD_some, Option.getD_none, Addr.add_lit, Nat.add_zero, Option.some.injEq, exists_eq', exists_eq_left', Value.int.injEq, Value.bool.injEq, Value.pointer.injEq, Value.string.injEq]
  refine hQ _ vl4 _ ⟨o4, ⟨h.free.left, h.free.gone, (doneL_length _ _).trans h.free.six⟩, Nat.zero_le _, h.six, hB4, hf4, h.low, fun j hj => ⟨(h.now j hj).1, ?_⟩⟩
  rw [nowL_flush h.own.1.ok _ (by omega) (by rw [h.free.six]; have := h.six; omega)]
  exact (h.now j hj).2
set_option maxRecDepth 100000 in
theorem last_ok (v : Value) (acts : List Act) (w : World) (h : RdS w 6 Act.enc v acts) (hw : ∀ x ∈ acts, x.wf) (hlen : (acts.length : Int) ≤ 9223372036854775807) :
    Ret Try.prog 3 [v] w fun u w' => u = .bool true ∧ Below w.heap.size w w' := by
  obtain ⟨ad, cap, rfl, hcap⟩ := h.form
  refine ent3 _ _ _ ?_
  simp (disch := first | omega | exact okFill_t rfl | (simp only [World.size_alloc, World.size_drew, World.size_setCell, bytesW]; omega)) only [go_sem, ↓reduceIte, reduceCtorEq, Nat.reduceBEq, Nat.reduceEqDiff, Nat.reduceAdd, Nat.reduceMul, Int.reduceNe, Int.reduceEq, Int.reduceLT, Int.reduceLE, Int.reduceNeg, Int.reduceAdd, Int.reduceSub, Int.reduceMul, Int.reduceToNat, beq_self_eq_true, c3, c3S0, c3S1, c3S2, c3S3, c3S4, c3S5, c3L0, c3S6, c3S7, c3S8, c3S9, c3L1, c3S10, c3S11, c3S12, c3S13, c3S14, storeW_fill, Int.toNat_natCast, Int.cast_ofNat_Int, Int.natCast_add, decide_true, decide_false, Nat.mul_one, List.size_toArray, List.length_cons, List.length_nil, Nat.le_refl, ldK_int, ldK_bool, ldK_str, ldK_slice, ldK_ptr, ldK_map, ldK_agg, ldK_other, ldO_int, ldO_bool, ldO_str, ldO_slice, ldO_ptr, ldO_map, ldO_other, ldA_some, cellsO_nil, cellsO_cons, cellsC_some, cA_new, cA_old, fA_new, fA_old, setO_some, cS_same, cS_off, cS_blk, World.cell?_drew, World.frozen?_drew, World.frozen?_setCell, World.size_alloc, World.size_drew, World.size_setCell, heldX_eq, heldX_add, chg_refl, chg_drew, ovr_nil, ovr_cons, Option.getD_some, Option.getD_none, Addr.add_lit, Nat.add_zero, Option.some.injEq, exists_eq', exists_eq_left', Value.int.injEq, Value.bool.injEq, Value.pointer.injEq, Value.string.injEq]
  refine Ret.mono (some_ok w) ?_
  rintro v w2 ⟨g, vb, vl, rfl, h2⟩
  have o2 : Own w w2 g vb vl (newDk 6) := h2
  simp (disch := first | omega | exact okFill_t rfl | (simp only [World.size_alloc, World.size_drew, World.size_setCell, bytesW]; omega)) only [go_sem, ↓reduceIte, reduceCtorEq, Nat.reduceBEq, Nat.reduceEqDiff, Nat.reduceAdd, Nat.reduceMul, Int.reduceNe, Int.reduceEq, Int.reduceLT, Int.reduceLE, Int.reduceNeg, Int.reduceAdd, Int.reduceSub, Int.reduceMul, Int.reduceToNat, beq_self_eq_true, c3, c3S0, c3S1, c3S2, c3S3, c3S4, c3S5, c3L0, c3S6, c3S7, c3S8, c3S9, c3L1, c3S10, c3S11, c3S12, c3S13, c3S14, storeW_fill, Int.toNat_natCast, Int.cast_ofNat_Int, Int.natCast_add, decide_true, decide_false, Nat.mul_one, List.size_toArray, List.length_cons, List.length_nil, Nat.le_refl, ldK_int, ldK_bool, ldK_str, ldK_slice, ldK_ptr, ldK_map, ldK_agg, ldK_other, ldO_int, ldO_bool, ldO_str, ldO_slice, ldO_ptr, ldO_map, ldO_other, ldA_some, cellsO_nil, cellsO_cons, cellsC_some, cA_new, cA_old, fA_new, fA_old, setO_some, cS_same, cS_off, cS_blk, World.cell?_drew, World.frozen?_drew, World.frozen?_setCell, World.size_alloc, World.size_drew, World.size_setCell, heldX_eq, heldX_add, chg_refl, chg_drew, ovr_nil, ovr_cons, Option.getD_some, Option.getD_none, Addr.add_lit, Nat.add_zero, Option.some.injEq, exists_eq', exists_eq_left', Value.int.injEq, Value.bool.injEq, Value.pointer.injEq, Value.string.injEq]
  refine W_loopU (fun k : Nat => [(5, .int .i64 k)]) (fun k w' => k ≤ acts.length ∧ k ≤ 200 ∧ ∃ vl m last, Round w w' g w2.heap.size vb vl m last k) (fun k => acts.length - k) 0 rfl ?_ ?_
  · refine ⟨Nat.zero_le _, Nat.zero_le _, vl, newDk 6, List.replicate 6 [], o2.alloc _, newDk_free, Nat.le_refl _, rfl, Blk.new, fun hk => by have := o2.1.foot_lt hk; omega, o2.2.1.size, fun k hk => ?_⟩
    have hk : k < 6 := hk
    match k, hk with
    | 0, _ | 1, _ | 2, _ | 3, _ | 4, _ | 5, _ => exact ⟨Nat.zero_le _, rfl⟩
  have hw2 := o2.2.1.size
  rintro k w3 ⟨h1, h1', vl3, m, last, hr⟩
  obtain ⟨o3, fr, hl3, h6, hB, hf, hlow, hnow⟩ := hr
  simp (disch := first | omega | exact okFill_t rfl | (simp only [World.size_alloc, World.size_drew, World.size_setCell, bytesW]; omega)) only [go_sem, ↓reduceIte, reduceCtorEq, Nat.reduceBEq, Nat.reduceEqDiff, Nat.reduceAdd, Nat.reduceMul, Int.reduceNe, Int.reduceEq, Int.reduceLT, Int.reduceLE, Int.reduceNeg, Int.reduceAdd, Int.reduceSub, Int.reduceMul, Int.reduceToNat, beq_self_eq_true, c3, c3S0, c3S1, c3S2, c3S3, c3S4, c3S5, c3L0, c3S6, c3S7, c3S8, c3S9, c3L1, c3S10, c3S11, c3S12, c3S13, c3S14, c3L0, storeW_fill, Int.toNat_natCast, Int.cast_ofNat_Int, Int.natCast_add, decide_true, decide_false, Nat.mul_one, List.size_toArray, List.length_cons, List.length_nil, Nat.le_refl, ldK_int, ldK_bool, ldK_str, ldK_slice, ldK_ptr, ldK_map, ldK_agg, ldK_other, ldO_int, ldO_bool, ldO_str, ldO_slice, ldO_ptr, ldO_map, ldO_other, ldA_some, cellsO_nil, cellsO_cons, cellsC_some, cA_new, cA_old, fA_new, fA_old, setO_some, cS_same, cS_off, cS_blk, World.cell?_drew, World.frozen?_drew, World.frozen?_setCell, World.size_alloc, World.size_drew, World.size_setCell, heldX_eq, heldX_add, chg_refl, chg_drew, ovr_nil, ovr_cons, Option.getD_some, Option.getD_none, Addr.add_lit, Nat.add_zero, Option.some.injEq, exists_eq', exists_eq_left', Value.int.injEq, Value.bool.injEq, Value.pointer.injEq, Value.string.injEq]
  by_cases hlt : k < acts.length ∧ k < 200
  · refine ⟨fun _ => ⟨fun _ => ?_, fun h => absurd h (by omega)⟩, fun h => absurd h (by omega)⟩
    obtain ⟨p, rfl⟩ := h.ptr (by omega)
    have ha := cellsO_below o3.2.1 (h.at (fun _ => rfl) hlt.1)
    have hwf := hw acts[k] (List.getElem_mem hlt.1)
    have oa := o3.alloc (.cells acts[k].enc.toArray 28)
    have hBa := hB.alloc (.cells acts[k].enc.toArray 28)
    have hAa : Blk (w3.alloc (.cells acts[k].enc.toArray 28)) w3.heap.size acts[k].enc.toArray 28 := Blk.new
    have hfa : ¬ foot g vb vl3 w3.heap.size := fun hk => by have := o3.1.foot_lt hk; omega
    have hsz : (w3.alloc (.cells acts[k].enc.toArray 28)).heap.size = w3.heap.size + 1 := World.size_alloc ..
    have e1 := w64 hwf.2.1
    have hlt2 := hB.lt
    by_cases hg : 0 ≤ acts[k].At ∧ acts[k].At < 6 ∧ (acts[k].Data.length : Int) ≤ 256
    · simp (disch := first | omega | exact okFill_t rfl | (simp only [World.size_alloc, World.size_drew, World.size_setCell, bytesW]; omega)) only [go_sem, ↓reduceIte, reduceCtorEq, Nat.reduceBEq, Nat.reduceEqDiff, Nat.reduceAdd, Nat.reduceMul, Int.reduceNe, Int.reduceEq, Int.reduceLT, Int.reduceLE, Int.reduceNeg, Int.reduceAdd, Int.reduceSub, Int.reduceMul, Int.reduceToNat, beq_self_eq_true, c3, c3S0, c3S1, c3S2, c3S3, c3S4, c3S5, c3L0, c3S6, c3S7, c3S8, c3S9, c3L1, c3S10, c3S11, c3S12, c3S13, c3S14, ha, Act.enc, hg.1, hg.2.1, storeW_fill, Int.toNat_natCast, Int.cast_ofNat_Int, Int.natCast_add, decide_true, decide_false, Nat.mul_one, List.size_toArray, List.length_cons, List.length_nil, Nat.le_refl, ldK_int, ldK_bool, ldK_str, ldK_slice, ldK_ptr, ldK_map, ldK_agg, ldK_other, ldO_int, ldO_bool, ldO_str, ldO_slice, ldO_ptr, ldO_map, ldO_other, ldA_some, cellsO_nil, cellsO_cons, cellsC_some, cA_new, cA_old, fA_new, fA_old, setO_some, cS_same, cS_off, cS_blk, World.cell?_drew, World.frozen?_drew, World.frozen?_setCell, World.size_alloc, World.size_drew, World.size_setCell, heldX_eq, heldX_add, chg_refl, chg_drew, ovr_nil, ovr_cons, Option.getD_some, Option.getD_none, Addr.add_lit, Nat.add_zero, Option.some.injEq, exists_eq', exists_eq_left', Value.int.injEq, Value.bool.injEq, Value.pointer.injEq, Value.string.injEq]
      change _ ∧ Ret _ _ _ (w3.alloc (.cells acts[k].enc.toArray 28)) _
      generalize w3.alloc (.cells acts[k].enc.toArray 28) = wa at oa hBa hAa hsz ⊢
      refine ⟨⟨by omega, by omega⟩, Ret.mono (write_ok g vb vl3 m acts[k].At acts[k].Data wa oa.1 (by omega)) ?_⟩
      rintro _ w4 ⟨rfl, vl4, h4, g4⟩
      have o4 := oa.grew h4 g4
      obtain ⟨hB4, hf4⟩ := g4.blk hBa hf
      obtain ⟨hA4, hfA4⟩ := g4.blk hAa hfa
      have e := writeN_free fr.left fr.gone (i := acts[k].At) (d := acts[k].Data) ⟨hg.1, by rw [fr.six]; exact hg.2.1⟩ (by omega)
      rw [e] at o4 ⊢
      have hh := hA4.rules; have hh2 := hB4.rules
      simp only [Act.enc] at hh
      simp (disch := first | omega | exact okFill_t rfl | (simp only [World.size_alloc, World.size_drew, World.size_setCell, bytesW]; omega)) only [go_sem, ↓reduceIte, reduceCtorEq, Nat.reduceBEq, Nat.reduceEqDiff, Nat.reduceAdd, Nat.reduceMul, Int.reduceNe, Int.reduceEq, Int.reduceLT, Int.reduceLE, Int.reduceNeg, Int.reduceAdd, Int.reduceSub, Int.reduceMul, Int.reduceToNat, beq_self_eq_true, c3, c3S0, c3S1, c3S3, c3S4, c3S5, c3L0, c3S6, c3S7, c3S8, c3S9, c3L1, c3S10, c3S11, c3S12, c3S13, c3S14, hg.2.2, hh, hh2, storeW_fill, Int.toNat_natCast, Int.cast_ofNat_Int, Int.natCast_add, decide_true, decide_false, Nat.mul_one, List.size_toArray, List.length_cons, List.length_nil, Nat.le_refl, ldK_int, ldK_bool, ldK_str, ldK_slice, ldK_ptr, ldK_map, ldK_agg, ldK_other, ldO_int, ldO_bool, ldO_str, ldO_slice, ldO_ptr, ldO_map, ldO_other, ldA_some, cellsO_nil, cellsO_cons, cellsC_some, cA_new, cA_old, fA_new, fA_old, setO_some, cS_same, cS_off, cS_blk, World.cell?_drew, World.frozen?_drew, World.frozen?_setCell, World.size_alloc, World.size_drew, World.size_setCell, heldX_eq, heldX_add, chg_refl, chg_drew, ovr_nil, ovr_cons, Option.getD_some, Option.getD_none, Addr.add_lit, Nat.add_zero, Option.some.injEq, exists_eq', exists_eq_left', Value.int.injEq, Value.bool.injEq, Value.pointer.injEq, Value.string.injEq]
      refine ⟨⟨hg.1, hg.2.1⟩, ⟨last[acts[k].At.toNat]'(by omega) |> fun s => Value.string (ofL s), ?_⟩, ?_⟩
      · unfold strsV; rw [List.getElem?_map, List.getElem?_eq_getElem (by omega)]; rfl
      refine last_seg (n := k + 1) (m := { m with late := m.late ++ [(acts[k].At, filledL acts[k].Data)] }) (last := last.set acts[k].At.toNat acts[k].Data) ⟨o4.set (by exact hlow) hf4 _, ⟨fr.left, fr.gone, fr.six⟩, ?_, ?_, ?_, hf4, hlow, ?_⟩ (hA4.other (by show w2.heap.size ≠ w3.heap.size; omega) _) ?_
      · simp only [List.length_append, List.length_singleton]; omega
      · rw [List.length_set]; exact h6
      · have := hB4.set acts[k].At.toNat (.string (ofL acts[k].Data))
        unfold strsV at this ⊢
        rw [List.map_set]
        simpa using this
      · intro j hj
        rw [List.length_set] at hj
        rw [List.getElem_set, nowL_write]
        by_cases e : acts[k].At = (j : Int)
        · rw [if_pos (by omega), if_pos e]; exact ⟨by omega, rfl⟩
        · rw [if_neg (by omega), if_neg e]; exact hnow j hj
      · intro w5 vl5 m5 h5
        simp (disch := first | omega | exact okFill_t rfl | (simp only [World.size_alloc, World.size_drew, World.size_setCell, bytesW]; omega)) only [go_sem, ↓reduceIte, reduceCtorEq, Nat.reduceBEq, Nat.reduceEqDiff, Nat.reduceAdd, Nat.reduceMul, Int.reduceNe, Int.reduceEq, Int.reduceLT, Int.reduceLE, Int.reduceNeg, Int.reduceAdd, Int.reduceSub, Int.reduceMul, Int.reduceToNat, beq_self_eq_true, c3, c3S0, c3S1, c3S2, c3S3, c3S4, c3S5, c3L0, c3S6, c3S7, c3S8, c3S9, c3L1, c3S10, c3S11, c3S12, c3S13, c3S14, storeW_fill, Int.toNat_natCast, Int.cast_ofNat_Int, Int.natCast_add, decide_true, decide_false, Nat.mul_one, List.size_toArray, List.length_cons, List.length_nil, Nat.le_refl, ldK_int, ldK_bool, ldK_str, ldK_slice, ldK_ptr, ldK_map, ldK_agg, ldK_other, ldO_int, ldO_bool, ldO_str, ldO_slice, ldO_ptr, ldO_map, ldO_other, ldA_some, cellsO_nil, cellsO_cons, cellsC_some, cA_new, cA_old, fA_new, fA_old, setO_some, cS_same, cS_off, cS_blk, World.cell?_drew, World.frozen?_drew, World.frozen?_setCell, World.size_alloc, World.size_drew, World.size_setCell, heldX_eq, heldX_add, chg_refl, chg_drew, ovr_nil, ovr_cons, Option.getD_some, Option.getD_none, Addr.add_lit, Nat.add_zero, Option.some.injEq, exists_eq', exists_eq_left', Value.int.injEq, Value.bool.injEq, Value.pointer.injEq, Value.string.injEq]
        exact ⟨⟨by omega, by omega⟩, k + 1, rfl, ⟨by omega, by omega, vl5, m5, _, h5⟩, by omega⟩
    · simp (disch := first | omega | exact okFill_t rfl | (simp only [World.size_alloc, World.size_drew, World.size_setCell, bytesW]; omega)) only [go_sem, ↓reduceIte, reduceCtorEq, Nat.reduceBEq, Nat.reduceEqDiff, Nat.reduceAdd, Nat.reduceMul, Int.reduceNe, Int.reduceEq, Int.reduceLT, Int.reduceLE, Int.reduceNeg, Int.reduceAdd, Int.reduceSub, Int.reduceMul, Int.reduceToNat, beq_self_eq_true, c3, c3S0, c3S1, c3S2, c3S3, c3S4, c3S5, c3L0, c3S6, c3S7, c3S8, c3S9, c3L1, c3S10, c3S11, c3S12, c3S13, c3S14, ha, Act.enc, storeW_fill, Int.toNat_natCast, Int.cast_ofNat_Int, Int.natCast_add, decide_true, decide_false, Nat.mul_one, List.size_toArray, List.length_cons, List.length_nil, Nat.le_refl, ldK_int, ldK_bool, ldK_str, ldK_slice, ldK_ptr, ldK_map, ldK_agg, ldK_other, ldO_int, ldO_bool, ldO_str, ldO_slice, ldO_ptr, ldO_map, ldO_other, ldA_some, cellsO_nil, cellsO_cons, cellsC_some, cA_new, cA_old, fA_new, fA_old, setO_some, cS_same, cS_off, cS_blk, World.cell?_drew, World.frozen?_drew, World.frozen?_setCell, World.size_alloc, World.size_drew, World.size_setCell, heldX_eq, heldX_add, chg_refl, chg_drew, ovr_nil, ovr_cons, Option.getD_some, Option.getD_none, Addr.add_lit, Nat.add_zero, Option.some.injEq, exists_eq', exists_eq_left', Value.int.injEq, Value.bool.injEq, Value.pointer.injEq, Value.string.injEq]
      change _ ∧ (_ → (_ → Ret _ _ _ (w3.alloc (.cells acts[k].enc.toArray 28)) _) ∧ (_ → Ret _ _ _ (w3.alloc (.cells acts[k].enc.toArray 28)) _)) ∧ (_ → Ret _ _ _ (w3.alloc (.cells acts[k].enc.toArray 28)) _)
      generalize w3.alloc (.cells acts[k].enc.toArray 28) = wa at oa hBa hAa hsz ⊢
      refine ⟨⟨by omega, by omega⟩, fun c1 => ⟨fun c2 => ?_, fun c2 => ?_⟩, fun c1 => ?_⟩
      all_goals
        refine Ret.mono (write_ok g vb vl3 m acts[k].At acts[k].Data wa oa.1 (by omega)) ?_
        rintro _ w4 ⟨rfl, vl4, h4, g4⟩
        have o4 := oa.grew h4 g4
        obtain ⟨hB4, hf4⟩ := g4.blk hBa hf
        obtain ⟨hA4, hfA4⟩ := g4.blk hAa hfa
        have e := writeN_bad fr.gone (i := acts[k].At) (d := acts[k].Data) (by rw [fr.six]; omega)
        rw [e.1] at o4
        have hr4 : Round w w4 g w2.heap.size vb vl4 m last k := ⟨o4, fr, hl3, h6, hB4, hf4, hlow, hnow⟩
      · have hbig : ¬ (acts[k].Data.length : Int) ≤ 256 := fun h => hg ⟨c1, c2, h⟩
        simp (disch := first | omega | exact okFill_t rfl | (simp only [World.size_alloc, World.size_drew, World.size_setCell, bytesW]; omega)) only [go_sem, ↓reduceIte, reduceCtorEq, Nat.reduceBEq, Nat.reduceEqDiff, Nat.reduceAdd, Nat.reduceMul, Int.reduceNe, Int.reduceEq, Int.reduceLT, Int.reduceLE, Int.reduceNeg, Int.reduceAdd, Int.reduceSub, Int.reduceMul, Int.reduceToNat, beq_self_eq_true, c3, c3S0, c3S1, c3S3, c3S4, c3S5, c3L0, c3S6, c3S7, c3S8, c3S9, c3L1, c3S10, c3S11, c3S12, c3S13, c3S14, e.2, hbig, storeW_fill, Int.toNat_natCast, Int.cast_ofNat_Int, Int.natCast_add, decide_true, decide_false, Nat.mul_one, List.size_toArray, List.length_cons, List.length_nil, Nat.le_refl, ldK_int, ldK_bool, ldK_str, ldK_slice, ldK_ptr, ldK_map, ldK_agg, ldK_other, ldO_int, ldO_bool, ldO_str, ldO_slice, ldO_ptr, ldO_map, ldO_other, ldA_some, cellsO_nil, cellsO_cons, cellsC_some, cA_new, cA_old, fA_new, fA_old, setO_some, cS_same, cS_off, cS_blk, World.cell?_drew, World.frozen?_drew, World.frozen?_setCell, World.size_alloc, World.size_drew, World.size_setCell, heldX_eq, heldX_add, chg_refl, chg_drew, ovr_nil, ovr_cons, Option.getD_some, Option.getD_none, Addr.add_lit, Nat.add_zero, Option.some.injEq, exists_eq', exists_eq_left', Value.int.injEq, Value.bool.injEq, Value.pointer.injEq, Value.string.injEq]
        refine last_seg hr4 hA4 fun w5 vl5 m5 h5 => ?_
        simp (disch := first | omega | exact okFill_t rfl | (simp only [World.size_alloc, World.size_drew, World.size_setCell, bytesW]; omega)) only [go_sem, ↓reduceIte, reduceCtorEq, Nat.reduceBEq, Nat.reduceEqDiff, Nat.reduceAdd, Nat.reduceMul, Int.reduceNe, Int.reduceEq, Int.reduceLT, Int.reduceLE, Int.reduceNeg, Int.reduceAdd, Int.reduceSub, Int.reduceMul, Int.reduceToNat, beq_self_eq_true, c3, c3S0, c3S1, c3S2, c3S3, c3S4, c3S5, c3L0, c3S6, c3S7, c3S8, c3S9, c3L1, c3S10, c3S11, c3S12, c3S13, c3S14, storeW_fill, Int.toNat_natCast, Int.cast_ofNat_Int, Int.natCast_add, decide_true, decide_false, Nat.mul_one, List.size_toArray, List.length_cons, List.length_nil, Nat.le_refl, ldK_int, ldK_bool, ldK_str, ldK_slice, ldK_ptr, ldK_map, ldK_agg, ldK_other, ldO_int, ldO_bool, ldO_str, ldO_slice, ldO_ptr, ldO_map, ldO_other, ldA_some, cellsO_nil, cellsO_cons, cellsC_some, cA_new, cA_old, fA_new, fA_old, setO_some, cS_same, cS_off, cS_blk, World.cell?_drew, World.frozen?_drew, World.frozen?_setCell, World.size_alloc, World.size_drew, World.size_setCell, heldX_eq, heldX_add, chg_refl, chg_drew, ovr_nil, ovr_cons, Option.getD_some, Option.getD_none, Addr.add_lit, Nat.add_zero, Option.some.injEq, exists_eq', exists_eq_left', Value.int.injEq, Value.bool.injEq, Value.pointer.injEq, Value.string.injEq]
        exact ⟨⟨by omega, by omega⟩, k + 1, rfl, ⟨by omega, by omega, vl5, m5, last, h5.own, h5.free, by have := h5.few; omega, h5.six, h5.blk, h5.foot, h5.low, h5.now⟩, by omega⟩
      · simp (disch := first | omega | exact okFill_t rfl | (simp only [World.size_alloc, World.size_drew, World.size_setCell, bytesW]; omega)) only [go_sem, ↓reduceIte, reduceCtorEq, Nat.reduceBEq, Nat.reduceEqDiff, Nat.reduceAdd, Nat.reduceMul, Int.reduceNe, Int.reduceEq, Int.reduceLT, Int.reduceLE, Int.reduceNeg, Int.reduceAdd, Int.reduceSub, Int.reduceMul, Int.reduceToNat, beq_self_eq_true, c3, c3S0, c3S1, c3S3, c3S4, c3S5, c3L0, c3S6, c3S7, c3S8, c3S9, c3L1, c3S10, c3S11, c3S12, c3S13, c3S14, e.2, storeW_fill, Int.toNat_natCast, Int.cast_ofNat_Int, Int.natCast_add, decide_true, decide_false, Nat.mul_one, List.size_toArray, List.length_cons, List.length_nil, Nat.le_refl, ldK_int, ldK_bool, ldK_str, ldK_slice, ldK_ptr, ldK_map, ldK_agg, ldK_other, ldO_int, ldO_bool, ldO_str, ldO_slice, ldO_ptr, ldO_map, ldO_other, ldA_some, cellsO_nil, cellsO_cons, cellsC_some, cA_new, cA_old, fA_new, fA_old, setO_some, cS_same, cS_off, cS_blk, World.cell?_drew, World.frozen?_drew, World.frozen?_setCell, World.size_alloc, World.size_drew, World.size_setCell, heldX_eq, heldX_add, chg_refl, chg_drew, ovr_nil, ovr_cons, Option.getD_some, Option.getD_none, Addr.add_lit, Nat.add_zero, Option.some.injEq, exists_eq', exists_eq_left', Value.int.injEq, Value.bool.injEq, Value.pointer.injEq, Value.string.injEq]
        refine last_seg hr4 hA4 fun w5 vl5 m5 h5 => ?_
        simp (disch := first | omega | exact okFill_t rfl | (simp only [World.size_alloc, World.size_drew, World.size_setCell, bytesW]; omega)) only [go_sem, ↓reduceIte, reduceCtorEq, Nat.reduceBEq, Nat.reduceEqDiff, Nat.reduceAdd, Nat.reduceMul, Int.reduceNe, Int.reduceEq, Int.reduceLT, Int.reduceLE, Int.reduceNeg, Int.reduceAdd, Int.reduceSub, Int.reduceMul, Int.reduceToNat, beq_self_eq_true, c3, c3S0, c3S1, c3S2, c3S3, c3S4, c3S5, c3L0, c3S6, c3S7, c3S8, c3S9, c3L1, c3S10, c3S11, c3S12, c3S13, c3S14, storeW_fill, Int.toNat_natCast, Int.cast_ofNat_Int, Int.natCast_add, decide_true, decide_false, Nat.mul_one, List.size_toArray, List.length_cons, List.length_nil, Nat.le_refl, ldK_int, ldK_bool, ldK_str, ldK_slice, ldK_ptr, ldK_map, ldK_agg, ldK_other, ldO_int, ldO_bool, ldO_str, ldO_slice, ldO_ptr, ldO_map, ldO_other, ldA_some, cellsO_nil, cellsO_cons, cellsC_some, cA_new, cA_old, fA_new, fA_old, setO_some, cS_same, cS_off, cS_blk, World.cell?_drew, World.frozen?_drew, World.frozen?_setCell, World.size_alloc, World.size_drew, World.size_setCell, heldX_eq, heldX_add, chg_refl, chg_drew, ovr_nil, ovr_cons, Option.getD_some, Option.getD_none, Addr.add_lit, Nat.add_zero, Option.some.injEq, exists_eq', exists_eq_left', Value.int.injEq, Value.bool.injEq, Value.pointer.injEq, Value.string.injEq]
        exact ⟨⟨by omega, by omega⟩, k + 1, rfl, ⟨by omega, by omega, vl5, m5, last, h5.own, h5.free, by have := h5.few; omega, h5.six, h5.blk, h5.foot, h5.low, h5.now⟩, by omega⟩
      · simp (disch := first | omega | exact okFill_t rfl | (simp only [World.size_alloc, World.size_drew, World.size_setCell, bytesW]; omega)) only [go_sem, ↓reduceIte, reduceCtorEq, Nat.reduceBEq, Nat.reduceEqDiff, Nat.reduceAdd, Nat.reduceMul, Int.reduceNe, Int.reduceEq, Int.reduceLT, Int.reduceLE, Int.reduceNeg, Int.reduceAdd, Int.reduceSub, Int.reduceMul, Int.reduceToNat, beq_self_eq_true, c3, c3S0, c3S1, c3S3, c3S4, c3S5, c3L0, c3S6, c3S7, c3S8, c3S9, c3L1, c3S10, c3S11, c3S12, c3S13, c3S14, e.2, storeW_fill, Int.toNat_natCast, Int.cast_ofNat_Int, Int.natCast_add, decide_true, decide_false, Nat.mul_one, List.size_toArray, List.length_cons, List.length_nil, Nat.le_refl, ldK_int, ldK_bool, ldK_str, ldK_slice, ldK_ptr, ldK_map, ldK_agg, ldK_other, ldO_int, ldO_bool, ldO_str, ldO_slice, ldO_ptr, ldO_map, ldO_other, ldA_some, cellsO_nil, cellsO_cons, cellsC_some, cA_new, cA_old, fA_new, fA_old, setO_some, cS_same, cS_off, cS_blk, World.cell?_drew, World.frozen?_drew, World.frozen?_setCell, World.size_alloc, World.size_drew, World.size_setCell, heldX_eq, heldX_add, chg_refl, chg_drew, ovr_nil, ovr_cons, Option.getD_some, Option.getD_none, Addr.add_lit, Nat.add_zero, Option.some.injEq, exists_eq', exists_eq_left', Value.int.injEq, Value.bool.injEq, Value.pointer.injEq, Value.string.injEq]
        refine last_seg hr4 hA4 fun w5 vl5 m5 h5 => ?_
        simp (disch := first | omega | exact okFill_t rfl | (simp only [World.size_alloc, World.size_drew, World.size_setCell, bytesW]; omega)) only [go_sem, ↓reduceIte, reduceCtorEq, Nat.reduceBEq, Nat.reduceEqDiff, Nat.reduceAdd, Nat.reduceMul, Int.reduceNe, Int.reduceEq, Int.reduceLT, Int.reduceLE, Int.reduceNeg, Int.reduceAdd, Int.reduceSub, Int.reduceMul, Int.reduceToNat, beq_self_eq_true, c3, c3S0, c3S1, c3S2, c3S3, c3S4, c3S5, c3L0, c3S6, c3S7, c3S8, c3S9, c3L1, c3S10, c3S11, c3S12, c3S13, c3S14, storeW_fill, Int.toNat_natCast, Int.cast_ofNat_Int, Int.natCast_add, decide_true, decide_false, Nat.mul_one, List.size_toArray, List.length_cons, List.length_nil, Nat.le_refl, ldK_int, ldK_bool, ldK_str, ldK_slice, ldK_ptr, ldK_map, ldK_agg, ldK_other, ldO_int, ldO_bool, ldO_str, ldO_slice, ldO_ptr, ldO_map, ldO_other, ldA_some, cellsO_nil, cellsO_cons, cellsC_some, cA_new, cA_old, fA_new, fA_old, setO_some, cS_same, cS_off, cS_blk, World.cell?_drew, World.frozen?_drew, World.frozen?_setCell, World.size_alloc, World.size_drew, World.size_setCell, heldX_eq, heldX_add, chg_refl, chg_drew, ovr_nil, ovr_cons, Option.getD_some, Option.getD_none, Addr.add_lit, Nat.add_zero, Option.some.injEq, exists_eq', exists_eq_left', Value.int.injEq, Value.bool.injEq, Value.pointer.injEq, Value.string.injEq]
        exact ⟨⟨by omega, by omega⟩, k + 1, rfl, ⟨by omega, by omega, vl5, m5, last, h5.own, h5.free, by have := h5.few; omega, h5.six, h5.blk, h5.foot, h5.low, h5.now⟩, by omega⟩
  · refine exits2 (fun a b => absurd (show k < acts.length ∧ k < 200 by omega) hlt) ?_
    refine W_loopU (fun j : Nat => [(8, .int .i64 j)]) (fun j w' => j ≤ 6 ∧ Round w w' g w2.heap.size vb vl3 m last k) (fun j => 6 - j) 0 rfl ⟨Nat.zero_le _, o3, fr, hl3, h6, hB, hf, hlow, hnow⟩ ?_
    rintro j w4 ⟨hj, h4⟩
    simp (disch := first | omega | exact okFill_t rfl | (simp only [World.size_alloc, World.size_drew, World.size_setCell, bytesW]; omega)) only [go_sem, ↓reduceIte, reduceCtorEq, Nat.reduceBEq, Nat.reduceEqDiff, Nat.reduceAdd, Nat.reduceMul, Int.reduceNe, Int.reduceEq, Int.reduceLT, Int.reduceLE, Int.reduceNeg, Int.reduceAdd, Int.reduceSub, Int.reduceMul, Int.reduceToNat, beq_self_eq_true, c3, c3S0, c3S1, c3S2, c3S3, c3S4, c3S5, c3L0, c3S6, c3S7, c3S8, c3S9, c3L1, c3S10, c3S11, c3S12, c3S13, c3S14, storeW_fill, Int.toNat_natCast, Int.cast_ofNat_Int, Int.natCast_add, decide_true, decide_false, Nat.mul_one, List.size_toArray, List.length_cons, List.length_nil, Nat.le_refl, ldK_int, ldK_bool, ldK_str, ldK_slice, ldK_ptr, ldK_map, ldK_agg, ldK_other, ldO_int, ldO_bool, ldO_str, ldO_slice, ldO_ptr, ldO_map, ldO_other, ldA_some, cellsO_nil, cellsO_cons, cellsC_some, cA_new, cA_old, fA_new, fA_old, setO_some, cS_same, cS_off, cS_blk, World.cell?_drew, World.frozen?_drew, World.frozen?_setCell, World.size_alloc, World.size_drew, World.size_setCell, heldX_eq, heldX_add, chg_refl, chg_drew, ovr_nil, ovr_cons, Option.getD_some, Option.getD_none, Addr.add_lit, Nat.add_zero, Option.some.injEq, exists_eq', exists_eq_left', Value.int.injEq, Value.bool.injEq, Value.pointer.injEq, Value.string.injEq]
    refine ⟨fun hlt => ?_, fun hge => ?_⟩
    · refine Ret.mono (read_ok g vb vl3 m j w4 h4.own.1) ?_
      rintro _ w5 ⟨rfl, h5⟩
      have r5 := h4.below h5
      obtain ⟨hn1, hn⟩ := hnow j (by omega)
      rw [readN_free fr.gone ⟨by omega, by rw [fr.six]; omega⟩]
      unfold nowL at hn
      rw [hn]
      have hh := r5.blk.rules
      have hl : (strsV last).toArray[j]? = some (.string (ofL last[j])) := by unfold strsV; simp [List.getElem?_eq_getElem (show j < last.length by omega)]
      simp (disch := first | omega | exact okFill_t rfl | (simp only [World.size_alloc, World.size_drew, World.size_setCell, bytesW]; omega)) only [go_sem, ↓reduceIte, reduceCtorEq, Nat.reduceBEq, Nat.reduceEqDiff, Nat.reduceAdd, Nat.reduceMul, Int.reduceNe, Int.reduceEq, Int.reduceLT, Int.reduceLE, Int.reduceNeg, Int.reduceAdd, Int.reduceSub, Int.reduceMul, Int.reduceToNat, beq_self_eq_true, c3, c3S0, c3S1, c3S2, c3S3, c3S4, c3S5, c3L0, c3S6, c3S7, c3S8, c3S9, c3L1, c3S10, c3S11, c3S12, c3S13, c3S14, hh, hl, storeW_fill, Int.toNat_natCast, Int.cast_ofNat_Int, Int.natCast_add, decide_true, decide_false, Nat.mul_one, List.size_toArray, List.length_cons, List.length_nil, Nat.le_refl, ldK_int, ldK_bool, ldK_str, ldK_slice, ldK_ptr, ldK_map, ldK_agg, ldK_other, ldO_int, ldO_bool, ldO_str, ldO_slice, ldO_ptr, ldO_map, ldO_other, ldA_some, cellsO_nil, cellsO_cons, cellsC_some, cA_new, cA_old, fA_new, fA_old, setO_some, cS_same, cS_off, cS_blk, World.cell?_drew, World.frozen?_drew, World.frozen?_setCell, World.size_alloc, World.size_drew, World.size_setCell, heldX_eq, heldX_add, chg_refl, chg_drew, ovr_nil, ovr_cons, Option.getD_some, Option.getD_none, Addr.add_lit, Nat.add_zero, Option.some.injEq, exists_eq', exists_eq_left', Value.int.injEq, Value.bool.injEq, Value.pointer.injEq, Value.string.injEq]
      refine ⟨⟨by omega, by omega⟩, Ret.mono (filled_ok _ w5 hn1) ?_⟩
      rintro _ w6 ⟨rfl, h6'⟩
      simp (disch := first | omega | exact okFill_t rfl | (simp only [World.size_alloc, World.size_drew, World.size_setCell, bytesW]; omega)) only [go_sem, ↓reduceIte, reduceCtorEq, Nat.reduceBEq, Nat.reduceEqDiff, Nat.reduceAdd, Nat.reduceMul, Int.reduceNe, Int.reduceEq, Int.reduceLT, Int.reduceLE, Int.reduceNeg, Int.reduceAdd, Int.reduceSub, Int.reduceMul, Int.reduceToNat, beq_self_eq_true, c3, c3S0, c3S1, c3S2, c3S3, c3S4, c3S5, c3L0, c3S6, c3S7, c3S8, c3S9, c3L1, c3S10, c3S11, c3S12, c3S13, c3S14, storeW_fill, Int.toNat_natCast, Int.cast_ofNat_Int, Int.natCast_add, decide_true, decide_false, Nat.mul_one, List.size_toArray, List.length_cons, List.length_nil, Nat.le_refl, ldK_int, ldK_bool, ldK_str, ldK_slice, ldK_ptr, ldK_map, ldK_agg, ldK_other, ldO_int, ldO_bool, ldO_str, ldO_slice, ldO_ptr, ldO_map, ldO_other, ldA_some, cellsO_nil, cellsO_cons, cellsC_some, cA_new, cA_old, fA_new, fA_old, setO_some, cS_same, cS_off, cS_blk, World.cell?_drew, World.frozen?_drew, World.frozen?_setCell, World.size_alloc, World.size_drew, World.size_setCell, heldX_eq, heldX_add, chg_refl, chg_drew, ovr_nil, ovr_cons, Option.getD_some, Option.getD_none, Addr.add_lit, Nat.add_zero, Option.some.injEq, exists_eq', exists_eq_left', Value.int.injEq, Value.bool.injEq, Value.pointer.injEq, Value.string.injEq]
      exact ⟨⟨by omega, by omega⟩, j + 1, rfl, ⟨by omega, r5.below h6'⟩, by omega⟩
    · refine Ret.mono (awake_ok w4) ?_
      rintro _ w5 ⟨rfl, h5⟩
      simp (disch := first | omega | exact okFill_t rfl | (simp only [World.size_alloc, World.size_drew, World.size_setCell, bytesW]; omega)) only [go_sem, ↓reduceIte, reduceCtorEq, Nat.reduceBEq, Nat.reduceEqDiff, Nat.reduceAdd, Nat.reduceMul, Int.reduceNe, Int.reduceEq, Int.reduceLT, Int.reduceLE, Int.reduceNeg, Int.reduceAdd, Int.reduceSub, Int.reduceMul, Int.reduceToNat, beq_self_eq_true, c3, c3S0, c3S1, c3S2, c3S3, c3S4, c3S5, c3L0, c3S6, c3S7, c3S8, c3S9, c3L1, c3S10, c3S11, c3S12, c3S13, c3S14, storeW_fill, Int.toNat_natCast, Int.cast_ofNat_Int, Int.natCast_add, decide_true, decide_false, Nat.mul_one, List.size_toArray, List.length_cons, List.length_nil, Nat.le_refl, ldK_int, ldK_bool, ldK_str, ldK_slice, ldK_ptr, ldK_map, ldK_agg, ldK_other, ldO_int, ldO_bool, ldO_str, ldO_slice, ldO_ptr, ldO_map, ldO_other, ldA_some, cellsO_nil, cellsO_cons, cellsC_some, cA_new, cA_old, fA_new, fA_old, setO_some, cS_same, cS_off, cS_blk, World.cell?_drew, World.frozen?_drew, World.frozen?_setCell, World.size_alloc, World.size_drew, World.size_setCell, heldX_eq, heldX_add, chg_refl, chg_drew, ovr_nil, ovr_cons, Option.getD_some, Option.getD_none, Addr.add_lit, Nat.add_zero, Option.some.injEq, exists_eq', exists_eq_left', Value.int.injEq, Value.bool.injEq, Value.pointer.injEq, Value.string.injEq]
      exact Below.next h4.own.2.1 h5
set_option maxRecDepth 100000 in
theorem last_law {H : Type} {enc : TypeId × Value → H} {w : World} {r : Reach} {b base : Nat} {sp : Nat → Bool} {hd : Bool} {v : Value} {d : DataW H} {ps : List MemPlace} (hv : Value.okWide Try.prog w r b 22 v)
    (hk : DataW.Trod enc Try.prog w base sp hd 22 v d ps) : Ret Try.prog 3 [v] w fun u w' => u = .bool true ∧ Below w.heap.size w w' := by
  obtain ⟨xs, h1, h2, h3⟩ := acts_arg hv hk
  exact last_ok v xs w h1 h2 h3
end Go.Proofs.Ytlaflmkgfafhpaa
