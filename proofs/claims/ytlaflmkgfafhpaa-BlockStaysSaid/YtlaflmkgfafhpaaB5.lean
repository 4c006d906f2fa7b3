/- The laws on a disk without a second one, as contracts. -/
import Derived.Test.YtlaflmkgfafhpaaB4
namespace Go.Proofs.Ytlaflmkgfafhpaa
set_option linter.unusedSimpArgs false
set_option linter.unusedVariables false
open Go Go.Ann Go.RowKit

/-- A disk that lies above what was there. -/
def Own (w0 w : World) (g : Nat) (vb vl : Value) (m : Dk) : Prop := DiskAt w g vb vl m ∧ Below w0.heap.size w0 w ∧ ∀ k, foot g vb vl k → w0.heap.size ≤ k
theorem Own.grew {w0 w w' : World} {g : Nat} {vb vl vb' vl' : Value} {m m' : Dk} (h : Own w0 w g vb vl m) (hd : DiskAt w' g vb' vl' m') (hg : Grew w w' g vb vl vb' vl') : Own w0 w' g vb' vl' m' := by
  refine ⟨hd, h.2.1.trans (hg.1.below h.2.1.size fun k hk hf => by have := h.2.2 k hf; omega), fun k hk => ?_⟩
  rcases Nat.lt_or_ge k w.heap.size with hlt | hge
  · exact h.2.2 k (hg.2 k hlt hk)
  · have := h.2.1.size; omega
theorem Own.below {w0 w w' : World} {g : Nat} {vb vl : Value} {m : Dk} (h : Own w0 w g vb vl m) (hb : Below w.heap.size w w') : Own w0 w' g vb vl m :=
  h.grew (h.1.keep (Chg.of_below (S := fun _ => False) hb) fun _ _ h => h) ⟨Chg.of_below hb, fun _ _ h => h⟩
/-- A disk without a limit that has power. -/
theorem useN_free {m : Dk} (hl : m.left < 0) : useN m = (m, 0) := by unfold useN; rw [if_neg (by omega), if_neg (by omega)]
theorem readyN_free {m : Dk} (hg : m.gone = false) {i : Int} (h : 0 ≤ i ∧ i < m.safe.length) : readyN m i = 0 := by unfold readyN; rw [if_neg (by rw [hg]; decide), if_pos h]
theorem writeN_free {m : Dk} (hl : m.left < 0) (hg : m.gone = false) {i : Int} (h : 0 ≤ i ∧ i < m.safe.length) {d : List UInt8} (hd : d.length ≤ 256) : writeN m i d = ({ m with late := m.late ++ [(i, filledL d)] }, 0) := by
  unfold writeN
  rw [readyN_free hg h, if_neg (by decide), if_neg (by omega), useN_free hl, if_pos rfl]
theorem flushN_free {m : Dk} (hl : m.left < 0) (hg : m.gone = false) (h : 0 < m.safe.length) : flushN m = ({ m with safe := doneL m.safe m.late, late := [] }, 0) := by
  unfold flushN
  rw [readyN_free hg ⟨by omega, by omega⟩, if_neg (by decide), useN_free hl, if_neg (by simp)]
theorem readN_free {m : Dk} (hg : m.gone = false) {i : Int} (h : 0 ≤ i ∧ i < m.safe.length) : readN m i = (lastL m.late i (m.safe.getD i.toNat []), 0) := by
  unfold readN; rw [if_pos (readyN_free hg h)]
theorem awake_ok (w : World) :
    Ret Try.prog 18 [] w fun v w' => v = .bool true ∧ Below w.heap.size w w' := by
  refine ent18 _ _ ?_
  simp only [go_sem, ↓reduceIte, reduceCtorEq, Nat.reduceBEq, Nat.reduceEqDiff, Nat.reduceAdd, Nat.reduceMul, Int.reduceNe, Int.reduceEq, Int.reduceLT, Int.reduceLE, Int.reduceNeg, Int.reduceAdd, Int.reduceSub, Int.reduceMul, Int.reduceToNat, beq_self_eq_true, c18, c18S0, c18S1, c18S2, c18S3, c18S4, loadK_int, loadK_bool, loadK_str, loadK_slice, loadK_ptr, loadK_map, loadK_agg, loadK_other, heldW]
  refine Ret.mono (some_ok w) ?_
  rintro v w2 ⟨g, vb, vl, rfl, h2⟩
  have o2 : Own w w2 g vb vl (newDk 6) := h2
  simp only [go_sem, ↓reduceIte, reduceCtorEq, Nat.reduceBEq, Nat.reduceEqDiff, Nat.reduceAdd, Nat.reduceMul, Int.reduceNe, Int.reduceEq, Int.reduceLT, Int.reduceLE, Int.reduceNeg, Int.reduceAdd, Int.reduceSub, Int.reduceMul, Int.reduceToNat, beq_self_eq_true, c18, c18S0, c18S1, c18S2, c18S3, c18S4, loadK_int, loadK_bool, loadK_str, loadK_slice, loadK_ptr, loadK_map, loadK_agg, loadK_other, heldW]
  refine Ret.mono (write_ok g vb vl _ 0 _ w2 o2.1 (by decide)) ?_
  rintro _ w3 ⟨rfl, vl3, h3, g3⟩
  have o3 := o2.grew h3 g3
  rw [writeN_free (by decide) rfl (by decide) (by decide)] at *
  simp only [go_sem, ↓reduceIte, reduceCtorEq, Nat.reduceBEq, Nat.reduceEqDiff, Nat.reduceAdd, Nat.reduceMul, Int.reduceNe, Int.reduceEq, Int.reduceLT, Int.reduceLE, Int.reduceNeg, Int.reduceAdd, Int.reduceSub, Int.reduceMul, Int.reduceToNat, beq_self_eq_true, c18, c18S0, c18S1, c18S2, c18S3, c18S4, loadK_int, loadK_bool, loadK_str, loadK_slice, loadK_ptr, loadK_map, loadK_agg, loadK_other, heldW]
  refine Ret.mono (flush_ok g vb vl3 _ w3 o3.1) ?_
  rintro _ w4 ⟨rfl, vl4, h4, g4⟩
  have o4 := o3.grew h4 g4
  rw [flushN_free (by decide) rfl (by decide)] at *
  simp only [go_sem, ↓reduceIte, reduceCtorEq, Nat.reduceBEq, Nat.reduceEqDiff, Nat.reduceAdd, Nat.reduceMul, Int.reduceNe, Int.reduceEq, Int.reduceLT, Int.reduceLE, Int.reduceNeg, Int.reduceAdd, Int.reduceSub, Int.reduceMul, Int.reduceToNat, beq_self_eq_true, c18, c18S0, c18S1, c18S2, c18S3, c18S4, loadK_int, loadK_bool, loadK_str, loadK_slice, loadK_ptr, loadK_map, loadK_agg, loadK_other, heldW]
  refine Ret.mono (write_ok g vb vl4 _ 0 _ w4 o4.1 (by decide)) ?_
  rintro _ w5 ⟨rfl, vl5, h5, g5⟩
  have o5 := o4.grew h5 g5
  rw [writeN_free (by decide) rfl (by decide +kernel) (by decide)] at *
  simp only [go_sem, ↓reduceIte, reduceCtorEq, Nat.reduceBEq, Nat.reduceEqDiff, Nat.reduceAdd, Nat.reduceMul, Int.reduceNe, Int.reduceEq, Int.reduceLT, Int.reduceLE, Int.reduceNeg, Int.reduceAdd, Int.reduceSub, Int.reduceMul, Int.reduceToNat, beq_self_eq_true, c18, c18S0, c18S1, c18S2, c18S3, c18S4, loadK_int, loadK_bool, loadK_str, loadK_slice, loadK_ptr, loadK_map, loadK_agg, loadK_other, heldW]
  refine Ret.mono (crash_ok g vb vl5 _ 1 0 1 w5 o5.1 (by decide) (by decide) ⟨by omega, by omega⟩ ⟨by omega, by omega⟩) ?_
  rintro _ w6 ⟨vl6, h6, g6⟩
  have o6 := o5.grew h6 g6
  simp only [go_sem, ↓reduceIte, reduceCtorEq, Nat.reduceBEq, Nat.reduceEqDiff, Nat.reduceAdd, Nat.reduceMul, Int.reduceNe, Int.reduceEq, Int.reduceLT, Int.reduceLE, Int.reduceNeg, Int.reduceAdd, Int.reduceSub, Int.reduceMul, Int.reduceToNat, beq_self_eq_true, c18, c18S0, c18S1, c18S2, c18S3, c18S4, loadK_int, loadK_bool, loadK_str, loadK_slice, loadK_ptr, loadK_map, loadK_agg, loadK_other, heldW]
  refine Ret.mono (read_ok g vb vl6 _ 0 w6 o6.1) ?_
  rintro _ w7 ⟨rfl, h7⟩
  have o7 := o6.below h7
  simp only [go_sem, ↓reduceIte, reduceCtorEq, Nat.reduceBEq, Nat.reduceEqDiff, Nat.reduceAdd, Nat.reduceMul, Int.reduceNe, Int.reduceEq, Int.reduceLT, Int.reduceLE, Int.reduceNeg, Int.reduceAdd, Int.reduceSub, Int.reduceMul, Int.reduceToNat, beq_self_eq_true, c18, c18S0, c18S1, c18S2, c18S3, c18S4, loadK_int, loadK_bool, loadK_str, loadK_slice, loadK_ptr, loadK_map, loadK_agg, loadK_other, heldW]
  have hx : (readN (crashN { safe := doneL (newDk 6).safe ((newDk 6).late ++ [(0, filledL [97, 98])]), late := [(0, filledL [99, 100])], left := (newDk 6).left, gone := (newDk 6).gone } 1 0 1) 0).2 = 0 ∧
      (readN (crashN { safe := doneL (newDk 6).safe ((newDk 6).late ++ [(0, filledL [97, 98])]), late := [(0, filledL [99, 100])], left := (newDk 6).left, gone := (newDk 6).gone } 1 0 1) 0).1.length = 256 ∧
      (readN (crashN { safe := doneL (newDk 6).safe ((newDk 6).late ++ [(0, filledL [97, 98])]), late := [(0, filledL [99, 100])], left := (newDk 6).left, gone := (newDk 6).gone } 1 0 1) 0).1.take 2 = [99, 98] := by decide +kernel
  generalize readN (crashN { safe := doneL (newDk 6).safe ((newDk 6).late ++ [(0, filledL [97, 98])]), late := [(0, filledL [99, 100])], left := (newDk 6).left, gone := (newDk 6).gone } 1 0 1) 0 = r at hx ⊢
  obtain ⟨hx1, hx2, hx3⟩ := hx
  refine ⟨fun _ => ⟨fun _ => ⟨by omega, ?_, o7.2.1⟩, fun h => absurd (by rw [hx2]; rfl) h⟩, fun h => absurd hx1 h⟩
  rw [hx3]; rfl
theorem tears_ok (was data : List UInt8) (cut : Int) (w : World) (hc : I64 cut) (hw : (was.length : Int) ≤ 1048576) (hd : (data.length : Int) ≤ 1048576) :
    Ret Try.prog 5 [.string (ofL was), .string (ofL data), .int .i64 cut] w fun v w' => v = .bool true ∧ Below w.heap.size w w' := by
  refine ent5 _ _ _ _ _ ?_
  simp only [go_sem, ↓reduceIte, reduceCtorEq, Nat.reduceBEq, Nat.reduceEqDiff, Nat.reduceAdd, Nat.reduceMul, Int.reduceNe, Int.reduceEq, Int.reduceLT, Int.reduceLE, Int.reduceNeg, Int.reduceAdd, Int.reduceSub, Int.reduceMul, Int.reduceToNat, beq_self_eq_true, c5, c5S0, c5S1, c5S2, c5S3, c5S4, c5S5, c5S6, c5S7, c5S8, c5S9, c5S10, loadK_int, loadK_bool, loadK_str, loadK_slice, loadK_ptr, loadK_map, loadK_agg, loadK_other, heldW]
  refine Ret.mono (some_ok w) ?_
  rintro v w2 ⟨g, vb, vl, rfl, h2⟩
  have o2 : Own w w2 g vb vl (newDk 6) := h2
  simp only [go_sem, ↓reduceIte, reduceCtorEq, Nat.reduceBEq, Nat.reduceEqDiff, Nat.reduceAdd, Nat.reduceMul, Int.reduceNe, Int.reduceEq, Int.reduceLT, Int.reduceLE, Int.reduceNeg, Int.reduceAdd, Int.reduceSub, Int.reduceMul, Int.reduceToNat, beq_self_eq_true, c5, c5S0, c5S1, c5S2, c5S3, c5S4, c5S5, c5S6, c5S7, c5S8, c5S9, c5S10, loadK_int, loadK_bool, loadK_str, loadK_slice, loadK_ptr, loadK_map, loadK_agg, loadK_other, heldW]
  have big : 256 < was.length + data.length → ∀ K : Value → World → Prop, (∀ w', Below w.heap.size w w' → K (.int .i64 21) w') →
      ((was.length : Int) + (data.length : Int) ≤ 9223372036854775807 ∧ Ret Try.prog 14 [.pointer (some ⟨g, 0, none⟩), .int .i64 1, .string (ofL (was ++ data))] w2 K) := by
    intro hb K hK
    refine ⟨by omega, Ret.mono (write_ok g vb vl _ 1 _ w2 o2.1 (by decide)) ?_⟩
    rintro _ w3 ⟨rfl, vl3, h3, g3⟩
    have o3 := o2.grew h3 g3
    have e : writeN (newDk 6) 1 (was ++ data) = (newDk 6, 21) := by
      unfold writeN
      rw [readyN_free rfl (by decide), if_neg (by decide), if_pos (by rw [List.length_append]; exact hb)]
    rw [e]
    exact hK _ o3.2.1
  have aw : ∀ w', Below w.heap.size w w' → ∀ K : Value → World → Prop, (∀ w7, Below w.heap.size w w7 → K (.bool true) w7) → Ret Try.prog 18 [] w' K := by
    intro w' hb K hK
    refine Ret.mono (awake_ok w') ?_
    rintro _ w7 ⟨rfl, h7⟩
    exact hK _ (Below.next hb h7)
  refine ⟨fun h1 => ⟨fun h2 => big (by omega) _ fun w3 hb3 => ?_, fun h2 => ?_⟩, fun h1 => big (by omega) _ fun w3 hb3 => ?_⟩
  · simp only [go_sem, ↓reduceIte, reduceCtorEq, Nat.reduceBEq, Nat.reduceEqDiff, Nat.reduceAdd, Nat.reduceMul, Int.reduceNe, Int.reduceEq, Int.reduceLT, Int.reduceLE, Int.reduceNeg, Int.reduceAdd, Int.reduceSub, Int.reduceMul, Int.reduceToNat, beq_self_eq_true, c5, c5S0, c5S1, c5S2, c5S3, c5S4, c5S5, c5S6, c5S7, c5S8, c5S9, c5S10, loadK_int, loadK_bool, loadK_str, loadK_slice, loadK_ptr, loadK_map, loadK_agg, loadK_other, heldW]
    refine aw _ hb3 _ fun w4 hb4 => ?_
    simp only [go_sem, ↓reduceIte, reduceCtorEq, Nat.reduceBEq, Nat.reduceEqDiff, Nat.reduceAdd, Nat.reduceMul, Int.reduceNe, Int.reduceEq, Int.reduceLT, Int.reduceLE, Int.reduceNeg, Int.reduceAdd, Int.reduceSub, Int.reduceMul, Int.reduceToNat, beq_self_eq_true, c5, c5S0, c5S1, c5S2, c5S3, c5S4, c5S5, c5S6, c5S7, c5S8, c5S9, c5S10, loadK_int, loadK_bool, loadK_str, loadK_slice, loadK_ptr, loadK_map, loadK_agg, loadK_other, heldW]
    exact hb4
  · refine Ret.mono (write_ok g vb vl _ 1 _ w2 o2.1 (by decide)) ?_
    rintro _ w3 ⟨rfl, vl3, h3, g3⟩
    have o3 := o2.grew h3 g3
    rw [writeN_free (by decide) rfl (by decide) (by omega)] at *
    simp only [go_sem, ↓reduceIte, reduceCtorEq, Nat.reduceBEq, Nat.reduceEqDiff, Nat.reduceAdd, Nat.reduceMul, Int.reduceNe, Int.reduceEq, Int.reduceLT, Int.reduceLE, Int.reduceNeg, Int.reduceAdd, Int.reduceSub, Int.reduceMul, Int.reduceToNat, beq_self_eq_true, c5, c5S0, c5S1, c5S2, c5S3, c5S4, c5S5, c5S6, c5S7, c5S8, c5S9, c5S10, loadK_int, loadK_bool, loadK_str, loadK_slice, loadK_ptr, loadK_map, loadK_agg, loadK_other, heldW]
    refine Ret.mono (flush_ok g vb vl3 _ w3 o3.1) ?_
    rintro _ w4 ⟨rfl, vl4, h4, g4⟩
    have o4 := o3.grew h4 g4
    rw [flushN_free (by show (-1 : Int) < 0; decide) rfl (by show 0 < 6; decide)] at *
    have es : doneL (newDk 6).safe ((newDk 6).late ++ [(1, filledL was)]) = (newDk 6).safe.set 1 (filledL was) := rfl
    have sl : ((newDk 6).safe.set 1 (filledL was)).length = 6 := by rw [List.length_set]; rfl
    simp only [es] at *
    simp only [go_sem, ↓reduceIte, reduceCtorEq, Nat.reduceBEq, Nat.reduceEqDiff, Nat.reduceAdd, Nat.reduceMul, Int.reduceNe, Int.reduceEq, Int.reduceLT, Int.reduceLE, Int.reduceNeg, Int.reduceAdd, Int.reduceSub, Int.reduceMul, Int.reduceToNat, beq_self_eq_true, c5, c5S0, c5S1, c5S2, c5S3, c5S4, c5S5, c5S6, c5S7, c5S8, c5S9, c5S10, loadK_int, loadK_bool, loadK_str, loadK_slice, loadK_ptr, loadK_map, loadK_agg, loadK_other, heldW]
    refine Ret.mono (write_ok g vb vl4 _ 1 _ w4 o4.1 (by simp only [List.length_nil]; decide)) ?_
    rintro _ w5 ⟨rfl, vl5, h5, g5⟩
    have o5 := o4.grew h5 g5
    rw [writeN_free (by show (-1 : Int) < 0; decide) rfl (by simp only [sl]; decide) (by omega)] at *
    simp only [go_sem, ↓reduceIte, reduceCtorEq, Nat.reduceBEq, Nat.reduceEqDiff, Nat.reduceAdd, Nat.reduceMul, Int.reduceNe, Int.reduceEq, Int.reduceLT, Int.reduceLE, Int.reduceNeg, Int.reduceAdd, Int.reduceSub, Int.reduceMul, Int.reduceToNat, beq_self_eq_true, c5, c5S0, c5S1, c5S2, c5S3, c5S4, c5S5, c5S6, c5S7, c5S8, c5S9, c5S10, loadK_int, loadK_bool, loadK_str, loadK_slice, loadK_ptr, loadK_map, loadK_agg, loadK_other, heldW]
    refine Ret.mono (crash_ok g vb vl5 _ 1 0 cut w5 o5.1 (by decide) (by decide) ⟨by omega, by omega⟩ hc) ?_
    rintro _ w6 ⟨vl6, h6, g6⟩
    have o6 := o5.grew h6 g6
    simp only [go_sem, ↓reduceIte, reduceCtorEq, Nat.reduceBEq, Nat.reduceEqDiff, Nat.reduceAdd, Nat.reduceMul, Int.reduceNe, Int.reduceEq, Int.reduceLT, Int.reduceLE, Int.reduceNeg, Int.reduceAdd, Int.reduceSub, Int.reduceMul, Int.reduceToNat, beq_self_eq_true, c5, c5S0, c5S1, c5S2, c5S3, c5S4, c5S5, c5S6, c5S7, c5S8, c5S9, c5S10, loadK_int, loadK_bool, loadK_str, loadK_slice, loadK_ptr, loadK_map, loadK_agg, loadK_other, heldW]
    have fd := filledL_length data (by omega)
    have fw := filledL_length was (by omega)
    have rd : ∀ K : Value → World → Prop, (∀ w', Below w.heap.size w w' → K (.tuple #[.string (ofL ((filledL data).take (cutAt cut) ++ (filledL was).drop (cutAt cut))), .int .i64 0]) w') →
        Ret Try.prog 16 [.pointer (some ⟨g, 0, none⟩), .int .i64 1] w6 K := by
      intro K hK
      refine Ret.mono (read_ok g vb vl6 _ 1 w6 o6.1) ?_
      rintro _ w7 ⟨rfl, h7⟩
      have cl : (crashN { safe := (newDk 6).safe.set 1 (filledL was), late := [] ++ [(1, filledL data)], left := (newDk 6).left, gone := (newDk 6).gone } 1 0 cut).safe = ((newDk 6).safe.set 1 (filledL was)).set 1 ((filledL data).take (cutAt cut) ++ (filledL was).drop (cutAt cut)) := rfl
      rw [readN_free rfl ⟨by decide, by rw [cl, List.length_set, sl]; decide⟩]
      have e : lastL (crashN { safe := (newDk 6).safe.set 1 (filledL was), late := [] ++ [(1, filledL data)], left := (newDk 6).left, gone := (newDk 6).gone } 1 0 cut).late 1 ((crashN { safe := (newDk 6).safe.set 1 (filledL was), late := [] ++ [(1, filledL data)], left := (newDk 6).left, gone := (newDk 6).gone } 1 0 cut).safe.getD (1 : Int).toNat []) = (filledL data).take (cutAt cut) ++ (filledL was).drop (cutAt cut) := rfl
      rw [e]
      exact hK _ (o6.below h7).2.1
    refine ⟨fun hc1 => rd _ fun w7 h7 => ?_, fun hc1 => ⟨fun hc2 => rd _ fun w7 h7 => ?_, fun hc2 => rd _ fun w7 h7 => ?_⟩⟩
    all_goals simp only [go_sem, ↓reduceIte, reduceCtorEq, Nat.reduceBEq, Nat.reduceEqDiff, Nat.reduceAdd, Nat.reduceMul, Int.reduceNe, Int.reduceEq, Int.reduceLT, Int.reduceLE, Int.reduceNeg, Int.reduceAdd, Int.reduceSub, Int.reduceMul, Int.reduceToNat, beq_self_eq_true, c5, c5S0, c5S1, c5S2, c5S3, c5S4, c5S5, c5S6, c5S7, c5S8, c5S9, c5S10, loadK_int, loadK_bool, loadK_str, loadK_slice, loadK_ptr, loadK_map, loadK_agg, loadK_other, heldW]
    all_goals refine c5draw0 ?_
    all_goals simp only [go_sem, ↓reduceIte, reduceCtorEq, Nat.reduceBEq, Nat.reduceEqDiff, Nat.reduceAdd, Nat.reduceMul, Int.reduceNe, Int.reduceEq, Int.reduceLT, Int.reduceLE, Int.reduceNeg, Int.reduceAdd, Int.reduceSub, Int.reduceMul, Int.reduceToNat, beq_self_eq_true, c5, c5S0, c5S1, c5S2, c5S3, c5S4, c5S5, c5S6, c5S7, c5S8, c5S9, c5S10, c5D0, loadK_int, loadK_bool, loadK_str, loadK_slice, loadK_ptr, loadK_map, loadK_agg, loadK_other, heldW]
    all_goals refine Ret.mono (filled_ok data _ (by omega)) ?_
    all_goals rintro _ w8 ⟨rfl, h8⟩
    all_goals simp only [go_sem, ↓reduceIte, reduceCtorEq, Nat.reduceBEq, Nat.reduceEqDiff, Nat.reduceAdd, Nat.reduceMul, Int.reduceNe, Int.reduceEq, Int.reduceLT, Int.reduceLE, Int.reduceNeg, Int.reduceAdd, Int.reduceSub, Int.reduceMul, Int.reduceToNat, beq_self_eq_true, c5, c5S0, c5S1, c5S2, c5S3, c5S4, c5S5, c5S6, c5S7, c5S8, c5S9, c5S10, c5D0, loadK_int, loadK_bool, loadK_str, loadK_slice, loadK_ptr, loadK_map, loadK_agg, loadK_other, heldW]
    · have ec : cutAt cut = 0 := by unfold cutAt; omega
      rw [ec]
      refine ⟨by omega, Ret.mono (filled_ok was _ (by omega)) ?_⟩
      rintro _ w9 ⟨rfl, h9⟩
      simp only [go_sem, ↓reduceIte, reduceCtorEq, Nat.reduceBEq, Nat.reduceEqDiff, Nat.reduceAdd, Nat.reduceMul, Int.reduceNe, Int.reduceEq, Int.reduceLT, Int.reduceLE, Int.reduceNeg, Int.reduceAdd, Int.reduceSub, Int.reduceMul, Int.reduceToNat, beq_self_eq_true, c5, c5S0, c5S1, c5S2, c5S3, c5S4, c5S5, c5S6, c5S7, c5S8, c5S9, c5S10, c5D0, loadK_int, loadK_bool, loadK_str, loadK_slice, loadK_ptr, loadK_map, loadK_agg, loadK_other, heldW]
      refine ⟨by omega, by rw [List.length_take, List.length_drop]; omega, aw _ (Below.next (Below.next h7 ((Below.refl _ _).drew.trans h8)) h9) _ fun w10 hb10 => ?_⟩
      simp only [go_sem, ↓reduceIte, reduceCtorEq, Nat.reduceBEq, Nat.reduceEqDiff, Nat.reduceAdd, Nat.reduceMul, Int.reduceNe, Int.reduceEq, Int.reduceLT, Int.reduceLE, Int.reduceNeg, Int.reduceAdd, Int.reduceSub, Int.reduceMul, Int.reduceToNat, beq_self_eq_true, c5, c5S0, c5S1, c5S2, c5S3, c5S4, c5S5, c5S6, c5S7, c5S8, c5S9, c5S10, c5D0, loadK_int, loadK_bool, loadK_str, loadK_slice, loadK_ptr, loadK_map, loadK_agg, loadK_other, heldW]
      exact hb10
    · have ec : cutAt cut = 256 := by unfold cutAt; omega
      rw [ec]
      refine ⟨by omega, Ret.mono (filled_ok was _ (by omega)) ?_⟩
      rintro _ w9 ⟨rfl, h9⟩
      simp only [go_sem, ↓reduceIte, reduceCtorEq, Nat.reduceBEq, Nat.reduceEqDiff, Nat.reduceAdd, Nat.reduceMul, Int.reduceNe, Int.reduceEq, Int.reduceLT, Int.reduceLE, Int.reduceNeg, Int.reduceAdd, Int.reduceSub, Int.reduceMul, Int.reduceToNat, beq_self_eq_true, c5, c5S0, c5S1, c5S2, c5S3, c5S4, c5S5, c5S6, c5S7, c5S8, c5S9, c5S10, c5D0, loadK_int, loadK_bool, loadK_str, loadK_slice, loadK_ptr, loadK_map, loadK_agg, loadK_other, heldW]
      refine ⟨by omega, by rw [List.length_take, List.length_drop]; omega, aw _ (Below.next (Below.next h7 ((Below.refl _ _).drew.trans h8)) h9) _ fun w10 hb10 => ?_⟩
      simp only [go_sem, ↓reduceIte, reduceCtorEq, Nat.reduceBEq, Nat.reduceEqDiff, Nat.reduceAdd, Nat.reduceMul, Int.reduceNe, Int.reduceEq, Int.reduceLT, Int.reduceLE, Int.reduceNeg, Int.reduceAdd, Int.reduceSub, Int.reduceMul, Int.reduceToNat, beq_self_eq_true, c5, c5S0, c5S1, c5S2, c5S3, c5S4, c5S5, c5S6, c5S7, c5S8, c5S9, c5S10, c5D0, loadK_int, loadK_bool, loadK_str, loadK_slice, loadK_ptr, loadK_map, loadK_agg, loadK_other, heldW]
      exact hb10
    · have ec : cutAt cut = cut.toNat := by unfold cutAt; omega
      rw [ec]
      refine ⟨⟨by omega, by omega⟩, Ret.mono (filled_ok was _ (by omega)) ?_⟩
      rintro _ w9 ⟨rfl, h9⟩
      simp only [go_sem, ↓reduceIte, reduceCtorEq, Nat.reduceBEq, Nat.reduceEqDiff, Nat.reduceAdd, Nat.reduceMul, Int.reduceNe, Int.reduceEq, Int.reduceLT, Int.reduceLE, Int.reduceNeg, Int.reduceAdd, Int.reduceSub, Int.reduceMul, Int.reduceToNat, beq_self_eq_true, c5, c5S0, c5S1, c5S2, c5S3, c5S4, c5S5, c5S6, c5S7, c5S8, c5S9, c5S10, c5D0, loadK_int, loadK_bool, loadK_str, loadK_slice, loadK_ptr, loadK_map, loadK_agg, loadK_other, heldW]
      refine ⟨⟨by omega, by omega⟩, by rw [List.length_take, List.length_drop]; omega, aw _ (Below.next (Below.next h7 ((Below.refl _ _).drew.trans h8)) h9) _ fun w10 hb10 => ?_⟩
      simp only [go_sem, ↓reduceIte, reduceCtorEq, Nat.reduceBEq, Nat.reduceEqDiff, Nat.reduceAdd, Nat.reduceMul, Int.reduceNe, Int.reduceEq, Int.reduceLT, Int.reduceLE, Int.reduceNeg, Int.reduceAdd, Int.reduceSub, Int.reduceMul, Int.reduceToNat, beq_self_eq_true, c5, c5S0, c5S1, c5S2, c5S3, c5S4, c5S5, c5S6, c5S7, c5S8, c5S9, c5S10, c5D0, loadK_int, loadK_bool, loadK_str, loadK_slice, loadK_ptr, loadK_map, loadK_agg, loadK_other, heldW]
      exact hb10
  · simp only [go_sem, ↓reduceIte, reduceCtorEq, Nat.reduceBEq, Nat.reduceEqDiff, Nat.reduceAdd, Nat.reduceMul, Int.reduceNe, Int.reduceEq, Int.reduceLT, Int.reduceLE, Int.reduceNeg, Int.reduceAdd, Int.reduceSub, Int.reduceMul, Int.reduceToNat, beq_self_eq_true, c5, c5S0, c5S1, c5S2, c5S3, c5S4, c5S5, c5S6, c5S7, c5S8, c5S9, c5S10, loadK_int, loadK_bool, loadK_str, loadK_slice, loadK_ptr, loadK_map, loadK_agg, loadK_other, heldW]
    refine aw _ hb3 _ fun w4 hb4 => ?_
    simp only [go_sem, ↓reduceIte, reduceCtorEq, Nat.reduceBEq, Nat.reduceEqDiff, Nat.reduceAdd, Nat.reduceMul, Int.reduceNe, Int.reduceEq, Int.reduceLT, Int.reduceLE, Int.reduceNeg, Int.reduceAdd, Int.reduceSub, Int.reduceMul, Int.reduceToNat, beq_self_eq_true, c5, c5S0, c5S1, c5S2, c5S3, c5S4, c5S5, c5S6, c5S7, c5S8, c5S9, c5S10, loadK_int, loadK_bool, loadK_str, loadK_slice, loadK_ptr, loadK_map, loadK_agg, loadK_other, heldW]
    exact hb4
end Go.Proofs.Ytlaflmkgfafhpaa
