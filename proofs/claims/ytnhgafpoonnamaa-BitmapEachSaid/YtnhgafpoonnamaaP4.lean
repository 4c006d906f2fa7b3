/- The laws on a bitmap's sets, as contracts: each answers yes and leaves what was there before. -/
import Derived.Test.YtnhgafpoonnamaaP3
namespace Go.Proofs.Ytnhgafpoonnamaa
set_option linter.unusedSimpArgs false
set_option linter.unusedVariables false
open Go Go.Ann Go.RowKit

theorem sets_ok (l : List UInt8) (i : Int) (b : Bool) (w : World) (hi : I64 i) (hl : (l.length : Int) ≤ 9223372036854775807) :
    Ret Try.prog 3 [.string (ofL l), .int .i64 i, .bool b] w fun v w' => v = .bool true ∧ Below w.heap.size w w' := by
  refine ent3 _ _ _ _ _ ?_
  simp only [go_sem, ↓reduceIte, reduceCtorEq, Nat.reduceBEq, Nat.reduceEqDiff, Nat.reduceAdd, Nat.reduceMul, Int.reduceNe, Int.reduceEq, Int.reduceLT, Int.reduceLE, Int.reduceNeg, Int.reduceAdd, Int.reduceSub, Int.reduceMul, Int.reduceToNat, beq_self_eq_true, c3, c3S0, c3S1, c3S2]
  refine Ret.mono (with_ok l i b w hi) ?_
  rintro _ w2 ⟨rfl, h2⟩
  simp only [go_sem, ↓reduceIte, reduceCtorEq, Nat.reduceBEq, Nat.reduceEqDiff, Nat.reduceAdd, Nat.reduceMul, Int.reduceNe, Int.reduceEq, Int.reduceLT, Int.reduceLE, Int.reduceNeg, Int.reduceAdd, Int.reduceSub, Int.reduceMul, Int.reduceToNat, beq_self_eq_true, c3, c3S0, c3S1, c3S2]
  refine Ret.mono (rwith_ok l i b w2 hi hl) ?_
  rintro _ w3 ⟨rfl, h3⟩
  simp only [go_sem, ↓reduceIte, reduceCtorEq, Nat.reduceBEq, Nat.reduceEqDiff, Nat.reduceAdd, Nat.reduceMul, Int.reduceNe, Int.reduceEq, Int.reduceLT, Int.reduceLE, Int.reduceNeg, Int.reduceAdd, Int.reduceSub, Int.reduceMul, Int.reduceToNat, beq_self_eq_true, c3, c3S0, c3S1, c3S2]
  refine Ret.mono (has_ok l i w3 hi) ?_
  rintro _ w4 ⟨rfl, rfl⟩
  simp only [go_sem, ↓reduceIte, reduceCtorEq, Nat.reduceBEq, Nat.reduceEqDiff, Nat.reduceAdd, Nat.reduceMul, Int.reduceNe, Int.reduceEq, Int.reduceLT, Int.reduceLE, Int.reduceNeg, Int.reduceAdd, Int.reduceSub, Int.reduceMul, Int.reduceToNat, beq_self_eq_true, c3, c3S0, c3S1, c3S2]
  refine Ret.mono (rhas_ok l i w4 hi) ?_
  rintro _ w5 ⟨rfl, rfl⟩
  simp only [go_sem, ↓reduceIte, reduceCtorEq, Nat.reduceBEq, Nat.reduceEqDiff, Nat.reduceAdd, Nat.reduceMul, Int.reduceNe, Int.reduceEq, Int.reduceLT, Int.reduceLE, Int.reduceNeg, Int.reduceAdd, Int.reduceSub, Int.reduceMul, Int.reduceToNat, beq_self_eq_true, c3, c3S0, c3S1, c3S2, beq_self_eq_true]
  refine Ret.mono (awake_ok w5) ?_
  rintro _ w6 ⟨rfl, h6⟩
  simp only [go_sem, ↓reduceIte, reduceCtorEq, Nat.reduceBEq, Nat.reduceEqDiff, Nat.reduceAdd, Nat.reduceMul, Int.reduceNe, Int.reduceEq, Int.reduceLT, Int.reduceLE, Int.reduceNeg, Int.reduceAdd, Int.reduceSub, Int.reduceMul, Int.reduceToNat, beq_self_eq_true, c3, c3S0, c3S1, c3S2]
  exact bnext (bnext h2 h3) h6
theorem hasL_empty (n i : Int) : hasL (emptyL n) i = false := by
  have : bN (emptyL n) (i / 8) = 0 := by
    unfold bN emptyL
    rw [List.getD_eq_getElem?_getD]
    cases h : (List.replicate ((n + 7) / 8).toNat (0 : UInt8))[(i / 8).toNat]? with
    | none => rfl
    | some u =>
      have := List.eq_of_mem_replicate (List.mem_of_getElem? h)
      subst this; rfl
  have h8 : ∀ k : Fin 8, bitOf 0 k.val = false := by decide
  have : bitOf (bN (emptyL n) (i / 8)) (i % 8).toNat = false := by
    rw [this]; exact h8 ⟨(i % 8).toNat, by omega⟩
  unfold hasL
  rw [this]; simp
theorem countL_empty (n : Int) : countL (emptyL n) = 0 := by
  unfold emptyL
  induction ((n + 7) / 8).toNat with
  | zero => rfl
  | succ k ih =>
    rw [List.replicate_succ]
    unfold countL at *
    rw [List.map_cons, List.sum_cons, ih]
    decide +kernel
theorem empties_ok (n i : Int) (w : World) (hn : I64 n) (hi : I64 i) :
    Ret Try.prog 4 [.int .i64 n, .int .i64 i] w fun v w' => v = .bool true ∧ Below w.heap.size w w' := by
  refine ent4 _ _ _ _ ?_
  simp only [go_sem, ↓reduceIte, reduceCtorEq, Nat.reduceBEq, Nat.reduceEqDiff, Nat.reduceAdd, Nat.reduceMul, Int.reduceNe, Int.reduceEq, Int.reduceLT, Int.reduceLE, Int.reduceNeg, Int.reduceAdd, Int.reduceSub, Int.reduceMul, Int.reduceToNat, beq_self_eq_true, c4, c4S0, c4S1, c4S2, c4S3, c4S4]
  refine ⟨fun h => ?_, fun h => ?_⟩
  · refine Ret.mono (awake_ok w) ?_
    rintro _ w2 ⟨rfl, h2⟩
    simp only [go_sem, ↓reduceIte, reduceCtorEq, Nat.reduceBEq, Nat.reduceEqDiff, Nat.reduceAdd, Nat.reduceMul, Int.reduceNe, Int.reduceEq, Int.reduceLT, Int.reduceLE, Int.reduceNeg, Int.reduceAdd, Int.reduceSub, Int.reduceMul, Int.reduceToNat, beq_self_eq_true, c4, c4S0, c4S1, c4S2, c4S3, c4S4]
    exact h2
  refine Ret.mono (empty_ok n w hn (by omega)) ?_
  rintro _ w2 ⟨rfl, h2⟩
  simp only [go_sem, ↓reduceIte, reduceCtorEq, Nat.reduceBEq, Nat.reduceEqDiff, Nat.reduceAdd, Nat.reduceMul, Int.reduceNe, Int.reduceEq, Int.reduceLT, Int.reduceLE, Int.reduceNeg, Int.reduceAdd, Int.reduceSub, Int.reduceMul, Int.reduceToNat, beq_self_eq_true, c4, c4S0, c4S1, c4S2, c4S3, c4S4]
  refine Ret.mono (with_ok (emptyL n) i true w2 hi) ?_
  rintro _ w3 ⟨rfl, h3⟩
  simp only [go_sem, ↓reduceIte, reduceCtorEq, Nat.reduceBEq, Nat.reduceEqDiff, Nat.reduceAdd, Nat.reduceMul, Int.reduceNe, Int.reduceEq, Int.reduceLT, Int.reduceLE, Int.reduceNeg, Int.reduceAdd, Int.reduceSub, Int.reduceMul, Int.reduceToNat, beq_self_eq_true, c4, c4S0, c4S1, c4S2, c4S3, c4S4]
  refine Ret.mono (rempty_ok n w3 hn (by omega)) ?_
  rintro _ w4 ⟨rfl, h4⟩
  have hb := bnext (bnext h2 h3) h4
  simp only [go_sem, ↓reduceIte, reduceCtorEq, Nat.reduceBEq, Nat.reduceEqDiff, Nat.reduceAdd, Nat.reduceMul, Int.reduceNe, Int.reduceEq, Int.reduceLT, Int.reduceLE, Int.reduceNeg, Int.reduceAdd, Int.reduceSub, Int.reduceMul, Int.reduceToNat, beq_self_eq_true, c4, c4S0, c4S1, c4S2, c4S3, c4S4]
  refine Ret.mono (count_ok (emptyL n) w4 (by unfold emptyL; rw [List.length_replicate]; omega)) ?_
  rintro _ w5 ⟨rfl, rfl⟩
  rw [countL_empty, show ((0 : Nat) : Int) = 0 from rfl]
  simp only [go_sem, ↓reduceIte, reduceCtorEq, Nat.reduceBEq, Nat.reduceEqDiff, Nat.reduceAdd, Nat.reduceMul, Int.reduceNe, Int.reduceEq, Int.reduceLT, Int.reduceLE, Int.reduceNeg, Int.reduceAdd, Int.reduceSub, Int.reduceMul, Int.reduceToNat, beq_self_eq_true, c4, c4S0, c4S1, c4S2, c4S3, c4S4]
  refine Ret.mono (has_ok (emptyL n) i w5 hi) ?_
  rintro _ w6 ⟨rfl, rfl⟩
  simp only [go_sem, ↓reduceIte, reduceCtorEq, Nat.reduceBEq, Nat.reduceEqDiff, Nat.reduceAdd, Nat.reduceMul, Int.reduceNe, Int.reduceEq, Int.reduceLT, Int.reduceLE, Int.reduceNeg, Int.reduceAdd, Int.reduceSub, Int.reduceMul, Int.reduceToNat, beq_self_eq_true, c4, c4S0, c4S1, c4S2, c4S3, c4S4, hasL_empty]
  have fin : Ret Try.prog 12 [] w6 (fun v w' => v = .bool true ∧ Below w.heap.size w w') := by
    refine Ret.mono (awake_ok w6) ?_
    rintro _ w7 ⟨rfl, h7⟩
    exact ⟨rfl, bnext hb h7⟩
  have finK : ∀ (K : Value → World → Prop), (∀ w7, Below w.heap.size w w7 → K (.bool true) w7) → Ret Try.prog 12 [] w6 K := by
    intro K hK
    refine Ret.mono fin ?_
    rintro _ w7 ⟨rfl, h7⟩
    exact hK _ h7
  refine ⟨fun hi0 => ⟨fun hin => ⟨fun _ => finK _ fun w7 h7 => ?_, fun hf => ?_⟩, fun _ => finK _ fun w7 h7 => ?_⟩, fun _ => finK _ fun w7 h7 => ?_⟩
  · simp only [go_sem, ↓reduceIte, reduceCtorEq, Nat.reduceBEq, Nat.reduceEqDiff, Nat.reduceAdd, Nat.reduceMul, Int.reduceNe, Int.reduceEq, Int.reduceLT, Int.reduceLE, Int.reduceNeg, Int.reduceAdd, Int.reduceSub, Int.reduceMul, Int.reduceToNat, beq_self_eq_true, c4, c4S0, c4S1, c4S2, c4S3, c4S4]
    exact h7
  · exfalso
    unfold fitsL emptyL at hf
    rw [List.length_replicate] at hf
    exact of_decide_eq_false hf (by omega)
  · simp only [go_sem, ↓reduceIte, reduceCtorEq, Nat.reduceBEq, Nat.reduceEqDiff, Nat.reduceAdd, Nat.reduceMul, Int.reduceNe, Int.reduceEq, Int.reduceLT, Int.reduceLE, Int.reduceNeg, Int.reduceAdd, Int.reduceSub, Int.reduceMul, Int.reduceToNat, beq_self_eq_true, c4, c4S0, c4S1, c4S2, c4S3, c4S4]
    exact h7
  · simp only [go_sem, ↓reduceIte, reduceCtorEq, Nat.reduceBEq, Nat.reduceEqDiff, Nat.reduceAdd, Nat.reduceMul, Int.reduceNe, Int.reduceEq, Int.reduceLT, Int.reduceLE, Int.reduceNeg, Int.reduceAdd, Int.reduceSub, Int.reduceMul, Int.reduceToNat, beq_self_eq_true, c4, c4S0, c4S1, c4S2, c4S3, c4S4]
    exact h7
theorem lowests_ok (l : List UInt8) (a b : Int) (w : World) (ha : I64 a) (hb : I64 b) :
    Ret Try.prog 5 [.string (ofL l), .int .i64 a, .int .i64 b] w fun v w' => v = .bool true ∧ Below w.heap.size w w' := by
  refine ent5 _ _ _ _ _ ?_
  simp only [go_sem, ↓reduceIte, reduceCtorEq, Nat.reduceBEq, Nat.reduceEqDiff, Nat.reduceAdd, Nat.reduceMul, Int.reduceNe, Int.reduceEq, Int.reduceLT, Int.reduceLE, Int.reduceNeg, Int.reduceAdd, Int.reduceSub, Int.reduceMul, Int.reduceToNat, beq_self_eq_true, c5, c5S0, c5S1, c5S2, c5S3, c5S4]
  refine ⟨fun h => ?_, fun h => ?_⟩
  · refine Ret.mono (awake_ok w) ?_
    rintro _ w2 ⟨rfl, h2⟩
    simp only [go_sem, ↓reduceIte, reduceCtorEq, Nat.reduceBEq, Nat.reduceEqDiff, Nat.reduceAdd, Nat.reduceMul, Int.reduceNe, Int.reduceEq, Int.reduceLT, Int.reduceLE, Int.reduceNeg, Int.reduceAdd, Int.reduceSub, Int.reduceMul, Int.reduceToNat, beq_self_eq_true, c5, c5S0, c5S1, c5S2, c5S3, c5S4]
    exact h2
  refine Ret.mono (lowest_ok l a b w ha hb (by omega)) ?_
  rintro _ w2 ⟨n, ok, rfl, hlow, rfl⟩
  simp only [go_sem, ↓reduceIte, reduceCtorEq, Nat.reduceBEq, Nat.reduceEqDiff, Nat.reduceAdd, Nat.reduceMul, Int.reduceNe, Int.reduceEq, Int.reduceLT, Int.reduceLE, Int.reduceNeg, Int.reduceAdd, Int.reduceSub, Int.reduceMul, Int.reduceToNat, beq_self_eq_true, c5, c5S0, c5S1, c5S2, c5S3, c5S4]
  refine Ret.mono (rlowest_ok l a b w2 ha hb (by omega)) ?_
  rintro _ w3 ⟨n', ok', rfl, hlow', rfl⟩
  obtain ⟨rfl, rfl⟩ := hlow.same hlow'
  simp only [go_sem, ↓reduceIte, reduceCtorEq, Nat.reduceBEq, Nat.reduceEqDiff, Nat.reduceAdd, Nat.reduceMul, Int.reduceNe, Int.reduceEq, Int.reduceLT, Int.reduceLE, Int.reduceNeg, Int.reduceAdd, Int.reduceSub, Int.reduceMul, Int.reduceToNat, beq_self_eq_true, c5, c5S0, c5S1, c5S2, c5S3, c5S4, beq_self_eq_true]
  refine Ret.mono (awake_ok w3) ?_
  rintro _ w2 ⟨rfl, h2⟩
  simp only [go_sem, ↓reduceIte, reduceCtorEq, Nat.reduceBEq, Nat.reduceEqDiff, Nat.reduceAdd, Nat.reduceMul, Int.reduceNe, Int.reduceEq, Int.reduceLT, Int.reduceLE, Int.reduceNeg, Int.reduceAdd, Int.reduceSub, Int.reduceMul, Int.reduceToNat, beq_self_eq_true, c5, c5S0, c5S1, c5S2, c5S3, c5S4]
  exact h2
theorem withL_unfit (l : List UInt8) (i : Int) (b : Bool) (h : fitsL l i = false) : withL l i b = l := by
  unfold fitsL at h; unfold withL
  rw [if_neg (of_decide_eq_false h)]
theorem set_bits : ∀ (c : Fin 256) (k j : Fin 8) (b : Bool), bitOf ((UInt8.ofNat (setBit (c.val : Int) k.val b).toNat).toNat : Int) j.val = if j = k then b else bitOf c.val j.val := by decide +kernel
theorem set_back : ∀ (c : Fin 256) (k : Fin 8) (b : Bool), UInt8.ofNat (setBit ((UInt8.ofNat (setBit (c.val : Int) k.val b).toNat).toNat : Int) k.val (bitOf c.val k.val)).toNat = UInt8.ofNat c.val := by decide +kernel
theorem bN_set (l : List UInt8) (j : Int) (u : UInt8) (h0 : 0 ≤ j) (h : j < l.length) (k : Int) (hk : 0 ≤ k) : bN (l.set j.toNat u) k = if k = j then (u.toNat : Int) else bN l k := by
  by_cases e : k = j
  · subst e
    rw [if_pos rfl]
    have := bN_get (l.set k.toNat u) k.toNat u (by rw [List.getElem?_set_self (by omega)])
    rwa [show ((k.toNat : Nat) : Int) = k by omega] at this
  · rw [if_neg e]
    unfold bN
    rw [List.getD_eq_getElem?_getD, List.getD_eq_getElem?_getD, List.getElem?_set_ne (by omega)]
theorem hasL_in (l : List UInt8) (i : Int) (h : 0 ≤ i ∧ i < 8 * l.length) : hasL l i = bitOf (bN l (i / 8)) (i % 8).toNat := by
  simp [hasL, h.1, h.2]
theorem withL_length (l : List UInt8) (i : Int) (b : Bool) : (withL l i b).length = l.length := by
  unfold withL; split <;> simp
theorem withL_has (l : List UInt8) (i : Int) (b : Bool) (h : fitsL l i = true) (k : Int) : hasL (withL l i b) k = if k = i then b else hasL l k := by
  have h' := of_decide_eq_true h
  by_cases hk : 0 ≤ k ∧ k < 8 * l.length
  · rw [hasL_in _ k (by rw [withL_length]; exact hk), hasL_in l k hk]
    unfold withL
    rw [if_pos h', bN_set _ _ _ (by omega) (by omega) _ (by omega)]
    have bd := bN_bd l (i / 8)
    by_cases e : k / 8 = i / 8
    · rw [if_pos e]
      have := set_bits ⟨(bN l (i / 8)).toNat, by omega⟩ ⟨(i % 8).toNat, by omega⟩ ⟨(k % 8).toNat, by omega⟩ b
      rw [show ((bN l (i / 8)).toNat : Int) = bN l (i / 8) by omega] at this
      rw [this, e]
      by_cases e2 : k = i
      · subst e2; simp
      · rw [if_neg e2, if_neg (by intro h; have := congrArg Fin.val h; simp only at this; omega)]
    · rw [if_neg e, if_neg (by rintro rfl; exact e rfl)]
  · have hn : ∀ m : List UInt8, m.length = l.length → hasL m k = false := by
      intro m hm
      unfold hasL
      rw [hm]
      rw [← Bool.decide_and, decide_eq_false hk]; rfl
    rw [hn l rfl, hn _ (withL_length l i b), if_neg (by rintro rfl; exact hk h')]
theorem withL_back (l : List UInt8) (i : Int) (b : Bool) (h : fitsL l i = true) : fitsL (withL l i b) i = true ∧ withL (withL l i b) i (hasL l i) = l := by
  have h' := of_decide_eq_true h
  refine ⟨by unfold fitsL; rw [withL_length]; exact h, ?_⟩
  have e1 : ∀ m : List UInt8, m.length = l.length → ∀ c, withL m i c = m.set (i / 8).toNat (UInt8.ofNat (setBit (bN m (i / 8)) (i % 8).toNat c).toNat) := by
    intro m hm c
    unfold withL
    rw [hm, if_pos h']
  rw [e1 _ (withL_length l i b), e1 l rfl, hasL_in l i h', bN_set _ _ _ (by omega) (by omega) _ (by omega), if_pos rfl, List.set_set]
  have bd := bN_bd l (i / 8)
  have := set_back ⟨(bN l (i / 8)).toNat, by omega⟩ ⟨(i % 8).toNat, by omega⟩ b
  simp only [show ((bN l (i / 8)).toNat : Int) = bN l (i / 8) by omega] at this
  rw [this]
  have hlt : (i / 8).toNat < l.length := by omega
  have := bN_get l (i / 8).toNat l[(i / 8).toNat] (List.getElem?_eq_getElem hlt)
  rw [show (((i / 8).toNat : Nat) : Int) = i / 8 by omega] at this
  rw [this]
  simp
theorem others_ok (l : List UInt8) (i k : Int) (b : Bool) (w : World) (hi : I64 i) (hk : I64 k) :
    Ret Try.prog 6 [.string (ofL l), .int .i64 i, .int .i64 k, .bool b] w fun v w' => v = .bool true ∧ Below w.heap.size w w' := by
  refine ent6 _ _ _ _ _ _ ?_
  simp only [go_sem, ↓reduceIte, reduceCtorEq, Nat.reduceBEq, Nat.reduceEqDiff, Nat.reduceAdd, Nat.reduceMul, Int.reduceNe, Int.reduceEq, Int.reduceLT, Int.reduceLE, Int.reduceNeg, Int.reduceAdd, Int.reduceSub, Int.reduceMul, Int.reduceToNat, beq_self_eq_true, c6, c6S0, c6S1, c6S2, c6S3, c6S4]
  refine Ret.mono (with_ok l i b w hi) ?_
  rintro _ w2 ⟨rfl, h2⟩
  simp only [go_sem, ↓reduceIte, reduceCtorEq, Nat.reduceBEq, Nat.reduceEqDiff, Nat.reduceAdd, Nat.reduceMul, Int.reduceNe, Int.reduceEq, Int.reduceLT, Int.reduceLE, Int.reduceNeg, Int.reduceAdd, Int.reduceSub, Int.reduceMul, Int.reduceToNat, beq_self_eq_true, c6, c6S0, c6S1, c6S2, c6S3, c6S4]
  refine ⟨fun hf => ⟨fun _ => ?_, fun h => ?_⟩, fun hf => ?_⟩
  · refine Ret.mono (awake_ok w2) ?_
    rintro _ w3 ⟨rfl, h3⟩
    simp only [go_sem, ↓reduceIte, reduceCtorEq, Nat.reduceBEq, Nat.reduceEqDiff, Nat.reduceAdd, Nat.reduceMul, Int.reduceNe, Int.reduceEq, Int.reduceLT, Int.reduceLE, Int.reduceNeg, Int.reduceAdd, Int.reduceSub, Int.reduceMul, Int.reduceToNat, beq_self_eq_true, c6, c6S0, c6S1, c6S2, c6S3, c6S4]
    exact bnext h2 h3
  · rw [withL_unfit l i b hf] at h; simp at h
  refine Ret.mono (has_ok l i w2 hi) ?_
  rintro _ w3 ⟨rfl, rfl⟩
  simp only [go_sem, ↓reduceIte, reduceCtorEq, Nat.reduceBEq, Nat.reduceEqDiff, Nat.reduceAdd, Nat.reduceMul, Int.reduceNe, Int.reduceEq, Int.reduceLT, Int.reduceLE, Int.reduceNeg, Int.reduceAdd, Int.reduceSub, Int.reduceMul, Int.reduceToNat, beq_self_eq_true, c6, c6S0, c6S1, c6S2, c6S3, c6S4]
  refine Ret.mono (with_ok (withL l i b) i (hasL l i) w3 hi) ?_
  rintro _ w4 ⟨rfl, h4⟩
  obtain ⟨hf2, hback⟩ := withL_back l i b hf
  rw [hf2, hback]
  simp only [go_sem, ↓reduceIte, reduceCtorEq, Nat.reduceBEq, Nat.reduceEqDiff, Nat.reduceAdd, Nat.reduceMul, Int.reduceNe, Int.reduceEq, Int.reduceLT, Int.reduceLE, Int.reduceNeg, Int.reduceAdd, Int.reduceSub, Int.reduceMul, Int.reduceToNat, beq_self_eq_true, c6, c6S0, c6S1, c6S2, c6S3, c6S4]
  refine Ret.mono (has_ok (withL l i b) i w4 hi) ?_
  rintro _ w5 ⟨rfl, rfl⟩
  rw [withL_has l i b hf, if_pos rfl]
  simp only [go_sem, ↓reduceIte, reduceCtorEq, Nat.reduceBEq, Nat.reduceEqDiff, Nat.reduceAdd, Nat.reduceMul, Int.reduceNe, Int.reduceEq, Int.reduceLT, Int.reduceLE, Int.reduceNeg, Int.reduceAdd, Int.reduceSub, Int.reduceMul, Int.reduceToNat, beq_self_eq_true, c6, c6S0, c6S1, c6S2, c6S3, c6S4]
  have fin : Ret Try.prog 12 [] w5 (fun v w' => v = .bool true ∧ Below w.heap.size w w') := by
    refine Ret.mono (awake_ok w5) ?_
    rintro _ w6 ⟨rfl, h6⟩
    exact ⟨rfl, bnext (bnext h2 h4) h6⟩
  refine ⟨fun hne => ?_, fun _ => ?_⟩
  · refine Ret.mono (has_ok (withL l i b) k w5 hk) ?_
    rintro _ w6 ⟨rfl, rfl⟩
    rw [withL_has l i b hf, if_neg (fun h => hne h.symm)]
    simp only [go_sem, ↓reduceIte, reduceCtorEq, Nat.reduceBEq, Nat.reduceEqDiff, Nat.reduceAdd, Nat.reduceMul, Int.reduceNe, Int.reduceEq, Int.reduceLT, Int.reduceLE, Int.reduceNeg, Int.reduceAdd, Int.reduceSub, Int.reduceMul, Int.reduceToNat, beq_self_eq_true, c6, c6S0, c6S1, c6S2, c6S3, c6S4]
    refine Ret.mono (has_ok l k w6 hk) ?_
    rintro _ w7 ⟨rfl, rfl⟩
    simp only [go_sem, ↓reduceIte, reduceCtorEq, Nat.reduceBEq, Nat.reduceEqDiff, Nat.reduceAdd, Nat.reduceMul, Int.reduceNe, Int.reduceEq, Int.reduceLT, Int.reduceLE, Int.reduceNeg, Int.reduceAdd, Int.reduceSub, Int.reduceMul, Int.reduceToNat, beq_self_eq_true, c6, c6S0, c6S1, c6S2, c6S3, c6S4]
    refine Ret.mono fin ?_
    rintro _ w8 ⟨rfl, h8⟩
    simp only [go_sem, ↓reduceIte, reduceCtorEq, Nat.reduceBEq, Nat.reduceEqDiff, Nat.reduceAdd, Nat.reduceMul, Int.reduceNe, Int.reduceEq, Int.reduceLT, Int.reduceLE, Int.reduceNeg, Int.reduceAdd, Int.reduceSub, Int.reduceMul, Int.reduceToNat, beq_self_eq_true, c6, c6S0, c6S1, c6S2, c6S3, c6S4]
    exact h8
  · refine Ret.mono fin ?_
    rintro _ w6 ⟨rfl, h6⟩
    simp only [go_sem, ↓reduceIte, reduceCtorEq, Nat.reduceBEq, Nat.reduceEqDiff, Nat.reduceAdd, Nat.reduceMul, Int.reduceNe, Int.reduceEq, Int.reduceLT, Int.reduceLE, Int.reduceNeg, Int.reduceAdd, Int.reduceSub, Int.reduceMul, Int.reduceToNat, beq_self_eq_true, c6, c6S0, c6S1, c6S2, c6S3, c6S4]
    exact h6
end Go.Proofs.Ytnhgafpoonnamaa
