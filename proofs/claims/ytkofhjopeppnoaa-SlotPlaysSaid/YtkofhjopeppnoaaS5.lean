/- A record set, or deleted: the program's. -/
import Derived.Test.YtkofhjopeppnoaaS4
namespace Go.Proofs.Ytkofhjopeppnoaa
set_option linter.unusedSimpArgs false
set_option linter.unusedVariables false
set_option maxRecDepth 100000
open Go Go.Ann Go.RowKit
theorem countP_or {p q : Nat → Bool} : ∀ {l : List Nat}, (∀ x ∈ l, p x = true → q x = true → False) → l.countP (fun x => p x || q x) = l.countP p + l.countP q
  | [], _ => rfl
  | a :: l, h => by
    have ih := countP_or (l := l) fun x hx => h x (List.mem_cons_of_mem _ hx)
    have h0 := h a List.mem_cons_self
    rw [List.countP_cons, List.countP_cons, List.countP_cons, ih]
    cases hp : p a <;> cases hq : q a
    · simp
    · simp; omega
    · simp; omega
    · exact (h0 hp hq).elim
theorem count_iv : ∀ (N a b : Nat), b ≤ N → a ≤ b → (List.range N).countP (fun p => decide (a ≤ p ∧ p < b)) = b - a
  | 0, a, b, h1, h2 => by simp; omega
  | N + 1, a, b, h1, h2 => by
    rw [List.range_succ, List.countP_append]
    by_cases hb : b ≤ N
    · rw [count_iv N a b hb h2]
      simp; omega
    · have hbN : b = N + 1 := by omega
      subst hbN
      have e : (List.range N).countP (fun p => decide (a ≤ p ∧ p < N + 1)) = (List.range N).countP (fun p => decide (a ≤ p ∧ p < N)) := by
        refine List.countP_congr fun x hx => ?_
        have := List.mem_range.1 hx
        simp; omega
      rw [e]
      by_cases ha : a ≤ N
      · rw [count_iv N a N (Nat.le_refl _) ha]; simp [ha]; omega
      · have : (List.range N).countP (fun p => decide (a ≤ p ∧ p < N)) = 0 := by
          rw [List.countP_eq_zero]; intro x hx; have := List.mem_range.1 hx; simp; omega
        rw [this]; simp [ha]; omega
def sumZ (z : Nat → Nat) : Nat → Nat
  | 0 => 0
  | n + 1 => sumZ z n + z n
def covB (A : Nat) (f z : Nat → Nat) : Nat → Nat → Bool
  | 0, p => decide (0 ≤ p ∧ p < A)
  | n + 1, p => covB A f z n p || decide (f n ≤ p ∧ p < f n + z n)
theorem covB_out {A : Nat} {f z : Nat → Nat} : ∀ {n p : Nat}, covB A f z n p = true → p < A ∨ ∃ i, i < n ∧ f i ≤ p ∧ p < f i + z i
  | 0, p, h => .inl (of_decide_eq_true h).2
  | n + 1, p, h => by
    simp only [covB, Bool.or_eq_true] at h
    rcases h with h | h
    · rcases covB_out h with h | ⟨i, hi, h⟩
      · exact .inl h
      · exact .inr ⟨i, by omega, h⟩
    · exact .inr ⟨n, by omega, of_decide_eq_true h⟩
theorem apart_sum {A B : Nat} {f z : Nat → Nat} (hAB : A ≤ B) : ∀ n, (∀ i, i < n → 0 < z i → A ≤ f i ∧ f i + z i ≤ B) → (∀ i k, i < n → k < i → 0 < z i → 0 < z k → f i < f k + z k → f k < f i + z i → False) → (List.range B).countP (covB A f z n) = A + sumZ z n
  | 0, _, _ => by
    have := count_iv B 0 A hAB (Nat.zero_le _)
    simp only [covB, sumZ]
    exact this
  | n + 1, h1, h2 => by
    have ih := apart_sum hAB n (fun i hi => h1 i (by omega)) (fun i k hi => h2 i k (by omega))
    have e : covB A f z (n + 1) = fun p => covB A f z n p || decide (f n ≤ p ∧ p < f n + z n) := rfl
    rw [e, countP_or, ih, sumZ]
    · rcases Nat.eq_zero_or_pos (z n) with hz | hz
      · have : (List.range B).countP (fun p => decide (f n ≤ p ∧ p < f n + z n)) = 0 := by
          rw [List.countP_eq_zero]; intro x hx; simp; omega
        rw [this, hz]; omega
      · have := h1 n (by omega) hz
        rw [count_iv B _ _ this.2 (by omega)]; omega
    · intro p hp hc hq
      have hq' := of_decide_eq_true hq
      have hz : 0 < z n := by omega
      have hn := h1 n (by omega) hz
      rcases covB_out hc with h | ⟨i, hi, h3, h4⟩
      · omega
      · exact h2 n i (by omega) hi hz (by omega) (by omega) (by omega)
theorem Pg.takes {s : List UInt8} {L : List (List UInt8)} (h : Pg s L) : takesP L ≤ s.length := by
  have hroom := h.room
  have key := apart_sum (A := 1 + 2 * L.length) (B := s.length) (f := fun i => (bN s (1 + 2 * i)).toNat) (z := fun i => (bN s (2 + 2 * i)).toNat) hroom L.length (fun i hi hz => ?_) (fun i k hi hk h1 h2 h3 h4 => ?_)
  · have hle := List.countP_le_length (p := covB (1 + 2 * L.length) (fun i => (bN s (1 + 2 * i)).toNat) (fun i => (bN s (2 + 2 * i)).toNat) L.length) (l := List.range s.length)
    rw [key, List.length_range] at hle
    have hs : ∀ k, k ≤ L.length → sumZ (fun i => (bN s (2 + 2 * i)).toNat) k = sumP (L.take k) := by
      intro k
      induction k with
      | zero => intro _; simp [sumZ, sumP]
      | succ k ih =>
        intro hk
        have h1 := sumP_take (L := L) (k := k) (by omega)
        have h2 := h.len (show k < L.length by omega)
        rw [sumZ, ih (by omega), h1]; omega
    have := hs L.length (Nat.le_refl _)
    rw [List.take_length] at this
    unfold takesP; omega
  · show 1 + 2 * L.length ≤ (bN s (1 + 2 * i)).toNat ∧ (bN s (1 + 2 * i)).toNat + (bN s (2 + 2 * i)).toNat ≤ s.length
    have hz : 0 < (bN s (2 + 2 * i)).toNat := hz
    have b1 := bN_bd s (1 + 2 * i)
    have := h.taken i hi (by omega)
    omega
  · have h1 : 0 < (bN s (2 + 2 * i)).toNat := h1
    have h2 : 0 < (bN s (2 + 2 * k)).toNat := h2
    have h3 : (bN s (1 + 2 * i)).toNat < (bN s (1 + 2 * k)).toNat + (bN s (2 + 2 * k)).toNat := h3
    have h4 : (bN s (1 + 2 * k)).toNat < (bN s (1 + 2 * i)).toNat + (bN s (2 + 2 * i)).toNat := h4
    have b1 := bN_bd s (1 + 2 * i)
    have b2 := bN_bd s (1 + 2 * k)
    exact h.apart i k hi hk (by omega) (by omega) (by omega) (by omega)
theorem getP_some {L : List (List UInt8)} {i : Int} (h : (getP L i).2 = true) : ∃ k : Nat, i = k ∧ ∃ hk : k < L.length, L[k] ≠ [] ∧ getP L i = (L[k], true) := by
  unfold getP at h ⊢
  split at h
  · rename_i h0
    obtain ⟨k, rfl⟩ := Int.eq_ofNat_of_zero_le h0
    rw [if_pos h0]
    rw [Int.toNat_natCast] at h ⊢
    split at h
    · rename_i r hr
      obtain ⟨hk, hrk⟩ := List.getElem?_eq_some_iff.1 hr
      have hr' : r ≠ [] := of_decide_eq_true h
      refine ⟨k, rfl, hk, by rw [hrk]; exact hr', ?_⟩
      rw [hrk]; simp [hr']
    · cases h
  · cases h
/-- Can't a record be set? -/
def badSet (size : Nat) (L : List (List UInt8)) (i : Int) (r : List UInt8) : Prop := (getP L i).2 = false ∨ r = [] ∨ 255 < r.length ∨ (size : Int) < (takesP L : Int) - (getP L i).1.length + r.length
instance (size : Nat) (L : List (List UInt8)) (i : Int) (r : List UInt8) : Decidable (badSet size L i r) := by unfold badSet; exact inferInstance
theorem set18 {s r : List UInt8} {l : List (List UInt8)} {i : Nat} {v : Value} {W0 w : World} {K : Value → World → Prop} (h : St W0 w (fun _ => False) [.row v 9 1 l.length (l.flatMap strE)] []) (hi : i < l.length) (hl : l.length ≤ 1000) (hf : Fits s.length (trimP (l.set i r)))
    (hK : ∀ w', Below W0.heap.size W0 w' → K (.tuple #[.string (ofL (textP s.length (trimP (l.set i r)))), .bool true]) w') :
    W Try.prog (c18S2 ()) [(0, .string (ofL s)), (1, .int .i64 i), (2, .string (ofL r)), (10, v)] w (finQ Try.prog [.tmp 6, .tmp 7] K) := by
  have hrow := h.row 0 rfl
  have hlen := strs_len l
  obtain ⟨g, cap, rfl, hcap⟩ : ∃ g cap, v = .slice (some ⟨g, 0, none⟩) l.length cap ∧ l.length ≤ cap := by
    obtain ⟨_, ⟨_, h0⟩ | ⟨g, cap, cur, e, _, _, hc, _⟩⟩ := hrow
    · omega
    · exact ⟨g, cap, e, hc⟩
  have hc0 : ∃ old, w.cell? ⟨g, i, none⟩ = some old := by
    have := hrow.cells rfl i _ (List.getElem?_eq_getElem (show i < (l.flatMap strE).length by omega))
    rw [Addr.add_lit, Nat.zero_add] at this
    exact ⟨_, this⟩
  have hf0 : w.frozen? ⟨g, i, none⟩ = false := by
    obtain ⟨_, ⟨h0, _⟩ | ⟨g', cap', cur, e, _, hb, _⟩⟩ := hrow
    · cases h0
    · cases e; exact Blk.frozen (show Blk w g cur _ from hb) _
  have hi' : (i : Int) < l.length := by omega
  simp (disch := first | omega | exact okFill_t rfl | exact okSize_t rfl | exact fun h => h | (simp only [World.size_alloc, World.size_drew, World.size_setCell, size_fill, bytesW]; omega)) only [go_sem, ↓reduceIte, reduceCtorEq, Nat.reduceBEq, Nat.reduceEqDiff, Nat.reduceAdd, Nat.reduceMul, Int.reduceNe, Int.reduceEq, Int.reduceLT, Int.reduceLE, Int.reduceNeg, Int.reduceAdd, Int.reduceSub, Int.reduceMul, Int.reduceToNat, beq_self_eq_true, c18, c18S0, c18S1, c18S2, c18S3, c18S4, c18S5, hi', hf0, storeW_fill, List.setIfInBounds_toArray, List.set_cons_zero, List.set_cons_succ, List.getElem_toArray, List.getElem_cons_zero, List.getElem_cons_succ, Nat.reduceLeDiff, Nat.reduceSub, okSt_nil, okSt_cons, fillO_some, fillO_none, cF_same, cF_blk, fF_any, size_fill, Value.oneCell', Int.toNat_natCast, Int.cast_ofNat_Int, cast0, cast1, Int.natCast_add, add_block, add_off, Classical.not_not, decide_not, Bool.not_eq_false, decide_true, decide_false, Bool.true_beq, Bool.false_beq, beq_true, beq_false, Bool.true_bne, Bool.false_bne, Bool.bne_true, Bool.bne_false, decide_eq_true_eq, Bool.not_eq_eq_eq_not, Nat.mul_one, List.size_toArray, List.length_cons, List.length_nil, Nat.le_refl, ldK_int, ldK_bool, ldK_str, ldK_slice, ldK_ptr, ldK_map, ldK_agg, ldK_other, ldO_int, ldO_bool, ldO_str, ldO_slice, ldO_ptr, ldO_map, ldO_other, ldA_some, cellsO_new, cellsO_nil, cellsC_some, cellsO_drew, cellsO_alloc, cA_add, cS_add, cA_new, cA_old, fA_new, fA_old, setO_some, cS_same, cS_off, cS_blk, World.cell?_drew, World.frozen?_drew, World.frozen?_setCell, World.size_alloc, World.size_drew, World.size_setCell, heldX_eq, heldX_add, chg_refl, chg_drew, ovr_nil, ovr_cons, Option.getD_some, Option.getD_none, Addr.add_lit, Nat.add_zero, Option.some.injEq, exists_eq', exists_eq_left', Value.int.injEq, Value.bool.injEq, Value.pointer.injEq, Value.string.injEq]
  refine ⟨by omega, hc0, ?_⟩
  have s2 := h.put 0 rfl i (.string (ofL r))
  simp only [List.set_cons_zero] at s2
  rw [← strs_set] at s2
  generalize w.setCell ⟨g, i, none⟩ (.string (ofL r)) = w2 at s2 ⊢
  have hs := RdS.of_own' (s2.row 0 rfl) (l.set i r) (by simp) rfl
  have hll : (l.set i r).length = l.length := List.length_set
  refine Ret.mono (lay_ok _ s.length (l.set i r) w2 hs (by omega) hf) ?_
  rintro _ w3 ⟨rfl, b3⟩
  simp (disch := first | omega | exact okFill_t rfl | exact okSize_t rfl | exact fun h => h | (simp only [World.size_alloc, World.size_drew, World.size_setCell, size_fill, bytesW]; omega)) only [go_sem, ↓reduceIte, reduceCtorEq, Nat.reduceBEq, Nat.reduceEqDiff, Nat.reduceAdd, Nat.reduceMul, Int.reduceNe, Int.reduceEq, Int.reduceLT, Int.reduceLE, Int.reduceNeg, Int.reduceAdd, Int.reduceSub, Int.reduceMul, Int.reduceToNat, beq_self_eq_true, c18, c18S0, c18S1, c18S2, c18S3, c18S4, c18S5, storeW_fill, List.setIfInBounds_toArray, List.set_cons_zero, List.set_cons_succ, List.getElem_toArray, List.getElem_cons_zero, List.getElem_cons_succ, Nat.reduceLeDiff, Nat.reduceSub, okSt_nil, okSt_cons, fillO_some, fillO_none, cF_same, cF_blk, fF_any, size_fill, Value.oneCell', Int.toNat_natCast, Int.cast_ofNat_Int, cast0, cast1, Int.natCast_add, add_block, add_off, Classical.not_not, decide_not, Bool.not_eq_false, decide_true, decide_false, Bool.true_beq, Bool.false_beq, beq_true, beq_false, Bool.true_bne, Bool.false_bne, Bool.bne_true, Bool.bne_false, decide_eq_true_eq, Bool.not_eq_eq_eq_not, Nat.mul_one, List.size_toArray, List.length_cons, List.length_nil, Nat.le_refl, ldK_int, ldK_bool, ldK_str, ldK_slice, ldK_ptr, ldK_map, ldK_agg, ldK_other, ldO_int, ldO_bool, ldO_str, ldO_slice, ldO_ptr, ldO_map, ldO_other, ldA_some, cellsO_new, cellsO_nil, cellsC_some, cellsO_drew, cellsO_alloc, cA_add, cS_add, cA_new, cA_old, fA_new, fA_old, setO_some, cS_same, cS_off, cS_blk, World.cell?_drew, World.frozen?_drew, World.frozen?_setCell, World.size_alloc, World.size_drew, World.size_setCell, heldX_eq, heldX_add, chg_refl, chg_drew, ovr_nil, ovr_cons, Option.getD_some, Option.getD_none, Addr.add_lit, Nat.add_zero, Option.some.injEq, exists_eq', exists_eq_left', Value.int.injEq, Value.bool.injEq, Value.pointer.injEq, Value.string.injEq]
  exact hK _ (s2.bel.trans (b3.mono s2.size))
theorem slot_set_ok (s r : List UInt8) (i : Int) (L : List (List UInt8)) (w : World) (h : Pg s L) : Ret Try.prog 18 [.string (ofL s), .int .i64 i, .string (ofL r)] w fun u w' =>
    u = (if badSet s.length L i r then .tuple #[.string (ofL s), .bool false] else .tuple #[.string (ofL (textP s.length (trimP (L.set i.toNat r)))), .bool true]) ∧ Below w.heap.size w w' := by
  have hfew := h.few
  have hsum := h.sum
  have hhi := h.hi
  refine ent18 _ _ _ _ _ ?_
  simp (disch := first | omega | exact okFill_t rfl | exact okSize_t rfl | exact fun h => h | (simp only [World.size_alloc, World.size_drew, World.size_setCell, size_fill, bytesW]; omega)) only [go_sem, ↓reduceIte, reduceCtorEq, Nat.reduceBEq, Nat.reduceEqDiff, Nat.reduceAdd, Nat.reduceMul, Int.reduceNe, Int.reduceEq, Int.reduceLT, Int.reduceLE, Int.reduceNeg, Int.reduceAdd, Int.reduceSub, Int.reduceMul, Int.reduceToNat, beq_self_eq_true, c18, c18S0, c18S1, c18S2, c18S3, c18S4, c18S5, storeW_fill, List.setIfInBounds_toArray, List.set_cons_zero, List.set_cons_succ, List.getElem_toArray, List.getElem_cons_zero, List.getElem_cons_succ, Nat.reduceLeDiff, Nat.reduceSub, okSt_nil, okSt_cons, fillO_some, fillO_none, cF_same, cF_blk, fF_any, size_fill, Value.oneCell', Int.toNat_natCast, Int.cast_ofNat_Int, cast0, cast1, Int.natCast_add, add_block, add_off, Classical.not_not, decide_not, Bool.not_eq_false, decide_true, decide_false, Bool.true_beq, Bool.false_beq, beq_true, beq_false, Bool.true_bne, Bool.false_bne, Bool.bne_true, Bool.bne_false, decide_eq_true_eq, Bool.not_eq_eq_eq_not, Nat.mul_one, List.size_toArray, List.length_cons, List.length_nil, Nat.le_refl, ldK_int, ldK_bool, ldK_str, ldK_slice, ldK_ptr, ldK_map, ldK_agg, ldK_other, ldO_int, ldO_bool, ldO_str, ldO_slice, ldO_ptr, ldO_map, ldO_other, ldA_some, cellsO_new, cellsO_nil, cellsC_some, cellsO_drew, cellsO_alloc, cA_add, cS_add, cA_new, cA_old, fA_new, fA_old, setO_some, cS_same, cS_off, cS_blk, World.cell?_drew, World.frozen?_drew, World.frozen?_setCell, World.size_alloc, World.size_drew, World.size_setCell, heldX_eq, heldX_add, chg_refl, chg_drew, ovr_nil, ovr_cons, Option.getD_some, Option.getD_none, Addr.add_lit, Nat.add_zero, Option.some.injEq, exists_eq', exists_eq_left', Value.int.injEq, Value.bool.injEq, Value.pointer.injEq, Value.string.injEq]
  refine Ret.mono (get_ok s L i w h) ?_
  rintro _ w2 ⟨rfl, b2⟩
  cases hg : (getP L i).2 with
  | false =>
    have hbad : badSet s.length L i r := .inl hg
    rw [if_pos hbad]
    simp (disch := first | omega | exact okFill_t rfl | exact okSize_t rfl | exact fun h => h | (simp only [World.size_alloc, World.size_drew, World.size_setCell, size_fill, bytesW]; omega)) only [go_sem, ↓reduceIte, reduceCtorEq, Nat.reduceBEq, Nat.reduceEqDiff, Nat.reduceAdd, Nat.reduceMul, Int.reduceNe, Int.reduceEq, Int.reduceLT, Int.reduceLE, Int.reduceNeg, Int.reduceAdd, Int.reduceSub, Int.reduceMul, Int.reduceToNat, beq_self_eq_true, c18, c18S0, c18S1, c18S2, c18S3, c18S4, c18S5, storeW_fill, List.setIfInBounds_toArray, List.set_cons_zero, List.set_cons_succ, List.getElem_toArray, List.getElem_cons_zero, List.getElem_cons_succ, Nat.reduceLeDiff, Nat.reduceSub, okSt_nil, okSt_cons, fillO_some, fillO_none, cF_same, cF_blk, fF_any, size_fill, Value.oneCell', Int.toNat_natCast, Int.cast_ofNat_Int, cast0, cast1, Int.natCast_add, add_block, add_off, Classical.not_not, decide_not, Bool.not_eq_false, decide_true, decide_false, Bool.true_beq, Bool.false_beq, beq_true, beq_false, Bool.true_bne, Bool.false_bne, Bool.bne_true, Bool.bne_false, decide_eq_true_eq, Bool.not_eq_eq_eq_not, Nat.mul_one, List.size_toArray, List.length_cons, List.length_nil, Nat.le_refl, ldK_int, ldK_bool, ldK_str, ldK_slice, ldK_ptr, ldK_map, ldK_agg, ldK_other, ldO_int, ldO_bool, ldO_str, ldO_slice, ldO_ptr, ldO_map, ldO_other, ldA_some, cellsO_new, cellsO_nil, cellsC_some, cellsO_drew, cellsO_alloc, cA_add, cS_add, cA_new, cA_old, fA_new, fA_old, setO_some, cS_same, cS_off, cS_blk, World.cell?_drew, World.frozen?_drew, World.frozen?_setCell, World.size_alloc, World.size_drew, World.size_setCell, heldX_eq, heldX_add, chg_refl, chg_drew, ovr_nil, ovr_cons, Option.getD_some, Option.getD_none, Addr.add_lit, Nat.add_zero, Option.some.injEq, exists_eq', exists_eq_left', Value.int.injEq, Value.bool.injEq, Value.pointer.injEq, Value.string.injEq]
    exact b2
  | true =>
    obtain ⟨k, rfl, hk, hne, hgk⟩ := getP_some hg
    have hl := h.len hk
    have hb := bN_bd s (2 + 2 * k)
    rw [hgk]
    simp (disch := first | omega | exact okFill_t rfl | exact okSize_t rfl | exact fun h => h | (simp only [World.size_alloc, World.size_drew, World.size_setCell, size_fill, bytesW]; omega)) only [go_sem, ↓reduceIte, reduceCtorEq, Nat.reduceBEq, Nat.reduceEqDiff, Nat.reduceAdd, Nat.reduceMul, Int.reduceNe, Int.reduceEq, Int.reduceLT, Int.reduceLE, Int.reduceNeg, Int.reduceAdd, Int.reduceSub, Int.reduceMul, Int.reduceToNat, beq_self_eq_true, c18, c18S0, c18S1, c18S2, c18S3, c18S4, c18S5, storeW_fill, List.setIfInBounds_toArray, List.set_cons_zero, List.set_cons_succ, List.getElem_toArray, List.getElem_cons_zero, List.getElem_cons_succ, Nat.reduceLeDiff, Nat.reduceSub, okSt_nil, okSt_cons, fillO_some, fillO_none, cF_same, cF_blk, fF_any, size_fill, Value.oneCell', Int.toNat_natCast, Int.cast_ofNat_Int, cast0, cast1, Int.natCast_add, add_block, add_off, Classical.not_not, decide_not, Bool.not_eq_false, decide_true, decide_false, Bool.true_beq, Bool.false_beq, beq_true, beq_false, Bool.true_bne, Bool.false_bne, Bool.bne_true, Bool.bne_false, decide_eq_true_eq, Bool.not_eq_eq_eq_not, Nat.mul_one, List.size_toArray, List.length_cons, List.length_nil, Nat.le_refl, ldK_int, ldK_bool, ldK_str, ldK_slice, ldK_ptr, ldK_map, ldK_agg, ldK_other, ldO_int, ldO_bool, ldO_str, ldO_slice, ldO_ptr, ldO_map, ldO_other, ldA_some, cellsO_new, cellsO_nil, cellsC_some, cellsO_drew, cellsO_alloc, cA_add, cS_add, cA_new, cA_old, fA_new, fA_old, setO_some, cS_same, cS_off, cS_blk, World.cell?_drew, World.frozen?_drew, World.frozen?_setCell, World.size_alloc, World.size_drew, World.size_setCell, heldX_eq, heldX_add, chg_refl, chg_drew, ovr_nil, ovr_cons, Option.getD_some, Option.getD_none, Addr.add_lit, Nat.add_zero, Option.some.injEq, exists_eq', exists_eq_left', Value.int.injEq, Value.bool.injEq, Value.pointer.injEq, Value.string.injEq]
    refine ⟨fun e => ⟨fun e2 => ⟨by rw [if_pos (.inr (.inr (.inl (by omega))))], b2⟩, fun e2 => ?_⟩, fun e => ⟨by rw [if_pos (.inr (.inl (of_decide_eq_true e)))], b2⟩⟩
    have hr : r ≠ [] := of_decide_eq_false e
    refine Ret.mono (list_ok s L w2 h) ?_
    rintro v w3 ⟨o3, b3⟩
    have s3 := ((St.start (W0 := w)).call b2).add b3 (.row v 9 1 L.length (L.flatMap strE)) (own_mono o3 b2.size) fun k hk => (o3.lt k hk).1
    have h3 := RdS.of_own' (s3.row 0 rfl) L rfl rfl
    simp (disch := first | omega | exact okFill_t rfl | exact okSize_t rfl | exact fun h => h | (simp only [World.size_alloc, World.size_drew, World.size_setCell, size_fill, bytesW]; omega)) only [go_sem, ↓reduceIte, reduceCtorEq, Nat.reduceBEq, Nat.reduceEqDiff, Nat.reduceAdd, Nat.reduceMul, Int.reduceNe, Int.reduceEq, Int.reduceLT, Int.reduceLE, Int.reduceNeg, Int.reduceAdd, Int.reduceSub, Int.reduceMul, Int.reduceToNat, beq_self_eq_true, c18, c18S0, c18S1, c18S2, c18S3, c18S4, c18S5, storeW_fill, List.setIfInBounds_toArray, List.set_cons_zero, List.set_cons_succ, List.getElem_toArray, List.getElem_cons_zero, List.getElem_cons_succ, Nat.reduceLeDiff, Nat.reduceSub, okSt_nil, okSt_cons, fillO_some, fillO_none, cF_same, cF_blk, fF_any, size_fill, Value.oneCell', Int.toNat_natCast, Int.cast_ofNat_Int, cast0, cast1, Int.natCast_add, add_block, add_off, Classical.not_not, decide_not, Bool.not_eq_false, decide_true, decide_false, Bool.true_beq, Bool.false_beq, beq_true, beq_false, Bool.true_bne, Bool.false_bne, Bool.bne_true, Bool.bne_false, decide_eq_true_eq, Bool.not_eq_eq_eq_not, Nat.mul_one, List.size_toArray, List.length_cons, List.length_nil, Nat.le_refl, ldK_int, ldK_bool, ldK_str, ldK_slice, ldK_ptr, ldK_map, ldK_agg, ldK_other, ldO_int, ldO_bool, ldO_str, ldO_slice, ldO_ptr, ldO_map, ldO_other, ldA_some, cellsO_new, cellsO_nil, cellsC_some, cellsO_drew, cellsO_alloc, cA_add, cS_add, cA_new, cA_old, fA_new, fA_old, setO_some, cS_same, cS_off, cS_blk, World.cell?_drew, World.frozen?_drew, World.frozen?_setCell, World.size_alloc, World.size_drew, World.size_setCell, heldX_eq, heldX_add, chg_refl, chg_drew, ovr_nil, ovr_cons, Option.getD_some, Option.getD_none, Addr.add_lit, Nat.add_zero, Option.some.injEq, exists_eq', exists_eq_left', Value.int.injEq, Value.bool.injEq, Value.pointer.injEq, Value.string.injEq]
    refine Ret.mono (used_ok _ L w3 h3 (by omega) (by omega)) ?_
    rintro _ w4 ⟨rfl, b4⟩
    have s4 := s3.call b4
    have ht : takesP L = 1 + 2 * L.length + sumP L := rfl
    have hle := sumP_take hk
    have hle2 := sumP_le (L := L) (k + 1)
    simp (disch := first | omega | exact okFill_t rfl | exact okSize_t rfl | exact fun h => h | (simp only [World.size_alloc, World.size_drew, World.size_setCell, size_fill, bytesW]; omega)) only [go_sem, ↓reduceIte, reduceCtorEq, Nat.reduceBEq, Nat.reduceEqDiff, Nat.reduceAdd, Nat.reduceMul, Int.reduceNe, Int.reduceEq, Int.reduceLT, Int.reduceLE, Int.reduceNeg, Int.reduceAdd, Int.reduceSub, Int.reduceMul, Int.reduceToNat, beq_self_eq_true, c18, c18S0, c18S1, c18S3, c18S4, c18S5, storeW_fill, List.setIfInBounds_toArray, List.set_cons_zero, List.set_cons_succ, List.getElem_toArray, List.getElem_cons_zero, List.getElem_cons_succ, Nat.reduceLeDiff, Nat.reduceSub, okSt_nil, okSt_cons, fillO_some, fillO_none, cF_same, cF_blk, fF_any, size_fill, Value.oneCell', Int.toNat_natCast, Int.cast_ofNat_Int, cast0, cast1, Int.natCast_add, add_block, add_off, Classical.not_not, decide_not, Bool.not_eq_false, decide_true, decide_false, Bool.true_beq, Bool.false_beq, beq_true, beq_false, Bool.true_bne, Bool.false_bne, Bool.bne_true, Bool.bne_false, decide_eq_true_eq, Bool.not_eq_eq_eq_not, Nat.mul_one, List.size_toArray, List.length_cons, List.length_nil, Nat.le_refl, ldK_int, ldK_bool, ldK_str, ldK_slice, ldK_ptr, ldK_map, ldK_agg, ldK_other, ldO_int, ldO_bool, ldO_str, ldO_slice, ldO_ptr, ldO_map, ldO_other, ldA_some, cellsO_new, cellsO_nil, cellsC_some, cellsO_drew, cellsO_alloc, cA_add, cS_add, cA_new, cA_old, fA_new, fA_old, setO_some, cS_same, cS_off, cS_blk, World.cell?_drew, World.frozen?_drew, World.frozen?_setCell, World.size_alloc, World.size_drew, World.size_setCell, heldX_eq, heldX_add, chg_refl, chg_drew, ovr_nil, ovr_cons, Option.getD_some, Option.getD_none, Addr.add_lit, Nat.add_zero, Option.some.injEq, exists_eq', exists_eq_left', Value.int.injEq, Value.bool.injEq, Value.pointer.injEq, Value.string.injEq]
    refine ⟨⟨by omega, by omega⟩, ⟨by omega, by omega⟩, fun e3 => ⟨?_, s4.bel⟩, fun e3 => ?_⟩
    · rw [if_pos (.inr (.inr (.inr (by rw [hgk]; exact e3))))]
    · have hok : ¬ badSet s.length L k r := by
        rintro (h | h | h | h)
        · rw [hg] at h; cases h
        · exact hr h
        · omega
        · rw [hgk] at h; simp only at h; omega
      rw [if_neg hok]
      refine set18 s4 hk (by omega) ⟨h.lo, h.hi, ?_⟩ fun w' b => ⟨rfl, b⟩
      have h5 := takes_trim (L.set k r)
      have h6 := sumP_set hk r
      have ht2 : takesP (L.set k r) = 1 + 2 * (L.set k r).length + sumP (L.set k r) := rfl
      rw [List.length_set] at ht2
      omega
theorem del14 {s : List UInt8} {l : List (List UInt8)} {i : Nat} {v : Value} {W0 w : World} {K : Value → World → Prop} (h : St W0 w (fun _ => False) [.row v 9 1 l.length (l.flatMap strE)] []) (hi : i < l.length) (hl : l.length ≤ 1000) (hf : Fits s.length (trimP (l.set i [])))
    (hK : ∀ w', Below W0.heap.size W0 w' → K (.tuple #[.string (ofL (textP s.length (trimP (l.set i [])))), .bool true]) w') :
    W Try.prog (c14S2 ()) [(0, .string (ofL s)), (1, .int .i64 i), (8, v)] w (finQ Try.prog [.tmp 4, .tmp 5] K) := by
  have hrow := h.row 0 rfl
  have hlen := strs_len l
  obtain ⟨g, cap, rfl, hcap⟩ : ∃ g cap, v = .slice (some ⟨g, 0, none⟩) l.length cap ∧ l.length ≤ cap := by
    obtain ⟨_, ⟨_, h0⟩ | ⟨g, cap, cur, e, _, _, hc, _⟩⟩ := hrow
    · omega
    · exact ⟨g, cap, e, hc⟩
  have hc0 : ∃ old, w.cell? ⟨g, i, none⟩ = some old := by
    have := hrow.cells rfl i _ (List.getElem?_eq_getElem (show i < (l.flatMap strE).length by omega))
    rw [Addr.add_lit, Nat.zero_add] at this
    exact ⟨_, this⟩
  have hf0 : w.frozen? ⟨g, i, none⟩ = false := by
    obtain ⟨_, ⟨h0, _⟩ | ⟨g', cap', cur, e, _, hb, _⟩⟩ := hrow
    · cases h0
    · cases e; exact Blk.frozen (show Blk w g cur _ from hb) _
  have hi' : (i : Int) < l.length := by omega
  simp (disch := first | omega | exact okFill_t rfl | exact okSize_t rfl | exact fun h => h | (simp only [World.size_alloc, World.size_drew, World.size_setCell, size_fill, bytesW]; omega)) only [go_sem, ↓reduceIte, reduceCtorEq, Nat.reduceBEq, Nat.reduceEqDiff, Nat.reduceAdd, Nat.reduceMul, Int.reduceNe, Int.reduceEq, Int.reduceLT, Int.reduceLE, Int.reduceNeg, Int.reduceAdd, Int.reduceSub, Int.reduceMul, Int.reduceToNat, beq_self_eq_true, c14, c14S0, c14S1, c14S2, c14S3, hi', hf0, storeW_fill, List.setIfInBounds_toArray, List.set_cons_zero, List.set_cons_succ, List.getElem_toArray, List.getElem_cons_zero, List.getElem_cons_succ, Nat.reduceLeDiff, Nat.reduceSub, okSt_nil, okSt_cons, fillO_some, fillO_none, cF_same, cF_blk, fF_any, size_fill, Value.oneCell', Int.toNat_natCast, Int.cast_ofNat_Int, cast0, cast1, Int.natCast_add, add_block, add_off, Classical.not_not, decide_not, Bool.not_eq_false, decide_true, decide_false, Bool.true_beq, Bool.false_beq, beq_true, beq_false, Bool.true_bne, Bool.false_bne, Bool.bne_true, Bool.bne_false, decide_eq_true_eq, Bool.not_eq_eq_eq_not, Nat.mul_one, List.size_toArray, List.length_cons, List.length_nil, Nat.le_refl, ldK_int, ldK_bool, ldK_str, ldK_slice, ldK_ptr, ldK_map, ldK_agg, ldK_other, ldO_int, ldO_bool, ldO_str, ldO_slice, ldO_ptr, ldO_map, ldO_other, ldA_some, cellsO_new, cellsO_nil, cellsC_some, cellsO_drew, cellsO_alloc, cA_add, cS_add, cA_new, cA_old, fA_new, fA_old, setO_some, cS_same, cS_off, cS_blk, World.cell?_drew, World.frozen?_drew, World.frozen?_setCell, World.size_alloc, World.size_drew, World.size_setCell, heldX_eq, heldX_add, chg_refl, chg_drew, ovr_nil, ovr_cons, Option.getD_some, Option.getD_none, Addr.add_lit, Nat.add_zero, Option.some.injEq, exists_eq', exists_eq_left', Value.int.injEq, Value.bool.injEq, Value.pointer.injEq, Value.string.injEq]
  refine ⟨by omega, hc0, ?_⟩
  have s2 := h.put 0 rfl i (.string (ofL []))
  simp only [List.set_cons_zero] at s2
  rw [← strs_set] at s2
  generalize w.setCell ⟨g, i, none⟩ (.string (ofL [])) = w2 at s2 ⊢
  have hs := RdS.of_own' (s2.row 0 rfl) (l.set i []) (by simp) rfl
  have hll : (l.set i []).length = l.length := List.length_set
  refine Ret.mono (lay_ok _ s.length (l.set i []) w2 hs (by omega) hf) ?_
  rintro _ w3 ⟨rfl, b3⟩
  simp (disch := first | omega | exact okFill_t rfl | exact okSize_t rfl | exact fun h => h | (simp only [World.size_alloc, World.size_drew, World.size_setCell, size_fill, bytesW]; omega)) only [go_sem, ↓reduceIte, reduceCtorEq, Nat.reduceBEq, Nat.reduceEqDiff, Nat.reduceAdd, Nat.reduceMul, Int.reduceNe, Int.reduceEq, Int.reduceLT, Int.reduceLE, Int.reduceNeg, Int.reduceAdd, Int.reduceSub, Int.reduceMul, Int.reduceToNat, beq_self_eq_true, c14, c14S0, c14S1, c14S2, c14S3, storeW_fill, List.setIfInBounds_toArray, List.set_cons_zero, List.set_cons_succ, List.getElem_toArray, List.getElem_cons_zero, List.getElem_cons_succ, Nat.reduceLeDiff, Nat.reduceSub, okSt_nil, okSt_cons, fillO_some, fillO_none, cF_same, cF_blk, fF_any, size_fill, Value.oneCell', Int.toNat_natCast, Int.cast_ofNat_Int, cast0, cast1, Int.natCast_add, add_block, add_off, Classical.not_not, decide_not, Bool.not_eq_false, decide_true, decide_false, Bool.true_beq, Bool.false_beq, beq_true, beq_false, Bool.true_bne, Bool.false_bne, Bool.bne_true, Bool.bne_false, decide_eq_true_eq, Bool.not_eq_eq_eq_not, Nat.mul_one, List.size_toArray, List.length_cons, List.length_nil, Nat.le_refl, ldK_int, ldK_bool, ldK_str, ldK_slice, ldK_ptr, ldK_map, ldK_agg, ldK_other, ldO_int, ldO_bool, ldO_str, ldO_slice, ldO_ptr, ldO_map, ldO_other, ldA_some, cellsO_new, cellsO_nil, cellsC_some, cellsO_drew, cellsO_alloc, cA_add, cS_add, cA_new, cA_old, fA_new, fA_old, setO_some, cS_same, cS_off, cS_blk, World.cell?_drew, World.frozen?_drew, World.frozen?_setCell, World.size_alloc, World.size_drew, World.size_setCell, heldX_eq, heldX_add, chg_refl, chg_drew, ovr_nil, ovr_cons, Option.getD_some, Option.getD_none, Addr.add_lit, Nat.add_zero, Option.some.injEq, exists_eq', exists_eq_left', Value.int.injEq, Value.bool.injEq, Value.pointer.injEq, Value.string.injEq]
  exact hK _ (s2.bel.trans (b3.mono s2.size))
theorem slot_del_ok (s : List UInt8) (i : Int) (L : List (List UInt8)) (w : World) (h : Pg s L) : Ret Try.prog 14 [.string (ofL s), .int .i64 i] w fun u w' =>
    u = (if (getP L i).2 = true then .tuple #[.string (ofL (textP s.length (trimP (L.set i.toNat [])))), .bool true] else .tuple #[.string (ofL s), .bool false]) ∧ Below w.heap.size w w' := by
  have hfew := h.few
  refine ent14 _ _ _ _ ?_
  simp (disch := first | omega | exact okFill_t rfl | exact okSize_t rfl | exact fun h => h | (simp only [World.size_alloc, World.size_drew, World.size_setCell, size_fill, bytesW]; omega)) only [go_sem, ↓reduceIte, reduceCtorEq, Nat.reduceBEq, Nat.reduceEqDiff, Nat.reduceAdd, Nat.reduceMul, Int.reduceNe, Int.reduceEq, Int.reduceLT, Int.reduceLE, Int.reduceNeg, Int.reduceAdd, Int.reduceSub, Int.reduceMul, Int.reduceToNat, beq_self_eq_true, c14, c14S0, c14S1, c14S2, c14S3, storeW_fill, List.setIfInBounds_toArray, List.set_cons_zero, List.set_cons_succ, List.getElem_toArray, List.getElem_cons_zero, List.getElem_cons_succ, Nat.reduceLeDiff, Nat.reduceSub, okSt_nil, okSt_cons, fillO_some, fillO_none, cF_same, cF_blk, fF_any, size_fill, Value.oneCell', Int.toNat_natCast, Int.cast_ofNat_Int, cast0, cast1, Int.natCast_add, add_block, add_off, Classical.not_not, decide_not, Bool.not_eq_false, decide_true, decide_false, Bool.true_beq, Bool.false_beq, beq_true, beq_false, Bool.true_bne, Bool.false_bne, Bool.bne_true, Bool.bne_false, decide_eq_true_eq, Bool.not_eq_eq_eq_not, Nat.mul_one, List.size_toArray, List.length_cons, List.length_nil, Nat.le_refl, ldK_int, ldK_bool, ldK_str, ldK_slice, ldK_ptr, ldK_map, ldK_agg, ldK_other, ldO_int, ldO_bool, ldO_str, ldO_slice, ldO_ptr, ldO_map, ldO_other, ldA_some, cellsO_new, cellsO_nil, cellsC_some, cellsO_drew, cellsO_alloc, cA_add, cS_add, cA_new, cA_old, fA_new, fA_old, setO_some, cS_same, cS_off, cS_blk, World.cell?_drew, World.frozen?_drew, World.frozen?_setCell, World.size_alloc, World.size_drew, World.size_setCell, heldX_eq, heldX_add, chg_refl, chg_drew, ovr_nil, ovr_cons, Option.getD_some, Option.getD_none, Addr.add_lit, Nat.add_zero, Option.some.injEq, exists_eq', exists_eq_left', Value.int.injEq, Value.bool.injEq, Value.pointer.injEq, Value.string.injEq]
  refine Ret.mono (get_ok s L i w h) ?_
  rintro _ w2 ⟨rfl, b2⟩
  cases hg : (getP L i).2 with
  | false =>
    simp (disch := first | omega | exact okFill_t rfl | exact okSize_t rfl | exact fun h => h | (simp only [World.size_alloc, World.size_drew, World.size_setCell, size_fill, bytesW]; omega)) only [go_sem, ↓reduceIte, reduceCtorEq, Nat.reduceBEq, Nat.reduceEqDiff, Nat.reduceAdd, Nat.reduceMul, Int.reduceNe, Int.reduceEq, Int.reduceLT, Int.reduceLE, Int.reduceNeg, Int.reduceAdd, Int.reduceSub, Int.reduceMul, Int.reduceToNat, beq_self_eq_true, c14, c14S0, c14S1, c14S2, c14S3, storeW_fill, List.setIfInBounds_toArray, List.set_cons_zero, List.set_cons_succ, List.getElem_toArray, List.getElem_cons_zero, List.getElem_cons_succ, Nat.reduceLeDiff, Nat.reduceSub, okSt_nil, okSt_cons, fillO_some, fillO_none, cF_same, cF_blk, fF_any, size_fill, Value.oneCell', Int.toNat_natCast, Int.cast_ofNat_Int, cast0, cast1, Int.natCast_add, add_block, add_off, Classical.not_not, decide_not, Bool.not_eq_false, decide_true, decide_false, Bool.true_beq, Bool.false_beq, beq_true, beq_false, Bool.true_bne, Bool.false_bne, Bool.bne_true, Bool.bne_false, decide_eq_true_eq, Bool.not_eq_eq_eq_not, Nat.mul_one, List.size_toArray, List.length_cons, List.length_nil, Nat.le_refl, ldK_int, ldK_bool, ldK_str, ldK_slice, ldK_ptr, ldK_map, ldK_agg, ldK_other, ldO_int, ldO_bool, ldO_str, ldO_slice, ldO_ptr, ldO_map, ldO_other, ldA_some, cellsO_new, cellsO_nil, cellsC_some, cellsO_drew, cellsO_alloc, cA_add, cS_add, cA_new, cA_old, fA_new, fA_old, setO_some, cS_same, cS_off, cS_blk, World.cell?_drew, World.frozen?_drew, World.frozen?_setCell, World.size_alloc, World.size_drew, World.size_setCell, heldX_eq, heldX_add, chg_refl, chg_drew, ovr_nil, ovr_cons, Option.getD_some, Option.getD_none, Addr.add_lit, Nat.add_zero, Option.some.injEq, exists_eq', exists_eq_left', Value.int.injEq, Value.bool.injEq, Value.pointer.injEq, Value.string.injEq]
    exact b2
  | true =>
    obtain ⟨k, rfl, hk, hne, hgk⟩ := getP_some hg
    simp (disch := first | omega | exact okFill_t rfl | exact okSize_t rfl | exact fun h => h | (simp only [World.size_alloc, World.size_drew, World.size_setCell, size_fill, bytesW]; omega)) only [go_sem, ↓reduceIte, reduceCtorEq, Nat.reduceBEq, Nat.reduceEqDiff, Nat.reduceAdd, Nat.reduceMul, Int.reduceNe, Int.reduceEq, Int.reduceLT, Int.reduceLE, Int.reduceNeg, Int.reduceAdd, Int.reduceSub, Int.reduceMul, Int.reduceToNat, beq_self_eq_true, c14, c14S0, c14S1, c14S2, c14S3, storeW_fill, List.setIfInBounds_toArray, List.set_cons_zero, List.set_cons_succ, List.getElem_toArray, List.getElem_cons_zero, List.getElem_cons_succ, Nat.reduceLeDiff, Nat.reduceSub, okSt_nil, okSt_cons, fillO_some, fillO_none, cF_same, cF_blk, fF_any, size_fill, Value.oneCell', Int.toNat_natCast, Int.cast_ofNat_Int, cast0, cast1, Int.natCast_add, add_block, add_off, Classical.not_not, decide_not, Bool.not_eq_false, decide_true, decide_false, Bool.true_beq, Bool.false_beq, beq_true, beq_false, Bool.true_bne, Bool.false_bne, Bool.bne_true, Bool.bne_false, decide_eq_true_eq, Bool.not_eq_eq_eq_not, Nat.mul_one, List.size_toArray, List.length_cons, List.length_nil, Nat.le_refl, ldK_int, ldK_bool, ldK_str, ldK_slice, ldK_ptr, ldK_map, ldK_agg, ldK_other, ldO_int, ldO_bool, ldO_str, ldO_slice, ldO_ptr, ldO_map, ldO_other, ldA_some, cellsO_new, cellsO_nil, cellsC_some, cellsO_drew, cellsO_alloc, cA_add, cS_add, cA_new, cA_old, fA_new, fA_old, setO_some, cS_same, cS_off, cS_blk, World.cell?_drew, World.frozen?_drew, World.frozen?_setCell, World.size_alloc, World.size_drew, World.size_setCell, heldX_eq, heldX_add, chg_refl, chg_drew, ovr_nil, ovr_cons, Option.getD_some, Option.getD_none, Addr.add_lit, Nat.add_zero, Option.some.injEq, exists_eq', exists_eq_left', Value.int.injEq, Value.bool.injEq, Value.pointer.injEq, Value.string.injEq]
    refine Ret.mono (list_ok s L w2 h) ?_
    rintro v w3 ⟨o3, b3⟩
    have s3 := ((St.start (W0 := w)).call b2).add b3 (.row v 9 1 L.length (L.flatMap strE)) (own_mono o3 b2.size) fun k hk => (o3.lt k hk).1
    simp (disch := first | omega | exact okFill_t rfl | exact okSize_t rfl | exact fun h => h | (simp only [World.size_alloc, World.size_drew, World.size_setCell, size_fill, bytesW]; omega)) only [go_sem, ↓reduceIte, reduceCtorEq, Nat.reduceBEq, Nat.reduceEqDiff, Nat.reduceAdd, Nat.reduceMul, Int.reduceNe, Int.reduceEq, Int.reduceLT, Int.reduceLE, Int.reduceNeg, Int.reduceAdd, Int.reduceSub, Int.reduceMul, Int.reduceToNat, beq_self_eq_true, c14, c14S0, c14S1, c14S3, storeW_fill, List.setIfInBounds_toArray, List.set_cons_zero, List.set_cons_succ, List.getElem_toArray, List.getElem_cons_zero, List.getElem_cons_succ, Nat.reduceLeDiff, Nat.reduceSub, okSt_nil, okSt_cons, fillO_some, fillO_none, cF_same, cF_blk, fF_any, size_fill, Value.oneCell', Int.toNat_natCast, Int.cast_ofNat_Int, cast0, cast1, Int.natCast_add, add_block, add_off, Classical.not_not, decide_not, Bool.not_eq_false, decide_true, decide_false, Bool.true_beq, Bool.false_beq, beq_true, beq_false, Bool.true_bne, Bool.false_bne, Bool.bne_true, Bool.bne_false, decide_eq_true_eq, Bool.not_eq_eq_eq_not, Nat.mul_one, List.size_toArray, List.length_cons, List.length_nil, Nat.le_refl, ldK_int, ldK_bool, ldK_str, ldK_slice, ldK_ptr, ldK_map, ldK_agg, ldK_other, ldO_int, ldO_bool, ldO_str, ldO_slice, ldO_ptr, ldO_map, ldO_other, ldA_some, cellsO_new, cellsO_nil, cellsC_some, cellsO_drew, cellsO_alloc, cA_add, cS_add, cA_new, cA_old, fA_new, fA_old, setO_some, cS_same, cS_off, cS_blk, World.cell?_drew, World.frozen?_drew, World.frozen?_setCell, World.size_alloc, World.size_drew, World.size_setCell, heldX_eq, heldX_add, chg_refl, chg_drew, ovr_nil, ovr_cons, Option.getD_some, Option.getD_none, Addr.add_lit, Nat.add_zero, Option.some.injEq, exists_eq', exists_eq_left', Value.int.injEq, Value.bool.injEq, Value.pointer.injEq, Value.string.injEq]
    refine del14 s3 hk (by omega) ⟨h.lo, h.hi, ?_⟩ fun w' b => ⟨rfl, b⟩
    have h5 := takes_trim (L.set k [])
    have h6 := sumP_set hk []
    have h7 := h.takes
    have ht : takesP L = 1 + 2 * L.length + sumP L := rfl
    have ht2 : takesP (L.set k []) = 1 + 2 * (L.set k []).length + sumP (L.set k []) := rfl
    rw [List.length_set] at ht2
    simp only [List.length_nil] at h6
    omega
end Go.Proofs.Ytkofhjopeppnoaa
