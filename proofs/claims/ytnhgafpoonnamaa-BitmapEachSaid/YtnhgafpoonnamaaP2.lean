/- Contracts over the bitmap's functions: with a number, the empty set, the least number that is not in it. -/
import Derived.Test.YtnhgafpoonnamaaP1
namespace Go.Proofs.Ytnhgafpoonnamaa
set_option linter.unusedSimpArgs false
set_option linter.unusedVariables false
open Go Go.Ann Go.RowKit

/-- The empty set with room for n numbers. -/
def emptyL (n : Int) : List UInt8 := List.replicate ((n + 7) / 8).toNat 0

theorem bytesAt_zeros (w : World) (n : Nat) (e : Nat) : bytesAt (w.alloc (.cells (zerosA (.int .u8 0) n) e)) (some ⟨w.heap.size, 0, none⟩) (List.replicate n 0) := by
  intro i b h
  simp only [Addr.add_lit, Nat.zero_add]
  obtain ⟨hi, hb⟩ := List.getElem?_eq_some_iff.1 h
  simp only [List.length_replicate] at hi
  simp only [List.getElem_replicate] at hb
  subst hb
  rw [World.cell?_alloc_at _ _ _ _ rfl]
  simp [zerosA, hi]

theorem empty_ok (n : Int) (w : World) (hi : I64 n) (hn : n ≤ 100000000) :
    Ret Try.prog 13 [.int .i64 n] w fun v w' => v = .string (ofL (emptyL n)) ∧ Below w.heap.size w w' := by
  have hk : max 0 (n.tdiv 8 + min 1 (max 0 (n.tmod 8))) = max 0 ((n + 7) / 8) := by
    rcases Int.le_total 0 n with h | h
    · rw [Int.tdiv_eq_ediv_of_nonneg h, Int.tmod_eq_emod_of_nonneg h]; omega
    · have h1 : n.tdiv 8 ≤ 0 := by
        have h2 : n.tdiv 8 = -((-n) / 8) := by
          rw [← Int.tdiv_eq_ediv_of_nonneg (by omega), Int.neg_tdiv, Int.neg_neg]
        omega
      have h2 : n.tmod 8 ≤ 0 := by
        have h2 : n.tmod 8 = -((-n) % 8) := by
          rw [← Int.tmod_eq_emod_of_nonneg (by omega), Int.neg_tmod, Int.neg_neg]
        omega
      omega
  have hd : I64 (n.tdiv 8) := tdiv_i64 n 8 (by decide) (by decide) hi
  refine ent13 _ _ _ ?_
  simp only [go_sem, ↓reduceIte, reduceCtorEq, Nat.reduceBEq, Nat.reduceEqDiff, Nat.reduceAdd, Nat.reduceMul, Int.reduceNe, Int.reduceEq, Int.reduceLT, Int.reduceLE, Int.reduceNeg, Int.reduceAdd, Int.reduceSub, Int.reduceMul, Int.reduceToNat, beq_self_eq_true, c13, c13S0]
  refine ⟨hi, ?_, ?_⟩
  · obtain ⟨h1, h2⟩ := hd
    have h3 : n.tdiv 8 ≤ 100000000 := by
      rcases Int.le_total 0 n with h | h
      · rw [Int.tdiv_eq_ediv_of_nonneg h]; omega
      · have h2 : n.tdiv 8 = -((-n) / 8) := by
          rw [← Int.tdiv_eq_ediv_of_nonneg (by omega), Int.neg_tdiv, Int.neg_neg]
        omega
    exact ⟨by omega, by omega⟩
  · rw [hk]
    refine msW_one ty38mkI rfl (by omega) (by omega) (by omega) (by omega) ?_
    simp only [go_sem, ↓reduceIte, reduceCtorEq, Nat.reduceBEq, Nat.reduceEqDiff, Nat.reduceAdd, Nat.reduceMul, Int.reduceNe, Int.reduceEq, Int.reduceLT, Int.reduceLE, Int.reduceNeg, Int.reduceAdd, Int.reduceSub, Int.reduceMul, Int.reduceToNat, beq_self_eq_true, c13, c13S0]
    have hb := bytesAt_zeros w (max 0 ((n + 7) / 8)).toNat 5
    have e : List.replicate (max 0 ((n + 7) / 8)).toNat (0 : UInt8) = emptyL n := by unfold emptyL; congr 1; omega
    rw [e] at hb
    exact ⟨emptyL n, by unfold emptyL; rw [List.length_replicate]; omega, hb, rfl, (Below.refl _ _).alloc (Nat.le_refl _) _⟩

theorem rempty_ok (n : Int) (w : World) (hi : I64 n) (hn : n ≤ 100000000) :
    Ret Try.prog 14 [.int .i64 n] w fun v w' => v = .string (ofL (emptyL n)) ∧ Below w.heap.size w w' := by
  refine ent14 _ _ _ ?_
  simp only [go_sem, ↓reduceIte, reduceCtorEq, Nat.reduceBEq, Nat.reduceEqDiff, Nat.reduceAdd, Nat.reduceMul, Int.reduceNe, Int.reduceEq, Int.reduceLT, Int.reduceLE, Int.reduceNeg, Int.reduceAdd, Int.reduceSub, Int.reduceMul, Int.reduceToNat, beq_self_eq_true, c14, c14S0, c14S1]
  have hd : I64 (n.tdiv 8) := tdiv_i64 n 8 (by decide) (by decide) hi
  have hk : ∀ k : Nat, ((k : Int) < n.tdiv 8 ∨ (k : Int) = n.tdiv 8 ∧ 0 < n.tmod 8) ↔ (k : Int) < (n + 7) / 8 := by
    intro k
    rcases Int.le_total 0 n with h | h
    · rw [Int.tdiv_eq_ediv_of_nonneg h, Int.tmod_eq_emod_of_nonneg h]; omega
    · have h1 : n.tdiv 8 = -((-n) / 8) := by
        rw [← Int.tdiv_eq_ediv_of_nonneg (by omega), Int.neg_tdiv, Int.neg_neg]
      have h2 : n.tmod 8 = -((-n) % 8) := by
        rw [← Int.tmod_eq_emod_of_nonneg (by omega), Int.neg_tmod, Int.neg_neg]
      omega
  refine W_loop (fun k : Nat => [(0, .int .i64 n), (3, .int .i64 (k : Int))]) (fun k w' => (k : Int) ≤ max 0 ((n + 7) / 8) ∧ w' = w) (fun k => 100000000 - k) 0 (by rfl) ⟨by omega, rfl⟩ ?_
  rintro k w' ⟨hkb, rfl⟩
  have hkk := hk k
  have more : (k : Int) < (n + 7) / 8 → I64 ((k : Int) + 1) ∧ ∃ s' : Nat, [(0, Value.int .i64 n), (3, Value.int .i64 ((k : Int) + 1))] = [(0, Value.int .i64 n), (3, Value.int .i64 (s' : Int))] ∧ (s' : Int) ≤ max 0 ((n + 7) / 8) ∧ 100000000 - s' < 100000000 - k := by
    intro h
    exact ⟨⟨by omega, by omega⟩, k + 1, by simp, by omega, by omega⟩
  simp only [go_sem, ↓reduceIte, reduceCtorEq, Nat.reduceBEq, Nat.reduceEqDiff, Nat.reduceAdd, Nat.reduceMul, Int.reduceNe, Int.reduceEq, Int.reduceLT, Int.reduceLE, Int.reduceNeg, Int.reduceAdd, Int.reduceSub, Int.reduceMul, Int.reduceToNat, beq_self_eq_true, c14, c14S0, c14S1, c14L0]
  have fin : ¬ (k : Int) < (n + 7) / 8 → ∀ Q : Post, (∀ w1, Below w'.heap.size w' w1 → Q .ret [(2, .string (ofL (emptyL n)))] w1) → ∀ ρ : Env, ρ.length = ρ.length →
      msW Try.prog 38 (.int .i64 k) (.int .i64 k) w' (Kn Try.prog [⟨some 23, .convert 38 9 (.tmp 22), 9, none⟩, ⟨some 2, .assign (.tmp 23), 9, none⟩] [2] ρ (some 22) (thenQ Try.prog .ret Q)) := by
    intro hn Q hQ ρ _
    clear more hkk hk
    refine msW_one ty38mkI rfl (by omega) (by omega) (by omega) (by omega) ?_
    simp only [go_sem, ↓reduceIte, reduceCtorEq, Nat.reduceBEq, Nat.reduceEqDiff, Nat.reduceAdd, Nat.reduceMul, Int.reduceNe, Int.reduceEq, Int.reduceLT, Int.reduceLE, Int.reduceNeg, Int.reduceAdd, Int.reduceSub, Int.reduceMul, Int.reduceToNat, beq_self_eq_true, c14, c14S0, c14S1]
    have hb := bytesAt_zeros w' (k : Int).toNat 5
    have e : List.replicate (k : Int).toNat (0 : UInt8) = emptyL n := by unfold emptyL; congr 1; omega
    rw [e] at hb
    exact ⟨emptyL n, by unfold emptyL; rw [List.length_replicate]; omega, hb, hQ _ ((Below.refl _ _).alloc (Nat.le_refl _) _)⟩
  refine ⟨hi, fun h1 => ⟨hi, fun h2 => ⟨fun h3 => more (hkk.1 (.inr ⟨h2, h3⟩)), fun h3 => fin (fun h => ?_) _ (fun w1 hw1 => ?_) _ rfl⟩, fun h2 => fin (fun h => ?_) _ (fun w1 hw1 => ?_) _ rfl⟩, fun h1 => more (hkk.1 (.inl h1))⟩
  · have := hkk.2 h; omega
  · simp only [go_sem, ↓reduceIte, reduceCtorEq, Nat.reduceBEq, Nat.reduceEqDiff, Nat.reduceAdd, Nat.reduceMul, Int.reduceNe, Int.reduceEq, Int.reduceLT, Int.reduceLE, Int.reduceNeg, Int.reduceAdd, Int.reduceSub, Int.reduceMul, Int.reduceToNat, beq_self_eq_true, c14, c14S0, c14S1]; exact hw1
  · have := hkk.2 h; omega
  · simp only [go_sem, ↓reduceIte, reduceCtorEq, Nat.reduceBEq, Nat.reduceEqDiff, Nat.reduceAdd, Nat.reduceMul, Int.reduceNe, Int.reduceEq, Int.reduceLT, Int.reduceLE, Int.reduceNeg, Int.reduceAdd, Int.reduceSub, Int.reduceMul, Int.reduceToNat, beq_self_eq_true, c14, c14S0, c14S1]; exact hw1

/-- The least number from a on, below b, that is not in a set (and 0 and no, if there is none). -/
def IsLow (l : List UInt8) (a b v : Int) (ok : Bool) : Prop :=
  (ok = true ∧ a ≤ v ∧ 0 ≤ v ∧ v < b ∧ v < 8 * l.length ∧ hasL l v = false ∧ ∀ j, a ≤ j → 0 ≤ j → j < v → hasL l j = true) ∨
  (ok = false ∧ v = 0 ∧ ∀ j, a ≤ j → 0 ≤ j → j < b → j < 8 * l.length → hasL l j = true)
theorem IsLow.same {l : List UInt8} {a b v v' : Int} {ok ok' : Bool} (h : IsLow l a b v ok) (h' : IsLow l a b v' ok') : v = v' ∧ ok = ok' := by
  rcases h with ⟨rfl, h1, h2, h3, h4, h5, h6⟩ | ⟨rfl, rfl, h6⟩ <;> rcases h' with ⟨rfl, g1, g2, g3, g4, g5, g6⟩ | ⟨rfl, rfl, g6⟩
  · refine ⟨?_, rfl⟩
    rcases Int.lt_trichotomy v v' with h | h | h
    · have := g6 v h1 h2 h; rw [h5] at this; cases this
    · exact h
    · have := h6 v' g1 g2 h; rw [g5] at this; cases this
  · have := g6 v h1 h2 h3 h4; rw [h5] at this; cases this
  · have := h6 v' g1 g2 g3 g4; rw [g5] at this; cases this
  · exact ⟨rfl, rfl⟩

theorem hasL_255 (l : List UInt8) (i : Int) (h0 : 0 ≤ i) (h1 : i < 8 * l.length) (hb : bN l (i / 8) = 255) : hasL l i = true := by
  have e1 : decide (0 ≤ i) = true := by simpa using h0
  have e2 : decide (i < 8 * (l.length : Int)) = true := by simpa using h1
  have : ∀ k : Fin 8, bitOf 255 k.val = true := by decide
  have := this ⟨(i % 8).toNat, by omega⟩
  simp [hasL, e1, e2, hb, this]

theorem lowest_ok (l : List UInt8) (a b : Int) (w : World) (ha : I64 a) (hb : I64 b) (hl : (l.length : Int) ≤ 140737488355328) :
    Ret Try.prog 16 [.string (ofL l), .int .i64 a, .int .i64 b] w fun v w' => ∃ n ok, v = .tuple #[.int .i64 n, .bool ok] ∧ IsLow l a b n ok ∧ w' = w := by
  obtain ⟨b1, b2⟩ := hb
  obtain ⟨a1, a2⟩ := ha
  refine ent16 _ _ _ _ _ ?_
  simp only [go_sem, ↓reduceIte, reduceCtorEq, Nat.reduceBEq, Nat.reduceEqDiff, Nat.reduceAdd, Nat.reduceMul, Int.reduceNe, Int.reduceEq, Int.reduceLT, Int.reduceLE, Int.reduceNeg, Int.reduceAdd, Int.reduceSub, Int.reduceMul, Int.reduceToNat, beq_self_eq_true, c16, c16S0, c16S1, c16S2, c16S3, c16S4, c16S5]
  refine W_loop (fun i : Int => [(0, .string (ofL l)), (2, .int .i64 b), (8, .int .i64 i)]) (fun i w' => max 0 a ≤ i ∧ i ≤ 9223372036854775807 ∧ (∀ j, a ≤ j → 0 ≤ j → j < i → j < b → j < 8 * l.length → hasL l j = true) ∧ w' = w)
    (fun i => (9223372036854775807 - i).toNat) (max 0 a) (by rfl) ⟨by omega, by omega, fun j h1 h2 h3 => by omega, rfl⟩ ?_
  rintro i w' ⟨hi0, hi1, hall, rfl⟩
  have hii : I64 i := ⟨by omega, by omega⟩
  have i0 : 0 ≤ i := by omega
  have none : (i < b → (l.length : Int) ≤ i / 8) → ∃ n ok, Value.tuple #[.int .i64 0, .bool false] = .tuple #[.int .i64 n, .bool ok] ∧ IsLow l a b n ok := by
    intro h
    refine ⟨0, false, rfl, .inr ⟨rfl, rfl, fun j h1 h2 h3 h4 => ?_⟩⟩
    rcases Int.lt_or_le j i with h5 | h5
    · exact hall j h1 h2 h5 h3 h4
    · have := h (by omega); omega
  have next : ∀ d : Int, 1 ≤ d → d ≤ 8 → i < b → i / 8 < l.length → (∀ j, i ≤ j → j < i + d → j < 8 * l.length → hasL l j = true) →
      ∃ s', [(0, Value.string (ofL l)), (2, Value.int .i64 b), (8, Value.int .i64 (i + d))] = [(0, Value.string (ofL l)), (2, Value.int .i64 b), (8, Value.int .i64 s')] ∧
        (max 0 a ≤ s' ∧ s' ≤ 9223372036854775807 ∧ (∀ j, a ≤ j → 0 ≤ j → j < s' → j < b → j < 8 * l.length → hasL l j = true)) ∧ (9223372036854775807 - s').toNat < (9223372036854775807 - i).toNat := by
    intro d d1 d8 h1 h2 h3
    refine ⟨i + d, rfl, ⟨by omega, by omega, fun j g1 g2 g3 g4 g5 => ?_⟩, by omega⟩
    rcases Int.lt_or_le j i with h5 | h5
    · exact hall j g1 g2 h5 g4 g5
    · exact h3 j h5 g3 g5
  have done : i < b → i / 8 < l.length → hasL l i = false → ∃ n ok, Value.tuple #[.int .i64 i, .bool true] = .tuple #[.int .i64 n, .bool ok] ∧ IsLow l a b n ok := by
    intro h1 h2 h3
    exact ⟨i, true, rfl, .inl ⟨rfl, by omega, i0, h1, by omega, h3, fun j g1 g2 g3 => hall j g1 g2 g3 (by omega) (by omega)⟩⟩
  simp only [go_sem, ↓reduceIte, reduceCtorEq, Nat.reduceBEq, Nat.reduceEqDiff, Nat.reduceAdd, Nat.reduceMul, Int.reduceNe, Int.reduceEq, Int.reduceLT, Int.reduceLE, Int.reduceNeg, Int.reduceAdd, Int.reduceSub, Int.reduceMul, Int.reduceToNat, beq_self_eq_true, c16, c16S0, c16S1, c16S2, c16S3, c16S4, c16S5, c16L0]
  rw [Int.tdiv_eq_ediv_of_nonneg i0, Int.tmod_eq_emod_of_nonneg i0]
  refine ⟨fun h1 => ⟨hii, fun h2 => ⟨fun h3 => ⟨hii, ⟨by omega, h2⟩, fun h4 => ⟨⟨by omega, by omega⟩, ⟨by omega, by omega⟩, ?_⟩, fun h4 => ?_⟩, fun h3 => ?_⟩, fun h2 => ?_⟩, fun h1 => ?_⟩
  · have := next 8 (by omega) (by omega) h1 h2 (fun j g1 g2 g3 => hasL_255 l j (by omega) g3 (by rw [show j / 8 = i / 8 by omega]; exact h4))
    rw [show i + 7 + 1 = i + 8 by omega]
    exact this
  · refine (has_ok l i _ hii).mono ?_
    rintro _ _ ⟨rfl, rfl⟩
    simp only [go_sem, ↓reduceIte, reduceCtorEq, Nat.reduceBEq, Nat.reduceEqDiff, Nat.reduceAdd, Nat.reduceMul, Int.reduceNe, Int.reduceEq, Int.reduceLT, Int.reduceLE, Int.reduceNeg, Int.reduceAdd, Int.reduceSub, Int.reduceMul, Int.reduceToNat, beq_self_eq_true, c16, c16S0, c16S1, c16S2, c16S3, c16S4, c16S5]
    refine ⟨fun h5 => done h1 h2 h5, fun h5 => ⟨⟨by omega, by omega⟩, next 1 (by omega) (by omega) h1 h2 (fun j g1 g2 g3 => by rw [show j = i by omega]; exact h5)⟩⟩
  · refine (has_ok l i _ hii).mono ?_
    rintro _ _ ⟨rfl, rfl⟩
    simp only [go_sem, ↓reduceIte, reduceCtorEq, Nat.reduceBEq, Nat.reduceEqDiff, Nat.reduceAdd, Nat.reduceMul, Int.reduceNe, Int.reduceEq, Int.reduceLT, Int.reduceLE, Int.reduceNeg, Int.reduceAdd, Int.reduceSub, Int.reduceMul, Int.reduceToNat, beq_self_eq_true, c16, c16S0, c16S1, c16S2, c16S3, c16S4, c16S5]
    refine ⟨fun h5 => done h1 h2 h5, fun h5 => ⟨⟨by omega, by omega⟩, next 1 (by omega) (by omega) h1 h2 (fun j g1 g2 g3 => by rw [show j = i by omega]; exact h5)⟩⟩
  · exact none (fun _ => h2)
  · exact none (fun h => by omega)

theorem rlowest_ok (l : List UInt8) (a b : Int) (w : World) (ha : I64 a) (hb : I64 b) (hl : (l.length : Int) ≤ 140737488355328) :
    Ret Try.prog 17 [.string (ofL l), .int .i64 a, .int .i64 b] w fun v w' => ∃ n ok, v = .tuple #[.int .i64 n, .bool ok] ∧ IsLow l a b n ok ∧ w' = w := by
  obtain ⟨b1, b2⟩ := hb
  obtain ⟨a1, a2⟩ := ha
  refine ent17 _ _ _ _ _ ?_
  simp only [go_sem, ↓reduceIte, reduceCtorEq, Nat.reduceBEq, Nat.reduceEqDiff, Nat.reduceAdd, Nat.reduceMul, Int.reduceNe, Int.reduceEq, Int.reduceLT, Int.reduceLE, Int.reduceNeg, Int.reduceAdd, Int.reduceSub, Int.reduceMul, Int.reduceToNat, beq_self_eq_true, c17, c17S0, c17S1, c17S2, c17S3]
  refine W_loop (fun i : Nat => [(0, .string (ofL l)), (1, .int .i64 a), (2, .int .i64 b), (8, .int .i64 (i : Int))]) (fun i w' => (i : Int) ≤ 8 * l.length ∧ (∀ j, a ≤ j → 0 ≤ j → j < (i : Int) → j < b → hasL l j = true) ∧ w' = w)
    (fun i => 8 * l.length - i) 0 (by rfl) ⟨by omega, fun j h1 h2 h3 => by omega, rfl⟩ ?_
  rintro i w' ⟨hi0, hall, rfl⟩
  simp only [go_sem, ↓reduceIte, reduceCtorEq, Nat.reduceBEq, Nat.reduceEqDiff, Nat.reduceAdd, Nat.reduceMul, Int.reduceNe, Int.reduceEq, Int.reduceLT, Int.reduceLE, Int.reduceNeg, Int.reduceAdd, Int.reduceSub, Int.reduceMul, Int.reduceToNat, beq_self_eq_true, c17, c17S0, c17S1, c17S2, c17S3, c17L0]
  have next : (i : Int) < 8 * l.length → (a ≤ i → (i : Int) < b → hasL l i = true) → ∃ s' : Nat, [(0, Value.string (ofL l)), (1, Value.int .i64 a), (2, Value.int .i64 b), (8, Value.int .i64 ((i : Int) + 1))] =
        [(0, Value.string (ofL l)), (1, Value.int .i64 a), (2, Value.int .i64 b), (8, Value.int .i64 (s' : Int))] ∧
      ((s' : Int) ≤ 8 * l.length ∧ ∀ (j : Int), a ≤ j → 0 ≤ j → j < s' → j < b → hasL l j = true) ∧ 8 * l.length - s' < 8 * l.length - i := by
    intro h1 h2
    refine ⟨i + 1, by simp, ⟨by omega, fun j g1 g2 g3 g4 => ?_⟩, by omega⟩
    rcases Int.lt_or_le j i with h5 | h5
    · exact hall j g1 g2 h5 g4
    · have e : j = i := by omega
      subst e; exact h2 g1 g4
  have hi1 : (i : Int) < 8 * l.length → I64 ((i : Int) + 1) := fun _ => ⟨by omega, by omega⟩
  refine ⟨⟨by omega, by omega⟩, fun h1 => ⟨fun h2 => ⟨fun h3 => ?_, fun h3 => ⟨hi1 h1, next h1 (fun _ h => by omega)⟩⟩, fun h2 => ⟨hi1 h1, next h1 (fun h _ => by omega)⟩⟩, fun h1 => ?_⟩
  · refine (rhas_ok l i _ ⟨by omega, by omega⟩).mono ?_
    rintro _ _ ⟨rfl, rfl⟩
    simp only [go_sem, ↓reduceIte, reduceCtorEq, Nat.reduceBEq, Nat.reduceEqDiff, Nat.reduceAdd, Nat.reduceMul, Int.reduceNe, Int.reduceEq, Int.reduceLT, Int.reduceLE, Int.reduceNeg, Int.reduceAdd, Int.reduceSub, Int.reduceMul, Int.reduceToNat, beq_self_eq_true, c17, c17S0, c17S1, c17S2, c17S3]
    refine ⟨fun h5 => ?_, fun h5 => ⟨hi1 h1, next h1 (fun _ _ => h5)⟩⟩
    exact ⟨i, true, rfl, .inl ⟨rfl, h2, by omega, h3, h1, h5, fun j g1 g2 g3 => hall j g1 g2 g3 (by omega)⟩⟩
  · exact ⟨0, false, rfl, .inr ⟨rfl, rfl, fun j g1 g2 g3 g4 => hall j g1 g2 (by omega) g3⟩⟩

theorem rwith_ok (l : List UInt8) (i : Int) (b : Bool) (w : World) (hi : I64 i) (hl : (l.length : Int) ≤ 9223372036854775807) :
    Ret Try.prog 9 [.string (ofL l), .int .i64 i, .bool b] w fun v w' => v = .tuple #[.string (ofL (withL l i b)), .bool (fitsL l i)] ∧ Below w.heap.size w w' := by
  refine ent9 _ _ _ _ _ ?_
  simp only [go_sem, ↓reduceIte, reduceCtorEq, Nat.reduceBEq, Nat.reduceEqDiff, Nat.reduceAdd, Nat.reduceMul, Int.reduceNe, Int.reduceEq, Int.reduceLT, Int.reduceLE, Int.reduceNeg, Int.reduceAdd, Int.reduceSub, Int.reduceMul, Int.reduceToNat, beq_self_eq_true, c9, c9S0, c9S1, c9S2, c9S3]
  have out : ¬ (0 ≤ i ∧ i < 8 * (l.length : Int)) → Value.tuple #[Value.string (ofL l), Value.bool false] = Value.tuple #[Value.string (ofL (withL l i b)), Value.bool (fitsL l i)] ∧ Below w.heap.size w w := by
    intro h
    rw [withL, fitsL, if_neg h, decide_eq_false h]
    exact ⟨rfl, Below.refl _ _⟩
  refine ⟨fun h0 => ?_, fun h0 => out (by omega)⟩
  rw [Int.tdiv_eq_ediv_of_nonneg h0]
  refine ⟨hi, fun h1 => out (by omega), fun h1 => ?_⟩
  have h2 : (0 ≤ i ∧ i < 8 * (l.length : Int)) := by omega
  clear out
  simp only [go_sem, ↓reduceIte, reduceCtorEq, Nat.reduceBEq, Nat.reduceEqDiff, Nat.reduceAdd, Nat.reduceMul, Int.reduceNe, Int.reduceEq, Int.reduceLT, Int.reduceLE, Int.reduceNeg, Int.reduceAdd, Int.reduceSub, Int.reduceMul, Int.reduceToNat, beq_self_eq_true, c9, c9S0, c9S1, c9S2, c9S3, c9S6]
  refine W_loop (fun k : Nat => [(0, .string (ofL l)), (1, .int .i64 i), (2, .bool b), (8, .int .u8 (2 ^ k)), (9, .int .i64 (k : Int))]) (fun k w' => (k : Int) ≤ i % 8 ∧ w' = w) (fun k => 8 - k) 0 (by rfl) ⟨by omega, rfl⟩ ?_
  rintro k w' ⟨hk, rfl⟩
  simp only [go_sem, ↓reduceIte, reduceCtorEq, Nat.reduceBEq, Nat.reduceEqDiff, Nat.reduceAdd, Nat.reduceMul, Int.reduceNe, Int.reduceEq, Int.reduceLT, Int.reduceLE, Int.reduceNeg, Int.reduceAdd, Int.reduceSub, Int.reduceMul, Int.reduceToNat, beq_self_eq_true, c9, c9S0, c9S1, c9S2, c9S3, c9S6, c9L0]
  have hi8 : I64 i := hi
  rw [Int.tmod_eq_emod_of_nonneg h0]
  refine ⟨fun h3 => ⟨⟨by omega, by omega⟩, k + 1, ?_, by omega, by omega⟩, fun h3 => ?_⟩
  · have : (2 : Int) ^ k * 2 ≤ 255 := by
      have : k ≤ 6 := by omega
      have h : ∀ k : Fin 7, (2 : Int) ^ k.val * 2 ≤ 255 := by decide
      exact h ⟨k, by omega⟩
    have h0 : (0 : Int) ≤ 2 ^ k := Int.pow_nonneg (by decide)
    rw [wrap_u8_id _ (by omega) this, ← Int.pow_succ]; simp
  · have hk8 : (i % 8).toNat = k := by omega
    simp only [go_sem, ↓reduceIte, reduceCtorEq, Nat.reduceBEq, Nat.reduceEqDiff, Nat.reduceAdd, Nat.reduceMul, Int.reduceNe, Int.reduceEq, Int.reduceLT, Int.reduceLE, Int.reduceNeg, Int.reduceAdd, Int.reduceSub, Int.reduceMul, Int.reduceToNat, beq_self_eq_true, c9, c9S0, c9S1, c9S2, c9S3, c9S5, c9S6]
    rw [Int.tdiv_eq_ediv_of_nonneg h0]
    refine ⟨hi, ⟨by omega, h1⟩, ?_⟩
    have fin : ∀ n : Int, n = setBit (bN l (i / 8)) (i % 8).toNat b → W Try.prog c9S4 [(0, .string (ofL l)), (1, .int .i64 i), (10, .int .u8 n)] w'
        (finQ Try.prog [.tmp 6, .tmp 7] fun v w2 => v = Value.tuple #[Value.string (ofL (withL l i b)), Value.bool (fitsL l i)] ∧ Below w'.heap.size w' w2) := by
      intro n hn
      simp only [go_sem, ↓reduceIte, reduceCtorEq, Nat.reduceBEq, Nat.reduceEqDiff, Nat.reduceAdd, Nat.reduceMul, Int.reduceNe, Int.reduceEq, Int.reduceLT, Int.reduceLE, Int.reduceNeg, Int.reduceAdd, Int.reduceSub, Int.reduceMul, Int.reduceToNat, beq_self_eq_true, c9, c9S0, c9S1, c9S2, c9S3, c9S4, c9S5, c9S6]
      refine c9draw0 ?_
      simp only [go_sem, ↓reduceIte, reduceCtorEq, Nat.reduceBEq, Nat.reduceEqDiff, Nat.reduceAdd, Nat.reduceMul, Int.reduceNe, Int.reduceEq, Int.reduceLT, Int.reduceLE, Int.reduceNeg, Int.reduceAdd, Int.reduceSub, Int.reduceMul, Int.reduceToNat, beq_self_eq_true, c9, c9S0, c9S1, c9S2, c9S3, c9S4, c9S5, c9S6, c9D0]
      have bd := bN_bd l (i / 8)
      have bd2 := setBit_bd (bN l (i / 8)) (i % 8).toNat b bd.1 bd.2 (by omega)
      rw [← hn] at bd2
      rw [Int.tdiv_eq_ediv_of_nonneg h0]
      refine ⟨hi, ⟨by omega, by omega⟩, hi, ⟨by omega, by omega⟩, ⟨by omega, by omega⟩, ?_⟩
      refine bsW_ones ty38mkI rfl rfl (by decide) (by decide) (by simp [Value.oneCell']) ?_
      simp only [go_sem, ↓reduceIte, reduceCtorEq, Nat.reduceBEq, Nat.reduceEqDiff, Nat.reduceAdd, Nat.reduceMul, Int.reduceNe, Int.reduceEq, Int.reduceLT, Int.reduceLE, Int.reduceNeg, Int.reduceAdd, Int.reduceSub, Int.reduceMul, Int.reduceToNat, beq_self_eq_true, c9, c9S0, c9S1, c9S2, c9S3, c9S4, c9S5, c9S6]
      refine ⟨[UInt8.ofNat n.toNat], rfl, ?_, ?_⟩
      · intro j c hj
        match j, hj with
        | 0, hj =>
          simp only [List.getElem?_cons_zero, Option.some.injEq] at hj; subst hj
          simp only [Addr.add_lit]
          have : (w'.alloc (.cells #[.int .u8 n] 5)).cell? ⟨w'.heap.size, 0, none⟩ = some (.int .u8 n) := by rw [World.cell?_alloc_at _ _ _ _ rfl]; simp
          show (w'.alloc (.cells #[.int .u8 n] 5)).cell? ⟨w'.heap.size, 0, none⟩ = _
          rw [this]; simp; omega
        | j + 1, hj => simp at hj
      · have e : List.take (i / 8).toNat l ++ [UInt8.ofNat n.toNat] ++ List.drop (i / 8 + 1).toNat l = withL l i b := by
          rw [withL, if_pos h2, List.set_eq_take_append_cons_drop, if_pos (by omega), hn, show (i / 8 + 1).toNat = (i / 8).toNat + 1 by omega]
          simp
        have len1 : (List.take (i / 8).toNat l).length = (i / 8).toNat := by rw [List.length_take]; omega
        have len2 : (List.drop (i / 8 + 1).toNat l).length = l.length - (i / 8 + 1).toNat := List.length_drop
        rw [e, fitsL, decide_eq_true h2]
        refine ⟨?_, ?_, rfl, ?_⟩
        · simp only [List.length_append, len1, List.length_cons, List.length_nil]; omega
        · simp only [List.length_append, len1, len2, List.length_cons, List.length_nil]; omega
        · exact (Below.refl _ _).drew.alloc (Nat.le_refl _) _
    refine (rhas_ok l i _ hi).mono ?_
    rintro _ w2 ⟨rfl, rfl⟩
    simp only [go_sem, ↓reduceIte, reduceCtorEq, Nat.reduceBEq, Nat.reduceEqDiff, Nat.reduceAdd, Nat.reduceMul, Int.reduceNe, Int.reduceEq, Int.reduceLT, Int.reduceLE, Int.reduceNeg, Int.reduceAdd, Int.reduceSub, Int.reduceMul, Int.reduceToNat, beq_self_eq_true, c9, c9S0, c9S1, c9S2, c9S3, c9S5, c9S6]
    have bd := bN_bd l (i / 8)
    have hb : hasL l i = bitOf (bN l (i / 8)) (i % 8).toNat := by
      have e1 : decide (0 ≤ i) = true := by simpa using h0
      have e2 : decide (i < 8 * (l.length : Int)) = true := by simp; omega
      simp [hasL, e1, e2]
    have hu : IntKind.u8.wrap (bN l (i / 8) - 2 ^ k) = bN l (i / 8) - 2 ^ k ∨ hasL l i = false := by
      by_cases hh : hasL l i = true
      · left
        have := setBit_bd (bN l (i / 8)) (i % 8).toNat false bd.1 bd.2 (by omega)
        rw [setBit, if_neg (by decide), ← hb, if_pos hh, hk8] at this
        exact wrap_u8_id _ this.1 this.2
      · right; simpa using hh
    have hu2 : IntKind.u8.wrap (bN l (i / 8) + 2 ^ k) = bN l (i / 8) + 2 ^ k ∨ hasL l i = true := by
      by_cases hh : hasL l i = true
      · exact .inr hh
      · left
        have := setBit_bd (bN l (i / 8)) (i % 8).toNat true bd.1 bd.2 (by omega)
        rw [setBit, if_pos rfl, ← hb, if_neg hh, hk8] at this
        exact wrap_u8_id _ this.1 this.2
    refine ⟨fun h5 => ⟨fun h6 => ?_, fun h6 => ?_⟩, fun h5 => ?_⟩
    · refine fin _ ?_
      rw [hu.resolve_right (by rw [h5]; decide), h6, setBit, if_neg (by decide), ← hb, if_pos h5, hk8]
    · refine (rhas_ok l i _ hi).mono ?_
      rintro _ w3 ⟨rfl, rfl⟩
      simp only [go_sem, ↓reduceIte, reduceCtorEq, Nat.reduceBEq, Nat.reduceEqDiff, Nat.reduceAdd, Nat.reduceMul, Int.reduceNe, Int.reduceEq, Int.reduceLT, Int.reduceLE, Int.reduceNeg, Int.reduceAdd, Int.reduceSub, Int.reduceMul, Int.reduceToNat, beq_self_eq_true, c9, c9S0, c9S1, c9S2, c9S3, c9S5, c9S6]
      refine ⟨fun h7 => ?_, fun _ => fin _ ?_⟩
      · rw [h5] at h7; cases h7
      · rw [h6, setBit, if_pos rfl, ← hb, if_pos h5]
    · refine (rhas_ok l i _ hi).mono ?_
      rintro _ w3 ⟨rfl, rfl⟩
      simp only [go_sem, ↓reduceIte, reduceCtorEq, Nat.reduceBEq, Nat.reduceEqDiff, Nat.reduceAdd, Nat.reduceMul, Int.reduceNe, Int.reduceEq, Int.reduceLT, Int.reduceLE, Int.reduceNeg, Int.reduceAdd, Int.reduceSub, Int.reduceMul, Int.reduceToNat, beq_self_eq_true, c9, c9S0, c9S1, c9S2, c9S3, c9S5, c9S6]
      refine ⟨fun _ => ⟨fun h6 => fin _ ?_, fun h6 => fin _ ?_⟩, fun h7 => ?_⟩
      · rw [hu2.resolve_right (by rw [h5]; decide), h6, setBit, if_pos rfl, ← hb, if_neg (by rw [h5]; decide), hk8]
      · rw [h6, setBit, if_neg (by decide), ← hb, if_neg (by rw [h5]; decide)]
      · rw [h5] at h7; cases h7
end Go.Proofs.Ytnhgafpoonnamaa
