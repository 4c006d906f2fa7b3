/- Texts put together by program: L37, L39, L40, L42, L43, L44. -/
import Derived.Test.YtbeoedgoikcbpaaM5
namespace Go.Proofs.Ytbeoedgoikcbpaa
set_option linter.unusedSimpArgs false
set_option linter.unusedVariables false
set_option maxRecDepth 100000
open Go Go.Ann Go.RowKit
theorem row_nil {w : World} : RowS w (.slice none 0 0) [] := ⟨⟨by simp, none, 0, rfl, Nat.le_refl _, fun h => absurd rfl h⟩, fun p hp => by cases hp⟩
theorem search_many {w : World} {l : List OpT} {lv ev : Value} {ob kd budget : Int} (h : RdS w 11 OpT.enc lv l) (hn : (16 : Int) < l.length) :
    Ret Try.prog 12 [.agg #[.int .i64 ob, .int .i64 kd, lv], ev, .int .i64 budget] w fun u w' => u = .tuple #[.agg #[.slice none 0 0, .slice none 0 0, .int .i64 0], .int .i64 34] ∧ Below w.heap.size w w' := by
  obtain ⟨la, lc, rfl, _⟩ := h.form
  refine ent12 _ _ _ _ _ ?_
  have s2 := ((St.start (W0 := w)).box #[.int .i64 ob, .int .i64 kd, .slice la l.length lc] 24).box #[.slice none 0 0, .slice none 0 0, .int .i64 0] 27
  rw [World.size_alloc] at s2
  simp (disch := first | omega | exact okFill_t rfl | exact okSize_t rfl | exact fun h => h | (simp only [World.size_alloc, World.size_drew, World.size_setCell, size_fill, bytesW]; omega)) only [go_sem, ↓reduceIte, reduceCtorEq, Nat.reduceBEq, Nat.reduceEqDiff, Nat.reduceAdd, Nat.reduceMul, Int.reduceNe, Int.reduceEq, Int.reduceLT, Int.reduceLE, Int.reduceNeg, Int.reduceAdd, Int.reduceSub, Int.reduceMul, Int.reduceToNat, beq_self_eq_true, c12, c12S0, c12S1, c12L0, c12S2, c12S3, c12S4, c12S5, c12S6, c12S7, c12L1, c12S8, c12S9, c12S10, c12S11, c12L2, c12S12, c12S13, c12S14, c12S15, c12S16, c12S17, c12S18, c12S19, hn]
  refine bdW_built (cells := #[.slice none 0 0, .slice none 0 0, .int .i64 0]) (by kernel_rfl) ?_
  have q2 := s2.rules 0 rfl
  simp (disch := first | omega | exact okFill_t rfl | exact okSize_t rfl | exact fun h => h | (simp only [World.size_alloc, World.size_drew, World.size_setCell, size_fill, bytesW]; omega)) only [go_sem, ↓reduceIte, reduceCtorEq, Nat.reduceBEq, Nat.reduceEqDiff, Nat.reduceAdd, Nat.reduceMul, Int.reduceNe, Int.reduceEq, Int.reduceLT, Int.reduceLE, Int.reduceNeg, Int.reduceAdd, Int.reduceSub, Int.reduceMul, Int.reduceToNat, beq_self_eq_true, c12, c12S0, c12S1, c12L0, c12S2, c12S3, c12S4, c12S5, c12S6, c12S7, c12L1, c12S8, c12S9, c12S10, c12S11, c12L2, c12S12, c12S13, c12S14, c12S15, c12S16, c12S17, c12S18, c12S19, q2]
  exact (s2.fill 0 rfl (cs := #[.slice none 0 0, .slice none 0 0, .int .i64 0]) rfl).bel
/-- Two searches of one segment have the same summary, and the same error. -/
theorem same_search {w1 w2 : World} {l : List OpT} {E U0 V0 : List (List Int)} {r s : Option (List Spot)} {b : Int} {u v : Value} (hU : Uniq E U0) (hV : Uniq E V0) (h1 : SearchR l (startP l.length U0) b r) (h2 : SearchR l (startP l.length V0) b s) (k1 : SearchV w1 l E U0 r u) (k2 : SearchV w2 l E V0 s v) (hb : Below w1.heap.size w1 w2)
    (hle : E.length ≤ 1000000) (hE : ∀ x ∈ E, x.length ≤ 1000000) (hQ : ∀ T, r = some T → T.length ≤ 1000000 ∧ ∀ p ∈ T, p.2.length ≤ 1000000) :
    ∃ ae ax be bx Ae Ax Be Bx na e, u = .tuple #[.agg #[ae, ax, .int .i64 na], .int .i64 e] ∧ v = .tuple #[.agg #[be, bx, .int .i64 na], .int .i64 e] ∧ RowS w2 ae Ae ∧ RowS w2 ax Ax ∧ RowS w2 be Be ∧ RowS w2 bx Bx ∧ Ae.map Prod.snd = Be.map Prod.snd ∧ Ax.map Prod.snd = Bx.map Prod.snd ∧
      Ae.length ≤ 1000000 ∧ Ax.length ≤ 1000000 ∧ (∀ p ∈ Ae, p.2.length ≤ 1000000) ∧ ∀ p ∈ Ax, p.2.length ≤ 1000000 := by
  have eU := hU.one hV
  subst eU
  have e := h1.one h2
  subst e
  cases r with
  | none =>
    subst k1 k2
    exact ⟨_, _, _, _, [], [], [], [], _, _, rfl, rfl, row_nil, row_nil, row_nil, row_nil, rfl, rfl, by simp, by simp, (fun p hp => by cases hp), fun p hp => by cases hp⟩
  | some T =>
    obtain ⟨ae, ax, Ae, Ax, rfl, a1, a2, a3, a4⟩ := k1
    obtain ⟨be, bx, Be, Bx, rfl, b1, b2, b3, b4⟩ := k2
    have hT := hQ T rfl
    refine ⟨ae, ax, be, bx, Ae, Ax, Be, Bx, _, _, rfl, rfl, a1.below hb, a3.below hb, b1, b3, a2.trans b2.symm, a4.one b4, ?_, ?_, fun p hp => ?_, fun p hp => ?_⟩
    · have h1 := uniq_le hU
      have h2 := congrArg List.length a2
      rw [List.length_map] at h2; omega
    · have h1 := uniq_le a4
      have h2 := List.length_filter_le (fun p : Spot => fullP l p.1) T
      simp only [List.length_map] at h1
      have := hT.1
      omega
    · have : p.2 ∈ Ae.map Prod.snd := List.mem_map.2 ⟨p, hp, rfl⟩
      rw [a2] at this
      exact hE _ ((hU.2 _).1 this)
    · have : p.2 ∈ Ax.map Prod.snd := List.mem_map.2 ⟨p, hp, rfl⟩
      obtain ⟨q, hq, e⟩ := List.mem_map.1 ((a4.2 _).1 this)
      rw [← e]
      exact hT.2 q (List.mem_filter.1 hq).1
/-- What is known of all spots that a search comes to. -/
theorem goP_good {K : Int} {M : Nat} {l : List OpT} {p : Spot} {t : List Spot} {k : Nat} (hK : ∀ o ∈ l, o.Kind = K) (hw : ∀ o ∈ l, o.wf) (hp : Good K M l.length p) (ht : ∀ q ∈ t, Good K M l.length q) : ∀ q ∈ goP l p t k, Good K M l.length q := by
  unfold goP
  split
  · exact ht
  · rename_i o ho
    obtain ⟨hk, rfl⟩ := List.getElem?_eq_some_iff.1 ho
    split
    · rename_i hm
      split
      · rename_i s hs
        intro q hq
        unfold addP at hq
        split at hq
        · exact ht q hq
        · rcases List.mem_append.1 hq with hq | hq
          · exact ht q hq
          · rw [List.mem_singleton] at hq; subst hq
            exact hp.go hk hK hw hm hs
      · exact ht
    · exact ht
theorem bfsN_good {K : Int} {M : Nat} {l : List OpT} {t0 : List Spot} (hK : ∀ o ∈ l, o.Kind = K) (hw : ∀ o ∈ l, o.wf) (h0 : ∀ q ∈ t0, Good K M l.length q) : ∀ N, ∀ q ∈ bfsN l t0 N, Good K M l.length q
  | 0 => h0
  | N + 1 => by
    have ih := bfsN_good hK hw h0 N
    rw [bfsN]
    split
    · rename_i p hp
      have hpg := ih p (List.mem_of_getElem? hp)
      have : ∀ k, ∀ q ∈ roundK l p (bfsN l t0 N) k, Good K M l.length q := by
        intro k
        induction k with
        | zero => exact ih
        | succ k ihk => exact goP_good hK hw hpg ihk
      exact this _
    · exact ih
theorem start_good {K : Int} {M n : Nat} {E U : List (List Int)} (hU : Uniq E U) (hE : ∀ s ∈ E, Ok64 s ∧ s.length ≤ M ∧ (K = 5 → s.Pairwise (· < ·))) : ∀ q ∈ startP n U, Good K M n q := fun q hq => by
  obtain ⟨s, hs, rfl⟩ := List.mem_map.1 hq
  obtain ⟨h1, h2, h3⟩ := hE s ((hU.2 s).1 hs)
  exact ⟨by simp, h1, by simp only; omega, h3⟩
theorem linSearches_ok {w : World} {l : List OpT} {lv ev : Value} {ob kd budget : Int} {D : List VS} (h : RdS w 11 OpT.enc lv l) (hl : (l.length : Int) ≤ 9223372036854775807) (hw : ∀ o ∈ l, o.wf) (hE : RowS w ev D) (h64 : ∀ p ∈ D, Ok64 p.2) (hD : bulkS D ≤ 1048576) (hb : I64 budget) :
    Ret Try.prog 3 [.agg #[.int .i64 ob, .int .i64 kd, lv], ev, .int .i64 budget] w fun u w' => u = .bool true ∧ Below w.heap.size w w' := by
  obtain ⟨la, lc, rfl, _⟩ := h.form
  refine ent3 _ _ _ _ _ ?_
  have s1 := (St.start (W0 := w)).box #[.int .i64 ob, .int .i64 kd, .slice la l.length lc] 24
  by_cases hn : (16 : Int) < l.length
  · have r1 := s1.rules 0 rfl
    have h1 := h.below s1.bel (by decide)
    simp (disch := first | omega | exact okFill_t rfl | exact okSize_t rfl | exact fun h => h | (simp only [World.size_alloc, World.size_drew, World.size_setCell, size_fill, bytesW]; omega)) only [go_sem, ↓reduceIte, reduceCtorEq, Nat.reduceBEq, Nat.reduceEqDiff, Nat.reduceAdd, Nat.reduceMul, Int.reduceNe, Int.reduceEq, Int.reduceLT, Int.reduceLE, Int.reduceNeg, Int.reduceAdd, Int.reduceSub, Int.reduceMul, Int.reduceToNat, beq_self_eq_true, c3, c3S0, c3S1, c3S2, c3S3, c3S4, c3S5, c3S6, c3S7, c3S8, hn]
    refine Ret.mono (search_many h1 hn) ?_
    rintro _ w2 ⟨rfl, b2⟩
    have s2 := (s1.call b2).box #[.slice none 0 0, .slice none 0 0, .int .i64 0] 27
    have r2 := s2.rules 0 rfl
    simp (disch := first | omega | exact okFill_t rfl | exact okSize_t rfl | exact fun h => h | (simp only [World.size_alloc, World.size_drew, World.size_setCell, size_fill, bytesW]; omega)) only [go_sem, ↓reduceIte, reduceCtorEq, Nat.reduceBEq, Nat.reduceEqDiff, Nat.reduceAdd, Nat.reduceMul, Int.reduceNe, Int.reduceEq, Int.reduceLT, Int.reduceLE, Int.reduceNeg, Int.reduceAdd, Int.reduceSub, Int.reduceMul, Int.reduceToNat, beq_self_eq_true, c3, c3S0, c3S1, c3S2, c3S3, c3S4, c3S5, c3S6, c3S7, c3S8]
    refine bdW_built (cells := #[.slice none 0 0, .slice none 0 0, .int .i64 0]) (by kernel_rfl) ?_
    simp (disch := first | omega | exact okFill_t rfl | exact okSize_t rfl | exact fun h => h | (simp only [World.size_alloc, World.size_drew, World.size_setCell, size_fill, bytesW]; omega)) only [go_sem, ↓reduceIte, reduceCtorEq, Nat.reduceBEq, Nat.reduceEqDiff, Nat.reduceAdd, Nat.reduceMul, Int.reduceNe, Int.reduceEq, Int.reduceLT, Int.reduceLE, Int.reduceNeg, Int.reduceAdd, Int.reduceSub, Int.reduceMul, Int.reduceToNat, beq_self_eq_true, c3, c3S0, c3S1, c3S2, c3S3, c3S4, c3S5, c3S6, c3S7, c3S8]
    refine Ret.mono (same_ok row_nil row_nil row_nil row_nil (by simp) (by simp) (fun p hp => by cases hp) (fun p hp => by cases hp)) ?_
    rintro _ w3 ⟨rfl, b3⟩
    have e : (decide ((([] : List VS).map Prod.snd) = (([] : List VS).map Prod.snd)) && (decide ((([] : List VS).map Prod.snd) = (([] : List VS).map Prod.snd)) && decide ((0 : Int) = 0))) = true := by decide
    rw [e]
    simp (disch := first | omega | exact okFill_t rfl | exact okSize_t rfl | exact fun h => h | (simp only [World.size_alloc, World.size_drew, World.size_setCell, size_fill, bytesW]; omega)) only [go_sem, ↓reduceIte, reduceCtorEq, Nat.reduceBEq, Nat.reduceEqDiff, Nat.reduceAdd, Nat.reduceMul, Int.reduceNe, Int.reduceEq, Int.reduceLT, Int.reduceLE, Int.reduceNeg, Int.reduceAdd, Int.reduceSub, Int.reduceMul, Int.reduceToNat, beq_self_eq_true, c3, c3S0, c3S1, c3S2, c3S3, c3S4, c3S5, c3S6, c3S7, c3S8]
    refine Ret.mono (awake_ok w3) ?_
    rintro _ w4 ⟨rfl, b4⟩
    simp (disch := first | omega | exact okFill_t rfl | exact okSize_t rfl | exact fun h => h | (simp only [World.size_alloc, World.size_drew, World.size_setCell, size_fill, bytesW]; omega)) only [go_sem, ↓reduceIte, reduceCtorEq, Nat.reduceBEq, Nat.reduceEqDiff, Nat.reduceAdd, Nat.reduceMul, Int.reduceNe, Int.reduceEq, Int.reduceLT, Int.reduceLE, Int.reduceNeg, Int.reduceAdd, Int.reduceSub, Int.reduceMul, Int.reduceToNat, beq_self_eq_true, c3, c3S0, c3S1, c3S2, c3S3, c3S4, c3S5, c3S6, c3S7, c3S8]
    exact Below.next (Below.next s2.bel b3) b4
  · have r1 := s1.rules 0 rfl
    have h1 := h.below s1.bel (by decide)
    have hE1 := hE.below s1.bel
    simp (disch := first | omega | exact okFill_t rfl | exact okSize_t rfl | exact fun h => h | (simp only [World.size_alloc, World.size_drew, World.size_setCell, size_fill, bytesW]; omega)) only [go_sem, ↓reduceIte, reduceCtorEq, Nat.reduceBEq, Nat.reduceEqDiff, Nat.reduceAdd, Nat.reduceMul, Int.reduceNe, Int.reduceEq, Int.reduceLT, Int.reduceLE, Int.reduceNeg, Int.reduceAdd, Int.reduceSub, Int.reduceMul, Int.reduceToNat, beq_self_eq_true, c3, c3S0, c3S1, c3S2, c3S3, c3S4, c3S5, c3S6, c3S8, hn]
    refine Ret.mono (small_ok h1 hl hE1 hD (by decide)) ?_
    rintro _ w2 ⟨⟨b, rfl, hbt⟩, b2⟩
    have s2 := s1.call b2
    cases b with
    | false =>
      simp (disch := first | omega | exact okFill_t rfl | exact okSize_t rfl | exact fun h => h | (simp only [World.size_alloc, World.size_drew, World.size_setCell, size_fill, bytesW]; omega)) only [go_sem, ↓reduceIte, reduceCtorEq, Nat.reduceBEq, Nat.reduceEqDiff, Nat.reduceAdd, Nat.reduceMul, Int.reduceNe, Int.reduceEq, Int.reduceLT, Int.reduceLE, Int.reduceNeg, Int.reduceAdd, Int.reduceSub, Int.reduceMul, Int.reduceToNat, beq_self_eq_true, c3, c3S0, c3S1, c3S2, c3S3, c3S4, c3S5, c3S6, c3S7, c3S8]
      refine Ret.mono (awake_ok w2) ?_
      rintro _ w3 ⟨rfl, b3⟩
      simp (disch := first | omega | exact okFill_t rfl | exact okSize_t rfl | exact fun h => h | (simp only [World.size_alloc, World.size_drew, World.size_setCell, size_fill, bytesW]; omega)) only [go_sem, ↓reduceIte, reduceCtorEq, Nat.reduceBEq, Nat.reduceEqDiff, Nat.reduceAdd, Nat.reduceMul, Int.reduceNe, Int.reduceEq, Int.reduceLT, Int.reduceLE, Int.reduceNeg, Int.reduceAdd, Int.reduceSub, Int.reduceMul, Int.reduceToNat, beq_self_eq_true, c3, c3S0, c3S1, c3S2, c3S3, c3S4, c3S5, c3S6, c3S7, c3S8]
      exact Below.next s2.bel b3
    | true =>
      obtain ⟨c1, c2, c3, c4, c5⟩ := hbt rfl
      have hEo : ∀ p ∈ D, Ok64 p.2 ∧ p.2.length ≤ 200 ∧ (kd = 5 → p.2.Pairwise (· < ·)) := fun p hp => ⟨h64 p hp, by have := sumL_mem hp; omega, fun h5 => c5 h5 p hp⟩
      have r2 := s2.rules 0 rfl
      simp (disch := first | omega | exact okFill_t rfl | exact okSize_t rfl | exact fun h => h | (simp only [World.size_alloc, World.size_drew, World.size_setCell, size_fill, bytesW]; omega)) only [go_sem, ↓reduceIte, reduceCtorEq, Nat.reduceBEq, Nat.reduceEqDiff, Nat.reduceAdd, Nat.reduceMul, Int.reduceNe, Int.reduceEq, Int.reduceLT, Int.reduceLE, Int.reduceNeg, Int.reduceAdd, Int.reduceSub, Int.reduceMul, Int.reduceToNat, beq_self_eq_true, c3, c3S0, c3S1, c3S2, c3S3, c3S4, c3S5, c3S7, c3S8, r2]
      have hl2 := h.below s2.bel (by decide)
      have hE2 := hE.below s2.bel
      refine Ret.mono (search_ok (K := kd) (M := 200) hl2 (by omega) c2 hw hE2 (by omega) (by decide) hEo hb) ?_
      rintro u w3 ⟨⟨U0, r, hU, hR, hV⟩, b3⟩
      have s3 := s2.call b3
      obtain ⟨ux, ue, rfl⟩ : ∃ x e, u = .tuple #[.agg x, .int .i64 e] := by
        cases r with
        | none => exact ⟨_, _, hV⟩
        | some T => obtain ⟨_, _, _, _, e, _⟩ := hV; exact ⟨_, _, e⟩
      obtain ⟨y1, y2, y3, rfl, hy1, hy2, hy3⟩ : ∃ y1 y2 y3, ux = #[y1, y2, y3] ∧ (∃ a n c, y1 = Value.slice a n c) ∧ (∃ a n c, y2 = Value.slice a n c) ∧ ∃ n, y3 = Value.int .i64 n := by
        cases r with
        | none => simp only [SearchV, Value.tuple.injEq, Array.mk.injEq, List.cons.injEq, Value.agg.injEq] at hV; exact ⟨_, _, _, hV.1, ⟨_, _, _, rfl⟩, ⟨_, _, _, rfl⟩, _, rfl⟩
        | some T =>
          obtain ⟨_, _, _, _, e, g1, _, g2, _⟩ := hV
          simp only [Value.tuple.injEq, Array.mk.injEq, List.cons.injEq, Value.agg.injEq] at e
          obtain ⟨_, _, f1, _⟩ := g1.form
          obtain ⟨_, _, f2, _⟩ := g2.form
          exact ⟨_, _, _, e.1, ⟨_, _, _, f1⟩, ⟨_, _, _, f2⟩, _, rfl⟩
      obtain ⟨ya, yn, yc, rfl⟩ := hy1
      obtain ⟨xa, xn, xc, rfl⟩ := hy2
      obtain ⟨nn, rfl⟩ := hy3
      simp (disch := first | omega | exact okFill_t rfl | exact okSize_t rfl | exact fun h => h | (simp only [World.size_alloc, World.size_drew, World.size_setCell, size_fill, bytesW]; omega)) only [go_sem, ↓reduceIte, reduceCtorEq, Nat.reduceBEq, Nat.reduceEqDiff, Nat.reduceAdd, Nat.reduceMul, Int.reduceNe, Int.reduceEq, Int.reduceLT, Int.reduceLE, Int.reduceNeg, Int.reduceAdd, Int.reduceSub, Int.reduceMul, Int.reduceToNat, beq_self_eq_true, c3, c3S0, c3S1, c3S2, c3S3, c3S4, c3S5, c3S7, c3S8]
      have s4 := s3.box #[.slice ya yn yc, .slice xa xn xc, .int .i64 nn] 27
      have b34 : Below w3.heap.size w3 (w3.alloc (.cells #[.slice ya yn yc, .slice xa xn xc, .int .i64 nn] 27)) := (Below.refl _ _).alloc (Nat.le_refl _) _
      generalize w3.alloc (.cells #[.slice ya yn yc, .slice xa xn xc, .int .i64 nn] 27) = w4 at s4 b34 ⊢
      generalize w3.heap.size = z at s4 ⊢
      have r4 := s4.rules 1 rfl
      simp (disch := first | omega | exact okFill_t rfl | exact okSize_t rfl | exact fun h => h | (simp only [World.size_alloc, World.size_drew, World.size_setCell, size_fill, bytesW]; omega)) only [go_sem, ↓reduceIte, reduceCtorEq, Nat.reduceBEq, Nat.reduceEqDiff, Nat.reduceAdd, Nat.reduceMul, Int.reduceNe, Int.reduceEq, Int.reduceLT, Int.reduceLE, Int.reduceNeg, Int.reduceAdd, Int.reduceSub, Int.reduceMul, Int.reduceToNat, beq_self_eq_true, c3, c3S0, c3S1, c3S2, c3S3, c3S4, c3S5, c3S6, c3S7, c3S8, r4]
      refine Ret.mono (rsearch_ok (K := kd) (M := 200) (h.below s4.bel (by decide)) (by omega) c2 hw (hE.below s4.bel) (by omega) (by decide) hEo hb) ?_
      rintro v w5 ⟨⟨V0, r', hU', hR', hV'⟩, b5⟩
      have s5 := s4.call b5
      have hEl : ∀ x ∈ D.map Prod.snd, Ok64 x ∧ x.length ≤ 200 ∧ (kd = 5 → x.Pairwise (· < ·)) := fun x hx => by
        obtain ⟨p, hp, rfl⟩ := List.mem_map.1 hx
        exact hEo p hp
      obtain ⟨ae, ax, be, bx, Ae, Ax, Be, Bx, na, ne, e1, rfl, k1, k2, k3, k4, k5, k6, k7, k8, k9, k10⟩ := same_search hU hU' hR hR' hV hV' (Below.next b34 b5) (by simp; omega) (fun x hx => by have := (hEl x hx).2.1; omega) (fun T hT => by
        subst hT
        have hT2 := hR.2
        obtain ⟨N, rfl, _⟩ := hR.1
        exact ⟨by omega, fun p hp => (Good.okS (bfsN_good c2 hw (start_good hU hEl) N p hp) (by omega)).2⟩)
      simp only [Value.tuple.injEq, Array.mk.injEq, List.cons.injEq, Value.agg.injEq, Value.int.injEq, true_and, and_true] at e1
      obtain ⟨⟨rfl, rfl, rfl⟩, rfl⟩ := e1
      obtain ⟨b1a, b1c, rfl, _⟩ := k3.form
      obtain ⟨b2a, b2c, rfl, _⟩ := k4.form
      simp (disch := first | omega | exact okFill_t rfl | exact okSize_t rfl | exact fun h => h | (simp only [World.size_alloc, World.size_drew, World.size_setCell, size_fill, bytesW]; omega)) only [go_sem, ↓reduceIte, reduceCtorEq, Nat.reduceBEq, Nat.reduceEqDiff, Nat.reduceAdd, Nat.reduceMul, Int.reduceNe, Int.reduceEq, Int.reduceLT, Int.reduceLE, Int.reduceNeg, Int.reduceAdd, Int.reduceSub, Int.reduceMul, Int.reduceToNat, beq_self_eq_true, c3, c3S0, c3S1, c3S2, c3S3, c3S4, c3S6, c3S7, c3S8]
      have s6 := s5.box #[.slice b1a Be.length b1c, .slice b2a Bx.length b2c, .int .i64 nn] 27
      have b56 : Below w5.heap.size w5 (w5.alloc (.cells #[.slice b1a Be.length b1c, .slice b2a Bx.length b2c, .int .i64 nn] 27)) := (Below.refl _ _).alloc (Nat.le_refl _) _
      generalize w5.alloc (.cells #[.slice b1a Be.length b1c, .slice b2a Bx.length b2c, .int .i64 nn] 27) = w6 at s6 b56 ⊢
      generalize w5.heap.size = z2 at s6 ⊢
      have r6 := s6.rules 0 rfl
      have q6 := s6.rules 1 rfl
      simp (disch := first | omega | exact okFill_t rfl | exact okSize_t rfl | exact fun h => h | (simp only [World.size_alloc, World.size_drew, World.size_setCell, size_fill, bytesW]; omega)) only [go_sem, ↓reduceIte, reduceCtorEq, Nat.reduceBEq, Nat.reduceEqDiff, Nat.reduceAdd, Nat.reduceMul, Int.reduceNe, Int.reduceEq, Int.reduceLT, Int.reduceLE, Int.reduceNeg, Int.reduceAdd, Int.reduceSub, Int.reduceMul, Int.reduceToNat, beq_self_eq_true, c3, c3S0, c3S1, c3S2, c3S3, c3S4, c3S5, c3S6, c3S7, c3S8, r6, q6]
      refine Ret.mono (same_ok (k1.below b56) (k2.below b56) (k3.below b56) (k4.below b56) k7 k8 k9 k10) ?_
      rintro _ w7 ⟨rfl, b7⟩
      have s7 := s6.call b7
      have e : (decide (Ae.map Prod.snd = Be.map Prod.snd) && (decide (Ax.map Prod.snd = Bx.map Prod.snd) && decide (nn = nn))) = true := by
        rw [decide_eq_true k5, decide_eq_true k6, decide_eq_true rfl]; rfl
      rw [e]
      simp (disch := first | omega | exact okFill_t rfl | exact okSize_t rfl | exact fun h => h | (simp only [World.size_alloc, World.size_drew, World.size_setCell, size_fill, bytesW]; omega)) only [go_sem, ↓reduceIte, reduceCtorEq, Nat.reduceBEq, Nat.reduceEqDiff, Nat.reduceAdd, Nat.reduceMul, Int.reduceNe, Int.reduceEq, Int.reduceLT, Int.reduceLE, Int.reduceNeg, Int.reduceAdd, Int.reduceSub, Int.reduceMul, Int.reduceToNat, beq_self_eq_true, c3, c3S0, c3S1, c3S2, c3S3, c3S4, c3S5, c3S6, c3S7, c3S8]
      refine Ret.mono (awake_ok w7) ?_
      rintro _ w8 ⟨rfl, b8⟩
      simp (disch := first | omega | exact okFill_t rfl | exact okSize_t rfl | exact fun h => h | (simp only [World.size_alloc, World.size_drew, World.size_setCell, size_fill, bytesW]; omega)) only [go_sem, ↓reduceIte, reduceCtorEq, Nat.reduceBEq, Nat.reduceEqDiff, Nat.reduceAdd, Nat.reduceMul, Int.reduceNe, Int.reduceEq, Int.reduceLT, Int.reduceLE, Int.reduceNeg, Int.reduceAdd, Int.reduceSub, Int.reduceMul, Int.reduceToNat, beq_self_eq_true, c3, c3S0, c3S1, c3S2, c3S3, c3S4, c3S5, c3S6, c3S7, c3S8]
      exact Below.next s7.bel b8
set_option maxRecDepth 100000 in
theorem linSearches_law {H : Type} {enc : TypeId × Value → H} {w : World} {r r' : Reach} {b b' base base' : Nat} {sp sp' : Nat → Bool} {hd hd' : Bool} {v v' : Value} {d d' : DataW H} {p p' : List MemPlace} {budget : Int}
    (h : Value.okWide Try.prog w r b 24 v) (k : DataW.Trod enc Try.prog w base sp hd 24 v d p) (h' : Value.okWide Try.prog w r' b' 25 v') (k' : DataW.Trod enc Try.prog w base' sp' hd' 25 v' d' p') (hk : Rows.uptoBulk d' ≤ 1048576) (hb : I64 budget) :
    Ret Try.prog 3 [v, v', .int .i64 budget] w fun u w' => u = .bool true ∧ Below w.heap.size w w' := by
  obtain ⟨a, cs, rfl, lv, rfl, q1, q2, q3⟩ := Opens.struct_arg opens_Seg Try.underlying24 h k
  obtain ⟨D, g1, g2, g3⟩ := sts_arg h' k'
  exact linSearches_ok q1 q3 q2 g1 g2 (by omega) hb
end Go.Proofs.Ytbeoedgoikcbpaa
namespace Go.Proofs.Ytbeoedgoikcbpaa
set_option linter.unusedSimpArgs false
set_option linter.unusedVariables false
set_option maxRecDepth 100000
open Go Go.Ann Go.RowKit
/-- The spot that one operation more leads to. -/
def newAt (l : List OpT) (p : Spot) (k : Nat) : List Spot :=
  match l[k]? with
  | none => []
  | some o => if mayP l p.1 k o then (match stepP p.2 o with
    | some s => [(p.1.set k true, s)]
    | none => []) else []
/-- The next spots of a spot, in order. -/
def nextL (l : List OpT) (p : Spot) : Nat → List Spot
  | 0 => []
  | k + 1 => nextL l p k ++ newAt l p k
theorem goP_eq (l : List OpT) (p : Spot) (t : List Spot) (k : Nat) : goP l p t k = (match newAt l p k with | [] => t | q :: _ => addP t q) := by
  unfold goP newAt
  cases l[k]? with
  | none => rfl
  | some o =>
    simp only
    cases mayP l p.1 k o with
    | false => rfl
    | true =>
      simp only [if_true]
      cases stepP p.2 o <;> rfl
theorem newAt_one (l : List OpT) (p : Spot) (k : Nat) : newAt l p k = [] ∨ ∃ q, newAt l p k = [q] := by
  unfold newAt
  split
  · exact .inl rfl
  · split
    · split
      · exact .inr ⟨_, rfl⟩
      · exact .inl rfl
    · exact .inl rfl
theorem addP_mem {t : List Spot} {p q : Spot} : q ∈ addP t p ↔ q ∈ t ∨ q = p := by
  unfold addP
  split
  · rename_i h
    exact ⟨.inl, fun h' => h'.elim id fun e => by rw [e]; exact h⟩
  · rw [List.mem_append, List.mem_singleton]
theorem addP_nodup {t : List Spot} {p : Spot} (h : t.Nodup) : (addP t p).Nodup := by
  unfold addP
  split
  · exact h
  · rename_i hn
    refine List.nodup_append.2 ⟨h, by simp, fun a ha b hb e => ?_⟩
    rw [List.mem_singleton] at hb
    subst hb e
    exact hn ha
theorem roundK_mem {l : List OpT} {p : Spot} {t : List Spot} {q : Spot} : ∀ k, q ∈ roundK l p t k ↔ q ∈ t ∨ q ∈ nextL l p k
  | 0 => by simp [roundK, nextL]
  | k + 1 => by
    have ih := roundK_mem (l := l) (p := p) (t := t) (q := q) k
    rw [roundK, nextL, List.mem_append, goP_eq]
    rcases newAt_one l p k with e | ⟨r, e⟩
    · rw [e, ih]; simp
    · rw [e]
      simp only
      rw [addP_mem, ih, List.mem_singleton, or_assoc]
theorem goP_nodup {l : List OpT} {p : Spot} {t : List Spot} {k : Nat} (h : t.Nodup) : (goP l p t k).Nodup := by
  unfold goP
  split
  · exact h
  · split
    · split
      · exact addP_nodup h
      · exact h
    · exact h
theorem roundK_nodup {l : List OpT} {p : Spot} {t : List Spot} (h : t.Nodup) : ∀ k, (roundK l p t k).Nodup
  | 0 => h
  | k + 1 => goP_nodup (roundK_nodup h k)
theorem bfsN_nodup {l : List OpT} {t0 : List Spot} (h : t0.Nodup) : ∀ N, (bfsN l t0 N).Nodup
  | 0 => h
  | N + 1 => by
    rw [bfsN]; split
    · exact roundK_nodup (bfsN_nodup h N) _
    · exact bfsN_nodup h N
/-- What can be come to. -/
inductive Rch (l : List OpT) : Spot → Spot → Prop
  | refl (p : Spot) : Rch l p p
  | step {p q r : Spot} : Rch l p q → r ∈ nextL l q l.length → Rch l p r
theorem Rch.head {l : List OpT} {p q r : Spot} (h : q ∈ nextL l p l.length) (k : Rch l q r) : Rch l p r := by
  induction k with
  | refl => exact .step (.refl _) h
  | step _ hs ih => exact .step ih hs
theorem Rch.trans {l : List OpT} {p q r : Spot} (h : Rch l p q) (k : Rch l q r) : Rch l p r := by
  induction k with
  | refl => exact h
  | step _ hs ih => exact .step ih hs
theorem Rch.cases_head {l : List OpT} {p r : Spot} (h : Rch l p r) : p = r ∨ ∃ q ∈ nextL l p l.length, Rch l q r := by
  induction h with
  | refl => exact .inl rfl
  | step h1 hs ih =>
    rcases ih with rfl | ⟨q, hq, hr⟩
    · exact .inr ⟨_, hs, .refl _⟩
    · exact .inr ⟨q, hq, .step hr hs⟩
theorem bfsN_rch {l : List OpT} {t0 : List Spot} : ∀ N, ∀ q ∈ bfsN l t0 N, ∃ p ∈ t0, Rch l p q
  | 0 => fun q hq => ⟨q, hq, .refl q⟩
  | N + 1 => by
    intro q hq
    rw [bfsN] at hq
    split at hq
    · rename_i p hp
      rcases (roundK_mem _).1 hq with hq | hq
      · exact bfsN_rch N q hq
      · obtain ⟨p0, h0, hr⟩ := bfsN_rch N p (List.mem_of_getElem? hp)
        exact ⟨p0, h0, .step hr hq⟩
    · exact bfsN_rch N q hq
theorem bfsN_done {l : List OpT} {t0 : List Spot} : ∀ {N i : Nat} {p : Spot}, i < N → (bfsN l t0 N)[i]? = some p → ∀ q ∈ nextL l p l.length, q ∈ bfsN l t0 N
  | 0, i, p, h, _ => by omega
  | N + 1, i, p, h, hp => by
    intro q hq
    have hpre := bfsN_step l t0 N
    rcases Nat.lt_or_ge i N with hi | hi
    · by_cases hl : i < (bfsN l t0 N).length
      · have hp' : (bfsN l t0 N)[i]? = some p := by
          obtain ⟨t, ht⟩ := hpre
          rw [← ht, List.getElem?_append_left hl] at hp
          exact hp
        exact hpre.subset (bfsN_done hi hp' q hq)
      · have hc : bfsN l t0 (N + 1) = bfsN l t0 N := bfsN_closed (by omega) (by omega)
        rw [hc, List.getElem?_eq_none (by omega)] at hp
        cases hp
    · obtain rfl : i = N := by omega
      by_cases hl : i < (bfsN l t0 i).length
      · have hp' : (bfsN l t0 i)[i]? = some p := by
          obtain ⟨t, ht⟩ := hpre
          rw [← ht, List.getElem?_append_left hl] at hp
          exact hp
        rw [bfsN, hp']
        exact (roundK_mem _).2 (.inr hq)
      · have hc : bfsN l t0 (i + 1) = bfsN l t0 i := bfsN_closed (by omega) (by omega)
        rw [hc, List.getElem?_eq_none (by omega)] at hp
        cases hp
/-- A search that ends has come to all that can be come to. -/
theorem closed_mem {l : List OpT} {t0 T : List Spot} (h : ∃ N, bfsN l t0 N = T ∧ T.length ≤ N) (q : Spot) : q ∈ T ↔ ∃ p ∈ t0, Rch l p q := by
  obtain ⟨N, rfl, hN⟩ := h
  refine ⟨bfsN_rch N q, ?_⟩
  rintro ⟨p, hp, hr⟩
  induction hr with
  | refl => exact (bfsN_mono l t0 (Nat.zero_le N)).subset hp
  | step _ hs ih =>
    obtain ⟨i, hi, e⟩ := List.mem_iff_getElem.1 ih
    exact bfsN_done (i := i) (N := N) (Nat.lt_of_lt_of_le hi hN) (by rw [List.getElem?_eq_getElem hi, e]) _ hs
theorem startP_nodup {n : Nat} {E U : List (List Int)} (h : Uniq E U) : (startP n U).Nodup := by
  unfold startP
  have hn := uniq_nodup h
  induction U with
  | nil => simp
  | cons s U ih =>
    rw [List.map_cons]
    obtain ⟨h1, h2⟩ := List.nodup_cons.1 hn
    refine List.nodup_cons.2 ⟨fun hm => ?_, ?_⟩
    · obtain ⟨t, ht, e⟩ := List.mem_map.1 hm
      simp only [Prod.mk.injEq, true_and] at e
      exact h1 (by rw [← e]; exact ht)
    · have : ∀ {U : List (List Int)}, U.Nodup → (U.map fun s => ((List.replicate n false, s) : Spot)).Nodup := by
        intro U
        induction U with
        | nil => intro _; simp
        | cons s U ih =>
          intro hn
          obtain ⟨h1, h2⟩ := List.nodup_cons.1 hn
          rw [List.map_cons]
          refine List.nodup_cons.2 ⟨fun hm => ?_, ih h2⟩
          obtain ⟨t, ht, e⟩ := List.mem_map.1 hm
          simp only [Prod.mk.injEq, true_and] at e
          exact h1 (by rw [← e]; exact ht)
      exact this h2
/-- More than enough changes nothing. -/
theorem SearchR.more {l : List OpT} {t0 T : List Spot} {b c : Int} (h : SearchR l t0 b (some T)) (hc : (T.length : Int) ≤ c) : SearchR l t0 c (some T) := ⟨h.1, hc⟩
theorem SearchR.less {l : List OpT} {t0 T : List Spot} {b c : Int} (h : SearchR l t0 b (some T)) (hc : c < (T.length : Int)) : SearchR l t0 c none := by
  obtain ⟨⟨N, h1, h2⟩, _⟩ := h
  exact ⟨N, by rw [h1]; exact hc⟩
theorem exits_mem {l : List OpT} {T : List Spot} {X : List (List Int)} (h : Uniq ((T.filter fun p => fullP l p.1).map Prod.snd) X) (s : List Int) : s ∈ X ↔ ∃ d, (d, s) ∈ T ∧ fullP l d = true := by
  rw [h.2 s, List.mem_map]
  constructor
  · rintro ⟨⟨d, s'⟩, hp, rfl⟩
    obtain ⟨h1, h2⟩ := List.mem_filter.1 hp
    exact ⟨d, h1, h2⟩
  · rintro ⟨d, h1, h2⟩
    exact ⟨(d, s), List.mem_filter.2 ⟨h1, h2⟩, rfl⟩
theorem RowS.ones {w : World} {v : Value} {D : List VS} (h : RowS w v D) : ∀ u ∈ D.map Prod.fst, u.oneCell' = true := fun u hu => by
  obtain ⟨p, hp, rfl⟩ := List.mem_map.1 hu
  obtain ⟨a, c, e, _⟩ := (h.rd p hp).form
  rw [e]; rfl
end Go.Proofs.Ytbeoedgoikcbpaa
namespace Go.Proofs.Ytbeoedgoikcbpaa
set_option linter.unusedSimpArgs false
set_option linter.unusedVariables false
set_option maxRecDepth 100000
open Go Go.Ann Go.RowKit
theorem SearchV.form {w' : World} {l : List OpT} {E U0 : List (List Int)} {r : Option (List Spot)} {u : Value} (h : SearchV w' l E U0 r u) : ∃ ya yn yc xa xn xc nn ue, u = .tuple #[.agg #[.slice ya yn yc, .slice xa xn xc, .int .i64 nn], .int .i64 ue] ∧ (ue = if r.isSome then 0 else 35) := by
  cases r with
  | none => exact ⟨_, _, _, _, _, _, _, _, h, rfl⟩
  | some T =>
    obtain ⟨_, _, _, _, e, g1, _, g2, _⟩ := h
    obtain ⟨_, _, rfl, _⟩ := g1.form
    obtain ⟨_, _, rfl, _⟩ := g2.form
    exact ⟨_, _, _, _, _, _, _, _, e, rfl⟩
/-- What a summary of a search that came to its end is. -/
theorem SearchV.some {w' : World} {l : List OpT} {E U0 : List (List Int)} {T : List Spot} {ya xa : Option Addr} {yn yc xn xc : Nat} {nn ue : Int} (h : SearchV w' l E U0 (some T) (.tuple #[.agg #[.slice ya yn yc, .slice xa xn xc, .int .i64 nn], .int .i64 ue])) :
    ue = 0 ∧ nn = T.length ∧ ∃ U X, RowS w' (.slice ya yn yc) U ∧ U.map Prod.snd = U0 ∧ RowS w' (.slice xa xn xc) X ∧ Uniq ((T.filter fun p => fullP l p.1).map Prod.snd) (X.map Prod.snd) := by
  obtain ⟨uv, xv, U, X, e, h1, h2, h3, h4⟩ := h
  simp only [Value.tuple.injEq, Array.mk.injEq, List.cons.injEq, Value.agg.injEq, Value.int.injEq, true_and, and_true] at e
  obtain ⟨⟨rfl, rfl, rfl⟩, rfl⟩ := e
  exact ⟨rfl, rfl, U, X, h1, h2, h3, h4⟩
theorem Uniq.len {T : List Spot} {l : List OpT} {X : List VS} (h : Uniq ((T.filter fun p => fullP l p.1).map Prod.snd) (X.map Prod.snd)) : X.length ≤ T.length := by
  have h1 := uniq_le h
  have h2 := List.length_filter_le (fun p : Spot => fullP l p.1) T
  simp only [List.length_map] at h1
  omega
/-- A search of a small segment. -/
theorem small_search {w : World} {l : List OpT} {lv ev : Value} {ob kd budget : Int} {D : List VS} (h : RdS w 11 OpT.enc lv l) (hw : ∀ o ∈ l, o.wf) (hE : RowS w ev D) (h64 : ∀ p ∈ D, Ok64 p.2) (hb : I64 budget) {most : Int} (hm : most ≤ 16)
    (hs : (l.length : Int) ≤ most ∧ (∀ o ∈ l, o.Kind = kd) ∧ D.length ≤ 20 ∧ sumL D ≤ 200 ∧ (kd = 5 → ∀ p ∈ D, p.2.Pairwise (· < ·))) :
    Ret Try.prog 12 [.agg #[.int .i64 ob, .int .i64 kd, lv], ev, .int .i64 budget] w fun u w' => (∃ U0 r, Uniq (D.map Prod.snd) U0 ∧ SearchR l (startP l.length U0) (min budget 32768) r ∧ SearchV w' l (D.map Prod.snd) U0 r u) ∧ Below w.heap.size w w' := by
  obtain ⟨c1, c2, c3, c4, c5⟩ := hs
  exact search_ok (K := kd) (M := 200) h (by omega) c2 hw hE (by omega) (by decide) (fun p hp => ⟨h64 p hp, by have := sumL_mem hp; omega, fun h5 => c5 h5 p hp⟩) hb
theorem small_okS {l : List OpT} {kd : Int} {D : List VS} {U0 : List (List Int)} (hw : ∀ o ∈ l, o.wf) (h64 : ∀ p ∈ D, Ok64 p.2) {most : Int} (hm : most ≤ 16)
    (hs : (l.length : Int) ≤ most ∧ (∀ o ∈ l, o.Kind = kd) ∧ D.length ≤ 20 ∧ sumL D ≤ 200 ∧ (kd = 5 → ∀ p ∈ D, p.2.Pairwise (· < ·))) (hU : Uniq (D.map Prod.snd) U0) : ∀ N, ∀ p ∈ bfsN l (startP l.length U0) N, OkS p.2 := by
  obtain ⟨c1, c2, c3, c4, c5⟩ := hs
  intro N p hp
  refine Good.okS (K := kd) (M := 200) (n := l.length) (bfsN_good c2 hw (start_good hU fun s hs => ?_) N p hp) (by omega)
  obtain ⟨q, hq, rfl⟩ := List.mem_map.1 hs
  exact ⟨h64 q hq, by have := sumL_mem hq; omega, fun h5 => c5 h5 q hq⟩
theorem linBudget_ok {w : World} {l : List OpT} {lv ev : Value} {ob kd more : Int} {D : List VS} (h : RdS w 11 OpT.enc lv l) (hl : (l.length : Int) ≤ 9223372036854775807) (hw : ∀ o ∈ l, o.wf) (hE : RowS w ev D) (h64 : ∀ p ∈ D, Ok64 p.2) (hD : bulkS D ≤ 1048576) (hm : 0 ≤ more ∧ more ≤ 65535) :
    Ret Try.prog 7 [.agg #[.int .i64 ob, .int .i64 kd, lv], ev, .int .u16 more] w fun u w' => u = .bool true ∧ Below w.heap.size w w' := by
  obtain ⟨la, lc, rfl, _⟩ := h.form
  refine ent7 _ _ _ _ _ ?_
  have s1 := (St.start (W0 := w)).box #[.int .i64 ob, .int .i64 kd, .slice la l.length lc] 24
  simp (disch := first | omega | exact okFill_t rfl | exact okSize_t rfl | exact fun h => h | (simp only [World.size_alloc, World.size_drew, World.size_setCell, size_fill, bytesW]; omega)) only [go_sem, ↓reduceIte, reduceCtorEq, Nat.reduceBEq, Nat.reduceEqDiff, Nat.reduceAdd, Nat.reduceMul, Int.reduceNe, Int.reduceEq, Int.reduceLT, Int.reduceLE, Int.reduceNeg, Int.reduceAdd, Int.reduceSub, Int.reduceMul, Int.reduceToNat, beq_self_eq_true, c7, c7S0, c7S1, c7S2, c7S3, c7S4, c7S5, c7S6, c7S7, c7S8, c7S9]
  refine Ret.mono (small_ok (h.below s1.bel (by decide)) hl (hE.below s1.bel) hD (by decide)) ?_
  rintro _ w2 ⟨⟨b, rfl, hbt⟩, b2⟩
  have s2 := s1.call b2
  cases b with
  | false =>
    simp (disch := first | omega | exact okFill_t rfl | exact okSize_t rfl | exact fun h => h | (simp only [World.size_alloc, World.size_drew, World.size_setCell, size_fill, bytesW]; omega)) only [go_sem, ↓reduceIte, reduceCtorEq, Nat.reduceBEq, Nat.reduceEqDiff, Nat.reduceAdd, Nat.reduceMul, Int.reduceNe, Int.reduceEq, Int.reduceLT, Int.reduceLE, Int.reduceNeg, Int.reduceAdd, Int.reduceSub, Int.reduceMul, Int.reduceToNat, beq_self_eq_true, c7, c7S0, c7S1, c7S2, c7S3, c7S4, c7S5, c7S6, c7S7, c7S8, c7S9]
    refine Ret.mono (awake_ok w2) ?_
    rintro _ w3 ⟨rfl, b3⟩
    simp (disch := first | omega | exact okFill_t rfl | exact okSize_t rfl | exact fun h => h | (simp only [World.size_alloc, World.size_drew, World.size_setCell, size_fill, bytesW]; omega)) only [go_sem, ↓reduceIte, reduceCtorEq, Nat.reduceBEq, Nat.reduceEqDiff, Nat.reduceAdd, Nat.reduceMul, Int.reduceNe, Int.reduceEq, Int.reduceLT, Int.reduceLE, Int.reduceNeg, Int.reduceAdd, Int.reduceSub, Int.reduceMul, Int.reduceToNat, beq_self_eq_true, c7, c7S0, c7S1, c7S2, c7S3, c7S4, c7S5, c7S6, c7S7, c7S8, c7S9]
    exact Below.next s2.bel b3
  | true =>
    have hs := hbt rfl
    have r2 := s2.rules 0 rfl
    simp (disch := first | omega | exact okFill_t rfl | exact okSize_t rfl | exact fun h => h | (simp only [World.size_alloc, World.size_drew, World.size_setCell, size_fill, bytesW]; omega)) only [go_sem, ↓reduceIte, reduceCtorEq, Nat.reduceBEq, Nat.reduceEqDiff, Nat.reduceAdd, Nat.reduceMul, Int.reduceNe, Int.reduceEq, Int.reduceLT, Int.reduceLE, Int.reduceNeg, Int.reduceAdd, Int.reduceSub, Int.reduceMul, Int.reduceToNat, beq_self_eq_true, c7, c7S0, c7S1, c7S2, c7S3, c7S4, c7S5, c7S6, c7S7, c7S8, c7S9, r2]
    refine Ret.mono (small_search (h.below s2.bel (by decide)) hw (hE.below s2.bel) h64 (by constructor <;> decide) (by decide) hs) ?_
    rintro u w3 ⟨⟨U0, r, hU, hR, hV⟩, b3⟩
    have s3 := s2.call b3
    obtain ⟨ya, yn, yc, xa, xn, xc, nn, ue, rfl, hue⟩ := hV.form
    cases r with
    | none =>
      have hue : ue = 35 := hue
      subst hue
      have s4 := s3.box #[.slice ya yn yc, .slice xa xn xc, .int .i64 nn] 27
      simp (disch := first | omega | exact okFill_t rfl | exact okSize_t rfl | exact fun h => h | (simp only [World.size_alloc, World.size_drew, World.size_setCell, size_fill, bytesW]; omega)) only [go_sem, ↓reduceIte, reduceCtorEq, Nat.reduceBEq, Nat.reduceEqDiff, Nat.reduceAdd, Nat.reduceMul, Int.reduceNe, Int.reduceEq, Int.reduceLT, Int.reduceLE, Int.reduceNeg, Int.reduceAdd, Int.reduceSub, Int.reduceMul, Int.reduceToNat, beq_self_eq_true, c7, c7S0, c7S1, c7S2, c7S3, c7S4, c7S5, c7S6, c7S7, c7S8, c7S9]
      refine Ret.mono (awake_ok _) ?_
      rintro _ w5 ⟨rfl, b5⟩
      simp (disch := first | omega | exact okFill_t rfl | exact okSize_t rfl | exact fun h => h | (simp only [World.size_alloc, World.size_drew, World.size_setCell, size_fill, bytesW]; omega)) only [go_sem, ↓reduceIte, reduceCtorEq, Nat.reduceBEq, Nat.reduceEqDiff, Nat.reduceAdd, Nat.reduceMul, Int.reduceNe, Int.reduceEq, Int.reduceLT, Int.reduceLE, Int.reduceNeg, Int.reduceAdd, Int.reduceSub, Int.reduceMul, Int.reduceToNat, beq_self_eq_true, c7, c7S0, c7S1, c7S2, c7S3, c7S4, c7S5, c7S6, c7S7, c7S8, c7S9]
      exact Below.next s4.bel b5
    | some T =>
      obtain ⟨rfl, rfl, U, X, hU3, eU, hX3, eX⟩ := SearchV.some hV
      have hT32 : (T.length : Int) ≤ 32768 := by have := hR.2; omega
      have fT : ∀ p ∈ T, OkS p.2 := by
        obtain ⟨⟨N, rfl, _⟩, _⟩ := hR
        exact small_okS hw h64 (by decide) hs hU N
      have s4 := s3.box #[.slice ya yn yc, .slice xa xn xc, .int .i64 T.length] 27
      have b34 : Below w3.heap.size w3 (w3.alloc (.cells #[.slice ya yn yc, .slice xa xn xc, .int .i64 T.length] 27)) := (Below.refl _ _).alloc (Nat.le_refl _) _
      simp (disch := first | omega | exact okFill_t rfl | exact okSize_t rfl | exact fun h => h | (simp only [World.size_alloc, World.size_drew, World.size_setCell, size_fill, bytesW]; omega)) only [go_sem, ↓reduceIte, reduceCtorEq, Nat.reduceBEq, Nat.reduceEqDiff, Nat.reduceAdd, Nat.reduceMul, Int.reduceNe, Int.reduceEq, Int.reduceLT, Int.reduceLE, Int.reduceNeg, Int.reduceAdd, Int.reduceSub, Int.reduceMul, Int.reduceToNat, beq_self_eq_true, c7, c7S0, c7S1, c7S2, c7S3, c7S4, c7S5, c7S6, c7S7, c7S9]
      have hU4 := hU3.below b34
      have hX4 := hX3.below b34
      generalize w3.alloc (.cells #[.slice ya yn yc, .slice xa xn xc, .int .i64 T.length] 27) = w4 at s4 hU4 hX4 ⊢
      generalize w3.heap.size = z4 at s4 ⊢
      have r4 := s4.rules 1 rfl
      have q4 := s4.rules 0 rfl
      have l4 := (s4.low 0 rfl).2
      simp (disch := first | omega | exact okFill_t rfl | exact okSize_t rfl | exact fun h => h | (simp only [World.size_alloc, World.size_drew, World.size_setCell, size_fill, bytesW]; omega)) only [go_sem, ↓reduceIte, reduceCtorEq, Nat.reduceBEq, Nat.reduceEqDiff, Nat.reduceAdd, Nat.reduceMul, Int.reduceNe, Int.reduceEq, Int.reduceLT, Int.reduceLE, Int.reduceNeg, Int.reduceAdd, Int.reduceSub, Int.reduceMul, Int.reduceToNat, beq_self_eq_true, c7, c7S0, c7S1, c7S2, c7S3, c7S4, c7S5, c7S7, c7S8, c7S9, r4, q4]
      refine Ret.mono (small_search (h.below s4.bel (by decide)) hw (hE.below s4.bel) h64 (by constructor <;> omega) (by decide) hs) ?_
      rintro u5 w5 ⟨⟨U5, R5, hUn5, hR5, hV5⟩, b5⟩
      have eU5 := hU.one hUn5
      subst eU5
      obtain rfl : R5 = some T := hR5.one (hR.more (by omega))
      obtain ⟨y5, n5, cp5, x5, m5, e5, nn5, ue5, rfl, _⟩ := hV5.form
      obtain ⟨rfl, rfl, V5, Z5, g5, f5, k5, j5⟩ := SearchV.some hV5
      have s6 := (s4.call b5).box #[.slice y5 n5 cp5, .slice x5 m5 e5, .int .i64 T.length] 27
      have b56 : Below w5.heap.size w5 (w5.alloc (.cells #[.slice y5 n5 cp5, .slice x5 m5 e5, .int .i64 T.length] 27)) := (Below.refl _ _).alloc (Nat.le_refl _) _
      simp (disch := first | omega | exact okFill_t rfl | exact okSize_t rfl | exact fun h => h | (simp only [World.size_alloc, World.size_drew, World.size_setCell, size_fill, bytesW]; omega)) only [go_sem, ↓reduceIte, reduceCtorEq, Nat.reduceBEq, Nat.reduceEqDiff, Nat.reduceAdd, Nat.reduceMul, Int.reduceNe, Int.reduceEq, Int.reduceLT, Int.reduceLE, Int.reduceNeg, Int.reduceAdd, Int.reduceSub, Int.reduceMul, Int.reduceToNat, beq_self_eq_true, c7, c7S0, c7S1, c7S2, c7S3, c7S4, c7S5, c7S7, c7S8, c7S9]
      have hU6 := (hU4.below b5).below b56
      have hX6 := (hX4.below b5).below b56
      have g6 := g5.below b56
      have k6 := k5.below b56
      generalize w5.alloc (.cells #[.slice y5 n5 cp5, .slice x5 m5 e5, .int .i64 T.length] 27) = w6 at s6 hU6 hX6 g6 k6 ⊢
      generalize w5.heap.size = z6 at s6 ⊢
      have r6 := s6.rules 2 rfl
      have q6 := s6.rules 1 rfl
      have em : IntKind.i64.wrap more = more := wrap_i64 _ (by constructor <;> omega)
      simp (disch := first | omega | exact okFill_t rfl | exact okSize_t rfl | exact fun h => h | (simp only [World.size_alloc, World.size_drew, World.size_setCell, size_fill, bytesW]; omega)) only [go_sem, ↓reduceIte, reduceCtorEq, Nat.reduceBEq, Nat.reduceEqDiff, Nat.reduceAdd, Nat.reduceMul, Int.reduceNe, Int.reduceEq, Int.reduceLT, Int.reduceLE, Int.reduceNeg, Int.reduceAdd, Int.reduceSub, Int.reduceMul, Int.reduceToNat, beq_self_eq_true, c7, c7S0, c7S1, c7S2, c7S3, c7S4, c7S6, c7S7, c7S8, c7S9, r6, q6, em]
      refine ⟨by constructor <;> omega, by constructor <;> omega, ?_⟩
      refine Ret.mono (small_search (h.below s6.bel (by decide)) hw (hE.below s6.bel) h64 (by constructor <;> omega) (by decide) hs) ?_
      rintro u7 w7 ⟨⟨U7, R7, hUn7, hR7, hV7⟩, b7⟩
      have eU7 := hU.one hUn7
      subst eU7
      obtain rfl : R7 = some T := hR7.one (hR.more (by omega))
      obtain ⟨y7, n7, cp7, x7, m7, e7, nn7, ue7, rfl, _⟩ := hV7.form
      obtain ⟨rfl, rfl, V7, Z7, g7, f7, k7, j7⟩ := SearchV.some hV7
      have s8 := (s6.call b7).box #[.slice y7 n7 cp7, .slice x7 m7 e7, .int .i64 T.length] 27
      have b78 : Below w7.heap.size w7 (w7.alloc (.cells #[.slice y7 n7 cp7, .slice x7 m7 e7, .int .i64 T.length] 27)) := (Below.refl _ _).alloc (Nat.le_refl _) _
      simp (disch := first | omega | exact okFill_t rfl | exact okSize_t rfl | exact fun h => h | (simp only [World.size_alloc, World.size_drew, World.size_setCell, size_fill, bytesW]; omega)) only [go_sem, ↓reduceIte, reduceCtorEq, Nat.reduceBEq, Nat.reduceEqDiff, Nat.reduceAdd, Nat.reduceMul, Int.reduceNe, Int.reduceEq, Int.reduceLT, Int.reduceLE, Int.reduceNeg, Int.reduceAdd, Int.reduceSub, Int.reduceMul, Int.reduceToNat, beq_self_eq_true, c7, c7S0, c7S1, c7S2, c7S3, c7S4, c7S6, c7S7, c7S8, c7S9]
      have hU8 := (hU6.below b7).below b78
      have hX8 := (hX6.below b7).below b78
      have g8 := (g6.below b7).below b78
      have k8 := (k6.below b7).below b78
      have gg8 := g7.below b78
      have kk8 := k7.below b78
      generalize w7.alloc (.cells #[.slice y7 n7 cp7, .slice x7 m7 e7, .int .i64 T.length] 27) = w8 at s8 hU8 hX8 g8 k8 gg8 kk8 ⊢
      generalize w7.heap.size = z8 at s8 ⊢
      have r8 := s8.rules 3 rfl
      have q8 := s8.rules 2 rfl
      simp (disch := first | omega | exact okFill_t rfl | exact okSize_t rfl | exact fun h => h | (simp only [World.size_alloc, World.size_drew, World.size_setCell, size_fill, bytesW]; omega)) only [go_sem, ↓reduceIte, reduceCtorEq, Nat.reduceBEq, Nat.reduceEqDiff, Nat.reduceAdd, Nat.reduceMul, Int.reduceNe, Int.reduceEq, Int.reduceLT, Int.reduceLE, Int.reduceNeg, Int.reduceAdd, Int.reduceSub, Int.reduceMul, Int.reduceToNat, beq_self_eq_true, c7, c7S0, c7S1, c7S2, c7S3, c7S5, c7S6, c7S7, c7S8, c7S9, r8, q8]
      refine ⟨by constructor <;> omega, ?_⟩
      refine Ret.mono (small_search (h.below s8.bel (by decide)) hw (hE.below s8.bel) h64 (by constructor <;> omega) (by decide) hs) ?_
      rintro u9 w9 ⟨⟨U9, R9, hUn9, hR9, hV9⟩, b9⟩
      have eU9 := hU.one hUn9
      subst eU9
      obtain rfl : R9 = none := hR9.one (hR.less (by omega))
      have hV9 : u9 = .tuple #[.agg #[.slice none 0 0, .slice none 0 0, .int .i64 0], .int .i64 35] := hV9
      subst hV9
      have s10 := (s8.call b9).box #[.slice none 0 0, .slice none 0 0, .int .i64 0] 27
      have b910 : Below w9.heap.size w9 (w9.alloc (.cells #[.slice none 0 0, .slice none 0 0, .int .i64 0] 27)) := (Below.refl _ _).alloc (Nat.le_refl _) _
      simp (disch := first | omega | exact okFill_t rfl | exact okSize_t rfl | exact fun h => h | (simp only [World.size_alloc, World.size_drew, World.size_setCell, size_fill, bytesW]; omega)) only [go_sem, ↓reduceIte, reduceCtorEq, Nat.reduceBEq, Nat.reduceEqDiff, Nat.reduceAdd, Nat.reduceMul, Int.reduceNe, Int.reduceEq, Int.reduceLT, Int.reduceLE, Int.reduceNeg, Int.reduceAdd, Int.reduceSub, Int.reduceMul, Int.reduceToNat, beq_self_eq_true, c7, c7S0, c7S1, c7S2, c7S3, c7S5, c7S6, c7S7, c7S8, c7S9]
      have hU10 := (hU8.below b9).below b910
      have hX10 := (hX8.below b9).below b910
      have g10 := (g8.below b9).below b910
      have k10 := (k8.below b9).below b910
      have gg10 := (gg8.below b9).below b910
      have kk10 := (kk8.below b9).below b910
      generalize w9.alloc (.cells #[.slice none 0 0, .slice none 0 0, .int .i64 0] 27) = w10 at s10 hU10 hX10 g10 k10 gg10 kk10 ⊢
      generalize w9.heap.size = z10 at s10 ⊢
      have r10 := s10.rules 3 rfl
      have q10 := s10.rules 2 rfl
      have p10 := s10.rules 1 rfl
      have lT := Uniq.len eX
      have l5 := Uniq.len j5
      have l7 := Uniq.len j7
      have eX5 : Z5.map Prod.snd = X.map Prod.snd := j5.one eX
      have eX7 : Z7.map Prod.snd = X.map Prod.snd := j7.one eX
      have bound : ∀ {Z : List VS}, Z.map Prod.snd = X.map Prod.snd → ∀ p ∈ Z, p.2.length ≤ 1000000 := fun hz p hp => by
        have : p.2 ∈ X.map Prod.snd := by rw [← hz]; exact List.mem_map.2 ⟨p, hp, rfl⟩
        obtain ⟨q, hq, e⟩ := List.mem_map.1 ((eX.2 _).1 this)
        rw [← e]
        exact (fT q (List.mem_filter.1 hq).1).2
      have boundU : ∀ {V : List VS}, V.map Prod.snd = U0 → (∀ p ∈ V, p.2.length ≤ 1000000) ∧ V.length ≤ 1000000 := fun hv => by
        have hs4 := hs.2.2.2.1
        have hs3 := hs.2.2.1
        refine ⟨fun p hp => ?_, ?_⟩
        · have : p.2 ∈ U0 := by rw [← hv]; exact List.mem_map.2 ⟨p, hp, rfl⟩
          obtain ⟨q, hq, e⟩ := List.mem_map.1 ((hU.2 _).1 this)
          rw [← e]
          have := sumL_mem hq
          omega
        · have h1 := uniq_le hU
          have h2 := congrArg List.length hv
          simp only [List.length_map] at h1 h2
          omega
      simp (disch := first | omega | exact okFill_t rfl | exact okSize_t rfl | exact fun h => h | (simp only [World.size_alloc, World.size_drew, World.size_setCell, size_fill, bytesW]; omega)) only [go_sem, ↓reduceIte, reduceCtorEq, Nat.reduceBEq, Nat.reduceEqDiff, Nat.reduceAdd, Nat.reduceMul, Int.reduceNe, Int.reduceEq, Int.reduceLT, Int.reduceLE, Int.reduceNeg, Int.reduceAdd, Int.reduceSub, Int.reduceMul, Int.reduceToNat, beq_self_eq_true, c7, c7S0, c7S1, c7S2, c7S3, c7S4, c7S5, c7S6, c7S7, c7S8, c7S9, r10, q10, p10]
      refine Ret.mono (same_ok g10 k10 hU10 hX10 (boundU f5).2 (by omega) (boundU f5).1 (bound eX5)) ?_
      rintro _ w11 ⟨rfl, b11⟩
      have s11 := s10.call b11
      have r11 := s11.rules 3 rfl
      have q11 := s11.rules 1 rfl
      have ee5 : (decide (V5.map Prod.snd = U.map Prod.snd) && (decide (Z5.map Prod.snd = X.map Prod.snd) && decide ((T.length : Int) = T.length))) = true := by
        rw [decide_eq_true (f5.trans eU.symm), decide_eq_true eX5, decide_eq_true rfl]; rfl
      rw [ee5]
      simp (disch := first | omega | exact okFill_t rfl | exact okSize_t rfl | exact fun h => h | (simp only [World.size_alloc, World.size_drew, World.size_setCell, size_fill, bytesW]; omega)) only [go_sem, ↓reduceIte, reduceCtorEq, Nat.reduceBEq, Nat.reduceEqDiff, Nat.reduceAdd, Nat.reduceMul, Int.reduceNe, Int.reduceEq, Int.reduceLT, Int.reduceLE, Int.reduceNeg, Int.reduceAdd, Int.reduceSub, Int.reduceMul, Int.reduceToNat, beq_self_eq_true, c7, c7S0, c7S1, c7S2, c7S3, c7S4, c7S5, c7S6, c7S7, c7S8, c7S9, r11, q11]
      refine Ret.mono (same_ok (gg10.below b11) (kk10.below b11) (hU10.below b11) (hX10.below b11) (boundU f7).2 (by omega) (boundU f7).1 (bound eX7)) ?_
      rintro _ w12 ⟨rfl, b12⟩
      have s12 := s11.call b12
      have ee7 : (decide (V7.map Prod.snd = U.map Prod.snd) && (decide (Z7.map Prod.snd = X.map Prod.snd) && decide ((T.length : Int) = T.length))) = true := by
        rw [decide_eq_true (f7.trans eU.symm), decide_eq_true eX7, decide_eq_true rfl]; rfl
      rw [ee7]
      simp (disch := first | omega | exact okFill_t rfl | exact okSize_t rfl | exact fun h => h | (simp only [World.size_alloc, World.size_drew, World.size_setCell, size_fill, bytesW]; omega)) only [go_sem, ↓reduceIte, reduceCtorEq, Nat.reduceBEq, Nat.reduceEqDiff, Nat.reduceAdd, Nat.reduceMul, Int.reduceNe, Int.reduceEq, Int.reduceLT, Int.reduceLE, Int.reduceNeg, Int.reduceAdd, Int.reduceSub, Int.reduceMul, Int.reduceToNat, beq_self_eq_true, c7, c7S0, c7S1, c7S2, c7S3, c7S4, c7S5, c7S6, c7S7, c7S8, c7S9]
      refine Ret.mono (awake_ok w12) ?_
      rintro _ w13 ⟨rfl, b13⟩
      simp (disch := first | omega | exact okFill_t rfl | exact okSize_t rfl | exact fun h => h | (simp only [World.size_alloc, World.size_drew, World.size_setCell, size_fill, bytesW]; omega)) only [go_sem, ↓reduceIte, reduceCtorEq, Nat.reduceBEq, Nat.reduceEqDiff, Nat.reduceAdd, Nat.reduceMul, Int.reduceNe, Int.reduceEq, Int.reduceLT, Int.reduceLE, Int.reduceNeg, Int.reduceAdd, Int.reduceSub, Int.reduceMul, Int.reduceToNat, beq_self_eq_true, c7, c7S0, c7S1, c7S2, c7S3, c7S4, c7S5, c7S6, c7S7, c7S8, c7S9]
      exact Below.next s12.bel b13
set_option maxRecDepth 100000 in
theorem linBudget_law {H : Type} {enc : TypeId × Value → H} {w : World} {r r' : Reach} {b b' base base' : Nat} {sp sp' : Nat → Bool} {hd hd' : Bool} {v v' : Value} {d d' : DataW H} {p p' : List MemPlace} {more : Int}
    (h : Value.okWide Try.prog w r b 24 v) (k : DataW.Trod enc Try.prog w base sp hd 24 v d p) (h' : Value.okWide Try.prog w r' b' 25 v') (k' : DataW.Trod enc Try.prog w base' sp' hd' 25 v' d' p') (hk : Rows.uptoBulk d' ≤ 1048576) (hm : (Lit.int .u16 more).wf = true) :
    Ret Try.prog 7 [v, v', .int .u16 more] w fun u w' => u = .bool true ∧ Below w.heap.size w w' := by
  obtain ⟨a, cs, rfl, lv, rfl, q1, q2, q3⟩ := Opens.struct_arg opens_Seg Try.underlying24 h k
  obtain ⟨D, g1, g2, g3⟩ := sts_arg h' k'
  refine linBudget_ok q1 q3 q2 g1 g2 (by omega) ?_
  unfold Lit.wf at hm
  simp [IntKind.min, IntKind.max, IntKind.signed, IntKind.bits] at hm
  omega
end Go.Proofs.Ytbeoedgoikcbpaa
namespace Go.Proofs.Ytbeoedgoikcbpaa
set_option linter.unusedSimpArgs false
set_option linter.unusedVariables false
set_option maxRecDepth 100000
open Go Go.Ann Go.RowKit
/-- All ways on from a spot, at most m operations long. -/
def allP (l : List OpT) : Nat → Spot → List Spot
  | 0, p => [p]
  | m + 1, p => p :: (nextL l p l.length).flatMap (allP l m)
def ordP (l : List OpT) (m : Nat) (p : Spot) : List (List Int) := ((allP l m p).filter fun q => fullP l q.1).map Prod.snd
def undone (d : List Bool) : Nat := d.count false
def pth : Nat → Nat
  | 0 => 1
  | m + 1 => 1 + (m + 1) * pth m
theorem newAt_mem {l : List OpT} {p q : Spot} {k : Nat} (hl : p.1.length = l.length) (h : q ∈ newAt l p k) : ∃ h : k < l.length, p.1[k] = false ∧ q.1 = p.1.set k true ∧ mayP l p.1 k l[k] = true ∧ stepP p.2 l[k] = some q.2 := by
  unfold newAt at h
  split at h
  · cases h
  · rename_i o ho
    obtain ⟨hk, rfl⟩ := List.getElem?_eq_some_iff.1 ho
    split at h
    · rename_i hm
      split at h
      · rename_i s hs
        rw [List.mem_singleton] at h
        subst h
        refine ⟨hk, ?_, rfl, hm, hs⟩
        have hm2 := hm
        unfold mayP at hm2
        rw [Bool.and_eq_true, Bool.not_eq_true'] at hm2
        have h1 := hm2.1
        rw [List.getD_eq_getElem?_getD, List.getElem?_eq_getElem (by omega)] at h1
        exact h1
      · cases h
    · cases h
theorem nextL_mem {l : List OpT} {p q : Spot} (hl : p.1.length = l.length) : ∀ {k : Nat}, q ∈ nextL l p k → q.1.length = l.length ∧ undone q.1 + 1 = undone p.1
  | 0, h => by cases h
  | k + 1, h => by
    rw [nextL] at h
    rcases List.mem_append.1 h with h | h
    · exact nextL_mem hl h
    · obtain ⟨hk, e, e2, _⟩ := newAt_mem hl h
      rw [e2]
      refine ⟨by rw [List.length_set]; exact hl, ?_⟩
      unfold undone
      have hp : 0 < p.1.count false := List.count_pos_iff.2 (by rw [← e]; exact List.getElem_mem _)
      rw [List.count_set (by omega), e]
      simp
      omega
theorem nextL_len {l : List OpT} {p : Spot} (hl : p.1.length = l.length) : ∀ k, (nextL l p k).length ≤ (p.1.take k).count false
  | 0 => by simp [nextL]
  | k + 1 => by
    have ih := nextL_len (l := l) (p := p) hl k
    rw [nextL, List.length_append]
    rcases newAt_one l p k with e | ⟨q, e⟩
    · rw [e]
      have : (p.1.take k).count false ≤ (p.1.take (k + 1)).count false := List.Sublist.count_le _ (List.take_prefix_take_left (by omega)).sublist
      simp only [List.length_nil]; omega
    · obtain ⟨hk, h0, _⟩ := newAt_mem (q := q) hl (by rw [e]; simp)
      rw [e, List.take_succ_eq_append_getElem (by omega), List.count_append, h0]
      simp
      omega
theorem flatLe {α β : Type} {f : α → List β} {c : Nat} : ∀ {l : List α}, (∀ a ∈ l, (f a).length ≤ c) → (l.flatMap f).length ≤ l.length * c
  | [], _ => by simp
  | a :: l, h => by
    have ih := flatLe (l := l) fun x hx => h x (List.mem_cons_of_mem _ hx)
    have h1 := h a (List.mem_cons_self ..)
    rw [List.flatMap_cons, List.length_append, List.length_cons, Nat.add_mul]
    omega
theorem allP_len {l : List OpT} : ∀ {m : Nat} {p : Spot}, p.1.length = l.length → undone p.1 ≤ m → (allP l m p).length ≤ pth m
  | 0, p, _, _ => by simp [allP, pth]
  | m + 1, p, hl, hm => by
    rw [allP, pth, List.length_cons]
    have h1 := flatLe (f := allP l m) (c := pth m) (l := nextL l p l.length) fun q hq => by
      obtain ⟨h1, h2⟩ := nextL_mem hl hq
      exact allP_len h1 (by omega)
    have h2 := nextL_len hl l.length
    rw [← hl, List.take_length, hl] at h2
    have h3 : (nextL l p l.length).length * pth m ≤ (m + 1) * pth m := Nat.mul_le_mul_right _ (by unfold undone at hm; omega)
    omega
theorem nextL_none {l : List OpT} {p : Spot} (hl : p.1.length = l.length) (h : undone p.1 = 0) : nextL l p l.length = [] := by
  have h2 := nextL_len hl l.length
  rw [← hl, List.take_length, hl] at h2
  exact List.eq_nil_of_length_eq_zero (by unfold undone at h; omega)
theorem allP_mem {l : List OpT} : ∀ {m : Nat} {p q : Spot}, p.1.length = l.length → undone p.1 ≤ m → (q ∈ allP l m p ↔ Rch l p q)
  | 0, p, q, hl, hm => by
    rw [allP, List.mem_singleton]
    constructor
    · rintro rfl; exact .refl _
    · intro h
      rcases h.cases_head with h | ⟨r, hr, _⟩
      · exact h.symm
      · rw [nextL_none hl (by omega)] at hr; cases hr
  | m + 1, p, q, hl, hm => by
    rw [allP, List.mem_cons, List.mem_flatMap]
    constructor
    · rintro (rfl | ⟨r, hr, h⟩)
      · exact .refl _
      · obtain ⟨h1, h2⟩ := nextL_mem hl hr
        exact .head hr ((allP_mem h1 (by omega)).1 h)
    · intro h
      rcases h.cases_head with h | ⟨r, hr, h⟩
      · exact .inl h.symm
      · obtain ⟨h1, h2⟩ := nextL_mem hl hr
        exact .inr ⟨r, hr, (allP_mem h1 (by omega)).2 h⟩
theorem ordP_zero {l : List OpT} {p : Spot} : ordP l 0 p = if fullP l p.1 then [p.2] else [] := by
  unfold ordP allP
  cases h : fullP l p.1 <;> simp [h]
theorem ordP_succ {l : List OpT} {m : Nat} {p : Spot} : ordP l (m + 1) p = (if fullP l p.1 then [p.2] else []) ++ (nextL l p l.length).flatMap (ordP l m) := by
  have e : ((nextL l p l.length).flatMap (allP l m)).filter (fun q => fullP l q.1) = (nextL l p l.length).flatMap fun q => (allP l m q).filter fun q => fullP l q.1 := by
    rw [List.filter_flatMap]
  unfold ordP
  rw [allP, List.filter_cons]
  cases h : fullP l p.1
  · simp only [Bool.false_eq_true, if_false, List.nil_append]
    rw [e, List.map_flatMap]
  · simp only [if_true, List.map_cons, List.singleton_append]
    rw [e, List.map_flatMap]
theorem ordP_len {l : List OpT} {m : Nat} {p : Spot} (hl : p.1.length = l.length) (hm : undone p.1 ≤ m) : (ordP l m p).length ≤ pth m := by
  unfold ordP
  rw [List.length_map]
  exact Nat.le_trans (List.length_filter_le ..) (allP_len hl hm)
theorem ordP_mem {l : List OpT} {m : Nat} {p : Spot} (hl : p.1.length = l.length) (hm : undone p.1 ≤ m) (s : List Int) : s ∈ ordP l m p ↔ ∃ d, Rch l p (d, s) ∧ fullP l d = true := by
  unfold ordP
  rw [List.mem_map]
  constructor
  · rintro ⟨⟨d, s'⟩, hp, rfl⟩
    obtain ⟨h1, h2⟩ := List.mem_filter.1 hp
    exact ⟨d, (allP_mem hl hm).1 h1, h2⟩
  · rintro ⟨d, h1, h2⟩
    exact ⟨(d, s), List.mem_filter.2 ⟨(allP_mem hl hm).2 h1, h2⟩, rfl⟩
/-- How many spots there are at most. -/
theorem bfsN_few {l : List OpT} {m : Nat} {p : Spot} (hl : p.1.length = l.length) (hm : undone p.1 ≤ m) (N : Nat) : (bfsN l [p] N).length ≤ pth m :=
  Nat.le_trans (nodup_le (bfsN_nodup (by simp) N) fun q hq => by
    obtain ⟨r, hr, h⟩ := bfsN_rch N q hq
    rw [List.mem_singleton] at hr
    subst hr
    exact (allP_mem hl hm).2 h) (allP_len hl hm)
end Go.Proofs.Ytbeoedgoikcbpaa
namespace Go.Proofs.Ytbeoedgoikcbpaa
set_option linter.unusedSimpArgs false
set_option linter.unusedVariables false
set_option maxRecDepth 100000
open Go Go.Ann Go.RowKit
theorem ordP_any {l : List OpT} {m : Nat} {p : Spot} (hl : p.1.length = l.length) (hm : undone p.1 ≤ m) : ordP l m p = (if fullP l p.1 then [p.2] else []) ++ (nextL l p l.length).flatMap (ordP l (m - 1)) := by
  cases m with
  | zero => rw [nextL_none hl (by omega), ordP_zero]; simp
  | succ m => exact ordP_succ
theorem vs_join {W0 w : World} {F : Nat → Prop} {L : List Res} {I : List Inv} {X D : List VS} (h : St W0 w F L (Inv.vs X :: I)) (hr : ∀ p ∈ D, RdS w 1 intE p.1 p.2) (hf : ∀ p ∈ D, ∀ k, slFoot p.1 k → ¬ F k ∧ ∀ r ∈ L, r.own ≠ some k) : St W0 w F L (Inv.vs (X ++ D) :: I) := by
  have hD := h.inv _ (List.mem_cons_self ..)
  refine (h.inv_sub (I' := I) fun a ha => List.mem_cons_of_mem _ ha).keep (Inv.vs (X ++ D)) (fun p hp => ?_) fun k hk => ?_
  · rcases List.mem_append.1 hp with hp | hp
    · exact hD.1 p hp
    · exact hr p hp
  · obtain ⟨p, hp, hk⟩ := hk
    rcases List.mem_append.1 hp with hp | hp
    · exact hD.2 k ⟨p, hp, hk⟩
    · exact ⟨(hr p hp).footLt (by decide) hk, hf p hp k hk⟩
theorem pth_le : ∀ m, m ≤ 5 → pth m ≤ 326 := by decide
theorem rorders_ok {l : List OpT} {lv : Value} {K : Int} {M : Nat} (hn : l.length ≤ 16) (hK : ∀ o ∈ l, o.Kind = K) (hw : ∀ o ∈ l, o.wf) (hM : M ≤ 100000) (m : Nat) : m ≤ 5 → ∀ (w : World) (d : List Bool) (s : List Int) (dv sv : Value), RdS w 11 OpT.enc lv l → RdS w 1 boolE dv d → RdS w 1 intE sv s → Good K M l.length (d, s) → undone d ≤ m →
    Ret Try.prog 20 [lv, dv, sv] w fun u w' => (∃ D : List VS, RowS w' u D ∧ D.map Prod.snd = ordP l m (d, s) ∧ ∀ p ∈ D, ∀ k, slFoot p.1 k → slFoot sv k ∨ w.heap.size ≤ k) ∧ Below w.heap.size w w' := by
  induction m using Nat.strongRecOn with
  | ind m ih =>
  intro hm5 w d s dv sv h hd hs hg hu
  obtain ⟨la, lc, rfl, _⟩ := h.form
  obtain ⟨da, dc, rfl, _⟩ := hd.form
  obtain ⟨sa, sc, rfl, _⟩ := hs.form
  have gd : d.length = l.length := hg.len
  refine ent20 _ _ _ _ _ ?_
  simp (disch := first | omega | exact okFill_t rfl | exact okSize_t rfl | exact fun h => h | (simp only [World.size_alloc, World.size_drew, World.size_setCell, size_fill, bytesW]; omega)) only [go_sem, ↓reduceIte, reduceCtorEq, Nat.reduceBEq, Nat.reduceEqDiff, Nat.reduceAdd, Nat.reduceMul, Int.reduceNe, Int.reduceEq, Int.reduceLT, Int.reduceLE, Int.reduceNeg, Int.reduceAdd, Int.reduceSub, Int.reduceMul, Int.reduceToNat, beq_self_eq_true, c20, c20S0, c20S1, c20S2, c20S3, c20S4, c20S5, c20S6, c20L0, c20S7, c20S8]
  refine Ret.mono (rfull_ok h hd gd hn) ?_
  rintro _ w1 ⟨rfl, e1⟩
  subst w1
  have nl : ∀ k, ((nextL l (d, s) k).flatMap (ordP l (m - 1))).length ≤ 16 * 326 := fun k => by
    have h1 := flatLe (f := ordP l (m - 1)) (c := 326) (l := nextL l (d, s) k) fun q hq => by
      obtain ⟨g1, g2⟩ := nextL_mem gd hq
      have g2 : undone q.1 + 1 = undone d := g2
      exact Nat.le_trans (ordP_len g1 (by omega)) (pth_le _ (by omega))
    have h2 := nextL_len (l := l) (p := (d, s)) gd k
    have h3 : ((d, s).1.take k).count false ≤ ((d, s).1.take k).length := List.count_le_length
    rw [List.length_take] at h3
    have h4 : (nextL l (d, s) k).length * 326 ≤ 16 * 326 := Nat.mul_le_mul_right _ (by simp only at h2 h3; omega)
    omega
  have hsl : s.length ≤ 1000000 := (hg.okS (by omega)).2
  have rest : ∀ (w2 : World) (X : List VS) (xv : Value), St w w2 (fun _ => False) [.row xv 36 1 X.length (X.map Prod.fst)] [Inv.vs X] → X.map Prod.snd = (if fullP l d then [s] else []) → (∀ p ∈ X, ∀ k, slFoot p.1 k → slFoot (.slice sa s.length sc) k ∨ w.heap.size ≤ k) →
      W Try.prog (c20S8 ()) [(0, .slice la l.length lc), (1, .slice da d.length dc), (2, .slice sa s.length sc), (7, xv)] w2 (finQ Try.prog [.tmp 6] fun u w' => (∃ D : List VS, RowS w' u D ∧ D.map Prod.snd = ordP l m (d, s) ∧ ∀ p ∈ D, ∀ k, slFoot p.1 k → slFoot (.slice sa s.length sc) k ∨ w.heap.size ≤ k) ∧ Below w.heap.size w w') := fun w2 X xv s2 eX fX => by
    simp (disch := first | omega | exact okFill_t rfl | exact okSize_t rfl | exact fun h => h | (simp only [World.size_alloc, World.size_drew, World.size_setCell, size_fill, bytesW]; omega)) only [go_sem, ↓reduceIte, reduceCtorEq, Nat.reduceBEq, Nat.reduceEqDiff, Nat.reduceAdd, Nat.reduceMul, Int.reduceNe, Int.reduceEq, Int.reduceLT, Int.reduceLE, Int.reduceNeg, Int.reduceAdd, Int.reduceSub, Int.reduceMul, Int.reduceToNat, beq_self_eq_true, c20, c20S0, c20S1, c20S2, c20S3, c20S4, c20S5, c20S6, c20L0, c20S7, c20S8]
    refine W_loopU (fun x : Nat × List VS × Value => [(7, x.2.2), (8, .int .i64 x.1)]) (fun x w' => St w w' (fun _ => False) [.row x.2.2 36 1 x.2.1.length (x.2.1.map Prod.fst)] [Inv.vs x.2.1] ∧ x.1 ≤ l.length ∧ x.2.1.map Prod.snd = (if fullP l d then [s] else []) ++ (nextL l (d, s) x.1).flatMap (ordP l (m - 1)) ∧ ∀ p ∈ x.2.1, ∀ k, slFoot p.1 k → slFoot (.slice sa s.length sc) k ∨ w.heap.size ≤ k) (fun x => l.length - x.1) (0, X, xv) rfl ⟨s2, Nat.zero_le _, by rw [eX]; simp [nextL], fX⟩ ?_
    rintro ⟨i, Y, yv⟩ w3 ⟨s3, hi, eY, fY⟩
    simp only at s3 hi eY fY
    obtain ⟨ya, yc, rfl, _⟩ := own_slice (s3.row 0 rfl)
    have hY : Y.length ≤ 6000 := by
      have h1 := congrArg List.length eY
      have h2 := nl i
      rw [List.length_map, List.length_append] at h1
      have : (if fullP l d then [s] else [] : List (List Int)).length ≤ 1 := by split <;> simp
      omega
    by_cases hlt : i < l.length
    · have hlt' : (i : Int) < l.length := by omega
      have h3 := h.below s3.bel (by decide)
      have hd3 := hd.below s3.bel (by decide)
      simp (disch := first | omega | exact okFill_t rfl | exact okSize_t rfl | exact fun h => h | (simp only [World.size_alloc, World.size_drew, World.size_setCell, size_fill, bytesW]; omega)) only [go_sem, ↓reduceIte, reduceCtorEq, Nat.reduceBEq, Nat.reduceEqDiff, Nat.reduceAdd, Nat.reduceMul, Int.reduceNe, Int.reduceEq, Int.reduceLT, Int.reduceLE, Int.reduceNeg, Int.reduceAdd, Int.reduceSub, Int.reduceMul, Int.reduceToNat, beq_self_eq_true, c20, c20S0, c20S1, c20S2, c20S3, c20S4, c20S5, c20S6, c20L0, c20S7, c20S8, c20L0, hlt']
      refine Ret.mono (rmay_ok h3 hd3 gd hlt hn) ?_
      rintro _ w4 ⟨rfl, b4⟩
      have s4 := s3.call b4
      have lk : l[i]? = some l[i] := List.getElem?_eq_getElem hlt
      have hmem := List.getElem_mem hlt
      cases hmy : mayP l d i l[i] with
      | false =>
        simp (disch := first | omega | exact okFill_t rfl | exact okSize_t rfl | exact fun h => h | (simp only [World.size_alloc, World.size_drew, World.size_setCell, size_fill, bytesW]; omega)) only [go_sem, ↓reduceIte, reduceCtorEq, Nat.reduceBEq, Nat.reduceEqDiff, Nat.reduceAdd, Nat.reduceMul, Int.reduceNe, Int.reduceEq, Int.reduceLT, Int.reduceLE, Int.reduceNeg, Int.reduceAdd, Int.reduceSub, Int.reduceMul, Int.reduceToNat, beq_self_eq_true, c20, c20S0, c20S1, c20S2, c20S3, c20S4, c20S5, c20S6, c20L0, c20S7, c20S8]
        refine ⟨⟨by omega, by omega⟩, (i + 1, Y, .slice ya Y.length yc), rfl, ⟨s4, by simp only; omega, ?_, fY⟩, by simp only; omega⟩
        have eN : newAt l (d, s) i = [] := by unfold newAt; rw [lk]; simp [hmy]
        simp only
        rw [nextL, eN, List.append_nil]
        exact eY
      | true =>
        have h4 := h.below s4.bel (by decide)
        have hs4 := hs.below s4.bel (by decide)
        obtain ⟨p, rfl⟩ := h.ptr (by omega)
        have eo := h4.at OpT.len hlt
        simp (disch := first | omega | exact okFill_t rfl | exact okSize_t rfl | exact fun h => h | (simp only [World.size_alloc, World.size_drew, World.size_setCell, size_fill, bytesW]; omega)) only [go_sem, ↓reduceIte, reduceCtorEq, Nat.reduceBEq, Nat.reduceEqDiff, Nat.reduceAdd, Nat.reduceMul, Int.reduceNe, Int.reduceEq, Int.reduceLT, Int.reduceLE, Int.reduceNeg, Int.reduceAdd, Int.reduceSub, Int.reduceMul, Int.reduceToNat, beq_self_eq_true, c20, c20S0, c20S1, c20S2, c20S3, c20S4, c20S5, c20S6, c20L0, c20S7, c20S8, eo, OpT.len]
        refine ⟨⟨by omega, by omega⟩, Ret.mono (rstep_ok _ s l[i] _ hs4 hsl (fun e => hg.ris ((hK _ hmem).symm.trans e))) ?_⟩
        rintro _ w5 ⟨⟨t, okk, rfl, hm⟩, b5⟩
        have s5 := s4.call b5
        cases hst : stepP s l[i] with
        | none =>
          rw [hst] at hm
          have hm : okk = false := hm
          subst hm
          simp (disch := first | omega | exact okFill_t rfl | exact okSize_t rfl | exact fun h => h | (simp only [World.size_alloc, World.size_drew, World.size_setCell, size_fill, bytesW]; omega)) only [go_sem, ↓reduceIte, reduceCtorEq, Nat.reduceBEq, Nat.reduceEqDiff, Nat.reduceAdd, Nat.reduceMul, Int.reduceNe, Int.reduceEq, Int.reduceLT, Int.reduceLE, Int.reduceNeg, Int.reduceAdd, Int.reduceSub, Int.reduceMul, Int.reduceToNat, beq_self_eq_true, c20, c20S0, c20S1, c20S2, c20S3, c20S4, c20S5, c20S6, c20L0, c20S7, c20S8]
          refine ⟨⟨by omega, by omega⟩, (i + 1, Y, .slice ya Y.length yc), rfl, ⟨s5, by simp only; omega, ?_, fY⟩, by simp only; omega⟩
          have eN : newAt l (d, s) i = [] := by unfold newAt; rw [lk]; simp [hmy, hst]
          simp only
          rw [nextL, eN, List.append_nil]
          exact eY
        | some s' =>
          rw [hst] at hm
          obtain ⟨rfl, h5, f5⟩ := hm
          have gN : Good K M l.length (d.set i true, s') := hg.go hlt hK hw hmy hst
          have eN : newAt l (d, s) i = [(d.set i true, s')] := by unfold newAt; rw [lk]; simp [hmy, hst]
          have uN : undone (d.set i true) + 1 = undone d := (nextL_mem (l := l) (k := i + 1) (p := (d, s)) gd (q := (d.set i true, s')) (by rw [nextL, eN]; simp)).2
          obtain ⟨tb, tc, rfl, _⟩ := h5.form
          simp (disch := first | omega | exact okFill_t rfl | exact okSize_t rfl | exact fun h => h | (simp only [World.size_alloc, World.size_drew, World.size_setCell, size_fill, bytesW]; omega)) only [go_sem, ↓reduceIte, reduceCtorEq, Nat.reduceBEq, Nat.reduceEqDiff, Nat.reduceAdd, Nat.reduceMul, Int.reduceNe, Int.reduceEq, Int.reduceLT, Int.reduceLE, Int.reduceNeg, Int.reduceAdd, Int.reduceSub, Int.reduceMul, Int.reduceToNat, beq_self_eq_true, c20, c20S0, c20S1, c20S2, c20S3, c20S4, c20S5, c20S6, c20L0, c20S7, c20S8]
          refine bsW_none ty41mkI ?_
          have u1 := (St.start (W0 := w5)).emptyRow 4 1
          simp (disch := first | omega | exact okFill_t rfl | exact okSize_t rfl | exact fun h => h | (simp only [World.size_alloc, World.size_drew, World.size_setCell, size_fill, bytesW]; omega)) only [go_sem, ↓reduceIte, reduceCtorEq, Nat.reduceBEq, Nat.reduceEqDiff, Nat.reduceAdd, Nat.reduceMul, Int.reduceNe, Int.reduceEq, Int.reduceLT, Int.reduceLE, Int.reduceNeg, Int.reduceAdd, Int.reduceSub, Int.reduceMul, Int.reduceToNat, beq_self_eq_true, c20, c20S0, c20S1, c20S2, c20S3, c20S4, c20S5, c20S6, c20L0, c20S7, c20S8]
          refine u1.append 0 rfl ty41mkI rfl (by decide) (hd.below (Below.next s5.bel u1.bel) (by decide)) (by intro u hu; obtain ⟨x, _, hx⟩ := List.mem_flatMap.1 hu; simp only [boolE, List.mem_singleton] at hx; subst hx; rfl) (by omega) (by omega) ?_
          intro v7 w7 u7 _
          simp only [List.set_cons_zero, List.nil_append, Nat.zero_add] at u7
          obtain ⟨a7, d7, rfl, _⟩ := own_slice (u7.row 0 rfl)
          obtain ⟨g7, rfl⟩ := own_ptr (u7.row 0 rfl) (by omega)
          have c7 := own_cell (u7.row 0 rfl)
          have dk : (d.flatMap boolE)[i]? = some (.bool (d[i]'(by omega))) := by
            rw [bool_map, List.getElem?_map, List.getElem?_eq_getElem (by omega)]; rfl
          have ck := c7.1 i _ dk
          have fk := c7.2 i
          have hlt2 : (i : Int) < d.length := by omega
          simp (disch := first | omega | exact okFill_t rfl | exact okSize_t rfl | exact fun h => h | (simp only [World.size_alloc, World.size_drew, World.size_setCell, size_fill, bytesW]; omega)) only [go_sem, ↓reduceIte, reduceCtorEq, Nat.reduceBEq, Nat.reduceEqDiff, Nat.reduceAdd, Nat.reduceMul, Int.reduceNe, Int.reduceEq, Int.reduceLT, Int.reduceLE, Int.reduceNeg, Int.reduceAdd, Int.reduceSub, Int.reduceMul, Int.reduceToNat, beq_self_eq_true, c20, c20S0, c20S1, c20S2, c20S3, c20S4, c20S5, c20S6, c20L0, c20S7, c20S8, ck, fk, hlt2]
          have u9 := u7.put 0 rfl i (.bool true)
          refine ⟨by omega, ?_⟩
          generalize w7.setCell ⟨g7, i, none⟩ (.bool true) = w9 at u9 ⊢
          have s9 := s5.call u9.bel
          have hd9 : RdS w9 1 boolE (.slice (some ⟨g7, 0, none⟩) d.length d7) (d.set i true) := by
            refine RdS.of_own' (u9.row 0 rfl) (d.set i true) (by simp) ?_
            rw [bool_map, bool_map, List.map_set]
          refine Ret.mono (ih (m - 1) (by omega) (by omega) w9 (d.set i true) s' _ _ (h.below s9.bel (by decide)) hd9 (h5.below u9.bel (by decide)) gN (by omega)) ?_
          rintro u w10 ⟨⟨D, hD, eD, fD⟩, b10⟩
          have lowY := (s3.res _ (List.mem_cons_self ..)).1.lt
          have z4 := b4.size
          have z5 := b5.size
          have z9 := u9.bel.size
          have z3 := s3.size
          have s11 := vs_join (s9.call b10) hD.rd (fun p hp k hk => ⟨id, fun r hr e => by
            rw [List.mem_singleton] at hr
            subst hr
            have l1 := lowY k e
            rcases fD p hp k hk with h1 | h1
            · rcases f5 k h1 with h2 | h2
              · have := hs.footLt (by decide) h2; omega
              · omega
            · omega⟩)
          have hDl : D.length ≤ 326 := by
            have h1 := congrArg List.length eD
            rw [List.length_map] at h1
            have h2 := ordP_len (l := l) (m := m - 1) (p := (d.set i true, s')) gN.len (by simp only; omega)
            have h3 := pth_le (m - 1) (by omega)
            omega
          obtain ⟨ua, uc, rfl, _⟩ := hD.form
          simp (disch := first | omega | exact okFill_t rfl | exact okSize_t rfl | exact fun h => h | (simp only [World.size_alloc, World.size_drew, World.size_setCell, size_fill, bytesW]; omega)) only [go_sem, ↓reduceIte, reduceCtorEq, Nat.reduceBEq, Nat.reduceEqDiff, Nat.reduceAdd, Nat.reduceMul, Int.reduceNe, Int.reduceEq, Int.reduceLT, Int.reduceLE, Int.reduceNeg, Int.reduceAdd, Int.reduceSub, Int.reduceMul, Int.reduceToNat, beq_self_eq_true, c20, c20S0, c20S1, c20S2, c20S3, c20S4, c20S5, c20S6, c20L0, c20S7, c20S8]
          refine s11.append 0 rfl ty25mkI rfl (by decide) hD.row hD.ones (by omega) (by omega) ?_
          intro v12 w12 s12 _
          simp only [List.set_cons_zero] at s12
          rw [← List.length_append, ← List.map_append] at s12
          simp (disch := first | omega | exact okFill_t rfl | exact okSize_t rfl | exact fun h => h | (simp only [World.size_alloc, World.size_drew, World.size_setCell, size_fill, bytesW]; omega)) only [go_sem, ↓reduceIte, reduceCtorEq, Nat.reduceBEq, Nat.reduceEqDiff, Nat.reduceAdd, Nat.reduceMul, Int.reduceNe, Int.reduceEq, Int.reduceLT, Int.reduceLE, Int.reduceNeg, Int.reduceAdd, Int.reduceSub, Int.reduceMul, Int.reduceToNat, beq_self_eq_true, c20, c20S0, c20S1, c20S2, c20S3, c20S4, c20S5, c20S6, c20L0, c20S7, c20S8]
          refine ⟨⟨by omega, by omega⟩, (i + 1, Y ++ D, v12), rfl, ⟨s12, by simp only; omega, ?_, ?_⟩, by simp only; omega⟩
          · simp only
            rw [List.map_append, eY, eD, nextL, eN, List.flatMap_append, List.append_assoc]
            simp
          · intro p hp k hk
            rcases List.mem_append.1 hp with hp | hp
            · exact fY p hp k hk
            · rcases fD p hp k hk with h1 | h1
              · rcases f5 k h1 with h2 | h2
                · exact .inl h2
                · exact .inr (by omega)
              · exact .inr (by omega)
    · have hlt' : ¬ (i : Int) < l.length := by omega
      obtain rfl : i = l.length := by omega
      simp (disch := first | omega | exact okFill_t rfl | exact okSize_t rfl | exact fun h => h | (simp only [World.size_alloc, World.size_drew, World.size_setCell, size_fill, bytesW]; omega)) only [go_sem, ↓reduceIte, reduceCtorEq, Nat.reduceBEq, Nat.reduceEqDiff, Nat.reduceAdd, Nat.reduceMul, Int.reduceNe, Int.reduceEq, Int.reduceLT, Int.reduceLE, Int.reduceNeg, Int.reduceAdd, Int.reduceSub, Int.reduceMul, Int.reduceToNat, beq_self_eq_true, c20, c20S0, c20S1, c20S2, c20S3, c20S4, c20S5, c20S6, c20L0, c20S7, c20S8, c20L0, hlt']
      refine ⟨⟨Y, ⟨Rd.of_own (s3.row 0 rfl), s3.get 0 rfl⟩, ?_, fY⟩, s3.bel⟩
      rw [eY, ordP_any gd hu]
  cases hf : fullP l d with
  | true =>
    simp (disch := first | omega | exact okFill_t rfl | exact okSize_t rfl | exact fun h => h | (simp only [World.size_alloc, World.size_drew, World.size_setCell, size_fill, bytesW]; omega)) only [go_sem, ↓reduceIte, reduceCtorEq, Nat.reduceBEq, Nat.reduceEqDiff, Nat.reduceAdd, Nat.reduceMul, Int.reduceNe, Int.reduceEq, Int.reduceLT, Int.reduceLE, Int.reduceNeg, Int.reduceAdd, Int.reduceSub, Int.reduceMul, Int.reduceToNat, beq_self_eq_true, c20, c20S0, c20S1, c20S2, c20S3, c20S4, c20S5, c20S6, c20L0, c20S7]
    have h1 : ∀ u ∈ [Value.slice sa s.length sc], u.oneCell' = true := fun u hu => by rw [List.mem_singleton] at hu; subst hu; rfl
    refine bsW_ones ty25mkI rfl rfl (by decide) (by decide) h1 ?_
    simp (disch := first | omega | exact okFill_t rfl | exact okSize_t rfl | exact fun h => h | (simp only [World.size_alloc, World.size_drew, World.size_setCell, size_fill, bytesW]; omega)) only [go_sem, ↓reduceIte, reduceCtorEq, Nat.reduceBEq, Nat.reduceEqDiff, Nat.reduceAdd, Nat.reduceMul, Int.reduceNe, Int.reduceEq, Int.reduceLT, Int.reduceLE, Int.reduceNeg, Int.reduceAdd, Int.reduceSub, Int.reduceMul, Int.reduceToNat, beq_self_eq_true, c20, c20S0, c20S1, c20S2, c20S3, c20S4, c20S5, c20S6, c20L0, c20S7]
    have s1 := ((St.start (W0 := w)).nilRow 36 1).alloc' (.cells #[.slice sa s.length sc] 36)
    refine s1.append 0 rfl ty25mkI rfl (by decide) (rd_new (sz := 1) (n := 1) rfl) h1 (by omega) (by omega) ?_
    intro v2 w2 s2 _
    simp only [List.set_cons_zero, List.nil_append, Nat.zero_add] at s2
    obtain ⟨a2, d2, rfl, _⟩ := own_slice (s2.row 0 rfl)
    simp (disch := first | omega | exact okFill_t rfl | exact okSize_t rfl | exact fun h => h | (simp only [World.size_alloc, World.size_drew, World.size_setCell, size_fill, bytesW]; omega)) only [go_sem, ↓reduceIte, reduceCtorEq, Nat.reduceBEq, Nat.reduceEqDiff, Nat.reduceAdd, Nat.reduceMul, Int.reduceNe, Int.reduceEq, Int.reduceLT, Int.reduceLE, Int.reduceNeg, Int.reduceAdd, Int.reduceSub, Int.reduceMul, Int.reduceToNat, beq_self_eq_true, c20, c20S0, c20S1, c20S2, c20S3, c20S4, c20S5, c20S6, c20L0, c20S7]
    refine rest _ [(.slice sa s.length sc, s)] _ (vs_old s2 fun p hp => ?_) ?_ ?_
    · rw [List.mem_singleton] at hp; subst hp; exact hs
    · rw [hf]; rfl
    · intro p hp k hk
      rw [List.mem_singleton] at hp; subst hp; exact .inl hk
  | false =>
    simp (disch := first | omega | exact okFill_t rfl | exact okSize_t rfl | exact fun h => h | (simp only [World.size_alloc, World.size_drew, World.size_setCell, size_fill, bytesW]; omega)) only [go_sem, ↓reduceIte, reduceCtorEq, Nat.reduceBEq, Nat.reduceEqDiff, Nat.reduceAdd, Nat.reduceMul, Int.reduceNe, Int.reduceEq, Int.reduceLT, Int.reduceLE, Int.reduceNeg, Int.reduceAdd, Int.reduceSub, Int.reduceMul, Int.reduceToNat, beq_self_eq_true, c20, c20S0, c20S1, c20S2, c20S3, c20S4, c20S5, c20S6, c20L0, c20S7]
    refine rest _ [] _ ?_ ?_ ?_
    · exact vs_old ((St.start (W0 := w)).nilRow 36 1) (fun p hp => by cases hp)
    · rw [hf]; rfl
    · intro p hp; cases hp
end Go.Proofs.Ytbeoedgoikcbpaa
namespace Go.Proofs.Ytbeoedgoikcbpaa
set_option linter.unusedSimpArgs false
set_option linter.unusedVariables false
set_option maxRecDepth 100000
open Go Go.Ann Go.RowKit Go.WideShapes
theorem rising_okN {w : World} {v : Value} {s : List Int} (h : RdS w 1 intE v s) (hl : (s.length : Int) ≤ 9223372036854775807) :
    Ret Try.prog 67 [v] w fun u w' => Tells u (s.Pairwise (· < ·)) ∧ Below w.heap.size w w' := by
  obtain ⟨a, c, rfl, _⟩ := h.form
  refine ent67 _ _ _ ?_
  simp (disch := first | omega | exact okFill_t rfl | exact okSize_t rfl | exact fun h => h | (simp only [World.size_alloc, World.size_drew, World.size_setCell, size_fill, bytesW]; omega)) only [go_sem, ↓reduceIte, reduceCtorEq, Nat.reduceBEq, Nat.reduceEqDiff, Nat.reduceAdd, Nat.reduceMul, Int.reduceNe, Int.reduceEq, Int.reduceLT, Int.reduceLE, Int.reduceNeg, Int.reduceAdd, Int.reduceSub, Int.reduceMul, Int.reduceToNat, beq_self_eq_true, c67, c67S0, c67S1, c67S2, c67L0, c67S3]
  refine W_loopU (fun k : Nat => [(3, .int .i64 k)]) (fun k w' => Below w.heap.size w w' ∧ 1 ≤ k ∧ (s.take k).Pairwise (· < ·)) (fun k => s.length - k) 1 rfl ⟨Below.refl _ _, Nat.le_refl _, ?_⟩ ?_
  · cases s with
    | nil => simp
    | cons x s => simp
  rintro k w2 ⟨b2, hk, hp⟩
  by_cases hlt : k < s.length
  · have hlt' : (k : Int) < s.length := by omega
    obtain ⟨p, rfl⟩ := h.ptr (by omega)
    have h2 := h.below b2 (by decide)
    obtain ⟨j, rfl⟩ : ∃ j, k = j + 1 := ⟨k - 1, by omega⟩
    have e1 := RdS.int h2 hlt
    have e0 := RdS.int h2 (show j < s.length by omega)
    have e2 : w2.cell? ⟨p.block, p.off + (j + 1), none⟩ = some (.int .i64 s[j + 1]) := by
      have h3 := e1
      rw [show p.add (j + 1) = ⟨p.block, p.off + (j + 1), none⟩ by rw [Addr.add, if_neg (by omega)]] at h3
      exact h3
    have t1 : ((j : Int) + 1).toNat = j + 1 := by omega
    have t0 : ((j : Int) + 1 - 1).toNat = j := by omega
    simp (disch := first | omega | exact okFill_t rfl | exact okSize_t rfl | exact fun h => h | (simp only [World.size_alloc, World.size_drew, World.size_setCell, size_fill, bytesW]; omega)) only [go_sem, ↓reduceIte, reduceCtorEq, Nat.reduceBEq, Nat.reduceEqDiff, Nat.reduceAdd, Nat.reduceMul, Int.reduceNe, Int.reduceEq, Int.reduceLT, Int.reduceLE, Int.reduceNeg, Int.reduceAdd, Int.reduceSub, Int.reduceMul, Int.reduceToNat, beq_self_eq_true, c67, c67S0, c67S1, c67S2, c67L0, c67S3, c67L0]
    refine ⟨fun _ => ?_, fun h => by omega⟩
    refine c67draw0 ?_
    simp (disch := first | omega | exact okFill_t rfl | exact okSize_t rfl | exact fun h => h | (simp only [World.size_alloc, World.size_drew, World.size_setCell, size_fill, bytesW]; omega)) only [go_sem, ↓reduceIte, reduceCtorEq, Nat.reduceBEq, Nat.reduceEqDiff, Nat.reduceAdd, Nat.reduceMul, Int.reduceNe, Int.reduceEq, Int.reduceLT, Int.reduceLE, Int.reduceNeg, Int.reduceAdd, Int.reduceSub, Int.reduceMul, Int.reduceToNat, beq_self_eq_true, c67, c67S0, c67S1, c67S2, c67L0, c67S3, c67D0, t1, t0, e1, e0, e2]
    have et : s.take (j + 2) = s.take (j + 1) ++ [s[j + 1]] := List.take_succ_eq_append_getElem hlt
    refine ⟨⟨by omega, by omega⟩, ⟨by omega, by omega⟩, ⟨by omega, by omega⟩, fun hge => ⟨tells_f, b2.drew⟩, fun hlt2 => ⟨⟨by omega, by omega⟩, j + 2, rfl, ⟨b2.drew, by omega, ?_⟩, by omega⟩⟩
    rw [et]
    refine List.pairwise_append.2 ⟨hp, by simp, fun a ha b hb => ?_⟩
    rw [List.mem_singleton] at hb; subst hb
    rw [List.take_succ_eq_append_getElem (by omega), List.mem_append, List.mem_singleton] at ha
    rw [List.take_succ_eq_append_getElem (by omega)] at hp
    rcases ha with ha | rfl
    · have := (List.pairwise_append.1 hp).2.2 a ha _ (List.mem_singleton.2 rfl)
      omega
    · omega
  · have hlt' : ¬ (k : Int) < s.length := by omega
    simp (disch := first | omega | exact okFill_t rfl | exact okSize_t rfl | exact fun h => h | (simp only [World.size_alloc, World.size_drew, World.size_setCell, size_fill, bytesW]; omega)) only [go_sem, ↓reduceIte, reduceCtorEq, Nat.reduceBEq, Nat.reduceEqDiff, Nat.reduceAdd, Nat.reduceMul, Int.reduceNe, Int.reduceEq, Int.reduceLT, Int.reduceLE, Int.reduceNeg, Int.reduceAdd, Int.reduceSub, Int.reduceMul, Int.reduceToNat, beq_self_eq_true, c67, c67S0, c67S1, c67S2, c67L0, c67S3, c67L0, hlt']
    rw [List.take_of_length_le (by omega)] at hp
    exact ⟨tells_t hp, b2⟩
theorem short_okN {w : World} {kd : Int} {ev : Value} {D : List VS} (h : RowS w ev D) (hb : (D.length : Int) ≤ 9223372036854775807 ∧ (sumL D : Int) ≤ 9223372036854775807) :
    Ret Try.prog 36 [.int .i64 kd, ev] w fun u w' => Tells u (D.length ≤ 20 ∧ sumL D ≤ 200 ∧ (kd = 5 → ∀ p ∈ D, p.2.Pairwise (· < ·))) ∧ Below w.heap.size w w' := by
  obtain ⟨a, c, rfl, _⟩ := h.form
  refine ent36 _ _ _ _ ?_
  simp (disch := first | omega | exact okFill_t rfl | exact okSize_t rfl | exact fun h => h | (simp only [World.size_alloc, World.size_drew, World.size_setCell, size_fill, bytesW]; omega)) only [go_sem, ↓reduceIte, reduceCtorEq, Nat.reduceBEq, Nat.reduceEqDiff, Nat.reduceAdd, Nat.reduceMul, Int.reduceNe, Int.reduceEq, Int.reduceLT, Int.reduceLE, Int.reduceNeg, Int.reduceAdd, Int.reduceSub, Int.reduceMul, Int.reduceToNat, beq_self_eq_true, c36, c36S0, c36S1, c36S2, c36L0, c36S3]
  obtain ⟨hDl, hs1⟩ := hb
  refine W_loopU (fun k : Nat => [(5, .int .i64 (sumL (D.take k))), (6, .int .i64 k)]) (fun k w' => Below w.heap.size w w' ∧ k ≤ D.length ∧ k ≤ 21 ∧ (kd = 5 → ∀ p ∈ D.take k, p.2.Pairwise (· < ·))) (fun k => 22 - k) 0 rfl ⟨Below.refl _ _, Nat.zero_le _, by omega, by simp⟩ ?_
  rintro k w2 ⟨b2, hk, hk21, hr⟩
  have hst := sumL_take D k
  by_cases hlt : k < D.length
  · have hlt' : (k : Int) < D.length := by omega
    have et : D.take (k + 1) = D.take k ++ [D[k]] := List.take_succ_eq_append_getElem hlt
    have hst1 := sumL_take D (k + 1)
    rw [et, sumL_app] at hst1
    by_cases h20 : k ≤ 20
    · have h20' : (k : Int) ≤ 20 := by omega
      obtain ⟨p, rfl⟩ := h.ptr (by omega)
      have h2 := h.below b2
      have ek := h2.at hlt
      have rk := h2.rd _ (List.getElem_mem hlt)
      obtain ⟨ka, kc, hkf, _⟩ := rk.form
      rw [hkf] at ek rk
      have nx : ((sumL (D.take k) : Nat) : Int) + (D[k].2.length : Int) = ((sumL (D.take (k + 1)) : Nat) : Int) := by rw [et, sumL_app]; omega
      simp (disch := first | omega | exact okFill_t rfl | exact okSize_t rfl | exact fun h => h | (simp only [World.size_alloc, World.size_drew, World.size_setCell, size_fill, bytesW]; omega)) only [go_sem, ↓reduceIte, reduceCtorEq, Nat.reduceBEq, Nat.reduceEqDiff, Nat.reduceAdd, Nat.reduceMul, Int.reduceNe, Int.reduceEq, Int.reduceLT, Int.reduceLE, Int.reduceNeg, Int.reduceAdd, Int.reduceSub, Int.reduceMul, Int.reduceToNat, beq_self_eq_true, c36, c36S0, c36S1, c36S2, c36L0, c36S3, c36L0, hlt', h20', ek]
      refine ⟨by omega, ⟨by omega, by omega⟩, fun h5 => ⟨by omega, Ret.mono (rising_okN rk (by have := sumL_mem (List.getElem_mem hlt); omega)) ?_⟩, fun h5 => ?_⟩
      · rintro _ w3 ⟨⟨b, rfl, hbt⟩, b3⟩
        have b33 := Below.next b2 b3
        cases b with
        | false =>
          simp (disch := first | omega | exact okFill_t rfl | exact okSize_t rfl | exact fun h => h | (simp only [World.size_alloc, World.size_drew, World.size_setCell, size_fill, bytesW]; omega)) only [go_sem, ↓reduceIte, reduceCtorEq, Nat.reduceBEq, Nat.reduceEqDiff, Nat.reduceAdd, Nat.reduceMul, Int.reduceNe, Int.reduceEq, Int.reduceLT, Int.reduceLE, Int.reduceNeg, Int.reduceAdd, Int.reduceSub, Int.reduceMul, Int.reduceToNat, beq_self_eq_true, c36, c36S0, c36S1, c36S2, c36L0, c36S3]
          exact ⟨tells_f, b33⟩
        | true =>
          simp (disch := first | omega | exact okFill_t rfl | exact okSize_t rfl | exact fun h => h | (simp only [World.size_alloc, World.size_drew, World.size_setCell, size_fill, bytesW]; omega)) only [go_sem, ↓reduceIte, reduceCtorEq, Nat.reduceBEq, Nat.reduceEqDiff, Nat.reduceAdd, Nat.reduceMul, Int.reduceNe, Int.reduceEq, Int.reduceLT, Int.reduceLE, Int.reduceNeg, Int.reduceAdd, Int.reduceSub, Int.reduceMul, Int.reduceToNat, beq_self_eq_true, c36, c36S0, c36S1, c36S2, c36L0, c36S3]
          refine ⟨⟨by omega, by omega⟩, k + 1, by rw [nx]; rfl, ⟨b33, by omega, by omega, fun h5 p hp => ?_⟩, by omega⟩
          rw [et, List.mem_append, List.mem_singleton] at hp
          rcases hp with hp | rfl
          · exact hr h5 p hp
          · exact hbt rfl
      · exact ⟨⟨by omega, by omega⟩, k + 1, by rw [nx]; rfl, ⟨b2, by omega, by omega, fun h => absurd h h5⟩, by omega⟩
    · have h20' : ¬ (k : Int) ≤ 20 := by omega
      have hl20 : ¬ (D.length : Int) ≤ 20 := by omega
      simp (disch := first | omega | exact okFill_t rfl | exact okSize_t rfl | exact fun h => h | (simp only [World.size_alloc, World.size_drew, World.size_setCell, size_fill, bytesW]; omega)) only [go_sem, ↓reduceIte, reduceCtorEq, Nat.reduceBEq, Nat.reduceEqDiff, Nat.reduceAdd, Nat.reduceMul, Int.reduceNe, Int.reduceEq, Int.reduceLT, Int.reduceLE, Int.reduceNeg, Int.reduceAdd, Int.reduceSub, Int.reduceMul, Int.reduceToNat, beq_self_eq_true, c36, c36S0, c36S1, c36S2, c36L0, c36S3, c36L0, hlt', h20', hl20]
      exact ⟨tells_f, b2⟩
  · have hlt' : ¬ (k : Int) < D.length := by omega
    have e : D.take k = D := List.take_of_length_le (by omega)
    rw [e] at hr ⊢
    simp (disch := first | omega | exact okFill_t rfl | exact okSize_t rfl | exact fun h => h | (simp only [World.size_alloc, World.size_drew, World.size_setCell, size_fill, bytesW]; omega)) only [go_sem, ↓reduceIte, reduceCtorEq, Nat.reduceBEq, Nat.reduceEqDiff, Nat.reduceAdd, Nat.reduceMul, Int.reduceNe, Int.reduceEq, Int.reduceLT, Int.reduceLE, Int.reduceNeg, Int.reduceAdd, Int.reduceSub, Int.reduceMul, Int.reduceToNat, beq_self_eq_true, c36, c36S0, c36S1, c36S2, c36L0, c36S3, c36L0, hlt']
    refine ⟨fun h1 => ?_, fun h1 => ⟨tells_f, b2⟩⟩
    by_cases h2 : sumL D ≤ 200
    · have h2' : ((sumL D : Nat) : Int) ≤ 200 := by omega
      rw [decide_eq_true h2']
      exact ⟨tells_t ⟨by omega, h2, hr⟩, b2⟩
    · have h2' : ¬ ((sumL D : Nat) : Int) ≤ 200 := by omega
      rw [decide_eq_false h2']
      exact ⟨tells_f, b2⟩
theorem small_okN {w : World} {ob kd most : Int} {lv ev : Value} {l : List OpT} {D : List VS} (h : RdS w 11 OpT.enc lv l) (hl : (l.length : Int) ≤ 9223372036854775807) (hE : RowS w ev D) (hb : (D.length : Int) ≤ 9223372036854775807 ∧ (sumL D : Int) ≤ 9223372036854775807) (hm : most ≤ 100) :
    Ret Try.prog 15 [.agg #[.int .i64 ob, .int .i64 kd, lv], ev, .int .i64 most] w fun u w' => Tells u ((l.length : Int) ≤ most ∧ (∀ o ∈ l, o.Kind = kd) ∧ D.length ≤ 20 ∧ sumL D ≤ 200 ∧ (kd = 5 → ∀ p ∈ D, p.2.Pairwise (· < ·))) ∧ Below w.heap.size w w' := by
  obtain ⟨la, lc, rfl, _⟩ := h.form
  refine ent15 _ _ _ _ _ ?_
  have s1 := (St.start (W0 := w)).box #[.int .i64 ob, .int .i64 kd, .slice la l.length lc] 24
  have r1 := s1.rules 0 rfl
  have h1 := h.below s1.bel (by decide)
  simp (disch := first | omega | exact okFill_t rfl | exact okSize_t rfl | exact fun h => h | (simp only [World.size_alloc, World.size_drew, World.size_setCell, size_fill, bytesW]; omega)) only [go_sem, ↓reduceIte, reduceCtorEq, Nat.reduceBEq, Nat.reduceEqDiff, Nat.reduceAdd, Nat.reduceMul, Int.reduceNe, Int.reduceEq, Int.reduceLT, Int.reduceLE, Int.reduceNeg, Int.reduceAdd, Int.reduceSub, Int.reduceMul, Int.reduceToNat, beq_self_eq_true, c15, c15S0]
  refine ⟨fun hle => Ret.mono (alike_ok h1 (by omega)) ?_, fun hgt => ⟨tells_f, s1.bel⟩⟩
  rintro _ w2 ⟨⟨b, rfl, hbt⟩, b2⟩
  have s2 := s1.call b2
  have r2 := s2.rules 0 rfl
  cases b with
  | false =>
    simp (disch := first | omega | exact okFill_t rfl | exact okSize_t rfl | exact fun h => h | (simp only [World.size_alloc, World.size_drew, World.size_setCell, size_fill, bytesW]; omega)) only [go_sem, ↓reduceIte, reduceCtorEq, Nat.reduceBEq, Nat.reduceEqDiff, Nat.reduceAdd, Nat.reduceMul, Int.reduceNe, Int.reduceEq, Int.reduceLT, Int.reduceLE, Int.reduceNeg, Int.reduceAdd, Int.reduceSub, Int.reduceMul, Int.reduceToNat, beq_self_eq_true, c15, c15S0]
    exact ⟨tells_f, s2.bel⟩
  | true =>
    simp (disch := first | omega | exact okFill_t rfl | exact okSize_t rfl | exact fun h => h | (simp only [World.size_alloc, World.size_drew, World.size_setCell, size_fill, bytesW]; omega)) only [go_sem, ↓reduceIte, reduceCtorEq, Nat.reduceBEq, Nat.reduceEqDiff, Nat.reduceAdd, Nat.reduceMul, Int.reduceNe, Int.reduceEq, Int.reduceLT, Int.reduceLE, Int.reduceNeg, Int.reduceAdd, Int.reduceSub, Int.reduceMul, Int.reduceToNat, beq_self_eq_true, c15, c15S0, r2]
    refine Ret.mono (short_okN (hE.below s2.bel) hb) ?_
    rintro _ w3 ⟨⟨c, rfl, hct⟩, b3⟩
    cases c with
    | false =>
      simp (disch := first | omega | exact okFill_t rfl | exact okSize_t rfl | exact fun h => h | (simp only [World.size_alloc, World.size_drew, World.size_setCell, size_fill, bytesW]; omega)) only [go_sem, ↓reduceIte, reduceCtorEq, Nat.reduceBEq, Nat.reduceEqDiff, Nat.reduceAdd, Nat.reduceMul, Int.reduceNe, Int.reduceEq, Int.reduceLT, Int.reduceLE, Int.reduceNeg, Int.reduceAdd, Int.reduceSub, Int.reduceMul, Int.reduceToNat, beq_self_eq_true, c15, c15S0]
      exact ⟨tells_f, Below.next s2.bel b3⟩
    | true =>
      simp (disch := first | omega | exact okFill_t rfl | exact okSize_t rfl | exact fun h => h | (simp only [World.size_alloc, World.size_drew, World.size_setCell, size_fill, bytesW]; omega)) only [go_sem, ↓reduceIte, reduceCtorEq, Nat.reduceBEq, Nat.reduceEqDiff, Nat.reduceAdd, Nat.reduceMul, Int.reduceNe, Int.reduceEq, Int.reduceLT, Int.reduceLE, Int.reduceNeg, Int.reduceAdd, Int.reduceSub, Int.reduceMul, Int.reduceToNat, beq_self_eq_true, c15, c15S0]
      obtain ⟨c1, c2, c3⟩ := hct rfl
      exact ⟨tells_t ⟨hle, hbt rfl, c1, c2, c3⟩, Below.next s2.bel b3⟩
theorem row1 {w : World} {ev : Value} {s : List Int} {t : TypeId} (h : RdS w 1 intE ev s) : RowS (w.alloc (.cells #[ev] t)) (.slice (some ⟨w.heap.size, 0, none⟩) 1 1) [(ev, s)] :=
  ⟨rd_new (sz := 1) (n := 1) rfl, fun p hp => by
    rw [List.mem_singleton] at hp; subst hp
    exact h.below ((Below.refl _ w).alloc (Nat.le_refl _) _) (by decide)⟩
theorem linOrders_ok {w : World} {l : List OpT} {lv ev : Value} {ob kd : Int} {s : List Int} (h : RdS w 11 OpT.enc lv l) (hl : (l.length : Int) ≤ 9223372036854775807) (hw : ∀ o ∈ l, o.wf) (hE : RdS w 1 intE ev s) (h64 : Ok64 s) (hs : (s.length : Int) ≤ 9223372036854775807) :
    Ret Try.prog 5 [.agg #[.int .i64 ob, .int .i64 kd, lv], ev] w fun u w' => u = .bool true ∧ Below w.heap.size w w' := by
  obtain ⟨la, lc, rfl, _⟩ := h.form
  obtain ⟨ea, ec, rfl, _⟩ := hE.form
  have ones : ∀ u ∈ [Value.slice ea s.length ec], u.oneCell' = true := fun u hu => by rw [List.mem_singleton] at hu; subst hu; rfl
  refine ent5 _ _ _ _ ?_
  have s1 := (St.start (W0 := w)).box #[.int .i64 ob, .int .i64 kd, .slice la l.length lc] 24
  simp (disch := first | omega | exact okFill_t rfl | exact okSize_t rfl | exact fun h => h | (simp only [World.size_alloc, World.size_drew, World.size_setCell, size_fill, bytesW]; omega)) only [go_sem, ↓reduceIte, reduceCtorEq, Nat.reduceBEq, Nat.reduceEqDiff, Nat.reduceAdd, Nat.reduceMul, Int.reduceNe, Int.reduceEq, Int.reduceLT, Int.reduceLE, Int.reduceNeg, Int.reduceAdd, Int.reduceSub, Int.reduceMul, Int.reduceToNat, beq_self_eq_true, c5, c5S0, c5S1, c5S2, c5S3, c5S4, c5S5]
  refine bsW_ones ty25mkI rfl rfl (by decide) (by decide) ones ?_
  have hr2 := row1 (t := 36) (hE.below s1.bel (by decide))
  have s2 := s1.alloc' (.cells #[.slice ea s.length ec] 36)
  rw [World.size_alloc] at hr2
  simp (disch := first | omega | exact okFill_t rfl | exact okSize_t rfl | exact fun h => h | (simp only [World.size_alloc, World.size_drew, World.size_setCell, size_fill, bytesW]; omega)) only [go_sem, ↓reduceIte, reduceCtorEq, Nat.reduceBEq, Nat.reduceEqDiff, Nat.reduceAdd, Nat.reduceMul, Int.reduceNe, Int.reduceEq, Int.reduceLT, Int.reduceLE, Int.reduceNeg, Int.reduceAdd, Int.reduceSub, Int.reduceMul, Int.reduceToNat, beq_self_eq_true, c5, c5S0, c5S1, c5S2, c5S3, c5S4, c5S5]
  refine Ret.mono (small_okN (h.below s2.bel (by decide)) hl hr2 ⟨by simp, by simp [sumL]; omega⟩ (by decide)) ?_
  rintro _ w3 ⟨⟨b, rfl, hbt⟩, b3⟩
  have s3 := s2.call b3
  cases b with
  | false =>
    simp (disch := first | omega | exact okFill_t rfl | exact okSize_t rfl | exact fun h => h | (simp only [World.size_alloc, World.size_drew, World.size_setCell, size_fill, bytesW]; omega)) only [go_sem, ↓reduceIte, reduceCtorEq, Nat.reduceBEq, Nat.reduceEqDiff, Nat.reduceAdd, Nat.reduceMul, Int.reduceNe, Int.reduceEq, Int.reduceLT, Int.reduceLE, Int.reduceNeg, Int.reduceAdd, Int.reduceSub, Int.reduceMul, Int.reduceToNat, beq_self_eq_true, c5, c5S0, c5S1, c5S2, c5S3, c5S4, c5S5]
    refine Ret.mono (awake_ok w3) ?_
    rintro _ w4 ⟨rfl, b4⟩
    simp (disch := first | omega | exact okFill_t rfl | exact okSize_t rfl | exact fun h => h | (simp only [World.size_alloc, World.size_drew, World.size_setCell, size_fill, bytesW]; omega)) only [go_sem, ↓reduceIte, reduceCtorEq, Nat.reduceBEq, Nat.reduceEqDiff, Nat.reduceAdd, Nat.reduceMul, Int.reduceNe, Int.reduceEq, Int.reduceLT, Int.reduceLE, Int.reduceNeg, Int.reduceAdd, Int.reduceSub, Int.reduceMul, Int.reduceToNat, beq_self_eq_true, c5, c5S0, c5S1, c5S2, c5S3, c5S4, c5S5]
    exact Below.next s3.bel b4
  | true =>
    have hsm := hbt rfl
    have r3 := s3.rules 0 rfl
    simp (disch := first | omega | exact okFill_t rfl | exact okSize_t rfl | exact fun h => h | (simp only [World.size_alloc, World.size_drew, World.size_setCell, size_fill, bytesW]; omega)) only [go_sem, ↓reduceIte, reduceCtorEq, Nat.reduceBEq, Nat.reduceEqDiff, Nat.reduceAdd, Nat.reduceMul, Int.reduceNe, Int.reduceEq, Int.reduceLT, Int.reduceLE, Int.reduceNeg, Int.reduceAdd, Int.reduceSub, Int.reduceMul, Int.reduceToNat, beq_self_eq_true, c5, c5S0, c5S1, c5S2, c5S3, c5S4, c5S5, r3]
    refine bsW_ones ty25mkI rfl rfl (by decide) (by decide) ones ?_
    have hr4 := row1 (t := 36) (hE.below s3.bel (by decide))
    have s4 := s3.alloc' (.cells #[.slice ea s.length ec] 36)
    generalize w3.alloc (.cells #[.slice ea s.length ec] 36) = w4 at s4 hr4 ⊢
    simp (disch := first | omega | exact okFill_t rfl | exact okSize_t rfl | exact fun h => h | (simp only [World.size_alloc, World.size_drew, World.size_setCell, size_fill, bytesW]; omega)) only [go_sem, ↓reduceIte, reduceCtorEq, Nat.reduceBEq, Nat.reduceEqDiff, Nat.reduceAdd, Nat.reduceMul, Int.reduceNe, Int.reduceEq, Int.reduceLT, Int.reduceLE, Int.reduceNeg, Int.reduceAdd, Int.reduceSub, Int.reduceMul, Int.reduceToNat, beq_self_eq_true, c5, c5S0, c5S1, c5S2, c5S3, c5S4, c5S5]
    have h1 : ∀ p ∈ [((Value.slice ea s.length ec, s) : VS)], Ok64 p.2 := fun p hp => by rw [List.mem_singleton] at hp; subst hp; exact h64
    refine Ret.mono (small_search (h.below s4.bel (by decide)) hw hr4 h1 (by constructor <;> decide) (by decide) hsm) ?_
    rintro u w5 ⟨⟨U0, r, hU, hR, hV⟩, b5⟩
    have s5 := s4.call b5
    obtain rfl : U0 = [s] := hU.one (uniq_single s)
    have hR : SearchR l [(List.replicate l.length false, s)] 32768 r := hR
    obtain ⟨c1, c2, c3, c4, c5⟩ := hsm
    have und : undone (List.replicate l.length false) ≤ l.length := by unfold undone; have := List.count_le_length (a := false) (l := List.replicate l.length false); rwa [List.length_replicate] at this
    have l5 : l.length ≤ 5 := by omega
    obtain ⟨T, rfl⟩ : ∃ T, r = some T := by
      cases r with
      | some T => exact ⟨T, rfl⟩
      | none =>
        obtain ⟨N, hN⟩ := hR
        have h2 := bfsN_few (l := l) (m := l.length) (p := (List.replicate l.length false, s)) (by simp) und N
        have h3 := pth_le _ l5
        omega
    obtain ⟨ya, yn, yc, xa, xn, xc, nn, ue, rfl, _⟩ := hV.form
    obtain ⟨rfl, rfl, V, X, hV3, eV, hX3, eX⟩ := SearchV.some hV
    have s6 := s5.box #[.slice ya yn yc, .slice xa xn xc, .int .i64 T.length] 27
    have b56 : Below w5.heap.size w5 (w5.alloc (.cells #[.slice ya yn yc, .slice xa xn xc, .int .i64 T.length] 27)) := (Below.refl _ _).alloc (Nat.le_refl _) _
    simp (disch := first | omega | exact okFill_t rfl | exact okSize_t rfl | exact fun h => h | (simp only [World.size_alloc, World.size_drew, World.size_setCell, size_fill, bytesW]; omega)) only [go_sem, ↓reduceIte, reduceCtorEq, Nat.reduceBEq, Nat.reduceEqDiff, Nat.reduceAdd, Nat.reduceMul, Int.reduceNe, Int.reduceEq, Int.reduceLT, Int.reduceLE, Int.reduceNeg, Int.reduceAdd, Int.reduceSub, Int.reduceMul, Int.reduceToNat, beq_self_eq_true, c5, c5S0, c5S1, c5S2, c5S3, c5S5]
    have hX6 := hX3.below b56
    generalize w5.alloc (.cells #[.slice ya yn yc, .slice xa xn xc, .int .i64 T.length] 27) = w6 at s6 hX6 ⊢
    generalize w5.heap.size = z6 at s6 ⊢
    have r6 := s6.drew.rules 1 rfl
    have l6 : w.heap.size < w6.heap.size := (s6.low 1 rfl).2
    simp (disch := first | omega | exact okFill_t rfl | exact okSize_t rfl | exact fun h => h | (simp only [World.size_alloc, World.size_drew, World.size_setCell, size_fill, bytesW]; omega)) only [go_sem, ↓reduceIte, reduceCtorEq, Nat.reduceBEq, Nat.reduceEqDiff, Nat.reduceAdd, Nat.reduceMul, Int.reduceNe, Int.reduceEq, Int.reduceLT, Int.reduceLE, Int.reduceNeg, Int.reduceAdd, Int.reduceSub, Int.reduceMul, Int.reduceToNat, beq_self_eq_true, c5, c5S0, c5S1, c5S2, c5S3, c5S4, c5S5]
    refine c5draw0 (Chg (fun _ => False) _) (Chg.refl _ _) ?_
    simp (disch := first | omega | exact okFill_t rfl | exact okSize_t rfl | exact fun h => h | (simp only [World.size_alloc, World.size_drew, World.size_setCell, size_fill, bytesW]; omega)) only [go_sem, ↓reduceIte, reduceCtorEq, Nat.reduceBEq, Nat.reduceEqDiff, Nat.reduceAdd, Nat.reduceMul, Int.reduceNe, Int.reduceEq, Int.reduceLT, Int.reduceLE, Int.reduceNeg, Int.reduceAdd, Int.reduceSub, Int.reduceMul, Int.reduceToNat, beq_self_eq_true, c5, c5S0, c5S1, c5S2, c5S3, c5S4, c5S5, c5D0, r6]
    refine msW_one ty41mkI rfl (by omega) (by omega) (by omega) (by omega) ?_
    have s7 := (s6.alloc' (.cells (zerosA (.bool false) l.length) 4)).drew
    have hf7 : RdS (w6.alloc (.cells (zerosA (.bool false) l.length) 4)).drew 1 boolE (.slice (some ⟨w6.heap.size, 0, none⟩) l.length l.length) (List.replicate l.length false) := rd_false (Blk.drew Blk.new)
    have b67 : Below w6.heap.size w6 (w6.alloc (.cells (zerosA (.bool false) l.length) 4)).drew := ((Below.refl _ _).alloc (Nat.le_refl _) _).drew
    simp (disch := first | omega | exact okFill_t rfl | exact okSize_t rfl | exact fun h => h | (simp only [World.size_alloc, World.size_drew, World.size_setCell, size_fill, bytesW]; omega)) only [go_sem, ↓reduceIte, reduceCtorEq, Nat.reduceBEq, Nat.reduceEqDiff, Nat.reduceAdd, Nat.reduceMul, Int.reduceNe, Int.reduceEq, Int.reduceLT, Int.reduceLE, Int.reduceNeg, Int.reduceAdd, Int.reduceSub, Int.reduceMul, Int.reduceToNat, beq_self_eq_true, c5, c5S0, c5S1, c5S2, c5S3, c5S4, c5S5]
    have b67d : Below w6.drew.heap.size w6.drew (w6.alloc (.cells (zerosA (.bool false) l.length) 4)).drew := (Below.refl _ w6.drew).alloc (Nat.le_refl _) (.cells (zerosA (.bool false) l.length) 4)
    refine ⟨Chg.of_below b67d, ?_⟩
    have hX7 := hX6.below b67
    generalize (w6.alloc (.cells (zerosA (.bool false) l.length) 4)).drew = w7 at s7 hf7 b67 b67d hX7 ⊢
    have g0 : Good kd 200 l.length (List.replicate l.length false, s) := ⟨by simp, h64, by have := sumL_mem (D := [((Value.slice ea s.length ec, s) : VS)]) (List.mem_singleton.2 rfl); simp only at this ⊢; omega, fun h5 => c5 h5 _ (List.mem_singleton.2 rfl)⟩
    refine Ret.mono (rorders_ok (K := kd) (M := 200) (by omega) c2 hw (by decide) l.length l5 w7 _ s _ _ (h.below s7.bel (by decide)) hf7 (hE.below s7.bel (by decide)) g0 und) ?_
    rintro u w8 ⟨⟨D, hD, eD, _⟩, b8⟩
    have s8 := s7.call b8
    obtain ⟨ua, uc, rfl, _⟩ := hD.form
    have memT : ∀ q, q ∈ T ↔ Rch l (List.replicate l.length false, s) q := fun q => by
      rw [closed_mem hR.1]
      constructor
      · rintro ⟨p, hp, hr⟩; rw [List.mem_singleton] at hp; subst hp; exact hr
      · intro hr; exact ⟨_, List.mem_singleton.2 rfl, hr⟩
    have okT : ∀ p ∈ T, OkS p.2 := by
      obtain ⟨⟨N, rfl, _⟩, _⟩ := hR
      exact small_okS hw h1 (most := 5) (by decide) ⟨c1, c2, c3, c4, c5⟩ hU N
    have both : ∀ t, t ∈ D.map Prod.snd ↔ ∃ d, (d, t) ∈ T ∧ fullP l d = true := fun t => by
      rw [eD, ordP_mem (by simp) und]
      constructor
      · rintro ⟨d, h1, h2⟩; exact ⟨d, (memT _).2 h1, h2⟩
      · rintro ⟨d, h1, h2⟩; exact ⟨d, (memT _).1 h1, h2⟩
    have okD : ∀ p ∈ D, OkS p.2 := fun p hp => by
      obtain ⟨d, h1, _⟩ := (both p.2).1 (List.mem_map.2 ⟨p, hp, rfl⟩)
      exact okT _ h1
    have lD : D.length ≤ 326 := by
      have h2 := congrArg List.length eD
      rw [List.length_map] at h2
      have h3 := ordP_len (l := l) (m := l.length) (p := (List.replicate l.length false, s)) (by simp) und
      have h4 := pth_le _ l5
      omega
    simp (disch := first | omega | exact okFill_t rfl | exact okSize_t rfl | exact fun h => h | (simp only [World.size_alloc, World.size_drew, World.size_setCell, size_fill, bytesW]; omega)) only [go_sem, ↓reduceIte, reduceCtorEq, Nat.reduceBEq, Nat.reduceEqDiff, Nat.reduceAdd, Nat.reduceMul, Int.reduceNe, Int.reduceEq, Int.reduceLT, Int.reduceLE, Int.reduceNeg, Int.reduceAdd, Int.reduceSub, Int.reduceMul, Int.reduceToNat, beq_self_eq_true, c5, c5S0, c5S1, c5S2, c5S3, c5S4, c5S5]
    refine Ret.mono (sorted_ok _ D w8 hD okD (by omega)) ?_
    rintro u w9 ⟨⟨U, hUn, subU, hown⟩, b9⟩
    have s9 := s8.call b9
    have hU9 : RowS w9 u U := ⟨Rd.of_own hown, fun p hp => (hD.rd p (subU p hp)).below b9 (by decide)⟩
    obtain ⟨va, vc, rfl, _⟩ := hU9.form
    have r9 := s9.rules 0 rfl
    have eXU : X.map Prod.snd = U.map Prod.snd := Uniq.one (l := D.map Prod.snd) ⟨eX.1, fun t => (exits_mem eX t).trans (both t).symm⟩ hUn
    have okX : ∀ p ∈ X, p.2.length ≤ 1000000 := fun p hp => by
      obtain ⟨d, h1, _⟩ := (exits_mem eX p.2).1 (List.mem_map.2 ⟨p, hp, rfl⟩)
      exact (okT _ h1).2
    have lX := Uniq.len eX
    have lT := hR.2
    simp (disch := first | omega | exact okFill_t rfl | exact okSize_t rfl | exact fun h => h | (simp only [World.size_alloc, World.size_drew, World.size_setCell, size_fill, bytesW]; omega)) only [go_sem, ↓reduceIte, reduceCtorEq, Nat.reduceBEq, Nat.reduceEqDiff, Nat.reduceAdd, Nat.reduceMul, Int.reduceNe, Int.reduceEq, Int.reduceLT, Int.reduceLE, Int.reduceNeg, Int.reduceAdd, Int.reduceSub, Int.reduceMul, Int.reduceToNat, beq_self_eq_true, c5, c5S0, c5S1, c5S2, c5S3, c5S4, c5S5, r9]
    refine ⟨Chg.of_below (Below.next (Below.next b67d b8) b9), Ret.mono (states_ok _ _ X U w9 ((hX7.below b8).below b9) hU9 okX (by omega)) ?_⟩
    rintro _ w10 ⟨rfl, b10⟩
    have s10 := s9.call b10
    rw [decide_eq_true eXU]
    simp (disch := first | omega | exact okFill_t rfl | exact okSize_t rfl | exact fun h => h | (simp only [World.size_alloc, World.size_drew, World.size_setCell, size_fill, bytesW]; omega)) only [go_sem, ↓reduceIte, reduceCtorEq, Nat.reduceBEq, Nat.reduceEqDiff, Nat.reduceAdd, Nat.reduceMul, Int.reduceNe, Int.reduceEq, Int.reduceLT, Int.reduceLE, Int.reduceNeg, Int.reduceAdd, Int.reduceSub, Int.reduceMul, Int.reduceToNat, beq_self_eq_true, c5, c5S0, c5S1, c5S2, c5S3, c5S4, c5S5]
    refine Ret.mono (awake_ok w10) ?_
    rintro _ w11 ⟨rfl, b11⟩
    simp (disch := first | omega | exact okFill_t rfl | exact okSize_t rfl | exact fun h => h | (simp only [World.size_alloc, World.size_drew, World.size_setCell, size_fill, bytesW]; omega)) only [go_sem, ↓reduceIte, reduceCtorEq, Nat.reduceBEq, Nat.reduceEqDiff, Nat.reduceAdd, Nat.reduceMul, Int.reduceNe, Int.reduceEq, Int.reduceLT, Int.reduceLE, Int.reduceNeg, Int.reduceAdd, Int.reduceSub, Int.reduceMul, Int.reduceToNat, beq_self_eq_true, c5, c5S0, c5S1, c5S2, c5S3, c5S4, c5S5]
    exact Below.next s10.bel b11
set_option maxRecDepth 100000 in
theorem linOrders_law {H : Type} {enc : TypeId × Value → H} {w : World} {r r' : Reach} {b b' base base' : Nat} {sp sp' : Nat → Bool} {hd hd' : Bool} {v v' : Value} {d d' : DataW H} {p p' : List MemPlace}
    (h : Value.okWide Try.prog w r b 24 v) (k : DataW.Trod enc Try.prog w base sp hd 24 v d p) (h' : Value.okWide Try.prog w r' b' 36 v') (k' : DataW.Trod enc Try.prog w base' sp' hd' 36 v' d' p') :
    Ret Try.prog 5 [v, v'] w fun u w' => u = .bool true ∧ Below w.heap.size w w' := by
  obtain ⟨a, cs, rfl, lv, rfl, q1, q2, q3⟩ := Opens.struct_arg opens_Seg Try.underlying24 h k
  obtain ⟨fuel, hk⟩ := k'
  obtain ⟨s, v2, e1, g1, g2⟩ := opens_slice (opens_int Try.underlying3) Try.underlying36 (show Try.prog.cellsOf 3 = 1 by kernel_rfl) _ _ _ _ _ _ _ _ hk
  have hp := g1.plain (enc := intE) (ok := fun n => kOk .i64 n) fun _ _ h => h
  obtain ⟨a2, n2, c2, rfl⟩ := okWide_slice Try.underlying36 h'
  simp only [Value.cells, List.cons.injEq, and_true] at e1
  subst e1
  exact linOrders_ok q1 q3 q2 hp.1 (fun n hn => kOk_i64 (hp.2 n hn)) g2
end Go.Proofs.Ytbeoedgoikcbpaa
