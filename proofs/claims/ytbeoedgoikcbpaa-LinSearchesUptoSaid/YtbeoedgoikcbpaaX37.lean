/- Texts put together by program: L37. -/
import Derived.Test.YtbeoedgoikcbpaaM5
namespace Go.Proofs.Ytbeoedgoikcbpaa
set_option linter.unusedSimpArgs false
set_option linter.unusedVariables false
set_option maxRecDepth 100000
open Go Go.Ann Go.RowKit
theorem row_nil {w : World} : RowS w (.slice none 0 0) [] := ⟨⟨by simp, none, 0, rfl, Nat.le_refl _, fun h => absurd rfl h⟩, fun p hp => by cases hp⟩
theorem search_many {w : World} {l : List OpT} {lv ev : Value} {ob kd budget : Int} (h : RdS w 11 OpT.enc lv l) (hn : (16 : Int) < l.length) :
    Ret Try.prog 12 [.agg #[.int .i64 ob, .int .i64 kd, lv], ev, .int .i64 budget] w fun u w' => u = .tuple #[.agg #[.slice none 0 0, .slice none 0 0, .int .i64 0], .int .i64 34] ∧ Below w.heap.size w w' := by
  obtain ⟨la, lc, rfl, _⟩ := h.form
  refine ent12 _ _ _ _ _ ?_
  have s2 := ((St.start (W0 := w)).box #[.int .i64 ob, .int .i64 kd, .slice la l.length lc] 24).box #[.slice none 0 0, .slice none 0 0, .int .i64 0] 27
  rw [World.size_alloc] at s2
  simp (disch := first | omega | exact okFill_t rfl | exact okSize_t rfl | exact fun h => h | (simp only [World.size_alloc, World.size_drew, World.size_setCell, size_fill, bytesW]; omega)) only [go_sem, ↓reduceIte, reduceCtorEq, Nat.reduceBEq, Nat.reduceEqDiff, Nat.reduceAdd, Nat.reduceMul, Int.reduceNe, Int.reduceEq, Int.reduceLT, Int.reduceLE, Int.reduceNeg, Int.reduceAdd, Int.reduceSub, Int.reduceMul, Int.reduceToNat, beq_self_eq_true, c12, c12S0, c12S1, c12L0, c12S2, c12S3, c12S4, c12S5, c12S6, c12S7, c12L1, c12S8, c12S9, c12S10, c12S11, c12L2, c12S12, c12S13, c12S14, c12S15, c12S16, c12S17, c12S18, c12S19, hn]
  refine bdW_built (cells := #[.slice none 0 0, .slice none 0 0, .int .i64 0]) (by kernel_rfl) ?_
  have q2 := s2.rules 0 rfl
  simp (disch := first | omega | exact okFill_t rfl | exact okSize_t rfl | exact fun h => h | (simp only [World.size_alloc, World.size_drew, World.size_setCell, size_fill, bytesW]; omega)) only [go_sem, ↓reduceIte, reduceCtorEq, Nat.reduceBEq, Nat.reduceEqDiff, Nat.reduceAdd, Nat.reduceMul, Int.reduceNe, Int.reduceEq, Int.reduceLT, Int.reduceLE, Int.reduceNeg, Int.reduceAdd, Int.reduceSub, Int.reduceMul, Int.reduceToNat, beq_self_eq_true, c12, c12S0, c12S1, c12L0, c12S2, c12S3, c12S4, c12S5, c12S6, c12S7, c12L1, c12S8, c12S9, c12S10, c12S11, c12L2, c12S12, c12S13, c12S14, c12S15, c12S16, c12S17, c12S18, c12S19, q2]
  exact (s2.fill 0 rfl (cs := #[.slice none 0 0, .slice none 0 0, .int .i64 0]) rfl).bel
/-- Two searches of one segment have the same summary, and the same error. -/
theorem same_search {w1 w2 : World} {l : List OpT} {E U0 V0 : List (List Int)} {r s : Option (List Spot)} {b : Int} {u v : Value} (hU : Uniq E U0) (hV : Uniq E V0) (h1 : SearchR l (startP l.length U0) b r) (h2 : SearchR l (startP l.length V0) b s) (k1 : SearchV w1 l E U0 r u) (k2 : SearchV w2 l E V0 s v) (hb : Below w1.heap.size w1 w2)
    (hle : E.length ≤ 1000000) (hE : ∀ x ∈ E, x.length ≤ 1000000) (hQ : ∀ T, r = some T → T.length ≤ 1000000 ∧ ∀ p ∈ T, p.2.length ≤ 1000000) :
    ∃ ae ax be bx Ae Ax Be Bx na e, u = .tuple #[.agg #[ae, ax, .int .i64 na], .int .i64 e] ∧ v = .tuple #[.agg #[be, bx, .int .i64 na], .int .i64 e] ∧ RowS w2 ae Ae ∧ RowS w2 ax Ax ∧ RowS w2 be Be ∧ RowS w2 bx Bx ∧ Ae.map Prod.snd = Be.map Prod.snd ∧ Ax.map Prod.snd = Bx.map Prod.snd ∧
      Ae.length ≤ 1000000 ∧ Ax.length ≤ 1000000 ∧ (∀ p ∈ Ae, p.2.length ≤ 1000000) ∧ ∀ p ∈ Ax, p.2.length ≤ 1000000 := by
  have eU := hU.one hV
  subst eU
  have e := h1.one h2
  subst e
  cases r with
  | none =>
    subst k1 k2
    exact ⟨_, _, _, _, [], [], [], [], _, _, rfl, rfl, row_nil, row_nil, row_nil, row_nil, rfl, rfl, by simp, by simp, (fun p hp => by cases hp), fun p hp => by cases hp⟩
  | some T =>
    obtain ⟨ae, ax, Ae, Ax, rfl, a1, a2, a3, a4⟩ := k1
    obtain ⟨be, bx, Be, Bx, rfl, b1, b2, b3, b4⟩ := k2
    have hT := hQ T rfl
    refine ⟨ae, ax, be, bx, Ae, Ax, Be, Bx, _, _, rfl, rfl, a1.below hb, a3.below hb, b1, b3, a2.trans b2.symm, a4.one b4, ?_, ?_, fun p hp => ?_, fun p hp => ?_⟩
    · have h1 := uniq_le hU
      have h2 := congrArg List.length a2
      rw [List.length_map] at h2; omega
    · have h1 := uniq_le a4
      have h2 := List.length_filter_le (fun p : Spot => fullP l p.1) T
      simp only [List.length_map] at h1
      have := hT.1
      omega
    · have : p.2 ∈ Ae.map Prod.snd := List.mem_map.2 ⟨p, hp, rfl⟩
      rw [a2] at this
      exact hE _ ((hU.2 _).1 this)
    · have : p.2 ∈ Ax.map Prod.snd := List.mem_map.2 ⟨p, hp, rfl⟩
      obtain ⟨q, hq, e⟩ := List.mem_map.1 ((a4.2 _).1 this)
      rw [← e]
      exact hT.2 q (List.mem_filter.1 hq).1
/-- What is known of all spots that a search comes to. -/
theorem goP_good {K : Int} {M : Nat} {l : List OpT} {p : Spot} {t : List Spot} {k : Nat} (hK : ∀ o ∈ l, o.Kind = K) (hw : ∀ o ∈ l, o.wf) (hp : Good K M l.length p) (ht : ∀ q ∈ t, Good K M l.length q) : ∀ q ∈ goP l p t k, Good K M l.length q := by
  unfold goP
  split
  · exact ht
  · rename_i o ho
    obtain ⟨hk, rfl⟩ := List.getElem?_eq_some_iff.1 ho
    split
    · rename_i hm
      split
      · rename_i s hs
        intro q hq
        unfold addP at hq
        split at hq
        · exact ht q hq
        · rcases List.mem_append.1 hq with hq | hq
          · exact ht q hq
          · rw [List.mem_singleton] at hq; subst hq
            exact hp.go hk hK hw hm hs
      · exact ht
    · exact ht
theorem bfsN_good {K : Int} {M : Nat} {l : List OpT} {t0 : List Spot} (hK : ∀ o ∈ l, o.Kind = K) (hw : ∀ o ∈ l, o.wf) (h0 : ∀ q ∈ t0, Good K M l.length q) : ∀ N, ∀ q ∈ bfsN l t0 N, Good K M l.length q
  | 0 => h0
  | N + 1 => by
    have ih := bfsN_good hK hw h0 N
    rw [bfsN]
    split
    · rename_i p hp
      have hpg := ih p (List.mem_of_getElem? hp)
      have : ∀ k, ∀ q ∈ roundK l p (bfsN l t0 N) k, Good K M l.length q := by
        intro k
        induction k with
        | zero => exact ih
        | succ k ihk => exact goP_good hK hw hpg ihk
      exact this _
    · exact ih
theorem start_good {K : Int} {M n : Nat} {E U : List (List Int)} (hU : Uniq E U) (hE : ∀ s ∈ E, Ok64 s ∧ s.length ≤ M ∧ (K = 5 → s.Pairwise (· < ·))) : ∀ q ∈ startP n U, Good K M n q := fun q hq => by
  obtain ⟨s, hs, rfl⟩ := List.mem_map.1 hq
  obtain ⟨h1, h2, h3⟩ := hE s ((hU.2 s).1 hs)
  exact ⟨by simp, h1, by simp only; omega, h3⟩
theorem linSearches_ok {w : World} {l : List OpT} {lv ev : Value} {ob kd budget : Int} {D : List VS} (h : RdS w 11 OpT.enc lv l) (hl : (l.length : Int) ≤ 9223372036854775807) (hw : ∀ o ∈ l, o.wf) (hE : RowS w ev D) (h64 : ∀ p ∈ D, Ok64 p.2) (hD : bulkS D ≤ 1048576) (hb : I64 budget) :
    Ret Try.prog 3 [.agg #[.int .i64 ob, .int .i64 kd, lv], ev, .int .i64 budget] w fun u w' => u = .bool true ∧ Below w.heap.size w w' := by
  obtain ⟨la, lc, rfl, _⟩ := h.form
  refine ent3 _ _ _ _ _ ?_
  have s1 := (St.start (W0 := w)).box #[.int .i64 ob, .int .i64 kd, .slice la l.length lc] 24
  by_cases hn : (16 : Int) < l.length
  · have r1 := s1.rules 0 rfl
    have h1 := h.below s1.bel (by decide)
    simp (disch := first | omega | exact okFill_t rfl | exact okSize_t rfl | exact fun h => h | (simp only [World.size_alloc, World.size_drew, World.size_setCell, size_fill, bytesW]; omega)) only [go_sem, ↓reduceIte, reduceCtorEq, Nat.reduceBEq, Nat.reduceEqDiff, Nat.reduceAdd, Nat.reduceMul, Int.reduceNe, Int.reduceEq, Int.reduceLT, Int.reduceLE, Int.reduceNeg, Int.reduceAdd, Int.reduceSub, Int.reduceMul, Int.reduceToNat, beq_self_eq_true, c3, c3S0, c3S1, c3S2, c3S3, c3S4, c3S5, c3S6, c3S7, c3S8, hn]
    refine Ret.mono (search_many h1 hn) ?_
    rintro _ w2 ⟨rfl, b2⟩
    have s2 := (s1.call b2).box #[.slice none 0 0, .slice none 0 0, .int .i64 0] 27
    have r2 := s2.rules 0 rfl
    simp (disch := first | omega | exact okFill_t rfl | exact okSize_t rfl | exact fun h => h | (simp only [World.size_alloc, World.size_drew, World.size_setCell, size_fill, bytesW]; omega)) only [go_sem, ↓reduceIte, reduceCtorEq, Nat.reduceBEq, Nat.reduceEqDiff, Nat.reduceAdd, Nat.reduceMul, Int.reduceNe, Int.reduceEq, Int.reduceLT, Int.reduceLE, Int.reduceNeg, Int.reduceAdd, Int.reduceSub, Int.reduceMul, Int.reduceToNat, beq_self_eq_true, c3, c3S0, c3S1, c3S2, c3S3, c3S4, c3S5, c3S6, c3S7, c3S8]
    refine bdW_built (cells := #[.slice none 0 0, .slice none 0 0, .int .i64 0]) (by kernel_rfl) ?_
    simp (disch := first | omega | exact okFill_t rfl | exact okSize_t rfl | exact fun h => h | (simp only [World.size_alloc, World.size_drew, World.size_setCell, size_fill, bytesW]; omega)) only [go_sem, ↓reduceIte, reduceCtorEq, Nat.reduceBEq, Nat.reduceEqDiff, Nat.reduceAdd, Nat.reduceMul, Int.reduceNe, Int.reduceEq, Int.reduceLT, Int.reduceLE, Int.reduceNeg, Int.reduceAdd, Int.reduceSub, Int.reduceMul, Int.reduceToNat, beq_self_eq_true, c3, c3S0, c3S1, c3S2, c3S3, c3S4, c3S5, c3S6, c3S7, c3S8]
    refine Ret.mono (same_ok row_nil row_nil row_nil row_nil (by simp) (by simp) (fun p hp => by cases hp) (fun p hp => by cases hp)) ?_
    rintro _ w3 ⟨rfl, b3⟩
    have e : (decide ((([] : List VS).map Prod.snd) = (([] : List VS).map Prod.snd)) && (decide ((([] : List VS).map Prod.snd) = (([] : List VS).map Prod.snd)) && decide ((0 : Int) = 0))) = true := by decide
    rw [e]
    simp (disch := first | omega | exact okFill_t rfl | exact okSize_t rfl | exact fun h => h | (simp only [World.size_alloc, World.size_drew, World.size_setCell, size_fill, bytesW]; omega)) only [go_sem, ↓reduceIte, reduceCtorEq, Nat.reduceBEq, Nat.reduceEqDiff, Nat.reduceAdd, Nat.reduceMul, Int.reduceNe, Int.reduceEq, Int.reduceLT, Int.reduceLE, Int.reduceNeg, Int.reduceAdd, Int.reduceSub, Int.reduceMul, Int.reduceToNat, beq_self_eq_true, c3, c3S0, c3S1, c3S2, c3S3, c3S4, c3S5, c3S6, c3S7, c3S8]
    refine Ret.mono (awake_ok w3) ?_
    rintro _ w4 ⟨rfl, b4⟩
    simp (disch := first | omega | exact okFill_t rfl | exact okSize_t rfl | exact fun h => h | (simp only [World.size_alloc, World.size_drew, World.size_setCell, size_fill, bytesW]; omega)) only [go_sem, ↓reduceIte, reduceCtorEq, Nat.reduceBEq, Nat.reduceEqDiff, Nat.reduceAdd, Nat.reduceMul, Int.reduceNe, Int.reduceEq, Int.reduceLT, Int.reduceLE, Int.reduceNeg, Int.reduceAdd, Int.reduceSub, Int.reduceMul, Int.reduceToNat, beq_self_eq_true, c3, c3S0, c3S1, c3S2, c3S3, c3S4, c3S5, c3S6, c3S7, c3S8]
    exact Below.next (Below.next s2.bel b3) b4
  · have r1 := s1.rules 0 rfl
    have h1 := h.below s1.bel (by decide)
    have hE1 := hE.below s1.bel
    simp (disch := first | omega | exact okFill_t rfl | exact okSize_t rfl | exact fun h => h | (simp only [World.size_alloc, World.size_drew, World.size_setCell, size_fill, bytesW]; omega)) only [go_sem, ↓reduceIte, reduceCtorEq, Nat.reduceBEq, Nat.reduceEqDiff, Nat.reduceAdd, Nat.reduceMul, Int.reduceNe, Int.reduceEq, Int.reduceLT, Int.reduceLE, Int.reduceNeg, Int.reduceAdd, Int.reduceSub, Int.reduceMul, Int.reduceToNat, beq_self_eq_true, c3, c3S0, c3S1, c3S2, c3S3, c3S4, c3S5, c3S6, c3S8, hn]
    refine Ret.mono (small_ok h1 hl hE1 hD (by decide)) ?_
    rintro _ w2 ⟨⟨b, rfl, hbt⟩, b2⟩
    have s2 := s1.call b2
    cases b with
    | false =>
      simp (disch := first | omega | exact okFill_t rfl | exact okSize_t rfl | exact fun h => h | (simp only [World.size_alloc, World.size_drew, World.size_setCell, size_fill, bytesW]; omega)) only [go_sem, ↓reduceIte, reduceCtorEq, Nat.reduceBEq, Nat.reduceEqDiff, Nat.reduceAdd, Nat.reduceMul, Int.reduceNe, Int.reduceEq, Int.reduceLT, Int.reduceLE, Int.reduceNeg, Int.reduceAdd, Int.reduceSub, Int.reduceMul, Int.reduceToNat, beq_self_eq_true, c3, c3S0, c3S1, c3S2, c3S3, c3S4, c3S5, c3S6, c3S7, c3S8]
      refine Ret.mono (awake_ok w2) ?_
      rintro _ w3 ⟨rfl, b3⟩
      simp (disch := first | omega | exact okFill_t rfl | exact okSize_t rfl | exact fun h => h | (simp only [World.size_alloc, World.size_drew, World.size_setCell, size_fill, bytesW]; omega)) only [go_sem, ↓reduceIte, reduceCtorEq, Nat.reduceBEq, Nat.reduceEqDiff, Nat.reduceAdd, Nat.reduceMul, Int.reduceNe, Int.reduceEq, Int.reduceLT, Int.reduceLE, Int.reduceNeg, Int.reduceAdd, Int.reduceSub, Int.reduceMul, Int.reduceToNat, beq_self_eq_true, c3, c3S0, c3S1, c3S2, c3S3, c3S4, c3S5, c3S6, c3S7, c3S8]
      exact Below.next s2.bel b3
    | true =>
      obtain ⟨c1, c2, c3, c4, c5⟩ := hbt rfl
      have hEo : ∀ p ∈ D, Ok64 p.2 ∧ p.2.length ≤ 200 ∧ (kd = 5 → p.2.Pairwise (· < ·)) := fun p hp => ⟨h64 p hp, by have := sumL_mem hp; omega, fun h5 => c5 h5 p hp⟩
      have r2 := s2.rules 0 rfl
      simp (disch := first | omega | exact okFill_t rfl | exact okSize_t rfl | exact fun h => h | (simp only [World.size_alloc, World.size_drew, World.size_setCell, size_fill, bytesW]; omega)) only [go_sem, ↓reduceIte, reduceCtorEq, Nat.reduceBEq, Nat.reduceEqDiff, Nat.reduceAdd, Nat.reduceMul, Int.reduceNe, Int.reduceEq, Int.reduceLT, Int.reduceLE, Int.reduceNeg, Int.reduceAdd, Int.reduceSub, Int.reduceMul, Int.reduceToNat, beq_self_eq_true, c3, c3S0, c3S1, c3S2, c3S3, c3S4, c3S5, c3S7, c3S8, r2]
      have hl2 := h.below s2.bel (by decide)
      have hE2 := hE.below s2.bel
      refine Ret.mono (search_ok (K := kd) (M := 200) hl2 (by omega) c2 hw hE2 (by omega) (by decide) hEo hb) ?_
      rintro u w3 ⟨⟨U0, r, hU, hR, hV⟩, b3⟩
      have s3 := s2.call b3
      obtain ⟨ux, ue, rfl⟩ : ∃ x e, u = .tuple #[.agg x, .int .i64 e] := by
        cases r with
        | none => exact ⟨_, _, hV⟩
        | some T => obtain ⟨_, _, _, _, e, _⟩ := hV; exact ⟨_, _, e⟩
      obtain ⟨y1, y2, y3, rfl, hy1, hy2, hy3⟩ : ∃ y1 y2 y3, ux = #[y1, y2, y3] ∧ (∃ a n c, y1 = Value.slice a n c) ∧ (∃ a n c, y2 = Value.slice a n c) ∧ ∃ n, y3 = Value.int .i64 n := by
        cases r with
        | none => simp only [SearchV, Value.tuple.injEq, Array.mk.injEq, List.cons.injEq, Value.agg.injEq] at hV; exact ⟨_, _, _, hV.1, ⟨_, _, _, rfl⟩, ⟨_, _, _, rfl⟩, _, rfl⟩
        | some T =>
          obtain ⟨_, _, _, _, e, g1, _, g2, _⟩ := hV
          simp only [Value.tuple.injEq, Array.mk.injEq, List.cons.injEq, Value.agg.injEq] at e
          obtain ⟨_, _, f1, _⟩ := g1.form
          obtain ⟨_, _, f2, _⟩ := g2.form
          exact ⟨_, _, _, e.1, ⟨_, _, _, f1⟩, ⟨_, _, _, f2⟩, _, rfl⟩
      obtain ⟨ya, yn, yc, rfl⟩ := hy1
      obtain ⟨xa, xn, xc, rfl⟩ := hy2
      obtain ⟨nn, rfl⟩ := hy3
      simp (disch := first | omega | exact okFill_t rfl | exact okSize_t rfl | exact fun h => h | (simp only [World.size_alloc, World.size_drew, World.size_setCell, size_fill, bytesW]; omega)) only [go_sem, ↓reduceIte, reduceCtorEq, Nat.reduceBEq, Nat.reduceEqDiff, Nat.reduceAdd, Nat.reduceMul, Int.reduceNe, Int.reduceEq, Int.reduceLT, Int.reduceLE, Int.reduceNeg, Int.reduceAdd, Int.reduceSub, Int.reduceMul, Int.reduceToNat, beq_self_eq_true, c3, c3S0, c3S1, c3S2, c3S3, c3S4, c3S5, c3S7, c3S8]
      have s4 := s3.box #[.slice ya yn yc, .slice xa xn xc, .int .i64 nn] 27
      have b34 : Below w3.heap.size w3 (w3.alloc (.cells #[.slice ya yn yc, .slice xa xn xc, .int .i64 nn] 27)) := (Below.refl _ _).alloc (Nat.le_refl _) _
      generalize w3.alloc (.cells #[.slice ya yn yc, .slice xa xn xc, .int .i64 nn] 27) = w4 at s4 b34 ⊢
      generalize w3.heap.size = z at s4 ⊢
      have r4 := s4.rules 1 rfl
      simp (disch := first | omega | exact okFill_t rfl | exact okSize_t rfl | exact fun h => h | (simp only [World.size_alloc, World.size_drew, World.size_setCell, size_fill, bytesW]; omega)) only [go_sem, ↓reduceIte, reduceCtorEq, Nat.reduceBEq, Nat.reduceEqDiff, Nat.reduceAdd, Nat.reduceMul, Int.reduceNe, Int.reduceEq, Int.reduceLT, Int.reduceLE, Int.reduceNeg, Int.reduceAdd, Int.reduceSub, Int.reduceMul, Int.reduceToNat, beq_self_eq_true, c3, c3S0, c3S1, c3S2, c3S3, c3S4, c3S5, c3S6, c3S7, c3S8, r4]
      refine Ret.mono (rsearch_ok (K := kd) (M := 200) (h.below s4.bel (by decide)) (by omega) c2 hw (hE.below s4.bel) (by omega) (by decide) hEo hb) ?_
      rintro v w5 ⟨⟨V0, r', hU', hR', hV'⟩, b5⟩
      have s5 := s4.call b5
      have hEl : ∀ x ∈ D.map Prod.snd, Ok64 x ∧ x.length ≤ 200 ∧ (kd = 5 → x.Pairwise (· < ·)) := fun x hx => by
        obtain ⟨p, hp, rfl⟩ := List.mem_map.1 hx
        exact hEo p hp
      obtain ⟨ae, ax, be, bx, Ae, Ax, Be, Bx, na, ne, e1, rfl, k1, k2, k3, k4, k5, k6, k7, k8, k9, k10⟩ := same_search hU hU' hR hR' hV hV' (Below.next b34 b5) (by simp; omega) (fun x hx => by have := (hEl x hx).2.1; omega) (fun T hT => by
        subst hT
        have hT2 := hR.2
        obtain ⟨N, rfl, _⟩ := hR.1
        exact ⟨by omega, fun p hp => (Good.okS (bfsN_good c2 hw (start_good hU hEl) N p hp) (by omega)).2⟩)
      simp only [Value.tuple.injEq, Array.mk.injEq, List.cons.injEq, Value.agg.injEq, Value.int.injEq, true_and, and_true] at e1
      obtain ⟨⟨rfl, rfl, rfl⟩, rfl⟩ := e1
      obtain ⟨b1a, b1c, rfl, _⟩ := k3.form
      obtain ⟨b2a, b2c, rfl, _⟩ := k4.form
      simp (disch := first | omega | exact okFill_t rfl | exact okSize_t rfl | exact fun h => h | (simp only [World.size_alloc, World.size_drew, World.size_setCell, size_fill, bytesW]; omega)) only [go_sem, ↓reduceIte, reduceCtorEq, Nat.reduceBEq, Nat.reduceEqDiff, Nat.reduceAdd, Nat.reduceMul, Int.reduceNe, Int.reduceEq, Int.reduceLT, Int.reduceLE, Int.reduceNeg, Int.reduceAdd, Int.reduceSub, Int.reduceMul, Int.reduceToNat, beq_self_eq_true, c3, c3S0, c3S1, c3S2, c3S3, c3S4, c3S6, c3S7, c3S8]
      have s6 := s5.box #[.slice b1a Be.length b1c, .slice b2a Bx.length b2c, .int .i64 nn] 27
      have b56 : Below w5.heap.size w5 (w5.alloc (.cells #[.slice b1a Be.length b1c, .slice b2a Bx.length b2c, .int .i64 nn] 27)) := (Below.refl _ _).alloc (Nat.le_refl _) _
      generalize w5.alloc (.cells #[.slice b1a Be.length b1c, .slice b2a Bx.length b2c, .int .i64 nn] 27) = w6 at s6 b56 ⊢
      generalize w5.heap.size = z2 at s6 ⊢
      have r6 := s6.rules 0 rfl
      have q6 := s6.rules 1 rfl
      simp (disch := first | omega | exact okFill_t rfl | exact okSize_t rfl | exact fun h => h | (simp only [World.size_alloc, World.size_drew, World.size_setCell, size_fill, bytesW]; omega)) only [go_sem, ↓reduceIte, reduceCtorEq, Nat.reduceBEq, Nat.reduceEqDiff, Nat.reduceAdd, Nat.reduceMul, Int.reduceNe, Int.reduceEq, Int.reduceLT, Int.reduceLE, Int.reduceNeg, Int.reduceAdd, Int.reduceSub, Int.reduceMul, Int.reduceToNat, beq_self_eq_true, c3, c3S0, c3S1, c3S2, c3S3, c3S4, c3S5, c3S6, c3S7, c3S8, r6, q6]
      refine Ret.mono (same_ok (k1.below b56) (k2.below b56) (k3.below b56) (k4.below b56) k7 k8 k9 k10) ?_
      rintro _ w7 ⟨rfl, b7⟩
      have s7 := s6.call b7
      have e : (decide (Ae.map Prod.snd = Be.map Prod.snd) && (decide (Ax.map Prod.snd = Bx.map Prod.snd) && decide (nn = nn))) = true := by
        rw [decide_eq_true k5, decide_eq_true k6, decide_eq_true rfl]; rfl
      rw [e]
      simp (disch := first | omega | exact okFill_t rfl | exact okSize_t rfl | exact fun h => h | (simp only [World.size_alloc, World.size_drew, World.size_setCell, size_fill, bytesW]; omega)) only [go_sem, ↓reduceIte, reduceCtorEq, Nat.reduceBEq, Nat.reduceEqDiff, Nat.reduceAdd, Nat.reduceMul, Int.reduceNe, Int.reduceEq, Int.reduceLT, Int.reduceLE, Int.reduceNeg, Int.reduceAdd, Int.reduceSub, Int.reduceMul, Int.reduceToNat, beq_self_eq_true, c3, c3S0, c3S1, c3S2, c3S3, c3S4, c3S5, c3S6, c3S7, c3S8]
      refine Ret.mono (awake_ok w7) ?_
      rintro _ w8 ⟨rfl, b8⟩
      simp (disch := first | omega | exact okFill_t rfl | exact okSize_t rfl | exact fun h => h | (simp only [World.size_alloc, World.size_drew, World.size_setCell, size_fill, bytesW]; omega)) only [go_sem, ↓reduceIte, reduceCtorEq, Nat.reduceBEq, Nat.reduceEqDiff, Nat.reduceAdd, Nat.reduceMul, Int.reduceNe, Int.reduceEq, Int.reduceLT, Int.reduceLE, Int.reduceNeg, Int.reduceAdd, Int.reduceSub, Int.reduceMul, Int.reduceToNat, beq_self_eq_true, c3, c3S0, c3S1, c3S2, c3S3, c3S4, c3S5, c3S6, c3S7, c3S8]
      exact Below.next s7.bel b8
set_option maxRecDepth 100000 in
theorem linSearches_law {H : Type} {enc : TypeId × Value → H} {w : World} {r r' : Reach} {b b' base base' : Nat} {sp sp' : Nat → Bool} {hd hd' : Bool} {v v' : Value} {d d' : DataW H} {p p' : List MemPlace} {budget : Int}
    (h : Value.okWide Try.prog w r b 24 v) (k : DataW.Trod enc Try.prog w base sp hd 24 v d p) (h' : Value.okWide Try.prog w r' b' 25 v') (k' : DataW.Trod enc Try.prog w base' sp' hd' 25 v' d' p') (hk : Rows.uptoBulk d' ≤ 1048576) (hb : I64 budget) :
    Ret Try.prog 3 [v, v', .int .i64 budget] w fun u w' => u = .bool true ∧ Below w.heap.size w w' := by
  obtain ⟨a, cs, rfl, lv, rfl, q1, q2, q3⟩ := Opens.struct_arg opens_Seg Try.underlying24 h k
  obtain ⟨D, g1, g2, g3⟩ := sts_arg h' k'
  exact linSearches_ok q1 q3 q2 g1 g2 (by omega) hb
end Go.Proofs.Ytbeoedgoikcbpaa
