/- Texts put together by program: L37, L39, L40, L41. -/
import Derived.Test.YtbeoedgoikcbpaaM5
namespace Go.Proofs.Ytbeoedgoikcbpaa
set_option linter.unusedSimpArgs false
set_option linter.unusedVariables false
set_option maxRecDepth 100000
open Go Go.Ann Go.RowKit
theorem row_nil {w : World} : RowS w (.slice none 0 0) [] := ⟨⟨by simp, none, 0, rfl, Nat.le_refl _, fun h => absurd rfl h⟩, fun p hp => by cases hp⟩
theorem search_many {w : World} {l : List OpT} {lv ev : Value} {ob kd budget : Int} (h : RdS w 11 OpT.enc lv l) (hn : (16 : Int) < l.length) :
    Ret Try.prog 12 [.agg #[.int .i64 ob, .int .i64 kd, lv], ev, .int .i64 budget] w fun u w' => u = .tuple #[.agg #[.slice none 0 0, .slice none 0 0, .int .i64 0], .int .i64 34] ∧ Below w.heap.size w w' := by
  obtain ⟨la, lc, rfl, _⟩ := h.form
  refine ent12 _ _ _ _ _ ?_
  have s2 := ((St.start (W0 := w)).box #[.int .i64 ob, .int .i64 kd, .slice la l.length lc] 24).box #[.slice none 0 0, .slice none 0 0, .int .i64 0] 27
  rw [World.size_alloc] at s2
  simp (disch := first | omega | exact okFill_t rfl | exact okSize_t rfl | exact fun h => h | (simp only [World.size_alloc, World.size_drew, World.size_setCell, size_fill, bytesW]; omega)) only [go_sem, ↓reduceIte, reduceCtorEq, Nat.reduceBEq, Nat.reduceEqDiff, Nat.reduceAdd, Nat.reduceMul, Int.reduceNe, Int.reduceEq, Int.reduceLT, Int.reduceLE, Int.reduceNeg, Int.reduceAdd, Int.reduceSub, Int.reduceMul, Int.reduceToNat, beq_self_eq_true, c12, c12S0, c12S1, c12L0, c12S2, c12S3, c12S4, c12S5, c12S6, c12S7, c12L1, c12S8, c12S9, c12S10, c12S11, c12L2, c12S12, c12S13, c12S14, c12S15, c12S16, c12S17, c12S18, c12S19, hn]
  refine bdW_built (cells := #[.slice none 0 0, .slice none 0 0, .int .i64 0]) (by kernel_rfl) ?_
  have q2 := s2.rules 0 rfl
  simp (disch := first | omega | exact okFill_t rfl | exact okSize_t rfl | exact fun h => h | (simp only [World.size_alloc, World.size_drew, World.size_setCell, size_fill, bytesW]; omega)) only [go_sem, ↓reduceIte, reduceCtorEq, Nat.reduceBEq, Nat.reduceEqDiff, Nat.reduceAdd, Nat.reduceMul, Int.reduceNe, Int.reduceEq, Int.reduceLT, Int.reduceLE, Int.reduceNeg, Int.reduceAdd, Int.reduceSub, Int.reduceMul, Int.reduceToNat, beq_self_eq_true, c12, c12S0, c12S1, c12L0, c12S2, c12S3, c12S4, c12S5, c12S6, c12S7, c12L1, c12S8, c12S9, c12S10, c12S11, c12L2, c12S12, c12S13, c12S14, c12S15, c12S16, c12S17, c12S18, c12S19, q2]
  exact (s2.fill 0 rfl (cs := #[.slice none 0 0, .slice none 0 0, .int .i64 0]) rfl).bel
/-- Two searches of one segment have the same summary, and the same error. -/
theorem same_search {w1 w2 : World} {l : List OpT} {E U0 V0 : List (List Int)} {r s : Option (List Spot)} {b : Int} {u v : Value} (hU : Uniq E U0) (hV : Uniq E V0) (h1 : SearchR l (startP l.length U0) b r) (h2 : SearchR l (startP l.length V0) b s) (k1 : SearchV w1 l E U0 r u) (k2 : SearchV w2 l E V0 s v) (hb : Below w1.heap.size w1 w2)
    (hle : E.length ≤ 1000000) (hE : ∀ x ∈ E, x.length ≤ 1000000) (hQ : ∀ T, r = some T → T.length ≤ 1000000 ∧ ∀ p ∈ T, p.2.length ≤ 1000000) :
    ∃ ae ax be bx Ae Ax Be Bx na e, u = .tuple #[.agg #[ae, ax, .int .i64 na], .int .i64 e] ∧ v = .tuple #[.agg #[be, bx, .int .i64 na], .int .i64 e] ∧ RowS w2 ae Ae ∧ RowS w2 ax Ax ∧ RowS w2 be Be ∧ RowS w2 bx Bx ∧ Ae.map Prod.snd = Be.map Prod.snd ∧ Ax.map Prod.snd = Bx.map Prod.snd ∧
      Ae.length ≤ 1000000 ∧ Ax.length ≤ 1000000 ∧ (∀ p ∈ Ae, p.2.length ≤ 1000000) ∧ ∀ p ∈ Ax, p.2.length ≤ 1000000 := by
  have eU := hU.one hV
  subst eU
  have e := h1.one h2
  subst e
  cases r with
  | none =>
    subst k1 k2
    exact ⟨_, _, _, _, [], [], [], [], _, _, rfl, rfl, row_nil, row_nil, row_nil, row_nil, rfl, rfl, by simp, by simp, (fun p hp => by cases hp), fun p hp => by cases hp⟩
  | some T =>
    obtain ⟨ae, ax, Ae, Ax, rfl, a1, a2, a3, a4⟩ := k1
    obtain ⟨be, bx, Be, Bx, rfl, b1, b2, b3, b4⟩ := k2
    have hT := hQ T rfl
    refine ⟨ae, ax, be, bx, Ae, Ax, Be, Bx, _, _, rfl, rfl, a1.below hb, a3.below hb, b1, b3, a2.trans b2.symm, a4.one b4, ?_, ?_, fun p hp => ?_, fun p hp => ?_⟩
    · have h1 := uniq_le hU
      have h2 := congrArg List.length a2
      rw [List.length_map] at h2; omega
    · have h1 := uniq_le a4
      have h2 := List.length_filter_le (fun p : Spot => fullP l p.1) T
      simp only [List.length_map] at h1
      have := hT.1
      omega
    · have : p.2 ∈ Ae.map Prod.snd := List.mem_map.2 ⟨p, hp, rfl⟩
      rw [a2] at this
      exact hE _ ((hU.2 _).1 this)
    · have : p.2 ∈ Ax.map Prod.snd := List.mem_map.2 ⟨p, hp, rfl⟩
      obtain ⟨q, hq, e⟩ := List.mem_map.1 ((a4.2 _).1 this)
      rw [← e]
      exact hT.2 q (List.mem_filter.1 hq).1
/-- What is known of all spots that a search comes to. -/
theorem goP_good {K : Int} {M : Nat} {l : List OpT} {p : Spot} {t : List Spot} {k : Nat} (hK : ∀ o ∈ l, o.Kind = K) (hw : ∀ o ∈ l, o.wf) (hp : Good K M l.length p) (ht : ∀ q ∈ t, Good K M l.length q) : ∀ q ∈ goP l p t k, Good K M l.length q := by
  unfold goP
  split
  · exact ht
  · rename_i o ho
    obtain ⟨hk, rfl⟩ := List.getElem?_eq_some_iff.1 ho
    split
    · rename_i hm
      split
      · rename_i s hs
        intro q hq
        unfold addP at hq
        split at hq
        · exact ht q hq
        · rcases List.mem_append.1 hq with hq | hq
          · exact ht q hq
          · rw [List.mem_singleton] at hq; subst hq
            exact hp.go hk hK hw hm hs
      · exact ht
    · exact ht
theorem bfsN_good {K : Int} {M : Nat} {l : List OpT} {t0 : List Spot} (hK : ∀ o ∈ l, o.Kind = K) (hw : ∀ o ∈ l, o.wf) (h0 : ∀ q ∈ t0, Good K M l.length q) : ∀ N, ∀ q ∈ bfsN l t0 N, Good K M l.length q
  | 0 => h0
  | N + 1 => by
    have ih := bfsN_good hK hw h0 N
    rw [bfsN]
    split
    · rename_i p hp
      have hpg := ih p (List.mem_of_getElem? hp)
      have : ∀ k, ∀ q ∈ roundK l p (bfsN l t0 N) k, Good K M l.length q := by
        intro k
        induction k with
        | zero => exact ih
        | succ k ihk => exact goP_good hK hw hpg ihk
      exact this _
    · exact ih
theorem start_good {K : Int} {M n : Nat} {E U : List (List Int)} (hU : Uniq E U) (hE : ∀ s ∈ E, Ok64 s ∧ s.length ≤ M ∧ (K = 5 → s.Pairwise (· < ·))) : ∀ q ∈ startP n U, Good K M n q := fun q hq => by
  obtain ⟨s, hs, rfl⟩ := List.mem_map.1 hq
  obtain ⟨h1, h2, h3⟩ := hE s ((hU.2 s).1 hs)
  exact ⟨by simp, h1, by simp only; omega, h3⟩
theorem linSearches_ok {w : World} {l : List OpT} {lv ev : Value} {ob kd budget : Int} {D : List VS} (h : RdS w 11 OpT.enc lv l) (hl : (l.length : Int) ≤ 9223372036854775807) (hw : ∀ o ∈ l, o.wf) (hE : RowS w ev D) (h64 : ∀ p ∈ D, Ok64 p.2) (hD : bulkS D ≤ 1048576) (hb : I64 budget) :
    Ret Try.prog 3 [.agg #[.int .i64 ob, .int .i64 kd, lv], ev, .int .i64 budget] w fun u w' => u = .bool true ∧ Below w.heap.size w w' := by
  obtain ⟨la, lc, rfl, _⟩ := h.form
  refine ent3 _ _ _ _ _ ?_
  have s1 := (St.start (W0 := w)).box #[.int .i64 ob, .int .i64 kd, .slice la l.length lc] 24
  by_cases hn : (16 : Int) < l.length
  · have r1 := s1.rules 0 rfl
    have h1 := h.below s1.bel (by decide)
    simp (disch := first | omega | exact okFill_t rfl | exact okSize_t rfl | exact fun h => h | (simp only [World.size_alloc, World.size_drew, World.size_setCell, size_fill, bytesW]; omega)) only [go_sem, ↓reduceIte, reduceCtorEq, Nat.reduceBEq, Nat.reduceEqDiff, Nat.reduceAdd, Nat.reduceMul, Int.reduceNe, Int.reduceEq, Int.reduceLT, Int.reduceLE, Int.reduceNeg, Int.reduceAdd, Int.reduceSub, Int.reduceMul, Int.reduceToNat, beq_self_eq_true, c3, c3S0, c3S1, c3S2, c3S3, c3S4, c3S5, c3S6, c3S7, c3S8, hn]
    refine Ret.mono (search_many h1 hn) ?_
    rintro _ w2 ⟨rfl, b2⟩
    have s2 := (s1.call b2).box #[.slice none 0 0, .slice none 0 0, .int .i64 0] 27
    have r2 := s2.rules 0 rfl
    simp (disch := first | omega | exact okFill_t rfl | exact okSize_t rfl | exact fun h => h | (simp only [World.size_alloc, World.size_drew, World.size_setCell, size_fill, bytesW]; omega)) only [go_sem, ↓reduceIte, reduceCtorEq, Nat.reduceBEq, Nat.reduceEqDiff, Nat.reduceAdd, Nat.reduceMul, Int.reduceNe, Int.reduceEq, Int.reduceLT, Int.reduceLE, Int.reduceNeg, Int.reduceAdd, Int.reduceSub, Int.reduceMul, Int.reduceToNat, beq_self_eq_true, c3, c3S0, c3S1, c3S2, c3S3, c3S4, c3S5, c3S6, c3S7, c3S8]
    refine bdW_built (cells := #[.slice none 0 0, .slice none 0 0, .int .i64 0]) (by kernel_rfl) ?_
    simp (disch := first | omega | exact okFill_t rfl | exact okSize_t rfl | exact fun h => h | (simp only [World.size_alloc, World.size_drew, World.size_setCell, size_fill, bytesW]; omega)) only [go_sem, ↓reduceIte, reduceCtorEq, Nat.reduceBEq, Nat.reduceEqDiff, Nat.reduceAdd, Nat.reduceMul, Int.reduceNe, Int.reduceEq, Int.reduceLT, Int.reduceLE, Int.reduceNeg, Int.reduceAdd, Int.reduceSub, Int.reduceMul, Int.reduceToNat, beq_self_eq_true, c3, c3S0, c3S1, c3S2, c3S3, c3S4, c3S5, c3S6, c3S7, c3S8]
    refine Ret.mono (same_ok row_nil row_nil row_nil row_nil (by simp) (by simp) (fun p hp => by cases hp) (fun p hp => by cases hp)) ?_
    rintro _ w3 ⟨rfl, b3⟩
    have e : (decide ((([] : List VS).map Prod.snd) = (([] : List VS).map Prod.snd)) && (decide ((([] : List VS).map Prod.snd) = (([] : List VS).map Prod.snd)) && decide ((0 : Int) = 0))) = true := by decide
    rw [e]
    simp (disch := first | omega | exact okFill_t rfl | exact okSize_t rfl | exact fun h => h | (simp only [World.size_alloc, World.size_drew, World.size_setCell, size_fill, bytesW]; omega)) only [go_sem, ↓reduceIte, reduceCtorEq, Nat.reduceBEq, Nat.reduceEqDiff, Nat.reduceAdd, Nat.reduceMul, Int.reduceNe, Int.reduceEq, Int.reduceLT, Int.reduceLE, Int.reduceNeg, Int.reduceAdd, Int.reduceSub, Int.reduceMul, Int.reduceToNat, beq_self_eq_true, c3, c3S0, c3S1, c3S2, c3S3, c3S4, c3S5, c3S6, c3S7, c3S8]
    refine Ret.mono (awake_ok w3) ?_
    rintro _ w4 ⟨rfl, b4⟩
    simp (disch := first | omega | exact okFill_t rfl | exact okSize_t rfl | exact fun h => h | (simp only [World.size_alloc, World.size_drew, World.size_setCell, size_fill, bytesW]; omega)) only [go_sem, ↓reduceIte, reduceCtorEq, Nat.reduceBEq, Nat.reduceEqDiff, Nat.reduceAdd, Nat.reduceMul, Int.reduceNe, Int.reduceEq, Int.reduceLT, Int.reduceLE, Int.reduceNeg, Int.reduceAdd, Int.reduceSub, Int.reduceMul, Int.reduceToNat, beq_self_eq_true, c3, c3S0, c3S1, c3S2, c3S3, c3S4, c3S5, c3S6, c3S7, c3S8]
    exact Below.next (Below.next s2.bel b3) b4
  · have r1 := s1.rules 0 rfl
    have h1 := h.below s1.bel (by decide)
    have hE1 := hE.below s1.bel
    simp (disch := first | omega | exact okFill_t rfl | exact okSize_t rfl | exact fun h => h | (simp only [World.size_alloc, World.size_drew, World.size_setCell, size_fill, bytesW]; omega)) only [go_sem, ↓reduceIte, reduceCtorEq, Nat.reduceBEq, Nat.reduceEqDiff, Nat.reduceAdd, Nat.reduceMul, Int.reduceNe, Int.reduceEq, Int.reduceLT, Int.reduceLE, Int.reduceNeg, Int.reduceAdd, Int.reduceSub, Int.reduceMul, Int.reduceToNat, beq_self_eq_true, c3, c3S0, c3S1, c3S2, c3S3, c3S4, c3S5, c3S6, c3S8, hn]
    refine Ret.mono (small_ok h1 hl hE1 hD (by decide)) ?_
    rintro _ w2 ⟨⟨b, rfl, hbt⟩, b2⟩
    have s2 := s1.call b2
    cases b with
    | false =>
      simp (disch := first | omega | exact okFill_t rfl | exact okSize_t rfl | exact fun h => h | (simp only [World.size_alloc, World.size_drew, World.size_setCell, size_fill, bytesW]; omega)) only [go_sem, ↓reduceIte, reduceCtorEq, Nat.reduceBEq, Nat.reduceEqDiff, Nat.reduceAdd, Nat.reduceMul, Int.reduceNe, Int.reduceEq, Int.reduceLT, Int.reduceLE, Int.reduceNeg, Int.reduceAdd, Int.reduceSub, Int.reduceMul, Int.reduceToNat, beq_self_eq_true, c3, c3S0, c3S1, c3S2, c3S3, c3S4, c3S5, c3S6, c3S7, c3S8]
      refine Ret.mono (awake_ok w2) ?_
      rintro _ w3 ⟨rfl, b3⟩
      simp (disch := first | omega | exact okFill_t rfl | exact okSize_t rfl | exact fun h => h | (simp only [World.size_alloc, World.size_drew, World.size_setCell, size_fill, bytesW]; omega)) only [go_sem, ↓reduceIte, reduceCtorEq, Nat.reduceBEq, Nat.reduceEqDiff, Nat.reduceAdd, Nat.reduceMul, Int.reduceNe, Int.reduceEq, Int.reduceLT, Int.reduceLE, Int.reduceNeg, Int.reduceAdd, Int.reduceSub, Int.reduceMul, Int.reduceToNat, beq_self_eq_true, c3, c3S0, c3S1, c3S2, c3S3, c3S4, c3S5, c3S6, c3S7, c3S8]
      exact Below.next s2.bel b3
    | true =>
      obtain ⟨c1, c2, c3, c4, c5⟩ := hbt rfl
      have hEo : ∀ p ∈ D, Ok64 p.2 ∧ p.2.length ≤ 200 ∧ (kd = 5 → p.2.Pairwise (· < ·)) := fun p hp => ⟨h64 p hp, by have := sumL_mem hp; omega, fun h5 => c5 h5 p hp⟩
      have r2 := s2.rules 0 rfl
      simp (disch := first | omega | exact okFill_t rfl | exact okSize_t rfl | exact fun h => h | (simp only [World.size_alloc, World.size_drew, World.size_setCell, size_fill, bytesW]; omega)) only [go_sem, ↓reduceIte, reduceCtorEq, Nat.reduceBEq, Nat.reduceEqDiff, Nat.reduceAdd, Nat.reduceMul, Int.reduceNe, Int.reduceEq, Int.reduceLT, Int.reduceLE, Int.reduceNeg, Int.reduceAdd, Int.reduceSub, Int.reduceMul, Int.reduceToNat, beq_self_eq_true, c3, c3S0, c3S1, c3S2, c3S3, c3S4, c3S5, c3S7, c3S8, r2]
      have hl2 := h.below s2.bel (by decide)
      have hE2 := hE.below s2.bel
      refine Ret.mono (search_ok (K := kd) (M := 200) hl2 (by omega) c2 hw hE2 (by omega) (by decide) hEo hb) ?_
      rintro u w3 ⟨⟨U0, r, hU, hR, hV⟩, b3⟩
      have s3 := s2.call b3
      obtain ⟨ux, ue, rfl⟩ : ∃ x e, u = .tuple #[.agg x, .int .i64 e] := by
        cases r with
        | none => exact ⟨_, _, hV⟩
        | some T => obtain ⟨_, _, _, _, e, _⟩ := hV; exact ⟨_, _, e⟩
      obtain ⟨y1, y2, y3, rfl, hy1, hy2, hy3⟩ : ∃ y1 y2 y3, ux = #[y1, y2, y3] ∧ (∃ a n c, y1 = Value.slice a n c) ∧ (∃ a n c, y2 = Value.slice a n c) ∧ ∃ n, y3 = Value.int .i64 n := by
        cases r with
        | none => simp only [SearchV, Value.tuple.injEq, Array.mk.injEq, List.cons.injEq, Value.agg.injEq] at hV; exact ⟨_, _, _, hV.1, ⟨_, _, _, rfl⟩, ⟨_, _, _, rfl⟩, _, rfl⟩
        | some T =>
          obtain ⟨_, _, _, _, e, g1, _, g2, _⟩ := hV
          simp only [Value.tuple.injEq, Array.mk.injEq, List.cons.injEq, Value.agg.injEq] at e
          obtain ⟨_, _, f1, _⟩ := g1.form
          obtain ⟨_, _, f2, _⟩ := g2.form
          exact ⟨_, _, _, e.1, ⟨_, _, _, f1⟩, ⟨_, _, _, f2⟩, _, rfl⟩
      obtain ⟨ya, yn, yc, rfl⟩ := hy1
      obtain ⟨xa, xn, xc, rfl⟩ := hy2
      obtain ⟨nn, rfl⟩ := hy3
      simp (disch := first | omega | exact okFill_t rfl | exact okSize_t rfl | exact fun h => h | (simp only [World.size_alloc, World.size_drew, World.size_setCell, size_fill, bytesW]; omega)) only [go_sem, ↓reduceIte, reduceCtorEq, Nat.reduceBEq, Nat.reduceEqDiff, Nat.reduceAdd, Nat.reduceMul, Int.reduceNe, Int.reduceEq, Int.reduceLT, Int.reduceLE, Int.reduceNeg, Int.reduceAdd, Int.reduceSub, Int.reduceMul, Int.reduceToNat, beq_self_eq_true, c3, c3S0, c3S1, c3S2, c3S3, c3S4, c3S5, c3S7, c3S8]
      have s4 := s3.box #[.slice ya yn yc, .slice xa xn xc, .int .i64 nn] 27
      have b34 : Below w3.heap.size w3 (w3.alloc (.cells #[.slice ya yn yc, .slice xa xn xc, .int .i64 nn] 27)) := (Below.refl _ _).alloc (Nat.le_refl _) _
      generalize w3.alloc (.cells #[.slice ya yn yc, .slice xa xn xc, .int .i64 nn] 27) = w4 at s4 b34 ⊢
      generalize w3.heap.size = z at s4 ⊢
      have r4 := s4.rules 1 rfl
      simp (disch := first | omega | exact okFill_t rfl | exact okSize_t rfl | exact fun h => h | (simp only [World.size_alloc, World.size_drew, World.size_setCell, size_fill, bytesW]; omega)) only [go_sem, ↓reduceIte, reduceCtorEq, Nat.reduceBEq, Nat.reduceEqDiff, Nat.reduceAdd, Nat.reduceMul, Int.reduceNe, Int.reduceEq, Int.reduceLT, Int.reduceLE, Int.reduceNeg, Int.reduceAdd, Int.reduceSub, Int.reduceMul, Int.reduceToNat, beq_self_eq_true, c3, c3S0, c3S1, c3S2, c3S3, c3S4, c3S5, c3S6, c3S7, c3S8, r4]
      refine Ret.mono (rsearch_ok (K := kd) (M := 200) (h.below s4.bel (by decide)) (by omega) c2 hw (hE.below s4.bel) (by omega) (by decide) hEo hb) ?_
      rintro v w5 ⟨⟨V0, r', hU', hR', hV'⟩, b5⟩
      have s5 := s4.call b5
      have hEl : ∀ x ∈ D.map Prod.snd, Ok64 x ∧ x.length ≤ 200 ∧ (kd = 5 → x.Pairwise (· < ·)) := fun x hx => by
        obtain ⟨p, hp, rfl⟩ := List.mem_map.1 hx
        exact hEo p hp
      obtain ⟨ae, ax, be, bx, Ae, Ax, Be, Bx, na, ne, e1, rfl, k1, k2, k3, k4, k5, k6, k7, k8, k9, k10⟩ := same_search hU hU' hR hR' hV hV' (Below.next b34 b5) (by simp; omega) (fun x hx => by have := (hEl x hx).2.1; omega) (fun T hT => by
        subst hT
        have hT2 := hR.2
        obtain ⟨N, rfl, _⟩ := hR.1
        exact ⟨by omega, fun p hp => (Good.okS (bfsN_good c2 hw (start_good hU hEl) N p hp) (by omega)).2⟩)
      simp only [Value.tuple.injEq, Array.mk.injEq, List.cons.injEq, Value.agg.injEq, Value.int.injEq, true_and, and_true] at e1
      obtain ⟨⟨rfl, rfl, rfl⟩, rfl⟩ := e1
      obtain ⟨b1a, b1c, rfl, _⟩ := k3.form
      obtain ⟨b2a, b2c, rfl, _⟩ := k4.form
      simp (disch := first | omega | exact okFill_t rfl | exact okSize_t rfl | exact fun h => h | (simp only [World.size_alloc, World.size_drew, World.size_setCell, size_fill, bytesW]; omega)) only [go_sem, ↓reduceIte, reduceCtorEq, Nat.reduceBEq, Nat.reduceEqDiff, Nat.reduceAdd, Nat.reduceMul, Int.reduceNe, Int.reduceEq, Int.reduceLT, Int.reduceLE, Int.reduceNeg, Int.reduceAdd, Int.reduceSub, Int.reduceMul, Int.reduceToNat, beq_self_eq_true, c3, c3S0, c3S1, c3S2, c3S3, c3S4, c3S6, c3S7, c3S8]
      have s6 := s5.box #[.slice b1a Be.length b1c, .slice b2a Bx.length b2c, .int .i64 nn] 27
      have b56 : Below w5.heap.size w5 (w5.alloc (.cells #[.slice b1a Be.length b1c, .slice b2a Bx.length b2c, .int .i64 nn] 27)) := (Below.refl _ _).alloc (Nat.le_refl _) _
      generalize w5.alloc (.cells #[.slice b1a Be.length b1c, .slice b2a Bx.length b2c, .int .i64 nn] 27) = w6 at s6 b56 ⊢
      generalize w5.heap.size = z2 at s6 ⊢
      have r6 := s6.rules 0 rfl
      have q6 := s6.rules 1 rfl
      simp (disch := first | omega | exact okFill_t rfl | exact okSize_t rfl | exact fun h => h | (simp only [World.size_alloc, World.size_drew, World.size_setCell, size_fill, bytesW]; omega)) only [go_sem, ↓reduceIte, reduceCtorEq, Nat.reduceBEq, Nat.reduceEqDiff, Nat.reduceAdd, Nat.reduceMul, Int.reduceNe, Int.reduceEq, Int.reduceLT, Int.reduceLE, Int.reduceNeg, Int.reduceAdd, Int.reduceSub, Int.reduceMul, Int.reduceToNat, beq_self_eq_true, c3, c3S0, c3S1, c3S2, c3S3, c3S4, c3S5, c3S6, c3S7, c3S8, r6, q6]
      refine Ret.mono (same_ok (k1.below b56) (k2.below b56) (k3.below b56) (k4.below b56) k7 k8 k9 k10) ?_
      rintro _ w7 ⟨rfl, b7⟩
      have s7 := s6.call b7
      have e : (decide (Ae.map Prod.snd = Be.map Prod.snd) && (decide (Ax.map Prod.snd = Bx.map Prod.snd) && decide (nn = nn))) = true := by
        rw [decide_eq_true k5, decide_eq_true k6, decide_eq_true rfl]; rfl
      rw [e]
      simp (disch := first | omega | exact okFill_t rfl | exact okSize_t rfl | exact fun h => h | (simp only [World.size_alloc, World.size_drew, World.size_setCell, size_fill, bytesW]; omega)) only [go_sem, ↓reduceIte, reduceCtorEq, Nat.reduceBEq, Nat.reduceEqDiff, Nat.reduceAdd, Nat.reduceMul, Int.reduceNe, Int.reduceEq, Int.reduceLT, Int.reduceLE, Int.reduceNeg, Int.reduceAdd, Int.reduceSub, Int.reduceMul, Int.reduceToNat, beq_self_eq_true, c3, c3S0, c3S1, c3S2, c3S3, c3S4, c3S5, c3S6, c3S7, c3S8]
      refine Ret.mono (awake_ok w7) ?_
      rintro _ w8 ⟨rfl, b8⟩
      simp (disch := first | omega | exact okFill_t rfl | exact okSize_t rfl | exact fun h => h | (simp only [World.size_alloc, World.size_drew, World.size_setCell, size_fill, bytesW]; omega)) only [go_sem, ↓reduceIte, reduceCtorEq, Nat.reduceBEq, Nat.reduceEqDiff, Nat.reduceAdd, Nat.reduceMul, Int.reduceNe, Int.reduceEq, Int.reduceLT, Int.reduceLE, Int.reduceNeg, Int.reduceAdd, Int.reduceSub, Int.reduceMul, Int.reduceToNat, beq_self_eq_true, c3, c3S0, c3S1, c3S2, c3S3, c3S4, c3S5, c3S6, c3S7, c3S8]
      exact Below.next s7.bel b8
set_option maxRecDepth 100000 in
theorem linSearches_law {H : Type} {enc : TypeId × Value → H} {w : World} {r r' : Reach} {b b' base base' : Nat} {sp sp' : Nat → Bool} {hd hd' : Bool} {v v' : Value} {d d' : DataW H} {p p' : List MemPlace} {budget : Int}
    (h : Value.okWide Try.prog w r b 24 v) (k : DataW.Trod enc Try.prog w base sp hd 24 v d p) (h' : Value.okWide Try.prog w r' b' 25 v') (k' : DataW.Trod enc Try.prog w base' sp' hd' 25 v' d' p') (hk : Rows.uptoBulk d' ≤ 1048576) (hb : I64 budget) :
    Ret Try.prog 3 [v, v', .int .i64 budget] w fun u w' => u = .bool true ∧ Below w.heap.size w w' := by
  obtain ⟨a, cs, rfl, lv, rfl, q1, q2, q3⟩ := Opens.struct_arg opens_Seg Try.underlying24 h k
  obtain ⟨D, g1, g2, g3⟩ := sts_arg h' k'
  exact linSearches_ok q1 q3 q2 g1 g2 (by omega) hb
end Go.Proofs.Ytbeoedgoikcbpaa
namespace Go.Proofs.Ytbeoedgoikcbpaa
set_option linter.unusedSimpArgs false
set_option linter.unusedVariables false
set_option maxRecDepth 100000
open Go Go.Ann Go.RowKit
/-- The spot that one operation more leads to. -/
def newAt (l : List OpT) (p : Spot) (k : Nat) : List Spot :=
  match l[k]? with
  | none => []
  | some o => if mayP l p.1 k o then (match stepP p.2 o with
    | some s => [(p.1.set k true, s)]
    | none => []) else []
/-- The next spots of a spot, in order. -/
def nextL (l : List OpT) (p : Spot) : Nat → List Spot
  | 0 => []
  | k + 1 => nextL l p k ++ newAt l p k
theorem goP_eq (l : List OpT) (p : Spot) (t : List Spot) (k : Nat) : goP l p t k = (match newAt l p k with | [] => t | q :: _ => addP t q) := by
  unfold goP newAt
  cases l[k]? with
  | none => rfl
  | some o =>
    simp only
    cases mayP l p.1 k o with
    | false => rfl
    | true =>
      simp only [if_true]
      cases stepP p.2 o <;> rfl
theorem newAt_one (l : List OpT) (p : Spot) (k : Nat) : newAt l p k = [] ∨ ∃ q, newAt l p k = [q] := by
  unfold newAt
  split
  · exact .inl rfl
  · split
    · split
      · exact .inr ⟨_, rfl⟩
      · exact .inl rfl
    · exact .inl rfl
theorem addP_mem {t : List Spot} {p q : Spot} : q ∈ addP t p ↔ q ∈ t ∨ q = p := by
  unfold addP
  split
  · rename_i h
    exact ⟨.inl, fun h' => h'.elim id fun e => by rw [e]; exact h⟩
  · rw [List.mem_append, List.mem_singleton]
theorem addP_nodup {t : List Spot} {p : Spot} (h : t.Nodup) : (addP t p).Nodup := by
  unfold addP
  split
  · exact h
  · rename_i hn
    refine List.nodup_append.2 ⟨h, by simp, fun a ha b hb e => ?_⟩
    rw [List.mem_singleton] at hb
    subst hb e
    exact hn ha
theorem roundK_mem {l : List OpT} {p : Spot} {t : List Spot} {q : Spot} : ∀ k, q ∈ roundK l p t k ↔ q ∈ t ∨ q ∈ nextL l p k
  | 0 => by simp [roundK, nextL]
  | k + 1 => by
    have ih := roundK_mem (l := l) (p := p) (t := t) (q := q) k
    rw [roundK, nextL, List.mem_append, goP_eq]
    rcases newAt_one l p k with e | ⟨r, e⟩
    · rw [e, ih]; simp
    · rw [e]
      simp only
      rw [addP_mem, ih, List.mem_singleton, or_assoc]
theorem goP_nodup {l : List OpT} {p : Spot} {t : List Spot} {k : Nat} (h : t.Nodup) : (goP l p t k).Nodup := by
  unfold goP
  split
  · exact h
  · split
    · split
      · exact addP_nodup h
      · exact h
    · exact h
theorem roundK_nodup {l : List OpT} {p : Spot} {t : List Spot} (h : t.Nodup) : ∀ k, (roundK l p t k).Nodup
  | 0 => h
  | k + 1 => goP_nodup (roundK_nodup h k)
theorem bfsN_nodup {l : List OpT} {t0 : List Spot} (h : t0.Nodup) : ∀ N, (bfsN l t0 N).Nodup
  | 0 => h
  | N + 1 => by
    rw [bfsN]; split
    · exact roundK_nodup (bfsN_nodup h N) _
    · exact bfsN_nodup h N
/-- What can be come to. -/
inductive Rch (l : List OpT) : Spot → Spot → Prop
  | refl (p : Spot) : Rch l p p
  | step {p q r : Spot} : Rch l p q → r ∈ nextL l q l.length → Rch l p r
theorem Rch.head {l : List OpT} {p q r : Spot} (h : q ∈ nextL l p l.length) (k : Rch l q r) : Rch l p r := by
  induction k with
  | refl => exact .step (.refl _) h
  | step _ hs ih => exact .step ih hs
theorem Rch.trans {l : List OpT} {p q r : Spot} (h : Rch l p q) (k : Rch l q r) : Rch l p r := by
  induction k with
  | refl => exact h
  | step _ hs ih => exact .step ih hs
theorem Rch.cases_head {l : List OpT} {p r : Spot} (h : Rch l p r) : p = r ∨ ∃ q ∈ nextL l p l.length, Rch l q r := by
  induction h with
  | refl => exact .inl rfl
  | step h1 hs ih =>
    rcases ih with rfl | ⟨q, hq, hr⟩
    · exact .inr ⟨_, hs, .refl _⟩
    · exact .inr ⟨q, hq, .step hr hs⟩
theorem bfsN_rch {l : List OpT} {t0 : List Spot} : ∀ N, ∀ q ∈ bfsN l t0 N, ∃ p ∈ t0, Rch l p q
  | 0 => fun q hq => ⟨q, hq, .refl q⟩
  | N + 1 => by
    intro q hq
    rw [bfsN] at hq
    split at hq
    · rename_i p hp
      rcases (roundK_mem _).1 hq with hq | hq
      · exact bfsN_rch N q hq
      · obtain ⟨p0, h0, hr⟩ := bfsN_rch N p (List.mem_of_getElem? hp)
        exact ⟨p0, h0, .step hr hq⟩
    · exact bfsN_rch N q hq
theorem bfsN_done {l : List OpT} {t0 : List Spot} : ∀ {N i : Nat} {p : Spot}, i < N → (bfsN l t0 N)[i]? = some p → ∀ q ∈ nextL l p l.length, q ∈ bfsN l t0 N
  | 0, i, p, h, _ => by omega
  | N + 1, i, p, h, hp => by
    intro q hq
    have hpre := bfsN_step l t0 N
    rcases Nat.lt_or_ge i N with hi | hi
    · by_cases hl : i < (bfsN l t0 N).length
      · have hp' : (bfsN l t0 N)[i]? = some p := by
          obtain ⟨t, ht⟩ := hpre
          rw [← ht, List.getElem?_append_left hl] at hp
          exact hp
        exact hpre.subset (bfsN_done hi hp' q hq)
      · have hc : bfsN l t0 (N + 1) = bfsN l t0 N := bfsN_closed (by omega) (by omega)
        rw [hc, List.getElem?_eq_none (by omega)] at hp
        cases hp
    · obtain rfl : i = N := by omega
      by_cases hl : i < (bfsN l t0 i).length
      · have hp' : (bfsN l t0 i)[i]? = some p := by
          obtain ⟨t, ht⟩ := hpre
          rw [← ht, List.getElem?_append_left hl] at hp
          exact hp
        rw [bfsN, hp']
        exact (roundK_mem _).2 (.inr hq)
      · have hc : bfsN l t0 (i + 1) = bfsN l t0 i := bfsN_closed (by omega) (by omega)
        rw [hc, List.getElem?_eq_none (by omega)] at hp
        cases hp
/-- A search that ends has come to all that can be come to. -/
theorem closed_mem {l : List OpT} {t0 T : List Spot} (h : ∃ N, bfsN l t0 N = T ∧ T.length ≤ N) (q : Spot) : q ∈ T ↔ ∃ p ∈ t0, Rch l p q := by
  obtain ⟨N, rfl, hN⟩ := h
  refine ⟨bfsN_rch N q, ?_⟩
  rintro ⟨p, hp, hr⟩
  induction hr with
  | refl => exact (bfsN_mono l t0 (Nat.zero_le N)).subset hp
  | step _ hs ih =>
    obtain ⟨i, hi, e⟩ := List.mem_iff_getElem.1 ih
    exact bfsN_done (i := i) (N := N) (Nat.lt_of_lt_of_le hi hN) (by rw [List.getElem?_eq_getElem hi, e]) _ hs
theorem startP_nodup {n : Nat} {E U : List (List Int)} (h : Uniq E U) : (startP n U).Nodup := by
  unfold startP
  have hn := uniq_nodup h
  induction U with
  | nil => simp
  | cons s U ih =>
    rw [List.map_cons]
    obtain ⟨h1, h2⟩ := List.nodup_cons.1 hn
    refine List.nodup_cons.2 ⟨fun hm => ?_, ?_⟩
    · obtain ⟨t, ht, e⟩ := List.mem_map.1 hm
      simp only [Prod.mk.injEq, true_and] at e
      exact h1 (by rw [← e]; exact ht)
    · have : ∀ {U : List (List Int)}, U.Nodup → (U.map fun s => ((List.replicate n false, s) : Spot)).Nodup := by
        intro U
        induction U with
        | nil => intro _; simp
        | cons s U ih =>
          intro hn
          obtain ⟨h1, h2⟩ := List.nodup_cons.1 hn
          rw [List.map_cons]
          refine List.nodup_cons.2 ⟨fun hm => ?_, ih h2⟩
          obtain ⟨t, ht, e⟩ := List.mem_map.1 hm
          simp only [Prod.mk.injEq, true_and] at e
          exact h1 (by rw [← e]; exact ht)
      exact this h2
/-- More than enough changes nothing. -/
theorem SearchR.more {l : List OpT} {t0 T : List Spot} {b c : Int} (h : SearchR l t0 b (some T)) (hc : (T.length : Int) ≤ c) : SearchR l t0 c (some T) := ⟨h.1, hc⟩
theorem SearchR.less {l : List OpT} {t0 T : List Spot} {b c : Int} (h : SearchR l t0 b (some T)) (hc : c < (T.length : Int)) : SearchR l t0 c none := by
  obtain ⟨⟨N, h1, h2⟩, _⟩ := h
  exact ⟨N, by rw [h1]; exact hc⟩
theorem exits_mem {l : List OpT} {T : List Spot} {X : List (List Int)} (h : Uniq ((T.filter fun p => fullP l p.1).map Prod.snd) X) (s : List Int) : s ∈ X ↔ ∃ d, (d, s) ∈ T ∧ fullP l d = true := by
  rw [h.2 s, List.mem_map]
  constructor
  · rintro ⟨⟨d, s'⟩, hp, rfl⟩
    obtain ⟨h1, h2⟩ := List.mem_filter.1 hp
    exact ⟨d, h1, h2⟩
  · rintro ⟨d, h1, h2⟩
    exact ⟨(d, s), List.mem_filter.2 ⟨h1, h2⟩, rfl⟩
end Go.Proofs.Ytbeoedgoikcbpaa
namespace Go.Proofs.Ytbeoedgoikcbpaa
set_option linter.unusedSimpArgs false
set_option linter.unusedVariables false
set_option maxRecDepth 100000
open Go Go.Ann Go.RowKit
theorem SearchV.form {w' : World} {l : List OpT} {E U0 : List (List Int)} {r : Option (List Spot)} {u : Value} (h : SearchV w' l E U0 r u) : ∃ ya yn yc xa xn xc nn ue, u = .tuple #[.agg #[.slice ya yn yc, .slice xa xn xc, .int .i64 nn], .int .i64 ue] ∧ (ue = if r.isSome then 0 else 35) := by
  cases r with
  | none => exact ⟨_, _, _, _, _, _, _, _, h, rfl⟩
  | some T =>
    obtain ⟨_, _, _, _, e, g1, _, g2, _⟩ := h
    obtain ⟨_, _, rfl, _⟩ := g1.form
    obtain ⟨_, _, rfl, _⟩ := g2.form
    exact ⟨_, _, _, _, _, _, _, _, e, rfl⟩
/-- What a summary of a search that came to its end is. -/
theorem SearchV.some {w' : World} {l : List OpT} {E U0 : List (List Int)} {T : List Spot} {ya xa : Option Addr} {yn yc xn xc : Nat} {nn ue : Int} (h : SearchV w' l E U0 (some T) (.tuple #[.agg #[.slice ya yn yc, .slice xa xn xc, .int .i64 nn], .int .i64 ue])) :
    ue = 0 ∧ nn = T.length ∧ ∃ U X, RowS w' (.slice ya yn yc) U ∧ U.map Prod.snd = U0 ∧ RowS w' (.slice xa xn xc) X ∧ Uniq ((T.filter fun p => fullP l p.1).map Prod.snd) (X.map Prod.snd) := by
  obtain ⟨uv, xv, U, X, e, h1, h2, h3, h4⟩ := h
  simp only [Value.tuple.injEq, Array.mk.injEq, List.cons.injEq, Value.agg.injEq, Value.int.injEq, true_and, and_true] at e
  obtain ⟨⟨rfl, rfl, rfl⟩, rfl⟩ := e
  exact ⟨rfl, rfl, U, X, h1, h2, h3, h4⟩
theorem Uniq.len {T : List Spot} {l : List OpT} {X : List VS} (h : Uniq ((T.filter fun p => fullP l p.1).map Prod.snd) (X.map Prod.snd)) : X.length ≤ T.length := by
  have h1 := uniq_le h
  have h2 := List.length_filter_le (fun p : Spot => fullP l p.1) T
  simp only [List.length_map] at h1
  omega
/-- A search of a small segment. -/
theorem small_search {w : World} {l : List OpT} {lv ev : Value} {ob kd budget : Int} {D : List VS} (h : RdS w 11 OpT.enc lv l) (hw : ∀ o ∈ l, o.wf) (hE : RowS w ev D) (h64 : ∀ p ∈ D, Ok64 p.2) (hb : I64 budget) {most : Int} (hm : most ≤ 16)
    (hs : (l.length : Int) ≤ most ∧ (∀ o ∈ l, o.Kind = kd) ∧ D.length ≤ 20 ∧ sumL D ≤ 200 ∧ (kd = 5 → ∀ p ∈ D, p.2.Pairwise (· < ·))) :
    Ret Try.prog 12 [.agg #[.int .i64 ob, .int .i64 kd, lv], ev, .int .i64 budget] w fun u w' => (∃ U0 r, Uniq (D.map Prod.snd) U0 ∧ SearchR l (startP l.length U0) (min budget 32768) r ∧ SearchV w' l (D.map Prod.snd) U0 r u) ∧ Below w.heap.size w w' := by
  obtain ⟨c1, c2, c3, c4, c5⟩ := hs
  exact search_ok (K := kd) (M := 200) h (by omega) c2 hw hE (by omega) (by decide) (fun p hp => ⟨h64 p hp, by have := sumL_mem hp; omega, fun h5 => c5 h5 p hp⟩) hb
theorem small_okS {l : List OpT} {kd : Int} {D : List VS} {U0 : List (List Int)} (hw : ∀ o ∈ l, o.wf) (h64 : ∀ p ∈ D, Ok64 p.2) {most : Int} (hm : most ≤ 16)
    (hs : (l.length : Int) ≤ most ∧ (∀ o ∈ l, o.Kind = kd) ∧ D.length ≤ 20 ∧ sumL D ≤ 200 ∧ (kd = 5 → ∀ p ∈ D, p.2.Pairwise (· < ·))) (hU : Uniq (D.map Prod.snd) U0) : ∀ N, ∀ p ∈ bfsN l (startP l.length U0) N, OkS p.2 := by
  obtain ⟨c1, c2, c3, c4, c5⟩ := hs
  intro N p hp
  refine Good.okS (K := kd) (M := 200) (n := l.length) (bfsN_good c2 hw (start_good hU fun s hs => ?_) N p hp) (by omega)
  obtain ⟨q, hq, rfl⟩ := List.mem_map.1 hs
  exact ⟨h64 q hq, by have := sumL_mem hq; omega, fun h5 => c5 h5 q hq⟩
theorem linBudget_ok {w : World} {l : List OpT} {lv ev : Value} {ob kd more : Int} {D : List VS} (h : RdS w 11 OpT.enc lv l) (hl : (l.length : Int) ≤ 9223372036854775807) (hw : ∀ o ∈ l, o.wf) (hE : RowS w ev D) (h64 : ∀ p ∈ D, Ok64 p.2) (hD : bulkS D ≤ 1048576) (hm : 0 ≤ more ∧ more ≤ 65535) :
    Ret Try.prog 7 [.agg #[.int .i64 ob, .int .i64 kd, lv], ev, .int .u16 more] w fun u w' => u = .bool true ∧ Below w.heap.size w w' := by
  obtain ⟨la, lc, rfl, _⟩ := h.form
  refine ent7 _ _ _ _ _ ?_
  have s1 := (St.start (W0 := w)).box #[.int .i64 ob, .int .i64 kd, .slice la l.length lc] 24
  simp (disch := first | omega | exact okFill_t rfl | exact okSize_t rfl | exact fun h => h | (simp only [World.size_alloc, World.size_drew, World.size_setCell, size_fill, bytesW]; omega)) only [go_sem, ↓reduceIte, reduceCtorEq, Nat.reduceBEq, Nat.reduceEqDiff, Nat.reduceAdd, Nat.reduceMul, Int.reduceNe, Int.reduceEq, Int.reduceLT, Int.reduceLE, Int.reduceNeg, Int.reduceAdd, Int.reduceSub, Int.reduceMul, Int.reduceToNat, beq_self_eq_true, c7, c7S0, c7S1, c7S2, c7S3, c7S4, c7S5, c7S6, c7S7, c7S8, c7S9]
  refine Ret.mono (small_ok (h.below s1.bel (by decide)) hl (hE.below s1.bel) hD (by decide)) ?_
  rintro _ w2 ⟨⟨b, rfl, hbt⟩, b2⟩
  have s2 := s1.call b2
  cases b with
  | false =>
    simp (disch := first | omega | exact okFill_t rfl | exact okSize_t rfl | exact fun h => h | (simp only [World.size_alloc, World.size_drew, World.size_setCell, size_fill, bytesW]; omega)) only [go_sem, ↓reduceIte, reduceCtorEq, Nat.reduceBEq, Nat.reduceEqDiff, Nat.reduceAdd, Nat.reduceMul, Int.reduceNe, Int.reduceEq, Int.reduceLT, Int.reduceLE, Int.reduceNeg, Int.reduceAdd, Int.reduceSub, Int.reduceMul, Int.reduceToNat, beq_self_eq_true, c7, c7S0, c7S1, c7S2, c7S3, c7S4, c7S5, c7S6, c7S7, c7S8, c7S9]
    refine Ret.mono (awake_ok w2) ?_
    rintro _ w3 ⟨rfl, b3⟩
    simp (disch := first | omega | exact okFill_t rfl | exact okSize_t rfl | exact fun h => h | (simp only [World.size_alloc, World.size_drew, World.size_setCell, size_fill, bytesW]; omega)) only [go_sem, ↓reduceIte, reduceCtorEq, Nat.reduceBEq, Nat.reduceEqDiff, Nat.reduceAdd, Nat.reduceMul, Int.reduceNe, Int.reduceEq, Int.reduceLT, Int.reduceLE, Int.reduceNeg, Int.reduceAdd, Int.reduceSub, Int.reduceMul, Int.reduceToNat, beq_self_eq_true, c7, c7S0, c7S1, c7S2, c7S3, c7S4, c7S5, c7S6, c7S7, c7S8, c7S9]
    exact Below.next s2.bel b3
  | true =>
    have hs := hbt rfl
    have r2 := s2.rules 0 rfl
    simp (disch := first | omega | exact okFill_t rfl | exact okSize_t rfl | exact fun h => h | (simp only [World.size_alloc, World.size_drew, World.size_setCell, size_fill, bytesW]; omega)) only [go_sem, ↓reduceIte, reduceCtorEq, Nat.reduceBEq, Nat.reduceEqDiff, Nat.reduceAdd, Nat.reduceMul, Int.reduceNe, Int.reduceEq, Int.reduceLT, Int.reduceLE, Int.reduceNeg, Int.reduceAdd, Int.reduceSub, Int.reduceMul, Int.reduceToNat, beq_self_eq_true, c7, c7S0, c7S1, c7S2, c7S3, c7S4, c7S5, c7S6, c7S7, c7S8, c7S9, r2]
    refine Ret.mono (small_search (h.below s2.bel (by decide)) hw (hE.below s2.bel) h64 (by constructor <;> decide) (by decide) hs) ?_
    rintro u w3 ⟨⟨U0, r, hU, hR, hV⟩, b3⟩
    have s3 := s2.call b3
    obtain ⟨ya, yn, yc, xa, xn, xc, nn, ue, rfl, hue⟩ := hV.form
    cases r with
    | none =>
      have hue : ue = 35 := hue
      subst hue
      have s4 := s3.box #[.slice ya yn yc, .slice xa xn xc, .int .i64 nn] 27
      simp (disch := first | omega | exact okFill_t rfl | exact okSize_t rfl | exact fun h => h | (simp only [World.size_alloc, World.size_drew, World.size_setCell, size_fill, bytesW]; omega)) only [go_sem, ↓reduceIte, reduceCtorEq, Nat.reduceBEq, Nat.reduceEqDiff, Nat.reduceAdd, Nat.reduceMul, Int.reduceNe, Int.reduceEq, Int.reduceLT, Int.reduceLE, Int.reduceNeg, Int.reduceAdd, Int.reduceSub, Int.reduceMul, Int.reduceToNat, beq_self_eq_true, c7, c7S0, c7S1, c7S2, c7S3, c7S4, c7S5, c7S6, c7S7, c7S8, c7S9]
      refine Ret.mono (awake_ok _) ?_
      rintro _ w5 ⟨rfl, b5⟩
      simp (disch := first | omega | exact okFill_t rfl | exact okSize_t rfl | exact fun h => h | (simp only [World.size_alloc, World.size_drew, World.size_setCell, size_fill, bytesW]; omega)) only [go_sem, ↓reduceIte, reduceCtorEq, Nat.reduceBEq, Nat.reduceEqDiff, Nat.reduceAdd, Nat.reduceMul, Int.reduceNe, Int.reduceEq, Int.reduceLT, Int.reduceLE, Int.reduceNeg, Int.reduceAdd, Int.reduceSub, Int.reduceMul, Int.reduceToNat, beq_self_eq_true, c7, c7S0, c7S1, c7S2, c7S3, c7S4, c7S5, c7S6, c7S7, c7S8, c7S9]
      exact Below.next s4.bel b5
    | some T =>
      obtain ⟨rfl, rfl, U, X, hU3, eU, hX3, eX⟩ := SearchV.some hV
      have hT32 : (T.length : Int) ≤ 32768 := by have := hR.2; omega
      have fT : ∀ p ∈ T, OkS p.2 := by
        obtain ⟨⟨N, rfl, _⟩, _⟩ := hR
        exact small_okS hw h64 (by decide) hs hU N
      have s4 := s3.box #[.slice ya yn yc, .slice xa xn xc, .int .i64 T.length] 27
      have b34 : Below w3.heap.size w3 (w3.alloc (.cells #[.slice ya yn yc, .slice xa xn xc, .int .i64 T.length] 27)) := (Below.refl _ _).alloc (Nat.le_refl _) _
      simp (disch := first | omega | exact okFill_t rfl | exact okSize_t rfl | exact fun h => h | (simp only [World.size_alloc, World.size_drew, World.size_setCell, size_fill, bytesW]; omega)) only [go_sem, ↓reduceIte, reduceCtorEq, Nat.reduceBEq, Nat.reduceEqDiff, Nat.reduceAdd, Nat.reduceMul, Int.reduceNe, Int.reduceEq, Int.reduceLT, Int.reduceLE, Int.reduceNeg, Int.reduceAdd, Int.reduceSub, Int.reduceMul, Int.reduceToNat, beq_self_eq_true, c7, c7S0, c7S1, c7S2, c7S3, c7S4, c7S5, c7S6, c7S7, c7S9]
      have hU4 := hU3.below b34
      have hX4 := hX3.below b34
      generalize w3.alloc (.cells #[.slice ya yn yc, .slice xa xn xc, .int .i64 T.length] 27) = w4 at s4 hU4 hX4 ⊢
      generalize w3.heap.size = z4 at s4 ⊢
      have r4 := s4.rules 1 rfl
      have q4 := s4.rules 0 rfl
      have l4 := (s4.low 0 rfl).2
      simp (disch := first | omega | exact okFill_t rfl | exact okSize_t rfl | exact fun h => h | (simp only [World.size_alloc, World.size_drew, World.size_setCell, size_fill, bytesW]; omega)) only [go_sem, ↓reduceIte, reduceCtorEq, Nat.reduceBEq, Nat.reduceEqDiff, Nat.reduceAdd, Nat.reduceMul, Int.reduceNe, Int.reduceEq, Int.reduceLT, Int.reduceLE, Int.reduceNeg, Int.reduceAdd, Int.reduceSub, Int.reduceMul, Int.reduceToNat, beq_self_eq_true, c7, c7S0, c7S1, c7S2, c7S3, c7S4, c7S5, c7S7, c7S8, c7S9, r4, q4]
      refine Ret.mono (small_search (h.below s4.bel (by decide)) hw (hE.below s4.bel) h64 (by constructor <;> omega) (by decide) hs) ?_
      rintro u5 w5 ⟨⟨U5, R5, hUn5, hR5, hV5⟩, b5⟩
      have eU5 := hU.one hUn5
      subst eU5
      obtain rfl : R5 = some T := hR5.one (hR.more (by omega))
      obtain ⟨y5, n5, cp5, x5, m5, e5, nn5, ue5, rfl, _⟩ := hV5.form
      obtain ⟨rfl, rfl, V5, Z5, g5, f5, k5, j5⟩ := SearchV.some hV5
      have s6 := (s4.call b5).box #[.slice y5 n5 cp5, .slice x5 m5 e5, .int .i64 T.length] 27
      have b56 : Below w5.heap.size w5 (w5.alloc (.cells #[.slice y5 n5 cp5, .slice x5 m5 e5, .int .i64 T.length] 27)) := (Below.refl _ _).alloc (Nat.le_refl _) _
      simp (disch := first | omega | exact okFill_t rfl | exact okSize_t rfl | exact fun h => h | (simp only [World.size_alloc, World.size_drew, World.size_setCell, size_fill, bytesW]; omega)) only [go_sem, ↓reduceIte, reduceCtorEq, Nat.reduceBEq, Nat.reduceEqDiff, Nat.reduceAdd, Nat.reduceMul, Int.reduceNe, Int.reduceEq, Int.reduceLT, Int.reduceLE, Int.reduceNeg, Int.reduceAdd, Int.reduceSub, Int.reduceMul, Int.reduceToNat, beq_self_eq_true, c7, c7S0, c7S1, c7S2, c7S3, c7S4, c7S5, c7S7, c7S8, c7S9]
      have hU6 := (hU4.below b5).below b56
      have hX6 := (hX4.below b5).below b56
      have g6 := g5.below b56
      have k6 := k5.below b56
      generalize w5.alloc (.cells #[.slice y5 n5 cp5, .slice x5 m5 e5, .int .i64 T.length] 27) = w6 at s6 hU6 hX6 g6 k6 ⊢
      generalize w5.heap.size = z6 at s6 ⊢
      have r6 := s6.rules 2 rfl
      have q6 := s6.rules 1 rfl
      have em : IntKind.i64.wrap more = more := wrap_i64 _ (by constructor <;> omega)
      simp (disch := first | omega | exact okFill_t rfl | exact okSize_t rfl | exact fun h => h | (simp only [World.size_alloc, World.size_drew, World.size_setCell, size_fill, bytesW]; omega)) only [go_sem, ↓reduceIte, reduceCtorEq, Nat.reduceBEq, Nat.reduceEqDiff, Nat.reduceAdd, Nat.reduceMul, Int.reduceNe, Int.reduceEq, Int.reduceLT, Int.reduceLE, Int.reduceNeg, Int.reduceAdd, Int.reduceSub, Int.reduceMul, Int.reduceToNat, beq_self_eq_true, c7, c7S0, c7S1, c7S2, c7S3, c7S4, c7S6, c7S7, c7S8, c7S9, r6, q6, em]
      refine ⟨by constructor <;> omega, by constructor <;> omega, ?_⟩
      refine Ret.mono (small_search (h.below s6.bel (by decide)) hw (hE.below s6.bel) h64 (by constructor <;> omega) (by decide) hs) ?_
      rintro u7 w7 ⟨⟨U7, R7, hUn7, hR7, hV7⟩, b7⟩
      have eU7 := hU.one hUn7
      subst eU7
      obtain rfl : R7 = some T := hR7.one (hR.more (by omega))
      obtain ⟨y7, n7, cp7, x7, m7, e7, nn7, ue7, rfl, _⟩ := hV7.form
      obtain ⟨rfl, rfl, V7, Z7, g7, f7, k7, j7⟩ := SearchV.some hV7
      have s8 := (s6.call b7).box #[.slice y7 n7 cp7, .slice x7 m7 e7, .int .i64 T.length] 27
      have b78 : Below w7.heap.size w7 (w7.alloc (.cells #[.slice y7 n7 cp7, .slice x7 m7 e7, .int .i64 T.length] 27)) := (Below.refl _ _).alloc (Nat.le_refl _) _
      simp (disch := first | omega | exact okFill_t rfl | exact okSize_t rfl | exact fun h => h | (simp only [World.size_alloc, World.size_drew, World.size_setCell, size_fill, bytesW]; omega)) only [go_sem, ↓reduceIte, reduceCtorEq, Nat.reduceBEq, Nat.reduceEqDiff, Nat.reduceAdd, Nat.reduceMul, Int.reduceNe, Int.reduceEq, Int.reduceLT, Int.reduceLE, Int.reduceNeg, Int.reduceAdd, Int.reduceSub, Int.reduceMul, Int.reduceToNat, beq_self_eq_true, c7, c7S0, c7S1, c7S2, c7S3, c7S4, c7S6, c7S7, c7S8, c7S9]
      have hU8 := (hU6.below b7).below b78
      have hX8 := (hX6.below b7).below b78
      have g8 := (g6.below b7).below b78
      have k8 := (k6.below b7).below b78
      have gg8 := g7.below b78
      have kk8 := k7.below b78
      generalize w7.alloc (.cells #[.slice y7 n7 cp7, .slice x7 m7 e7, .int .i64 T.length] 27) = w8 at s8 hU8 hX8 g8 k8 gg8 kk8 ⊢
      generalize w7.heap.size = z8 at s8 ⊢
      have r8 := s8.rules 3 rfl
      have q8 := s8.rules 2 rfl
      simp (disch := first | omega | exact okFill_t rfl | exact okSize_t rfl | exact fun h => h | (simp only [World.size_alloc, World.size_drew, World.size_setCell, size_fill, bytesW]; omega)) only [go_sem, ↓reduceIte, reduceCtorEq, Nat.reduceBEq, Nat.reduceEqDiff, Nat.reduceAdd, Nat.reduceMul, Int.reduceNe, Int.reduceEq, Int.reduceLT, Int.reduceLE, Int.reduceNeg, Int.reduceAdd, Int.reduceSub, Int.reduceMul, Int.reduceToNat, beq_self_eq_true, c7, c7S0, c7S1, c7S2, c7S3, c7S5, c7S6, c7S7, c7S8, c7S9, r8, q8]
      refine ⟨by constructor <;> omega, ?_⟩
      refine Ret.mono (small_search (h.below s8.bel (by decide)) hw (hE.below s8.bel) h64 (by constructor <;> omega) (by decide) hs) ?_
      rintro u9 w9 ⟨⟨U9, R9, hUn9, hR9, hV9⟩, b9⟩
      have eU9 := hU.one hUn9
      subst eU9
      obtain rfl : R9 = none := hR9.one (hR.less (by omega))
      have hV9 : u9 = .tuple #[.agg #[.slice none 0 0, .slice none 0 0, .int .i64 0], .int .i64 35] := hV9
      subst hV9
      have s10 := (s8.call b9).box #[.slice none 0 0, .slice none 0 0, .int .i64 0] 27
      have b910 : Below w9.heap.size w9 (w9.alloc (.cells #[.slice none 0 0, .slice none 0 0, .int .i64 0] 27)) := (Below.refl _ _).alloc (Nat.le_refl _) _
      simp (disch := first | omega | exact okFill_t rfl | exact okSize_t rfl | exact fun h => h | (simp only [World.size_alloc, World.size_drew, World.size_setCell, size_fill, bytesW]; omega)) only [go_sem, ↓reduceIte, reduceCtorEq, Nat.reduceBEq, Nat.reduceEqDiff, Nat.reduceAdd, Nat.reduceMul, Int.reduceNe, Int.reduceEq, Int.reduceLT, Int.reduceLE, Int.reduceNeg, Int.reduceAdd, Int.reduceSub, Int.reduceMul, Int.reduceToNat, beq_self_eq_true, c7, c7S0, c7S1, c7S2, c7S3, c7S5, c7S6, c7S7, c7S8, c7S9]
      have hU10 := (hU8.below b9).below b910
      have hX10 := (hX8.below b9).below b910
      have g10 := (g8.below b9).below b910
      have k10 := (k8.below b9).below b910
      have gg10 := (gg8.below b9).below b910
      have kk10 := (kk8.below b9).below b910
      generalize w9.alloc (.cells #[.slice none 0 0, .slice none 0 0, .int .i64 0] 27) = w10 at s10 hU10 hX10 g10 k10 gg10 kk10 ⊢
      generalize w9.heap.size = z10 at s10 ⊢
      have r10 := s10.rules 3 rfl
      have q10 := s10.rules 2 rfl
      have p10 := s10.rules 1 rfl
      have lT := Uniq.len eX
      have l5 := Uniq.len j5
      have l7 := Uniq.len j7
      have eX5 : Z5.map Prod.snd = X.map Prod.snd := j5.one eX
      have eX7 : Z7.map Prod.snd = X.map Prod.snd := j7.one eX
      have bound : ∀ {Z : List VS}, Z.map Prod.snd = X.map Prod.snd → ∀ p ∈ Z, p.2.length ≤ 1000000 := fun hz p hp => by
        have : p.2 ∈ X.map Prod.snd := by rw [← hz]; exact List.mem_map.2 ⟨p, hp, rfl⟩
        obtain ⟨q, hq, e⟩ := List.mem_map.1 ((eX.2 _).1 this)
        rw [← e]
        exact (fT q (List.mem_filter.1 hq).1).2
      have boundU : ∀ {V : List VS}, V.map Prod.snd = U0 → (∀ p ∈ V, p.2.length ≤ 1000000) ∧ V.length ≤ 1000000 := fun hv => by
        have hs4 := hs.2.2.2.1
        have hs3 := hs.2.2.1
        refine ⟨fun p hp => ?_, ?_⟩
        · have : p.2 ∈ U0 := by rw [← hv]; exact List.mem_map.2 ⟨p, hp, rfl⟩
          obtain ⟨q, hq, e⟩ := List.mem_map.1 ((hU.2 _).1 this)
          rw [← e]
          have := sumL_mem hq
          omega
        · have h1 := uniq_le hU
          have h2 := congrArg List.length hv
          simp only [List.length_map] at h1 h2
          omega
      simp (disch := first | omega | exact okFill_t rfl | exact okSize_t rfl | exact fun h => h | (simp only [World.size_alloc, World.size_drew, World.size_setCell, size_fill, bytesW]; omega)) only [go_sem, ↓reduceIte, reduceCtorEq, Nat.reduceBEq, Nat.reduceEqDiff, Nat.reduceAdd, Nat.reduceMul, Int.reduceNe, Int.reduceEq, Int.reduceLT, Int.reduceLE, Int.reduceNeg, Int.reduceAdd, Int.reduceSub, Int.reduceMul, Int.reduceToNat, beq_self_eq_true, c7, c7S0, c7S1, c7S2, c7S3, c7S4, c7S5, c7S6, c7S7, c7S8, c7S9, r10, q10, p10]
      refine Ret.mono (same_ok g10 k10 hU10 hX10 (boundU f5).2 (by omega) (boundU f5).1 (bound eX5)) ?_
      rintro _ w11 ⟨rfl, b11⟩
      have s11 := s10.call b11
      have r11 := s11.rules 3 rfl
      have q11 := s11.rules 1 rfl
      have ee5 : (decide (V5.map Prod.snd = U.map Prod.snd) && (decide (Z5.map Prod.snd = X.map Prod.snd) && decide ((T.length : Int) = T.length))) = true := by
        rw [decide_eq_true (f5.trans eU.symm), decide_eq_true eX5, decide_eq_true rfl]; rfl
      rw [ee5]
      simp (disch := first | omega | exact okFill_t rfl | exact okSize_t rfl | exact fun h => h | (simp only [World.size_alloc, World.size_drew, World.size_setCell, size_fill, bytesW]; omega)) only [go_sem, ↓reduceIte, reduceCtorEq, Nat.reduceBEq, Nat.reduceEqDiff, Nat.reduceAdd, Nat.reduceMul, Int.reduceNe, Int.reduceEq, Int.reduceLT, Int.reduceLE, Int.reduceNeg, Int.reduceAdd, Int.reduceSub, Int.reduceMul, Int.reduceToNat, beq_self_eq_true, c7, c7S0, c7S1, c7S2, c7S3, c7S4, c7S5, c7S6, c7S7, c7S8, c7S9, r11, q11]
      refine Ret.mono (same_ok (gg10.below b11) (kk10.below b11) (hU10.below b11) (hX10.below b11) (boundU f7).2 (by omega) (boundU f7).1 (bound eX7)) ?_
      rintro _ w12 ⟨rfl, b12⟩
      have s12 := s11.call b12
      have ee7 : (decide (V7.map Prod.snd = U.map Prod.snd) && (decide (Z7.map Prod.snd = X.map Prod.snd) && decide ((T.length : Int) = T.length))) = true := by
        rw [decide_eq_true (f7.trans eU.symm), decide_eq_true eX7, decide_eq_true rfl]; rfl
      rw [ee7]
      simp (disch := first | omega | exact okFill_t rfl | exact okSize_t rfl | exact fun h => h | (simp only [World.size_alloc, World.size_drew, World.size_setCell, size_fill, bytesW]; omega)) only [go_sem, ↓reduceIte, reduceCtorEq, Nat.reduceBEq, Nat.reduceEqDiff, Nat.reduceAdd, Nat.reduceMul, Int.reduceNe, Int.reduceEq, Int.reduceLT, Int.reduceLE, Int.reduceNeg, Int.reduceAdd, Int.reduceSub, Int.reduceMul, Int.reduceToNat, beq_self_eq_true, c7, c7S0, c7S1, c7S2, c7S3, c7S4, c7S5, c7S6, c7S7, c7S8, c7S9]
      refine Ret.mono (awake_ok w12) ?_
      rintro _ w13 ⟨rfl, b13⟩
      simp (disch := first | omega | exact okFill_t rfl | exact okSize_t rfl | exact fun h => h | (simp only [World.size_alloc, World.size_drew, World.size_setCell, size_fill, bytesW]; omega)) only [go_sem, ↓reduceIte, reduceCtorEq, Nat.reduceBEq, Nat.reduceEqDiff, Nat.reduceAdd, Nat.reduceMul, Int.reduceNe, Int.reduceEq, Int.reduceLT, Int.reduceLE, Int.reduceNeg, Int.reduceAdd, Int.reduceSub, Int.reduceMul, Int.reduceToNat, beq_self_eq_true, c7, c7S0, c7S1, c7S2, c7S3, c7S4, c7S5, c7S6, c7S7, c7S8, c7S9]
      exact Below.next s12.bel b13
set_option maxRecDepth 100000 in
theorem linBudget_law {H : Type} {enc : TypeId × Value → H} {w : World} {r r' : Reach} {b b' base base' : Nat} {sp sp' : Nat → Bool} {hd hd' : Bool} {v v' : Value} {d d' : DataW H} {p p' : List MemPlace} {more : Int}
    (h : Value.okWide Try.prog w r b 24 v) (k : DataW.Trod enc Try.prog w base sp hd 24 v d p) (h' : Value.okWide Try.prog w r' b' 25 v') (k' : DataW.Trod enc Try.prog w base' sp' hd' 25 v' d' p') (hk : Rows.uptoBulk d' ≤ 1048576) (hm : (Lit.int .u16 more).wf = true) :
    Ret Try.prog 7 [v, v', .int .u16 more] w fun u w' => u = .bool true ∧ Below w.heap.size w w' := by
  obtain ⟨a, cs, rfl, lv, rfl, q1, q2, q3⟩ := Opens.struct_arg opens_Seg Try.underlying24 h k
  obtain ⟨D, g1, g2, g3⟩ := sts_arg h' k'
  refine linBudget_ok q1 q3 q2 g1 g2 (by omega) ?_
  unfold Lit.wf at hm
  simp [IntKind.min, IntKind.max, IntKind.signed, IntKind.bits] at hm
  omega
end Go.Proofs.Ytbeoedgoikcbpaa
namespace Go.Proofs.Ytbeoedgoikcbpaa
set_option linter.unusedSimpArgs false
set_option linter.unusedVariables false
set_option maxRecDepth 100000
open Go Go.Ann Go.RowKit
/-- The spots of two starts together. -/
theorem joins_plain {l : List OpT} {n : Nat} {A B U0 U1 U2 : List (List Int)} {T1 T2 T3 : List Spot} {b : Int} (hU : Uniq A U0) (hU' : Uniq B U1) (hU'' : Uniq (A ++ B) U2) (h1 : SearchR l (startP n U0) b (some T1)) (h2 : SearchR l (startP n U1) b (some T2)) (h3 : SearchR l (startP n U2) b (some T3)) :
    (∀ q, q ∈ T3 ↔ q ∈ T1 ∨ q ∈ T2) ∧ T3.length ≤ T1.length + T2.length ∧ T1.length ≤ T3.length ∧ T2.length ≤ T3.length := by
  have mem : ∀ q, q ∈ T3 ↔ q ∈ T1 ∨ q ∈ T2 := fun q => by
    rw [closed_mem h3.1, closed_mem h1.1, closed_mem h2.1]
    have st : ∀ p, p ∈ startP n U2 ↔ p ∈ startP n U0 ∨ p ∈ startP n U1 := fun p => by
      unfold startP
      simp only [List.mem_map]
      constructor
      · rintro ⟨t, ht, e⟩
        rcases List.mem_append.1 ((hU''.2 t).1 ht) with h | h
        · exact .inl ⟨t, (hU.2 t).2 h, e⟩
        · exact .inr ⟨t, (hU'.2 t).2 h, e⟩
      · rintro (⟨t, ht, e⟩ | ⟨t, ht, e⟩)
        · exact ⟨t, (hU''.2 t).2 (List.mem_append.2 (.inl ((hU.2 t).1 ht))), e⟩
        · exact ⟨t, (hU''.2 t).2 (List.mem_append.2 (.inr ((hU'.2 t).1 ht))), e⟩
    constructor
    · rintro ⟨p, hp, hr⟩
      rcases (st p).1 hp with h | h
      · exact .inl ⟨p, h, hr⟩
      · exact .inr ⟨p, h, hr⟩
    · rintro (⟨p, hp, hr⟩ | ⟨p, hp, hr⟩)
      · exact ⟨p, (st p).2 (.inl hp), hr⟩
      · exact ⟨p, (st p).2 (.inr hp), hr⟩
  have nd : ∀ {U E : List (List Int)} {T : List Spot}, Uniq E U → SearchR l (startP n U) b (some T) → T.Nodup := fun hu h => by
    obtain ⟨⟨N, rfl, _⟩, _⟩ := h
    exact bfsN_nodup (startP_nodup hu) N
  refine ⟨mem, ?_, nodup_le (nd hU h1) fun x hx => (mem x).2 (.inl hx), nodup_le (nd hU' h2) fun x hx => (mem x).2 (.inr hx)⟩
  have := nodup_le (nd hU'' h3) (l := T1 ++ T2) fun x hx => List.mem_append.2 ((mem x).1 hx)
  rwa [List.length_append] at this
/-- The exits of both together. -/
theorem joins_exits {l : List OpT} {T1 T2 T3 : List Spot} {X1 X2 X3 V : List (List Int)} (mem : ∀ q, q ∈ T3 ↔ q ∈ T1 ∨ q ∈ T2) (h1 : Uniq ((T1.filter fun p => fullP l p.1).map Prod.snd) X1) (h2 : Uniq ((T2.filter fun p => fullP l p.1).map Prod.snd) X2) (h3 : Uniq ((T3.filter fun p => fullP l p.1).map Prod.snd) X3) (hV : Uniq (X1 ++ X2) V) : X3 = V := by
  refine Uniq.one (l := X1 ++ X2) ⟨h3.1, fun s => ?_⟩ hV
  rw [List.mem_append, exits_mem h1, exits_mem h2, exits_mem h3]
  constructor
  · rintro ⟨d, h, f⟩
    rcases (mem _).1 h with h | h
    · exact .inl ⟨d, h, f⟩
    · exact .inr ⟨d, h, f⟩
  · rintro (⟨d, h, f⟩ | ⟨d, h, f⟩)
    · exact ⟨d, (mem _).2 (.inl h), f⟩
    · exact ⟨d, (mem _).2 (.inr h), f⟩
theorem RowS.ones {w : World} {v : Value} {D : List VS} (h : RowS w v D) : ∀ u ∈ D.map Prod.fst, u.oneCell' = true := fun u hu => by
  obtain ⟨p, hp, rfl⟩ := List.mem_map.1 hu
  obtain ⟨a, c, e, _⟩ := (h.rd p hp).form
  rw [e]; rfl
theorem SearchV.below {w w' : World} {l : List OpT} {E U0 : List (List Int)} {r : Option (List Spot)} {u : Value} (h : SearchV w l E U0 r u) (hb : Below w.heap.size w w') : SearchV w' l E U0 r u := by
  cases r with
  | none => exact h
  | some T =>
    obtain ⟨uv, xv, U, X, h1, h2, h3, h4, h5⟩ := h
    exact ⟨uv, xv, U, X, h1, h2.below hb, h3, h4.below hb, h5⟩
theorem heap_fill {w : World} {b k : Nat} {cs : Array Value} (h : k ≠ b) : (w.fill b cs).heap[k]? = w.heap[k]? := by
  have : ∀ (l : List Value) (i : Nat) (w : World), (setCellsW w ⟨b, 0, none⟩ i l).heap[k]? = w.heap[k]? := by
    intro l
    induction l with
    | nil => intro i w; rfl
    | cons v r ih => intro i w; rw [setCellsW, Addr.add_lit]; exact (ih _ _).trans (Below.heap_setCell w _ v k h)
  exact this _ _ _
theorem SearchF.fill {w' : World} {l : List OpT} {E U0 : List (List Int)} {r : Option (List Spot)} {u : Value} {b z : Nat} {cs : Array Value} (h : SearchF b w' l E U0 r u) (hz : z < b) : SearchV (w'.fill z cs) l E U0 r u := by
  cases r with
  | none => exact h
  | some T =>
    obtain ⟨uv, xv, U, X, h1, h2, h3, h4, h5, h6, h7⟩ := h
    exact ⟨uv, xv, U, X, h1, h2.loc fun k hk => heap_fill (by have := h6 k hk; omega), h3, h4.loc fun k hk => heap_fill (by have := h7 k hk; omega), h5⟩
theorem joins_rest {w w' : World} {l : List OpT} {z z5 z7 : Nat} {ya xa ya' xa' ya'' xa'' : Option Addr} {yn yc xn xc yn' yc' xn' xc' yn'' yc'' xn'' xc'' : Nat} {n n' n'' ue ue' ue'' : Int} {A B U0 U1 U2 : List (List Int)} {r r' r'' : Option (List Spot)} {L : List Res} {b : Int} (hb : b ≤ 32768)
    (s : St w w' (fun _ => False) (.blk z #[.slice ya'' yn'' yc'', .slice xa'' xn'' xc'', .int .i64 n''] 27 :: .blk z7 #[.slice ya' yn' yc', .slice xa' xn' xc', .int .i64 n'] 27 :: .blk z5 #[.slice ya yn yc, .slice xa xn xc, .int .i64 n] 27 :: L) [])
    (hV : SearchV w' l A U0 r (.tuple #[.agg #[.slice ya yn yc, .slice xa xn xc, .int .i64 n], .int .i64 ue])) (hV' : SearchV w' l B U1 r' (.tuple #[.agg #[.slice ya' yn' yc', .slice xa' xn' xc', .int .i64 n'], .int .i64 ue'])) (hV'' : SearchV w' l (A ++ B) U2 r'' (.tuple #[.agg #[.slice ya'' yn'' yc'', .slice xa'' xn'' xc'', .int .i64 n''], .int .i64 ue'']))
    (hR : SearchR l (startP l.length U0) b r) (hR' : SearchR l (startP l.length U1) b r') (hR'' : SearchR l (startP l.length U2) b r'')
    (hU : Uniq A U0) (hU' : Uniq B U1) (hU'' : Uniq (A ++ B) U2) (hT : ∀ T, r = some T → ∀ p ∈ T, OkS p.2) (hT' : ∀ T, r' = some T → ∀ p ∈ T, OkS p.2) :
    W Try.prog (sg c6S6) [(7, .pointer (some ⟨z5, 0, none⟩)), (8, .int .i64 ue), (9, .pointer (some ⟨z7, 0, none⟩)), (10, .int .i64 ue'), (11, .pointer (some ⟨z, 0, none⟩)), (12, .int .i64 ue'')] w' (finQ Try.prog [.tmp 6] fun u w1 => u = .bool true ∧ Below w.heap.size w w1) := by
  by_cases e1 : ue ≠ 0
  · simp (disch := first | omega | exact okFill_t rfl | exact okSize_t rfl | exact fun h => h | (simp only [World.size_alloc, World.size_drew, World.size_setCell, size_fill, bytesW]; omega)) only [go_sem, ↓reduceIte, reduceCtorEq, Nat.reduceBEq, Nat.reduceEqDiff, Nat.reduceAdd, Nat.reduceMul, Int.reduceNe, Int.reduceEq, Int.reduceLT, Int.reduceLE, Int.reduceNeg, Int.reduceAdd, Int.reduceSub, Int.reduceMul, Int.reduceToNat, beq_self_eq_true, c6, c6S0, c6S1, c6S2, c6S3, c6S4, c6S5, c6S6, c6S7, c6S8, c6S9, e1]
    refine Ret.mono (awake_ok w') ?_
    rintro _ w3 ⟨rfl, b3⟩
    simp (disch := first | omega | exact okFill_t rfl | exact okSize_t rfl | exact fun h => h | (simp only [World.size_alloc, World.size_drew, World.size_setCell, size_fill, bytesW]; omega)) only [go_sem, ↓reduceIte, reduceCtorEq, Nat.reduceBEq, Nat.reduceEqDiff, Nat.reduceAdd, Nat.reduceMul, Int.reduceNe, Int.reduceEq, Int.reduceLT, Int.reduceLE, Int.reduceNeg, Int.reduceAdd, Int.reduceSub, Int.reduceMul, Int.reduceToNat, beq_self_eq_true, c6, c6S0, c6S1, c6S2, c6S3, c6S4, c6S5, c6S6, c6S7, c6S8, c6S9]
    exact Below.next s.bel b3
  by_cases e2 : ue' ≠ 0
  · simp (disch := first | omega | exact okFill_t rfl | exact okSize_t rfl | exact fun h => h | (simp only [World.size_alloc, World.size_drew, World.size_setCell, size_fill, bytesW]; omega)) only [go_sem, ↓reduceIte, reduceCtorEq, Nat.reduceBEq, Nat.reduceEqDiff, Nat.reduceAdd, Nat.reduceMul, Int.reduceNe, Int.reduceEq, Int.reduceLT, Int.reduceLE, Int.reduceNeg, Int.reduceAdd, Int.reduceSub, Int.reduceMul, Int.reduceToNat, beq_self_eq_true, c6, c6S0, c6S1, c6S2, c6S3, c6S4, c6S5, c6S6, c6S7, c6S8, c6S9, e1, e2]
    refine Ret.mono (awake_ok w') ?_
    rintro _ w3 ⟨rfl, b3⟩
    simp (disch := first | omega | exact okFill_t rfl | exact okSize_t rfl | exact fun h => h | (simp only [World.size_alloc, World.size_drew, World.size_setCell, size_fill, bytesW]; omega)) only [go_sem, ↓reduceIte, reduceCtorEq, Nat.reduceBEq, Nat.reduceEqDiff, Nat.reduceAdd, Nat.reduceMul, Int.reduceNe, Int.reduceEq, Int.reduceLT, Int.reduceLE, Int.reduceNeg, Int.reduceAdd, Int.reduceSub, Int.reduceMul, Int.reduceToNat, beq_self_eq_true, c6, c6S0, c6S1, c6S2, c6S3, c6S4, c6S5, c6S6, c6S7, c6S8, c6S9]
    exact Below.next s.bel b3
  by_cases e3 : ue'' ≠ 0
  · simp (disch := first | omega | exact okFill_t rfl | exact okSize_t rfl | exact fun h => h | (simp only [World.size_alloc, World.size_drew, World.size_setCell, size_fill, bytesW]; omega)) only [go_sem, ↓reduceIte, reduceCtorEq, Nat.reduceBEq, Nat.reduceEqDiff, Nat.reduceAdd, Nat.reduceMul, Int.reduceNe, Int.reduceEq, Int.reduceLT, Int.reduceLE, Int.reduceNeg, Int.reduceAdd, Int.reduceSub, Int.reduceMul, Int.reduceToNat, beq_self_eq_true, c6, c6S0, c6S1, c6S2, c6S3, c6S4, c6S5, c6S6, c6S7, c6S8, c6S9, e1, e2, e3]
    refine Ret.mono (awake_ok w') ?_
    rintro _ w3 ⟨rfl, b3⟩
    simp (disch := first | omega | exact okFill_t rfl | exact okSize_t rfl | exact fun h => h | (simp only [World.size_alloc, World.size_drew, World.size_setCell, size_fill, bytesW]; omega)) only [go_sem, ↓reduceIte, reduceCtorEq, Nat.reduceBEq, Nat.reduceEqDiff, Nat.reduceAdd, Nat.reduceMul, Int.reduceNe, Int.reduceEq, Int.reduceLT, Int.reduceLE, Int.reduceNeg, Int.reduceAdd, Int.reduceSub, Int.reduceMul, Int.reduceToNat, beq_self_eq_true, c6, c6S0, c6S1, c6S2, c6S3, c6S4, c6S5, c6S6, c6S7, c6S8, c6S9]
    exact Below.next s.bel b3
  simp (disch := first | omega | exact okFill_t rfl | exact okSize_t rfl | exact fun h => h | (simp only [World.size_alloc, World.size_drew, World.size_setCell, size_fill, bytesW]; omega)) only [go_sem, ↓reduceIte, reduceCtorEq, Nat.reduceBEq, Nat.reduceEqDiff, Nat.reduceAdd, Nat.reduceMul, Int.reduceNe, Int.reduceEq, Int.reduceLT, Int.reduceLE, Int.reduceNeg, Int.reduceAdd, Int.reduceSub, Int.reduceMul, Int.reduceToNat, beq_self_eq_true, c6, c6S0, c6S1, c6S2, c6S3, c6S4, c6S5, c6S6, c6S7, c6S8, c6S9, e1, e2, e3]
  have e1 : ue = 0 := Decidable.not_not.1 e1
  have e2 : ue' = 0 := Decidable.not_not.1 e2
  have e3 : ue'' = 0 := Decidable.not_not.1 e3
  subst e1 e2 e3
  have some : ∀ {E U0 : List (List Int)} {r : Option (List Spot)} {x : Value}, SearchV w' l E U0 r (.tuple #[x, .int .i64 0]) → ∃ T, r = some T := fun {E U0 r x} h => by
    cases r with
    | none =>
      have h : (.tuple #[x, .int .i64 0] : Value) = .tuple #[.agg #[.slice none 0 0, .slice none 0 0, .int .i64 0], .int .i64 35] := h
      simp at h
    | some T => exact ⟨T, rfl⟩
  obtain ⟨T, rfl⟩ := some hV
  obtain ⟨T', rfl⟩ := some hV'
  obtain ⟨T'', rfl⟩ := some hV''
  obtain ⟨_, rfl, _, X, _, _, hX, eX⟩ := SearchV.some hV
  obtain ⟨_, rfl, _, X', _, _, hX', eX'⟩ := SearchV.some hV'
  obtain ⟨_, rfl, _, X'', _, _, hX'', eX''⟩ := SearchV.some hV''
  obtain ⟨mem, le1, le2, le3⟩ := joins_plain hU hU' hU'' hR hR' hR''
  have s1 := s.drew
  have q0 := s1.rules 0 rfl
  have q7 := s1.rules 1 rfl
  have q5 := s1.rules 2 rfl
  have l7 : z7 < w'.heap.size := (s.low 1 rfl).2
  have l5 : z5 < w'.heap.size := (s.low 2 rfl).2
  refine c6draw1 (Chg (fun _ => False) _) (Chg.refl _ _) ?_
  simp (disch := first | omega | exact okFill_t rfl | exact okSize_t rfl | exact fun h => h | (simp only [World.size_alloc, World.size_drew, World.size_setCell, size_fill, bytesW]; omega)) only [go_sem, ↓reduceIte, reduceCtorEq, Nat.reduceBEq, Nat.reduceEqDiff, Nat.reduceAdd, Nat.reduceMul, Int.reduceNe, Int.reduceEq, Int.reduceLT, Int.reduceLE, Int.reduceNeg, Int.reduceAdd, Int.reduceSub, Int.reduceMul, Int.reduceToNat, beq_self_eq_true, c6, c6S0, c6S1, c6S2, c6S3, c6S4, c6S5, c6S6, c6S7, c6S8, c6S9, c6D1, q7, q5]
  have len : ∀ {xa : Option Addr} {xn xc : Nat} {X : List VS}, RowS w' (.slice xa xn xc) X → xn = X.length := fun h => by
    obtain ⟨_, _, e, _⟩ := h.form
    cases e; rfl
  obtain rfl := len hX
  obtain rfl := len hX'
  obtain rfl := len hX''
  have lX := Uniq.len eX
  have lX' := Uniq.len eX'
  have lX'' := Uniq.len eX''
  have lT := hR.2
  have lT' := hR'.2
  have lT'' := hR''.2
  have bd : Below w'.heap.size w' w'.drew := (Below.refl _ _).drew
  have okX : ∀ p ∈ X ++ X', OkS p.2 := fun p hp => by
    rcases List.mem_append.1 hp with hp | hp
    · obtain ⟨q, hq, e⟩ := List.mem_map.1 ((eX.2 _).1 (List.mem_map.2 ⟨p, hp, rfl⟩))
      rw [← e]; exact hT T rfl q (List.mem_filter.1 hq).1
    · obtain ⟨q, hq, e⟩ := List.mem_map.1 ((eX'.2 _).1 (List.mem_map.2 ⟨p, hp, rfl⟩))
      rw [← e]; exact hT' T' rfl q (List.mem_filter.1 hq).1
  have okX'' : ∀ p ∈ X'', OkS p.2 := fun p hp => by
    obtain ⟨q, hq, e⟩ := List.mem_map.1 ((eX''.2 _).1 (List.mem_map.2 ⟨p, hp, rfl⟩))
    rw [← e]
    rcases (mem q).1 (List.mem_filter.1 hq).1 with h | h
    · exact hT T rfl q h
    · exact hT' T' rfl q h
  refine bsW_none ty25mkI ?_
  have t1 := (St.start (W0 := w'.drew)).emptyRow 36 1
  rw [World.size_drew] at t1
  simp (disch := first | omega | exact okFill_t rfl | exact okSize_t rfl | exact fun h => h | (simp only [World.size_alloc, World.size_drew, World.size_setCell, size_fill, bytesW]; omega)) only [go_sem, ↓reduceIte, reduceCtorEq, Nat.reduceBEq, Nat.reduceEqDiff, Nat.reduceAdd, Nat.reduceMul, Int.reduceNe, Int.reduceEq, Int.reduceLT, Int.reduceLE, Int.reduceNeg, Int.reduceAdd, Int.reduceSub, Int.reduceMul, Int.reduceToNat, beq_self_eq_true, c6, c6S0, c6S1, c6S2, c6S3, c6S4, c6S5, c6S6, c6S7, c6S8, c6S9]
  refine ⟨Chg.of_below t1.bel, t1.append 0 rfl ty25mkI rfl (by decide) (Rd.below hX.row (Below.next bd t1.bel) (by decide)) hX.ones (by omega) (by omega) ?_⟩
  intro v2 w2 t2 _
  simp only [List.set_cons_zero, List.nil_append, Nat.zero_add] at t2
  obtain ⟨a2, d2, rfl, _⟩ := own_slice (t2.row 0 rfl)
  simp (disch := first | omega | exact okFill_t rfl | exact okSize_t rfl | exact fun h => h | (simp only [World.size_alloc, World.size_drew, World.size_setCell, size_fill, bytesW]; omega)) only [go_sem, ↓reduceIte, reduceCtorEq, Nat.reduceBEq, Nat.reduceEqDiff, Nat.reduceAdd, Nat.reduceMul, Int.reduceNe, Int.reduceEq, Int.reduceLT, Int.reduceLE, Int.reduceNeg, Int.reduceAdd, Int.reduceSub, Int.reduceMul, Int.reduceToNat, beq_self_eq_true, c6, c6S0, c6S1, c6S2, c6S3, c6S4, c6S5, c6S6, c6S7, c6S8, c6S9]
  refine ⟨Chg.of_below t2.bel, t2.append 0 rfl ty25mkI rfl (by decide) (Rd.below hX'.row (Below.next bd t2.bel) (by decide)) hX'.ones (by omega) (by omega) ?_⟩
  intro v3 w3 t3 _
  simp only [List.set_cons_zero] at t3
  obtain ⟨a3, d3, rfl, _⟩ := own_slice (t3.row 0 rfl)
  simp (disch := first | omega | exact okFill_t rfl | exact okSize_t rfl | exact fun h => h | (simp only [World.size_alloc, World.size_drew, World.size_setCell, size_fill, bytesW]; omega)) only [go_sem, ↓reduceIte, reduceCtorEq, Nat.reduceBEq, Nat.reduceEqDiff, Nat.reduceAdd, Nat.reduceMul, Int.reduceNe, Int.reduceEq, Int.reduceLT, Int.reduceLE, Int.reduceNeg, Int.reduceAdd, Int.reduceSub, Int.reduceMul, Int.reduceToNat, beq_self_eq_true, c6, c6S0, c6S1, c6S2, c6S3, c6S4, c6S5, c6S6, c6S7, c6S8, c6S9]
  have row3 : RowS w3 (.slice a3 (X.length + X'.length) d3) (X ++ X') := by
    refine ⟨?_, fun p hp => ?_⟩
    · rw [List.length_append, List.map_append]
      exact Rd.of_own (t3.row 0 rfl)
    · rcases List.mem_append.1 hp with hp | hp
      · exact (hX.rd p hp).below (Below.next bd t3.bel) (by decide)
      · exact (hX'.rd p hp).below (Below.next bd t3.bel) (by decide)
  refine ⟨Chg.of_below t3.bel, Ret.mono (unique_ok _ (X ++ X') w3 row3 okX (by rw [List.length_append]; omega)) ?_⟩
  rintro v w4 ⟨⟨V, hVu, hVr, _⟩, b4⟩
  obtain ⟨va, vc, rfl, _⟩ := hVr.form
  rw [List.map_append] at hVu
  have t4 := t3.call b4
  have s4 := s1.call t4.bel
  have q0 := s4.rules 0 rfl
  have q7 := s4.rules 1 rfl
  have q5 := s4.rules 2 rfl
  simp (disch := first | omega | exact okFill_t rfl | exact okSize_t rfl | exact fun h => h | (simp only [World.size_alloc, World.size_drew, World.size_setCell, size_fill, bytesW]; omega)) only [go_sem, ↓reduceIte, reduceCtorEq, Nat.reduceBEq, Nat.reduceEqDiff, Nat.reduceAdd, Nat.reduceMul, Int.reduceNe, Int.reduceEq, Int.reduceLT, Int.reduceLE, Int.reduceNeg, Int.reduceAdd, Int.reduceSub, Int.reduceMul, Int.reduceToNat, beq_self_eq_true, c6, c6S0, c6S1, c6S2, c6S3, c6S4, c6S5, c6S6, c6S7, c6S8, c6S9, q0]
  refine ⟨Chg.of_below t4.bel, Ret.mono (states_ok _ _ X'' V w4 (hX''.below (Below.next bd t4.bel)) hVr (fun p hp => (okX'' p hp).2) (by omega)) ?_⟩
  rintro _ w5 ⟨rfl, b5⟩
  have e := joins_exits mem eX eX' eX'' hVu
  have s5 := s4.call b5
  have q0 := s5.rules 0 rfl
  have q7 := s5.rules 1 rfl
  have q5 := s5.rules 2 rfl
  rw [decide_eq_true e]
  simp (disch := first | omega | exact okFill_t rfl | exact okSize_t rfl | exact fun h => h | (simp only [World.size_alloc, World.size_drew, World.size_setCell, size_fill, bytesW]; omega)) only [go_sem, ↓reduceIte, reduceCtorEq, Nat.reduceBEq, Nat.reduceEqDiff, Nat.reduceAdd, Nat.reduceMul, Int.reduceNe, Int.reduceEq, Int.reduceLT, Int.reduceLE, Int.reduceNeg, Int.reduceAdd, Int.reduceSub, Int.reduceMul, Int.reduceToNat, beq_self_eq_true, c6, c6S0, c6S1, c6S2, c6S3, c6S4, c6S5, c6S6, c6S7, c6S8, c6S9, q0, q7, q5]
  refine ⟨by constructor <;> omega, fun _ => ⟨fun _ => ?_, by omega⟩, by omega⟩
  refine Ret.mono (awake_ok w5) ?_
  rintro _ w6 ⟨rfl, b6⟩
  simp (disch := first | omega | exact okFill_t rfl | exact okSize_t rfl | exact fun h => h | (simp only [World.size_alloc, World.size_drew, World.size_setCell, size_fill, bytesW]; omega)) only [go_sem, ↓reduceIte, reduceCtorEq, Nat.reduceBEq, Nat.reduceEqDiff, Nat.reduceAdd, Nat.reduceMul, Int.reduceNe, Int.reduceEq, Int.reduceLT, Int.reduceLE, Int.reduceNeg, Int.reduceAdd, Int.reduceSub, Int.reduceMul, Int.reduceToNat, beq_self_eq_true, c6, c6S0, c6S1, c6S2, c6S3, c6S4, c6S5, c6S6, c6S7, c6S8, c6S9]
  exact Below.next s5.bel b6
theorem linJoins_ok {w : World} {l : List OpT} {lv av bv : Value} {ob kd : Int} {A B : List VS} (h : RdS w 11 OpT.enc lv l) (hl : (l.length : Int) ≤ 9223372036854775807) (hw : ∀ o ∈ l, o.wf) (hA : RowS w av A) (hA64 : ∀ p ∈ A, Ok64 p.2) (hAD : bulkS A ≤ 1048576) (hB : RowS w bv B) (hB64 : ∀ p ∈ B, Ok64 p.2) (hBD : bulkS B ≤ 1048576) :
    Ret Try.prog 6 [.agg #[.int .i64 ob, .int .i64 kd, lv], av, bv] w fun u w' => u = .bool true ∧ Below w.heap.size w w' := by
  obtain ⟨la, lc, rfl, _⟩ := h.form
  obtain ⟨aa, ac, rfl, _⟩ := hA.form
  obtain ⟨ba, bc, rfl, _⟩ := hB.form
  refine ent6 _ _ _ _ _ ?_
  have s1 := (St.start (W0 := w)).box #[.int .i64 ob, .int .i64 kd, .slice la l.length lc] 24
  simp (disch := first | omega | exact okFill_t rfl | exact okSize_t rfl | exact fun h => h | (simp only [World.size_alloc, World.size_drew, World.size_setCell, size_fill, bytesW]; omega)) only [go_sem, ↓reduceIte, reduceCtorEq, Nat.reduceBEq, Nat.reduceEqDiff, Nat.reduceAdd, Nat.reduceMul, Int.reduceNe, Int.reduceEq, Int.reduceLT, Int.reduceLE, Int.reduceNeg, Int.reduceAdd, Int.reduceSub, Int.reduceMul, Int.reduceToNat, beq_self_eq_true, c6, c6S0, c6S1, c6S2, c6S3, c6S4, c6S5, c6S6, c6S7, c6S8, c6S9]
  refine Ret.mono (small_ok (h.below s1.bel (by decide)) hl (hA.below s1.bel) hAD (by decide)) ?_
  rintro _ w2 ⟨⟨b, rfl, hbt⟩, b2⟩
  have s2 := s1.call b2
  cases b with
  | false =>
    simp (disch := first | omega | exact okFill_t rfl | exact okSize_t rfl | exact fun h => h | (simp only [World.size_alloc, World.size_drew, World.size_setCell, size_fill, bytesW]; omega)) only [go_sem, ↓reduceIte, reduceCtorEq, Nat.reduceBEq, Nat.reduceEqDiff, Nat.reduceAdd, Nat.reduceMul, Int.reduceNe, Int.reduceEq, Int.reduceLT, Int.reduceLE, Int.reduceNeg, Int.reduceAdd, Int.reduceSub, Int.reduceMul, Int.reduceToNat, beq_self_eq_true, c6, c6S0, c6S1, c6S2, c6S3, c6S4, c6S5, c6S6, c6S7, c6S8, c6S9]
    refine Ret.mono (awake_ok w2) ?_
    rintro _ w3 ⟨rfl, b3⟩
    simp (disch := first | omega | exact okFill_t rfl | exact okSize_t rfl | exact fun h => h | (simp only [World.size_alloc, World.size_drew, World.size_setCell, size_fill, bytesW]; omega)) only [go_sem, ↓reduceIte, reduceCtorEq, Nat.reduceBEq, Nat.reduceEqDiff, Nat.reduceAdd, Nat.reduceMul, Int.reduceNe, Int.reduceEq, Int.reduceLT, Int.reduceLE, Int.reduceNeg, Int.reduceAdd, Int.reduceSub, Int.reduceMul, Int.reduceToNat, beq_self_eq_true, c6, c6S0, c6S1, c6S2, c6S3, c6S4, c6S5, c6S6, c6S7, c6S8, c6S9]
    exact Below.next s2.bel b3
  | true =>
    have hs := hbt rfl
    have r2 := s2.rules 0 rfl
    simp (disch := first | omega | exact okFill_t rfl | exact okSize_t rfl | exact fun h => h | (simp only [World.size_alloc, World.size_drew, World.size_setCell, size_fill, bytesW]; omega)) only [go_sem, ↓reduceIte, reduceCtorEq, Nat.reduceBEq, Nat.reduceEqDiff, Nat.reduceAdd, Nat.reduceMul, Int.reduceNe, Int.reduceEq, Int.reduceLT, Int.reduceLE, Int.reduceNeg, Int.reduceAdd, Int.reduceSub, Int.reduceMul, Int.reduceToNat, beq_self_eq_true, c6, c6S0, c6S1, c6S2, c6S3, c6S4, c6S5, c6S6, c6S7, c6S8, c6S9, r2]
    refine Ret.mono (small_ok (h.below s2.bel (by decide)) hl (hB.below s2.bel) hBD (by decide)) ?_
    rintro _ w3 ⟨⟨b, rfl, hbt'⟩, b3⟩
    have s3 := s2.call b3
    cases b with
    | false =>
      simp (disch := first | omega | exact okFill_t rfl | exact okSize_t rfl | exact fun h => h | (simp only [World.size_alloc, World.size_drew, World.size_setCell, size_fill, bytesW]; omega)) only [go_sem, ↓reduceIte, reduceCtorEq, Nat.reduceBEq, Nat.reduceEqDiff, Nat.reduceAdd, Nat.reduceMul, Int.reduceNe, Int.reduceEq, Int.reduceLT, Int.reduceLE, Int.reduceNeg, Int.reduceAdd, Int.reduceSub, Int.reduceMul, Int.reduceToNat, beq_self_eq_true, c6, c6S0, c6S1, c6S2, c6S3, c6S4, c6S5, c6S6, c6S7, c6S8, c6S9]
      refine Ret.mono (awake_ok w3) ?_
      rintro _ w4 ⟨rfl, b4⟩
      simp (disch := first | omega | exact okFill_t rfl | exact okSize_t rfl | exact fun h => h | (simp only [World.size_alloc, World.size_drew, World.size_setCell, size_fill, bytesW]; omega)) only [go_sem, ↓reduceIte, reduceCtorEq, Nat.reduceBEq, Nat.reduceEqDiff, Nat.reduceAdd, Nat.reduceMul, Int.reduceNe, Int.reduceEq, Int.reduceLT, Int.reduceLE, Int.reduceNeg, Int.reduceAdd, Int.reduceSub, Int.reduceMul, Int.reduceToNat, beq_self_eq_true, c6, c6S0, c6S1, c6S2, c6S3, c6S4, c6S5, c6S6, c6S7, c6S8, c6S9]
      exact Below.next s3.bel b4
    | true =>
      have hs' := hbt' rfl
      have r3 := s3.rules 0 rfl
      simp (disch := first | omega | exact okFill_t rfl | exact okSize_t rfl | exact fun h => h | (simp only [World.size_alloc, World.size_drew, World.size_setCell, size_fill, bytesW]; omega)) only [go_sem, ↓reduceIte, reduceCtorEq, Nat.reduceBEq, Nat.reduceEqDiff, Nat.reduceAdd, Nat.reduceMul, Int.reduceNe, Int.reduceEq, Int.reduceLT, Int.reduceLE, Int.reduceNeg, Int.reduceAdd, Int.reduceSub, Int.reduceMul, Int.reduceToNat, beq_self_eq_true, c6, c6S0, c6S1, c6S2, c6S3, c6S4, c6S5, c6S6, c6S7, c6S8, c6S9, r3]
      refine Ret.mono (small_search (h.below s3.bel (by decide)) hw (hA.below s3.bel) hA64 (by constructor <;> decide) (by decide) hs) ?_
      rintro u w4 ⟨⟨U0, r, hU, hR, hV⟩, b4⟩
      have s4 := s3.call b4
      obtain ⟨ya, yn, yc, xa, xn, xc, nn, ue, rfl, hue⟩ := hV.form
      have s5 := s4.box #[.slice ya yn yc, .slice xa xn xc, .int .i64 nn] 27
      have b45 : Below w4.heap.size w4 (w4.alloc (.cells #[.slice ya yn yc, .slice xa xn xc, .int .i64 nn] 27)) := (Below.refl _ _).alloc (Nat.le_refl _) _
      simp (disch := first | omega | exact okFill_t rfl | exact okSize_t rfl | exact fun h => h | (simp only [World.size_alloc, World.size_drew, World.size_setCell, size_fill, bytesW]; omega)) only [go_sem, ↓reduceIte, reduceCtorEq, Nat.reduceBEq, Nat.reduceEqDiff, Nat.reduceAdd, Nat.reduceMul, Int.reduceNe, Int.reduceEq, Int.reduceLT, Int.reduceLE, Int.reduceNeg, Int.reduceAdd, Int.reduceSub, Int.reduceMul, Int.reduceToNat, beq_self_eq_true, c6, c6S0, c6S1, c6S2, c6S3, c6S4, c6S5, c6S6, c6S7, c6S9]
      generalize w4.alloc (.cells #[.slice ya yn yc, .slice xa xn xc, .int .i64 nn] 27) = w5 at s5 b45 ⊢
      generalize hz5 : w4.heap.size = z5 at s5 b45 ⊢
      have r5 := s5.rules 1 rfl
      simp (disch := first | omega | exact okFill_t rfl | exact okSize_t rfl | exact fun h => h | (simp only [World.size_alloc, World.size_drew, World.size_setCell, size_fill, bytesW]; omega)) only [go_sem, ↓reduceIte, reduceCtorEq, Nat.reduceBEq, Nat.reduceEqDiff, Nat.reduceAdd, Nat.reduceMul, Int.reduceNe, Int.reduceEq, Int.reduceLT, Int.reduceLE, Int.reduceNeg, Int.reduceAdd, Int.reduceSub, Int.reduceMul, Int.reduceToNat, beq_self_eq_true, c6, c6S0, c6S1, c6S2, c6S3, c6S4, c6S5, c6S6, c6S8, c6S9, r5]
      refine Ret.mono (small_search (h.below s5.bel (by decide)) hw (hB.below s5.bel) hB64 (by constructor <;> decide) (by decide) hs') ?_
      rintro u w6 ⟨⟨U1, r', hU', hR', hV'⟩, b6⟩
      have s6 := s5.call b6
      obtain ⟨ya', yn', yc', xa', xn', xc', nn', ue', rfl, hue'⟩ := hV'.form
      have s7 := s6.box #[.slice ya' yn' yc', .slice xa' xn' xc', .int .i64 nn'] 27
      have b67 : Below w6.heap.size w6 (w6.alloc (.cells #[.slice ya' yn' yc', .slice xa' xn' xc', .int .i64 nn'] 27)) := (Below.refl _ _).alloc (Nat.le_refl _) _
      simp (disch := first | omega | exact okFill_t rfl | exact okSize_t rfl | exact fun h => h | (simp only [World.size_alloc, World.size_drew, World.size_setCell, size_fill, bytesW]; omega)) only [go_sem, ↓reduceIte, reduceCtorEq, Nat.reduceBEq, Nat.reduceEqDiff, Nat.reduceAdd, Nat.reduceMul, Int.reduceNe, Int.reduceEq, Int.reduceLT, Int.reduceLE, Int.reduceNeg, Int.reduceAdd, Int.reduceSub, Int.reduceMul, Int.reduceToNat, beq_self_eq_true, c6, c6S0, c6S1, c6S2, c6S3, c6S4, c6S5, c6S6, c6S8, c6S9]
      generalize w6.alloc (.cells #[.slice ya' yn' yc', .slice xa' xn' xc', .int .i64 nn'] 27) = w7 at s7 b67 ⊢
      generalize hz7 : w6.heap.size = z7 at s7 b67 ⊢
      have r7 := s7.rules 2 rfl
      simp (disch := first | omega | exact okFill_t rfl | exact okSize_t rfl | exact fun h => h | (simp only [World.size_alloc, World.size_drew, World.size_setCell, size_fill, bytesW]; omega)) only [go_sem, ↓reduceIte, reduceCtorEq, Nat.reduceBEq, Nat.reduceEqDiff, Nat.reduceAdd, Nat.reduceMul, Int.reduceNe, Int.reduceEq, Int.reduceLT, Int.reduceLE, Int.reduceNeg, Int.reduceAdd, Int.reduceSub, Int.reduceMul, Int.reduceToNat, beq_self_eq_true, c6, c6S0, c6S1, c6S2, c6S3, c6S4, c6S5, c6S7, c6S8, c6S9, r7]
      have s8 := s7.drew
      refine c6draw0 (Chg (fun _ => False) _) (Chg.refl _ _) ?_
      have r8 := s8.rules 2 rfl
      have l8 : w.heap.size < w7.heap.size := (s7.low 2 rfl).2
      simp (disch := first | omega | exact okFill_t rfl | exact okSize_t rfl | exact fun h => h | (simp only [World.size_alloc, World.size_drew, World.size_setCell, size_fill, bytesW]; omega)) only [go_sem, ↓reduceIte, reduceCtorEq, Nat.reduceBEq, Nat.reduceEqDiff, Nat.reduceAdd, Nat.reduceMul, Int.reduceNe, Int.reduceEq, Int.reduceLT, Int.reduceLE, Int.reduceNeg, Int.reduceAdd, Int.reduceSub, Int.reduceMul, Int.reduceToNat, beq_self_eq_true, c6, c6S0, c6S1, c6S2, c6S3, c6S4, c6S5, c6S6, c6S7, c6S8, c6S9, c6D0, r8]
      have t0 := St.start (W0 := w7.drew)
      have A20 := hs.2.2.1
      have B20 := hs'.2.2.1
      have b37 : Below w.heap.size w w7.drew := s8.bel
      have rowAB : ∀ {w8 : World} {v8 : Value} {B0 : Nat}, Below w7.drew.heap.size w7.drew w8 → w8.ownsRow B0 36 1 v8 (A.length + B.length) (A.map Prod.fst ++ B.map Prod.fst) → RowS w8 v8 (A ++ B) := fun hb ho => by
        refine ⟨?_, fun p hp => ?_⟩
        · have := Rd.of_own ho
          rwa [← List.length_append, ← List.map_append] at this
        · rcases List.mem_append.1 hp with hp | hp
          · exact (hA.rd p hp).below (Below.next b37 hb) (by decide)
          · exact (hB.rd p hp).below (Below.next b37 hb) (by decide)
      have search3 : ∀ {w8 : World} {v8 : Value}, Below w7.drew.heap.size w7.drew w8 → RowS w8 v8 (A ++ B) →
          Ret Try.prog 12 [.agg #[.int .i64 ob, .int .i64 kd, .slice la l.length lc], v8, .int .i64 32768] w8 fun u w' => (∃ U2 r'', Uniq (A.map Prod.snd ++ B.map Prod.snd) U2 ∧ SearchR l (startP l.length U2) 32768 r'' ∧ SearchF w8.heap.size w' l (A.map Prod.snd ++ B.map Prod.snd) U2 r'' u) ∧ Below w8.heap.size w8 w' := fun {w8 v8} hb hr => by
        obtain ⟨c1, c2, c3, c4, c5⟩ := hs
        obtain ⟨d1, d2, d3, d4, d5⟩ := hs'
        refine Ret.mono (search_okF (K := kd) (M := 200) (h.below (Below.next b37 hb) (by decide)) (by omega) c2 hw hr (by rw [List.length_append]; omega) (by decide) (fun p hp => ?_) (by constructor <;> decide)) ?_
        · rcases List.mem_append.1 hp with hp | hp
          · exact ⟨hA64 p hp, by have := sumL_mem hp; omega, fun h5 => c5 h5 p hp⟩
          · exact ⟨hB64 p hp, by have := sumL_mem hp; omega, fun h5 => d5 h5 p hp⟩
        · rintro u w' ⟨⟨U2, r'', h1, h2, h3⟩, hb'⟩
          rw [List.map_append] at h1 h3
          exact ⟨⟨U2, r'', h1, h2, h3⟩, hb'⟩
      have hVd := (((hV.below (by rw [hz5]; exact b45)).below b6).below (by rw [hz7]; exact b67)).below (Below.refl _ _).drew
      have hT : ∀ T, r = some T → ∀ p ∈ T, OkS p.2 := fun T e => by
        subst e
        obtain ⟨⟨N, rfl, _⟩, _⟩ := hR
        exact small_okS hw hA64 (by decide) hs hU N
      have hT' : ∀ T, r' = some T → ∀ p ∈ T, OkS p.2 := fun T e => by
        subst e
        obtain ⟨⟨N, rfl, _⟩, _⟩ := hR'
        exact small_okS hw hB64 (by decide) hs' hU' N
      have hVd' := (hV'.below (by rw [hz7]; exact b67)).below (Below.refl _ _).drew
      refine ⟨?_, ?_, ?_⟩
      · refine bsW_none ty25mkI ?_
        have t1 := t0.emptyRow 36 1
        rw [World.size_drew] at t1
        simp (disch := first | omega | exact okFill_t rfl | exact okSize_t rfl | exact fun h => h | (simp only [World.size_alloc, World.size_drew, World.size_setCell, size_fill, bytesW]; omega)) only [go_sem, ↓reduceIte, reduceCtorEq, Nat.reduceBEq, Nat.reduceEqDiff, Nat.reduceAdd, Nat.reduceMul, Int.reduceNe, Int.reduceEq, Int.reduceLT, Int.reduceLE, Int.reduceNeg, Int.reduceAdd, Int.reduceSub, Int.reduceMul, Int.reduceToNat, beq_self_eq_true, c6, c6S0, c6S1, c6S2, c6S3, c6S4, c6S5, c6S6, c6S7, c6S8, c6S9]
        refine ⟨Chg.of_below t1.bel, ?_, ?_, ?_⟩
        · refine t1.append 0 rfl ty25mkI rfl (by decide) (Rd.below hA.row (Below.next b37 t1.bel) (by decide)) hA.ones (by omega) (by omega) ?_
          intro v2 w2' t2 _
          simp only [List.set_cons_zero, List.set_cons_succ, List.nil_append, Nat.zero_add] at t2
          obtain ⟨a2, d2, rfl, _⟩ := own_slice (t2.row 0 rfl)
          simp (disch := first | omega | exact okFill_t rfl | exact okSize_t rfl | exact fun h => h | (simp only [World.size_alloc, World.size_drew, World.size_setCell, size_fill, bytesW]; omega)) only [go_sem, ↓reduceIte, reduceCtorEq, Nat.reduceBEq, Nat.reduceEqDiff, Nat.reduceAdd, Nat.reduceMul, Int.reduceNe, Int.reduceEq, Int.reduceLT, Int.reduceLE, Int.reduceNeg, Int.reduceAdd, Int.reduceSub, Int.reduceMul, Int.reduceToNat, beq_self_eq_true, c6, c6S0, c6S1, c6S2, c6S3, c6S4, c6S5, c6S6, c6S7, c6S8, c6S9]
          refine ⟨Chg.of_below t2.bel, ?_, ?_, ?_⟩
          · refine t2.append 0 rfl ty25mkI rfl (by decide) (Rd.below hB.row (Below.next b37 t2.bel) (by decide)) hB.ones (by omega) (by omega) ?_
            intro v3 w3' t3 _
            simp only [List.set_cons_zero, List.set_cons_succ, List.nil_append, Nat.zero_add] at t3
            obtain ⟨a3, d3, rfl, _⟩ := own_slice (t3.row 0 rfl)
            simp (disch := first | omega | exact okFill_t rfl | exact okSize_t rfl | exact fun h => h | (simp only [World.size_alloc, World.size_drew, World.size_setCell, size_fill, bytesW]; omega)) only [go_sem, ↓reduceIte, reduceCtorEq, Nat.reduceBEq, Nat.reduceEqDiff, Nat.reduceAdd, Nat.reduceMul, Int.reduceNe, Int.reduceEq, Int.reduceLT, Int.reduceLE, Int.reduceNeg, Int.reduceAdd, Int.reduceSub, Int.reduceMul, Int.reduceToNat, beq_self_eq_true, c6, c6S0, c6S1, c6S2, c6S3, c6S4, c6S5, c6S6, c6S7, c6S8, c6S9]
            refine ⟨Chg.of_below t3.bel, ?_, ?_, ?_⟩
            · refine Ret.mono (search3 t3.bel (rowAB t3.bel (t3.row 0 rfl))) ?_
              rintro u9 w9 ⟨⟨U2, r'', hU'', hR'', hV''⟩, b9⟩
              obtain ⟨ya'', yn'', yc'', xa'', xn'', xc'', nn'', ue'', rfl, _⟩ := hV''.v.form
              have t8 := t3.call b9
              have t9 := t8.box #[.slice ya'' yn'' yc'', .slice xa'' xn'' xc'', .int .i64 nn''] 27
              simp (disch := first | omega | exact okFill_t rfl | exact okSize_t rfl | exact fun h => h | (simp only [World.size_alloc, World.size_drew, World.size_setCell, size_fill, bytesW]; omega)) only [go_sem, ↓reduceIte, reduceCtorEq, Nat.reduceBEq, Nat.reduceEqDiff, Nat.reduceAdd, Nat.reduceMul, Int.reduceNe, Int.reduceEq, Int.reduceLT, Int.reduceLE, Int.reduceNeg, Int.reduceAdd, Int.reduceSub, Int.reduceMul, Int.reduceToNat, beq_self_eq_true, c6, c6S0, c6S1, c6S2, c6S3, c6S4, c6S5, c6S7, c6S8, c6S9]
              refine ⟨Chg.of_below t8.bel, Chg.of_below (t8.alloc' _).bel, Chg.of_below t9.bel, ?_⟩
              exact joins_rest (Int.le_refl _) (St.join s8 (t9.sub (L' := [.blk w9.heap.size #[.slice ya'' yn'' yc'', .slice xa'' xn'' xc'', .int .i64 nn''] 27]) (by simp))) (hVd.below t9.bel) (hVd'.below t9.bel) (hV''.v.below ((Below.refl _ _).alloc (Nat.le_refl _) _)) hR hR' hR'' hU hU' hU'' hT hT'
            · have tz := (t3.box #[.slice none 0 0, .slice none 0 0, .int .i64 0] 27).perm (List.Perm.swap _ _ _)
              exact Chg.of_below tz.bel
            · have tz := (t3.box #[.slice none 0 0, .slice none 0 0, .int .i64 0] 27).perm (List.Perm.swap _ _ _)
              refine Ret.mono (search3 tz.bel (rowAB tz.bel (tz.row 0 rfl))) ?_
              rintro u9 w9 ⟨⟨U2, r'', hU'', hR'', hV''⟩, b9⟩
              obtain ⟨ya'', yn'', yc'', xa'', xn'', xc'', nn'', ue'', rfl, _⟩ := hV''.v.form
              have t8 := tz.call b9
              have r8 := t8.rules 1 rfl
              have lz := (tz.low 1 rfl).2
              simp (disch := first | omega | exact okFill_t rfl | exact okSize_t rfl | exact fun h => h | (simp only [World.size_alloc, World.size_drew, World.size_setCell, size_fill, bytesW]; omega)) only [go_sem, ↓reduceIte, reduceCtorEq, Nat.reduceBEq, Nat.reduceEqDiff, Nat.reduceAdd, Nat.reduceMul, Int.reduceNe, Int.reduceEq, Int.reduceLT, Int.reduceLE, Int.reduceNeg, Int.reduceAdd, Int.reduceSub, Int.reduceMul, Int.reduceToNat, beq_self_eq_true, c6, c6S0, c6S1, c6S2, c6S3, c6S4, c6S5, c6S7, c6S8, c6S9, r8]
              have t9 := t8.fill 1 rfl (cs := #[.slice ya'' yn'' yc'', .slice xa'' xn'' xc'', .int .i64 nn'']) rfl
              simp only [List.set_cons_zero, List.set_cons_succ] at t9
              refine ⟨Chg.of_below t8.bel, Chg.of_below t9.bel, ?_⟩
              exact joins_rest (Int.le_refl _) (St.join s8 (t9.sub (List.sublist_cons_self _ _))) (hVd.below t9.bel) (hVd'.below t9.bel) (hV''.fill lz) hR hR' hR'' hU hU' hU'' hT hT'
          · have tz := (t2.box #[.slice none 0 0, .slice none 0 0, .int .i64 0] 27).perm (List.Perm.swap _ _ _)
            exact Chg.of_below tz.bel
          · have tz := (t2.box #[.slice none 0 0, .slice none 0 0, .int .i64 0] 27).perm (List.Perm.swap _ _ _)
            refine tz.append 0 rfl ty25mkI rfl (by decide) (Rd.below hB.row (Below.next b37 tz.bel) (by decide)) hB.ones (by omega) (by omega) ?_
            intro v3 w3' t3 _
            simp only [List.set_cons_zero, List.set_cons_succ, List.nil_append, Nat.zero_add] at t3
            obtain ⟨a3, d3, rfl, _⟩ := own_slice (t3.row 0 rfl)
            simp (disch := first | omega | exact okFill_t rfl | exact okSize_t rfl | exact fun h => h | (simp only [World.size_alloc, World.size_drew, World.size_setCell, size_fill, bytesW]; omega)) only [go_sem, ↓reduceIte, reduceCtorEq, Nat.reduceBEq, Nat.reduceEqDiff, Nat.reduceAdd, Nat.reduceMul, Int.reduceNe, Int.reduceEq, Int.reduceLT, Int.reduceLE, Int.reduceNeg, Int.reduceAdd, Int.reduceSub, Int.reduceMul, Int.reduceToNat, beq_self_eq_true, c6, c6S0, c6S1, c6S2, c6S3, c6S4, c6S5, c6S6, c6S7, c6S8, c6S9]
            refine ⟨Chg.of_below t3.bel, ?_⟩
            refine Ret.mono (search3 t3.bel (rowAB t3.bel (t3.row 0 rfl))) ?_
            rintro u9 w9 ⟨⟨U2, r'', hU'', hR'', hV''⟩, b9⟩
            obtain ⟨ya'', yn'', yc'', xa'', xn'', xc'', nn'', ue'', rfl, _⟩ := hV''.v.form
            have t8 := t3.call b9
            have r8 := t8.rules 1 rfl
            have lz := (t3.low 1 rfl).2
            simp (disch := first | omega | exact okFill_t rfl | exact okSize_t rfl | exact fun h => h | (simp only [World.size_alloc, World.size_drew, World.size_setCell, size_fill, bytesW]; omega)) only [go_sem, ↓reduceIte, reduceCtorEq, Nat.reduceBEq, Nat.reduceEqDiff, Nat.reduceAdd, Nat.reduceMul, Int.reduceNe, Int.reduceEq, Int.reduceLT, Int.reduceLE, Int.reduceNeg, Int.reduceAdd, Int.reduceSub, Int.reduceMul, Int.reduceToNat, beq_self_eq_true, c6, c6S0, c6S1, c6S2, c6S3, c6S4, c6S5, c6S7, c6S8, c6S9, r8]
            have t9 := t8.fill 1 rfl (cs := #[.slice ya'' yn'' yc'', .slice xa'' xn'' xc'', .int .i64 nn'']) rfl
            simp only [List.set_cons_zero, List.set_cons_succ] at t9
            refine ⟨Chg.of_below t8.bel, Chg.of_below t9.bel, ?_⟩
            exact joins_rest (Int.le_refl _) (St.join s8 (t9.sub (List.sublist_cons_self _ _))) (hVd.below t9.bel) (hVd'.below t9.bel) (hV''.fill lz) hR hR' hR'' hU hU' hU'' hT hT'
        · have tz := (t1.box #[.slice none 0 0, .slice none 0 0, .int .i64 0] 27).perm (List.Perm.swap _ _ _)
          exact Chg.of_below tz.bel
        · have tz := (t1.box #[.slice none 0 0, .slice none 0 0, .int .i64 0] 27).perm (List.Perm.swap _ _ _)
          rw [World.size_alloc, World.size_drew] at tz
          refine tz.append 0 rfl ty25mkI rfl (by decide) (Rd.below hA.row (Below.next b37 tz.bel) (by decide)) hA.ones (by omega) (by omega) ?_
          intro v2 w2' t2 _
          simp only [List.set_cons_zero, List.set_cons_succ, List.nil_append, Nat.zero_add] at t2
          obtain ⟨a2, d2, rfl, _⟩ := own_slice (t2.row 0 rfl)
          simp (disch := first | omega | exact okFill_t rfl | exact okSize_t rfl | exact fun h => h | (simp only [World.size_alloc, World.size_drew, World.size_setCell, size_fill, bytesW]; omega)) only [go_sem, ↓reduceIte, reduceCtorEq, Nat.reduceBEq, Nat.reduceEqDiff, Nat.reduceAdd, Nat.reduceMul, Int.reduceNe, Int.reduceEq, Int.reduceLT, Int.reduceLE, Int.reduceNeg, Int.reduceAdd, Int.reduceSub, Int.reduceMul, Int.reduceToNat, beq_self_eq_true, c6, c6S0, c6S1, c6S2, c6S3, c6S4, c6S5, c6S6, c6S7, c6S8, c6S9]
          refine ⟨Chg.of_below t2.bel, ?_⟩
          refine t2.append 0 rfl ty25mkI rfl (by decide) (Rd.below hB.row (Below.next b37 t2.bel) (by decide)) hB.ones (by omega) (by omega) ?_
          intro v3 w3' t3 _
          simp only [List.set_cons_zero, List.set_cons_succ, List.nil_append, Nat.zero_add] at t3
          obtain ⟨a3, d3, rfl, _⟩ := own_slice (t3.row 0 rfl)
          simp (disch := first | omega | exact okFill_t rfl | exact okSize_t rfl | exact fun h => h | (simp only [World.size_alloc, World.size_drew, World.size_setCell, size_fill, bytesW]; omega)) only [go_sem, ↓reduceIte, reduceCtorEq, Nat.reduceBEq, Nat.reduceEqDiff, Nat.reduceAdd, Nat.reduceMul, Int.reduceNe, Int.reduceEq, Int.reduceLT, Int.reduceLE, Int.reduceNeg, Int.reduceAdd, Int.reduceSub, Int.reduceMul, Int.reduceToNat, beq_self_eq_true, c6, c6S0, c6S1, c6S2, c6S3, c6S4, c6S5, c6S6, c6S7, c6S8, c6S9]
          refine ⟨Chg.of_below t3.bel, ?_⟩
          refine Ret.mono (search3 t3.bel (rowAB t3.bel (t3.row 0 rfl))) ?_
          rintro u9 w9 ⟨⟨U2, r'', hU'', hR'', hV''⟩, b9⟩
          obtain ⟨ya'', yn'', yc'', xa'', xn'', xc'', nn'', ue'', rfl, _⟩ := hV''.v.form
          have t8 := t3.call b9
          have r8 := t8.rules 1 rfl
          have lz := (t3.low 1 rfl).2
          simp (disch := first | omega | exact okFill_t rfl | exact okSize_t rfl | exact fun h => h | (simp only [World.size_alloc, World.size_drew, World.size_setCell, size_fill, bytesW]; omega)) only [go_sem, ↓reduceIte, reduceCtorEq, Nat.reduceBEq, Nat.reduceEqDiff, Nat.reduceAdd, Nat.reduceMul, Int.reduceNe, Int.reduceEq, Int.reduceLT, Int.reduceLE, Int.reduceNeg, Int.reduceAdd, Int.reduceSub, Int.reduceMul, Int.reduceToNat, beq_self_eq_true, c6, c6S0, c6S1, c6S2, c6S3, c6S4, c6S5, c6S7, c6S8, c6S9, r8]
          have t9 := t8.fill 1 rfl (cs := #[.slice ya'' yn'' yc'', .slice xa'' xn'' xc'', .int .i64 nn'']) rfl
          simp only [List.set_cons_zero, List.set_cons_succ] at t9
          refine ⟨Chg.of_below t8.bel, Chg.of_below t9.bel, ?_⟩
          exact joins_rest (Int.le_refl _) (St.join s8 (t9.sub (List.sublist_cons_self _ _))) (hVd.below t9.bel) (hVd'.below t9.bel) (hV''.fill lz) hR hR' hR'' hU hU' hU'' hT hT'
      · have tz := t0.box #[.slice none 0 0, .slice none 0 0, .int .i64 0] 27
        exact Chg.of_below tz.bel
      · have tz := t0.box #[.slice none 0 0, .slice none 0 0, .int .i64 0] 27
        rw [World.size_drew] at tz
        refine bsW_none ty25mkI ?_
        have t1 := tz.emptyRow 36 1
        rw [World.size_alloc, World.size_drew] at t1
        simp (disch := first | omega | exact okFill_t rfl | exact okSize_t rfl | exact fun h => h | (simp only [World.size_alloc, World.size_drew, World.size_setCell, size_fill, bytesW]; omega)) only [go_sem, ↓reduceIte, reduceCtorEq, Nat.reduceBEq, Nat.reduceEqDiff, Nat.reduceAdd, Nat.reduceMul, Int.reduceNe, Int.reduceEq, Int.reduceLT, Int.reduceLE, Int.reduceNeg, Int.reduceAdd, Int.reduceSub, Int.reduceMul, Int.reduceToNat, beq_self_eq_true, c6, c6S0, c6S1, c6S2, c6S3, c6S4, c6S5, c6S6, c6S7, c6S8, c6S9]
        refine ⟨Chg.of_below t1.bel, ?_⟩
        refine t1.append 0 rfl ty25mkI rfl (by decide) (Rd.below hA.row (Below.next b37 t1.bel) (by decide)) hA.ones (by omega) (by omega) ?_
        intro v2 w2' t2 _
        simp only [List.set_cons_zero, List.set_cons_succ, List.nil_append, Nat.zero_add] at t2
        obtain ⟨a2, d2, rfl, _⟩ := own_slice (t2.row 0 rfl)
        simp (disch := first | omega | exact okFill_t rfl | exact okSize_t rfl | exact fun h => h | (simp only [World.size_alloc, World.size_drew, World.size_setCell, size_fill, bytesW]; omega)) only [go_sem, ↓reduceIte, reduceCtorEq, Nat.reduceBEq, Nat.reduceEqDiff, Nat.reduceAdd, Nat.reduceMul, Int.reduceNe, Int.reduceEq, Int.reduceLT, Int.reduceLE, Int.reduceNeg, Int.reduceAdd, Int.reduceSub, Int.reduceMul, Int.reduceToNat, beq_self_eq_true, c6, c6S0, c6S1, c6S2, c6S3, c6S4, c6S5, c6S6, c6S7, c6S8, c6S9]
        refine ⟨Chg.of_below t2.bel, ?_⟩
        refine t2.append 0 rfl ty25mkI rfl (by decide) (Rd.below hB.row (Below.next b37 t2.bel) (by decide)) hB.ones (by omega) (by omega) ?_
        intro v3 w3' t3 _
        simp only [List.set_cons_zero, List.set_cons_succ, List.nil_append, Nat.zero_add] at t3
        obtain ⟨a3, d3, rfl, _⟩ := own_slice (t3.row 0 rfl)
        simp (disch := first | omega | exact okFill_t rfl | exact okSize_t rfl | exact fun h => h | (simp only [World.size_alloc, World.size_drew, World.size_setCell, size_fill, bytesW]; omega)) only [go_sem, ↓reduceIte, reduceCtorEq, Nat.reduceBEq, Nat.reduceEqDiff, Nat.reduceAdd, Nat.reduceMul, Int.reduceNe, Int.reduceEq, Int.reduceLT, Int.reduceLE, Int.reduceNeg, Int.reduceAdd, Int.reduceSub, Int.reduceMul, Int.reduceToNat, beq_self_eq_true, c6, c6S0, c6S1, c6S2, c6S3, c6S4, c6S5, c6S6, c6S7, c6S8, c6S9]
        refine ⟨Chg.of_below t3.bel, ?_⟩
        refine Ret.mono (search3 t3.bel (rowAB t3.bel (t3.row 0 rfl))) ?_
        rintro u9 w9 ⟨⟨U2, r'', hU'', hR'', hV''⟩, b9⟩
        obtain ⟨ya'', yn'', yc'', xa'', xn'', xc'', nn'', ue'', rfl, _⟩ := hV''.v.form
        have t8 := t3.call b9
        have r8 := t8.rules 1 rfl
        have lz := (t3.low 1 rfl).2
        simp (disch := first | omega | exact okFill_t rfl | exact okSize_t rfl | exact fun h => h | (simp only [World.size_alloc, World.size_drew, World.size_setCell, size_fill, bytesW]; omega)) only [go_sem, ↓reduceIte, reduceCtorEq, Nat.reduceBEq, Nat.reduceEqDiff, Nat.reduceAdd, Nat.reduceMul, Int.reduceNe, Int.reduceEq, Int.reduceLT, Int.reduceLE, Int.reduceNeg, Int.reduceAdd, Int.reduceSub, Int.reduceMul, Int.reduceToNat, beq_self_eq_true, c6, c6S0, c6S1, c6S2, c6S3, c6S4, c6S5, c6S7, c6S8, c6S9, r8]
        have t9 := t8.fill 1 rfl (cs := #[.slice ya'' yn'' yc'', .slice xa'' xn'' xc'', .int .i64 nn'']) rfl
        simp only [List.set_cons_zero, List.set_cons_succ] at t9
        refine ⟨Chg.of_below t8.bel, Chg.of_below t9.bel, ?_⟩
        exact joins_rest (Int.le_refl _) (St.join s8 (t9.sub (List.sublist_cons_self _ _))) (hVd.below t9.bel) (hVd'.below t9.bel) (hV''.fill lz) hR hR' hR'' hU hU' hU'' hT hT'
set_option maxRecDepth 100000 in
theorem linJoins_law {H : Type} {enc : TypeId × Value → H} {w : World} {r r' r'' : Reach} {b b' b'' base base' base'' : Nat} {sp sp' sp'' : Nat → Bool} {hd hd' hd'' : Bool} {v v' v'' : Value} {d d' d'' : DataW H} {p p' p'' : List MemPlace}
    (h : Value.okWide Try.prog w r b 24 v) (k : DataW.Trod enc Try.prog w base sp hd 24 v d p) (h' : Value.okWide Try.prog w r' b' 25 v') (k' : DataW.Trod enc Try.prog w base' sp' hd' 25 v' d' p') (hk : Rows.uptoBulk d' ≤ 1048576)
    (h'' : Value.okWide Try.prog w r'' b'' 25 v'') (k'' : DataW.Trod enc Try.prog w base'' sp'' hd'' 25 v'' d'' p'') (hk' : Rows.uptoBulk d'' ≤ 1048576) :
    Ret Try.prog 6 [v, v', v''] w fun u w' => u = .bool true ∧ Below w.heap.size w w' := by
  obtain ⟨a, cs, rfl, lv, rfl, q1, q2, q3⟩ := Opens.struct_arg opens_Seg Try.underlying24 h k
  obtain ⟨D, g1, g2, g3⟩ := sts_arg h' k'
  obtain ⟨D', g1', g2', g3'⟩ := sts_arg h'' k''
  exact linJoins_ok q1 q3 q2 g1 g2 (by omega) g1' g2' (by omega)
end Go.Proofs.Ytbeoedgoikcbpaa
