/- Texts put together by program: L38. -/
import Derived.Test.YtbeoedgoikcbpaaM5
namespace Go.Proofs.Ytbeoedgoikcbpaa
set_option linter.unusedSimpArgs false
set_option linter.unusedVariables false
set_option maxRecDepth 100000
open Go Go.Ann Go.RowKit
theorem linUnique_ok {w : World} {ev : Value} {D : List VS} (hE : RowS w ev D) (h64 : ∀ p ∈ D, Ok64 p.2) (hD : bulkS D ≤ 1048576) :
    Ret Try.prog 4 [ev] w fun u w' => u = .bool true ∧ Below w.heap.size w w' := by
  obtain ⟨a, c, rfl, _⟩ := hE.form
  have hDl := bulk_length D
  have hs1 := sumL_le D
  refine ent4 _ _ _ ?_
  simp (disch := first | omega | exact okFill_t rfl | exact okSize_t rfl | exact fun h => h | (simp only [World.size_alloc, World.size_drew, World.size_setCell, size_fill, bytesW]; omega)) only [go_sem, ↓reduceIte, reduceCtorEq, Nat.reduceBEq, Nat.reduceEqDiff, Nat.reduceAdd, Nat.reduceMul, Int.reduceNe, Int.reduceEq, Int.reduceLT, Int.reduceLE, Int.reduceNeg, Int.reduceAdd, Int.reduceSub, Int.reduceMul, Int.reduceToNat, beq_self_eq_true, c4, c4S0, c4S1, c4L0, c4S2, c4S3, c4S4]
  refine ⟨fun h60 => Ret.mono (awake_ok w) ?_, fun h60 => ?_⟩
  · rintro _ w2 ⟨rfl, b2⟩
    simp (disch := first | omega | exact okFill_t rfl | exact okSize_t rfl | exact fun h => h | (simp only [World.size_alloc, World.size_drew, World.size_setCell, size_fill, bytesW]; omega)) only [go_sem, ↓reduceIte, reduceCtorEq, Nat.reduceBEq, Nat.reduceEqDiff, Nat.reduceAdd, Nat.reduceMul, Int.reduceNe, Int.reduceEq, Int.reduceLT, Int.reduceLE, Int.reduceNeg, Int.reduceAdd, Int.reduceSub, Int.reduceMul, Int.reduceToNat, beq_self_eq_true, c4, c4S0, c4S1, c4L0, c4S2, c4S3, c4S4]
    exact b2
  refine W_loopU (fun k : Nat => [(3, .int .i64 (sumL (D.take k))), (4, .int .i64 k)]) (fun k w' => w' = w ∧ k ≤ D.length) (fun k => D.length - k) 0 rfl ⟨rfl, Nat.zero_le _⟩ ?_
  rintro k _ ⟨rfl, hk⟩
  have hst := sumL_take D k
  by_cases hlt : k < D.length
  · have hlt' : (k : Int) < D.length := by omega
    have et : D.take (k + 1) = D.take k ++ [D[k]] := List.take_succ_eq_append_getElem hlt
    have hst1 := sumL_take D (k + 1)
    rw [et, sumL_app] at hst1
    obtain ⟨p, rfl⟩ := hE.ptr (by omega)
    have ek := hE.at hlt
    have rk := hE.rd _ (List.getElem_mem hlt)
    obtain ⟨ka, kc, hkf, _⟩ := rk.form
    rw [hkf] at ek
    have nx : ((sumL (D.take k) : Nat) : Int) + (D[k].2.length : Int) = ((sumL (D.take (k + 1)) : Nat) : Int) := by rw [et, sumL_app]; omega
    simp (disch := first | omega | exact okFill_t rfl | exact okSize_t rfl | exact fun h => h | (simp only [World.size_alloc, World.size_drew, World.size_setCell, size_fill, bytesW]; omega)) only [go_sem, ↓reduceIte, reduceCtorEq, Nat.reduceBEq, Nat.reduceEqDiff, Nat.reduceAdd, Nat.reduceMul, Int.reduceNe, Int.reduceEq, Int.reduceLT, Int.reduceLE, Int.reduceNeg, Int.reduceAdd, Int.reduceSub, Int.reduceMul, Int.reduceToNat, beq_self_eq_true, c4, c4S0, c4S1, c4L0, c4S2, c4S3, c4S4, c4L0, hlt', ek]
    exact ⟨by omega, ⟨by omega, by omega⟩, ⟨by omega, by omega⟩, k + 1, by rw [nx]; rfl, by omega, by omega⟩
  · have hlt' : ¬ (k : Int) < D.length := by omega
    have e : D.take k = D := List.take_of_length_le (by omega)
    rw [e]
    by_cases h6 : (600 : Int) < ((sumL D : Nat) : Int)
    · simp (disch := first | omega | exact okFill_t rfl | exact okSize_t rfl | exact fun h => h | (simp only [World.size_alloc, World.size_drew, World.size_setCell, size_fill, bytesW]; omega)) only [go_sem, ↓reduceIte, reduceCtorEq, Nat.reduceBEq, Nat.reduceEqDiff, Nat.reduceAdd, Nat.reduceMul, Int.reduceNe, Int.reduceEq, Int.reduceLT, Int.reduceLE, Int.reduceNeg, Int.reduceAdd, Int.reduceSub, Int.reduceMul, Int.reduceToNat, beq_self_eq_true, c4, c4S0, c4S1, c4L0, c4S2, c4S3, c4S4, c4L0, hlt', h6]
      exact Below.refl _ _
    · have hok : ∀ p ∈ D, OkS p.2 := fun p hp => ⟨h64 p hp, by have := sumL_mem hp; omega⟩
      simp (disch := first | omega | exact okFill_t rfl | exact okSize_t rfl | exact fun h => h | (simp only [World.size_alloc, World.size_drew, World.size_setCell, size_fill, bytesW]; omega)) only [go_sem, ↓reduceIte, reduceCtorEq, Nat.reduceBEq, Nat.reduceEqDiff, Nat.reduceAdd, Nat.reduceMul, Int.reduceNe, Int.reduceEq, Int.reduceLT, Int.reduceLE, Int.reduceNeg, Int.reduceAdd, Int.reduceSub, Int.reduceMul, Int.reduceToNat, beq_self_eq_true, c4, c4S0, c4S1, c4L0, c4S2, c4S3, c4S4, c4L0, hlt', h6]
      refine Ret.mono (unique_ok _ D _ hE hok (by omega)) ?_
      rintro uv w2 ⟨⟨U, hU, hUR, _⟩, b2⟩
      obtain ⟨ua, uc, rfl, _⟩ := hUR.form
      simp (disch := first | omega | exact okFill_t rfl | exact okSize_t rfl | exact fun h => h | (simp only [World.size_alloc, World.size_drew, World.size_setCell, size_fill, bytesW]; omega)) only [go_sem, ↓reduceIte, reduceCtorEq, Nat.reduceBEq, Nat.reduceEqDiff, Nat.reduceAdd, Nat.reduceMul, Int.reduceNe, Int.reduceEq, Int.reduceLT, Int.reduceLE, Int.reduceNeg, Int.reduceAdd, Int.reduceSub, Int.reduceMul, Int.reduceToNat, beq_self_eq_true, c4, c4S0, c4S1, c4L0, c4S2, c4S3, c4S4]
      refine Ret.mono (sorted_ok _ D w2 (hE.below b2) hok (by omega)) ?_
      rintro vv w3 ⟨⟨V, hV, hVD, hrow⟩, b3⟩
      have hV3 : RowS w3 vv V := ⟨Rd.of_own hrow, fun p hp => ((hE.below b2).rd p (hVD p hp)).below b3 (by decide)⟩
      obtain ⟨va, vc, rfl, _⟩ := own_slice hrow
      simp (disch := first | omega | exact okFill_t rfl | exact okSize_t rfl | exact fun h => h | (simp only [World.size_alloc, World.size_drew, World.size_setCell, size_fill, bytesW]; omega)) only [go_sem, ↓reduceIte, reduceCtorEq, Nat.reduceBEq, Nat.reduceEqDiff, Nat.reduceAdd, Nat.reduceMul, Int.reduceNe, Int.reduceEq, Int.reduceLT, Int.reduceLE, Int.reduceNeg, Int.reduceAdd, Int.reduceSub, Int.reduceMul, Int.reduceToNat, beq_self_eq_true, c4, c4S0, c4S1, c4L0, c4S2, c4S3, c4S4]
      have hle := uniq_le hU
      simp only [List.length_map] at hle
      refine Ret.mono (states_ok _ _ U V w3 (hUR.below b3) hV3 (fun p hp => ?_) (by omega)) ?_
      · have : p.2 ∈ U.map Prod.snd := List.mem_map.2 ⟨p, hp, rfl⟩
        obtain ⟨q, hq, e2⟩ := List.mem_map.1 ((hU.2 _).1 this)
        rw [← e2]; exact (hok q hq).2
      rintro _ w4 ⟨rfl, b4⟩
      rw [decide_eq_true (hU.one hV)]
      simp (disch := first | omega | exact okFill_t rfl | exact okSize_t rfl | exact fun h => h | (simp only [World.size_alloc, World.size_drew, World.size_setCell, size_fill, bytesW]; omega)) only [go_sem, ↓reduceIte, reduceCtorEq, Nat.reduceBEq, Nat.reduceEqDiff, Nat.reduceAdd, Nat.reduceMul, Int.reduceNe, Int.reduceEq, Int.reduceLT, Int.reduceLE, Int.reduceNeg, Int.reduceAdd, Int.reduceSub, Int.reduceMul, Int.reduceToNat, beq_self_eq_true, c4, c4S0, c4S1, c4L0, c4S2, c4S3, c4S4]
      refine Ret.mono (awake_ok w4) ?_
      rintro _ w5 ⟨rfl, b5⟩
      simp (disch := first | omega | exact okFill_t rfl | exact okSize_t rfl | exact fun h => h | (simp only [World.size_alloc, World.size_drew, World.size_setCell, size_fill, bytesW]; omega)) only [go_sem, ↓reduceIte, reduceCtorEq, Nat.reduceBEq, Nat.reduceEqDiff, Nat.reduceAdd, Nat.reduceMul, Int.reduceNe, Int.reduceEq, Int.reduceLT, Int.reduceLE, Int.reduceNeg, Int.reduceAdd, Int.reduceSub, Int.reduceMul, Int.reduceToNat, beq_self_eq_true, c4, c4S0, c4S1, c4L0, c4S2, c4S3, c4S4]
      exact Below.next (Below.next (Below.next b2 b3) b4) b5
set_option maxRecDepth 100000 in
theorem linUnique_law {H : Type} {enc : TypeId × Value → H} {w : World} {r : Reach} {b base : Nat} {sp : Nat → Bool} {hd : Bool} {v : Value} {d : DataW H} {p : List MemPlace}
    (h : Value.okWide Try.prog w r b 25 v) (k : DataW.Trod enc Try.prog w base sp hd 25 v d p) (hk : Rows.uptoBulk d ≤ 1048576) :
    Ret Try.prog 4 [v] w fun u w' => u = .bool true ∧ Below w.heap.size w w' := by
  obtain ⟨D, g1, g2, g3⟩ := sts_arg h k
  exact linUnique_ok g1 g2 (by omega)
end Go.Proofs.Ytbeoedgoikcbpaa
