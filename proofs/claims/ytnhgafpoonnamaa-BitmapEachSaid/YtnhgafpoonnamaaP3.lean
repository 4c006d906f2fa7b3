/- Contracts over the bitmap's functions: how many numbers are in a set; the chapter's examples. -/
import Derived.Test.YtnhgafpoonnamaaP2
namespace Go.Proofs.Ytnhgafpoonnamaa
set_option linter.unusedSimpArgs false
set_option linter.unusedVariables false
open Go Go.Ann Go.RowKit

/-- How many bits a byte has. -/
def popN (c : Int) : Nat := ((List.range 8).filter (bitOf c)).length
/-- How many numbers are in a set. -/
def countL (l : List UInt8) : Nat := (l.map fun b => popN b.toNat).sum
theorem popN_le (c : Int) : popN c ≤ 8 := by
  unfold popN
  exact Nat.le_trans (List.length_filter_le _ _) (by simp)
theorem countL_le : ∀ l : List UInt8, countL l ≤ 8 * l.length
  | [] => by simp [countL]
  | b :: l => by
    have := countL_le l
    have h := popN_le b.toNat
    simp only [countL, List.map_cons, List.sum_cons, List.length_cons] at *
    omega
theorem countL_take (l : List UInt8) (k : Nat) (h : k < l.length) : countL (l.take (k + 1)) = countL (l.take k) + popN (bN l k) := by
  rw [List.take_succ_eq_append_getElem h]
  have : bN l k = (l[k].toNat : Int) := bN_get l k _ (List.getElem?_eq_getElem h)
  rw [this]
  unfold countL
  rw [List.map_append, List.sum_append]
  simp

theorem ones_ok (c : Int) (w : World) (h0 : 0 ≤ c) (h1 : c ≤ 255) :
    Ret Try.prog 22 [.int .u8 c] w fun v w' => v = .int .i64 (popN c) ∧ w' = w := by
  refine ent22 _ _ _ ?_
  simp only [go_sem, ↓reduceIte, reduceCtorEq, Nat.reduceBEq, Nat.reduceEqDiff, Nat.reduceAdd, Nat.reduceMul, Int.reduceNe, Int.reduceEq, Int.reduceLT, Int.reduceLE, Int.reduceNeg, Int.reduceAdd, Int.reduceSub, Int.reduceMul, Int.reduceToNat, beq_self_eq_true, c22]
  have len : str256x1466348926.length = 256 := by decide +kernel
  have all : ∀ m : Fin 256, bN str256x1466348926 (m.val : Int) = (popN (m.val : Int) : Int) := by decide +kernel
  have e : bN str256x1466348926 c = popN c := by
    have := all ⟨c.toNat, by omega⟩
    rwa [show ((c.toNat : Nat) : Int) = c by omega] at this
  have := popN_le c
  refine ⟨⟨h0, by omega⟩, ?_, ?_⟩
  · rw [e]; constructor <;> omega
  · rw [e]
theorem count_ok (l : List UInt8) (w : World) (hl : (l.length : Int) ≤ 140737488355328) :
    Ret Try.prog 15 [.string (ofL l)] w fun v w' => v = .int .i64 (countL l) ∧ w' = w := by
  refine ent15 _ _ _ ?_
  simp only [go_sem, ↓reduceIte, reduceCtorEq, Nat.reduceBEq, Nat.reduceEqDiff, Nat.reduceAdd, Nat.reduceMul, Int.reduceNe, Int.reduceEq, Int.reduceLT, Int.reduceLE, Int.reduceNeg, Int.reduceAdd, Int.reduceSub, Int.reduceMul, Int.reduceToNat, beq_self_eq_true, c15, c15S0, c15S1, c15S2]
  refine W_loop (fun k : Nat => [(0, Value.string (ofL l)), (3, .int .i64 (countL (l.take k))), (6, .int .i64 l.length), (7, .int .i64 (k : Int))])
    (fun k w' => k ≤ l.length ∧ w' = w) (fun k => l.length - k) 0 (by rfl) ⟨Nat.zero_le _, rfl⟩ ?_
  rintro k w' ⟨hk, rfl⟩
  simp only [go_sem, ↓reduceIte, reduceCtorEq, Nat.reduceBEq, Nat.reduceEqDiff, Nat.reduceAdd, Nat.reduceMul, Int.reduceNe, Int.reduceEq, Int.reduceLT, Int.reduceLE, Int.reduceNeg, Int.reduceAdd, Int.reduceSub, Int.reduceMul, Int.reduceToNat, beq_self_eq_true, c15, c15S0, c15S1, c15S2, c15L0]
  refine ⟨fun h => ⟨⟨by omega, h⟩, ?_⟩, fun h => ?_⟩
  · have bd := bN_bd l k
    have h' : k < l.length := by omega
    have ct := countL_take l k h'
    have c1 := countL_le (l.take (k + 1))
    have c2 := countL_le (l.take k)
    have l1 : (l.take (k + 1)).length = k + 1 := by rw [List.length_take]; omega
    have l2 : (l.take k).length = k := by rw [List.length_take]; omega
    rw [l1] at c1
    rw [l2] at c2
    refine (ones_ok _ _ bd.1 bd.2).mono ?_
    rintro _ w3 ⟨rfl, rfl⟩
    simp only [go_sem, ↓reduceIte, reduceCtorEq, Nat.reduceBEq, Nat.reduceEqDiff, Nat.reduceAdd, Nat.reduceMul, Int.reduceNe, Int.reduceEq, Int.reduceLT, Int.reduceLE, Int.reduceNeg, Int.reduceAdd, Int.reduceSub, Int.reduceMul, Int.reduceToNat, beq_self_eq_true, c15, c15S0, c15S1, c15S2]
    refine ⟨by constructor <;> omega, by constructor <;> omega, k + 1, ?_, by omega, by omega⟩
    rw [ct]; simp
  · rw [List.take_of_length_le (by omega)]
theorem bnext {a b c : World} (h : Below a.heap.size a b) (k : Below b.heap.size b c) : Below a.heap.size a c := h.trans (k.mono h.size)
theorem awake_ok (w : World) :
    Ret Try.prog 12 [] w fun v w' => v = .bool true ∧ Below w.heap.size w w' := by
  refine ent12 _ _ ?_
  simp only [go_sem, ↓reduceIte, reduceCtorEq, Nat.reduceBEq, Nat.reduceEqDiff, Nat.reduceAdd, Nat.reduceMul, Int.reduceNe, Int.reduceEq, Int.reduceLT, Int.reduceLE, Int.reduceNeg, Int.reduceAdd, Int.reduceSub, Int.reduceMul, Int.reduceToNat, beq_self_eq_true, c12, c12S0, c12S1, c12S2]
  refine Ret.mono (empty_ok 9 w (by constructor <;> omega) (by decide)) ?_
  rintro _ w2 ⟨rfl, hw⟩
  simp only [go_sem, ↓reduceIte, reduceCtorEq, Nat.reduceBEq, Nat.reduceEqDiff, Nat.reduceAdd, Nat.reduceMul, Int.reduceNe, Int.reduceEq, Int.reduceLT, Int.reduceLE, Int.reduceNeg, Int.reduceAdd, Int.reduceSub, Int.reduceMul, Int.reduceToNat, beq_self_eq_true, c12, c12S0, c12S1, c12S2]
  refine Ret.mono (with_ok (emptyL 9) 3 true w2 (by constructor <;> omega)) ?_
  rintro _ w3 ⟨rfl, hw3⟩
  simp only [go_sem, ↓reduceIte, reduceCtorEq, Nat.reduceBEq, Nat.reduceEqDiff, Nat.reduceAdd, Nat.reduceMul, Int.reduceNe, Int.reduceEq, Int.reduceLT, Int.reduceLE, Int.reduceNeg, Int.reduceAdd, Int.reduceSub, Int.reduceMul, Int.reduceToNat, beq_self_eq_true, c12, c12S0, c12S1, c12S2]
  have e1 : withL (emptyL 9) 3 true = [8, 0] := by decide +kernel
  have e2 : fitsL (emptyL 9) 3 = true := by decide +kernel
  rw [e1]
  refine Ret.mono (lowest_ok [8, 0] 3 9 w3 (by constructor <;> omega) (by constructor <;> omega) (by decide)) ?_
  rintro _ w4 ⟨n, ok, rfl, hlow, rfl⟩
  have lw : IsLow [8, 0] 3 9 4 true := .inl ⟨rfl, by omega, by omega, by omega, by decide, by decide +kernel, fun j h1 h2 h3 => by
    obtain rfl : j = 3 := by omega
    decide +kernel⟩
  obtain ⟨rfl, rfl⟩ := hlow.same lw
  simp only [go_sem, ↓reduceIte, reduceCtorEq, Nat.reduceBEq, Nat.reduceEqDiff, Nat.reduceAdd, Nat.reduceMul, Int.reduceNe, Int.reduceEq, Int.reduceLT, Int.reduceLE, Int.reduceNeg, Int.reduceAdd, Int.reduceSub, Int.reduceMul, Int.reduceToNat, beq_self_eq_true, c12, c12S0, c12S1, c12S2]
  refine Ret.mono (empty_ok 9 w4 (by constructor <;> omega) (by decide)) ?_
  rintro _ w5 ⟨rfl, hw5⟩
  have hb : Below w.heap.size w w5 := bnext (bnext hw hw3) hw5
  have e3 : ((emptyL 9).length : Int) = 2 := by decide +kernel
  simp only [go_sem, ↓reduceIte, reduceCtorEq, Nat.reduceBEq, Nat.reduceEqDiff, Nat.reduceAdd, Nat.reduceMul, Int.reduceNe, Int.reduceEq, Int.reduceLT, Int.reduceLE, Int.reduceNeg, Int.reduceAdd, Int.reduceSub, Int.reduceMul, Int.reduceToNat, beq_self_eq_true, c12, c12S0, c12S1, c12S2, e2, e3]
  refine Ret.mono (count_ok [8, 0] w5 (by decide)) ?_
  rintro _ w6 ⟨rfl, rfl⟩
  have e4 : (countL [8, 0] : Int) = 1 := by decide +kernel
  simp only [go_sem, ↓reduceIte, reduceCtorEq, Nat.reduceBEq, Nat.reduceEqDiff, Nat.reduceAdd, Nat.reduceMul, Int.reduceNe, Int.reduceEq, Int.reduceLT, Int.reduceLE, Int.reduceNeg, Int.reduceAdd, Int.reduceSub, Int.reduceMul, Int.reduceToNat, beq_self_eq_true, c12, c12S0, c12S1, c12S2, e4]
  exact ⟨by simp, hb⟩
end Go.Proofs.Ytnhgafpoonnamaa
