/- Operations of histories, as an argument's things. -/
import Derived.Test.YtobamkckamnmoaaAnn20
import Derived.Test.YtobamkckamnmoaaCode
namespace Go.Proofs.Ytobamkckamnmoaa
set_option linter.unusedSimpArgs false
set_option linter.unusedVariables false
set_option maxRecDepth 100000
open Go Go.Ann Go.RowKit

structure OpT where
  ID : Int
  Proc : Int
  Object : Int
  Kind : Int
  Method : Int
  Arg : Int
  Second : Int
  Done : Bool
  Result : Int
  Invoke : Int
  Return : Int
deriving DecidableEq
def OpT.enc (a : OpT) : List Value := [.int .i64 a.ID, .int .i64 a.Proc, .int .i64 a.Object, .int .i64 a.Kind, .int .i64 a.Method, .int .i64 a.Arg, .int .i64 a.Second, .bool a.Done, .int .i64 a.Result, .int .i64 a.Invoke, .int .i64 a.Return]
def OpT.wf (a : OpT) : Prop := kOk .i64 a.ID ∧ kOk .i64 a.Proc ∧ kOk .i64 a.Object ∧ kOk .i64 a.Kind ∧ kOk .i64 a.Method ∧ kOk .i64 a.Arg ∧ kOk .i64 a.Second ∧ kOk .i64 a.Result ∧ kOk .i64 a.Invoke ∧ kOk .i64 a.Return
theorem OpT.len (a : OpT) : a.enc.length = 11 := rfl
theorem OpT.one (a : OpT) : ∀ u ∈ a.enc, u.oneCell' = true := by intro u hu; simp only [OpT.enc, List.mem_cons, List.not_mem_nil, or_false] at hu; rcases hu with rfl | rfl | rfl | rfl | rfl | rfl | rfl | rfl | rfl | rfl | rfl <;> rfl
theorem OpT.ones (l : List OpT) : ∀ u ∈ l.flatMap OpT.enc, u.oneCell' = true := by intro u hu; obtain ⟨a, _, h⟩ := List.mem_flatMap.1 hu; exact a.one u h
/-- Its cells, as rules. -/
theorem OpT.at (a : OpT) : a.enc[0]? = some (.int .i64 a.ID) ∧ a.enc[1]? = some (.int .i64 a.Proc) ∧ a.enc[2]? = some (.int .i64 a.Object) ∧ a.enc[3]? = some (.int .i64 a.Kind) ∧ a.enc[4]? = some (.int .i64 a.Method) ∧ a.enc[5]? = some (.int .i64 a.Arg) ∧ a.enc[6]? = some (.int .i64 a.Second) ∧ a.enc[7]? = some (.bool a.Done) ∧ a.enc[8]? = some (.int .i64 a.Result) ∧ a.enc[9]? = some (.int .i64 a.Invoke) ∧ a.enc[10]? = some (.int .i64 a.Return) := ⟨rfl, rfl, rfl, rfl, rfl, rfl, rfl, rfl, rfl, rfl, rfl⟩
theorem OpT.eqs (a b : OpT) : aggEq [.int, .int, .int, .int, .int, .int, .int, .bool, .int, .int, .int] a.enc b.enc = some (decide (a = b)) := by
  have h : (a = b) = (a.ID = b.ID ∧ a.Proc = b.Proc ∧ a.Object = b.Object ∧ a.Kind = b.Kind ∧ a.Method = b.Method ∧ a.Arg = b.Arg ∧ a.Second = b.Second ∧ a.Done = b.Done ∧ a.Result = b.Result ∧ a.Invoke = b.Invoke ∧ a.Return = b.Return) := by cases a; cases b; simp
  simp only [aggEq, OpT.enc, vEq, andO, if_true, toL_ofL, Option.some.injEq]
  rw [Bool.eq_iff_iff, decide_eq_true_eq, h]
  simp [Bool.and_eq_true, and_assoc]
set_option maxRecDepth 100000 in
theorem opens_OpT : Opens Try.prog 35 (fun _ (a : OpT) cs => cs = a.enc ∧ a.wf) := by
  intro H enc w base sp hd fuel cs x hx
  obtain ⟨hl, hf⟩ := opens_fields Try.underlying35 hx
  rw [show Try.prog.cellsOf 35 = 11 by kernel_rfl] at hl
  have c_0 : Try.prog.cellsOf 4 = 1 := by kernel_rfl
  have c_1 : Try.prog.cellsOf 3 = 1 := by kernel_rfl
  match cs, hl with
  | [v0, v1, v2, v3, v4, v5, v6, v7, v8, v9, v10], _ =>
    obtain ⟨n0, y0, g0⟩ := hf 0 _ rfl
    have h0 : DataW.trod enc Try.prog w base sp hd n0 3 (List.take (Try.prog.cellsOf 3) [v0, v1, v2, v3, v4, v5, v6, v7, v8, v9, v10]) = some y0 := g0
    rw [c_1] at h0
    obtain ⟨a0, e0⟩ := opens_int Try.underlying3 enc w base sp hd n0 [v0] y0 h0
    have r0 : v0 = _ := (List.cons.inj e0.1).1
    obtain ⟨n1, y1, g1⟩ := hf 1 _ rfl
    have h1 : DataW.trod enc Try.prog w base sp hd n1 3 (List.take (Try.prog.cellsOf 3) [v1, v2, v3, v4, v5, v6, v7, v8, v9, v10]) = some y1 := g1
    rw [c_1] at h1
    obtain ⟨a1, e1⟩ := opens_int Try.underlying3 enc w base sp hd n1 [v1] y1 h1
    have r1 : v1 = _ := (List.cons.inj e1.1).1
    obtain ⟨n2, y2, g2⟩ := hf 2 _ rfl
    have h2 : DataW.trod enc Try.prog w base sp hd n2 3 (List.take (Try.prog.cellsOf 3) [v2, v3, v4, v5, v6, v7, v8, v9, v10]) = some y2 := g2
    rw [c_1] at h2
    obtain ⟨a2, e2⟩ := opens_int Try.underlying3 enc w base sp hd n2 [v2] y2 h2
    have r2 : v2 = _ := (List.cons.inj e2.1).1
    obtain ⟨n3, y3, g3⟩ := hf 3 _ rfl
    have h3 : DataW.trod enc Try.prog w base sp hd n3 3 (List.take (Try.prog.cellsOf 3) [v3, v4, v5, v6, v7, v8, v9, v10]) = some y3 := g3
    rw [c_1] at h3
    obtain ⟨a3, e3⟩ := opens_int Try.underlying3 enc w base sp hd n3 [v3] y3 h3
    have r3 : v3 = _ := (List.cons.inj e3.1).1
    obtain ⟨n4, y4, g4⟩ := hf 4 _ rfl
    have h4 : DataW.trod enc Try.prog w base sp hd n4 3 (List.take (Try.prog.cellsOf 3) [v4, v5, v6, v7, v8, v9, v10]) = some y4 := g4
    rw [c_1] at h4
    obtain ⟨a4, e4⟩ := opens_int Try.underlying3 enc w base sp hd n4 [v4] y4 h4
    have r4 : v4 = _ := (List.cons.inj e4.1).1
    obtain ⟨n5, y5, g5⟩ := hf 5 _ rfl
    have h5 : DataW.trod enc Try.prog w base sp hd n5 3 (List.take (Try.prog.cellsOf 3) [v5, v6, v7, v8, v9, v10]) = some y5 := g5
    rw [c_1] at h5
    obtain ⟨a5, e5⟩ := opens_int Try.underlying3 enc w base sp hd n5 [v5] y5 h5
    have r5 : v5 = _ := (List.cons.inj e5.1).1
    obtain ⟨n6, y6, g6⟩ := hf 6 _ rfl
    have h6 : DataW.trod enc Try.prog w base sp hd n6 3 (List.take (Try.prog.cellsOf 3) [v6, v7, v8, v9, v10]) = some y6 := g6
    rw [c_1] at h6
    obtain ⟨a6, e6⟩ := opens_int Try.underlying3 enc w base sp hd n6 [v6] y6 h6
    have r6 : v6 = _ := (List.cons.inj e6.1).1
    obtain ⟨n7, y7, g7⟩ := hf 7 _ rfl
    have h7 : DataW.trod enc Try.prog w base sp hd n7 4 (List.take (Try.prog.cellsOf 4) [v7, v8, v9, v10]) = some y7 := g7
    rw [c_0] at h7
    obtain ⟨a7, e7⟩ := opens_bool Try.underlying4 enc w base sp hd n7 [v7] y7 h7
    have r7 : v7 = _ := (List.cons.inj e7).1
    obtain ⟨n8, y8, g8⟩ := hf 8 _ rfl
    have h8 : DataW.trod enc Try.prog w base sp hd n8 3 (List.take (Try.prog.cellsOf 3) [v8, v9, v10]) = some y8 := g8
    rw [c_1] at h8
    obtain ⟨a8, e8⟩ := opens_int Try.underlying3 enc w base sp hd n8 [v8] y8 h8
    have r8 : v8 = _ := (List.cons.inj e8.1).1
    obtain ⟨n9, y9, g9⟩ := hf 9 _ rfl
    have h9 : DataW.trod enc Try.prog w base sp hd n9 3 (List.take (Try.prog.cellsOf 3) [v9, v10]) = some y9 := g9
    rw [c_1] at h9
    obtain ⟨a9, e9⟩ := opens_int Try.underlying3 enc w base sp hd n9 [v9] y9 h9
    have r9 : v9 = _ := (List.cons.inj e9.1).1
    obtain ⟨n10, y10, g10⟩ := hf 10 _ rfl
    have h10 : DataW.trod enc Try.prog w base sp hd n10 3 (List.take (Try.prog.cellsOf 3) [v10]) = some y10 := g10
    rw [c_1] at h10
    obtain ⟨a10, e10⟩ := opens_int Try.underlying3 enc w base sp hd n10 [v10] y10 h10
    have r10 : v10 = _ := (List.cons.inj e10.1).1
    exact ⟨⟨a0, a1, a2, a3, a4, a5, a6, a7, a8, a9, a10⟩, by rw [r0, r1, r2, r3, r4, r5, r6, r7, r8, r9, r10]; rfl, e0.2, e1.2, e2.2, e3.2, e4.2, e5.2, e6.2, e8.2, e9.2, e10.2⟩
set_option maxRecDepth 100000 in
theorem opens_Ops : Opens Try.prog 22 (fun w (xs : List OpT) cs => ∃ v, cs = [v] ∧ RdS w 11 OpT.enc v xs ∧ (∀ x ∈ xs, x.wf) ∧ (xs.length : Int) ≤ 9223372036854775807) :=
  Opens.mono (opens_slice opens_OpT Try.underlying22 (by kernel_rfl)) fun w xs cs ⟨v, h1, h2, h3⟩ =>
    have h := h2.plain (enc := OpT.enc) (ok := OpT.wf) fun _ _ h => h
    ⟨xs, v, h1, h.1, h.2, h3⟩
end Go.Proofs.Ytobamkckamnmoaa
