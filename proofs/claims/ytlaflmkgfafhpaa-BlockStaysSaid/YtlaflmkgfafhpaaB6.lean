/- The calls of a disk, as an argument's things. -/
import Derived.Test.YtlaflmkgfafhpaaB5
import Derived.Test.YtlaflmkgfafhpaaAnn19
namespace Go.Proofs.Ytlaflmkgfafhpaa
set_option linter.unusedSimpArgs false
set_option linter.unusedVariables false
open Go Go.Ann Go.RowKit

structure Act where
  Kind : Int
  At : Int
  Data : List UInt8
  Mask : Int
  Torn : Int
  Cut : Int
deriving DecidableEq
def Act.enc (a : Act) : List Value := [.int .i64 a.Kind, .int .i64 a.At, .string (ofL a.Data), .int .u64 a.Mask, .int .i64 a.Torn, .int .i64 a.Cut]
def Act.wf (a : Act) : Prop := kOk .i64 a.Kind ∧ kOk .i64 a.At ∧ (a.Data.length : Int) ≤ 9223372036854775807 ∧ kOk .u64 a.Mask ∧ kOk .i64 a.Torn ∧ kOk .i64 a.Cut
set_option maxRecDepth 100000 in
theorem opens_Act : Opens Try.prog 28 (fun _ (a : Act) cs => cs = a.enc ∧ a.wf) := by
  intro H enc w base sp hd fuel cs x hx
  obtain ⟨hl, hf⟩ := opens_fields Try.underlying28 hx
  rw [show Try.prog.cellsOf 28 = 6 by kernel_rfl] at hl
  have c_0 : Try.prog.cellsOf 3 = 1 := by kernel_rfl
  have c_1 : Try.prog.cellsOf 9 = 1 := by kernel_rfl
  have c_2 : Try.prog.cellsOf 26 = 1 := by kernel_rfl
  match cs, hl with
  | [v0, v1, v2, v3, v4, v5], _ =>
    obtain ⟨n0, y0, g0⟩ := hf 0 _ rfl
    have h0 : DataW.trod enc Try.prog w base sp hd n0 3 (List.take (Try.prog.cellsOf 3) [v0, v1, v2, v3, v4, v5]) = some y0 := g0
    rw [c_0] at h0
    obtain ⟨a0, e0⟩ := opens_int Try.underlying3 enc w base sp hd n0 [v0] y0 h0
    have r0 : v0 = _ := (List.cons.inj e0.1).1
    obtain ⟨n1, y1, g1⟩ := hf 1 _ rfl
    have h1 : DataW.trod enc Try.prog w base sp hd n1 3 (List.take (Try.prog.cellsOf 3) [v1, v2, v3, v4, v5]) = some y1 := g1
    rw [c_0] at h1
    obtain ⟨a1, e1⟩ := opens_int Try.underlying3 enc w base sp hd n1 [v1] y1 h1
    have r1 : v1 = _ := (List.cons.inj e1.1).1
    obtain ⟨n2, y2, g2⟩ := hf 2 _ rfl
    have h2 : DataW.trod enc Try.prog w base sp hd n2 9 (List.take (Try.prog.cellsOf 9) [v2, v3, v4, v5]) = some y2 := g2
    rw [c_1] at h2
    obtain ⟨a2, e2⟩ := opens_str Try.underlying9 enc w base sp hd n2 [v2] y2 h2
    have r2 : v2 = _ := (List.cons.inj e2.1).1
    obtain ⟨n3, y3, g3⟩ := hf 3 _ rfl
    have h3 : DataW.trod enc Try.prog w base sp hd n3 26 (List.take (Try.prog.cellsOf 26) [v3, v4, v5]) = some y3 := g3
    rw [c_2] at h3
    obtain ⟨a3, e3⟩ := opens_int Try.underlying26 enc w base sp hd n3 [v3] y3 h3
    have r3 : v3 = _ := (List.cons.inj e3.1).1
    obtain ⟨n4, y4, g4⟩ := hf 4 _ rfl
    have h4 : DataW.trod enc Try.prog w base sp hd n4 3 (List.take (Try.prog.cellsOf 3) [v4, v5]) = some y4 := g4
    rw [c_0] at h4
    obtain ⟨a4, e4⟩ := opens_int Try.underlying3 enc w base sp hd n4 [v4] y4 h4
    have r4 : v4 = _ := (List.cons.inj e4.1).1
    obtain ⟨n5, y5, g5⟩ := hf 5 _ rfl
    have h5 : DataW.trod enc Try.prog w base sp hd n5 3 (List.take (Try.prog.cellsOf 3) [v5]) = some y5 := g5
    rw [c_0] at h5
    obtain ⟨a5, e5⟩ := opens_int Try.underlying3 enc w base sp hd n5 [v5] y5 h5
    have r5 : v5 = _ := (List.cons.inj e5.1).1
    exact ⟨⟨a0, a1, a2, a3, a4, a5⟩, by rw [r0, r1, r2, r3, r4, r5]; rfl, e0.2, e1.2, e2.2, e3.2, e4.2, e5.2⟩
set_option maxRecDepth 100000 in
/-- An argument that is a list of calls. -/
theorem acts_arg {H : Type} {enc : TypeId × Value → H} {w : World} {r : Reach} {b base : Nat} {sp : Nat → Bool} {hd : Bool} {v : Value} {d : DataW H} {ps : List MemPlace} (hv : Value.okWide Try.prog w r b 22 v)
    (hk : DataW.Trod enc Try.prog w base sp hd 22 v d ps) : ∃ xs, RdS w 6 Act.enc v xs ∧ (∀ x ∈ xs, Act.wf x) ∧ (xs.length : Int) ≤ 9223372036854775807 := by
  obtain ⟨xs, h, hl⟩ := Opens.slice_arg (opens_slice opens_Act Try.underlying22 (by kernel_rfl)) Try.underlying22 hv hk
  obtain ⟨h1, h2⟩ := h.plain (enc := Act.enc) (ok := Act.wf) fun _ _ h => h
  exact ⟨xs, h1, h2, hl⟩
end Go.Proofs.Ytlaflmkgfafhpaa
