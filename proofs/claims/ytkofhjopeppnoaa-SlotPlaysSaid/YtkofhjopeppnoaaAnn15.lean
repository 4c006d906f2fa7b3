/- What the row's step hands over of an argument, as the contracts want it. -/
import Derived.Test.YtkofhjopeppnoaaAnn14
import Derived.ProofKit
namespace Go.Ann
set_option linter.unusedVariables false
set_option linter.unusedSimpArgs false
theorem I64_of_wf {n : Int} (h : (Lit.int .i64 n).wf = true) : I64 n := by
  simp [Lit.wf, IntKind.min, IntKind.max, IntKind.signed, IntKind.bits] at h
  exact ⟨by omega, by omega⟩
theorem len_of_max {s : ByteArray} (h : s.size ≤ maxLen) : ((toL s).length : Int) ≤ 9223372036854775807 := by
  rw [size_toL] at h
  have : maxLen = 9223372036854775807 := by decide
  omega
end Go.Ann
