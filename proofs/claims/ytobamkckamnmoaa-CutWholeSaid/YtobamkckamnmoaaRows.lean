/-
  No cell of these rows narrows 'for every input' (looked for: loops, veiled, ifaces, maps, wideKeys, modest, calm, conditions, laid).
  DERIVED. THE GIVEN ROWS OF THIS SEAT. 10 by the template 'for every input the law returns true; each argument reads behind the call as it read before'; 0 by the template 'total and deterministic' (their statements: YtobamkckamnmoaaTotals.lean).
  GIVEN WITH THE SEED: the statements are not yours to turn. If you find one false, say at which input.
  Laid BY PROGRAM, IN A SANDBOX (cutbox-rows.mjs): the forced cells as the released guide's own fill.sh prints them over the translation e8e24ab6742b4252… (all of the seat's roots in one cut). By AI agents, Wed Nov 11 2026. No macro, syntax, notation, axiom, sorry.
-/
import Derived.Test.YtobamkckamnmoaaChecked
import GoSem.Claim
import GoSem.ClaimJoined
import GoSem.ClaimMapViews
import Derived.JoinedTies
import Derived.KernelRfl
namespace Go.Proofs.Ytobamkckamnmoaa
/- THE CELL 'sum', in the pinned program and in every row, IS THE sha256 OF THE DUMP (.gsa) THAT YtobamkckamnmoaaProg.lean LOADS. Nothing in Lean hashes anything: it is a label: what it is worth is what the hold of that sum in a sandbox is worth. -/
noncomputable def Try.pinned : Pinned := { name := "ytobamkckamnmoaa", sum := "e8e24ab6742b4252cd9883bcf7bb674fa3bc6e48c077a04c3a8eb0789ba56745", checked := Try.checked }
namespace Rows
def none {H : Type} : Left H := { results := [], args := [] }

/-- 'annalistlaw14.CutSegments': WHATEVER THE INPUT: true; the input reads as it did. -/
def cutSegmentsSpec : ChangeSpec := { name := "cutSegments", fn := fun _ => fun
  | [d] => { results := [.lit (.bool true)], args := [d] }
  | _ => none }
def cutSegmentsRow : OpenClaim := { program := "ytobamkckamnmoaa", sum := "e8e24ab6742b4252cd9883bcf7bb674fa3bc6e48c077a04c3a8eb0789ba56745", func := "annalist/annalistlaw14.CutSegments", spec := "cutSegments", unfollowed := true, recurses := true, plainKeys := false, apart := false }
def CutSegmentsSaid : Prop := cutSegmentsRow.holds Try.pinned (OpenSpec.ofChange cutSegmentsSpec)

/-- ITS FALSE NEIGHBOUR: 'it returns false'. Refute it at one input. -/
def cutSegmentsWrong : ChangeSpec := { name := "cutSegments", fn := fun _ => fun
  | [d] => { results := [.lit (.bool false)], args := [d] }
  | _ => none }
def CutSegmentsWrongFalsely : Prop := cutSegmentsRow.holds Try.pinned (OpenSpec.ofChange cutSegmentsWrong)

/-- 'annalistlaw14.CutObjects': WHATEVER THE INPUT: true; the input reads as it did. -/
def cutObjectsSpec : ChangeSpec := { name := "cutObjects", fn := fun _ => fun
  | [d] => { results := [.lit (.bool true)], args := [d] }
  | _ => none }
def cutObjectsRow : OpenClaim := { program := "ytobamkckamnmoaa", sum := "e8e24ab6742b4252cd9883bcf7bb674fa3bc6e48c077a04c3a8eb0789ba56745", func := "annalist/annalistlaw14.CutObjects", spec := "cutObjects", unfollowed := true, recurses := true, plainKeys := false, apart := false }
def CutObjectsSaid : Prop := cutObjectsRow.holds Try.pinned (OpenSpec.ofChange cutObjectsSpec)

/-- ITS FALSE NEIGHBOUR: 'it returns false'. Refute it at one input. -/
def cutObjectsWrong : ChangeSpec := { name := "cutObjects", fn := fun _ => fun
  | [d] => { results := [.lit (.bool false)], args := [d] }
  | _ => none }
def CutObjectsWrongFalsely : Prop := cutObjectsRow.holds Try.pinned (OpenSpec.ofChange cutObjectsWrong)

/-- 'annalistlaw14.CutWhole': WHATEVER THE INPUT: true; the input reads as it did. -/
def cutWholeSpec : ChangeSpec := { name := "cutWhole", fn := fun _ => fun
  | [d] => { results := [.lit (.bool true)], args := [d] }
  | _ => none }
def cutWholeRow : OpenClaim := { program := "ytobamkckamnmoaa", sum := "e8e24ab6742b4252cd9883bcf7bb674fa3bc6e48c077a04c3a8eb0789ba56745", func := "annalist/annalistlaw14.CutWhole", spec := "cutWhole", unfollowed := true, recurses := true, plainKeys := false, apart := false }
def CutWholeSaid : Prop := cutWholeRow.holds Try.pinned (OpenSpec.ofChange cutWholeSpec)

/-- ITS FALSE NEIGHBOUR: 'it returns false'. Refute it at one input. -/
def cutWholeWrong : ChangeSpec := { name := "cutWhole", fn := fun _ => fun
  | [d] => { results := [.lit (.bool false)], args := [d] }
  | _ => none }
def CutWholeWrongFalsely : Prop := cutWholeRow.holds Try.pinned (OpenSpec.ofChange cutWholeWrong)

/-- 'annalistlaw14.CutQuiet': WHATEVER THE INPUT: true; the input reads as it did. -/
def cutQuietSpec : ChangeSpec := { name := "cutQuiet", fn := fun _ => fun
  | [d] => { results := [.lit (.bool true)], args := [d] }
  | _ => none }
def cutQuietRow : OpenClaim := { program := "ytobamkckamnmoaa", sum := "e8e24ab6742b4252cd9883bcf7bb674fa3bc6e48c077a04c3a8eb0789ba56745", func := "annalist/annalistlaw14.CutQuiet", spec := "cutQuiet", unfollowed := true, recurses := true, plainKeys := false, apart := false }
def CutQuietSaid : Prop := cutQuietRow.holds Try.pinned (OpenSpec.ofChange cutQuietSpec)

/-- ITS FALSE NEIGHBOUR: 'it returns false'. Refute it at one input. -/
def cutQuietWrong : ChangeSpec := { name := "cutQuiet", fn := fun _ => fun
  | [d] => { results := [.lit (.bool false)], args := [d] }
  | _ => none }
def CutQuietWrongFalsely : Prop := cutQuietRow.holds Try.pinned (OpenSpec.ofChange cutQuietWrong)

/-- 'annalistlaw15.LinSearches': WHATEVER THE INPUT: true; the input reads as it did. -/
def linSearchesSpec : ChangeSpec := { name := "linSearches", fn := fun _ => fun
  | [d1, d2, d3] => { results := [.lit (.bool true)], args := [d1, d2, d3] }
  | _ => none }
def linSearchesRow : OpenClaim := { program := "ytobamkckamnmoaa", sum := "e8e24ab6742b4252cd9883bcf7bb674fa3bc6e48c077a04c3a8eb0789ba56745", func := "annalist/annalistlaw15.LinSearches", spec := "linSearches", inPlace := ["internal/bytealg.abigen_runtime_cmpstring", "slices.overlaps[int]"], unfollowed := true, recurses := true, plainKeys := false, apart := false }
def LinSearchesSaid : Prop := linSearchesRow.holds Try.pinned (OpenSpec.ofChange linSearchesSpec)

/-- ITS FALSE NEIGHBOUR: 'it returns false'. Refute it at one input. -/
def linSearchesWrong : ChangeSpec := { name := "linSearches", fn := fun _ => fun
  | [d1, d2, d3] => { results := [.lit (.bool false)], args := [d1, d2, d3] }
  | _ => none }
def LinSearchesWrongFalsely : Prop := linSearchesRow.holds Try.pinned (OpenSpec.ofChange linSearchesWrong)

/-- 'annalistlaw15.LinUnique': WHATEVER THE INPUT: true; the input reads as it did. -/
def linUniqueSpec : ChangeSpec := { name := "linUnique", fn := fun _ => fun
  | [d] => { results := [.lit (.bool true)], args := [d] }
  | _ => none }
def linUniqueRow : OpenClaim := { program := "ytobamkckamnmoaa", sum := "e8e24ab6742b4252cd9883bcf7bb674fa3bc6e48c077a04c3a8eb0789ba56745", func := "annalist/annalistlaw15.LinUnique", spec := "linUnique", inPlace := ["internal/bytealg.abigen_runtime_cmpstring", "slices.overlaps[int]"], unfollowed := true, recurses := true, plainKeys := false, apart := false }
def LinUniqueSaid : Prop := linUniqueRow.holds Try.pinned (OpenSpec.ofChange linUniqueSpec)

/-- ITS FALSE NEIGHBOUR: 'it returns false'. Refute it at one input. -/
def linUniqueWrong : ChangeSpec := { name := "linUnique", fn := fun _ => fun
  | [d] => { results := [.lit (.bool false)], args := [d] }
  | _ => none }
def LinUniqueWrongFalsely : Prop := linUniqueRow.holds Try.pinned (OpenSpec.ofChange linUniqueWrong)

/-- 'annalistlaw15.LinOrders': WHATEVER THE INPUT: true; the input reads as it did. -/
def linOrdersSpec : ChangeSpec := { name := "linOrders", fn := fun _ => fun
  | [d1, d2] => { results := [.lit (.bool true)], args := [d1, d2] }
  | _ => none }
def linOrdersRow : OpenClaim := { program := "ytobamkckamnmoaa", sum := "e8e24ab6742b4252cd9883bcf7bb674fa3bc6e48c077a04c3a8eb0789ba56745", func := "annalist/annalistlaw15.LinOrders", spec := "linOrders", inPlace := ["internal/bytealg.abigen_runtime_cmpstring", "slices.overlaps[int]"], unfollowed := true, recurses := true, plainKeys := false, apart := false }
def LinOrdersSaid : Prop := linOrdersRow.holds Try.pinned (OpenSpec.ofChange linOrdersSpec)

/-- ITS FALSE NEIGHBOUR: 'it returns false'. Refute it at one input. -/
def linOrdersWrong : ChangeSpec := { name := "linOrders", fn := fun _ => fun
  | [d1, d2] => { results := [.lit (.bool false)], args := [d1, d2] }
  | _ => none }
def LinOrdersWrongFalsely : Prop := linOrdersRow.holds Try.pinned (OpenSpec.ofChange linOrdersWrong)

/-- 'annalistlaw15.LinJoins': WHATEVER THE INPUT: true; the input reads as it did. -/
def linJoinsSpec : ChangeSpec := { name := "linJoins", fn := fun _ => fun
  | [d1, d2, d3] => { results := [.lit (.bool true)], args := [d1, d2, d3] }
  | _ => none }
def linJoinsRow : OpenClaim := { program := "ytobamkckamnmoaa", sum := "e8e24ab6742b4252cd9883bcf7bb674fa3bc6e48c077a04c3a8eb0789ba56745", func := "annalist/annalistlaw15.LinJoins", spec := "linJoins", inPlace := ["internal/bytealg.abigen_runtime_cmpstring", "slices.overlaps[int]"], unfollowed := true, recurses := true, plainKeys := false, apart := false }
def LinJoinsSaid : Prop := linJoinsRow.holds Try.pinned (OpenSpec.ofChange linJoinsSpec)

/-- ITS FALSE NEIGHBOUR: 'it returns false'. Refute it at one input. -/
def linJoinsWrong : ChangeSpec := { name := "linJoins", fn := fun _ => fun
  | [d1, d2, d3] => { results := [.lit (.bool false)], args := [d1, d2, d3] }
  | _ => none }
def LinJoinsWrongFalsely : Prop := linJoinsRow.holds Try.pinned (OpenSpec.ofChange linJoinsWrong)

/-- 'annalistlaw15.LinBudget': WHATEVER THE INPUT: true; the input reads as it did. -/
def linBudgetSpec : ChangeSpec := { name := "linBudget", fn := fun _ => fun
  | [d1, d2, d3] => { results := [.lit (.bool true)], args := [d1, d2, d3] }
  | _ => none }
def linBudgetRow : OpenClaim := { program := "ytobamkckamnmoaa", sum := "e8e24ab6742b4252cd9883bcf7bb674fa3bc6e48c077a04c3a8eb0789ba56745", func := "annalist/annalistlaw15.LinBudget", spec := "linBudget", inPlace := ["internal/bytealg.abigen_runtime_cmpstring", "slices.overlaps[int]"], unfollowed := true, recurses := true, plainKeys := false, apart := false }
def LinBudgetSaid : Prop := linBudgetRow.holds Try.pinned (OpenSpec.ofChange linBudgetSpec)

/-- ITS FALSE NEIGHBOUR: 'it returns false'. Refute it at one input. -/
def linBudgetWrong : ChangeSpec := { name := "linBudget", fn := fun _ => fun
  | [d1, d2, d3] => { results := [.lit (.bool false)], args := [d1, d2, d3] }
  | _ => none }
def LinBudgetWrongFalsely : Prop := linBudgetRow.holds Try.pinned (OpenSpec.ofChange linBudgetWrong)

/-- 'annalistlaw15.LinChains': WHATEVER THE INPUT: true; the input reads as it did. -/
def linChainsSpec : ChangeSpec := { name := "linChains", fn := fun _ => fun
  | [d] => { results := [.lit (.bool true)], args := [d] }
  | _ => none }
def linChainsRow : OpenClaim := { program := "ytobamkckamnmoaa", sum := "e8e24ab6742b4252cd9883bcf7bb674fa3bc6e48c077a04c3a8eb0789ba56745", func := "annalist/annalistlaw15.LinChains", spec := "linChains", inPlace := ["internal/bytealg.abigen_runtime_cmpstring", "slices.overlaps[int]"], unfollowed := true, recurses := true, plainKeys := false, apart := false }
def LinChainsSaid : Prop := linChainsRow.holds Try.pinned (OpenSpec.ofChange linChainsSpec)

/-- ITS FALSE NEIGHBOUR: 'it returns false'. Refute it at one input. -/
def linChainsWrong : ChangeSpec := { name := "linChains", fn := fun _ => fun
  | [d] => { results := [.lit (.bool false)], args := [d] }
  | _ => none }
def LinChainsWrongFalsely : Prop := linChainsRow.holds Try.pinned (OpenSpec.ofChange linChainsWrong)

/- THE SECOND FORM. 'bulk': how many values and letters a reading holds, each counted each time it is reached (what is shared counts as often as it is met; a slice's spare places count too). A statement '..UptoSaid' is the law's where the arguments, and the package variables that the reading takes, are together of bulk at most 1048576: NARROWER than '..Said'. Prove '..Said' where nothing that the law and all that it calls make is longer than what came in: it says more and counts as full. Else prove '..UptoSaid'. A law counts once. -/
mutual
def uptoBulk {H : Type} : DataW H → Nat
  | .lit (.string bytes) => bytes.length + 1
  | .lit _ => 1
  | .nil => 1
  | .ptr d => uptoBulk d + 1
  | .slice elems spare => uptoBulkAll elems + uptoBulkAll spare + 1
  | .agg parts => uptoBulkAll parts + 1
  | .iface _ d => uptoBulk d + 1
  | .map entries => uptoBulkEntries entries + 1
  | .held _ => 1
def uptoBulkAll {H : Type} : List (DataW H) → Nat
  | [] => 0
  | d :: r => uptoBulk d + uptoBulkAll r
def uptoBulkEntries {H : Type} : List (Lit × DataW H) → Nat
  | [] => 0
  | x :: r => uptoBulkEntry x + uptoBulkEntries r
def uptoBulkEntry {H : Type} : Lit × DataW H → Nat
  | (.string bytes, d) => bytes.length + uptoBulk d + 1
  | (_, d) => uptoBulk d + 1
 end
def uptoSmall : (H : Type) → List (DataW H) → Bool := fun _ ds => decide (uptoBulkAll ds ≤ 1048576)
def OpenSpec.upto (s : _root_.Go.ChangeSpec) : _root_.Go.OpenSpec := { _root_.Go.OpenSpec.ofChange s with cond := some uptoSmall }

/-- 'annalistlaw14.CutSegments', WHERE WHAT IT READS IS OF BULK AT MOST 1048576: true; the input reads as it did. -/
def cutSegmentsUptoRow : OpenClaim := { program := "ytobamkckamnmoaa", sum := "e8e24ab6742b4252cd9883bcf7bb674fa3bc6e48c077a04c3a8eb0789ba56745", func := "annalist/annalistlaw14.CutSegments", spec := "cutSegments", unfollowed := true, recurses := true, plainKeys := false, apart := false, narrowed := true }
def CutSegmentsUptoSaid : Prop := cutSegmentsUptoRow.holds Try.pinned (OpenSpec.upto cutSegmentsSpec)

/-- 'annalistlaw14.CutObjects', WHERE WHAT IT READS IS OF BULK AT MOST 1048576: true; the input reads as it did. -/
def cutObjectsUptoRow : OpenClaim := { program := "ytobamkckamnmoaa", sum := "e8e24ab6742b4252cd9883bcf7bb674fa3bc6e48c077a04c3a8eb0789ba56745", func := "annalist/annalistlaw14.CutObjects", spec := "cutObjects", unfollowed := true, recurses := true, plainKeys := false, apart := false, narrowed := true }
def CutObjectsUptoSaid : Prop := cutObjectsUptoRow.holds Try.pinned (OpenSpec.upto cutObjectsSpec)

/-- 'annalistlaw14.CutWhole', WHERE WHAT IT READS IS OF BULK AT MOST 1048576: true; the input reads as it did. -/
def cutWholeUptoRow : OpenClaim := { program := "ytobamkckamnmoaa", sum := "e8e24ab6742b4252cd9883bcf7bb674fa3bc6e48c077a04c3a8eb0789ba56745", func := "annalist/annalistlaw14.CutWhole", spec := "cutWhole", unfollowed := true, recurses := true, plainKeys := false, apart := false, narrowed := true }
def CutWholeUptoSaid : Prop := cutWholeUptoRow.holds Try.pinned (OpenSpec.upto cutWholeSpec)

/-- 'annalistlaw14.CutQuiet', WHERE WHAT IT READS IS OF BULK AT MOST 1048576: true; the input reads as it did. -/
def cutQuietUptoRow : OpenClaim := { program := "ytobamkckamnmoaa", sum := "e8e24ab6742b4252cd9883bcf7bb674fa3bc6e48c077a04c3a8eb0789ba56745", func := "annalist/annalistlaw14.CutQuiet", spec := "cutQuiet", unfollowed := true, recurses := true, plainKeys := false, apart := false, narrowed := true }
def CutQuietUptoSaid : Prop := cutQuietUptoRow.holds Try.pinned (OpenSpec.upto cutQuietSpec)

/-- 'annalistlaw15.LinSearches', WHERE WHAT IT READS IS OF BULK AT MOST 1048576: true; the input reads as it did. -/
def linSearchesUptoRow : OpenClaim := { program := "ytobamkckamnmoaa", sum := "e8e24ab6742b4252cd9883bcf7bb674fa3bc6e48c077a04c3a8eb0789ba56745", func := "annalist/annalistlaw15.LinSearches", spec := "linSearches", inPlace := ["internal/bytealg.abigen_runtime_cmpstring", "slices.overlaps[int]"], unfollowed := true, recurses := true, plainKeys := false, apart := false, narrowed := true }
def LinSearchesUptoSaid : Prop := linSearchesUptoRow.holds Try.pinned (OpenSpec.upto linSearchesSpec)

/-- 'annalistlaw15.LinUnique', WHERE WHAT IT READS IS OF BULK AT MOST 1048576: true; the input reads as it did. -/
def linUniqueUptoRow : OpenClaim := { program := "ytobamkckamnmoaa", sum := "e8e24ab6742b4252cd9883bcf7bb674fa3bc6e48c077a04c3a8eb0789ba56745", func := "annalist/annalistlaw15.LinUnique", spec := "linUnique", inPlace := ["internal/bytealg.abigen_runtime_cmpstring", "slices.overlaps[int]"], unfollowed := true, recurses := true, plainKeys := false, apart := false, narrowed := true }
def LinUniqueUptoSaid : Prop := linUniqueUptoRow.holds Try.pinned (OpenSpec.upto linUniqueSpec)

/-- 'annalistlaw15.LinOrders', WHERE WHAT IT READS IS OF BULK AT MOST 1048576: true; the input reads as it did. -/
def linOrdersUptoRow : OpenClaim := { program := "ytobamkckamnmoaa", sum := "e8e24ab6742b4252cd9883bcf7bb674fa3bc6e48c077a04c3a8eb0789ba56745", func := "annalist/annalistlaw15.LinOrders", spec := "linOrders", inPlace := ["internal/bytealg.abigen_runtime_cmpstring", "slices.overlaps[int]"], unfollowed := true, recurses := true, plainKeys := false, apart := false, narrowed := true }
def LinOrdersUptoSaid : Prop := linOrdersUptoRow.holds Try.pinned (OpenSpec.upto linOrdersSpec)

/-- 'annalistlaw15.LinJoins', WHERE WHAT IT READS IS OF BULK AT MOST 1048576: true; the input reads as it did. -/
def linJoinsUptoRow : OpenClaim := { program := "ytobamkckamnmoaa", sum := "e8e24ab6742b4252cd9883bcf7bb674fa3bc6e48c077a04c3a8eb0789ba56745", func := "annalist/annalistlaw15.LinJoins", spec := "linJoins", inPlace := ["internal/bytealg.abigen_runtime_cmpstring", "slices.overlaps[int]"], unfollowed := true, recurses := true, plainKeys := false, apart := false, narrowed := true }
def LinJoinsUptoSaid : Prop := linJoinsUptoRow.holds Try.pinned (OpenSpec.upto linJoinsSpec)

/-- 'annalistlaw15.LinBudget', WHERE WHAT IT READS IS OF BULK AT MOST 1048576: true; the input reads as it did. -/
def linBudgetUptoRow : OpenClaim := { program := "ytobamkckamnmoaa", sum := "e8e24ab6742b4252cd9883bcf7bb674fa3bc6e48c077a04c3a8eb0789ba56745", func := "annalist/annalistlaw15.LinBudget", spec := "linBudget", inPlace := ["internal/bytealg.abigen_runtime_cmpstring", "slices.overlaps[int]"], unfollowed := true, recurses := true, plainKeys := false, apart := false, narrowed := true }
def LinBudgetUptoSaid : Prop := linBudgetUptoRow.holds Try.pinned (OpenSpec.upto linBudgetSpec)

/-- 'annalistlaw15.LinChains', WHERE WHAT IT READS IS OF BULK AT MOST 1048576: true; the input reads as it did. -/
def linChainsUptoRow : OpenClaim := { program := "ytobamkckamnmoaa", sum := "e8e24ab6742b4252cd9883bcf7bb674fa3bc6e48c077a04c3a8eb0789ba56745", func := "annalist/annalistlaw15.LinChains", spec := "linChains", inPlace := ["internal/bytealg.abigen_runtime_cmpstring", "slices.overlaps[int]"], unfollowed := true, recurses := true, plainKeys := false, apart := false, narrowed := true }
def LinChainsUptoSaid : Prop := linChainsUptoRow.holds Try.pinned (OpenSpec.upto linChainsSpec)

end Rows
end Go.Proofs.Ytobamkckamnmoaa
