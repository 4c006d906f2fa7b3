/-
  No cell of these rows narrows 'for every input' (looked for: loops, veiled, ifaces, maps, wideKeys, modest, calm, conditions, laid).
  DERIVED. THE GIVEN ROWS OF THIS SEAT. 9 by the template 'for every input the law returns true; each argument reads behind the call as it read before'; 0 by the template 'total and deterministic' (their statements: YtbeoedgoikcbpaaTotals.lean).
  GIVEN WITH THE SEED: the statements are not yours to turn. If you find one false, say at which input.
  Laid BY PROGRAM, IN A SANDBOX (cutbox-rows.mjs): the forced cells as the released guide's own fill.sh prints them over the translation 6b25921ee938e7ec… (all of the seat's roots in one cut). By AI agents, Wed Nov 11 2026. No macro, syntax, notation, axiom, sorry.
-/
import Derived.Test.YtbeoedgoikcbpaaChecked
import GoSem.Claim
import GoSem.ClaimJoined
import GoSem.ClaimMapViews
import Derived.JoinedTies
import Derived.KernelRfl
namespace Go.Proofs.Ytbeoedgoikcbpaa
/- THE CELL 'sum', in the pinned program and in every row, IS THE sha256 OF THE DUMP (.gsa) THAT YtbeoedgoikcbpaaProg.lean LOADS. Nothing in Lean hashes anything: it is a label: what it is worth is what the hold of that sum in a sandbox is worth. -/
noncomputable def Try.pinned : Pinned := { name := "ytbeoedgoikcbpaa", sum := "6b25921ee938e7ecdca22c09f0ce53bf9f43186e85f8e9a2152102eee5bd05f3", checked := Try.checked }
namespace Rows
def none {H : Type} : Left H := { results := [], args := [] }

/-- 'annalistlaw15.LinSearches': WHATEVER THE INPUT: true; the input reads as it did. -/
def linSearchesSpec : ChangeSpec := { name := "linSearches", fn := fun _ => fun
  | [d1, d2, d3] => { results := [.lit (.bool true)], args := [d1, d2, d3] }
  | _ => none }
def linSearchesRow : OpenClaim := { program := "ytbeoedgoikcbpaa", sum := "6b25921ee938e7ecdca22c09f0ce53bf9f43186e85f8e9a2152102eee5bd05f3", func := "annalist/annalistlaw15.LinSearches", spec := "linSearches", inPlace := ["internal/bytealg.abigen_runtime_cmpstring", "slices.overlaps[int]"], unfollowed := true, recurses := true, plainKeys := false, apart := false }
def LinSearchesSaid : Prop := linSearchesRow.holds Try.pinned (OpenSpec.ofChange linSearchesSpec)

/-- ITS FALSE NEIGHBOUR: 'it returns false'. Refute it at one input. -/
def linSearchesWrong : ChangeSpec := { name := "linSearches", fn := fun _ => fun
  | [d1, d2, d3] => { results := [.lit (.bool false)], args := [d1, d2, d3] }
  | _ => none }
def LinSearchesWrongFalsely : Prop := linSearchesRow.holds Try.pinned (OpenSpec.ofChange linSearchesWrong)

/-- 'annalistlaw15.LinUnique': WHATEVER THE INPUT: true; the input reads as it did. -/
def linUniqueSpec : ChangeSpec := { name := "linUnique", fn := fun _ => fun
  | [d] => { results := [.lit (.bool true)], args := [d] }
  | _ => none }
def linUniqueRow : OpenClaim := { program := "ytbeoedgoikcbpaa", sum := "6b25921ee938e7ecdca22c09f0ce53bf9f43186e85f8e9a2152102eee5bd05f3", func := "annalist/annalistlaw15.LinUnique", spec := "linUnique", inPlace := ["internal/bytealg.abigen_runtime_cmpstring", "slices.overlaps[int]"], unfollowed := true, recurses := true, plainKeys := false, apart := false }
def LinUniqueSaid : Prop := linUniqueRow.holds Try.pinned (OpenSpec.ofChange linUniqueSpec)

/-- ITS FALSE NEIGHBOUR: 'it returns false'. Refute it at one input. -/
def linUniqueWrong : ChangeSpec := { name := "linUnique", fn := fun _ => fun
  | [d] => { results := [.lit (.bool false)], args := [d] }
  | _ => none }
def LinUniqueWrongFalsely : Prop := linUniqueRow.holds Try.pinned (OpenSpec.ofChange linUniqueWrong)

/-- 'annalistlaw15.LinOrders': WHATEVER THE INPUT: true; the input reads as it did. -/
def linOrdersSpec : ChangeSpec := { name := "linOrders", fn := fun _ => fun
  | [d1, d2] => { results := [.lit (.bool true)], args := [d1, d2] }
  | _ => none }
def linOrdersRow : OpenClaim := { program := "ytbeoedgoikcbpaa", sum := "6b25921ee938e7ecdca22c09f0ce53bf9f43186e85f8e9a2152102eee5bd05f3", func := "annalist/annalistlaw15.LinOrders", spec := "linOrders", inPlace := ["internal/bytealg.abigen_runtime_cmpstring", "slices.overlaps[int]"], unfollowed := true, recurses := true, plainKeys := false, apart := false }
def LinOrdersSaid : Prop := linOrdersRow.holds Try.pinned (OpenSpec.ofChange linOrdersSpec)

/-- ITS FALSE NEIGHBOUR: 'it returns false'. Refute it at one input. -/
def linOrdersWrong : ChangeSpec := { name := "linOrders", fn := fun _ => fun
  | [d1, d2] => { results := [.lit (.bool false)], args := [d1, d2] }
  | _ => none }
def LinOrdersWrongFalsely : Prop := linOrdersRow.holds Try.pinned (OpenSpec.ofChange linOrdersWrong)

/-- 'annalistlaw15.LinJoins': WHATEVER THE INPUT: true; the input reads as it did. -/
def linJoinsSpec : ChangeSpec := { name := "linJoins", fn := fun _ => fun
  | [d1, d2, d3] => { results := [.lit (.bool true)], args := [d1, d2, d3] }
  | _ => none }
def linJoinsRow : OpenClaim := { program := "ytbeoedgoikcbpaa", sum := "6b25921ee938e7ecdca22c09f0ce53bf9f43186e85f8e9a2152102eee5bd05f3", func := "annalist/annalistlaw15.LinJoins", spec := "linJoins", inPlace := ["internal/bytealg.abigen_runtime_cmpstring", "slices.overlaps[int]"], unfollowed := true, recurses := true, plainKeys := false, apart := false }
def LinJoinsSaid : Prop := linJoinsRow.holds Try.pinned (OpenSpec.ofChange linJoinsSpec)

/-- ITS FALSE NEIGHBOUR: 'it returns false'. Refute it at one input. -/
def linJoinsWrong : ChangeSpec := { name := "linJoins", fn := fun _ => fun
  | [d1, d2, d3] => { results := [.lit (.bool false)], args := [d1, d2, d3] }
  | _ => none }
def LinJoinsWrongFalsely : Prop := linJoinsRow.holds Try.pinned (OpenSpec.ofChange linJoinsWrong)

/-- 'annalistlaw15.LinBudget': WHATEVER THE INPUT: true; the input reads as it did. -/
def linBudgetSpec : ChangeSpec := { name := "linBudget", fn := fun _ => fun
  | [d1, d2, d3] => { results := [.lit (.bool true)], args := [d1, d2, d3] }
  | _ => none }
def linBudgetRow : OpenClaim := { program := "ytbeoedgoikcbpaa", sum := "6b25921ee938e7ecdca22c09f0ce53bf9f43186e85f8e9a2152102eee5bd05f3", func := "annalist/annalistlaw15.LinBudget", spec := "linBudget", inPlace := ["internal/bytealg.abigen_runtime_cmpstring", "slices.overlaps[int]"], unfollowed := true, recurses := true, plainKeys := false, apart := false }
def LinBudgetSaid : Prop := linBudgetRow.holds Try.pinned (OpenSpec.ofChange linBudgetSpec)

/-- ITS FALSE NEIGHBOUR: 'it returns false'. Refute it at one input. -/
def linBudgetWrong : ChangeSpec := { name := "linBudget", fn := fun _ => fun
  | [d1, d2, d3] => { results := [.lit (.bool false)], args := [d1, d2, d3] }
  | _ => none }
def LinBudgetWrongFalsely : Prop := linBudgetRow.holds Try.pinned (OpenSpec.ofChange linBudgetWrong)

/-- 'annalistlaw15.LinChains': WHATEVER THE INPUT: true; the input reads as it did. -/
def linChainsSpec : ChangeSpec := { name := "linChains", fn := fun _ => fun
  | [d] => { results := [.lit (.bool true)], args := [d] }
  | _ => none }
def linChainsRow : OpenClaim := { program := "ytbeoedgoikcbpaa", sum := "6b25921ee938e7ecdca22c09f0ce53bf9f43186e85f8e9a2152102eee5bd05f3", func := "annalist/annalistlaw15.LinChains", spec := "linChains", inPlace := ["internal/bytealg.abigen_runtime_cmpstring", "slices.overlaps[int]"], unfollowed := true, recurses := true, plainKeys := false, apart := false }
def LinChainsSaid : Prop := linChainsRow.holds Try.pinned (OpenSpec.ofChange linChainsSpec)

/-- ITS FALSE NEIGHBOUR: 'it returns false'. Refute it at one input. -/
def linChainsWrong : ChangeSpec := { name := "linChains", fn := fun _ => fun
  | [d] => { results := [.lit (.bool false)], args := [d] }
  | _ => none }
def LinChainsWrongFalsely : Prop := linChainsRow.holds Try.pinned (OpenSpec.ofChange linChainsWrong)

/-- 'annalistlaw16.OrderFound': WHATEVER THE INPUT: true; the input reads as it did. -/
def orderFoundSpec : ChangeSpec := { name := "orderFound", fn := fun _ => fun
  | [d] => { results := [.lit (.bool true)], args := [d] }
  | _ => none }
def orderFoundRow : OpenClaim := { program := "ytbeoedgoikcbpaa", sum := "6b25921ee938e7ecdca22c09f0ce53bf9f43186e85f8e9a2152102eee5bd05f3", func := "annalist/annalistlaw16.OrderFound", spec := "orderFound", inPlace := ["slices.overlaps[int]"], unfollowed := true, recurses := true, plainKeys := false, apart := false }
def OrderFoundSaid : Prop := orderFoundRow.holds Try.pinned (OpenSpec.ofChange orderFoundSpec)

/-- ITS FALSE NEIGHBOUR: 'it returns false'. Refute it at one input. -/
def orderFoundWrong : ChangeSpec := { name := "orderFound", fn := fun _ => fun
  | [d] => { results := [.lit (.bool false)], args := [d] }
  | _ => none }
def OrderFoundWrongFalsely : Prop := orderFoundRow.holds Try.pinned (OpenSpec.ofChange orderFoundWrong)

/-- 'annalistlaw16.OrderBudget': WHATEVER THE INPUT: true; the input reads as it did. -/
def orderBudgetSpec : ChangeSpec := { name := "orderBudget", fn := fun _ => fun
  | [d1, d2] => { results := [.lit (.bool true)], args := [d1, d2] }
  | _ => none }
def orderBudgetRow : OpenClaim := { program := "ytbeoedgoikcbpaa", sum := "6b25921ee938e7ecdca22c09f0ce53bf9f43186e85f8e9a2152102eee5bd05f3", func := "annalist/annalistlaw16.OrderBudget", spec := "orderBudget", inPlace := ["slices.overlaps[int]"], unfollowed := true, recurses := true, plainKeys := false, apart := false }
def OrderBudgetSaid : Prop := orderBudgetRow.holds Try.pinned (OpenSpec.ofChange orderBudgetSpec)

/-- ITS FALSE NEIGHBOUR: 'it returns false'. Refute it at one input. -/
def orderBudgetWrong : ChangeSpec := { name := "orderBudget", fn := fun _ => fun
  | [d1, d2] => { results := [.lit (.bool false)], args := [d1, d2] }
  | _ => none }
def OrderBudgetWrongFalsely : Prop := orderBudgetRow.holds Try.pinned (OpenSpec.ofChange orderBudgetWrong)

/-- 'annalistlaw16.OrderMany': WHATEVER THE INPUT: true; the input reads as it did. -/
def orderManySpec : ChangeSpec := { name := "orderMany", fn := fun _ => fun
  | [d1, d2] => { results := [.lit (.bool true)], args := [d1, d2] }
  | _ => none }
def orderManyRow : OpenClaim := { program := "ytbeoedgoikcbpaa", sum := "6b25921ee938e7ecdca22c09f0ce53bf9f43186e85f8e9a2152102eee5bd05f3", func := "annalist/annalistlaw16.OrderMany", spec := "orderMany", inPlace := ["slices.overlaps[int]"], unfollowed := true, recurses := true, plainKeys := false, apart := false }
def OrderManySaid : Prop := orderManyRow.holds Try.pinned (OpenSpec.ofChange orderManySpec)

/-- ITS FALSE NEIGHBOUR: 'it returns false'. Refute it at one input. -/
def orderManyWrong : ChangeSpec := { name := "orderMany", fn := fun _ => fun
  | [d1, d2] => { results := [.lit (.bool false)], args := [d1, d2] }
  | _ => none }
def OrderManyWrongFalsely : Prop := orderManyRow.holds Try.pinned (OpenSpec.ofChange orderManyWrong)

/- THE SECOND FORM. 'bulk': how many values and letters a reading holds, each counted each time it is reached (what is shared counts as often as it is met; a slice's spare places count too). A statement '..UptoSaid' is the law's where the arguments, and the package variables that the reading takes, are together of bulk at most 1048576: NARROWER than '..Said'. Prove '..Said' where nothing that the law and all that it calls make is longer than what came in: it says more and counts as full. Else prove '..UptoSaid'. A law counts once. -/
mutual
def uptoBulk {H : Type} : DataW H → Nat
  | .lit (.string bytes) => bytes.length + 1
  | .lit _ => 1
  | .nil => 1
  | .ptr d => uptoBulk d + 1
  | .slice elems spare => uptoBulkAll elems + uptoBulkAll spare + 1
  | .agg parts => uptoBulkAll parts + 1
  | .iface _ d => uptoBulk d + 1
  | .map entries => uptoBulkEntries entries + 1
  | .held _ => 1
def uptoBulkAll {H : Type} : List (DataW H) → Nat
  | [] => 0
  | d :: r => uptoBulk d + uptoBulkAll r
def uptoBulkEntries {H : Type} : List (Lit × DataW H) → Nat
  | [] => 0
  | x :: r => uptoBulkEntry x + uptoBulkEntries r
def uptoBulkEntry {H : Type} : Lit × DataW H → Nat
  | (.string bytes, d) => bytes.length + uptoBulk d + 1
  | (_, d) => uptoBulk d + 1
 end
def uptoSmall : (H : Type) → List (DataW H) → Bool := fun _ ds => decide (uptoBulkAll ds ≤ 1048576)
def OpenSpec.upto (s : _root_.Go.ChangeSpec) : _root_.Go.OpenSpec := { _root_.Go.OpenSpec.ofChange s with cond := some uptoSmall }

/-- 'annalistlaw15.LinSearches', WHERE WHAT IT READS IS OF BULK AT MOST 1048576: true; the input reads as it did. -/
def linSearchesUptoRow : OpenClaim := { program := "ytbeoedgoikcbpaa", sum := "6b25921ee938e7ecdca22c09f0ce53bf9f43186e85f8e9a2152102eee5bd05f3", func := "annalist/annalistlaw15.LinSearches", spec := "linSearches", inPlace := ["internal/bytealg.abigen_runtime_cmpstring", "slices.overlaps[int]"], unfollowed := true, recurses := true, plainKeys := false, apart := false, narrowed := true }
def LinSearchesUptoSaid : Prop := linSearchesUptoRow.holds Try.pinned (OpenSpec.upto linSearchesSpec)

/-- 'annalistlaw15.LinUnique', WHERE WHAT IT READS IS OF BULK AT MOST 1048576: true; the input reads as it did. -/
def linUniqueUptoRow : OpenClaim := { program := "ytbeoedgoikcbpaa", sum := "6b25921ee938e7ecdca22c09f0ce53bf9f43186e85f8e9a2152102eee5bd05f3", func := "annalist/annalistlaw15.LinUnique", spec := "linUnique", inPlace := ["internal/bytealg.abigen_runtime_cmpstring", "slices.overlaps[int]"], unfollowed := true, recurses := true, plainKeys := false, apart := false, narrowed := true }
def LinUniqueUptoSaid : Prop := linUniqueUptoRow.holds Try.pinned (OpenSpec.upto linUniqueSpec)

/-- 'annalistlaw15.LinOrders', WHERE WHAT IT READS IS OF BULK AT MOST 1048576: true; the input reads as it did. -/
def linOrdersUptoRow : OpenClaim := { program := "ytbeoedgoikcbpaa", sum := "6b25921ee938e7ecdca22c09f0ce53bf9f43186e85f8e9a2152102eee5bd05f3", func := "annalist/annalistlaw15.LinOrders", spec := "linOrders", inPlace := ["internal/bytealg.abigen_runtime_cmpstring", "slices.overlaps[int]"], unfollowed := true, recurses := true, plainKeys := false, apart := false, narrowed := true }
def LinOrdersUptoSaid : Prop := linOrdersUptoRow.holds Try.pinned (OpenSpec.upto linOrdersSpec)

/-- 'annalistlaw15.LinJoins', WHERE WHAT IT READS IS OF BULK AT MOST 1048576: true; the input reads as it did. -/
def linJoinsUptoRow : OpenClaim := { program := "ytbeoedgoikcbpaa", sum := "6b25921ee938e7ecdca22c09f0ce53bf9f43186e85f8e9a2152102eee5bd05f3", func := "annalist/annalistlaw15.LinJoins", spec := "linJoins", inPlace := ["internal/bytealg.abigen_runtime_cmpstring", "slices.overlaps[int]"], unfollowed := true, recurses := true, plainKeys := false, apart := false, narrowed := true }
def LinJoinsUptoSaid : Prop := linJoinsUptoRow.holds Try.pinned (OpenSpec.upto linJoinsSpec)

/-- 'annalistlaw15.LinBudget', WHERE WHAT IT READS IS OF BULK AT MOST 1048576: true; the input reads as it did. -/
def linBudgetUptoRow : OpenClaim := { program := "ytbeoedgoikcbpaa", sum := "6b25921ee938e7ecdca22c09f0ce53bf9f43186e85f8e9a2152102eee5bd05f3", func := "annalist/annalistlaw15.LinBudget", spec := "linBudget", inPlace := ["internal/bytealg.abigen_runtime_cmpstring", "slices.overlaps[int]"], unfollowed := true, recurses := true, plainKeys := false, apart := false, narrowed := true }
def LinBudgetUptoSaid : Prop := linBudgetUptoRow.holds Try.pinned (OpenSpec.upto linBudgetSpec)

/-- 'annalistlaw15.LinChains', WHERE WHAT IT READS IS OF BULK AT MOST 1048576: true; the input reads as it did. -/
def linChainsUptoRow : OpenClaim := { program := "ytbeoedgoikcbpaa", sum := "6b25921ee938e7ecdca22c09f0ce53bf9f43186e85f8e9a2152102eee5bd05f3", func := "annalist/annalistlaw15.LinChains", spec := "linChains", inPlace := ["internal/bytealg.abigen_runtime_cmpstring", "slices.overlaps[int]"], unfollowed := true, recurses := true, plainKeys := false, apart := false, narrowed := true }
def LinChainsUptoSaid : Prop := linChainsUptoRow.holds Try.pinned (OpenSpec.upto linChainsSpec)

/-- 'annalistlaw16.OrderFound', WHERE WHAT IT READS IS OF BULK AT MOST 1048576: true; the input reads as it did. -/
def orderFoundUptoRow : OpenClaim := { program := "ytbeoedgoikcbpaa", sum := "6b25921ee938e7ecdca22c09f0ce53bf9f43186e85f8e9a2152102eee5bd05f3", func := "annalist/annalistlaw16.OrderFound", spec := "orderFound", inPlace := ["slices.overlaps[int]"], unfollowed := true, recurses := true, plainKeys := false, apart := false, narrowed := true }
def OrderFoundUptoSaid : Prop := orderFoundUptoRow.holds Try.pinned (OpenSpec.upto orderFoundSpec)

/-- 'annalistlaw16.OrderBudget', WHERE WHAT IT READS IS OF BULK AT MOST 1048576: true; the input reads as it did. -/
def orderBudgetUptoRow : OpenClaim := { program := "ytbeoedgoikcbpaa", sum := "6b25921ee938e7ecdca22c09f0ce53bf9f43186e85f8e9a2152102eee5bd05f3", func := "annalist/annalistlaw16.OrderBudget", spec := "orderBudget", inPlace := ["slices.overlaps[int]"], unfollowed := true, recurses := true, plainKeys := false, apart := false, narrowed := true }
def OrderBudgetUptoSaid : Prop := orderBudgetUptoRow.holds Try.pinned (OpenSpec.upto orderBudgetSpec)

/-- 'annalistlaw16.OrderMany', WHERE WHAT IT READS IS OF BULK AT MOST 1048576: true; the input reads as it did. -/
def orderManyUptoRow : OpenClaim := { program := "ytbeoedgoikcbpaa", sum := "6b25921ee938e7ecdca22c09f0ce53bf9f43186e85f8e9a2152102eee5bd05f3", func := "annalist/annalistlaw16.OrderMany", spec := "orderMany", inPlace := ["slices.overlaps[int]"], unfollowed := true, recurses := true, plainKeys := false, apart := false, narrowed := true }
def OrderManyUptoSaid : Prop := orderManyUptoRow.holds Try.pinned (OpenSpec.upto orderManySpec)

end Rows
end Go.Proofs.Ytbeoedgoikcbpaa
