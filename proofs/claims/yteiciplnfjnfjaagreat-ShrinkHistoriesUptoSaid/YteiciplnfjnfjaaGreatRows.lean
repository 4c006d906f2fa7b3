/-
  No cell of these rows narrows 'for every input' (looked for: loops, veiled, ifaces, maps, wideKeys, modest, calm, conditions, laid).
  DERIVED. THE GIVEN ROWS OF THIS SEAT. 4 by the template 'for every input the law returns true; each argument reads behind the call as it read before'; 0 by the template 'total and deterministic' (their statements: YteiciplnfjnfjaaGreatTotals.lean).
  GIVEN WITH THE SEED: the statements are not yours to turn. If you find one false, say at which input.
  Laid BY PROGRAM, IN A SANDBOX (cutbox-rows.mjs): the forced cells as the released guide's own fill.sh prints them over the translation 9a3e0226b81e7563… (all of the seat's roots in one cut). By AI agents, Wed Nov 11 2026. No macro, syntax, notation, axiom, sorry.
-/
import Derived.Test.YteiciplnfjnfjaaGreatChecked
import GoSem.Claim
import GoSem.ClaimJoined
import GoSem.ClaimMapViews
import Derived.JoinedTies
import Derived.KernelRfl
namespace Go.Proofs.YteiciplnfjnfjaaGreat
/- THE CELL 'sum', in the pinned program and in every row, IS THE sha256 OF THE DUMP (.gsa) THAT YteiciplnfjnfjaaGreatProg.lean LOADS. Nothing in Lean hashes anything: it is a label: what it is worth is what the hold of that sum in a sandbox is worth. -/
noncomputable def Tryz.pinned : Pinned := { name := "yteiciplnfjnfjaagreat", sum := "9a3e0226b81e75635fdf6669259236d7fde75ed487926f85364670c5f631f2a0", checked := Tryz.checked }
namespace Rows
def none {H : Type} : Left H := { results := [], args := [] }

/-- 'annalistlaw32.ShrinkObjects': WHATEVER THE INPUT: true; the input reads as it did. -/
def shrinkObjectsSpec : ChangeSpec := { name := "shrinkObjects", fn := fun _ => fun
  | [d1, d2] => { results := [.lit (.bool true)], args := [d1, d2] }
  | _ => none }
def shrinkObjectsRow : OpenClaim := { program := "yteiciplnfjnfjaagreat", sum := "9a3e0226b81e75635fdf6669259236d7fde75ed487926f85364670c5f631f2a0", func := "annalist/annalistlaw32.ShrinkObjects", spec := "shrinkObjects", inPlace := ["internal/bytealg.abigen_runtime_cmpstring", "slices.overlaps[int]"], unfollowed := true, recurses := true, plainKeys := false, apart := false }
def ShrinkObjectsSaid : Prop := shrinkObjectsRow.holds Tryz.pinned (OpenSpec.ofChange shrinkObjectsSpec)

/-- ITS FALSE NEIGHBOUR: 'it returns false'. Refute it at one input. -/
def shrinkObjectsWrong : ChangeSpec := { name := "shrinkObjects", fn := fun _ => fun
  | [d1, d2] => { results := [.lit (.bool false)], args := [d1, d2] }
  | _ => none }
def ShrinkObjectsWrongFalsely : Prop := shrinkObjectsRow.holds Tryz.pinned (OpenSpec.ofChange shrinkObjectsWrong)

/-- 'annalistlaw32.ShrinkLeast': WHATEVER THE INPUT: true; the input reads as it did. -/
def shrinkLeastSpec : ChangeSpec := { name := "shrinkLeast", fn := fun _ => fun
  | [d] => { results := [.lit (.bool true)], args := [d] }
  | _ => none }
def shrinkLeastRow : OpenClaim := { program := "yteiciplnfjnfjaagreat", sum := "9a3e0226b81e75635fdf6669259236d7fde75ed487926f85364670c5f631f2a0", func := "annalist/annalistlaw32.ShrinkLeast", spec := "shrinkLeast", inPlace := ["internal/bytealg.abigen_runtime_cmpstring", "slices.overlaps[int]"], unfollowed := true, recurses := true, plainKeys := false, apart := false }
def ShrinkLeastSaid : Prop := shrinkLeastRow.holds Tryz.pinned (OpenSpec.ofChange shrinkLeastSpec)

/-- ITS FALSE NEIGHBOUR: 'it returns false'. Refute it at one input. -/
def shrinkLeastWrong : ChangeSpec := { name := "shrinkLeast", fn := fun _ => fun
  | [d] => { results := [.lit (.bool false)], args := [d] }
  | _ => none }
def ShrinkLeastWrongFalsely : Prop := shrinkLeastRow.holds Tryz.pinned (OpenSpec.ofChange shrinkLeastWrong)

/-- 'annalistlaw32.ShrinkHeals': WHATEVER THE INPUT: true; the input reads as it did. -/
def shrinkHealsSpec : ChangeSpec := { name := "shrinkHeals", fn := fun _ => fun
  | [d] => { results := [.lit (.bool true)], args := [d] }
  | _ => none }
def shrinkHealsRow : OpenClaim := { program := "yteiciplnfjnfjaagreat", sum := "9a3e0226b81e75635fdf6669259236d7fde75ed487926f85364670c5f631f2a0", func := "annalist/annalistlaw32.ShrinkHeals", spec := "shrinkHeals", inPlace := ["internal/bytealg.abigen_runtime_cmpstring", "slices.overlaps[int]"], unfollowed := true, recurses := true, plainKeys := false, apart := false }
def ShrinkHealsSaid : Prop := shrinkHealsRow.holds Tryz.pinned (OpenSpec.ofChange shrinkHealsSpec)

/-- ITS FALSE NEIGHBOUR: 'it returns false'. Refute it at one input. -/
def shrinkHealsWrong : ChangeSpec := { name := "shrinkHeals", fn := fun _ => fun
  | [d] => { results := [.lit (.bool false)], args := [d] }
  | _ => none }
def ShrinkHealsWrongFalsely : Prop := shrinkHealsRow.holds Tryz.pinned (OpenSpec.ofChange shrinkHealsWrong)

/-- 'annalistlaw32.ShrinkHistories': WHATEVER THE INPUT: true; the input reads as it did. -/
def shrinkHistoriesSpec : ChangeSpec := { name := "shrinkHistories", fn := fun _ => fun
  | [d1, d2] => { results := [.lit (.bool true)], args := [d1, d2] }
  | _ => none }
def shrinkHistoriesRow : OpenClaim := { program := "yteiciplnfjnfjaagreat", sum := "9a3e0226b81e75635fdf6669259236d7fde75ed487926f85364670c5f631f2a0", func := "annalist/annalistlaw32.ShrinkHistories", spec := "shrinkHistories", inPlace := ["internal/bytealg.abigen_runtime_cmpstring", "slices.overlaps[int]"], unfollowed := true, recurses := true, plainKeys := false, apart := false }
def ShrinkHistoriesSaid : Prop := shrinkHistoriesRow.holds Tryz.pinned (OpenSpec.ofChange shrinkHistoriesSpec)

/-- ITS FALSE NEIGHBOUR: 'it returns false'. Refute it at one input. -/
def shrinkHistoriesWrong : ChangeSpec := { name := "shrinkHistories", fn := fun _ => fun
  | [d1, d2] => { results := [.lit (.bool false)], args := [d1, d2] }
  | _ => none }
def ShrinkHistoriesWrongFalsely : Prop := shrinkHistoriesRow.holds Tryz.pinned (OpenSpec.ofChange shrinkHistoriesWrong)

/- THE SECOND FORM. 'bulk': how many values and letters a reading holds, each counted each time it is reached (what is shared counts as often as it is met; a slice's spare places count too). A statement '..UptoSaid' is the law's where the arguments, and the package variables that the reading takes, are together of bulk at most 1048576: NARROWER than '..Said'. Prove '..Said' where nothing that the law and all that it calls make is longer than what came in: it says more and counts as full. Else prove '..UptoSaid'. A law counts once. -/
mutual
def uptoBulk {H : Type} : DataW H → Nat
  | .lit (.string bytes) => bytes.length + 1
  | .lit _ => 1
  | .nil => 1
  | .ptr d => uptoBulk d + 1
  | .slice elems spare => uptoBulkAll elems + uptoBulkAll spare + 1
  | .agg parts => uptoBulkAll parts + 1
  | .iface _ d => uptoBulk d + 1
  | .map entries => uptoBulkEntries entries + 1
  | .held _ => 1
def uptoBulkAll {H : Type} : List (DataW H) → Nat
  | [] => 0
  | d :: r => uptoBulk d + uptoBulkAll r
def uptoBulkEntries {H : Type} : List (Lit × DataW H) → Nat
  | [] => 0
  | x :: r => uptoBulkEntry x + uptoBulkEntries r
def uptoBulkEntry {H : Type} : Lit × DataW H → Nat
  | (.string bytes, d) => bytes.length + uptoBulk d + 1
  | (_, d) => uptoBulk d + 1
 end
def uptoSmall : (H : Type) → List (DataW H) → Bool := fun _ ds => decide (uptoBulkAll ds ≤ 1048576)
def OpenSpec.upto (s : _root_.Go.ChangeSpec) : _root_.Go.OpenSpec := { _root_.Go.OpenSpec.ofChange s with cond := some uptoSmall }

/-- 'annalistlaw32.ShrinkObjects', WHERE WHAT IT READS IS OF BULK AT MOST 1048576: true; the input reads as it did. -/
def shrinkObjectsUptoRow : OpenClaim := { program := "yteiciplnfjnfjaagreat", sum := "9a3e0226b81e75635fdf6669259236d7fde75ed487926f85364670c5f631f2a0", func := "annalist/annalistlaw32.ShrinkObjects", spec := "shrinkObjects", inPlace := ["internal/bytealg.abigen_runtime_cmpstring", "slices.overlaps[int]"], unfollowed := true, recurses := true, plainKeys := false, apart := false, narrowed := true }
def ShrinkObjectsUptoSaid : Prop := shrinkObjectsUptoRow.holds Tryz.pinned (OpenSpec.upto shrinkObjectsSpec)

/-- 'annalistlaw32.ShrinkLeast', WHERE WHAT IT READS IS OF BULK AT MOST 1048576: true; the input reads as it did. -/
def shrinkLeastUptoRow : OpenClaim := { program := "yteiciplnfjnfjaagreat", sum := "9a3e0226b81e75635fdf6669259236d7fde75ed487926f85364670c5f631f2a0", func := "annalist/annalistlaw32.ShrinkLeast", spec := "shrinkLeast", inPlace := ["internal/bytealg.abigen_runtime_cmpstring", "slices.overlaps[int]"], unfollowed := true, recurses := true, plainKeys := false, apart := false, narrowed := true }
def ShrinkLeastUptoSaid : Prop := shrinkLeastUptoRow.holds Tryz.pinned (OpenSpec.upto shrinkLeastSpec)

/-- 'annalistlaw32.ShrinkHeals', WHERE WHAT IT READS IS OF BULK AT MOST 1048576: true; the input reads as it did. -/
def shrinkHealsUptoRow : OpenClaim := { program := "yteiciplnfjnfjaagreat", sum := "9a3e0226b81e75635fdf6669259236d7fde75ed487926f85364670c5f631f2a0", func := "annalist/annalistlaw32.ShrinkHeals", spec := "shrinkHeals", inPlace := ["internal/bytealg.abigen_runtime_cmpstring", "slices.overlaps[int]"], unfollowed := true, recurses := true, plainKeys := false, apart := false, narrowed := true }
def ShrinkHealsUptoSaid : Prop := shrinkHealsUptoRow.holds Tryz.pinned (OpenSpec.upto shrinkHealsSpec)

/-- 'annalistlaw32.ShrinkHistories', WHERE WHAT IT READS IS OF BULK AT MOST 1048576: true; the input reads as it did. -/
def shrinkHistoriesUptoRow : OpenClaim := { program := "yteiciplnfjnfjaagreat", sum := "9a3e0226b81e75635fdf6669259236d7fde75ed487926f85364670c5f631f2a0", func := "annalist/annalistlaw32.ShrinkHistories", spec := "shrinkHistories", inPlace := ["internal/bytealg.abigen_runtime_cmpstring", "slices.overlaps[int]"], unfollowed := true, recurses := true, plainKeys := false, apart := false, narrowed := true }
def ShrinkHistoriesUptoSaid : Prop := shrinkHistoriesUptoRow.holds Tryz.pinned (OpenSpec.upto shrinkHistoriesSpec)

end Rows
end Go.Proofs.YteiciplnfjnfjaaGreat
