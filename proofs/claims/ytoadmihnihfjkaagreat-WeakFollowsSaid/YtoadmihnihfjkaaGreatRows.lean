/-
  No cell of these rows narrows 'for every input' (looked for: loops, veiled, ifaces, maps, wideKeys, modest, calm, conditions, laid).
  DERIVED. THE GIVEN ROWS OF THIS SEAT. 6 by the template 'for every input the law returns true; each argument reads behind the call as it read before'; 0 by the template 'total and deterministic' (their statements: YtoadmihnihfjkaaGreatTotals.lean).
  GIVEN WITH THE SEED: the statements are not yours to turn. If you find one false, say at which input.
  Laid BY PROGRAM, IN A SANDBOX (cutbox-rows.mjs): the forced cells as the released guide's own fill.sh prints them over the translation 65d06bcbc0271a82… (all of the seat's roots in one cut). By AI agents, Wed Nov 11 2026. No macro, syntax, notation, axiom, sorry.
-/
import Derived.Test.YtoadmihnihfjkaaGreatChecked
import GoSem.Claim
import GoSem.ClaimJoined
import GoSem.ClaimMapViews
import Derived.JoinedTies
import Derived.KernelRfl
namespace Go.Proofs.YtoadmihnihfjkaaGreat
/- THE CELL 'sum', in the pinned program and in every row, IS THE sha256 OF THE DUMP (.gsa) THAT YtoadmihnihfjkaaGreatProg.lean LOADS. Nothing in Lean hashes anything: it is a label: what it is worth is what the hold of that sum in a sandbox is worth. -/
noncomputable def Tryz.pinned : Pinned := { name := "ytoadmihnihfjkaagreat", sum := "65d06bcbc0271a8250dff6bc249a6f6e265a7352d1d2f9123393f3da6c385f6b", checked := Tryz.checked }
namespace Rows
def none {H : Type} : Left H := { results := [], args := [] }

/-- 'annalistlaw31.WeakSequential': WHATEVER THE INPUT: true; the input reads as it did. -/
def weakSequentialSpec : ChangeSpec := { name := "weakSequential", fn := fun _ => fun
  | [d1, d2] => { results := [.lit (.bool true)], args := [d1, d2] }
  | _ => none }
def weakSequentialRow : OpenClaim := { program := "ytoadmihnihfjkaagreat", sum := "65d06bcbc0271a8250dff6bc249a6f6e265a7352d1d2f9123393f3da6c385f6b", func := "annalist/annalistlaw31.WeakSequential", spec := "weakSequential", inPlace := ["slices.overlaps[int]"], unfollowed := true, recurses := true, apart := false }
def WeakSequentialSaid : Prop := weakSequentialRow.holds Tryz.pinned (OpenSpec.ofChange weakSequentialSpec)

/-- ITS FALSE NEIGHBOUR: 'it returns false'. Refute it at one input. -/
def weakSequentialWrong : ChangeSpec := { name := "weakSequential", fn := fun _ => fun
  | [d1, d2] => { results := [.lit (.bool false)], args := [d1, d2] }
  | _ => none }
def WeakSequentialWrongFalsely : Prop := weakSequentialRow.holds Tryz.pinned (OpenSpec.ofChange weakSequentialWrong)

/-- 'annalistlaw31.WeakValid': WHATEVER THE INPUT: true; the input reads as it did. -/
def weakValidSpec : ChangeSpec := { name := "weakValid", fn := fun _ => fun
  | [d1, d2] => { results := [.lit (.bool true)], args := [d1, d2] }
  | _ => none }
def weakValidRow : OpenClaim := { program := "ytoadmihnihfjkaagreat", sum := "65d06bcbc0271a8250dff6bc249a6f6e265a7352d1d2f9123393f3da6c385f6b", func := "annalist/annalistlaw31.WeakValid", spec := "weakValid", inPlace := ["slices.overlaps[int]"], unfollowed := true, recurses := true, apart := false }
def WeakValidSaid : Prop := weakValidRow.holds Tryz.pinned (OpenSpec.ofChange weakValidSpec)

/-- ITS FALSE NEIGHBOUR: 'it returns false'. Refute it at one input. -/
def weakValidWrong : ChangeSpec := { name := "weakValid", fn := fun _ => fun
  | [d1, d2] => { results := [.lit (.bool false)], args := [d1, d2] }
  | _ => none }
def WeakValidWrongFalsely : Prop := weakValidRow.holds Tryz.pinned (OpenSpec.ofChange weakValidWrong)

/-- 'annalistlaw31.WeakFollows': WHATEVER THE INPUT: true; the input reads as it did. -/
def weakFollowsSpec : ChangeSpec := { name := "weakFollows", fn := fun _ => fun
  | [d] => { results := [.lit (.bool true)], args := [d] }
  | _ => none }
def weakFollowsRow : OpenClaim := { program := "ytoadmihnihfjkaagreat", sum := "65d06bcbc0271a8250dff6bc249a6f6e265a7352d1d2f9123393f3da6c385f6b", func := "annalist/annalistlaw31.WeakFollows", spec := "weakFollows", inPlace := ["slices.overlaps[int]"], unfollowed := true, recurses := true, apart := false }
def WeakFollowsSaid : Prop := weakFollowsRow.holds Tryz.pinned (OpenSpec.ofChange weakFollowsSpec)

/-- ITS FALSE NEIGHBOUR: 'it returns false'. Refute it at one input. -/
def weakFollowsWrong : ChangeSpec := { name := "weakFollows", fn := fun _ => fun
  | [d] => { results := [.lit (.bool false)], args := [d] }
  | _ => none }
def WeakFollowsWrongFalsely : Prop := weakFollowsRow.holds Tryz.pinned (OpenSpec.ofChange weakFollowsWrong)

/-- 'annalistlaw31.WeakFound': WHATEVER THE INPUT: true; the input reads as it did. -/
def weakFoundSpec : ChangeSpec := { name := "weakFound", fn := fun _ => fun
  | [d1, d2] => { results := [.lit (.bool true)], args := [d1, d2] }
  | _ => none }
def weakFoundRow : OpenClaim := { program := "ytoadmihnihfjkaagreat", sum := "65d06bcbc0271a8250dff6bc249a6f6e265a7352d1d2f9123393f3da6c385f6b", func := "annalist/annalistlaw31.WeakFound", spec := "weakFound", inPlace := ["slices.overlaps[int]"], unfollowed := true, recurses := true, apart := false }
def WeakFoundSaid : Prop := weakFoundRow.holds Tryz.pinned (OpenSpec.ofChange weakFoundSpec)

/-- ITS FALSE NEIGHBOUR: 'it returns false'. Refute it at one input. -/
def weakFoundWrong : ChangeSpec := { name := "weakFound", fn := fun _ => fun
  | [d1, d2] => { results := [.lit (.bool false)], args := [d1, d2] }
  | _ => none }
def WeakFoundWrongFalsely : Prop := weakFoundRow.holds Tryz.pinned (OpenSpec.ofChange weakFoundWrong)

/-- 'annalistlaw31.WeakPrograms': WHATEVER THE INPUT: true; the input reads as it did. -/
def weakProgramsSpec : ChangeSpec := { name := "weakPrograms", fn := fun _ => fun
  | [d] => { results := [.lit (.bool true)], args := [d] }
  | _ => none }
def weakProgramsRow : OpenClaim := { program := "ytoadmihnihfjkaagreat", sum := "65d06bcbc0271a8250dff6bc249a6f6e265a7352d1d2f9123393f3da6c385f6b", func := "annalist/annalistlaw31.WeakPrograms", spec := "weakPrograms", inPlace := ["slices.overlaps[int]"], unfollowed := true, recurses := true, apart := false }
def WeakProgramsSaid : Prop := weakProgramsRow.holds Tryz.pinned (OpenSpec.ofChange weakProgramsSpec)

/-- ITS FALSE NEIGHBOUR: 'it returns false'. Refute it at one input. -/
def weakProgramsWrong : ChangeSpec := { name := "weakPrograms", fn := fun _ => fun
  | [d] => { results := [.lit (.bool false)], args := [d] }
  | _ => none }
def WeakProgramsWrongFalsely : Prop := weakProgramsRow.holds Tryz.pinned (OpenSpec.ofChange weakProgramsWrong)

/-- 'annalistlaw31.WeakOne': WHATEVER THE INPUT: true; the input reads as it did. -/
def weakOneSpec : ChangeSpec := { name := "weakOne", fn := fun _ => fun
  | [d1, d2] => { results := [.lit (.bool true)], args := [d1, d2] }
  | _ => none }
def weakOneRow : OpenClaim := { program := "ytoadmihnihfjkaagreat", sum := "65d06bcbc0271a8250dff6bc249a6f6e265a7352d1d2f9123393f3da6c385f6b", func := "annalist/annalistlaw31.WeakOne", spec := "weakOne", inPlace := ["slices.overlaps[int]"], unfollowed := true, recurses := true, apart := false }
def WeakOneSaid : Prop := weakOneRow.holds Tryz.pinned (OpenSpec.ofChange weakOneSpec)

/-- ITS FALSE NEIGHBOUR: 'it returns false'. Refute it at one input. -/
def weakOneWrong : ChangeSpec := { name := "weakOne", fn := fun _ => fun
  | [d1, d2] => { results := [.lit (.bool false)], args := [d1, d2] }
  | _ => none }
def WeakOneWrongFalsely : Prop := weakOneRow.holds Tryz.pinned (OpenSpec.ofChange weakOneWrong)

/- THE SECOND FORM. 'bulk': how many values and letters a reading holds, each counted each time it is reached (what is shared counts as often as it is met; a slice's spare places count too). A statement '..UptoSaid' is the law's where the arguments, and the package variables that the reading takes, are together of bulk at most 1048576: NARROWER than '..Said'. Prove '..Said' where nothing that the law and all that it calls make is longer than what came in: it says more and counts as full. Else prove '..UptoSaid'. A law counts once. -/
mutual
def uptoBulk {H : Type} : DataW H → Nat
  | .lit (.string bytes) => bytes.length + 1
  | .lit _ => 1
  | .nil => 1
  | .ptr d => uptoBulk d + 1
  | .slice elems spare => uptoBulkAll elems + uptoBulkAll spare + 1
  | .agg parts => uptoBulkAll parts + 1
  | .iface _ d => uptoBulk d + 1
  | .map entries => uptoBulkEntries entries + 1
  | .held _ => 1
def uptoBulkAll {H : Type} : List (DataW H) → Nat
  | [] => 0
  | d :: r => uptoBulk d + uptoBulkAll r
def uptoBulkEntries {H : Type} : List (Lit × DataW H) → Nat
  | [] => 0
  | x :: r => uptoBulkEntry x + uptoBulkEntries r
def uptoBulkEntry {H : Type} : Lit × DataW H → Nat
  | (.string bytes, d) => bytes.length + uptoBulk d + 1
  | (_, d) => uptoBulk d + 1
 end
def uptoSmall : (H : Type) → List (DataW H) → Bool := fun _ ds => decide (uptoBulkAll ds ≤ 1048576)
def OpenSpec.upto (s : _root_.Go.ChangeSpec) : _root_.Go.OpenSpec := { _root_.Go.OpenSpec.ofChange s with cond := some uptoSmall }

/-- 'annalistlaw31.WeakSequential', WHERE WHAT IT READS IS OF BULK AT MOST 1048576: true; the input reads as it did. -/
def weakSequentialUptoRow : OpenClaim := { program := "ytoadmihnihfjkaagreat", sum := "65d06bcbc0271a8250dff6bc249a6f6e265a7352d1d2f9123393f3da6c385f6b", func := "annalist/annalistlaw31.WeakSequential", spec := "weakSequential", inPlace := ["slices.overlaps[int]"], unfollowed := true, recurses := true, apart := false, narrowed := true }
def WeakSequentialUptoSaid : Prop := weakSequentialUptoRow.holds Tryz.pinned (OpenSpec.upto weakSequentialSpec)

/-- 'annalistlaw31.WeakValid', WHERE WHAT IT READS IS OF BULK AT MOST 1048576: true; the input reads as it did. -/
def weakValidUptoRow : OpenClaim := { program := "ytoadmihnihfjkaagreat", sum := "65d06bcbc0271a8250dff6bc249a6f6e265a7352d1d2f9123393f3da6c385f6b", func := "annalist/annalistlaw31.WeakValid", spec := "weakValid", inPlace := ["slices.overlaps[int]"], unfollowed := true, recurses := true, apart := false, narrowed := true }
def WeakValidUptoSaid : Prop := weakValidUptoRow.holds Tryz.pinned (OpenSpec.upto weakValidSpec)

/-- 'annalistlaw31.WeakFollows', WHERE WHAT IT READS IS OF BULK AT MOST 1048576: true; the input reads as it did. -/
def weakFollowsUptoRow : OpenClaim := { program := "ytoadmihnihfjkaagreat", sum := "65d06bcbc0271a8250dff6bc249a6f6e265a7352d1d2f9123393f3da6c385f6b", func := "annalist/annalistlaw31.WeakFollows", spec := "weakFollows", inPlace := ["slices.overlaps[int]"], unfollowed := true, recurses := true, apart := false, narrowed := true }
def WeakFollowsUptoSaid : Prop := weakFollowsUptoRow.holds Tryz.pinned (OpenSpec.upto weakFollowsSpec)

/-- 'annalistlaw31.WeakFound', WHERE WHAT IT READS IS OF BULK AT MOST 1048576: true; the input reads as it did. -/
def weakFoundUptoRow : OpenClaim := { program := "ytoadmihnihfjkaagreat", sum := "65d06bcbc0271a8250dff6bc249a6f6e265a7352d1d2f9123393f3da6c385f6b", func := "annalist/annalistlaw31.WeakFound", spec := "weakFound", inPlace := ["slices.overlaps[int]"], unfollowed := true, recurses := true, apart := false, narrowed := true }
def WeakFoundUptoSaid : Prop := weakFoundUptoRow.holds Tryz.pinned (OpenSpec.upto weakFoundSpec)

/-- 'annalistlaw31.WeakPrograms', WHERE WHAT IT READS IS OF BULK AT MOST 1048576: true; the input reads as it did. -/
def weakProgramsUptoRow : OpenClaim := { program := "ytoadmihnihfjkaagreat", sum := "65d06bcbc0271a8250dff6bc249a6f6e265a7352d1d2f9123393f3da6c385f6b", func := "annalist/annalistlaw31.WeakPrograms", spec := "weakPrograms", inPlace := ["slices.overlaps[int]"], unfollowed := true, recurses := true, apart := false, narrowed := true }
def WeakProgramsUptoSaid : Prop := weakProgramsUptoRow.holds Tryz.pinned (OpenSpec.upto weakProgramsSpec)

/-- 'annalistlaw31.WeakOne', WHERE WHAT IT READS IS OF BULK AT MOST 1048576: true; the input reads as it did. -/
def weakOneUptoRow : OpenClaim := { program := "ytoadmihnihfjkaagreat", sum := "65d06bcbc0271a8250dff6bc249a6f6e265a7352d1d2f9123393f3da6c385f6b", func := "annalist/annalistlaw31.WeakOne", spec := "weakOne", inPlace := ["slices.overlaps[int]"], unfollowed := true, recurses := true, apart := false, narrowed := true }
def WeakOneUptoSaid : Prop := weakOneUptoRow.holds Tryz.pinned (OpenSpec.upto weakOneSpec)

end Rows
end Go.Proofs.YtoadmihnihfjkaaGreat
