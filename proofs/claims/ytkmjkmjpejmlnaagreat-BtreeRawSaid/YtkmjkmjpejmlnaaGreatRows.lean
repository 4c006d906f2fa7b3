/-
  No cell of these rows narrows 'for every input' (looked for: loops, veiled, ifaces, maps, wideKeys, modest, calm, conditions, laid).
  DERIVED. THE GIVEN ROWS OF THIS SEAT. 7 by the template 'for every input the law returns true; each argument reads behind the call as it read before'; 0 by the template 'total and deterministic' (their statements: YtkmjkmjpejmlnaaGreatTotals.lean).
  GIVEN WITH THE SEED: the statements are not yours to turn. If you find one false, say at which input.
  Laid BY PROGRAM, IN A SANDBOX (cutbox-rows.mjs): the forced cells as the released guide's own fill.sh prints them over the translation 0c00960d29f6c2ee… (all of the seat's roots in one cut). By AI agents, Wed Nov 11 2026. No macro, syntax, notation, axiom, sorry.
-/
import Derived.Test.YtkmjkmjpejmlnaaGreatChecked
import GoSem.Claim
import GoSem.ClaimJoined
import GoSem.ClaimMapViews
import Derived.JoinedTies
import Derived.KernelRfl
namespace Go.Proofs.YtkmjkmjpejmlnaaGreat
/- THE CELL 'sum', in the pinned program and in every row, IS THE sha256 OF THE DUMP (.gsa) THAT YtkmjkmjpejmlnaaGreatProg.lean LOADS. Nothing in Lean hashes anything: it is a label: what it is worth is what the hold of that sum in a sandbox is worth. -/
noncomputable def Tryz.pinned : Pinned := { name := "ytkmjkmjpejmlnaagreat", sum := "0c00960d29f6c2ee8a1b1a789e8b8c8509a9ce2744655d28fe4d71774585f766", checked := Tryz.checked }
namespace Rows
def none {H : Type} : Left H := { results := [], args := [] }

/-- 'annalistlaw25.HeapSmall': WHATEVER THE INPUT: true; the input reads as it did. -/
def heapSmallSpec : ChangeSpec := { name := "heapSmall", fn := fun _ => fun
  | [d] => { results := [.lit (.bool true)], args := [d] }
  | _ => none }
def heapSmallRow : OpenClaim := { program := "ytkmjkmjpejmlnaagreat", sum := "0c00960d29f6c2ee8a1b1a789e8b8c8509a9ce2744655d28fe4d71774585f766", func := "annalist/annalistlaw25.HeapSmall", spec := "heapSmall", inPlace := ["internal/abi.NoEscape", "internal/bytealg.MakeNoZero", "slices.overlaps[annalist/cache.item[int, string]]"], unfollowed := true, recurses := true, apart := false }
def HeapSmallSaid : Prop := heapSmallRow.holds Tryz.pinned (OpenSpec.ofChange heapSmallSpec)

/-- ITS FALSE NEIGHBOUR: 'it returns false'. Refute it at one input. -/
def heapSmallWrong : ChangeSpec := { name := "heapSmall", fn := fun _ => fun
  | [d] => { results := [.lit (.bool false)], args := [d] }
  | _ => none }
def HeapSmallWrongFalsely : Prop := heapSmallRow.holds Tryz.pinned (OpenSpec.ofChange heapSmallWrong)

/-- 'annalistlaw08.BtreeRaw': WHATEVER THE INPUT: true; the input reads as it did. -/
def btreeRawSpec : ChangeSpec := { name := "btreeRaw", fn := fun _ => fun
  | [d1, d2] => { results := [.lit (.bool true)], args := [d1, d2] }
  | _ => none }
def btreeRawRow : OpenClaim := { program := "ytkmjkmjpejmlnaagreat", sum := "0c00960d29f6c2ee8a1b1a789e8b8c8509a9ce2744655d28fe4d71774585f766", func := "annalist/annalistlaw08.BtreeRaw", spec := "btreeRaw", inPlace := ["internal/abi.NoEscape", "internal/bytealg.MakeNoZero", "slices.overlaps[annalist/cache.item[int, string]]", "slices.overlaps[string]", "slices.overlaps[int]"], unfollowed := true, recurses := true, apart := false }
def BtreeRawSaid : Prop := btreeRawRow.holds Tryz.pinned (OpenSpec.ofChange btreeRawSpec)

/-- ITS FALSE NEIGHBOUR: 'it returns false'. Refute it at one input. -/
def btreeRawWrong : ChangeSpec := { name := "btreeRaw", fn := fun _ => fun
  | [d1, d2] => { results := [.lit (.bool false)], args := [d1, d2] }
  | _ => none }
def BtreeRawWrongFalsely : Prop := btreeRawRow.holds Tryz.pinned (OpenSpec.ofChange btreeRawWrong)

/-- 'annalistlaw08.BtreeNobody': WHATEVER THE INPUT: true; the input reads as it did. -/
def btreeNobodySpec : ChangeSpec := { name := "btreeNobody", fn := fun _ => fun
  | [d] => { results := [.lit (.bool true)], args := [d] }
  | _ => none }
def btreeNobodyRow : OpenClaim := { program := "ytkmjkmjpejmlnaagreat", sum := "0c00960d29f6c2ee8a1b1a789e8b8c8509a9ce2744655d28fe4d71774585f766", func := "annalist/annalistlaw08.BtreeNobody", spec := "btreeNobody", inPlace := ["slices.overlaps[annalist/cache.item[int, string]]", "internal/abi.NoEscape", "slices.overlaps[string]", "slices.overlaps[int]", "internal/bytealg.MakeNoZero"], unfollowed := true, recurses := true, apart := false }
def BtreeNobodySaid : Prop := btreeNobodyRow.holds Tryz.pinned (OpenSpec.ofChange btreeNobodySpec)

/-- ITS FALSE NEIGHBOUR: 'it returns false'. Refute it at one input. -/
def btreeNobodyWrong : ChangeSpec := { name := "btreeNobody", fn := fun _ => fun
  | [d] => { results := [.lit (.bool false)], args := [d] }
  | _ => none }
def BtreeNobodyWrongFalsely : Prop := btreeNobodyRow.holds Tryz.pinned (OpenSpec.ofChange btreeNobodyWrong)

/-- 'annalistlaw25.HeapPlays': WHATEVER THE INPUT: true; the input reads as it did. -/
def heapPlaysSpec : ChangeSpec := { name := "heapPlays", fn := fun _ => fun
  | [d1, d2] => { results := [.lit (.bool true)], args := [d1, d2] }
  | _ => none }
def heapPlaysRow : OpenClaim := { program := "ytkmjkmjpejmlnaagreat", sum := "0c00960d29f6c2ee8a1b1a789e8b8c8509a9ce2744655d28fe4d71774585f766", func := "annalist/annalistlaw25.HeapPlays", spec := "heapPlays", inPlace := ["internal/abi.NoEscape", "internal/bytealg.MakeNoZero", "slices.overlaps[annalist/cache.item[int, string]]"], unfollowed := true, recurses := true, apart := false }
def HeapPlaysSaid : Prop := heapPlaysRow.holds Tryz.pinned (OpenSpec.ofChange heapPlaysSpec)

/-- ITS FALSE NEIGHBOUR: 'it returns false'. Refute it at one input. -/
def heapPlaysWrong : ChangeSpec := { name := "heapPlays", fn := fun _ => fun
  | [d1, d2] => { results := [.lit (.bool false)], args := [d1, d2] }
  | _ => none }
def HeapPlaysWrongFalsely : Prop := heapPlaysRow.holds Tryz.pinned (OpenSpec.ofChange heapPlaysWrong)

/-- 'annalistlaw25.HeapSpace': WHATEVER THE INPUT: true; the input reads as it did. -/
def heapSpaceSpec : ChangeSpec := { name := "heapSpace", fn := fun _ => fun
  | [d1, d2] => { results := [.lit (.bool true)], args := [d1, d2] }
  | _ => none }
def heapSpaceRow : OpenClaim := { program := "ytkmjkmjpejmlnaagreat", sum := "0c00960d29f6c2ee8a1b1a789e8b8c8509a9ce2744655d28fe4d71774585f766", func := "annalist/annalistlaw25.HeapSpace", spec := "heapSpace", inPlace := ["internal/abi.NoEscape", "internal/bytealg.MakeNoZero", "slices.overlaps[annalist/cache.item[int, string]]"], unfollowed := true, recurses := true, apart := false }
def HeapSpaceSaid : Prop := heapSpaceRow.holds Tryz.pinned (OpenSpec.ofChange heapSpaceSpec)

/-- ITS FALSE NEIGHBOUR: 'it returns false'. Refute it at one input. -/
def heapSpaceWrong : ChangeSpec := { name := "heapSpace", fn := fun _ => fun
  | [d1, d2] => { results := [.lit (.bool false)], args := [d1, d2] }
  | _ => none }
def HeapSpaceWrongFalsely : Prop := heapSpaceRow.holds Tryz.pinned (OpenSpec.ofChange heapSpaceWrong)

/-- 'annalistlaw25.HeapEmpty': WHATEVER THE INPUT: true; the input reads as it did. -/
def heapEmptySpec : ChangeSpec := { name := "heapEmpty", fn := fun _ => fun
  | [d1, d2, d3] => { results := [.lit (.bool true)], args := [d1, d2, d3] }
  | _ => none }
def heapEmptyRow : OpenClaim := { program := "ytkmjkmjpejmlnaagreat", sum := "0c00960d29f6c2ee8a1b1a789e8b8c8509a9ce2744655d28fe4d71774585f766", func := "annalist/annalistlaw25.HeapEmpty", spec := "heapEmpty", inPlace := ["internal/abi.NoEscape", "internal/bytealg.MakeNoZero", "slices.overlaps[annalist/cache.item[int, string]]"], unfollowed := true, recurses := true, apart := false }
def HeapEmptySaid : Prop := heapEmptyRow.holds Tryz.pinned (OpenSpec.ofChange heapEmptySpec)

/-- ITS FALSE NEIGHBOUR: 'it returns false'. Refute it at one input. -/
def heapEmptyWrong : ChangeSpec := { name := "heapEmpty", fn := fun _ => fun
  | [d1, d2, d3] => { results := [.lit (.bool false)], args := [d1, d2, d3] }
  | _ => none }
def HeapEmptyWrongFalsely : Prop := heapEmptyRow.holds Tryz.pinned (OpenSpec.ofChange heapEmptyWrong)

/-- 'annalistlaw25.HeapPages': WHATEVER THE INPUT: true; the input reads as it did. -/
def heapPagesSpec : ChangeSpec := { name := "heapPages", fn := fun _ => fun
  | [d] => { results := [.lit (.bool true)], args := [d] }
  | _ => none }
def heapPagesRow : OpenClaim := { program := "ytkmjkmjpejmlnaagreat", sum := "0c00960d29f6c2ee8a1b1a789e8b8c8509a9ce2744655d28fe4d71774585f766", func := "annalist/annalistlaw25.HeapPages", spec := "heapPages", inPlace := ["internal/abi.NoEscape", "internal/bytealg.MakeNoZero", "slices.overlaps[annalist/cache.item[int, string]]"], unfollowed := true, recurses := true, apart := false }
def HeapPagesSaid : Prop := heapPagesRow.holds Tryz.pinned (OpenSpec.ofChange heapPagesSpec)

/-- ITS FALSE NEIGHBOUR: 'it returns false'. Refute it at one input. -/
def heapPagesWrong : ChangeSpec := { name := "heapPages", fn := fun _ => fun
  | [d] => { results := [.lit (.bool false)], args := [d] }
  | _ => none }
def HeapPagesWrongFalsely : Prop := heapPagesRow.holds Tryz.pinned (OpenSpec.ofChange heapPagesWrong)

/- THE SECOND FORM. 'bulk': how many values and letters a reading holds, each counted each time it is reached (what is shared counts as often as it is met; a slice's spare places count too). A statement '..UptoSaid' is the law's where the arguments, and the package variables that the reading takes, are together of bulk at most 1048576: NARROWER than '..Said'. Prove '..Said' where nothing that the law and all that it calls make is longer than what came in: it says more and counts as full. Else prove '..UptoSaid'. A law counts once. -/
mutual
def uptoBulk {H : Type} : DataW H → Nat
  | .lit (.string bytes) => bytes.length + 1
  | .lit _ => 1
  | .nil => 1
  | .ptr d => uptoBulk d + 1
  | .slice elems spare => uptoBulkAll elems + uptoBulkAll spare + 1
  | .agg parts => uptoBulkAll parts + 1
  | .iface _ d => uptoBulk d + 1
  | .map entries => uptoBulkEntries entries + 1
  | .held _ => 1
def uptoBulkAll {H : Type} : List (DataW H) → Nat
  | [] => 0
  | d :: r => uptoBulk d + uptoBulkAll r
def uptoBulkEntries {H : Type} : List (Lit × DataW H) → Nat
  | [] => 0
  | x :: r => uptoBulkEntry x + uptoBulkEntries r
def uptoBulkEntry {H : Type} : Lit × DataW H → Nat
  | (.string bytes, d) => bytes.length + uptoBulk d + 1
  | (_, d) => uptoBulk d + 1
 end
def uptoSmall : (H : Type) → List (DataW H) → Bool := fun _ ds => decide (uptoBulkAll ds ≤ 1048576)
def OpenSpec.upto (s : _root_.Go.ChangeSpec) : _root_.Go.OpenSpec := { _root_.Go.OpenSpec.ofChange s with cond := some uptoSmall }

/-- 'annalistlaw25.HeapSmall', WHERE WHAT IT READS IS OF BULK AT MOST 1048576: true; the input reads as it did. -/
def heapSmallUptoRow : OpenClaim := { program := "ytkmjkmjpejmlnaagreat", sum := "0c00960d29f6c2ee8a1b1a789e8b8c8509a9ce2744655d28fe4d71774585f766", func := "annalist/annalistlaw25.HeapSmall", spec := "heapSmall", inPlace := ["internal/abi.NoEscape", "internal/bytealg.MakeNoZero", "slices.overlaps[annalist/cache.item[int, string]]"], unfollowed := true, recurses := true, apart := false, narrowed := true }
def HeapSmallUptoSaid : Prop := heapSmallUptoRow.holds Tryz.pinned (OpenSpec.upto heapSmallSpec)

/-- 'annalistlaw08.BtreeRaw', WHERE WHAT IT READS IS OF BULK AT MOST 1048576: true; the input reads as it did. -/
def btreeRawUptoRow : OpenClaim := { program := "ytkmjkmjpejmlnaagreat", sum := "0c00960d29f6c2ee8a1b1a789e8b8c8509a9ce2744655d28fe4d71774585f766", func := "annalist/annalistlaw08.BtreeRaw", spec := "btreeRaw", inPlace := ["internal/abi.NoEscape", "internal/bytealg.MakeNoZero", "slices.overlaps[annalist/cache.item[int, string]]", "slices.overlaps[string]", "slices.overlaps[int]"], unfollowed := true, recurses := true, apart := false, narrowed := true }
def BtreeRawUptoSaid : Prop := btreeRawUptoRow.holds Tryz.pinned (OpenSpec.upto btreeRawSpec)

/-- 'annalistlaw08.BtreeNobody', WHERE WHAT IT READS IS OF BULK AT MOST 1048576: true; the input reads as it did. -/
def btreeNobodyUptoRow : OpenClaim := { program := "ytkmjkmjpejmlnaagreat", sum := "0c00960d29f6c2ee8a1b1a789e8b8c8509a9ce2744655d28fe4d71774585f766", func := "annalist/annalistlaw08.BtreeNobody", spec := "btreeNobody", inPlace := ["slices.overlaps[annalist/cache.item[int, string]]", "internal/abi.NoEscape", "slices.overlaps[string]", "slices.overlaps[int]", "internal/bytealg.MakeNoZero"], unfollowed := true, recurses := true, apart := false, narrowed := true }
def BtreeNobodyUptoSaid : Prop := btreeNobodyUptoRow.holds Tryz.pinned (OpenSpec.upto btreeNobodySpec)

/-- 'annalistlaw25.HeapPlays', WHERE WHAT IT READS IS OF BULK AT MOST 1048576: true; the input reads as it did. -/
def heapPlaysUptoRow : OpenClaim := { program := "ytkmjkmjpejmlnaagreat", sum := "0c00960d29f6c2ee8a1b1a789e8b8c8509a9ce2744655d28fe4d71774585f766", func := "annalist/annalistlaw25.HeapPlays", spec := "heapPlays", inPlace := ["internal/abi.NoEscape", "internal/bytealg.MakeNoZero", "slices.overlaps[annalist/cache.item[int, string]]"], unfollowed := true, recurses := true, apart := false, narrowed := true }
def HeapPlaysUptoSaid : Prop := heapPlaysUptoRow.holds Tryz.pinned (OpenSpec.upto heapPlaysSpec)

/-- 'annalistlaw25.HeapSpace', WHERE WHAT IT READS IS OF BULK AT MOST 1048576: true; the input reads as it did. -/
def heapSpaceUptoRow : OpenClaim := { program := "ytkmjkmjpejmlnaagreat", sum := "0c00960d29f6c2ee8a1b1a789e8b8c8509a9ce2744655d28fe4d71774585f766", func := "annalist/annalistlaw25.HeapSpace", spec := "heapSpace", inPlace := ["internal/abi.NoEscape", "internal/bytealg.MakeNoZero", "slices.overlaps[annalist/cache.item[int, string]]"], unfollowed := true, recurses := true, apart := false, narrowed := true }
def HeapSpaceUptoSaid : Prop := heapSpaceUptoRow.holds Tryz.pinned (OpenSpec.upto heapSpaceSpec)

/-- 'annalistlaw25.HeapEmpty', WHERE WHAT IT READS IS OF BULK AT MOST 1048576: true; the input reads as it did. -/
def heapEmptyUptoRow : OpenClaim := { program := "ytkmjkmjpejmlnaagreat", sum := "0c00960d29f6c2ee8a1b1a789e8b8c8509a9ce2744655d28fe4d71774585f766", func := "annalist/annalistlaw25.HeapEmpty", spec := "heapEmpty", inPlace := ["internal/abi.NoEscape", "internal/bytealg.MakeNoZero", "slices.overlaps[annalist/cache.item[int, string]]"], unfollowed := true, recurses := true, apart := false, narrowed := true }
def HeapEmptyUptoSaid : Prop := heapEmptyUptoRow.holds Tryz.pinned (OpenSpec.upto heapEmptySpec)

/-- 'annalistlaw25.HeapPages', WHERE WHAT IT READS IS OF BULK AT MOST 1048576: true; the input reads as it did. -/
def heapPagesUptoRow : OpenClaim := { program := "ytkmjkmjpejmlnaagreat", sum := "0c00960d29f6c2ee8a1b1a789e8b8c8509a9ce2744655d28fe4d71774585f766", func := "annalist/annalistlaw25.HeapPages", spec := "heapPages", inPlace := ["internal/abi.NoEscape", "internal/bytealg.MakeNoZero", "slices.overlaps[annalist/cache.item[int, string]]"], unfollowed := true, recurses := true, apart := false, narrowed := true }
def HeapPagesUptoSaid : Prop := heapPagesUptoRow.holds Tryz.pinned (OpenSpec.upto heapPagesSpec)

end Rows
end Go.Proofs.YtkmjkmjpejmlnaaGreat
