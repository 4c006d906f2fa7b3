/-
  No cell of these rows narrows 'for every input' (looked for: loops, veiled, ifaces, maps, wideKeys, modest, calm, conditions, laid).
  DERIVED. THE GIVEN ROWS OF THIS SEAT. 5 by the template 'for every input the law returns true; each argument reads behind the call as it read before'; 0 by the template 'total and deterministic' (their statements: YtmdhcpghofadcaaTotals.lean).
  GIVEN WITH THE SEED: the statements are not yours to turn. If you find one false, say at which input.
  Laid BY PROGRAM, IN A SANDBOX (cutbox-rows.mjs): the forced cells as the released guide's own fill.sh prints them over the translation f6177046785ac69e… (all of the seat's roots in one cut). By AI agents, Wed Nov 11 2026. No macro, syntax, notation, axiom, sorry.
-/
import Derived.Test.YtmdhcpghofadcaaChecked
import GoSem.Claim
import GoSem.ClaimJoined
import GoSem.ClaimMapViews
import Derived.JoinedTies
import Derived.KernelRfl
namespace Go.Proofs.Ytmdhcpghofadcaa
/- THE CELL 'sum', in the pinned program and in every row, IS THE sha256 OF THE DUMP (.gsa) THAT YtmdhcpghofadcaaProg.lean LOADS. Nothing in Lean hashes anything: it is a label: what it is worth is what the hold of that sum in a sandbox is worth. -/
noncomputable def Try.pinned : Pinned := { name := "ytmdhcpghofadcaa", sum := "f6177046785ac69e7ad2eb2d5287517ecda55a31045fafcdc7362753e0d8747c", checked := Try.checked }
namespace Rows
def none {H : Type} : Left H := { results := [], args := [] }

/-- 'annalistlaw33.ChartLabels': WHATEVER THE INPUT: true; the input reads as it did. -/
def chartLabelsSpec : ChangeSpec := { name := "chartLabels", fn := fun _ => fun
  | [d] => { results := [.lit (.bool true)], args := [d] }
  | _ => none }
def chartLabelsRow : OpenClaim := { program := "ytmdhcpghofadcaa", sum := "f6177046785ac69e7ad2eb2d5287517ecda55a31045fafcdc7362753e0d8747c", func := "annalist/annalistlaw33.ChartLabels", spec := "chartLabels", inPlace := ["internal/abi.NoEscape", "internal/bytealg.MakeNoZero"], unfollowed := true, recurses := true, apart := false }
def ChartLabelsSaid : Prop := chartLabelsRow.holds Try.pinned (OpenSpec.ofChange chartLabelsSpec)

/-- ITS FALSE NEIGHBOUR: 'it returns false'. Refute it at one input. -/
def chartLabelsWrong : ChangeSpec := { name := "chartLabels", fn := fun _ => fun
  | [d] => { results := [.lit (.bool false)], args := [d] }
  | _ => none }
def ChartLabelsWrongFalsely : Prop := chartLabelsRow.holds Try.pinned (OpenSpec.ofChange chartLabelsWrong)

/-- 'annalistlaw33.ChartDraws': WHATEVER THE INPUT: true; the input reads as it did. -/
def chartDrawsSpec : ChangeSpec := { name := "chartDraws", fn := fun _ => fun
  | [d1, d2] => { results := [.lit (.bool true)], args := [d1, d2] }
  | _ => none }
def chartDrawsRow : OpenClaim := { program := "ytmdhcpghofadcaa", sum := "f6177046785ac69e7ad2eb2d5287517ecda55a31045fafcdc7362753e0d8747c", func := "annalist/annalistlaw33.ChartDraws", spec := "chartDraws", inPlace := ["internal/abi.NoEscape", "internal/bytealg.MakeNoZero"], unfollowed := true, recurses := true, apart := false }
def ChartDrawsSaid : Prop := chartDrawsRow.holds Try.pinned (OpenSpec.ofChange chartDrawsSpec)

/-- ITS FALSE NEIGHBOUR: 'it returns false'. Refute it at one input. -/
def chartDrawsWrong : ChangeSpec := { name := "chartDraws", fn := fun _ => fun
  | [d1, d2] => { results := [.lit (.bool false)], args := [d1, d2] }
  | _ => none }
def ChartDrawsWrongFalsely : Prop := chartDrawsRow.holds Try.pinned (OpenSpec.ofChange chartDrawsWrong)

/-- 'annalistlaw33.ChartWidth': WHATEVER THE INPUT: true; the input reads as it did. -/
def chartWidthSpec : ChangeSpec := { name := "chartWidth", fn := fun _ => fun
  | [d1, d2] => { results := [.lit (.bool true)], args := [d1, d2] }
  | _ => none }
def chartWidthRow : OpenClaim := { program := "ytmdhcpghofadcaa", sum := "f6177046785ac69e7ad2eb2d5287517ecda55a31045fafcdc7362753e0d8747c", func := "annalist/annalistlaw33.ChartWidth", spec := "chartWidth", inPlace := ["internal/abi.NoEscape", "internal/bytealg.MakeNoZero"], unfollowed := true, recurses := true, apart := false }
def ChartWidthSaid : Prop := chartWidthRow.holds Try.pinned (OpenSpec.ofChange chartWidthSpec)

/-- ITS FALSE NEIGHBOUR: 'it returns false'. Refute it at one input. -/
def chartWidthWrong : ChangeSpec := { name := "chartWidth", fn := fun _ => fun
  | [d1, d2] => { results := [.lit (.bool false)], args := [d1, d2] }
  | _ => none }
def ChartWidthWrongFalsely : Prop := chartWidthRow.holds Try.pinned (OpenSpec.ofChange chartWidthWrong)

/-- 'annalistlaw33.ChartBars': WHATEVER THE INPUT: true; the input reads as it did. -/
def chartBarsSpec : ChangeSpec := { name := "chartBars", fn := fun _ => fun
  | [d1, d2, d3] => { results := [.lit (.bool true)], args := [d1, d2, d3] }
  | _ => none }
def chartBarsRow : OpenClaim := { program := "ytmdhcpghofadcaa", sum := "f6177046785ac69e7ad2eb2d5287517ecda55a31045fafcdc7362753e0d8747c", func := "annalist/annalistlaw33.ChartBars", spec := "chartBars", inPlace := ["internal/abi.NoEscape", "internal/bytealg.MakeNoZero"], unfollowed := true, recurses := true, apart := false }
def ChartBarsSaid : Prop := chartBarsRow.holds Try.pinned (OpenSpec.ofChange chartBarsSpec)

/-- ITS FALSE NEIGHBOUR: 'it returns false'. Refute it at one input. -/
def chartBarsWrong : ChangeSpec := { name := "chartBars", fn := fun _ => fun
  | [d1, d2, d3] => { results := [.lit (.bool false)], args := [d1, d2, d3] }
  | _ => none }
def ChartBarsWrongFalsely : Prop := chartBarsRow.holds Try.pinned (OpenSpec.ofChange chartBarsWrong)

/-- 'annalistlaw33.ChartLater': WHATEVER THE INPUT: true; the input reads as it did. -/
def chartLaterSpec : ChangeSpec := { name := "chartLater", fn := fun _ => fun
  | [d1, d2, d3] => { results := [.lit (.bool true)], args := [d1, d2, d3] }
  | _ => none }
def chartLaterRow : OpenClaim := { program := "ytmdhcpghofadcaa", sum := "f6177046785ac69e7ad2eb2d5287517ecda55a31045fafcdc7362753e0d8747c", func := "annalist/annalistlaw33.ChartLater", spec := "chartLater", inPlace := ["internal/abi.NoEscape", "internal/bytealg.MakeNoZero"], unfollowed := true, recurses := true, apart := false }
def ChartLaterSaid : Prop := chartLaterRow.holds Try.pinned (OpenSpec.ofChange chartLaterSpec)

/-- ITS FALSE NEIGHBOUR: 'it returns false'. Refute it at one input. -/
def chartLaterWrong : ChangeSpec := { name := "chartLater", fn := fun _ => fun
  | [d1, d2, d3] => { results := [.lit (.bool false)], args := [d1, d2, d3] }
  | _ => none }
def ChartLaterWrongFalsely : Prop := chartLaterRow.holds Try.pinned (OpenSpec.ofChange chartLaterWrong)

/- THE SECOND FORM. 'bulk': how many values and letters a reading holds, each counted each time it is reached (what is shared counts as often as it is met; a slice's spare places count too). A statement '..UptoSaid' is the law's where the arguments, and the package variables that the reading takes, are together of bulk at most 1048576: NARROWER than '..Said'. Prove '..Said' where nothing that the law and all that it calls make is longer than what came in: it says more and counts as full. Else prove '..UptoSaid'. A law counts once. -/
mutual
def uptoBulk {H : Type} : DataW H → Nat
  | .lit (.string bytes) => bytes.length + 1
  | .lit _ => 1
  | .nil => 1
  | .ptr d => uptoBulk d + 1
  | .slice elems spare => uptoBulkAll elems + uptoBulkAll spare + 1
  | .agg parts => uptoBulkAll parts + 1
  | .iface _ d => uptoBulk d + 1
  | .map entries => uptoBulkEntries entries + 1
  | .held _ => 1
def uptoBulkAll {H : Type} : List (DataW H) → Nat
  | [] => 0
  | d :: r => uptoBulk d + uptoBulkAll r
def uptoBulkEntries {H : Type} : List (Lit × DataW H) → Nat
  | [] => 0
  | x :: r => uptoBulkEntry x + uptoBulkEntries r
def uptoBulkEntry {H : Type} : Lit × DataW H → Nat
  | (.string bytes, d) => bytes.length + uptoBulk d + 1
  | (_, d) => uptoBulk d + 1
 end
def uptoSmall : (H : Type) → List (DataW H) → Bool := fun _ ds => decide (uptoBulkAll ds ≤ 1048576)
def OpenSpec.upto (s : _root_.Go.ChangeSpec) : _root_.Go.OpenSpec := { _root_.Go.OpenSpec.ofChange s with cond := some uptoSmall }

/-- 'annalistlaw33.ChartLabels', WHERE WHAT IT READS IS OF BULK AT MOST 1048576: true; the input reads as it did. -/
def chartLabelsUptoRow : OpenClaim := { program := "ytmdhcpghofadcaa", sum := "f6177046785ac69e7ad2eb2d5287517ecda55a31045fafcdc7362753e0d8747c", func := "annalist/annalistlaw33.ChartLabels", spec := "chartLabels", inPlace := ["internal/abi.NoEscape", "internal/bytealg.MakeNoZero"], unfollowed := true, recurses := true, apart := false, narrowed := true }
def ChartLabelsUptoSaid : Prop := chartLabelsUptoRow.holds Try.pinned (OpenSpec.upto chartLabelsSpec)

/-- 'annalistlaw33.ChartDraws', WHERE WHAT IT READS IS OF BULK AT MOST 1048576: true; the input reads as it did. -/
def chartDrawsUptoRow : OpenClaim := { program := "ytmdhcpghofadcaa", sum := "f6177046785ac69e7ad2eb2d5287517ecda55a31045fafcdc7362753e0d8747c", func := "annalist/annalistlaw33.ChartDraws", spec := "chartDraws", inPlace := ["internal/abi.NoEscape", "internal/bytealg.MakeNoZero"], unfollowed := true, recurses := true, apart := false, narrowed := true }
def ChartDrawsUptoSaid : Prop := chartDrawsUptoRow.holds Try.pinned (OpenSpec.upto chartDrawsSpec)

/-- 'annalistlaw33.ChartWidth', WHERE WHAT IT READS IS OF BULK AT MOST 1048576: true; the input reads as it did. -/
def chartWidthUptoRow : OpenClaim := { program := "ytmdhcpghofadcaa", sum := "f6177046785ac69e7ad2eb2d5287517ecda55a31045fafcdc7362753e0d8747c", func := "annalist/annalistlaw33.ChartWidth", spec := "chartWidth", inPlace := ["internal/abi.NoEscape", "internal/bytealg.MakeNoZero"], unfollowed := true, recurses := true, apart := false, narrowed := true }
def ChartWidthUptoSaid : Prop := chartWidthUptoRow.holds Try.pinned (OpenSpec.upto chartWidthSpec)

/-- 'annalistlaw33.ChartBars', WHERE WHAT IT READS IS OF BULK AT MOST 1048576: true; the input reads as it did. -/
def chartBarsUptoRow : OpenClaim := { program := "ytmdhcpghofadcaa", sum := "f6177046785ac69e7ad2eb2d5287517ecda55a31045fafcdc7362753e0d8747c", func := "annalist/annalistlaw33.ChartBars", spec := "chartBars", inPlace := ["internal/abi.NoEscape", "internal/bytealg.MakeNoZero"], unfollowed := true, recurses := true, apart := false, narrowed := true }
def ChartBarsUptoSaid : Prop := chartBarsUptoRow.holds Try.pinned (OpenSpec.upto chartBarsSpec)

/-- 'annalistlaw33.ChartLater', WHERE WHAT IT READS IS OF BULK AT MOST 1048576: true; the input reads as it did. -/
def chartLaterUptoRow : OpenClaim := { program := "ytmdhcpghofadcaa", sum := "f6177046785ac69e7ad2eb2d5287517ecda55a31045fafcdc7362753e0d8747c", func := "annalist/annalistlaw33.ChartLater", spec := "chartLater", inPlace := ["internal/abi.NoEscape", "internal/bytealg.MakeNoZero"], unfollowed := true, recurses := true, apart := false, narrowed := true }
def ChartLaterUptoSaid : Prop := chartLaterUptoRow.holds Try.pinned (OpenSpec.upto chartLaterSpec)

end Rows
end Go.Proofs.Ytmdhcpghofadcaa
