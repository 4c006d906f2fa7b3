/-
  No cell of these rows narrows 'for every input' (looked for: loops, veiled, ifaces, maps, wideKeys, modest, calm, conditions, laid).
  DERIVED. THE GIVEN ROWS OF THIS SEAT. 5 by the template 'for every input the law returns true; each argument reads behind the call as it read before'; 0 by the template 'total and deterministic' (their statements: YtnhgafpoonnamaaTotals.lean).
  GIVEN WITH THE SEED: the statements are not yours to turn. If you find one false, say at which input.
  Laid BY PROGRAM, IN A SANDBOX (cutbox-rows.mjs): the forced cells as the released guide's own fill.sh prints them over the translation 641c73f1ca185005… (all of the seat's roots in one cut). By AI agents, Wed Nov 11 2026. No macro, syntax, notation, axiom, sorry.
-/
import Derived.Test.YtnhgafpoonnamaaChecked
import GoSem.Claim
import GoSem.ClaimJoined
import GoSem.ClaimMapViews
import Derived.JoinedTies
import Derived.KernelRfl
namespace Go.Proofs.Ytnhgafpoonnamaa
/- THE CELL 'sum', in the pinned program and in every row, IS THE sha256 OF THE DUMP (.gsa) THAT YtnhgafpoonnamaaProg.lean LOADS. Nothing in Lean hashes anything: it is a label: what it is worth is what the hold of that sum in a sandbox is worth. -/
noncomputable def Try.pinned : Pinned := { name := "ytnhgafpoonnamaa", sum := "641c73f1ca18500516e563964cab833a3bd02658491927145b9a72cf417a5508", checked := Try.checked }
namespace Rows
def none {H : Type} : Left H := { results := [], args := [] }

/-- 'annalistlaw05.BitmapSets': WHATEVER THE INPUT: true; the input reads as it did. -/
def bitmapSetsSpec : ChangeSpec := { name := "bitmapSets", fn := fun _ => fun
  | [d1, d2, d3] => { results := [.lit (.bool true)], args := [d1, d2, d3] }
  | _ => none }
def bitmapSetsRow : OpenClaim := { program := "ytnhgafpoonnamaa", sum := "641c73f1ca18500516e563964cab833a3bd02658491927145b9a72cf417a5508", func := "annalist/annalistlaw05.BitmapSets", spec := "bitmapSets", apart := false }
def BitmapSetsSaid : Prop := bitmapSetsRow.holds Try.pinned (OpenSpec.ofChange bitmapSetsSpec)

/-- ITS FALSE NEIGHBOUR: 'it returns false'. Refute it at one input. -/
def bitmapSetsWrong : ChangeSpec := { name := "bitmapSets", fn := fun _ => fun
  | [d1, d2, d3] => { results := [.lit (.bool false)], args := [d1, d2, d3] }
  | _ => none }
def BitmapSetsWrongFalsely : Prop := bitmapSetsRow.holds Try.pinned (OpenSpec.ofChange bitmapSetsWrong)

/-- 'annalistlaw05.BitmapEmpties': WHATEVER THE INPUT: true; the input reads as it did. -/
def bitmapEmptiesSpec : ChangeSpec := { name := "bitmapEmpties", fn := fun _ => fun
  | [d1, d2] => { results := [.lit (.bool true)], args := [d1, d2] }
  | _ => none }
def bitmapEmptiesRow : OpenClaim := { program := "ytnhgafpoonnamaa", sum := "641c73f1ca18500516e563964cab833a3bd02658491927145b9a72cf417a5508", func := "annalist/annalistlaw05.BitmapEmpties", spec := "bitmapEmpties", apart := false }
def BitmapEmptiesSaid : Prop := bitmapEmptiesRow.holds Try.pinned (OpenSpec.ofChange bitmapEmptiesSpec)

/-- ITS FALSE NEIGHBOUR: 'it returns false'. Refute it at one input. -/
def bitmapEmptiesWrong : ChangeSpec := { name := "bitmapEmpties", fn := fun _ => fun
  | [d1, d2] => { results := [.lit (.bool false)], args := [d1, d2] }
  | _ => none }
def BitmapEmptiesWrongFalsely : Prop := bitmapEmptiesRow.holds Try.pinned (OpenSpec.ofChange bitmapEmptiesWrong)

/-- 'annalistlaw05.BitmapLowest': WHATEVER THE INPUT: true; the input reads as it did. -/
def bitmapLowestSpec : ChangeSpec := { name := "bitmapLowest", fn := fun _ => fun
  | [d1, d2, d3] => { results := [.lit (.bool true)], args := [d1, d2, d3] }
  | _ => none }
def bitmapLowestRow : OpenClaim := { program := "ytnhgafpoonnamaa", sum := "641c73f1ca18500516e563964cab833a3bd02658491927145b9a72cf417a5508", func := "annalist/annalistlaw05.BitmapLowest", spec := "bitmapLowest", apart := false }
def BitmapLowestSaid : Prop := bitmapLowestRow.holds Try.pinned (OpenSpec.ofChange bitmapLowestSpec)

/-- ITS FALSE NEIGHBOUR: 'it returns false'. Refute it at one input. -/
def bitmapLowestWrong : ChangeSpec := { name := "bitmapLowest", fn := fun _ => fun
  | [d1, d2, d3] => { results := [.lit (.bool false)], args := [d1, d2, d3] }
  | _ => none }
def BitmapLowestWrongFalsely : Prop := bitmapLowestRow.holds Try.pinned (OpenSpec.ofChange bitmapLowestWrong)

/-- 'annalistlaw05.BitmapOthers': WHATEVER THE INPUT: true; the input reads as it did. -/
def bitmapOthersSpec : ChangeSpec := { name := "bitmapOthers", fn := fun _ => fun
  | [d1, d2, d3, d4] => { results := [.lit (.bool true)], args := [d1, d2, d3, d4] }
  | _ => none }
def bitmapOthersRow : OpenClaim := { program := "ytnhgafpoonnamaa", sum := "641c73f1ca18500516e563964cab833a3bd02658491927145b9a72cf417a5508", func := "annalist/annalistlaw05.BitmapOthers", spec := "bitmapOthers", apart := false }
def BitmapOthersSaid : Prop := bitmapOthersRow.holds Try.pinned (OpenSpec.ofChange bitmapOthersSpec)

/-- ITS FALSE NEIGHBOUR: 'it returns false'. Refute it at one input. -/
def bitmapOthersWrong : ChangeSpec := { name := "bitmapOthers", fn := fun _ => fun
  | [d1, d2, d3, d4] => { results := [.lit (.bool false)], args := [d1, d2, d3, d4] }
  | _ => none }
def BitmapOthersWrongFalsely : Prop := bitmapOthersRow.holds Try.pinned (OpenSpec.ofChange bitmapOthersWrong)

/-- 'annalistlaw05.BitmapEach': WHATEVER THE INPUT: true; the input reads as it did. -/
def bitmapEachSpec : ChangeSpec := { name := "bitmapEach", fn := fun _ => fun
  | [d1, d2] => { results := [.lit (.bool true)], args := [d1, d2] }
  | _ => none }
def bitmapEachRow : OpenClaim := { program := "ytnhgafpoonnamaa", sum := "641c73f1ca18500516e563964cab833a3bd02658491927145b9a72cf417a5508", func := "annalist/annalistlaw05.BitmapEach", spec := "bitmapEach", unfollowed := true, recurses := true, apart := false }
def BitmapEachSaid : Prop := bitmapEachRow.holds Try.pinned (OpenSpec.ofChange bitmapEachSpec)

/-- ITS FALSE NEIGHBOUR: 'it returns false'. Refute it at one input. -/
def bitmapEachWrong : ChangeSpec := { name := "bitmapEach", fn := fun _ => fun
  | [d1, d2] => { results := [.lit (.bool false)], args := [d1, d2] }
  | _ => none }
def BitmapEachWrongFalsely : Prop := bitmapEachRow.holds Try.pinned (OpenSpec.ofChange bitmapEachWrong)

/- THE SECOND FORM. 'bulk': how many values and letters a reading holds, each counted each time it is reached (what is shared counts as often as it is met; a slice's spare places count too). A statement '..UptoSaid' is the law's where the arguments, and the package variables that the reading takes, are together of bulk at most 1048576: NARROWER than '..Said'. Prove '..Said' where nothing that the law and all that it calls make is longer than what came in: it says more and counts as full. Else prove '..UptoSaid'. A law counts once. -/
mutual
def uptoBulk {H : Type} : DataW H → Nat
  | .lit (.string bytes) => bytes.length + 1
  | .lit _ => 1
  | .nil => 1
  | .ptr d => uptoBulk d + 1
  | .slice elems spare => uptoBulkAll elems + uptoBulkAll spare + 1
  | .agg parts => uptoBulkAll parts + 1
  | .iface _ d => uptoBulk d + 1
  | .map entries => uptoBulkEntries entries + 1
  | .held _ => 1
def uptoBulkAll {H : Type} : List (DataW H) → Nat
  | [] => 0
  | d :: r => uptoBulk d + uptoBulkAll r
def uptoBulkEntries {H : Type} : List (Lit × DataW H) → Nat
  | [] => 0
  | x :: r => uptoBulkEntry x + uptoBulkEntries r
def uptoBulkEntry {H : Type} : Lit × DataW H → Nat
  | (.string bytes, d) => bytes.length + uptoBulk d + 1
  | (_, d) => uptoBulk d + 1
 end
def uptoSmall : (H : Type) → List (DataW H) → Bool := fun _ ds => decide (uptoBulkAll ds ≤ 1048576)
def OpenSpec.upto (s : _root_.Go.ChangeSpec) : _root_.Go.OpenSpec := { _root_.Go.OpenSpec.ofChange s with cond := some uptoSmall }

/-- 'annalistlaw05.BitmapSets', WHERE WHAT IT READS IS OF BULK AT MOST 1048576: true; the input reads as it did. -/
def bitmapSetsUptoRow : OpenClaim := { program := "ytnhgafpoonnamaa", sum := "641c73f1ca18500516e563964cab833a3bd02658491927145b9a72cf417a5508", func := "annalist/annalistlaw05.BitmapSets", spec := "bitmapSets", apart := false, narrowed := true }
def BitmapSetsUptoSaid : Prop := bitmapSetsUptoRow.holds Try.pinned (OpenSpec.upto bitmapSetsSpec)

/-- 'annalistlaw05.BitmapEmpties', WHERE WHAT IT READS IS OF BULK AT MOST 1048576: true; the input reads as it did. -/
def bitmapEmptiesUptoRow : OpenClaim := { program := "ytnhgafpoonnamaa", sum := "641c73f1ca18500516e563964cab833a3bd02658491927145b9a72cf417a5508", func := "annalist/annalistlaw05.BitmapEmpties", spec := "bitmapEmpties", apart := false, narrowed := true }
def BitmapEmptiesUptoSaid : Prop := bitmapEmptiesUptoRow.holds Try.pinned (OpenSpec.upto bitmapEmptiesSpec)

/-- 'annalistlaw05.BitmapLowest', WHERE WHAT IT READS IS OF BULK AT MOST 1048576: true; the input reads as it did. -/
def bitmapLowestUptoRow : OpenClaim := { program := "ytnhgafpoonnamaa", sum := "641c73f1ca18500516e563964cab833a3bd02658491927145b9a72cf417a5508", func := "annalist/annalistlaw05.BitmapLowest", spec := "bitmapLowest", apart := false, narrowed := true }
def BitmapLowestUptoSaid : Prop := bitmapLowestUptoRow.holds Try.pinned (OpenSpec.upto bitmapLowestSpec)

/-- 'annalistlaw05.BitmapOthers', WHERE WHAT IT READS IS OF BULK AT MOST 1048576: true; the input reads as it did. -/
def bitmapOthersUptoRow : OpenClaim := { program := "ytnhgafpoonnamaa", sum := "641c73f1ca18500516e563964cab833a3bd02658491927145b9a72cf417a5508", func := "annalist/annalistlaw05.BitmapOthers", spec := "bitmapOthers", apart := false, narrowed := true }
def BitmapOthersUptoSaid : Prop := bitmapOthersUptoRow.holds Try.pinned (OpenSpec.upto bitmapOthersSpec)

/-- 'annalistlaw05.BitmapEach', WHERE WHAT IT READS IS OF BULK AT MOST 1048576: true; the input reads as it did. -/
def bitmapEachUptoRow : OpenClaim := { program := "ytnhgafpoonnamaa", sum := "641c73f1ca18500516e563964cab833a3bd02658491927145b9a72cf417a5508", func := "annalist/annalistlaw05.BitmapEach", spec := "bitmapEach", unfollowed := true, recurses := true, apart := false, narrowed := true }
def BitmapEachUptoSaid : Prop := bitmapEachUptoRow.holds Try.pinned (OpenSpec.upto bitmapEachSpec)

end Rows
end Go.Proofs.Ytnhgafpoonnamaa
