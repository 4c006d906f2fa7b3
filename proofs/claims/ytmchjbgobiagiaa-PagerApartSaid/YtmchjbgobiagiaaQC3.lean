/- Texts put together by program. -/
import Derived.Test.YtmchjbgobiagiaaQC2
namespace Go.Proofs.Ytmchjbgobiagiaa
open Go Go.Ann
@[go_sem] theorem ty3tyK : tyK Try.prog 3 = .int .i64 := by kernel_rfl
@[go_sem] theorem ty3sizeT : sizeT Try.prog 3 = some 1 := by kernel_rfl
@[go_sem] theorem ty3zeroT : zeroT Try.prog 3 = some (.int .i64 0) := by kernel_rfl
@[go_sem] theorem ty3conc : Program.concrete Try.prog 3 = true := by kernel_rfl
@[go_sem] theorem ty4tyK : tyK Try.prog 4 = .bool := by kernel_rfl
@[go_sem] theorem ty4isBoolT : isBoolT Try.prog 4 = true := by kernel_rfl
@[go_sem] theorem ty4sizeT : sizeT Try.prog 4 = some 1 := by kernel_rfl
@[go_sem] theorem ty4zeroT : zeroT Try.prog 4 = some (.bool false) := by kernel_rfl
@[go_sem] theorem ty4conc : Program.concrete Try.prog 4 = true := by kernel_rfl
@[go_sem] theorem ty5tyK : tyK Try.prog 5 = .int .u8 := by kernel_rfl
@[go_sem] theorem ty5sizeT : sizeT Try.prog 5 = some 1 := by kernel_rfl
@[go_sem] theorem ty5zeroT : zeroT Try.prog 5 = some (.int .u8 0) := by kernel_rfl
@[go_sem] theorem ty5conc : Program.concrete Try.prog 5 = true := by kernel_rfl
@[go_sem] theorem ty9tyK : tyK Try.prog 9 = .str := by kernel_rfl
@[go_sem] theorem ty9isStrT : isStrT Try.prog 9 = true := by kernel_rfl
@[go_sem] theorem ty9sizeT : sizeT Try.prog 9 = some 1 := by kernel_rfl
@[go_sem] theorem ty9zeroT : zeroT Try.prog 9 = some (.string (ofL [])) := by kernel_rfl
@[go_sem] theorem ty9conc : Program.concrete Try.prog 9 = true := by kernel_rfl
@[go_sem] theorem ty22tyK : tyK Try.prog 22 = .int .u64 := by kernel_rfl
@[go_sem] theorem ty22sizeT : sizeT Try.prog 22 = some 1 := by kernel_rfl
@[go_sem] theorem ty22zeroT : zeroT Try.prog 22 = some (.int .u64 0) := by kernel_rfl
@[go_sem] theorem ty22conc : Program.concrete Try.prog 22 = true := by kernel_rfl
@[go_sem] theorem ty23tyK : tyK Try.prog 23 = .ptr := by kernel_rfl
@[go_sem] theorem ty23isPtrT : isPtrT Try.prog 23 = true := by kernel_rfl
@[go_sem] theorem ty23sizeT : sizeT Try.prog 23 = some 1 := by kernel_rfl
@[go_sem] theorem ty23zeroT : zeroT Try.prog 23 = some (.pointer none) := by kernel_rfl
@[go_sem] theorem ty23conc : Program.concrete Try.prog 23 = true := by kernel_rfl
@[go_sem] theorem ty24tyK : tyK Try.prog 24 = .ptr := by kernel_rfl
@[go_sem] theorem ty24isPtrT : isPtrT Try.prog 24 = true := by kernel_rfl
@[go_sem] theorem ty24sizeT : sizeT Try.prog 24 = some 1 := by kernel_rfl
@[go_sem] theorem ty24zeroT : zeroT Try.prog 24 = some (.pointer none) := by kernel_rfl
@[go_sem] theorem ty24conc : Program.concrete Try.prog 24 = true := by kernel_rfl
@[go_sem] theorem ty25tyK : tyK Try.prog 25 = .ptr := by kernel_rfl
@[go_sem] theorem ty25isPtrT : isPtrT Try.prog 25 = true := by kernel_rfl
@[go_sem] theorem ty25sizeT : sizeT Try.prog 25 = some 1 := by kernel_rfl
@[go_sem] theorem ty25zeroT : zeroT Try.prog 25 = some (.pointer none) := by kernel_rfl
@[go_sem] theorem ty25conc : Program.concrete Try.prog 25 = true := by kernel_rfl
@[go_sem] theorem ty28tyK : tyK Try.prog 28 = .int .i64 := by kernel_rfl
@[go_sem] theorem ty28sizeT : sizeT Try.prog 28 = some 1 := by kernel_rfl
@[go_sem] theorem ty28zeroT : zeroT Try.prog 28 = some (.int .i64 0) := by kernel_rfl
@[go_sem] theorem ty28conc : Program.concrete Try.prog 28 = true := by kernel_rfl
@[go_sem] theorem ty36tyK : tyK Try.prog 36 = .slice false 9 := by kernel_rfl
@[go_sem] theorem ty36isSliceT : isSliceT Try.prog 36 = true := by kernel_rfl
@[go_sem] theorem ty36sliI : sliI Try.prog 36 = some 1 := by kernel_rfl
@[go_sem] theorem ty36mkI : mkI Try.prog 36 = some (9, 1, 16, (.string (ofL []))) := by kernel_rfl
@[go_sem] theorem ty36sizeT : sizeT Try.prog 36 = some 1 := by kernel_rfl
@[go_sem] theorem ty36zeroT : zeroT Try.prog 36 = some (.slice none 0 0) := by kernel_rfl
@[go_sem] theorem ty36conc : Program.concrete Try.prog 36 = true := by kernel_rfl
@[go_sem] theorem ty37tyK : tyK Try.prog 37 = .slice false 22 := by kernel_rfl
@[go_sem] theorem ty37isSliceT : isSliceT Try.prog 37 = true := by kernel_rfl
@[go_sem] theorem ty37sliI : sliI Try.prog 37 = some 1 := by kernel_rfl
@[go_sem] theorem ty37mkI : mkI Try.prog 37 = some (22, 1, 8, (.int .u64 0)) := by kernel_rfl
@[go_sem] theorem ty37sizeT : sizeT Try.prog 37 = some 1 := by kernel_rfl
@[go_sem] theorem ty37zeroT : zeroT Try.prog 37 = some (.slice none 0 0) := by kernel_rfl
@[go_sem] theorem ty37conc : Program.concrete Try.prog 37 = true := by kernel_rfl
@[go_sem] theorem ty38tyK : tyK Try.prog 38 = .slice false 3 := by kernel_rfl
@[go_sem] theorem ty38isSliceT : isSliceT Try.prog 38 = true := by kernel_rfl
@[go_sem] theorem ty38sliI : sliI Try.prog 38 = some 1 := by kernel_rfl
@[go_sem] theorem ty38mkI : mkI Try.prog 38 = some (3, 1, 8, (.int .i64 0)) := by kernel_rfl
@[go_sem] theorem ty38sizeT : sizeT Try.prog 38 = some 1 := by kernel_rfl
@[go_sem] theorem ty38zeroT : zeroT Try.prog 38 = some (.slice none 0 0) := by kernel_rfl
@[go_sem] theorem ty38conc : Program.concrete Try.prog 38 = true := by kernel_rfl
@[go_sem] theorem ty40tyK : tyK Try.prog 40 = .map := by kernel_rfl
@[go_sem] theorem ty40isMapT : isMapT Try.prog 40 = true := by kernel_rfl
@[go_sem] theorem ty40sizeT : sizeT Try.prog 40 = some 1 := by kernel_rfl
@[go_sem] theorem ty40zeroT : zeroT Try.prog 40 = some (.map none) := by kernel_rfl
@[go_sem] theorem ty40conc : Program.concrete Try.prog 40 = true := by kernel_rfl
@[go_sem] theorem ty48tyK : tyK Try.prog 48 = .slice false 54 := by kernel_rfl
@[go_sem] theorem ty48isSliceT : isSliceT Try.prog 48 = true := by kernel_rfl
@[go_sem] theorem ty48sliI : sliI Try.prog 48 = some 2 := by kernel_rfl
@[go_sem] theorem ty48mkI : mkI Try.prog 48 = some (54, 2, 24, (.agg #[(.int .i64 0), (.string (ofL []))])) := by kernel_rfl
@[go_sem] theorem ty48sizeT : sizeT Try.prog 48 = some 1 := by kernel_rfl
@[go_sem] theorem ty48zeroT : zeroT Try.prog 48 = some (.slice none 0 0) := by kernel_rfl
@[go_sem] theorem ty48conc : Program.concrete Try.prog 48 = true := by kernel_rfl
@[go_sem] theorem ty54tyK : tyK Try.prog 54 = .agg 2 := by kernel_rfl
@[go_sem] theorem ty54sizeT : sizeT Try.prog 54 = some 2 := by kernel_rfl
@[go_sem] theorem ty54zeroT : zeroT Try.prog 54 = some (.agg #[(.int .i64 0), (.string (ofL []))]) := by kernel_rfl
@[go_sem] theorem ty54conc : Program.concrete Try.prog 54 = true := by kernel_rfl
@[go_sem] theorem ty54plc : plcT Try.prog 54 = some [(0, 1), (1, 1)] := by kernel_rfl
@[go_sem] theorem ty54flat : flatT Try.prog 54 = some [.int, .str] := by kernel_rfl
@[go_sem] theorem ty54fld0 : fldI Try.prog 54 0 = some (0, 1, false) := by kernel_rfl
@[go_sem] theorem ty54fld1 : fldI Try.prog 54 1 = some (1, 1, false) := by kernel_rfl
@[go_sem] theorem ty57tyK : tyK Try.prog 57 = .slice false 61 := by kernel_rfl
@[go_sem] theorem ty57isSliceT : isSliceT Try.prog 57 = true := by kernel_rfl
@[go_sem] theorem ty57sliI : sliI Try.prog 57 = some 4 := by kernel_rfl
@[go_sem] theorem ty57mkI : mkI Try.prog 57 = some (61, 4, 32, (.agg #[(.int .i64 0), (.int .u64 0), (.int .i64 0), (.int .i64 0)])) := by kernel_rfl
@[go_sem] theorem ty57sizeT : sizeT Try.prog 57 = some 1 := by kernel_rfl
@[go_sem] theorem ty57zeroT : zeroT Try.prog 57 = some (.slice none 0 0) := by kernel_rfl
@[go_sem] theorem ty57conc : Program.concrete Try.prog 57 = true := by kernel_rfl
@[go_sem] theorem ty59tyK : tyK Try.prog 59 = .int .u64 := by kernel_rfl
@[go_sem] theorem ty59sizeT : sizeT Try.prog 59 = some 1 := by kernel_rfl
@[go_sem] theorem ty59zeroT : zeroT Try.prog 59 = some (.int .u64 0) := by kernel_rfl
@[go_sem] theorem ty59conc : Program.concrete Try.prog 59 = true := by kernel_rfl
@[go_sem] theorem ty61tyK : tyK Try.prog 61 = .agg 4 := by kernel_rfl
@[go_sem] theorem ty61sizeT : sizeT Try.prog 61 = some 4 := by kernel_rfl
@[go_sem] theorem ty61zeroT : zeroT Try.prog 61 = some (.agg #[(.int .i64 0), (.int .u64 0), (.int .i64 0), (.int .i64 0)]) := by kernel_rfl
@[go_sem] theorem ty61conc : Program.concrete Try.prog 61 = true := by kernel_rfl
@[go_sem] theorem ty61plc : plcT Try.prog 61 = some [(0, 1), (1, 1), (2, 1), (3, 1)] := by kernel_rfl
@[go_sem] theorem ty61flat : flatT Try.prog 61 = some [.int, .int, .int, .int] := by kernel_rfl
@[go_sem] theorem ty61fld0 : fldI Try.prog 61 0 = some (0, 1, false) := by kernel_rfl
@[go_sem] theorem ty61fld1 : fldI Try.prog 61 1 = some (1, 1, false) := by kernel_rfl
@[go_sem] theorem ty61fld2 : fldI Try.prog 61 2 = some (2, 1, false) := by kernel_rfl
@[go_sem] theorem ty61fld3 : fldI Try.prog 61 3 = some (3, 1, false) := by kernel_rfl
@[go_sem] theorem ty73tyK : tyK Try.prog 73 = .agg 4 := by kernel_rfl
@[go_sem] theorem ty73sizeT : sizeT Try.prog 73 = some 4 := by kernel_rfl
@[go_sem] theorem ty73zeroT : zeroT Try.prog 73 = some (.agg #[(.int .u64 0), (.int .i64 0), (.int .i64 0), (.int .i64 0)]) := by kernel_rfl
@[go_sem] theorem ty73conc : Program.concrete Try.prog 73 = true := by kernel_rfl
@[go_sem] theorem ty73plc : plcT Try.prog 73 = some [(0, 1), (1, 1), (2, 1), (3, 1)] := by kernel_rfl
@[go_sem] theorem ty73flat : flatT Try.prog 73 = some [.int, .int, .int, .int] := by kernel_rfl
@[go_sem] theorem ty73fld0 : fldI Try.prog 73 0 = some (0, 1, false) := by kernel_rfl
@[go_sem] theorem ty73fld1 : fldI Try.prog 73 1 = some (1, 1, false) := by kernel_rfl
@[go_sem] theorem ty73fld2 : fldI Try.prog 73 2 = some (2, 1, false) := by kernel_rfl
@[go_sem] theorem ty73fld3 : fldI Try.prog 73 3 = some (3, 1, false) := by kernel_rfl
@[go_sem] theorem ty74tyK : tyK Try.prog 74 = .map := by kernel_rfl
@[go_sem] theorem ty74isMapT : isMapT Try.prog 74 = true := by kernel_rfl
@[go_sem] theorem ty74sizeT : sizeT Try.prog 74 = some 1 := by kernel_rfl
@[go_sem] theorem ty74zeroT : zeroT Try.prog 74 = some (.map none) := by kernel_rfl
@[go_sem] theorem ty74conc : Program.concrete Try.prog 74 = true := by kernel_rfl
@[go_sem] theorem ty76tyK : tyK Try.prog 76 = .agg 7 := by kernel_rfl
@[go_sem] theorem ty76sizeT : sizeT Try.prog 76 = some 7 := by kernel_rfl
@[go_sem] theorem ty76zeroT : zeroT Try.prog 76 = some (.agg #[(.pointer none), (.int .u64 0), (.int .i64 0), (.int .i64 0), (.int .i64 0), (.map none), (.bool false)]) := by kernel_rfl
@[go_sem] theorem ty76conc : Program.concrete Try.prog 76 = true := by kernel_rfl
@[go_sem] theorem ty76plc : plcT Try.prog 76 = some [(0, 1), (1, 4), (5, 1), (6, 1)] := by kernel_rfl
@[go_sem] theorem ty76fld0 : fldI Try.prog 76 0 = some (0, 1, false) := by kernel_rfl
@[go_sem] theorem ty76fld1 : fldI Try.prog 76 1 = some (1, 4, true) := by kernel_rfl
@[go_sem] theorem ty76fld2 : fldI Try.prog 76 2 = some (5, 1, false) := by kernel_rfl
@[go_sem] theorem ty76fld3 : fldI Try.prog 76 3 = some (6, 1, false) := by kernel_rfl
@[go_sem] theorem ty84tyK : tyK Try.prog 84 = .ptr := by kernel_rfl
@[go_sem] theorem ty84isPtrT : isPtrT Try.prog 84 = true := by kernel_rfl
@[go_sem] theorem ty84sizeT : sizeT Try.prog 84 = some 1 := by kernel_rfl
@[go_sem] theorem ty84zeroT : zeroT Try.prog 84 = some (.pointer none) := by kernel_rfl
@[go_sem] theorem ty84conc : Program.concrete Try.prog 84 = true := by kernel_rfl
@[go_sem] theorem ty86tyK : tyK Try.prog 86 = .agg 2 := by kernel_rfl
@[go_sem] theorem ty86sizeT : sizeT Try.prog 86 = some 2 := by kernel_rfl
@[go_sem] theorem ty86zeroT : zeroT Try.prog 86 = some (.agg #[(.pointer none), (.pointer none)]) := by kernel_rfl
@[go_sem] theorem ty86conc : Program.concrete Try.prog 86 = true := by kernel_rfl
@[go_sem] theorem ty86plc : plcT Try.prog 86 = some [(0, 1), (1, 1)] := by kernel_rfl
@[go_sem] theorem ty86fld0 : fldI Try.prog 86 0 = some (0, 1, false) := by kernel_rfl
@[go_sem] theorem ty86fld1 : fldI Try.prog 86 1 = some (1, 1, false) := by kernel_rfl
@[go_sem] theorem ty95tyK : tyK Try.prog 95 = .slice true 5 := by kernel_rfl
@[go_sem] theorem ty95isSliceT : isSliceT Try.prog 95 = true := by kernel_rfl
@[go_sem] theorem ty95sliI : sliI Try.prog 95 = some 1 := by kernel_rfl
@[go_sem] theorem ty95mkI : mkI Try.prog 95 = some (5, 1, 1, (.int .u8 0)) := by kernel_rfl
@[go_sem] theorem ty95sizeT : sizeT Try.prog 95 = some 1 := by kernel_rfl
@[go_sem] theorem ty95zeroT : zeroT Try.prog 95 = some (.slice none 0 0) := by kernel_rfl
@[go_sem] theorem ty95conc : Program.concrete Try.prog 95 = true := by kernel_rfl
@[go_sem] theorem ty102tyK : tyK Try.prog 102 = .slice false 106 := by kernel_rfl
@[go_sem] theorem ty102isSliceT : isSliceT Try.prog 102 = true := by kernel_rfl
@[go_sem] theorem ty102sliI : sliI Try.prog 102 = some 2 := by kernel_rfl
@[go_sem] theorem ty102mkI : mkI Try.prog 102 = some (106, 2, 24, (.agg #[(.int .i64 0), (.string (ofL []))])) := by kernel_rfl
@[go_sem] theorem ty102sizeT : sizeT Try.prog 102 = some 1 := by kernel_rfl
@[go_sem] theorem ty102zeroT : zeroT Try.prog 102 = some (.slice none 0 0) := by kernel_rfl
@[go_sem] theorem ty102conc : Program.concrete Try.prog 102 = true := by kernel_rfl
@[go_sem] theorem ty104tyK : tyK Try.prog 104 = .agg 5 := by kernel_rfl
@[go_sem] theorem ty104sizeT : sizeT Try.prog 104 = some 5 := by kernel_rfl
@[go_sem] theorem ty104zeroT : zeroT Try.prog 104 = some (.agg #[(.slice none 0 0), (.slice none 0 0), (.int .i64 0), (.bool false), (.string (ofL []))]) := by kernel_rfl
@[go_sem] theorem ty104conc : Program.concrete Try.prog 104 = true := by kernel_rfl
@[go_sem] theorem ty104plc : plcT Try.prog 104 = some [(0, 1), (1, 1), (2, 1), (3, 1), (4, 1)] := by kernel_rfl
@[go_sem] theorem ty104fld0 : fldI Try.prog 104 0 = some (0, 1, false) := by kernel_rfl
@[go_sem] theorem ty104fld1 : fldI Try.prog 104 1 = some (1, 1, false) := by kernel_rfl
@[go_sem] theorem ty104fld2 : fldI Try.prog 104 2 = some (2, 1, false) := by kernel_rfl
@[go_sem] theorem ty104fld3 : fldI Try.prog 104 3 = some (3, 1, false) := by kernel_rfl
@[go_sem] theorem ty104fld4 : fldI Try.prog 104 4 = some (4, 1, false) := by kernel_rfl
@[go_sem] theorem ty106tyK : tyK Try.prog 106 = .agg 2 := by kernel_rfl
@[go_sem] theorem ty106sizeT : sizeT Try.prog 106 = some 2 := by kernel_rfl
@[go_sem] theorem ty106zeroT : zeroT Try.prog 106 = some (.agg #[(.int .i64 0), (.string (ofL []))]) := by kernel_rfl
@[go_sem] theorem ty106conc : Program.concrete Try.prog 106 = true := by kernel_rfl
@[go_sem] theorem ty106plc : plcT Try.prog 106 = some [(0, 1), (1, 1)] := by kernel_rfl
@[go_sem] theorem ty106flat : flatT Try.prog 106 = some [.int, .str] := by kernel_rfl
@[go_sem] theorem ty106fld0 : fldI Try.prog 106 0 = some (0, 1, false) := by kernel_rfl
@[go_sem] theorem ty106fld1 : fldI Try.prog 106 1 = some (1, 1, false) := by kernel_rfl
@[go_sem] theorem ty133tyK : tyK Try.prog 133 = .slice false 138 := by kernel_rfl
@[go_sem] theorem ty133isSliceT : isSliceT Try.prog 133 = true := by kernel_rfl
@[go_sem] theorem ty133sliI : sliI Try.prog 133 = some 3 := by kernel_rfl
@[go_sem] theorem ty133mkI : mkI Try.prog 133 = some (138, 3, 32, (.agg #[(.int .i64 0), (.string (ofL [])), (.int .i64 0)])) := by kernel_rfl
@[go_sem] theorem ty133sizeT : sizeT Try.prog 133 = some 1 := by kernel_rfl
@[go_sem] theorem ty133zeroT : zeroT Try.prog 133 = some (.slice none 0 0) := by kernel_rfl
@[go_sem] theorem ty133conc : Program.concrete Try.prog 133 = true := by kernel_rfl
@[go_sem] theorem ty135tyK : tyK Try.prog 135 = .agg 2 := by kernel_rfl
@[go_sem] theorem ty135sizeT : sizeT Try.prog 135 = some 2 := by kernel_rfl
@[go_sem] theorem ty135zeroT : zeroT Try.prog 135 = some (.agg #[(.int .i64 0), (.slice none 0 0)]) := by kernel_rfl
@[go_sem] theorem ty135conc : Program.concrete Try.prog 135 = true := by kernel_rfl
@[go_sem] theorem ty135plc : plcT Try.prog 135 = some [(0, 1), (1, 1)] := by kernel_rfl
@[go_sem] theorem ty135fld0 : fldI Try.prog 135 0 = some (0, 1, false) := by kernel_rfl
@[go_sem] theorem ty135fld1 : fldI Try.prog 135 1 = some (1, 1, false) := by kernel_rfl
@[go_sem] theorem ty138tyK : tyK Try.prog 138 = .agg 3 := by kernel_rfl
@[go_sem] theorem ty138sizeT : sizeT Try.prog 138 = some 3 := by kernel_rfl
@[go_sem] theorem ty138zeroT : zeroT Try.prog 138 = some (.agg #[(.int .i64 0), (.string (ofL [])), (.int .i64 0)]) := by kernel_rfl
@[go_sem] theorem ty138conc : Program.concrete Try.prog 138 = true := by kernel_rfl
@[go_sem] theorem ty138plc : plcT Try.prog 138 = some [(0, 1), (1, 1), (2, 1)] := by kernel_rfl
@[go_sem] theorem ty138flat : flatT Try.prog 138 = some [.int, .str, .int] := by kernel_rfl
@[go_sem] theorem ty138fld0 : fldI Try.prog 138 0 = some (0, 1, false) := by kernel_rfl
@[go_sem] theorem ty138fld1 : fldI Try.prog 138 1 = some (1, 1, false) := by kernel_rfl
@[go_sem] theorem ty138fld2 : fldI Try.prog 138 2 = some (2, 1, false) := by kernel_rfl
noncomputable def c3code : Code := match Try.f3.body with | some c => c | none => .skip
noncomputable def c3S0 (_ : Unit) : Cmd := (.cond (.tmp 34)
  (.seq (.ops [
  ⟨some 4, .assign (.const (.bool false)), 4, none⟩] [4])
  .ret)
  (.skip [1, 5, 8]))
noncomputable def c3S1 (_ : Unit) : Cmd := (.cond (.tmp 60)
  (.seq (.ops [
  ⟨some 4, .assign (.const (.bool false)), 4, none⟩] [4])
  .ret)
  (.skip [1, 5, 8, 9]))
noncomputable def c3S2 (_ : Unit) : Cmd := (.seq (.ops [
 ⟨some 45, .move (.tmp 11), 28, none⟩,
 ⟨some 46, .binOp .neq 28 (.tmp 45) (.const (.int .i64 0)) 28, 4, none⟩,
 ⟨some 47, .move (.tmp 46), 4, none⟩,
 ⟨some 48, .move (.tmp 10), 3, (some (47, false))⟩,
 ⟨some 49, .move (.tmp 9), 3, (some (47, false))⟩,
 ⟨some 50, .binOp .neq 3 (.tmp 48) (.tmp 49) 3, 4, (some (47, false))⟩,
 ⟨some 51, .pick (.tmp 47) (.const (.bool true)) (.tmp 50), 4, none⟩,
 ⟨some 52, .move (.tmp 51), 4, none⟩,
 ⟨some 53, .move (.tmp 8), 25, (some (52, false))⟩,
 ⟨some 54, .call ⟨.value (.func 14), #[(.tmp 53)], #[25]⟩, 3, (some (52, false))⟩,
 ⟨some 55, .move (.tmp 5), 3, (some (52, false))⟩,
 ⟨some 56, .binOp .sub 3 (.tmp 55) (.const (.int .i64 1)) 3, 3, (some (52, false))⟩,
 ⟨some 57, .move (.tmp 9), 3, (some (52, false))⟩,
 ⟨some 58, .binOp .sub 3 (.tmp 56) (.tmp 57) 3, 3, (some (52, false))⟩,
 ⟨some 59, .binOp .neq 3 (.tmp 54) (.tmp 58) 3, 4, (some (52, false))⟩,
 ⟨some 60, .pick (.tmp 52) (.const (.bool true)) (.tmp 59), 4, none⟩] [1, 5, 8, 9, 60]) (sg c3S1))
noncomputable def c3S3 (_ : Unit) : Cmd := (.ops [
 ⟨some 38, .move (.tmp 9), 3, none⟩,
 ⟨some 39, .binOp .add 3 (.tmp 38) (.const (.int .i64 1)) 3, 3, none⟩,
 ⟨some 9, .assign (.tmp 39), 3, none⟩] [1, 5, 8, 9])
noncomputable def c3S4 (_ : Unit) : Cmd := (.seq (.block 1 (.seq (.ops [
 ⟨some 41, .move (.tmp 8), 25, none⟩,
 ⟨some 42, .call ⟨.value (.func 13), #[(.tmp 41)], #[25]⟩, 30, none⟩,
 ⟨some 40, .move (.tmp 42), 30, none⟩,
 ⟨some 43, .extract (.tmp 40) 0, 3, none⟩,
 ⟨some 44, .extract (.tmp 40) 1, 28, none⟩,
 ⟨some 10, .assign (.tmp 43), 3, none⟩,
 ⟨some 11, .assign (.tmp 44), 28, none⟩] [1, 5, 8, 9, 10, 11]) (sg c3S2))) (sg c3S3))
noncomputable def c3L0 (_ : Unit) : Cmd := (.seq (.seq (.ops [
 ⟨some 35, .move (.tmp 9), 3, none⟩,
 ⟨some 36, .move (.tmp 5), 3, none⟩,
 ⟨some 37, .binOp .lss 3 (.tmp 35) (.tmp 36) 3, 4, none⟩] [1, 5, 8, 9, 37])
 (.cond (.tmp 37)
  (.skip [1, 5, 8, 9])
  (.exit 0 [1, 5, 8]))) (sg c3S4))
noncomputable def c3S5 (_ : Unit) : Cmd := .ret
noncomputable def c3S6 (_ : Unit) : Cmd := (.seq (.ops [
 ⟨some 81, .move (.tmp 13), 28, none⟩,
 ⟨some 82, .binOp .eql 28 (.tmp 81) (.const (.int .i64 13)) 28, 4, none⟩,
 ⟨some 83, .move (.tmp 82), 4, none⟩,
 ⟨some 84, .move (.tmp 15), 28, (some (83, true))⟩,
 ⟨some 85, .binOp .eql 28 (.tmp 84) (.const (.int .i64 0)) 28, 4, (some (83, true))⟩,
 ⟨some 86, .pick (.tmp 83) (.tmp 85) (.const (.bool false)), 4, none⟩,
 ⟨some 87, .move (.tmp 86), 4, none⟩,
 ⟨some 88, .move (.tmp 17), 28, (some (87, true))⟩,
 ⟨some 89, .move (.tmp 15), 28, (some (87, true))⟩,
 ⟨some 90, .binOp .eql 28 (.tmp 88) (.tmp 89) 28, 4, (some (87, true))⟩,
 ⟨some 91, .pick (.tmp 87) (.tmp 90) (.const (.bool false)), 4, none⟩,
 ⟨some 92, .move (.tmp 91), 4, none⟩,
 ⟨some 93, .move (.tmp 16), 3, (some (92, true))⟩,
 ⟨some 94, .move (.tmp 14), 3, (some (92, true))⟩,
 ⟨some 95, .binOp .eql 3 (.tmp 93) (.tmp 94) 3, 4, (some (92, true))⟩,
 ⟨some 96, .pick (.tmp 92) (.tmp 95) (.const (.bool false)), 4, none⟩,
 ⟨some 97, .move (.tmp 96), 4, none⟩,
 ⟨some 98, .call ⟨.value (.func 16), #[], #[]⟩, 4, (some (97, true))⟩,
 ⟨some 99, .pick (.tmp 97) (.tmp 98) (.const (.bool false)), 4, none⟩,
 ⟨some 4, .assign (.tmp 99), 4, none⟩] [4]) (sg c3S5))
noncomputable def c3S7 (_ : Unit) : Cmd := (.seq (.ops [
 ⟨some 77, .move (.tmp 8), 25, none⟩,
 ⟨some 78, .call ⟨.value (.func 13), #[(.tmp 77)], #[25]⟩, 30, none⟩,
 ⟨some 76, .move (.tmp 78), 30, none⟩,
 ⟨some 79, .extract (.tmp 76) 0, 3, none⟩,
 ⟨some 80, .extract (.tmp 76) 1, 28, none⟩,
 ⟨some 16, .assign (.tmp 79), 3, none⟩,
 ⟨some 17, .assign (.tmp 80), 28, none⟩] [13, 14, 15, 16, 17]) (sg c3S6))
noncomputable def c3S8 (_ : Unit) : Cmd := (.seq (.ops [
 ⟨some 66, .move (.tmp 1), 22, none⟩,
 ⟨some 67, .move (.tmp 5), 3, none⟩,
 ⟨some 68, .binOp .sub 3 (.tmp 67) (.const (.int .i64 2)) 3, 3, none⟩,
 ⟨some 69, .convert 3 22 (.tmp 68), 22, none⟩,
 ⟨some 70, .binOp .rem 22 (.tmp 66) (.tmp 69) 22, 22, none⟩,
 ⟨some 71, .convert 22 3 (.tmp 70), 3, none⟩,
 ⟨some 72, .binOp .add 3 (.const (.int .i64 2)) (.tmp 71) 3, 3, none⟩,
 ⟨some 14, .assign (.tmp 72), 3, none⟩] [8, 13, 14])
 (.seq (.ops [
 ⟨some 73, .move (.tmp 8), 25, none⟩,
 ⟨some 74, .move (.tmp 14), 3, none⟩,
 ⟨some 75, .call ⟨.value (.func 15), #[(.tmp 73), (.tmp 74)], #[25, 3]⟩, 28, none⟩,
 ⟨some 15, .assign (.tmp 75), 28, none⟩] [8, 13, 14, 15]) (sg c3S7)))
noncomputable def c3S9 (_ : Unit) : Cmd := (.seq (.ops [
 ⟨some 62, .move (.tmp 8), 25, none⟩,
 ⟨some 63, .call ⟨.value (.func 13), #[(.tmp 62)], #[25]⟩, 30, none⟩,
 ⟨some 61, .move (.tmp 63), 30, none⟩,
 ⟨some 64, .extract (.tmp 61) 0, 3, none⟩,
 ⟨some 65, .extract (.tmp 61) 1, 28, none⟩,
 ⟨some 12, .assign (.tmp 64), 3, none⟩,
 ⟨some 13, .assign (.tmp 65), 28, none⟩] [1, 5, 8, 13]) (sg c3S8))
noncomputable def c3S10 (_ : Unit) : Cmd := (.seq (.seq (.ops [
 ⟨some 9, .assign (.const (.int .i64 2)), 3, none⟩] [1, 5, 8, 9])
 (.block 0 (.loop (sg c3L0)))) (sg c3S9))
noncomputable def c3S11 (_ : Unit) : Cmd := (.seq (.seq (.ops [
 ⟨some 28, .move (.tmp 8), 25, none⟩,
 ⟨some 29, .binOp .eql 25 (.tmp 28) (.const (.pointer none)) 25, 4, none⟩,
 ⟨some 30, .move (.tmp 29), 4, none⟩,
 ⟨some 31, .move (.tmp 8), 25, (some (30, false))⟩,
 ⟨some 32, .call ⟨.value (.func 12), #[(.tmp 31)], #[25]⟩, 28, (some (30, false))⟩,
 ⟨some 33, .binOp .neq 28 (.tmp 32) (.const (.int .i64 0)) 28, 4, (some (30, false))⟩,
 ⟨some 34, .pick (.tmp 30) (.const (.bool true)) (.tmp 33), 4, none⟩] [1, 5, 8, 34]) (sg c3S0)) (sg c3S10))
noncomputable def c3 : Cmd := (.seq (.ops [
 ⟨some 4, .assign (.const (.bool false)), 4, none⟩] [0, 1])
 (.seq (.ops [
 ⟨some 18, .move (.tmp 0), 5, none⟩,
 ⟨some 19, .binOp .rem 5 (.tmp 18) (.const (.int .u8 20)) 5, 5, none⟩,
 ⟨some 20, .convert 5 3 (.tmp 19), 3, none⟩,
 ⟨some 21, .binOp .add 3 (.tmp 20) (.const (.int .i64 3)) 3, 3, none⟩,
 ⟨some 5, .assign (.tmp 21), 3, none⟩] [1, 5])
 (.seq (.ops [
 ⟨some 23, .move (.tmp 5), 3, none⟩,
 ⟨some 24, .call ⟨.value (.func 11), #[(.tmp 23)], #[3]⟩, 26, none⟩,
 ⟨some 22, .move (.tmp 24), 26, none⟩,
 ⟨some 25, .extract (.tmp 22) 0, 23, none⟩,
 ⟨some 26, .extract (.tmp 22) 1, 24, none⟩,
 ⟨some 27, .extract (.tmp 22) 2, 25, none⟩,
 ⟨some 6, .assign (.tmp 25), 23, none⟩,
 ⟨some 7, .assign (.tmp 26), 24, none⟩,
 ⟨some 8, .assign (.tmp 27), 25, none⟩] [1, 5, 8]) (sg c3S11))))
@[go_sem] theorem go3 : goFunc Try.prog 3 = true := by kernel_rfl
noncomputable def c4code : Code := match Try.f4.body with | some c => c | none => .skip
noncomputable def c4S0 (_ : Unit) : Cmd := (.cond (.tmp 30)
  (.seq (.ops [
  ⟨some 4, .assign (.const (.bool false)), 4, none⟩] [4])
  .ret)
  (.skip [0, 1, 7]))
noncomputable def c4S1 (_ : Unit) : Cmd := .ret
noncomputable def c4S2 (_ : Unit) : Cmd := (.ops [
 ⟨some 67, .move (.tmp 12), 3, none⟩,
 ⟨some 68, .binOp .add 3 (.tmp 67) (.const (.int .i64 1)) 3, 3, none⟩,
 ⟨some 12, .assign (.tmp 68), 3, none⟩] [0, 1, 7, 8, 9, 10, 12])
noncomputable def c4S3 (_ : Unit) : Cmd := (.seq (.block 3 (.seq (.ops [
 ⟨some 69, .move (.tmp 8), 38, none⟩,
 ⟨some 70, .move (.tmp 12), 3, none⟩,
 ⟨some 71, .indexAddr 38 (.tmp 69) (.tmp 70), 0, none⟩,
 ⟨some 72, .load 3 (.tmp 71), 3, none⟩,
 ⟨some 73, .move (.tmp 10), 3, none⟩,
 ⟨some 74, .binOp .eql 3 (.tmp 72) (.tmp 73) 3, 4, none⟩] [0, 1, 7, 8, 9, 10, 12, 74])
 (.cond (.tmp 74)
  (.seq (.ops [
  ⟨some 4, .assign (.const (.bool false)), 4, none⟩] [4])
  .ret)
  (.skip [0, 1, 7, 8, 9, 10, 12])))) (sg c4S2))
noncomputable def c4L0 (_ : Unit) : Cmd := (.seq (.seq (.ops [
 ⟨some 63, .move (.tmp 12), 3, none⟩,
 ⟨some 64, .move (.tmp 8), 38, none⟩,
 ⟨some 65, .call ⟨.builtin .len, #[(.tmp 64)], #[38]⟩, 3, none⟩,
 ⟨some 66, .binOp .lss 3 (.tmp 63) (.tmp 65) 3, 4, none⟩] [0, 1, 7, 8, 9, 10, 12, 66])
 (.cond (.tmp 66)
  (.skip [0, 1, 7, 8, 9, 10, 12])
  (.exit 2 [0, 1, 7, 8, 9, 10]))) (sg c4S3))
noncomputable def c4S4 (_ : Unit) : Cmd := (.cond (.tmp 86)
  (.seq (.ops [
  ⟨some 4, .assign (.const (.bool false)), 4, none⟩] [4])
  .ret)
  (.skip [0, 1, 7, 8, 9]))
noncomputable def c4S5 (_ : Unit) : Cmd := (.seq (.ops [
 ⟨some 79, .move (.tmp 7), 25, none⟩,
 ⟨some 80, .move (.tmp 10), 3, none⟩,
 ⟨some 81, .move (.tmp 0), 36, none⟩,
 ⟨some 82, .move (.tmp 9), 3, none⟩,
 ⟨some 83, .indexAddr 36 (.tmp 81) (.tmp 82), 0, none⟩,
 ⟨some 84, .load 9 (.tmp 83), 9, none⟩,
 ⟨some 85, .call ⟨.value (.func 17), #[(.tmp 79), (.tmp 80), (.tmp 84)], #[25, 3, 9]⟩, 28, none⟩,
 ⟨some 86, .binOp .neq 28 (.tmp 85) (.const (.int .i64 0)) 28, 4, none⟩] [0, 1, 7, 8, 9, 86]) (sg c4S4))
noncomputable def c4S6 (_ : Unit) : Cmd := (.seq (.ops [
 ⟨some 75, .move (.tmp 8), 38, none⟩,
 ⟨some 76, .move (.tmp 10), 3, none⟩,
 ⟨some 77, .buildSlice 38 1 #[(0, (.tmp 76))], 38, none⟩,
 ⟨some 78, .call ⟨.builtin .append, #[(.tmp 75), (.tmp 77)], #[38, 38]⟩, 38, none⟩,
 ⟨some 8, .assign (.tmp 78), 38, none⟩] [0, 1, 7, 8, 9, 10]) (sg c4S5))
noncomputable def c4S7 (_ : Unit) : Cmd := (.seq (.seq (.ops [
 ⟨some 12, .assign (.const (.int .i64 0)), 3, none⟩] [0, 1, 7, 8, 9, 10, 12])
 (.block 2 (.loop (sg c4L0)))) (sg c4S6))
noncomputable def c4S8 (_ : Unit) : Cmd := (.seq (.seq (.ops [
 ⟨some 53, .move (.tmp 11), 28, none⟩,
 ⟨some 54, .binOp .neq 28 (.tmp 53) (.const (.int .i64 0)) 28, 4, none⟩,
 ⟨some 55, .move (.tmp 54), 4, none⟩,
 ⟨some 56, .move (.tmp 10), 3, (some (55, false))⟩,
 ⟨some 57, .binOp .lss 3 (.tmp 56) (.const (.int .i64 2)) 3, 4, (some (55, false))⟩,
 ⟨some 58, .pick (.tmp 55) (.const (.bool true)) (.tmp 57), 4, none⟩,
 ⟨some 59, .move (.tmp 58), 4, none⟩,
 ⟨some 60, .move (.tmp 10), 3, (some (59, false))⟩,
 ⟨some 61, .binOp .geq 3 (.tmp 60) (.const (.int .i64 40)) 3, 4, (some (59, false))⟩,
 ⟨some 62, .pick (.tmp 59) (.const (.bool true)) (.tmp 61), 4, none⟩] [0, 1, 7, 8, 9, 10, 62])
 (.cond (.tmp 62)
  (.seq (.ops [
  ⟨some 4, .assign (.const (.bool false)), 4, none⟩] [4])
  .ret)
  (.skip [0, 1, 7, 8, 9, 10]))) (sg c4S7))
noncomputable def c4S9 (_ : Unit) : Cmd := (.seq (.ops [
 ⟨some 49, .move (.tmp 7), 25, none⟩,
 ⟨some 50, .call ⟨.value (.func 13), #[(.tmp 49)], #[25]⟩, 30, none⟩,
 ⟨some 48, .move (.tmp 50), 30, none⟩,
 ⟨some 51, .extract (.tmp 48) 0, 3, none⟩,
 ⟨some 52, .extract (.tmp 48) 1, 28, none⟩,
 ⟨some 10, .assign (.tmp 51), 3, none⟩,
 ⟨some 11, .assign (.tmp 52), 28, none⟩] [0, 1, 7, 8, 9, 10, 11]) (sg c4S8))
noncomputable def c4S10 (_ : Unit) : Cmd := (.ops [
 ⟨some 39, .move (.tmp 9), 3, none⟩,
 ⟨some 40, .binOp .add 3 (.tmp 39) (.const (.int .i64 1)) 3, 3, none⟩,
 ⟨some 9, .assign (.tmp 40), 3, none⟩] [0, 1, 7, 8, 9])
noncomputable def c4S11 (_ : Unit) : Cmd := (.seq (.block 1 (.seq (.seq (.ops [
 ⟨some 41, .move (.tmp 0), 36, none⟩,
 ⟨some 42, .move (.tmp 9), 3, none⟩,
 ⟨some 43, .indexAddr 36 (.tmp 41) (.tmp 42), 0, none⟩,
 ⟨some 44, .load 9 (.tmp 43), 9, none⟩,
 ⟨some 45, .call ⟨.builtin .len, #[(.tmp 44)], #[9]⟩, 3, none⟩,
 ⟨some 46, .binOp .gtr 3 (.tmp 45) (.const (.int .i64 256)) 3, 4, none⟩] [0, 1, 7, 8, 9, 46])
 (.cond (.tmp 46)
  (.seq (.ops [
  ⟨some 47, .call ⟨.value (.func 16), #[], #[]⟩, 4, none⟩,
  ⟨some 4, .assign (.tmp 47), 4, none⟩] [4]) (sg c4S1))
  (.skip [0, 1, 7, 8, 9]))) (sg c4S9))) (sg c4S10))
noncomputable def c4L1 (_ : Unit) : Cmd := (.seq (.seq (.ops [
 ⟨some 31, .move (.tmp 9), 3, none⟩,
 ⟨some 32, .move (.tmp 0), 36, none⟩,
 ⟨some 33, .call ⟨.builtin .len, #[(.tmp 32)], #[36]⟩, 3, none⟩,
 ⟨some 34, .binOp .lss 3 (.tmp 31) (.tmp 33) 3, 4, none⟩,
 ⟨some 35, .move (.tmp 34), 4, none⟩,
 ⟨some 36, .move (.tmp 9), 3, (some (35, true))⟩,
 ⟨some 37, .binOp .lss 3 (.tmp 36) (.const (.int .i64 38)) 3, 4, (some (35, true))⟩,
 ⟨some 38, .pick (.tmp 35) (.tmp 37) (.const (.bool false)), 4, none⟩] [0, 1, 7, 8, 9, 38])
 (.cond (.tmp 38)
  (.skip [0, 1, 7, 8, 9])
  (.exit 0 [0, 1, 7, 8]))) (sg c4S11))
noncomputable def c4S12 (_ : Unit) : Cmd := (.cond (.tmp 121)
  (.seq (.ops [
  ⟨some 4, .assign (.const (.bool false)), 4, none⟩] [4])
  .ret)
  (.skip [0, 1, 7, 8, 13, 14, 15]))
noncomputable def c4S13 (_ : Unit) : Cmd := (.ops [
 ⟨some 122, .move (.tmp 13), 40, none⟩,
 ⟨some 123, .move (.tmp 15), 3, none⟩,
 ⟨none, .mapUpdate 40 (.tmp 122) (.tmp 123) (.const (.bool true)), 0, none⟩] [0, 1, 7, 8, 13, 14])
noncomputable def c4S14 (_ : Unit) : Cmd := (.ops [
 ⟨some 101, .move (.tmp 14), 3, none⟩,
 ⟨some 102, .binOp .add 3 (.tmp 101) (.const (.int .i64 1)) 3, 3, none⟩,
 ⟨some 14, .assign (.tmp 102), 3, none⟩] [0, 1, 7, 8, 13, 14])
noncomputable def c4S15 (_ : Unit) : Cmd := (.seq (.block 5 (.seq (.ops [
 ⟨some 103, .move (.tmp 8), 38, none⟩,
 ⟨some 104, .move (.tmp 1), 37, none⟩,
 ⟨some 105, .move (.tmp 14), 3, none⟩,
 ⟨some 106, .indexAddr 37 (.tmp 104) (.tmp 105), 0, none⟩,
 ⟨some 107, .load 22 (.tmp 106), 22, none⟩,
 ⟨some 108, .move (.tmp 8), 38, none⟩,
 ⟨some 109, .call ⟨.builtin .len, #[(.tmp 108)], #[38]⟩, 3, none⟩,
 ⟨some 110, .convert 3 22 (.tmp 109), 22, none⟩,
 ⟨some 111, .binOp .rem 22 (.tmp 107) (.tmp 110) 22, 22, none⟩,
 ⟨some 112, .indexAddr 38 (.tmp 103) (.tmp 111), 0, none⟩,
 ⟨some 113, .load 3 (.tmp 112), 3, none⟩,
 ⟨some 15, .assign (.tmp 113), 3, none⟩] [0, 1, 7, 8, 13, 14, 15])
 (.seq (.seq (.draw (drawOps 0 c4code) [0, 1, 7, 8, 13, 14, 15, 121]) (sg c4S12)) (sg c4S13)))) (sg c4S14))
noncomputable def c4L2 (_ : Unit) : Cmd := (.seq (.seq (.ops [
 ⟨some 88, .move (.tmp 14), 3, none⟩,
 ⟨some 89, .move (.tmp 1), 37, none⟩,
 ⟨some 90, .call ⟨.builtin .len, #[(.tmp 89)], #[37]⟩, 3, none⟩,
 ⟨some 91, .binOp .lss 3 (.tmp 88) (.tmp 90) 3, 4, none⟩,
 ⟨some 92, .move (.tmp 91), 4, none⟩,
 ⟨some 93, .move (.tmp 14), 3, (some (92, true))⟩,
 ⟨some 94, .binOp .lss 3 (.tmp 93) (.const (.int .i64 20)) 3, 4, (some (92, true))⟩,
 ⟨some 95, .pick (.tmp 92) (.tmp 94) (.const (.bool false)), 4, none⟩,
 ⟨some 96, .move (.tmp 95), 4, none⟩,
 ⟨some 97, .move (.tmp 8), 38, (some (96, true))⟩,
 ⟨some 98, .call ⟨.builtin .len, #[(.tmp 97)], #[38]⟩, 3, (some (96, true))⟩,
 ⟨some 99, .binOp .gtr 3 (.tmp 98) (.const (.int .i64 0)) 3, 4, (some (96, true))⟩,
 ⟨some 100, .pick (.tmp 96) (.tmp 99) (.const (.bool false)), 4, none⟩] [0, 1, 7, 8, 13, 14, 100])
 (.cond (.tmp 100)
  (.skip [0, 1, 7, 8, 13, 14])
  (.exit 4 [0, 7, 8, 13]))) (sg c4S15))
noncomputable def c4S16 (_ : Unit) : Cmd := (.cond (.tmp 170)
  (.seq (.ops [
  ⟨some 4, .assign (.const (.bool false)), 4, none⟩] [4])
  .ret)
  (.skip [0, 7, 8, 13, 16]))
noncomputable def c4S17 (_ : Unit) : Cmd := (.seq (.ops [
 ⟨some 139, .move (.tmp 13), 40, none⟩,
 ⟨some 140, .move (.tmp 8), 38, none⟩,
 ⟨some 141, .move (.tmp 16), 3, none⟩,
 ⟨some 142, .indexAddr 38 (.tmp 140) (.tmp 141), 0, none⟩,
 ⟨some 143, .load 3 (.tmp 142), 3, none⟩,
 ⟨some 144, .lookup 40 (.tmp 139) (.tmp 143) false, 4, none⟩,
 ⟨some 145, .move (.tmp 144), 4, none⟩,
 ⟨some 146, .move (.tmp 18), 28, (some (145, true))⟩,
 ⟨some 147, .binOp .neq 28 (.tmp 146) (.const (.int .i64 6)) 28, 4, (some (145, true))⟩,
 ⟨some 148, .pick (.tmp 145) (.tmp 147) (.const (.bool false)), 4, none⟩,
 ⟨some 149, .move (.tmp 148), 4, none⟩,
 ⟨some 150, .move (.tmp 13), 40, (some (149, false))⟩,
 ⟨some 151, .move (.tmp 8), 38, (some (149, false))⟩,
 ⟨some 152, .move (.tmp 16), 3, (some (149, false))⟩,
 ⟨some 153, .indexAddr 38 (.tmp 151) (.tmp 152), 0, (some (149, false))⟩,
 ⟨some 154, .load 3 (.tmp 153), 3, (some (149, false))⟩,
 ⟨some 155, .lookup 40 (.tmp 150) (.tmp 154) false, 4, (some (149, false))⟩,
 ⟨some 156, .unOp .not 4 (.tmp 155), 4, (some (149, false))⟩,
 ⟨some 157, .move (.tmp 156), 4, (some (149, false))⟩,
 ⟨some 158, .move (.tmp 18), 28, (some (157, true))⟩,
 ⟨some 159, .binOp .neq 28 (.tmp 158) (.const (.int .i64 0)) 28, 4, (some (157, true))⟩,
 ⟨some 160, .move (.tmp 159), 4, (some (157, true))⟩,
 ⟨some 161, .move (.tmp 17), 9, (some (160, false))⟩,
 ⟨some 162, .move (.tmp 0), 36, (some (160, false))⟩,
 ⟨some 163, .move (.tmp 16), 3, (some (160, false))⟩,
 ⟨some 164, .indexAddr 36 (.tmp 162) (.tmp 163), 0, (some (160, false))⟩,
 ⟨some 165, .load 9 (.tmp 164), 9, (some (160, false))⟩,
 ⟨some 166, .call ⟨.value (.func 19), #[(.tmp 165)], #[9]⟩, 9, (some (160, false))⟩,
 ⟨some 167, .binOp .neq 9 (.tmp 161) (.tmp 166) 9, 4, (some (160, false))⟩,
 ⟨some 168, .pick (.tmp 160) (.const (.bool true)) (.tmp 167), 4, (some (157, true))⟩,
 ⟨some 169, .pick (.tmp 157) (.tmp 168) (.const (.bool false)), 4, (some (149, false))⟩,
 ⟨some 170, .pick (.tmp 149) (.const (.bool true)) (.tmp 169), 4, none⟩] [0, 7, 8, 13, 16, 170]) (sg c4S16))
noncomputable def c4S18 (_ : Unit) : Cmd := (.ops [
 ⟨some 128, .move (.tmp 16), 3, none⟩,
 ⟨some 129, .binOp .add 3 (.tmp 128) (.const (.int .i64 1)) 3, 3, none⟩,
 ⟨some 16, .assign (.tmp 129), 3, none⟩] [0, 7, 8, 13, 16])
noncomputable def c4S19 (_ : Unit) : Cmd := (.seq (.block 7 (.seq (.ops [
 ⟨some 131, .move (.tmp 7), 25, none⟩,
 ⟨some 132, .move (.tmp 8), 38, none⟩,
 ⟨some 133, .move (.tmp 16), 3, none⟩,
 ⟨some 134, .indexAddr 38 (.tmp 132) (.tmp 133), 0, none⟩,
 ⟨some 135, .load 3 (.tmp 134), 3, none⟩,
 ⟨some 136, .call ⟨.value (.func 18), #[(.tmp 131), (.tmp 135)], #[25, 3]⟩, 41, none⟩,
 ⟨some 130, .move (.tmp 136), 41, none⟩,
 ⟨some 137, .extract (.tmp 130) 0, 9, none⟩,
 ⟨some 138, .extract (.tmp 130) 1, 28, none⟩,
 ⟨some 17, .assign (.tmp 137), 9, none⟩,
 ⟨some 18, .assign (.tmp 138), 28, none⟩] [0, 7, 8, 13, 16, 17, 18]) (sg c4S17))) (sg c4S18))
noncomputable def c4L3 (_ : Unit) : Cmd := (.seq (.seq (.ops [
 ⟨some 124, .move (.tmp 16), 3, none⟩,
 ⟨some 125, .move (.tmp 8), 38, none⟩,
 ⟨some 126, .call ⟨.builtin .len, #[(.tmp 125)], #[38]⟩, 3, none⟩,
 ⟨some 127, .binOp .lss 3 (.tmp 124) (.tmp 126) 3, 4, none⟩] [0, 7, 8, 13, 16, 127])
 (.cond (.tmp 127)
  (.skip [0, 7, 8, 13, 16])
  (.exit 6 [7, 8, 13]))) (sg c4S19))
noncomputable def c4S20 (_ : Unit) : Cmd := .ret
noncomputable def c4S21 (_ : Unit) : Cmd := (.seq (.ops [
 ⟨some 171, .move (.tmp 7), 25, none⟩,
 ⟨some 172, .call ⟨.value (.func 14), #[(.tmp 171)], #[25]⟩, 3, none⟩,
 ⟨some 173, .move (.tmp 8), 38, none⟩,
 ⟨some 174, .call ⟨.builtin .len, #[(.tmp 173)], #[38]⟩, 3, none⟩,
 ⟨some 175, .binOp .sub 3 (.const (.int .i64 38)) (.tmp 174) 3, 3, none⟩,
 ⟨some 176, .move (.tmp 13), 40, none⟩,
 ⟨some 177, .call ⟨.builtin .len, #[(.tmp 176)], #[40]⟩, 3, none⟩,
 ⟨some 178, .binOp .add 3 (.tmp 175) (.tmp 177) 3, 3, none⟩,
 ⟨some 179, .binOp .eql 3 (.tmp 172) (.tmp 178) 3, 4, none⟩,
 ⟨some 180, .move (.tmp 179), 4, none⟩,
 ⟨some 181, .call ⟨.value (.func 16), #[], #[]⟩, 4, (some (180, true))⟩,
 ⟨some 182, .pick (.tmp 180) (.tmp 181) (.const (.bool false)), 4, none⟩,
 ⟨some 4, .assign (.tmp 182), 4, none⟩] [4]) (sg c4S20))
noncomputable def c4S22 (_ : Unit) : Cmd := (.seq (.seq (.ops [
 ⟨some 16, .assign (.const (.int .i64 0)), 3, none⟩] [0, 7, 8, 13, 16])
 (.block 6 (.loop (sg c4L3)))) (sg c4S21))
noncomputable def c4S23 (_ : Unit) : Cmd := (.seq (.ops [
 ⟨some 87, .makeMap 40 none, 40, none⟩,
 ⟨some 13, .assign (.tmp 87), 40, none⟩] [0, 1, 7, 8, 13])
 (.seq (.seq (.ops [
 ⟨some 14, .assign (.const (.int .i64 0)), 3, none⟩] [0, 1, 7, 8, 13, 14])
 (.block 4 (.loop (sg c4L2)))) (sg c4S22)))
noncomputable def c4S24 (_ : Unit) : Cmd := (.seq (.ops [
 ⟨some 8, .assign (.const (.slice none 0 0)), 38, none⟩] [0, 1, 7, 8])
 (.seq (.seq (.ops [
 ⟨some 9, .assign (.const (.int .i64 0)), 3, none⟩] [0, 1, 7, 8, 9])
 (.block 0 (.loop (sg c4L1)))) (sg c4S23)))
noncomputable def c4S25 (_ : Unit) : Cmd := (.seq (.seq (.ops [
 ⟨some 24, .move (.tmp 7), 25, none⟩,
 ⟨some 25, .binOp .eql 25 (.tmp 24) (.const (.pointer none)) 25, 4, none⟩,
 ⟨some 26, .move (.tmp 25), 4, none⟩,
 ⟨some 27, .move (.tmp 7), 25, (some (26, false))⟩,
 ⟨some 28, .call ⟨.value (.func 12), #[(.tmp 27)], #[25]⟩, 28, (some (26, false))⟩,
 ⟨some 29, .binOp .neq 28 (.tmp 28) (.const (.int .i64 0)) 28, 4, (some (26, false))⟩,
 ⟨some 30, .pick (.tmp 26) (.const (.bool true)) (.tmp 29), 4, none⟩] [0, 1, 7, 30]) (sg c4S0)) (sg c4S24))
noncomputable def c4 : Cmd := (.seq (.ops [
 ⟨some 4, .assign (.const (.bool false)), 4, none⟩] [0, 1])
 (.seq (.ops [
 ⟨some 20, .call ⟨.value (.func 11), #[(.const (.int .i64 40))], #[3]⟩, 26, none⟩,
 ⟨some 19, .move (.tmp 20), 26, none⟩,
 ⟨some 21, .extract (.tmp 19) 0, 23, none⟩,
 ⟨some 22, .extract (.tmp 19) 1, 24, none⟩,
 ⟨some 23, .extract (.tmp 19) 2, 25, none⟩,
 ⟨some 5, .assign (.tmp 21), 23, none⟩,
 ⟨some 6, .assign (.tmp 22), 24, none⟩,
 ⟨some 7, .assign (.tmp 23), 25, none⟩] [0, 1, 7]) (sg c4S25)))
noncomputable def c4D0 : GT := (.one 0 ⟨some 114, .move (.tmp 7), 25, none⟩
 (.one 0 ⟨some 115, .move (.tmp 15), 3, none⟩
 (.one 0 ⟨some 118, .move (.tmp 13), 40, none⟩
 (.one 0 ⟨some 119, .move (.tmp 15), 3, none⟩
 (.alt ⟨some 116, .call ⟨.value (.func 15), #[(.tmp 114), (.tmp 115)], #[25, 3]⟩, 28, none⟩
 (.one 0 ⟨some 117, .binOp .eql 28 (.tmp 116) (.const (.int .i64 0)) 28, 4, none⟩
 (.one 2 ⟨some 120, .lookup 40 (.tmp 118) (.tmp 119) false, 4, none⟩
 (.one 0 ⟨some 121, .binOp .eql 4 (.tmp 117) (.tmp 120) 4, 4, none⟩
 .nil)))
 (.alt ⟨some 120, .lookup 40 (.tmp 118) (.tmp 119) false, 4, none⟩
 (.one 2 ⟨some 116, .call ⟨.value (.func 15), #[(.tmp 114), (.tmp 115)], #[25, 3]⟩, 28, none⟩
 (.one 0 ⟨some 117, .binOp .eql 28 (.tmp 116) (.const (.int .i64 0)) 28, 4, none⟩
 (.one 0 ⟨some 121, .binOp .eql 4 (.tmp 117) (.tmp 120) 4, 4, none⟩
 .nil)))
 .stop))))))
theorem c4draw0 {L : List Nat} {ρ : Env} {w : World} {Q : Post} (S : World → Prop) (hS : S w.drew) (h : DT Try.prog S c4D0 L ρ w.drew Q) : drawW Try.prog (drawOps 0 c4code) L ρ w Q :=
  drawW_tree [] (.one 0 0 (.one 0 1 (.one 0 4 (.one 0 5 (.alt 2 (.one 0 3 (.one 2 6 (.one 0 7 .nil))) (.alt 6 (.one 2 2 (.one 0 3 (.one 0 7 .nil))) .stop)))))) c4D0 (by kernel_rfl) (by kernel_rfl) (by kernel_rfl) S hS h
set_option maxRecDepth 100000 in
theorem ent4 (a0 a1 : Value) (w : World) (K : Value → World → Prop) (h : W Try.prog c4 [(0, a0), (1, a1)] w (finQ Try.prog [.tmp 4] K)) : Ret Try.prog 4 [a0, a1] w K :=
  Ret_of_W (code := c4code) Try.func4 (by kernel_rfl) (by kernel_rfl) (of_decide_eq_true (by kernel_rfl)) h
@[go_sem] theorem go4 : goFunc Try.prog 4 = true := by kernel_rfl
noncomputable def c5S0 (_ : Unit) : Cmd := (.cond (.tmp 29)
  (.seq (.ops [
  ⟨some 6, .assign (.const (.bool false)), 4, none⟩] [6])
  .ret)
  (.skip [0, 1, 2, 9]))
noncomputable def c5S1 (_ : Unit) : Cmd := (.cond (.tmp 43)
  (.seq (.ops [
  ⟨some 6, .assign (.const (.bool false)), 4, none⟩] [6])
  .ret)
  (.skip [0, 1, 2, 9, 10, 12]))
noncomputable def c5S2 (_ : Unit) : Cmd := .ret
noncomputable def c5S3 (_ : Unit) : Cmd := (.seq (.ops [
 ⟨some 93, .move (.tmp 16), 28, none⟩,
 ⟨some 94, .binOp .eql 28 (.tmp 93) (.const (.int .i64 0)) 28, 4, none⟩,
 ⟨some 95, .move (.tmp 1), 3, none⟩,
 ⟨some 96, .binOp .geq 3 (.tmp 95) (.const (.int .i64 0)) 3, 4, none⟩,
 ⟨some 97, .move (.tmp 96), 4, none⟩,
 ⟨some 98, .move (.tmp 1), 3, (some (97, true))⟩,
 ⟨some 99, .binOp .lss 3 (.tmp 98) (.const (.int .i64 16)) 3, 4, (some (97, true))⟩,
 ⟨some 100, .pick (.tmp 97) (.tmp 99) (.const (.bool false)), 4, none⟩,
 ⟨some 101, .binOp .eql 4 (.tmp 94) (.tmp 100) 4, 4, none⟩,
 ⟨some 102, .move (.tmp 101), 4, none⟩,
 ⟨some 103, .move (.tmp 16), 28, (some (102, true))⟩,
 ⟨some 104, .binOp .neq 28 (.tmp 103) (.const (.int .i64 0)) 28, 4, (some (102, true))⟩,
 ⟨some 105, .move (.tmp 104), 4, (some (102, true))⟩,
 ⟨some 106, .move (.tmp 15), 3, (some (105, false))⟩,
 ⟨some 107, .move (.tmp 17), 3, (some (105, false))⟩,
 ⟨some 108, .binOp .eql 3 (.tmp 106) (.tmp 107) 3, 4, (some (105, false))⟩,
 ⟨some 109, .pick (.tmp 105) (.const (.bool true)) (.tmp 108), 4, (some (102, true))⟩,
 ⟨some 110, .pick (.tmp 102) (.tmp 109) (.const (.bool false)), 4, none⟩,
 ⟨some 111, .move (.tmp 110), 4, none⟩,
 ⟨some 112, .call ⟨.value (.func 16), #[], #[]⟩, 4, (some (111, true))⟩,
 ⟨some 113, .pick (.tmp 111) (.tmp 112) (.const (.bool false)), 4, none⟩,
 ⟨some 6, .assign (.tmp 113), 4, none⟩] [6]) (sg c5S2))
noncomputable def c5S4 (_ : Unit) : Cmd := (.seq (.seq (.ops [
 ⟨some 85, .move (.tmp 1), 3, none⟩,
 ⟨some 86, .move (.tmp 0), 3, none⟩,
 ⟨some 87, .binOp .eql 3 (.tmp 85) (.tmp 86) 3, 4, none⟩,
 ⟨some 88, .move (.tmp 87), 4, none⟩,
 ⟨some 89, .move (.tmp 14), 28, (some (88, true))⟩,
 ⟨some 90, .binOp .eql 28 (.tmp 89) (.const (.int .i64 0)) 28, 4, (some (88, true))⟩,
 ⟨some 91, .pick (.tmp 88) (.tmp 90) (.const (.bool false)), 4, none⟩] [1, 2, 15, 16, 17, 91])
 (.cond (.tmp 91)
  (.ops [
  ⟨some 92, .move (.tmp 2), 3, none⟩,
  ⟨some 17, .assign (.tmp 92), 3, none⟩] [1, 15, 16, 17])
  (.skip [1, 15, 16, 17]))) (sg c5S3))
noncomputable def c5S5 (_ : Unit) : Cmd := (.seq (.ops [
 ⟨some 17, .assign (.const (.int .i64 0)), 3, none⟩] [0, 1, 2, 10, 14, 15, 16, 17])
 (.seq (.seq (.ops [
 ⟨some 82, .move (.tmp 1), 3, none⟩,
 ⟨some 83, .binOp .eql 3 (.tmp 82) (.const (.int .i64 3)) 3, 4, none⟩] [0, 1, 2, 10, 14, 15, 16, 17, 83])
 (.cond (.tmp 83)
  (.ops [
  ⟨some 84, .move (.tmp 10), 3, none⟩,
  ⟨some 17, .assign (.tmp 84), 3, none⟩] [0, 1, 2, 14, 15, 16, 17])
  (.skip [0, 1, 2, 14, 15, 16, 17]))) (sg c5S4)))
noncomputable def c5S6 (_ : Unit) : Cmd := (.seq (.ops [
 ⟨some 77, .move (.tmp 9), 25, none⟩,
 ⟨some 78, .move (.tmp 1), 3, none⟩,
 ⟨some 79, .call ⟨.value (.func 21), #[(.tmp 77), (.tmp 78)], #[25, 3]⟩, 30, none⟩,
 ⟨some 76, .move (.tmp 79), 30, none⟩,
 ⟨some 80, .extract (.tmp 76) 0, 3, none⟩,
 ⟨some 81, .extract (.tmp 76) 1, 28, none⟩,
 ⟨some 15, .assign (.tmp 80), 3, none⟩,
 ⟨some 16, .assign (.tmp 81), 28, none⟩] [0, 1, 2, 10, 14, 15, 16]) (sg c5S5))
noncomputable def c5S7 (_ : Unit) : Cmd := (.seq (.seq (.ops [
 ⟨some 57, .move (.tmp 14), 28, none⟩,
 ⟨some 58, .binOp .neq 28 (.tmp 57) (.const (.int .i64 1)) 28, 4, none⟩,
 ⟨some 59, .move (.tmp 58), 4, none⟩,
 ⟨some 60, .move (.tmp 14), 28, (some (59, true))⟩,
 ⟨some 61, .binOp .eql 28 (.tmp 60) (.const (.int .i64 0)) 28, 4, (some (59, true))⟩,
 ⟨some 62, .move (.tmp 2), 3, (some (59, true))⟩,
 ⟨some 63, .binOp .eql 3 (.tmp 62) (.const (.int .i64 0)) 3, 4, (some (59, true))⟩,
 ⟨some 64, .move (.tmp 63), 4, (some (59, true))⟩,
 ⟨some 65, .move (.tmp 2), 3, (some (64, false))⟩,
 ⟨some 66, .move (.tmp 10), 3, (some (64, false))⟩,
 ⟨some 67, .binOp .eql 3 (.tmp 65) (.tmp 66) 3, 4, (some (64, false))⟩,
 ⟨some 68, .pick (.tmp 64) (.const (.bool true)) (.tmp 67), 4, (some (59, true))⟩,
 ⟨some 69, .move (.tmp 68), 4, (some (59, true))⟩,
 ⟨some 70, .move (.tmp 2), 3, (some (69, false))⟩,
 ⟨some 71, .move (.tmp 12), 3, (some (69, false))⟩,
 ⟨some 72, .binOp .eql 3 (.tmp 70) (.tmp 71) 3, 4, (some (69, false))⟩,
 ⟨some 73, .pick (.tmp 69) (.const (.bool true)) (.tmp 72), 4, (some (59, true))⟩,
 ⟨some 74, .binOp .neq 4 (.tmp 61) (.tmp 73) 4, 4, (some (59, true))⟩,
 ⟨some 75, .pick (.tmp 59) (.tmp 74) (.const (.bool false)), 4, none⟩] [0, 1, 2, 9, 10, 14, 75])
 (.cond (.tmp 75)
  (.seq (.ops [
  ⟨some 6, .assign (.const (.bool false)), 4, none⟩] [6])
  .ret)
  (.skip [0, 1, 2, 9, 10, 14]))) (sg c5S6))
noncomputable def c5S8 (_ : Unit) : Cmd := (.seq (.seq (.ops [
 ⟨some 48, .move (.tmp 0), 3, none⟩,
 ⟨some 49, .binOp .lss 3 (.tmp 48) (.const (.int .i64 0)) 3, 4, none⟩,
 ⟨some 50, .move (.tmp 49), 4, none⟩,
 ⟨some 51, .move (.tmp 0), 3, (some (50, false))⟩,
 ⟨some 52, .binOp .gtr 3 (.tmp 51) (.const (.int .i64 15)) 3, 4, (some (50, false))⟩,
 ⟨some 53, .pick (.tmp 50) (.const (.bool true)) (.tmp 52), 4, none⟩,
 ⟨some 54, .move (.tmp 14), 28, none⟩,
 ⟨some 55, .binOp .eql 28 (.tmp 54) (.const (.int .i64 1)) 28, 4, none⟩,
 ⟨some 56, .binOp .neq 4 (.tmp 53) (.tmp 55) 4, 4, none⟩] [0, 1, 2, 9, 10, 12, 14, 56])
 (.cond (.tmp 56)
  (.seq (.ops [
  ⟨some 6, .assign (.const (.bool false)), 4, none⟩] [6])
  .ret)
  (.skip [0, 1, 2, 9, 10, 12, 14]))) (sg c5S7))
noncomputable def c5S9 (_ : Unit) : Cmd := (.seq (.ops [
 ⟨some 44, .move (.tmp 9), 25, none⟩,
 ⟨some 45, .move (.tmp 0), 3, none⟩,
 ⟨some 46, .move (.tmp 2), 3, none⟩,
 ⟨some 47, .call ⟨.value (.func 20), #[(.tmp 44), (.tmp 45), (.tmp 46)], #[25, 3, 3]⟩, 28, none⟩,
 ⟨some 14, .assign (.tmp 47), 28, none⟩] [0, 1, 2, 9, 10, 12, 14]) (sg c5S8))
noncomputable def c5S10 (_ : Unit) : Cmd := (.seq (.seq (.ops [
 ⟨some 40, .move (.tmp 9), 25, none⟩,
 ⟨some 41, .move (.tmp 10), 3, none⟩,
 ⟨some 42, .call ⟨.value (.func 20), #[(.tmp 40), (.const (.int .i64 3)), (.tmp 41)], #[25, 3, 3]⟩, 28, none⟩,
 ⟨some 43, .binOp .neq 28 (.tmp 42) (.const (.int .i64 0)) 28, 4, none⟩] [0, 1, 2, 9, 10, 12, 43]) (sg c5S1)) (sg c5S9))
noncomputable def c5S11 (_ : Unit) : Cmd := (.seq (.ops [
 ⟨some 36, .move (.tmp 9), 25, none⟩,
 ⟨some 37, .call ⟨.value (.func 13), #[(.tmp 36)], #[25]⟩, 30, none⟩,
 ⟨some 35, .move (.tmp 37), 30, none⟩,
 ⟨some 38, .extract (.tmp 35) 0, 3, none⟩,
 ⟨some 39, .extract (.tmp 35) 1, 28, none⟩,
 ⟨some 12, .assign (.tmp 38), 3, none⟩,
 ⟨some 13, .assign (.tmp 39), 28, none⟩] [0, 1, 2, 9, 10, 12]) (sg c5S10))
noncomputable def c5S12 (_ : Unit) : Cmd := (.seq (.ops [
 ⟨some 31, .move (.tmp 9), 25, none⟩,
 ⟨some 32, .call ⟨.value (.func 13), #[(.tmp 31)], #[25]⟩, 30, none⟩,
 ⟨some 30, .move (.tmp 32), 30, none⟩,
 ⟨some 33, .extract (.tmp 30) 0, 3, none⟩,
 ⟨some 34, .extract (.tmp 30) 1, 28, none⟩,
 ⟨some 10, .assign (.tmp 33), 3, none⟩,
 ⟨some 11, .assign (.tmp 34), 28, none⟩] [0, 1, 2, 9, 10]) (sg c5S11))
noncomputable def c5S13 (_ : Unit) : Cmd := (.seq (.seq (.ops [
 ⟨some 23, .move (.tmp 9), 25, none⟩,
 ⟨some 24, .binOp .eql 25 (.tmp 23) (.const (.pointer none)) 25, 4, none⟩,
 ⟨some 25, .move (.tmp 24), 4, none⟩,
 ⟨some 26, .move (.tmp 9), 25, (some (25, false))⟩,
 ⟨some 27, .call ⟨.value (.func 12), #[(.tmp 26)], #[25]⟩, 28, (some (25, false))⟩,
 ⟨some 28, .binOp .neq 28 (.tmp 27) (.const (.int .i64 0)) 28, 4, (some (25, false))⟩,
 ⟨some 29, .pick (.tmp 25) (.const (.bool true)) (.tmp 28), 4, none⟩] [0, 1, 2, 9, 29]) (sg c5S0)) (sg c5S12))
noncomputable def c5 : Cmd := (.seq (.ops [
 ⟨some 6, .assign (.const (.bool false)), 4, none⟩] [0, 1, 2])
 (.seq (.ops [
 ⟨some 19, .call ⟨.value (.func 11), #[(.const (.int .i64 9))], #[3]⟩, 26, none⟩,
 ⟨some 18, .move (.tmp 19), 26, none⟩,
 ⟨some 20, .extract (.tmp 18) 0, 23, none⟩,
 ⟨some 21, .extract (.tmp 18) 1, 24, none⟩,
 ⟨some 22, .extract (.tmp 18) 2, 25, none⟩,
 ⟨some 7, .assign (.tmp 20), 23, none⟩,
 ⟨some 8, .assign (.tmp 21), 24, none⟩,
 ⟨some 9, .assign (.tmp 22), 25, none⟩] [0, 1, 2, 9]) (sg c5S13)))
@[go_sem] theorem go5 : goFunc Try.prog 5 = true := by kernel_rfl
noncomputable def c6code : Code := match Try.f6.body with | some c => c | none => .skip
noncomputable def c6S0 (_ : Unit) : Cmd := (.ops [
 ⟨some 37, .move (.tmp 9), 3, none⟩,
 ⟨some 38, .binOp .add 3 (.tmp 37) (.const (.int .i64 1)) 3, 3, none⟩,
 ⟨some 9, .assign (.tmp 38), 3, none⟩] [1, 6, 7, 8, 9])
noncomputable def c6S1 (_ : Unit) : Cmd := (.seq (.block 1 (.seq (.ops [
 ⟨some 39, .move (.tmp 1), 48, none⟩,
 ⟨some 40, .move (.tmp 9), 3, none⟩,
 ⟨some 41, .indexAddr 48 (.tmp 39) (.tmp 40), 0, none⟩,
 ⟨some 42, .fieldAddr 54 (.tmp 41) 0, 0, none⟩,
 ⟨some 43, .load 3 (.tmp 42), 3, none⟩,
 ⟨some 44, .binOp .geq 3 (.tmp 43) (.const (.int .i64 0)) 3, 4, none⟩,
 ⟨some 45, .move (.tmp 44), 4, none⟩,
 ⟨some 46, .move (.tmp 1), 48, (some (45, true))⟩,
 ⟨some 47, .move (.tmp 9), 3, (some (45, true))⟩,
 ⟨some 48, .indexAddr 48 (.tmp 46) (.tmp 47), 0, (some (45, true))⟩,
 ⟨some 49, .fieldAddr 54 (.tmp 48) 0, 0, (some (45, true))⟩,
 ⟨some 50, .load 3 (.tmp 49), 3, (some (45, true))⟩,
 ⟨some 51, .move (.tmp 8), 36, (some (45, true))⟩,
 ⟨some 52, .call ⟨.builtin .len, #[(.tmp 51)], #[36]⟩, 3, (some (45, true))⟩,
 ⟨some 53, .binOp .lss 3 (.tmp 50) (.tmp 52) 3, 4, (some (45, true))⟩,
 ⟨some 54, .pick (.tmp 45) (.tmp 53) (.const (.bool false)), 4, none⟩,
 ⟨some 55, .move (.tmp 54), 4, none⟩,
 ⟨some 56, .move (.tmp 1), 48, (some (55, true))⟩,
 ⟨some 57, .move (.tmp 9), 3, (some (55, true))⟩,
 ⟨some 58, .indexAddr 48 (.tmp 56) (.tmp 57), 0, (some (55, true))⟩,
 ⟨some 59, .fieldAddr 54 (.tmp 58) 1, 0, (some (55, true))⟩,
 ⟨some 60, .load 9 (.tmp 59), 9, (some (55, true))⟩,
 ⟨some 61, .call ⟨.builtin .len, #[(.tmp 60)], #[9]⟩, 3, (some (55, true))⟩,
 ⟨some 62, .binOp .leq 3 (.tmp 61) (.const (.int .i64 256)) 3, 4, (some (55, true))⟩,
 ⟨some 63, .pick (.tmp 55) (.tmp 62) (.const (.bool false)), 4, none⟩] [1, 6, 7, 8, 9, 63])
 (.cond (.tmp 63)
  (.draw (drawOps 0 c6code) [1, 6, 7, 8, 9])
  (.skip [1, 6, 7, 8, 9])))) (sg c6S0))
noncomputable def c6L0 (_ : Unit) : Cmd := (.seq (.seq (.ops [
 ⟨some 29, .move (.tmp 9), 3, none⟩,
 ⟨some 30, .move (.tmp 1), 48, none⟩,
 ⟨some 31, .call ⟨.builtin .len, #[(.tmp 30)], #[48]⟩, 3, none⟩,
 ⟨some 32, .binOp .lss 3 (.tmp 29) (.tmp 31) 3, 4, none⟩,
 ⟨some 33, .move (.tmp 32), 4, none⟩,
 ⟨some 34, .move (.tmp 9), 3, (some (33, true))⟩,
 ⟨some 35, .binOp .lss 3 (.tmp 34) (.const (.int .i64 30)) 3, 4, (some (33, true))⟩,
 ⟨some 36, .pick (.tmp 33) (.tmp 35) (.const (.bool false)), 4, none⟩] [1, 6, 7, 8, 9, 36])
 (.cond (.tmp 36)
  (.skip [1, 6, 7, 8, 9])
  (.exit 0 [6, 7, 8]))) (sg c6S1))
noncomputable def c6S2 (_ : Unit) : Cmd := (.cond (.tmp 86)
  (.seq (.ops [
  ⟨some 4, .assign (.const (.bool false)), 4, none⟩] [4])
  .ret)
  (.skip [6, 7]))
noncomputable def c6S3 (_ : Unit) : Cmd := .ret
noncomputable def c6S4 (_ : Unit) : Cmd := (.seq (.ops [
 ⟨some 89, .move (.tmp 6), 24, none⟩,
 ⟨some 90, .call ⟨.value (.func 25), #[(.tmp 89)], #[24]⟩, 36, none⟩,
 ⟨some 91, .move (.tmp 7), 36, none⟩,
 ⟨some 92, .call ⟨.value (.func 26), #[(.tmp 90), (.tmp 91)], #[36, 36]⟩, 4, none⟩,
 ⟨some 93, .move (.tmp 92), 4, none⟩,
 ⟨some 94, .move (.tmp 6), 24, (some (93, true))⟩,
 ⟨some 95, .call ⟨.value (.func 24), #[(.tmp 94)], #[24]⟩, 28, (some (93, true))⟩,
 ⟨some 96, .binOp .eql 28 (.tmp 95) (.const (.int .i64 0)) 28, 4, (some (93, true))⟩,
 ⟨some 97, .pick (.tmp 93) (.tmp 96) (.const (.bool false)), 4, none⟩,
 ⟨some 98, .move (.tmp 97), 4, none⟩,
 ⟨some 99, .move (.tmp 6), 24, (some (98, true))⟩,
 ⟨some 100, .call ⟨.value (.func 25), #[(.tmp 99)], #[24]⟩, 36, (some (98, true))⟩,
 ⟨some 101, .move (.tmp 7), 36, (some (98, true))⟩,
 ⟨some 102, .call ⟨.value (.func 26), #[(.tmp 100), (.tmp 101)], #[36, 36]⟩, 4, (some (98, true))⟩,
 ⟨some 103, .pick (.tmp 98) (.tmp 102) (.const (.bool false)), 4, none⟩,
 ⟨some 104, .move (.tmp 103), 4, none⟩,
 ⟨some 105, .call ⟨.value (.func 28), #[], #[]⟩, 4, (some (104, true))⟩,
 ⟨some 106, .pick (.tmp 104) (.tmp 105) (.const (.bool false)), 4, none⟩,
 ⟨some 4, .assign (.tmp 106), 4, none⟩] [4]) (sg c6S3))
noncomputable def c6S5 (_ : Unit) : Cmd := (.seq (.ops [
 ⟨some 87, .move (.tmp 6), 24, none⟩,
 ⟨some 88, .call ⟨.value (.func 27), #[(.tmp 87)], #[24]⟩, 0, none⟩] [6, 7]) (sg c6S4))
noncomputable def c6S6 (_ : Unit) : Cmd := (.seq (.seq (.ops [
 ⟨some 77, .move (.tmp 7), 36, none⟩,
 ⟨some 78, .call ⟨.builtin .len, #[(.tmp 77)], #[36]⟩, 3, none⟩,
 ⟨some 79, .binOp .neq 3 (.tmp 78) (.const (.int .i64 8)) 3, 4, none⟩,
 ⟨some 80, .move (.tmp 79), 4, none⟩,
 ⟨some 81, .move (.tmp 6), 24, (some (80, false))⟩,
 ⟨some 82, .call ⟨.value (.func 25), #[(.tmp 81)], #[24]⟩, 36, (some (80, false))⟩,
 ⟨some 83, .move (.tmp 8), 36, (some (80, false))⟩,
 ⟨some 84, .call ⟨.value (.func 26), #[(.tmp 82), (.tmp 83)], #[36, 36]⟩, 4, (some (80, false))⟩,
 ⟨some 85, .unOp .not 4 (.tmp 84), 4, (some (80, false))⟩,
 ⟨some 86, .pick (.tmp 80) (.const (.bool true)) (.tmp 85), 4, none⟩] [6, 7, 86]) (sg c6S2)) (sg c6S5))
noncomputable def c6S7 (_ : Unit) : Cmd := (.seq (.seq (.ops [
 ⟨some 9, .assign (.const (.int .i64 0)), 3, none⟩] [1, 6, 7, 8, 9])
 (.block 0 (.loop (sg c6L0)))) (sg c6S6))
noncomputable def c6S8 (_ : Unit) : Cmd := (.seq (.ops [
 ⟨some 26, .buildSlice 36 0 #[], 36, none⟩,
 ⟨some 27, .move (.tmp 7), 36, none⟩,
 ⟨some 28, .call ⟨.builtin .append, #[(.tmp 26), (.tmp 27)], #[36, 36]⟩, 36, none⟩,
 ⟨some 8, .assign (.tmp 28), 36, none⟩] [1, 6, 7, 8]) (sg c6S7))
noncomputable def c6S9 (_ : Unit) : Cmd := (.seq (.ops [
 ⟨some 23, .move (.tmp 6), 24, none⟩,
 ⟨some 24, .move (.tmp 1), 48, none⟩,
 ⟨some 25, .call ⟨.value (.func 23), #[(.tmp 23), (.tmp 24)], #[24, 48]⟩, 0, none⟩] [1, 6, 7]) (sg c6S8))
noncomputable def c6S10 (_ : Unit) : Cmd := (.seq (.ops [
 ⟨some 21, .move (.tmp 6), 24, none⟩,
 ⟨some 22, .call ⟨.value (.func 25), #[(.tmp 21)], #[24]⟩, 36, none⟩,
 ⟨some 7, .assign (.tmp 22), 36, none⟩] [1, 6, 7]) (sg c6S9))
noncomputable def c6S11 (_ : Unit) : Cmd := (.seq (.ops [
 ⟨some 19, .move (.tmp 6), 24, none⟩,
 ⟨some 20, .call ⟨.value (.func 24), #[(.tmp 19)], #[24]⟩, 28, none⟩] [1, 6]) (sg c6S10))
noncomputable def c6S12 (_ : Unit) : Cmd := (.seq (.ops [
 ⟨some 16, .move (.tmp 6), 24, none⟩,
 ⟨some 17, .move (.tmp 0), 48, none⟩,
 ⟨some 18, .call ⟨.value (.func 23), #[(.tmp 16), (.tmp 17)], #[24, 48]⟩, 0, none⟩] [1, 6]) (sg c6S11))
noncomputable def c6S13 (_ : Unit) : Cmd := (.seq (.seq (.ops [
 ⟨some 14, .move (.tmp 6), 24, none⟩,
 ⟨some 15, .binOp .eql 24 (.tmp 14) (.const (.pointer none)) 24, 4, none⟩] [0, 1, 6, 15])
 (.cond (.tmp 15)
  (.seq (.ops [
  ⟨some 4, .assign (.const (.bool false)), 4, none⟩] [4])
  .ret)
  (.skip [0, 1, 6]))) (sg c6S12))
noncomputable def c6 : Cmd := (.seq (.ops [
 ⟨some 4, .assign (.const (.bool false)), 4, none⟩] [0, 1])
 (.seq (.ops [
 ⟨some 11, .call ⟨.value (.func 22), #[(.const (.int .i64 40)), (.const (.int .i64 30))], #[3, 3]⟩, 49, none⟩,
 ⟨some 10, .move (.tmp 11), 49, none⟩,
 ⟨some 12, .extract (.tmp 10) 0, 23, none⟩,
 ⟨some 13, .extract (.tmp 10) 1, 24, none⟩,
 ⟨some 5, .assign (.tmp 12), 23, none⟩,
 ⟨some 6, .assign (.tmp 13), 24, none⟩] [0, 1, 6]) (sg c6S13)))
@[go_sem] theorem go6 : goFunc Try.prog 6 = true := by kernel_rfl
noncomputable def c7code : Code := match Try.f7.body with | some c => c | none => .skip
noncomputable def c7S0 (_ : Unit) : Cmd := .ret
noncomputable def c7S1 (_ : Unit) : Cmd := (.ops [
  ⟨some 108, .move (.tmp 7), 23, none⟩,
  ⟨some 109, .call ⟨.value (.func 31), #[(.tmp 108)], #[23]⟩, 63, none⟩] [2, 7, 9, 10, 12, 13])
noncomputable def c7S2 (_ : Unit) : Cmd := (.seq (.ops [
 ⟨some 95, .move (.tmp 13), 3, none⟩,
 ⟨some 96, .binOp .add 3 (.tmp 95) (.const (.int .i64 1)) 3, 3, none⟩,
 ⟨some 97, .move (.tmp 2), 57, none⟩,
 ⟨some 98, .call ⟨.builtin .len, #[(.tmp 97)], #[57]⟩, 3, none⟩,
 ⟨some 99, .binOp .lss 3 (.tmp 96) (.tmp 98) 3, 4, none⟩] [2, 7, 9, 10, 12, 13, 99])
 (.cond (.tmp 99)
  (.seq (.ops [
  ⟨some 100, .move (.tmp 7), 23, none⟩,
  ⟨some 101, .move (.tmp 2), 57, none⟩,
  ⟨some 102, .move (.tmp 13), 3, none⟩,
  ⟨some 103, .binOp .add 3 (.tmp 102) (.const (.int .i64 1)) 3, 3, none⟩,
  ⟨some 104, .indexAddr 57 (.tmp 101) (.tmp 103), 0, none⟩,
  ⟨some 105, .fieldAddr 61 (.tmp 104) 0, 0, none⟩,
  ⟨some 106, .load 3 (.tmp 105), 3, none⟩,
  ⟨some 107, .call ⟨.value (.func 29), #[(.tmp 100), (.tmp 106)], #[23, 3]⟩, 0, none⟩] [2, 7, 9, 10, 12, 13]) (sg c7S1))
  (.skip [2, 7, 9, 10, 12, 13])))
noncomputable def c7S3 (_ : Unit) : Cmd := (.ops [
 ⟨some 76, .move (.tmp 13), 3, none⟩,
 ⟨some 77, .binOp .add 3 (.tmp 76) (.const (.int .i64 1)) 3, 3, none⟩,
 ⟨some 13, .assign (.tmp 77), 3, none⟩] [2, 7, 9, 10, 12, 13])
noncomputable def c7S4 (_ : Unit) : Cmd := (.seq (.block 1 (.seq (.draw (drawOps 0 c7code) [2, 7, 9, 10, 12, 13]) (sg c7S2))) (sg c7S3))
noncomputable def c7L0 (_ : Unit) : Cmd := (.seq (.seq (.ops [
 ⟨some 68, .move (.tmp 13), 3, none⟩,
 ⟨some 69, .move (.tmp 2), 57, none⟩,
 ⟨some 70, .call ⟨.builtin .len, #[(.tmp 69)], #[57]⟩, 3, none⟩,
 ⟨some 71, .binOp .lss 3 (.tmp 68) (.tmp 70) 3, 4, none⟩,
 ⟨some 72, .move (.tmp 71), 4, none⟩,
 ⟨some 73, .move (.tmp 13), 3, (some (72, true))⟩,
 ⟨some 74, .binOp .lss 3 (.tmp 73) (.const (.int .i64 8)) 3, 4, (some (72, true))⟩,
 ⟨some 75, .pick (.tmp 72) (.tmp 74) (.const (.bool false)), 4, none⟩] [2, 7, 9, 10, 12, 13, 75])
 (.cond (.tmp 75)
  (.skip [2, 7, 9, 10, 12, 13])
  (.exit 0 [7, 9, 10, 12]))) (sg c7S4))
noncomputable def c7S5 (_ : Unit) : Cmd := .ret
noncomputable def c7S6 (_ : Unit) : Cmd := (.seq (.ops [
 ⟨some 121, .move (.tmp 16), 36, none⟩,
 ⟨some 122, .binOp .neq 36 (.tmp 121) (.const (.slice none 0 0)) 36, 4, none⟩,
 ⟨some 123, .move (.tmp 122), 4, none⟩,
 ⟨some 124, .move (.tmp 16), 36, (some (123, true))⟩,
 ⟨some 125, .move (.tmp 10), 36, (some (123, true))⟩,
 ⟨some 126, .call ⟨.value (.func 26), #[(.tmp 124), (.tmp 125)], #[36, 36]⟩, 4, (some (123, true))⟩,
 ⟨some 127, .move (.tmp 126), 4, (some (123, true))⟩,
 ⟨some 128, .move (.tmp 12), 4, (some (127, false))⟩,
 ⟨some 129, .unOp .not 4 (.tmp 128), 4, (some (127, false))⟩,
 ⟨some 130, .move (.tmp 129), 4, (some (127, false))⟩,
 ⟨some 131, .move (.tmp 16), 36, (some (130, true))⟩,
 ⟨some 132, .move (.tmp 9), 36, (some (130, true))⟩,
 ⟨some 133, .call ⟨.value (.func 26), #[(.tmp 131), (.tmp 132)], #[36, 36]⟩, 4, (some (130, true))⟩,
 ⟨some 134, .pick (.tmp 130) (.tmp 133) (.const (.bool false)), 4, (some (127, false))⟩,
 ⟨some 135, .pick (.tmp 127) (.const (.bool true)) (.tmp 134), 4, (some (123, true))⟩,
 ⟨some 136, .pick (.tmp 123) (.tmp 135) (.const (.bool false)), 4, none⟩,
 ⟨some 137, .move (.tmp 136), 4, none⟩,
 ⟨some 138, .call ⟨.value (.func 28), #[], #[]⟩, 4, (some (137, true))⟩,
 ⟨some 139, .pick (.tmp 137) (.tmp 138) (.const (.bool false)), 4, none⟩,
 ⟨some 6, .assign (.tmp 139), 4, none⟩] [6]) (sg c7S5))
noncomputable def c7S7 (_ : Unit) : Cmd := (.seq (.ops [
 ⟨some 119, .move (.tmp 14), 24, none⟩,
 ⟨some 120, .call ⟨.value (.func 25), #[(.tmp 119)], #[24]⟩, 36, none⟩,
 ⟨some 16, .assign (.tmp 120), 36, none⟩] [9, 10, 12, 16]) (sg c7S6))
noncomputable def c7S8 (_ : Unit) : Cmd := (.seq (.seq (.ops [
 ⟨some 117, .move (.tmp 15), 28, none⟩,
 ⟨some 118, .binOp .neq 28 (.tmp 117) (.const (.int .i64 0)) 28, 4, none⟩] [9, 10, 12, 14, 118])
 (.cond (.tmp 118)
  (.seq (.ops [
  ⟨some 6, .assign (.const (.bool false)), 4, none⟩] [6])
  .ret)
  (.skip [9, 10, 12, 14]))) (sg c7S7))
noncomputable def c7S9 (_ : Unit) : Cmd := (.seq (.ops [
 ⟨some 113, .move (.tmp 7), 23, none⟩,
 ⟨some 114, .call ⟨.value (.func 31), #[(.tmp 113)], #[23]⟩, 63, none⟩,
 ⟨some 112, .move (.tmp 114), 63, none⟩,
 ⟨some 115, .extract (.tmp 112) 0, 24, none⟩,
 ⟨some 116, .extract (.tmp 112) 1, 28, none⟩,
 ⟨some 14, .assign (.tmp 115), 24, none⟩,
 ⟨some 15, .assign (.tmp 116), 28, none⟩] [9, 10, 12, 14, 15]) (sg c7S8))
noncomputable def c7S10 (_ : Unit) : Cmd := (.seq (.ops [
 ⟨some 110, .move (.tmp 7), 23, none⟩,
 ⟨some 111, .call ⟨.value (.func 30), #[(.tmp 110), (.const (.int .u64 0)), (.const (.int .i64 0)), (.const (.int .i64 0))], #[23, 59, 3, 3]⟩, 0, none⟩] [7, 9, 10, 12]) (sg c7S9))
noncomputable def c7S11 (_ : Unit) : Cmd := (.seq (.ops [
 ⟨some 66, .move (.tmp 11), 28, none⟩,
 ⟨some 67, .binOp .eql 28 (.tmp 66) (.const (.int .i64 0)) 28, 4, none⟩,
 ⟨some 12, .assign (.tmp 67), 4, none⟩] [2, 7, 9, 10, 12])
 (.seq (.seq (.ops [
 ⟨some 13, .assign (.const (.int .i64 0)), 3, none⟩] [2, 7, 9, 10, 12, 13])
 (.block 0 (.loop (sg c7L0)))) (sg c7S10)))
noncomputable def c7S12 (_ : Unit) : Cmd := (.seq (.seq (.ops [
 ⟨some 63, .move (.tmp 11), 28, none⟩,
 ⟨some 64, .binOp .eql 28 (.tmp 63) (.const (.int .i64 12)) 28, 4, none⟩] [2, 7, 9, 10, 11, 64])
 (.cond (.tmp 64)
  (.ops [
  ⟨some 65, .move (.tmp 9), 36, none⟩,
  ⟨some 10, .assign (.tmp 65), 36, none⟩] [2, 7, 9, 10, 11])
  (.skip [2, 7, 9, 10, 11]))) (sg c7S11))
noncomputable def c7S13 (_ : Unit) : Cmd := (.seq (.ops [
 ⟨some 61, .move (.tmp 8), 24, none⟩,
 ⟨some 62, .call ⟨.value (.func 24), #[(.tmp 61)], #[24]⟩, 28, none⟩,
 ⟨some 11, .assign (.tmp 62), 28, none⟩] [2, 7, 9, 10, 11]) (sg c7S12))
noncomputable def c7S14 (_ : Unit) : Cmd := (.seq (.ops [
 ⟨some 55, .move (.tmp 7), 23, none⟩,
 ⟨some 56, .move (.tmp 2), 57, none⟩,
 ⟨some 57, .indexAddr 57 (.tmp 56) (.const (.int .i64 0)), 0, none⟩,
 ⟨some 58, .fieldAddr 61 (.tmp 57) 0, 0, none⟩,
 ⟨some 59, .load 3 (.tmp 58), 3, none⟩,
 ⟨some 60, .call ⟨.value (.func 29), #[(.tmp 55), (.tmp 59)], #[23, 3]⟩, 0, none⟩] [2, 7, 8, 9, 10]) (sg c7S13))
noncomputable def c7S15 (_ : Unit) : Cmd := (.seq (.seq (.ops [
 ⟨some 35, .move (.tmp 2), 57, none⟩,
 ⟨some 36, .call ⟨.builtin .len, #[(.tmp 35)], #[57]⟩, 3, none⟩,
 ⟨some 37, .binOp .eql 3 (.tmp 36) (.const (.int .i64 0)) 3, 4, none⟩,
 ⟨some 38, .move (.tmp 37), 4, none⟩,
 ⟨some 39, .move (.tmp 9), 36, (some (38, false))⟩,
 ⟨some 40, .binOp .eql 36 (.tmp 39) (.const (.slice none 0 0)) 36, 4, (some (38, false))⟩,
 ⟨some 41, .pick (.tmp 38) (.const (.bool true)) (.tmp 40), 4, none⟩,
 ⟨some 42, .move (.tmp 41), 4, none⟩,
 ⟨some 43, .move (.tmp 10), 36, (some (42, false))⟩,
 ⟨some 44, .binOp .eql 36 (.tmp 43) (.const (.slice none 0 0)) 36, 4, (some (42, false))⟩,
 ⟨some 45, .pick (.tmp 42) (.const (.bool true)) (.tmp 44), 4, none⟩] [2, 7, 8, 9, 10, 45])
 (.cond (.tmp 45)
  (.seq (.ops [
  ⟨some 46, .move (.tmp 9), 36, none⟩,
  ⟨some 47, .binOp .neq 36 (.tmp 46) (.const (.slice none 0 0)) 36, 4, none⟩,
  ⟨some 48, .move (.tmp 47), 4, none⟩,
  ⟨some 49, .move (.tmp 10), 36, (some (48, true))⟩,
  ⟨some 50, .binOp .neq 36 (.tmp 49) (.const (.slice none 0 0)) 36, 4, (some (48, true))⟩,
  ⟨some 51, .pick (.tmp 48) (.tmp 50) (.const (.bool false)), 4, none⟩,
  ⟨some 52, .move (.tmp 51), 4, none⟩,
  ⟨some 53, .call ⟨.value (.func 28), #[], #[]⟩, 4, (some (52, true))⟩,
  ⟨some 54, .pick (.tmp 52) (.tmp 53) (.const (.bool false)), 4, none⟩,
  ⟨some 6, .assign (.tmp 54), 4, none⟩] [6]) (sg c7S0))
  (.skip [2, 7, 8, 9, 10]))) (sg c7S14))
noncomputable def c7S16 (_ : Unit) : Cmd := (.seq (.ops [
 ⟨some 33, .move (.tmp 8), 24, none⟩,
 ⟨some 34, .call ⟨.value (.func 25), #[(.tmp 33)], #[24]⟩, 36, none⟩,
 ⟨some 10, .assign (.tmp 34), 36, none⟩] [2, 7, 8, 9, 10]) (sg c7S15))
noncomputable def c7S17 (_ : Unit) : Cmd := (.seq (.ops [
 ⟨some 30, .move (.tmp 8), 24, none⟩,
 ⟨some 31, .move (.tmp 1), 48, none⟩,
 ⟨some 32, .call ⟨.value (.func 23), #[(.tmp 30), (.tmp 31)], #[24, 48]⟩, 0, none⟩] [2, 7, 8, 9]) (sg c7S16))
noncomputable def c7S18 (_ : Unit) : Cmd := (.seq (.ops [
 ⟨some 28, .move (.tmp 8), 24, none⟩,
 ⟨some 29, .call ⟨.value (.func 25), #[(.tmp 28)], #[24]⟩, 36, none⟩,
 ⟨some 9, .assign (.tmp 29), 36, none⟩] [1, 2, 7, 8, 9]) (sg c7S17))
noncomputable def c7S19 (_ : Unit) : Cmd := (.seq (.ops [
 ⟨some 26, .move (.tmp 8), 24, none⟩,
 ⟨some 27, .call ⟨.value (.func 24), #[(.tmp 26)], #[24]⟩, 28, none⟩] [1, 2, 7, 8]) (sg c7S18))
noncomputable def c7S20 (_ : Unit) : Cmd := (.seq (.ops [
 ⟨some 23, .move (.tmp 8), 24, none⟩,
 ⟨some 24, .move (.tmp 0), 48, none⟩,
 ⟨some 25, .call ⟨.value (.func 23), #[(.tmp 23), (.tmp 24)], #[24, 48]⟩, 0, none⟩] [1, 2, 7, 8]) (sg c7S19))
noncomputable def c7S21 (_ : Unit) : Cmd := (.seq (.seq (.ops [
 ⟨some 21, .move (.tmp 8), 24, none⟩,
 ⟨some 22, .binOp .eql 24 (.tmp 21) (.const (.pointer none)) 24, 4, none⟩] [0, 1, 2, 7, 8, 22])
 (.cond (.tmp 22)
  (.seq (.ops [
  ⟨some 6, .assign (.const (.bool false)), 4, none⟩] [6])
  .ret)
  (.skip [0, 1, 2, 7, 8]))) (sg c7S20))
noncomputable def c7 : Cmd := (.seq (.ops [
 ⟨some 6, .assign (.const (.bool false)), 4, none⟩] [0, 1, 2])
 (.seq (.ops [
 ⟨some 18, .call ⟨.value (.func 22), #[(.const (.int .i64 24)), (.const (.int .i64 9))], #[3, 3]⟩, 49, none⟩,
 ⟨some 17, .move (.tmp 18), 49, none⟩,
 ⟨some 19, .extract (.tmp 17) 0, 23, none⟩,
 ⟨some 20, .extract (.tmp 17) 1, 24, none⟩,
 ⟨some 7, .assign (.tmp 19), 23, none⟩,
 ⟨some 8, .assign (.tmp 20), 24, none⟩] [0, 1, 2, 7, 8]) (sg c7S21)))
@[go_sem] theorem go7 : goFunc Try.prog 7 = true := by kernel_rfl
noncomputable def c8S0 (_ : Unit) : Cmd := .ret
noncomputable def c8S1 (_ : Unit) : Cmd := (.seq (.ops [
 ⟨some 61, .move (.tmp 11), 36, none⟩,
 ⟨some 62, .binOp .neq 36 (.tmp 61) (.const (.slice none 0 0)) 36, 4, none⟩,
 ⟨some 63, .move (.tmp 62), 4, none⟩,
 ⟨some 64, .move (.tmp 13), 28, (some (63, true))⟩,
 ⟨some 65, .binOp .eql 28 (.tmp 64) (.const (.int .i64 0)) 28, 4, (some (63, true))⟩,
 ⟨some 66, .pick (.tmp 63) (.tmp 65) (.const (.bool false)), 4, none⟩,
 ⟨some 67, .move (.tmp 66), 4, none⟩,
 ⟨some 68, .move (.tmp 11), 36, (some (67, true))⟩,
 ⟨some 69, .move (.tmp 12), 24, (some (67, true))⟩,
 ⟨some 70, .call ⟨.value (.func 25), #[(.tmp 69)], #[24]⟩, 36, (some (67, true))⟩,
 ⟨some 71, .call ⟨.value (.func 26), #[(.tmp 68), (.tmp 70)], #[36, 36]⟩, 4, (some (67, true))⟩,
 ⟨some 72, .pick (.tmp 67) (.tmp 71) (.const (.bool false)), 4, none⟩,
 ⟨some 73, .move (.tmp 72), 4, none⟩,
 ⟨some 74, .call ⟨.value (.func 28), #[], #[]⟩, 4, (some (73, true))⟩,
 ⟨some 75, .pick (.tmp 73) (.tmp 74) (.const (.bool false)), 4, none⟩,
 ⟨some 6, .assign (.tmp 75), 4, none⟩] [6]) (sg c8S0))
noncomputable def c8S2 (_ : Unit) : Cmd := (.seq (.ops [
 ⟨some 57, .move (.tmp 7), 23, none⟩,
 ⟨some 58, .call ⟨.value (.func 31), #[(.tmp 57)], #[23]⟩, 63, none⟩,
 ⟨some 56, .move (.tmp 58), 63, none⟩,
 ⟨some 59, .extract (.tmp 56) 0, 24, none⟩,
 ⟨some 60, .extract (.tmp 56) 1, 28, none⟩,
 ⟨some 12, .assign (.tmp 59), 24, none⟩,
 ⟨some 13, .assign (.tmp 60), 28, none⟩] [11, 12, 13]) (sg c8S1))
noncomputable def c8S3 (_ : Unit) : Cmd := (.seq (.ops [
 ⟨some 54, .move (.tmp 7), 23, none⟩,
 ⟨some 55, .call ⟨.value (.func 29), #[(.tmp 54), (.const (.int .i64 0))], #[23, 3]⟩, 0, none⟩] [7, 11]) (sg c8S2))
noncomputable def c8S4 (_ : Unit) : Cmd := (.seq (.ops [
 ⟨some 46, .move (.tmp 7), 23, none⟩,
 ⟨some 47, .fieldAddr 61 (.tmp 5) 1, 0, none⟩,
 ⟨some 48, .load 59 (.tmp 47), 59, none⟩,
 ⟨some 49, .fieldAddr 61 (.tmp 5) 2, 0, none⟩,
 ⟨some 50, .load 3 (.tmp 49), 3, none⟩,
 ⟨some 51, .fieldAddr 61 (.tmp 5) 3, 0, none⟩,
 ⟨some 52, .load 3 (.tmp 51), 3, none⟩,
 ⟨some 53, .call ⟨.value (.func 30), #[(.tmp 46), (.tmp 48), (.tmp 50), (.tmp 52)], #[23, 59, 3, 3]⟩, 0, none⟩] [7, 11]) (sg c8S3))
noncomputable def c8S5 (_ : Unit) : Cmd := (.seq (.ops [
 ⟨some 44, .move (.tmp 9), 24, none⟩,
 ⟨some 45, .call ⟨.value (.func 25), #[(.tmp 44)], #[24]⟩, 36, none⟩,
 ⟨some 11, .assign (.tmp 45), 36, none⟩] [5, 7, 11]) (sg c8S4))
noncomputable def c8S6 (_ : Unit) : Cmd := (.seq (.seq (.ops [
 ⟨some 42, .move (.tmp 10), 28, none⟩,
 ⟨some 43, .binOp .neq 28 (.tmp 42) (.const (.int .i64 0)) 28, 4, none⟩] [5, 7, 9, 43])
 (.cond (.tmp 43)
  (.seq (.ops [
  ⟨some 6, .assign (.const (.bool false)), 4, none⟩] [6])
  .ret)
  (.skip [5, 7, 9]))) (sg c8S5))
noncomputable def c8S7 (_ : Unit) : Cmd := (.seq (.ops [
 ⟨some 38, .move (.tmp 7), 23, none⟩,
 ⟨some 39, .call ⟨.value (.func 31), #[(.tmp 38)], #[23]⟩, 63, none⟩,
 ⟨some 37, .move (.tmp 39), 63, none⟩,
 ⟨some 40, .extract (.tmp 37) 0, 24, none⟩,
 ⟨some 41, .extract (.tmp 37) 1, 28, none⟩,
 ⟨some 9, .assign (.tmp 40), 24, none⟩,
 ⟨some 10, .assign (.tmp 41), 28, none⟩] [5, 7, 9, 10]) (sg c8S6))
noncomputable def c8S8 (_ : Unit) : Cmd := (.seq (.ops [
 ⟨some 29, .move (.tmp 7), 23, none⟩,
 ⟨some 30, .fieldAddr 61 (.tmp 4) 1, 0, none⟩,
 ⟨some 31, .load 59 (.tmp 30), 59, none⟩,
 ⟨some 32, .fieldAddr 61 (.tmp 4) 2, 0, none⟩,
 ⟨some 33, .load 3 (.tmp 32), 3, none⟩,
 ⟨some 34, .fieldAddr 61 (.tmp 4) 3, 0, none⟩,
 ⟨some 35, .load 3 (.tmp 34), 3, none⟩,
 ⟨some 36, .call ⟨.value (.func 30), #[(.tmp 29), (.tmp 31), (.tmp 33), (.tmp 35)], #[23, 59, 3, 3]⟩, 0, none⟩] [5, 7]) (sg c8S7))
noncomputable def c8S9 (_ : Unit) : Cmd := (.seq (.ops [
 ⟨some 27, .move (.tmp 8), 24, none⟩,
 ⟨some 28, .call ⟨.value (.func 24), #[(.tmp 27)], #[24]⟩, 28, none⟩] [4, 5, 7]) (sg c8S8))
noncomputable def c8S10 (_ : Unit) : Cmd := (.seq (.ops [
 ⟨some 23, .move (.tmp 7), 23, none⟩,
 ⟨some 24, .fieldAddr 61 (.tmp 4) 0, 0, none⟩,
 ⟨some 25, .load 3 (.tmp 24), 3, none⟩,
 ⟨some 26, .call ⟨.value (.func 29), #[(.tmp 23), (.tmp 25)], #[23, 3]⟩, 0, none⟩] [4, 5, 7, 8]) (sg c8S9))
noncomputable def c8S11 (_ : Unit) : Cmd := (.seq (.ops [
 ⟨some 20, .move (.tmp 8), 24, none⟩,
 ⟨some 21, .move (.tmp 0), 48, none⟩,
 ⟨some 22, .call ⟨.value (.func 23), #[(.tmp 20), (.tmp 21)], #[24, 48]⟩, 0, none⟩] [4, 5, 7, 8]) (sg c8S10))
noncomputable def c8S12 (_ : Unit) : Cmd := (.seq (.seq (.ops [
 ⟨some 18, .move (.tmp 8), 24, none⟩,
 ⟨some 19, .binOp .eql 24 (.tmp 18) (.const (.pointer none)) 24, 4, none⟩] [0, 4, 5, 7, 8, 19])
 (.cond (.tmp 19)
  (.seq (.ops [
  ⟨some 6, .assign (.const (.bool false)), 4, none⟩] [6])
  .ret)
  (.skip [0, 4, 5, 7, 8]))) (sg c8S11))
noncomputable def c8 : Cmd := (.seq (.ops [
 ⟨some 4, .box 61 (.tmp 1), 0, none⟩,
 ⟨some 5, .box 61 (.tmp 2), 0, none⟩,
 ⟨some 6, .assign (.const (.bool false)), 4, none⟩] [0, 4, 5])
 (.seq (.ops [
 ⟨some 15, .call ⟨.value (.func 22), #[(.const (.int .i64 24)), (.const (.int .i64 9))], #[3, 3]⟩, 49, none⟩,
 ⟨some 14, .move (.tmp 15), 49, none⟩,
 ⟨some 16, .extract (.tmp 14) 0, 23, none⟩,
 ⟨some 17, .extract (.tmp 14) 1, 24, none⟩,
 ⟨some 7, .assign (.tmp 16), 23, none⟩,
 ⟨some 8, .assign (.tmp 17), 24, none⟩] [0, 4, 5, 7, 8]) (sg c8S12)))
@[go_sem] theorem go8 : goFunc Try.prog 8 = true := by kernel_rfl
@[go_sem] theorem go9 : goFunc Try.prog 9 = true := by kernel_rfl
@[go_sem] theorem go10 : goFunc Try.prog 10 = true := by kernel_rfl
noncomputable def c11code : Code := match Try.f11.body with | some c => c | none => .skip
noncomputable def c11S0 (_ : Unit) : Cmd := (.cond (.tmp 22)
  (.seq (.ops [
  ⟨some 2, .assign (.const (.pointer none)), 23, none⟩,
  ⟨some 3, .assign (.const (.pointer none)), 24, none⟩,
  ⟨some 4, .assign (.const (.pointer none)), 25, none⟩] [2, 3, 4])
  .ret)
  (.skip [5]))
noncomputable def c11S1 (_ : Unit) : Cmd := (.seq (.ops [
 ⟨some 37, .move (.tmp 5), 23, none⟩,
 ⟨some 38, .move (.tmp 7), 24, none⟩,
 ⟨some 39, .move (.tmp 8), 25, none⟩,
 ⟨some 2, .assign (.tmp 37), 23, none⟩,
 ⟨some 3, .assign (.tmp 38), 24, none⟩,
 ⟨some 4, .assign (.tmp 39), 25, none⟩] [2, 3, 4])
 .ret)
noncomputable def c11S2 (_ : Unit) : Cmd := (.seq (.seq (.ops [
 ⟨some 35, .move (.tmp 6), 28, none⟩,
 ⟨some 36, .binOp .neq 28 (.tmp 35) (.const (.int .i64 0)) 28, 4, none⟩] [5, 7, 8, 36])
 (.cond (.tmp 36)
  (.seq (.ops [
  ⟨some 2, .assign (.const (.pointer none)), 23, none⟩,
  ⟨some 3, .assign (.const (.pointer none)), 24, none⟩,
  ⟨some 4, .assign (.const (.pointer none)), 25, none⟩] [2, 3, 4])
  .ret)
  (.skip [5, 7, 8]))) (sg c11S1))
noncomputable def c11S3 (_ : Unit) : Cmd := (.seq (.ops [
 ⟨some 31, .move (.tmp 7), 24, none⟩,
 ⟨some 32, .call ⟨.value (.func 39), #[(.tmp 31)], #[24]⟩, 82, none⟩,
 ⟨some 30, .move (.tmp 32), 82, none⟩,
 ⟨some 33, .extract (.tmp 30) 0, 25, none⟩,
 ⟨some 34, .extract (.tmp 30) 1, 28, none⟩,
 ⟨some 8, .assign (.tmp 33), 25, none⟩,
 ⟨some 6, .assign (.tmp 34), 28, none⟩] [5, 6, 7, 8]) (sg c11S2))
noncomputable def c11S4 (_ : Unit) : Cmd := (.seq (.seq (.ops [
 ⟨some 28, .move (.tmp 6), 28, none⟩,
 ⟨some 29, .binOp .neq 28 (.tmp 28) (.const (.int .i64 0)) 28, 4, none⟩] [5, 7, 29])
 (.cond (.tmp 29)
  (.seq (.ops [
  ⟨some 2, .assign (.const (.pointer none)), 23, none⟩,
  ⟨some 3, .assign (.const (.pointer none)), 24, none⟩,
  ⟨some 4, .assign (.const (.pointer none)), 25, none⟩] [2, 3, 4])
  .ret)
  (.skip [5, 7]))) (sg c11S3))
noncomputable def c11S5 (_ : Unit) : Cmd := (.seq (.ops [
 ⟨some 24, .move (.tmp 5), 23, none⟩,
 ⟨some 25, .call ⟨.value (.func 31), #[(.tmp 24)], #[23]⟩, 63, none⟩,
 ⟨some 23, .move (.tmp 25), 63, none⟩,
 ⟨some 26, .extract (.tmp 23) 0, 24, none⟩,
 ⟨some 27, .extract (.tmp 23) 1, 28, none⟩,
 ⟨some 7, .assign (.tmp 26), 24, none⟩,
 ⟨some 6, .assign (.tmp 27), 28, none⟩] [5, 6, 7]) (sg c11S4))
noncomputable def c11S6 (_ : Unit) : Cmd := (.seq (.seq (.ops [
 ⟨some 15, .move (.tmp 6), 28, none⟩,
 ⟨some 16, .binOp .neq 28 (.tmp 15) (.const (.int .i64 0)) 28, 4, none⟩,
 ⟨some 17, .move (.tmp 16), 4, none⟩,
 ⟨some 18, .move (.tmp 5), 23, (some (17, false))⟩,
 ⟨some 19, .call ⟨.value (.func 38), #[(.tmp 18), (.const (.int .i64 50))], #[23, 3]⟩, 28, (some (17, false))⟩,
 ⟨some 20, .move (.tmp 6), 28, (some (17, false))⟩,
 ⟨some 21, .binOp .neq 28 (.tmp 19) (.tmp 20) 28, 4, (some (17, false))⟩,
 ⟨some 22, .pick (.tmp 17) (.const (.bool true)) (.tmp 21), 4, none⟩] [5, 22]) (sg c11S0)) (sg c11S5))
noncomputable def c11 : Cmd := (.seq (.ops [
 ⟨some 2, .assign (.const (.pointer none)), 23, none⟩,
 ⟨some 3, .assign (.const (.pointer none)), 24, none⟩,
 ⟨some 4, .assign (.const (.pointer none)), 25, none⟩] [0])
 (.seq (.ops [
 ⟨some 10, .move (.tmp 0), 3, none⟩,
 ⟨some 11, .binOp .add 3 (.tmp 10) (.const (.int .i64 52)) 3, 3, none⟩,
 ⟨some 12, .call ⟨.value (.func 37), #[(.tmp 11)], #[3]⟩, 78, none⟩,
 ⟨some 9, .move (.tmp 12), 78, none⟩,
 ⟨some 13, .extract (.tmp 9) 0, 23, none⟩,
 ⟨some 14, .extract (.tmp 9) 1, 28, none⟩,
 ⟨some 5, .assign (.tmp 13), 23, none⟩,
 ⟨some 6, .assign (.tmp 14), 28, none⟩] [5, 6]) (sg c11S6)))
set_option maxRecDepth 100000 in
theorem ent11 (a0 : Value) (w : World) (K : Value → World → Prop) (h : W Try.prog c11 [(0, a0)] w (finQ Try.prog [.tmp 2, .tmp 3, .tmp 4] K)) : Ret Try.prog 11 [a0] w K :=
  Ret_of_W (code := c11code) Try.func11 (by kernel_rfl) (by kernel_rfl) (of_decide_eq_true (by kernel_rfl)) h
@[go_sem] theorem go11 : goFunc Try.prog 11 = true := by kernel_rfl
noncomputable def c12code : Code := match Try.f12.body with | some c => c | none => .skip
noncomputable def c12S0 (_ : Unit) : Cmd := (.cond (.tmp 8)
  (.seq (.ops [
  ⟨some 2, .assign (.const (.int .i64 3)), 28, none⟩] [2])
  .ret)
  (.skip [0]))
noncomputable def c12S1 (_ : Unit) : Cmd := (.cond (.tmp 14)
  (.seq (.ops [
  ⟨some 2, .assign (.const (.int .i64 1)), 28, none⟩] [2])
  .ret)
  (.skip [0]))
noncomputable def c12S2 (_ : Unit) : Cmd := (.ops [
 ⟨some 25, .binOp .add 3 (.tmp 16) (.const (.int .i64 1)) 3, 3, none⟩,
 ⟨some 16, .move (.tmp 25), 3, none⟩] [0, 3, 16])
noncomputable def c12S3 (_ : Unit) : Cmd := (.seq (.block 1 (.seq (.ops [
 ⟨some 18, .move (.tmp 16), 3, none⟩,
 ⟨some 4, .assign (.tmp 18), 3, none⟩] [0, 3, 4, 16])
 (.ops [
 ⟨some 20, .move (.tmp 3), 9, none⟩,
 ⟨some 21, .move (.tmp 4), 3, none⟩,
 ⟨some 22, .call ⟨.value (.func 42), #[(.tmp 20), (.tmp 21), (.const (.bool true))], #[9, 3, 4]⟩, 88, none⟩,
 ⟨some 19, .move (.tmp 22), 88, none⟩,
 ⟨some 23, .extract (.tmp 19) 0, 9, none⟩,
 ⟨some 24, .extract (.tmp 19) 1, 4, none⟩,
 ⟨some 3, .assign (.tmp 23), 9, none⟩] [0, 3, 16]))) (sg c12S2))
noncomputable def c12L0 (_ : Unit) : Cmd := (.seq (.ops [
 ⟨some 17, .binOp .lss 3 (.tmp 16) (.const (.int .i64 2)) 3, 4, none⟩] [0, 3, 16, 17])
 (.seq (.cond (.tmp 17)
  (.skip [0, 3, 16])
  (.exit 0 [0, 3])) (sg c12S3)))
noncomputable def c12S4 (_ : Unit) : Cmd := (.seq (.ops [
 ⟨some 29, .move (.tmp 5), 28, none⟩,
 ⟨some 30, .binOp .neq 28 (.tmp 29) (.const (.int .i64 0)) 28, 4, none⟩] [0, 5, 30])
 (.cond (.tmp 30)
  (.seq (.ops [
  ⟨some 31, .move (.tmp 5), 28, none⟩,
  ⟨some 2, .assign (.tmp 31), 28, none⟩] [2])
  .ret)
  (.skip [0])))
noncomputable def c12S5 (_ : Unit) : Cmd := .ret
noncomputable def c12S6 (_ : Unit) : Cmd := (.seq (.ops [
 ⟨some 32, .move (.tmp 0), 25, none⟩,
 ⟨some 33, .call ⟨.value (.func 43), #[(.tmp 32), (.const (.int .i64 1)), (.const (.string (ofL [])))], #[25, 3, 9]⟩, 28, none⟩,
 ⟨some 2, .assign (.tmp 33), 28, none⟩] [2]) (sg c12S5))
noncomputable def c12S7 (_ : Unit) : Cmd := (.seq (.seq (.ops [
 ⟨some 26, .move (.tmp 0), 25, none⟩,
 ⟨some 27, .move (.tmp 3), 9, none⟩,
 ⟨some 28, .call ⟨.value (.func 43), #[(.tmp 26), (.const (.int .i64 0)), (.tmp 27)], #[25, 3, 9]⟩, 28, none⟩,
 ⟨some 5, .assign (.tmp 28), 28, none⟩] [0, 5]) (sg c12S4)) (sg c12S6))
noncomputable def c12S8 (_ : Unit) : Cmd := (.seq (.seq (.ops [
 ⟨some 16, .move (.const (.int .i64 0)), 3, none⟩] [0, 3, 16])
 (.block 0 (.loop (sg c12L0)))) (sg c12S7))
noncomputable def c12S9 (_ : Unit) : Cmd := (.seq (.ops [
 ⟨some 15, .call ⟨.value (.func 41), #[(.const (.int .i64 2048))], #[3]⟩, 9, none⟩,
 ⟨some 3, .assign (.tmp 15), 9, none⟩] [0, 3]) (sg c12S8))
noncomputable def c12S10 (_ : Unit) : Cmd := (.seq (.seq (.ops [
 ⟨some 9, .move (.tmp 0), 25, none⟩,
 ⟨some 10, .nilCheck (.tmp 9), 0, none⟩,
 ⟨some 11, .fieldAddr 86 (.tmp 10) 0, 0, none⟩,
 ⟨some 12, .load 24 (.tmp 11), 24, none⟩,
 ⟨some 13, .call ⟨.value (.func 36), #[(.tmp 12)], #[24]⟩, 3, none⟩,
 ⟨some 14, .binOp .leq 3 (.tmp 13) (.const (.int .i64 2)) 3, 4, none⟩] [0, 14]) (sg c12S1)) (sg c12S9))
noncomputable def c12 : Cmd := (.seq (.ops [
 ⟨some 2, .assign (.const (.int .i64 0)), 28, none⟩] [0])
 (.seq (.seq (.ops [
 ⟨some 6, .move (.tmp 0), 25, none⟩,
 ⟨some 7, .call ⟨.value (.func 40), #[(.tmp 6)], #[25]⟩, 4, none⟩,
 ⟨some 8, .unOp .not 4 (.tmp 7), 4, none⟩] [0, 8]) (sg c12S0)) (sg c12S10)))
set_option maxRecDepth 100000 in
theorem ent12 (a0 : Value) (w : World) (K : Value → World → Prop) (h : W Try.prog c12 [(0, a0)] w (finQ Try.prog [.tmp 2] K)) : Ret Try.prog 12 [a0] w K :=
  Ret_of_W (code := c12code) Try.func12 (by kernel_rfl) (by kernel_rfl) (of_decide_eq_true (by kernel_rfl)) h
@[go_sem] theorem go12 : goFunc Try.prog 12 = true := by kernel_rfl
noncomputable def c13code : Code := match Try.f13.body with | some c => c | none => .skip
noncomputable def c13S0 (_ : Unit) : Cmd := (.seq (.ops [
 ⟨some 38, .move (.tmp 8), 28, none⟩,
 ⟨some 39, .binOp .neq 28 (.tmp 38) (.const (.int .i64 0)) 28, 4, none⟩] [0, 6, 8, 39])
 (.cond (.tmp 39)
  (.seq (.ops [
  ⟨some 40, .move (.tmp 8), 28, none⟩,
  ⟨some 2, .assign (.const (.int .i64 0)), 3, none⟩,
  ⟨some 3, .assign (.tmp 40), 28, none⟩] [2, 3])
  .ret)
  (.skip [0, 6])))
noncomputable def c13S1 (_ : Unit) : Cmd := .ret
noncomputable def c13S2 (_ : Unit) : Cmd := (.seq (.ops [
 ⟨some 41, .move (.tmp 6), 3, none⟩,
 ⟨some 42, .move (.tmp 0), 25, none⟩,
 ⟨some 43, .move (.tmp 6), 3, none⟩,
 ⟨some 44, .call ⟨.value (.func 43), #[(.tmp 42), (.tmp 43), (.const (.string (ofL [])))], #[25, 3, 9]⟩, 28, none⟩,
 ⟨some 2, .assign (.tmp 41), 3, none⟩,
 ⟨some 3, .assign (.tmp 44), 28, none⟩] [2, 3]) (sg c13S1))
noncomputable def c13S3 (_ : Unit) : Cmd := (.seq (.seq (.ops [
 ⟨some 35, .move (.tmp 0), 25, none⟩,
 ⟨some 36, .move (.tmp 4), 9, none⟩,
 ⟨some 37, .call ⟨.value (.func 43), #[(.tmp 35), (.const (.int .i64 0)), (.tmp 36)], #[25, 3, 9]⟩, 28, none⟩,
 ⟨some 8, .assign (.tmp 37), 28, none⟩] [0, 6, 8]) (sg c13S0)) (sg c13S2))
noncomputable def c13S4 (_ : Unit) : Cmd := (.seq (.ops [
 ⟨some 30, .move (.tmp 4), 9, none⟩,
 ⟨some 31, .move (.tmp 6), 3, none⟩,
 ⟨some 32, .call ⟨.value (.func 42), #[(.tmp 30), (.tmp 31), (.const (.bool true))], #[9, 3, 4]⟩, 88, none⟩,
 ⟨some 29, .move (.tmp 32), 88, none⟩,
 ⟨some 33, .extract (.tmp 29) 0, 9, none⟩,
 ⟨some 34, .extract (.tmp 29) 1, 4, none⟩,
 ⟨some 4, .assign (.tmp 33), 9, none⟩] [0, 4, 6]) (sg c13S3))
noncomputable def c13S5 (_ : Unit) : Cmd := (.seq (.seq (.ops [
 ⟨some 27, .move (.tmp 7), 4, none⟩,
 ⟨some 28, .unOp .not 4 (.tmp 27), 4, none⟩] [0, 4, 6, 28])
 (.cond (.tmp 28)
  (.seq (.ops [
  ⟨some 2, .assign (.const (.int .i64 0)), 3, none⟩,
  ⟨some 3, .assign (.const (.int .i64 13)), 28, none⟩] [2, 3])
  .ret)
  (.skip [0, 4, 6]))) (sg c13S4))
noncomputable def c13S6 (_ : Unit) : Cmd := (.seq (.ops [
 ⟨some 18, .move (.tmp 4), 9, none⟩,
 ⟨some 19, .move (.tmp 0), 25, none⟩,
 ⟨some 20, .nilCheck (.tmp 19), 0, none⟩,
 ⟨some 21, .fieldAddr 86 (.tmp 20) 0, 0, none⟩,
 ⟨some 22, .load 24 (.tmp 21), 24, none⟩,
 ⟨some 23, .call ⟨.value (.func 36), #[(.tmp 22)], #[24]⟩, 3, none⟩,
 ⟨some 24, .call ⟨.value (.func 45), #[(.tmp 18), (.const (.int .i64 2)), (.tmp 23)], #[9, 3, 3]⟩, 91, none⟩,
 ⟨some 17, .move (.tmp 24), 91, none⟩,
 ⟨some 25, .extract (.tmp 17) 0, 3, none⟩,
 ⟨some 26, .extract (.tmp 17) 1, 4, none⟩,
 ⟨some 6, .assign (.tmp 25), 3, none⟩,
 ⟨some 7, .assign (.tmp 26), 4, none⟩] [0, 4, 6, 7]) (sg c13S5))
noncomputable def c13S7 (_ : Unit) : Cmd := (.seq (.seq (.ops [
 ⟨some 14, .move (.tmp 5), 28, none⟩,
 ⟨some 15, .binOp .neq 28 (.tmp 14) (.const (.int .i64 0)) 28, 4, none⟩] [0, 4, 5, 15])
 (.cond (.tmp 15)
  (.seq (.ops [
  ⟨some 16, .move (.tmp 5), 28, none⟩,
  ⟨some 2, .assign (.const (.int .i64 0)), 3, none⟩,
  ⟨some 3, .assign (.tmp 16), 28, none⟩] [2, 3])
  .ret)
  (.skip [0, 4]))) (sg c13S6))
noncomputable def c13 : Cmd := (.seq (.ops [
 ⟨some 2, .assign (.const (.int .i64 0)), 3, none⟩,
 ⟨some 3, .assign (.const (.int .i64 0)), 28, none⟩] [0])
 (.seq (.ops [
 ⟨some 10, .move (.tmp 0), 25, none⟩,
 ⟨some 11, .call ⟨.value (.func 44), #[(.tmp 10)], #[25]⟩, 41, none⟩,
 ⟨some 9, .move (.tmp 11), 41, none⟩,
 ⟨some 12, .extract (.tmp 9) 0, 9, none⟩,
 ⟨some 13, .extract (.tmp 9) 1, 28, none⟩,
 ⟨some 4, .assign (.tmp 12), 9, none⟩,
 ⟨some 5, .assign (.tmp 13), 28, none⟩] [0, 4, 5]) (sg c13S7)))
set_option maxRecDepth 100000 in
theorem ent13 (a0 : Value) (w : World) (K : Value → World → Prop) (h : W Try.prog c13 [(0, a0)] w (finQ Try.prog [.tmp 2, .tmp 3] K)) : Ret Try.prog 13 [a0] w K :=
  Ret_of_W (code := c13code) Try.func13 (by kernel_rfl) (by kernel_rfl) (of_decide_eq_true (by kernel_rfl)) h
@[go_sem] theorem go13 : goFunc Try.prog 13 = true := by kernel_rfl
noncomputable def c14code : Code := match Try.f14.body with | some c => c | none => .skip
noncomputable def c14S0 (_ : Unit) : Cmd := (.cond (.tmp 37)
  (.ops [
  ⟨some 38, .move (.tmp 6), 3, none⟩,
  ⟨some 39, .binOp .sub 3 (.tmp 38) (.const (.int .i64 1)) 3, 3, none⟩,
  ⟨some 6, .assign (.tmp 39), 3, none⟩] [3, 5, 6, 7])
  (.skip [3, 5, 6, 7]))
noncomputable def c14S1 (_ : Unit) : Cmd := (.ops [
 ⟨some 33, .move (.tmp 7), 3, none⟩,
 ⟨some 34, .binOp .add 3 (.tmp 33) (.const (.int .i64 1)) 3, 3, none⟩,
 ⟨some 7, .assign (.tmp 34), 3, none⟩] [3, 5, 6, 7])
noncomputable def c14S2 (_ : Unit) : Cmd := (.seq (.block 1 (.seq (.ops [
 ⟨some 35, .move (.tmp 3), 9, none⟩,
 ⟨some 36, .move (.tmp 7), 3, none⟩,
 ⟨some 37, .call ⟨.value (.func 47), #[(.tmp 35), (.tmp 36)], #[9, 3]⟩, 4, none⟩] [3, 5, 6, 7, 37]) (sg c14S0))) (sg c14S1))
noncomputable def c14L0 (_ : Unit) : Cmd := (.seq (.seq (.ops [
 ⟨some 30, .move (.tmp 7), 3, none⟩,
 ⟨some 31, .move (.tmp 5), 3, none⟩,
 ⟨some 32, .binOp .lss 3 (.tmp 30) (.tmp 31) 3, 4, none⟩] [3, 5, 6, 7, 32])
 (.cond (.tmp 32)
  (.skip [3, 5, 6, 7])
  (.exit 0 [6]))) (sg c14S2))
noncomputable def c14S3 (_ : Unit) : Cmd := (.seq (.ops [
 ⟨some 40, .move (.tmp 6), 3, none⟩,
 ⟨some 2, .assign (.tmp 40), 3, none⟩] [2])
 .ret)
noncomputable def c14S4 (_ : Unit) : Cmd := (.seq (.seq (.ops [
 ⟨some 27, .move (.tmp 5), 3, none⟩,
 ⟨some 28, .binOp .quo 3 (.tmp 27) (.const (.int .i64 8)) 3, 3, none⟩,
 ⟨some 29, .binOp .mul 3 (.tmp 28) (.const (.int .i64 8)) 3, 3, none⟩,
 ⟨some 7, .assign (.tmp 29), 3, none⟩] [3, 5, 6, 7])
 (.block 0 (.loop (sg c14L0)))) (sg c14S3))
noncomputable def c14S5 (_ : Unit) : Cmd := (.seq (.ops [
 ⟨some 20, .move (.tmp 5), 3, none⟩,
 ⟨some 21, .move (.tmp 3), 9, none⟩,
 ⟨some 22, .move (.tmp 5), 3, none⟩,
 ⟨some 23, .binOp .quo 3 (.tmp 22) (.const (.int .i64 8)) 3, 3, none⟩,
 ⟨some 24, .slice 9 (.tmp 21) none (some (.tmp 23)) none, 9, none⟩,
 ⟨some 25, .call ⟨.value (.func 46), #[(.tmp 24)], #[9]⟩, 3, none⟩,
 ⟨some 26, .binOp .sub 3 (.tmp 20) (.tmp 25) 3, 3, none⟩,
 ⟨some 6, .assign (.tmp 26), 3, none⟩] [3, 5, 6]) (sg c14S4))
noncomputable def c14S6 (_ : Unit) : Cmd := (.seq (.ops [
 ⟨some 15, .move (.tmp 0), 25, none⟩,
 ⟨some 16, .nilCheck (.tmp 15), 0, none⟩,
 ⟨some 17, .fieldAddr 86 (.tmp 16) 0, 0, none⟩,
 ⟨some 18, .load 24 (.tmp 17), 24, none⟩,
 ⟨some 19, .call ⟨.value (.func 36), #[(.tmp 18)], #[24]⟩, 3, none⟩,
 ⟨some 5, .assign (.tmp 19), 3, none⟩] [3, 5]) (sg c14S5))
noncomputable def c14S7 (_ : Unit) : Cmd := (.seq (.seq (.ops [
 ⟨some 13, .move (.tmp 4), 28, none⟩,
 ⟨some 14, .binOp .neq 28 (.tmp 13) (.const (.int .i64 0)) 28, 4, none⟩] [0, 3, 14])
 (.cond (.tmp 14)
  (.seq (.ops [
  ⟨some 2, .assign (.const (.int .i64 0)), 3, none⟩] [2])
  .ret)
  (.skip [0, 3]))) (sg c14S6))
noncomputable def c14 : Cmd := (.seq (.ops [
 ⟨some 2, .assign (.const (.int .i64 0)), 3, none⟩] [0])
 (.seq (.ops [
 ⟨some 9, .move (.tmp 0), 25, none⟩,
 ⟨some 10, .call ⟨.value (.func 44), #[(.tmp 9)], #[25]⟩, 41, none⟩,
 ⟨some 8, .move (.tmp 10), 41, none⟩,
 ⟨some 11, .extract (.tmp 8) 0, 9, none⟩,
 ⟨some 12, .extract (.tmp 8) 1, 28, none⟩,
 ⟨some 3, .assign (.tmp 11), 9, none⟩,
 ⟨some 4, .assign (.tmp 12), 28, none⟩] [0, 3, 4]) (sg c14S7)))
set_option maxRecDepth 100000 in
theorem ent14 (a0 : Value) (w : World) (K : Value → World → Prop) (h : W Try.prog c14 [(0, a0)] w (finQ Try.prog [.tmp 2] K)) : Ret Try.prog 14 [a0] w K :=
  Ret_of_W (code := c14code) Try.func14 (by kernel_rfl) (by kernel_rfl) (of_decide_eq_true (by kernel_rfl)) h
@[go_sem] theorem go14 : goFunc Try.prog 14 = true := by kernel_rfl
noncomputable def c15code : Code := match Try.f15.body with | some c => c | none => .skip
noncomputable def c15S0 (_ : Unit) : Cmd := (.seq (.ops [
 ⟨some 11, .move (.tmp 5), 28, none⟩,
 ⟨some 12, .binOp .neq 28 (.tmp 11) (.const (.int .i64 0)) 28, 4, none⟩] [0, 1, 5, 12])
 (.cond (.tmp 12)
  (.seq (.ops [
  ⟨some 13, .move (.tmp 5), 28, none⟩,
  ⟨some 4, .assign (.tmp 13), 28, none⟩] [4])
  .ret)
  (.skip [0, 1])))
noncomputable def c15S1 (_ : Unit) : Cmd := .ret
noncomputable def c15S2 (_ : Unit) : Cmd := (.seq (.ops [
 ⟨some 25, .move (.tmp 0), 25, none⟩,
 ⟨some 26, .move (.tmp 6), 9, none⟩,
 ⟨some 27, .call ⟨.value (.func 43), #[(.tmp 25), (.const (.int .i64 0)), (.tmp 26)], #[25, 3, 9]⟩, 28, none⟩,
 ⟨some 4, .assign (.tmp 27), 28, none⟩] [4]) (sg c15S1))
noncomputable def c15S3 (_ : Unit) : Cmd := (.seq (.ops [
 ⟨some 20, .move (.tmp 6), 9, none⟩,
 ⟨some 21, .move (.tmp 1), 3, none⟩,
 ⟨some 22, .call ⟨.value (.func 42), #[(.tmp 20), (.tmp 21), (.const (.bool false))], #[9, 3, 4]⟩, 88, none⟩,
 ⟨some 19, .move (.tmp 22), 88, none⟩,
 ⟨some 23, .extract (.tmp 19) 0, 9, none⟩,
 ⟨some 24, .extract (.tmp 19) 1, 4, none⟩,
 ⟨some 6, .assign (.tmp 23), 9, none⟩] [0, 6]) (sg c15S2))
noncomputable def c15S4 (_ : Unit) : Cmd := (.seq (.ops [
 ⟨some 15, .move (.tmp 0), 25, none⟩,
 ⟨some 16, .call ⟨.value (.func 44), #[(.tmp 15)], #[25]⟩, 41, none⟩,
 ⟨some 14, .move (.tmp 16), 41, none⟩,
 ⟨some 17, .extract (.tmp 14) 0, 9, none⟩,
 ⟨some 18, .extract (.tmp 14) 1, 28, none⟩,
 ⟨some 6, .assign (.tmp 17), 9, none⟩,
 ⟨some 7, .assign (.tmp 18), 28, none⟩] [0, 1, 6]) (sg c15S3))
noncomputable def c15 : Cmd := (.seq (.ops [
 ⟨some 4, .assign (.const (.int .i64 0)), 28, none⟩] [0, 1])
 (.seq (.seq (.ops [
 ⟨some 8, .move (.tmp 0), 25, none⟩,
 ⟨some 9, .move (.tmp 1), 3, none⟩,
 ⟨some 10, .call ⟨.value (.func 48), #[(.tmp 8), (.tmp 9)], #[25, 3]⟩, 28, none⟩,
 ⟨some 5, .assign (.tmp 10), 28, none⟩] [0, 1, 5]) (sg c15S0)) (sg c15S4)))
set_option maxRecDepth 100000 in
theorem ent15 (a0 a1 : Value) (w : World) (K : Value → World → Prop) (h : W Try.prog c15 [(0, a0), (1, a1)] w (finQ Try.prog [.tmp 4] K)) : Ret Try.prog 15 [a0, a1] w K :=
  Ret_of_W (code := c15code) Try.func15 (by kernel_rfl) (by kernel_rfl) (of_decide_eq_true (by kernel_rfl)) h
@[go_sem] theorem go15 : goFunc Try.prog 15 = true := by kernel_rfl
noncomputable def c16code : Code := match Try.f16.body with | some c => c | none => .skip
noncomputable def c16S0 (_ : Unit) : Cmd := (.cond (.tmp 23)
  (.seq (.ops [
  ⟨some 0, .assign (.const (.bool false)), 4, none⟩] [0])
  .ret)
  (.skip [3]))
noncomputable def c16S1 (_ : Unit) : Cmd := (.seq (.ops [
 ⟨some 41, .move (.tmp 5), 28, none⟩,
 ⟨some 42, .binOp .eql 28 (.tmp 41) (.const (.int .i64 0)) 28, 4, none⟩,
 ⟨some 43, .move (.tmp 42), 4, none⟩,
 ⟨some 44, .move (.tmp 7), 28, (some (43, true))⟩,
 ⟨some 45, .move (.tmp 5), 28, (some (43, true))⟩,
 ⟨some 46, .binOp .eql 28 (.tmp 44) (.tmp 45) 28, 4, (some (43, true))⟩,
 ⟨some 47, .pick (.tmp 43) (.tmp 46) (.const (.bool false)), 4, none⟩,
 ⟨some 48, .move (.tmp 47), 4, none⟩,
 ⟨some 49, .move (.tmp 8), 28, (some (48, true))⟩,
 ⟨some 50, .move (.tmp 5), 28, (some (48, true))⟩,
 ⟨some 51, .binOp .eql 28 (.tmp 49) (.tmp 50) 28, 4, (some (48, true))⟩,
 ⟨some 52, .pick (.tmp 48) (.tmp 51) (.const (.bool false)), 4, none⟩,
 ⟨some 53, .move (.tmp 52), 4, none⟩,
 ⟨some 54, .move (.tmp 10), 28, (some (53, true))⟩,
 ⟨some 55, .move (.tmp 5), 28, (some (53, true))⟩,
 ⟨some 56, .binOp .eql 28 (.tmp 54) (.tmp 55) 28, 4, (some (53, true))⟩,
 ⟨some 57, .pick (.tmp 53) (.tmp 56) (.const (.bool false)), 4, none⟩,
 ⟨some 58, .move (.tmp 57), 4, none⟩,
 ⟨some 59, .move (.tmp 4), 3, (some (58, true))⟩,
 ⟨some 60, .binOp .eql 3 (.tmp 59) (.const (.int .i64 2)) 3, 4, (some (58, true))⟩,
 ⟨some 61, .pick (.tmp 58) (.tmp 60) (.const (.bool false)), 4, none⟩,
 ⟨some 62, .move (.tmp 61), 4, none⟩,
 ⟨some 63, .move (.tmp 6), 3, (some (62, true))⟩,
 ⟨some 64, .binOp .eql 3 (.tmp 63) (.const (.int .i64 3)) 3, 4, (some (62, true))⟩,
 ⟨some 65, .pick (.tmp 62) (.tmp 64) (.const (.bool false)), 4, none⟩,
 ⟨some 66, .move (.tmp 65), 4, none⟩,
 ⟨some 67, .move (.tmp 9), 3, (some (66, true))⟩,
 ⟨some 68, .binOp .eql 3 (.tmp 67) (.const (.int .i64 2)) 3, 4, (some (66, true))⟩,
 ⟨some 69, .pick (.tmp 66) (.tmp 68) (.const (.bool false)), 4, none⟩,
 ⟨some 0, .assign (.tmp 69), 4, none⟩] [0])
 .ret)
noncomputable def c16S2 (_ : Unit) : Cmd := (.seq (.ops [
 ⟨some 37, .move (.tmp 3), 25, none⟩,
 ⟨some 38, .call ⟨.value (.func 13), #[(.tmp 37)], #[25]⟩, 30, none⟩,
 ⟨some 36, .move (.tmp 38), 30, none⟩,
 ⟨some 39, .extract (.tmp 36) 0, 3, none⟩,
 ⟨some 40, .extract (.tmp 36) 1, 28, none⟩,
 ⟨some 9, .assign (.tmp 39), 3, none⟩,
 ⟨some 10, .assign (.tmp 40), 28, none⟩] [4, 5, 6, 7, 8, 9, 10]) (sg c16S1))
noncomputable def c16S3 (_ : Unit) : Cmd := (.seq (.ops [
 ⟨some 34, .move (.tmp 3), 25, none⟩,
 ⟨some 35, .call ⟨.value (.func 15), #[(.tmp 34), (.const (.int .i64 2))], #[25, 3]⟩, 28, none⟩,
 ⟨some 8, .assign (.tmp 35), 28, none⟩] [3, 4, 5, 6, 7, 8]) (sg c16S2))
noncomputable def c16S4 (_ : Unit) : Cmd := (.seq (.ops [
 ⟨some 30, .move (.tmp 3), 25, none⟩,
 ⟨some 31, .call ⟨.value (.func 13), #[(.tmp 30)], #[25]⟩, 30, none⟩,
 ⟨some 29, .move (.tmp 31), 30, none⟩,
 ⟨some 32, .extract (.tmp 29) 0, 3, none⟩,
 ⟨some 33, .extract (.tmp 29) 1, 28, none⟩,
 ⟨some 6, .assign (.tmp 32), 3, none⟩,
 ⟨some 7, .assign (.tmp 33), 28, none⟩] [3, 4, 5, 6, 7]) (sg c16S3))
noncomputable def c16S5 (_ : Unit) : Cmd := (.seq (.ops [
 ⟨some 25, .move (.tmp 3), 25, none⟩,
 ⟨some 26, .call ⟨.value (.func 13), #[(.tmp 25)], #[25]⟩, 30, none⟩,
 ⟨some 24, .move (.tmp 26), 30, none⟩,
 ⟨some 27, .extract (.tmp 24) 0, 3, none⟩,
 ⟨some 28, .extract (.tmp 24) 1, 28, none⟩,
 ⟨some 4, .assign (.tmp 27), 3, none⟩,
 ⟨some 5, .assign (.tmp 28), 28, none⟩] [3, 4, 5]) (sg c16S4))
noncomputable def c16S6 (_ : Unit) : Cmd := (.seq (.seq (.ops [
 ⟨some 16, .move (.tmp 3), 25, none⟩,
 ⟨some 17, .call ⟨.value (.func 12), #[(.tmp 16)], #[25]⟩, 28, none⟩,
 ⟨some 18, .binOp .neq 28 (.tmp 17) (.const (.int .i64 0)) 28, 4, none⟩,
 ⟨some 19, .move (.tmp 18), 4, none⟩,
 ⟨some 20, .move (.tmp 3), 25, (some (19, false))⟩,
 ⟨some 21, .call ⟨.value (.func 14), #[(.tmp 20)], #[25]⟩, 3, (some (19, false))⟩,
 ⟨some 22, .binOp .neq 3 (.tmp 21) (.const (.int .i64 3)) 3, 4, (some (19, false))⟩,
 ⟨some 23, .pick (.tmp 19) (.const (.bool true)) (.tmp 22), 4, none⟩] [3, 23]) (sg c16S0)) (sg c16S5))
noncomputable def c16 : Cmd := (.seq (.ops [
 ⟨some 0, .assign (.const (.bool false)), 4, none⟩] [])
 (.seq (.ops [
 ⟨some 12, .call ⟨.value (.func 11), #[(.const (.int .i64 5))], #[3]⟩, 26, none⟩,
 ⟨some 11, .move (.tmp 12), 26, none⟩,
 ⟨some 13, .extract (.tmp 11) 0, 23, none⟩,
 ⟨some 14, .extract (.tmp 11) 1, 24, none⟩,
 ⟨some 15, .extract (.tmp 11) 2, 25, none⟩,
 ⟨some 1, .assign (.tmp 13), 23, none⟩,
 ⟨some 2, .assign (.tmp 14), 24, none⟩,
 ⟨some 3, .assign (.tmp 15), 25, none⟩] [3]) (sg c16S6)))
set_option maxRecDepth 100000 in
theorem ent16 (w : World) (K : Value → World → Prop) (h : W Try.prog c16 [] w (finQ Try.prog [.tmp 0] K)) : Ret Try.prog 16 [] w K :=
  Ret_of_W (code := c16code) Try.func16 (by kernel_rfl) (by kernel_rfl) (of_decide_eq_true (by kernel_rfl)) h
@[go_sem] theorem go16 : goFunc Try.prog 16 = true := by kernel_rfl
noncomputable def c17code : Code := match Try.f17.body with | some c => c | none => .skip
noncomputable def c17S0 (_ : Unit) : Cmd := (.seq (.ops [
 ⟨some 11, .move (.tmp 7), 28, none⟩,
 ⟨some 12, .binOp .neq 28 (.tmp 11) (.const (.int .i64 0)) 28, 4, none⟩] [0, 1, 2, 7, 12])
 (.cond (.tmp 12)
  (.seq (.ops [
  ⟨some 13, .move (.tmp 7), 28, none⟩,
  ⟨some 6, .assign (.tmp 13), 28, none⟩] [6])
  .ret)
  (.skip [0, 1, 2])))
noncomputable def c17S1 (_ : Unit) : Cmd := .ret
noncomputable def c17S2 (_ : Unit) : Cmd := (.seq (.ops [
 ⟨some 14, .move (.tmp 0), 25, none⟩,
 ⟨some 15, .move (.tmp 1), 3, none⟩,
 ⟨some 16, .move (.tmp 2), 9, none⟩,
 ⟨some 17, .call ⟨.value (.func 43), #[(.tmp 14), (.tmp 15), (.tmp 16)], #[25, 3, 9]⟩, 28, none⟩,
 ⟨some 6, .assign (.tmp 17), 28, none⟩] [6]) (sg c17S1))
noncomputable def c17 : Cmd := (.seq (.ops [
 ⟨some 6, .assign (.const (.int .i64 0)), 28, none⟩] [0, 1, 2])
 (.seq (.seq (.ops [
 ⟨some 8, .move (.tmp 0), 25, none⟩,
 ⟨some 9, .move (.tmp 1), 3, none⟩,
 ⟨some 10, .call ⟨.value (.func 48), #[(.tmp 8), (.tmp 9)], #[25, 3]⟩, 28, none⟩,
 ⟨some 7, .assign (.tmp 10), 28, none⟩] [0, 1, 2, 7]) (sg c17S0)) (sg c17S2)))
set_option maxRecDepth 100000 in
theorem ent17 (a0 a1 a2 : Value) (w : World) (K : Value → World → Prop) (h : W Try.prog c17 [(0, a0), (1, a1), (2, a2)] w (finQ Try.prog [.tmp 6] K)) : Ret Try.prog 17 [a0, a1, a2] w K :=
  Ret_of_W (code := c17code) Try.func17 (by kernel_rfl) (by kernel_rfl) (of_decide_eq_true (by kernel_rfl)) h
@[go_sem] theorem go17 : goFunc Try.prog 17 = true := by kernel_rfl
noncomputable def c18code : Code := match Try.f18.body with | some c => c | none => .skip
noncomputable def c18S0 (_ : Unit) : Cmd := (.seq (.ops [
 ⟨some 10, .move (.tmp 6), 28, none⟩,
 ⟨some 11, .binOp .neq 28 (.tmp 10) (.const (.int .i64 0)) 28, 4, none⟩] [0, 1, 6, 11])
 (.cond (.tmp 11)
  (.seq (.ops [
  ⟨some 12, .move (.tmp 6), 28, none⟩,
  ⟨some 4, .assign (.const (.string (ofL []))), 9, none⟩,
  ⟨some 5, .assign (.tmp 12), 28, none⟩] [4, 5])
  .ret)
  (.skip [0, 1])))
noncomputable def c18S1 (_ : Unit) : Cmd := .ret
noncomputable def c18S2 (_ : Unit) : Cmd := (.seq (.ops [
 ⟨some 13, .move (.tmp 0), 25, none⟩,
 ⟨some 14, .move (.tmp 1), 3, none⟩,
 ⟨some 15, .call ⟨.value (.func 49), #[(.tmp 13), (.tmp 14)], #[25, 3]⟩, 41, none⟩,
 ⟨some 16, .extract (.tmp 15) 0, 9, none⟩,
 ⟨some 17, .extract (.tmp 15) 1, 28, none⟩,
 ⟨some 4, .assign (.tmp 16), 9, none⟩,
 ⟨some 5, .assign (.tmp 17), 28, none⟩] [4, 5]) (sg c18S1))
noncomputable def c18 : Cmd := (.seq (.ops [
 ⟨some 4, .assign (.const (.string (ofL []))), 9, none⟩,
 ⟨some 5, .assign (.const (.int .i64 0)), 28, none⟩] [0, 1])
 (.seq (.seq (.ops [
 ⟨some 7, .move (.tmp 0), 25, none⟩,
 ⟨some 8, .move (.tmp 1), 3, none⟩,
 ⟨some 9, .call ⟨.value (.func 48), #[(.tmp 7), (.tmp 8)], #[25, 3]⟩, 28, none⟩,
 ⟨some 6, .assign (.tmp 9), 28, none⟩] [0, 1, 6]) (sg c18S0)) (sg c18S2)))
set_option maxRecDepth 100000 in
theorem ent18 (a0 a1 : Value) (w : World) (K : Value → World → Prop) (h : W Try.prog c18 [(0, a0), (1, a1)] w (finQ Try.prog [.tmp 4, .tmp 5] K)) : Ret Try.prog 18 [a0, a1] w K :=
  Ret_of_W (code := c18code) Try.func18 (by kernel_rfl) (by kernel_rfl) (of_decide_eq_true (by kernel_rfl)) h
@[go_sem] theorem go18 : goFunc Try.prog 18 = true := by kernel_rfl
noncomputable def c19code : Code := match Try.f19.body with | some c => c | none => .skip
noncomputable def c19 : Cmd := (.seq (.ops [
 ⟨some 2, .assign (.const (.string (ofL []))), 9, none⟩] [0])
 (.seq (.ops [
 ⟨some 3, .move (.tmp 0), 9, none⟩,
 ⟨some 4, .move (.tmp 0), 9, none⟩,
 ⟨some 5, .call ⟨.builtin .len, #[(.tmp 4)], #[9]⟩, 3, none⟩,
 ⟨some 6, .binOp .sub 3 (.const (.int .i64 256)) (.tmp 5) 3, 3, none⟩,
 ⟨some 7, .makeSlice 95 (.tmp 6) (.tmp 6), 95, none⟩,
 ⟨some 8, .convert 95 9 (.tmp 7), 9, none⟩,
 ⟨some 9, .binOp .add 9 (.tmp 3) (.tmp 8) 9, 9, none⟩,
 ⟨some 2, .assign (.tmp 9), 9, none⟩] [2])
 .ret))
set_option maxRecDepth 100000 in
theorem ent19 (a0 : Value) (w : World) (K : Value → World → Prop) (h : W Try.prog c19 [(0, a0)] w (finQ Try.prog [.tmp 2] K)) : Ret Try.prog 19 [a0] w K :=
  Ret_of_W (code := c19code) Try.func19 (by kernel_rfl) (by kernel_rfl) (of_decide_eq_true (by kernel_rfl)) h
@[go_sem] theorem go19 : goFunc Try.prog 19 = true := by kernel_rfl
@[go_sem] theorem go20 : goFunc Try.prog 20 = true := by kernel_rfl
@[go_sem] theorem go21 : goFunc Try.prog 21 = true := by kernel_rfl
@[go_sem] theorem go22 : goFunc Try.prog 22 = true := by kernel_rfl
@[go_sem] theorem go23 : goFunc Try.prog 23 = true := by kernel_rfl
@[go_sem] theorem go25 : goFunc Try.prog 25 = true := by kernel_rfl
@[go_sem] theorem go26 : goFunc Try.prog 26 = true := by kernel_rfl
@[go_sem] theorem go28 : goFunc Try.prog 28 = true := by kernel_rfl
@[go_sem] theorem go29 : goFunc Try.prog 29 = true := by kernel_rfl
@[go_sem] theorem go30 : goFunc Try.prog 30 = true := by kernel_rfl
noncomputable def c31code : Code := match Try.f31.body with | some c => c | none => .skip
noncomputable def c31S0 (_ : Unit) : Cmd := (.ops [
 ⟨some 45, .move (.tmp 7), 36, none⟩,
 ⟨some 46, .move (.tmp 9), 9, none⟩,
 ⟨some 47, .buildSlice 36 1 #[(0, (.tmp 46))], 36, none⟩,
 ⟨some 48, .call ⟨.builtin .append, #[(.tmp 45), (.tmp 47)], #[36, 36]⟩, 36, none⟩,
 ⟨some 7, .assign (.tmp 48), 36, none⟩] [0, 6, 7, 31, 32])
noncomputable def c31S1 (_ : Unit) : Cmd := (.seq (.seq (.ops [
 ⟨some 42, .move (.tmp 10), 28, none⟩,
 ⟨some 43, .binOp .neq 28 (.tmp 42) (.const (.int .i64 0)) 28, 4, none⟩] [0, 6, 7, 9, 10, 31, 32, 43])
 (.cond (.tmp 43)
  (.seq (.ops [
  ⟨some 44, .move (.tmp 10), 28, none⟩,
  ⟨some 2, .assign (.const (.pointer none)), 24, none⟩,
  ⟨some 3, .assign (.tmp 44), 28, none⟩] [2, 3])
  .ret)
  (.skip [0, 6, 7, 9, 31, 32]))) (sg c31S0))
noncomputable def c31S2 (_ : Unit) : Cmd := (.ops [
 ⟨some 49, .binOp .add 3 (.tmp 32) (.const (.int .i64 1)) 3, 3, none⟩,
 ⟨some 32, .move (.tmp 49), 3, none⟩] [0, 6, 7, 31, 32])
noncomputable def c31S3 (_ : Unit) : Cmd := (.seq (.block 1 (.seq (.ops [
 ⟨some 34, .move (.tmp 32), 3, none⟩,
 ⟨some 8, .assign (.tmp 34), 3, none⟩] [0, 6, 7, 8, 31, 32])
 (.seq (.ops [
 ⟨some 36, .move (.tmp 0), 23, none⟩,
 ⟨some 37, .move (.tmp 8), 3, none⟩,
 ⟨some 38, .binOp .add 3 (.const (.int .i64 2)) (.tmp 37) 3, 3, none⟩,
 ⟨some 39, .call ⟨.value (.func 59), #[(.tmp 36), (.tmp 38)], #[23, 3]⟩, 41, none⟩,
 ⟨some 35, .move (.tmp 39), 41, none⟩,
 ⟨some 40, .extract (.tmp 35) 0, 9, none⟩,
 ⟨some 41, .extract (.tmp 35) 1, 28, none⟩,
 ⟨some 9, .assign (.tmp 40), 9, none⟩,
 ⟨some 10, .assign (.tmp 41), 28, none⟩] [0, 6, 7, 9, 10, 31, 32]) (sg c31S1)))) (sg c31S2))
noncomputable def c31L0 (_ : Unit) : Cmd := (.seq (.ops [
 ⟨some 33, .binOp .lss 3 (.tmp 32) (.tmp 31) 3, 4, none⟩] [0, 6, 7, 31, 32, 33])
 (.seq (.cond (.tmp 33)
  (.skip [0, 6, 7, 31, 32])
  (.exit 0 [6, 7])) (sg c31S3)))
noncomputable def c31S4 (_ : Unit) : Cmd := (.seq (.ops [
  ⟨some 61, .move (.tmp 13), 28, none⟩,
  ⟨some 62, .binOp .neq 28 (.tmp 61) (.const (.int .i64 0)) 28, 4, none⟩] [6, 13, 62])
  (.cond (.tmp 62)
   (.seq (.ops [
   ⟨some 63, .move (.tmp 13), 28, none⟩,
   ⟨some 2, .assign (.const (.pointer none)), 24, none⟩,
   ⟨some 3, .assign (.tmp 63), 28, none⟩] [2, 3])
   .ret)
   (.skip [6])))
noncomputable def c31S5 (_ : Unit) : Cmd := (.seq (.ops [
  ⟨some 58, .move (.tmp 6), 24, none⟩,
  ⟨some 59, .move (.tmp 11), 48, none⟩,
  ⟨some 60, .call ⟨.value (.func 61), #[(.tmp 58), (.tmp 59)], #[24, 48]⟩, 28, none⟩,
  ⟨some 13, .assign (.tmp 60), 28, none⟩] [6, 13]) (sg c31S4))
noncomputable def c31S6 (_ : Unit) : Cmd := (.seq (.seq (.ops [
  ⟨some 55, .move (.tmp 12), 28, none⟩,
  ⟨some 56, .binOp .neq 28 (.tmp 55) (.const (.int .i64 0)) 28, 4, none⟩] [6, 11, 12, 56])
  (.cond (.tmp 56)
   (.seq (.ops [
   ⟨some 57, .move (.tmp 12), 28, none⟩,
   ⟨some 2, .assign (.const (.pointer none)), 24, none⟩,
   ⟨some 3, .assign (.tmp 57), 28, none⟩] [2, 3])
   .ret)
   (.skip [6, 11]))) (sg c31S5))
noncomputable def c31S7 (_ : Unit) : Cmd := (.seq (.ops [
  ⟨some 51, .move (.tmp 7), 36, none⟩,
  ⟨some 52, .call ⟨.value (.func 60), #[(.tmp 51)], #[36]⟩, 109, none⟩,
  ⟨some 50, .move (.tmp 52), 109, none⟩,
  ⟨some 53, .extract (.tmp 50) 0, 48, none⟩,
  ⟨some 54, .extract (.tmp 50) 1, 28, none⟩,
  ⟨some 11, .assign (.tmp 53), 48, none⟩,
  ⟨some 12, .assign (.tmp 54), 28, none⟩] [6, 11, 12]) (sg c31S6))
noncomputable def c31S8 (_ : Unit) : Cmd := (.seq (.ops [
 ⟨some 64, .move (.tmp 6), 24, none⟩,
 ⟨some 2, .assign (.tmp 64), 24, none⟩,
 ⟨some 3, .assign (.const (.int .i64 0)), 28, none⟩] [2, 3])
 .ret)
noncomputable def c31S9 (_ : Unit) : Cmd := (.seq (.ops [
 ⟨some 22, .move (.tmp 0), 23, none⟩,
 ⟨some 23, .load 73 (.tmp 4), 73, none⟩,
 ⟨some 24, .makeMap 74 none, 74, none⟩,
 ⟨some 25, .build 76 #[(0, (.tmp 22)), (1, (.tmp 23)), (2, (.tmp 24))], 76, none⟩,
 ⟨some 26, .box 76 (.tmp 25), 24, none⟩,
 ⟨some 6, .assign (.tmp 26), 24, none⟩] [0, 4, 6])
 (.seq (.seq (.ops [
 ⟨some 27, .fieldAddr 73 (.tmp 4) 1, 0, none⟩,
 ⟨some 28, .load 3 (.tmp 27), 3, none⟩,
 ⟨some 29, .binOp .gtr 3 (.tmp 28) (.const (.int .i64 0)) 3, 4, none⟩] [0, 4, 6, 29])
 (.cond (.tmp 29)
  (.seq (.ops [
  ⟨some 7, .assign (.const (.slice none 0 0)), 36, none⟩] [0, 4, 6, 7])
  (.seq (.seq (.ops [
  ⟨some 30, .fieldAddr 73 (.tmp 4) 1, 0, none⟩,
  ⟨some 31, .load 3 (.tmp 30), 3, none⟩,
  ⟨some 32, .move (.const (.int .i64 0)), 3, none⟩] [0, 6, 7, 31, 32])
  (.block 0 (.loop (sg c31L0)))) (sg c31S7)))
  (.skip [6]))) (sg c31S8)))
noncomputable def c31S10 (_ : Unit) : Cmd := (.seq (.seq (.ops [
 ⟨some 19, .move (.tmp 5), 28, none⟩,
 ⟨some 20, .binOp .neq 28 (.tmp 19) (.const (.int .i64 0)) 28, 4, none⟩] [0, 4, 5, 20])
 (.cond (.tmp 20)
  (.seq (.ops [
  ⟨some 21, .move (.tmp 5), 28, none⟩,
  ⟨some 2, .assign (.const (.pointer none)), 24, none⟩,
  ⟨some 3, .assign (.tmp 21), 28, none⟩] [2, 3])
  .ret)
  (.skip [0, 4]))) (sg c31S9))
noncomputable def c31 : Cmd := (.seq (.ops [
 ⟨some 2, .assign (.const (.pointer none)), 24, none⟩,
 ⟨some 3, .assign (.const (.int .i64 0)), 28, none⟩] [0])
 (.seq (.ops [
 ⟨some 15, .move (.tmp 0), 23, none⟩,
 ⟨some 16, .call ⟨.value (.func 58), #[(.tmp 15)], #[23]⟩, 107, none⟩,
 ⟨some 14, .move (.tmp 16), 107, none⟩,
 ⟨some 17, .extract (.tmp 14) 0, 73, none⟩,
 ⟨some 18, .extract (.tmp 14) 1, 28, none⟩,
 ⟨some 4, .alloc 73, 0, none⟩,
 ⟨none, .store 73 (.tmp 4) (.tmp 17), 0, none⟩,
 ⟨some 5, .assign (.tmp 18), 28, none⟩] [0, 4, 5]) (sg c31S10)))
set_option maxRecDepth 100000 in
theorem ent31 (a0 : Value) (w : World) (K : Value → World → Prop) (h : W Try.prog c31 [(0, a0)] w (finQ Try.prog [.tmp 2, .tmp 3] K)) : Ret Try.prog 31 [a0] w K :=
  Ret_of_W (code := c31code) Try.func31 (by kernel_rfl) (by kernel_rfl) (of_decide_eq_true (by kernel_rfl)) h
@[go_sem] theorem go31 : goFunc Try.prog 31 = true := by kernel_rfl
@[go_sem] theorem go32 : goFunc Try.prog 32 = true := by kernel_rfl
@[go_sem] theorem go33 : goFunc Try.prog 33 = true := by kernel_rfl
noncomputable def c34code : Code := match Try.f34.body with | some c => c | none => .skip
noncomputable def c34S0 (_ : Unit) : Cmd := (.seq (.ops [
 ⟨some 14, .move (.tmp 6), 28, none⟩,
 ⟨some 15, .binOp .neq 28 (.tmp 14) (.const (.int .i64 0)) 28, 4, none⟩] [0, 1, 6, 15])
 (.cond (.tmp 15)
  (.seq (.ops [
  ⟨some 16, .move (.tmp 6), 28, none⟩,
  ⟨some 4, .assign (.const (.string (ofL []))), 9, none⟩,
  ⟨some 5, .assign (.tmp 16), 28, none⟩] [4, 5])
  .ret)
  (.skip [0, 1])))
noncomputable def c34S1 (_ : Unit) : Cmd := (.seq (.ops [
 ⟨some 49, .move (.tmp 9), 9, none⟩,
 ⟨some 50, .move (.tmp 10), 28, none⟩,
 ⟨some 4, .assign (.tmp 49), 9, none⟩,
 ⟨some 5, .assign (.tmp 50), 28, none⟩] [4, 5])
 .ret)
noncomputable def c34S2 (_ : Unit) : Cmd := (.seq (.seq (.ops [
 ⟨some 44, .move (.tmp 10), 28, none⟩,
 ⟨some 45, .binOp .neq 28 (.tmp 44) (.const (.int .i64 0)) 28, 4, none⟩] [0, 9, 10, 45])
 (.cond (.tmp 45)
  (.ops [
  ⟨some 46, .move (.tmp 0), 24, none⟩,
  ⟨some 47, .nilCheck (.tmp 46), 0, none⟩,
  ⟨some 48, .fieldAddr 76 (.tmp 47) 3, 0, none⟩,
  ⟨none, .store 4 (.tmp 48) (.const (.bool true)), 0, none⟩] [9, 10])
  (.skip [9, 10]))) (sg c34S1))
noncomputable def c34S3 (_ : Unit) : Cmd := (.seq (.draw (drawOps 0 c34code) [0, 9, 10]) (sg c34S2))
noncomputable def c34S4 (_ : Unit) : Cmd := (.seq (.seq (.ops [
 ⟨some 18, .move (.tmp 0), 24, none⟩,
 ⟨some 19, .nilCheck (.tmp 18), 0, none⟩,
 ⟨some 20, .fieldAddr 76 (.tmp 19) 2, 0, none⟩,
 ⟨some 21, .load 74 (.tmp 20), 74, none⟩,
 ⟨some 22, .move (.tmp 1), 3, none⟩,
 ⟨some 23, .lookup 74 (.tmp 21) (.tmp 22) true, 88, none⟩,
 ⟨some 17, .move (.tmp 23), 88, none⟩,
 ⟨some 24, .extract (.tmp 17) 0, 9, none⟩,
 ⟨some 25, .extract (.tmp 17) 1, 4, none⟩,
 ⟨some 7, .assign (.tmp 24), 9, none⟩,
 ⟨some 8, .assign (.tmp 25), 4, none⟩] [0, 1, 7, 8])
 (.seq (.ops [
 ⟨some 26, .move (.tmp 8), 4, none⟩] [0, 1, 7, 26])
 (.cond (.tmp 26)
  (.seq (.ops [
  ⟨some 27, .move (.tmp 7), 9, none⟩,
  ⟨some 4, .assign (.tmp 27), 9, none⟩,
  ⟨some 5, .assign (.const (.int .i64 0)), 28, none⟩] [4, 5])
  .ret)
  (.skip [0, 1])))) (sg c34S3))
noncomputable def c34 : Cmd := (.seq (.ops [
 ⟨some 4, .assign (.const (.string (ofL []))), 9, none⟩,
 ⟨some 5, .assign (.const (.int .i64 0)), 28, none⟩] [0, 1])
 (.seq (.seq (.ops [
 ⟨some 11, .move (.tmp 0), 24, none⟩,
 ⟨some 12, .move (.tmp 1), 3, none⟩,
 ⟨some 13, .call ⟨.value (.func 52), #[(.tmp 11), (.tmp 12)], #[24, 3]⟩, 28, none⟩,
 ⟨some 6, .assign (.tmp 13), 28, none⟩] [0, 1, 6]) (sg c34S0)) (sg c34S4)))
noncomputable def c34D0 : List (Nat × Ins) := [
 (0, ⟨some 29, .move (.tmp 0), 24, none⟩),
 (0, ⟨some 30, .nilCheck (.tmp 29), 0, none⟩),
 (0, ⟨some 31, .fieldAddr 76 (.tmp 30) 0, 0, none⟩),
 (0, ⟨some 33, .move (.tmp 0), 24, none⟩),
 (0, ⟨some 34, .nilCheck (.tmp 33), 0, none⟩),
 (0, ⟨some 35, .fieldAddr 76 (.tmp 34) 1, 0, none⟩),
 (0, ⟨some 36, .fieldAddr 73 (.tmp 35) 2, 0, none⟩),
 (0, ⟨some 39, .move (.tmp 1), 3, none⟩),
 (1, ⟨some 32, .load 23 (.tmp 31), 23, none⟩),
 (2, ⟨some 37, .load 3 (.tmp 36), 3, none⟩),
 (0, ⟨some 38, .binOp .add 3 (.const (.int .i64 2)) (.tmp 37) 3, 3, none⟩),
 (0, ⟨some 40, .binOp .add 3 (.tmp 38) (.tmp 39) 3, 3, none⟩),
 (3, ⟨some 41, .call ⟨.value (.func 59), #[(.tmp 32), (.tmp 40)], #[23, 3]⟩, 41, none⟩),
 (0, ⟨some 28, .move (.tmp 41), 41, none⟩),
 (0, ⟨some 42, .extract (.tmp 28) 0, 9, none⟩),
 (0, ⟨some 43, .extract (.tmp 28) 1, 28, none⟩),
 (0, ⟨some 9, .assign (.tmp 42), 9, none⟩),
 (0, ⟨some 10, .assign (.tmp 43), 28, none⟩)]
theorem c34draw0 {L : List Nat} {ρ : Env} {w : World} {Q : Post} (S : World → Prop) (hS : S w.drew) (h : DG Try.prog S c34D0 L ρ w.drew Q) : drawW Try.prog (drawOps 0 c34code) L ρ w Q :=
  drawW_held [3] [(0, 0), (0, 1), (0, 2), (0, 4), (0, 5), (0, 6), (0, 7), (0, 10), (1, 3), (2, 8), (0, 9), (0, 11), (3, 12), (0, 13), (0, 14), (0, 15), (0, 16), (0, 17)] c34D0 (by kernel_rfl) (by kernel_rfl) (by kernel_rfl) S hS h
set_option maxRecDepth 100000 in
theorem ent34 (a0 a1 : Value) (w : World) (K : Value → World → Prop) (h : W Try.prog c34 [(0, a0), (1, a1)] w (finQ Try.prog [.tmp 4, .tmp 5] K)) : Ret Try.prog 34 [a0, a1] w K :=
  Ret_of_W (code := c34code) Try.func34 (by kernel_rfl) (by kernel_rfl) (of_decide_eq_true (by kernel_rfl)) h
@[go_sem] theorem go34 : goFunc Try.prog 34 = true := by kernel_rfl
noncomputable def c35code : Code := match Try.f35.body with | some c => c | none => .skip
noncomputable def c35S0 (_ : Unit) : Cmd := (.seq (.ops [
 ⟨some 11, .move (.tmp 7), 28, none⟩,
 ⟨some 12, .binOp .neq 28 (.tmp 11) (.const (.int .i64 0)) 28, 4, none⟩] [0, 1, 2, 7, 12])
 (.cond (.tmp 12)
  (.seq (.ops [
  ⟨some 13, .move (.tmp 7), 28, none⟩,
  ⟨some 6, .assign (.tmp 13), 28, none⟩] [6])
  .ret)
  (.skip [0, 1, 2])))
noncomputable def c35S1 (_ : Unit) : Cmd := (.seq (.ops [
 ⟨some 6, .assign (.const (.int .i64 0)), 28, none⟩] [6])
 .ret)
noncomputable def c35S2 (_ : Unit) : Cmd := (.seq (.draw (drawOps 0 c35code) []) (sg c35S1))
noncomputable def c35S3 (_ : Unit) : Cmd := (.seq (.seq (.ops [
 ⟨some 14, .move (.tmp 2), 9, none⟩,
 ⟨some 15, .call ⟨.builtin .len, #[(.tmp 14)], #[9]⟩, 3, none⟩,
 ⟨some 16, .binOp .gtr 3 (.tmp 15) (.const (.int .i64 256)) 3, 4, none⟩] [0, 1, 2, 16])
 (.cond (.tmp 16)
  (.seq (.ops [
  ⟨some 6, .assign (.const (.int .i64 21)), 28, none⟩] [6])
  .ret)
  (.skip [0, 1, 2]))) (sg c35S2))
noncomputable def c35 : Cmd := (.seq (.ops [
 ⟨some 6, .assign (.const (.int .i64 0)), 28, none⟩] [0, 1, 2])
 (.seq (.seq (.ops [
 ⟨some 8, .move (.tmp 0), 24, none⟩,
 ⟨some 9, .move (.tmp 1), 3, none⟩,
 ⟨some 10, .call ⟨.value (.func 52), #[(.tmp 8), (.tmp 9)], #[24, 3]⟩, 28, none⟩,
 ⟨some 7, .assign (.tmp 10), 28, none⟩] [0, 1, 2, 7]) (sg c35S0)) (sg c35S3)))
noncomputable def c35D0 : List (Nat × Ins) := [
 (0, ⟨some 17, .move (.tmp 0), 24, none⟩),
 (0, ⟨some 18, .nilCheck (.tmp 17), 0, none⟩),
 (0, ⟨some 19, .fieldAddr 76 (.tmp 18) 2, 0, none⟩),
 (0, ⟨some 21, .move (.tmp 1), 3, none⟩),
 (0, ⟨some 22, .move (.tmp 2), 9, none⟩),
 (0, ⟨some 23, .move (.tmp 2), 9, none⟩),
 (0, ⟨some 24, .call ⟨.builtin .len, #[(.tmp 23)], #[9]⟩, 3, none⟩),
 (0, ⟨some 25, .binOp .sub 3 (.const (.int .i64 256)) (.tmp 24) 3, 3, none⟩),
 (1, ⟨some 20, .load 74 (.tmp 19), 74, none⟩),
 (2, ⟨some 26, .makeSlice 95 (.tmp 25) (.tmp 25), 95, none⟩),
 (2, ⟨some 27, .convert 95 9 (.tmp 26), 9, none⟩),
 (0, ⟨some 28, .binOp .add 9 (.tmp 22) (.tmp 27) 9, 9, none⟩),
 (3, ⟨none, .mapUpdate 74 (.tmp 20) (.tmp 21) (.tmp 28), 0, none⟩)]
theorem c35draw0 {L : List Nat} {ρ : Env} {w : World} {Q : Post} (S : World → Prop) (hS : S w.drew) (h : DG Try.prog S c35D0 L ρ w.drew Q) : drawW Try.prog (drawOps 0 c35code) L ρ w Q :=
  drawW_held [3] [(0, 0), (0, 1), (0, 2), (0, 4), (0, 5), (0, 6), (0, 7), (0, 8), (1, 3), (2, 9), (2, 10), (0, 11), (3, 12)] c35D0 (by kernel_rfl) (by kernel_rfl) (by kernel_rfl) S hS h
set_option maxRecDepth 100000 in
theorem ent35 (a0 a1 a2 : Value) (w : World) (K : Value → World → Prop) (h : W Try.prog c35 [(0, a0), (1, a1), (2, a2)] w (finQ Try.prog [.tmp 6] K)) : Ret Try.prog 35 [a0, a1, a2] w K :=
  Ret_of_W (code := c35code) Try.func35 (by kernel_rfl) (by kernel_rfl) (of_decide_eq_true (by kernel_rfl)) h
@[go_sem] theorem go35 : goFunc Try.prog 35 = true := by kernel_rfl
noncomputable def c36code : Code := match Try.f36.body with | some c => c | none => .skip
noncomputable def c36S0 (_ : Unit) : Cmd := (.seq (.ops [
 ⟨some 5, .move (.tmp 0), 24, none⟩,
 ⟨some 6, .nilCheck (.tmp 5), 0, none⟩,
 ⟨some 7, .fieldAddr 76 (.tmp 6) 1, 0, none⟩,
 ⟨some 8, .fieldAddr 73 (.tmp 7) 3, 0, none⟩,
 ⟨some 9, .load 3 (.tmp 8), 3, none⟩,
 ⟨some 2, .assign (.tmp 9), 3, none⟩] [2])
 .ret)
noncomputable def c36 : Cmd := (.seq (.ops [
 ⟨some 2, .assign (.const (.int .i64 0)), 3, none⟩] [0])
 (.seq (.seq (.ops [
 ⟨some 3, .move (.tmp 0), 24, none⟩,
 ⟨some 4, .binOp .eql 24 (.tmp 3) (.const (.pointer none)) 24, 4, none⟩] [0, 4])
 (.cond (.tmp 4)
  (.seq (.ops [
  ⟨some 2, .assign (.const (.int .i64 0)), 3, none⟩] [2])
  .ret)
  (.skip [0]))) (sg c36S0)))
set_option maxRecDepth 100000 in
theorem ent36 (a0 : Value) (w : World) (K : Value → World → Prop) (h : W Try.prog c36 [(0, a0)] w (finQ Try.prog [.tmp 2] K)) : Ret Try.prog 36 [a0] w K :=
  Ret_of_W (code := c36code) Try.func36 (by kernel_rfl) (by kernel_rfl) (of_decide_eq_true (by kernel_rfl)) h
@[go_sem] theorem go36 : goFunc Try.prog 36 = true := by kernel_rfl
noncomputable def c37code : Code := match Try.f37.body with | some c => c | none => .skip
noncomputable def c37S0 (_ : Unit) : Cmd := (.ops [
 ⟨some 30, .binOp .add 3 (.tmp 15) (.const (.int .i64 1)) 3, 3, none⟩,
 ⟨some 15, .move (.tmp 30), 3, none⟩] [4, 14, 15])
noncomputable def c37S1 (_ : Unit) : Cmd := (.seq (.block 1 (.draw (drawOps 0 c37code) [4, 14, 15])) (sg c37S0))
noncomputable def c37L0 (_ : Unit) : Cmd := (.seq (.ops [
 ⟨some 16, .binOp .lss 3 (.tmp 15) (.tmp 14) 3, 4, none⟩] [4, 14, 15, 16])
 (.seq (.cond (.tmp 16)
  (.skip [4, 14, 15])
  (.exit 0 [4])) (sg c37S1)))
noncomputable def c37S2 (_ : Unit) : Cmd := (.seq (.ops [
 ⟨some 31, .move (.tmp 4), 23, none⟩,
 ⟨some 2, .assign (.tmp 31), 23, none⟩,
 ⟨some 3, .assign (.const (.int .i64 0)), 28, none⟩] [2, 3])
 .ret)
noncomputable def c37S3 (_ : Unit) : Cmd := (.seq (.seq (.ops [
 ⟨some 14, .move (.tmp 0), 3, none⟩,
 ⟨some 15, .move (.const (.int .i64 0)), 3, none⟩] [4, 14, 15])
 (.block 0 (.loop (sg c37L0)))) (sg c37S2))
noncomputable def c37S4 (_ : Unit) : Cmd := (.seq (.ops [
 ⟨some 11, .call ⟨.value (.func 64), #[], #[]⟩, 9, none⟩,
 ⟨some 12, .build 104 #[(2, (.const (.int .i64 (-1)))), (4, (.tmp 11))], 104, none⟩,
 ⟨some 13, .box 104 (.tmp 12), 23, none⟩,
 ⟨some 4, .assign (.tmp 13), 23, none⟩] [0, 4]) (sg c37S3))
noncomputable def c37 : Cmd := (.seq (.ops [
 ⟨some 2, .assign (.const (.pointer none)), 23, none⟩,
 ⟨some 3, .assign (.const (.int .i64 0)), 28, none⟩] [0])
 (.seq (.seq (.ops [
 ⟨some 5, .move (.tmp 0), 3, none⟩,
 ⟨some 6, .binOp .lss 3 (.tmp 5) (.const (.int .i64 1)) 3, 4, none⟩,
 ⟨some 7, .move (.tmp 6), 4, none⟩,
 ⟨some 8, .move (.tmp 0), 3, (some (7, false))⟩,
 ⟨some 9, .binOp .gtr 3 (.tmp 8) (.const (.int .i64 2048)) 3, 4, (some (7, false))⟩,
 ⟨some 10, .pick (.tmp 7) (.const (.bool true)) (.tmp 9), 4, none⟩] [0, 10])
 (.cond (.tmp 10)
  (.seq (.ops [
  ⟨some 2, .assign (.const (.pointer none)), 23, none⟩,
  ⟨some 3, .assign (.const (.int .i64 1)), 28, none⟩] [2, 3])
  .ret)
  (.skip [0]))) (sg c37S4)))
noncomputable def c37D0 : List (Nat × Ins) := [
 (0, ⟨some 17, .move (.tmp 4), 23, none⟩),
 (0, ⟨some 18, .move (.tmp 4), 23, none⟩),
 (0, ⟨some 19, .nilCheck (.tmp 18), 0, none⟩),
 (0, ⟨some 20, .fieldAddr 104 (.tmp 19) 0, 0, none⟩),
 (0, ⟨some 22, .move (.tmp 4), 23, none⟩),
 (0, ⟨some 23, .nilCheck (.tmp 22), 0, none⟩),
 (0, ⟨some 24, .fieldAddr 104 (.tmp 23) 4, 0, none⟩),
 (1, ⟨some 21, .load 36 (.tmp 20), 36, none⟩),
 (2, ⟨some 25, .load 9 (.tmp 24), 9, none⟩),
 (2, ⟨some 26, .buildSlice 36 1 #[(0, (.tmp 25))], 36, none⟩),
 (3, ⟨some 27, .call ⟨.builtin .append, #[(.tmp 21), (.tmp 26)], #[36, 36]⟩, 36, none⟩),
 (0, ⟨some 28, .nilCheck (.tmp 17), 0, none⟩),
 (0, ⟨some 29, .fieldAddr 104 (.tmp 28) 0, 0, none⟩),
 (3, ⟨none, .store 36 (.tmp 29) (.tmp 27), 0, none⟩)]
theorem c37draw0 {L : List Nat} {ρ : Env} {w : World} {Q : Post} (S : World → Prop) (hS : S w.drew) (h : DG Try.prog S c37D0 L ρ w.drew Q) : drawW Try.prog (drawOps 0 c37code) L ρ w Q :=
  drawW_held [4] [(0, 0), (0, 1), (0, 2), (0, 3), (0, 5), (0, 6), (0, 7), (1, 4), (2, 8), (2, 9), (3, 10), (0, 11), (0, 12), (3, 13)] c37D0 (by kernel_rfl) (by kernel_rfl) (by kernel_rfl) S hS h
set_option maxRecDepth 100000 in
theorem ent37 (a0 : Value) (w : World) (K : Value → World → Prop) (h : W Try.prog c37 [(0, a0)] w (finQ Try.prog [.tmp 2, .tmp 3] K)) : Ret Try.prog 37 [a0] w K :=
  Ret_of_W (code := c37code) Try.func37 (by kernel_rfl) (by kernel_rfl) (of_decide_eq_true (by kernel_rfl)) h
@[go_sem] theorem go37 : goFunc Try.prog 37 = true := by kernel_rfl
noncomputable def c38code : Code := match Try.f38.body with | some c => c | none => .skip
noncomputable def c38S0 (_ : Unit) : Cmd := (.seq (.ops [
 ⟨some 16, .move (.tmp 7), 28, none⟩,
 ⟨some 17, .binOp .neq 28 (.tmp 16) (.const (.int .i64 0)) 28, 4, none⟩] [0, 1, 5, 7, 17])
 (.cond (.tmp 17)
  (.seq (.ops [
  ⟨some 18, .move (.tmp 7), 28, none⟩,
  ⟨some 4, .assign (.tmp 18), 28, none⟩] [4])
  .ret)
  (.skip [0, 1, 5])))
noncomputable def c38S1 (_ : Unit) : Cmd := (.seq (.ops [
 ⟨some 35, .move (.tmp 8), 28, none⟩,
 ⟨some 36, .binOp .neq 28 (.tmp 35) (.const (.int .i64 0)) 28, 4, none⟩] [0, 1, 5, 8, 36])
 (.cond (.tmp 36)
  (.seq (.ops [
  ⟨some 37, .move (.tmp 8), 28, none⟩,
  ⟨some 4, .assign (.tmp 37), 28, none⟩] [4])
  .ret)
  (.skip [0, 1, 5])))
noncomputable def c38S2 (_ : Unit) : Cmd := .ret
noncomputable def c38S3 (_ : Unit) : Cmd := (.seq (.ops [
 ⟨some 38, .move (.tmp 0), 23, none⟩,
 ⟨some 39, .move (.tmp 1), 3, none⟩,
 ⟨some 40, .move (.tmp 5), 3, none⟩,
 ⟨some 41, .binOp .sub 3 (.tmp 40) (.const (.int .i64 2)) 3, 3, none⟩,
 ⟨some 42, .move (.tmp 1), 3, none⟩,
 ⟨some 43, .binOp .sub 3 (.tmp 41) (.tmp 42) 3, 3, none⟩,
 ⟨some 44, .call ⟨.builtin .min, #[(.tmp 43), (.const (.int .i64 1024))], #[3, 3]⟩, 3, none⟩,
 ⟨some 45, .build 73 #[(0, (.const (.int .u64 2))), (2, (.tmp 39)), (3, (.tmp 44))], 73, none⟩,
 ⟨some 46, .call ⟨.value (.func 67), #[(.tmp 38), (.tmp 45)], #[23, 73]⟩, 28, none⟩,
 ⟨some 4, .assign (.tmp 46), 28, none⟩] [4]) (sg c38S2))
noncomputable def c38S4 (_ : Unit) : Cmd := (.seq (.seq (.ops [
 ⟨some 33, .move (.tmp 0), 23, none⟩,
 ⟨some 34, .call ⟨.value (.func 66), #[(.tmp 33), (.const (.int .i64 1)), (.const (.string (ofL [])))], #[23, 3, 9]⟩, 28, none⟩,
 ⟨some 8, .assign (.tmp 34), 28, none⟩] [0, 1, 5, 8]) (sg c38S1)) (sg c38S3))
noncomputable def c38S5 (_ : Unit) : Cmd := (.seq (.seq (.ops [
 ⟨some 19, .move (.tmp 1), 3, none⟩,
 ⟨some 20, .binOp .lss 3 (.tmp 19) (.const (.int .i64 1)) 3, 4, none⟩,
 ⟨some 21, .move (.tmp 20), 4, none⟩,
 ⟨some 22, .move (.tmp 1), 3, (some (21, false))⟩,
 ⟨some 23, .move (.tmp 5), 3, (some (21, false))⟩,
 ⟨some 24, .binOp .gtr 3 (.tmp 22) (.tmp 23) 3, 4, (some (21, false))⟩,
 ⟨some 25, .pick (.tmp 21) (.const (.bool true)) (.tmp 24), 4, none⟩,
 ⟨some 26, .move (.tmp 25), 4, none⟩,
 ⟨some 27, .move (.tmp 5), 3, (some (26, false))⟩,
 ⟨some 28, .binOp .sub 3 (.tmp 27) (.const (.int .i64 2)) 3, 3, (some (26, false))⟩,
 ⟨some 29, .move (.tmp 1), 3, (some (26, false))⟩,
 ⟨some 30, .binOp .sub 3 (.tmp 28) (.tmp 29) 3, 3, (some (26, false))⟩,
 ⟨some 31, .binOp .lss 3 (.tmp 30) (.const (.int .i64 1)) 3, 4, (some (26, false))⟩,
 ⟨some 32, .pick (.tmp 26) (.const (.bool true)) (.tmp 31), 4, none⟩] [0, 1, 5, 32])
 (.cond (.tmp 32)
  (.seq (.ops [
  ⟨some 4, .assign (.const (.int .i64 1)), 28, none⟩] [4])
  .ret)
  (.skip [0, 1, 5]))) (sg c38S4))
noncomputable def c38S6 (_ : Unit) : Cmd := (.seq (.seq (.ops [
 ⟨some 12, .move (.tmp 0), 23, none⟩,
 ⟨some 13, .call ⟨.value (.func 59), #[(.tmp 12), (.const (.int .i64 0))], #[23, 3]⟩, 41, none⟩,
 ⟨some 11, .move (.tmp 13), 41, none⟩,
 ⟨some 14, .extract (.tmp 11) 0, 9, none⟩,
 ⟨some 15, .extract (.tmp 11) 1, 28, none⟩,
 ⟨some 6, .assign (.tmp 14), 9, none⟩,
 ⟨some 7, .assign (.tmp 15), 28, none⟩] [0, 1, 5, 7]) (sg c38S0)) (sg c38S5))
noncomputable def c38 : Cmd := (.seq (.ops [
 ⟨some 4, .assign (.const (.int .i64 0)), 28, none⟩] [0, 1])
 (.seq (.ops [
 ⟨some 9, .move (.tmp 0), 23, none⟩,
 ⟨some 10, .call ⟨.value (.func 65), #[(.tmp 9)], #[23]⟩, 3, none⟩,
 ⟨some 5, .assign (.tmp 10), 3, none⟩] [0, 1, 5]) (sg c38S6)))
set_option maxRecDepth 100000 in
theorem ent38 (a0 a1 : Value) (w : World) (K : Value → World → Prop) (h : W Try.prog c38 [(0, a0), (1, a1)] w (finQ Try.prog [.tmp 4] K)) : Ret Try.prog 38 [a0, a1] w K :=
  Ret_of_W (code := c38code) Try.func38 (by kernel_rfl) (by kernel_rfl) (of_decide_eq_true (by kernel_rfl)) h
@[go_sem] theorem go38 : goFunc Try.prog 38 = true := by kernel_rfl
noncomputable def c39code : Code := match Try.f39.body with | some c => c | none => .skip
noncomputable def c39S0 (_ : Unit) : Cmd := (.seq (.ops [
 ⟨some 13, .move (.tmp 5), 28, none⟩,
 ⟨some 14, .binOp .neq 28 (.tmp 13) (.const (.int .i64 0)) 28, 4, none⟩] [0, 5, 14])
 (.cond (.tmp 14)
  (.seq (.ops [
  ⟨some 15, .move (.tmp 5), 28, none⟩,
  ⟨some 2, .assign (.const (.pointer none)), 25, none⟩,
  ⟨some 3, .assign (.tmp 15), 28, none⟩] [2, 3])
  .ret)
  (.skip [0])))
noncomputable def c39S1 (_ : Unit) : Cmd := (.seq (.ops [
 ⟨some 20, .move (.tmp 0), 24, none⟩,
 ⟨some 21, .move (.tmp 6), 84, none⟩,
 ⟨some 22, .build 86 #[(0, (.tmp 20)), (1, (.tmp 21))], 86, none⟩,
 ⟨some 23, .box 86 (.tmp 22), 25, none⟩,
 ⟨some 24, .move (.tmp 7), 28, none⟩,
 ⟨some 2, .assign (.tmp 23), 25, none⟩,
 ⟨some 3, .assign (.tmp 24), 28, none⟩] [2, 3])
 .ret)
noncomputable def c39S2 (_ : Unit) : Cmd := (.seq (.ops [
 ⟨some 17, .call ⟨.value (.func 68), #[(.const (.int .i64 64))], #[3]⟩, 117, none⟩,
 ⟨some 16, .move (.tmp 17), 117, none⟩,
 ⟨some 18, .extract (.tmp 16) 0, 84, none⟩,
 ⟨some 19, .extract (.tmp 16) 1, 28, none⟩,
 ⟨some 6, .assign (.tmp 18), 84, none⟩,
 ⟨some 7, .assign (.tmp 19), 28, none⟩] [0, 6, 7]) (sg c39S1))
noncomputable def c39 : Cmd := (.seq (.ops [
 ⟨some 2, .assign (.const (.pointer none)), 25, none⟩,
 ⟨some 3, .assign (.const (.int .i64 0)), 28, none⟩] [0])
 (.seq (.seq (.ops [
 ⟨some 9, .move (.tmp 0), 24, none⟩,
 ⟨some 10, .call ⟨.value (.func 34), #[(.tmp 9), (.const (.int .i64 0))], #[24, 3]⟩, 41, none⟩,
 ⟨some 8, .move (.tmp 10), 41, none⟩,
 ⟨some 11, .extract (.tmp 8) 0, 9, none⟩,
 ⟨some 12, .extract (.tmp 8) 1, 28, none⟩,
 ⟨some 4, .assign (.tmp 11), 9, none⟩,
 ⟨some 5, .assign (.tmp 12), 28, none⟩] [0, 5]) (sg c39S0)) (sg c39S2)))
set_option maxRecDepth 100000 in
theorem ent39 (a0 : Value) (w : World) (K : Value → World → Prop) (h : W Try.prog c39 [(0, a0)] w (finQ Try.prog [.tmp 2, .tmp 3] K)) : Ret Try.prog 39 [a0] w K :=
  Ret_of_W (code := c39code) Try.func39 (by kernel_rfl) (by kernel_rfl) (of_decide_eq_true (by kernel_rfl)) h
@[go_sem] theorem go39 : goFunc Try.prog 39 = true := by kernel_rfl
noncomputable def c40code : Code := match Try.f40.body with | some c => c | none => .skip
noncomputable def c40 : Cmd := (.seq (.ops [
 ⟨some 2, .assign (.const (.bool false)), 4, none⟩] [0])
 (.seq (.ops [
 ⟨some 3, .move (.tmp 0), 25, none⟩,
 ⟨some 4, .binOp .neq 25 (.tmp 3) (.const (.pointer none)) 25, 4, none⟩,
 ⟨some 5, .move (.tmp 4), 4, none⟩,
 ⟨some 6, .move (.tmp 0), 25, (some (5, true))⟩,
 ⟨some 7, .nilCheck (.tmp 6), 0, (some (5, true))⟩,
 ⟨some 8, .fieldAddr 86 (.tmp 7) 0, 0, (some (5, true))⟩,
 ⟨some 9, .load 24 (.tmp 8), 24, (some (5, true))⟩,
 ⟨some 10, .binOp .neq 24 (.tmp 9) (.const (.pointer none)) 24, 4, (some (5, true))⟩,
 ⟨some 11, .pick (.tmp 5) (.tmp 10) (.const (.bool false)), 4, none⟩,
 ⟨some 2, .assign (.tmp 11), 4, none⟩] [2])
 .ret))
set_option maxRecDepth 100000 in
theorem ent40 (a0 : Value) (w : World) (K : Value → World → Prop) (h : W Try.prog c40 [(0, a0)] w (finQ Try.prog [.tmp 2] K)) : Ret Try.prog 40 [a0] w K :=
  Ret_of_W (code := c40code) Try.func40 (by kernel_rfl) (by kernel_rfl) (of_decide_eq_true (by kernel_rfl)) h
@[go_sem] theorem go40 : goFunc Try.prog 40 = true := by kernel_rfl
noncomputable def c41code : Code := match Try.f41.body with | some c => c | none => .skip
noncomputable def c41S0 (_ : Unit) : Cmd := .ret
noncomputable def c41 : Cmd := (.seq (.ops [
 ⟨some 2, .assign (.const (.string (ofL []))), 9, none⟩] [0])
 (.seq (.ops [
 ⟨some 3, .move (.tmp 0), 3, none⟩,
 ⟨some 4, .binOp .quo 3 (.tmp 3) (.const (.int .i64 8)) 3, 3, none⟩,
 ⟨some 5, .move (.tmp 0), 3, none⟩,
 ⟨some 6, .binOp .rem 3 (.tmp 5) (.const (.int .i64 8)) 3, 3, none⟩,
 ⟨some 7, .call ⟨.builtin .max, #[(.const (.int .i64 0)), (.tmp 6)], #[3, 3]⟩, 3, none⟩,
 ⟨some 8, .call ⟨.builtin .min, #[(.const (.int .i64 1)), (.tmp 7)], #[3, 3]⟩, 3, none⟩,
 ⟨some 9, .binOp .add 3 (.tmp 4) (.tmp 8) 3, 3, none⟩,
 ⟨some 10, .call ⟨.builtin .max, #[(.const (.int .i64 0)), (.tmp 9)], #[3, 3]⟩, 3, none⟩,
 ⟨some 11, .makeSlice 95 (.tmp 10) (.tmp 10), 95, none⟩,
 ⟨some 12, .convert 95 9 (.tmp 11), 9, none⟩,
 ⟨some 2, .assign (.tmp 12), 9, none⟩] [2]) (sg c41S0)))
set_option maxRecDepth 100000 in
theorem ent41 (a0 : Value) (w : World) (K : Value → World → Prop) (h : W Try.prog c41 [(0, a0)] w (finQ Try.prog [.tmp 2] K)) : Ret Try.prog 41 [a0] w K :=
  Ret_of_W (code := c41code) Try.func41 (by kernel_rfl) (by kernel_rfl) (of_decide_eq_true (by kernel_rfl)) h
@[go_sem] theorem go41 : goFunc Try.prog 41 = true := by kernel_rfl
noncomputable def c42code : Code := match Try.f42.body with | some c => c | none => .skip
noncomputable def c42S0 (_ : Unit) : Cmd := (.seq (.ops [
 ⟨some 44, .move (.tmp 8), 95, none⟩,
 ⟨some 45, .convert 95 9 (.tmp 44), 9, none⟩,
 ⟨some 6, .assign (.tmp 45), 9, none⟩,
 ⟨some 7, .assign (.const (.bool true)), 4, none⟩] [6, 7])
 .ret)
noncomputable def c42S1 (_ : Unit) : Cmd := (.seq (.ops [
 ⟨some 19, .move (.tmp 0), 9, none⟩,
 ⟨some 20, .convert 9 95 (.tmp 19), 95, none⟩,
 ⟨some 8, .assign (.tmp 20), 95, none⟩] [1, 2, 8])
 (.seq (.seq (.ops [
 ⟨some 21, .move (.tmp 2), 4, none⟩] [1, 8, 21])
 (.cond (.tmp 21)
  (.ops [
  ⟨some 22, .move (.tmp 8), 95, none⟩,
  ⟨some 23, .move (.tmp 1), 3, none⟩,
  ⟨some 24, .binOp .quo 3 (.tmp 23) (.const (.int .i64 8)) 3, 3, none⟩,
  ⟨some 25, .indexAddr 95 (.tmp 22) (.tmp 24), 0, none⟩,
  ⟨some 26, .load 5 (.tmp 25), 5, none⟩,
  ⟨some 27, .move (.tmp 1), 3, none⟩,
  ⟨some 28, .binOp .rem 3 (.tmp 27) (.const (.int .i64 8)) 3, 3, none⟩,
  ⟨some 29, .convert 3 22 (.tmp 28), 22, none⟩,
  ⟨some 30, .binOp .shl 5 (.const (.int .u8 1)) (.tmp 29) 22, 5, none⟩,
  ⟨some 31, .binOp .or 5 (.tmp 26) (.tmp 30) 5, 5, none⟩,
  ⟨some 32, .indexAddr 95 (.tmp 22) (.tmp 24), 0, none⟩,
  ⟨none, .store 5 (.tmp 32) (.tmp 31), 0, none⟩] [8])
  (.ops [
  ⟨some 33, .move (.tmp 8), 95, none⟩,
  ⟨some 34, .move (.tmp 1), 3, none⟩,
  ⟨some 35, .binOp .quo 3 (.tmp 34) (.const (.int .i64 8)) 3, 3, none⟩,
  ⟨some 36, .indexAddr 95 (.tmp 33) (.tmp 35), 0, none⟩,
  ⟨some 37, .load 5 (.tmp 36), 5, none⟩,
  ⟨some 38, .move (.tmp 1), 3, none⟩,
  ⟨some 39, .binOp .rem 3 (.tmp 38) (.const (.int .i64 8)) 3, 3, none⟩,
  ⟨some 40, .convert 3 22 (.tmp 39), 22, none⟩,
  ⟨some 41, .binOp .shl 5 (.const (.int .u8 1)) (.tmp 40) 22, 5, none⟩,
  ⟨some 42, .binOp .andNot 5 (.tmp 37) (.tmp 41) 5, 5, none⟩,
  ⟨some 43, .indexAddr 95 (.tmp 33) (.tmp 35), 0, none⟩,
  ⟨none, .store 5 (.tmp 43) (.tmp 42), 0, none⟩] [8]))) (sg c42S0)))
noncomputable def c42 : Cmd := (.seq (.ops [
 ⟨some 6, .assign (.const (.string (ofL []))), 9, none⟩,
 ⟨some 7, .assign (.const (.bool false)), 4, none⟩] [0, 1, 2])
 (.seq (.seq (.ops [
 ⟨some 9, .move (.tmp 1), 3, none⟩,
 ⟨some 10, .binOp .lss 3 (.tmp 9) (.const (.int .i64 0)) 3, 4, none⟩,
 ⟨some 11, .move (.tmp 10), 4, none⟩,
 ⟨some 12, .move (.tmp 1), 3, (some (11, false))⟩,
 ⟨some 13, .binOp .quo 3 (.tmp 12) (.const (.int .i64 8)) 3, 3, (some (11, false))⟩,
 ⟨some 14, .move (.tmp 0), 9, (some (11, false))⟩,
 ⟨some 15, .call ⟨.builtin .len, #[(.tmp 14)], #[9]⟩, 3, (some (11, false))⟩,
 ⟨some 16, .binOp .geq 3 (.tmp 13) (.tmp 15) 3, 4, (some (11, false))⟩,
 ⟨some 17, .pick (.tmp 11) (.const (.bool true)) (.tmp 16), 4, none⟩] [0, 1, 2, 17])
 (.cond (.tmp 17)
  (.seq (.ops [
  ⟨some 18, .move (.tmp 0), 9, none⟩,
  ⟨some 6, .assign (.tmp 18), 9, none⟩,
  ⟨some 7, .assign (.const (.bool false)), 4, none⟩] [6, 7])
  .ret)
  (.skip [0, 1, 2]))) (sg c42S1)))
set_option maxRecDepth 100000 in
theorem ent42 (a0 a1 a2 : Value) (w : World) (K : Value → World → Prop) (h : W Try.prog c42 [(0, a0), (1, a1), (2, a2)] w (finQ Try.prog [.tmp 6, .tmp 7] K)) : Ret Try.prog 42 [a0, a1, a2] w K :=
  Ret_of_W (code := c42code) Try.func42 (by kernel_rfl) (by kernel_rfl) (of_decide_eq_true (by kernel_rfl)) h
@[go_sem] theorem go42 : goFunc Try.prog 42 = true := by kernel_rfl
noncomputable def c43code : Code := match Try.f43.body with | some c => c | none => .skip
noncomputable def c43S0 (_ : Unit) : Cmd := .ret
noncomputable def c43S1 (_ : Unit) : Cmd := (.seq (.ops [
 ⟨some 13, .move (.tmp 0), 25, none⟩,
 ⟨some 14, .nilCheck (.tmp 13), 0, none⟩,
 ⟨some 15, .fieldAddr 86 (.tmp 14) 0, 0, none⟩,
 ⟨some 16, .load 24 (.tmp 15), 24, none⟩,
 ⟨some 17, .move (.tmp 1), 3, none⟩,
 ⟨some 18, .move (.tmp 2), 9, none⟩,
 ⟨some 19, .call ⟨.value (.func 35), #[(.tmp 16), (.tmp 17), (.tmp 18)], #[24, 3, 9]⟩, 28, none⟩,
 ⟨some 6, .assign (.tmp 19), 28, none⟩] [6]) (sg c43S0))
noncomputable def c43 : Cmd := (.seq (.ops [
 ⟨some 6, .assign (.const (.int .i64 0)), 28, none⟩] [0, 1, 2])
 (.seq (.ops [
 ⟨some 7, .move (.tmp 0), 25, none⟩,
 ⟨some 8, .nilCheck (.tmp 7), 0, none⟩,
 ⟨some 9, .fieldAddr 86 (.tmp 8) 1, 0, none⟩,
 ⟨some 10, .load 84 (.tmp 9), 84, none⟩,
 ⟨some 11, .move (.tmp 1), 3, none⟩,
 ⟨some 12, .call ⟨.value (.func 69), #[(.tmp 10), (.tmp 11)], #[84, 3]⟩, 4, none⟩] [0, 1, 2]) (sg c43S1)))
set_option maxRecDepth 100000 in
theorem ent43 (a0 a1 a2 : Value) (w : World) (K : Value → World → Prop) (h : W Try.prog c43 [(0, a0), (1, a1), (2, a2)] w (finQ Try.prog [.tmp 6] K)) : Ret Try.prog 43 [a0, a1, a2] w K :=
  Ret_of_W (code := c43code) Try.func43 (by kernel_rfl) (by kernel_rfl) (of_decide_eq_true (by kernel_rfl)) h
@[go_sem] theorem go43 : goFunc Try.prog 43 = true := by kernel_rfl
noncomputable def c44code : Code := match Try.f44.body with | some c => c | none => .skip
noncomputable def c44S0 (_ : Unit) : Cmd := (.cond (.tmp 6)
  (.seq (.ops [
  ⟨some 2, .assign (.const (.string (ofL []))), 9, none⟩,
  ⟨some 3, .assign (.const (.int .i64 3)), 28, none⟩] [2, 3])
  .ret)
  (.skip [0]))
noncomputable def c44S1 (_ : Unit) : Cmd := .ret
noncomputable def c44S2 (_ : Unit) : Cmd := (.seq (.ops [
 ⟨some 7, .move (.tmp 0), 25, none⟩,
 ⟨some 8, .call ⟨.value (.func 49), #[(.tmp 7), (.const (.int .i64 0))], #[25, 3]⟩, 41, none⟩,
 ⟨some 9, .extract (.tmp 8) 0, 9, none⟩,
 ⟨some 10, .extract (.tmp 8) 1, 28, none⟩,
 ⟨some 2, .assign (.tmp 9), 9, none⟩,
 ⟨some 3, .assign (.tmp 10), 28, none⟩] [2, 3]) (sg c44S1))
noncomputable def c44 : Cmd := (.seq (.ops [
 ⟨some 2, .assign (.const (.string (ofL []))), 9, none⟩,
 ⟨some 3, .assign (.const (.int .i64 0)), 28, none⟩] [0])
 (.seq (.seq (.ops [
 ⟨some 4, .move (.tmp 0), 25, none⟩,
 ⟨some 5, .call ⟨.value (.func 40), #[(.tmp 4)], #[25]⟩, 4, none⟩,
 ⟨some 6, .unOp .not 4 (.tmp 5), 4, none⟩] [0, 6]) (sg c44S0)) (sg c44S2)))
set_option maxRecDepth 100000 in
theorem ent44 (a0 : Value) (w : World) (K : Value → World → Prop) (h : W Try.prog c44 [(0, a0)] w (finQ Try.prog [.tmp 2, .tmp 3] K)) : Ret Try.prog 44 [a0] w K :=
  Ret_of_W (code := c44code) Try.func44 (by kernel_rfl) (by kernel_rfl) (of_decide_eq_true (by kernel_rfl)) h
@[go_sem] theorem go44 : goFunc Try.prog 44 = true := by kernel_rfl
noncomputable def c45code : Code := match Try.f45.body with | some c => c | none => .skip
noncomputable def c45S0 (_ : Unit) : Cmd := (.cond (.tmp 38)
  (.seq (.ops [
  ⟨some 39, .move (.tmp 8), 3, none⟩,
  ⟨some 6, .assign (.tmp 39), 3, none⟩,
  ⟨some 7, .assign (.const (.bool true)), 4, none⟩] [6, 7])
  .ret)
  (.skip [0, 2, 8]))
noncomputable def c45S1 (_ : Unit) : Cmd := (.seq (.ops [
 ⟨some 35, .move (.tmp 0), 9, none⟩,
 ⟨some 36, .move (.tmp 8), 3, none⟩,
 ⟨some 37, .call ⟨.value (.func 47), #[(.tmp 35), (.tmp 36)], #[9, 3]⟩, 4, none⟩,
 ⟨some 38, .unOp .not 4 (.tmp 37), 4, none⟩] [0, 2, 8, 38]) (sg c45S0))
noncomputable def c45S2 (_ : Unit) : Cmd := (.ops [
 ⟨some 21, .move (.tmp 8), 3, none⟩,
 ⟨some 22, .binOp .add 3 (.tmp 21) (.const (.int .i64 1)) 3, 3, none⟩,
 ⟨some 8, .assign (.tmp 22), 3, none⟩] [0, 2, 8])
noncomputable def c45S3 (_ : Unit) : Cmd := (.seq (.block 1 (.seq (.seq (.ops [
 ⟨some 23, .move (.tmp 8), 3, none⟩,
 ⟨some 24, .binOp .rem 3 (.tmp 23) (.const (.int .i64 8)) 3, 3, none⟩,
 ⟨some 25, .binOp .eql 3 (.tmp 24) (.const (.int .i64 0)) 3, 4, none⟩,
 ⟨some 26, .move (.tmp 25), 4, none⟩,
 ⟨some 27, .move (.tmp 0), 9, (some (26, true))⟩,
 ⟨some 28, .move (.tmp 8), 3, (some (26, true))⟩,
 ⟨some 29, .binOp .quo 3 (.tmp 28) (.const (.int .i64 8)) 3, 3, (some (26, true))⟩,
 ⟨some 30, .index 9 (.tmp 27) (.tmp 29), 5, (some (26, true))⟩,
 ⟨some 31, .binOp .eql 5 (.tmp 30) (.const (.int .u8 255)) 5, 4, (some (26, true))⟩,
 ⟨some 32, .pick (.tmp 26) (.tmp 31) (.const (.bool false)), 4, none⟩] [0, 2, 8, 32])
 (.cond (.tmp 32)
  (.seq (.ops [
  ⟨some 33, .move (.tmp 8), 3, none⟩,
  ⟨some 34, .binOp .add 3 (.tmp 33) (.const (.int .i64 7)) 3, 3, none⟩,
  ⟨some 8, .assign (.tmp 34), 3, none⟩] [0, 2, 8])
  (.exit 1 [0, 2, 8]))
  (.skip [0, 2, 8]))) (sg c45S1))) (sg c45S2))
noncomputable def c45L0 (_ : Unit) : Cmd := (.seq (.seq (.ops [
 ⟨some 11, .move (.tmp 8), 3, none⟩,
 ⟨some 12, .move (.tmp 2), 3, none⟩,
 ⟨some 13, .binOp .lss 3 (.tmp 11) (.tmp 12) 3, 4, none⟩,
 ⟨some 14, .move (.tmp 13), 4, none⟩,
 ⟨some 15, .move (.tmp 8), 3, (some (14, true))⟩,
 ⟨some 16, .binOp .quo 3 (.tmp 15) (.const (.int .i64 8)) 3, 3, (some (14, true))⟩,
 ⟨some 17, .move (.tmp 0), 9, (some (14, true))⟩,
 ⟨some 18, .call ⟨.builtin .len, #[(.tmp 17)], #[9]⟩, 3, (some (14, true))⟩,
 ⟨some 19, .binOp .lss 3 (.tmp 16) (.tmp 18) 3, 4, (some (14, true))⟩,
 ⟨some 20, .pick (.tmp 14) (.tmp 19) (.const (.bool false)), 4, none⟩] [0, 2, 8, 20])
 (.cond (.tmp 20)
  (.skip [0, 2, 8])
  (.exit 0 []))) (sg c45S3))
noncomputable def c45S4 (_ : Unit) : Cmd := (.block 0 (.loop (sg c45L0)))
noncomputable def c45S5 (_ : Unit) : Cmd := (.seq (.ops [
 ⟨some 6, .assign (.const (.int .i64 0)), 3, none⟩,
 ⟨some 7, .assign (.const (.bool false)), 4, none⟩] [6, 7])
 .ret)
noncomputable def c45 : Cmd := (.seq (.ops [
 ⟨some 6, .assign (.const (.int .i64 0)), 3, none⟩,
 ⟨some 7, .assign (.const (.bool false)), 4, none⟩] [0, 1, 2])
 (.seq (.seq (.ops [
 ⟨some 9, .move (.tmp 1), 3, none⟩,
 ⟨some 10, .call ⟨.builtin .max, #[(.const (.int .i64 0)), (.tmp 9)], #[3, 3]⟩, 3, none⟩,
 ⟨some 8, .assign (.tmp 10), 3, none⟩] [0, 2, 8]) (sg c45S4)) (sg c45S5)))
set_option maxRecDepth 100000 in
theorem ent45 (a0 a1 a2 : Value) (w : World) (K : Value → World → Prop) (h : W Try.prog c45 [(0, a0), (1, a1), (2, a2)] w (finQ Try.prog [.tmp 6, .tmp 7] K)) : Ret Try.prog 45 [a0, a1, a2] w K :=
  Ret_of_W (code := c45code) Try.func45 (by kernel_rfl) (by kernel_rfl) (of_decide_eq_true (by kernel_rfl)) h
@[go_sem] theorem go45 : goFunc Try.prog 45 = true := by kernel_rfl
noncomputable def c46code : Code := match Try.f46.body with | some c => c | none => .skip
noncomputable def c46S0 (_ : Unit) : Cmd := (.ops [
 ⟨some 16, .binOp .add 3 (.tmp 7) (.const (.int .i64 1)) 3, 3, none⟩,
 ⟨some 7, .move (.tmp 16), 3, none⟩] [0, 3, 6, 7])
noncomputable def c46S1 (_ : Unit) : Cmd := (.seq (.block 1 (.seq (.ops [
 ⟨some 9, .move (.tmp 7), 3, none⟩,
 ⟨some 4, .assign (.tmp 9), 3, none⟩] [0, 3, 4, 6, 7])
 (.ops [
 ⟨some 10, .move (.tmp 3), 3, none⟩,
 ⟨some 11, .move (.tmp 0), 9, none⟩,
 ⟨some 12, .move (.tmp 4), 3, none⟩,
 ⟨some 13, .index 9 (.tmp 11) (.tmp 12), 5, none⟩,
 ⟨some 14, .call ⟨.value (.func 70), #[(.tmp 13)], #[5]⟩, 3, none⟩,
 ⟨some 15, .binOp .add 3 (.tmp 10) (.tmp 14) 3, 3, none⟩,
 ⟨some 3, .assign (.tmp 15), 3, none⟩] [0, 3, 6, 7]))) (sg c46S0))
noncomputable def c46L0 (_ : Unit) : Cmd := (.seq (.ops [
 ⟨some 8, .binOp .lss 3 (.tmp 7) (.tmp 6) 3, 4, none⟩] [0, 3, 6, 7, 8])
 (.seq (.cond (.tmp 8)
  (.skip [0, 3, 6, 7])
  (.exit 0 [3])) (sg c46S1)))
noncomputable def c46S2 (_ : Unit) : Cmd := (.seq (.ops [
 ⟨some 17, .move (.tmp 3), 3, none⟩,
 ⟨some 2, .assign (.tmp 17), 3, none⟩] [2])
 .ret)
noncomputable def c46 : Cmd := (.seq (.ops [
 ⟨some 2, .assign (.const (.int .i64 0)), 3, none⟩] [0])
 (.seq (.ops [
 ⟨some 3, .assign (.const (.int .i64 0)), 3, none⟩] [0, 3])
 (.seq (.seq (.ops [
 ⟨some 5, .move (.tmp 0), 9, none⟩,
 ⟨some 6, .call ⟨.builtin .len, #[(.tmp 5)], #[9]⟩, 3, none⟩,
 ⟨some 7, .move (.const (.int .i64 0)), 3, none⟩] [0, 3, 6, 7])
 (.block 0 (.loop (sg c46L0)))) (sg c46S2))))
set_option maxRecDepth 100000 in
theorem ent46 (a0 : Value) (w : World) (K : Value → World → Prop) (h : W Try.prog c46 [(0, a0)] w (finQ Try.prog [.tmp 2] K)) : Ret Try.prog 46 [a0] w K :=
  Ret_of_W (code := c46code) Try.func46 (by kernel_rfl) (by kernel_rfl) (of_decide_eq_true (by kernel_rfl)) h
@[go_sem] theorem go46 : goFunc Try.prog 46 = true := by kernel_rfl
noncomputable def c47code : Code := match Try.f47.body with | some c => c | none => .skip
noncomputable def c47 : Cmd := (.seq (.ops [
 ⟨some 4, .assign (.const (.bool false)), 4, none⟩] [0, 1])
 (.seq (.ops [
 ⟨some 5, .move (.tmp 1), 3, none⟩,
 ⟨some 6, .binOp .geq 3 (.tmp 5) (.const (.int .i64 0)) 3, 4, none⟩,
 ⟨some 7, .move (.tmp 6), 4, none⟩,
 ⟨some 8, .move (.tmp 1), 3, (some (7, true))⟩,
 ⟨some 9, .binOp .quo 3 (.tmp 8) (.const (.int .i64 8)) 3, 3, (some (7, true))⟩,
 ⟨some 10, .move (.tmp 0), 9, (some (7, true))⟩,
 ⟨some 11, .call ⟨.builtin .len, #[(.tmp 10)], #[9]⟩, 3, (some (7, true))⟩,
 ⟨some 12, .binOp .lss 3 (.tmp 9) (.tmp 11) 3, 4, (some (7, true))⟩,
 ⟨some 13, .pick (.tmp 7) (.tmp 12) (.const (.bool false)), 4, none⟩,
 ⟨some 14, .move (.tmp 13), 4, none⟩,
 ⟨some 15, .move (.tmp 0), 9, (some (14, true))⟩,
 ⟨some 16, .move (.tmp 1), 3, (some (14, true))⟩,
 ⟨some 17, .binOp .quo 3 (.tmp 16) (.const (.int .i64 8)) 3, 3, (some (14, true))⟩,
 ⟨some 18, .index 9 (.tmp 15) (.tmp 17), 5, (some (14, true))⟩,
 ⟨some 19, .move (.tmp 1), 3, (some (14, true))⟩,
 ⟨some 20, .binOp .rem 3 (.tmp 19) (.const (.int .i64 8)) 3, 3, (some (14, true))⟩,
 ⟨some 21, .convert 3 22 (.tmp 20), 22, (some (14, true))⟩,
 ⟨some 22, .binOp .shr 5 (.tmp 18) (.tmp 21) 22, 5, (some (14, true))⟩,
 ⟨some 23, .binOp .and 5 (.tmp 22) (.const (.int .u8 1)) 5, 5, (some (14, true))⟩,
 ⟨some 24, .binOp .eql 5 (.tmp 23) (.const (.int .u8 1)) 5, 4, (some (14, true))⟩,
 ⟨some 25, .pick (.tmp 14) (.tmp 24) (.const (.bool false)), 4, none⟩,
 ⟨some 4, .assign (.tmp 25), 4, none⟩] [4])
 .ret))
set_option maxRecDepth 100000 in
theorem ent47 (a0 a1 : Value) (w : World) (K : Value → World → Prop) (h : W Try.prog c47 [(0, a0), (1, a1)] w (finQ Try.prog [.tmp 4] K)) : Ret Try.prog 47 [a0, a1] w K :=
  Ret_of_W (code := c47code) Try.func47 (by kernel_rfl) (by kernel_rfl) (of_decide_eq_true (by kernel_rfl)) h
@[go_sem] theorem go47 : goFunc Try.prog 47 = true := by kernel_rfl
noncomputable def c48code : Code := match Try.f48.body with | some c => c | none => .skip
noncomputable def c48S0 (_ : Unit) : Cmd := (.cond (.tmp 32)
  (.ops [
  ⟨some 6, .assign (.const (.int .i64 6)), 28, none⟩] [6])
  (.skip [6]))
noncomputable def c48S1 (_ : Unit) : Cmd := (.seq (.ops [
 ⟨some 33, .move (.tmp 6), 28, none⟩,
 ⟨some 4, .assign (.tmp 33), 28, none⟩] [4])
 .ret)
noncomputable def c48S2 (_ : Unit) : Cmd := (.seq (.seq (.ops [
 ⟨some 12, .move (.tmp 6), 28, none⟩,
 ⟨some 13, .binOp .eql 28 (.tmp 12) (.const (.int .i64 0)) 28, 4, none⟩,
 ⟨some 14, .move (.tmp 13), 4, none⟩,
 ⟨some 15, .move (.tmp 1), 3, (some (14, true))⟩,
 ⟨some 16, .binOp .lss 3 (.tmp 15) (.const (.int .i64 2)) 3, 4, (some (14, true))⟩,
 ⟨some 17, .move (.tmp 16), 4, (some (14, true))⟩,
 ⟨some 18, .move (.tmp 1), 3, (some (17, false))⟩,
 ⟨some 19, .move (.tmp 0), 25, (some (17, false))⟩,
 ⟨some 20, .nilCheck (.tmp 19), 0, (some (17, false))⟩,
 ⟨some 21, .fieldAddr 86 (.tmp 20) 0, 0, (some (17, false))⟩,
 ⟨some 22, .load 24 (.tmp 21), 24, (some (17, false))⟩,
 ⟨some 23, .call ⟨.value (.func 36), #[(.tmp 22)], #[24]⟩, 3, (some (17, false))⟩,
 ⟨some 24, .binOp .geq 3 (.tmp 18) (.tmp 23) 3, 4, (some (17, false))⟩,
 ⟨some 25, .pick (.tmp 17) (.const (.bool true)) (.tmp 24), 4, (some (14, true))⟩,
 ⟨some 26, .move (.tmp 25), 4, (some (14, true))⟩,
 ⟨some 27, .move (.tmp 5), 9, (some (26, false))⟩,
 ⟨some 28, .move (.tmp 1), 3, (some (26, false))⟩,
 ⟨some 29, .call ⟨.value (.func 47), #[(.tmp 27), (.tmp 28)], #[9, 3]⟩, 4, (some (26, false))⟩,
 ⟨some 30, .unOp .not 4 (.tmp 29), 4, (some (26, false))⟩,
 ⟨some 31, .pick (.tmp 26) (.const (.bool true)) (.tmp 30), 4, (some (14, true))⟩,
 ⟨some 32, .pick (.tmp 14) (.tmp 31) (.const (.bool false)), 4, none⟩] [6, 32]) (sg c48S0)) (sg c48S1))
noncomputable def c48 : Cmd := (.seq (.ops [
 ⟨some 4, .assign (.const (.int .i64 0)), 28, none⟩] [0, 1])
 (.seq (.ops [
 ⟨some 8, .move (.tmp 0), 25, none⟩,
 ⟨some 9, .call ⟨.value (.func 44), #[(.tmp 8)], #[25]⟩, 41, none⟩,
 ⟨some 7, .move (.tmp 9), 41, none⟩,
 ⟨some 10, .extract (.tmp 7) 0, 9, none⟩,
 ⟨some 11, .extract (.tmp 7) 1, 28, none⟩,
 ⟨some 5, .assign (.tmp 10), 9, none⟩,
 ⟨some 6, .assign (.tmp 11), 28, none⟩] [0, 1, 5, 6]) (sg c48S2)))
set_option maxRecDepth 100000 in
theorem ent48 (a0 a1 : Value) (w : World) (K : Value → World → Prop) (h : W Try.prog c48 [(0, a0), (1, a1)] w (finQ Try.prog [.tmp 4] K)) : Ret Try.prog 48 [a0, a1] w K :=
  Ret_of_W (code := c48code) Try.func48 (by kernel_rfl) (by kernel_rfl) (of_decide_eq_true (by kernel_rfl)) h
@[go_sem] theorem go48 : goFunc Try.prog 48 = true := by kernel_rfl
noncomputable def c49code : Code := match Try.f49.body with | some c => c | none => .skip
noncomputable def c49S0 (_ : Unit) : Cmd := (.seq (.ops [
 ⟨some 19, .move (.tmp 7), 4, none⟩] [0, 1, 6, 19])
 (.cond (.tmp 19)
  (.seq (.ops [
  ⟨some 20, .move (.tmp 6), 9, none⟩,
  ⟨some 4, .assign (.tmp 20), 9, none⟩,
  ⟨some 5, .assign (.const (.int .i64 0)), 28, none⟩] [4, 5])
  .ret)
  (.skip [0, 1])))
noncomputable def c49S1 (_ : Unit) : Cmd := (.seq (.ops [
 ⟨some 39, .move (.tmp 8), 9, none⟩,
 ⟨some 40, .move (.tmp 9), 28, none⟩,
 ⟨some 4, .assign (.tmp 39), 9, none⟩,
 ⟨some 5, .assign (.tmp 40), 28, none⟩] [4, 5])
 .ret)
noncomputable def c49S2 (_ : Unit) : Cmd := (.seq (.seq (.ops [
 ⟨some 30, .move (.tmp 9), 28, none⟩,
 ⟨some 31, .binOp .eql 28 (.tmp 30) (.const (.int .i64 0)) 28, 4, none⟩] [0, 1, 8, 9, 31])
 (.cond (.tmp 31)
  (.ops [
  ⟨some 32, .move (.tmp 0), 25, none⟩,
  ⟨some 33, .nilCheck (.tmp 32), 0, none⟩,
  ⟨some 34, .fieldAddr 86 (.tmp 33) 1, 0, none⟩,
  ⟨some 35, .load 84 (.tmp 34), 84, none⟩,
  ⟨some 36, .move (.tmp 1), 3, none⟩,
  ⟨some 37, .move (.tmp 8), 9, none⟩,
  ⟨some 38, .call ⟨.value (.func 72), #[(.tmp 35), (.tmp 36), (.tmp 37)], #[84, 3, 9]⟩, 122, none⟩] [8, 9])
  (.skip [8, 9]))) (sg c49S1))
noncomputable def c49S3 (_ : Unit) : Cmd := (.seq (.ops [
 ⟨some 22, .move (.tmp 0), 25, none⟩,
 ⟨some 23, .nilCheck (.tmp 22), 0, none⟩,
 ⟨some 24, .fieldAddr 86 (.tmp 23) 0, 0, none⟩,
 ⟨some 25, .load 24 (.tmp 24), 24, none⟩,
 ⟨some 26, .move (.tmp 1), 3, none⟩,
 ⟨some 27, .call ⟨.value (.func 34), #[(.tmp 25), (.tmp 26)], #[24, 3]⟩, 41, none⟩,
 ⟨some 21, .move (.tmp 27), 41, none⟩,
 ⟨some 28, .extract (.tmp 21) 0, 9, none⟩,
 ⟨some 29, .extract (.tmp 21) 1, 28, none⟩,
 ⟨some 8, .assign (.tmp 28), 9, none⟩,
 ⟨some 9, .assign (.tmp 29), 28, none⟩] [0, 1, 8, 9]) (sg c49S2))
noncomputable def c49 : Cmd := (.seq (.ops [
 ⟨some 4, .assign (.const (.string (ofL []))), 9, none⟩,
 ⟨some 5, .assign (.const (.int .i64 0)), 28, none⟩] [0, 1])
 (.seq (.seq (.ops [
 ⟨some 11, .move (.tmp 0), 25, none⟩,
 ⟨some 12, .nilCheck (.tmp 11), 0, none⟩,
 ⟨some 13, .fieldAddr 86 (.tmp 12) 1, 0, none⟩,
 ⟨some 14, .load 84 (.tmp 13), 84, none⟩,
 ⟨some 15, .move (.tmp 1), 3, none⟩,
 ⟨some 16, .call ⟨.value (.func 71), #[(.tmp 14), (.tmp 15)], #[84, 3]⟩, 88, none⟩,
 ⟨some 10, .move (.tmp 16), 88, none⟩,
 ⟨some 17, .extract (.tmp 10) 0, 9, none⟩,
 ⟨some 18, .extract (.tmp 10) 1, 4, none⟩,
 ⟨some 6, .assign (.tmp 17), 9, none⟩,
 ⟨some 7, .assign (.tmp 18), 4, none⟩] [0, 1, 6, 7]) (sg c49S0)) (sg c49S3)))
set_option maxRecDepth 100000 in
theorem ent49 (a0 a1 : Value) (w : World) (K : Value → World → Prop) (h : W Try.prog c49 [(0, a0), (1, a1)] w (finQ Try.prog [.tmp 4, .tmp 5] K)) : Ret Try.prog 49 [a0, a1] w K :=
  Ret_of_W (code := c49code) Try.func49 (by kernel_rfl) (by kernel_rfl) (of_decide_eq_true (by kernel_rfl)) h
@[go_sem] theorem go49 : goFunc Try.prog 49 = true := by kernel_rfl
noncomputable def c50code : Code := match Try.f50.body with | some c => c | none => .skip
noncomputable def c50S0 (_ : Unit) : Cmd := (.ops [
 ⟨some 23, .binOp .add 3 (.tmp 11) (.const (.int .i64 1)) 3, 3, none⟩,
 ⟨some 11, .move (.tmp 23), 3, none⟩] [0, 5, 10, 11])
noncomputable def c50S1 (_ : Unit) : Cmd := (.seq (.block 1 (.seq (.ops [
 ⟨some 13, .move (.tmp 11), 3, none⟩,
 ⟨some 6, .assign (.tmp 13), 3, none⟩] [0, 5, 6, 10, 11])
 (.ops [
 ⟨some 14, .move (.tmp 5), 95, none⟩,
 ⟨some 15, .move (.tmp 0), 59, none⟩,
 ⟨some 16, .move (.tmp 6), 3, none⟩,
 ⟨some 17, .binOp .mul 3 (.const (.int .i64 8)) (.tmp 16) 3, 3, none⟩,
 ⟨some 18, .convert 3 22 (.tmp 17), 22, none⟩,
 ⟨some 19, .binOp .shr 59 (.tmp 15) (.tmp 18) 22, 59, none⟩,
 ⟨some 20, .convert 59 5 (.tmp 19), 5, none⟩,
 ⟨some 21, .buildSlice 95 1 #[(0, (.tmp 20))], 95, none⟩,
 ⟨some 22, .call ⟨.builtin .append, #[(.tmp 14), (.tmp 21)], #[95, 95]⟩, 95, none⟩,
 ⟨some 5, .assign (.tmp 22), 95, none⟩] [0, 5, 10, 11]))) (sg c50S0))
noncomputable def c50L0 (_ : Unit) : Cmd := (.seq (.ops [
 ⟨some 12, .binOp .lss 3 (.tmp 11) (.tmp 10) 3, 4, none⟩] [0, 5, 10, 11, 12])
 (.seq (.cond (.tmp 12)
  (.skip [0, 5, 10, 11])
  (.exit 0 [5])) (sg c50S1)))
noncomputable def c50S2 (_ : Unit) : Cmd := (.block 0 (.loop (sg c50L0)))
noncomputable def c50S3 (_ : Unit) : Cmd := (.seq (.ops [
 ⟨some 24, .move (.tmp 5), 95, none⟩,
 ⟨some 25, .convert 95 9 (.tmp 24), 9, none⟩,
 ⟨some 4, .assign (.tmp 25), 9, none⟩] [4])
 .ret)
noncomputable def c50 : Cmd := (.seq (.ops [
 ⟨some 4, .assign (.const (.string (ofL []))), 9, none⟩] [0, 1])
 (.seq (.ops [
 ⟨some 7, .makeSlice 95 (.const (.int .i64 0)) (.const (.int .i64 8)), 95, none⟩,
 ⟨some 5, .assign (.tmp 7), 95, none⟩] [0, 1, 5])
 (.seq (.seq (.ops [
 ⟨some 8, .move (.tmp 1), 3, none⟩,
 ⟨some 9, .call ⟨.builtin .min, #[(.tmp 8), (.const (.int .i64 8))], #[3, 3]⟩, 3, none⟩,
 ⟨some 10, .call ⟨.builtin .max, #[(.const (.int .i64 0)), (.tmp 9)], #[3, 3]⟩, 3, none⟩,
 ⟨some 11, .move (.const (.int .i64 0)), 3, none⟩] [0, 5, 10, 11]) (sg c50S2)) (sg c50S3))))
set_option maxRecDepth 100000 in
theorem ent50 (a0 a1 : Value) (w : World) (K : Value → World → Prop) (h : W Try.prog c50 [(0, a0), (1, a1)] w (finQ Try.prog [.tmp 4] K)) : Ret Try.prog 50 [a0, a1] w K :=
  Ret_of_W (code := c50code) Try.func50 (by kernel_rfl) (by kernel_rfl) (of_decide_eq_true (by kernel_rfl)) h
@[go_sem] theorem go50 : goFunc Try.prog 50 = true := by kernel_rfl
noncomputable def c51code : Code := match Try.f51.body with | some c => c | none => .skip
noncomputable def c51S0 (_ : Unit) : Cmd := (.seq (.block 1 (.seq (.ops [
 ⟨some 10, .move (.tmp 8), 3, none⟩,
 ⟨some 4, .assign (.tmp 10), 3, none⟩] [0, 3, 4, 7, 8])
 (.ops [
 ⟨some 11, .move (.tmp 3), 59, none⟩,
 ⟨some 12, .move (.tmp 0), 9, none⟩,
 ⟨some 13, .move (.tmp 4), 3, none⟩,
 ⟨some 14, .index 9 (.tmp 12) (.tmp 13), 5, none⟩,
 ⟨some 15, .convert 5 59 (.tmp 14), 59, none⟩,
 ⟨some 16, .move (.tmp 4), 3, none⟩,
 ⟨some 17, .binOp .mul 3 (.const (.int .i64 8)) (.tmp 16) 3, 3, none⟩,
 ⟨some 18, .convert 3 22 (.tmp 17), 22, none⟩,
 ⟨some 19, .binOp .shl 59 (.tmp 15) (.tmp 18) 22, 59, none⟩,
 ⟨some 20, .binOp .or 59 (.tmp 11) (.tmp 19) 59, 59, none⟩,
 ⟨some 3, .assign (.tmp 20), 59, none⟩] [0, 3, 7, 8])))
 (.ops [
 ⟨some 21, .binOp .add 3 (.tmp 8) (.const (.int .i64 1)) 3, 3, none⟩,
 ⟨some 8, .move (.tmp 21), 3, none⟩] [0, 3, 7, 8]))
noncomputable def c51L0 (_ : Unit) : Cmd := (.seq (.ops [
 ⟨some 9, .binOp .lss 3 (.tmp 8) (.tmp 7) 3, 4, none⟩] [0, 3, 7, 8, 9])
 (.seq (.cond (.tmp 9)
  (.skip [0, 3, 7, 8])
  (.exit 0 [3])) (sg c51S0)))
noncomputable def c51S1 (_ : Unit) : Cmd := (.block 0 (.loop (sg c51L0)))
noncomputable def c51S2 (_ : Unit) : Cmd := (.seq (.ops [
 ⟨some 22, .move (.tmp 3), 59, none⟩,
 ⟨some 2, .assign (.tmp 22), 59, none⟩] [2])
 .ret)
noncomputable def c51 : Cmd := (.seq (.ops [
 ⟨some 2, .assign (.const (.int .u64 0)), 59, none⟩] [0])
 (.seq (.ops [
 ⟨some 3, .assign (.const (.int .u64 0)), 59, none⟩] [0, 3])
 (.seq (.seq (.ops [
 ⟨some 5, .move (.tmp 0), 9, none⟩,
 ⟨some 6, .call ⟨.builtin .len, #[(.tmp 5)], #[9]⟩, 3, none⟩,
 ⟨some 7, .call ⟨.builtin .min, #[(.tmp 6), (.const (.int .i64 8))], #[3, 3]⟩, 3, none⟩,
 ⟨some 8, .move (.const (.int .i64 0)), 3, none⟩] [0, 3, 7, 8]) (sg c51S1)) (sg c51S2))))
set_option maxRecDepth 100000 in
theorem ent51 (a0 : Value) (w : World) (K : Value → World → Prop) (h : W Try.prog c51 [(0, a0)] w (finQ Try.prog [.tmp 2] K)) : Ret Try.prog 51 [a0] w K :=
  Ret_of_W (code := c51code) Try.func51 (by kernel_rfl) (by kernel_rfl) (of_decide_eq_true (by kernel_rfl)) h
@[go_sem] theorem go51 : goFunc Try.prog 51 = true := by kernel_rfl
noncomputable def c52code : Code := match Try.f52.body with | some c => c | none => .skip
noncomputable def c52S0 (_ : Unit) : Cmd := (.seq (.ops [
 ⟨some 4, .assign (.const (.int .i64 0)), 28, none⟩] [4])
 .ret)
noncomputable def c52 : Cmd := (.seq (.ops [
 ⟨some 4, .assign (.const (.int .i64 0)), 28, none⟩] [0, 1])
 (.seq (.block 0 (.seq (.ops [
 ⟨some 6, .move (.tmp 0), 24, none⟩,
 ⟨some 7, .binOp .eql 24 (.tmp 6) (.const (.pointer none)) 24, 4, none⟩,
 ⟨some 8, .move (.tmp 7), 4, none⟩,
 ⟨some 9, .move (.tmp 0), 24, (some (8, false))⟩,
 ⟨some 10, .nilCheck (.tmp 9), 0, (some (8, false))⟩,
 ⟨some 11, .fieldAddr 76 (.tmp 10) 0, 0, (some (8, false))⟩,
 ⟨some 12, .load 23 (.tmp 11), 23, (some (8, false))⟩,
 ⟨some 13, .binOp .eql 23 (.tmp 12) (.const (.pointer none)) 23, 4, (some (8, false))⟩,
 ⟨some 14, .pick (.tmp 8) (.const (.bool true)) (.tmp 13), 4, none⟩,
 ⟨some 5, .assign (.tmp 14), 4, none⟩] [0, 1, 5])
 (.cond (.tmp 5)
  (.seq (.ops [
  ⟨some 4, .assign (.const (.int .i64 3)), 28, none⟩] [4])
  .ret)
  (.seq (.ops [
  ⟨some 16, .move (.tmp 0), 24, none⟩,
  ⟨some 17, .nilCheck (.tmp 16), 0, none⟩,
  ⟨some 18, .fieldAddr 76 (.tmp 17) 3, 0, none⟩,
  ⟨some 19, .load 4 (.tmp 18), 4, none⟩,
  ⟨some 15, .assign (.tmp 19), 4, none⟩] [0, 1, 15])
  (.cond (.tmp 15)
   (.seq (.ops [
   ⟨some 4, .assign (.const (.int .i64 11)), 28, none⟩] [4])
   .ret)
   (.seq (.ops [
   ⟨some 21, .move (.tmp 1), 3, none⟩,
   ⟨some 22, .binOp .lss 3 (.tmp 21) (.const (.int .i64 0)) 3, 4, none⟩,
   ⟨some 23, .move (.tmp 22), 4, none⟩,
   ⟨some 24, .move (.tmp 1), 3, (some (23, false))⟩,
   ⟨some 25, .move (.tmp 0), 24, (some (23, false))⟩,
   ⟨some 26, .nilCheck (.tmp 25), 0, (some (23, false))⟩,
   ⟨some 27, .fieldAddr 76 (.tmp 26) 1, 0, (some (23, false))⟩,
   ⟨some 28, .fieldAddr 73 (.tmp 27) 3, 0, (some (23, false))⟩,
   ⟨some 29, .load 3 (.tmp 28), 3, (some (23, false))⟩,
   ⟨some 30, .binOp .geq 3 (.tmp 24) (.tmp 29) 3, 4, (some (23, false))⟩,
   ⟨some 31, .pick (.tmp 23) (.const (.bool true)) (.tmp 30), 4, none⟩,
   ⟨some 20, .assign (.tmp 31), 4, none⟩] [20])
   (.cond (.tmp 20)
    (.seq (.ops [
    ⟨some 4, .assign (.const (.int .i64 10)), 28, none⟩] [4])
    .ret)
    (.skip [])))))))) (sg c52S0)))
set_option maxRecDepth 100000 in
theorem ent52 (a0 a1 : Value) (w : World) (K : Value → World → Prop) (h : W Try.prog c52 [(0, a0), (1, a1)] w (finQ Try.prog [.tmp 4] K)) : Ret Try.prog 52 [a0, a1] w K :=
  Ret_of_W (code := c52code) Try.func52 (by kernel_rfl) (by kernel_rfl) (of_decide_eq_true (by kernel_rfl)) h
@[go_sem] theorem go52 : goFunc Try.prog 52 = true := by kernel_rfl
noncomputable def c58code : Code := match Try.f58.body with | some c => c | none => .skip
noncomputable def c58S0 (_ : Unit) : Cmd := (.seq (.ops [
 ⟨some 70, .move (.tmp 10), 4, none⟩,
 ⟨some 71, .move (.tmp 70), 4, none⟩,
 ⟨some 72, .move (.tmp 11), 4, (some (71, true))⟩,
 ⟨some 73, .pick (.tmp 71) (.tmp 72) (.const (.bool false)), 4, none⟩,
 ⟨some 74, .move (.tmp 73), 4, none⟩,
 ⟨some 75, .fieldAddr 73 (.tmp 9) 0, 0, (some (74, true))⟩,
 ⟨some 76, .load 59 (.tmp 75), 59, (some (74, true))⟩,
 ⟨some 77, .fieldAddr 73 (.tmp 4) 0, 0, (some (74, true))⟩,
 ⟨some 78, .load 59 (.tmp 77), 59, (some (74, true))⟩,
 ⟨some 79, .binOp .gtr 59 (.tmp 76) (.tmp 78) 59, 4, (some (74, true))⟩,
 ⟨some 80, .pick (.tmp 74) (.tmp 79) (.const (.bool false)), 4, none⟩,
 ⟨some 81, .move (.tmp 80), 4, none⟩,
 ⟨some 82, .fieldAddr 73 (.tmp 9) 0, 0, (some (81, true))⟩,
 ⟨some 83, .load 59 (.tmp 82), 59, (some (81, true))⟩,
 ⟨some 84, .binOp .rem 59 (.tmp 83) (.const (.int .u64 2)) 59, 59, (some (81, true))⟩,
 ⟨some 85, .convert 59 3 (.tmp 84), 3, (some (81, true))⟩,
 ⟨some 86, .move (.tmp 6), 3, (some (81, true))⟩,
 ⟨some 87, .binOp .eql 3 (.tmp 85) (.tmp 86) 3, 4, (some (81, true))⟩,
 ⟨some 88, .pick (.tmp 81) (.tmp 87) (.const (.bool false)), 4, none⟩] [0, 2, 4, 5, 9, 12, 88])
 (.cond (.tmp 88)
  (.ops [
  ⟨some 89, .load 73 (.tmp 9), 73, none⟩,
  ⟨none, .store 73 (.tmp 4) (.tmp 89), 0, none⟩,
  ⟨some 5, .assign (.const (.bool true)), 4, none⟩] [0, 2, 4, 5, 12])
  (.skip [0, 2, 4, 5, 12])))
noncomputable def c58S1 (_ : Unit) : Cmd := (.seq (.draw (drawOps 0 c58code) [0, 2, 4, 5, 6, 9, 10, 11, 12]) (sg c58S0))
noncomputable def c58S2 (_ : Unit) : Cmd := (.seq (.ops [
 ⟨some 28, .move (.tmp 7), 9, none⟩,
 ⟨some 29, .call ⟨.value (.func 80), #[(.tmp 28)], #[9]⟩, 128, none⟩,
 ⟨some 27, .move (.tmp 29), 128, none⟩,
 ⟨some 30, .extract (.tmp 27) 0, 73, none⟩,
 ⟨some 31, .extract (.tmp 27) 1, 4, none⟩,
 ⟨some 9, .alloc 73, 0, none⟩,
 ⟨none, .store 73 (.tmp 9) (.tmp 30), 0, none⟩,
 ⟨some 10, .assign (.tmp 31), 4, none⟩] [0, 2, 4, 5, 6, 9, 10, 12]) (sg c58S1))
noncomputable def c58S3 (_ : Unit) : Cmd := (.seq (.seq (.ops [
 ⟨some 23, .move (.tmp 8), 28, none⟩,
 ⟨some 24, .binOp .neq 28 (.tmp 23) (.const (.int .i64 0)) 28, 4, none⟩] [0, 2, 4, 5, 6, 7, 8, 12, 24])
 (.cond (.tmp 24)
  (.seq (.ops [
  ⟨some 25, .load 73 (.tmp 4), 73, none⟩,
  ⟨some 26, .move (.tmp 8), 28, none⟩,
  ⟨none, .store 73 (.tmp 2) (.tmp 25), 0, none⟩,
  ⟨some 3, .assign (.tmp 26), 28, none⟩] [2, 3])
  .ret)
  (.skip [0, 2, 4, 5, 6, 7, 12]))) (sg c58S2))
noncomputable def c58S4 (_ : Unit) : Cmd := (.seq (.seq (.ops [
 ⟨some 21, .move (.tmp 8), 28, none⟩,
 ⟨some 22, .binOp .eql 28 (.tmp 21) (.const (.int .i64 10)) 28, 4, none⟩] [0, 2, 4, 5, 6, 7, 8, 12, 22])
 (.cond (.tmp 22)
  (.exit 1 [0, 2, 4, 5, 12])
  (.skip [0, 2, 4, 5, 6, 7, 8, 12]))) (sg c58S3))
noncomputable def c58S5 (_ : Unit) : Cmd := (.ops [
 ⟨some 90, .binOp .add 3 (.tmp 12) (.const (.int .i64 1)) 3, 3, none⟩,
 ⟨some 12, .move (.tmp 90), 3, none⟩] [0, 2, 4, 5, 12])
noncomputable def c58S6 (_ : Unit) : Cmd := (.seq (.block 1 (.seq (.ops [
 ⟨some 14, .move (.tmp 12), 3, none⟩,
 ⟨some 6, .assign (.tmp 14), 3, none⟩] [0, 2, 4, 5, 6, 12])
 (.seq (.ops [
 ⟨some 16, .move (.tmp 0), 23, none⟩,
 ⟨some 17, .move (.tmp 6), 3, none⟩,
 ⟨some 18, .call ⟨.value (.func 59), #[(.tmp 16), (.tmp 17)], #[23, 3]⟩, 41, none⟩,
 ⟨some 15, .move (.tmp 18), 41, none⟩,
 ⟨some 19, .extract (.tmp 15) 0, 9, none⟩,
 ⟨some 20, .extract (.tmp 15) 1, 28, none⟩,
 ⟨some 7, .assign (.tmp 19), 9, none⟩,
 ⟨some 8, .assign (.tmp 20), 28, none⟩] [0, 2, 4, 5, 6, 7, 8, 12]) (sg c58S4)))) (sg c58S5))
noncomputable def c58L0 (_ : Unit) : Cmd := (.seq (.ops [
 ⟨some 13, .binOp .lss 3 (.tmp 12) (.const (.int .i64 2)) 3, 4, none⟩] [0, 2, 4, 5, 12, 13])
 (.seq (.cond (.tmp 13)
  (.skip [0, 2, 4, 5, 12])
  (.exit 0 [2, 4, 5])) (sg c58S6)))
noncomputable def c58S7 (_ : Unit) : Cmd := (.seq (.ops [
 ⟨some 94, .load 73 (.tmp 4), 73, none⟩,
 ⟨none, .store 73 (.tmp 2) (.tmp 94), 0, none⟩,
 ⟨some 3, .assign (.const (.int .i64 0)), 28, none⟩] [2, 3])
 .ret)
noncomputable def c58S8 (_ : Unit) : Cmd := (.seq (.seq (.ops [
 ⟨some 91, .move (.tmp 5), 4, none⟩,
 ⟨some 92, .unOp .not 4 (.tmp 91), 4, none⟩] [2, 4, 92])
 (.cond (.tmp 92)
  (.seq (.ops [
  ⟨some 93, .load 73 (.tmp 4), 73, none⟩,
  ⟨none, .store 73 (.tmp 2) (.tmp 93), 0, none⟩,
  ⟨some 3, .assign (.const (.int .i64 14)), 28, none⟩] [2, 3])
  .ret)
  (.skip [2, 4]))) (sg c58S7))
noncomputable def c58 : Cmd := (.seq (.ops [
 ⟨some 2, .alloc 73, 0, none⟩,
 ⟨some 3, .assign (.const (.int .i64 0)), 28, none⟩] [0, 2])
 (.seq (.ops [
 ⟨some 4, .alloc 73, 0, none⟩] [0, 2, 4])
 (.seq (.ops [
 ⟨some 5, .assign (.const (.bool false)), 4, none⟩] [0, 2, 4, 5])
 (.seq (.seq (.ops [
 ⟨some 12, .move (.const (.int .i64 0)), 3, none⟩] [0, 2, 4, 5, 12])
 (.block 0 (.loop (sg c58L0)))) (sg c58S8)))))
noncomputable def c58D0 : List (Nat × Ins) := [
 (0, ⟨some 32, .fieldAddr 73 (.tmp 9) 2, 0, none⟩),
 (2, ⟨some 33, .load 3 (.tmp 32), 3, none⟩),
 (0, ⟨some 34, .binOp .geq 3 (.tmp 33) (.const (.int .i64 1)) 3, 4, none⟩),
 (0, ⟨some 35, .move (.tmp 34), 4, none⟩),
 (0, ⟨some 36, .fieldAddr 73 (.tmp 9) 3, 0, (some (35, true))⟩),
 (2, ⟨some 37, .load 3 (.tmp 36), 3, (some (35, true))⟩),
 (0, ⟨some 38, .binOp .geq 3 (.tmp 37) (.const (.int .i64 1)) 3, 4, (some (35, true))⟩),
 (0, ⟨some 39, .pick (.tmp 35) (.tmp 38) (.const (.bool false)), 4, none⟩),
 (0, ⟨some 40, .move (.tmp 39), 4, none⟩),
 (0, ⟨some 41, .fieldAddr 73 (.tmp 9) 3, 0, (some (40, true))⟩),
 (2, ⟨some 42, .load 3 (.tmp 41), 3, (some (40, true))⟩),
 (0, ⟨some 43, .binOp .leq 3 (.tmp 42) (.const (.int .i64 1024)) 3, 4, (some (40, true))⟩),
 (0, ⟨some 44, .pick (.tmp 40) (.tmp 43) (.const (.bool false)), 4, none⟩),
 (0, ⟨some 45, .move (.tmp 44), 4, none⟩),
 (0, ⟨some 46, .fieldAddr 73 (.tmp 9) 1, 0, (some (45, true))⟩),
 (0, ⟨some 48, .fieldAddr 73 (.tmp 9) 2, 0, (some (45, true))⟩),
 (1, ⟨some 47, .load 3 (.tmp 46), 3, (some (45, true))⟩),
 (2, ⟨some 49, .load 3 (.tmp 48), 3, (some (45, true))⟩),
 (0, ⟨some 50, .binOp .leq 3 (.tmp 47) (.tmp 49) 3, 4, (some (45, true))⟩),
 (0, ⟨some 51, .pick (.tmp 45) (.tmp 50) (.const (.bool false)), 4, none⟩),
 (0, ⟨some 52, .move (.tmp 51), 4, none⟩),
 (0, ⟨some 53, .fieldAddr 73 (.tmp 9) 2, 0, (some (52, true))⟩),
 (0, ⟨some 55, .move (.tmp 0), 23, (some (52, true))⟩),
 (1, ⟨some 54, .load 3 (.tmp 53), 3, (some (52, true))⟩),
 (2, ⟨some 56, .call ⟨.value (.func 65), #[(.tmp 55)], #[23]⟩, 3, (some (52, true))⟩),
 (0, ⟨some 57, .binOp .leq 3 (.tmp 54) (.tmp 56) 3, 4, (some (52, true))⟩),
 (0, ⟨some 58, .pick (.tmp 52) (.tmp 57) (.const (.bool false)), 4, none⟩),
 (0, ⟨some 59, .move (.tmp 58), 4, none⟩),
 (0, ⟨some 60, .fieldAddr 73 (.tmp 9) 2, 0, (some (59, true))⟩),
 (0, ⟨some 63, .fieldAddr 73 (.tmp 9) 3, 0, (some (59, true))⟩),
 (0, ⟨some 66, .move (.tmp 0), 23, (some (59, true))⟩),
 (1, ⟨some 61, .load 3 (.tmp 60), 3, (some (59, true))⟩),
 (0, ⟨some 62, .binOp .add 3 (.const (.int .i64 2)) (.tmp 61) 3, 3, (some (59, true))⟩),
 (1, ⟨some 64, .load 3 (.tmp 63), 3, (some (59, true))⟩),
 (0, ⟨some 65, .binOp .add 3 (.tmp 62) (.tmp 64) 3, 3, (some (59, true))⟩),
 (2, ⟨some 67, .call ⟨.value (.func 65), #[(.tmp 66)], #[23]⟩, 3, (some (59, true))⟩),
 (0, ⟨some 68, .binOp .leq 3 (.tmp 65) (.tmp 67) 3, 4, (some (59, true))⟩),
 (0, ⟨some 69, .pick (.tmp 59) (.tmp 68) (.const (.bool false)), 4, none⟩),
 (0, ⟨some 11, .assign (.tmp 69), 4, none⟩)]
theorem c58draw0 {L : List Nat} {ρ : Env} {w : World} {Q : Post} (S : World → Prop) (hS : S w.drew) (h : DG Try.prog S c58D0 L ρ w.drew Q) : drawW Try.prog (drawOps 0 c58code) L ρ w Q :=
  drawW_held [15, 22, 29, 32] [(0, 0), (2, 1), (0, 2), (0, 3), (0, 4), (2, 5), (0, 6), (0, 7), (0, 8), (0, 9), (2, 10), (0, 11), (0, 12), (0, 13), (0, 14), (0, 16), (1, 15), (2, 17), (0, 18), (0, 19), (0, 20), (0, 21), (0, 23), (1, 22), (2, 24), (0, 25), (0, 26), (0, 27), (0, 28), (0, 31), (0, 34), (1, 29), (0, 30), (1, 32), (0, 33), (2, 35), (0, 36), (0, 37), (0, 38)] c58D0 (by kernel_rfl) (by kernel_rfl) (by kernel_rfl) S hS h
set_option maxRecDepth 100000 in
theorem ent58 (a0 : Value) (w : World) (K : Value → World → Prop) (h : W Try.prog c58 [(0, a0)] w (finQ Try.prog [.cell 2 73, .tmp 3] K)) : Ret Try.prog 58 [a0] w K :=
  Ret_of_W (code := c58code) Try.func58 (by kernel_rfl) (by kernel_rfl) (of_decide_eq_true (by kernel_rfl)) h
@[go_sem] theorem go58 : goFunc Try.prog 58 = true := by kernel_rfl
noncomputable def c59code : Code := match Try.f59.body with | some c => c | none => .skip
noncomputable def c59S0 (_ : Unit) : Cmd := (.seq (.ops [
 ⟨some 13, .move (.tmp 6), 28, none⟩,
 ⟨some 14, .binOp .neq 28 (.tmp 13) (.const (.int .i64 0)) 28, 4, none⟩] [0, 1, 6, 14])
 (.cond (.tmp 14)
  (.seq (.ops [
  ⟨some 15, .move (.tmp 6), 28, none⟩,
  ⟨some 4, .assign (.const (.string (ofL []))), 9, none⟩,
  ⟨some 5, .assign (.tmp 15), 28, none⟩] [4, 5])
  .ret)
  (.skip [0, 1])))
noncomputable def c59S1 (_ : Unit) : Cmd := (.ops [
 ⟨some 38, .binOp .add 3 (.tmp 28) (.const (.int .i64 1)) 3, 3, none⟩,
 ⟨some 28, .move (.tmp 38), 3, none⟩] [1, 7, 26, 27, 28])
noncomputable def c59S2 (_ : Unit) : Cmd := (.seq (.block 1 (.seq (.ops [
 ⟨some 30, .indexAddr 102 (.tmp 26) (.tmp 28), 0, none⟩,
 ⟨some 31, .load 106 (.tmp 30), 106, none⟩,
 ⟨some 9, .alloc 106, 0, none⟩,
 ⟨none, .store 106 (.tmp 9) (.tmp 31), 0, none⟩] [1, 7, 9, 26, 27, 28])
 (.seq (.ops [
 ⟨some 32, .fieldAddr 106 (.tmp 9) 0, 0, none⟩,
 ⟨some 33, .load 3 (.tmp 32), 3, none⟩,
 ⟨some 34, .move (.tmp 1), 3, none⟩,
 ⟨some 35, .binOp .eql 3 (.tmp 33) (.tmp 34) 3, 4, none⟩] [1, 7, 9, 26, 27, 28, 35])
 (.cond (.tmp 35)
  (.ops [
  ⟨some 36, .fieldAddr 106 (.tmp 9) 1, 0, none⟩,
  ⟨some 37, .load 9 (.tmp 36), 9, none⟩,
  ⟨some 7, .assign (.tmp 37), 9, none⟩] [1, 7, 26, 27, 28])
  (.skip [1, 7, 26, 27, 28]))))) (sg c59S1))
noncomputable def c59L0 (_ : Unit) : Cmd := (.seq (.ops [
 ⟨some 29, .binOp .lss 3 (.tmp 28) (.tmp 27) 3, 0, none⟩] [1, 7, 26, 27, 28, 29])
 (.seq (.cond (.tmp 29)
  (.skip [1, 7, 26, 27, 28])
  (.exit 0 [7])) (sg c59S2)))
noncomputable def c59S3 (_ : Unit) : Cmd := (.seq (.ops [
 ⟨some 39, .move (.tmp 7), 9, none⟩,
 ⟨some 4, .assign (.tmp 39), 9, none⟩,
 ⟨some 5, .assign (.const (.int .i64 0)), 28, none⟩] [4, 5])
 .ret)
noncomputable def c59S4 (_ : Unit) : Cmd := (.seq (.ops [
 ⟨some 16, .move (.tmp 0), 23, none⟩,
 ⟨some 17, .nilCheck (.tmp 16), 0, none⟩,
 ⟨some 18, .fieldAddr 104 (.tmp 17) 0, 0, none⟩,
 ⟨some 19, .load 36 (.tmp 18), 36, none⟩,
 ⟨some 20, .move (.tmp 1), 3, none⟩,
 ⟨some 21, .indexAddr 36 (.tmp 19) (.tmp 20), 0, none⟩,
 ⟨some 22, .load 9 (.tmp 21), 9, none⟩,
 ⟨some 7, .assign (.tmp 22), 9, none⟩] [0, 1, 7])
 (.seq (.seq (.ops [
 ⟨some 23, .move (.tmp 0), 23, none⟩,
 ⟨some 24, .nilCheck (.tmp 23), 0, none⟩,
 ⟨some 25, .fieldAddr 104 (.tmp 24) 1, 0, none⟩,
 ⟨some 26, .load 102 (.tmp 25), 102, none⟩,
 ⟨some 27, .call ⟨.builtin .len, #[(.tmp 26)], #[102]⟩, 3, none⟩,
 ⟨some 28, .move (.const (.int .i64 0)), 3, none⟩] [1, 7, 26, 27, 28])
 (.block 0 (.loop (sg c59L0)))) (sg c59S3)))
noncomputable def c59 : Cmd := (.seq (.ops [
 ⟨some 4, .assign (.const (.string (ofL []))), 9, none⟩,
 ⟨some 5, .assign (.const (.int .i64 0)), 28, none⟩] [0, 1])
 (.seq (.seq (.ops [
 ⟨some 10, .move (.tmp 0), 23, none⟩,
 ⟨some 11, .move (.tmp 1), 3, none⟩,
 ⟨some 12, .call ⟨.value (.func 81), #[(.tmp 10), (.tmp 11)], #[23, 3]⟩, 28, none⟩,
 ⟨some 6, .assign (.tmp 12), 28, none⟩] [0, 1, 6]) (sg c59S0)) (sg c59S4)))
set_option maxRecDepth 100000 in
theorem ent59 (a0 a1 : Value) (w : World) (K : Value → World → Prop) (h : W Try.prog c59 [(0, a0), (1, a1)] w (finQ Try.prog [.tmp 4, .tmp 5] K)) : Ret Try.prog 59 [a0, a1] w K :=
  Ret_of_W (code := c59code) Try.func59 (by kernel_rfl) (by kernel_rfl) (of_decide_eq_true (by kernel_rfl)) h
@[go_sem] theorem go59 : goFunc Try.prog 59 = true := by kernel_rfl
noncomputable def c64code : Code := match Try.f64.body with | some c => c | none => .skip
noncomputable def c64 : Cmd := (.seq (.ops [
 ⟨some 0, .assign (.const (.string (ofL []))), 9, none⟩] [])
 (.seq (.ops [
 ⟨some 1, .makeSlice 95 (.const (.int .i64 256)) (.const (.int .i64 256)), 95, none⟩,
 ⟨some 2, .convert 95 9 (.tmp 1), 9, none⟩,
 ⟨some 0, .assign (.tmp 2), 9, none⟩] [0])
 .ret))
set_option maxRecDepth 100000 in
theorem ent64 (w : World) (K : Value → World → Prop) (h : W Try.prog c64 [] w (finQ Try.prog [.tmp 0] K)) : Ret Try.prog 64 [] w K :=
  Ret_of_W (code := c64code) Try.func64 (by kernel_rfl) (by kernel_rfl) (of_decide_eq_true (by kernel_rfl)) h
@[go_sem] theorem go64 : goFunc Try.prog 64 = true := by kernel_rfl
noncomputable def c65code : Code := match Try.f65.body with | some c => c | none => .skip
noncomputable def c65S0 (_ : Unit) : Cmd := (.seq (.ops [
 ⟨some 5, .move (.tmp 0), 23, none⟩,
 ⟨some 6, .nilCheck (.tmp 5), 0, none⟩,
 ⟨some 7, .fieldAddr 104 (.tmp 6) 0, 0, none⟩,
 ⟨some 8, .load 36 (.tmp 7), 36, none⟩,
 ⟨some 9, .call ⟨.builtin .len, #[(.tmp 8)], #[36]⟩, 3, none⟩,
 ⟨some 2, .assign (.tmp 9), 3, none⟩] [2])
 .ret)
noncomputable def c65 : Cmd := (.seq (.ops [
 ⟨some 2, .assign (.const (.int .i64 0)), 3, none⟩] [0])
 (.seq (.seq (.ops [
 ⟨some 3, .move (.tmp 0), 23, none⟩,
 ⟨some 4, .binOp .eql 23 (.tmp 3) (.const (.pointer none)) 23, 4, none⟩] [0, 4])
 (.cond (.tmp 4)
  (.seq (.ops [
  ⟨some 2, .assign (.const (.int .i64 0)), 3, none⟩] [2])
  .ret)
  (.skip [0]))) (sg c65S0)))
set_option maxRecDepth 100000 in
theorem ent65 (a0 : Value) (w : World) (K : Value → World → Prop) (h : W Try.prog c65 [(0, a0)] w (finQ Try.prog [.tmp 2] K)) : Ret Try.prog 65 [a0] w K :=
  Ret_of_W (code := c65code) Try.func65 (by kernel_rfl) (by kernel_rfl) (of_decide_eq_true (by kernel_rfl)) h
@[go_sem] theorem go65 : goFunc Try.prog 65 = true := by kernel_rfl
noncomputable def c66code : Code := match Try.f66.body with | some c => c | none => .skip
noncomputable def c66S0 (_ : Unit) : Cmd := (.seq (.ops [
 ⟨some 44, .move (.tmp 7), 28, none⟩,
 ⟨some 6, .assign (.tmp 44), 28, none⟩] [6])
 .ret)
noncomputable def c66S1 (_ : Unit) : Cmd := (.seq (.seq (.ops [
 ⟨some 22, .move (.tmp 7), 28, none⟩,
 ⟨some 23, .binOp .eql 28 (.tmp 22) (.const (.int .i64 0)) 28, 4, none⟩] [0, 1, 2, 7, 23])
 (.cond (.tmp 23)
  (.draw (drawOps 0 c66code) [7])
  (.skip [7]))) (sg c66S0))
noncomputable def c66S2 (_ : Unit) : Cmd := (.seq (.seq (.ops [
 ⟨some 18, .move (.tmp 7), 28, none⟩,
 ⟨some 19, .binOp .eql 28 (.tmp 18) (.const (.int .i64 0)) 28, 4, none⟩] [0, 1, 2, 7, 19])
 (.cond (.tmp 19)
  (.ops [
  ⟨some 20, .move (.tmp 0), 23, none⟩,
  ⟨some 21, .call ⟨.value (.func 86), #[(.tmp 20)], #[23]⟩, 28, none⟩,
  ⟨some 7, .assign (.tmp 21), 28, none⟩] [0, 1, 2, 7])
  (.skip [0, 1, 2, 7]))) (sg c66S1))
noncomputable def c66S3 (_ : Unit) : Cmd := (.seq (.seq (.ops [
 ⟨some 11, .move (.tmp 7), 28, none⟩,
 ⟨some 12, .binOp .eql 28 (.tmp 11) (.const (.int .i64 0)) 28, 4, none⟩,
 ⟨some 13, .move (.tmp 12), 4, none⟩,
 ⟨some 14, .move (.tmp 2), 9, (some (13, true))⟩,
 ⟨some 15, .call ⟨.builtin .len, #[(.tmp 14)], #[9]⟩, 3, (some (13, true))⟩,
 ⟨some 16, .binOp .gtr 3 (.tmp 15) (.const (.int .i64 256)) 3, 4, (some (13, true))⟩,
 ⟨some 17, .pick (.tmp 13) (.tmp 16) (.const (.bool false)), 4, none⟩] [0, 1, 2, 7, 17])
 (.cond (.tmp 17)
  (.ops [
  ⟨some 7, .assign (.const (.int .i64 21)), 28, none⟩] [0, 1, 2, 7])
  (.skip [0, 1, 2, 7]))) (sg c66S2))
noncomputable def c66 : Cmd := (.seq (.ops [
 ⟨some 6, .assign (.const (.int .i64 0)), 28, none⟩] [0, 1, 2])
 (.seq (.ops [
 ⟨some 8, .move (.tmp 0), 23, none⟩,
 ⟨some 9, .move (.tmp 1), 3, none⟩,
 ⟨some 10, .call ⟨.value (.func 81), #[(.tmp 8), (.tmp 9)], #[23, 3]⟩, 28, none⟩,
 ⟨some 7, .assign (.tmp 10), 28, none⟩] [0, 1, 2, 7]) (sg c66S3)))
noncomputable def c66D0 : List (Nat × Ins) := [
 (0, ⟨some 24, .move (.tmp 0), 23, none⟩),
 (0, ⟨some 25, .move (.tmp 0), 23, none⟩),
 (0, ⟨some 26, .nilCheck (.tmp 25), 0, none⟩),
 (0, ⟨some 27, .fieldAddr 104 (.tmp 26) 1, 0, none⟩),
 (0, ⟨some 29, .move (.tmp 1), 3, none⟩),
 (0, ⟨some 30, .move (.tmp 2), 9, none⟩),
 (0, ⟨some 31, .move (.tmp 0), 23, none⟩),
 (0, ⟨some 32, .nilCheck (.tmp 31), 0, none⟩),
 (0, ⟨some 33, .fieldAddr 104 (.tmp 32) 4, 0, none⟩),
 (0, ⟨some 35, .move (.tmp 2), 9, none⟩),
 (0, ⟨some 36, .call ⟨.builtin .len, #[(.tmp 35)], #[9]⟩, 3, none⟩),
 (1, ⟨some 28, .load 102 (.tmp 27), 102, none⟩),
 (2, ⟨some 34, .load 9 (.tmp 33), 9, none⟩),
 (0, ⟨some 37, .slice 9 (.tmp 34) (some (.tmp 36)) none none, 9, none⟩),
 (0, ⟨some 38, .binOp .add 9 (.tmp 30) (.tmp 37) 9, 9, none⟩),
 (2, ⟨some 39, .build 106 #[(0, (.tmp 29)), (1, (.tmp 38))], 106, none⟩),
 (2, ⟨some 40, .buildSlice 102 1 #[(0, (.tmp 39))], 102, none⟩),
 (3, ⟨some 41, .call ⟨.builtin .append, #[(.tmp 28), (.tmp 40)], #[102, 102]⟩, 102, none⟩),
 (0, ⟨some 42, .nilCheck (.tmp 24), 0, none⟩),
 (0, ⟨some 43, .fieldAddr 104 (.tmp 42) 1, 0, none⟩),
 (3, ⟨none, .store 102 (.tmp 43) (.tmp 41), 0, none⟩)]
theorem c66draw0 {L : List Nat} {ρ : Env} {w : World} {Q : Post} (S : World → Prop) (hS : S w.drew) (h : DG Try.prog S c66D0 L ρ w.drew Q) : drawW Try.prog (drawOps 0 c66code) L ρ w Q :=
  drawW_held [4] [(0, 0), (0, 1), (0, 2), (0, 3), (0, 5), (0, 6), (0, 7), (0, 8), (0, 9), (0, 11), (0, 12), (1, 4), (2, 10), (0, 13), (0, 14), (2, 15), (2, 16), (3, 17), (0, 18), (0, 19), (3, 20)] c66D0 (by kernel_rfl) (by kernel_rfl) (by kernel_rfl) S hS h
set_option maxRecDepth 100000 in
theorem ent66 (a0 a1 a2 : Value) (w : World) (K : Value → World → Prop) (h : W Try.prog c66 [(0, a0), (1, a1), (2, a2)] w (finQ Try.prog [.tmp 6] K)) : Ret Try.prog 66 [a0, a1, a2] w K :=
  Ret_of_W (code := c66code) Try.func66 (by kernel_rfl) (by kernel_rfl) (of_decide_eq_true (by kernel_rfl)) h
@[go_sem] theorem go66 : goFunc Try.prog 66 = true := by kernel_rfl
noncomputable def c67code : Code := match Try.f67.body with | some c => c | none => .skip
noncomputable def c67S0 (_ : Unit) : Cmd := (.seq (.ops [
 ⟨some 14, .move (.tmp 5), 28, none⟩,
 ⟨some 15, .binOp .neq 28 (.tmp 14) (.const (.int .i64 0)) 28, 4, none⟩] [0, 5, 15])
 (.cond (.tmp 15)
  (.seq (.ops [
  ⟨some 16, .move (.tmp 5), 28, none⟩,
  ⟨some 4, .assign (.tmp 16), 28, none⟩] [4])
  .ret)
  (.skip [0])))
noncomputable def c67S1 (_ : Unit) : Cmd := .ret
noncomputable def c67S2 (_ : Unit) : Cmd := (.seq (.ops [
 ⟨some 17, .move (.tmp 0), 23, none⟩,
 ⟨some 18, .call ⟨.value (.func 78), #[(.tmp 17)], #[23]⟩, 28, none⟩,
 ⟨some 4, .assign (.tmp 18), 28, none⟩] [4]) (sg c67S1))
noncomputable def c67 : Cmd := (.seq (.ops [
 ⟨some 3, .box 73 (.tmp 1), 0, none⟩,
 ⟨some 4, .assign (.const (.int .i64 0)), 28, none⟩] [0, 3])
 (.seq (.seq (.draw (drawOps 0 c67code) [0, 5]) (sg c67S0)) (sg c67S2)))
noncomputable def c67D0 : List (Nat × Ins) := [
 (0, ⟨some 6, .move (.tmp 0), 23, none⟩),
 (0, ⟨some 7, .fieldAddr 73 (.tmp 3) 0, 0, none⟩),
 (1, ⟨some 8, .load 59 (.tmp 7), 59, none⟩),
 (0, ⟨some 9, .binOp .rem 59 (.tmp 8) (.const (.int .u64 2)) 59, 59, none⟩),
 (0, ⟨some 10, .convert 59 3 (.tmp 9), 3, none⟩),
 (2, ⟨some 11, .load 73 (.tmp 3), 73, none⟩),
 (2, ⟨some 12, .call ⟨.value (.func 87), #[(.tmp 11)], #[73]⟩, 9, none⟩),
 (2, ⟨some 13, .call ⟨.value (.func 66), #[(.tmp 6), (.tmp 10), (.tmp 12)], #[23, 3, 9]⟩, 28, none⟩),
 (0, ⟨some 5, .assign (.tmp 13), 28, none⟩)]
theorem c67draw0 {L : List Nat} {ρ : Env} {w : World} {Q : Post} (S : World → Prop) (hS : S w.drew) (h : DG Try.prog S c67D0 L ρ w.drew Q) : drawW Try.prog (drawOps 0 c67code) L ρ w Q :=
  drawW_held [2] [(0, 0), (0, 1), (1, 2), (0, 3), (0, 4), (2, 5), (2, 6), (2, 7), (0, 8)] c67D0 (by kernel_rfl) (by kernel_rfl) (by kernel_rfl) S hS h
set_option maxRecDepth 100000 in
theorem ent67 (a0 a1 : Value) (w : World) (K : Value → World → Prop) (h : W Try.prog c67 [(0, a0), (1, a1)] w (finQ Try.prog [.tmp 4] K)) : Ret Try.prog 67 [a0, a1] w K :=
  Ret_of_W (code := c67code) Try.func67 (by kernel_rfl) (by kernel_rfl) (of_decide_eq_true (by kernel_rfl)) h
@[go_sem] theorem go67 : goFunc Try.prog 67 = true := by kernel_rfl
noncomputable def c68code : Code := match Try.f68.body with | some c => c | none => .skip
noncomputable def c68S0 (_ : Unit) : Cmd := (.seq (.ops [
 ⟨some 10, .move (.tmp 0), 3, none⟩,
 ⟨some 11, .build 135 #[(0, (.tmp 10))], 135, none⟩,
 ⟨some 12, .box 135 (.tmp 11), 84, none⟩,
 ⟨some 2, .assign (.tmp 12), 84, none⟩,
 ⟨some 3, .assign (.const (.int .i64 0)), 28, none⟩] [2, 3])
 .ret)
noncomputable def c68 : Cmd := (.seq (.ops [
 ⟨some 2, .assign (.const (.pointer none)), 84, none⟩,
 ⟨some 3, .assign (.const (.int .i64 0)), 28, none⟩] [0])
 (.seq (.seq (.ops [
 ⟨some 4, .move (.tmp 0), 3, none⟩,
 ⟨some 5, .binOp .lss 3 (.tmp 4) (.const (.int .i64 1)) 3, 4, none⟩,
 ⟨some 6, .move (.tmp 5), 4, none⟩,
 ⟨some 7, .move (.tmp 0), 3, (some (6, false))⟩,
 ⟨some 8, .binOp .gtr 3 (.tmp 7) (.const (.int .i64 1024)) 3, 4, (some (6, false))⟩,
 ⟨some 9, .pick (.tmp 6) (.const (.bool true)) (.tmp 8), 4, none⟩] [0, 9])
 (.cond (.tmp 9)
  (.seq (.ops [
  ⟨some 2, .assign (.const (.pointer none)), 84, none⟩,
  ⟨some 3, .assign (.const (.int .i64 1)), 28, none⟩] [2, 3])
  .ret)
  (.skip [0]))) (sg c68S0)))
set_option maxRecDepth 100000 in
theorem ent68 (a0 : Value) (w : World) (K : Value → World → Prop) (h : W Try.prog c68 [(0, a0)] w (finQ Try.prog [.tmp 2, .tmp 3] K)) : Ret Try.prog 68 [a0] w K :=
  Ret_of_W (code := c68code) Try.func68 (by kernel_rfl) (by kernel_rfl) (of_decide_eq_true (by kernel_rfl)) h
@[go_sem] theorem go68 : goFunc Try.prog 68 = true := by kernel_rfl
noncomputable def c69code : Code := match Try.f69.body with | some c => c | none => .skip
noncomputable def c69S0 (_ : Unit) : Cmd := (.seq (.ops [
 ⟨some 22, .move (.tmp 5), 3, none⟩,
 ⟨some 23, .binOp .geq 3 (.tmp 22) (.const (.int .i64 0)) 3, 4, none⟩,
 ⟨some 4, .assign (.tmp 23), 4, none⟩] [4])
 .ret)
noncomputable def c69S1 (_ : Unit) : Cmd := (.seq (.seq (.ops [
 ⟨some 9, .move (.tmp 5), 3, none⟩,
 ⟨some 10, .binOp .geq 3 (.tmp 9) (.const (.int .i64 0)) 3, 4, none⟩] [0, 5, 10])
 (.cond (.tmp 10)
  (.ops [
  ⟨some 11, .move (.tmp 0), 84, none⟩,
  ⟨some 12, .move (.tmp 0), 84, none⟩,
  ⟨some 13, .nilCheck (.tmp 12), 0, none⟩,
  ⟨some 14, .fieldAddr 135 (.tmp 13) 1, 0, none⟩,
  ⟨some 15, .load 133 (.tmp 14), 133, none⟩,
  ⟨some 16, .move (.tmp 5), 3, none⟩,
  ⟨some 17, .move (.tmp 5), 3, none⟩,
  ⟨some 18, .binOp .add 3 (.tmp 17) (.const (.int .i64 1)) 3, 3, none⟩,
  ⟨some 19, .call ⟨.value (.func 89), #[(.tmp 15), (.tmp 16), (.tmp 18)], #[133, 3, 3]⟩, 133, none⟩,
  ⟨some 20, .nilCheck (.tmp 11), 0, none⟩,
  ⟨some 21, .fieldAddr 135 (.tmp 20) 1, 0, none⟩,
  ⟨none, .store 133 (.tmp 21) (.tmp 19), 0, none⟩] [5])
  (.skip [5]))) (sg c69S0))
noncomputable def c69 : Cmd := (.seq (.ops [
 ⟨some 4, .assign (.const (.bool false)), 4, none⟩] [0, 1])
 (.seq (.ops [
 ⟨some 6, .move (.tmp 0), 84, none⟩,
 ⟨some 7, .move (.tmp 1), 3, none⟩,
 ⟨some 8, .call ⟨.value (.func 88), #[(.tmp 6), (.tmp 7)], #[84, 3]⟩, 3, none⟩,
 ⟨some 5, .assign (.tmp 8), 3, none⟩] [0, 5]) (sg c69S1)))
set_option maxRecDepth 100000 in
theorem ent69 (a0 a1 : Value) (w : World) (K : Value → World → Prop) (h : W Try.prog c69 [(0, a0), (1, a1)] w (finQ Try.prog [.tmp 4] K)) : Ret Try.prog 69 [a0, a1] w K :=
  Ret_of_W (code := c69code) Try.func69 (by kernel_rfl) (by kernel_rfl) (of_decide_eq_true (by kernel_rfl)) h
@[go_sem] theorem go69 : goFunc Try.prog 69 = true := by kernel_rfl
noncomputable def str256x1466348926 : List UInt8 := [0, 1, 1, 2, 1, 2, 2, 3, 1, 2, 2, 3, 2, 3, 3, 4, 1, 2, 2, 3, 2, 3, 3, 4, 2, 3, 3, 4, 3, 4, 4, 5, 1, 2, 2, 3, 2, 3, 3, 4, 2, 3, 3, 4, 3, 4, 4, 5, 2, 3, 3, 4, 3, 4, 4, 5, 3, 4, 4, 5, 4, 5, 5, 6, 1, 2, 2, 3, 2, 3, 3, 4, 2, 3, 3, 4, 3, 4, 4, 5, 2, 3, 3, 4, 3, 4, 4, 5, 3, 4, 4, 5, 4, 5, 5, 6, 2, 3, 3, 4, 3, 4, 4, 5, 3, 4, 4, 5, 4, 5, 5, 6, 3, 4, 4, 5, 4, 5, 5, 6, 4, 5, 5, 6, 5, 6, 6, 7, 1, 2, 2, 3, 2, 3, 3, 4, 2, 3, 3, 4, 3, 4, 4, 5, 2, 3, 3, 4, 3, 4, 4, 5, 3, 4, 4, 5, 4, 5, 5, 6, 2, 3, 3, 4, 3, 4, 4, 5, 3, 4, 4, 5, 4, 5, 5, 6, 3, 4, 4, 5, 4, 5, 5, 6, 4, 5, 5, 6, 5, 6, 6, 7, 2, 3, 3, 4, 3, 4, 4, 5, 3, 4, 4, 5, 4, 5, 5, 6, 3, 4, 4, 5, 4, 5, 5, 6, 4, 5, 5, 6, 5, 6, 6, 7, 3, 4, 4, 5, 4, 5, 5, 6, 4, 5, 5, 6, 5, 6, 6, 7, 4, 5, 5, 6, 5, 6, 6, 7, 5, 6, 6, 7, 6, 7, 7, 8]
noncomputable def c70code : Code := match Try.f70.body with | some c => c | none => .skip
noncomputable def c70 : Cmd := (.seq (.ops [
 ⟨some 2, .assign (.const (.int .i64 0)), 3, none⟩] [0])
 (.seq (.ops [
 ⟨some 3, .move (.tmp 0), 5, none⟩,
 ⟨some 4, .index 9 (.const (.string (ofL str256x1466348926))) (.tmp 3), 5, none⟩,
 ⟨some 5, .convert 5 3 (.tmp 4), 3, none⟩,
 ⟨some 2, .assign (.tmp 5), 3, none⟩] [2])
 .ret))
set_option maxRecDepth 100000 in
theorem ent70 (a0 : Value) (w : World) (K : Value → World → Prop) (h : W Try.prog c70 [(0, a0)] w (finQ Try.prog [.tmp 2] K)) : Ret Try.prog 70 [a0] w K :=
  Ret_of_W (code := c70code) Try.func70 (by kernel_rfl) (by kernel_rfl) (of_decide_eq_true (by kernel_rfl)) h
@[go_sem] theorem go70 : goFunc Try.prog 70 = true := by kernel_rfl
noncomputable def c71code : Code := match Try.f71.body with | some c => c | none => .skip
noncomputable def c71S0 (_ : Unit) : Cmd := (.seq (.ops [
 ⟨some 17, .move (.tmp 0), 84, none⟩,
 ⟨some 18, .nilCheck (.tmp 17), 0, none⟩,
 ⟨some 19, .fieldAddr 135 (.tmp 18) 1, 0, none⟩,
 ⟨some 20, .load 133 (.tmp 19), 133, none⟩,
 ⟨some 21, .indexAddr 133 (.tmp 20) (.const (.int .i64 0)), 0, none⟩,
 ⟨some 22, .fieldAddr 138 (.tmp 21) 1, 0, none⟩,
 ⟨some 23, .load 9 (.tmp 22), 9, none⟩,
 ⟨some 4, .assign (.tmp 23), 9, none⟩,
 ⟨some 5, .assign (.const (.bool true)), 4, none⟩] [4, 5])
 .ret)
noncomputable def c71S1 (_ : Unit) : Cmd := (.seq (.ops [
 ⟨some 14, .move (.tmp 0), 84, none⟩,
 ⟨some 15, .move (.tmp 6), 3, none⟩,
 ⟨some 16, .call ⟨.value (.func 90), #[(.tmp 14), (.tmp 15)], #[84, 3]⟩, 0, none⟩] [0]) (sg c71S0))
noncomputable def c71S2 (_ : Unit) : Cmd := (.seq (.seq (.ops [
 ⟨some 11, .move (.tmp 6), 3, none⟩,
 ⟨some 12, .binOp .lss 3 (.tmp 11) (.const (.int .i64 0)) 3, 4, none⟩] [0, 6, 12])
 (.cond (.tmp 12)
  (.seq (.ops [
  ⟨some 7, .assign (.const (.string (ofL []))), 9, none⟩] [7])
  (.seq (.ops [
  ⟨some 13, .move (.tmp 7), 9, none⟩,
  ⟨some 4, .assign (.tmp 13), 9, none⟩,
  ⟨some 5, .assign (.const (.bool false)), 4, none⟩] [4, 5])
  .ret))
  (.skip [0, 6]))) (sg c71S1))
noncomputable def c71 : Cmd := (.seq (.ops [
 ⟨some 4, .assign (.const (.string (ofL []))), 9, none⟩,
 ⟨some 5, .assign (.const (.bool false)), 4, none⟩] [0, 1])
 (.seq (.ops [
 ⟨some 8, .move (.tmp 0), 84, none⟩,
 ⟨some 9, .move (.tmp 1), 3, none⟩,
 ⟨some 10, .call ⟨.value (.func 88), #[(.tmp 8), (.tmp 9)], #[84, 3]⟩, 3, none⟩,
 ⟨some 6, .assign (.tmp 10), 3, none⟩] [0, 6]) (sg c71S2)))
set_option maxRecDepth 100000 in
theorem ent71 (a0 a1 : Value) (w : World) (K : Value → World → Prop) (h : W Try.prog c71 [(0, a0), (1, a1)] w (finQ Try.prog [.tmp 4, .tmp 5] K)) : Ret Try.prog 71 [a0, a1] w K :=
  Ret_of_W (code := c71code) Try.func71 (by kernel_rfl) (by kernel_rfl) (of_decide_eq_true (by kernel_rfl)) h
@[go_sem] theorem go71 : goFunc Try.prog 71 = true := by kernel_rfl
noncomputable def c72code : Code := match Try.f72.body with | some c => c | none => .skip
noncomputable def c72S0 (_ : Unit) : Cmd := (.seq (.ops [
  ⟨some 31, .move (.tmp 0), 84, none⟩,
  ⟨some 32, .nilCheck (.tmp 31), 0, none⟩,
  ⟨some 33, .fieldAddr 135 (.tmp 32) 1, 0, none⟩,
  ⟨some 34, .load 133 (.tmp 33), 133, none⟩,
  ⟨some 35, .move (.tmp 2), 9, none⟩,
  ⟨some 36, .indexAddr 133 (.tmp 34) (.const (.int .i64 0)), 0, none⟩,
  ⟨some 37, .fieldAddr 138 (.tmp 36) 1, 0, none⟩,
  ⟨none, .store 9 (.tmp 37) (.tmp 35), 0, none⟩] [9])
  (.seq (.ops [
  ⟨some 38, .move (.tmp 9), 3, none⟩,
  ⟨some 6, .assign (.tmp 38), 3, none⟩,
  ⟨some 7, .assign (.const (.bool false)), 4, none⟩,
  ⟨some 8, .assign (.const (.int .i64 0)), 28, none⟩] [6, 7, 8])
  .ret))
noncomputable def c72S1 (_ : Unit) : Cmd := (.seq (.ops [
 ⟨some 26, .move (.tmp 10), 3, none⟩,
 ⟨some 27, .binOp .geq 3 (.tmp 26) (.const (.int .i64 0)) 3, 4, none⟩] [0, 1, 2, 9, 10, 27])
 (.cond (.tmp 27)
  (.seq (.ops [
  ⟨some 28, .move (.tmp 0), 84, none⟩,
  ⟨some 29, .move (.tmp 10), 3, none⟩,
  ⟨some 30, .call ⟨.value (.func 90), #[(.tmp 28), (.tmp 29)], #[84, 3]⟩, 0, none⟩] [0, 2, 9]) (sg c72S0))
  (.skip [0, 1, 2, 9])))
noncomputable def c72S2 (_ : Unit) : Cmd := (.block 1 (.ops [
 ⟨some 68, .move (.tmp 12), 3, none⟩,
 ⟨some 69, .binOp .sub 3 (.tmp 68) (.const (.int .i64 1)) 3, 3, none⟩,
 ⟨some 12, .assign (.tmp 69), 3, none⟩] [0, 1, 2, 9, 12]))
noncomputable def c72L0 (_ : Unit) : Cmd := (.seq (.seq (.ops [
 ⟨some 55, .move (.tmp 12), 3, none⟩,
 ⟨some 56, .binOp .geq 3 (.tmp 55) (.const (.int .i64 0)) 3, 4, none⟩,
 ⟨some 57, .move (.tmp 56), 4, none⟩,
 ⟨some 58, .move (.tmp 0), 84, (some (57, true))⟩,
 ⟨some 59, .nilCheck (.tmp 58), 0, (some (57, true))⟩,
 ⟨some 60, .fieldAddr 135 (.tmp 59) 1, 0, (some (57, true))⟩,
 ⟨some 61, .load 133 (.tmp 60), 133, (some (57, true))⟩,
 ⟨some 62, .move (.tmp 12), 3, (some (57, true))⟩,
 ⟨some 63, .indexAddr 133 (.tmp 61) (.tmp 62), 0, (some (57, true))⟩,
 ⟨some 64, .fieldAddr 138 (.tmp 63) 2, 0, (some (57, true))⟩,
 ⟨some 65, .load 3 (.tmp 64), 3, (some (57, true))⟩,
 ⟨some 66, .binOp .gtr 3 (.tmp 65) (.const (.int .i64 0)) 3, 4, (some (57, true))⟩,
 ⟨some 67, .pick (.tmp 57) (.tmp 66) (.const (.bool false)), 4, none⟩] [0, 1, 2, 9, 12, 67])
 (.cond (.tmp 67)
  (.skip [0, 1, 2, 9, 12])
  (.exit 0 [0, 1, 2, 9, 12]))) (sg c72S2))
noncomputable def c72S3 (_ : Unit) : Cmd := (.seq (.ops [
  ⟨some 73, .move (.tmp 0), 84, none⟩,
  ⟨some 74, .nilCheck (.tmp 73), 0, none⟩,
  ⟨some 75, .fieldAddr 135 (.tmp 74) 1, 0, none⟩,
  ⟨some 76, .load 133 (.tmp 75), 133, none⟩,
  ⟨some 77, .move (.tmp 12), 3, none⟩,
  ⟨some 78, .indexAddr 133 (.tmp 76) (.tmp 77), 0, none⟩,
  ⟨some 79, .fieldAddr 138 (.tmp 78) 0, 0, none⟩,
  ⟨some 80, .load 3 (.tmp 79), 3, none⟩,
  ⟨some 9, .assign (.tmp 80), 3, none⟩,
  ⟨some 11, .assign (.const (.bool true)), 4, none⟩] [0, 1, 2, 9, 11, 12])
  (.ops [
  ⟨some 81, .move (.tmp 0), 84, none⟩,
  ⟨some 82, .move (.tmp 0), 84, none⟩,
  ⟨some 83, .nilCheck (.tmp 82), 0, none⟩,
  ⟨some 84, .fieldAddr 135 (.tmp 83) 1, 0, none⟩,
  ⟨some 85, .load 133 (.tmp 84), 133, none⟩,
  ⟨some 86, .move (.tmp 12), 3, none⟩,
  ⟨some 87, .move (.tmp 12), 3, none⟩,
  ⟨some 88, .binOp .add 3 (.tmp 87) (.const (.int .i64 1)) 3, 3, none⟩,
  ⟨some 89, .call ⟨.value (.func 89), #[(.tmp 85), (.tmp 86), (.tmp 88)], #[133, 3, 3]⟩, 133, none⟩,
  ⟨some 90, .nilCheck (.tmp 81), 0, none⟩,
  ⟨some 91, .fieldAddr 135 (.tmp 90) 1, 0, none⟩,
  ⟨none, .store 133 (.tmp 91) (.tmp 89), 0, none⟩] [0, 1, 2, 9, 11]))
noncomputable def c72S4 (_ : Unit) : Cmd := (.seq (.seq (.ops [
  ⟨some 70, .move (.tmp 12), 3, none⟩,
  ⟨some 71, .binOp .lss 3 (.tmp 70) (.const (.int .i64 0)) 3, 4, none⟩] [0, 1, 2, 9, 12, 71])
  (.cond (.tmp 71)
   (.seq (.ops [
   ⟨some 72, .move (.tmp 9), 3, none⟩,
   ⟨some 6, .assign (.tmp 72), 3, none⟩,
   ⟨some 7, .assign (.const (.bool false)), 4, none⟩,
   ⟨some 8, .assign (.const (.int .i64 12)), 28, none⟩] [6, 7, 8])
   .ret)
   (.skip [0, 1, 2, 12]))) (sg c72S3))
noncomputable def c72S5 (_ : Unit) : Cmd := (.cond (.tmp 48)
  (.seq (.ops [
  ⟨some 49, .move (.tmp 0), 84, none⟩,
  ⟨some 50, .nilCheck (.tmp 49), 0, none⟩,
  ⟨some 51, .fieldAddr 135 (.tmp 50) 1, 0, none⟩,
  ⟨some 52, .load 133 (.tmp 51), 133, none⟩,
  ⟨some 53, .call ⟨.builtin .len, #[(.tmp 52)], #[133]⟩, 3, none⟩,
  ⟨some 54, .binOp .sub 3 (.tmp 53) (.const (.int .i64 1)) 3, 3, none⟩,
  ⟨some 12, .assign (.tmp 54), 3, none⟩] [0, 1, 2, 9, 12])
  (.seq (.block 0 (.loop (sg c72L0))) (sg c72S4)))
  (.skip [0, 1, 2, 9, 11]))
noncomputable def c72S6 (_ : Unit) : Cmd := (.seq (.ops [
 ⟨some 104, .move (.tmp 9), 3, none⟩,
 ⟨some 105, .move (.tmp 11), 4, none⟩,
 ⟨some 6, .assign (.tmp 104), 3, none⟩,
 ⟨some 7, .assign (.tmp 105), 4, none⟩,
 ⟨some 8, .assign (.const (.int .i64 0)), 28, none⟩] [6, 7, 8])
 .ret)
noncomputable def c72S7 (_ : Unit) : Cmd := (.seq (.ops [
 ⟨some 92, .move (.tmp 0), 84, none⟩,
 ⟨some 93, .move (.tmp 0), 84, none⟩,
 ⟨some 94, .nilCheck (.tmp 93), 0, none⟩,
 ⟨some 95, .fieldAddr 135 (.tmp 94) 1, 0, none⟩,
 ⟨some 96, .load 133 (.tmp 95), 133, none⟩,
 ⟨some 97, .move (.tmp 1), 3, none⟩,
 ⟨some 98, .move (.tmp 2), 9, none⟩,
 ⟨some 99, .build 138 #[(0, (.tmp 97)), (1, (.tmp 98))], 138, none⟩,
 ⟨some 100, .buildSlice 133 1 #[(0, (.tmp 99))], 133, none⟩,
 ⟨some 101, .call ⟨.value (.func 91), #[(.tmp 96), (.const (.int .i64 0)), (.tmp 100)], #[133, 3, 133]⟩, 133, none⟩,
 ⟨some 102, .nilCheck (.tmp 92), 0, none⟩,
 ⟨some 103, .fieldAddr 135 (.tmp 102) 1, 0, none⟩,
 ⟨none, .store 133 (.tmp 103) (.tmp 101), 0, none⟩] [9, 11]) (sg c72S6))
noncomputable def c72S8 (_ : Unit) : Cmd := (.seq (.ops [
 ⟨some 11, .assign (.const (.bool false)), 4, none⟩] [0, 1, 2, 9, 11])
 (.seq (.seq (.draw (drawOps 0 c72code) [0, 1, 2, 9, 11, 48]) (sg c72S5)) (sg c72S7)))
noncomputable def c72S9 (_ : Unit) : Cmd := (.seq (.seq (.ops [
 ⟨some 23, .move (.tmp 0), 84, none⟩,
 ⟨some 24, .move (.tmp 1), 3, none⟩,
 ⟨some 25, .call ⟨.value (.func 88), #[(.tmp 23), (.tmp 24)], #[84, 3]⟩, 3, none⟩,
 ⟨some 10, .assign (.tmp 25), 3, none⟩] [0, 1, 2, 9, 10]) (sg c72S1)) (sg c72S8))
noncomputable def c72 : Cmd := (.seq (.ops [
 ⟨some 6, .assign (.const (.int .i64 0)), 3, none⟩,
 ⟨some 7, .assign (.const (.bool false)), 4, none⟩,
 ⟨some 8, .assign (.const (.int .i64 0)), 28, none⟩] [0, 1, 2])
 (.seq (.ops [
 ⟨some 9, .assign (.const (.int .i64 0)), 3, none⟩] [0, 1, 2, 9])
 (.seq (.seq (.ops [
 ⟨some 13, .move (.tmp 0), 84, none⟩,
 ⟨some 14, .binOp .eql 84 (.tmp 13) (.const (.pointer none)) 84, 4, none⟩,
 ⟨some 15, .move (.tmp 14), 4, none⟩,
 ⟨some 16, .move (.tmp 0), 84, (some (15, false))⟩,
 ⟨some 17, .nilCheck (.tmp 16), 0, (some (15, false))⟩,
 ⟨some 18, .fieldAddr 135 (.tmp 17) 0, 0, (some (15, false))⟩,
 ⟨some 19, .load 3 (.tmp 18), 3, (some (15, false))⟩,
 ⟨some 20, .binOp .eql 3 (.tmp 19) (.const (.int .i64 0)) 3, 4, (some (15, false))⟩,
 ⟨some 21, .pick (.tmp 15) (.const (.bool true)) (.tmp 20), 4, none⟩] [0, 1, 2, 9, 21])
 (.cond (.tmp 21)
  (.seq (.ops [
  ⟨some 22, .move (.tmp 9), 3, none⟩,
  ⟨some 6, .assign (.tmp 22), 3, none⟩,
  ⟨some 7, .assign (.const (.bool false)), 4, none⟩,
  ⟨some 8, .assign (.const (.int .i64 3)), 28, none⟩] [6, 7, 8])
  .ret)
  (.skip [0, 1, 2, 9]))) (sg c72S9))))
noncomputable def c72D0 : List (Bool × Ins) := [
 (true, ⟨some 39, .move (.tmp 0), 84, none⟩),
 (true, ⟨some 40, .nilCheck (.tmp 39), 0, none⟩),
 (true, ⟨some 41, .fieldAddr 135 (.tmp 40) 1, 0, none⟩),
 (false, ⟨some 42, .load 133 (.tmp 41), 133, none⟩),
 (true, ⟨some 43, .call ⟨.builtin .len, #[(.tmp 42)], #[133]⟩, 3, none⟩),
 (true, ⟨some 44, .move (.tmp 0), 84, none⟩),
 (true, ⟨some 45, .nilCheck (.tmp 44), 0, none⟩),
 (true, ⟨some 46, .fieldAddr 135 (.tmp 45) 0, 0, none⟩),
 (false, ⟨some 47, .load 3 (.tmp 46), 3, none⟩),
 (true, ⟨some 48, .binOp .geq 3 (.tmp 43) (.tmp 47) 3, 4, none⟩)]
theorem c72draw0 {L : List Nat} {ρ : Env} {w : World} {Q : Post} (h : DL Try.prog c72D0 L ρ w.drew Q) : drawW Try.prog (drawOps 0 c72code) L ρ w Q :=
  drawW_still [true, true, true, false, true, true, true, true, false, true] c72D0 (by kernel_rfl) (by kernel_rfl) (by kernel_rfl) h
set_option maxRecDepth 100000 in
theorem ent72 (a0 a1 a2 : Value) (w : World) (K : Value → World → Prop) (h : W Try.prog c72 [(0, a0), (1, a1), (2, a2)] w (finQ Try.prog [.tmp 6, .tmp 7, .tmp 8] K)) : Ret Try.prog 72 [a0, a1, a2] w K :=
  Ret_of_W (code := c72code) Try.func72 (by kernel_rfl) (by kernel_rfl) (of_decide_eq_true (by kernel_rfl)) h
@[go_sem] theorem go72 : goFunc Try.prog 72 = true := by kernel_rfl
noncomputable def c78code : Code := match Try.f78.body with | some c => c | none => .skip
noncomputable def c78S0 (_ : Unit) : Cmd := (.ops [
 ⟨some 32, .binOp .add 3 (.tmp 19) (.const (.int .i64 1)) 3, 3, none⟩,
 ⟨some 19, .move (.tmp 32), 3, none⟩] [0, 3, 17, 18, 19])
noncomputable def c78S1 (_ : Unit) : Cmd := (.seq (.block 1 (.seq (.ops [
 ⟨some 21, .indexAddr 102 (.tmp 17) (.tmp 19), 0, none⟩,
 ⟨some 22, .load 106 (.tmp 21), 106, none⟩,
 ⟨some 5, .alloc 106, 0, none⟩,
 ⟨none, .store 106 (.tmp 5) (.tmp 22), 0, none⟩] [0, 3, 5, 17, 18, 19])
 (.draw (drawOps 0 c78code) [0, 3, 17, 18, 19]))) (sg c78S0))
noncomputable def c78L0 (_ : Unit) : Cmd := (.seq (.ops [
 ⟨some 20, .binOp .lss 3 (.tmp 19) (.tmp 18) 3, 0, none⟩] [0, 3, 17, 18, 19, 20])
 (.seq (.cond (.tmp 20)
  (.skip [0, 3, 17, 18, 19])
  (.exit 0 [0, 3])) (sg c78S1)))
noncomputable def c78S2 (_ : Unit) : Cmd := (.ops [
  ⟨some 33, .move (.tmp 0), 23, none⟩,
  ⟨some 34, .nilCheck (.tmp 33), 0, none⟩,
  ⟨some 35, .fieldAddr 104 (.tmp 34) 1, 0, none⟩,
  ⟨none, .store 102 (.tmp 35) (.const (.slice none 0 0)), 0, none⟩] [3])
noncomputable def c78S3 (_ : Unit) : Cmd := (.seq (.ops [
 ⟨some 36, .move (.tmp 3), 28, none⟩,
 ⟨some 2, .assign (.tmp 36), 28, none⟩] [2])
 .ret)
noncomputable def c78S4 (_ : Unit) : Cmd := (.seq (.seq (.ops [
 ⟨some 12, .move (.tmp 3), 28, none⟩,
 ⟨some 13, .binOp .eql 28 (.tmp 12) (.const (.int .i64 0)) 28, 4, none⟩] [0, 3, 13])
 (.cond (.tmp 13)
  (.seq (.seq (.ops [
  ⟨some 14, .move (.tmp 0), 23, none⟩,
  ⟨some 15, .nilCheck (.tmp 14), 0, none⟩,
  ⟨some 16, .fieldAddr 104 (.tmp 15) 1, 0, none⟩,
  ⟨some 17, .load 102 (.tmp 16), 102, none⟩,
  ⟨some 18, .call ⟨.builtin .len, #[(.tmp 17)], #[102]⟩, 3, none⟩,
  ⟨some 19, .move (.const (.int .i64 0)), 3, none⟩] [0, 3, 17, 18, 19])
  (.block 0 (.loop (sg c78L0)))) (sg c78S2))
  (.skip [3]))) (sg c78S3))
noncomputable def c78S5 (_ : Unit) : Cmd := (.seq (.seq (.ops [
 ⟨some 8, .move (.tmp 3), 28, none⟩,
 ⟨some 9, .binOp .eql 28 (.tmp 8) (.const (.int .i64 0)) 28, 4, none⟩] [0, 3, 9])
 (.cond (.tmp 9)
  (.ops [
  ⟨some 10, .move (.tmp 0), 23, none⟩,
  ⟨some 11, .call ⟨.value (.func 86), #[(.tmp 10)], #[23]⟩, 28, none⟩,
  ⟨some 3, .assign (.tmp 11), 28, none⟩] [0, 3])
  (.skip [0, 3]))) (sg c78S4))
noncomputable def c78 : Cmd := (.seq (.ops [
 ⟨some 2, .assign (.const (.int .i64 0)), 28, none⟩] [0])
 (.seq (.ops [
 ⟨some 6, .move (.tmp 0), 23, none⟩,
 ⟨some 7, .call ⟨.value (.func 81), #[(.tmp 6), (.const (.int .i64 0))], #[23, 3]⟩, 28, none⟩,
 ⟨some 3, .assign (.tmp 7), 28, none⟩] [0, 3]) (sg c78S5)))
noncomputable def c78D0 : List (Nat × Ins) := [
 (0, ⟨some 23, .move (.tmp 0), 23, none⟩),
 (0, ⟨some 24, .nilCheck (.tmp 23), 0, none⟩),
 (0, ⟨some 25, .fieldAddr 104 (.tmp 24) 0, 0, none⟩),
 (0, ⟨some 27, .fieldAddr 106 (.tmp 5) 0, 0, none⟩),
 (0, ⟨some 29, .fieldAddr 106 (.tmp 5) 1, 0, none⟩),
 (1, ⟨some 26, .load 36 (.tmp 25), 36, none⟩),
 (1, ⟨some 28, .load 3 (.tmp 27), 3, none⟩),
 (2, ⟨some 30, .load 9 (.tmp 29), 9, none⟩),
 (0, ⟨some 31, .indexAddr 36 (.tmp 26) (.tmp 28), 0, none⟩),
 (3, ⟨none, .store 9 (.tmp 31) (.tmp 30), 0, none⟩)]
theorem c78draw0 {L : List Nat} {ρ : Env} {w : World} {Q : Post} (S : World → Prop) (hS : S w.drew) (h : DG Try.prog S c78D0 L ρ w.drew Q) : drawW Try.prog (drawOps 0 c78code) L ρ w Q :=
  drawW_held [3, 5] [(0, 0), (0, 1), (0, 2), (0, 4), (0, 6), (1, 3), (1, 5), (2, 7), (0, 8), (3, 9)] c78D0 (by kernel_rfl) (by kernel_rfl) (by kernel_rfl) S hS h
set_option maxRecDepth 100000 in
theorem ent78 (a0 : Value) (w : World) (K : Value → World → Prop) (h : W Try.prog c78 [(0, a0)] w (finQ Try.prog [.tmp 2] K)) : Ret Try.prog 78 [a0] w K :=
  Ret_of_W (code := c78code) Try.func78 (by kernel_rfl) (by kernel_rfl) (of_decide_eq_true (by kernel_rfl)) h
@[go_sem] theorem go78 : goFunc Try.prog 78 = true := by kernel_rfl
@[go_sem] theorem go79 : goFunc Try.prog 79 = true := by kernel_rfl
noncomputable def c80code : Code := match Try.f80.body with | some c => c | none => .skip
noncomputable def c80S0 (_ : Unit) : Cmd := (.cond (.tmp 15)
  (.seq (.ops [
  ⟨some 16, .build 73 #[], 73, none⟩,
  ⟨none, .store 73 (.tmp 2) (.tmp 16), 0, none⟩,
  ⟨some 3, .assign (.const (.bool false)), 4, none⟩] [2, 3])
  .ret)
  (.skip [1, 2]))
noncomputable def c80S1 (_ : Unit) : Cmd := .ret
noncomputable def c80S2 (_ : Unit) : Cmd := (.seq (.ops [
 ⟨some 17, .makeFunc (.func 106) #[] #[(.tmp 1)], 68, none⟩,
 ⟨some 4, .assign (.tmp 17), 68, none⟩] [1, 2, 4])
 (.seq (.ops [
 ⟨some 18, .load 9 (.tmp 1), 9, none⟩,
 ⟨some 19, .slice 9 (.tmp 18) none (some (.const (.int .i64 8))) none, 9, none⟩,
 ⟨some 20, .call ⟨.value (.func 51), #[(.tmp 19)], #[9]⟩, 59, none⟩,
 ⟨some 21, .move (.tmp 4), 68, none⟩,
 ⟨some 22, .call ⟨.value (.tmp 21), #[(.const (.int .i64 8))], #[3]⟩, 3, none⟩,
 ⟨some 23, .move (.tmp 4), 68, none⟩,
 ⟨some 24, .call ⟨.value (.tmp 23), #[(.const (.int .i64 12))], #[3]⟩, 3, none⟩,
 ⟨some 25, .move (.tmp 4), 68, none⟩,
 ⟨some 26, .call ⟨.value (.tmp 25), #[(.const (.int .i64 16))], #[3]⟩, 3, none⟩,
 ⟨some 27, .build 73 #[(0, (.tmp 20)), (1, (.tmp 22)), (2, (.tmp 24)), (3, (.tmp 26))], 73, none⟩,
 ⟨none, .store 73 (.tmp 2) (.tmp 27), 0, none⟩,
 ⟨some 3, .assign (.const (.bool true)), 4, none⟩] [2, 3]) (sg c80S1)))
noncomputable def c80 : Cmd := (.seq (.ops [
 ⟨some 1, .box 9 (.tmp 0), 0, none⟩,
 ⟨some 2, .alloc 73, 0, none⟩,
 ⟨some 3, .assign (.const (.bool false)), 4, none⟩] [1, 2])
 (.seq (.seq (.draw (drawOps 0 c80code) [1, 2, 15]) (sg c80S0)) (sg c80S2)))
noncomputable def c80D0 : List (Nat × Ins) := [
 (2, ⟨some 5, .load 9 (.tmp 1), 9, none⟩),
 (0, ⟨some 6, .call ⟨.builtin .len, #[(.tmp 5)], #[9]⟩, 3, none⟩),
 (0, ⟨some 7, .binOp .lss 3 (.tmp 6) (.const (.int .i64 40)) 3, 4, none⟩),
 (0, ⟨some 8, .move (.tmp 7), 4, none⟩),
 (1, ⟨some 9, .load 9 (.tmp 1), 9, (some (8, false))⟩),
 (0, ⟨some 10, .slice 9 (.tmp 9) none (some (.const (.int .i64 20))) none, 9, (some (8, false))⟩),
 (1, ⟨some 12, .load 9 (.tmp 1), 9, (some (8, false))⟩),
 (0, ⟨some 13, .slice 9 (.tmp 12) (some (.const (.int .i64 20))) (some (.const (.int .i64 40))) none, 9, (some (8, false))⟩),
 (2, ⟨some 11, .call ⟨.value (.func 105), #[(.tmp 10)], #[9]⟩, 9, (some (8, false))⟩),
 (0, ⟨some 14, .binOp .neq 9 (.tmp 11) (.tmp 13) 9, 4, (some (8, false))⟩),
 (0, ⟨some 15, .pick (.tmp 8) (.const (.bool true)) (.tmp 14), 4, none⟩)]
theorem c80draw0 {L : List Nat} {ρ : Env} {w : World} {Q : Post} (S : World → Prop) (hS : S w.drew) (h : DG Try.prog S c80D0 L ρ w.drew Q) : drawW Try.prog (drawOps 0 c80code) L ρ w Q :=
  drawW_held [4, 7] [(2, 0), (0, 1), (0, 2), (0, 3), (1, 4), (0, 5), (1, 7), (0, 8), (2, 6), (0, 9), (0, 10)] c80D0 (by kernel_rfl) (by kernel_rfl) (by kernel_rfl) S hS h
set_option maxRecDepth 100000 in
theorem ent80 (a0 : Value) (w : World) (K : Value → World → Prop) (h : W Try.prog c80 [(0, a0)] w (finQ Try.prog [.cell 2 73, .tmp 3] K)) : Ret Try.prog 80 [a0] w K :=
  Ret_of_W (code := c80code) Try.func80 (by kernel_rfl) (by kernel_rfl) (of_decide_eq_true (by kernel_rfl)) h
@[go_sem] theorem go80 : goFunc Try.prog 80 = true := by kernel_rfl
noncomputable def c81code : Code := match Try.f81.body with | some c => c | none => .skip
noncomputable def c81S0 (_ : Unit) : Cmd := (.seq (.ops [
 ⟨some 4, .assign (.const (.int .i64 0)), 28, none⟩] [4])
 .ret)
noncomputable def c81 : Cmd := (.seq (.ops [
 ⟨some 4, .assign (.const (.int .i64 0)), 28, none⟩] [0, 1])
 (.seq (.block 0 (.seq (.ops [
 ⟨some 6, .move (.tmp 0), 23, none⟩,
 ⟨some 7, .binOp .eql 23 (.tmp 6) (.const (.pointer none)) 23, 4, none⟩,
 ⟨some 8, .move (.tmp 7), 4, none⟩,
 ⟨some 9, .move (.tmp 0), 23, (some (8, false))⟩,
 ⟨some 10, .nilCheck (.tmp 9), 0, (some (8, false))⟩,
 ⟨some 11, .fieldAddr 104 (.tmp 10) 0, 0, (some (8, false))⟩,
 ⟨some 12, .load 36 (.tmp 11), 36, (some (8, false))⟩,
 ⟨some 13, .binOp .eql 36 (.tmp 12) (.const (.slice none 0 0)) 36, 4, (some (8, false))⟩,
 ⟨some 14, .pick (.tmp 8) (.const (.bool true)) (.tmp 13), 4, none⟩,
 ⟨some 5, .assign (.tmp 14), 4, none⟩] [0, 1, 5])
 (.cond (.tmp 5)
  (.seq (.ops [
  ⟨some 4, .assign (.const (.int .i64 3)), 28, none⟩] [4])
  .ret)
  (.seq (.ops [
  ⟨some 16, .move (.tmp 0), 23, none⟩,
  ⟨some 17, .nilCheck (.tmp 16), 0, none⟩,
  ⟨some 18, .fieldAddr 104 (.tmp 17) 3, 0, none⟩,
  ⟨some 19, .load 4 (.tmp 18), 4, none⟩,
  ⟨some 15, .assign (.tmp 19), 4, none⟩] [0, 1, 15])
  (.cond (.tmp 15)
   (.seq (.ops [
   ⟨some 4, .assign (.const (.int .i64 11)), 28, none⟩] [4])
   .ret)
   (.seq (.ops [
   ⟨some 21, .move (.tmp 1), 3, none⟩,
   ⟨some 22, .binOp .lss 3 (.tmp 21) (.const (.int .i64 0)) 3, 4, none⟩,
   ⟨some 23, .move (.tmp 22), 4, none⟩,
   ⟨some 24, .move (.tmp 1), 3, (some (23, false))⟩,
   ⟨some 25, .move (.tmp 0), 23, (some (23, false))⟩,
   ⟨some 26, .nilCheck (.tmp 25), 0, (some (23, false))⟩,
   ⟨some 27, .fieldAddr 104 (.tmp 26) 0, 0, (some (23, false))⟩,
   ⟨some 28, .load 36 (.tmp 27), 36, (some (23, false))⟩,
   ⟨some 29, .call ⟨.builtin .len, #[(.tmp 28)], #[36]⟩, 3, (some (23, false))⟩,
   ⟨some 30, .binOp .geq 3 (.tmp 24) (.tmp 29) 3, 4, (some (23, false))⟩,
   ⟨some 31, .pick (.tmp 23) (.const (.bool true)) (.tmp 30), 4, none⟩,
   ⟨some 20, .assign (.tmp 31), 4, none⟩] [20])
   (.cond (.tmp 20)
    (.seq (.ops [
    ⟨some 4, .assign (.const (.int .i64 10)), 28, none⟩] [4])
    .ret)
    (.skip [])))))))) (sg c81S0)))
set_option maxRecDepth 100000 in
theorem ent81 (a0 a1 : Value) (w : World) (K : Value → World → Prop) (h : W Try.prog c81 [(0, a0), (1, a1)] w (finQ Try.prog [.tmp 4] K)) : Ret Try.prog 81 [a0, a1] w K :=
  Ret_of_W (code := c81code) Try.func81 (by kernel_rfl) (by kernel_rfl) (of_decide_eq_true (by kernel_rfl)) h
@[go_sem] theorem go81 : goFunc Try.prog 81 = true := by kernel_rfl
noncomputable def c86code : Code := match Try.f86.body with | some c => c | none => .skip
noncomputable def c86S0 (_ : Unit) : Cmd := (.seq (.ops [
 ⟨some 2, .assign (.const (.int .i64 0)), 28, none⟩] [2])
 .ret)
noncomputable def c86S1 (_ : Unit) : Cmd := (.seq (.seq (.ops [
 ⟨some 11, .move (.tmp 0), 23, none⟩,
 ⟨some 12, .nilCheck (.tmp 11), 0, none⟩,
 ⟨some 13, .fieldAddr 104 (.tmp 12) 2, 0, none⟩,
 ⟨some 14, .load 3 (.tmp 13), 3, none⟩,
 ⟨some 15, .binOp .gtr 3 (.tmp 14) (.const (.int .i64 0)) 3, 4, none⟩] [0, 15])
 (.cond (.tmp 15)
  (.ops [
  ⟨some 16, .move (.tmp 0), 23, none⟩,
  ⟨some 17, .nilCheck (.tmp 16), 0, none⟩,
  ⟨some 18, .fieldAddr 104 (.tmp 17) 2, 0, none⟩,
  ⟨some 19, .load 3 (.tmp 18), 3, none⟩,
  ⟨some 20, .binOp .sub 3 (.tmp 19) (.const (.int .i64 1)) 3, 3, none⟩,
  ⟨some 21, .nilCheck (.tmp 16), 0, none⟩,
  ⟨some 22, .fieldAddr 104 (.tmp 21) 2, 0, none⟩,
  ⟨none, .store 3 (.tmp 22) (.tmp 20), 0, none⟩] [])
  (.skip []))) (sg c86S0))
noncomputable def c86 : Cmd := (.seq (.ops [
 ⟨some 2, .assign (.const (.int .i64 0)), 28, none⟩] [0])
 (.seq (.seq (.ops [
 ⟨some 3, .move (.tmp 0), 23, none⟩,
 ⟨some 4, .nilCheck (.tmp 3), 0, none⟩,
 ⟨some 5, .fieldAddr 104 (.tmp 4) 2, 0, none⟩,
 ⟨some 6, .load 3 (.tmp 5), 3, none⟩,
 ⟨some 7, .binOp .eql 3 (.tmp 6) (.const (.int .i64 0)) 3, 4, none⟩] [0, 7])
 (.cond (.tmp 7)
  (.seq (.ops [
  ⟨some 8, .move (.tmp 0), 23, none⟩,
  ⟨some 9, .nilCheck (.tmp 8), 0, none⟩,
  ⟨some 10, .fieldAddr 104 (.tmp 9) 3, 0, none⟩,
  ⟨none, .store 4 (.tmp 10) (.const (.bool true)), 0, none⟩] [])
  (.seq (.ops [
  ⟨some 2, .assign (.const (.int .i64 11)), 28, none⟩] [2])
  .ret))
  (.skip [0]))) (sg c86S1)))
set_option maxRecDepth 100000 in
theorem ent86 (a0 : Value) (w : World) (K : Value → World → Prop) (h : W Try.prog c86 [(0, a0)] w (finQ Try.prog [.tmp 2] K)) : Ret Try.prog 86 [a0] w K :=
  Ret_of_W (code := c86code) Try.func86 (by kernel_rfl) (by kernel_rfl) (of_decide_eq_true (by kernel_rfl)) h
@[go_sem] theorem go86 : goFunc Try.prog 86 = true := by kernel_rfl
noncomputable def c87code : Code := match Try.f87.body with | some c => c | none => .skip
noncomputable def c87S0 (_ : Unit) : Cmd := .ret
noncomputable def c87S1 (_ : Unit) : Cmd := (.seq (.ops [
 ⟨some 22, .move (.tmp 3), 9, none⟩,
 ⟨some 23, .move (.tmp 3), 9, none⟩,
 ⟨some 24, .call ⟨.value (.func 105), #[(.tmp 23)], #[9]⟩, 9, none⟩,
 ⟨some 25, .binOp .add 9 (.tmp 22) (.tmp 24) 9, 9, none⟩,
 ⟨some 2, .assign (.tmp 25), 9, none⟩] [2]) (sg c87S0))
noncomputable def c87 : Cmd := (.seq (.ops [
 ⟨some 1, .box 73 (.tmp 0), 0, none⟩,
 ⟨some 2, .assign (.const (.string (ofL []))), 9, none⟩] [1])
 (.seq (.draw (drawOps 0 c87code) [3]) (sg c87S1)))
noncomputable def c87D0 : List (Nat × Ins) := [
 (0, ⟨some 4, .fieldAddr 73 (.tmp 1) 0, 0, none⟩),
 (0, ⟨some 7, .fieldAddr 73 (.tmp 1) 1, 0, none⟩),
 (0, ⟨some 12, .fieldAddr 73 (.tmp 1) 2, 0, none⟩),
 (0, ⟨some 17, .fieldAddr 73 (.tmp 1) 3, 0, none⟩),
 (1, ⟨some 5, .load 59 (.tmp 4), 59, none⟩),
 (1, ⟨some 8, .load 3 (.tmp 7), 3, none⟩),
 (0, ⟨some 9, .convert 3 59 (.tmp 8), 59, none⟩),
 (1, ⟨some 13, .load 3 (.tmp 12), 3, none⟩),
 (0, ⟨some 14, .convert 3 59 (.tmp 13), 59, none⟩),
 (1, ⟨some 18, .load 3 (.tmp 17), 3, none⟩),
 (0, ⟨some 19, .convert 3 59 (.tmp 18), 59, none⟩),
 (2, ⟨some 6, .call ⟨.value (.func 50), #[(.tmp 5), (.const (.int .i64 8))], #[59, 3]⟩, 9, none⟩),
 (2, ⟨some 10, .call ⟨.value (.func 50), #[(.tmp 9), (.const (.int .i64 4))], #[59, 3]⟩, 9, none⟩),
 (0, ⟨some 11, .binOp .add 9 (.tmp 6) (.tmp 10) 9, 9, none⟩),
 (2, ⟨some 15, .call ⟨.value (.func 50), #[(.tmp 14), (.const (.int .i64 4))], #[59, 3]⟩, 9, none⟩),
 (0, ⟨some 16, .binOp .add 9 (.tmp 11) (.tmp 15) 9, 9, none⟩),
 (2, ⟨some 20, .call ⟨.value (.func 50), #[(.tmp 19), (.const (.int .i64 4))], #[59, 3]⟩, 9, none⟩),
 (0, ⟨some 21, .binOp .add 9 (.tmp 16) (.tmp 20) 9, 9, none⟩),
 (0, ⟨some 3, .assign (.tmp 21), 9, none⟩)]
theorem c87draw0 {L : List Nat} {ρ : Env} {w : World} {Q : Post} (S : World → Prop) (hS : S w.drew) (h : DG Try.prog S c87D0 L ρ w.drew Q) : drawW Try.prog (drawOps 0 c87code) L ρ w Q :=
  drawW_held [1, 4, 9, 14] [(0, 0), (0, 3), (0, 8), (0, 13), (1, 1), (1, 4), (0, 5), (1, 9), (0, 10), (1, 14), (0, 15), (2, 2), (2, 6), (0, 7), (2, 11), (0, 12), (2, 16), (0, 17), (0, 18)] c87D0 (by kernel_rfl) (by kernel_rfl) (by kernel_rfl) S hS h
set_option maxRecDepth 100000 in
theorem ent87 (a0 : Value) (w : World) (K : Value → World → Prop) (h : W Try.prog c87 [(0, a0)] w (finQ Try.prog [.tmp 2] K)) : Ret Try.prog 87 [a0] w K :=
  Ret_of_W (code := c87code) Try.func87 (by kernel_rfl) (by kernel_rfl) (of_decide_eq_true (by kernel_rfl)) h
@[go_sem] theorem go87 : goFunc Try.prog 87 = true := by kernel_rfl
noncomputable def c88code : Code := match Try.f88.body with | some c => c | none => .skip
noncomputable def c88S0 (_ : Unit) : Cmd := .ret
noncomputable def c88S1 (_ : Unit) : Cmd := (.seq (.ops [
 ⟨some 7, .move (.tmp 0), 84, none⟩,
 ⟨some 8, .nilCheck (.tmp 7), 0, none⟩,
 ⟨some 9, .fieldAddr 135 (.tmp 8) 1, 0, none⟩,
 ⟨some 10, .load 133 (.tmp 9), 133, none⟩,
 ⟨some 11, .makeFunc (.func 111) #[] #[(.tmp 3)], 160, none⟩,
 ⟨some 12, .call ⟨.value (.func 110), #[(.tmp 10), (.tmp 11)], #[133, 160]⟩, 3, none⟩,
 ⟨some 4, .assign (.tmp 12), 3, none⟩] [4]) (sg c88S0))
noncomputable def c88 : Cmd := (.seq (.ops [
 ⟨some 3, .box 3 (.tmp 1), 0, none⟩,
 ⟨some 4, .assign (.const (.int .i64 0)), 3, none⟩] [0, 3])
 (.seq (.seq (.ops [
 ⟨some 5, .move (.tmp 0), 84, none⟩,
 ⟨some 6, .binOp .eql 84 (.tmp 5) (.const (.pointer none)) 84, 4, none⟩] [0, 3, 6])
 (.cond (.tmp 6)
  (.seq (.ops [
  ⟨some 4, .assign (.const (.int .i64 (-1))), 3, none⟩] [4])
  .ret)
  (.skip [0, 3]))) (sg c88S1)))
set_option maxRecDepth 100000 in
theorem ent88 (a0 a1 : Value) (w : World) (K : Value → World → Prop) (h : W Try.prog c88 [(0, a0), (1, a1)] w (finQ Try.prog [.tmp 4] K)) : Ret Try.prog 88 [a0, a1] w K :=
  Ret_of_W (code := c88code) Try.func88 (by kernel_rfl) (by kernel_rfl) (of_decide_eq_true (by kernel_rfl)) h
@[go_sem] theorem go88 : goFunc Try.prog 88 = true := by kernel_rfl
noncomputable def c90code : Code := match Try.f90.body with | some c => c | none => .skip
noncomputable def c90S0 (_ : Unit) : Cmd := (.draw (drawOps 1 c90code) [])
noncomputable def c90 : Cmd := (.seq (.ops [
 ⟨some 5, .move (.tmp 0), 84, none⟩,
 ⟨some 6, .nilCheck (.tmp 5), 0, none⟩,
 ⟨some 7, .fieldAddr 135 (.tmp 6) 1, 0, none⟩,
 ⟨some 8, .load 133 (.tmp 7), 133, none⟩,
 ⟨some 9, .move (.tmp 1), 3, none⟩,
 ⟨some 10, .indexAddr 133 (.tmp 8) (.tmp 9), 0, none⟩,
 ⟨some 11, .load 138 (.tmp 10), 138, none⟩,
 ⟨some 4, .alloc 138, 0, none⟩,
 ⟨none, .store 138 (.tmp 4) (.tmp 11), 0, none⟩] [0, 1, 4])
 (.seq (.draw (drawOps 0 c90code) [0, 4]) (sg c90S0)))
noncomputable def c90D0 : List (Nat × Ins) := [
 (0, ⟨some 12, .move (.tmp 0), 84, none⟩),
 (0, ⟨some 13, .nilCheck (.tmp 12), 0, none⟩),
 (0, ⟨some 14, .fieldAddr 135 (.tmp 13) 1, 0, none⟩),
 (0, ⟨some 16, .move (.tmp 1), 3, none⟩),
 (0, ⟨some 17, .binOp .add 3 (.tmp 16) (.const (.int .i64 1)) 3, 3, none⟩),
 (0, ⟨some 19, .move (.tmp 0), 84, none⟩),
 (0, ⟨some 20, .nilCheck (.tmp 19), 0, none⟩),
 (0, ⟨some 21, .fieldAddr 135 (.tmp 20) 1, 0, none⟩),
 (0, ⟨some 23, .move (.tmp 1), 3, none⟩),
 (1, ⟨some 15, .load 133 (.tmp 14), 133, none⟩),
 (0, ⟨some 18, .slice 133 (.tmp 15) (some (.const (.int .i64 1))) (some (.tmp 17)) none, 133, none⟩),
 (2, ⟨some 22, .load 133 (.tmp 21), 133, none⟩),
 (0, ⟨some 24, .slice 133 (.tmp 22) none (some (.tmp 23)) none, 133, none⟩),
 (2, ⟨some 25, .call ⟨.builtin .copy, #[(.tmp 18), (.tmp 24)], #[133, 133]⟩, 3, none⟩)]
theorem c90draw0 {L : List Nat} {ρ : Env} {w : World} {Q : Post} (S : World → Prop) (hS : S w.drew) (h : DG Try.prog S c90D0 L ρ w.drew Q) : drawW Try.prog (drawOps 0 c90code) L ρ w Q :=
  drawW_held [3] [(0, 0), (0, 1), (0, 2), (0, 4), (0, 5), (0, 7), (0, 8), (0, 9), (0, 11), (1, 3), (0, 6), (2, 10), (0, 12), (2, 13)] c90D0 (by kernel_rfl) (by kernel_rfl) (by kernel_rfl) S hS h
noncomputable def c90D1 : List (Nat × Ins) := [
 (0, ⟨some 26, .move (.tmp 0), 84, none⟩),
 (0, ⟨some 27, .nilCheck (.tmp 26), 0, none⟩),
 (0, ⟨some 28, .fieldAddr 135 (.tmp 27) 1, 0, none⟩),
 (1, ⟨some 29, .load 133 (.tmp 28), 133, none⟩),
 (2, ⟨some 30, .load 138 (.tmp 4), 138, none⟩),
 (0, ⟨some 31, .indexAddr 133 (.tmp 29) (.const (.int .i64 0)), 0, none⟩),
 (3, ⟨none, .store 138 (.tmp 31) (.tmp 30), 0, none⟩)]
theorem c90draw1 {L : List Nat} {ρ : Env} {w : World} {Q : Post} (S : World → Prop) (hS : S w.drew) (h : DG Try.prog S c90D1 L ρ w.drew Q) : drawW Try.prog (drawOps 1 c90code) L ρ w Q :=
  drawW_held [3] [(0, 0), (0, 1), (0, 2), (1, 3), (2, 4), (0, 5), (3, 6)] c90D1 (by kernel_rfl) (by kernel_rfl) (by kernel_rfl) S hS h
set_option maxRecDepth 100000 in
theorem ent90 (a0 a1 : Value) (w : World) (K : Value → World → Prop) (h : W Try.prog c90 [(0, a0), (1, a1)] w (finQ Try.prog [] K)) : Ret Try.prog 90 [a0, a1] w K :=
  Ret_of_W (code := c90code) Try.func90 (by kernel_rfl) (by kernel_rfl) (of_decide_eq_true (by kernel_rfl)) h
@[go_sem] theorem go90 : goFunc Try.prog 90 = true := by kernel_rfl
noncomputable def c105code : Code := match Try.f105.body with | some c => c | none => .skip
noncomputable def c105S0 (_ : Unit) : Cmd := (.seq (.block 1 (.seq (.ops [
 ⟨some 11, .move (.tmp 9), 3, none⟩,
 ⟨some 4, .assign (.tmp 11), 3, none⟩] [3, 4, 8, 9])
 (.ops [
 ⟨some 12, .move (.tmp 3), 95, none⟩,
 ⟨some 13, .move (.tmp 4), 3, none⟩,
 ⟨some 14, .indexAddr 95 (.tmp 12) (.tmp 13), 0, none⟩,
 ⟨some 15, .load 5 (.tmp 14), 5, none⟩,
 ⟨some 16, .binOp .xor 5 (.tmp 15) (.const (.int .u8 255)) 5, 5, none⟩,
 ⟨some 17, .indexAddr 95 (.tmp 12) (.tmp 13), 0, none⟩,
 ⟨none, .store 5 (.tmp 17) (.tmp 16), 0, none⟩] [3, 8, 9])))
 (.ops [
 ⟨some 18, .binOp .add 3 (.tmp 9) (.const (.int .i64 1)) 3, 3, none⟩,
 ⟨some 9, .move (.tmp 18), 3, none⟩] [3, 8, 9]))
noncomputable def c105L0 (_ : Unit) : Cmd := (.seq (.ops [
 ⟨some 10, .binOp .lss 3 (.tmp 9) (.tmp 8) 3, 0, none⟩] [3, 8, 9, 10])
 (.seq (.cond (.tmp 10)
  (.skip [3, 8, 9])
  (.exit 0 [3])) (sg c105S0)))
noncomputable def c105S1 (_ : Unit) : Cmd := (.seq (.ops [
 ⟨some 19, .move (.tmp 3), 95, none⟩,
 ⟨some 20, .convert 95 9 (.tmp 19), 9, none⟩,
 ⟨some 2, .assign (.tmp 20), 9, none⟩] [2])
 .ret)
noncomputable def c105 : Cmd := (.seq (.ops [
 ⟨some 2, .assign (.const (.string (ofL []))), 9, none⟩] [0])
 (.seq (.ops [
 ⟨some 5, .move (.tmp 0), 9, none⟩,
 ⟨some 6, .convert 9 95 (.tmp 5), 95, none⟩,
 ⟨some 3, .assign (.tmp 6), 95, none⟩] [3])
 (.seq (.seq (.ops [
 ⟨some 7, .move (.tmp 3), 95, none⟩,
 ⟨some 8, .call ⟨.builtin .len, #[(.tmp 7)], #[95]⟩, 3, none⟩,
 ⟨some 9, .move (.const (.int .i64 0)), 3, none⟩] [3, 8, 9])
 (.block 0 (.loop (sg c105L0)))) (sg c105S1))))
set_option maxRecDepth 100000 in
theorem ent105 (a0 : Value) (w : World) (K : Value → World → Prop) (h : W Try.prog c105 [(0, a0)] w (finQ Try.prog [.tmp 2] K)) : Ret Try.prog 105 [a0] w K :=
  Ret_of_W (code := c105code) Try.func105 (by kernel_rfl) (by kernel_rfl) (of_decide_eq_true (by kernel_rfl)) h
@[go_sem] theorem go105 : goFunc Try.prog 105 = true := by kernel_rfl
noncomputable def c106code : Code := match Try.f106.body with | some c => c | none => .skip
noncomputable def c106S0 (_ : Unit) : Cmd := .ret
noncomputable def c106 : Cmd := (.seq (.ops [
 ⟨some 3, .assign (.const (.int .i64 0)), 3, none⟩] [0, 1])
 (.seq (.ops [
 ⟨some 4, .load 9 (.tmp 1), 9, none⟩,
 ⟨some 5, .move (.tmp 0), 3, none⟩,
 ⟨some 6, .move (.tmp 0), 3, none⟩,
 ⟨some 7, .binOp .add 3 (.tmp 6) (.const (.int .i64 4)) 3, 3, none⟩,
 ⟨some 8, .slice 9 (.tmp 4) (some (.tmp 5)) (some (.tmp 7)) none, 9, none⟩,
 ⟨some 9, .call ⟨.value (.func 51), #[(.tmp 8)], #[9]⟩, 59, none⟩,
 ⟨some 10, .convert 59 3 (.tmp 9), 3, none⟩,
 ⟨some 3, .assign (.tmp 10), 3, none⟩] [3]) (sg c106S0)))
set_option maxRecDepth 100000 in
theorem ent106 (a0 a1 : Value) (w : World) (K : Value → World → Prop) (h : W Try.prog c106 [(0, a0), (1, a1)] w (finQ Try.prog [.tmp 3] K)) : Ret Try.prog 106 [a0, a1] w K :=
  Ret_of_W (code := c106code) Try.func106 (by kernel_rfl) (by kernel_rfl) (of_decide_eq_true (by kernel_rfl)) h
@[go_sem] theorem go106 : goFunc Try.prog 106 = true := by kernel_rfl
noncomputable def c110code : Code := match Try.f110.body with | some c => c | none => .skip
noncomputable def c110S0 (_ : Unit) : Cmd := (.cond (.tmp 16)
  (.seq (.ops [
  ⟨some 17, .move (.tmp 5), 3, none⟩,
  ⟨some 4, .assign (.tmp 17), 3, none⟩] [4])
  .ret)
  (.skip [0, 1, 7, 8]))
noncomputable def c110S1 (_ : Unit) : Cmd := (.ops [
 ⟨some 18, .binOp .add 3 (.tmp 8) (.const (.int .i64 1)) 3, 3, none⟩,
 ⟨some 8, .move (.tmp 18), 3, none⟩] [0, 1, 7, 8])
noncomputable def c110S2 (_ : Unit) : Cmd := (.seq (.block 1 (.seq (.ops [
 ⟨some 10, .move (.tmp 8), 3, none⟩,
 ⟨some 5, .assign (.tmp 10), 3, none⟩] [0, 1, 5, 7, 8])
 (.seq (.ops [
 ⟨some 11, .move (.tmp 1), 160, none⟩,
 ⟨some 12, .move (.tmp 0), 133, none⟩,
 ⟨some 13, .move (.tmp 5), 3, none⟩,
 ⟨some 14, .indexAddr 133 (.tmp 12) (.tmp 13), 0, none⟩,
 ⟨some 15, .load 138 (.tmp 14), 138, none⟩,
 ⟨some 16, .call ⟨.value (.tmp 11), #[(.tmp 15)], #[138]⟩, 4, none⟩] [0, 1, 5, 7, 8, 16]) (sg c110S0)))) (sg c110S1))
noncomputable def c110L0 (_ : Unit) : Cmd := (.seq (.ops [
 ⟨some 9, .binOp .lss 3 (.tmp 8) (.tmp 7) 3, 0, none⟩] [0, 1, 7, 8, 9])
 (.seq (.cond (.tmp 9)
  (.skip [0, 1, 7, 8])
  (.exit 0 [])) (sg c110S2)))
noncomputable def c110S3 (_ : Unit) : Cmd := (.seq (.ops [
 ⟨some 4, .assign (.const (.int .i64 (-1))), 3, none⟩] [4])
 .ret)
noncomputable def c110 : Cmd := (.seq (.ops [
 ⟨some 4, .assign (.const (.int .i64 0)), 3, none⟩] [0, 1])
 (.seq (.seq (.ops [
 ⟨some 6, .move (.tmp 0), 133, none⟩,
 ⟨some 7, .call ⟨.builtin .len, #[(.tmp 6)], #[133]⟩, 3, none⟩,
 ⟨some 8, .move (.const (.int .i64 0)), 3, none⟩] [0, 1, 7, 8])
 (.block 0 (.loop (sg c110L0)))) (sg c110S3)))
set_option maxRecDepth 100000 in
theorem ent110 (a0 a1 : Value) (w : World) (K : Value → World → Prop) (h : W Try.prog c110 [(0, a0), (1, a1)] w (finQ Try.prog [.tmp 4] K)) : Ret Try.prog 110 [a0, a1] w K :=
  Ret_of_W (code := c110code) Try.func110 (by kernel_rfl) (by kernel_rfl) (of_decide_eq_true (by kernel_rfl)) h
@[go_sem] theorem go110 : goFunc Try.prog 110 = true := by kernel_rfl
noncomputable def c111code : Code := match Try.f111.body with | some c => c | none => .skip
noncomputable def c111 : Cmd := (.seq (.ops [
 ⟨some 2, .box 138 (.tmp 0), 0, none⟩,
 ⟨some 3, .assign (.const (.bool false)), 4, none⟩] [1, 2])
 (.seq (.ops [
 ⟨some 4, .fieldAddr 138 (.tmp 2) 0, 0, none⟩,
 ⟨some 5, .load 3 (.tmp 4), 3, none⟩,
 ⟨some 6, .load 3 (.tmp 1), 3, none⟩,
 ⟨some 7, .binOp .eql 3 (.tmp 5) (.tmp 6) 3, 4, none⟩,
 ⟨some 3, .assign (.tmp 7), 4, none⟩] [3])
 .ret))
set_option maxRecDepth 100000 in
theorem ent111 (a0 a1 : Value) (w : World) (K : Value → World → Prop) (h : W Try.prog c111 [(0, a0), (1, a1)] w (finQ Try.prog [.tmp 3] K)) : Ret Try.prog 111 [a0, a1] w K :=
  Ret_of_W (code := c111code) Try.func111 (by kernel_rfl) (by kernel_rfl) (of_decide_eq_true (by kernel_rfl)) h
@[go_sem] theorem go111 : goFunc Try.prog 111 = true := by kernel_rfl
@[go_sem] theorem go27 : goFunc Try.prog 27 = true := by kernel_rfl
@[go_sem] theorem go24 : goFunc Try.prog 24 = true := by kernel_rfl
@[go_sem] theorem go54 : goFunc Try.prog 54 = true := by kernel_rfl
@[go_sem] theorem go55 : goFunc Try.prog 55 = true := by kernel_rfl
@[go_sem] theorem go56 : goFunc Try.prog 56 = true := by kernel_rfl
@[go_sem] theorem go57 : goFunc Try.prog 57 = true := by kernel_rfl
@[go_sem] theorem go60 : goFunc Try.prog 60 = true := by kernel_rfl
@[go_sem] theorem go61 : goFunc Try.prog 61 = true := by kernel_rfl
@[go_sem] theorem go76 : goFunc Try.prog 76 = true := by kernel_rfl
@[go_sem] theorem go77 : goFunc Try.prog 77 = true := by kernel_rfl
@[go_sem] theorem go104 : goFunc Try.prog 104 = true := by kernel_rfl
@[go_sem] theorem go82 : goFunc Try.prog 82 = true := by kernel_rfl
@[go_sem] theorem go102 : goFunc Try.prog 102 = true := by kernel_rfl
@[go_sem] theorem go103 : goFunc Try.prog 103 = true := by kernel_rfl
noncomputable def c89code : Code := match Try.f89.body with | some c => c | none => .skip
noncomputable def c89S0 (_ : Unit) : Cmd := (.seq (.ops [
 ⟨some 32, .move (.tmp 0), 133, none⟩,
 ⟨some 6, .assign (.tmp 32), 133, none⟩] [6])
 .ret)
noncomputable def c89S1 (_ : Unit) : Cmd := (.seq (.ops [
 ⟨some 27, .move (.tmp 0), 133, none⟩,
 ⟨some 28, .move (.tmp 0), 133, none⟩,
 ⟨some 29, .call ⟨.builtin .len, #[(.tmp 28)], #[133]⟩, 3, none⟩,
 ⟨some 30, .move (.tmp 7), 3, none⟩,
 ⟨some 31, .slice 133 (.tmp 27) (some (.tmp 29)) (some (.tmp 30)) none, 133, none⟩,
 ⟨none, .call ⟨.builtin .clear, #[(.tmp 31)], #[133]⟩, 0, none⟩] [0]) (sg c89S0))
noncomputable def c89S2 (_ : Unit) : Cmd := (.seq (.ops [
 ⟨some 18, .move (.tmp 0), 133, none⟩,
 ⟨some 19, .call ⟨.builtin .len, #[(.tmp 18)], #[133]⟩, 3, none⟩,
 ⟨some 7, .assign (.tmp 19), 3, none⟩] [0, 1, 2, 7])
 (.seq (.draw (drawOps 0 c89code) [0, 7]) (sg c89S1)))
noncomputable def c89 : Cmd := (.seq (.ops [
 ⟨some 6, .assign (.const (.slice none 0 0)), 133, none⟩] [0, 1, 2])
 (.seq (.ops [
 ⟨some 8, .move (.tmp 0), 133, none⟩,
 ⟨some 9, .move (.tmp 1), 3, none⟩,
 ⟨some 10, .move (.tmp 2), 3, none⟩,
 ⟨some 11, .move (.tmp 0), 133, none⟩,
 ⟨some 12, .call ⟨.builtin .len, #[(.tmp 11)], #[133]⟩, 3, none⟩,
 ⟨some 13, .slice 133 (.tmp 8) (some (.tmp 9)) (some (.tmp 10)) (some (.tmp 12)), 133, none⟩] [0, 1, 2])
 (.seq (.seq (.ops [
 ⟨some 14, .move (.tmp 1), 3, none⟩,
 ⟨some 15, .move (.tmp 2), 3, none⟩,
 ⟨some 16, .binOp .eql 3 (.tmp 14) (.tmp 15) 3, 4, none⟩] [0, 1, 2, 16])
 (.cond (.tmp 16)
  (.seq (.ops [
  ⟨some 17, .move (.tmp 0), 133, none⟩,
  ⟨some 6, .assign (.tmp 17), 133, none⟩] [6])
  .ret)
  (.skip [0, 1, 2]))) (sg c89S2))))
noncomputable def c89D0 : List (Bool × Ins) := [
 (true, ⟨some 20, .move (.tmp 0), 133, none⟩),
 (true, ⟨some 21, .move (.tmp 1), 3, none⟩),
 (true, ⟨some 22, .slice 133 (.tmp 20) none (some (.tmp 21)) none, 133, none⟩),
 (true, ⟨some 23, .move (.tmp 0), 133, none⟩),
 (true, ⟨some 24, .move (.tmp 2), 3, none⟩),
 (true, ⟨some 25, .slice 133 (.tmp 23) (some (.tmp 24)) none none, 133, none⟩),
 (false, ⟨some 26, .call ⟨.builtin .append, #[(.tmp 22), (.tmp 25)], #[133, 133]⟩, 133, none⟩),
 (true, ⟨some 0, .assign (.tmp 26), 133, none⟩)]
theorem c89draw0 {L : List Nat} {ρ : Env} {w : World} {Q : Post} (h : DL Try.prog c89D0 L ρ w.drew Q) : drawW Try.prog (drawOps 0 c89code) L ρ w Q :=
  drawW_by [(true, 0), (true, 1), (true, 2), (true, 3), (true, 4), (true, 5), (false, 6), (true, 7)] c89D0 (by kernel_rfl) (by kernel_rfl) (by kernel_rfl) h
set_option maxRecDepth 100000 in
theorem ent89 (a0 a1 a2 : Value) (w : World) (K : Value → World → Prop) (h : W Try.prog c89 [(0, a0), (1, a1), (2, a2)] w (finQ Try.prog [.tmp 6] K)) : Ret Try.prog 89 [a0, a1, a2] w K :=
  Ret_of_W (code := c89code) Try.func89 (by kernel_rfl) (by kernel_rfl) (of_decide_eq_true (by kernel_rfl)) h
@[go_sem] theorem go89 : goFunc Try.prog 89 = true := by kernel_rfl
noncomputable def c91code : Code := match Try.f91.body with | some c => c | none => .skip
noncomputable def c91S0 (_ : Unit) : Cmd := .ret
noncomputable def c91S1 (_ : Unit) : Cmd := (.seq (.ops [
  ⟨some 55, .move (.tmp 9), 133, none⟩,
  ⟨some 6, .assign (.tmp 55), 133, none⟩] [6])
  .ret)
noncomputable def c91S2 (_ : Unit) : Cmd := (.seq (.draw (drawOps 0 c91code) [9]) (sg c91S1))
noncomputable def c91S3 (_ : Unit) : Cmd := (.seq (.ops [
  ⟨some 41, .move (.tmp 9), 133, none⟩,
  ⟨some 42, .move (.tmp 1), 3, none⟩,
  ⟨some 43, .slice 133 (.tmp 41) (some (.tmp 42)) none none, 133, none⟩,
  ⟨some 44, .move (.tmp 2), 133, none⟩,
  ⟨some 45, .call ⟨.builtin .copy, #[(.tmp 43), (.tmp 44)], #[133, 133]⟩, 3, none⟩] [0, 1, 7, 9]) (sg c91S2))
noncomputable def c91S4 (_ : Unit) : Cmd := (.cond (.tmp 31)
  (.seq (.ops [
  ⟨some 32, .move (.tmp 0), 133, none⟩,
  ⟨some 33, .move (.tmp 1), 3, none⟩,
  ⟨some 34, .slice 133 (.tmp 32) none (some (.tmp 33)) none, 133, none⟩,
  ⟨some 35, .move (.tmp 8), 3, none⟩,
  ⟨some 36, .move (.tmp 7), 3, none⟩,
  ⟨some 37, .binOp .add 3 (.tmp 35) (.tmp 36) 3, 3, none⟩,
  ⟨some 38, .move (.tmp 1), 3, none⟩,
  ⟨some 39, .binOp .sub 3 (.tmp 37) (.tmp 38) 3, 3, none⟩,
  ⟨some 40, .call ⟨.builtin .append, #[(.tmp 34), (.tmp 39)], #[133, 3]⟩, 133, none⟩,
  ⟨some 9, .assign (.tmp 40), 133, none⟩] [0, 1, 2, 7, 9]) (sg c91S3))
  (.skip [0, 1, 2, 7, 8]))
noncomputable def c91S5 (_ : Unit) : Cmd := (.seq (.ops [
  ⟨some 83, .move (.tmp 0), 133, none⟩,
  ⟨some 6, .assign (.tmp 83), 133, none⟩] [6])
  .ret)
noncomputable def c91S6 (_ : Unit) : Cmd := (.seq (.ops [
  ⟨some 78, .move (.tmp 0), 133, none⟩,
  ⟨some 79, .move (.tmp 1), 3, none⟩,
  ⟨some 80, .slice 133 (.tmp 78) (some (.tmp 79)) none none, 133, none⟩,
  ⟨some 81, .move (.tmp 2), 133, none⟩,
  ⟨some 82, .call ⟨.builtin .copy, #[(.tmp 80), (.tmp 81)], #[133, 133]⟩, 3, none⟩] [0]) (sg c91S5))
noncomputable def c91S7 (_ : Unit) : Cmd := (.cond (.tmp 68)
  (.seq (.draw (drawOps 1 c91code) [0, 1, 2]) (sg c91S6))
  (.skip [0, 1, 2, 7, 8]))
noncomputable def c91S8 (_ : Unit) : Cmd := (.seq (.ops [
 ⟨some 94, .move (.tmp 0), 133, none⟩,
 ⟨some 6, .assign (.tmp 94), 133, none⟩] [6])
 .ret)
noncomputable def c91S9 (_ : Unit) : Cmd := (.seq (.ops [
 ⟨some 89, .move (.tmp 0), 133, none⟩,
 ⟨some 90, .move (.tmp 1), 3, none⟩,
 ⟨some 91, .slice 133 (.tmp 89) (some (.tmp 90)) none none, 133, none⟩,
 ⟨some 92, .move (.tmp 7), 3, none⟩,
 ⟨some 93, .call ⟨.value (.func 113), #[(.tmp 91), (.tmp 92)], #[133, 3]⟩, 0, none⟩] [0]) (sg c91S8))
noncomputable def c91S10 (_ : Unit) : Cmd := (.seq (.ops [
 ⟨some 84, .move (.tmp 0), 133, none⟩,
 ⟨some 85, .move (.tmp 8), 3, none⟩,
 ⟨some 86, .slice 133 (.tmp 84) (some (.tmp 85)) none none, 133, none⟩,
 ⟨some 87, .move (.tmp 2), 133, none⟩,
 ⟨some 88, .call ⟨.builtin .copy, #[(.tmp 86), (.tmp 87)], #[133, 133]⟩, 3, none⟩] [0, 1, 7]) (sg c91S9))
noncomputable def c91S11 (_ : Unit) : Cmd := (.seq (.ops [
 ⟨some 56, .move (.tmp 0), 133, none⟩,
 ⟨some 57, .move (.tmp 8), 3, none⟩,
 ⟨some 58, .move (.tmp 7), 3, none⟩,
 ⟨some 59, .binOp .add 3 (.tmp 57) (.tmp 58) 3, 3, none⟩,
 ⟨some 60, .slice 133 (.tmp 56) none (some (.tmp 59)) none, 133, none⟩,
 ⟨some 0, .assign (.tmp 60), 133, none⟩] [0, 1, 2, 7, 8])
 (.seq (.seq (.ops [
 ⟨some 61, .move (.tmp 2), 133, none⟩,
 ⟨some 62, .move (.tmp 0), 133, none⟩,
 ⟨some 63, .move (.tmp 1), 3, none⟩,
 ⟨some 64, .move (.tmp 7), 3, none⟩,
 ⟨some 65, .binOp .add 3 (.tmp 63) (.tmp 64) 3, 3, none⟩,
 ⟨some 66, .slice 133 (.tmp 62) (some (.tmp 65)) none none, 133, none⟩,
 ⟨some 67, .call ⟨.value (.func 112), #[(.tmp 61), (.tmp 66)], #[133, 133]⟩, 4, none⟩,
 ⟨some 68, .unOp .not 4 (.tmp 67), 4, none⟩] [0, 1, 2, 7, 8, 68]) (sg c91S7)) (sg c91S10)))
noncomputable def c91S12 (_ : Unit) : Cmd := (.seq (.seq (.ops [
 ⟨some 26, .move (.tmp 8), 3, none⟩,
 ⟨some 27, .move (.tmp 7), 3, none⟩,
 ⟨some 28, .binOp .add 3 (.tmp 26) (.tmp 27) 3, 3, none⟩,
 ⟨some 29, .move (.tmp 0), 133, none⟩,
 ⟨some 30, .call ⟨.builtin .cap, #[(.tmp 29)], #[133]⟩, 3, none⟩,
 ⟨some 31, .binOp .gtr 3 (.tmp 28) (.tmp 30) 3, 4, none⟩] [0, 1, 2, 7, 8, 31]) (sg c91S4)) (sg c91S11))
noncomputable def c91S13 (_ : Unit) : Cmd := (.seq (.ops [
 ⟨some 18, .move (.tmp 0), 133, none⟩,
 ⟨some 19, .call ⟨.builtin .len, #[(.tmp 18)], #[133]⟩, 3, none⟩,
 ⟨some 8, .assign (.tmp 19), 3, none⟩] [0, 1, 2, 7, 8])
 (.seq (.seq (.ops [
 ⟨some 20, .move (.tmp 1), 3, none⟩,
 ⟨some 21, .move (.tmp 8), 3, none⟩,
 ⟨some 22, .binOp .eql 3 (.tmp 20) (.tmp 21) 3, 4, none⟩] [0, 1, 2, 7, 8, 22])
 (.cond (.tmp 22)
  (.seq (.ops [
  ⟨some 23, .move (.tmp 0), 133, none⟩,
  ⟨some 24, .move (.tmp 2), 133, none⟩,
  ⟨some 25, .call ⟨.builtin .append, #[(.tmp 23), (.tmp 24)], #[133, 133]⟩, 133, none⟩,
  ⟨some 6, .assign (.tmp 25), 133, none⟩] [6]) (sg c91S0))
  (.skip [0, 1, 2, 7, 8]))) (sg c91S12)))
noncomputable def c91 : Cmd := (.seq (.ops [
 ⟨some 6, .assign (.const (.slice none 0 0)), 133, none⟩] [0, 1, 2])
 (.seq (.ops [
 ⟨some 10, .move (.tmp 0), 133, none⟩,
 ⟨some 11, .move (.tmp 1), 3, none⟩,
 ⟨some 12, .slice 133 (.tmp 10) (some (.tmp 11)) none none, 133, none⟩] [0, 1, 2])
 (.seq (.ops [
 ⟨some 13, .move (.tmp 2), 133, none⟩,
 ⟨some 14, .call ⟨.builtin .len, #[(.tmp 13)], #[133]⟩, 3, none⟩,
 ⟨some 7, .assign (.tmp 14), 3, none⟩] [0, 1, 2, 7])
 (.seq (.seq (.ops [
 ⟨some 15, .move (.tmp 7), 3, none⟩,
 ⟨some 16, .binOp .eql 3 (.tmp 15) (.const (.int .i64 0)) 3, 4, none⟩] [0, 1, 2, 7, 16])
 (.cond (.tmp 16)
  (.seq (.ops [
  ⟨some 17, .move (.tmp 0), 133, none⟩,
  ⟨some 6, .assign (.tmp 17), 133, none⟩] [6])
  .ret)
  (.skip [0, 1, 2, 7]))) (sg c91S13)))))
noncomputable def c91D0 : List (Bool × Ins) := [
 (true, ⟨some 46, .move (.tmp 9), 133, none⟩),
 (true, ⟨some 47, .move (.tmp 1), 3, none⟩),
 (true, ⟨some 48, .move (.tmp 7), 3, none⟩),
 (true, ⟨some 49, .binOp .add 3 (.tmp 47) (.tmp 48) 3, 3, none⟩),
 (true, ⟨some 50, .slice 133 (.tmp 46) (some (.tmp 49)) none none, 133, none⟩),
 (true, ⟨some 51, .move (.tmp 0), 133, none⟩),
 (true, ⟨some 52, .move (.tmp 1), 3, none⟩),
 (true, ⟨some 53, .slice 133 (.tmp 51) (some (.tmp 52)) none none, 133, none⟩),
 (false, ⟨some 54, .call ⟨.builtin .copy, #[(.tmp 50), (.tmp 53)], #[133, 133]⟩, 3, none⟩)]
theorem c91draw0 {L : List Nat} {ρ : Env} {w : World} {Q : Post} (h : DL Try.prog c91D0 L ρ w.drew Q) : drawW Try.prog (drawOps 0 c91code) L ρ w Q :=
  drawW_by [(true, 0), (true, 1), (true, 2), (true, 3), (true, 4), (true, 5), (true, 6), (true, 7), (false, 8)] c91D0 (by kernel_rfl) (by kernel_rfl) (by kernel_rfl) h
noncomputable def c91D1 : List (Bool × Ins) := [
 (true, ⟨some 69, .move (.tmp 0), 133, none⟩),
 (true, ⟨some 70, .move (.tmp 1), 3, none⟩),
 (true, ⟨some 71, .move (.tmp 7), 3, none⟩),
 (true, ⟨some 72, .binOp .add 3 (.tmp 70) (.tmp 71) 3, 3, none⟩),
 (true, ⟨some 73, .slice 133 (.tmp 69) (some (.tmp 72)) none none, 133, none⟩),
 (true, ⟨some 74, .move (.tmp 0), 133, none⟩),
 (true, ⟨some 75, .move (.tmp 1), 3, none⟩),
 (true, ⟨some 76, .slice 133 (.tmp 74) (some (.tmp 75)) none none, 133, none⟩),
 (false, ⟨some 77, .call ⟨.builtin .copy, #[(.tmp 73), (.tmp 76)], #[133, 133]⟩, 3, none⟩)]
theorem c91draw1 {L : List Nat} {ρ : Env} {w : World} {Q : Post} (h : DL Try.prog c91D1 L ρ w.drew Q) : drawW Try.prog (drawOps 1 c91code) L ρ w Q :=
  drawW_by [(true, 0), (true, 1), (true, 2), (true, 3), (true, 4), (true, 5), (true, 6), (true, 7), (false, 8)] c91D1 (by kernel_rfl) (by kernel_rfl) (by kernel_rfl) h
set_option maxRecDepth 100000 in
theorem ent91 (a0 a1 a2 : Value) (w : World) (K : Value → World → Prop) (h : W Try.prog c91 [(0, a0), (1, a1), (2, a2)] w (finQ Try.prog [.tmp 6] K)) : Ret Try.prog 91 [a0, a1, a2] w K :=
  Ret_of_W (code := c91code) Try.func91 (by kernel_rfl) (by kernel_rfl) (of_decide_eq_true (by kernel_rfl)) h
@[go_sem] theorem go91 : goFunc Try.prog 91 = true := by kernel_rfl
end Go.Proofs.Ytmchjbgobiagiaa

namespace Go.Proofs.Ytmchjbgobiagiaa
set_option linter.unusedSimpArgs false
set_option linter.unusedVariables false
set_option maxRecDepth 100000
open Go Go.Ann Go.RowKit Go.WideShapes
def zeroB : List UInt8 := List.replicate 256 0
def filledL (l : List UInt8) : List UInt8 := l ++ List.replicate (256 - l.length) 0
theorem filledL_length {l : List UInt8} (h : l.length ≤ 256) : (filledL l).length = 256 := by
  unfold filledL; rw [List.length_append, List.length_replicate]; omega
structure Dk where
  safe : List (List UInt8)
  late : List (Int × List UInt8)
  left : Int
  gone : Bool
structure Dk.ok (m : Dk) : Prop where
  safe : ∀ s ∈ m.safe, s.length = 256
  late : ∀ x ∈ m.late, 0 ≤ x.1 ∧ x.1 < m.safe.length ∧ x.2.length = 256
  left : I64 m.left
  some : 0 < m.safe.length
  few : m.safe.length ≤ 2048
  less : m.late.length ≤ 1048576
def strE (s : List UInt8) : List Value := [.string (ofL s)]
theorem strE_ones (l : List (List UInt8)) : ∀ u ∈ l.flatMap strE, u.oneCell' = true := by
  intro u hu
  obtain ⟨s, _, h⟩ := List.mem_flatMap.1 hu
  rw [strE, List.mem_singleton] at h
  subst h; rfl
def pendV (x : Int × List UInt8) : List Value := [.int .i64 x.1, .string (ofL x.2)]
theorem pendV_len (x : Int × List UInt8) : (pendV x).length = 2 := rfl
theorem pendV_ones (l : List (Int × List UInt8)) : ∀ u ∈ l.flatMap pendV, u.oneCell' = true := by
  intro u hu
  obtain ⟨s, _, h⟩ := List.mem_flatMap.1 hu
  simp only [pendV, List.mem_cons, List.not_mem_nil, or_false] at h
  rcases h with rfl | rfl <;> rfl
theorem strE_map (l : List (List UInt8)) : l.flatMap strE = l.map fun s => Value.string (ofL s) := by
  induction l with
  | nil => rfl
  | cons a l ih => rw [List.flatMap_cons, ih]; rfl
theorem strE_set (l : List (List UInt8)) (j : Nat) (s : List UInt8) : (l.flatMap strE).set j (.string (ofL s)) = (l.set j s).flatMap strE := by
  rw [strE_map, strE_map, List.map_set]
def DkL (g : Nat) (vb vl : Value) (m : Dk) : List Res :=
  [.blk g #[vb, vl, .int .i64 m.left, .bool m.gone, .string (ofL zeroB)] 104, .row vb 9 1 m.safe.length (m.safe.flatMap strE), .row vl 106 2 m.late.length (m.late.flatMap pendV)]
theorem st_recast {W0 w : World} {F : Nat → Prop} {L L' : List Res} {I : List Inv} (h : St W0 w F L I) (e : L = L') : St W0 w F L' I := e ▸ h
theorem St.front {W0 w : World} {F : Nat → Prop} {A D L : List Res} {I : List Inv} (h : St W0 w F (A ++ (D ++ L)) I) : St W0 w F (D ++ (A ++ L)) I :=
  h.perm (by rw [← List.append_assoc, ← List.append_assoc]; exact List.perm_append_comm.append_right L)
section
variable {W0 w : World} {F : Nat → Prop} {L : List Res} {I : List Inv} {g : Nat} {vb vl : Value} {m : Dk}
def readyN (m : Dk) (i : Int) : Int := if m.gone = true then 11 else if 0 ≤ i ∧ i < m.safe.length then 0 else 10
theorem dk_form (h : St W0 w F (DkL g vb vl m ++ L) I) (ok : m.ok) : ∃ gb cb al cl, vb = .slice (some ⟨gb, 0, none⟩) m.safe.length cb ∧ vl = .slice al m.late.length cl ∧ m.late.length ≤ cl := by
  obtain ⟨gb, cb, h1, _⟩ := (h.row 1 rfl).form ok.some
  obtain ⟨al, cl, h2, h3⟩ := own_slice (h.row 2 rfl)
  exact ⟨gb, cb, al, cl, h1, h2, h3⟩
theorem ready_ok (i : Int) (h : St W0 w F (DkL g vb vl m ++ L) I) (ok : m.ok) :
    Ret Try.prog 81 [.pointer (some ⟨g, 0, none⟩), .int .i64 i] w fun u w' => u = .int .i64 (readyN m i) ∧ w' = w := by
  obtain ⟨gb, cb, al, cl, rfl, rfl, _⟩ := dk_form h ok
  refine ent81 _ _ _ _ ?_
  have r1 := h.rules 0 rfl
  simp (disch := first | omega | exact okFill_t rfl | exact okSize_t rfl | exact fun h => h | (simp only [World.size_alloc, World.size_drew, World.size_setCell, size_fill, bytesW]; omega)) only [go_sem, c81, c81S0, r1]
  unfold readyN
  refine ⟨fun hg => ?_, fun hg => ?_⟩
  · rw [if_pos hg]
  · rw [if_neg (by rw [hg]; decide)]
    by_cases h0 : 0 ≤ i
    · by_cases h1 : i < m.safe.length
      · rw [if_pos ⟨h0, h1⟩]
        exact ⟨fun _ => ⟨fun h => by omega, fun _ => rfl⟩, fun h => by omega⟩
      · rw [if_neg (by omega)]
        exact ⟨fun _ => ⟨fun _ => rfl, fun h => by omega⟩, fun h => by omega⟩
    · rw [if_neg (by omega)]
      exact ⟨fun h => by omega, fun _ => rfl⟩
def useN (m : Dk) : Dk × Int := if m.left = 0 then ({ m with gone := true }, 11) else if 0 < m.left then ({ m with left := m.left - 1 }, 0) else (m, 0)
theorem useN_ok (ok : m.ok) : (useN m).1.ok := by
  unfold useN
  have hl := ok.left
  split
  · exact ⟨ok.safe, ok.late, ok.left, ok.some, ok.few, ok.less⟩
  · split
    · exact ⟨ok.safe, ok.late, ⟨by have := hl.1; simp only; omega, by have := hl.2; simp only; omega⟩, ok.some, ok.few, ok.less⟩
    · exact ok
theorem useN_late (m : Dk) : (useN m).1.late = m.late ∧ (useN m).1.safe = m.safe := by
  unfold useN; split
  · exact ⟨rfl, rfl⟩
  · split <;> exact ⟨rfl, rfl⟩
theorem use_ok (h : St W0 w F (DkL g vb vl m ++ L) I) (ok : m.ok) :
    Ret Try.prog 86 [.pointer (some ⟨g, 0, none⟩)] w fun u w' => u = .int .i64 (useN m).2 ∧ St W0 w' F (DkL g vb vl (useN m).1 ++ L) I := by
  refine ent86 _ _ _ ?_
  have r1 := h.rules 0 rfl
  simp (disch := first | omega | exact okFill_t rfl | exact okSize_t rfl | exact fun h => h | (simp only [World.size_alloc, World.size_drew, World.size_setCell, size_fill, bytesW]; omega)) only [go_sem, c86, c86S0, c86S1, r1]
  unfold useN
  have hl := ok.left
  refine ⟨fun h0 => ?_, fun h0 => ⟨fun h1 => ?_, fun h1 => ?_⟩⟩
  · rw [if_pos h0]
    exact ⟨rfl, h.set 0 rfl 3 (.bool true)⟩
  · rw [if_neg h0, if_pos h1]
    exact ⟨⟨by have := hl.1; omega, by have := hl.2; omega⟩, rfl, h.set 0 rfl 2 (.int .i64 (m.left - 1))⟩
  · rw [if_neg h0, if_neg (by omega)]
    exact ⟨rfl, h⟩
def lastL (l : List (Int × List UInt8)) (i : Int) (s : List UInt8) : List UInt8 := l.foldl (fun s x => if x.1 = i then x.2 else s) s
def readN (m : Dk) (i : Int) : List UInt8 × Int := if readyN m i = 0 then (lastL m.late i (m.safe.getD i.toNat []), 0) else ([], readyN m i)
theorem lastL_snoc (l : List (Int × List UInt8)) (x : Int × List UInt8) (i : Int) (s : List UInt8) : lastL (l ++ [x]) i s = if x.1 = i then x.2 else lastL l i s := by
  unfold lastL; rw [List.foldl_append]; rfl
theorem readyN_in {i : Int} (hr : readyN m i = 0) : 0 ≤ i ∧ i < m.safe.length := by
  unfold readyN at hr
  split at hr
  · cases hr
  · split at hr
    · assumption
    · cases hr
theorem read_ok (i : Int) (h : St W0 w F (DkL g vb vl m ++ L) I) (ok : m.ok) :
    Ret Try.prog 59 [.pointer (some ⟨g, 0, none⟩), .int .i64 i] w fun u w' => u = .tuple #[.string (ofL (readN m i).1), .int .i64 (readN m i).2] ∧ Below w.heap.size w w' := by
  refine ent59 _ _ _ _ ?_
  simp (disch := first | omega | exact okFill_t rfl | exact okSize_t rfl | exact fun h => h | (simp only [World.size_alloc, World.size_drew, World.size_setCell, size_fill, bytesW]; omega)) only [go_sem, c59, c59S0, c59S1, c59S2, c59L0, c59S3, c59S4]
  refine Ret.mono (ready_ok i h ok) ?_
  rintro _ w2 ⟨rfl, e2⟩
  subst w2
  obtain ⟨gb, cb, al, cl, rfl, rfl, hcl⟩ := dk_form h ok
  have r1 := h.rules 0 rfl
  unfold readN
  by_cases hr : readyN m i = 0
  case neg =>
    rw [if_neg hr]
    simp (disch := first | omega | exact okFill_t rfl | exact okSize_t rfl | exact fun h => h | (simp only [World.size_alloc, World.size_drew, World.size_setCell, size_fill, bytesW]; omega)) only [go_sem, c59, c59S0, c59S1, c59S2, c59L0, c59S3, c59S4, hr]
    exact Below.refl _ _
  rw [if_pos hr]
  obtain ⟨h0, hlt⟩ := readyN_in hr
  have hS : RdS w 1 strE (.slice (some ⟨gb, 0, none⟩) m.safe.length cb) m.safe := RdS.of_own' (h.row 1 rfl) m.safe rfl rfl
  have hL : RdS w 2 pendV (.slice al m.late.length cl) m.late := RdS.of_own' (h.row 2 rfl) m.late rfl rfl
  obtain ⟨k0, rfl⟩ := Int.eq_ofNat_of_zero_le h0
  have hk0 : k0 < m.safe.length := by omega
  have eS := RdS.at1 (e1 := fun s => .string (ofL s)) hS hk0
  rw [Addr.add_lit, Nat.zero_add] at eS
  have e0 : m.safe.getD ((k0 : Int).toNat) [] = m.safe[k0] := by simp [List.getD_eq_getElem?_getD, List.getElem?_eq_getElem hk0]
  rw [e0]
  simp (disch := first | omega | exact okFill_t rfl | exact okSize_t rfl | exact fun h => h | (simp only [World.size_alloc, World.size_drew, World.size_setCell, size_fill, bytesW]; omega)) only [go_sem, c59, c59S0, c59S1, c59S2, c59S3, c59S4, hr, r1, eS, hlt]
  refine ⟨by omega, ?_⟩
  refine W_loopU (fun k : Nat => [(7, .string (ofL (lastL (m.late.take k) k0 m.safe[k0]))), (28, .int .i64 k)]) (fun k w' => k ≤ m.late.length ∧ Below w.heap.size w w') (fun k => m.late.length - k) 0 rfl ⟨Nat.zero_le _, Below.refl _ _⟩ ?_
  rintro k w3 ⟨hk, hb⟩
  by_cases hlt2 : k < m.late.length
  · have hlt' : (k : Int) < m.late.length := by omega
    obtain ⟨p, rfl⟩ := hL.ptr (by omega)
    have eL := (hL.below hb (by decide)).at pendV_len hlt2
    simp (disch := first | omega | exact okFill_t rfl | exact okSize_t rfl | exact fun h => h | (simp only [World.size_alloc, World.size_drew, World.size_setCell, size_fill, bytesW]; omega)) only [go_sem, c59, c59S0, c59S1, c59S2, c59L0, c59S3, c59S4, c59L0, hlt', eL, pendV]
    have es : lastL (m.late.take (k + 1)) k0 m.safe[k0] = if m.late[k].1 = k0 then m.late[k].2 else lastL (m.late.take k) k0 m.safe[k0] := by
      rw [List.take_succ_eq_append_getElem hlt2, lastL_snoc]
    have b' : Below w.heap.size w (w3.alloc (.cells #[.int .i64 m.late[k].1, .string (ofL m.late[k].2)] 106)) := hb.alloc hb.size _
    have hless := ok.less
    clear r1
    refine ⟨by omega, fun e => ⟨⟨by omega, by omega⟩, k + 1, ?_, ⟨by omega, b'⟩, by omega⟩, fun e => ⟨⟨by omega, by omega⟩, k + 1, ?_, ⟨by omega, b'⟩, by omega⟩⟩
    · rw [es, if_pos e]; rfl
    · rw [es, if_neg e]; rfl
  · have hlt' : ¬ (k : Int) < m.late.length := by omega
    simp (disch := first | omega | exact okFill_t rfl | exact okSize_t rfl | exact fun h => h | (simp only [World.size_alloc, World.size_drew, World.size_setCell, size_fill, bytesW]; omega)) only [go_sem, c59, c59S0, c59S1, c59S2, c59L0, c59S3, c59S4, c59L0, hlt']
    rw [List.take_of_length_le (by omega)]
    exact ⟨rfl, hb⟩
def writeN (m : Dk) (i : Int) (data : List UInt8) : Dk × Int :=
  if readyN m i ≠ 0 then (m, readyN m i) else if 256 < data.length then (m, 21) else
  if (useN m).2 = 0 then ({ (useN m).1 with late := (useN m).1.late ++ [(i, filledL data)] }, 0) else useN m
theorem writeN_ok (ok : m.ok) (hless : m.late.length < 1000000) (i : Int) (data : List UInt8) : (writeN m i data).1.ok := by
  unfold writeN
  split
  · exact ok
  · rename_i hr
    have hr : readyN m i = 0 := Decidable.not_not.1 hr
    split
    · exact ok
    · have hu := useN_ok ok
      have hl := useN_late m
      have hin := readyN_in hr
      split
      · refine ⟨hu.safe, fun x hx => ?_, hu.left, hu.some, hu.few, ?_⟩
        · rcases List.mem_append.1 hx with h | h
          · exact hu.late x h
          · rw [List.mem_singleton] at h; subst h
            rw [hl.2]
            exact ⟨hin.1, hin.2, filledL_length (by omega)⟩
        · simp only [List.length_append, List.length_singleton, hl.1]; omega
      · exact hu
theorem write_ok (i : Int) (data : List UInt8) (h : St W0 w F (DkL g vb vl m ++ L) I) (ok : m.ok) (hless : m.late.length < 1000000) :
    Ret Try.prog 66 [.pointer (some ⟨g, 0, none⟩), .int .i64 i, .string (ofL data)] w fun u w' => u = .int .i64 (writeN m i data).2 ∧ ∃ vl', St W0 w' F (DkL g vb vl' (writeN m i data).1 ++ L) I := by
  refine ent66 _ _ _ _ _ ?_
  simp (disch := first | omega | exact okFill_t rfl | exact okSize_t rfl | exact fun h => h | (simp only [World.size_alloc, World.size_drew, World.size_setCell, size_fill, bytesW]; omega)) only [go_sem, c66, c66S0, c66S1, c66S2, c66S3]
  refine Ret.mono (ready_ok i h ok) ?_
  rintro _ w2 ⟨rfl, e2⟩
  subst w2
  unfold writeN
  by_cases hr : readyN m i = 0
  case neg =>
    rw [if_pos hr]
    simp (disch := first | omega | exact okFill_t rfl | exact okSize_t rfl | exact fun h => h | (simp only [World.size_alloc, World.size_drew, World.size_setCell, size_fill, bytesW]; omega)) only [go_sem, c66, c66S0, c66S1, c66S2, c66S3, hr]
    exact ⟨vl, h⟩
  rw [if_neg (by omega)]
  by_cases hd : 256 < data.length
  · have hd' : (256 : Int) < data.length := by omega
    rw [if_pos hd]
    simp (disch := first | omega | exact okFill_t rfl | exact okSize_t rfl | exact fun h => h | (simp only [World.size_alloc, World.size_drew, World.size_setCell, size_fill, bytesW]; omega)) only [go_sem, c66, c66S0, c66S1, c66S2, c66S3, hr, hd']
    exact ⟨vl, h⟩
  have hd' : ¬ (256 : Int) < data.length := by omega
  rw [if_neg hd]
  simp (disch := first | omega | exact okFill_t rfl | exact okSize_t rfl | exact fun h => h | (simp only [World.size_alloc, World.size_drew, World.size_setCell, size_fill, bytesW]; omega)) only [go_sem, c66, c66S0, c66S1, c66S2, c66S3, hr, hd']
  refine Ret.mono (use_ok h ok) ?_
  rintro _ w2 ⟨rfl, h2⟩
  have ok2 := useN_ok ok
  have hl := useN_late m
  by_cases hu : (useN m).2 = 0
  case neg =>
    rw [if_neg hu]
    simp (disch := first | omega | exact okFill_t rfl | exact okSize_t rfl | exact fun h => h | (simp only [World.size_alloc, World.size_drew, World.size_setCell, size_fill, bytesW]; omega)) only [go_sem, c66, c66S0, c66S1, c66S2, c66S3, hu]
    exact ⟨vl, h2⟩
  rw [if_pos hu]
  generalize (useN m).1 = m1 at h2 ok2 hl ⊢
  obtain ⟨gb, cb, al, cl, rfl, rfl, hcl⟩ := dk_form h2 ok2
  have r1 := h2.rules 0 rfl
  simp (disch := first | omega | exact okFill_t rfl | exact okSize_t rfl | exact fun h => h | (simp only [World.size_alloc, World.size_drew, World.size_setCell, size_fill, bytesW]; omega)) only [go_sem, c66, c66S0, c66S1, c66S2, c66S3, hu, r1]
  refine c66draw0 (Chg (fun _ => False) _) (Chg.refl _ _) ?_
  have h3 := h2.drew
  have r3 := h3.rules 0 rfl
  have l3 := h3.low 0 rfl
  generalize w2.drew = w3 at h3 r3 l3 ⊢
  simp (disch := first | omega | exact okFill_t rfl | exact okSize_t rfl | exact fun h => h | (simp only [World.size_alloc, World.size_drew, World.size_setCell, size_fill, bytesW]; omega)) only [go_sem, c66, c66S0, c66S1, c66S2, c66S3, c66D0, r3]
  have ez : data ++ zeroB.drop data.length = filledL data := by unfold zeroB filledL; rw [List.drop_replicate]
  have hz : zeroB.length = 256 := List.length_replicate
  rw [ez]
  refine ⟨by rw [hz]; omega, by rw [List.length_drop, hz]; omega, ?_⟩
  refine bdW_built (cells := (pendV (i, filledL data)).toArray) (by kernel_rfl) ?_
  simp (disch := first | omega | exact okFill_t rfl | exact okSize_t rfl | exact fun h => h | (simp only [World.size_alloc, World.size_drew, World.size_setCell, size_fill, bytesW]; omega)) only [go_sem, c66, c66S0, c66S1, c66S2, c66S3]
  refine bsW_agg ty102mkI rfl (by decide) (by decide) ?_
  have hx : Rd (w3.alloc (.cells (pendV (i, filledL data)).toArray 106)) 2 (.slice (some ⟨w3.heap.size, 0, none⟩) 1 1) 1 (pendV (i, filledL data)) := rd_new (n := 1) (cs := (pendV (i, filledL data)).toArray) rfl
  simp (disch := first | omega | exact okFill_t rfl | exact okSize_t rfl | exact fun h => h | (simp only [World.size_alloc, World.size_drew, World.size_setCell, size_fill, bytesW]; omega)) only [go_sem, c66, c66S0, c66S1, c66S2, c66S3]
  have h1 : ∀ u ∈ pendV (i, filledL data), u.oneCell' = true := by simpa using pendV_ones [(i, filledL data)]
  refine ⟨(Chg.refl _ _).alloc _, ?_⟩
  refine (h3.alloc' (.cells (pendV (i, filledL data)).toArray 106)).append 2 rfl ty102mkI rfl (by decide) hx h1 (by have := ok.less; rw [hl.1]; omega) (by have := ok.less; rw [hl.1]; omega) ?_
  intro v6 w6 h6 c6
  obtain ⟨a6, d6, rfl, _⟩ := own_slice (h6.row 2 rfl)
  have r6 := h6.rules 0 rfl
  simp (disch := first | omega | exact okFill_t rfl | exact okSize_t rfl | exact fun h => h | (simp only [World.size_alloc, World.size_drew, World.size_setCell, size_fill, bytesW]; omega)) only [go_sem, c66, c66S0, c66S1, c66S2, c66S3, r6]
  refine ⟨.slice a6 (m1.late.length + 1) d6, st_recast (h6.set 0 rfl 1 (.slice a6 (m1.late.length + 1) d6)) ?_⟩
  simp only [DkL, List.length_append, List.length_singleton, List.flatMap_append, List.flatMap_cons, List.flatMap_nil, List.append_nil]
  rfl
def doneL (safe : List (List UInt8)) (late : List (Int × List UInt8)) : List (List UInt8) := late.foldl (fun s x => s.set x.1.toNat x.2) safe
theorem doneL_length (safe : List (List UInt8)) : ∀ late, (doneL safe late).length = safe.length := by
  intro late
  unfold doneL
  induction late generalizing safe with
  | nil => rfl
  | cons x l ih => rw [List.foldl_cons, ih]; simp
theorem doneL_snoc (safe : List (List UInt8)) (l : List (Int × List UInt8)) (x : Int × List UInt8) : doneL safe (l ++ [x]) = (doneL safe l).set x.1.toNat x.2 := by
  unfold doneL; rw [List.foldl_append]; rfl
def flushN (m : Dk) : Dk × Int :=
  if readyN m 0 ≠ 0 then (m, readyN m 0) else if (useN m).2 ≠ 0 then useN m else ({ (useN m).1 with safe := doneL m.safe m.late, late := [] }, 0)
theorem flush_ok (h : St W0 w F (DkL g vb vl m ++ L) I) (ok : m.ok) :
    Ret Try.prog 78 [.pointer (some ⟨g, 0, none⟩)] w fun u w' => u = .int .i64 (flushN m).2 ∧ ∃ vl', St W0 w' F (DkL g vb vl' (flushN m).1 ++ L) I := by
  refine ent78 _ _ _ ?_
  simp (disch := first | omega | exact okFill_t rfl | exact okSize_t rfl | exact fun h => h | (simp only [World.size_alloc, World.size_drew, World.size_setCell, size_fill, bytesW]; omega)) only [go_sem, c78, c78S0, c78S1, c78L0, c78S2, c78S3, c78S4, c78S5]
  refine Ret.mono (ready_ok 0 h ok) ?_
  rintro _ w2 ⟨rfl, e2⟩
  subst w2
  unfold flushN
  by_cases hr : readyN m 0 = 0
  case neg =>
    rw [if_pos hr]
    simp (disch := first | omega | exact okFill_t rfl | exact okSize_t rfl | exact fun h => h | (simp only [World.size_alloc, World.size_drew, World.size_setCell, size_fill, bytesW]; omega)) only [go_sem, c78, c78S0, c78S1, c78L0, c78S2, c78S3, c78S4, c78S5, hr]
    exact ⟨vl, h⟩
  rw [if_neg (by omega)]
  simp (disch := first | omega | exact okFill_t rfl | exact okSize_t rfl | exact fun h => h | (simp only [World.size_alloc, World.size_drew, World.size_setCell, size_fill, bytesW]; omega)) only [go_sem, c78, c78S0, c78S1, c78L0, c78S2, c78S3, c78S4, c78S5, hr]
  refine Ret.mono (use_ok h ok) ?_
  rintro _ w2 ⟨rfl, h2⟩
  have ok2 := useN_ok ok
  have hl := useN_late m
  by_cases hu : (useN m).2 = 0
  case neg =>
    rw [if_pos hu]
    simp (disch := first | omega | exact okFill_t rfl | exact okSize_t rfl | exact fun h => h | (simp only [World.size_alloc, World.size_drew, World.size_setCell, size_fill, bytesW]; omega)) only [go_sem, c78, c78S0, c78S1, c78L0, c78S2, c78S3, c78S4, c78S5, hu]
    exact ⟨vl, h2⟩
  rw [if_neg (by omega), ← hl.1, ← hl.2]
  generalize (useN m).1 = m1 at h2 ok2 ⊢
  obtain ⟨gb, cb, al, cl, rfl, rfl, hcl⟩ := dk_form h2 ok2
  have r1 := h2.rules 0 rfl
  simp (disch := first | omega | exact okFill_t rfl | exact okSize_t rfl | exact fun h => h | (simp only [World.size_alloc, World.size_drew, World.size_setCell, size_fill, bytesW]; omega)) only [go_sem, c78, c78S0, c78S1, c78S2, c78S3, c78S4, c78S5, hu, r1]
  refine W_loopU (fun k : Nat => [(19, .int .i64 k)]) (fun k w' => St W0 w' F (DkL g (.slice (some ⟨gb, 0, none⟩) m1.safe.length cb) (.slice al m1.late.length cl) { m1 with safe := doneL m1.safe (m1.late.take k) } ++ L) I ∧ k ≤ m1.late.length) (fun k => m1.late.length - k) 0 rfl ⟨h2, Nat.zero_le _⟩ ?_
  rintro k w4 ⟨h4, hk⟩
  have r4 := h4.rules 0 rfl
  have l4 := h4.low 0 rfl
  by_cases hlt : k < m1.late.length
  · have hlt' : (k : Int) < m1.late.length := by omega
    have hL : RdS w4 2 pendV (.slice al m1.late.length cl) m1.late := RdS.of_own' (h4.row 2 rfl) m1.late rfl rfl
    obtain ⟨p, rfl⟩ := hL.ptr (by omega)
    have eL := hL.at pendV_len hlt
    obtain ⟨x0, x1, x2⟩ := ok2.late _ (List.getElem_mem hlt)
    obtain ⟨i0, ei⟩ := Int.eq_ofNat_of_zero_le x0
    have x1' : (i0 : Int) < m1.safe.length := by omega
    simp (disch := first | omega | exact okFill_t rfl | exact okSize_t rfl | exact fun h => h | (simp only [World.size_alloc, World.size_drew, World.size_setCell, size_fill, bytesW]; omega)) only [go_sem, c78, c78S0, c78S1, c78L0, c78S2, c78S3, c78S4, c78S5, c78L0, hlt', eL, pendV, r4, ei]
    refine ⟨by omega, c78draw0 (Chg (fun _ => False) _) (Chg.refl _ _) ?_⟩
    have hlen : (doneL m1.safe (m1.late.take k)).length = m1.safe.length := doneL_length ..
    have h4' := st_recast h4 (L' := [.blk g #[.slice (some ⟨gb, 0, none⟩) m1.safe.length cb, .slice (some p) m1.late.length cl, .int .i64 m1.left, .bool m1.gone, .string (ofL zeroB)] 104, .row (.slice (some ⟨gb, 0, none⟩) m1.safe.length cb) 9 1 m1.safe.length ((doneL m1.safe (m1.late.take k)).flatMap strE), .row (.slice (some p) m1.late.length cl) 106 2 m1.late.length (m1.late.flatMap pendV)] ++ L) (by simp only [DkL, hlen])
    have h5 := (h4'.box #[.int .i64 i0, .string (ofL m1.late[k].2)] 106).drew
    generalize w4.heap.size = y at h5 ⊢
    generalize (w4.alloc (.cells #[.int .i64 i0, .string (ofL m1.late[k].2)] 106)).drew = w5 at h5 ⊢
    have r5 := h5.rules 0 rfl
    have l5 := h5.low 0 rfl
    have q5 := h5.rules 1 rfl
    have m5 := h5.low 1 rfl
    clear r4 l4
    have hS : RdS w5 1 strE (.slice (some ⟨gb, 0, none⟩) m1.safe.length cb) (doneL m1.safe (m1.late.take k)) := RdS.of_own' (h5.row 2 rfl) _ hlen.symm rfl
    simp (disch := first | omega | exact okFill_t rfl | exact okSize_t rfl | exact fun h => h | (simp only [World.size_alloc, World.size_drew, World.size_setCell, size_fill, bytesW]; omega)) only [go_sem, c78, c78S0, c78S1, c78L0, c78S2, c78S3, c78S4, c78S5, c78D0, r5, q5, x1']
    have eS := RdS.at1 (e1 := fun s => .string (ofL s)) hS (k := i0) (by rw [hlen]; omega)
    rw [Addr.add_lit, Nat.zero_add] at eS
    have hfz := (h5.row 2 rfl).frozenAt i0
    have h6 := (h5.put 2 rfl i0 (.string (ofL m1.late[k].2))).sub (List.sublist_cons_self _ _)
    have e1 : doneL m1.safe (m1.late.take (k + 1)) = (doneL m1.safe (m1.late.take k)).set i0 m1.late[k].2 := by
      rw [List.take_succ_eq_append_getElem hlt, doneL_snoc, ei]; rfl
    have hless := ok2.less
    refine ⟨by omega, ⟨_, eS⟩, hfz, ⟨by omega, by omega⟩, k + 1, rfl, ⟨st_recast h6 ?_, by omega⟩, by omega⟩
    simp only [DkL, e1, List.length_set, hlen]
    rw [← strE_set]
    rfl
  · have hlt' : ¬ (k : Int) < m1.late.length := by omega
    simp (disch := first | omega | exact okFill_t rfl | exact okSize_t rfl | exact fun h => h | (simp only [World.size_alloc, World.size_drew, World.size_setCell, size_fill, bytesW]; omega)) only [go_sem, c78, c78S0, c78S1, c78L0, c78S2, c78S3, c78S4, c78S5, c78L0, hlt', r4]
    refine ⟨.slice none 0 0, ?_⟩
    have h5 := h4.set 0 rfl 1 (.slice none 0 0)
    rw [List.take_of_length_le (by omega)] at h5
    have h6 := h5.sub (L' := [.blk g #[.slice (some ⟨gb, 0, none⟩) m1.safe.length cb, .slice none 0 0, .int .i64 m1.left, .bool m1.gone, .string (ofL zeroB)] 104, .row (.slice (some ⟨gb, 0, none⟩) m1.safe.length cb) 9 1 (doneL m1.safe m1.late).length ((doneL m1.safe m1.late).flatMap strE)] ++ L) (by
      refine List.Sublist.cons_cons _ (List.Sublist.cons_cons _ ?_)
      exact List.sublist_cons_self _ _)
    exact St.front (A := [.row (.slice none 0 0) 106 2 0 []]) (D := [.blk g #[.slice (some ⟨gb, 0, none⟩) m1.safe.length cb, .slice none 0 0, .int .i64 m1.left, .bool m1.gone, .string (ofL zeroB)] 104, .row (.slice (some ⟨gb, 0, none⟩) m1.safe.length cb) 9 1 (doneL m1.safe m1.late).length ((doneL m1.safe m1.late).flatMap strE)]) (L := L) (h6.nilRow 106 2)
end
end Go.Proofs.Ytmchjbgobiagiaa

namespace Go.Proofs.Ytmchjbgobiagiaa
set_option linter.unusedSimpArgs false
set_option linter.unusedVariables false
set_option maxRecDepth 100000
open Go Go.Ann Go.RowKit Go.WideShapes
theorem zeros_ok (w : World) :
    Ret Try.prog 64 [] w fun v w' => v = .string (ofL zeroB) ∧ Below w.heap.size w w' := by
  refine ent64 _ _ ?_
  simp only [go_sem, c64, loadK_int, loadK_bool, loadK_str, loadK_slice, loadK_ptr, loadK_map, loadK_agg, loadK_other, heldW]
  refine msW_one ty95mkI rfl (by omega) (by omega) (by omega) (by omega) ?_
  simp only [go_sem, c64, loadK_int, loadK_bool, loadK_str, loadK_slice, loadK_ptr, loadK_map, loadK_agg, loadK_other, heldW]
  exact ⟨zeroB, List.length_replicate, bytesAt_new w 256 _, rfl, (Below.refl _ _).alloc (Nat.le_refl _) _⟩
theorem filled_ok (l : List UInt8) (w : World) (h : l.length ≤ 256) :
    Ret Try.prog 19 [.string (ofL l)] w fun v w' => v = .string (ofL (filledL l)) ∧ Below w.heap.size w w' := by
  refine ent19 _ _ _ ?_
  simp only [go_sem, c19, loadK_int, loadK_bool, loadK_str, loadK_slice, loadK_ptr, loadK_map, loadK_agg, loadK_other, heldW]
  refine ⟨⟨by omega, by omega⟩, ?_⟩
  refine msW_one ty95mkI rfl (by omega) (by omega) (by omega) (by omega) ?_
  simp only [go_sem, c19, loadK_int, loadK_bool, loadK_str, loadK_slice, loadK_ptr, loadK_map, loadK_agg, loadK_other, heldW]
  have e : ((256 : Int) - (l.length : Int)).toNat = 256 - l.length := by omega
  rw [e]
  exact ⟨_, List.length_replicate, bytesAt_new w (256 - l.length) _, by rw [List.length_replicate]; omega, rfl, (Below.refl _ _).alloc (Nat.le_refl _) _⟩
def newDk (n : Nat) : Dk := { safe := List.replicate n zeroB, late := [], left := -1, gone := false }
theorem newDk_ok {n : Nat} (h0 : 0 < n) (h1 : n ≤ 2048) : (newDk n).ok :=
  ⟨fun s hs => by rw [List.eq_of_mem_replicate hs]; exact List.length_replicate, fun _ h => (by cases h), ⟨by simp [newDk], by simp [newDk]⟩, by simp [newDk]; omega, by simp [newDk]; omega, by simp [newDk]⟩
section
variable {W0 w : World} {F : Nat → Prop} {L : List Res} {I : List Inv}
theorem new_ok {n : Nat} (h : St W0 w F L I) (h0 : 0 < n) (h1 : n ≤ 2048) :
    Ret Try.prog 37 [.int .i64 n] w fun u w' => ∃ g vb vl, u = .tuple #[.pointer (some ⟨g, 0, none⟩), .int .i64 0] ∧ St W0 w' F (DkL g vb vl (newDk n) ++ L) I := by
  have h0' : ¬ (n : Int) < 1 := by omega
  have h1' : ¬ (2048 : Int) < n := by omega
  refine ent37 _ _ _ ?_
  simp (disch := first | omega | exact okFill_t rfl | exact okSize_t rfl | exact fun h => h | (simp only [World.size_alloc, World.size_drew, World.size_setCell, size_fill, bytesW]; omega)) only [go_sem, c37, c37S0, c37S1, c37S2, c37S3, c37S4, h0', h1']
  refine Ret.mono (zeros_ok w) ?_
  rintro _ w2 ⟨rfl, b2⟩
  have s2 := h.call b2
  simp (disch := first | omega | exact okFill_t rfl | exact okSize_t rfl | exact fun h => h | (simp only [World.size_alloc, World.size_drew, World.size_setCell, size_fill, bytesW]; omega)) only [go_sem, c37, c37S0, c37S1, c37S2, c37S3, c37S4]
  refine bdW_built (cells := #[.slice none 0 0, .slice none 0 0, .int .i64 (-1), .bool false, .string (ofL zeroB)]) (by kernel_rfl) ?_
  have s3 := (s2.box #[.slice none 0 0, .slice none 0 0, .int .i64 (-1), .bool false, .string (ofL zeroB)] 104)
  simp (disch := first | omega | exact okFill_t rfl | exact okSize_t rfl | exact fun h => h | (simp only [World.size_alloc, World.size_drew, World.size_setCell, size_fill, bytesW]; omega)) only [go_sem, c37, c37S0, c37S1, c37S2, c37S3, c37S4]
  generalize w2.heap.size = g at s3 ⊢
  generalize w2.alloc (.cells #[.slice none 0 0, .slice none 0 0, .int .i64 (-1), .bool false, .string (ofL zeroB)] 104) = w3 at s3 ⊢
  have s3 : St W0 w3 F (DkL g (.slice none 0 0) (.slice none 0 0) (newDk 0) ++ L) I :=
    St.front (A := [.row (.slice none 0 0) 9 1 0 [], .row (.slice none 0 0) 106 2 0 []]) (D := [.blk g #[.slice none 0 0, .slice none 0 0, .int .i64 (-1), .bool false, .string (ofL zeroB)] 104]) (L := L) ((s3.nilRow 106 2).nilRow 9 1)
  refine W_loopU (fun q : Nat × Value => [(15, .int .i64 q.1)]) (fun q w' => St W0 w' F (DkL g q.2 (.slice none 0 0) (newDk q.1) ++ L) I ∧ q.1 ≤ n) (fun q => n - q.1) (0, .slice none 0 0) rfl ⟨s3, Nat.zero_le _⟩ ?_
  clear s3 s2 b2
  rintro ⟨k, v⟩ w4 ⟨s4, hk⟩
  simp only at s4 hk
  by_cases hlt : k < n
  · have hlt' : (k : Int) < n := by omega
    simp (disch := first | omega | exact okFill_t rfl | exact okSize_t rfl | exact fun h => h | (simp only [World.size_alloc, World.size_drew, World.size_setCell, size_fill, bytesW]; omega)) only [go_sem, c37, c37S0, c37S1, c37L0, c37S2, c37S3, c37S4, c37L0, hlt']
    refine c37draw0 (Chg (fun _ => False) _) (Chg.refl _ _) ?_
    have s5 := s4.drew
    have r5 := s5.rules 0 rfl
    have l5 := s5.low 0 rfl
    obtain ⟨va, vc, rfl, _⟩ := own_slice (s5.row 1 rfl)
    generalize w4.drew = w5 at s5 r5 l5 ⊢
    simp (disch := first | omega | exact okFill_t rfl | exact okSize_t rfl | exact fun h => h | (simp only [World.size_alloc, World.size_drew, World.size_setCell, size_fill, bytesW]; omega)) only [go_sem, c37, c37S0, c37S1, c37L0, c37S2, c37S3, c37S4, c37D0, r5]
    have ones : ∀ u ∈ strE zeroB, u.oneCell' = true := by simpa using strE_ones [zeroB]
    refine bsW_ones ty36mkI rfl rfl (by decide) (by decide) ones ?_
    have hx : Rd (w5.alloc (.cells (strE zeroB).toArray 9)) 1 (.slice (some ⟨w5.heap.size, 0, none⟩) 1 1) 1 (strE zeroB) := rd_new (n := 1) (cs := (strE zeroB).toArray) rfl
    simp (disch := first | omega | exact okFill_t rfl | exact okSize_t rfl | exact fun h => h | (simp only [World.size_alloc, World.size_drew, World.size_setCell, size_fill, bytesW]; omega)) only [go_sem, c37, c37S0, c37S1, c37L0, c37S2, c37S3, c37S4]
    refine ⟨(Chg.refl _ _).alloc _, ?_⟩
    have hlk : (newDk k).safe.length = k := List.length_replicate
    refine (s5.alloc' (.cells (strE zeroB).toArray 9)).append 1 rfl ty36mkI rfl (by decide) hx ones (by omega) (by omega) ?_
    intro v6 w6 h6 c6
    obtain ⟨a6, d6, rfl, _⟩ := own_slice (h6.row 1 rfl)
    have r6 := h6.rules 0 rfl
    simp (disch := first | omega | exact okFill_t rfl | exact okSize_t rfl | exact fun h => h | (simp only [World.size_alloc, World.size_drew, World.size_setCell, size_fill, bytesW]; omega)) only [go_sem, c37, c37S0, c37S1, c37L0, c37S2, c37S3, c37S4, r6]
    refine ⟨⟨by omega, by omega⟩, (k + 1, .slice a6 ((newDk k).safe.length + 1) d6), rfl, ⟨st_recast (h6.set 0 rfl 0 (.slice a6 ((newDk k).safe.length + 1) d6)) ?_, by simp only; omega⟩, by simp only; omega⟩
    have e : (newDk (k + 1)).safe = (newDk k).safe ++ [zeroB] := List.replicate_succ'
    simp only [DkL, e, List.length_append, List.length_singleton, List.flatMap_append, List.flatMap_cons, List.flatMap_nil, List.append_nil]
    rfl
  · have hlt' : ¬ (k : Int) < n := by omega
    obtain rfl : k = n := by omega
    simp (disch := first | omega | exact okFill_t rfl | exact okSize_t rfl | exact fun h => h | (simp only [World.size_alloc, World.size_drew, World.size_setCell, size_fill, bytesW]; omega)) only [go_sem, c37, c37S0, c37S1, c37L0, c37S2, c37S3, c37S4, c37L0, hlt']
    exact ⟨g, v, _, rfl, s4⟩
theorem len_ok {g : Nat} {vb vl : Value} {m : Dk} (h : St W0 w F (DkL g vb vl m ++ L) I) (ok : m.ok) :
    Ret Try.prog 65 [.pointer (some ⟨g, 0, none⟩)] w fun u w' => u = .int .i64 m.safe.length ∧ w' = w := by
  obtain ⟨gb, cb, al, cl, rfl, rfl, _⟩ := dk_form h ok
  refine ent65 _ _ _ ?_
  have r1 := h.rules 0 rfl
  simp (disch := first | omega | exact okFill_t rfl | exact okSize_t rfl | exact fun h => h | (simp only [World.size_alloc, World.size_drew, World.size_setCell, size_fill, bytesW]; omega)) only [go_sem, c65, c65S0, r1]
end
end Go.Proofs.Ytmchjbgobiagiaa

namespace Go.Proofs.Ytmchjbgobiagiaa
set_option linter.unusedSimpArgs false
set_option linter.unusedVariables false
set_option maxRecDepth 100000
open Go Go.Ann Go.RowKit
def bitOf (c : Int) (k : Nat) : Bool := decide (c / 2 ^ k % 2 = 1)
def hasL (l : List UInt8) (i : Int) : Bool := decide (0 ≤ i) && decide (i < 8 * l.length) && bitOf (bN l (i / 8)) (i % 8).toNat
theorem and_one_u8 (x : Int) (h0 : 0 ≤ x) (h1 : x ≤ 255) : bits BinOp.and IntKind.u8 x 1 = x % 2 := by
  obtain ⟨n, rfl⟩ := Int.eq_ofNat_of_zero_le h0
  have : ∀ m : Fin 256, bits BinOp.and IntKind.u8 ((m.val : Nat) : Int) 1 = (m.val : Int) % 2 := by decide +kernel
  exact this ⟨n, by omega⟩
theorem div_pow_bd (c : Int) (k : Nat) (hc0 : 0 ≤ c) (hc : c ≤ 255) : 0 ≤ c / 2 ^ k ∧ c / 2 ^ k ≤ 255 := by
  have h1 : (0:Int) < 2 ^ k := Int.pow_pos (by decide)
  refine ⟨Int.ediv_nonneg hc0 (Int.le_of_lt h1), ?_⟩
  exact Int.le_trans (Int.ediv_le_self _ hc0) hc
theorem has_ok (l : List UInt8) (i : Int) (w : World) (hi : I64 i) :
    Ret Try.prog 47 [.string (ofL l), .int .i64 i] w fun v w' => v = .bool (hasL l i) ∧ w' = w := by
  refine ent47 _ _ _ _ ?_
  simp only [go_sem, c47, loadK_int, loadK_bool, loadK_str, loadK_slice, loadK_ptr, loadK_map, loadK_agg, loadK_other, heldW]
  refine ⟨fun h0 => ?_, fun h0 => ?_⟩
  · rw [Int.tdiv_eq_ediv_of_nonneg h0, Int.tmod_eq_emod_of_nonneg h0]
    refine ⟨hi, fun h1 => ⟨hi, ⟨by omega, h1⟩, ?_⟩, fun h1 => ?_⟩
    · have b := bN_bd l (i / 8)
      rw [wrap_u64_id _ (by omega) (by omega), show min (i % 8).toNat 8 = (i % 8).toNat by omega]
      have b' := div_pow_bd _ (i % 8).toNat b.1 b.2
      rw [and_one_u8 _ b'.1 b'.2]
      have e1 : decide (0 ≤ i) = true := by simpa using h0
      have e2 : decide (i < 8 * (l.length : Int)) = true := by simp; omega
      simp [hasL, e1, e2, bitOf]
    · have e2 : decide (i < 8 * (l.length : Int)) = false := by simp; omega
      simp [hasL, e2]
  · have e2 : decide (0 ≤ i) = false := by simp; omega
    simp [hasL, e2]
def setBit (c : Int) (k : Nat) (b : Bool) : Int := if b then (if bitOf c k then c else c + 2 ^ k) else (if bitOf c k then c - 2 ^ k else c)
theorem setBit_or (c : Int) (k : Nat) (h0 : 0 ≤ c) (h1 : c ≤ 255) (hk : k < 8) : bits .or .u8 c (IntKind.u8.wrap (1 * 2 ^ k)) = setBit c k true := by
  obtain ⟨n, rfl⟩ := Int.eq_ofNat_of_zero_le h0
  have : ∀ (m : Fin 256) (k : Fin 8), bits .or .u8 ((m.val : Nat) : Int) (IntKind.u8.wrap (1 * 2 ^ k.val)) = setBit (m.val : Int) k.val true := by decide +kernel
  exact this ⟨n, by omega⟩ ⟨k, hk⟩
theorem setBit_andNot (c : Int) (k : Nat) (h0 : 0 ≤ c) (h1 : c ≤ 255) (hk : k < 8) : bits .andNot .u8 c (IntKind.u8.wrap (1 * 2 ^ k)) = setBit c k false := by
  obtain ⟨n, rfl⟩ := Int.eq_ofNat_of_zero_le h0
  have : ∀ (m : Fin 256) (k : Fin 8), bits .andNot .u8 ((m.val : Nat) : Int) (IntKind.u8.wrap (1 * 2 ^ k.val)) = setBit (m.val : Int) k.val false := by decide +kernel
  exact this ⟨n, by omega⟩ ⟨k, hk⟩
theorem setBit_bd (c : Int) (k : Nat) (b : Bool) (h0 : 0 ≤ c) (h1 : c ≤ 255) (hk : k < 8) : 0 ≤ setBit c k b ∧ setBit c k b ≤ 255 := by
  obtain ⟨n, rfl⟩ := Int.eq_ofNat_of_zero_le h0
  have : ∀ (m : Fin 256) (k : Fin 8) (b : Bool), 0 ≤ setBit (m.val : Int) k.val b ∧ setBit (m.val : Int) k.val b ≤ 255 := by decide +kernel
  exact this ⟨n, by omega⟩ ⟨k, hk⟩ b
def withL (l : List UInt8) (i : Int) (b : Bool) : List UInt8 :=
  if 0 ≤ i ∧ i < 8 * l.length then l.set (i / 8).toNat (UInt8.ofNat (setBit (bN l (i / 8)) (i % 8).toNat b).toNat) else l
def fitsL (l : List UInt8) (i : Int) : Bool := decide (0 ≤ i ∧ i < 8 * l.length)
theorem with_ok (l : List UInt8) (i : Int) (b : Bool) (w : World) (hi : I64 i) :
    Ret Try.prog 42 [.string (ofL l), .int .i64 i, .bool b] w fun v w' => v = .tuple #[.string (ofL (withL l i b)), .bool (fitsL l i)] ∧ Below w.heap.size w w' := by
  refine ent42 _ _ _ _ _ ?_
  simp only [go_sem, c42, c42S0, c42S1, loadK_int, loadK_bool, loadK_str, loadK_slice, loadK_ptr, loadK_map, loadK_agg, loadK_other, heldW]
  refine ⟨fun h0 => ?_, fun h0 => ?_⟩
  · rw [Int.tdiv_eq_ediv_of_nonneg h0, Int.tmod_eq_emod_of_nonneg h0]
    refine ⟨hi, fun h1 => ?_, fun h1 c hc => ?_⟩
    · have h2 : ¬ (0 ≤ i ∧ i < 8 * (l.length : Int)) := by omega
      rw [withL, fitsL, if_neg h2, decide_eq_false h2]
      exact ⟨rfl, Below.refl _ _⟩
    · have h2 : (0 ≤ i ∧ i < 8 * (l.length : Int)) := by omega
      have h3 : 0 ≤ i / 8 := by omega
      have hlt : (i / 8).toNat < l.length := by omega
      have hg := List.getElem?_eq_getElem hlt
      have hcell := cell_bytesW w l c 5 _ _ hg
      have hfr := frozen_bytesW w l c 5 (i / 8).toNat (by omega)
      have hbn : bN l (i / 8) = (l[(i / 8).toNat].toNat : Int) := by
        rw [← bN_get l _ _ hg, Int.toNat_of_nonneg h3]
      have bd := bN_bd l (i / 8)
      have e5 : min (i % 8).toNat 8 = (i % 8).toNat := by omega
      rw [hcell, hfr, wrap_u64_id _ (show 0 ≤ i % 8 by omega) (by omega), e5, ← hbn]
      have hat := bytesAt_bytesW w l c 5
      have key : ∀ bb, bytesAt ((bytesW w l c 5).setCell ⟨w.heap.size, (i / 8).toNat, none⟩ (.int .u8 (setBit (bN l (i / 8)) (i % 8).toNat bb))) (some ⟨w.heap.size, 0, none⟩) (withL l i bb) := by
        intro bb
        have bd2 := setBit_bd (bN l (i / 8)) (i % 8).toNat bb bd.1 bd.2 (by omega)
        have := bytesAt_set hat bd2.1 bd2.2 hlt
        rw [Nat.zero_add] at this
        rw [withL, if_pos h2]
        exact this
      have hlen : ∀ bb, (withL l i bb).length = l.length := fun bb => by rw [withL, if_pos h2, List.length_set]
      refine ⟨fun hb => ?_, fun hb => ?_⟩ <;> subst hb
      · refine ⟨hi, ⟨h3, h1⟩, _, rfl, ⟨h3, h1⟩, ⟨_, rfl⟩, rfl, withL l i true, hlen true, ?_, ?_, (below_bytesW _ _ _ _).setCell (Nat.le_refl _) _⟩
        · rw [setBit_or _ _ bd.1 bd.2 (by omega)]; exact key true
        · rw [fitsL, decide_eq_true h2]
      · refine ⟨hi, ⟨h3, h1⟩, _, rfl, ⟨h3, h1⟩, ⟨_, rfl⟩, rfl, withL l i false, hlen false, ?_, ?_, (below_bytesW _ _ _ _).setCell (Nat.le_refl _) _⟩
        · rw [setBit_andNot _ _ bd.1 bd.2 (by omega)]; exact key false
        · rw [fitsL, decide_eq_true h2]
  · have h2 : ¬ (0 ≤ i ∧ i < 8 * (l.length : Int)) := by omega
    rw [withL, fitsL, if_neg h2, decide_eq_false h2]
    exact ⟨rfl, Below.refl _ _⟩
def emptyL (n : Int) : List UInt8 := List.replicate ((n + 7) / 8).toNat 0
theorem bytesAt_zeros (w : World) (n : Nat) (e : Nat) : bytesAt (w.alloc (.cells (zerosA (.int .u8 0) n) e)) (some ⟨w.heap.size, 0, none⟩) (List.replicate n 0) := by
  intro i b h
  simp only [Addr.add_lit, Nat.zero_add]
  obtain ⟨hi, hb⟩ := List.getElem?_eq_some_iff.1 h
  simp only [List.length_replicate] at hi
  simp only [List.getElem_replicate] at hb
  subst hb
  rw [World.cell?_alloc_at _ _ _ _ rfl]
  simp [zerosA, hi]
theorem empty_ok (n : Int) (w : World) (hi : I64 n) (hn : n ≤ 100000000) :
    Ret Try.prog 41 [.int .i64 n] w fun v w' => v = .string (ofL (emptyL n)) ∧ Below w.heap.size w w' := by
  have hk : max 0 (n.tdiv 8 + min 1 (max 0 (n.tmod 8))) = max 0 ((n + 7) / 8) := by
    rcases Int.le_total 0 n with h | h
    · rw [Int.tdiv_eq_ediv_of_nonneg h, Int.tmod_eq_emod_of_nonneg h]; omega
    · have h1 : n.tdiv 8 ≤ 0 := by
        have h2 : n.tdiv 8 = -((-n) / 8) := by
          rw [← Int.tdiv_eq_ediv_of_nonneg (by omega), Int.neg_tdiv, Int.neg_neg]
        omega
      have h2 : n.tmod 8 ≤ 0 := by
        have h2 : n.tmod 8 = -((-n) % 8) := by
          rw [← Int.tmod_eq_emod_of_nonneg (by omega), Int.neg_tmod, Int.neg_neg]
        omega
      omega
  have hd : I64 (n.tdiv 8) := tdiv_i64 n 8 (by decide) (by decide) hi
  refine ent41 _ _ _ ?_
  simp only [go_sem, c41, c41S0, loadK_int, loadK_bool, loadK_str, loadK_slice, loadK_ptr, loadK_map, loadK_agg, loadK_other, heldW]
  refine ⟨hi, ?_, ?_⟩
  · obtain ⟨h1, h2⟩ := hd
    have h3 : n.tdiv 8 ≤ 100000000 := by
      rcases Int.le_total 0 n with h | h
      · rw [Int.tdiv_eq_ediv_of_nonneg h]; omega
      · have h2 : n.tdiv 8 = -((-n) / 8) := by
          rw [← Int.tdiv_eq_ediv_of_nonneg (by omega), Int.neg_tdiv, Int.neg_neg]
        omega
    exact ⟨by omega, by omega⟩
  · rw [hk]
    refine msW_one ty95mkI rfl (by omega) (by omega) (by omega) (by omega) ?_
    simp only [go_sem, c41, c41S0, loadK_int, loadK_bool, loadK_str, loadK_slice, loadK_ptr, loadK_map, loadK_agg, loadK_other, heldW]
    have hb := bytesAt_zeros w (max 0 ((n + 7) / 8)).toNat 5
    have e : List.replicate (max 0 ((n + 7) / 8)).toNat (0 : UInt8) = emptyL n := by unfold emptyL; congr 1; omega
    rw [e] at hb
    exact ⟨emptyL n, by unfold emptyL; rw [List.length_replicate]; omega, hb, rfl, (Below.refl _ _).alloc (Nat.le_refl _) _⟩
def IsLow (l : List UInt8) (a b v : Int) (ok : Bool) : Prop :=
  (ok = true ∧ a ≤ v ∧ 0 ≤ v ∧ v < b ∧ v < 8 * l.length ∧ hasL l v = false ∧ ∀ j, a ≤ j → 0 ≤ j → j < v → hasL l j = true) ∨
  (ok = false ∧ v = 0 ∧ ∀ j, a ≤ j → 0 ≤ j → j < b → j < 8 * l.length → hasL l j = true)
theorem hasL_255 (l : List UInt8) (i : Int) (h0 : 0 ≤ i) (h1 : i < 8 * l.length) (hb : bN l (i / 8) = 255) : hasL l i = true := by
  have e1 : decide (0 ≤ i) = true := by simpa using h0
  have e2 : decide (i < 8 * (l.length : Int)) = true := by simpa using h1
  have : ∀ k : Fin 8, bitOf 255 k.val = true := by decide
  have := this ⟨(i % 8).toNat, by omega⟩
  simp [hasL, e1, e2, hb, this]
theorem lowest_ok (l : List UInt8) (a b : Int) (w : World) (ha : I64 a) (hb : I64 b) (hl : (l.length : Int) ≤ 140737488355328) :
    Ret Try.prog 45 [.string (ofL l), .int .i64 a, .int .i64 b] w fun v w' => ∃ n ok, v = .tuple #[.int .i64 n, .bool ok] ∧ IsLow l a b n ok ∧ w' = w := by
  obtain ⟨b1, b2⟩ := hb
  obtain ⟨a1, a2⟩ := ha
  refine ent45 _ _ _ _ _ ?_
  simp only [go_sem, c45, c45S0, c45S1, c45S2, c45S3, c45L0, c45S4, c45S5, loadK_int, loadK_bool, loadK_str, loadK_slice, loadK_ptr, loadK_map, loadK_agg, loadK_other, heldW]
  refine W_loop (fun i : Int => [(0, .string (ofL l)), (2, .int .i64 b), (8, .int .i64 i)]) (fun i w' => max 0 a ≤ i ∧ i ≤ 9223372036854775807 ∧ (∀ j, a ≤ j → 0 ≤ j → j < i → j < b → j < 8 * l.length → hasL l j = true) ∧ w' = w)
    (fun i => (9223372036854775807 - i).toNat) (max 0 a) (by rfl) ⟨by omega, by omega, fun j h1 h2 h3 => by omega, rfl⟩ ?_
  rintro i w' ⟨hi0, hi1, hall, rfl⟩
  have hii : I64 i := ⟨by omega, by omega⟩
  have i0 : 0 ≤ i := by omega
  have none : (i < b → (l.length : Int) ≤ i / 8) → ∃ n ok, Value.tuple #[.int .i64 0, .bool false] = .tuple #[.int .i64 n, .bool ok] ∧ IsLow l a b n ok := by
    intro h
    refine ⟨0, false, rfl, .inr ⟨rfl, rfl, fun j h1 h2 h3 h4 => ?_⟩⟩
    rcases Int.lt_or_le j i with h5 | h5
    · exact hall j h1 h2 h5 h3 h4
    · have := h (by omega); omega
  have next : ∀ d : Int, 1 ≤ d → d ≤ 8 → i < b → i / 8 < l.length → (∀ j, i ≤ j → j < i + d → j < 8 * l.length → hasL l j = true) →
      ∃ s', [(0, Value.string (ofL l)), (2, Value.int .i64 b), (8, Value.int .i64 (i + d))] = [(0, Value.string (ofL l)), (2, Value.int .i64 b), (8, Value.int .i64 s')] ∧
        (max 0 a ≤ s' ∧ s' ≤ 9223372036854775807 ∧ (∀ j, a ≤ j → 0 ≤ j → j < s' → j < b → j < 8 * l.length → hasL l j = true)) ∧ (9223372036854775807 - s').toNat < (9223372036854775807 - i).toNat := by
    intro d d1 d8 h1 h2 h3
    refine ⟨i + d, rfl, ⟨by omega, by omega, fun j g1 g2 g3 g4 g5 => ?_⟩, by omega⟩
    rcases Int.lt_or_le j i with h5 | h5
    · exact hall j g1 g2 h5 g4 g5
    · exact h3 j h5 g3 g5
  have done : i < b → i / 8 < l.length → hasL l i = false → ∃ n ok, Value.tuple #[.int .i64 i, .bool true] = .tuple #[.int .i64 n, .bool ok] ∧ IsLow l a b n ok := by
    intro h1 h2 h3
    exact ⟨i, true, rfl, .inl ⟨rfl, by omega, i0, h1, by omega, h3, fun j g1 g2 g3 => hall j g1 g2 g3 (by omega) (by omega)⟩⟩
  simp only [go_sem, c45, c45S0, c45S1, c45S2, c45S3, c45L0, c45S4, c45S5, c45L0, loadK_int, loadK_bool, loadK_str, loadK_slice, loadK_ptr, loadK_map, loadK_agg, loadK_other, heldW]
  rw [Int.tdiv_eq_ediv_of_nonneg i0, Int.tmod_eq_emod_of_nonneg i0]
  refine ⟨fun h1 => ⟨hii, fun h2 => ⟨fun h3 => ⟨hii, ⟨by omega, h2⟩, fun h4 => ⟨⟨by omega, by omega⟩, ⟨by omega, by omega⟩, ?_⟩, fun h4 => ?_⟩, fun h3 => ?_⟩, fun h2 => ?_⟩, fun h1 => ?_⟩
  · have := next 8 (by omega) (by omega) h1 h2 (fun j g1 g2 g3 => hasL_255 l j (by omega) g3 (by rw [show j / 8 = i / 8 by omega]; exact h4))
    rw [show i + 7 + 1 = i + 8 by omega]
    exact this
  · refine (has_ok l i _ hii).mono ?_
    rintro _ _ ⟨rfl, rfl⟩
    simp only [go_sem, c45, c45S0, c45S1, c45S2, c45S3, c45L0, c45S4, c45S5, loadK_int, loadK_bool, loadK_str, loadK_slice, loadK_ptr, loadK_map, loadK_agg, loadK_other, heldW]
    refine ⟨fun h5 => done h1 h2 h5, fun h5 => ⟨⟨by omega, by omega⟩, next 1 (by omega) (by omega) h1 h2 (fun j g1 g2 g3 => by rw [show j = i by omega]; exact h5)⟩⟩
  · refine (has_ok l i _ hii).mono ?_
    rintro _ _ ⟨rfl, rfl⟩
    simp only [go_sem, c45, c45S0, c45S1, c45S2, c45S3, c45L0, c45S4, c45S5, loadK_int, loadK_bool, loadK_str, loadK_slice, loadK_ptr, loadK_map, loadK_agg, loadK_other, heldW]
    refine ⟨fun h5 => done h1 h2 h5, fun h5 => ⟨⟨by omega, by omega⟩, next 1 (by omega) (by omega) h1 h2 (fun j g1 g2 g3 => by rw [show j = i by omega]; exact h5)⟩⟩
  · exact none (fun _ => h2)
  · exact none (fun h => by omega)
def popN (c : Int) : Nat := ((List.range 8).filter (bitOf c)).length
def countL (l : List UInt8) : Nat := (l.map fun b => popN b.toNat).sum
theorem popN_le (c : Int) : popN c ≤ 8 := by
  unfold popN
  exact Nat.le_trans (List.length_filter_le _ _) (by simp)
theorem countL_le : ∀ l : List UInt8, countL l ≤ 8 * l.length
  | [] => by simp [countL]
  | b :: l => by
    have := countL_le l
    have h := popN_le b.toNat
    simp only [countL, List.map_cons, List.sum_cons, List.length_cons] at *
    omega
theorem countL_take (l : List UInt8) (k : Nat) (h : k < l.length) : countL (l.take (k + 1)) = countL (l.take k) + popN (bN l k) := by
  rw [List.take_succ_eq_append_getElem h]
  have : bN l k = (l[k].toNat : Int) := bN_get l k _ (List.getElem?_eq_getElem h)
  rw [this]
  unfold countL
  rw [List.map_append, List.sum_append]
  simp
theorem ones_ok (c : Int) (w : World) (h0 : 0 ≤ c) (h1 : c ≤ 255) :
    Ret Try.prog 70 [.int .u8 c] w fun v w' => v = .int .i64 (popN c) ∧ w' = w := by
  refine ent70 _ _ _ ?_
  simp only [go_sem, c70, loadK_int, loadK_bool, loadK_str, loadK_slice, loadK_ptr, loadK_map, loadK_agg, loadK_other, heldW]
  have len : str256x1466348926.length = 256 := by decide +kernel
  have all : ∀ m : Fin 256, bN str256x1466348926 (m.val : Int) = (popN (m.val : Int) : Int) := by decide +kernel
  have e : bN str256x1466348926 c = popN c := by
    have := all ⟨c.toNat, by omega⟩
    rwa [show ((c.toNat : Nat) : Int) = c by omega] at this
  have := popN_le c
  refine ⟨⟨h0, by omega⟩, ?_, ?_⟩
  · rw [e]; constructor <;> omega
  · rw [e]
theorem count_ok (l : List UInt8) (w : World) (hl : (l.length : Int) ≤ 140737488355328) :
    Ret Try.prog 46 [.string (ofL l)] w fun v w' => v = .int .i64 (countL l) ∧ w' = w := by
  refine ent46 _ _ _ ?_
  simp only [go_sem, c46, c46S0, c46S1, c46L0, c46S2, loadK_int, loadK_bool, loadK_str, loadK_slice, loadK_ptr, loadK_map, loadK_agg, loadK_other, heldW]
  refine W_loop (fun k : Nat => [(0, Value.string (ofL l)), (3, .int .i64 (countL (l.take k))), (6, .int .i64 l.length), (7, .int .i64 (k : Int))])
    (fun k w' => k ≤ l.length ∧ w' = w) (fun k => l.length - k) 0 (by rfl) ⟨Nat.zero_le _, rfl⟩ ?_
  rintro k w' ⟨hk, rfl⟩
  simp only [go_sem, c46, c46S0, c46S1, c46L0, c46S2, c46L0, loadK_int, loadK_bool, loadK_str, loadK_slice, loadK_ptr, loadK_map, loadK_agg, loadK_other, heldW]
  refine ⟨fun h => ⟨⟨by omega, h⟩, ?_⟩, fun h => ?_⟩
  · have bd := bN_bd l k
    have h' : k < l.length := by omega
    have ct := countL_take l k h'
    have c1 := countL_le (l.take (k + 1))
    have c2 := countL_le (l.take k)
    have l1 : (l.take (k + 1)).length = k + 1 := by rw [List.length_take]; omega
    have l2 : (l.take k).length = k := by rw [List.length_take]; omega
    rw [l1] at c1
    rw [l2] at c2
    refine (ones_ok _ _ bd.1 bd.2).mono ?_
    rintro _ w3 ⟨rfl, rfl⟩
    simp only [go_sem, c46, c46S0, c46S1, c46L0, c46S2, loadK_int, loadK_bool, loadK_str, loadK_slice, loadK_ptr, loadK_map, loadK_agg, loadK_other, heldW]
    refine ⟨by constructor <;> omega, by constructor <;> omega, k + 1, ?_, by omega, by omega⟩
    rw [ct]; simp
  · rw [List.take_of_length_le (by omega)]
theorem set_bits : ∀ (c : Fin 256) (k j : Fin 8) (b : Bool), bitOf ((UInt8.ofNat (setBit (c.val : Int) k.val b).toNat).toNat : Int) j.val = if j = k then b else bitOf c.val j.val := by decide +kernel
theorem bN_set (l : List UInt8) (j : Int) (u : UInt8) (h0 : 0 ≤ j) (h : j < l.length) (k : Int) (hk : 0 ≤ k) : bN (l.set j.toNat u) k = if k = j then (u.toNat : Int) else bN l k := by
  by_cases e : k = j
  · subst e
    rw [if_pos rfl]
    have := bN_get (l.set k.toNat u) k.toNat u (by rw [List.getElem?_set_self (by omega)])
    rwa [show ((k.toNat : Nat) : Int) = k by omega] at this
  · rw [if_neg e]
    unfold bN
    rw [List.getD_eq_getElem?_getD, List.getD_eq_getElem?_getD, List.getElem?_set_ne (by omega)]
theorem hasL_in (l : List UInt8) (i : Int) (h : 0 ≤ i ∧ i < 8 * l.length) : hasL l i = bitOf (bN l (i / 8)) (i % 8).toNat := by
  simp [hasL, h.1, h.2]
theorem withL_length (l : List UInt8) (i : Int) (b : Bool) : (withL l i b).length = l.length := by
  unfold withL; split <;> simp
theorem withL_has (l : List UInt8) (i : Int) (b : Bool) (h : fitsL l i = true) (k : Int) : hasL (withL l i b) k = if k = i then b else hasL l k := by
  have h' := of_decide_eq_true h
  by_cases hk : 0 ≤ k ∧ k < 8 * l.length
  · rw [hasL_in _ k (by rw [withL_length]; exact hk), hasL_in l k hk]
    unfold withL
    rw [if_pos h', bN_set _ _ _ (by omega) (by omega) _ (by omega)]
    have bd := bN_bd l (i / 8)
    by_cases e : k / 8 = i / 8
    · rw [if_pos e]
      have := set_bits ⟨(bN l (i / 8)).toNat, by omega⟩ ⟨(i % 8).toNat, by omega⟩ ⟨(k % 8).toNat, by omega⟩ b
      rw [show ((bN l (i / 8)).toNat : Int) = bN l (i / 8) by omega] at this
      rw [this, e]
      by_cases e2 : k = i
      · subst e2; simp
      · rw [if_neg e2, if_neg (by intro h; have := congrArg Fin.val h; simp only at this; omega)]
    · rw [if_neg e, if_neg (by rintro rfl; exact e rfl)]
  · have hn : ∀ m : List UInt8, m.length = l.length → hasL m k = false := by
      intro m hm
      unfold hasL
      rw [hm]
      rw [← Bool.decide_and, decide_eq_false hk]; rfl
    rw [hn l rfl, hn _ (withL_length l i b), if_neg (by rintro rfl; exact hk h')]
end Go.Proofs.Ytmchjbgobiagiaa
