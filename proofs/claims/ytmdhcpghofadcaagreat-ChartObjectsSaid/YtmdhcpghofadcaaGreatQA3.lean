/- Texts put together by program. -/
import Derived.Test.YtmdhcpghofadcaaGreatQA2
namespace Go.Proofs.YtmdhcpghofadcaaGreat
open Go Go.Ann
@[go_sem] theorem ty3tyK : tyK Tryz.prog 3 = .int .i64 := by kernel_rfl
@[go_sem] theorem ty3sizeT : sizeT Tryz.prog 3 = some 1 := by kernel_rfl
@[go_sem] theorem ty3zeroT : zeroT Tryz.prog 3 = some (.int .i64 0) := by kernel_rfl
@[go_sem] theorem ty3conc : Program.concrete Tryz.prog 3 = true := by kernel_rfl
@[go_sem] theorem ty4tyK : tyK Tryz.prog 4 = .bool := by kernel_rfl
@[go_sem] theorem ty4isBoolT : isBoolT Tryz.prog 4 = true := by kernel_rfl
@[go_sem] theorem ty4sizeT : sizeT Tryz.prog 4 = some 1 := by kernel_rfl
@[go_sem] theorem ty4zeroT : zeroT Tryz.prog 4 = some (.bool false) := by kernel_rfl
@[go_sem] theorem ty4conc : Program.concrete Tryz.prog 4 = true := by kernel_rfl
@[go_sem] theorem ty5tyK : tyK Tryz.prog 5 = .int .u8 := by kernel_rfl
@[go_sem] theorem ty5sizeT : sizeT Tryz.prog 5 = some 1 := by kernel_rfl
@[go_sem] theorem ty5zeroT : zeroT Tryz.prog 5 = some (.int .u8 0) := by kernel_rfl
@[go_sem] theorem ty5conc : Program.concrete Tryz.prog 5 = true := by kernel_rfl
@[go_sem] theorem ty9tyK : tyK Tryz.prog 9 = .str := by kernel_rfl
@[go_sem] theorem ty9isStrT : isStrT Tryz.prog 9 = true := by kernel_rfl
@[go_sem] theorem ty9sizeT : sizeT Tryz.prog 9 = some 1 := by kernel_rfl
@[go_sem] theorem ty9zeroT : zeroT Tryz.prog 9 = some (.string (ofL [])) := by kernel_rfl
@[go_sem] theorem ty9conc : Program.concrete Tryz.prog 9 = true := by kernel_rfl
@[go_sem] theorem ty22tyK : tyK Tryz.prog 22 = .slice false 56 := by kernel_rfl
@[go_sem] theorem ty22isSliceT : isSliceT Tryz.prog 22 = true := by kernel_rfl
@[go_sem] theorem ty22sliI : sliI Tryz.prog 22 = some 11 := by kernel_rfl
@[go_sem] theorem ty22mkI : mkI Tryz.prog 22 = some (56, 11, 88, (.agg #[(.int .i64 0), (.int .i64 0), (.int .i64 0), (.int .i64 0), (.int .i64 0), (.int .i64 0), (.int .i64 0), (.bool false), (.int .i64 0), (.int .i64 0), (.int .i64 0)])) := by kernel_rfl
@[go_sem] theorem ty22sizeT : sizeT Tryz.prog 22 = some 1 := by kernel_rfl
@[go_sem] theorem ty22zeroT : zeroT Tryz.prog 22 = some (.slice none 0 0) := by kernel_rfl
@[go_sem] theorem ty22conc : Program.concrete Tryz.prog 22 = true := by kernel_rfl
@[go_sem] theorem ty25tyK : tyK Tryz.prog 25 = .int .i64 := by kernel_rfl
@[go_sem] theorem ty25sizeT : sizeT Tryz.prog 25 = some 1 := by kernel_rfl
@[go_sem] theorem ty25zeroT : zeroT Tryz.prog 25 = some (.int .i64 0) := by kernel_rfl
@[go_sem] theorem ty25conc : Program.concrete Tryz.prog 25 = true := by kernel_rfl
@[go_sem] theorem ty31tyK : tyK Tryz.prog 31 = .slice false 3 := by kernel_rfl
@[go_sem] theorem ty31isSliceT : isSliceT Tryz.prog 31 = true := by kernel_rfl
@[go_sem] theorem ty31sliI : sliI Tryz.prog 31 = some 1 := by kernel_rfl
@[go_sem] theorem ty31mkI : mkI Tryz.prog 31 = some (3, 1, 8, (.int .i64 0)) := by kernel_rfl
@[go_sem] theorem ty31sizeT : sizeT Tryz.prog 31 = some 1 := by kernel_rfl
@[go_sem] theorem ty31zeroT : zeroT Tryz.prog 31 = some (.slice none 0 0) := by kernel_rfl
@[go_sem] theorem ty31conc : Program.concrete Tryz.prog 31 = true := by kernel_rfl
@[go_sem] theorem ty36tyK : tyK Tryz.prog 36 = .slice false 22 := by kernel_rfl
@[go_sem] theorem ty36isSliceT : isSliceT Tryz.prog 36 = true := by kernel_rfl
@[go_sem] theorem ty36sliI : sliI Tryz.prog 36 = some 1 := by kernel_rfl
@[go_sem] theorem ty36mkI : mkI Tryz.prog 36 = some (22, 1, 24, (.slice none 0 0)) := by kernel_rfl
@[go_sem] theorem ty36sizeT : sizeT Tryz.prog 36 = some 1 := by kernel_rfl
@[go_sem] theorem ty36zeroT : zeroT Tryz.prog 36 = some (.slice none 0 0) := by kernel_rfl
@[go_sem] theorem ty36conc : Program.concrete Tryz.prog 36 = true := by kernel_rfl
@[go_sem] theorem ty39tyK : tyK Tryz.prog 39 = .agg 2 := by kernel_rfl
@[go_sem] theorem ty39sizeT : sizeT Tryz.prog 39 = some 2 := by kernel_rfl
@[go_sem] theorem ty39zeroT : zeroT Tryz.prog 39 = some (.agg #[(.slice none 0 0), (.bool false)]) := by kernel_rfl
@[go_sem] theorem ty39conc : Program.concrete Tryz.prog 39 = true := by kernel_rfl
@[go_sem] theorem ty39plc : plcT Tryz.prog 39 = some [(0, 1), (1, 1)] := by kernel_rfl
@[go_sem] theorem ty39fld0 : fldI Tryz.prog 39 0 = some (0, 1, false) := by kernel_rfl
@[go_sem] theorem ty39fld1 : fldI Tryz.prog 39 1 = some (1, 1, false) := by kernel_rfl
@[go_sem] theorem ty43tyK : tyK Tryz.prog 43 = .slice false 51 := by kernel_rfl
@[go_sem] theorem ty43isSliceT : isSliceT Tryz.prog 43 = true := by kernel_rfl
@[go_sem] theorem ty43sliI : sliI Tryz.prog 43 = some 3 := by kernel_rfl
@[go_sem] theorem ty43mkI : mkI Tryz.prog 43 = some (51, 3, 40, (.agg #[(.int .i64 0), (.int .i64 0), (.slice none 0 0)])) := by kernel_rfl
@[go_sem] theorem ty43sizeT : sizeT Tryz.prog 43 = some 1 := by kernel_rfl
@[go_sem] theorem ty43zeroT : zeroT Tryz.prog 43 = some (.slice none 0 0) := by kernel_rfl
@[go_sem] theorem ty43conc : Program.concrete Tryz.prog 43 = true := by kernel_rfl
@[go_sem] theorem ty45tyK : tyK Tryz.prog 45 = .slice false 31 := by kernel_rfl
@[go_sem] theorem ty45isSliceT : isSliceT Tryz.prog 45 = true := by kernel_rfl
@[go_sem] theorem ty45sliI : sliI Tryz.prog 45 = some 1 := by kernel_rfl
@[go_sem] theorem ty45mkI : mkI Tryz.prog 45 = some (31, 1, 24, (.slice none 0 0)) := by kernel_rfl
@[go_sem] theorem ty45sizeT : sizeT Tryz.prog 45 = some 1 := by kernel_rfl
@[go_sem] theorem ty45zeroT : zeroT Tryz.prog 45 = some (.slice none 0 0) := by kernel_rfl
@[go_sem] theorem ty45conc : Program.concrete Tryz.prog 45 = true := by kernel_rfl
@[go_sem] theorem ty47tyK : tyK Tryz.prog 47 = .agg 3 := by kernel_rfl
@[go_sem] theorem ty47sizeT : sizeT Tryz.prog 47 = some 3 := by kernel_rfl
@[go_sem] theorem ty47zeroT : zeroT Tryz.prog 47 = some (.agg #[(.slice none 0 0), (.slice none 0 0), (.int .i64 0)]) := by kernel_rfl
@[go_sem] theorem ty47conc : Program.concrete Tryz.prog 47 = true := by kernel_rfl
@[go_sem] theorem ty47plc : plcT Tryz.prog 47 = some [(0, 1), (1, 1), (2, 1)] := by kernel_rfl
@[go_sem] theorem ty47fld0 : fldI Tryz.prog 47 0 = some (0, 1, false) := by kernel_rfl
@[go_sem] theorem ty47fld1 : fldI Tryz.prog 47 1 = some (1, 1, false) := by kernel_rfl
@[go_sem] theorem ty47fld2 : fldI Tryz.prog 47 2 = some (2, 1, false) := by kernel_rfl
@[go_sem] theorem ty51tyK : tyK Tryz.prog 51 = .agg 3 := by kernel_rfl
@[go_sem] theorem ty51sizeT : sizeT Tryz.prog 51 = some 3 := by kernel_rfl
@[go_sem] theorem ty51zeroT : zeroT Tryz.prog 51 = some (.agg #[(.int .i64 0), (.int .i64 0), (.slice none 0 0)]) := by kernel_rfl
@[go_sem] theorem ty51conc : Program.concrete Tryz.prog 51 = true := by kernel_rfl
@[go_sem] theorem ty51plc : plcT Tryz.prog 51 = some [(0, 1), (1, 1), (2, 1)] := by kernel_rfl
@[go_sem] theorem ty51fld0 : fldI Tryz.prog 51 0 = some (0, 1, false) := by kernel_rfl
@[go_sem] theorem ty51fld1 : fldI Tryz.prog 51 1 = some (1, 1, false) := by kernel_rfl
@[go_sem] theorem ty51fld2 : fldI Tryz.prog 51 2 = some (2, 1, false) := by kernel_rfl
@[go_sem] theorem ty56tyK : tyK Tryz.prog 56 = .agg 11 := by kernel_rfl
@[go_sem] theorem ty56sizeT : sizeT Tryz.prog 56 = some 11 := by kernel_rfl
@[go_sem] theorem ty56zeroT : zeroT Tryz.prog 56 = some (.agg #[(.int .i64 0), (.int .i64 0), (.int .i64 0), (.int .i64 0), (.int .i64 0), (.int .i64 0), (.int .i64 0), (.bool false), (.int .i64 0), (.int .i64 0), (.int .i64 0)]) := by kernel_rfl
@[go_sem] theorem ty56conc : Program.concrete Tryz.prog 56 = true := by kernel_rfl
@[go_sem] theorem ty56plc : plcT Tryz.prog 56 = some [(0, 1), (1, 1), (2, 1), (3, 1), (4, 1), (5, 1), (6, 1), (7, 1), (8, 1), (9, 1), (10, 1)] := by kernel_rfl
@[go_sem] theorem ty56flat : flatT Tryz.prog 56 = some [.int, .int, .int, .int, .int, .int, .int, .bool, .int, .int, .int] := by kernel_rfl
@[go_sem] theorem ty56fld0 : fldI Tryz.prog 56 0 = some (0, 1, false) := by kernel_rfl
@[go_sem] theorem ty56fld1 : fldI Tryz.prog 56 1 = some (1, 1, false) := by kernel_rfl
@[go_sem] theorem ty56fld2 : fldI Tryz.prog 56 2 = some (2, 1, false) := by kernel_rfl
@[go_sem] theorem ty56fld3 : fldI Tryz.prog 56 3 = some (3, 1, false) := by kernel_rfl
@[go_sem] theorem ty56fld4 : fldI Tryz.prog 56 4 = some (4, 1, false) := by kernel_rfl
@[go_sem] theorem ty56fld5 : fldI Tryz.prog 56 5 = some (5, 1, false) := by kernel_rfl
@[go_sem] theorem ty56fld6 : fldI Tryz.prog 56 6 = some (6, 1, false) := by kernel_rfl
@[go_sem] theorem ty56fld7 : fldI Tryz.prog 56 7 = some (7, 1, false) := by kernel_rfl
@[go_sem] theorem ty56fld8 : fldI Tryz.prog 56 8 = some (8, 1, false) := by kernel_rfl
@[go_sem] theorem ty56fld9 : fldI Tryz.prog 56 9 = some (9, 1, false) := by kernel_rfl
@[go_sem] theorem ty56fld10 : fldI Tryz.prog 56 10 = some (10, 1, false) := by kernel_rfl
@[go_sem] theorem ty58tyK : tyK Tryz.prog 58 = .agg 3 := by kernel_rfl
@[go_sem] theorem ty58sizeT : sizeT Tryz.prog 58 = some 3 := by kernel_rfl
@[go_sem] theorem ty58zeroT : zeroT Tryz.prog 58 = some (.agg #[(.int .i64 0), (.int .i64 0), (.int .i64 0)]) := by kernel_rfl
@[go_sem] theorem ty58conc : Program.concrete Tryz.prog 58 = true := by kernel_rfl
@[go_sem] theorem ty58plc : plcT Tryz.prog 58 = some [(0, 1), (1, 1), (2, 1)] := by kernel_rfl
@[go_sem] theorem ty58flat : flatT Tryz.prog 58 = some [.int, .int, .int] := by kernel_rfl
@[go_sem] theorem ty58fld0 : fldI Tryz.prog 58 0 = some (0, 1, false) := by kernel_rfl
@[go_sem] theorem ty58fld1 : fldI Tryz.prog 58 1 = some (1, 1, false) := by kernel_rfl
@[go_sem] theorem ty58fld2 : fldI Tryz.prog 58 2 = some (2, 1, false) := by kernel_rfl
@[go_sem] theorem ty61tyK : tyK Tryz.prog 61 = .slice true 5 := by kernel_rfl
@[go_sem] theorem ty61isSliceT : isSliceT Tryz.prog 61 = true := by kernel_rfl
@[go_sem] theorem ty61sliI : sliI Tryz.prog 61 = some 1 := by kernel_rfl
@[go_sem] theorem ty61mkI : mkI Tryz.prog 61 = some (5, 1, 1, (.int .u8 0)) := by kernel_rfl
@[go_sem] theorem ty61sizeT : sizeT Tryz.prog 61 = some 1 := by kernel_rfl
@[go_sem] theorem ty61zeroT : zeroT Tryz.prog 61 = some (.slice none 0 0) := by kernel_rfl
@[go_sem] theorem ty61conc : Program.concrete Tryz.prog 61 = true := by kernel_rfl
@[go_sem] theorem ty63tyK : tyK Tryz.prog 63 = .agg 2 := by kernel_rfl
@[go_sem] theorem ty63sizeT : sizeT Tryz.prog 63 = some 2 := by kernel_rfl
@[go_sem] theorem ty63zeroT : zeroT Tryz.prog 63 = some (.agg #[(.pointer none), (.slice none 0 0)]) := by kernel_rfl
@[go_sem] theorem ty63conc : Program.concrete Tryz.prog 63 = true := by kernel_rfl
@[go_sem] theorem ty63plc : plcT Tryz.prog 63 = some [(0, 1), (1, 1)] := by kernel_rfl
@[go_sem] theorem ty63fld0 : fldI Tryz.prog 63 0 = some (0, 1, false) := by kernel_rfl
@[go_sem] theorem ty63fld1 : fldI Tryz.prog 63 1 = some (1, 1, false) := by kernel_rfl
@[go_sem] theorem ty75tyK : tyK Tryz.prog 75 = .agg 3 := by kernel_rfl
@[go_sem] theorem ty75sizeT : sizeT Tryz.prog 75 = some 3 := by kernel_rfl
@[go_sem] theorem ty75zeroT : zeroT Tryz.prog 75 = some (.agg #[(.int .i64 0), (.int .i64 0), (.int .i64 0)]) := by kernel_rfl
@[go_sem] theorem ty75conc : Program.concrete Tryz.prog 75 = true := by kernel_rfl
@[go_sem] theorem ty75plc : plcT Tryz.prog 75 = some [(0, 1), (1, 1), (2, 1)] := by kernel_rfl
@[go_sem] theorem ty75flat : flatT Tryz.prog 75 = some [.int, .int, .int] := by kernel_rfl
@[go_sem] theorem ty75fld0 : fldI Tryz.prog 75 0 = some (0, 1, false) := by kernel_rfl
@[go_sem] theorem ty75fld1 : fldI Tryz.prog 75 1 = some (1, 1, false) := by kernel_rfl
@[go_sem] theorem ty75fld2 : fldI Tryz.prog 75 2 = some (2, 1, false) := by kernel_rfl
@[go_sem] theorem ty117tyK : tyK Tryz.prog 117 = .map := by kernel_rfl
@[go_sem] theorem ty117isMapT : isMapT Tryz.prog 117 = true := by kernel_rfl
@[go_sem] theorem ty117sizeT : sizeT Tryz.prog 117 = some 1 := by kernel_rfl
@[go_sem] theorem ty117zeroT : zeroT Tryz.prog 117 = some (.map none) := by kernel_rfl
@[go_sem] theorem ty117conc : Program.concrete Tryz.prog 117 = true := by kernel_rfl
@[go_sem] theorem ty129tyK : tyK Tryz.prog 129 = .int .u64 := by kernel_rfl
@[go_sem] theorem ty129sizeT : sizeT Tryz.prog 129 = some 1 := by kernel_rfl
@[go_sem] theorem ty129zeroT : zeroT Tryz.prog 129 = some (.int .u64 0) := by kernel_rfl
@[go_sem] theorem ty129conc : Program.concrete Tryz.prog 129 = true := by kernel_rfl
@[go_sem] theorem ty134tyK : tyK Tryz.prog 134 = .ptr := by kernel_rfl
@[go_sem] theorem ty134isPtrT : isPtrT Tryz.prog 134 = true := by kernel_rfl
@[go_sem] theorem ty134sizeT : sizeT Tryz.prog 134 = some 1 := by kernel_rfl
@[go_sem] theorem ty134zeroT : zeroT Tryz.prog 134 = some (.pointer none) := by kernel_rfl
@[go_sem] theorem ty134conc : Program.concrete Tryz.prog 134 = true := by kernel_rfl
@[go_sem] theorem ty153tyK : tyK Tryz.prog 153 = .agg 4 := by kernel_rfl
@[go_sem] theorem ty153sizeT : sizeT Tryz.prog 153 = some 4 := by kernel_rfl
@[go_sem] theorem ty153zeroT : zeroT Tryz.prog 153 = some (.agg #[(.int .i64 0), (.int .i64 0), (.int .i64 0), (.int .i64 0)]) := by kernel_rfl
@[go_sem] theorem ty153conc : Program.concrete Tryz.prog 153 = true := by kernel_rfl
@[go_sem] theorem ty153plc : plcT Tryz.prog 153 = some [(0, 1), (1, 1), (2, 1), (3, 1)] := by kernel_rfl
@[go_sem] theorem ty153flat : flatT Tryz.prog 153 = some [.int, .int, .int, .int] := by kernel_rfl
@[go_sem] theorem ty153fld0 : fldI Tryz.prog 153 0 = some (0, 1, false) := by kernel_rfl
@[go_sem] theorem ty153fld1 : fldI Tryz.prog 153 1 = some (1, 1, false) := by kernel_rfl
@[go_sem] theorem ty153fld2 : fldI Tryz.prog 153 2 = some (2, 1, false) := by kernel_rfl
@[go_sem] theorem ty153fld3 : fldI Tryz.prog 153 3 = some (3, 1, false) := by kernel_rfl
@[go_sem] theorem ty169tyK : tyK Tryz.prog 169 = .int .u64 := by kernel_rfl
@[go_sem] theorem ty169sizeT : sizeT Tryz.prog 169 = some 1 := by kernel_rfl
@[go_sem] theorem ty169zeroT : zeroT Tryz.prog 169 = some (.int .u64 0) := by kernel_rfl
@[go_sem] theorem ty169conc : Program.concrete Tryz.prog 169 = true := by kernel_rfl
@[go_sem] theorem ty187tyK : tyK Tryz.prog 187 = .slice false 153 := by kernel_rfl
@[go_sem] theorem ty187isSliceT : isSliceT Tryz.prog 187 = true := by kernel_rfl
@[go_sem] theorem ty187sliI : sliI Tryz.prog 187 = some 4 := by kernel_rfl
@[go_sem] theorem ty187mkI : mkI Tryz.prog 187 = some (153, 4, 32, (.agg #[(.int .i64 0), (.int .i64 0), (.int .i64 0), (.int .i64 0)])) := by kernel_rfl
@[go_sem] theorem ty187sizeT : sizeT Tryz.prog 187 = some 1 := by kernel_rfl
@[go_sem] theorem ty187zeroT : zeroT Tryz.prog 187 = some (.slice none 0 0) := by kernel_rfl
@[go_sem] theorem ty187conc : Program.concrete Tryz.prog 187 = true := by kernel_rfl
@[go_sem] theorem ty197tyK : tyK Tryz.prog 197 = .int .i64 := by kernel_rfl
@[go_sem] theorem ty197sizeT : sizeT Tryz.prog 197 = some 1 := by kernel_rfl
@[go_sem] theorem ty197zeroT : zeroT Tryz.prog 197 = some (.int .i64 0) := by kernel_rfl
@[go_sem] theorem ty197conc : Program.concrete Tryz.prog 197 = true := by kernel_rfl
@[go_sem] theorem ty229tyK : tyK Tryz.prog 229 = .slice false 9 := by kernel_rfl
@[go_sem] theorem ty229isSliceT : isSliceT Tryz.prog 229 = true := by kernel_rfl
@[go_sem] theorem ty229sliI : sliI Tryz.prog 229 = some 1 := by kernel_rfl
@[go_sem] theorem ty229mkI : mkI Tryz.prog 229 = some (9, 1, 16, (.string (ofL []))) := by kernel_rfl
@[go_sem] theorem ty229sizeT : sizeT Tryz.prog 229 = some 1 := by kernel_rfl
@[go_sem] theorem ty229zeroT : zeroT Tryz.prog 229 = some (.slice none 0 0) := by kernel_rfl
@[go_sem] theorem ty229conc : Program.concrete Tryz.prog 229 = true := by kernel_rfl
noncomputable def c3code : Code := match Tryz.f3.body with | some c => c | none => .skip
noncomputable def c3S0 (_ : Unit) : Cmd := .ret
noncomputable def c3S1 (_ : Unit) : Cmd := (.cond (.tmp 11)
  (.seq (.ops [
  ⟨some 12, .call ⟨.value (.func 11), #[], #[]⟩, 4, none⟩,
  ⟨some 4, .assign (.tmp 12), 4, none⟩] [4]) (sg c3S0))
  (.skip [0, 1]))
noncomputable def c3S2 (_ : Unit) : Cmd := .ret
noncomputable def c3S3 (_ : Unit) : Cmd := (.seq (.ops [
 ⟨some 25, .move (.tmp 5), 9, none⟩,
 ⟨some 26, .move (.tmp 7), 9, none⟩,
 ⟨some 27, .binOp .eql 9 (.tmp 25) (.tmp 26) 9, 4, none⟩,
 ⟨some 28, .move (.tmp 27), 4, none⟩,
 ⟨some 29, .move (.tmp 6), 25, (some (28, true))⟩,
 ⟨some 30, .move (.tmp 8), 3, (some (28, true))⟩,
 ⟨some 31, .binOp .eql 3 (.tmp 29) (.tmp 30) 3, 4, (some (28, true))⟩,
 ⟨some 32, .pick (.tmp 28) (.tmp 31) (.const (.bool false)), 4, none⟩,
 ⟨some 33, .move (.tmp 32), 4, none⟩,
 ⟨some 34, .call ⟨.value (.func 11), #[], #[]⟩, 4, (some (33, true))⟩,
 ⟨some 35, .pick (.tmp 33) (.tmp 34) (.const (.bool false)), 4, none⟩,
 ⟨some 4, .assign (.tmp 35), 4, none⟩] [4]) (sg c3S2))
noncomputable def c3S4 (_ : Unit) : Cmd := (.seq (.ops [
 ⟨some 20, .move (.tmp 0), 22, none⟩,
 ⟨some 21, .move (.tmp 1), 3, none⟩,
 ⟨some 22, .call ⟨.value (.func 13), #[(.tmp 20), (.tmp 21)], #[22, 3]⟩, 28, none⟩,
 ⟨some 19, .move (.tmp 22), 28, none⟩,
 ⟨some 23, .extract (.tmp 19) 0, 9, none⟩,
 ⟨some 24, .extract (.tmp 19) 1, 3, none⟩,
 ⟨some 7, .assign (.tmp 23), 9, none⟩,
 ⟨some 8, .assign (.tmp 24), 3, none⟩] [5, 6, 7, 8]) (sg c3S3))
noncomputable def c3S5 (_ : Unit) : Cmd := (.seq (.ops [
 ⟨some 14, .move (.tmp 0), 22, none⟩,
 ⟨some 15, .move (.tmp 1), 3, none⟩,
 ⟨some 16, .call ⟨.value (.func 12), #[(.tmp 14), (.tmp 15)], #[22, 3]⟩, 26, none⟩,
 ⟨some 13, .move (.tmp 16), 26, none⟩,
 ⟨some 17, .extract (.tmp 13) 0, 9, none⟩,
 ⟨some 18, .extract (.tmp 13) 1, 25, none⟩,
 ⟨some 5, .assign (.tmp 17), 9, none⟩,
 ⟨some 6, .assign (.tmp 18), 25, none⟩] [0, 1, 5, 6]) (sg c3S4))
noncomputable def c3 : Cmd := (.seq (.ops [
 ⟨some 4, .assign (.const (.bool false)), 4, none⟩] [0, 1])
 (.seq (.seq (.ops [
 ⟨some 9, .move (.tmp 0), 22, none⟩,
 ⟨some 10, .call ⟨.value (.func 10), #[(.tmp 9)], #[22]⟩, 4, none⟩,
 ⟨some 11, .unOp .not 4 (.tmp 10), 4, none⟩] [0, 1, 11]) (sg c3S1)) (sg c3S5)))
set_option maxRecDepth 100000 in
theorem ent3 (a0 a1 : Value) (w : World) (K : Value → World → Prop) (h : W Tryz.prog c3 [(0, a0), (1, a1)] w (finQ Tryz.prog [.tmp 4] K)) : Ret Tryz.prog 3 [a0, a1] w K :=
  Ret_of_W (code := c3code) Tryz.func3 (by kernel_rfl) (by kernel_rfl) (of_decide_eq_true (by kernel_rfl)) h
@[go_sem] theorem go3 : goFunc Tryz.prog 3 = true := by kernel_rfl
noncomputable def c4S0 (_ : Unit) : Cmd := .ret
noncomputable def c4S1 (_ : Unit) : Cmd := (.cond (.tmp 24)
  (.seq (.ops [
  ⟨some 25, .call ⟨.value (.func 15), #[], #[]⟩, 4, none⟩,
  ⟨some 4, .assign (.tmp 25), 4, none⟩] [4]) (sg c4S0))
  (.skip [0, 1]))
noncomputable def c4S2 (_ : Unit) : Cmd := .ret
noncomputable def c4S3 (_ : Unit) : Cmd := .ret
noncomputable def c4S4 (_ : Unit) : Cmd := (.cond (.tmp 57)
  (.seq (.ops [
  ⟨some 58, .move (.tmp 5), 31, none⟩,
  ⟨some 59, .call ⟨.builtin .len, #[(.tmp 58)], #[31]⟩, 3, none⟩,
  ⟨some 60, .binOp .eql 3 (.tmp 59) (.const (.int .i64 0)) 3, 4, none⟩,
  ⟨some 61, .move (.tmp 60), 4, none⟩,
  ⟨some 62, .move (.tmp 6), 4, (some (61, true))⟩,
  ⟨some 63, .unOp .not 4 (.tmp 62), 4, (some (61, true))⟩,
  ⟨some 64, .pick (.tmp 61) (.tmp 63) (.const (.bool false)), 4, none⟩,
  ⟨some 65, .move (.tmp 64), 4, none⟩,
  ⟨some 66, .move (.tmp 7), 3, (some (65, true))⟩,
  ⟨some 67, .binOp .eql 3 (.tmp 66) (.const (.int .i64 0)) 3, 4, (some (65, true))⟩,
  ⟨some 68, .pick (.tmp 65) (.tmp 67) (.const (.bool false)), 4, none⟩,
  ⟨some 69, .move (.tmp 68), 4, none⟩,
  ⟨some 70, .move (.tmp 8), 25, (some (69, true))⟩,
  ⟨some 71, .move (.tmp 0), 22, (some (69, true))⟩,
  ⟨some 72, .call ⟨.value (.func 17), #[(.tmp 71)], #[22]⟩, 3, (some (69, true))⟩,
  ⟨some 73, .binOp .eql 3 (.tmp 70) (.tmp 72) 3, 4, (some (69, true))⟩,
  ⟨some 74, .pick (.tmp 69) (.tmp 73) (.const (.bool false)), 4, none⟩,
  ⟨some 75, .move (.tmp 74), 4, none⟩,
  ⟨some 76, .call ⟨.value (.func 15), #[], #[]⟩, 4, (some (75, true))⟩,
  ⟨some 77, .pick (.tmp 75) (.tmp 76) (.const (.bool false)), 4, none⟩,
  ⟨some 4, .assign (.tmp 77), 4, none⟩] [4]) (sg c4S3))
  (.skip [0, 1, 5, 6, 7, 8]))
noncomputable def c4S5 (_ : Unit) : Cmd := .ret
noncomputable def c4S6 (_ : Unit) : Cmd := (.cond (.tmp 87)
  (.seq (.ops [
  ⟨some 88, .move (.tmp 5), 31, none⟩,
  ⟨some 89, .call ⟨.builtin .len, #[(.tmp 88)], #[31]⟩, 3, none⟩,
  ⟨some 90, .binOp .eql 3 (.tmp 89) (.const (.int .i64 0)) 3, 4, none⟩,
  ⟨some 91, .move (.tmp 90), 4, none⟩,
  ⟨some 92, .move (.tmp 6), 4, (some (91, true))⟩,
  ⟨some 93, .unOp .not 4 (.tmp 92), 4, (some (91, true))⟩,
  ⟨some 94, .pick (.tmp 91) (.tmp 93) (.const (.bool false)), 4, none⟩,
  ⟨some 95, .move (.tmp 94), 4, none⟩,
  ⟨some 96, .move (.tmp 7), 3, (some (95, true))⟩,
  ⟨some 97, .binOp .eql 3 (.tmp 96) (.const (.int .i64 0)) 3, 4, (some (95, true))⟩,
  ⟨some 98, .pick (.tmp 95) (.tmp 97) (.const (.bool false)), 4, none⟩,
  ⟨some 99, .move (.tmp 98), 4, none⟩,
  ⟨some 100, .move (.tmp 8), 25, (some (99, true))⟩,
  ⟨some 101, .binOp .eql 25 (.tmp 100) (.const (.int .i64 35)) 25, 4, (some (99, true))⟩,
  ⟨some 102, .pick (.tmp 99) (.tmp 101) (.const (.bool false)), 4, none⟩,
  ⟨some 103, .move (.tmp 102), 4, none⟩,
  ⟨some 104, .call ⟨.value (.func 15), #[], #[]⟩, 4, (some (103, true))⟩,
  ⟨some 105, .pick (.tmp 103) (.tmp 104) (.const (.bool false)), 4, none⟩,
  ⟨some 4, .assign (.tmp 105), 4, none⟩] [4]) (sg c4S5))
  (.skip [0, 5, 6, 7, 8, 9]))
noncomputable def c4S7 (_ : Unit) : Cmd := .ret
noncomputable def c4S8 (_ : Unit) : Cmd := (.seq (.ops [
 ⟨some 114, .move (.tmp 8), 25, none⟩,
 ⟨some 115, .binOp .eql 25 (.tmp 114) (.const (.int .i64 0)) 25, 4, none⟩,
 ⟨some 116, .move (.tmp 115), 4, none⟩,
 ⟨some 117, .move (.tmp 7), 3, (some (116, true))⟩,
 ⟨some 118, .move (.tmp 0), 22, (some (116, true))⟩,
 ⟨some 119, .move (.tmp 9), 3, (some (116, true))⟩,
 ⟨some 120, .call ⟨.value (.func 18), #[(.tmp 118), (.tmp 119)], #[22, 3]⟩, 3, (some (116, true))⟩,
 ⟨some 121, .binOp .eql 3 (.tmp 117) (.tmp 120) 3, 4, (some (116, true))⟩,
 ⟨some 122, .pick (.tmp 116) (.tmp 121) (.const (.bool false)), 4, none⟩,
 ⟨some 123, .move (.tmp 122), 4, none⟩,
 ⟨some 124, .move (.tmp 6), 4, (some (123, true))⟩,
 ⟨some 125, .fieldAddr 39 (.tmp 11) 1, 0, (some (123, true))⟩,
 ⟨some 126, .load 4 (.tmp 125), 4, (some (123, true))⟩,
 ⟨some 127, .binOp .eql 4 (.tmp 124) (.tmp 126) 4, 4, (some (123, true))⟩,
 ⟨some 128, .pick (.tmp 123) (.tmp 127) (.const (.bool false)), 4, none⟩,
 ⟨some 129, .move (.tmp 128), 4, none⟩,
 ⟨some 130, .move (.tmp 5), 31, (some (129, true))⟩,
 ⟨some 131, .fieldAddr 39 (.tmp 11) 0, 0, (some (129, true))⟩,
 ⟨some 132, .load 31 (.tmp 131), 31, (some (129, true))⟩,
 ⟨some 133, .call ⟨.value (.func 21), #[(.tmp 130), (.tmp 132)], #[31, 31]⟩, 4, (some (129, true))⟩,
 ⟨some 134, .pick (.tmp 129) (.tmp 133) (.const (.bool false)), 4, none⟩,
 ⟨some 135, .move (.tmp 134), 4, none⟩,
 ⟨some 136, .call ⟨.value (.func 15), #[], #[]⟩, 4, (some (135, true))⟩,
 ⟨some 137, .pick (.tmp 135) (.tmp 136) (.const (.bool false)), 4, none⟩,
 ⟨some 4, .assign (.tmp 137), 4, none⟩] [4]) (sg c4S7))
noncomputable def c4S9 (_ : Unit) : Cmd := (.seq (.ops [
 ⟨some 108, .move (.tmp 10), 36, none⟩,
 ⟨some 109, .move (.tmp 10), 36, none⟩,
 ⟨some 110, .call ⟨.builtin .len, #[(.tmp 109)], #[36]⟩, 3, none⟩,
 ⟨some 111, .makeSlice 31 (.tmp 110) (.tmp 110), 31, none⟩,
 ⟨some 112, .build 39 #[], 39, none⟩,
 ⟨some 113, .call ⟨.value (.func 20), #[(.tmp 108), (.tmp 111), (.const (.slice none 0 0)), (.const (.slice none 0 0)), (.tmp 112)], #[36, 31, 94, 31, 39]⟩, 39, none⟩,
 ⟨some 11, .alloc 39, 0, none⟩,
 ⟨none, .store 39 (.tmp 11) (.tmp 113), 0, none⟩] [0, 5, 6, 7, 8, 9, 11]) (sg c4S8))
noncomputable def c4S10 (_ : Unit) : Cmd := (.seq (.ops [
 ⟨some 106, .move (.tmp 0), 22, none⟩,
 ⟨some 107, .call ⟨.value (.func 19), #[(.tmp 106)], #[22]⟩, 36, none⟩,
 ⟨some 10, .assign (.tmp 107), 36, none⟩] [0, 5, 6, 7, 8, 9, 10]) (sg c4S9))
noncomputable def c4S11 (_ : Unit) : Cmd := (.seq (.seq (.ops [
 ⟨some 83, .move (.tmp 0), 22, none⟩,
 ⟨some 84, .move (.tmp 9), 3, none⟩,
 ⟨some 85, .call ⟨.value (.func 18), #[(.tmp 83), (.tmp 84)], #[22, 3]⟩, 3, none⟩,
 ⟨some 86, .move (.tmp 1), 3, none⟩,
 ⟨some 87, .binOp .gtr 3 (.tmp 85) (.tmp 86) 3, 4, none⟩] [0, 5, 6, 7, 8, 9, 87]) (sg c4S6)) (sg c4S10))
noncomputable def c4S12 (_ : Unit) : Cmd := (.seq (.seq (.ops [
 ⟨some 81, .move (.tmp 9), 3, none⟩,
 ⟨some 82, .binOp .lss 3 (.tmp 81) (.const (.int .i64 0)) 3, 4, none⟩] [0, 1, 5, 6, 7, 8, 9, 82])
 (.cond (.tmp 82)
  (.ops [
  ⟨some 9, .assign (.const (.int .i64 0)), 3, none⟩] [0, 1, 5, 6, 7, 8, 9])
  (.skip [0, 1, 5, 6, 7, 8, 9]))) (sg c4S11))
noncomputable def c4S13 (_ : Unit) : Cmd := (.seq (.ops [
 ⟨some 78, .move (.tmp 1), 3, none⟩,
 ⟨some 9, .assign (.tmp 78), 3, none⟩] [0, 1, 5, 6, 7, 8, 9])
 (.seq (.seq (.ops [
 ⟨some 79, .move (.tmp 9), 3, none⟩,
 ⟨some 80, .binOp .gtr 3 (.tmp 79) (.const (.int .i64 32768)) 3, 4, none⟩] [0, 1, 5, 6, 7, 8, 9, 80])
 (.cond (.tmp 80)
  (.ops [
  ⟨some 9, .assign (.const (.int .i64 32768)), 3, none⟩] [0, 1, 5, 6, 7, 8, 9])
  (.skip [0, 1, 5, 6, 7, 8, 9]))) (sg c4S12)))
noncomputable def c4S14 (_ : Unit) : Cmd := (.seq (.seq (.ops [
 ⟨some 55, .move (.tmp 0), 22, none⟩,
 ⟨some 56, .call ⟨.value (.func 17), #[(.tmp 55)], #[22]⟩, 3, none⟩,
 ⟨some 57, .binOp .neq 3 (.tmp 56) (.const (.int .i64 0)) 3, 4, none⟩] [0, 1, 5, 6, 7, 8, 57]) (sg c4S4)) (sg c4S13))
noncomputable def c4S15 (_ : Unit) : Cmd := (.seq (.seq (.ops [
 ⟨some 34, .move (.tmp 0), 22, none⟩,
 ⟨some 35, .call ⟨.builtin .len, #[(.tmp 34)], #[22]⟩, 3, none⟩,
 ⟨some 36, .binOp .gtr 3 (.tmp 35) (.const (.int .i64 64)) 3, 4, none⟩] [0, 1, 5, 6, 7, 8, 36])
 (.cond (.tmp 36)
  (.seq (.ops [
  ⟨some 37, .move (.tmp 5), 31, none⟩,
  ⟨some 38, .call ⟨.builtin .len, #[(.tmp 37)], #[31]⟩, 3, none⟩,
  ⟨some 39, .binOp .eql 3 (.tmp 38) (.const (.int .i64 0)) 3, 4, none⟩,
  ⟨some 40, .move (.tmp 39), 4, none⟩,
  ⟨some 41, .move (.tmp 6), 4, (some (40, true))⟩,
  ⟨some 42, .unOp .not 4 (.tmp 41), 4, (some (40, true))⟩,
  ⟨some 43, .pick (.tmp 40) (.tmp 42) (.const (.bool false)), 4, none⟩,
  ⟨some 44, .move (.tmp 43), 4, none⟩,
  ⟨some 45, .move (.tmp 7), 3, (some (44, true))⟩,
  ⟨some 46, .binOp .eql 3 (.tmp 45) (.const (.int .i64 0)) 3, 4, (some (44, true))⟩,
  ⟨some 47, .pick (.tmp 44) (.tmp 46) (.const (.bool false)), 4, none⟩,
  ⟨some 48, .move (.tmp 47), 4, none⟩,
  ⟨some 49, .move (.tmp 8), 25, (some (48, true))⟩,
  ⟨some 50, .binOp .eql 25 (.tmp 49) (.const (.int .i64 34)) 25, 4, (some (48, true))⟩,
  ⟨some 51, .pick (.tmp 48) (.tmp 50) (.const (.bool false)), 4, none⟩,
  ⟨some 52, .move (.tmp 51), 4, none⟩,
  ⟨some 53, .call ⟨.value (.func 15), #[], #[]⟩, 4, (some (52, true))⟩,
  ⟨some 54, .pick (.tmp 52) (.tmp 53) (.const (.bool false)), 4, none⟩,
  ⟨some 4, .assign (.tmp 54), 4, none⟩] [4]) (sg c4S2))
  (.skip [0, 1, 5, 6, 7, 8]))) (sg c4S14))
noncomputable def c4S16 (_ : Unit) : Cmd := (.seq (.ops [
 ⟨some 27, .move (.tmp 0), 22, none⟩,
 ⟨some 28, .move (.tmp 1), 3, none⟩,
 ⟨some 29, .call ⟨.value (.func 16), #[(.tmp 27), (.tmp 28)], #[22, 3]⟩, 32, none⟩,
 ⟨some 26, .move (.tmp 29), 32, none⟩,
 ⟨some 30, .extract (.tmp 26) 0, 31, none⟩,
 ⟨some 31, .extract (.tmp 26) 1, 4, none⟩,
 ⟨some 32, .extract (.tmp 26) 2, 3, none⟩,
 ⟨some 33, .extract (.tmp 26) 3, 25, none⟩,
 ⟨some 5, .assign (.tmp 30), 31, none⟩,
 ⟨some 6, .assign (.tmp 31), 4, none⟩,
 ⟨some 7, .assign (.tmp 32), 3, none⟩,
 ⟨some 8, .assign (.tmp 33), 25, none⟩] [0, 1, 5, 6, 7, 8]) (sg c4S15))
noncomputable def c4 : Cmd := (.seq (.ops [
 ⟨some 4, .assign (.const (.bool false)), 4, none⟩] [0, 1])
 (.seq (.seq (.ops [
 ⟨some 12, .move (.tmp 0), 22, none⟩,
 ⟨some 13, .call ⟨.builtin .len, #[(.tmp 12)], #[22]⟩, 3, none⟩,
 ⟨some 14, .binOp .gtr 3 (.tmp 13) (.const (.int .i64 6)) 3, 4, none⟩,
 ⟨some 15, .move (.tmp 14), 4, none⟩,
 ⟨some 16, .move (.tmp 0), 22, (some (15, true))⟩,
 ⟨some 17, .call ⟨.builtin .len, #[(.tmp 16)], #[22]⟩, 3, (some (15, true))⟩,
 ⟨some 18, .binOp .leq 3 (.tmp 17) (.const (.int .i64 64)) 3, 4, (some (15, true))⟩,
 ⟨some 19, .pick (.tmp 15) (.tmp 18) (.const (.bool false)), 4, none⟩,
 ⟨some 20, .move (.tmp 19), 4, none⟩,
 ⟨some 21, .move (.tmp 0), 22, (some (20, false))⟩,
 ⟨some 22, .call ⟨.value (.func 14), #[(.tmp 21)], #[22]⟩, 4, (some (20, false))⟩,
 ⟨some 23, .unOp .not 4 (.tmp 22), 4, (some (20, false))⟩,
 ⟨some 24, .pick (.tmp 20) (.const (.bool true)) (.tmp 23), 4, none⟩] [0, 1, 24]) (sg c4S1)) (sg c4S16)))
@[go_sem] theorem go4 : goFunc Tryz.prog 4 = true := by kernel_rfl
noncomputable def c5S0 (_ : Unit) : Cmd := .ret
noncomputable def c5S1 (_ : Unit) : Cmd := (.cond (.tmp 17)
  (.seq (.ops [
  ⟨some 18, .call ⟨.value (.func 15), #[], #[]⟩, 4, none⟩,
  ⟨some 4, .assign (.tmp 18), 4, none⟩] [4]) (sg c5S0))
  (.skip [0, 1]))
noncomputable def c5S2 (_ : Unit) : Cmd := .ret
noncomputable def c5S3 (_ : Unit) : Cmd := (.seq (.ops [
 ⟨some 19, .move (.tmp 0), 22, none⟩,
 ⟨some 20, .move (.tmp 1), 31, none⟩,
 ⟨some 21, .call ⟨.value (.func 22), #[(.tmp 19), (.tmp 20)], #[22, 31]⟩, 4, none⟩,
 ⟨some 22, .move (.tmp 0), 22, none⟩,
 ⟨some 23, .move (.tmp 1), 31, none⟩,
 ⟨some 24, .call ⟨.value (.func 23), #[(.tmp 22), (.tmp 23)], #[22, 31]⟩, 4, none⟩,
 ⟨some 25, .binOp .eql 4 (.tmp 21) (.tmp 24) 4, 4, none⟩,
 ⟨some 26, .move (.tmp 25), 4, none⟩,
 ⟨some 27, .call ⟨.value (.func 15), #[], #[]⟩, 4, (some (26, true))⟩,
 ⟨some 28, .pick (.tmp 26) (.tmp 27) (.const (.bool false)), 4, none⟩,
 ⟨some 4, .assign (.tmp 28), 4, none⟩] [4]) (sg c5S2))
noncomputable def c5 : Cmd := (.seq (.ops [
 ⟨some 4, .assign (.const (.bool false)), 4, none⟩] [0, 1])
 (.seq (.seq (.ops [
 ⟨some 5, .move (.tmp 0), 22, none⟩,
 ⟨some 6, .call ⟨.builtin .len, #[(.tmp 5)], #[22]⟩, 3, none⟩,
 ⟨some 7, .binOp .gtr 3 (.tmp 6) (.const (.int .i64 60)) 3, 4, none⟩,
 ⟨some 8, .move (.tmp 7), 4, none⟩,
 ⟨some 9, .move (.tmp 1), 31, (some (8, false))⟩,
 ⟨some 10, .call ⟨.builtin .len, #[(.tmp 9)], #[31]⟩, 3, (some (8, false))⟩,
 ⟨some 11, .binOp .gtr 3 (.tmp 10) (.const (.int .i64 80)) 3, 4, (some (8, false))⟩,
 ⟨some 12, .pick (.tmp 8) (.const (.bool true)) (.tmp 11), 4, none⟩,
 ⟨some 13, .move (.tmp 12), 4, none⟩,
 ⟨some 14, .move (.tmp 0), 22, (some (13, false))⟩,
 ⟨some 15, .call ⟨.value (.func 14), #[(.tmp 14)], #[22]⟩, 4, (some (13, false))⟩,
 ⟨some 16, .unOp .not 4 (.tmp 15), 4, (some (13, false))⟩,
 ⟨some 17, .pick (.tmp 13) (.const (.bool true)) (.tmp 16), 4, none⟩] [0, 1, 17]) (sg c5S1)) (sg c5S3)))
@[go_sem] theorem go5 : goFunc Tryz.prog 5 = true := by kernel_rfl
noncomputable def c6code : Code := match Tryz.f6.body with | some c => c | none => .skip
noncomputable def c6S0 (_ : Unit) : Cmd := .ret
noncomputable def c6S1 (_ : Unit) : Cmd := (.cond (.tmp 13)
  (.seq (.ops [
  ⟨some 14, .call ⟨.value (.func 15), #[], #[]⟩, 4, none⟩,
  ⟨some 2, .assign (.tmp 14), 4, none⟩] [2]) (sg c6S0))
  (.skip [0]))
noncomputable def c6S2 (_ : Unit) : Cmd := .ret
noncomputable def c6S3 (_ : Unit) : Cmd := (.seq (.ops [
 ⟨some 38, .move (.tmp 6), 3, none⟩,
 ⟨some 39, .binOp .neq 3 (.tmp 38) (.const (.int .i64 0)) 3, 4, none⟩,
 ⟨some 40, .move (.tmp 39), 4, none⟩,
 ⟨some 41, .fieldAddr 47 (.tmp 5) 1, 0, (some (40, false))⟩,
 ⟨some 42, .load 45 (.tmp 41), 45, (some (40, false))⟩,
 ⟨some 43, .call ⟨.builtin .len, #[(.tmp 42)], #[45]⟩, 3, (some (40, false))⟩,
 ⟨some 44, .binOp .eql 3 (.tmp 43) (.const (.int .i64 0)) 3, 4, (some (40, false))⟩,
 ⟨some 45, .pick (.tmp 40) (.const (.bool true)) (.tmp 44), 4, none⟩] [0, 3, 4, 45])
 (.cond (.tmp 45)
  (.seq (.ops [
  ⟨some 46, .call ⟨.value (.func 15), #[], #[]⟩, 4, none⟩,
  ⟨some 2, .assign (.tmp 46), 4, none⟩] [2]) (sg c6S2))
  (.skip [0, 3, 4])))
noncomputable def c6S4 (_ : Unit) : Cmd := (.ops [
 ⟨some 21, .move (.tmp 4), 3, none⟩,
 ⟨some 22, .binOp .add 3 (.tmp 21) (.const (.int .i64 1)) 3, 3, none⟩,
 ⟨some 4, .assign (.tmp 22), 3, none⟩] [0, 3, 4])
noncomputable def c6S5 (_ : Unit) : Cmd := (.seq (.block 1 (.seq (.draw (drawOps 0 c6code) [0, 3, 4, 5, 6]) (sg c6S3))) (sg c6S4))
noncomputable def c6L0 (_ : Unit) : Cmd := (.seq (.seq (.ops [
 ⟨some 17, .move (.tmp 4), 3, none⟩,
 ⟨some 18, .move (.tmp 3), 43, none⟩,
 ⟨some 19, .call ⟨.builtin .len, #[(.tmp 18)], #[43]⟩, 3, none⟩,
 ⟨some 20, .binOp .lss 3 (.tmp 17) (.tmp 19) 3, 4, none⟩] [0, 3, 4, 20])
 (.cond (.tmp 20)
  (.skip [0, 3, 4])
  (.exit 0 [0]))) (sg c6S5))
noncomputable def c6S6 (_ : Unit) : Cmd := .ret
noncomputable def c6S7 (_ : Unit) : Cmd := (.seq (.ops [
 ⟨some 54, .move (.tmp 10), 25, none⟩,
 ⟨some 55, .binOp .eql 25 (.tmp 54) (.const (.int .i64 35)) 25, 4, none⟩,
 ⟨some 56, .move (.tmp 55), 4, none⟩,
 ⟨some 57, .move (.tmp 10), 25, (some (56, false))⟩,
 ⟨some 58, .binOp .eql 25 (.tmp 57) (.const (.int .i64 0)) 25, 4, (some (56, false))⟩,
 ⟨some 59, .move (.tmp 58), 4, (some (56, false))⟩,
 ⟨some 60, .move (.tmp 8), 4, (some (59, true))⟩,
 ⟨some 61, .pick (.tmp 59) (.tmp 60) (.const (.bool false)), 4, (some (56, false))⟩,
 ⟨some 62, .move (.tmp 61), 4, (some (56, false))⟩,
 ⟨some 63, .move (.tmp 0), 22, (some (62, true))⟩,
 ⟨some 64, .move (.tmp 7), 31, (some (62, true))⟩,
 ⟨some 65, .call ⟨.value (.func 23), #[(.tmp 63), (.tmp 64)], #[22, 31]⟩, 4, (some (62, true))⟩,
 ⟨some 66, .pick (.tmp 62) (.tmp 65) (.const (.bool false)), 4, (some (56, false))⟩,
 ⟨some 67, .pick (.tmp 56) (.const (.bool true)) (.tmp 66), 4, none⟩,
 ⟨some 68, .move (.tmp 67), 4, none⟩,
 ⟨some 69, .call ⟨.value (.func 15), #[], #[]⟩, 4, (some (68, true))⟩,
 ⟨some 70, .pick (.tmp 68) (.tmp 69) (.const (.bool false)), 4, none⟩,
 ⟨some 2, .assign (.tmp 70), 4, none⟩] [2]) (sg c6S6))
noncomputable def c6S8 (_ : Unit) : Cmd := (.seq (.ops [
 ⟨some 48, .move (.tmp 0), 22, none⟩,
 ⟨some 49, .call ⟨.value (.func 16), #[(.tmp 48), (.const (.int .i64 32768))], #[22, 3]⟩, 32, none⟩,
 ⟨some 47, .move (.tmp 49), 32, none⟩,
 ⟨some 50, .extract (.tmp 47) 0, 31, none⟩,
 ⟨some 51, .extract (.tmp 47) 1, 4, none⟩,
 ⟨some 52, .extract (.tmp 47) 2, 3, none⟩,
 ⟨some 53, .extract (.tmp 47) 3, 25, none⟩,
 ⟨some 7, .assign (.tmp 50), 31, none⟩,
 ⟨some 8, .assign (.tmp 51), 4, none⟩,
 ⟨some 9, .assign (.tmp 52), 3, none⟩,
 ⟨some 10, .assign (.tmp 53), 25, none⟩] [0, 7, 8, 10]) (sg c6S7))
noncomputable def c6S9 (_ : Unit) : Cmd := (.seq (.seq (.ops [
 ⟨some 4, .assign (.const (.int .i64 0)), 3, none⟩] [0, 3, 4])
 (.block 0 (.loop (sg c6L0)))) (sg c6S8))
noncomputable def c6S10 (_ : Unit) : Cmd := (.seq (.ops [
 ⟨some 15, .move (.tmp 0), 22, none⟩,
 ⟨some 16, .call ⟨.value (.func 25), #[(.tmp 15)], #[22]⟩, 43, none⟩,
 ⟨some 3, .assign (.tmp 16), 43, none⟩] [0, 3]) (sg c6S9))
noncomputable def c6 : Cmd := (.seq (.ops [
 ⟨some 2, .assign (.const (.bool false)), 4, none⟩] [0])
 (.seq (.seq (.ops [
 ⟨some 11, .move (.tmp 0), 22, none⟩,
 ⟨some 12, .call ⟨.value (.func 24), #[(.tmp 11)], #[22]⟩, 4, none⟩,
 ⟨some 13, .unOp .not 4 (.tmp 12), 4, none⟩] [0, 13]) (sg c6S1)) (sg c6S10)))
@[go_sem] theorem go6 : goFunc Tryz.prog 6 = true := by kernel_rfl
noncomputable def c7S0 (_ : Unit) : Cmd := .ret
noncomputable def c7S1 (_ : Unit) : Cmd := (.cond (.tmp 24)
  (.seq (.ops [
  ⟨some 25, .call ⟨.value (.func 15), #[], #[]⟩, 4, none⟩,
  ⟨some 4, .assign (.tmp 25), 4, none⟩] [4]) (sg c7S0))
  (.skip [0, 1]))
noncomputable def c7S2 (_ : Unit) : Cmd := .ret
noncomputable def c7S3 (_ : Unit) : Cmd := (.cond (.tmp 78)
  (.seq (.ops [
  ⟨some 4, .assign (.const (.bool false)), 4, none⟩] [4])
  .ret)
  (.skip [0, 1, 5, 6]))
noncomputable def c7S4 (_ : Unit) : Cmd := (.cond (.tmp 100)
  (.seq (.ops [
  ⟨some 4, .assign (.const (.bool false)), 4, none⟩] [4])
  .ret)
  (.skip []))
noncomputable def c7S5 (_ : Unit) : Cmd := .ret
noncomputable def c7S6 (_ : Unit) : Cmd := (.seq (.ops [
 ⟨some 101, .call ⟨.value (.func 15), #[], #[]⟩, 4, none⟩,
 ⟨some 4, .assign (.tmp 101), 4, none⟩] [4]) (sg c7S5))
noncomputable def c7S7 (_ : Unit) : Cmd := (.seq (.seq (.ops [
 ⟨some 79, .move (.tmp 6), 4, none⟩,
 ⟨some 80, .move (.tmp 0), 22, none⟩,
 ⟨some 81, .move (.tmp 5), 31, none⟩,
 ⟨some 82, .call ⟨.value (.func 23), #[(.tmp 80), (.tmp 81)], #[22, 31]⟩, 4, none⟩,
 ⟨some 83, .binOp .neq 4 (.tmp 79) (.tmp 82) 4, 4, none⟩,
 ⟨some 84, .move (.tmp 83), 4, none⟩,
 ⟨some 85, .move (.tmp 6), 4, (some (84, true))⟩,
 ⟨some 86, .pick (.tmp 84) (.tmp 85) (.const (.bool false)), 4, none⟩,
 ⟨some 87, .move (.tmp 86), 4, none⟩,
 ⟨some 88, .move (.tmp 0), 22, (some (87, false))⟩,
 ⟨some 89, .move (.tmp 1), 31, (some (87, false))⟩,
 ⟨some 90, .call ⟨.value (.func 23), #[(.tmp 88), (.tmp 89)], #[22, 31]⟩, 4, (some (87, false))⟩,
 ⟨some 91, .move (.tmp 90), 4, (some (87, false))⟩,
 ⟨some 92, .move (.tmp 6), 4, (some (91, true))⟩,
 ⟨some 93, .unOp .not 4 (.tmp 92), 4, (some (91, true))⟩,
 ⟨some 94, .move (.tmp 93), 4, (some (91, true))⟩,
 ⟨some 95, .move (.tmp 1), 31, (some (94, false))⟩,
 ⟨some 96, .move (.tmp 5), 31, (some (94, false))⟩,
 ⟨some 97, .call ⟨.value (.func 28), #[(.tmp 95), (.tmp 96)], #[31, 31]⟩, 4, (some (94, false))⟩,
 ⟨some 98, .pick (.tmp 94) (.const (.bool true)) (.tmp 97), 4, (some (91, true))⟩,
 ⟨some 99, .pick (.tmp 91) (.tmp 98) (.const (.bool false)), 4, (some (87, false))⟩,
 ⟨some 100, .pick (.tmp 87) (.const (.bool true)) (.tmp 99), 4, none⟩] [100]) (sg c7S4)) (sg c7S6))
noncomputable def c7S8 (_ : Unit) : Cmd := (.seq (.seq (.ops [
 ⟨some 57, .move (.tmp 12), 25, none⟩,
 ⟨some 58, .binOp .neq 25 (.tmp 57) (.const (.int .i64 0)) 25, 4, none⟩,
 ⟨some 59, .move (.tmp 58), 4, none⟩,
 ⟨some 60, .move (.tmp 10), 4, (some (59, false))⟩,
 ⟨some 61, .move (.tmp 6), 4, (some (59, false))⟩,
 ⟨some 62, .binOp .neq 4 (.tmp 60) (.tmp 61) 4, 4, (some (59, false))⟩,
 ⟨some 63, .pick (.tmp 59) (.const (.bool true)) (.tmp 62), 4, none⟩,
 ⟨some 64, .move (.tmp 63), 4, none⟩,
 ⟨some 65, .move (.tmp 11), 3, (some (64, false))⟩,
 ⟨some 66, .move (.tmp 7), 3, (some (64, false))⟩,
 ⟨some 67, .binOp .neq 3 (.tmp 65) (.tmp 66) 3, 4, (some (64, false))⟩,
 ⟨some 68, .pick (.tmp 64) (.const (.bool true)) (.tmp 67), 4, none⟩,
 ⟨some 69, .move (.tmp 68), 4, none⟩,
 ⟨some 70, .move (.tmp 9), 31, (some (69, false))⟩,
 ⟨some 71, .move (.tmp 5), 31, (some (69, false))⟩,
 ⟨some 72, .call ⟨.value (.func 21), #[(.tmp 70), (.tmp 71)], #[31, 31]⟩, 4, (some (69, false))⟩,
 ⟨some 73, .unOp .not 4 (.tmp 72), 4, (some (69, false))⟩,
 ⟨some 74, .pick (.tmp 69) (.const (.bool true)) (.tmp 73), 4, none⟩,
 ⟨some 75, .move (.tmp 74), 4, none⟩,
 ⟨some 76, .move (.tmp 16), 25, (some (75, false))⟩,
 ⟨some 77, .binOp .neq 25 (.tmp 76) (.const (.int .i64 35)) 25, 4, (some (75, false))⟩,
 ⟨some 78, .pick (.tmp 75) (.const (.bool true)) (.tmp 77), 4, none⟩] [0, 1, 5, 6, 78]) (sg c7S3)) (sg c7S7))
noncomputable def c7S9 (_ : Unit) : Cmd := (.seq (.ops [
 ⟨some 49, .move (.tmp 0), 22, none⟩,
 ⟨some 50, .move (.tmp 7), 3, none⟩,
 ⟨some 51, .binOp .sub 3 (.tmp 50) (.const (.int .i64 1)) 3, 3, none⟩,
 ⟨some 52, .call ⟨.value (.func 16), #[(.tmp 49), (.tmp 51)], #[22, 3]⟩, 32, none⟩,
 ⟨some 48, .move (.tmp 52), 32, none⟩,
 ⟨some 53, .extract (.tmp 48) 0, 31, none⟩,
 ⟨some 54, .extract (.tmp 48) 1, 4, none⟩,
 ⟨some 55, .extract (.tmp 48) 2, 3, none⟩,
 ⟨some 56, .extract (.tmp 48) 3, 25, none⟩,
 ⟨some 13, .assign (.tmp 53), 31, none⟩,
 ⟨some 14, .assign (.tmp 54), 4, none⟩,
 ⟨some 15, .assign (.tmp 55), 3, none⟩,
 ⟨some 16, .assign (.tmp 56), 25, none⟩] [0, 1, 5, 6, 7, 9, 10, 11, 12, 16]) (sg c7S8))
noncomputable def c7S10 (_ : Unit) : Cmd := (.seq (.ops [
 ⟨some 41, .move (.tmp 0), 22, none⟩,
 ⟨some 42, .move (.tmp 7), 3, none⟩,
 ⟨some 43, .call ⟨.value (.func 16), #[(.tmp 41), (.tmp 42)], #[22, 3]⟩, 32, none⟩,
 ⟨some 40, .move (.tmp 43), 32, none⟩,
 ⟨some 44, .extract (.tmp 40) 0, 31, none⟩,
 ⟨some 45, .extract (.tmp 40) 1, 4, none⟩,
 ⟨some 46, .extract (.tmp 40) 2, 3, none⟩,
 ⟨some 47, .extract (.tmp 40) 3, 25, none⟩,
 ⟨some 9, .assign (.tmp 44), 31, none⟩,
 ⟨some 10, .assign (.tmp 45), 4, none⟩,
 ⟨some 11, .assign (.tmp 46), 3, none⟩,
 ⟨some 12, .assign (.tmp 47), 25, none⟩] [0, 1, 5, 6, 7, 9, 10, 11, 12]) (sg c7S9))
noncomputable def c7S11 (_ : Unit) : Cmd := (.seq (.seq (.ops [
 ⟨some 33, .move (.tmp 8), 25, none⟩,
 ⟨some 34, .binOp .neq 25 (.tmp 33) (.const (.int .i64 0)) 25, 4, none⟩] [0, 1, 5, 6, 7, 8, 34])
 (.cond (.tmp 34)
  (.seq (.ops [
  ⟨some 35, .move (.tmp 8), 25, none⟩,
  ⟨some 36, .binOp .eql 25 (.tmp 35) (.const (.int .i64 35)) 25, 4, none⟩,
  ⟨some 37, .move (.tmp 36), 4, none⟩,
  ⟨some 38, .call ⟨.value (.func 15), #[], #[]⟩, 4, (some (37, true))⟩,
  ⟨some 39, .pick (.tmp 37) (.tmp 38) (.const (.bool false)), 4, none⟩,
  ⟨some 4, .assign (.tmp 39), 4, none⟩] [4]) (sg c7S2))
  (.skip [0, 1, 5, 6, 7]))) (sg c7S10))
noncomputable def c7S12 (_ : Unit) : Cmd := (.seq (.ops [
 ⟨some 27, .move (.tmp 0), 22, none⟩,
 ⟨some 28, .call ⟨.value (.func 16), #[(.tmp 27), (.const (.int .i64 32768))], #[22, 3]⟩, 32, none⟩,
 ⟨some 26, .move (.tmp 28), 32, none⟩,
 ⟨some 29, .extract (.tmp 26) 0, 31, none⟩,
 ⟨some 30, .extract (.tmp 26) 1, 4, none⟩,
 ⟨some 31, .extract (.tmp 26) 2, 3, none⟩,
 ⟨some 32, .extract (.tmp 26) 3, 25, none⟩,
 ⟨some 5, .assign (.tmp 29), 31, none⟩,
 ⟨some 6, .assign (.tmp 30), 4, none⟩,
 ⟨some 7, .assign (.tmp 31), 3, none⟩,
 ⟨some 8, .assign (.tmp 32), 25, none⟩] [0, 1, 5, 6, 7, 8]) (sg c7S11))
noncomputable def c7 : Cmd := (.seq (.ops [
 ⟨some 4, .assign (.const (.bool false)), 4, none⟩] [0, 1])
 (.seq (.seq (.ops [
 ⟨some 17, .move (.tmp 0), 22, none⟩,
 ⟨some 18, .call ⟨.value (.func 24), #[(.tmp 17)], #[22]⟩, 4, none⟩,
 ⟨some 19, .unOp .not 4 (.tmp 18), 4, none⟩,
 ⟨some 20, .move (.tmp 19), 4, none⟩,
 ⟨some 21, .move (.tmp 1), 31, (some (20, false))⟩,
 ⟨some 22, .call ⟨.builtin .len, #[(.tmp 21)], #[31]⟩, 3, (some (20, false))⟩,
 ⟨some 23, .binOp .gtr 3 (.tmp 22) (.const (.int .i64 20)) 3, 4, (some (20, false))⟩,
 ⟨some 24, .pick (.tmp 20) (.const (.bool true)) (.tmp 23), 4, none⟩] [0, 1, 24]) (sg c7S1)) (sg c7S12)))
@[go_sem] theorem go7 : goFunc Tryz.prog 7 = true := by kernel_rfl
noncomputable def c8code : Code := match Tryz.f8.body with | some c => c | none => .skip
noncomputable def c8S0 (_ : Unit) : Cmd := .ret
noncomputable def c8S1 (_ : Unit) : Cmd := (.cond (.tmp 13)
  (.seq (.ops [
  ⟨some 14, .call ⟨.value (.func 15), #[], #[]⟩, 4, none⟩,
  ⟨some 2, .assign (.tmp 14), 4, none⟩] [2]) (sg c8S0))
  (.skip [0]))
noncomputable def c8S2 (_ : Unit) : Cmd := (.cond (.tmp 39)
  (.seq (.ops [
  ⟨some 2, .assign (.const (.bool false)), 4, none⟩] [2])
  .ret)
  (.skip [0, 3, 4, 5]))
noncomputable def c8S3 (_ : Unit) : Cmd := (.ops [
 ⟨some 28, .move (.tmp 5), 3, none⟩,
 ⟨some 29, .binOp .add 3 (.tmp 28) (.const (.int .i64 1)) 3, 3, none⟩,
 ⟨some 5, .assign (.tmp 29), 3, none⟩] [0, 3, 4, 5])
noncomputable def c8S4 (_ : Unit) : Cmd := (.seq (.block 1 (.seq (.draw (drawOps 0 c8code) [0, 3, 4, 5, 39]) (sg c8S2))) (sg c8S3))
noncomputable def c8L0 (_ : Unit) : Cmd := (.seq (.seq (.ops [
 ⟨some 24, .move (.tmp 5), 3, none⟩,
 ⟨some 25, .move (.tmp 3), 36, none⟩,
 ⟨some 26, .call ⟨.builtin .len, #[(.tmp 25)], #[36]⟩, 3, none⟩,
 ⟨some 27, .binOp .lss 3 (.tmp 24) (.tmp 26) 3, 4, none⟩] [0, 3, 4, 5, 27])
 (.cond (.tmp 27)
  (.skip [0, 3, 4, 5])
  (.exit 0 [0]))) (sg c8S4))
noncomputable def c8S5 (_ : Unit) : Cmd := .ret
noncomputable def c8S6 (_ : Unit) : Cmd := (.seq (.ops [
 ⟨some 40, .move (.tmp 0), 22, none⟩,
 ⟨some 41, .call ⟨.value (.func 31), #[(.tmp 40)], #[22]⟩, 31, none⟩,
 ⟨some 42, .move (.tmp 0), 22, none⟩,
 ⟨some 43, .call ⟨.value (.func 32), #[(.tmp 42)], #[22]⟩, 31, none⟩,
 ⟨some 44, .call ⟨.value (.func 21), #[(.tmp 41), (.tmp 43)], #[31, 31]⟩, 4, none⟩,
 ⟨some 45, .move (.tmp 44), 4, none⟩,
 ⟨some 46, .call ⟨.value (.func 15), #[], #[]⟩, 4, (some (45, true))⟩,
 ⟨some 47, .pick (.tmp 45) (.tmp 46) (.const (.bool false)), 4, none⟩,
 ⟨some 2, .assign (.tmp 47), 4, none⟩] [2]) (sg c8S5))
noncomputable def c8S7 (_ : Unit) : Cmd := (.seq (.seq (.ops [
 ⟨some 5, .assign (.const (.int .i64 0)), 3, none⟩] [0, 3, 4, 5])
 (.block 0 (.loop (sg c8L0)))) (sg c8S6))
noncomputable def c8S8 (_ : Unit) : Cmd := (.seq (.seq (.ops [
 ⟨some 19, .move (.tmp 3), 36, none⟩,
 ⟨some 20, .call ⟨.builtin .len, #[(.tmp 19)], #[36]⟩, 3, none⟩,
 ⟨some 21, .move (.tmp 4), 36, none⟩,
 ⟨some 22, .call ⟨.builtin .len, #[(.tmp 21)], #[36]⟩, 3, none⟩,
 ⟨some 23, .binOp .neq 3 (.tmp 20) (.tmp 22) 3, 4, none⟩] [0, 3, 4, 23])
 (.cond (.tmp 23)
  (.seq (.ops [
  ⟨some 2, .assign (.const (.bool false)), 4, none⟩] [2])
  .ret)
  (.skip [0, 3, 4]))) (sg c8S7))
noncomputable def c8S9 (_ : Unit) : Cmd := (.seq (.ops [
 ⟨some 15, .move (.tmp 0), 22, none⟩,
 ⟨some 16, .call ⟨.value (.func 29), #[(.tmp 15)], #[22]⟩, 36, none⟩,
 ⟨some 17, .move (.tmp 0), 22, none⟩,
 ⟨some 18, .call ⟨.value (.func 19), #[(.tmp 17)], #[22]⟩, 36, none⟩,
 ⟨some 3, .assign (.tmp 16), 36, none⟩,
 ⟨some 4, .assign (.tmp 18), 36, none⟩] [0, 3, 4]) (sg c8S8))
noncomputable def c8 : Cmd := (.seq (.ops [
 ⟨some 2, .assign (.const (.bool false)), 4, none⟩] [0])
 (.seq (.seq (.ops [
 ⟨some 6, .move (.tmp 0), 22, none⟩,
 ⟨some 7, .call ⟨.builtin .len, #[(.tmp 6)], #[22]⟩, 3, none⟩,
 ⟨some 8, .binOp .gtr 3 (.tmp 7) (.const (.int .i64 60)) 3, 4, none⟩,
 ⟨some 9, .move (.tmp 8), 4, none⟩,
 ⟨some 10, .move (.tmp 0), 22, (some (9, false))⟩,
 ⟨some 11, .call ⟨.value (.func 14), #[(.tmp 10)], #[22]⟩, 4, (some (9, false))⟩,
 ⟨some 12, .unOp .not 4 (.tmp 11), 4, (some (9, false))⟩,
 ⟨some 13, .pick (.tmp 9) (.const (.bool true)) (.tmp 12), 4, none⟩] [0, 13]) (sg c8S1)) (sg c8S9)))
@[go_sem] theorem go8 : goFunc Tryz.prog 8 = true := by kernel_rfl
noncomputable def c9S0 (_ : Unit) : Cmd := .ret
noncomputable def c9S1 (_ : Unit) : Cmd := (.cond (.tmp 22)
  (.seq (.ops [
  ⟨some 23, .call ⟨.value (.func 15), #[], #[]⟩, 4, none⟩,
  ⟨some 4, .assign (.tmp 23), 4, none⟩] [4]) (sg c9S0))
  (.skip [0, 1]))
noncomputable def c9S2 (_ : Unit) : Cmd := (.ops [
 ⟨some 28, .move (.tmp 6), 3, none⟩,
 ⟨some 29, .binOp .add 3 (.tmp 28) (.const (.int .i64 1)) 3, 3, none⟩,
 ⟨some 6, .assign (.tmp 29), 3, none⟩] [0, 1, 5, 6])
noncomputable def c9S3 (_ : Unit) : Cmd := (.seq (.block 1 (.seq (.ops [
 ⟨some 30, .move (.tmp 0), 22, none⟩,
 ⟨some 31, .move (.tmp 6), 3, none⟩,
 ⟨some 32, .indexAddr 22 (.tmp 30) (.tmp 31), 0, none⟩,
 ⟨some 33, .fieldAddr 56 (.tmp 32) 1, 0, none⟩,
 ⟨some 34, .load 3 (.tmp 33), 3, none⟩,
 ⟨some 35, .move (.tmp 1), 3, none⟩,
 ⟨some 36, .binOp .eql 3 (.tmp 34) (.tmp 35) 3, 4, none⟩] [0, 1, 5, 6, 36])
 (.cond (.tmp 36)
  (.ops [
  ⟨some 37, .move (.tmp 5), 22, none⟩,
  ⟨some 38, .move (.tmp 0), 22, none⟩,
  ⟨some 39, .move (.tmp 6), 3, none⟩,
  ⟨some 40, .indexAddr 22 (.tmp 38) (.tmp 39), 0, none⟩,
  ⟨some 41, .load 56 (.tmp 40), 56, none⟩,
  ⟨some 42, .buildSlice 22 1 #[(0, (.tmp 41))], 22, none⟩,
  ⟨some 43, .call ⟨.builtin .append, #[(.tmp 37), (.tmp 42)], #[22, 22]⟩, 22, none⟩,
  ⟨some 5, .assign (.tmp 43), 22, none⟩] [0, 1, 5, 6])
  (.skip [0, 1, 5, 6])))) (sg c9S2))
noncomputable def c9L0 (_ : Unit) : Cmd := (.seq (.seq (.ops [
 ⟨some 24, .move (.tmp 6), 3, none⟩,
 ⟨some 25, .move (.tmp 0), 22, none⟩,
 ⟨some 26, .call ⟨.builtin .len, #[(.tmp 25)], #[22]⟩, 3, none⟩,
 ⟨some 27, .binOp .lss 3 (.tmp 24) (.tmp 26) 3, 4, none⟩] [0, 1, 5, 6, 27])
 (.cond (.tmp 27)
  (.skip [0, 1, 5, 6])
  (.exit 0 [5]))) (sg c9S3))
noncomputable def c9S4 (_ : Unit) : Cmd := .ret
noncomputable def c9S5 (_ : Unit) : Cmd := (.seq (.ops [
 ⟨some 53, .move (.tmp 10), 25, none⟩,
 ⟨some 54, .binOp .eql 25 (.tmp 53) (.const (.int .i64 0)) 25, 4, none⟩,
 ⟨some 55, .move (.tmp 54), 4, none⟩,
 ⟨some 56, .move (.tmp 5), 22, (some (55, true))⟩,
 ⟨some 57, .call ⟨.builtin .len, #[(.tmp 56)], #[22]⟩, 3, (some (55, true))⟩,
 ⟨some 58, .binOp .eql 3 (.tmp 57) (.const (.int .i64 0)) 3, 4, (some (55, true))⟩,
 ⟨some 59, .move (.tmp 58), 4, (some (55, true))⟩,
 ⟨some 60, .move (.tmp 8), 4, (some (59, false))⟩,
 ⟨some 61, .move (.tmp 11), 31, (some (59, false))⟩,
 ⟨some 62, .call ⟨.builtin .len, #[(.tmp 61)], #[31]⟩, 3, (some (59, false))⟩,
 ⟨some 63, .binOp .eql 3 (.tmp 62) (.const (.int .i64 1)) 3, 4, (some (59, false))⟩,
 ⟨some 64, .binOp .eql 4 (.tmp 60) (.tmp 63) 4, 4, (some (59, false))⟩,
 ⟨some 65, .pick (.tmp 59) (.const (.bool true)) (.tmp 64), 4, (some (55, true))⟩,
 ⟨some 66, .pick (.tmp 55) (.tmp 65) (.const (.bool false)), 4, none⟩,
 ⟨some 67, .move (.tmp 66), 4, none⟩,
 ⟨some 68, .call ⟨.value (.func 15), #[], #[]⟩, 4, (some (67, true))⟩,
 ⟨some 69, .pick (.tmp 67) (.tmp 68) (.const (.bool false)), 4, none⟩,
 ⟨some 4, .assign (.tmp 69), 4, none⟩] [4]) (sg c9S4))
noncomputable def c9S6 (_ : Unit) : Cmd := (.seq (.ops [
 ⟨some 51, .move (.tmp 5), 22, none⟩,
 ⟨some 52, .call ⟨.value (.func 31), #[(.tmp 51)], #[22]⟩, 31, none⟩,
 ⟨some 11, .assign (.tmp 52), 31, none⟩] [5, 8, 10, 11]) (sg c9S5))
noncomputable def c9S7 (_ : Unit) : Cmd := (.seq (.ops [
 ⟨some 45, .move (.tmp 5), 22, none⟩,
 ⟨some 46, .call ⟨.value (.func 16), #[(.tmp 45), (.const (.int .i64 32768))], #[22, 3]⟩, 32, none⟩,
 ⟨some 44, .move (.tmp 46), 32, none⟩,
 ⟨some 47, .extract (.tmp 44) 0, 31, none⟩,
 ⟨some 48, .extract (.tmp 44) 1, 4, none⟩,
 ⟨some 49, .extract (.tmp 44) 2, 3, none⟩,
 ⟨some 50, .extract (.tmp 44) 3, 25, none⟩,
 ⟨some 7, .assign (.tmp 47), 31, none⟩,
 ⟨some 8, .assign (.tmp 48), 4, none⟩,
 ⟨some 9, .assign (.tmp 49), 3, none⟩,
 ⟨some 10, .assign (.tmp 50), 25, none⟩] [5, 8, 10]) (sg c9S6))
noncomputable def c9S8 (_ : Unit) : Cmd := (.seq (.ops [
 ⟨some 5, .assign (.const (.slice none 0 0)), 22, none⟩] [0, 1, 5])
 (.seq (.seq (.ops [
 ⟨some 6, .assign (.const (.int .i64 0)), 3, none⟩] [0, 1, 5, 6])
 (.block 0 (.loop (sg c9L0)))) (sg c9S7)))
noncomputable def c9 : Cmd := (.seq (.ops [
 ⟨some 4, .assign (.const (.bool false)), 4, none⟩] [0, 1])
 (.seq (.seq (.ops [
 ⟨some 12, .move (.tmp 0), 22, none⟩,
 ⟨some 13, .call ⟨.value (.func 24), #[(.tmp 12)], #[22]⟩, 4, none⟩,
 ⟨some 14, .unOp .not 4 (.tmp 13), 4, none⟩,
 ⟨some 15, .move (.tmp 14), 4, none⟩,
 ⟨some 16, .move (.tmp 1), 3, (some (15, false))⟩,
 ⟨some 17, .binOp .lss 3 (.tmp 16) (.const (.int .i64 0)) 3, 4, (some (15, false))⟩,
 ⟨some 18, .pick (.tmp 15) (.const (.bool true)) (.tmp 17), 4, none⟩,
 ⟨some 19, .move (.tmp 18), 4, none⟩,
 ⟨some 20, .move (.tmp 1), 3, (some (19, false))⟩,
 ⟨some 21, .binOp .gtr 3 (.tmp 20) (.const (.int .i64 1023)) 3, 4, (some (19, false))⟩,
 ⟨some 22, .pick (.tmp 19) (.const (.bool true)) (.tmp 21), 4, none⟩] [0, 1, 22]) (sg c9S1)) (sg c9S8)))
@[go_sem] theorem go9 : goFunc Tryz.prog 9 = true := by kernel_rfl
noncomputable def c10code : Code := match Tryz.f10.body with | some c => c | none => .skip
noncomputable def c10S0 (_ : Unit) : Cmd := .ret
noncomputable def c10 : Cmd := (.seq (.ops [
 ⟨some 2, .assign (.const (.bool false)), 4, none⟩] [0])
 (.seq (.ops [
 ⟨some 3, .move (.tmp 0), 22, none⟩,
 ⟨some 4, .call ⟨.builtin .len, #[(.tmp 3)], #[22]⟩, 3, none⟩,
 ⟨some 5, .binOp .leq 3 (.tmp 4) (.const (.int .i64 64)) 3, 4, none⟩,
 ⟨some 6, .move (.tmp 5), 4, none⟩,
 ⟨some 7, .move (.tmp 0), 22, (some (6, true))⟩,
 ⟨some 8, .call ⟨.value (.func 33), #[(.tmp 7)], #[22]⟩, 3, (some (6, true))⟩,
 ⟨some 9, .binOp .eql 3 (.tmp 8) (.const (.int .i64 0)) 3, 4, (some (6, true))⟩,
 ⟨some 10, .pick (.tmp 6) (.tmp 9) (.const (.bool false)), 4, none⟩,
 ⟨some 2, .assign (.tmp 10), 4, none⟩] [2]) (sg c10S0)))
set_option maxRecDepth 100000 in
theorem ent10 (a0 : Value) (w : World) (K : Value → World → Prop) (h : W Tryz.prog c10 [(0, a0)] w (finQ Tryz.prog [.tmp 2] K)) : Ret Tryz.prog 10 [a0] w K :=
  Ret_of_W (code := c10code) Tryz.func10 (by kernel_rfl) (by kernel_rfl) (of_decide_eq_true (by kernel_rfl)) h
@[go_sem] theorem go10 : goFunc Tryz.prog 10 = true := by kernel_rfl
noncomputable def str20x336475878 : List UInt8 := [112, 49, 32, 32, 32, 32, 32, 91, 101, 110, 113, 53, 45, 45, 45, 45, 45, 45, 93, 10]
noncomputable def c11code : Code := match Tryz.f11.body with | some c => c | none => .skip
noncomputable def c11S0 (_ : Unit) : Cmd := (.seq (.ops [
 ⟨some 9, .move (.tmp 2), 25, none⟩,
 ⟨some 10, .binOp .eql 25 (.tmp 9) (.const (.int .i64 0)) 25, 4, none⟩,
 ⟨some 11, .move (.tmp 10), 4, none⟩,
 ⟨some 12, .move (.tmp 1), 9, (some (11, true))⟩,
 ⟨some 13, .binOp .eql 9 (.tmp 12) (.const (.string (ofL str20x336475878))) 9, 4, (some (11, true))⟩,
 ⟨some 14, .pick (.tmp 11) (.tmp 13) (.const (.bool false)), 4, none⟩,
 ⟨some 0, .assign (.tmp 14), 4, none⟩] [0])
 .ret)
noncomputable def c11 : Cmd := (.seq (.ops [
 ⟨some 0, .assign (.const (.bool false)), 4, none⟩] [])
 (.seq (.ops [
 ⟨some 4, .build 56 #[(0, (.const (.int .i64 1))), (1, (.const (.int .i64 1))), (3, (.const (.int .i64 3))), (4, (.const (.int .i64 6))), (5, (.const (.int .i64 5))), (7, (.const (.bool true))), (10, (.const (.int .i64 10)))], 56, none⟩,
 ⟨some 5, .buildSlice 22 1 #[(0, (.tmp 4))], 22, none⟩,
 ⟨some 6, .call ⟨.value (.func 34), #[(.tmp 5), (.const (.int .i64 12))], #[22, 3]⟩, 26, none⟩,
 ⟨some 3, .move (.tmp 6), 26, none⟩,
 ⟨some 7, .extract (.tmp 3) 0, 9, none⟩,
 ⟨some 8, .extract (.tmp 3) 1, 25, none⟩,
 ⟨some 1, .assign (.tmp 7), 9, none⟩,
 ⟨some 2, .assign (.tmp 8), 25, none⟩] [1, 2]) (sg c11S0)))
set_option maxRecDepth 100000 in
theorem ent11 (w : World) (K : Value → World → Prop) (h : W Tryz.prog c11 [] w (finQ Tryz.prog [.tmp 0] K)) : Ret Tryz.prog 11 [] w K :=
  Ret_of_W (code := c11code) Tryz.func11 (by kernel_rfl) (by kernel_rfl) (of_decide_eq_true (by kernel_rfl)) h
@[go_sem] theorem go11 : goFunc Tryz.prog 11 = true := by kernel_rfl
noncomputable def c12code : Code := match Tryz.f12.body with | some c => c | none => .skip
noncomputable def c12S0 (_ : Unit) : Cmd := (.ops [
 ⟨some 55, .binOp .add 3 (.tmp 38) (.const (.int .i64 1)) 3, 3, none⟩,
 ⟨some 38, .move (.tmp 55), 3, none⟩] [6, 7, 9, 22, 23, 24, 36, 37, 38])
noncomputable def c12S1 (_ : Unit) : Cmd := (.seq (.block 3 (.seq (.ops [
 ⟨some 40, .indexAddr 36 (.tmp 36) (.tmp 38), 0, none⟩,
 ⟨some 41, .load 22 (.tmp 40), 22, none⟩,
 ⟨some 11, .assign (.tmp 41), 22, none⟩] [6, 7, 9, 11, 22, 23, 24, 36, 37, 38])
 (.draw (drawOps 0 c12code) [6, 7, 9, 22, 23, 24, 36, 37, 38]))) (sg c12S0))
noncomputable def c12L0 (_ : Unit) : Cmd := (.seq (.ops [
 ⟨some 39, .binOp .lss 3 (.tmp 38) (.tmp 37) 3, 0, none⟩] [6, 7, 9, 22, 23, 24, 36, 37, 38, 39])
 (.seq (.cond (.tmp 39)
  (.skip [6, 7, 9, 22, 23, 24, 36, 37, 38])
  (.exit 2 [6, 7, 9, 22, 23, 24])) (sg c12S1)))
noncomputable def c12S2 (_ : Unit) : Cmd := (.block 2 (.loop (sg c12L0)))
noncomputable def c12S3 (_ : Unit) : Cmd := (.draw (drawOps 1 c12code) [6, 7, 22, 23, 24])
noncomputable def c12S4 (_ : Unit) : Cmd := (.seq (.seq (.ops [
 ⟨some 34, .fieldAddr 51 (.tmp 9) 2, 0, none⟩,
 ⟨some 35, .load 22 (.tmp 34), 22, none⟩,
 ⟨some 36, .call ⟨.value (.func 29), #[(.tmp 35)], #[22]⟩, 36, none⟩,
 ⟨some 37, .call ⟨.builtin .len, #[(.tmp 36)], #[36]⟩, 3, none⟩,
 ⟨some 38, .move (.const (.int .i64 0)), 3, none⟩] [6, 7, 9, 22, 23, 24, 36, 37, 38]) (sg c12S2)) (sg c12S3))
noncomputable def c12S5 (_ : Unit) : Cmd := (.ops [
 ⟨some 64, .binOp .add 3 (.tmp 24) (.const (.int .i64 1)) 3, 3, none⟩,
 ⟨some 24, .move (.tmp 64), 3, none⟩] [6, 7, 22, 23, 24])
noncomputable def c12S6 (_ : Unit) : Cmd := (.seq (.block 1 (.seq (.ops [
 ⟨some 26, .indexAddr 43 (.tmp 22) (.tmp 24), 0, none⟩,
 ⟨some 27, .load 51 (.tmp 26), 51, none⟩,
 ⟨some 9, .alloc 51, 0, none⟩,
 ⟨none, .store 51 (.tmp 9) (.tmp 27), 0, none⟩] [6, 7, 9, 22, 23, 24])
 (.seq (.ops [
 ⟨some 28, .fieldAddr 51 (.tmp 9) 0, 0, none⟩,
 ⟨some 29, .load 3 (.tmp 28), 3, none⟩,
 ⟨some 30, .call ⟨.value (.func 38), #[(.tmp 29)], #[3]⟩, 9, none⟩,
 ⟨some 31, .binOp .add 9 (.const (.string (ofL [111, 98, 106, 101, 99, 116, 32]))) (.tmp 30) 9, 9, none⟩,
 ⟨some 32, .binOp .add 9 (.tmp 31) (.const (.string (ofL [10]))) 9, 9, none⟩,
 ⟨some 33, .call ⟨.value (.func 37), #[(.tmp 7), (.tmp 32)], #[63, 9]⟩, 66, none⟩] [6, 7, 9, 22, 23, 24]) (sg c12S4)))) (sg c12S5))
noncomputable def c12L1 (_ : Unit) : Cmd := (.seq (.ops [
 ⟨some 25, .binOp .lss 3 (.tmp 24) (.tmp 23) 3, 0, none⟩] [6, 7, 22, 23, 24, 25])
 (.seq (.cond (.tmp 25)
  (.skip [6, 7, 22, 23, 24])
  (.exit 0 [7])) (sg c12S6)))
noncomputable def c12S7 (_ : Unit) : Cmd := (.block 0 (.loop (sg c12L1)))
noncomputable def c12S8 (_ : Unit) : Cmd := .ret
noncomputable def c12S9 (_ : Unit) : Cmd := (.seq (.ops [
 ⟨some 65, .call ⟨.value (.func 43), #[(.tmp 7)], #[63]⟩, 9, none⟩,
 ⟨some 4, .assign (.tmp 65), 9, none⟩,
 ⟨some 5, .assign (.const (.int .i64 0)), 25, none⟩] [4, 5]) (sg c12S8))
noncomputable def c12S10 (_ : Unit) : Cmd := (.seq (.ops [
 ⟨some 7, .alloc 63, 0, none⟩] [0, 6, 7])
 (.seq (.seq (.ops [
 ⟨some 21, .move (.tmp 0), 22, none⟩,
 ⟨some 22, .call ⟨.value (.func 36), #[(.tmp 21)], #[22]⟩, 43, none⟩,
 ⟨some 23, .call ⟨.builtin .len, #[(.tmp 22)], #[43]⟩, 3, none⟩,
 ⟨some 24, .move (.const (.int .i64 0)), 3, none⟩] [6, 7, 22, 23, 24]) (sg c12S7)) (sg c12S9)))
noncomputable def c12S11 (_ : Unit) : Cmd := (.seq (.ops [
 ⟨some 18, .move (.tmp 0), 22, none⟩,
 ⟨some 19, .move (.tmp 1), 3, none⟩,
 ⟨some 20, .call ⟨.value (.func 35), #[(.tmp 18), (.tmp 19)], #[22, 3]⟩, 58, none⟩,
 ⟨some 6, .alloc 58, 0, none⟩,
 ⟨none, .store 58 (.tmp 6) (.tmp 20), 0, none⟩] [0, 6]) (sg c12S10))
noncomputable def c12 : Cmd := (.seq (.ops [
 ⟨some 4, .assign (.const (.string (ofL []))), 9, none⟩,
 ⟨some 5, .assign (.const (.int .i64 0)), 25, none⟩] [0, 1])
 (.seq (.seq (.ops [
 ⟨some 12, .move (.tmp 1), 3, none⟩,
 ⟨some 13, .binOp .lss 3 (.tmp 12) (.const (.int .i64 8)) 3, 4, none⟩,
 ⟨some 14, .move (.tmp 13), 4, none⟩,
 ⟨some 15, .move (.tmp 1), 3, (some (14, false))⟩,
 ⟨some 16, .binOp .gtr 3 (.tmp 15) (.const (.int .i64 200)) 3, 4, (some (14, false))⟩,
 ⟨some 17, .pick (.tmp 14) (.const (.bool true)) (.tmp 16), 4, none⟩] [0, 1, 17])
 (.cond (.tmp 17)
  (.seq (.ops [
  ⟨some 4, .assign (.const (.string (ofL []))), 9, none⟩,
  ⟨some 5, .assign (.const (.int .i64 1)), 25, none⟩] [4, 5])
  .ret)
  (.skip [0, 1]))) (sg c12S11)))
noncomputable def c12D0 : List (Nat × Ins) := [
 (0, ⟨some 42, .move (.tmp 11), 22, none⟩),
 (0, ⟨some 43, .indexAddr 22 (.tmp 42) (.const (.int .i64 0)), 0, none⟩),
 (0, ⟨some 44, .fieldAddr 56 (.tmp 43) 1, 0, none⟩),
 (0, ⟨some 50, .move (.tmp 11), 22, none⟩),
 (1, ⟨some 45, .load 3 (.tmp 44), 3, none⟩),
 (1, ⟨some 49, .load 58 (.tmp 6), 58, none⟩),
 (2, ⟨some 46, .call ⟨.value (.func 38), #[(.tmp 45)], #[3]⟩, 9, none⟩),
 (0, ⟨some 47, .binOp .add 9 (.const (.string (ofL [112]))) (.tmp 46) 9, 9, none⟩),
 (2, ⟨some 48, .call ⟨.value (.func 39), #[(.tmp 47)], #[9]⟩, 9, none⟩),
 (2, ⟨some 51, .call ⟨.value (.func 40), #[(.tmp 49), (.tmp 50)], #[58, 22]⟩, 9, none⟩),
 (0, ⟨some 52, .binOp .add 9 (.tmp 48) (.tmp 51) 9, 9, none⟩),
 (0, ⟨some 53, .binOp .add 9 (.tmp 52) (.const (.string (ofL [10]))) 9, 9, none⟩),
 (2, ⟨some 54, .call ⟨.value (.func 37), #[(.tmp 7), (.tmp 53)], #[63, 9]⟩, 66, none⟩)]
theorem c12draw0 {L : List Nat} {ρ : Env} {w : World} {Q : Post} (S : World → Prop) (hS : S w.drew) (h : DG Tryz.prog S c12D0 L ρ w.drew Q) : drawW Tryz.prog (drawOps 0 c12code) L ρ w Q :=
  drawW_held [3, 7] [(0, 0), (0, 1), (0, 2), (0, 8), (1, 3), (1, 7), (2, 4), (0, 5), (2, 6), (2, 9), (0, 10), (0, 11), (2, 12)] c12D0 (by kernel_rfl) (by kernel_rfl) (by kernel_rfl) S hS h
noncomputable def c12D1 : List (Nat × Ins) := [
 (1, ⟨some 57, .load 58 (.tmp 6), 58, none⟩),
 (1, ⟨some 58, .load 51 (.tmp 9), 51, none⟩),
 (2, ⟨some 56, .call ⟨.value (.func 39), #[(.const (.string (ofL [])))], #[9]⟩, 9, none⟩),
 (2, ⟨some 59, .call ⟨.value (.func 42), #[(.tmp 58)], #[51]⟩, 43, none⟩),
 (2, ⟨some 60, .call ⟨.value (.func 41), #[(.tmp 57), (.tmp 59)], #[58, 43]⟩, 9, none⟩),
 (0, ⟨some 61, .binOp .add 9 (.tmp 56) (.tmp 60) 9, 9, none⟩),
 (0, ⟨some 62, .binOp .add 9 (.tmp 61) (.const (.string (ofL [10]))) 9, 9, none⟩),
 (2, ⟨some 63, .call ⟨.value (.func 37), #[(.tmp 7), (.tmp 62)], #[63, 9]⟩, 66, none⟩)]
theorem c12draw1 {L : List Nat} {ρ : Env} {w : World} {Q : Post} (S : World → Prop) (hS : S w.drew) (h : DG Tryz.prog S c12D1 L ρ w.drew Q) : drawW Tryz.prog (drawOps 1 c12code) L ρ w Q :=
  drawW_held [1, 2] [(1, 1), (1, 2), (2, 0), (2, 3), (2, 4), (0, 5), (0, 6), (2, 7)] c12D1 (by kernel_rfl) (by kernel_rfl) (by kernel_rfl) S hS h
set_option maxRecDepth 100000 in
theorem ent12 (a0 a1 : Value) (w : World) (K : Value → World → Prop) (h : W Tryz.prog c12 [(0, a0), (1, a1)] w (finQ Tryz.prog [.tmp 4, .tmp 5] K)) : Ret Tryz.prog 12 [a0, a1] w K :=
  Ret_of_W (code := c12code) Tryz.func12 (by kernel_rfl) (by kernel_rfl) (of_decide_eq_true (by kernel_rfl)) h
@[go_sem] theorem go12 : goFunc Tryz.prog 12 = true := by kernel_rfl
noncomputable def c13code : Code := match Tryz.f13.body with | some c => c | none => .skip
noncomputable def c13S0 (_ : Unit) : Cmd := (.ops [
 ⟨some 25, .move (.tmp 9), 3, none⟩,
 ⟨some 26, .binOp .add 3 (.tmp 25) (.const (.int .i64 1)) 3, 3, none⟩,
 ⟨some 9, .assign (.tmp 26), 3, none⟩] [6, 7, 8, 9])
noncomputable def c13S1 (_ : Unit) : Cmd := (.seq (.block 1 (.draw (drawOps 0 c13code) [6, 7, 8, 9])) (sg c13S0))
noncomputable def c13L0 (_ : Unit) : Cmd := (.seq (.seq (.ops [
 ⟨some 21, .move (.tmp 9), 3, none⟩,
 ⟨some 22, .move (.tmp 8), 43, none⟩,
 ⟨some 23, .call ⟨.builtin .len, #[(.tmp 22)], #[43]⟩, 3, none⟩,
 ⟨some 24, .binOp .lss 3 (.tmp 21) (.tmp 23) 3, 4, none⟩] [6, 7, 8, 9, 24])
 (.cond (.tmp 24)
  (.skip [6, 7, 8, 9])
  (.exit 0 [7]))) (sg c13S1))
noncomputable def c13S2 (_ : Unit) : Cmd := (.seq (.ops [
 ⟨some 56, .move (.tmp 7), 9, none⟩,
 ⟨some 4, .assign (.tmp 56), 9, none⟩,
 ⟨some 5, .assign (.const (.int .i64 0)), 3, none⟩] [4, 5])
 .ret)
noncomputable def c13S3 (_ : Unit) : Cmd := (.seq (.seq (.ops [
 ⟨some 9, .assign (.const (.int .i64 0)), 3, none⟩] [6, 7, 8, 9])
 (.block 0 (.loop (sg c13L0)))) (sg c13S2))
noncomputable def c13S4 (_ : Unit) : Cmd := (.seq (.ops [
 ⟨some 7, .assign (.const (.string (ofL []))), 9, none⟩] [0, 6, 7])
 (.seq (.ops [
 ⟨some 19, .move (.tmp 0), 22, none⟩,
 ⟨some 20, .call ⟨.value (.func 25), #[(.tmp 19)], #[22]⟩, 43, none⟩,
 ⟨some 8, .assign (.tmp 20), 43, none⟩] [6, 7, 8]) (sg c13S3)))
noncomputable def c13S5 (_ : Unit) : Cmd := (.seq (.ops [
 ⟨some 16, .move (.tmp 0), 22, none⟩,
 ⟨some 17, .move (.tmp 1), 3, none⟩,
 ⟨some 18, .call ⟨.value (.func 44), #[(.tmp 16), (.tmp 17)], #[22, 3]⟩, 75, none⟩,
 ⟨some 6, .alloc 75, 0, none⟩,
 ⟨none, .store 75 (.tmp 6) (.tmp 18), 0, none⟩] [0, 6]) (sg c13S4))
noncomputable def c13 : Cmd := (.seq (.ops [
 ⟨some 4, .assign (.const (.string (ofL []))), 9, none⟩,
 ⟨some 5, .assign (.const (.int .i64 0)), 3, none⟩] [0, 1])
 (.seq (.seq (.ops [
 ⟨some 10, .move (.tmp 1), 3, none⟩,
 ⟨some 11, .binOp .lss 3 (.tmp 10) (.const (.int .i64 8)) 3, 4, none⟩,
 ⟨some 12, .move (.tmp 11), 4, none⟩,
 ⟨some 13, .move (.tmp 1), 3, (some (12, false))⟩,
 ⟨some 14, .binOp .gtr 3 (.tmp 13) (.const (.int .i64 200)) 3, 4, (some (12, false))⟩,
 ⟨some 15, .pick (.tmp 12) (.const (.bool true)) (.tmp 14), 4, none⟩] [0, 1, 15])
 (.cond (.tmp 15)
  (.seq (.ops [
  ⟨some 4, .assign (.const (.string (ofL []))), 9, none⟩,
  ⟨some 5, .assign (.const (.int .i64 1)), 3, none⟩] [4, 5])
  .ret)
  (.skip [0, 1]))) (sg c13S5)))
noncomputable def c13D0 : List (Nat × Ins) := [
 (0, ⟨some 27, .move (.tmp 7), 9, none⟩),
 (0, ⟨some 28, .binOp .add 9 (.tmp 27) (.const (.string (ofL [111, 98, 106, 101, 99, 116, 32]))) 9, 9, none⟩),
 (0, ⟨some 29, .move (.tmp 8), 43, none⟩),
 (0, ⟨some 30, .move (.tmp 9), 3, none⟩),
 (0, ⟨some 31, .indexAddr 43 (.tmp 29) (.tmp 30), 0, none⟩),
 (0, ⟨some 32, .fieldAddr 51 (.tmp 31) 0, 0, none⟩),
 (0, ⟨some 38, .move (.tmp 8), 43, none⟩),
 (0, ⟨some 39, .move (.tmp 9), 3, none⟩),
 (0, ⟨some 40, .indexAddr 43 (.tmp 38) (.tmp 39), 0, none⟩),
 (0, ⟨some 41, .fieldAddr 51 (.tmp 40) 2, 0, none⟩),
 (0, ⟨some 48, .move (.tmp 8), 43, none⟩),
 (0, ⟨some 49, .move (.tmp 9), 3, none⟩),
 (0, ⟨some 50, .indexAddr 43 (.tmp 48) (.tmp 49), 0, none⟩),
 (1, ⟨some 33, .load 3 (.tmp 32), 3, none⟩),
 (1, ⟨some 37, .load 75 (.tmp 6), 75, none⟩),
 (1, ⟨some 42, .load 22 (.tmp 41), 22, none⟩),
 (1, ⟨some 47, .load 75 (.tmp 6), 75, none⟩),
 (1, ⟨some 51, .load 51 (.tmp 50), 51, none⟩),
 (2, ⟨some 34, .call ⟨.value (.func 45), #[(.tmp 33)], #[3]⟩, 9, none⟩),
 (0, ⟨some 35, .binOp .add 9 (.tmp 28) (.tmp 34) 9, 9, none⟩),
 (0, ⟨some 36, .binOp .add 9 (.tmp 35) (.const (.string (ofL [10]))) 9, 9, none⟩),
 (2, ⟨some 43, .call ⟨.value (.func 46), #[(.tmp 37), (.tmp 42)], #[75, 22]⟩, 9, none⟩),
 (0, ⟨some 44, .binOp .add 9 (.tmp 36) (.tmp 43) 9, 9, none⟩),
 (2, ⟨some 45, .call ⟨.value (.func 47), #[(.const (.string (ofL [])))], #[9]⟩, 9, none⟩),
 (0, ⟨some 46, .binOp .add 9 (.tmp 44) (.tmp 45) 9, 9, none⟩),
 (2, ⟨some 52, .call ⟨.value (.func 49), #[(.tmp 51)], #[51]⟩, 43, none⟩),
 (2, ⟨some 53, .call ⟨.value (.func 48), #[(.tmp 47), (.tmp 52)], #[75, 43]⟩, 9, none⟩),
 (0, ⟨some 54, .binOp .add 9 (.tmp 46) (.tmp 53) 9, 9, none⟩),
 (0, ⟨some 55, .binOp .add 9 (.tmp 54) (.const (.string (ofL [10]))) 9, 9, none⟩),
 (0, ⟨some 7, .assign (.tmp 55), 9, none⟩)]
theorem c13draw0 {L : List Nat} {ρ : Env} {w : World} {Q : Post} (S : World → Prop) (hS : S w.drew) (h : DG Tryz.prog S c13D0 L ρ w.drew Q) : drawW Tryz.prog (drawOps 0 c13code) L ρ w Q :=
  drawW_held [6, 10, 15, 20, 24] [(0, 0), (0, 1), (0, 2), (0, 3), (0, 4), (0, 5), (0, 11), (0, 12), (0, 13), (0, 14), (0, 21), (0, 22), (0, 23), (1, 6), (1, 10), (1, 15), (1, 20), (1, 24), (2, 7), (0, 8), (0, 9), (2, 16), (0, 17), (2, 18), (0, 19), (2, 25), (2, 26), (0, 27), (0, 28), (0, 29)] c13D0 (by kernel_rfl) (by kernel_rfl) (by kernel_rfl) S hS h
set_option maxRecDepth 100000 in
theorem ent13 (a0 a1 : Value) (w : World) (K : Value → World → Prop) (h : W Tryz.prog c13 [(0, a0), (1, a1)] w (finQ Tryz.prog [.tmp 4, .tmp 5] K)) : Ret Tryz.prog 13 [a0, a1] w K :=
  Ret_of_W (code := c13code) Tryz.func13 (by kernel_rfl) (by kernel_rfl) (of_decide_eq_true (by kernel_rfl)) h
@[go_sem] theorem go13 : goFunc Tryz.prog 13 = true := by kernel_rfl
@[go_sem] theorem go14 : goFunc Tryz.prog 14 = true := by kernel_rfl
@[go_sem] theorem go15 : goFunc Tryz.prog 15 = true := by kernel_rfl
@[go_sem] theorem go16 : goFunc Tryz.prog 16 = true := by kernel_rfl
@[go_sem] theorem go17 : goFunc Tryz.prog 17 = true := by kernel_rfl
@[go_sem] theorem go18 : goFunc Tryz.prog 18 = true := by kernel_rfl
noncomputable def c19code : Code := match Tryz.f19.body with | some c => c | none => .skip
noncomputable def c19S0 (_ : Unit) : Cmd := (.ops [
 ⟨some 15, .move (.tmp 8), 3, none⟩,
 ⟨some 16, .binOp .add 3 (.tmp 15) (.const (.int .i64 1)) 3, 3, none⟩,
 ⟨some 8, .assign (.tmp 16), 3, none⟩] [0, 3, 4, 5, 6, 7, 8])
noncomputable def c19S1 (_ : Unit) : Cmd := (.seq (.block 3 (.seq (.ops [
 ⟨some 17, .move (.tmp 5), 4, none⟩,
 ⟨some 18, .unOp .not 4 (.tmp 17), 4, none⟩,
 ⟨some 19, .move (.tmp 18), 4, none⟩,
 ⟨some 20, .move (.tmp 0), 22, (some (19, false))⟩,
 ⟨some 21, .move (.tmp 8), 3, (some (19, false))⟩,
 ⟨some 22, .indexAddr 22 (.tmp 20) (.tmp 21), 0, (some (19, false))⟩,
 ⟨some 23, .fieldAddr 56 (.tmp 22) 1, 0, (some (19, false))⟩,
 ⟨some 24, .load 3 (.tmp 23), 3, (some (19, false))⟩,
 ⟨some 25, .move (.tmp 4), 3, (some (19, false))⟩,
 ⟨some 26, .binOp .gtr 3 (.tmp 24) (.tmp 25) 3, 4, (some (19, false))⟩,
 ⟨some 27, .pick (.tmp 19) (.const (.bool true)) (.tmp 26), 4, none⟩,
 ⟨some 28, .move (.tmp 27), 4, none⟩,
 ⟨some 29, .move (.tmp 7), 4, (some (28, true))⟩,
 ⟨some 30, .unOp .not 4 (.tmp 29), 4, (some (28, true))⟩,
 ⟨some 31, .move (.tmp 30), 4, (some (28, true))⟩,
 ⟨some 32, .move (.tmp 0), 22, (some (31, false))⟩,
 ⟨some 33, .move (.tmp 8), 3, (some (31, false))⟩,
 ⟨some 34, .indexAddr 22 (.tmp 32) (.tmp 33), 0, (some (31, false))⟩,
 ⟨some 35, .fieldAddr 56 (.tmp 34) 1, 0, (some (31, false))⟩,
 ⟨some 36, .load 3 (.tmp 35), 3, (some (31, false))⟩,
 ⟨some 37, .move (.tmp 6), 3, (some (31, false))⟩,
 ⟨some 38, .binOp .lss 3 (.tmp 36) (.tmp 37) 3, 4, (some (31, false))⟩,
 ⟨some 39, .pick (.tmp 31) (.const (.bool true)) (.tmp 38), 4, (some (28, true))⟩,
 ⟨some 40, .pick (.tmp 28) (.tmp 39) (.const (.bool false)), 4, none⟩] [0, 3, 4, 5, 6, 7, 8, 40])
 (.cond (.tmp 40)
  (.ops [
  ⟨some 41, .move (.tmp 0), 22, none⟩,
  ⟨some 42, .move (.tmp 8), 3, none⟩,
  ⟨some 43, .indexAddr 22 (.tmp 41) (.tmp 42), 0, none⟩,
  ⟨some 44, .fieldAddr 56 (.tmp 43) 1, 0, none⟩,
  ⟨some 45, .load 3 (.tmp 44), 3, none⟩,
  ⟨some 6, .assign (.tmp 45), 3, none⟩,
  ⟨some 7, .assign (.const (.bool true)), 4, none⟩] [0, 3, 4, 5, 6, 7, 8])
  (.skip [0, 3, 4, 5, 6, 7, 8])))) (sg c19S0))
noncomputable def c19L0 (_ : Unit) : Cmd := (.seq (.seq (.ops [
 ⟨some 11, .move (.tmp 8), 3, none⟩,
 ⟨some 12, .move (.tmp 0), 22, none⟩,
 ⟨some 13, .call ⟨.builtin .len, #[(.tmp 12)], #[22]⟩, 3, none⟩,
 ⟨some 14, .binOp .lss 3 (.tmp 11) (.tmp 13) 3, 4, none⟩] [0, 3, 4, 5, 6, 7, 8, 14])
 (.cond (.tmp 14)
  (.skip [0, 3, 4, 5, 6, 7, 8])
  (.exit 2 [0, 3, 6, 7]))) (sg c19S1))
noncomputable def c19S2 (_ : Unit) : Cmd := (.ops [
 ⟨some 53, .move (.tmp 10), 3, none⟩,
 ⟨some 54, .binOp .add 3 (.tmp 53) (.const (.int .i64 1)) 3, 3, none⟩,
 ⟨some 10, .assign (.tmp 54), 3, none⟩] [0, 3, 6, 9, 10])
noncomputable def c19S3 (_ : Unit) : Cmd := (.seq (.block 5 (.seq (.ops [
 ⟨some 55, .move (.tmp 0), 22, none⟩,
 ⟨some 56, .move (.tmp 10), 3, none⟩,
 ⟨some 57, .indexAddr 22 (.tmp 55) (.tmp 56), 0, none⟩,
 ⟨some 58, .fieldAddr 56 (.tmp 57) 1, 0, none⟩,
 ⟨some 59, .load 3 (.tmp 58), 3, none⟩,
 ⟨some 60, .move (.tmp 6), 3, none⟩,
 ⟨some 61, .binOp .eql 3 (.tmp 59) (.tmp 60) 3, 4, none⟩] [0, 3, 6, 9, 10, 61])
 (.cond (.tmp 61)
  (.ops [
  ⟨some 62, .move (.tmp 9), 22, none⟩,
  ⟨some 63, .move (.tmp 0), 22, none⟩,
  ⟨some 64, .move (.tmp 10), 3, none⟩,
  ⟨some 65, .indexAddr 22 (.tmp 63) (.tmp 64), 0, none⟩,
  ⟨some 66, .load 56 (.tmp 65), 56, none⟩,
  ⟨some 67, .buildSlice 22 1 #[(0, (.tmp 66))], 22, none⟩,
  ⟨some 68, .call ⟨.builtin .append, #[(.tmp 62), (.tmp 67)], #[22, 22]⟩, 22, none⟩,
  ⟨some 9, .assign (.tmp 68), 22, none⟩] [0, 3, 6, 9, 10])
  (.skip [0, 3, 6, 9, 10])))) (sg c19S2))
noncomputable def c19L1 (_ : Unit) : Cmd := (.seq (.seq (.ops [
 ⟨some 49, .move (.tmp 10), 3, none⟩,
 ⟨some 50, .move (.tmp 0), 22, none⟩,
 ⟨some 51, .call ⟨.builtin .len, #[(.tmp 50)], #[22]⟩, 3, none⟩,
 ⟨some 52, .binOp .lss 3 (.tmp 49) (.tmp 51) 3, 4, none⟩] [0, 3, 6, 9, 10, 52])
 (.cond (.tmp 52)
  (.skip [0, 3, 6, 9, 10])
  (.exit 4 [0, 3, 6, 9]))) (sg c19S3))
noncomputable def c19S4 (_ : Unit) : Cmd := (.ops [
 ⟨some 74, .move (.tmp 6), 3, none⟩,
 ⟨some 4, .assign (.tmp 74), 3, none⟩,
 ⟨some 5, .assign (.const (.bool true)), 4, none⟩] [0, 3, 4, 5])
noncomputable def c19S5 (_ : Unit) : Cmd := (.seq (.ops [
 ⟨some 69, .move (.tmp 3), 36, none⟩,
 ⟨some 70, .move (.tmp 9), 22, none⟩,
 ⟨some 71, .call ⟨.value (.func 58), #[(.tmp 70)], #[22]⟩, 22, none⟩,
 ⟨some 72, .buildSlice 36 1 #[(0, (.tmp 71))], 36, none⟩,
 ⟨some 73, .call ⟨.builtin .append, #[(.tmp 69), (.tmp 72)], #[36, 36]⟩, 36, none⟩,
 ⟨some 3, .assign (.tmp 73), 36, none⟩] [0, 3, 6]) (sg c19S4))
noncomputable def c19S6 (_ : Unit) : Cmd := (.seq (.ops [
 ⟨some 9, .assign (.const (.slice none 0 0)), 22, none⟩] [0, 3, 6, 9])
 (.seq (.seq (.ops [
 ⟨some 10, .assign (.const (.int .i64 0)), 3, none⟩] [0, 3, 6, 9, 10])
 (.block 4 (.loop (sg c19L1)))) (sg c19S5)))
noncomputable def c19S7 (_ : Unit) : Cmd := (.seq (.seq (.ops [
 ⟨some 46, .move (.tmp 7), 4, none⟩,
 ⟨some 47, .unOp .not 4 (.tmp 46), 4, none⟩] [0, 3, 6, 47])
 (.cond (.tmp 47)
  (.seq (.ops [
  ⟨some 48, .move (.tmp 3), 36, none⟩,
  ⟨some 2, .assign (.tmp 48), 36, none⟩] [2])
  .ret)
  (.skip [0, 3, 6]))) (sg c19S6))
noncomputable def c19L2 (_ : Unit) : Cmd := (.block 1 (.seq (.ops [
 ⟨some 6, .assign (.const (.int .i64 0)), 3, none⟩,
 ⟨some 7, .assign (.const (.bool false)), 4, none⟩] [0, 3, 4, 5, 6, 7])
 (.seq (.seq (.ops [
 ⟨some 8, .assign (.const (.int .i64 0)), 3, none⟩] [0, 3, 4, 5, 6, 7, 8])
 (.block 2 (.loop (sg c19L0)))) (sg c19S7))))
noncomputable def c19 : Cmd := (.seq (.ops [
 ⟨some 2, .assign (.const (.slice none 0 0)), 36, none⟩] [0])
 (.seq (.ops [
 ⟨some 3, .assign (.const (.slice none 0 0)), 36, none⟩] [0, 3])
 (.seq (.ops [
 ⟨some 4, .assign (.const (.int .i64 0)), 3, none⟩,
 ⟨some 5, .assign (.const (.bool false)), 4, none⟩] [0, 3, 4, 5])
 (.block 0 (.loop (sg c19L2))))))
set_option maxRecDepth 100000 in
theorem ent19 (a0 : Value) (w : World) (K : Value → World → Prop) (h : W Tryz.prog c19 [(0, a0)] w (finQ Tryz.prog [.tmp 2] K)) : Ret Tryz.prog 19 [a0] w K :=
  Ret_of_W (code := c19code) Tryz.func19 (by kernel_rfl) (by kernel_rfl) (of_decide_eq_true (by kernel_rfl)) h
@[go_sem] theorem go19 : goFunc Tryz.prog 19 = true := by kernel_rfl
@[go_sem] theorem go20 : goFunc Tryz.prog 20 = true := by kernel_rfl
@[go_sem] theorem go21 : goFunc Tryz.prog 21 = true := by kernel_rfl
@[go_sem] theorem go22 : goFunc Tryz.prog 22 = true := by kernel_rfl
@[go_sem] theorem go23 : goFunc Tryz.prog 23 = true := by kernel_rfl
@[go_sem] theorem go24 : goFunc Tryz.prog 24 = true := by kernel_rfl
noncomputable def c25code : Code := match Tryz.f25.body with | some c => c | none => .skip
noncomputable def c25S0 (_ : Unit) : Cmd := (.ops [
 ⟨some 15, .move (.tmp 8), 3, none⟩,
 ⟨some 16, .binOp .add 3 (.tmp 15) (.const (.int .i64 1)) 3, 3, none⟩,
 ⟨some 8, .assign (.tmp 16), 3, none⟩] [0, 3, 4, 5, 6, 7, 8])
noncomputable def c25S1 (_ : Unit) : Cmd := (.seq (.block 3 (.seq (.ops [
 ⟨some 17, .move (.tmp 5), 4, none⟩,
 ⟨some 18, .unOp .not 4 (.tmp 17), 4, none⟩,
 ⟨some 19, .move (.tmp 18), 4, none⟩,
 ⟨some 20, .move (.tmp 0), 22, (some (19, false))⟩,
 ⟨some 21, .move (.tmp 8), 3, (some (19, false))⟩,
 ⟨some 22, .indexAddr 22 (.tmp 20) (.tmp 21), 0, (some (19, false))⟩,
 ⟨some 23, .fieldAddr 56 (.tmp 22) 2, 0, (some (19, false))⟩,
 ⟨some 24, .load 3 (.tmp 23), 3, (some (19, false))⟩,
 ⟨some 25, .move (.tmp 4), 3, (some (19, false))⟩,
 ⟨some 26, .binOp .gtr 3 (.tmp 24) (.tmp 25) 3, 4, (some (19, false))⟩,
 ⟨some 27, .pick (.tmp 19) (.const (.bool true)) (.tmp 26), 4, none⟩,
 ⟨some 28, .move (.tmp 27), 4, none⟩,
 ⟨some 29, .move (.tmp 7), 4, (some (28, true))⟩,
 ⟨some 30, .unOp .not 4 (.tmp 29), 4, (some (28, true))⟩,
 ⟨some 31, .move (.tmp 30), 4, (some (28, true))⟩,
 ⟨some 32, .move (.tmp 0), 22, (some (31, false))⟩,
 ⟨some 33, .move (.tmp 8), 3, (some (31, false))⟩,
 ⟨some 34, .indexAddr 22 (.tmp 32) (.tmp 33), 0, (some (31, false))⟩,
 ⟨some 35, .fieldAddr 56 (.tmp 34) 2, 0, (some (31, false))⟩,
 ⟨some 36, .load 3 (.tmp 35), 3, (some (31, false))⟩,
 ⟨some 37, .move (.tmp 6), 3, (some (31, false))⟩,
 ⟨some 38, .binOp .lss 3 (.tmp 36) (.tmp 37) 3, 4, (some (31, false))⟩,
 ⟨some 39, .pick (.tmp 31) (.const (.bool true)) (.tmp 38), 4, (some (28, true))⟩,
 ⟨some 40, .pick (.tmp 28) (.tmp 39) (.const (.bool false)), 4, none⟩] [0, 3, 4, 5, 6, 7, 8, 40])
 (.cond (.tmp 40)
  (.ops [
  ⟨some 41, .move (.tmp 0), 22, none⟩,
  ⟨some 42, .move (.tmp 8), 3, none⟩,
  ⟨some 43, .indexAddr 22 (.tmp 41) (.tmp 42), 0, none⟩,
  ⟨some 44, .fieldAddr 56 (.tmp 43) 2, 0, none⟩,
  ⟨some 45, .load 3 (.tmp 44), 3, none⟩,
  ⟨some 6, .assign (.tmp 45), 3, none⟩,
  ⟨some 7, .assign (.const (.bool true)), 4, none⟩] [0, 3, 4, 5, 6, 7, 8])
  (.skip [0, 3, 4, 5, 6, 7, 8])))) (sg c25S0))
noncomputable def c25L0 (_ : Unit) : Cmd := (.seq (.seq (.ops [
 ⟨some 11, .move (.tmp 8), 3, none⟩,
 ⟨some 12, .move (.tmp 0), 22, none⟩,
 ⟨some 13, .call ⟨.builtin .len, #[(.tmp 12)], #[22]⟩, 3, none⟩,
 ⟨some 14, .binOp .lss 3 (.tmp 11) (.tmp 13) 3, 4, none⟩] [0, 3, 4, 5, 6, 7, 8, 14])
 (.cond (.tmp 14)
  (.skip [0, 3, 4, 5, 6, 7, 8])
  (.exit 2 [0, 3, 6, 7]))) (sg c25S1))
noncomputable def c25S2 (_ : Unit) : Cmd := (.ops [
 ⟨some 53, .move (.tmp 10), 3, none⟩,
 ⟨some 54, .binOp .add 3 (.tmp 53) (.const (.int .i64 1)) 3, 3, none⟩,
 ⟨some 10, .assign (.tmp 54), 3, none⟩] [0, 3, 6, 9, 10])
noncomputable def c25S3 (_ : Unit) : Cmd := (.seq (.block 5 (.seq (.ops [
 ⟨some 55, .move (.tmp 0), 22, none⟩,
 ⟨some 56, .move (.tmp 10), 3, none⟩,
 ⟨some 57, .indexAddr 22 (.tmp 55) (.tmp 56), 0, none⟩,
 ⟨some 58, .fieldAddr 56 (.tmp 57) 2, 0, none⟩,
 ⟨some 59, .load 3 (.tmp 58), 3, none⟩,
 ⟨some 60, .move (.tmp 6), 3, none⟩,
 ⟨some 61, .binOp .eql 3 (.tmp 59) (.tmp 60) 3, 4, none⟩] [0, 3, 6, 9, 10, 61])
 (.cond (.tmp 61)
  (.ops [
  ⟨some 62, .move (.tmp 9), 22, none⟩,
  ⟨some 63, .move (.tmp 0), 22, none⟩,
  ⟨some 64, .move (.tmp 10), 3, none⟩,
  ⟨some 65, .indexAddr 22 (.tmp 63) (.tmp 64), 0, none⟩,
  ⟨some 66, .load 56 (.tmp 65), 56, none⟩,
  ⟨some 67, .buildSlice 22 1 #[(0, (.tmp 66))], 22, none⟩,
  ⟨some 68, .call ⟨.builtin .append, #[(.tmp 62), (.tmp 67)], #[22, 22]⟩, 22, none⟩,
  ⟨some 9, .assign (.tmp 68), 22, none⟩] [0, 3, 6, 9, 10])
  (.skip [0, 3, 6, 9, 10])))) (sg c25S2))
noncomputable def c25L1 (_ : Unit) : Cmd := (.seq (.seq (.ops [
 ⟨some 49, .move (.tmp 10), 3, none⟩,
 ⟨some 50, .move (.tmp 0), 22, none⟩,
 ⟨some 51, .call ⟨.builtin .len, #[(.tmp 50)], #[22]⟩, 3, none⟩,
 ⟨some 52, .binOp .lss 3 (.tmp 49) (.tmp 51) 3, 4, none⟩] [0, 3, 6, 9, 10, 52])
 (.cond (.tmp 52)
  (.skip [0, 3, 6, 9, 10])
  (.exit 4 [0, 3, 6, 9]))) (sg c25S3))
noncomputable def c25S4 (_ : Unit) : Cmd := (.ops [
 ⟨some 81, .move (.tmp 6), 3, none⟩,
 ⟨some 4, .assign (.tmp 81), 3, none⟩,
 ⟨some 5, .assign (.const (.bool true)), 4, none⟩] [0, 3, 4, 5])
noncomputable def c25S5 (_ : Unit) : Cmd := (.seq (.ops [
 ⟨some 71, .move (.tmp 3), 43, none⟩,
 ⟨some 72, .move (.tmp 6), 3, none⟩,
 ⟨some 73, .move (.tmp 9), 22, none⟩,
 ⟨some 74, .indexAddr 22 (.tmp 73) (.const (.int .i64 0)), 0, none⟩,
 ⟨some 75, .fieldAddr 56 (.tmp 74) 3, 0, none⟩,
 ⟨some 76, .load 3 (.tmp 75), 3, none⟩,
 ⟨some 77, .move (.tmp 9), 22, none⟩,
 ⟨some 78, .build 51 #[(0, (.tmp 72)), (1, (.tmp 76)), (2, (.tmp 77))], 51, none⟩,
 ⟨some 79, .buildSlice 43 1 #[(0, (.tmp 78))], 43, none⟩,
 ⟨some 80, .call ⟨.builtin .append, #[(.tmp 71), (.tmp 79)], #[43, 43]⟩, 43, none⟩,
 ⟨some 3, .assign (.tmp 80), 43, none⟩] [0, 3, 6]) (sg c25S4))
noncomputable def c25S6 (_ : Unit) : Cmd := (.seq (.ops [
 ⟨some 69, .move (.tmp 9), 22, none⟩,
 ⟨some 70, .call ⟨.value (.func 58), #[(.tmp 69)], #[22]⟩, 22, none⟩,
 ⟨some 9, .assign (.tmp 70), 22, none⟩] [0, 3, 6, 9]) (sg c25S5))
noncomputable def c25S7 (_ : Unit) : Cmd := (.seq (.ops [
 ⟨some 9, .assign (.const (.slice none 0 0)), 22, none⟩] [0, 3, 6, 9])
 (.seq (.seq (.ops [
 ⟨some 10, .assign (.const (.int .i64 0)), 3, none⟩] [0, 3, 6, 9, 10])
 (.block 4 (.loop (sg c25L1)))) (sg c25S6)))
noncomputable def c25S8 (_ : Unit) : Cmd := (.seq (.seq (.ops [
 ⟨some 46, .move (.tmp 7), 4, none⟩,
 ⟨some 47, .unOp .not 4 (.tmp 46), 4, none⟩] [0, 3, 6, 47])
 (.cond (.tmp 47)
  (.seq (.ops [
  ⟨some 48, .move (.tmp 3), 43, none⟩,
  ⟨some 2, .assign (.tmp 48), 43, none⟩] [2])
  .ret)
  (.skip [0, 3, 6]))) (sg c25S7))
noncomputable def c25L2 (_ : Unit) : Cmd := (.block 1 (.seq (.ops [
 ⟨some 6, .assign (.const (.int .i64 0)), 3, none⟩,
 ⟨some 7, .assign (.const (.bool false)), 4, none⟩] [0, 3, 4, 5, 6, 7])
 (.seq (.seq (.ops [
 ⟨some 8, .assign (.const (.int .i64 0)), 3, none⟩] [0, 3, 4, 5, 6, 7, 8])
 (.block 2 (.loop (sg c25L0)))) (sg c25S8))))
noncomputable def c25 : Cmd := (.seq (.ops [
 ⟨some 2, .assign (.const (.slice none 0 0)), 43, none⟩] [0])
 (.seq (.ops [
 ⟨some 3, .assign (.const (.slice none 0 0)), 43, none⟩] [0, 3])
 (.seq (.ops [
 ⟨some 4, .assign (.const (.int .i64 0)), 3, none⟩,
 ⟨some 5, .assign (.const (.bool false)), 4, none⟩] [0, 3, 4, 5])
 (.block 0 (.loop (sg c25L2))))))
set_option maxRecDepth 100000 in
theorem ent25 (a0 : Value) (w : World) (K : Value → World → Prop) (h : W Tryz.prog c25 [(0, a0)] w (finQ Tryz.prog [.tmp 2] K)) : Ret Tryz.prog 25 [a0] w K :=
  Ret_of_W (code := c25code) Tryz.func25 (by kernel_rfl) (by kernel_rfl) (of_decide_eq_true (by kernel_rfl)) h
@[go_sem] theorem go25 : goFunc Tryz.prog 25 = true := by kernel_rfl
@[go_sem] theorem go26 : goFunc Tryz.prog 26 = true := by kernel_rfl
@[go_sem] theorem go27 : goFunc Tryz.prog 27 = true := by kernel_rfl
@[go_sem] theorem go28 : goFunc Tryz.prog 28 = true := by kernel_rfl
noncomputable def c29code : Code := match Tryz.f29.body with | some c => c | none => .skip
noncomputable def c29S0 (_ : Unit) : Cmd := (.ops [
 ⟨some 26, .binOp .add 3 (.tmp 12) (.const (.int .i64 1)) 3, 3, none⟩,
 ⟨some 12, .move (.tmp 26), 3, none⟩] [3, 10, 11, 12])
noncomputable def c29S1 (_ : Unit) : Cmd := (.seq (.block 1 (.seq (.ops [
 ⟨some 14, .indexAddr 22 (.tmp 10) (.tmp 12), 0, none⟩,
 ⟨some 15, .load 56 (.tmp 14), 56, none⟩,
 ⟨some 5, .alloc 56, 0, none⟩,
 ⟨none, .store 56 (.tmp 5) (.tmp 15), 0, none⟩] [3, 5, 10, 11, 12])
 (.draw (drawOps 0 c29code) [3, 10, 11, 12]))) (sg c29S0))
noncomputable def c29L0 (_ : Unit) : Cmd := (.seq (.ops [
 ⟨some 13, .binOp .lss 3 (.tmp 12) (.tmp 11) 3, 0, none⟩] [3, 10, 11, 12, 13])
 (.seq (.cond (.tmp 13)
  (.skip [3, 10, 11, 12])
  (.exit 0 [3])) (sg c29S1)))
noncomputable def c29S2 (_ : Unit) : Cmd := (.ops [
 ⟨some 39, .move (.tmp 6), 36, none⟩,
 ⟨some 40, .move (.tmp 3), 117, none⟩,
 ⟨some 41, .move (.tmp 8), 3, none⟩,
 ⟨some 42, .lookup 117 (.tmp 40) (.tmp 41) false, 22, none⟩,
 ⟨some 43, .buildSlice 36 1 #[(0, (.tmp 42))], 36, none⟩,
 ⟨some 44, .call ⟨.builtin .append, #[(.tmp 39), (.tmp 43)], #[36, 36]⟩, 36, none⟩,
 ⟨some 6, .assign (.tmp 44), 36, none⟩] [3, 6, 29, 30, 31])
noncomputable def c29S3 (_ : Unit) : Cmd := (.ops [
 ⟨some 45, .binOp .add 3 (.tmp 31) (.const (.int .i64 1)) 3, 3, none⟩,
 ⟨some 31, .move (.tmp 45), 3, none⟩] [3, 6, 29, 30, 31])
noncomputable def c29S4 (_ : Unit) : Cmd := (.seq (.block 3 (.seq (.ops [
 ⟨some 33, .indexAddr 31 (.tmp 29) (.tmp 31), 0, none⟩,
 ⟨some 34, .load 3 (.tmp 33), 3, none⟩,
 ⟨some 8, .assign (.tmp 34), 3, none⟩] [3, 6, 8, 29, 30, 31])
 (.seq (.ops [
 ⟨some 35, .move (.tmp 3), 117, none⟩,
 ⟨some 36, .move (.tmp 8), 3, none⟩,
 ⟨some 37, .lookup 117 (.tmp 35) (.tmp 36) false, 22, none⟩,
 ⟨some 38, .call ⟨.value (.func 71), #[(.tmp 37), (.func 72)], #[22, 125]⟩, 0, none⟩] [3, 6, 8, 29, 30, 31]) (sg c29S2)))) (sg c29S3))
noncomputable def c29L1 (_ : Unit) : Cmd := (.seq (.ops [
 ⟨some 32, .binOp .lss 3 (.tmp 31) (.tmp 30) 3, 0, none⟩] [3, 6, 29, 30, 31, 32])
 (.seq (.cond (.tmp 32)
  (.skip [3, 6, 29, 30, 31])
  (.exit 2 [6])) (sg c29S4)))
noncomputable def c29S5 (_ : Unit) : Cmd := (.block 2 (.loop (sg c29L1)))
noncomputable def c29S6 (_ : Unit) : Cmd := (.seq (.ops [
 ⟨some 46, .move (.tmp 6), 36, none⟩,
 ⟨some 2, .assign (.tmp 46), 36, none⟩] [2])
 .ret)
noncomputable def c29S7 (_ : Unit) : Cmd := (.seq (.ops [
 ⟨some 6, .assign (.const (.slice none 0 0)), 36, none⟩] [3, 6])
 (.seq (.seq (.ops [
 ⟨some 27, .move (.tmp 3), 117, none⟩,
 ⟨some 28, .call ⟨.value (.func 70), #[(.tmp 27)], #[117]⟩, 120, none⟩,
 ⟨some 29, .call ⟨.value (.func 69), #[(.tmp 28)], #[120]⟩, 31, none⟩,
 ⟨some 30, .call ⟨.builtin .len, #[(.tmp 29)], #[31]⟩, 3, none⟩,
 ⟨some 31, .move (.const (.int .i64 0)), 3, none⟩] [3, 6, 29, 30, 31]) (sg c29S5)) (sg c29S6)))
noncomputable def c29 : Cmd := (.seq (.ops [
 ⟨some 2, .assign (.const (.slice none 0 0)), 36, none⟩] [0])
 (.seq (.ops [
 ⟨some 9, .makeMap 117 none, 117, none⟩,
 ⟨some 3, .assign (.tmp 9), 117, none⟩] [0, 3])
 (.seq (.seq (.ops [
 ⟨some 10, .move (.tmp 0), 22, none⟩,
 ⟨some 11, .call ⟨.builtin .len, #[(.tmp 10)], #[22]⟩, 3, none⟩,
 ⟨some 12, .move (.const (.int .i64 0)), 3, none⟩] [3, 10, 11, 12])
 (.block 0 (.loop (sg c29L0)))) (sg c29S7))))
noncomputable def c29D0 : GT := (.one 0 ⟨some 16, .move (.tmp 3), 117, none⟩
 (.one 0 ⟨some 17, .fieldAddr 56 (.tmp 5) 1, 0, none⟩
 (.one 0 ⟨some 19, .move (.tmp 3), 117, none⟩
 (.one 0 ⟨some 20, .fieldAddr 56 (.tmp 5) 1, 0, none⟩
 (.one 1 ⟨some 18, .load 3 (.tmp 17), 3, none⟩
 (.one 1 ⟨some 21, .load 3 (.tmp 20), 3, none⟩
 (.one 1 ⟨some 23, .load 56 (.tmp 5), 56, none⟩
 (.alt ⟨some 22, .lookup 117 (.tmp 19) (.tmp 21) false, 22, none⟩
 (.one 2 ⟨some 24, .buildSlice 22 1 #[(0, (.tmp 23))], 22, none⟩
 (.one 2 ⟨some 25, .call ⟨.builtin .append, #[(.tmp 22), (.tmp 24)], #[22, 22]⟩, 22, none⟩
 (.one 2 ⟨none, .mapUpdate 117 (.tmp 16) (.tmp 18) (.tmp 25), 0, none⟩
 .nil)))
 (.alt ⟨some 24, .buildSlice 22 1 #[(0, (.tmp 23))], 22, none⟩
 (.one 2 ⟨some 22, .lookup 117 (.tmp 19) (.tmp 21) false, 22, none⟩
 (.one 2 ⟨some 25, .call ⟨.builtin .append, #[(.tmp 22), (.tmp 24)], #[22, 22]⟩, 22, none⟩
 (.one 2 ⟨none, .mapUpdate 117 (.tmp 16) (.tmp 18) (.tmp 25), 0, none⟩
 .nil)))
 .stop)))))))))
theorem c29draw0 {L : List Nat} {ρ : Env} {w : World} {Q : Post} (S : World → Prop) (hS : S w.drew) (h : DT Tryz.prog S c29D0 L ρ w.drew Q) : drawW Tryz.prog (drawOps 0 c29code) L ρ w Q :=
  drawW_tree [2, 5, 7] (.one 0 0 (.one 0 1 (.one 0 3 (.one 0 4 (.one 1 2 (.one 1 5 (.one 1 7 (.alt 6 (.one 2 8 (.one 2 9 (.one 2 10 .nil))) (.alt 8 (.one 2 6 (.one 2 9 (.one 2 10 .nil))) .stop))))))))) c29D0 (by kernel_rfl) (by kernel_rfl) (by kernel_rfl) S hS h
set_option maxRecDepth 100000 in
theorem ent29 (a0 : Value) (w : World) (K : Value → World → Prop) (h : W Tryz.prog c29 [(0, a0)] w (finQ Tryz.prog [.tmp 2] K)) : Ret Tryz.prog 29 [a0] w K :=
  Ret_of_W (code := c29code) Tryz.func29 (by kernel_rfl) (by kernel_rfl) (of_decide_eq_true (by kernel_rfl)) h
@[go_sem] theorem go29 : goFunc Tryz.prog 29 = true := by kernel_rfl
@[go_sem] theorem go30 : goFunc Tryz.prog 30 = true := by kernel_rfl
@[go_sem] theorem go31 : goFunc Tryz.prog 31 = true := by kernel_rfl
@[go_sem] theorem go32 : goFunc Tryz.prog 32 = true := by kernel_rfl
noncomputable def c33code : Code := match Tryz.f33.body with | some c => c | none => .skip
noncomputable def c33S0 (_ : Unit) : Cmd := (.cond (.tmp 39)
  (.seq (.ops [
  ⟨some 2, .assign (.const (.int .i64 7)), 3, none⟩] [2])
  .ret)
  (.skip [0, 3]))
noncomputable def c33S1 (_ : Unit) : Cmd := (.seq (.draw (drawOps 0 c33code) [0, 3, 39]) (sg c33S0))
noncomputable def c33S2 (_ : Unit) : Cmd := (.seq (.seq (.ops [
 ⟨some 21, .move (.tmp 4), 3, none⟩,
 ⟨some 22, .binOp .neq 3 (.tmp 21) (.const (.int .i64 0)) 3, 4, none⟩] [0, 3, 4, 22])
 (.cond (.tmp 22)
  (.seq (.ops [
  ⟨some 23, .move (.tmp 4), 3, none⟩,
  ⟨some 2, .assign (.tmp 23), 3, none⟩] [2])
  .ret)
  (.skip [0, 3]))) (sg c33S1))
noncomputable def c33S3 (_ : Unit) : Cmd := (.ops [
 ⟨some 14, .move (.tmp 3), 3, none⟩,
 ⟨some 15, .binOp .add 3 (.tmp 14) (.const (.int .i64 1)) 3, 3, none⟩,
 ⟨some 3, .assign (.tmp 15), 3, none⟩] [0, 3])
noncomputable def c33S4 (_ : Unit) : Cmd := (.seq (.block 1 (.seq (.ops [
 ⟨some 16, .move (.tmp 0), 22, none⟩,
 ⟨some 17, .move (.tmp 3), 3, none⟩,
 ⟨some 18, .indexAddr 22 (.tmp 16) (.tmp 17), 0, none⟩,
 ⟨some 19, .load 56 (.tmp 18), 56, none⟩,
 ⟨some 20, .call ⟨.value (.func 55), #[(.tmp 19)], #[56]⟩, 3, none⟩,
 ⟨some 4, .assign (.tmp 20), 3, none⟩] [0, 3, 4]) (sg c33S2))) (sg c33S3))
noncomputable def c33L0 (_ : Unit) : Cmd := (.seq (.seq (.ops [
 ⟨some 10, .move (.tmp 3), 3, none⟩,
 ⟨some 11, .move (.tmp 0), 22, none⟩,
 ⟨some 12, .call ⟨.builtin .len, #[(.tmp 11)], #[22]⟩, 3, none⟩,
 ⟨some 13, .binOp .lss 3 (.tmp 10) (.tmp 12) 3, 4, none⟩] [0, 3, 13])
 (.cond (.tmp 13)
  (.skip [0, 3])
  (.exit 0 [0]))) (sg c33S4))
noncomputable def c33S5 (_ : Unit) : Cmd := (.seq (.ops [
 ⟨some 52, .move (.tmp 6), 3, none⟩,
 ⟨some 53, .binOp .neq 3 (.tmp 52) (.const (.int .i64 0)) 3, 4, none⟩] [0, 5, 6, 53])
 (.cond (.tmp 53)
  (.seq (.ops [
  ⟨some 54, .move (.tmp 6), 3, none⟩,
  ⟨some 2, .assign (.tmp 54), 3, none⟩] [2])
  .ret)
  (.skip [0, 5])))
noncomputable def c33S6 (_ : Unit) : Cmd := (.ops [
 ⟨some 44, .move (.tmp 5), 3, none⟩,
 ⟨some 45, .binOp .add 3 (.tmp 44) (.const (.int .i64 1)) 3, 3, none⟩,
 ⟨some 5, .assign (.tmp 45), 3, none⟩] [0, 5])
noncomputable def c33S7 (_ : Unit) : Cmd := (.seq (.block 3 (.seq (.ops [
 ⟨some 46, .move (.tmp 0), 22, none⟩,
 ⟨some 47, .move (.tmp 0), 22, none⟩,
 ⟨some 48, .move (.tmp 5), 3, none⟩,
 ⟨some 49, .indexAddr 22 (.tmp 47) (.tmp 48), 0, none⟩,
 ⟨some 50, .load 56 (.tmp 49), 56, none⟩,
 ⟨some 51, .call ⟨.value (.func 75), #[(.tmp 46), (.tmp 50)], #[22, 56]⟩, 3, none⟩,
 ⟨some 6, .assign (.tmp 51), 3, none⟩] [0, 5, 6]) (sg c33S5))) (sg c33S6))
noncomputable def c33L1 (_ : Unit) : Cmd := (.seq (.seq (.ops [
 ⟨some 40, .move (.tmp 5), 3, none⟩,
 ⟨some 41, .move (.tmp 0), 22, none⟩,
 ⟨some 42, .call ⟨.builtin .len, #[(.tmp 41)], #[22]⟩, 3, none⟩,
 ⟨some 43, .binOp .lss 3 (.tmp 40) (.tmp 42) 3, 4, none⟩] [0, 5, 43])
 (.cond (.tmp 43)
  (.skip [0, 5])
  (.exit 2 []))) (sg c33S7))
noncomputable def c33S8 (_ : Unit) : Cmd := (.seq (.ops [
 ⟨some 2, .assign (.const (.int .i64 0)), 3, none⟩] [2])
 .ret)
noncomputable def c33S9 (_ : Unit) : Cmd := (.seq (.seq (.ops [
 ⟨some 5, .assign (.const (.int .i64 0)), 3, none⟩] [0, 5])
 (.block 2 (.loop (sg c33L1)))) (sg c33S8))
noncomputable def c33S10 (_ : Unit) : Cmd := (.seq (.seq (.ops [
 ⟨some 3, .assign (.const (.int .i64 0)), 3, none⟩] [0, 3])
 (.block 0 (.loop (sg c33L0)))) (sg c33S9))
noncomputable def c33 : Cmd := (.seq (.ops [
 ⟨some 2, .assign (.const (.int .i64 0)), 3, none⟩] [0])
 (.seq (.seq (.ops [
 ⟨some 7, .move (.tmp 0), 22, none⟩,
 ⟨some 8, .call ⟨.builtin .len, #[(.tmp 7)], #[22]⟩, 3, none⟩,
 ⟨some 9, .binOp .gtr 3 (.tmp 8) (.const (.int .i64 64)) 3, 4, none⟩] [0, 9])
 (.cond (.tmp 9)
  (.seq (.ops [
  ⟨some 2, .assign (.const (.int .i64 34)), 3, none⟩] [2])
  .ret)
  (.skip [0]))) (sg c33S10)))
noncomputable def c33D0 : List (Bool × Ins) := [
 (true, ⟨some 24, .move (.tmp 3), 3, none⟩),
 (true, ⟨some 25, .binOp .gtr 3 (.tmp 24) (.const (.int .i64 0)) 3, 4, none⟩),
 (true, ⟨some 26, .move (.tmp 25), 4, none⟩),
 (true, ⟨some 27, .move (.tmp 0), 22, (some (26, true))⟩),
 (true, ⟨some 28, .move (.tmp 3), 3, (some (26, true))⟩),
 (true, ⟨some 29, .indexAddr 22 (.tmp 27) (.tmp 28), 0, (some (26, true))⟩),
 (true, ⟨some 30, .fieldAddr 56 (.tmp 29) 0, 0, (some (26, true))⟩),
 (false, ⟨some 31, .load 3 (.tmp 30), 3, (some (26, true))⟩),
 (true, ⟨some 32, .move (.tmp 0), 22, (some (26, true))⟩),
 (true, ⟨some 33, .move (.tmp 3), 3, (some (26, true))⟩),
 (true, ⟨some 34, .binOp .sub 3 (.tmp 33) (.const (.int .i64 1)) 3, 3, (some (26, true))⟩),
 (true, ⟨some 35, .indexAddr 22 (.tmp 32) (.tmp 34), 0, (some (26, true))⟩),
 (true, ⟨some 36, .fieldAddr 56 (.tmp 35) 0, 0, (some (26, true))⟩),
 (false, ⟨some 37, .load 3 (.tmp 36), 3, (some (26, true))⟩),
 (true, ⟨some 38, .binOp .leq 3 (.tmp 31) (.tmp 37) 3, 4, (some (26, true))⟩),
 (true, ⟨some 39, .pick (.tmp 26) (.tmp 38) (.const (.bool false)), 4, none⟩)]
theorem c33draw0 {L : List Nat} {ρ : Env} {w : World} {Q : Post} (h : DL Tryz.prog c33D0 L ρ w.drew Q) : drawW Tryz.prog (drawOps 0 c33code) L ρ w Q :=
  drawW_still [true, true, true, true, true, true, true, false, true, true, true, true, true, false, true, true] c33D0 (by kernel_rfl) (by kernel_rfl) (by kernel_rfl) h
set_option maxRecDepth 100000 in
theorem ent33 (a0 : Value) (w : World) (K : Value → World → Prop) (h : W Tryz.prog c33 [(0, a0)] w (finQ Tryz.prog [.tmp 2] K)) : Ret Tryz.prog 33 [a0] w K :=
  Ret_of_W (code := c33code) Tryz.func33 (by kernel_rfl) (by kernel_rfl) (of_decide_eq_true (by kernel_rfl)) h
@[go_sem] theorem go33 : goFunc Tryz.prog 33 = true := by kernel_rfl
noncomputable def c34code : Code := match Tryz.f34.body with | some c => c | none => .skip
noncomputable def c34S0 (_ : Unit) : Cmd := (.ops [
 ⟨some 39, .binOp .add 3 (.tmp 22) (.const (.int .i64 1)) 3, 3, none⟩,
 ⟨some 22, .move (.tmp 39), 3, none⟩] [6, 7, 20, 21, 22])
noncomputable def c34S1 (_ : Unit) : Cmd := (.seq (.block 1 (.seq (.ops [
 ⟨some 24, .indexAddr 36 (.tmp 20) (.tmp 22), 0, none⟩,
 ⟨some 25, .load 22 (.tmp 24), 22, none⟩,
 ⟨some 9, .assign (.tmp 25), 22, none⟩] [6, 7, 9, 20, 21, 22])
 (.draw (drawOps 0 c34code) [6, 7, 20, 21, 22]))) (sg c34S0))
noncomputable def c34L0 (_ : Unit) : Cmd := (.seq (.ops [
 ⟨some 23, .binOp .lss 3 (.tmp 22) (.tmp 21) 3, 0, none⟩] [6, 7, 20, 21, 22, 23])
 (.seq (.cond (.tmp 23)
  (.skip [6, 7, 20, 21, 22])
  (.exit 0 [7])) (sg c34S1)))
noncomputable def c34S2 (_ : Unit) : Cmd := (.block 0 (.loop (sg c34L0)))
noncomputable def c34S3 (_ : Unit) : Cmd := .ret
noncomputable def c34S4 (_ : Unit) : Cmd := (.seq (.ops [
 ⟨some 40, .call ⟨.value (.func 43), #[(.tmp 7)], #[63]⟩, 9, none⟩,
 ⟨some 4, .assign (.tmp 40), 9, none⟩,
 ⟨some 5, .assign (.const (.int .i64 0)), 25, none⟩] [4, 5]) (sg c34S3))
noncomputable def c34S5 (_ : Unit) : Cmd := (.seq (.ops [
 ⟨some 7, .alloc 63, 0, none⟩] [0, 6, 7])
 (.seq (.seq (.ops [
 ⟨some 19, .move (.tmp 0), 22, none⟩,
 ⟨some 20, .call ⟨.value (.func 29), #[(.tmp 19)], #[22]⟩, 36, none⟩,
 ⟨some 21, .call ⟨.builtin .len, #[(.tmp 20)], #[36]⟩, 3, none⟩,
 ⟨some 22, .move (.const (.int .i64 0)), 3, none⟩] [6, 7, 20, 21, 22]) (sg c34S2)) (sg c34S4)))
noncomputable def c34S6 (_ : Unit) : Cmd := (.seq (.ops [
 ⟨some 16, .move (.tmp 0), 22, none⟩,
 ⟨some 17, .move (.tmp 1), 3, none⟩,
 ⟨some 18, .call ⟨.value (.func 35), #[(.tmp 16), (.tmp 17)], #[22, 3]⟩, 58, none⟩,
 ⟨some 6, .alloc 58, 0, none⟩,
 ⟨none, .store 58 (.tmp 6) (.tmp 18), 0, none⟩] [0, 6]) (sg c34S5))
noncomputable def c34 : Cmd := (.seq (.ops [
 ⟨some 4, .assign (.const (.string (ofL []))), 9, none⟩,
 ⟨some 5, .assign (.const (.int .i64 0)), 25, none⟩] [0, 1])
 (.seq (.seq (.ops [
 ⟨some 10, .move (.tmp 1), 3, none⟩,
 ⟨some 11, .binOp .lss 3 (.tmp 10) (.const (.int .i64 8)) 3, 4, none⟩,
 ⟨some 12, .move (.tmp 11), 4, none⟩,
 ⟨some 13, .move (.tmp 1), 3, (some (12, false))⟩,
 ⟨some 14, .binOp .gtr 3 (.tmp 13) (.const (.int .i64 200)) 3, 4, (some (12, false))⟩,
 ⟨some 15, .pick (.tmp 12) (.const (.bool true)) (.tmp 14), 4, none⟩] [0, 1, 15])
 (.cond (.tmp 15)
  (.seq (.ops [
  ⟨some 4, .assign (.const (.string (ofL []))), 9, none⟩,
  ⟨some 5, .assign (.const (.int .i64 1)), 25, none⟩] [4, 5])
  .ret)
  (.skip [0, 1]))) (sg c34S6)))
noncomputable def c34D0 : List (Nat × Ins) := [
 (0, ⟨some 26, .move (.tmp 9), 22, none⟩),
 (0, ⟨some 27, .indexAddr 22 (.tmp 26) (.const (.int .i64 0)), 0, none⟩),
 (0, ⟨some 28, .fieldAddr 56 (.tmp 27) 1, 0, none⟩),
 (0, ⟨some 34, .move (.tmp 9), 22, none⟩),
 (1, ⟨some 29, .load 3 (.tmp 28), 3, none⟩),
 (1, ⟨some 33, .load 58 (.tmp 6), 58, none⟩),
 (2, ⟨some 30, .call ⟨.value (.func 38), #[(.tmp 29)], #[3]⟩, 9, none⟩),
 (0, ⟨some 31, .binOp .add 9 (.const (.string (ofL [112]))) (.tmp 30) 9, 9, none⟩),
 (2, ⟨some 32, .call ⟨.value (.func 39), #[(.tmp 31)], #[9]⟩, 9, none⟩),
 (2, ⟨some 35, .call ⟨.value (.func 40), #[(.tmp 33), (.tmp 34)], #[58, 22]⟩, 9, none⟩),
 (0, ⟨some 36, .binOp .add 9 (.tmp 32) (.tmp 35) 9, 9, none⟩),
 (0, ⟨some 37, .binOp .add 9 (.tmp 36) (.const (.string (ofL [10]))) 9, 9, none⟩),
 (2, ⟨some 38, .call ⟨.value (.func 37), #[(.tmp 7), (.tmp 37)], #[63, 9]⟩, 66, none⟩)]
theorem c34draw0 {L : List Nat} {ρ : Env} {w : World} {Q : Post} (S : World → Prop) (hS : S w.drew) (h : DG Tryz.prog S c34D0 L ρ w.drew Q) : drawW Tryz.prog (drawOps 0 c34code) L ρ w Q :=
  drawW_held [3, 7] [(0, 0), (0, 1), (0, 2), (0, 8), (1, 3), (1, 7), (2, 4), (0, 5), (2, 6), (2, 9), (0, 10), (0, 11), (2, 12)] c34D0 (by kernel_rfl) (by kernel_rfl) (by kernel_rfl) S hS h
set_option maxRecDepth 100000 in
theorem ent34 (a0 a1 : Value) (w : World) (K : Value → World → Prop) (h : W Tryz.prog c34 [(0, a0), (1, a1)] w (finQ Tryz.prog [.tmp 4, .tmp 5] K)) : Ret Tryz.prog 34 [a0, a1] w K :=
  Ret_of_W (code := c34code) Tryz.func34 (by kernel_rfl) (by kernel_rfl) (of_decide_eq_true (by kernel_rfl)) h
@[go_sem] theorem go34 : goFunc Tryz.prog 34 = true := by kernel_rfl
noncomputable def c35code : Code := match Tryz.f35.body with | some c => c | none => .skip
noncomputable def c35S0 (_ : Unit) : Cmd := (.ops [
 ⟨some 29, .binOp .add 3 (.tmp 19) (.const (.int .i64 1)) 3, 3, none⟩,
 ⟨some 19, .move (.tmp 29), 3, none⟩] [1, 4, 5, 6, 17, 18, 19])
noncomputable def c35S1 (_ : Unit) : Cmd := (.seq (.block 1 (.seq (.ops [
 ⟨some 21, .indexAddr 22 (.tmp 17) (.tmp 19), 0, none⟩,
 ⟨some 22, .load 56 (.tmp 21), 56, none⟩,
 ⟨some 8, .alloc 56, 0, none⟩,
 ⟨none, .store 56 (.tmp 8) (.tmp 22), 0, none⟩] [1, 4, 5, 6, 8, 17, 18, 19])
 (.ops [
 ⟨some 23, .move (.tmp 6), 3, none⟩,
 ⟨some 24, .fieldAddr 56 (.tmp 8) 9, 0, none⟩,
 ⟨some 25, .load 3 (.tmp 24), 3, none⟩,
 ⟨some 26, .fieldAddr 56 (.tmp 8) 10, 0, none⟩,
 ⟨some 27, .load 3 (.tmp 26), 3, none⟩,
 ⟨some 28, .call ⟨.builtin .max, #[(.tmp 23), (.tmp 25), (.tmp 27)], #[3, 3, 3]⟩, 3, none⟩,
 ⟨some 6, .assign (.tmp 28), 3, none⟩] [1, 4, 5, 6, 17, 18, 19]))) (sg c35S0))
noncomputable def c35L0 (_ : Unit) : Cmd := (.seq (.ops [
 ⟨some 20, .binOp .lss 3 (.tmp 19) (.tmp 18) 3, 0, none⟩] [1, 4, 5, 6, 17, 18, 19, 20])
 (.seq (.cond (.tmp 20)
  (.skip [1, 4, 5, 6, 17, 18, 19])
  (.exit 0 [1, 4, 5, 6])) (sg c35S1)))
noncomputable def c35S2 (_ : Unit) : Cmd := (.seq (.ops [
 ⟨some 30, .move (.tmp 5), 3, none⟩,
 ⟨some 31, .move (.tmp 6), 3, none⟩,
 ⟨some 32, .move (.tmp 1), 3, none⟩,
 ⟨some 33, .build 58 #[(0, (.tmp 30)), (1, (.tmp 31)), (2, (.tmp 32))], 58, none⟩,
 ⟨none, .store 58 (.tmp 4) (.tmp 33), 0, none⟩] [4])
 .ret)
noncomputable def c35S3 (_ : Unit) : Cmd := (.seq (.seq (.ops [
 ⟨some 14, .move (.tmp 6), 3, none⟩,
 ⟨some 15, .binOp .gtr 3 (.tmp 14) (.const (.int .i64 1099511627776)) 3, 4, none⟩] [0, 1, 4, 5, 6, 15])
 (.cond (.tmp 15)
  (.seq (.ops [
  ⟨some 16, .move (.tmp 5), 3, none⟩,
  ⟨some 6, .assign (.tmp 16), 3, none⟩] [0, 1, 4, 5, 6])
  (.seq (.ops [
  ⟨some 17, .move (.tmp 0), 22, none⟩,
  ⟨some 18, .call ⟨.builtin .len, #[(.tmp 17)], #[22]⟩, 3, none⟩,
  ⟨some 19, .move (.const (.int .i64 0)), 3, none⟩] [1, 4, 5, 6, 17, 18, 19])
  (.block 0 (.loop (sg c35L0)))))
  (.skip [1, 4, 5, 6]))) (sg c35S2))
noncomputable def c35 : Cmd := (.seq (.ops [
 ⟨some 4, .alloc 58, 0, none⟩] [0, 1, 4])
 (.seq (.ops [
 ⟨some 10, .move (.tmp 0), 22, none⟩,
 ⟨some 11, .call ⟨.value (.func 76), #[(.tmp 10)], #[22]⟩, 127, none⟩,
 ⟨some 9, .move (.tmp 11), 127, none⟩,
 ⟨some 12, .extract (.tmp 9) 0, 3, none⟩,
 ⟨some 13, .extract (.tmp 9) 1, 3, none⟩,
 ⟨some 5, .assign (.tmp 12), 3, none⟩,
 ⟨some 6, .assign (.tmp 13), 3, none⟩] [0, 1, 4, 5, 6]) (sg c35S3)))
set_option maxRecDepth 100000 in
theorem ent35 (a0 a1 : Value) (w : World) (K : Value → World → Prop) (h : W Tryz.prog c35 [(0, a0), (1, a1)] w (finQ Tryz.prog [.cell 4 58] K)) : Ret Tryz.prog 35 [a0, a1] w K :=
  Ret_of_W (code := c35code) Tryz.func35 (by kernel_rfl) (by kernel_rfl) (of_decide_eq_true (by kernel_rfl)) h
@[go_sem] theorem go35 : goFunc Tryz.prog 35 = true := by kernel_rfl
noncomputable def c36code : Code := match Tryz.f36.body with | some c => c | none => .skip
noncomputable def c36S0 (_ : Unit) : Cmd := (.ops [
  ⟨some 40, .move (.tmp 6), 3, none⟩,
  ⟨some 41, .binOp .add 3 (.tmp 40) (.const (.int .i64 1)) 3, 3, none⟩,
  ⟨some 6, .assign (.tmp 41), 3, none⟩] [3, 5, 6, 11, 12, 13])
noncomputable def c36S1 (_ : Unit) : Cmd := (.cond (.tmp 31)
  (.seq (.ops [
  ⟨some 32, .move (.tmp 3), 43, none⟩,
  ⟨some 33, .fieldAddr 56 (.tmp 5) 2, 0, none⟩,
  ⟨some 34, .load 3 (.tmp 33), 3, none⟩,
  ⟨some 35, .fieldAddr 56 (.tmp 5) 3, 0, none⟩,
  ⟨some 36, .load 3 (.tmp 35), 3, none⟩,
  ⟨some 37, .build 51 #[(0, (.tmp 34)), (1, (.tmp 36))], 51, none⟩,
  ⟨some 38, .buildSlice 43 1 #[(0, (.tmp 37))], 43, none⟩,
  ⟨some 39, .call ⟨.builtin .append, #[(.tmp 32), (.tmp 38)], #[43, 43]⟩, 43, none⟩,
  ⟨some 3, .assign (.tmp 39), 43, none⟩] [3, 5, 6, 11, 12, 13]) (sg c36S0))
  (.skip [3, 5, 6, 11, 12, 13]))
noncomputable def c36S2 (_ : Unit) : Cmd := (.draw (drawOps 1 c36code) [3, 11, 12, 13])
noncomputable def c36S3 (_ : Unit) : Cmd := (.ops [
 ⟨some 54, .binOp .add 3 (.tmp 13) (.const (.int .i64 1)) 3, 3, none⟩,
 ⟨some 13, .move (.tmp 54), 3, none⟩] [3, 11, 12, 13])
noncomputable def c36S4 (_ : Unit) : Cmd := (.seq (.block 1 (.seq (.ops [
 ⟨some 15, .indexAddr 22 (.tmp 11) (.tmp 13), 0, none⟩,
 ⟨some 16, .load 56 (.tmp 15), 56, none⟩,
 ⟨some 5, .alloc 56, 0, none⟩,
 ⟨none, .store 56 (.tmp 5) (.tmp 16), 0, none⟩] [3, 5, 11, 12, 13])
 (.seq (.ops [
 ⟨some 17, .move (.tmp 3), 43, none⟩,
 ⟨some 18, .call ⟨.builtin .len, #[(.tmp 17)], #[43]⟩, 3, none⟩,
 ⟨some 19, .binOp .sub 3 (.tmp 18) (.const (.int .i64 1)) 3, 3, none⟩,
 ⟨some 6, .assign (.tmp 19), 3, none⟩] [3, 5, 6, 11, 12, 13])
 (.seq (.seq (.draw (drawOps 0 c36code) [3, 5, 6, 11, 12, 13, 31]) (sg c36S1)) (sg c36S2))))) (sg c36S3))
noncomputable def c36L0 (_ : Unit) : Cmd := (.seq (.ops [
 ⟨some 14, .binOp .lss 3 (.tmp 13) (.tmp 12) 3, 0, none⟩] [3, 11, 12, 13, 14])
 (.seq (.cond (.tmp 14)
  (.skip [3, 11, 12, 13])
  (.exit 0 [3])) (sg c36S4)))
noncomputable def c36S5 (_ : Unit) : Cmd := (.seq (.ops [
 ⟨some 55, .move (.tmp 3), 43, none⟩,
 ⟨some 2, .assign (.tmp 55), 43, none⟩] [2])
 .ret)
noncomputable def c36S6 (_ : Unit) : Cmd := (.seq (.ops [
 ⟨some 3, .assign (.const (.slice none 0 0)), 43, none⟩] [0, 3])
 (.seq (.seq (.ops [
 ⟨some 11, .move (.tmp 0), 22, none⟩,
 ⟨some 12, .call ⟨.builtin .len, #[(.tmp 11)], #[22]⟩, 3, none⟩,
 ⟨some 13, .move (.const (.int .i64 0)), 3, none⟩] [3, 11, 12, 13])
 (.block 0 (.loop (sg c36L0)))) (sg c36S5)))
noncomputable def c36S7 (_ : Unit) : Cmd := (.seq (.ops [
 ⟨some 9, .move (.tmp 0), 22, none⟩,
 ⟨some 10, .call ⟨.value (.func 71), #[(.tmp 9), (.func 78)], #[22, 125]⟩, 0, none⟩] [0]) (sg c36S6))
noncomputable def c36 : Cmd := (.seq (.ops [
 ⟨some 2, .assign (.const (.slice none 0 0)), 43, none⟩] [0])
 (.seq (.ops [
 ⟨some 7, .move (.tmp 0), 22, none⟩,
 ⟨some 8, .call ⟨.value (.func 77), #[(.tmp 7)], #[22]⟩, 22, none⟩,
 ⟨some 0, .assign (.tmp 8), 22, none⟩] [0]) (sg c36S7)))
noncomputable def c36D0 : List (Bool × Ins) := [
 (true, ⟨some 20, .move (.tmp 6), 3, none⟩),
 (true, ⟨some 21, .binOp .lss 3 (.tmp 20) (.const (.int .i64 0)) 3, 4, none⟩),
 (true, ⟨some 22, .move (.tmp 21), 4, none⟩),
 (true, ⟨some 23, .move (.tmp 3), 43, (some (22, false))⟩),
 (true, ⟨some 24, .move (.tmp 6), 3, (some (22, false))⟩),
 (true, ⟨some 25, .indexAddr 43 (.tmp 23) (.tmp 24), 0, (some (22, false))⟩),
 (true, ⟨some 26, .fieldAddr 51 (.tmp 25) 0, 0, (some (22, false))⟩),
 (false, ⟨some 27, .load 3 (.tmp 26), 3, (some (22, false))⟩),
 (true, ⟨some 28, .fieldAddr 56 (.tmp 5) 2, 0, (some (22, false))⟩),
 (false, ⟨some 29, .load 3 (.tmp 28), 3, (some (22, false))⟩),
 (true, ⟨some 30, .binOp .neq 3 (.tmp 27) (.tmp 29) 3, 4, (some (22, false))⟩),
 (true, ⟨some 31, .pick (.tmp 22) (.const (.bool true)) (.tmp 30), 4, none⟩)]
theorem c36draw0 {L : List Nat} {ρ : Env} {w : World} {Q : Post} (h : DL Tryz.prog c36D0 L ρ w.drew Q) : drawW Tryz.prog (drawOps 0 c36code) L ρ w Q :=
  drawW_still [true, true, true, true, true, true, true, false, true, false, true, true] c36D0 (by kernel_rfl) (by kernel_rfl) (by kernel_rfl) h
noncomputable def c36D1 : List (Nat × Ins) := [
 (0, ⟨some 42, .move (.tmp 3), 43, none⟩),
 (0, ⟨some 43, .move (.tmp 6), 3, none⟩),
 (0, ⟨some 44, .move (.tmp 3), 43, none⟩),
 (0, ⟨some 45, .move (.tmp 6), 3, none⟩),
 (0, ⟨some 46, .indexAddr 43 (.tmp 44) (.tmp 45), 0, none⟩),
 (0, ⟨some 47, .fieldAddr 51 (.tmp 46) 2, 0, none⟩),
 (1, ⟨some 48, .load 22 (.tmp 47), 22, none⟩),
 (2, ⟨some 49, .load 56 (.tmp 5), 56, none⟩),
 (2, ⟨some 50, .buildSlice 22 1 #[(0, (.tmp 49))], 22, none⟩),
 (3, ⟨some 51, .call ⟨.builtin .append, #[(.tmp 48), (.tmp 50)], #[22, 22]⟩, 22, none⟩),
 (0, ⟨some 52, .indexAddr 43 (.tmp 42) (.tmp 43), 0, none⟩),
 (0, ⟨some 53, .fieldAddr 51 (.tmp 52) 2, 0, none⟩),
 (3, ⟨none, .store 22 (.tmp 53) (.tmp 51), 0, none⟩)]
theorem c36draw1 {L : List Nat} {ρ : Env} {w : World} {Q : Post} (S : World → Prop) (hS : S w.drew) (h : DG Tryz.prog S c36D1 L ρ w.drew Q) : drawW Tryz.prog (drawOps 1 c36code) L ρ w Q :=
  drawW_held [6] [(0, 0), (0, 1), (0, 2), (0, 3), (0, 4), (0, 5), (1, 6), (2, 7), (2, 8), (3, 9), (0, 10), (0, 11), (3, 12)] c36D1 (by kernel_rfl) (by kernel_rfl) (by kernel_rfl) S hS h
set_option maxRecDepth 100000 in
theorem ent36 (a0 : Value) (w : World) (K : Value → World → Prop) (h : W Tryz.prog c36 [(0, a0)] w (finQ Tryz.prog [.tmp 2] K)) : Ret Tryz.prog 36 [a0] w K :=
  Ret_of_W (code := c36code) Tryz.func36 (by kernel_rfl) (by kernel_rfl) (of_decide_eq_true (by kernel_rfl)) h
@[go_sem] theorem go36 : goFunc Tryz.prog 36 = true := by kernel_rfl
noncomputable def c37code : Code := match Tryz.f37.body with | some c => c | none => .skip
noncomputable def c37S0 (_ : Unit) : Cmd := (.seq (.ops [
 ⟨some 17, .move (.tmp 1), 9, none⟩,
 ⟨some 18, .call ⟨.builtin .len, #[(.tmp 17)], #[9]⟩, 3, none⟩,
 ⟨some 4, .assign (.tmp 18), 3, none⟩,
 ⟨some 5, .assign (.const .nilIface), 65, none⟩] [4, 5])
 .ret)
noncomputable def c37S1 (_ : Unit) : Cmd := (.seq (.ops [
 ⟨some 8, .move (.tmp 0), 60, none⟩,
 ⟨some 9, .move (.tmp 0), 60, none⟩,
 ⟨some 10, .nilCheck (.tmp 9), 0, none⟩,
 ⟨some 11, .fieldAddr 63 (.tmp 10) 1, 0, none⟩,
 ⟨some 12, .load 61 (.tmp 11), 61, none⟩,
 ⟨some 13, .move (.tmp 1), 9, none⟩,
 ⟨some 14, .call ⟨.builtin .append, #[(.tmp 12), (.tmp 13)], #[61, 9]⟩, 61, none⟩,
 ⟨some 15, .nilCheck (.tmp 8), 0, none⟩,
 ⟨some 16, .fieldAddr 63 (.tmp 15) 1, 0, none⟩,
 ⟨none, .store 61 (.tmp 16) (.tmp 14), 0, none⟩] [1]) (sg c37S0))
noncomputable def c37 : Cmd := (.seq (.ops [
 ⟨some 4, .assign (.const (.int .i64 0)), 3, none⟩,
 ⟨some 5, .assign (.const .nilIface), 65, none⟩] [0, 1])
 (.seq (.ops [
 ⟨some 6, .move (.tmp 0), 60, none⟩,
 ⟨some 7, .call ⟨.value (.func 80), #[(.tmp 6)], #[60]⟩, 0, none⟩] [0, 1]) (sg c37S1)))
set_option maxRecDepth 100000 in
theorem ent37 (a0 a1 : Value) (w : World) (K : Value → World → Prop) (h : W Tryz.prog c37 [(0, a0), (1, a1)] w (finQ Tryz.prog [.tmp 4, .tmp 5] K)) : Ret Tryz.prog 37 [a0, a1] w K :=
  Ret_of_W (code := c37code) Tryz.func37 (by kernel_rfl) (by kernel_rfl) (of_decide_eq_true (by kernel_rfl)) h
@[go_sem] theorem go37 : goFunc Tryz.prog 37 = true := by kernel_rfl
noncomputable def c38code : Code := match Tryz.f38.body with | some c => c | none => .skip
noncomputable def c38L0 (_ : Unit) : Cmd := (.block 1 (.seq (.ops [
 ⟨some 11, .move (.tmp 3), 129, none⟩,
 ⟨some 12, .binOp .rem 129 (.tmp 11) (.const (.int .u64 10)) 129, 129, none⟩,
 ⟨some 13, .binOp .add 129 (.const (.int .u64 48)) (.tmp 12) 129, 129, none⟩,
 ⟨some 14, .convert 129 5 (.tmp 13), 5, none⟩,
 ⟨some 15, .buildSlice 61 1 #[(0, (.tmp 14))], 61, none⟩,
 ⟨some 16, .convert 61 9 (.tmp 15), 9, none⟩,
 ⟨some 17, .move (.tmp 4), 9, none⟩,
 ⟨some 18, .binOp .add 9 (.tmp 16) (.tmp 17) 9, 9, none⟩,
 ⟨some 4, .assign (.tmp 18), 9, none⟩] [0, 3, 4])
 (.seq (.ops [
 ⟨some 19, .move (.tmp 3), 129, none⟩,
 ⟨some 20, .binOp .quo 129 (.tmp 19) (.const (.int .u64 10)) 129, 129, none⟩,
 ⟨some 3, .assign (.tmp 20), 129, none⟩] [0, 3, 4])
 (.seq (.ops [
 ⟨some 21, .move (.tmp 3), 129, none⟩,
 ⟨some 22, .binOp .eql 129 (.tmp 21) (.const (.int .u64 0)) 129, 4, none⟩] [0, 3, 4, 22])
 (.cond (.tmp 22)
  (.exit 0 [0, 4])
  (.skip [0, 3, 4]))))))
noncomputable def c38S0 (_ : Unit) : Cmd := (.seq (.ops [
 ⟨some 27, .move (.tmp 4), 9, none⟩,
 ⟨some 2, .assign (.tmp 27), 9, none⟩] [2])
 .ret)
noncomputable def c38S1 (_ : Unit) : Cmd := (.seq (.seq (.ops [
 ⟨some 23, .move (.tmp 0), 3, none⟩,
 ⟨some 24, .binOp .lss 3 (.tmp 23) (.const (.int .i64 0)) 3, 4, none⟩] [4, 24])
 (.cond (.tmp 24)
  (.seq (.ops [
  ⟨some 25, .move (.tmp 4), 9, none⟩,
  ⟨some 26, .binOp .add 9 (.const (.string (ofL [45]))) (.tmp 25) 9, 9, none⟩,
  ⟨some 2, .assign (.tmp 26), 9, none⟩] [2])
  .ret)
  (.skip [4]))) (sg c38S0))
noncomputable def c38S2 (_ : Unit) : Cmd := (.seq (.block 0 (.loop (sg c38L0))) (sg c38S1))
noncomputable def c38 : Cmd := (.seq (.ops [
 ⟨some 2, .assign (.const (.string (ofL []))), 9, none⟩] [0])
 (.seq (.ops [
 ⟨some 5, .move (.tmp 0), 3, none⟩,
 ⟨some 6, .convert 3 129 (.tmp 5), 129, none⟩,
 ⟨some 3, .assign (.tmp 6), 129, none⟩,
 ⟨some 4, .assign (.const (.string (ofL []))), 9, none⟩] [0, 3, 4])
 (.seq (.seq (.ops [
 ⟨some 7, .move (.tmp 0), 3, none⟩,
 ⟨some 8, .binOp .lss 3 (.tmp 7) (.const (.int .i64 0)) 3, 4, none⟩] [0, 3, 4, 8])
 (.cond (.tmp 8)
  (.ops [
  ⟨some 9, .move (.tmp 3), 129, none⟩,
  ⟨some 10, .unOp .neg 129 (.tmp 9), 129, none⟩,
  ⟨some 3, .assign (.tmp 10), 129, none⟩] [0, 3, 4])
  (.skip [0, 3, 4]))) (sg c38S2))))
set_option maxRecDepth 100000 in
theorem ent38 (a0 : Value) (w : World) (K : Value → World → Prop) (h : W Tryz.prog c38 [(0, a0)] w (finQ Tryz.prog [.tmp 2] K)) : Ret Tryz.prog 38 [a0] w K :=
  Ret_of_W (code := c38code) Tryz.func38 (by kernel_rfl) (by kernel_rfl) (of_decide_eq_true (by kernel_rfl)) h
@[go_sem] theorem go38 : goFunc Tryz.prog 38 = true := by kernel_rfl
noncomputable def c39code : Code := match Tryz.f39.body with | some c => c | none => .skip
noncomputable def c39S0 (_ : Unit) : Cmd := (.seq (.ops [
 ⟨some 6, .move (.tmp 0), 9, none⟩,
 ⟨some 7, .slice 9 (.tmp 6) none (some (.const (.int .i64 7))) none, 9, none⟩,
 ⟨some 2, .assign (.tmp 7), 9, none⟩] [2])
 .ret)
noncomputable def c39 : Cmd := (.seq (.ops [
 ⟨some 2, .assign (.const (.string (ofL []))), 9, none⟩] [0])
 (.seq (.ops [
 ⟨some 3, .move (.tmp 0), 9, none⟩,
 ⟨some 4, .call ⟨.value (.func 81), #[(.const (.string (ofL [32]))), (.const (.int .i64 7))], #[9, 3]⟩, 9, none⟩,
 ⟨some 5, .binOp .add 9 (.tmp 3) (.tmp 4) 9, 9, none⟩,
 ⟨some 0, .assign (.tmp 5), 9, none⟩] [0]) (sg c39S0)))
set_option maxRecDepth 100000 in
theorem ent39 (a0 : Value) (w : World) (K : Value → World → Prop) (h : W Tryz.prog c39 [(0, a0)] w (finQ Tryz.prog [.tmp 2] K)) : Ret Tryz.prog 39 [a0] w K :=
  Ret_of_W (code := c39code) Tryz.func39 (by kernel_rfl) (by kernel_rfl) (of_decide_eq_true (by kernel_rfl)) h
@[go_sem] theorem go39 : goFunc Tryz.prog 39 = true := by kernel_rfl
noncomputable def c40code : Code := match Tryz.f40.body with | some c => c | none => .skip
noncomputable def c40S0 (_ : Unit) : Cmd := (.ops [
 ⟨some 22, .binOp .add 3 (.tmp 14) (.const (.int .i64 1)) 3, 3, none⟩,
 ⟨some 14, .move (.tmp 22), 3, none⟩] [2, 5, 12, 13, 14])
noncomputable def c40S1 (_ : Unit) : Cmd := (.seq (.block 1 (.seq (.ops [
 ⟨some 16, .indexAddr 22 (.tmp 12) (.tmp 14), 0, none⟩,
 ⟨some 17, .load 56 (.tmp 16), 56, none⟩,
 ⟨some 7, .alloc 56, 0, none⟩,
 ⟨none, .store 56 (.tmp 7) (.tmp 17), 0, none⟩] [2, 5, 7, 12, 13, 14])
 (.ops [
 ⟨some 18, .move (.tmp 5), 61, none⟩,
 ⟨some 19, .load 58 (.tmp 2), 58, none⟩,
 ⟨some 20, .load 56 (.tmp 7), 56, none⟩,
 ⟨some 21, .call ⟨.value (.func 82), #[(.tmp 18), (.tmp 19), (.tmp 20)], #[61, 58, 56]⟩, 0, none⟩] [2, 5, 12, 13, 14]))) (sg c40S0))
noncomputable def c40L0 (_ : Unit) : Cmd := (.seq (.ops [
 ⟨some 15, .binOp .lss 3 (.tmp 14) (.tmp 13) 3, 0, none⟩] [2, 5, 12, 13, 14, 15])
 (.seq (.cond (.tmp 15)
  (.skip [2, 5, 12, 13, 14])
  (.exit 0 [5])) (sg c40S1)))
noncomputable def c40S2 (_ : Unit) : Cmd := (.seq (.ops [
 ⟨some 23, .move (.tmp 5), 61, none⟩,
 ⟨some 24, .convert 61 9 (.tmp 23), 9, none⟩,
 ⟨some 4, .assign (.tmp 24), 9, none⟩] [4])
 .ret)
noncomputable def c40S3 (_ : Unit) : Cmd := (.seq (.seq (.ops [
 ⟨some 12, .move (.tmp 1), 22, none⟩,
 ⟨some 13, .call ⟨.builtin .len, #[(.tmp 12)], #[22]⟩, 3, none⟩,
 ⟨some 14, .move (.const (.int .i64 0)), 3, none⟩] [2, 5, 12, 13, 14])
 (.block 0 (.loop (sg c40L0)))) (sg c40S2))
noncomputable def c40 : Cmd := (.seq (.ops [
 ⟨some 2, .box 58 (.tmp 0), 0, none⟩,
 ⟨some 4, .assign (.const (.string (ofL []))), 9, none⟩] [1, 2])
 (.seq (.ops [
 ⟨some 8, .fieldAddr 58 (.tmp 2) 2, 0, none⟩,
 ⟨some 9, .load 3 (.tmp 8), 3, none⟩,
 ⟨some 10, .call ⟨.value (.func 81), #[(.const (.string (ofL [46]))), (.tmp 9)], #[9, 3]⟩, 9, none⟩,
 ⟨some 11, .convert 9 61 (.tmp 10), 61, none⟩,
 ⟨some 5, .assign (.tmp 11), 61, none⟩] [1, 2, 5]) (sg c40S3)))
set_option maxRecDepth 100000 in
theorem ent40 (a0 a1 : Value) (w : World) (K : Value → World → Prop) (h : W Tryz.prog c40 [(0, a0), (1, a1)] w (finQ Tryz.prog [.tmp 4] K)) : Ret Tryz.prog 40 [a0, a1] w K :=
  Ret_of_W (code := c40code) Tryz.func40 (by kernel_rfl) (by kernel_rfl) (of_decide_eq_true (by kernel_rfl)) h
@[go_sem] theorem go40 : goFunc Tryz.prog 40 = true := by kernel_rfl
noncomputable def c41code : Code := match Tryz.f41.body with | some c => c | none => .skip
noncomputable def c41S0 (_ : Unit) : Cmd := (.seq (.ops [
 ⟨some 35, .move (.tmp 5), 61, none⟩,
 ⟨some 36, .move (.tmp 10), 3, none⟩,
 ⟨some 37, .indexAddr 61 (.tmp 35) (.tmp 36), 0, none⟩,
 ⟨some 38, .load 5 (.tmp 37), 5, none⟩,
 ⟨some 39, .binOp .eql 5 (.tmp 38) (.const (.int .u8 32)) 5, 4, none⟩] [2, 5, 10, 15, 16, 17, 39])
 (.cond (.tmp 39)
  (.ops [
  ⟨some 40, .move (.tmp 5), 61, none⟩,
  ⟨some 41, .move (.tmp 10), 3, none⟩,
  ⟨some 42, .indexAddr 61 (.tmp 40) (.tmp 41), 0, none⟩,
  ⟨none, .store 5 (.tmp 42) (.const (.int .u8 36)), 0, none⟩] [2, 5, 15, 16, 17])
  (.skip [2, 5, 15, 16, 17])))
noncomputable def c41S1 (_ : Unit) : Cmd := (.seq (.ops [
 ⟨some 32, .load 58 (.tmp 2), 58, none⟩,
 ⟨some 33, .move (.tmp 9), 3, none⟩,
 ⟨some 34, .call ⟨.value (.func 83), #[(.tmp 32), (.tmp 33)], #[58, 3]⟩, 3, none⟩,
 ⟨some 10, .assign (.tmp 34), 3, none⟩] [2, 5, 10, 15, 16, 17]) (sg c41S0))
noncomputable def c41S2 (_ : Unit) : Cmd := (.seq (.ops [
 ⟨some 27, .move (.tmp 5), 61, none⟩,
 ⟨some 28, .load 58 (.tmp 2), 58, none⟩,
 ⟨some 29, .move (.tmp 8), 3, none⟩,
 ⟨some 30, .call ⟨.value (.func 83), #[(.tmp 28), (.tmp 29)], #[58, 3]⟩, 3, none⟩,
 ⟨some 31, .indexAddr 61 (.tmp 27) (.tmp 30), 0, none⟩,
 ⟨none, .store 5 (.tmp 31) (.const (.int .u8 94)), 0, none⟩] [2, 5, 9, 15, 16, 17]) (sg c41S1))
noncomputable def c41S3 (_ : Unit) : Cmd := (.ops [
 ⟨some 43, .binOp .add 3 (.tmp 17) (.const (.int .i64 1)) 3, 3, none⟩,
 ⟨some 17, .move (.tmp 43), 3, none⟩] [2, 5, 15, 16, 17])
noncomputable def c41S4 (_ : Unit) : Cmd := (.seq (.block 1 (.seq (.ops [
 ⟨some 19, .indexAddr 43 (.tmp 15) (.tmp 17), 0, none⟩,
 ⟨some 20, .load 51 (.tmp 19), 51, none⟩,
 ⟨some 7, .alloc 51, 0, none⟩,
 ⟨none, .store 51 (.tmp 7) (.tmp 20), 0, none⟩] [2, 5, 7, 15, 16, 17])
 (.seq (.ops [
 ⟨some 22, .fieldAddr 51 (.tmp 7) 2, 0, none⟩,
 ⟨some 23, .load 22 (.tmp 22), 22, none⟩,
 ⟨some 24, .call ⟨.value (.func 76), #[(.tmp 23)], #[22]⟩, 127, none⟩,
 ⟨some 21, .move (.tmp 24), 127, none⟩,
 ⟨some 25, .extract (.tmp 21) 0, 3, none⟩,
 ⟨some 26, .extract (.tmp 21) 1, 3, none⟩,
 ⟨some 8, .assign (.tmp 25), 3, none⟩,
 ⟨some 9, .assign (.tmp 26), 3, none⟩] [2, 5, 8, 9, 15, 16, 17]) (sg c41S2)))) (sg c41S3))
noncomputable def c41L0 (_ : Unit) : Cmd := (.seq (.ops [
 ⟨some 18, .binOp .lss 3 (.tmp 17) (.tmp 16) 3, 0, none⟩] [2, 5, 15, 16, 17, 18])
 (.seq (.cond (.tmp 18)
  (.skip [2, 5, 15, 16, 17])
  (.exit 0 [5])) (sg c41S4)))
noncomputable def c41S5 (_ : Unit) : Cmd := (.seq (.ops [
 ⟨some 44, .move (.tmp 5), 61, none⟩,
 ⟨some 45, .convert 61 9 (.tmp 44), 9, none⟩,
 ⟨some 4, .assign (.tmp 45), 9, none⟩] [4])
 .ret)
noncomputable def c41S6 (_ : Unit) : Cmd := (.seq (.seq (.ops [
 ⟨some 15, .move (.tmp 1), 43, none⟩,
 ⟨some 16, .call ⟨.builtin .len, #[(.tmp 15)], #[43]⟩, 3, none⟩,
 ⟨some 17, .move (.const (.int .i64 0)), 3, none⟩] [2, 5, 15, 16, 17])
 (.block 0 (.loop (sg c41L0)))) (sg c41S5))
noncomputable def c41 : Cmd := (.seq (.ops [
 ⟨some 2, .box 58 (.tmp 0), 0, none⟩,
 ⟨some 4, .assign (.const (.string (ofL []))), 9, none⟩] [1, 2])
 (.seq (.ops [
 ⟨some 11, .fieldAddr 58 (.tmp 2) 2, 0, none⟩,
 ⟨some 12, .load 3 (.tmp 11), 3, none⟩,
 ⟨some 13, .call ⟨.value (.func 81), #[(.const (.string (ofL [32]))), (.tmp 12)], #[9, 3]⟩, 9, none⟩,
 ⟨some 14, .convert 9 61 (.tmp 13), 61, none⟩,
 ⟨some 5, .assign (.tmp 14), 61, none⟩] [1, 2, 5]) (sg c41S6)))
set_option maxRecDepth 100000 in
theorem ent41 (a0 a1 : Value) (w : World) (K : Value → World → Prop) (h : W Tryz.prog c41 [(0, a0), (1, a1)] w (finQ Tryz.prog [.tmp 4] K)) : Ret Tryz.prog 41 [a0, a1] w K :=
  Ret_of_W (code := c41code) Tryz.func41 (by kernel_rfl) (by kernel_rfl) (of_decide_eq_true (by kernel_rfl)) h
@[go_sem] theorem go41 : goFunc Tryz.prog 41 = true := by kernel_rfl
noncomputable def c42code : Code := match Tryz.f42.body with | some c => c | none => .skip
noncomputable def c42S0 (_ : Unit) : Cmd := (.ops [
  ⟨some 41, .move (.tmp 7), 3, none⟩,
  ⟨some 42, .binOp .add 3 (.tmp 41) (.const (.int .i64 1)) 3, 3, none⟩,
  ⟨some 7, .assign (.tmp 42), 3, none⟩] [1, 4, 6, 7, 13, 14, 15])
noncomputable def c42S1 (_ : Unit) : Cmd := (.cond (.tmp 32)
  (.seq (.ops [
  ⟨some 33, .move (.tmp 4), 43, none⟩,
  ⟨some 34, .fieldAddr 51 (.tmp 1) 0, 0, none⟩,
  ⟨some 35, .load 3 (.tmp 34), 3, none⟩,
  ⟨some 36, .fieldAddr 51 (.tmp 1) 1, 0, none⟩,
  ⟨some 37, .load 3 (.tmp 36), 3, none⟩,
  ⟨some 38, .build 51 #[(0, (.tmp 35)), (1, (.tmp 37))], 51, none⟩,
  ⟨some 39, .buildSlice 43 1 #[(0, (.tmp 38))], 43, none⟩,
  ⟨some 40, .call ⟨.builtin .append, #[(.tmp 33), (.tmp 39)], #[43, 43]⟩, 43, none⟩,
  ⟨some 4, .assign (.tmp 40), 43, none⟩] [1, 4, 6, 7, 13, 14, 15]) (sg c42S0))
  (.skip [1, 4, 6, 7, 13, 14, 15]))
noncomputable def c42S2 (_ : Unit) : Cmd := (.draw (drawOps 1 c42code) [1, 4, 13, 14, 15])
noncomputable def c42S3 (_ : Unit) : Cmd := (.ops [
 ⟨some 55, .binOp .add 3 (.tmp 15) (.const (.int .i64 1)) 3, 3, none⟩,
 ⟨some 15, .move (.tmp 55), 3, none⟩] [1, 4, 13, 14, 15])
noncomputable def c42S4 (_ : Unit) : Cmd := (.seq (.block 1 (.seq (.ops [
 ⟨some 17, .indexAddr 22 (.tmp 13) (.tmp 15), 0, none⟩,
 ⟨some 18, .load 56 (.tmp 17), 56, none⟩,
 ⟨some 6, .alloc 56, 0, none⟩,
 ⟨none, .store 56 (.tmp 6) (.tmp 18), 0, none⟩] [1, 4, 6, 13, 14, 15])
 (.seq (.ops [
 ⟨some 19, .move (.tmp 4), 43, none⟩,
 ⟨some 20, .call ⟨.builtin .len, #[(.tmp 19)], #[43]⟩, 3, none⟩,
 ⟨some 21, .binOp .sub 3 (.tmp 20) (.const (.int .i64 1)) 3, 3, none⟩,
 ⟨some 7, .assign (.tmp 21), 3, none⟩] [1, 4, 6, 7, 13, 14, 15])
 (.seq (.seq (.draw (drawOps 0 c42code) [1, 4, 6, 7, 13, 14, 15, 32]) (sg c42S1)) (sg c42S2))))) (sg c42S3))
noncomputable def c42L0 (_ : Unit) : Cmd := (.seq (.ops [
 ⟨some 16, .binOp .lss 3 (.tmp 15) (.tmp 14) 3, 0, none⟩] [1, 4, 13, 14, 15, 16])
 (.seq (.cond (.tmp 16)
  (.skip [1, 4, 13, 14, 15])
  (.exit 0 [4])) (sg c42S4)))
noncomputable def c42S5 (_ : Unit) : Cmd := (.seq (.ops [
 ⟨some 56, .move (.tmp 4), 43, none⟩,
 ⟨some 2, .assign (.tmp 56), 43, none⟩] [2])
 .ret)
noncomputable def c42S6 (_ : Unit) : Cmd := (.seq (.ops [
 ⟨some 4, .assign (.const (.slice none 0 0)), 43, none⟩] [1, 3, 4])
 (.seq (.seq (.ops [
 ⟨some 13, .move (.tmp 3), 22, none⟩,
 ⟨some 14, .call ⟨.builtin .len, #[(.tmp 13)], #[22]⟩, 3, none⟩,
 ⟨some 15, .move (.const (.int .i64 0)), 3, none⟩] [1, 4, 13, 14, 15])
 (.block 0 (.loop (sg c42L0)))) (sg c42S5)))
noncomputable def c42S7 (_ : Unit) : Cmd := (.seq (.ops [
 ⟨some 11, .move (.tmp 3), 22, none⟩,
 ⟨some 12, .call ⟨.value (.func 71), #[(.tmp 11), (.func 79)], #[22, 125]⟩, 0, none⟩] [1, 3]) (sg c42S6))
noncomputable def c42 : Cmd := (.seq (.ops [
 ⟨some 1, .box 51 (.tmp 0), 0, none⟩,
 ⟨some 2, .assign (.const (.slice none 0 0)), 43, none⟩] [1])
 (.seq (.ops [
 ⟨some 8, .fieldAddr 51 (.tmp 1) 2, 0, none⟩,
 ⟨some 9, .load 22 (.tmp 8), 22, none⟩,
 ⟨some 10, .call ⟨.value (.func 77), #[(.tmp 9)], #[22]⟩, 22, none⟩,
 ⟨some 3, .assign (.tmp 10), 22, none⟩] [1, 3]) (sg c42S7)))
noncomputable def c42D0 : List (Nat × Ins) := [
 (0, ⟨some 22, .move (.tmp 7), 3, none⟩),
 (0, ⟨some 23, .binOp .lss 3 (.tmp 22) (.const (.int .i64 0)) 3, 4, none⟩),
 (0, ⟨some 24, .move (.tmp 23), 4, none⟩),
 (0, ⟨some 25, .move (.tmp 4), 43, (some (24, false))⟩),
 (0, ⟨some 26, .move (.tmp 7), 3, (some (24, false))⟩),
 (0, ⟨some 27, .indexAddr 43 (.tmp 25) (.tmp 26), 0, (some (24, false))⟩),
 (0, ⟨some 28, .fieldAddr 51 (.tmp 27) 2, 0, (some (24, false))⟩),
 (1, ⟨some 29, .load 22 (.tmp 28), 22, (some (24, false))⟩),
 (2, ⟨some 30, .load 56 (.tmp 6), 56, (some (24, false))⟩),
 (3, ⟨some 31, .call ⟨.value (.func 84), #[(.tmp 29), (.tmp 30)], #[22, 56]⟩, 4, (some (24, false))⟩),
 (0, ⟨some 32, .pick (.tmp 24) (.const (.bool true)) (.tmp 31), 4, none⟩)]
theorem c42draw0 {L : List Nat} {ρ : Env} {w : World} {Q : Post} (S : World → Prop) (hS : S w.drew) (h : DG Tryz.prog S c42D0 L ρ w.drew Q) : drawW Tryz.prog (drawOps 0 c42code) L ρ w Q :=
  drawW_held [7] [(0, 0), (0, 1), (0, 2), (0, 3), (0, 4), (0, 5), (0, 6), (1, 7), (2, 8), (3, 9), (0, 10)] c42D0 (by kernel_rfl) (by kernel_rfl) (by kernel_rfl) S hS h
noncomputable def c42D1 : List (Nat × Ins) := [
 (0, ⟨some 43, .move (.tmp 4), 43, none⟩),
 (0, ⟨some 44, .move (.tmp 7), 3, none⟩),
 (0, ⟨some 45, .move (.tmp 4), 43, none⟩),
 (0, ⟨some 46, .move (.tmp 7), 3, none⟩),
 (0, ⟨some 47, .indexAddr 43 (.tmp 45) (.tmp 46), 0, none⟩),
 (0, ⟨some 48, .fieldAddr 51 (.tmp 47) 2, 0, none⟩),
 (1, ⟨some 49, .load 22 (.tmp 48), 22, none⟩),
 (2, ⟨some 50, .load 56 (.tmp 6), 56, none⟩),
 (2, ⟨some 51, .buildSlice 22 1 #[(0, (.tmp 50))], 22, none⟩),
 (3, ⟨some 52, .call ⟨.builtin .append, #[(.tmp 49), (.tmp 51)], #[22, 22]⟩, 22, none⟩),
 (0, ⟨some 53, .indexAddr 43 (.tmp 43) (.tmp 44), 0, none⟩),
 (0, ⟨some 54, .fieldAddr 51 (.tmp 53) 2, 0, none⟩),
 (3, ⟨none, .store 22 (.tmp 54) (.tmp 52), 0, none⟩)]
theorem c42draw1 {L : List Nat} {ρ : Env} {w : World} {Q : Post} (S : World → Prop) (hS : S w.drew) (h : DG Tryz.prog S c42D1 L ρ w.drew Q) : drawW Tryz.prog (drawOps 1 c42code) L ρ w Q :=
  drawW_held [6] [(0, 0), (0, 1), (0, 2), (0, 3), (0, 4), (0, 5), (1, 6), (2, 7), (2, 8), (3, 9), (0, 10), (0, 11), (3, 12)] c42D1 (by kernel_rfl) (by kernel_rfl) (by kernel_rfl) S hS h
set_option maxRecDepth 100000 in
theorem ent42 (a0 : Value) (w : World) (K : Value → World → Prop) (h : W Tryz.prog c42 [(0, a0)] w (finQ Tryz.prog [.tmp 2] K)) : Ret Tryz.prog 42 [a0] w K :=
  Ret_of_W (code := c42code) Tryz.func42 (by kernel_rfl) (by kernel_rfl) (of_decide_eq_true (by kernel_rfl)) h
@[go_sem] theorem go42 : goFunc Tryz.prog 42 = true := by kernel_rfl
noncomputable def c43code : Code := match Tryz.f43.body with | some c => c | none => .skip
noncomputable def c43S0 (_ : Unit) : Cmd := .ret
noncomputable def c43 : Cmd := (.seq (.ops [
 ⟨some 2, .assign (.const (.string (ofL []))), 9, none⟩] [0])
 (.seq (.draw (drawOps 0 c43code) [2]) (sg c43S0)))
noncomputable def c43D0 : List (Nat × Ins) := [
 (0, ⟨some 3, .move (.tmp 0), 60, none⟩),
 (0, ⟨some 4, .nilCheck (.tmp 3), 0, none⟩),
 (0, ⟨some 5, .fieldAddr 63 (.tmp 4) 1, 0, none⟩),
 (0, ⟨some 8, .move (.tmp 0), 60, none⟩),
 (0, ⟨some 9, .nilCheck (.tmp 8), 0, none⟩),
 (0, ⟨some 10, .fieldAddr 63 (.tmp 9) 1, 0, none⟩),
 (1, ⟨some 6, .load 61 (.tmp 5), 61, none⟩),
 (1, ⟨some 11, .load 61 (.tmp 10), 61, none⟩),
 (0, ⟨some 12, .call ⟨.builtin .len, #[(.tmp 11)], #[61]⟩, 3, none⟩),
 (2, ⟨some 7, .call ⟨.builtin .unsafeSliceData, #[(.tmp 6)], #[61]⟩, 134, none⟩),
 (2, ⟨some 13, .call ⟨.builtin .unsafeString, #[(.tmp 7), (.tmp 12)], #[134, 3]⟩, 9, none⟩),
 (0, ⟨some 2, .assign (.tmp 13), 9, none⟩)]
theorem c43draw0 {L : List Nat} {ρ : Env} {w : World} {Q : Post} (S : World → Prop) (hS : S w.drew) (h : DG Tryz.prog S c43D0 L ρ w.drew Q) : drawW Tryz.prog (drawOps 0 c43code) L ρ w Q :=
  drawW_held [3, 8] [(0, 0), (0, 1), (0, 2), (0, 5), (0, 6), (0, 7), (1, 3), (1, 8), (0, 9), (2, 4), (2, 10), (0, 11)] c43D0 (by kernel_rfl) (by kernel_rfl) (by kernel_rfl) S hS h
set_option maxRecDepth 100000 in
theorem ent43 (a0 : Value) (w : World) (K : Value → World → Prop) (h : W Tryz.prog c43 [(0, a0)] w (finQ Tryz.prog [.tmp 2] K)) : Ret Tryz.prog 43 [a0] w K :=
  Ret_of_W (code := c43code) Tryz.func43 (by kernel_rfl) (by kernel_rfl) (of_decide_eq_true (by kernel_rfl)) h
@[go_sem] theorem go43 : goFunc Tryz.prog 43 = true := by kernel_rfl
noncomputable def c44code : Code := match Tryz.f44.body with | some c => c | none => .skip
noncomputable def c44S0 (_ : Unit) : Cmd := (.cond (.tmp 26)
  (.ops [
  ⟨some 27, .move (.tmp 0), 22, none⟩,
  ⟨some 28, .move (.tmp 6), 3, none⟩,
  ⟨some 29, .indexAddr 22 (.tmp 27) (.tmp 28), 0, none⟩,
  ⟨some 30, .fieldAddr 56 (.tmp 29) 9, 0, none⟩,
  ⟨some 31, .load 3 (.tmp 30), 3, none⟩,
  ⟨some 32, .fieldAddr 75 (.tmp 5) 0, 0, none⟩,
  ⟨none, .store 3 (.tmp 32) (.tmp 31), 0, none⟩] [0, 4, 5, 6])
  (.skip [0, 4, 5, 6]))
noncomputable def c44S1 (_ : Unit) : Cmd := (.cond (.tmp 40)
  (.ops [
  ⟨some 41, .move (.tmp 0), 22, none⟩,
  ⟨some 42, .move (.tmp 6), 3, none⟩,
  ⟨some 43, .indexAddr 22 (.tmp 41) (.tmp 42), 0, none⟩,
  ⟨some 44, .fieldAddr 56 (.tmp 43) 9, 0, none⟩,
  ⟨some 45, .load 3 (.tmp 44), 3, none⟩,
  ⟨some 46, .fieldAddr 75 (.tmp 5) 1, 0, none⟩,
  ⟨none, .store 3 (.tmp 46) (.tmp 45), 0, none⟩] [0, 4, 5, 6])
  (.skip [0, 4, 5, 6]))
noncomputable def c44S2 (_ : Unit) : Cmd := (.cond (.tmp 54)
  (.ops [
  ⟨some 55, .move (.tmp 0), 22, none⟩,
  ⟨some 56, .move (.tmp 6), 3, none⟩,
  ⟨some 57, .indexAddr 22 (.tmp 55) (.tmp 56), 0, none⟩,
  ⟨some 58, .fieldAddr 56 (.tmp 57) 10, 0, none⟩,
  ⟨some 59, .load 3 (.tmp 58), 3, none⟩,
  ⟨some 60, .fieldAddr 75 (.tmp 5) 1, 0, none⟩,
  ⟨none, .store 3 (.tmp 60) (.tmp 59), 0, none⟩] [0, 4, 5, 6])
  (.skip [0, 4, 5, 6]))
noncomputable def c44S3 (_ : Unit) : Cmd := (.seq (.draw (drawOps 2 c44code) [0, 4, 5, 6, 54]) (sg c44S2))
noncomputable def c44S4 (_ : Unit) : Cmd := (.seq (.seq (.draw (drawOps 1 c44code) [0, 4, 5, 6, 40]) (sg c44S1)) (sg c44S3))
noncomputable def c44S5 (_ : Unit) : Cmd := (.ops [
 ⟨some 13, .move (.tmp 6), 3, none⟩,
 ⟨some 14, .binOp .add 3 (.tmp 13) (.const (.int .i64 1)) 3, 3, none⟩,
 ⟨some 6, .assign (.tmp 14), 3, none⟩] [0, 4, 5, 6])
noncomputable def c44S6 (_ : Unit) : Cmd := (.seq (.block 1 (.seq (.seq (.draw (drawOps 0 c44code) [0, 4, 5, 6, 26]) (sg c44S0)) (sg c44S4))) (sg c44S5))
noncomputable def c44L0 (_ : Unit) : Cmd := (.seq (.seq (.ops [
 ⟨some 9, .move (.tmp 6), 3, none⟩,
 ⟨some 10, .move (.tmp 0), 22, none⟩,
 ⟨some 11, .call ⟨.builtin .len, #[(.tmp 10)], #[22]⟩, 3, none⟩,
 ⟨some 12, .binOp .lss 3 (.tmp 9) (.tmp 11) 3, 4, none⟩] [0, 4, 5, 6, 12])
 (.cond (.tmp 12)
  (.skip [0, 4, 5, 6])
  (.exit 0 [4, 5]))) (sg c44S6))
noncomputable def c44S7 (_ : Unit) : Cmd := (.seq (.ops [
 ⟨some 61, .load 75 (.tmp 5), 75, none⟩,
 ⟨none, .store 75 (.tmp 4) (.tmp 61), 0, none⟩] [4])
 .ret)
noncomputable def c44 : Cmd := (.seq (.ops [
 ⟨some 4, .alloc 75, 0, none⟩] [0, 1, 4])
 (.seq (.ops [
 ⟨some 7, .move (.tmp 1), 3, none⟩,
 ⟨some 8, .build 75 #[(2, (.tmp 7))], 75, none⟩,
 ⟨some 5, .alloc 75, 0, none⟩,
 ⟨none, .store 75 (.tmp 5) (.tmp 8), 0, none⟩] [0, 4, 5])
 (.seq (.seq (.ops [
 ⟨some 6, .assign (.const (.int .i64 0)), 3, none⟩] [0, 4, 5, 6])
 (.block 0 (.loop (sg c44L0)))) (sg c44S7))))
noncomputable def c44D0 : List (Bool × Ins) := [
 (true, ⟨some 15, .move (.tmp 6), 3, none⟩),
 (true, ⟨some 16, .binOp .eql 3 (.tmp 15) (.const (.int .i64 0)) 3, 4, none⟩),
 (true, ⟨some 17, .move (.tmp 16), 4, none⟩),
 (true, ⟨some 18, .move (.tmp 0), 22, (some (17, false))⟩),
 (true, ⟨some 19, .move (.tmp 6), 3, (some (17, false))⟩),
 (true, ⟨some 20, .indexAddr 22 (.tmp 18) (.tmp 19), 0, (some (17, false))⟩),
 (true, ⟨some 21, .fieldAddr 56 (.tmp 20) 9, 0, (some (17, false))⟩),
 (false, ⟨some 22, .load 3 (.tmp 21), 3, (some (17, false))⟩),
 (true, ⟨some 23, .fieldAddr 75 (.tmp 5) 0, 0, (some (17, false))⟩),
 (false, ⟨some 24, .load 3 (.tmp 23), 3, (some (17, false))⟩),
 (true, ⟨some 25, .binOp .lss 3 (.tmp 22) (.tmp 24) 3, 4, (some (17, false))⟩),
 (true, ⟨some 26, .pick (.tmp 17) (.const (.bool true)) (.tmp 25), 4, none⟩)]
theorem c44draw0 {L : List Nat} {ρ : Env} {w : World} {Q : Post} (h : DL Tryz.prog c44D0 L ρ w.drew Q) : drawW Tryz.prog (drawOps 0 c44code) L ρ w Q :=
  drawW_still [true, true, true, true, true, true, true, false, true, false, true, true] c44D0 (by kernel_rfl) (by kernel_rfl) (by kernel_rfl) h
noncomputable def c44D1 : List (Bool × Ins) := [
 (true, ⟨some 33, .move (.tmp 0), 22, none⟩),
 (true, ⟨some 34, .move (.tmp 6), 3, none⟩),
 (true, ⟨some 35, .indexAddr 22 (.tmp 33) (.tmp 34), 0, none⟩),
 (true, ⟨some 36, .fieldAddr 56 (.tmp 35) 9, 0, none⟩),
 (false, ⟨some 37, .load 3 (.tmp 36), 3, none⟩),
 (true, ⟨some 38, .fieldAddr 75 (.tmp 5) 1, 0, none⟩),
 (false, ⟨some 39, .load 3 (.tmp 38), 3, none⟩),
 (true, ⟨some 40, .binOp .gtr 3 (.tmp 37) (.tmp 39) 3, 4, none⟩)]
theorem c44draw1 {L : List Nat} {ρ : Env} {w : World} {Q : Post} (h : DL Tryz.prog c44D1 L ρ w.drew Q) : drawW Tryz.prog (drawOps 1 c44code) L ρ w Q :=
  drawW_still [true, true, true, true, false, true, false, true] c44D1 (by kernel_rfl) (by kernel_rfl) (by kernel_rfl) h
noncomputable def c44D2 : List (Bool × Ins) := [
 (true, ⟨some 47, .move (.tmp 0), 22, none⟩),
 (true, ⟨some 48, .move (.tmp 6), 3, none⟩),
 (true, ⟨some 49, .indexAddr 22 (.tmp 47) (.tmp 48), 0, none⟩),
 (true, ⟨some 50, .fieldAddr 56 (.tmp 49) 10, 0, none⟩),
 (false, ⟨some 51, .load 3 (.tmp 50), 3, none⟩),
 (true, ⟨some 52, .fieldAddr 75 (.tmp 5) 1, 0, none⟩),
 (false, ⟨some 53, .load 3 (.tmp 52), 3, none⟩),
 (true, ⟨some 54, .binOp .gtr 3 (.tmp 51) (.tmp 53) 3, 4, none⟩)]
theorem c44draw2 {L : List Nat} {ρ : Env} {w : World} {Q : Post} (h : DL Tryz.prog c44D2 L ρ w.drew Q) : drawW Tryz.prog (drawOps 2 c44code) L ρ w Q :=
  drawW_still [true, true, true, true, false, true, false, true] c44D2 (by kernel_rfl) (by kernel_rfl) (by kernel_rfl) h
set_option maxRecDepth 100000 in
theorem ent44 (a0 a1 : Value) (w : World) (K : Value → World → Prop) (h : W Tryz.prog c44 [(0, a0), (1, a1)] w (finQ Tryz.prog [.cell 4 75] K)) : Ret Tryz.prog 44 [a0, a1] w K :=
  Ret_of_W (code := c44code) Tryz.func44 (by kernel_rfl) (by kernel_rfl) (of_decide_eq_true (by kernel_rfl)) h
@[go_sem] theorem go44 : goFunc Tryz.prog 44 = true := by kernel_rfl
noncomputable def c45code : Code := match Tryz.f45.body with | some c => c | none => .skip
noncomputable def c45S0 (_ : Unit) : Cmd := .ret
noncomputable def c45S1 (_ : Unit) : Cmd := .ret
noncomputable def c45S2 (_ : Unit) : Cmd := (.seq (.draw (drawOps 1 c45code) [2]) (sg c45S1))
noncomputable def c45S3 (_ : Unit) : Cmd := (.seq (.seq (.ops [
 ⟨some 27, .move (.tmp 0), 3, none⟩,
 ⟨some 28, .binOp .lss 3 (.tmp 27) (.const (.int .i64 10)) 3, 4, none⟩] [0, 28])
 (.cond (.tmp 28)
  (.seq (.ops [
  ⟨some 29, .move (.tmp 0), 3, none⟩,
  ⟨some 30, .binOp .add 3 (.const (.int .i64 48)) (.tmp 29) 3, 3, none⟩,
  ⟨some 31, .convert 3 5 (.tmp 30), 5, none⟩,
  ⟨some 32, .buildSlice 61 1 #[(0, (.tmp 31))], 61, none⟩,
  ⟨some 33, .convert 61 9 (.tmp 32), 9, none⟩,
  ⟨some 2, .assign (.tmp 33), 9, none⟩] [2])
  .ret)
  (.skip [0]))) (sg c45S2))
noncomputable def c45S4 (_ : Unit) : Cmd := (.seq (.seq (.ops [
 ⟨some 15, .move (.tmp 0), 3, none⟩,
 ⟨some 16, .binOp .lss 3 (.tmp 15) (.const (.int .i64 0)) 3, 4, none⟩] [0, 16])
 (.cond (.tmp 16)
  (.seq (.draw (drawOps 0 c45code) [2]) (sg c45S0))
  (.skip [0]))) (sg c45S3))
noncomputable def c45 : Cmd := (.seq (.ops [
 ⟨some 2, .assign (.const (.string (ofL []))), 9, none⟩] [0])
 (.seq (.seq (.ops [
 ⟨some 3, .move (.tmp 0), 3, none⟩,
 ⟨some 4, .binOp .gtr 3 (.tmp 3) (.const (.int .i64 (-10))) 3, 4, none⟩,
 ⟨some 5, .move (.tmp 4), 4, none⟩,
 ⟨some 6, .move (.tmp 0), 3, (some (5, true))⟩,
 ⟨some 7, .binOp .lss 3 (.tmp 6) (.const (.int .i64 0)) 3, 4, (some (5, true))⟩,
 ⟨some 8, .pick (.tmp 5) (.tmp 7) (.const (.bool false)), 4, none⟩] [0, 8])
 (.cond (.tmp 8)
  (.seq (.ops [
  ⟨some 9, .move (.tmp 0), 3, none⟩,
  ⟨some 10, .binOp .sub 3 (.const (.int .i64 48)) (.tmp 9) 3, 3, none⟩,
  ⟨some 11, .convert 3 5 (.tmp 10), 5, none⟩,
  ⟨some 12, .buildSlice 61 1 #[(0, (.tmp 11))], 61, none⟩,
  ⟨some 13, .convert 61 9 (.tmp 12), 9, none⟩,
  ⟨some 14, .binOp .add 9 (.const (.string (ofL [45]))) (.tmp 13) 9, 9, none⟩,
  ⟨some 2, .assign (.tmp 14), 9, none⟩] [2])
  .ret)
  (.skip [0]))) (sg c45S4)))
noncomputable def c45D0 : GT := (.one 0 ⟨some 17, .move (.tmp 0), 3, none⟩
 (.one 0 ⟨some 18, .binOp .quo 3 (.tmp 17) (.const (.int .i64 10)) 3, 3, none⟩
 (.one 0 ⟨some 20, .move (.tmp 0), 3, none⟩
 (.one 0 ⟨some 21, .binOp .rem 3 (.tmp 20) (.const (.int .i64 10)) 3, 3, none⟩
 (.one 0 ⟨some 22, .binOp .sub 3 (.const (.int .i64 48)) (.tmp 21) 3, 3, none⟩
 (.one 0 ⟨some 23, .convert 3 5 (.tmp 22), 5, none⟩
 (.alt ⟨some 19, .call ⟨.value (.func 45), #[(.tmp 18)], #[3]⟩, 9, none⟩
 (.one 2 ⟨some 24, .buildSlice 61 1 #[(0, (.tmp 23))], 61, none⟩
 (.one 2 ⟨some 25, .convert 61 9 (.tmp 24), 9, none⟩
 (.one 0 ⟨some 26, .binOp .add 9 (.tmp 19) (.tmp 25) 9, 9, none⟩
 (.one 0 ⟨some 2, .assign (.tmp 26), 9, none⟩
 .nil))))
 (.alt ⟨some 24, .buildSlice 61 1 #[(0, (.tmp 23))], 61, none⟩
 (.alt ⟨some 19, .call ⟨.value (.func 45), #[(.tmp 18)], #[3]⟩, 9, none⟩
 (.one 2 ⟨some 25, .convert 61 9 (.tmp 24), 9, none⟩
 (.one 0 ⟨some 26, .binOp .add 9 (.tmp 19) (.tmp 25) 9, 9, none⟩
 (.one 0 ⟨some 2, .assign (.tmp 26), 9, none⟩
 .nil)))
 (.alt ⟨some 25, .convert 61 9 (.tmp 24), 9, none⟩
 (.one 2 ⟨some 19, .call ⟨.value (.func 45), #[(.tmp 18)], #[3]⟩, 9, none⟩
 (.one 0 ⟨some 26, .binOp .add 9 (.tmp 19) (.tmp 25) 9, 9, none⟩
 (.one 0 ⟨some 2, .assign (.tmp 26), 9, none⟩
 .nil)))
 .stop))
 .stop))))))))
theorem c45draw0 {L : List Nat} {ρ : Env} {w : World} {Q : Post} (S : World → Prop) (hS : S w.drew) (h : DT Tryz.prog S c45D0 L ρ w.drew Q) : drawW Tryz.prog (drawOps 0 c45code) L ρ w Q :=
  drawW_tree [] (.one 0 0 (.one 0 1 (.one 0 3 (.one 0 4 (.one 0 5 (.one 0 6 (.alt 2 (.one 2 7 (.one 2 8 (.one 0 9 (.one 0 10 .nil)))) (.alt 7 (.alt 2 (.one 2 8 (.one 0 9 (.one 0 10 .nil))) (.alt 8 (.one 2 2 (.one 0 9 (.one 0 10 .nil))) .stop)) .stop)))))))) c45D0 (by kernel_rfl) (by kernel_rfl) (by kernel_rfl) S hS h
noncomputable def c45D1 : GT := (.one 0 ⟨some 34, .move (.tmp 0), 3, none⟩
 (.one 0 ⟨some 35, .binOp .quo 3 (.tmp 34) (.const (.int .i64 10)) 3, 3, none⟩
 (.one 0 ⟨some 37, .move (.tmp 0), 3, none⟩
 (.one 0 ⟨some 38, .binOp .rem 3 (.tmp 37) (.const (.int .i64 10)) 3, 3, none⟩
 (.one 0 ⟨some 39, .binOp .add 3 (.const (.int .i64 48)) (.tmp 38) 3, 3, none⟩
 (.one 0 ⟨some 40, .convert 3 5 (.tmp 39), 5, none⟩
 (.alt ⟨some 36, .call ⟨.value (.func 45), #[(.tmp 35)], #[3]⟩, 9, none⟩
 (.one 2 ⟨some 41, .buildSlice 61 1 #[(0, (.tmp 40))], 61, none⟩
 (.one 2 ⟨some 42, .convert 61 9 (.tmp 41), 9, none⟩
 (.one 0 ⟨some 43, .binOp .add 9 (.tmp 36) (.tmp 42) 9, 9, none⟩
 (.one 0 ⟨some 2, .assign (.tmp 43), 9, none⟩
 .nil))))
 (.alt ⟨some 41, .buildSlice 61 1 #[(0, (.tmp 40))], 61, none⟩
 (.alt ⟨some 36, .call ⟨.value (.func 45), #[(.tmp 35)], #[3]⟩, 9, none⟩
 (.one 2 ⟨some 42, .convert 61 9 (.tmp 41), 9, none⟩
 (.one 0 ⟨some 43, .binOp .add 9 (.tmp 36) (.tmp 42) 9, 9, none⟩
 (.one 0 ⟨some 2, .assign (.tmp 43), 9, none⟩
 .nil)))
 (.alt ⟨some 42, .convert 61 9 (.tmp 41), 9, none⟩
 (.one 2 ⟨some 36, .call ⟨.value (.func 45), #[(.tmp 35)], #[3]⟩, 9, none⟩
 (.one 0 ⟨some 43, .binOp .add 9 (.tmp 36) (.tmp 42) 9, 9, none⟩
 (.one 0 ⟨some 2, .assign (.tmp 43), 9, none⟩
 .nil)))
 .stop))
 .stop))))))))
theorem c45draw1 {L : List Nat} {ρ : Env} {w : World} {Q : Post} (S : World → Prop) (hS : S w.drew) (h : DT Tryz.prog S c45D1 L ρ w.drew Q) : drawW Tryz.prog (drawOps 1 c45code) L ρ w Q :=
  drawW_tree [] (.one 0 0 (.one 0 1 (.one 0 3 (.one 0 4 (.one 0 5 (.one 0 6 (.alt 2 (.one 2 7 (.one 2 8 (.one 0 9 (.one 0 10 .nil)))) (.alt 7 (.alt 2 (.one 2 8 (.one 0 9 (.one 0 10 .nil))) (.alt 8 (.one 2 2 (.one 0 9 (.one 0 10 .nil))) .stop)) .stop)))))))) c45D1 (by kernel_rfl) (by kernel_rfl) (by kernel_rfl) S hS h
set_option maxRecDepth 100000 in
theorem ent45 (a0 : Value) (w : World) (K : Value → World → Prop) (h : W Tryz.prog c45 [(0, a0)] w (finQ Tryz.prog [.tmp 2] K)) : Ret Tryz.prog 45 [a0] w K :=
  Ret_of_W (code := c45code) Tryz.func45 (by kernel_rfl) (by kernel_rfl) (of_decide_eq_true (by kernel_rfl)) h
@[go_sem] theorem go45 : goFunc Tryz.prog 45 = true := by kernel_rfl
noncomputable def c46code : Code := match Tryz.f46.body with | some c => c | none => .skip
noncomputable def c46S0 (_ : Unit) : Cmd := (.ops [
 ⟨some 14, .move (.tmp 7), 3, none⟩,
 ⟨some 15, .binOp .add 3 (.tmp 14) (.const (.int .i64 1)) 3, 3, none⟩,
 ⟨some 7, .assign (.tmp 15), 3, none⟩] [2, 5, 6, 7])
noncomputable def c46S1 (_ : Unit) : Cmd := (.seq (.block 1 (.draw (drawOps 0 c46code) [2, 5, 6, 7])) (sg c46S0))
noncomputable def c46L0 (_ : Unit) : Cmd := (.seq (.seq (.ops [
 ⟨some 10, .move (.tmp 7), 3, none⟩,
 ⟨some 11, .move (.tmp 6), 36, none⟩,
 ⟨some 12, .call ⟨.builtin .len, #[(.tmp 11)], #[36]⟩, 3, none⟩,
 ⟨some 13, .binOp .lss 3 (.tmp 10) (.tmp 12) 3, 4, none⟩] [2, 5, 6, 7, 13])
 (.cond (.tmp 13)
  (.skip [2, 5, 6, 7])
  (.exit 0 [5]))) (sg c46S1))
noncomputable def c46S2 (_ : Unit) : Cmd := (.seq (.ops [
 ⟨some 36, .move (.tmp 5), 9, none⟩,
 ⟨some 4, .assign (.tmp 36), 9, none⟩] [4])
 .ret)
noncomputable def c46S3 (_ : Unit) : Cmd := (.seq (.seq (.ops [
 ⟨some 7, .assign (.const (.int .i64 0)), 3, none⟩] [2, 5, 6, 7])
 (.block 0 (.loop (sg c46L0)))) (sg c46S2))
noncomputable def c46 : Cmd := (.seq (.ops [
 ⟨some 2, .box 75 (.tmp 0), 0, none⟩,
 ⟨some 4, .assign (.const (.string (ofL []))), 9, none⟩] [1, 2])
 (.seq (.ops [
 ⟨some 5, .assign (.const (.string (ofL []))), 9, none⟩] [1, 2, 5])
 (.seq (.ops [
 ⟨some 8, .move (.tmp 1), 22, none⟩,
 ⟨some 9, .call ⟨.value (.func 19), #[(.tmp 8)], #[22]⟩, 36, none⟩,
 ⟨some 6, .assign (.tmp 9), 36, none⟩] [2, 5, 6]) (sg c46S3))))
noncomputable def c46D0 : List (Nat × Ins) := [
 (0, ⟨some 16, .move (.tmp 5), 9, none⟩),
 (0, ⟨some 17, .move (.tmp 6), 36, none⟩),
 (0, ⟨some 18, .move (.tmp 7), 3, none⟩),
 (0, ⟨some 19, .indexAddr 36 (.tmp 17) (.tmp 18), 0, none⟩),
 (0, ⟨some 29, .move (.tmp 6), 36, none⟩),
 (0, ⟨some 30, .move (.tmp 7), 3, none⟩),
 (0, ⟨some 31, .indexAddr 36 (.tmp 29) (.tmp 30), 0, none⟩),
 (1, ⟨some 20, .load 22 (.tmp 19), 22, none⟩),
 (0, ⟨some 21, .indexAddr 22 (.tmp 20) (.const (.int .i64 0)), 0, none⟩),
 (0, ⟨some 22, .fieldAddr 56 (.tmp 21) 1, 0, none⟩),
 (1, ⟨some 23, .load 3 (.tmp 22), 3, none⟩),
 (1, ⟨some 28, .load 75 (.tmp 2), 75, none⟩),
 (1, ⟨some 32, .load 22 (.tmp 31), 22, none⟩),
 (2, ⟨some 24, .call ⟨.value (.func 45), #[(.tmp 23)], #[3]⟩, 9, none⟩),
 (0, ⟨some 25, .binOp .add 9 (.const (.string (ofL [112]))) (.tmp 24) 9, 9, none⟩),
 (2, ⟨some 26, .call ⟨.value (.func 47), #[(.tmp 25)], #[9]⟩, 9, none⟩),
 (0, ⟨some 27, .binOp .add 9 (.tmp 16) (.tmp 26) 9, 9, none⟩),
 (2, ⟨some 33, .call ⟨.value (.func 85), #[(.tmp 28), (.tmp 32)], #[75, 22]⟩, 9, none⟩),
 (0, ⟨some 34, .binOp .add 9 (.tmp 27) (.tmp 33) 9, 9, none⟩),
 (0, ⟨some 35, .binOp .add 9 (.tmp 34) (.const (.string (ofL [10]))) 9, 9, none⟩),
 (0, ⟨some 5, .assign (.tmp 35), 9, none⟩)]
theorem c46draw0 {L : List Nat} {ρ : Env} {w : World} {Q : Post} (S : World → Prop) (hS : S w.drew) (h : DG Tryz.prog S c46D0 L ρ w.drew Q) : drawW Tryz.prog (drawOps 0 c46code) L ρ w Q :=
  drawW_held [4, 7, 12, 16] [(0, 0), (0, 1), (0, 2), (0, 3), (0, 13), (0, 14), (0, 15), (1, 4), (0, 5), (0, 6), (1, 7), (1, 12), (1, 16), (2, 8), (0, 9), (2, 10), (0, 11), (2, 17), (0, 18), (0, 19), (0, 20)] c46D0 (by kernel_rfl) (by kernel_rfl) (by kernel_rfl) S hS h
set_option maxRecDepth 100000 in
theorem ent46 (a0 a1 : Value) (w : World) (K : Value → World → Prop) (h : W Tryz.prog c46 [(0, a0), (1, a1)] w (finQ Tryz.prog [.tmp 4] K)) : Ret Tryz.prog 46 [a0, a1] w K :=
  Ret_of_W (code := c46code) Tryz.func46 (by kernel_rfl) (by kernel_rfl) (of_decide_eq_true (by kernel_rfl)) h
@[go_sem] theorem go46 : goFunc Tryz.prog 46 = true := by kernel_rfl
noncomputable def c47code : Code := match Tryz.f47.body with | some c => c | none => .skip
noncomputable def c47S0 (_ : Unit) : Cmd := (.block 1 (.ops [
 ⟨some 6, .move (.tmp 0), 9, none⟩,
 ⟨some 7, .binOp .add 9 (.tmp 6) (.const (.string (ofL [32]))) 9, 9, none⟩,
 ⟨some 0, .assign (.tmp 7), 9, none⟩] [0]))
noncomputable def c47L0 (_ : Unit) : Cmd := (.seq (.seq (.ops [
 ⟨some 3, .move (.tmp 0), 9, none⟩,
 ⟨some 4, .call ⟨.builtin .len, #[(.tmp 3)], #[9]⟩, 3, none⟩,
 ⟨some 5, .binOp .lss 3 (.tmp 4) (.const (.int .i64 7)) 3, 4, none⟩] [0, 5])
 (.cond (.tmp 5)
  (.skip [0])
  (.exit 0 [0]))) (sg c47S0))
noncomputable def c47S1 (_ : Unit) : Cmd := (.seq (.ops [
 ⟨some 8, .move (.tmp 0), 9, none⟩,
 ⟨some 2, .assign (.tmp 8), 9, none⟩] [2])
 .ret)
noncomputable def c47 : Cmd := (.seq (.ops [
 ⟨some 2, .assign (.const (.string (ofL []))), 9, none⟩] [0])
 (.seq (.block 0 (.loop (sg c47L0))) (sg c47S1)))
set_option maxRecDepth 100000 in
theorem ent47 (a0 : Value) (w : World) (K : Value → World → Prop) (h : W Tryz.prog c47 [(0, a0)] w (finQ Tryz.prog [.tmp 2] K)) : Ret Tryz.prog 47 [a0] w K :=
  Ret_of_W (code := c47code) Tryz.func47 (by kernel_rfl) (by kernel_rfl) (of_decide_eq_true (by kernel_rfl)) h
@[go_sem] theorem go47 : goFunc Tryz.prog 47 = true := by kernel_rfl
noncomputable def c48code : Code := match Tryz.f48.body with | some c => c | none => .skip
noncomputable def c48S0 (_ : Unit) : Cmd := (.seq (.block 1 (.ops [
 ⟨some 19, .move (.tmp 5), 61, none⟩,
 ⟨some 20, .move (.tmp 6), 3, none⟩,
 ⟨some 21, .indexAddr 61 (.tmp 19) (.tmp 20), 0, none⟩,
 ⟨none, .store 5 (.tmp 21) (.const (.int .u8 32)), 0, none⟩] [1, 2, 5, 6]))
 (.ops [
 ⟨some 17, .move (.tmp 6), 3, none⟩,
 ⟨some 18, .binOp .add 3 (.tmp 17) (.const (.int .i64 1)) 3, 3, none⟩,
 ⟨some 6, .assign (.tmp 18), 3, none⟩] [1, 2, 5, 6]))
noncomputable def c48L0 (_ : Unit) : Cmd := (.seq (.seq (.ops [
 ⟨some 13, .move (.tmp 6), 3, none⟩,
 ⟨some 14, .move (.tmp 5), 61, none⟩,
 ⟨some 15, .call ⟨.builtin .len, #[(.tmp 14)], #[61]⟩, 3, none⟩,
 ⟨some 16, .binOp .lss 3 (.tmp 13) (.tmp 15) 3, 4, none⟩] [1, 2, 5, 6, 16])
 (.cond (.tmp 16)
  (.skip [1, 2, 5, 6])
  (.exit 0 [1, 2, 5]))) (sg c48S0))
noncomputable def c48S1 (_ : Unit) : Cmd := (.cond (.tmp 48)
  (.ops [
  ⟨some 49, .move (.tmp 5), 61, none⟩,
  ⟨some 50, .load 75 (.tmp 2), 75, none⟩,
  ⟨some 51, .move (.tmp 9), 3, none⟩,
  ⟨some 52, .call ⟨.value (.func 87), #[(.tmp 50), (.tmp 51)], #[75, 3]⟩, 3, none⟩,
  ⟨some 53, .indexAddr 61 (.tmp 49) (.tmp 52), 0, none⟩,
  ⟨none, .store 5 (.tmp 53) (.const (.int .u8 36)), 0, none⟩] [1, 2, 5, 7])
  (.skip [1, 2, 5, 7]))
noncomputable def c48S2 (_ : Unit) : Cmd := (.seq (.ops [
 ⟨some 42, .move (.tmp 5), 61, none⟩,
 ⟨some 43, .load 75 (.tmp 2), 75, none⟩,
 ⟨some 44, .move (.tmp 9), 3, none⟩,
 ⟨some 45, .call ⟨.value (.func 87), #[(.tmp 43), (.tmp 44)], #[75, 3]⟩, 3, none⟩,
 ⟨some 46, .indexAddr 61 (.tmp 42) (.tmp 45), 0, none⟩,
 ⟨some 47, .load 5 (.tmp 46), 5, none⟩,
 ⟨some 48, .binOp .eql 5 (.tmp 47) (.const (.int .u8 32)) 5, 4, none⟩] [1, 2, 5, 7, 9, 48]) (sg c48S1))
noncomputable def c48S3 (_ : Unit) : Cmd := (.seq (.ops [
 ⟨some 37, .move (.tmp 5), 61, none⟩,
 ⟨some 38, .load 75 (.tmp 2), 75, none⟩,
 ⟨some 39, .move (.tmp 8), 3, none⟩,
 ⟨some 40, .call ⟨.value (.func 87), #[(.tmp 38), (.tmp 39)], #[75, 3]⟩, 3, none⟩,
 ⟨some 41, .indexAddr 61 (.tmp 37) (.tmp 40), 0, none⟩,
 ⟨none, .store 5 (.tmp 41) (.const (.int .u8 94)), 0, none⟩] [1, 2, 5, 7, 9]) (sg c48S2))
noncomputable def c48S4 (_ : Unit) : Cmd := (.ops [
 ⟨some 26, .move (.tmp 7), 3, none⟩,
 ⟨some 27, .binOp .add 3 (.tmp 26) (.const (.int .i64 1)) 3, 3, none⟩,
 ⟨some 7, .assign (.tmp 27), 3, none⟩] [1, 2, 5, 7])
noncomputable def c48S5 (_ : Unit) : Cmd := (.seq (.block 3 (.seq (.ops [
 ⟨some 29, .move (.tmp 1), 43, none⟩,
 ⟨some 30, .move (.tmp 7), 3, none⟩,
 ⟨some 31, .indexAddr 43 (.tmp 29) (.tmp 30), 0, none⟩,
 ⟨some 32, .fieldAddr 51 (.tmp 31) 2, 0, none⟩,
 ⟨some 33, .load 22 (.tmp 32), 22, none⟩,
 ⟨some 34, .call ⟨.value (.func 86), #[(.tmp 33)], #[22]⟩, 127, none⟩,
 ⟨some 28, .move (.tmp 34), 127, none⟩,
 ⟨some 35, .extract (.tmp 28) 0, 3, none⟩,
 ⟨some 36, .extract (.tmp 28) 1, 3, none⟩,
 ⟨some 8, .assign (.tmp 35), 3, none⟩,
 ⟨some 9, .assign (.tmp 36), 3, none⟩] [1, 2, 5, 7, 8, 9]) (sg c48S3))) (sg c48S4))
noncomputable def c48L1 (_ : Unit) : Cmd := (.seq (.seq (.ops [
 ⟨some 22, .move (.tmp 7), 3, none⟩,
 ⟨some 23, .move (.tmp 1), 43, none⟩,
 ⟨some 24, .call ⟨.builtin .len, #[(.tmp 23)], #[43]⟩, 3, none⟩,
 ⟨some 25, .binOp .lss 3 (.tmp 22) (.tmp 24) 3, 4, none⟩] [1, 2, 5, 7, 25])
 (.cond (.tmp 25)
  (.skip [1, 2, 5, 7])
  (.exit 2 [5]))) (sg c48S5))
noncomputable def c48S6 (_ : Unit) : Cmd := (.seq (.ops [
 ⟨some 54, .move (.tmp 5), 61, none⟩,
 ⟨some 55, .convert 61 9 (.tmp 54), 9, none⟩,
 ⟨some 4, .assign (.tmp 55), 9, none⟩] [4])
 .ret)
noncomputable def c48S7 (_ : Unit) : Cmd := (.seq (.seq (.ops [
 ⟨some 7, .assign (.const (.int .i64 0)), 3, none⟩] [1, 2, 5, 7])
 (.block 2 (.loop (sg c48L1)))) (sg c48S6))
noncomputable def c48 : Cmd := (.seq (.ops [
 ⟨some 2, .box 75 (.tmp 0), 0, none⟩,
 ⟨some 4, .assign (.const (.string (ofL []))), 9, none⟩] [1, 2])
 (.seq (.ops [
 ⟨some 10, .fieldAddr 75 (.tmp 2) 2, 0, none⟩,
 ⟨some 11, .load 3 (.tmp 10), 3, none⟩,
 ⟨some 12, .makeSlice 61 (.tmp 11) (.tmp 11), 61, none⟩,
 ⟨some 5, .assign (.tmp 12), 61, none⟩] [1, 2, 5])
 (.seq (.seq (.ops [
 ⟨some 6, .assign (.const (.int .i64 0)), 3, none⟩] [1, 2, 5, 6])
 (.block 0 (.loop (sg c48L0)))) (sg c48S7))))
set_option maxRecDepth 100000 in
theorem ent48 (a0 a1 : Value) (w : World) (K : Value → World → Prop) (h : W Tryz.prog c48 [(0, a0), (1, a1)] w (finQ Tryz.prog [.tmp 4] K)) : Ret Tryz.prog 48 [a0, a1] w K :=
  Ret_of_W (code := c48code) Tryz.func48 (by kernel_rfl) (by kernel_rfl) (of_decide_eq_true (by kernel_rfl)) h
@[go_sem] theorem go48 : goFunc Tryz.prog 48 = true := by kernel_rfl
noncomputable def c49code : Code := match Tryz.f49.body with | some c => c | none => .skip
noncomputable def c49S0 (_ : Unit) : Cmd := (.ops [
 ⟨some 29, .move (.tmp 8), 3, none⟩,
 ⟨some 30, .binOp .add 3 (.tmp 29) (.const (.int .i64 1)) 3, 3, none⟩,
 ⟨some 8, .assign (.tmp 30), 3, none⟩] [1, 3, 4, 5, 6, 7, 8])
noncomputable def c49S1 (_ : Unit) : Cmd := (.seq (.block 3 (.draw (drawOps 0 c49code) [1, 3, 4, 5, 6, 7, 8])) (sg c49S0))
noncomputable def c49L0 (_ : Unit) : Cmd := (.seq (.seq (.ops [
 ⟨some 23, .move (.tmp 8), 3, none⟩,
 ⟨some 24, .move (.tmp 6), 3, none⟩,
 ⟨some 25, .binOp .lss 3 (.tmp 23) (.tmp 24) 3, 4, none⟩,
 ⟨some 26, .move (.tmp 25), 4, none⟩,
 ⟨some 27, .move (.tmp 7), 4, (some (26, true))⟩,
 ⟨some 28, .pick (.tmp 26) (.tmp 27) (.const (.bool false)), 4, none⟩] [1, 3, 4, 5, 6, 7, 8, 28])
 (.cond (.tmp 28)
  (.skip [1, 3, 4, 5, 6, 8])
  (.exit 2 [1, 3, 4, 5, 6, 7]))) (sg c49S1))
noncomputable def c49S2 (_ : Unit) : Cmd := (.ops [
  ⟨some 59, .move (.tmp 6), 3, none⟩,
  ⟨some 5, .assign (.tmp 59), 3, none⟩] [1, 3, 4, 5, 6])
noncomputable def c49S3 (_ : Unit) : Cmd := (.seq (.ops [
 ⟨some 40, .move (.tmp 7), 4, none⟩,
 ⟨some 41, .move (.tmp 40), 4, none⟩,
 ⟨some 42, .move (.tmp 6), 3, (some (41, false))⟩,
 ⟨some 43, .move (.tmp 3), 22, (some (41, false))⟩,
 ⟨some 44, .call ⟨.builtin .len, #[(.tmp 43)], #[22]⟩, 3, (some (41, false))⟩,
 ⟨some 45, .binOp .eql 3 (.tmp 42) (.tmp 44) 3, 4, (some (41, false))⟩,
 ⟨some 46, .pick (.tmp 41) (.const (.bool true)) (.tmp 45), 4, none⟩] [1, 3, 4, 5, 6, 46])
 (.cond (.tmp 46)
  (.seq (.draw (drawOps 1 c49code) [1, 3, 4, 6]) (sg c49S2))
  (.skip [1, 3, 4, 5, 6])))
noncomputable def c49S4 (_ : Unit) : Cmd := (.ops [
 ⟨some 16, .move (.tmp 6), 3, none⟩,
 ⟨some 17, .binOp .add 3 (.tmp 16) (.const (.int .i64 1)) 3, 3, none⟩,
 ⟨some 6, .assign (.tmp 17), 3, none⟩] [1, 3, 4, 5, 6])
noncomputable def c49S5 (_ : Unit) : Cmd := (.seq (.block 1 (.seq (.ops [
 ⟨some 18, .move (.tmp 6), 3, none⟩,
 ⟨some 19, .move (.tmp 3), 22, none⟩,
 ⟨some 20, .call ⟨.builtin .len, #[(.tmp 19)], #[22]⟩, 3, none⟩,
 ⟨some 21, .binOp .lss 3 (.tmp 18) (.tmp 20) 3, 4, none⟩,
 ⟨some 7, .assign (.tmp 21), 4, none⟩] [1, 3, 4, 5, 6, 7])
 (.seq (.seq (.ops [
 ⟨some 22, .move (.tmp 5), 3, none⟩,
 ⟨some 8, .assign (.tmp 22), 3, none⟩] [1, 3, 4, 5, 6, 7, 8])
 (.block 2 (.loop (sg c49L0)))) (sg c49S3)))) (sg c49S4))
noncomputable def c49L1 (_ : Unit) : Cmd := (.seq (.seq (.ops [
 ⟨some 12, .move (.tmp 6), 3, none⟩,
 ⟨some 13, .move (.tmp 3), 22, none⟩,
 ⟨some 14, .call ⟨.builtin .len, #[(.tmp 13)], #[22]⟩, 3, none⟩,
 ⟨some 15, .binOp .leq 3 (.tmp 12) (.tmp 14) 3, 4, none⟩] [1, 3, 4, 5, 6, 15])
 (.cond (.tmp 15)
  (.skip [1, 3, 4, 5, 6])
  (.exit 0 [4]))) (sg c49S5))
noncomputable def c49S6 (_ : Unit) : Cmd := (.seq (.ops [
 ⟨some 60, .move (.tmp 4), 43, none⟩,
 ⟨some 2, .assign (.tmp 60), 43, none⟩] [2])
 .ret)
noncomputable def c49S7 (_ : Unit) : Cmd := (.seq (.ops [
 ⟨some 4, .assign (.const (.slice none 0 0)), 43, none⟩] [1, 3, 4])
 (.seq (.ops [
 ⟨some 5, .assign (.const (.int .i64 0)), 3, none⟩] [1, 3, 4, 5])
 (.seq (.seq (.ops [
 ⟨some 6, .assign (.const (.int .i64 1)), 3, none⟩] [1, 3, 4, 5, 6])
 (.block 0 (.loop (sg c49L1)))) (sg c49S6))))
noncomputable def c49 : Cmd := (.seq (.ops [
 ⟨some 1, .box 51 (.tmp 0), 0, none⟩,
 ⟨some 2, .assign (.const (.slice none 0 0)), 43, none⟩] [1])
 (.seq (.ops [
 ⟨some 9, .fieldAddr 51 (.tmp 1) 2, 0, none⟩,
 ⟨some 10, .load 22 (.tmp 9), 22, none⟩,
 ⟨some 11, .call ⟨.value (.func 58), #[(.tmp 10)], #[22]⟩, 22, none⟩,
 ⟨some 3, .assign (.tmp 11), 22, none⟩] [1, 3]) (sg c49S7)))
noncomputable def c49D0 : List (Nat × Ins) := [
 (0, ⟨some 31, .move (.tmp 3), 22, none⟩),
 (0, ⟨some 32, .move (.tmp 8), 3, none⟩),
 (0, ⟨some 33, .indexAddr 22 (.tmp 31) (.tmp 32), 0, none⟩),
 (0, ⟨some 35, .move (.tmp 3), 22, none⟩),
 (0, ⟨some 36, .move (.tmp 6), 3, none⟩),
 (0, ⟨some 37, .indexAddr 22 (.tmp 35) (.tmp 36), 0, none⟩),
 (1, ⟨some 34, .load 56 (.tmp 33), 56, none⟩),
 (2, ⟨some 38, .load 56 (.tmp 37), 56, none⟩),
 (3, ⟨some 39, .call ⟨.value (.func 88), #[(.tmp 34), (.tmp 38)], #[56, 56]⟩, 4, none⟩),
 (0, ⟨some 7, .assign (.tmp 39), 4, none⟩)]
theorem c49draw0 {L : List Nat} {ρ : Env} {w : World} {Q : Post} (S : World → Prop) (hS : S w.drew) (h : DG Tryz.prog S c49D0 L ρ w.drew Q) : drawW Tryz.prog (drawOps 0 c49code) L ρ w Q :=
  drawW_held [3] [(0, 0), (0, 1), (0, 2), (0, 4), (0, 5), (0, 6), (1, 3), (2, 7), (3, 8), (0, 9)] c49D0 (by kernel_rfl) (by kernel_rfl) (by kernel_rfl) S hS h
noncomputable def c49D1 : List (Nat × Ins) := [
 (0, ⟨some 47, .move (.tmp 4), 43, none⟩),
 (0, ⟨some 48, .fieldAddr 51 (.tmp 1) 0, 0, none⟩),
 (0, ⟨some 50, .fieldAddr 51 (.tmp 1) 1, 0, none⟩),
 (0, ⟨some 52, .move (.tmp 3), 22, none⟩),
 (0, ⟨some 53, .move (.tmp 5), 3, none⟩),
 (0, ⟨some 54, .move (.tmp 6), 3, none⟩),
 (0, ⟨some 55, .slice 22 (.tmp 52) (some (.tmp 53)) (some (.tmp 54)) none, 22, none⟩),
 (1, ⟨some 49, .load 3 (.tmp 48), 3, none⟩),
 (2, ⟨some 51, .load 3 (.tmp 50), 3, none⟩),
 (3, ⟨some 56, .build 51 #[(0, (.tmp 49)), (1, (.tmp 51)), (2, (.tmp 55))], 51, none⟩),
 (2, ⟨some 57, .buildSlice 43 1 #[(0, (.tmp 56))], 43, none⟩),
 (2, ⟨some 58, .call ⟨.builtin .append, #[(.tmp 47), (.tmp 57)], #[43, 43]⟩, 43, none⟩),
 (0, ⟨some 4, .assign (.tmp 58), 43, none⟩)]
theorem c49draw1 {L : List Nat} {ρ : Env} {w : World} {Q : Post} (S : World → Prop) (hS : S w.drew) (h : DG Tryz.prog S c49D1 L ρ w.drew Q) : drawW Tryz.prog (drawOps 1 c49code) L ρ w Q :=
  drawW_held [2] [(0, 0), (0, 1), (0, 3), (0, 5), (0, 6), (0, 7), (0, 8), (1, 2), (2, 4), (3, 9), (2, 10), (2, 11), (0, 12)] c49D1 (by kernel_rfl) (by kernel_rfl) (by kernel_rfl) S hS h
set_option maxRecDepth 100000 in
theorem ent49 (a0 : Value) (w : World) (K : Value → World → Prop) (h : W Tryz.prog c49 [(0, a0)] w (finQ Tryz.prog [.tmp 2] K)) : Ret Tryz.prog 49 [a0] w K :=
  Ret_of_W (code := c49code) Tryz.func49 (by kernel_rfl) (by kernel_rfl) (of_decide_eq_true (by kernel_rfl)) h
@[go_sem] theorem go49 : goFunc Tryz.prog 49 = true := by kernel_rfl
@[go_sem] theorem go50 : goFunc Tryz.prog 50 = true := by kernel_rfl
@[go_sem] theorem go51 : goFunc Tryz.prog 51 = true := by kernel_rfl
@[go_sem] theorem go52 : goFunc Tryz.prog 52 = true := by kernel_rfl
@[go_sem] theorem go53 : goFunc Tryz.prog 53 = true := by kernel_rfl
@[go_sem] theorem go54 : goFunc Tryz.prog 54 = true := by kernel_rfl
noncomputable def c55code : Code := match Tryz.f55.body with | some c => c | none => .skip
noncomputable def c55S0 (_ : Unit) : Cmd := (.cond (.tmp 22)
  (.seq (.ops [
  ⟨some 2, .assign (.const (.int .i64 30)), 3, none⟩] [2])
  .ret)
  (.skip [1]))
noncomputable def c55S1 (_ : Unit) : Cmd := (.cond (.tmp 50)
  (.seq (.ops [
  ⟨some 2, .assign (.const (.int .i64 33)), 3, none⟩] [2])
  .ret)
  (.skip [1, 3]))
noncomputable def c55S2 (_ : Unit) : Cmd := (.cond (.tmp 70)
  (.seq (.ops [
  ⟨some 2, .assign (.const (.int .i64 33)), 3, none⟩] [2])
  .ret)
  (.skip [1]))
noncomputable def c55S3 (_ : Unit) : Cmd := (.cond (.tmp 84)
  (.seq (.ops [
  ⟨some 2, .assign (.const (.int .i64 31)), 3, none⟩] [2])
  .ret)
  (.skip [1]))
noncomputable def c55S4 (_ : Unit) : Cmd := (.seq (.ops [
 ⟨some 2, .assign (.const (.int .i64 0)), 3, none⟩] [2])
 .ret)
noncomputable def c55S5 (_ : Unit) : Cmd := (.seq (.seq (.ops [
 ⟨some 85, .fieldAddr 56 (.tmp 1) 7, 0, none⟩,
 ⟨some 86, .load 4 (.tmp 85), 4, none⟩,
 ⟨some 87, .move (.tmp 86), 4, none⟩,
 ⟨some 88, .fieldAddr 56 (.tmp 1) 10, 0, (some (87, true))⟩,
 ⟨some 89, .load 3 (.tmp 88), 3, (some (87, true))⟩,
 ⟨some 90, .fieldAddr 56 (.tmp 1) 9, 0, (some (87, true))⟩,
 ⟨some 91, .load 3 (.tmp 90), 3, (some (87, true))⟩,
 ⟨some 92, .binOp .leq 3 (.tmp 89) (.tmp 91) 3, 4, (some (87, true))⟩,
 ⟨some 93, .move (.tmp 92), 4, (some (87, true))⟩,
 ⟨some 94, .fieldAddr 56 (.tmp 1) 10, 0, (some (93, false))⟩,
 ⟨some 95, .load 3 (.tmp 94), 3, (some (93, false))⟩,
 ⟨some 96, .binOp .gtr 3 (.tmp 95) (.const (.int .i64 1099511627776)) 3, 4, (some (93, false))⟩,
 ⟨some 97, .pick (.tmp 93) (.const (.bool true)) (.tmp 96), 4, (some (87, true))⟩,
 ⟨some 98, .pick (.tmp 87) (.tmp 97) (.const (.bool false)), 4, none⟩] [98])
 (.cond (.tmp 98)
  (.seq (.ops [
  ⟨some 2, .assign (.const (.int .i64 31)), 3, none⟩] [2])
  .ret)
  (.skip []))) (sg c55S4))
noncomputable def c55S6 (_ : Unit) : Cmd := (.seq (.seq (.ops [
 ⟨some 71, .fieldAddr 56 (.tmp 1) 9, 0, none⟩,
 ⟨some 72, .load 3 (.tmp 71), 3, none⟩,
 ⟨some 73, .call ⟨.value (.func 102), #[(.tmp 72), (.const (.int .i64 0)), (.const (.int .i64 1099511627776))], #[3, 3, 3]⟩, 4, none⟩,
 ⟨some 74, .unOp .not 4 (.tmp 73), 4, none⟩,
 ⟨some 75, .move (.tmp 74), 4, none⟩,
 ⟨some 76, .fieldAddr 56 (.tmp 1) 7, 0, (some (75, false))⟩,
 ⟨some 77, .load 4 (.tmp 76), 4, (some (75, false))⟩,
 ⟨some 78, .unOp .not 4 (.tmp 77), 4, (some (75, false))⟩,
 ⟨some 79, .move (.tmp 78), 4, (some (75, false))⟩,
 ⟨some 80, .fieldAddr 56 (.tmp 1) 10, 0, (some (79, true))⟩,
 ⟨some 81, .load 3 (.tmp 80), 3, (some (79, true))⟩,
 ⟨some 82, .binOp .neq 3 (.tmp 81) (.const (.int .i64 0)) 3, 4, (some (79, true))⟩,
 ⟨some 83, .pick (.tmp 79) (.tmp 82) (.const (.bool false)), 4, (some (75, false))⟩,
 ⟨some 84, .pick (.tmp 75) (.const (.bool true)) (.tmp 83), 4, none⟩] [1, 84]) (sg c55S3)) (sg c55S5))
noncomputable def c55S7 (_ : Unit) : Cmd := (.seq (.seq (.ops [
 ⟨some 51, .fieldAddr 56 (.tmp 1) 7, 0, none⟩,
 ⟨some 52, .load 4 (.tmp 51), 4, none⟩,
 ⟨some 53, .move (.tmp 52), 4, none⟩,
 ⟨some 54, .fieldAddr 56 (.tmp 1) 8, 0, (some (53, true))⟩,
 ⟨some 55, .load 3 (.tmp 54), 3, (some (53, true))⟩,
 ⟨some 56, .fieldAddr 153 (.tmp 3) 3, 0, (some (53, true))⟩,
 ⟨some 57, .load 3 (.tmp 56), 3, (some (53, true))⟩,
 ⟨some 58, .call ⟨.value (.func 104), #[(.tmp 55), (.tmp 57)], #[3, 3]⟩, 4, (some (53, true))⟩,
 ⟨some 59, .unOp .not 4 (.tmp 58), 4, (some (53, true))⟩,
 ⟨some 60, .pick (.tmp 53) (.tmp 59) (.const (.bool false)), 4, none⟩,
 ⟨some 61, .move (.tmp 60), 4, none⟩,
 ⟨some 62, .fieldAddr 56 (.tmp 1) 7, 0, (some (61, false))⟩,
 ⟨some 63, .load 4 (.tmp 62), 4, (some (61, false))⟩,
 ⟨some 64, .unOp .not 4 (.tmp 63), 4, (some (61, false))⟩,
 ⟨some 65, .move (.tmp 64), 4, (some (61, false))⟩,
 ⟨some 66, .fieldAddr 56 (.tmp 1) 8, 0, (some (65, true))⟩,
 ⟨some 67, .load 3 (.tmp 66), 3, (some (65, true))⟩,
 ⟨some 68, .binOp .neq 3 (.tmp 67) (.const (.int .i64 0)) 3, 4, (some (65, true))⟩,
 ⟨some 69, .pick (.tmp 65) (.tmp 68) (.const (.bool false)), 4, (some (61, false))⟩,
 ⟨some 70, .pick (.tmp 61) (.const (.bool true)) (.tmp 69), 4, none⟩] [1, 70]) (sg c55S2)) (sg c55S6))
noncomputable def c55S8 (_ : Unit) : Cmd := (.seq (.seq (.ops [
 ⟨some 39, .fieldAddr 56 (.tmp 1) 5, 0, none⟩,
 ⟨some 40, .load 3 (.tmp 39), 3, none⟩,
 ⟨some 41, .move (.tmp 5), 3, none⟩,
 ⟨some 42, .call ⟨.value (.func 102), #[(.tmp 40), (.const (.int .i64 0)), (.tmp 41)], #[3, 3, 3]⟩, 4, none⟩,
 ⟨some 43, .unOp .not 4 (.tmp 42), 4, none⟩,
 ⟨some 44, .move (.tmp 43), 4, none⟩,
 ⟨some 45, .fieldAddr 56 (.tmp 1) 6, 0, (some (44, false))⟩,
 ⟨some 46, .load 3 (.tmp 45), 3, (some (44, false))⟩,
 ⟨some 47, .move (.tmp 6), 3, (some (44, false))⟩,
 ⟨some 48, .call ⟨.value (.func 102), #[(.tmp 46), (.const (.int .i64 0)), (.tmp 47)], #[3, 3, 3]⟩, 4, (some (44, false))⟩,
 ⟨some 49, .unOp .not 4 (.tmp 48), 4, (some (44, false))⟩,
 ⟨some 50, .pick (.tmp 44) (.const (.bool true)) (.tmp 49), 4, none⟩] [1, 3, 50]) (sg c55S1)) (sg c55S7))
noncomputable def c55S9 (_ : Unit) : Cmd := (.seq (.seq (.ops [
 ⟨some 36, .fieldAddr 153 (.tmp 3) 2, 0, none⟩,
 ⟨some 37, .load 3 (.tmp 36), 3, none⟩,
 ⟨some 38, .binOp .geq 3 (.tmp 37) (.const (.int .i64 2)) 3, 4, none⟩] [1, 3, 5, 6, 38])
 (.cond (.tmp 38)
  (.ops [
  ⟨some 6, .assign (.const (.int .i64 1073741824)), 3, none⟩] [1, 3, 5, 6])
  (.skip [1, 3, 5, 6]))) (sg c55S8))
noncomputable def c55S10 (_ : Unit) : Cmd := (.seq (.ops [
 ⟨some 5, .assign (.const (.int .i64 0)), 3, none⟩,
 ⟨some 6, .assign (.const (.int .i64 0)), 3, none⟩] [1, 3, 5, 6])
 (.seq (.seq (.ops [
 ⟨some 33, .fieldAddr 153 (.tmp 3) 2, 0, none⟩,
 ⟨some 34, .load 3 (.tmp 33), 3, none⟩,
 ⟨some 35, .binOp .geq 3 (.tmp 34) (.const (.int .i64 1)) 3, 4, none⟩] [1, 3, 5, 6, 35])
 (.cond (.tmp 35)
  (.ops [
  ⟨some 5, .assign (.const (.int .i64 1073741824)), 3, none⟩] [1, 3, 5, 6])
  (.skip [1, 3, 5, 6]))) (sg c55S9)))
noncomputable def c55S11 (_ : Unit) : Cmd := (.seq (.seq (.ops [
 ⟨some 31, .move (.tmp 4), 4, none⟩,
 ⟨some 32, .unOp .not 4 (.tmp 31), 4, none⟩] [1, 3, 32])
 (.cond (.tmp 32)
  (.seq (.ops [
  ⟨some 2, .assign (.const (.int .i64 33)), 3, none⟩] [2])
  .ret)
  (.skip [1, 3]))) (sg c55S10))
noncomputable def c55S12 (_ : Unit) : Cmd := (.seq (.ops [
 ⟨some 24, .fieldAddr 56 (.tmp 1) 3, 0, none⟩,
 ⟨some 25, .load 3 (.tmp 24), 3, none⟩,
 ⟨some 26, .fieldAddr 56 (.tmp 1) 4, 0, none⟩,
 ⟨some 27, .load 3 (.tmp 26), 3, none⟩,
 ⟨some 28, .call ⟨.value (.func 103), #[(.tmp 25), (.tmp 27)], #[3, 3]⟩, 154, none⟩,
 ⟨some 23, .move (.tmp 28), 154, none⟩,
 ⟨some 29, .extract (.tmp 23) 0, 153, none⟩,
 ⟨some 30, .extract (.tmp 23) 1, 4, none⟩,
 ⟨some 3, .alloc 153, 0, none⟩,
 ⟨none, .store 153 (.tmp 3) (.tmp 29), 0, none⟩,
 ⟨some 4, .assign (.tmp 30), 4, none⟩] [1, 3, 4]) (sg c55S11))
noncomputable def c55 : Cmd := (.seq (.ops [
 ⟨some 1, .box 56 (.tmp 0), 0, none⟩,
 ⟨some 2, .assign (.const (.int .i64 0)), 3, none⟩] [1])
 (.seq (.seq (.ops [
 ⟨some 7, .fieldAddr 56 (.tmp 1) 0, 0, none⟩,
 ⟨some 8, .load 3 (.tmp 7), 3, none⟩,
 ⟨some 9, .call ⟨.value (.func 102), #[(.tmp 8), (.const (.int .i64 1)), (.const (.int .i64 1073741824))], #[3, 3, 3]⟩, 4, none⟩,
 ⟨some 10, .unOp .not 4 (.tmp 9), 4, none⟩,
 ⟨some 11, .move (.tmp 10), 4, none⟩,
 ⟨some 12, .fieldAddr 56 (.tmp 1) 1, 0, (some (11, false))⟩,
 ⟨some 13, .load 3 (.tmp 12), 3, (some (11, false))⟩,
 ⟨some 14, .call ⟨.value (.func 102), #[(.tmp 13), (.const (.int .i64 0)), (.const (.int .i64 1023))], #[3, 3, 3]⟩, 4, (some (11, false))⟩,
 ⟨some 15, .unOp .not 4 (.tmp 14), 4, (some (11, false))⟩,
 ⟨some 16, .pick (.tmp 11) (.const (.bool true)) (.tmp 15), 4, none⟩,
 ⟨some 17, .move (.tmp 16), 4, none⟩,
 ⟨some 18, .fieldAddr 56 (.tmp 1) 2, 0, (some (17, false))⟩,
 ⟨some 19, .load 3 (.tmp 18), 3, (some (17, false))⟩,
 ⟨some 20, .call ⟨.value (.func 102), #[(.tmp 19), (.const (.int .i64 0)), (.const (.int .i64 1023))], #[3, 3, 3]⟩, 4, (some (17, false))⟩,
 ⟨some 21, .unOp .not 4 (.tmp 20), 4, (some (17, false))⟩,
 ⟨some 22, .pick (.tmp 17) (.const (.bool true)) (.tmp 21), 4, none⟩] [1, 22]) (sg c55S0)) (sg c55S12)))
set_option maxRecDepth 100000 in
theorem ent55 (a0 : Value) (w : World) (K : Value → World → Prop) (h : W Tryz.prog c55 [(0, a0)] w (finQ Tryz.prog [.tmp 2] K)) : Ret Tryz.prog 55 [a0] w K :=
  Ret_of_W (code := c55code) Tryz.func55 (by kernel_rfl) (by kernel_rfl) (of_decide_eq_true (by kernel_rfl)) h
@[go_sem] theorem go55 : goFunc Tryz.prog 55 = true := by kernel_rfl
@[go_sem] theorem go56 : goFunc Tryz.prog 56 = true := by kernel_rfl
@[go_sem] theorem go57 : goFunc Tryz.prog 57 = true := by kernel_rfl
noncomputable def c58code : Code := match Tryz.f58.body with | some c => c | none => .skip
noncomputable def c58S0 (_ : Unit) : Cmd := (.cond (.tmp 55)
  (.skip [0, 3, 4, 5])
  (.exit 2 [0, 3, 4, 5]))
noncomputable def c58S1 (_ : Unit) : Cmd := (.block 3 (.ops [
 ⟨some 56, .move (.tmp 5), 3, none⟩,
 ⟨some 57, .binOp .add 3 (.tmp 56) (.const (.int .i64 1)) 3, 3, none⟩,
 ⟨some 5, .assign (.tmp 57), 3, none⟩] [0, 3, 4, 5]))
noncomputable def c58L0 (_ : Unit) : Cmd := (.seq (.seq (.draw (drawOps 0 c58code) [0, 3, 4, 5, 55]) (sg c58S0)) (sg c58S1))
noncomputable def c58S2 (_ : Unit) : Cmd := (.ops [
 ⟨some 70, .move (.tmp 6), 22, none⟩,
 ⟨some 71, .move (.tmp 3), 22, none⟩,
 ⟨some 72, .move (.tmp 5), 3, none⟩,
 ⟨some 73, .slice 22 (.tmp 71) (some (.tmp 72)) none none, 22, none⟩,
 ⟨some 74, .call ⟨.builtin .append, #[(.tmp 70), (.tmp 73)], #[22, 22]⟩, 22, none⟩,
 ⟨some 3, .assign (.tmp 74), 22, none⟩] [0, 3, 4])
noncomputable def c58S3 (_ : Unit) : Cmd := (.seq (.ops [
 ⟨some 63, .move (.tmp 6), 22, none⟩,
 ⟨some 64, .move (.tmp 0), 22, none⟩,
 ⟨some 65, .move (.tmp 4), 3, none⟩,
 ⟨some 66, .indexAddr 22 (.tmp 64) (.tmp 65), 0, none⟩,
 ⟨some 67, .load 56 (.tmp 66), 56, none⟩,
 ⟨some 68, .buildSlice 22 1 #[(0, (.tmp 67))], 22, none⟩,
 ⟨some 69, .call ⟨.builtin .append, #[(.tmp 63), (.tmp 68)], #[22, 22]⟩, 22, none⟩,
 ⟨some 6, .assign (.tmp 69), 22, none⟩] [0, 3, 4, 5, 6]) (sg c58S2))
noncomputable def c58S4 (_ : Unit) : Cmd := (.seq (.ops [
 ⟨some 58, .buildSlice 22 0 #[], 22, none⟩,
 ⟨some 59, .move (.tmp 3), 22, none⟩,
 ⟨some 60, .move (.tmp 5), 3, none⟩,
 ⟨some 61, .slice 22 (.tmp 59) none (some (.tmp 60)) none, 22, none⟩,
 ⟨some 62, .call ⟨.builtin .append, #[(.tmp 58), (.tmp 61)], #[22, 22]⟩, 22, none⟩,
 ⟨some 6, .assign (.tmp 62), 22, none⟩] [0, 3, 4, 5, 6]) (sg c58S3))
noncomputable def c58S5 (_ : Unit) : Cmd := (.ops [
 ⟨some 11, .move (.tmp 4), 3, none⟩,
 ⟨some 12, .binOp .add 3 (.tmp 11) (.const (.int .i64 1)) 3, 3, none⟩,
 ⟨some 4, .assign (.tmp 12), 3, none⟩] [0, 3, 4])
noncomputable def c58S6 (_ : Unit) : Cmd := (.seq (.block 1 (.seq (.ops [
 ⟨some 5, .assign (.const (.int .i64 0)), 3, none⟩] [0, 3, 4, 5])
 (.seq (.block 2 (.loop (sg c58L0))) (sg c58S4)))) (sg c58S5))
noncomputable def c58L1 (_ : Unit) : Cmd := (.seq (.seq (.ops [
 ⟨some 7, .move (.tmp 4), 3, none⟩,
 ⟨some 8, .move (.tmp 0), 22, none⟩,
 ⟨some 9, .call ⟨.builtin .len, #[(.tmp 8)], #[22]⟩, 3, none⟩,
 ⟨some 10, .binOp .lss 3 (.tmp 7) (.tmp 9) 3, 4, none⟩] [0, 3, 4, 10])
 (.cond (.tmp 10)
  (.skip [0, 3, 4])
  (.exit 0 [3]))) (sg c58S6))
noncomputable def c58S7 (_ : Unit) : Cmd := (.seq (.ops [
 ⟨some 75, .move (.tmp 3), 22, none⟩,
 ⟨some 2, .assign (.tmp 75), 22, none⟩] [2])
 .ret)
noncomputable def c58 : Cmd := (.seq (.ops [
 ⟨some 2, .assign (.const (.slice none 0 0)), 22, none⟩] [0])
 (.seq (.ops [
 ⟨some 3, .assign (.const (.slice none 0 0)), 22, none⟩] [0, 3])
 (.seq (.seq (.ops [
 ⟨some 4, .assign (.const (.int .i64 0)), 3, none⟩] [0, 3, 4])
 (.block 0 (.loop (sg c58L1)))) (sg c58S7))))
noncomputable def c58D0 : List (Bool × Ins) := [
 (true, ⟨some 13, .move (.tmp 5), 3, none⟩),
 (true, ⟨some 14, .move (.tmp 3), 22, none⟩),
 (true, ⟨some 15, .call ⟨.builtin .len, #[(.tmp 14)], #[22]⟩, 3, none⟩),
 (true, ⟨some 16, .binOp .lss 3 (.tmp 13) (.tmp 15) 3, 4, none⟩),
 (true, ⟨some 17, .move (.tmp 16), 4, none⟩),
 (true, ⟨some 18, .move (.tmp 3), 22, (some (17, true))⟩),
 (true, ⟨some 19, .move (.tmp 5), 3, (some (17, true))⟩),
 (true, ⟨some 20, .indexAddr 22 (.tmp 18) (.tmp 19), 0, (some (17, true))⟩),
 (true, ⟨some 21, .fieldAddr 56 (.tmp 20) 9, 0, (some (17, true))⟩),
 (false, ⟨some 22, .load 3 (.tmp 21), 3, (some (17, true))⟩),
 (true, ⟨some 23, .move (.tmp 0), 22, (some (17, true))⟩),
 (true, ⟨some 24, .move (.tmp 4), 3, (some (17, true))⟩),
 (true, ⟨some 25, .indexAddr 22 (.tmp 23) (.tmp 24), 0, (some (17, true))⟩),
 (true, ⟨some 26, .fieldAddr 56 (.tmp 25) 9, 0, (some (17, true))⟩),
 (false, ⟨some 27, .load 3 (.tmp 26), 3, (some (17, true))⟩),
 (true, ⟨some 28, .binOp .lss 3 (.tmp 22) (.tmp 27) 3, 4, (some (17, true))⟩),
 (true, ⟨some 29, .move (.tmp 28), 4, (some (17, true))⟩),
 (true, ⟨some 30, .move (.tmp 3), 22, (some (29, false))⟩),
 (true, ⟨some 31, .move (.tmp 5), 3, (some (29, false))⟩),
 (true, ⟨some 32, .indexAddr 22 (.tmp 30) (.tmp 31), 0, (some (29, false))⟩),
 (true, ⟨some 33, .fieldAddr 56 (.tmp 32) 9, 0, (some (29, false))⟩),
 (false, ⟨some 34, .load 3 (.tmp 33), 3, (some (29, false))⟩),
 (true, ⟨some 35, .move (.tmp 0), 22, (some (29, false))⟩),
 (true, ⟨some 36, .move (.tmp 4), 3, (some (29, false))⟩),
 (true, ⟨some 37, .indexAddr 22 (.tmp 35) (.tmp 36), 0, (some (29, false))⟩),
 (true, ⟨some 38, .fieldAddr 56 (.tmp 37) 9, 0, (some (29, false))⟩),
 (false, ⟨some 39, .load 3 (.tmp 38), 3, (some (29, false))⟩),
 (true, ⟨some 40, .binOp .eql 3 (.tmp 34) (.tmp 39) 3, 4, (some (29, false))⟩),
 (true, ⟨some 41, .move (.tmp 40), 4, (some (29, false))⟩),
 (true, ⟨some 42, .move (.tmp 3), 22, (some (41, true))⟩),
 (true, ⟨some 43, .move (.tmp 5), 3, (some (41, true))⟩),
 (true, ⟨some 44, .indexAddr 22 (.tmp 42) (.tmp 43), 0, (some (41, true))⟩),
 (true, ⟨some 45, .fieldAddr 56 (.tmp 44) 0, 0, (some (41, true))⟩),
 (false, ⟨some 46, .load 3 (.tmp 45), 3, (some (41, true))⟩),
 (true, ⟨some 47, .move (.tmp 0), 22, (some (41, true))⟩),
 (true, ⟨some 48, .move (.tmp 4), 3, (some (41, true))⟩),
 (true, ⟨some 49, .indexAddr 22 (.tmp 47) (.tmp 48), 0, (some (41, true))⟩),
 (true, ⟨some 50, .fieldAddr 56 (.tmp 49) 0, 0, (some (41, true))⟩),
 (false, ⟨some 51, .load 3 (.tmp 50), 3, (some (41, true))⟩),
 (true, ⟨some 52, .binOp .leq 3 (.tmp 46) (.tmp 51) 3, 4, (some (41, true))⟩),
 (true, ⟨some 53, .pick (.tmp 41) (.tmp 52) (.const (.bool false)), 4, (some (29, false))⟩),
 (true, ⟨some 54, .pick (.tmp 29) (.const (.bool true)) (.tmp 53), 4, (some (17, true))⟩),
 (true, ⟨some 55, .pick (.tmp 17) (.tmp 54) (.const (.bool false)), 4, none⟩)]
theorem c58draw0 {L : List Nat} {ρ : Env} {w : World} {Q : Post} (h : DL Tryz.prog c58D0 L ρ w.drew Q) : drawW Tryz.prog (drawOps 0 c58code) L ρ w Q :=
  drawW_still [true, true, true, true, true, true, true, true, true, false, true, true, true, true, false, true, true, true, true, true, true, false, true, true, true, true, false, true, true, true, true, true, true, false, true, true, true, true, false, true, true, true, true] c58D0 (by kernel_rfl) (by kernel_rfl) (by kernel_rfl) h
set_option maxRecDepth 100000 in
theorem ent58 (a0 : Value) (w : World) (K : Value → World → Prop) (h : W Tryz.prog c58 [(0, a0)] w (finQ Tryz.prog [.tmp 2] K)) : Ret Tryz.prog 58 [a0] w K :=
  Ret_of_W (code := c58code) Tryz.func58 (by kernel_rfl) (by kernel_rfl) (of_decide_eq_true (by kernel_rfl)) h
@[go_sem] theorem go58 : goFunc Tryz.prog 58 = true := by kernel_rfl
@[go_sem] theorem go59 : goFunc Tryz.prog 59 = true := by kernel_rfl
noncomputable def c60code : Code := match Tryz.f60.body with | some c => c | none => .skip
noncomputable def c60S0 (_ : Unit) : Cmd := (.cond (.tmp 16)
  (.seq (.ops [
  ⟨some 17, .move (.tmp 5), 3, none⟩,
  ⟨some 4, .assign (.tmp 17), 3, none⟩] [4])
  .ret)
  (.skip [0, 1, 7, 8]))
noncomputable def c60S1 (_ : Unit) : Cmd := (.ops [
 ⟨some 18, .binOp .add 3 (.tmp 8) (.const (.int .i64 1)) 3, 3, none⟩,
 ⟨some 8, .move (.tmp 18), 3, none⟩] [0, 1, 7, 8])
noncomputable def c60S2 (_ : Unit) : Cmd := (.seq (.block 1 (.seq (.ops [
 ⟨some 10, .move (.tmp 8), 3, none⟩,
 ⟨some 5, .assign (.tmp 10), 3, none⟩] [0, 1, 5, 7, 8])
 (.seq (.ops [
 ⟨some 11, .move (.tmp 1), 106, none⟩,
 ⟨some 12, .move (.tmp 0), 22, none⟩,
 ⟨some 13, .move (.tmp 5), 3, none⟩,
 ⟨some 14, .indexAddr 22 (.tmp 12) (.tmp 13), 0, none⟩,
 ⟨some 15, .load 56 (.tmp 14), 56, none⟩,
 ⟨some 16, .call ⟨.value (.tmp 11), #[(.tmp 15)], #[56]⟩, 4, none⟩] [0, 1, 5, 7, 8, 16]) (sg c60S0)))) (sg c60S1))
noncomputable def c60L0 (_ : Unit) : Cmd := (.seq (.ops [
 ⟨some 9, .binOp .lss 3 (.tmp 8) (.tmp 7) 3, 0, none⟩] [0, 1, 7, 8, 9])
 (.seq (.cond (.tmp 9)
  (.skip [0, 1, 7, 8])
  (.exit 0 [])) (sg c60S2)))
noncomputable def c60S3 (_ : Unit) : Cmd := (.seq (.ops [
 ⟨some 4, .assign (.const (.int .i64 (-1))), 3, none⟩] [4])
 .ret)
noncomputable def c60 : Cmd := (.seq (.ops [
 ⟨some 4, .assign (.const (.int .i64 0)), 3, none⟩] [0, 1])
 (.seq (.seq (.ops [
 ⟨some 6, .move (.tmp 0), 22, none⟩,
 ⟨some 7, .call ⟨.builtin .len, #[(.tmp 6)], #[22]⟩, 3, none⟩,
 ⟨some 8, .move (.const (.int .i64 0)), 3, none⟩] [0, 1, 7, 8])
 (.block 0 (.loop (sg c60L0)))) (sg c60S3)))
set_option maxRecDepth 100000 in
theorem ent60 (a0 a1 : Value) (w : World) (K : Value → World → Prop) (h : W Tryz.prog c60 [(0, a0), (1, a1)] w (finQ Tryz.prog [.tmp 4] K)) : Ret Tryz.prog 60 [a0, a1] w K :=
  Ret_of_W (code := c60code) Tryz.func60 (by kernel_rfl) (by kernel_rfl) (of_decide_eq_true (by kernel_rfl)) h
@[go_sem] theorem go60 : goFunc Tryz.prog 60 = true := by kernel_rfl
@[go_sem] theorem go61 : goFunc Tryz.prog 61 = true := by kernel_rfl
@[go_sem] theorem go62 : goFunc Tryz.prog 62 = true := by kernel_rfl
@[go_sem] theorem go63 : goFunc Tryz.prog 63 = true := by kernel_rfl
noncomputable def c64code : Code := match Tryz.f64.body with | some c => c | none => .skip
noncomputable def c64S0 (_ : Unit) : Cmd := .ret
noncomputable def c64 : Cmd := (.seq (.ops [
 ⟨some 4, .assign (.const (.bool false)), 4, none⟩] [0, 1])
 (.seq (.ops [
 ⟨some 5, .move (.tmp 0), 22, none⟩,
 ⟨some 6, .move (.tmp 1), 106, none⟩,
 ⟨some 7, .call ⟨.value (.func 60), #[(.tmp 5), (.tmp 6)], #[22, 106]⟩, 3, none⟩,
 ⟨some 8, .binOp .geq 3 (.tmp 7) (.const (.int .i64 0)) 3, 4, none⟩,
 ⟨some 4, .assign (.tmp 8), 4, none⟩] [4]) (sg c64S0)))
set_option maxRecDepth 100000 in
theorem ent64 (a0 a1 : Value) (w : World) (K : Value → World → Prop) (h : W Tryz.prog c64 [(0, a0), (1, a1)] w (finQ Tryz.prog [.tmp 4] K)) : Ret Tryz.prog 64 [a0, a1] w K :=
  Ret_of_W (code := c64code) Tryz.func64 (by kernel_rfl) (by kernel_rfl) (of_decide_eq_true (by kernel_rfl)) h
@[go_sem] theorem go64 : goFunc Tryz.prog 64 = true := by kernel_rfl
@[go_sem] theorem go65 : goFunc Tryz.prog 65 = true := by kernel_rfl
@[go_sem] theorem go66 : goFunc Tryz.prog 66 = true := by kernel_rfl
@[go_sem] theorem go67 : goFunc Tryz.prog 67 = true := by kernel_rfl
@[go_sem] theorem go68 : goFunc Tryz.prog 68 = true := by kernel_rfl
noncomputable def c69code : Code := match Tryz.f69.body with | some c => c | none => .skip
noncomputable def c69S0 (_ : Unit) : Cmd := (.seq (.ops [
 ⟨some 8, .move (.tmp 3), 31, none⟩,
 ⟨some 2, .assign (.tmp 8), 31, none⟩] [2])
 .ret)
noncomputable def c69S1 (_ : Unit) : Cmd := (.seq (.ops [
 ⟨some 6, .move (.tmp 3), 31, none⟩,
 ⟨some 7, .call ⟨.value (.func 112), #[(.tmp 6)], #[31]⟩, 0, none⟩] [3]) (sg c69S0))
noncomputable def c69 : Cmd := (.seq (.ops [
 ⟨some 2, .assign (.const (.slice none 0 0)), 31, none⟩] [0])
 (.seq (.ops [
 ⟨some 4, .move (.tmp 0), 120, none⟩,
 ⟨some 5, .call ⟨.value (.func 111), #[(.tmp 4)], #[120]⟩, 31, none⟩,
 ⟨some 3, .assign (.tmp 5), 31, none⟩] [3]) (sg c69S1)))
set_option maxRecDepth 100000 in
theorem ent69 (a0 : Value) (w : World) (K : Value → World → Prop) (h : W Tryz.prog c69 [(0, a0)] w (finQ Tryz.prog [.tmp 2] K)) : Ret Tryz.prog 69 [a0] w K :=
  Ret_of_W (code := c69code) Tryz.func69 (by kernel_rfl) (by kernel_rfl) (of_decide_eq_true (by kernel_rfl)) h
@[go_sem] theorem go69 : goFunc Tryz.prog 69 = true := by kernel_rfl
noncomputable def c70code : Code := match Tryz.f70.body with | some c => c | none => .skip
noncomputable def c70 : Cmd := (.seq (.ops [
 ⟨some 1, .box 117 (.tmp 0), 0, none⟩,
 ⟨some 2, .assign (.const .nilFunc), 120, none⟩] [1])
 (.seq (.ops [
 ⟨some 3, .makeFunc (.func 113) #[] #[(.tmp 1)], 119, none⟩,
 ⟨some 2, .assign (.tmp 3), 120, none⟩] [2])
 .ret))
set_option maxRecDepth 100000 in
theorem ent70 (a0 : Value) (w : World) (K : Value → World → Prop) (h : W Tryz.prog c70 [(0, a0)] w (finQ Tryz.prog [.tmp 2] K)) : Ret Tryz.prog 70 [a0] w K :=
  Ret_of_W (code := c70code) Tryz.func70 (by kernel_rfl) (by kernel_rfl) (of_decide_eq_true (by kernel_rfl)) h
@[go_sem] theorem go70 : goFunc Tryz.prog 70 = true := by kernel_rfl
noncomputable def c71code : Code := match Tryz.f71.body with | some c => c | none => .skip
noncomputable def c71 : Cmd := (.seq (.ops [
 ⟨some 5, .move (.tmp 0), 22, none⟩,
 ⟨some 6, .call ⟨.builtin .len, #[(.tmp 5)], #[22]⟩, 3, none⟩,
 ⟨some 4, .assign (.tmp 6), 3, none⟩] [0, 1, 4])
 (.ops [
 ⟨some 7, .move (.tmp 0), 22, none⟩,
 ⟨some 8, .move (.tmp 4), 3, none⟩,
 ⟨some 9, .move (.tmp 4), 3, none⟩,
 ⟨some 10, .convert 3 169 (.tmp 9), 169, none⟩,
 ⟨some 11, .call ⟨.value (.func 115), #[(.tmp 10)], #[169]⟩, 3, none⟩,
 ⟨some 12, .move (.tmp 1), 125, none⟩,
 ⟨some 13, .call ⟨.value (.func 114), #[(.tmp 7), (.const (.int .i64 0)), (.tmp 8), (.tmp 11), (.tmp 12)], #[22, 3, 3, 3, 125]⟩, 0, none⟩] []))
set_option maxRecDepth 100000 in
theorem ent71 (a0 a1 : Value) (w : World) (K : Value → World → Prop) (h : W Tryz.prog c71 [(0, a0), (1, a1)] w (finQ Tryz.prog [] K)) : Ret Tryz.prog 71 [a0, a1] w K :=
  Ret_of_W (code := c71code) Tryz.func71 (by kernel_rfl) (by kernel_rfl) (of_decide_eq_true (by kernel_rfl)) h
@[go_sem] theorem go71 : goFunc Tryz.prog 71 = true := by kernel_rfl
noncomputable def c72code : Code := match Tryz.f72.body with | some c => c | none => .skip
noncomputable def c72S0 (_ : Unit) : Cmd := .ret
noncomputable def c72 : Cmd := (.seq (.ops [
 ⟨some 2, .box 56 (.tmp 0), 0, none⟩,
 ⟨some 3, .box 56 (.tmp 1), 0, none⟩,
 ⟨some 4, .assign (.const (.int .i64 0)), 3, none⟩] [2, 3])
 (.seq (.draw (drawOps 0 c72code) [4]) (sg c72S0)))
noncomputable def c72D0 : List (Nat × Ins) := [
 (0, ⟨some 5, .fieldAddr 56 (.tmp 2) 9, 0, none⟩),
 (0, ⟨some 7, .fieldAddr 56 (.tmp 3) 9, 0, none⟩),
 (0, ⟨some 10, .fieldAddr 56 (.tmp 2) 0, 0, none⟩),
 (0, ⟨some 12, .fieldAddr 56 (.tmp 3) 0, 0, none⟩),
 (1, ⟨some 6, .load 3 (.tmp 5), 3, none⟩),
 (1, ⟨some 8, .load 3 (.tmp 7), 3, none⟩),
 (1, ⟨some 11, .load 3 (.tmp 10), 3, none⟩),
 (1, ⟨some 13, .load 3 (.tmp 12), 3, none⟩),
 (2, ⟨some 9, .call ⟨.value (.func 74), #[(.tmp 6), (.tmp 8)], #[3, 3]⟩, 3, none⟩),
 (2, ⟨some 14, .call ⟨.value (.func 74), #[(.tmp 11), (.tmp 13)], #[3, 3]⟩, 3, none⟩),
 (2, ⟨some 15, .buildSlice 31 2 #[(0, (.tmp 9)), (1, (.tmp 14))], 31, none⟩),
 (2, ⟨some 16, .call ⟨.value (.func 73), #[(.tmp 15)], #[31]⟩, 3, none⟩),
 (0, ⟨some 4, .assign (.tmp 16), 3, none⟩)]
theorem c72draw0 {L : List Nat} {ρ : Env} {w : World} {Q : Post} (S : World → Prop) (hS : S w.drew) (h : DG Tryz.prog S c72D0 L ρ w.drew Q) : drawW Tryz.prog (drawOps 0 c72code) L ρ w Q :=
  drawW_held [1, 3, 6, 8] [(0, 0), (0, 2), (0, 5), (0, 7), (1, 1), (1, 3), (1, 6), (1, 8), (2, 4), (2, 9), (2, 10), (2, 11), (0, 12)] c72D0 (by kernel_rfl) (by kernel_rfl) (by kernel_rfl) S hS h
set_option maxRecDepth 100000 in
theorem ent72 (a0 a1 : Value) (w : World) (K : Value → World → Prop) (h : W Tryz.prog c72 [(0, a0), (1, a1)] w (finQ Tryz.prog [.tmp 4] K)) : Ret Tryz.prog 72 [a0, a1] w K :=
  Ret_of_W (code := c72code) Tryz.func72 (by kernel_rfl) (by kernel_rfl) (of_decide_eq_true (by kernel_rfl)) h
@[go_sem] theorem go72 : goFunc Tryz.prog 72 = true := by kernel_rfl
noncomputable def c73code : Code := match Tryz.f73.body with | some c => c | none => .skip
noncomputable def c73S0 (_ : Unit) : Cmd := (.ops [
 ⟨some 16, .binOp .add 3 (.tmp 8) (.const (.int .i64 1)) 3, 3, none⟩,
 ⟨some 8, .move (.tmp 16), 3, none⟩] [3, 6, 7, 8])
noncomputable def c73S1 (_ : Unit) : Cmd := (.seq (.block 1 (.seq (.ops [
 ⟨some 10, .indexAddr 31 (.tmp 6) (.tmp 8), 0, none⟩,
 ⟨some 11, .load 3 (.tmp 10), 3, none⟩,
 ⟨some 5, .assign (.tmp 11), 3, none⟩] [3, 5, 6, 7, 8])
 (.seq (.ops [
 ⟨some 12, .move (.tmp 5), 3, none⟩,
 ⟨some 13, .move (.tmp 3), 3, none⟩,
 ⟨some 14, .binOp .neq 3 (.tmp 12) (.tmp 13) 3, 4, none⟩] [3, 5, 6, 7, 8, 14])
 (.cond (.tmp 14)
  (.seq (.ops [
  ⟨some 15, .move (.tmp 5), 3, none⟩,
  ⟨some 2, .assign (.tmp 15), 3, none⟩] [2])
  .ret)
  (.skip [3, 6, 7, 8]))))) (sg c73S0))
noncomputable def c73L0 (_ : Unit) : Cmd := (.seq (.ops [
 ⟨some 9, .binOp .lss 3 (.tmp 8) (.tmp 7) 3, 0, none⟩] [3, 6, 7, 8, 9])
 (.seq (.cond (.tmp 9)
  (.skip [3, 6, 7, 8])
  (.exit 0 [3])) (sg c73S1)))
noncomputable def c73S2 (_ : Unit) : Cmd := (.seq (.ops [
 ⟨some 17, .move (.tmp 3), 3, none⟩,
 ⟨some 2, .assign (.tmp 17), 3, none⟩] [2])
 .ret)
noncomputable def c73 : Cmd := (.seq (.ops [
 ⟨some 2, .assign (.const (.int .i64 0)), 3, none⟩] [0])
 (.seq (.ops [
 ⟨some 3, .assign (.const (.int .i64 0)), 3, none⟩] [0, 3])
 (.seq (.seq (.ops [
 ⟨some 6, .move (.tmp 0), 31, none⟩,
 ⟨some 7, .call ⟨.builtin .len, #[(.tmp 6)], #[31]⟩, 3, none⟩,
 ⟨some 8, .move (.const (.int .i64 0)), 3, none⟩] [3, 6, 7, 8])
 (.block 0 (.loop (sg c73L0)))) (sg c73S2))))
set_option maxRecDepth 100000 in
theorem ent73 (a0 : Value) (w : World) (K : Value → World → Prop) (h : W Tryz.prog c73 [(0, a0)] w (finQ Tryz.prog [.tmp 2] K)) : Ret Tryz.prog 73 [a0] w K :=
  Ret_of_W (code := c73code) Tryz.func73 (by kernel_rfl) (by kernel_rfl) (of_decide_eq_true (by kernel_rfl)) h
@[go_sem] theorem go73 : goFunc Tryz.prog 73 = true := by kernel_rfl
noncomputable def c74code : Code := match Tryz.f74.body with | some c => c | none => .skip
noncomputable def c74S0 (_ : Unit) : Cmd := (.seq (.ops [
  ⟨some 4, .assign (.const (.int .i64 (-1))), 3, none⟩] [4])
  .ret)
noncomputable def c74S1 (_ : Unit) : Cmd := (.seq (.ops [
 ⟨some 4, .assign (.const (.int .i64 0)), 3, none⟩] [4])
 .ret)
noncomputable def c74S2 (_ : Unit) : Cmd := (.seq (.seq (.ops [
 ⟨some 17, .move (.tmp 0), 3, none⟩,
 ⟨some 18, .move (.tmp 1), 3, none⟩,
 ⟨some 19, .binOp .gtr 3 (.tmp 17) (.tmp 18) 3, 4, none⟩] [19])
 (.cond (.tmp 19)
  (.seq (.ops [
  ⟨some 4, .assign (.const (.int .i64 1)), 3, none⟩] [4])
  .ret)
  (.skip []))) (sg c74S1))
noncomputable def c74S3 (_ : Unit) : Cmd := (.seq (.seq (.ops [
 ⟨some 14, .move (.tmp 0), 3, none⟩,
 ⟨some 15, .move (.tmp 1), 3, none⟩,
 ⟨some 16, .binOp .lss 3 (.tmp 14) (.tmp 15) 3, 4, none⟩] [0, 1, 16])
 (.cond (.tmp 16)
  (.seq (.ops [
  ⟨some 4, .assign (.const (.int .i64 (-1))), 3, none⟩] [4])
  .ret)
  (.skip [0, 1]))) (sg c74S2))
noncomputable def c74S4 (_ : Unit) : Cmd := (.seq (.seq (.ops [
 ⟨some 13, .move (.tmp 6), 4, none⟩] [0, 1, 13])
 (.cond (.tmp 13)
  (.seq (.ops [
  ⟨some 4, .assign (.const (.int .i64 1)), 3, none⟩] [4])
  .ret)
  (.skip [0, 1]))) (sg c74S3))
noncomputable def c74S5 (_ : Unit) : Cmd := (.seq (.seq (.ops [
 ⟨some 11, .move (.tmp 5), 4, none⟩] [0, 1, 6, 11])
 (.cond (.tmp 11)
  (.seq (.seq (.ops [
  ⟨some 12, .move (.tmp 6), 4, none⟩] [12])
  (.cond (.tmp 12)
   (.seq (.ops [
   ⟨some 4, .assign (.const (.int .i64 0)), 3, none⟩] [4])
   .ret)
   (.skip []))) (sg c74S0))
  (.skip [0, 1, 6]))) (sg c74S4))
noncomputable def c74S6 (_ : Unit) : Cmd := (.seq (.ops [
 ⟨some 9, .move (.tmp 1), 3, none⟩,
 ⟨some 10, .call ⟨.value (.func 116), #[(.tmp 9)], #[3]⟩, 4, none⟩,
 ⟨some 6, .assign (.tmp 10), 4, none⟩] [0, 1, 5, 6]) (sg c74S5))
noncomputable def c74 : Cmd := (.seq (.ops [
 ⟨some 4, .assign (.const (.int .i64 0)), 3, none⟩] [0, 1])
 (.seq (.ops [
 ⟨some 7, .move (.tmp 0), 3, none⟩,
 ⟨some 8, .call ⟨.value (.func 116), #[(.tmp 7)], #[3]⟩, 4, none⟩,
 ⟨some 5, .assign (.tmp 8), 4, none⟩] [0, 1, 5]) (sg c74S6)))
set_option maxRecDepth 100000 in
theorem ent74 (a0 a1 : Value) (w : World) (K : Value → World → Prop) (h : W Tryz.prog c74 [(0, a0), (1, a1)] w (finQ Tryz.prog [.tmp 4] K)) : Ret Tryz.prog 74 [a0, a1] w K :=
  Ret_of_W (code := c74code) Tryz.func74 (by kernel_rfl) (by kernel_rfl) (of_decide_eq_true (by kernel_rfl)) h
@[go_sem] theorem go74 : goFunc Tryz.prog 74 = true := by kernel_rfl
noncomputable def c75code : Code := match Tryz.f75.body with | some c => c | none => .skip
noncomputable def c75S0 (_ : Unit) : Cmd := (.cond (.tmp 40)
  (.seq (.ops [
  ⟨some 4, .assign (.const (.int .i64 33)), 3, none⟩] [4])
  .ret)
  (.skip [0, 3, 5]))
noncomputable def c75S1 (_ : Unit) : Cmd := (.ops [
 ⟨some 11, .move (.tmp 5), 3, none⟩,
 ⟨some 12, .binOp .add 3 (.tmp 11) (.const (.int .i64 1)) 3, 3, none⟩,
 ⟨some 5, .assign (.tmp 12), 3, none⟩] [0, 3, 5])
noncomputable def c75S2 (_ : Unit) : Cmd := (.seq (.block 1 (.seq (.draw (drawOps 0 c75code) [0, 3, 5, 40]) (sg c75S0))) (sg c75S1))
noncomputable def c75L0 (_ : Unit) : Cmd := (.seq (.seq (.ops [
 ⟨some 7, .move (.tmp 5), 3, none⟩,
 ⟨some 8, .move (.tmp 0), 22, none⟩,
 ⟨some 9, .call ⟨.builtin .len, #[(.tmp 8)], #[22]⟩, 3, none⟩,
 ⟨some 10, .binOp .lss 3 (.tmp 7) (.tmp 9) 3, 4, none⟩] [0, 3, 5, 10])
 (.cond (.tmp 10)
  (.skip [0, 3, 5])
  (.exit 0 [0, 3]))) (sg c75S2))
noncomputable def c75S3 (_ : Unit) : Cmd := (.cond (.tmp 82)
  (.seq (.ops [
  ⟨some 4, .assign (.const (.int .i64 32)), 3, none⟩] [4])
  .ret)
  (.skip [0, 3, 6]))
noncomputable def c75S4 (_ : Unit) : Cmd := (.ops [
 ⟨some 45, .move (.tmp 6), 3, none⟩,
 ⟨some 46, .binOp .add 3 (.tmp 45) (.const (.int .i64 1)) 3, 3, none⟩,
 ⟨some 6, .assign (.tmp 46), 3, none⟩] [0, 3, 6])
noncomputable def c75S5 (_ : Unit) : Cmd := (.seq (.block 3 (.seq (.draw (drawOps 1 c75code) [0, 3, 6, 82]) (sg c75S3))) (sg c75S4))
noncomputable def c75L1 (_ : Unit) : Cmd := (.seq (.seq (.ops [
 ⟨some 41, .move (.tmp 6), 3, none⟩,
 ⟨some 42, .move (.tmp 0), 22, none⟩,
 ⟨some 43, .call ⟨.builtin .len, #[(.tmp 42)], #[22]⟩, 3, none⟩,
 ⟨some 44, .binOp .lss 3 (.tmp 41) (.tmp 43) 3, 4, none⟩] [0, 3, 6, 44])
 (.cond (.tmp 44)
  (.skip [0, 3, 6])
  (.exit 2 []))) (sg c75S5))
noncomputable def c75S6 (_ : Unit) : Cmd := (.seq (.ops [
 ⟨some 4, .assign (.const (.int .i64 0)), 3, none⟩] [4])
 .ret)
noncomputable def c75S7 (_ : Unit) : Cmd := (.seq (.seq (.ops [
 ⟨some 6, .assign (.const (.int .i64 0)), 3, none⟩] [0, 3, 6])
 (.block 2 (.loop (sg c75L1)))) (sg c75S6))
noncomputable def c75 : Cmd := (.seq (.ops [
 ⟨some 3, .box 56 (.tmp 1), 0, none⟩,
 ⟨some 4, .assign (.const (.int .i64 0)), 3, none⟩] [0, 3])
 (.seq (.seq (.ops [
 ⟨some 5, .assign (.const (.int .i64 0)), 3, none⟩] [0, 3, 5])
 (.block 0 (.loop (sg c75L0)))) (sg c75S7)))
noncomputable def c75D0 : List (Bool × Ins) := [
 (true, ⟨some 13, .move (.tmp 0), 22, none⟩),
 (true, ⟨some 14, .move (.tmp 5), 3, none⟩),
 (true, ⟨some 15, .indexAddr 22 (.tmp 13) (.tmp 14), 0, none⟩),
 (true, ⟨some 16, .fieldAddr 56 (.tmp 15) 0, 0, none⟩),
 (false, ⟨some 17, .load 3 (.tmp 16), 3, none⟩),
 (true, ⟨some 18, .fieldAddr 56 (.tmp 3) 0, 0, none⟩),
 (false, ⟨some 19, .load 3 (.tmp 18), 3, none⟩),
 (true, ⟨some 20, .binOp .neq 3 (.tmp 17) (.tmp 19) 3, 4, none⟩),
 (true, ⟨some 21, .move (.tmp 20), 4, none⟩),
 (true, ⟨some 22, .move (.tmp 0), 22, (some (21, true))⟩),
 (true, ⟨some 23, .move (.tmp 5), 3, (some (21, true))⟩),
 (true, ⟨some 24, .indexAddr 22 (.tmp 22) (.tmp 23), 0, (some (21, true))⟩),
 (true, ⟨some 25, .fieldAddr 56 (.tmp 24) 2, 0, (some (21, true))⟩),
 (false, ⟨some 26, .load 3 (.tmp 25), 3, (some (21, true))⟩),
 (true, ⟨some 27, .fieldAddr 56 (.tmp 3) 2, 0, (some (21, true))⟩),
 (false, ⟨some 28, .load 3 (.tmp 27), 3, (some (21, true))⟩),
 (true, ⟨some 29, .binOp .eql 3 (.tmp 26) (.tmp 28) 3, 4, (some (21, true))⟩),
 (true, ⟨some 30, .pick (.tmp 21) (.tmp 29) (.const (.bool false)), 4, none⟩),
 (true, ⟨some 31, .move (.tmp 30), 4, none⟩),
 (true, ⟨some 32, .move (.tmp 0), 22, (some (31, true))⟩),
 (true, ⟨some 33, .move (.tmp 5), 3, (some (31, true))⟩),
 (true, ⟨some 34, .indexAddr 22 (.tmp 32) (.tmp 33), 0, (some (31, true))⟩),
 (true, ⟨some 35, .fieldAddr 56 (.tmp 34) 3, 0, (some (31, true))⟩),
 (false, ⟨some 36, .load 3 (.tmp 35), 3, (some (31, true))⟩),
 (true, ⟨some 37, .fieldAddr 56 (.tmp 3) 3, 0, (some (31, true))⟩),
 (false, ⟨some 38, .load 3 (.tmp 37), 3, (some (31, true))⟩),
 (true, ⟨some 39, .binOp .neq 3 (.tmp 36) (.tmp 38) 3, 4, (some (31, true))⟩),
 (true, ⟨some 40, .pick (.tmp 31) (.tmp 39) (.const (.bool false)), 4, none⟩)]
theorem c75draw0 {L : List Nat} {ρ : Env} {w : World} {Q : Post} (h : DL Tryz.prog c75D0 L ρ w.drew Q) : drawW Tryz.prog (drawOps 0 c75code) L ρ w Q :=
  drawW_still [true, true, true, true, false, true, false, true, true, true, true, true, true, false, true, false, true, true, true, true, true, true, true, false, true, false, true, true] c75D0 (by kernel_rfl) (by kernel_rfl) (by kernel_rfl) h
noncomputable def c75D1 : List (Nat × Ins) := [
 (0, ⟨some 47, .move (.tmp 0), 22, none⟩),
 (0, ⟨some 48, .move (.tmp 6), 3, none⟩),
 (0, ⟨some 49, .indexAddr 22 (.tmp 47) (.tmp 48), 0, none⟩),
 (0, ⟨some 50, .fieldAddr 56 (.tmp 49) 0, 0, none⟩),
 (0, ⟨some 52, .fieldAddr 56 (.tmp 3) 0, 0, none⟩),
 (1, ⟨some 51, .load 3 (.tmp 50), 3, none⟩),
 (2, ⟨some 53, .load 3 (.tmp 52), 3, none⟩),
 (0, ⟨some 54, .binOp .neq 3 (.tmp 51) (.tmp 53) 3, 4, none⟩),
 (0, ⟨some 55, .move (.tmp 54), 4, none⟩),
 (0, ⟨some 56, .move (.tmp 0), 22, (some (55, true))⟩),
 (0, ⟨some 57, .move (.tmp 6), 3, (some (55, true))⟩),
 (0, ⟨some 58, .indexAddr 22 (.tmp 56) (.tmp 57), 0, (some (55, true))⟩),
 (0, ⟨some 59, .fieldAddr 56 (.tmp 58) 1, 0, (some (55, true))⟩),
 (0, ⟨some 61, .fieldAddr 56 (.tmp 3) 1, 0, (some (55, true))⟩),
 (1, ⟨some 60, .load 3 (.tmp 59), 3, (some (55, true))⟩),
 (2, ⟨some 62, .load 3 (.tmp 61), 3, (some (55, true))⟩),
 (0, ⟨some 63, .binOp .eql 3 (.tmp 60) (.tmp 62) 3, 4, (some (55, true))⟩),
 (0, ⟨some 64, .pick (.tmp 55) (.tmp 63) (.const (.bool false)), 4, none⟩),
 (0, ⟨some 65, .move (.tmp 64), 4, none⟩),
 (0, ⟨some 66, .move (.tmp 0), 22, (some (65, true))⟩),
 (0, ⟨some 67, .move (.tmp 6), 3, (some (65, true))⟩),
 (0, ⟨some 68, .indexAddr 22 (.tmp 66) (.tmp 67), 0, (some (65, true))⟩),
 (1, ⟨some 69, .load 56 (.tmp 68), 56, (some (65, true))⟩),
 (2, ⟨some 70, .load 56 (.tmp 3), 56, (some (65, true))⟩),
 (2, ⟨some 71, .call ⟨.value (.func 88), #[(.tmp 69), (.tmp 70)], #[56, 56]⟩, 4, (some (65, true))⟩),
 (0, ⟨some 72, .unOp .not 4 (.tmp 71), 4, (some (65, true))⟩),
 (0, ⟨some 73, .pick (.tmp 65) (.tmp 72) (.const (.bool false)), 4, none⟩),
 (0, ⟨some 74, .move (.tmp 73), 4, none⟩),
 (0, ⟨some 76, .move (.tmp 0), 22, (some (74, true))⟩),
 (0, ⟨some 77, .move (.tmp 6), 3, (some (74, true))⟩),
 (0, ⟨some 78, .indexAddr 22 (.tmp 76) (.tmp 77), 0, (some (74, true))⟩),
 (1, ⟨some 75, .load 56 (.tmp 3), 56, (some (74, true))⟩),
 (2, ⟨some 79, .load 56 (.tmp 78), 56, (some (74, true))⟩),
 (2, ⟨some 80, .call ⟨.value (.func 88), #[(.tmp 75), (.tmp 79)], #[56, 56]⟩, 4, (some (74, true))⟩),
 (0, ⟨some 81, .unOp .not 4 (.tmp 80), 4, (some (74, true))⟩),
 (0, ⟨some 82, .pick (.tmp 74) (.tmp 81) (.const (.bool false)), 4, none⟩)]
theorem c75draw1 {L : List Nat} {ρ : Env} {w : World} {Q : Post} (S : World → Prop) (hS : S w.drew) (h : DG Tryz.prog S c75D1 L ρ w.drew Q) : drawW Tryz.prog (drawOps 1 c75code) L ρ w Q :=
  drawW_held [4, 13, 22, 28] [(0, 0), (0, 1), (0, 2), (0, 3), (0, 5), (1, 4), (2, 6), (0, 7), (0, 8), (0, 9), (0, 10), (0, 11), (0, 12), (0, 14), (1, 13), (2, 15), (0, 16), (0, 17), (0, 18), (0, 19), (0, 20), (0, 21), (1, 22), (2, 23), (2, 24), (0, 25), (0, 26), (0, 27), (0, 29), (0, 30), (0, 31), (1, 28), (2, 32), (2, 33), (0, 34), (0, 35)] c75D1 (by kernel_rfl) (by kernel_rfl) (by kernel_rfl) S hS h
set_option maxRecDepth 100000 in
theorem ent75 (a0 a1 : Value) (w : World) (K : Value → World → Prop) (h : W Tryz.prog c75 [(0, a0), (1, a1)] w (finQ Tryz.prog [.tmp 4] K)) : Ret Tryz.prog 75 [a0, a1] w K :=
  Ret_of_W (code := c75code) Tryz.func75 (by kernel_rfl) (by kernel_rfl) (of_decide_eq_true (by kernel_rfl)) h
@[go_sem] theorem go75 : goFunc Tryz.prog 75 = true := by kernel_rfl
noncomputable def c76code : Code := match Tryz.f76.body with | some c => c | none => .skip
noncomputable def c76S0 (_ : Unit) : Cmd := (.ops [
 ⟨some 30, .move (.tmp 5), 3, none⟩,
 ⟨some 31, .fieldAddr 56 (.tmp 7) 10, 0, none⟩,
 ⟨some 32, .load 3 (.tmp 31), 3, none⟩,
 ⟨some 33, .call ⟨.builtin .max, #[(.tmp 30), (.tmp 32)], #[3, 3]⟩, 3, none⟩,
 ⟨some 5, .assign (.tmp 33), 3, none⟩] [4, 5, 15, 16, 17])
noncomputable def c76S1 (_ : Unit) : Cmd := (.seq (.seq (.ops [
 ⟨some 25, .fieldAddr 56 (.tmp 7) 7, 0, none⟩,
 ⟨some 26, .load 4 (.tmp 25), 4, none⟩,
 ⟨some 27, .unOp .not 4 (.tmp 26), 4, none⟩] [4, 5, 7, 15, 16, 17, 27])
 (.cond (.tmp 27)
  (.ops [
  ⟨some 28, .move (.tmp 5), 3, none⟩,
  ⟨some 29, .call ⟨.builtin .max, #[(.tmp 28), (.const (.int .i64 1099511627777))], #[3, 3]⟩, 3, none⟩,
  ⟨some 5, .assign (.tmp 29), 3, none⟩] [4, 5, 7, 15, 16, 17])
  (.skip [4, 5, 7, 15, 16, 17]))) (sg c76S0))
noncomputable def c76S2 (_ : Unit) : Cmd := (.ops [
 ⟨some 34, .binOp .add 3 (.tmp 17) (.const (.int .i64 1)) 3, 3, none⟩,
 ⟨some 17, .move (.tmp 34), 3, none⟩] [4, 5, 15, 16, 17])
noncomputable def c76S3 (_ : Unit) : Cmd := (.seq (.block 1 (.seq (.ops [
 ⟨some 19, .indexAddr 22 (.tmp 15) (.tmp 17), 0, none⟩,
 ⟨some 20, .load 56 (.tmp 19), 56, none⟩,
 ⟨some 7, .alloc 56, 0, none⟩,
 ⟨none, .store 56 (.tmp 7) (.tmp 20), 0, none⟩] [4, 5, 7, 15, 16, 17])
 (.seq (.ops [
 ⟨some 21, .move (.tmp 4), 3, none⟩,
 ⟨some 22, .fieldAddr 56 (.tmp 7) 9, 0, none⟩,
 ⟨some 23, .load 3 (.tmp 22), 3, none⟩,
 ⟨some 24, .call ⟨.builtin .min, #[(.tmp 21), (.tmp 23)], #[3, 3]⟩, 3, none⟩,
 ⟨some 4, .assign (.tmp 24), 3, none⟩] [4, 5, 7, 15, 16, 17]) (sg c76S1)))) (sg c76S2))
noncomputable def c76L0 (_ : Unit) : Cmd := (.seq (.ops [
 ⟨some 18, .binOp .lss 3 (.tmp 17) (.tmp 16) 3, 0, none⟩] [4, 5, 15, 16, 17, 18])
 (.seq (.cond (.tmp 18)
  (.skip [4, 5, 15, 16, 17])
  (.exit 0 [4, 5])) (sg c76S3)))
noncomputable def c76S4 (_ : Unit) : Cmd := (.seq (.ops [
 ⟨some 35, .move (.tmp 4), 3, none⟩,
 ⟨some 36, .move (.tmp 5), 3, none⟩,
 ⟨some 2, .assign (.tmp 35), 3, none⟩,
 ⟨some 3, .assign (.tmp 36), 3, none⟩] [2, 3])
 .ret)
noncomputable def c76S5 (_ : Unit) : Cmd := (.seq (.ops [
 ⟨some 11, .move (.tmp 0), 22, none⟩,
 ⟨some 12, .indexAddr 22 (.tmp 11) (.const (.int .i64 0)), 0, none⟩,
 ⟨some 13, .fieldAddr 56 (.tmp 12) 9, 0, none⟩,
 ⟨some 14, .load 3 (.tmp 13), 3, none⟩,
 ⟨some 4, .assign (.tmp 14), 3, none⟩,
 ⟨some 5, .assign (.const (.int .i64 0)), 3, none⟩] [0, 4, 5])
 (.seq (.seq (.ops [
 ⟨some 15, .move (.tmp 0), 22, none⟩,
 ⟨some 16, .call ⟨.builtin .len, #[(.tmp 15)], #[22]⟩, 3, none⟩,
 ⟨some 17, .move (.const (.int .i64 0)), 3, none⟩] [4, 5, 15, 16, 17])
 (.block 0 (.loop (sg c76L0)))) (sg c76S4)))
noncomputable def c76 : Cmd := (.seq (.ops [
 ⟨some 2, .assign (.const (.int .i64 0)), 3, none⟩,
 ⟨some 3, .assign (.const (.int .i64 0)), 3, none⟩] [0])
 (.seq (.seq (.ops [
 ⟨some 8, .move (.tmp 0), 22, none⟩,
 ⟨some 9, .call ⟨.builtin .len, #[(.tmp 8)], #[22]⟩, 3, none⟩,
 ⟨some 10, .binOp .eql 3 (.tmp 9) (.const (.int .i64 0)) 3, 4, none⟩] [0, 10])
 (.cond (.tmp 10)
  (.seq (.ops [
  ⟨some 2, .assign (.const (.int .i64 0)), 3, none⟩,
  ⟨some 3, .assign (.const (.int .i64 0)), 3, none⟩] [2, 3])
  .ret)
  (.skip [0]))) (sg c76S5)))
set_option maxRecDepth 100000 in
theorem ent76 (a0 : Value) (w : World) (K : Value → World → Prop) (h : W Tryz.prog c76 [(0, a0)] w (finQ Tryz.prog [.tmp 2, .tmp 3] K)) : Ret Tryz.prog 76 [a0] w K :=
  Ret_of_W (code := c76code) Tryz.func76 (by kernel_rfl) (by kernel_rfl) (of_decide_eq_true (by kernel_rfl)) h
@[go_sem] theorem go76 : goFunc Tryz.prog 76 = true := by kernel_rfl
noncomputable def c77code : Code := match Tryz.f77.body with | some c => c | none => .skip
noncomputable def c77S0 (_ : Unit) : Cmd := .ret
noncomputable def c77S1 (_ : Unit) : Cmd := (.seq (.ops [
 ⟨some 5, .buildSlice 22 0 #[], 22, none⟩,
 ⟨some 6, .move (.tmp 0), 22, none⟩,
 ⟨some 7, .call ⟨.builtin .append, #[(.tmp 5), (.tmp 6)], #[22, 22]⟩, 22, none⟩,
 ⟨some 2, .assign (.tmp 7), 22, none⟩] [2]) (sg c77S0))
noncomputable def c77 : Cmd := (.seq (.ops [
 ⟨some 2, .assign (.const (.slice none 0 0)), 22, none⟩] [0])
 (.seq (.seq (.ops [
 ⟨some 3, .move (.tmp 0), 22, none⟩,
 ⟨some 4, .binOp .eql 22 (.tmp 3) (.const (.slice none 0 0)) 22, 4, none⟩] [0, 4])
 (.cond (.tmp 4)
  (.seq (.ops [
  ⟨some 2, .assign (.const (.slice none 0 0)), 22, none⟩] [2])
  .ret)
  (.skip [0]))) (sg c77S1)))
set_option maxRecDepth 100000 in
theorem ent77 (a0 : Value) (w : World) (K : Value → World → Prop) (h : W Tryz.prog c77 [(0, a0)] w (finQ Tryz.prog [.tmp 2] K)) : Ret Tryz.prog 77 [a0] w K :=
  Ret_of_W (code := c77code) Tryz.func77 (by kernel_rfl) (by kernel_rfl) (of_decide_eq_true (by kernel_rfl)) h
@[go_sem] theorem go77 : goFunc Tryz.prog 77 = true := by kernel_rfl
noncomputable def c78code : Code := match Tryz.f78.body with | some c => c | none => .skip
noncomputable def c78S0 (_ : Unit) : Cmd := .ret
noncomputable def c78 : Cmd := (.seq (.ops [
 ⟨some 2, .box 56 (.tmp 0), 0, none⟩,
 ⟨some 3, .box 56 (.tmp 1), 0, none⟩,
 ⟨some 4, .assign (.const (.int .i64 0)), 3, none⟩] [2, 3])
 (.seq (.draw (drawOps 0 c78code) [4]) (sg c78S0)))
noncomputable def c78D0 : List (Nat × Ins) := [
 (0, ⟨some 5, .fieldAddr 56 (.tmp 2) 2, 0, none⟩),
 (0, ⟨some 7, .fieldAddr 56 (.tmp 3) 2, 0, none⟩),
 (1, ⟨some 6, .load 3 (.tmp 5), 3, none⟩),
 (1, ⟨some 8, .load 3 (.tmp 7), 3, none⟩),
 (1, ⟨some 10, .load 56 (.tmp 2), 56, none⟩),
 (1, ⟨some 11, .load 56 (.tmp 3), 56, none⟩),
 (2, ⟨some 9, .call ⟨.value (.func 74), #[(.tmp 6), (.tmp 8)], #[3, 3]⟩, 3, none⟩),
 (2, ⟨some 12, .call ⟨.value (.func 79), #[(.tmp 10), (.tmp 11)], #[56, 56]⟩, 3, none⟩),
 (2, ⟨some 13, .buildSlice 31 2 #[(0, (.tmp 9)), (1, (.tmp 12))], 31, none⟩),
 (2, ⟨some 14, .call ⟨.value (.func 73), #[(.tmp 13)], #[31]⟩, 3, none⟩),
 (0, ⟨some 4, .assign (.tmp 14), 3, none⟩)]
theorem c78draw0 {L : List Nat} {ρ : Env} {w : World} {Q : Post} (S : World → Prop) (hS : S w.drew) (h : DG Tryz.prog S c78D0 L ρ w.drew Q) : drawW Tryz.prog (drawOps 0 c78code) L ρ w Q :=
  drawW_held [1, 3, 5, 6] [(0, 0), (0, 2), (1, 1), (1, 3), (1, 5), (1, 6), (2, 4), (2, 7), (2, 8), (2, 9), (0, 10)] c78D0 (by kernel_rfl) (by kernel_rfl) (by kernel_rfl) S hS h
set_option maxRecDepth 100000 in
theorem ent78 (a0 a1 : Value) (w : World) (K : Value → World → Prop) (h : W Tryz.prog c78 [(0, a0), (1, a1)] w (finQ Tryz.prog [.tmp 4] K)) : Ret Tryz.prog 78 [a0, a1] w K :=
  Ret_of_W (code := c78code) Tryz.func78 (by kernel_rfl) (by kernel_rfl) (of_decide_eq_true (by kernel_rfl)) h
@[go_sem] theorem go78 : goFunc Tryz.prog 78 = true := by kernel_rfl
noncomputable def c79code : Code := match Tryz.f79.body with | some c => c | none => .skip
noncomputable def c79S0 (_ : Unit) : Cmd := .ret
noncomputable def c79 : Cmd := (.seq (.ops [
 ⟨some 2, .box 56 (.tmp 0), 0, none⟩,
 ⟨some 3, .box 56 (.tmp 1), 0, none⟩,
 ⟨some 4, .assign (.const (.int .i64 0)), 3, none⟩] [2, 3])
 (.seq (.draw (drawOps 0 c79code) [4]) (sg c79S0)))
noncomputable def c79D0 : List (Nat × Ins) := [
 (0, ⟨some 5, .fieldAddr 56 (.tmp 2) 9, 0, none⟩),
 (0, ⟨some 7, .fieldAddr 56 (.tmp 3) 9, 0, none⟩),
 (0, ⟨some 10, .fieldAddr 56 (.tmp 2) 0, 0, none⟩),
 (0, ⟨some 12, .fieldAddr 56 (.tmp 3) 0, 0, none⟩),
 (1, ⟨some 6, .load 3 (.tmp 5), 3, none⟩),
 (1, ⟨some 8, .load 3 (.tmp 7), 3, none⟩),
 (1, ⟨some 11, .load 3 (.tmp 10), 3, none⟩),
 (1, ⟨some 13, .load 3 (.tmp 12), 3, none⟩),
 (2, ⟨some 9, .call ⟨.value (.func 74), #[(.tmp 6), (.tmp 8)], #[3, 3]⟩, 3, none⟩),
 (2, ⟨some 14, .call ⟨.value (.func 74), #[(.tmp 11), (.tmp 13)], #[3, 3]⟩, 3, none⟩),
 (2, ⟨some 15, .buildSlice 31 2 #[(0, (.tmp 9)), (1, (.tmp 14))], 31, none⟩),
 (2, ⟨some 16, .call ⟨.value (.func 73), #[(.tmp 15)], #[31]⟩, 3, none⟩),
 (0, ⟨some 4, .assign (.tmp 16), 3, none⟩)]
theorem c79draw0 {L : List Nat} {ρ : Env} {w : World} {Q : Post} (S : World → Prop) (hS : S w.drew) (h : DG Tryz.prog S c79D0 L ρ w.drew Q) : drawW Tryz.prog (drawOps 0 c79code) L ρ w Q :=
  drawW_held [1, 3, 6, 8] [(0, 0), (0, 2), (0, 5), (0, 7), (1, 1), (1, 3), (1, 6), (1, 8), (2, 4), (2, 9), (2, 10), (2, 11), (0, 12)] c79D0 (by kernel_rfl) (by kernel_rfl) (by kernel_rfl) S hS h
set_option maxRecDepth 100000 in
theorem ent79 (a0 a1 : Value) (w : World) (K : Value → World → Prop) (h : W Tryz.prog c79 [(0, a0), (1, a1)] w (finQ Tryz.prog [.tmp 4] K)) : Ret Tryz.prog 79 [a0, a1] w K :=
  Ret_of_W (code := c79code) Tryz.func79 (by kernel_rfl) (by kernel_rfl) (of_decide_eq_true (by kernel_rfl)) h
@[go_sem] theorem go79 : goFunc Tryz.prog 79 = true := by kernel_rfl
@[go_sem] theorem go81 : goFunc Tryz.prog 81 = true := by kernel_rfl
noncomputable def c82code : Code := match Tryz.f82.body with | some c => c | none => .skip
noncomputable def c82S0 (_ : Unit) : Cmd := (.seq (.block 1 (.ops [
 ⟨some 31, .move (.tmp 0), 61, none⟩,
 ⟨some 32, .move (.tmp 8), 3, none⟩,
 ⟨some 33, .indexAddr 61 (.tmp 31) (.tmp 32), 0, none⟩,
 ⟨none, .store 5 (.tmp 33) (.const (.int .u8 45)), 0, none⟩] [0, 5, 6, 7, 8]))
 (.ops [
 ⟨some 29, .move (.tmp 8), 3, none⟩,
 ⟨some 30, .binOp .add 3 (.tmp 29) (.const (.int .i64 1)) 3, 3, none⟩,
 ⟨some 8, .assign (.tmp 30), 3, none⟩] [0, 5, 6, 7, 8]))
noncomputable def c82L0 (_ : Unit) : Cmd := (.seq (.seq (.ops [
 ⟨some 26, .move (.tmp 8), 3, none⟩,
 ⟨some 27, .move (.tmp 7), 3, none⟩,
 ⟨some 28, .binOp .lss 3 (.tmp 26) (.tmp 27) 3, 4, none⟩] [0, 5, 6, 7, 8, 28])
 (.cond (.tmp 28)
  (.skip [0, 5, 6, 7, 8])
  (.exit 0 [0, 5, 6, 7]))) (sg c82S0))
noncomputable def c82S1 (_ : Unit) : Cmd := (.ops [
 ⟨some 56, .binOp .add 3 (.tmp 38) (.const (.int .i64 1)) 3, 3, none⟩,
 ⟨some 38, .move (.tmp 56), 3, none⟩] [0, 5, 6, 7, 36, 37, 38])
noncomputable def c82S2 (_ : Unit) : Cmd := (.seq (.block 3 (.seq (.ops [
 ⟨some 40, .move (.tmp 38), 3, none⟩,
 ⟨some 41, .indexAddr 61 (.tmp 36) (.tmp 38), 0, none⟩,
 ⟨some 42, .load 5 (.tmp 41), 5, none⟩,
 ⟨some 9, .assign (.tmp 40), 3, none⟩,
 ⟨some 10, .assign (.tmp 42), 5, none⟩] [0, 5, 6, 7, 9, 10, 36, 37, 38])
 (.seq (.ops [
 ⟨some 43, .move (.tmp 6), 3, none⟩,
 ⟨some 44, .binOp .add 3 (.tmp 43) (.const (.int .i64 1)) 3, 3, none⟩,
 ⟨some 45, .move (.tmp 9), 3, none⟩,
 ⟨some 46, .binOp .add 3 (.tmp 44) (.tmp 45) 3, 3, none⟩,
 ⟨some 47, .move (.tmp 7), 3, none⟩,
 ⟨some 48, .binOp .lss 3 (.tmp 46) (.tmp 47) 3, 4, none⟩] [0, 5, 6, 7, 9, 10, 36, 37, 38, 48])
 (.cond (.tmp 48)
  (.ops [
  ⟨some 49, .move (.tmp 0), 61, none⟩,
  ⟨some 50, .move (.tmp 6), 3, none⟩,
  ⟨some 51, .binOp .add 3 (.tmp 50) (.const (.int .i64 1)) 3, 3, none⟩,
  ⟨some 52, .move (.tmp 9), 3, none⟩,
  ⟨some 53, .binOp .add 3 (.tmp 51) (.tmp 52) 3, 3, none⟩,
  ⟨some 54, .move (.tmp 10), 5, none⟩,
  ⟨some 55, .indexAddr 61 (.tmp 49) (.tmp 53), 0, none⟩,
  ⟨none, .store 5 (.tmp 55) (.tmp 54), 0, none⟩] [0, 5, 6, 7, 36, 37, 38])
  (.skip [0, 5, 6, 7, 36, 37, 38]))))) (sg c82S1))
noncomputable def c82L1 (_ : Unit) : Cmd := (.seq (.ops [
 ⟨some 39, .binOp .lss 3 (.tmp 38) (.tmp 37) 3, 0, none⟩] [0, 5, 6, 7, 36, 37, 38, 39])
 (.seq (.cond (.tmp 39)
  (.skip [0, 5, 6, 7, 36, 37, 38])
  (.exit 2 [0, 5, 6, 7])) (sg c82S2)))
noncomputable def c82S3 (_ : Unit) : Cmd := (.block 2 (.loop (sg c82L1)))
noncomputable def c82S4 (_ : Unit) : Cmd := (.seq (.ops [
 ⟨some 57, .move (.tmp 0), 61, none⟩,
 ⟨some 58, .move (.tmp 6), 3, none⟩,
 ⟨some 59, .indexAddr 61 (.tmp 57) (.tmp 58), 0, none⟩,
 ⟨none, .store 5 (.tmp 59) (.const (.int .u8 91)), 0, none⟩] [0, 5, 6, 7])
 (.block 4 (.seq (.ops [
 ⟨some 64, .fieldAddr 56 (.tmp 5) 7, 0, none⟩,
 ⟨some 65, .load 4 (.tmp 64), 4, none⟩,
 ⟨some 66, .unOp .not 4 (.tmp 65), 4, none⟩,
 ⟨some 63, .assign (.tmp 66), 4, none⟩] [0, 6, 7, 63])
 (.cond (.tmp 63)
  (.ops [
  ⟨some 67, .move (.tmp 0), 61, none⟩,
  ⟨some 68, .move (.tmp 7), 3, none⟩,
  ⟨some 69, .indexAddr 61 (.tmp 67) (.tmp 68), 0, none⟩,
  ⟨none, .store 5 (.tmp 69) (.const (.int .u8 62)), 0, none⟩] [])
  (.seq (.ops [
  ⟨some 71, .move (.tmp 6), 3, none⟩,
  ⟨some 72, .move (.tmp 7), 3, none⟩,
  ⟨some 73, .binOp .eql 3 (.tmp 71) (.tmp 72) 3, 4, none⟩,
  ⟨some 70, .assign (.tmp 73), 4, none⟩] [0, 7, 70])
  (.cond (.tmp 70)
   (.ops [
   ⟨some 74, .move (.tmp 0), 61, none⟩,
   ⟨some 75, .move (.tmp 7), 3, none⟩,
   ⟨some 76, .indexAddr 61 (.tmp 74) (.tmp 75), 0, none⟩,
   ⟨none, .store 5 (.tmp 76) (.const (.int .u8 124)), 0, none⟩] [])
   (.ops [
   ⟨some 60, .move (.tmp 0), 61, none⟩,
   ⟨some 61, .move (.tmp 7), 3, none⟩,
   ⟨some 62, .indexAddr 61 (.tmp 60) (.tmp 61), 0, none⟩,
   ⟨none, .store 5 (.tmp 62) (.const (.int .u8 93)), 0, none⟩] [])))))))
noncomputable def c82S5 (_ : Unit) : Cmd := (.seq (.seq (.ops [
 ⟨some 34, .load 56 (.tmp 5), 56, none⟩,
 ⟨some 35, .call ⟨.value (.func 122), #[(.tmp 34)], #[56]⟩, 9, none⟩,
 ⟨some 36, .convert 9 61 (.tmp 35), 61, none⟩,
 ⟨some 37, .call ⟨.builtin .len, #[(.tmp 36)], #[61]⟩, 3, none⟩,
 ⟨some 38, .move (.const (.int .i64 0)), 3, none⟩] [0, 5, 6, 7, 36, 37, 38]) (sg c82S3)) (sg c82S4))
noncomputable def c82S6 (_ : Unit) : Cmd := (.seq (.seq (.ops [
 ⟨some 24, .move (.tmp 6), 3, none⟩,
 ⟨some 25, .binOp .add 3 (.tmp 24) (.const (.int .i64 1)) 3, 3, none⟩,
 ⟨some 8, .assign (.tmp 25), 3, none⟩] [0, 5, 6, 7, 8])
 (.block 0 (.loop (sg c82L0)))) (sg c82S5))
noncomputable def c82S7 (_ : Unit) : Cmd := (.seq (.seq (.ops [
 ⟨some 18, .fieldAddr 56 (.tmp 5) 7, 0, none⟩,
 ⟨some 19, .load 4 (.tmp 18), 4, none⟩] [0, 4, 5, 6, 7, 19])
 (.cond (.tmp 19)
  (.ops [
  ⟨some 20, .load 58 (.tmp 4), 58, none⟩,
  ⟨some 21, .fieldAddr 56 (.tmp 5) 10, 0, none⟩,
  ⟨some 22, .load 3 (.tmp 21), 3, none⟩,
  ⟨some 23, .call ⟨.value (.func 83), #[(.tmp 20), (.tmp 22)], #[58, 3]⟩, 3, none⟩,
  ⟨some 7, .assign (.tmp 23), 3, none⟩] [0, 5, 6, 7])
  (.skip [0, 5, 6, 7]))) (sg c82S6))
noncomputable def c82 : Cmd := (.seq (.ops [
 ⟨some 4, .box 58 (.tmp 1), 0, none⟩,
 ⟨some 5, .box 56 (.tmp 2), 0, none⟩] [0, 4, 5])
 (.seq (.draw (drawOps 0 c82code) [0, 4, 5, 6, 7]) (sg c82S7)))
noncomputable def c82D0 : List (Nat × Ins) := [
 (0, ⟨some 12, .fieldAddr 56 (.tmp 5) 9, 0, none⟩),
 (0, ⟨some 15, .fieldAddr 58 (.tmp 4) 2, 0, none⟩),
 (1, ⟨some 11, .load 58 (.tmp 4), 58, none⟩),
 (1, ⟨some 13, .load 3 (.tmp 12), 3, none⟩),
 (1, ⟨some 16, .load 3 (.tmp 15), 3, none⟩),
 (0, ⟨some 17, .binOp .sub 3 (.tmp 16) (.const (.int .i64 1)) 3, 3, none⟩),
 (2, ⟨some 14, .call ⟨.value (.func 83), #[(.tmp 11), (.tmp 13)], #[58, 3]⟩, 3, none⟩),
 (0, ⟨some 6, .assign (.tmp 14), 3, none⟩),
 (0, ⟨some 7, .assign (.tmp 17), 3, none⟩)]
theorem c82draw0 {L : List Nat} {ρ : Env} {w : World} {Q : Post} (S : World → Prop) (hS : S w.drew) (h : DG Tryz.prog S c82D0 L ρ w.drew Q) : drawW Tryz.prog (drawOps 0 c82code) L ρ w Q :=
  drawW_held [0, 2, 5] [(0, 1), (0, 4), (1, 0), (1, 2), (1, 5), (0, 6), (2, 3), (0, 7), (0, 8)] c82D0 (by kernel_rfl) (by kernel_rfl) (by kernel_rfl) S hS h
set_option maxRecDepth 100000 in
theorem ent82 (a0 a1 a2 : Value) (w : World) (K : Value → World → Prop) (h : W Tryz.prog c82 [(0, a0), (1, a1), (2, a2)] w (finQ Tryz.prog [] K)) : Ret Tryz.prog 82 [a0, a1, a2] w K :=
  Ret_of_W (code := c82code) Tryz.func82 (by kernel_rfl) (by kernel_rfl) (of_decide_eq_true (by kernel_rfl)) h
@[go_sem] theorem go82 : goFunc Tryz.prog 82 = true := by kernel_rfl
noncomputable def c83code : Code := match Tryz.f83.body with | some c => c | none => .skip
noncomputable def c83S0 (_ : Unit) : Cmd := .ret
noncomputable def c83S1 (_ : Unit) : Cmd := (.seq (.ops [
 ⟨some 10, .move (.tmp 1), 3, none⟩,
 ⟨some 11, .fieldAddr 58 (.tmp 2) 1, 0, none⟩,
 ⟨some 12, .load 3 (.tmp 11), 3, none⟩,
 ⟨some 13, .call ⟨.builtin .min, #[(.tmp 10), (.tmp 12)], #[3, 3]⟩, 3, none⟩,
 ⟨some 14, .fieldAddr 58 (.tmp 2) 0, 0, none⟩,
 ⟨some 15, .load 3 (.tmp 14), 3, none⟩,
 ⟨some 16, .binOp .sub 3 (.tmp 13) (.tmp 15) 3, 3, none⟩,
 ⟨some 17, .fieldAddr 58 (.tmp 2) 2, 0, none⟩,
 ⟨some 18, .load 3 (.tmp 17), 3, none⟩,
 ⟨some 19, .binOp .sub 3 (.tmp 18) (.const (.int .i64 1)) 3, 3, none⟩,
 ⟨some 20, .binOp .mul 3 (.tmp 16) (.tmp 19) 3, 3, none⟩,
 ⟨some 21, .fieldAddr 58 (.tmp 2) 1, 0, none⟩,
 ⟨some 22, .load 3 (.tmp 21), 3, none⟩,
 ⟨some 23, .fieldAddr 58 (.tmp 2) 0, 0, none⟩,
 ⟨some 24, .load 3 (.tmp 23), 3, none⟩,
 ⟨some 25, .binOp .sub 3 (.tmp 22) (.tmp 24) 3, 3, none⟩,
 ⟨some 26, .binOp .quo 3 (.tmp 20) (.tmp 25) 3, 3, none⟩,
 ⟨some 4, .assign (.tmp 26), 3, none⟩] [4]) (sg c83S0))
noncomputable def c83 : Cmd := (.seq (.ops [
 ⟨some 2, .box 58 (.tmp 0), 0, none⟩,
 ⟨some 4, .assign (.const (.int .i64 0)), 3, none⟩] [1, 2])
 (.seq (.seq (.ops [
 ⟨some 5, .fieldAddr 58 (.tmp 2) 1, 0, none⟩,
 ⟨some 6, .load 3 (.tmp 5), 3, none⟩,
 ⟨some 7, .fieldAddr 58 (.tmp 2) 0, 0, none⟩,
 ⟨some 8, .load 3 (.tmp 7), 3, none⟩,
 ⟨some 9, .binOp .eql 3 (.tmp 6) (.tmp 8) 3, 4, none⟩] [1, 2, 9])
 (.cond (.tmp 9)
  (.seq (.ops [
  ⟨some 4, .assign (.const (.int .i64 0)), 3, none⟩] [4])
  .ret)
  (.skip [1, 2]))) (sg c83S1)))
set_option maxRecDepth 100000 in
theorem ent83 (a0 a1 : Value) (w : World) (K : Value → World → Prop) (h : W Tryz.prog c83 [(0, a0), (1, a1)] w (finQ Tryz.prog [.tmp 4] K)) : Ret Tryz.prog 83 [a0, a1] w K :=
  Ret_of_W (code := c83code) Tryz.func83 (by kernel_rfl) (by kernel_rfl) (of_decide_eq_true (by kernel_rfl)) h
@[go_sem] theorem go83 : goFunc Tryz.prog 83 = true := by kernel_rfl
noncomputable def c84code : Code := match Tryz.f84.body with | some c => c | none => .skip
noncomputable def c84S0 (_ : Unit) : Cmd := .ret
noncomputable def c84 : Cmd := (.seq (.ops [
 ⟨some 3, .box 56 (.tmp 1), 0, none⟩,
 ⟨some 4, .assign (.const (.bool false)), 4, none⟩] [0, 3])
 (.seq (.ops [
 ⟨some 5, .move (.tmp 0), 22, none⟩,
 ⟨some 6, .makeFunc (.func 123) #[] #[(.tmp 3)], 106, none⟩,
 ⟨some 7, .call ⟨.value (.func 64), #[(.tmp 5), (.tmp 6)], #[22, 106]⟩, 4, none⟩,
 ⟨some 8, .unOp .not 4 (.tmp 7), 4, none⟩,
 ⟨some 4, .assign (.tmp 8), 4, none⟩] [4]) (sg c84S0)))
set_option maxRecDepth 100000 in
theorem ent84 (a0 a1 : Value) (w : World) (K : Value → World → Prop) (h : W Tryz.prog c84 [(0, a0), (1, a1)] w (finQ Tryz.prog [.tmp 4] K)) : Ret Tryz.prog 84 [a0, a1] w K :=
  Ret_of_W (code := c84code) Tryz.func84 (by kernel_rfl) (by kernel_rfl) (of_decide_eq_true (by kernel_rfl)) h
@[go_sem] theorem go84 : goFunc Tryz.prog 84 = true := by kernel_rfl
noncomputable def c85code : Code := match Tryz.f85.body with | some c => c | none => .skip
noncomputable def c85S0 (_ : Unit) : Cmd := (.seq (.ops [
 ⟨some 45, .move (.tmp 6), 3, none⟩,
 ⟨some 46, .move (.tmp 9), 3, none⟩,
 ⟨some 47, .binOp .geq 3 (.tmp 45) (.tmp 46) 3, 4, none⟩,
 ⟨some 48, .move (.tmp 47), 4, none⟩,
 ⟨some 49, .move (.tmp 6), 3, (some (48, true))⟩,
 ⟨some 50, .move (.tmp 10), 3, (some (48, true))⟩,
 ⟨some 51, .binOp .leq 3 (.tmp 49) (.tmp 50) 3, 4, (some (48, true))⟩,
 ⟨some 52, .pick (.tmp 48) (.tmp 51) (.const (.bool false)), 4, none⟩] [1, 2, 5, 6, 7, 8, 9, 10, 52])
 (.cond (.tmp 52)
  (.ops [
  ⟨some 53, .move (.tmp 1), 22, none⟩,
  ⟨some 54, .move (.tmp 8), 3, none⟩,
  ⟨some 55, .indexAddr 22 (.tmp 53) (.tmp 54), 0, none⟩,
  ⟨some 56, .load 56 (.tmp 55), 56, none⟩,
  ⟨some 57, .move (.tmp 6), 3, none⟩,
  ⟨some 58, .move (.tmp 9), 3, none⟩,
  ⟨some 59, .move (.tmp 10), 3, none⟩,
  ⟨some 60, .call ⟨.value (.func 125), #[(.tmp 56), (.tmp 57), (.tmp 58), (.tmp 59)], #[56, 3, 3, 3]⟩, 9, none⟩,
  ⟨some 7, .assign (.tmp 60), 9, none⟩] [1, 2, 5, 6, 7, 8])
  (.skip [1, 2, 5, 6, 7, 8])))
noncomputable def c85S1 (_ : Unit) : Cmd := (.seq (.seq (.ops [
 ⟨some 33, .move (.tmp 1), 22, none⟩,
 ⟨some 34, .move (.tmp 8), 3, none⟩,
 ⟨some 35, .indexAddr 22 (.tmp 33) (.tmp 34), 0, none⟩,
 ⟨some 36, .fieldAddr 56 (.tmp 35) 7, 0, none⟩,
 ⟨some 37, .load 4 (.tmp 36), 4, none⟩] [1, 2, 5, 6, 7, 8, 9, 10, 37])
 (.cond (.tmp 37)
  (.draw (drawOps 1 c85code) [1, 2, 5, 6, 7, 8, 9, 10])
  (.skip [1, 2, 5, 6, 7, 8, 9, 10]))) (sg c85S0))
noncomputable def c85S2 (_ : Unit) : Cmd := (.ops [
 ⟨some 21, .move (.tmp 8), 3, none⟩,
 ⟨some 22, .binOp .add 3 (.tmp 21) (.const (.int .i64 1)) 3, 3, none⟩,
 ⟨some 8, .assign (.tmp 22), 3, none⟩] [1, 2, 5, 6, 7, 8])
noncomputable def c85S3 (_ : Unit) : Cmd := (.seq (.block 3 (.seq (.draw (drawOps 0 c85code) [1, 2, 5, 6, 7, 8, 9, 10]) (sg c85S1))) (sg c85S2))
noncomputable def c85L0 (_ : Unit) : Cmd := (.seq (.seq (.ops [
 ⟨some 17, .move (.tmp 8), 3, none⟩,
 ⟨some 18, .move (.tmp 1), 22, none⟩,
 ⟨some 19, .call ⟨.builtin .len, #[(.tmp 18)], #[22]⟩, 3, none⟩,
 ⟨some 20, .binOp .lss 3 (.tmp 17) (.tmp 19) 3, 4, none⟩] [1, 2, 5, 6, 7, 8, 20])
 (.cond (.tmp 20)
  (.skip [1, 2, 5, 6, 7, 8])
  (.exit 2 [1, 2, 5, 6, 7]))) (sg c85S3))
noncomputable def c85S4 (_ : Unit) : Cmd := (.ops [
 ⟨some 61, .move (.tmp 5), 9, none⟩,
 ⟨some 62, .move (.tmp 7), 9, none⟩,
 ⟨some 63, .binOp .add 9 (.tmp 61) (.tmp 62) 9, 9, none⟩,
 ⟨some 5, .assign (.tmp 63), 9, none⟩] [1, 2, 5, 6])
noncomputable def c85S5 (_ : Unit) : Cmd := (.ops [
 ⟨some 15, .move (.tmp 6), 3, none⟩,
 ⟨some 16, .binOp .add 3 (.tmp 15) (.const (.int .i64 1)) 3, 3, none⟩,
 ⟨some 6, .assign (.tmp 16), 3, none⟩] [1, 2, 5, 6])
noncomputable def c85S6 (_ : Unit) : Cmd := (.seq (.block 1 (.seq (.ops [
 ⟨some 7, .assign (.const (.string (ofL [46]))), 9, none⟩] [1, 2, 5, 6, 7])
 (.seq (.seq (.ops [
 ⟨some 8, .assign (.const (.int .i64 0)), 3, none⟩] [1, 2, 5, 6, 7, 8])
 (.block 2 (.loop (sg c85L0)))) (sg c85S4)))) (sg c85S5))
noncomputable def c85L1 (_ : Unit) : Cmd := (.seq (.seq (.ops [
 ⟨some 11, .move (.tmp 6), 3, none⟩,
 ⟨some 12, .fieldAddr 75 (.tmp 2) 2, 0, none⟩,
 ⟨some 13, .load 3 (.tmp 12), 3, none⟩,
 ⟨some 14, .binOp .lss 3 (.tmp 11) (.tmp 13) 3, 4, none⟩] [1, 2, 5, 6, 14])
 (.cond (.tmp 14)
  (.skip [1, 2, 5, 6])
  (.exit 0 [5]))) (sg c85S6))
noncomputable def c85S7 (_ : Unit) : Cmd := (.seq (.ops [
 ⟨some 64, .move (.tmp 5), 9, none⟩,
 ⟨some 4, .assign (.tmp 64), 9, none⟩] [4])
 .ret)
noncomputable def c85 : Cmd := (.seq (.ops [
 ⟨some 2, .box 75 (.tmp 0), 0, none⟩,
 ⟨some 4, .assign (.const (.string (ofL []))), 9, none⟩] [1, 2])
 (.seq (.ops [
 ⟨some 5, .assign (.const (.string (ofL []))), 9, none⟩] [1, 2, 5])
 (.seq (.seq (.ops [
 ⟨some 6, .assign (.const (.int .i64 0)), 3, none⟩] [1, 2, 5, 6])
 (.block 0 (.loop (sg c85L1)))) (sg c85S7))))
noncomputable def c85D0 : List (Nat × Ins) := [
 (0, ⟨some 24, .move (.tmp 1), 22, none⟩),
 (0, ⟨some 25, .move (.tmp 8), 3, none⟩),
 (0, ⟨some 26, .indexAddr 22 (.tmp 24) (.tmp 25), 0, none⟩),
 (0, ⟨some 27, .fieldAddr 56 (.tmp 26) 9, 0, none⟩),
 (0, ⟨some 30, .fieldAddr 75 (.tmp 2) 2, 0, none⟩),
 (1, ⟨some 23, .load 75 (.tmp 2), 75, none⟩),
 (1, ⟨some 28, .load 3 (.tmp 27), 3, none⟩),
 (1, ⟨some 31, .load 3 (.tmp 30), 3, none⟩),
 (0, ⟨some 32, .binOp .sub 3 (.tmp 31) (.const (.int .i64 1)) 3, 3, none⟩),
 (2, ⟨some 29, .call ⟨.value (.func 87), #[(.tmp 23), (.tmp 28)], #[75, 3]⟩, 3, none⟩),
 (0, ⟨some 9, .assign (.tmp 29), 3, none⟩),
 (0, ⟨some 10, .assign (.tmp 32), 3, none⟩)]
theorem c85draw0 {L : List Nat} {ρ : Env} {w : World} {Q : Post} (S : World → Prop) (hS : S w.drew) (h : DG Tryz.prog S c85D0 L ρ w.drew Q) : drawW Tryz.prog (drawOps 0 c85code) L ρ w Q :=
  drawW_held [0, 5, 8] [(0, 1), (0, 2), (0, 3), (0, 4), (0, 7), (1, 0), (1, 5), (1, 8), (0, 9), (2, 6), (0, 10), (0, 11)] c85D0 (by kernel_rfl) (by kernel_rfl) (by kernel_rfl) S hS h
noncomputable def c85D1 : List (Nat × Ins) := [
 (0, ⟨some 39, .move (.tmp 1), 22, none⟩),
 (0, ⟨some 40, .move (.tmp 8), 3, none⟩),
 (0, ⟨some 41, .indexAddr 22 (.tmp 39) (.tmp 40), 0, none⟩),
 (0, ⟨some 42, .fieldAddr 56 (.tmp 41) 10, 0, none⟩),
 (1, ⟨some 38, .load 75 (.tmp 2), 75, none⟩),
 (2, ⟨some 43, .load 3 (.tmp 42), 3, none⟩),
 (3, ⟨some 44, .call ⟨.value (.func 87), #[(.tmp 38), (.tmp 43)], #[75, 3]⟩, 3, none⟩),
 (0, ⟨some 10, .assign (.tmp 44), 3, none⟩)]
theorem c85draw1 {L : List Nat} {ρ : Env} {w : World} {Q : Post} (S : World → Prop) (hS : S w.drew) (h : DG Tryz.prog S c85D1 L ρ w.drew Q) : drawW Tryz.prog (drawOps 1 c85code) L ρ w Q :=
  drawW_held [0] [(0, 1), (0, 2), (0, 3), (0, 4), (1, 0), (2, 5), (3, 6), (0, 7)] c85D1 (by kernel_rfl) (by kernel_rfl) (by kernel_rfl) S hS h
set_option maxRecDepth 100000 in
theorem ent85 (a0 a1 : Value) (w : World) (K : Value → World → Prop) (h : W Tryz.prog c85 [(0, a0), (1, a1)] w (finQ Tryz.prog [.tmp 4] K)) : Ret Tryz.prog 85 [a0, a1] w K :=
  Ret_of_W (code := c85code) Tryz.func85 (by kernel_rfl) (by kernel_rfl) (of_decide_eq_true (by kernel_rfl)) h
@[go_sem] theorem go85 : goFunc Tryz.prog 85 = true := by kernel_rfl
noncomputable def c86code : Code := match Tryz.f86.body with | some c => c | none => .skip
noncomputable def c86S0 (_ : Unit) : Cmd := (.seq (.ops [
 ⟨some 41, .move (.tmp 0), 22, none⟩,
 ⟨some 42, .move (.tmp 6), 3, none⟩,
 ⟨some 43, .indexAddr 22 (.tmp 41) (.tmp 42), 0, none⟩,
 ⟨some 44, .fieldAddr 56 (.tmp 43) 7, 0, none⟩,
 ⟨some 45, .load 4 (.tmp 44), 4, none⟩,
 ⟨some 46, .unOp .not 4 (.tmp 45), 4, none⟩,
 ⟨some 47, .move (.tmp 46), 4, none⟩,
 ⟨some 48, .move (.tmp 5), 3, (some (47, true))⟩,
 ⟨some 49, .binOp .leq 3 (.tmp 48) (.const (.int .i64 1099511627776)) 3, 4, (some (47, true))⟩,
 ⟨some 50, .pick (.tmp 47) (.tmp 49) (.const (.bool false)), 4, none⟩] [0, 4, 5, 6, 50])
 (.cond (.tmp 50)
  (.ops [
  ⟨some 5, .assign (.const (.int .i64 1099511627777)), 3, none⟩] [0, 4, 5, 6])
  (.skip [0, 4, 5, 6])))
noncomputable def c86S1 (_ : Unit) : Cmd := (.seq (.seq (.ops [
 ⟨some 29, .move (.tmp 0), 22, none⟩,
 ⟨some 30, .move (.tmp 6), 3, none⟩,
 ⟨some 31, .indexAddr 22 (.tmp 29) (.tmp 30), 0, none⟩,
 ⟨some 32, .fieldAddr 56 (.tmp 31) 10, 0, none⟩,
 ⟨some 33, .load 3 (.tmp 32), 3, none⟩,
 ⟨some 34, .move (.tmp 5), 3, none⟩,
 ⟨some 35, .binOp .gtr 3 (.tmp 33) (.tmp 34) 3, 4, none⟩] [0, 4, 5, 6, 35])
 (.cond (.tmp 35)
  (.ops [
  ⟨some 36, .move (.tmp 0), 22, none⟩,
  ⟨some 37, .move (.tmp 6), 3, none⟩,
  ⟨some 38, .indexAddr 22 (.tmp 36) (.tmp 37), 0, none⟩,
  ⟨some 39, .fieldAddr 56 (.tmp 38) 10, 0, none⟩,
  ⟨some 40, .load 3 (.tmp 39), 3, none⟩,
  ⟨some 5, .assign (.tmp 40), 3, none⟩] [0, 4, 5, 6])
  (.skip [0, 4, 5, 6]))) (sg c86S0))
noncomputable def c86S2 (_ : Unit) : Cmd := (.ops [
 ⟨some 11, .move (.tmp 6), 3, none⟩,
 ⟨some 12, .binOp .add 3 (.tmp 11) (.const (.int .i64 1)) 3, 3, none⟩,
 ⟨some 6, .assign (.tmp 12), 3, none⟩] [0, 4, 5, 6])
noncomputable def c86S3 (_ : Unit) : Cmd := (.seq (.block 1 (.seq (.seq (.ops [
 ⟨some 13, .move (.tmp 6), 3, none⟩,
 ⟨some 14, .binOp .eql 3 (.tmp 13) (.const (.int .i64 0)) 3, 4, none⟩,
 ⟨some 15, .move (.tmp 14), 4, none⟩,
 ⟨some 16, .move (.tmp 0), 22, (some (15, false))⟩,
 ⟨some 17, .move (.tmp 6), 3, (some (15, false))⟩,
 ⟨some 18, .indexAddr 22 (.tmp 16) (.tmp 17), 0, (some (15, false))⟩,
 ⟨some 19, .fieldAddr 56 (.tmp 18) 9, 0, (some (15, false))⟩,
 ⟨some 20, .load 3 (.tmp 19), 3, (some (15, false))⟩,
 ⟨some 21, .move (.tmp 4), 3, (some (15, false))⟩,
 ⟨some 22, .binOp .lss 3 (.tmp 20) (.tmp 21) 3, 4, (some (15, false))⟩,
 ⟨some 23, .pick (.tmp 15) (.const (.bool true)) (.tmp 22), 4, none⟩] [0, 4, 5, 6, 23])
 (.cond (.tmp 23)
  (.ops [
  ⟨some 24, .move (.tmp 0), 22, none⟩,
  ⟨some 25, .move (.tmp 6), 3, none⟩,
  ⟨some 26, .indexAddr 22 (.tmp 24) (.tmp 25), 0, none⟩,
  ⟨some 27, .fieldAddr 56 (.tmp 26) 9, 0, none⟩,
  ⟨some 28, .load 3 (.tmp 27), 3, none⟩,
  ⟨some 4, .assign (.tmp 28), 3, none⟩] [0, 4, 5, 6])
  (.skip [0, 4, 5, 6]))) (sg c86S1))) (sg c86S2))
noncomputable def c86L0 (_ : Unit) : Cmd := (.seq (.seq (.ops [
 ⟨some 7, .move (.tmp 6), 3, none⟩,
 ⟨some 8, .move (.tmp 0), 22, none⟩,
 ⟨some 9, .call ⟨.builtin .len, #[(.tmp 8)], #[22]⟩, 3, none⟩,
 ⟨some 10, .binOp .lss 3 (.tmp 7) (.tmp 9) 3, 4, none⟩] [0, 4, 5, 6, 10])
 (.cond (.tmp 10)
  (.skip [0, 4, 5, 6])
  (.exit 0 [4, 5]))) (sg c86S3))
noncomputable def c86S4 (_ : Unit) : Cmd := (.seq (.ops [
 ⟨some 51, .move (.tmp 4), 3, none⟩,
 ⟨some 52, .move (.tmp 5), 3, none⟩,
 ⟨some 2, .assign (.tmp 51), 3, none⟩,
 ⟨some 3, .assign (.tmp 52), 3, none⟩] [2, 3])
 .ret)
noncomputable def c86 : Cmd := (.seq (.ops [
 ⟨some 2, .assign (.const (.int .i64 0)), 3, none⟩,
 ⟨some 3, .assign (.const (.int .i64 0)), 3, none⟩] [0])
 (.seq (.ops [
 ⟨some 4, .assign (.const (.int .i64 0)), 3, none⟩,
 ⟨some 5, .assign (.const (.int .i64 0)), 3, none⟩] [0, 4, 5])
 (.seq (.seq (.ops [
 ⟨some 6, .assign (.const (.int .i64 0)), 3, none⟩] [0, 4, 5, 6])
 (.block 0 (.loop (sg c86L0)))) (sg c86S4))))
set_option maxRecDepth 100000 in
theorem ent86 (a0 : Value) (w : World) (K : Value → World → Prop) (h : W Tryz.prog c86 [(0, a0)] w (finQ Tryz.prog [.tmp 2, .tmp 3] K)) : Ret Tryz.prog 86 [a0] w K :=
  Ret_of_W (code := c86code) Tryz.func86 (by kernel_rfl) (by kernel_rfl) (of_decide_eq_true (by kernel_rfl)) h
@[go_sem] theorem go86 : goFunc Tryz.prog 86 = true := by kernel_rfl
noncomputable def c87code : Code := match Tryz.f87.body with | some c => c | none => .skip
noncomputable def c87S0 (_ : Unit) : Cmd := (.seq (.ops [
 ⟨some 16, .move (.tmp 1), 3, none⟩,
 ⟨some 17, .fieldAddr 75 (.tmp 2) 0, 0, none⟩,
 ⟨some 18, .load 3 (.tmp 17), 3, none⟩,
 ⟨some 19, .binOp .sub 3 (.tmp 16) (.tmp 18) 3, 3, none⟩,
 ⟨some 20, .fieldAddr 75 (.tmp 2) 2, 0, none⟩,
 ⟨some 21, .load 3 (.tmp 20), 3, none⟩,
 ⟨some 22, .binOp .sub 3 (.tmp 21) (.const (.int .i64 1)) 3, 3, none⟩,
 ⟨some 23, .binOp .mul 3 (.tmp 19) (.tmp 22) 3, 3, none⟩,
 ⟨some 24, .fieldAddr 75 (.tmp 2) 1, 0, none⟩,
 ⟨some 25, .load 3 (.tmp 24), 3, none⟩,
 ⟨some 26, .fieldAddr 75 (.tmp 2) 0, 0, none⟩,
 ⟨some 27, .load 3 (.tmp 26), 3, none⟩,
 ⟨some 28, .binOp .sub 3 (.tmp 25) (.tmp 27) 3, 3, none⟩,
 ⟨some 29, .binOp .quo 3 (.tmp 23) (.tmp 28) 3, 3, none⟩,
 ⟨some 4, .assign (.tmp 29), 3, none⟩] [4])
 .ret)
noncomputable def c87S1 (_ : Unit) : Cmd := (.seq (.seq (.ops [
 ⟨some 11, .fieldAddr 75 (.tmp 2) 1, 0, none⟩,
 ⟨some 12, .load 3 (.tmp 11), 3, none⟩,
 ⟨some 13, .fieldAddr 75 (.tmp 2) 0, 0, none⟩,
 ⟨some 14, .load 3 (.tmp 13), 3, none⟩,
 ⟨some 15, .binOp .eql 3 (.tmp 12) (.tmp 14) 3, 4, none⟩] [1, 2, 15])
 (.cond (.tmp 15)
  (.seq (.ops [
  ⟨some 4, .assign (.const (.int .i64 0)), 3, none⟩] [4])
  .ret)
  (.skip [1, 2]))) (sg c87S0))
noncomputable def c87 : Cmd := (.seq (.ops [
 ⟨some 2, .box 75 (.tmp 0), 0, none⟩,
 ⟨some 4, .assign (.const (.int .i64 0)), 3, none⟩] [1, 2])
 (.seq (.seq (.ops [
 ⟨some 5, .move (.tmp 1), 3, none⟩,
 ⟨some 6, .fieldAddr 75 (.tmp 2) 1, 0, none⟩,
 ⟨some 7, .load 3 (.tmp 6), 3, none⟩,
 ⟨some 8, .binOp .gtr 3 (.tmp 5) (.tmp 7) 3, 4, none⟩] [1, 2, 8])
 (.cond (.tmp 8)
  (.ops [
  ⟨some 9, .fieldAddr 75 (.tmp 2) 1, 0, none⟩,
  ⟨some 10, .load 3 (.tmp 9), 3, none⟩,
  ⟨some 1, .assign (.tmp 10), 3, none⟩] [1, 2])
  (.skip [1, 2]))) (sg c87S1)))
set_option maxRecDepth 100000 in
theorem ent87 (a0 a1 : Value) (w : World) (K : Value → World → Prop) (h : W Tryz.prog c87 [(0, a0), (1, a1)] w (finQ Tryz.prog [.tmp 4] K)) : Ret Tryz.prog 87 [a0, a1] w K :=
  Ret_of_W (code := c87code) Tryz.func87 (by kernel_rfl) (by kernel_rfl) (of_decide_eq_true (by kernel_rfl)) h
@[go_sem] theorem go87 : goFunc Tryz.prog 87 = true := by kernel_rfl
noncomputable def c88code : Code := match Tryz.f88.body with | some c => c | none => .skip
noncomputable def c88 : Cmd := (.seq (.ops [
 ⟨some 2, .box 56 (.tmp 0), 0, none⟩,
 ⟨some 3, .box 56 (.tmp 1), 0, none⟩,
 ⟨some 4, .assign (.const (.bool false)), 4, none⟩] [2, 3])
 (.seq (.ops [
 ⟨some 5, .fieldAddr 56 (.tmp 2) 7, 0, none⟩,
 ⟨some 6, .load 4 (.tmp 5), 4, none⟩,
 ⟨some 7, .move (.tmp 6), 4, none⟩,
 ⟨some 8, .fieldAddr 56 (.tmp 2) 10, 0, (some (7, true))⟩,
 ⟨some 9, .load 3 (.tmp 8), 3, (some (7, true))⟩,
 ⟨some 10, .fieldAddr 56 (.tmp 3) 9, 0, (some (7, true))⟩,
 ⟨some 11, .load 3 (.tmp 10), 3, (some (7, true))⟩,
 ⟨some 12, .binOp .lss 3 (.tmp 9) (.tmp 11) 3, 4, (some (7, true))⟩,
 ⟨some 13, .pick (.tmp 7) (.tmp 12) (.const (.bool false)), 4, none⟩,
 ⟨some 4, .assign (.tmp 13), 4, none⟩] [4])
 .ret))
set_option maxRecDepth 100000 in
theorem ent88 (a0 a1 : Value) (w : World) (K : Value → World → Prop) (h : W Tryz.prog c88 [(0, a0), (1, a1)] w (finQ Tryz.prog [.tmp 4] K)) : Ret Tryz.prog 88 [a0, a1] w K :=
  Ret_of_W (code := c88code) Tryz.func88 (by kernel_rfl) (by kernel_rfl) (of_decide_eq_true (by kernel_rfl)) h
@[go_sem] theorem go88 : goFunc Tryz.prog 88 = true := by kernel_rfl
@[go_sem] theorem go89 : goFunc Tryz.prog 89 = true := by kernel_rfl
@[go_sem] theorem go90 : goFunc Tryz.prog 90 = true := by kernel_rfl
@[go_sem] theorem go91 : goFunc Tryz.prog 91 = true := by kernel_rfl
@[go_sem] theorem go92 : goFunc Tryz.prog 92 = true := by kernel_rfl
@[go_sem] theorem go93 : goFunc Tryz.prog 93 = true := by kernel_rfl
@[go_sem] theorem go94 : goFunc Tryz.prog 94 = true := by kernel_rfl
@[go_sem] theorem go95 : goFunc Tryz.prog 95 = true := by kernel_rfl
@[go_sem] theorem go96 : goFunc Tryz.prog 96 = true := by kernel_rfl
@[go_sem] theorem go97 : goFunc Tryz.prog 97 = true := by kernel_rfl
@[go_sem] theorem go98 : goFunc Tryz.prog 98 = true := by kernel_rfl
@[go_sem] theorem go99 : goFunc Tryz.prog 99 = true := by kernel_rfl
@[go_sem] theorem go100 : goFunc Tryz.prog 100 = true := by kernel_rfl
@[go_sem] theorem go101 : goFunc Tryz.prog 101 = true := by kernel_rfl
noncomputable def c102code : Code := match Tryz.f102.body with | some c => c | none => .skip
noncomputable def c102 : Cmd := (.seq (.ops [
 ⟨some 6, .assign (.const (.bool false)), 4, none⟩] [0, 1, 2])
 (.seq (.ops [
 ⟨some 7, .move (.tmp 0), 3, none⟩,
 ⟨some 8, .move (.tmp 1), 3, none⟩,
 ⟨some 9, .binOp .geq 3 (.tmp 7) (.tmp 8) 3, 4, none⟩,
 ⟨some 10, .move (.tmp 9), 4, none⟩,
 ⟨some 11, .move (.tmp 0), 3, (some (10, true))⟩,
 ⟨some 12, .move (.tmp 2), 3, (some (10, true))⟩,
 ⟨some 13, .binOp .leq 3 (.tmp 11) (.tmp 12) 3, 4, (some (10, true))⟩,
 ⟨some 14, .pick (.tmp 10) (.tmp 13) (.const (.bool false)), 4, none⟩,
 ⟨some 6, .assign (.tmp 14), 4, none⟩] [6])
 .ret))
set_option maxRecDepth 100000 in
theorem ent102 (a0 a1 a2 : Value) (w : World) (K : Value → World → Prop) (h : W Tryz.prog c102 [(0, a0), (1, a1), (2, a2)] w (finQ Tryz.prog [.tmp 6] K)) : Ret Tryz.prog 102 [a0, a1, a2] w K :=
  Ret_of_W (code := c102code) Tryz.func102 (by kernel_rfl) (by kernel_rfl) (of_decide_eq_true (by kernel_rfl)) h
@[go_sem] theorem go102 : goFunc Tryz.prog 102 = true := by kernel_rfl
noncomputable def c103code : Code := match Tryz.f103.body with | some c => c | none => .skip
noncomputable def c103S0 (_ : Unit) : Cmd := (.ops [
 ⟨some 13, .move (.tmp 7), 3, none⟩,
 ⟨some 14, .binOp .add 3 (.tmp 13) (.const (.int .i64 1)) 3, 3, none⟩,
 ⟨some 7, .assign (.tmp 14), 3, none⟩] [0, 1, 4, 6, 7])
noncomputable def c103S1 (_ : Unit) : Cmd := (.seq (.block 1 (.seq (.ops [
 ⟨some 15, .move (.tmp 6), 187, none⟩,
 ⟨some 16, .move (.tmp 7), 3, none⟩,
 ⟨some 17, .indexAddr 187 (.tmp 15) (.tmp 16), 0, none⟩,
 ⟨some 18, .fieldAddr 153 (.tmp 17) 0, 0, none⟩,
 ⟨some 19, .load 3 (.tmp 18), 3, none⟩,
 ⟨some 20, .move (.tmp 0), 3, none⟩,
 ⟨some 21, .binOp .eql 3 (.tmp 19) (.tmp 20) 3, 4, none⟩,
 ⟨some 22, .move (.tmp 21), 4, none⟩,
 ⟨some 23, .move (.tmp 6), 187, (some (22, true))⟩,
 ⟨some 24, .move (.tmp 7), 3, (some (22, true))⟩,
 ⟨some 25, .indexAddr 187 (.tmp 23) (.tmp 24), 0, (some (22, true))⟩,
 ⟨some 26, .fieldAddr 153 (.tmp 25) 1, 0, (some (22, true))⟩,
 ⟨some 27, .load 3 (.tmp 26), 3, (some (22, true))⟩,
 ⟨some 28, .move (.tmp 1), 3, (some (22, true))⟩,
 ⟨some 29, .binOp .eql 3 (.tmp 27) (.tmp 28) 3, 4, (some (22, true))⟩,
 ⟨some 30, .pick (.tmp 22) (.tmp 29) (.const (.bool false)), 4, none⟩] [0, 1, 4, 6, 7, 30])
 (.cond (.tmp 30)
  (.seq (.ops [
  ⟨some 31, .move (.tmp 6), 187, none⟩,
  ⟨some 32, .move (.tmp 7), 3, none⟩,
  ⟨some 33, .indexAddr 187 (.tmp 31) (.tmp 32), 0, none⟩,
  ⟨some 34, .load 153 (.tmp 33), 153, none⟩,
  ⟨none, .store 153 (.tmp 4) (.tmp 34), 0, none⟩,
  ⟨some 5, .assign (.const (.bool true)), 4, none⟩] [4, 5])
  .ret)
  (.skip [0, 1, 4, 6, 7])))) (sg c103S0))
noncomputable def c103L0 (_ : Unit) : Cmd := (.seq (.seq (.ops [
 ⟨some 9, .move (.tmp 7), 3, none⟩,
 ⟨some 10, .move (.tmp 6), 187, none⟩,
 ⟨some 11, .call ⟨.builtin .len, #[(.tmp 10)], #[187]⟩, 3, none⟩,
 ⟨some 12, .binOp .lss 3 (.tmp 9) (.tmp 11) 3, 4, none⟩] [0, 1, 4, 6, 7, 12])
 (.cond (.tmp 12)
  (.skip [0, 1, 4, 6, 7])
  (.exit 0 [4]))) (sg c103S1))
noncomputable def c103S2 (_ : Unit) : Cmd := (.seq (.ops [
 ⟨some 35, .build 153 #[], 153, none⟩,
 ⟨none, .store 153 (.tmp 4) (.tmp 35), 0, none⟩,
 ⟨some 5, .assign (.const (.bool false)), 4, none⟩] [4, 5])
 .ret)
noncomputable def c103S3 (_ : Unit) : Cmd := (.seq (.seq (.ops [
 ⟨some 7, .assign (.const (.int .i64 0)), 3, none⟩] [0, 1, 4, 6, 7])
 (.block 0 (.loop (sg c103L0)))) (sg c103S2))
noncomputable def c103 : Cmd := (.seq (.ops [
 ⟨some 4, .alloc 153, 0, none⟩,
 ⟨some 5, .assign (.const (.bool false)), 4, none⟩] [0, 1, 4])
 (.seq (.ops [
 ⟨some 8, .call ⟨.value (.func 135), #[], #[]⟩, 187, none⟩,
 ⟨some 6, .assign (.tmp 8), 187, none⟩] [0, 1, 4, 6]) (sg c103S3)))
set_option maxRecDepth 100000 in
theorem ent103 (a0 a1 : Value) (w : World) (K : Value → World → Prop) (h : W Tryz.prog c103 [(0, a0), (1, a1)] w (finQ Tryz.prog [.cell 4 153, .tmp 5] K)) : Ret Tryz.prog 103 [a0, a1] w K :=
  Ret_of_W (code := c103code) Tryz.func103 (by kernel_rfl) (by kernel_rfl) (of_decide_eq_true (by kernel_rfl)) h
@[go_sem] theorem go103 : goFunc Tryz.prog 103 = true := by kernel_rfl
noncomputable def c104code : Code := match Tryz.f104.body with | some c => c | none => .skip
noncomputable def c104S0 (_ : Unit) : Cmd := .ret
noncomputable def c104S1 (_ : Unit) : Cmd := .ret
noncomputable def c104S2 (_ : Unit) : Cmd := .ret
noncomputable def c104S3 (_ : Unit) : Cmd := (.seq (.ops [
 ⟨some 25, .move (.tmp 0), 3, none⟩,
 ⟨some 26, .call ⟨.value (.func 102), #[(.tmp 25), (.const (.int .i64 (-1))), (.const (.int .i64 1073741824))], #[3, 3, 3]⟩, 4, none⟩,
 ⟨some 4, .assign (.tmp 26), 4, none⟩] [4]) (sg c104S2))
noncomputable def c104S4 (_ : Unit) : Cmd := (.seq (.seq (.ops [
 ⟨some 21, .move (.tmp 1), 3, none⟩,
 ⟨some 22, .binOp .eql 3 (.tmp 21) (.const (.int .i64 3)) 3, 4, none⟩] [0, 22])
 (.cond (.tmp 22)
  (.seq (.ops [
  ⟨some 23, .move (.tmp 0), 3, none⟩,
  ⟨some 24, .call ⟨.value (.func 102), #[(.tmp 23), (.const (.int .i64 (-1073741824))), (.const (.int .i64 1073741824))], #[3, 3, 3]⟩, 4, none⟩,
  ⟨some 4, .assign (.tmp 24), 4, none⟩] [4]) (sg c104S1))
  (.skip [0]))) (sg c104S3))
noncomputable def c104S5 (_ : Unit) : Cmd := (.seq (.seq (.ops [
 ⟨some 17, .move (.tmp 1), 3, none⟩,
 ⟨some 18, .binOp .eql 3 (.tmp 17) (.const (.int .i64 2)) 3, 4, none⟩] [0, 1, 18])
 (.cond (.tmp 18)
  (.seq (.ops [
  ⟨some 19, .move (.tmp 0), 3, none⟩,
  ⟨some 20, .call ⟨.value (.func 102), #[(.tmp 19), (.const (.int .i64 0)), (.const (.int .i64 1073741824))], #[3, 3, 3]⟩, 4, none⟩,
  ⟨some 4, .assign (.tmp 20), 4, none⟩] [4]) (sg c104S0))
  (.skip [0, 1]))) (sg c104S4))
noncomputable def c104S6 (_ : Unit) : Cmd := (.seq (.seq (.ops [
 ⟨some 9, .move (.tmp 1), 3, none⟩,
 ⟨some 10, .binOp .eql 3 (.tmp 9) (.const (.int .i64 1)) 3, 4, none⟩] [0, 1, 10])
 (.cond (.tmp 10)
  (.seq (.ops [
  ⟨some 11, .move (.tmp 0), 3, none⟩,
  ⟨some 12, .binOp .eql 3 (.tmp 11) (.const (.int .i64 0)) 3, 4, none⟩,
  ⟨some 13, .move (.tmp 12), 4, none⟩,
  ⟨some 14, .move (.tmp 0), 3, (some (13, false))⟩,
  ⟨some 15, .binOp .eql 3 (.tmp 14) (.const (.int .i64 1)) 3, 4, (some (13, false))⟩,
  ⟨some 16, .pick (.tmp 13) (.const (.bool true)) (.tmp 15), 4, none⟩,
  ⟨some 4, .assign (.tmp 16), 4, none⟩] [4])
  .ret)
  (.skip [0, 1]))) (sg c104S5))
noncomputable def c104 : Cmd := (.seq (.ops [
 ⟨some 4, .assign (.const (.bool false)), 4, none⟩] [0, 1])
 (.seq (.seq (.ops [
 ⟨some 5, .move (.tmp 1), 3, none⟩,
 ⟨some 6, .binOp .eql 3 (.tmp 5) (.const (.int .i64 0)) 3, 4, none⟩] [0, 1, 6])
 (.cond (.tmp 6)
  (.seq (.ops [
  ⟨some 7, .move (.tmp 0), 3, none⟩,
  ⟨some 8, .binOp .eql 3 (.tmp 7) (.const (.int .i64 0)) 3, 4, none⟩,
  ⟨some 4, .assign (.tmp 8), 4, none⟩] [4])
  .ret)
  (.skip [0, 1]))) (sg c104S6)))
set_option maxRecDepth 100000 in
theorem ent104 (a0 a1 : Value) (w : World) (K : Value → World → Prop) (h : W Tryz.prog c104 [(0, a0), (1, a1)] w (finQ Tryz.prog [.tmp 4] K)) : Ret Tryz.prog 104 [a0, a1] w K :=
  Ret_of_W (code := c104code) Tryz.func104 (by kernel_rfl) (by kernel_rfl) (of_decide_eq_true (by kernel_rfl)) h
@[go_sem] theorem go104 : goFunc Tryz.prog 104 = true := by kernel_rfl
@[go_sem] theorem go105 : goFunc Tryz.prog 105 = true := by kernel_rfl
@[go_sem] theorem go106 : goFunc Tryz.prog 106 = true := by kernel_rfl
@[go_sem] theorem go107 : goFunc Tryz.prog 107 = true := by kernel_rfl
@[go_sem] theorem go108 : goFunc Tryz.prog 108 = true := by kernel_rfl
@[go_sem] theorem go109 : goFunc Tryz.prog 109 = true := by kernel_rfl
@[go_sem] theorem go110 : goFunc Tryz.prog 110 = true := by kernel_rfl
noncomputable def c111code : Code := match Tryz.f111.body with | some c => c | none => .skip
noncomputable def c111S0 (_ : Unit) : Cmd := .ret
noncomputable def c111 : Cmd := (.seq (.ops [
 ⟨some 2, .assign (.const (.slice none 0 0)), 31, none⟩] [0])
 (.seq (.ops [
 ⟨some 3, .move (.tmp 0), 120, none⟩,
 ⟨some 4, .call ⟨.value (.func 142), #[(.const (.slice none 0 0)), (.tmp 3)], #[31, 120]⟩, 31, none⟩,
 ⟨some 2, .assign (.tmp 4), 31, none⟩] [2]) (sg c111S0)))
set_option maxRecDepth 100000 in
theorem ent111 (a0 : Value) (w : World) (K : Value → World → Prop) (h : W Tryz.prog c111 [(0, a0)] w (finQ Tryz.prog [.tmp 2] K)) : Ret Tryz.prog 111 [a0] w K :=
  Ret_of_W (code := c111code) Tryz.func111 (by kernel_rfl) (by kernel_rfl) (of_decide_eq_true (by kernel_rfl)) h
@[go_sem] theorem go111 : goFunc Tryz.prog 111 = true := by kernel_rfl
noncomputable def c113code : Code := match Tryz.f113.body with | some c => c | none => .skip
noncomputable def c113S0 (_ : Unit) : Cmd := (.cond (.tmp 13)
  .ret
  (.skip [0, 5]))
noncomputable def c113S1 (_ : Unit) : Cmd := (.block 1 (.seq (.ops [
 ⟨some 8, .entry (.tmp 5), 0, none⟩,
 ⟨some 9, .extract (.tmp 8) 0, 3, none⟩,
 ⟨some 3, .assign (.tmp 9), 3, none⟩] [0, 3, 5])
 (.seq (.ops [
 ⟨some 10, .move (.tmp 0), 166, none⟩,
 ⟨some 11, .move (.tmp 3), 3, none⟩,
 ⟨some 12, .call ⟨.value (.tmp 10), #[(.tmp 11)], #[3]⟩, 4, none⟩,
 ⟨some 13, .unOp .not 4 (.tmp 12), 4, none⟩] [0, 5, 13]) (sg c113S0))))
noncomputable def c113L0 (_ : Unit) : Cmd := (.seq (.ops [
 ⟨some 6, .next (.tmp 5) false, 0, none⟩,
 ⟨some 7, .extract (.tmp 6) 0, 4, none⟩] [0, 5, 7])
 (.seq (.cond (.tmp 7)
  (.skip [0, 5])
  (.exit 0 [])) (sg c113S1)))
noncomputable def c113 : Cmd := (.seq (.ops [
 ⟨some 4, .load 117 (.tmp 1), 117, none⟩,
 ⟨some 5, .range 117 (.tmp 4), 0, none⟩] [0, 5])
 (.block 0 (.loop (sg c113L0))))
set_option maxRecDepth 100000 in
theorem ent113 (a0 a1 : Value) (w : World) (K : Value → World → Prop) (h : W Tryz.prog c113 [(0, a0), (1, a1)] w (finQ Tryz.prog [] K)) : Ret Tryz.prog 113 [a0, a1] w K :=
  Ret_of_W (code := c113code) Tryz.func113 (by kernel_rfl) (by kernel_rfl) (of_decide_eq_true (by kernel_rfl)) h
@[go_sem] theorem go113 : goFunc Tryz.prog 113 = true := by kernel_rfl
noncomputable def c114code : Code := match Tryz.f114.body with | some c => c | none => .skip
noncomputable def c114S0 (_ : Unit) : Cmd := .ret
noncomputable def c114S1 (_ : Unit) : Cmd := .ret
noncomputable def c114S2 (_ : Unit) : Cmd := (.ops [
  ⟨some 45, .move (.tmp 3), 3, none⟩,
  ⟨some 46, .binOp .sub 3 (.tmp 45) (.const (.int .i64 1)) 3, 3, none⟩,
  ⟨some 3, .assign (.tmp 46), 3, none⟩] [0, 1, 2, 3, 4, 10, 11, 12])
noncomputable def c114S3 (_ : Unit) : Cmd := (.seq (.ops [
  ⟨some 62, .move (.tmp 2), 3, none⟩,
  ⟨some 63, .binOp .sub 3 (.tmp 62) (.const (.int .i64 1)) 3, 3, none⟩,
  ⟨some 64, .move (.tmp 13), 3, none⟩,
  ⟨some 65, .move (.tmp 1), 3, none⟩,
  ⟨some 66, .binOp .sub 3 (.tmp 64) (.tmp 65) 3, 3, none⟩,
  ⟨some 67, .binOp .sub 3 (.tmp 63) (.tmp 66) 3, 3, none⟩,
  ⟨some 13, .assign (.tmp 67), 3, none⟩] [0, 1, 2, 3, 4, 10, 11, 12, 13])
  (.ops [
  ⟨some 14, .assign (.const (.int .i64 1)), 197, none⟩] [0, 1, 2, 3, 4, 10, 11, 12, 13, 14]))
noncomputable def c114S4 (_ : Unit) : Cmd := (.cond (.tmp 80)
   .ret
   (.skip [0, 1, 2, 3, 4, 10, 11, 12, 13]))
noncomputable def c114S5 (_ : Unit) : Cmd := (.seq (.ops [
  ⟨some 104, .move (.tmp 15), 3, none⟩,
  ⟨some 1, .assign (.tmp 104), 3, none⟩] [0, 1, 2, 3, 4, 10, 11])
  (.exit 1 [0, 1, 2, 3, 4, 10, 11]))
noncomputable def c114S6 (_ : Unit) : Cmd := (.cond (.tmp 97)
  (.seq (.ops [
  ⟨some 98, .move (.tmp 0), 22, none⟩,
  ⟨some 99, .move (.tmp 1), 3, none⟩,
  ⟨some 100, .move (.tmp 2), 3, none⟩,
  ⟨some 101, .move (.tmp 13), 3, none⟩,
  ⟨some 102, .move (.tmp 4), 125, none⟩,
  ⟨some 103, .call ⟨.value (.func 150), #[(.tmp 98), (.tmp 99), (.tmp 100), (.tmp 101), (.tmp 102)], #[22, 3, 3, 3, 125]⟩, 3, none⟩,
  ⟨some 15, .assign (.tmp 103), 3, none⟩] [0, 2, 3, 4, 10, 11, 15]) (sg c114S5))
  (.skip [0, 1, 2, 3, 4, 12, 13]))
noncomputable def c114S7 (_ : Unit) : Cmd := (.ops [
  ⟨some 135, .move (.tmp 16), 3, none⟩,
  ⟨some 136, .binOp .add 3 (.tmp 135) (.const (.int .i64 1)) 3, 3, none⟩,
  ⟨some 1, .assign (.tmp 136), 3, none⟩] [0, 1, 2, 3, 4, 10, 11])
noncomputable def c114S8 (_ : Unit) : Cmd := (.ops [
  ⟨some 147, .move (.tmp 16), 3, none⟩,
  ⟨some 2, .assign (.tmp 147), 3, none⟩] [0, 1, 2, 3, 4, 10, 11])
noncomputable def c114S9 (_ : Unit) : Cmd := (.seq (.ops [
 ⟨some 114, .move (.tmp 17), 4, none⟩,
 ⟨some 11, .assign (.tmp 114), 4, none⟩] [0, 1, 2, 3, 4, 11, 12, 16])
 (.seq (.ops [
 ⟨some 115, .move (.tmp 16), 3, none⟩,
 ⟨some 116, .move (.tmp 1), 3, none⟩,
 ⟨some 117, .binOp .sub 3 (.tmp 115) (.tmp 116) 3, 3, none⟩,
 ⟨some 118, .move (.tmp 2), 3, none⟩,
 ⟨some 119, .move (.tmp 16), 3, none⟩,
 ⟨some 120, .binOp .sub 3 (.tmp 118) (.tmp 119) 3, 3, none⟩,
 ⟨some 18, .assign (.tmp 117), 3, none⟩,
 ⟨some 19, .assign (.tmp 120), 3, none⟩] [0, 1, 2, 3, 4, 11, 12, 16, 18, 19])
 (.seq (.ops [
 ⟨some 121, .move (.tmp 12), 3, none⟩,
 ⟨some 122, .binOp .quo 3 (.tmp 121) (.const (.int .i64 8)) 3, 3, none⟩,
 ⟨some 20, .assign (.tmp 122), 3, none⟩] [0, 1, 2, 3, 4, 11, 16, 18, 19, 20])
 (.seq (.ops [
 ⟨some 123, .move (.tmp 18), 3, none⟩,
 ⟨some 124, .move (.tmp 19), 3, none⟩,
 ⟨some 125, .binOp .lss 3 (.tmp 123) (.tmp 124) 3, 4, none⟩] [0, 1, 2, 3, 4, 11, 16, 18, 19, 20, 125])
 (.cond (.tmp 125)
  (.seq (.ops [
  ⟨some 126, .move (.tmp 18), 3, none⟩,
  ⟨some 127, .move (.tmp 20), 3, none⟩,
  ⟨some 128, .binOp .geq 3 (.tmp 126) (.tmp 127) 3, 4, none⟩,
  ⟨some 10, .assign (.tmp 128), 4, none⟩] [0, 1, 2, 3, 4, 10, 11, 16])
  (.seq (.ops [
  ⟨some 129, .move (.tmp 0), 22, none⟩,
  ⟨some 130, .move (.tmp 1), 3, none⟩,
  ⟨some 131, .move (.tmp 16), 3, none⟩,
  ⟨some 132, .move (.tmp 3), 3, none⟩,
  ⟨some 133, .move (.tmp 4), 125, none⟩,
  ⟨some 134, .call ⟨.value (.func 114), #[(.tmp 129), (.tmp 130), (.tmp 131), (.tmp 132), (.tmp 133)], #[22, 3, 3, 3, 125]⟩, 0, none⟩] [0, 2, 3, 4, 10, 11, 16]) (sg c114S7)))
  (.seq (.ops [
  ⟨some 137, .move (.tmp 19), 3, none⟩,
  ⟨some 138, .move (.tmp 20), 3, none⟩,
  ⟨some 139, .binOp .geq 3 (.tmp 137) (.tmp 138) 3, 4, none⟩,
  ⟨some 10, .assign (.tmp 139), 4, none⟩] [0, 1, 2, 3, 4, 10, 11, 16])
  (.seq (.ops [
  ⟨some 140, .move (.tmp 0), 22, none⟩,
  ⟨some 141, .move (.tmp 16), 3, none⟩,
  ⟨some 142, .binOp .add 3 (.tmp 141) (.const (.int .i64 1)) 3, 3, none⟩,
  ⟨some 143, .move (.tmp 2), 3, none⟩,
  ⟨some 144, .move (.tmp 3), 3, none⟩,
  ⟨some 145, .move (.tmp 4), 125, none⟩,
  ⟨some 146, .call ⟨.value (.func 114), #[(.tmp 140), (.tmp 142), (.tmp 143), (.tmp 144), (.tmp 145)], #[22, 3, 3, 3, 125]⟩, 0, none⟩] [0, 1, 3, 4, 10, 11, 16]) (sg c114S8))))))))
noncomputable def c114S10 (_ : Unit) : Cmd := (.seq (.ops [
 ⟨some 106, .move (.tmp 0), 22, none⟩,
 ⟨some 107, .move (.tmp 1), 3, none⟩,
 ⟨some 108, .move (.tmp 2), 3, none⟩,
 ⟨some 109, .move (.tmp 13), 3, none⟩,
 ⟨some 110, .move (.tmp 4), 125, none⟩,
 ⟨some 111, .call ⟨.value (.func 151), #[(.tmp 106), (.tmp 107), (.tmp 108), (.tmp 109), (.tmp 110)], #[22, 3, 3, 3, 125]⟩, 181, none⟩,
 ⟨some 105, .move (.tmp 111), 181, none⟩,
 ⟨some 112, .extract (.tmp 105) 0, 3, none⟩,
 ⟨some 113, .extract (.tmp 105) 1, 4, none⟩,
 ⟨some 16, .assign (.tmp 112), 3, none⟩,
 ⟨some 17, .assign (.tmp 113), 4, none⟩] [0, 1, 2, 3, 4, 12, 16, 17]) (sg c114S9))
noncomputable def c114S11 (_ : Unit) : Cmd := (.seq (.seq (.draw (drawOps 0 c114code) [0, 1, 2, 3, 4, 10, 11, 12, 13, 97]) (sg c114S6)) (sg c114S10))
noncomputable def c114S12 (_ : Unit) : Cmd := (.seq (.seq (.ops [
 ⟨some 68, .move (.tmp 10), 4, none⟩,
 ⟨some 69, .move (.tmp 68), 4, none⟩,
 ⟨some 70, .move (.tmp 11), 4, (some (69, true))⟩,
 ⟨some 71, .pick (.tmp 69) (.tmp 70) (.const (.bool false)), 4, none⟩,
 ⟨some 72, .move (.tmp 71), 4, none⟩,
 ⟨some 73, .move (.tmp 14), 197, (some (72, true))⟩,
 ⟨some 74, .binOp .eql 197 (.tmp 73) (.const (.int .i64 1)) 197, 4, (some (72, true))⟩,
 ⟨some 75, .pick (.tmp 72) (.tmp 74) (.const (.bool false)), 4, none⟩] [0, 1, 2, 3, 4, 10, 11, 12, 13, 75])
 (.cond (.tmp 75)
  (.seq (.ops [
  ⟨some 76, .move (.tmp 0), 22, none⟩,
  ⟨some 77, .move (.tmp 1), 3, none⟩,
  ⟨some 78, .move (.tmp 2), 3, none⟩,
  ⟨some 79, .move (.tmp 4), 125, none⟩,
  ⟨some 80, .call ⟨.value (.func 149), #[(.tmp 76), (.tmp 77), (.tmp 78), (.tmp 79)], #[22, 3, 3, 125]⟩, 4, none⟩] [0, 1, 2, 3, 4, 10, 11, 12, 13, 80]) (sg c114S4))
  (.skip [0, 1, 2, 3, 4, 10, 11, 12, 13]))) (sg c114S11))
noncomputable def c114S13 (_ : Unit) : Cmd := (.seq (.seq (.ops [
 ⟨some 55, .move (.tmp 14), 197, none⟩,
 ⟨some 56, .binOp .eql 197 (.tmp 55) (.const (.int .i64 2)) 197, 4, none⟩] [0, 1, 2, 3, 4, 10, 11, 12, 13, 14, 56])
 (.cond (.tmp 56)
  (.seq (.ops [
  ⟨some 57, .move (.tmp 0), 22, none⟩,
  ⟨some 58, .move (.tmp 1), 3, none⟩,
  ⟨some 59, .move (.tmp 2), 3, none⟩,
  ⟨some 60, .move (.tmp 4), 125, none⟩,
  ⟨some 61, .call ⟨.value (.func 148), #[(.tmp 57), (.tmp 58), (.tmp 59), (.tmp 60)], #[22, 3, 3, 125]⟩, 0, none⟩] [0, 1, 2, 3, 4, 10, 11, 12, 13]) (sg c114S3))
  (.skip [0, 1, 2, 3, 4, 10, 11, 12, 13, 14]))) (sg c114S12))
noncomputable def c114S14 (_ : Unit) : Cmd := (.seq (.ops [
 ⟨some 48, .move (.tmp 0), 22, none⟩,
 ⟨some 49, .move (.tmp 1), 3, none⟩,
 ⟨some 50, .move (.tmp 2), 3, none⟩,
 ⟨some 51, .move (.tmp 4), 125, none⟩,
 ⟨some 52, .call ⟨.value (.func 147), #[(.tmp 48), (.tmp 49), (.tmp 50), (.tmp 51)], #[22, 3, 3, 125]⟩, 198, none⟩,
 ⟨some 47, .move (.tmp 52), 198, none⟩,
 ⟨some 53, .extract (.tmp 47) 0, 3, none⟩,
 ⟨some 54, .extract (.tmp 47) 1, 197, none⟩,
 ⟨some 13, .assign (.tmp 53), 3, none⟩,
 ⟨some 14, .assign (.tmp 54), 197, none⟩] [0, 1, 2, 3, 4, 10, 11, 12, 13, 14]) (sg c114S13))
noncomputable def c114S15 (_ : Unit) : Cmd := (.seq (.seq (.ops [
 ⟨some 38, .move (.tmp 10), 4, none⟩,
 ⟨some 39, .unOp .not 4 (.tmp 38), 4, none⟩] [0, 1, 2, 3, 4, 10, 11, 12, 39])
 (.cond (.tmp 39)
  (.seq (.ops [
  ⟨some 40, .move (.tmp 0), 22, none⟩,
  ⟨some 41, .move (.tmp 1), 3, none⟩,
  ⟨some 42, .move (.tmp 2), 3, none⟩,
  ⟨some 43, .move (.tmp 4), 125, none⟩,
  ⟨some 44, .call ⟨.value (.func 146), #[(.tmp 40), (.tmp 41), (.tmp 42), (.tmp 43)], #[22, 3, 3, 125]⟩, 0, none⟩] [0, 1, 2, 3, 4, 10, 11, 12]) (sg c114S2))
  (.skip [0, 1, 2, 3, 4, 10, 11, 12]))) (sg c114S14))
noncomputable def c114S16 (_ : Unit) : Cmd := (.seq (.seq (.ops [
 ⟨some 31, .move (.tmp 3), 3, none⟩,
 ⟨some 32, .binOp .eql 3 (.tmp 31) (.const (.int .i64 0)) 3, 4, none⟩] [0, 1, 2, 3, 4, 10, 11, 12, 32])
 (.cond (.tmp 32)
  (.seq (.ops [
  ⟨some 33, .move (.tmp 0), 22, none⟩,
  ⟨some 34, .move (.tmp 1), 3, none⟩,
  ⟨some 35, .move (.tmp 2), 3, none⟩,
  ⟨some 36, .move (.tmp 4), 125, none⟩,
  ⟨some 37, .call ⟨.value (.func 145), #[(.tmp 33), (.tmp 34), (.tmp 35), (.tmp 36)], #[22, 3, 3, 125]⟩, 0, none⟩] []) (sg c114S1))
  (.skip [0, 1, 2, 3, 4, 10, 11, 12]))) (sg c114S15))
noncomputable def c114L0 (_ : Unit) : Cmd := (.block 1 (.seq (.ops [
 ⟨some 21, .move (.tmp 2), 3, none⟩,
 ⟨some 22, .move (.tmp 1), 3, none⟩,
 ⟨some 23, .binOp .sub 3 (.tmp 21) (.tmp 22) 3, 3, none⟩,
 ⟨some 12, .assign (.tmp 23), 3, none⟩] [0, 1, 2, 3, 4, 10, 11, 12])
 (.seq (.seq (.ops [
 ⟨some 24, .move (.tmp 12), 3, none⟩,
 ⟨some 25, .binOp .leq 3 (.tmp 24) (.const (.int .i64 12)) 3, 4, none⟩] [0, 1, 2, 3, 4, 10, 11, 12, 25])
 (.cond (.tmp 25)
  (.seq (.ops [
  ⟨some 26, .move (.tmp 0), 22, none⟩,
  ⟨some 27, .move (.tmp 1), 3, none⟩,
  ⟨some 28, .move (.tmp 2), 3, none⟩,
  ⟨some 29, .move (.tmp 4), 125, none⟩,
  ⟨some 30, .call ⟨.value (.func 144), #[(.tmp 26), (.tmp 27), (.tmp 28), (.tmp 29)], #[22, 3, 3, 125]⟩, 0, none⟩] []) (sg c114S0))
  (.skip [0, 1, 2, 3, 4, 10, 11, 12]))) (sg c114S16))))
noncomputable def c114 : Cmd := (.seq (.ops [
 ⟨some 10, .assign (.const (.bool true)), 4, none⟩] [0, 1, 2, 3, 4, 10])
 (.seq (.ops [
 ⟨some 11, .assign (.const (.bool true)), 4, none⟩] [0, 1, 2, 3, 4, 10, 11])
 (.block 0 (.loop (sg c114L0)))))
set_option maxRecDepth 100000 in
theorem ent114 (a0 a1 a2 a3 a4 : Value) (w : World) (K : Value → World → Prop) (h : W Tryz.prog c114 [(0, a0), (1, a1), (2, a2), (3, a3), (4, a4)] w (finQ Tryz.prog [] K)) : Ret Tryz.prog 114 [a0, a1, a2, a3, a4] w K :=
  Ret_of_W (code := c114code) Tryz.func114 (by kernel_rfl) (by kernel_rfl) (of_decide_eq_true (by kernel_rfl)) h
@[go_sem] theorem go114 : goFunc Tryz.prog 114 = true := by kernel_rfl
noncomputable def c116code : Code := match Tryz.f116.body with | some c => c | none => .skip
noncomputable def c116 : Cmd := (.seq (.ops [
 ⟨some 2, .assign (.const (.bool false)), 4, none⟩] [0])
 (.seq (.ops [
 ⟨some 3, .move (.tmp 0), 3, none⟩,
 ⟨some 4, .move (.tmp 0), 3, none⟩,
 ⟨some 5, .binOp .neq 3 (.tmp 3) (.tmp 4) 3, 4, none⟩,
 ⟨some 2, .assign (.tmp 5), 4, none⟩] [2])
 .ret))
set_option maxRecDepth 100000 in
theorem ent116 (a0 : Value) (w : World) (K : Value → World → Prop) (h : W Tryz.prog c116 [(0, a0)] w (finQ Tryz.prog [.tmp 2] K)) : Ret Tryz.prog 116 [a0] w K :=
  Ret_of_W (code := c116code) Tryz.func116 (by kernel_rfl) (by kernel_rfl) (of_decide_eq_true (by kernel_rfl)) h
@[go_sem] theorem go116 : goFunc Tryz.prog 116 = true := by kernel_rfl
noncomputable def c122code : Code := match Tryz.f122.body with | some c => c | none => .skip
noncomputable def c122S0 (_ : Unit) : Cmd := (.cond (.tmp 9)
  (.ops [
  ⟨some 16, .move (.tmp 3), 9, none⟩,
  ⟨some 17, .fieldAddr 56 (.tmp 1) 5, 0, none⟩,
  ⟨some 18, .load 3 (.tmp 17), 3, none⟩,
  ⟨some 19, .call ⟨.value (.func 38), #[(.tmp 18)], #[3]⟩, 9, none⟩,
  ⟨some 20, .binOp .add 9 (.tmp 16) (.tmp 19) 9, 9, none⟩,
  ⟨some 3, .assign (.tmp 20), 9, none⟩] [1, 3])
  (.seq (.ops [
  ⟨some 22, .binOp .eql 3 (.tmp 8) (.const (.int .i64 3)) 3, 4, none⟩,
  ⟨some 21, .assign (.tmp 22), 4, none⟩] [1, 3, 21])
  (.cond (.tmp 21)
   (.draw (drawOps 0 c122code) [1, 3])
   (.skip [1, 3]))))
noncomputable def c122S1 (_ : Unit) : Cmd := (.cond (.tmp 39)
  (.ops [
  ⟨some 47, .move (.tmp 3), 9, none⟩,
  ⟨some 48, .fieldAddr 56 (.tmp 1) 8, 0, none⟩,
  ⟨some 49, .load 3 (.tmp 48), 3, none⟩,
  ⟨some 50, .call ⟨.value (.func 38), #[(.tmp 49)], #[3]⟩, 9, none⟩,
  ⟨some 51, .binOp .add 9 (.const (.string (ofL [61]))) (.tmp 50) 9, 9, none⟩,
  ⟨some 52, .binOp .add 9 (.tmp 47) (.tmp 51) 9, 9, none⟩,
  ⟨some 3, .assign (.tmp 52), 9, none⟩] [3])
  (.skip [3]))
noncomputable def c122S2 (_ : Unit) : Cmd := (.seq (.ops [
 ⟨some 53, .move (.tmp 3), 9, none⟩,
 ⟨some 2, .assign (.tmp 53), 9, none⟩] [2])
 .ret)
noncomputable def c122S3 (_ : Unit) : Cmd := (.seq (.seq (.ops [
 ⟨some 37, .fieldAddr 56 (.tmp 1) 4, 0, none⟩,
 ⟨some 38, .load 3 (.tmp 37), 3, none⟩] [1, 3, 38])
 (.block 1 (.seq (.seq (.ops [
 ⟨some 40, .binOp .eql 3 (.tmp 38) (.const (.int .i64 1)) 3, 4, none⟩,
 ⟨some 39, .assign (.tmp 40), 4, none⟩] [1, 3, 38, 39])
 (.cond (.tmp 39)
  (.skip [1, 3, 39])
  (.seq (.ops [
  ⟨some 41, .binOp .eql 3 (.tmp 38) (.const (.int .i64 3)) 3, 4, none⟩,
  ⟨some 39, .assign (.tmp 41), 4, none⟩] [1, 3, 38, 39])
  (.cond (.tmp 39)
   (.skip [1, 3, 39])
   (.seq (.ops [
   ⟨some 42, .binOp .eql 3 (.tmp 38) (.const (.int .i64 7)) 3, 4, none⟩,
   ⟨some 39, .assign (.tmp 42), 4, none⟩] [1, 3, 38, 39])
   (.cond (.tmp 39)
    (.skip [1, 3, 39])
    (.seq (.ops [
    ⟨some 43, .binOp .eql 3 (.tmp 38) (.const (.int .i64 9)) 3, 4, none⟩,
    ⟨some 39, .assign (.tmp 43), 4, none⟩] [1, 3, 38, 39])
    (.cond (.tmp 39)
     (.skip [1, 3, 39])
     (.seq (.ops [
     ⟨some 44, .binOp .eql 3 (.tmp 38) (.const (.int .i64 10)) 3, 4, none⟩,
     ⟨some 39, .assign (.tmp 44), 4, none⟩] [1, 3, 38, 39])
     (.cond (.tmp 39)
      (.skip [1, 3, 39])
      (.seq (.ops [
      ⟨some 45, .binOp .eql 3 (.tmp 38) (.const (.int .i64 11)) 3, 4, none⟩,
      ⟨some 39, .assign (.tmp 45), 4, none⟩] [1, 3, 38, 39])
      (.cond (.tmp 39)
       (.skip [1, 3, 39])
       (.ops [
       ⟨some 46, .binOp .eql 3 (.tmp 38) (.const (.int .i64 12)) 3, 4, none⟩,
       ⟨some 39, .assign (.tmp 46), 4, none⟩] [1, 3, 39]))))))))))))) (sg c122S1)))) (sg c122S2))
noncomputable def c122S4 (_ : Unit) : Cmd := (.seq (.seq (.ops [
 ⟨some 33, .fieldAddr 56 (.tmp 1) 7, 0, none⟩,
 ⟨some 34, .load 4 (.tmp 33), 4, none⟩,
 ⟨some 35, .unOp .not 4 (.tmp 34), 4, none⟩] [1, 3, 35])
 (.cond (.tmp 35)
  (.seq (.ops [
  ⟨some 36, .move (.tmp 3), 9, none⟩,
  ⟨some 2, .assign (.tmp 36), 9, none⟩] [2])
  .ret)
  (.skip [1, 3]))) (sg c122S3))
noncomputable def c122S5 (_ : Unit) : Cmd := (.seq (.seq (.ops [
 ⟨some 7, .fieldAddr 56 (.tmp 1) 4, 0, none⟩,
 ⟨some 8, .load 3 (.tmp 7), 3, none⟩] [1, 3, 8])
 (.block 0 (.seq (.seq (.ops [
 ⟨some 10, .binOp .eql 3 (.tmp 8) (.const (.int .i64 2)) 3, 4, none⟩,
 ⟨some 9, .assign (.tmp 10), 4, none⟩] [1, 3, 8, 9])
 (.cond (.tmp 9)
  (.skip [1, 3, 8, 9])
  (.seq (.ops [
  ⟨some 11, .binOp .eql 3 (.tmp 8) (.const (.int .i64 6)) 3, 4, none⟩,
  ⟨some 9, .assign (.tmp 11), 4, none⟩] [1, 3, 8, 9])
  (.cond (.tmp 9)
   (.skip [1, 3, 8, 9])
   (.seq (.ops [
   ⟨some 12, .binOp .eql 3 (.tmp 8) (.const (.int .i64 8)) 3, 4, none⟩,
   ⟨some 9, .assign (.tmp 12), 4, none⟩] [1, 3, 8, 9])
   (.cond (.tmp 9)
    (.skip [1, 3, 8, 9])
    (.seq (.ops [
    ⟨some 13, .binOp .eql 3 (.tmp 8) (.const (.int .i64 10)) 3, 4, none⟩,
    ⟨some 9, .assign (.tmp 13), 4, none⟩] [1, 3, 8, 9])
    (.cond (.tmp 9)
     (.skip [1, 3, 8, 9])
     (.seq (.ops [
     ⟨some 14, .binOp .eql 3 (.tmp 8) (.const (.int .i64 11)) 3, 4, none⟩,
     ⟨some 9, .assign (.tmp 14), 4, none⟩] [1, 3, 8, 9])
     (.cond (.tmp 9)
      (.skip [1, 3, 8, 9])
      (.ops [
      ⟨some 15, .binOp .eql 3 (.tmp 8) (.const (.int .i64 12)) 3, 4, none⟩,
      ⟨some 9, .assign (.tmp 15), 4, none⟩] [1, 3, 8, 9]))))))))))) (sg c122S0)))) (sg c122S4))
noncomputable def c122 : Cmd := (.seq (.ops [
 ⟨some 1, .box 56 (.tmp 0), 0, none⟩,
 ⟨some 2, .assign (.const (.string (ofL []))), 9, none⟩] [1])
 (.seq (.ops [
 ⟨some 4, .fieldAddr 56 (.tmp 1) 4, 0, none⟩,
 ⟨some 5, .load 3 (.tmp 4), 3, none⟩,
 ⟨some 6, .call ⟨.value (.func 158), #[(.tmp 5)], #[3]⟩, 9, none⟩,
 ⟨some 3, .assign (.tmp 6), 9, none⟩] [1, 3]) (sg c122S5)))
noncomputable def c122D0 : List (Nat × Ins) := [
 (0, ⟨some 23, .move (.tmp 3), 9, none⟩),
 (0, ⟨some 24, .fieldAddr 56 (.tmp 1) 5, 0, none⟩),
 (0, ⟨some 28, .fieldAddr 56 (.tmp 1) 6, 0, none⟩),
 (1, ⟨some 25, .load 3 (.tmp 24), 3, none⟩),
 (1, ⟨some 29, .load 3 (.tmp 28), 3, none⟩),
 (2, ⟨some 26, .call ⟨.value (.func 38), #[(.tmp 25)], #[3]⟩, 9, none⟩),
 (0, ⟨some 27, .binOp .add 9 (.tmp 26) (.const (.string (ofL [58]))) 9, 9, none⟩),
 (2, ⟨some 30, .call ⟨.value (.func 38), #[(.tmp 29)], #[3]⟩, 9, none⟩),
 (0, ⟨some 31, .binOp .add 9 (.tmp 27) (.tmp 30) 9, 9, none⟩),
 (0, ⟨some 32, .binOp .add 9 (.tmp 23) (.tmp 31) 9, 9, none⟩),
 (0, ⟨some 3, .assign (.tmp 32), 9, none⟩)]
theorem c122draw0 {L : List Nat} {ρ : Env} {w : World} {Q : Post} (S : World → Prop) (hS : S w.drew) (h : DG Tryz.prog S c122D0 L ρ w.drew Q) : drawW Tryz.prog (drawOps 0 c122code) L ρ w Q :=
  drawW_held [2, 6] [(0, 0), (0, 1), (0, 5), (1, 2), (1, 6), (2, 3), (0, 4), (2, 7), (0, 8), (0, 9), (0, 10)] c122D0 (by kernel_rfl) (by kernel_rfl) (by kernel_rfl) S hS h
set_option maxRecDepth 100000 in
theorem ent122 (a0 : Value) (w : World) (K : Value → World → Prop) (h : W Tryz.prog c122 [(0, a0)] w (finQ Tryz.prog [.tmp 2] K)) : Ret Tryz.prog 122 [a0] w K :=
  Ret_of_W (code := c122code) Tryz.func122 (by kernel_rfl) (by kernel_rfl) (of_decide_eq_true (by kernel_rfl)) h
@[go_sem] theorem go122 : goFunc Tryz.prog 122 = true := by kernel_rfl
noncomputable def c123code : Code := match Tryz.f123.body with | some c => c | none => .skip
noncomputable def c123S0 (_ : Unit) : Cmd := .ret
noncomputable def c123 : Cmd := (.seq (.ops [
 ⟨some 2, .box 56 (.tmp 0), 0, none⟩,
 ⟨some 3, .assign (.const (.bool false)), 4, none⟩] [1, 2])
 (.seq (.ops [
 ⟨some 4, .load 56 (.tmp 2), 56, none⟩,
 ⟨some 5, .load 56 (.tmp 1), 56, none⟩,
 ⟨some 6, .call ⟨.value (.func 124), #[(.tmp 4), (.tmp 5)], #[56, 56]⟩, 4, none⟩,
 ⟨some 7, .unOp .not 4 (.tmp 6), 4, none⟩,
 ⟨some 3, .assign (.tmp 7), 4, none⟩] [3]) (sg c123S0)))
set_option maxRecDepth 100000 in
theorem ent123 (a0 a1 : Value) (w : World) (K : Value → World → Prop) (h : W Tryz.prog c123 [(0, a0), (1, a1)] w (finQ Tryz.prog [.tmp 3] K)) : Ret Tryz.prog 123 [a0, a1] w K :=
  Ret_of_W (code := c123code) Tryz.func123 (by kernel_rfl) (by kernel_rfl) (of_decide_eq_true (by kernel_rfl)) h
@[go_sem] theorem go123 : goFunc Tryz.prog 123 = true := by kernel_rfl
noncomputable def c124code : Code := match Tryz.f124.body with | some c => c | none => .skip
noncomputable def c124 : Cmd := (.seq (.ops [
 ⟨some 2, .box 56 (.tmp 0), 0, none⟩,
 ⟨some 3, .box 56 (.tmp 1), 0, none⟩,
 ⟨some 4, .assign (.const (.bool false)), 4, none⟩] [2, 3])
 (.seq (.ops [
 ⟨some 5, .fieldAddr 56 (.tmp 2) 7, 0, none⟩,
 ⟨some 6, .load 4 (.tmp 5), 4, none⟩,
 ⟨some 7, .move (.tmp 6), 4, none⟩,
 ⟨some 8, .fieldAddr 56 (.tmp 2) 10, 0, (some (7, true))⟩,
 ⟨some 9, .load 3 (.tmp 8), 3, (some (7, true))⟩,
 ⟨some 10, .fieldAddr 56 (.tmp 3) 9, 0, (some (7, true))⟩,
 ⟨some 11, .load 3 (.tmp 10), 3, (some (7, true))⟩,
 ⟨some 12, .binOp .lss 3 (.tmp 9) (.tmp 11) 3, 4, (some (7, true))⟩,
 ⟨some 13, .pick (.tmp 7) (.tmp 12) (.const (.bool false)), 4, none⟩,
 ⟨some 4, .assign (.tmp 13), 4, none⟩] [4])
 .ret))
set_option maxRecDepth 100000 in
theorem ent124 (a0 a1 : Value) (w : World) (K : Value → World → Prop) (h : W Tryz.prog c124 [(0, a0), (1, a1)] w (finQ Tryz.prog [.tmp 4] K)) : Ret Tryz.prog 124 [a0, a1] w K :=
  Ret_of_W (code := c124code) Tryz.func124 (by kernel_rfl) (by kernel_rfl) (of_decide_eq_true (by kernel_rfl)) h
@[go_sem] theorem go124 : goFunc Tryz.prog 124 = true := by kernel_rfl
noncomputable def c125code : Code := match Tryz.f125.body with | some c => c | none => .skip
noncomputable def c125S0 (_ : Unit) : Cmd := (.seq (.ops [
 ⟨some 8, .assign (.const (.string (ofL [45]))), 9, none⟩] [8])
 .ret)
noncomputable def c125S1 (_ : Unit) : Cmd := (.seq (.seq (.ops [
 ⟨some 34, .move (.tmp 1), 3, none⟩,
 ⟨some 35, .move (.tmp 2), 3, none⟩,
 ⟨some 36, .binOp .sub 3 (.tmp 34) (.tmp 35) 3, 3, none⟩,
 ⟨some 37, .binOp .sub 3 (.tmp 36) (.const (.int .i64 1)) 3, 3, none⟩,
 ⟨some 38, .move (.tmp 9), 9, none⟩,
 ⟨some 39, .call ⟨.builtin .len, #[(.tmp 38)], #[9]⟩, 3, none⟩,
 ⟨some 40, .binOp .lss 3 (.tmp 37) (.tmp 39) 3, 4, none⟩] [1, 2, 9, 40])
 (.cond (.tmp 40)
  (.seq (.ops [
  ⟨some 41, .move (.tmp 9), 9, none⟩,
  ⟨some 42, .move (.tmp 1), 3, none⟩,
  ⟨some 43, .move (.tmp 2), 3, none⟩,
  ⟨some 44, .binOp .sub 3 (.tmp 42) (.tmp 43) 3, 3, none⟩,
  ⟨some 45, .binOp .sub 3 (.tmp 44) (.const (.int .i64 1)) 3, 3, none⟩,
  ⟨some 46, .move (.tmp 1), 3, none⟩,
  ⟨some 47, .move (.tmp 2), 3, none⟩,
  ⟨some 48, .binOp .sub 3 (.tmp 46) (.tmp 47) 3, 3, none⟩,
  ⟨some 49, .slice 9 (.tmp 41) (some (.tmp 45)) (some (.tmp 48)) none, 9, none⟩,
  ⟨some 8, .assign (.tmp 49), 9, none⟩] [8])
  .ret)
  (.skip []))) (sg c125S0))
noncomputable def c125S2 (_ : Unit) : Cmd := (.seq (.ops [
 ⟨some 32, .load 56 (.tmp 4), 56, none⟩,
 ⟨some 33, .call ⟨.value (.func 159), #[(.tmp 32)], #[56]⟩, 9, none⟩,
 ⟨some 9, .assign (.tmp 33), 9, none⟩] [1, 2, 9]) (sg c125S1))
noncomputable def c125S3 (_ : Unit) : Cmd := (.seq (.seq (.ops [
 ⟨some 29, .move (.tmp 1), 3, none⟩,
 ⟨some 30, .move (.tmp 2), 3, none⟩,
 ⟨some 31, .binOp .eql 3 (.tmp 29) (.tmp 30) 3, 4, none⟩] [1, 2, 4, 31])
 (.cond (.tmp 31)
  (.seq (.ops [
  ⟨some 8, .assign (.const (.string (ofL [91]))), 9, none⟩] [8])
  .ret)
  (.skip [1, 2, 4]))) (sg c125S2))
noncomputable def c125S4 (_ : Unit) : Cmd := (.seq (.seq (.ops [
 ⟨some 26, .move (.tmp 1), 3, none⟩,
 ⟨some 27, .move (.tmp 3), 3, none⟩,
 ⟨some 28, .binOp .eql 3 (.tmp 26) (.tmp 27) 3, 4, none⟩] [1, 2, 4, 28])
 (.cond (.tmp 28)
  (.seq (.ops [
  ⟨some 8, .assign (.const (.string (ofL [93]))), 9, none⟩] [8])
  .ret)
  (.skip [1, 2, 4]))) (sg c125S3))
noncomputable def c125S5 (_ : Unit) : Cmd := (.seq (.seq (.ops [
 ⟨some 18, .move (.tmp 1), 3, none⟩,
 ⟨some 19, .move (.tmp 3), 3, none⟩,
 ⟨some 20, .binOp .eql 3 (.tmp 18) (.tmp 19) 3, 4, none⟩,
 ⟨some 21, .move (.tmp 20), 4, none⟩,
 ⟨some 22, .move (.tmp 2), 3, (some (21, true))⟩,
 ⟨some 23, .move (.tmp 3), 3, (some (21, true))⟩,
 ⟨some 24, .binOp .eql 3 (.tmp 22) (.tmp 23) 3, 4, (some (21, true))⟩,
 ⟨some 25, .pick (.tmp 21) (.tmp 24) (.const (.bool false)), 4, none⟩] [1, 2, 3, 4, 25])
 (.cond (.tmp 25)
  (.seq (.ops [
  ⟨some 8, .assign (.const (.string (ofL [124]))), 9, none⟩] [8])
  .ret)
  (.skip [1, 2, 3, 4]))) (sg c125S4))
noncomputable def c125 : Cmd := (.seq (.ops [
 ⟨some 4, .box 56 (.tmp 0), 0, none⟩,
 ⟨some 8, .assign (.const (.string (ofL []))), 9, none⟩] [1, 2, 3, 4])
 (.seq (.seq (.ops [
 ⟨some 10, .move (.tmp 1), 3, none⟩,
 ⟨some 11, .move (.tmp 3), 3, none⟩,
 ⟨some 12, .binOp .eql 3 (.tmp 10) (.tmp 11) 3, 4, none⟩,
 ⟨some 13, .move (.tmp 12), 4, none⟩,
 ⟨some 14, .fieldAddr 56 (.tmp 4) 7, 0, (some (13, true))⟩,
 ⟨some 15, .load 4 (.tmp 14), 4, (some (13, true))⟩,
 ⟨some 16, .unOp .not 4 (.tmp 15), 4, (some (13, true))⟩,
 ⟨some 17, .pick (.tmp 13) (.tmp 16) (.const (.bool false)), 4, none⟩] [1, 2, 3, 4, 17])
 (.cond (.tmp 17)
  (.seq (.ops [
  ⟨some 8, .assign (.const (.string (ofL [62]))), 9, none⟩] [8])
  .ret)
  (.skip [1, 2, 3, 4]))) (sg c125S5)))
set_option maxRecDepth 100000 in
theorem ent125 (a0 a1 a2 a3 : Value) (w : World) (K : Value → World → Prop) (h : W Tryz.prog c125 [(0, a0), (1, a1), (2, a2), (3, a3)] w (finQ Tryz.prog [.tmp 8] K)) : Ret Tryz.prog 125 [a0, a1, a2, a3] w K :=
  Ret_of_W (code := c125code) Tryz.func125 (by kernel_rfl) (by kernel_rfl) (of_decide_eq_true (by kernel_rfl)) h
@[go_sem] theorem go125 : goFunc Tryz.prog 125 = true := by kernel_rfl
@[go_sem] theorem go126 : goFunc Tryz.prog 126 = true := by kernel_rfl
@[go_sem] theorem go127 : goFunc Tryz.prog 127 = true := by kernel_rfl
@[go_sem] theorem go128 : goFunc Tryz.prog 128 = true := by kernel_rfl
@[go_sem] theorem go129 : goFunc Tryz.prog 129 = true := by kernel_rfl
@[go_sem] theorem go130 : goFunc Tryz.prog 130 = true := by kernel_rfl
@[go_sem] theorem go131 : goFunc Tryz.prog 131 = true := by kernel_rfl
@[go_sem] theorem go132 : goFunc Tryz.prog 132 = true := by kernel_rfl
@[go_sem] theorem go133 : goFunc Tryz.prog 133 = true := by kernel_rfl
@[go_sem] theorem go134 : goFunc Tryz.prog 134 = true := by kernel_rfl
noncomputable def c135code : Code := match Tryz.f135.body with | some c => c | none => .skip
noncomputable def c135 : Cmd := (.seq (.ops [
 ⟨some 0, .assign (.const (.slice none 0 0)), 187, none⟩] [])
 (.seq (.ops [
 ⟨some 1, .build 153 #[(0, (.const (.int .i64 1))), (1, (.const (.int .i64 1))), (2, (.const (.int .i64 0))), (3, (.const (.int .i64 2)))], 153, none⟩,
 ⟨some 2, .build 153 #[(0, (.const (.int .i64 1))), (1, (.const (.int .i64 2))), (2, (.const (.int .i64 1))), (3, (.const (.int .i64 0)))], 153, none⟩,
 ⟨some 3, .build 153 #[(0, (.const (.int .i64 1))), (1, (.const (.int .i64 3))), (2, (.const (.int .i64 2))), (3, (.const (.int .i64 1)))], 153, none⟩,
 ⟨some 4, .build 153 #[(0, (.const (.int .i64 2))), (1, (.const (.int .i64 1))), (2, (.const (.int .i64 0))), (3, (.const (.int .i64 3)))], 153, none⟩,
 ⟨some 5, .build 153 #[(0, (.const (.int .i64 2))), (1, (.const (.int .i64 4))), (2, (.const (.int .i64 0))), (3, (.const (.int .i64 0)))], 153, none⟩,
 ⟨some 6, .build 153 #[(0, (.const (.int .i64 2))), (1, (.const (.int .i64 5))), (2, (.const (.int .i64 0))), (3, (.const (.int .i64 0)))], 153, none⟩,
 ⟨some 7, .build 153 #[(0, (.const (.int .i64 3))), (1, (.const (.int .i64 6))), (2, (.const (.int .i64 1))), (3, (.const (.int .i64 0)))], 153, none⟩,
 ⟨some 8, .build 153 #[(0, (.const (.int .i64 3))), (1, (.const (.int .i64 7))), (2, (.const (.int .i64 0))), (3, (.const (.int .i64 4)))], 153, none⟩,
 ⟨some 9, .build 153 #[(0, (.const (.int .i64 4))), (1, (.const (.int .i64 8))), (2, (.const (.int .i64 1))), (3, (.const (.int .i64 0)))], 153, none⟩,
 ⟨some 10, .build 153 #[(0, (.const (.int .i64 4))), (1, (.const (.int .i64 9))), (2, (.const (.int .i64 0))), (3, (.const (.int .i64 4)))], 153, none⟩,
 ⟨some 11, .build 153 #[(0, (.const (.int .i64 5))), (1, (.const (.int .i64 10))), (2, (.const (.int .i64 1))), (3, (.const (.int .i64 1)))], 153, none⟩,
 ⟨some 12, .build 153 #[(0, (.const (.int .i64 5))), (1, (.const (.int .i64 11))), (2, (.const (.int .i64 1))), (3, (.const (.int .i64 1)))], 153, none⟩,
 ⟨some 13, .build 153 #[(0, (.const (.int .i64 5))), (1, (.const (.int .i64 12))), (2, (.const (.int .i64 1))), (3, (.const (.int .i64 1)))], 153, none⟩,
 ⟨some 14, .build 153 #[(0, (.const (.int .i64 6))), (1, (.const (.int .i64 13))), (2, (.const (.int .i64 0))), (3, (.const (.int .i64 0)))], 153, none⟩,
 ⟨some 15, .build 153 #[(0, (.const (.int .i64 6))), (1, (.const (.int .i64 14))), (2, (.const (.int .i64 0))), (3, (.const (.int .i64 0)))], 153, none⟩,
 ⟨some 16, .buildSlice 187 15 #[(0, (.tmp 1)), (1, (.tmp 2)), (2, (.tmp 3)), (3, (.tmp 4)), (4, (.tmp 5)), (5, (.tmp 6)), (6, (.tmp 7)), (7, (.tmp 8)), (8, (.tmp 9)), (9, (.tmp 10)), (10, (.tmp 11)), (11, (.tmp 12)), (12, (.tmp 13)), (13, (.tmp 14)), (14, (.tmp 15))], 187, none⟩,
 ⟨some 0, .assign (.tmp 16), 187, none⟩] [0])
 .ret))
set_option maxRecDepth 100000 in
theorem ent135 (w : World) (K : Value → World → Prop) (h : W Tryz.prog c135 [] w (finQ Tryz.prog [.tmp 0] K)) : Ret Tryz.prog 135 [] w K :=
  Ret_of_W (code := c135code) Tryz.func135 (by kernel_rfl) (by kernel_rfl) (of_decide_eq_true (by kernel_rfl)) h
@[go_sem] theorem go135 : goFunc Tryz.prog 135 = true := by kernel_rfl
@[go_sem] theorem go136 : goFunc Tryz.prog 136 = true := by kernel_rfl
@[go_sem] theorem go137 : goFunc Tryz.prog 137 = true := by kernel_rfl
@[go_sem] theorem go138 : goFunc Tryz.prog 138 = true := by kernel_rfl
@[go_sem] theorem go139 : goFunc Tryz.prog 139 = true := by kernel_rfl
@[go_sem] theorem go140 : goFunc Tryz.prog 140 = true := by kernel_rfl
@[go_sem] theorem go141 : goFunc Tryz.prog 141 = true := by kernel_rfl
noncomputable def c142code : Code := match Tryz.f142.body with | some c => c | none => .skip
noncomputable def c142A0 (_ : Unit) : Cmd := (.ops [
 ⟨some 5, .assign (.tmp 7), 3, none⟩] [2, 5])
noncomputable def c142B0 (_ : Unit) : Cmd := (.block 1 (.ops [
 ⟨some 8, .load 31 (.tmp 2), 31, none⟩,
 ⟨some 9, .move (.tmp 5), 3, none⟩,
 ⟨some 10, .buildSlice 31 1 #[(0, (.tmp 9))], 31, none⟩,
 ⟨some 11, .call ⟨.builtin .append, #[(.tmp 8), (.tmp 10)], #[31, 31]⟩, 31, none⟩,
 ⟨none, .store 31 (.tmp 2) (.tmp 11), 0, none⟩] []))
noncomputable def c142S0 (_ : Unit) : Cmd := (.seq (.ops [
 ⟨some 12, .load 31 (.tmp 2), 31, none⟩,
 ⟨some 4, .assign (.tmp 12), 31, none⟩] [4])
 .ret)
noncomputable def c142 : Cmd := (.seq (.ops [
 ⟨some 2, .box 31 (.tmp 0), 0, none⟩,
 ⟨some 4, .assign (.const (.slice none 0 0)), 31, none⟩] [1, 2, 4])
 (.seq (.seq (.ops [
 ⟨some 6, .move (.tmp 1), 120, none⟩] [2, 4, 6])
 (.block 0 (.rangeF (.tmp 6) [7] (sg c142A0) (sg c142B0) [2, 4]))) (sg c142S0)))
set_option maxRecDepth 100000 in
theorem ent142 (a0 a1 : Value) (w : World) (K : Value → World → Prop) (h : W Tryz.prog c142 [(0, a0), (1, a1)] w (finQ Tryz.prog [.tmp 4] K)) : Ret Tryz.prog 142 [a0, a1] w K :=
  Ret_of_W (code := c142code) Tryz.func142 (by kernel_rfl) (by kernel_rfl) (of_decide_eq_true (by kernel_rfl)) h
@[go_sem] theorem go142 : goFunc Tryz.prog 142 = true := by kernel_rfl
noncomputable def c144code : Code := match Tryz.f144.body with | some c => c | none => .skip
noncomputable def c144S0 (_ : Unit) : Cmd := (.cond (.tmp 34)
  (.skip [0, 1, 2, 3, 8, 9])
  (.exit 2 [0, 1, 2, 3, 8]))
noncomputable def c144S1 (_ : Unit) : Cmd := (.ops [
 ⟨some 35, .move (.tmp 9), 3, none⟩,
 ⟨some 36, .binOp .sub 3 (.tmp 35) (.const (.int .i64 1)) 3, 3, none⟩,
 ⟨some 9, .assign (.tmp 36), 3, none⟩] [0, 1, 2, 3, 8, 9])
noncomputable def c144S2 (_ : Unit) : Cmd := (.seq (.block 3 (.draw (drawOps 1 c144code) [0, 1, 2, 3, 8, 9])) (sg c144S1))
noncomputable def c144L0 (_ : Unit) : Cmd := (.seq (.seq (.draw (drawOps 0 c144code) [0, 1, 2, 3, 8, 9, 34]) (sg c144S0)) (sg c144S2))
noncomputable def c144S3 (_ : Unit) : Cmd := (.ops [
 ⟨some 15, .move (.tmp 8), 3, none⟩,
 ⟨some 16, .binOp .add 3 (.tmp 15) (.const (.int .i64 1)) 3, 3, none⟩,
 ⟨some 8, .assign (.tmp 16), 3, none⟩] [0, 1, 2, 3, 8])
noncomputable def c144S4 (_ : Unit) : Cmd := (.seq (.block 1 (.seq (.ops [
 ⟨some 17, .move (.tmp 8), 3, none⟩,
 ⟨some 9, .assign (.tmp 17), 3, none⟩] [0, 1, 2, 3, 8, 9])
 (.block 2 (.loop (sg c144L0))))) (sg c144S3))
noncomputable def c144L1 (_ : Unit) : Cmd := (.seq (.seq (.ops [
 ⟨some 12, .move (.tmp 8), 3, none⟩,
 ⟨some 13, .move (.tmp 2), 3, none⟩,
 ⟨some 14, .binOp .lss 3 (.tmp 12) (.tmp 13) 3, 4, none⟩] [0, 1, 2, 3, 8, 14])
 (.cond (.tmp 14)
  (.skip [0, 1, 2, 3, 8])
  (.exit 0 []))) (sg c144S4))
noncomputable def c144 : Cmd := (.seq (.ops [
 ⟨some 10, .move (.tmp 1), 3, none⟩,
 ⟨some 11, .binOp .add 3 (.tmp 10) (.const (.int .i64 1)) 3, 3, none⟩,
 ⟨some 8, .assign (.tmp 11), 3, none⟩] [0, 1, 2, 3, 8])
 (.block 0 (.loop (sg c144L1))))
set_option maxRecDepth 100000 in
theorem ent144 (a0 a1 a2 a3 : Value) (w : World) (K : Value → World → Prop) (h : W Tryz.prog c144 [(0, a0), (1, a1), (2, a2), (3, a3)] w (finQ Tryz.prog [] K)) : Ret Tryz.prog 144 [a0, a1, a2, a3] w K :=
  Ret_of_W (code := c144code) Tryz.func144 (by kernel_rfl) (by kernel_rfl) (of_decide_eq_true (by kernel_rfl)) h
@[go_sem] theorem go144 : goFunc Tryz.prog 144 = true := by kernel_rfl
noncomputable def c158code : Code := match Tryz.f158.body with | some c => c | none => .skip
noncomputable def c158S0 (_ : Unit) : Cmd := (.seq (.ops [
 ⟨some 13, .move (.tmp 3), 229, none⟩,
 ⟨some 14, .move (.tmp 0), 3, none⟩,
 ⟨some 15, .indexAddr 229 (.tmp 13) (.tmp 14), 0, none⟩,
 ⟨some 16, .load 9 (.tmp 15), 9, none⟩,
 ⟨some 2, .assign (.tmp 16), 9, none⟩] [2])
 .ret)
noncomputable def c158 : Cmd := (.seq (.ops [
 ⟨some 2, .assign (.const (.string (ofL []))), 9, none⟩] [0])
 (.seq (.ops [
 ⟨some 4, .buildSlice 229 15 #[(0, (.const (.string (ofL [])))), (1, (.const (.string (ofL [114, 100])))), (2, (.const (.string (ofL [119, 114])))), (3, (.const (.string (ofL [99, 97, 115])))), (4, (.const (.string (ofL [105, 110, 99])))), (5, (.const (.string (ofL [100, 101, 99])))), (6, (.const (.string (ofL [101, 110, 113])))), (7, (.const (.string (ofL [100, 101, 113])))), (8, (.const (.string (ofL [112, 115, 104])))), (9, (.const (.string (ofL [112, 111, 112])))), (10, (.const (.string (ofL [97, 100, 100])))), (11, (.const (.string (ofL [114, 101, 109])))), (12, (.const (.string (ofL [104, 97, 115])))), (13, (.const (.string (ofL [108, 99, 107])))), (14, (.const (.string (ofL [117, 108, 107]))))], 229, none⟩,
 ⟨some 3, .assign (.tmp 4), 229, none⟩] [0, 3])
 (.seq (.seq (.ops [
 ⟨some 5, .move (.tmp 0), 3, none⟩,
 ⟨some 6, .binOp .lss 3 (.tmp 5) (.const (.int .i64 0)) 3, 4, none⟩,
 ⟨some 7, .move (.tmp 6), 4, none⟩,
 ⟨some 8, .move (.tmp 0), 3, (some (7, false))⟩,
 ⟨some 9, .move (.tmp 3), 229, (some (7, false))⟩,
 ⟨some 10, .call ⟨.builtin .len, #[(.tmp 9)], #[229]⟩, 3, (some (7, false))⟩,
 ⟨some 11, .binOp .geq 3 (.tmp 8) (.tmp 10) 3, 4, (some (7, false))⟩,
 ⟨some 12, .pick (.tmp 7) (.const (.bool true)) (.tmp 11), 4, none⟩] [0, 3, 12])
 (.cond (.tmp 12)
  (.seq (.ops [
  ⟨some 2, .assign (.const (.string (ofL []))), 9, none⟩] [2])
  .ret)
  (.skip [0, 3]))) (sg c158S0))))
set_option maxRecDepth 100000 in
theorem ent158 (a0 : Value) (w : World) (K : Value → World → Prop) (h : W Tryz.prog c158 [(0, a0)] w (finQ Tryz.prog [.tmp 2] K)) : Ret Tryz.prog 158 [a0] w K :=
  Ret_of_W (code := c158code) Tryz.func158 (by kernel_rfl) (by kernel_rfl) (of_decide_eq_true (by kernel_rfl)) h
@[go_sem] theorem go158 : goFunc Tryz.prog 158 = true := by kernel_rfl
noncomputable def c159code : Code := match Tryz.f159.body with | some c => c | none => .skip
noncomputable def c159S0 (_ : Unit) : Cmd := (.seq (.ops [
 ⟨some 89, .move (.tmp 5), 9, none⟩,
 ⟨some 2, .assign (.tmp 89), 9, none⟩] [2])
 .ret)
noncomputable def c159S1 (_ : Unit) : Cmd := (.seq (.seq (.ops [
 ⟨some 57, .fieldAddr 56 (.tmp 1) 7, 0, none⟩,
 ⟨some 58, .load 4 (.tmp 57), 4, none⟩,
 ⟨some 59, .move (.tmp 58), 4, none⟩,
 ⟨some 60, .move (.tmp 4), 3, (some (59, true))⟩,
 ⟨some 61, .binOp .eql 3 (.tmp 60) (.const (.int .i64 1)) 3, 4, (some (59, true))⟩,
 ⟨some 62, .move (.tmp 61), 4, (some (59, true))⟩,
 ⟨some 63, .move (.tmp 4), 3, (some (62, false))⟩,
 ⟨some 64, .binOp .eql 3 (.tmp 63) (.const (.int .i64 3)) 3, 4, (some (62, false))⟩,
 ⟨some 65, .pick (.tmp 62) (.const (.bool true)) (.tmp 64), 4, (some (59, true))⟩,
 ⟨some 66, .move (.tmp 65), 4, (some (59, true))⟩,
 ⟨some 67, .move (.tmp 4), 3, (some (66, false))⟩,
 ⟨some 68, .binOp .eql 3 (.tmp 67) (.const (.int .i64 7)) 3, 4, (some (66, false))⟩,
 ⟨some 69, .pick (.tmp 66) (.const (.bool true)) (.tmp 68), 4, (some (59, true))⟩,
 ⟨some 70, .move (.tmp 69), 4, (some (59, true))⟩,
 ⟨some 71, .move (.tmp 4), 3, (some (70, false))⟩,
 ⟨some 72, .binOp .eql 3 (.tmp 71) (.const (.int .i64 9)) 3, 4, (some (70, false))⟩,
 ⟨some 73, .pick (.tmp 70) (.const (.bool true)) (.tmp 72), 4, (some (59, true))⟩,
 ⟨some 74, .move (.tmp 73), 4, (some (59, true))⟩,
 ⟨some 75, .move (.tmp 4), 3, (some (74, false))⟩,
 ⟨some 76, .binOp .geq 3 (.tmp 75) (.const (.int .i64 10)) 3, 4, (some (74, false))⟩,
 ⟨some 77, .move (.tmp 76), 4, (some (74, false))⟩,
 ⟨some 78, .move (.tmp 4), 3, (some (77, true))⟩,
 ⟨some 79, .binOp .leq 3 (.tmp 78) (.const (.int .i64 12)) 3, 4, (some (77, true))⟩,
 ⟨some 80, .pick (.tmp 77) (.tmp 79) (.const (.bool false)), 4, (some (74, false))⟩,
 ⟨some 81, .pick (.tmp 74) (.const (.bool true)) (.tmp 80), 4, (some (59, true))⟩,
 ⟨some 82, .pick (.tmp 59) (.tmp 81) (.const (.bool false)), 4, none⟩] [1, 5, 82])
 (.cond (.tmp 82)
  (.ops [
  ⟨some 83, .move (.tmp 5), 9, none⟩,
  ⟨some 84, .binOp .add 9 (.tmp 83) (.const (.string (ofL [61]))) 9, 9, none⟩,
  ⟨some 85, .fieldAddr 56 (.tmp 1) 8, 0, none⟩,
  ⟨some 86, .load 3 (.tmp 85), 3, none⟩,
  ⟨some 87, .call ⟨.value (.func 45), #[(.tmp 86)], #[3]⟩, 9, none⟩,
  ⟨some 88, .binOp .add 9 (.tmp 84) (.tmp 87) 9, 9, none⟩,
  ⟨some 5, .assign (.tmp 88), 9, none⟩] [5])
  (.skip [5]))) (sg c159S0))
noncomputable def c159S2 (_ : Unit) : Cmd := (.seq (.seq (.ops [
 ⟨some 34, .move (.tmp 4), 3, none⟩,
 ⟨some 35, .binOp .eql 3 (.tmp 34) (.const (.int .i64 2)) 3, 4, none⟩,
 ⟨some 36, .move (.tmp 35), 4, none⟩,
 ⟨some 37, .move (.tmp 4), 3, (some (36, false))⟩,
 ⟨some 38, .binOp .eql 3 (.tmp 37) (.const (.int .i64 6)) 3, 4, (some (36, false))⟩,
 ⟨some 39, .pick (.tmp 36) (.const (.bool true)) (.tmp 38), 4, none⟩,
 ⟨some 40, .move (.tmp 39), 4, none⟩,
 ⟨some 41, .move (.tmp 4), 3, (some (40, false))⟩,
 ⟨some 42, .binOp .eql 3 (.tmp 41) (.const (.int .i64 8)) 3, 4, (some (40, false))⟩,
 ⟨some 43, .pick (.tmp 40) (.const (.bool true)) (.tmp 42), 4, none⟩,
 ⟨some 44, .move (.tmp 43), 4, none⟩,
 ⟨some 45, .move (.tmp 4), 3, (some (44, false))⟩,
 ⟨some 46, .binOp .geq 3 (.tmp 45) (.const (.int .i64 10)) 3, 4, (some (44, false))⟩,
 ⟨some 47, .move (.tmp 46), 4, (some (44, false))⟩,
 ⟨some 48, .move (.tmp 4), 3, (some (47, true))⟩,
 ⟨some 49, .binOp .leq 3 (.tmp 48) (.const (.int .i64 12)) 3, 4, (some (47, true))⟩,
 ⟨some 50, .pick (.tmp 47) (.tmp 49) (.const (.bool false)), 4, (some (44, false))⟩,
 ⟨some 51, .pick (.tmp 44) (.const (.bool true)) (.tmp 50), 4, none⟩] [1, 4, 5, 51])
 (.cond (.tmp 51)
  (.ops [
  ⟨some 52, .move (.tmp 5), 9, none⟩,
  ⟨some 53, .fieldAddr 56 (.tmp 1) 5, 0, none⟩,
  ⟨some 54, .load 3 (.tmp 53), 3, none⟩,
  ⟨some 55, .call ⟨.value (.func 45), #[(.tmp 54)], #[3]⟩, 9, none⟩,
  ⟨some 56, .binOp .add 9 (.tmp 52) (.tmp 55) 9, 9, none⟩,
  ⟨some 5, .assign (.tmp 56), 9, none⟩] [1, 4, 5])
  (.skip [1, 4, 5]))) (sg c159S1))
noncomputable def c159S3 (_ : Unit) : Cmd := (.seq (.ops [
 ⟨some 15, .fieldAddr 56 (.tmp 1) 4, 0, none⟩,
 ⟨some 16, .load 3 (.tmp 15), 3, none⟩,
 ⟨some 4, .assign (.tmp 16), 3, none⟩] [1, 3, 4])
 (.seq (.ops [
 ⟨some 17, .move (.tmp 3), 229, none⟩,
 ⟨some 18, .move (.tmp 4), 3, none⟩,
 ⟨some 19, .binOp .sub 3 (.tmp 18) (.const (.int .i64 1)) 3, 3, none⟩,
 ⟨some 20, .indexAddr 229 (.tmp 17) (.tmp 19), 0, none⟩,
 ⟨some 21, .load 9 (.tmp 20), 9, none⟩,
 ⟨some 5, .assign (.tmp 21), 9, none⟩] [1, 4, 5])
 (.seq (.seq (.ops [
 ⟨some 22, .move (.tmp 4), 3, none⟩,
 ⟨some 23, .binOp .eql 3 (.tmp 22) (.const (.int .i64 3)) 3, 4, none⟩] [1, 4, 5, 23])
 (.cond (.tmp 23)
  (.draw (drawOps 0 c159code) [1, 4, 5])
  (.skip [1, 4, 5]))) (sg c159S2))))
noncomputable def c159 : Cmd := (.seq (.ops [
 ⟨some 1, .box 56 (.tmp 0), 0, none⟩,
 ⟨some 2, .assign (.const (.string (ofL []))), 9, none⟩] [1])
 (.seq (.ops [
 ⟨some 6, .buildSlice 229 14 #[(0, (.const (.string (ofL [114, 100])))), (1, (.const (.string (ofL [119, 114])))), (2, (.const (.string (ofL [99, 97, 115])))), (3, (.const (.string (ofL [105, 110, 99])))), (4, (.const (.string (ofL [100, 101, 99])))), (5, (.const (.string (ofL [101, 110, 113])))), (6, (.const (.string (ofL [100, 101, 113])))), (7, (.const (.string (ofL [112, 115, 104])))), (8, (.const (.string (ofL [112, 111, 112])))), (9, (.const (.string (ofL [97, 100, 100])))), (10, (.const (.string (ofL [114, 101, 109])))), (11, (.const (.string (ofL [104, 97, 115])))), (12, (.const (.string (ofL [108, 99, 107])))), (13, (.const (.string (ofL [117, 108, 107]))))], 229, none⟩,
 ⟨some 3, .assign (.tmp 6), 229, none⟩] [1, 3])
 (.seq (.seq (.ops [
 ⟨some 7, .fieldAddr 56 (.tmp 1) 4, 0, none⟩,
 ⟨some 8, .load 3 (.tmp 7), 3, none⟩,
 ⟨some 9, .binOp .lss 3 (.tmp 8) (.const (.int .i64 1)) 3, 4, none⟩,
 ⟨some 10, .move (.tmp 9), 4, none⟩,
 ⟨some 11, .fieldAddr 56 (.tmp 1) 4, 0, (some (10, false))⟩,
 ⟨some 12, .load 3 (.tmp 11), 3, (some (10, false))⟩,
 ⟨some 13, .binOp .gtr 3 (.tmp 12) (.const (.int .i64 14)) 3, 4, (some (10, false))⟩,
 ⟨some 14, .pick (.tmp 10) (.const (.bool true)) (.tmp 13), 4, none⟩] [1, 3, 14])
 (.cond (.tmp 14)
  (.seq (.ops [
  ⟨some 2, .assign (.const (.string (ofL []))), 9, none⟩] [2])
  .ret)
  (.skip [1, 3]))) (sg c159S3))))
noncomputable def c159D0 : List (Nat × Ins) := [
 (0, ⟨some 24, .move (.tmp 5), 9, none⟩),
 (0, ⟨some 25, .fieldAddr 56 (.tmp 1) 5, 0, none⟩),
 (0, ⟨some 30, .fieldAddr 56 (.tmp 1) 6, 0, none⟩),
 (1, ⟨some 26, .load 3 (.tmp 25), 3, none⟩),
 (1, ⟨some 31, .load 3 (.tmp 30), 3, none⟩),
 (2, ⟨some 27, .call ⟨.value (.func 45), #[(.tmp 26)], #[3]⟩, 9, none⟩),
 (0, ⟨some 28, .binOp .add 9 (.tmp 24) (.tmp 27) 9, 9, none⟩),
 (0, ⟨some 29, .binOp .add 9 (.tmp 28) (.const (.string (ofL [58]))) 9, 9, none⟩),
 (2, ⟨some 32, .call ⟨.value (.func 45), #[(.tmp 31)], #[3]⟩, 9, none⟩),
 (0, ⟨some 33, .binOp .add 9 (.tmp 29) (.tmp 32) 9, 9, none⟩),
 (0, ⟨some 5, .assign (.tmp 33), 9, none⟩)]
theorem c159draw0 {L : List Nat} {ρ : Env} {w : World} {Q : Post} (S : World → Prop) (hS : S w.drew) (h : DG Tryz.prog S c159D0 L ρ w.drew Q) : drawW Tryz.prog (drawOps 0 c159code) L ρ w Q :=
  drawW_held [2, 7] [(0, 0), (0, 1), (0, 6), (1, 2), (1, 7), (2, 3), (0, 4), (0, 5), (2, 8), (0, 9), (0, 10)] c159D0 (by kernel_rfl) (by kernel_rfl) (by kernel_rfl) S hS h
set_option maxRecDepth 100000 in
theorem ent159 (a0 : Value) (w : World) (K : Value → World → Prop) (h : W Tryz.prog c159 [(0, a0)] w (finQ Tryz.prog [.tmp 2] K)) : Ret Tryz.prog 159 [a0] w K :=
  Ret_of_W (code := c159code) Tryz.func159 (by kernel_rfl) (by kernel_rfl) (of_decide_eq_true (by kernel_rfl)) h
@[go_sem] theorem go159 : goFunc Tryz.prog 159 = true := by kernel_rfl
@[go_sem] theorem go160 : goFunc Tryz.prog 160 = true := by kernel_rfl
@[go_sem] theorem go163 : goFunc Tryz.prog 163 = true := by kernel_rfl
@[go_sem] theorem go164 : goFunc Tryz.prog 164 = true := by kernel_rfl
@[go_sem] theorem go165 : goFunc Tryz.prog 165 = true := by kernel_rfl
@[go_sem] theorem go166 : goFunc Tryz.prog 166 = true := by kernel_rfl
@[go_sem] theorem go167 : goFunc Tryz.prog 167 = true := by kernel_rfl
@[go_sem] theorem go168 : goFunc Tryz.prog 168 = true := by kernel_rfl
@[go_sem] theorem go169 : goFunc Tryz.prog 169 = true := by kernel_rfl
@[go_sem] theorem go185 : goFunc Tryz.prog 185 = true := by kernel_rfl
@[go_sem] theorem go186 : goFunc Tryz.prog 186 = true := by kernel_rfl
end Go.Proofs.YtmdhcpghofadcaaGreat

namespace Go.Proofs.YtmdhcpghofadcaaGreat
set_option linter.unusedSimpArgs false
set_option linter.unusedVariables false
set_option maxRecDepth 100000
open Go Go.Ann Go.RowKit
structure OpT where
  ID : Int
  Proc : Int
  Object : Int
  Kind : Int
  Method : Int
  Arg : Int
  Second : Int
  Done : Bool
  Result : Int
  Invoke : Int
  Return : Int
deriving DecidableEq
def OpT.enc (a : OpT) : List Value := [.int .i64 a.ID, .int .i64 a.Proc, .int .i64 a.Object, .int .i64 a.Kind, .int .i64 a.Method, .int .i64 a.Arg, .int .i64 a.Second, .bool a.Done, .int .i64 a.Result, .int .i64 a.Invoke, .int .i64 a.Return]
def OpT.wf (a : OpT) : Prop := kOk .i64 a.ID ∧ kOk .i64 a.Proc ∧ kOk .i64 a.Object ∧ kOk .i64 a.Kind ∧ kOk .i64 a.Method ∧ kOk .i64 a.Arg ∧ kOk .i64 a.Second ∧ kOk .i64 a.Result ∧ kOk .i64 a.Invoke ∧ kOk .i64 a.Return
theorem OpT.len (a : OpT) : a.enc.length = 11 := rfl
theorem OpT.one (a : OpT) : ∀ u ∈ a.enc, u.oneCell' = true := by intro u hu; simp only [OpT.enc, List.mem_cons, List.not_mem_nil, or_false] at hu; rcases hu with rfl | rfl | rfl | rfl | rfl | rfl | rfl | rfl | rfl | rfl | rfl <;> rfl
theorem OpT.ones (l : List OpT) : ∀ u ∈ l.flatMap OpT.enc, u.oneCell' = true := by intro u hu; obtain ⟨a, _, h⟩ := List.mem_flatMap.1 hu; exact a.one u h
theorem OpT.at (a : OpT) : a.enc[0]? = some (.int .i64 a.ID) ∧ a.enc[1]? = some (.int .i64 a.Proc) ∧ a.enc[2]? = some (.int .i64 a.Object) ∧ a.enc[3]? = some (.int .i64 a.Kind) ∧ a.enc[4]? = some (.int .i64 a.Method) ∧ a.enc[5]? = some (.int .i64 a.Arg) ∧ a.enc[6]? = some (.int .i64 a.Second) ∧ a.enc[7]? = some (.bool a.Done) ∧ a.enc[8]? = some (.int .i64 a.Result) ∧ a.enc[9]? = some (.int .i64 a.Invoke) ∧ a.enc[10]? = some (.int .i64 a.Return) := ⟨rfl, rfl, rfl, rfl, rfl, rfl, rfl, rfl, rfl, rfl, rfl⟩
set_option maxRecDepth 100000 in
theorem opens_OpT : Opens Tryz.prog 56 (fun _ (a : OpT) cs => cs = a.enc ∧ a.wf) := by
  intro H enc w base sp hd fuel cs x hx
  obtain ⟨hl, hf⟩ := opens_fields Tryz.underlying56 hx
  rw [show Tryz.prog.cellsOf 56 = 11 by kernel_rfl] at hl
  have c_0 : Tryz.prog.cellsOf 4 = 1 := by kernel_rfl
  have c_1 : Tryz.prog.cellsOf 3 = 1 := by kernel_rfl
  match cs, hl with
  | [v0, v1, v2, v3, v4, v5, v6, v7, v8, v9, v10], _ =>
    obtain ⟨n0, y0, g0⟩ := hf 0 _ rfl
    have h0 : DataW.trod enc Tryz.prog w base sp hd n0 3 (List.take (Tryz.prog.cellsOf 3) [v0, v1, v2, v3, v4, v5, v6, v7, v8, v9, v10]) = some y0 := g0
    rw [c_1] at h0
    obtain ⟨a0, e0⟩ := opens_int Tryz.underlying3 enc w base sp hd n0 [v0] y0 h0
    have r0 : v0 = _ := (List.cons.inj e0.1).1
    obtain ⟨n1, y1, g1⟩ := hf 1 _ rfl
    have h1 : DataW.trod enc Tryz.prog w base sp hd n1 3 (List.take (Tryz.prog.cellsOf 3) [v1, v2, v3, v4, v5, v6, v7, v8, v9, v10]) = some y1 := g1
    rw [c_1] at h1
    obtain ⟨a1, e1⟩ := opens_int Tryz.underlying3 enc w base sp hd n1 [v1] y1 h1
    have r1 : v1 = _ := (List.cons.inj e1.1).1
    obtain ⟨n2, y2, g2⟩ := hf 2 _ rfl
    have h2 : DataW.trod enc Tryz.prog w base sp hd n2 3 (List.take (Tryz.prog.cellsOf 3) [v2, v3, v4, v5, v6, v7, v8, v9, v10]) = some y2 := g2
    rw [c_1] at h2
    obtain ⟨a2, e2⟩ := opens_int Tryz.underlying3 enc w base sp hd n2 [v2] y2 h2
    have r2 : v2 = _ := (List.cons.inj e2.1).1
    obtain ⟨n3, y3, g3⟩ := hf 3 _ rfl
    have h3 : DataW.trod enc Tryz.prog w base sp hd n3 3 (List.take (Tryz.prog.cellsOf 3) [v3, v4, v5, v6, v7, v8, v9, v10]) = some y3 := g3
    rw [c_1] at h3
    obtain ⟨a3, e3⟩ := opens_int Tryz.underlying3 enc w base sp hd n3 [v3] y3 h3
    have r3 : v3 = _ := (List.cons.inj e3.1).1
    obtain ⟨n4, y4, g4⟩ := hf 4 _ rfl
    have h4 : DataW.trod enc Tryz.prog w base sp hd n4 3 (List.take (Tryz.prog.cellsOf 3) [v4, v5, v6, v7, v8, v9, v10]) = some y4 := g4
    rw [c_1] at h4
    obtain ⟨a4, e4⟩ := opens_int Tryz.underlying3 enc w base sp hd n4 [v4] y4 h4
    have r4 : v4 = _ := (List.cons.inj e4.1).1
    obtain ⟨n5, y5, g5⟩ := hf 5 _ rfl
    have h5 : DataW.trod enc Tryz.prog w base sp hd n5 3 (List.take (Tryz.prog.cellsOf 3) [v5, v6, v7, v8, v9, v10]) = some y5 := g5
    rw [c_1] at h5
    obtain ⟨a5, e5⟩ := opens_int Tryz.underlying3 enc w base sp hd n5 [v5] y5 h5
    have r5 : v5 = _ := (List.cons.inj e5.1).1
    obtain ⟨n6, y6, g6⟩ := hf 6 _ rfl
    have h6 : DataW.trod enc Tryz.prog w base sp hd n6 3 (List.take (Tryz.prog.cellsOf 3) [v6, v7, v8, v9, v10]) = some y6 := g6
    rw [c_1] at h6
    obtain ⟨a6, e6⟩ := opens_int Tryz.underlying3 enc w base sp hd n6 [v6] y6 h6
    have r6 : v6 = _ := (List.cons.inj e6.1).1
    obtain ⟨n7, y7, g7⟩ := hf 7 _ rfl
    have h7 : DataW.trod enc Tryz.prog w base sp hd n7 4 (List.take (Tryz.prog.cellsOf 4) [v7, v8, v9, v10]) = some y7 := g7
    rw [c_0] at h7
    obtain ⟨a7, e7⟩ := opens_bool Tryz.underlying4 enc w base sp hd n7 [v7] y7 h7
    have r7 : v7 = _ := (List.cons.inj e7).1
    obtain ⟨n8, y8, g8⟩ := hf 8 _ rfl
    have h8 : DataW.trod enc Tryz.prog w base sp hd n8 3 (List.take (Tryz.prog.cellsOf 3) [v8, v9, v10]) = some y8 := g8
    rw [c_1] at h8
    obtain ⟨a8, e8⟩ := opens_int Tryz.underlying3 enc w base sp hd n8 [v8] y8 h8
    have r8 : v8 = _ := (List.cons.inj e8.1).1
    obtain ⟨n9, y9, g9⟩ := hf 9 _ rfl
    have h9 : DataW.trod enc Tryz.prog w base sp hd n9 3 (List.take (Tryz.prog.cellsOf 3) [v9, v10]) = some y9 := g9
    rw [c_1] at h9
    obtain ⟨a9, e9⟩ := opens_int Tryz.underlying3 enc w base sp hd n9 [v9] y9 h9
    have r9 : v9 = _ := (List.cons.inj e9.1).1
    obtain ⟨n10, y10, g10⟩ := hf 10 _ rfl
    have h10 : DataW.trod enc Tryz.prog w base sp hd n10 3 (List.take (Tryz.prog.cellsOf 3) [v10]) = some y10 := g10
    rw [c_1] at h10
    obtain ⟨a10, e10⟩ := opens_int Tryz.underlying3 enc w base sp hd n10 [v10] y10 h10
    have r10 : v10 = _ := (List.cons.inj e10.1).1
    exact ⟨⟨a0, a1, a2, a3, a4, a5, a6, a7, a8, a9, a10⟩, by rw [r0, r1, r2, r3, r4, r5, r6, r7, r8, r9, r10]; rfl, e0.2, e1.2, e2.2, e3.2, e4.2, e5.2, e6.2, e8.2, e9.2, e10.2⟩
set_option maxRecDepth 100000 in
theorem opens_Ops : Opens Tryz.prog 22 (fun w (xs : List OpT) cs => ∃ v, cs = [v] ∧ RdS w 11 OpT.enc v xs ∧ (∀ x ∈ xs, x.wf) ∧ (xs.length : Int) ≤ 9223372036854775807) :=
  Opens.mono (opens_slice opens_OpT Tryz.underlying22 (by kernel_rfl)) fun w xs cs ⟨v, h1, h2, h3⟩ =>
    have h := h2.plain (enc := OpT.enc) (ok := OpT.wf) fun _ _ h => h
    ⟨xs, v, h1, h.1, h.2, h3⟩
end Go.Proofs.YtmdhcpghofadcaaGreat
