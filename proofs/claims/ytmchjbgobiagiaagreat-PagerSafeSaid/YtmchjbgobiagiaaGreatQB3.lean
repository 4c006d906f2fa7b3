/- Texts put together by program. -/
import Derived.Test.YtmchjbgobiagiaaGreatQB2
namespace Go.Proofs.YtmchjbgobiagiaaGreat
open Go Go.Ann
@[go_sem] theorem ty3tyK : tyK Tryz.prog 3 = .int .i64 := by kernel_rfl
@[go_sem] theorem ty3sizeT : sizeT Tryz.prog 3 = some 1 := by kernel_rfl
@[go_sem] theorem ty3zeroT : zeroT Tryz.prog 3 = some (.int .i64 0) := by kernel_rfl
@[go_sem] theorem ty3conc : Program.concrete Tryz.prog 3 = true := by kernel_rfl
@[go_sem] theorem ty4tyK : tyK Tryz.prog 4 = .bool := by kernel_rfl
@[go_sem] theorem ty4isBoolT : isBoolT Tryz.prog 4 = true := by kernel_rfl
@[go_sem] theorem ty4sizeT : sizeT Tryz.prog 4 = some 1 := by kernel_rfl
@[go_sem] theorem ty4zeroT : zeroT Tryz.prog 4 = some (.bool false) := by kernel_rfl
@[go_sem] theorem ty4conc : Program.concrete Tryz.prog 4 = true := by kernel_rfl
@[go_sem] theorem ty5tyK : tyK Tryz.prog 5 = .int .u8 := by kernel_rfl
@[go_sem] theorem ty5sizeT : sizeT Tryz.prog 5 = some 1 := by kernel_rfl
@[go_sem] theorem ty5zeroT : zeroT Tryz.prog 5 = some (.int .u8 0) := by kernel_rfl
@[go_sem] theorem ty5conc : Program.concrete Tryz.prog 5 = true := by kernel_rfl
@[go_sem] theorem ty9tyK : tyK Tryz.prog 9 = .str := by kernel_rfl
@[go_sem] theorem ty9isStrT : isStrT Tryz.prog 9 = true := by kernel_rfl
@[go_sem] theorem ty9sizeT : sizeT Tryz.prog 9 = some 1 := by kernel_rfl
@[go_sem] theorem ty9zeroT : zeroT Tryz.prog 9 = some (.string (ofL [])) := by kernel_rfl
@[go_sem] theorem ty9conc : Program.concrete Tryz.prog 9 = true := by kernel_rfl
@[go_sem] theorem ty23tyK : tyK Tryz.prog 23 = .agg 4 := by kernel_rfl
@[go_sem] theorem ty23sizeT : sizeT Tryz.prog 23 = some 4 := by kernel_rfl
@[go_sem] theorem ty23zeroT : zeroT Tryz.prog 23 = some (.agg #[(.int .i64 0), (.int .i64 0), (.int .i64 0), (.string (ofL []))]) := by kernel_rfl
@[go_sem] theorem ty23conc : Program.concrete Tryz.prog 23 = true := by kernel_rfl
@[go_sem] theorem ty23plc : plcT Tryz.prog 23 = some [(0, 1), (1, 1), (2, 1), (3, 1)] := by kernel_rfl
@[go_sem] theorem ty23flat : flatT Tryz.prog 23 = some [.int, .int, .int, .str] := by kernel_rfl
@[go_sem] theorem ty23fld0 : fldI Tryz.prog 23 0 = some (0, 1, false) := by kernel_rfl
@[go_sem] theorem ty23fld1 : fldI Tryz.prog 23 1 = some (1, 1, false) := by kernel_rfl
@[go_sem] theorem ty23fld2 : fldI Tryz.prog 23 2 = some (2, 1, false) := by kernel_rfl
@[go_sem] theorem ty23fld3 : fldI Tryz.prog 23 3 = some (3, 1, false) := by kernel_rfl
@[go_sem] theorem ty24tyK : tyK Tryz.prog 24 = .ptr := by kernel_rfl
@[go_sem] theorem ty24isPtrT : isPtrT Tryz.prog 24 = true := by kernel_rfl
@[go_sem] theorem ty24sizeT : sizeT Tryz.prog 24 = some 1 := by kernel_rfl
@[go_sem] theorem ty24zeroT : zeroT Tryz.prog 24 = some (.pointer none) := by kernel_rfl
@[go_sem] theorem ty24conc : Program.concrete Tryz.prog 24 = true := by kernel_rfl
@[go_sem] theorem ty25tyK : tyK Tryz.prog 25 = .ptr := by kernel_rfl
@[go_sem] theorem ty25isPtrT : isPtrT Tryz.prog 25 = true := by kernel_rfl
@[go_sem] theorem ty25sizeT : sizeT Tryz.prog 25 = some 1 := by kernel_rfl
@[go_sem] theorem ty25zeroT : zeroT Tryz.prog 25 = some (.pointer none) := by kernel_rfl
@[go_sem] theorem ty25conc : Program.concrete Tryz.prog 25 = true := by kernel_rfl
@[go_sem] theorem ty26tyK : tyK Tryz.prog 26 = .ptr := by kernel_rfl
@[go_sem] theorem ty26isPtrT : isPtrT Tryz.prog 26 = true := by kernel_rfl
@[go_sem] theorem ty26sizeT : sizeT Tryz.prog 26 = some 1 := by kernel_rfl
@[go_sem] theorem ty26zeroT : zeroT Tryz.prog 26 = some (.pointer none) := by kernel_rfl
@[go_sem] theorem ty26conc : Program.concrete Tryz.prog 26 = true := by kernel_rfl
@[go_sem] theorem ty28tyK : tyK Tryz.prog 28 = .agg 2 := by kernel_rfl
@[go_sem] theorem ty28sizeT : sizeT Tryz.prog 28 = some 2 := by kernel_rfl
@[go_sem] theorem ty28zeroT : zeroT Tryz.prog 28 = some (.agg #[(.pointer none), (.pointer none)]) := by kernel_rfl
@[go_sem] theorem ty28conc : Program.concrete Tryz.prog 28 = true := by kernel_rfl
@[go_sem] theorem ty28plc : plcT Tryz.prog 28 = some [(0, 1), (1, 1)] := by kernel_rfl
@[go_sem] theorem ty28fld0 : fldI Tryz.prog 28 0 = some (0, 1, false) := by kernel_rfl
@[go_sem] theorem ty28fld1 : fldI Tryz.prog 28 1 = some (1, 1, false) := by kernel_rfl
@[go_sem] theorem ty29tyK : tyK Tryz.prog 29 = .slice false 24 := by kernel_rfl
@[go_sem] theorem ty29isSliceT : isSliceT Tryz.prog 29 = true := by kernel_rfl
@[go_sem] theorem ty29sliI : sliI Tryz.prog 29 = some 1 := by kernel_rfl
@[go_sem] theorem ty29mkI : mkI Tryz.prog 29 = some (24, 1, 8, (.pointer none)) := by kernel_rfl
@[go_sem] theorem ty29sizeT : sizeT Tryz.prog 29 = some 1 := by kernel_rfl
@[go_sem] theorem ty29zeroT : zeroT Tryz.prog 29 = some (.slice none 0 0) := by kernel_rfl
@[go_sem] theorem ty29conc : Program.concrete Tryz.prog 29 = true := by kernel_rfl
@[go_sem] theorem ty30tyK : tyK Tryz.prog 30 = .int .i64 := by kernel_rfl
@[go_sem] theorem ty30sizeT : sizeT Tryz.prog 30 = some 1 := by kernel_rfl
@[go_sem] theorem ty30zeroT : zeroT Tryz.prog 30 = some (.int .i64 0) := by kernel_rfl
@[go_sem] theorem ty30conc : Program.concrete Tryz.prog 30 = true := by kernel_rfl
@[go_sem] theorem ty45tyK : tyK Tryz.prog 45 = .slice false 23 := by kernel_rfl
@[go_sem] theorem ty45isSliceT : isSliceT Tryz.prog 45 = true := by kernel_rfl
@[go_sem] theorem ty45sliI : sliI Tryz.prog 45 = some 4 := by kernel_rfl
@[go_sem] theorem ty45mkI : mkI Tryz.prog 45 = some (23, 4, 40, (.agg #[(.int .i64 0), (.int .i64 0), (.int .i64 0), (.string (ofL []))])) := by kernel_rfl
@[go_sem] theorem ty45sizeT : sizeT Tryz.prog 45 = some 1 := by kernel_rfl
@[go_sem] theorem ty45zeroT : zeroT Tryz.prog 45 = some (.slice none 0 0) := by kernel_rfl
@[go_sem] theorem ty45conc : Program.concrete Tryz.prog 45 = true := by kernel_rfl
@[go_sem] theorem ty46tyK : tyK Tryz.prog 46 = .ptr := by kernel_rfl
@[go_sem] theorem ty46isPtrT : isPtrT Tryz.prog 46 = true := by kernel_rfl
@[go_sem] theorem ty46sizeT : sizeT Tryz.prog 46 = some 1 := by kernel_rfl
@[go_sem] theorem ty46zeroT : zeroT Tryz.prog 46 = some (.pointer none) := by kernel_rfl
@[go_sem] theorem ty46conc : Program.concrete Tryz.prog 46 = true := by kernel_rfl
@[go_sem] theorem ty49tyK : tyK Tryz.prog 49 = .slice false 9 := by kernel_rfl
@[go_sem] theorem ty49isSliceT : isSliceT Tryz.prog 49 = true := by kernel_rfl
@[go_sem] theorem ty49sliI : sliI Tryz.prog 49 = some 1 := by kernel_rfl
@[go_sem] theorem ty49mkI : mkI Tryz.prog 49 = some (9, 1, 16, (.string (ofL []))) := by kernel_rfl
@[go_sem] theorem ty49sizeT : sizeT Tryz.prog 49 = some 1 := by kernel_rfl
@[go_sem] theorem ty49zeroT : zeroT Tryz.prog 49 = some (.slice none 0 0) := by kernel_rfl
@[go_sem] theorem ty49conc : Program.concrete Tryz.prog 49 = true := by kernel_rfl
@[go_sem] theorem ty51tyK : tyK Tryz.prog 51 = .agg 2 := by kernel_rfl
@[go_sem] theorem ty51sizeT : sizeT Tryz.prog 51 = some 2 := by kernel_rfl
@[go_sem] theorem ty51zeroT : zeroT Tryz.prog 51 = some (.agg #[(.slice none 0 0), (.slice none 0 0)]) := by kernel_rfl
@[go_sem] theorem ty51conc : Program.concrete Tryz.prog 51 = true := by kernel_rfl
@[go_sem] theorem ty51plc : plcT Tryz.prog 51 = some [(0, 1), (1, 1)] := by kernel_rfl
@[go_sem] theorem ty51fld0 : fldI Tryz.prog 51 0 = some (0, 1, false) := by kernel_rfl
@[go_sem] theorem ty51fld1 : fldI Tryz.prog 51 1 = some (1, 1, false) := by kernel_rfl
@[go_sem] theorem ty58tyK : tyK Tryz.prog 58 = .int .u64 := by kernel_rfl
@[go_sem] theorem ty58sizeT : sizeT Tryz.prog 58 = some 1 := by kernel_rfl
@[go_sem] theorem ty58zeroT : zeroT Tryz.prog 58 = some (.int .u64 0) := by kernel_rfl
@[go_sem] theorem ty58conc : Program.concrete Tryz.prog 58 = true := by kernel_rfl
@[go_sem] theorem ty89tyK : tyK Tryz.prog 89 = .slice false 93 := by kernel_rfl
@[go_sem] theorem ty89isSliceT : isSliceT Tryz.prog 89 = true := by kernel_rfl
@[go_sem] theorem ty89sliI : sliI Tryz.prog 89 = some 2 := by kernel_rfl
@[go_sem] theorem ty89mkI : mkI Tryz.prog 89 = some (93, 2, 24, (.agg #[(.int .i64 0), (.string (ofL []))])) := by kernel_rfl
@[go_sem] theorem ty89sizeT : sizeT Tryz.prog 89 = some 1 := by kernel_rfl
@[go_sem] theorem ty89zeroT : zeroT Tryz.prog 89 = some (.slice none 0 0) := by kernel_rfl
@[go_sem] theorem ty89conc : Program.concrete Tryz.prog 89 = true := by kernel_rfl
@[go_sem] theorem ty91tyK : tyK Tryz.prog 91 = .agg 5 := by kernel_rfl
@[go_sem] theorem ty91sizeT : sizeT Tryz.prog 91 = some 5 := by kernel_rfl
@[go_sem] theorem ty91zeroT : zeroT Tryz.prog 91 = some (.agg #[(.slice none 0 0), (.slice none 0 0), (.int .i64 0), (.bool false), (.string (ofL []))]) := by kernel_rfl
@[go_sem] theorem ty91conc : Program.concrete Tryz.prog 91 = true := by kernel_rfl
@[go_sem] theorem ty91plc : plcT Tryz.prog 91 = some [(0, 1), (1, 1), (2, 1), (3, 1), (4, 1)] := by kernel_rfl
@[go_sem] theorem ty91fld0 : fldI Tryz.prog 91 0 = some (0, 1, false) := by kernel_rfl
@[go_sem] theorem ty91fld1 : fldI Tryz.prog 91 1 = some (1, 1, false) := by kernel_rfl
@[go_sem] theorem ty91fld2 : fldI Tryz.prog 91 2 = some (2, 1, false) := by kernel_rfl
@[go_sem] theorem ty91fld3 : fldI Tryz.prog 91 3 = some (3, 1, false) := by kernel_rfl
@[go_sem] theorem ty91fld4 : fldI Tryz.prog 91 4 = some (4, 1, false) := by kernel_rfl
@[go_sem] theorem ty93tyK : tyK Tryz.prog 93 = .agg 2 := by kernel_rfl
@[go_sem] theorem ty93sizeT : sizeT Tryz.prog 93 = some 2 := by kernel_rfl
@[go_sem] theorem ty93zeroT : zeroT Tryz.prog 93 = some (.agg #[(.int .i64 0), (.string (ofL []))]) := by kernel_rfl
@[go_sem] theorem ty93conc : Program.concrete Tryz.prog 93 = true := by kernel_rfl
@[go_sem] theorem ty93plc : plcT Tryz.prog 93 = some [(0, 1), (1, 1)] := by kernel_rfl
@[go_sem] theorem ty93flat : flatT Tryz.prog 93 = some [.int, .str] := by kernel_rfl
@[go_sem] theorem ty93fld0 : fldI Tryz.prog 93 0 = some (0, 1, false) := by kernel_rfl
@[go_sem] theorem ty93fld1 : fldI Tryz.prog 93 1 = some (1, 1, false) := by kernel_rfl
@[go_sem] theorem ty94tyK : tyK Tryz.prog 94 = .int .u64 := by kernel_rfl
@[go_sem] theorem ty94sizeT : sizeT Tryz.prog 94 = some 1 := by kernel_rfl
@[go_sem] theorem ty94zeroT : zeroT Tryz.prog 94 = some (.int .u64 0) := by kernel_rfl
@[go_sem] theorem ty94conc : Program.concrete Tryz.prog 94 = true := by kernel_rfl
@[go_sem] theorem ty96tyK : tyK Tryz.prog 96 = .agg 4 := by kernel_rfl
@[go_sem] theorem ty96sizeT : sizeT Tryz.prog 96 = some 4 := by kernel_rfl
@[go_sem] theorem ty96zeroT : zeroT Tryz.prog 96 = some (.agg #[(.int .u64 0), (.int .i64 0), (.int .i64 0), (.int .i64 0)]) := by kernel_rfl
@[go_sem] theorem ty96conc : Program.concrete Tryz.prog 96 = true := by kernel_rfl
@[go_sem] theorem ty96plc : plcT Tryz.prog 96 = some [(0, 1), (1, 1), (2, 1), (3, 1)] := by kernel_rfl
@[go_sem] theorem ty96flat : flatT Tryz.prog 96 = some [.int, .int, .int, .int] := by kernel_rfl
@[go_sem] theorem ty96fld0 : fldI Tryz.prog 96 0 = some (0, 1, false) := by kernel_rfl
@[go_sem] theorem ty96fld1 : fldI Tryz.prog 96 1 = some (1, 1, false) := by kernel_rfl
@[go_sem] theorem ty96fld2 : fldI Tryz.prog 96 2 = some (2, 1, false) := by kernel_rfl
@[go_sem] theorem ty96fld3 : fldI Tryz.prog 96 3 = some (3, 1, false) := by kernel_rfl
@[go_sem] theorem ty99tyK : tyK Tryz.prog 99 = .map := by kernel_rfl
@[go_sem] theorem ty99isMapT : isMapT Tryz.prog 99 = true := by kernel_rfl
@[go_sem] theorem ty99sizeT : sizeT Tryz.prog 99 = some 1 := by kernel_rfl
@[go_sem] theorem ty99zeroT : zeroT Tryz.prog 99 = some (.map none) := by kernel_rfl
@[go_sem] theorem ty99conc : Program.concrete Tryz.prog 99 = true := by kernel_rfl
@[go_sem] theorem ty101tyK : tyK Tryz.prog 101 = .agg 7 := by kernel_rfl
@[go_sem] theorem ty101sizeT : sizeT Tryz.prog 101 = some 7 := by kernel_rfl
@[go_sem] theorem ty101zeroT : zeroT Tryz.prog 101 = some (.agg #[(.pointer none), (.int .u64 0), (.int .i64 0), (.int .i64 0), (.int .i64 0), (.map none), (.bool false)]) := by kernel_rfl
@[go_sem] theorem ty101conc : Program.concrete Tryz.prog 101 = true := by kernel_rfl
@[go_sem] theorem ty101plc : plcT Tryz.prog 101 = some [(0, 1), (1, 4), (5, 1), (6, 1)] := by kernel_rfl
@[go_sem] theorem ty101fld0 : fldI Tryz.prog 101 0 = some (0, 1, false) := by kernel_rfl
@[go_sem] theorem ty101fld1 : fldI Tryz.prog 101 1 = some (1, 4, true) := by kernel_rfl
@[go_sem] theorem ty101fld2 : fldI Tryz.prog 101 2 = some (5, 1, false) := by kernel_rfl
@[go_sem] theorem ty101fld3 : fldI Tryz.prog 101 3 = some (6, 1, false) := by kernel_rfl
@[go_sem] theorem ty102tyK : tyK Tryz.prog 102 = .slice false 116 := by kernel_rfl
@[go_sem] theorem ty102isSliceT : isSliceT Tryz.prog 102 = true := by kernel_rfl
@[go_sem] theorem ty102sliI : sliI Tryz.prog 102 = some 2 := by kernel_rfl
@[go_sem] theorem ty102mkI : mkI Tryz.prog 102 = some (116, 2, 24, (.agg #[(.int .i64 0), (.string (ofL []))])) := by kernel_rfl
@[go_sem] theorem ty102sizeT : sizeT Tryz.prog 102 = some 1 := by kernel_rfl
@[go_sem] theorem ty102zeroT : zeroT Tryz.prog 102 = some (.slice none 0 0) := by kernel_rfl
@[go_sem] theorem ty102conc : Program.concrete Tryz.prog 102 = true := by kernel_rfl
@[go_sem] theorem ty106tyK : tyK Tryz.prog 106 = .slice true 5 := by kernel_rfl
@[go_sem] theorem ty106isSliceT : isSliceT Tryz.prog 106 = true := by kernel_rfl
@[go_sem] theorem ty106sliI : sliI Tryz.prog 106 = some 1 := by kernel_rfl
@[go_sem] theorem ty106mkI : mkI Tryz.prog 106 = some (5, 1, 1, (.int .u8 0)) := by kernel_rfl
@[go_sem] theorem ty106sizeT : sizeT Tryz.prog 106 = some 1 := by kernel_rfl
@[go_sem] theorem ty106zeroT : zeroT Tryz.prog 106 = some (.slice none 0 0) := by kernel_rfl
@[go_sem] theorem ty106conc : Program.concrete Tryz.prog 106 = true := by kernel_rfl
@[go_sem] theorem ty116tyK : tyK Tryz.prog 116 = .agg 2 := by kernel_rfl
@[go_sem] theorem ty116sizeT : sizeT Tryz.prog 116 = some 2 := by kernel_rfl
@[go_sem] theorem ty116zeroT : zeroT Tryz.prog 116 = some (.agg #[(.int .i64 0), (.string (ofL []))]) := by kernel_rfl
@[go_sem] theorem ty116conc : Program.concrete Tryz.prog 116 = true := by kernel_rfl
@[go_sem] theorem ty116plc : plcT Tryz.prog 116 = some [(0, 1), (1, 1)] := by kernel_rfl
@[go_sem] theorem ty116flat : flatT Tryz.prog 116 = some [.int, .str] := by kernel_rfl
@[go_sem] theorem ty116fld0 : fldI Tryz.prog 116 0 = some (0, 1, false) := by kernel_rfl
@[go_sem] theorem ty116fld1 : fldI Tryz.prog 116 1 = some (1, 1, false) := by kernel_rfl
@[go_sem] theorem ty121tyK : tyK Tryz.prog 121 = .slice false 132 := by kernel_rfl
@[go_sem] theorem ty121isSliceT : isSliceT Tryz.prog 121 = true := by kernel_rfl
@[go_sem] theorem ty121sliI : sliI Tryz.prog 121 = some 3 := by kernel_rfl
@[go_sem] theorem ty121mkI : mkI Tryz.prog 121 = some (132, 3, 32, (.agg #[(.int .i64 0), (.string (ofL [])), (.int .i64 0)])) := by kernel_rfl
@[go_sem] theorem ty121sizeT : sizeT Tryz.prog 121 = some 1 := by kernel_rfl
@[go_sem] theorem ty121zeroT : zeroT Tryz.prog 121 = some (.slice none 0 0) := by kernel_rfl
@[go_sem] theorem ty121conc : Program.concrete Tryz.prog 121 = true := by kernel_rfl
@[go_sem] theorem ty123tyK : tyK Tryz.prog 123 = .agg 2 := by kernel_rfl
@[go_sem] theorem ty123sizeT : sizeT Tryz.prog 123 = some 2 := by kernel_rfl
@[go_sem] theorem ty123zeroT : zeroT Tryz.prog 123 = some (.agg #[(.int .i64 0), (.slice none 0 0)]) := by kernel_rfl
@[go_sem] theorem ty123conc : Program.concrete Tryz.prog 123 = true := by kernel_rfl
@[go_sem] theorem ty123plc : plcT Tryz.prog 123 = some [(0, 1), (1, 1)] := by kernel_rfl
@[go_sem] theorem ty123fld0 : fldI Tryz.prog 123 0 = some (0, 1, false) := by kernel_rfl
@[go_sem] theorem ty123fld1 : fldI Tryz.prog 123 1 = some (1, 1, false) := by kernel_rfl
@[go_sem] theorem ty132tyK : tyK Tryz.prog 132 = .agg 3 := by kernel_rfl
@[go_sem] theorem ty132sizeT : sizeT Tryz.prog 132 = some 3 := by kernel_rfl
@[go_sem] theorem ty132zeroT : zeroT Tryz.prog 132 = some (.agg #[(.int .i64 0), (.string (ofL [])), (.int .i64 0)]) := by kernel_rfl
@[go_sem] theorem ty132conc : Program.concrete Tryz.prog 132 = true := by kernel_rfl
@[go_sem] theorem ty132plc : plcT Tryz.prog 132 = some [(0, 1), (1, 1), (2, 1)] := by kernel_rfl
@[go_sem] theorem ty132flat : flatT Tryz.prog 132 = some [.int, .str, .int] := by kernel_rfl
@[go_sem] theorem ty132fld0 : fldI Tryz.prog 132 0 = some (0, 1, false) := by kernel_rfl
@[go_sem] theorem ty132fld1 : fldI Tryz.prog 132 1 = some (1, 1, false) := by kernel_rfl
@[go_sem] theorem ty132fld2 : fldI Tryz.prog 132 2 = some (2, 1, false) := by kernel_rfl
@[go_sem] theorem ty145tyK : tyK Tryz.prog 145 = .agg 2 := by kernel_rfl
@[go_sem] theorem ty145sizeT : sizeT Tryz.prog 145 = some 2 := by kernel_rfl
@[go_sem] theorem ty145zeroT : zeroT Tryz.prog 145 = some (.agg #[(.pointer none), (.slice none 0 0)]) := by kernel_rfl
@[go_sem] theorem ty145conc : Program.concrete Tryz.prog 145 = true := by kernel_rfl
@[go_sem] theorem ty145plc : plcT Tryz.prog 145 = some [(0, 1), (1, 1)] := by kernel_rfl
@[go_sem] theorem ty145fld0 : fldI Tryz.prog 145 0 = some (0, 1, false) := by kernel_rfl
@[go_sem] theorem ty145fld1 : fldI Tryz.prog 145 1 = some (1, 1, false) := by kernel_rfl
@[go_sem] theorem ty164tyK : tyK Tryz.prog 164 = .ptr := by kernel_rfl
@[go_sem] theorem ty164isPtrT : isPtrT Tryz.prog 164 = true := by kernel_rfl
@[go_sem] theorem ty164sizeT : sizeT Tryz.prog 164 = some 1 := by kernel_rfl
@[go_sem] theorem ty164zeroT : zeroT Tryz.prog 164 = some (.pointer none) := by kernel_rfl
@[go_sem] theorem ty164conc : Program.concrete Tryz.prog 164 = true := by kernel_rfl
noncomputable def c17code : Code := match Tryz.f17.body with | some c => c | none => .skip
noncomputable def c17S0 (_ : Unit) : Cmd := (.cond (.tmp 22)
  (.seq (.ops [
  ⟨some 2, .assign (.const (.pointer none)), 46, none⟩,
  ⟨some 3, .assign (.const (.pointer none)), 25, none⟩,
  ⟨some 4, .assign (.const (.pointer none)), 24, none⟩] [2, 3, 4])
  .ret)
  (.skip [5]))
noncomputable def c17S1 (_ : Unit) : Cmd := (.seq (.ops [
 ⟨some 37, .move (.tmp 5), 46, none⟩,
 ⟨some 38, .move (.tmp 7), 25, none⟩,
 ⟨some 39, .move (.tmp 8), 24, none⟩,
 ⟨some 2, .assign (.tmp 37), 46, none⟩,
 ⟨some 3, .assign (.tmp 38), 25, none⟩,
 ⟨some 4, .assign (.tmp 39), 24, none⟩] [2, 3, 4])
 .ret)
noncomputable def c17S2 (_ : Unit) : Cmd := (.seq (.seq (.ops [
 ⟨some 35, .move (.tmp 6), 30, none⟩,
 ⟨some 36, .binOp .neq 30 (.tmp 35) (.const (.int .i64 0)) 30, 4, none⟩] [5, 7, 8, 36])
 (.cond (.tmp 36)
  (.seq (.ops [
  ⟨some 2, .assign (.const (.pointer none)), 46, none⟩,
  ⟨some 3, .assign (.const (.pointer none)), 25, none⟩,
  ⟨some 4, .assign (.const (.pointer none)), 24, none⟩] [2, 3, 4])
  .ret)
  (.skip [5, 7, 8]))) (sg c17S1))
noncomputable def c17S3 (_ : Unit) : Cmd := (.seq (.ops [
 ⟨some 31, .move (.tmp 7), 25, none⟩,
 ⟨some 32, .call ⟨.value (.func 15), #[(.tmp 31)], #[25]⟩, 41, none⟩,
 ⟨some 30, .move (.tmp 32), 41, none⟩,
 ⟨some 33, .extract (.tmp 30) 0, 24, none⟩,
 ⟨some 34, .extract (.tmp 30) 1, 30, none⟩,
 ⟨some 8, .assign (.tmp 33), 24, none⟩,
 ⟨some 6, .assign (.tmp 34), 30, none⟩] [5, 6, 7, 8]) (sg c17S2))
noncomputable def c17S4 (_ : Unit) : Cmd := (.seq (.seq (.ops [
 ⟨some 28, .move (.tmp 6), 30, none⟩,
 ⟨some 29, .binOp .neq 30 (.tmp 28) (.const (.int .i64 0)) 30, 4, none⟩] [5, 7, 29])
 (.cond (.tmp 29)
  (.seq (.ops [
  ⟨some 2, .assign (.const (.pointer none)), 46, none⟩,
  ⟨some 3, .assign (.const (.pointer none)), 25, none⟩,
  ⟨some 4, .assign (.const (.pointer none)), 24, none⟩] [2, 3, 4])
  .ret)
  (.skip [5, 7]))) (sg c17S3))
noncomputable def c17S5 (_ : Unit) : Cmd := (.seq (.ops [
 ⟨some 24, .move (.tmp 5), 46, none⟩,
 ⟨some 25, .call ⟨.value (.func 22), #[(.tmp 24)], #[46]⟩, 59, none⟩,
 ⟨some 23, .move (.tmp 25), 59, none⟩,
 ⟨some 26, .extract (.tmp 23) 0, 25, none⟩,
 ⟨some 27, .extract (.tmp 23) 1, 30, none⟩,
 ⟨some 7, .assign (.tmp 26), 25, none⟩,
 ⟨some 6, .assign (.tmp 27), 30, none⟩] [5, 6, 7]) (sg c17S4))
noncomputable def c17S6 (_ : Unit) : Cmd := (.seq (.seq (.ops [
 ⟨some 15, .move (.tmp 6), 30, none⟩,
 ⟨some 16, .binOp .neq 30 (.tmp 15) (.const (.int .i64 0)) 30, 4, none⟩,
 ⟨some 17, .move (.tmp 16), 4, none⟩,
 ⟨some 18, .move (.tmp 5), 46, (some (17, false))⟩,
 ⟨some 19, .call ⟨.value (.func 43), #[(.tmp 18), (.const (.int .i64 50))], #[46, 3]⟩, 30, (some (17, false))⟩,
 ⟨some 20, .move (.tmp 6), 30, (some (17, false))⟩,
 ⟨some 21, .binOp .neq 30 (.tmp 19) (.tmp 20) 30, 4, (some (17, false))⟩,
 ⟨some 22, .pick (.tmp 17) (.const (.bool true)) (.tmp 21), 4, none⟩] [5, 22]) (sg c17S0)) (sg c17S5))
noncomputable def c17 : Cmd := (.seq (.ops [
 ⟨some 2, .assign (.const (.pointer none)), 46, none⟩,
 ⟨some 3, .assign (.const (.pointer none)), 25, none⟩,
 ⟨some 4, .assign (.const (.pointer none)), 24, none⟩] [0])
 (.seq (.ops [
 ⟨some 10, .move (.tmp 0), 3, none⟩,
 ⟨some 11, .binOp .add 3 (.tmp 10) (.const (.int .i64 52)) 3, 3, none⟩,
 ⟨some 12, .call ⟨.value (.func 42), #[(.tmp 11)], #[3]⟩, 75, none⟩,
 ⟨some 9, .move (.tmp 12), 75, none⟩,
 ⟨some 13, .extract (.tmp 9) 0, 46, none⟩,
 ⟨some 14, .extract (.tmp 9) 1, 30, none⟩,
 ⟨some 5, .assign (.tmp 13), 46, none⟩,
 ⟨some 6, .assign (.tmp 14), 30, none⟩] [5, 6]) (sg c17S6)))
set_option maxRecDepth 100000 in
theorem ent17 (a0 : Value) (w : World) (K : Value → World → Prop) (h : W Tryz.prog c17 [(0, a0)] w (finQ Tryz.prog [.tmp 2, .tmp 3, .tmp 4] K)) : Ret Tryz.prog 17 [a0] w K :=
  Ret_of_W (code := c17code) Tryz.func17 (by kernel_rfl) (by kernel_rfl) (of_decide_eq_true (by kernel_rfl)) h
@[go_sem] theorem go17 : goFunc Tryz.prog 17 = true := by kernel_rfl
noncomputable def c14code : Code := match Tryz.f14.body with | some c => c | none => .skip
noncomputable def c14S0 (_ : Unit) : Cmd := (.cond (.tmp 8)
  (.seq (.ops [
  ⟨some 2, .assign (.const (.int .i64 3)), 30, none⟩] [2])
  .ret)
  (.skip [0]))
noncomputable def c14S1 (_ : Unit) : Cmd := (.cond (.tmp 14)
  (.seq (.ops [
  ⟨some 2, .assign (.const (.int .i64 1)), 30, none⟩] [2])
  .ret)
  (.skip [0]))
noncomputable def c14S2 (_ : Unit) : Cmd := (.ops [
 ⟨some 25, .binOp .add 3 (.tmp 16) (.const (.int .i64 1)) 3, 3, none⟩,
 ⟨some 16, .move (.tmp 25), 3, none⟩] [0, 3, 16])
noncomputable def c14S3 (_ : Unit) : Cmd := (.seq (.block 1 (.seq (.ops [
 ⟨some 18, .move (.tmp 16), 3, none⟩,
 ⟨some 4, .assign (.tmp 18), 3, none⟩] [0, 3, 4, 16])
 (.ops [
 ⟨some 20, .move (.tmp 3), 9, none⟩,
 ⟨some 21, .move (.tmp 4), 3, none⟩,
 ⟨some 22, .call ⟨.value (.func 28), #[(.tmp 20), (.tmp 21), (.const (.bool true))], #[9, 3, 4]⟩, 66, none⟩,
 ⟨some 19, .move (.tmp 22), 66, none⟩,
 ⟨some 23, .extract (.tmp 19) 0, 9, none⟩,
 ⟨some 24, .extract (.tmp 19) 1, 4, none⟩,
 ⟨some 3, .assign (.tmp 23), 9, none⟩] [0, 3, 16]))) (sg c14S2))
noncomputable def c14L0 (_ : Unit) : Cmd := (.seq (.ops [
 ⟨some 17, .binOp .lss 3 (.tmp 16) (.const (.int .i64 2)) 3, 4, none⟩] [0, 3, 16, 17])
 (.seq (.cond (.tmp 17)
  (.skip [0, 3, 16])
  (.exit 0 [0, 3])) (sg c14S3)))
noncomputable def c14S4 (_ : Unit) : Cmd := (.seq (.ops [
 ⟨some 29, .move (.tmp 5), 30, none⟩,
 ⟨some 30, .binOp .neq 30 (.tmp 29) (.const (.int .i64 0)) 30, 4, none⟩] [0, 5, 30])
 (.cond (.tmp 30)
  (.seq (.ops [
  ⟨some 31, .move (.tmp 5), 30, none⟩,
  ⟨some 2, .assign (.tmp 31), 30, none⟩] [2])
  .ret)
  (.skip [0])))
noncomputable def c14S5 (_ : Unit) : Cmd := .ret
noncomputable def c14S6 (_ : Unit) : Cmd := (.seq (.ops [
 ⟨some 32, .move (.tmp 0), 24, none⟩,
 ⟨some 33, .call ⟨.value (.func 29), #[(.tmp 32), (.const (.int .i64 1)), (.const (.string (ofL [])))], #[24, 3, 9]⟩, 30, none⟩,
 ⟨some 2, .assign (.tmp 33), 30, none⟩] [2]) (sg c14S5))
noncomputable def c14S7 (_ : Unit) : Cmd := (.seq (.seq (.ops [
 ⟨some 26, .move (.tmp 0), 24, none⟩,
 ⟨some 27, .move (.tmp 3), 9, none⟩,
 ⟨some 28, .call ⟨.value (.func 29), #[(.tmp 26), (.const (.int .i64 0)), (.tmp 27)], #[24, 3, 9]⟩, 30, none⟩,
 ⟨some 5, .assign (.tmp 28), 30, none⟩] [0, 5]) (sg c14S4)) (sg c14S6))
noncomputable def c14S8 (_ : Unit) : Cmd := (.seq (.seq (.ops [
 ⟨some 16, .move (.const (.int .i64 0)), 3, none⟩] [0, 3, 16])
 (.block 0 (.loop (sg c14L0)))) (sg c14S7))
noncomputable def c14S9 (_ : Unit) : Cmd := (.seq (.ops [
 ⟨some 15, .call ⟨.value (.func 40), #[(.const (.int .i64 2048))], #[3]⟩, 9, none⟩,
 ⟨some 3, .assign (.tmp 15), 9, none⟩] [0, 3]) (sg c14S8))
noncomputable def c14S10 (_ : Unit) : Cmd := (.seq (.seq (.ops [
 ⟨some 9, .move (.tmp 0), 24, none⟩,
 ⟨some 10, .nilCheck (.tmp 9), 0, none⟩,
 ⟨some 11, .fieldAddr 28 (.tmp 10) 0, 0, none⟩,
 ⟨some 12, .load 25 (.tmp 11), 25, none⟩,
 ⟨some 13, .call ⟨.value (.func 23), #[(.tmp 12)], #[25]⟩, 3, none⟩,
 ⟨some 14, .binOp .leq 3 (.tmp 13) (.const (.int .i64 2)) 3, 4, none⟩] [0, 14]) (sg c14S1)) (sg c14S9))
noncomputable def c14 : Cmd := (.seq (.ops [
 ⟨some 2, .assign (.const (.int .i64 0)), 30, none⟩] [0])
 (.seq (.seq (.ops [
 ⟨some 6, .move (.tmp 0), 24, none⟩,
 ⟨some 7, .call ⟨.value (.func 32), #[(.tmp 6)], #[24]⟩, 4, none⟩,
 ⟨some 8, .unOp .not 4 (.tmp 7), 4, none⟩] [0, 8]) (sg c14S0)) (sg c14S10)))
set_option maxRecDepth 100000 in
theorem ent14 (a0 : Value) (w : World) (K : Value → World → Prop) (h : W Tryz.prog c14 [(0, a0)] w (finQ Tryz.prog [.tmp 2] K)) : Ret Tryz.prog 14 [a0] w K :=
  Ret_of_W (code := c14code) Tryz.func14 (by kernel_rfl) (by kernel_rfl) (of_decide_eq_true (by kernel_rfl)) h
@[go_sem] theorem go14 : goFunc Tryz.prog 14 = true := by kernel_rfl
noncomputable def c5code : Code := match Tryz.f5.body with | some c => c | none => .skip
noncomputable def c5S0 (_ : Unit) : Cmd := (.seq (.ops [
 ⟨some 38, .move (.tmp 8), 30, none⟩,
 ⟨some 39, .binOp .neq 30 (.tmp 38) (.const (.int .i64 0)) 30, 4, none⟩] [0, 6, 8, 39])
 (.cond (.tmp 39)
  (.seq (.ops [
  ⟨some 40, .move (.tmp 8), 30, none⟩,
  ⟨some 2, .assign (.const (.int .i64 0)), 3, none⟩,
  ⟨some 3, .assign (.tmp 40), 30, none⟩] [2, 3])
  .ret)
  (.skip [0, 6])))
noncomputable def c5S1 (_ : Unit) : Cmd := .ret
noncomputable def c5S2 (_ : Unit) : Cmd := (.seq (.ops [
 ⟨some 41, .move (.tmp 6), 3, none⟩,
 ⟨some 42, .move (.tmp 0), 24, none⟩,
 ⟨some 43, .move (.tmp 6), 3, none⟩,
 ⟨some 44, .call ⟨.value (.func 29), #[(.tmp 42), (.tmp 43), (.const (.string (ofL [])))], #[24, 3, 9]⟩, 30, none⟩,
 ⟨some 2, .assign (.tmp 41), 3, none⟩,
 ⟨some 3, .assign (.tmp 44), 30, none⟩] [2, 3]) (sg c5S1))
noncomputable def c5S3 (_ : Unit) : Cmd := (.seq (.seq (.ops [
 ⟨some 35, .move (.tmp 0), 24, none⟩,
 ⟨some 36, .move (.tmp 4), 9, none⟩,
 ⟨some 37, .call ⟨.value (.func 29), #[(.tmp 35), (.const (.int .i64 0)), (.tmp 36)], #[24, 3, 9]⟩, 30, none⟩,
 ⟨some 8, .assign (.tmp 37), 30, none⟩] [0, 6, 8]) (sg c5S0)) (sg c5S2))
noncomputable def c5S4 (_ : Unit) : Cmd := (.seq (.ops [
 ⟨some 30, .move (.tmp 4), 9, none⟩,
 ⟨some 31, .move (.tmp 6), 3, none⟩,
 ⟨some 32, .call ⟨.value (.func 28), #[(.tmp 30), (.tmp 31), (.const (.bool true))], #[9, 3, 4]⟩, 66, none⟩,
 ⟨some 29, .move (.tmp 32), 66, none⟩,
 ⟨some 33, .extract (.tmp 29) 0, 9, none⟩,
 ⟨some 34, .extract (.tmp 29) 1, 4, none⟩,
 ⟨some 4, .assign (.tmp 33), 9, none⟩] [0, 4, 6]) (sg c5S3))
noncomputable def c5S5 (_ : Unit) : Cmd := (.seq (.seq (.ops [
 ⟨some 27, .move (.tmp 7), 4, none⟩,
 ⟨some 28, .unOp .not 4 (.tmp 27), 4, none⟩] [0, 4, 6, 28])
 (.cond (.tmp 28)
  (.seq (.ops [
  ⟨some 2, .assign (.const (.int .i64 0)), 3, none⟩,
  ⟨some 3, .assign (.const (.int .i64 13)), 30, none⟩] [2, 3])
  .ret)
  (.skip [0, 4, 6]))) (sg c5S4))
noncomputable def c5S6 (_ : Unit) : Cmd := (.seq (.ops [
 ⟨some 18, .move (.tmp 4), 9, none⟩,
 ⟨some 19, .move (.tmp 0), 24, none⟩,
 ⟨some 20, .nilCheck (.tmp 19), 0, none⟩,
 ⟨some 21, .fieldAddr 28 (.tmp 20) 0, 0, none⟩,
 ⟨some 22, .load 25 (.tmp 21), 25, none⟩,
 ⟨some 23, .call ⟨.value (.func 23), #[(.tmp 22)], #[25]⟩, 3, none⟩,
 ⟨some 24, .call ⟨.value (.func 27), #[(.tmp 18), (.const (.int .i64 2)), (.tmp 23)], #[9, 3, 3]⟩, 64, none⟩,
 ⟨some 17, .move (.tmp 24), 64, none⟩,
 ⟨some 25, .extract (.tmp 17) 0, 3, none⟩,
 ⟨some 26, .extract (.tmp 17) 1, 4, none⟩,
 ⟨some 6, .assign (.tmp 25), 3, none⟩,
 ⟨some 7, .assign (.tmp 26), 4, none⟩] [0, 4, 6, 7]) (sg c5S5))
noncomputable def c5S7 (_ : Unit) : Cmd := (.seq (.seq (.ops [
 ⟨some 14, .move (.tmp 5), 30, none⟩,
 ⟨some 15, .binOp .neq 30 (.tmp 14) (.const (.int .i64 0)) 30, 4, none⟩] [0, 4, 5, 15])
 (.cond (.tmp 15)
  (.seq (.ops [
  ⟨some 16, .move (.tmp 5), 30, none⟩,
  ⟨some 2, .assign (.const (.int .i64 0)), 3, none⟩,
  ⟨some 3, .assign (.tmp 16), 30, none⟩] [2, 3])
  .ret)
  (.skip [0, 4]))) (sg c5S6))
noncomputable def c5 : Cmd := (.seq (.ops [
 ⟨some 2, .assign (.const (.int .i64 0)), 3, none⟩,
 ⟨some 3, .assign (.const (.int .i64 0)), 30, none⟩] [0])
 (.seq (.ops [
 ⟨some 10, .move (.tmp 0), 24, none⟩,
 ⟨some 11, .call ⟨.value (.func 26), #[(.tmp 10)], #[24]⟩, 33, none⟩,
 ⟨some 9, .move (.tmp 11), 33, none⟩,
 ⟨some 12, .extract (.tmp 9) 0, 9, none⟩,
 ⟨some 13, .extract (.tmp 9) 1, 30, none⟩,
 ⟨some 4, .assign (.tmp 12), 9, none⟩,
 ⟨some 5, .assign (.tmp 13), 30, none⟩] [0, 4, 5]) (sg c5S7)))
set_option maxRecDepth 100000 in
theorem ent5 (a0 : Value) (w : World) (K : Value → World → Prop) (h : W Tryz.prog c5 [(0, a0)] w (finQ Tryz.prog [.tmp 2, .tmp 3] K)) : Ret Tryz.prog 5 [a0] w K :=
  Ret_of_W (code := c5code) Tryz.func5 (by kernel_rfl) (by kernel_rfl) (of_decide_eq_true (by kernel_rfl)) h
@[go_sem] theorem go5 : goFunc Tryz.prog 5 = true := by kernel_rfl
noncomputable def c12code : Code := match Tryz.f12.body with | some c => c | none => .skip
noncomputable def c12S0 (_ : Unit) : Cmd := (.cond (.tmp 37)
  (.ops [
  ⟨some 38, .move (.tmp 6), 3, none⟩,
  ⟨some 39, .binOp .sub 3 (.tmp 38) (.const (.int .i64 1)) 3, 3, none⟩,
  ⟨some 6, .assign (.tmp 39), 3, none⟩] [3, 5, 6, 7])
  (.skip [3, 5, 6, 7]))
noncomputable def c12S1 (_ : Unit) : Cmd := (.ops [
 ⟨some 33, .move (.tmp 7), 3, none⟩,
 ⟨some 34, .binOp .add 3 (.tmp 33) (.const (.int .i64 1)) 3, 3, none⟩,
 ⟨some 7, .assign (.tmp 34), 3, none⟩] [3, 5, 6, 7])
noncomputable def c12S2 (_ : Unit) : Cmd := (.seq (.block 1 (.seq (.ops [
 ⟨some 35, .move (.tmp 3), 9, none⟩,
 ⟨some 36, .move (.tmp 7), 3, none⟩,
 ⟨some 37, .call ⟨.value (.func 38), #[(.tmp 35), (.tmp 36)], #[9, 3]⟩, 4, none⟩] [3, 5, 6, 7, 37]) (sg c12S0))) (sg c12S1))
noncomputable def c12L0 (_ : Unit) : Cmd := (.seq (.seq (.ops [
 ⟨some 30, .move (.tmp 7), 3, none⟩,
 ⟨some 31, .move (.tmp 5), 3, none⟩,
 ⟨some 32, .binOp .lss 3 (.tmp 30) (.tmp 31) 3, 4, none⟩] [3, 5, 6, 7, 32])
 (.cond (.tmp 32)
  (.skip [3, 5, 6, 7])
  (.exit 0 [6]))) (sg c12S2))
noncomputable def c12S3 (_ : Unit) : Cmd := (.seq (.ops [
 ⟨some 40, .move (.tmp 6), 3, none⟩,
 ⟨some 2, .assign (.tmp 40), 3, none⟩] [2])
 .ret)
noncomputable def c12S4 (_ : Unit) : Cmd := (.seq (.seq (.ops [
 ⟨some 27, .move (.tmp 5), 3, none⟩,
 ⟨some 28, .binOp .quo 3 (.tmp 27) (.const (.int .i64 8)) 3, 3, none⟩,
 ⟨some 29, .binOp .mul 3 (.tmp 28) (.const (.int .i64 8)) 3, 3, none⟩,
 ⟨some 7, .assign (.tmp 29), 3, none⟩] [3, 5, 6, 7])
 (.block 0 (.loop (sg c12L0)))) (sg c12S3))
noncomputable def c12S5 (_ : Unit) : Cmd := (.seq (.ops [
 ⟨some 20, .move (.tmp 5), 3, none⟩,
 ⟨some 21, .move (.tmp 3), 9, none⟩,
 ⟨some 22, .move (.tmp 5), 3, none⟩,
 ⟨some 23, .binOp .quo 3 (.tmp 22) (.const (.int .i64 8)) 3, 3, none⟩,
 ⟨some 24, .slice 9 (.tmp 21) none (some (.tmp 23)) none, 9, none⟩,
 ⟨some 25, .call ⟨.value (.func 37), #[(.tmp 24)], #[9]⟩, 3, none⟩,
 ⟨some 26, .binOp .sub 3 (.tmp 20) (.tmp 25) 3, 3, none⟩,
 ⟨some 6, .assign (.tmp 26), 3, none⟩] [3, 5, 6]) (sg c12S4))
noncomputable def c12S6 (_ : Unit) : Cmd := (.seq (.ops [
 ⟨some 15, .move (.tmp 0), 24, none⟩,
 ⟨some 16, .nilCheck (.tmp 15), 0, none⟩,
 ⟨some 17, .fieldAddr 28 (.tmp 16) 0, 0, none⟩,
 ⟨some 18, .load 25 (.tmp 17), 25, none⟩,
 ⟨some 19, .call ⟨.value (.func 23), #[(.tmp 18)], #[25]⟩, 3, none⟩,
 ⟨some 5, .assign (.tmp 19), 3, none⟩] [3, 5]) (sg c12S5))
noncomputable def c12S7 (_ : Unit) : Cmd := (.seq (.seq (.ops [
 ⟨some 13, .move (.tmp 4), 30, none⟩,
 ⟨some 14, .binOp .neq 30 (.tmp 13) (.const (.int .i64 0)) 30, 4, none⟩] [0, 3, 14])
 (.cond (.tmp 14)
  (.seq (.ops [
  ⟨some 2, .assign (.const (.int .i64 0)), 3, none⟩] [2])
  .ret)
  (.skip [0, 3]))) (sg c12S6))
noncomputable def c12 : Cmd := (.seq (.ops [
 ⟨some 2, .assign (.const (.int .i64 0)), 3, none⟩] [0])
 (.seq (.ops [
 ⟨some 9, .move (.tmp 0), 24, none⟩,
 ⟨some 10, .call ⟨.value (.func 26), #[(.tmp 9)], #[24]⟩, 33, none⟩,
 ⟨some 8, .move (.tmp 10), 33, none⟩,
 ⟨some 11, .extract (.tmp 8) 0, 9, none⟩,
 ⟨some 12, .extract (.tmp 8) 1, 30, none⟩,
 ⟨some 3, .assign (.tmp 11), 9, none⟩,
 ⟨some 4, .assign (.tmp 12), 30, none⟩] [0, 3, 4]) (sg c12S7)))
set_option maxRecDepth 100000 in
theorem ent12 (a0 : Value) (w : World) (K : Value → World → Prop) (h : W Tryz.prog c12 [(0, a0)] w (finQ Tryz.prog [.tmp 2] K)) : Ret Tryz.prog 12 [a0] w K :=
  Ret_of_W (code := c12code) Tryz.func12 (by kernel_rfl) (by kernel_rfl) (of_decide_eq_true (by kernel_rfl)) h
@[go_sem] theorem go12 : goFunc Tryz.prog 12 = true := by kernel_rfl
noncomputable def c9code : Code := match Tryz.f9.body with | some c => c | none => .skip
noncomputable def c9S0 (_ : Unit) : Cmd := (.seq (.ops [
 ⟨some 11, .move (.tmp 5), 30, none⟩,
 ⟨some 12, .binOp .neq 30 (.tmp 11) (.const (.int .i64 0)) 30, 4, none⟩] [0, 1, 5, 12])
 (.cond (.tmp 12)
  (.seq (.ops [
  ⟨some 13, .move (.tmp 5), 30, none⟩,
  ⟨some 4, .assign (.tmp 13), 30, none⟩] [4])
  .ret)
  (.skip [0, 1])))
noncomputable def c9S1 (_ : Unit) : Cmd := .ret
noncomputable def c9S2 (_ : Unit) : Cmd := (.seq (.ops [
 ⟨some 25, .move (.tmp 0), 24, none⟩,
 ⟨some 26, .move (.tmp 6), 9, none⟩,
 ⟨some 27, .call ⟨.value (.func 29), #[(.tmp 25), (.const (.int .i64 0)), (.tmp 26)], #[24, 3, 9]⟩, 30, none⟩,
 ⟨some 4, .assign (.tmp 27), 30, none⟩] [4]) (sg c9S1))
noncomputable def c9S3 (_ : Unit) : Cmd := (.seq (.ops [
 ⟨some 20, .move (.tmp 6), 9, none⟩,
 ⟨some 21, .move (.tmp 1), 3, none⟩,
 ⟨some 22, .call ⟨.value (.func 28), #[(.tmp 20), (.tmp 21), (.const (.bool false))], #[9, 3, 4]⟩, 66, none⟩,
 ⟨some 19, .move (.tmp 22), 66, none⟩,
 ⟨some 23, .extract (.tmp 19) 0, 9, none⟩,
 ⟨some 24, .extract (.tmp 19) 1, 4, none⟩,
 ⟨some 6, .assign (.tmp 23), 9, none⟩] [0, 6]) (sg c9S2))
noncomputable def c9S4 (_ : Unit) : Cmd := (.seq (.ops [
 ⟨some 15, .move (.tmp 0), 24, none⟩,
 ⟨some 16, .call ⟨.value (.func 26), #[(.tmp 15)], #[24]⟩, 33, none⟩,
 ⟨some 14, .move (.tmp 16), 33, none⟩,
 ⟨some 17, .extract (.tmp 14) 0, 9, none⟩,
 ⟨some 18, .extract (.tmp 14) 1, 30, none⟩,
 ⟨some 6, .assign (.tmp 17), 9, none⟩,
 ⟨some 7, .assign (.tmp 18), 30, none⟩] [0, 1, 6]) (sg c9S3))
noncomputable def c9 : Cmd := (.seq (.ops [
 ⟨some 4, .assign (.const (.int .i64 0)), 30, none⟩] [0, 1])
 (.seq (.seq (.ops [
 ⟨some 8, .move (.tmp 0), 24, none⟩,
 ⟨some 9, .move (.tmp 1), 3, none⟩,
 ⟨some 10, .call ⟨.value (.func 30), #[(.tmp 8), (.tmp 9)], #[24, 3]⟩, 30, none⟩,
 ⟨some 5, .assign (.tmp 10), 30, none⟩] [0, 1, 5]) (sg c9S0)) (sg c9S4)))
set_option maxRecDepth 100000 in
theorem ent9 (a0 a1 : Value) (w : World) (K : Value → World → Prop) (h : W Tryz.prog c9 [(0, a0), (1, a1)] w (finQ Tryz.prog [.tmp 4] K)) : Ret Tryz.prog 9 [a0, a1] w K :=
  Ret_of_W (code := c9code) Tryz.func9 (by kernel_rfl) (by kernel_rfl) (of_decide_eq_true (by kernel_rfl)) h
@[go_sem] theorem go9 : goFunc Tryz.prog 9 = true := by kernel_rfl
noncomputable def c16code : Code := match Tryz.f16.body with | some c => c | none => .skip
noncomputable def c16S0 (_ : Unit) : Cmd := (.cond (.tmp 23)
  (.seq (.ops [
  ⟨some 0, .assign (.const (.bool false)), 4, none⟩] [0])
  .ret)
  (.skip [3]))
noncomputable def c16S1 (_ : Unit) : Cmd := (.seq (.ops [
 ⟨some 41, .move (.tmp 5), 30, none⟩,
 ⟨some 42, .binOp .eql 30 (.tmp 41) (.const (.int .i64 0)) 30, 4, none⟩,
 ⟨some 43, .move (.tmp 42), 4, none⟩,
 ⟨some 44, .move (.tmp 7), 30, (some (43, true))⟩,
 ⟨some 45, .move (.tmp 5), 30, (some (43, true))⟩,
 ⟨some 46, .binOp .eql 30 (.tmp 44) (.tmp 45) 30, 4, (some (43, true))⟩,
 ⟨some 47, .pick (.tmp 43) (.tmp 46) (.const (.bool false)), 4, none⟩,
 ⟨some 48, .move (.tmp 47), 4, none⟩,
 ⟨some 49, .move (.tmp 8), 30, (some (48, true))⟩,
 ⟨some 50, .move (.tmp 5), 30, (some (48, true))⟩,
 ⟨some 51, .binOp .eql 30 (.tmp 49) (.tmp 50) 30, 4, (some (48, true))⟩,
 ⟨some 52, .pick (.tmp 48) (.tmp 51) (.const (.bool false)), 4, none⟩,
 ⟨some 53, .move (.tmp 52), 4, none⟩,
 ⟨some 54, .move (.tmp 10), 30, (some (53, true))⟩,
 ⟨some 55, .move (.tmp 5), 30, (some (53, true))⟩,
 ⟨some 56, .binOp .eql 30 (.tmp 54) (.tmp 55) 30, 4, (some (53, true))⟩,
 ⟨some 57, .pick (.tmp 53) (.tmp 56) (.const (.bool false)), 4, none⟩,
 ⟨some 58, .move (.tmp 57), 4, none⟩,
 ⟨some 59, .move (.tmp 4), 3, (some (58, true))⟩,
 ⟨some 60, .binOp .eql 3 (.tmp 59) (.const (.int .i64 2)) 3, 4, (some (58, true))⟩,
 ⟨some 61, .pick (.tmp 58) (.tmp 60) (.const (.bool false)), 4, none⟩,
 ⟨some 62, .move (.tmp 61), 4, none⟩,
 ⟨some 63, .move (.tmp 6), 3, (some (62, true))⟩,
 ⟨some 64, .binOp .eql 3 (.tmp 63) (.const (.int .i64 3)) 3, 4, (some (62, true))⟩,
 ⟨some 65, .pick (.tmp 62) (.tmp 64) (.const (.bool false)), 4, none⟩,
 ⟨some 66, .move (.tmp 65), 4, none⟩,
 ⟨some 67, .move (.tmp 9), 3, (some (66, true))⟩,
 ⟨some 68, .binOp .eql 3 (.tmp 67) (.const (.int .i64 2)) 3, 4, (some (66, true))⟩,
 ⟨some 69, .pick (.tmp 66) (.tmp 68) (.const (.bool false)), 4, none⟩,
 ⟨some 0, .assign (.tmp 69), 4, none⟩] [0])
 .ret)
noncomputable def c16S2 (_ : Unit) : Cmd := (.seq (.ops [
 ⟨some 37, .move (.tmp 3), 24, none⟩,
 ⟨some 38, .call ⟨.value (.func 5), #[(.tmp 37)], #[24]⟩, 31, none⟩,
 ⟨some 36, .move (.tmp 38), 31, none⟩,
 ⟨some 39, .extract (.tmp 36) 0, 3, none⟩,
 ⟨some 40, .extract (.tmp 36) 1, 30, none⟩,
 ⟨some 9, .assign (.tmp 39), 3, none⟩,
 ⟨some 10, .assign (.tmp 40), 30, none⟩] [4, 5, 6, 7, 8, 9, 10]) (sg c16S1))
noncomputable def c16S3 (_ : Unit) : Cmd := (.seq (.ops [
 ⟨some 34, .move (.tmp 3), 24, none⟩,
 ⟨some 35, .call ⟨.value (.func 9), #[(.tmp 34), (.const (.int .i64 2))], #[24, 3]⟩, 30, none⟩,
 ⟨some 8, .assign (.tmp 35), 30, none⟩] [3, 4, 5, 6, 7, 8]) (sg c16S2))
noncomputable def c16S4 (_ : Unit) : Cmd := (.seq (.ops [
 ⟨some 30, .move (.tmp 3), 24, none⟩,
 ⟨some 31, .call ⟨.value (.func 5), #[(.tmp 30)], #[24]⟩, 31, none⟩,
 ⟨some 29, .move (.tmp 31), 31, none⟩,
 ⟨some 32, .extract (.tmp 29) 0, 3, none⟩,
 ⟨some 33, .extract (.tmp 29) 1, 30, none⟩,
 ⟨some 6, .assign (.tmp 32), 3, none⟩,
 ⟨some 7, .assign (.tmp 33), 30, none⟩] [3, 4, 5, 6, 7]) (sg c16S3))
noncomputable def c16S5 (_ : Unit) : Cmd := (.seq (.ops [
 ⟨some 25, .move (.tmp 3), 24, none⟩,
 ⟨some 26, .call ⟨.value (.func 5), #[(.tmp 25)], #[24]⟩, 31, none⟩,
 ⟨some 24, .move (.tmp 26), 31, none⟩,
 ⟨some 27, .extract (.tmp 24) 0, 3, none⟩,
 ⟨some 28, .extract (.tmp 24) 1, 30, none⟩,
 ⟨some 4, .assign (.tmp 27), 3, none⟩,
 ⟨some 5, .assign (.tmp 28), 30, none⟩] [3, 4, 5]) (sg c16S4))
noncomputable def c16S6 (_ : Unit) : Cmd := (.seq (.seq (.ops [
 ⟨some 16, .move (.tmp 3), 24, none⟩,
 ⟨some 17, .call ⟨.value (.func 14), #[(.tmp 16)], #[24]⟩, 30, none⟩,
 ⟨some 18, .binOp .neq 30 (.tmp 17) (.const (.int .i64 0)) 30, 4, none⟩,
 ⟨some 19, .move (.tmp 18), 4, none⟩,
 ⟨some 20, .move (.tmp 3), 24, (some (19, false))⟩,
 ⟨some 21, .call ⟨.value (.func 12), #[(.tmp 20)], #[24]⟩, 3, (some (19, false))⟩,
 ⟨some 22, .binOp .neq 3 (.tmp 21) (.const (.int .i64 3)) 3, 4, (some (19, false))⟩,
 ⟨some 23, .pick (.tmp 19) (.const (.bool true)) (.tmp 22), 4, none⟩] [3, 23]) (sg c16S0)) (sg c16S5))
noncomputable def c16 : Cmd := (.seq (.ops [
 ⟨some 0, .assign (.const (.bool false)), 4, none⟩] [])
 (.seq (.ops [
 ⟨some 12, .call ⟨.value (.func 17), #[(.const (.int .i64 5))], #[3]⟩, 47, none⟩,
 ⟨some 11, .move (.tmp 12), 47, none⟩,
 ⟨some 13, .extract (.tmp 11) 0, 46, none⟩,
 ⟨some 14, .extract (.tmp 11) 1, 25, none⟩,
 ⟨some 15, .extract (.tmp 11) 2, 24, none⟩,
 ⟨some 1, .assign (.tmp 13), 46, none⟩,
 ⟨some 2, .assign (.tmp 14), 25, none⟩,
 ⟨some 3, .assign (.tmp 15), 24, none⟩] [3]) (sg c16S6)))
set_option maxRecDepth 100000 in
theorem ent16 (w : World) (K : Value → World → Prop) (h : W Tryz.prog c16 [] w (finQ Tryz.prog [.tmp 0] K)) : Ret Tryz.prog 16 [] w K :=
  Ret_of_W (code := c16code) Tryz.func16 (by kernel_rfl) (by kernel_rfl) (of_decide_eq_true (by kernel_rfl)) h
@[go_sem] theorem go16 : goFunc Tryz.prog 16 = true := by kernel_rfl
noncomputable def c10code : Code := match Tryz.f10.body with | some c => c | none => .skip
noncomputable def c10S0 (_ : Unit) : Cmd := (.seq (.ops [
 ⟨some 11, .move (.tmp 7), 30, none⟩,
 ⟨some 12, .binOp .neq 30 (.tmp 11) (.const (.int .i64 0)) 30, 4, none⟩] [0, 1, 2, 7, 12])
 (.cond (.tmp 12)
  (.seq (.ops [
  ⟨some 13, .move (.tmp 7), 30, none⟩,
  ⟨some 6, .assign (.tmp 13), 30, none⟩] [6])
  .ret)
  (.skip [0, 1, 2])))
noncomputable def c10S1 (_ : Unit) : Cmd := .ret
noncomputable def c10S2 (_ : Unit) : Cmd := (.seq (.ops [
 ⟨some 14, .move (.tmp 0), 24, none⟩,
 ⟨some 15, .move (.tmp 1), 3, none⟩,
 ⟨some 16, .move (.tmp 2), 9, none⟩,
 ⟨some 17, .call ⟨.value (.func 29), #[(.tmp 14), (.tmp 15), (.tmp 16)], #[24, 3, 9]⟩, 30, none⟩,
 ⟨some 6, .assign (.tmp 17), 30, none⟩] [6]) (sg c10S1))
noncomputable def c10 : Cmd := (.seq (.ops [
 ⟨some 6, .assign (.const (.int .i64 0)), 30, none⟩] [0, 1, 2])
 (.seq (.seq (.ops [
 ⟨some 8, .move (.tmp 0), 24, none⟩,
 ⟨some 9, .move (.tmp 1), 3, none⟩,
 ⟨some 10, .call ⟨.value (.func 30), #[(.tmp 8), (.tmp 9)], #[24, 3]⟩, 30, none⟩,
 ⟨some 7, .assign (.tmp 10), 30, none⟩] [0, 1, 2, 7]) (sg c10S0)) (sg c10S2)))
set_option maxRecDepth 100000 in
theorem ent10 (a0 a1 a2 : Value) (w : World) (K : Value → World → Prop) (h : W Tryz.prog c10 [(0, a0), (1, a1), (2, a2)] w (finQ Tryz.prog [.tmp 6] K)) : Ret Tryz.prog 10 [a0, a1, a2] w K :=
  Ret_of_W (code := c10code) Tryz.func10 (by kernel_rfl) (by kernel_rfl) (of_decide_eq_true (by kernel_rfl)) h
@[go_sem] theorem go10 : goFunc Tryz.prog 10 = true := by kernel_rfl
noncomputable def c6code : Code := match Tryz.f6.body with | some c => c | none => .skip
noncomputable def c6S0 (_ : Unit) : Cmd := (.seq (.ops [
 ⟨some 10, .move (.tmp 6), 30, none⟩,
 ⟨some 11, .binOp .neq 30 (.tmp 10) (.const (.int .i64 0)) 30, 4, none⟩] [0, 1, 6, 11])
 (.cond (.tmp 11)
  (.seq (.ops [
  ⟨some 12, .move (.tmp 6), 30, none⟩,
  ⟨some 4, .assign (.const (.string (ofL []))), 9, none⟩,
  ⟨some 5, .assign (.tmp 12), 30, none⟩] [4, 5])
  .ret)
  (.skip [0, 1])))
noncomputable def c6S1 (_ : Unit) : Cmd := .ret
noncomputable def c6S2 (_ : Unit) : Cmd := (.seq (.ops [
 ⟨some 13, .move (.tmp 0), 24, none⟩,
 ⟨some 14, .move (.tmp 1), 3, none⟩,
 ⟨some 15, .call ⟨.value (.func 31), #[(.tmp 13), (.tmp 14)], #[24, 3]⟩, 33, none⟩,
 ⟨some 16, .extract (.tmp 15) 0, 9, none⟩,
 ⟨some 17, .extract (.tmp 15) 1, 30, none⟩,
 ⟨some 4, .assign (.tmp 16), 9, none⟩,
 ⟨some 5, .assign (.tmp 17), 30, none⟩] [4, 5]) (sg c6S1))
noncomputable def c6 : Cmd := (.seq (.ops [
 ⟨some 4, .assign (.const (.string (ofL []))), 9, none⟩,
 ⟨some 5, .assign (.const (.int .i64 0)), 30, none⟩] [0, 1])
 (.seq (.seq (.ops [
 ⟨some 7, .move (.tmp 0), 24, none⟩,
 ⟨some 8, .move (.tmp 1), 3, none⟩,
 ⟨some 9, .call ⟨.value (.func 30), #[(.tmp 7), (.tmp 8)], #[24, 3]⟩, 30, none⟩,
 ⟨some 6, .assign (.tmp 9), 30, none⟩] [0, 1, 6]) (sg c6S0)) (sg c6S2)))
set_option maxRecDepth 100000 in
theorem ent6 (a0 a1 : Value) (w : World) (K : Value → World → Prop) (h : W Tryz.prog c6 [(0, a0), (1, a1)] w (finQ Tryz.prog [.tmp 4, .tmp 5] K)) : Ret Tryz.prog 6 [a0, a1] w K :=
  Ret_of_W (code := c6code) Tryz.func6 (by kernel_rfl) (by kernel_rfl) (of_decide_eq_true (by kernel_rfl)) h
@[go_sem] theorem go6 : goFunc Tryz.prog 6 = true := by kernel_rfl
noncomputable def c44code : Code := match Tryz.f44.body with | some c => c | none => .skip
noncomputable def c44 : Cmd := (.seq (.ops [
 ⟨some 2, .assign (.const (.string (ofL []))), 9, none⟩] [0])
 (.seq (.ops [
 ⟨some 3, .move (.tmp 0), 9, none⟩,
 ⟨some 4, .move (.tmp 0), 9, none⟩,
 ⟨some 5, .call ⟨.builtin .len, #[(.tmp 4)], #[9]⟩, 3, none⟩,
 ⟨some 6, .binOp .sub 3 (.const (.int .i64 256)) (.tmp 5) 3, 3, none⟩,
 ⟨some 7, .makeSlice 106 (.tmp 6) (.tmp 6), 106, none⟩,
 ⟨some 8, .convert 106 9 (.tmp 7), 9, none⟩,
 ⟨some 9, .binOp .add 9 (.tmp 3) (.tmp 8) 9, 9, none⟩,
 ⟨some 2, .assign (.tmp 9), 9, none⟩] [2])
 .ret))
set_option maxRecDepth 100000 in
theorem ent44 (a0 : Value) (w : World) (K : Value → World → Prop) (h : W Tryz.prog c44 [(0, a0)] w (finQ Tryz.prog [.tmp 2] K)) : Ret Tryz.prog 44 [a0] w K :=
  Ret_of_W (code := c44code) Tryz.func44 (by kernel_rfl) (by kernel_rfl) (of_decide_eq_true (by kernel_rfl)) h
@[go_sem] theorem go44 : goFunc Tryz.prog 44 = true := by kernel_rfl
noncomputable def c11code : Code := match Tryz.f11.body with | some c => c | none => .skip
noncomputable def c11S0 (_ : Unit) : Cmd := (.seq (.ops [
 ⟨some 18, .move (.tmp 8), 30, none⟩,
 ⟨some 19, .binOp .neq 30 (.tmp 18) (.const (.int .i64 0)) 30, 4, none⟩] [0, 1, 2, 8, 19])
 (.cond (.tmp 19)
  (.seq (.ops [
  ⟨some 20, .move (.tmp 8), 30, none⟩,
  ⟨some 6, .assign (.tmp 20), 30, none⟩] [6])
  .ret)
  (.skip [0, 1, 2])))
noncomputable def c11S1 (_ : Unit) : Cmd := (.seq (.ops [
  ⟨some 26, .move (.tmp 9), 30, none⟩,
  ⟨some 27, .binOp .neq 30 (.tmp 26) (.const (.int .i64 0)) 30, 4, none⟩] [0, 1, 2, 9, 27])
  (.cond (.tmp 27)
   (.seq (.ops [
   ⟨some 28, .move (.tmp 9), 30, none⟩,
   ⟨some 6, .assign (.tmp 28), 30, none⟩] [6])
   .ret)
   (.skip [0, 1, 2])))
noncomputable def c11S2 (_ : Unit) : Cmd := .ret
noncomputable def c11S3 (_ : Unit) : Cmd := (.seq (.draw (drawOps 0 c11code) [6]) (sg c11S2))
noncomputable def c11S4 (_ : Unit) : Cmd := (.seq (.seq (.ops [
 ⟨some 34, .move (.tmp 11), 30, none⟩,
 ⟨some 35, .binOp .neq 30 (.tmp 34) (.const (.int .i64 0)) 30, 4, none⟩] [0, 1, 2, 10, 11, 35])
 (.cond (.tmp 35)
  (.seq (.ops [
  ⟨some 36, .move (.tmp 11), 30, none⟩,
  ⟨some 6, .assign (.tmp 36), 30, none⟩] [6])
  .ret)
  (.skip [0, 1, 2, 10]))) (sg c11S3))
noncomputable def c11S5 (_ : Unit) : Cmd := (.seq (.ops [
 ⟨some 30, .move (.tmp 0), 24, none⟩,
 ⟨some 31, .call ⟨.value (.func 31), #[(.tmp 30), (.const (.int .i64 1))], #[24, 3]⟩, 33, none⟩,
 ⟨some 29, .move (.tmp 31), 33, none⟩,
 ⟨some 32, .extract (.tmp 29) 0, 9, none⟩,
 ⟨some 33, .extract (.tmp 29) 1, 30, none⟩,
 ⟨some 10, .assign (.tmp 32), 9, none⟩,
 ⟨some 11, .assign (.tmp 33), 30, none⟩] [0, 1, 2, 10, 11]) (sg c11S4))
noncomputable def c11S6 (_ : Unit) : Cmd := (.seq (.seq (.ops [
 ⟨some 21, .move (.tmp 2), 3, none⟩,
 ⟨some 22, .binOp .neq 3 (.tmp 21) (.const (.int .i64 0)) 3, 4, none⟩] [0, 1, 2, 22])
 (.cond (.tmp 22)
  (.seq (.ops [
  ⟨some 23, .move (.tmp 0), 24, none⟩,
  ⟨some 24, .move (.tmp 2), 3, none⟩,
  ⟨some 25, .call ⟨.value (.func 30), #[(.tmp 23), (.tmp 24)], #[24, 3]⟩, 30, none⟩,
  ⟨some 9, .assign (.tmp 25), 30, none⟩] [0, 1, 2, 9]) (sg c11S1))
  (.skip [0, 1, 2]))) (sg c11S5))
noncomputable def c11 : Cmd := (.seq (.ops [
 ⟨some 6, .assign (.const (.int .i64 0)), 30, none⟩] [0, 1, 2])
 (.seq (.seq (.ops [
 ⟨some 13, .move (.tmp 0), 24, none⟩,
 ⟨some 14, .move (.tmp 1), 3, none⟩,
 ⟨some 15, .call ⟨.value (.func 7), #[(.tmp 13), (.tmp 14)], #[24, 3]⟩, 31, none⟩,
 ⟨some 12, .move (.tmp 15), 31, none⟩,
 ⟨some 16, .extract (.tmp 12) 0, 3, none⟩,
 ⟨some 17, .extract (.tmp 12) 1, 30, none⟩,
 ⟨some 7, .assign (.tmp 16), 3, none⟩,
 ⟨some 8, .assign (.tmp 17), 30, none⟩] [0, 1, 2, 8]) (sg c11S0)) (sg c11S6)))
noncomputable def c11D0 : List (Bool × Ins) := [
 (true, ⟨some 37, .move (.tmp 0), 24, none⟩),
 (true, ⟨some 38, .move (.tmp 10), 9, none⟩),
 (true, ⟨some 39, .move (.tmp 1), 3, none⟩),
 (true, ⟨some 40, .binOp .mul 3 (.const (.int .i64 4)) (.tmp 39) 3, 3, none⟩),
 (true, ⟨some 41, .slice 9 (.tmp 38) none (some (.tmp 40)) none, 9, none⟩),
 (true, ⟨some 42, .move (.tmp 2), 3, none⟩),
 (true, ⟨some 43, .convert 3 58 (.tmp 42), 58, none⟩),
 (true, ⟨some 46, .move (.tmp 10), 9, none⟩),
 (true, ⟨some 47, .move (.tmp 1), 3, none⟩),
 (true, ⟨some 48, .binOp .mul 3 (.const (.int .i64 4)) (.tmp 47) 3, 3, none⟩),
 (true, ⟨some 49, .binOp .add 3 (.tmp 48) (.const (.int .i64 4)) 3, 3, none⟩),
 (true, ⟨some 50, .slice 9 (.tmp 46) (some (.tmp 49)) none none, 9, none⟩),
 (false, ⟨some 44, .call ⟨.value (.func 36), #[(.tmp 43), (.const (.int .i64 4))], #[58, 3]⟩, 9, none⟩),
 (true, ⟨some 45, .binOp .add 9 (.tmp 41) (.tmp 44) 9, 9, none⟩),
 (true, ⟨some 51, .binOp .add 9 (.tmp 45) (.tmp 50) 9, 9, none⟩),
 (false, ⟨some 52, .call ⟨.value (.func 29), #[(.tmp 37), (.const (.int .i64 1)), (.tmp 51)], #[24, 3, 9]⟩, 30, none⟩),
 (true, ⟨some 6, .assign (.tmp 52), 30, none⟩)]
theorem c11draw0 {L : List Nat} {ρ : Env} {w : World} {Q : Post} (h : DL Tryz.prog c11D0 L ρ w.drew Q) : drawW Tryz.prog (drawOps 0 c11code) L ρ w Q :=
  drawW_by [(true, 0), (true, 1), (true, 2), (true, 3), (true, 4), (true, 5), (true, 6), (true, 9), (true, 10), (true, 11), (true, 12), (true, 13), (false, 7), (true, 8), (true, 14), (false, 15), (true, 16)] c11D0 (by kernel_rfl) (by kernel_rfl) (by kernel_rfl) h
set_option maxRecDepth 100000 in
theorem ent11 (a0 a1 a2 : Value) (w : World) (K : Value → World → Prop) (h : W Tryz.prog c11 [(0, a0), (1, a1), (2, a2)] w (finQ Tryz.prog [.tmp 6] K)) : Ret Tryz.prog 11 [a0, a1, a2] w K :=
  Ret_of_W (code := c11code) Tryz.func11 (by kernel_rfl) (by kernel_rfl) (of_decide_eq_true (by kernel_rfl)) h
@[go_sem] theorem go11 : goFunc Tryz.prog 11 = true := by kernel_rfl
noncomputable def c7code : Code := match Tryz.f7.body with | some c => c | none => .skip
noncomputable def c7S0 (_ : Unit) : Cmd := (.cond (.tmp 10)
  (.seq (.ops [
  ⟨some 4, .assign (.const (.int .i64 0)), 3, none⟩,
  ⟨some 5, .assign (.const (.int .i64 3)), 30, none⟩] [4, 5])
  .ret)
  (.skip [0, 1]))
noncomputable def c7S1 (_ : Unit) : Cmd := .ret
noncomputable def c7S2 (_ : Unit) : Cmd := (.seq (.ops [
 ⟨some 25, .move (.tmp 6), 9, none⟩,
 ⟨some 26, .move (.tmp 1), 3, none⟩,
 ⟨some 27, .binOp .mul 3 (.const (.int .i64 4)) (.tmp 26) 3, 3, none⟩,
 ⟨some 28, .move (.tmp 1), 3, none⟩,
 ⟨some 29, .binOp .mul 3 (.const (.int .i64 4)) (.tmp 28) 3, 3, none⟩,
 ⟨some 30, .binOp .add 3 (.tmp 29) (.const (.int .i64 4)) 3, 3, none⟩,
 ⟨some 31, .slice 9 (.tmp 25) (some (.tmp 27)) (some (.tmp 30)) none, 9, none⟩,
 ⟨some 32, .call ⟨.value (.func 33), #[(.tmp 31)], #[9]⟩, 58, none⟩,
 ⟨some 33, .convert 58 3 (.tmp 32), 3, none⟩,
 ⟨some 4, .assign (.tmp 33), 3, none⟩,
 ⟨some 5, .assign (.const (.int .i64 0)), 30, none⟩] [4, 5]) (sg c7S1))
noncomputable def c7S3 (_ : Unit) : Cmd := (.seq (.seq (.ops [
 ⟨some 22, .move (.tmp 7), 30, none⟩,
 ⟨some 23, .binOp .neq 30 (.tmp 22) (.const (.int .i64 0)) 30, 4, none⟩] [1, 6, 7, 23])
 (.cond (.tmp 23)
  (.seq (.ops [
  ⟨some 24, .move (.tmp 7), 30, none⟩,
  ⟨some 4, .assign (.const (.int .i64 0)), 3, none⟩,
  ⟨some 5, .assign (.tmp 24), 30, none⟩] [4, 5])
  .ret)
  (.skip [1, 6]))) (sg c7S2))
noncomputable def c7S4 (_ : Unit) : Cmd := (.seq (.ops [
 ⟨some 18, .move (.tmp 0), 24, none⟩,
 ⟨some 19, .call ⟨.value (.func 31), #[(.tmp 18), (.const (.int .i64 1))], #[24, 3]⟩, 33, none⟩,
 ⟨some 17, .move (.tmp 19), 33, none⟩,
 ⟨some 20, .extract (.tmp 17) 0, 9, none⟩,
 ⟨some 21, .extract (.tmp 17) 1, 30, none⟩,
 ⟨some 6, .assign (.tmp 20), 9, none⟩,
 ⟨some 7, .assign (.tmp 21), 30, none⟩] [1, 6, 7]) (sg c7S3))
noncomputable def c7S5 (_ : Unit) : Cmd := (.seq (.seq (.ops [
 ⟨some 11, .move (.tmp 1), 3, none⟩,
 ⟨some 12, .binOp .lss 3 (.tmp 11) (.const (.int .i64 0)) 3, 4, none⟩,
 ⟨some 13, .move (.tmp 12), 4, none⟩,
 ⟨some 14, .move (.tmp 1), 3, (some (13, false))⟩,
 ⟨some 15, .binOp .geq 3 (.tmp 14) (.const (.int .i64 16)) 3, 4, (some (13, false))⟩,
 ⟨some 16, .pick (.tmp 13) (.const (.bool true)) (.tmp 15), 4, none⟩] [0, 1, 16])
 (.cond (.tmp 16)
  (.seq (.ops [
  ⟨some 4, .assign (.const (.int .i64 0)), 3, none⟩,
  ⟨some 5, .assign (.const (.int .i64 1)), 30, none⟩] [4, 5])
  .ret)
  (.skip [0, 1]))) (sg c7S4))
noncomputable def c7 : Cmd := (.seq (.ops [
 ⟨some 4, .assign (.const (.int .i64 0)), 3, none⟩,
 ⟨some 5, .assign (.const (.int .i64 0)), 30, none⟩] [0, 1])
 (.seq (.seq (.ops [
 ⟨some 8, .move (.tmp 0), 24, none⟩,
 ⟨some 9, .call ⟨.value (.func 32), #[(.tmp 8)], #[24]⟩, 4, none⟩,
 ⟨some 10, .unOp .not 4 (.tmp 9), 4, none⟩] [0, 1, 10]) (sg c7S0)) (sg c7S5)))
set_option maxRecDepth 100000 in
theorem ent7 (a0 a1 : Value) (w : World) (K : Value → World → Prop) (h : W Tryz.prog c7 [(0, a0), (1, a1)] w (finQ Tryz.prog [.tmp 4, .tmp 5] K)) : Ret Tryz.prog 7 [a0, a1] w K :=
  Ret_of_W (code := c7code) Tryz.func7 (by kernel_rfl) (by kernel_rfl) (of_decide_eq_true (by kernel_rfl)) h
@[go_sem] theorem go7 : goFunc Tryz.prog 7 = true := by kernel_rfl
noncomputable def c21code : Code := match Tryz.f21.body with | some c => c | none => .skip
noncomputable def c21S0 (_ : Unit) : Cmd := (.draw (drawOps 0 c21code) [0, 1, 2, 3, 9, 16, 17, 18])
noncomputable def c21S1 (_ : Unit) : Cmd := (.draw (drawOps 1 c21code) [0, 1, 2, 3, 16, 17, 18])
noncomputable def c21S2 (_ : Unit) : Cmd := (.seq (.seq (.ops [
 ⟨some 30, .move (.tmp 8), 3, none⟩,
 ⟨some 31, .move (.tmp 2), 3, none⟩,
 ⟨some 32, .binOp .eql 3 (.tmp 30) (.tmp 31) 3, 4, none⟩] [0, 1, 2, 3, 9, 16, 17, 18, 32])
 (.cond (.tmp 32)
  (.seq (.ops [
  ⟨some 33, .move (.tmp 3), 3, none⟩,
  ⟨some 34, .call ⟨.builtin .min, #[(.tmp 33), (.const (.int .i64 256))], #[3, 3]⟩, 3, none⟩,
  ⟨some 35, .call ⟨.builtin .max, #[(.const (.int .i64 0)), (.tmp 34)], #[3, 3]⟩, 3, none⟩,
  ⟨some 10, .assign (.tmp 35), 3, none⟩] [0, 1, 2, 3, 9, 10, 16, 17, 18]) (sg c21S0))
  (.skip [0, 1, 2, 3, 9, 16, 17, 18]))) (sg c21S1))
noncomputable def c21S3 (_ : Unit) : Cmd := (.ops [
 ⟨some 61, .binOp .add 3 (.tmp 18) (.const (.int .i64 1)) 3, 3, none⟩,
 ⟨some 18, .move (.tmp 61), 3, none⟩] [0, 1, 2, 3, 16, 17, 18])
noncomputable def c21S4 (_ : Unit) : Cmd := (.seq (.block 1 (.seq (.ops [
 ⟨some 20, .move (.tmp 18), 3, none⟩,
 ⟨some 21, .indexAddr 89 (.tmp 16) (.tmp 18), 0, none⟩,
 ⟨some 22, .load 93 (.tmp 21), 93, none⟩,
 ⟨some 9, .alloc 93, 0, none⟩,
 ⟨some 8, .assign (.tmp 20), 3, none⟩,
 ⟨none, .store 93 (.tmp 9) (.tmp 22), 0, none⟩] [0, 1, 2, 3, 8, 9, 16, 17, 18])
 (.seq (.seq (.ops [
 ⟨some 23, .move (.tmp 1), 58, none⟩,
 ⟨some 24, .move (.tmp 8), 3, none⟩,
 ⟨some 25, .binOp .and 3 (.tmp 24) (.const (.int .i64 63)) 3, 3, none⟩,
 ⟨some 26, .convert 3 94 (.tmp 25), 94, none⟩,
 ⟨some 27, .binOp .shr 58 (.tmp 23) (.tmp 26) 94, 58, none⟩,
 ⟨some 28, .binOp .and 58 (.tmp 27) (.const (.int .u64 1)) 58, 58, none⟩,
 ⟨some 29, .binOp .eql 58 (.tmp 28) (.const (.int .u64 0)) 58, 4, none⟩] [0, 1, 2, 3, 8, 9, 16, 17, 18, 29])
 (.cond (.tmp 29)
  (.exit 1 [0, 1, 2, 3, 16, 17, 18])
  (.skip [0, 1, 2, 3, 8, 9, 16, 17, 18]))) (sg c21S2)))) (sg c21S3))
noncomputable def c21L0 (_ : Unit) : Cmd := (.seq (.ops [
 ⟨some 19, .binOp .lss 3 (.tmp 18) (.tmp 17) 3, 0, none⟩] [0, 1, 2, 3, 16, 17, 18, 19])
 (.seq (.cond (.tmp 19)
  (.skip [0, 1, 2, 3, 16, 17, 18])
  (.exit 0 [0])) (sg c21S4)))
noncomputable def c21S5 (_ : Unit) : Cmd := (.ops [
 ⟨some 62, .move (.tmp 0), 46, none⟩,
 ⟨some 63, .move (.tmp 0), 46, none⟩,
 ⟨some 64, .move (.tmp 0), 46, none⟩,
 ⟨some 65, .nilCheck (.tmp 62), 0, none⟩,
 ⟨some 66, .fieldAddr 91 (.tmp 65) 1, 0, none⟩,
 ⟨none, .store 89 (.tmp 66) (.const (.slice none 0 0)), 0, none⟩,
 ⟨some 67, .nilCheck (.tmp 63), 0, none⟩,
 ⟨some 68, .fieldAddr 91 (.tmp 67) 2, 0, none⟩,
 ⟨none, .store 3 (.tmp 68) (.const (.int .i64 (-1))), 0, none⟩,
 ⟨some 69, .nilCheck (.tmp 64), 0, none⟩,
 ⟨some 70, .fieldAddr 91 (.tmp 69) 3, 0, none⟩,
 ⟨none, .store 4 (.tmp 70) (.const (.bool false)), 0, none⟩] [])
noncomputable def c21S6 (_ : Unit) : Cmd := (.seq (.seq (.ops [
 ⟨some 13, .move (.tmp 0), 46, none⟩,
 ⟨some 14, .nilCheck (.tmp 13), 0, none⟩,
 ⟨some 15, .fieldAddr 91 (.tmp 14) 1, 0, none⟩,
 ⟨some 16, .load 89 (.tmp 15), 89, none⟩,
 ⟨some 17, .call ⟨.builtin .len, #[(.tmp 16)], #[89]⟩, 3, none⟩,
 ⟨some 18, .move (.const (.int .i64 0)), 3, none⟩] [0, 1, 2, 3, 16, 17, 18])
 (.block 0 (.loop (sg c21L0)))) (sg c21S5))
noncomputable def c21 : Cmd := (.seq (.seq (.ops [
 ⟨some 11, .move (.tmp 0), 46, none⟩,
 ⟨some 12, .binOp .eql 46 (.tmp 11) (.const (.pointer none)) 46, 4, none⟩] [0, 1, 2, 3, 12])
 (.cond (.tmp 12)
  .ret
  (.skip [0, 1, 2, 3]))) (sg c21S6))
noncomputable def c21D0 : List (Nat × Ins) := [
 (0, ⟨some 36, .fieldAddr 93 (.tmp 9) 1, 0, none⟩),
 (0, ⟨some 38, .move (.tmp 10), 3, none⟩),
 (0, ⟨some 40, .move (.tmp 0), 46, none⟩),
 (0, ⟨some 41, .nilCheck (.tmp 40), 0, none⟩),
 (0, ⟨some 42, .fieldAddr 91 (.tmp 41) 0, 0, none⟩),
 (0, ⟨some 44, .fieldAddr 93 (.tmp 9) 0, 0, none⟩),
 (0, ⟨some 48, .move (.tmp 10), 3, none⟩),
 (1, ⟨some 37, .load 9 (.tmp 36), 9, none⟩),
 (0, ⟨some 39, .slice 9 (.tmp 37) none (some (.tmp 38)) none, 9, none⟩),
 (1, ⟨some 43, .load 49 (.tmp 42), 49, none⟩),
 (2, ⟨some 45, .load 3 (.tmp 44), 3, none⟩),
 (0, ⟨some 46, .indexAddr 49 (.tmp 43) (.tmp 45), 0, none⟩),
 (2, ⟨some 47, .load 9 (.tmp 46), 9, none⟩),
 (0, ⟨some 49, .slice 9 (.tmp 47) (some (.tmp 48)) none none, 9, none⟩),
 (0, ⟨some 50, .binOp .add 9 (.tmp 39) (.tmp 49) 9, 9, none⟩),
 (0, ⟨some 51, .fieldAddr 93 (.tmp 9) 1, 0, none⟩),
 (3, ⟨none, .store 9 (.tmp 51) (.tmp 50), 0, none⟩)]
theorem c21draw0 {L : List Nat} {ρ : Env} {w : World} {Q : Post} (S : World → Prop) (hS : S w.drew) (h : DG Tryz.prog S c21D0 L ρ w.drew Q) : drawW Tryz.prog (drawOps 0 c21code) L ρ w Q :=
  drawW_held [1, 7] [(0, 0), (0, 2), (0, 4), (0, 5), (0, 6), (0, 8), (0, 12), (1, 1), (0, 3), (1, 7), (2, 9), (0, 10), (2, 11), (0, 13), (0, 14), (0, 15), (3, 16)] c21D0 (by kernel_rfl) (by kernel_rfl) (by kernel_rfl) S hS h
noncomputable def c21D1 : List (Nat × Ins) := [
 (0, ⟨some 52, .move (.tmp 0), 46, none⟩),
 (0, ⟨some 53, .nilCheck (.tmp 52), 0, none⟩),
 (0, ⟨some 54, .fieldAddr 91 (.tmp 53) 0, 0, none⟩),
 (0, ⟨some 56, .fieldAddr 93 (.tmp 9) 0, 0, none⟩),
 (0, ⟨some 58, .fieldAddr 93 (.tmp 9) 1, 0, none⟩),
 (1, ⟨some 55, .load 49 (.tmp 54), 49, none⟩),
 (1, ⟨some 57, .load 3 (.tmp 56), 3, none⟩),
 (2, ⟨some 59, .load 9 (.tmp 58), 9, none⟩),
 (0, ⟨some 60, .indexAddr 49 (.tmp 55) (.tmp 57), 0, none⟩),
 (3, ⟨none, .store 9 (.tmp 60) (.tmp 59), 0, none⟩)]
theorem c21draw1 {L : List Nat} {ρ : Env} {w : World} {Q : Post} (S : World → Prop) (hS : S w.drew) (h : DG Tryz.prog S c21D1 L ρ w.drew Q) : drawW Tryz.prog (drawOps 1 c21code) L ρ w Q :=
  drawW_held [3, 5] [(0, 0), (0, 1), (0, 2), (0, 4), (0, 6), (1, 3), (1, 5), (2, 7), (0, 8), (3, 9)] c21D1 (by kernel_rfl) (by kernel_rfl) (by kernel_rfl) S hS h
set_option maxRecDepth 100000 in
theorem ent21 (a0 a1 a2 a3 : Value) (w : World) (K : Value → World → Prop) (h : W Tryz.prog c21 [(0, a0), (1, a1), (2, a2), (3, a3)] w (finQ Tryz.prog [] K)) : Ret Tryz.prog 21 [a0, a1, a2, a3] w K :=
  Ret_of_W (code := c21code) Tryz.func21 (by kernel_rfl) (by kernel_rfl) (of_decide_eq_true (by kernel_rfl)) h
@[go_sem] theorem go21 : goFunc Tryz.prog 21 = true := by kernel_rfl
noncomputable def c22code : Code := match Tryz.f22.body with | some c => c | none => .skip
noncomputable def c22S0 (_ : Unit) : Cmd := (.ops [
 ⟨some 45, .move (.tmp 7), 49, none⟩,
 ⟨some 46, .move (.tmp 9), 9, none⟩,
 ⟨some 47, .buildSlice 49 1 #[(0, (.tmp 46))], 49, none⟩,
 ⟨some 48, .call ⟨.builtin .append, #[(.tmp 45), (.tmp 47)], #[49, 49]⟩, 49, none⟩,
 ⟨some 7, .assign (.tmp 48), 49, none⟩] [0, 6, 7, 31, 32])
noncomputable def c22S1 (_ : Unit) : Cmd := (.seq (.seq (.ops [
 ⟨some 42, .move (.tmp 10), 30, none⟩,
 ⟨some 43, .binOp .neq 30 (.tmp 42) (.const (.int .i64 0)) 30, 4, none⟩] [0, 6, 7, 9, 10, 31, 32, 43])
 (.cond (.tmp 43)
  (.seq (.ops [
  ⟨some 44, .move (.tmp 10), 30, none⟩,
  ⟨some 2, .assign (.const (.pointer none)), 25, none⟩,
  ⟨some 3, .assign (.tmp 44), 30, none⟩] [2, 3])
  .ret)
  (.skip [0, 6, 7, 9, 31, 32]))) (sg c22S0))
noncomputable def c22S2 (_ : Unit) : Cmd := (.ops [
 ⟨some 49, .binOp .add 3 (.tmp 32) (.const (.int .i64 1)) 3, 3, none⟩,
 ⟨some 32, .move (.tmp 49), 3, none⟩] [0, 6, 7, 31, 32])
noncomputable def c22S3 (_ : Unit) : Cmd := (.seq (.block 1 (.seq (.ops [
 ⟨some 34, .move (.tmp 32), 3, none⟩,
 ⟨some 8, .assign (.tmp 34), 3, none⟩] [0, 6, 7, 8, 31, 32])
 (.seq (.ops [
 ⟨some 36, .move (.tmp 0), 46, none⟩,
 ⟨some 37, .move (.tmp 8), 3, none⟩,
 ⟨some 38, .binOp .add 3 (.const (.int .i64 2)) (.tmp 37) 3, 3, none⟩,
 ⟨some 39, .call ⟨.value (.func 53), #[(.tmp 36), (.tmp 38)], #[46, 3]⟩, 33, none⟩,
 ⟨some 35, .move (.tmp 39), 33, none⟩,
 ⟨some 40, .extract (.tmp 35) 0, 9, none⟩,
 ⟨some 41, .extract (.tmp 35) 1, 30, none⟩,
 ⟨some 9, .assign (.tmp 40), 9, none⟩,
 ⟨some 10, .assign (.tmp 41), 30, none⟩] [0, 6, 7, 9, 10, 31, 32]) (sg c22S1)))) (sg c22S2))
noncomputable def c22L0 (_ : Unit) : Cmd := (.seq (.ops [
 ⟨some 33, .binOp .lss 3 (.tmp 32) (.tmp 31) 3, 4, none⟩] [0, 6, 7, 31, 32, 33])
 (.seq (.cond (.tmp 33)
  (.skip [0, 6, 7, 31, 32])
  (.exit 0 [6, 7])) (sg c22S3)))
noncomputable def c22S4 (_ : Unit) : Cmd := (.seq (.ops [
  ⟨some 61, .move (.tmp 13), 30, none⟩,
  ⟨some 62, .binOp .neq 30 (.tmp 61) (.const (.int .i64 0)) 30, 4, none⟩] [6, 13, 62])
  (.cond (.tmp 62)
   (.seq (.ops [
   ⟨some 63, .move (.tmp 13), 30, none⟩,
   ⟨some 2, .assign (.const (.pointer none)), 25, none⟩,
   ⟨some 3, .assign (.tmp 63), 30, none⟩] [2, 3])
   .ret)
   (.skip [6])))
noncomputable def c22S5 (_ : Unit) : Cmd := (.seq (.ops [
  ⟨some 58, .move (.tmp 6), 25, none⟩,
  ⟨some 59, .move (.tmp 11), 102, none⟩,
  ⟨some 60, .call ⟨.value (.func 55), #[(.tmp 58), (.tmp 59)], #[25, 102]⟩, 30, none⟩,
  ⟨some 13, .assign (.tmp 60), 30, none⟩] [6, 13]) (sg c22S4))
noncomputable def c22S6 (_ : Unit) : Cmd := (.seq (.seq (.ops [
  ⟨some 55, .move (.tmp 12), 30, none⟩,
  ⟨some 56, .binOp .neq 30 (.tmp 55) (.const (.int .i64 0)) 30, 4, none⟩] [6, 11, 12, 56])
  (.cond (.tmp 56)
   (.seq (.ops [
   ⟨some 57, .move (.tmp 12), 30, none⟩,
   ⟨some 2, .assign (.const (.pointer none)), 25, none⟩,
   ⟨some 3, .assign (.tmp 57), 30, none⟩] [2, 3])
   .ret)
   (.skip [6, 11]))) (sg c22S5))
noncomputable def c22S7 (_ : Unit) : Cmd := (.seq (.ops [
  ⟨some 51, .move (.tmp 7), 49, none⟩,
  ⟨some 52, .call ⟨.value (.func 54), #[(.tmp 51)], #[49]⟩, 103, none⟩,
  ⟨some 50, .move (.tmp 52), 103, none⟩,
  ⟨some 53, .extract (.tmp 50) 0, 102, none⟩,
  ⟨some 54, .extract (.tmp 50) 1, 30, none⟩,
  ⟨some 11, .assign (.tmp 53), 102, none⟩,
  ⟨some 12, .assign (.tmp 54), 30, none⟩] [6, 11, 12]) (sg c22S6))
noncomputable def c22S8 (_ : Unit) : Cmd := (.seq (.ops [
 ⟨some 64, .move (.tmp 6), 25, none⟩,
 ⟨some 2, .assign (.tmp 64), 25, none⟩,
 ⟨some 3, .assign (.const (.int .i64 0)), 30, none⟩] [2, 3])
 .ret)
noncomputable def c22S9 (_ : Unit) : Cmd := (.seq (.ops [
 ⟨some 22, .move (.tmp 0), 46, none⟩,
 ⟨some 23, .load 96 (.tmp 4), 96, none⟩,
 ⟨some 24, .makeMap 99 none, 99, none⟩,
 ⟨some 25, .build 101 #[(0, (.tmp 22)), (1, (.tmp 23)), (2, (.tmp 24))], 101, none⟩,
 ⟨some 26, .box 101 (.tmp 25), 25, none⟩,
 ⟨some 6, .assign (.tmp 26), 25, none⟩] [0, 4, 6])
 (.seq (.seq (.ops [
 ⟨some 27, .fieldAddr 96 (.tmp 4) 1, 0, none⟩,
 ⟨some 28, .load 3 (.tmp 27), 3, none⟩,
 ⟨some 29, .binOp .gtr 3 (.tmp 28) (.const (.int .i64 0)) 3, 4, none⟩] [0, 4, 6, 29])
 (.cond (.tmp 29)
  (.seq (.ops [
  ⟨some 7, .assign (.const (.slice none 0 0)), 49, none⟩] [0, 4, 6, 7])
  (.seq (.seq (.ops [
  ⟨some 30, .fieldAddr 96 (.tmp 4) 1, 0, none⟩,
  ⟨some 31, .load 3 (.tmp 30), 3, none⟩,
  ⟨some 32, .move (.const (.int .i64 0)), 3, none⟩] [0, 6, 7, 31, 32])
  (.block 0 (.loop (sg c22L0)))) (sg c22S7)))
  (.skip [6]))) (sg c22S8)))
noncomputable def c22S10 (_ : Unit) : Cmd := (.seq (.seq (.ops [
 ⟨some 19, .move (.tmp 5), 30, none⟩,
 ⟨some 20, .binOp .neq 30 (.tmp 19) (.const (.int .i64 0)) 30, 4, none⟩] [0, 4, 5, 20])
 (.cond (.tmp 20)
  (.seq (.ops [
  ⟨some 21, .move (.tmp 5), 30, none⟩,
  ⟨some 2, .assign (.const (.pointer none)), 25, none⟩,
  ⟨some 3, .assign (.tmp 21), 30, none⟩] [2, 3])
  .ret)
  (.skip [0, 4]))) (sg c22S9))
noncomputable def c22 : Cmd := (.seq (.ops [
 ⟨some 2, .assign (.const (.pointer none)), 25, none⟩,
 ⟨some 3, .assign (.const (.int .i64 0)), 30, none⟩] [0])
 (.seq (.ops [
 ⟨some 15, .move (.tmp 0), 46, none⟩,
 ⟨some 16, .call ⟨.value (.func 52), #[(.tmp 15)], #[46]⟩, 97, none⟩,
 ⟨some 14, .move (.tmp 16), 97, none⟩,
 ⟨some 17, .extract (.tmp 14) 0, 96, none⟩,
 ⟨some 18, .extract (.tmp 14) 1, 30, none⟩,
 ⟨some 4, .alloc 96, 0, none⟩,
 ⟨none, .store 96 (.tmp 4) (.tmp 17), 0, none⟩,
 ⟨some 5, .assign (.tmp 18), 30, none⟩] [0, 4, 5]) (sg c22S10)))
set_option maxRecDepth 100000 in
theorem ent22 (a0 : Value) (w : World) (K : Value → World → Prop) (h : W Tryz.prog c22 [(0, a0)] w (finQ Tryz.prog [.tmp 2, .tmp 3] K)) : Ret Tryz.prog 22 [a0] w K :=
  Ret_of_W (code := c22code) Tryz.func22 (by kernel_rfl) (by kernel_rfl) (of_decide_eq_true (by kernel_rfl)) h
@[go_sem] theorem go22 : goFunc Tryz.prog 22 = true := by kernel_rfl
noncomputable def c24code : Code := match Tryz.f24.body with | some c => c | none => .skip
noncomputable def c24S0 (_ : Unit) : Cmd := (.seq (.ops [
 ⟨some 14, .move (.tmp 6), 30, none⟩,
 ⟨some 15, .binOp .neq 30 (.tmp 14) (.const (.int .i64 0)) 30, 4, none⟩] [0, 1, 6, 15])
 (.cond (.tmp 15)
  (.seq (.ops [
  ⟨some 16, .move (.tmp 6), 30, none⟩,
  ⟨some 4, .assign (.const (.string (ofL []))), 9, none⟩,
  ⟨some 5, .assign (.tmp 16), 30, none⟩] [4, 5])
  .ret)
  (.skip [0, 1])))
noncomputable def c24S1 (_ : Unit) : Cmd := (.seq (.ops [
 ⟨some 49, .move (.tmp 9), 9, none⟩,
 ⟨some 50, .move (.tmp 10), 30, none⟩,
 ⟨some 4, .assign (.tmp 49), 9, none⟩,
 ⟨some 5, .assign (.tmp 50), 30, none⟩] [4, 5])
 .ret)
noncomputable def c24S2 (_ : Unit) : Cmd := (.seq (.seq (.ops [
 ⟨some 44, .move (.tmp 10), 30, none⟩,
 ⟨some 45, .binOp .neq 30 (.tmp 44) (.const (.int .i64 0)) 30, 4, none⟩] [0, 9, 10, 45])
 (.cond (.tmp 45)
  (.ops [
  ⟨some 46, .move (.tmp 0), 25, none⟩,
  ⟨some 47, .nilCheck (.tmp 46), 0, none⟩,
  ⟨some 48, .fieldAddr 101 (.tmp 47) 3, 0, none⟩,
  ⟨none, .store 4 (.tmp 48) (.const (.bool true)), 0, none⟩] [9, 10])
  (.skip [9, 10]))) (sg c24S1))
noncomputable def c24S3 (_ : Unit) : Cmd := (.seq (.draw (drawOps 0 c24code) [0, 9, 10]) (sg c24S2))
noncomputable def c24S4 (_ : Unit) : Cmd := (.seq (.seq (.ops [
 ⟨some 18, .move (.tmp 0), 25, none⟩,
 ⟨some 19, .nilCheck (.tmp 18), 0, none⟩,
 ⟨some 20, .fieldAddr 101 (.tmp 19) 2, 0, none⟩,
 ⟨some 21, .load 99 (.tmp 20), 99, none⟩,
 ⟨some 22, .move (.tmp 1), 3, none⟩,
 ⟨some 23, .lookup 99 (.tmp 21) (.tmp 22) true, 66, none⟩,
 ⟨some 17, .move (.tmp 23), 66, none⟩,
 ⟨some 24, .extract (.tmp 17) 0, 9, none⟩,
 ⟨some 25, .extract (.tmp 17) 1, 4, none⟩,
 ⟨some 7, .assign (.tmp 24), 9, none⟩,
 ⟨some 8, .assign (.tmp 25), 4, none⟩] [0, 1, 7, 8])
 (.seq (.ops [
 ⟨some 26, .move (.tmp 8), 4, none⟩] [0, 1, 7, 26])
 (.cond (.tmp 26)
  (.seq (.ops [
  ⟨some 27, .move (.tmp 7), 9, none⟩,
  ⟨some 4, .assign (.tmp 27), 9, none⟩,
  ⟨some 5, .assign (.const (.int .i64 0)), 30, none⟩] [4, 5])
  .ret)
  (.skip [0, 1])))) (sg c24S3))
noncomputable def c24 : Cmd := (.seq (.ops [
 ⟨some 4, .assign (.const (.string (ofL []))), 9, none⟩,
 ⟨some 5, .assign (.const (.int .i64 0)), 30, none⟩] [0, 1])
 (.seq (.seq (.ops [
 ⟨some 11, .move (.tmp 0), 25, none⟩,
 ⟨some 12, .move (.tmp 1), 3, none⟩,
 ⟨some 13, .call ⟨.value (.func 56), #[(.tmp 11), (.tmp 12)], #[25, 3]⟩, 30, none⟩,
 ⟨some 6, .assign (.tmp 13), 30, none⟩] [0, 1, 6]) (sg c24S0)) (sg c24S4)))
noncomputable def c24D0 : List (Nat × Ins) := [
 (0, ⟨some 29, .move (.tmp 0), 25, none⟩),
 (0, ⟨some 30, .nilCheck (.tmp 29), 0, none⟩),
 (0, ⟨some 31, .fieldAddr 101 (.tmp 30) 0, 0, none⟩),
 (0, ⟨some 33, .move (.tmp 0), 25, none⟩),
 (0, ⟨some 34, .nilCheck (.tmp 33), 0, none⟩),
 (0, ⟨some 35, .fieldAddr 101 (.tmp 34) 1, 0, none⟩),
 (0, ⟨some 36, .fieldAddr 96 (.tmp 35) 2, 0, none⟩),
 (0, ⟨some 39, .move (.tmp 1), 3, none⟩),
 (1, ⟨some 32, .load 46 (.tmp 31), 46, none⟩),
 (2, ⟨some 37, .load 3 (.tmp 36), 3, none⟩),
 (0, ⟨some 38, .binOp .add 3 (.const (.int .i64 2)) (.tmp 37) 3, 3, none⟩),
 (0, ⟨some 40, .binOp .add 3 (.tmp 38) (.tmp 39) 3, 3, none⟩),
 (3, ⟨some 41, .call ⟨.value (.func 53), #[(.tmp 32), (.tmp 40)], #[46, 3]⟩, 33, none⟩),
 (0, ⟨some 28, .move (.tmp 41), 33, none⟩),
 (0, ⟨some 42, .extract (.tmp 28) 0, 9, none⟩),
 (0, ⟨some 43, .extract (.tmp 28) 1, 30, none⟩),
 (0, ⟨some 9, .assign (.tmp 42), 9, none⟩),
 (0, ⟨some 10, .assign (.tmp 43), 30, none⟩)]
theorem c24draw0 {L : List Nat} {ρ : Env} {w : World} {Q : Post} (S : World → Prop) (hS : S w.drew) (h : DG Tryz.prog S c24D0 L ρ w.drew Q) : drawW Tryz.prog (drawOps 0 c24code) L ρ w Q :=
  drawW_held [3] [(0, 0), (0, 1), (0, 2), (0, 4), (0, 5), (0, 6), (0, 7), (0, 10), (1, 3), (2, 8), (0, 9), (0, 11), (3, 12), (0, 13), (0, 14), (0, 15), (0, 16), (0, 17)] c24D0 (by kernel_rfl) (by kernel_rfl) (by kernel_rfl) S hS h
set_option maxRecDepth 100000 in
theorem ent24 (a0 a1 : Value) (w : World) (K : Value → World → Prop) (h : W Tryz.prog c24 [(0, a0), (1, a1)] w (finQ Tryz.prog [.tmp 4, .tmp 5] K)) : Ret Tryz.prog 24 [a0, a1] w K :=
  Ret_of_W (code := c24code) Tryz.func24 (by kernel_rfl) (by kernel_rfl) (of_decide_eq_true (by kernel_rfl)) h
@[go_sem] theorem go24 : goFunc Tryz.prog 24 = true := by kernel_rfl
noncomputable def c58code : Code := match Tryz.f58.body with | some c => c | none => .skip
noncomputable def c58S0 (_ : Unit) : Cmd := (.seq (.ops [
 ⟨some 11, .move (.tmp 7), 30, none⟩,
 ⟨some 12, .binOp .neq 30 (.tmp 11) (.const (.int .i64 0)) 30, 4, none⟩] [0, 1, 2, 7, 12])
 (.cond (.tmp 12)
  (.seq (.ops [
  ⟨some 13, .move (.tmp 7), 30, none⟩,
  ⟨some 6, .assign (.tmp 13), 30, none⟩] [6])
  .ret)
  (.skip [0, 1, 2])))
noncomputable def c58S1 (_ : Unit) : Cmd := (.seq (.ops [
 ⟨some 6, .assign (.const (.int .i64 0)), 30, none⟩] [6])
 .ret)
noncomputable def c58S2 (_ : Unit) : Cmd := (.seq (.draw (drawOps 0 c58code) []) (sg c58S1))
noncomputable def c58S3 (_ : Unit) : Cmd := (.seq (.seq (.ops [
 ⟨some 14, .move (.tmp 2), 9, none⟩,
 ⟨some 15, .call ⟨.builtin .len, #[(.tmp 14)], #[9]⟩, 3, none⟩,
 ⟨some 16, .binOp .gtr 3 (.tmp 15) (.const (.int .i64 256)) 3, 4, none⟩] [0, 1, 2, 16])
 (.cond (.tmp 16)
  (.seq (.ops [
  ⟨some 6, .assign (.const (.int .i64 21)), 30, none⟩] [6])
  .ret)
  (.skip [0, 1, 2]))) (sg c58S2))
noncomputable def c58 : Cmd := (.seq (.ops [
 ⟨some 6, .assign (.const (.int .i64 0)), 30, none⟩] [0, 1, 2])
 (.seq (.seq (.ops [
 ⟨some 8, .move (.tmp 0), 25, none⟩,
 ⟨some 9, .move (.tmp 1), 3, none⟩,
 ⟨some 10, .call ⟨.value (.func 56), #[(.tmp 8), (.tmp 9)], #[25, 3]⟩, 30, none⟩,
 ⟨some 7, .assign (.tmp 10), 30, none⟩] [0, 1, 2, 7]) (sg c58S0)) (sg c58S3)))
noncomputable def c58D0 : List (Nat × Ins) := [
 (0, ⟨some 17, .move (.tmp 0), 25, none⟩),
 (0, ⟨some 18, .nilCheck (.tmp 17), 0, none⟩),
 (0, ⟨some 19, .fieldAddr 101 (.tmp 18) 2, 0, none⟩),
 (0, ⟨some 21, .move (.tmp 1), 3, none⟩),
 (0, ⟨some 22, .move (.tmp 2), 9, none⟩),
 (0, ⟨some 23, .move (.tmp 2), 9, none⟩),
 (0, ⟨some 24, .call ⟨.builtin .len, #[(.tmp 23)], #[9]⟩, 3, none⟩),
 (0, ⟨some 25, .binOp .sub 3 (.const (.int .i64 256)) (.tmp 24) 3, 3, none⟩),
 (1, ⟨some 20, .load 99 (.tmp 19), 99, none⟩),
 (2, ⟨some 26, .makeSlice 106 (.tmp 25) (.tmp 25), 106, none⟩),
 (2, ⟨some 27, .convert 106 9 (.tmp 26), 9, none⟩),
 (0, ⟨some 28, .binOp .add 9 (.tmp 22) (.tmp 27) 9, 9, none⟩),
 (3, ⟨none, .mapUpdate 99 (.tmp 20) (.tmp 21) (.tmp 28), 0, none⟩)]
theorem c58draw0 {L : List Nat} {ρ : Env} {w : World} {Q : Post} (S : World → Prop) (hS : S w.drew) (h : DG Tryz.prog S c58D0 L ρ w.drew Q) : drawW Tryz.prog (drawOps 0 c58code) L ρ w Q :=
  drawW_held [3] [(0, 0), (0, 1), (0, 2), (0, 4), (0, 5), (0, 6), (0, 7), (0, 8), (1, 3), (2, 9), (2, 10), (0, 11), (3, 12)] c58D0 (by kernel_rfl) (by kernel_rfl) (by kernel_rfl) S hS h
set_option maxRecDepth 100000 in
theorem ent58 (a0 a1 a2 : Value) (w : World) (K : Value → World → Prop) (h : W Tryz.prog c58 [(0, a0), (1, a1), (2, a2)] w (finQ Tryz.prog [.tmp 6] K)) : Ret Tryz.prog 58 [a0, a1, a2] w K :=
  Ret_of_W (code := c58code) Tryz.func58 (by kernel_rfl) (by kernel_rfl) (of_decide_eq_true (by kernel_rfl)) h
@[go_sem] theorem go58 : goFunc Tryz.prog 58 = true := by kernel_rfl
noncomputable def c23code : Code := match Tryz.f23.body with | some c => c | none => .skip
noncomputable def c23S0 (_ : Unit) : Cmd := (.seq (.ops [
 ⟨some 5, .move (.tmp 0), 25, none⟩,
 ⟨some 6, .nilCheck (.tmp 5), 0, none⟩,
 ⟨some 7, .fieldAddr 101 (.tmp 6) 1, 0, none⟩,
 ⟨some 8, .fieldAddr 96 (.tmp 7) 3, 0, none⟩,
 ⟨some 9, .load 3 (.tmp 8), 3, none⟩,
 ⟨some 2, .assign (.tmp 9), 3, none⟩] [2])
 .ret)
noncomputable def c23 : Cmd := (.seq (.ops [
 ⟨some 2, .assign (.const (.int .i64 0)), 3, none⟩] [0])
 (.seq (.seq (.ops [
 ⟨some 3, .move (.tmp 0), 25, none⟩,
 ⟨some 4, .binOp .eql 25 (.tmp 3) (.const (.pointer none)) 25, 4, none⟩] [0, 4])
 (.cond (.tmp 4)
  (.seq (.ops [
  ⟨some 2, .assign (.const (.int .i64 0)), 3, none⟩] [2])
  .ret)
  (.skip [0]))) (sg c23S0)))
set_option maxRecDepth 100000 in
theorem ent23 (a0 : Value) (w : World) (K : Value → World → Prop) (h : W Tryz.prog c23 [(0, a0)] w (finQ Tryz.prog [.tmp 2] K)) : Ret Tryz.prog 23 [a0] w K :=
  Ret_of_W (code := c23code) Tryz.func23 (by kernel_rfl) (by kernel_rfl) (of_decide_eq_true (by kernel_rfl)) h
@[go_sem] theorem go23 : goFunc Tryz.prog 23 = true := by kernel_rfl
noncomputable def c42code : Code := match Tryz.f42.body with | some c => c | none => .skip
noncomputable def c42S0 (_ : Unit) : Cmd := (.ops [
 ⟨some 30, .binOp .add 3 (.tmp 15) (.const (.int .i64 1)) 3, 3, none⟩,
 ⟨some 15, .move (.tmp 30), 3, none⟩] [4, 14, 15])
noncomputable def c42S1 (_ : Unit) : Cmd := (.seq (.block 1 (.draw (drawOps 0 c42code) [4, 14, 15])) (sg c42S0))
noncomputable def c42L0 (_ : Unit) : Cmd := (.seq (.ops [
 ⟨some 16, .binOp .lss 3 (.tmp 15) (.tmp 14) 3, 4, none⟩] [4, 14, 15, 16])
 (.seq (.cond (.tmp 16)
  (.skip [4, 14, 15])
  (.exit 0 [4])) (sg c42S1)))
noncomputable def c42S2 (_ : Unit) : Cmd := (.seq (.ops [
 ⟨some 31, .move (.tmp 4), 46, none⟩,
 ⟨some 2, .assign (.tmp 31), 46, none⟩,
 ⟨some 3, .assign (.const (.int .i64 0)), 30, none⟩] [2, 3])
 .ret)
noncomputable def c42S3 (_ : Unit) : Cmd := (.seq (.seq (.ops [
 ⟨some 14, .move (.tmp 0), 3, none⟩,
 ⟨some 15, .move (.const (.int .i64 0)), 3, none⟩] [4, 14, 15])
 (.block 0 (.loop (sg c42L0)))) (sg c42S2))
noncomputable def c42S4 (_ : Unit) : Cmd := (.seq (.ops [
 ⟨some 11, .call ⟨.value (.func 68), #[], #[]⟩, 9, none⟩,
 ⟨some 12, .build 91 #[(2, (.const (.int .i64 (-1)))), (4, (.tmp 11))], 91, none⟩,
 ⟨some 13, .box 91 (.tmp 12), 46, none⟩,
 ⟨some 4, .assign (.tmp 13), 46, none⟩] [0, 4]) (sg c42S3))
noncomputable def c42 : Cmd := (.seq (.ops [
 ⟨some 2, .assign (.const (.pointer none)), 46, none⟩,
 ⟨some 3, .assign (.const (.int .i64 0)), 30, none⟩] [0])
 (.seq (.seq (.ops [
 ⟨some 5, .move (.tmp 0), 3, none⟩,
 ⟨some 6, .binOp .lss 3 (.tmp 5) (.const (.int .i64 1)) 3, 4, none⟩,
 ⟨some 7, .move (.tmp 6), 4, none⟩,
 ⟨some 8, .move (.tmp 0), 3, (some (7, false))⟩,
 ⟨some 9, .binOp .gtr 3 (.tmp 8) (.const (.int .i64 2048)) 3, 4, (some (7, false))⟩,
 ⟨some 10, .pick (.tmp 7) (.const (.bool true)) (.tmp 9), 4, none⟩] [0, 10])
 (.cond (.tmp 10)
  (.seq (.ops [
  ⟨some 2, .assign (.const (.pointer none)), 46, none⟩,
  ⟨some 3, .assign (.const (.int .i64 1)), 30, none⟩] [2, 3])
  .ret)
  (.skip [0]))) (sg c42S4)))
noncomputable def c42D0 : List (Nat × Ins) := [
 (0, ⟨some 17, .move (.tmp 4), 46, none⟩),
 (0, ⟨some 18, .move (.tmp 4), 46, none⟩),
 (0, ⟨some 19, .nilCheck (.tmp 18), 0, none⟩),
 (0, ⟨some 20, .fieldAddr 91 (.tmp 19) 0, 0, none⟩),
 (0, ⟨some 22, .move (.tmp 4), 46, none⟩),
 (0, ⟨some 23, .nilCheck (.tmp 22), 0, none⟩),
 (0, ⟨some 24, .fieldAddr 91 (.tmp 23) 4, 0, none⟩),
 (1, ⟨some 21, .load 49 (.tmp 20), 49, none⟩),
 (2, ⟨some 25, .load 9 (.tmp 24), 9, none⟩),
 (2, ⟨some 26, .buildSlice 49 1 #[(0, (.tmp 25))], 49, none⟩),
 (3, ⟨some 27, .call ⟨.builtin .append, #[(.tmp 21), (.tmp 26)], #[49, 49]⟩, 49, none⟩),
 (0, ⟨some 28, .nilCheck (.tmp 17), 0, none⟩),
 (0, ⟨some 29, .fieldAddr 91 (.tmp 28) 0, 0, none⟩),
 (3, ⟨none, .store 49 (.tmp 29) (.tmp 27), 0, none⟩)]
theorem c42draw0 {L : List Nat} {ρ : Env} {w : World} {Q : Post} (S : World → Prop) (hS : S w.drew) (h : DG Tryz.prog S c42D0 L ρ w.drew Q) : drawW Tryz.prog (drawOps 0 c42code) L ρ w Q :=
  drawW_held [4] [(0, 0), (0, 1), (0, 2), (0, 3), (0, 5), (0, 6), (0, 7), (1, 4), (2, 8), (2, 9), (3, 10), (0, 11), (0, 12), (3, 13)] c42D0 (by kernel_rfl) (by kernel_rfl) (by kernel_rfl) S hS h
set_option maxRecDepth 100000 in
theorem ent42 (a0 : Value) (w : World) (K : Value → World → Prop) (h : W Tryz.prog c42 [(0, a0)] w (finQ Tryz.prog [.tmp 2, .tmp 3] K)) : Ret Tryz.prog 42 [a0] w K :=
  Ret_of_W (code := c42code) Tryz.func42 (by kernel_rfl) (by kernel_rfl) (of_decide_eq_true (by kernel_rfl)) h
@[go_sem] theorem go42 : goFunc Tryz.prog 42 = true := by kernel_rfl
noncomputable def c43code : Code := match Tryz.f43.body with | some c => c | none => .skip
noncomputable def c43S0 (_ : Unit) : Cmd := (.seq (.ops [
 ⟨some 16, .move (.tmp 7), 30, none⟩,
 ⟨some 17, .binOp .neq 30 (.tmp 16) (.const (.int .i64 0)) 30, 4, none⟩] [0, 1, 5, 7, 17])
 (.cond (.tmp 17)
  (.seq (.ops [
  ⟨some 18, .move (.tmp 7), 30, none⟩,
  ⟨some 4, .assign (.tmp 18), 30, none⟩] [4])
  .ret)
  (.skip [0, 1, 5])))
noncomputable def c43S1 (_ : Unit) : Cmd := (.seq (.ops [
 ⟨some 35, .move (.tmp 8), 30, none⟩,
 ⟨some 36, .binOp .neq 30 (.tmp 35) (.const (.int .i64 0)) 30, 4, none⟩] [0, 1, 5, 8, 36])
 (.cond (.tmp 36)
  (.seq (.ops [
  ⟨some 37, .move (.tmp 8), 30, none⟩,
  ⟨some 4, .assign (.tmp 37), 30, none⟩] [4])
  .ret)
  (.skip [0, 1, 5])))
noncomputable def c43S2 (_ : Unit) : Cmd := .ret
noncomputable def c43S3 (_ : Unit) : Cmd := (.seq (.ops [
 ⟨some 38, .move (.tmp 0), 46, none⟩,
 ⟨some 39, .move (.tmp 1), 3, none⟩,
 ⟨some 40, .move (.tmp 5), 3, none⟩,
 ⟨some 41, .binOp .sub 3 (.tmp 40) (.const (.int .i64 2)) 3, 3, none⟩,
 ⟨some 42, .move (.tmp 1), 3, none⟩,
 ⟨some 43, .binOp .sub 3 (.tmp 41) (.tmp 42) 3, 3, none⟩,
 ⟨some 44, .call ⟨.builtin .min, #[(.tmp 43), (.const (.int .i64 1024))], #[3, 3]⟩, 3, none⟩,
 ⟨some 45, .build 96 #[(0, (.const (.int .u64 2))), (2, (.tmp 39)), (3, (.tmp 44))], 96, none⟩,
 ⟨some 46, .call ⟨.value (.func 71), #[(.tmp 38), (.tmp 45)], #[46, 96]⟩, 30, none⟩,
 ⟨some 4, .assign (.tmp 46), 30, none⟩] [4]) (sg c43S2))
noncomputable def c43S4 (_ : Unit) : Cmd := (.seq (.seq (.ops [
 ⟨some 33, .move (.tmp 0), 46, none⟩,
 ⟨some 34, .call ⟨.value (.func 70), #[(.tmp 33), (.const (.int .i64 1)), (.const (.string (ofL [])))], #[46, 3, 9]⟩, 30, none⟩,
 ⟨some 8, .assign (.tmp 34), 30, none⟩] [0, 1, 5, 8]) (sg c43S1)) (sg c43S3))
noncomputable def c43S5 (_ : Unit) : Cmd := (.seq (.seq (.ops [
 ⟨some 19, .move (.tmp 1), 3, none⟩,
 ⟨some 20, .binOp .lss 3 (.tmp 19) (.const (.int .i64 1)) 3, 4, none⟩,
 ⟨some 21, .move (.tmp 20), 4, none⟩,
 ⟨some 22, .move (.tmp 1), 3, (some (21, false))⟩,
 ⟨some 23, .move (.tmp 5), 3, (some (21, false))⟩,
 ⟨some 24, .binOp .gtr 3 (.tmp 22) (.tmp 23) 3, 4, (some (21, false))⟩,
 ⟨some 25, .pick (.tmp 21) (.const (.bool true)) (.tmp 24), 4, none⟩,
 ⟨some 26, .move (.tmp 25), 4, none⟩,
 ⟨some 27, .move (.tmp 5), 3, (some (26, false))⟩,
 ⟨some 28, .binOp .sub 3 (.tmp 27) (.const (.int .i64 2)) 3, 3, (some (26, false))⟩,
 ⟨some 29, .move (.tmp 1), 3, (some (26, false))⟩,
 ⟨some 30, .binOp .sub 3 (.tmp 28) (.tmp 29) 3, 3, (some (26, false))⟩,
 ⟨some 31, .binOp .lss 3 (.tmp 30) (.const (.int .i64 1)) 3, 4, (some (26, false))⟩,
 ⟨some 32, .pick (.tmp 26) (.const (.bool true)) (.tmp 31), 4, none⟩] [0, 1, 5, 32])
 (.cond (.tmp 32)
  (.seq (.ops [
  ⟨some 4, .assign (.const (.int .i64 1)), 30, none⟩] [4])
  .ret)
  (.skip [0, 1, 5]))) (sg c43S4))
noncomputable def c43S6 (_ : Unit) : Cmd := (.seq (.seq (.ops [
 ⟨some 12, .move (.tmp 0), 46, none⟩,
 ⟨some 13, .call ⟨.value (.func 53), #[(.tmp 12), (.const (.int .i64 0))], #[46, 3]⟩, 33, none⟩,
 ⟨some 11, .move (.tmp 13), 33, none⟩,
 ⟨some 14, .extract (.tmp 11) 0, 9, none⟩,
 ⟨some 15, .extract (.tmp 11) 1, 30, none⟩,
 ⟨some 6, .assign (.tmp 14), 9, none⟩,
 ⟨some 7, .assign (.tmp 15), 30, none⟩] [0, 1, 5, 7]) (sg c43S0)) (sg c43S5))
noncomputable def c43 : Cmd := (.seq (.ops [
 ⟨some 4, .assign (.const (.int .i64 0)), 30, none⟩] [0, 1])
 (.seq (.ops [
 ⟨some 9, .move (.tmp 0), 46, none⟩,
 ⟨some 10, .call ⟨.value (.func 69), #[(.tmp 9)], #[46]⟩, 3, none⟩,
 ⟨some 5, .assign (.tmp 10), 3, none⟩] [0, 1, 5]) (sg c43S6)))
set_option maxRecDepth 100000 in
theorem ent43 (a0 a1 : Value) (w : World) (K : Value → World → Prop) (h : W Tryz.prog c43 [(0, a0), (1, a1)] w (finQ Tryz.prog [.tmp 4] K)) : Ret Tryz.prog 43 [a0, a1] w K :=
  Ret_of_W (code := c43code) Tryz.func43 (by kernel_rfl) (by kernel_rfl) (of_decide_eq_true (by kernel_rfl)) h
@[go_sem] theorem go43 : goFunc Tryz.prog 43 = true := by kernel_rfl
noncomputable def c15code : Code := match Tryz.f15.body with | some c => c | none => .skip
noncomputable def c15S0 (_ : Unit) : Cmd := (.seq (.ops [
 ⟨some 13, .move (.tmp 5), 30, none⟩,
 ⟨some 14, .binOp .neq 30 (.tmp 13) (.const (.int .i64 0)) 30, 4, none⟩] [0, 5, 14])
 (.cond (.tmp 14)
  (.seq (.ops [
  ⟨some 15, .move (.tmp 5), 30, none⟩,
  ⟨some 2, .assign (.const (.pointer none)), 24, none⟩,
  ⟨some 3, .assign (.tmp 15), 30, none⟩] [2, 3])
  .ret)
  (.skip [0])))
noncomputable def c15S1 (_ : Unit) : Cmd := (.seq (.ops [
 ⟨some 20, .move (.tmp 0), 25, none⟩,
 ⟨some 21, .move (.tmp 6), 26, none⟩,
 ⟨some 22, .build 28 #[(0, (.tmp 20)), (1, (.tmp 21))], 28, none⟩,
 ⟨some 23, .box 28 (.tmp 22), 24, none⟩,
 ⟨some 24, .move (.tmp 7), 30, none⟩,
 ⟨some 2, .assign (.tmp 23), 24, none⟩,
 ⟨some 3, .assign (.tmp 24), 30, none⟩] [2, 3])
 .ret)
noncomputable def c15S2 (_ : Unit) : Cmd := (.seq (.ops [
 ⟨some 17, .call ⟨.value (.func 41), #[(.const (.int .i64 64))], #[3]⟩, 73, none⟩,
 ⟨some 16, .move (.tmp 17), 73, none⟩,
 ⟨some 18, .extract (.tmp 16) 0, 26, none⟩,
 ⟨some 19, .extract (.tmp 16) 1, 30, none⟩,
 ⟨some 6, .assign (.tmp 18), 26, none⟩,
 ⟨some 7, .assign (.tmp 19), 30, none⟩] [0, 6, 7]) (sg c15S1))
noncomputable def c15 : Cmd := (.seq (.ops [
 ⟨some 2, .assign (.const (.pointer none)), 24, none⟩,
 ⟨some 3, .assign (.const (.int .i64 0)), 30, none⟩] [0])
 (.seq (.seq (.ops [
 ⟨some 9, .move (.tmp 0), 25, none⟩,
 ⟨some 10, .call ⟨.value (.func 24), #[(.tmp 9), (.const (.int .i64 0))], #[25, 3]⟩, 33, none⟩,
 ⟨some 8, .move (.tmp 10), 33, none⟩,
 ⟨some 11, .extract (.tmp 8) 0, 9, none⟩,
 ⟨some 12, .extract (.tmp 8) 1, 30, none⟩,
 ⟨some 4, .assign (.tmp 11), 9, none⟩,
 ⟨some 5, .assign (.tmp 12), 30, none⟩] [0, 5]) (sg c15S0)) (sg c15S2)))
set_option maxRecDepth 100000 in
theorem ent15 (a0 : Value) (w : World) (K : Value → World → Prop) (h : W Tryz.prog c15 [(0, a0)] w (finQ Tryz.prog [.tmp 2, .tmp 3] K)) : Ret Tryz.prog 15 [a0] w K :=
  Ret_of_W (code := c15code) Tryz.func15 (by kernel_rfl) (by kernel_rfl) (of_decide_eq_true (by kernel_rfl)) h
@[go_sem] theorem go15 : goFunc Tryz.prog 15 = true := by kernel_rfl
noncomputable def c32code : Code := match Tryz.f32.body with | some c => c | none => .skip
noncomputable def c32 : Cmd := (.seq (.ops [
 ⟨some 2, .assign (.const (.bool false)), 4, none⟩] [0])
 (.seq (.ops [
 ⟨some 3, .move (.tmp 0), 24, none⟩,
 ⟨some 4, .binOp .neq 24 (.tmp 3) (.const (.pointer none)) 24, 4, none⟩,
 ⟨some 5, .move (.tmp 4), 4, none⟩,
 ⟨some 6, .move (.tmp 0), 24, (some (5, true))⟩,
 ⟨some 7, .nilCheck (.tmp 6), 0, (some (5, true))⟩,
 ⟨some 8, .fieldAddr 28 (.tmp 7) 0, 0, (some (5, true))⟩,
 ⟨some 9, .load 25 (.tmp 8), 25, (some (5, true))⟩,
 ⟨some 10, .binOp .neq 25 (.tmp 9) (.const (.pointer none)) 25, 4, (some (5, true))⟩,
 ⟨some 11, .pick (.tmp 5) (.tmp 10) (.const (.bool false)), 4, none⟩,
 ⟨some 2, .assign (.tmp 11), 4, none⟩] [2])
 .ret))
set_option maxRecDepth 100000 in
theorem ent32 (a0 : Value) (w : World) (K : Value → World → Prop) (h : W Tryz.prog c32 [(0, a0)] w (finQ Tryz.prog [.tmp 2] K)) : Ret Tryz.prog 32 [a0] w K :=
  Ret_of_W (code := c32code) Tryz.func32 (by kernel_rfl) (by kernel_rfl) (of_decide_eq_true (by kernel_rfl)) h
@[go_sem] theorem go32 : goFunc Tryz.prog 32 = true := by kernel_rfl
noncomputable def c40code : Code := match Tryz.f40.body with | some c => c | none => .skip
noncomputable def c40S0 (_ : Unit) : Cmd := .ret
noncomputable def c40 : Cmd := (.seq (.ops [
 ⟨some 2, .assign (.const (.string (ofL []))), 9, none⟩] [0])
 (.seq (.ops [
 ⟨some 3, .move (.tmp 0), 3, none⟩,
 ⟨some 4, .binOp .quo 3 (.tmp 3) (.const (.int .i64 8)) 3, 3, none⟩,
 ⟨some 5, .move (.tmp 0), 3, none⟩,
 ⟨some 6, .binOp .rem 3 (.tmp 5) (.const (.int .i64 8)) 3, 3, none⟩,
 ⟨some 7, .call ⟨.builtin .max, #[(.const (.int .i64 0)), (.tmp 6)], #[3, 3]⟩, 3, none⟩,
 ⟨some 8, .call ⟨.builtin .min, #[(.const (.int .i64 1)), (.tmp 7)], #[3, 3]⟩, 3, none⟩,
 ⟨some 9, .binOp .add 3 (.tmp 4) (.tmp 8) 3, 3, none⟩,
 ⟨some 10, .call ⟨.builtin .max, #[(.const (.int .i64 0)), (.tmp 9)], #[3, 3]⟩, 3, none⟩,
 ⟨some 11, .makeSlice 106 (.tmp 10) (.tmp 10), 106, none⟩,
 ⟨some 12, .convert 106 9 (.tmp 11), 9, none⟩,
 ⟨some 2, .assign (.tmp 12), 9, none⟩] [2]) (sg c40S0)))
set_option maxRecDepth 100000 in
theorem ent40 (a0 : Value) (w : World) (K : Value → World → Prop) (h : W Tryz.prog c40 [(0, a0)] w (finQ Tryz.prog [.tmp 2] K)) : Ret Tryz.prog 40 [a0] w K :=
  Ret_of_W (code := c40code) Tryz.func40 (by kernel_rfl) (by kernel_rfl) (of_decide_eq_true (by kernel_rfl)) h
@[go_sem] theorem go40 : goFunc Tryz.prog 40 = true := by kernel_rfl
noncomputable def c28code : Code := match Tryz.f28.body with | some c => c | none => .skip
noncomputable def c28S0 (_ : Unit) : Cmd := (.seq (.ops [
 ⟨some 44, .move (.tmp 8), 106, none⟩,
 ⟨some 45, .convert 106 9 (.tmp 44), 9, none⟩,
 ⟨some 6, .assign (.tmp 45), 9, none⟩,
 ⟨some 7, .assign (.const (.bool true)), 4, none⟩] [6, 7])
 .ret)
noncomputable def c28S1 (_ : Unit) : Cmd := (.seq (.ops [
 ⟨some 19, .move (.tmp 0), 9, none⟩,
 ⟨some 20, .convert 9 106 (.tmp 19), 106, none⟩,
 ⟨some 8, .assign (.tmp 20), 106, none⟩] [1, 2, 8])
 (.seq (.seq (.ops [
 ⟨some 21, .move (.tmp 2), 4, none⟩] [1, 8, 21])
 (.cond (.tmp 21)
  (.ops [
  ⟨some 22, .move (.tmp 8), 106, none⟩,
  ⟨some 23, .move (.tmp 1), 3, none⟩,
  ⟨some 24, .binOp .quo 3 (.tmp 23) (.const (.int .i64 8)) 3, 3, none⟩,
  ⟨some 25, .indexAddr 106 (.tmp 22) (.tmp 24), 0, none⟩,
  ⟨some 26, .load 5 (.tmp 25), 5, none⟩,
  ⟨some 27, .move (.tmp 1), 3, none⟩,
  ⟨some 28, .binOp .rem 3 (.tmp 27) (.const (.int .i64 8)) 3, 3, none⟩,
  ⟨some 29, .convert 3 94 (.tmp 28), 94, none⟩,
  ⟨some 30, .binOp .shl 5 (.const (.int .u8 1)) (.tmp 29) 94, 5, none⟩,
  ⟨some 31, .binOp .or 5 (.tmp 26) (.tmp 30) 5, 5, none⟩,
  ⟨some 32, .indexAddr 106 (.tmp 22) (.tmp 24), 0, none⟩,
  ⟨none, .store 5 (.tmp 32) (.tmp 31), 0, none⟩] [8])
  (.ops [
  ⟨some 33, .move (.tmp 8), 106, none⟩,
  ⟨some 34, .move (.tmp 1), 3, none⟩,
  ⟨some 35, .binOp .quo 3 (.tmp 34) (.const (.int .i64 8)) 3, 3, none⟩,
  ⟨some 36, .indexAddr 106 (.tmp 33) (.tmp 35), 0, none⟩,
  ⟨some 37, .load 5 (.tmp 36), 5, none⟩,
  ⟨some 38, .move (.tmp 1), 3, none⟩,
  ⟨some 39, .binOp .rem 3 (.tmp 38) (.const (.int .i64 8)) 3, 3, none⟩,
  ⟨some 40, .convert 3 94 (.tmp 39), 94, none⟩,
  ⟨some 41, .binOp .shl 5 (.const (.int .u8 1)) (.tmp 40) 94, 5, none⟩,
  ⟨some 42, .binOp .andNot 5 (.tmp 37) (.tmp 41) 5, 5, none⟩,
  ⟨some 43, .indexAddr 106 (.tmp 33) (.tmp 35), 0, none⟩,
  ⟨none, .store 5 (.tmp 43) (.tmp 42), 0, none⟩] [8]))) (sg c28S0)))
noncomputable def c28 : Cmd := (.seq (.ops [
 ⟨some 6, .assign (.const (.string (ofL []))), 9, none⟩,
 ⟨some 7, .assign (.const (.bool false)), 4, none⟩] [0, 1, 2])
 (.seq (.seq (.ops [
 ⟨some 9, .move (.tmp 1), 3, none⟩,
 ⟨some 10, .binOp .lss 3 (.tmp 9) (.const (.int .i64 0)) 3, 4, none⟩,
 ⟨some 11, .move (.tmp 10), 4, none⟩,
 ⟨some 12, .move (.tmp 1), 3, (some (11, false))⟩,
 ⟨some 13, .binOp .quo 3 (.tmp 12) (.const (.int .i64 8)) 3, 3, (some (11, false))⟩,
 ⟨some 14, .move (.tmp 0), 9, (some (11, false))⟩,
 ⟨some 15, .call ⟨.builtin .len, #[(.tmp 14)], #[9]⟩, 3, (some (11, false))⟩,
 ⟨some 16, .binOp .geq 3 (.tmp 13) (.tmp 15) 3, 4, (some (11, false))⟩,
 ⟨some 17, .pick (.tmp 11) (.const (.bool true)) (.tmp 16), 4, none⟩] [0, 1, 2, 17])
 (.cond (.tmp 17)
  (.seq (.ops [
  ⟨some 18, .move (.tmp 0), 9, none⟩,
  ⟨some 6, .assign (.tmp 18), 9, none⟩,
  ⟨some 7, .assign (.const (.bool false)), 4, none⟩] [6, 7])
  .ret)
  (.skip [0, 1, 2]))) (sg c28S1)))
set_option maxRecDepth 100000 in
theorem ent28 (a0 a1 a2 : Value) (w : World) (K : Value → World → Prop) (h : W Tryz.prog c28 [(0, a0), (1, a1), (2, a2)] w (finQ Tryz.prog [.tmp 6, .tmp 7] K)) : Ret Tryz.prog 28 [a0, a1, a2] w K :=
  Ret_of_W (code := c28code) Tryz.func28 (by kernel_rfl) (by kernel_rfl) (of_decide_eq_true (by kernel_rfl)) h
@[go_sem] theorem go28 : goFunc Tryz.prog 28 = true := by kernel_rfl
noncomputable def c29code : Code := match Tryz.f29.body with | some c => c | none => .skip
noncomputable def c29S0 (_ : Unit) : Cmd := .ret
noncomputable def c29S1 (_ : Unit) : Cmd := (.seq (.ops [
 ⟨some 13, .move (.tmp 0), 24, none⟩,
 ⟨some 14, .nilCheck (.tmp 13), 0, none⟩,
 ⟨some 15, .fieldAddr 28 (.tmp 14) 0, 0, none⟩,
 ⟨some 16, .load 25 (.tmp 15), 25, none⟩,
 ⟨some 17, .move (.tmp 1), 3, none⟩,
 ⟨some 18, .move (.tmp 2), 9, none⟩,
 ⟨some 19, .call ⟨.value (.func 58), #[(.tmp 16), (.tmp 17), (.tmp 18)], #[25, 3, 9]⟩, 30, none⟩,
 ⟨some 6, .assign (.tmp 19), 30, none⟩] [6]) (sg c29S0))
noncomputable def c29 : Cmd := (.seq (.ops [
 ⟨some 6, .assign (.const (.int .i64 0)), 30, none⟩] [0, 1, 2])
 (.seq (.ops [
 ⟨some 7, .move (.tmp 0), 24, none⟩,
 ⟨some 8, .nilCheck (.tmp 7), 0, none⟩,
 ⟨some 9, .fieldAddr 28 (.tmp 8) 1, 0, none⟩,
 ⟨some 10, .load 26 (.tmp 9), 26, none⟩,
 ⟨some 11, .move (.tmp 1), 3, none⟩,
 ⟨some 12, .call ⟨.value (.func 57), #[(.tmp 10), (.tmp 11)], #[26, 3]⟩, 4, none⟩] [0, 1, 2]) (sg c29S1)))
set_option maxRecDepth 100000 in
theorem ent29 (a0 a1 a2 : Value) (w : World) (K : Value → World → Prop) (h : W Tryz.prog c29 [(0, a0), (1, a1), (2, a2)] w (finQ Tryz.prog [.tmp 6] K)) : Ret Tryz.prog 29 [a0, a1, a2] w K :=
  Ret_of_W (code := c29code) Tryz.func29 (by kernel_rfl) (by kernel_rfl) (of_decide_eq_true (by kernel_rfl)) h
@[go_sem] theorem go29 : goFunc Tryz.prog 29 = true := by kernel_rfl
noncomputable def c26code : Code := match Tryz.f26.body with | some c => c | none => .skip
noncomputable def c26S0 (_ : Unit) : Cmd := (.cond (.tmp 6)
  (.seq (.ops [
  ⟨some 2, .assign (.const (.string (ofL []))), 9, none⟩,
  ⟨some 3, .assign (.const (.int .i64 3)), 30, none⟩] [2, 3])
  .ret)
  (.skip [0]))
noncomputable def c26S1 (_ : Unit) : Cmd := .ret
noncomputable def c26S2 (_ : Unit) : Cmd := (.seq (.ops [
 ⟨some 7, .move (.tmp 0), 24, none⟩,
 ⟨some 8, .call ⟨.value (.func 31), #[(.tmp 7), (.const (.int .i64 0))], #[24, 3]⟩, 33, none⟩,
 ⟨some 9, .extract (.tmp 8) 0, 9, none⟩,
 ⟨some 10, .extract (.tmp 8) 1, 30, none⟩,
 ⟨some 2, .assign (.tmp 9), 9, none⟩,
 ⟨some 3, .assign (.tmp 10), 30, none⟩] [2, 3]) (sg c26S1))
noncomputable def c26 : Cmd := (.seq (.ops [
 ⟨some 2, .assign (.const (.string (ofL []))), 9, none⟩,
 ⟨some 3, .assign (.const (.int .i64 0)), 30, none⟩] [0])
 (.seq (.seq (.ops [
 ⟨some 4, .move (.tmp 0), 24, none⟩,
 ⟨some 5, .call ⟨.value (.func 32), #[(.tmp 4)], #[24]⟩, 4, none⟩,
 ⟨some 6, .unOp .not 4 (.tmp 5), 4, none⟩] [0, 6]) (sg c26S0)) (sg c26S2)))
set_option maxRecDepth 100000 in
theorem ent26 (a0 : Value) (w : World) (K : Value → World → Prop) (h : W Tryz.prog c26 [(0, a0)] w (finQ Tryz.prog [.tmp 2, .tmp 3] K)) : Ret Tryz.prog 26 [a0] w K :=
  Ret_of_W (code := c26code) Tryz.func26 (by kernel_rfl) (by kernel_rfl) (of_decide_eq_true (by kernel_rfl)) h
@[go_sem] theorem go26 : goFunc Tryz.prog 26 = true := by kernel_rfl
noncomputable def c27code : Code := match Tryz.f27.body with | some c => c | none => .skip
noncomputable def c27S0 (_ : Unit) : Cmd := (.cond (.tmp 38)
  (.seq (.ops [
  ⟨some 39, .move (.tmp 8), 3, none⟩,
  ⟨some 6, .assign (.tmp 39), 3, none⟩,
  ⟨some 7, .assign (.const (.bool true)), 4, none⟩] [6, 7])
  .ret)
  (.skip [0, 2, 8]))
noncomputable def c27S1 (_ : Unit) : Cmd := (.seq (.ops [
 ⟨some 35, .move (.tmp 0), 9, none⟩,
 ⟨some 36, .move (.tmp 8), 3, none⟩,
 ⟨some 37, .call ⟨.value (.func 38), #[(.tmp 35), (.tmp 36)], #[9, 3]⟩, 4, none⟩,
 ⟨some 38, .unOp .not 4 (.tmp 37), 4, none⟩] [0, 2, 8, 38]) (sg c27S0))
noncomputable def c27S2 (_ : Unit) : Cmd := (.ops [
 ⟨some 21, .move (.tmp 8), 3, none⟩,
 ⟨some 22, .binOp .add 3 (.tmp 21) (.const (.int .i64 1)) 3, 3, none⟩,
 ⟨some 8, .assign (.tmp 22), 3, none⟩] [0, 2, 8])
noncomputable def c27S3 (_ : Unit) : Cmd := (.seq (.block 1 (.seq (.seq (.ops [
 ⟨some 23, .move (.tmp 8), 3, none⟩,
 ⟨some 24, .binOp .rem 3 (.tmp 23) (.const (.int .i64 8)) 3, 3, none⟩,
 ⟨some 25, .binOp .eql 3 (.tmp 24) (.const (.int .i64 0)) 3, 4, none⟩,
 ⟨some 26, .move (.tmp 25), 4, none⟩,
 ⟨some 27, .move (.tmp 0), 9, (some (26, true))⟩,
 ⟨some 28, .move (.tmp 8), 3, (some (26, true))⟩,
 ⟨some 29, .binOp .quo 3 (.tmp 28) (.const (.int .i64 8)) 3, 3, (some (26, true))⟩,
 ⟨some 30, .index 9 (.tmp 27) (.tmp 29), 5, (some (26, true))⟩,
 ⟨some 31, .binOp .eql 5 (.tmp 30) (.const (.int .u8 255)) 5, 4, (some (26, true))⟩,
 ⟨some 32, .pick (.tmp 26) (.tmp 31) (.const (.bool false)), 4, none⟩] [0, 2, 8, 32])
 (.cond (.tmp 32)
  (.seq (.ops [
  ⟨some 33, .move (.tmp 8), 3, none⟩,
  ⟨some 34, .binOp .add 3 (.tmp 33) (.const (.int .i64 7)) 3, 3, none⟩,
  ⟨some 8, .assign (.tmp 34), 3, none⟩] [0, 2, 8])
  (.exit 1 [0, 2, 8]))
  (.skip [0, 2, 8]))) (sg c27S1))) (sg c27S2))
noncomputable def c27L0 (_ : Unit) : Cmd := (.seq (.seq (.ops [
 ⟨some 11, .move (.tmp 8), 3, none⟩,
 ⟨some 12, .move (.tmp 2), 3, none⟩,
 ⟨some 13, .binOp .lss 3 (.tmp 11) (.tmp 12) 3, 4, none⟩,
 ⟨some 14, .move (.tmp 13), 4, none⟩,
 ⟨some 15, .move (.tmp 8), 3, (some (14, true))⟩,
 ⟨some 16, .binOp .quo 3 (.tmp 15) (.const (.int .i64 8)) 3, 3, (some (14, true))⟩,
 ⟨some 17, .move (.tmp 0), 9, (some (14, true))⟩,
 ⟨some 18, .call ⟨.builtin .len, #[(.tmp 17)], #[9]⟩, 3, (some (14, true))⟩,
 ⟨some 19, .binOp .lss 3 (.tmp 16) (.tmp 18) 3, 4, (some (14, true))⟩,
 ⟨some 20, .pick (.tmp 14) (.tmp 19) (.const (.bool false)), 4, none⟩] [0, 2, 8, 20])
 (.cond (.tmp 20)
  (.skip [0, 2, 8])
  (.exit 0 []))) (sg c27S3))
noncomputable def c27S4 (_ : Unit) : Cmd := (.block 0 (.loop (sg c27L0)))
noncomputable def c27S5 (_ : Unit) : Cmd := (.seq (.ops [
 ⟨some 6, .assign (.const (.int .i64 0)), 3, none⟩,
 ⟨some 7, .assign (.const (.bool false)), 4, none⟩] [6, 7])
 .ret)
noncomputable def c27 : Cmd := (.seq (.ops [
 ⟨some 6, .assign (.const (.int .i64 0)), 3, none⟩,
 ⟨some 7, .assign (.const (.bool false)), 4, none⟩] [0, 1, 2])
 (.seq (.seq (.ops [
 ⟨some 9, .move (.tmp 1), 3, none⟩,
 ⟨some 10, .call ⟨.builtin .max, #[(.const (.int .i64 0)), (.tmp 9)], #[3, 3]⟩, 3, none⟩,
 ⟨some 8, .assign (.tmp 10), 3, none⟩] [0, 2, 8]) (sg c27S4)) (sg c27S5)))
set_option maxRecDepth 100000 in
theorem ent27 (a0 a1 a2 : Value) (w : World) (K : Value → World → Prop) (h : W Tryz.prog c27 [(0, a0), (1, a1), (2, a2)] w (finQ Tryz.prog [.tmp 6, .tmp 7] K)) : Ret Tryz.prog 27 [a0, a1, a2] w K :=
  Ret_of_W (code := c27code) Tryz.func27 (by kernel_rfl) (by kernel_rfl) (of_decide_eq_true (by kernel_rfl)) h
@[go_sem] theorem go27 : goFunc Tryz.prog 27 = true := by kernel_rfl
noncomputable def c37code : Code := match Tryz.f37.body with | some c => c | none => .skip
noncomputable def c37S0 (_ : Unit) : Cmd := (.ops [
 ⟨some 16, .binOp .add 3 (.tmp 7) (.const (.int .i64 1)) 3, 3, none⟩,
 ⟨some 7, .move (.tmp 16), 3, none⟩] [0, 3, 6, 7])
noncomputable def c37S1 (_ : Unit) : Cmd := (.seq (.block 1 (.seq (.ops [
 ⟨some 9, .move (.tmp 7), 3, none⟩,
 ⟨some 4, .assign (.tmp 9), 3, none⟩] [0, 3, 4, 6, 7])
 (.ops [
 ⟨some 10, .move (.tmp 3), 3, none⟩,
 ⟨some 11, .move (.tmp 0), 9, none⟩,
 ⟨some 12, .move (.tmp 4), 3, none⟩,
 ⟨some 13, .index 9 (.tmp 11) (.tmp 12), 5, none⟩,
 ⟨some 14, .call ⟨.value (.func 62), #[(.tmp 13)], #[5]⟩, 3, none⟩,
 ⟨some 15, .binOp .add 3 (.tmp 10) (.tmp 14) 3, 3, none⟩,
 ⟨some 3, .assign (.tmp 15), 3, none⟩] [0, 3, 6, 7]))) (sg c37S0))
noncomputable def c37L0 (_ : Unit) : Cmd := (.seq (.ops [
 ⟨some 8, .binOp .lss 3 (.tmp 7) (.tmp 6) 3, 4, none⟩] [0, 3, 6, 7, 8])
 (.seq (.cond (.tmp 8)
  (.skip [0, 3, 6, 7])
  (.exit 0 [3])) (sg c37S1)))
noncomputable def c37S2 (_ : Unit) : Cmd := (.seq (.ops [
 ⟨some 17, .move (.tmp 3), 3, none⟩,
 ⟨some 2, .assign (.tmp 17), 3, none⟩] [2])
 .ret)
noncomputable def c37 : Cmd := (.seq (.ops [
 ⟨some 2, .assign (.const (.int .i64 0)), 3, none⟩] [0])
 (.seq (.ops [
 ⟨some 3, .assign (.const (.int .i64 0)), 3, none⟩] [0, 3])
 (.seq (.seq (.ops [
 ⟨some 5, .move (.tmp 0), 9, none⟩,
 ⟨some 6, .call ⟨.builtin .len, #[(.tmp 5)], #[9]⟩, 3, none⟩,
 ⟨some 7, .move (.const (.int .i64 0)), 3, none⟩] [0, 3, 6, 7])
 (.block 0 (.loop (sg c37L0)))) (sg c37S2))))
set_option maxRecDepth 100000 in
theorem ent37 (a0 : Value) (w : World) (K : Value → World → Prop) (h : W Tryz.prog c37 [(0, a0)] w (finQ Tryz.prog [.tmp 2] K)) : Ret Tryz.prog 37 [a0] w K :=
  Ret_of_W (code := c37code) Tryz.func37 (by kernel_rfl) (by kernel_rfl) (of_decide_eq_true (by kernel_rfl)) h
@[go_sem] theorem go37 : goFunc Tryz.prog 37 = true := by kernel_rfl
noncomputable def c38code : Code := match Tryz.f38.body with | some c => c | none => .skip
noncomputable def c38 : Cmd := (.seq (.ops [
 ⟨some 4, .assign (.const (.bool false)), 4, none⟩] [0, 1])
 (.seq (.ops [
 ⟨some 5, .move (.tmp 1), 3, none⟩,
 ⟨some 6, .binOp .geq 3 (.tmp 5) (.const (.int .i64 0)) 3, 4, none⟩,
 ⟨some 7, .move (.tmp 6), 4, none⟩,
 ⟨some 8, .move (.tmp 1), 3, (some (7, true))⟩,
 ⟨some 9, .binOp .quo 3 (.tmp 8) (.const (.int .i64 8)) 3, 3, (some (7, true))⟩,
 ⟨some 10, .move (.tmp 0), 9, (some (7, true))⟩,
 ⟨some 11, .call ⟨.builtin .len, #[(.tmp 10)], #[9]⟩, 3, (some (7, true))⟩,
 ⟨some 12, .binOp .lss 3 (.tmp 9) (.tmp 11) 3, 4, (some (7, true))⟩,
 ⟨some 13, .pick (.tmp 7) (.tmp 12) (.const (.bool false)), 4, none⟩,
 ⟨some 14, .move (.tmp 13), 4, none⟩,
 ⟨some 15, .move (.tmp 0), 9, (some (14, true))⟩,
 ⟨some 16, .move (.tmp 1), 3, (some (14, true))⟩,
 ⟨some 17, .binOp .quo 3 (.tmp 16) (.const (.int .i64 8)) 3, 3, (some (14, true))⟩,
 ⟨some 18, .index 9 (.tmp 15) (.tmp 17), 5, (some (14, true))⟩,
 ⟨some 19, .move (.tmp 1), 3, (some (14, true))⟩,
 ⟨some 20, .binOp .rem 3 (.tmp 19) (.const (.int .i64 8)) 3, 3, (some (14, true))⟩,
 ⟨some 21, .convert 3 94 (.tmp 20), 94, (some (14, true))⟩,
 ⟨some 22, .binOp .shr 5 (.tmp 18) (.tmp 21) 94, 5, (some (14, true))⟩,
 ⟨some 23, .binOp .and 5 (.tmp 22) (.const (.int .u8 1)) 5, 5, (some (14, true))⟩,
 ⟨some 24, .binOp .eql 5 (.tmp 23) (.const (.int .u8 1)) 5, 4, (some (14, true))⟩,
 ⟨some 25, .pick (.tmp 14) (.tmp 24) (.const (.bool false)), 4, none⟩,
 ⟨some 4, .assign (.tmp 25), 4, none⟩] [4])
 .ret))
set_option maxRecDepth 100000 in
theorem ent38 (a0 a1 : Value) (w : World) (K : Value → World → Prop) (h : W Tryz.prog c38 [(0, a0), (1, a1)] w (finQ Tryz.prog [.tmp 4] K)) : Ret Tryz.prog 38 [a0, a1] w K :=
  Ret_of_W (code := c38code) Tryz.func38 (by kernel_rfl) (by kernel_rfl) (of_decide_eq_true (by kernel_rfl)) h
@[go_sem] theorem go38 : goFunc Tryz.prog 38 = true := by kernel_rfl
noncomputable def c30code : Code := match Tryz.f30.body with | some c => c | none => .skip
noncomputable def c30S0 (_ : Unit) : Cmd := (.cond (.tmp 32)
  (.ops [
  ⟨some 6, .assign (.const (.int .i64 6)), 30, none⟩] [6])
  (.skip [6]))
noncomputable def c30S1 (_ : Unit) : Cmd := (.seq (.ops [
 ⟨some 33, .move (.tmp 6), 30, none⟩,
 ⟨some 4, .assign (.tmp 33), 30, none⟩] [4])
 .ret)
noncomputable def c30S2 (_ : Unit) : Cmd := (.seq (.seq (.ops [
 ⟨some 12, .move (.tmp 6), 30, none⟩,
 ⟨some 13, .binOp .eql 30 (.tmp 12) (.const (.int .i64 0)) 30, 4, none⟩,
 ⟨some 14, .move (.tmp 13), 4, none⟩,
 ⟨some 15, .move (.tmp 1), 3, (some (14, true))⟩,
 ⟨some 16, .binOp .lss 3 (.tmp 15) (.const (.int .i64 2)) 3, 4, (some (14, true))⟩,
 ⟨some 17, .move (.tmp 16), 4, (some (14, true))⟩,
 ⟨some 18, .move (.tmp 1), 3, (some (17, false))⟩,
 ⟨some 19, .move (.tmp 0), 24, (some (17, false))⟩,
 ⟨some 20, .nilCheck (.tmp 19), 0, (some (17, false))⟩,
 ⟨some 21, .fieldAddr 28 (.tmp 20) 0, 0, (some (17, false))⟩,
 ⟨some 22, .load 25 (.tmp 21), 25, (some (17, false))⟩,
 ⟨some 23, .call ⟨.value (.func 23), #[(.tmp 22)], #[25]⟩, 3, (some (17, false))⟩,
 ⟨some 24, .binOp .geq 3 (.tmp 18) (.tmp 23) 3, 4, (some (17, false))⟩,
 ⟨some 25, .pick (.tmp 17) (.const (.bool true)) (.tmp 24), 4, (some (14, true))⟩,
 ⟨some 26, .move (.tmp 25), 4, (some (14, true))⟩,
 ⟨some 27, .move (.tmp 5), 9, (some (26, false))⟩,
 ⟨some 28, .move (.tmp 1), 3, (some (26, false))⟩,
 ⟨some 29, .call ⟨.value (.func 38), #[(.tmp 27), (.tmp 28)], #[9, 3]⟩, 4, (some (26, false))⟩,
 ⟨some 30, .unOp .not 4 (.tmp 29), 4, (some (26, false))⟩,
 ⟨some 31, .pick (.tmp 26) (.const (.bool true)) (.tmp 30), 4, (some (14, true))⟩,
 ⟨some 32, .pick (.tmp 14) (.tmp 31) (.const (.bool false)), 4, none⟩] [6, 32]) (sg c30S0)) (sg c30S1))
noncomputable def c30 : Cmd := (.seq (.ops [
 ⟨some 4, .assign (.const (.int .i64 0)), 30, none⟩] [0, 1])
 (.seq (.ops [
 ⟨some 8, .move (.tmp 0), 24, none⟩,
 ⟨some 9, .call ⟨.value (.func 26), #[(.tmp 8)], #[24]⟩, 33, none⟩,
 ⟨some 7, .move (.tmp 9), 33, none⟩,
 ⟨some 10, .extract (.tmp 7) 0, 9, none⟩,
 ⟨some 11, .extract (.tmp 7) 1, 30, none⟩,
 ⟨some 5, .assign (.tmp 10), 9, none⟩,
 ⟨some 6, .assign (.tmp 11), 30, none⟩] [0, 1, 5, 6]) (sg c30S2)))
set_option maxRecDepth 100000 in
theorem ent30 (a0 a1 : Value) (w : World) (K : Value → World → Prop) (h : W Tryz.prog c30 [(0, a0), (1, a1)] w (finQ Tryz.prog [.tmp 4] K)) : Ret Tryz.prog 30 [a0, a1] w K :=
  Ret_of_W (code := c30code) Tryz.func30 (by kernel_rfl) (by kernel_rfl) (of_decide_eq_true (by kernel_rfl)) h
@[go_sem] theorem go30 : goFunc Tryz.prog 30 = true := by kernel_rfl
noncomputable def c31code : Code := match Tryz.f31.body with | some c => c | none => .skip
noncomputable def c31S0 (_ : Unit) : Cmd := (.seq (.ops [
 ⟨some 19, .move (.tmp 7), 4, none⟩] [0, 1, 6, 19])
 (.cond (.tmp 19)
  (.seq (.ops [
  ⟨some 20, .move (.tmp 6), 9, none⟩,
  ⟨some 4, .assign (.tmp 20), 9, none⟩,
  ⟨some 5, .assign (.const (.int .i64 0)), 30, none⟩] [4, 5])
  .ret)
  (.skip [0, 1])))
noncomputable def c31S1 (_ : Unit) : Cmd := (.seq (.ops [
 ⟨some 39, .move (.tmp 8), 9, none⟩,
 ⟨some 40, .move (.tmp 9), 30, none⟩,
 ⟨some 4, .assign (.tmp 39), 9, none⟩,
 ⟨some 5, .assign (.tmp 40), 30, none⟩] [4, 5])
 .ret)
noncomputable def c31S2 (_ : Unit) : Cmd := (.seq (.seq (.ops [
 ⟨some 30, .move (.tmp 9), 30, none⟩,
 ⟨some 31, .binOp .eql 30 (.tmp 30) (.const (.int .i64 0)) 30, 4, none⟩] [0, 1, 8, 9, 31])
 (.cond (.tmp 31)
  (.ops [
  ⟨some 32, .move (.tmp 0), 24, none⟩,
  ⟨some 33, .nilCheck (.tmp 32), 0, none⟩,
  ⟨some 34, .fieldAddr 28 (.tmp 33) 1, 0, none⟩,
  ⟨some 35, .load 26 (.tmp 34), 26, none⟩,
  ⟨some 36, .move (.tmp 1), 3, none⟩,
  ⟨some 37, .move (.tmp 8), 9, none⟩,
  ⟨some 38, .call ⟨.value (.func 60), #[(.tmp 35), (.tmp 36), (.tmp 37)], #[26, 3, 9]⟩, 109, none⟩] [8, 9])
  (.skip [8, 9]))) (sg c31S1))
noncomputable def c31S3 (_ : Unit) : Cmd := (.seq (.ops [
 ⟨some 22, .move (.tmp 0), 24, none⟩,
 ⟨some 23, .nilCheck (.tmp 22), 0, none⟩,
 ⟨some 24, .fieldAddr 28 (.tmp 23) 0, 0, none⟩,
 ⟨some 25, .load 25 (.tmp 24), 25, none⟩,
 ⟨some 26, .move (.tmp 1), 3, none⟩,
 ⟨some 27, .call ⟨.value (.func 24), #[(.tmp 25), (.tmp 26)], #[25, 3]⟩, 33, none⟩,
 ⟨some 21, .move (.tmp 27), 33, none⟩,
 ⟨some 28, .extract (.tmp 21) 0, 9, none⟩,
 ⟨some 29, .extract (.tmp 21) 1, 30, none⟩,
 ⟨some 8, .assign (.tmp 28), 9, none⟩,
 ⟨some 9, .assign (.tmp 29), 30, none⟩] [0, 1, 8, 9]) (sg c31S2))
noncomputable def c31 : Cmd := (.seq (.ops [
 ⟨some 4, .assign (.const (.string (ofL []))), 9, none⟩,
 ⟨some 5, .assign (.const (.int .i64 0)), 30, none⟩] [0, 1])
 (.seq (.seq (.ops [
 ⟨some 11, .move (.tmp 0), 24, none⟩,
 ⟨some 12, .nilCheck (.tmp 11), 0, none⟩,
 ⟨some 13, .fieldAddr 28 (.tmp 12) 1, 0, none⟩,
 ⟨some 14, .load 26 (.tmp 13), 26, none⟩,
 ⟨some 15, .move (.tmp 1), 3, none⟩,
 ⟨some 16, .call ⟨.value (.func 59), #[(.tmp 14), (.tmp 15)], #[26, 3]⟩, 66, none⟩,
 ⟨some 10, .move (.tmp 16), 66, none⟩,
 ⟨some 17, .extract (.tmp 10) 0, 9, none⟩,
 ⟨some 18, .extract (.tmp 10) 1, 4, none⟩,
 ⟨some 6, .assign (.tmp 17), 9, none⟩,
 ⟨some 7, .assign (.tmp 18), 4, none⟩] [0, 1, 6, 7]) (sg c31S0)) (sg c31S3)))
set_option maxRecDepth 100000 in
theorem ent31 (a0 a1 : Value) (w : World) (K : Value → World → Prop) (h : W Tryz.prog c31 [(0, a0), (1, a1)] w (finQ Tryz.prog [.tmp 4, .tmp 5] K)) : Ret Tryz.prog 31 [a0, a1] w K :=
  Ret_of_W (code := c31code) Tryz.func31 (by kernel_rfl) (by kernel_rfl) (of_decide_eq_true (by kernel_rfl)) h
@[go_sem] theorem go31 : goFunc Tryz.prog 31 = true := by kernel_rfl
noncomputable def c36code : Code := match Tryz.f36.body with | some c => c | none => .skip
noncomputable def c36S0 (_ : Unit) : Cmd := (.ops [
 ⟨some 23, .binOp .add 3 (.tmp 11) (.const (.int .i64 1)) 3, 3, none⟩,
 ⟨some 11, .move (.tmp 23), 3, none⟩] [0, 5, 10, 11])
noncomputable def c36S1 (_ : Unit) : Cmd := (.seq (.block 1 (.seq (.ops [
 ⟨some 13, .move (.tmp 11), 3, none⟩,
 ⟨some 6, .assign (.tmp 13), 3, none⟩] [0, 5, 6, 10, 11])
 (.ops [
 ⟨some 14, .move (.tmp 5), 106, none⟩,
 ⟨some 15, .move (.tmp 0), 58, none⟩,
 ⟨some 16, .move (.tmp 6), 3, none⟩,
 ⟨some 17, .binOp .mul 3 (.const (.int .i64 8)) (.tmp 16) 3, 3, none⟩,
 ⟨some 18, .convert 3 94 (.tmp 17), 94, none⟩,
 ⟨some 19, .binOp .shr 58 (.tmp 15) (.tmp 18) 94, 58, none⟩,
 ⟨some 20, .convert 58 5 (.tmp 19), 5, none⟩,
 ⟨some 21, .buildSlice 106 1 #[(0, (.tmp 20))], 106, none⟩,
 ⟨some 22, .call ⟨.builtin .append, #[(.tmp 14), (.tmp 21)], #[106, 106]⟩, 106, none⟩,
 ⟨some 5, .assign (.tmp 22), 106, none⟩] [0, 5, 10, 11]))) (sg c36S0))
noncomputable def c36L0 (_ : Unit) : Cmd := (.seq (.ops [
 ⟨some 12, .binOp .lss 3 (.tmp 11) (.tmp 10) 3, 4, none⟩] [0, 5, 10, 11, 12])
 (.seq (.cond (.tmp 12)
  (.skip [0, 5, 10, 11])
  (.exit 0 [5])) (sg c36S1)))
noncomputable def c36S2 (_ : Unit) : Cmd := (.block 0 (.loop (sg c36L0)))
noncomputable def c36S3 (_ : Unit) : Cmd := (.seq (.ops [
 ⟨some 24, .move (.tmp 5), 106, none⟩,
 ⟨some 25, .convert 106 9 (.tmp 24), 9, none⟩,
 ⟨some 4, .assign (.tmp 25), 9, none⟩] [4])
 .ret)
noncomputable def c36 : Cmd := (.seq (.ops [
 ⟨some 4, .assign (.const (.string (ofL []))), 9, none⟩] [0, 1])
 (.seq (.ops [
 ⟨some 7, .makeSlice 106 (.const (.int .i64 0)) (.const (.int .i64 8)), 106, none⟩,
 ⟨some 5, .assign (.tmp 7), 106, none⟩] [0, 1, 5])
 (.seq (.seq (.ops [
 ⟨some 8, .move (.tmp 1), 3, none⟩,
 ⟨some 9, .call ⟨.builtin .min, #[(.tmp 8), (.const (.int .i64 8))], #[3, 3]⟩, 3, none⟩,
 ⟨some 10, .call ⟨.builtin .max, #[(.const (.int .i64 0)), (.tmp 9)], #[3, 3]⟩, 3, none⟩,
 ⟨some 11, .move (.const (.int .i64 0)), 3, none⟩] [0, 5, 10, 11]) (sg c36S2)) (sg c36S3))))
set_option maxRecDepth 100000 in
theorem ent36 (a0 a1 : Value) (w : World) (K : Value → World → Prop) (h : W Tryz.prog c36 [(0, a0), (1, a1)] w (finQ Tryz.prog [.tmp 4] K)) : Ret Tryz.prog 36 [a0, a1] w K :=
  Ret_of_W (code := c36code) Tryz.func36 (by kernel_rfl) (by kernel_rfl) (of_decide_eq_true (by kernel_rfl)) h
@[go_sem] theorem go36 : goFunc Tryz.prog 36 = true := by kernel_rfl
noncomputable def c33code : Code := match Tryz.f33.body with | some c => c | none => .skip
noncomputable def c33S0 (_ : Unit) : Cmd := (.seq (.block 1 (.seq (.ops [
 ⟨some 10, .move (.tmp 8), 3, none⟩,
 ⟨some 4, .assign (.tmp 10), 3, none⟩] [0, 3, 4, 7, 8])
 (.ops [
 ⟨some 11, .move (.tmp 3), 58, none⟩,
 ⟨some 12, .move (.tmp 0), 9, none⟩,
 ⟨some 13, .move (.tmp 4), 3, none⟩,
 ⟨some 14, .index 9 (.tmp 12) (.tmp 13), 5, none⟩,
 ⟨some 15, .convert 5 58 (.tmp 14), 58, none⟩,
 ⟨some 16, .move (.tmp 4), 3, none⟩,
 ⟨some 17, .binOp .mul 3 (.const (.int .i64 8)) (.tmp 16) 3, 3, none⟩,
 ⟨some 18, .convert 3 94 (.tmp 17), 94, none⟩,
 ⟨some 19, .binOp .shl 58 (.tmp 15) (.tmp 18) 94, 58, none⟩,
 ⟨some 20, .binOp .or 58 (.tmp 11) (.tmp 19) 58, 58, none⟩,
 ⟨some 3, .assign (.tmp 20), 58, none⟩] [0, 3, 7, 8])))
 (.ops [
 ⟨some 21, .binOp .add 3 (.tmp 8) (.const (.int .i64 1)) 3, 3, none⟩,
 ⟨some 8, .move (.tmp 21), 3, none⟩] [0, 3, 7, 8]))
noncomputable def c33L0 (_ : Unit) : Cmd := (.seq (.ops [
 ⟨some 9, .binOp .lss 3 (.tmp 8) (.tmp 7) 3, 4, none⟩] [0, 3, 7, 8, 9])
 (.seq (.cond (.tmp 9)
  (.skip [0, 3, 7, 8])
  (.exit 0 [3])) (sg c33S0)))
noncomputable def c33S1 (_ : Unit) : Cmd := (.block 0 (.loop (sg c33L0)))
noncomputable def c33S2 (_ : Unit) : Cmd := (.seq (.ops [
 ⟨some 22, .move (.tmp 3), 58, none⟩,
 ⟨some 2, .assign (.tmp 22), 58, none⟩] [2])
 .ret)
noncomputable def c33 : Cmd := (.seq (.ops [
 ⟨some 2, .assign (.const (.int .u64 0)), 58, none⟩] [0])
 (.seq (.ops [
 ⟨some 3, .assign (.const (.int .u64 0)), 58, none⟩] [0, 3])
 (.seq (.seq (.ops [
 ⟨some 5, .move (.tmp 0), 9, none⟩,
 ⟨some 6, .call ⟨.builtin .len, #[(.tmp 5)], #[9]⟩, 3, none⟩,
 ⟨some 7, .call ⟨.builtin .min, #[(.tmp 6), (.const (.int .i64 8))], #[3, 3]⟩, 3, none⟩,
 ⟨some 8, .move (.const (.int .i64 0)), 3, none⟩] [0, 3, 7, 8]) (sg c33S1)) (sg c33S2))))
set_option maxRecDepth 100000 in
theorem ent33 (a0 : Value) (w : World) (K : Value → World → Prop) (h : W Tryz.prog c33 [(0, a0)] w (finQ Tryz.prog [.tmp 2] K)) : Ret Tryz.prog 33 [a0] w K :=
  Ret_of_W (code := c33code) Tryz.func33 (by kernel_rfl) (by kernel_rfl) (of_decide_eq_true (by kernel_rfl)) h
@[go_sem] theorem go33 : goFunc Tryz.prog 33 = true := by kernel_rfl
noncomputable def c56code : Code := match Tryz.f56.body with | some c => c | none => .skip
noncomputable def c56S0 (_ : Unit) : Cmd := (.seq (.ops [
 ⟨some 4, .assign (.const (.int .i64 0)), 30, none⟩] [4])
 .ret)
noncomputable def c56 : Cmd := (.seq (.ops [
 ⟨some 4, .assign (.const (.int .i64 0)), 30, none⟩] [0, 1])
 (.seq (.block 0 (.seq (.ops [
 ⟨some 6, .move (.tmp 0), 25, none⟩,
 ⟨some 7, .binOp .eql 25 (.tmp 6) (.const (.pointer none)) 25, 4, none⟩,
 ⟨some 8, .move (.tmp 7), 4, none⟩,
 ⟨some 9, .move (.tmp 0), 25, (some (8, false))⟩,
 ⟨some 10, .nilCheck (.tmp 9), 0, (some (8, false))⟩,
 ⟨some 11, .fieldAddr 101 (.tmp 10) 0, 0, (some (8, false))⟩,
 ⟨some 12, .load 46 (.tmp 11), 46, (some (8, false))⟩,
 ⟨some 13, .binOp .eql 46 (.tmp 12) (.const (.pointer none)) 46, 4, (some (8, false))⟩,
 ⟨some 14, .pick (.tmp 8) (.const (.bool true)) (.tmp 13), 4, none⟩,
 ⟨some 5, .assign (.tmp 14), 4, none⟩] [0, 1, 5])
 (.cond (.tmp 5)
  (.seq (.ops [
  ⟨some 4, .assign (.const (.int .i64 3)), 30, none⟩] [4])
  .ret)
  (.seq (.ops [
  ⟨some 16, .move (.tmp 0), 25, none⟩,
  ⟨some 17, .nilCheck (.tmp 16), 0, none⟩,
  ⟨some 18, .fieldAddr 101 (.tmp 17) 3, 0, none⟩,
  ⟨some 19, .load 4 (.tmp 18), 4, none⟩,
  ⟨some 15, .assign (.tmp 19), 4, none⟩] [0, 1, 15])
  (.cond (.tmp 15)
   (.seq (.ops [
   ⟨some 4, .assign (.const (.int .i64 11)), 30, none⟩] [4])
   .ret)
   (.seq (.ops [
   ⟨some 21, .move (.tmp 1), 3, none⟩,
   ⟨some 22, .binOp .lss 3 (.tmp 21) (.const (.int .i64 0)) 3, 4, none⟩,
   ⟨some 23, .move (.tmp 22), 4, none⟩,
   ⟨some 24, .move (.tmp 1), 3, (some (23, false))⟩,
   ⟨some 25, .move (.tmp 0), 25, (some (23, false))⟩,
   ⟨some 26, .nilCheck (.tmp 25), 0, (some (23, false))⟩,
   ⟨some 27, .fieldAddr 101 (.tmp 26) 1, 0, (some (23, false))⟩,
   ⟨some 28, .fieldAddr 96 (.tmp 27) 3, 0, (some (23, false))⟩,
   ⟨some 29, .load 3 (.tmp 28), 3, (some (23, false))⟩,
   ⟨some 30, .binOp .geq 3 (.tmp 24) (.tmp 29) 3, 4, (some (23, false))⟩,
   ⟨some 31, .pick (.tmp 23) (.const (.bool true)) (.tmp 30), 4, none⟩,
   ⟨some 20, .assign (.tmp 31), 4, none⟩] [20])
   (.cond (.tmp 20)
    (.seq (.ops [
    ⟨some 4, .assign (.const (.int .i64 10)), 30, none⟩] [4])
    .ret)
    (.skip [])))))))) (sg c56S0)))
set_option maxRecDepth 100000 in
theorem ent56 (a0 a1 : Value) (w : World) (K : Value → World → Prop) (h : W Tryz.prog c56 [(0, a0), (1, a1)] w (finQ Tryz.prog [.tmp 4] K)) : Ret Tryz.prog 56 [a0, a1] w K :=
  Ret_of_W (code := c56code) Tryz.func56 (by kernel_rfl) (by kernel_rfl) (of_decide_eq_true (by kernel_rfl)) h
@[go_sem] theorem go56 : goFunc Tryz.prog 56 = true := by kernel_rfl
noncomputable def c52code : Code := match Tryz.f52.body with | some c => c | none => .skip
noncomputable def c52S0 (_ : Unit) : Cmd := (.seq (.ops [
 ⟨some 70, .move (.tmp 10), 4, none⟩,
 ⟨some 71, .move (.tmp 70), 4, none⟩,
 ⟨some 72, .move (.tmp 11), 4, (some (71, true))⟩,
 ⟨some 73, .pick (.tmp 71) (.tmp 72) (.const (.bool false)), 4, none⟩,
 ⟨some 74, .move (.tmp 73), 4, none⟩,
 ⟨some 75, .fieldAddr 96 (.tmp 9) 0, 0, (some (74, true))⟩,
 ⟨some 76, .load 58 (.tmp 75), 58, (some (74, true))⟩,
 ⟨some 77, .fieldAddr 96 (.tmp 4) 0, 0, (some (74, true))⟩,
 ⟨some 78, .load 58 (.tmp 77), 58, (some (74, true))⟩,
 ⟨some 79, .binOp .gtr 58 (.tmp 76) (.tmp 78) 58, 4, (some (74, true))⟩,
 ⟨some 80, .pick (.tmp 74) (.tmp 79) (.const (.bool false)), 4, none⟩,
 ⟨some 81, .move (.tmp 80), 4, none⟩,
 ⟨some 82, .fieldAddr 96 (.tmp 9) 0, 0, (some (81, true))⟩,
 ⟨some 83, .load 58 (.tmp 82), 58, (some (81, true))⟩,
 ⟨some 84, .binOp .rem 58 (.tmp 83) (.const (.int .u64 2)) 58, 58, (some (81, true))⟩,
 ⟨some 85, .convert 58 3 (.tmp 84), 3, (some (81, true))⟩,
 ⟨some 86, .move (.tmp 6), 3, (some (81, true))⟩,
 ⟨some 87, .binOp .eql 3 (.tmp 85) (.tmp 86) 3, 4, (some (81, true))⟩,
 ⟨some 88, .pick (.tmp 81) (.tmp 87) (.const (.bool false)), 4, none⟩] [0, 2, 4, 5, 9, 12, 88])
 (.cond (.tmp 88)
  (.ops [
  ⟨some 89, .load 96 (.tmp 9), 96, none⟩,
  ⟨none, .store 96 (.tmp 4) (.tmp 89), 0, none⟩,
  ⟨some 5, .assign (.const (.bool true)), 4, none⟩] [0, 2, 4, 5, 12])
  (.skip [0, 2, 4, 5, 12])))
noncomputable def c52S1 (_ : Unit) : Cmd := (.seq (.draw (drawOps 0 c52code) [0, 2, 4, 5, 6, 9, 10, 11, 12]) (sg c52S0))
noncomputable def c52S2 (_ : Unit) : Cmd := (.seq (.ops [
 ⟨some 28, .move (.tmp 7), 9, none⟩,
 ⟨some 29, .call ⟨.value (.func 77), #[(.tmp 28)], #[9]⟩, 127, none⟩,
 ⟨some 27, .move (.tmp 29), 127, none⟩,
 ⟨some 30, .extract (.tmp 27) 0, 96, none⟩,
 ⟨some 31, .extract (.tmp 27) 1, 4, none⟩,
 ⟨some 9, .alloc 96, 0, none⟩,
 ⟨none, .store 96 (.tmp 9) (.tmp 30), 0, none⟩,
 ⟨some 10, .assign (.tmp 31), 4, none⟩] [0, 2, 4, 5, 6, 9, 10, 12]) (sg c52S1))
noncomputable def c52S3 (_ : Unit) : Cmd := (.seq (.seq (.ops [
 ⟨some 23, .move (.tmp 8), 30, none⟩,
 ⟨some 24, .binOp .neq 30 (.tmp 23) (.const (.int .i64 0)) 30, 4, none⟩] [0, 2, 4, 5, 6, 7, 8, 12, 24])
 (.cond (.tmp 24)
  (.seq (.ops [
  ⟨some 25, .load 96 (.tmp 4), 96, none⟩,
  ⟨some 26, .move (.tmp 8), 30, none⟩,
  ⟨none, .store 96 (.tmp 2) (.tmp 25), 0, none⟩,
  ⟨some 3, .assign (.tmp 26), 30, none⟩] [2, 3])
  .ret)
  (.skip [0, 2, 4, 5, 6, 7, 12]))) (sg c52S2))
noncomputable def c52S4 (_ : Unit) : Cmd := (.seq (.seq (.ops [
 ⟨some 21, .move (.tmp 8), 30, none⟩,
 ⟨some 22, .binOp .eql 30 (.tmp 21) (.const (.int .i64 10)) 30, 4, none⟩] [0, 2, 4, 5, 6, 7, 8, 12, 22])
 (.cond (.tmp 22)
  (.exit 1 [0, 2, 4, 5, 12])
  (.skip [0, 2, 4, 5, 6, 7, 8, 12]))) (sg c52S3))
noncomputable def c52S5 (_ : Unit) : Cmd := (.ops [
 ⟨some 90, .binOp .add 3 (.tmp 12) (.const (.int .i64 1)) 3, 3, none⟩,
 ⟨some 12, .move (.tmp 90), 3, none⟩] [0, 2, 4, 5, 12])
noncomputable def c52S6 (_ : Unit) : Cmd := (.seq (.block 1 (.seq (.ops [
 ⟨some 14, .move (.tmp 12), 3, none⟩,
 ⟨some 6, .assign (.tmp 14), 3, none⟩] [0, 2, 4, 5, 6, 12])
 (.seq (.ops [
 ⟨some 16, .move (.tmp 0), 46, none⟩,
 ⟨some 17, .move (.tmp 6), 3, none⟩,
 ⟨some 18, .call ⟨.value (.func 53), #[(.tmp 16), (.tmp 17)], #[46, 3]⟩, 33, none⟩,
 ⟨some 15, .move (.tmp 18), 33, none⟩,
 ⟨some 19, .extract (.tmp 15) 0, 9, none⟩,
 ⟨some 20, .extract (.tmp 15) 1, 30, none⟩,
 ⟨some 7, .assign (.tmp 19), 9, none⟩,
 ⟨some 8, .assign (.tmp 20), 30, none⟩] [0, 2, 4, 5, 6, 7, 8, 12]) (sg c52S4)))) (sg c52S5))
noncomputable def c52L0 (_ : Unit) : Cmd := (.seq (.ops [
 ⟨some 13, .binOp .lss 3 (.tmp 12) (.const (.int .i64 2)) 3, 4, none⟩] [0, 2, 4, 5, 12, 13])
 (.seq (.cond (.tmp 13)
  (.skip [0, 2, 4, 5, 12])
  (.exit 0 [2, 4, 5])) (sg c52S6)))
noncomputable def c52S7 (_ : Unit) : Cmd := (.seq (.ops [
 ⟨some 94, .load 96 (.tmp 4), 96, none⟩,
 ⟨none, .store 96 (.tmp 2) (.tmp 94), 0, none⟩,
 ⟨some 3, .assign (.const (.int .i64 0)), 30, none⟩] [2, 3])
 .ret)
noncomputable def c52S8 (_ : Unit) : Cmd := (.seq (.seq (.ops [
 ⟨some 91, .move (.tmp 5), 4, none⟩,
 ⟨some 92, .unOp .not 4 (.tmp 91), 4, none⟩] [2, 4, 92])
 (.cond (.tmp 92)
  (.seq (.ops [
  ⟨some 93, .load 96 (.tmp 4), 96, none⟩,
  ⟨none, .store 96 (.tmp 2) (.tmp 93), 0, none⟩,
  ⟨some 3, .assign (.const (.int .i64 14)), 30, none⟩] [2, 3])
  .ret)
  (.skip [2, 4]))) (sg c52S7))
noncomputable def c52 : Cmd := (.seq (.ops [
 ⟨some 2, .alloc 96, 0, none⟩,
 ⟨some 3, .assign (.const (.int .i64 0)), 30, none⟩] [0, 2])
 (.seq (.ops [
 ⟨some 4, .alloc 96, 0, none⟩] [0, 2, 4])
 (.seq (.ops [
 ⟨some 5, .assign (.const (.bool false)), 4, none⟩] [0, 2, 4, 5])
 (.seq (.seq (.ops [
 ⟨some 12, .move (.const (.int .i64 0)), 3, none⟩] [0, 2, 4, 5, 12])
 (.block 0 (.loop (sg c52L0)))) (sg c52S8)))))
noncomputable def c52D0 : List (Nat × Ins) := [
 (0, ⟨some 32, .fieldAddr 96 (.tmp 9) 2, 0, none⟩),
 (2, ⟨some 33, .load 3 (.tmp 32), 3, none⟩),
 (0, ⟨some 34, .binOp .geq 3 (.tmp 33) (.const (.int .i64 1)) 3, 4, none⟩),
 (0, ⟨some 35, .move (.tmp 34), 4, none⟩),
 (0, ⟨some 36, .fieldAddr 96 (.tmp 9) 3, 0, (some (35, true))⟩),
 (2, ⟨some 37, .load 3 (.tmp 36), 3, (some (35, true))⟩),
 (0, ⟨some 38, .binOp .geq 3 (.tmp 37) (.const (.int .i64 1)) 3, 4, (some (35, true))⟩),
 (0, ⟨some 39, .pick (.tmp 35) (.tmp 38) (.const (.bool false)), 4, none⟩),
 (0, ⟨some 40, .move (.tmp 39), 4, none⟩),
 (0, ⟨some 41, .fieldAddr 96 (.tmp 9) 3, 0, (some (40, true))⟩),
 (2, ⟨some 42, .load 3 (.tmp 41), 3, (some (40, true))⟩),
 (0, ⟨some 43, .binOp .leq 3 (.tmp 42) (.const (.int .i64 1024)) 3, 4, (some (40, true))⟩),
 (0, ⟨some 44, .pick (.tmp 40) (.tmp 43) (.const (.bool false)), 4, none⟩),
 (0, ⟨some 45, .move (.tmp 44), 4, none⟩),
 (0, ⟨some 46, .fieldAddr 96 (.tmp 9) 1, 0, (some (45, true))⟩),
 (0, ⟨some 48, .fieldAddr 96 (.tmp 9) 2, 0, (some (45, true))⟩),
 (1, ⟨some 47, .load 3 (.tmp 46), 3, (some (45, true))⟩),
 (2, ⟨some 49, .load 3 (.tmp 48), 3, (some (45, true))⟩),
 (0, ⟨some 50, .binOp .leq 3 (.tmp 47) (.tmp 49) 3, 4, (some (45, true))⟩),
 (0, ⟨some 51, .pick (.tmp 45) (.tmp 50) (.const (.bool false)), 4, none⟩),
 (0, ⟨some 52, .move (.tmp 51), 4, none⟩),
 (0, ⟨some 53, .fieldAddr 96 (.tmp 9) 2, 0, (some (52, true))⟩),
 (0, ⟨some 55, .move (.tmp 0), 46, (some (52, true))⟩),
 (1, ⟨some 54, .load 3 (.tmp 53), 3, (some (52, true))⟩),
 (2, ⟨some 56, .call ⟨.value (.func 69), #[(.tmp 55)], #[46]⟩, 3, (some (52, true))⟩),
 (0, ⟨some 57, .binOp .leq 3 (.tmp 54) (.tmp 56) 3, 4, (some (52, true))⟩),
 (0, ⟨some 58, .pick (.tmp 52) (.tmp 57) (.const (.bool false)), 4, none⟩),
 (0, ⟨some 59, .move (.tmp 58), 4, none⟩),
 (0, ⟨some 60, .fieldAddr 96 (.tmp 9) 2, 0, (some (59, true))⟩),
 (0, ⟨some 63, .fieldAddr 96 (.tmp 9) 3, 0, (some (59, true))⟩),
 (0, ⟨some 66, .move (.tmp 0), 46, (some (59, true))⟩),
 (1, ⟨some 61, .load 3 (.tmp 60), 3, (some (59, true))⟩),
 (0, ⟨some 62, .binOp .add 3 (.const (.int .i64 2)) (.tmp 61) 3, 3, (some (59, true))⟩),
 (1, ⟨some 64, .load 3 (.tmp 63), 3, (some (59, true))⟩),
 (0, ⟨some 65, .binOp .add 3 (.tmp 62) (.tmp 64) 3, 3, (some (59, true))⟩),
 (2, ⟨some 67, .call ⟨.value (.func 69), #[(.tmp 66)], #[46]⟩, 3, (some (59, true))⟩),
 (0, ⟨some 68, .binOp .leq 3 (.tmp 65) (.tmp 67) 3, 4, (some (59, true))⟩),
 (0, ⟨some 69, .pick (.tmp 59) (.tmp 68) (.const (.bool false)), 4, none⟩),
 (0, ⟨some 11, .assign (.tmp 69), 4, none⟩)]
theorem c52draw0 {L : List Nat} {ρ : Env} {w : World} {Q : Post} (S : World → Prop) (hS : S w.drew) (h : DG Tryz.prog S c52D0 L ρ w.drew Q) : drawW Tryz.prog (drawOps 0 c52code) L ρ w Q :=
  drawW_held [15, 22, 29, 32] [(0, 0), (2, 1), (0, 2), (0, 3), (0, 4), (2, 5), (0, 6), (0, 7), (0, 8), (0, 9), (2, 10), (0, 11), (0, 12), (0, 13), (0, 14), (0, 16), (1, 15), (2, 17), (0, 18), (0, 19), (0, 20), (0, 21), (0, 23), (1, 22), (2, 24), (0, 25), (0, 26), (0, 27), (0, 28), (0, 31), (0, 34), (1, 29), (0, 30), (1, 32), (0, 33), (2, 35), (0, 36), (0, 37), (0, 38)] c52D0 (by kernel_rfl) (by kernel_rfl) (by kernel_rfl) S hS h
set_option maxRecDepth 100000 in
theorem ent52 (a0 : Value) (w : World) (K : Value → World → Prop) (h : W Tryz.prog c52 [(0, a0)] w (finQ Tryz.prog [.cell 2 96, .tmp 3] K)) : Ret Tryz.prog 52 [a0] w K :=
  Ret_of_W (code := c52code) Tryz.func52 (by kernel_rfl) (by kernel_rfl) (of_decide_eq_true (by kernel_rfl)) h
@[go_sem] theorem go52 : goFunc Tryz.prog 52 = true := by kernel_rfl
noncomputable def c53code : Code := match Tryz.f53.body with | some c => c | none => .skip
noncomputable def c53S0 (_ : Unit) : Cmd := (.seq (.ops [
 ⟨some 13, .move (.tmp 6), 30, none⟩,
 ⟨some 14, .binOp .neq 30 (.tmp 13) (.const (.int .i64 0)) 30, 4, none⟩] [0, 1, 6, 14])
 (.cond (.tmp 14)
  (.seq (.ops [
  ⟨some 15, .move (.tmp 6), 30, none⟩,
  ⟨some 4, .assign (.const (.string (ofL []))), 9, none⟩,
  ⟨some 5, .assign (.tmp 15), 30, none⟩] [4, 5])
  .ret)
  (.skip [0, 1])))
noncomputable def c53S1 (_ : Unit) : Cmd := (.ops [
 ⟨some 38, .binOp .add 3 (.tmp 28) (.const (.int .i64 1)) 3, 3, none⟩,
 ⟨some 28, .move (.tmp 38), 3, none⟩] [1, 7, 26, 27, 28])
noncomputable def c53S2 (_ : Unit) : Cmd := (.seq (.block 1 (.seq (.ops [
 ⟨some 30, .indexAddr 89 (.tmp 26) (.tmp 28), 0, none⟩,
 ⟨some 31, .load 93 (.tmp 30), 93, none⟩,
 ⟨some 9, .alloc 93, 0, none⟩,
 ⟨none, .store 93 (.tmp 9) (.tmp 31), 0, none⟩] [1, 7, 9, 26, 27, 28])
 (.seq (.ops [
 ⟨some 32, .fieldAddr 93 (.tmp 9) 0, 0, none⟩,
 ⟨some 33, .load 3 (.tmp 32), 3, none⟩,
 ⟨some 34, .move (.tmp 1), 3, none⟩,
 ⟨some 35, .binOp .eql 3 (.tmp 33) (.tmp 34) 3, 4, none⟩] [1, 7, 9, 26, 27, 28, 35])
 (.cond (.tmp 35)
  (.ops [
  ⟨some 36, .fieldAddr 93 (.tmp 9) 1, 0, none⟩,
  ⟨some 37, .load 9 (.tmp 36), 9, none⟩,
  ⟨some 7, .assign (.tmp 37), 9, none⟩] [1, 7, 26, 27, 28])
  (.skip [1, 7, 26, 27, 28]))))) (sg c53S1))
noncomputable def c53L0 (_ : Unit) : Cmd := (.seq (.ops [
 ⟨some 29, .binOp .lss 3 (.tmp 28) (.tmp 27) 3, 0, none⟩] [1, 7, 26, 27, 28, 29])
 (.seq (.cond (.tmp 29)
  (.skip [1, 7, 26, 27, 28])
  (.exit 0 [7])) (sg c53S2)))
noncomputable def c53S3 (_ : Unit) : Cmd := (.seq (.ops [
 ⟨some 39, .move (.tmp 7), 9, none⟩,
 ⟨some 4, .assign (.tmp 39), 9, none⟩,
 ⟨some 5, .assign (.const (.int .i64 0)), 30, none⟩] [4, 5])
 .ret)
noncomputable def c53S4 (_ : Unit) : Cmd := (.seq (.ops [
 ⟨some 16, .move (.tmp 0), 46, none⟩,
 ⟨some 17, .nilCheck (.tmp 16), 0, none⟩,
 ⟨some 18, .fieldAddr 91 (.tmp 17) 0, 0, none⟩,
 ⟨some 19, .load 49 (.tmp 18), 49, none⟩,
 ⟨some 20, .move (.tmp 1), 3, none⟩,
 ⟨some 21, .indexAddr 49 (.tmp 19) (.tmp 20), 0, none⟩,
 ⟨some 22, .load 9 (.tmp 21), 9, none⟩,
 ⟨some 7, .assign (.tmp 22), 9, none⟩] [0, 1, 7])
 (.seq (.seq (.ops [
 ⟨some 23, .move (.tmp 0), 46, none⟩,
 ⟨some 24, .nilCheck (.tmp 23), 0, none⟩,
 ⟨some 25, .fieldAddr 91 (.tmp 24) 1, 0, none⟩,
 ⟨some 26, .load 89 (.tmp 25), 89, none⟩,
 ⟨some 27, .call ⟨.builtin .len, #[(.tmp 26)], #[89]⟩, 3, none⟩,
 ⟨some 28, .move (.const (.int .i64 0)), 3, none⟩] [1, 7, 26, 27, 28])
 (.block 0 (.loop (sg c53L0)))) (sg c53S3)))
noncomputable def c53 : Cmd := (.seq (.ops [
 ⟨some 4, .assign (.const (.string (ofL []))), 9, none⟩,
 ⟨some 5, .assign (.const (.int .i64 0)), 30, none⟩] [0, 1])
 (.seq (.seq (.ops [
 ⟨some 10, .move (.tmp 0), 46, none⟩,
 ⟨some 11, .move (.tmp 1), 3, none⟩,
 ⟨some 12, .call ⟨.value (.func 78), #[(.tmp 10), (.tmp 11)], #[46, 3]⟩, 30, none⟩,
 ⟨some 6, .assign (.tmp 12), 30, none⟩] [0, 1, 6]) (sg c53S0)) (sg c53S4)))
set_option maxRecDepth 100000 in
theorem ent53 (a0 a1 : Value) (w : World) (K : Value → World → Prop) (h : W Tryz.prog c53 [(0, a0), (1, a1)] w (finQ Tryz.prog [.tmp 4, .tmp 5] K)) : Ret Tryz.prog 53 [a0, a1] w K :=
  Ret_of_W (code := c53code) Tryz.func53 (by kernel_rfl) (by kernel_rfl) (of_decide_eq_true (by kernel_rfl)) h
@[go_sem] theorem go53 : goFunc Tryz.prog 53 = true := by kernel_rfl
noncomputable def c68code : Code := match Tryz.f68.body with | some c => c | none => .skip
noncomputable def c68 : Cmd := (.seq (.ops [
 ⟨some 0, .assign (.const (.string (ofL []))), 9, none⟩] [])
 (.seq (.ops [
 ⟨some 1, .makeSlice 106 (.const (.int .i64 256)) (.const (.int .i64 256)), 106, none⟩,
 ⟨some 2, .convert 106 9 (.tmp 1), 9, none⟩,
 ⟨some 0, .assign (.tmp 2), 9, none⟩] [0])
 .ret))
set_option maxRecDepth 100000 in
theorem ent68 (w : World) (K : Value → World → Prop) (h : W Tryz.prog c68 [] w (finQ Tryz.prog [.tmp 0] K)) : Ret Tryz.prog 68 [] w K :=
  Ret_of_W (code := c68code) Tryz.func68 (by kernel_rfl) (by kernel_rfl) (of_decide_eq_true (by kernel_rfl)) h
@[go_sem] theorem go68 : goFunc Tryz.prog 68 = true := by kernel_rfl
noncomputable def c69code : Code := match Tryz.f69.body with | some c => c | none => .skip
noncomputable def c69S0 (_ : Unit) : Cmd := (.seq (.ops [
 ⟨some 5, .move (.tmp 0), 46, none⟩,
 ⟨some 6, .nilCheck (.tmp 5), 0, none⟩,
 ⟨some 7, .fieldAddr 91 (.tmp 6) 0, 0, none⟩,
 ⟨some 8, .load 49 (.tmp 7), 49, none⟩,
 ⟨some 9, .call ⟨.builtin .len, #[(.tmp 8)], #[49]⟩, 3, none⟩,
 ⟨some 2, .assign (.tmp 9), 3, none⟩] [2])
 .ret)
noncomputable def c69 : Cmd := (.seq (.ops [
 ⟨some 2, .assign (.const (.int .i64 0)), 3, none⟩] [0])
 (.seq (.seq (.ops [
 ⟨some 3, .move (.tmp 0), 46, none⟩,
 ⟨some 4, .binOp .eql 46 (.tmp 3) (.const (.pointer none)) 46, 4, none⟩] [0, 4])
 (.cond (.tmp 4)
  (.seq (.ops [
  ⟨some 2, .assign (.const (.int .i64 0)), 3, none⟩] [2])
  .ret)
  (.skip [0]))) (sg c69S0)))
set_option maxRecDepth 100000 in
theorem ent69 (a0 : Value) (w : World) (K : Value → World → Prop) (h : W Tryz.prog c69 [(0, a0)] w (finQ Tryz.prog [.tmp 2] K)) : Ret Tryz.prog 69 [a0] w K :=
  Ret_of_W (code := c69code) Tryz.func69 (by kernel_rfl) (by kernel_rfl) (of_decide_eq_true (by kernel_rfl)) h
@[go_sem] theorem go69 : goFunc Tryz.prog 69 = true := by kernel_rfl
noncomputable def c70code : Code := match Tryz.f70.body with | some c => c | none => .skip
noncomputable def c70S0 (_ : Unit) : Cmd := (.seq (.ops [
 ⟨some 44, .move (.tmp 7), 30, none⟩,
 ⟨some 6, .assign (.tmp 44), 30, none⟩] [6])
 .ret)
noncomputable def c70S1 (_ : Unit) : Cmd := (.seq (.seq (.ops [
 ⟨some 22, .move (.tmp 7), 30, none⟩,
 ⟨some 23, .binOp .eql 30 (.tmp 22) (.const (.int .i64 0)) 30, 4, none⟩] [0, 1, 2, 7, 23])
 (.cond (.tmp 23)
  (.draw (drawOps 0 c70code) [7])
  (.skip [7]))) (sg c70S0))
noncomputable def c70S2 (_ : Unit) : Cmd := (.seq (.seq (.ops [
 ⟨some 18, .move (.tmp 7), 30, none⟩,
 ⟨some 19, .binOp .eql 30 (.tmp 18) (.const (.int .i64 0)) 30, 4, none⟩] [0, 1, 2, 7, 19])
 (.cond (.tmp 19)
  (.ops [
  ⟨some 20, .move (.tmp 0), 46, none⟩,
  ⟨some 21, .call ⟨.value (.func 93), #[(.tmp 20)], #[46]⟩, 30, none⟩,
  ⟨some 7, .assign (.tmp 21), 30, none⟩] [0, 1, 2, 7])
  (.skip [0, 1, 2, 7]))) (sg c70S1))
noncomputable def c70S3 (_ : Unit) : Cmd := (.seq (.seq (.ops [
 ⟨some 11, .move (.tmp 7), 30, none⟩,
 ⟨some 12, .binOp .eql 30 (.tmp 11) (.const (.int .i64 0)) 30, 4, none⟩,
 ⟨some 13, .move (.tmp 12), 4, none⟩,
 ⟨some 14, .move (.tmp 2), 9, (some (13, true))⟩,
 ⟨some 15, .call ⟨.builtin .len, #[(.tmp 14)], #[9]⟩, 3, (some (13, true))⟩,
 ⟨some 16, .binOp .gtr 3 (.tmp 15) (.const (.int .i64 256)) 3, 4, (some (13, true))⟩,
 ⟨some 17, .pick (.tmp 13) (.tmp 16) (.const (.bool false)), 4, none⟩] [0, 1, 2, 7, 17])
 (.cond (.tmp 17)
  (.ops [
  ⟨some 7, .assign (.const (.int .i64 21)), 30, none⟩] [0, 1, 2, 7])
  (.skip [0, 1, 2, 7]))) (sg c70S2))
noncomputable def c70 : Cmd := (.seq (.ops [
 ⟨some 6, .assign (.const (.int .i64 0)), 30, none⟩] [0, 1, 2])
 (.seq (.ops [
 ⟨some 8, .move (.tmp 0), 46, none⟩,
 ⟨some 9, .move (.tmp 1), 3, none⟩,
 ⟨some 10, .call ⟨.value (.func 78), #[(.tmp 8), (.tmp 9)], #[46, 3]⟩, 30, none⟩,
 ⟨some 7, .assign (.tmp 10), 30, none⟩] [0, 1, 2, 7]) (sg c70S3)))
noncomputable def c70D0 : List (Nat × Ins) := [
 (0, ⟨some 24, .move (.tmp 0), 46, none⟩),
 (0, ⟨some 25, .move (.tmp 0), 46, none⟩),
 (0, ⟨some 26, .nilCheck (.tmp 25), 0, none⟩),
 (0, ⟨some 27, .fieldAddr 91 (.tmp 26) 1, 0, none⟩),
 (0, ⟨some 29, .move (.tmp 1), 3, none⟩),
 (0, ⟨some 30, .move (.tmp 2), 9, none⟩),
 (0, ⟨some 31, .move (.tmp 0), 46, none⟩),
 (0, ⟨some 32, .nilCheck (.tmp 31), 0, none⟩),
 (0, ⟨some 33, .fieldAddr 91 (.tmp 32) 4, 0, none⟩),
 (0, ⟨some 35, .move (.tmp 2), 9, none⟩),
 (0, ⟨some 36, .call ⟨.builtin .len, #[(.tmp 35)], #[9]⟩, 3, none⟩),
 (1, ⟨some 28, .load 89 (.tmp 27), 89, none⟩),
 (2, ⟨some 34, .load 9 (.tmp 33), 9, none⟩),
 (0, ⟨some 37, .slice 9 (.tmp 34) (some (.tmp 36)) none none, 9, none⟩),
 (0, ⟨some 38, .binOp .add 9 (.tmp 30) (.tmp 37) 9, 9, none⟩),
 (2, ⟨some 39, .build 93 #[(0, (.tmp 29)), (1, (.tmp 38))], 93, none⟩),
 (2, ⟨some 40, .buildSlice 89 1 #[(0, (.tmp 39))], 89, none⟩),
 (3, ⟨some 41, .call ⟨.builtin .append, #[(.tmp 28), (.tmp 40)], #[89, 89]⟩, 89, none⟩),
 (0, ⟨some 42, .nilCheck (.tmp 24), 0, none⟩),
 (0, ⟨some 43, .fieldAddr 91 (.tmp 42) 1, 0, none⟩),
 (3, ⟨none, .store 89 (.tmp 43) (.tmp 41), 0, none⟩)]
theorem c70draw0 {L : List Nat} {ρ : Env} {w : World} {Q : Post} (S : World → Prop) (hS : S w.drew) (h : DG Tryz.prog S c70D0 L ρ w.drew Q) : drawW Tryz.prog (drawOps 0 c70code) L ρ w Q :=
  drawW_held [4] [(0, 0), (0, 1), (0, 2), (0, 3), (0, 5), (0, 6), (0, 7), (0, 8), (0, 9), (0, 11), (0, 12), (1, 4), (2, 10), (0, 13), (0, 14), (2, 15), (2, 16), (3, 17), (0, 18), (0, 19), (3, 20)] c70D0 (by kernel_rfl) (by kernel_rfl) (by kernel_rfl) S hS h
set_option maxRecDepth 100000 in
theorem ent70 (a0 a1 a2 : Value) (w : World) (K : Value → World → Prop) (h : W Tryz.prog c70 [(0, a0), (1, a1), (2, a2)] w (finQ Tryz.prog [.tmp 6] K)) : Ret Tryz.prog 70 [a0, a1, a2] w K :=
  Ret_of_W (code := c70code) Tryz.func70 (by kernel_rfl) (by kernel_rfl) (of_decide_eq_true (by kernel_rfl)) h
@[go_sem] theorem go70 : goFunc Tryz.prog 70 = true := by kernel_rfl
noncomputable def c71code : Code := match Tryz.f71.body with | some c => c | none => .skip
noncomputable def c71S0 (_ : Unit) : Cmd := (.seq (.ops [
 ⟨some 14, .move (.tmp 5), 30, none⟩,
 ⟨some 15, .binOp .neq 30 (.tmp 14) (.const (.int .i64 0)) 30, 4, none⟩] [0, 5, 15])
 (.cond (.tmp 15)
  (.seq (.ops [
  ⟨some 16, .move (.tmp 5), 30, none⟩,
  ⟨some 4, .assign (.tmp 16), 30, none⟩] [4])
  .ret)
  (.skip [0])))
noncomputable def c71S1 (_ : Unit) : Cmd := .ret
noncomputable def c71S2 (_ : Unit) : Cmd := (.seq (.ops [
 ⟨some 17, .move (.tmp 0), 46, none⟩,
 ⟨some 18, .call ⟨.value (.func 81), #[(.tmp 17)], #[46]⟩, 30, none⟩,
 ⟨some 4, .assign (.tmp 18), 30, none⟩] [4]) (sg c71S1))
noncomputable def c71 : Cmd := (.seq (.ops [
 ⟨some 3, .box 96 (.tmp 1), 0, none⟩,
 ⟨some 4, .assign (.const (.int .i64 0)), 30, none⟩] [0, 3])
 (.seq (.seq (.draw (drawOps 0 c71code) [0, 5]) (sg c71S0)) (sg c71S2)))
noncomputable def c71D0 : List (Nat × Ins) := [
 (0, ⟨some 6, .move (.tmp 0), 46, none⟩),
 (0, ⟨some 7, .fieldAddr 96 (.tmp 3) 0, 0, none⟩),
 (1, ⟨some 8, .load 58 (.tmp 7), 58, none⟩),
 (0, ⟨some 9, .binOp .rem 58 (.tmp 8) (.const (.int .u64 2)) 58, 58, none⟩),
 (0, ⟨some 10, .convert 58 3 (.tmp 9), 3, none⟩),
 (2, ⟨some 11, .load 96 (.tmp 3), 96, none⟩),
 (2, ⟨some 12, .call ⟨.value (.func 94), #[(.tmp 11)], #[96]⟩, 9, none⟩),
 (2, ⟨some 13, .call ⟨.value (.func 70), #[(.tmp 6), (.tmp 10), (.tmp 12)], #[46, 3, 9]⟩, 30, none⟩),
 (0, ⟨some 5, .assign (.tmp 13), 30, none⟩)]
theorem c71draw0 {L : List Nat} {ρ : Env} {w : World} {Q : Post} (S : World → Prop) (hS : S w.drew) (h : DG Tryz.prog S c71D0 L ρ w.drew Q) : drawW Tryz.prog (drawOps 0 c71code) L ρ w Q :=
  drawW_held [2] [(0, 0), (0, 1), (1, 2), (0, 3), (0, 4), (2, 5), (2, 6), (2, 7), (0, 8)] c71D0 (by kernel_rfl) (by kernel_rfl) (by kernel_rfl) S hS h
set_option maxRecDepth 100000 in
theorem ent71 (a0 a1 : Value) (w : World) (K : Value → World → Prop) (h : W Tryz.prog c71 [(0, a0), (1, a1)] w (finQ Tryz.prog [.tmp 4] K)) : Ret Tryz.prog 71 [a0, a1] w K :=
  Ret_of_W (code := c71code) Tryz.func71 (by kernel_rfl) (by kernel_rfl) (of_decide_eq_true (by kernel_rfl)) h
@[go_sem] theorem go71 : goFunc Tryz.prog 71 = true := by kernel_rfl
noncomputable def c41code : Code := match Tryz.f41.body with | some c => c | none => .skip
noncomputable def c41S0 (_ : Unit) : Cmd := (.seq (.ops [
 ⟨some 10, .move (.tmp 0), 3, none⟩,
 ⟨some 11, .build 123 #[(0, (.tmp 10))], 123, none⟩,
 ⟨some 12, .box 123 (.tmp 11), 26, none⟩,
 ⟨some 2, .assign (.tmp 12), 26, none⟩,
 ⟨some 3, .assign (.const (.int .i64 0)), 30, none⟩] [2, 3])
 .ret)
noncomputable def c41 : Cmd := (.seq (.ops [
 ⟨some 2, .assign (.const (.pointer none)), 26, none⟩,
 ⟨some 3, .assign (.const (.int .i64 0)), 30, none⟩] [0])
 (.seq (.seq (.ops [
 ⟨some 4, .move (.tmp 0), 3, none⟩,
 ⟨some 5, .binOp .lss 3 (.tmp 4) (.const (.int .i64 1)) 3, 4, none⟩,
 ⟨some 6, .move (.tmp 5), 4, none⟩,
 ⟨some 7, .move (.tmp 0), 3, (some (6, false))⟩,
 ⟨some 8, .binOp .gtr 3 (.tmp 7) (.const (.int .i64 1024)) 3, 4, (some (6, false))⟩,
 ⟨some 9, .pick (.tmp 6) (.const (.bool true)) (.tmp 8), 4, none⟩] [0, 9])
 (.cond (.tmp 9)
  (.seq (.ops [
  ⟨some 2, .assign (.const (.pointer none)), 26, none⟩,
  ⟨some 3, .assign (.const (.int .i64 1)), 30, none⟩] [2, 3])
  .ret)
  (.skip [0]))) (sg c41S0)))
set_option maxRecDepth 100000 in
theorem ent41 (a0 : Value) (w : World) (K : Value → World → Prop) (h : W Tryz.prog c41 [(0, a0)] w (finQ Tryz.prog [.tmp 2, .tmp 3] K)) : Ret Tryz.prog 41 [a0] w K :=
  Ret_of_W (code := c41code) Tryz.func41 (by kernel_rfl) (by kernel_rfl) (of_decide_eq_true (by kernel_rfl)) h
@[go_sem] theorem go41 : goFunc Tryz.prog 41 = true := by kernel_rfl
noncomputable def c57code : Code := match Tryz.f57.body with | some c => c | none => .skip
noncomputable def c57S0 (_ : Unit) : Cmd := (.seq (.ops [
 ⟨some 22, .move (.tmp 5), 3, none⟩,
 ⟨some 23, .binOp .geq 3 (.tmp 22) (.const (.int .i64 0)) 3, 4, none⟩,
 ⟨some 4, .assign (.tmp 23), 4, none⟩] [4])
 .ret)
noncomputable def c57S1 (_ : Unit) : Cmd := (.seq (.seq (.ops [
 ⟨some 9, .move (.tmp 5), 3, none⟩,
 ⟨some 10, .binOp .geq 3 (.tmp 9) (.const (.int .i64 0)) 3, 4, none⟩] [0, 5, 10])
 (.cond (.tmp 10)
  (.ops [
  ⟨some 11, .move (.tmp 0), 26, none⟩,
  ⟨some 12, .move (.tmp 0), 26, none⟩,
  ⟨some 13, .nilCheck (.tmp 12), 0, none⟩,
  ⟨some 14, .fieldAddr 123 (.tmp 13) 1, 0, none⟩,
  ⟨some 15, .load 121 (.tmp 14), 121, none⟩,
  ⟨some 16, .move (.tmp 5), 3, none⟩,
  ⟨some 17, .move (.tmp 5), 3, none⟩,
  ⟨some 18, .binOp .add 3 (.tmp 17) (.const (.int .i64 1)) 3, 3, none⟩,
  ⟨some 19, .call ⟨.value (.func 84), #[(.tmp 15), (.tmp 16), (.tmp 18)], #[121, 3, 3]⟩, 121, none⟩,
  ⟨some 20, .nilCheck (.tmp 11), 0, none⟩,
  ⟨some 21, .fieldAddr 123 (.tmp 20) 1, 0, none⟩,
  ⟨none, .store 121 (.tmp 21) (.tmp 19), 0, none⟩] [5])
  (.skip [5]))) (sg c57S0))
noncomputable def c57 : Cmd := (.seq (.ops [
 ⟨some 4, .assign (.const (.bool false)), 4, none⟩] [0, 1])
 (.seq (.ops [
 ⟨some 6, .move (.tmp 0), 26, none⟩,
 ⟨some 7, .move (.tmp 1), 3, none⟩,
 ⟨some 8, .call ⟨.value (.func 83), #[(.tmp 6), (.tmp 7)], #[26, 3]⟩, 3, none⟩,
 ⟨some 5, .assign (.tmp 8), 3, none⟩] [0, 5]) (sg c57S1)))
set_option maxRecDepth 100000 in
theorem ent57 (a0 a1 : Value) (w : World) (K : Value → World → Prop) (h : W Tryz.prog c57 [(0, a0), (1, a1)] w (finQ Tryz.prog [.tmp 4] K)) : Ret Tryz.prog 57 [a0, a1] w K :=
  Ret_of_W (code := c57code) Tryz.func57 (by kernel_rfl) (by kernel_rfl) (of_decide_eq_true (by kernel_rfl)) h
@[go_sem] theorem go57 : goFunc Tryz.prog 57 = true := by kernel_rfl
noncomputable def str256x1466348926 : List UInt8 := [0, 1, 1, 2, 1, 2, 2, 3, 1, 2, 2, 3, 2, 3, 3, 4, 1, 2, 2, 3, 2, 3, 3, 4, 2, 3, 3, 4, 3, 4, 4, 5, 1, 2, 2, 3, 2, 3, 3, 4, 2, 3, 3, 4, 3, 4, 4, 5, 2, 3, 3, 4, 3, 4, 4, 5, 3, 4, 4, 5, 4, 5, 5, 6, 1, 2, 2, 3, 2, 3, 3, 4, 2, 3, 3, 4, 3, 4, 4, 5, 2, 3, 3, 4, 3, 4, 4, 5, 3, 4, 4, 5, 4, 5, 5, 6, 2, 3, 3, 4, 3, 4, 4, 5, 3, 4, 4, 5, 4, 5, 5, 6, 3, 4, 4, 5, 4, 5, 5, 6, 4, 5, 5, 6, 5, 6, 6, 7, 1, 2, 2, 3, 2, 3, 3, 4, 2, 3, 3, 4, 3, 4, 4, 5, 2, 3, 3, 4, 3, 4, 4, 5, 3, 4, 4, 5, 4, 5, 5, 6, 2, 3, 3, 4, 3, 4, 4, 5, 3, 4, 4, 5, 4, 5, 5, 6, 3, 4, 4, 5, 4, 5, 5, 6, 4, 5, 5, 6, 5, 6, 6, 7, 2, 3, 3, 4, 3, 4, 4, 5, 3, 4, 4, 5, 4, 5, 5, 6, 3, 4, 4, 5, 4, 5, 5, 6, 4, 5, 5, 6, 5, 6, 6, 7, 3, 4, 4, 5, 4, 5, 5, 6, 4, 5, 5, 6, 5, 6, 6, 7, 4, 5, 5, 6, 5, 6, 6, 7, 5, 6, 6, 7, 6, 7, 7, 8]
noncomputable def c62code : Code := match Tryz.f62.body with | some c => c | none => .skip
noncomputable def c62 : Cmd := (.seq (.ops [
 ⟨some 2, .assign (.const (.int .i64 0)), 3, none⟩] [0])
 (.seq (.ops [
 ⟨some 3, .move (.tmp 0), 5, none⟩,
 ⟨some 4, .index 9 (.const (.string (ofL str256x1466348926))) (.tmp 3), 5, none⟩,
 ⟨some 5, .convert 5 3 (.tmp 4), 3, none⟩,
 ⟨some 2, .assign (.tmp 5), 3, none⟩] [2])
 .ret))
set_option maxRecDepth 100000 in
theorem ent62 (a0 : Value) (w : World) (K : Value → World → Prop) (h : W Tryz.prog c62 [(0, a0)] w (finQ Tryz.prog [.tmp 2] K)) : Ret Tryz.prog 62 [a0] w K :=
  Ret_of_W (code := c62code) Tryz.func62 (by kernel_rfl) (by kernel_rfl) (of_decide_eq_true (by kernel_rfl)) h
@[go_sem] theorem go62 : goFunc Tryz.prog 62 = true := by kernel_rfl
noncomputable def c59code : Code := match Tryz.f59.body with | some c => c | none => .skip
noncomputable def c59S0 (_ : Unit) : Cmd := (.seq (.ops [
 ⟨some 17, .move (.tmp 0), 26, none⟩,
 ⟨some 18, .nilCheck (.tmp 17), 0, none⟩,
 ⟨some 19, .fieldAddr 123 (.tmp 18) 1, 0, none⟩,
 ⟨some 20, .load 121 (.tmp 19), 121, none⟩,
 ⟨some 21, .indexAddr 121 (.tmp 20) (.const (.int .i64 0)), 0, none⟩,
 ⟨some 22, .fieldAddr 132 (.tmp 21) 1, 0, none⟩,
 ⟨some 23, .load 9 (.tmp 22), 9, none⟩,
 ⟨some 4, .assign (.tmp 23), 9, none⟩,
 ⟨some 5, .assign (.const (.bool true)), 4, none⟩] [4, 5])
 .ret)
noncomputable def c59S1 (_ : Unit) : Cmd := (.seq (.ops [
 ⟨some 14, .move (.tmp 0), 26, none⟩,
 ⟨some 15, .move (.tmp 6), 3, none⟩,
 ⟨some 16, .call ⟨.value (.func 85), #[(.tmp 14), (.tmp 15)], #[26, 3]⟩, 0, none⟩] [0]) (sg c59S0))
noncomputable def c59S2 (_ : Unit) : Cmd := (.seq (.seq (.ops [
 ⟨some 11, .move (.tmp 6), 3, none⟩,
 ⟨some 12, .binOp .lss 3 (.tmp 11) (.const (.int .i64 0)) 3, 4, none⟩] [0, 6, 12])
 (.cond (.tmp 12)
  (.seq (.ops [
  ⟨some 7, .assign (.const (.string (ofL []))), 9, none⟩] [7])
  (.seq (.ops [
  ⟨some 13, .move (.tmp 7), 9, none⟩,
  ⟨some 4, .assign (.tmp 13), 9, none⟩,
  ⟨some 5, .assign (.const (.bool false)), 4, none⟩] [4, 5])
  .ret))
  (.skip [0, 6]))) (sg c59S1))
noncomputable def c59 : Cmd := (.seq (.ops [
 ⟨some 4, .assign (.const (.string (ofL []))), 9, none⟩,
 ⟨some 5, .assign (.const (.bool false)), 4, none⟩] [0, 1])
 (.seq (.ops [
 ⟨some 8, .move (.tmp 0), 26, none⟩,
 ⟨some 9, .move (.tmp 1), 3, none⟩,
 ⟨some 10, .call ⟨.value (.func 83), #[(.tmp 8), (.tmp 9)], #[26, 3]⟩, 3, none⟩,
 ⟨some 6, .assign (.tmp 10), 3, none⟩] [0, 6]) (sg c59S2)))
set_option maxRecDepth 100000 in
theorem ent59 (a0 a1 : Value) (w : World) (K : Value → World → Prop) (h : W Tryz.prog c59 [(0, a0), (1, a1)] w (finQ Tryz.prog [.tmp 4, .tmp 5] K)) : Ret Tryz.prog 59 [a0, a1] w K :=
  Ret_of_W (code := c59code) Tryz.func59 (by kernel_rfl) (by kernel_rfl) (of_decide_eq_true (by kernel_rfl)) h
@[go_sem] theorem go59 : goFunc Tryz.prog 59 = true := by kernel_rfl
noncomputable def c60code : Code := match Tryz.f60.body with | some c => c | none => .skip
noncomputable def c60S0 (_ : Unit) : Cmd := (.seq (.ops [
  ⟨some 31, .move (.tmp 0), 26, none⟩,
  ⟨some 32, .nilCheck (.tmp 31), 0, none⟩,
  ⟨some 33, .fieldAddr 123 (.tmp 32) 1, 0, none⟩,
  ⟨some 34, .load 121 (.tmp 33), 121, none⟩,
  ⟨some 35, .move (.tmp 2), 9, none⟩,
  ⟨some 36, .indexAddr 121 (.tmp 34) (.const (.int .i64 0)), 0, none⟩,
  ⟨some 37, .fieldAddr 132 (.tmp 36) 1, 0, none⟩,
  ⟨none, .store 9 (.tmp 37) (.tmp 35), 0, none⟩] [9])
  (.seq (.ops [
  ⟨some 38, .move (.tmp 9), 3, none⟩,
  ⟨some 6, .assign (.tmp 38), 3, none⟩,
  ⟨some 7, .assign (.const (.bool false)), 4, none⟩,
  ⟨some 8, .assign (.const (.int .i64 0)), 30, none⟩] [6, 7, 8])
  .ret))
noncomputable def c60S1 (_ : Unit) : Cmd := (.seq (.ops [
 ⟨some 26, .move (.tmp 10), 3, none⟩,
 ⟨some 27, .binOp .geq 3 (.tmp 26) (.const (.int .i64 0)) 3, 4, none⟩] [0, 1, 2, 9, 10, 27])
 (.cond (.tmp 27)
  (.seq (.ops [
  ⟨some 28, .move (.tmp 0), 26, none⟩,
  ⟨some 29, .move (.tmp 10), 3, none⟩,
  ⟨some 30, .call ⟨.value (.func 85), #[(.tmp 28), (.tmp 29)], #[26, 3]⟩, 0, none⟩] [0, 2, 9]) (sg c60S0))
  (.skip [0, 1, 2, 9])))
noncomputable def c60S2 (_ : Unit) : Cmd := (.block 1 (.ops [
 ⟨some 68, .move (.tmp 12), 3, none⟩,
 ⟨some 69, .binOp .sub 3 (.tmp 68) (.const (.int .i64 1)) 3, 3, none⟩,
 ⟨some 12, .assign (.tmp 69), 3, none⟩] [0, 1, 2, 9, 12]))
noncomputable def c60L0 (_ : Unit) : Cmd := (.seq (.seq (.ops [
 ⟨some 55, .move (.tmp 12), 3, none⟩,
 ⟨some 56, .binOp .geq 3 (.tmp 55) (.const (.int .i64 0)) 3, 4, none⟩,
 ⟨some 57, .move (.tmp 56), 4, none⟩,
 ⟨some 58, .move (.tmp 0), 26, (some (57, true))⟩,
 ⟨some 59, .nilCheck (.tmp 58), 0, (some (57, true))⟩,
 ⟨some 60, .fieldAddr 123 (.tmp 59) 1, 0, (some (57, true))⟩,
 ⟨some 61, .load 121 (.tmp 60), 121, (some (57, true))⟩,
 ⟨some 62, .move (.tmp 12), 3, (some (57, true))⟩,
 ⟨some 63, .indexAddr 121 (.tmp 61) (.tmp 62), 0, (some (57, true))⟩,
 ⟨some 64, .fieldAddr 132 (.tmp 63) 2, 0, (some (57, true))⟩,
 ⟨some 65, .load 3 (.tmp 64), 3, (some (57, true))⟩,
 ⟨some 66, .binOp .gtr 3 (.tmp 65) (.const (.int .i64 0)) 3, 4, (some (57, true))⟩,
 ⟨some 67, .pick (.tmp 57) (.tmp 66) (.const (.bool false)), 4, none⟩] [0, 1, 2, 9, 12, 67])
 (.cond (.tmp 67)
  (.skip [0, 1, 2, 9, 12])
  (.exit 0 [0, 1, 2, 9, 12]))) (sg c60S2))
noncomputable def c60S3 (_ : Unit) : Cmd := (.seq (.ops [
  ⟨some 73, .move (.tmp 0), 26, none⟩,
  ⟨some 74, .nilCheck (.tmp 73), 0, none⟩,
  ⟨some 75, .fieldAddr 123 (.tmp 74) 1, 0, none⟩,
  ⟨some 76, .load 121 (.tmp 75), 121, none⟩,
  ⟨some 77, .move (.tmp 12), 3, none⟩,
  ⟨some 78, .indexAddr 121 (.tmp 76) (.tmp 77), 0, none⟩,
  ⟨some 79, .fieldAddr 132 (.tmp 78) 0, 0, none⟩,
  ⟨some 80, .load 3 (.tmp 79), 3, none⟩,
  ⟨some 9, .assign (.tmp 80), 3, none⟩,
  ⟨some 11, .assign (.const (.bool true)), 4, none⟩] [0, 1, 2, 9, 11, 12])
  (.ops [
  ⟨some 81, .move (.tmp 0), 26, none⟩,
  ⟨some 82, .move (.tmp 0), 26, none⟩,
  ⟨some 83, .nilCheck (.tmp 82), 0, none⟩,
  ⟨some 84, .fieldAddr 123 (.tmp 83) 1, 0, none⟩,
  ⟨some 85, .load 121 (.tmp 84), 121, none⟩,
  ⟨some 86, .move (.tmp 12), 3, none⟩,
  ⟨some 87, .move (.tmp 12), 3, none⟩,
  ⟨some 88, .binOp .add 3 (.tmp 87) (.const (.int .i64 1)) 3, 3, none⟩,
  ⟨some 89, .call ⟨.value (.func 84), #[(.tmp 85), (.tmp 86), (.tmp 88)], #[121, 3, 3]⟩, 121, none⟩,
  ⟨some 90, .nilCheck (.tmp 81), 0, none⟩,
  ⟨some 91, .fieldAddr 123 (.tmp 90) 1, 0, none⟩,
  ⟨none, .store 121 (.tmp 91) (.tmp 89), 0, none⟩] [0, 1, 2, 9, 11]))
noncomputable def c60S4 (_ : Unit) : Cmd := (.seq (.seq (.ops [
  ⟨some 70, .move (.tmp 12), 3, none⟩,
  ⟨some 71, .binOp .lss 3 (.tmp 70) (.const (.int .i64 0)) 3, 4, none⟩] [0, 1, 2, 9, 12, 71])
  (.cond (.tmp 71)
   (.seq (.ops [
   ⟨some 72, .move (.tmp 9), 3, none⟩,
   ⟨some 6, .assign (.tmp 72), 3, none⟩,
   ⟨some 7, .assign (.const (.bool false)), 4, none⟩,
   ⟨some 8, .assign (.const (.int .i64 12)), 30, none⟩] [6, 7, 8])
   .ret)
   (.skip [0, 1, 2, 12]))) (sg c60S3))
noncomputable def c60S5 (_ : Unit) : Cmd := (.cond (.tmp 48)
  (.seq (.ops [
  ⟨some 49, .move (.tmp 0), 26, none⟩,
  ⟨some 50, .nilCheck (.tmp 49), 0, none⟩,
  ⟨some 51, .fieldAddr 123 (.tmp 50) 1, 0, none⟩,
  ⟨some 52, .load 121 (.tmp 51), 121, none⟩,
  ⟨some 53, .call ⟨.builtin .len, #[(.tmp 52)], #[121]⟩, 3, none⟩,
  ⟨some 54, .binOp .sub 3 (.tmp 53) (.const (.int .i64 1)) 3, 3, none⟩,
  ⟨some 12, .assign (.tmp 54), 3, none⟩] [0, 1, 2, 9, 12])
  (.seq (.block 0 (.loop (sg c60L0))) (sg c60S4)))
  (.skip [0, 1, 2, 9, 11]))
noncomputable def c60S6 (_ : Unit) : Cmd := (.seq (.ops [
 ⟨some 104, .move (.tmp 9), 3, none⟩,
 ⟨some 105, .move (.tmp 11), 4, none⟩,
 ⟨some 6, .assign (.tmp 104), 3, none⟩,
 ⟨some 7, .assign (.tmp 105), 4, none⟩,
 ⟨some 8, .assign (.const (.int .i64 0)), 30, none⟩] [6, 7, 8])
 .ret)
noncomputable def c60S7 (_ : Unit) : Cmd := (.seq (.ops [
 ⟨some 92, .move (.tmp 0), 26, none⟩,
 ⟨some 93, .move (.tmp 0), 26, none⟩,
 ⟨some 94, .nilCheck (.tmp 93), 0, none⟩,
 ⟨some 95, .fieldAddr 123 (.tmp 94) 1, 0, none⟩,
 ⟨some 96, .load 121 (.tmp 95), 121, none⟩,
 ⟨some 97, .move (.tmp 1), 3, none⟩,
 ⟨some 98, .move (.tmp 2), 9, none⟩,
 ⟨some 99, .build 132 #[(0, (.tmp 97)), (1, (.tmp 98))], 132, none⟩,
 ⟨some 100, .buildSlice 121 1 #[(0, (.tmp 99))], 121, none⟩,
 ⟨some 101, .call ⟨.value (.func 86), #[(.tmp 96), (.const (.int .i64 0)), (.tmp 100)], #[121, 3, 121]⟩, 121, none⟩,
 ⟨some 102, .nilCheck (.tmp 92), 0, none⟩,
 ⟨some 103, .fieldAddr 123 (.tmp 102) 1, 0, none⟩,
 ⟨none, .store 121 (.tmp 103) (.tmp 101), 0, none⟩] [9, 11]) (sg c60S6))
noncomputable def c60S8 (_ : Unit) : Cmd := (.seq (.ops [
 ⟨some 11, .assign (.const (.bool false)), 4, none⟩] [0, 1, 2, 9, 11])
 (.seq (.seq (.draw (drawOps 0 c60code) [0, 1, 2, 9, 11, 48]) (sg c60S5)) (sg c60S7)))
noncomputable def c60S9 (_ : Unit) : Cmd := (.seq (.seq (.ops [
 ⟨some 23, .move (.tmp 0), 26, none⟩,
 ⟨some 24, .move (.tmp 1), 3, none⟩,
 ⟨some 25, .call ⟨.value (.func 83), #[(.tmp 23), (.tmp 24)], #[26, 3]⟩, 3, none⟩,
 ⟨some 10, .assign (.tmp 25), 3, none⟩] [0, 1, 2, 9, 10]) (sg c60S1)) (sg c60S8))
noncomputable def c60 : Cmd := (.seq (.ops [
 ⟨some 6, .assign (.const (.int .i64 0)), 3, none⟩,
 ⟨some 7, .assign (.const (.bool false)), 4, none⟩,
 ⟨some 8, .assign (.const (.int .i64 0)), 30, none⟩] [0, 1, 2])
 (.seq (.ops [
 ⟨some 9, .assign (.const (.int .i64 0)), 3, none⟩] [0, 1, 2, 9])
 (.seq (.seq (.ops [
 ⟨some 13, .move (.tmp 0), 26, none⟩,
 ⟨some 14, .binOp .eql 26 (.tmp 13) (.const (.pointer none)) 26, 4, none⟩,
 ⟨some 15, .move (.tmp 14), 4, none⟩,
 ⟨some 16, .move (.tmp 0), 26, (some (15, false))⟩,
 ⟨some 17, .nilCheck (.tmp 16), 0, (some (15, false))⟩,
 ⟨some 18, .fieldAddr 123 (.tmp 17) 0, 0, (some (15, false))⟩,
 ⟨some 19, .load 3 (.tmp 18), 3, (some (15, false))⟩,
 ⟨some 20, .binOp .eql 3 (.tmp 19) (.const (.int .i64 0)) 3, 4, (some (15, false))⟩,
 ⟨some 21, .pick (.tmp 15) (.const (.bool true)) (.tmp 20), 4, none⟩] [0, 1, 2, 9, 21])
 (.cond (.tmp 21)
  (.seq (.ops [
  ⟨some 22, .move (.tmp 9), 3, none⟩,
  ⟨some 6, .assign (.tmp 22), 3, none⟩,
  ⟨some 7, .assign (.const (.bool false)), 4, none⟩,
  ⟨some 8, .assign (.const (.int .i64 3)), 30, none⟩] [6, 7, 8])
  .ret)
  (.skip [0, 1, 2, 9]))) (sg c60S9))))
noncomputable def c60D0 : List (Bool × Ins) := [
 (true, ⟨some 39, .move (.tmp 0), 26, none⟩),
 (true, ⟨some 40, .nilCheck (.tmp 39), 0, none⟩),
 (true, ⟨some 41, .fieldAddr 123 (.tmp 40) 1, 0, none⟩),
 (false, ⟨some 42, .load 121 (.tmp 41), 121, none⟩),
 (true, ⟨some 43, .call ⟨.builtin .len, #[(.tmp 42)], #[121]⟩, 3, none⟩),
 (true, ⟨some 44, .move (.tmp 0), 26, none⟩),
 (true, ⟨some 45, .nilCheck (.tmp 44), 0, none⟩),
 (true, ⟨some 46, .fieldAddr 123 (.tmp 45) 0, 0, none⟩),
 (false, ⟨some 47, .load 3 (.tmp 46), 3, none⟩),
 (true, ⟨some 48, .binOp .geq 3 (.tmp 43) (.tmp 47) 3, 4, none⟩)]
theorem c60draw0 {L : List Nat} {ρ : Env} {w : World} {Q : Post} (h : DL Tryz.prog c60D0 L ρ w.drew Q) : drawW Tryz.prog (drawOps 0 c60code) L ρ w Q :=
  drawW_still [true, true, true, false, true, true, true, true, false, true] c60D0 (by kernel_rfl) (by kernel_rfl) (by kernel_rfl) h
set_option maxRecDepth 100000 in
theorem ent60 (a0 a1 a2 : Value) (w : World) (K : Value → World → Prop) (h : W Tryz.prog c60 [(0, a0), (1, a1), (2, a2)] w (finQ Tryz.prog [.tmp 6, .tmp 7, .tmp 8] K)) : Ret Tryz.prog 60 [a0, a1, a2] w K :=
  Ret_of_W (code := c60code) Tryz.func60 (by kernel_rfl) (by kernel_rfl) (of_decide_eq_true (by kernel_rfl)) h
@[go_sem] theorem go60 : goFunc Tryz.prog 60 = true := by kernel_rfl
noncomputable def c81code : Code := match Tryz.f81.body with | some c => c | none => .skip
noncomputable def c81S0 (_ : Unit) : Cmd := (.ops [
 ⟨some 32, .binOp .add 3 (.tmp 19) (.const (.int .i64 1)) 3, 3, none⟩,
 ⟨some 19, .move (.tmp 32), 3, none⟩] [0, 3, 17, 18, 19])
noncomputable def c81S1 (_ : Unit) : Cmd := (.seq (.block 1 (.seq (.ops [
 ⟨some 21, .indexAddr 89 (.tmp 17) (.tmp 19), 0, none⟩,
 ⟨some 22, .load 93 (.tmp 21), 93, none⟩,
 ⟨some 5, .alloc 93, 0, none⟩,
 ⟨none, .store 93 (.tmp 5) (.tmp 22), 0, none⟩] [0, 3, 5, 17, 18, 19])
 (.draw (drawOps 0 c81code) [0, 3, 17, 18, 19]))) (sg c81S0))
noncomputable def c81L0 (_ : Unit) : Cmd := (.seq (.ops [
 ⟨some 20, .binOp .lss 3 (.tmp 19) (.tmp 18) 3, 0, none⟩] [0, 3, 17, 18, 19, 20])
 (.seq (.cond (.tmp 20)
  (.skip [0, 3, 17, 18, 19])
  (.exit 0 [0, 3])) (sg c81S1)))
noncomputable def c81S2 (_ : Unit) : Cmd := (.ops [
  ⟨some 33, .move (.tmp 0), 46, none⟩,
  ⟨some 34, .nilCheck (.tmp 33), 0, none⟩,
  ⟨some 35, .fieldAddr 91 (.tmp 34) 1, 0, none⟩,
  ⟨none, .store 89 (.tmp 35) (.const (.slice none 0 0)), 0, none⟩] [3])
noncomputable def c81S3 (_ : Unit) : Cmd := (.seq (.ops [
 ⟨some 36, .move (.tmp 3), 30, none⟩,
 ⟨some 2, .assign (.tmp 36), 30, none⟩] [2])
 .ret)
noncomputable def c81S4 (_ : Unit) : Cmd := (.seq (.seq (.ops [
 ⟨some 12, .move (.tmp 3), 30, none⟩,
 ⟨some 13, .binOp .eql 30 (.tmp 12) (.const (.int .i64 0)) 30, 4, none⟩] [0, 3, 13])
 (.cond (.tmp 13)
  (.seq (.seq (.ops [
  ⟨some 14, .move (.tmp 0), 46, none⟩,
  ⟨some 15, .nilCheck (.tmp 14), 0, none⟩,
  ⟨some 16, .fieldAddr 91 (.tmp 15) 1, 0, none⟩,
  ⟨some 17, .load 89 (.tmp 16), 89, none⟩,
  ⟨some 18, .call ⟨.builtin .len, #[(.tmp 17)], #[89]⟩, 3, none⟩,
  ⟨some 19, .move (.const (.int .i64 0)), 3, none⟩] [0, 3, 17, 18, 19])
  (.block 0 (.loop (sg c81L0)))) (sg c81S2))
  (.skip [3]))) (sg c81S3))
noncomputable def c81S5 (_ : Unit) : Cmd := (.seq (.seq (.ops [
 ⟨some 8, .move (.tmp 3), 30, none⟩,
 ⟨some 9, .binOp .eql 30 (.tmp 8) (.const (.int .i64 0)) 30, 4, none⟩] [0, 3, 9])
 (.cond (.tmp 9)
  (.ops [
  ⟨some 10, .move (.tmp 0), 46, none⟩,
  ⟨some 11, .call ⟨.value (.func 93), #[(.tmp 10)], #[46]⟩, 30, none⟩,
  ⟨some 3, .assign (.tmp 11), 30, none⟩] [0, 3])
  (.skip [0, 3]))) (sg c81S4))
noncomputable def c81 : Cmd := (.seq (.ops [
 ⟨some 2, .assign (.const (.int .i64 0)), 30, none⟩] [0])
 (.seq (.ops [
 ⟨some 6, .move (.tmp 0), 46, none⟩,
 ⟨some 7, .call ⟨.value (.func 78), #[(.tmp 6), (.const (.int .i64 0))], #[46, 3]⟩, 30, none⟩,
 ⟨some 3, .assign (.tmp 7), 30, none⟩] [0, 3]) (sg c81S5)))
noncomputable def c81D0 : List (Nat × Ins) := [
 (0, ⟨some 23, .move (.tmp 0), 46, none⟩),
 (0, ⟨some 24, .nilCheck (.tmp 23), 0, none⟩),
 (0, ⟨some 25, .fieldAddr 91 (.tmp 24) 0, 0, none⟩),
 (0, ⟨some 27, .fieldAddr 93 (.tmp 5) 0, 0, none⟩),
 (0, ⟨some 29, .fieldAddr 93 (.tmp 5) 1, 0, none⟩),
 (1, ⟨some 26, .load 49 (.tmp 25), 49, none⟩),
 (1, ⟨some 28, .load 3 (.tmp 27), 3, none⟩),
 (2, ⟨some 30, .load 9 (.tmp 29), 9, none⟩),
 (0, ⟨some 31, .indexAddr 49 (.tmp 26) (.tmp 28), 0, none⟩),
 (3, ⟨none, .store 9 (.tmp 31) (.tmp 30), 0, none⟩)]
theorem c81draw0 {L : List Nat} {ρ : Env} {w : World} {Q : Post} (S : World → Prop) (hS : S w.drew) (h : DG Tryz.prog S c81D0 L ρ w.drew Q) : drawW Tryz.prog (drawOps 0 c81code) L ρ w Q :=
  drawW_held [3, 5] [(0, 0), (0, 1), (0, 2), (0, 4), (0, 6), (1, 3), (1, 5), (2, 7), (0, 8), (3, 9)] c81D0 (by kernel_rfl) (by kernel_rfl) (by kernel_rfl) S hS h
set_option maxRecDepth 100000 in
theorem ent81 (a0 : Value) (w : World) (K : Value → World → Prop) (h : W Tryz.prog c81 [(0, a0)] w (finQ Tryz.prog [.tmp 2] K)) : Ret Tryz.prog 81 [a0] w K :=
  Ret_of_W (code := c81code) Tryz.func81 (by kernel_rfl) (by kernel_rfl) (of_decide_eq_true (by kernel_rfl)) h
@[go_sem] theorem go81 : goFunc Tryz.prog 81 = true := by kernel_rfl
noncomputable def c82code : Code := match Tryz.f82.body with | some c => c | none => .skip
noncomputable def c82S0 (_ : Unit) : Cmd := (.seq (.ops [
 ⟨some 23, .move (.tmp 6), 30, none⟩,
 ⟨some 24, .binOp .neq 30 (.tmp 23) (.const (.int .i64 0)) 30, 4, none⟩] [0, 5, 6, 24])
 (.cond (.tmp 24)
  (.seq (.ops [
  ⟨some 25, .move (.tmp 6), 30, none⟩,
  ⟨some 4, .assign (.tmp 25), 30, none⟩] [4])
  .ret)
  (.skip [0, 5])))
noncomputable def c82S1 (_ : Unit) : Cmd := (.seq (.ops [
 ⟨some 26, .move (.tmp 0), 25, none⟩,
 ⟨some 27, .load 96 (.tmp 5), 96, none⟩,
 ⟨some 28, .nilCheck (.tmp 26), 0, none⟩,
 ⟨some 29, .fieldAddr 101 (.tmp 28) 1, 0, none⟩,
 ⟨none, .store 96 (.tmp 29) (.tmp 27), 0, none⟩] [])
 (.seq (.ops [
 ⟨some 4, .assign (.const (.int .i64 0)), 30, none⟩] [4])
 .ret))
noncomputable def c82 : Cmd := (.seq (.ops [
 ⟨some 4, .assign (.const (.int .i64 0)), 30, none⟩] [0, 1])
 (.seq (.ops [
 ⟨some 7, .move (.tmp 0), 25, none⟩,
 ⟨some 8, .nilCheck (.tmp 7), 0, none⟩,
 ⟨some 9, .fieldAddr 101 (.tmp 8) 1, 0, none⟩,
 ⟨some 10, .load 96 (.tmp 9), 96, none⟩,
 ⟨some 5, .alloc 96, 0, none⟩,
 ⟨none, .store 96 (.tmp 5) (.tmp 10), 0, none⟩] [0, 1, 5])
 (.seq (.ops [
 ⟨some 11, .fieldAddr 96 (.tmp 5) 0, 0, none⟩,
 ⟨some 12, .load 58 (.tmp 11), 58, none⟩,
 ⟨some 13, .binOp .add 58 (.tmp 12) (.const (.int .u64 1)) 58, 58, none⟩,
 ⟨some 14, .move (.tmp 1), 3, none⟩,
 ⟨some 15, .fieldAddr 96 (.tmp 5) 0, 0, none⟩,
 ⟨none, .store 58 (.tmp 15) (.tmp 13), 0, none⟩,
 ⟨some 16, .fieldAddr 96 (.tmp 5) 1, 0, none⟩,
 ⟨none, .store 3 (.tmp 16) (.tmp 14), 0, none⟩] [0, 5])
 (.seq (.seq (.draw (drawOps 0 c82code) [0, 5, 6]) (sg c82S0)) (sg c82S1)))))
noncomputable def c82D0 : List (Nat × Ins) := [
 (0, ⟨some 17, .move (.tmp 0), 25, none⟩),
 (0, ⟨some 18, .nilCheck (.tmp 17), 0, none⟩),
 (0, ⟨some 19, .fieldAddr 101 (.tmp 18) 0, 0, none⟩),
 (1, ⟨some 20, .load 46 (.tmp 19), 46, none⟩),
 (2, ⟨some 21, .load 96 (.tmp 5), 96, none⟩),
 (3, ⟨some 22, .call ⟨.value (.func 71), #[(.tmp 20), (.tmp 21)], #[46, 96]⟩, 30, none⟩),
 (0, ⟨some 6, .assign (.tmp 22), 30, none⟩)]
theorem c82draw0 {L : List Nat} {ρ : Env} {w : World} {Q : Post} (S : World → Prop) (hS : S w.drew) (h : DG Tryz.prog S c82D0 L ρ w.drew Q) : drawW Tryz.prog (drawOps 0 c82code) L ρ w Q :=
  drawW_held [3] [(0, 0), (0, 1), (0, 2), (1, 3), (2, 4), (3, 5), (0, 6)] c82D0 (by kernel_rfl) (by kernel_rfl) (by kernel_rfl) S hS h
set_option maxRecDepth 100000 in
theorem ent82 (a0 a1 : Value) (w : World) (K : Value → World → Prop) (h : W Tryz.prog c82 [(0, a0), (1, a1)] w (finQ Tryz.prog [.tmp 4] K)) : Ret Tryz.prog 82 [a0, a1] w K :=
  Ret_of_W (code := c82code) Tryz.func82 (by kernel_rfl) (by kernel_rfl) (of_decide_eq_true (by kernel_rfl)) h
@[go_sem] theorem go82 : goFunc Tryz.prog 82 = true := by kernel_rfl
noncomputable def c77code : Code := match Tryz.f77.body with | some c => c | none => .skip
noncomputable def c77S0 (_ : Unit) : Cmd := (.cond (.tmp 15)
  (.seq (.ops [
  ⟨some 16, .build 96 #[], 96, none⟩,
  ⟨none, .store 96 (.tmp 2) (.tmp 16), 0, none⟩,
  ⟨some 3, .assign (.const (.bool false)), 4, none⟩] [2, 3])
  .ret)
  (.skip [1, 2]))
noncomputable def c77S1 (_ : Unit) : Cmd := .ret
noncomputable def c77S2 (_ : Unit) : Cmd := (.seq (.ops [
 ⟨some 17, .makeFunc (.func 98) #[] #[(.tmp 1)], 120, none⟩,
 ⟨some 4, .assign (.tmp 17), 120, none⟩] [1, 2, 4])
 (.seq (.ops [
 ⟨some 18, .load 9 (.tmp 1), 9, none⟩,
 ⟨some 19, .slice 9 (.tmp 18) none (some (.const (.int .i64 8))) none, 9, none⟩,
 ⟨some 20, .call ⟨.value (.func 33), #[(.tmp 19)], #[9]⟩, 58, none⟩,
 ⟨some 21, .move (.tmp 4), 120, none⟩,
 ⟨some 22, .call ⟨.value (.tmp 21), #[(.const (.int .i64 8))], #[3]⟩, 3, none⟩,
 ⟨some 23, .move (.tmp 4), 120, none⟩,
 ⟨some 24, .call ⟨.value (.tmp 23), #[(.const (.int .i64 12))], #[3]⟩, 3, none⟩,
 ⟨some 25, .move (.tmp 4), 120, none⟩,
 ⟨some 26, .call ⟨.value (.tmp 25), #[(.const (.int .i64 16))], #[3]⟩, 3, none⟩,
 ⟨some 27, .build 96 #[(0, (.tmp 20)), (1, (.tmp 22)), (2, (.tmp 24)), (3, (.tmp 26))], 96, none⟩,
 ⟨none, .store 96 (.tmp 2) (.tmp 27), 0, none⟩,
 ⟨some 3, .assign (.const (.bool true)), 4, none⟩] [2, 3]) (sg c77S1)))
noncomputable def c77 : Cmd := (.seq (.ops [
 ⟨some 1, .box 9 (.tmp 0), 0, none⟩,
 ⟨some 2, .alloc 96, 0, none⟩,
 ⟨some 3, .assign (.const (.bool false)), 4, none⟩] [1, 2])
 (.seq (.seq (.draw (drawOps 0 c77code) [1, 2, 15]) (sg c77S0)) (sg c77S2)))
noncomputable def c77D0 : List (Nat × Ins) := [
 (2, ⟨some 5, .load 9 (.tmp 1), 9, none⟩),
 (0, ⟨some 6, .call ⟨.builtin .len, #[(.tmp 5)], #[9]⟩, 3, none⟩),
 (0, ⟨some 7, .binOp .lss 3 (.tmp 6) (.const (.int .i64 40)) 3, 4, none⟩),
 (0, ⟨some 8, .move (.tmp 7), 4, none⟩),
 (1, ⟨some 9, .load 9 (.tmp 1), 9, (some (8, false))⟩),
 (0, ⟨some 10, .slice 9 (.tmp 9) none (some (.const (.int .i64 20))) none, 9, (some (8, false))⟩),
 (1, ⟨some 12, .load 9 (.tmp 1), 9, (some (8, false))⟩),
 (0, ⟨some 13, .slice 9 (.tmp 12) (some (.const (.int .i64 20))) (some (.const (.int .i64 40))) none, 9, (some (8, false))⟩),
 (2, ⟨some 11, .call ⟨.value (.func 97), #[(.tmp 10)], #[9]⟩, 9, (some (8, false))⟩),
 (0, ⟨some 14, .binOp .neq 9 (.tmp 11) (.tmp 13) 9, 4, (some (8, false))⟩),
 (0, ⟨some 15, .pick (.tmp 8) (.const (.bool true)) (.tmp 14), 4, none⟩)]
theorem c77draw0 {L : List Nat} {ρ : Env} {w : World} {Q : Post} (S : World → Prop) (hS : S w.drew) (h : DG Tryz.prog S c77D0 L ρ w.drew Q) : drawW Tryz.prog (drawOps 0 c77code) L ρ w Q :=
  drawW_held [4, 7] [(2, 0), (0, 1), (0, 2), (0, 3), (1, 4), (0, 5), (1, 7), (0, 8), (2, 6), (0, 9), (0, 10)] c77D0 (by kernel_rfl) (by kernel_rfl) (by kernel_rfl) S hS h
set_option maxRecDepth 100000 in
theorem ent77 (a0 : Value) (w : World) (K : Value → World → Prop) (h : W Tryz.prog c77 [(0, a0)] w (finQ Tryz.prog [.cell 2 96, .tmp 3] K)) : Ret Tryz.prog 77 [a0] w K :=
  Ret_of_W (code := c77code) Tryz.func77 (by kernel_rfl) (by kernel_rfl) (of_decide_eq_true (by kernel_rfl)) h
@[go_sem] theorem go77 : goFunc Tryz.prog 77 = true := by kernel_rfl
noncomputable def c78code : Code := match Tryz.f78.body with | some c => c | none => .skip
noncomputable def c78S0 (_ : Unit) : Cmd := (.seq (.ops [
 ⟨some 4, .assign (.const (.int .i64 0)), 30, none⟩] [4])
 .ret)
noncomputable def c78 : Cmd := (.seq (.ops [
 ⟨some 4, .assign (.const (.int .i64 0)), 30, none⟩] [0, 1])
 (.seq (.block 0 (.seq (.ops [
 ⟨some 6, .move (.tmp 0), 46, none⟩,
 ⟨some 7, .binOp .eql 46 (.tmp 6) (.const (.pointer none)) 46, 4, none⟩,
 ⟨some 8, .move (.tmp 7), 4, none⟩,
 ⟨some 9, .move (.tmp 0), 46, (some (8, false))⟩,
 ⟨some 10, .nilCheck (.tmp 9), 0, (some (8, false))⟩,
 ⟨some 11, .fieldAddr 91 (.tmp 10) 0, 0, (some (8, false))⟩,
 ⟨some 12, .load 49 (.tmp 11), 49, (some (8, false))⟩,
 ⟨some 13, .binOp .eql 49 (.tmp 12) (.const (.slice none 0 0)) 49, 4, (some (8, false))⟩,
 ⟨some 14, .pick (.tmp 8) (.const (.bool true)) (.tmp 13), 4, none⟩,
 ⟨some 5, .assign (.tmp 14), 4, none⟩] [0, 1, 5])
 (.cond (.tmp 5)
  (.seq (.ops [
  ⟨some 4, .assign (.const (.int .i64 3)), 30, none⟩] [4])
  .ret)
  (.seq (.ops [
  ⟨some 16, .move (.tmp 0), 46, none⟩,
  ⟨some 17, .nilCheck (.tmp 16), 0, none⟩,
  ⟨some 18, .fieldAddr 91 (.tmp 17) 3, 0, none⟩,
  ⟨some 19, .load 4 (.tmp 18), 4, none⟩,
  ⟨some 15, .assign (.tmp 19), 4, none⟩] [0, 1, 15])
  (.cond (.tmp 15)
   (.seq (.ops [
   ⟨some 4, .assign (.const (.int .i64 11)), 30, none⟩] [4])
   .ret)
   (.seq (.ops [
   ⟨some 21, .move (.tmp 1), 3, none⟩,
   ⟨some 22, .binOp .lss 3 (.tmp 21) (.const (.int .i64 0)) 3, 4, none⟩,
   ⟨some 23, .move (.tmp 22), 4, none⟩,
   ⟨some 24, .move (.tmp 1), 3, (some (23, false))⟩,
   ⟨some 25, .move (.tmp 0), 46, (some (23, false))⟩,
   ⟨some 26, .nilCheck (.tmp 25), 0, (some (23, false))⟩,
   ⟨some 27, .fieldAddr 91 (.tmp 26) 0, 0, (some (23, false))⟩,
   ⟨some 28, .load 49 (.tmp 27), 49, (some (23, false))⟩,
   ⟨some 29, .call ⟨.builtin .len, #[(.tmp 28)], #[49]⟩, 3, (some (23, false))⟩,
   ⟨some 30, .binOp .geq 3 (.tmp 24) (.tmp 29) 3, 4, (some (23, false))⟩,
   ⟨some 31, .pick (.tmp 23) (.const (.bool true)) (.tmp 30), 4, none⟩,
   ⟨some 20, .assign (.tmp 31), 4, none⟩] [20])
   (.cond (.tmp 20)
    (.seq (.ops [
    ⟨some 4, .assign (.const (.int .i64 10)), 30, none⟩] [4])
    .ret)
    (.skip [])))))))) (sg c78S0)))
set_option maxRecDepth 100000 in
theorem ent78 (a0 a1 : Value) (w : World) (K : Value → World → Prop) (h : W Tryz.prog c78 [(0, a0), (1, a1)] w (finQ Tryz.prog [.tmp 4] K)) : Ret Tryz.prog 78 [a0, a1] w K :=
  Ret_of_W (code := c78code) Tryz.func78 (by kernel_rfl) (by kernel_rfl) (of_decide_eq_true (by kernel_rfl)) h
@[go_sem] theorem go78 : goFunc Tryz.prog 78 = true := by kernel_rfl
noncomputable def c93code : Code := match Tryz.f93.body with | some c => c | none => .skip
noncomputable def c93S0 (_ : Unit) : Cmd := (.seq (.ops [
 ⟨some 2, .assign (.const (.int .i64 0)), 30, none⟩] [2])
 .ret)
noncomputable def c93S1 (_ : Unit) : Cmd := (.seq (.seq (.ops [
 ⟨some 11, .move (.tmp 0), 46, none⟩,
 ⟨some 12, .nilCheck (.tmp 11), 0, none⟩,
 ⟨some 13, .fieldAddr 91 (.tmp 12) 2, 0, none⟩,
 ⟨some 14, .load 3 (.tmp 13), 3, none⟩,
 ⟨some 15, .binOp .gtr 3 (.tmp 14) (.const (.int .i64 0)) 3, 4, none⟩] [0, 15])
 (.cond (.tmp 15)
  (.ops [
  ⟨some 16, .move (.tmp 0), 46, none⟩,
  ⟨some 17, .nilCheck (.tmp 16), 0, none⟩,
  ⟨some 18, .fieldAddr 91 (.tmp 17) 2, 0, none⟩,
  ⟨some 19, .load 3 (.tmp 18), 3, none⟩,
  ⟨some 20, .binOp .sub 3 (.tmp 19) (.const (.int .i64 1)) 3, 3, none⟩,
  ⟨some 21, .nilCheck (.tmp 16), 0, none⟩,
  ⟨some 22, .fieldAddr 91 (.tmp 21) 2, 0, none⟩,
  ⟨none, .store 3 (.tmp 22) (.tmp 20), 0, none⟩] [])
  (.skip []))) (sg c93S0))
noncomputable def c93 : Cmd := (.seq (.ops [
 ⟨some 2, .assign (.const (.int .i64 0)), 30, none⟩] [0])
 (.seq (.seq (.ops [
 ⟨some 3, .move (.tmp 0), 46, none⟩,
 ⟨some 4, .nilCheck (.tmp 3), 0, none⟩,
 ⟨some 5, .fieldAddr 91 (.tmp 4) 2, 0, none⟩,
 ⟨some 6, .load 3 (.tmp 5), 3, none⟩,
 ⟨some 7, .binOp .eql 3 (.tmp 6) (.const (.int .i64 0)) 3, 4, none⟩] [0, 7])
 (.cond (.tmp 7)
  (.seq (.ops [
  ⟨some 8, .move (.tmp 0), 46, none⟩,
  ⟨some 9, .nilCheck (.tmp 8), 0, none⟩,
  ⟨some 10, .fieldAddr 91 (.tmp 9) 3, 0, none⟩,
  ⟨none, .store 4 (.tmp 10) (.const (.bool true)), 0, none⟩] [])
  (.seq (.ops [
  ⟨some 2, .assign (.const (.int .i64 11)), 30, none⟩] [2])
  .ret))
  (.skip [0]))) (sg c93S1)))
set_option maxRecDepth 100000 in
theorem ent93 (a0 : Value) (w : World) (K : Value → World → Prop) (h : W Tryz.prog c93 [(0, a0)] w (finQ Tryz.prog [.tmp 2] K)) : Ret Tryz.prog 93 [a0] w K :=
  Ret_of_W (code := c93code) Tryz.func93 (by kernel_rfl) (by kernel_rfl) (of_decide_eq_true (by kernel_rfl)) h
@[go_sem] theorem go93 : goFunc Tryz.prog 93 = true := by kernel_rfl
noncomputable def c94code : Code := match Tryz.f94.body with | some c => c | none => .skip
noncomputable def c94S0 (_ : Unit) : Cmd := .ret
noncomputable def c94S1 (_ : Unit) : Cmd := (.seq (.ops [
 ⟨some 22, .move (.tmp 3), 9, none⟩,
 ⟨some 23, .move (.tmp 3), 9, none⟩,
 ⟨some 24, .call ⟨.value (.func 97), #[(.tmp 23)], #[9]⟩, 9, none⟩,
 ⟨some 25, .binOp .add 9 (.tmp 22) (.tmp 24) 9, 9, none⟩,
 ⟨some 2, .assign (.tmp 25), 9, none⟩] [2]) (sg c94S0))
noncomputable def c94 : Cmd := (.seq (.ops [
 ⟨some 1, .box 96 (.tmp 0), 0, none⟩,
 ⟨some 2, .assign (.const (.string (ofL []))), 9, none⟩] [1])
 (.seq (.draw (drawOps 0 c94code) [3]) (sg c94S1)))
noncomputable def c94D0 : List (Nat × Ins) := [
 (0, ⟨some 4, .fieldAddr 96 (.tmp 1) 0, 0, none⟩),
 (0, ⟨some 7, .fieldAddr 96 (.tmp 1) 1, 0, none⟩),
 (0, ⟨some 12, .fieldAddr 96 (.tmp 1) 2, 0, none⟩),
 (0, ⟨some 17, .fieldAddr 96 (.tmp 1) 3, 0, none⟩),
 (1, ⟨some 5, .load 58 (.tmp 4), 58, none⟩),
 (1, ⟨some 8, .load 3 (.tmp 7), 3, none⟩),
 (0, ⟨some 9, .convert 3 58 (.tmp 8), 58, none⟩),
 (1, ⟨some 13, .load 3 (.tmp 12), 3, none⟩),
 (0, ⟨some 14, .convert 3 58 (.tmp 13), 58, none⟩),
 (1, ⟨some 18, .load 3 (.tmp 17), 3, none⟩),
 (0, ⟨some 19, .convert 3 58 (.tmp 18), 58, none⟩),
 (2, ⟨some 6, .call ⟨.value (.func 36), #[(.tmp 5), (.const (.int .i64 8))], #[58, 3]⟩, 9, none⟩),
 (2, ⟨some 10, .call ⟨.value (.func 36), #[(.tmp 9), (.const (.int .i64 4))], #[58, 3]⟩, 9, none⟩),
 (0, ⟨some 11, .binOp .add 9 (.tmp 6) (.tmp 10) 9, 9, none⟩),
 (2, ⟨some 15, .call ⟨.value (.func 36), #[(.tmp 14), (.const (.int .i64 4))], #[58, 3]⟩, 9, none⟩),
 (0, ⟨some 16, .binOp .add 9 (.tmp 11) (.tmp 15) 9, 9, none⟩),
 (2, ⟨some 20, .call ⟨.value (.func 36), #[(.tmp 19), (.const (.int .i64 4))], #[58, 3]⟩, 9, none⟩),
 (0, ⟨some 21, .binOp .add 9 (.tmp 16) (.tmp 20) 9, 9, none⟩),
 (0, ⟨some 3, .assign (.tmp 21), 9, none⟩)]
theorem c94draw0 {L : List Nat} {ρ : Env} {w : World} {Q : Post} (S : World → Prop) (hS : S w.drew) (h : DG Tryz.prog S c94D0 L ρ w.drew Q) : drawW Tryz.prog (drawOps 0 c94code) L ρ w Q :=
  drawW_held [1, 4, 9, 14] [(0, 0), (0, 3), (0, 8), (0, 13), (1, 1), (1, 4), (0, 5), (1, 9), (0, 10), (1, 14), (0, 15), (2, 2), (2, 6), (0, 7), (2, 11), (0, 12), (2, 16), (0, 17), (0, 18)] c94D0 (by kernel_rfl) (by kernel_rfl) (by kernel_rfl) S hS h
set_option maxRecDepth 100000 in
theorem ent94 (a0 : Value) (w : World) (K : Value → World → Prop) (h : W Tryz.prog c94 [(0, a0)] w (finQ Tryz.prog [.tmp 2] K)) : Ret Tryz.prog 94 [a0] w K :=
  Ret_of_W (code := c94code) Tryz.func94 (by kernel_rfl) (by kernel_rfl) (of_decide_eq_true (by kernel_rfl)) h
@[go_sem] theorem go94 : goFunc Tryz.prog 94 = true := by kernel_rfl
noncomputable def c83code : Code := match Tryz.f83.body with | some c => c | none => .skip
noncomputable def c83S0 (_ : Unit) : Cmd := .ret
noncomputable def c83S1 (_ : Unit) : Cmd := (.seq (.ops [
 ⟨some 7, .move (.tmp 0), 26, none⟩,
 ⟨some 8, .nilCheck (.tmp 7), 0, none⟩,
 ⟨some 9, .fieldAddr 123 (.tmp 8) 1, 0, none⟩,
 ⟨some 10, .load 121 (.tmp 9), 121, none⟩,
 ⟨some 11, .makeFunc (.func 103) #[] #[(.tmp 3)], 151, none⟩,
 ⟨some 12, .call ⟨.value (.func 102), #[(.tmp 10), (.tmp 11)], #[121, 151]⟩, 3, none⟩,
 ⟨some 4, .assign (.tmp 12), 3, none⟩] [4]) (sg c83S0))
noncomputable def c83 : Cmd := (.seq (.ops [
 ⟨some 3, .box 3 (.tmp 1), 0, none⟩,
 ⟨some 4, .assign (.const (.int .i64 0)), 3, none⟩] [0, 3])
 (.seq (.seq (.ops [
 ⟨some 5, .move (.tmp 0), 26, none⟩,
 ⟨some 6, .binOp .eql 26 (.tmp 5) (.const (.pointer none)) 26, 4, none⟩] [0, 3, 6])
 (.cond (.tmp 6)
  (.seq (.ops [
  ⟨some 4, .assign (.const (.int .i64 (-1))), 3, none⟩] [4])
  .ret)
  (.skip [0, 3]))) (sg c83S1)))
set_option maxRecDepth 100000 in
theorem ent83 (a0 a1 : Value) (w : World) (K : Value → World → Prop) (h : W Tryz.prog c83 [(0, a0), (1, a1)] w (finQ Tryz.prog [.tmp 4] K)) : Ret Tryz.prog 83 [a0, a1] w K :=
  Ret_of_W (code := c83code) Tryz.func83 (by kernel_rfl) (by kernel_rfl) (of_decide_eq_true (by kernel_rfl)) h
@[go_sem] theorem go83 : goFunc Tryz.prog 83 = true := by kernel_rfl
noncomputable def c85code : Code := match Tryz.f85.body with | some c => c | none => .skip
noncomputable def c85S0 (_ : Unit) : Cmd := (.draw (drawOps 1 c85code) [])
noncomputable def c85 : Cmd := (.seq (.ops [
 ⟨some 5, .move (.tmp 0), 26, none⟩,
 ⟨some 6, .nilCheck (.tmp 5), 0, none⟩,
 ⟨some 7, .fieldAddr 123 (.tmp 6) 1, 0, none⟩,
 ⟨some 8, .load 121 (.tmp 7), 121, none⟩,
 ⟨some 9, .move (.tmp 1), 3, none⟩,
 ⟨some 10, .indexAddr 121 (.tmp 8) (.tmp 9), 0, none⟩,
 ⟨some 11, .load 132 (.tmp 10), 132, none⟩,
 ⟨some 4, .alloc 132, 0, none⟩,
 ⟨none, .store 132 (.tmp 4) (.tmp 11), 0, none⟩] [0, 1, 4])
 (.seq (.draw (drawOps 0 c85code) [0, 4]) (sg c85S0)))
noncomputable def c85D0 : List (Nat × Ins) := [
 (0, ⟨some 12, .move (.tmp 0), 26, none⟩),
 (0, ⟨some 13, .nilCheck (.tmp 12), 0, none⟩),
 (0, ⟨some 14, .fieldAddr 123 (.tmp 13) 1, 0, none⟩),
 (0, ⟨some 16, .move (.tmp 1), 3, none⟩),
 (0, ⟨some 17, .binOp .add 3 (.tmp 16) (.const (.int .i64 1)) 3, 3, none⟩),
 (0, ⟨some 19, .move (.tmp 0), 26, none⟩),
 (0, ⟨some 20, .nilCheck (.tmp 19), 0, none⟩),
 (0, ⟨some 21, .fieldAddr 123 (.tmp 20) 1, 0, none⟩),
 (0, ⟨some 23, .move (.tmp 1), 3, none⟩),
 (1, ⟨some 15, .load 121 (.tmp 14), 121, none⟩),
 (0, ⟨some 18, .slice 121 (.tmp 15) (some (.const (.int .i64 1))) (some (.tmp 17)) none, 121, none⟩),
 (2, ⟨some 22, .load 121 (.tmp 21), 121, none⟩),
 (0, ⟨some 24, .slice 121 (.tmp 22) none (some (.tmp 23)) none, 121, none⟩),
 (2, ⟨some 25, .call ⟨.builtin .copy, #[(.tmp 18), (.tmp 24)], #[121, 121]⟩, 3, none⟩)]
theorem c85draw0 {L : List Nat} {ρ : Env} {w : World} {Q : Post} (S : World → Prop) (hS : S w.drew) (h : DG Tryz.prog S c85D0 L ρ w.drew Q) : drawW Tryz.prog (drawOps 0 c85code) L ρ w Q :=
  drawW_held [3] [(0, 0), (0, 1), (0, 2), (0, 4), (0, 5), (0, 7), (0, 8), (0, 9), (0, 11), (1, 3), (0, 6), (2, 10), (0, 12), (2, 13)] c85D0 (by kernel_rfl) (by kernel_rfl) (by kernel_rfl) S hS h
noncomputable def c85D1 : List (Nat × Ins) := [
 (0, ⟨some 26, .move (.tmp 0), 26, none⟩),
 (0, ⟨some 27, .nilCheck (.tmp 26), 0, none⟩),
 (0, ⟨some 28, .fieldAddr 123 (.tmp 27) 1, 0, none⟩),
 (1, ⟨some 29, .load 121 (.tmp 28), 121, none⟩),
 (2, ⟨some 30, .load 132 (.tmp 4), 132, none⟩),
 (0, ⟨some 31, .indexAddr 121 (.tmp 29) (.const (.int .i64 0)), 0, none⟩),
 (3, ⟨none, .store 132 (.tmp 31) (.tmp 30), 0, none⟩)]
theorem c85draw1 {L : List Nat} {ρ : Env} {w : World} {Q : Post} (S : World → Prop) (hS : S w.drew) (h : DG Tryz.prog S c85D1 L ρ w.drew Q) : drawW Tryz.prog (drawOps 1 c85code) L ρ w Q :=
  drawW_held [3] [(0, 0), (0, 1), (0, 2), (1, 3), (2, 4), (0, 5), (3, 6)] c85D1 (by kernel_rfl) (by kernel_rfl) (by kernel_rfl) S hS h
set_option maxRecDepth 100000 in
theorem ent85 (a0 a1 : Value) (w : World) (K : Value → World → Prop) (h : W Tryz.prog c85 [(0, a0), (1, a1)] w (finQ Tryz.prog [] K)) : Ret Tryz.prog 85 [a0, a1] w K :=
  Ret_of_W (code := c85code) Tryz.func85 (by kernel_rfl) (by kernel_rfl) (of_decide_eq_true (by kernel_rfl)) h
@[go_sem] theorem go85 : goFunc Tryz.prog 85 = true := by kernel_rfl
noncomputable def c97code : Code := match Tryz.f97.body with | some c => c | none => .skip
noncomputable def c97S0 (_ : Unit) : Cmd := (.seq (.block 1 (.seq (.ops [
 ⟨some 11, .move (.tmp 9), 3, none⟩,
 ⟨some 4, .assign (.tmp 11), 3, none⟩] [3, 4, 8, 9])
 (.ops [
 ⟨some 12, .move (.tmp 3), 106, none⟩,
 ⟨some 13, .move (.tmp 4), 3, none⟩,
 ⟨some 14, .indexAddr 106 (.tmp 12) (.tmp 13), 0, none⟩,
 ⟨some 15, .load 5 (.tmp 14), 5, none⟩,
 ⟨some 16, .binOp .xor 5 (.tmp 15) (.const (.int .u8 255)) 5, 5, none⟩,
 ⟨some 17, .indexAddr 106 (.tmp 12) (.tmp 13), 0, none⟩,
 ⟨none, .store 5 (.tmp 17) (.tmp 16), 0, none⟩] [3, 8, 9])))
 (.ops [
 ⟨some 18, .binOp .add 3 (.tmp 9) (.const (.int .i64 1)) 3, 3, none⟩,
 ⟨some 9, .move (.tmp 18), 3, none⟩] [3, 8, 9]))
noncomputable def c97L0 (_ : Unit) : Cmd := (.seq (.ops [
 ⟨some 10, .binOp .lss 3 (.tmp 9) (.tmp 8) 3, 0, none⟩] [3, 8, 9, 10])
 (.seq (.cond (.tmp 10)
  (.skip [3, 8, 9])
  (.exit 0 [3])) (sg c97S0)))
noncomputable def c97S1 (_ : Unit) : Cmd := (.seq (.ops [
 ⟨some 19, .move (.tmp 3), 106, none⟩,
 ⟨some 20, .convert 106 9 (.tmp 19), 9, none⟩,
 ⟨some 2, .assign (.tmp 20), 9, none⟩] [2])
 .ret)
noncomputable def c97 : Cmd := (.seq (.ops [
 ⟨some 2, .assign (.const (.string (ofL []))), 9, none⟩] [0])
 (.seq (.ops [
 ⟨some 5, .move (.tmp 0), 9, none⟩,
 ⟨some 6, .convert 9 106 (.tmp 5), 106, none⟩,
 ⟨some 3, .assign (.tmp 6), 106, none⟩] [3])
 (.seq (.seq (.ops [
 ⟨some 7, .move (.tmp 3), 106, none⟩,
 ⟨some 8, .call ⟨.builtin .len, #[(.tmp 7)], #[106]⟩, 3, none⟩,
 ⟨some 9, .move (.const (.int .i64 0)), 3, none⟩] [3, 8, 9])
 (.block 0 (.loop (sg c97L0)))) (sg c97S1))))
set_option maxRecDepth 100000 in
theorem ent97 (a0 : Value) (w : World) (K : Value → World → Prop) (h : W Tryz.prog c97 [(0, a0)] w (finQ Tryz.prog [.tmp 2] K)) : Ret Tryz.prog 97 [a0] w K :=
  Ret_of_W (code := c97code) Tryz.func97 (by kernel_rfl) (by kernel_rfl) (of_decide_eq_true (by kernel_rfl)) h
@[go_sem] theorem go97 : goFunc Tryz.prog 97 = true := by kernel_rfl
noncomputable def c98code : Code := match Tryz.f98.body with | some c => c | none => .skip
noncomputable def c98S0 (_ : Unit) : Cmd := .ret
noncomputable def c98 : Cmd := (.seq (.ops [
 ⟨some 3, .assign (.const (.int .i64 0)), 3, none⟩] [0, 1])
 (.seq (.ops [
 ⟨some 4, .load 9 (.tmp 1), 9, none⟩,
 ⟨some 5, .move (.tmp 0), 3, none⟩,
 ⟨some 6, .move (.tmp 0), 3, none⟩,
 ⟨some 7, .binOp .add 3 (.tmp 6) (.const (.int .i64 4)) 3, 3, none⟩,
 ⟨some 8, .slice 9 (.tmp 4) (some (.tmp 5)) (some (.tmp 7)) none, 9, none⟩,
 ⟨some 9, .call ⟨.value (.func 33), #[(.tmp 8)], #[9]⟩, 58, none⟩,
 ⟨some 10, .convert 58 3 (.tmp 9), 3, none⟩,
 ⟨some 3, .assign (.tmp 10), 3, none⟩] [3]) (sg c98S0)))
set_option maxRecDepth 100000 in
theorem ent98 (a0 a1 : Value) (w : World) (K : Value → World → Prop) (h : W Tryz.prog c98 [(0, a0), (1, a1)] w (finQ Tryz.prog [.tmp 3] K)) : Ret Tryz.prog 98 [a0, a1] w K :=
  Ret_of_W (code := c98code) Tryz.func98 (by kernel_rfl) (by kernel_rfl) (of_decide_eq_true (by kernel_rfl)) h
@[go_sem] theorem go98 : goFunc Tryz.prog 98 = true := by kernel_rfl
noncomputable def c102code : Code := match Tryz.f102.body with | some c => c | none => .skip
noncomputable def c102S0 (_ : Unit) : Cmd := (.cond (.tmp 16)
  (.seq (.ops [
  ⟨some 17, .move (.tmp 5), 3, none⟩,
  ⟨some 4, .assign (.tmp 17), 3, none⟩] [4])
  .ret)
  (.skip [0, 1, 7, 8]))
noncomputable def c102S1 (_ : Unit) : Cmd := (.ops [
 ⟨some 18, .binOp .add 3 (.tmp 8) (.const (.int .i64 1)) 3, 3, none⟩,
 ⟨some 8, .move (.tmp 18), 3, none⟩] [0, 1, 7, 8])
noncomputable def c102S2 (_ : Unit) : Cmd := (.seq (.block 1 (.seq (.ops [
 ⟨some 10, .move (.tmp 8), 3, none⟩,
 ⟨some 5, .assign (.tmp 10), 3, none⟩] [0, 1, 5, 7, 8])
 (.seq (.ops [
 ⟨some 11, .move (.tmp 1), 151, none⟩,
 ⟨some 12, .move (.tmp 0), 121, none⟩,
 ⟨some 13, .move (.tmp 5), 3, none⟩,
 ⟨some 14, .indexAddr 121 (.tmp 12) (.tmp 13), 0, none⟩,
 ⟨some 15, .load 132 (.tmp 14), 132, none⟩,
 ⟨some 16, .call ⟨.value (.tmp 11), #[(.tmp 15)], #[132]⟩, 4, none⟩] [0, 1, 5, 7, 8, 16]) (sg c102S0)))) (sg c102S1))
noncomputable def c102L0 (_ : Unit) : Cmd := (.seq (.ops [
 ⟨some 9, .binOp .lss 3 (.tmp 8) (.tmp 7) 3, 0, none⟩] [0, 1, 7, 8, 9])
 (.seq (.cond (.tmp 9)
  (.skip [0, 1, 7, 8])
  (.exit 0 [])) (sg c102S2)))
noncomputable def c102S3 (_ : Unit) : Cmd := (.seq (.ops [
 ⟨some 4, .assign (.const (.int .i64 (-1))), 3, none⟩] [4])
 .ret)
noncomputable def c102 : Cmd := (.seq (.ops [
 ⟨some 4, .assign (.const (.int .i64 0)), 3, none⟩] [0, 1])
 (.seq (.seq (.ops [
 ⟨some 6, .move (.tmp 0), 121, none⟩,
 ⟨some 7, .call ⟨.builtin .len, #[(.tmp 6)], #[121]⟩, 3, none⟩,
 ⟨some 8, .move (.const (.int .i64 0)), 3, none⟩] [0, 1, 7, 8])
 (.block 0 (.loop (sg c102L0)))) (sg c102S3)))
set_option maxRecDepth 100000 in
theorem ent102 (a0 a1 : Value) (w : World) (K : Value → World → Prop) (h : W Tryz.prog c102 [(0, a0), (1, a1)] w (finQ Tryz.prog [.tmp 4] K)) : Ret Tryz.prog 102 [a0, a1] w K :=
  Ret_of_W (code := c102code) Tryz.func102 (by kernel_rfl) (by kernel_rfl) (of_decide_eq_true (by kernel_rfl)) h
@[go_sem] theorem go102 : goFunc Tryz.prog 102 = true := by kernel_rfl
noncomputable def c103code : Code := match Tryz.f103.body with | some c => c | none => .skip
noncomputable def c103 : Cmd := (.seq (.ops [
 ⟨some 2, .box 132 (.tmp 0), 0, none⟩,
 ⟨some 3, .assign (.const (.bool false)), 4, none⟩] [1, 2])
 (.seq (.ops [
 ⟨some 4, .fieldAddr 132 (.tmp 2) 0, 0, none⟩,
 ⟨some 5, .load 3 (.tmp 4), 3, none⟩,
 ⟨some 6, .load 3 (.tmp 1), 3, none⟩,
 ⟨some 7, .binOp .eql 3 (.tmp 5) (.tmp 6) 3, 4, none⟩,
 ⟨some 3, .assign (.tmp 7), 4, none⟩] [3])
 .ret))
set_option maxRecDepth 100000 in
theorem ent103 (a0 a1 : Value) (w : World) (K : Value → World → Prop) (h : W Tryz.prog c103 [(0, a0), (1, a1)] w (finQ Tryz.prog [.tmp 3] K)) : Ret Tryz.prog 103 [a0, a1] w K :=
  Ret_of_W (code := c103code) Tryz.func103 (by kernel_rfl) (by kernel_rfl) (of_decide_eq_true (by kernel_rfl)) h
@[go_sem] theorem go103 : goFunc Tryz.prog 103 = true := by kernel_rfl
@[go_sem] theorem go34 : goFunc Tryz.prog 34 = true := by kernel_rfl
noncomputable def c39code : Code := match Tryz.f39.body with | some c => c | none => .skip
noncomputable def c39S0 (_ : Unit) : Cmd := (.seq (.ops [
 ⟨some 10, .move (.tmp 3), 30, none⟩,
 ⟨some 11, .binOp .neq 30 (.tmp 10) (.const (.int .i64 0)) 30, 4, none⟩,
 ⟨some 12, .move (.tmp 11), 4, none⟩,
 ⟨some 13, .move (.tmp 0), 25, (some (12, false))⟩,
 ⟨some 14, .nilCheck (.tmp 13), 0, (some (12, false))⟩,
 ⟨some 15, .fieldAddr 101 (.tmp 14) 2, 0, (some (12, false))⟩,
 ⟨some 16, .load 99 (.tmp 15), 99, (some (12, false))⟩,
 ⟨some 17, .call ⟨.builtin .len, #[(.tmp 16)], #[99]⟩, 3, (some (12, false))⟩,
 ⟨some 18, .binOp .eql 3 (.tmp 17) (.const (.int .i64 0)) 3, 4, (some (12, false))⟩,
 ⟨some 19, .pick (.tmp 12) (.const (.bool true)) (.tmp 18), 4, none⟩] [0, 3, 19])
 (.cond (.tmp 19)
  (.seq (.ops [
  ⟨some 20, .move (.tmp 3), 30, none⟩,
  ⟨some 2, .assign (.tmp 20), 30, none⟩] [2])
  .ret)
  (.skip [0])))
noncomputable def c39S1 (_ : Unit) : Cmd := (.block 1 (.seq (.ops [
 ⟨some 28, .entry (.tmp 25), 0, none⟩,
 ⟨some 29, .extract (.tmp 28) 0, 3, none⟩,
 ⟨some 30, .extract (.tmp 28) 1, 9, none⟩,
 ⟨some 5, .assign (.tmp 29), 3, none⟩,
 ⟨some 6, .assign (.tmp 30), 9, none⟩] [0, 4, 5, 6, 25])
 (.ops [
 ⟨some 31, .move (.tmp 4), 102, none⟩,
 ⟨some 32, .move (.tmp 5), 3, none⟩,
 ⟨some 33, .move (.tmp 6), 9, none⟩,
 ⟨some 34, .build 116 #[(0, (.tmp 32)), (1, (.tmp 33))], 116, none⟩,
 ⟨some 35, .buildSlice 102 1 #[(0, (.tmp 34))], 102, none⟩,
 ⟨some 36, .call ⟨.builtin .append, #[(.tmp 31), (.tmp 35)], #[102, 102]⟩, 102, none⟩,
 ⟨some 4, .assign (.tmp 36), 102, none⟩] [0, 4, 25])))
noncomputable def c39L0 (_ : Unit) : Cmd := (.seq (.ops [
 ⟨some 26, .next (.tmp 25) false, 0, none⟩,
 ⟨some 27, .extract (.tmp 26) 0, 4, none⟩] [0, 4, 25, 27])
 (.seq (.cond (.tmp 27)
  (.skip [0, 4, 25])
  (.exit 0 [0, 4])) (sg c39S1)))
noncomputable def c39S2 (_ : Unit) : Cmd := (.cond (.tmp 51)
  (.seq (.ops [
  ⟨some 2, .assign (.const (.int .i64 12)), 30, none⟩] [2])
  .ret)
  (.skip [0, 4]))
noncomputable def c39S3 (_ : Unit) : Cmd := (.seq (.ops [
 ⟨some 55, .move (.tmp 0), 25, none⟩,
 ⟨some 56, .move (.tmp 7), 30, none⟩,
 ⟨some 57, .binOp .neq 30 (.tmp 56) (.const (.int .i64 0)) 30, 4, none⟩,
 ⟨some 58, .nilCheck (.tmp 55), 0, none⟩,
 ⟨some 59, .fieldAddr 101 (.tmp 58) 3, 0, none⟩,
 ⟨none, .store 4 (.tmp 59) (.tmp 57), 0, none⟩] [7])
 (.seq (.ops [
 ⟨some 60, .move (.tmp 7), 30, none⟩,
 ⟨some 2, .assign (.tmp 60), 30, none⟩] [2])
 .ret))
noncomputable def c39S4 (_ : Unit) : Cmd := (.seq (.ops [
 ⟨some 52, .move (.tmp 0), 25, none⟩,
 ⟨some 53, .move (.tmp 4), 102, none⟩,
 ⟨some 54, .call ⟨.value (.func 67), #[(.tmp 52), (.tmp 53)], #[25, 102]⟩, 30, none⟩,
 ⟨some 7, .assign (.tmp 54), 30, none⟩] [0, 7]) (sg c39S3))
noncomputable def c39S5 (_ : Unit) : Cmd := (.seq (.seq (.draw (drawOps 0 c39code) [0, 4, 51]) (sg c39S2)) (sg c39S4))
noncomputable def c39S6 (_ : Unit) : Cmd := (.seq (.ops [
 ⟨some 39, .move (.tmp 0), 25, none⟩,
 ⟨some 40, .nilCheck (.tmp 39), 0, none⟩,
 ⟨some 41, .fieldAddr 101 (.tmp 40) 2, 0, none⟩,
 ⟨some 42, .load 99 (.tmp 41), 99, none⟩,
 ⟨none, .call ⟨.builtin .clear, #[(.tmp 42)], #[99]⟩, 0, none⟩] [0, 4]) (sg c39S5))
noncomputable def c39S7 (_ : Unit) : Cmd := (.seq (.ops [
 ⟨some 37, .move (.tmp 4), 102, none⟩,
 ⟨some 38, .call ⟨.value (.func 63), #[(.tmp 37), (.func 64)], #[102, 119]⟩, 0, none⟩] [0, 4]) (sg c39S6))
noncomputable def c39S8 (_ : Unit) : Cmd := (.seq (.ops [
 ⟨some 4, .assign (.const (.slice none 0 0)), 102, none⟩] [0, 4])
 (.seq (.seq (.ops [
 ⟨some 21, .move (.tmp 0), 25, none⟩,
 ⟨some 22, .nilCheck (.tmp 21), 0, none⟩,
 ⟨some 23, .fieldAddr 101 (.tmp 22) 2, 0, none⟩,
 ⟨some 24, .load 99 (.tmp 23), 99, none⟩,
 ⟨some 25, .range 99 (.tmp 24), 0, none⟩] [0, 4, 25])
 (.block 0 (.loop (sg c39L0)))) (sg c39S7)))
noncomputable def c39 : Cmd := (.seq (.ops [
 ⟨some 2, .assign (.const (.int .i64 0)), 30, none⟩] [0])
 (.seq (.seq (.ops [
 ⟨some 8, .move (.tmp 0), 25, none⟩,
 ⟨some 9, .call ⟨.value (.func 56), #[(.tmp 8), (.const (.int .i64 0))], #[25, 3]⟩, 30, none⟩,
 ⟨some 3, .assign (.tmp 9), 30, none⟩] [0, 3]) (sg c39S0)) (sg c39S8)))
noncomputable def c39D0 : List (Nat × Ins) := [
 (0, ⟨some 43, .move (.tmp 4), 102, none⟩),
 (0, ⟨some 44, .call ⟨.builtin .len, #[(.tmp 43)], #[102]⟩, 3, none⟩),
 (0, ⟨some 46, .move (.tmp 0), 25, none⟩),
 (0, ⟨some 47, .nilCheck (.tmp 46), 0, none⟩),
 (0, ⟨some 48, .fieldAddr 101 (.tmp 47) 1, 0, none⟩),
 (0, ⟨some 49, .fieldAddr 96 (.tmp 48) 2, 0, none⟩),
 (1, ⟨some 50, .load 3 (.tmp 49), 3, none⟩),
 (2, ⟨some 45, .call ⟨.value (.func 66), #[(.tmp 44)], #[3]⟩, 3, none⟩),
 (0, ⟨some 51, .binOp .gtr 3 (.tmp 45) (.tmp 50) 3, 4, none⟩)]
theorem c39draw0 {L : List Nat} {ρ : Env} {w : World} {Q : Post} (S : World → Prop) (hS : S w.drew) (h : DG Tryz.prog S c39D0 L ρ w.drew Q) : drawW Tryz.prog (drawOps 0 c39code) L ρ w Q :=
  drawW_held [7] [(0, 0), (0, 1), (0, 3), (0, 4), (0, 5), (0, 6), (1, 7), (2, 2), (0, 8)] c39D0 (by kernel_rfl) (by kernel_rfl) (by kernel_rfl) S hS h
set_option maxRecDepth 100000 in
theorem ent39 (a0 : Value) (w : World) (K : Value → World → Prop) (h : W Tryz.prog c39 [(0, a0)] w (finQ Tryz.prog [.tmp 2] K)) : Ret Tryz.prog 39 [a0] w K :=
  Ret_of_W (code := c39code) Tryz.func39 (by kernel_rfl) (by kernel_rfl) (of_decide_eq_true (by kernel_rfl)) h
@[go_sem] theorem go39 : goFunc Tryz.prog 39 = true := by kernel_rfl
noncomputable def c64code : Code := match Tryz.f64.body with | some c => c | none => .skip
noncomputable def c64S0 (_ : Unit) : Cmd := .ret
noncomputable def c64 : Cmd := (.seq (.ops [
 ⟨some 2, .box 116 (.tmp 0), 0, none⟩,
 ⟨some 3, .box 116 (.tmp 1), 0, none⟩,
 ⟨some 4, .assign (.const (.int .i64 0)), 3, none⟩] [2, 3])
 (.seq (.ops [
 ⟨some 5, .fieldAddr 116 (.tmp 2) 0, 0, none⟩,
 ⟨some 6, .load 3 (.tmp 5), 3, none⟩,
 ⟨some 7, .fieldAddr 116 (.tmp 3) 0, 0, none⟩,
 ⟨some 8, .load 3 (.tmp 7), 3, none⟩,
 ⟨some 9, .call ⟨.value (.func 65), #[(.tmp 6), (.tmp 8)], #[3, 3]⟩, 3, none⟩,
 ⟨some 4, .assign (.tmp 9), 3, none⟩] [4]) (sg c64S0)))
set_option maxRecDepth 100000 in
theorem ent64 (a0 a1 : Value) (w : World) (K : Value → World → Prop) (h : W Tryz.prog c64 [(0, a0), (1, a1)] w (finQ Tryz.prog [.tmp 4] K)) : Ret Tryz.prog 64 [a0, a1] w K :=
  Ret_of_W (code := c64code) Tryz.func64 (by kernel_rfl) (by kernel_rfl) (of_decide_eq_true (by kernel_rfl)) h
@[go_sem] theorem go64 : goFunc Tryz.prog 64 = true := by kernel_rfl
noncomputable def c65code : Code := match Tryz.f65.body with | some c => c | none => .skip
noncomputable def c65S0 (_ : Unit) : Cmd := (.seq (.ops [
  ⟨some 4, .assign (.const (.int .i64 (-1))), 3, none⟩] [4])
  .ret)
noncomputable def c65S1 (_ : Unit) : Cmd := (.seq (.ops [
 ⟨some 4, .assign (.const (.int .i64 0)), 3, none⟩] [4])
 .ret)
noncomputable def c65S2 (_ : Unit) : Cmd := (.seq (.seq (.ops [
 ⟨some 17, .move (.tmp 0), 3, none⟩,
 ⟨some 18, .move (.tmp 1), 3, none⟩,
 ⟨some 19, .binOp .gtr 3 (.tmp 17) (.tmp 18) 3, 4, none⟩] [19])
 (.cond (.tmp 19)
  (.seq (.ops [
  ⟨some 4, .assign (.const (.int .i64 1)), 3, none⟩] [4])
  .ret)
  (.skip []))) (sg c65S1))
noncomputable def c65S3 (_ : Unit) : Cmd := (.seq (.seq (.ops [
 ⟨some 14, .move (.tmp 0), 3, none⟩,
 ⟨some 15, .move (.tmp 1), 3, none⟩,
 ⟨some 16, .binOp .lss 3 (.tmp 14) (.tmp 15) 3, 4, none⟩] [0, 1, 16])
 (.cond (.tmp 16)
  (.seq (.ops [
  ⟨some 4, .assign (.const (.int .i64 (-1))), 3, none⟩] [4])
  .ret)
  (.skip [0, 1]))) (sg c65S2))
noncomputable def c65S4 (_ : Unit) : Cmd := (.seq (.seq (.ops [
 ⟨some 13, .move (.tmp 6), 4, none⟩] [0, 1, 13])
 (.cond (.tmp 13)
  (.seq (.ops [
  ⟨some 4, .assign (.const (.int .i64 1)), 3, none⟩] [4])
  .ret)
  (.skip [0, 1]))) (sg c65S3))
noncomputable def c65S5 (_ : Unit) : Cmd := (.seq (.seq (.ops [
 ⟨some 11, .move (.tmp 5), 4, none⟩] [0, 1, 6, 11])
 (.cond (.tmp 11)
  (.seq (.seq (.ops [
  ⟨some 12, .move (.tmp 6), 4, none⟩] [12])
  (.cond (.tmp 12)
   (.seq (.ops [
   ⟨some 4, .assign (.const (.int .i64 0)), 3, none⟩] [4])
   .ret)
   (.skip []))) (sg c65S0))
  (.skip [0, 1, 6]))) (sg c65S4))
noncomputable def c65S6 (_ : Unit) : Cmd := (.seq (.ops [
 ⟨some 9, .move (.tmp 1), 3, none⟩,
 ⟨some 10, .call ⟨.value (.func 91), #[(.tmp 9)], #[3]⟩, 4, none⟩,
 ⟨some 6, .assign (.tmp 10), 4, none⟩] [0, 1, 5, 6]) (sg c65S5))
noncomputable def c65 : Cmd := (.seq (.ops [
 ⟨some 4, .assign (.const (.int .i64 0)), 3, none⟩] [0, 1])
 (.seq (.ops [
 ⟨some 7, .move (.tmp 0), 3, none⟩,
 ⟨some 8, .call ⟨.value (.func 91), #[(.tmp 7)], #[3]⟩, 4, none⟩,
 ⟨some 5, .assign (.tmp 8), 4, none⟩] [0, 1, 5]) (sg c65S6)))
set_option maxRecDepth 100000 in
theorem ent65 (a0 a1 : Value) (w : World) (K : Value → World → Prop) (h : W Tryz.prog c65 [(0, a0), (1, a1)] w (finQ Tryz.prog [.tmp 4] K)) : Ret Tryz.prog 65 [a0, a1] w K :=
  Ret_of_W (code := c65code) Tryz.func65 (by kernel_rfl) (by kernel_rfl) (of_decide_eq_true (by kernel_rfl)) h
@[go_sem] theorem go65 : goFunc Tryz.prog 65 = true := by kernel_rfl
noncomputable def c66code : Code := match Tryz.f66.body with | some c => c | none => .skip
noncomputable def c66S0 (_ : Unit) : Cmd := .ret
noncomputable def c66 : Cmd := (.seq (.ops [
 ⟨some 2, .assign (.const (.int .i64 0)), 3, none⟩] [0])
 (.seq (.ops [
 ⟨some 3, .move (.tmp 0), 3, none⟩,
 ⟨some 4, .call ⟨.value (.func 80), #[(.tmp 3)], #[3]⟩, 3, none⟩,
 ⟨some 5, .move (.tmp 0), 3, none⟩,
 ⟨some 6, .binOp .add 3 (.tmp 4) (.tmp 5) 3, 3, none⟩,
 ⟨some 2, .assign (.tmp 6), 3, none⟩] [2]) (sg c66S0)))
set_option maxRecDepth 100000 in
theorem ent66 (a0 : Value) (w : World) (K : Value → World → Prop) (h : W Tryz.prog c66 [(0, a0)] w (finQ Tryz.prog [.tmp 2] K)) : Ret Tryz.prog 66 [a0] w K :=
  Ret_of_W (code := c66code) Tryz.func66 (by kernel_rfl) (by kernel_rfl) (of_decide_eq_true (by kernel_rfl)) h
@[go_sem] theorem go66 : goFunc Tryz.prog 66 = true := by kernel_rfl
noncomputable def c67code : Code := match Tryz.f67.body with | some c => c | none => .skip
noncomputable def c67S0 (_ : Unit) : Cmd := (.seq (.ops [
 ⟨some 35, .move (.tmp 9), 30, none⟩,
 ⟨some 36, .binOp .neq 30 (.tmp 35) (.const (.int .i64 0)) 30, 4, none⟩] [0, 1, 5, 9, 20, 21, 22, 36])
 (.cond (.tmp 36)
  (.seq (.ops [
  ⟨some 37, .move (.tmp 9), 30, none⟩,
  ⟨some 4, .assign (.tmp 37), 30, none⟩] [4])
  .ret)
  (.skip [0, 1, 5, 20, 21, 22])))
noncomputable def c67S1 (_ : Unit) : Cmd := (.ops [
 ⟨some 38, .binOp .add 3 (.tmp 22) (.const (.int .i64 1)) 3, 3, none⟩,
 ⟨some 22, .move (.tmp 38), 3, none⟩] [0, 1, 5, 20, 21, 22])
noncomputable def c67S2 (_ : Unit) : Cmd := (.seq (.block 1 (.seq (.ops [
 ⟨some 24, .move (.tmp 22), 3, none⟩,
 ⟨some 25, .indexAddr 49 (.tmp 20) (.tmp 22), 0, none⟩,
 ⟨some 26, .load 9 (.tmp 25), 9, none⟩,
 ⟨some 7, .assign (.tmp 24), 3, none⟩,
 ⟨some 8, .assign (.tmp 26), 9, none⟩] [0, 1, 5, 7, 8, 20, 21, 22])
 (.seq (.ops [
 ⟨some 27, .move (.tmp 0), 25, none⟩,
 ⟨some 28, .nilCheck (.tmp 27), 0, none⟩,
 ⟨some 29, .fieldAddr 101 (.tmp 28) 0, 0, none⟩,
 ⟨some 30, .load 46 (.tmp 29), 46, none⟩,
 ⟨some 31, .move (.tmp 7), 3, none⟩,
 ⟨some 32, .binOp .add 3 (.const (.int .i64 2)) (.tmp 31) 3, 3, none⟩,
 ⟨some 33, .move (.tmp 8), 9, none⟩,
 ⟨some 34, .call ⟨.value (.func 70), #[(.tmp 30), (.tmp 32), (.tmp 33)], #[46, 3, 9]⟩, 30, none⟩,
 ⟨some 9, .assign (.tmp 34), 30, none⟩] [0, 1, 5, 9, 20, 21, 22]) (sg c67S0)))) (sg c67S1))
noncomputable def c67L0 (_ : Unit) : Cmd := (.seq (.ops [
 ⟨some 23, .binOp .lss 3 (.tmp 22) (.tmp 21) 3, 0, none⟩] [0, 1, 5, 20, 21, 22, 23])
 (.seq (.cond (.tmp 23)
  (.skip [0, 1, 5, 20, 21, 22])
  (.exit 0 [0, 1, 5])) (sg c67S2)))
noncomputable def c67S3 (_ : Unit) : Cmd := (.seq (.ops [
 ⟨some 44, .move (.tmp 10), 30, none⟩,
 ⟨some 45, .binOp .neq 30 (.tmp 44) (.const (.int .i64 0)) 30, 4, none⟩] [0, 1, 5, 10, 45])
 (.cond (.tmp 45)
  (.seq (.ops [
  ⟨some 46, .move (.tmp 10), 30, none⟩,
  ⟨some 4, .assign (.tmp 46), 30, none⟩] [4])
  .ret)
  (.skip [0, 1, 5])))
noncomputable def c67S4 (_ : Unit) : Cmd := (.seq (.ops [
 ⟨some 51, .move (.tmp 11), 30, none⟩,
 ⟨some 52, .binOp .neq 30 (.tmp 51) (.const (.int .i64 0)) 30, 4, none⟩] [0, 1, 11, 52])
 (.cond (.tmp 52)
  (.seq (.ops [
  ⟨some 53, .move (.tmp 11), 30, none⟩,
  ⟨some 4, .assign (.tmp 53), 30, none⟩] [4])
  .ret)
  (.skip [0, 1])))
noncomputable def c67S5 (_ : Unit) : Cmd := .ret
noncomputable def c67S6 (_ : Unit) : Cmd := (.seq (.ops [
 ⟨some 54, .move (.tmp 0), 25, none⟩,
 ⟨some 55, .move (.tmp 1), 102, none⟩,
 ⟨some 56, .call ⟨.value (.func 55), #[(.tmp 54), (.tmp 55)], #[25, 102]⟩, 30, none⟩,
 ⟨some 4, .assign (.tmp 56), 30, none⟩] [4]) (sg c67S5))
noncomputable def c67S7 (_ : Unit) : Cmd := (.seq (.seq (.ops [
 ⟨some 47, .move (.tmp 0), 25, none⟩,
 ⟨some 48, .move (.tmp 5), 49, none⟩,
 ⟨some 49, .call ⟨.builtin .len, #[(.tmp 48)], #[49]⟩, 3, none⟩,
 ⟨some 50, .call ⟨.value (.func 82), #[(.tmp 47), (.tmp 49)], #[25, 3]⟩, 30, none⟩,
 ⟨some 11, .assign (.tmp 50), 30, none⟩] [0, 1, 11]) (sg c67S4)) (sg c67S6))
noncomputable def c67S8 (_ : Unit) : Cmd := (.seq (.seq (.ops [
 ⟨some 39, .move (.tmp 0), 25, none⟩,
 ⟨some 40, .nilCheck (.tmp 39), 0, none⟩,
 ⟨some 41, .fieldAddr 101 (.tmp 40) 0, 0, none⟩,
 ⟨some 42, .load 46 (.tmp 41), 46, none⟩,
 ⟨some 43, .call ⟨.value (.func 81), #[(.tmp 42)], #[46]⟩, 30, none⟩,
 ⟨some 10, .assign (.tmp 43), 30, none⟩] [0, 1, 5, 10]) (sg c67S3)) (sg c67S7))
noncomputable def c67S9 (_ : Unit) : Cmd := (.seq (.seq (.ops [
 ⟨some 20, .move (.tmp 5), 49, none⟩,
 ⟨some 21, .call ⟨.builtin .len, #[(.tmp 20)], #[49]⟩, 3, none⟩,
 ⟨some 22, .move (.const (.int .i64 0)), 3, none⟩] [0, 1, 5, 20, 21, 22])
 (.block 0 (.loop (sg c67L0)))) (sg c67S8))
noncomputable def c67S10 (_ : Unit) : Cmd := (.seq (.seq (.ops [
 ⟨some 17, .move (.tmp 6), 30, none⟩,
 ⟨some 18, .binOp .neq 30 (.tmp 17) (.const (.int .i64 0)) 30, 4, none⟩] [0, 1, 5, 6, 18])
 (.cond (.tmp 18)
  (.seq (.ops [
  ⟨some 19, .move (.tmp 6), 30, none⟩,
  ⟨some 4, .assign (.tmp 19), 30, none⟩] [4])
  .ret)
  (.skip [0, 1, 5]))) (sg c67S9))
noncomputable def c67 : Cmd := (.seq (.ops [
 ⟨some 4, .assign (.const (.int .i64 0)), 30, none⟩] [0, 1])
 (.seq (.ops [
 ⟨some 13, .move (.tmp 1), 102, none⟩,
 ⟨some 14, .call ⟨.value (.func 92), #[(.tmp 13)], #[102]⟩, 139, none⟩,
 ⟨some 12, .move (.tmp 14), 139, none⟩,
 ⟨some 15, .extract (.tmp 12) 0, 49, none⟩,
 ⟨some 16, .extract (.tmp 12) 1, 30, none⟩,
 ⟨some 5, .assign (.tmp 15), 49, none⟩,
 ⟨some 6, .assign (.tmp 16), 30, none⟩] [0, 1, 5, 6]) (sg c67S10)))
set_option maxRecDepth 100000 in
theorem ent67 (a0 a1 : Value) (w : World) (K : Value → World → Prop) (h : W Tryz.prog c67 [(0, a0), (1, a1)] w (finQ Tryz.prog [.tmp 4] K)) : Ret Tryz.prog 67 [a0, a1] w K :=
  Ret_of_W (code := c67code) Tryz.func67 (by kernel_rfl) (by kernel_rfl) (of_decide_eq_true (by kernel_rfl)) h
@[go_sem] theorem go67 : goFunc Tryz.prog 67 = true := by kernel_rfl
@[go_sem] theorem go54 : goFunc Tryz.prog 54 = true := by kernel_rfl
noncomputable def c55code : Code := match Tryz.f55.body with | some c => c | none => .skip
noncomputable def c55S0 (_ : Unit) : Cmd := (.cond (.tmp 22)
  (.seq (.ops [
  ⟨some 4, .assign (.const (.int .i64 14)), 30, none⟩] [4])
  .ret)
  (.skip [0, 6, 9, 10, 11]))
noncomputable def c55S1 (_ : Unit) : Cmd := (.seq (.ops [
 ⟨some 39, .move (.tmp 7), 30, none⟩,
 ⟨some 40, .binOp .neq 30 (.tmp 39) (.const (.int .i64 0)) 30, 4, none⟩] [0, 7, 9, 10, 11, 40])
 (.cond (.tmp 40)
  (.seq (.ops [
  ⟨some 41, .move (.tmp 7), 30, none⟩,
  ⟨some 4, .assign (.tmp 41), 30, none⟩] [4])
  .ret)
  (.skip [0, 9, 10, 11])))
noncomputable def c55S2 (_ : Unit) : Cmd := (.seq (.draw (drawOps 1 c55code) [0, 7, 9, 10, 11]) (sg c55S1))
noncomputable def c55S3 (_ : Unit) : Cmd := (.ops [
 ⟨some 42, .binOp .add 3 (.tmp 11) (.const (.int .i64 1)) 3, 3, none⟩,
 ⟨some 11, .move (.tmp 42), 3, none⟩] [0, 9, 10, 11])
noncomputable def c55S4 (_ : Unit) : Cmd := (.seq (.block 1 (.seq (.ops [
 ⟨some 13, .indexAddr 102 (.tmp 9) (.tmp 11), 0, none⟩,
 ⟨some 14, .load 116 (.tmp 13), 116, none⟩,
 ⟨some 6, .alloc 116, 0, none⟩,
 ⟨none, .store 116 (.tmp 6) (.tmp 14), 0, none⟩] [0, 6, 9, 10, 11])
 (.seq (.seq (.draw (drawOps 0 c55code) [0, 6, 9, 10, 11, 22]) (sg c55S0)) (sg c55S2)))) (sg c55S3))
noncomputable def c55L0 (_ : Unit) : Cmd := (.seq (.ops [
 ⟨some 12, .binOp .lss 3 (.tmp 11) (.tmp 10) 3, 0, none⟩] [0, 9, 10, 11, 12])
 (.seq (.cond (.tmp 12)
  (.skip [0, 9, 10, 11])
  (.exit 0 [0])) (sg c55S4)))
noncomputable def c55S5 (_ : Unit) : Cmd := (.seq (.ops [
 ⟨some 48, .move (.tmp 8), 30, none⟩,
 ⟨some 49, .binOp .neq 30 (.tmp 48) (.const (.int .i64 0)) 30, 4, none⟩] [0, 8, 49])
 (.cond (.tmp 49)
  (.seq (.ops [
  ⟨some 50, .move (.tmp 8), 30, none⟩,
  ⟨some 4, .assign (.tmp 50), 30, none⟩] [4])
  .ret)
  (.skip [0])))
noncomputable def c55S6 (_ : Unit) : Cmd := .ret
noncomputable def c55S7 (_ : Unit) : Cmd := (.seq (.ops [
 ⟨some 51, .move (.tmp 0), 25, none⟩,
 ⟨some 52, .call ⟨.value (.func 82), #[(.tmp 51), (.const (.int .i64 0))], #[25, 3]⟩, 30, none⟩,
 ⟨some 4, .assign (.tmp 52), 30, none⟩] [4]) (sg c55S6))
noncomputable def c55S8 (_ : Unit) : Cmd := (.seq (.seq (.ops [
 ⟨some 43, .move (.tmp 0), 25, none⟩,
 ⟨some 44, .nilCheck (.tmp 43), 0, none⟩,
 ⟨some 45, .fieldAddr 101 (.tmp 44) 0, 0, none⟩,
 ⟨some 46, .load 46 (.tmp 45), 46, none⟩,
 ⟨some 47, .call ⟨.value (.func 81), #[(.tmp 46)], #[46]⟩, 30, none⟩,
 ⟨some 8, .assign (.tmp 47), 30, none⟩] [0, 8]) (sg c55S5)) (sg c55S7))
noncomputable def c55 : Cmd := (.seq (.ops [
 ⟨some 4, .assign (.const (.int .i64 0)), 30, none⟩] [0, 1])
 (.seq (.seq (.ops [
 ⟨some 9, .move (.tmp 1), 102, none⟩,
 ⟨some 10, .call ⟨.builtin .len, #[(.tmp 9)], #[102]⟩, 3, none⟩,
 ⟨some 11, .move (.const (.int .i64 0)), 3, none⟩] [0, 9, 10, 11])
 (.block 0 (.loop (sg c55L0)))) (sg c55S8)))
noncomputable def c55D0 : List (Bool × Ins) := [
 (true, ⟨some 15, .fieldAddr 116 (.tmp 6) 0, 0, none⟩),
 (false, ⟨some 16, .load 3 (.tmp 15), 3, none⟩),
 (true, ⟨some 17, .move (.tmp 0), 25, none⟩),
 (true, ⟨some 18, .nilCheck (.tmp 17), 0, none⟩),
 (true, ⟨some 19, .fieldAddr 101 (.tmp 18) 1, 0, none⟩),
 (true, ⟨some 20, .fieldAddr 96 (.tmp 19) 3, 0, none⟩),
 (false, ⟨some 21, .load 3 (.tmp 20), 3, none⟩),
 (true, ⟨some 22, .binOp .geq 3 (.tmp 16) (.tmp 21) 3, 4, none⟩)]
theorem c55draw0 {L : List Nat} {ρ : Env} {w : World} {Q : Post} (h : DL Tryz.prog c55D0 L ρ w.drew Q) : drawW Tryz.prog (drawOps 0 c55code) L ρ w Q :=
  drawW_still [true, false, true, true, true, true, false, true] c55D0 (by kernel_rfl) (by kernel_rfl) (by kernel_rfl) h
noncomputable def c55D1 : List (Nat × Ins) := [
 (0, ⟨some 23, .move (.tmp 0), 25, none⟩),
 (0, ⟨some 24, .nilCheck (.tmp 23), 0, none⟩),
 (0, ⟨some 25, .fieldAddr 101 (.tmp 24) 0, 0, none⟩),
 (0, ⟨some 27, .move (.tmp 0), 25, none⟩),
 (0, ⟨some 28, .nilCheck (.tmp 27), 0, none⟩),
 (0, ⟨some 29, .fieldAddr 101 (.tmp 28) 1, 0, none⟩),
 (0, ⟨some 30, .fieldAddr 96 (.tmp 29) 2, 0, none⟩),
 (0, ⟨some 33, .fieldAddr 116 (.tmp 6) 0, 0, none⟩),
 (0, ⟨some 36, .fieldAddr 116 (.tmp 6) 1, 0, none⟩),
 (1, ⟨some 26, .load 46 (.tmp 25), 46, none⟩),
 (1, ⟨some 31, .load 3 (.tmp 30), 3, none⟩),
 (0, ⟨some 32, .binOp .add 3 (.const (.int .i64 2)) (.tmp 31) 3, 3, none⟩),
 (1, ⟨some 34, .load 3 (.tmp 33), 3, none⟩),
 (0, ⟨some 35, .binOp .add 3 (.tmp 32) (.tmp 34) 3, 3, none⟩),
 (2, ⟨some 37, .load 9 (.tmp 36), 9, none⟩),
 (2, ⟨some 38, .call ⟨.value (.func 70), #[(.tmp 26), (.tmp 35), (.tmp 37)], #[46, 3, 9]⟩, 30, none⟩),
 (0, ⟨some 7, .assign (.tmp 38), 30, none⟩)]
theorem c55draw1 {L : List Nat} {ρ : Env} {w : World} {Q : Post} (S : World → Prop) (hS : S w.drew) (h : DG Tryz.prog S c55D1 L ρ w.drew Q) : drawW Tryz.prog (drawOps 1 c55code) L ρ w Q :=
  drawW_held [3, 8, 11] [(0, 0), (0, 1), (0, 2), (0, 4), (0, 5), (0, 6), (0, 7), (0, 10), (0, 13), (1, 3), (1, 8), (0, 9), (1, 11), (0, 12), (2, 14), (2, 15), (0, 16)] c55D1 (by kernel_rfl) (by kernel_rfl) (by kernel_rfl) S hS h
set_option maxRecDepth 100000 in
theorem ent55 (a0 a1 : Value) (w : World) (K : Value → World → Prop) (h : W Tryz.prog c55 [(0, a0), (1, a1)] w (finQ Tryz.prog [.tmp 4] K)) : Ret Tryz.prog 55 [a0, a1] w K :=
  Ret_of_W (code := c55code) Tryz.func55 (by kernel_rfl) (by kernel_rfl) (of_decide_eq_true (by kernel_rfl)) h
@[go_sem] theorem go55 : goFunc Tryz.prog 55 = true := by kernel_rfl
noncomputable def c80code : Code := match Tryz.f80.body with | some c => c | none => .skip
noncomputable def c80 : Cmd := (.seq (.ops [
 ⟨some 2, .assign (.const (.int .i64 0)), 3, none⟩] [0])
 (.seq (.ops [
 ⟨some 3, .move (.tmp 0), 3, none⟩,
 ⟨some 4, .binOp .mul 3 (.const (.int .i64 4)) (.tmp 3) 3, 3, none⟩,
 ⟨some 5, .binOp .add 3 (.tmp 4) (.const (.int .i64 4)) 3, 3, none⟩,
 ⟨some 6, .binOp .add 3 (.tmp 5) (.const (.int .i64 256)) 3, 3, none⟩,
 ⟨some 7, .binOp .sub 3 (.tmp 6) (.const (.int .i64 1)) 3, 3, none⟩,
 ⟨some 8, .binOp .quo 3 (.tmp 7) (.const (.int .i64 256)) 3, 3, none⟩,
 ⟨some 2, .assign (.tmp 8), 3, none⟩] [2])
 .ret))
set_option maxRecDepth 100000 in
theorem ent80 (a0 : Value) (w : World) (K : Value → World → Prop) (h : W Tryz.prog c80 [(0, a0)] w (finQ Tryz.prog [.tmp 2] K)) : Ret Tryz.prog 80 [a0] w K :=
  Ret_of_W (code := c80code) Tryz.func80 (by kernel_rfl) (by kernel_rfl) (of_decide_eq_true (by kernel_rfl)) h
@[go_sem] theorem go80 : goFunc Tryz.prog 80 = true := by kernel_rfl
noncomputable def c92code : Code := match Tryz.f92.body with | some c => c | none => .skip
noncomputable def c92S0 (_ : Unit) : Cmd := (.ops [
 ⟨some 40, .fieldAddr 116 (.tmp 6) 0, 0, none⟩,
 ⟨some 41, .load 3 (.tmp 40), 3, none⟩,
 ⟨some 42, .convert 3 58 (.tmp 41), 58, none⟩,
 ⟨some 43, .call ⟨.value (.func 36), #[(.tmp 42), (.const (.int .i64 4))], #[58, 3]⟩, 9, none⟩,
 ⟨some 44, .call ⟨.value (.func 100), #[(.tmp 4), (.tmp 43)], #[145, 9]⟩, 148, none⟩] [0, 4, 20, 21, 22])
noncomputable def c92S1 (_ : Unit) : Cmd := (.ops [
 ⟨some 45, .binOp .add 3 (.tmp 22) (.const (.int .i64 1)) 3, 3, none⟩,
 ⟨some 22, .move (.tmp 45), 3, none⟩] [0, 4, 20, 21, 22])
noncomputable def c92S2 (_ : Unit) : Cmd := (.seq (.block 1 (.seq (.ops [
 ⟨some 24, .indexAddr 102 (.tmp 20) (.tmp 22), 0, none⟩,
 ⟨some 25, .load 116 (.tmp 24), 116, none⟩,
 ⟨some 6, .alloc 116, 0, none⟩,
 ⟨none, .store 116 (.tmp 6) (.tmp 25), 0, none⟩] [0, 4, 6, 20, 21, 22])
 (.seq (.block 2 (.seq (.ops [
 ⟨some 27, .fieldAddr 116 (.tmp 6) 0, 0, none⟩,
 ⟨some 28, .load 3 (.tmp 27), 3, none⟩,
 ⟨some 29, .binOp .lss 3 (.tmp 28) (.const (.int .i64 0)) 3, 4, none⟩,
 ⟨some 30, .move (.tmp 29), 4, none⟩,
 ⟨some 31, .fieldAddr 116 (.tmp 6) 0, 0, (some (30, false))⟩,
 ⟨some 32, .load 3 (.tmp 31), 3, (some (30, false))⟩,
 ⟨some 33, .binOp .geq 3 (.tmp 32) (.const (.int .i64 2048)) 3, 4, (some (30, false))⟩,
 ⟨some 34, .pick (.tmp 30) (.const (.bool true)) (.tmp 33), 4, none⟩,
 ⟨some 26, .assign (.tmp 34), 4, none⟩] [0, 4, 6, 20, 21, 22, 26])
 (.cond (.tmp 26)
  (.seq (.ops [
  ⟨some 2, .assign (.const (.slice none 0 0)), 49, none⟩,
  ⟨some 3, .assign (.const (.int .i64 10)), 30, none⟩] [2, 3])
  .ret)
  (.seq (.ops [
  ⟨some 36, .fieldAddr 116 (.tmp 6) 1, 0, none⟩,
  ⟨some 37, .load 9 (.tmp 36), 9, none⟩,
  ⟨some 38, .call ⟨.builtin .len, #[(.tmp 37)], #[9]⟩, 3, none⟩,
  ⟨some 39, .binOp .gtr 3 (.tmp 38) (.const (.int .i64 256)) 3, 4, none⟩,
  ⟨some 35, .assign (.tmp 39), 4, none⟩] [0, 4, 6, 20, 21, 22, 35])
  (.cond (.tmp 35)
   (.seq (.ops [
   ⟨some 2, .assign (.const (.slice none 0 0)), 49, none⟩,
   ⟨some 3, .assign (.const (.int .i64 21)), 30, none⟩] [2, 3])
   .ret)
   (.skip [0, 4, 6, 20, 21, 22])))))) (sg c92S0)))) (sg c92S1))
noncomputable def c92L0 (_ : Unit) : Cmd := (.seq (.ops [
 ⟨some 23, .binOp .lss 3 (.tmp 22) (.tmp 21) 3, 0, none⟩] [0, 4, 20, 21, 22, 23])
 (.seq (.cond (.tmp 23)
  (.skip [0, 4, 20, 21, 22])
  (.exit 0 [0, 4])) (sg c92S2)))
noncomputable def c92S3 (_ : Unit) : Cmd := (.ops [
 ⟨some 62, .move (.tmp 7), 9, none⟩,
 ⟨some 63, .move (.tmp 9), 3, none⟩,
 ⟨some 64, .slice 9 (.tmp 62) (some (.tmp 63)) none none, 9, none⟩,
 ⟨some 7, .assign (.tmp 64), 9, none⟩] [0, 7, 8, 49, 50])
noncomputable def c92S4 (_ : Unit) : Cmd := (.seq (.ops [
 ⟨some 55, .move (.tmp 8), 49, none⟩,
 ⟨some 56, .move (.tmp 7), 9, none⟩,
 ⟨some 57, .move (.tmp 9), 3, none⟩,
 ⟨some 58, .slice 9 (.tmp 56) none (some (.tmp 57)) none, 9, none⟩,
 ⟨some 59, .call ⟨.value (.func 116), #[(.tmp 58)], #[9]⟩, 9, none⟩,
 ⟨some 60, .buildSlice 49 1 #[(0, (.tmp 59))], 49, none⟩,
 ⟨some 61, .call ⟨.builtin .append, #[(.tmp 55), (.tmp 60)], #[49, 49]⟩, 49, none⟩,
 ⟨some 8, .assign (.tmp 61), 49, none⟩] [0, 7, 8, 9, 49, 50]) (sg c92S3))
noncomputable def c92S5 (_ : Unit) : Cmd := (.ops [
 ⟨some 65, .binOp .add 3 (.tmp 50) (.const (.int .i64 1)) 3, 3, none⟩,
 ⟨some 50, .move (.tmp 65), 3, none⟩] [0, 7, 8, 49, 50])
noncomputable def c92S6 (_ : Unit) : Cmd := (.seq (.block 4 (.seq (.ops [
 ⟨some 52, .move (.tmp 7), 9, none⟩,
 ⟨some 53, .call ⟨.builtin .len, #[(.tmp 52)], #[9]⟩, 3, none⟩,
 ⟨some 54, .call ⟨.builtin .min, #[(.tmp 53), (.const (.int .i64 256))], #[3, 3]⟩, 3, none⟩,
 ⟨some 9, .assign (.tmp 54), 3, none⟩] [0, 7, 8, 9, 49, 50]) (sg c92S4))) (sg c92S5))
noncomputable def c92L1 (_ : Unit) : Cmd := (.seq (.ops [
 ⟨some 51, .binOp .lss 3 (.tmp 50) (.tmp 49) 3, 4, none⟩] [0, 7, 8, 49, 50, 51])
 (.seq (.cond (.tmp 51)
  (.skip [0, 7, 8, 49, 50])
  (.exit 3 [0, 8])) (sg c92S6)))
noncomputable def c92S7 (_ : Unit) : Cmd := (.block 3 (.loop (sg c92L1)))
noncomputable def c92S8 (_ : Unit) : Cmd := (.ops [
 ⟨some 78, .binOp .add 3 (.tmp 68) (.const (.int .i64 1)) 3, 3, none⟩,
 ⟨some 68, .move (.tmp 78), 3, none⟩] [8, 66, 67, 68])
noncomputable def c92S9 (_ : Unit) : Cmd := (.seq (.block 6 (.seq (.ops [
 ⟨some 70, .indexAddr 102 (.tmp 66) (.tmp 68), 0, none⟩,
 ⟨some 71, .load 116 (.tmp 70), 116, none⟩,
 ⟨some 11, .alloc 116, 0, none⟩,
 ⟨none, .store 116 (.tmp 11) (.tmp 71), 0, none⟩] [8, 11, 66, 67, 68])
 (.ops [
 ⟨some 72, .move (.tmp 8), 49, none⟩,
 ⟨some 73, .fieldAddr 116 (.tmp 11) 1, 0, none⟩,
 ⟨some 74, .load 9 (.tmp 73), 9, none⟩,
 ⟨some 75, .call ⟨.value (.func 116), #[(.tmp 74)], #[9]⟩, 9, none⟩,
 ⟨some 76, .buildSlice 49 1 #[(0, (.tmp 75))], 49, none⟩,
 ⟨some 77, .call ⟨.builtin .append, #[(.tmp 72), (.tmp 76)], #[49, 49]⟩, 49, none⟩,
 ⟨some 8, .assign (.tmp 77), 49, none⟩] [8, 66, 67, 68]))) (sg c92S8))
noncomputable def c92L2 (_ : Unit) : Cmd := (.seq (.ops [
 ⟨some 69, .binOp .lss 3 (.tmp 68) (.tmp 67) 3, 0, none⟩] [8, 66, 67, 68, 69])
 (.seq (.cond (.tmp 69)
  (.skip [8, 66, 67, 68])
  (.exit 5 [8])) (sg c92S9)))
noncomputable def c92S10 (_ : Unit) : Cmd := (.seq (.ops [
 ⟨some 79, .move (.tmp 8), 49, none⟩,
 ⟨some 2, .assign (.tmp 79), 49, none⟩,
 ⟨some 3, .assign (.const (.int .i64 0)), 30, none⟩] [2, 3])
 .ret)
noncomputable def c92S11 (_ : Unit) : Cmd := (.seq (.seq (.ops [
 ⟨some 66, .move (.tmp 0), 102, none⟩,
 ⟨some 67, .call ⟨.builtin .len, #[(.tmp 66)], #[102]⟩, 3, none⟩,
 ⟨some 68, .move (.const (.int .i64 0)), 3, none⟩] [8, 66, 67, 68])
 (.block 5 (.loop (sg c92L2)))) (sg c92S10))
noncomputable def c92S12 (_ : Unit) : Cmd := (.seq (.ops [
 ⟨some 8, .assign (.const (.slice none 0 0)), 49, none⟩] [0, 7, 8])
 (.seq (.seq (.ops [
 ⟨some 47, .move (.tmp 0), 102, none⟩,
 ⟨some 48, .call ⟨.builtin .len, #[(.tmp 47)], #[102]⟩, 3, none⟩,
 ⟨some 49, .call ⟨.value (.func 80), #[(.tmp 48)], #[3]⟩, 3, none⟩,
 ⟨some 50, .move (.const (.int .i64 0)), 3, none⟩] [0, 7, 8, 49, 50]) (sg c92S7)) (sg c92S11)))
noncomputable def c92S13 (_ : Unit) : Cmd := (.seq (.ops [
 ⟨some 46, .call ⟨.value (.func 101), #[(.tmp 4)], #[145]⟩, 9, none⟩,
 ⟨some 7, .assign (.tmp 46), 9, none⟩] [0, 7]) (sg c92S12))
noncomputable def c92S14 (_ : Unit) : Cmd := (.seq (.seq (.ops [
 ⟨some 20, .move (.tmp 0), 102, none⟩,
 ⟨some 21, .call ⟨.builtin .len, #[(.tmp 20)], #[102]⟩, 3, none⟩,
 ⟨some 22, .move (.const (.int .i64 0)), 3, none⟩] [0, 4, 20, 21, 22])
 (.block 0 (.loop (sg c92L0)))) (sg c92S13))
noncomputable def c92S15 (_ : Unit) : Cmd := (.seq (.ops [
 ⟨some 4, .alloc 145, 0, none⟩] [0, 4])
 (.seq (.ops [
 ⟨some 15, .move (.tmp 0), 102, none⟩,
 ⟨some 16, .call ⟨.builtin .len, #[(.tmp 15)], #[102]⟩, 3, none⟩,
 ⟨some 17, .convert 3 58 (.tmp 16), 58, none⟩,
 ⟨some 18, .call ⟨.value (.func 36), #[(.tmp 17), (.const (.int .i64 4))], #[58, 3]⟩, 9, none⟩,
 ⟨some 19, .call ⟨.value (.func 100), #[(.tmp 4), (.tmp 18)], #[145, 9]⟩, 148, none⟩] [0, 4]) (sg c92S14)))
noncomputable def c92 : Cmd := (.seq (.ops [
 ⟨some 2, .assign (.const (.slice none 0 0)), 49, none⟩,
 ⟨some 3, .assign (.const (.int .i64 0)), 30, none⟩] [0])
 (.seq (.seq (.ops [
 ⟨some 12, .move (.tmp 0), 102, none⟩,
 ⟨some 13, .call ⟨.builtin .len, #[(.tmp 12)], #[102]⟩, 3, none⟩,
 ⟨some 14, .binOp .gtr 3 (.tmp 13) (.const (.int .i64 1024)) 3, 4, none⟩] [0, 14])
 (.cond (.tmp 14)
  (.seq (.ops [
  ⟨some 2, .assign (.const (.slice none 0 0)), 49, none⟩,
  ⟨some 3, .assign (.const (.int .i64 2)), 30, none⟩] [2, 3])
  .ret)
  (.skip [0]))) (sg c92S15)))
set_option maxRecDepth 100000 in
theorem ent92 (a0 : Value) (w : World) (K : Value → World → Prop) (h : W Tryz.prog c92 [(0, a0)] w (finQ Tryz.prog [.tmp 2, .tmp 3] K)) : Ret Tryz.prog 92 [a0] w K :=
  Ret_of_W (code := c92code) Tryz.func92 (by kernel_rfl) (by kernel_rfl) (of_decide_eq_true (by kernel_rfl)) h
@[go_sem] theorem go92 : goFunc Tryz.prog 92 = true := by kernel_rfl
noncomputable def c116code : Code := match Tryz.f116.body with | some c => c | none => .skip
noncomputable def c116 : Cmd := (.seq (.ops [
 ⟨some 2, .assign (.const (.string (ofL []))), 9, none⟩] [0])
 (.seq (.ops [
 ⟨some 3, .move (.tmp 0), 9, none⟩,
 ⟨some 4, .move (.tmp 0), 9, none⟩,
 ⟨some 5, .call ⟨.builtin .len, #[(.tmp 4)], #[9]⟩, 3, none⟩,
 ⟨some 6, .binOp .sub 3 (.const (.int .i64 256)) (.tmp 5) 3, 3, none⟩,
 ⟨some 7, .makeSlice 106 (.tmp 6) (.tmp 6), 106, none⟩,
 ⟨some 8, .convert 106 9 (.tmp 7), 9, none⟩,
 ⟨some 9, .binOp .add 9 (.tmp 3) (.tmp 8) 9, 9, none⟩,
 ⟨some 2, .assign (.tmp 9), 9, none⟩] [2])
 .ret))
set_option maxRecDepth 100000 in
theorem ent116 (a0 : Value) (w : World) (K : Value → World → Prop) (h : W Tryz.prog c116 [(0, a0)] w (finQ Tryz.prog [.tmp 2] K)) : Ret Tryz.prog 116 [a0] w K :=
  Ret_of_W (code := c116code) Tryz.func116 (by kernel_rfl) (by kernel_rfl) (of_decide_eq_true (by kernel_rfl)) h
@[go_sem] theorem go116 : goFunc Tryz.prog 116 = true := by kernel_rfl
@[go_sem] theorem go79 : goFunc Tryz.prog 79 = true := by kernel_rfl
noncomputable def c100code : Code := match Tryz.f100.body with | some c => c | none => .skip
noncomputable def c100S0 (_ : Unit) : Cmd := (.seq (.ops [
 ⟨some 17, .move (.tmp 1), 9, none⟩,
 ⟨some 18, .call ⟨.builtin .len, #[(.tmp 17)], #[9]⟩, 3, none⟩,
 ⟨some 4, .assign (.tmp 18), 3, none⟩,
 ⟨some 5, .assign (.const .nilIface), 147, none⟩] [4, 5])
 .ret)
noncomputable def c100S1 (_ : Unit) : Cmd := (.seq (.ops [
 ⟨some 8, .move (.tmp 0), 143, none⟩,
 ⟨some 9, .move (.tmp 0), 143, none⟩,
 ⟨some 10, .nilCheck (.tmp 9), 0, none⟩,
 ⟨some 11, .fieldAddr 145 (.tmp 10) 1, 0, none⟩,
 ⟨some 12, .load 106 (.tmp 11), 106, none⟩,
 ⟨some 13, .move (.tmp 1), 9, none⟩,
 ⟨some 14, .call ⟨.builtin .append, #[(.tmp 12), (.tmp 13)], #[106, 9]⟩, 106, none⟩,
 ⟨some 15, .nilCheck (.tmp 8), 0, none⟩,
 ⟨some 16, .fieldAddr 145 (.tmp 15) 1, 0, none⟩,
 ⟨none, .store 106 (.tmp 16) (.tmp 14), 0, none⟩] [1]) (sg c100S0))
noncomputable def c100 : Cmd := (.seq (.ops [
 ⟨some 4, .assign (.const (.int .i64 0)), 3, none⟩,
 ⟨some 5, .assign (.const .nilIface), 147, none⟩] [0, 1])
 (.seq (.ops [
 ⟨some 6, .move (.tmp 0), 143, none⟩,
 ⟨some 7, .call ⟨.value (.func 117), #[(.tmp 6)], #[143]⟩, 0, none⟩] [0, 1]) (sg c100S1)))
set_option maxRecDepth 100000 in
theorem ent100 (a0 a1 : Value) (w : World) (K : Value → World → Prop) (h : W Tryz.prog c100 [(0, a0), (1, a1)] w (finQ Tryz.prog [.tmp 4, .tmp 5] K)) : Ret Tryz.prog 100 [a0, a1] w K :=
  Ret_of_W (code := c100code) Tryz.func100 (by kernel_rfl) (by kernel_rfl) (of_decide_eq_true (by kernel_rfl)) h
@[go_sem] theorem go100 : goFunc Tryz.prog 100 = true := by kernel_rfl
noncomputable def c101code : Code := match Tryz.f101.body with | some c => c | none => .skip
noncomputable def c101S0 (_ : Unit) : Cmd := .ret
noncomputable def c101 : Cmd := (.seq (.ops [
 ⟨some 2, .assign (.const (.string (ofL []))), 9, none⟩] [0])
 (.seq (.draw (drawOps 0 c101code) [2]) (sg c101S0)))
noncomputable def c101D0 : List (Nat × Ins) := [
 (0, ⟨some 3, .move (.tmp 0), 143, none⟩),
 (0, ⟨some 4, .nilCheck (.tmp 3), 0, none⟩),
 (0, ⟨some 5, .fieldAddr 145 (.tmp 4) 1, 0, none⟩),
 (0, ⟨some 8, .move (.tmp 0), 143, none⟩),
 (0, ⟨some 9, .nilCheck (.tmp 8), 0, none⟩),
 (0, ⟨some 10, .fieldAddr 145 (.tmp 9) 1, 0, none⟩),
 (1, ⟨some 6, .load 106 (.tmp 5), 106, none⟩),
 (1, ⟨some 11, .load 106 (.tmp 10), 106, none⟩),
 (0, ⟨some 12, .call ⟨.builtin .len, #[(.tmp 11)], #[106]⟩, 3, none⟩),
 (2, ⟨some 7, .call ⟨.builtin .unsafeSliceData, #[(.tmp 6)], #[106]⟩, 164, none⟩),
 (2, ⟨some 13, .call ⟨.builtin .unsafeString, #[(.tmp 7), (.tmp 12)], #[164, 3]⟩, 9, none⟩),
 (0, ⟨some 2, .assign (.tmp 13), 9, none⟩)]
theorem c101draw0 {L : List Nat} {ρ : Env} {w : World} {Q : Post} (S : World → Prop) (hS : S w.drew) (h : DG Tryz.prog S c101D0 L ρ w.drew Q) : drawW Tryz.prog (drawOps 0 c101code) L ρ w Q :=
  drawW_held [3, 8] [(0, 0), (0, 1), (0, 2), (0, 5), (0, 6), (0, 7), (1, 3), (1, 8), (0, 9), (2, 4), (2, 10), (0, 11)] c101D0 (by kernel_rfl) (by kernel_rfl) (by kernel_rfl) S hS h
set_option maxRecDepth 100000 in
theorem ent101 (a0 : Value) (w : World) (K : Value → World → Prop) (h : W Tryz.prog c101 [(0, a0)] w (finQ Tryz.prog [.tmp 2] K)) : Ret Tryz.prog 101 [a0] w K :=
  Ret_of_W (code := c101code) Tryz.func101 (by kernel_rfl) (by kernel_rfl) (of_decide_eq_true (by kernel_rfl)) h
@[go_sem] theorem go101 : goFunc Tryz.prog 101 = true := by kernel_rfl
noncomputable def c84code : Code := match Tryz.f84.body with | some c => c | none => .skip
noncomputable def c84S0 (_ : Unit) : Cmd := (.seq (.ops [
 ⟨some 32, .move (.tmp 0), 121, none⟩,
 ⟨some 6, .assign (.tmp 32), 121, none⟩] [6])
 .ret)
noncomputable def c84S1 (_ : Unit) : Cmd := (.seq (.ops [
 ⟨some 27, .move (.tmp 0), 121, none⟩,
 ⟨some 28, .move (.tmp 0), 121, none⟩,
 ⟨some 29, .call ⟨.builtin .len, #[(.tmp 28)], #[121]⟩, 3, none⟩,
 ⟨some 30, .move (.tmp 7), 3, none⟩,
 ⟨some 31, .slice 121 (.tmp 27) (some (.tmp 29)) (some (.tmp 30)) none, 121, none⟩,
 ⟨none, .call ⟨.builtin .clear, #[(.tmp 31)], #[121]⟩, 0, none⟩] [0]) (sg c84S0))
noncomputable def c84S2 (_ : Unit) : Cmd := (.seq (.ops [
 ⟨some 18, .move (.tmp 0), 121, none⟩,
 ⟨some 19, .call ⟨.builtin .len, #[(.tmp 18)], #[121]⟩, 3, none⟩,
 ⟨some 7, .assign (.tmp 19), 3, none⟩] [0, 1, 2, 7])
 (.seq (.draw (drawOps 0 c84code) [0, 7]) (sg c84S1)))
noncomputable def c84 : Cmd := (.seq (.ops [
 ⟨some 6, .assign (.const (.slice none 0 0)), 121, none⟩] [0, 1, 2])
 (.seq (.ops [
 ⟨some 8, .move (.tmp 0), 121, none⟩,
 ⟨some 9, .move (.tmp 1), 3, none⟩,
 ⟨some 10, .move (.tmp 2), 3, none⟩,
 ⟨some 11, .move (.tmp 0), 121, none⟩,
 ⟨some 12, .call ⟨.builtin .len, #[(.tmp 11)], #[121]⟩, 3, none⟩,
 ⟨some 13, .slice 121 (.tmp 8) (some (.tmp 9)) (some (.tmp 10)) (some (.tmp 12)), 121, none⟩] [0, 1, 2])
 (.seq (.seq (.ops [
 ⟨some 14, .move (.tmp 1), 3, none⟩,
 ⟨some 15, .move (.tmp 2), 3, none⟩,
 ⟨some 16, .binOp .eql 3 (.tmp 14) (.tmp 15) 3, 4, none⟩] [0, 1, 2, 16])
 (.cond (.tmp 16)
  (.seq (.ops [
  ⟨some 17, .move (.tmp 0), 121, none⟩,
  ⟨some 6, .assign (.tmp 17), 121, none⟩] [6])
  .ret)
  (.skip [0, 1, 2]))) (sg c84S2))))
noncomputable def c84D0 : List (Bool × Ins) := [
 (true, ⟨some 20, .move (.tmp 0), 121, none⟩),
 (true, ⟨some 21, .move (.tmp 1), 3, none⟩),
 (true, ⟨some 22, .slice 121 (.tmp 20) none (some (.tmp 21)) none, 121, none⟩),
 (true, ⟨some 23, .move (.tmp 0), 121, none⟩),
 (true, ⟨some 24, .move (.tmp 2), 3, none⟩),
 (true, ⟨some 25, .slice 121 (.tmp 23) (some (.tmp 24)) none none, 121, none⟩),
 (false, ⟨some 26, .call ⟨.builtin .append, #[(.tmp 22), (.tmp 25)], #[121, 121]⟩, 121, none⟩),
 (true, ⟨some 0, .assign (.tmp 26), 121, none⟩)]
theorem c84draw0 {L : List Nat} {ρ : Env} {w : World} {Q : Post} (h : DL Tryz.prog c84D0 L ρ w.drew Q) : drawW Tryz.prog (drawOps 0 c84code) L ρ w Q :=
  drawW_by [(true, 0), (true, 1), (true, 2), (true, 3), (true, 4), (true, 5), (false, 6), (true, 7)] c84D0 (by kernel_rfl) (by kernel_rfl) (by kernel_rfl) h
set_option maxRecDepth 100000 in
theorem ent84 (a0 a1 a2 : Value) (w : World) (K : Value → World → Prop) (h : W Tryz.prog c84 [(0, a0), (1, a1), (2, a2)] w (finQ Tryz.prog [.tmp 6] K)) : Ret Tryz.prog 84 [a0, a1, a2] w K :=
  Ret_of_W (code := c84code) Tryz.func84 (by kernel_rfl) (by kernel_rfl) (of_decide_eq_true (by kernel_rfl)) h
@[go_sem] theorem go84 : goFunc Tryz.prog 84 = true := by kernel_rfl
noncomputable def c86code : Code := match Tryz.f86.body with | some c => c | none => .skip
noncomputable def c86S0 (_ : Unit) : Cmd := .ret
noncomputable def c86S1 (_ : Unit) : Cmd := (.seq (.ops [
  ⟨some 55, .move (.tmp 9), 121, none⟩,
  ⟨some 6, .assign (.tmp 55), 121, none⟩] [6])
  .ret)
noncomputable def c86S2 (_ : Unit) : Cmd := (.seq (.draw (drawOps 0 c86code) [9]) (sg c86S1))
noncomputable def c86S3 (_ : Unit) : Cmd := (.seq (.ops [
  ⟨some 41, .move (.tmp 9), 121, none⟩,
  ⟨some 42, .move (.tmp 1), 3, none⟩,
  ⟨some 43, .slice 121 (.tmp 41) (some (.tmp 42)) none none, 121, none⟩,
  ⟨some 44, .move (.tmp 2), 121, none⟩,
  ⟨some 45, .call ⟨.builtin .copy, #[(.tmp 43), (.tmp 44)], #[121, 121]⟩, 3, none⟩] [0, 1, 7, 9]) (sg c86S2))
noncomputable def c86S4 (_ : Unit) : Cmd := (.cond (.tmp 31)
  (.seq (.ops [
  ⟨some 32, .move (.tmp 0), 121, none⟩,
  ⟨some 33, .move (.tmp 1), 3, none⟩,
  ⟨some 34, .slice 121 (.tmp 32) none (some (.tmp 33)) none, 121, none⟩,
  ⟨some 35, .move (.tmp 8), 3, none⟩,
  ⟨some 36, .move (.tmp 7), 3, none⟩,
  ⟨some 37, .binOp .add 3 (.tmp 35) (.tmp 36) 3, 3, none⟩,
  ⟨some 38, .move (.tmp 1), 3, none⟩,
  ⟨some 39, .binOp .sub 3 (.tmp 37) (.tmp 38) 3, 3, none⟩,
  ⟨some 40, .call ⟨.builtin .append, #[(.tmp 34), (.tmp 39)], #[121, 3]⟩, 121, none⟩,
  ⟨some 9, .assign (.tmp 40), 121, none⟩] [0, 1, 2, 7, 9]) (sg c86S3))
  (.skip [0, 1, 2, 7, 8]))
noncomputable def c86S5 (_ : Unit) : Cmd := (.seq (.ops [
  ⟨some 83, .move (.tmp 0), 121, none⟩,
  ⟨some 6, .assign (.tmp 83), 121, none⟩] [6])
  .ret)
noncomputable def c86S6 (_ : Unit) : Cmd := (.seq (.ops [
  ⟨some 78, .move (.tmp 0), 121, none⟩,
  ⟨some 79, .move (.tmp 1), 3, none⟩,
  ⟨some 80, .slice 121 (.tmp 78) (some (.tmp 79)) none none, 121, none⟩,
  ⟨some 81, .move (.tmp 2), 121, none⟩,
  ⟨some 82, .call ⟨.builtin .copy, #[(.tmp 80), (.tmp 81)], #[121, 121]⟩, 3, none⟩] [0]) (sg c86S5))
noncomputable def c86S7 (_ : Unit) : Cmd := (.cond (.tmp 68)
  (.seq (.draw (drawOps 1 c86code) [0, 1, 2]) (sg c86S6))
  (.skip [0, 1, 2, 7, 8]))
noncomputable def c86S8 (_ : Unit) : Cmd := (.seq (.ops [
 ⟨some 94, .move (.tmp 0), 121, none⟩,
 ⟨some 6, .assign (.tmp 94), 121, none⟩] [6])
 .ret)
noncomputable def c86S9 (_ : Unit) : Cmd := (.seq (.ops [
 ⟨some 89, .move (.tmp 0), 121, none⟩,
 ⟨some 90, .move (.tmp 1), 3, none⟩,
 ⟨some 91, .slice 121 (.tmp 89) (some (.tmp 90)) none none, 121, none⟩,
 ⟨some 92, .move (.tmp 7), 3, none⟩,
 ⟨some 93, .call ⟨.value (.func 105), #[(.tmp 91), (.tmp 92)], #[121, 3]⟩, 0, none⟩] [0]) (sg c86S8))
noncomputable def c86S10 (_ : Unit) : Cmd := (.seq (.ops [
 ⟨some 84, .move (.tmp 0), 121, none⟩,
 ⟨some 85, .move (.tmp 8), 3, none⟩,
 ⟨some 86, .slice 121 (.tmp 84) (some (.tmp 85)) none none, 121, none⟩,
 ⟨some 87, .move (.tmp 2), 121, none⟩,
 ⟨some 88, .call ⟨.builtin .copy, #[(.tmp 86), (.tmp 87)], #[121, 121]⟩, 3, none⟩] [0, 1, 7]) (sg c86S9))
noncomputable def c86S11 (_ : Unit) : Cmd := (.seq (.ops [
 ⟨some 56, .move (.tmp 0), 121, none⟩,
 ⟨some 57, .move (.tmp 8), 3, none⟩,
 ⟨some 58, .move (.tmp 7), 3, none⟩,
 ⟨some 59, .binOp .add 3 (.tmp 57) (.tmp 58) 3, 3, none⟩,
 ⟨some 60, .slice 121 (.tmp 56) none (some (.tmp 59)) none, 121, none⟩,
 ⟨some 0, .assign (.tmp 60), 121, none⟩] [0, 1, 2, 7, 8])
 (.seq (.seq (.ops [
 ⟨some 61, .move (.tmp 2), 121, none⟩,
 ⟨some 62, .move (.tmp 0), 121, none⟩,
 ⟨some 63, .move (.tmp 1), 3, none⟩,
 ⟨some 64, .move (.tmp 7), 3, none⟩,
 ⟨some 65, .binOp .add 3 (.tmp 63) (.tmp 64) 3, 3, none⟩,
 ⟨some 66, .slice 121 (.tmp 62) (some (.tmp 65)) none none, 121, none⟩,
 ⟨some 67, .call ⟨.value (.func 104), #[(.tmp 61), (.tmp 66)], #[121, 121]⟩, 4, none⟩,
 ⟨some 68, .unOp .not 4 (.tmp 67), 4, none⟩] [0, 1, 2, 7, 8, 68]) (sg c86S7)) (sg c86S10)))
noncomputable def c86S12 (_ : Unit) : Cmd := (.seq (.seq (.ops [
 ⟨some 26, .move (.tmp 8), 3, none⟩,
 ⟨some 27, .move (.tmp 7), 3, none⟩,
 ⟨some 28, .binOp .add 3 (.tmp 26) (.tmp 27) 3, 3, none⟩,
 ⟨some 29, .move (.tmp 0), 121, none⟩,
 ⟨some 30, .call ⟨.builtin .cap, #[(.tmp 29)], #[121]⟩, 3, none⟩,
 ⟨some 31, .binOp .gtr 3 (.tmp 28) (.tmp 30) 3, 4, none⟩] [0, 1, 2, 7, 8, 31]) (sg c86S4)) (sg c86S11))
noncomputable def c86S13 (_ : Unit) : Cmd := (.seq (.ops [
 ⟨some 18, .move (.tmp 0), 121, none⟩,
 ⟨some 19, .call ⟨.builtin .len, #[(.tmp 18)], #[121]⟩, 3, none⟩,
 ⟨some 8, .assign (.tmp 19), 3, none⟩] [0, 1, 2, 7, 8])
 (.seq (.seq (.ops [
 ⟨some 20, .move (.tmp 1), 3, none⟩,
 ⟨some 21, .move (.tmp 8), 3, none⟩,
 ⟨some 22, .binOp .eql 3 (.tmp 20) (.tmp 21) 3, 4, none⟩] [0, 1, 2, 7, 8, 22])
 (.cond (.tmp 22)
  (.seq (.ops [
  ⟨some 23, .move (.tmp 0), 121, none⟩,
  ⟨some 24, .move (.tmp 2), 121, none⟩,
  ⟨some 25, .call ⟨.builtin .append, #[(.tmp 23), (.tmp 24)], #[121, 121]⟩, 121, none⟩,
  ⟨some 6, .assign (.tmp 25), 121, none⟩] [6]) (sg c86S0))
  (.skip [0, 1, 2, 7, 8]))) (sg c86S12)))
noncomputable def c86 : Cmd := (.seq (.ops [
 ⟨some 6, .assign (.const (.slice none 0 0)), 121, none⟩] [0, 1, 2])
 (.seq (.ops [
 ⟨some 10, .move (.tmp 0), 121, none⟩,
 ⟨some 11, .move (.tmp 1), 3, none⟩,
 ⟨some 12, .slice 121 (.tmp 10) (some (.tmp 11)) none none, 121, none⟩] [0, 1, 2])
 (.seq (.ops [
 ⟨some 13, .move (.tmp 2), 121, none⟩,
 ⟨some 14, .call ⟨.builtin .len, #[(.tmp 13)], #[121]⟩, 3, none⟩,
 ⟨some 7, .assign (.tmp 14), 3, none⟩] [0, 1, 2, 7])
 (.seq (.seq (.ops [
 ⟨some 15, .move (.tmp 7), 3, none⟩,
 ⟨some 16, .binOp .eql 3 (.tmp 15) (.const (.int .i64 0)) 3, 4, none⟩] [0, 1, 2, 7, 16])
 (.cond (.tmp 16)
  (.seq (.ops [
  ⟨some 17, .move (.tmp 0), 121, none⟩,
  ⟨some 6, .assign (.tmp 17), 121, none⟩] [6])
  .ret)
  (.skip [0, 1, 2, 7]))) (sg c86S13)))))
noncomputable def c86D0 : List (Bool × Ins) := [
 (true, ⟨some 46, .move (.tmp 9), 121, none⟩),
 (true, ⟨some 47, .move (.tmp 1), 3, none⟩),
 (true, ⟨some 48, .move (.tmp 7), 3, none⟩),
 (true, ⟨some 49, .binOp .add 3 (.tmp 47) (.tmp 48) 3, 3, none⟩),
 (true, ⟨some 50, .slice 121 (.tmp 46) (some (.tmp 49)) none none, 121, none⟩),
 (true, ⟨some 51, .move (.tmp 0), 121, none⟩),
 (true, ⟨some 52, .move (.tmp 1), 3, none⟩),
 (true, ⟨some 53, .slice 121 (.tmp 51) (some (.tmp 52)) none none, 121, none⟩),
 (false, ⟨some 54, .call ⟨.builtin .copy, #[(.tmp 50), (.tmp 53)], #[121, 121]⟩, 3, none⟩)]
theorem c86draw0 {L : List Nat} {ρ : Env} {w : World} {Q : Post} (h : DL Tryz.prog c86D0 L ρ w.drew Q) : drawW Tryz.prog (drawOps 0 c86code) L ρ w Q :=
  drawW_by [(true, 0), (true, 1), (true, 2), (true, 3), (true, 4), (true, 5), (true, 6), (true, 7), (false, 8)] c86D0 (by kernel_rfl) (by kernel_rfl) (by kernel_rfl) h
noncomputable def c86D1 : List (Bool × Ins) := [
 (true, ⟨some 69, .move (.tmp 0), 121, none⟩),
 (true, ⟨some 70, .move (.tmp 1), 3, none⟩),
 (true, ⟨some 71, .move (.tmp 7), 3, none⟩),
 (true, ⟨some 72, .binOp .add 3 (.tmp 70) (.tmp 71) 3, 3, none⟩),
 (true, ⟨some 73, .slice 121 (.tmp 69) (some (.tmp 72)) none none, 121, none⟩),
 (true, ⟨some 74, .move (.tmp 0), 121, none⟩),
 (true, ⟨some 75, .move (.tmp 1), 3, none⟩),
 (true, ⟨some 76, .slice 121 (.tmp 74) (some (.tmp 75)) none none, 121, none⟩),
 (false, ⟨some 77, .call ⟨.builtin .copy, #[(.tmp 73), (.tmp 76)], #[121, 121]⟩, 3, none⟩)]
theorem c86draw1 {L : List Nat} {ρ : Env} {w : World} {Q : Post} (h : DL Tryz.prog c86D1 L ρ w.drew Q) : drawW Tryz.prog (drawOps 1 c86code) L ρ w Q :=
  drawW_by [(true, 0), (true, 1), (true, 2), (true, 3), (true, 4), (true, 5), (true, 6), (true, 7), (false, 8)] c86D1 (by kernel_rfl) (by kernel_rfl) (by kernel_rfl) h
set_option maxRecDepth 100000 in
theorem ent86 (a0 a1 a2 : Value) (w : World) (K : Value → World → Prop) (h : W Tryz.prog c86 [(0, a0), (1, a1), (2, a2)] w (finQ Tryz.prog [.tmp 6] K)) : Ret Tryz.prog 86 [a0, a1, a2] w K :=
  Ret_of_W (code := c86code) Tryz.func86 (by kernel_rfl) (by kernel_rfl) (of_decide_eq_true (by kernel_rfl)) h
@[go_sem] theorem go86 : goFunc Tryz.prog 86 = true := by kernel_rfl
noncomputable def c91code : Code := match Tryz.f91.body with | some c => c | none => .skip
noncomputable def c91 : Cmd := (.seq (.ops [
 ⟨some 2, .assign (.const (.bool false)), 4, none⟩] [0])
 (.seq (.ops [
 ⟨some 3, .move (.tmp 0), 3, none⟩,
 ⟨some 4, .move (.tmp 0), 3, none⟩,
 ⟨some 5, .binOp .neq 3 (.tmp 3) (.tmp 4) 3, 4, none⟩,
 ⟨some 2, .assign (.tmp 5), 4, none⟩] [2])
 .ret))
set_option maxRecDepth 100000 in
theorem ent91 (a0 : Value) (w : World) (K : Value → World → Prop) (h : W Tryz.prog c91 [(0, a0)] w (finQ Tryz.prog [.tmp 2] K)) : Ret Tryz.prog 91 [a0] w K :=
  Ret_of_W (code := c91code) Tryz.func91 (by kernel_rfl) (by kernel_rfl) (of_decide_eq_true (by kernel_rfl)) h
@[go_sem] theorem go91 : goFunc Tryz.prog 91 = true := by kernel_rfl
noncomputable def c3S0 (_ : Unit) : Cmd := (.cond (.tmp 110)
  (.seq (.ops [
  ⟨some 2, .assign (.const (.bool false)), 4, none⟩] [2])
  .ret)
  (.skip [1, 15, 16, 17]))
noncomputable def c3S1 (_ : Unit) : Cmd := (.seq (.ops [
 ⟨some 42, .move (.tmp 5), 3, none⟩,
 ⟨some 43, .binOp .neq 3 (.tmp 42) (.const (.int .i64 0)) 3, 4, none⟩,
 ⟨some 44, .move (.tmp 43), 4, none⟩,
 ⟨some 45, .move (.tmp 6), 30, (some (44, false))⟩,
 ⟨some 46, .binOp .neq 30 (.tmp 45) (.const (.int .i64 3)) 30, 4, (some (44, false))⟩,
 ⟨some 47, .pick (.tmp 44) (.const (.bool true)) (.tmp 46), 4, none⟩,
 ⟨some 48, .move (.tmp 47), 4, none⟩,
 ⟨some 49, .move (.tmp 7), 9, (some (48, false))⟩,
 ⟨some 50, .binOp .neq 9 (.tmp 49) (.const (.string (ofL []))) 9, 4, (some (48, false))⟩,
 ⟨some 51, .pick (.tmp 48) (.const (.bool true)) (.tmp 50), 4, none⟩,
 ⟨some 52, .move (.tmp 51), 4, none⟩,
 ⟨some 53, .move (.tmp 8), 30, (some (52, false))⟩,
 ⟨some 54, .move (.tmp 6), 30, (some (52, false))⟩,
 ⟨some 55, .binOp .neq 30 (.tmp 53) (.tmp 54) 30, 4, (some (52, false))⟩,
 ⟨some 56, .pick (.tmp 52) (.const (.bool true)) (.tmp 55), 4, none⟩,
 ⟨some 57, .move (.tmp 56), 4, none⟩,
 ⟨some 58, .move (.tmp 9), 3, (some (57, false))⟩,
 ⟨some 59, .binOp .neq 3 (.tmp 58) (.const (.int .i64 0)) 3, 4, (some (57, false))⟩,
 ⟨some 60, .pick (.tmp 57) (.const (.bool true)) (.tmp 59), 4, none⟩,
 ⟨some 61, .move (.tmp 60), 4, none⟩,
 ⟨some 62, .move (.tmp 10), 30, (some (61, false))⟩,
 ⟨some 63, .move (.tmp 6), 30, (some (61, false))⟩,
 ⟨some 64, .binOp .neq 30 (.tmp 62) (.tmp 63) 30, 4, (some (61, false))⟩,
 ⟨some 65, .pick (.tmp 61) (.const (.bool true)) (.tmp 64), 4, none⟩,
 ⟨some 66, .move (.tmp 65), 4, none⟩,
 ⟨some 67, .move (.tmp 4), 24, (some (66, false))⟩,
 ⟨some 68, .fieldAddr 23 (.tmp 1) 1, 0, (some (66, false))⟩,
 ⟨some 69, .load 3 (.tmp 68), 3, (some (66, false))⟩,
 ⟨some 70, .call ⟨.value (.func 9), #[(.tmp 67), (.tmp 69)], #[24, 3]⟩, 30, (some (66, false))⟩,
 ⟨some 71, .move (.tmp 6), 30, (some (66, false))⟩,
 ⟨some 72, .binOp .neq 30 (.tmp 70) (.tmp 71) 30, 4, (some (66, false))⟩,
 ⟨some 73, .pick (.tmp 66) (.const (.bool true)) (.tmp 72), 4, none⟩,
 ⟨some 74, .move (.tmp 73), 4, none⟩,
 ⟨some 75, .move (.tmp 4), 24, (some (74, false))⟩,
 ⟨some 76, .fieldAddr 23 (.tmp 1) 1, 0, (some (74, false))⟩,
 ⟨some 77, .load 3 (.tmp 76), 3, (some (74, false))⟩,
 ⟨some 78, .fieldAddr 23 (.tmp 1) 3, 0, (some (74, false))⟩,
 ⟨some 79, .load 9 (.tmp 78), 9, (some (74, false))⟩,
 ⟨some 80, .call ⟨.value (.func 10), #[(.tmp 75), (.tmp 77), (.tmp 79)], #[24, 3, 9]⟩, 30, (some (74, false))⟩,
 ⟨some 81, .move (.tmp 6), 30, (some (74, false))⟩,
 ⟨some 82, .binOp .neq 30 (.tmp 80) (.tmp 81) 30, 4, (some (74, false))⟩,
 ⟨some 83, .pick (.tmp 74) (.const (.bool true)) (.tmp 82), 4, none⟩,
 ⟨some 84, .move (.tmp 83), 4, none⟩,
 ⟨some 85, .move (.tmp 4), 24, (some (84, false))⟩,
 ⟨some 86, .fieldAddr 23 (.tmp 1) 1, 0, (some (84, false))⟩,
 ⟨some 87, .load 3 (.tmp 86), 3, (some (84, false))⟩,
 ⟨some 88, .fieldAddr 23 (.tmp 1) 2, 0, (some (84, false))⟩,
 ⟨some 89, .load 3 (.tmp 88), 3, (some (84, false))⟩,
 ⟨some 90, .call ⟨.value (.func 11), #[(.tmp 85), (.tmp 87), (.tmp 89)], #[24, 3, 3]⟩, 30, (some (84, false))⟩,
 ⟨some 91, .move (.tmp 6), 30, (some (84, false))⟩,
 ⟨some 92, .binOp .neq 30 (.tmp 90) (.tmp 91) 30, 4, (some (84, false))⟩,
 ⟨some 93, .pick (.tmp 84) (.const (.bool true)) (.tmp 92), 4, none⟩,
 ⟨some 94, .move (.tmp 93), 4, none⟩,
 ⟨some 95, .move (.tmp 4), 24, (some (94, false))⟩,
 ⟨some 96, .call ⟨.value (.func 12), #[(.tmp 95)], #[24]⟩, 3, (some (94, false))⟩,
 ⟨some 97, .binOp .neq 3 (.tmp 96) (.const (.int .i64 0)) 3, 4, (some (94, false))⟩,
 ⟨some 98, .pick (.tmp 94) (.const (.bool true)) (.tmp 97), 4, none⟩,
 ⟨some 99, .move (.tmp 98), 4, none⟩,
 ⟨some 100, .move (.tmp 4), 24, (some (99, false))⟩,
 ⟨some 101, .call ⟨.value (.func 13), #[(.tmp 100)], #[24]⟩, 30, (some (99, false))⟩,
 ⟨some 102, .move (.tmp 6), 30, (some (99, false))⟩,
 ⟨some 103, .binOp .neq 30 (.tmp 101) (.tmp 102) 30, 4, (some (99, false))⟩,
 ⟨some 104, .pick (.tmp 99) (.const (.bool true)) (.tmp 103), 4, none⟩,
 ⟨some 105, .move (.tmp 104), 4, none⟩,
 ⟨some 106, .move (.tmp 4), 24, (some (105, false))⟩,
 ⟨some 107, .call ⟨.value (.func 14), #[(.tmp 106)], #[24]⟩, 30, (some (105, false))⟩,
 ⟨some 108, .move (.tmp 6), 30, (some (105, false))⟩,
 ⟨some 109, .binOp .neq 30 (.tmp 107) (.tmp 108) 30, 4, (some (105, false))⟩,
 ⟨some 110, .pick (.tmp 105) (.const (.bool true)) (.tmp 109), 4, none⟩] [1, 15, 16, 17, 110]) (sg c3S0))
noncomputable def c3S2 (_ : Unit) : Cmd := (.seq (.ops [
 ⟨some 40, .move (.tmp 4), 24, none⟩,
 ⟨some 41, .call ⟨.value (.func 8), #[(.tmp 40)], #[24]⟩, 0, none⟩] [1, 4, 5, 6, 7, 8, 9, 10, 15, 16, 17]) (sg c3S1))
noncomputable def c3S3 (_ : Unit) : Cmd := (.seq (.ops [
 ⟨some 34, .move (.tmp 4), 24, none⟩,
 ⟨some 35, .fieldAddr 23 (.tmp 1) 1, 0, none⟩,
 ⟨some 36, .load 3 (.tmp 35), 3, none⟩,
 ⟨some 37, .call ⟨.value (.func 7), #[(.tmp 34), (.tmp 36)], #[24, 3]⟩, 31, none⟩,
 ⟨some 33, .move (.tmp 37), 31, none⟩,
 ⟨some 38, .extract (.tmp 33) 0, 3, none⟩,
 ⟨some 39, .extract (.tmp 33) 1, 30, none⟩,
 ⟨some 9, .assign (.tmp 38), 3, none⟩,
 ⟨some 10, .assign (.tmp 39), 30, none⟩] [1, 4, 5, 6, 7, 8, 9, 10, 15, 16, 17]) (sg c3S2))
noncomputable def c3S4 (_ : Unit) : Cmd := (.seq (.ops [
 ⟨some 27, .move (.tmp 4), 24, none⟩,
 ⟨some 28, .fieldAddr 23 (.tmp 1) 1, 0, none⟩,
 ⟨some 29, .load 3 (.tmp 28), 3, none⟩,
 ⟨some 30, .call ⟨.value (.func 6), #[(.tmp 27), (.tmp 29)], #[24, 3]⟩, 33, none⟩,
 ⟨some 26, .move (.tmp 30), 33, none⟩,
 ⟨some 31, .extract (.tmp 26) 0, 9, none⟩,
 ⟨some 32, .extract (.tmp 26) 1, 30, none⟩,
 ⟨some 7, .assign (.tmp 31), 9, none⟩,
 ⟨some 8, .assign (.tmp 32), 30, none⟩] [1, 4, 5, 6, 7, 8, 15, 16, 17]) (sg c3S3))
noncomputable def c3S5 (_ : Unit) : Cmd := (.ops [
 ⟨some 111, .binOp .add 3 (.tmp 17) (.const (.int .i64 1)) 3, 3, none⟩,
 ⟨some 17, .move (.tmp 111), 3, none⟩] [1, 15, 16, 17])
noncomputable def c3S6 (_ : Unit) : Cmd := (.seq (.block 1 (.seq (.ops [
 ⟨some 19, .indexAddr 29 (.tmp 15) (.tmp 17), 0, none⟩,
 ⟨some 20, .load 24 (.tmp 19), 24, none⟩,
 ⟨some 4, .assign (.tmp 20), 24, none⟩] [1, 4, 15, 16, 17])
 (.seq (.ops [
 ⟨some 22, .move (.tmp 4), 24, none⟩,
 ⟨some 23, .call ⟨.value (.func 5), #[(.tmp 22)], #[24]⟩, 31, none⟩,
 ⟨some 21, .move (.tmp 23), 31, none⟩,
 ⟨some 24, .extract (.tmp 21) 0, 3, none⟩,
 ⟨some 25, .extract (.tmp 21) 1, 30, none⟩,
 ⟨some 5, .assign (.tmp 24), 3, none⟩,
 ⟨some 6, .assign (.tmp 25), 30, none⟩] [1, 4, 5, 6, 15, 16, 17]) (sg c3S4)))) (sg c3S5))
noncomputable def c3L0 (_ : Unit) : Cmd := (.seq (.ops [
 ⟨some 18, .binOp .lss 3 (.tmp 17) (.tmp 16) 3, 0, none⟩] [1, 15, 16, 17, 18])
 (.seq (.cond (.tmp 18)
  (.skip [1, 15, 16, 17])
  (.exit 0 [])) (sg c3S6)))
noncomputable def c3S7 (_ : Unit) : Cmd := .ret
noncomputable def c3S8 (_ : Unit) : Cmd := (.seq (.ops [
 ⟨some 116, .move (.tmp 11), 24, none⟩,
 ⟨some 117, .binOp .eql 24 (.tmp 116) (.const (.pointer none)) 24, 4, none⟩,
 ⟨some 118, .move (.tmp 117), 4, none⟩,
 ⟨some 119, .move (.tmp 12), 30, (some (118, true))⟩,
 ⟨some 120, .binOp .eql 30 (.tmp 119) (.const (.int .i64 3)) 30, 4, (some (118, true))⟩,
 ⟨some 121, .pick (.tmp 118) (.tmp 120) (.const (.bool false)), 4, none⟩,
 ⟨some 122, .move (.tmp 121), 4, none⟩,
 ⟨some 123, .call ⟨.value (.func 16), #[], #[]⟩, 4, (some (122, true))⟩,
 ⟨some 124, .pick (.tmp 122) (.tmp 123) (.const (.bool false)), 4, none⟩,
 ⟨some 2, .assign (.tmp 124), 4, none⟩] [2]) (sg c3S7))
noncomputable def c3S9 (_ : Unit) : Cmd := (.seq (.ops [
 ⟨some 113, .call ⟨.value (.func 15), #[(.const (.pointer none))], #[25]⟩, 41, none⟩,
 ⟨some 112, .move (.tmp 113), 41, none⟩,
 ⟨some 114, .extract (.tmp 112) 0, 24, none⟩,
 ⟨some 115, .extract (.tmp 112) 1, 30, none⟩,
 ⟨some 11, .assign (.tmp 114), 24, none⟩,
 ⟨some 12, .assign (.tmp 115), 30, none⟩] [11, 12]) (sg c3S8))
noncomputable def c3 : Cmd := (.seq (.ops [
 ⟨some 1, .box 23 (.tmp 0), 0, none⟩,
 ⟨some 2, .assign (.const (.bool false)), 4, none⟩] [1])
 (.seq (.seq (.ops [
 ⟨some 13, .build 28 #[], 28, none⟩,
 ⟨some 14, .box 28 (.tmp 13), 24, none⟩,
 ⟨some 15, .buildSlice 29 2 #[(0, (.const (.pointer none))), (1, (.tmp 14))], 29, none⟩,
 ⟨some 16, .call ⟨.builtin .len, #[(.tmp 15)], #[29]⟩, 3, none⟩,
 ⟨some 17, .move (.const (.int .i64 0)), 3, none⟩] [1, 15, 16, 17])
 (.block 0 (.loop (sg c3L0)))) (sg c3S9)))
@[go_sem] theorem go3 : goFunc Tryz.prog 3 = true := by kernel_rfl
noncomputable def c4code : Code := match Tryz.f4.body with | some c => c | none => .skip
noncomputable def c4S0 (_ : Unit) : Cmd := (.cond (.tmp 30)
  (.seq (.ops [
  ⟨some 4, .assign (.const (.bool false)), 4, none⟩] [4])
  .ret)
  (.skip [0, 1, 5, 7]))
noncomputable def c4S1 (_ : Unit) : Cmd := (.ops [
 ⟨some 44, .move (.tmp 10), 3, none⟩,
 ⟨some 45, .binOp .add 3 (.tmp 44) (.const (.int .i64 1)) 3, 3, none⟩,
 ⟨some 10, .assign (.tmp 45), 3, none⟩] [0, 1, 5, 7, 8, 10])
noncomputable def c4S2 (_ : Unit) : Cmd := (.seq (.block 1 (.seq (.ops [
 ⟨some 46, .move (.tmp 0), 45, none⟩,
 ⟨some 47, .move (.tmp 10), 3, none⟩,
 ⟨some 48, .indexAddr 45 (.tmp 46) (.tmp 47), 0, none⟩,
 ⟨some 49, .fieldAddr 23 (.tmp 48) 0, 0, none⟩,
 ⟨some 50, .load 3 (.tmp 49), 3, none⟩,
 ⟨some 51, .binOp .lss 3 (.tmp 50) (.const (.int .i64 6)) 3, 4, none⟩,
 ⟨some 52, .move (.tmp 51), 4, none⟩,
 ⟨some 53, .move (.tmp 0), 45, (some (52, true))⟩,
 ⟨some 54, .move (.tmp 10), 3, (some (52, true))⟩,
 ⟨some 55, .indexAddr 45 (.tmp 53) (.tmp 54), 0, (some (52, true))⟩,
 ⟨some 56, .fieldAddr 23 (.tmp 55) 3, 0, (some (52, true))⟩,
 ⟨some 57, .load 9 (.tmp 56), 9, (some (52, true))⟩,
 ⟨some 58, .call ⟨.builtin .len, #[(.tmp 57)], #[9]⟩, 3, (some (52, true))⟩,
 ⟨some 59, .binOp .leq 3 (.tmp 58) (.const (.int .i64 2000)) 3, 4, (some (52, true))⟩,
 ⟨some 60, .pick (.tmp 52) (.tmp 59) (.const (.bool false)), 4, none⟩] [0, 1, 5, 7, 8, 10, 60])
 (.cond (.tmp 60)
  (.ops [
  ⟨some 61, .move (.tmp 7), 24, none⟩,
  ⟨some 62, .move (.tmp 0), 45, none⟩,
  ⟨some 63, .move (.tmp 10), 3, none⟩,
  ⟨some 64, .indexAddr 45 (.tmp 62) (.tmp 63), 0, none⟩,
  ⟨some 65, .load 23 (.tmp 64), 23, none⟩,
  ⟨some 66, .call ⟨.value (.func 20), #[(.tmp 61), (.tmp 8), (.tmp 65)], #[24, 56, 23]⟩, 4, none⟩] [0, 1, 5, 7, 8, 10])
  (.skip [0, 1, 5, 7, 8, 10])))) (sg c4S1))
noncomputable def c4L0 (_ : Unit) : Cmd := (.seq (.seq (.ops [
 ⟨some 36, .move (.tmp 10), 3, none⟩,
 ⟨some 37, .move (.tmp 0), 45, none⟩,
 ⟨some 38, .call ⟨.builtin .len, #[(.tmp 37)], #[45]⟩, 3, none⟩,
 ⟨some 39, .binOp .lss 3 (.tmp 36) (.tmp 38) 3, 4, none⟩,
 ⟨some 40, .move (.tmp 39), 4, none⟩,
 ⟨some 41, .move (.tmp 10), 3, (some (40, true))⟩,
 ⟨some 42, .binOp .lss 3 (.tmp 41) (.const (.int .i64 30)) 3, 4, (some (40, true))⟩,
 ⟨some 43, .pick (.tmp 40) (.tmp 42) (.const (.bool false)), 4, none⟩] [0, 1, 5, 7, 8, 10, 43])
 (.cond (.tmp 43)
  (.skip [0, 1, 5, 7, 8, 10])
  (.exit 0 [1, 5, 7, 8]))) (sg c4S2))
noncomputable def c4S3 (_ : Unit) : Cmd := (.cond (.tmp 69)
  (.seq (.ops [
  ⟨some 4, .assign (.const (.bool false)), 4, none⟩] [4])
  .ret)
  (.skip [1, 5, 7, 8]))
noncomputable def c4S4 (_ : Unit) : Cmd := (.ops [
 ⟨some 80, .move (.tmp 12), 3, none⟩,
 ⟨some 81, .binOp .add 3 (.tmp 80) (.const (.int .i64 1)) 3, 3, none⟩,
 ⟨some 12, .assign (.tmp 81), 3, none⟩] [1, 5, 7, 8, 11, 12])
noncomputable def c4S5 (_ : Unit) : Cmd := (.seq (.block 3 (.seq (.ops [
 ⟨some 82, .move (.tmp 1), 45, none⟩,
 ⟨some 83, .move (.tmp 12), 3, none⟩,
 ⟨some 84, .indexAddr 45 (.tmp 82) (.tmp 83), 0, none⟩,
 ⟨some 85, .fieldAddr 23 (.tmp 84) 0, 0, none⟩,
 ⟨some 86, .load 3 (.tmp 85), 3, none⟩,
 ⟨some 87, .binOp .geq 3 (.tmp 86) (.const (.int .i64 0)) 3, 4, none⟩,
 ⟨some 88, .move (.tmp 87), 4, none⟩,
 ⟨some 89, .move (.tmp 1), 45, (some (88, true))⟩,
 ⟨some 90, .move (.tmp 12), 3, (some (88, true))⟩,
 ⟨some 91, .indexAddr 45 (.tmp 89) (.tmp 90), 0, (some (88, true))⟩,
 ⟨some 92, .fieldAddr 23 (.tmp 91) 0, 0, (some (88, true))⟩,
 ⟨some 93, .load 3 (.tmp 92), 3, (some (88, true))⟩,
 ⟨some 94, .binOp .lss 3 (.tmp 93) (.const (.int .i64 6)) 3, 4, (some (88, true))⟩,
 ⟨some 95, .pick (.tmp 88) (.tmp 94) (.const (.bool false)), 4, none⟩,
 ⟨some 96, .move (.tmp 95), 4, none⟩,
 ⟨some 97, .move (.tmp 1), 45, (some (96, true))⟩,
 ⟨some 98, .move (.tmp 12), 3, (some (96, true))⟩,
 ⟨some 99, .indexAddr 45 (.tmp 97) (.tmp 98), 0, (some (96, true))⟩,
 ⟨some 100, .fieldAddr 23 (.tmp 99) 3, 0, (some (96, true))⟩,
 ⟨some 101, .load 9 (.tmp 100), 9, (some (96, true))⟩,
 ⟨some 102, .call ⟨.builtin .len, #[(.tmp 101)], #[9]⟩, 3, (some (96, true))⟩,
 ⟨some 103, .binOp .leq 3 (.tmp 102) (.const (.int .i64 2000)) 3, 4, (some (96, true))⟩,
 ⟨some 104, .pick (.tmp 96) (.tmp 103) (.const (.bool false)), 4, none⟩] [1, 5, 7, 8, 11, 12, 104])
 (.cond (.tmp 104)
  (.ops [
  ⟨some 105, .move (.tmp 7), 24, none⟩,
  ⟨some 106, .move (.tmp 1), 45, none⟩,
  ⟨some 107, .move (.tmp 12), 3, none⟩,
  ⟨some 108, .indexAddr 45 (.tmp 106) (.tmp 107), 0, none⟩,
  ⟨some 109, .load 23 (.tmp 108), 23, none⟩,
  ⟨some 110, .call ⟨.value (.func 20), #[(.tmp 105), (.tmp 8), (.tmp 109)], #[24, 56, 23]⟩, 4, none⟩] [1, 5, 7, 8, 11, 12])
  (.skip [1, 5, 7, 8, 11, 12])))) (sg c4S4))
noncomputable def c4L1 (_ : Unit) : Cmd := (.seq (.seq (.ops [
 ⟨some 72, .move (.tmp 12), 3, none⟩,
 ⟨some 73, .move (.tmp 1), 45, none⟩,
 ⟨some 74, .call ⟨.builtin .len, #[(.tmp 73)], #[45]⟩, 3, none⟩,
 ⟨some 75, .binOp .lss 3 (.tmp 72) (.tmp 74) 3, 4, none⟩,
 ⟨some 76, .move (.tmp 75), 4, none⟩,
 ⟨some 77, .move (.tmp 12), 3, (some (76, true))⟩,
 ⟨some 78, .binOp .lss 3 (.tmp 77) (.const (.int .i64 30)) 3, 4, (some (76, true))⟩,
 ⟨some 79, .pick (.tmp 76) (.tmp 78) (.const (.bool false)), 4, none⟩] [1, 5, 7, 8, 11, 12, 79])
 (.cond (.tmp 79)
  (.skip [1, 5, 7, 8, 11, 12])
  (.exit 2 [5, 11]))) (sg c4S5))
noncomputable def c4S6 (_ : Unit) : Cmd := (.cond (.tmp 123)
  (.skip [11, 13, 15, 16])
  (.exit 4 [11, 15]))
noncomputable def c4S7 (_ : Unit) : Cmd := (.ops [
 ⟨some 132, .move (.tmp 15), 49, none⟩,
 ⟨some 133, .move (.tmp 17), 9, none⟩,
 ⟨some 134, .buildSlice 49 1 #[(0, (.tmp 133))], 49, none⟩,
 ⟨some 135, .call ⟨.builtin .append, #[(.tmp 132), (.tmp 134)], #[49, 49]⟩, 49, none⟩,
 ⟨some 15, .assign (.tmp 135), 49, none⟩] [11, 13, 15, 16])
noncomputable def c4S8 (_ : Unit) : Cmd := (.ops [
 ⟨some 124, .move (.tmp 16), 3, none⟩,
 ⟨some 125, .binOp .add 3 (.tmp 124) (.const (.int .i64 1)) 3, 3, none⟩,
 ⟨some 16, .assign (.tmp 125), 3, none⟩] [11, 13, 15, 16])
noncomputable def c4S9 (_ : Unit) : Cmd := (.seq (.block 5 (.seq (.ops [
 ⟨some 127, .move (.tmp 13), 25, none⟩,
 ⟨some 128, .move (.tmp 16), 3, none⟩,
 ⟨some 129, .call ⟨.value (.func 24), #[(.tmp 127), (.tmp 128)], #[25, 3]⟩, 33, none⟩,
 ⟨some 126, .move (.tmp 129), 33, none⟩,
 ⟨some 130, .extract (.tmp 126) 0, 9, none⟩,
 ⟨some 131, .extract (.tmp 126) 1, 30, none⟩,
 ⟨some 17, .assign (.tmp 130), 9, none⟩,
 ⟨some 18, .assign (.tmp 131), 30, none⟩] [11, 13, 15, 16, 17]) (sg c4S7))) (sg c4S8))
noncomputable def c4L2 (_ : Unit) : Cmd := (.seq (.seq (.ops [
 ⟨some 120, .move (.tmp 16), 3, none⟩,
 ⟨some 121, .move (.tmp 13), 25, none⟩,
 ⟨some 122, .call ⟨.value (.func 23), #[(.tmp 121)], #[25]⟩, 3, none⟩,
 ⟨some 123, .binOp .lss 3 (.tmp 120) (.tmp 122) 3, 4, none⟩] [11, 13, 15, 16, 123]) (sg c4S6)) (sg c4S9))
noncomputable def c4S10 (_ : Unit) : Cmd := .ret
noncomputable def c4S11 (_ : Unit) : Cmd := (.seq (.ops [
 ⟨some 136, .move (.tmp 15), 49, none⟩,
 ⟨some 137, .move (.tmp 11), 49, none⟩,
 ⟨some 138, .call ⟨.value (.func 25), #[(.tmp 136), (.tmp 137)], #[49, 49]⟩, 4, none⟩,
 ⟨some 139, .move (.tmp 138), 4, none⟩,
 ⟨some 140, .call ⟨.value (.func 16), #[], #[]⟩, 4, (some (139, true))⟩,
 ⟨some 141, .pick (.tmp 139) (.tmp 140) (.const (.bool false)), 4, none⟩,
 ⟨some 4, .assign (.tmp 141), 4, none⟩] [4]) (sg c4S10))
noncomputable def c4S12 (_ : Unit) : Cmd := (.seq (.ops [
 ⟨some 15, .assign (.const (.slice none 0 0)), 49, none⟩] [11, 13, 15])
 (.seq (.seq (.ops [
 ⟨some 16, .assign (.const (.int .i64 0)), 3, none⟩] [11, 13, 15, 16])
 (.block 4 (.loop (sg c4L2)))) (sg c4S11)))
noncomputable def c4S13 (_ : Unit) : Cmd := (.seq (.seq (.ops [
 ⟨some 118, .move (.tmp 14), 30, none⟩,
 ⟨some 119, .binOp .neq 30 (.tmp 118) (.const (.int .i64 0)) 30, 4, none⟩] [11, 13, 119])
 (.cond (.tmp 119)
  (.seq (.ops [
  ⟨some 4, .assign (.const (.bool false)), 4, none⟩] [4])
  .ret)
  (.skip [11, 13]))) (sg c4S12))
noncomputable def c4S14 (_ : Unit) : Cmd := (.seq (.ops [
 ⟨some 114, .move (.tmp 5), 46, none⟩,
 ⟨some 115, .call ⟨.value (.func 22), #[(.tmp 114)], #[46]⟩, 59, none⟩,
 ⟨some 113, .move (.tmp 115), 59, none⟩,
 ⟨some 116, .extract (.tmp 113) 0, 25, none⟩,
 ⟨some 117, .extract (.tmp 113) 1, 30, none⟩,
 ⟨some 13, .assign (.tmp 116), 25, none⟩,
 ⟨some 14, .assign (.tmp 117), 30, none⟩] [11, 13, 14]) (sg c4S13))
noncomputable def c4S15 (_ : Unit) : Cmd := (.seq (.ops [
 ⟨some 111, .move (.tmp 5), 46, none⟩,
 ⟨some 112, .call ⟨.value (.func 21), #[(.tmp 111), (.const (.int .u64 18446744073709551615)), (.const (.int .i64 (-1))), (.const (.int .i64 0))], #[46, 58, 3, 3]⟩, 0, none⟩] [5, 11]) (sg c4S14))
noncomputable def c4S16 (_ : Unit) : Cmd := (.seq (.ops [
 ⟨some 70, .fieldAddr 51 (.tmp 8) 0, 0, none⟩,
 ⟨some 71, .load 49 (.tmp 70), 49, none⟩,
 ⟨some 11, .assign (.tmp 71), 49, none⟩] [1, 5, 7, 8, 11])
 (.seq (.seq (.ops [
 ⟨some 12, .assign (.const (.int .i64 0)), 3, none⟩] [1, 5, 7, 8, 11, 12])
 (.block 2 (.loop (sg c4L1)))) (sg c4S15)))
noncomputable def c4S17 (_ : Unit) : Cmd := (.seq (.seq (.ops [
 ⟨some 67, .move (.tmp 7), 24, none⟩,
 ⟨some 68, .call ⟨.value (.func 13), #[(.tmp 67)], #[24]⟩, 30, none⟩,
 ⟨some 69, .binOp .neq 30 (.tmp 68) (.const (.int .i64 0)) 30, 4, none⟩] [1, 5, 7, 8, 69]) (sg c4S3)) (sg c4S16))
noncomputable def c4S18 (_ : Unit) : Cmd := (.seq (.seq (.ops [
 ⟨some 10, .assign (.const (.int .i64 0)), 3, none⟩] [0, 1, 5, 7, 8, 10])
 (.block 0 (.loop (sg c4L0)))) (sg c4S17))
noncomputable def c4S19 (_ : Unit) : Cmd := (.seq (.ops [
 ⟨some 32, .call ⟨.value (.func 18), #[(.const (.int .i64 12))], #[3]⟩, 51, none⟩,
 ⟨some 33, .call ⟨.value (.func 19), #[(.tmp 32)], #[51]⟩, 52, none⟩,
 ⟨some 31, .move (.tmp 33), 52, none⟩,
 ⟨some 34, .extract (.tmp 31) 0, 51, none⟩,
 ⟨some 35, .extract (.tmp 31) 1, 3, none⟩,
 ⟨some 8, .alloc 51, 0, none⟩,
 ⟨none, .store 51 (.tmp 8) (.tmp 34), 0, none⟩,
 ⟨some 9, .assign (.tmp 35), 3, none⟩] [0, 1, 5, 7, 8]) (sg c4S18))
noncomputable def c4S20 (_ : Unit) : Cmd := (.seq (.seq (.ops [
 ⟨some 24, .move (.tmp 7), 24, none⟩,
 ⟨some 25, .binOp .eql 24 (.tmp 24) (.const (.pointer none)) 24, 4, none⟩,
 ⟨some 26, .move (.tmp 25), 4, none⟩,
 ⟨some 27, .move (.tmp 7), 24, (some (26, false))⟩,
 ⟨some 28, .call ⟨.value (.func 14), #[(.tmp 27)], #[24]⟩, 30, (some (26, false))⟩,
 ⟨some 29, .binOp .neq 30 (.tmp 28) (.const (.int .i64 0)) 30, 4, (some (26, false))⟩,
 ⟨some 30, .pick (.tmp 26) (.const (.bool true)) (.tmp 29), 4, none⟩] [0, 1, 5, 7, 30]) (sg c4S0)) (sg c4S19))
noncomputable def c4 : Cmd := (.seq (.ops [
 ⟨some 4, .assign (.const (.bool false)), 4, none⟩] [0, 1])
 (.seq (.ops [
 ⟨some 20, .call ⟨.value (.func 17), #[(.const (.int .i64 12))], #[3]⟩, 47, none⟩,
 ⟨some 19, .move (.tmp 20), 47, none⟩,
 ⟨some 21, .extract (.tmp 19) 0, 46, none⟩,
 ⟨some 22, .extract (.tmp 19) 1, 25, none⟩,
 ⟨some 23, .extract (.tmp 19) 2, 24, none⟩,
 ⟨some 5, .assign (.tmp 21), 46, none⟩,
 ⟨some 6, .assign (.tmp 22), 25, none⟩,
 ⟨some 7, .assign (.tmp 23), 24, none⟩] [0, 1, 5, 7]) (sg c4S20)))
set_option maxRecDepth 100000 in
theorem ent4 (a0 a1 : Value) (w : World) (K : Value → World → Prop) (h : W Tryz.prog c4 [(0, a0), (1, a1)] w (finQ Tryz.prog [.tmp 4] K)) : Ret Tryz.prog 4 [a0, a1] w K :=
  Ret_of_W (code := c4code) Tryz.func4 (by kernel_rfl) (by kernel_rfl) (of_decide_eq_true (by kernel_rfl)) h
@[go_sem] theorem go4 : goFunc Tryz.prog 4 = true := by kernel_rfl
noncomputable def c8S0 (_ : Unit) : Cmd := (.ops [
  ⟨some 9, .move (.tmp 0), 24, none⟩,
  ⟨some 10, .call ⟨.value (.func 35), #[(.tmp 9)], #[24]⟩, 0, none⟩] [])
noncomputable def c8S1 (_ : Unit) : Cmd := (.cond (.tmp 3)
  (.seq (.ops [
  ⟨some 4, .move (.tmp 0), 24, none⟩,
  ⟨some 5, .nilCheck (.tmp 4), 0, none⟩,
  ⟨some 6, .fieldAddr 28 (.tmp 5) 0, 0, none⟩,
  ⟨some 7, .load 25 (.tmp 6), 25, none⟩,
  ⟨some 8, .call ⟨.value (.func 34), #[(.tmp 7)], #[25]⟩, 0, none⟩] [0]) (sg c8S0))
  (.skip []))
noncomputable def c8 : Cmd := (.seq (.ops [
 ⟨some 2, .move (.tmp 0), 24, none⟩,
 ⟨some 3, .call ⟨.value (.func 32), #[(.tmp 2)], #[24]⟩, 4, none⟩] [0, 3]) (sg c8S1))
@[go_sem] theorem go8 : goFunc Tryz.prog 8 = true := by kernel_rfl
noncomputable def c13code : Code := match Tryz.f13.body with | some c => c | none => .skip
noncomputable def c13S0 (_ : Unit) : Cmd := (.cond (.tmp 6)
  (.seq (.ops [
  ⟨some 2, .assign (.const (.int .i64 3)), 30, none⟩] [2])
  .ret)
  (.skip [0]))
noncomputable def c13S1 (_ : Unit) : Cmd := (.seq (.ops [
 ⟨some 16, .move (.tmp 3), 30, none⟩,
 ⟨some 2, .assign (.tmp 16), 30, none⟩] [2])
 .ret)
noncomputable def c13S2 (_ : Unit) : Cmd := (.seq (.seq (.ops [
 ⟨some 12, .move (.tmp 3), 30, none⟩,
 ⟨some 13, .binOp .neq 30 (.tmp 12) (.const (.int .i64 0)) 30, 4, none⟩] [0, 3, 13])
 (.cond (.tmp 13)
  (.ops [
  ⟨some 14, .move (.tmp 0), 24, none⟩,
  ⟨some 15, .call ⟨.value (.func 35), #[(.tmp 14)], #[24]⟩, 0, none⟩] [3])
  (.skip [3]))) (sg c13S1))
noncomputable def c13S3 (_ : Unit) : Cmd := (.seq (.ops [
 ⟨some 7, .move (.tmp 0), 24, none⟩,
 ⟨some 8, .nilCheck (.tmp 7), 0, none⟩,
 ⟨some 9, .fieldAddr 28 (.tmp 8) 0, 0, none⟩,
 ⟨some 10, .load 25 (.tmp 9), 25, none⟩,
 ⟨some 11, .call ⟨.value (.func 39), #[(.tmp 10)], #[25]⟩, 30, none⟩,
 ⟨some 3, .assign (.tmp 11), 30, none⟩] [0, 3]) (sg c13S2))
noncomputable def c13 : Cmd := (.seq (.ops [
 ⟨some 2, .assign (.const (.int .i64 0)), 30, none⟩] [0])
 (.seq (.seq (.ops [
 ⟨some 4, .move (.tmp 0), 24, none⟩,
 ⟨some 5, .call ⟨.value (.func 32), #[(.tmp 4)], #[24]⟩, 4, none⟩,
 ⟨some 6, .unOp .not 4 (.tmp 5), 4, none⟩] [0, 6]) (sg c13S0)) (sg c13S3)))
set_option maxRecDepth 100000 in
theorem ent13 (a0 : Value) (w : World) (K : Value → World → Prop) (h : W Tryz.prog c13 [(0, a0)] w (finQ Tryz.prog [.tmp 2] K)) : Ret Tryz.prog 13 [a0] w K :=
  Ret_of_W (code := c13code) Tryz.func13 (by kernel_rfl) (by kernel_rfl) (of_decide_eq_true (by kernel_rfl)) h
@[go_sem] theorem go13 : goFunc Tryz.prog 13 = true := by kernel_rfl
noncomputable def c18code : Code := match Tryz.f18.body with | some c => c | none => .skip
noncomputable def c18S0 (_ : Unit) : Cmd := (.ops [
 ⟨some 8, .move (.tmp 4), 3, none⟩,
 ⟨some 9, .binOp .add 3 (.tmp 8) (.const (.int .i64 1)) 3, 3, none⟩,
 ⟨some 4, .assign (.tmp 9), 3, none⟩] [0, 2, 3, 4])
noncomputable def c18S1 (_ : Unit) : Cmd := (.seq (.block 1 (.ops [
 ⟨some 10, .move (.tmp 3), 49, none⟩,
 ⟨some 11, .call ⟨.value (.func 44), #[(.const (.string (ofL [])))], #[9]⟩, 9, none⟩,
 ⟨some 12, .buildSlice 49 1 #[(0, (.tmp 11))], 49, none⟩,
 ⟨some 13, .call ⟨.builtin .append, #[(.tmp 10), (.tmp 12)], #[49, 49]⟩, 49, none⟩,
 ⟨some 3, .assign (.tmp 13), 49, none⟩] [0, 2, 3, 4])) (sg c18S0))
noncomputable def c18L0 (_ : Unit) : Cmd := (.seq (.seq (.ops [
 ⟨some 5, .move (.tmp 4), 3, none⟩,
 ⟨some 6, .move (.tmp 0), 3, none⟩,
 ⟨some 7, .binOp .lss 3 (.tmp 5) (.tmp 6) 3, 4, none⟩] [0, 2, 3, 4, 7])
 (.cond (.tmp 7)
  (.skip [0, 2, 3, 4])
  (.exit 0 [2, 3]))) (sg c18S1))
noncomputable def c18S2 (_ : Unit) : Cmd := (.seq (.ops [
 ⟨some 14, .move (.tmp 3), 49, none⟩,
 ⟨some 15, .move (.tmp 3), 49, none⟩,
 ⟨some 16, .build 51 #[(0, (.tmp 14)), (1, (.tmp 15))], 51, none⟩,
 ⟨none, .store 51 (.tmp 2) (.tmp 16), 0, none⟩] [2])
 .ret)
noncomputable def c18 : Cmd := (.seq (.ops [
 ⟨some 2, .alloc 51, 0, none⟩] [0, 2])
 (.seq (.ops [
 ⟨some 3, .assign (.const (.slice none 0 0)), 49, none⟩] [0, 2, 3])
 (.seq (.seq (.ops [
 ⟨some 4, .assign (.const (.int .i64 0)), 3, none⟩] [0, 2, 3, 4])
 (.block 0 (.loop (sg c18L0)))) (sg c18S2))))
set_option maxRecDepth 100000 in
theorem ent18 (a0 : Value) (w : World) (K : Value → World → Prop) (h : W Tryz.prog c18 [(0, a0)] w (finQ Tryz.prog [.cell 2 51] K)) : Ret Tryz.prog 18 [a0] w K :=
  Ret_of_W (code := c18code) Tryz.func18 (by kernel_rfl) (by kernel_rfl) (of_decide_eq_true (by kernel_rfl)) h
@[go_sem] theorem go18 : goFunc Tryz.prog 18 = true := by kernel_rfl
noncomputable def c19code : Code := match Tryz.f19.body with | some c => c | none => .skip
noncomputable def c19S0 (_ : Unit) : Cmd := .ret
noncomputable def c19S1 (_ : Unit) : Cmd := (.seq (.ops [
 ⟨some 9, .load 51 (.tmp 1), 51, none⟩,
 ⟨some 10, .call ⟨.value (.func 45), #[(.tmp 9), (.const (.int .i64 0)), (.const (.string (ofL [3])))], #[51, 3, 9]⟩, 51, none⟩,
 ⟨some 11, .call ⟨.value (.func 45), #[(.tmp 10), (.const (.int .i64 1)), (.const (.string (ofL [])))], #[51, 3, 9]⟩, 51, none⟩,
 ⟨none, .store 51 (.tmp 2) (.tmp 11), 0, none⟩,
 ⟨some 3, .assign (.const (.int .i64 0)), 3, none⟩] [2, 3]) (sg c19S0))
noncomputable def c19 : Cmd := (.seq (.ops [
 ⟨some 1, .box 51 (.tmp 0), 0, none⟩,
 ⟨some 2, .alloc 51, 0, none⟩,
 ⟨some 3, .assign (.const (.int .i64 0)), 3, none⟩] [1, 2])
 (.seq (.seq (.ops [
 ⟨some 4, .fieldAddr 51 (.tmp 1) 0, 0, none⟩,
 ⟨some 5, .load 49 (.tmp 4), 49, none⟩,
 ⟨some 6, .call ⟨.builtin .len, #[(.tmp 5)], #[49]⟩, 3, none⟩,
 ⟨some 7, .binOp .lss 3 (.tmp 6) (.const (.int .i64 3)) 3, 4, none⟩] [1, 2, 7])
 (.cond (.tmp 7)
  (.seq (.ops [
  ⟨some 8, .load 51 (.tmp 1), 51, none⟩,
  ⟨none, .store 51 (.tmp 2) (.tmp 8), 0, none⟩,
  ⟨some 3, .assign (.const (.int .i64 1)), 3, none⟩] [2, 3])
  .ret)
  (.skip [1, 2]))) (sg c19S1)))
set_option maxRecDepth 100000 in
theorem ent19 (a0 : Value) (w : World) (K : Value → World → Prop) (h : W Tryz.prog c19 [(0, a0)] w (finQ Tryz.prog [.cell 2 51, .tmp 3] K)) : Ret Tryz.prog 19 [a0] w K :=
  Ret_of_W (code := c19code) Tryz.func19 (by kernel_rfl) (by kernel_rfl) (of_decide_eq_true (by kernel_rfl)) h
@[go_sem] theorem go19 : goFunc Tryz.prog 19 = true := by kernel_rfl
noncomputable def c20code : Code := match Tryz.f20.body with | some c => c | none => .skip
noncomputable def c20S0 (_ : Unit) : Cmd := (.seq (.ops [
  ⟨some 50, .move (.tmp 12), 30, none⟩,
  ⟨some 8, .assign (.tmp 50), 30, none⟩] [1, 7, 8, 9, 10, 11])
  (.seq (.ops [
  ⟨some 51, .move (.tmp 10), 3, none⟩,
  ⟨some 52, .move (.tmp 11), 3, none⟩,
  ⟨some 53, .binOp .neq 3 (.tmp 51) (.tmp 52) 3, 4, none⟩] [1, 7, 8, 9, 53])
  (.cond (.tmp 53)
   (.seq (.ops [
   ⟨some 6, .assign (.const (.bool false)), 4, none⟩] [6])
   .ret)
   (.skip [1, 7, 8, 9]))))
noncomputable def c20S1 (_ : Unit) : Cmd := (.seq (.ops [
  ⟨some 46, .move (.tmp 0), 24, none⟩,
  ⟨some 47, .call ⟨.value (.func 5), #[(.tmp 46)], #[24]⟩, 31, none⟩,
  ⟨some 45, .move (.tmp 47), 31, none⟩,
  ⟨some 48, .extract (.tmp 45) 0, 3, none⟩,
  ⟨some 49, .extract (.tmp 45) 1, 30, none⟩,
  ⟨some 11, .assign (.tmp 48), 3, none⟩,
  ⟨some 12, .assign (.tmp 49), 30, none⟩] [1, 7, 9, 10, 11, 12]) (sg c20S0))
noncomputable def c20S2 (_ : Unit) : Cmd := (.ops [
   ⟨some 65, .move (.tmp 0), 24, none⟩,
   ⟨some 66, .fieldAddr 23 (.tmp 5) 1, 0, none⟩,
   ⟨some 67, .load 3 (.tmp 66), 3, none⟩,
   ⟨some 68, .call ⟨.value (.func 9), #[(.tmp 65), (.tmp 67)], #[24, 3]⟩, 30, none⟩,
   ⟨some 8, .assign (.tmp 68), 30, none⟩] [1, 7, 8, 9])
noncomputable def c20S3 (_ : Unit) : Cmd := (.seq (.ops [
    ⟨some 87, .move (.tmp 13), 9, none⟩,
    ⟨some 88, .move (.tmp 15), 9, none⟩,
    ⟨some 89, .binOp .eql 9 (.tmp 87) (.tmp 88) 9, 4, none⟩,
    ⟨some 90, .move (.tmp 89), 4, none⟩,
    ⟨some 91, .move (.tmp 16), 30, (some (90, true))⟩,
    ⟨some 92, .move (.tmp 14), 3, (some (90, true))⟩,
    ⟨some 93, .binOp .eql 3 (.tmp 91) (.tmp 92) 3, 4, (some (90, true))⟩,
    ⟨some 94, .pick (.tmp 90) (.tmp 93) (.const (.bool false)), 4, none⟩,
    ⟨some 6, .assign (.tmp 94), 4, none⟩] [6])
    .ret)
noncomputable def c20S4 (_ : Unit) : Cmd := (.seq (.ops [
    ⟨some 81, .move (.tmp 0), 24, none⟩,
    ⟨some 82, .fieldAddr 23 (.tmp 5) 1, 0, none⟩,
    ⟨some 83, .load 3 (.tmp 82), 3, none⟩,
    ⟨some 84, .call ⟨.value (.func 6), #[(.tmp 81), (.tmp 83)], #[24, 3]⟩, 33, none⟩,
    ⟨some 80, .move (.tmp 84), 33, none⟩,
    ⟨some 85, .extract (.tmp 80) 0, 9, none⟩,
    ⟨some 86, .extract (.tmp 80) 1, 30, none⟩,
    ⟨some 15, .assign (.tmp 85), 9, none⟩,
    ⟨some 16, .assign (.tmp 86), 30, none⟩] [13, 14, 15, 16]) (sg c20S3))
noncomputable def c20S5 (_ : Unit) : Cmd := (.ops [
     ⟨some 108, .move (.tmp 0), 24, none⟩,
     ⟨some 109, .fieldAddr 23 (.tmp 5) 1, 0, none⟩,
     ⟨some 110, .load 3 (.tmp 109), 3, none⟩,
     ⟨some 111, .fieldAddr 23 (.tmp 5) 3, 0, none⟩,
     ⟨some 112, .load 9 (.tmp 111), 9, none⟩,
     ⟨some 113, .call ⟨.value (.func 10), #[(.tmp 108), (.tmp 110), (.tmp 112)], #[24, 3, 9]⟩, 30, none⟩,
     ⟨some 8, .assign (.tmp 113), 30, none⟩] [1, 7, 8, 9])
noncomputable def c20S6 (_ : Unit) : Cmd := (.seq (.ops [
      ⟨some 132, .move (.tmp 17), 3, none⟩,
      ⟨some 133, .move (.tmp 19), 3, none⟩,
      ⟨some 134, .binOp .eql 3 (.tmp 132) (.tmp 133) 3, 4, none⟩,
      ⟨some 135, .move (.tmp 134), 4, none⟩,
      ⟨some 136, .move (.tmp 20), 30, (some (135, true))⟩,
      ⟨some 137, .move (.tmp 18), 3, (some (135, true))⟩,
      ⟨some 138, .binOp .eql 3 (.tmp 136) (.tmp 137) 3, 4, (some (135, true))⟩,
      ⟨some 139, .pick (.tmp 135) (.tmp 138) (.const (.bool false)), 4, none⟩,
      ⟨some 6, .assign (.tmp 139), 4, none⟩] [6])
      .ret)
end Go.Proofs.YtmchjbgobiagiaaGreat
