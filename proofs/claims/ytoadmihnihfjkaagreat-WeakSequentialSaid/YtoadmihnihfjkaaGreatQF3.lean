/- Texts put together by program. -/
import Derived.Test.YtoadmihnihfjkaaGreatQF2
set_option linter.unusedSimpArgs false
set_option linter.unusedVariables false
set_option maxRecDepth 100000
noncomputable section

namespace Go.Proofs.YtoadmihnihfjkaaGreat
open Go Go.Ann
@[go_sem] theorem ty3tyK:tyK Tryz.prog 3=.int .i64:=by kernel_rfl
@[go_sem] theorem ty3sizeT:sizeT Tryz.prog 3=some 1:=by kernel_rfl
@[go_sem] theorem ty3zeroT:zeroT Tryz.prog 3=some (.int .i64 0):=by kernel_rfl
@[go_sem] theorem ty3conc:Program.concrete Tryz.prog 3=true:=by kernel_rfl
@[go_sem] theorem ty4tyK:tyK Tryz.prog 4=.bool:=by kernel_rfl
@[go_sem] theorem ty4isBoolT:isBoolT Tryz.prog 4=true:=by kernel_rfl
@[go_sem] theorem ty4sizeT:sizeT Tryz.prog 4=some 1:=by kernel_rfl
@[go_sem] theorem ty4zeroT:zeroT Tryz.prog 4=some (.bool false):=by kernel_rfl
@[go_sem] theorem ty4conc:Program.concrete Tryz.prog 4=true:=by kernel_rfl
@[go_sem] theorem ty5tyK:tyK Tryz.prog 5=.int .u8:=by kernel_rfl
@[go_sem] theorem ty5sizeT:sizeT Tryz.prog 5=some 1:=by kernel_rfl
@[go_sem] theorem ty5zeroT:zeroT Tryz.prog 5=some (.int .u8 0):=by kernel_rfl
@[go_sem] theorem ty5conc:Program.concrete Tryz.prog 5=true:=by kernel_rfl
@[go_sem] theorem ty9tyK:tyK Tryz.prog 9=.str:=by kernel_rfl
@[go_sem] theorem ty9isStrT:isStrT Tryz.prog 9=true:=by kernel_rfl
@[go_sem] theorem ty9sizeT:sizeT Tryz.prog 9=some 1:=by kernel_rfl
@[go_sem] theorem ty9zeroT:zeroT Tryz.prog 9=some (.string (ofL [])):=by kernel_rfl
@[go_sem] theorem ty9conc:Program.concrete Tryz.prog 9=true:=by kernel_rfl
@[go_sem] theorem ty22tyK:tyK Tryz.prog 22=.slice false 52:=by kernel_rfl
@[go_sem] theorem ty22isSliceT:isSliceT Tryz.prog 22=true:=by kernel_rfl
@[go_sem] theorem ty22sliI:sliI Tryz.prog 22=some 11:=by kernel_rfl
@[go_sem] theorem ty22mkI:mkI Tryz.prog 22=some (52,11,88,(.agg #[(.int .i64 0),(.int .i64 0),(.int .i64 0),(.int .i64 0),(.int .i64 0),(.int .i64 0),(.int .i64 0),(.bool false),(.int .i64 0),(.int .i64 0),(.int .i64 0)])):=by kernel_rfl
@[go_sem] theorem ty22sizeT:sizeT Tryz.prog 22=some 1:=by kernel_rfl
@[go_sem] theorem ty22zeroT:zeroT Tryz.prog 22=some (.slice none 0 0):=by kernel_rfl
@[go_sem] theorem ty22conc:Program.concrete Tryz.prog 22=true:=by kernel_rfl
@[go_sem] theorem ty25tyK:tyK Tryz.prog 25=.slice false 3:=by kernel_rfl
@[go_sem] theorem ty25isSliceT:isSliceT Tryz.prog 25=true:=by kernel_rfl
@[go_sem] theorem ty25sliI:sliI Tryz.prog 25=some 1:=by kernel_rfl
@[go_sem] theorem ty25mkI:mkI Tryz.prog 25=some (3,1,8,(.int .i64 0)):=by kernel_rfl
@[go_sem] theorem ty25sizeT:sizeT Tryz.prog 25=some 1:=by kernel_rfl
@[go_sem] theorem ty25zeroT:zeroT Tryz.prog 25=some (.slice none 0 0):=by kernel_rfl
@[go_sem] theorem ty25conc:Program.concrete Tryz.prog 25=true:=by kernel_rfl
@[go_sem] theorem ty26tyK:tyK Tryz.prog 26=.int .i64:=by kernel_rfl
@[go_sem] theorem ty26sizeT:sizeT Tryz.prog 26=some 1:=by kernel_rfl
@[go_sem] theorem ty26zeroT:zeroT Tryz.prog 26=some (.int .i64 0):=by kernel_rfl
@[go_sem] theorem ty26conc:Program.concrete Tryz.prog 26=true:=by kernel_rfl
@[go_sem] theorem ty31tyK:tyK Tryz.prog 31=.slice false 22:=by kernel_rfl
@[go_sem] theorem ty31isSliceT:isSliceT Tryz.prog 31=true:=by kernel_rfl
@[go_sem] theorem ty31sliI:sliI Tryz.prog 31=some 1:=by kernel_rfl
@[go_sem] theorem ty31mkI:mkI Tryz.prog 31=some (22,1,24,(.slice none 0 0)):=by kernel_rfl
@[go_sem] theorem ty31sizeT:sizeT Tryz.prog 31=some 1:=by kernel_rfl
@[go_sem] theorem ty31zeroT:zeroT Tryz.prog 31=some (.slice none 0 0):=by kernel_rfl
@[go_sem] theorem ty31conc:Program.concrete Tryz.prog 31=true:=by kernel_rfl
@[go_sem] theorem ty34tyK:tyK Tryz.prog 34=.agg 2:=by kernel_rfl
@[go_sem] theorem ty34sizeT:sizeT Tryz.prog 34=some 2:=by kernel_rfl
@[go_sem] theorem ty34zeroT:zeroT Tryz.prog 34=some (.agg #[(.slice none 0 0),(.bool false)]):=by kernel_rfl
@[go_sem] theorem ty34conc:Program.concrete Tryz.prog 34=true:=by kernel_rfl
@[go_sem] theorem ty34plc:plcT Tryz.prog 34=some [(0,1),(1,1)]:=by kernel_rfl
@[go_sem] theorem ty34fld0:fldI Tryz.prog 34 0=some (0,1,false):=by kernel_rfl
@[go_sem] theorem ty34fld1:fldI Tryz.prog 34 1=some (1,1,false):=by kernel_rfl
@[go_sem] theorem ty39tyK:tyK Tryz.prog 39=.slice false 47:=by kernel_rfl
@[go_sem] theorem ty39isSliceT:isSliceT Tryz.prog 39=true:=by kernel_rfl
@[go_sem] theorem ty39sliI:sliI Tryz.prog 39=some 3:=by kernel_rfl
@[go_sem] theorem ty39mkI:mkI Tryz.prog 39=some (47,3,40,(.agg #[(.int .i64 0),(.int .i64 0),(.slice none 0 0)])):=by kernel_rfl
@[go_sem] theorem ty39sizeT:sizeT Tryz.prog 39=some 1:=by kernel_rfl
@[go_sem] theorem ty39zeroT:zeroT Tryz.prog 39=some (.slice none 0 0):=by kernel_rfl
@[go_sem] theorem ty39conc:Program.concrete Tryz.prog 39=true:=by kernel_rfl
@[go_sem] theorem ty47tyK:tyK Tryz.prog 47=.agg 3:=by kernel_rfl
@[go_sem] theorem ty47sizeT:sizeT Tryz.prog 47=some 3:=by kernel_rfl
@[go_sem] theorem ty47zeroT:zeroT Tryz.prog 47=some (.agg #[(.int .i64 0),(.int .i64 0),(.slice none 0 0)]):=by kernel_rfl
@[go_sem] theorem ty47conc:Program.concrete Tryz.prog 47=true:=by kernel_rfl
@[go_sem] theorem ty47plc:plcT Tryz.prog 47=some [(0,1),(1,1),(2,1)]:=by kernel_rfl
@[go_sem] theorem ty47fld0:fldI Tryz.prog 47 0=some (0,1,false):=by kernel_rfl
@[go_sem] theorem ty47fld1:fldI Tryz.prog 47 1=some (1,1,false):=by kernel_rfl
@[go_sem] theorem ty47fld2:fldI Tryz.prog 47 2=some (2,1,false):=by kernel_rfl
@[go_sem] theorem ty52tyK:tyK Tryz.prog 52=.agg 11:=by kernel_rfl
@[go_sem] theorem ty52sizeT:sizeT Tryz.prog 52=some 11:=by kernel_rfl
@[go_sem] theorem ty52zeroT:zeroT Tryz.prog 52=some (.agg #[(.int .i64 0),(.int .i64 0),(.int .i64 0),(.int .i64 0),(.int .i64 0),(.int .i64 0),(.int .i64 0),(.bool false),(.int .i64 0),(.int .i64 0),(.int .i64 0)]):=by kernel_rfl
@[go_sem] theorem ty52conc:Program.concrete Tryz.prog 52=true:=by kernel_rfl
@[go_sem] theorem ty52plc:plcT Tryz.prog 52=some [(0,1),(1,1),(2,1),(3,1),(4,1),(5,1),(6,1),(7,1),(8,1),(9,1),(10,1)]:=by kernel_rfl
@[go_sem] theorem ty52flat:flatT Tryz.prog 52=some [.int,.int,.int,.int,.int,.int,.int,.bool,.int,.int,.int]:=by kernel_rfl
@[go_sem] theorem ty52fld0:fldI Tryz.prog 52 0=some (0,1,false):=by kernel_rfl
@[go_sem] theorem ty52fld1:fldI Tryz.prog 52 1=some (1,1,false):=by kernel_rfl
@[go_sem] theorem ty52fld2:fldI Tryz.prog 52 2=some (2,1,false):=by kernel_rfl
@[go_sem] theorem ty52fld3:fldI Tryz.prog 52 3=some (3,1,false):=by kernel_rfl
@[go_sem] theorem ty52fld4:fldI Tryz.prog 52 4=some (4,1,false):=by kernel_rfl
@[go_sem] theorem ty52fld5:fldI Tryz.prog 52 5=some (5,1,false):=by kernel_rfl
@[go_sem] theorem ty52fld6:fldI Tryz.prog 52 6=some (6,1,false):=by kernel_rfl
@[go_sem] theorem ty52fld7:fldI Tryz.prog 52 7=some (7,1,false):=by kernel_rfl
@[go_sem] theorem ty52fld8:fldI Tryz.prog 52 8=some (8,1,false):=by kernel_rfl
@[go_sem] theorem ty52fld9:fldI Tryz.prog 52 9=some (9,1,false):=by kernel_rfl
@[go_sem] theorem ty52fld10:fldI Tryz.prog 52 10=some (10,1,false):=by kernel_rfl
@[go_sem] theorem ty54tyK:tyK Tryz.prog 54=.ptr:=by kernel_rfl
@[go_sem] theorem ty54isPtrT:isPtrT Tryz.prog 54=true:=by kernel_rfl
@[go_sem] theorem ty54sizeT:sizeT Tryz.prog 54=some 1:=by kernel_rfl
@[go_sem] theorem ty54zeroT:zeroT Tryz.prog 54=some (.pointer none):=by kernel_rfl
@[go_sem] theorem ty54conc:Program.concrete Tryz.prog 54=true:=by kernel_rfl
@[go_sem] theorem ty56tyK:tyK Tryz.prog 56=.map:=by kernel_rfl
@[go_sem] theorem ty56isMapT:isMapT Tryz.prog 56=true:=by kernel_rfl
@[go_sem] theorem ty56sizeT:sizeT Tryz.prog 56=some 1:=by kernel_rfl
@[go_sem] theorem ty56zeroT:zeroT Tryz.prog 56=some (.map none):=by kernel_rfl
@[go_sem] theorem ty56conc:Program.concrete Tryz.prog 56=true:=by kernel_rfl
@[go_sem] theorem ty57tyK:tyK Tryz.prog 57=.slice false 65:=by kernel_rfl
@[go_sem] theorem ty57isSliceT:isSliceT Tryz.prog 57=true:=by kernel_rfl
@[go_sem] theorem ty57sliI:sliI Tryz.prog 57=some 1:=by kernel_rfl
@[go_sem] theorem ty57mkI:mkI Tryz.prog 57=some (65,1,8,(.pointer none)):=by kernel_rfl
@[go_sem] theorem ty57sizeT:sizeT Tryz.prog 57=some 1:=by kernel_rfl
@[go_sem] theorem ty57zeroT:zeroT Tryz.prog 57=some (.slice none 0 0):=by kernel_rfl
@[go_sem] theorem ty57conc:Program.concrete Tryz.prog 57=true:=by kernel_rfl
@[go_sem] theorem ty58tyK:tyK Tryz.prog 58=.map:=by kernel_rfl
@[go_sem] theorem ty58isMapT:isMapT Tryz.prog 58=true:=by kernel_rfl
@[go_sem] theorem ty58sizeT:sizeT Tryz.prog 58=some 1:=by kernel_rfl
@[go_sem] theorem ty58zeroT:zeroT Tryz.prog 58=some (.map none):=by kernel_rfl
@[go_sem] theorem ty58conc:Program.concrete Tryz.prog 58=true:=by kernel_rfl
@[go_sem] theorem ty60tyK:tyK Tryz.prog 60=.agg 5:=by kernel_rfl
@[go_sem] theorem ty60sizeT:sizeT Tryz.prog 60=some 5:=by kernel_rfl
@[go_sem] theorem ty60zeroT:zeroT Tryz.prog 60=some (.agg #[(.slice none 0 0),(.map none),(.slice none 0 0),(.map none),(.int .i64 0)]):=by kernel_rfl
@[go_sem] theorem ty60conc:Program.concrete Tryz.prog 60=true:=by kernel_rfl
@[go_sem] theorem ty60plc:plcT Tryz.prog 60=some [(0,1),(1,1),(2,1),(3,1),(4,1)]:=by kernel_rfl
@[go_sem] theorem ty60fld0:fldI Tryz.prog 60 0=some (0,1,false):=by kernel_rfl
@[go_sem] theorem ty60fld1:fldI Tryz.prog 60 1=some (1,1,false):=by kernel_rfl
@[go_sem] theorem ty60fld2:fldI Tryz.prog 60 2=some (2,1,false):=by kernel_rfl
@[go_sem] theorem ty60fld3:fldI Tryz.prog 60 3=some (3,1,false):=by kernel_rfl
@[go_sem] theorem ty60fld4:fldI Tryz.prog 60 4=some (4,1,false):=by kernel_rfl
@[go_sem] theorem ty61tyK:tyK Tryz.prog 61=.slice false 25:=by kernel_rfl
@[go_sem] theorem ty61isSliceT:isSliceT Tryz.prog 61=true:=by kernel_rfl
@[go_sem] theorem ty61sliI:sliI Tryz.prog 61=some 1:=by kernel_rfl
@[go_sem] theorem ty61mkI:mkI Tryz.prog 61=some (25,1,24,(.slice none 0 0)):=by kernel_rfl
@[go_sem] theorem ty61sizeT:sizeT Tryz.prog 61=some 1:=by kernel_rfl
@[go_sem] theorem ty61zeroT:zeroT Tryz.prog 61=some (.slice none 0 0):=by kernel_rfl
@[go_sem] theorem ty61conc:Program.concrete Tryz.prog 61=true:=by kernel_rfl
@[go_sem] theorem ty62tyK:tyK Tryz.prog 62=.slice false 113:=by kernel_rfl
@[go_sem] theorem ty62isSliceT:isSliceT Tryz.prog 62=true:=by kernel_rfl
@[go_sem] theorem ty62sliI:sliI Tryz.prog 62=some 2:=by kernel_rfl
@[go_sem] theorem ty62mkI:mkI Tryz.prog 62=some (113,2,16,(.agg #[(.int .i64 0),(.int .i64 0)])):=by kernel_rfl
@[go_sem] theorem ty62sizeT:sizeT Tryz.prog 62=some 1:=by kernel_rfl
@[go_sem] theorem ty62zeroT:zeroT Tryz.prog 62=some (.slice none 0 0):=by kernel_rfl
@[go_sem] theorem ty62conc:Program.concrete Tryz.prog 62=true:=by kernel_rfl
@[go_sem] theorem ty64tyK:tyK Tryz.prog 64=.agg 5:=by kernel_rfl
@[go_sem] theorem ty64sizeT:sizeT Tryz.prog 64=some 5:=by kernel_rfl
@[go_sem] theorem ty64zeroT:zeroT Tryz.prog 64=some (.agg #[(.slice none 0 0),(.slice none 0 0),(.slice none 0 0),(.bool false),(.bool false)]):=by kernel_rfl
@[go_sem] theorem ty64conc:Program.concrete Tryz.prog 64=true:=by kernel_rfl
@[go_sem] theorem ty64plc:plcT Tryz.prog 64=some [(0,1),(1,1),(2,1),(3,1),(4,1)]:=by kernel_rfl
@[go_sem] theorem ty64fld0:fldI Tryz.prog 64 0=some (0,1,false):=by kernel_rfl
@[go_sem] theorem ty64fld1:fldI Tryz.prog 64 1=some (1,1,false):=by kernel_rfl
@[go_sem] theorem ty64fld2:fldI Tryz.prog 64 2=some (2,1,false):=by kernel_rfl
@[go_sem] theorem ty64fld3:fldI Tryz.prog 64 3=some (3,1,false):=by kernel_rfl
@[go_sem] theorem ty64fld4:fldI Tryz.prog 64 4=some (4,1,false):=by kernel_rfl
@[go_sem] theorem ty65tyK:tyK Tryz.prog 65=.ptr:=by kernel_rfl
@[go_sem] theorem ty65isPtrT:isPtrT Tryz.prog 65=true:=by kernel_rfl
@[go_sem] theorem ty65sizeT:sizeT Tryz.prog 65=some 1:=by kernel_rfl
@[go_sem] theorem ty65zeroT:zeroT Tryz.prog 65=some (.pointer none):=by kernel_rfl
@[go_sem] theorem ty65conc:Program.concrete Tryz.prog 65=true:=by kernel_rfl
@[go_sem] theorem ty68tyK:tyK Tryz.prog 68=.slice false 125:=by kernel_rfl
@[go_sem] theorem ty68isSliceT:isSliceT Tryz.prog 68=true:=by kernel_rfl
@[go_sem] theorem ty68sliI:sliI Tryz.prog 68=some 2:=by kernel_rfl
@[go_sem] theorem ty68mkI:mkI Tryz.prog 68=some (125,2,32,(.agg #[(.int .i64 0),(.slice none 0 0)])):=by kernel_rfl
@[go_sem] theorem ty68sizeT:sizeT Tryz.prog 68=some 1:=by kernel_rfl
@[go_sem] theorem ty68zeroT:zeroT Tryz.prog 68=some (.slice none 0 0):=by kernel_rfl
@[go_sem] theorem ty68conc:Program.concrete Tryz.prog 68=true:=by kernel_rfl
@[go_sem] theorem ty70tyK:tyK Tryz.prog 70=.agg 2:=by kernel_rfl
@[go_sem] theorem ty70sizeT:sizeT Tryz.prog 70=some 2:=by kernel_rfl
@[go_sem] theorem ty70zeroT:zeroT Tryz.prog 70=some (.agg #[(.slice none 0 0),(.slice none 0 0)]):=by kernel_rfl
@[go_sem] theorem ty70conc:Program.concrete Tryz.prog 70=true:=by kernel_rfl
@[go_sem] theorem ty70plc:plcT Tryz.prog 70=some [(0,1),(1,1)]:=by kernel_rfl
@[go_sem] theorem ty70fld0:fldI Tryz.prog 70 0=some (0,1,false):=by kernel_rfl
@[go_sem] theorem ty70fld1:fldI Tryz.prog 70 1=some (1,1,false):=by kernel_rfl
@[go_sem] theorem ty71tyK:tyK Tryz.prog 71=.slice false 70:=by kernel_rfl
@[go_sem] theorem ty71isSliceT:isSliceT Tryz.prog 71=true:=by kernel_rfl
@[go_sem] theorem ty71sliI:sliI Tryz.prog 71=some 2:=by kernel_rfl
@[go_sem] theorem ty71mkI:mkI Tryz.prog 71=some (70,2,48,(.agg #[(.slice none 0 0),(.slice none 0 0)])):=by kernel_rfl
@[go_sem] theorem ty71sizeT:sizeT Tryz.prog 71=some 1:=by kernel_rfl
@[go_sem] theorem ty71zeroT:zeroT Tryz.prog 71=some (.slice none 0 0):=by kernel_rfl
@[go_sem] theorem ty71conc:Program.concrete Tryz.prog 71=true:=by kernel_rfl
@[go_sem] theorem ty73tyK:tyK Tryz.prog 73=.map:=by kernel_rfl
@[go_sem] theorem ty73isMapT:isMapT Tryz.prog 73=true:=by kernel_rfl
@[go_sem] theorem ty73sizeT:sizeT Tryz.prog 73=some 1:=by kernel_rfl
@[go_sem] theorem ty73zeroT:zeroT Tryz.prog 73=some (.map none):=by kernel_rfl
@[go_sem] theorem ty73conc:Program.concrete Tryz.prog 73=true:=by kernel_rfl
@[go_sem] theorem ty78tyK:tyK Tryz.prog 78=.map:=by kernel_rfl
@[go_sem] theorem ty78isMapT:isMapT Tryz.prog 78=true:=by kernel_rfl
@[go_sem] theorem ty78sizeT:sizeT Tryz.prog 78=some 1:=by kernel_rfl
@[go_sem] theorem ty78zeroT:zeroT Tryz.prog 78=some (.map none):=by kernel_rfl
@[go_sem] theorem ty78conc:Program.concrete Tryz.prog 78=true:=by kernel_rfl
@[go_sem] theorem ty91tyK:tyK Tryz.prog 91=.map:=by kernel_rfl
@[go_sem] theorem ty91isMapT:isMapT Tryz.prog 91=true:=by kernel_rfl
@[go_sem] theorem ty91sizeT:sizeT Tryz.prog 91=some 1:=by kernel_rfl
@[go_sem] theorem ty91zeroT:zeroT Tryz.prog 91=some (.map none):=by kernel_rfl
@[go_sem] theorem ty91conc:Program.concrete Tryz.prog 91=true:=by kernel_rfl
@[go_sem] theorem ty107tyK:tyK Tryz.prog 107=.other:=by kernel_rfl
@[go_sem] theorem ty107isFuncT:isFuncT Tryz.prog 107=true:=by kernel_rfl
@[go_sem] theorem ty107sizeT:sizeT Tryz.prog 107=some 1:=by kernel_rfl
@[go_sem] theorem ty107zeroT:zeroT Tryz.prog 107=some .nilFunc:=by kernel_rfl
@[go_sem] theorem ty107conc:Program.concrete Tryz.prog 107=true:=by kernel_rfl
@[go_sem] theorem ty113tyK:tyK Tryz.prog 113=.agg 2:=by kernel_rfl
@[go_sem] theorem ty113sizeT:sizeT Tryz.prog 113=some 2:=by kernel_rfl
@[go_sem] theorem ty113zeroT:zeroT Tryz.prog 113=some (.agg #[(.int .i64 0),(.int .i64 0)]):=by kernel_rfl
@[go_sem] theorem ty113conc:Program.concrete Tryz.prog 113=true:=by kernel_rfl
@[go_sem] theorem ty113plc:plcT Tryz.prog 113=some [(0,1),(1,1)]:=by kernel_rfl
@[go_sem] theorem ty113flat:flatT Tryz.prog 113=some [.int,.int]:=by kernel_rfl
@[go_sem] theorem ty113fld0:fldI Tryz.prog 113 0=some (0,1,false):=by kernel_rfl
@[go_sem] theorem ty113fld1:fldI Tryz.prog 113 1=some (1,1,false):=by kernel_rfl
@[go_sem] theorem ty117tyK:tyK Tryz.prog 117=.agg 4:=by kernel_rfl
@[go_sem] theorem ty117sizeT:sizeT Tryz.prog 117=some 4:=by kernel_rfl
@[go_sem] theorem ty117zeroT:zeroT Tryz.prog 117=some (.agg #[(.int .i64 0),(.int .i64 0),(.int .i64 0),(.int .i64 0)]):=by kernel_rfl
@[go_sem] theorem ty117conc:Program.concrete Tryz.prog 117=true:=by kernel_rfl
@[go_sem] theorem ty117plc:plcT Tryz.prog 117=some [(0,1),(1,1),(2,1),(3,1)]:=by kernel_rfl
@[go_sem] theorem ty117flat:flatT Tryz.prog 117=some [.int,.int,.int,.int]:=by kernel_rfl
@[go_sem] theorem ty117fld0:fldI Tryz.prog 117 0=some (0,1,false):=by kernel_rfl
@[go_sem] theorem ty117fld1:fldI Tryz.prog 117 1=some (1,1,false):=by kernel_rfl
@[go_sem] theorem ty117fld2:fldI Tryz.prog 117 2=some (2,1,false):=by kernel_rfl
@[go_sem] theorem ty117fld3:fldI Tryz.prog 117 3=some (3,1,false):=by kernel_rfl
@[go_sem] theorem ty120tyK:tyK Tryz.prog 120=.slice true 5:=by kernel_rfl
@[go_sem] theorem ty120isSliceT:isSliceT Tryz.prog 120=true:=by kernel_rfl
@[go_sem] theorem ty120sliI:sliI Tryz.prog 120=some 1:=by kernel_rfl
@[go_sem] theorem ty120mkI:mkI Tryz.prog 120=some (5,1,1,(.int .u8 0)):=by kernel_rfl
@[go_sem] theorem ty120sizeT:sizeT Tryz.prog 120=some 1:=by kernel_rfl
@[go_sem] theorem ty120zeroT:zeroT Tryz.prog 120=some (.slice none 0 0):=by kernel_rfl
@[go_sem] theorem ty120conc:Program.concrete Tryz.prog 120=true:=by kernel_rfl
@[go_sem] theorem ty125tyK:tyK Tryz.prog 125=.agg 2:=by kernel_rfl
@[go_sem] theorem ty125sizeT:sizeT Tryz.prog 125=some 2:=by kernel_rfl
@[go_sem] theorem ty125zeroT:zeroT Tryz.prog 125=some (.agg #[(.int .i64 0),(.slice none 0 0)]):=by kernel_rfl
@[go_sem] theorem ty125conc:Program.concrete Tryz.prog 125=true:=by kernel_rfl
@[go_sem] theorem ty125plc:plcT Tryz.prog 125=some [(0,1),(1,1)]:=by kernel_rfl
@[go_sem] theorem ty125fld0:fldI Tryz.prog 125 0=some (0,1,false):=by kernel_rfl
@[go_sem] theorem ty125fld1:fldI Tryz.prog 125 1=some (1,1,false):=by kernel_rfl
@[go_sem] theorem ty135tyK:tyK Tryz.prog 135=.int .u64:=by kernel_rfl
@[go_sem] theorem ty135sizeT:sizeT Tryz.prog 135=some 1:=by kernel_rfl
@[go_sem] theorem ty135zeroT:zeroT Tryz.prog 135=some (.int .u64 0):=by kernel_rfl
@[go_sem] theorem ty135conc:Program.concrete Tryz.prog 135=true:=by kernel_rfl
@[go_sem] theorem ty144tyK:tyK Tryz.prog 144=.slice false 117:=by kernel_rfl
@[go_sem] theorem ty144isSliceT:isSliceT Tryz.prog 144=true:=by kernel_rfl
@[go_sem] theorem ty144sliI:sliI Tryz.prog 144=some 4:=by kernel_rfl
@[go_sem] theorem ty144mkI:mkI Tryz.prog 144=some (117,4,32,(.agg #[(.int .i64 0),(.int .i64 0),(.int .i64 0),(.int .i64 0)])):=by kernel_rfl
@[go_sem] theorem ty144sizeT:sizeT Tryz.prog 144=some 1:=by kernel_rfl
@[go_sem] theorem ty144zeroT:zeroT Tryz.prog 144=some (.slice none 0 0):=by kernel_rfl
@[go_sem] theorem ty144conc:Program.concrete Tryz.prog 144=true:=by kernel_rfl
@[go_sem] theorem ty147tyK:tyK Tryz.prog 147=.int .u64:=by kernel_rfl
@[go_sem] theorem ty147sizeT:sizeT Tryz.prog 147=some 1:=by kernel_rfl
@[go_sem] theorem ty147zeroT:zeroT Tryz.prog 147=some (.int .u64 0):=by kernel_rfl
@[go_sem] theorem ty147conc:Program.concrete Tryz.prog 147=true:=by kernel_rfl
@[go_sem] theorem ty150tyK:tyK Tryz.prog 150=.agg 3:=by kernel_rfl
@[go_sem] theorem ty150sizeT:sizeT Tryz.prog 150=some 3:=by kernel_rfl
@[go_sem] theorem ty150zeroT:zeroT Tryz.prog 150=some (.agg #[(.slice none 0 0),(.int .i64 0),(.bool false)]):=by kernel_rfl
@[go_sem] theorem ty150conc:Program.concrete Tryz.prog 150=true:=by kernel_rfl
@[go_sem] theorem ty150plc:plcT Tryz.prog 150=some [(0,1),(1,1),(2,1)]:=by kernel_rfl
@[go_sem] theorem ty150fld0:fldI Tryz.prog 150 0=some (0,1,false):=by kernel_rfl
@[go_sem] theorem ty150fld1:fldI Tryz.prog 150 1=some (1,1,false):=by kernel_rfl
@[go_sem] theorem ty150fld2:fldI Tryz.prog 150 2=some (2,1,false):=by kernel_rfl
@[go_sem] theorem ty156tyK:tyK Tryz.prog 156=.int .i64:=by kernel_rfl
@[go_sem] theorem ty156sizeT:sizeT Tryz.prog 156=some 1:=by kernel_rfl
@[go_sem] theorem ty156zeroT:zeroT Tryz.prog 156=some (.int .i64 0):=by kernel_rfl
@[go_sem] theorem ty156conc:Program.concrete Tryz.prog 156=true:=by kernel_rfl
def c3code:Code:=match Tryz.f3.body with | some c=>c | none=>.skip
def c3S0(_:Unit):Cmd:=.ret
def c3S1(_:Unit):Cmd:=(.cond (.tmp 24)
 (.seq (.ops [
 ⟨some 25,.call ⟨.value (.func 10),#[],#[]⟩,4,none⟩,
 ⟨some 4,.assign (.tmp 25),4,none⟩] [4]) (sg c3S0))
 (.skip [0,1]))
def c3S2(_:Unit):Cmd:=.ret
def c3S3(_:Unit):Cmd:=.ret
def c3S4(_:Unit):Cmd:=(.cond (.tmp 57)
 (.seq (.ops [
 ⟨some 58,.move (.tmp 5),25,none⟩,
 ⟨some 59,.call ⟨.builtin .len,#[(.tmp 58)],#[25]⟩,3,none⟩,
 ⟨some 60,.binOp .eql 3 (.tmp 59) (.const (.int .i64 0)) 3,4,none⟩,
 ⟨some 61,.move (.tmp 60),4,none⟩,
 ⟨some 62,.move (.tmp 6),4,(some (61,true))⟩,
 ⟨some 63,.unOp .not 4 (.tmp 62),4,(some (61,true))⟩,
 ⟨some 64,.pick (.tmp 61) (.tmp 63) (.const (.bool false)),4,none⟩,
 ⟨some 65,.move (.tmp 64),4,none⟩,
 ⟨some 66,.move (.tmp 7),3,(some (65,true))⟩,
 ⟨some 67,.binOp .eql 3 (.tmp 66) (.const (.int .i64 0)) 3,4,(some (65,true))⟩,
 ⟨some 68,.pick (.tmp 65) (.tmp 67) (.const (.bool false)),4,none⟩,
 ⟨some 69,.move (.tmp 68),4,none⟩,
 ⟨some 70,.move (.tmp 8),26,(some (69,true))⟩,
 ⟨some 71,.move (.tmp 0),22,(some (69,true))⟩,
 ⟨some 72,.call ⟨.value (.func 12),#[(.tmp 71)],#[22]⟩,3,(some (69,true))⟩,
 ⟨some 73,.binOp .eql 3 (.tmp 70) (.tmp 72) 3,4,(some (69,true))⟩,
 ⟨some 74,.pick (.tmp 69) (.tmp 73) (.const (.bool false)),4,none⟩,
 ⟨some 75,.move (.tmp 74),4,none⟩,
 ⟨some 76,.call ⟨.value (.func 10),#[],#[]⟩,4,(some (75,true))⟩,
 ⟨some 77,.pick (.tmp 75) (.tmp 76) (.const (.bool false)),4,none⟩,
 ⟨some 4,.assign (.tmp 77),4,none⟩] [4]) (sg c3S3))
 (.skip [0,1,5,6,7,8]))
def c3S5(_:Unit):Cmd:=.ret
def c3S6(_:Unit):Cmd:=(.cond (.tmp 87)
 (.seq (.ops [
 ⟨some 88,.move (.tmp 5),25,none⟩,
 ⟨some 89,.call ⟨.builtin .len,#[(.tmp 88)],#[25]⟩,3,none⟩,
 ⟨some 90,.binOp .eql 3 (.tmp 89) (.const (.int .i64 0)) 3,4,none⟩,
 ⟨some 91,.move (.tmp 90),4,none⟩,
 ⟨some 92,.move (.tmp 6),4,(some (91,true))⟩,
 ⟨some 93,.unOp .not 4 (.tmp 92),4,(some (91,true))⟩,
 ⟨some 94,.pick (.tmp 91) (.tmp 93) (.const (.bool false)),4,none⟩,
 ⟨some 95,.move (.tmp 94),4,none⟩,
 ⟨some 96,.move (.tmp 7),3,(some (95,true))⟩,
 ⟨some 97,.binOp .eql 3 (.tmp 96) (.const (.int .i64 0)) 3,4,(some (95,true))⟩,
 ⟨some 98,.pick (.tmp 95) (.tmp 97) (.const (.bool false)),4,none⟩,
 ⟨some 99,.move (.tmp 98),4,none⟩,
 ⟨some 100,.move (.tmp 8),26,(some (99,true))⟩,
 ⟨some 101,.binOp .eql 26 (.tmp 100) (.const (.int .i64 35)) 26,4,(some (99,true))⟩,
 ⟨some 102,.pick (.tmp 99) (.tmp 101) (.const (.bool false)),4,none⟩,
 ⟨some 103,.move (.tmp 102),4,none⟩,
 ⟨some 104,.call ⟨.value (.func 10),#[],#[]⟩,4,(some (103,true))⟩,
 ⟨some 105,.pick (.tmp 103) (.tmp 104) (.const (.bool false)),4,none⟩,
 ⟨some 4,.assign (.tmp 105),4,none⟩] [4]) (sg c3S5))
 (.skip [0,5,6,7,8,9]))
def c3S7(_:Unit):Cmd:=.ret
def c3S8(_:Unit):Cmd:=(.seq (.ops [
 ⟨some 114,.move (.tmp 8),26,none⟩,
 ⟨some 115,.binOp .eql 26 (.tmp 114) (.const (.int .i64 0)) 26,4,none⟩,
 ⟨some 116,.move (.tmp 115),4,none⟩,
 ⟨some 117,.move (.tmp 7),3,(some (116,true))⟩,
 ⟨some 118,.move (.tmp 0),22,(some (116,true))⟩,
 ⟨some 119,.move (.tmp 9),3,(some (116,true))⟩,
 ⟨some 120,.call ⟨.value (.func 13),#[(.tmp 118),(.tmp 119)],#[22,3]⟩,3,(some (116,true))⟩,
 ⟨some 121,.binOp .eql 3 (.tmp 117) (.tmp 120) 3,4,(some (116,true))⟩,
 ⟨some 122,.pick (.tmp 116) (.tmp 121) (.const (.bool false)),4,none⟩,
 ⟨some 123,.move (.tmp 122),4,none⟩,
 ⟨some 124,.move (.tmp 6),4,(some (123,true))⟩,
 ⟨some 125,.fieldAddr 34 (.tmp 11) 1,0,(some (123,true))⟩,
 ⟨some 126,.load 4 (.tmp 125),4,(some (123,true))⟩,
 ⟨some 127,.binOp .eql 4 (.tmp 124) (.tmp 126) 4,4,(some (123,true))⟩,
 ⟨some 128,.pick (.tmp 123) (.tmp 127) (.const (.bool false)),4,none⟩,
 ⟨some 129,.move (.tmp 128),4,none⟩,
 ⟨some 130,.move (.tmp 5),25,(some (129,true))⟩,
 ⟨some 131,.fieldAddr 34 (.tmp 11) 0,0,(some (129,true))⟩,
 ⟨some 132,.load 25 (.tmp 131),25,(some (129,true))⟩,
 ⟨some 133,.call ⟨.value (.func 16),#[(.tmp 130),(.tmp 132)],#[25,25]⟩,4,(some (129,true))⟩,
 ⟨some 134,.pick (.tmp 129) (.tmp 133) (.const (.bool false)),4,none⟩,
 ⟨some 135,.move (.tmp 134),4,none⟩,
 ⟨some 136,.call ⟨.value (.func 10),#[],#[]⟩,4,(some (135,true))⟩,
 ⟨some 137,.pick (.tmp 135) (.tmp 136) (.const (.bool false)),4,none⟩,
 ⟨some 4,.assign (.tmp 137),4,none⟩] [4]) (sg c3S7))
def c3S9(_:Unit):Cmd:=(.seq (.ops [
 ⟨some 108,.move (.tmp 10),31,none⟩,
 ⟨some 109,.move (.tmp 10),31,none⟩,
 ⟨some 110,.call ⟨.builtin .len,#[(.tmp 109)],#[31]⟩,3,none⟩,
 ⟨some 111,.makeSlice 25 (.tmp 110) (.tmp 110),25,none⟩,
 ⟨some 112,.build 34 #[],34,none⟩,
 ⟨some 113,.call ⟨.value (.func 15),#[(.tmp 108),(.tmp 111),(.const (.slice none 0 0)),(.const (.slice none 0 0)),(.tmp 112)],#[31,25,68,25,34]⟩,34,none⟩,
 ⟨some 11,.alloc 34,0,none⟩,
 ⟨none,.store 34 (.tmp 11) (.tmp 113),0,none⟩] [0,5,6,7,8,9,11]) (sg c3S8))
def c3S10(_:Unit):Cmd:=(.seq (.ops [
 ⟨some 106,.move (.tmp 0),22,none⟩,
 ⟨some 107,.call ⟨.value (.func 14),#[(.tmp 106)],#[22]⟩,31,none⟩,
 ⟨some 10,.assign (.tmp 107),31,none⟩] [0,5,6,7,8,9,10]) (sg c3S9))
def c3S11(_:Unit):Cmd:=(.seq (.seq (.ops [
 ⟨some 83,.move (.tmp 0),22,none⟩,
 ⟨some 84,.move (.tmp 9),3,none⟩,
 ⟨some 85,.call ⟨.value (.func 13),#[(.tmp 83),(.tmp 84)],#[22,3]⟩,3,none⟩,
 ⟨some 86,.move (.tmp 1),3,none⟩,
 ⟨some 87,.binOp .gtr 3 (.tmp 85) (.tmp 86) 3,4,none⟩] [0,5,6,7,8,9,87]) (sg c3S6)) (sg c3S10))
def c3S12(_:Unit):Cmd:=(.seq (.seq (.ops [
 ⟨some 81,.move (.tmp 9),3,none⟩,
 ⟨some 82,.binOp .lss 3 (.tmp 81) (.const (.int .i64 0)) 3,4,none⟩] [0,1,5,6,7,8,9,82])
 (.cond (.tmp 82)
 (.ops [
 ⟨some 9,.assign (.const (.int .i64 0)),3,none⟩] [0,1,5,6,7,8,9])
 (.skip [0,1,5,6,7,8,9]))) (sg c3S11))
def c3S13(_:Unit):Cmd:=(.seq (.ops [
 ⟨some 78,.move (.tmp 1),3,none⟩,
 ⟨some 9,.assign (.tmp 78),3,none⟩] [0,1,5,6,7,8,9])
 (.seq (.seq (.ops [
 ⟨some 79,.move (.tmp 9),3,none⟩,
 ⟨some 80,.binOp .gtr 3 (.tmp 79) (.const (.int .i64 32768)) 3,4,none⟩] [0,1,5,6,7,8,9,80])
 (.cond (.tmp 80)
 (.ops [
 ⟨some 9,.assign (.const (.int .i64 32768)),3,none⟩] [0,1,5,6,7,8,9])
 (.skip [0,1,5,6,7,8,9]))) (sg c3S12)))
def c3S14(_:Unit):Cmd:=(.seq (.seq (.ops [
 ⟨some 55,.move (.tmp 0),22,none⟩,
 ⟨some 56,.call ⟨.value (.func 12),#[(.tmp 55)],#[22]⟩,3,none⟩,
 ⟨some 57,.binOp .neq 3 (.tmp 56) (.const (.int .i64 0)) 3,4,none⟩] [0,1,5,6,7,8,57]) (sg c3S4)) (sg c3S13))
def c3S15(_:Unit):Cmd:=(.seq (.seq (.ops [
 ⟨some 34,.move (.tmp 0),22,none⟩,
 ⟨some 35,.call ⟨.builtin .len,#[(.tmp 34)],#[22]⟩,3,none⟩,
 ⟨some 36,.binOp .gtr 3 (.tmp 35) (.const (.int .i64 64)) 3,4,none⟩] [0,1,5,6,7,8,36])
 (.cond (.tmp 36)
 (.seq (.ops [
 ⟨some 37,.move (.tmp 5),25,none⟩,
 ⟨some 38,.call ⟨.builtin .len,#[(.tmp 37)],#[25]⟩,3,none⟩,
 ⟨some 39,.binOp .eql 3 (.tmp 38) (.const (.int .i64 0)) 3,4,none⟩,
 ⟨some 40,.move (.tmp 39),4,none⟩,
 ⟨some 41,.move (.tmp 6),4,(some (40,true))⟩,
 ⟨some 42,.unOp .not 4 (.tmp 41),4,(some (40,true))⟩,
 ⟨some 43,.pick (.tmp 40) (.tmp 42) (.const (.bool false)),4,none⟩,
 ⟨some 44,.move (.tmp 43),4,none⟩,
 ⟨some 45,.move (.tmp 7),3,(some (44,true))⟩,
 ⟨some 46,.binOp .eql 3 (.tmp 45) (.const (.int .i64 0)) 3,4,(some (44,true))⟩,
 ⟨some 47,.pick (.tmp 44) (.tmp 46) (.const (.bool false)),4,none⟩,
 ⟨some 48,.move (.tmp 47),4,none⟩,
 ⟨some 49,.move (.tmp 8),26,(some (48,true))⟩,
 ⟨some 50,.binOp .eql 26 (.tmp 49) (.const (.int .i64 34)) 26,4,(some (48,true))⟩,
 ⟨some 51,.pick (.tmp 48) (.tmp 50) (.const (.bool false)),4,none⟩,
 ⟨some 52,.move (.tmp 51),4,none⟩,
 ⟨some 53,.call ⟨.value (.func 10),#[],#[]⟩,4,(some (52,true))⟩,
 ⟨some 54,.pick (.tmp 52) (.tmp 53) (.const (.bool false)),4,none⟩,
 ⟨some 4,.assign (.tmp 54),4,none⟩] [4]) (sg c3S2))
 (.skip [0,1,5,6,7,8]))) (sg c3S14))
def c3S16(_:Unit):Cmd:=(.seq (.ops [
 ⟨some 27,.move (.tmp 0),22,none⟩,
 ⟨some 28,.move (.tmp 1),3,none⟩,
 ⟨some 29,.call ⟨.value (.func 11),#[(.tmp 27),(.tmp 28)],#[22,3]⟩,27,none⟩,
 ⟨some 26,.move (.tmp 29),27,none⟩,
 ⟨some 30,.extract (.tmp 26) 0,25,none⟩,
 ⟨some 31,.extract (.tmp 26) 1,4,none⟩,
 ⟨some 32,.extract (.tmp 26) 2,3,none⟩,
 ⟨some 33,.extract (.tmp 26) 3,26,none⟩,
 ⟨some 5,.assign (.tmp 30),25,none⟩,
 ⟨some 6,.assign (.tmp 31),4,none⟩,
 ⟨some 7,.assign (.tmp 32),3,none⟩,
 ⟨some 8,.assign (.tmp 33),26,none⟩] [0,1,5,6,7,8]) (sg c3S15))
def c3:Cmd:=(.seq (.ops [
 ⟨some 4,.assign (.const (.bool false)),4,none⟩] [0,1])
 (.seq (.seq (.ops [
 ⟨some 12,.move (.tmp 0),22,none⟩,
 ⟨some 13,.call ⟨.builtin .len,#[(.tmp 12)],#[22]⟩,3,none⟩,
 ⟨some 14,.binOp .gtr 3 (.tmp 13) (.const (.int .i64 6)) 3,4,none⟩,
 ⟨some 15,.move (.tmp 14),4,none⟩,
 ⟨some 16,.move (.tmp 0),22,(some (15,true))⟩,
 ⟨some 17,.call ⟨.builtin .len,#[(.tmp 16)],#[22]⟩,3,(some (15,true))⟩,
 ⟨some 18,.binOp .leq 3 (.tmp 17) (.const (.int .i64 64)) 3,4,(some (15,true))⟩,
 ⟨some 19,.pick (.tmp 15) (.tmp 18) (.const (.bool false)),4,none⟩,
 ⟨some 20,.move (.tmp 19),4,none⟩,
 ⟨some 21,.move (.tmp 0),22,(some (20,false))⟩,
 ⟨some 22,.call ⟨.value (.func 9),#[(.tmp 21)],#[22]⟩,4,(some (20,false))⟩,
 ⟨some 23,.unOp .not 4 (.tmp 22),4,(some (20,false))⟩,
 ⟨some 24,.pick (.tmp 20) (.const (.bool true)) (.tmp 23),4,none⟩] [0,1,24]) (sg c3S1)) (sg c3S16)))
attribute [go_sem] c3 c3S0 c3S2 c3S3 c3S5 c3S7 c3S12 c3S14
theorem ent3(a0 a1:Value)(w:World)(K:Value→World→Prop)(h:W Tryz.prog c3 [(0,a0),(1,a1)] w (finQ Tryz.prog [.tmp 4] K)):Ret Tryz.prog 3 [a0,a1] w K :=
 Ret_of_W (code:=c3code) Tryz.func3 (by kernel_rfl) (by kernel_rfl) (of_decide_eq_true (by kernel_rfl)) h
@[go_sem] theorem go3:goFunc Tryz.prog 3=true:=by kernel_rfl
@[go_sem] theorem go4:goFunc Tryz.prog 4=true:=by kernel_rfl
@[go_sem] theorem go5:goFunc Tryz.prog 5=true:=by kernel_rfl
@[go_sem] theorem go6:goFunc Tryz.prog 6=true:=by kernel_rfl
@[go_sem] theorem go7:goFunc Tryz.prog 7=true:=by kernel_rfl
@[go_sem] theorem go8:goFunc Tryz.prog 8=true:=by kernel_rfl
def c9code:Code:=match Tryz.f9.body with | some c=>c | none=>.skip
def c9S0(_:Unit):Cmd:=(.cond (.tmp 52)
 (.seq (.ops [
 ⟨some 2,.assign (.const (.bool false)),4,none⟩] [2])
 .ret)
 (.skip [0,3,4]))
def c9S1(_:Unit):Cmd:=(.ops [
 ⟨some 14,.move (.tmp 4),3,none⟩,
 ⟨some 15,.binOp .add 3 (.tmp 14) (.const (.int .i64 1)) 3,3,none⟩,
 ⟨some 4,.assign (.tmp 15),3,none⟩] [0,3,4])
def c9S2(_:Unit):Cmd:=(.seq (.block 3 (.seq (.draw (drawOps 0 c9code) [0,3,4,52]) (sg c9S0))) (sg c9S1))
def c9L0(_:Unit):Cmd:=(.seq (.seq (.ops [
 ⟨some 11,.move (.tmp 4),3,none⟩,
 ⟨some 12,.move (.tmp 3),3,none⟩,
 ⟨some 13,.binOp .lss 3 (.tmp 11) (.tmp 12) 3,4,none⟩] [0,3,4,13])
 (.cond (.tmp 13)
 (.skip [0,3,4])
 (.exit 2 [0,3]))) (sg c9S2))
def c9S3(_:Unit):Cmd:=(.ops [
 ⟨some 9,.move (.tmp 3),3,none⟩,
 ⟨some 10,.binOp .add 3 (.tmp 9) (.const (.int .i64 1)) 3,3,none⟩,
 ⟨some 3,.assign (.tmp 10),3,none⟩] [0,3])
def c9S4(_:Unit):Cmd:=(.seq (.block 1 (.seq (.ops [
 ⟨some 4,.assign (.const (.int .i64 0)),3,none⟩] [0,3,4])
 (.block 2 (.loop (sg c9L0))))) (sg c9S3))
def c9L1(_:Unit):Cmd:=(.seq (.seq (.ops [
 ⟨some 5,.move (.tmp 3),3,none⟩,
 ⟨some 6,.move (.tmp 0),22,none⟩,
 ⟨some 7,.call ⟨.builtin .len,#[(.tmp 6)],#[22]⟩,3,none⟩,
 ⟨some 8,.binOp .lss 3 (.tmp 5) (.tmp 7) 3,4,none⟩] [0,3,8])
 (.cond (.tmp 8)
 (.skip [0,3])
 (.exit 0 []))) (sg c9S4))
def c9S5(_:Unit):Cmd:=(.seq (.ops [
 ⟨some 2,.assign (.const (.bool true)),4,none⟩] [2])
 .ret)
def c9:Cmd:=(.seq (.ops [
 ⟨some 2,.assign (.const (.bool false)),4,none⟩] [0])
 (.seq (.seq (.ops [
 ⟨some 3,.assign (.const (.int .i64 0)),3,none⟩] [0,3])
 (.block 0 (.loop (sg c9L1)))) (sg c9S5)))
attribute [go_sem] c9 c9S0 c9S1 c9S2 c9S3 c9S4 c9S5
def c9D0:List (Bool × Ins):=[
 (true,⟨some 16,.move (.tmp 0),22,none⟩),
 (true,⟨some 17,.move (.tmp 3),3,none⟩),
 (true,⟨some 18,.indexAddr 22 (.tmp 16) (.tmp 17),0,none⟩),
 (true,⟨some 19,.fieldAddr 52 (.tmp 18) 0,0,none⟩),
 (false,⟨some 20,.load 3 (.tmp 19),3,none⟩),
 (true,⟨some 21,.move (.tmp 0),22,none⟩),
 (true,⟨some 22,.move (.tmp 4),3,none⟩),
 (true,⟨some 23,.indexAddr 22 (.tmp 21) (.tmp 22),0,none⟩),
 (true,⟨some 24,.fieldAddr 52 (.tmp 23) 0,0,none⟩),
 (false,⟨some 25,.load 3 (.tmp 24),3,none⟩),
 (true,⟨some 26,.binOp .eql 3 (.tmp 20) (.tmp 25) 3,4,none⟩),
 (true,⟨some 27,.move (.tmp 26),4,none⟩),
 (true,⟨some 28,.move (.tmp 0),22,(some (27,false))⟩),
 (true,⟨some 29,.move (.tmp 3),3,(some (27,false))⟩),
 (true,⟨some 30,.indexAddr 22 (.tmp 28) (.tmp 29),0,(some (27,false))⟩),
 (true,⟨some 31,.fieldAddr 52 (.tmp 30) 2,0,(some (27,false))⟩),
 (false,⟨some 32,.load 3 (.tmp 31),3,(some (27,false))⟩),
 (true,⟨some 33,.move (.tmp 0),22,(some (27,false))⟩),
 (true,⟨some 34,.move (.tmp 4),3,(some (27,false))⟩),
 (true,⟨some 35,.indexAddr 22 (.tmp 33) (.tmp 34),0,(some (27,false))⟩),
 (true,⟨some 36,.fieldAddr 52 (.tmp 35) 2,0,(some (27,false))⟩),
 (false,⟨some 37,.load 3 (.tmp 36),3,(some (27,false))⟩),
 (true,⟨some 38,.binOp .eql 3 (.tmp 32) (.tmp 37) 3,4,(some (27,false))⟩),
 (true,⟨some 39,.move (.tmp 38),4,(some (27,false))⟩),
 (true,⟨some 40,.move (.tmp 0),22,(some (39,true))⟩),
 (true,⟨some 41,.move (.tmp 3),3,(some (39,true))⟩),
 (true,⟨some 42,.indexAddr 22 (.tmp 40) (.tmp 41),0,(some (39,true))⟩),
 (true,⟨some 43,.fieldAddr 52 (.tmp 42) 3,0,(some (39,true))⟩),
 (false,⟨some 44,.load 3 (.tmp 43),3,(some (39,true))⟩),
 (true,⟨some 45,.move (.tmp 0),22,(some (39,true))⟩),
 (true,⟨some 46,.move (.tmp 4),3,(some (39,true))⟩),
 (true,⟨some 47,.indexAddr 22 (.tmp 45) (.tmp 46),0,(some (39,true))⟩),
 (true,⟨some 48,.fieldAddr 52 (.tmp 47) 3,0,(some (39,true))⟩),
 (false,⟨some 49,.load 3 (.tmp 48),3,(some (39,true))⟩),
 (true,⟨some 50,.binOp .neq 3 (.tmp 44) (.tmp 49) 3,4,(some (39,true))⟩),
 (true,⟨some 51,.pick (.tmp 39) (.tmp 50) (.const (.bool false)),4,(some (27,false))⟩),
 (true,⟨some 52,.pick (.tmp 27) (.const (.bool true)) (.tmp 51),4,none⟩)]
theorem c9draw0{L:List Nat}{ρ:Env}{w:World}{Q:Post}(h:DL Tryz.prog c9D0 L ρ w.drew Q):drawW Tryz.prog (drawOps 0 c9code) L ρ w Q :=
 drawW_still [true,true,true,true,false,true,true,true,true,false,true,true,true,true,true,true,false,true,true,true,true,false,true,true,true,true,true,true,false,true,true,true,true,false,true,true,true] c9D0 (by kernel_rfl) (by kernel_rfl) (by kernel_rfl) h
theorem ent9(a0:Value)(w:World)(K:Value→World→Prop)(h:W Tryz.prog c9 [(0,a0)] w (finQ Tryz.prog [.tmp 2] K)):Ret Tryz.prog 9 [a0] w K :=
 Ret_of_W (code:=c9code) Tryz.func9 (by kernel_rfl) (by kernel_rfl) (of_decide_eq_true (by kernel_rfl)) h
@[go_sem] theorem go9:goFunc Tryz.prog 9=true:=by kernel_rfl
def c10code:Code:=match Tryz.f10.body with | some c=>c | none=>.skip
def c10S0(_:Unit):Cmd:=.ret
def c10S1(_:Unit):Cmd:=(.seq (.ops [
 ⟨some 16,.move (.tmp 5),26,none⟩,
 ⟨some 17,.binOp .eql 26 (.tmp 16) (.const (.int .i64 0)) 26,4,none⟩,
 ⟨some 18,.move (.tmp 17),4,none⟩,
 ⟨some 19,.move (.tmp 3),4,(some (18,true))⟩,
 ⟨some 20,.pick (.tmp 18) (.tmp 19) (.const (.bool false)),4,none⟩,
 ⟨some 21,.move (.tmp 20),4,none⟩,
 ⟨some 22,.move (.tmp 4),3,(some (21,true))⟩,
 ⟨some 23,.binOp .eql 3 (.tmp 22) (.const (.int .i64 4)) 3,4,(some (21,true))⟩,
 ⟨some 24,.pick (.tmp 21) (.tmp 23) (.const (.bool false)),4,none⟩,
 ⟨some 25,.move (.tmp 24),4,none⟩,
 ⟨some 26,.move (.tmp 2),25,(some (25,true))⟩,
 ⟨some 27,.buildSlice 25 2 #[(0,(.const (.int .i64 2))),(1,(.const (.int .i64 1)))],25,(some (25,true))⟩,
 ⟨some 28,.call ⟨.value (.func 16),#[(.tmp 26),(.tmp 27)],#[25,25]⟩,4,(some (25,true))⟩,
 ⟨some 29,.pick (.tmp 25) (.tmp 28) (.const (.bool false)),4,none⟩,
 ⟨some 30,.move (.tmp 29),4,none⟩,
 ⟨some 31,.move (.tmp 1),22,(some (30,true))⟩,
 ⟨some 32,.move (.tmp 2),25,(some (30,true))⟩,
 ⟨some 33,.call ⟨.value (.func 17),#[(.tmp 31),(.tmp 32)],#[22,25]⟩,4,(some (30,true))⟩,
 ⟨some 34,.pick (.tmp 30) (.tmp 33) (.const (.bool false)),4,none⟩,
 ⟨some 0,.assign (.tmp 34),4,none⟩] [0]) (sg c10S0))
def c10:Cmd:=(.seq (.ops [
 ⟨some 0,.assign (.const (.bool false)),4,none⟩] [])
 (.seq (.ops [
 ⟨some 6,.build 52 #[(0,(.const (.int .i64 1))),(1,(.const (.int .i64 1))),(3,(.const (.int .i64 1))),(4,(.const (.int .i64 2))),(5,(.const (.int .i64 1))),(7,(.const (.bool true))),(9,(.const (.int .i64 1))),(10,(.const (.int .i64 2)))],52,none⟩,
 ⟨some 7,.build 52 #[(0,(.const (.int .i64 2))),(1,(.const (.int .i64 2))),(3,(.const (.int .i64 1))),(4,(.const (.int .i64 1))),(7,(.const (.bool true))),(9,(.const (.int .i64 3))),(10,(.const (.int .i64 4)))],52,none⟩,
 ⟨some 8,.buildSlice 22 2 #[(0,(.tmp 6)),(1,(.tmp 7))],22,none⟩,
 ⟨some 1,.assign (.tmp 8),22,none⟩] [1])
 (.seq (.ops [
 ⟨some 10,.move (.tmp 1),22,none⟩,
 ⟨some 11,.call ⟨.value (.func 11),#[(.tmp 10),(.const (.int .i64 99))],#[22,3]⟩,27,none⟩,
 ⟨some 9,.move (.tmp 11),27,none⟩,
 ⟨some 12,.extract (.tmp 9) 0,25,none⟩,
 ⟨some 13,.extract (.tmp 9) 1,4,none⟩,
 ⟨some 14,.extract (.tmp 9) 2,3,none⟩,
 ⟨some 15,.extract (.tmp 9) 3,26,none⟩,
 ⟨some 2,.assign (.tmp 12),25,none⟩,
 ⟨some 3,.assign (.tmp 13),4,none⟩,
 ⟨some 4,.assign (.tmp 14),3,none⟩,
 ⟨some 5,.assign (.tmp 15),26,none⟩] [1,2,3,4,5]) (sg c10S1))))
attribute [go_sem] c10 c10S0
theorem ent10(w:World)(K:Value→World→Prop)(h:W Tryz.prog c10 [] w (finQ Tryz.prog [.tmp 0] K)):Ret Tryz.prog 10 [] w K :=
 Ret_of_W (code:=c10code) Tryz.func10 (by kernel_rfl) (by kernel_rfl) (of_decide_eq_true (by kernel_rfl)) h
@[go_sem] theorem go10:goFunc Tryz.prog 10=true:=by kernel_rfl
def c11code:Code:=match Tryz.f11.body with | some c=>c | none=>.skip
def c11S0(_:Unit):Cmd:=(.seq (.ops [
 ⟨some 24,.move (.tmp 10),26,none⟩,
 ⟨some 25,.binOp .neq 26 (.tmp 24) (.const (.int .i64 0)) 26,4,none⟩] [0,1,10,16,17,18,25])
 (.cond (.tmp 25)
 (.seq (.ops [
 ⟨some 26,.move (.tmp 10),26,none⟩,
 ⟨some 4,.assign (.const (.slice none 0 0)),25,none⟩,
 ⟨some 5,.assign (.const (.bool false)),4,none⟩,
 ⟨some 6,.assign (.const (.int .i64 0)),3,none⟩,
 ⟨some 7,.assign (.tmp 26),26,none⟩] [4,5,6,7])
 .ret)
 (.skip [0,1,16,17,18])))
def c11S1(_:Unit):Cmd:=(.ops [
 ⟨some 27,.binOp .add 3 (.tmp 18) (.const (.int .i64 1)) 3,3,none⟩,
 ⟨some 18,.move (.tmp 27),3,none⟩] [0,1,16,17,18])
def c11S2(_:Unit):Cmd:=(.seq (.block 1 (.seq (.ops [
 ⟨some 20,.indexAddr 22 (.tmp 16) (.tmp 18),0,none⟩,
 ⟨some 21,.load 52 (.tmp 20),52,none⟩,
 ⟨some 9,.alloc 52,0,none⟩,
 ⟨none,.store 52 (.tmp 9) (.tmp 21),0,none⟩] [0,1,9,16,17,18])
 (.seq (.ops [
 ⟨some 22,.load 52 (.tmp 9),52,none⟩,
 ⟨some 23,.call ⟨.value (.func 28),#[(.tmp 22)],#[52]⟩,26,none⟩,
 ⟨some 10,.assign (.tmp 23),26,none⟩] [0,1,10,16,17,18]) (sg c11S0)))) (sg c11S1))
def c11L0(_:Unit):Cmd:=(.seq (.ops [
 ⟨some 19,.binOp .lss 3 (.tmp 18) (.tmp 17) 3,0,none⟩] [0,1,16,17,18,19])
 (.seq (.cond (.tmp 19)
 (.skip [0,1,16,17,18])
 (.exit 0 [0,1])) (sg c11S2)))
def c11S3(_:Unit):Cmd:=(.cond (.tmp 34)
 (.seq (.ops [
 ⟨some 4,.assign (.const (.slice none 0 0)),25,none⟩,
 ⟨some 5,.assign (.const (.bool false)),4,none⟩,
 ⟨some 6,.assign (.const (.int .i64 0)),3,none⟩,
 ⟨some 7,.assign (.const (.int .i64 35)),26,none⟩] [4,5,6,7])
 .ret)
 (.skip [11]))
def c11S4(_:Unit):Cmd:=.ret
def c11S5(_:Unit):Cmd:=(.seq (.ops [
 ⟨some 53,.move (.tmp 11),54,none⟩,
 ⟨some 54,.call ⟨.value (.func 32),#[(.tmp 53)],#[54]⟩,25,none⟩,
 ⟨some 55,.move (.tmp 12),3,none⟩,
 ⟨some 4,.assign (.tmp 54),25,none⟩,
 ⟨some 5,.assign (.const (.bool true)),4,none⟩,
 ⟨some 6,.assign (.tmp 55),3,none⟩,
 ⟨some 7,.assign (.const (.int .i64 0)),26,none⟩] [4,5,6,7]) (sg c11S4))
def c11S6(_:Unit):Cmd:=(.seq (.ops [
 ⟨some 37,.move (.tmp 11),54,none⟩,
 ⟨some 38,.nilCheck (.tmp 37),0,none⟩,
 ⟨some 39,.fieldAddr 60 (.tmp 38) 2,0,none⟩,
 ⟨some 40,.load 57 (.tmp 39),57,none⟩,
 ⟨some 41,.call ⟨.builtin .len,#[(.tmp 40)],#[57]⟩,3,none⟩,
 ⟨some 12,.assign (.tmp 41),3,none⟩] [11,12])
 (.seq (.seq (.ops [
 ⟨some 42,.move (.tmp 11),54,none⟩,
 ⟨some 43,.nilCheck (.tmp 42),0,none⟩,
 ⟨some 44,.fieldAddr 60 (.tmp 43) 2,0,none⟩,
 ⟨some 45,.load 57 (.tmp 44),57,none⟩,
 ⟨some 46,.indexAddr 57 (.tmp 45) (.const (.int .i64 0)),0,none⟩,
 ⟨some 47,.load 65 (.tmp 46),65,none⟩,
 ⟨some 48,.nilCheck (.tmp 47),0,none⟩,
 ⟨some 49,.fieldAddr 64 (.tmp 48) 4,0,none⟩,
 ⟨some 50,.load 4 (.tmp 49),4,none⟩,
 ⟨some 51,.unOp .not 4 (.tmp 50),4,none⟩] [11,12,51])
 (.cond (.tmp 51)
 (.seq (.ops [
 ⟨some 52,.move (.tmp 12),3,none⟩,
 ⟨some 4,.assign (.const (.slice none 0 0)),25,none⟩,
 ⟨some 5,.assign (.const (.bool false)),4,none⟩,
 ⟨some 6,.assign (.tmp 52),3,none⟩,
 ⟨some 7,.assign (.const (.int .i64 0)),26,none⟩] [4,5,6,7])
 .ret)
 (.skip [11,12]))) (sg c11S5)))
def c11S7(_:Unit):Cmd:=(.seq (.ops [
 ⟨some 35,.move (.tmp 11),54,none⟩,
 ⟨some 36,.call ⟨.value (.func 31),#[(.tmp 35)],#[54]⟩,0,none⟩] [11]) (sg c11S6))
def c11S8(_:Unit):Cmd:=(.seq (.seq (.ops [
 ⟨some 32,.move (.tmp 11),54,none⟩,
 ⟨some 33,.call ⟨.value (.func 30),#[(.tmp 32)],#[54]⟩,4,none⟩,
 ⟨some 34,.unOp .not 4 (.tmp 33),4,none⟩] [11,34]) (sg c11S3)) (sg c11S7))
def c11S9(_:Unit):Cmd:=(.seq (.ops [
 ⟨some 28,.move (.tmp 0),22,none⟩,
 ⟨some 29,.move (.tmp 1),3,none⟩,
 ⟨some 30,.call ⟨.builtin .min,#[(.tmp 29),(.const (.int .i64 32768))],#[3,3]⟩,3,none⟩,
 ⟨some 31,.call ⟨.value (.func 29),#[(.tmp 28),(.tmp 30)],#[22,3]⟩,54,none⟩,
 ⟨some 11,.assign (.tmp 31),54,none⟩] [11]) (sg c11S8))
def c11S10(_:Unit):Cmd:=(.seq (.seq (.ops [
 ⟨some 16,.move (.tmp 0),22,none⟩,
 ⟨some 17,.call ⟨.builtin .len,#[(.tmp 16)],#[22]⟩,3,none⟩,
 ⟨some 18,.move (.const (.int .i64 0)),3,none⟩] [0,1,16,17,18])
 (.block 0 (.loop (sg c11L0)))) (sg c11S9))
def c11:Cmd:=(.seq (.ops [
 ⟨some 4,.assign (.const (.slice none 0 0)),25,none⟩,
 ⟨some 5,.assign (.const (.bool false)),4,none⟩,
 ⟨some 6,.assign (.const (.int .i64 0)),3,none⟩,
 ⟨some 7,.assign (.const (.int .i64 0)),26,none⟩] [0,1])
 (.seq (.seq (.ops [
 ⟨some 13,.move (.tmp 0),22,none⟩,
 ⟨some 14,.call ⟨.builtin .len,#[(.tmp 13)],#[22]⟩,3,none⟩,
 ⟨some 15,.binOp .gtr 3 (.tmp 14) (.const (.int .i64 64)) 3,4,none⟩] [0,1,15])
 (.cond (.tmp 15)
 (.seq (.ops [
 ⟨some 4,.assign (.const (.slice none 0 0)),25,none⟩,
 ⟨some 5,.assign (.const (.bool false)),4,none⟩,
 ⟨some 6,.assign (.const (.int .i64 0)),3,none⟩,
 ⟨some 7,.assign (.const (.int .i64 34)),26,none⟩] [4,5,6,7])
 .ret)
 (.skip [0,1]))) (sg c11S10)))
attribute [go_sem] c11 c11S1 c11S2 c11S5 c11S10
theorem ent11(a0 a1:Value)(w:World)(K:Value→World→Prop)(h:W Tryz.prog c11 [(0,a0),(1,a1)] w (finQ Tryz.prog [.tmp 4,.tmp 5,.tmp 6,.tmp 7] K)):Ret Tryz.prog 11 [a0,a1] w K :=
 Ret_of_W (code:=c11code) Tryz.func11 (by kernel_rfl) (by kernel_rfl) (of_decide_eq_true (by kernel_rfl)) h
@[go_sem] theorem go11:goFunc Tryz.prog 11=true:=by kernel_rfl
def c12code:Code:=match Tryz.f12.body with | some c=>c | none=>.skip
def c12S0(_:Unit):Cmd:=.ret
def c12S1(_:Unit):Cmd:=(.cond (.tmp 15)
 (.seq (.ops [
 ⟨some 16,.move (.tmp 0),22,none⟩,
 ⟨some 17,.move (.tmp 3),3,none⟩,
 ⟨some 18,.indexAddr 22 (.tmp 16) (.tmp 17),0,none⟩,
 ⟨some 19,.load 52 (.tmp 18),52,none⟩,
 ⟨some 20,.call ⟨.value (.func 33),#[(.tmp 19)],#[52]⟩,3,none⟩,
 ⟨some 2,.assign (.tmp 20),3,none⟩] [2]) (sg c12S0))
 (.skip [0,3]))
def c12S2(_:Unit):Cmd:=(.ops [
 ⟨some 8,.move (.tmp 3),3,none⟩,
 ⟨some 9,.binOp .add 3 (.tmp 8) (.const (.int .i64 1)) 3,3,none⟩,
 ⟨some 3,.assign (.tmp 9),3,none⟩] [0,3])
def c12S3(_:Unit):Cmd:=(.seq (.block 1 (.seq (.ops [
 ⟨some 10,.move (.tmp 0),22,none⟩,
 ⟨some 11,.move (.tmp 3),3,none⟩,
 ⟨some 12,.indexAddr 22 (.tmp 10) (.tmp 11),0,none⟩,
 ⟨some 13,.load 52 (.tmp 12),52,none⟩,
 ⟨some 14,.call ⟨.value (.func 33),#[(.tmp 13)],#[52]⟩,3,none⟩,
 ⟨some 15,.binOp .neq 3 (.tmp 14) (.const (.int .i64 0)) 3,4,none⟩] [0,3,15]) (sg c12S1))) (sg c12S2))
def c12L0(_:Unit):Cmd:=(.seq (.seq (.ops [
 ⟨some 4,.move (.tmp 3),3,none⟩,
 ⟨some 5,.move (.tmp 0),22,none⟩,
 ⟨some 6,.call ⟨.builtin .len,#[(.tmp 5)],#[22]⟩,3,none⟩,
 ⟨some 7,.binOp .lss 3 (.tmp 4) (.tmp 6) 3,4,none⟩] [0,3,7])
 (.cond (.tmp 7)
 (.skip [0,3])
 (.exit 0 []))) (sg c12S3))
def c12S4(_:Unit):Cmd:=(.seq (.ops [
 ⟨some 2,.assign (.const (.int .i64 0)),3,none⟩] [2])
 .ret)
def c12:Cmd:=(.seq (.ops [
 ⟨some 2,.assign (.const (.int .i64 0)),3,none⟩] [0])
 (.seq (.seq (.ops [
 ⟨some 3,.assign (.const (.int .i64 0)),3,none⟩] [0,3])
 (.block 0 (.loop (sg c12L0)))) (sg c12S4)))
attribute [go_sem] c12 c12S2 c12S3
theorem ent12(a0:Value)(w:World)(K:Value→World→Prop)(h:W Tryz.prog c12 [(0,a0)] w (finQ Tryz.prog [.tmp 2] K)):Ret Tryz.prog 12 [a0] w K :=
 Ret_of_W (code:=c12code) Tryz.func12 (by kernel_rfl) (by kernel_rfl) (of_decide_eq_true (by kernel_rfl)) h
@[go_sem] theorem go12:goFunc Tryz.prog 12=true:=by kernel_rfl
def c13code:Code:=match Tryz.f13.body with | some c=>c | none=>.skip
def c13S0(_:Unit):Cmd:=(.cond (.tmp 62)
 (.exit 3 [1,5,6,7,8,9,10])
 (.skip [1,5,6,7,8,9,10]))
def c13S1(_:Unit):Cmd:=(.ops [
 ⟨some 116,.move (.tmp 7),71,none⟩,
 ⟨some 117,.load 70 (.tmp 13),70,none⟩,
 ⟨some 118,.buildSlice 71 1 #[(0,(.tmp 117))],71,none⟩,
 ⟨some 119,.call ⟨.builtin .append,#[(.tmp 116),(.tmp 118)],#[71,71]⟩,71,none⟩,
 ⟨some 7,.assign (.tmp 119),71,none⟩] [1,5,6,7,8,9,10])
def c13S2(_:Unit):Cmd:=(.cond (.tmp 110)
 (.seq (.ops [
 ⟨some 111,.move (.tmp 8),73,none⟩,
 ⟨some 112,.move (.tmp 5),31,none⟩,
 ⟨some 113,.load 70 (.tmp 13),70,none⟩,
 ⟨some 114,.move (.tmp 6),39,none⟩,
 ⟨some 115,.call ⟨.value (.func 34),#[(.tmp 112),(.tmp 113),(.tmp 114)],#[31,70,39]⟩,9,none⟩,
 ⟨none,.mapUpdate 73 (.tmp 111) (.tmp 115) (.const (.bool true)),0,none⟩] [1,5,6,7,8,9,10,13]) (sg c13S1))
 (.skip [1,5,6,7,8,9,10]))
def c13S3(_:Unit):Cmd:=(.seq (.ops [
 ⟨some 97,.fieldAddr 70 (.tmp 13) 0,0,none⟩,
 ⟨some 98,.load 25 (.tmp 97),25,none⟩,
 ⟨some 99,.move (.tmp 10),3,none⟩,
 ⟨some 100,.indexAddr 25 (.tmp 98) (.tmp 99),0,none⟩,
 ⟨some 101,.load 3 (.tmp 100),3,none⟩,
 ⟨some 102,.binOp .add 3 (.tmp 101) (.const (.int .i64 1)) 3,3,none⟩,
 ⟨some 103,.indexAddr 25 (.tmp 98) (.tmp 99),0,none⟩,
 ⟨none,.store 3 (.tmp 103) (.tmp 102),0,none⟩] [1,5,6,7,8,9,10,13])
 (.seq (.ops [
 ⟨some 104,.move (.tmp 8),73,none⟩,
 ⟨some 105,.move (.tmp 5),31,none⟩,
 ⟨some 106,.load 70 (.tmp 13),70,none⟩,
 ⟨some 107,.move (.tmp 6),39,none⟩,
 ⟨some 108,.call ⟨.value (.func 34),#[(.tmp 105),(.tmp 106),(.tmp 107)],#[31,70,39]⟩,9,none⟩,
 ⟨some 109,.lookup 73 (.tmp 104) (.tmp 108) false,4,none⟩,
 ⟨some 110,.unOp .not 4 (.tmp 109),4,none⟩] [1,5,6,7,8,9,10,13,110]) (sg c13S2)))
def c13S4(_:Unit):Cmd:=(.seq (.ops [
 ⟨some 88,.buildSlice 25 0 #[],25,none⟩,
 ⟨some 89,.move (.tmp 7),71,none⟩,
 ⟨some 90,.move (.tmp 9),3,none⟩,
 ⟨some 91,.indexAddr 71 (.tmp 89) (.tmp 90),0,none⟩,
 ⟨some 92,.fieldAddr 70 (.tmp 91) 0,0,none⟩,
 ⟨some 93,.load 25 (.tmp 92),25,none⟩,
 ⟨some 94,.call ⟨.builtin .append,#[(.tmp 88),(.tmp 93)],#[25,25]⟩,25,none⟩,
 ⟨some 95,.move (.tmp 11),68,none⟩,
 ⟨some 96,.build 70 #[(0,(.tmp 94)),(1,(.tmp 95))],70,none⟩,
 ⟨some 13,.alloc 70,0,none⟩,
 ⟨none,.store 70 (.tmp 13) (.tmp 96),0,none⟩] [1,5,6,7,8,9,10,13]) (sg c13S3))
def c13S5(_:Unit):Cmd:=(.seq (.seq (.ops [
 ⟨some 86,.move (.tmp 12),4,none⟩,
 ⟨some 87,.unOp .not 4 (.tmp 86),4,none⟩] [1,5,6,7,8,9,10,11,87])
 (.cond (.tmp 87)
 (.exit 3 [1,5,6,7,8,9,10])
 (.skip [1,5,6,7,8,9,10,11]))) (sg c13S4))
def c13S6(_:Unit):Cmd:=(.seq (.draw (drawOps 1 c13code) [1,5,6,7,8,9,10,11,12]) (sg c13S5))
def c13S7(_:Unit):Cmd:=(.ops [
 ⟨some 47,.move (.tmp 10),3,none⟩,
 ⟨some 48,.binOp .add 3 (.tmp 47) (.const (.int .i64 1)) 3,3,none⟩,
 ⟨some 10,.assign (.tmp 48),3,none⟩] [1,5,6,7,8,9,10])
def c13S8(_:Unit):Cmd:=(.seq (.block 3 (.seq (.seq (.draw (drawOps 0 c13code) [1,5,6,7,8,9,10,62]) (sg c13S0)) (sg c13S6))) (sg c13S7))
def c13L0(_:Unit):Cmd:=(.seq (.seq (.ops [
 ⟨some 43,.move (.tmp 10),3,none⟩,
 ⟨some 44,.move (.tmp 5),31,none⟩,
 ⟨some 45,.call ⟨.builtin .len,#[(.tmp 44)],#[31]⟩,3,none⟩,
 ⟨some 46,.binOp .lss 3 (.tmp 43) (.tmp 45) 3,4,none⟩] [1,5,6,7,8,9,10,46])
 (.cond (.tmp 46)
 (.skip [1,5,6,7,8,9,10])
 (.exit 2 [1,5,6,7,8,9]))) (sg c13S8))
def c13S9(_:Unit):Cmd:=(.ops [
 ⟨some 41,.move (.tmp 9),3,none⟩,
 ⟨some 42,.binOp .add 3 (.tmp 41) (.const (.int .i64 1)) 3,3,none⟩,
 ⟨some 9,.assign (.tmp 42),3,none⟩] [1,5,6,7,8,9])
def c13S10(_:Unit):Cmd:=(.seq (.block 1 (.seq (.ops [
 ⟨some 10,.assign (.const (.int .i64 0)),3,none⟩] [1,5,6,7,8,9,10])
 (.block 2 (.loop (sg c13L0))))) (sg c13S9))
def c13L1(_:Unit):Cmd:=(.seq (.seq (.ops [
 ⟨some 31,.move (.tmp 9),3,none⟩,
 ⟨some 32,.move (.tmp 7),71,none⟩,
 ⟨some 33,.call ⟨.builtin .len,#[(.tmp 32)],#[71]⟩,3,none⟩,
 ⟨some 34,.binOp .lss 3 (.tmp 31) (.tmp 33) 3,4,none⟩,
 ⟨some 35,.move (.tmp 34),4,none⟩,
 ⟨some 36,.move (.tmp 7),71,(some (35,true))⟩,
 ⟨some 37,.call ⟨.builtin .len,#[(.tmp 36)],#[71]⟩,3,(some (35,true))⟩,
 ⟨some 38,.move (.tmp 1),3,(some (35,true))⟩,
 ⟨some 39,.binOp .leq 3 (.tmp 37) (.tmp 38) 3,4,(some (35,true))⟩,
 ⟨some 40,.pick (.tmp 35) (.tmp 39) (.const (.bool false)),4,none⟩] [1,5,6,7,8,9,40])
 (.cond (.tmp 40)
 (.skip [1,5,6,7,8,9])
 (.exit 0 [7]))) (sg c13S10))
def c13S11(_:Unit):Cmd:=(.seq (.ops [
 ⟨some 120,.move (.tmp 7),71,none⟩,
 ⟨some 121,.call ⟨.builtin .len,#[(.tmp 120)],#[71]⟩,3,none⟩,
 ⟨some 4,.assign (.tmp 121),3,none⟩] [4])
 .ret)
def c13S12(_:Unit):Cmd:=(.seq (.seq (.ops [
 ⟨some 9,.assign (.const (.int .i64 0)),3,none⟩] [1,5,6,7,8,9])
 (.block 0 (.loop (sg c13L1)))) (sg c13S11))
def c13S13(_:Unit):Cmd:=(.seq (.ops [
 ⟨some 18,.move (.tmp 5),31,none⟩,
 ⟨some 19,.call ⟨.builtin .len,#[(.tmp 18)],#[31]⟩,3,none⟩,
 ⟨some 20,.makeSlice 25 (.tmp 19) (.tmp 19),25,none⟩,
 ⟨some 21,.build 70 #[(0,(.tmp 20)),(1,(.const (.slice none 0 0)))],70,none⟩,
 ⟨some 22,.buildSlice 71 1 #[(0,(.tmp 21))],71,none⟩,
 ⟨some 7,.assign (.tmp 22),71,none⟩] [1,5,6,7])
 (.seq (.ops [
 ⟨some 23,.makeMap 73 none,73,none⟩,
 ⟨some 24,.move (.tmp 5),31,none⟩,
 ⟨some 25,.move (.tmp 7),71,none⟩,
 ⟨some 26,.indexAddr 71 (.tmp 25) (.const (.int .i64 0)),0,none⟩,
 ⟨some 27,.load 70 (.tmp 26),70,none⟩,
 ⟨some 28,.move (.tmp 6),39,none⟩,
 ⟨some 29,.call ⟨.value (.func 34),#[(.tmp 24),(.tmp 27),(.tmp 28)],#[31,70,39]⟩,9,none⟩,
 ⟨none,.insert 73 (.tmp 23) (.tmp 29) (.const (.bool true)),0,none⟩,
 ⟨some 30,.move (.tmp 23),73,none⟩,
 ⟨some 8,.assign (.tmp 30),73,none⟩] [1,5,6,7,8]) (sg c13S12)))
def c13S14(_:Unit):Cmd:=(.seq (.ops [
 ⟨some 16,.move (.tmp 0),22,none⟩,
 ⟨some 17,.call ⟨.value (.func 20),#[(.tmp 16)],#[22]⟩,39,none⟩,
 ⟨some 6,.assign (.tmp 17),39,none⟩] [1,5,6]) (sg c13S13))
def c13:Cmd:=(.seq (.ops [
 ⟨some 4,.assign (.const (.int .i64 0)),3,none⟩] [0,1])
 (.seq (.ops [
 ⟨some 14,.move (.tmp 0),22,none⟩,
 ⟨some 15,.call ⟨.value (.func 14),#[(.tmp 14)],#[22]⟩,31,none⟩,
 ⟨some 5,.assign (.tmp 15),31,none⟩] [0,1,5]) (sg c13S14)))
attribute [go_sem] c13 c13S0 c13S4 c13S8 c13S10
def c13D0:List (Bool × Ins):=[
 (true,⟨some 49,.move (.tmp 7),71,none⟩),
 (true,⟨some 50,.move (.tmp 9),3,none⟩),
 (true,⟨some 51,.indexAddr 71 (.tmp 49) (.tmp 50),0,none⟩),
 (true,⟨some 52,.fieldAddr 70 (.tmp 51) 0,0,none⟩),
 (false,⟨some 53,.load 25 (.tmp 52),25,none⟩),
 (true,⟨some 54,.move (.tmp 10),3,none⟩),
 (true,⟨some 55,.indexAddr 25 (.tmp 53) (.tmp 54),0,none⟩),
 (false,⟨some 56,.load 3 (.tmp 55),3,none⟩),
 (true,⟨some 57,.move (.tmp 5),31,none⟩),
 (true,⟨some 58,.move (.tmp 10),3,none⟩),
 (true,⟨some 59,.indexAddr 31 (.tmp 57) (.tmp 58),0,none⟩),
 (false,⟨some 60,.load 22 (.tmp 59),22,none⟩),
 (true,⟨some 61,.call ⟨.builtin .len,#[(.tmp 60)],#[22]⟩,3,none⟩),
 (true,⟨some 62,.binOp .eql 3 (.tmp 56) (.tmp 61) 3,4,none⟩)]
theorem c13draw0{L:List Nat}{ρ:Env}{w:World}{Q:Post}(h:DL Tryz.prog c13D0 L ρ w.drew Q):drawW Tryz.prog (drawOps 0 c13code) L ρ w Q :=
 drawW_still [true,true,true,true,false,true,true,false,true,true,true,false,true,true] c13D0 (by kernel_rfl) (by kernel_rfl) (by kernel_rfl) h
def c13D1:List (Nat × Ins):=[
 (0,⟨some 64,.move (.tmp 7),71,none⟩),
 (0,⟨some 65,.move (.tmp 9),3,none⟩),
 (0,⟨some 66,.indexAddr 71 (.tmp 64) (.tmp 65),0,none⟩),
 (0,⟨some 67,.fieldAddr 70 (.tmp 66) 1,0,none⟩),
 (0,⟨some 69,.move (.tmp 5),31,none⟩),
 (0,⟨some 70,.move (.tmp 10),3,none⟩),
 (0,⟨some 71,.indexAddr 31 (.tmp 69) (.tmp 70),0,none⟩),
 (0,⟨some 73,.move (.tmp 7),71,none⟩),
 (0,⟨some 74,.move (.tmp 9),3,none⟩),
 (0,⟨some 75,.indexAddr 71 (.tmp 73) (.tmp 74),0,none⟩),
 (0,⟨some 76,.fieldAddr 70 (.tmp 75) 0,0,none⟩),
 (0,⟨some 78,.move (.tmp 10),3,none⟩),
 (1,⟨some 68,.load 68 (.tmp 67),68,none⟩),
 (1,⟨some 72,.load 22 (.tmp 71),22,none⟩),
 (2,⟨some 77,.load 25 (.tmp 76),25,none⟩),
 (0,⟨some 79,.indexAddr 25 (.tmp 77) (.tmp 78),0,none⟩),
 (2,⟨some 80,.load 3 (.tmp 79),3,none⟩),
 (0,⟨some 81,.indexAddr 22 (.tmp 72) (.tmp 80),0,none⟩),
 (2,⟨some 82,.load 52 (.tmp 81),52,none⟩),
 (2,⟨some 83,.call ⟨.value (.func 35),#[(.tmp 68),(.tmp 82)],#[68,52]⟩,74,none⟩),
 (0,⟨some 63,.move (.tmp 83),74,none⟩),
 (0,⟨some 84,.extract (.tmp 63) 0,68,none⟩),
 (0,⟨some 85,.extract (.tmp 63) 1,4,none⟩),
 (0,⟨some 11,.assign (.tmp 84),68,none⟩),
 (0,⟨some 12,.assign (.tmp 85),4,none⟩)]
theorem c13draw1{L:List Nat}{ρ:Env}{w:World}{Q:Post}(S:World→Prop)(hS:S w.drew)(h:DG Tryz.prog S c13D1 L ρ w.drew Q):drawW Tryz.prog (drawOps 1 c13code) L ρ w Q :=
 drawW_held [4,8] [(0,0),(0,1),(0,2),(0,3),(0,5),(0,6),(0,7),(0,9),(0,10),(0,11),(0,12),(0,14),(1,4),(1,8),(2,13),(0,15),(2,16),(0,17),(2,18),(2,19),(0,20),(0,21),(0,22),(0,23),(0,24)] c13D1 (by kernel_rfl) (by kernel_rfl) (by kernel_rfl) S hS h
theorem ent13(a0 a1:Value)(w:World)(K:Value→World→Prop)(h:W Tryz.prog c13 [(0,a0),(1,a1)] w (finQ Tryz.prog [.tmp 4] K)):Ret Tryz.prog 13 [a0,a1] w K :=
 Ret_of_W (code:=c13code) Tryz.func13 (by kernel_rfl) (by kernel_rfl) (of_decide_eq_true (by kernel_rfl)) h
@[go_sem] theorem go13:goFunc Tryz.prog 13=true:=by kernel_rfl
def c14code:Code:=match Tryz.f14.body with | some c=>c | none=>.skip
def c14S0(_:Unit):Cmd:=(.ops [
 ⟨some 15,.move (.tmp 8),3,none⟩,
 ⟨some 16,.binOp .add 3 (.tmp 15) (.const (.int .i64 1)) 3,3,none⟩,
 ⟨some 8,.assign (.tmp 16),3,none⟩] [0,3,4,5,6,7,8])
def c14S1(_:Unit):Cmd:=(.seq (.block 3 (.seq (.ops [
 ⟨some 17,.move (.tmp 5),4,none⟩,
 ⟨some 18,.unOp .not 4 (.tmp 17),4,none⟩,
 ⟨some 19,.move (.tmp 18),4,none⟩,
 ⟨some 20,.move (.tmp 0),22,(some (19,false))⟩,
 ⟨some 21,.move (.tmp 8),3,(some (19,false))⟩,
 ⟨some 22,.indexAddr 22 (.tmp 20) (.tmp 21),0,(some (19,false))⟩,
 ⟨some 23,.fieldAddr 52 (.tmp 22) 1,0,(some (19,false))⟩,
 ⟨some 24,.load 3 (.tmp 23),3,(some (19,false))⟩,
 ⟨some 25,.move (.tmp 4),3,(some (19,false))⟩,
 ⟨some 26,.binOp .gtr 3 (.tmp 24) (.tmp 25) 3,4,(some (19,false))⟩,
 ⟨some 27,.pick (.tmp 19) (.const (.bool true)) (.tmp 26),4,none⟩,
 ⟨some 28,.move (.tmp 27),4,none⟩,
 ⟨some 29,.move (.tmp 7),4,(some (28,true))⟩,
 ⟨some 30,.unOp .not 4 (.tmp 29),4,(some (28,true))⟩,
 ⟨some 31,.move (.tmp 30),4,(some (28,true))⟩,
 ⟨some 32,.move (.tmp 0),22,(some (31,false))⟩,
 ⟨some 33,.move (.tmp 8),3,(some (31,false))⟩,
 ⟨some 34,.indexAddr 22 (.tmp 32) (.tmp 33),0,(some (31,false))⟩,
 ⟨some 35,.fieldAddr 52 (.tmp 34) 1,0,(some (31,false))⟩,
 ⟨some 36,.load 3 (.tmp 35),3,(some (31,false))⟩,
 ⟨some 37,.move (.tmp 6),3,(some (31,false))⟩,
 ⟨some 38,.binOp .lss 3 (.tmp 36) (.tmp 37) 3,4,(some (31,false))⟩,
 ⟨some 39,.pick (.tmp 31) (.const (.bool true)) (.tmp 38),4,(some (28,true))⟩,
 ⟨some 40,.pick (.tmp 28) (.tmp 39) (.const (.bool false)),4,none⟩] [0,3,4,5,6,7,8,40])
 (.cond (.tmp 40)
 (.ops [
 ⟨some 41,.move (.tmp 0),22,none⟩,
 ⟨some 42,.move (.tmp 8),3,none⟩,
 ⟨some 43,.indexAddr 22 (.tmp 41) (.tmp 42),0,none⟩,
 ⟨some 44,.fieldAddr 52 (.tmp 43) 1,0,none⟩,
 ⟨some 45,.load 3 (.tmp 44),3,none⟩,
 ⟨some 6,.assign (.tmp 45),3,none⟩,
 ⟨some 7,.assign (.const (.bool true)),4,none⟩] [0,3,4,5,6,7,8])
 (.skip [0,3,4,5,6,7,8])))) (sg c14S0))
def c14L0(_:Unit):Cmd:=(.seq (.seq (.ops [
 ⟨some 11,.move (.tmp 8),3,none⟩,
 ⟨some 12,.move (.tmp 0),22,none⟩,
 ⟨some 13,.call ⟨.builtin .len,#[(.tmp 12)],#[22]⟩,3,none⟩,
 ⟨some 14,.binOp .lss 3 (.tmp 11) (.tmp 13) 3,4,none⟩] [0,3,4,5,6,7,8,14])
 (.cond (.tmp 14)
 (.skip [0,3,4,5,6,7,8])
 (.exit 2 [0,3,6,7]))) (sg c14S1))
def c14S2(_:Unit):Cmd:=(.ops [
 ⟨some 53,.move (.tmp 10),3,none⟩,
 ⟨some 54,.binOp .add 3 (.tmp 53) (.const (.int .i64 1)) 3,3,none⟩,
 ⟨some 10,.assign (.tmp 54),3,none⟩] [0,3,6,9,10])
def c14S3(_:Unit):Cmd:=(.seq (.block 5 (.seq (.ops [
 ⟨some 55,.move (.tmp 0),22,none⟩,
 ⟨some 56,.move (.tmp 10),3,none⟩,
 ⟨some 57,.indexAddr 22 (.tmp 55) (.tmp 56),0,none⟩,
 ⟨some 58,.fieldAddr 52 (.tmp 57) 1,0,none⟩,
 ⟨some 59,.load 3 (.tmp 58),3,none⟩,
 ⟨some 60,.move (.tmp 6),3,none⟩,
 ⟨some 61,.binOp .eql 3 (.tmp 59) (.tmp 60) 3,4,none⟩] [0,3,6,9,10,61])
 (.cond (.tmp 61)
 (.ops [
 ⟨some 62,.move (.tmp 9),22,none⟩,
 ⟨some 63,.move (.tmp 0),22,none⟩,
 ⟨some 64,.move (.tmp 10),3,none⟩,
 ⟨some 65,.indexAddr 22 (.tmp 63) (.tmp 64),0,none⟩,
 ⟨some 66,.load 52 (.tmp 65),52,none⟩,
 ⟨some 67,.buildSlice 22 1 #[(0,(.tmp 66))],22,none⟩,
 ⟨some 68,.call ⟨.builtin .append,#[(.tmp 62),(.tmp 67)],#[22,22]⟩,22,none⟩,
 ⟨some 9,.assign (.tmp 68),22,none⟩] [0,3,6,9,10])
 (.skip [0,3,6,9,10])))) (sg c14S2))
def c14L1(_:Unit):Cmd:=(.seq (.seq (.ops [
 ⟨some 49,.move (.tmp 10),3,none⟩,
 ⟨some 50,.move (.tmp 0),22,none⟩,
 ⟨some 51,.call ⟨.builtin .len,#[(.tmp 50)],#[22]⟩,3,none⟩,
 ⟨some 52,.binOp .lss 3 (.tmp 49) (.tmp 51) 3,4,none⟩] [0,3,6,9,10,52])
 (.cond (.tmp 52)
 (.skip [0,3,6,9,10])
 (.exit 4 [0,3,6,9]))) (sg c14S3))
def c14S4(_:Unit):Cmd:=(.ops [
 ⟨some 74,.move (.tmp 6),3,none⟩,
 ⟨some 4,.assign (.tmp 74),3,none⟩,
 ⟨some 5,.assign (.const (.bool true)),4,none⟩] [0,3,4,5])
def c14S5(_:Unit):Cmd:=(.seq (.ops [
 ⟨some 69,.move (.tmp 3),31,none⟩,
 ⟨some 70,.move (.tmp 9),22,none⟩,
 ⟨some 71,.call ⟨.value (.func 36),#[(.tmp 70)],#[22]⟩,22,none⟩,
 ⟨some 72,.buildSlice 31 1 #[(0,(.tmp 71))],31,none⟩,
 ⟨some 73,.call ⟨.builtin .append,#[(.tmp 69),(.tmp 72)],#[31,31]⟩,31,none⟩,
 ⟨some 3,.assign (.tmp 73),31,none⟩] [0,3,6]) (sg c14S4))
def c14S6(_:Unit):Cmd:=(.seq (.ops [
 ⟨some 9,.assign (.const (.slice none 0 0)),22,none⟩] [0,3,6,9])
 (.seq (.seq (.ops [
 ⟨some 10,.assign (.const (.int .i64 0)),3,none⟩] [0,3,6,9,10])
 (.block 4 (.loop (sg c14L1)))) (sg c14S5)))
def c14S7(_:Unit):Cmd:=(.seq (.seq (.ops [
 ⟨some 46,.move (.tmp 7),4,none⟩,
 ⟨some 47,.unOp .not 4 (.tmp 46),4,none⟩] [0,3,6,47])
 (.cond (.tmp 47)
 (.seq (.ops [
 ⟨some 48,.move (.tmp 3),31,none⟩,
 ⟨some 2,.assign (.tmp 48),31,none⟩] [2])
 .ret)
 (.skip [0,3,6]))) (sg c14S6))
def c14L2(_:Unit):Cmd:=(.block 1 (.seq (.ops [
 ⟨some 6,.assign (.const (.int .i64 0)),3,none⟩,
 ⟨some 7,.assign (.const (.bool false)),4,none⟩] [0,3,4,5,6,7])
 (.seq (.seq (.ops [
 ⟨some 8,.assign (.const (.int .i64 0)),3,none⟩] [0,3,4,5,6,7,8])
 (.block 2 (.loop (sg c14L0)))) (sg c14S7))))
def c14:Cmd:=(.seq (.ops [
 ⟨some 2,.assign (.const (.slice none 0 0)),31,none⟩] [0])
 (.seq (.ops [
 ⟨some 3,.assign (.const (.slice none 0 0)),31,none⟩] [0,3])
 (.seq (.ops [
 ⟨some 4,.assign (.const (.int .i64 0)),3,none⟩,
 ⟨some 5,.assign (.const (.bool false)),4,none⟩] [0,3,4,5])
 (.block 0 (.loop (sg c14L2))))))
attribute [go_sem] c14 c14S0 c14S1 c14L0 c14S2 c14S3 c14L1 c14S4 c14L2
theorem ent14(a0:Value)(w:World)(K:Value→World→Prop)(h:W Tryz.prog c14 [(0,a0)] w (finQ Tryz.prog [.tmp 2] K)):Ret Tryz.prog 14 [a0] w K :=
 Ret_of_W (code:=c14code) Tryz.func14 (by kernel_rfl) (by kernel_rfl) (of_decide_eq_true (by kernel_rfl)) h
@[go_sem] theorem go14:goFunc Tryz.prog 14=true:=by kernel_rfl
def c15code:Code:=match Tryz.f15.body with | some c=>c | none=>.skip
def c15S0(_:Unit):Cmd:=(.cond (.tmp 29)
 (.ops [
 ⟨some 30,.move (.tmp 3),25,none⟩,
 ⟨some 31,.build 34 #[(0,(.tmp 30)),(1,(.const (.bool true)))],34,none⟩,
 ⟨none,.store 34 (.tmp 9) (.tmp 31),0,none⟩] [0,1,2,3,9,10])
 (.skip [0,1,2,3,9,10]))
def c15S1(_:Unit):Cmd:=(.cond (.tmp 47)
 (.exit 1 [0,1,2,3,9,10,11])
 (.skip [0,1,2,3,9,10,11]))
def c15S2(_:Unit):Cmd:=(.seq (.ops [
 ⟨some 69,.move (.tmp 15),25,none⟩,
 ⟨some 70,.move (.tmp 11),3,none⟩,
 ⟨some 71,.indexAddr 25 (.tmp 69) (.tmp 70),0,none⟩,
 ⟨some 72,.load 3 (.tmp 71),3,none⟩,
 ⟨some 73,.binOp .add 3 (.tmp 72) (.const (.int .i64 1)) 3,3,none⟩,
 ⟨some 74,.indexAddr 25 (.tmp 69) (.tmp 70),0,none⟩,
 ⟨none,.store 3 (.tmp 74) (.tmp 73),0,none⟩] [0,1,2,3,9,10,11,12,13,15])
 (.draw (drawOps 2 c15code) [0,1,2,3,9,10,11]))
def c15S3(_:Unit):Cmd:=(.seq (.ops [
 ⟨some 66,.buildSlice 25 0 #[],25,none⟩,
 ⟨some 67,.move (.tmp 1),25,none⟩,
 ⟨some 68,.call ⟨.builtin .append,#[(.tmp 66),(.tmp 67)],#[25,25]⟩,25,none⟩,
 ⟨some 15,.assign (.tmp 68),25,none⟩] [0,1,2,3,9,10,11,12,13,15]) (sg c15S2))
def c15S4(_:Unit):Cmd:=(.seq (.seq (.ops [
 ⟨some 64,.move (.tmp 14),4,none⟩,
 ⟨some 65,.unOp .not 4 (.tmp 64),4,none⟩] [0,1,2,3,9,10,11,12,13,65])
 (.cond (.tmp 65)
 (.exit 1 [0,1,2,3,9,10,11])
 (.skip [0,1,2,3,9,10,11,12,13]))) (sg c15S3))
def c15S5(_:Unit):Cmd:=(.seq (.ops [
 ⟨some 59,.move (.tmp 2),68,none⟩,
 ⟨some 60,.load 52 (.tmp 12),52,none⟩,
 ⟨some 61,.call ⟨.value (.func 35),#[(.tmp 59),(.tmp 60)],#[68,52]⟩,74,none⟩,
 ⟨some 58,.move (.tmp 61),74,none⟩,
 ⟨some 62,.extract (.tmp 58) 0,68,none⟩,
 ⟨some 63,.extract (.tmp 58) 1,4,none⟩,
 ⟨some 13,.assign (.tmp 62),68,none⟩,
 ⟨some 14,.assign (.tmp 63),4,none⟩] [0,1,2,3,9,10,11,12,13,14]) (sg c15S4))
def c15S6(_:Unit):Cmd:=(.seq (.draw (drawOps 1 c15code) [0,1,2,3,9,10,11,12]) (sg c15S5))
def c15S7(_:Unit):Cmd:=(.ops [
 ⟨some 36,.move (.tmp 11),3,none⟩,
 ⟨some 37,.binOp .add 3 (.tmp 36) (.const (.int .i64 1)) 3,3,none⟩,
 ⟨some 11,.assign (.tmp 37),3,none⟩] [0,1,2,3,9,10,11])
def c15S8(_:Unit):Cmd:=(.seq (.block 1 (.seq (.seq (.draw (drawOps 0 c15code) [0,1,2,3,9,10,11,47]) (sg c15S1)) (sg c15S6))) (sg c15S7))
def c15L0(_:Unit):Cmd:=(.seq (.seq (.ops [
 ⟨some 32,.move (.tmp 11),3,none⟩,
 ⟨some 33,.move (.tmp 0),31,none⟩,
 ⟨some 34,.call ⟨.builtin .len,#[(.tmp 33)],#[31]⟩,3,none⟩,
 ⟨some 35,.binOp .lss 3 (.tmp 32) (.tmp 34) 3,4,none⟩] [0,1,2,3,9,10,11,35])
 (.cond (.tmp 35)
 (.skip [0,1,2,3,9,10,11])
 (.exit 0 [9,10]))) (sg c15S8))
def c15S9(_:Unit):Cmd:=(.seq (.ops [
 ⟨some 87,.load 34 (.tmp 9),34,none⟩,
 ⟨none,.store 34 (.tmp 10) (.tmp 87),0,none⟩] [10])
 .ret)
def c15S10(_:Unit):Cmd:=(.seq (.seq (.ops [
 ⟨some 11,.assign (.const (.int .i64 0)),3,none⟩] [0,1,2,3,9,10,11])
 (.block 0 (.loop (sg c15L0)))) (sg c15S9))
def c15:Cmd:=(.seq (.ops [
 ⟨some 9,.box 34 (.tmp 4),0,none⟩,
 ⟨some 10,.alloc 34,0,none⟩] [0,1,2,3,9,10])
 (.seq (.seq (.ops [
 ⟨some 16,.move (.tmp 0),31,none⟩,
 ⟨some 17,.move (.tmp 1),25,none⟩,
 ⟨some 18,.call ⟨.value (.func 37),#[(.tmp 16),(.tmp 17)],#[31,25]⟩,4,none⟩,
 ⟨some 19,.move (.tmp 18),4,none⟩,
 ⟨some 20,.fieldAddr 34 (.tmp 9) 1,0,(some (19,true))⟩,
 ⟨some 21,.load 4 (.tmp 20),4,(some (19,true))⟩,
 ⟨some 22,.unOp .not 4 (.tmp 21),4,(some (19,true))⟩,
 ⟨some 23,.move (.tmp 22),4,(some (19,true))⟩,
 ⟨some 24,.move (.tmp 3),25,(some (23,false))⟩,
 ⟨some 25,.fieldAddr 34 (.tmp 9) 0,0,(some (23,false))⟩,
 ⟨some 26,.load 25 (.tmp 25),25,(some (23,false))⟩,
 ⟨some 27,.call ⟨.value (.func 23),#[(.tmp 24),(.tmp 26)],#[25,25]⟩,4,(some (23,false))⟩,
 ⟨some 28,.pick (.tmp 23) (.const (.bool true)) (.tmp 27),4,(some (19,true))⟩,
 ⟨some 29,.pick (.tmp 19) (.tmp 28) (.const (.bool false)),4,none⟩] [0,1,2,3,9,10,29]) (sg c15S0)) (sg c15S10)))
attribute [go_sem] c15 c15S3 c15S7 c15S8
def c15D0:List (Bool × Ins):=[
 (true,⟨some 38,.move (.tmp 1),25,none⟩),
 (true,⟨some 39,.move (.tmp 11),3,none⟩),
 (true,⟨some 40,.indexAddr 25 (.tmp 38) (.tmp 39),0,none⟩),
 (false,⟨some 41,.load 3 (.tmp 40),3,none⟩),
 (true,⟨some 42,.move (.tmp 0),31,none⟩),
 (true,⟨some 43,.move (.tmp 11),3,none⟩),
 (true,⟨some 44,.indexAddr 31 (.tmp 42) (.tmp 43),0,none⟩),
 (false,⟨some 45,.load 22 (.tmp 44),22,none⟩),
 (true,⟨some 46,.call ⟨.builtin .len,#[(.tmp 45)],#[22]⟩,3,none⟩),
 (true,⟨some 47,.binOp .eql 3 (.tmp 41) (.tmp 46) 3,4,none⟩)]
theorem c15draw0{L:List Nat}{ρ:Env}{w:World}{Q:Post}(h:DL Tryz.prog c15D0 L ρ w.drew Q):drawW Tryz.prog (drawOps 0 c15code) L ρ w Q :=
 drawW_still [true,true,true,false,true,true,true,false,true,true] c15D0 (by kernel_rfl) (by kernel_rfl) (by kernel_rfl) h
def c15D1:List (Nat × Ins):=[
 (0,⟨some 48,.move (.tmp 0),31,none⟩),
 (0,⟨some 49,.move (.tmp 11),3,none⟩),
 (0,⟨some 50,.indexAddr 31 (.tmp 48) (.tmp 49),0,none⟩),
 (0,⟨some 52,.move (.tmp 1),25,none⟩),
 (0,⟨some 53,.move (.tmp 11),3,none⟩),
 (0,⟨some 54,.indexAddr 25 (.tmp 52) (.tmp 53),0,none⟩),
 (1,⟨some 51,.load 22 (.tmp 50),22,none⟩),
 (1,⟨some 55,.load 3 (.tmp 54),3,none⟩),
 (0,⟨some 56,.indexAddr 22 (.tmp 51) (.tmp 55),0,none⟩),
 (1,⟨some 57,.load 52 (.tmp 56),52,none⟩),
 (2,⟨some 12,.alloc 52,0,none⟩),
 (3,⟨none,.store 52 (.tmp 12) (.tmp 57),0,none⟩)]
theorem c15draw1{L:List Nat}{ρ:Env}{w:World}{Q:Post}(S:World→Prop)(hS:S w.drew)(h:DG Tryz.prog S c15D1 L ρ w.drew Q):drawW Tryz.prog (drawOps 1 c15code) L ρ w Q :=
 drawW_held [3,7,9] [(0,0),(0,1),(0,2),(0,4),(0,5),(0,6),(1,3),(1,7),(0,8),(1,9),(2,10),(3,11)] c15D1 (by kernel_rfl) (by kernel_rfl) (by kernel_rfl) S hS h
theorem ent15(a0 a1 a2 a3 a4:Value)(w:World)(K:Value→World→Prop)(h:W Tryz.prog c15 [(0,a0),(1,a1),(2,a2),(3,a3),(4,a4)] w (finQ Tryz.prog [.cell 10 34] K)):Ret Tryz.prog 15 [a0,a1,a2,a3,a4] w K :=
 Ret_of_W (code:=c15code) Tryz.func15 (by kernel_rfl) (by kernel_rfl) (of_decide_eq_true (by kernel_rfl)) h
@[go_sem] theorem go15:goFunc Tryz.prog 15=true:=by kernel_rfl
def c16code:Code:=match Tryz.f16.body with | some c=>c | none=>.skip
def c16S0(_:Unit):Cmd:=(.cond (.tmp 25)
 (.seq (.ops [
 ⟨some 4,.assign (.const (.bool false)),4,none⟩] [4])
 .ret)
 (.skip [0,1,5]))
def c16S1(_:Unit):Cmd:=(.ops [
 ⟨some 15,.move (.tmp 5),3,none⟩,
 ⟨some 16,.binOp .add 3 (.tmp 15) (.const (.int .i64 1)) 3,3,none⟩,
 ⟨some 5,.assign (.tmp 16),3,none⟩] [0,1,5])
def c16S2(_:Unit):Cmd:=(.seq (.block 1 (.seq (.draw (drawOps 0 c16code) [0,1,5,25]) (sg c16S0))) (sg c16S1))
def c16L0(_:Unit):Cmd:=(.seq (.seq (.ops [
 ⟨some 11,.move (.tmp 5),3,none⟩,
 ⟨some 12,.move (.tmp 0),25,none⟩,
 ⟨some 13,.call ⟨.builtin .len,#[(.tmp 12)],#[25]⟩,3,none⟩,
 ⟨some 14,.binOp .lss 3 (.tmp 11) (.tmp 13) 3,4,none⟩] [0,1,5,14])
 (.cond (.tmp 14)
 (.skip [0,1,5])
 (.exit 0 []))) (sg c16S2))
def c16S3(_:Unit):Cmd:=(.seq (.ops [
 ⟨some 4,.assign (.const (.bool true)),4,none⟩] [4])
 .ret)
def c16S4(_:Unit):Cmd:=(.seq (.seq (.ops [
 ⟨some 5,.assign (.const (.int .i64 0)),3,none⟩] [0,1,5])
 (.block 0 (.loop (sg c16L0)))) (sg c16S3))
def c16:Cmd:=(.seq (.ops [
 ⟨some 4,.assign (.const (.bool false)),4,none⟩] [0,1])
 (.seq (.seq (.ops [
 ⟨some 6,.move (.tmp 0),25,none⟩,
 ⟨some 7,.call ⟨.builtin .len,#[(.tmp 6)],#[25]⟩,3,none⟩,
 ⟨some 8,.move (.tmp 1),25,none⟩,
 ⟨some 9,.call ⟨.builtin .len,#[(.tmp 8)],#[25]⟩,3,none⟩,
 ⟨some 10,.binOp .neq 3 (.tmp 7) (.tmp 9) 3,4,none⟩] [0,1,10])
 (.cond (.tmp 10)
 (.seq (.ops [
 ⟨some 4,.assign (.const (.bool false)),4,none⟩] [4])
 .ret)
 (.skip [0,1]))) (sg c16S4)))
attribute [go_sem] c16 c16S0 c16S1 c16S2 c16L0 c16S3 c16S4
def c16D0:List (Bool × Ins):=[
 (true,⟨some 17,.move (.tmp 0),25,none⟩),
 (true,⟨some 18,.move (.tmp 5),3,none⟩),
 (true,⟨some 19,.indexAddr 25 (.tmp 17) (.tmp 18),0,none⟩),
 (false,⟨some 20,.load 3 (.tmp 19),3,none⟩),
 (true,⟨some 21,.move (.tmp 1),25,none⟩),
 (true,⟨some 22,.move (.tmp 5),3,none⟩),
 (true,⟨some 23,.indexAddr 25 (.tmp 21) (.tmp 22),0,none⟩),
 (false,⟨some 24,.load 3 (.tmp 23),3,none⟩),
 (true,⟨some 25,.binOp .neq 3 (.tmp 20) (.tmp 24) 3,4,none⟩)]
theorem c16draw0{L:List Nat}{ρ:Env}{w:World}{Q:Post}(h:DL Tryz.prog c16D0 L ρ w.drew Q):drawW Tryz.prog (drawOps 0 c16code) L ρ w Q :=
 drawW_still [true,true,true,false,true,true,true,false,true] c16D0 (by kernel_rfl) (by kernel_rfl) (by kernel_rfl) h
theorem ent16(a0 a1:Value)(w:World)(K:Value→World→Prop)(h:W Tryz.prog c16 [(0,a0),(1,a1)] w (finQ Tryz.prog [.tmp 4] K)):Ret Tryz.prog 16 [a0,a1] w K :=
 Ret_of_W (code:=c16code) Tryz.func16 (by kernel_rfl) (by kernel_rfl) (of_decide_eq_true (by kernel_rfl)) h
@[go_sem] theorem go16:goFunc Tryz.prog 16=true:=by kernel_rfl
def c17code:Code:=match Tryz.f17.body with | some c=>c | none=>.skip
def c17S0(_:Unit):Cmd:=(.seq (.block 1 (.seq (.ops [
 ⟨some 29,.move (.tmp 27),3,none⟩,
 ⟨some 30,.indexAddr 31 (.tmp 25) (.tmp 27),0,none⟩,
 ⟨some 31,.load 22 (.tmp 30),22,none⟩,
 ⟨some 9,.assign (.tmp 29),3,none⟩,
 ⟨some 10,.assign (.tmp 31),22,none⟩] [0,1,5,6,7,8,9,10,25,26,27])
 (.ops [
 ⟨some 32,.move (.tmp 8),56,none⟩,
 ⟨some 33,.move (.tmp 10),22,none⟩,
 ⟨some 34,.indexAddr 22 (.tmp 33) (.const (.int .i64 0)),0,none⟩,
 ⟨some 35,.fieldAddr 52 (.tmp 34) 1,0,none⟩,
 ⟨some 36,.load 3 (.tmp 35),3,none⟩,
 ⟨some 37,.move (.tmp 9),3,none⟩,
 ⟨none,.mapUpdate 56 (.tmp 32) (.tmp 36) (.tmp 37),0,none⟩] [0,1,5,6,7,8,25,26,27])))
 (.ops [
 ⟨some 38,.binOp .add 3 (.tmp 27) (.const (.int .i64 1)) 3,3,none⟩,
 ⟨some 27,.move (.tmp 38),3,none⟩] [0,1,5,6,7,8,25,26,27]))
def c17L0(_:Unit):Cmd:=(.seq (.ops [
 ⟨some 28,.binOp .lss 3 (.tmp 27) (.tmp 26) 3,0,none⟩] [0,1,5,6,7,8,25,26,27,28])
 (.seq (.cond (.tmp 28)
 (.skip [0,1,5,6,7,8,25,26,27])
 (.exit 0 [0,1,5,6,7,8])) (sg c17S0)))
def c17S1(_:Unit):Cmd:=(.cond (.tmp 79)
 (.seq (.ops [
 ⟨some 4,.assign (.const (.bool false)),4,none⟩] [4])
 .ret)
 (.skip [0,5,6,7,8,14,39,40,41]))
def c17S2(_:Unit):Cmd:=(.seq (.ops [
 ⟨some 101,.move (.tmp 17),4,none⟩,
 ⟨some 102,.unOp .not 4 (.tmp 101),4,none⟩] [0,5,6,7,8,14,39,40,41,102])
 (.cond (.tmp 102)
 (.seq (.ops [
 ⟨some 4,.assign (.const (.bool false)),4,none⟩] [4])
 .ret)
 (.skip [0,5,6,7,8,14,39,40,41])))
def c17S3(_:Unit):Cmd:=(.ops [
 ⟨some 103,.move (.tmp 6),56,none⟩,
 ⟨some 104,.fieldAddr 52 (.tmp 14) 1,0,none⟩,
 ⟨some 105,.load 3 (.tmp 104),3,none⟩,
 ⟨some 106,.lookup 56 (.tmp 103) (.tmp 105) false,3,none⟩,
 ⟨some 107,.binOp .add 3 (.tmp 106) (.const (.int .i64 1)) 3,3,none⟩,
 ⟨none,.mapUpdate 56 (.tmp 103) (.tmp 105) (.tmp 107),0,none⟩] [0,5,6,7,8,39,40,41])
def c17S4(_:Unit):Cmd:=(.seq (.seq (.draw (drawOps 1 c17code) [0,5,6,7,8,14,17,39,40,41]) (sg c17S2)) (sg c17S3))
def c17S5(_:Unit):Cmd:=(.seq (.ops [
 ⟨some 81,.move (.tmp 5),78,none⟩,
 ⟨some 82,.fieldAddr 52 (.tmp 14) 2,0,none⟩,
 ⟨some 83,.load 3 (.tmp 82),3,none⟩,
 ⟨some 84,.lookup 78 (.tmp 81) (.tmp 83) true,81,none⟩,
 ⟨some 80,.move (.tmp 84),81,none⟩,
 ⟨some 85,.extract (.tmp 80) 0,25,none⟩,
 ⟨some 86,.extract (.tmp 80) 1,4,none⟩,
 ⟨some 16,.assign (.tmp 85),25,none⟩,
 ⟨some 17,.assign (.tmp 86),4,none⟩] [0,5,6,7,8,14,16,17,39,40,41])
 (.seq (.seq (.ops [
 ⟨some 87,.move (.tmp 17),4,none⟩,
 ⟨some 88,.unOp .not 4 (.tmp 87),4,none⟩] [0,5,6,7,8,14,16,39,40,41,88])
 (.cond (.tmp 88)
 (.ops [
 ⟨some 89,.fieldAddr 52 (.tmp 14) 3,0,none⟩,
 ⟨some 90,.load 3 (.tmp 89),3,none⟩,
 ⟨some 91,.call ⟨.value (.func 40),#[(.tmp 90)],#[3]⟩,25,none⟩,
 ⟨some 16,.assign (.tmp 91),25,none⟩] [0,5,6,7,8,14,16,39,40,41])
 (.skip [0,5,6,7,8,14,16,39,40,41]))) (sg c17S4)))
def c17S6(_:Unit):Cmd:=(.seq (.ops [
 ⟨some 50,.move (.tmp 0),22,none⟩,
 ⟨some 51,.move (.tmp 13),3,none⟩,
 ⟨some 52,.indexAddr 22 (.tmp 50) (.tmp 51),0,none⟩,
 ⟨some 53,.load 52 (.tmp 52),52,none⟩,
 ⟨some 14,.alloc 52,0,none⟩,
 ⟨none,.store 52 (.tmp 14) (.tmp 53),0,none⟩] [0,5,6,7,8,12,14,39,40,41])
 (.seq (.ops [
 ⟨some 54,.move (.tmp 7),31,none⟩,
 ⟨some 55,.move (.tmp 8),56,none⟩,
 ⟨some 56,.fieldAddr 52 (.tmp 14) 1,0,none⟩,
 ⟨some 57,.load 3 (.tmp 56),3,none⟩,
 ⟨some 58,.lookup 56 (.tmp 55) (.tmp 57) false,3,none⟩,
 ⟨some 59,.indexAddr 31 (.tmp 54) (.tmp 58),0,none⟩,
 ⟨some 60,.load 22 (.tmp 59),22,none⟩,
 ⟨some 15,.assign (.tmp 60),22,none⟩] [0,5,6,7,8,12,14,15,39,40,41])
 (.seq (.seq (.draw (drawOps 0 c17code) [0,5,6,7,8,14,39,40,41,79]) (sg c17S1)) (sg c17S5))))
def c17S7(_:Unit):Cmd:=(.seq (.seq (.ops [
 ⟨some 48,.move (.tmp 13),3,none⟩,
 ⟨some 49,.binOp .lss 3 (.tmp 48) (.const (.int .i64 0)) 3,4,none⟩] [0,5,6,7,8,12,13,39,40,41,49])
 (.cond (.tmp 49)
 (.seq (.ops [
 ⟨some 4,.assign (.const (.bool false)),4,none⟩] [4])
 .ret)
 (.skip [0,5,6,7,8,12,13,39,40,41]))) (sg c17S6))
def c17S8(_:Unit):Cmd:=(.ops [
 ⟨some 108,.binOp .add 3 (.tmp 41) (.const (.int .i64 1)) 3,3,none⟩,
 ⟨some 41,.move (.tmp 108),3,none⟩] [0,5,6,7,8,39,40,41])
def c17S9(_:Unit):Cmd:=(.seq (.block 3 (.seq (.ops [
 ⟨some 43,.indexAddr 25 (.tmp 39) (.tmp 41),0,none⟩,
 ⟨some 44,.load 3 (.tmp 43),3,none⟩,
 ⟨some 12,.alloc 3,0,none⟩,
 ⟨none,.store 3 (.tmp 12) (.tmp 44),0,none⟩] [0,5,6,7,8,12,39,40,41])
 (.seq (.ops [
 ⟨some 45,.move (.tmp 0),22,none⟩,
 ⟨some 46,.makeFunc (.func 39) #[] #[(.tmp 12)],80,none⟩,
 ⟨some 47,.call ⟨.value (.func 38),#[(.tmp 45),(.tmp 46)],#[22,80]⟩,3,none⟩,
 ⟨some 13,.assign (.tmp 47),3,none⟩] [0,5,6,7,8,12,13,39,40,41]) (sg c17S7)))) (sg c17S8))
def c17L1(_:Unit):Cmd:=(.seq (.ops [
 ⟨some 42,.binOp .lss 3 (.tmp 41) (.tmp 40) 3,0,none⟩] [0,5,6,7,8,39,40,41,42])
 (.seq (.cond (.tmp 42)
 (.skip [0,5,6,7,8,39,40,41])
 (.exit 2 [6,7])) (sg c17S9)))
def c17S10(_:Unit):Cmd:=(.cond (.tmp 123)
 (.seq (.ops [
 ⟨some 4,.assign (.const (.bool false)),4,none⟩] [4])
 .ret)
 (.skip [6,109,110,111]))
def c17S11(_:Unit):Cmd:=(.ops [
 ⟨some 124,.binOp .add 3 (.tmp 111) (.const (.int .i64 1)) 3,3,none⟩,
 ⟨some 111,.move (.tmp 124),3,none⟩] [6,109,110,111])
def c17S12(_:Unit):Cmd:=(.seq (.block 5 (.seq (.ops [
 ⟨some 113,.indexAddr 31 (.tmp 109) (.tmp 111),0,none⟩,
 ⟨some 114,.load 22 (.tmp 113),22,none⟩,
 ⟨some 19,.assign (.tmp 114),22,none⟩] [6,19,109,110,111])
 (.seq (.ops [
 ⟨some 115,.move (.tmp 19),22,none⟩,
 ⟨some 116,.move (.tmp 6),56,none⟩,
 ⟨some 117,.move (.tmp 19),22,none⟩,
 ⟨some 118,.indexAddr 22 (.tmp 117) (.const (.int .i64 0)),0,none⟩,
 ⟨some 119,.fieldAddr 52 (.tmp 118) 1,0,none⟩,
 ⟨some 120,.load 3 (.tmp 119),3,none⟩,
 ⟨some 121,.lookup 56 (.tmp 116) (.tmp 120) false,3,none⟩,
 ⟨some 122,.slice 22 (.tmp 115) (some (.tmp 121)) none none,22,none⟩,
 ⟨some 123,.call ⟨.value (.func 42),#[(.tmp 122),(.func 43)],#[22,80]⟩,4,none⟩] [6,109,110,111,123]) (sg c17S10)))) (sg c17S11))
def c17L2(_:Unit):Cmd:=(.seq (.ops [
 ⟨some 112,.binOp .lss 3 (.tmp 111) (.tmp 110) 3,0,none⟩] [6,109,110,111,112])
 (.seq (.cond (.tmp 112)
 (.skip [6,109,110,111])
 (.exit 4 [])) (sg c17S12)))
def c17S13(_:Unit):Cmd:=(.seq (.ops [
 ⟨some 4,.assign (.const (.bool true)),4,none⟩] [4])
 .ret)
def c17S14(_:Unit):Cmd:=(.seq (.seq (.ops [
 ⟨some 109,.move (.tmp 7),31,none⟩,
 ⟨some 110,.call ⟨.builtin .len,#[(.tmp 109)],#[31]⟩,3,none⟩,
 ⟨some 111,.move (.const (.int .i64 0)),3,none⟩] [6,109,110,111])
 (.block 4 (.loop (sg c17L2)))) (sg c17S13))
def c17S15(_:Unit):Cmd:=(.seq (.seq (.ops [
 ⟨some 39,.move (.tmp 1),25,none⟩,
 ⟨some 40,.call ⟨.builtin .len,#[(.tmp 39)],#[25]⟩,3,none⟩,
 ⟨some 41,.move (.const (.int .i64 0)),3,none⟩] [0,5,6,7,8,39,40,41])
 (.block 2 (.loop (sg c17L1)))) (sg c17S14))
def c17S16(_:Unit):Cmd:=(.seq (.ops [
 ⟨some 24,.makeMap 56 none,56,none⟩,
 ⟨some 8,.assign (.tmp 24),56,none⟩] [0,1,5,6,7,8])
 (.seq (.seq (.ops [
 ⟨some 25,.move (.tmp 7),31,none⟩,
 ⟨some 26,.call ⟨.builtin .len,#[(.tmp 25)],#[31]⟩,3,none⟩,
 ⟨some 27,.move (.const (.int .i64 0)),3,none⟩] [0,1,5,6,7,8,25,26,27])
 (.block 0 (.loop (sg c17L0)))) (sg c17S15)))
def c17:Cmd:=(.seq (.ops [
 ⟨some 4,.assign (.const (.bool false)),4,none⟩] [0,1])
 (.seq (.ops [
 ⟨some 20,.makeMap 78 none,78,none⟩,
 ⟨some 5,.assign (.tmp 20),78,none⟩] [0,1,5])
 (.seq (.ops [
 ⟨some 21,.makeMap 56 none,56,none⟩,
 ⟨some 6,.assign (.tmp 21),56,none⟩] [0,1,5,6])
 (.seq (.ops [
 ⟨some 22,.move (.tmp 0),22,none⟩,
 ⟨some 23,.call ⟨.value (.func 24),#[(.tmp 22)],#[22]⟩,31,none⟩,
 ⟨some 7,.assign (.tmp 23),31,none⟩] [0,1,5,6,7]) (sg c17S16)))))
attribute [go_sem] c17 c17S0 c17S6 c17S8 c17S9 c17S11 c17S12 c17S13
def c17D0:List (Nat × Ins):=[
 (0,⟨some 61,.move (.tmp 6),56,none⟩),
 (0,⟨some 62,.fieldAddr 52 (.tmp 14) 1,0,none⟩),
 (0,⟨some 65,.move (.tmp 15),22,none⟩),
 (0,⟨some 66,.call ⟨.builtin .len,#[(.tmp 65)],#[22]⟩,3,none⟩),
 (2,⟨some 63,.load 3 (.tmp 62),3,none⟩),
 (2,⟨some 64,.lookup 56 (.tmp 61) (.tmp 63) false,3,none⟩),
 (0,⟨some 67,.binOp .geq 3 (.tmp 64) (.tmp 66) 3,4,none⟩),
 (0,⟨some 68,.move (.tmp 67),4,none⟩),
 (0,⟨some 69,.move (.tmp 15),22,(some (68,false))⟩),
 (0,⟨some 70,.move (.tmp 6),56,(some (68,false))⟩),
 (0,⟨some 71,.fieldAddr 52 (.tmp 14) 1,0,(some (68,false))⟩),
 (1,⟨some 72,.load 3 (.tmp 71),3,(some (68,false))⟩),
 (1,⟨some 77,.load 3 (.tmp 12),3,(some (68,false))⟩),
 (2,⟨some 73,.lookup 56 (.tmp 70) (.tmp 72) false,3,(some (68,false))⟩),
 (0,⟨some 74,.indexAddr 22 (.tmp 69) (.tmp 73),0,(some (68,false))⟩),
 (0,⟨some 75,.fieldAddr 52 (.tmp 74) 0,0,(some (68,false))⟩),
 (2,⟨some 76,.load 3 (.tmp 75),3,(some (68,false))⟩),
 (0,⟨some 78,.binOp .neq 3 (.tmp 76) (.tmp 77) 3,4,(some (68,false))⟩),
 (0,⟨some 79,.pick (.tmp 68) (.const (.bool true)) (.tmp 78),4,none⟩)]
theorem c17draw0{L:List Nat}{ρ:Env}{w:World}{Q:Post}(S:World→Prop)(hS:S w.drew)(h:DG Tryz.prog S c17D0 L ρ w.drew Q):drawW Tryz.prog (drawOps 0 c17code) L ρ w Q :=
 drawW_held [11,16] [(0,0),(0,1),(0,4),(0,5),(2,2),(2,3),(0,6),(0,7),(0,8),(0,9),(0,10),(1,11),(1,16),(2,12),(0,13),(0,14),(2,15),(0,17),(0,18)] c17D0 (by kernel_rfl) (by kernel_rfl) (by kernel_rfl) S hS h
def c17D1:List (Nat × Ins):=[
 (0,⟨some 93,.move (.tmp 5),78,none⟩),
 (0,⟨some 94,.fieldAddr 52 (.tmp 14) 2,0,none⟩),
 (0,⟨some 96,.move (.tmp 16),25,none⟩),
 (1,⟨some 95,.load 3 (.tmp 94),3,none⟩),
 (2,⟨some 97,.load 52 (.tmp 14),52,none⟩),
 (2,⟨some 98,.call ⟨.value (.func 41),#[(.tmp 96),(.tmp 97)],#[25,52]⟩,81,none⟩),
 (0,⟨some 92,.move (.tmp 98),81,none⟩),
 (0,⟨some 99,.extract (.tmp 92) 0,25,none⟩),
 (0,⟨some 100,.extract (.tmp 92) 1,4,none⟩),
 (3,⟨none,.mapUpdate 78 (.tmp 93) (.tmp 95) (.tmp 99),0,none⟩),
 (0,⟨some 17,.assign (.tmp 100),4,none⟩)]
theorem c17draw1{L:List Nat}{ρ:Env}{w:World}{Q:Post}(S:World→Prop)(hS:S w.drew)(h:DG Tryz.prog S c17D1 L ρ w.drew Q):drawW Tryz.prog (drawOps 1 c17code) L ρ w Q :=
 drawW_held [2] [(0,0),(0,1),(0,3),(1,2),(2,4),(2,5),(0,6),(0,7),(0,8),(3,9),(0,10)] c17D1 (by kernel_rfl) (by kernel_rfl) (by kernel_rfl) S hS h
theorem ent17(a0 a1:Value)(w:World)(K:Value→World→Prop)(h:W Tryz.prog c17 [(0,a0),(1,a1)] w (finQ Tryz.prog [.tmp 4] K)):Ret Tryz.prog 17 [a0,a1] w K :=
 Ret_of_W (code:=c17code) Tryz.func17 (by kernel_rfl) (by kernel_rfl) (of_decide_eq_true (by kernel_rfl)) h
@[go_sem] theorem go17:goFunc Tryz.prog 17=true:=by kernel_rfl
@[go_sem] theorem go18:goFunc Tryz.prog 18=true:=by kernel_rfl
@[go_sem] theorem go19:goFunc Tryz.prog 19=true:=by kernel_rfl
def c20code:Code:=match Tryz.f20.body with | some c=>c | none=>.skip
def c20S0(_:Unit):Cmd:=(.ops [
 ⟨some 15,.move (.tmp 8),3,none⟩,
 ⟨some 16,.binOp .add 3 (.tmp 15) (.const (.int .i64 1)) 3,3,none⟩,
 ⟨some 8,.assign (.tmp 16),3,none⟩] [0,3,4,5,6,7,8])
def c20S1(_:Unit):Cmd:=(.seq (.block 3 (.seq (.ops [
 ⟨some 17,.move (.tmp 5),4,none⟩,
 ⟨some 18,.unOp .not 4 (.tmp 17),4,none⟩,
 ⟨some 19,.move (.tmp 18),4,none⟩,
 ⟨some 20,.move (.tmp 0),22,(some (19,false))⟩,
 ⟨some 21,.move (.tmp 8),3,(some (19,false))⟩,
 ⟨some 22,.indexAddr 22 (.tmp 20) (.tmp 21),0,(some (19,false))⟩,
 ⟨some 23,.fieldAddr 52 (.tmp 22) 2,0,(some (19,false))⟩,
 ⟨some 24,.load 3 (.tmp 23),3,(some (19,false))⟩,
 ⟨some 25,.move (.tmp 4),3,(some (19,false))⟩,
 ⟨some 26,.binOp .gtr 3 (.tmp 24) (.tmp 25) 3,4,(some (19,false))⟩,
 ⟨some 27,.pick (.tmp 19) (.const (.bool true)) (.tmp 26),4,none⟩,
 ⟨some 28,.move (.tmp 27),4,none⟩,
 ⟨some 29,.move (.tmp 7),4,(some (28,true))⟩,
 ⟨some 30,.unOp .not 4 (.tmp 29),4,(some (28,true))⟩,
 ⟨some 31,.move (.tmp 30),4,(some (28,true))⟩,
 ⟨some 32,.move (.tmp 0),22,(some (31,false))⟩,
 ⟨some 33,.move (.tmp 8),3,(some (31,false))⟩,
 ⟨some 34,.indexAddr 22 (.tmp 32) (.tmp 33),0,(some (31,false))⟩,
 ⟨some 35,.fieldAddr 52 (.tmp 34) 2,0,(some (31,false))⟩,
 ⟨some 36,.load 3 (.tmp 35),3,(some (31,false))⟩,
 ⟨some 37,.move (.tmp 6),3,(some (31,false))⟩,
 ⟨some 38,.binOp .lss 3 (.tmp 36) (.tmp 37) 3,4,(some (31,false))⟩,
 ⟨some 39,.pick (.tmp 31) (.const (.bool true)) (.tmp 38),4,(some (28,true))⟩,
 ⟨some 40,.pick (.tmp 28) (.tmp 39) (.const (.bool false)),4,none⟩] [0,3,4,5,6,7,8,40])
 (.cond (.tmp 40)
 (.ops [
 ⟨some 41,.move (.tmp 0),22,none⟩,
 ⟨some 42,.move (.tmp 8),3,none⟩,
 ⟨some 43,.indexAddr 22 (.tmp 41) (.tmp 42),0,none⟩,
 ⟨some 44,.fieldAddr 52 (.tmp 43) 2,0,none⟩,
 ⟨some 45,.load 3 (.tmp 44),3,none⟩,
 ⟨some 6,.assign (.tmp 45),3,none⟩,
 ⟨some 7,.assign (.const (.bool true)),4,none⟩] [0,3,4,5,6,7,8])
 (.skip [0,3,4,5,6,7,8])))) (sg c20S0))
def c20L0(_:Unit):Cmd:=(.seq (.seq (.ops [
 ⟨some 11,.move (.tmp 8),3,none⟩,
 ⟨some 12,.move (.tmp 0),22,none⟩,
 ⟨some 13,.call ⟨.builtin .len,#[(.tmp 12)],#[22]⟩,3,none⟩,
 ⟨some 14,.binOp .lss 3 (.tmp 11) (.tmp 13) 3,4,none⟩] [0,3,4,5,6,7,8,14])
 (.cond (.tmp 14)
 (.skip [0,3,4,5,6,7,8])
 (.exit 2 [0,3,6,7]))) (sg c20S1))
def c20S2(_:Unit):Cmd:=(.ops [
 ⟨some 53,.move (.tmp 10),3,none⟩,
 ⟨some 54,.binOp .add 3 (.tmp 53) (.const (.int .i64 1)) 3,3,none⟩,
 ⟨some 10,.assign (.tmp 54),3,none⟩] [0,3,6,9,10])
def c20S3(_:Unit):Cmd:=(.seq (.block 5 (.seq (.ops [
 ⟨some 55,.move (.tmp 0),22,none⟩,
 ⟨some 56,.move (.tmp 10),3,none⟩,
 ⟨some 57,.indexAddr 22 (.tmp 55) (.tmp 56),0,none⟩,
 ⟨some 58,.fieldAddr 52 (.tmp 57) 2,0,none⟩,
 ⟨some 59,.load 3 (.tmp 58),3,none⟩,
 ⟨some 60,.move (.tmp 6),3,none⟩,
 ⟨some 61,.binOp .eql 3 (.tmp 59) (.tmp 60) 3,4,none⟩] [0,3,6,9,10,61])
 (.cond (.tmp 61)
 (.ops [
 ⟨some 62,.move (.tmp 9),22,none⟩,
 ⟨some 63,.move (.tmp 0),22,none⟩,
 ⟨some 64,.move (.tmp 10),3,none⟩,
 ⟨some 65,.indexAddr 22 (.tmp 63) (.tmp 64),0,none⟩,
 ⟨some 66,.load 52 (.tmp 65),52,none⟩,
 ⟨some 67,.buildSlice 22 1 #[(0,(.tmp 66))],22,none⟩,
 ⟨some 68,.call ⟨.builtin .append,#[(.tmp 62),(.tmp 67)],#[22,22]⟩,22,none⟩,
 ⟨some 9,.assign (.tmp 68),22,none⟩] [0,3,6,9,10])
 (.skip [0,3,6,9,10])))) (sg c20S2))
def c20L1(_:Unit):Cmd:=(.seq (.seq (.ops [
 ⟨some 49,.move (.tmp 10),3,none⟩,
 ⟨some 50,.move (.tmp 0),22,none⟩,
 ⟨some 51,.call ⟨.builtin .len,#[(.tmp 50)],#[22]⟩,3,none⟩,
 ⟨some 52,.binOp .lss 3 (.tmp 49) (.tmp 51) 3,4,none⟩] [0,3,6,9,10,52])
 (.cond (.tmp 52)
 (.skip [0,3,6,9,10])
 (.exit 4 [0,3,6,9]))) (sg c20S3))
def c20S4(_:Unit):Cmd:=(.ops [
 ⟨some 81,.move (.tmp 6),3,none⟩,
 ⟨some 4,.assign (.tmp 81),3,none⟩,
 ⟨some 5,.assign (.const (.bool true)),4,none⟩] [0,3,4,5])
def c20S5(_:Unit):Cmd:=(.seq (.ops [
 ⟨some 71,.move (.tmp 3),39,none⟩,
 ⟨some 72,.move (.tmp 6),3,none⟩,
 ⟨some 73,.move (.tmp 9),22,none⟩,
 ⟨some 74,.indexAddr 22 (.tmp 73) (.const (.int .i64 0)),0,none⟩,
 ⟨some 75,.fieldAddr 52 (.tmp 74) 3,0,none⟩,
 ⟨some 76,.load 3 (.tmp 75),3,none⟩,
 ⟨some 77,.move (.tmp 9),22,none⟩,
 ⟨some 78,.build 47 #[(0,(.tmp 72)),(1,(.tmp 76)),(2,(.tmp 77))],47,none⟩,
 ⟨some 79,.buildSlice 39 1 #[(0,(.tmp 78))],39,none⟩,
 ⟨some 80,.call ⟨.builtin .append,#[(.tmp 71),(.tmp 79)],#[39,39]⟩,39,none⟩,
 ⟨some 3,.assign (.tmp 80),39,none⟩] [0,3,6]) (sg c20S4))
def c20S6(_:Unit):Cmd:=(.seq (.ops [
 ⟨some 69,.move (.tmp 9),22,none⟩,
 ⟨some 70,.call ⟨.value (.func 36),#[(.tmp 69)],#[22]⟩,22,none⟩,
 ⟨some 9,.assign (.tmp 70),22,none⟩] [0,3,6,9]) (sg c20S5))
def c20S7(_:Unit):Cmd:=(.seq (.ops [
 ⟨some 9,.assign (.const (.slice none 0 0)),22,none⟩] [0,3,6,9])
 (.seq (.seq (.ops [
 ⟨some 10,.assign (.const (.int .i64 0)),3,none⟩] [0,3,6,9,10])
 (.block 4 (.loop (sg c20L1)))) (sg c20S6)))
def c20S8(_:Unit):Cmd:=(.seq (.seq (.ops [
 ⟨some 46,.move (.tmp 7),4,none⟩,
 ⟨some 47,.unOp .not 4 (.tmp 46),4,none⟩] [0,3,6,47])
 (.cond (.tmp 47)
 (.seq (.ops [
 ⟨some 48,.move (.tmp 3),39,none⟩,
 ⟨some 2,.assign (.tmp 48),39,none⟩] [2])
 .ret)
 (.skip [0,3,6]))) (sg c20S7))
def c20L2(_:Unit):Cmd:=(.block 1 (.seq (.ops [
 ⟨some 6,.assign (.const (.int .i64 0)),3,none⟩,
 ⟨some 7,.assign (.const (.bool false)),4,none⟩] [0,3,4,5,6,7])
 (.seq (.seq (.ops [
 ⟨some 8,.assign (.const (.int .i64 0)),3,none⟩] [0,3,4,5,6,7,8])
 (.block 2 (.loop (sg c20L0)))) (sg c20S8))))
def c20:Cmd:=(.seq (.ops [
 ⟨some 2,.assign (.const (.slice none 0 0)),39,none⟩] [0])
 (.seq (.ops [
 ⟨some 3,.assign (.const (.slice none 0 0)),39,none⟩] [0,3])
 (.seq (.ops [
 ⟨some 4,.assign (.const (.int .i64 0)),3,none⟩,
 ⟨some 5,.assign (.const (.bool false)),4,none⟩] [0,3,4,5])
 (.block 0 (.loop (sg c20L2))))))
attribute [go_sem] c20 c20S0 c20S1 c20L0 c20S2 c20S3 c20L1 c20S4 c20S5 c20L2
theorem ent20(a0:Value)(w:World)(K:Value→World→Prop)(h:W Tryz.prog c20 [(0,a0)] w (finQ Tryz.prog [.tmp 2] K)):Ret Tryz.prog 20 [a0] w K :=
 Ret_of_W (code:=c20code) Tryz.func20 (by kernel_rfl) (by kernel_rfl) (of_decide_eq_true (by kernel_rfl)) h
@[go_sem] theorem go20:goFunc Tryz.prog 20=true:=by kernel_rfl
@[go_sem] theorem go21:goFunc Tryz.prog 21=true:=by kernel_rfl
def c22code:Code:=match Tryz.f22.body with | some c=>c | none=>.skip
def c22S0(_:Unit):Cmd:=(.seq (.ops [
 ⟨some 2,.assign (.const (.slice none 0 0)),25,none⟩] [2])
 .ret)
def c22:Cmd:=(.seq (.ops [
 ⟨some 2,.assign (.const (.slice none 0 0)),25,none⟩] [0])
 (.seq (.seq (.ops [
 ⟨some 3,.move (.tmp 0),3,none⟩,
 ⟨some 4,.binOp .eql 3 (.tmp 3) (.const (.int .i64 1)) 3,4,none⟩,
 ⟨some 5,.move (.tmp 4),4,none⟩,
 ⟨some 6,.move (.tmp 0),3,(some (5,false))⟩,
 ⟨some 7,.binOp .eql 3 (.tmp 6) (.const (.int .i64 2)) 3,4,(some (5,false))⟩,
 ⟨some 8,.pick (.tmp 5) (.const (.bool true)) (.tmp 7),4,none⟩] [8])
 (.cond (.tmp 8)
 (.seq (.ops [
 ⟨some 9,.buildSlice 25 1 #[(0,(.const (.int .i64 0)))],25,none⟩,
 ⟨some 2,.assign (.tmp 9),25,none⟩] [2])
 .ret)
 (.skip []))) (sg c22S0)))
attribute [go_sem] c22 c22S0
theorem ent22(a0:Value)(w:World)(K:Value→World→Prop)(h:W Tryz.prog c22 [(0,a0)] w (finQ Tryz.prog [.tmp 2] K)):Ret Tryz.prog 22 [a0] w K :=
 Ret_of_W (code:=c22code) Tryz.func22 (by kernel_rfl) (by kernel_rfl) (of_decide_eq_true (by kernel_rfl)) h
@[go_sem] theorem go22:goFunc Tryz.prog 22=true:=by kernel_rfl
def c23code:Code:=match Tryz.f23.body with | some c=>c | none=>.skip
def c23S0(_:Unit):Cmd:=.ret
def c23S1(_:Unit):Cmd:=(.cond (.tmp 26)
 (.seq (.draw (drawOps 1 c23code) [4]) (sg c23S0))
 (.skip [0,1,5]))
def c23S2(_:Unit):Cmd:=(.ops [
 ⟨some 16,.move (.tmp 5),3,none⟩,
 ⟨some 17,.binOp .add 3 (.tmp 16) (.const (.int .i64 1)) 3,3,none⟩,
 ⟨some 5,.assign (.tmp 17),3,none⟩] [0,1,5])
def c23S3(_:Unit):Cmd:=(.seq (.block 1 (.seq (.draw (drawOps 0 c23code) [0,1,5,26]) (sg c23S1))) (sg c23S2))
def c23L0(_:Unit):Cmd:=(.seq (.seq (.ops [
 ⟨some 6,.move (.tmp 5),3,none⟩,
 ⟨some 7,.move (.tmp 0),25,none⟩,
 ⟨some 8,.call ⟨.builtin .len,#[(.tmp 7)],#[25]⟩,3,none⟩,
 ⟨some 9,.binOp .lss 3 (.tmp 6) (.tmp 8) 3,4,none⟩,
 ⟨some 10,.move (.tmp 9),4,none⟩,
 ⟨some 11,.move (.tmp 5),3,(some (10,true))⟩,
 ⟨some 12,.move (.tmp 1),25,(some (10,true))⟩,
 ⟨some 13,.call ⟨.builtin .len,#[(.tmp 12)],#[25]⟩,3,(some (10,true))⟩,
 ⟨some 14,.binOp .lss 3 (.tmp 11) (.tmp 13) 3,4,(some (10,true))⟩,
 ⟨some 15,.pick (.tmp 10) (.tmp 14) (.const (.bool false)),4,none⟩] [0,1,5,15])
 (.cond (.tmp 15)
 (.skip [0,1,5])
 (.exit 0 [0,1]))) (sg c23S3))
def c23S4(_:Unit):Cmd:=(.seq (.ops [
 ⟨some 36,.move (.tmp 0),25,none⟩,
 ⟨some 37,.call ⟨.builtin .len,#[(.tmp 36)],#[25]⟩,3,none⟩,
 ⟨some 38,.move (.tmp 1),25,none⟩,
 ⟨some 39,.call ⟨.builtin .len,#[(.tmp 38)],#[25]⟩,3,none⟩,
 ⟨some 40,.binOp .lss 3 (.tmp 37) (.tmp 39) 3,4,none⟩,
 ⟨some 4,.assign (.tmp 40),4,none⟩] [4])
 .ret)
def c23:Cmd:=(.seq (.ops [
 ⟨some 4,.assign (.const (.bool false)),4,none⟩] [0,1])
 (.seq (.seq (.ops [
 ⟨some 5,.assign (.const (.int .i64 0)),3,none⟩] [0,1,5])
 (.block 0 (.loop (sg c23L0)))) (sg c23S4)))
attribute [go_sem] c23 c23S0 c23S1 c23S2 c23S3 c23S4
def c23D0:List (Bool × Ins):=[
 (true,⟨some 18,.move (.tmp 0),25,none⟩),
 (true,⟨some 19,.move (.tmp 5),3,none⟩),
 (true,⟨some 20,.indexAddr 25 (.tmp 18) (.tmp 19),0,none⟩),
 (false,⟨some 21,.load 3 (.tmp 20),3,none⟩),
 (true,⟨some 22,.move (.tmp 1),25,none⟩),
 (true,⟨some 23,.move (.tmp 5),3,none⟩),
 (true,⟨some 24,.indexAddr 25 (.tmp 22) (.tmp 23),0,none⟩),
 (false,⟨some 25,.load 3 (.tmp 24),3,none⟩),
 (true,⟨some 26,.binOp .neq 3 (.tmp 21) (.tmp 25) 3,4,none⟩)]
theorem c23draw0{L:List Nat}{ρ:Env}{w:World}{Q:Post}(h:DL Tryz.prog c23D0 L ρ w.drew Q):drawW Tryz.prog (drawOps 0 c23code) L ρ w Q :=
 drawW_still [true,true,true,false,true,true,true,false,true] c23D0 (by kernel_rfl) (by kernel_rfl) (by kernel_rfl) h
def c23D1:List (Bool × Ins):=[
 (true,⟨some 27,.move (.tmp 0),25,none⟩),
 (true,⟨some 28,.move (.tmp 5),3,none⟩),
 (true,⟨some 29,.indexAddr 25 (.tmp 27) (.tmp 28),0,none⟩),
 (false,⟨some 30,.load 3 (.tmp 29),3,none⟩),
 (true,⟨some 31,.move (.tmp 1),25,none⟩),
 (true,⟨some 32,.move (.tmp 5),3,none⟩),
 (true,⟨some 33,.indexAddr 25 (.tmp 31) (.tmp 32),0,none⟩),
 (false,⟨some 34,.load 3 (.tmp 33),3,none⟩),
 (true,⟨some 35,.binOp .lss 3 (.tmp 30) (.tmp 34) 3,4,none⟩),
 (true,⟨some 4,.assign (.tmp 35),4,none⟩)]
theorem c23draw1{L:List Nat}{ρ:Env}{w:World}{Q:Post}(h:DL Tryz.prog c23D1 L ρ w.drew Q):drawW Tryz.prog (drawOps 1 c23code) L ρ w Q :=
 drawW_still [true,true,true,false,true,true,true,false,true,true] c23D1 (by kernel_rfl) (by kernel_rfl) (by kernel_rfl) h
theorem ent23(a0 a1:Value)(w:World)(K:Value→World→Prop)(h:W Tryz.prog c23 [(0,a0),(1,a1)] w (finQ Tryz.prog [.tmp 4] K)):Ret Tryz.prog 23 [a0,a1] w K :=
 Ret_of_W (code:=c23code) Tryz.func23 (by kernel_rfl) (by kernel_rfl) (of_decide_eq_true (by kernel_rfl)) h
@[go_sem] theorem go23:goFunc Tryz.prog 23=true:=by kernel_rfl
def c24code:Code:=match Tryz.f24.body with | some c=>c | none=>.skip
def c24S0(_:Unit):Cmd:=(.ops [
 ⟨some 26,.binOp .add 3 (.tmp 12) (.const (.int .i64 1)) 3,3,none⟩,
 ⟨some 12,.move (.tmp 26),3,none⟩] [3,10,11,12])
def c24S1(_:Unit):Cmd:=(.seq (.block 1 (.seq (.ops [
 ⟨some 14,.indexAddr 22 (.tmp 10) (.tmp 12),0,none⟩,
 ⟨some 15,.load 52 (.tmp 14),52,none⟩,
 ⟨some 5,.alloc 52,0,none⟩,
 ⟨none,.store 52 (.tmp 5) (.tmp 15),0,none⟩] [3,5,10,11,12])
 (.draw (drawOps 0 c24code) [3,10,11,12]))) (sg c24S0))
def c24L0(_:Unit):Cmd:=(.seq (.ops [
 ⟨some 13,.binOp .lss 3 (.tmp 12) (.tmp 11) 3,0,none⟩] [3,10,11,12,13])
 (.seq (.cond (.tmp 13)
 (.skip [3,10,11,12])
 (.exit 0 [3])) (sg c24S1)))
def c24S2(_:Unit):Cmd:=(.ops [
 ⟨some 39,.move (.tmp 6),31,none⟩,
 ⟨some 40,.move (.tmp 3),91,none⟩,
 ⟨some 41,.move (.tmp 8),3,none⟩,
 ⟨some 42,.lookup 91 (.tmp 40) (.tmp 41) false,22,none⟩,
 ⟨some 43,.buildSlice 31 1 #[(0,(.tmp 42))],31,none⟩,
 ⟨some 44,.call ⟨.builtin .append,#[(.tmp 39),(.tmp 43)],#[31,31]⟩,31,none⟩,
 ⟨some 6,.assign (.tmp 44),31,none⟩] [3,6,29,30,31])
def c24S3(_:Unit):Cmd:=(.ops [
 ⟨some 45,.binOp .add 3 (.tmp 31) (.const (.int .i64 1)) 3,3,none⟩,
 ⟨some 31,.move (.tmp 45),3,none⟩] [3,6,29,30,31])
def c24S4(_:Unit):Cmd:=(.seq (.block 3 (.seq (.ops [
 ⟨some 33,.indexAddr 25 (.tmp 29) (.tmp 31),0,none⟩,
 ⟨some 34,.load 3 (.tmp 33),3,none⟩,
 ⟨some 8,.assign (.tmp 34),3,none⟩] [3,6,8,29,30,31])
 (.seq (.ops [
 ⟨some 35,.move (.tmp 3),91,none⟩,
 ⟨some 36,.move (.tmp 8),3,none⟩,
 ⟨some 37,.lookup 91 (.tmp 35) (.tmp 36) false,22,none⟩,
 ⟨some 38,.call ⟨.value (.func 50),#[(.tmp 37),(.func 51)],#[22,99]⟩,0,none⟩] [3,6,8,29,30,31]) (sg c24S2)))) (sg c24S3))
def c24L1(_:Unit):Cmd:=(.seq (.ops [
 ⟨some 32,.binOp .lss 3 (.tmp 31) (.tmp 30) 3,0,none⟩] [3,6,29,30,31,32])
 (.seq (.cond (.tmp 32)
 (.skip [3,6,29,30,31])
 (.exit 2 [6])) (sg c24S4)))
def c24S5(_:Unit):Cmd:=(.block 2 (.loop (sg c24L1)))
def c24S6(_:Unit):Cmd:=(.seq (.ops [
 ⟨some 46,.move (.tmp 6),31,none⟩,
 ⟨some 2,.assign (.tmp 46),31,none⟩] [2])
 .ret)
def c24S7(_:Unit):Cmd:=(.seq (.ops [
 ⟨some 6,.assign (.const (.slice none 0 0)),31,none⟩] [3,6])
 (.seq (.seq (.ops [
 ⟨some 27,.move (.tmp 3),91,none⟩,
 ⟨some 28,.call ⟨.value (.func 49),#[(.tmp 27)],#[91]⟩,94,none⟩,
 ⟨some 29,.call ⟨.value (.func 48),#[(.tmp 28)],#[94]⟩,25,none⟩,
 ⟨some 30,.call ⟨.builtin .len,#[(.tmp 29)],#[25]⟩,3,none⟩,
 ⟨some 31,.move (.const (.int .i64 0)),3,none⟩] [3,6,29,30,31]) (sg c24S5)) (sg c24S6)))
def c24:Cmd:=(.seq (.ops [
 ⟨some 2,.assign (.const (.slice none 0 0)),31,none⟩] [0])
 (.seq (.ops [
 ⟨some 9,.makeMap 91 none,91,none⟩,
 ⟨some 3,.assign (.tmp 9),91,none⟩] [0,3])
 (.seq (.seq (.ops [
 ⟨some 10,.move (.tmp 0),22,none⟩,
 ⟨some 11,.call ⟨.builtin .len,#[(.tmp 10)],#[22]⟩,3,none⟩,
 ⟨some 12,.move (.const (.int .i64 0)),3,none⟩] [3,10,11,12])
 (.block 0 (.loop (sg c24L0)))) (sg c24S7))))
attribute [go_sem] c24 c24S0 c24S1 c24S2 c24S3 c24S4 c24L1 c24S6
def c24D0:GT:=(.one 0 ⟨some 16,.move (.tmp 3),91,none⟩
 (.one 0 ⟨some 17,.fieldAddr 52 (.tmp 5) 1,0,none⟩
 (.one 0 ⟨some 19,.move (.tmp 3),91,none⟩
 (.one 0 ⟨some 20,.fieldAddr 52 (.tmp 5) 1,0,none⟩
 (.one 1 ⟨some 18,.load 3 (.tmp 17),3,none⟩
 (.one 1 ⟨some 21,.load 3 (.tmp 20),3,none⟩
 (.one 1 ⟨some 23,.load 52 (.tmp 5),52,none⟩
 (.alt ⟨some 22,.lookup 91 (.tmp 19) (.tmp 21) false,22,none⟩
 (.one 2 ⟨some 24,.buildSlice 22 1 #[(0,(.tmp 23))],22,none⟩
 (.one 2 ⟨some 25,.call ⟨.builtin .append,#[(.tmp 22),(.tmp 24)],#[22,22]⟩,22,none⟩
 (.one 2 ⟨none,.mapUpdate 91 (.tmp 16) (.tmp 18) (.tmp 25),0,none⟩
 .nil)))
 (.alt ⟨some 24,.buildSlice 22 1 #[(0,(.tmp 23))],22,none⟩
 (.one 2 ⟨some 22,.lookup 91 (.tmp 19) (.tmp 21) false,22,none⟩
 (.one 2 ⟨some 25,.call ⟨.builtin .append,#[(.tmp 22),(.tmp 24)],#[22,22]⟩,22,none⟩
 (.one 2 ⟨none,.mapUpdate 91 (.tmp 16) (.tmp 18) (.tmp 25),0,none⟩
 .nil)))
 .stop)))))))))
theorem c24draw0{L:List Nat}{ρ:Env}{w:World}{Q:Post}(S:World→Prop)(hS:S w.drew)(h:DT Tryz.prog S c24D0 L ρ w.drew Q):drawW Tryz.prog (drawOps 0 c24code) L ρ w Q :=
 drawW_tree [2,5,7] (.one 0 0 (.one 0 1 (.one 0 3 (.one 0 4 (.one 1 2 (.one 1 5 (.one 1 7 (.alt 6 (.one 2 8 (.one 2 9 (.one 2 10 .nil))) (.alt 8 (.one 2 6 (.one 2 9 (.one 2 10 .nil))) .stop))))))))) c24D0 (by kernel_rfl) (by kernel_rfl) (by kernel_rfl) S hS h
theorem ent24(a0:Value)(w:World)(K:Value→World→Prop)(h:W Tryz.prog c24 [(0,a0)] w (finQ Tryz.prog [.tmp 2] K)):Ret Tryz.prog 24 [a0] w K :=
 Ret_of_W (code:=c24code) Tryz.func24 (by kernel_rfl) (by kernel_rfl) (of_decide_eq_true (by kernel_rfl)) h
@[go_sem] theorem go24:goFunc Tryz.prog 24=true:=by kernel_rfl
@[go_sem] theorem go25:goFunc Tryz.prog 25=true:=by kernel_rfl
@[go_sem] theorem go26:goFunc Tryz.prog 26=true:=by kernel_rfl
@[go_sem] theorem go27:goFunc Tryz.prog 27=true:=by kernel_rfl
def c28code:Code:=match Tryz.f28.body with | some c=>c | none=>.skip
def c28S0(_:Unit):Cmd:=(.cond (.tmp 32)
 (.seq (.ops [
 ⟨some 2,.assign (.const (.int .i64 33)),26,none⟩] [2])
 .ret)
 (.seq (.ops [
 ⟨some 64,.fieldAddr 52 (.tmp 1) 9,0,none⟩,
 ⟨some 65,.load 3 (.tmp 64),3,none⟩,
 ⟨some 66,.binOp .lss 3 (.tmp 65) (.const (.int .i64 0)) 3,4,none⟩,
 ⟨some 67,.move (.tmp 66),4,none⟩,
 ⟨some 68,.fieldAddr 52 (.tmp 1) 9,0,(some (67,false))⟩,
 ⟨some 69,.load 3 (.tmp 68),3,(some (67,false))⟩,
 ⟨some 70,.binOp .gtr 3 (.tmp 69) (.const (.int .i64 1099511627776)) 3,4,(some (67,false))⟩,
 ⟨some 71,.pick (.tmp 67) (.const (.bool true)) (.tmp 70),4,none⟩,
 ⟨some 72,.move (.tmp 71),4,none⟩,
 ⟨some 73,.fieldAddr 52 (.tmp 1) 7,0,(some (72,false))⟩,
 ⟨some 74,.load 4 (.tmp 73),4,(some (72,false))⟩,
 ⟨some 75,.move (.tmp 74),4,(some (72,false))⟩,
 ⟨some 76,.fieldAddr 52 (.tmp 1) 10,0,(some (75,true))⟩,
 ⟨some 77,.load 3 (.tmp 76),3,(some (75,true))⟩,
 ⟨some 78,.fieldAddr 52 (.tmp 1) 9,0,(some (75,true))⟩,
 ⟨some 79,.load 3 (.tmp 78),3,(some (75,true))⟩,
 ⟨some 80,.binOp .leq 3 (.tmp 77) (.tmp 79) 3,4,(some (75,true))⟩,
 ⟨some 81,.move (.tmp 80),4,(some (75,true))⟩,
 ⟨some 82,.fieldAddr 52 (.tmp 1) 10,0,(some (81,false))⟩,
 ⟨some 83,.load 3 (.tmp 82),3,(some (81,false))⟩,
 ⟨some 84,.binOp .gtr 3 (.tmp 83) (.const (.int .i64 1099511627776)) 3,4,(some (81,false))⟩,
 ⟨some 85,.pick (.tmp 81) (.const (.bool true)) (.tmp 84),4,(some (75,true))⟩,
 ⟨some 86,.pick (.tmp 75) (.tmp 85) (.const (.bool false)),4,(some (72,false))⟩,
 ⟨some 87,.pick (.tmp 72) (.const (.bool true)) (.tmp 86),4,none⟩,
 ⟨some 88,.move (.tmp 87),4,none⟩,
 ⟨some 89,.fieldAddr 52 (.tmp 1) 7,0,(some (88,false))⟩,
 ⟨some 90,.load 4 (.tmp 89),4,(some (88,false))⟩,
 ⟨some 91,.unOp .not 4 (.tmp 90),4,(some (88,false))⟩,
 ⟨some 92,.move (.tmp 91),4,(some (88,false))⟩,
 ⟨some 93,.fieldAddr 52 (.tmp 1) 10,0,(some (92,true))⟩,
 ⟨some 94,.load 3 (.tmp 93),3,(some (92,true))⟩,
 ⟨some 95,.binOp .neq 3 (.tmp 94) (.const (.int .i64 0)) 3,4,(some (92,true))⟩,
 ⟨some 96,.pick (.tmp 92) (.tmp 95) (.const (.bool false)),4,(some (88,false))⟩,
 ⟨some 97,.pick (.tmp 88) (.const (.bool true)) (.tmp 96),4,none⟩,
 ⟨some 63,.assign (.tmp 97),4,none⟩] [63])
 (.cond (.tmp 63)
 (.seq (.ops [
 ⟨some 2,.assign (.const (.int .i64 31)),26,none⟩] [2])
 .ret)
 (.skip []))))
def c28S1(_:Unit):Cmd:=(.seq (.ops [
 ⟨some 2,.assign (.const (.int .i64 0)),26,none⟩] [2])
 .ret)
def c28:Cmd:=(.seq (.ops [
 ⟨some 1,.box 52 (.tmp 0),0,none⟩,
 ⟨some 2,.assign (.const (.int .i64 0)),26,none⟩] [1])
 (.seq (.block 0 (.seq (.ops [
 ⟨some 4,.fieldAddr 52 (.tmp 1) 0,0,none⟩,
 ⟨some 5,.load 3 (.tmp 4),3,none⟩,
 ⟨some 6,.binOp .lss 3 (.tmp 5) (.const (.int .i64 1)) 3,4,none⟩,
 ⟨some 7,.move (.tmp 6),4,none⟩,
 ⟨some 8,.fieldAddr 52 (.tmp 1) 0,0,(some (7,false))⟩,
 ⟨some 9,.load 3 (.tmp 8),3,(some (7,false))⟩,
 ⟨some 10,.binOp .gtr 3 (.tmp 9) (.const (.int .i64 1073741824)) 3,4,(some (7,false))⟩,
 ⟨some 11,.pick (.tmp 7) (.const (.bool true)) (.tmp 10),4,none⟩,
 ⟨some 12,.move (.tmp 11),4,none⟩,
 ⟨some 13,.fieldAddr 52 (.tmp 1) 1,0,(some (12,false))⟩,
 ⟨some 14,.load 3 (.tmp 13),3,(some (12,false))⟩,
 ⟨some 15,.binOp .lss 3 (.tmp 14) (.const (.int .i64 0)) 3,4,(some (12,false))⟩,
 ⟨some 16,.pick (.tmp 12) (.const (.bool true)) (.tmp 15),4,none⟩,
 ⟨some 17,.move (.tmp 16),4,none⟩,
 ⟨some 18,.fieldAddr 52 (.tmp 1) 1,0,(some (17,false))⟩,
 ⟨some 19,.load 3 (.tmp 18),3,(some (17,false))⟩,
 ⟨some 20,.binOp .gtr 3 (.tmp 19) (.const (.int .i64 1023)) 3,4,(some (17,false))⟩,
 ⟨some 21,.pick (.tmp 17) (.const (.bool true)) (.tmp 20),4,none⟩,
 ⟨some 22,.move (.tmp 21),4,none⟩,
 ⟨some 23,.fieldAddr 52 (.tmp 1) 2,0,(some (22,false))⟩,
 ⟨some 24,.load 3 (.tmp 23),3,(some (22,false))⟩,
 ⟨some 25,.binOp .lss 3 (.tmp 24) (.const (.int .i64 0)) 3,4,(some (22,false))⟩,
 ⟨some 26,.pick (.tmp 22) (.const (.bool true)) (.tmp 25),4,none⟩,
 ⟨some 27,.move (.tmp 26),4,none⟩,
 ⟨some 28,.fieldAddr 52 (.tmp 1) 2,0,(some (27,false))⟩,
 ⟨some 29,.load 3 (.tmp 28),3,(some (27,false))⟩,
 ⟨some 30,.binOp .gtr 3 (.tmp 29) (.const (.int .i64 1023)) 3,4,(some (27,false))⟩,
 ⟨some 31,.pick (.tmp 27) (.const (.bool true)) (.tmp 30),4,none⟩,
 ⟨some 3,.assign (.tmp 31),4,none⟩] [1,3])
 (.cond (.tmp 3)
 (.seq (.ops [
 ⟨some 2,.assign (.const (.int .i64 30)),26,none⟩] [2])
 .ret)
 (.seq (.ops [
 ⟨some 33,.fieldAddr 52 (.tmp 1) 3,0,none⟩,
 ⟨some 34,.load 3 (.tmp 33),3,none⟩,
 ⟨some 35,.fieldAddr 52 (.tmp 1) 4,0,none⟩,
 ⟨some 36,.load 3 (.tmp 35),3,none⟩,
 ⟨some 37,.call ⟨.value (.func 54),#[(.tmp 34),(.tmp 36)],#[3,3]⟩,4,none⟩,
 ⟨some 38,.unOp .not 4 (.tmp 37),4,none⟩,
 ⟨some 39,.move (.tmp 38),4,none⟩,
 ⟨some 40,.load 52 (.tmp 1),52,(some (39,false))⟩,
 ⟨some 41,.call ⟨.value (.func 55),#[(.tmp 40)],#[52]⟩,4,(some (39,false))⟩,
 ⟨some 42,.unOp .not 4 (.tmp 41),4,(some (39,false))⟩,
 ⟨some 43,.pick (.tmp 39) (.const (.bool true)) (.tmp 42),4,none⟩,
 ⟨some 44,.move (.tmp 43),4,none⟩,
 ⟨some 45,.fieldAddr 52 (.tmp 1) 7,0,(some (44,false))⟩,
 ⟨some 46,.load 4 (.tmp 45),4,(some (44,false))⟩,
 ⟨some 47,.move (.tmp 46),4,(some (44,false))⟩,
 ⟨some 48,.load 52 (.tmp 1),52,(some (47,true))⟩,
 ⟨some 49,.call ⟨.value (.func 56),#[(.tmp 48)],#[52]⟩,4,(some (47,true))⟩,
 ⟨some 50,.unOp .not 4 (.tmp 49),4,(some (47,true))⟩,
 ⟨some 51,.pick (.tmp 47) (.tmp 50) (.const (.bool false)),4,(some (44,false))⟩,
 ⟨some 52,.pick (.tmp 44) (.const (.bool true)) (.tmp 51),4,none⟩,
 ⟨some 53,.move (.tmp 52),4,none⟩,
 ⟨some 54,.fieldAddr 52 (.tmp 1) 7,0,(some (53,false))⟩,
 ⟨some 55,.load 4 (.tmp 54),4,(some (53,false))⟩,
 ⟨some 56,.unOp .not 4 (.tmp 55),4,(some (53,false))⟩,
 ⟨some 57,.move (.tmp 56),4,(some (53,false))⟩,
 ⟨some 58,.fieldAddr 52 (.tmp 1) 8,0,(some (57,true))⟩,
 ⟨some 59,.load 3 (.tmp 58),3,(some (57,true))⟩,
 ⟨some 60,.binOp .neq 3 (.tmp 59) (.const (.int .i64 0)) 3,4,(some (57,true))⟩,
 ⟨some 61,.pick (.tmp 57) (.tmp 60) (.const (.bool false)),4,(some (53,false))⟩,
 ⟨some 62,.pick (.tmp 53) (.const (.bool true)) (.tmp 61),4,none⟩,
 ⟨some 32,.assign (.tmp 62),4,none⟩] [1,32]) (sg c28S0))))) (sg c28S1)))
attribute [go_sem] c28 c28S1
theorem ent28(a0:Value)(w:World)(K:Value→World→Prop)(h:W Tryz.prog c28 [(0,a0)] w (finQ Tryz.prog [.tmp 2] K)):Ret Tryz.prog 28 [a0] w K :=
 Ret_of_W (code:=c28code) Tryz.func28 (by kernel_rfl) (by kernel_rfl) (of_decide_eq_true (by kernel_rfl)) h
@[go_sem] theorem go28:goFunc Tryz.prog 28=true:=by kernel_rfl
def c29code:Code:=match Tryz.f29.body with | some c=>c | none=>.skip
def c29A0(_:Unit):Cmd:=(.ops [
 ⟨some 8,.alloc 52,0,none⟩,
 ⟨none,.store 52 (.tmp 8) (.tmp 23),0,none⟩] [6,8])
def c29B0(_:Unit):Cmd:=(.block 1 (.ops [
 ⟨some 24,.load 56 (.tmp 6),56,none⟩,
 ⟨some 25,.fieldAddr 52 (.tmp 8) 2,0,none⟩,
 ⟨some 26,.load 3 (.tmp 25),3,none⟩,
 ⟨some 27,.fieldAddr 52 (.tmp 8) 3,0,none⟩,
 ⟨some 28,.load 3 (.tmp 27),3,none⟩,
 ⟨none,.mapUpdate 56 (.tmp 24) (.tmp 26) (.tmp 28),0,none⟩] []))
def c29S0(_:Unit):Cmd:=(.block 0 (.rangeF (.tmp 21) [22,23] (sg c29A0) (sg c29B0) [4,5,6]))
def c29S1(_:Unit):Cmd:=(.ops [
 ⟨some 51,.binOp .add 3 (.tmp 33) (.const (.int .i64 1)) 3,3,none⟩,
 ⟨some 33,.move (.tmp 51),3,none⟩] [5,6,9,31,32,33])
def c29S2(_:Unit):Cmd:=(.seq (.block 3 (.seq (.ops [
 ⟨some 35,.move (.tmp 33),3,none⟩,
 ⟨some 36,.indexAddr 25 (.tmp 31) (.tmp 33),0,none⟩,
 ⟨some 37,.load 3 (.tmp 36),3,none⟩,
 ⟨some 10,.assign (.tmp 35),3,none⟩,
 ⟨some 11,.assign (.tmp 37),3,none⟩] [5,6,9,10,11,31,32,33])
 (.seq (.ops [
 ⟨some 38,.move (.tmp 5),54,none⟩,
 ⟨some 39,.nilCheck (.tmp 38),0,none⟩,
 ⟨some 40,.fieldAddr 60 (.tmp 39) 1,0,none⟩,
 ⟨some 41,.load 56 (.tmp 40),56,none⟩,
 ⟨some 42,.move (.tmp 11),3,none⟩,
 ⟨some 43,.move (.tmp 10),3,none⟩,
 ⟨none,.mapUpdate 56 (.tmp 41) (.tmp 42) (.tmp 43),0,none⟩] [5,6,9,11,31,32,33])
 (.ops [
 ⟨some 44,.move (.tmp 9),61,none⟩,
 ⟨some 45,.load 56 (.tmp 6),56,none⟩,
 ⟨some 46,.move (.tmp 11),3,none⟩,
 ⟨some 47,.lookup 56 (.tmp 45) (.tmp 46) false,3,none⟩,
 ⟨some 48,.call ⟨.value (.func 40),#[(.tmp 47)],#[3]⟩,25,none⟩,
 ⟨some 49,.buildSlice 61 1 #[(0,(.tmp 48))],61,none⟩,
 ⟨some 50,.call ⟨.builtin .append,#[(.tmp 44),(.tmp 49)],#[61,61]⟩,61,none⟩,
 ⟨some 9,.assign (.tmp 50),61,none⟩] [5,6,9,31,32,33])))) (sg c29S1))
def c29L1(_:Unit):Cmd:=(.seq (.ops [
 ⟨some 34,.binOp .lss 3 (.tmp 33) (.tmp 32) 3,0,none⟩] [5,6,9,31,32,33,34])
 (.seq (.cond (.tmp 34)
 (.skip [5,6,9,31,32,33])
 (.exit 2 [5,9])) (sg c29S2)))
def c29S3(_:Unit):Cmd:=(.block 2 (.loop (sg c29L1)))
def c29S4(_:Unit):Cmd:=(.seq (.ops [
 ⟨some 61,.move (.tmp 5),54,none⟩,
 ⟨some 4,.assign (.tmp 61),54,none⟩] [4])
 .ret)
def c29S5(_:Unit):Cmd:=(.seq (.ops [
 ⟨some 52,.move (.tmp 5),54,none⟩,
 ⟨some 53,.move (.tmp 5),54,none⟩,
 ⟨some 54,.nilCheck (.tmp 53),0,none⟩,
 ⟨some 55,.fieldAddr 60 (.tmp 54) 0,0,none⟩,
 ⟨some 56,.load 31 (.tmp 55),31,none⟩,
 ⟨some 57,.call ⟨.builtin .len,#[(.tmp 56)],#[31]⟩,3,none⟩,
 ⟨some 58,.makeSlice 25 (.tmp 57) (.tmp 57),25,none⟩,
 ⟨some 59,.move (.tmp 9),61,none⟩,
 ⟨some 60,.call ⟨.value (.func 59),#[(.tmp 52),(.tmp 58),(.tmp 59)],#[54,25,61]⟩,3,none⟩] [5]) (sg c29S4))
def c29S6(_:Unit):Cmd:=(.seq (.ops [
 ⟨some 9,.assign (.const (.slice none 0 0)),61,none⟩] [5,6,9])
 (.seq (.seq (.ops [
 ⟨some 29,.load 56 (.tmp 6),56,none⟩,
 ⟨some 30,.call ⟨.value (.func 58),#[(.tmp 29)],#[56]⟩,94,none⟩,
 ⟨some 31,.call ⟨.value (.func 48),#[(.tmp 30)],#[94]⟩,25,none⟩,
 ⟨some 32,.call ⟨.builtin .len,#[(.tmp 31)],#[25]⟩,3,none⟩,
 ⟨some 33,.move (.const (.int .i64 0)),3,none⟩] [5,6,9,31,32,33]) (sg c29S3)) (sg c29S5)))
def c29S7(_:Unit):Cmd:=(.seq (.ops [
 ⟨some 19,.makeMap 56 none,56,none⟩,
 ⟨some 6,.alloc 56,0,none⟩,
 ⟨none,.store 56 (.tmp 6) (.tmp 19),0,none⟩] [0,4,5,6])
 (.seq (.seq (.ops [
 ⟨some 20,.move (.tmp 0),22,none⟩,
 ⟨some 21,.call ⟨.value (.func 57),#[(.tmp 20)],#[22]⟩,102,none⟩] [4,5,6,21]) (sg c29S0)) (sg c29S6)))
def c29:Cmd:=(.seq (.ops [
 ⟨some 4,.assign (.const (.pointer none)),54,none⟩] [0,1,4])
 (.seq (.ops [
 ⟨some 12,.move (.tmp 0),22,none⟩,
 ⟨some 13,.call ⟨.value (.func 24),#[(.tmp 12)],#[22]⟩,31,none⟩,
 ⟨some 14,.makeMap 56 none,56,none⟩,
 ⟨some 15,.makeMap 58 none,58,none⟩,
 ⟨some 16,.move (.tmp 1),3,none⟩,
 ⟨some 17,.build 60 #[(0,(.tmp 13)),(1,(.tmp 14)),(3,(.tmp 15)),(4,(.tmp 16))],60,none⟩,
 ⟨some 18,.box 60 (.tmp 17),54,none⟩,
 ⟨some 5,.assign (.tmp 18),54,none⟩] [0,4,5]) (sg c29S7)))
attribute [go_sem] c29 c29S0 c29S1 c29S2 c29S4
theorem ent29(a0 a1:Value)(w:World)(K:Value→World→Prop)(h:W Tryz.prog c29 [(0,a0),(1,a1)] w (finQ Tryz.prog [.tmp 4] K)):Ret Tryz.prog 29 [a0,a1] w K :=
 Ret_of_W (code:=c29code) Tryz.func29 (by kernel_rfl) (by kernel_rfl) (of_decide_eq_true (by kernel_rfl)) h
@[go_sem] theorem go29:goFunc Tryz.prog 29=true:=by kernel_rfl
def c30code:Code:=match Tryz.f30.body with | some c=>c | none=>.skip
def c30S0(_:Unit):Cmd:=(.cond (.tmp 25)
 (.seq (.ops [
 ⟨some 2,.assign (.const (.bool false)),4,none⟩] [2])
 .ret)
 (.skip [0,3]))
def c30S1(_:Unit):Cmd:=(.ops [
 ⟨some 67,.binOp .add 3 (.tmp 38) (.const (.int .i64 1)) 3,3,none⟩,
 ⟨some 38,.move (.tmp 67),3,none⟩] [0,3,4,36,37,38])
def c30S2(_:Unit):Cmd:=(.seq (.block 3 (.seq (.ops [
 ⟨some 40,.move (.tmp 38),3,none⟩,
 ⟨some 41,.indexAddr 31 (.tmp 36) (.tmp 38),0,none⟩,
 ⟨some 42,.load 22 (.tmp 41),22,none⟩,
 ⟨some 5,.assign (.tmp 40),3,none⟩,
 ⟨some 6,.assign (.tmp 42),22,none⟩] [0,3,4,5,6,36,37,38])
 (.seq (.ops [
 ⟨some 43,.move (.tmp 4),65,none⟩,
 ⟨some 44,.nilCheck (.tmp 43),0,none⟩,
 ⟨some 45,.fieldAddr 64 (.tmp 44) 0,0,none⟩,
 ⟨some 46,.load 25 (.tmp 45),25,none⟩,
 ⟨some 47,.move (.tmp 5),3,none⟩,
 ⟨some 48,.indexAddr 25 (.tmp 46) (.tmp 47),0,none⟩,
 ⟨some 49,.load 3 (.tmp 48),3,none⟩,
 ⟨some 50,.move (.tmp 6),22,none⟩,
 ⟨some 51,.call ⟨.builtin .len,#[(.tmp 50)],#[22]⟩,3,none⟩,
 ⟨some 52,.binOp .lss 3 (.tmp 49) (.tmp 51) 3,4,none⟩] [0,3,4,5,6,36,37,38,52])
 (.cond (.tmp 52)
 (.ops [
 ⟨some 53,.move (.tmp 0),54,none⟩,
 ⟨some 54,.move (.tmp 4),65,none⟩,
 ⟨some 55,.move (.tmp 5),3,none⟩,
 ⟨some 56,.move (.tmp 6),22,none⟩,
 ⟨some 57,.move (.tmp 4),65,none⟩,
 ⟨some 58,.nilCheck (.tmp 57),0,none⟩,
 ⟨some 59,.fieldAddr 64 (.tmp 58) 0,0,none⟩,
 ⟨some 60,.load 25 (.tmp 59),25,none⟩,
 ⟨some 61,.move (.tmp 5),3,none⟩,
 ⟨some 62,.indexAddr 25 (.tmp 60) (.tmp 61),0,none⟩,
 ⟨some 63,.load 3 (.tmp 62),3,none⟩,
 ⟨some 64,.indexAddr 22 (.tmp 56) (.tmp 63),0,none⟩,
 ⟨some 65,.load 52 (.tmp 64),52,none⟩,
 ⟨some 66,.call ⟨.value (.func 60),#[(.tmp 53),(.tmp 54),(.tmp 55),(.tmp 65)],#[54,65,3,52]⟩,0,none⟩] [0,3,4,36,37,38])
 (.skip [0,3,4,36,37,38]))))) (sg c30S1))
def c30L0(_:Unit):Cmd:=(.seq (.ops [
 ⟨some 39,.binOp .lss 3 (.tmp 38) (.tmp 37) 3,0,none⟩] [0,3,4,36,37,38,39])
 (.seq (.cond (.tmp 39)
 (.skip [0,3,4,36,37,38])
 (.exit 2 [0,3])) (sg c30S2)))
def c30S3(_:Unit):Cmd:=(.seq (.ops [
 ⟨some 26,.move (.tmp 0),54,none⟩,
 ⟨some 27,.nilCheck (.tmp 26),0,none⟩,
 ⟨some 28,.fieldAddr 60 (.tmp 27) 2,0,none⟩,
 ⟨some 29,.load 57 (.tmp 28),57,none⟩,
 ⟨some 30,.move (.tmp 3),3,none⟩,
 ⟨some 31,.indexAddr 57 (.tmp 29) (.tmp 30),0,none⟩,
 ⟨some 32,.load 65 (.tmp 31),65,none⟩,
 ⟨some 4,.assign (.tmp 32),65,none⟩] [0,3,4])
 (.seq (.ops [
 ⟨some 33,.move (.tmp 0),54,none⟩,
 ⟨some 34,.nilCheck (.tmp 33),0,none⟩,
 ⟨some 35,.fieldAddr 60 (.tmp 34) 0,0,none⟩,
 ⟨some 36,.load 31 (.tmp 35),31,none⟩,
 ⟨some 37,.call ⟨.builtin .len,#[(.tmp 36)],#[31]⟩,3,none⟩,
 ⟨some 38,.move (.const (.int .i64 0)),3,none⟩] [0,3,4,36,37,38])
 (.block 2 (.loop (sg c30L0)))))
def c30S4(_:Unit):Cmd:=(.ops [
 ⟨some 14,.move (.tmp 3),3,none⟩,
 ⟨some 15,.binOp .add 3 (.tmp 14) (.const (.int .i64 1)) 3,3,none⟩,
 ⟨some 3,.assign (.tmp 15),3,none⟩] [0,3])
def c30S5(_:Unit):Cmd:=(.seq (.block 1 (.seq (.seq (.draw (drawOps 0 c30code) [0,3,25]) (sg c30S0)) (sg c30S3))) (sg c30S4))
def c30L1(_:Unit):Cmd:=(.seq (.seq (.ops [
 ⟨some 7,.move (.tmp 3),3,none⟩,
 ⟨some 8,.move (.tmp 0),54,none⟩,
 ⟨some 9,.nilCheck (.tmp 8),0,none⟩,
 ⟨some 10,.fieldAddr 60 (.tmp 9) 2,0,none⟩,
 ⟨some 11,.load 57 (.tmp 10),57,none⟩,
 ⟨some 12,.call ⟨.builtin .len,#[(.tmp 11)],#[57]⟩,3,none⟩,
 ⟨some 13,.binOp .lss 3 (.tmp 7) (.tmp 12) 3,4,none⟩] [0,3,13])
 (.cond (.tmp 13)
 (.skip [0,3])
 (.exit 0 [0]))) (sg c30S5))
def c30S6(_:Unit):Cmd:=.ret
def c30S7(_:Unit):Cmd:=(.seq (.draw (drawOps 1 c30code) [2]) (sg c30S6))
def c30:Cmd:=(.seq (.ops [
 ⟨some 2,.assign (.const (.bool false)),4,none⟩] [0])
 (.seq (.seq (.ops [
 ⟨some 3,.assign (.const (.int .i64 0)),3,none⟩] [0,3])
 (.block 0 (.loop (sg c30L1)))) (sg c30S7)))
attribute [go_sem] c30 c30S0 c30S1 c30S2 c30L0 c30S5
def c30D0:List (Bool × Ins):=[
 (true,⟨some 16,.move (.tmp 0),54,none⟩),
 (true,⟨some 17,.nilCheck (.tmp 16),0,none⟩),
 (true,⟨some 18,.fieldAddr 60 (.tmp 17) 2,0,none⟩),
 (false,⟨some 19,.load 57 (.tmp 18),57,none⟩),
 (true,⟨some 20,.call ⟨.builtin .len,#[(.tmp 19)],#[57]⟩,3,none⟩),
 (true,⟨some 21,.move (.tmp 0),54,none⟩),
 (true,⟨some 22,.nilCheck (.tmp 21),0,none⟩),
 (true,⟨some 23,.fieldAddr 60 (.tmp 22) 4,0,none⟩),
 (false,⟨some 24,.load 3 (.tmp 23),3,none⟩),
 (true,⟨some 25,.binOp .gtr 3 (.tmp 20) (.tmp 24) 3,4,none⟩)]
theorem c30draw0{L:List Nat}{ρ:Env}{w:World}{Q:Post}(h:DL Tryz.prog c30D0 L ρ w.drew Q):drawW Tryz.prog (drawOps 0 c30code) L ρ w Q :=
 drawW_still [true,true,true,false,true,true,true,true,false,true] c30D0 (by kernel_rfl) (by kernel_rfl) (by kernel_rfl) h
def c30D1:List (Bool × Ins):=[
 (true,⟨some 68,.move (.tmp 0),54,none⟩),
 (true,⟨some 69,.nilCheck (.tmp 68),0,none⟩),
 (true,⟨some 70,.fieldAddr 60 (.tmp 69) 2,0,none⟩),
 (false,⟨some 71,.load 57 (.tmp 70),57,none⟩),
 (true,⟨some 72,.call ⟨.builtin .len,#[(.tmp 71)],#[57]⟩,3,none⟩),
 (true,⟨some 73,.move (.tmp 0),54,none⟩),
 (true,⟨some 74,.nilCheck (.tmp 73),0,none⟩),
 (true,⟨some 75,.fieldAddr 60 (.tmp 74) 4,0,none⟩),
 (false,⟨some 76,.load 3 (.tmp 75),3,none⟩),
 (true,⟨some 77,.binOp .leq 3 (.tmp 72) (.tmp 76) 3,4,none⟩),
 (true,⟨some 2,.assign (.tmp 77),4,none⟩)]
theorem c30draw1{L:List Nat}{ρ:Env}{w:World}{Q:Post}(h:DL Tryz.prog c30D1 L ρ w.drew Q):drawW Tryz.prog (drawOps 1 c30code) L ρ w Q :=
 drawW_still [true,true,true,false,true,true,true,true,false,true,true] c30D1 (by kernel_rfl) (by kernel_rfl) (by kernel_rfl) h
theorem ent30(a0:Value)(w:World)(K:Value→World→Prop)(h:W Tryz.prog c30 [(0,a0)] w (finQ Tryz.prog [.tmp 2] K)):Ret Tryz.prog 30 [a0] w K :=
 Ret_of_W (code:=c30code) Tryz.func30 (by kernel_rfl) (by kernel_rfl) (of_decide_eq_true (by kernel_rfl)) h
@[go_sem] theorem go30:goFunc Tryz.prog 30=true:=by kernel_rfl
def c31code:Code:=match Tryz.f31.body with | some c=>c | none=>.skip
def c31S0(_:Unit):Cmd:=(.ops [
 ⟨some 35,.binOp .add 3 (.tmp 16) (.const (.int .i64 1)) 3,3,none⟩,
 ⟨some 16,.move (.tmp 35),3,none⟩] [1,14,15,16])
def c31S1(_:Unit):Cmd:=(.seq (.block 1 (.seq (.ops [
 ⟨some 18,.indexAddr 57 (.tmp 14) (.tmp 16),0,none⟩,
 ⟨some 19,.load 65 (.tmp 18),65,none⟩,
 ⟨some 5,.assign (.tmp 19),65,none⟩] [1,5,14,15,16])
 (.ops [
 ⟨some 20,.move (.tmp 5),65,none⟩,
 ⟨some 21,.move (.tmp 5),65,none⟩,
 ⟨some 22,.nilCheck (.tmp 21),0,none⟩,
 ⟨some 23,.fieldAddr 64 (.tmp 22) 3,0,none⟩,
 ⟨some 24,.load 4 (.tmp 23),4,none⟩,
 ⟨some 25,.move (.tmp 24),4,none⟩,
 ⟨some 26,.move (.tmp 5),65,(some (25,false))⟩,
 ⟨some 27,.nilCheck (.tmp 26),0,(some (25,false))⟩,
 ⟨some 28,.fieldAddr 64 (.tmp 27) 2,0,(some (25,false))⟩,
 ⟨some 29,.load 62 (.tmp 28),62,(some (25,false))⟩,
 ⟨some 30,.makeFunc (.func 66) #[] #[(.tmp 1)],114,(some (25,false))⟩,
 ⟨some 31,.call ⟨.value (.func 65),#[(.tmp 29),(.tmp 30)],#[62,114]⟩,4,(some (25,false))⟩,
 ⟨some 32,.pick (.tmp 25) (.const (.bool true)) (.tmp 31),4,none⟩,
 ⟨some 33,.nilCheck (.tmp 20),0,none⟩,
 ⟨some 34,.fieldAddr 64 (.tmp 33) 4,0,none⟩,
 ⟨none,.store 4 (.tmp 34) (.tmp 32),0,none⟩] [1,14,15,16]))) (sg c31S0))
def c31L0(_:Unit):Cmd:=(.seq (.ops [
 ⟨some 17,.binOp .lss 3 (.tmp 16) (.tmp 15) 3,0,none⟩] [1,14,15,16,17])
 (.seq (.cond (.tmp 17)
 (.skip [1,14,15,16])
 (.exit 0 [])) (sg c31S1)))
def c31S2(_:Unit):Cmd:=(.seq (.ops [
 ⟨some 14,.move (.tmp 3),57,none⟩,
 ⟨some 15,.call ⟨.builtin .len,#[(.tmp 14)],#[57]⟩,3,none⟩,
 ⟨some 16,.move (.const (.int .i64 0)),3,none⟩] [1,14,15,16])
 (.block 0 (.loop (sg c31L0))))
def c31S3(_:Unit):Cmd:=(.seq (.ops [
 ⟨some 11,.move (.tmp 3),57,none⟩,
 ⟨some 12,.makeFunc (.func 64) #[] #[(.tmp 2)],110,none⟩,
 ⟨some 13,.call ⟨.value (.func 63),#[(.tmp 11),(.tmp 12)],#[57,110]⟩,0,none⟩] [1,3]) (sg c31S2))
def c31:Cmd:=(.seq (.ops [
 ⟨some 1,.box 54 (.tmp 0),0,none⟩] [1])
 (.seq (.ops [
 ⟨some 2,.alloc 107,0,none⟩,
 ⟨none,.store 107 (.tmp 2) (.func 61),0,none⟩] [1,2])
 (.seq (.ops [
 ⟨some 6,.load 54 (.tmp 1),54,none⟩,
 ⟨some 7,.nilCheck (.tmp 6),0,none⟩,
 ⟨some 8,.fieldAddr 60 (.tmp 7) 2,0,none⟩,
 ⟨some 9,.load 57 (.tmp 8),57,none⟩,
 ⟨some 10,.call ⟨.value (.func 62),#[(.tmp 9)],#[57]⟩,57,none⟩,
 ⟨some 3,.assign (.tmp 10),57,none⟩] [1,2,3]) (sg c31S3))))
attribute [go_sem] c31 c31S1
theorem ent31(a0:Value)(w:World)(K:Value→World→Prop)(h:W Tryz.prog c31 [(0,a0)] w (finQ Tryz.prog [] K)):Ret Tryz.prog 31 [a0] w K :=
 Ret_of_W (code:=c31code) Tryz.func31 (by kernel_rfl) (by kernel_rfl) (of_decide_eq_true (by kernel_rfl)) h
@[go_sem] theorem go31:goFunc Tryz.prog 31=true:=by kernel_rfl
def c32code:Code:=match Tryz.f32.body with | some c=>c | none=>.skip
def c32S0(_:Unit):Cmd:=(.cond (.tmp 51)
 (.ops [
 ⟨some 52,.load 113 (.tmp 7),113,none⟩,
 ⟨none,.store 113 (.tmp 5) (.tmp 52),0,none⟩] [0,3,5,23,24,25])
 (.skip [0,3,5,23,24,25]))
def c32S1(_:Unit):Cmd:=(.ops [
 ⟨some 53,.binOp .add 3 (.tmp 25) (.const (.int .i64 1)) 3,3,none⟩,
 ⟨some 25,.move (.tmp 53),3,none⟩] [0,3,5,23,24,25])
def c32S2(_:Unit):Cmd:=(.seq (.block 3 (.seq (.ops [
 ⟨some 27,.indexAddr 62 (.tmp 23) (.tmp 25),0,none⟩,
 ⟨some 28,.load 113 (.tmp 27),113,none⟩,
 ⟨some 7,.alloc 113,0,none⟩,
 ⟨none,.store 113 (.tmp 7) (.tmp 28),0,none⟩] [0,3,5,7,23,24,25])
 (.seq (.draw (drawOps 0 c32code) [0,3,5,7,23,24,25,51]) (sg c32S0)))) (sg c32S1))
def c32L0(_:Unit):Cmd:=(.seq (.ops [
 ⟨some 26,.binOp .lss 3 (.tmp 25) (.tmp 24) 3,0,none⟩] [0,3,5,23,24,25,26])
 (.seq (.cond (.tmp 26)
 (.skip [0,3,5,23,24,25])
 (.exit 2 [0,3,5])) (sg c32S2)))
def c32S3(_:Unit):Cmd:=(.draw (drawOps 1 c32code) [0,3,4])
def c32S4(_:Unit):Cmd:=(.seq (.ops [
 ⟨some 54,.move (.tmp 3),25,none⟩,
 ⟨some 55,.fieldAddr 113 (.tmp 5) 0,0,none⟩,
 ⟨some 56,.load 3 (.tmp 55),3,none⟩,
 ⟨some 57,.buildSlice 25 1 #[(0,(.tmp 56))],25,none⟩,
 ⟨some 58,.call ⟨.builtin .append,#[(.tmp 54),(.tmp 57)],#[25,25]⟩,25,none⟩,
 ⟨some 3,.assign (.tmp 58),25,none⟩] [0,3,5]) (sg c32S3))
def c32S5(_:Unit):Cmd:=(.block 1 (.seq (.ops [
 ⟨some 19,.build 113 #[(0,(.const (.int .i64 (-1))))],113,none⟩,
 ⟨some 5,.alloc 113,0,none⟩,
 ⟨none,.store 113 (.tmp 5) (.tmp 19),0,none⟩] [0,3,4,5])
 (.seq (.seq (.ops [
 ⟨some 20,.move (.tmp 4),65,none⟩,
 ⟨some 21,.nilCheck (.tmp 20),0,none⟩,
 ⟨some 22,.fieldAddr 64 (.tmp 21) 2,0,none⟩,
 ⟨some 23,.load 62 (.tmp 22),62,none⟩,
 ⟨some 24,.call ⟨.builtin .len,#[(.tmp 23)],#[62]⟩,3,none⟩,
 ⟨some 25,.move (.const (.int .i64 0)),3,none⟩] [0,3,5,23,24,25])
 (.block 2 (.loop (sg c32L0)))) (sg c32S4))))
def c32L1(_:Unit):Cmd:=(.seq (.seq (.ops [
 ⟨some 14,.move (.tmp 4),65,none⟩,
 ⟨some 15,.nilCheck (.tmp 14),0,none⟩,
 ⟨some 16,.fieldAddr 64 (.tmp 15) 3,0,none⟩,
 ⟨some 17,.load 4 (.tmp 16),4,none⟩,
 ⟨some 18,.unOp .not 4 (.tmp 17),4,none⟩] [0,3,4,18])
 (.cond (.tmp 18)
 (.skip [0,3,4])
 (.exit 0 [3]))) (sg c32S5))
def c32S6(_:Unit):Cmd:=(.seq (.ops [
 ⟨some 67,.move (.tmp 3),25,none⟩,
 ⟨some 2,.assign (.tmp 67),25,none⟩] [2])
 .ret)
def c32:Cmd:=(.seq (.ops [
 ⟨some 2,.assign (.const (.slice none 0 0)),25,none⟩] [0])
 (.seq (.ops [
 ⟨some 3,.assign (.const (.slice none 0 0)),25,none⟩] [0,3])
 (.seq (.ops [
 ⟨some 8,.move (.tmp 0),54,none⟩,
 ⟨some 9,.nilCheck (.tmp 8),0,none⟩,
 ⟨some 10,.fieldAddr 60 (.tmp 9) 2,0,none⟩,
 ⟨some 11,.load 57 (.tmp 10),57,none⟩,
 ⟨some 12,.indexAddr 57 (.tmp 11) (.const (.int .i64 0)),0,none⟩,
 ⟨some 13,.load 65 (.tmp 12),65,none⟩,
 ⟨some 4,.assign (.tmp 13),65,none⟩] [0,3,4])
 (.seq (.block 0 (.loop (sg c32L1))) (sg c32S6)))))
attribute [go_sem] c32 c32S1 c32S2 c32S5
def c32D0:List (Bool × Ins):=[
 (true,⟨some 29,.move (.tmp 0),54,none⟩),
 (true,⟨some 30,.nilCheck (.tmp 29),0,none⟩),
 (true,⟨some 31,.fieldAddr 60 (.tmp 30) 2,0,none⟩),
 (false,⟨some 32,.load 57 (.tmp 31),57,none⟩),
 (true,⟨some 33,.fieldAddr 113 (.tmp 7) 1,0,none⟩),
 (false,⟨some 34,.load 3 (.tmp 33),3,none⟩),
 (true,⟨some 35,.indexAddr 57 (.tmp 32) (.tmp 34),0,none⟩),
 (false,⟨some 36,.load 65 (.tmp 35),65,none⟩),
 (true,⟨some 37,.nilCheck (.tmp 36),0,none⟩),
 (true,⟨some 38,.fieldAddr 64 (.tmp 37) 4,0,none⟩),
 (false,⟨some 39,.load 4 (.tmp 38),4,none⟩),
 (true,⟨some 40,.move (.tmp 39),4,none⟩),
 (true,⟨some 41,.fieldAddr 113 (.tmp 5) 0,0,(some (40,true))⟩),
 (false,⟨some 42,.load 3 (.tmp 41),3,(some (40,true))⟩),
 (true,⟨some 43,.binOp .lss 3 (.tmp 42) (.const (.int .i64 0)) 3,4,(some (40,true))⟩),
 (true,⟨some 44,.move (.tmp 43),4,(some (40,true))⟩),
 (true,⟨some 45,.fieldAddr 113 (.tmp 7) 0,0,(some (44,false))⟩),
 (false,⟨some 46,.load 3 (.tmp 45),3,(some (44,false))⟩),
 (true,⟨some 47,.fieldAddr 113 (.tmp 5) 0,0,(some (44,false))⟩),
 (false,⟨some 48,.load 3 (.tmp 47),3,(some (44,false))⟩),
 (true,⟨some 49,.binOp .lss 3 (.tmp 46) (.tmp 48) 3,4,(some (44,false))⟩),
 (true,⟨some 50,.pick (.tmp 44) (.const (.bool true)) (.tmp 49),4,(some (40,true))⟩),
 (true,⟨some 51,.pick (.tmp 40) (.tmp 50) (.const (.bool false)),4,none⟩)]
theorem c32draw0{L:List Nat}{ρ:Env}{w:World}{Q:Post}(h:DL Tryz.prog c32D0 L ρ w.drew Q):drawW Tryz.prog (drawOps 0 c32code) L ρ w Q :=
 drawW_still [true,true,true,false,true,false,true,false,true,true,false,true,true,false,true,true,true,false,true,false,true,true,true] c32D0 (by kernel_rfl) (by kernel_rfl) (by kernel_rfl) h
def c32D1:List (Bool × Ins):=[
 (true,⟨some 59,.move (.tmp 0),54,none⟩),
 (true,⟨some 60,.nilCheck (.tmp 59),0,none⟩),
 (true,⟨some 61,.fieldAddr 60 (.tmp 60) 2,0,none⟩),
 (false,⟨some 62,.load 57 (.tmp 61),57,none⟩),
 (true,⟨some 63,.fieldAddr 113 (.tmp 5) 1,0,none⟩),
 (false,⟨some 64,.load 3 (.tmp 63),3,none⟩),
 (true,⟨some 65,.indexAddr 57 (.tmp 62) (.tmp 64),0,none⟩),
 (false,⟨some 66,.load 65 (.tmp 65),65,none⟩),
 (true,⟨some 4,.assign (.tmp 66),65,none⟩)]
theorem c32draw1{L:List Nat}{ρ:Env}{w:World}{Q:Post}(h:DL Tryz.prog c32D1 L ρ w.drew Q):drawW Tryz.prog (drawOps 1 c32code) L ρ w Q :=
 drawW_still [true,true,true,false,true,false,true,false,true] c32D1 (by kernel_rfl) (by kernel_rfl) (by kernel_rfl) h
theorem ent32(a0:Value)(w:World)(K:Value→World→Prop)(h:W Tryz.prog c32 [(0,a0)] w (finQ Tryz.prog [.tmp 2] K)):Ret Tryz.prog 32 [a0] w K :=
 Ret_of_W (code:=c32code) Tryz.func32 (by kernel_rfl) (by kernel_rfl) (of_decide_eq_true (by kernel_rfl)) h
@[go_sem] theorem go32:goFunc Tryz.prog 32=true:=by kernel_rfl
def c33code:Code:=match Tryz.f33.body with | some c=>c | none=>.skip
def c33S0(_:Unit):Cmd:=(.cond (.tmp 22)
 (.seq (.ops [
 ⟨some 2,.assign (.const (.int .i64 30)),3,none⟩] [2])
 .ret)
 (.skip [1]))
def c33S1(_:Unit):Cmd:=(.cond (.tmp 50)
 (.seq (.ops [
 ⟨some 2,.assign (.const (.int .i64 33)),3,none⟩] [2])
 .ret)
 (.skip [1,3]))
def c33S2(_:Unit):Cmd:=(.cond (.tmp 70)
 (.seq (.ops [
 ⟨some 2,.assign (.const (.int .i64 33)),3,none⟩] [2])
 .ret)
 (.skip [1]))
def c33S3(_:Unit):Cmd:=(.cond (.tmp 84)
 (.seq (.ops [
 ⟨some 2,.assign (.const (.int .i64 31)),3,none⟩] [2])
 .ret)
 (.skip [1]))
def c33S4(_:Unit):Cmd:=(.seq (.ops [
 ⟨some 2,.assign (.const (.int .i64 0)),3,none⟩] [2])
 .ret)
def c33S5(_:Unit):Cmd:=(.seq (.seq (.ops [
 ⟨some 85,.fieldAddr 52 (.tmp 1) 7,0,none⟩,
 ⟨some 86,.load 4 (.tmp 85),4,none⟩,
 ⟨some 87,.move (.tmp 86),4,none⟩,
 ⟨some 88,.fieldAddr 52 (.tmp 1) 10,0,(some (87,true))⟩,
 ⟨some 89,.load 3 (.tmp 88),3,(some (87,true))⟩,
 ⟨some 90,.fieldAddr 52 (.tmp 1) 9,0,(some (87,true))⟩,
 ⟨some 91,.load 3 (.tmp 90),3,(some (87,true))⟩,
 ⟨some 92,.binOp .leq 3 (.tmp 89) (.tmp 91) 3,4,(some (87,true))⟩,
 ⟨some 93,.move (.tmp 92),4,(some (87,true))⟩,
 ⟨some 94,.fieldAddr 52 (.tmp 1) 10,0,(some (93,false))⟩,
 ⟨some 95,.load 3 (.tmp 94),3,(some (93,false))⟩,
 ⟨some 96,.binOp .gtr 3 (.tmp 95) (.const (.int .i64 1099511627776)) 3,4,(some (93,false))⟩,
 ⟨some 97,.pick (.tmp 93) (.const (.bool true)) (.tmp 96),4,(some (87,true))⟩,
 ⟨some 98,.pick (.tmp 87) (.tmp 97) (.const (.bool false)),4,none⟩] [98])
 (.cond (.tmp 98)
 (.seq (.ops [
 ⟨some 2,.assign (.const (.int .i64 31)),3,none⟩] [2])
 .ret)
 (.skip []))) (sg c33S4))
def c33S6(_:Unit):Cmd:=(.seq (.seq (.ops [
 ⟨some 71,.fieldAddr 52 (.tmp 1) 9,0,none⟩,
 ⟨some 72,.load 3 (.tmp 71),3,none⟩,
 ⟨some 73,.call ⟨.value (.func 67),#[(.tmp 72),(.const (.int .i64 0)),(.const (.int .i64 1099511627776))],#[3,3,3]⟩,4,none⟩,
 ⟨some 74,.unOp .not 4 (.tmp 73),4,none⟩,
 ⟨some 75,.move (.tmp 74),4,none⟩,
 ⟨some 76,.fieldAddr 52 (.tmp 1) 7,0,(some (75,false))⟩,
 ⟨some 77,.load 4 (.tmp 76),4,(some (75,false))⟩,
 ⟨some 78,.unOp .not 4 (.tmp 77),4,(some (75,false))⟩,
 ⟨some 79,.move (.tmp 78),4,(some (75,false))⟩,
 ⟨some 80,.fieldAddr 52 (.tmp 1) 10,0,(some (79,true))⟩,
 ⟨some 81,.load 3 (.tmp 80),3,(some (79,true))⟩,
 ⟨some 82,.binOp .neq 3 (.tmp 81) (.const (.int .i64 0)) 3,4,(some (79,true))⟩,
 ⟨some 83,.pick (.tmp 79) (.tmp 82) (.const (.bool false)),4,(some (75,false))⟩,
 ⟨some 84,.pick (.tmp 75) (.const (.bool true)) (.tmp 83),4,none⟩] [1,84]) (sg c33S3)) (sg c33S5))
def c33S7(_:Unit):Cmd:=(.seq (.seq (.ops [
 ⟨some 51,.fieldAddr 52 (.tmp 1) 7,0,none⟩,
 ⟨some 52,.load 4 (.tmp 51),4,none⟩,
 ⟨some 53,.move (.tmp 52),4,none⟩,
 ⟨some 54,.fieldAddr 52 (.tmp 1) 8,0,(some (53,true))⟩,
 ⟨some 55,.load 3 (.tmp 54),3,(some (53,true))⟩,
 ⟨some 56,.fieldAddr 117 (.tmp 3) 3,0,(some (53,true))⟩,
 ⟨some 57,.load 3 (.tmp 56),3,(some (53,true))⟩,
 ⟨some 58,.call ⟨.value (.func 69),#[(.tmp 55),(.tmp 57)],#[3,3]⟩,4,(some (53,true))⟩,
 ⟨some 59,.unOp .not 4 (.tmp 58),4,(some (53,true))⟩,
 ⟨some 60,.pick (.tmp 53) (.tmp 59) (.const (.bool false)),4,none⟩,
 ⟨some 61,.move (.tmp 60),4,none⟩,
 ⟨some 62,.fieldAddr 52 (.tmp 1) 7,0,(some (61,false))⟩,
 ⟨some 63,.load 4 (.tmp 62),4,(some (61,false))⟩,
 ⟨some 64,.unOp .not 4 (.tmp 63),4,(some (61,false))⟩,
 ⟨some 65,.move (.tmp 64),4,(some (61,false))⟩,
 ⟨some 66,.fieldAddr 52 (.tmp 1) 8,0,(some (65,true))⟩,
 ⟨some 67,.load 3 (.tmp 66),3,(some (65,true))⟩,
 ⟨some 68,.binOp .neq 3 (.tmp 67) (.const (.int .i64 0)) 3,4,(some (65,true))⟩,
 ⟨some 69,.pick (.tmp 65) (.tmp 68) (.const (.bool false)),4,(some (61,false))⟩,
 ⟨some 70,.pick (.tmp 61) (.const (.bool true)) (.tmp 69),4,none⟩] [1,70]) (sg c33S2)) (sg c33S6))
def c33S8(_:Unit):Cmd:=(.seq (.seq (.ops [
 ⟨some 39,.fieldAddr 52 (.tmp 1) 5,0,none⟩,
 ⟨some 40,.load 3 (.tmp 39),3,none⟩,
 ⟨some 41,.move (.tmp 5),3,none⟩,
 ⟨some 42,.call ⟨.value (.func 67),#[(.tmp 40),(.const (.int .i64 0)),(.tmp 41)],#[3,3,3]⟩,4,none⟩,
 ⟨some 43,.unOp .not 4 (.tmp 42),4,none⟩,
 ⟨some 44,.move (.tmp 43),4,none⟩,
 ⟨some 45,.fieldAddr 52 (.tmp 1) 6,0,(some (44,false))⟩,
 ⟨some 46,.load 3 (.tmp 45),3,(some (44,false))⟩,
 ⟨some 47,.move (.tmp 6),3,(some (44,false))⟩,
 ⟨some 48,.call ⟨.value (.func 67),#[(.tmp 46),(.const (.int .i64 0)),(.tmp 47)],#[3,3,3]⟩,4,(some (44,false))⟩,
 ⟨some 49,.unOp .not 4 (.tmp 48),4,(some (44,false))⟩,
 ⟨some 50,.pick (.tmp 44) (.const (.bool true)) (.tmp 49),4,none⟩] [1,3,50]) (sg c33S1)) (sg c33S7))
def c33S9(_:Unit):Cmd:=(.seq (.seq (.ops [
 ⟨some 36,.fieldAddr 117 (.tmp 3) 2,0,none⟩,
 ⟨some 37,.load 3 (.tmp 36),3,none⟩,
 ⟨some 38,.binOp .geq 3 (.tmp 37) (.const (.int .i64 2)) 3,4,none⟩] [1,3,5,6,38])
 (.cond (.tmp 38)
 (.ops [
 ⟨some 6,.assign (.const (.int .i64 1073741824)),3,none⟩] [1,3,5,6])
 (.skip [1,3,5,6]))) (sg c33S8))
def c33S10(_:Unit):Cmd:=(.seq (.ops [
 ⟨some 5,.assign (.const (.int .i64 0)),3,none⟩,
 ⟨some 6,.assign (.const (.int .i64 0)),3,none⟩] [1,3,5,6])
 (.seq (.seq (.ops [
 ⟨some 33,.fieldAddr 117 (.tmp 3) 2,0,none⟩,
 ⟨some 34,.load 3 (.tmp 33),3,none⟩,
 ⟨some 35,.binOp .geq 3 (.tmp 34) (.const (.int .i64 1)) 3,4,none⟩] [1,3,5,6,35])
 (.cond (.tmp 35)
 (.ops [
 ⟨some 5,.assign (.const (.int .i64 1073741824)),3,none⟩] [1,3,5,6])
 (.skip [1,3,5,6]))) (sg c33S9)))
def c33S11(_:Unit):Cmd:=(.seq (.seq (.ops [
 ⟨some 31,.move (.tmp 4),4,none⟩,
 ⟨some 32,.unOp .not 4 (.tmp 31),4,none⟩] [1,3,32])
 (.cond (.tmp 32)
 (.seq (.ops [
 ⟨some 2,.assign (.const (.int .i64 33)),3,none⟩] [2])
 .ret)
 (.skip [1,3]))) (sg c33S10))
def c33S12(_:Unit):Cmd:=(.seq (.ops [
 ⟨some 24,.fieldAddr 52 (.tmp 1) 3,0,none⟩,
 ⟨some 25,.load 3 (.tmp 24),3,none⟩,
 ⟨some 26,.fieldAddr 52 (.tmp 1) 4,0,none⟩,
 ⟨some 27,.load 3 (.tmp 26),3,none⟩,
 ⟨some 28,.call ⟨.value (.func 68),#[(.tmp 25),(.tmp 27)],#[3,3]⟩,118,none⟩,
 ⟨some 23,.move (.tmp 28),118,none⟩,
 ⟨some 29,.extract (.tmp 23) 0,117,none⟩,
 ⟨some 30,.extract (.tmp 23) 1,4,none⟩,
 ⟨some 3,.alloc 117,0,none⟩,
 ⟨none,.store 117 (.tmp 3) (.tmp 29),0,none⟩,
 ⟨some 4,.assign (.tmp 30),4,none⟩] [1,3,4]) (sg c33S11))
def c33:Cmd:=(.seq (.ops [
 ⟨some 1,.box 52 (.tmp 0),0,none⟩,
 ⟨some 2,.assign (.const (.int .i64 0)),3,none⟩] [1])
 (.seq (.seq (.ops [
 ⟨some 7,.fieldAddr 52 (.tmp 1) 0,0,none⟩,
 ⟨some 8,.load 3 (.tmp 7),3,none⟩,
 ⟨some 9,.call ⟨.value (.func 67),#[(.tmp 8),(.const (.int .i64 1)),(.const (.int .i64 1073741824))],#[3,3,3]⟩,4,none⟩,
 ⟨some 10,.unOp .not 4 (.tmp 9),4,none⟩,
 ⟨some 11,.move (.tmp 10),4,none⟩,
 ⟨some 12,.fieldAddr 52 (.tmp 1) 1,0,(some (11,false))⟩,
 ⟨some 13,.load 3 (.tmp 12),3,(some (11,false))⟩,
 ⟨some 14,.call ⟨.value (.func 67),#[(.tmp 13),(.const (.int .i64 0)),(.const (.int .i64 1023))],#[3,3,3]⟩,4,(some (11,false))⟩,
 ⟨some 15,.unOp .not 4 (.tmp 14),4,(some (11,false))⟩,
 ⟨some 16,.pick (.tmp 11) (.const (.bool true)) (.tmp 15),4,none⟩,
 ⟨some 17,.move (.tmp 16),4,none⟩,
 ⟨some 18,.fieldAddr 52 (.tmp 1) 2,0,(some (17,false))⟩,
 ⟨some 19,.load 3 (.tmp 18),3,(some (17,false))⟩,
 ⟨some 20,.call ⟨.value (.func 67),#[(.tmp 19),(.const (.int .i64 0)),(.const (.int .i64 1023))],#[3,3,3]⟩,4,(some (17,false))⟩,
 ⟨some 21,.unOp .not 4 (.tmp 20),4,(some (17,false))⟩,
 ⟨some 22,.pick (.tmp 17) (.const (.bool true)) (.tmp 21),4,none⟩] [1,22]) (sg c33S0)) (sg c33S12)))
attribute [go_sem] c33 c33S0 c33S1 c33S2 c33S3 c33S4 c33S5 c33S7 c33S9 c33S10
theorem ent33(a0:Value)(w:World)(K:Value→World→Prop)(h:W Tryz.prog c33 [(0,a0)] w (finQ Tryz.prog [.tmp 2] K)):Ret Tryz.prog 33 [a0] w K :=
 Ret_of_W (code:=c33code) Tryz.func33 (by kernel_rfl) (by kernel_rfl) (of_decide_eq_true (by kernel_rfl)) h
@[go_sem] theorem go33:goFunc Tryz.prog 33=true:=by kernel_rfl
def c34code:Code:=match Tryz.f34.body with | some c=>c | none=>.skip
def c34S0(_:Unit):Cmd:=(.seq (.block 1 (.ops [
 ⟨some 19,.move (.tmp 7),9,none⟩,
 ⟨some 20,.fieldAddr 70 (.tmp 4) 0,0,none⟩,
 ⟨some 21,.load 25 (.tmp 20),25,none⟩,
 ⟨some 22,.move (.tmp 8),3,none⟩,
 ⟨some 23,.indexAddr 25 (.tmp 21) (.tmp 22),0,none⟩,
 ⟨some 24,.load 3 (.tmp 23),3,none⟩,
 ⟨some 25,.convert 3 5 (.tmp 24),5,none⟩,
 ⟨some 26,.buildSlice 120 1 #[(0,(.tmp 25))],120,none⟩,
 ⟨some 27,.convert 120 9 (.tmp 26),9,none⟩,
 ⟨some 28,.binOp .add 9 (.tmp 19) (.tmp 27) 9,9,none⟩,
 ⟨some 7,.assign (.tmp 28),9,none⟩] [2,4,7,8]))
 (.ops [
 ⟨some 17,.move (.tmp 8),3,none⟩,
 ⟨some 18,.binOp .add 3 (.tmp 17) (.const (.int .i64 1)) 3,3,none⟩,
 ⟨some 8,.assign (.tmp 18),3,none⟩] [2,4,7,8]))
def c34L0(_:Unit):Cmd:=(.seq (.seq (.ops [
 ⟨some 12,.move (.tmp 8),3,none⟩,
 ⟨some 13,.fieldAddr 70 (.tmp 4) 0,0,none⟩,
 ⟨some 14,.load 25 (.tmp 13),25,none⟩,
 ⟨some 15,.call ⟨.builtin .len,#[(.tmp 14)],#[25]⟩,3,none⟩,
 ⟨some 16,.binOp .lss 3 (.tmp 12) (.tmp 15) 3,4,none⟩] [2,4,7,8,16])
 (.cond (.tmp 16)
 (.skip [2,4,7,8])
 (.exit 0 [2,4,7]))) (sg c34S0))
def c34S1(_:Unit):Cmd:=(.ops [
 ⟨some 48,.move (.tmp 7),9,none⟩,
 ⟨some 49,.move (.tmp 10),25,none⟩,
 ⟨some 50,.call ⟨.value (.func 71),#[(.tmp 49)],#[25]⟩,9,none⟩,
 ⟨some 51,.binOp .add 9 (.tmp 48) (.tmp 50) 9,9,none⟩,
 ⟨some 7,.assign (.tmp 51),9,none⟩] [2,4,7,9])
def c34S2(_:Unit):Cmd:=(.ops [
 ⟨some 33,.move (.tmp 9),3,none⟩,
 ⟨some 34,.binOp .add 3 (.tmp 33) (.const (.int .i64 1)) 3,3,none⟩,
 ⟨some 9,.assign (.tmp 34),3,none⟩] [2,4,7,9])
def c34S3(_:Unit):Cmd:=(.seq (.block 3 (.seq (.draw (drawOps 0 c34code) [2,4,7,9,10]) (sg c34S1))) (sg c34S2))
def c34L1(_:Unit):Cmd:=(.seq (.seq (.ops [
 ⟨some 29,.move (.tmp 9),3,none⟩,
 ⟨some 30,.move (.tmp 2),39,none⟩,
 ⟨some 31,.call ⟨.builtin .len,#[(.tmp 30)],#[39]⟩,3,none⟩,
 ⟨some 32,.binOp .lss 3 (.tmp 29) (.tmp 31) 3,4,none⟩] [2,4,7,9,32])
 (.cond (.tmp 32)
 (.skip [2,4,7,9])
 (.exit 2 [7]))) (sg c34S3))
def c34S4(_:Unit):Cmd:=(.seq (.ops [
 ⟨some 52,.move (.tmp 7),9,none⟩,
 ⟨some 6,.assign (.tmp 52),9,none⟩] [6])
 .ret)
def c34S5(_:Unit):Cmd:=(.seq (.seq (.ops [
 ⟨some 9,.assign (.const (.int .i64 0)),3,none⟩] [2,4,7,9])
 (.block 2 (.loop (sg c34L1)))) (sg c34S4))
def c34:Cmd:=(.seq (.ops [
 ⟨some 4,.box 70 (.tmp 1),0,none⟩,
 ⟨some 6,.assign (.const (.string (ofL []))),9,none⟩] [2,4])
 (.seq (.ops [
 ⟨some 7,.assign (.const (.string (ofL []))),9,none⟩] [2,4,7])
 (.seq (.seq (.ops [
 ⟨some 8,.assign (.const (.int .i64 0)),3,none⟩] [2,4,7,8])
 (.block 0 (.loop (sg c34L0)))) (sg c34S5))))
attribute [go_sem] c34 c34S0 c34S1 c34S2 c34S3
def c34D0:List (Nat × Ins):=[
 (0,⟨some 36,.fieldAddr 70 (.tmp 4) 1,0,none⟩),
 (0,⟨some 38,.move (.tmp 2),39,none⟩),
 (0,⟨some 39,.move (.tmp 9),3,none⟩),
 (0,⟨some 40,.indexAddr 39 (.tmp 38) (.tmp 39),0,none⟩),
 (0,⟨some 41,.fieldAddr 47 (.tmp 40) 2,0,none⟩),
 (1,⟨some 37,.load 68 (.tmp 36),68,none⟩),
 (2,⟨some 42,.load 22 (.tmp 41),22,none⟩),
 (0,⟨some 43,.indexAddr 22 (.tmp 42) (.const (.int .i64 0)),0,none⟩),
 (2,⟨some 44,.load 52 (.tmp 43),52,none⟩),
 (3,⟨some 45,.call ⟨.value (.func 70),#[(.tmp 37),(.tmp 44)],#[68,52]⟩,121,none⟩),
 (0,⟨some 35,.move (.tmp 45),121,none⟩),
 (0,⟨some 46,.extract (.tmp 35) 0,25,none⟩),
 (0,⟨some 47,.extract (.tmp 35) 1,3,none⟩),
 (0,⟨some 10,.assign (.tmp 46),25,none⟩),
 (0,⟨some 11,.assign (.tmp 47),3,none⟩)]
theorem c34draw0{L:List Nat}{ρ:Env}{w:World}{Q:Post}(S:World→Prop)(hS:S w.drew)(h:DG Tryz.prog S c34D0 L ρ w.drew Q):drawW Tryz.prog (drawOps 0 c34code) L ρ w Q :=
 drawW_held [1] [(0,0),(0,2),(0,3),(0,4),(0,5),(1,1),(2,6),(0,7),(2,8),(3,9),(0,10),(0,11),(0,12),(0,13),(0,14)] c34D0 (by kernel_rfl) (by kernel_rfl) (by kernel_rfl) S hS h
theorem ent34(a0 a1 a2:Value)(w:World)(K:Value→World→Prop)(h:W Tryz.prog c34 [(0,a0),(1,a1),(2,a2)] w (finQ Tryz.prog [.tmp 6] K)):Ret Tryz.prog 34 [a0,a1,a2] w K :=
 Ret_of_W (code:=c34code) Tryz.func34 (by kernel_rfl) (by kernel_rfl) (of_decide_eq_true (by kernel_rfl)) h
@[go_sem] theorem go34:goFunc Tryz.prog 34=true:=by kernel_rfl
def c35code:Code:=match Tryz.f35.body with | some c=>c | none=>.skip
def c35S0(_:Unit):Cmd:=.ret
def c35S1(_:Unit):Cmd:=(.seq (.ops [
 ⟨some 36,.move (.tmp 10),68,none⟩,
 ⟨some 37,.move (.tmp 7),3,none⟩,
 ⟨some 38,.move (.tmp 8),25,none⟩,
 ⟨some 39,.indexAddr 68 (.tmp 36) (.tmp 37),0,none⟩,
 ⟨some 40,.fieldAddr 125 (.tmp 39) 1,0,none⟩,
 ⟨none,.store 25 (.tmp 40) (.tmp 38),0,none⟩] [9,10])
 (.seq (.ops [
 ⟨some 41,.move (.tmp 10),68,none⟩,
 ⟨some 42,.move (.tmp 9),4,none⟩,
 ⟨some 4,.assign (.tmp 41),68,none⟩,
 ⟨some 5,.assign (.tmp 42),4,none⟩] [4,5])
 .ret))
def c35S2(_:Unit):Cmd:=(.seq (.seq (.ops [
 ⟨some 26,.move (.tmp 7),3,none⟩,
 ⟨some 27,.binOp .lss 3 (.tmp 26) (.const (.int .i64 0)) 3,4,none⟩] [3,7,8,9,10,27])
 (.cond (.tmp 27)
 (.seq (.ops [
 ⟨some 28,.move (.tmp 10),68,none⟩,
 ⟨some 29,.fieldAddr 52 (.tmp 3) 2,0,none⟩,
 ⟨some 30,.load 3 (.tmp 29),3,none⟩,
 ⟨some 31,.move (.tmp 8),25,none⟩,
 ⟨some 32,.build 125 #[(0,(.tmp 30)),(1,(.tmp 31))],125,none⟩,
 ⟨some 33,.buildSlice 68 1 #[(0,(.tmp 32))],68,none⟩,
 ⟨some 34,.call ⟨.builtin .append,#[(.tmp 28),(.tmp 33)],#[68,68]⟩,68,none⟩,
 ⟨some 35,.move (.tmp 9),4,none⟩,
 ⟨some 4,.assign (.tmp 34),68,none⟩,
 ⟨some 5,.assign (.tmp 35),4,none⟩] [4,5]) (sg c35S0))
 (.skip [7,8,9,10]))) (sg c35S1))
def c35S3(_:Unit):Cmd:=(.seq (.ops [
 ⟨some 23,.buildSlice 68 0 #[],68,none⟩,
 ⟨some 24,.move (.tmp 0),68,none⟩,
 ⟨some 25,.call ⟨.builtin .append,#[(.tmp 23),(.tmp 24)],#[68,68]⟩,68,none⟩,
 ⟨some 10,.assign (.tmp 25),68,none⟩] [3,7,8,9,10]) (sg c35S2))
def c35S4(_:Unit):Cmd:=(.seq (.ops [
 ⟨some 18,.move (.tmp 6),25,none⟩,
 ⟨some 19,.load 52 (.tmp 3),52,none⟩,
 ⟨some 20,.call ⟨.value (.func 72),#[(.tmp 18),(.tmp 19)],#[25,52]⟩,81,none⟩,
 ⟨some 17,.move (.tmp 20),81,none⟩,
 ⟨some 21,.extract (.tmp 17) 0,25,none⟩,
 ⟨some 22,.extract (.tmp 17) 1,4,none⟩,
 ⟨some 8,.assign (.tmp 21),25,none⟩,
 ⟨some 9,.assign (.tmp 22),4,none⟩] [0,3,7,8,9]) (sg c35S3))
def c35:Cmd:=(.seq (.ops [
 ⟨some 3,.box 52 (.tmp 1),0,none⟩,
 ⟨some 4,.assign (.const (.slice none 0 0)),68,none⟩,
 ⟨some 5,.assign (.const (.bool false)),4,none⟩] [0,3])
 (.seq (.ops [
 ⟨some 12,.move (.tmp 0),68,none⟩,
 ⟨some 13,.load 52 (.tmp 3),52,none⟩,
 ⟨some 14,.call ⟨.value (.func 70),#[(.tmp 12),(.tmp 13)],#[68,52]⟩,121,none⟩,
 ⟨some 11,.move (.tmp 14),121,none⟩,
 ⟨some 15,.extract (.tmp 11) 0,25,none⟩,
 ⟨some 16,.extract (.tmp 11) 1,3,none⟩,
 ⟨some 6,.assign (.tmp 15),25,none⟩,
 ⟨some 7,.assign (.tmp 16),3,none⟩] [0,3,6,7]) (sg c35S4)))
attribute [go_sem] c35 c35S0 c35S1
theorem ent35(a0 a1:Value)(w:World)(K:Value→World→Prop)(h:W Tryz.prog c35 [(0,a0),(1,a1)] w (finQ Tryz.prog [.tmp 4,.tmp 5] K)):Ret Tryz.prog 35 [a0,a1] w K :=
 Ret_of_W (code:=c35code) Tryz.func35 (by kernel_rfl) (by kernel_rfl) (of_decide_eq_true (by kernel_rfl)) h
@[go_sem] theorem go35:goFunc Tryz.prog 35=true:=by kernel_rfl
def c36code:Code:=match Tryz.f36.body with | some c=>c | none=>.skip
def c36S0(_:Unit):Cmd:=(.cond (.tmp 55)
 (.skip [0,3,4,5])
 (.exit 2 [0,3,4,5]))
def c36S1(_:Unit):Cmd:=(.block 3 (.ops [
 ⟨some 56,.move (.tmp 5),3,none⟩,
 ⟨some 57,.binOp .add 3 (.tmp 56) (.const (.int .i64 1)) 3,3,none⟩,
 ⟨some 5,.assign (.tmp 57),3,none⟩] [0,3,4,5]))
def c36L0(_:Unit):Cmd:=(.seq (.seq (.draw (drawOps 0 c36code) [0,3,4,5,55]) (sg c36S0)) (sg c36S1))
def c36S2(_:Unit):Cmd:=(.ops [
 ⟨some 70,.move (.tmp 6),22,none⟩,
 ⟨some 71,.move (.tmp 3),22,none⟩,
 ⟨some 72,.move (.tmp 5),3,none⟩,
 ⟨some 73,.slice 22 (.tmp 71) (some (.tmp 72)) none none,22,none⟩,
 ⟨some 74,.call ⟨.builtin .append,#[(.tmp 70),(.tmp 73)],#[22,22]⟩,22,none⟩,
 ⟨some 3,.assign (.tmp 74),22,none⟩] [0,3,4])
def c36S3(_:Unit):Cmd:=(.seq (.ops [
 ⟨some 63,.move (.tmp 6),22,none⟩,
 ⟨some 64,.move (.tmp 0),22,none⟩,
 ⟨some 65,.move (.tmp 4),3,none⟩,
 ⟨some 66,.indexAddr 22 (.tmp 64) (.tmp 65),0,none⟩,
 ⟨some 67,.load 52 (.tmp 66),52,none⟩,
 ⟨some 68,.buildSlice 22 1 #[(0,(.tmp 67))],22,none⟩,
 ⟨some 69,.call ⟨.builtin .append,#[(.tmp 63),(.tmp 68)],#[22,22]⟩,22,none⟩,
 ⟨some 6,.assign (.tmp 69),22,none⟩] [0,3,4,5,6]) (sg c36S2))
def c36S4(_:Unit):Cmd:=(.seq (.ops [
 ⟨some 58,.buildSlice 22 0 #[],22,none⟩,
 ⟨some 59,.move (.tmp 3),22,none⟩,
 ⟨some 60,.move (.tmp 5),3,none⟩,
 ⟨some 61,.slice 22 (.tmp 59) none (some (.tmp 60)) none,22,none⟩,
 ⟨some 62,.call ⟨.builtin .append,#[(.tmp 58),(.tmp 61)],#[22,22]⟩,22,none⟩,
 ⟨some 6,.assign (.tmp 62),22,none⟩] [0,3,4,5,6]) (sg c36S3))
def c36S5(_:Unit):Cmd:=(.ops [
 ⟨some 11,.move (.tmp 4),3,none⟩,
 ⟨some 12,.binOp .add 3 (.tmp 11) (.const (.int .i64 1)) 3,3,none⟩,
 ⟨some 4,.assign (.tmp 12),3,none⟩] [0,3,4])
def c36S6(_:Unit):Cmd:=(.seq (.block 1 (.seq (.ops [
 ⟨some 5,.assign (.const (.int .i64 0)),3,none⟩] [0,3,4,5])
 (.seq (.block 2 (.loop (sg c36L0))) (sg c36S4)))) (sg c36S5))
def c36L1(_:Unit):Cmd:=(.seq (.seq (.ops [
 ⟨some 7,.move (.tmp 4),3,none⟩,
 ⟨some 8,.move (.tmp 0),22,none⟩,
 ⟨some 9,.call ⟨.builtin .len,#[(.tmp 8)],#[22]⟩,3,none⟩,
 ⟨some 10,.binOp .lss 3 (.tmp 7) (.tmp 9) 3,4,none⟩] [0,3,4,10])
 (.cond (.tmp 10)
 (.skip [0,3,4])
 (.exit 0 [3]))) (sg c36S6))
def c36S7(_:Unit):Cmd:=(.seq (.ops [
 ⟨some 75,.move (.tmp 3),22,none⟩,
 ⟨some 2,.assign (.tmp 75),22,none⟩] [2])
 .ret)
def c36:Cmd:=(.seq (.ops [
 ⟨some 2,.assign (.const (.slice none 0 0)),22,none⟩] [0])
 (.seq (.ops [
 ⟨some 3,.assign (.const (.slice none 0 0)),22,none⟩] [0,3])
 (.seq (.seq (.ops [
 ⟨some 4,.assign (.const (.int .i64 0)),3,none⟩] [0,3,4])
 (.block 0 (.loop (sg c36L1)))) (sg c36S7))))
attribute [go_sem] c36 c36S0 c36S1 c36L0 c36S2 c36S3 c36S5 c36S6 c36L1 c36S7
def c36D0:List (Bool × Ins):=[
 (true,⟨some 13,.move (.tmp 5),3,none⟩),
 (true,⟨some 14,.move (.tmp 3),22,none⟩),
 (true,⟨some 15,.call ⟨.builtin .len,#[(.tmp 14)],#[22]⟩,3,none⟩),
 (true,⟨some 16,.binOp .lss 3 (.tmp 13) (.tmp 15) 3,4,none⟩),
 (true,⟨some 17,.move (.tmp 16),4,none⟩),
 (true,⟨some 18,.move (.tmp 3),22,(some (17,true))⟩),
 (true,⟨some 19,.move (.tmp 5),3,(some (17,true))⟩),
 (true,⟨some 20,.indexAddr 22 (.tmp 18) (.tmp 19),0,(some (17,true))⟩),
 (true,⟨some 21,.fieldAddr 52 (.tmp 20) 9,0,(some (17,true))⟩),
 (false,⟨some 22,.load 3 (.tmp 21),3,(some (17,true))⟩),
 (true,⟨some 23,.move (.tmp 0),22,(some (17,true))⟩),
 (true,⟨some 24,.move (.tmp 4),3,(some (17,true))⟩),
 (true,⟨some 25,.indexAddr 22 (.tmp 23) (.tmp 24),0,(some (17,true))⟩),
 (true,⟨some 26,.fieldAddr 52 (.tmp 25) 9,0,(some (17,true))⟩),
 (false,⟨some 27,.load 3 (.tmp 26),3,(some (17,true))⟩),
 (true,⟨some 28,.binOp .lss 3 (.tmp 22) (.tmp 27) 3,4,(some (17,true))⟩),
 (true,⟨some 29,.move (.tmp 28),4,(some (17,true))⟩),
 (true,⟨some 30,.move (.tmp 3),22,(some (29,false))⟩),
 (true,⟨some 31,.move (.tmp 5),3,(some (29,false))⟩),
 (true,⟨some 32,.indexAddr 22 (.tmp 30) (.tmp 31),0,(some (29,false))⟩),
 (true,⟨some 33,.fieldAddr 52 (.tmp 32) 9,0,(some (29,false))⟩),
 (false,⟨some 34,.load 3 (.tmp 33),3,(some (29,false))⟩),
 (true,⟨some 35,.move (.tmp 0),22,(some (29,false))⟩),
 (true,⟨some 36,.move (.tmp 4),3,(some (29,false))⟩),
 (true,⟨some 37,.indexAddr 22 (.tmp 35) (.tmp 36),0,(some (29,false))⟩),
 (true,⟨some 38,.fieldAddr 52 (.tmp 37) 9,0,(some (29,false))⟩),
 (false,⟨some 39,.load 3 (.tmp 38),3,(some (29,false))⟩),
 (true,⟨some 40,.binOp .eql 3 (.tmp 34) (.tmp 39) 3,4,(some (29,false))⟩),
 (true,⟨some 41,.move (.tmp 40),4,(some (29,false))⟩),
 (true,⟨some 42,.move (.tmp 3),22,(some (41,true))⟩),
 (true,⟨some 43,.move (.tmp 5),3,(some (41,true))⟩),
 (true,⟨some 44,.indexAddr 22 (.tmp 42) (.tmp 43),0,(some (41,true))⟩),
 (true,⟨some 45,.fieldAddr 52 (.tmp 44) 0,0,(some (41,true))⟩),
 (false,⟨some 46,.load 3 (.tmp 45),3,(some (41,true))⟩),
 (true,⟨some 47,.move (.tmp 0),22,(some (41,true))⟩),
 (true,⟨some 48,.move (.tmp 4),3,(some (41,true))⟩),
 (true,⟨some 49,.indexAddr 22 (.tmp 47) (.tmp 48),0,(some (41,true))⟩),
 (true,⟨some 50,.fieldAddr 52 (.tmp 49) 0,0,(some (41,true))⟩),
 (false,⟨some 51,.load 3 (.tmp 50),3,(some (41,true))⟩),
 (true,⟨some 52,.binOp .leq 3 (.tmp 46) (.tmp 51) 3,4,(some (41,true))⟩),
 (true,⟨some 53,.pick (.tmp 41) (.tmp 52) (.const (.bool false)),4,(some (29,false))⟩),
 (true,⟨some 54,.pick (.tmp 29) (.const (.bool true)) (.tmp 53),4,(some (17,true))⟩),
 (true,⟨some 55,.pick (.tmp 17) (.tmp 54) (.const (.bool false)),4,none⟩)]
theorem c36draw0{L:List Nat}{ρ:Env}{w:World}{Q:Post}(h:DL Tryz.prog c36D0 L ρ w.drew Q):drawW Tryz.prog (drawOps 0 c36code) L ρ w Q :=
 drawW_still [true,true,true,true,true,true,true,true,true,false,true,true,true,true,false,true,true,true,true,true,true,false,true,true,true,true,false,true,true,true,true,true,true,false,true,true,true,true,false,true,true,true,true] c36D0 (by kernel_rfl) (by kernel_rfl) (by kernel_rfl) h
theorem ent36(a0:Value)(w:World)(K:Value→World→Prop)(h:W Tryz.prog c36 [(0,a0)] w (finQ Tryz.prog [.tmp 2] K)):Ret Tryz.prog 36 [a0] w K :=
 Ret_of_W (code:=c36code) Tryz.func36 (by kernel_rfl) (by kernel_rfl) (of_decide_eq_true (by kernel_rfl)) h
@[go_sem] theorem go36:goFunc Tryz.prog 36=true:=by kernel_rfl
def c37code:Code:=match Tryz.f37.body with | some c=>c | none=>.skip
def c37S0(_:Unit):Cmd:=(.ops [
 ⟨some 24,.move (.tmp 6),3,none⟩,
 ⟨some 25,.binOp .add 3 (.tmp 24) (.const (.int .i64 1)) 3,3,none⟩,
 ⟨some 6,.assign (.tmp 25),3,none⟩] [0,1,5,6])
def c37S1(_:Unit):Cmd:=(.seq (.block 3 (.seq (.ops [
 ⟨some 26,.move (.tmp 0),31,none⟩,
 ⟨some 27,.move (.tmp 5),3,none⟩,
 ⟨some 28,.indexAddr 31 (.tmp 26) (.tmp 27),0,none⟩,
 ⟨some 29,.load 22 (.tmp 28),22,none⟩,
 ⟨some 30,.move (.tmp 6),3,none⟩,
 ⟨some 31,.indexAddr 22 (.tmp 29) (.tmp 30),0,none⟩,
 ⟨some 32,.fieldAddr 52 (.tmp 31) 7,0,none⟩,
 ⟨some 33,.load 4 (.tmp 32),4,none⟩] [0,1,5,6,33])
 (.cond (.tmp 33)
 (.seq (.ops [
 ⟨some 4,.assign (.const (.bool false)),4,none⟩] [4])
 .ret)
 (.skip [0,1,5,6])))) (sg c37S0))
def c37L0(_:Unit):Cmd:=(.seq (.seq (.ops [
 ⟨some 17,.move (.tmp 6),3,none⟩,
 ⟨some 18,.move (.tmp 0),31,none⟩,
 ⟨some 19,.move (.tmp 5),3,none⟩,
 ⟨some 20,.indexAddr 31 (.tmp 18) (.tmp 19),0,none⟩,
 ⟨some 21,.load 22 (.tmp 20),22,none⟩,
 ⟨some 22,.call ⟨.builtin .len,#[(.tmp 21)],#[22]⟩,3,none⟩,
 ⟨some 23,.binOp .lss 3 (.tmp 17) (.tmp 22) 3,4,none⟩] [0,1,5,6,23])
 (.cond (.tmp 23)
 (.skip [0,1,5,6])
 (.exit 2 [0,1,5]))) (sg c37S1))
def c37S2(_:Unit):Cmd:=(.ops [
 ⟨some 11,.move (.tmp 5),3,none⟩,
 ⟨some 12,.binOp .add 3 (.tmp 11) (.const (.int .i64 1)) 3,3,none⟩,
 ⟨some 5,.assign (.tmp 12),3,none⟩] [0,1,5])
def c37S3(_:Unit):Cmd:=(.seq (.block 1 (.seq (.ops [
 ⟨some 13,.move (.tmp 1),25,none⟩,
 ⟨some 14,.move (.tmp 5),3,none⟩,
 ⟨some 15,.indexAddr 25 (.tmp 13) (.tmp 14),0,none⟩,
 ⟨some 16,.load 3 (.tmp 15),3,none⟩,
 ⟨some 6,.assign (.tmp 16),3,none⟩] [0,1,5,6])
 (.block 2 (.loop (sg c37L0))))) (sg c37S2))
def c37L1(_:Unit):Cmd:=(.seq (.seq (.ops [
 ⟨some 7,.move (.tmp 5),3,none⟩,
 ⟨some 8,.move (.tmp 0),31,none⟩,
 ⟨some 9,.call ⟨.builtin .len,#[(.tmp 8)],#[31]⟩,3,none⟩,
 ⟨some 10,.binOp .lss 3 (.tmp 7) (.tmp 9) 3,4,none⟩] [0,1,5,10])
 (.cond (.tmp 10)
 (.skip [0,1,5])
 (.exit 0 []))) (sg c37S3))
def c37S4(_:Unit):Cmd:=(.seq (.ops [
 ⟨some 4,.assign (.const (.bool true)),4,none⟩] [4])
 .ret)
def c37:Cmd:=(.seq (.ops [
 ⟨some 4,.assign (.const (.bool false)),4,none⟩] [0,1])
 (.seq (.seq (.ops [
 ⟨some 5,.assign (.const (.int .i64 0)),3,none⟩] [0,1,5])
 (.block 0 (.loop (sg c37L1)))) (sg c37S4)))
attribute [go_sem] c37 c37S0 c37S1 c37S2 c37S3 c37S4
theorem ent37(a0 a1:Value)(w:World)(K:Value→World→Prop)(h:W Tryz.prog c37 [(0,a0),(1,a1)] w (finQ Tryz.prog [.tmp 4] K)):Ret Tryz.prog 37 [a0,a1] w K :=
 Ret_of_W (code:=c37code) Tryz.func37 (by kernel_rfl) (by kernel_rfl) (of_decide_eq_true (by kernel_rfl)) h
@[go_sem] theorem go37:goFunc Tryz.prog 37=true:=by kernel_rfl
def c38code:Code:=match Tryz.f38.body with | some c=>c | none=>.skip
def c38S0(_:Unit):Cmd:=(.cond (.tmp 16)
 (.seq (.ops [
 ⟨some 17,.move (.tmp 5),3,none⟩,
 ⟨some 4,.assign (.tmp 17),3,none⟩] [4])
 .ret)
 (.skip [0,1,7,8]))
def c38S1(_:Unit):Cmd:=(.ops [
 ⟨some 18,.binOp .add 3 (.tmp 8) (.const (.int .i64 1)) 3,3,none⟩,
 ⟨some 8,.move (.tmp 18),3,none⟩] [0,1,7,8])
def c38S2(_:Unit):Cmd:=(.seq (.block 1 (.seq (.ops [
 ⟨some 10,.move (.tmp 8),3,none⟩,
 ⟨some 5,.assign (.tmp 10),3,none⟩] [0,1,5,7,8])
 (.seq (.ops [
 ⟨some 11,.move (.tmp 1),80,none⟩,
 ⟨some 12,.move (.tmp 0),22,none⟩,
 ⟨some 13,.move (.tmp 5),3,none⟩,
 ⟨some 14,.indexAddr 22 (.tmp 12) (.tmp 13),0,none⟩,
 ⟨some 15,.load 52 (.tmp 14),52,none⟩,
 ⟨some 16,.call ⟨.value (.tmp 11),#[(.tmp 15)],#[52]⟩,4,none⟩] [0,1,5,7,8,16]) (sg c38S0)))) (sg c38S1))
def c38L0(_:Unit):Cmd:=(.seq (.ops [
 ⟨some 9,.binOp .lss 3 (.tmp 8) (.tmp 7) 3,0,none⟩] [0,1,7,8,9])
 (.seq (.cond (.tmp 9)
 (.skip [0,1,7,8])
 (.exit 0 [])) (sg c38S2)))
def c38S3(_:Unit):Cmd:=(.seq (.ops [
 ⟨some 4,.assign (.const (.int .i64 (-1))),3,none⟩] [4])
 .ret)
def c38:Cmd:=(.seq (.ops [
 ⟨some 4,.assign (.const (.int .i64 0)),3,none⟩] [0,1])
 (.seq (.seq (.ops [
 ⟨some 6,.move (.tmp 0),22,none⟩,
 ⟨some 7,.call ⟨.builtin .len,#[(.tmp 6)],#[22]⟩,3,none⟩,
 ⟨some 8,.move (.const (.int .i64 0)),3,none⟩] [0,1,7,8])
 (.block 0 (.loop (sg c38L0)))) (sg c38S3)))
attribute [go_sem] c38 c38S0 c38S1 c38S2 c38L0 c38S3
theorem ent38(a0 a1:Value)(w:World)(K:Value→World→Prop)(h:W Tryz.prog c38 [(0,a0),(1,a1)] w (finQ Tryz.prog [.tmp 4] K)):Ret Tryz.prog 38 [a0,a1] w K :=
 Ret_of_W (code:=c38code) Tryz.func38 (by kernel_rfl) (by kernel_rfl) (of_decide_eq_true (by kernel_rfl)) h
@[go_sem] theorem go38:goFunc Tryz.prog 38=true:=by kernel_rfl
def c39code:Code:=match Tryz.f39.body with | some c=>c | none=>.skip
def c39:Cmd:=(.seq (.ops [
 ⟨some 2,.box 52 (.tmp 0),0,none⟩,
 ⟨some 3,.assign (.const (.bool false)),4,none⟩] [1,2])
 (.seq (.ops [
 ⟨some 4,.fieldAddr 52 (.tmp 2) 0,0,none⟩,
 ⟨some 5,.load 3 (.tmp 4),3,none⟩,
 ⟨some 6,.load 3 (.tmp 1),3,none⟩,
 ⟨some 7,.binOp .eql 3 (.tmp 5) (.tmp 6) 3,4,none⟩,
 ⟨some 3,.assign (.tmp 7),4,none⟩] [3])
 .ret))
attribute [go_sem] c39
theorem ent39(a0 a1:Value)(w:World)(K:Value→World→Prop)(h:W Tryz.prog c39 [(0,a0),(1,a1)] w (finQ Tryz.prog [.tmp 3] K)):Ret Tryz.prog 39 [a0,a1] w K :=
 Ret_of_W (code:=c39code) Tryz.func39 (by kernel_rfl) (by kernel_rfl) (of_decide_eq_true (by kernel_rfl)) h
@[go_sem] theorem go39:goFunc Tryz.prog 39=true:=by kernel_rfl
def c40code:Code:=match Tryz.f40.body with | some c=>c | none=>.skip
def c40S0(_:Unit):Cmd:=(.cond (.tmp 4)
 (.seq (.ops [
 ⟨some 7,.buildSlice 25 1 #[(0,(.const (.int .i64 0)))],25,none⟩,
 ⟨some 2,.assign (.tmp 7),25,none⟩] [2])
 .ret)
 (.skip []))
def c40S1(_:Unit):Cmd:=(.seq (.ops [
 ⟨some 2,.assign (.const (.slice none 0 0)),25,none⟩] [2])
 .ret)
def c40:Cmd:=(.seq (.ops [
 ⟨some 2,.assign (.const (.slice none 0 0)),25,none⟩] [0])
 (.seq (.seq (.ops [
 ⟨some 3,.move (.tmp 0),3,none⟩] [3])
 (.block 0 (.seq (.seq (.ops [
 ⟨some 5,.binOp .eql 3 (.tmp 3) (.const (.int .i64 1)) 3,4,none⟩,
 ⟨some 4,.assign (.tmp 5),4,none⟩] [3,4])
 (.cond (.tmp 4)
 (.skip [4])
 (.ops [
 ⟨some 6,.binOp .eql 3 (.tmp 3) (.const (.int .i64 2)) 3,4,none⟩,
 ⟨some 4,.assign (.tmp 6),4,none⟩] [4]))) (sg c40S0)))) (sg c40S1)))
attribute [go_sem] c40 c40S0 c40S1
theorem ent40(a0:Value)(w:World)(K:Value→World→Prop)(h:W Tryz.prog c40 [(0,a0)] w (finQ Tryz.prog [.tmp 2] K)):Ret Tryz.prog 40 [a0] w K :=
 Ret_of_W (code:=c40code) Tryz.func40 (by kernel_rfl) (by kernel_rfl) (of_decide_eq_true (by kernel_rfl)) h
@[go_sem] theorem go40:goFunc Tryz.prog 40=true:=by kernel_rfl
def c41code:Code:=match Tryz.f41.body with | some c=>c | none=>.skip
def c41S0(_:Unit):Cmd:=(.seq (.ops [
 ⟨some 28,.move (.tmp 6),25,none⟩,
 ⟨some 4,.assign (.tmp 28),25,none⟩,
 ⟨some 5,.assign (.const (.bool true)),4,none⟩] [4,5])
 .ret)
def c41S1(_:Unit):Cmd:=(.seq (.seq (.ops [
 ⟨some 16,.move (.tmp 8),4,none⟩,
 ⟨some 17,.unOp .not 4 (.tmp 16),4,none⟩,
 ⟨some 18,.move (.tmp 17),4,none⟩,
 ⟨some 19,.fieldAddr 52 (.tmp 3) 7,0,(some (18,false))⟩,
 ⟨some 20,.load 4 (.tmp 19),4,(some (18,false))⟩,
 ⟨some 21,.move (.tmp 20),4,(some (18,false))⟩,
 ⟨some 22,.move (.tmp 7),3,(some (21,true))⟩,
 ⟨some 23,.fieldAddr 52 (.tmp 3) 8,0,(some (21,true))⟩,
 ⟨some 24,.load 3 (.tmp 23),3,(some (21,true))⟩,
 ⟨some 25,.binOp .neq 3 (.tmp 22) (.tmp 24) 3,4,(some (21,true))⟩,
 ⟨some 26,.pick (.tmp 21) (.tmp 25) (.const (.bool false)),4,(some (18,false))⟩,
 ⟨some 27,.pick (.tmp 18) (.const (.bool true)) (.tmp 26),4,none⟩] [6,27])
 (.cond (.tmp 27)
 (.seq (.ops [
 ⟨some 4,.assign (.const (.slice none 0 0)),25,none⟩,
 ⟨some 5,.assign (.const (.bool false)),4,none⟩] [4,5])
 .ret)
 (.skip [6]))) (sg c41S0))
def c41:Cmd:=(.seq (.ops [
 ⟨some 3,.box 52 (.tmp 1),0,none⟩,
 ⟨some 4,.assign (.const (.slice none 0 0)),25,none⟩,
 ⟨some 5,.assign (.const (.bool false)),4,none⟩] [0,3])
 (.seq (.ops [
 ⟨some 10,.move (.tmp 0),25,none⟩,
 ⟨some 11,.load 52 (.tmp 3),52,none⟩,
 ⟨some 12,.call ⟨.value (.func 73),#[(.tmp 10),(.tmp 11)],#[25,52]⟩,126,none⟩,
 ⟨some 9,.move (.tmp 12),126,none⟩,
 ⟨some 13,.extract (.tmp 9) 0,25,none⟩,
 ⟨some 14,.extract (.tmp 9) 1,3,none⟩,
 ⟨some 15,.extract (.tmp 9) 2,4,none⟩,
 ⟨some 6,.assign (.tmp 13),25,none⟩,
 ⟨some 7,.assign (.tmp 14),3,none⟩,
 ⟨some 8,.assign (.tmp 15),4,none⟩] [3,6,7,8]) (sg c41S1)))
attribute [go_sem] c41 c41S0
theorem ent41(a0 a1:Value)(w:World)(K:Value→World→Prop)(h:W Tryz.prog c41 [(0,a0),(1,a1)] w (finQ Tryz.prog [.tmp 4,.tmp 5] K)):Ret Tryz.prog 41 [a0,a1] w K :=
 Ret_of_W (code:=c41code) Tryz.func41 (by kernel_rfl) (by kernel_rfl) (of_decide_eq_true (by kernel_rfl)) h
@[go_sem] theorem go41:goFunc Tryz.prog 41=true:=by kernel_rfl
def c42code:Code:=match Tryz.f42.body with | some c=>c | none=>.skip
def c42S0(_:Unit):Cmd:=.ret
def c42:Cmd:=(.seq (.ops [
 ⟨some 4,.assign (.const (.bool false)),4,none⟩] [0,1])
 (.seq (.ops [
 ⟨some 5,.move (.tmp 0),22,none⟩,
 ⟨some 6,.move (.tmp 1),80,none⟩,
 ⟨some 7,.call ⟨.value (.func 38),#[(.tmp 5),(.tmp 6)],#[22,80]⟩,3,none⟩,
 ⟨some 8,.binOp .geq 3 (.tmp 7) (.const (.int .i64 0)) 3,4,none⟩,
 ⟨some 4,.assign (.tmp 8),4,none⟩] [4]) (sg c42S0)))
attribute [go_sem] c42 c42S0
theorem ent42(a0 a1:Value)(w:World)(K:Value→World→Prop)(h:W Tryz.prog c42 [(0,a0),(1,a1)] w (finQ Tryz.prog [.tmp 4] K)):Ret Tryz.prog 42 [a0,a1] w K :=
 Ret_of_W (code:=c42code) Tryz.func42 (by kernel_rfl) (by kernel_rfl) (of_decide_eq_true (by kernel_rfl)) h
@[go_sem] theorem go42:goFunc Tryz.prog 42=true:=by kernel_rfl
def c43code:Code:=match Tryz.f43.body with | some c=>c | none=>.skip
def c43:Cmd:=(.seq (.ops [
 ⟨some 1,.box 52 (.tmp 0),0,none⟩,
 ⟨some 2,.assign (.const (.bool false)),4,none⟩] [1])
 (.seq (.ops [
 ⟨some 3,.fieldAddr 52 (.tmp 1) 7,0,none⟩,
 ⟨some 4,.load 4 (.tmp 3),4,none⟩,
 ⟨some 2,.assign (.tmp 4),4,none⟩] [2])
 .ret))
attribute [go_sem] c43
theorem ent43(a0:Value)(w:World)(K:Value→World→Prop)(h:W Tryz.prog c43 [(0,a0)] w (finQ Tryz.prog [.tmp 2] K)):Ret Tryz.prog 43 [a0] w K :=
 Ret_of_W (code:=c43code) Tryz.func43 (by kernel_rfl) (by kernel_rfl) (of_decide_eq_true (by kernel_rfl)) h
@[go_sem] theorem go43:goFunc Tryz.prog 43=true:=by kernel_rfl
@[go_sem] theorem go44:goFunc Tryz.prog 44=true:=by kernel_rfl
@[go_sem] theorem go45:goFunc Tryz.prog 45=true:=by kernel_rfl
@[go_sem] theorem go46:goFunc Tryz.prog 46=true:=by kernel_rfl
@[go_sem] theorem go47:goFunc Tryz.prog 47=true:=by kernel_rfl
def c48code:Code:=match Tryz.f48.body with | some c=>c | none=>.skip
def c48S0(_:Unit):Cmd:=(.seq (.ops [
 ⟨some 8,.move (.tmp 3),25,none⟩,
 ⟨some 2,.assign (.tmp 8),25,none⟩] [2])
 .ret)
def c48S1(_:Unit):Cmd:=(.seq (.ops [
 ⟨some 6,.move (.tmp 3),25,none⟩,
 ⟨some 7,.call ⟨.value (.func 78),#[(.tmp 6)],#[25]⟩,0,none⟩] [3]) (sg c48S0))
def c48:Cmd:=(.seq (.ops [
 ⟨some 2,.assign (.const (.slice none 0 0)),25,none⟩] [0])
 (.seq (.ops [
 ⟨some 4,.move (.tmp 0),94,none⟩,
 ⟨some 5,.call ⟨.value (.func 77),#[(.tmp 4)],#[94]⟩,25,none⟩,
 ⟨some 3,.assign (.tmp 5),25,none⟩] [3]) (sg c48S1)))
attribute [go_sem] c48 c48S0 c48S1
theorem ent48(a0:Value)(w:World)(K:Value→World→Prop)(h:W Tryz.prog c48 [(0,a0)] w (finQ Tryz.prog [.tmp 2] K)):Ret Tryz.prog 48 [a0] w K :=
 Ret_of_W (code:=c48code) Tryz.func48 (by kernel_rfl) (by kernel_rfl) (of_decide_eq_true (by kernel_rfl)) h
@[go_sem] theorem go48:goFunc Tryz.prog 48=true:=by kernel_rfl
def c49code:Code:=match Tryz.f49.body with | some c=>c | none=>.skip
def c49:Cmd:=(.seq (.ops [
 ⟨some 1,.box 91 (.tmp 0),0,none⟩,
 ⟨some 2,.assign (.const .nilFunc),94,none⟩] [1])
 (.seq (.ops [
 ⟨some 3,.makeFunc (.func 79) #[] #[(.tmp 1)],93,none⟩,
 ⟨some 2,.assign (.tmp 3),94,none⟩] [2])
 .ret))
attribute [go_sem] c49
theorem ent49(a0:Value)(w:World)(K:Value→World→Prop)(h:W Tryz.prog c49 [(0,a0)] w (finQ Tryz.prog [.tmp 2] K)):Ret Tryz.prog 49 [a0] w K :=
 Ret_of_W (code:=c49code) Tryz.func49 (by kernel_rfl) (by kernel_rfl) (of_decide_eq_true (by kernel_rfl)) h
@[go_sem] theorem go49:goFunc Tryz.prog 49=true:=by kernel_rfl
def c51code:Code:=match Tryz.f51.body with | some c=>c | none=>.skip
def c51S0(_:Unit):Cmd:=.ret
def c51:Cmd:=(.seq (.ops [
 ⟨some 2,.box 52 (.tmp 0),0,none⟩,
 ⟨some 3,.box 52 (.tmp 1),0,none⟩,
 ⟨some 4,.assign (.const (.int .i64 0)),3,none⟩] [2,3])
 (.seq (.draw (drawOps 0 c51code) [4]) (sg c51S0)))
attribute [go_sem] c51 c51S0
def c51D0:List (Nat × Ins):=[
 (0,⟨some 5,.fieldAddr 52 (.tmp 2) 9,0,none⟩),
 (0,⟨some 7,.fieldAddr 52 (.tmp 3) 9,0,none⟩),
 (0,⟨some 10,.fieldAddr 52 (.tmp 2) 0,0,none⟩),
 (0,⟨some 12,.fieldAddr 52 (.tmp 3) 0,0,none⟩),
 (1,⟨some 6,.load 3 (.tmp 5),3,none⟩),
 (1,⟨some 8,.load 3 (.tmp 7),3,none⟩),
 (1,⟨some 11,.load 3 (.tmp 10),3,none⟩),
 (1,⟨some 13,.load 3 (.tmp 12),3,none⟩),
 (2,⟨some 9,.call ⟨.value (.func 53),#[(.tmp 6),(.tmp 8)],#[3,3]⟩,3,none⟩),
 (2,⟨some 14,.call ⟨.value (.func 53),#[(.tmp 11),(.tmp 13)],#[3,3]⟩,3,none⟩),
 (2,⟨some 15,.buildSlice 25 2 #[(0,(.tmp 9)),(1,(.tmp 14))],25,none⟩),
 (2,⟨some 16,.call ⟨.value (.func 52),#[(.tmp 15)],#[25]⟩,3,none⟩),
 (0,⟨some 4,.assign (.tmp 16),3,none⟩)]
theorem c51draw0{L:List Nat}{ρ:Env}{w:World}{Q:Post}(S:World→Prop)(hS:S w.drew)(h:DG Tryz.prog S c51D0 L ρ w.drew Q):drawW Tryz.prog (drawOps 0 c51code) L ρ w Q :=
 drawW_held [1,3,6,8] [(0,0),(0,2),(0,5),(0,7),(1,1),(1,3),(1,6),(1,8),(2,4),(2,9),(2,10),(2,11),(0,12)] c51D0 (by kernel_rfl) (by kernel_rfl) (by kernel_rfl) S hS h
theorem ent51(a0 a1:Value)(w:World)(K:Value→World→Prop)(h:W Tryz.prog c51 [(0,a0),(1,a1)] w (finQ Tryz.prog [.tmp 4] K)):Ret Tryz.prog 51 [a0,a1] w K :=
 Ret_of_W (code:=c51code) Tryz.func51 (by kernel_rfl) (by kernel_rfl) (of_decide_eq_true (by kernel_rfl)) h
@[go_sem] theorem go51:goFunc Tryz.prog 51=true:=by kernel_rfl
def c52code:Code:=match Tryz.f52.body with | some c=>c | none=>.skip
def c52S0(_:Unit):Cmd:=(.ops [
 ⟨some 16,.binOp .add 3 (.tmp 8) (.const (.int .i64 1)) 3,3,none⟩,
 ⟨some 8,.move (.tmp 16),3,none⟩] [3,6,7,8])
def c52S1(_:Unit):Cmd:=(.seq (.block 1 (.seq (.ops [
 ⟨some 10,.indexAddr 25 (.tmp 6) (.tmp 8),0,none⟩,
 ⟨some 11,.load 3 (.tmp 10),3,none⟩,
 ⟨some 5,.assign (.tmp 11),3,none⟩] [3,5,6,7,8])
 (.seq (.ops [
 ⟨some 12,.move (.tmp 5),3,none⟩,
 ⟨some 13,.move (.tmp 3),3,none⟩,
 ⟨some 14,.binOp .neq 3 (.tmp 12) (.tmp 13) 3,4,none⟩] [3,5,6,7,8,14])
 (.cond (.tmp 14)
 (.seq (.ops [
 ⟨some 15,.move (.tmp 5),3,none⟩,
 ⟨some 2,.assign (.tmp 15),3,none⟩] [2])
 .ret)
 (.skip [3,6,7,8]))))) (sg c52S0))
def c52L0(_:Unit):Cmd:=(.seq (.ops [
 ⟨some 9,.binOp .lss 3 (.tmp 8) (.tmp 7) 3,0,none⟩] [3,6,7,8,9])
 (.seq (.cond (.tmp 9)
 (.skip [3,6,7,8])
 (.exit 0 [3])) (sg c52S1)))
def c52S2(_:Unit):Cmd:=(.seq (.ops [
 ⟨some 17,.move (.tmp 3),3,none⟩,
 ⟨some 2,.assign (.tmp 17),3,none⟩] [2])
 .ret)
def c52:Cmd:=(.seq (.ops [
 ⟨some 2,.assign (.const (.int .i64 0)),3,none⟩] [0])
 (.seq (.ops [
 ⟨some 3,.assign (.const (.int .i64 0)),3,none⟩] [0,3])
 (.seq (.seq (.ops [
 ⟨some 6,.move (.tmp 0),25,none⟩,
 ⟨some 7,.call ⟨.builtin .len,#[(.tmp 6)],#[25]⟩,3,none⟩,
 ⟨some 8,.move (.const (.int .i64 0)),3,none⟩] [3,6,7,8])
 (.block 0 (.loop (sg c52L0)))) (sg c52S2))))
attribute [go_sem] c52 c52S0 c52S1 c52L0 c52S2
theorem ent52(a0:Value)(w:World)(K:Value→World→Prop)(h:W Tryz.prog c52 [(0,a0)] w (finQ Tryz.prog [.tmp 2] K)):Ret Tryz.prog 52 [a0] w K :=
 Ret_of_W (code:=c52code) Tryz.func52 (by kernel_rfl) (by kernel_rfl) (of_decide_eq_true (by kernel_rfl)) h
@[go_sem] theorem go52:goFunc Tryz.prog 52=true:=by kernel_rfl
def c53code:Code:=match Tryz.f53.body with | some c=>c | none=>.skip
def c53S0(_:Unit):Cmd:=(.seq (.ops [
 ⟨some 4,.assign (.const (.int .i64 (-1))),3,none⟩] [4])
 .ret)
def c53S1(_:Unit):Cmd:=(.seq (.ops [
 ⟨some 4,.assign (.const (.int .i64 0)),3,none⟩] [4])
 .ret)
def c53S2(_:Unit):Cmd:=(.seq (.seq (.ops [
 ⟨some 17,.move (.tmp 0),3,none⟩,
 ⟨some 18,.move (.tmp 1),3,none⟩,
 ⟨some 19,.binOp .gtr 3 (.tmp 17) (.tmp 18) 3,4,none⟩] [19])
 (.cond (.tmp 19)
 (.seq (.ops [
 ⟨some 4,.assign (.const (.int .i64 1)),3,none⟩] [4])
 .ret)
 (.skip []))) (sg c53S1))
def c53S3(_:Unit):Cmd:=(.seq (.seq (.ops [
 ⟨some 14,.move (.tmp 0),3,none⟩,
 ⟨some 15,.move (.tmp 1),3,none⟩,
 ⟨some 16,.binOp .lss 3 (.tmp 14) (.tmp 15) 3,4,none⟩] [0,1,16])
 (.cond (.tmp 16)
 (.seq (.ops [
 ⟨some 4,.assign (.const (.int .i64 (-1))),3,none⟩] [4])
 .ret)
 (.skip [0,1]))) (sg c53S2))
def c53S4(_:Unit):Cmd:=(.seq (.seq (.ops [
 ⟨some 13,.move (.tmp 6),4,none⟩] [0,1,13])
 (.cond (.tmp 13)
 (.seq (.ops [
 ⟨some 4,.assign (.const (.int .i64 1)),3,none⟩] [4])
 .ret)
 (.skip [0,1]))) (sg c53S3))
def c53S5(_:Unit):Cmd:=(.seq (.seq (.ops [
 ⟨some 11,.move (.tmp 5),4,none⟩] [0,1,6,11])
 (.cond (.tmp 11)
 (.seq (.seq (.ops [
 ⟨some 12,.move (.tmp 6),4,none⟩] [12])
 (.cond (.tmp 12)
 (.seq (.ops [
 ⟨some 4,.assign (.const (.int .i64 0)),3,none⟩] [4])
 .ret)
 (.skip []))) (sg c53S0))
 (.skip [0,1,6]))) (sg c53S4))
def c53S6(_:Unit):Cmd:=(.seq (.ops [
 ⟨some 9,.move (.tmp 1),3,none⟩,
 ⟨some 10,.call ⟨.value (.func 82),#[(.tmp 9)],#[3]⟩,4,none⟩,
 ⟨some 6,.assign (.tmp 10),4,none⟩] [0,1,5,6]) (sg c53S5))
def c53:Cmd:=(.seq (.ops [
 ⟨some 4,.assign (.const (.int .i64 0)),3,none⟩] [0,1])
 (.seq (.ops [
 ⟨some 7,.move (.tmp 0),3,none⟩,
 ⟨some 8,.call ⟨.value (.func 82),#[(.tmp 7)],#[3]⟩,4,none⟩,
 ⟨some 5,.assign (.tmp 8),4,none⟩] [0,1,5]) (sg c53S6)))
attribute [go_sem] c53 c53S0 c53S1 c53S2 c53S3 c53S4 c53S5 c53S6
theorem ent53(a0 a1:Value)(w:World)(K:Value→World→Prop)(h:W Tryz.prog c53 [(0,a0),(1,a1)] w (finQ Tryz.prog [.tmp 4] K)):Ret Tryz.prog 53 [a0,a1] w K :=
 Ret_of_W (code:=c53code) Tryz.func53 (by kernel_rfl) (by kernel_rfl) (of_decide_eq_true (by kernel_rfl)) h
@[go_sem] theorem go53:goFunc Tryz.prog 53=true:=by kernel_rfl
def c54code:Code:=match Tryz.f54.body with | some c=>c | none=>.skip
def c54S0(_:Unit):Cmd:=(.seq (.ops [
 ⟨some 4,.assign (.const (.bool false)),4,none⟩] [4])
 .ret)
def c54:Cmd:=(.seq (.ops [
 ⟨some 4,.assign (.const (.bool false)),4,none⟩] [0,1])
 (.seq (.seq (.ops [
 ⟨some 5,.move (.tmp 0),3,none⟩] [1,5])
 (.block 0 (.seq (.ops [
 ⟨some 7,.binOp .eql 3 (.tmp 5) (.const (.int .i64 1)) 3,4,none⟩,
 ⟨some 6,.assign (.tmp 7),4,none⟩] [1,5,6])
 (.cond (.tmp 6)
 (.seq (.ops [
 ⟨some 8,.move (.tmp 1),3,none⟩,
 ⟨some 9,.binOp .geq 3 (.tmp 8) (.const (.int .i64 1)) 3,4,none⟩,
 ⟨some 10,.move (.tmp 9),4,none⟩,
 ⟨some 11,.move (.tmp 1),3,(some (10,true))⟩,
 ⟨some 12,.binOp .leq 3 (.tmp 11) (.const (.int .i64 3)) 3,4,(some (10,true))⟩,
 ⟨some 13,.pick (.tmp 10) (.tmp 12) (.const (.bool false)),4,none⟩,
 ⟨some 4,.assign (.tmp 13),4,none⟩] [4])
 .ret)
 (.seq (.ops [
 ⟨some 15,.binOp .eql 3 (.tmp 5) (.const (.int .i64 2)) 3,4,none⟩,
 ⟨some 14,.assign (.tmp 15),4,none⟩] [1,5,14])
 (.cond (.tmp 14)
 (.seq (.ops [
 ⟨some 16,.move (.tmp 1),3,none⟩,
 ⟨some 17,.binOp .eql 3 (.tmp 16) (.const (.int .i64 1)) 3,4,none⟩,
 ⟨some 18,.move (.tmp 17),4,none⟩,
 ⟨some 19,.move (.tmp 1),3,(some (18,false))⟩,
 ⟨some 20,.binOp .eql 3 (.tmp 19) (.const (.int .i64 4)) 3,4,(some (18,false))⟩,
 ⟨some 21,.pick (.tmp 18) (.const (.bool true)) (.tmp 20),4,none⟩,
 ⟨some 22,.move (.tmp 21),4,none⟩,
 ⟨some 23,.move (.tmp 1),3,(some (22,false))⟩,
 ⟨some 24,.binOp .eql 3 (.tmp 23) (.const (.int .i64 5)) 3,4,(some (22,false))⟩,
 ⟨some 25,.pick (.tmp 22) (.const (.bool true)) (.tmp 24),4,none⟩,
 ⟨some 4,.assign (.tmp 25),4,none⟩] [4])
 .ret)
 (.seq (.ops [
 ⟨some 27,.binOp .eql 3 (.tmp 5) (.const (.int .i64 3)) 3,4,none⟩,
 ⟨some 26,.assign (.tmp 27),4,none⟩] [1,5,26])
 (.cond (.tmp 26)
 (.seq (.ops [
 ⟨some 28,.move (.tmp 1),3,none⟩,
 ⟨some 29,.binOp .eql 3 (.tmp 28) (.const (.int .i64 6)) 3,4,none⟩,
 ⟨some 30,.move (.tmp 29),4,none⟩,
 ⟨some 31,.move (.tmp 1),3,(some (30,false))⟩,
 ⟨some 32,.binOp .eql 3 (.tmp 31) (.const (.int .i64 7)) 3,4,(some (30,false))⟩,
 ⟨some 33,.pick (.tmp 30) (.const (.bool true)) (.tmp 32),4,none⟩,
 ⟨some 4,.assign (.tmp 33),4,none⟩] [4])
 .ret)
 (.seq (.ops [
 ⟨some 35,.binOp .eql 3 (.tmp 5) (.const (.int .i64 4)) 3,4,none⟩,
 ⟨some 34,.assign (.tmp 35),4,none⟩] [1,5,34])
 (.cond (.tmp 34)
 (.seq (.ops [
 ⟨some 36,.move (.tmp 1),3,none⟩,
 ⟨some 37,.binOp .eql 3 (.tmp 36) (.const (.int .i64 8)) 3,4,none⟩,
 ⟨some 38,.move (.tmp 37),4,none⟩,
 ⟨some 39,.move (.tmp 1),3,(some (38,false))⟩,
 ⟨some 40,.binOp .eql 3 (.tmp 39) (.const (.int .i64 9)) 3,4,(some (38,false))⟩,
 ⟨some 41,.pick (.tmp 38) (.const (.bool true)) (.tmp 40),4,none⟩,
 ⟨some 4,.assign (.tmp 41),4,none⟩] [4])
 .ret)
 (.seq (.ops [
 ⟨some 43,.binOp .eql 3 (.tmp 5) (.const (.int .i64 5)) 3,4,none⟩,
 ⟨some 42,.assign (.tmp 43),4,none⟩] [1,5,42])
 (.cond (.tmp 42)
 (.seq (.ops [
 ⟨some 44,.move (.tmp 1),3,none⟩,
 ⟨some 45,.binOp .geq 3 (.tmp 44) (.const (.int .i64 10)) 3,4,none⟩,
 ⟨some 46,.move (.tmp 45),4,none⟩,
 ⟨some 47,.move (.tmp 1),3,(some (46,true))⟩,
 ⟨some 48,.binOp .leq 3 (.tmp 47) (.const (.int .i64 12)) 3,4,(some (46,true))⟩,
 ⟨some 49,.pick (.tmp 46) (.tmp 48) (.const (.bool false)),4,none⟩,
 ⟨some 4,.assign (.tmp 49),4,none⟩] [4])
 .ret)
 (.seq (.ops [
 ⟨some 51,.binOp .eql 3 (.tmp 5) (.const (.int .i64 6)) 3,4,none⟩,
 ⟨some 50,.assign (.tmp 51),4,none⟩] [1,50])
 (.cond (.tmp 50)
 (.seq (.ops [
 ⟨some 52,.move (.tmp 1),3,none⟩,
 ⟨some 53,.binOp .eql 3 (.tmp 52) (.const (.int .i64 13)) 3,4,none⟩,
 ⟨some 54,.move (.tmp 53),4,none⟩,
 ⟨some 55,.move (.tmp 1),3,(some (54,false))⟩,
 ⟨some 56,.binOp .eql 3 (.tmp 55) (.const (.int .i64 14)) 3,4,(some (54,false))⟩,
 ⟨some 57,.pick (.tmp 54) (.const (.bool true)) (.tmp 56),4,none⟩,
 ⟨some 4,.assign (.tmp 57),4,none⟩] [4])
 .ret)
 (.skip []))))))))))))))) (sg c54S0)))
attribute [go_sem] c54 c54S0
theorem ent54(a0 a1:Value)(w:World)(K:Value→World→Prop)(h:W Tryz.prog c54 [(0,a0),(1,a1)] w (finQ Tryz.prog [.tmp 4] K)):Ret Tryz.prog 54 [a0,a1] w K :=
 Ret_of_W (code:=c54code) Tryz.func54 (by kernel_rfl) (by kernel_rfl) (of_decide_eq_true (by kernel_rfl)) h
@[go_sem] theorem go54:goFunc Tryz.prog 54=true:=by kernel_rfl
def c55code:Code:=match Tryz.f55.body with | some c=>c | none=>.skip
def c55S0(_:Unit):Cmd:=.ret
def c55S1(_:Unit):Cmd:=.ret
def c55S2(_:Unit):Cmd:=(.cond (.tmp 15)
 (.seq (.ops [
 ⟨some 22,.fieldAddr 52 (.tmp 1) 5,0,none⟩,
 ⟨some 23,.load 3 (.tmp 22),3,none⟩,
 ⟨some 24,.call ⟨.value (.func 83),#[(.tmp 23)],#[3]⟩,4,none⟩,
 ⟨some 25,.move (.tmp 24),4,none⟩,
 ⟨some 26,.fieldAddr 52 (.tmp 1) 6,0,(some (25,true))⟩,
 ⟨some 27,.load 3 (.tmp 26),3,(some (25,true))⟩,
 ⟨some 28,.binOp .eql 3 (.tmp 27) (.const (.int .i64 0)) 3,4,(some (25,true))⟩,
 ⟨some 29,.pick (.tmp 25) (.tmp 28) (.const (.bool false)),4,none⟩,
 ⟨some 2,.assign (.tmp 29),4,none⟩] [2]) (sg c55S1))
 (.skip [1]))
def c55S3(_:Unit):Cmd:=(.seq (.ops [
 ⟨some 30,.fieldAddr 52 (.tmp 1) 5,0,none⟩,
 ⟨some 31,.load 3 (.tmp 30),3,none⟩,
 ⟨some 32,.binOp .eql 3 (.tmp 31) (.const (.int .i64 0)) 3,4,none⟩,
 ⟨some 33,.move (.tmp 32),4,none⟩,
 ⟨some 34,.fieldAddr 52 (.tmp 1) 6,0,(some (33,true))⟩,
 ⟨some 35,.load 3 (.tmp 34),3,(some (33,true))⟩,
 ⟨some 36,.binOp .eql 3 (.tmp 35) (.const (.int .i64 0)) 3,4,(some (33,true))⟩,
 ⟨some 37,.pick (.tmp 33) (.tmp 36) (.const (.bool false)),4,none⟩,
 ⟨some 2,.assign (.tmp 37),4,none⟩] [2])
 .ret)
def c55:Cmd:=(.seq (.ops [
 ⟨some 1,.box 52 (.tmp 0),0,none⟩,
 ⟨some 2,.assign (.const (.bool false)),4,none⟩] [1])
 (.seq (.seq (.ops [
 ⟨some 3,.fieldAddr 52 (.tmp 1) 4,0,none⟩,
 ⟨some 4,.load 3 (.tmp 3),3,none⟩] [1,4])
 (.block 0 (.seq (.ops [
 ⟨some 6,.binOp .eql 3 (.tmp 4) (.const (.int .i64 3)) 3,4,none⟩,
 ⟨some 5,.assign (.tmp 6),4,none⟩] [1,4,5])
 (.cond (.tmp 5)
 (.seq (.ops [
 ⟨some 7,.fieldAddr 52 (.tmp 1) 5,0,none⟩,
 ⟨some 8,.load 3 (.tmp 7),3,none⟩,
 ⟨some 9,.call ⟨.value (.func 83),#[(.tmp 8)],#[3]⟩,4,none⟩,
 ⟨some 10,.move (.tmp 9),4,none⟩,
 ⟨some 11,.fieldAddr 52 (.tmp 1) 6,0,(some (10,true))⟩,
 ⟨some 12,.load 3 (.tmp 11),3,(some (10,true))⟩,
 ⟨some 13,.call ⟨.value (.func 83),#[(.tmp 12)],#[3]⟩,4,(some (10,true))⟩,
 ⟨some 14,.pick (.tmp 10) (.tmp 13) (.const (.bool false)),4,none⟩,
 ⟨some 2,.assign (.tmp 14),4,none⟩] [2]) (sg c55S0))
 (.seq (.seq (.ops [
 ⟨some 16,.binOp .eql 3 (.tmp 4) (.const (.int .i64 2)) 3,4,none⟩,
 ⟨some 15,.assign (.tmp 16),4,none⟩] [1,4,15])
 (.cond (.tmp 15)
 (.skip [1,15])
 (.seq (.ops [
 ⟨some 17,.binOp .eql 3 (.tmp 4) (.const (.int .i64 6)) 3,4,none⟩,
 ⟨some 15,.assign (.tmp 17),4,none⟩] [1,4,15])
 (.cond (.tmp 15)
 (.skip [1,15])
 (.seq (.ops [
 ⟨some 18,.binOp .eql 3 (.tmp 4) (.const (.int .i64 8)) 3,4,none⟩,
 ⟨some 15,.assign (.tmp 18),4,none⟩] [1,4,15])
 (.cond (.tmp 15)
 (.skip [1,15])
 (.seq (.ops [
 ⟨some 19,.binOp .eql 3 (.tmp 4) (.const (.int .i64 10)) 3,4,none⟩,
 ⟨some 15,.assign (.tmp 19),4,none⟩] [1,4,15])
 (.cond (.tmp 15)
 (.skip [1,15])
 (.seq (.ops [
 ⟨some 20,.binOp .eql 3 (.tmp 4) (.const (.int .i64 11)) 3,4,none⟩,
 ⟨some 15,.assign (.tmp 20),4,none⟩] [1,4,15])
 (.cond (.tmp 15)
 (.skip [1,15])
 (.ops [
 ⟨some 21,.binOp .eql 3 (.tmp 4) (.const (.int .i64 12)) 3,4,none⟩,
 ⟨some 15,.assign (.tmp 21),4,none⟩] [1,15]))))))))))) (sg c55S2)))))) (sg c55S3)))
attribute [go_sem] c55 c55S0 c55S1 c55S3
theorem ent55(a0:Value)(w:World)(K:Value→World→Prop)(h:W Tryz.prog c55 [(0,a0)] w (finQ Tryz.prog [.tmp 2] K)):Ret Tryz.prog 55 [a0] w K :=
 Ret_of_W (code:=c55code) Tryz.func55 (by kernel_rfl) (by kernel_rfl) (of_decide_eq_true (by kernel_rfl)) h
@[go_sem] theorem go55:goFunc Tryz.prog 55=true:=by kernel_rfl
def c56code:Code:=match Tryz.f56.body with | some c=>c | none=>.skip
def c56S0(_:Unit):Cmd:=.ret
def c56S1(_:Unit):Cmd:=.ret
def c56S2(_:Unit):Cmd:=(.cond (.tmp 34)
 (.seq (.ops [
 ⟨some 37,.fieldAddr 52 (.tmp 1) 8,0,none⟩,
 ⟨some 38,.load 3 (.tmp 37),3,none⟩,
 ⟨some 39,.binOp .eql 3 (.tmp 38) (.const (.int .i64 (-1))) 3,4,none⟩,
 ⟨some 40,.move (.tmp 39),4,none⟩,
 ⟨some 41,.fieldAddr 52 (.tmp 1) 8,0,(some (40,false))⟩,
 ⟨some 42,.load 3 (.tmp 41),3,(some (40,false))⟩,
 ⟨some 43,.call ⟨.value (.func 83),#[(.tmp 42)],#[3]⟩,4,(some (40,false))⟩,
 ⟨some 44,.pick (.tmp 40) (.const (.bool true)) (.tmp 43),4,none⟩,
 ⟨some 2,.assign (.tmp 44),4,none⟩] [2]) (sg c56S1))
 (.skip [1]))
def c56S3(_:Unit):Cmd:=(.cond (.tmp 21)
 (.seq (.ops [
 ⟨some 26,.fieldAddr 52 (.tmp 1) 8,0,none⟩,
 ⟨some 27,.load 3 (.tmp 26),3,none⟩,
 ⟨some 28,.binOp .eql 3 (.tmp 27) (.const (.int .i64 0)) 3,4,none⟩,
 ⟨some 29,.move (.tmp 28),4,none⟩,
 ⟨some 30,.fieldAddr 52 (.tmp 1) 8,0,(some (29,false))⟩,
 ⟨some 31,.load 3 (.tmp 30),3,(some (29,false))⟩,
 ⟨some 32,.binOp .eql 3 (.tmp 31) (.const (.int .i64 1)) 3,4,(some (29,false))⟩,
 ⟨some 33,.pick (.tmp 29) (.const (.bool true)) (.tmp 32),4,none⟩,
 ⟨some 2,.assign (.tmp 33),4,none⟩] [2])
 .ret)
 (.seq (.seq (.ops [
 ⟨some 35,.binOp .eql 3 (.tmp 4) (.const (.int .i64 7)) 3,4,none⟩,
 ⟨some 34,.assign (.tmp 35),4,none⟩] [1,4,34])
 (.cond (.tmp 34)
 (.skip [1,34])
 (.ops [
 ⟨some 36,.binOp .eql 3 (.tmp 4) (.const (.int .i64 9)) 3,4,none⟩,
 ⟨some 34,.assign (.tmp 36),4,none⟩] [1,34]))) (sg c56S2)))
def c56S4(_:Unit):Cmd:=(.seq (.ops [
 ⟨some 45,.fieldAddr 52 (.tmp 1) 8,0,none⟩,
 ⟨some 46,.load 3 (.tmp 45),3,none⟩,
 ⟨some 47,.binOp .eql 3 (.tmp 46) (.const (.int .i64 0)) 3,4,none⟩,
 ⟨some 2,.assign (.tmp 47),4,none⟩] [2])
 .ret)
def c56:Cmd:=(.seq (.ops [
 ⟨some 1,.box 52 (.tmp 0),0,none⟩,
 ⟨some 2,.assign (.const (.bool false)),4,none⟩] [1])
 (.seq (.seq (.ops [
 ⟨some 3,.fieldAddr 52 (.tmp 1) 4,0,none⟩,
 ⟨some 4,.load 3 (.tmp 3),3,none⟩] [1,4])
 (.block 0 (.seq (.ops [
 ⟨some 6,.binOp .eql 3 (.tmp 4) (.const (.int .i64 1)) 3,4,none⟩,
 ⟨some 5,.assign (.tmp 6),4,none⟩] [1,4,5])
 (.cond (.tmp 5)
 (.seq (.ops [
 ⟨some 7,.fieldAddr 52 (.tmp 1) 8,0,none⟩,
 ⟨some 8,.load 3 (.tmp 7),3,none⟩,
 ⟨some 9,.call ⟨.value (.func 83),#[(.tmp 8)],#[3]⟩,4,none⟩,
 ⟨some 10,.move (.tmp 9),4,none⟩,
 ⟨some 11,.fieldAddr 52 (.tmp 1) 3,0,(some (10,false))⟩,
 ⟨some 12,.load 3 (.tmp 11),3,(some (10,false))⟩,
 ⟨some 13,.binOp .eql 3 (.tmp 12) (.const (.int .i64 2)) 3,4,(some (10,false))⟩,
 ⟨some 14,.move (.tmp 13),4,(some (10,false))⟩,
 ⟨some 15,.fieldAddr 52 (.tmp 1) 8,0,(some (14,true))⟩,
 ⟨some 16,.load 3 (.tmp 15),3,(some (14,true))⟩,
 ⟨some 17,.unOp .neg 3 (.tmp 16),3,(some (14,true))⟩,
 ⟨some 18,.call ⟨.value (.func 83),#[(.tmp 17)],#[3]⟩,4,(some (14,true))⟩,
 ⟨some 19,.pick (.tmp 14) (.tmp 18) (.const (.bool false)),4,(some (10,false))⟩,
 ⟨some 20,.pick (.tmp 10) (.const (.bool true)) (.tmp 19),4,none⟩,
 ⟨some 2,.assign (.tmp 20),4,none⟩] [2]) (sg c56S0))
 (.seq (.seq (.ops [
 ⟨some 22,.binOp .eql 3 (.tmp 4) (.const (.int .i64 3)) 3,4,none⟩,
 ⟨some 21,.assign (.tmp 22),4,none⟩] [1,4,21])
 (.cond (.tmp 21)
 (.skip [1,4,21])
 (.seq (.ops [
 ⟨some 23,.binOp .eql 3 (.tmp 4) (.const (.int .i64 10)) 3,4,none⟩,
 ⟨some 21,.assign (.tmp 23),4,none⟩] [1,4,21])
 (.cond (.tmp 21)
 (.skip [1,4,21])
 (.seq (.ops [
 ⟨some 24,.binOp .eql 3 (.tmp 4) (.const (.int .i64 11)) 3,4,none⟩,
 ⟨some 21,.assign (.tmp 24),4,none⟩] [1,4,21])
 (.cond (.tmp 21)
 (.skip [1,4,21])
 (.ops [
 ⟨some 25,.binOp .eql 3 (.tmp 4) (.const (.int .i64 12)) 3,4,none⟩,
 ⟨some 21,.assign (.tmp 25),4,none⟩] [1,4,21]))))))) (sg c56S3)))))) (sg c56S4)))
attribute [go_sem] c56 c56S0 c56S1 c56S4
theorem ent56(a0:Value)(w:World)(K:Value→World→Prop)(h:W Tryz.prog c56 [(0,a0)] w (finQ Tryz.prog [.tmp 2] K)):Ret Tryz.prog 56 [a0] w K :=
 Ret_of_W (code:=c56code) Tryz.func56 (by kernel_rfl) (by kernel_rfl) (of_decide_eq_true (by kernel_rfl)) h
@[go_sem] theorem go56:goFunc Tryz.prog 56=true:=by kernel_rfl
def c57code:Code:=match Tryz.f57.body with | some c=>c | none=>.skip
def c57:Cmd:=(.seq (.ops [
 ⟨some 1,.box 22 (.tmp 0),0,none⟩,
 ⟨some 2,.assign (.const .nilFunc),102,none⟩] [1])
 (.seq (.ops [
 ⟨some 3,.makeFunc (.func 84) #[] #[(.tmp 1)],101,none⟩,
 ⟨some 2,.assign (.tmp 3),102,none⟩] [2])
 .ret))
attribute [go_sem] c57
theorem ent57(a0:Value)(w:World)(K:Value→World→Prop)(h:W Tryz.prog c57 [(0,a0)] w (finQ Tryz.prog [.tmp 2] K)):Ret Tryz.prog 57 [a0] w K :=
 Ret_of_W (code:=c57code) Tryz.func57 (by kernel_rfl) (by kernel_rfl) (of_decide_eq_true (by kernel_rfl)) h
@[go_sem] theorem go57:goFunc Tryz.prog 57=true:=by kernel_rfl
def c58code:Code:=match Tryz.f58.body with | some c=>c | none=>.skip
def c58:Cmd:=(.seq (.ops [
 ⟨some 1,.box 56 (.tmp 0),0,none⟩,
 ⟨some 2,.assign (.const .nilFunc),94,none⟩] [1])
 (.seq (.ops [
 ⟨some 3,.makeFunc (.func 85) #[] #[(.tmp 1)],93,none⟩,
 ⟨some 2,.assign (.tmp 3),94,none⟩] [2])
 .ret))
attribute [go_sem] c58
theorem ent58(a0:Value)(w:World)(K:Value→World→Prop)(h:W Tryz.prog c58 [(0,a0)] w (finQ Tryz.prog [.tmp 2] K)):Ret Tryz.prog 58 [a0] w K :=
 Ret_of_W (code:=c58code) Tryz.func58 (by kernel_rfl) (by kernel_rfl) (of_decide_eq_true (by kernel_rfl)) h
@[go_sem] theorem go58:goFunc Tryz.prog 58=true:=by kernel_rfl
def c59code:Code:=match Tryz.f59.body with | some c=>c | none=>.skip
def c59S0(_:Unit):Cmd:=(.seq (.ops [
 ⟨some 50,.move (.tmp 0),54,none⟩,
 ⟨some 51,.nilCheck (.tmp 50),0,none⟩,
 ⟨some 52,.fieldAddr 60 (.tmp 51) 2,0,none⟩,
 ⟨some 53,.load 57 (.tmp 52),57,none⟩,
 ⟨some 54,.call ⟨.builtin .len,#[(.tmp 53)],#[57]⟩,3,none⟩,
 ⟨some 55,.binOp .sub 3 (.tmp 54) (.const (.int .i64 1)) 3,3,none⟩,
 ⟨some 6,.assign (.tmp 55),3,none⟩] [6])
 .ret)
def c59S1(_:Unit):Cmd:=(.seq (.draw (drawOps 1 c59code) [0]) (sg c59S0))
def c59S2(_:Unit):Cmd:=(.seq (.draw (drawOps 0 c59code) [0,1,2]) (sg c59S1))
def c59S3(_:Unit):Cmd:=(.seq (.seq (.ops [
 ⟨some 14,.move (.tmp 0),54,none⟩,
 ⟨some 15,.nilCheck (.tmp 14),0,none⟩,
 ⟨some 16,.fieldAddr 60 (.tmp 15) 3,0,none⟩,
 ⟨some 17,.load 58 (.tmp 16),58,none⟩,
 ⟨some 18,.move (.tmp 7),9,none⟩,
 ⟨some 19,.lookup 58 (.tmp 17) (.tmp 18) true,138,none⟩,
 ⟨some 13,.move (.tmp 19),138,none⟩,
 ⟨some 20,.extract (.tmp 13) 0,3,none⟩,
 ⟨some 21,.extract (.tmp 13) 1,4,none⟩,
 ⟨some 8,.assign (.tmp 20),3,none⟩,
 ⟨some 9,.assign (.tmp 21),4,none⟩] [0,1,2,7,8,9])
 (.seq (.ops [
 ⟨some 22,.move (.tmp 9),4,none⟩] [0,1,2,7,8,22])
 (.cond (.tmp 22)
 (.seq (.ops [
 ⟨some 23,.move (.tmp 8),3,none⟩,
 ⟨some 6,.assign (.tmp 23),3,none⟩] [6])
 .ret)
 (.skip [0,1,2,7])))) (sg c59S2))
def c59:Cmd:=(.seq (.ops [
 ⟨some 6,.assign (.const (.int .i64 0)),3,none⟩] [0,1,2])
 (.seq (.ops [
 ⟨some 10,.move (.tmp 1),25,none⟩,
 ⟨some 11,.move (.tmp 2),61,none⟩,
 ⟨some 12,.call ⟨.value (.func 86),#[(.tmp 10),(.tmp 11)],#[25,61]⟩,9,none⟩,
 ⟨some 7,.assign (.tmp 12),9,none⟩] [0,1,2,7]) (sg c59S3)))
attribute [go_sem] c59 c59S3
def c59D0:List (Nat × Ins):=[
 (0,⟨some 24,.move (.tmp 0),54,none⟩),
 (0,⟨some 25,.nilCheck (.tmp 24),0,none⟩),
 (0,⟨some 26,.fieldAddr 60 (.tmp 25) 3,0,none⟩),
 (0,⟨some 28,.move (.tmp 7),9,none⟩),
 (0,⟨some 29,.move (.tmp 0),54,none⟩),
 (0,⟨some 30,.nilCheck (.tmp 29),0,none⟩),
 (0,⟨some 31,.fieldAddr 60 (.tmp 30) 2,0,none⟩),
 (1,⟨some 27,.load 58 (.tmp 26),58,none⟩),
 (2,⟨some 32,.load 57 (.tmp 31),57,none⟩),
 (0,⟨some 33,.call ⟨.builtin .len,#[(.tmp 32)],#[57]⟩,3,none⟩),
 (3,⟨none,.mapUpdate 58 (.tmp 27) (.tmp 28) (.tmp 33),0,none⟩)]
theorem c59draw0{L:List Nat}{ρ:Env}{w:World}{Q:Post}(S:World→Prop)(hS:S w.drew)(h:DG Tryz.prog S c59D0 L ρ w.drew Q):drawW Tryz.prog (drawOps 0 c59code) L ρ w Q :=
 drawW_held [3] [(0,0),(0,1),(0,2),(0,4),(0,5),(0,6),(0,7),(1,3),(2,8),(0,9),(3,10)] c59D0 (by kernel_rfl) (by kernel_rfl) (by kernel_rfl) S hS h
def c59D1:List (Nat × Ins):=[
 (0,⟨some 34,.move (.tmp 0),54,none⟩),
 (0,⟨some 35,.move (.tmp 0),54,none⟩),
 (0,⟨some 36,.nilCheck (.tmp 35),0,none⟩),
 (0,⟨some 37,.fieldAddr 60 (.tmp 36) 2,0,none⟩),
 (0,⟨some 39,.move (.tmp 1),25,none⟩),
 (0,⟨some 40,.move (.tmp 2),61,none⟩),
 (0,⟨some 41,.move (.tmp 0),54,none⟩),
 (0,⟨some 42,.move (.tmp 1),25,none⟩),
 (1,⟨some 38,.load 57 (.tmp 37),57,none⟩),
 (2,⟨some 43,.call ⟨.value (.func 87),#[(.tmp 41),(.tmp 42)],#[54,25]⟩,4,none⟩),
 (2,⟨some 44,.build 64 #[(0,(.tmp 39)),(1,(.tmp 40)),(3,(.tmp 43))],64,none⟩),
 (2,⟨some 45,.box 64 (.tmp 44),65,none⟩),
 (2,⟨some 46,.buildSlice 57 1 #[(0,(.tmp 45))],57,none⟩),
 (3,⟨some 47,.call ⟨.builtin .append,#[(.tmp 38),(.tmp 46)],#[57,57]⟩,57,none⟩),
 (0,⟨some 48,.nilCheck (.tmp 34),0,none⟩),
 (0,⟨some 49,.fieldAddr 60 (.tmp 48) 2,0,none⟩),
 (3,⟨none,.store 57 (.tmp 49) (.tmp 47),0,none⟩)]
theorem c59draw1{L:List Nat}{ρ:Env}{w:World}{Q:Post}(S:World→Prop)(hS:S w.drew)(h:DG Tryz.prog S c59D1 L ρ w.drew Q):drawW Tryz.prog (drawOps 1 c59code) L ρ w Q :=
 drawW_held [4] [(0,0),(0,1),(0,2),(0,3),(0,5),(0,6),(0,7),(0,8),(1,4),(2,9),(2,10),(2,11),(2,12),(3,13),(0,14),(0,15),(3,16)] c59D1 (by kernel_rfl) (by kernel_rfl) (by kernel_rfl) S hS h
theorem ent59(a0 a1 a2:Value)(w:World)(K:Value→World→Prop)(h:W Tryz.prog c59 [(0,a0),(1,a1),(2,a2)] w (finQ Tryz.prog [.tmp 6] K)):Ret Tryz.prog 59 [a0,a1,a2] w K :=
 Ret_of_W (code:=c59code) Tryz.func59 (by kernel_rfl) (by kernel_rfl) (of_decide_eq_true (by kernel_rfl)) h
@[go_sem] theorem go59:goFunc Tryz.prog 59=true:=by kernel_rfl
def c60code:Code:=match Tryz.f60.body with | some c=>c | none=>.skip
def c60S0(_:Unit):Cmd:=(.seq (.ops [
 ⟨some 44,.move (.tmp 11),25,none⟩,
 ⟨some 45,.move (.tmp 2),3,none⟩,
 ⟨some 46,.indexAddr 25 (.tmp 44) (.tmp 45),0,none⟩,
 ⟨some 47,.load 3 (.tmp 46),3,none⟩,
 ⟨some 48,.binOp .add 3 (.tmp 47) (.const (.int .i64 1)) 3,3,none⟩,
 ⟨some 49,.indexAddr 25 (.tmp 44) (.tmp 45),0,none⟩,
 ⟨none,.store 3 (.tmp 49) (.tmp 48),0,none⟩] [0,1,7,8,9,11,12])
 (.seq (.ops [
 ⟨some 50,.move (.tmp 12),61,none⟩,
 ⟨some 51,.move (.tmp 8),3,none⟩,
 ⟨some 52,.move (.tmp 9),25,none⟩,
 ⟨some 53,.indexAddr 61 (.tmp 50) (.tmp 51),0,none⟩,
 ⟨none,.store 25 (.tmp 53) (.tmp 52),0,none⟩] [0,1,7,11,12])
 (.draw (drawOps 3 c60code) [])))
def c60S1(_:Unit):Cmd:=(.seq (.draw (drawOps 2 c60code) [0,1,2,7,8,9,11,12]) (sg c60S0))
def c60S2(_:Unit):Cmd:=(.seq (.seq (.ops [
 ⟨some 32,.move (.tmp 10),4,none⟩,
 ⟨some 33,.unOp .not 4 (.tmp 32),4,none⟩] [0,1,2,7,8,9,33])
 (.cond (.tmp 33)
 .ret
 (.skip [0,1,2,7,8,9]))) (sg c60S1))
def c60S3(_:Unit):Cmd:=(.seq (.draw (drawOps 1 c60code) [0,1,2,7,8,9,10]) (sg c60S2))
def c60:Cmd:=(.seq (.ops [
 ⟨some 7,.box 52 (.tmp 3),0,none⟩] [0,1,2,7])
 (.seq (.draw (drawOps 0 c60code) [0,1,2,7,8]) (sg c60S3)))
attribute [go_sem] c60
def c60D0:List (Nat × Ins):=[
 (0,⟨some 13,.move (.tmp 0),54,none⟩),
 (0,⟨some 14,.nilCheck (.tmp 13),0,none⟩),
 (0,⟨some 15,.fieldAddr 60 (.tmp 14) 1,0,none⟩),
 (0,⟨some 17,.fieldAddr 52 (.tmp 7) 2,0,none⟩),
 (1,⟨some 16,.load 56 (.tmp 15),56,none⟩),
 (2,⟨some 18,.load 3 (.tmp 17),3,none⟩),
 (3,⟨some 19,.lookup 56 (.tmp 16) (.tmp 18) false,3,none⟩),
 (0,⟨some 8,.assign (.tmp 19),3,none⟩)]
theorem c60draw0{L:List Nat}{ρ:Env}{w:World}{Q:Post}(S:World→Prop)(hS:S w.drew)(h:DG Tryz.prog S c60D0 L ρ w.drew Q):drawW Tryz.prog (drawOps 0 c60code) L ρ w Q :=
 drawW_held [3] [(0,0),(0,1),(0,2),(0,4),(1,3),(2,5),(3,6),(0,7)] c60D0 (by kernel_rfl) (by kernel_rfl) (by kernel_rfl) S hS h
def c60D1:List (Nat × Ins):=[
 (0,⟨some 21,.move (.tmp 1),65,none⟩),
 (0,⟨some 22,.nilCheck (.tmp 21),0,none⟩),
 (0,⟨some 23,.fieldAddr 64 (.tmp 22) 1,0,none⟩),
 (0,⟨some 25,.move (.tmp 8),3,none⟩),
 (1,⟨some 24,.load 61 (.tmp 23),61,none⟩),
 (0,⟨some 26,.indexAddr 61 (.tmp 24) (.tmp 25),0,none⟩),
 (1,⟨some 27,.load 25 (.tmp 26),25,none⟩),
 (2,⟨some 28,.load 52 (.tmp 7),52,none⟩),
 (2,⟨some 29,.call ⟨.value (.func 41),#[(.tmp 27),(.tmp 28)],#[25,52]⟩,81,none⟩),
 (0,⟨some 20,.move (.tmp 29),81,none⟩),
 (0,⟨some 30,.extract (.tmp 20) 0,25,none⟩),
 (0,⟨some 31,.extract (.tmp 20) 1,4,none⟩),
 (0,⟨some 9,.assign (.tmp 30),25,none⟩),
 (0,⟨some 10,.assign (.tmp 31),4,none⟩)]
theorem c60draw1{L:List Nat}{ρ:Env}{w:World}{Q:Post}(S:World→Prop)(hS:S w.drew)(h:DG Tryz.prog S c60D1 L ρ w.drew Q):drawW Tryz.prog (drawOps 1 c60code) L ρ w Q :=
 drawW_held [3,6] [(0,0),(0,1),(0,2),(0,4),(1,3),(0,5),(1,6),(2,7),(2,8),(0,9),(0,10),(0,11),(0,12),(0,13)] c60D1 (by kernel_rfl) (by kernel_rfl) (by kernel_rfl) S hS h
def c60D2:List (Nat × Ins):=[
 (0,⟨some 34,.move (.tmp 1),65,none⟩),
 (0,⟨some 35,.nilCheck (.tmp 34),0,none⟩),
 (0,⟨some 36,.fieldAddr 64 (.tmp 35) 0,0,none⟩),
 (0,⟨some 39,.move (.tmp 1),65,none⟩),
 (0,⟨some 40,.nilCheck (.tmp 39),0,none⟩),
 (0,⟨some 41,.fieldAddr 64 (.tmp 40) 1,0,none⟩),
 (1,⟨some 37,.load 25 (.tmp 36),25,none⟩),
 (1,⟨some 42,.load 61 (.tmp 41),61,none⟩),
 (2,⟨some 38,.call ⟨.value (.func 88),#[(.tmp 37)],#[25]⟩,25,none⟩),
 (2,⟨some 43,.call ⟨.value (.func 89),#[(.tmp 42)],#[61]⟩,61,none⟩),
 (0,⟨some 11,.assign (.tmp 38),25,none⟩),
 (0,⟨some 12,.assign (.tmp 43),61,none⟩)]
theorem c60draw2{L:List Nat}{ρ:Env}{w:World}{Q:Post}(S:World→Prop)(hS:S w.drew)(h:DG Tryz.prog S c60D2 L ρ w.drew Q):drawW Tryz.prog (drawOps 2 c60code) L ρ w Q :=
 drawW_held [3,8] [(0,0),(0,1),(0,2),(0,5),(0,6),(0,7),(1,3),(1,8),(2,4),(2,9),(0,10),(0,11)] c60D2 (by kernel_rfl) (by kernel_rfl) (by kernel_rfl) S hS h
def c60D3:List (Nat × Ins):=[
 (0,⟨some 54,.move (.tmp 1),65,none⟩),
 (0,⟨some 55,.move (.tmp 1),65,none⟩),
 (0,⟨some 56,.nilCheck (.tmp 55),0,none⟩),
 (0,⟨some 57,.fieldAddr 64 (.tmp 56) 2,0,none⟩),
 (0,⟨some 59,.fieldAddr 52 (.tmp 7) 0,0,none⟩),
 (0,⟨some 61,.move (.tmp 0),54,none⟩),
 (0,⟨some 62,.move (.tmp 11),25,none⟩),
 (0,⟨some 63,.move (.tmp 12),61,none⟩),
 (1,⟨some 58,.load 62 (.tmp 57),62,none⟩),
 (1,⟨some 60,.load 3 (.tmp 59),3,none⟩),
 (2,⟨some 64,.call ⟨.value (.func 59),#[(.tmp 61),(.tmp 62),(.tmp 63)],#[54,25,61]⟩,3,none⟩),
 (2,⟨some 65,.build 113 #[(0,(.tmp 60)),(1,(.tmp 64))],113,none⟩),
 (2,⟨some 66,.buildSlice 62 1 #[(0,(.tmp 65))],62,none⟩),
 (2,⟨some 67,.call ⟨.builtin .append,#[(.tmp 58),(.tmp 66)],#[62,62]⟩,62,none⟩),
 (0,⟨some 68,.nilCheck (.tmp 54),0,none⟩),
 (0,⟨some 69,.fieldAddr 64 (.tmp 68) 2,0,none⟩),
 (3,⟨none,.store 62 (.tmp 69) (.tmp 67),0,none⟩)]
theorem c60draw3{L:List Nat}{ρ:Env}{w:World}{Q:Post}(S:World→Prop)(hS:S w.drew)(h:DG Tryz.prog S c60D3 L ρ w.drew Q):drawW Tryz.prog (drawOps 3 c60code) L ρ w Q :=
 drawW_held [4,6] [(0,0),(0,1),(0,2),(0,3),(0,5),(0,7),(0,8),(0,9),(1,4),(1,6),(2,10),(2,11),(2,12),(2,13),(0,14),(0,15),(3,16)] c60D3 (by kernel_rfl) (by kernel_rfl) (by kernel_rfl) S hS h
theorem ent60(a0 a1 a2 a3:Value)(w:World)(K:Value→World→Prop)(h:W Tryz.prog c60 [(0,a0),(1,a1),(2,a2),(3,a3)] w (finQ Tryz.prog [] K)):Ret Tryz.prog 60 [a0,a1,a2,a3] w K :=
 Ret_of_W (code:=c60code) Tryz.func60 (by kernel_rfl) (by kernel_rfl) (of_decide_eq_true (by kernel_rfl)) h
@[go_sem] theorem go60:goFunc Tryz.prog 60=true:=by kernel_rfl
def c61code:Code:=match Tryz.f61.body with | some c=>c | none=>.skip
def c61S0(_:Unit):Cmd:=(.seq (.block 1 (.seq (.ops [
 ⟨some 13,.indexAddr 25 (.tmp 9) (.tmp 11),0,none⟩,
 ⟨some 14,.load 3 (.tmp 13),3,none⟩,
 ⟨some 5,.assign (.tmp 14),3,none⟩] [3,5,9,10,11])
 (.ops [
 ⟨some 15,.move (.tmp 3),3,none⟩,
 ⟨some 16,.move (.tmp 5),3,none⟩,
 ⟨some 17,.binOp .add 3 (.tmp 15) (.tmp 16) 3,3,none⟩,
 ⟨some 3,.assign (.tmp 17),3,none⟩] [3,9,10,11])))
 (.ops [
 ⟨some 18,.binOp .add 3 (.tmp 11) (.const (.int .i64 1)) 3,3,none⟩,
 ⟨some 11,.move (.tmp 18),3,none⟩] [3,9,10,11]))
def c61L0(_:Unit):Cmd:=(.seq (.ops [
 ⟨some 12,.binOp .lss 3 (.tmp 11) (.tmp 10) 3,0,none⟩] [3,9,10,11,12])
 (.seq (.cond (.tmp 12)
 (.skip [3,9,10,11])
 (.exit 0 [3])) (sg c61S0)))
def c61S1(_:Unit):Cmd:=(.seq (.ops [
 ⟨some 19,.move (.tmp 3),3,none⟩,
 ⟨some 2,.assign (.tmp 19),3,none⟩] [2])
 .ret)
def c61:Cmd:=(.seq (.ops [
 ⟨some 2,.assign (.const (.int .i64 0)),3,none⟩] [0])
 (.seq (.ops [
 ⟨some 3,.assign (.const (.int .i64 0)),3,none⟩] [0,3])
 (.seq (.seq (.ops [
 ⟨some 6,.move (.tmp 0),65,none⟩,
 ⟨some 7,.nilCheck (.tmp 6),0,none⟩,
 ⟨some 8,.fieldAddr 64 (.tmp 7) 0,0,none⟩,
 ⟨some 9,.load 25 (.tmp 8),25,none⟩,
 ⟨some 10,.call ⟨.builtin .len,#[(.tmp 9)],#[25]⟩,3,none⟩,
 ⟨some 11,.move (.const (.int .i64 0)),3,none⟩] [3,9,10,11])
 (.block 0 (.loop (sg c61L0)))) (sg c61S1))))
attribute [go_sem] c61 c61S0 c61S1
theorem ent61(a0:Value)(w:World)(K:Value→World→Prop)(h:W Tryz.prog c61 [(0,a0)] w (finQ Tryz.prog [.tmp 2] K)):Ret Tryz.prog 61 [a0] w K :=
 Ret_of_W (code:=c61code) Tryz.func61 (by kernel_rfl) (by kernel_rfl) (of_decide_eq_true (by kernel_rfl)) h
@[go_sem] theorem go61:goFunc Tryz.prog 61=true:=by kernel_rfl
def c62code:Code:=match Tryz.f62.body with | some c=>c | none=>.skip
def c62S0(_:Unit):Cmd:=.ret
def c62S1(_:Unit):Cmd:=(.seq (.ops [
 ⟨some 5,.buildSlice 57 0 #[],57,none⟩,
 ⟨some 6,.move (.tmp 0),57,none⟩,
 ⟨some 7,.call ⟨.builtin .append,#[(.tmp 5),(.tmp 6)],#[57,57]⟩,57,none⟩,
 ⟨some 2,.assign (.tmp 7),57,none⟩] [2]) (sg c62S0))
def c62:Cmd:=(.seq (.ops [
 ⟨some 2,.assign (.const (.slice none 0 0)),57,none⟩] [0])
 (.seq (.seq (.ops [
 ⟨some 3,.move (.tmp 0),57,none⟩,
 ⟨some 4,.binOp .eql 57 (.tmp 3) (.const (.slice none 0 0)) 57,4,none⟩] [0,4])
 (.cond (.tmp 4)
 (.seq (.ops [
 ⟨some 2,.assign (.const (.slice none 0 0)),57,none⟩] [2])
 .ret)
 (.skip [0]))) (sg c62S1)))
attribute [go_sem] c62 c62S0 c62S1
theorem ent62(a0:Value)(w:World)(K:Value→World→Prop)(h:W Tryz.prog c62 [(0,a0)] w (finQ Tryz.prog [.tmp 2] K)):Ret Tryz.prog 62 [a0] w K :=
 Ret_of_W (code:=c62code) Tryz.func62 (by kernel_rfl) (by kernel_rfl) (of_decide_eq_true (by kernel_rfl)) h
@[go_sem] theorem go62:goFunc Tryz.prog 62=true:=by kernel_rfl
def c63code:Code:=match Tryz.f63.body with | some c=>c | none=>.skip
def c63:Cmd:=(.ops [
 ⟨some 4,.move (.tmp 0),57,none⟩,
 ⟨some 5,.move (.tmp 0),57,none⟩,
 ⟨some 6,.call ⟨.builtin .len,#[(.tmp 5)],#[57]⟩,3,none⟩,
 ⟨some 7,.move (.tmp 1),110,none⟩,
 ⟨some 8,.call ⟨.value (.func 90),#[(.tmp 4),(.tmp 6),(.tmp 7)],#[57,3,110]⟩,0,none⟩] [])
attribute [go_sem] c63
theorem ent63(a0 a1:Value)(w:World)(K:Value→World→Prop)(h:W Tryz.prog c63 [(0,a0),(1,a1)] w (finQ Tryz.prog [] K)):Ret Tryz.prog 63 [a0,a1] w K :=
 Ret_of_W (code:=c63code) Tryz.func63 (by kernel_rfl) (by kernel_rfl) (of_decide_eq_true (by kernel_rfl)) h
@[go_sem] theorem go63:goFunc Tryz.prog 63=true:=by kernel_rfl
def c64code:Code:=match Tryz.f64.body with | some c=>c | none=>.skip
def c64S0(_:Unit):Cmd:=.ret
def c64:Cmd:=(.seq (.ops [
 ⟨some 5,.assign (.const (.int .i64 0)),3,none⟩] [0,1,2])
 (.seq (.draw (drawOps 0 c64code) [5]) (sg c64S0)))
attribute [go_sem] c64 c64S0
def c64D0:List (Nat × Ins):=[
 (0,⟨some 7,.move (.tmp 1),65,none⟩),
 (0,⟨some 10,.move (.tmp 0),65,none⟩),
 (1,⟨some 6,.load 107 (.tmp 2),107,none⟩),
 (1,⟨some 9,.load 107 (.tmp 2),107,none⟩),
 (2,⟨some 8,.call ⟨.value (.tmp 6),#[(.tmp 7)],#[65]⟩,3,none⟩),
 (2,⟨some 11,.call ⟨.value (.tmp 9),#[(.tmp 10)],#[65]⟩,3,none⟩),
 (2,⟨some 12,.call ⟨.value (.func 53),#[(.tmp 8),(.tmp 11)],#[3,3]⟩,3,none⟩),
 (0,⟨some 5,.assign (.tmp 12),3,none⟩)]
theorem c64draw0{L:List Nat}{ρ:Env}{w:World}{Q:Post}(S:World→Prop)(hS:S w.drew)(h:DG Tryz.prog S c64D0 L ρ w.drew Q):drawW Tryz.prog (drawOps 0 c64code) L ρ w Q :=
 drawW_held [0,3] [(0,1),(0,4),(1,0),(1,3),(2,2),(2,5),(2,6),(0,7)] c64D0 (by kernel_rfl) (by kernel_rfl) (by kernel_rfl) S hS h
theorem ent64(a0 a1 a2:Value)(w:World)(K:Value→World→Prop)(h:W Tryz.prog c64 [(0,a0),(1,a1),(2,a2)] w (finQ Tryz.prog [.tmp 5] K)):Ret Tryz.prog 64 [a0,a1,a2] w K :=
 Ret_of_W (code:=c64code) Tryz.func64 (by kernel_rfl) (by kernel_rfl) (of_decide_eq_true (by kernel_rfl)) h
@[go_sem] theorem go64:goFunc Tryz.prog 64=true:=by kernel_rfl
def c65code:Code:=match Tryz.f65.body with | some c=>c | none=>.skip
def c65S0(_:Unit):Cmd:=.ret
def c65:Cmd:=(.seq (.ops [
 ⟨some 4,.assign (.const (.bool false)),4,none⟩] [0,1])
 (.seq (.ops [
 ⟨some 5,.move (.tmp 0),62,none⟩,
 ⟨some 6,.move (.tmp 1),114,none⟩,
 ⟨some 7,.call ⟨.value (.func 91),#[(.tmp 5),(.tmp 6)],#[62,114]⟩,3,none⟩,
 ⟨some 8,.binOp .geq 3 (.tmp 7) (.const (.int .i64 0)) 3,4,none⟩,
 ⟨some 4,.assign (.tmp 8),4,none⟩] [4]) (sg c65S0)))
attribute [go_sem] c65 c65S0
theorem ent65(a0 a1:Value)(w:World)(K:Value→World→Prop)(h:W Tryz.prog c65 [(0,a0),(1,a1)] w (finQ Tryz.prog [.tmp 4] K)):Ret Tryz.prog 65 [a0,a1] w K :=
 Ret_of_W (code:=c65code) Tryz.func65 (by kernel_rfl) (by kernel_rfl) (of_decide_eq_true (by kernel_rfl)) h
@[go_sem] theorem go65:goFunc Tryz.prog 65=true:=by kernel_rfl
def c66code:Code:=match Tryz.f66.body with | some c=>c | none=>.skip
def c66S0(_:Unit):Cmd:=.ret
def c66:Cmd:=(.seq (.ops [
 ⟨some 2,.box 113 (.tmp 0),0,none⟩,
 ⟨some 3,.assign (.const (.bool false)),4,none⟩] [1,2])
 (.seq (.draw (drawOps 0 c66code) [3]) (sg c66S0)))
attribute [go_sem] c66 c66S0
def c66D0:List (Bool × Ins):=[
 (false,⟨some 4,.load 54 (.tmp 1),54,none⟩),
 (true,⟨some 5,.nilCheck (.tmp 4),0,none⟩),
 (true,⟨some 6,.fieldAddr 60 (.tmp 5) 2,0,none⟩),
 (false,⟨some 7,.load 57 (.tmp 6),57,none⟩),
 (true,⟨some 8,.fieldAddr 113 (.tmp 2) 1,0,none⟩),
 (false,⟨some 9,.load 3 (.tmp 8),3,none⟩),
 (true,⟨some 10,.indexAddr 57 (.tmp 7) (.tmp 9),0,none⟩),
 (false,⟨some 11,.load 65 (.tmp 10),65,none⟩),
 (true,⟨some 12,.nilCheck (.tmp 11),0,none⟩),
 (true,⟨some 13,.fieldAddr 64 (.tmp 12) 4,0,none⟩),
 (false,⟨some 14,.load 4 (.tmp 13),4,none⟩),
 (true,⟨some 3,.assign (.tmp 14),4,none⟩)]
theorem c66draw0{L:List Nat}{ρ:Env}{w:World}{Q:Post}(h:DL Tryz.prog c66D0 L ρ w.drew Q):drawW Tryz.prog (drawOps 0 c66code) L ρ w Q :=
 drawW_still [false,true,true,false,true,false,true,false,true,true,false,true] c66D0 (by kernel_rfl) (by kernel_rfl) (by kernel_rfl) h
theorem ent66(a0 a1:Value)(w:World)(K:Value→World→Prop)(h:W Tryz.prog c66 [(0,a0),(1,a1)] w (finQ Tryz.prog [.tmp 3] K)):Ret Tryz.prog 66 [a0,a1] w K :=
 Ret_of_W (code:=c66code) Tryz.func66 (by kernel_rfl) (by kernel_rfl) (of_decide_eq_true (by kernel_rfl)) h
@[go_sem] theorem go66:goFunc Tryz.prog 66=true:=by kernel_rfl
def c67code:Code:=match Tryz.f67.body with | some c=>c | none=>.skip
def c67:Cmd:=(.seq (.ops [
 ⟨some 6,.assign (.const (.bool false)),4,none⟩] [0,1,2])
 (.seq (.ops [
 ⟨some 7,.move (.tmp 0),3,none⟩,
 ⟨some 8,.move (.tmp 1),3,none⟩,
 ⟨some 9,.binOp .geq 3 (.tmp 7) (.tmp 8) 3,4,none⟩,
 ⟨some 10,.move (.tmp 9),4,none⟩,
 ⟨some 11,.move (.tmp 0),3,(some (10,true))⟩,
 ⟨some 12,.move (.tmp 2),3,(some (10,true))⟩,
 ⟨some 13,.binOp .leq 3 (.tmp 11) (.tmp 12) 3,4,(some (10,true))⟩,
 ⟨some 14,.pick (.tmp 10) (.tmp 13) (.const (.bool false)),4,none⟩,
 ⟨some 6,.assign (.tmp 14),4,none⟩] [6])
 .ret))
attribute [go_sem] c67
theorem ent67(a0 a1 a2:Value)(w:World)(K:Value→World→Prop)(h:W Tryz.prog c67 [(0,a0),(1,a1),(2,a2)] w (finQ Tryz.prog [.tmp 6] K)):Ret Tryz.prog 67 [a0,a1,a2] w K :=
 Ret_of_W (code:=c67code) Tryz.func67 (by kernel_rfl) (by kernel_rfl) (of_decide_eq_true (by kernel_rfl)) h
@[go_sem] theorem go67:goFunc Tryz.prog 67=true:=by kernel_rfl
def c68code:Code:=match Tryz.f68.body with | some c=>c | none=>.skip
def c68S0(_:Unit):Cmd:=(.ops [
 ⟨some 13,.move (.tmp 7),3,none⟩,
 ⟨some 14,.binOp .add 3 (.tmp 13) (.const (.int .i64 1)) 3,3,none⟩,
 ⟨some 7,.assign (.tmp 14),3,none⟩] [0,1,4,6,7])
def c68S1(_:Unit):Cmd:=(.seq (.block 1 (.seq (.ops [
 ⟨some 15,.move (.tmp 6),144,none⟩,
 ⟨some 16,.move (.tmp 7),3,none⟩,
 ⟨some 17,.indexAddr 144 (.tmp 15) (.tmp 16),0,none⟩,
 ⟨some 18,.fieldAddr 117 (.tmp 17) 0,0,none⟩,
 ⟨some 19,.load 3 (.tmp 18),3,none⟩,
 ⟨some 20,.move (.tmp 0),3,none⟩,
 ⟨some 21,.binOp .eql 3 (.tmp 19) (.tmp 20) 3,4,none⟩,
 ⟨some 22,.move (.tmp 21),4,none⟩,
 ⟨some 23,.move (.tmp 6),144,(some (22,true))⟩,
 ⟨some 24,.move (.tmp 7),3,(some (22,true))⟩,
 ⟨some 25,.indexAddr 144 (.tmp 23) (.tmp 24),0,(some (22,true))⟩,
 ⟨some 26,.fieldAddr 117 (.tmp 25) 1,0,(some (22,true))⟩,
 ⟨some 27,.load 3 (.tmp 26),3,(some (22,true))⟩,
 ⟨some 28,.move (.tmp 1),3,(some (22,true))⟩,
 ⟨some 29,.binOp .eql 3 (.tmp 27) (.tmp 28) 3,4,(some (22,true))⟩,
 ⟨some 30,.pick (.tmp 22) (.tmp 29) (.const (.bool false)),4,none⟩] [0,1,4,6,7,30])
 (.cond (.tmp 30)
 (.seq (.ops [
 ⟨some 31,.move (.tmp 6),144,none⟩,
 ⟨some 32,.move (.tmp 7),3,none⟩,
 ⟨some 33,.indexAddr 144 (.tmp 31) (.tmp 32),0,none⟩,
 ⟨some 34,.load 117 (.tmp 33),117,none⟩,
 ⟨none,.store 117 (.tmp 4) (.tmp 34),0,none⟩,
 ⟨some 5,.assign (.const (.bool true)),4,none⟩] [4,5])
 .ret)
 (.skip [0,1,4,6,7])))) (sg c68S0))
def c68L0(_:Unit):Cmd:=(.seq (.seq (.ops [
 ⟨some 9,.move (.tmp 7),3,none⟩,
 ⟨some 10,.move (.tmp 6),144,none⟩,
 ⟨some 11,.call ⟨.builtin .len,#[(.tmp 10)],#[144]⟩,3,none⟩,
 ⟨some 12,.binOp .lss 3 (.tmp 9) (.tmp 11) 3,4,none⟩] [0,1,4,6,7,12])
 (.cond (.tmp 12)
 (.skip [0,1,4,6,7])
 (.exit 0 [4]))) (sg c68S1))
def c68S2(_:Unit):Cmd:=(.seq (.ops [
 ⟨some 35,.build 117 #[],117,none⟩,
 ⟨none,.store 117 (.tmp 4) (.tmp 35),0,none⟩,
 ⟨some 5,.assign (.const (.bool false)),4,none⟩] [4,5])
 .ret)
def c68S3(_:Unit):Cmd:=(.seq (.seq (.ops [
 ⟨some 7,.assign (.const (.int .i64 0)),3,none⟩] [0,1,4,6,7])
 (.block 0 (.loop (sg c68L0)))) (sg c68S2))
def c68:Cmd:=(.seq (.ops [
 ⟨some 4,.alloc 117,0,none⟩,
 ⟨some 5,.assign (.const (.bool false)),4,none⟩] [0,1,4])
 (.seq (.ops [
 ⟨some 8,.call ⟨.value (.func 92),#[],#[]⟩,144,none⟩,
 ⟨some 6,.assign (.tmp 8),144,none⟩] [0,1,4,6]) (sg c68S3)))
attribute [go_sem] c68 c68S0 c68S1 c68L0 c68S2 c68S3
theorem ent68(a0 a1:Value)(w:World)(K:Value→World→Prop)(h:W Tryz.prog c68 [(0,a0),(1,a1)] w (finQ Tryz.prog [.cell 4 117,.tmp 5] K)):Ret Tryz.prog 68 [a0,a1] w K :=
 Ret_of_W (code:=c68code) Tryz.func68 (by kernel_rfl) (by kernel_rfl) (of_decide_eq_true (by kernel_rfl)) h
@[go_sem] theorem go68:goFunc Tryz.prog 68=true:=by kernel_rfl
def c69code:Code:=match Tryz.f69.body with | some c=>c | none=>.skip
def c69S0(_:Unit):Cmd:=.ret
def c69S1(_:Unit):Cmd:=.ret
def c69S2(_:Unit):Cmd:=.ret
def c69S3(_:Unit):Cmd:=(.seq (.ops [
 ⟨some 25,.move (.tmp 0),3,none⟩,
 ⟨some 26,.call ⟨.value (.func 67),#[(.tmp 25),(.const (.int .i64 (-1))),(.const (.int .i64 1073741824))],#[3,3,3]⟩,4,none⟩,
 ⟨some 4,.assign (.tmp 26),4,none⟩] [4]) (sg c69S2))
def c69S4(_:Unit):Cmd:=(.seq (.seq (.ops [
 ⟨some 21,.move (.tmp 1),3,none⟩,
 ⟨some 22,.binOp .eql 3 (.tmp 21) (.const (.int .i64 3)) 3,4,none⟩] [0,22])
 (.cond (.tmp 22)
 (.seq (.ops [
 ⟨some 23,.move (.tmp 0),3,none⟩,
 ⟨some 24,.call ⟨.value (.func 67),#[(.tmp 23),(.const (.int .i64 (-1073741824))),(.const (.int .i64 1073741824))],#[3,3,3]⟩,4,none⟩,
 ⟨some 4,.assign (.tmp 24),4,none⟩] [4]) (sg c69S1))
 (.skip [0]))) (sg c69S3))
def c69S5(_:Unit):Cmd:=(.seq (.seq (.ops [
 ⟨some 17,.move (.tmp 1),3,none⟩,
 ⟨some 18,.binOp .eql 3 (.tmp 17) (.const (.int .i64 2)) 3,4,none⟩] [0,1,18])
 (.cond (.tmp 18)
 (.seq (.ops [
 ⟨some 19,.move (.tmp 0),3,none⟩,
 ⟨some 20,.call ⟨.value (.func 67),#[(.tmp 19),(.const (.int .i64 0)),(.const (.int .i64 1073741824))],#[3,3,3]⟩,4,none⟩,
 ⟨some 4,.assign (.tmp 20),4,none⟩] [4]) (sg c69S0))
 (.skip [0,1]))) (sg c69S4))
def c69S6(_:Unit):Cmd:=(.seq (.seq (.ops [
 ⟨some 9,.move (.tmp 1),3,none⟩,
 ⟨some 10,.binOp .eql 3 (.tmp 9) (.const (.int .i64 1)) 3,4,none⟩] [0,1,10])
 (.cond (.tmp 10)
 (.seq (.ops [
 ⟨some 11,.move (.tmp 0),3,none⟩,
 ⟨some 12,.binOp .eql 3 (.tmp 11) (.const (.int .i64 0)) 3,4,none⟩,
 ⟨some 13,.move (.tmp 12),4,none⟩,
 ⟨some 14,.move (.tmp 0),3,(some (13,false))⟩,
 ⟨some 15,.binOp .eql 3 (.tmp 14) (.const (.int .i64 1)) 3,4,(some (13,false))⟩,
 ⟨some 16,.pick (.tmp 13) (.const (.bool true)) (.tmp 15),4,none⟩,
 ⟨some 4,.assign (.tmp 16),4,none⟩] [4])
 .ret)
 (.skip [0,1]))) (sg c69S5))
def c69:Cmd:=(.seq (.ops [
 ⟨some 4,.assign (.const (.bool false)),4,none⟩] [0,1])
 (.seq (.seq (.ops [
 ⟨some 5,.move (.tmp 1),3,none⟩,
 ⟨some 6,.binOp .eql 3 (.tmp 5) (.const (.int .i64 0)) 3,4,none⟩] [0,1,6])
 (.cond (.tmp 6)
 (.seq (.ops [
 ⟨some 7,.move (.tmp 0),3,none⟩,
 ⟨some 8,.binOp .eql 3 (.tmp 7) (.const (.int .i64 0)) 3,4,none⟩,
 ⟨some 4,.assign (.tmp 8),4,none⟩] [4])
 .ret)
 (.skip [0,1]))) (sg c69S6)))
attribute [go_sem] c69 c69S0 c69S1 c69S2 c69S3 c69S4 c69S5 c69S6
theorem ent69(a0 a1:Value)(w:World)(K:Value→World→Prop)(h:W Tryz.prog c69 [(0,a0),(1,a1)] w (finQ Tryz.prog [.tmp 4] K)):Ret Tryz.prog 69 [a0,a1] w K :=
 Ret_of_W (code:=c69code) Tryz.func69 (by kernel_rfl) (by kernel_rfl) (of_decide_eq_true (by kernel_rfl)) h
@[go_sem] theorem go69:goFunc Tryz.prog 69=true:=by kernel_rfl
def c70code:Code:=match Tryz.f70.body with | some c=>c | none=>.skip
def c70S0(_:Unit):Cmd:=(.cond (.tmp 20)
 (.seq (.ops [
 ⟨some 21,.move (.tmp 0),68,none⟩,
 ⟨some 22,.move (.tmp 6),3,none⟩,
 ⟨some 23,.indexAddr 68 (.tmp 21) (.tmp 22),0,none⟩,
 ⟨some 24,.fieldAddr 125 (.tmp 23) 1,0,none⟩,
 ⟨some 25,.load 25 (.tmp 24),25,none⟩,
 ⟨some 26,.move (.tmp 6),3,none⟩,
 ⟨some 4,.assign (.tmp 25),25,none⟩,
 ⟨some 5,.assign (.tmp 26),3,none⟩] [4,5])
 .ret)
 (.skip [0,3,6]))
def c70S1(_:Unit):Cmd:=(.ops [
 ⟨some 11,.move (.tmp 6),3,none⟩,
 ⟨some 12,.binOp .add 3 (.tmp 11) (.const (.int .i64 1)) 3,3,none⟩,
 ⟨some 6,.assign (.tmp 12),3,none⟩] [0,3,6])
def c70S2(_:Unit):Cmd:=(.seq (.block 1 (.seq (.draw (drawOps 0 c70code) [0,3,6,20]) (sg c70S0))) (sg c70S1))
def c70L0(_:Unit):Cmd:=(.seq (.seq (.ops [
 ⟨some 7,.move (.tmp 6),3,none⟩,
 ⟨some 8,.move (.tmp 0),68,none⟩,
 ⟨some 9,.call ⟨.builtin .len,#[(.tmp 8)],#[68]⟩,3,none⟩,
 ⟨some 10,.binOp .lss 3 (.tmp 7) (.tmp 9) 3,4,none⟩] [0,3,6,10])
 (.cond (.tmp 10)
 (.skip [0,3,6])
 (.exit 0 [3]))) (sg c70S2))
def c70S3(_:Unit):Cmd:=.ret
def c70S4(_:Unit):Cmd:=(.seq (.ops [
 ⟨some 27,.fieldAddr 52 (.tmp 3) 3,0,none⟩,
 ⟨some 28,.load 3 (.tmp 27),3,none⟩,
 ⟨some 29,.call ⟨.value (.func 22),#[(.tmp 28)],#[3]⟩,25,none⟩,
 ⟨some 4,.assign (.tmp 29),25,none⟩,
 ⟨some 5,.assign (.const (.int .i64 (-1))),3,none⟩] [4,5]) (sg c70S3))
def c70:Cmd:=(.seq (.ops [
 ⟨some 3,.box 52 (.tmp 1),0,none⟩,
 ⟨some 4,.assign (.const (.slice none 0 0)),25,none⟩,
 ⟨some 5,.assign (.const (.int .i64 0)),3,none⟩] [0,3])
 (.seq (.seq (.ops [
 ⟨some 6,.assign (.const (.int .i64 0)),3,none⟩] [0,3,6])
 (.block 0 (.loop (sg c70L0)))) (sg c70S4)))
attribute [go_sem] c70 c70S0 c70S1 c70S2 c70S3
def c70D0:List (Bool × Ins):=[
 (true,⟨some 13,.move (.tmp 0),68,none⟩),
 (true,⟨some 14,.move (.tmp 6),3,none⟩),
 (true,⟨some 15,.indexAddr 68 (.tmp 13) (.tmp 14),0,none⟩),
 (true,⟨some 16,.fieldAddr 125 (.tmp 15) 0,0,none⟩),
 (false,⟨some 17,.load 3 (.tmp 16),3,none⟩),
 (true,⟨some 18,.fieldAddr 52 (.tmp 3) 2,0,none⟩),
 (false,⟨some 19,.load 3 (.tmp 18),3,none⟩),
 (true,⟨some 20,.binOp .eql 3 (.tmp 17) (.tmp 19) 3,4,none⟩)]
theorem c70draw0{L:List Nat}{ρ:Env}{w:World}{Q:Post}(h:DL Tryz.prog c70D0 L ρ w.drew Q):drawW Tryz.prog (drawOps 0 c70code) L ρ w Q :=
 drawW_still [true,true,true,true,false,true,false,true] c70D0 (by kernel_rfl) (by kernel_rfl) (by kernel_rfl) h
theorem ent70(a0 a1:Value)(w:World)(K:Value→World→Prop)(h:W Tryz.prog c70 [(0,a0),(1,a1)] w (finQ Tryz.prog [.tmp 4,.tmp 5] K)):Ret Tryz.prog 70 [a0,a1] w K :=
 Ret_of_W (code:=c70code) Tryz.func70 (by kernel_rfl) (by kernel_rfl) (of_decide_eq_true (by kernel_rfl)) h
@[go_sem] theorem go70:goFunc Tryz.prog 70=true:=by kernel_rfl
def c71code:Code:=match Tryz.f71.body with | some c=>c | none=>.skip
def c71S0(_:Unit):Cmd:=(.ops [
 ⟨some 13,.move (.tmp 4),3,none⟩,
 ⟨some 14,.binOp .add 3 (.tmp 13) (.const (.int .i64 1)) 3,3,none⟩,
 ⟨some 4,.assign (.tmp 14),3,none⟩] [0,3,4])
def c71S1(_:Unit):Cmd:=(.seq (.block 1 (.ops [
 ⟨some 15,.move (.tmp 3),9,none⟩,
 ⟨some 16,.move (.tmp 0),25,none⟩,
 ⟨some 17,.move (.tmp 4),3,none⟩,
 ⟨some 18,.indexAddr 25 (.tmp 16) (.tmp 17),0,none⟩,
 ⟨some 19,.load 3 (.tmp 18),3,none⟩,
 ⟨some 20,.call ⟨.value (.func 94),#[(.tmp 19)],#[3]⟩,147,none⟩,
 ⟨some 21,.call ⟨.value (.func 93),#[(.tmp 20)],#[147]⟩,9,none⟩,
 ⟨some 22,.binOp .add 9 (.tmp 15) (.tmp 21) 9,9,none⟩,
 ⟨some 3,.assign (.tmp 22),9,none⟩] [0,3,4])) (sg c71S0))
def c71L0(_:Unit):Cmd:=(.seq (.seq (.ops [
 ⟨some 9,.move (.tmp 4),3,none⟩,
 ⟨some 10,.move (.tmp 0),25,none⟩,
 ⟨some 11,.call ⟨.builtin .len,#[(.tmp 10)],#[25]⟩,3,none⟩,
 ⟨some 12,.binOp .lss 3 (.tmp 9) (.tmp 11) 3,4,none⟩] [0,3,4,12])
 (.cond (.tmp 12)
 (.skip [0,3,4])
 (.exit 0 [3]))) (sg c71S1))
def c71S2(_:Unit):Cmd:=(.seq (.ops [
 ⟨some 23,.move (.tmp 3),9,none⟩,
 ⟨some 2,.assign (.tmp 23),9,none⟩] [2])
 .ret)
def c71S3(_:Unit):Cmd:=(.seq (.seq (.ops [
 ⟨some 4,.assign (.const (.int .i64 0)),3,none⟩] [0,3,4])
 (.block 0 (.loop (sg c71L0)))) (sg c71S2))
def c71:Cmd:=(.seq (.ops [
 ⟨some 2,.assign (.const (.string (ofL []))),9,none⟩] [0])
 (.seq (.ops [
 ⟨some 5,.move (.tmp 0),25,none⟩,
 ⟨some 6,.call ⟨.builtin .len,#[(.tmp 5)],#[25]⟩,3,none⟩,
 ⟨some 7,.convert 3 147 (.tmp 6),147,none⟩,
 ⟨some 8,.call ⟨.value (.func 93),#[(.tmp 7)],#[147]⟩,9,none⟩,
 ⟨some 3,.assign (.tmp 8),9,none⟩] [0,3]) (sg c71S3)))
attribute [go_sem] c71 c71S0 c71S1 c71L0 c71S2 c71S3
theorem ent71(a0:Value)(w:World)(K:Value→World→Prop)(h:W Tryz.prog c71 [(0,a0)] w (finQ Tryz.prog [.tmp 2] K)):Ret Tryz.prog 71 [a0] w K :=
 Ret_of_W (code:=c71code) Tryz.func71 (by kernel_rfl) (by kernel_rfl) (of_decide_eq_true (by kernel_rfl)) h
@[go_sem] theorem go71:goFunc Tryz.prog 71=true:=by kernel_rfl
def c72code:Code:=match Tryz.f72.body with | some c=>c | none=>.skip
def c72S0(_:Unit):Cmd:=(.seq (.ops [
 ⟨some 24,.fieldAddr 150 (.tmp 6) 0,0,none⟩,
 ⟨some 25,.load 25 (.tmp 24),25,none⟩,
 ⟨some 4,.assign (.tmp 25),25,none⟩,
 ⟨some 5,.assign (.const (.bool true)),4,none⟩] [4,5])
 .ret)
def c72S1(_:Unit):Cmd:=(.seq (.seq (.ops [
 ⟨some 10,.fieldAddr 150 (.tmp 6) 2,0,none⟩,
 ⟨some 11,.load 4 (.tmp 10),4,none⟩,
 ⟨some 12,.unOp .not 4 (.tmp 11),4,none⟩,
 ⟨some 13,.move (.tmp 12),4,none⟩,
 ⟨some 14,.fieldAddr 52 (.tmp 3) 7,0,(some (13,false))⟩,
 ⟨some 15,.load 4 (.tmp 14),4,(some (13,false))⟩,
 ⟨some 16,.move (.tmp 15),4,(some (13,false))⟩,
 ⟨some 17,.fieldAddr 150 (.tmp 6) 1,0,(some (16,true))⟩,
 ⟨some 18,.load 3 (.tmp 17),3,(some (16,true))⟩,
 ⟨some 19,.fieldAddr 52 (.tmp 3) 8,0,(some (16,true))⟩,
 ⟨some 20,.load 3 (.tmp 19),3,(some (16,true))⟩,
 ⟨some 21,.binOp .neq 3 (.tmp 18) (.tmp 20) 3,4,(some (16,true))⟩,
 ⟨some 22,.pick (.tmp 16) (.tmp 21) (.const (.bool false)),4,(some (13,false))⟩,
 ⟨some 23,.pick (.tmp 13) (.const (.bool true)) (.tmp 22),4,none⟩] [6,23])
 (.cond (.tmp 23)
 (.seq (.ops [
 ⟨some 4,.assign (.const (.slice none 0 0)),25,none⟩,
 ⟨some 5,.assign (.const (.bool false)),4,none⟩] [4,5])
 .ret)
 (.skip [6]))) (sg c72S0))
def c72:Cmd:=(.seq (.ops [
 ⟨some 3,.box 52 (.tmp 1),0,none⟩,
 ⟨some 4,.assign (.const (.slice none 0 0)),25,none⟩,
 ⟨some 5,.assign (.const (.bool false)),4,none⟩] [0,3])
 (.seq (.ops [
 ⟨some 7,.move (.tmp 0),25,none⟩,
 ⟨some 8,.load 52 (.tmp 3),52,none⟩,
 ⟨some 9,.call ⟨.value (.func 95),#[(.tmp 7),(.tmp 8)],#[25,52]⟩,150,none⟩,
 ⟨some 6,.alloc 150,0,none⟩,
 ⟨none,.store 150 (.tmp 6) (.tmp 9),0,none⟩] [3,6]) (sg c72S1)))
attribute [go_sem] c72 c72S0
theorem ent72(a0 a1:Value)(w:World)(K:Value→World→Prop)(h:W Tryz.prog c72 [(0,a0),(1,a1)] w (finQ Tryz.prog [.tmp 4,.tmp 5] K)):Ret Tryz.prog 72 [a0,a1] w K :=
 Ret_of_W (code:=c72code) Tryz.func72 (by kernel_rfl) (by kernel_rfl) (of_decide_eq_true (by kernel_rfl)) h
@[go_sem] theorem go72:goFunc Tryz.prog 72=true:=by kernel_rfl
def c73code:Code:=match Tryz.f73.body with | some c=>c | none=>.skip
def c73S0(_:Unit):Cmd:=.ret
def c73S1(_:Unit):Cmd:=(.seq (.ops [
 ⟨some 18,.move (.tmp 7),25,none⟩,
 ⟨some 19,.load 52 (.tmp 3),52,none⟩,
 ⟨some 20,.call ⟨.value (.func 96),#[(.tmp 18),(.tmp 19)],#[25,52]⟩,126,none⟩,
 ⟨some 21,.extract (.tmp 20) 0,25,none⟩,
 ⟨some 22,.extract (.tmp 20) 1,3,none⟩,
 ⟨some 23,.extract (.tmp 20) 2,4,none⟩,
 ⟨some 4,.assign (.tmp 21),25,none⟩,
 ⟨some 5,.assign (.tmp 22),3,none⟩,
 ⟨some 6,.assign (.tmp 23),4,none⟩] [4,5,6]) (sg c73S0))
def c73S2(_:Unit):Cmd:=.ret
def c73S3(_:Unit):Cmd:=.ret
def c73S4(_:Unit):Cmd:=(.cond (.tmp 55)
 (.seq (.ops [
 ⟨some 4,.assign (.const (.slice none 0 0)),25,none⟩,
 ⟨some 5,.assign (.const (.int .i64 0)),3,none⟩,
 ⟨some 6,.assign (.const (.bool true)),4,none⟩] [4,5,6])
 .ret)
 (.skip []))
def c73S5(_:Unit):Cmd:=(.cond (.tmp 24)
 (.seq (.ops [
 ⟨some 27,.move (.tmp 7),25,none⟩,
 ⟨some 28,.load 52 (.tmp 3),52,none⟩,
 ⟨some 29,.call ⟨.value (.func 97),#[(.tmp 27),(.tmp 28)],#[25,52]⟩,126,none⟩,
 ⟨some 30,.extract (.tmp 29) 0,25,none⟩,
 ⟨some 31,.extract (.tmp 29) 1,3,none⟩,
 ⟨some 32,.extract (.tmp 29) 2,4,none⟩,
 ⟨some 4,.assign (.tmp 30),25,none⟩,
 ⟨some 5,.assign (.tmp 31),3,none⟩,
 ⟨some 6,.assign (.tmp 32),4,none⟩] [4,5,6]) (sg c73S2))
 (.seq (.ops [
 ⟨some 34,.binOp .eql 3 (.tmp 11) (.const (.int .i64 5)) 3,4,none⟩,
 ⟨some 33,.assign (.tmp 34),4,none⟩] [3,7,11,33])
 (.cond (.tmp 33)
 (.seq (.ops [
 ⟨some 35,.move (.tmp 7),25,none⟩,
 ⟨some 36,.load 52 (.tmp 3),52,none⟩,
 ⟨some 37,.call ⟨.value (.func 98),#[(.tmp 35),(.tmp 36)],#[25,52]⟩,126,none⟩,
 ⟨some 38,.extract (.tmp 37) 0,25,none⟩,
 ⟨some 39,.extract (.tmp 37) 1,3,none⟩,
 ⟨some 40,.extract (.tmp 37) 2,4,none⟩,
 ⟨some 4,.assign (.tmp 38),25,none⟩,
 ⟨some 5,.assign (.tmp 39),3,none⟩,
 ⟨some 6,.assign (.tmp 40),4,none⟩] [4,5,6]) (sg c73S3))
 (.seq (.ops [
 ⟨some 42,.binOp .eql 3 (.tmp 11) (.const (.int .i64 6)) 3,4,none⟩,
 ⟨some 41,.assign (.tmp 42),4,none⟩] [3,7,41])
 (.cond (.tmp 41)
 (.block 1 (.seq (.ops [
 ⟨some 44,.fieldAddr 52 (.tmp 3) 4,0,none⟩,
 ⟨some 45,.load 3 (.tmp 44),3,none⟩,
 ⟨some 46,.binOp .eql 3 (.tmp 45) (.const (.int .i64 13)) 3,4,none⟩,
 ⟨some 47,.move (.tmp 46),4,none⟩,
 ⟨some 48,.move (.tmp 7),25,(some (47,true))⟩,
 ⟨some 49,.call ⟨.builtin .len,#[(.tmp 48)],#[25]⟩,3,(some (47,true))⟩,
 ⟨some 50,.binOp .eql 3 (.tmp 49) (.const (.int .i64 0)) 3,4,(some (47,true))⟩,
 ⟨some 51,.pick (.tmp 47) (.tmp 50) (.const (.bool false)),4,none⟩,
 ⟨some 43,.assign (.tmp 51),4,none⟩] [3,7,43])
 (.cond (.tmp 43)
 (.seq (.ops [
 ⟨some 52,.fieldAddr 52 (.tmp 3) 1,0,none⟩,
 ⟨some 53,.load 3 (.tmp 52),3,none⟩,
 ⟨some 54,.buildSlice 25 1 #[(0,(.tmp 53))],25,none⟩,
 ⟨some 4,.assign (.tmp 54),25,none⟩,
 ⟨some 5,.assign (.const (.int .i64 0)),3,none⟩,
 ⟨some 6,.assign (.const (.bool true)),4,none⟩] [4,5,6])
 .ret)
 (.seq (.draw (drawOps 0 c73code) [55]) (sg c73S4)))))
 (.skip []))))))
def c73S6(_:Unit):Cmd:=(.cond (.tmp 12)
 (.seq (.seq (.ops [
 ⟨some 15,.move (.tmp 7),25,none⟩,
 ⟨some 16,.call ⟨.builtin .len,#[(.tmp 15)],#[25]⟩,3,none⟩,
 ⟨some 17,.binOp .neq 3 (.tmp 16) (.const (.int .i64 1)) 3,4,none⟩] [3,7,17])
 (.cond (.tmp 17)
 (.seq (.ops [
 ⟨some 4,.assign (.const (.slice none 0 0)),25,none⟩,
 ⟨some 5,.assign (.const (.int .i64 0)),3,none⟩,
 ⟨some 6,.assign (.const (.bool false)),4,none⟩] [4,5,6])
 .ret)
 (.skip [3,7]))) (sg c73S1))
 (.seq (.seq (.ops [
 ⟨some 25,.binOp .eql 3 (.tmp 11) (.const (.int .i64 3)) 3,4,none⟩,
 ⟨some 24,.assign (.tmp 25),4,none⟩] [3,7,11,24])
 (.cond (.tmp 24)
 (.skip [3,7,11,24])
 (.ops [
 ⟨some 26,.binOp .eql 3 (.tmp 11) (.const (.int .i64 4)) 3,4,none⟩,
 ⟨some 24,.assign (.tmp 26),4,none⟩] [3,7,11,24]))) (sg c73S5)))
def c73S7(_:Unit):Cmd:=(.seq (.ops [
 ⟨some 4,.assign (.const (.slice none 0 0)),25,none⟩,
 ⟨some 5,.assign (.const (.int .i64 0)),3,none⟩,
 ⟨some 6,.assign (.const (.bool false)),4,none⟩] [4,5,6])
 .ret)
def c73S8(_:Unit):Cmd:=(.seq (.seq (.ops [
 ⟨some 10,.fieldAddr 52 (.tmp 3) 3,0,none⟩,
 ⟨some 11,.load 3 (.tmp 10),3,none⟩] [3,7,11])
 (.block 0 (.seq (.seq (.ops [
 ⟨some 13,.binOp .eql 3 (.tmp 11) (.const (.int .i64 1)) 3,4,none⟩,
 ⟨some 12,.assign (.tmp 13),4,none⟩] [3,7,11,12])
 (.cond (.tmp 12)
 (.skip [3,7,11,12])
 (.ops [
 ⟨some 14,.binOp .eql 3 (.tmp 11) (.const (.int .i64 2)) 3,4,none⟩,
 ⟨some 12,.assign (.tmp 14),4,none⟩] [3,7,11,12]))) (sg c73S6)))) (sg c73S7))
def c73:Cmd:=(.seq (.ops [
 ⟨some 3,.box 52 (.tmp 1),0,none⟩,
 ⟨some 4,.assign (.const (.slice none 0 0)),25,none⟩,
 ⟨some 5,.assign (.const (.int .i64 0)),3,none⟩,
 ⟨some 6,.assign (.const (.bool false)),4,none⟩] [0,3])
 (.seq (.ops [
 ⟨some 8,.move (.tmp 0),25,none⟩,
 ⟨some 9,.call ⟨.value (.func 88),#[(.tmp 8)],#[25]⟩,25,none⟩,
 ⟨some 7,.assign (.tmp 9),25,none⟩] [3,7]) (sg c73S8)))
attribute [go_sem] c73 c73S0 c73S1 c73S2 c73S3 c73S4 c73S5 c73S6 c73S7
def c73D0:List (Bool × Ins):=[
 (true,⟨some 56,.fieldAddr 52 (.tmp 3) 4,0,none⟩),
 (false,⟨some 57,.load 3 (.tmp 56),3,none⟩),
 (true,⟨some 58,.binOp .eql 3 (.tmp 57) (.const (.int .i64 14)) 3,4,none⟩),
 (true,⟨some 59,.move (.tmp 58),4,none⟩),
 (true,⟨some 60,.move (.tmp 7),25,(some (59,true))⟩),
 (true,⟨some 61,.call ⟨.builtin .len,#[(.tmp 60)],#[25]⟩,3,(some (59,true))⟩),
 (true,⟨some 62,.binOp .eql 3 (.tmp 61) (.const (.int .i64 1)) 3,4,(some (59,true))⟩),
 (true,⟨some 63,.pick (.tmp 59) (.tmp 62) (.const (.bool false)),4,none⟩),
 (true,⟨some 64,.move (.tmp 63),4,none⟩),
 (true,⟨some 65,.move (.tmp 7),25,(some (64,true))⟩),
 (true,⟨some 66,.indexAddr 25 (.tmp 65) (.const (.int .i64 0)),0,(some (64,true))⟩),
 (false,⟨some 67,.load 3 (.tmp 66),3,(some (64,true))⟩),
 (true,⟨some 68,.fieldAddr 52 (.tmp 3) 1,0,(some (64,true))⟩),
 (false,⟨some 69,.load 3 (.tmp 68),3,(some (64,true))⟩),
 (true,⟨some 70,.binOp .eql 3 (.tmp 67) (.tmp 69) 3,4,(some (64,true))⟩),
 (true,⟨some 71,.pick (.tmp 64) (.tmp 70) (.const (.bool false)),4,none⟩),
 (true,⟨some 55,.assign (.tmp 71),4,none⟩)]
theorem c73draw0{L:List Nat}{ρ:Env}{w:World}{Q:Post}(h:DL Tryz.prog c73D0 L ρ w.drew Q):drawW Tryz.prog (drawOps 0 c73code) L ρ w Q :=
 drawW_still [true,false,true,true,true,true,true,true,true,true,true,false,true,false,true,true,true] c73D0 (by kernel_rfl) (by kernel_rfl) (by kernel_rfl) h
theorem ent73(a0 a1:Value)(w:World)(K:Value→World→Prop)(h:W Tryz.prog c73 [(0,a0),(1,a1)] w (finQ Tryz.prog [.tmp 4,.tmp 5,.tmp 6] K)):Ret Tryz.prog 73 [a0,a1] w K :=
 Ret_of_W (code:=c73code) Tryz.func73 (by kernel_rfl) (by kernel_rfl) (of_decide_eq_true (by kernel_rfl)) h
@[go_sem] theorem go73:goFunc Tryz.prog 73=true:=by kernel_rfl
@[go_sem] theorem go74:goFunc Tryz.prog 74=true:=by kernel_rfl
@[go_sem] theorem go75:goFunc Tryz.prog 75=true:=by kernel_rfl
@[go_sem] theorem go76:goFunc Tryz.prog 76=true:=by kernel_rfl
def c77code:Code:=match Tryz.f77.body with | some c=>c | none=>.skip
def c77S0(_:Unit):Cmd:=.ret
def c77:Cmd:=(.seq (.ops [
 ⟨some 2,.assign (.const (.slice none 0 0)),25,none⟩] [0])
 (.seq (.ops [
 ⟨some 3,.move (.tmp 0),94,none⟩,
 ⟨some 4,.call ⟨.value (.func 100),#[(.const (.slice none 0 0)),(.tmp 3)],#[25,94]⟩,25,none⟩,
 ⟨some 2,.assign (.tmp 4),25,none⟩] [2]) (sg c77S0)))
attribute [go_sem] c77 c77S0
theorem ent77(a0:Value)(w:World)(K:Value→World→Prop)(h:W Tryz.prog c77 [(0,a0)] w (finQ Tryz.prog [.tmp 2] K)):Ret Tryz.prog 77 [a0] w K :=
 Ret_of_W (code:=c77code) Tryz.func77 (by kernel_rfl) (by kernel_rfl) (of_decide_eq_true (by kernel_rfl)) h
@[go_sem] theorem go77:goFunc Tryz.prog 77=true:=by kernel_rfl
def c79code:Code:=match Tryz.f79.body with | some c=>c | none=>.skip
def c79S0(_:Unit):Cmd:=(.cond (.tmp 13)
 .ret
 (.skip [0,5]))
def c79S1(_:Unit):Cmd:=(.block 1 (.seq (.ops [
 ⟨some 8,.entry (.tmp 5),0,none⟩,
 ⟨some 9,.extract (.tmp 8) 0,3,none⟩,
 ⟨some 3,.assign (.tmp 9),3,none⟩] [0,3,5])
 (.seq (.ops [
 ⟨some 10,.move (.tmp 0),132,none⟩,
 ⟨some 11,.move (.tmp 3),3,none⟩,
 ⟨some 12,.call ⟨.value (.tmp 10),#[(.tmp 11)],#[3]⟩,4,none⟩,
 ⟨some 13,.unOp .not 4 (.tmp 12),4,none⟩] [0,5,13]) (sg c79S0))))
def c79L0(_:Unit):Cmd:=(.seq (.ops [
 ⟨some 6,.next (.tmp 5) false,0,none⟩,
 ⟨some 7,.extract (.tmp 6) 0,4,none⟩] [0,5,7])
 (.seq (.cond (.tmp 7)
 (.skip [0,5])
 (.exit 0 [])) (sg c79S1)))
def c79:Cmd:=(.seq (.ops [
 ⟨some 4,.load 91 (.tmp 1),91,none⟩,
 ⟨some 5,.range 91 (.tmp 4),0,none⟩] [0,5])
 (.block 0 (.loop (sg c79L0))))
attribute [go_sem] c79 c79S0 c79S1
theorem ent79(a0 a1:Value)(w:World)(K:Value→World→Prop)(h:W Tryz.prog c79 [(0,a0),(1,a1)] w (finQ Tryz.prog [] K)):Ret Tryz.prog 79 [a0,a1] w K :=
 Ret_of_W (code:=c79code) Tryz.func79 (by kernel_rfl) (by kernel_rfl) (of_decide_eq_true (by kernel_rfl)) h
@[go_sem] theorem go79:goFunc Tryz.prog 79=true:=by kernel_rfl
def c82code:Code:=match Tryz.f82.body with | some c=>c | none=>.skip
def c82:Cmd:=(.seq (.ops [
 ⟨some 2,.assign (.const (.bool false)),4,none⟩] [0])
 (.seq (.ops [
 ⟨some 3,.move (.tmp 0),3,none⟩,
 ⟨some 4,.move (.tmp 0),3,none⟩,
 ⟨some 5,.binOp .neq 3 (.tmp 3) (.tmp 4) 3,4,none⟩,
 ⟨some 2,.assign (.tmp 5),4,none⟩] [2])
 .ret))
attribute [go_sem] c82
theorem ent82(a0:Value)(w:World)(K:Value→World→Prop)(h:W Tryz.prog c82 [(0,a0)] w (finQ Tryz.prog [.tmp 2] K)):Ret Tryz.prog 82 [a0] w K :=
 Ret_of_W (code:=c82code) Tryz.func82 (by kernel_rfl) (by kernel_rfl) (of_decide_eq_true (by kernel_rfl)) h
@[go_sem] theorem go82:goFunc Tryz.prog 82=true:=by kernel_rfl
def c83code:Code:=match Tryz.f83.body with | some c=>c | none=>.skip
def c83:Cmd:=(.seq (.ops [
 ⟨some 2,.assign (.const (.bool false)),4,none⟩] [0])
 (.seq (.ops [
 ⟨some 3,.move (.tmp 0),3,none⟩,
 ⟨some 4,.binOp .geq 3 (.tmp 3) (.const (.int .i64 0)) 3,4,none⟩,
 ⟨some 5,.move (.tmp 4),4,none⟩,
 ⟨some 6,.move (.tmp 0),3,(some (5,true))⟩,
 ⟨some 7,.binOp .leq 3 (.tmp 6) (.const (.int .i64 1073741824)) 3,4,(some (5,true))⟩,
 ⟨some 8,.pick (.tmp 5) (.tmp 7) (.const (.bool false)),4,none⟩,
 ⟨some 2,.assign (.tmp 8),4,none⟩] [2])
 .ret))
attribute [go_sem] c83
theorem ent83(a0:Value)(w:World)(K:Value→World→Prop)(h:W Tryz.prog c83 [(0,a0)] w (finQ Tryz.prog [.tmp 2] K)):Ret Tryz.prog 83 [a0] w K :=
 Ret_of_W (code:=c83code) Tryz.func83 (by kernel_rfl) (by kernel_rfl) (of_decide_eq_true (by kernel_rfl)) h
@[go_sem] theorem go83:goFunc Tryz.prog 83=true:=by kernel_rfl
def c84code:Code:=match Tryz.f84.body with | some c=>c | none=>.skip
def c84S0(_:Unit):Cmd:=(.cond (.tmp 18)
 .ret
 (.skip [0,1,3]))
def c84S1(_:Unit):Cmd:=(.ops [
 ⟨some 9,.move (.tmp 3),3,none⟩,
 ⟨some 10,.binOp .sub 3 (.tmp 9) (.const (.int .i64 1)) 3,3,none⟩,
 ⟨some 3,.assign (.tmp 10),3,none⟩] [0,1,3])
def c84S2(_:Unit):Cmd:=(.seq (.block 1 (.seq (.ops [
 ⟨some 11,.move (.tmp 0),136,none⟩,
 ⟨some 12,.move (.tmp 3),3,none⟩,
 ⟨some 13,.load 22 (.tmp 1),22,none⟩,
 ⟨some 14,.move (.tmp 3),3,none⟩,
 ⟨some 15,.indexAddr 22 (.tmp 13) (.tmp 14),0,none⟩,
 ⟨some 16,.load 52 (.tmp 15),52,none⟩,
 ⟨some 17,.call ⟨.value (.tmp 11),#[(.tmp 12),(.tmp 16)],#[3,52]⟩,4,none⟩,
 ⟨some 18,.unOp .not 4 (.tmp 17),4,none⟩] [0,1,3,18]) (sg c84S0))) (sg c84S1))
def c84L0(_:Unit):Cmd:=(.seq (.seq (.ops [
 ⟨some 7,.move (.tmp 3),3,none⟩,
 ⟨some 8,.binOp .geq 3 (.tmp 7) (.const (.int .i64 0)) 3,4,none⟩] [0,1,3,8])
 (.cond (.tmp 8)
 (.skip [0,1,3])
 (.exit 0 []))) (sg c84S2))
def c84:Cmd:=(.seq (.ops [
 ⟨some 4,.load 22 (.tmp 1),22,none⟩,
 ⟨some 5,.call ⟨.builtin .len,#[(.tmp 4)],#[22]⟩,3,none⟩,
 ⟨some 6,.binOp .sub 3 (.tmp 5) (.const (.int .i64 1)) 3,3,none⟩,
 ⟨some 3,.assign (.tmp 6),3,none⟩] [0,1,3])
 (.block 0 (.loop (sg c84L0))))
attribute [go_sem] c84 c84S0 c84S1 c84S2 c84L0
theorem ent84(a0 a1:Value)(w:World)(K:Value→World→Prop)(h:W Tryz.prog c84 [(0,a0),(1,a1)] w (finQ Tryz.prog [] K)):Ret Tryz.prog 84 [a0,a1] w K :=
 Ret_of_W (code:=c84code) Tryz.func84 (by kernel_rfl) (by kernel_rfl) (of_decide_eq_true (by kernel_rfl)) h
@[go_sem] theorem go84:goFunc Tryz.prog 84=true:=by kernel_rfl
def c85code:Code:=match Tryz.f85.body with | some c=>c | none=>.skip
def c85S0(_:Unit):Cmd:=(.cond (.tmp 13)
 .ret
 (.skip [0,5]))
def c85S1(_:Unit):Cmd:=(.block 1 (.seq (.ops [
 ⟨some 8,.entry (.tmp 5),0,none⟩,
 ⟨some 9,.extract (.tmp 8) 0,3,none⟩,
 ⟨some 3,.assign (.tmp 9),3,none⟩] [0,3,5])
 (.seq (.ops [
 ⟨some 10,.move (.tmp 0),132,none⟩,
 ⟨some 11,.move (.tmp 3),3,none⟩,
 ⟨some 12,.call ⟨.value (.tmp 10),#[(.tmp 11)],#[3]⟩,4,none⟩,
 ⟨some 13,.unOp .not 4 (.tmp 12),4,none⟩] [0,5,13]) (sg c85S0))))
def c85L0(_:Unit):Cmd:=(.seq (.ops [
 ⟨some 6,.next (.tmp 5) false,0,none⟩,
 ⟨some 7,.extract (.tmp 6) 0,4,none⟩] [0,5,7])
 (.seq (.cond (.tmp 7)
 (.skip [0,5])
 (.exit 0 [])) (sg c85S1)))
def c85:Cmd:=(.seq (.ops [
 ⟨some 4,.load 56 (.tmp 1),56,none⟩,
 ⟨some 5,.range 56 (.tmp 4),0,none⟩] [0,5])
 (.block 0 (.loop (sg c85L0))))
attribute [go_sem] c85 c85S0 c85S1
theorem ent85(a0 a1:Value)(w:World)(K:Value→World→Prop)(h:W Tryz.prog c85 [(0,a0),(1,a1)] w (finQ Tryz.prog [] K)):Ret Tryz.prog 85 [a0,a1] w K :=
 Ret_of_W (code:=c85code) Tryz.func85 (by kernel_rfl) (by kernel_rfl) (of_decide_eq_true (by kernel_rfl)) h
@[go_sem] theorem go85:goFunc Tryz.prog 85=true:=by kernel_rfl
def c86code:Code:=match Tryz.f86.body with | some c=>c | none=>.skip
def c86S0(_:Unit):Cmd:=(.ops [
 ⟨some 25,.binOp .add 3 (.tmp 16) (.const (.int .i64 1)) 3,3,none⟩,
 ⟨some 16,.move (.tmp 25),3,none⟩] [1,5,14,15,16])
def c86S1(_:Unit):Cmd:=(.seq (.block 1 (.seq (.ops [
 ⟨some 18,.indexAddr 25 (.tmp 14) (.tmp 16),0,none⟩,
 ⟨some 19,.load 3 (.tmp 18),3,none⟩,
 ⟨some 7,.assign (.tmp 19),3,none⟩] [1,5,7,14,15,16])
 (.ops [
 ⟨some 20,.move (.tmp 5),120,none⟩,
 ⟨some 21,.move (.tmp 7),3,none⟩,
 ⟨some 22,.convert 3 5 (.tmp 21),5,none⟩,
 ⟨some 23,.buildSlice 120 1 #[(0,(.tmp 22))],120,none⟩,
 ⟨some 24,.call ⟨.builtin .append,#[(.tmp 20),(.tmp 23)],#[120,120]⟩,120,none⟩,
 ⟨some 5,.assign (.tmp 24),120,none⟩] [1,5,14,15,16]))) (sg c86S0))
def c86L0(_:Unit):Cmd:=(.seq (.ops [
 ⟨some 17,.binOp .lss 3 (.tmp 16) (.tmp 15) 3,0,none⟩] [1,5,14,15,16,17])
 (.seq (.cond (.tmp 17)
 (.skip [1,5,14,15,16])
 (.exit 0 [1,5])) (sg c86S1)))
def c86S2(_:Unit):Cmd:=(.ops [
 ⟨some 38,.binOp .add 3 (.tmp 30) (.const (.int .i64 1)) 3,3,none⟩,
 ⟨some 30,.move (.tmp 38),3,none⟩] [8,28,29,30])
def c86S3(_:Unit):Cmd:=(.seq (.block 3 (.seq (.ops [
 ⟨some 32,.indexAddr 61 (.tmp 28) (.tmp 30),0,none⟩,
 ⟨some 33,.load 25 (.tmp 32),25,none⟩,
 ⟨some 10,.assign (.tmp 33),25,none⟩] [8,10,28,29,30])
 (.ops [
 ⟨some 34,.move (.tmp 8),9,none⟩,
 ⟨some 35,.move (.tmp 10),25,none⟩,
 ⟨some 36,.call ⟨.value (.func 112),#[(.tmp 35)],#[25]⟩,9,none⟩,
 ⟨some 37,.binOp .add 9 (.tmp 34) (.tmp 36) 9,9,none⟩,
 ⟨some 8,.assign (.tmp 37),9,none⟩] [8,28,29,30]))) (sg c86S2))
def c86L1(_:Unit):Cmd:=(.seq (.ops [
 ⟨some 31,.binOp .lss 3 (.tmp 30) (.tmp 29) 3,0,none⟩] [8,28,29,30,31])
 (.seq (.cond (.tmp 31)
 (.skip [8,28,29,30])
 (.exit 2 [8])) (sg c86S3)))
def c86S4(_:Unit):Cmd:=(.seq (.ops [
 ⟨some 39,.move (.tmp 8),9,none⟩,
 ⟨some 4,.assign (.tmp 39),9,none⟩] [4])
 .ret)
def c86S5(_:Unit):Cmd:=(.seq (.ops [
 ⟨some 26,.move (.tmp 5),120,none⟩,
 ⟨some 27,.convert 120 9 (.tmp 26),9,none⟩,
 ⟨some 8,.assign (.tmp 27),9,none⟩] [1,8])
 (.seq (.seq (.ops [
 ⟨some 28,.move (.tmp 1),61,none⟩,
 ⟨some 29,.call ⟨.builtin .len,#[(.tmp 28)],#[61]⟩,3,none⟩,
 ⟨some 30,.move (.const (.int .i64 0)),3,none⟩] [8,28,29,30])
 (.block 2 (.loop (sg c86L1)))) (sg c86S4)))
def c86:Cmd:=(.seq (.ops [
 ⟨some 4,.assign (.const (.string (ofL []))),9,none⟩] [0,1])
 (.seq (.ops [
 ⟨some 11,.move (.tmp 0),25,none⟩,
 ⟨some 12,.call ⟨.builtin .len,#[(.tmp 11)],#[25]⟩,3,none⟩,
 ⟨some 13,.makeSlice 120 (.const (.int .i64 0)) (.tmp 12),120,none⟩,
 ⟨some 5,.assign (.tmp 13),120,none⟩] [0,1,5])
 (.seq (.seq (.ops [
 ⟨some 14,.move (.tmp 0),25,none⟩,
 ⟨some 15,.call ⟨.builtin .len,#[(.tmp 14)],#[25]⟩,3,none⟩,
 ⟨some 16,.move (.const (.int .i64 0)),3,none⟩] [1,5,14,15,16])
 (.block 0 (.loop (sg c86L0)))) (sg c86S5))))
attribute [go_sem] c86 c86S0 c86S1 c86L0 c86S2 c86S3
theorem ent86(a0 a1:Value)(w:World)(K:Value→World→Prop)(h:W Tryz.prog c86 [(0,a0),(1,a1)] w (finQ Tryz.prog [.tmp 4] K)):Ret Tryz.prog 86 [a0,a1] w K :=
 Ret_of_W (code:=c86code) Tryz.func86 (by kernel_rfl) (by kernel_rfl) (of_decide_eq_true (by kernel_rfl)) h
@[go_sem] theorem go86:goFunc Tryz.prog 86=true:=by kernel_rfl
def c87code:Code:=match Tryz.f87.body with | some c=>c | none=>.skip
def c87S0(_:Unit):Cmd:=(.ops [
 ⟨some 32,.binOp .add 3 (.tmp 26) (.const (.int .i64 1)) 3,3,none⟩,
 ⟨some 26,.move (.tmp 32),3,none⟩] [1,12,13,14,24,25,26])
def c87S1(_:Unit):Cmd:=(.seq (.block 3 (.seq (.ops [
 ⟨some 28,.indexAddr 22 (.tmp 24) (.tmp 26),0,none⟩,
 ⟨some 29,.load 52 (.tmp 28),52,none⟩,
 ⟨some 8,.alloc 52,0,none⟩,
 ⟨none,.store 52 (.tmp 8) (.tmp 29),0,none⟩] [1,8,12,13,14,24,25,26])
 (.seq (.ops [
 ⟨some 30,.fieldAddr 52 (.tmp 8) 7,0,none⟩,
 ⟨some 31,.load 4 (.tmp 30),4,none⟩] [1,12,13,14,24,25,26,31])
 (.cond (.tmp 31)
 (.seq (.ops [
 ⟨some 4,.assign (.const (.bool false)),4,none⟩] [4])
 .ret)
 (.skip [1,12,13,14,24,25,26]))))) (sg c87S0))
def c87L0(_:Unit):Cmd:=(.seq (.ops [
 ⟨some 27,.binOp .lss 3 (.tmp 26) (.tmp 25) 3,0,none⟩] [1,12,13,14,24,25,26,27])
 (.seq (.cond (.tmp 27)
 (.skip [1,12,13,14,24,25,26])
 (.exit 2 [1,12,13,14])) (sg c87S1)))
def c87S2(_:Unit):Cmd:=(.ops [
 ⟨some 33,.binOp .add 3 (.tmp 14) (.const (.int .i64 1)) 3,3,none⟩,
 ⟨some 14,.move (.tmp 33),3,none⟩] [1,12,13,14])
def c87S3(_:Unit):Cmd:=(.seq (.block 1 (.seq (.ops [
 ⟨some 16,.move (.tmp 14),3,none⟩,
 ⟨some 17,.indexAddr 31 (.tmp 12) (.tmp 14),0,none⟩,
 ⟨some 18,.load 22 (.tmp 17),22,none⟩,
 ⟨some 5,.assign (.tmp 16),3,none⟩,
 ⟨some 6,.assign (.tmp 18),22,none⟩] [1,5,6,12,13,14])
 (.seq (.ops [
 ⟨some 19,.move (.tmp 6),22,none⟩,
 ⟨some 20,.move (.tmp 1),25,none⟩,
 ⟨some 21,.move (.tmp 5),3,none⟩,
 ⟨some 22,.indexAddr 25 (.tmp 20) (.tmp 21),0,none⟩,
 ⟨some 23,.load 3 (.tmp 22),3,none⟩,
 ⟨some 24,.slice 22 (.tmp 19) (some (.tmp 23)) none none,22,none⟩,
 ⟨some 25,.call ⟨.builtin .len,#[(.tmp 24)],#[22]⟩,3,none⟩,
 ⟨some 26,.move (.const (.int .i64 0)),3,none⟩] [1,12,13,14,24,25,26])
 (.block 2 (.loop (sg c87L0)))))) (sg c87S2))
def c87L1(_:Unit):Cmd:=(.seq (.ops [
 ⟨some 15,.binOp .lss 3 (.tmp 14) (.tmp 13) 3,0,none⟩] [1,12,13,14,15])
 (.seq (.cond (.tmp 15)
 (.skip [1,12,13,14])
 (.exit 0 [])) (sg c87S3)))
def c87S4(_:Unit):Cmd:=(.seq (.ops [
 ⟨some 4,.assign (.const (.bool true)),4,none⟩] [4])
 .ret)
def c87:Cmd:=(.seq (.ops [
 ⟨some 4,.assign (.const (.bool false)),4,none⟩] [0,1])
 (.seq (.seq (.ops [
 ⟨some 9,.move (.tmp 0),54,none⟩,
 ⟨some 10,.nilCheck (.tmp 9),0,none⟩,
 ⟨some 11,.fieldAddr 60 (.tmp 10) 0,0,none⟩,
 ⟨some 12,.load 31 (.tmp 11),31,none⟩,
 ⟨some 13,.call ⟨.builtin .len,#[(.tmp 12)],#[31]⟩,3,none⟩,
 ⟨some 14,.move (.const (.int .i64 0)),3,none⟩] [1,12,13,14])
 (.block 0 (.loop (sg c87L1)))) (sg c87S4)))
attribute [go_sem] c87 c87S0 c87S1 c87S2 c87S3
theorem ent87(a0 a1:Value)(w:World)(K:Value→World→Prop)(h:W Tryz.prog c87 [(0,a0),(1,a1)] w (finQ Tryz.prog [.tmp 4] K)):Ret Tryz.prog 87 [a0,a1] w K :=
 Ret_of_W (code:=c87code) Tryz.func87 (by kernel_rfl) (by kernel_rfl) (of_decide_eq_true (by kernel_rfl)) h
@[go_sem] theorem go87:goFunc Tryz.prog 87=true:=by kernel_rfl
def c88code:Code:=match Tryz.f88.body with | some c=>c | none=>.skip
def c88S0(_:Unit):Cmd:=.ret
def c88S1(_:Unit):Cmd:=(.seq (.ops [
 ⟨some 5,.buildSlice 25 0 #[],25,none⟩,
 ⟨some 6,.move (.tmp 0),25,none⟩,
 ⟨some 7,.call ⟨.builtin .append,#[(.tmp 5),(.tmp 6)],#[25,25]⟩,25,none⟩,
 ⟨some 2,.assign (.tmp 7),25,none⟩] [2]) (sg c88S0))
def c88:Cmd:=(.seq (.ops [
 ⟨some 2,.assign (.const (.slice none 0 0)),25,none⟩] [0])
 (.seq (.seq (.ops [
 ⟨some 3,.move (.tmp 0),25,none⟩,
 ⟨some 4,.binOp .eql 25 (.tmp 3) (.const (.slice none 0 0)) 25,4,none⟩] [0,4])
 (.cond (.tmp 4)
 (.seq (.ops [
 ⟨some 2,.assign (.const (.slice none 0 0)),25,none⟩] [2])
 .ret)
 (.skip [0]))) (sg c88S1)))
attribute [go_sem] c88 c88S0 c88S1
theorem ent88(a0:Value)(w:World)(K:Value→World→Prop)(h:W Tryz.prog c88 [(0,a0)] w (finQ Tryz.prog [.tmp 2] K)):Ret Tryz.prog 88 [a0] w K :=
 Ret_of_W (code:=c88code) Tryz.func88 (by kernel_rfl) (by kernel_rfl) (of_decide_eq_true (by kernel_rfl)) h
@[go_sem] theorem go88:goFunc Tryz.prog 88=true:=by kernel_rfl
def c89code:Code:=match Tryz.f89.body with | some c=>c | none=>.skip
def c89S0(_:Unit):Cmd:=.ret
def c89S1(_:Unit):Cmd:=(.seq (.ops [
 ⟨some 5,.buildSlice 61 0 #[],61,none⟩,
 ⟨some 6,.move (.tmp 0),61,none⟩,
 ⟨some 7,.call ⟨.builtin .append,#[(.tmp 5),(.tmp 6)],#[61,61]⟩,61,none⟩,
 ⟨some 2,.assign (.tmp 7),61,none⟩] [2]) (sg c89S0))
def c89:Cmd:=(.seq (.ops [
 ⟨some 2,.assign (.const (.slice none 0 0)),61,none⟩] [0])
 (.seq (.seq (.ops [
 ⟨some 3,.move (.tmp 0),61,none⟩,
 ⟨some 4,.binOp .eql 61 (.tmp 3) (.const (.slice none 0 0)) 61,4,none⟩] [0,4])
 (.cond (.tmp 4)
 (.seq (.ops [
 ⟨some 2,.assign (.const (.slice none 0 0)),61,none⟩] [2])
 .ret)
 (.skip [0]))) (sg c89S1)))
attribute [go_sem] c89 c89S0 c89S1
theorem ent89(a0:Value)(w:World)(K:Value→World→Prop)(h:W Tryz.prog c89 [(0,a0)] w (finQ Tryz.prog [.tmp 2] K)):Ret Tryz.prog 89 [a0] w K :=
 Ret_of_W (code:=c89code) Tryz.func89 (by kernel_rfl) (by kernel_rfl) (of_decide_eq_true (by kernel_rfl)) h
@[go_sem] theorem go89:goFunc Tryz.prog 89=true:=by kernel_rfl
def c90code:Code:=match Tryz.f90.body with | some c=>c | none=>.skip
def c90S0(_:Unit):Cmd:=(.seq (.ops [
 ⟨some 19,.move (.tmp 8),3,none⟩,
 ⟨some 7,.assign (.tmp 19),3,none⟩] [0,1,2,6,7,8])
 (.ops [
 ⟨some 20,.move (.tmp 8),3,none⟩,
 ⟨some 21,.move (.tmp 6),3,none⟩,
 ⟨some 22,.binOp .add 3 (.tmp 20) (.tmp 21) 3,3,none⟩,
 ⟨some 8,.assign (.tmp 22),3,none⟩] [0,1,2,6,7,8]))
def c90S1(_:Unit):Cmd:=(.block 1 (.seq (.ops [
 ⟨some 14,.move (.tmp 0),57,none⟩,
 ⟨some 15,.move (.tmp 7),3,none⟩,
 ⟨some 16,.move (.tmp 8),3,none⟩,
 ⟨some 17,.move (.tmp 2),110,none⟩,
 ⟨some 18,.call ⟨.value (.func 113),#[(.tmp 14),(.tmp 15),(.tmp 16),(.tmp 17)],#[57,3,3,110]⟩,0,none⟩] [0,1,2,6,8]) (sg c90S0)))
def c90L0(_:Unit):Cmd:=(.seq (.seq (.ops [
 ⟨some 11,.move (.tmp 8),3,none⟩,
 ⟨some 12,.move (.tmp 1),3,none⟩,
 ⟨some 13,.binOp .leq 3 (.tmp 11) (.tmp 12) 3,4,none⟩] [0,1,2,6,7,8,13])
 (.cond (.tmp 13)
 (.skip [0,1,2,6,7,8])
 (.exit 0 [0,1,2,6,7]))) (sg c90S1))
def c90S2(_:Unit):Cmd:=(.seq (.ops [
 ⟨some 44,.move (.tmp 8),3,none⟩,
 ⟨some 7,.assign (.tmp 44),3,none⟩] [0,1,2,6,7,8])
 (.ops [
 ⟨some 45,.move (.tmp 8),3,none⟩,
 ⟨some 46,.move (.tmp 6),3,none⟩,
 ⟨some 47,.binOp .mul 3 (.const (.int .i64 2)) (.tmp 46) 3,3,none⟩,
 ⟨some 48,.binOp .add 3 (.tmp 45) (.tmp 47) 3,3,none⟩,
 ⟨some 8,.assign (.tmp 48),3,none⟩] [0,1,2,6,7,8]))
def c90S3(_:Unit):Cmd:=(.block 5 (.seq (.ops [
 ⟨some 36,.move (.tmp 0),57,none⟩,
 ⟨some 37,.move (.tmp 7),3,none⟩,
 ⟨some 38,.move (.tmp 7),3,none⟩,
 ⟨some 39,.move (.tmp 6),3,none⟩,
 ⟨some 40,.binOp .add 3 (.tmp 38) (.tmp 39) 3,3,none⟩,
 ⟨some 41,.move (.tmp 8),3,none⟩,
 ⟨some 42,.move (.tmp 2),110,none⟩,
 ⟨some 43,.call ⟨.value (.func 114),#[(.tmp 36),(.tmp 37),(.tmp 40),(.tmp 41),(.tmp 42)],#[57,3,3,3,110]⟩,0,none⟩] [0,1,2,6,8]) (sg c90S2)))
def c90L1(_:Unit):Cmd:=(.seq (.seq (.ops [
 ⟨some 33,.move (.tmp 8),3,none⟩,
 ⟨some 34,.move (.tmp 1),3,none⟩,
 ⟨some 35,.binOp .leq 3 (.tmp 33) (.tmp 34) 3,4,none⟩] [0,1,2,6,7,8,35])
 (.cond (.tmp 35)
 (.skip [0,1,2,6,7,8])
 (.exit 4 [0,1,2,6,7]))) (sg c90S3))
def c90S4(_:Unit):Cmd:=(.ops [
 ⟨some 61,.move (.tmp 6),3,none⟩,
 ⟨some 62,.binOp .mul 3 (.tmp 61) (.const (.int .i64 2)) 3,3,none⟩,
 ⟨some 6,.assign (.tmp 62),3,none⟩] [0,1,2,6])
def c90S5(_:Unit):Cmd:=(.seq (.seq (.ops [
 ⟨some 49,.move (.tmp 7),3,none⟩,
 ⟨some 50,.move (.tmp 6),3,none⟩,
 ⟨some 51,.binOp .add 3 (.tmp 49) (.tmp 50) 3,3,none⟩,
 ⟨some 9,.assign (.tmp 51),3,none⟩] [0,1,2,6,7,9])
 (.seq (.ops [
 ⟨some 52,.move (.tmp 9),3,none⟩,
 ⟨some 53,.move (.tmp 1),3,none⟩,
 ⟨some 54,.binOp .lss 3 (.tmp 52) (.tmp 53) 3,4,none⟩] [0,1,2,6,7,9,54])
 (.cond (.tmp 54)
 (.ops [
 ⟨some 55,.move (.tmp 0),57,none⟩,
 ⟨some 56,.move (.tmp 7),3,none⟩,
 ⟨some 57,.move (.tmp 9),3,none⟩,
 ⟨some 58,.move (.tmp 1),3,none⟩,
 ⟨some 59,.move (.tmp 2),110,none⟩,
 ⟨some 60,.call ⟨.value (.func 114),#[(.tmp 55),(.tmp 56),(.tmp 57),(.tmp 58),(.tmp 59)],#[57,3,3,3,110]⟩,0,none⟩] [0,1,2,6])
 (.skip [0,1,2,6])))) (sg c90S4))
def c90S6(_:Unit):Cmd:=(.block 3 (.seq (.ops [
 ⟨some 31,.move (.tmp 6),3,none⟩,
 ⟨some 32,.binOp .mul 3 (.const (.int .i64 2)) (.tmp 31) 3,3,none⟩,
 ⟨some 7,.assign (.const (.int .i64 0)),3,none⟩,
 ⟨some 8,.assign (.tmp 32),3,none⟩] [0,1,2,6,7,8])
 (.seq (.block 4 (.loop (sg c90L1))) (sg c90S5))))
def c90L2(_:Unit):Cmd:=(.seq (.seq (.ops [
 ⟨some 28,.move (.tmp 6),3,none⟩,
 ⟨some 29,.move (.tmp 1),3,none⟩,
 ⟨some 30,.binOp .lss 3 (.tmp 28) (.tmp 29) 3,4,none⟩] [0,1,2,6,30])
 (.cond (.tmp 30)
 (.skip [0,1,2,6])
 (.exit 2 []))) (sg c90S6))
def c90S7(_:Unit):Cmd:=(.block 2 (.loop (sg c90L2)))
def c90S8(_:Unit):Cmd:=(.seq (.ops [
 ⟨some 23,.move (.tmp 0),57,none⟩,
 ⟨some 24,.move (.tmp 7),3,none⟩,
 ⟨some 25,.move (.tmp 1),3,none⟩,
 ⟨some 26,.move (.tmp 2),110,none⟩,
 ⟨some 27,.call ⟨.value (.func 113),#[(.tmp 23),(.tmp 24),(.tmp 25),(.tmp 26)],#[57,3,3,110]⟩,0,none⟩] [0,1,2,6]) (sg c90S7))
def c90:Cmd:=(.seq (.ops [
 ⟨some 6,.assign (.const (.int .i64 20)),3,none⟩] [0,1,2,6])
 (.seq (.ops [
 ⟨some 10,.move (.tmp 6),3,none⟩,
 ⟨some 7,.assign (.const (.int .i64 0)),3,none⟩,
 ⟨some 8,.assign (.tmp 10),3,none⟩] [0,1,2,6,7,8])
 (.seq (.block 0 (.loop (sg c90L0))) (sg c90S8))))
attribute [go_sem] c90 c90S0 c90S1 c90S3
theorem ent90(a0 a1 a2:Value)(w:World)(K:Value→World→Prop)(h:W Tryz.prog c90 [(0,a0),(1,a1),(2,a2)] w (finQ Tryz.prog [] K)):Ret Tryz.prog 90 [a0,a1,a2] w K :=
 Ret_of_W (code:=c90code) Tryz.func90 (by kernel_rfl) (by kernel_rfl) (of_decide_eq_true (by kernel_rfl)) h
@[go_sem] theorem go90:goFunc Tryz.prog 90=true:=by kernel_rfl
def c91code:Code:=match Tryz.f91.body with | some c=>c | none=>.skip
def c91S0(_:Unit):Cmd:=(.cond (.tmp 16)
 (.seq (.ops [
 ⟨some 17,.move (.tmp 5),3,none⟩,
 ⟨some 4,.assign (.tmp 17),3,none⟩] [4])
 .ret)
 (.skip [0,1,7,8]))
def c91S1(_:Unit):Cmd:=(.ops [
 ⟨some 18,.binOp .add 3 (.tmp 8) (.const (.int .i64 1)) 3,3,none⟩,
 ⟨some 8,.move (.tmp 18),3,none⟩] [0,1,7,8])
def c91S2(_:Unit):Cmd:=(.seq (.block 1 (.seq (.ops [
 ⟨some 10,.move (.tmp 8),3,none⟩,
 ⟨some 5,.assign (.tmp 10),3,none⟩] [0,1,5,7,8])
 (.seq (.ops [
 ⟨some 11,.move (.tmp 1),114,none⟩,
 ⟨some 12,.move (.tmp 0),62,none⟩,
 ⟨some 13,.move (.tmp 5),3,none⟩,
 ⟨some 14,.indexAddr 62 (.tmp 12) (.tmp 13),0,none⟩,
 ⟨some 15,.load 113 (.tmp 14),113,none⟩,
 ⟨some 16,.call ⟨.value (.tmp 11),#[(.tmp 15)],#[113]⟩,4,none⟩] [0,1,5,7,8,16]) (sg c91S0)))) (sg c91S1))
def c91L0(_:Unit):Cmd:=(.seq (.ops [
 ⟨some 9,.binOp .lss 3 (.tmp 8) (.tmp 7) 3,0,none⟩] [0,1,7,8,9])
 (.seq (.cond (.tmp 9)
 (.skip [0,1,7,8])
 (.exit 0 [])) (sg c91S2)))
def c91S3(_:Unit):Cmd:=(.seq (.ops [
 ⟨some 4,.assign (.const (.int .i64 (-1))),3,none⟩] [4])
 .ret)
def c91:Cmd:=(.seq (.ops [
 ⟨some 4,.assign (.const (.int .i64 0)),3,none⟩] [0,1])
 (.seq (.seq (.ops [
 ⟨some 6,.move (.tmp 0),62,none⟩,
 ⟨some 7,.call ⟨.builtin .len,#[(.tmp 6)],#[62]⟩,3,none⟩,
 ⟨some 8,.move (.const (.int .i64 0)),3,none⟩] [0,1,7,8])
 (.block 0 (.loop (sg c91L0)))) (sg c91S3)))
attribute [go_sem] c91 c91S0 c91S1 c91S2 c91L0 c91S3
theorem ent91(a0 a1:Value)(w:World)(K:Value→World→Prop)(h:W Tryz.prog c91 [(0,a0),(1,a1)] w (finQ Tryz.prog [.tmp 4] K)):Ret Tryz.prog 91 [a0,a1] w K :=
 Ret_of_W (code:=c91code) Tryz.func91 (by kernel_rfl) (by kernel_rfl) (of_decide_eq_true (by kernel_rfl)) h
@[go_sem] theorem go91:goFunc Tryz.prog 91=true:=by kernel_rfl
def c92code:Code:=match Tryz.f92.body with | some c=>c | none=>.skip
def c92:Cmd:=(.seq (.ops [
 ⟨some 0,.assign (.const (.slice none 0 0)),144,none⟩] [])
 (.seq (.ops [
 ⟨some 1,.build 117 #[(0,(.const (.int .i64 1))),(1,(.const (.int .i64 1))),(2,(.const (.int .i64 0))),(3,(.const (.int .i64 2)))],117,none⟩,
 ⟨some 2,.build 117 #[(0,(.const (.int .i64 1))),(1,(.const (.int .i64 2))),(2,(.const (.int .i64 1))),(3,(.const (.int .i64 0)))],117,none⟩,
 ⟨some 3,.build 117 #[(0,(.const (.int .i64 1))),(1,(.const (.int .i64 3))),(2,(.const (.int .i64 2))),(3,(.const (.int .i64 1)))],117,none⟩,
 ⟨some 4,.build 117 #[(0,(.const (.int .i64 2))),(1,(.const (.int .i64 1))),(2,(.const (.int .i64 0))),(3,(.const (.int .i64 3)))],117,none⟩,
 ⟨some 5,.build 117 #[(0,(.const (.int .i64 2))),(1,(.const (.int .i64 4))),(2,(.const (.int .i64 0))),(3,(.const (.int .i64 0)))],117,none⟩,
 ⟨some 6,.build 117 #[(0,(.const (.int .i64 2))),(1,(.const (.int .i64 5))),(2,(.const (.int .i64 0))),(3,(.const (.int .i64 0)))],117,none⟩,
 ⟨some 7,.build 117 #[(0,(.const (.int .i64 3))),(1,(.const (.int .i64 6))),(2,(.const (.int .i64 1))),(3,(.const (.int .i64 0)))],117,none⟩,
 ⟨some 8,.build 117 #[(0,(.const (.int .i64 3))),(1,(.const (.int .i64 7))),(2,(.const (.int .i64 0))),(3,(.const (.int .i64 4)))],117,none⟩,
 ⟨some 9,.build 117 #[(0,(.const (.int .i64 4))),(1,(.const (.int .i64 8))),(2,(.const (.int .i64 1))),(3,(.const (.int .i64 0)))],117,none⟩,
 ⟨some 10,.build 117 #[(0,(.const (.int .i64 4))),(1,(.const (.int .i64 9))),(2,(.const (.int .i64 0))),(3,(.const (.int .i64 4)))],117,none⟩,
 ⟨some 11,.build 117 #[(0,(.const (.int .i64 5))),(1,(.const (.int .i64 10))),(2,(.const (.int .i64 1))),(3,(.const (.int .i64 1)))],117,none⟩,
 ⟨some 12,.build 117 #[(0,(.const (.int .i64 5))),(1,(.const (.int .i64 11))),(2,(.const (.int .i64 1))),(3,(.const (.int .i64 1)))],117,none⟩,
 ⟨some 13,.build 117 #[(0,(.const (.int .i64 5))),(1,(.const (.int .i64 12))),(2,(.const (.int .i64 1))),(3,(.const (.int .i64 1)))],117,none⟩,
 ⟨some 14,.build 117 #[(0,(.const (.int .i64 6))),(1,(.const (.int .i64 13))),(2,(.const (.int .i64 0))),(3,(.const (.int .i64 0)))],117,none⟩,
 ⟨some 15,.build 117 #[(0,(.const (.int .i64 6))),(1,(.const (.int .i64 14))),(2,(.const (.int .i64 0))),(3,(.const (.int .i64 0)))],117,none⟩,
 ⟨some 16,.buildSlice 144 15 #[(0,(.tmp 1)),(1,(.tmp 2)),(2,(.tmp 3)),(3,(.tmp 4)),(4,(.tmp 5)),(5,(.tmp 6)),(6,(.tmp 7)),(7,(.tmp 8)),(8,(.tmp 9)),(9,(.tmp 10)),(10,(.tmp 11)),(11,(.tmp 12)),(12,(.tmp 13)),(13,(.tmp 14)),(14,(.tmp 15))],144,none⟩,
 ⟨some 0,.assign (.tmp 16),144,none⟩] [0])
 .ret))
attribute [go_sem] c92
theorem ent92(w:World)(K:Value→World→Prop)(h:W Tryz.prog c92 [] w (finQ Tryz.prog [.tmp 0] K)):Ret Tryz.prog 92 [] w K :=
 Ret_of_W (code:=c92code) Tryz.func92 (by kernel_rfl) (by kernel_rfl) (of_decide_eq_true (by kernel_rfl)) h
@[go_sem] theorem go92:goFunc Tryz.prog 92=true:=by kernel_rfl
def c93code:Code:=match Tryz.f93.body with | some c=>c | none=>.skip
def c93S0(_:Unit):Cmd:=.ret
def c93S1(_:Unit):Cmd:=(.seq (.draw (drawOps 0 c93code) [2]) (sg c93S0))
def c93:Cmd:=(.seq (.ops [
 ⟨some 2,.assign (.const (.string (ofL []))),9,none⟩] [0])
 (.seq (.seq (.ops [
 ⟨some 3,.move (.tmp 0),147,none⟩,
 ⟨some 4,.binOp .lss 147 (.tmp 3) (.const (.int .u64 128)) 147,4,none⟩] [0,4])
 (.cond (.tmp 4)
 (.seq (.ops [
 ⟨some 5,.move (.tmp 0),147,none⟩,
 ⟨some 6,.convert 147 5 (.tmp 5),5,none⟩,
 ⟨some 7,.buildSlice 120 1 #[(0,(.tmp 6))],120,none⟩,
 ⟨some 8,.convert 120 9 (.tmp 7),9,none⟩,
 ⟨some 2,.assign (.tmp 8),9,none⟩] [2])
 .ret)
 (.skip [0]))) (sg c93S1)))
attribute [go_sem] c93 c93S0 c93S1
def c93D0:GT:=(.one 0 ⟨some 9,.move (.tmp 0),147,none⟩
 (.one 0 ⟨some 10,.binOp .rem 147 (.tmp 9) (.const (.int .u64 128)) 147,147,none⟩
 (.one 0 ⟨some 11,.binOp .add 147 (.tmp 10) (.const (.int .u64 128)) 147,147,none⟩
 (.one 0 ⟨some 12,.convert 147 5 (.tmp 11),5,none⟩
 (.one 0 ⟨some 15,.move (.tmp 0),147,none⟩
 (.one 0 ⟨some 16,.binOp .quo 147 (.tmp 15) (.const (.int .u64 128)) 147,147,none⟩
 (.alt ⟨some 13,.buildSlice 120 1 #[(0,(.tmp 12))],120,none⟩
 (.alt ⟨some 14,.convert 120 9 (.tmp 13),9,none⟩
 (.one 2 ⟨some 17,.call ⟨.value (.func 93),#[(.tmp 16)],#[147]⟩,9,none⟩
 (.one 0 ⟨some 18,.binOp .add 9 (.tmp 14) (.tmp 17) 9,9,none⟩
 (.one 0 ⟨some 2,.assign (.tmp 18),9,none⟩
 .nil)))
 (.alt ⟨some 17,.call ⟨.value (.func 93),#[(.tmp 16)],#[147]⟩,9,none⟩
 (.one 2 ⟨some 14,.convert 120 9 (.tmp 13),9,none⟩
 (.one 0 ⟨some 18,.binOp .add 9 (.tmp 14) (.tmp 17) 9,9,none⟩
 (.one 0 ⟨some 2,.assign (.tmp 18),9,none⟩
 .nil)))
 .stop))
 (.alt ⟨some 17,.call ⟨.value (.func 93),#[(.tmp 16)],#[147]⟩,9,none⟩
 (.one 2 ⟨some 13,.buildSlice 120 1 #[(0,(.tmp 12))],120,none⟩
 (.one 2 ⟨some 14,.convert 120 9 (.tmp 13),9,none⟩
 (.one 0 ⟨some 18,.binOp .add 9 (.tmp 14) (.tmp 17) 9,9,none⟩
 (.one 0 ⟨some 2,.assign (.tmp 18),9,none⟩
 .nil))))
 .stop))))))))
theorem c93draw0{L:List Nat}{ρ:Env}{w:World}{Q:Post}(S:World→Prop)(hS:S w.drew)(h:DT Tryz.prog S c93D0 L ρ w.drew Q):drawW Tryz.prog (drawOps 0 c93code) L ρ w Q :=
 drawW_tree [] (.one 0 0 (.one 0 1 (.one 0 2 (.one 0 3 (.one 0 6 (.one 0 7 (.alt 4 (.alt 5 (.one 2 8 (.one 0 9 (.one 0 10 .nil))) (.alt 8 (.one 2 5 (.one 0 9 (.one 0 10 .nil))) .stop)) (.alt 8 (.one 2 4 (.one 2 5 (.one 0 9 (.one 0 10 .nil)))) .stop)))))))) c93D0 (by kernel_rfl) (by kernel_rfl) (by kernel_rfl) S hS h
theorem ent93(a0:Value)(w:World)(K:Value→World→Prop)(h:W Tryz.prog c93 [(0,a0)] w (finQ Tryz.prog [.tmp 2] K)):Ret Tryz.prog 93 [a0] w K :=
 Ret_of_W (code:=c93code) Tryz.func93 (by kernel_rfl) (by kernel_rfl) (of_decide_eq_true (by kernel_rfl)) h
@[go_sem] theorem go93:goFunc Tryz.prog 93=true:=by kernel_rfl
def c94code:Code:=match Tryz.f94.body with | some c=>c | none=>.skip
def c94S0(_:Unit):Cmd:=(.seq (.ops [
 ⟨some 8,.move (.tmp 0),3,none⟩,
 ⟨some 9,.binOp .sub 3 (.const (.int .i64 (-1))) (.tmp 8) 3,3,none⟩,
 ⟨some 10,.convert 3 147 (.tmp 9),147,none⟩,
 ⟨some 11,.binOp .mul 147 (.const (.int .u64 2)) (.tmp 10) 147,147,none⟩,
 ⟨some 12,.binOp .add 147 (.tmp 11) (.const (.int .u64 1)) 147,147,none⟩,
 ⟨some 2,.assign (.tmp 12),147,none⟩] [2])
 .ret)
def c94:Cmd:=(.seq (.ops [
 ⟨some 2,.assign (.const (.int .u64 0)),147,none⟩] [0])
 (.seq (.seq (.ops [
 ⟨some 3,.move (.tmp 0),3,none⟩,
 ⟨some 4,.binOp .geq 3 (.tmp 3) (.const (.int .i64 0)) 3,4,none⟩] [0,4])
 (.cond (.tmp 4)
 (.seq (.ops [
 ⟨some 5,.move (.tmp 0),3,none⟩,
 ⟨some 6,.convert 3 147 (.tmp 5),147,none⟩,
 ⟨some 7,.binOp .mul 147 (.const (.int .u64 2)) (.tmp 6) 147,147,none⟩,
 ⟨some 2,.assign (.tmp 7),147,none⟩] [2])
 .ret)
 (.skip [0]))) (sg c94S0)))
attribute [go_sem] c94 c94S0
theorem ent94(a0:Value)(w:World)(K:Value→World→Prop)(h:W Tryz.prog c94 [(0,a0)] w (finQ Tryz.prog [.tmp 2] K)):Ret Tryz.prog 94 [a0] w K :=
 Ret_of_W (code:=c94code) Tryz.func94 (by kernel_rfl) (by kernel_rfl) (of_decide_eq_true (by kernel_rfl)) h
@[go_sem] theorem go94:goFunc Tryz.prog 94=true:=by kernel_rfl
def c95code:Code:=match Tryz.f95.body with | some c=>c | none=>.skip
def c95S0(_:Unit):Cmd:=.ret
def c95S1(_:Unit):Cmd:=.ret
def c95S2(_:Unit):Cmd:=.ret
def c95S3(_:Unit):Cmd:=.ret
def c95S4(_:Unit):Cmd:=(.cond (.tmp 126)
 (.seq (.ops [
 ⟨some 127,.build 150 #[(0,(.const (.slice none 0 0))),(1,(.const (.int .i64 0))),(2,(.const (.bool true)))],150,none⟩,
 ⟨none,.store 150 (.tmp 4) (.tmp 127),0,none⟩] [4])
 .ret)
 (.skip [0,3,4,5,6]))
def c95S5(_:Unit):Cmd:=.ret
def c95S6(_:Unit):Cmd:=.ret
def c95S7(_:Unit):Cmd:=(.seq (.ops [
 ⟨some 179,.build 150 #[],150,none⟩,
 ⟨none,.store 150 (.tmp 4) (.tmp 179),0,none⟩] [4])
 .ret)
def c95S8(_:Unit):Cmd:=(.seq (.seq (.ops [
 ⟨some 172,.move (.tmp 6),3,none⟩,
 ⟨some 173,.binOp .eql 3 (.tmp 172) (.const (.int .i64 11)) 3,4,none⟩] [0,3,4,173])
 (.cond (.tmp 173)
 (.seq (.ops [
 ⟨some 174,.move (.tmp 0),25,none⟩,
 ⟨some 175,.fieldAddr 52 (.tmp 3) 5,0,none⟩,
 ⟨some 176,.load 3 (.tmp 175),3,none⟩,
 ⟨some 177,.call ⟨.value (.func 116),#[(.tmp 174),(.tmp 176)],#[25,3]⟩,25,none⟩,
 ⟨some 178,.build 150 #[(0,(.tmp 177)),(1,(.const (.int .i64 1))),(2,(.const (.bool true)))],150,none⟩,
 ⟨none,.store 150 (.tmp 4) (.tmp 178),0,none⟩] [4]) (sg c95S6))
 (.skip [4]))) (sg c95S7))
def c95S9(_:Unit):Cmd:=(.seq (.seq (.ops [
 ⟨some 165,.move (.tmp 6),3,none⟩,
 ⟨some 166,.binOp .eql 3 (.tmp 165) (.const (.int .i64 10)) 3,4,none⟩] [0,3,4,6,166])
 (.cond (.tmp 166)
 (.seq (.ops [
 ⟨some 167,.move (.tmp 0),25,none⟩,
 ⟨some 168,.fieldAddr 52 (.tmp 3) 5,0,none⟩,
 ⟨some 169,.load 3 (.tmp 168),3,none⟩,
 ⟨some 170,.call ⟨.value (.func 117),#[(.tmp 167),(.tmp 169)],#[25,3]⟩,25,none⟩,
 ⟨some 171,.build 150 #[(0,(.tmp 170)),(1,(.const (.int .i64 1))),(2,(.const (.bool true)))],150,none⟩,
 ⟨none,.store 150 (.tmp 4) (.tmp 171),0,none⟩] [4]) (sg c95S5))
 (.skip [0,3,4,6]))) (sg c95S8))
def c95S10(_:Unit):Cmd:=(.seq (.seq (.ops [
 ⟨some 146,.move (.tmp 6),3,none⟩,
 ⟨some 147,.binOp .eql 3 (.tmp 146) (.const (.int .i64 12)) 3,4,none⟩,
 ⟨some 148,.move (.tmp 147),4,none⟩,
 ⟨some 149,.move (.tmp 6),3,(some (148,false))⟩,
 ⟨some 150,.binOp .eql 3 (.tmp 149) (.const (.int .i64 10)) 3,4,(some (148,false))⟩,
 ⟨some 151,.move (.tmp 150),4,(some (148,false))⟩,
 ⟨some 152,.move (.tmp 7),4,(some (151,true))⟩,
 ⟨some 153,.pick (.tmp 151) (.tmp 152) (.const (.bool false)),4,(some (148,false))⟩,
 ⟨some 154,.pick (.tmp 148) (.const (.bool true)) (.tmp 153),4,none⟩,
 ⟨some 155,.move (.tmp 154),4,none⟩,
 ⟨some 156,.move (.tmp 6),3,(some (155,false))⟩,
 ⟨some 157,.binOp .eql 3 (.tmp 156) (.const (.int .i64 11)) 3,4,(some (155,false))⟩,
 ⟨some 158,.move (.tmp 157),4,(some (155,false))⟩,
 ⟨some 159,.move (.tmp 7),4,(some (158,true))⟩,
 ⟨some 160,.unOp .not 4 (.tmp 159),4,(some (158,true))⟩,
 ⟨some 161,.pick (.tmp 158) (.tmp 160) (.const (.bool false)),4,(some (155,false))⟩,
 ⟨some 162,.pick (.tmp 155) (.const (.bool true)) (.tmp 161),4,none⟩] [0,3,4,6,162])
 (.cond (.tmp 162)
 (.seq (.ops [
 ⟨some 163,.move (.tmp 0),25,none⟩,
 ⟨some 164,.build 150 #[(0,(.tmp 163)),(1,(.const (.int .i64 0))),(2,(.const (.bool true)))],150,none⟩,
 ⟨none,.store 150 (.tmp 4) (.tmp 164),0,none⟩] [4])
 .ret)
 (.skip [0,3,4,6]))) (sg c95S9))
def c95S11(_:Unit):Cmd:=(.seq (.seq (.ops [
 ⟨some 139,.move (.tmp 6),3,none⟩,
 ⟨some 140,.binOp .eql 3 (.tmp 139) (.const (.int .i64 12)) 3,4,none⟩,
 ⟨some 141,.move (.tmp 140),4,none⟩,
 ⟨some 142,.move (.tmp 7),4,(some (141,true))⟩,
 ⟨some 143,.pick (.tmp 141) (.tmp 142) (.const (.bool false)),4,none⟩] [0,3,4,6,7,143])
 (.cond (.tmp 143)
 (.seq (.ops [
 ⟨some 144,.move (.tmp 0),25,none⟩,
 ⟨some 145,.build 150 #[(0,(.tmp 144)),(1,(.const (.int .i64 1))),(2,(.const (.bool true)))],150,none⟩,
 ⟨none,.store 150 (.tmp 4) (.tmp 145),0,none⟩] [4])
 .ret)
 (.skip [0,3,4,6,7]))) (sg c95S10))
def c95S12(_:Unit):Cmd:=(.seq (.ops [
 ⟨some 131,.move (.tmp 0),25,none⟩,
 ⟨some 132,.fieldAddr 52 (.tmp 3) 5,0,none⟩,
 ⟨some 133,.load 3 (.tmp 132),3,none⟩,
 ⟨some 134,.call ⟨.value (.func 116),#[(.tmp 131),(.tmp 133)],#[25,3]⟩,25,none⟩,
 ⟨some 135,.call ⟨.builtin .len,#[(.tmp 134)],#[25]⟩,3,none⟩,
 ⟨some 136,.move (.tmp 0),25,none⟩,
 ⟨some 137,.call ⟨.builtin .len,#[(.tmp 136)],#[25]⟩,3,none⟩,
 ⟨some 138,.binOp .lss 3 (.tmp 135) (.tmp 137) 3,4,none⟩,
 ⟨some 7,.assign (.tmp 138),4,none⟩] [0,3,4,6,7]) (sg c95S11))
def c95S13(_:Unit):Cmd:=(.seq (.seq (.ops [
 ⟨some 128,.move (.tmp 5),3,none⟩,
 ⟨some 129,.binOp .neq 3 (.tmp 128) (.const (.int .i64 5)) 3,4,none⟩] [0,3,4,6,129])
 (.cond (.tmp 129)
 (.seq (.ops [
 ⟨some 130,.build 150 #[],150,none⟩,
 ⟨none,.store 150 (.tmp 4) (.tmp 130),0,none⟩] [4])
 .ret)
 (.skip [0,3,4,6]))) (sg c95S12))
def c95S14(_:Unit):Cmd:=(.seq (.seq (.draw (drawOps 4 c95code) [0,3,4,5,6,126]) (sg c95S4)) (sg c95S13))
def c95S15(_:Unit):Cmd:=(.seq (.seq (.ops [
 ⟨some 93,.move (.tmp 5),3,none⟩,
 ⟨some 94,.binOp .eql 3 (.tmp 93) (.const (.int .i64 6)) 3,4,none⟩,
 ⟨some 95,.move (.tmp 94),4,none⟩,
 ⟨some 96,.move (.tmp 6),3,(some (95,true))⟩,
 ⟨some 97,.binOp .eql 3 (.tmp 96) (.const (.int .i64 13)) 3,4,(some (95,true))⟩,
 ⟨some 98,.pick (.tmp 95) (.tmp 97) (.const (.bool false)),4,none⟩,
 ⟨some 99,.move (.tmp 98),4,none⟩,
 ⟨some 100,.move (.tmp 0),25,(some (99,true))⟩,
 ⟨some 101,.call ⟨.builtin .len,#[(.tmp 100)],#[25]⟩,3,(some (99,true))⟩,
 ⟨some 102,.binOp .eql 3 (.tmp 101) (.const (.int .i64 0)) 3,4,(some (99,true))⟩,
 ⟨some 103,.pick (.tmp 99) (.tmp 102) (.const (.bool false)),4,none⟩] [0,3,4,5,6,103])
 (.cond (.tmp 103)
 (.seq (.ops [
 ⟨some 104,.fieldAddr 52 (.tmp 3) 1,0,none⟩,
 ⟨some 105,.load 3 (.tmp 104),3,none⟩,
 ⟨some 106,.buildSlice 25 1 #[(0,(.tmp 105))],25,none⟩,
 ⟨some 107,.build 150 #[(0,(.tmp 106)),(1,(.const (.int .i64 0))),(2,(.const (.bool true)))],150,none⟩,
 ⟨none,.store 150 (.tmp 4) (.tmp 107),0,none⟩] [4])
 .ret)
 (.skip [0,3,4,5,6]))) (sg c95S14))
def c95S16(_:Unit):Cmd:=(.seq (.seq (.ops [
 ⟨some 75,.move (.tmp 5),3,none⟩,
 ⟨some 76,.binOp .eql 3 (.tmp 75) (.const (.int .i64 4)) 3,4,none⟩,
 ⟨some 77,.move (.tmp 76),4,none⟩,
 ⟨some 78,.move (.tmp 6),3,(some (77,true))⟩,
 ⟨some 79,.binOp .eql 3 (.tmp 78) (.const (.int .i64 9)) 3,4,(some (77,true))⟩,
 ⟨some 80,.pick (.tmp 77) (.tmp 79) (.const (.bool false)),4,none⟩] [0,3,4,5,6,80])
 (.cond (.tmp 80)
 (.seq (.draw (drawOps 3 c95code) [4]) (sg c95S3))
 (.skip [0,3,4,5,6]))) (sg c95S15))
def c95S17(_:Unit):Cmd:=(.seq (.seq (.ops [
 ⟨some 63,.move (.tmp 5),3,none⟩,
 ⟨some 64,.binOp .eql 3 (.tmp 63) (.const (.int .i64 3)) 3,4,none⟩,
 ⟨some 65,.move (.tmp 64),4,none⟩,
 ⟨some 66,.move (.tmp 6),3,(some (65,true))⟩,
 ⟨some 67,.binOp .eql 3 (.tmp 66) (.const (.int .i64 7)) 3,4,(some (65,true))⟩,
 ⟨some 68,.pick (.tmp 65) (.tmp 67) (.const (.bool false)),4,none⟩] [0,3,4,5,6,68])
 (.cond (.tmp 68)
 (.seq (.draw (drawOps 2 c95code) [4]) (sg c95S2))
 (.skip [0,3,4,5,6]))) (sg c95S16))
def c95S18(_:Unit):Cmd:=(.seq (.seq (.ops [
 ⟨some 43,.move (.tmp 5),3,none⟩,
 ⟨some 44,.binOp .eql 3 (.tmp 43) (.const (.int .i64 3)) 3,4,none⟩,
 ⟨some 45,.move (.tmp 44),4,none⟩,
 ⟨some 46,.move (.tmp 6),3,(some (45,true))⟩,
 ⟨some 47,.binOp .eql 3 (.tmp 46) (.const (.int .i64 7)) 3,4,(some (45,true))⟩,
 ⟨some 48,.pick (.tmp 45) (.tmp 47) (.const (.bool false)),4,none⟩,
 ⟨some 49,.move (.tmp 48),4,none⟩,
 ⟨some 50,.move (.tmp 5),3,(some (49,false))⟩,
 ⟨some 51,.binOp .eql 3 (.tmp 50) (.const (.int .i64 4)) 3,4,(some (49,false))⟩,
 ⟨some 52,.move (.tmp 51),4,(some (49,false))⟩,
 ⟨some 53,.move (.tmp 6),3,(some (52,true))⟩,
 ⟨some 54,.binOp .eql 3 (.tmp 53) (.const (.int .i64 9)) 3,4,(some (52,true))⟩,
 ⟨some 55,.pick (.tmp 52) (.tmp 54) (.const (.bool false)),4,(some (49,false))⟩,
 ⟨some 56,.pick (.tmp 49) (.const (.bool true)) (.tmp 55),4,none⟩,
 ⟨some 57,.move (.tmp 56),4,none⟩,
 ⟨some 58,.move (.tmp 0),25,(some (57,true))⟩,
 ⟨some 59,.call ⟨.builtin .len,#[(.tmp 58)],#[25]⟩,3,(some (57,true))⟩,
 ⟨some 60,.binOp .eql 3 (.tmp 59) (.const (.int .i64 0)) 3,4,(some (57,true))⟩,
 ⟨some 61,.pick (.tmp 57) (.tmp 60) (.const (.bool false)),4,none⟩] [0,3,4,5,6,61])
 (.cond (.tmp 61)
 (.seq (.ops [
 ⟨some 62,.build 150 #[(0,(.const (.slice none 0 0))),(1,(.const (.int .i64 (-1)))),(2,(.const (.bool true)))],150,none⟩,
 ⟨none,.store 150 (.tmp 4) (.tmp 62),0,none⟩] [4])
 .ret)
 (.skip [0,3,4,5,6]))) (sg c95S17))
def c95S19(_:Unit):Cmd:=(.seq (.seq (.ops [
 ⟨some 21,.move (.tmp 5),3,none⟩,
 ⟨some 22,.binOp .eql 3 (.tmp 21) (.const (.int .i64 3)) 3,4,none⟩,
 ⟨some 23,.move (.tmp 22),4,none⟩,
 ⟨some 24,.move (.tmp 6),3,(some (23,true))⟩,
 ⟨some 25,.binOp .eql 3 (.tmp 24) (.const (.int .i64 6)) 3,4,(some (23,true))⟩,
 ⟨some 26,.pick (.tmp 23) (.tmp 25) (.const (.bool false)),4,none⟩,
 ⟨some 27,.move (.tmp 26),4,none⟩,
 ⟨some 28,.move (.tmp 5),3,(some (27,false))⟩,
 ⟨some 29,.binOp .eql 3 (.tmp 28) (.const (.int .i64 4)) 3,4,(some (27,false))⟩,
 ⟨some 30,.move (.tmp 29),4,(some (27,false))⟩,
 ⟨some 31,.move (.tmp 6),3,(some (30,true))⟩,
 ⟨some 32,.binOp .eql 3 (.tmp 31) (.const (.int .i64 8)) 3,4,(some (30,true))⟩,
 ⟨some 33,.pick (.tmp 30) (.tmp 32) (.const (.bool false)),4,(some (27,false))⟩,
 ⟨some 34,.pick (.tmp 27) (.const (.bool true)) (.tmp 33),4,none⟩] [0,3,4,5,6,34])
 (.cond (.tmp 34)
 (.seq (.draw (drawOps 1 c95code) [4]) (sg c95S1))
 (.skip [0,3,4,5,6]))) (sg c95S18))
def c95S20(_:Unit):Cmd:=(.seq (.seq (.ops [
 ⟨some 12,.move (.tmp 5),3,none⟩,
 ⟨some 13,.binOp .eql 3 (.tmp 12) (.const (.int .i64 1)) 3,4,none⟩,
 ⟨some 14,.move (.tmp 13),4,none⟩,
 ⟨some 15,.move (.tmp 5),3,(some (14,false))⟩,
 ⟨some 16,.binOp .eql 3 (.tmp 15) (.const (.int .i64 2)) 3,4,(some (14,false))⟩,
 ⟨some 17,.pick (.tmp 14) (.const (.bool true)) (.tmp 16),4,none⟩] [0,3,4,5,6,17])
 (.cond (.tmp 17)
 (.seq (.ops [
 ⟨some 18,.move (.tmp 0),25,none⟩,
 ⟨some 19,.load 52 (.tmp 3),52,none⟩,
 ⟨some 20,.call ⟨.value (.func 115),#[(.tmp 18),(.tmp 19)],#[25,52]⟩,150,none⟩,
 ⟨none,.store 150 (.tmp 4) (.tmp 20),0,none⟩] [4]) (sg c95S0))
 (.skip [0,3,4,5,6]))) (sg c95S19))
def c95:Cmd:=(.seq (.ops [
 ⟨some 3,.box 52 (.tmp 1),0,none⟩,
 ⟨some 4,.alloc 150,0,none⟩] [0,3,4])
 (.seq (.draw (drawOps 0 c95code) [0,3,4,5,6]) (sg c95S20)))
attribute [go_sem] c95 c95S0 c95S1 c95S2 c95S3 c95S4 c95S5 c95S6 c95S7 c95S8 c95S9 c95S10 c95S12 c95S13 c95S14 c95S15 c95S16 c95S17 c95S18 c95S19
def c95D0:List (Bool × Ins):=[
 (true,⟨some 8,.fieldAddr 52 (.tmp 3) 3,0,none⟩),
 (false,⟨some 9,.load 3 (.tmp 8),3,none⟩),
 (true,⟨some 10,.fieldAddr 52 (.tmp 3) 4,0,none⟩),
 (false,⟨some 11,.load 3 (.tmp 10),3,none⟩),
 (true,⟨some 5,.assign (.tmp 9),3,none⟩),
 (true,⟨some 6,.assign (.tmp 11),3,none⟩)]
theorem c95draw0{L:List Nat}{ρ:Env}{w:World}{Q:Post}(h:DL Tryz.prog c95D0 L ρ w.drew Q):drawW Tryz.prog (drawOps 0 c95code) L ρ w Q :=
 drawW_still [true,false,true,false,true,true] c95D0 (by kernel_rfl) (by kernel_rfl) (by kernel_rfl) h
def c95D1:GT:=(.one 0 ⟨some 36,.move (.tmp 0),25,none⟩
 (.one 0 ⟨some 38,.fieldAddr 52 (.tmp 3) 5,0,none⟩
 (.one 1 ⟨some 39,.load 3 (.tmp 38),3,none⟩
 (.alt ⟨some 35,.buildSlice 25 0 #[],25,none⟩
 (.alt ⟨some 37,.call ⟨.builtin .append,#[(.tmp 35),(.tmp 36)],#[25,25]⟩,25,none⟩
 (.one 2 ⟨some 40,.buildSlice 25 1 #[(0,(.tmp 39))],25,none⟩
 (.one 2 ⟨some 41,.call ⟨.builtin .append,#[(.tmp 37),(.tmp 40)],#[25,25]⟩,25,none⟩
 (.one 2 ⟨some 42,.build 150 #[(0,(.tmp 41)),(1,(.const (.int .i64 0))),(2,(.const (.bool true)))],150,none⟩
 (.one 2 ⟨none,.store 150 (.tmp 4) (.tmp 42),0,none⟩
 .nil))))
 (.alt ⟨some 40,.buildSlice 25 1 #[(0,(.tmp 39))],25,none⟩
 (.one 2 ⟨some 37,.call ⟨.builtin .append,#[(.tmp 35),(.tmp 36)],#[25,25]⟩,25,none⟩
 (.one 2 ⟨some 41,.call ⟨.builtin .append,#[(.tmp 37),(.tmp 40)],#[25,25]⟩,25,none⟩
 (.one 2 ⟨some 42,.build 150 #[(0,(.tmp 41)),(1,(.const (.int .i64 0))),(2,(.const (.bool true)))],150,none⟩
 (.one 2 ⟨none,.store 150 (.tmp 4) (.tmp 42),0,none⟩
 .nil))))
 .stop))
 (.alt ⟨some 40,.buildSlice 25 1 #[(0,(.tmp 39))],25,none⟩
 (.one 2 ⟨some 35,.buildSlice 25 0 #[],25,none⟩
 (.one 2 ⟨some 37,.call ⟨.builtin .append,#[(.tmp 35),(.tmp 36)],#[25,25]⟩,25,none⟩
 (.one 2 ⟨some 41,.call ⟨.builtin .append,#[(.tmp 37),(.tmp 40)],#[25,25]⟩,25,none⟩
 (.one 2 ⟨some 42,.build 150 #[(0,(.tmp 41)),(1,(.const (.int .i64 0))),(2,(.const (.bool true)))],150,none⟩
 (.one 2 ⟨none,.store 150 (.tmp 4) (.tmp 42),0,none⟩
 .nil)))))
 .stop)))))
theorem c95draw1{L:List Nat}{ρ:Env}{w:World}{Q:Post}(S:World→Prop)(hS:S w.drew)(h:DT Tryz.prog S c95D1 L ρ w.drew Q):drawW Tryz.prog (drawOps 1 c95code) L ρ w Q :=
 drawW_tree [4] (.one 0 1 (.one 0 3 (.one 1 4 (.alt 0 (.alt 2 (.one 2 5 (.one 2 6 (.one 2 7 (.one 2 8 .nil)))) (.alt 5 (.one 2 2 (.one 2 6 (.one 2 7 (.one 2 8 .nil)))) .stop)) (.alt 5 (.one 2 0 (.one 2 2 (.one 2 6 (.one 2 7 (.one 2 8 .nil))))) .stop))))) c95D1 (by kernel_rfl) (by kernel_rfl) (by kernel_rfl) S hS h
def c95D2:List (Bool × Ins):=[
 (true,⟨some 69,.move (.tmp 0),25,none⟩),
 (true,⟨some 70,.slice 25 (.tmp 69) (some (.const (.int .i64 1))) none none,25,none⟩),
 (true,⟨some 71,.move (.tmp 0),25,none⟩),
 (true,⟨some 72,.indexAddr 25 (.tmp 71) (.const (.int .i64 0)),0,none⟩),
 (false,⟨some 73,.load 3 (.tmp 72),3,none⟩),
 (false,⟨some 74,.build 150 #[(0,(.tmp 70)),(1,(.tmp 73)),(2,(.const (.bool true)))],150,none⟩),
 (false,⟨none,.store 150 (.tmp 4) (.tmp 74),0,none⟩)]
theorem c95draw2{L:List Nat}{ρ:Env}{w:World}{Q:Post}(h:DL Tryz.prog c95D2 L ρ w.drew Q):drawW Tryz.prog (drawOps 2 c95code) L ρ w Q :=
 drawW_by [(true,0),(true,1),(true,2),(true,3),(false,4),(false,5),(false,6)] c95D2 (by kernel_rfl) (by kernel_rfl) (by kernel_rfl) h
def c95D3:List (Bool × Ins):=[
 (true,⟨some 81,.move (.tmp 0),25,none⟩),
 (true,⟨some 82,.move (.tmp 0),25,none⟩),
 (true,⟨some 83,.call ⟨.builtin .len,#[(.tmp 82)],#[25]⟩,3,none⟩),
 (true,⟨some 84,.binOp .sub 3 (.tmp 83) (.const (.int .i64 1)) 3,3,none⟩),
 (true,⟨some 85,.slice 25 (.tmp 81) none (some (.tmp 84)) none,25,none⟩),
 (true,⟨some 86,.move (.tmp 0),25,none⟩),
 (true,⟨some 87,.move (.tmp 0),25,none⟩),
 (true,⟨some 88,.call ⟨.builtin .len,#[(.tmp 87)],#[25]⟩,3,none⟩),
 (true,⟨some 89,.binOp .sub 3 (.tmp 88) (.const (.int .i64 1)) 3,3,none⟩),
 (true,⟨some 90,.indexAddr 25 (.tmp 86) (.tmp 89),0,none⟩),
 (false,⟨some 91,.load 3 (.tmp 90),3,none⟩),
 (false,⟨some 92,.build 150 #[(0,(.tmp 85)),(1,(.tmp 91)),(2,(.const (.bool true)))],150,none⟩),
 (false,⟨none,.store 150 (.tmp 4) (.tmp 92),0,none⟩)]
theorem c95draw3{L:List Nat}{ρ:Env}{w:World}{Q:Post}(h:DL Tryz.prog c95D3 L ρ w.drew Q):drawW Tryz.prog (drawOps 3 c95code) L ρ w Q :=
 drawW_by [(true,0),(true,1),(true,2),(true,3),(true,4),(true,5),(true,6),(true,7),(true,8),(true,9),(false,10),(false,11),(false,12)] c95D3 (by kernel_rfl) (by kernel_rfl) (by kernel_rfl) h
def c95D4:List (Bool × Ins):=[
 (true,⟨some 108,.move (.tmp 5),3,none⟩),
 (true,⟨some 109,.binOp .eql 3 (.tmp 108) (.const (.int .i64 6)) 3,4,none⟩),
 (true,⟨some 110,.move (.tmp 109),4,none⟩),
 (true,⟨some 111,.move (.tmp 6),3,(some (110,true))⟩),
 (true,⟨some 112,.binOp .eql 3 (.tmp 111) (.const (.int .i64 14)) 3,4,(some (110,true))⟩),
 (true,⟨some 113,.pick (.tmp 110) (.tmp 112) (.const (.bool false)),4,none⟩),
 (true,⟨some 114,.move (.tmp 113),4,none⟩),
 (true,⟨some 115,.move (.tmp 0),25,(some (114,true))⟩),
 (true,⟨some 116,.call ⟨.builtin .len,#[(.tmp 115)],#[25]⟩,3,(some (114,true))⟩),
 (true,⟨some 117,.binOp .eql 3 (.tmp 116) (.const (.int .i64 1)) 3,4,(some (114,true))⟩),
 (true,⟨some 118,.pick (.tmp 114) (.tmp 117) (.const (.bool false)),4,none⟩),
 (true,⟨some 119,.move (.tmp 118),4,none⟩),
 (true,⟨some 120,.move (.tmp 0),25,(some (119,true))⟩),
 (true,⟨some 121,.indexAddr 25 (.tmp 120) (.const (.int .i64 0)),0,(some (119,true))⟩),
 (false,⟨some 122,.load 3 (.tmp 121),3,(some (119,true))⟩),
 (true,⟨some 123,.fieldAddr 52 (.tmp 3) 1,0,(some (119,true))⟩),
 (false,⟨some 124,.load 3 (.tmp 123),3,(some (119,true))⟩),
 (true,⟨some 125,.binOp .eql 3 (.tmp 122) (.tmp 124) 3,4,(some (119,true))⟩),
 (true,⟨some 126,.pick (.tmp 119) (.tmp 125) (.const (.bool false)),4,none⟩)]
theorem c95draw4{L:List Nat}{ρ:Env}{w:World}{Q:Post}(h:DL Tryz.prog c95D4 L ρ w.drew Q):drawW Tryz.prog (drawOps 4 c95code) L ρ w Q :=
 drawW_still [true,true,true,true,true,true,true,true,true,true,true,true,true,true,false,true,false,true,true] c95D4 (by kernel_rfl) (by kernel_rfl) (by kernel_rfl) h
theorem ent95(a0 a1:Value)(w:World)(K:Value→World→Prop)(h:W Tryz.prog c95 [(0,a0),(1,a1)] w (finQ Tryz.prog [.cell 4 150] K)):Ret Tryz.prog 95 [a0,a1] w K :=
 Ret_of_W (code:=c95code) Tryz.func95 (by kernel_rfl) (by kernel_rfl) (of_decide_eq_true (by kernel_rfl)) h
end Go.Proofs.YtoadmihnihfjkaaGreat

end
