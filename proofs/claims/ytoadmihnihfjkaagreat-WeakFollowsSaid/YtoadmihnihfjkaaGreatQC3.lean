/- Texts put together by program. -/
import Derived.Test.YtoadmihnihfjkaaGreatQC2
set_option linter.unusedSimpArgs false
set_option linter.unusedVariables false
set_option maxRecDepth 100000
noncomputable section

namespace Go.Proofs.YtoadmihnihfjkaaGreat
open Go Go.Ann
@[go_sem] theorem ty3tyK:tyK Tryz.prog 3=.int .i64:=by kernel_rfl
@[go_sem] theorem ty3sizeT:sizeT Tryz.prog 3=some 1:=by kernel_rfl
@[go_sem] theorem ty3zeroT:zeroT Tryz.prog 3=some (.int .i64 0):=by kernel_rfl
@[go_sem] theorem ty3conc:Program.concrete Tryz.prog 3=true:=by kernel_rfl
@[go_sem] theorem ty4tyK:tyK Tryz.prog 4=.bool:=by kernel_rfl
@[go_sem] theorem ty4isBoolT:isBoolT Tryz.prog 4=true:=by kernel_rfl
@[go_sem] theorem ty4sizeT:sizeT Tryz.prog 4=some 1:=by kernel_rfl
@[go_sem] theorem ty4zeroT:zeroT Tryz.prog 4=some (.bool false):=by kernel_rfl
@[go_sem] theorem ty4conc:Program.concrete Tryz.prog 4=true:=by kernel_rfl
@[go_sem] theorem ty5tyK:tyK Tryz.prog 5=.int .u8:=by kernel_rfl
@[go_sem] theorem ty5sizeT:sizeT Tryz.prog 5=some 1:=by kernel_rfl
@[go_sem] theorem ty5zeroT:zeroT Tryz.prog 5=some (.int .u8 0):=by kernel_rfl
@[go_sem] theorem ty5conc:Program.concrete Tryz.prog 5=true:=by kernel_rfl
@[go_sem] theorem ty9tyK:tyK Tryz.prog 9=.str:=by kernel_rfl
@[go_sem] theorem ty9isStrT:isStrT Tryz.prog 9=true:=by kernel_rfl
@[go_sem] theorem ty9sizeT:sizeT Tryz.prog 9=some 1:=by kernel_rfl
@[go_sem] theorem ty9zeroT:zeroT Tryz.prog 9=some (.string (ofL [])):=by kernel_rfl
@[go_sem] theorem ty9conc:Program.concrete Tryz.prog 9=true:=by kernel_rfl
@[go_sem] theorem ty22tyK:tyK Tryz.prog 22=.slice false 52:=by kernel_rfl
@[go_sem] theorem ty22isSliceT:isSliceT Tryz.prog 22=true:=by kernel_rfl
@[go_sem] theorem ty22sliI:sliI Tryz.prog 22=some 11:=by kernel_rfl
@[go_sem] theorem ty22mkI:mkI Tryz.prog 22=some (52,11,88,(.agg #[(.int .i64 0),(.int .i64 0),(.int .i64 0),(.int .i64 0),(.int .i64 0),(.int .i64 0),(.int .i64 0),(.bool false),(.int .i64 0),(.int .i64 0),(.int .i64 0)])):=by kernel_rfl
@[go_sem] theorem ty22sizeT:sizeT Tryz.prog 22=some 1:=by kernel_rfl
@[go_sem] theorem ty22zeroT:zeroT Tryz.prog 22=some (.slice none 0 0):=by kernel_rfl
@[go_sem] theorem ty22conc:Program.concrete Tryz.prog 22=true:=by kernel_rfl
@[go_sem] theorem ty25tyK:tyK Tryz.prog 25=.slice false 3:=by kernel_rfl
@[go_sem] theorem ty25isSliceT:isSliceT Tryz.prog 25=true:=by kernel_rfl
@[go_sem] theorem ty25sliI:sliI Tryz.prog 25=some 1:=by kernel_rfl
@[go_sem] theorem ty25mkI:mkI Tryz.prog 25=some (3,1,8,(.int .i64 0)):=by kernel_rfl
@[go_sem] theorem ty25sizeT:sizeT Tryz.prog 25=some 1:=by kernel_rfl
@[go_sem] theorem ty25zeroT:zeroT Tryz.prog 25=some (.slice none 0 0):=by kernel_rfl
@[go_sem] theorem ty25conc:Program.concrete Tryz.prog 25=true:=by kernel_rfl
@[go_sem] theorem ty26tyK:tyK Tryz.prog 26=.int .i64:=by kernel_rfl
@[go_sem] theorem ty26sizeT:sizeT Tryz.prog 26=some 1:=by kernel_rfl
@[go_sem] theorem ty26zeroT:zeroT Tryz.prog 26=some (.int .i64 0):=by kernel_rfl
@[go_sem] theorem ty26conc:Program.concrete Tryz.prog 26=true:=by kernel_rfl
@[go_sem] theorem ty31tyK:tyK Tryz.prog 31=.slice false 22:=by kernel_rfl
@[go_sem] theorem ty31isSliceT:isSliceT Tryz.prog 31=true:=by kernel_rfl
@[go_sem] theorem ty31sliI:sliI Tryz.prog 31=some 1:=by kernel_rfl
@[go_sem] theorem ty31mkI:mkI Tryz.prog 31=some (22,1,24,(.slice none 0 0)):=by kernel_rfl
@[go_sem] theorem ty31sizeT:sizeT Tryz.prog 31=some 1:=by kernel_rfl
@[go_sem] theorem ty31zeroT:zeroT Tryz.prog 31=some (.slice none 0 0):=by kernel_rfl
@[go_sem] theorem ty31conc:Program.concrete Tryz.prog 31=true:=by kernel_rfl
@[go_sem] theorem ty34tyK:tyK Tryz.prog 34=.agg 2:=by kernel_rfl
@[go_sem] theorem ty34sizeT:sizeT Tryz.prog 34=some 2:=by kernel_rfl
@[go_sem] theorem ty34zeroT:zeroT Tryz.prog 34=some (.agg #[(.slice none 0 0),(.bool false)]):=by kernel_rfl
@[go_sem] theorem ty34conc:Program.concrete Tryz.prog 34=true:=by kernel_rfl
@[go_sem] theorem ty34plc:plcT Tryz.prog 34=some [(0,1),(1,1)]:=by kernel_rfl
@[go_sem] theorem ty34fld0:fldI Tryz.prog 34 0=some (0,1,false):=by kernel_rfl
@[go_sem] theorem ty34fld1:fldI Tryz.prog 34 1=some (1,1,false):=by kernel_rfl
@[go_sem] theorem ty39tyK:tyK Tryz.prog 39=.slice false 47:=by kernel_rfl
@[go_sem] theorem ty39isSliceT:isSliceT Tryz.prog 39=true:=by kernel_rfl
@[go_sem] theorem ty39sliI:sliI Tryz.prog 39=some 3:=by kernel_rfl
@[go_sem] theorem ty39mkI:mkI Tryz.prog 39=some (47,3,40,(.agg #[(.int .i64 0),(.int .i64 0),(.slice none 0 0)])):=by kernel_rfl
@[go_sem] theorem ty39sizeT:sizeT Tryz.prog 39=some 1:=by kernel_rfl
@[go_sem] theorem ty39zeroT:zeroT Tryz.prog 39=some (.slice none 0 0):=by kernel_rfl
@[go_sem] theorem ty39conc:Program.concrete Tryz.prog 39=true:=by kernel_rfl
@[go_sem] theorem ty41tyK:tyK Tryz.prog 41=.slice false 25:=by kernel_rfl
@[go_sem] theorem ty41isSliceT:isSliceT Tryz.prog 41=true:=by kernel_rfl
@[go_sem] theorem ty41sliI:sliI Tryz.prog 41=some 1:=by kernel_rfl
@[go_sem] theorem ty41mkI:mkI Tryz.prog 41=some (25,1,24,(.slice none 0 0)):=by kernel_rfl
@[go_sem] theorem ty41sizeT:sizeT Tryz.prog 41=some 1:=by kernel_rfl
@[go_sem] theorem ty41zeroT:zeroT Tryz.prog 41=some (.slice none 0 0):=by kernel_rfl
@[go_sem] theorem ty41conc:Program.concrete Tryz.prog 41=true:=by kernel_rfl
@[go_sem] theorem ty43tyK:tyK Tryz.prog 43=.agg 3:=by kernel_rfl
@[go_sem] theorem ty43sizeT:sizeT Tryz.prog 43=some 3:=by kernel_rfl
@[go_sem] theorem ty43zeroT:zeroT Tryz.prog 43=some (.agg #[(.slice none 0 0),(.slice none 0 0),(.int .i64 0)]):=by kernel_rfl
@[go_sem] theorem ty43conc:Program.concrete Tryz.prog 43=true:=by kernel_rfl
@[go_sem] theorem ty43plc:plcT Tryz.prog 43=some [(0,1),(1,1),(2,1)]:=by kernel_rfl
@[go_sem] theorem ty43fld0:fldI Tryz.prog 43 0=some (0,1,false):=by kernel_rfl
@[go_sem] theorem ty43fld1:fldI Tryz.prog 43 1=some (1,1,false):=by kernel_rfl
@[go_sem] theorem ty43fld2:fldI Tryz.prog 43 2=some (2,1,false):=by kernel_rfl
@[go_sem] theorem ty47tyK:tyK Tryz.prog 47=.agg 3:=by kernel_rfl
@[go_sem] theorem ty47sizeT:sizeT Tryz.prog 47=some 3:=by kernel_rfl
@[go_sem] theorem ty47zeroT:zeroT Tryz.prog 47=some (.agg #[(.int .i64 0),(.int .i64 0),(.slice none 0 0)]):=by kernel_rfl
@[go_sem] theorem ty47conc:Program.concrete Tryz.prog 47=true:=by kernel_rfl
@[go_sem] theorem ty47plc:plcT Tryz.prog 47=some [(0,1),(1,1),(2,1)]:=by kernel_rfl
@[go_sem] theorem ty47fld0:fldI Tryz.prog 47 0=some (0,1,false):=by kernel_rfl
@[go_sem] theorem ty47fld1:fldI Tryz.prog 47 1=some (1,1,false):=by kernel_rfl
@[go_sem] theorem ty47fld2:fldI Tryz.prog 47 2=some (2,1,false):=by kernel_rfl
@[go_sem] theorem ty52tyK:tyK Tryz.prog 52=.agg 11:=by kernel_rfl
@[go_sem] theorem ty52sizeT:sizeT Tryz.prog 52=some 11:=by kernel_rfl
@[go_sem] theorem ty52zeroT:zeroT Tryz.prog 52=some (.agg #[(.int .i64 0),(.int .i64 0),(.int .i64 0),(.int .i64 0),(.int .i64 0),(.int .i64 0),(.int .i64 0),(.bool false),(.int .i64 0),(.int .i64 0),(.int .i64 0)]):=by kernel_rfl
@[go_sem] theorem ty52conc:Program.concrete Tryz.prog 52=true:=by kernel_rfl
@[go_sem] theorem ty52plc:plcT Tryz.prog 52=some [(0,1),(1,1),(2,1),(3,1),(4,1),(5,1),(6,1),(7,1),(8,1),(9,1),(10,1)]:=by kernel_rfl
@[go_sem] theorem ty52flat:flatT Tryz.prog 52=some [.int,.int,.int,.int,.int,.int,.int,.bool,.int,.int,.int]:=by kernel_rfl
@[go_sem] theorem ty52fld0:fldI Tryz.prog 52 0=some (0,1,false):=by kernel_rfl
@[go_sem] theorem ty52fld1:fldI Tryz.prog 52 1=some (1,1,false):=by kernel_rfl
@[go_sem] theorem ty52fld2:fldI Tryz.prog 52 2=some (2,1,false):=by kernel_rfl
@[go_sem] theorem ty52fld3:fldI Tryz.prog 52 3=some (3,1,false):=by kernel_rfl
@[go_sem] theorem ty52fld4:fldI Tryz.prog 52 4=some (4,1,false):=by kernel_rfl
@[go_sem] theorem ty52fld5:fldI Tryz.prog 52 5=some (5,1,false):=by kernel_rfl
@[go_sem] theorem ty52fld6:fldI Tryz.prog 52 6=some (6,1,false):=by kernel_rfl
@[go_sem] theorem ty52fld7:fldI Tryz.prog 52 7=some (7,1,false):=by kernel_rfl
@[go_sem] theorem ty52fld8:fldI Tryz.prog 52 8=some (8,1,false):=by kernel_rfl
@[go_sem] theorem ty52fld9:fldI Tryz.prog 52 9=some (9,1,false):=by kernel_rfl
@[go_sem] theorem ty52fld10:fldI Tryz.prog 52 10=some (10,1,false):=by kernel_rfl
@[go_sem] theorem ty54tyK:tyK Tryz.prog 54=.ptr:=by kernel_rfl
@[go_sem] theorem ty54isPtrT:isPtrT Tryz.prog 54=true:=by kernel_rfl
@[go_sem] theorem ty54sizeT:sizeT Tryz.prog 54=some 1:=by kernel_rfl
@[go_sem] theorem ty54zeroT:zeroT Tryz.prog 54=some (.pointer none):=by kernel_rfl
@[go_sem] theorem ty54conc:Program.concrete Tryz.prog 54=true:=by kernel_rfl
@[go_sem] theorem ty56tyK:tyK Tryz.prog 56=.map:=by kernel_rfl
@[go_sem] theorem ty56isMapT:isMapT Tryz.prog 56=true:=by kernel_rfl
@[go_sem] theorem ty56sizeT:sizeT Tryz.prog 56=some 1:=by kernel_rfl
@[go_sem] theorem ty56zeroT:zeroT Tryz.prog 56=some (.map none):=by kernel_rfl
@[go_sem] theorem ty56conc:Program.concrete Tryz.prog 56=true:=by kernel_rfl
@[go_sem] theorem ty57tyK:tyK Tryz.prog 57=.slice false 65:=by kernel_rfl
@[go_sem] theorem ty57isSliceT:isSliceT Tryz.prog 57=true:=by kernel_rfl
@[go_sem] theorem ty57sliI:sliI Tryz.prog 57=some 1:=by kernel_rfl
@[go_sem] theorem ty57mkI:mkI Tryz.prog 57=some (65,1,8,(.pointer none)):=by kernel_rfl
@[go_sem] theorem ty57sizeT:sizeT Tryz.prog 57=some 1:=by kernel_rfl
@[go_sem] theorem ty57zeroT:zeroT Tryz.prog 57=some (.slice none 0 0):=by kernel_rfl
@[go_sem] theorem ty57conc:Program.concrete Tryz.prog 57=true:=by kernel_rfl
@[go_sem] theorem ty58tyK:tyK Tryz.prog 58=.map:=by kernel_rfl
@[go_sem] theorem ty58isMapT:isMapT Tryz.prog 58=true:=by kernel_rfl
@[go_sem] theorem ty58sizeT:sizeT Tryz.prog 58=some 1:=by kernel_rfl
@[go_sem] theorem ty58zeroT:zeroT Tryz.prog 58=some (.map none):=by kernel_rfl
@[go_sem] theorem ty58conc:Program.concrete Tryz.prog 58=true:=by kernel_rfl
@[go_sem] theorem ty60tyK:tyK Tryz.prog 60=.agg 5:=by kernel_rfl
@[go_sem] theorem ty60sizeT:sizeT Tryz.prog 60=some 5:=by kernel_rfl
@[go_sem] theorem ty60zeroT:zeroT Tryz.prog 60=some (.agg #[(.slice none 0 0),(.map none),(.slice none 0 0),(.map none),(.int .i64 0)]):=by kernel_rfl
@[go_sem] theorem ty60conc:Program.concrete Tryz.prog 60=true:=by kernel_rfl
@[go_sem] theorem ty60plc:plcT Tryz.prog 60=some [(0,1),(1,1),(2,1),(3,1),(4,1)]:=by kernel_rfl
@[go_sem] theorem ty60fld0:fldI Tryz.prog 60 0=some (0,1,false):=by kernel_rfl
@[go_sem] theorem ty60fld1:fldI Tryz.prog 60 1=some (1,1,false):=by kernel_rfl
@[go_sem] theorem ty60fld2:fldI Tryz.prog 60 2=some (2,1,false):=by kernel_rfl
@[go_sem] theorem ty60fld3:fldI Tryz.prog 60 3=some (3,1,false):=by kernel_rfl
@[go_sem] theorem ty60fld4:fldI Tryz.prog 60 4=some (4,1,false):=by kernel_rfl
@[go_sem] theorem ty61tyK:tyK Tryz.prog 61=.slice false 25:=by kernel_rfl
@[go_sem] theorem ty61isSliceT:isSliceT Tryz.prog 61=true:=by kernel_rfl
@[go_sem] theorem ty61sliI:sliI Tryz.prog 61=some 1:=by kernel_rfl
@[go_sem] theorem ty61mkI:mkI Tryz.prog 61=some (25,1,24,(.slice none 0 0)):=by kernel_rfl
@[go_sem] theorem ty61sizeT:sizeT Tryz.prog 61=some 1:=by kernel_rfl
@[go_sem] theorem ty61zeroT:zeroT Tryz.prog 61=some (.slice none 0 0):=by kernel_rfl
@[go_sem] theorem ty61conc:Program.concrete Tryz.prog 61=true:=by kernel_rfl
@[go_sem] theorem ty62tyK:tyK Tryz.prog 62=.slice false 113:=by kernel_rfl
@[go_sem] theorem ty62isSliceT:isSliceT Tryz.prog 62=true:=by kernel_rfl
@[go_sem] theorem ty62sliI:sliI Tryz.prog 62=some 2:=by kernel_rfl
@[go_sem] theorem ty62mkI:mkI Tryz.prog 62=some (113,2,16,(.agg #[(.int .i64 0),(.int .i64 0)])):=by kernel_rfl
@[go_sem] theorem ty62sizeT:sizeT Tryz.prog 62=some 1:=by kernel_rfl
@[go_sem] theorem ty62zeroT:zeroT Tryz.prog 62=some (.slice none 0 0):=by kernel_rfl
@[go_sem] theorem ty62conc:Program.concrete Tryz.prog 62=true:=by kernel_rfl
@[go_sem] theorem ty64tyK:tyK Tryz.prog 64=.agg 5:=by kernel_rfl
@[go_sem] theorem ty64sizeT:sizeT Tryz.prog 64=some 5:=by kernel_rfl
@[go_sem] theorem ty64zeroT:zeroT Tryz.prog 64=some (.agg #[(.slice none 0 0),(.slice none 0 0),(.slice none 0 0),(.bool false),(.bool false)]):=by kernel_rfl
@[go_sem] theorem ty64conc:Program.concrete Tryz.prog 64=true:=by kernel_rfl
@[go_sem] theorem ty64plc:plcT Tryz.prog 64=some [(0,1),(1,1),(2,1),(3,1),(4,1)]:=by kernel_rfl
@[go_sem] theorem ty64fld0:fldI Tryz.prog 64 0=some (0,1,false):=by kernel_rfl
@[go_sem] theorem ty64fld1:fldI Tryz.prog 64 1=some (1,1,false):=by kernel_rfl
@[go_sem] theorem ty64fld2:fldI Tryz.prog 64 2=some (2,1,false):=by kernel_rfl
@[go_sem] theorem ty64fld3:fldI Tryz.prog 64 3=some (3,1,false):=by kernel_rfl
@[go_sem] theorem ty64fld4:fldI Tryz.prog 64 4=some (4,1,false):=by kernel_rfl
@[go_sem] theorem ty65tyK:tyK Tryz.prog 65=.ptr:=by kernel_rfl
@[go_sem] theorem ty65isPtrT:isPtrT Tryz.prog 65=true:=by kernel_rfl
@[go_sem] theorem ty65sizeT:sizeT Tryz.prog 65=some 1:=by kernel_rfl
@[go_sem] theorem ty65zeroT:zeroT Tryz.prog 65=some (.pointer none):=by kernel_rfl
@[go_sem] theorem ty65conc:Program.concrete Tryz.prog 65=true:=by kernel_rfl
@[go_sem] theorem ty68tyK:tyK Tryz.prog 68=.slice false 125:=by kernel_rfl
@[go_sem] theorem ty68isSliceT:isSliceT Tryz.prog 68=true:=by kernel_rfl
@[go_sem] theorem ty68sliI:sliI Tryz.prog 68=some 2:=by kernel_rfl
@[go_sem] theorem ty68mkI:mkI Tryz.prog 68=some (125,2,32,(.agg #[(.int .i64 0),(.slice none 0 0)])):=by kernel_rfl
@[go_sem] theorem ty68sizeT:sizeT Tryz.prog 68=some 1:=by kernel_rfl
@[go_sem] theorem ty68zeroT:zeroT Tryz.prog 68=some (.slice none 0 0):=by kernel_rfl
@[go_sem] theorem ty68conc:Program.concrete Tryz.prog 68=true:=by kernel_rfl
@[go_sem] theorem ty73tyK:tyK Tryz.prog 73=.map:=by kernel_rfl
@[go_sem] theorem ty73isMapT:isMapT Tryz.prog 73=true:=by kernel_rfl
@[go_sem] theorem ty73sizeT:sizeT Tryz.prog 73=some 1:=by kernel_rfl
@[go_sem] theorem ty73zeroT:zeroT Tryz.prog 73=some (.map none):=by kernel_rfl
@[go_sem] theorem ty73conc:Program.concrete Tryz.prog 73=true:=by kernel_rfl
@[go_sem] theorem ty78tyK:tyK Tryz.prog 78=.map:=by kernel_rfl
@[go_sem] theorem ty78isMapT:isMapT Tryz.prog 78=true:=by kernel_rfl
@[go_sem] theorem ty78sizeT:sizeT Tryz.prog 78=some 1:=by kernel_rfl
@[go_sem] theorem ty78zeroT:zeroT Tryz.prog 78=some (.map none):=by kernel_rfl
@[go_sem] theorem ty78conc:Program.concrete Tryz.prog 78=true:=by kernel_rfl
@[go_sem] theorem ty84tyK:tyK Tryz.prog 84=.slice false 90:=by kernel_rfl
@[go_sem] theorem ty84isSliceT:isSliceT Tryz.prog 84=true:=by kernel_rfl
@[go_sem] theorem ty84sliI:sliI Tryz.prog 84=some 2:=by kernel_rfl
@[go_sem] theorem ty84mkI:mkI Tryz.prog 84=some (90,2,48,(.agg #[(.slice none 0 0),(.slice none 0 0)])):=by kernel_rfl
@[go_sem] theorem ty84sizeT:sizeT Tryz.prog 84=some 1:=by kernel_rfl
@[go_sem] theorem ty84zeroT:zeroT Tryz.prog 84=some (.slice none 0 0):=by kernel_rfl
@[go_sem] theorem ty84conc:Program.concrete Tryz.prog 84=true:=by kernel_rfl
@[go_sem] theorem ty88tyK:tyK Tryz.prog 88=.slice false 4:=by kernel_rfl
@[go_sem] theorem ty88isSliceT:isSliceT Tryz.prog 88=true:=by kernel_rfl
@[go_sem] theorem ty88sliI:sliI Tryz.prog 88=some 1:=by kernel_rfl
@[go_sem] theorem ty88mkI:mkI Tryz.prog 88=some (4,1,1,(.bool false)):=by kernel_rfl
@[go_sem] theorem ty88sizeT:sizeT Tryz.prog 88=some 1:=by kernel_rfl
@[go_sem] theorem ty88zeroT:zeroT Tryz.prog 88=some (.slice none 0 0):=by kernel_rfl
@[go_sem] theorem ty88conc:Program.concrete Tryz.prog 88=true:=by kernel_rfl
@[go_sem] theorem ty90tyK:tyK Tryz.prog 90=.agg 2:=by kernel_rfl
@[go_sem] theorem ty90sizeT:sizeT Tryz.prog 90=some 2:=by kernel_rfl
@[go_sem] theorem ty90zeroT:zeroT Tryz.prog 90=some (.agg #[(.slice none 0 0),(.slice none 0 0)]):=by kernel_rfl
@[go_sem] theorem ty90conc:Program.concrete Tryz.prog 90=true:=by kernel_rfl
@[go_sem] theorem ty90plc:plcT Tryz.prog 90=some [(0,1),(1,1)]:=by kernel_rfl
@[go_sem] theorem ty90fld0:fldI Tryz.prog 90 0=some (0,1,false):=by kernel_rfl
@[go_sem] theorem ty90fld1:fldI Tryz.prog 90 1=some (1,1,false):=by kernel_rfl
@[go_sem] theorem ty91tyK:tyK Tryz.prog 91=.map:=by kernel_rfl
@[go_sem] theorem ty91isMapT:isMapT Tryz.prog 91=true:=by kernel_rfl
@[go_sem] theorem ty91sizeT:sizeT Tryz.prog 91=some 1:=by kernel_rfl
@[go_sem] theorem ty91zeroT:zeroT Tryz.prog 91=some (.map none):=by kernel_rfl
@[go_sem] theorem ty91conc:Program.concrete Tryz.prog 91=true:=by kernel_rfl
@[go_sem] theorem ty107tyK:tyK Tryz.prog 107=.other:=by kernel_rfl
@[go_sem] theorem ty107isFuncT:isFuncT Tryz.prog 107=true:=by kernel_rfl
@[go_sem] theorem ty107sizeT:sizeT Tryz.prog 107=some 1:=by kernel_rfl
@[go_sem] theorem ty107zeroT:zeroT Tryz.prog 107=some .nilFunc:=by kernel_rfl
@[go_sem] theorem ty107conc:Program.concrete Tryz.prog 107=true:=by kernel_rfl
@[go_sem] theorem ty113tyK:tyK Tryz.prog 113=.agg 2:=by kernel_rfl
@[go_sem] theorem ty113sizeT:sizeT Tryz.prog 113=some 2:=by kernel_rfl
@[go_sem] theorem ty113zeroT:zeroT Tryz.prog 113=some (.agg #[(.int .i64 0),(.int .i64 0)]):=by kernel_rfl
@[go_sem] theorem ty113conc:Program.concrete Tryz.prog 113=true:=by kernel_rfl
@[go_sem] theorem ty113plc:plcT Tryz.prog 113=some [(0,1),(1,1)]:=by kernel_rfl
@[go_sem] theorem ty113flat:flatT Tryz.prog 113=some [.int,.int]:=by kernel_rfl
@[go_sem] theorem ty113fld0:fldI Tryz.prog 113 0=some (0,1,false):=by kernel_rfl
@[go_sem] theorem ty113fld1:fldI Tryz.prog 113 1=some (1,1,false):=by kernel_rfl
@[go_sem] theorem ty117tyK:tyK Tryz.prog 117=.agg 4:=by kernel_rfl
@[go_sem] theorem ty117sizeT:sizeT Tryz.prog 117=some 4:=by kernel_rfl
@[go_sem] theorem ty117zeroT:zeroT Tryz.prog 117=some (.agg #[(.int .i64 0),(.int .i64 0),(.int .i64 0),(.int .i64 0)]):=by kernel_rfl
@[go_sem] theorem ty117conc:Program.concrete Tryz.prog 117=true:=by kernel_rfl
@[go_sem] theorem ty117plc:plcT Tryz.prog 117=some [(0,1),(1,1),(2,1),(3,1)]:=by kernel_rfl
@[go_sem] theorem ty117flat:flatT Tryz.prog 117=some [.int,.int,.int,.int]:=by kernel_rfl
@[go_sem] theorem ty117fld0:fldI Tryz.prog 117 0=some (0,1,false):=by kernel_rfl
@[go_sem] theorem ty117fld1:fldI Tryz.prog 117 1=some (1,1,false):=by kernel_rfl
@[go_sem] theorem ty117fld2:fldI Tryz.prog 117 2=some (2,1,false):=by kernel_rfl
@[go_sem] theorem ty117fld3:fldI Tryz.prog 117 3=some (3,1,false):=by kernel_rfl
@[go_sem] theorem ty120tyK:tyK Tryz.prog 120=.slice true 5:=by kernel_rfl
@[go_sem] theorem ty120isSliceT:isSliceT Tryz.prog 120=true:=by kernel_rfl
@[go_sem] theorem ty120sliI:sliI Tryz.prog 120=some 1:=by kernel_rfl
@[go_sem] theorem ty120mkI:mkI Tryz.prog 120=some (5,1,1,(.int .u8 0)):=by kernel_rfl
@[go_sem] theorem ty120sizeT:sizeT Tryz.prog 120=some 1:=by kernel_rfl
@[go_sem] theorem ty120zeroT:zeroT Tryz.prog 120=some (.slice none 0 0):=by kernel_rfl
@[go_sem] theorem ty120conc:Program.concrete Tryz.prog 120=true:=by kernel_rfl
@[go_sem] theorem ty125tyK:tyK Tryz.prog 125=.agg 2:=by kernel_rfl
@[go_sem] theorem ty125sizeT:sizeT Tryz.prog 125=some 2:=by kernel_rfl
@[go_sem] theorem ty125zeroT:zeroT Tryz.prog 125=some (.agg #[(.int .i64 0),(.slice none 0 0)]):=by kernel_rfl
@[go_sem] theorem ty125conc:Program.concrete Tryz.prog 125=true:=by kernel_rfl
@[go_sem] theorem ty125plc:plcT Tryz.prog 125=some [(0,1),(1,1)]:=by kernel_rfl
@[go_sem] theorem ty125fld0:fldI Tryz.prog 125 0=some (0,1,false):=by kernel_rfl
@[go_sem] theorem ty125fld1:fldI Tryz.prog 125 1=some (1,1,false):=by kernel_rfl
@[go_sem] theorem ty135tyK:tyK Tryz.prog 135=.int .u64:=by kernel_rfl
@[go_sem] theorem ty135sizeT:sizeT Tryz.prog 135=some 1:=by kernel_rfl
@[go_sem] theorem ty135zeroT:zeroT Tryz.prog 135=some (.int .u64 0):=by kernel_rfl
@[go_sem] theorem ty135conc:Program.concrete Tryz.prog 135=true:=by kernel_rfl
@[go_sem] theorem ty144tyK:tyK Tryz.prog 144=.slice false 117:=by kernel_rfl
@[go_sem] theorem ty144isSliceT:isSliceT Tryz.prog 144=true:=by kernel_rfl
@[go_sem] theorem ty144sliI:sliI Tryz.prog 144=some 4:=by kernel_rfl
@[go_sem] theorem ty144mkI:mkI Tryz.prog 144=some (117,4,32,(.agg #[(.int .i64 0),(.int .i64 0),(.int .i64 0),(.int .i64 0)])):=by kernel_rfl
@[go_sem] theorem ty144sizeT:sizeT Tryz.prog 144=some 1:=by kernel_rfl
@[go_sem] theorem ty144zeroT:zeroT Tryz.prog 144=some (.slice none 0 0):=by kernel_rfl
@[go_sem] theorem ty144conc:Program.concrete Tryz.prog 144=true:=by kernel_rfl
@[go_sem] theorem ty147tyK:tyK Tryz.prog 147=.int .u64:=by kernel_rfl
@[go_sem] theorem ty147sizeT:sizeT Tryz.prog 147=some 1:=by kernel_rfl
@[go_sem] theorem ty147zeroT:zeroT Tryz.prog 147=some (.int .u64 0):=by kernel_rfl
@[go_sem] theorem ty147conc:Program.concrete Tryz.prog 147=true:=by kernel_rfl
@[go_sem] theorem ty150tyK:tyK Tryz.prog 150=.agg 3:=by kernel_rfl
@[go_sem] theorem ty150sizeT:sizeT Tryz.prog 150=some 3:=by kernel_rfl
@[go_sem] theorem ty150zeroT:zeroT Tryz.prog 150=some (.agg #[(.slice none 0 0),(.int .i64 0),(.bool false)]):=by kernel_rfl
@[go_sem] theorem ty150conc:Program.concrete Tryz.prog 150=true:=by kernel_rfl
@[go_sem] theorem ty150plc:plcT Tryz.prog 150=some [(0,1),(1,1),(2,1)]:=by kernel_rfl
@[go_sem] theorem ty150fld0:fldI Tryz.prog 150 0=some (0,1,false):=by kernel_rfl
@[go_sem] theorem ty150fld1:fldI Tryz.prog 150 1=some (1,1,false):=by kernel_rfl
@[go_sem] theorem ty150fld2:fldI Tryz.prog 150 2=some (2,1,false):=by kernel_rfl
@[go_sem] theorem ty156tyK:tyK Tryz.prog 156=.int .i64:=by kernel_rfl
@[go_sem] theorem ty156sizeT:sizeT Tryz.prog 156=some 1:=by kernel_rfl
@[go_sem] theorem ty156zeroT:zeroT Tryz.prog 156=some (.int .i64 0):=by kernel_rfl
@[go_sem] theorem ty156conc:Program.concrete Tryz.prog 156=true:=by kernel_rfl
@[go_sem] theorem go3:goFunc Tryz.prog 3=true:=by kernel_rfl
@[go_sem] theorem go4:goFunc Tryz.prog 4=true:=by kernel_rfl
def c5code:Code:=match Tryz.f5.body with | some c=>c | none=>.skip
def c5S0(_:Unit):Cmd:=.ret
def c5S1(_:Unit):Cmd:=(.cond (.tmp 13)
 (.seq (.ops [
 ⟨some 14,.call ⟨.value (.func 10),#[],#[]⟩,4,none⟩,
 zas 2 14 4] [2]) (sg c5S0))
 (.skip [0]))
def c5S2(_:Unit):Cmd:=.ret
def c5S3(_:Unit):Cmd:=(.seq (.ops [
 zmv 38 6 3,
 ⟨some 39,.binOp .neq 3 (.tmp 38) (.const (.int .i64 0)) 3,4,none⟩,
 zmv 40 39 4,
 ⟨some 41,.fieldAddr 43 (.tmp 5) 1,0,(some (40,false))⟩,
 ⟨some 42,.load 41 (.tmp 41),41,(some (40,false))⟩,
 ⟨some 43,.call ⟨.builtin .len,#[(.tmp 42)],#[41]⟩,3,(some (40,false))⟩,
 ⟨some 44,.binOp .eql 3 (.tmp 43) (.const (.int .i64 0)) 3,4,(some (40,false))⟩,
 ⟨some 45,.pick (.tmp 40) (.const (.bool true)) (.tmp 44),4,none⟩] [0,3,4,45])
 (.cond (.tmp 45)
 (.seq (.ops [
 ⟨some 46,.call ⟨.value (.func 10),#[],#[]⟩,4,none⟩,
 zas 2 46 4] [2]) (sg c5S2))
 (.skip [0,3,4])))
def c5S4(_:Unit):Cmd:=(.ops [
 zmv 21 4 3,
 ⟨some 22,.binOp .add 3 (.tmp 21) (.const (.int .i64 1)) 3,3,none⟩,
 zas 4 22 3] [0,3,4])
def c5S5(_:Unit):Cmd:=(.seq (.block 1 (.seq (.draw (drawOps 0 c5code) [0,3,4,5,6]) (sg c5S3))) (sg c5S4))
def c5L0(_:Unit):Cmd:=(.seq (.seq (.ops [
 zmv 17 4 3,
 zmv 18 3 39,
 ⟨some 19,.call ⟨.builtin .len,#[(.tmp 18)],#[39]⟩,3,none⟩,
 ⟨some 20,.binOp .lss 3 (.tmp 17) (.tmp 19) 3,4,none⟩] [0,3,4,20])
 (.cond (.tmp 20)
 (.skip [0,3,4])
 (.exit 0 [0]))) (sg c5S5))
def c5S6(_:Unit):Cmd:=.ret
def c5S7(_:Unit):Cmd:=(.seq (.ops [
 zmv 54 10 26,
 ⟨some 55,.binOp .eql 26 (.tmp 54) (.const (.int .i64 35)) 26,4,none⟩,
 zmv 56 55 4,
 zmg 57 10 26 56 false,
 ⟨some 58,.binOp .eql 26 (.tmp 57) (.const (.int .i64 0)) 26,4,(some (56,false))⟩,
 zmg 59 58 4 56 false,
 zmg 60 8 4 59 true,
 ⟨some 61,.pick (.tmp 59) (.tmp 60) (.const (.bool false)),4,(some (56,false))⟩,
 zmg 62 61 4 56 false,
 zmg 63 0 22 62 true,
 zmg 64 7 25 62 true,
 ⟨some 65,.call ⟨.value (.func 18),#[(.tmp 63),(.tmp 64)],#[22,25]⟩,4,(some (62,true))⟩,
 ⟨some 66,.pick (.tmp 62) (.tmp 65) (.const (.bool false)),4,(some (56,false))⟩,
 ⟨some 67,.pick (.tmp 56) (.const (.bool true)) (.tmp 66),4,none⟩,
 zmv 68 67 4,
 ⟨some 69,.call ⟨.value (.func 10),#[],#[]⟩,4,(some (68,true))⟩,
 ⟨some 70,.pick (.tmp 68) (.tmp 69) (.const (.bool false)),4,none⟩,
 zas 2 70 4] [2]) (sg c5S6))
def c5S8(_:Unit):Cmd:=(.seq (.ops [
 zmv 48 0 22,
 ⟨some 49,.call ⟨.value (.func 11),#[(.tmp 48),(.const (.int .i64 32768))],#[22,3]⟩,27,none⟩,
 zmv 47 49 27,
 ⟨some 50,.extract (.tmp 47) 0,25,none⟩,
 ⟨some 51,.extract (.tmp 47) 1,4,none⟩,
 ⟨some 52,.extract (.tmp 47) 2,3,none⟩,
 ⟨some 53,.extract (.tmp 47) 3,26,none⟩,
 zas 7 50 25,
 zas 8 51 4,
 zas 9 52 3,
 zas 10 53 26] [0,7,8,10]) (sg c5S7))
def c5S9(_:Unit):Cmd:=(.seq (.seq (.ops [
 ⟨some 4,.assign (.const (.int .i64 0)),3,none⟩] [0,3,4])
 (.block 0 (.loop (sg c5L0)))) (sg c5S8))
def c5S10(_:Unit):Cmd:=(.seq (.ops [
 zmv 15 0 22,
 ⟨some 16,.call ⟨.value (.func 20),#[(.tmp 15)],#[22]⟩,39,none⟩,
 zas 3 16 39] [0,3]) (sg c5S9))
def c5:Cmd:=(.seq (.ops [
 ⟨some 2,.assign (.const (.bool false)),4,none⟩] [0])
 (.seq (.seq (.ops [
 zmv 11 0 22,
 ⟨some 12,.call ⟨.value (.func 19),#[(.tmp 11)],#[22]⟩,4,none⟩,
 ⟨some 13,.unOp .not 4 (.tmp 12),4,none⟩] [0,13]) (sg c5S1)) (sg c5S10)))
attribute [go_sem] c5 c5S0 c5S2 c5S4 c5S5 c5L0 c5S6
def c5D0:GT:=(.one 0 (zmv 24 3 39)
 (.one 0 (zmv 25 4 3)
 (.one 0 (zix 26 39 24 25)
 (.one 0 (zmv 28 3 39)
 (.one 0 (zmv 29 4 3)
 (.one 0 (zix 30 39 28 29)
 (.one 0 (zfa 31 47 30 1)
 (.one 1 (zld 27 47 26 47)
 (.one 1 (zld 32 3 31 3)
 (.alt ⟨some 33,.call ⟨.value (.func 22),#[(.tmp 32)],#[3]⟩,25,none⟩
 (.alt ⟨some 34,.buildSlice 41 1 #[(0,(.tmp 33))],41,none⟩
 (.alt ⟨some 35,.call ⟨.value (.func 21),#[(.tmp 27),(.tmp 34),(.const (.int .i64 32768))],#[47,41,3]⟩,44,none⟩
 (.one 0 (zmv 23 35 44)
 (.one 0 ⟨some 36,.extract (.tmp 23) 0,43,none⟩
 (.one 0 ⟨some 37,.extract (.tmp 23) 1,3,none⟩
 (.one 2 ⟨some 5,.alloc 43,0,none⟩
 (.one 2 ⟨none,.store 43 (.tmp 5) (.tmp 36),0,none⟩
 (.one 0 (zas 6 37 3)
 .nil))))))
 (.alt ⟨some 5,.alloc 43,0,none⟩
 (.one 2 ⟨some 35,.call ⟨.value (.func 21),#[(.tmp 27),(.tmp 34),(.const (.int .i64 32768))],#[47,41,3]⟩,44,none⟩
 (.one 0 (zmv 23 35 44)
 (.one 0 ⟨some 36,.extract (.tmp 23) 0,43,none⟩
 (.one 0 ⟨some 37,.extract (.tmp 23) 1,3,none⟩
 (.one 2 ⟨none,.store 43 (.tmp 5) (.tmp 36),0,none⟩
 (.one 0 (zas 6 37 3)
 .nil))))))
 .stop))
 (.alt ⟨some 5,.alloc 43,0,none⟩
 (.one 2 ⟨some 34,.buildSlice 41 1 #[(0,(.tmp 33))],41,none⟩
 (.one 2 ⟨some 35,.call ⟨.value (.func 21),#[(.tmp 27),(.tmp 34),(.const (.int .i64 32768))],#[47,41,3]⟩,44,none⟩
 (.one 0 (zmv 23 35 44)
 (.one 0 ⟨some 36,.extract (.tmp 23) 0,43,none⟩
 (.one 0 ⟨some 37,.extract (.tmp 23) 1,3,none⟩
 (.one 2 ⟨none,.store 43 (.tmp 5) (.tmp 36),0,none⟩
 (.one 0 (zas 6 37 3)
 .nil)))))))
 .stop))
 (.alt ⟨some 5,.alloc 43,0,none⟩
 (.one 2 ⟨some 33,.call ⟨.value (.func 22),#[(.tmp 32)],#[3]⟩,25,none⟩
 (.one 2 ⟨some 34,.buildSlice 41 1 #[(0,(.tmp 33))],41,none⟩
 (.one 2 ⟨some 35,.call ⟨.value (.func 21),#[(.tmp 27),(.tmp 34),(.const (.int .i64 32768))],#[47,41,3]⟩,44,none⟩
 (.one 0 (zmv 23 35 44)
 (.one 0 ⟨some 36,.extract (.tmp 23) 0,43,none⟩
 (.one 0 ⟨some 37,.extract (.tmp 23) 1,3,none⟩
 (.one 2 ⟨none,.store 43 (.tmp 5) (.tmp 36),0,none⟩
 (.one 0 (zas 6 37 3)
 .nil))))))))
 .stop)))))))))))
theorem c5draw0{L:List Nat}{ρ:Env}{w:World}{Q:Post}(S:World→Prop)(hS:S w.drew)(h:DT Tryz.prog S c5D0 L ρ w.drew Q):drawW Tryz.prog (drawOps 0 c5code) L ρ w Q :=
 drawW_tree [3,8] (.one 0 0 (.one 0 1 (.one 0 2 (.one 0 4 (.one 0 5 (.one 0 6 (.one 0 7 (.one 1 3 (.one 1 8 (.alt 9 (.alt 10 (.alt 11 (.one 0 12 (.one 0 13 (.one 0 14 (.one 2 15 (.one 2 16 (.one 0 17 .nil)))))) (.alt 15 (.one 2 11 (.one 0 12 (.one 0 13 (.one 0 14 (.one 2 16 (.one 0 17 .nil)))))) .stop)) (.alt 15 (.one 2 10 (.one 2 11 (.one 0 12 (.one 0 13 (.one 0 14 (.one 2 16 (.one 0 17 .nil))))))) .stop)) (.alt 15 (.one 2 9 (.one 2 10 (.one 2 11 (.one 0 12 (.one 0 13 (.one 0 14 (.one 2 16 (.one 0 17 .nil)))))))) .stop))))))))))) c5D0 (by kernel_rfl) (by kernel_rfl) (by kernel_rfl) S hS h
theorem ent5(a0:Value)(w:World)(K:Value→World→Prop)(h:W Tryz.prog c5 [(0,a0)] w (finQ Tryz.prog [.tmp 2] K)):Ret Tryz.prog 5 [a0] w K :=
 Ret_of_W (code:=c5code) Tryz.func5 (by kernel_rfl) (by kernel_rfl) (of_decide_eq_true (by kernel_rfl)) h
@[go_sem] theorem go5:goFunc Tryz.prog 5=true:=by kernel_rfl
@[go_sem] theorem go6:goFunc Tryz.prog 6=true:=by kernel_rfl
@[go_sem] theorem go7:goFunc Tryz.prog 7=true:=by kernel_rfl
@[go_sem] theorem go8:goFunc Tryz.prog 8=true:=by kernel_rfl
@[go_sem] theorem go9:goFunc Tryz.prog 9=true:=by kernel_rfl
def c10code:Code:=match Tryz.f10.body with | some c=>c | none=>.skip
def c10S0(_:Unit):Cmd:=.ret
def c10S1(_:Unit):Cmd:=(.seq (.ops [
 zmv 16 5 26,
 ⟨some 17,.binOp .eql 26 (.tmp 16) (.const (.int .i64 0)) 26,4,none⟩,
 zmv 18 17 4,
 zmg 19 3 4 18 true,
 ⟨some 20,.pick (.tmp 18) (.tmp 19) (.const (.bool false)),4,none⟩,
 zmv 21 20 4,
 zmg 22 4 3 21 true,
 ⟨some 23,.binOp .eql 3 (.tmp 22) (.const (.int .i64 4)) 3,4,(some (21,true))⟩,
 ⟨some 24,.pick (.tmp 21) (.tmp 23) (.const (.bool false)),4,none⟩,
 zmv 25 24 4,
 zmg 26 2 25 25 true,
 ⟨some 27,.buildSlice 25 2 #[(0,(.const (.int .i64 2))),(1,(.const (.int .i64 1)))],25,(some (25,true))⟩,
 ⟨some 28,.call ⟨.value (.func 16),#[(.tmp 26),(.tmp 27)],#[25,25]⟩,4,(some (25,true))⟩,
 ⟨some 29,.pick (.tmp 25) (.tmp 28) (.const (.bool false)),4,none⟩,
 zmv 30 29 4,
 zmg 31 1 22 30 true,
 zmg 32 2 25 30 true,
 ⟨some 33,.call ⟨.value (.func 17),#[(.tmp 31),(.tmp 32)],#[22,25]⟩,4,(some (30,true))⟩,
 ⟨some 34,.pick (.tmp 30) (.tmp 33) (.const (.bool false)),4,none⟩,
 zas 0 34 4] [0]) (sg c10S0))
def c10:Cmd:=(.seq (.ops [
 ⟨some 0,.assign (.const (.bool false)),4,none⟩] [])
 (.seq (.ops [
 ⟨some 6,.build 52 #[(0,(.const (.int .i64 1))),(1,(.const (.int .i64 1))),(3,(.const (.int .i64 1))),(4,(.const (.int .i64 2))),(5,(.const (.int .i64 1))),(7,(.const (.bool true))),(9,(.const (.int .i64 1))),(10,(.const (.int .i64 2)))],52,none⟩,
 ⟨some 7,.build 52 #[(0,(.const (.int .i64 2))),(1,(.const (.int .i64 2))),(3,(.const (.int .i64 1))),(4,(.const (.int .i64 1))),(7,(.const (.bool true))),(9,(.const (.int .i64 3))),(10,(.const (.int .i64 4)))],52,none⟩,
 ⟨some 8,.buildSlice 22 2 #[(0,(.tmp 6)),(1,(.tmp 7))],22,none⟩,
 zas 1 8 22] [1])
 (.seq (.ops [
 zmv 10 1 22,
 ⟨some 11,.call ⟨.value (.func 11),#[(.tmp 10),(.const (.int .i64 99))],#[22,3]⟩,27,none⟩,
 zmv 9 11 27,
 ⟨some 12,.extract (.tmp 9) 0,25,none⟩,
 ⟨some 13,.extract (.tmp 9) 1,4,none⟩,
 ⟨some 14,.extract (.tmp 9) 2,3,none⟩,
 ⟨some 15,.extract (.tmp 9) 3,26,none⟩,
 zas 2 12 25,
 zas 3 13 4,
 zas 4 14 3,
 zas 5 15 26] [1,2,3,4,5]) (sg c10S1))))
attribute [go_sem] c10 c10S0
theorem ent10(w:World)(K:Value→World→Prop)(h:W Tryz.prog c10 [] w (finQ Tryz.prog [.tmp 0] K)):Ret Tryz.prog 10 [] w K :=
 Ret_of_W (code:=c10code) Tryz.func10 (by kernel_rfl) (by kernel_rfl) (of_decide_eq_true (by kernel_rfl)) h
@[go_sem] theorem go10:goFunc Tryz.prog 10=true:=by kernel_rfl
def c11code:Code:=match Tryz.f11.body with | some c=>c | none=>.skip
def c11S0(_:Unit):Cmd:=(.seq (.ops [
 zmv 24 10 26,
 ⟨some 25,.binOp .neq 26 (.tmp 24) (.const (.int .i64 0)) 26,4,none⟩] [0,1,10,16,17,18,25])
 (.cond (.tmp 25)
 (.seq (.ops [
 zmv 26 10 26,
 ⟨some 4,.assign (.const (.slice none 0 0)),25,none⟩,
 ⟨some 5,.assign (.const (.bool false)),4,none⟩,
 ⟨some 6,.assign (.const (.int .i64 0)),3,none⟩,
 zas 7 26 26] [4,5,6,7])
 .ret)
 (.skip [0,1,16,17,18])))
def c11S1(_:Unit):Cmd:=(.ops [
 ⟨some 27,.binOp .add 3 (.tmp 18) (.const (.int .i64 1)) 3,3,none⟩,
 zmv 18 27 3] [0,1,16,17,18])
def c11S2(_:Unit):Cmd:=(.seq (.block 1 (.seq (.ops [
 zix 20 22 16 18,
 zld 21 52 20 52,
 ⟨some 9,.alloc 52,0,none⟩,
 ⟨none,.store 52 (.tmp 9) (.tmp 21),0,none⟩] [0,1,9,16,17,18])
 (.seq (.ops [
 zld 22 52 9 52,
 ⟨some 23,.call ⟨.value (.func 28),#[(.tmp 22)],#[52]⟩,26,none⟩,
 zas 10 23 26] [0,1,10,16,17,18]) (sg c11S0)))) (sg c11S1))
def c11L0(_:Unit):Cmd:=(.seq (.ops [
 ⟨some 19,.binOp .lss 3 (.tmp 18) (.tmp 17) 3,0,none⟩] [0,1,16,17,18,19])
 (.seq (.cond (.tmp 19)
 (.skip [0,1,16,17,18])
 (.exit 0 [0,1])) (sg c11S2)))
def c11S3(_:Unit):Cmd:=(.cond (.tmp 34)
 (.seq (.ops [
 ⟨some 4,.assign (.const (.slice none 0 0)),25,none⟩,
 ⟨some 5,.assign (.const (.bool false)),4,none⟩,
 ⟨some 6,.assign (.const (.int .i64 0)),3,none⟩,
 ⟨some 7,.assign (.const (.int .i64 35)),26,none⟩] [4,5,6,7])
 .ret)
 (.skip [11]))
def c11S4(_:Unit):Cmd:=.ret
def c11S5(_:Unit):Cmd:=(.seq (.ops [
 zmv 53 11 54,
 ⟨some 54,.call ⟨.value (.func 32),#[(.tmp 53)],#[54]⟩,25,none⟩,
 zmv 55 12 3,
 zas 4 54 25,
 ⟨some 5,.assign (.const (.bool true)),4,none⟩,
 zas 6 55 3,
 ⟨some 7,.assign (.const (.int .i64 0)),26,none⟩] [4,5,6,7]) (sg c11S4))
def c11S6(_:Unit):Cmd:=(.seq (.ops [
 zmv 37 11 54,
 ⟨some 38,.nilCheck (.tmp 37),0,none⟩,
 zfa 39 60 38 2,
 zld 40 57 39 57,
 ⟨some 41,.call ⟨.builtin .len,#[(.tmp 40)],#[57]⟩,3,none⟩,
 zas 12 41 3] [11,12])
 (.seq (.seq (.ops [
 zmv 42 11 54,
 ⟨some 43,.nilCheck (.tmp 42),0,none⟩,
 zfa 44 60 43 2,
 zld 45 57 44 57,
 ⟨some 46,.indexAddr 57 (.tmp 45) (.const (.int .i64 0)),0,none⟩,
 zld 47 65 46 65,
 ⟨some 48,.nilCheck (.tmp 47),0,none⟩,
 zfa 49 64 48 4,
 zld 50 4 49 4,
 ⟨some 51,.unOp .not 4 (.tmp 50),4,none⟩] [11,12,51])
 (.cond (.tmp 51)
 (.seq (.ops [
 zmv 52 12 3,
 ⟨some 4,.assign (.const (.slice none 0 0)),25,none⟩,
 ⟨some 5,.assign (.const (.bool false)),4,none⟩,
 zas 6 52 3,
 ⟨some 7,.assign (.const (.int .i64 0)),26,none⟩] [4,5,6,7])
 .ret)
 (.skip [11,12]))) (sg c11S5)))
def c11S7(_:Unit):Cmd:=(.seq (.ops [
 zmv 35 11 54,
 ⟨some 36,.call ⟨.value (.func 31),#[(.tmp 35)],#[54]⟩,0,none⟩] [11]) (sg c11S6))
def c11S8(_:Unit):Cmd:=(.seq (.seq (.ops [
 zmv 32 11 54,
 ⟨some 33,.call ⟨.value (.func 30),#[(.tmp 32)],#[54]⟩,4,none⟩,
 ⟨some 34,.unOp .not 4 (.tmp 33),4,none⟩] [11,34]) (sg c11S3)) (sg c11S7))
def c11S9(_:Unit):Cmd:=(.seq (.ops [
 zmv 28 0 22,
 zmv 29 1 3,
 ⟨some 30,.call ⟨.builtin .min,#[(.tmp 29),(.const (.int .i64 32768))],#[3,3]⟩,3,none⟩,
 ⟨some 31,.call ⟨.value (.func 29),#[(.tmp 28),(.tmp 30)],#[22,3]⟩,54,none⟩,
 zas 11 31 54] [11]) (sg c11S8))
def c11S10(_:Unit):Cmd:=(.seq (.seq (.ops [
 zmv 16 0 22,
 ⟨some 17,.call ⟨.builtin .len,#[(.tmp 16)],#[22]⟩,3,none⟩,
 ⟨some 18,.move (.const (.int .i64 0)),3,none⟩] [0,1,16,17,18])
 (.block 0 (.loop (sg c11L0)))) (sg c11S9))
def c11:Cmd:=(.seq (.ops [
 ⟨some 4,.assign (.const (.slice none 0 0)),25,none⟩,
 ⟨some 5,.assign (.const (.bool false)),4,none⟩,
 ⟨some 6,.assign (.const (.int .i64 0)),3,none⟩,
 ⟨some 7,.assign (.const (.int .i64 0)),26,none⟩] [0,1])
 (.seq (.seq (.ops [
 zmv 13 0 22,
 ⟨some 14,.call ⟨.builtin .len,#[(.tmp 13)],#[22]⟩,3,none⟩,
 ⟨some 15,.binOp .gtr 3 (.tmp 14) (.const (.int .i64 64)) 3,4,none⟩] [0,1,15])
 (.cond (.tmp 15)
 (.seq (.ops [
 ⟨some 4,.assign (.const (.slice none 0 0)),25,none⟩,
 ⟨some 5,.assign (.const (.bool false)),4,none⟩,
 ⟨some 6,.assign (.const (.int .i64 0)),3,none⟩,
 ⟨some 7,.assign (.const (.int .i64 34)),26,none⟩] [4,5,6,7])
 .ret)
 (.skip [0,1]))) (sg c11S10)))
attribute [go_sem] c11 c11S1 c11S2 c11S5 c11S10
theorem ent11(a0 a1:Value)(w:World)(K:Value→World→Prop)(h:W Tryz.prog c11 [(0,a0),(1,a1)] w (finQ Tryz.prog [.tmp 4,.tmp 5,.tmp 6,.tmp 7] K)):Ret Tryz.prog 11 [a0,a1] w K :=
 Ret_of_W (code:=c11code) Tryz.func11 (by kernel_rfl) (by kernel_rfl) (of_decide_eq_true (by kernel_rfl)) h
@[go_sem] theorem go11:goFunc Tryz.prog 11=true:=by kernel_rfl
@[go_sem] theorem go12:goFunc Tryz.prog 12=true:=by kernel_rfl
@[go_sem] theorem go13:goFunc Tryz.prog 13=true:=by kernel_rfl
def c14code:Code:=match Tryz.f14.body with | some c=>c | none=>.skip
def c14S0(_:Unit):Cmd:=(.ops [
 zmv 15 8 3,
 ⟨some 16,.binOp .add 3 (.tmp 15) (.const (.int .i64 1)) 3,3,none⟩,
 zas 8 16 3] [0,3,4,5,6,7,8])
def c14S1(_:Unit):Cmd:=(.seq (.block 3 (.seq (.ops [
 zmv 17 5 4,
 ⟨some 18,.unOp .not 4 (.tmp 17),4,none⟩,
 zmv 19 18 4,
 zmg 20 0 22 19 false,
 zmg 21 8 3 19 false,
 ⟨some 22,.indexAddr 22 (.tmp 20) (.tmp 21),0,(some (19,false))⟩,
 ⟨some 23,.fieldAddr 52 (.tmp 22) 1,0,(some (19,false))⟩,
 ⟨some 24,.load 3 (.tmp 23),3,(some (19,false))⟩,
 zmg 25 4 3 19 false,
 ⟨some 26,.binOp .gtr 3 (.tmp 24) (.tmp 25) 3,4,(some (19,false))⟩,
 ⟨some 27,.pick (.tmp 19) (.const (.bool true)) (.tmp 26),4,none⟩,
 zmv 28 27 4,
 zmg 29 7 4 28 true,
 ⟨some 30,.unOp .not 4 (.tmp 29),4,(some (28,true))⟩,
 zmg 31 30 4 28 true,
 zmg 32 0 22 31 false,
 zmg 33 8 3 31 false,
 ⟨some 34,.indexAddr 22 (.tmp 32) (.tmp 33),0,(some (31,false))⟩,
 ⟨some 35,.fieldAddr 52 (.tmp 34) 1,0,(some (31,false))⟩,
 ⟨some 36,.load 3 (.tmp 35),3,(some (31,false))⟩,
 zmg 37 6 3 31 false,
 ⟨some 38,.binOp .lss 3 (.tmp 36) (.tmp 37) 3,4,(some (31,false))⟩,
 ⟨some 39,.pick (.tmp 31) (.const (.bool true)) (.tmp 38),4,(some (28,true))⟩,
 ⟨some 40,.pick (.tmp 28) (.tmp 39) (.const (.bool false)),4,none⟩] [0,3,4,5,6,7,8,40])
 (.cond (.tmp 40)
 (.ops [
 zmv 41 0 22,
 zmv 42 8 3,
 zix 43 22 41 42,
 zfa 44 52 43 1,
 zld 45 3 44 3,
 zas 6 45 3,
 ⟨some 7,.assign (.const (.bool true)),4,none⟩] [0,3,4,5,6,7,8])
 (.skip [0,3,4,5,6,7,8])))) (sg c14S0))
def c14L0(_:Unit):Cmd:=(.seq (.seq (.ops [
 zmv 11 8 3,
 zmv 12 0 22,
 ⟨some 13,.call ⟨.builtin .len,#[(.tmp 12)],#[22]⟩,3,none⟩,
 ⟨some 14,.binOp .lss 3 (.tmp 11) (.tmp 13) 3,4,none⟩] [0,3,4,5,6,7,8,14])
 (.cond (.tmp 14)
 (.skip [0,3,4,5,6,7,8])
 (.exit 2 [0,3,6,7]))) (sg c14S1))
def c14S2(_:Unit):Cmd:=(.ops [
 zmv 53 10 3,
 ⟨some 54,.binOp .add 3 (.tmp 53) (.const (.int .i64 1)) 3,3,none⟩,
 zas 10 54 3] [0,3,6,9,10])
def c14S3(_:Unit):Cmd:=(.seq (.block 5 (.seq (.ops [
 zmv 55 0 22,
 zmv 56 10 3,
 zix 57 22 55 56,
 zfa 58 52 57 1,
 zld 59 3 58 3,
 zmv 60 6 3,
 ⟨some 61,.binOp .eql 3 (.tmp 59) (.tmp 60) 3,4,none⟩] [0,3,6,9,10,61])
 (.cond (.tmp 61)
 (.ops [
 zmv 62 9 22,
 zmv 63 0 22,
 zmv 64 10 3,
 zix 65 22 63 64,
 zld 66 52 65 52,
 ⟨some 67,.buildSlice 22 1 #[(0,(.tmp 66))],22,none⟩,
 ⟨some 68,.call ⟨.builtin .append,#[(.tmp 62),(.tmp 67)],#[22,22]⟩,22,none⟩,
 zas 9 68 22] [0,3,6,9,10])
 (.skip [0,3,6,9,10])))) (sg c14S2))
def c14L1(_:Unit):Cmd:=(.seq (.seq (.ops [
 zmv 49 10 3,
 zmv 50 0 22,
 ⟨some 51,.call ⟨.builtin .len,#[(.tmp 50)],#[22]⟩,3,none⟩,
 ⟨some 52,.binOp .lss 3 (.tmp 49) (.tmp 51) 3,4,none⟩] [0,3,6,9,10,52])
 (.cond (.tmp 52)
 (.skip [0,3,6,9,10])
 (.exit 4 [0,3,6,9]))) (sg c14S3))
def c14S4(_:Unit):Cmd:=(.ops [
 zmv 74 6 3,
 zas 4 74 3,
 ⟨some 5,.assign (.const (.bool true)),4,none⟩] [0,3,4,5])
def c14S5(_:Unit):Cmd:=(.seq (.ops [
 zmv 69 3 31,
 zmv 70 9 22,
 ⟨some 71,.call ⟨.value (.func 36),#[(.tmp 70)],#[22]⟩,22,none⟩,
 ⟨some 72,.buildSlice 31 1 #[(0,(.tmp 71))],31,none⟩,
 ⟨some 73,.call ⟨.builtin .append,#[(.tmp 69),(.tmp 72)],#[31,31]⟩,31,none⟩,
 zas 3 73 31] [0,3,6]) (sg c14S4))
def c14S6(_:Unit):Cmd:=(.seq (.ops [
 ⟨some 9,.assign (.const (.slice none 0 0)),22,none⟩] [0,3,6,9])
 (.seq (.seq (.ops [
 ⟨some 10,.assign (.const (.int .i64 0)),3,none⟩] [0,3,6,9,10])
 (.block 4 (.loop (sg c14L1)))) (sg c14S5)))
def c14S7(_:Unit):Cmd:=(.seq (.seq (.ops [
 zmv 46 7 4,
 ⟨some 47,.unOp .not 4 (.tmp 46),4,none⟩] [0,3,6,47])
 (.cond (.tmp 47)
 (.seq (.ops [
 zmv 48 3 31,
 zas 2 48 31] [2])
 .ret)
 (.skip [0,3,6]))) (sg c14S6))
def c14L2(_:Unit):Cmd:=(.block 1 (.seq (.ops [
 ⟨some 6,.assign (.const (.int .i64 0)),3,none⟩,
 ⟨some 7,.assign (.const (.bool false)),4,none⟩] [0,3,4,5,6,7])
 (.seq (.seq (.ops [
 ⟨some 8,.assign (.const (.int .i64 0)),3,none⟩] [0,3,4,5,6,7,8])
 (.block 2 (.loop (sg c14L0)))) (sg c14S7))))
def c14:Cmd:=(.seq (.ops [
 ⟨some 2,.assign (.const (.slice none 0 0)),31,none⟩] [0])
 (.seq (.ops [
 ⟨some 3,.assign (.const (.slice none 0 0)),31,none⟩] [0,3])
 (.seq (.ops [
 ⟨some 4,.assign (.const (.int .i64 0)),3,none⟩,
 ⟨some 5,.assign (.const (.bool false)),4,none⟩] [0,3,4,5])
 (.block 0 (.loop (sg c14L2))))))
attribute [go_sem] c14 c14S0 c14S1 c14L0 c14S2 c14S3 c14L1 c14S4 c14L2
theorem ent14(a0:Value)(w:World)(K:Value→World→Prop)(h:W Tryz.prog c14 [(0,a0)] w (finQ Tryz.prog [.tmp 2] K)):Ret Tryz.prog 14 [a0] w K :=
 Ret_of_W (code:=c14code) Tryz.func14 (by kernel_rfl) (by kernel_rfl) (of_decide_eq_true (by kernel_rfl)) h
@[go_sem] theorem go14:goFunc Tryz.prog 14=true:=by kernel_rfl
@[go_sem] theorem go15:goFunc Tryz.prog 15=true:=by kernel_rfl
def c16code:Code:=match Tryz.f16.body with | some c=>c | none=>.skip
def c16S0(_:Unit):Cmd:=(.cond (.tmp 25)
 (.seq (.ops [
 ⟨some 4,.assign (.const (.bool false)),4,none⟩] [4])
 .ret)
 (.skip [0,1,5]))
def c16S1(_:Unit):Cmd:=(.ops [
 zmv 15 5 3,
 ⟨some 16,.binOp .add 3 (.tmp 15) (.const (.int .i64 1)) 3,3,none⟩,
 zas 5 16 3] [0,1,5])
def c16S2(_:Unit):Cmd:=(.seq (.block 1 (.seq (.draw (drawOps 0 c16code) [0,1,5,25]) (sg c16S0))) (sg c16S1))
def c16L0(_:Unit):Cmd:=(.seq (.seq (.ops [
 zmv 11 5 3,
 zmv 12 0 25,
 ⟨some 13,.call ⟨.builtin .len,#[(.tmp 12)],#[25]⟩,3,none⟩,
 ⟨some 14,.binOp .lss 3 (.tmp 11) (.tmp 13) 3,4,none⟩] [0,1,5,14])
 (.cond (.tmp 14)
 (.skip [0,1,5])
 (.exit 0 []))) (sg c16S2))
def c16S3(_:Unit):Cmd:=(.seq (.ops [
 ⟨some 4,.assign (.const (.bool true)),4,none⟩] [4])
 .ret)
def c16S4(_:Unit):Cmd:=(.seq (.seq (.ops [
 ⟨some 5,.assign (.const (.int .i64 0)),3,none⟩] [0,1,5])
 (.block 0 (.loop (sg c16L0)))) (sg c16S3))
def c16:Cmd:=(.seq (.ops [
 ⟨some 4,.assign (.const (.bool false)),4,none⟩] [0,1])
 (.seq (.seq (.ops [
 zmv 6 0 25,
 ⟨some 7,.call ⟨.builtin .len,#[(.tmp 6)],#[25]⟩,3,none⟩,
 zmv 8 1 25,
 ⟨some 9,.call ⟨.builtin .len,#[(.tmp 8)],#[25]⟩,3,none⟩,
 ⟨some 10,.binOp .neq 3 (.tmp 7) (.tmp 9) 3,4,none⟩] [0,1,10])
 (.cond (.tmp 10)
 (.seq (.ops [
 ⟨some 4,.assign (.const (.bool false)),4,none⟩] [4])
 .ret)
 (.skip [0,1]))) (sg c16S4)))
attribute [go_sem] c16 c16S0 c16S1 c16S2 c16L0 c16S3 c16S4
def c16D0:List (Bool × Ins):=[
 (true,zmv 17 0 25),
 (true,zmv 18 5 3),
 (true,zix 19 25 17 18),
 (false,zld 20 3 19 3),
 (true,zmv 21 1 25),
 (true,zmv 22 5 3),
 (true,zix 23 25 21 22),
 (false,zld 24 3 23 3),
 (true,⟨some 25,.binOp .neq 3 (.tmp 20) (.tmp 24) 3,4,none⟩)]
theorem c16draw0{L:List Nat}{ρ:Env}{w:World}{Q:Post}(h:DL Tryz.prog c16D0 L ρ w.drew Q):drawW Tryz.prog (drawOps 0 c16code) L ρ w Q :=
 drawW_still [true,true,true,false,true,true,true,false,true] c16D0 (by kernel_rfl) (by kernel_rfl) (by kernel_rfl) h
theorem ent16(a0 a1:Value)(w:World)(K:Value→World→Prop)(h:W Tryz.prog c16 [(0,a0),(1,a1)] w (finQ Tryz.prog [.tmp 4] K)):Ret Tryz.prog 16 [a0,a1] w K :=
 Ret_of_W (code:=c16code) Tryz.func16 (by kernel_rfl) (by kernel_rfl) (of_decide_eq_true (by kernel_rfl)) h
@[go_sem] theorem go16:goFunc Tryz.prog 16=true:=by kernel_rfl
def c17code:Code:=match Tryz.f17.body with | some c=>c | none=>.skip
def c17S0(_:Unit):Cmd:=(.seq (.block 1 (.seq (.ops [
 zmv 29 27 3,
 zix 30 31 25 27,
 zld 31 22 30 22,
 zas 9 29 3,
 zas 10 31 22] [0,1,5,6,7,8,9,10,25,26,27])
 (.ops [
 zmv 32 8 56,
 zmv 33 10 22,
 ⟨some 34,.indexAddr 22 (.tmp 33) (.const (.int .i64 0)),0,none⟩,
 zfa 35 52 34 1,
 zld 36 3 35 3,
 zmv 37 9 3,
 ⟨none,.mapUpdate 56 (.tmp 32) (.tmp 36) (.tmp 37),0,none⟩] [0,1,5,6,7,8,25,26,27])))
 (.ops [
 ⟨some 38,.binOp .add 3 (.tmp 27) (.const (.int .i64 1)) 3,3,none⟩,
 zmv 27 38 3] [0,1,5,6,7,8,25,26,27]))
def c17L0(_:Unit):Cmd:=(.seq (.ops [
 ⟨some 28,.binOp .lss 3 (.tmp 27) (.tmp 26) 3,0,none⟩] [0,1,5,6,7,8,25,26,27,28])
 (.seq (.cond (.tmp 28)
 (.skip [0,1,5,6,7,8,25,26,27])
 (.exit 0 [0,1,5,6,7,8])) (sg c17S0)))
def c17S1(_:Unit):Cmd:=(.cond (.tmp 79)
 (.seq (.ops [
 ⟨some 4,.assign (.const (.bool false)),4,none⟩] [4])
 .ret)
 (.skip [0,5,6,7,8,14,39,40,41]))
def c17S2(_:Unit):Cmd:=(.seq (.ops [
 zmv 101 17 4,
 ⟨some 102,.unOp .not 4 (.tmp 101),4,none⟩] [0,5,6,7,8,14,39,40,41,102])
 (.cond (.tmp 102)
 (.seq (.ops [
 ⟨some 4,.assign (.const (.bool false)),4,none⟩] [4])
 .ret)
 (.skip [0,5,6,7,8,14,39,40,41])))
def c17S3(_:Unit):Cmd:=(.ops [
 zmv 103 6 56,
 zfa 104 52 14 1,
 zld 105 3 104 3,
 ⟨some 106,.lookup 56 (.tmp 103) (.tmp 105) false,3,none⟩,
 ⟨some 107,.binOp .add 3 (.tmp 106) (.const (.int .i64 1)) 3,3,none⟩,
 ⟨none,.mapUpdate 56 (.tmp 103) (.tmp 105) (.tmp 107),0,none⟩] [0,5,6,7,8,39,40,41])
def c17S4(_:Unit):Cmd:=(.seq (.seq (.draw (drawOps 1 c17code) [0,5,6,7,8,14,17,39,40,41]) (sg c17S2)) (sg c17S3))
def c17S5(_:Unit):Cmd:=(.seq (.ops [
 zmv 81 5 78,
 zfa 82 52 14 2,
 zld 83 3 82 3,
 ⟨some 84,.lookup 78 (.tmp 81) (.tmp 83) true,81,none⟩,
 zmv 80 84 81,
 ⟨some 85,.extract (.tmp 80) 0,25,none⟩,
 ⟨some 86,.extract (.tmp 80) 1,4,none⟩,
 zas 16 85 25,
 zas 17 86 4] [0,5,6,7,8,14,16,17,39,40,41])
 (.seq (.seq (.ops [
 zmv 87 17 4,
 ⟨some 88,.unOp .not 4 (.tmp 87),4,none⟩] [0,5,6,7,8,14,16,39,40,41,88])
 (.cond (.tmp 88)
 (.ops [
 zfa 89 52 14 3,
 zld 90 3 89 3,
 ⟨some 91,.call ⟨.value (.func 40),#[(.tmp 90)],#[3]⟩,25,none⟩,
 zas 16 91 25] [0,5,6,7,8,14,16,39,40,41])
 (.skip [0,5,6,7,8,14,16,39,40,41]))) (sg c17S4)))
def c17S6(_:Unit):Cmd:=(.seq (.ops [
 zmv 50 0 22,
 zmv 51 13 3,
 zix 52 22 50 51,
 zld 53 52 52 52,
 ⟨some 14,.alloc 52,0,none⟩,
 ⟨none,.store 52 (.tmp 14) (.tmp 53),0,none⟩] [0,5,6,7,8,12,14,39,40,41])
 (.seq (.ops [
 zmv 54 7 31,
 zmv 55 8 56,
 zfa 56 52 14 1,
 zld 57 3 56 3,
 ⟨some 58,.lookup 56 (.tmp 55) (.tmp 57) false,3,none⟩,
 zix 59 31 54 58,
 zld 60 22 59 22,
 zas 15 60 22] [0,5,6,7,8,12,14,15,39,40,41])
 (.seq (.seq (.draw (drawOps 0 c17code) [0,5,6,7,8,14,39,40,41,79]) (sg c17S1)) (sg c17S5))))
def c17S7(_:Unit):Cmd:=(.seq (.seq (.ops [
 zmv 48 13 3,
 ⟨some 49,.binOp .lss 3 (.tmp 48) (.const (.int .i64 0)) 3,4,none⟩] [0,5,6,7,8,12,13,39,40,41,49])
 (.cond (.tmp 49)
 (.seq (.ops [
 ⟨some 4,.assign (.const (.bool false)),4,none⟩] [4])
 .ret)
 (.skip [0,5,6,7,8,12,13,39,40,41]))) (sg c17S6))
def c17S8(_:Unit):Cmd:=(.ops [
 ⟨some 108,.binOp .add 3 (.tmp 41) (.const (.int .i64 1)) 3,3,none⟩,
 zmv 41 108 3] [0,5,6,7,8,39,40,41])
def c17S9(_:Unit):Cmd:=(.seq (.block 3 (.seq (.ops [
 zix 43 25 39 41,
 zld 44 3 43 3,
 ⟨some 12,.alloc 3,0,none⟩,
 ⟨none,.store 3 (.tmp 12) (.tmp 44),0,none⟩] [0,5,6,7,8,12,39,40,41])
 (.seq (.ops [
 zmv 45 0 22,
 ⟨some 46,.makeFunc (.func 39) #[] #[(.tmp 12)],80,none⟩,
 ⟨some 47,.call ⟨.value (.func 38),#[(.tmp 45),(.tmp 46)],#[22,80]⟩,3,none⟩,
 zas 13 47 3] [0,5,6,7,8,12,13,39,40,41]) (sg c17S7)))) (sg c17S8))
def c17L1(_:Unit):Cmd:=(.seq (.ops [
 ⟨some 42,.binOp .lss 3 (.tmp 41) (.tmp 40) 3,0,none⟩] [0,5,6,7,8,39,40,41,42])
 (.seq (.cond (.tmp 42)
 (.skip [0,5,6,7,8,39,40,41])
 (.exit 2 [6,7])) (sg c17S9)))
def c17S10(_:Unit):Cmd:=(.cond (.tmp 123)
 (.seq (.ops [
 ⟨some 4,.assign (.const (.bool false)),4,none⟩] [4])
 .ret)
 (.skip [6,109,110,111]))
def c17S11(_:Unit):Cmd:=(.ops [
 ⟨some 124,.binOp .add 3 (.tmp 111) (.const (.int .i64 1)) 3,3,none⟩,
 zmv 111 124 3] [6,109,110,111])
def c17S12(_:Unit):Cmd:=(.seq (.block 5 (.seq (.ops [
 zix 113 31 109 111,
 zld 114 22 113 22,
 zas 19 114 22] [6,19,109,110,111])
 (.seq (.ops [
 zmv 115 19 22,
 zmv 116 6 56,
 zmv 117 19 22,
 ⟨some 118,.indexAddr 22 (.tmp 117) (.const (.int .i64 0)),0,none⟩,
 zfa 119 52 118 1,
 zld 120 3 119 3,
 ⟨some 121,.lookup 56 (.tmp 116) (.tmp 120) false,3,none⟩,
 ⟨some 122,.slice 22 (.tmp 115) (some (.tmp 121)) none none,22,none⟩,
 ⟨some 123,.call ⟨.value (.func 42),#[(.tmp 122),(.func 43)],#[22,80]⟩,4,none⟩] [6,109,110,111,123]) (sg c17S10)))) (sg c17S11))
def c17L2(_:Unit):Cmd:=(.seq (.ops [
 ⟨some 112,.binOp .lss 3 (.tmp 111) (.tmp 110) 3,0,none⟩] [6,109,110,111,112])
 (.seq (.cond (.tmp 112)
 (.skip [6,109,110,111])
 (.exit 4 [])) (sg c17S12)))
def c17S13(_:Unit):Cmd:=(.seq (.ops [
 ⟨some 4,.assign (.const (.bool true)),4,none⟩] [4])
 .ret)
def c17S14(_:Unit):Cmd:=(.seq (.seq (.ops [
 zmv 109 7 31,
 ⟨some 110,.call ⟨.builtin .len,#[(.tmp 109)],#[31]⟩,3,none⟩,
 ⟨some 111,.move (.const (.int .i64 0)),3,none⟩] [6,109,110,111])
 (.block 4 (.loop (sg c17L2)))) (sg c17S13))
def c17S15(_:Unit):Cmd:=(.seq (.seq (.ops [
 zmv 39 1 25,
 ⟨some 40,.call ⟨.builtin .len,#[(.tmp 39)],#[25]⟩,3,none⟩,
 ⟨some 41,.move (.const (.int .i64 0)),3,none⟩] [0,5,6,7,8,39,40,41])
 (.block 2 (.loop (sg c17L1)))) (sg c17S14))
def c17S16(_:Unit):Cmd:=(.seq (.ops [
 ⟨some 24,.makeMap 56 none,56,none⟩,
 zas 8 24 56] [0,1,5,6,7,8])
 (.seq (.seq (.ops [
 zmv 25 7 31,
 ⟨some 26,.call ⟨.builtin .len,#[(.tmp 25)],#[31]⟩,3,none⟩,
 ⟨some 27,.move (.const (.int .i64 0)),3,none⟩] [0,1,5,6,7,8,25,26,27])
 (.block 0 (.loop (sg c17L0)))) (sg c17S15)))
def c17:Cmd:=(.seq (.ops [
 ⟨some 4,.assign (.const (.bool false)),4,none⟩] [0,1])
 (.seq (.ops [
 ⟨some 20,.makeMap 78 none,78,none⟩,
 zas 5 20 78] [0,1,5])
 (.seq (.ops [
 ⟨some 21,.makeMap 56 none,56,none⟩,
 zas 6 21 56] [0,1,5,6])
 (.seq (.ops [
 zmv 22 0 22,
 ⟨some 23,.call ⟨.value (.func 24),#[(.tmp 22)],#[22]⟩,31,none⟩,
 zas 7 23 31] [0,1,5,6,7]) (sg c17S16)))))
attribute [go_sem] c17 c17S0 c17S6 c17S8 c17S9 c17S11 c17S12 c17S13
def c17D0:List (Nat × Ins):=[
 (0,zmv 61 6 56),
 (0,zfa 62 52 14 1),
 (0,zmv 65 15 22),
 (0,⟨some 66,.call ⟨.builtin .len,#[(.tmp 65)],#[22]⟩,3,none⟩),
 (2,zld 63 3 62 3),
 (2,⟨some 64,.lookup 56 (.tmp 61) (.tmp 63) false,3,none⟩),
 (0,⟨some 67,.binOp .geq 3 (.tmp 64) (.tmp 66) 3,4,none⟩),
 (0,zmv 68 67 4),
 (0,zmg 69 15 22 68 false),
 (0,zmg 70 6 56 68 false),
 (0,⟨some 71,.fieldAddr 52 (.tmp 14) 1,0,(some (68,false))⟩),
 (1,⟨some 72,.load 3 (.tmp 71),3,(some (68,false))⟩),
 (1,⟨some 77,.load 3 (.tmp 12),3,(some (68,false))⟩),
 (2,⟨some 73,.lookup 56 (.tmp 70) (.tmp 72) false,3,(some (68,false))⟩),
 (0,⟨some 74,.indexAddr 22 (.tmp 69) (.tmp 73),0,(some (68,false))⟩),
 (0,⟨some 75,.fieldAddr 52 (.tmp 74) 0,0,(some (68,false))⟩),
 (2,⟨some 76,.load 3 (.tmp 75),3,(some (68,false))⟩),
 (0,⟨some 78,.binOp .neq 3 (.tmp 76) (.tmp 77) 3,4,(some (68,false))⟩),
 (0,⟨some 79,.pick (.tmp 68) (.const (.bool true)) (.tmp 78),4,none⟩)]
theorem c17draw0{L:List Nat}{ρ:Env}{w:World}{Q:Post}(S:World→Prop)(hS:S w.drew)(h:DG Tryz.prog S c17D0 L ρ w.drew Q):drawW Tryz.prog (drawOps 0 c17code) L ρ w Q :=
 drawW_held [11,16] [(0,0),(0,1),(0,4),(0,5),(2,2),(2,3),(0,6),(0,7),(0,8),(0,9),(0,10),(1,11),(1,16),(2,12),(0,13),(0,14),(2,15),(0,17),(0,18)] c17D0 (by kernel_rfl) (by kernel_rfl) (by kernel_rfl) S hS h
def c17D1:List (Nat × Ins):=[
 (0,zmv 93 5 78),
 (0,zfa 94 52 14 2),
 (0,zmv 96 16 25),
 (1,zld 95 3 94 3),
 (2,zld 97 52 14 52),
 (2,⟨some 98,.call ⟨.value (.func 41),#[(.tmp 96),(.tmp 97)],#[25,52]⟩,81,none⟩),
 (0,zmv 92 98 81),
 (0,⟨some 99,.extract (.tmp 92) 0,25,none⟩),
 (0,⟨some 100,.extract (.tmp 92) 1,4,none⟩),
 (3,⟨none,.mapUpdate 78 (.tmp 93) (.tmp 95) (.tmp 99),0,none⟩),
 (0,zas 17 100 4)]
theorem c17draw1{L:List Nat}{ρ:Env}{w:World}{Q:Post}(S:World→Prop)(hS:S w.drew)(h:DG Tryz.prog S c17D1 L ρ w.drew Q):drawW Tryz.prog (drawOps 1 c17code) L ρ w Q :=
 drawW_held [2] [(0,0),(0,1),(0,3),(1,2),(2,4),(2,5),(0,6),(0,7),(0,8),(3,9),(0,10)] c17D1 (by kernel_rfl) (by kernel_rfl) (by kernel_rfl) S hS h
theorem ent17(a0 a1:Value)(w:World)(K:Value→World→Prop)(h:W Tryz.prog c17 [(0,a0),(1,a1)] w (finQ Tryz.prog [.tmp 4] K)):Ret Tryz.prog 17 [a0,a1] w K :=
 Ret_of_W (code:=c17code) Tryz.func17 (by kernel_rfl) (by kernel_rfl) (of_decide_eq_true (by kernel_rfl)) h
@[go_sem] theorem go17:goFunc Tryz.prog 17=true:=by kernel_rfl
def c18code:Code:=match Tryz.f18.body with | some c=>c | none=>.skip
def c18S0(_:Unit):Cmd:=(.seq (.ops [
 zmv 79 11 68,
 zas 7 79 68] [1,5,6,7,8,10])
 (.seq (.ops [
 zmv 80 6 25,
 zmv 81 10 3,
 zix 82 25 80 81,
 zld 83 3 82 3,
 ⟨some 84,.binOp .add 3 (.tmp 83) (.const (.int .i64 1)) 3,3,none⟩,
 zix 85 25 80 81,
 ⟨none,.store 3 (.tmp 85) (.tmp 84),0,none⟩] [1,5,6,7,8,10])
 (.ops [
 ⟨some 9,.assign (.const (.bool true)),4,none⟩] [1,5,6,7,8,9,10])))
def c18S1(_:Unit):Cmd:=(.seq (.seq (.ops [
 zmv 77 12 4,
 ⟨some 78,.unOp .not 4 (.tmp 77),4,none⟩] [1,5,6,8,10,11,78])
 (.cond (.tmp 78)
 (.seq (.ops [
 ⟨some 4,.assign (.const (.bool false)),4,none⟩] [4])
 .ret)
 (.skip [1,5,6,8,10,11]))) (sg c18S0))
def c18S2(_:Unit):Cmd:=(.cond (.tmp 61)
 (.seq (.draw (drawOps 1 c18code) [1,5,6,8,10,11,12]) (sg c18S1))
 (.skip [1,5,6,7,8,9,10]))
def c18S3(_:Unit):Cmd:=(.ops [
 zmv 32 10 3,
 ⟨some 33,.binOp .add 3 (.tmp 32) (.const (.int .i64 1)) 3,3,none⟩,
 zas 10 33 3] [1,5,6,7,8,9,10])
def c18S4(_:Unit):Cmd:=(.seq (.block 3 (.seq (.draw (drawOps 0 c18code) [1,5,6,7,8,9,10,61]) (sg c18S2))) (sg c18S3))
def c18L0(_:Unit):Cmd:=(.seq (.seq (.ops [
 zmv 24 10 3,
 zmv 25 5 31,
 ⟨some 26,.call ⟨.builtin .len,#[(.tmp 25)],#[31]⟩,3,none⟩,
 ⟨some 27,.binOp .lss 3 (.tmp 24) (.tmp 26) 3,4,none⟩,
 zmv 28 27 4,
 zmg 29 9 4 28 true,
 ⟨some 30,.unOp .not 4 (.tmp 29),4,(some (28,true))⟩,
 ⟨some 31,.pick (.tmp 28) (.tmp 30) (.const (.bool false)),4,none⟩] [1,5,6,7,8,9,10,31])
 (.cond (.tmp 31)
 (.skip [1,5,6,7,8,9,10])
 (.exit 2 [1,5,6,7,8,9]))) (sg c18S4))
def c18S5(_:Unit):Cmd:=(.seq (.ops [
 zmv 86 9 4,
 ⟨some 87,.unOp .not 4 (.tmp 86),4,none⟩] [1,5,6,7,8,87])
 (.cond (.tmp 87)
 (.seq (.ops [
 ⟨some 4,.assign (.const (.bool false)),4,none⟩] [4])
 .ret)
 (.skip [1,5,6,7,8])))
def c18S6(_:Unit):Cmd:=(.ops [
 zmv 22 8 3,
 ⟨some 23,.binOp .add 3 (.tmp 22) (.const (.int .i64 1)) 3,3,none⟩,
 zas 8 23 3] [1,5,6,7,8])
def c18S7(_:Unit):Cmd:=(.seq (.block 1 (.seq (.ops [
 ⟨some 9,.assign (.const (.bool false)),4,none⟩] [1,5,6,7,8,9])
 (.seq (.seq (.ops [
 ⟨some 10,.assign (.const (.int .i64 0)),3,none⟩] [1,5,6,7,8,9,10])
 (.block 2 (.loop (sg c18L0)))) (sg c18S5)))) (sg c18S6))
def c18L1(_:Unit):Cmd:=(.seq (.seq (.ops [
 zmv 18 8 3,
 zmv 19 1 25,
 ⟨some 20,.call ⟨.builtin .len,#[(.tmp 19)],#[25]⟩,3,none⟩,
 ⟨some 21,.binOp .lss 3 (.tmp 18) (.tmp 20) 3,4,none⟩] [1,5,6,7,8,21])
 (.cond (.tmp 21)
 (.skip [1,5,6,7,8])
 (.exit 0 [5,6]))) (sg c18S7))
def c18S8(_:Unit):Cmd:=.ret
def c18S9(_:Unit):Cmd:=(.seq (.ops [
 zmv 88 5 31,
 zmv 89 6 25,
 ⟨some 90,.call ⟨.value (.func 37),#[(.tmp 88),(.tmp 89)],#[31,25]⟩,4,none⟩,
 zas 4 90 4] [4]) (sg c18S8))
def c18S10(_:Unit):Cmd:=(.seq (.ops [
 zmv 15 5 31,
 ⟨some 16,.call ⟨.builtin .len,#[(.tmp 15)],#[31]⟩,3,none⟩,
 ⟨some 17,.makeSlice 25 (.tmp 16) (.tmp 16),25,none⟩,
 zas 6 17 25] [1,5,6])
 (.seq (.ops [
 ⟨some 7,.assign (.const (.slice none 0 0)),68,none⟩] [1,5,6,7])
 (.seq (.seq (.ops [
 ⟨some 8,.assign (.const (.int .i64 0)),3,none⟩] [1,5,6,7,8])
 (.block 0 (.loop (sg c18L1)))) (sg c18S9))))
def c18:Cmd:=(.seq (.ops [
 ⟨some 4,.assign (.const (.bool false)),4,none⟩] [0,1])
 (.seq (.ops [
 zmv 13 0 22,
 ⟨some 14,.call ⟨.value (.func 14),#[(.tmp 13)],#[22]⟩,31,none⟩,
 zas 5 14 31] [1,5]) (sg c18S10)))
attribute [go_sem] c18 c18S0 c18S3 c18S4 c18S6 c18S7 c18S8
def c18D0:List (Bool × Ins):=[
 (true,zmv 34 6 25),
 (true,zmv 35 10 3),
 (true,zix 36 25 34 35),
 (false,zld 37 3 36 3),
 (true,zmv 38 5 31),
 (true,zmv 39 10 3),
 (true,zix 40 31 38 39),
 (false,zld 41 22 40 22),
 (true,⟨some 42,.call ⟨.builtin .len,#[(.tmp 41)],#[22]⟩,3,none⟩),
 (true,⟨some 43,.binOp .lss 3 (.tmp 37) (.tmp 42) 3,4,none⟩),
 (true,zmv 44 43 4),
 (true,zmg 45 5 31 44 true),
 (true,zmg 46 10 3 44 true),
 (true,⟨some 47,.indexAddr 31 (.tmp 45) (.tmp 46),0,(some (44,true))⟩),
 (false,⟨some 48,.load 22 (.tmp 47),22,(some (44,true))⟩),
 (true,zmg 49 6 25 44 true),
 (true,zmg 50 10 3 44 true),
 (true,⟨some 51,.indexAddr 25 (.tmp 49) (.tmp 50),0,(some (44,true))⟩),
 (false,⟨some 52,.load 3 (.tmp 51),3,(some (44,true))⟩),
 (true,⟨some 53,.indexAddr 22 (.tmp 48) (.tmp 52),0,(some (44,true))⟩),
 (true,⟨some 54,.fieldAddr 52 (.tmp 53) 0,0,(some (44,true))⟩),
 (false,⟨some 55,.load 3 (.tmp 54),3,(some (44,true))⟩),
 (true,zmg 56 1 25 44 true),
 (true,zmg 57 8 3 44 true),
 (true,⟨some 58,.indexAddr 25 (.tmp 56) (.tmp 57),0,(some (44,true))⟩),
 (false,⟨some 59,.load 3 (.tmp 58),3,(some (44,true))⟩),
 (true,⟨some 60,.binOp .eql 3 (.tmp 55) (.tmp 59) 3,4,(some (44,true))⟩),
 (true,⟨some 61,.pick (.tmp 44) (.tmp 60) (.const (.bool false)),4,none⟩)]
theorem c18draw0{L:List Nat}{ρ:Env}{w:World}{Q:Post}(h:DL Tryz.prog c18D0 L ρ w.drew Q):drawW Tryz.prog (drawOps 0 c18code) L ρ w Q :=
 drawW_still [true,true,true,false,true,true,true,false,true,true,true,true,true,true,false,true,true,true,false,true,true,false,true,true,true,false,true,true] c18D0 (by kernel_rfl) (by kernel_rfl) (by kernel_rfl) h
def c18D1:List (Nat × Ins):=[
 (0,zmv 63 7 68),
 (0,zmv 64 5 31),
 (0,zmv 65 10 3),
 (0,zix 66 31 64 65),
 (0,zmv 68 6 25),
 (0,zmv 69 10 3),
 (0,zix 70 25 68 69),
 (1,zld 67 22 66 22),
 (2,zld 71 3 70 3),
 (0,zix 72 22 67 71),
 (2,zld 73 52 72 52),
 (2,⟨some 74,.call ⟨.value (.func 35),#[(.tmp 63),(.tmp 73)],#[68,52]⟩,74,none⟩),
 (0,zmv 62 74 74),
 (0,⟨some 75,.extract (.tmp 62) 0,68,none⟩),
 (0,⟨some 76,.extract (.tmp 62) 1,4,none⟩),
 (0,zas 11 75 68),
 (0,zas 12 76 4)]
theorem c18draw1{L:List Nat}{ρ:Env}{w:World}{Q:Post}(S:World→Prop)(hS:S w.drew)(h:DG Tryz.prog S c18D1 L ρ w.drew Q):drawW Tryz.prog (drawOps 1 c18code) L ρ w Q :=
 drawW_held [4] [(0,0),(0,1),(0,2),(0,3),(0,5),(0,6),(0,7),(1,4),(2,8),(0,9),(2,10),(2,11),(0,12),(0,13),(0,14),(0,15),(0,16)] c18D1 (by kernel_rfl) (by kernel_rfl) (by kernel_rfl) S hS h
theorem ent18(a0 a1:Value)(w:World)(K:Value→World→Prop)(h:W Tryz.prog c18 [(0,a0),(1,a1)] w (finQ Tryz.prog [.tmp 4] K)):Ret Tryz.prog 18 [a0,a1] w K :=
 Ret_of_W (code:=c18code) Tryz.func18 (by kernel_rfl) (by kernel_rfl) (of_decide_eq_true (by kernel_rfl)) h
@[go_sem] theorem go18:goFunc Tryz.prog 18=true:=by kernel_rfl
def c19code:Code:=match Tryz.f19.body with | some c=>c | none=>.skip
def c19S0(_:Unit):Cmd:=.ret
def c19:Cmd:=(.seq (.ops [
 ⟨some 2,.assign (.const (.bool false)),4,none⟩] [0])
 (.seq (.ops [
 zmv 3 0 22,
 ⟨some 4,.call ⟨.builtin .len,#[(.tmp 3)],#[22]⟩,3,none⟩,
 ⟨some 5,.binOp .leq 3 (.tmp 4) (.const (.int .i64 10)) 3,4,none⟩,
 zmv 6 5 4,
 zmg 7 0 22 6 true,
 ⟨some 8,.call ⟨.value (.func 44),#[(.tmp 7)],#[22]⟩,3,(some (6,true))⟩,
 ⟨some 9,.binOp .eql 3 (.tmp 8) (.const (.int .i64 0)) 3,4,(some (6,true))⟩,
 ⟨some 10,.pick (.tmp 6) (.tmp 9) (.const (.bool false)),4,none⟩,
 zas 2 10 4] [2]) (sg c19S0)))
attribute [go_sem] c19 c19S0
theorem ent19(a0:Value)(w:World)(K:Value→World→Prop)(h:W Tryz.prog c19 [(0,a0)] w (finQ Tryz.prog [.tmp 2] K)):Ret Tryz.prog 19 [a0] w K :=
 Ret_of_W (code:=c19code) Tryz.func19 (by kernel_rfl) (by kernel_rfl) (of_decide_eq_true (by kernel_rfl)) h
@[go_sem] theorem go19:goFunc Tryz.prog 19=true:=by kernel_rfl
def c20code:Code:=match Tryz.f20.body with | some c=>c | none=>.skip
def c20S0(_:Unit):Cmd:=(.ops [
 zmv 15 8 3,
 ⟨some 16,.binOp .add 3 (.tmp 15) (.const (.int .i64 1)) 3,3,none⟩,
 zas 8 16 3] [0,3,4,5,6,7,8])
def c20S1(_:Unit):Cmd:=(.seq (.block 3 (.seq (.ops [
 zmv 17 5 4,
 ⟨some 18,.unOp .not 4 (.tmp 17),4,none⟩,
 zmv 19 18 4,
 zmg 20 0 22 19 false,
 zmg 21 8 3 19 false,
 ⟨some 22,.indexAddr 22 (.tmp 20) (.tmp 21),0,(some (19,false))⟩,
 ⟨some 23,.fieldAddr 52 (.tmp 22) 2,0,(some (19,false))⟩,
 ⟨some 24,.load 3 (.tmp 23),3,(some (19,false))⟩,
 zmg 25 4 3 19 false,
 ⟨some 26,.binOp .gtr 3 (.tmp 24) (.tmp 25) 3,4,(some (19,false))⟩,
 ⟨some 27,.pick (.tmp 19) (.const (.bool true)) (.tmp 26),4,none⟩,
 zmv 28 27 4,
 zmg 29 7 4 28 true,
 ⟨some 30,.unOp .not 4 (.tmp 29),4,(some (28,true))⟩,
 zmg 31 30 4 28 true,
 zmg 32 0 22 31 false,
 zmg 33 8 3 31 false,
 ⟨some 34,.indexAddr 22 (.tmp 32) (.tmp 33),0,(some (31,false))⟩,
 ⟨some 35,.fieldAddr 52 (.tmp 34) 2,0,(some (31,false))⟩,
 ⟨some 36,.load 3 (.tmp 35),3,(some (31,false))⟩,
 zmg 37 6 3 31 false,
 ⟨some 38,.binOp .lss 3 (.tmp 36) (.tmp 37) 3,4,(some (31,false))⟩,
 ⟨some 39,.pick (.tmp 31) (.const (.bool true)) (.tmp 38),4,(some (28,true))⟩,
 ⟨some 40,.pick (.tmp 28) (.tmp 39) (.const (.bool false)),4,none⟩] [0,3,4,5,6,7,8,40])
 (.cond (.tmp 40)
 (.ops [
 zmv 41 0 22,
 zmv 42 8 3,
 zix 43 22 41 42,
 zfa 44 52 43 2,
 zld 45 3 44 3,
 zas 6 45 3,
 ⟨some 7,.assign (.const (.bool true)),4,none⟩] [0,3,4,5,6,7,8])
 (.skip [0,3,4,5,6,7,8])))) (sg c20S0))
def c20L0(_:Unit):Cmd:=(.seq (.seq (.ops [
 zmv 11 8 3,
 zmv 12 0 22,
 ⟨some 13,.call ⟨.builtin .len,#[(.tmp 12)],#[22]⟩,3,none⟩,
 ⟨some 14,.binOp .lss 3 (.tmp 11) (.tmp 13) 3,4,none⟩] [0,3,4,5,6,7,8,14])
 (.cond (.tmp 14)
 (.skip [0,3,4,5,6,7,8])
 (.exit 2 [0,3,6,7]))) (sg c20S1))
def c20S2(_:Unit):Cmd:=(.ops [
 zmv 53 10 3,
 ⟨some 54,.binOp .add 3 (.tmp 53) (.const (.int .i64 1)) 3,3,none⟩,
 zas 10 54 3] [0,3,6,9,10])
def c20S3(_:Unit):Cmd:=(.seq (.block 5 (.seq (.ops [
 zmv 55 0 22,
 zmv 56 10 3,
 zix 57 22 55 56,
 zfa 58 52 57 2,
 zld 59 3 58 3,
 zmv 60 6 3,
 ⟨some 61,.binOp .eql 3 (.tmp 59) (.tmp 60) 3,4,none⟩] [0,3,6,9,10,61])
 (.cond (.tmp 61)
 (.ops [
 zmv 62 9 22,
 zmv 63 0 22,
 zmv 64 10 3,
 zix 65 22 63 64,
 zld 66 52 65 52,
 ⟨some 67,.buildSlice 22 1 #[(0,(.tmp 66))],22,none⟩,
 ⟨some 68,.call ⟨.builtin .append,#[(.tmp 62),(.tmp 67)],#[22,22]⟩,22,none⟩,
 zas 9 68 22] [0,3,6,9,10])
 (.skip [0,3,6,9,10])))) (sg c20S2))
def c20L1(_:Unit):Cmd:=(.seq (.seq (.ops [
 zmv 49 10 3,
 zmv 50 0 22,
 ⟨some 51,.call ⟨.builtin .len,#[(.tmp 50)],#[22]⟩,3,none⟩,
 ⟨some 52,.binOp .lss 3 (.tmp 49) (.tmp 51) 3,4,none⟩] [0,3,6,9,10,52])
 (.cond (.tmp 52)
 (.skip [0,3,6,9,10])
 (.exit 4 [0,3,6,9]))) (sg c20S3))
def c20S4(_:Unit):Cmd:=(.ops [
 zmv 81 6 3,
 zas 4 81 3,
 ⟨some 5,.assign (.const (.bool true)),4,none⟩] [0,3,4,5])
def c20S5(_:Unit):Cmd:=(.seq (.ops [
 zmv 71 3 39,
 zmv 72 6 3,
 zmv 73 9 22,
 ⟨some 74,.indexAddr 22 (.tmp 73) (.const (.int .i64 0)),0,none⟩,
 zfa 75 52 74 3,
 zld 76 3 75 3,
 zmv 77 9 22,
 ⟨some 78,.build 47 #[(0,(.tmp 72)),(1,(.tmp 76)),(2,(.tmp 77))],47,none⟩,
 ⟨some 79,.buildSlice 39 1 #[(0,(.tmp 78))],39,none⟩,
 ⟨some 80,.call ⟨.builtin .append,#[(.tmp 71),(.tmp 79)],#[39,39]⟩,39,none⟩,
 zas 3 80 39] [0,3,6]) (sg c20S4))
def c20S6(_:Unit):Cmd:=(.seq (.ops [
 zmv 69 9 22,
 ⟨some 70,.call ⟨.value (.func 36),#[(.tmp 69)],#[22]⟩,22,none⟩,
 zas 9 70 22] [0,3,6,9]) (sg c20S5))
def c20S7(_:Unit):Cmd:=(.seq (.ops [
 ⟨some 9,.assign (.const (.slice none 0 0)),22,none⟩] [0,3,6,9])
 (.seq (.seq (.ops [
 ⟨some 10,.assign (.const (.int .i64 0)),3,none⟩] [0,3,6,9,10])
 (.block 4 (.loop (sg c20L1)))) (sg c20S6)))
def c20S8(_:Unit):Cmd:=(.seq (.seq (.ops [
 zmv 46 7 4,
 ⟨some 47,.unOp .not 4 (.tmp 46),4,none⟩] [0,3,6,47])
 (.cond (.tmp 47)
 (.seq (.ops [
 zmv 48 3 39,
 zas 2 48 39] [2])
 .ret)
 (.skip [0,3,6]))) (sg c20S7))
def c20L2(_:Unit):Cmd:=(.block 1 (.seq (.ops [
 ⟨some 6,.assign (.const (.int .i64 0)),3,none⟩,
 ⟨some 7,.assign (.const (.bool false)),4,none⟩] [0,3,4,5,6,7])
 (.seq (.seq (.ops [
 ⟨some 8,.assign (.const (.int .i64 0)),3,none⟩] [0,3,4,5,6,7,8])
 (.block 2 (.loop (sg c20L0)))) (sg c20S8))))
def c20:Cmd:=(.seq (.ops [
 ⟨some 2,.assign (.const (.slice none 0 0)),39,none⟩] [0])
 (.seq (.ops [
 ⟨some 3,.assign (.const (.slice none 0 0)),39,none⟩] [0,3])
 (.seq (.ops [
 ⟨some 4,.assign (.const (.int .i64 0)),3,none⟩,
 ⟨some 5,.assign (.const (.bool false)),4,none⟩] [0,3,4,5])
 (.block 0 (.loop (sg c20L2))))))
attribute [go_sem] c20 c20S0 c20S1 c20L0 c20S2 c20S3 c20L1 c20S4 c20S5 c20L2
theorem ent20(a0:Value)(w:World)(K:Value→World→Prop)(h:W Tryz.prog c20 [(0,a0)] w (finQ Tryz.prog [.tmp 2] K)):Ret Tryz.prog 20 [a0] w K :=
 Ret_of_W (code:=c20code) Tryz.func20 (by kernel_rfl) (by kernel_rfl) (of_decide_eq_true (by kernel_rfl)) h
@[go_sem] theorem go20:goFunc Tryz.prog 20=true:=by kernel_rfl
def c21code:Code:=match Tryz.f21.body with | some c=>c | none=>.skip
def c21S0(_:Unit):Cmd:=(.cond (.tmp 48)
 (.draw (drawOps 1 c21code) [3,6,8,9,10])
 (.skip [3,6,8,9,10]))
def c21S1(_:Unit):Cmd:=(.ops [
 zmv 39 10 3,
 ⟨some 40,.binOp .add 3 (.tmp 39) (.const (.int .i64 1)) 3,3,none⟩,
 zas 10 40 3] [3,6,8,9,10])
def c21S2(_:Unit):Cmd:=(.seq (.block 1 (.seq (.draw (drawOps 0 c21code) [3,6,8,9,10,48]) (sg c21S0))) (sg c21S1))
def c21L0(_:Unit):Cmd:=(.seq (.seq (.ops [
 zmv 35 10 3,
 zmv 36 8 84,
 ⟨some 37,.call ⟨.builtin .len,#[(.tmp 36)],#[84]⟩,3,none⟩,
 ⟨some 38,.binOp .lss 3 (.tmp 35) (.tmp 37) 3,4,none⟩] [3,6,8,9,10,38])
 (.cond (.tmp 38)
 (.skip [3,6,8,9,10])
 (.exit 0 [6,9]))) (sg c21S2))
def c21S3(_:Unit):Cmd:=(.seq (.ops [
 zld 63 43 9 43,
 ⟨none,.store 43 (.tmp 6) (.tmp 63),0,none⟩,
 ⟨some 7,.assign (.const (.int .i64 0)),3,none⟩] [6,7])
 .ret)
def c21S4(_:Unit):Cmd:=(.seq (.ops [
 zfa 59 43 9 1,
 zld 60 41 59 41,
 ⟨some 61,.call ⟨.value (.func 46),#[(.tmp 60)],#[41]⟩,41,none⟩,
 zfa 62 43 9 1,
 ⟨none,.store 41 (.tmp 62) (.tmp 61),0,none⟩] [6,9]) (sg c21S3))
def c21S5(_:Unit):Cmd:=(.seq (.seq (.ops [
 ⟨some 10,.assign (.const (.int .i64 0)),3,none⟩] [3,6,8,9,10])
 (.block 0 (.loop (sg c21L0)))) (sg c21S4))
def c21S6(_:Unit):Cmd:=(.seq (.ops [
 zmv 30 1 41,
 ⟨some 31,.call ⟨.value (.func 46),#[(.tmp 30)],#[41]⟩,41,none⟩,
 zmv 32 8 84,
 ⟨some 33,.call ⟨.builtin .len,#[(.tmp 32)],#[84]⟩,3,none⟩,
 ⟨some 34,.build 43 #[(0,(.tmp 31)),(2,(.tmp 33))],43,none⟩,
 ⟨some 9,.alloc 43,0,none⟩,
 ⟨none,.store 43 (.tmp 9) (.tmp 34),0,none⟩] [3,6,8,9]) (sg c21S5))
def c21S7(_:Unit):Cmd:=(.seq (.seq (.ops [
 zmv 25 8 84,
 ⟨some 26,.call ⟨.builtin .len,#[(.tmp 25)],#[84]⟩,3,none⟩,
 zmv 27 2 3,
 ⟨some 28,.binOp .gtr 3 (.tmp 26) (.tmp 27) 3,4,none⟩] [1,3,6,8,28])
 (.cond (.tmp 28)
 (.seq (.ops [
 ⟨some 29,.build 43 #[],43,none⟩,
 ⟨none,.store 43 (.tmp 6) (.tmp 29),0,none⟩,
 ⟨some 7,.assign (.const (.int .i64 35)),3,none⟩] [6,7])
 .ret)
 (.skip [1,3,6,8]))) (sg c21S6))
def c21S8(_:Unit):Cmd:=(.seq (.ops [
 zfa 20 47 3 2,
 zld 21 22 20 22,
 zmv 22 1 41,
 zmv 23 2 3,
 ⟨some 24,.call ⟨.value (.func 45),#[(.tmp 21),(.tmp 22),(.tmp 23)],#[22,41,3]⟩,84,none⟩,
 zas 8 24 84] [1,2,3,6,8]) (sg c21S7))
def c21S9(_:Unit):Cmd:=(.seq (.seq (.ops [
 zmv 18 2 3,
 ⟨some 19,.binOp .gtr 3 (.tmp 18) (.const (.int .i64 32768)) 3,4,none⟩] [1,2,3,6,19])
 (.cond (.tmp 19)
 (.ops [
 ⟨some 2,.assign (.const (.int .i64 32768)),3,none⟩] [1,2,3,6])
 (.skip [1,2,3,6]))) (sg c21S8))
def c21S10(_:Unit):Cmd:=(.seq (.seq (.ops [
 zmv 16 2 3,
 ⟨some 17,.binOp .lss 3 (.tmp 16) (.const (.int .i64 0)) 3,4,none⟩] [1,2,3,6,17])
 (.cond (.tmp 17)
 (.ops [
 ⟨some 2,.assign (.const (.int .i64 (-1))),3,none⟩] [1,2,3,6])
 (.skip [1,2,3,6]))) (sg c21S9))
def c21:Cmd:=(.seq (.ops [
 ⟨some 3,.box 47 (.tmp 0),0,none⟩,
 ⟨some 6,.alloc 43,0,none⟩,
 ⟨some 7,.assign (.const (.int .i64 0)),3,none⟩] [1,2,3,6])
 (.seq (.seq (.ops [
 zfa 11 47 3 2,
 zld 12 22 11 22,
 ⟨some 13,.call ⟨.builtin .len,#[(.tmp 12)],#[22]⟩,3,none⟩,
 ⟨some 14,.binOp .gtr 3 (.tmp 13) (.const (.int .i64 16)) 3,4,none⟩] [1,2,3,6,14])
 (.cond (.tmp 14)
 (.seq (.ops [
 ⟨some 15,.build 43 #[],43,none⟩,
 ⟨none,.store 43 (.tmp 6) (.tmp 15),0,none⟩,
 ⟨some 7,.assign (.const (.int .i64 34)),3,none⟩] [6,7])
 .ret)
 (.skip [1,2,3,6]))) (sg c21S10)))
attribute [go_sem] c21 c21S0 c21S1 c21S2 c21L0 c21S3 c21S5 c21S7 c21S9 c21S10
def c21D0:List (Nat × Ins):=[
 (0,zfa 41 47 3 2),
 (0,zmv 43 8 84),
 (0,zmv 44 10 3),
 (0,zix 45 84 43 44),
 (0,zfa 46 90 45 0),
 (1,zld 42 22 41 22),
 (2,zld 47 88 46 88),
 (3,⟨some 48,.call ⟨.value (.func 47),#[(.tmp 42),(.tmp 47)],#[22,88]⟩,4,none⟩)]
theorem c21draw0{L:List Nat}{ρ:Env}{w:World}{Q:Post}(S:World→Prop)(hS:S w.drew)(h:DG Tryz.prog S c21D0 L ρ w.drew Q):drawW Tryz.prog (drawOps 0 c21code) L ρ w Q :=
 drawW_held [1] [(0,0),(0,2),(0,3),(0,4),(0,5),(1,1),(2,6),(3,7)] c21D0 (by kernel_rfl) (by kernel_rfl) (by kernel_rfl) S hS h
def c21D1:List (Nat × Ins):=[
 (0,zfa 49 43 9 1),
 (0,zmv 51 8 84),
 (0,zmv 52 10 3),
 (0,zix 53 84 51 52),
 (0,zfa 54 90 53 1),
 (1,zld 50 41 49 41),
 (2,zld 55 25 54 25),
 (2,⟨some 56,.buildSlice 41 1 #[(0,(.tmp 55))],41,none⟩),
 (3,⟨some 57,.call ⟨.builtin .append,#[(.tmp 50),(.tmp 56)],#[41,41]⟩,41,none⟩),
 (0,zfa 58 43 9 1),
 (3,⟨none,.store 41 (.tmp 58) (.tmp 57),0,none⟩)]
theorem c21draw1{L:List Nat}{ρ:Env}{w:World}{Q:Post}(S:World→Prop)(hS:S w.drew)(h:DG Tryz.prog S c21D1 L ρ w.drew Q):drawW Tryz.prog (drawOps 1 c21code) L ρ w Q :=
 drawW_held [1] [(0,0),(0,2),(0,3),(0,4),(0,5),(1,1),(2,6),(2,7),(3,8),(0,9),(3,10)] c21D1 (by kernel_rfl) (by kernel_rfl) (by kernel_rfl) S hS h
theorem ent21(a0 a1 a2:Value)(w:World)(K:Value→World→Prop)(h:W Tryz.prog c21 [(0,a0),(1,a1),(2,a2)] w (finQ Tryz.prog [.cell 6 43,.tmp 7] K)):Ret Tryz.prog 21 [a0,a1,a2] w K :=
 Ret_of_W (code:=c21code) Tryz.func21 (by kernel_rfl) (by kernel_rfl) (of_decide_eq_true (by kernel_rfl)) h
@[go_sem] theorem go21:goFunc Tryz.prog 21=true:=by kernel_rfl
def c22code:Code:=match Tryz.f22.body with | some c=>c | none=>.skip
def c22S0(_:Unit):Cmd:=(.seq (.ops [
 ⟨some 2,.assign (.const (.slice none 0 0)),25,none⟩] [2])
 .ret)
def c22:Cmd:=(.seq (.ops [
 ⟨some 2,.assign (.const (.slice none 0 0)),25,none⟩] [0])
 (.seq (.seq (.ops [
 zmv 3 0 3,
 ⟨some 4,.binOp .eql 3 (.tmp 3) (.const (.int .i64 1)) 3,4,none⟩,
 zmv 5 4 4,
 zmg 6 0 3 5 false,
 ⟨some 7,.binOp .eql 3 (.tmp 6) (.const (.int .i64 2)) 3,4,(some (5,false))⟩,
 ⟨some 8,.pick (.tmp 5) (.const (.bool true)) (.tmp 7),4,none⟩] [8])
 (.cond (.tmp 8)
 (.seq (.ops [
 ⟨some 9,.buildSlice 25 1 #[(0,(.const (.int .i64 0)))],25,none⟩,
 zas 2 9 25] [2])
 .ret)
 (.skip []))) (sg c22S0)))
attribute [go_sem] c22 c22S0
theorem ent22(a0:Value)(w:World)(K:Value→World→Prop)(h:W Tryz.prog c22 [(0,a0)] w (finQ Tryz.prog [.tmp 2] K)):Ret Tryz.prog 22 [a0] w K :=
 Ret_of_W (code:=c22code) Tryz.func22 (by kernel_rfl) (by kernel_rfl) (of_decide_eq_true (by kernel_rfl)) h
@[go_sem] theorem go22:goFunc Tryz.prog 22=true:=by kernel_rfl
@[go_sem] theorem go23:goFunc Tryz.prog 23=true:=by kernel_rfl
def c24code:Code:=match Tryz.f24.body with | some c=>c | none=>.skip
def c24S0(_:Unit):Cmd:=(.ops [
 ⟨some 26,.binOp .add 3 (.tmp 12) (.const (.int .i64 1)) 3,3,none⟩,
 zmv 12 26 3] [3,10,11,12])
def c24S1(_:Unit):Cmd:=(.seq (.block 1 (.seq (.ops [
 zix 14 22 10 12,
 zld 15 52 14 52,
 ⟨some 5,.alloc 52,0,none⟩,
 ⟨none,.store 52 (.tmp 5) (.tmp 15),0,none⟩] [3,5,10,11,12])
 (.draw (drawOps 0 c24code) [3,10,11,12]))) (sg c24S0))
def c24L0(_:Unit):Cmd:=(.seq (.ops [
 ⟨some 13,.binOp .lss 3 (.tmp 12) (.tmp 11) 3,0,none⟩] [3,10,11,12,13])
 (.seq (.cond (.tmp 13)
 (.skip [3,10,11,12])
 (.exit 0 [3])) (sg c24S1)))
def c24S2(_:Unit):Cmd:=(.ops [
 zmv 39 6 31,
 zmv 40 3 91,
 zmv 41 8 3,
 ⟨some 42,.lookup 91 (.tmp 40) (.tmp 41) false,22,none⟩,
 ⟨some 43,.buildSlice 31 1 #[(0,(.tmp 42))],31,none⟩,
 ⟨some 44,.call ⟨.builtin .append,#[(.tmp 39),(.tmp 43)],#[31,31]⟩,31,none⟩,
 zas 6 44 31] [3,6,29,30,31])
def c24S3(_:Unit):Cmd:=(.ops [
 ⟨some 45,.binOp .add 3 (.tmp 31) (.const (.int .i64 1)) 3,3,none⟩,
 zmv 31 45 3] [3,6,29,30,31])
def c24S4(_:Unit):Cmd:=(.seq (.block 3 (.seq (.ops [
 zix 33 25 29 31,
 zld 34 3 33 3,
 zas 8 34 3] [3,6,8,29,30,31])
 (.seq (.ops [
 zmv 35 3 91,
 zmv 36 8 3,
 ⟨some 37,.lookup 91 (.tmp 35) (.tmp 36) false,22,none⟩,
 ⟨some 38,.call ⟨.value (.func 50),#[(.tmp 37),(.func 51)],#[22,99]⟩,0,none⟩] [3,6,8,29,30,31]) (sg c24S2)))) (sg c24S3))
def c24L1(_:Unit):Cmd:=(.seq (.ops [
 ⟨some 32,.binOp .lss 3 (.tmp 31) (.tmp 30) 3,0,none⟩] [3,6,29,30,31,32])
 (.seq (.cond (.tmp 32)
 (.skip [3,6,29,30,31])
 (.exit 2 [6])) (sg c24S4)))
def c24S5(_:Unit):Cmd:=(.block 2 (.loop (sg c24L1)))
def c24S6(_:Unit):Cmd:=(.seq (.ops [
 zmv 46 6 31,
 zas 2 46 31] [2])
 .ret)
def c24S7(_:Unit):Cmd:=(.seq (.ops [
 ⟨some 6,.assign (.const (.slice none 0 0)),31,none⟩] [3,6])
 (.seq (.seq (.ops [
 zmv 27 3 91,
 ⟨some 28,.call ⟨.value (.func 49),#[(.tmp 27)],#[91]⟩,94,none⟩,
 ⟨some 29,.call ⟨.value (.func 48),#[(.tmp 28)],#[94]⟩,25,none⟩,
 ⟨some 30,.call ⟨.builtin .len,#[(.tmp 29)],#[25]⟩,3,none⟩,
 ⟨some 31,.move (.const (.int .i64 0)),3,none⟩] [3,6,29,30,31]) (sg c24S5)) (sg c24S6)))
def c24:Cmd:=(.seq (.ops [
 ⟨some 2,.assign (.const (.slice none 0 0)),31,none⟩] [0])
 (.seq (.ops [
 ⟨some 9,.makeMap 91 none,91,none⟩,
 zas 3 9 91] [0,3])
 (.seq (.seq (.ops [
 zmv 10 0 22,
 ⟨some 11,.call ⟨.builtin .len,#[(.tmp 10)],#[22]⟩,3,none⟩,
 ⟨some 12,.move (.const (.int .i64 0)),3,none⟩] [3,10,11,12])
 (.block 0 (.loop (sg c24L0)))) (sg c24S7))))
attribute [go_sem] c24 c24S0 c24S1 c24S2 c24S3 c24S4 c24L1 c24S6
def c24D0:GT:=(.one 0 (zmv 16 3 91)
 (.one 0 (zfa 17 52 5 1)
 (.one 0 (zmv 19 3 91)
 (.one 0 (zfa 20 52 5 1)
 (.one 1 (zld 18 3 17 3)
 (.one 1 (zld 21 3 20 3)
 (.one 1 (zld 23 52 5 52)
 (.alt ⟨some 22,.lookup 91 (.tmp 19) (.tmp 21) false,22,none⟩
 (.one 2 ⟨some 24,.buildSlice 22 1 #[(0,(.tmp 23))],22,none⟩
 (.one 2 ⟨some 25,.call ⟨.builtin .append,#[(.tmp 22),(.tmp 24)],#[22,22]⟩,22,none⟩
 (.one 2 ⟨none,.mapUpdate 91 (.tmp 16) (.tmp 18) (.tmp 25),0,none⟩
 .nil)))
 (.alt ⟨some 24,.buildSlice 22 1 #[(0,(.tmp 23))],22,none⟩
 (.one 2 ⟨some 22,.lookup 91 (.tmp 19) (.tmp 21) false,22,none⟩
 (.one 2 ⟨some 25,.call ⟨.builtin .append,#[(.tmp 22),(.tmp 24)],#[22,22]⟩,22,none⟩
 (.one 2 ⟨none,.mapUpdate 91 (.tmp 16) (.tmp 18) (.tmp 25),0,none⟩
 .nil)))
 .stop)))))))))
theorem c24draw0{L:List Nat}{ρ:Env}{w:World}{Q:Post}(S:World→Prop)(hS:S w.drew)(h:DT Tryz.prog S c24D0 L ρ w.drew Q):drawW Tryz.prog (drawOps 0 c24code) L ρ w Q :=
 drawW_tree [2,5,7] (.one 0 0 (.one 0 1 (.one 0 3 (.one 0 4 (.one 1 2 (.one 1 5 (.one 1 7 (.alt 6 (.one 2 8 (.one 2 9 (.one 2 10 .nil))) (.alt 8 (.one 2 6 (.one 2 9 (.one 2 10 .nil))) .stop))))))))) c24D0 (by kernel_rfl) (by kernel_rfl) (by kernel_rfl) S hS h
theorem ent24(a0:Value)(w:World)(K:Value→World→Prop)(h:W Tryz.prog c24 [(0,a0)] w (finQ Tryz.prog [.tmp 2] K)):Ret Tryz.prog 24 [a0] w K :=
 Ret_of_W (code:=c24code) Tryz.func24 (by kernel_rfl) (by kernel_rfl) (of_decide_eq_true (by kernel_rfl)) h
@[go_sem] theorem go24:goFunc Tryz.prog 24=true:=by kernel_rfl
@[go_sem] theorem go25:goFunc Tryz.prog 25=true:=by kernel_rfl
@[go_sem] theorem go26:goFunc Tryz.prog 26=true:=by kernel_rfl
@[go_sem] theorem go27:goFunc Tryz.prog 27=true:=by kernel_rfl
def c28code:Code:=match Tryz.f28.body with | some c=>c | none=>.skip
def c28S0(_:Unit):Cmd:=(.cond (.tmp 32)
 (.seq (.ops [
 ⟨some 2,.assign (.const (.int .i64 33)),26,none⟩] [2])
 .ret)
 (.seq (.ops [
 zfa 64 52 1 9,
 zld 65 3 64 3,
 ⟨some 66,.binOp .lss 3 (.tmp 65) (.const (.int .i64 0)) 3,4,none⟩,
 zmv 67 66 4,
 ⟨some 68,.fieldAddr 52 (.tmp 1) 9,0,(some (67,false))⟩,
 ⟨some 69,.load 3 (.tmp 68),3,(some (67,false))⟩,
 ⟨some 70,.binOp .gtr 3 (.tmp 69) (.const (.int .i64 1099511627776)) 3,4,(some (67,false))⟩,
 ⟨some 71,.pick (.tmp 67) (.const (.bool true)) (.tmp 70),4,none⟩,
 zmv 72 71 4,
 ⟨some 73,.fieldAddr 52 (.tmp 1) 7,0,(some (72,false))⟩,
 ⟨some 74,.load 4 (.tmp 73),4,(some (72,false))⟩,
 zmg 75 74 4 72 false,
 ⟨some 76,.fieldAddr 52 (.tmp 1) 10,0,(some (75,true))⟩,
 ⟨some 77,.load 3 (.tmp 76),3,(some (75,true))⟩,
 ⟨some 78,.fieldAddr 52 (.tmp 1) 9,0,(some (75,true))⟩,
 ⟨some 79,.load 3 (.tmp 78),3,(some (75,true))⟩,
 ⟨some 80,.binOp .leq 3 (.tmp 77) (.tmp 79) 3,4,(some (75,true))⟩,
 zmg 81 80 4 75 true,
 ⟨some 82,.fieldAddr 52 (.tmp 1) 10,0,(some (81,false))⟩,
 ⟨some 83,.load 3 (.tmp 82),3,(some (81,false))⟩,
 ⟨some 84,.binOp .gtr 3 (.tmp 83) (.const (.int .i64 1099511627776)) 3,4,(some (81,false))⟩,
 ⟨some 85,.pick (.tmp 81) (.const (.bool true)) (.tmp 84),4,(some (75,true))⟩,
 ⟨some 86,.pick (.tmp 75) (.tmp 85) (.const (.bool false)),4,(some (72,false))⟩,
 ⟨some 87,.pick (.tmp 72) (.const (.bool true)) (.tmp 86),4,none⟩,
 zmv 88 87 4,
 ⟨some 89,.fieldAddr 52 (.tmp 1) 7,0,(some (88,false))⟩,
 ⟨some 90,.load 4 (.tmp 89),4,(some (88,false))⟩,
 ⟨some 91,.unOp .not 4 (.tmp 90),4,(some (88,false))⟩,
 zmg 92 91 4 88 false,
 ⟨some 93,.fieldAddr 52 (.tmp 1) 10,0,(some (92,true))⟩,
 ⟨some 94,.load 3 (.tmp 93),3,(some (92,true))⟩,
 ⟨some 95,.binOp .neq 3 (.tmp 94) (.const (.int .i64 0)) 3,4,(some (92,true))⟩,
 ⟨some 96,.pick (.tmp 92) (.tmp 95) (.const (.bool false)),4,(some (88,false))⟩,
 ⟨some 97,.pick (.tmp 88) (.const (.bool true)) (.tmp 96),4,none⟩,
 zas 63 97 4] [63])
 (.cond (.tmp 63)
 (.seq (.ops [
 ⟨some 2,.assign (.const (.int .i64 31)),26,none⟩] [2])
 .ret)
 (.skip []))))
def c28S1(_:Unit):Cmd:=(.seq (.ops [
 ⟨some 2,.assign (.const (.int .i64 0)),26,none⟩] [2])
 .ret)
def c28:Cmd:=(.seq (.ops [
 ⟨some 1,.box 52 (.tmp 0),0,none⟩,
 ⟨some 2,.assign (.const (.int .i64 0)),26,none⟩] [1])
 (.seq (.block 0 (.seq (.ops [
 zfa 4 52 1 0,
 zld 5 3 4 3,
 ⟨some 6,.binOp .lss 3 (.tmp 5) (.const (.int .i64 1)) 3,4,none⟩,
 zmv 7 6 4,
 ⟨some 8,.fieldAddr 52 (.tmp 1) 0,0,(some (7,false))⟩,
 ⟨some 9,.load 3 (.tmp 8),3,(some (7,false))⟩,
 ⟨some 10,.binOp .gtr 3 (.tmp 9) (.const (.int .i64 1073741824)) 3,4,(some (7,false))⟩,
 ⟨some 11,.pick (.tmp 7) (.const (.bool true)) (.tmp 10),4,none⟩,
 zmv 12 11 4,
 ⟨some 13,.fieldAddr 52 (.tmp 1) 1,0,(some (12,false))⟩,
 ⟨some 14,.load 3 (.tmp 13),3,(some (12,false))⟩,
 ⟨some 15,.binOp .lss 3 (.tmp 14) (.const (.int .i64 0)) 3,4,(some (12,false))⟩,
 ⟨some 16,.pick (.tmp 12) (.const (.bool true)) (.tmp 15),4,none⟩,
 zmv 17 16 4,
 ⟨some 18,.fieldAddr 52 (.tmp 1) 1,0,(some (17,false))⟩,
 ⟨some 19,.load 3 (.tmp 18),3,(some (17,false))⟩,
 ⟨some 20,.binOp .gtr 3 (.tmp 19) (.const (.int .i64 1023)) 3,4,(some (17,false))⟩,
 ⟨some 21,.pick (.tmp 17) (.const (.bool true)) (.tmp 20),4,none⟩,
 zmv 22 21 4,
 ⟨some 23,.fieldAddr 52 (.tmp 1) 2,0,(some (22,false))⟩,
 ⟨some 24,.load 3 (.tmp 23),3,(some (22,false))⟩,
 ⟨some 25,.binOp .lss 3 (.tmp 24) (.const (.int .i64 0)) 3,4,(some (22,false))⟩,
 ⟨some 26,.pick (.tmp 22) (.const (.bool true)) (.tmp 25),4,none⟩,
 zmv 27 26 4,
 ⟨some 28,.fieldAddr 52 (.tmp 1) 2,0,(some (27,false))⟩,
 ⟨some 29,.load 3 (.tmp 28),3,(some (27,false))⟩,
 ⟨some 30,.binOp .gtr 3 (.tmp 29) (.const (.int .i64 1023)) 3,4,(some (27,false))⟩,
 ⟨some 31,.pick (.tmp 27) (.const (.bool true)) (.tmp 30),4,none⟩,
 zas 3 31 4] [1,3])
 (.cond (.tmp 3)
 (.seq (.ops [
 ⟨some 2,.assign (.const (.int .i64 30)),26,none⟩] [2])
 .ret)
 (.seq (.ops [
 zfa 33 52 1 3,
 zld 34 3 33 3,
 zfa 35 52 1 4,
 zld 36 3 35 3,
 ⟨some 37,.call ⟨.value (.func 54),#[(.tmp 34),(.tmp 36)],#[3,3]⟩,4,none⟩,
 ⟨some 38,.unOp .not 4 (.tmp 37),4,none⟩,
 zmv 39 38 4,
 ⟨some 40,.load 52 (.tmp 1),52,(some (39,false))⟩,
 ⟨some 41,.call ⟨.value (.func 55),#[(.tmp 40)],#[52]⟩,4,(some (39,false))⟩,
 ⟨some 42,.unOp .not 4 (.tmp 41),4,(some (39,false))⟩,
 ⟨some 43,.pick (.tmp 39) (.const (.bool true)) (.tmp 42),4,none⟩,
 zmv 44 43 4,
 ⟨some 45,.fieldAddr 52 (.tmp 1) 7,0,(some (44,false))⟩,
 ⟨some 46,.load 4 (.tmp 45),4,(some (44,false))⟩,
 zmg 47 46 4 44 false,
 ⟨some 48,.load 52 (.tmp 1),52,(some (47,true))⟩,
 ⟨some 49,.call ⟨.value (.func 56),#[(.tmp 48)],#[52]⟩,4,(some (47,true))⟩,
 ⟨some 50,.unOp .not 4 (.tmp 49),4,(some (47,true))⟩,
 ⟨some 51,.pick (.tmp 47) (.tmp 50) (.const (.bool false)),4,(some (44,false))⟩,
 ⟨some 52,.pick (.tmp 44) (.const (.bool true)) (.tmp 51),4,none⟩,
 zmv 53 52 4,
 ⟨some 54,.fieldAddr 52 (.tmp 1) 7,0,(some (53,false))⟩,
 ⟨some 55,.load 4 (.tmp 54),4,(some (53,false))⟩,
 ⟨some 56,.unOp .not 4 (.tmp 55),4,(some (53,false))⟩,
 zmg 57 56 4 53 false,
 ⟨some 58,.fieldAddr 52 (.tmp 1) 8,0,(some (57,true))⟩,
 ⟨some 59,.load 3 (.tmp 58),3,(some (57,true))⟩,
 ⟨some 60,.binOp .neq 3 (.tmp 59) (.const (.int .i64 0)) 3,4,(some (57,true))⟩,
 ⟨some 61,.pick (.tmp 57) (.tmp 60) (.const (.bool false)),4,(some (53,false))⟩,
 ⟨some 62,.pick (.tmp 53) (.const (.bool true)) (.tmp 61),4,none⟩,
 zas 32 62 4] [1,32]) (sg c28S0))))) (sg c28S1)))
attribute [go_sem] c28 c28S1
theorem ent28(a0:Value)(w:World)(K:Value→World→Prop)(h:W Tryz.prog c28 [(0,a0)] w (finQ Tryz.prog [.tmp 2] K)):Ret Tryz.prog 28 [a0] w K :=
 Ret_of_W (code:=c28code) Tryz.func28 (by kernel_rfl) (by kernel_rfl) (of_decide_eq_true (by kernel_rfl)) h
@[go_sem] theorem go28:goFunc Tryz.prog 28=true:=by kernel_rfl
def c29code:Code:=match Tryz.f29.body with | some c=>c | none=>.skip
def c29A0(_:Unit):Cmd:=(.ops [
 ⟨some 8,.alloc 52,0,none⟩,
 ⟨none,.store 52 (.tmp 8) (.tmp 23),0,none⟩] [6,8])
def c29B0(_:Unit):Cmd:=(.block 1 (.ops [
 zld 24 56 6 56,
 zfa 25 52 8 2,
 zld 26 3 25 3,
 zfa 27 52 8 3,
 zld 28 3 27 3,
 ⟨none,.mapUpdate 56 (.tmp 24) (.tmp 26) (.tmp 28),0,none⟩] []))
def c29S0(_:Unit):Cmd:=(.block 0 (.rangeF (.tmp 21) [22,23] (sg c29A0) (sg c29B0) [4,5,6]))
def c29S1(_:Unit):Cmd:=(.ops [
 ⟨some 51,.binOp .add 3 (.tmp 33) (.const (.int .i64 1)) 3,3,none⟩,
 zmv 33 51 3] [5,6,9,31,32,33])
def c29S2(_:Unit):Cmd:=(.seq (.block 3 (.seq (.ops [
 zmv 35 33 3,
 zix 36 25 31 33,
 zld 37 3 36 3,
 zas 10 35 3,
 zas 11 37 3] [5,6,9,10,11,31,32,33])
 (.seq (.ops [
 zmv 38 5 54,
 ⟨some 39,.nilCheck (.tmp 38),0,none⟩,
 zfa 40 60 39 1,
 zld 41 56 40 56,
 zmv 42 11 3,
 zmv 43 10 3,
 ⟨none,.mapUpdate 56 (.tmp 41) (.tmp 42) (.tmp 43),0,none⟩] [5,6,9,11,31,32,33])
 (.ops [
 zmv 44 9 61,
 zld 45 56 6 56,
 zmv 46 11 3,
 ⟨some 47,.lookup 56 (.tmp 45) (.tmp 46) false,3,none⟩,
 ⟨some 48,.call ⟨.value (.func 40),#[(.tmp 47)],#[3]⟩,25,none⟩,
 ⟨some 49,.buildSlice 61 1 #[(0,(.tmp 48))],61,none⟩,
 ⟨some 50,.call ⟨.builtin .append,#[(.tmp 44),(.tmp 49)],#[61,61]⟩,61,none⟩,
 zas 9 50 61] [5,6,9,31,32,33])))) (sg c29S1))
def c29L1(_:Unit):Cmd:=(.seq (.ops [
 ⟨some 34,.binOp .lss 3 (.tmp 33) (.tmp 32) 3,0,none⟩] [5,6,9,31,32,33,34])
 (.seq (.cond (.tmp 34)
 (.skip [5,6,9,31,32,33])
 (.exit 2 [5,9])) (sg c29S2)))
def c29S3(_:Unit):Cmd:=(.block 2 (.loop (sg c29L1)))
def c29S4(_:Unit):Cmd:=(.seq (.ops [
 zmv 61 5 54,
 zas 4 61 54] [4])
 .ret)
def c29S5(_:Unit):Cmd:=(.seq (.ops [
 zmv 52 5 54,
 zmv 53 5 54,
 ⟨some 54,.nilCheck (.tmp 53),0,none⟩,
 zfa 55 60 54 0,
 zld 56 31 55 31,
 ⟨some 57,.call ⟨.builtin .len,#[(.tmp 56)],#[31]⟩,3,none⟩,
 ⟨some 58,.makeSlice 25 (.tmp 57) (.tmp 57),25,none⟩,
 zmv 59 9 61,
 ⟨some 60,.call ⟨.value (.func 59),#[(.tmp 52),(.tmp 58),(.tmp 59)],#[54,25,61]⟩,3,none⟩] [5]) (sg c29S4))
def c29S6(_:Unit):Cmd:=(.seq (.ops [
 ⟨some 9,.assign (.const (.slice none 0 0)),61,none⟩] [5,6,9])
 (.seq (.seq (.ops [
 zld 29 56 6 56,
 ⟨some 30,.call ⟨.value (.func 58),#[(.tmp 29)],#[56]⟩,94,none⟩,
 ⟨some 31,.call ⟨.value (.func 48),#[(.tmp 30)],#[94]⟩,25,none⟩,
 ⟨some 32,.call ⟨.builtin .len,#[(.tmp 31)],#[25]⟩,3,none⟩,
 ⟨some 33,.move (.const (.int .i64 0)),3,none⟩] [5,6,9,31,32,33]) (sg c29S3)) (sg c29S5)))
def c29S7(_:Unit):Cmd:=(.seq (.ops [
 ⟨some 19,.makeMap 56 none,56,none⟩,
 ⟨some 6,.alloc 56,0,none⟩,
 ⟨none,.store 56 (.tmp 6) (.tmp 19),0,none⟩] [0,4,5,6])
 (.seq (.seq (.ops [
 zmv 20 0 22,
 ⟨some 21,.call ⟨.value (.func 57),#[(.tmp 20)],#[22]⟩,102,none⟩] [4,5,6,21]) (sg c29S0)) (sg c29S6)))
def c29:Cmd:=(.seq (.ops [
 ⟨some 4,.assign (.const (.pointer none)),54,none⟩] [0,1,4])
 (.seq (.ops [
 zmv 12 0 22,
 ⟨some 13,.call ⟨.value (.func 24),#[(.tmp 12)],#[22]⟩,31,none⟩,
 ⟨some 14,.makeMap 56 none,56,none⟩,
 ⟨some 15,.makeMap 58 none,58,none⟩,
 zmv 16 1 3,
 ⟨some 17,.build 60 #[(0,(.tmp 13)),(1,(.tmp 14)),(3,(.tmp 15)),(4,(.tmp 16))],60,none⟩,
 ⟨some 18,.box 60 (.tmp 17),54,none⟩,
 zas 5 18 54] [0,4,5]) (sg c29S7)))
attribute [go_sem] c29 c29S0 c29S1 c29S2 c29S4
theorem ent29(a0 a1:Value)(w:World)(K:Value→World→Prop)(h:W Tryz.prog c29 [(0,a0),(1,a1)] w (finQ Tryz.prog [.tmp 4] K)):Ret Tryz.prog 29 [a0,a1] w K :=
 Ret_of_W (code:=c29code) Tryz.func29 (by kernel_rfl) (by kernel_rfl) (of_decide_eq_true (by kernel_rfl)) h
@[go_sem] theorem go29:goFunc Tryz.prog 29=true:=by kernel_rfl
def c30code:Code:=match Tryz.f30.body with | some c=>c | none=>.skip
def c30S0(_:Unit):Cmd:=(.cond (.tmp 25)
 (.seq (.ops [
 ⟨some 2,.assign (.const (.bool false)),4,none⟩] [2])
 .ret)
 (.skip [0,3]))
def c30S1(_:Unit):Cmd:=(.ops [
 ⟨some 67,.binOp .add 3 (.tmp 38) (.const (.int .i64 1)) 3,3,none⟩,
 zmv 38 67 3] [0,3,4,36,37,38])
def c30S2(_:Unit):Cmd:=(.seq (.block 3 (.seq (.ops [
 zmv 40 38 3,
 zix 41 31 36 38,
 zld 42 22 41 22,
 zas 5 40 3,
 zas 6 42 22] [0,3,4,5,6,36,37,38])
 (.seq (.ops [
 zmv 43 4 65,
 ⟨some 44,.nilCheck (.tmp 43),0,none⟩,
 zfa 45 64 44 0,
 zld 46 25 45 25,
 zmv 47 5 3,
 zix 48 25 46 47,
 zld 49 3 48 3,
 zmv 50 6 22,
 ⟨some 51,.call ⟨.builtin .len,#[(.tmp 50)],#[22]⟩,3,none⟩,
 ⟨some 52,.binOp .lss 3 (.tmp 49) (.tmp 51) 3,4,none⟩] [0,3,4,5,6,36,37,38,52])
 (.cond (.tmp 52)
 (.ops [
 zmv 53 0 54,
 zmv 54 4 65,
 zmv 55 5 3,
 zmv 56 6 22,
 zmv 57 4 65,
 ⟨some 58,.nilCheck (.tmp 57),0,none⟩,
 zfa 59 64 58 0,
 zld 60 25 59 25,
 zmv 61 5 3,
 zix 62 25 60 61,
 zld 63 3 62 3,
 zix 64 22 56 63,
 zld 65 52 64 52,
 ⟨some 66,.call ⟨.value (.func 60),#[(.tmp 53),(.tmp 54),(.tmp 55),(.tmp 65)],#[54,65,3,52]⟩,0,none⟩] [0,3,4,36,37,38])
 (.skip [0,3,4,36,37,38]))))) (sg c30S1))
def c30L0(_:Unit):Cmd:=(.seq (.ops [
 ⟨some 39,.binOp .lss 3 (.tmp 38) (.tmp 37) 3,0,none⟩] [0,3,4,36,37,38,39])
 (.seq (.cond (.tmp 39)
 (.skip [0,3,4,36,37,38])
 (.exit 2 [0,3])) (sg c30S2)))
def c30S3(_:Unit):Cmd:=(.seq (.ops [
 zmv 26 0 54,
 ⟨some 27,.nilCheck (.tmp 26),0,none⟩,
 zfa 28 60 27 2,
 zld 29 57 28 57,
 zmv 30 3 3,
 zix 31 57 29 30,
 zld 32 65 31 65,
 zas 4 32 65] [0,3,4])
 (.seq (.ops [
 zmv 33 0 54,
 ⟨some 34,.nilCheck (.tmp 33),0,none⟩,
 zfa 35 60 34 0,
 zld 36 31 35 31,
 ⟨some 37,.call ⟨.builtin .len,#[(.tmp 36)],#[31]⟩,3,none⟩,
 ⟨some 38,.move (.const (.int .i64 0)),3,none⟩] [0,3,4,36,37,38])
 (.block 2 (.loop (sg c30L0)))))
def c30S4(_:Unit):Cmd:=(.ops [
 zmv 14 3 3,
 ⟨some 15,.binOp .add 3 (.tmp 14) (.const (.int .i64 1)) 3,3,none⟩,
 zas 3 15 3] [0,3])
def c30S5(_:Unit):Cmd:=(.seq (.block 1 (.seq (.seq (.draw (drawOps 0 c30code) [0,3,25]) (sg c30S0)) (sg c30S3))) (sg c30S4))
def c30L1(_:Unit):Cmd:=(.seq (.seq (.ops [
 zmv 7 3 3,
 zmv 8 0 54,
 ⟨some 9,.nilCheck (.tmp 8),0,none⟩,
 zfa 10 60 9 2,
 zld 11 57 10 57,
 ⟨some 12,.call ⟨.builtin .len,#[(.tmp 11)],#[57]⟩,3,none⟩,
 ⟨some 13,.binOp .lss 3 (.tmp 7) (.tmp 12) 3,4,none⟩] [0,3,13])
 (.cond (.tmp 13)
 (.skip [0,3])
 (.exit 0 [0]))) (sg c30S5))
def c30S6(_:Unit):Cmd:=.ret
def c30S7(_:Unit):Cmd:=(.seq (.draw (drawOps 1 c30code) [2]) (sg c30S6))
def c30:Cmd:=(.seq (.ops [
 ⟨some 2,.assign (.const (.bool false)),4,none⟩] [0])
 (.seq (.seq (.ops [
 ⟨some 3,.assign (.const (.int .i64 0)),3,none⟩] [0,3])
 (.block 0 (.loop (sg c30L1)))) (sg c30S7)))
attribute [go_sem] c30 c30S0 c30S1 c30S2 c30L0 c30S5
def c30D0:List (Bool × Ins):=[
 (true,zmv 16 0 54),
 (true,⟨some 17,.nilCheck (.tmp 16),0,none⟩),
 (true,zfa 18 60 17 2),
 (false,zld 19 57 18 57),
 (true,⟨some 20,.call ⟨.builtin .len,#[(.tmp 19)],#[57]⟩,3,none⟩),
 (true,zmv 21 0 54),
 (true,⟨some 22,.nilCheck (.tmp 21),0,none⟩),
 (true,zfa 23 60 22 4),
 (false,zld 24 3 23 3),
 (true,⟨some 25,.binOp .gtr 3 (.tmp 20) (.tmp 24) 3,4,none⟩)]
theorem c30draw0{L:List Nat}{ρ:Env}{w:World}{Q:Post}(h:DL Tryz.prog c30D0 L ρ w.drew Q):drawW Tryz.prog (drawOps 0 c30code) L ρ w Q :=
 drawW_still [true,true,true,false,true,true,true,true,false,true] c30D0 (by kernel_rfl) (by kernel_rfl) (by kernel_rfl) h
def c30D1:List (Bool × Ins):=[
 (true,zmv 68 0 54),
 (true,⟨some 69,.nilCheck (.tmp 68),0,none⟩),
 (true,zfa 70 60 69 2),
 (false,zld 71 57 70 57),
 (true,⟨some 72,.call ⟨.builtin .len,#[(.tmp 71)],#[57]⟩,3,none⟩),
 (true,zmv 73 0 54),
 (true,⟨some 74,.nilCheck (.tmp 73),0,none⟩),
 (true,zfa 75 60 74 4),
 (false,zld 76 3 75 3),
 (true,⟨some 77,.binOp .leq 3 (.tmp 72) (.tmp 76) 3,4,none⟩),
 (true,zas 2 77 4)]
theorem c30draw1{L:List Nat}{ρ:Env}{w:World}{Q:Post}(h:DL Tryz.prog c30D1 L ρ w.drew Q):drawW Tryz.prog (drawOps 1 c30code) L ρ w Q :=
 drawW_still [true,true,true,false,true,true,true,true,false,true,true] c30D1 (by kernel_rfl) (by kernel_rfl) (by kernel_rfl) h
theorem ent30(a0:Value)(w:World)(K:Value→World→Prop)(h:W Tryz.prog c30 [(0,a0)] w (finQ Tryz.prog [.tmp 2] K)):Ret Tryz.prog 30 [a0] w K :=
 Ret_of_W (code:=c30code) Tryz.func30 (by kernel_rfl) (by kernel_rfl) (of_decide_eq_true (by kernel_rfl)) h
@[go_sem] theorem go30:goFunc Tryz.prog 30=true:=by kernel_rfl
def c31code:Code:=match Tryz.f31.body with | some c=>c | none=>.skip
def c31S0(_:Unit):Cmd:=(.ops [
 ⟨some 35,.binOp .add 3 (.tmp 16) (.const (.int .i64 1)) 3,3,none⟩,
 zmv 16 35 3] [1,14,15,16])
def c31S1(_:Unit):Cmd:=(.seq (.block 1 (.seq (.ops [
 zix 18 57 14 16,
 zld 19 65 18 65,
 zas 5 19 65] [1,5,14,15,16])
 (.ops [
 zmv 20 5 65,
 zmv 21 5 65,
 ⟨some 22,.nilCheck (.tmp 21),0,none⟩,
 zfa 23 64 22 3,
 zld 24 4 23 4,
 zmv 25 24 4,
 zmg 26 5 65 25 false,
 ⟨some 27,.nilCheck (.tmp 26),0,(some (25,false))⟩,
 ⟨some 28,.fieldAddr 64 (.tmp 27) 2,0,(some (25,false))⟩,
 ⟨some 29,.load 62 (.tmp 28),62,(some (25,false))⟩,
 ⟨some 30,.makeFunc (.func 66) #[] #[(.tmp 1)],114,(some (25,false))⟩,
 ⟨some 31,.call ⟨.value (.func 65),#[(.tmp 29),(.tmp 30)],#[62,114]⟩,4,(some (25,false))⟩,
 ⟨some 32,.pick (.tmp 25) (.const (.bool true)) (.tmp 31),4,none⟩,
 ⟨some 33,.nilCheck (.tmp 20),0,none⟩,
 zfa 34 64 33 4,
 ⟨none,.store 4 (.tmp 34) (.tmp 32),0,none⟩] [1,14,15,16]))) (sg c31S0))
def c31L0(_:Unit):Cmd:=(.seq (.ops [
 ⟨some 17,.binOp .lss 3 (.tmp 16) (.tmp 15) 3,0,none⟩] [1,14,15,16,17])
 (.seq (.cond (.tmp 17)
 (.skip [1,14,15,16])
 (.exit 0 [])) (sg c31S1)))
def c31S2(_:Unit):Cmd:=(.seq (.ops [
 zmv 14 3 57,
 ⟨some 15,.call ⟨.builtin .len,#[(.tmp 14)],#[57]⟩,3,none⟩,
 ⟨some 16,.move (.const (.int .i64 0)),3,none⟩] [1,14,15,16])
 (.block 0 (.loop (sg c31L0))))
def c31S3(_:Unit):Cmd:=(.seq (.ops [
 zmv 11 3 57,
 ⟨some 12,.makeFunc (.func 64) #[] #[(.tmp 2)],110,none⟩,
 ⟨some 13,.call ⟨.value (.func 63),#[(.tmp 11),(.tmp 12)],#[57,110]⟩,0,none⟩] [1,3]) (sg c31S2))
def c31:Cmd:=(.seq (.ops [
 ⟨some 1,.box 54 (.tmp 0),0,none⟩] [1])
 (.seq (.ops [
 ⟨some 2,.alloc 107,0,none⟩,
 ⟨none,.store 107 (.tmp 2) (.func 61),0,none⟩] [1,2])
 (.seq (.ops [
 zld 6 54 1 54,
 ⟨some 7,.nilCheck (.tmp 6),0,none⟩,
 zfa 8 60 7 2,
 zld 9 57 8 57,
 ⟨some 10,.call ⟨.value (.func 62),#[(.tmp 9)],#[57]⟩,57,none⟩,
 zas 3 10 57] [1,2,3]) (sg c31S3))))
attribute [go_sem] c31 c31S1
theorem ent31(a0:Value)(w:World)(K:Value→World→Prop)(h:W Tryz.prog c31 [(0,a0)] w (finQ Tryz.prog [] K)):Ret Tryz.prog 31 [a0] w K :=
 Ret_of_W (code:=c31code) Tryz.func31 (by kernel_rfl) (by kernel_rfl) (of_decide_eq_true (by kernel_rfl)) h
@[go_sem] theorem go31:goFunc Tryz.prog 31=true:=by kernel_rfl
def c32code:Code:=match Tryz.f32.body with | some c=>c | none=>.skip
def c32S0(_:Unit):Cmd:=(.cond (.tmp 51)
 (.ops [
 zld 52 113 7 113,
 ⟨none,.store 113 (.tmp 5) (.tmp 52),0,none⟩] [0,3,5,23,24,25])
 (.skip [0,3,5,23,24,25]))
def c32S1(_:Unit):Cmd:=(.ops [
 ⟨some 53,.binOp .add 3 (.tmp 25) (.const (.int .i64 1)) 3,3,none⟩,
 zmv 25 53 3] [0,3,5,23,24,25])
def c32S2(_:Unit):Cmd:=(.seq (.block 3 (.seq (.ops [
 zix 27 62 23 25,
 zld 28 113 27 113,
 ⟨some 7,.alloc 113,0,none⟩,
 ⟨none,.store 113 (.tmp 7) (.tmp 28),0,none⟩] [0,3,5,7,23,24,25])
 (.seq (.draw (drawOps 0 c32code) [0,3,5,7,23,24,25,51]) (sg c32S0)))) (sg c32S1))
def c32L0(_:Unit):Cmd:=(.seq (.ops [
 ⟨some 26,.binOp .lss 3 (.tmp 25) (.tmp 24) 3,0,none⟩] [0,3,5,23,24,25,26])
 (.seq (.cond (.tmp 26)
 (.skip [0,3,5,23,24,25])
 (.exit 2 [0,3,5])) (sg c32S2)))
def c32S3(_:Unit):Cmd:=(.draw (drawOps 1 c32code) [0,3,4])
def c32S4(_:Unit):Cmd:=(.seq (.ops [
 zmv 54 3 25,
 zfa 55 113 5 0,
 zld 56 3 55 3,
 ⟨some 57,.buildSlice 25 1 #[(0,(.tmp 56))],25,none⟩,
 ⟨some 58,.call ⟨.builtin .append,#[(.tmp 54),(.tmp 57)],#[25,25]⟩,25,none⟩,
 zas 3 58 25] [0,3,5]) (sg c32S3))
def c32S5(_:Unit):Cmd:=(.block 1 (.seq (.ops [
 ⟨some 19,.build 113 #[(0,(.const (.int .i64 (-1))))],113,none⟩,
 ⟨some 5,.alloc 113,0,none⟩,
 ⟨none,.store 113 (.tmp 5) (.tmp 19),0,none⟩] [0,3,4,5])
 (.seq (.seq (.ops [
 zmv 20 4 65,
 ⟨some 21,.nilCheck (.tmp 20),0,none⟩,
 zfa 22 64 21 2,
 zld 23 62 22 62,
 ⟨some 24,.call ⟨.builtin .len,#[(.tmp 23)],#[62]⟩,3,none⟩,
 ⟨some 25,.move (.const (.int .i64 0)),3,none⟩] [0,3,5,23,24,25])
 (.block 2 (.loop (sg c32L0)))) (sg c32S4))))
def c32L1(_:Unit):Cmd:=(.seq (.seq (.ops [
 zmv 14 4 65,
 ⟨some 15,.nilCheck (.tmp 14),0,none⟩,
 zfa 16 64 15 3,
 zld 17 4 16 4,
 ⟨some 18,.unOp .not 4 (.tmp 17),4,none⟩] [0,3,4,18])
 (.cond (.tmp 18)
 (.skip [0,3,4])
 (.exit 0 [3]))) (sg c32S5))
def c32S6(_:Unit):Cmd:=(.seq (.ops [
 zmv 67 3 25,
 zas 2 67 25] [2])
 .ret)
def c32:Cmd:=(.seq (.ops [
 ⟨some 2,.assign (.const (.slice none 0 0)),25,none⟩] [0])
 (.seq (.ops [
 ⟨some 3,.assign (.const (.slice none 0 0)),25,none⟩] [0,3])
 (.seq (.ops [
 zmv 8 0 54,
 ⟨some 9,.nilCheck (.tmp 8),0,none⟩,
 zfa 10 60 9 2,
 zld 11 57 10 57,
 ⟨some 12,.indexAddr 57 (.tmp 11) (.const (.int .i64 0)),0,none⟩,
 zld 13 65 12 65,
 zas 4 13 65] [0,3,4])
 (.seq (.block 0 (.loop (sg c32L1))) (sg c32S6)))))
attribute [go_sem] c32 c32S1 c32S2 c32S5
def c32D0:List (Bool × Ins):=[
 (true,zmv 29 0 54),
 (true,⟨some 30,.nilCheck (.tmp 29),0,none⟩),
 (true,zfa 31 60 30 2),
 (false,zld 32 57 31 57),
 (true,zfa 33 113 7 1),
 (false,zld 34 3 33 3),
 (true,zix 35 57 32 34),
 (false,zld 36 65 35 65),
 (true,⟨some 37,.nilCheck (.tmp 36),0,none⟩),
 (true,zfa 38 64 37 4),
 (false,zld 39 4 38 4),
 (true,zmv 40 39 4),
 (true,⟨some 41,.fieldAddr 113 (.tmp 5) 0,0,(some (40,true))⟩),
 (false,⟨some 42,.load 3 (.tmp 41),3,(some (40,true))⟩),
 (true,⟨some 43,.binOp .lss 3 (.tmp 42) (.const (.int .i64 0)) 3,4,(some (40,true))⟩),
 (true,zmg 44 43 4 40 true),
 (true,⟨some 45,.fieldAddr 113 (.tmp 7) 0,0,(some (44,false))⟩),
 (false,⟨some 46,.load 3 (.tmp 45),3,(some (44,false))⟩),
 (true,⟨some 47,.fieldAddr 113 (.tmp 5) 0,0,(some (44,false))⟩),
 (false,⟨some 48,.load 3 (.tmp 47),3,(some (44,false))⟩),
 (true,⟨some 49,.binOp .lss 3 (.tmp 46) (.tmp 48) 3,4,(some (44,false))⟩),
 (true,⟨some 50,.pick (.tmp 44) (.const (.bool true)) (.tmp 49),4,(some (40,true))⟩),
 (true,⟨some 51,.pick (.tmp 40) (.tmp 50) (.const (.bool false)),4,none⟩)]
theorem c32draw0{L:List Nat}{ρ:Env}{w:World}{Q:Post}(h:DL Tryz.prog c32D0 L ρ w.drew Q):drawW Tryz.prog (drawOps 0 c32code) L ρ w Q :=
 drawW_still [true,true,true,false,true,false,true,false,true,true,false,true,true,false,true,true,true,false,true,false,true,true,true] c32D0 (by kernel_rfl) (by kernel_rfl) (by kernel_rfl) h
def c32D1:List (Bool × Ins):=[
 (true,zmv 59 0 54),
 (true,⟨some 60,.nilCheck (.tmp 59),0,none⟩),
 (true,zfa 61 60 60 2),
 (false,zld 62 57 61 57),
 (true,zfa 63 113 5 1),
 (false,zld 64 3 63 3),
 (true,zix 65 57 62 64),
 (false,zld 66 65 65 65),
 (true,zas 4 66 65)]
theorem c32draw1{L:List Nat}{ρ:Env}{w:World}{Q:Post}(h:DL Tryz.prog c32D1 L ρ w.drew Q):drawW Tryz.prog (drawOps 1 c32code) L ρ w Q :=
 drawW_still [true,true,true,false,true,false,true,false,true] c32D1 (by kernel_rfl) (by kernel_rfl) (by kernel_rfl) h
theorem ent32(a0:Value)(w:World)(K:Value→World→Prop)(h:W Tryz.prog c32 [(0,a0)] w (finQ Tryz.prog [.tmp 2] K)):Ret Tryz.prog 32 [a0] w K :=
 Ret_of_W (code:=c32code) Tryz.func32 (by kernel_rfl) (by kernel_rfl) (of_decide_eq_true (by kernel_rfl)) h
@[go_sem] theorem go32:goFunc Tryz.prog 32=true:=by kernel_rfl
def c33code:Code:=match Tryz.f33.body with | some c=>c | none=>.skip
def c33S0(_:Unit):Cmd:=(.cond (.tmp 22)
 (.seq (.ops [
 ⟨some 2,.assign (.const (.int .i64 30)),3,none⟩] [2])
 .ret)
 (.skip [1]))
def c33S1(_:Unit):Cmd:=(.cond (.tmp 50)
 (.seq (.ops [
 ⟨some 2,.assign (.const (.int .i64 33)),3,none⟩] [2])
 .ret)
 (.skip [1,3]))
def c33S2(_:Unit):Cmd:=(.cond (.tmp 70)
 (.seq (.ops [
 ⟨some 2,.assign (.const (.int .i64 33)),3,none⟩] [2])
 .ret)
 (.skip [1]))
def c33S3(_:Unit):Cmd:=(.cond (.tmp 84)
 (.seq (.ops [
 ⟨some 2,.assign (.const (.int .i64 31)),3,none⟩] [2])
 .ret)
 (.skip [1]))
def c33S4(_:Unit):Cmd:=(.seq (.ops [
 ⟨some 2,.assign (.const (.int .i64 0)),3,none⟩] [2])
 .ret)
def c33S5(_:Unit):Cmd:=(.seq (.seq (.ops [
 zfa 85 52 1 7,
 zld 86 4 85 4,
 zmv 87 86 4,
 ⟨some 88,.fieldAddr 52 (.tmp 1) 10,0,(some (87,true))⟩,
 ⟨some 89,.load 3 (.tmp 88),3,(some (87,true))⟩,
 ⟨some 90,.fieldAddr 52 (.tmp 1) 9,0,(some (87,true))⟩,
 ⟨some 91,.load 3 (.tmp 90),3,(some (87,true))⟩,
 ⟨some 92,.binOp .leq 3 (.tmp 89) (.tmp 91) 3,4,(some (87,true))⟩,
 zmg 93 92 4 87 true,
 ⟨some 94,.fieldAddr 52 (.tmp 1) 10,0,(some (93,false))⟩,
 ⟨some 95,.load 3 (.tmp 94),3,(some (93,false))⟩,
 ⟨some 96,.binOp .gtr 3 (.tmp 95) (.const (.int .i64 1099511627776)) 3,4,(some (93,false))⟩,
 ⟨some 97,.pick (.tmp 93) (.const (.bool true)) (.tmp 96),4,(some (87,true))⟩,
 ⟨some 98,.pick (.tmp 87) (.tmp 97) (.const (.bool false)),4,none⟩] [98])
 (.cond (.tmp 98)
 (.seq (.ops [
 ⟨some 2,.assign (.const (.int .i64 31)),3,none⟩] [2])
 .ret)
 (.skip []))) (sg c33S4))
def c33S6(_:Unit):Cmd:=(.seq (.seq (.ops [
 zfa 71 52 1 9,
 zld 72 3 71 3,
 ⟨some 73,.call ⟨.value (.func 67),#[(.tmp 72),(.const (.int .i64 0)),(.const (.int .i64 1099511627776))],#[3,3,3]⟩,4,none⟩,
 ⟨some 74,.unOp .not 4 (.tmp 73),4,none⟩,
 zmv 75 74 4,
 ⟨some 76,.fieldAddr 52 (.tmp 1) 7,0,(some (75,false))⟩,
 ⟨some 77,.load 4 (.tmp 76),4,(some (75,false))⟩,
 ⟨some 78,.unOp .not 4 (.tmp 77),4,(some (75,false))⟩,
 zmg 79 78 4 75 false,
 ⟨some 80,.fieldAddr 52 (.tmp 1) 10,0,(some (79,true))⟩,
 ⟨some 81,.load 3 (.tmp 80),3,(some (79,true))⟩,
 ⟨some 82,.binOp .neq 3 (.tmp 81) (.const (.int .i64 0)) 3,4,(some (79,true))⟩,
 ⟨some 83,.pick (.tmp 79) (.tmp 82) (.const (.bool false)),4,(some (75,false))⟩,
 ⟨some 84,.pick (.tmp 75) (.const (.bool true)) (.tmp 83),4,none⟩] [1,84]) (sg c33S3)) (sg c33S5))
def c33S7(_:Unit):Cmd:=(.seq (.seq (.ops [
 zfa 51 52 1 7,
 zld 52 4 51 4,
 zmv 53 52 4,
 ⟨some 54,.fieldAddr 52 (.tmp 1) 8,0,(some (53,true))⟩,
 ⟨some 55,.load 3 (.tmp 54),3,(some (53,true))⟩,
 ⟨some 56,.fieldAddr 117 (.tmp 3) 3,0,(some (53,true))⟩,
 ⟨some 57,.load 3 (.tmp 56),3,(some (53,true))⟩,
 ⟨some 58,.call ⟨.value (.func 69),#[(.tmp 55),(.tmp 57)],#[3,3]⟩,4,(some (53,true))⟩,
 ⟨some 59,.unOp .not 4 (.tmp 58),4,(some (53,true))⟩,
 ⟨some 60,.pick (.tmp 53) (.tmp 59) (.const (.bool false)),4,none⟩,
 zmv 61 60 4,
 ⟨some 62,.fieldAddr 52 (.tmp 1) 7,0,(some (61,false))⟩,
 ⟨some 63,.load 4 (.tmp 62),4,(some (61,false))⟩,
 ⟨some 64,.unOp .not 4 (.tmp 63),4,(some (61,false))⟩,
 zmg 65 64 4 61 false,
 ⟨some 66,.fieldAddr 52 (.tmp 1) 8,0,(some (65,true))⟩,
 ⟨some 67,.load 3 (.tmp 66),3,(some (65,true))⟩,
 ⟨some 68,.binOp .neq 3 (.tmp 67) (.const (.int .i64 0)) 3,4,(some (65,true))⟩,
 ⟨some 69,.pick (.tmp 65) (.tmp 68) (.const (.bool false)),4,(some (61,false))⟩,
 ⟨some 70,.pick (.tmp 61) (.const (.bool true)) (.tmp 69),4,none⟩] [1,70]) (sg c33S2)) (sg c33S6))
def c33S8(_:Unit):Cmd:=(.seq (.seq (.ops [
 zfa 39 52 1 5,
 zld 40 3 39 3,
 zmv 41 5 3,
 ⟨some 42,.call ⟨.value (.func 67),#[(.tmp 40),(.const (.int .i64 0)),(.tmp 41)],#[3,3,3]⟩,4,none⟩,
 ⟨some 43,.unOp .not 4 (.tmp 42),4,none⟩,
 zmv 44 43 4,
 ⟨some 45,.fieldAddr 52 (.tmp 1) 6,0,(some (44,false))⟩,
 ⟨some 46,.load 3 (.tmp 45),3,(some (44,false))⟩,
 zmg 47 6 3 44 false,
 ⟨some 48,.call ⟨.value (.func 67),#[(.tmp 46),(.const (.int .i64 0)),(.tmp 47)],#[3,3,3]⟩,4,(some (44,false))⟩,
 ⟨some 49,.unOp .not 4 (.tmp 48),4,(some (44,false))⟩,
 ⟨some 50,.pick (.tmp 44) (.const (.bool true)) (.tmp 49),4,none⟩] [1,3,50]) (sg c33S1)) (sg c33S7))
def c33S9(_:Unit):Cmd:=(.seq (.seq (.ops [
 zfa 36 117 3 2,
 zld 37 3 36 3,
 ⟨some 38,.binOp .geq 3 (.tmp 37) (.const (.int .i64 2)) 3,4,none⟩] [1,3,5,6,38])
 (.cond (.tmp 38)
 (.ops [
 ⟨some 6,.assign (.const (.int .i64 1073741824)),3,none⟩] [1,3,5,6])
 (.skip [1,3,5,6]))) (sg c33S8))
def c33S10(_:Unit):Cmd:=(.seq (.ops [
 ⟨some 5,.assign (.const (.int .i64 0)),3,none⟩,
 ⟨some 6,.assign (.const (.int .i64 0)),3,none⟩] [1,3,5,6])
 (.seq (.seq (.ops [
 zfa 33 117 3 2,
 zld 34 3 33 3,
 ⟨some 35,.binOp .geq 3 (.tmp 34) (.const (.int .i64 1)) 3,4,none⟩] [1,3,5,6,35])
 (.cond (.tmp 35)
 (.ops [
 ⟨some 5,.assign (.const (.int .i64 1073741824)),3,none⟩] [1,3,5,6])
 (.skip [1,3,5,6]))) (sg c33S9)))
def c33S11(_:Unit):Cmd:=(.seq (.seq (.ops [
 zmv 31 4 4,
 ⟨some 32,.unOp .not 4 (.tmp 31),4,none⟩] [1,3,32])
 (.cond (.tmp 32)
 (.seq (.ops [
 ⟨some 2,.assign (.const (.int .i64 33)),3,none⟩] [2])
 .ret)
 (.skip [1,3]))) (sg c33S10))
def c33S12(_:Unit):Cmd:=(.seq (.ops [
 zfa 24 52 1 3,
 zld 25 3 24 3,
 zfa 26 52 1 4,
 zld 27 3 26 3,
 ⟨some 28,.call ⟨.value (.func 68),#[(.tmp 25),(.tmp 27)],#[3,3]⟩,118,none⟩,
 zmv 23 28 118,
 ⟨some 29,.extract (.tmp 23) 0,117,none⟩,
 ⟨some 30,.extract (.tmp 23) 1,4,none⟩,
 ⟨some 3,.alloc 117,0,none⟩,
 ⟨none,.store 117 (.tmp 3) (.tmp 29),0,none⟩,
 zas 4 30 4] [1,3,4]) (sg c33S11))
def c33:Cmd:=(.seq (.ops [
 ⟨some 1,.box 52 (.tmp 0),0,none⟩,
 ⟨some 2,.assign (.const (.int .i64 0)),3,none⟩] [1])
 (.seq (.seq (.ops [
 zfa 7 52 1 0,
 zld 8 3 7 3,
 ⟨some 9,.call ⟨.value (.func 67),#[(.tmp 8),(.const (.int .i64 1)),(.const (.int .i64 1073741824))],#[3,3,3]⟩,4,none⟩,
 ⟨some 10,.unOp .not 4 (.tmp 9),4,none⟩,
 zmv 11 10 4,
 ⟨some 12,.fieldAddr 52 (.tmp 1) 1,0,(some (11,false))⟩,
 ⟨some 13,.load 3 (.tmp 12),3,(some (11,false))⟩,
 ⟨some 14,.call ⟨.value (.func 67),#[(.tmp 13),(.const (.int .i64 0)),(.const (.int .i64 1023))],#[3,3,3]⟩,4,(some (11,false))⟩,
 ⟨some 15,.unOp .not 4 (.tmp 14),4,(some (11,false))⟩,
 ⟨some 16,.pick (.tmp 11) (.const (.bool true)) (.tmp 15),4,none⟩,
 zmv 17 16 4,
 ⟨some 18,.fieldAddr 52 (.tmp 1) 2,0,(some (17,false))⟩,
 ⟨some 19,.load 3 (.tmp 18),3,(some (17,false))⟩,
 ⟨some 20,.call ⟨.value (.func 67),#[(.tmp 19),(.const (.int .i64 0)),(.const (.int .i64 1023))],#[3,3,3]⟩,4,(some (17,false))⟩,
 ⟨some 21,.unOp .not 4 (.tmp 20),4,(some (17,false))⟩,
 ⟨some 22,.pick (.tmp 17) (.const (.bool true)) (.tmp 21),4,none⟩] [1,22]) (sg c33S0)) (sg c33S12)))
attribute [go_sem] c33 c33S0 c33S1 c33S2 c33S3 c33S4 c33S5 c33S7 c33S9 c33S10
theorem ent33(a0:Value)(w:World)(K:Value→World→Prop)(h:W Tryz.prog c33 [(0,a0)] w (finQ Tryz.prog [.tmp 2] K)):Ret Tryz.prog 33 [a0] w K :=
 Ret_of_W (code:=c33code) Tryz.func33 (by kernel_rfl) (by kernel_rfl) (of_decide_eq_true (by kernel_rfl)) h
@[go_sem] theorem go33:goFunc Tryz.prog 33=true:=by kernel_rfl
@[go_sem] theorem go34:goFunc Tryz.prog 34=true:=by kernel_rfl
def c35code:Code:=match Tryz.f35.body with | some c=>c | none=>.skip
def c35S0(_:Unit):Cmd:=.ret
def c35S1(_:Unit):Cmd:=(.seq (.ops [
 zmv 36 10 68,
 zmv 37 7 3,
 zmv 38 8 25,
 zix 39 68 36 37,
 zfa 40 125 39 1,
 ⟨none,.store 25 (.tmp 40) (.tmp 38),0,none⟩] [9,10])
 (.seq (.ops [
 zmv 41 10 68,
 zmv 42 9 4,
 zas 4 41 68,
 zas 5 42 4] [4,5])
 .ret))
def c35S2(_:Unit):Cmd:=(.seq (.seq (.ops [
 zmv 26 7 3,
 ⟨some 27,.binOp .lss 3 (.tmp 26) (.const (.int .i64 0)) 3,4,none⟩] [3,7,8,9,10,27])
 (.cond (.tmp 27)
 (.seq (.ops [
 zmv 28 10 68,
 zfa 29 52 3 2,
 zld 30 3 29 3,
 zmv 31 8 25,
 ⟨some 32,.build 125 #[(0,(.tmp 30)),(1,(.tmp 31))],125,none⟩,
 ⟨some 33,.buildSlice 68 1 #[(0,(.tmp 32))],68,none⟩,
 ⟨some 34,.call ⟨.builtin .append,#[(.tmp 28),(.tmp 33)],#[68,68]⟩,68,none⟩,
 zmv 35 9 4,
 zas 4 34 68,
 zas 5 35 4] [4,5]) (sg c35S0))
 (.skip [7,8,9,10]))) (sg c35S1))
def c35S3(_:Unit):Cmd:=(.seq (.ops [
 ⟨some 23,.buildSlice 68 0 #[],68,none⟩,
 zmv 24 0 68,
 ⟨some 25,.call ⟨.builtin .append,#[(.tmp 23),(.tmp 24)],#[68,68]⟩,68,none⟩,
 zas 10 25 68] [3,7,8,9,10]) (sg c35S2))
def c35S4(_:Unit):Cmd:=(.seq (.ops [
 zmv 18 6 25,
 zld 19 52 3 52,
 ⟨some 20,.call ⟨.value (.func 72),#[(.tmp 18),(.tmp 19)],#[25,52]⟩,81,none⟩,
 zmv 17 20 81,
 ⟨some 21,.extract (.tmp 17) 0,25,none⟩,
 ⟨some 22,.extract (.tmp 17) 1,4,none⟩,
 zas 8 21 25,
 zas 9 22 4] [0,3,7,8,9]) (sg c35S3))
def c35:Cmd:=(.seq (.ops [
 ⟨some 3,.box 52 (.tmp 1),0,none⟩,
 ⟨some 4,.assign (.const (.slice none 0 0)),68,none⟩,
 ⟨some 5,.assign (.const (.bool false)),4,none⟩] [0,3])
 (.seq (.ops [
 zmv 12 0 68,
 zld 13 52 3 52,
 ⟨some 14,.call ⟨.value (.func 70),#[(.tmp 12),(.tmp 13)],#[68,52]⟩,121,none⟩,
 zmv 11 14 121,
 ⟨some 15,.extract (.tmp 11) 0,25,none⟩,
 ⟨some 16,.extract (.tmp 11) 1,3,none⟩,
 zas 6 15 25,
 zas 7 16 3] [0,3,6,7]) (sg c35S4)))
attribute [go_sem] c35 c35S0 c35S1
theorem ent35(a0 a1:Value)(w:World)(K:Value→World→Prop)(h:W Tryz.prog c35 [(0,a0),(1,a1)] w (finQ Tryz.prog [.tmp 4,.tmp 5] K)):Ret Tryz.prog 35 [a0,a1] w K :=
 Ret_of_W (code:=c35code) Tryz.func35 (by kernel_rfl) (by kernel_rfl) (of_decide_eq_true (by kernel_rfl)) h
@[go_sem] theorem go35:goFunc Tryz.prog 35=true:=by kernel_rfl
def c36code:Code:=match Tryz.f36.body with | some c=>c | none=>.skip
def c36S0(_:Unit):Cmd:=(.cond (.tmp 55)
 (.skip [0,3,4,5])
 (.exit 2 [0,3,4,5]))
def c36S1(_:Unit):Cmd:=(.block 3 (.ops [
 zmv 56 5 3,
 ⟨some 57,.binOp .add 3 (.tmp 56) (.const (.int .i64 1)) 3,3,none⟩,
 zas 5 57 3] [0,3,4,5]))
def c36L0(_:Unit):Cmd:=(.seq (.seq (.draw (drawOps 0 c36code) [0,3,4,5,55]) (sg c36S0)) (sg c36S1))
def c36S2(_:Unit):Cmd:=(.ops [
 zmv 70 6 22,
 zmv 71 3 22,
 zmv 72 5 3,
 ⟨some 73,.slice 22 (.tmp 71) (some (.tmp 72)) none none,22,none⟩,
 ⟨some 74,.call ⟨.builtin .append,#[(.tmp 70),(.tmp 73)],#[22,22]⟩,22,none⟩,
 zas 3 74 22] [0,3,4])
def c36S3(_:Unit):Cmd:=(.seq (.ops [
 zmv 63 6 22,
 zmv 64 0 22,
 zmv 65 4 3,
 zix 66 22 64 65,
 zld 67 52 66 52,
 ⟨some 68,.buildSlice 22 1 #[(0,(.tmp 67))],22,none⟩,
 ⟨some 69,.call ⟨.builtin .append,#[(.tmp 63),(.tmp 68)],#[22,22]⟩,22,none⟩,
 zas 6 69 22] [0,3,4,5,6]) (sg c36S2))
def c36S4(_:Unit):Cmd:=(.seq (.ops [
 ⟨some 58,.buildSlice 22 0 #[],22,none⟩,
 zmv 59 3 22,
 zmv 60 5 3,
 ⟨some 61,.slice 22 (.tmp 59) none (some (.tmp 60)) none,22,none⟩,
 ⟨some 62,.call ⟨.builtin .append,#[(.tmp 58),(.tmp 61)],#[22,22]⟩,22,none⟩,
 zas 6 62 22] [0,3,4,5,6]) (sg c36S3))
def c36S5(_:Unit):Cmd:=(.ops [
 zmv 11 4 3,
 ⟨some 12,.binOp .add 3 (.tmp 11) (.const (.int .i64 1)) 3,3,none⟩,
 zas 4 12 3] [0,3,4])
def c36S6(_:Unit):Cmd:=(.seq (.block 1 (.seq (.ops [
 ⟨some 5,.assign (.const (.int .i64 0)),3,none⟩] [0,3,4,5])
 (.seq (.block 2 (.loop (sg c36L0))) (sg c36S4)))) (sg c36S5))
def c36L1(_:Unit):Cmd:=(.seq (.seq (.ops [
 zmv 7 4 3,
 zmv 8 0 22,
 ⟨some 9,.call ⟨.builtin .len,#[(.tmp 8)],#[22]⟩,3,none⟩,
 ⟨some 10,.binOp .lss 3 (.tmp 7) (.tmp 9) 3,4,none⟩] [0,3,4,10])
 (.cond (.tmp 10)
 (.skip [0,3,4])
 (.exit 0 [3]))) (sg c36S6))
def c36S7(_:Unit):Cmd:=(.seq (.ops [
 zmv 75 3 22,
 zas 2 75 22] [2])
 .ret)
def c36:Cmd:=(.seq (.ops [
 ⟨some 2,.assign (.const (.slice none 0 0)),22,none⟩] [0])
 (.seq (.ops [
 ⟨some 3,.assign (.const (.slice none 0 0)),22,none⟩] [0,3])
 (.seq (.seq (.ops [
 ⟨some 4,.assign (.const (.int .i64 0)),3,none⟩] [0,3,4])
 (.block 0 (.loop (sg c36L1)))) (sg c36S7))))
attribute [go_sem] c36 c36S0 c36S1 c36L0 c36S2 c36S3 c36S5 c36S6 c36L1 c36S7
def c36D0:List (Bool × Ins):=[
 (true,zmv 13 5 3),
 (true,zmv 14 3 22),
 (true,⟨some 15,.call ⟨.builtin .len,#[(.tmp 14)],#[22]⟩,3,none⟩),
 (true,⟨some 16,.binOp .lss 3 (.tmp 13) (.tmp 15) 3,4,none⟩),
 (true,zmv 17 16 4),
 (true,zmg 18 3 22 17 true),
 (true,zmg 19 5 3 17 true),
 (true,⟨some 20,.indexAddr 22 (.tmp 18) (.tmp 19),0,(some (17,true))⟩),
 (true,⟨some 21,.fieldAddr 52 (.tmp 20) 9,0,(some (17,true))⟩),
 (false,⟨some 22,.load 3 (.tmp 21),3,(some (17,true))⟩),
 (true,zmg 23 0 22 17 true),
 (true,zmg 24 4 3 17 true),
 (true,⟨some 25,.indexAddr 22 (.tmp 23) (.tmp 24),0,(some (17,true))⟩),
 (true,⟨some 26,.fieldAddr 52 (.tmp 25) 9,0,(some (17,true))⟩),
 (false,⟨some 27,.load 3 (.tmp 26),3,(some (17,true))⟩),
 (true,⟨some 28,.binOp .lss 3 (.tmp 22) (.tmp 27) 3,4,(some (17,true))⟩),
 (true,zmg 29 28 4 17 true),
 (true,zmg 30 3 22 29 false),
 (true,zmg 31 5 3 29 false),
 (true,⟨some 32,.indexAddr 22 (.tmp 30) (.tmp 31),0,(some (29,false))⟩),
 (true,⟨some 33,.fieldAddr 52 (.tmp 32) 9,0,(some (29,false))⟩),
 (false,⟨some 34,.load 3 (.tmp 33),3,(some (29,false))⟩),
 (true,zmg 35 0 22 29 false),
 (true,zmg 36 4 3 29 false),
 (true,⟨some 37,.indexAddr 22 (.tmp 35) (.tmp 36),0,(some (29,false))⟩),
 (true,⟨some 38,.fieldAddr 52 (.tmp 37) 9,0,(some (29,false))⟩),
 (false,⟨some 39,.load 3 (.tmp 38),3,(some (29,false))⟩),
 (true,⟨some 40,.binOp .eql 3 (.tmp 34) (.tmp 39) 3,4,(some (29,false))⟩),
 (true,zmg 41 40 4 29 false),
 (true,zmg 42 3 22 41 true),
 (true,zmg 43 5 3 41 true),
 (true,⟨some 44,.indexAddr 22 (.tmp 42) (.tmp 43),0,(some (41,true))⟩),
 (true,⟨some 45,.fieldAddr 52 (.tmp 44) 0,0,(some (41,true))⟩),
 (false,⟨some 46,.load 3 (.tmp 45),3,(some (41,true))⟩),
 (true,zmg 47 0 22 41 true),
 (true,zmg 48 4 3 41 true),
 (true,⟨some 49,.indexAddr 22 (.tmp 47) (.tmp 48),0,(some (41,true))⟩),
 (true,⟨some 50,.fieldAddr 52 (.tmp 49) 0,0,(some (41,true))⟩),
 (false,⟨some 51,.load 3 (.tmp 50),3,(some (41,true))⟩),
 (true,⟨some 52,.binOp .leq 3 (.tmp 46) (.tmp 51) 3,4,(some (41,true))⟩),
 (true,⟨some 53,.pick (.tmp 41) (.tmp 52) (.const (.bool false)),4,(some (29,false))⟩),
 (true,⟨some 54,.pick (.tmp 29) (.const (.bool true)) (.tmp 53),4,(some (17,true))⟩),
 (true,⟨some 55,.pick (.tmp 17) (.tmp 54) (.const (.bool false)),4,none⟩)]
theorem c36draw0{L:List Nat}{ρ:Env}{w:World}{Q:Post}(h:DL Tryz.prog c36D0 L ρ w.drew Q):drawW Tryz.prog (drawOps 0 c36code) L ρ w Q :=
 drawW_still [true,true,true,true,true,true,true,true,true,false,true,true,true,true,false,true,true,true,true,true,true,false,true,true,true,true,false,true,true,true,true,true,true,false,true,true,true,true,false,true,true,true,true] c36D0 (by kernel_rfl) (by kernel_rfl) (by kernel_rfl) h
theorem ent36(a0:Value)(w:World)(K:Value→World→Prop)(h:W Tryz.prog c36 [(0,a0)] w (finQ Tryz.prog [.tmp 2] K)):Ret Tryz.prog 36 [a0] w K :=
 Ret_of_W (code:=c36code) Tryz.func36 (by kernel_rfl) (by kernel_rfl) (of_decide_eq_true (by kernel_rfl)) h
@[go_sem] theorem go36:goFunc Tryz.prog 36=true:=by kernel_rfl
def c37code:Code:=match Tryz.f37.body with | some c=>c | none=>.skip
def c37S0(_:Unit):Cmd:=(.ops [
 zmv 24 6 3,
 ⟨some 25,.binOp .add 3 (.tmp 24) (.const (.int .i64 1)) 3,3,none⟩,
 zas 6 25 3] [0,1,5,6])
def c37S1(_:Unit):Cmd:=(.seq (.block 3 (.seq (.ops [
 zmv 26 0 31,
 zmv 27 5 3,
 zix 28 31 26 27,
 zld 29 22 28 22,
 zmv 30 6 3,
 zix 31 22 29 30,
 zfa 32 52 31 7,
 zld 33 4 32 4] [0,1,5,6,33])
 (.cond (.tmp 33)
 (.seq (.ops [
 ⟨some 4,.assign (.const (.bool false)),4,none⟩] [4])
 .ret)
 (.skip [0,1,5,6])))) (sg c37S0))
def c37L0(_:Unit):Cmd:=(.seq (.seq (.ops [
 zmv 17 6 3,
 zmv 18 0 31,
 zmv 19 5 3,
 zix 20 31 18 19,
 zld 21 22 20 22,
 ⟨some 22,.call ⟨.builtin .len,#[(.tmp 21)],#[22]⟩,3,none⟩,
 ⟨some 23,.binOp .lss 3 (.tmp 17) (.tmp 22) 3,4,none⟩] [0,1,5,6,23])
 (.cond (.tmp 23)
 (.skip [0,1,5,6])
 (.exit 2 [0,1,5]))) (sg c37S1))
def c37S2(_:Unit):Cmd:=(.ops [
 zmv 11 5 3,
 ⟨some 12,.binOp .add 3 (.tmp 11) (.const (.int .i64 1)) 3,3,none⟩,
 zas 5 12 3] [0,1,5])
def c37S3(_:Unit):Cmd:=(.seq (.block 1 (.seq (.ops [
 zmv 13 1 25,
 zmv 14 5 3,
 zix 15 25 13 14,
 zld 16 3 15 3,
 zas 6 16 3] [0,1,5,6])
 (.block 2 (.loop (sg c37L0))))) (sg c37S2))
def c37L1(_:Unit):Cmd:=(.seq (.seq (.ops [
 zmv 7 5 3,
 zmv 8 0 31,
 ⟨some 9,.call ⟨.builtin .len,#[(.tmp 8)],#[31]⟩,3,none⟩,
 ⟨some 10,.binOp .lss 3 (.tmp 7) (.tmp 9) 3,4,none⟩] [0,1,5,10])
 (.cond (.tmp 10)
 (.skip [0,1,5])
 (.exit 0 []))) (sg c37S3))
def c37S4(_:Unit):Cmd:=(.seq (.ops [
 ⟨some 4,.assign (.const (.bool true)),4,none⟩] [4])
 .ret)
def c37:Cmd:=(.seq (.ops [
 ⟨some 4,.assign (.const (.bool false)),4,none⟩] [0,1])
 (.seq (.seq (.ops [
 ⟨some 5,.assign (.const (.int .i64 0)),3,none⟩] [0,1,5])
 (.block 0 (.loop (sg c37L1)))) (sg c37S4)))
attribute [go_sem] c37 c37S0 c37S1 c37S2 c37S3 c37S4
theorem ent37(a0 a1:Value)(w:World)(K:Value→World→Prop)(h:W Tryz.prog c37 [(0,a0),(1,a1)] w (finQ Tryz.prog [.tmp 4] K)):Ret Tryz.prog 37 [a0,a1] w K :=
 Ret_of_W (code:=c37code) Tryz.func37 (by kernel_rfl) (by kernel_rfl) (of_decide_eq_true (by kernel_rfl)) h
@[go_sem] theorem go37:goFunc Tryz.prog 37=true:=by kernel_rfl
def c38code:Code:=match Tryz.f38.body with | some c=>c | none=>.skip
def c38S0(_:Unit):Cmd:=(.cond (.tmp 16)
 (.seq (.ops [
 zmv 17 5 3,
 zas 4 17 3] [4])
 .ret)
 (.skip [0,1,7,8]))
def c38S1(_:Unit):Cmd:=(.ops [
 ⟨some 18,.binOp .add 3 (.tmp 8) (.const (.int .i64 1)) 3,3,none⟩,
 zmv 8 18 3] [0,1,7,8])
def c38S2(_:Unit):Cmd:=(.seq (.block 1 (.seq (.ops [
 zmv 10 8 3,
 zas 5 10 3] [0,1,5,7,8])
 (.seq (.ops [
 zmv 11 1 80,
 zmv 12 0 22,
 zmv 13 5 3,
 zix 14 22 12 13,
 zld 15 52 14 52,
 ⟨some 16,.call ⟨.value (.tmp 11),#[(.tmp 15)],#[52]⟩,4,none⟩] [0,1,5,7,8,16]) (sg c38S0)))) (sg c38S1))
def c38L0(_:Unit):Cmd:=(.seq (.ops [
 ⟨some 9,.binOp .lss 3 (.tmp 8) (.tmp 7) 3,0,none⟩] [0,1,7,8,9])
 (.seq (.cond (.tmp 9)
 (.skip [0,1,7,8])
 (.exit 0 [])) (sg c38S2)))
def c38S3(_:Unit):Cmd:=(.seq (.ops [
 ⟨some 4,.assign (.const (.int .i64 (-1))),3,none⟩] [4])
 .ret)
def c38:Cmd:=(.seq (.ops [
 ⟨some 4,.assign (.const (.int .i64 0)),3,none⟩] [0,1])
 (.seq (.seq (.ops [
 zmv 6 0 22,
 ⟨some 7,.call ⟨.builtin .len,#[(.tmp 6)],#[22]⟩,3,none⟩,
 ⟨some 8,.move (.const (.int .i64 0)),3,none⟩] [0,1,7,8])
 (.block 0 (.loop (sg c38L0)))) (sg c38S3)))
attribute [go_sem] c38 c38S0 c38S1 c38S2 c38L0 c38S3
theorem ent38(a0 a1:Value)(w:World)(K:Value→World→Prop)(h:W Tryz.prog c38 [(0,a0),(1,a1)] w (finQ Tryz.prog [.tmp 4] K)):Ret Tryz.prog 38 [a0,a1] w K :=
 Ret_of_W (code:=c38code) Tryz.func38 (by kernel_rfl) (by kernel_rfl) (of_decide_eq_true (by kernel_rfl)) h
@[go_sem] theorem go38:goFunc Tryz.prog 38=true:=by kernel_rfl
def c39code:Code:=match Tryz.f39.body with | some c=>c | none=>.skip
def c39:Cmd:=(.seq (.ops [
 ⟨some 2,.box 52 (.tmp 0),0,none⟩,
 ⟨some 3,.assign (.const (.bool false)),4,none⟩] [1,2])
 (.seq (.ops [
 zfa 4 52 2 0,
 zld 5 3 4 3,
 zld 6 3 1 3,
 ⟨some 7,.binOp .eql 3 (.tmp 5) (.tmp 6) 3,4,none⟩,
 zas 3 7 4] [3])
 .ret))
attribute [go_sem] c39
theorem ent39(a0 a1:Value)(w:World)(K:Value→World→Prop)(h:W Tryz.prog c39 [(0,a0),(1,a1)] w (finQ Tryz.prog [.tmp 3] K)):Ret Tryz.prog 39 [a0,a1] w K :=
 Ret_of_W (code:=c39code) Tryz.func39 (by kernel_rfl) (by kernel_rfl) (of_decide_eq_true (by kernel_rfl)) h
@[go_sem] theorem go39:goFunc Tryz.prog 39=true:=by kernel_rfl
def c40code:Code:=match Tryz.f40.body with | some c=>c | none=>.skip
def c40S0(_:Unit):Cmd:=(.cond (.tmp 4)
 (.seq (.ops [
 ⟨some 7,.buildSlice 25 1 #[(0,(.const (.int .i64 0)))],25,none⟩,
 zas 2 7 25] [2])
 .ret)
 (.skip []))
def c40S1(_:Unit):Cmd:=(.seq (.ops [
 ⟨some 2,.assign (.const (.slice none 0 0)),25,none⟩] [2])
 .ret)
def c40:Cmd:=(.seq (.ops [
 ⟨some 2,.assign (.const (.slice none 0 0)),25,none⟩] [0])
 (.seq (.seq (.ops [
 zmv 3 0 3] [3])
 (.block 0 (.seq (.seq (.ops [
 ⟨some 5,.binOp .eql 3 (.tmp 3) (.const (.int .i64 1)) 3,4,none⟩,
 zas 4 5 4] [3,4])
 (.cond (.tmp 4)
 (.skip [4])
 (.ops [
 ⟨some 6,.binOp .eql 3 (.tmp 3) (.const (.int .i64 2)) 3,4,none⟩,
 zas 4 6 4] [4]))) (sg c40S0)))) (sg c40S1)))
attribute [go_sem] c40 c40S0 c40S1
theorem ent40(a0:Value)(w:World)(K:Value→World→Prop)(h:W Tryz.prog c40 [(0,a0)] w (finQ Tryz.prog [.tmp 2] K)):Ret Tryz.prog 40 [a0] w K :=
 Ret_of_W (code:=c40code) Tryz.func40 (by kernel_rfl) (by kernel_rfl) (of_decide_eq_true (by kernel_rfl)) h
@[go_sem] theorem go40:goFunc Tryz.prog 40=true:=by kernel_rfl
def c41code:Code:=match Tryz.f41.body with | some c=>c | none=>.skip
def c41S0(_:Unit):Cmd:=(.seq (.ops [
 zmv 28 6 25,
 zas 4 28 25,
 ⟨some 5,.assign (.const (.bool true)),4,none⟩] [4,5])
 .ret)
def c41S1(_:Unit):Cmd:=(.seq (.seq (.ops [
 zmv 16 8 4,
 ⟨some 17,.unOp .not 4 (.tmp 16),4,none⟩,
 zmv 18 17 4,
 ⟨some 19,.fieldAddr 52 (.tmp 3) 7,0,(some (18,false))⟩,
 ⟨some 20,.load 4 (.tmp 19),4,(some (18,false))⟩,
 zmg 21 20 4 18 false,
 zmg 22 7 3 21 true,
 ⟨some 23,.fieldAddr 52 (.tmp 3) 8,0,(some (21,true))⟩,
 ⟨some 24,.load 3 (.tmp 23),3,(some (21,true))⟩,
 ⟨some 25,.binOp .neq 3 (.tmp 22) (.tmp 24) 3,4,(some (21,true))⟩,
 ⟨some 26,.pick (.tmp 21) (.tmp 25) (.const (.bool false)),4,(some (18,false))⟩,
 ⟨some 27,.pick (.tmp 18) (.const (.bool true)) (.tmp 26),4,none⟩] [6,27])
 (.cond (.tmp 27)
 (.seq (.ops [
 ⟨some 4,.assign (.const (.slice none 0 0)),25,none⟩,
 ⟨some 5,.assign (.const (.bool false)),4,none⟩] [4,5])
 .ret)
 (.skip [6]))) (sg c41S0))
def c41:Cmd:=(.seq (.ops [
 ⟨some 3,.box 52 (.tmp 1),0,none⟩,
 ⟨some 4,.assign (.const (.slice none 0 0)),25,none⟩,
 ⟨some 5,.assign (.const (.bool false)),4,none⟩] [0,3])
 (.seq (.ops [
 zmv 10 0 25,
 zld 11 52 3 52,
 ⟨some 12,.call ⟨.value (.func 73),#[(.tmp 10),(.tmp 11)],#[25,52]⟩,126,none⟩,
 zmv 9 12 126,
 ⟨some 13,.extract (.tmp 9) 0,25,none⟩,
 ⟨some 14,.extract (.tmp 9) 1,3,none⟩,
 ⟨some 15,.extract (.tmp 9) 2,4,none⟩,
 zas 6 13 25,
 zas 7 14 3,
 zas 8 15 4] [3,6,7,8]) (sg c41S1)))
attribute [go_sem] c41 c41S0
theorem ent41(a0 a1:Value)(w:World)(K:Value→World→Prop)(h:W Tryz.prog c41 [(0,a0),(1,a1)] w (finQ Tryz.prog [.tmp 4,.tmp 5] K)):Ret Tryz.prog 41 [a0,a1] w K :=
 Ret_of_W (code:=c41code) Tryz.func41 (by kernel_rfl) (by kernel_rfl) (of_decide_eq_true (by kernel_rfl)) h
@[go_sem] theorem go41:goFunc Tryz.prog 41=true:=by kernel_rfl
def c42code:Code:=match Tryz.f42.body with | some c=>c | none=>.skip
def c42S0(_:Unit):Cmd:=.ret
def c42:Cmd:=(.seq (.ops [
 ⟨some 4,.assign (.const (.bool false)),4,none⟩] [0,1])
 (.seq (.ops [
 zmv 5 0 22,
 zmv 6 1 80,
 ⟨some 7,.call ⟨.value (.func 38),#[(.tmp 5),(.tmp 6)],#[22,80]⟩,3,none⟩,
 ⟨some 8,.binOp .geq 3 (.tmp 7) (.const (.int .i64 0)) 3,4,none⟩,
 zas 4 8 4] [4]) (sg c42S0)))
attribute [go_sem] c42 c42S0
theorem ent42(a0 a1:Value)(w:World)(K:Value→World→Prop)(h:W Tryz.prog c42 [(0,a0),(1,a1)] w (finQ Tryz.prog [.tmp 4] K)):Ret Tryz.prog 42 [a0,a1] w K :=
 Ret_of_W (code:=c42code) Tryz.func42 (by kernel_rfl) (by kernel_rfl) (of_decide_eq_true (by kernel_rfl)) h
@[go_sem] theorem go42:goFunc Tryz.prog 42=true:=by kernel_rfl
def c43code:Code:=match Tryz.f43.body with | some c=>c | none=>.skip
def c43:Cmd:=(.seq (.ops [
 ⟨some 1,.box 52 (.tmp 0),0,none⟩,
 ⟨some 2,.assign (.const (.bool false)),4,none⟩] [1])
 (.seq (.ops [
 zfa 3 52 1 7,
 zld 4 4 3 4,
 zas 2 4 4] [2])
 .ret))
attribute [go_sem] c43
theorem ent43(a0:Value)(w:World)(K:Value→World→Prop)(h:W Tryz.prog c43 [(0,a0)] w (finQ Tryz.prog [.tmp 2] K)):Ret Tryz.prog 43 [a0] w K :=
 Ret_of_W (code:=c43code) Tryz.func43 (by kernel_rfl) (by kernel_rfl) (of_decide_eq_true (by kernel_rfl)) h
@[go_sem] theorem go43:goFunc Tryz.prog 43=true:=by kernel_rfl
def c44code:Code:=match Tryz.f44.body with | some c=>c | none=>.skip
def c44S0(_:Unit):Cmd:=(.cond (.tmp 39)
 (.seq (.ops [
 ⟨some 2,.assign (.const (.int .i64 7)),3,none⟩] [2])
 .ret)
 (.skip [0,3]))
def c44S1(_:Unit):Cmd:=(.seq (.draw (drawOps 0 c44code) [0,3,39]) (sg c44S0))
def c44S2(_:Unit):Cmd:=(.seq (.seq (.ops [
 zmv 21 4 3,
 ⟨some 22,.binOp .neq 3 (.tmp 21) (.const (.int .i64 0)) 3,4,none⟩] [0,3,4,22])
 (.cond (.tmp 22)
 (.seq (.ops [
 zmv 23 4 3,
 zas 2 23 3] [2])
 .ret)
 (.skip [0,3]))) (sg c44S1))
def c44S3(_:Unit):Cmd:=(.ops [
 zmv 14 3 3,
 ⟨some 15,.binOp .add 3 (.tmp 14) (.const (.int .i64 1)) 3,3,none⟩,
 zas 3 15 3] [0,3])
def c44S4(_:Unit):Cmd:=(.seq (.block 1 (.seq (.ops [
 zmv 16 0 22,
 zmv 17 3 3,
 zix 18 22 16 17,
 zld 19 52 18 52,
 ⟨some 20,.call ⟨.value (.func 33),#[(.tmp 19)],#[52]⟩,3,none⟩,
 zas 4 20 3] [0,3,4]) (sg c44S2))) (sg c44S3))
def c44L0(_:Unit):Cmd:=(.seq (.seq (.ops [
 zmv 10 3 3,
 zmv 11 0 22,
 ⟨some 12,.call ⟨.builtin .len,#[(.tmp 11)],#[22]⟩,3,none⟩,
 ⟨some 13,.binOp .lss 3 (.tmp 10) (.tmp 12) 3,4,none⟩] [0,3,13])
 (.cond (.tmp 13)
 (.skip [0,3])
 (.exit 0 [0]))) (sg c44S4))
def c44S5(_:Unit):Cmd:=(.seq (.ops [
 zmv 52 6 3,
 ⟨some 53,.binOp .neq 3 (.tmp 52) (.const (.int .i64 0)) 3,4,none⟩] [0,5,6,53])
 (.cond (.tmp 53)
 (.seq (.ops [
 zmv 54 6 3,
 zas 2 54 3] [2])
 .ret)
 (.skip [0,5])))
def c44S6(_:Unit):Cmd:=(.ops [
 zmv 44 5 3,
 ⟨some 45,.binOp .add 3 (.tmp 44) (.const (.int .i64 1)) 3,3,none⟩,
 zas 5 45 3] [0,5])
def c44S7(_:Unit):Cmd:=(.seq (.block 3 (.seq (.ops [
 zmv 46 0 22,
 zmv 47 0 22,
 zmv 48 5 3,
 zix 49 22 47 48,
 zld 50 52 49 52,
 ⟨some 51,.call ⟨.value (.func 74),#[(.tmp 46),(.tmp 50)],#[22,52]⟩,3,none⟩,
 zas 6 51 3] [0,5,6]) (sg c44S5))) (sg c44S6))
def c44L1(_:Unit):Cmd:=(.seq (.seq (.ops [
 zmv 40 5 3,
 zmv 41 0 22,
 ⟨some 42,.call ⟨.builtin .len,#[(.tmp 41)],#[22]⟩,3,none⟩,
 ⟨some 43,.binOp .lss 3 (.tmp 40) (.tmp 42) 3,4,none⟩] [0,5,43])
 (.cond (.tmp 43)
 (.skip [0,5])
 (.exit 2 []))) (sg c44S7))
def c44S8(_:Unit):Cmd:=(.seq (.ops [
 ⟨some 2,.assign (.const (.int .i64 0)),3,none⟩] [2])
 .ret)
def c44S9(_:Unit):Cmd:=(.seq (.seq (.ops [
 ⟨some 5,.assign (.const (.int .i64 0)),3,none⟩] [0,5])
 (.block 2 (.loop (sg c44L1)))) (sg c44S8))
def c44S10(_:Unit):Cmd:=(.seq (.seq (.ops [
 ⟨some 3,.assign (.const (.int .i64 0)),3,none⟩] [0,3])
 (.block 0 (.loop (sg c44L0)))) (sg c44S9))
def c44:Cmd:=(.seq (.ops [
 ⟨some 2,.assign (.const (.int .i64 0)),3,none⟩] [0])
 (.seq (.seq (.ops [
 zmv 7 0 22,
 ⟨some 8,.call ⟨.builtin .len,#[(.tmp 7)],#[22]⟩,3,none⟩,
 ⟨some 9,.binOp .gtr 3 (.tmp 8) (.const (.int .i64 64)) 3,4,none⟩] [0,9])
 (.cond (.tmp 9)
 (.seq (.ops [
 ⟨some 2,.assign (.const (.int .i64 34)),3,none⟩] [2])
 .ret)
 (.skip [0]))) (sg c44S10)))
attribute [go_sem] c44 c44S0 c44S1 c44S2 c44S3 c44S4 c44L0 c44S5 c44S6 c44S7 c44L1 c44S8 c44S9 c44S10
def c44D0:List (Bool × Ins):=[
 (true,zmv 24 3 3),
 (true,⟨some 25,.binOp .gtr 3 (.tmp 24) (.const (.int .i64 0)) 3,4,none⟩),
 (true,zmv 26 25 4),
 (true,zmg 27 0 22 26 true),
 (true,zmg 28 3 3 26 true),
 (true,⟨some 29,.indexAddr 22 (.tmp 27) (.tmp 28),0,(some (26,true))⟩),
 (true,⟨some 30,.fieldAddr 52 (.tmp 29) 0,0,(some (26,true))⟩),
 (false,⟨some 31,.load 3 (.tmp 30),3,(some (26,true))⟩),
 (true,zmg 32 0 22 26 true),
 (true,zmg 33 3 3 26 true),
 (true,⟨some 34,.binOp .sub 3 (.tmp 33) (.const (.int .i64 1)) 3,3,(some (26,true))⟩),
 (true,⟨some 35,.indexAddr 22 (.tmp 32) (.tmp 34),0,(some (26,true))⟩),
 (true,⟨some 36,.fieldAddr 52 (.tmp 35) 0,0,(some (26,true))⟩),
 (false,⟨some 37,.load 3 (.tmp 36),3,(some (26,true))⟩),
 (true,⟨some 38,.binOp .leq 3 (.tmp 31) (.tmp 37) 3,4,(some (26,true))⟩),
 (true,⟨some 39,.pick (.tmp 26) (.tmp 38) (.const (.bool false)),4,none⟩)]
theorem c44draw0{L:List Nat}{ρ:Env}{w:World}{Q:Post}(h:DL Tryz.prog c44D0 L ρ w.drew Q):drawW Tryz.prog (drawOps 0 c44code) L ρ w Q :=
 drawW_still [true,true,true,true,true,true,true,false,true,true,true,true,true,false,true,true] c44D0 (by kernel_rfl) (by kernel_rfl) (by kernel_rfl) h
theorem ent44(a0:Value)(w:World)(K:Value→World→Prop)(h:W Tryz.prog c44 [(0,a0)] w (finQ Tryz.prog [.tmp 2] K)):Ret Tryz.prog 44 [a0] w K :=
 Ret_of_W (code:=c44code) Tryz.func44 (by kernel_rfl) (by kernel_rfl) (of_decide_eq_true (by kernel_rfl)) h
@[go_sem] theorem go44:goFunc Tryz.prog 44=true:=by kernel_rfl
def c45code:Code:=match Tryz.f45.body with | some c=>c | none=>.skip
def c45S0(_:Unit):Cmd:=(.ops [
 zmv 43 7 84,
 zld 44 90 11 90,
 ⟨some 45,.buildSlice 84 1 #[(0,(.tmp 44))],84,none⟩,
 ⟨some 46,.call ⟨.builtin .append,#[(.tmp 43),(.tmp 45)],#[84,84]⟩,84,none⟩,
 zas 7 46 84] [0,2,7,8,9,10])
def c45S1(_:Unit):Cmd:=(.seq (.ops [
 zmv 40 8 73,
 zld 41 90 11 90,
 ⟨some 42,.call ⟨.value (.func 75),#[(.tmp 41)],#[90]⟩,9,none⟩,
 ⟨none,.mapUpdate 73 (.tmp 40) (.tmp 42) (.const (.bool true)),0,none⟩] [0,2,7,8,9,10,11]) (sg c45S0))
def c45S2(_:Unit):Cmd:=(.ops [
 zmv 30 10 3,
 ⟨some 31,.binOp .add 3 (.tmp 30) (.const (.int .i64 1)) 3,3,none⟩,
 zas 10 31 3] [0,2,7,8,9,10])
def c45S3(_:Unit):Cmd:=(.seq (.block 1 (.seq (.draw (drawOps 0 c45code) [0,2,7,8,9,10,11]) (sg c45S1))) (sg c45S2))
def c45L0(_:Unit):Cmd:=(.seq (.seq (.ops [
 zmv 20 10 3,
 zmv 21 9 41,
 ⟨some 22,.call ⟨.builtin .len,#[(.tmp 21)],#[41]⟩,3,none⟩,
 ⟨some 23,.binOp .lss 3 (.tmp 20) (.tmp 22) 3,4,none⟩,
 zmv 24 23 4,
 zmg 25 7 84 24 true,
 ⟨some 26,.call ⟨.builtin .len,#[(.tmp 25)],#[84]⟩,3,(some (24,true))⟩,
 zmg 27 2 3 24 true,
 ⟨some 28,.binOp .leq 3 (.tmp 26) (.tmp 27) 3,4,(some (24,true))⟩,
 ⟨some 29,.pick (.tmp 24) (.tmp 28) (.const (.bool false)),4,none⟩] [0,2,7,8,9,10,29])
 (.cond (.tmp 29)
 (.skip [0,2,7,8,9,10])
 (.exit 0 [0,2,7,8]))) (sg c45S3))
def c45S4(_:Unit):Cmd:=(.cond (.tmp 73)
 (.exit 5 [0,2,7,8,12,13])
 (.skip [0,2,7,8,12,13]))
def c45S5(_:Unit):Cmd:=(.ops [
 zmv 110 7 84,
 zld 111 90 16 90,
 ⟨some 112,.buildSlice 84 1 #[(0,(.tmp 111))],84,none⟩,
 ⟨some 113,.call ⟨.builtin .append,#[(.tmp 110),(.tmp 112)],#[84,84]⟩,84,none⟩,
 zas 7 113 84] [0,2,7,8,12,13])
def c45S6(_:Unit):Cmd:=(.cond (.tmp 106)
 (.seq (.ops [
 zmv 107 8 73,
 zld 108 90 16 90,
 ⟨some 109,.call ⟨.value (.func 75),#[(.tmp 108)],#[90]⟩,9,none⟩,
 ⟨none,.mapUpdate 73 (.tmp 107) (.tmp 109) (.const (.bool true)),0,none⟩] [0,2,7,8,12,13,16]) (sg c45S5))
 (.skip [0,2,7,8,12,13]))
def c45S7(_:Unit):Cmd:=(.seq (.ops [
 zfa 98 90 16 0,
 zld 99 88 98 88,
 zmv 100 13 3,
 zix 101 88 99 100,
 ⟨none,.store 4 (.tmp 101) (.const (.bool true)),0,none⟩] [0,2,7,8,12,13,16])
 (.seq (.ops [
 zmv 102 8 73,
 zld 103 90 16 90,
 ⟨some 104,.call ⟨.value (.func 75),#[(.tmp 103)],#[90]⟩,9,none⟩,
 ⟨some 105,.lookup 73 (.tmp 102) (.tmp 104) false,4,none⟩,
 ⟨some 106,.unOp .not 4 (.tmp 105),4,none⟩] [0,2,7,8,12,13,16,106]) (sg c45S6)))
def c45S8(_:Unit):Cmd:=(.seq (.ops [
 ⟨some 89,.buildSlice 88 0 #[],88,none⟩,
 zmv 90 7 84,
 zmv 91 12 3,
 zix 92 84 90 91,
 zfa 93 90 92 0,
 zld 94 88 93 88,
 ⟨some 95,.call ⟨.builtin .append,#[(.tmp 89),(.tmp 94)],#[88,88]⟩,88,none⟩,
 zmv 96 14 25,
 ⟨some 97,.build 90 #[(0,(.tmp 95)),(1,(.tmp 96))],90,none⟩,
 ⟨some 16,.alloc 90,0,none⟩,
 ⟨none,.store 90 (.tmp 16) (.tmp 97),0,none⟩] [0,2,7,8,12,13,16]) (sg c45S7))
def c45S9(_:Unit):Cmd:=(.seq (.seq (.ops [
 zmv 87 15 4,
 ⟨some 88,.unOp .not 4 (.tmp 87),4,none⟩] [0,2,7,8,12,13,14,88])
 (.cond (.tmp 88)
 (.exit 5 [0,2,7,8,12,13])
 (.skip [0,2,7,8,12,13,14]))) (sg c45S8))
def c45S10(_:Unit):Cmd:=(.seq (.draw (drawOps 1 c45code) [0,2,7,8,12,13,14,15]) (sg c45S9))
def c45S11(_:Unit):Cmd:=(.ops [
 zmv 63 13 3,
 ⟨some 64,.binOp .add 3 (.tmp 63) (.const (.int .i64 1)) 3,3,none⟩,
 zas 13 64 3] [0,2,7,8,12,13])
def c45S12(_:Unit):Cmd:=(.seq (.block 5 (.seq (.seq (.ops [
 zmv 65 0 22,
 zmv 66 7 84,
 zmv 67 12 3,
 zix 68 84 66 67,
 zfa 69 90 68 0,
 zld 70 88 69 88,
 zmv 71 13 3,
 ⟨some 72,.call ⟨.value (.func 76),#[(.tmp 65),(.tmp 70),(.tmp 71)],#[22,88,3]⟩,4,none⟩,
 ⟨some 73,.unOp .not 4 (.tmp 72),4,none⟩] [0,2,7,8,12,13,73]) (sg c45S4)) (sg c45S10))) (sg c45S11))
def c45L1(_:Unit):Cmd:=(.seq (.seq (.ops [
 zmv 59 13 3,
 zmv 60 0 22,
 ⟨some 61,.call ⟨.builtin .len,#[(.tmp 60)],#[22]⟩,3,none⟩,
 ⟨some 62,.binOp .lss 3 (.tmp 59) (.tmp 61) 3,4,none⟩] [0,2,7,8,12,13,62])
 (.cond (.tmp 62)
 (.skip [0,2,7,8,12,13])
 (.exit 4 [0,2,7,8,12]))) (sg c45S12))
def c45S13(_:Unit):Cmd:=(.ops [
 zmv 57 12 3,
 ⟨some 58,.binOp .add 3 (.tmp 57) (.const (.int .i64 1)) 3,3,none⟩,
 zas 12 58 3] [0,2,7,8,12])
def c45S14(_:Unit):Cmd:=(.seq (.block 3 (.seq (.ops [
 ⟨some 13,.assign (.const (.int .i64 0)),3,none⟩] [0,2,7,8,12,13])
 (.block 4 (.loop (sg c45L1))))) (sg c45S13))
def c45L2(_:Unit):Cmd:=(.seq (.seq (.ops [
 zmv 47 12 3,
 zmv 48 7 84,
 ⟨some 49,.call ⟨.builtin .len,#[(.tmp 48)],#[84]⟩,3,none⟩,
 ⟨some 50,.binOp .lss 3 (.tmp 47) (.tmp 49) 3,4,none⟩,
 zmv 51 50 4,
 zmg 52 7 84 51 true,
 ⟨some 53,.call ⟨.builtin .len,#[(.tmp 52)],#[84]⟩,3,(some (51,true))⟩,
 zmg 54 2 3 51 true,
 ⟨some 55,.binOp .leq 3 (.tmp 53) (.tmp 54) 3,4,(some (51,true))⟩,
 ⟨some 56,.pick (.tmp 51) (.tmp 55) (.const (.bool false)),4,none⟩] [0,2,7,8,12,56])
 (.cond (.tmp 56)
 (.skip [0,2,7,8,12])
 (.exit 2 [7]))) (sg c45S14))
def c45S15(_:Unit):Cmd:=(.seq (.ops [
 zmv 114 7 84,
 zas 6 114 84] [6])
 .ret)
def c45S16(_:Unit):Cmd:=(.seq (.seq (.ops [
 ⟨some 12,.assign (.const (.int .i64 0)),3,none⟩] [0,2,7,8,12])
 (.block 2 (.loop (sg c45L2)))) (sg c45S15))
def c45S17(_:Unit):Cmd:=(.seq (.seq (.ops [
 ⟨some 10,.assign (.const (.int .i64 0)),3,none⟩] [0,2,7,8,9,10])
 (.block 0 (.loop (sg c45L0)))) (sg c45S16))
def c45:Cmd:=(.seq (.ops [
 ⟨some 6,.assign (.const (.slice none 0 0)),84,none⟩] [0,1,2])
 (.seq (.ops [
 ⟨some 7,.assign (.const (.slice none 0 0)),84,none⟩] [0,1,2,7])
 (.seq (.ops [
 ⟨some 17,.makeMap 73 none,73,none⟩,
 zas 8 17 73] [0,1,2,7,8])
 (.seq (.ops [
 zmv 18 1 41,
 ⟨some 19,.call ⟨.value (.func 46),#[(.tmp 18)],#[41]⟩,41,none⟩,
 zas 9 19 41] [0,2,7,8,9]) (sg c45S17)))))
attribute [go_sem] c45 c45S0 c45S2 c45S3 c45L0 c45S4 c45S5 c45S6 c45S8 c45S9 c45S10 c45S11 c45S12 c45L1 c45L2 c45S15 c45S17
def c45D0:GT:=(.one 0 (zmv 32 0 22)
 (.one 0 ⟨some 33,.call ⟨.builtin .len,#[(.tmp 32)],#[22]⟩,3,none⟩
 (.one 0 (zmv 35 9 41)
 (.one 0 (zmv 36 10 3)
 (.one 0 (zix 37 41 35 36)
 (.one 1 (zld 38 25 37 25)
 (.alt ⟨some 34,.makeSlice 88 (.tmp 33) (.tmp 33),88,none⟩
 (.alt ⟨some 39,.build 90 #[(0,(.tmp 34)),(1,(.tmp 38))],90,none⟩
 (.one 2 ⟨some 11,.alloc 90,0,none⟩
 (.one 2 ⟨none,.store 90 (.tmp 11) (.tmp 39),0,none⟩
 .nil))
 (.alt ⟨some 11,.alloc 90,0,none⟩
 (.one 2 ⟨some 39,.build 90 #[(0,(.tmp 34)),(1,(.tmp 38))],90,none⟩
 (.one 2 ⟨none,.store 90 (.tmp 11) (.tmp 39),0,none⟩
 .nil))
 .stop))
 (.alt ⟨some 11,.alloc 90,0,none⟩
 (.one 2 ⟨some 34,.makeSlice 88 (.tmp 33) (.tmp 33),88,none⟩
 (.one 2 ⟨some 39,.build 90 #[(0,(.tmp 34)),(1,(.tmp 38))],90,none⟩
 (.one 2 ⟨none,.store 90 (.tmp 11) (.tmp 39),0,none⟩
 .nil)))
 .stop))))))))
theorem c45draw0{L:List Nat}{ρ:Env}{w:World}{Q:Post}(S:World→Prop)(hS:S w.drew)(h:DT Tryz.prog S c45D0 L ρ w.drew Q):drawW Tryz.prog (drawOps 0 c45code) L ρ w Q :=
 drawW_tree [6] (.one 0 0 (.one 0 1 (.one 0 3 (.one 0 4 (.one 0 5 (.one 1 6 (.alt 2 (.alt 7 (.one 2 8 (.one 2 9 .nil)) (.alt 8 (.one 2 7 (.one 2 9 .nil)) .stop)) (.alt 8 (.one 2 2 (.one 2 7 (.one 2 9 .nil))) .stop)))))))) c45D0 (by kernel_rfl) (by kernel_rfl) (by kernel_rfl) S hS h
def c45D1:List (Nat × Ins):=[
 (0,zmv 75 7 84),
 (0,zmv 76 12 3),
 (0,zix 77 84 75 76),
 (0,zfa 78 90 77 1),
 (0,zmv 80 0 22),
 (0,zmv 81 13 3),
 (0,zix 82 22 80 81),
 (1,zld 79 25 78 25),
 (2,zld 83 52 82 52),
 (3,⟨some 84,.call ⟨.value (.func 72),#[(.tmp 79),(.tmp 83)],#[25,52]⟩,81,none⟩),
 (0,zmv 74 84 81),
 (0,⟨some 85,.extract (.tmp 74) 0,25,none⟩),
 (0,⟨some 86,.extract (.tmp 74) 1,4,none⟩),
 (0,zas 14 85 25),
 (0,zas 15 86 4)]
theorem c45draw1{L:List Nat}{ρ:Env}{w:World}{Q:Post}(S:World→Prop)(hS:S w.drew)(h:DG Tryz.prog S c45D1 L ρ w.drew Q):drawW Tryz.prog (drawOps 1 c45code) L ρ w Q :=
 drawW_held [4] [(0,0),(0,1),(0,2),(0,3),(0,5),(0,6),(0,7),(1,4),(2,8),(3,9),(0,10),(0,11),(0,12),(0,13),(0,14)] c45D1 (by kernel_rfl) (by kernel_rfl) (by kernel_rfl) S hS h
theorem ent45(a0 a1 a2:Value)(w:World)(K:Value→World→Prop)(h:W Tryz.prog c45 [(0,a0),(1,a1),(2,a2)] w (finQ Tryz.prog [.tmp 6] K)):Ret Tryz.prog 45 [a0,a1,a2] w K :=
 Ret_of_W (code:=c45code) Tryz.func45 (by kernel_rfl) (by kernel_rfl) (of_decide_eq_true (by kernel_rfl)) h
@[go_sem] theorem go45:goFunc Tryz.prog 45=true:=by kernel_rfl
def c46code:Code:=match Tryz.f46.body with | some c=>c | none=>.skip
def c46S0(_:Unit):Cmd:=(.seq (.ops [
 zmv 33 7 4,
 zmv 34 33 4,
 zmg 35 9 9 34 false,
 zmg 36 5 9 34 false,
 ⟨some 37,.binOp .eql 9 (.tmp 35) (.tmp 36) 9,4,(some (34,false))⟩,
 ⟨some 38,.pick (.tmp 34) (.const (.bool true)) (.tmp 37),4,none⟩,
 zas 7 38 4] [0,3,4,5,6,7,8,9])
 (.seq (.ops [
 zmv 39 9 9,
 zmv 40 5 9,
 ⟨some 41,.binOp .lss 9 (.tmp 39) (.tmp 40) 9,4,none⟩] [0,3,4,5,6,7,8,41])
 (.cond (.tmp 41)
 (.ops [
 zmv 42 6 3,
 ⟨some 43,.binOp .add 3 (.tmp 42) (.const (.int .i64 1)) 3,3,none⟩,
 zas 6 43 3] [0,3,4,5,6,7,8])
 (.skip [0,3,4,5,6,7,8]))))
def c46S1(_:Unit):Cmd:=(.ops [
 zmv 26 8 3,
 ⟨some 27,.binOp .add 3 (.tmp 26) (.const (.int .i64 1)) 3,3,none⟩,
 zas 8 27 3] [0,3,4,5,6,7,8])
def c46S2(_:Unit):Cmd:=(.seq (.block 3 (.seq (.ops [
 zmv 28 3 41,
 zmv 29 8 3,
 zix 30 41 28 29,
 zld 31 25 30 25,
 ⟨some 32,.call ⟨.value (.func 71),#[(.tmp 31)],#[25]⟩,9,none⟩,
 zas 9 32 9] [0,3,4,5,6,7,8,9]) (sg c46S0))) (sg c46S1))
def c46L0(_:Unit):Cmd:=(.seq (.seq (.ops [
 zmv 22 8 3,
 zmv 23 3 41,
 ⟨some 24,.call ⟨.builtin .len,#[(.tmp 23)],#[41]⟩,3,none⟩,
 ⟨some 25,.binOp .lss 3 (.tmp 22) (.tmp 24) 3,4,none⟩] [0,3,4,5,6,7,8,25])
 (.cond (.tmp 25)
 (.skip [0,3,4,5,6,7,8])
 (.exit 2 [0,3,4,6,7]))) (sg c46S2))
def c46S3(_:Unit):Cmd:=(.ops [
 zmv 58 10 41,
 zmv 59 3 41,
 zmv 60 6 3,
 ⟨some 61,.slice 41 (.tmp 59) (some (.tmp 60)) none none,41,none⟩,
 ⟨some 62,.call ⟨.builtin .append,#[(.tmp 58),(.tmp 61)],#[41,41]⟩,41,none⟩,
 zas 3 62 41] [0,3,4])
def c46S4(_:Unit):Cmd:=(.seq (.ops [
 zmv 51 10 41,
 zmv 52 0 41,
 zmv 53 4 3,
 zix 54 41 52 53,
 zld 55 25 54 25,
 ⟨some 56,.buildSlice 41 1 #[(0,(.tmp 55))],41,none⟩,
 ⟨some 57,.call ⟨.builtin .append,#[(.tmp 51),(.tmp 56)],#[41,41]⟩,41,none⟩,
 zas 10 57 41] [0,3,4,6,10]) (sg c46S3))
def c46S5(_:Unit):Cmd:=(.seq (.ops [
 zmv 44 7 4,
 ⟨some 45,.unOp .not 4 (.tmp 44),4,none⟩] [0,3,4,6,45])
 (.cond (.tmp 45)
 (.seq (.ops [
 ⟨some 46,.buildSlice 41 0 #[],41,none⟩,
 zmv 47 3 41,
 zmv 48 6 3,
 ⟨some 49,.slice 41 (.tmp 47) none (some (.tmp 48)) none,41,none⟩,
 ⟨some 50,.call ⟨.builtin .append,#[(.tmp 46),(.tmp 49)],#[41,41]⟩,41,none⟩,
 zas 10 50 41] [0,3,4,6,10]) (sg c46S4))
 (.skip [0,3,4])))
def c46S6(_:Unit):Cmd:=(.seq (.ops [
 ⟨some 6,.assign (.const (.int .i64 0)),3,none⟩,
 ⟨some 7,.assign (.const (.bool false)),4,none⟩] [0,3,4,5,6,7])
 (.seq (.seq (.ops [
 ⟨some 8,.assign (.const (.int .i64 0)),3,none⟩] [0,3,4,5,6,7,8])
 (.block 2 (.loop (sg c46L0)))) (sg c46S5)))
def c46S7(_:Unit):Cmd:=(.ops [
 zmv 15 4 3,
 ⟨some 16,.binOp .add 3 (.tmp 15) (.const (.int .i64 1)) 3,3,none⟩,
 zas 4 16 3] [0,3,4])
def c46S8(_:Unit):Cmd:=(.seq (.block 1 (.seq (.ops [
 zmv 17 0 41,
 zmv 18 4 3,
 zix 19 41 17 18,
 zld 20 25 19 25,
 ⟨some 21,.call ⟨.value (.func 71),#[(.tmp 20)],#[25]⟩,9,none⟩,
 zas 5 21 9] [0,3,4,5]) (sg c46S6))) (sg c46S7))
def c46L1(_:Unit):Cmd:=(.seq (.seq (.ops [
 zmv 11 4 3,
 zmv 12 0 41,
 ⟨some 13,.call ⟨.builtin .len,#[(.tmp 12)],#[41]⟩,3,none⟩,
 ⟨some 14,.binOp .lss 3 (.tmp 11) (.tmp 13) 3,4,none⟩] [0,3,4,14])
 (.cond (.tmp 14)
 (.skip [0,3,4])
 (.exit 0 [3]))) (sg c46S8))
def c46S9(_:Unit):Cmd:=(.seq (.ops [
 zmv 63 3 41,
 zas 2 63 41] [2])
 .ret)
def c46:Cmd:=(.seq (.ops [
 ⟨some 2,.assign (.const (.slice none 0 0)),41,none⟩] [0])
 (.seq (.ops [
 ⟨some 3,.assign (.const (.slice none 0 0)),41,none⟩] [0,3])
 (.seq (.seq (.ops [
 ⟨some 4,.assign (.const (.int .i64 0)),3,none⟩] [0,3,4])
 (.block 0 (.loop (sg c46L1)))) (sg c46S9))))
attribute [go_sem] c46 c46S0 c46S1 c46S2 c46L0 c46S3 c46S4 c46S6 c46S7 c46S8 c46L1 c46S9
theorem ent46(a0:Value)(w:World)(K:Value→World→Prop)(h:W Tryz.prog c46 [(0,a0)] w (finQ Tryz.prog [.tmp 2] K)):Ret Tryz.prog 46 [a0] w K :=
 Ret_of_W (code:=c46code) Tryz.func46 (by kernel_rfl) (by kernel_rfl) (of_decide_eq_true (by kernel_rfl)) h
@[go_sem] theorem go46:goFunc Tryz.prog 46=true:=by kernel_rfl
def c47code:Code:=match Tryz.f47.body with | some c=>c | none=>.skip
def c47S0(_:Unit):Cmd:=(.ops [
 zmv 10 5 3,
 ⟨some 11,.binOp .add 3 (.tmp 10) (.const (.int .i64 1)) 3,3,none⟩,
 zas 5 11 3] [0,1,5])
def c47S1(_:Unit):Cmd:=(.seq (.block 1 (.seq (.ops [
 zmv 12 0 22,
 zmv 13 5 3,
 zix 14 22 12 13,
 zfa 15 52 14 7,
 zld 16 4 15 4,
 zmv 17 16 4,
 zmg 18 1 88 17 true,
 zmg 19 5 3 17 true,
 ⟨some 20,.indexAddr 88 (.tmp 18) (.tmp 19),0,(some (17,true))⟩,
 ⟨some 21,.load 4 (.tmp 20),4,(some (17,true))⟩,
 ⟨some 22,.unOp .not 4 (.tmp 21),4,(some (17,true))⟩,
 ⟨some 23,.pick (.tmp 17) (.tmp 22) (.const (.bool false)),4,none⟩] [0,1,5,23])
 (.cond (.tmp 23)
 (.seq (.ops [
 ⟨some 4,.assign (.const (.bool false)),4,none⟩] [4])
 .ret)
 (.skip [0,1,5])))) (sg c47S0))
def c47L0(_:Unit):Cmd:=(.seq (.seq (.ops [
 zmv 6 5 3,
 zmv 7 0 22,
 ⟨some 8,.call ⟨.builtin .len,#[(.tmp 7)],#[22]⟩,3,none⟩,
 ⟨some 9,.binOp .lss 3 (.tmp 6) (.tmp 8) 3,4,none⟩] [0,1,5,9])
 (.cond (.tmp 9)
 (.skip [0,1,5])
 (.exit 0 []))) (sg c47S1))
def c47S2(_:Unit):Cmd:=(.seq (.ops [
 ⟨some 4,.assign (.const (.bool true)),4,none⟩] [4])
 .ret)
def c47:Cmd:=(.seq (.ops [
 ⟨some 4,.assign (.const (.bool false)),4,none⟩] [0,1])
 (.seq (.seq (.ops [
 ⟨some 5,.assign (.const (.int .i64 0)),3,none⟩] [0,1,5])
 (.block 0 (.loop (sg c47L0)))) (sg c47S2)))
attribute [go_sem] c47 c47S0 c47S1 c47L0 c47S2
theorem ent47(a0 a1:Value)(w:World)(K:Value→World→Prop)(h:W Tryz.prog c47 [(0,a0),(1,a1)] w (finQ Tryz.prog [.tmp 4] K)):Ret Tryz.prog 47 [a0,a1] w K :=
 Ret_of_W (code:=c47code) Tryz.func47 (by kernel_rfl) (by kernel_rfl) (of_decide_eq_true (by kernel_rfl)) h
@[go_sem] theorem go47:goFunc Tryz.prog 47=true:=by kernel_rfl
def c48code:Code:=match Tryz.f48.body with | some c=>c | none=>.skip
def c48S0(_:Unit):Cmd:=(.seq (.ops [
 zmv 8 3 25,
 zas 2 8 25] [2])
 .ret)
def c48S1(_:Unit):Cmd:=(.seq (.ops [
 zmv 6 3 25,
 ⟨some 7,.call ⟨.value (.func 78),#[(.tmp 6)],#[25]⟩,0,none⟩] [3]) (sg c48S0))
def c48:Cmd:=(.seq (.ops [
 ⟨some 2,.assign (.const (.slice none 0 0)),25,none⟩] [0])
 (.seq (.ops [
 zmv 4 0 94,
 ⟨some 5,.call ⟨.value (.func 77),#[(.tmp 4)],#[94]⟩,25,none⟩,
 zas 3 5 25] [3]) (sg c48S1)))
attribute [go_sem] c48 c48S0 c48S1
theorem ent48(a0:Value)(w:World)(K:Value→World→Prop)(h:W Tryz.prog c48 [(0,a0)] w (finQ Tryz.prog [.tmp 2] K)):Ret Tryz.prog 48 [a0] w K :=
 Ret_of_W (code:=c48code) Tryz.func48 (by kernel_rfl) (by kernel_rfl) (of_decide_eq_true (by kernel_rfl)) h
@[go_sem] theorem go48:goFunc Tryz.prog 48=true:=by kernel_rfl
def c49code:Code:=match Tryz.f49.body with | some c=>c | none=>.skip
def c49:Cmd:=(.seq (.ops [
 ⟨some 1,.box 91 (.tmp 0),0,none⟩,
 ⟨some 2,.assign (.const .nilFunc),94,none⟩] [1])
 (.seq (.ops [
 ⟨some 3,.makeFunc (.func 79) #[] #[(.tmp 1)],93,none⟩,
 zas 2 3 94] [2])
 .ret))
attribute [go_sem] c49
theorem ent49(a0:Value)(w:World)(K:Value→World→Prop)(h:W Tryz.prog c49 [(0,a0)] w (finQ Tryz.prog [.tmp 2] K)):Ret Tryz.prog 49 [a0] w K :=
 Ret_of_W (code:=c49code) Tryz.func49 (by kernel_rfl) (by kernel_rfl) (of_decide_eq_true (by kernel_rfl)) h
@[go_sem] theorem go49:goFunc Tryz.prog 49=true:=by kernel_rfl
def c51code:Code:=match Tryz.f51.body with | some c=>c | none=>.skip
def c51S0(_:Unit):Cmd:=.ret
def c51:Cmd:=(.seq (.ops [
 ⟨some 2,.box 52 (.tmp 0),0,none⟩,
 ⟨some 3,.box 52 (.tmp 1),0,none⟩,
 ⟨some 4,.assign (.const (.int .i64 0)),3,none⟩] [2,3])
 (.seq (.draw (drawOps 0 c51code) [4]) (sg c51S0)))
attribute [go_sem] c51 c51S0
def c51D0:List (Nat × Ins):=[
 (0,zfa 5 52 2 9),
 (0,zfa 7 52 3 9),
 (0,zfa 10 52 2 0),
 (0,zfa 12 52 3 0),
 (1,zld 6 3 5 3),
 (1,zld 8 3 7 3),
 (1,zld 11 3 10 3),
 (1,zld 13 3 12 3),
 (2,⟨some 9,.call ⟨.value (.func 53),#[(.tmp 6),(.tmp 8)],#[3,3]⟩,3,none⟩),
 (2,⟨some 14,.call ⟨.value (.func 53),#[(.tmp 11),(.tmp 13)],#[3,3]⟩,3,none⟩),
 (2,⟨some 15,.buildSlice 25 2 #[(0,(.tmp 9)),(1,(.tmp 14))],25,none⟩),
 (2,⟨some 16,.call ⟨.value (.func 52),#[(.tmp 15)],#[25]⟩,3,none⟩),
 (0,zas 4 16 3)]
theorem c51draw0{L:List Nat}{ρ:Env}{w:World}{Q:Post}(S:World→Prop)(hS:S w.drew)(h:DG Tryz.prog S c51D0 L ρ w.drew Q):drawW Tryz.prog (drawOps 0 c51code) L ρ w Q :=
 drawW_held [1,3,6,8] [(0,0),(0,2),(0,5),(0,7),(1,1),(1,3),(1,6),(1,8),(2,4),(2,9),(2,10),(2,11),(0,12)] c51D0 (by kernel_rfl) (by kernel_rfl) (by kernel_rfl) S hS h
theorem ent51(a0 a1:Value)(w:World)(K:Value→World→Prop)(h:W Tryz.prog c51 [(0,a0),(1,a1)] w (finQ Tryz.prog [.tmp 4] K)):Ret Tryz.prog 51 [a0,a1] w K :=
 Ret_of_W (code:=c51code) Tryz.func51 (by kernel_rfl) (by kernel_rfl) (of_decide_eq_true (by kernel_rfl)) h
@[go_sem] theorem go51:goFunc Tryz.prog 51=true:=by kernel_rfl
def c52code:Code:=match Tryz.f52.body with | some c=>c | none=>.skip
def c52S0(_:Unit):Cmd:=(.ops [
 ⟨some 16,.binOp .add 3 (.tmp 8) (.const (.int .i64 1)) 3,3,none⟩,
 zmv 8 16 3] [3,6,7,8])
def c52S1(_:Unit):Cmd:=(.seq (.block 1 (.seq (.ops [
 zix 10 25 6 8,
 zld 11 3 10 3,
 zas 5 11 3] [3,5,6,7,8])
 (.seq (.ops [
 zmv 12 5 3,
 zmv 13 3 3,
 ⟨some 14,.binOp .neq 3 (.tmp 12) (.tmp 13) 3,4,none⟩] [3,5,6,7,8,14])
 (.cond (.tmp 14)
 (.seq (.ops [
 zmv 15 5 3,
 zas 2 15 3] [2])
 .ret)
 (.skip [3,6,7,8]))))) (sg c52S0))
def c52L0(_:Unit):Cmd:=(.seq (.ops [
 ⟨some 9,.binOp .lss 3 (.tmp 8) (.tmp 7) 3,0,none⟩] [3,6,7,8,9])
 (.seq (.cond (.tmp 9)
 (.skip [3,6,7,8])
 (.exit 0 [3])) (sg c52S1)))
def c52S2(_:Unit):Cmd:=(.seq (.ops [
 zmv 17 3 3,
 zas 2 17 3] [2])
 .ret)
def c52:Cmd:=(.seq (.ops [
 ⟨some 2,.assign (.const (.int .i64 0)),3,none⟩] [0])
 (.seq (.ops [
 ⟨some 3,.assign (.const (.int .i64 0)),3,none⟩] [0,3])
 (.seq (.seq (.ops [
 zmv 6 0 25,
 ⟨some 7,.call ⟨.builtin .len,#[(.tmp 6)],#[25]⟩,3,none⟩,
 ⟨some 8,.move (.const (.int .i64 0)),3,none⟩] [3,6,7,8])
 (.block 0 (.loop (sg c52L0)))) (sg c52S2))))
attribute [go_sem] c52 c52S0 c52S1 c52L0 c52S2
theorem ent52(a0:Value)(w:World)(K:Value→World→Prop)(h:W Tryz.prog c52 [(0,a0)] w (finQ Tryz.prog [.tmp 2] K)):Ret Tryz.prog 52 [a0] w K :=
 Ret_of_W (code:=c52code) Tryz.func52 (by kernel_rfl) (by kernel_rfl) (of_decide_eq_true (by kernel_rfl)) h
@[go_sem] theorem go52:goFunc Tryz.prog 52=true:=by kernel_rfl
def c53code:Code:=match Tryz.f53.body with | some c=>c | none=>.skip
def c53S0(_:Unit):Cmd:=(.seq (.ops [
 ⟨some 4,.assign (.const (.int .i64 (-1))),3,none⟩] [4])
 .ret)
def c53S1(_:Unit):Cmd:=(.seq (.ops [
 ⟨some 4,.assign (.const (.int .i64 0)),3,none⟩] [4])
 .ret)
def c53S2(_:Unit):Cmd:=(.seq (.seq (.ops [
 zmv 17 0 3,
 zmv 18 1 3,
 ⟨some 19,.binOp .gtr 3 (.tmp 17) (.tmp 18) 3,4,none⟩] [19])
 (.cond (.tmp 19)
 (.seq (.ops [
 ⟨some 4,.assign (.const (.int .i64 1)),3,none⟩] [4])
 .ret)
 (.skip []))) (sg c53S1))
def c53S3(_:Unit):Cmd:=(.seq (.seq (.ops [
 zmv 14 0 3,
 zmv 15 1 3,
 ⟨some 16,.binOp .lss 3 (.tmp 14) (.tmp 15) 3,4,none⟩] [0,1,16])
 (.cond (.tmp 16)
 (.seq (.ops [
 ⟨some 4,.assign (.const (.int .i64 (-1))),3,none⟩] [4])
 .ret)
 (.skip [0,1]))) (sg c53S2))
def c53S4(_:Unit):Cmd:=(.seq (.seq (.ops [
 zmv 13 6 4] [0,1,13])
 (.cond (.tmp 13)
 (.seq (.ops [
 ⟨some 4,.assign (.const (.int .i64 1)),3,none⟩] [4])
 .ret)
 (.skip [0,1]))) (sg c53S3))
def c53S5(_:Unit):Cmd:=(.seq (.seq (.ops [
 zmv 11 5 4] [0,1,6,11])
 (.cond (.tmp 11)
 (.seq (.seq (.ops [
 zmv 12 6 4] [12])
 (.cond (.tmp 12)
 (.seq (.ops [
 ⟨some 4,.assign (.const (.int .i64 0)),3,none⟩] [4])
 .ret)
 (.skip []))) (sg c53S0))
 (.skip [0,1,6]))) (sg c53S4))
def c53S6(_:Unit):Cmd:=(.seq (.ops [
 zmv 9 1 3,
 ⟨some 10,.call ⟨.value (.func 82),#[(.tmp 9)],#[3]⟩,4,none⟩,
 zas 6 10 4] [0,1,5,6]) (sg c53S5))
def c53:Cmd:=(.seq (.ops [
 ⟨some 4,.assign (.const (.int .i64 0)),3,none⟩] [0,1])
 (.seq (.ops [
 zmv 7 0 3,
 ⟨some 8,.call ⟨.value (.func 82),#[(.tmp 7)],#[3]⟩,4,none⟩,
 zas 5 8 4] [0,1,5]) (sg c53S6)))
attribute [go_sem] c53 c53S0 c53S1 c53S2 c53S3 c53S4 c53S5 c53S6
theorem ent53(a0 a1:Value)(w:World)(K:Value→World→Prop)(h:W Tryz.prog c53 [(0,a0),(1,a1)] w (finQ Tryz.prog [.tmp 4] K)):Ret Tryz.prog 53 [a0,a1] w K :=
 Ret_of_W (code:=c53code) Tryz.func53 (by kernel_rfl) (by kernel_rfl) (of_decide_eq_true (by kernel_rfl)) h
@[go_sem] theorem go53:goFunc Tryz.prog 53=true:=by kernel_rfl
def c54code:Code:=match Tryz.f54.body with | some c=>c | none=>.skip
def c54S0(_:Unit):Cmd:=(.seq (.ops [
 ⟨some 4,.assign (.const (.bool false)),4,none⟩] [4])
 .ret)
def c54:Cmd:=(.seq (.ops [
 ⟨some 4,.assign (.const (.bool false)),4,none⟩] [0,1])
 (.seq (.seq (.ops [
 zmv 5 0 3] [1,5])
 (.block 0 (.seq (.ops [
 ⟨some 7,.binOp .eql 3 (.tmp 5) (.const (.int .i64 1)) 3,4,none⟩,
 zas 6 7 4] [1,5,6])
 (.cond (.tmp 6)
 (.seq (.ops [
 zmv 8 1 3,
 ⟨some 9,.binOp .geq 3 (.tmp 8) (.const (.int .i64 1)) 3,4,none⟩,
 zmv 10 9 4,
 zmg 11 1 3 10 true,
 ⟨some 12,.binOp .leq 3 (.tmp 11) (.const (.int .i64 3)) 3,4,(some (10,true))⟩,
 ⟨some 13,.pick (.tmp 10) (.tmp 12) (.const (.bool false)),4,none⟩,
 zas 4 13 4] [4])
 .ret)
 (.seq (.ops [
 ⟨some 15,.binOp .eql 3 (.tmp 5) (.const (.int .i64 2)) 3,4,none⟩,
 zas 14 15 4] [1,5,14])
 (.cond (.tmp 14)
 (.seq (.ops [
 zmv 16 1 3,
 ⟨some 17,.binOp .eql 3 (.tmp 16) (.const (.int .i64 1)) 3,4,none⟩,
 zmv 18 17 4,
 zmg 19 1 3 18 false,
 ⟨some 20,.binOp .eql 3 (.tmp 19) (.const (.int .i64 4)) 3,4,(some (18,false))⟩,
 ⟨some 21,.pick (.tmp 18) (.const (.bool true)) (.tmp 20),4,none⟩,
 zmv 22 21 4,
 zmg 23 1 3 22 false,
 ⟨some 24,.binOp .eql 3 (.tmp 23) (.const (.int .i64 5)) 3,4,(some (22,false))⟩,
 ⟨some 25,.pick (.tmp 22) (.const (.bool true)) (.tmp 24),4,none⟩,
 zas 4 25 4] [4])
 .ret)
 (.seq (.ops [
 ⟨some 27,.binOp .eql 3 (.tmp 5) (.const (.int .i64 3)) 3,4,none⟩,
 zas 26 27 4] [1,5,26])
 (.cond (.tmp 26)
 (.seq (.ops [
 zmv 28 1 3,
 ⟨some 29,.binOp .eql 3 (.tmp 28) (.const (.int .i64 6)) 3,4,none⟩,
 zmv 30 29 4,
 zmg 31 1 3 30 false,
 ⟨some 32,.binOp .eql 3 (.tmp 31) (.const (.int .i64 7)) 3,4,(some (30,false))⟩,
 ⟨some 33,.pick (.tmp 30) (.const (.bool true)) (.tmp 32),4,none⟩,
 zas 4 33 4] [4])
 .ret)
 (.seq (.ops [
 ⟨some 35,.binOp .eql 3 (.tmp 5) (.const (.int .i64 4)) 3,4,none⟩,
 zas 34 35 4] [1,5,34])
 (.cond (.tmp 34)
 (.seq (.ops [
 zmv 36 1 3,
 ⟨some 37,.binOp .eql 3 (.tmp 36) (.const (.int .i64 8)) 3,4,none⟩,
 zmv 38 37 4,
 zmg 39 1 3 38 false,
 ⟨some 40,.binOp .eql 3 (.tmp 39) (.const (.int .i64 9)) 3,4,(some (38,false))⟩,
 ⟨some 41,.pick (.tmp 38) (.const (.bool true)) (.tmp 40),4,none⟩,
 zas 4 41 4] [4])
 .ret)
 (.seq (.ops [
 ⟨some 43,.binOp .eql 3 (.tmp 5) (.const (.int .i64 5)) 3,4,none⟩,
 zas 42 43 4] [1,5,42])
 (.cond (.tmp 42)
 (.seq (.ops [
 zmv 44 1 3,
 ⟨some 45,.binOp .geq 3 (.tmp 44) (.const (.int .i64 10)) 3,4,none⟩,
 zmv 46 45 4,
 zmg 47 1 3 46 true,
 ⟨some 48,.binOp .leq 3 (.tmp 47) (.const (.int .i64 12)) 3,4,(some (46,true))⟩,
 ⟨some 49,.pick (.tmp 46) (.tmp 48) (.const (.bool false)),4,none⟩,
 zas 4 49 4] [4])
 .ret)
 (.seq (.ops [
 ⟨some 51,.binOp .eql 3 (.tmp 5) (.const (.int .i64 6)) 3,4,none⟩,
 zas 50 51 4] [1,50])
 (.cond (.tmp 50)
 (.seq (.ops [
 zmv 52 1 3,
 ⟨some 53,.binOp .eql 3 (.tmp 52) (.const (.int .i64 13)) 3,4,none⟩,
 zmv 54 53 4,
 zmg 55 1 3 54 false,
 ⟨some 56,.binOp .eql 3 (.tmp 55) (.const (.int .i64 14)) 3,4,(some (54,false))⟩,
 ⟨some 57,.pick (.tmp 54) (.const (.bool true)) (.tmp 56),4,none⟩,
 zas 4 57 4] [4])
 .ret)
 (.skip []))))))))))))))) (sg c54S0)))
attribute [go_sem] c54 c54S0
theorem ent54(a0 a1:Value)(w:World)(K:Value→World→Prop)(h:W Tryz.prog c54 [(0,a0),(1,a1)] w (finQ Tryz.prog [.tmp 4] K)):Ret Tryz.prog 54 [a0,a1] w K :=
 Ret_of_W (code:=c54code) Tryz.func54 (by kernel_rfl) (by kernel_rfl) (of_decide_eq_true (by kernel_rfl)) h
@[go_sem] theorem go54:goFunc Tryz.prog 54=true:=by kernel_rfl
def c55code:Code:=match Tryz.f55.body with | some c=>c | none=>.skip
def c55S0(_:Unit):Cmd:=.ret
def c55S1(_:Unit):Cmd:=.ret
def c55S2(_:Unit):Cmd:=(.cond (.tmp 15)
 (.seq (.ops [
 zfa 22 52 1 5,
 zld 23 3 22 3,
 ⟨some 24,.call ⟨.value (.func 83),#[(.tmp 23)],#[3]⟩,4,none⟩,
 zmv 25 24 4,
 ⟨some 26,.fieldAddr 52 (.tmp 1) 6,0,(some (25,true))⟩,
 ⟨some 27,.load 3 (.tmp 26),3,(some (25,true))⟩,
 ⟨some 28,.binOp .eql 3 (.tmp 27) (.const (.int .i64 0)) 3,4,(some (25,true))⟩,
 ⟨some 29,.pick (.tmp 25) (.tmp 28) (.const (.bool false)),4,none⟩,
 zas 2 29 4] [2]) (sg c55S1))
 (.skip [1]))
def c55S3(_:Unit):Cmd:=(.seq (.ops [
 zfa 30 52 1 5,
 zld 31 3 30 3,
 ⟨some 32,.binOp .eql 3 (.tmp 31) (.const (.int .i64 0)) 3,4,none⟩,
 zmv 33 32 4,
 ⟨some 34,.fieldAddr 52 (.tmp 1) 6,0,(some (33,true))⟩,
 ⟨some 35,.load 3 (.tmp 34),3,(some (33,true))⟩,
 ⟨some 36,.binOp .eql 3 (.tmp 35) (.const (.int .i64 0)) 3,4,(some (33,true))⟩,
 ⟨some 37,.pick (.tmp 33) (.tmp 36) (.const (.bool false)),4,none⟩,
 zas 2 37 4] [2])
 .ret)
def c55:Cmd:=(.seq (.ops [
 ⟨some 1,.box 52 (.tmp 0),0,none⟩,
 ⟨some 2,.assign (.const (.bool false)),4,none⟩] [1])
 (.seq (.seq (.ops [
 zfa 3 52 1 4,
 zld 4 3 3 3] [1,4])
 (.block 0 (.seq (.ops [
 ⟨some 6,.binOp .eql 3 (.tmp 4) (.const (.int .i64 3)) 3,4,none⟩,
 zas 5 6 4] [1,4,5])
 (.cond (.tmp 5)
 (.seq (.ops [
 zfa 7 52 1 5,
 zld 8 3 7 3,
 ⟨some 9,.call ⟨.value (.func 83),#[(.tmp 8)],#[3]⟩,4,none⟩,
 zmv 10 9 4,
 ⟨some 11,.fieldAddr 52 (.tmp 1) 6,0,(some (10,true))⟩,
 ⟨some 12,.load 3 (.tmp 11),3,(some (10,true))⟩,
 ⟨some 13,.call ⟨.value (.func 83),#[(.tmp 12)],#[3]⟩,4,(some (10,true))⟩,
 ⟨some 14,.pick (.tmp 10) (.tmp 13) (.const (.bool false)),4,none⟩,
 zas 2 14 4] [2]) (sg c55S0))
 (.seq (.seq (.ops [
 ⟨some 16,.binOp .eql 3 (.tmp 4) (.const (.int .i64 2)) 3,4,none⟩,
 zas 15 16 4] [1,4,15])
 (.cond (.tmp 15)
 (.skip [1,15])
 (.seq (.ops [
 ⟨some 17,.binOp .eql 3 (.tmp 4) (.const (.int .i64 6)) 3,4,none⟩,
 zas 15 17 4] [1,4,15])
 (.cond (.tmp 15)
 (.skip [1,15])
 (.seq (.ops [
 ⟨some 18,.binOp .eql 3 (.tmp 4) (.const (.int .i64 8)) 3,4,none⟩,
 zas 15 18 4] [1,4,15])
 (.cond (.tmp 15)
 (.skip [1,15])
 (.seq (.ops [
 ⟨some 19,.binOp .eql 3 (.tmp 4) (.const (.int .i64 10)) 3,4,none⟩,
 zas 15 19 4] [1,4,15])
 (.cond (.tmp 15)
 (.skip [1,15])
 (.seq (.ops [
 ⟨some 20,.binOp .eql 3 (.tmp 4) (.const (.int .i64 11)) 3,4,none⟩,
 zas 15 20 4] [1,4,15])
 (.cond (.tmp 15)
 (.skip [1,15])
 (.ops [
 ⟨some 21,.binOp .eql 3 (.tmp 4) (.const (.int .i64 12)) 3,4,none⟩,
 zas 15 21 4] [1,15]))))))))))) (sg c55S2)))))) (sg c55S3)))
attribute [go_sem] c55 c55S0 c55S1 c55S3
theorem ent55(a0:Value)(w:World)(K:Value→World→Prop)(h:W Tryz.prog c55 [(0,a0)] w (finQ Tryz.prog [.tmp 2] K)):Ret Tryz.prog 55 [a0] w K :=
 Ret_of_W (code:=c55code) Tryz.func55 (by kernel_rfl) (by kernel_rfl) (of_decide_eq_true (by kernel_rfl)) h
@[go_sem] theorem go55:goFunc Tryz.prog 55=true:=by kernel_rfl
def c56code:Code:=match Tryz.f56.body with | some c=>c | none=>.skip
def c56S0(_:Unit):Cmd:=.ret
def c56S1(_:Unit):Cmd:=.ret
def c56S2(_:Unit):Cmd:=(.cond (.tmp 34)
 (.seq (.ops [
 zfa 37 52 1 8,
 zld 38 3 37 3,
 ⟨some 39,.binOp .eql 3 (.tmp 38) (.const (.int .i64 (-1))) 3,4,none⟩,
 zmv 40 39 4,
 ⟨some 41,.fieldAddr 52 (.tmp 1) 8,0,(some (40,false))⟩,
 ⟨some 42,.load 3 (.tmp 41),3,(some (40,false))⟩,
 ⟨some 43,.call ⟨.value (.func 83),#[(.tmp 42)],#[3]⟩,4,(some (40,false))⟩,
 ⟨some 44,.pick (.tmp 40) (.const (.bool true)) (.tmp 43),4,none⟩,
 zas 2 44 4] [2]) (sg c56S1))
 (.skip [1]))
def c56S3(_:Unit):Cmd:=(.cond (.tmp 21)
 (.seq (.ops [
 zfa 26 52 1 8,
 zld 27 3 26 3,
 ⟨some 28,.binOp .eql 3 (.tmp 27) (.const (.int .i64 0)) 3,4,none⟩,
 zmv 29 28 4,
 ⟨some 30,.fieldAddr 52 (.tmp 1) 8,0,(some (29,false))⟩,
 ⟨some 31,.load 3 (.tmp 30),3,(some (29,false))⟩,
 ⟨some 32,.binOp .eql 3 (.tmp 31) (.const (.int .i64 1)) 3,4,(some (29,false))⟩,
 ⟨some 33,.pick (.tmp 29) (.const (.bool true)) (.tmp 32),4,none⟩,
 zas 2 33 4] [2])
 .ret)
 (.seq (.seq (.ops [
 ⟨some 35,.binOp .eql 3 (.tmp 4) (.const (.int .i64 7)) 3,4,none⟩,
 zas 34 35 4] [1,4,34])
 (.cond (.tmp 34)
 (.skip [1,34])
 (.ops [
 ⟨some 36,.binOp .eql 3 (.tmp 4) (.const (.int .i64 9)) 3,4,none⟩,
 zas 34 36 4] [1,34]))) (sg c56S2)))
def c56S4(_:Unit):Cmd:=(.seq (.ops [
 zfa 45 52 1 8,
 zld 46 3 45 3,
 ⟨some 47,.binOp .eql 3 (.tmp 46) (.const (.int .i64 0)) 3,4,none⟩,
 zas 2 47 4] [2])
 .ret)
def c56:Cmd:=(.seq (.ops [
 ⟨some 1,.box 52 (.tmp 0),0,none⟩,
 ⟨some 2,.assign (.const (.bool false)),4,none⟩] [1])
 (.seq (.seq (.ops [
 zfa 3 52 1 4,
 zld 4 3 3 3] [1,4])
 (.block 0 (.seq (.ops [
 ⟨some 6,.binOp .eql 3 (.tmp 4) (.const (.int .i64 1)) 3,4,none⟩,
 zas 5 6 4] [1,4,5])
 (.cond (.tmp 5)
 (.seq (.ops [
 zfa 7 52 1 8,
 zld 8 3 7 3,
 ⟨some 9,.call ⟨.value (.func 83),#[(.tmp 8)],#[3]⟩,4,none⟩,
 zmv 10 9 4,
 ⟨some 11,.fieldAddr 52 (.tmp 1) 3,0,(some (10,false))⟩,
 ⟨some 12,.load 3 (.tmp 11),3,(some (10,false))⟩,
 ⟨some 13,.binOp .eql 3 (.tmp 12) (.const (.int .i64 2)) 3,4,(some (10,false))⟩,
 zmg 14 13 4 10 false,
 ⟨some 15,.fieldAddr 52 (.tmp 1) 8,0,(some (14,true))⟩,
 ⟨some 16,.load 3 (.tmp 15),3,(some (14,true))⟩,
 ⟨some 17,.unOp .neg 3 (.tmp 16),3,(some (14,true))⟩,
 ⟨some 18,.call ⟨.value (.func 83),#[(.tmp 17)],#[3]⟩,4,(some (14,true))⟩,
 ⟨some 19,.pick (.tmp 14) (.tmp 18) (.const (.bool false)),4,(some (10,false))⟩,
 ⟨some 20,.pick (.tmp 10) (.const (.bool true)) (.tmp 19),4,none⟩,
 zas 2 20 4] [2]) (sg c56S0))
 (.seq (.seq (.ops [
 ⟨some 22,.binOp .eql 3 (.tmp 4) (.const (.int .i64 3)) 3,4,none⟩,
 zas 21 22 4] [1,4,21])
 (.cond (.tmp 21)
 (.skip [1,4,21])
 (.seq (.ops [
 ⟨some 23,.binOp .eql 3 (.tmp 4) (.const (.int .i64 10)) 3,4,none⟩,
 zas 21 23 4] [1,4,21])
 (.cond (.tmp 21)
 (.skip [1,4,21])
 (.seq (.ops [
 ⟨some 24,.binOp .eql 3 (.tmp 4) (.const (.int .i64 11)) 3,4,none⟩,
 zas 21 24 4] [1,4,21])
 (.cond (.tmp 21)
 (.skip [1,4,21])
 (.ops [
 ⟨some 25,.binOp .eql 3 (.tmp 4) (.const (.int .i64 12)) 3,4,none⟩,
 zas 21 25 4] [1,4,21]))))))) (sg c56S3)))))) (sg c56S4)))
attribute [go_sem] c56 c56S0 c56S1 c56S4
theorem ent56(a0:Value)(w:World)(K:Value→World→Prop)(h:W Tryz.prog c56 [(0,a0)] w (finQ Tryz.prog [.tmp 2] K)):Ret Tryz.prog 56 [a0] w K :=
 Ret_of_W (code:=c56code) Tryz.func56 (by kernel_rfl) (by kernel_rfl) (of_decide_eq_true (by kernel_rfl)) h
@[go_sem] theorem go56:goFunc Tryz.prog 56=true:=by kernel_rfl
def c57code:Code:=match Tryz.f57.body with | some c=>c | none=>.skip
def c57:Cmd:=(.seq (.ops [
 ⟨some 1,.box 22 (.tmp 0),0,none⟩,
 ⟨some 2,.assign (.const .nilFunc),102,none⟩] [1])
 (.seq (.ops [
 ⟨some 3,.makeFunc (.func 84) #[] #[(.tmp 1)],101,none⟩,
 zas 2 3 102] [2])
 .ret))
attribute [go_sem] c57
theorem ent57(a0:Value)(w:World)(K:Value→World→Prop)(h:W Tryz.prog c57 [(0,a0)] w (finQ Tryz.prog [.tmp 2] K)):Ret Tryz.prog 57 [a0] w K :=
 Ret_of_W (code:=c57code) Tryz.func57 (by kernel_rfl) (by kernel_rfl) (of_decide_eq_true (by kernel_rfl)) h
@[go_sem] theorem go57:goFunc Tryz.prog 57=true:=by kernel_rfl
def c58code:Code:=match Tryz.f58.body with | some c=>c | none=>.skip
def c58:Cmd:=(.seq (.ops [
 ⟨some 1,.box 56 (.tmp 0),0,none⟩,
 ⟨some 2,.assign (.const .nilFunc),94,none⟩] [1])
 (.seq (.ops [
 ⟨some 3,.makeFunc (.func 85) #[] #[(.tmp 1)],93,none⟩,
 zas 2 3 94] [2])
 .ret))
attribute [go_sem] c58
theorem ent58(a0:Value)(w:World)(K:Value→World→Prop)(h:W Tryz.prog c58 [(0,a0)] w (finQ Tryz.prog [.tmp 2] K)):Ret Tryz.prog 58 [a0] w K :=
 Ret_of_W (code:=c58code) Tryz.func58 (by kernel_rfl) (by kernel_rfl) (of_decide_eq_true (by kernel_rfl)) h
@[go_sem] theorem go58:goFunc Tryz.prog 58=true:=by kernel_rfl
def c59code:Code:=match Tryz.f59.body with | some c=>c | none=>.skip
def c59S0(_:Unit):Cmd:=(.seq (.ops [
 zmv 50 0 54,
 ⟨some 51,.nilCheck (.tmp 50),0,none⟩,
 zfa 52 60 51 2,
 zld 53 57 52 57,
 ⟨some 54,.call ⟨.builtin .len,#[(.tmp 53)],#[57]⟩,3,none⟩,
 ⟨some 55,.binOp .sub 3 (.tmp 54) (.const (.int .i64 1)) 3,3,none⟩,
 zas 6 55 3] [6])
 .ret)
def c59S1(_:Unit):Cmd:=(.seq (.draw (drawOps 1 c59code) [0]) (sg c59S0))
def c59S2(_:Unit):Cmd:=(.seq (.draw (drawOps 0 c59code) [0,1,2]) (sg c59S1))
def c59S3(_:Unit):Cmd:=(.seq (.seq (.ops [
 zmv 14 0 54,
 ⟨some 15,.nilCheck (.tmp 14),0,none⟩,
 zfa 16 60 15 3,
 zld 17 58 16 58,
 zmv 18 7 9,
 ⟨some 19,.lookup 58 (.tmp 17) (.tmp 18) true,138,none⟩,
 zmv 13 19 138,
 ⟨some 20,.extract (.tmp 13) 0,3,none⟩,
 ⟨some 21,.extract (.tmp 13) 1,4,none⟩,
 zas 8 20 3,
 zas 9 21 4] [0,1,2,7,8,9])
 (.seq (.ops [
 zmv 22 9 4] [0,1,2,7,8,22])
 (.cond (.tmp 22)
 (.seq (.ops [
 zmv 23 8 3,
 zas 6 23 3] [6])
 .ret)
 (.skip [0,1,2,7])))) (sg c59S2))
def c59:Cmd:=(.seq (.ops [
 ⟨some 6,.assign (.const (.int .i64 0)),3,none⟩] [0,1,2])
 (.seq (.ops [
 zmv 10 1 25,
 zmv 11 2 61,
 ⟨some 12,.call ⟨.value (.func 86),#[(.tmp 10),(.tmp 11)],#[25,61]⟩,9,none⟩,
 zas 7 12 9] [0,1,2,7]) (sg c59S3)))
attribute [go_sem] c59 c59S3
def c59D0:List (Nat × Ins):=[
 (0,zmv 24 0 54),
 (0,⟨some 25,.nilCheck (.tmp 24),0,none⟩),
 (0,zfa 26 60 25 3),
 (0,zmv 28 7 9),
 (0,zmv 29 0 54),
 (0,⟨some 30,.nilCheck (.tmp 29),0,none⟩),
 (0,zfa 31 60 30 2),
 (1,zld 27 58 26 58),
 (2,zld 32 57 31 57),
 (0,⟨some 33,.call ⟨.builtin .len,#[(.tmp 32)],#[57]⟩,3,none⟩),
 (3,⟨none,.mapUpdate 58 (.tmp 27) (.tmp 28) (.tmp 33),0,none⟩)]
theorem c59draw0{L:List Nat}{ρ:Env}{w:World}{Q:Post}(S:World→Prop)(hS:S w.drew)(h:DG Tryz.prog S c59D0 L ρ w.drew Q):drawW Tryz.prog (drawOps 0 c59code) L ρ w Q :=
 drawW_held [3] [(0,0),(0,1),(0,2),(0,4),(0,5),(0,6),(0,7),(1,3),(2,8),(0,9),(3,10)] c59D0 (by kernel_rfl) (by kernel_rfl) (by kernel_rfl) S hS h
def c59D1:List (Nat × Ins):=[
 (0,zmv 34 0 54),
 (0,zmv 35 0 54),
 (0,⟨some 36,.nilCheck (.tmp 35),0,none⟩),
 (0,zfa 37 60 36 2),
 (0,zmv 39 1 25),
 (0,zmv 40 2 61),
 (0,zmv 41 0 54),
 (0,zmv 42 1 25),
 (1,zld 38 57 37 57),
 (2,⟨some 43,.call ⟨.value (.func 87),#[(.tmp 41),(.tmp 42)],#[54,25]⟩,4,none⟩),
 (2,⟨some 44,.build 64 #[(0,(.tmp 39)),(1,(.tmp 40)),(3,(.tmp 43))],64,none⟩),
 (2,⟨some 45,.box 64 (.tmp 44),65,none⟩),
 (2,⟨some 46,.buildSlice 57 1 #[(0,(.tmp 45))],57,none⟩),
 (3,⟨some 47,.call ⟨.builtin .append,#[(.tmp 38),(.tmp 46)],#[57,57]⟩,57,none⟩),
 (0,⟨some 48,.nilCheck (.tmp 34),0,none⟩),
 (0,zfa 49 60 48 2),
 (3,⟨none,.store 57 (.tmp 49) (.tmp 47),0,none⟩)]
theorem c59draw1{L:List Nat}{ρ:Env}{w:World}{Q:Post}(S:World→Prop)(hS:S w.drew)(h:DG Tryz.prog S c59D1 L ρ w.drew Q):drawW Tryz.prog (drawOps 1 c59code) L ρ w Q :=
 drawW_held [4] [(0,0),(0,1),(0,2),(0,3),(0,5),(0,6),(0,7),(0,8),(1,4),(2,9),(2,10),(2,11),(2,12),(3,13),(0,14),(0,15),(3,16)] c59D1 (by kernel_rfl) (by kernel_rfl) (by kernel_rfl) S hS h
theorem ent59(a0 a1 a2:Value)(w:World)(K:Value→World→Prop)(h:W Tryz.prog c59 [(0,a0),(1,a1),(2,a2)] w (finQ Tryz.prog [.tmp 6] K)):Ret Tryz.prog 59 [a0,a1,a2] w K :=
 Ret_of_W (code:=c59code) Tryz.func59 (by kernel_rfl) (by kernel_rfl) (of_decide_eq_true (by kernel_rfl)) h
@[go_sem] theorem go59:goFunc Tryz.prog 59=true:=by kernel_rfl
def c60code:Code:=match Tryz.f60.body with | some c=>c | none=>.skip
def c60S0(_:Unit):Cmd:=(.seq (.ops [
 zmv 44 11 25,
 zmv 45 2 3,
 zix 46 25 44 45,
 zld 47 3 46 3,
 ⟨some 48,.binOp .add 3 (.tmp 47) (.const (.int .i64 1)) 3,3,none⟩,
 zix 49 25 44 45,
 ⟨none,.store 3 (.tmp 49) (.tmp 48),0,none⟩] [0,1,7,8,9,11,12])
 (.seq (.ops [
 zmv 50 12 61,
 zmv 51 8 3,
 zmv 52 9 25,
 zix 53 61 50 51,
 ⟨none,.store 25 (.tmp 53) (.tmp 52),0,none⟩] [0,1,7,11,12])
 (.draw (drawOps 3 c60code) [])))
def c60S1(_:Unit):Cmd:=(.seq (.draw (drawOps 2 c60code) [0,1,2,7,8,9,11,12]) (sg c60S0))
def c60S2(_:Unit):Cmd:=(.seq (.seq (.ops [
 zmv 32 10 4,
 ⟨some 33,.unOp .not 4 (.tmp 32),4,none⟩] [0,1,2,7,8,9,33])
 (.cond (.tmp 33)
 .ret
 (.skip [0,1,2,7,8,9]))) (sg c60S1))
def c60S3(_:Unit):Cmd:=(.seq (.draw (drawOps 1 c60code) [0,1,2,7,8,9,10]) (sg c60S2))
def c60:Cmd:=(.seq (.ops [
 ⟨some 7,.box 52 (.tmp 3),0,none⟩] [0,1,2,7])
 (.seq (.draw (drawOps 0 c60code) [0,1,2,7,8]) (sg c60S3)))
attribute [go_sem] c60
def c60D0:List (Nat × Ins):=[
 (0,zmv 13 0 54),
 (0,⟨some 14,.nilCheck (.tmp 13),0,none⟩),
 (0,zfa 15 60 14 1),
 (0,zfa 17 52 7 2),
 (1,zld 16 56 15 56),
 (2,zld 18 3 17 3),
 (3,⟨some 19,.lookup 56 (.tmp 16) (.tmp 18) false,3,none⟩),
 (0,zas 8 19 3)]
theorem c60draw0{L:List Nat}{ρ:Env}{w:World}{Q:Post}(S:World→Prop)(hS:S w.drew)(h:DG Tryz.prog S c60D0 L ρ w.drew Q):drawW Tryz.prog (drawOps 0 c60code) L ρ w Q :=
 drawW_held [3] [(0,0),(0,1),(0,2),(0,4),(1,3),(2,5),(3,6),(0,7)] c60D0 (by kernel_rfl) (by kernel_rfl) (by kernel_rfl) S hS h
def c60D1:List (Nat × Ins):=[
 (0,zmv 21 1 65),
 (0,⟨some 22,.nilCheck (.tmp 21),0,none⟩),
 (0,zfa 23 64 22 1),
 (0,zmv 25 8 3),
 (1,zld 24 61 23 61),
 (0,zix 26 61 24 25),
 (1,zld 27 25 26 25),
 (2,zld 28 52 7 52),
 (2,⟨some 29,.call ⟨.value (.func 41),#[(.tmp 27),(.tmp 28)],#[25,52]⟩,81,none⟩),
 (0,zmv 20 29 81),
 (0,⟨some 30,.extract (.tmp 20) 0,25,none⟩),
 (0,⟨some 31,.extract (.tmp 20) 1,4,none⟩),
 (0,zas 9 30 25),
 (0,zas 10 31 4)]
theorem c60draw1{L:List Nat}{ρ:Env}{w:World}{Q:Post}(S:World→Prop)(hS:S w.drew)(h:DG Tryz.prog S c60D1 L ρ w.drew Q):drawW Tryz.prog (drawOps 1 c60code) L ρ w Q :=
 drawW_held [3,6] [(0,0),(0,1),(0,2),(0,4),(1,3),(0,5),(1,6),(2,7),(2,8),(0,9),(0,10),(0,11),(0,12),(0,13)] c60D1 (by kernel_rfl) (by kernel_rfl) (by kernel_rfl) S hS h
def c60D2:List (Nat × Ins):=[
 (0,zmv 34 1 65),
 (0,⟨some 35,.nilCheck (.tmp 34),0,none⟩),
 (0,zfa 36 64 35 0),
 (0,zmv 39 1 65),
 (0,⟨some 40,.nilCheck (.tmp 39),0,none⟩),
 (0,zfa 41 64 40 1),
 (1,zld 37 25 36 25),
 (1,zld 42 61 41 61),
 (2,⟨some 38,.call ⟨.value (.func 88),#[(.tmp 37)],#[25]⟩,25,none⟩),
 (2,⟨some 43,.call ⟨.value (.func 89),#[(.tmp 42)],#[61]⟩,61,none⟩),
 (0,zas 11 38 25),
 (0,zas 12 43 61)]
theorem c60draw2{L:List Nat}{ρ:Env}{w:World}{Q:Post}(S:World→Prop)(hS:S w.drew)(h:DG Tryz.prog S c60D2 L ρ w.drew Q):drawW Tryz.prog (drawOps 2 c60code) L ρ w Q :=
 drawW_held [3,8] [(0,0),(0,1),(0,2),(0,5),(0,6),(0,7),(1,3),(1,8),(2,4),(2,9),(0,10),(0,11)] c60D2 (by kernel_rfl) (by kernel_rfl) (by kernel_rfl) S hS h
def c60D3:List (Nat × Ins):=[
 (0,zmv 54 1 65),
 (0,zmv 55 1 65),
 (0,⟨some 56,.nilCheck (.tmp 55),0,none⟩),
 (0,zfa 57 64 56 2),
 (0,zfa 59 52 7 0),
 (0,zmv 61 0 54),
 (0,zmv 62 11 25),
 (0,zmv 63 12 61),
 (1,zld 58 62 57 62),
 (1,zld 60 3 59 3),
 (2,⟨some 64,.call ⟨.value (.func 59),#[(.tmp 61),(.tmp 62),(.tmp 63)],#[54,25,61]⟩,3,none⟩),
 (2,⟨some 65,.build 113 #[(0,(.tmp 60)),(1,(.tmp 64))],113,none⟩),
 (2,⟨some 66,.buildSlice 62 1 #[(0,(.tmp 65))],62,none⟩),
 (2,⟨some 67,.call ⟨.builtin .append,#[(.tmp 58),(.tmp 66)],#[62,62]⟩,62,none⟩),
 (0,⟨some 68,.nilCheck (.tmp 54),0,none⟩),
 (0,zfa 69 64 68 2),
 (3,⟨none,.store 62 (.tmp 69) (.tmp 67),0,none⟩)]
theorem c60draw3{L:List Nat}{ρ:Env}{w:World}{Q:Post}(S:World→Prop)(hS:S w.drew)(h:DG Tryz.prog S c60D3 L ρ w.drew Q):drawW Tryz.prog (drawOps 3 c60code) L ρ w Q :=
 drawW_held [4,6] [(0,0),(0,1),(0,2),(0,3),(0,5),(0,7),(0,8),(0,9),(1,4),(1,6),(2,10),(2,11),(2,12),(2,13),(0,14),(0,15),(3,16)] c60D3 (by kernel_rfl) (by kernel_rfl) (by kernel_rfl) S hS h
theorem ent60(a0 a1 a2 a3:Value)(w:World)(K:Value→World→Prop)(h:W Tryz.prog c60 [(0,a0),(1,a1),(2,a2),(3,a3)] w (finQ Tryz.prog [] K)):Ret Tryz.prog 60 [a0,a1,a2,a3] w K :=
 Ret_of_W (code:=c60code) Tryz.func60 (by kernel_rfl) (by kernel_rfl) (of_decide_eq_true (by kernel_rfl)) h
@[go_sem] theorem go60:goFunc Tryz.prog 60=true:=by kernel_rfl
def c61code:Code:=match Tryz.f61.body with | some c=>c | none=>.skip
def c61S0(_:Unit):Cmd:=(.seq (.block 1 (.seq (.ops [
 zix 13 25 9 11,
 zld 14 3 13 3,
 zas 5 14 3] [3,5,9,10,11])
 (.ops [
 zmv 15 3 3,
 zmv 16 5 3,
 ⟨some 17,.binOp .add 3 (.tmp 15) (.tmp 16) 3,3,none⟩,
 zas 3 17 3] [3,9,10,11])))
 (.ops [
 ⟨some 18,.binOp .add 3 (.tmp 11) (.const (.int .i64 1)) 3,3,none⟩,
 zmv 11 18 3] [3,9,10,11]))
def c61L0(_:Unit):Cmd:=(.seq (.ops [
 ⟨some 12,.binOp .lss 3 (.tmp 11) (.tmp 10) 3,0,none⟩] [3,9,10,11,12])
 (.seq (.cond (.tmp 12)
 (.skip [3,9,10,11])
 (.exit 0 [3])) (sg c61S0)))
def c61S1(_:Unit):Cmd:=(.seq (.ops [
 zmv 19 3 3,
 zas 2 19 3] [2])
 .ret)
def c61:Cmd:=(.seq (.ops [
 ⟨some 2,.assign (.const (.int .i64 0)),3,none⟩] [0])
 (.seq (.ops [
 ⟨some 3,.assign (.const (.int .i64 0)),3,none⟩] [0,3])
 (.seq (.seq (.ops [
 zmv 6 0 65,
 ⟨some 7,.nilCheck (.tmp 6),0,none⟩,
 zfa 8 64 7 0,
 zld 9 25 8 25,
 ⟨some 10,.call ⟨.builtin .len,#[(.tmp 9)],#[25]⟩,3,none⟩,
 ⟨some 11,.move (.const (.int .i64 0)),3,none⟩] [3,9,10,11])
 (.block 0 (.loop (sg c61L0)))) (sg c61S1))))
attribute [go_sem] c61 c61S0 c61S1
theorem ent61(a0:Value)(w:World)(K:Value→World→Prop)(h:W Tryz.prog c61 [(0,a0)] w (finQ Tryz.prog [.tmp 2] K)):Ret Tryz.prog 61 [a0] w K :=
 Ret_of_W (code:=c61code) Tryz.func61 (by kernel_rfl) (by kernel_rfl) (of_decide_eq_true (by kernel_rfl)) h
@[go_sem] theorem go61:goFunc Tryz.prog 61=true:=by kernel_rfl
def c62code:Code:=match Tryz.f62.body with | some c=>c | none=>.skip
def c62S0(_:Unit):Cmd:=.ret
def c62S1(_:Unit):Cmd:=(.seq (.ops [
 ⟨some 5,.buildSlice 57 0 #[],57,none⟩,
 zmv 6 0 57,
 ⟨some 7,.call ⟨.builtin .append,#[(.tmp 5),(.tmp 6)],#[57,57]⟩,57,none⟩,
 zas 2 7 57] [2]) (sg c62S0))
def c62:Cmd:=(.seq (.ops [
 ⟨some 2,.assign (.const (.slice none 0 0)),57,none⟩] [0])
 (.seq (.seq (.ops [
 zmv 3 0 57,
 ⟨some 4,.binOp .eql 57 (.tmp 3) (.const (.slice none 0 0)) 57,4,none⟩] [0,4])
 (.cond (.tmp 4)
 (.seq (.ops [
 ⟨some 2,.assign (.const (.slice none 0 0)),57,none⟩] [2])
 .ret)
 (.skip [0]))) (sg c62S1)))
attribute [go_sem] c62 c62S0 c62S1
theorem ent62(a0:Value)(w:World)(K:Value→World→Prop)(h:W Tryz.prog c62 [(0,a0)] w (finQ Tryz.prog [.tmp 2] K)):Ret Tryz.prog 62 [a0] w K :=
 Ret_of_W (code:=c62code) Tryz.func62 (by kernel_rfl) (by kernel_rfl) (of_decide_eq_true (by kernel_rfl)) h
@[go_sem] theorem go62:goFunc Tryz.prog 62=true:=by kernel_rfl
def c63code:Code:=match Tryz.f63.body with | some c=>c | none=>.skip
def c63:Cmd:=(.ops [
 zmv 4 0 57,
 zmv 5 0 57,
 ⟨some 6,.call ⟨.builtin .len,#[(.tmp 5)],#[57]⟩,3,none⟩,
 zmv 7 1 110,
 ⟨some 8,.call ⟨.value (.func 90),#[(.tmp 4),(.tmp 6),(.tmp 7)],#[57,3,110]⟩,0,none⟩] [])
attribute [go_sem] c63
theorem ent63(a0 a1:Value)(w:World)(K:Value→World→Prop)(h:W Tryz.prog c63 [(0,a0),(1,a1)] w (finQ Tryz.prog [] K)):Ret Tryz.prog 63 [a0,a1] w K :=
 Ret_of_W (code:=c63code) Tryz.func63 (by kernel_rfl) (by kernel_rfl) (of_decide_eq_true (by kernel_rfl)) h
@[go_sem] theorem go63:goFunc Tryz.prog 63=true:=by kernel_rfl
def c64code:Code:=match Tryz.f64.body with | some c=>c | none=>.skip
def c64S0(_:Unit):Cmd:=.ret
def c64:Cmd:=(.seq (.ops [
 ⟨some 5,.assign (.const (.int .i64 0)),3,none⟩] [0,1,2])
 (.seq (.draw (drawOps 0 c64code) [5]) (sg c64S0)))
attribute [go_sem] c64 c64S0
def c64D0:List (Nat × Ins):=[
 (0,zmv 7 1 65),
 (0,zmv 10 0 65),
 (1,zld 6 107 2 107),
 (1,zld 9 107 2 107),
 (2,⟨some 8,.call ⟨.value (.tmp 6),#[(.tmp 7)],#[65]⟩,3,none⟩),
 (2,⟨some 11,.call ⟨.value (.tmp 9),#[(.tmp 10)],#[65]⟩,3,none⟩),
 (2,⟨some 12,.call ⟨.value (.func 53),#[(.tmp 8),(.tmp 11)],#[3,3]⟩,3,none⟩),
 (0,zas 5 12 3)]
theorem c64draw0{L:List Nat}{ρ:Env}{w:World}{Q:Post}(S:World→Prop)(hS:S w.drew)(h:DG Tryz.prog S c64D0 L ρ w.drew Q):drawW Tryz.prog (drawOps 0 c64code) L ρ w Q :=
 drawW_held [0,3] [(0,1),(0,4),(1,0),(1,3),(2,2),(2,5),(2,6),(0,7)] c64D0 (by kernel_rfl) (by kernel_rfl) (by kernel_rfl) S hS h
theorem ent64(a0 a1 a2:Value)(w:World)(K:Value→World→Prop)(h:W Tryz.prog c64 [(0,a0),(1,a1),(2,a2)] w (finQ Tryz.prog [.tmp 5] K)):Ret Tryz.prog 64 [a0,a1,a2] w K :=
 Ret_of_W (code:=c64code) Tryz.func64 (by kernel_rfl) (by kernel_rfl) (of_decide_eq_true (by kernel_rfl)) h
@[go_sem] theorem go64:goFunc Tryz.prog 64=true:=by kernel_rfl
def c65code:Code:=match Tryz.f65.body with | some c=>c | none=>.skip
def c65S0(_:Unit):Cmd:=.ret
def c65:Cmd:=(.seq (.ops [
 ⟨some 4,.assign (.const (.bool false)),4,none⟩] [0,1])
 (.seq (.ops [
 zmv 5 0 62,
 zmv 6 1 114,
 ⟨some 7,.call ⟨.value (.func 91),#[(.tmp 5),(.tmp 6)],#[62,114]⟩,3,none⟩,
 ⟨some 8,.binOp .geq 3 (.tmp 7) (.const (.int .i64 0)) 3,4,none⟩,
 zas 4 8 4] [4]) (sg c65S0)))
attribute [go_sem] c65 c65S0
theorem ent65(a0 a1:Value)(w:World)(K:Value→World→Prop)(h:W Tryz.prog c65 [(0,a0),(1,a1)] w (finQ Tryz.prog [.tmp 4] K)):Ret Tryz.prog 65 [a0,a1] w K :=
 Ret_of_W (code:=c65code) Tryz.func65 (by kernel_rfl) (by kernel_rfl) (of_decide_eq_true (by kernel_rfl)) h
@[go_sem] theorem go65:goFunc Tryz.prog 65=true:=by kernel_rfl
def c66code:Code:=match Tryz.f66.body with | some c=>c | none=>.skip
def c66S0(_:Unit):Cmd:=.ret
def c66:Cmd:=(.seq (.ops [
 ⟨some 2,.box 113 (.tmp 0),0,none⟩,
 ⟨some 3,.assign (.const (.bool false)),4,none⟩] [1,2])
 (.seq (.draw (drawOps 0 c66code) [3]) (sg c66S0)))
attribute [go_sem] c66 c66S0
def c66D0:List (Bool × Ins):=[
 (false,zld 4 54 1 54),
 (true,⟨some 5,.nilCheck (.tmp 4),0,none⟩),
 (true,zfa 6 60 5 2),
 (false,zld 7 57 6 57),
 (true,zfa 8 113 2 1),
 (false,zld 9 3 8 3),
 (true,zix 10 57 7 9),
 (false,zld 11 65 10 65),
 (true,⟨some 12,.nilCheck (.tmp 11),0,none⟩),
 (true,zfa 13 64 12 4),
 (false,zld 14 4 13 4),
 (true,zas 3 14 4)]
theorem c66draw0{L:List Nat}{ρ:Env}{w:World}{Q:Post}(h:DL Tryz.prog c66D0 L ρ w.drew Q):drawW Tryz.prog (drawOps 0 c66code) L ρ w Q :=
 drawW_still [false,true,true,false,true,false,true,false,true,true,false,true] c66D0 (by kernel_rfl) (by kernel_rfl) (by kernel_rfl) h
theorem ent66(a0 a1:Value)(w:World)(K:Value→World→Prop)(h:W Tryz.prog c66 [(0,a0),(1,a1)] w (finQ Tryz.prog [.tmp 3] K)):Ret Tryz.prog 66 [a0,a1] w K :=
 Ret_of_W (code:=c66code) Tryz.func66 (by kernel_rfl) (by kernel_rfl) (of_decide_eq_true (by kernel_rfl)) h
@[go_sem] theorem go66:goFunc Tryz.prog 66=true:=by kernel_rfl
def c67code:Code:=match Tryz.f67.body with | some c=>c | none=>.skip
def c67:Cmd:=(.seq (.ops [
 ⟨some 6,.assign (.const (.bool false)),4,none⟩] [0,1,2])
 (.seq (.ops [
 zmv 7 0 3,
 zmv 8 1 3,
 ⟨some 9,.binOp .geq 3 (.tmp 7) (.tmp 8) 3,4,none⟩,
 zmv 10 9 4,
 zmg 11 0 3 10 true,
 zmg 12 2 3 10 true,
 ⟨some 13,.binOp .leq 3 (.tmp 11) (.tmp 12) 3,4,(some (10,true))⟩,
 ⟨some 14,.pick (.tmp 10) (.tmp 13) (.const (.bool false)),4,none⟩,
 zas 6 14 4] [6])
 .ret))
attribute [go_sem] c67
theorem ent67(a0 a1 a2:Value)(w:World)(K:Value→World→Prop)(h:W Tryz.prog c67 [(0,a0),(1,a1),(2,a2)] w (finQ Tryz.prog [.tmp 6] K)):Ret Tryz.prog 67 [a0,a1,a2] w K :=
 Ret_of_W (code:=c67code) Tryz.func67 (by kernel_rfl) (by kernel_rfl) (of_decide_eq_true (by kernel_rfl)) h
@[go_sem] theorem go67:goFunc Tryz.prog 67=true:=by kernel_rfl
def c68code:Code:=match Tryz.f68.body with | some c=>c | none=>.skip
def c68S0(_:Unit):Cmd:=(.ops [
 zmv 13 7 3,
 ⟨some 14,.binOp .add 3 (.tmp 13) (.const (.int .i64 1)) 3,3,none⟩,
 zas 7 14 3] [0,1,4,6,7])
def c68S1(_:Unit):Cmd:=(.seq (.block 1 (.seq (.ops [
 zmv 15 6 144,
 zmv 16 7 3,
 zix 17 144 15 16,
 zfa 18 117 17 0,
 zld 19 3 18 3,
 zmv 20 0 3,
 ⟨some 21,.binOp .eql 3 (.tmp 19) (.tmp 20) 3,4,none⟩,
 zmv 22 21 4,
 zmg 23 6 144 22 true,
 zmg 24 7 3 22 true,
 ⟨some 25,.indexAddr 144 (.tmp 23) (.tmp 24),0,(some (22,true))⟩,
 ⟨some 26,.fieldAddr 117 (.tmp 25) 1,0,(some (22,true))⟩,
 ⟨some 27,.load 3 (.tmp 26),3,(some (22,true))⟩,
 zmg 28 1 3 22 true,
 ⟨some 29,.binOp .eql 3 (.tmp 27) (.tmp 28) 3,4,(some (22,true))⟩,
 ⟨some 30,.pick (.tmp 22) (.tmp 29) (.const (.bool false)),4,none⟩] [0,1,4,6,7,30])
 (.cond (.tmp 30)
 (.seq (.ops [
 zmv 31 6 144,
 zmv 32 7 3,
 zix 33 144 31 32,
 zld 34 117 33 117,
 ⟨none,.store 117 (.tmp 4) (.tmp 34),0,none⟩,
 ⟨some 5,.assign (.const (.bool true)),4,none⟩] [4,5])
 .ret)
 (.skip [0,1,4,6,7])))) (sg c68S0))
def c68L0(_:Unit):Cmd:=(.seq (.seq (.ops [
 zmv 9 7 3,
 zmv 10 6 144,
 ⟨some 11,.call ⟨.builtin .len,#[(.tmp 10)],#[144]⟩,3,none⟩,
 ⟨some 12,.binOp .lss 3 (.tmp 9) (.tmp 11) 3,4,none⟩] [0,1,4,6,7,12])
 (.cond (.tmp 12)
 (.skip [0,1,4,6,7])
 (.exit 0 [4]))) (sg c68S1))
def c68S2(_:Unit):Cmd:=(.seq (.ops [
 ⟨some 35,.build 117 #[],117,none⟩,
 ⟨none,.store 117 (.tmp 4) (.tmp 35),0,none⟩,
 ⟨some 5,.assign (.const (.bool false)),4,none⟩] [4,5])
 .ret)
def c68S3(_:Unit):Cmd:=(.seq (.seq (.ops [
 ⟨some 7,.assign (.const (.int .i64 0)),3,none⟩] [0,1,4,6,7])
 (.block 0 (.loop (sg c68L0)))) (sg c68S2))
def c68:Cmd:=(.seq (.ops [
 ⟨some 4,.alloc 117,0,none⟩,
 ⟨some 5,.assign (.const (.bool false)),4,none⟩] [0,1,4])
 (.seq (.ops [
 ⟨some 8,.call ⟨.value (.func 92),#[],#[]⟩,144,none⟩,
 zas 6 8 144] [0,1,4,6]) (sg c68S3)))
attribute [go_sem] c68 c68S0 c68S1 c68L0 c68S2 c68S3
theorem ent68(a0 a1:Value)(w:World)(K:Value→World→Prop)(h:W Tryz.prog c68 [(0,a0),(1,a1)] w (finQ Tryz.prog [.cell 4 117,.tmp 5] K)):Ret Tryz.prog 68 [a0,a1] w K :=
 Ret_of_W (code:=c68code) Tryz.func68 (by kernel_rfl) (by kernel_rfl) (of_decide_eq_true (by kernel_rfl)) h
@[go_sem] theorem go68:goFunc Tryz.prog 68=true:=by kernel_rfl
def c69code:Code:=match Tryz.f69.body with | some c=>c | none=>.skip
def c69S0(_:Unit):Cmd:=.ret
def c69S1(_:Unit):Cmd:=.ret
def c69S2(_:Unit):Cmd:=.ret
def c69S3(_:Unit):Cmd:=(.seq (.ops [
 zmv 25 0 3,
 ⟨some 26,.call ⟨.value (.func 67),#[(.tmp 25),(.const (.int .i64 (-1))),(.const (.int .i64 1073741824))],#[3,3,3]⟩,4,none⟩,
 zas 4 26 4] [4]) (sg c69S2))
def c69S4(_:Unit):Cmd:=(.seq (.seq (.ops [
 zmv 21 1 3,
 ⟨some 22,.binOp .eql 3 (.tmp 21) (.const (.int .i64 3)) 3,4,none⟩] [0,22])
 (.cond (.tmp 22)
 (.seq (.ops [
 zmv 23 0 3,
 ⟨some 24,.call ⟨.value (.func 67),#[(.tmp 23),(.const (.int .i64 (-1073741824))),(.const (.int .i64 1073741824))],#[3,3,3]⟩,4,none⟩,
 zas 4 24 4] [4]) (sg c69S1))
 (.skip [0]))) (sg c69S3))
def c69S5(_:Unit):Cmd:=(.seq (.seq (.ops [
 zmv 17 1 3,
 ⟨some 18,.binOp .eql 3 (.tmp 17) (.const (.int .i64 2)) 3,4,none⟩] [0,1,18])
 (.cond (.tmp 18)
 (.seq (.ops [
 zmv 19 0 3,
 ⟨some 20,.call ⟨.value (.func 67),#[(.tmp 19),(.const (.int .i64 0)),(.const (.int .i64 1073741824))],#[3,3,3]⟩,4,none⟩,
 zas 4 20 4] [4]) (sg c69S0))
 (.skip [0,1]))) (sg c69S4))
def c69S6(_:Unit):Cmd:=(.seq (.seq (.ops [
 zmv 9 1 3,
 ⟨some 10,.binOp .eql 3 (.tmp 9) (.const (.int .i64 1)) 3,4,none⟩] [0,1,10])
 (.cond (.tmp 10)
 (.seq (.ops [
 zmv 11 0 3,
 ⟨some 12,.binOp .eql 3 (.tmp 11) (.const (.int .i64 0)) 3,4,none⟩,
 zmv 13 12 4,
 zmg 14 0 3 13 false,
 ⟨some 15,.binOp .eql 3 (.tmp 14) (.const (.int .i64 1)) 3,4,(some (13,false))⟩,
 ⟨some 16,.pick (.tmp 13) (.const (.bool true)) (.tmp 15),4,none⟩,
 zas 4 16 4] [4])
 .ret)
 (.skip [0,1]))) (sg c69S5))
def c69:Cmd:=(.seq (.ops [
 ⟨some 4,.assign (.const (.bool false)),4,none⟩] [0,1])
 (.seq (.seq (.ops [
 zmv 5 1 3,
 ⟨some 6,.binOp .eql 3 (.tmp 5) (.const (.int .i64 0)) 3,4,none⟩] [0,1,6])
 (.cond (.tmp 6)
 (.seq (.ops [
 zmv 7 0 3,
 ⟨some 8,.binOp .eql 3 (.tmp 7) (.const (.int .i64 0)) 3,4,none⟩,
 zas 4 8 4] [4])
 .ret)
 (.skip [0,1]))) (sg c69S6)))
attribute [go_sem] c69 c69S0 c69S1 c69S2 c69S3 c69S4 c69S5 c69S6
theorem ent69(a0 a1:Value)(w:World)(K:Value→World→Prop)(h:W Tryz.prog c69 [(0,a0),(1,a1)] w (finQ Tryz.prog [.tmp 4] K)):Ret Tryz.prog 69 [a0,a1] w K :=
 Ret_of_W (code:=c69code) Tryz.func69 (by kernel_rfl) (by kernel_rfl) (of_decide_eq_true (by kernel_rfl)) h
@[go_sem] theorem go69:goFunc Tryz.prog 69=true:=by kernel_rfl
def c70code:Code:=match Tryz.f70.body with | some c=>c | none=>.skip
def c70S0(_:Unit):Cmd:=(.cond (.tmp 20)
 (.seq (.ops [
 zmv 21 0 68,
 zmv 22 6 3,
 zix 23 68 21 22,
 zfa 24 125 23 1,
 zld 25 25 24 25,
 zmv 26 6 3,
 zas 4 25 25,
 zas 5 26 3] [4,5])
 .ret)
 (.skip [0,3,6]))
def c70S1(_:Unit):Cmd:=(.ops [
 zmv 11 6 3,
 ⟨some 12,.binOp .add 3 (.tmp 11) (.const (.int .i64 1)) 3,3,none⟩,
 zas 6 12 3] [0,3,6])
def c70S2(_:Unit):Cmd:=(.seq (.block 1 (.seq (.draw (drawOps 0 c70code) [0,3,6,20]) (sg c70S0))) (sg c70S1))
def c70L0(_:Unit):Cmd:=(.seq (.seq (.ops [
 zmv 7 6 3,
 zmv 8 0 68,
 ⟨some 9,.call ⟨.builtin .len,#[(.tmp 8)],#[68]⟩,3,none⟩,
 ⟨some 10,.binOp .lss 3 (.tmp 7) (.tmp 9) 3,4,none⟩] [0,3,6,10])
 (.cond (.tmp 10)
 (.skip [0,3,6])
 (.exit 0 [3]))) (sg c70S2))
def c70S3(_:Unit):Cmd:=.ret
def c70S4(_:Unit):Cmd:=(.seq (.ops [
 zfa 27 52 3 3,
 zld 28 3 27 3,
 ⟨some 29,.call ⟨.value (.func 22),#[(.tmp 28)],#[3]⟩,25,none⟩,
 zas 4 29 25,
 ⟨some 5,.assign (.const (.int .i64 (-1))),3,none⟩] [4,5]) (sg c70S3))
def c70:Cmd:=(.seq (.ops [
 ⟨some 3,.box 52 (.tmp 1),0,none⟩,
 ⟨some 4,.assign (.const (.slice none 0 0)),25,none⟩,
 ⟨some 5,.assign (.const (.int .i64 0)),3,none⟩] [0,3])
 (.seq (.seq (.ops [
 ⟨some 6,.assign (.const (.int .i64 0)),3,none⟩] [0,3,6])
 (.block 0 (.loop (sg c70L0)))) (sg c70S4)))
attribute [go_sem] c70 c70S0 c70S1 c70S2 c70S3
def c70D0:List (Bool × Ins):=[
 (true,zmv 13 0 68),
 (true,zmv 14 6 3),
 (true,zix 15 68 13 14),
 (true,zfa 16 125 15 0),
 (false,zld 17 3 16 3),
 (true,zfa 18 52 3 2),
 (false,zld 19 3 18 3),
 (true,⟨some 20,.binOp .eql 3 (.tmp 17) (.tmp 19) 3,4,none⟩)]
theorem c70draw0{L:List Nat}{ρ:Env}{w:World}{Q:Post}(h:DL Tryz.prog c70D0 L ρ w.drew Q):drawW Tryz.prog (drawOps 0 c70code) L ρ w Q :=
 drawW_still [true,true,true,true,false,true,false,true] c70D0 (by kernel_rfl) (by kernel_rfl) (by kernel_rfl) h
theorem ent70(a0 a1:Value)(w:World)(K:Value→World→Prop)(h:W Tryz.prog c70 [(0,a0),(1,a1)] w (finQ Tryz.prog [.tmp 4,.tmp 5] K)):Ret Tryz.prog 70 [a0,a1] w K :=
 Ret_of_W (code:=c70code) Tryz.func70 (by kernel_rfl) (by kernel_rfl) (of_decide_eq_true (by kernel_rfl)) h
@[go_sem] theorem go70:goFunc Tryz.prog 70=true:=by kernel_rfl
def c71code:Code:=match Tryz.f71.body with | some c=>c | none=>.skip
def c71S0(_:Unit):Cmd:=(.ops [
 zmv 13 4 3,
 ⟨some 14,.binOp .add 3 (.tmp 13) (.const (.int .i64 1)) 3,3,none⟩,
 zas 4 14 3] [0,3,4])
def c71S1(_:Unit):Cmd:=(.seq (.block 1 (.ops [
 zmv 15 3 9,
 zmv 16 0 25,
 zmv 17 4 3,
 zix 18 25 16 17,
 zld 19 3 18 3,
 ⟨some 20,.call ⟨.value (.func 94),#[(.tmp 19)],#[3]⟩,147,none⟩,
 ⟨some 21,.call ⟨.value (.func 93),#[(.tmp 20)],#[147]⟩,9,none⟩,
 ⟨some 22,.binOp .add 9 (.tmp 15) (.tmp 21) 9,9,none⟩,
 zas 3 22 9] [0,3,4])) (sg c71S0))
def c71L0(_:Unit):Cmd:=(.seq (.seq (.ops [
 zmv 9 4 3,
 zmv 10 0 25,
 ⟨some 11,.call ⟨.builtin .len,#[(.tmp 10)],#[25]⟩,3,none⟩,
 ⟨some 12,.binOp .lss 3 (.tmp 9) (.tmp 11) 3,4,none⟩] [0,3,4,12])
 (.cond (.tmp 12)
 (.skip [0,3,4])
 (.exit 0 [3]))) (sg c71S1))
def c71S2(_:Unit):Cmd:=(.seq (.ops [
 zmv 23 3 9,
 zas 2 23 9] [2])
 .ret)
def c71S3(_:Unit):Cmd:=(.seq (.seq (.ops [
 ⟨some 4,.assign (.const (.int .i64 0)),3,none⟩] [0,3,4])
 (.block 0 (.loop (sg c71L0)))) (sg c71S2))
def c71:Cmd:=(.seq (.ops [
 ⟨some 2,.assign (.const (.string (ofL []))),9,none⟩] [0])
 (.seq (.ops [
 zmv 5 0 25,
 ⟨some 6,.call ⟨.builtin .len,#[(.tmp 5)],#[25]⟩,3,none⟩,
 ⟨some 7,.convert 3 147 (.tmp 6),147,none⟩,
 ⟨some 8,.call ⟨.value (.func 93),#[(.tmp 7)],#[147]⟩,9,none⟩,
 zas 3 8 9] [0,3]) (sg c71S3)))
attribute [go_sem] c71 c71S0 c71S1 c71L0 c71S2 c71S3
theorem ent71(a0:Value)(w:World)(K:Value→World→Prop)(h:W Tryz.prog c71 [(0,a0)] w (finQ Tryz.prog [.tmp 2] K)):Ret Tryz.prog 71 [a0] w K :=
 Ret_of_W (code:=c71code) Tryz.func71 (by kernel_rfl) (by kernel_rfl) (of_decide_eq_true (by kernel_rfl)) h
@[go_sem] theorem go71:goFunc Tryz.prog 71=true:=by kernel_rfl
def c72code:Code:=match Tryz.f72.body with | some c=>c | none=>.skip
def c72S0(_:Unit):Cmd:=(.seq (.ops [
 zfa 24 150 6 0,
 zld 25 25 24 25,
 zas 4 25 25,
 ⟨some 5,.assign (.const (.bool true)),4,none⟩] [4,5])
 .ret)
def c72S1(_:Unit):Cmd:=(.seq (.seq (.ops [
 zfa 10 150 6 2,
 zld 11 4 10 4,
 ⟨some 12,.unOp .not 4 (.tmp 11),4,none⟩,
 zmv 13 12 4,
 ⟨some 14,.fieldAddr 52 (.tmp 3) 7,0,(some (13,false))⟩,
 ⟨some 15,.load 4 (.tmp 14),4,(some (13,false))⟩,
 zmg 16 15 4 13 false,
 ⟨some 17,.fieldAddr 150 (.tmp 6) 1,0,(some (16,true))⟩,
 ⟨some 18,.load 3 (.tmp 17),3,(some (16,true))⟩,
 ⟨some 19,.fieldAddr 52 (.tmp 3) 8,0,(some (16,true))⟩,
 ⟨some 20,.load 3 (.tmp 19),3,(some (16,true))⟩,
 ⟨some 21,.binOp .neq 3 (.tmp 18) (.tmp 20) 3,4,(some (16,true))⟩,
 ⟨some 22,.pick (.tmp 16) (.tmp 21) (.const (.bool false)),4,(some (13,false))⟩,
 ⟨some 23,.pick (.tmp 13) (.const (.bool true)) (.tmp 22),4,none⟩] [6,23])
 (.cond (.tmp 23)
 (.seq (.ops [
 ⟨some 4,.assign (.const (.slice none 0 0)),25,none⟩,
 ⟨some 5,.assign (.const (.bool false)),4,none⟩] [4,5])
 .ret)
 (.skip [6]))) (sg c72S0))
def c72:Cmd:=(.seq (.ops [
 ⟨some 3,.box 52 (.tmp 1),0,none⟩,
 ⟨some 4,.assign (.const (.slice none 0 0)),25,none⟩,
 ⟨some 5,.assign (.const (.bool false)),4,none⟩] [0,3])
 (.seq (.ops [
 zmv 7 0 25,
 zld 8 52 3 52,
 ⟨some 9,.call ⟨.value (.func 95),#[(.tmp 7),(.tmp 8)],#[25,52]⟩,150,none⟩,
 ⟨some 6,.alloc 150,0,none⟩,
 ⟨none,.store 150 (.tmp 6) (.tmp 9),0,none⟩] [3,6]) (sg c72S1)))
attribute [go_sem] c72 c72S0
theorem ent72(a0 a1:Value)(w:World)(K:Value→World→Prop)(h:W Tryz.prog c72 [(0,a0),(1,a1)] w (finQ Tryz.prog [.tmp 4,.tmp 5] K)):Ret Tryz.prog 72 [a0,a1] w K :=
 Ret_of_W (code:=c72code) Tryz.func72 (by kernel_rfl) (by kernel_rfl) (of_decide_eq_true (by kernel_rfl)) h
@[go_sem] theorem go72:goFunc Tryz.prog 72=true:=by kernel_rfl
def c73code:Code:=match Tryz.f73.body with | some c=>c | none=>.skip
def c73S0(_:Unit):Cmd:=.ret
def c73S1(_:Unit):Cmd:=(.seq (.ops [
 zmv 18 7 25,
 zld 19 52 3 52,
 ⟨some 20,.call ⟨.value (.func 96),#[(.tmp 18),(.tmp 19)],#[25,52]⟩,126,none⟩,
 ⟨some 21,.extract (.tmp 20) 0,25,none⟩,
 ⟨some 22,.extract (.tmp 20) 1,3,none⟩,
 ⟨some 23,.extract (.tmp 20) 2,4,none⟩,
 zas 4 21 25,
 zas 5 22 3,
 zas 6 23 4] [4,5,6]) (sg c73S0))
def c73S2(_:Unit):Cmd:=.ret
def c73S3(_:Unit):Cmd:=.ret
def c73S4(_:Unit):Cmd:=(.cond (.tmp 55)
 (.seq (.ops [
 ⟨some 4,.assign (.const (.slice none 0 0)),25,none⟩,
 ⟨some 5,.assign (.const (.int .i64 0)),3,none⟩,
 ⟨some 6,.assign (.const (.bool true)),4,none⟩] [4,5,6])
 .ret)
 (.skip []))
def c73S5(_:Unit):Cmd:=(.cond (.tmp 24)
 (.seq (.ops [
 zmv 27 7 25,
 zld 28 52 3 52,
 ⟨some 29,.call ⟨.value (.func 97),#[(.tmp 27),(.tmp 28)],#[25,52]⟩,126,none⟩,
 ⟨some 30,.extract (.tmp 29) 0,25,none⟩,
 ⟨some 31,.extract (.tmp 29) 1,3,none⟩,
 ⟨some 32,.extract (.tmp 29) 2,4,none⟩,
 zas 4 30 25,
 zas 5 31 3,
 zas 6 32 4] [4,5,6]) (sg c73S2))
 (.seq (.ops [
 ⟨some 34,.binOp .eql 3 (.tmp 11) (.const (.int .i64 5)) 3,4,none⟩,
 zas 33 34 4] [3,7,11,33])
 (.cond (.tmp 33)
 (.seq (.ops [
 zmv 35 7 25,
 zld 36 52 3 52,
 ⟨some 37,.call ⟨.value (.func 98),#[(.tmp 35),(.tmp 36)],#[25,52]⟩,126,none⟩,
 ⟨some 38,.extract (.tmp 37) 0,25,none⟩,
 ⟨some 39,.extract (.tmp 37) 1,3,none⟩,
 ⟨some 40,.extract (.tmp 37) 2,4,none⟩,
 zas 4 38 25,
 zas 5 39 3,
 zas 6 40 4] [4,5,6]) (sg c73S3))
 (.seq (.ops [
 ⟨some 42,.binOp .eql 3 (.tmp 11) (.const (.int .i64 6)) 3,4,none⟩,
 zas 41 42 4] [3,7,41])
 (.cond (.tmp 41)
 (.block 1 (.seq (.ops [
 zfa 44 52 3 4,
 zld 45 3 44 3,
 ⟨some 46,.binOp .eql 3 (.tmp 45) (.const (.int .i64 13)) 3,4,none⟩,
 zmv 47 46 4,
 zmg 48 7 25 47 true,
 ⟨some 49,.call ⟨.builtin .len,#[(.tmp 48)],#[25]⟩,3,(some (47,true))⟩,
 ⟨some 50,.binOp .eql 3 (.tmp 49) (.const (.int .i64 0)) 3,4,(some (47,true))⟩,
 ⟨some 51,.pick (.tmp 47) (.tmp 50) (.const (.bool false)),4,none⟩,
 zas 43 51 4] [3,7,43])
 (.cond (.tmp 43)
 (.seq (.ops [
 zfa 52 52 3 1,
 zld 53 3 52 3,
 ⟨some 54,.buildSlice 25 1 #[(0,(.tmp 53))],25,none⟩,
 zas 4 54 25,
 ⟨some 5,.assign (.const (.int .i64 0)),3,none⟩,
 ⟨some 6,.assign (.const (.bool true)),4,none⟩] [4,5,6])
 .ret)
 (.seq (.draw (drawOps 0 c73code) [55]) (sg c73S4)))))
 (.skip []))))))
def c73S6(_:Unit):Cmd:=(.cond (.tmp 12)
 (.seq (.seq (.ops [
 zmv 15 7 25,
 ⟨some 16,.call ⟨.builtin .len,#[(.tmp 15)],#[25]⟩,3,none⟩,
 ⟨some 17,.binOp .neq 3 (.tmp 16) (.const (.int .i64 1)) 3,4,none⟩] [3,7,17])
 (.cond (.tmp 17)
 (.seq (.ops [
 ⟨some 4,.assign (.const (.slice none 0 0)),25,none⟩,
 ⟨some 5,.assign (.const (.int .i64 0)),3,none⟩,
 ⟨some 6,.assign (.const (.bool false)),4,none⟩] [4,5,6])
 .ret)
 (.skip [3,7]))) (sg c73S1))
 (.seq (.seq (.ops [
 ⟨some 25,.binOp .eql 3 (.tmp 11) (.const (.int .i64 3)) 3,4,none⟩,
 zas 24 25 4] [3,7,11,24])
 (.cond (.tmp 24)
 (.skip [3,7,11,24])
 (.ops [
 ⟨some 26,.binOp .eql 3 (.tmp 11) (.const (.int .i64 4)) 3,4,none⟩,
 zas 24 26 4] [3,7,11,24]))) (sg c73S5)))
def c73S7(_:Unit):Cmd:=(.seq (.ops [
 ⟨some 4,.assign (.const (.slice none 0 0)),25,none⟩,
 ⟨some 5,.assign (.const (.int .i64 0)),3,none⟩,
 ⟨some 6,.assign (.const (.bool false)),4,none⟩] [4,5,6])
 .ret)
def c73S8(_:Unit):Cmd:=(.seq (.seq (.ops [
 zfa 10 52 3 3,
 zld 11 3 10 3] [3,7,11])
 (.block 0 (.seq (.seq (.ops [
 ⟨some 13,.binOp .eql 3 (.tmp 11) (.const (.int .i64 1)) 3,4,none⟩,
 zas 12 13 4] [3,7,11,12])
 (.cond (.tmp 12)
 (.skip [3,7,11,12])
 (.ops [
 ⟨some 14,.binOp .eql 3 (.tmp 11) (.const (.int .i64 2)) 3,4,none⟩,
 zas 12 14 4] [3,7,11,12]))) (sg c73S6)))) (sg c73S7))
def c73:Cmd:=(.seq (.ops [
 ⟨some 3,.box 52 (.tmp 1),0,none⟩,
 ⟨some 4,.assign (.const (.slice none 0 0)),25,none⟩,
 ⟨some 5,.assign (.const (.int .i64 0)),3,none⟩,
 ⟨some 6,.assign (.const (.bool false)),4,none⟩] [0,3])
 (.seq (.ops [
 zmv 8 0 25,
 ⟨some 9,.call ⟨.value (.func 88),#[(.tmp 8)],#[25]⟩,25,none⟩,
 zas 7 9 25] [3,7]) (sg c73S8)))
attribute [go_sem] c73 c73S0 c73S1 c73S2 c73S3 c73S4 c73S5 c73S6 c73S7
def c73D0:List (Bool × Ins):=[
 (true,zfa 56 52 3 4),
 (false,zld 57 3 56 3),
 (true,⟨some 58,.binOp .eql 3 (.tmp 57) (.const (.int .i64 14)) 3,4,none⟩),
 (true,zmv 59 58 4),
 (true,zmg 60 7 25 59 true),
 (true,⟨some 61,.call ⟨.builtin .len,#[(.tmp 60)],#[25]⟩,3,(some (59,true))⟩),
 (true,⟨some 62,.binOp .eql 3 (.tmp 61) (.const (.int .i64 1)) 3,4,(some (59,true))⟩),
 (true,⟨some 63,.pick (.tmp 59) (.tmp 62) (.const (.bool false)),4,none⟩),
 (true,zmv 64 63 4),
 (true,zmg 65 7 25 64 true),
 (true,⟨some 66,.indexAddr 25 (.tmp 65) (.const (.int .i64 0)),0,(some (64,true))⟩),
 (false,⟨some 67,.load 3 (.tmp 66),3,(some (64,true))⟩),
 (true,⟨some 68,.fieldAddr 52 (.tmp 3) 1,0,(some (64,true))⟩),
 (false,⟨some 69,.load 3 (.tmp 68),3,(some (64,true))⟩),
 (true,⟨some 70,.binOp .eql 3 (.tmp 67) (.tmp 69) 3,4,(some (64,true))⟩),
 (true,⟨some 71,.pick (.tmp 64) (.tmp 70) (.const (.bool false)),4,none⟩),
 (true,zas 55 71 4)]
theorem c73draw0{L:List Nat}{ρ:Env}{w:World}{Q:Post}(h:DL Tryz.prog c73D0 L ρ w.drew Q):drawW Tryz.prog (drawOps 0 c73code) L ρ w Q :=
 drawW_still [true,false,true,true,true,true,true,true,true,true,true,false,true,false,true,true,true] c73D0 (by kernel_rfl) (by kernel_rfl) (by kernel_rfl) h
theorem ent73(a0 a1:Value)(w:World)(K:Value→World→Prop)(h:W Tryz.prog c73 [(0,a0),(1,a1)] w (finQ Tryz.prog [.tmp 4,.tmp 5,.tmp 6] K)):Ret Tryz.prog 73 [a0,a1] w K :=
 Ret_of_W (code:=c73code) Tryz.func73 (by kernel_rfl) (by kernel_rfl) (of_decide_eq_true (by kernel_rfl)) h
@[go_sem] theorem go73:goFunc Tryz.prog 73=true:=by kernel_rfl
def c74code:Code:=match Tryz.f74.body with | some c=>c | none=>.skip
def c74S0(_:Unit):Cmd:=(.cond (.tmp 40)
 (.seq (.ops [
 ⟨some 4,.assign (.const (.int .i64 33)),3,none⟩] [4])
 .ret)
 (.skip [0,3,5]))
def c74S1(_:Unit):Cmd:=(.ops [
 zmv 11 5 3,
 ⟨some 12,.binOp .add 3 (.tmp 11) (.const (.int .i64 1)) 3,3,none⟩,
 zas 5 12 3] [0,3,5])
def c74S2(_:Unit):Cmd:=(.seq (.block 1 (.seq (.draw (drawOps 0 c74code) [0,3,5,40]) (sg c74S0))) (sg c74S1))
def c74L0(_:Unit):Cmd:=(.seq (.seq (.ops [
 zmv 7 5 3,
 zmv 8 0 22,
 ⟨some 9,.call ⟨.builtin .len,#[(.tmp 8)],#[22]⟩,3,none⟩,
 ⟨some 10,.binOp .lss 3 (.tmp 7) (.tmp 9) 3,4,none⟩] [0,3,5,10])
 (.cond (.tmp 10)
 (.skip [0,3,5])
 (.exit 0 [0,3]))) (sg c74S2))
def c74S3(_:Unit):Cmd:=(.cond (.tmp 82)
 (.seq (.ops [
 ⟨some 4,.assign (.const (.int .i64 32)),3,none⟩] [4])
 .ret)
 (.skip [0,3,6]))
def c74S4(_:Unit):Cmd:=(.ops [
 zmv 45 6 3,
 ⟨some 46,.binOp .add 3 (.tmp 45) (.const (.int .i64 1)) 3,3,none⟩,
 zas 6 46 3] [0,3,6])
def c74S5(_:Unit):Cmd:=(.seq (.block 3 (.seq (.draw (drawOps 1 c74code) [0,3,6,82]) (sg c74S3))) (sg c74S4))
def c74L1(_:Unit):Cmd:=(.seq (.seq (.ops [
 zmv 41 6 3,
 zmv 42 0 22,
 ⟨some 43,.call ⟨.builtin .len,#[(.tmp 42)],#[22]⟩,3,none⟩,
 ⟨some 44,.binOp .lss 3 (.tmp 41) (.tmp 43) 3,4,none⟩] [0,3,6,44])
 (.cond (.tmp 44)
 (.skip [0,3,6])
 (.exit 2 []))) (sg c74S5))
def c74S6(_:Unit):Cmd:=(.seq (.ops [
 ⟨some 4,.assign (.const (.int .i64 0)),3,none⟩] [4])
 .ret)
def c74S7(_:Unit):Cmd:=(.seq (.seq (.ops [
 ⟨some 6,.assign (.const (.int .i64 0)),3,none⟩] [0,3,6])
 (.block 2 (.loop (sg c74L1)))) (sg c74S6))
def c74:Cmd:=(.seq (.ops [
 ⟨some 3,.box 52 (.tmp 1),0,none⟩,
 ⟨some 4,.assign (.const (.int .i64 0)),3,none⟩] [0,3])
 (.seq (.seq (.ops [
 ⟨some 5,.assign (.const (.int .i64 0)),3,none⟩] [0,3,5])
 (.block 0 (.loop (sg c74L0)))) (sg c74S7)))
attribute [go_sem] c74 c74S0 c74S1 c74S2 c74L0 c74S3 c74S4 c74S5 c74L1 c74S6 c74S7
def c74D0:List (Bool × Ins):=[
 (true,zmv 13 0 22),
 (true,zmv 14 5 3),
 (true,zix 15 22 13 14),
 (true,zfa 16 52 15 0),
 (false,zld 17 3 16 3),
 (true,zfa 18 52 3 0),
 (false,zld 19 3 18 3),
 (true,⟨some 20,.binOp .neq 3 (.tmp 17) (.tmp 19) 3,4,none⟩),
 (true,zmv 21 20 4),
 (true,zmg 22 0 22 21 true),
 (true,zmg 23 5 3 21 true),
 (true,⟨some 24,.indexAddr 22 (.tmp 22) (.tmp 23),0,(some (21,true))⟩),
 (true,⟨some 25,.fieldAddr 52 (.tmp 24) 2,0,(some (21,true))⟩),
 (false,⟨some 26,.load 3 (.tmp 25),3,(some (21,true))⟩),
 (true,⟨some 27,.fieldAddr 52 (.tmp 3) 2,0,(some (21,true))⟩),
 (false,⟨some 28,.load 3 (.tmp 27),3,(some (21,true))⟩),
 (true,⟨some 29,.binOp .eql 3 (.tmp 26) (.tmp 28) 3,4,(some (21,true))⟩),
 (true,⟨some 30,.pick (.tmp 21) (.tmp 29) (.const (.bool false)),4,none⟩),
 (true,zmv 31 30 4),
 (true,zmg 32 0 22 31 true),
 (true,zmg 33 5 3 31 true),
 (true,⟨some 34,.indexAddr 22 (.tmp 32) (.tmp 33),0,(some (31,true))⟩),
 (true,⟨some 35,.fieldAddr 52 (.tmp 34) 3,0,(some (31,true))⟩),
 (false,⟨some 36,.load 3 (.tmp 35),3,(some (31,true))⟩),
 (true,⟨some 37,.fieldAddr 52 (.tmp 3) 3,0,(some (31,true))⟩),
 (false,⟨some 38,.load 3 (.tmp 37),3,(some (31,true))⟩),
 (true,⟨some 39,.binOp .neq 3 (.tmp 36) (.tmp 38) 3,4,(some (31,true))⟩),
 (true,⟨some 40,.pick (.tmp 31) (.tmp 39) (.const (.bool false)),4,none⟩)]
theorem c74draw0{L:List Nat}{ρ:Env}{w:World}{Q:Post}(h:DL Tryz.prog c74D0 L ρ w.drew Q):drawW Tryz.prog (drawOps 0 c74code) L ρ w Q :=
 drawW_still [true,true,true,true,false,true,false,true,true,true,true,true,true,false,true,false,true,true,true,true,true,true,true,false,true,false,true,true] c74D0 (by kernel_rfl) (by kernel_rfl) (by kernel_rfl) h
def c74D1:List (Nat × Ins):=[
 (0,zmv 47 0 22),
 (0,zmv 48 6 3),
 (0,zix 49 22 47 48),
 (0,zfa 50 52 49 0),
 (0,zfa 52 52 3 0),
 (1,zld 51 3 50 3),
 (2,zld 53 3 52 3),
 (0,⟨some 54,.binOp .neq 3 (.tmp 51) (.tmp 53) 3,4,none⟩),
 (0,zmv 55 54 4),
 (0,zmg 56 0 22 55 true),
 (0,zmg 57 6 3 55 true),
 (0,⟨some 58,.indexAddr 22 (.tmp 56) (.tmp 57),0,(some (55,true))⟩),
 (0,⟨some 59,.fieldAddr 52 (.tmp 58) 1,0,(some (55,true))⟩),
 (0,⟨some 61,.fieldAddr 52 (.tmp 3) 1,0,(some (55,true))⟩),
 (1,⟨some 60,.load 3 (.tmp 59),3,(some (55,true))⟩),
 (2,⟨some 62,.load 3 (.tmp 61),3,(some (55,true))⟩),
 (0,⟨some 63,.binOp .eql 3 (.tmp 60) (.tmp 62) 3,4,(some (55,true))⟩),
 (0,⟨some 64,.pick (.tmp 55) (.tmp 63) (.const (.bool false)),4,none⟩),
 (0,zmv 65 64 4),
 (0,zmg 66 0 22 65 true),
 (0,zmg 67 6 3 65 true),
 (0,⟨some 68,.indexAddr 22 (.tmp 66) (.tmp 67),0,(some (65,true))⟩),
 (1,⟨some 69,.load 52 (.tmp 68),52,(some (65,true))⟩),
 (2,⟨some 70,.load 52 (.tmp 3),52,(some (65,true))⟩),
 (2,⟨some 71,.call ⟨.value (.func 99),#[(.tmp 69),(.tmp 70)],#[52,52]⟩,4,(some (65,true))⟩),
 (0,⟨some 72,.unOp .not 4 (.tmp 71),4,(some (65,true))⟩),
 (0,⟨some 73,.pick (.tmp 65) (.tmp 72) (.const (.bool false)),4,none⟩),
 (0,zmv 74 73 4),
 (0,zmg 76 0 22 74 true),
 (0,zmg 77 6 3 74 true),
 (0,⟨some 78,.indexAddr 22 (.tmp 76) (.tmp 77),0,(some (74,true))⟩),
 (1,⟨some 75,.load 52 (.tmp 3),52,(some (74,true))⟩),
 (2,⟨some 79,.load 52 (.tmp 78),52,(some (74,true))⟩),
 (2,⟨some 80,.call ⟨.value (.func 99),#[(.tmp 75),(.tmp 79)],#[52,52]⟩,4,(some (74,true))⟩),
 (0,⟨some 81,.unOp .not 4 (.tmp 80),4,(some (74,true))⟩),
 (0,⟨some 82,.pick (.tmp 74) (.tmp 81) (.const (.bool false)),4,none⟩)]
theorem c74draw1{L:List Nat}{ρ:Env}{w:World}{Q:Post}(S:World→Prop)(hS:S w.drew)(h:DG Tryz.prog S c74D1 L ρ w.drew Q):drawW Tryz.prog (drawOps 1 c74code) L ρ w Q :=
 drawW_held [4,13,22,28] [(0,0),(0,1),(0,2),(0,3),(0,5),(1,4),(2,6),(0,7),(0,8),(0,9),(0,10),(0,11),(0,12),(0,14),(1,13),(2,15),(0,16),(0,17),(0,18),(0,19),(0,20),(0,21),(1,22),(2,23),(2,24),(0,25),(0,26),(0,27),(0,29),(0,30),(0,31),(1,28),(2,32),(2,33),(0,34),(0,35)] c74D1 (by kernel_rfl) (by kernel_rfl) (by kernel_rfl) S hS h
theorem ent74(a0 a1:Value)(w:World)(K:Value→World→Prop)(h:W Tryz.prog c74 [(0,a0),(1,a1)] w (finQ Tryz.prog [.tmp 4] K)):Ret Tryz.prog 74 [a0,a1] w K :=
 Ret_of_W (code:=c74code) Tryz.func74 (by kernel_rfl) (by kernel_rfl) (of_decide_eq_true (by kernel_rfl)) h
@[go_sem] theorem go74:goFunc Tryz.prog 74=true:=by kernel_rfl
def c75code:Code:=match Tryz.f75.body with | some c=>c | none=>.skip
def c75S0(_:Unit):Cmd:=(.ops [
 zmv 10 4 3,
 ⟨some 11,.binOp .add 3 (.tmp 10) (.const (.int .i64 1)) 3,3,none⟩,
 zas 4 11 3] [1,3,4])
def c75S1(_:Unit):Cmd:=(.seq (.block 1 (.seq (.ops [
 zfa 12 90 1 0,
 zld 13 88 12 88,
 zmv 14 4 3,
 zix 15 88 13 14,
 zld 16 4 15 4] [1,3,4,16])
 (.cond (.tmp 16)
 (.ops [
 zmv 17 3 9,
 ⟨some 18,.binOp .add 9 (.tmp 17) (.const (.string (ofL [49]))) 9,9,none⟩,
 zas 3 18 9] [1,3,4])
 (.ops [
 zmv 19 3 9,
 ⟨some 20,.binOp .add 9 (.tmp 19) (.const (.string (ofL [48]))) 9,9,none⟩,
 zas 3 20 9] [1,3,4])))) (sg c75S0))
def c75L0(_:Unit):Cmd:=(.seq (.seq (.ops [
 zmv 5 4 3,
 zfa 6 90 1 0,
 zld 7 88 6 88,
 ⟨some 8,.call ⟨.builtin .len,#[(.tmp 7)],#[88]⟩,3,none⟩,
 ⟨some 9,.binOp .lss 3 (.tmp 5) (.tmp 8) 3,4,none⟩] [1,3,4,9])
 (.cond (.tmp 9)
 (.skip [1,3,4])
 (.exit 0 [1,3]))) (sg c75S1))
def c75S2(_:Unit):Cmd:=.ret
def c75S3(_:Unit):Cmd:=(.seq (.ops [
 zmv 21 3 9,
 zfa 22 90 1 1,
 zld 23 25 22 25,
 ⟨some 24,.call ⟨.value (.func 71),#[(.tmp 23)],#[25]⟩,9,none⟩,
 ⟨some 25,.binOp .add 9 (.tmp 21) (.tmp 24) 9,9,none⟩,
 zas 2 25 9] [2]) (sg c75S2))
def c75:Cmd:=(.seq (.ops [
 ⟨some 1,.box 90 (.tmp 0),0,none⟩,
 ⟨some 2,.assign (.const (.string (ofL []))),9,none⟩] [1])
 (.seq (.ops [
 ⟨some 3,.assign (.const (.string (ofL []))),9,none⟩] [1,3])
 (.seq (.seq (.ops [
 ⟨some 4,.assign (.const (.int .i64 0)),3,none⟩] [1,3,4])
 (.block 0 (.loop (sg c75L0)))) (sg c75S3))))
attribute [go_sem] c75 c75S0 c75S1 c75L0 c75S2
theorem ent75(a0:Value)(w:World)(K:Value→World→Prop)(h:W Tryz.prog c75 [(0,a0)] w (finQ Tryz.prog [.tmp 2] K)):Ret Tryz.prog 75 [a0] w K :=
 Ret_of_W (code:=c75code) Tryz.func75 (by kernel_rfl) (by kernel_rfl) (of_decide_eq_true (by kernel_rfl)) h
@[go_sem] theorem go75:goFunc Tryz.prog 75=true:=by kernel_rfl
def c76code:Code:=match Tryz.f76.body with | some c=>c | none=>.skip
def c76S0(_:Unit):Cmd:=(.cond (.tmp 33)
 (.seq (.ops [
 ⟨some 6,.assign (.const (.bool false)),4,none⟩] [6])
 .ret)
 (.skip [0,1,2,7]))
def c76S1(_:Unit):Cmd:=(.ops [
 zmv 16 7 3,
 ⟨some 17,.binOp .add 3 (.tmp 16) (.const (.int .i64 1)) 3,3,none⟩,
 zas 7 17 3] [0,1,2,7])
def c76S2(_:Unit):Cmd:=(.seq (.block 1 (.seq (.draw (drawOps 0 c76code) [0,1,2,7,33]) (sg c76S0))) (sg c76S1))
def c76L0(_:Unit):Cmd:=(.seq (.seq (.ops [
 zmv 12 7 3,
 zmv 13 0 22,
 ⟨some 14,.call ⟨.builtin .len,#[(.tmp 13)],#[22]⟩,3,none⟩,
 ⟨some 15,.binOp .lss 3 (.tmp 12) (.tmp 14) 3,4,none⟩] [0,1,2,7,15])
 (.cond (.tmp 15)
 (.skip [0,1,2,7])
 (.exit 0 []))) (sg c76S2))
def c76S3(_:Unit):Cmd:=(.seq (.ops [
 ⟨some 6,.assign (.const (.bool true)),4,none⟩] [6])
 .ret)
def c76S4(_:Unit):Cmd:=(.seq (.seq (.ops [
 ⟨some 7,.assign (.const (.int .i64 0)),3,none⟩] [0,1,2,7])
 (.block 0 (.loop (sg c76L0)))) (sg c76S3))
def c76:Cmd:=(.seq (.ops [
 ⟨some 6,.assign (.const (.bool false)),4,none⟩] [0,1,2])
 (.seq (.seq (.ops [
 zmv 8 1 88,
 zmv 9 2 3,
 zix 10 88 8 9,
 zld 11 4 10 4] [0,1,2,11])
 (.cond (.tmp 11)
 (.seq (.ops [
 ⟨some 6,.assign (.const (.bool false)),4,none⟩] [6])
 .ret)
 (.skip [0,1,2]))) (sg c76S4)))
attribute [go_sem] c76 c76S0 c76S1 c76S2 c76L0 c76S3
def c76D0:List (Nat × Ins):=[
 (0,zmv 18 1 88),
 (0,zmv 19 7 3),
 (0,zix 20 88 18 19),
 (2,zld 21 4 20 4),
 (0,⟨some 22,.unOp .not 4 (.tmp 21),4,none⟩),
 (0,zmv 23 22 4),
 (0,zmg 24 0 22 23 true),
 (0,zmg 25 7 3 23 true),
 (0,⟨some 26,.indexAddr 22 (.tmp 24) (.tmp 25),0,(some (23,true))⟩),
 (0,zmg 28 0 22 23 true),
 (0,zmg 29 2 3 23 true),
 (0,⟨some 30,.indexAddr 22 (.tmp 28) (.tmp 29),0,(some (23,true))⟩),
 (1,⟨some 27,.load 52 (.tmp 26),52,(some (23,true))⟩),
 (2,⟨some 31,.load 52 (.tmp 30),52,(some (23,true))⟩),
 (3,⟨some 32,.call ⟨.value (.func 99),#[(.tmp 27),(.tmp 31)],#[52,52]⟩,4,(some (23,true))⟩),
 (0,⟨some 33,.pick (.tmp 23) (.tmp 32) (.const (.bool false)),4,none⟩)]
theorem c76draw0{L:List Nat}{ρ:Env}{w:World}{Q:Post}(S:World→Prop)(hS:S w.drew)(h:DG Tryz.prog S c76D0 L ρ w.drew Q):drawW Tryz.prog (drawOps 0 c76code) L ρ w Q :=
 drawW_held [9] [(0,0),(0,1),(0,2),(2,3),(0,4),(0,5),(0,6),(0,7),(0,8),(0,10),(0,11),(0,12),(1,9),(2,13),(3,14),(0,15)] c76D0 (by kernel_rfl) (by kernel_rfl) (by kernel_rfl) S hS h
theorem ent76(a0 a1 a2:Value)(w:World)(K:Value→World→Prop)(h:W Tryz.prog c76 [(0,a0),(1,a1),(2,a2)] w (finQ Tryz.prog [.tmp 6] K)):Ret Tryz.prog 76 [a0,a1,a2] w K :=
 Ret_of_W (code:=c76code) Tryz.func76 (by kernel_rfl) (by kernel_rfl) (of_decide_eq_true (by kernel_rfl)) h
@[go_sem] theorem go76:goFunc Tryz.prog 76=true:=by kernel_rfl
def c77code:Code:=match Tryz.f77.body with | some c=>c | none=>.skip
def c77S0(_:Unit):Cmd:=.ret
def c77:Cmd:=(.seq (.ops [
 ⟨some 2,.assign (.const (.slice none 0 0)),25,none⟩] [0])
 (.seq (.ops [
 zmv 3 0 94,
 ⟨some 4,.call ⟨.value (.func 100),#[(.const (.slice none 0 0)),(.tmp 3)],#[25,94]⟩,25,none⟩,
 zas 2 4 25] [2]) (sg c77S0)))
attribute [go_sem] c77 c77S0
theorem ent77(a0:Value)(w:World)(K:Value→World→Prop)(h:W Tryz.prog c77 [(0,a0)] w (finQ Tryz.prog [.tmp 2] K)):Ret Tryz.prog 77 [a0] w K :=
 Ret_of_W (code:=c77code) Tryz.func77 (by kernel_rfl) (by kernel_rfl) (of_decide_eq_true (by kernel_rfl)) h
@[go_sem] theorem go77:goFunc Tryz.prog 77=true:=by kernel_rfl
def c79code:Code:=match Tryz.f79.body with | some c=>c | none=>.skip
def c79S0(_:Unit):Cmd:=(.cond (.tmp 13)
 .ret
 (.skip [0,5]))
def c79S1(_:Unit):Cmd:=(.block 1 (.seq (.ops [
 ⟨some 8,.entry (.tmp 5),0,none⟩,
 ⟨some 9,.extract (.tmp 8) 0,3,none⟩,
 zas 3 9 3] [0,3,5])
 (.seq (.ops [
 zmv 10 0 132,
 zmv 11 3 3,
 ⟨some 12,.call ⟨.value (.tmp 10),#[(.tmp 11)],#[3]⟩,4,none⟩,
 ⟨some 13,.unOp .not 4 (.tmp 12),4,none⟩] [0,5,13]) (sg c79S0))))
def c79L0(_:Unit):Cmd:=(.seq (.ops [
 ⟨some 6,.next (.tmp 5) false,0,none⟩,
 ⟨some 7,.extract (.tmp 6) 0,4,none⟩] [0,5,7])
 (.seq (.cond (.tmp 7)
 (.skip [0,5])
 (.exit 0 [])) (sg c79S1)))
def c79:Cmd:=(.seq (.ops [
 zld 4 91 1 91,
 ⟨some 5,.range 91 (.tmp 4),0,none⟩] [0,5])
 (.block 0 (.loop (sg c79L0))))
attribute [go_sem] c79 c79S0 c79S1
theorem ent79(a0 a1:Value)(w:World)(K:Value→World→Prop)(h:W Tryz.prog c79 [(0,a0),(1,a1)] w (finQ Tryz.prog [] K)):Ret Tryz.prog 79 [a0,a1] w K :=
 Ret_of_W (code:=c79code) Tryz.func79 (by kernel_rfl) (by kernel_rfl) (of_decide_eq_true (by kernel_rfl)) h
@[go_sem] theorem go79:goFunc Tryz.prog 79=true:=by kernel_rfl
def c82code:Code:=match Tryz.f82.body with | some c=>c | none=>.skip
def c82:Cmd:=(.seq (.ops [
 ⟨some 2,.assign (.const (.bool false)),4,none⟩] [0])
 (.seq (.ops [
 zmv 3 0 3,
 zmv 4 0 3,
 ⟨some 5,.binOp .neq 3 (.tmp 3) (.tmp 4) 3,4,none⟩,
 zas 2 5 4] [2])
 .ret))
attribute [go_sem] c82
theorem ent82(a0:Value)(w:World)(K:Value→World→Prop)(h:W Tryz.prog c82 [(0,a0)] w (finQ Tryz.prog [.tmp 2] K)):Ret Tryz.prog 82 [a0] w K :=
 Ret_of_W (code:=c82code) Tryz.func82 (by kernel_rfl) (by kernel_rfl) (of_decide_eq_true (by kernel_rfl)) h
@[go_sem] theorem go82:goFunc Tryz.prog 82=true:=by kernel_rfl
def c83code:Code:=match Tryz.f83.body with | some c=>c | none=>.skip
def c83:Cmd:=(.seq (.ops [
 ⟨some 2,.assign (.const (.bool false)),4,none⟩] [0])
 (.seq (.ops [
 zmv 3 0 3,
 ⟨some 4,.binOp .geq 3 (.tmp 3) (.const (.int .i64 0)) 3,4,none⟩,
 zmv 5 4 4,
 zmg 6 0 3 5 true,
 ⟨some 7,.binOp .leq 3 (.tmp 6) (.const (.int .i64 1073741824)) 3,4,(some (5,true))⟩,
 ⟨some 8,.pick (.tmp 5) (.tmp 7) (.const (.bool false)),4,none⟩,
 zas 2 8 4] [2])
 .ret))
attribute [go_sem] c83
theorem ent83(a0:Value)(w:World)(K:Value→World→Prop)(h:W Tryz.prog c83 [(0,a0)] w (finQ Tryz.prog [.tmp 2] K)):Ret Tryz.prog 83 [a0] w K :=
 Ret_of_W (code:=c83code) Tryz.func83 (by kernel_rfl) (by kernel_rfl) (of_decide_eq_true (by kernel_rfl)) h
@[go_sem] theorem go83:goFunc Tryz.prog 83=true:=by kernel_rfl
def c84code:Code:=match Tryz.f84.body with | some c=>c | none=>.skip
def c84S0(_:Unit):Cmd:=(.cond (.tmp 18)
 .ret
 (.skip [0,1,3]))
def c84S1(_:Unit):Cmd:=(.ops [
 zmv 9 3 3,
 ⟨some 10,.binOp .sub 3 (.tmp 9) (.const (.int .i64 1)) 3,3,none⟩,
 zas 3 10 3] [0,1,3])
def c84S2(_:Unit):Cmd:=(.seq (.block 1 (.seq (.ops [
 zmv 11 0 136,
 zmv 12 3 3,
 zld 13 22 1 22,
 zmv 14 3 3,
 zix 15 22 13 14,
 zld 16 52 15 52,
 ⟨some 17,.call ⟨.value (.tmp 11),#[(.tmp 12),(.tmp 16)],#[3,52]⟩,4,none⟩,
 ⟨some 18,.unOp .not 4 (.tmp 17),4,none⟩] [0,1,3,18]) (sg c84S0))) (sg c84S1))
def c84L0(_:Unit):Cmd:=(.seq (.seq (.ops [
 zmv 7 3 3,
 ⟨some 8,.binOp .geq 3 (.tmp 7) (.const (.int .i64 0)) 3,4,none⟩] [0,1,3,8])
 (.cond (.tmp 8)
 (.skip [0,1,3])
 (.exit 0 []))) (sg c84S2))
def c84:Cmd:=(.seq (.ops [
 zld 4 22 1 22,
 ⟨some 5,.call ⟨.builtin .len,#[(.tmp 4)],#[22]⟩,3,none⟩,
 ⟨some 6,.binOp .sub 3 (.tmp 5) (.const (.int .i64 1)) 3,3,none⟩,
 zas 3 6 3] [0,1,3])
 (.block 0 (.loop (sg c84L0))))
attribute [go_sem] c84 c84S0 c84S1 c84S2 c84L0
theorem ent84(a0 a1:Value)(w:World)(K:Value→World→Prop)(h:W Tryz.prog c84 [(0,a0),(1,a1)] w (finQ Tryz.prog [] K)):Ret Tryz.prog 84 [a0,a1] w K :=
 Ret_of_W (code:=c84code) Tryz.func84 (by kernel_rfl) (by kernel_rfl) (of_decide_eq_true (by kernel_rfl)) h
@[go_sem] theorem go84:goFunc Tryz.prog 84=true:=by kernel_rfl
def c85code:Code:=match Tryz.f85.body with | some c=>c | none=>.skip
def c85S0(_:Unit):Cmd:=(.cond (.tmp 13)
 .ret
 (.skip [0,5]))
def c85S1(_:Unit):Cmd:=(.block 1 (.seq (.ops [
 ⟨some 8,.entry (.tmp 5),0,none⟩,
 ⟨some 9,.extract (.tmp 8) 0,3,none⟩,
 zas 3 9 3] [0,3,5])
 (.seq (.ops [
 zmv 10 0 132,
 zmv 11 3 3,
 ⟨some 12,.call ⟨.value (.tmp 10),#[(.tmp 11)],#[3]⟩,4,none⟩,
 ⟨some 13,.unOp .not 4 (.tmp 12),4,none⟩] [0,5,13]) (sg c85S0))))
def c85L0(_:Unit):Cmd:=(.seq (.ops [
 ⟨some 6,.next (.tmp 5) false,0,none⟩,
 ⟨some 7,.extract (.tmp 6) 0,4,none⟩] [0,5,7])
 (.seq (.cond (.tmp 7)
 (.skip [0,5])
 (.exit 0 [])) (sg c85S1)))
def c85:Cmd:=(.seq (.ops [
 zld 4 56 1 56,
 ⟨some 5,.range 56 (.tmp 4),0,none⟩] [0,5])
 (.block 0 (.loop (sg c85L0))))
attribute [go_sem] c85 c85S0 c85S1
theorem ent85(a0 a1:Value)(w:World)(K:Value→World→Prop)(h:W Tryz.prog c85 [(0,a0),(1,a1)] w (finQ Tryz.prog [] K)):Ret Tryz.prog 85 [a0,a1] w K :=
 Ret_of_W (code:=c85code) Tryz.func85 (by kernel_rfl) (by kernel_rfl) (of_decide_eq_true (by kernel_rfl)) h
@[go_sem] theorem go85:goFunc Tryz.prog 85=true:=by kernel_rfl
def c86code:Code:=match Tryz.f86.body with | some c=>c | none=>.skip
def c86S0(_:Unit):Cmd:=(.ops [
 ⟨some 25,.binOp .add 3 (.tmp 16) (.const (.int .i64 1)) 3,3,none⟩,
 zmv 16 25 3] [1,5,14,15,16])
def c86S1(_:Unit):Cmd:=(.seq (.block 1 (.seq (.ops [
 zix 18 25 14 16,
 zld 19 3 18 3,
 zas 7 19 3] [1,5,7,14,15,16])
 (.ops [
 zmv 20 5 120,
 zmv 21 7 3,
 ⟨some 22,.convert 3 5 (.tmp 21),5,none⟩,
 ⟨some 23,.buildSlice 120 1 #[(0,(.tmp 22))],120,none⟩,
 ⟨some 24,.call ⟨.builtin .append,#[(.tmp 20),(.tmp 23)],#[120,120]⟩,120,none⟩,
 zas 5 24 120] [1,5,14,15,16]))) (sg c86S0))
def c86L0(_:Unit):Cmd:=(.seq (.ops [
 ⟨some 17,.binOp .lss 3 (.tmp 16) (.tmp 15) 3,0,none⟩] [1,5,14,15,16,17])
 (.seq (.cond (.tmp 17)
 (.skip [1,5,14,15,16])
 (.exit 0 [1,5])) (sg c86S1)))
def c86S2(_:Unit):Cmd:=(.ops [
 ⟨some 38,.binOp .add 3 (.tmp 30) (.const (.int .i64 1)) 3,3,none⟩,
 zmv 30 38 3] [8,28,29,30])
def c86S3(_:Unit):Cmd:=(.seq (.block 3 (.seq (.ops [
 zix 32 61 28 30,
 zld 33 25 32 25,
 zas 10 33 25] [8,10,28,29,30])
 (.ops [
 zmv 34 8 9,
 zmv 35 10 25,
 ⟨some 36,.call ⟨.value (.func 112),#[(.tmp 35)],#[25]⟩,9,none⟩,
 ⟨some 37,.binOp .add 9 (.tmp 34) (.tmp 36) 9,9,none⟩,
 zas 8 37 9] [8,28,29,30]))) (sg c86S2))
def c86L1(_:Unit):Cmd:=(.seq (.ops [
 ⟨some 31,.binOp .lss 3 (.tmp 30) (.tmp 29) 3,0,none⟩] [8,28,29,30,31])
 (.seq (.cond (.tmp 31)
 (.skip [8,28,29,30])
 (.exit 2 [8])) (sg c86S3)))
def c86S4(_:Unit):Cmd:=(.seq (.ops [
 zmv 39 8 9,
 zas 4 39 9] [4])
 .ret)
def c86S5(_:Unit):Cmd:=(.seq (.ops [
 zmv 26 5 120,
 ⟨some 27,.convert 120 9 (.tmp 26),9,none⟩,
 zas 8 27 9] [1,8])
 (.seq (.seq (.ops [
 zmv 28 1 61,
 ⟨some 29,.call ⟨.builtin .len,#[(.tmp 28)],#[61]⟩,3,none⟩,
 ⟨some 30,.move (.const (.int .i64 0)),3,none⟩] [8,28,29,30])
 (.block 2 (.loop (sg c86L1)))) (sg c86S4)))
def c86:Cmd:=(.seq (.ops [
 ⟨some 4,.assign (.const (.string (ofL []))),9,none⟩] [0,1])
 (.seq (.ops [
 zmv 11 0 25,
 ⟨some 12,.call ⟨.builtin .len,#[(.tmp 11)],#[25]⟩,3,none⟩,
 ⟨some 13,.makeSlice 120 (.const (.int .i64 0)) (.tmp 12),120,none⟩,
 zas 5 13 120] [0,1,5])
 (.seq (.seq (.ops [
 zmv 14 0 25,
 ⟨some 15,.call ⟨.builtin .len,#[(.tmp 14)],#[25]⟩,3,none⟩,
 ⟨some 16,.move (.const (.int .i64 0)),3,none⟩] [1,5,14,15,16])
 (.block 0 (.loop (sg c86L0)))) (sg c86S5))))
attribute [go_sem] c86 c86S0 c86S1 c86L0 c86S2 c86S3
theorem ent86(a0 a1:Value)(w:World)(K:Value→World→Prop)(h:W Tryz.prog c86 [(0,a0),(1,a1)] w (finQ Tryz.prog [.tmp 4] K)):Ret Tryz.prog 86 [a0,a1] w K :=
 Ret_of_W (code:=c86code) Tryz.func86 (by kernel_rfl) (by kernel_rfl) (of_decide_eq_true (by kernel_rfl)) h
@[go_sem] theorem go86:goFunc Tryz.prog 86=true:=by kernel_rfl
def c87code:Code:=match Tryz.f87.body with | some c=>c | none=>.skip
def c87S0(_:Unit):Cmd:=(.ops [
 ⟨some 32,.binOp .add 3 (.tmp 26) (.const (.int .i64 1)) 3,3,none⟩,
 zmv 26 32 3] [1,12,13,14,24,25,26])
def c87S1(_:Unit):Cmd:=(.seq (.block 3 (.seq (.ops [
 zix 28 22 24 26,
 zld 29 52 28 52,
 ⟨some 8,.alloc 52,0,none⟩,
 ⟨none,.store 52 (.tmp 8) (.tmp 29),0,none⟩] [1,8,12,13,14,24,25,26])
 (.seq (.ops [
 zfa 30 52 8 7,
 zld 31 4 30 4] [1,12,13,14,24,25,26,31])
 (.cond (.tmp 31)
 (.seq (.ops [
 ⟨some 4,.assign (.const (.bool false)),4,none⟩] [4])
 .ret)
 (.skip [1,12,13,14,24,25,26]))))) (sg c87S0))
def c87L0(_:Unit):Cmd:=(.seq (.ops [
 ⟨some 27,.binOp .lss 3 (.tmp 26) (.tmp 25) 3,0,none⟩] [1,12,13,14,24,25,26,27])
 (.seq (.cond (.tmp 27)
 (.skip [1,12,13,14,24,25,26])
 (.exit 2 [1,12,13,14])) (sg c87S1)))
def c87S2(_:Unit):Cmd:=(.ops [
 ⟨some 33,.binOp .add 3 (.tmp 14) (.const (.int .i64 1)) 3,3,none⟩,
 zmv 14 33 3] [1,12,13,14])
def c87S3(_:Unit):Cmd:=(.seq (.block 1 (.seq (.ops [
 zmv 16 14 3,
 zix 17 31 12 14,
 zld 18 22 17 22,
 zas 5 16 3,
 zas 6 18 22] [1,5,6,12,13,14])
 (.seq (.ops [
 zmv 19 6 22,
 zmv 20 1 25,
 zmv 21 5 3,
 zix 22 25 20 21,
 zld 23 3 22 3,
 ⟨some 24,.slice 22 (.tmp 19) (some (.tmp 23)) none none,22,none⟩,
 ⟨some 25,.call ⟨.builtin .len,#[(.tmp 24)],#[22]⟩,3,none⟩,
 ⟨some 26,.move (.const (.int .i64 0)),3,none⟩] [1,12,13,14,24,25,26])
 (.block 2 (.loop (sg c87L0)))))) (sg c87S2))
def c87L1(_:Unit):Cmd:=(.seq (.ops [
 ⟨some 15,.binOp .lss 3 (.tmp 14) (.tmp 13) 3,0,none⟩] [1,12,13,14,15])
 (.seq (.cond (.tmp 15)
 (.skip [1,12,13,14])
 (.exit 0 [])) (sg c87S3)))
def c87S4(_:Unit):Cmd:=(.seq (.ops [
 ⟨some 4,.assign (.const (.bool true)),4,none⟩] [4])
 .ret)
def c87:Cmd:=(.seq (.ops [
 ⟨some 4,.assign (.const (.bool false)),4,none⟩] [0,1])
 (.seq (.seq (.ops [
 zmv 9 0 54,
 ⟨some 10,.nilCheck (.tmp 9),0,none⟩,
 zfa 11 60 10 0,
 zld 12 31 11 31,
 ⟨some 13,.call ⟨.builtin .len,#[(.tmp 12)],#[31]⟩,3,none⟩,
 ⟨some 14,.move (.const (.int .i64 0)),3,none⟩] [1,12,13,14])
 (.block 0 (.loop (sg c87L1)))) (sg c87S4)))
attribute [go_sem] c87 c87S0 c87S1 c87S2 c87S3
theorem ent87(a0 a1:Value)(w:World)(K:Value→World→Prop)(h:W Tryz.prog c87 [(0,a0),(1,a1)] w (finQ Tryz.prog [.tmp 4] K)):Ret Tryz.prog 87 [a0,a1] w K :=
 Ret_of_W (code:=c87code) Tryz.func87 (by kernel_rfl) (by kernel_rfl) (of_decide_eq_true (by kernel_rfl)) h
@[go_sem] theorem go87:goFunc Tryz.prog 87=true:=by kernel_rfl
def c88code:Code:=match Tryz.f88.body with | some c=>c | none=>.skip
def c88S0(_:Unit):Cmd:=.ret
def c88S1(_:Unit):Cmd:=(.seq (.ops [
 ⟨some 5,.buildSlice 25 0 #[],25,none⟩,
 zmv 6 0 25,
 ⟨some 7,.call ⟨.builtin .append,#[(.tmp 5),(.tmp 6)],#[25,25]⟩,25,none⟩,
 zas 2 7 25] [2]) (sg c88S0))
def c88:Cmd:=(.seq (.ops [
 ⟨some 2,.assign (.const (.slice none 0 0)),25,none⟩] [0])
 (.seq (.seq (.ops [
 zmv 3 0 25,
 ⟨some 4,.binOp .eql 25 (.tmp 3) (.const (.slice none 0 0)) 25,4,none⟩] [0,4])
 (.cond (.tmp 4)
 (.seq (.ops [
 ⟨some 2,.assign (.const (.slice none 0 0)),25,none⟩] [2])
 .ret)
 (.skip [0]))) (sg c88S1)))
attribute [go_sem] c88 c88S0 c88S1
theorem ent88(a0:Value)(w:World)(K:Value→World→Prop)(h:W Tryz.prog c88 [(0,a0)] w (finQ Tryz.prog [.tmp 2] K)):Ret Tryz.prog 88 [a0] w K :=
 Ret_of_W (code:=c88code) Tryz.func88 (by kernel_rfl) (by kernel_rfl) (of_decide_eq_true (by kernel_rfl)) h
@[go_sem] theorem go88:goFunc Tryz.prog 88=true:=by kernel_rfl
def c89code:Code:=match Tryz.f89.body with | some c=>c | none=>.skip
def c89S0(_:Unit):Cmd:=.ret
def c89S1(_:Unit):Cmd:=(.seq (.ops [
 ⟨some 5,.buildSlice 61 0 #[],61,none⟩,
 zmv 6 0 61,
 ⟨some 7,.call ⟨.builtin .append,#[(.tmp 5),(.tmp 6)],#[61,61]⟩,61,none⟩,
 zas 2 7 61] [2]) (sg c89S0))
def c89:Cmd:=(.seq (.ops [
 ⟨some 2,.assign (.const (.slice none 0 0)),61,none⟩] [0])
 (.seq (.seq (.ops [
 zmv 3 0 61,
 ⟨some 4,.binOp .eql 61 (.tmp 3) (.const (.slice none 0 0)) 61,4,none⟩] [0,4])
 (.cond (.tmp 4)
 (.seq (.ops [
 ⟨some 2,.assign (.const (.slice none 0 0)),61,none⟩] [2])
 .ret)
 (.skip [0]))) (sg c89S1)))
attribute [go_sem] c89 c89S0 c89S1
theorem ent89(a0:Value)(w:World)(K:Value→World→Prop)(h:W Tryz.prog c89 [(0,a0)] w (finQ Tryz.prog [.tmp 2] K)):Ret Tryz.prog 89 [a0] w K :=
 Ret_of_W (code:=c89code) Tryz.func89 (by kernel_rfl) (by kernel_rfl) (of_decide_eq_true (by kernel_rfl)) h
@[go_sem] theorem go89:goFunc Tryz.prog 89=true:=by kernel_rfl
def c90code:Code:=match Tryz.f90.body with | some c=>c | none=>.skip
def c90S0(_:Unit):Cmd:=(.seq (.ops [
 zmv 19 8 3,
 zas 7 19 3] [0,1,2,6,7,8])
 (.ops [
 zmv 20 8 3,
 zmv 21 6 3,
 ⟨some 22,.binOp .add 3 (.tmp 20) (.tmp 21) 3,3,none⟩,
 zas 8 22 3] [0,1,2,6,7,8]))
def c90S1(_:Unit):Cmd:=(.block 1 (.seq (.ops [
 zmv 14 0 57,
 zmv 15 7 3,
 zmv 16 8 3,
 zmv 17 2 110,
 ⟨some 18,.call ⟨.value (.func 113),#[(.tmp 14),(.tmp 15),(.tmp 16),(.tmp 17)],#[57,3,3,110]⟩,0,none⟩] [0,1,2,6,8]) (sg c90S0)))
def c90L0(_:Unit):Cmd:=(.seq (.seq (.ops [
 zmv 11 8 3,
 zmv 12 1 3,
 ⟨some 13,.binOp .leq 3 (.tmp 11) (.tmp 12) 3,4,none⟩] [0,1,2,6,7,8,13])
 (.cond (.tmp 13)
 (.skip [0,1,2,6,7,8])
 (.exit 0 [0,1,2,6,7]))) (sg c90S1))
def c90S2(_:Unit):Cmd:=(.seq (.ops [
 zmv 44 8 3,
 zas 7 44 3] [0,1,2,6,7,8])
 (.ops [
 zmv 45 8 3,
 zmv 46 6 3,
 ⟨some 47,.binOp .mul 3 (.const (.int .i64 2)) (.tmp 46) 3,3,none⟩,
 ⟨some 48,.binOp .add 3 (.tmp 45) (.tmp 47) 3,3,none⟩,
 zas 8 48 3] [0,1,2,6,7,8]))
def c90S3(_:Unit):Cmd:=(.block 5 (.seq (.ops [
 zmv 36 0 57,
 zmv 37 7 3,
 zmv 38 7 3,
 zmv 39 6 3,
 ⟨some 40,.binOp .add 3 (.tmp 38) (.tmp 39) 3,3,none⟩,
 zmv 41 8 3,
 zmv 42 2 110,
 ⟨some 43,.call ⟨.value (.func 114),#[(.tmp 36),(.tmp 37),(.tmp 40),(.tmp 41),(.tmp 42)],#[57,3,3,3,110]⟩,0,none⟩] [0,1,2,6,8]) (sg c90S2)))
end Go.Proofs.YtoadmihnihfjkaaGreat

end
