/- Texts put together by program. -/
import Derived.Test.YteiciplnfjnfjaaGreatQD2
set_option linter.unusedSimpArgs false
set_option linter.unusedVariables false
set_option maxRecDepth 100000
noncomputable section

namespace Go.Proofs.YteiciplnfjnfjaaGreat
open Go Go.Ann
@[go_sem] theorem ty3tyK:tyK Tryz.prog 3=.int .i64:=by kernel_rfl
@[go_sem] theorem ty3sizeT:sizeT Tryz.prog 3=some 1:=by kernel_rfl
@[go_sem] theorem ty3zeroT:zeroT Tryz.prog 3=some (.int .i64 0):=by kernel_rfl
@[go_sem] theorem ty3conc:Program.concrete Tryz.prog 3=true:=by kernel_rfl
@[go_sem] theorem ty4tyK:tyK Tryz.prog 4=.bool:=by kernel_rfl
@[go_sem] theorem ty4isBoolT:isBoolT Tryz.prog 4=true:=by kernel_rfl
@[go_sem] theorem ty4sizeT:sizeT Tryz.prog 4=some 1:=by kernel_rfl
@[go_sem] theorem ty4zeroT:zeroT Tryz.prog 4=some (.bool false):=by kernel_rfl
@[go_sem] theorem ty4conc:Program.concrete Tryz.prog 4=true:=by kernel_rfl
@[go_sem] theorem ty5tyK:tyK Tryz.prog 5=.int .u8:=by kernel_rfl
@[go_sem] theorem ty5sizeT:sizeT Tryz.prog 5=some 1:=by kernel_rfl
@[go_sem] theorem ty5zeroT:zeroT Tryz.prog 5=some (.int .u8 0):=by kernel_rfl
@[go_sem] theorem ty5conc:Program.concrete Tryz.prog 5=true:=by kernel_rfl
@[go_sem] theorem ty9tyK:tyK Tryz.prog 9=.str:=by kernel_rfl
@[go_sem] theorem ty9isStrT:isStrT Tryz.prog 9=true:=by kernel_rfl
@[go_sem] theorem ty9sizeT:sizeT Tryz.prog 9=some 1:=by kernel_rfl
@[go_sem] theorem ty9zeroT:zeroT Tryz.prog 9=some (.string (ofL [])):=by kernel_rfl
@[go_sem] theorem ty9conc:Program.concrete Tryz.prog 9=true:=by kernel_rfl
@[go_sem] theorem ty22tyK:tyK Tryz.prog 22=.slice false 38:=by kernel_rfl
@[go_sem] theorem ty22isSliceT:isSliceT Tryz.prog 22=true:=by kernel_rfl
@[go_sem] theorem ty22sliI:sliI Tryz.prog 22=some 11:=by kernel_rfl
@[go_sem] theorem ty22mkI:mkI Tryz.prog 22=some (38,11,88,(.agg #[(.int .i64 0),(.int .i64 0),(.int .i64 0),(.int .i64 0),(.int .i64 0),(.int .i64 0),(.int .i64 0),(.bool false),(.int .i64 0),(.int .i64 0),(.int .i64 0)])):=by kernel_rfl
@[go_sem] theorem ty22sizeT:sizeT Tryz.prog 22=some 1:=by kernel_rfl
@[go_sem] theorem ty22zeroT:zeroT Tryz.prog 22=some (.slice none 0 0):=by kernel_rfl
@[go_sem] theorem ty22conc:Program.concrete Tryz.prog 22=true:=by kernel_rfl
@[go_sem] theorem ty24tyK:tyK Tryz.prog 24=.agg 3:=by kernel_rfl
@[go_sem] theorem ty24sizeT:sizeT Tryz.prog 24=some 3:=by kernel_rfl
@[go_sem] theorem ty24zeroT:zeroT Tryz.prog 24=some (.agg #[(.int .i64 0),(.int .i64 0),(.slice none 0 0)]):=by kernel_rfl
@[go_sem] theorem ty24conc:Program.concrete Tryz.prog 24=true:=by kernel_rfl
@[go_sem] theorem ty24plc:plcT Tryz.prog 24=some [(0,1),(1,1),(2,1)]:=by kernel_rfl
@[go_sem] theorem ty24fld0:fldI Tryz.prog 24 0=some (0,1,false):=by kernel_rfl
@[go_sem] theorem ty24fld1:fldI Tryz.prog 24 1=some (1,1,false):=by kernel_rfl
@[go_sem] theorem ty24fld2:fldI Tryz.prog 24 2=some (2,1,false):=by kernel_rfl
@[go_sem] theorem ty28tyK:tyK Tryz.prog 28=.agg 3:=by kernel_rfl
@[go_sem] theorem ty28sizeT:sizeT Tryz.prog 28=some 3:=by kernel_rfl
@[go_sem] theorem ty28zeroT:zeroT Tryz.prog 28=some (.agg #[(.int .i64 0),(.slice none 0 0),(.int .i64 0)]):=by kernel_rfl
@[go_sem] theorem ty28conc:Program.concrete Tryz.prog 28=true:=by kernel_rfl
@[go_sem] theorem ty28plc:plcT Tryz.prog 28=some [(0,1),(1,1),(2,1)]:=by kernel_rfl
@[go_sem] theorem ty28fld0:fldI Tryz.prog 28 0=some (0,1,false):=by kernel_rfl
@[go_sem] theorem ty28fld1:fldI Tryz.prog 28 1=some (1,1,false):=by kernel_rfl
@[go_sem] theorem ty28fld2:fldI Tryz.prog 28 2=some (2,1,false):=by kernel_rfl
@[go_sem] theorem ty29tyK:tyK Tryz.prog 29=.int .i64:=by kernel_rfl
@[go_sem] theorem ty29sizeT:sizeT Tryz.prog 29=some 1:=by kernel_rfl
@[go_sem] theorem ty29zeroT:zeroT Tryz.prog 29=some (.int .i64 0):=by kernel_rfl
@[go_sem] theorem ty29conc:Program.concrete Tryz.prog 29=true:=by kernel_rfl
@[go_sem] theorem ty32tyK:tyK Tryz.prog 32=.agg 3:=by kernel_rfl
@[go_sem] theorem ty32sizeT:sizeT Tryz.prog 32=some 3:=by kernel_rfl
@[go_sem] theorem ty32zeroT:zeroT Tryz.prog 32=some (.agg #[(.int .i64 0),(.slice none 0 0),(.int .i64 0)]):=by kernel_rfl
@[go_sem] theorem ty32conc:Program.concrete Tryz.prog 32=true:=by kernel_rfl
@[go_sem] theorem ty32plc:plcT Tryz.prog 32=some [(0,1),(1,1),(2,1)]:=by kernel_rfl
@[go_sem] theorem ty32fld0:fldI Tryz.prog 32 0=some (0,1,false):=by kernel_rfl
@[go_sem] theorem ty32fld1:fldI Tryz.prog 32 1=some (1,1,false):=by kernel_rfl
@[go_sem] theorem ty32fld2:fldI Tryz.prog 32 2=some (2,1,false):=by kernel_rfl
@[go_sem] theorem ty38tyK:tyK Tryz.prog 38=.agg 11:=by kernel_rfl
@[go_sem] theorem ty38sizeT:sizeT Tryz.prog 38=some 11:=by kernel_rfl
@[go_sem] theorem ty38zeroT:zeroT Tryz.prog 38=some (.agg #[(.int .i64 0),(.int .i64 0),(.int .i64 0),(.int .i64 0),(.int .i64 0),(.int .i64 0),(.int .i64 0),(.bool false),(.int .i64 0),(.int .i64 0),(.int .i64 0)]):=by kernel_rfl
@[go_sem] theorem ty38conc:Program.concrete Tryz.prog 38=true:=by kernel_rfl
@[go_sem] theorem ty38plc:plcT Tryz.prog 38=some [(0,1),(1,1),(2,1),(3,1),(4,1),(5,1),(6,1),(7,1),(8,1),(9,1),(10,1)]:=by kernel_rfl
@[go_sem] theorem ty38flat:flatT Tryz.prog 38=some [.int,.int,.int,.int,.int,.int,.int,.bool,.int,.int,.int]:=by kernel_rfl
@[go_sem] theorem ty38fld0:fldI Tryz.prog 38 0=some (0,1,false):=by kernel_rfl
@[go_sem] theorem ty38fld1:fldI Tryz.prog 38 1=some (1,1,false):=by kernel_rfl
@[go_sem] theorem ty38fld2:fldI Tryz.prog 38 2=some (2,1,false):=by kernel_rfl
@[go_sem] theorem ty38fld3:fldI Tryz.prog 38 3=some (3,1,false):=by kernel_rfl
@[go_sem] theorem ty38fld4:fldI Tryz.prog 38 4=some (4,1,false):=by kernel_rfl
@[go_sem] theorem ty38fld5:fldI Tryz.prog 38 5=some (5,1,false):=by kernel_rfl
@[go_sem] theorem ty38fld6:fldI Tryz.prog 38 6=some (6,1,false):=by kernel_rfl
@[go_sem] theorem ty38fld7:fldI Tryz.prog 38 7=some (7,1,false):=by kernel_rfl
@[go_sem] theorem ty38fld8:fldI Tryz.prog 38 8=some (8,1,false):=by kernel_rfl
@[go_sem] theorem ty38fld9:fldI Tryz.prog 38 9=some (9,1,false):=by kernel_rfl
@[go_sem] theorem ty38fld10:fldI Tryz.prog 38 10=some (10,1,false):=by kernel_rfl
@[go_sem] theorem ty42tyK:tyK Tryz.prog 42=.slice false 46:=by kernel_rfl
@[go_sem] theorem ty42isSliceT:isSliceT Tryz.prog 42=true:=by kernel_rfl
@[go_sem] theorem ty42sliI:sliI Tryz.prog 42=some 2:=by kernel_rfl
@[go_sem] theorem ty42mkI:mkI Tryz.prog 42=some (46,2,16,(.agg #[(.int .i64 0),(.int .i64 0)])):=by kernel_rfl
@[go_sem] theorem ty42sizeT:sizeT Tryz.prog 42=some 1:=by kernel_rfl
@[go_sem] theorem ty42zeroT:zeroT Tryz.prog 42=some (.slice none 0 0):=by kernel_rfl
@[go_sem] theorem ty42conc:Program.concrete Tryz.prog 42=true:=by kernel_rfl
@[go_sem] theorem ty46tyK:tyK Tryz.prog 46=.agg 2:=by kernel_rfl
@[go_sem] theorem ty46sizeT:sizeT Tryz.prog 46=some 2:=by kernel_rfl
@[go_sem] theorem ty46zeroT:zeroT Tryz.prog 46=some (.agg #[(.int .i64 0),(.int .i64 0)]):=by kernel_rfl
@[go_sem] theorem ty46conc:Program.concrete Tryz.prog 46=true:=by kernel_rfl
@[go_sem] theorem ty46plc:plcT Tryz.prog 46=some [(0,1),(1,1)]:=by kernel_rfl
@[go_sem] theorem ty46flat:flatT Tryz.prog 46=some [.int,.int]:=by kernel_rfl
@[go_sem] theorem ty46fld0:fldI Tryz.prog 46 0=some (0,1,false):=by kernel_rfl
@[go_sem] theorem ty46fld1:fldI Tryz.prog 46 1=some (1,1,false):=by kernel_rfl
@[go_sem] theorem ty47tyK:tyK Tryz.prog 47=.slice false 24:=by kernel_rfl
@[go_sem] theorem ty47isSliceT:isSliceT Tryz.prog 47=true:=by kernel_rfl
@[go_sem] theorem ty47sliI:sliI Tryz.prog 47=some 3:=by kernel_rfl
@[go_sem] theorem ty47mkI:mkI Tryz.prog 47=some (24,3,40,(.agg #[(.int .i64 0),(.int .i64 0),(.slice none 0 0)])):=by kernel_rfl
@[go_sem] theorem ty47sizeT:sizeT Tryz.prog 47=some 1:=by kernel_rfl
@[go_sem] theorem ty47zeroT:zeroT Tryz.prog 47=some (.slice none 0 0):=by kernel_rfl
@[go_sem] theorem ty47conc:Program.concrete Tryz.prog 47=true:=by kernel_rfl
@[go_sem] theorem ty49tyK:tyK Tryz.prog 49=.slice false 28:=by kernel_rfl
@[go_sem] theorem ty49isSliceT:isSliceT Tryz.prog 49=true:=by kernel_rfl
@[go_sem] theorem ty49sliI:sliI Tryz.prog 49=some 3:=by kernel_rfl
@[go_sem] theorem ty49mkI:mkI Tryz.prog 49=some (28,3,40,(.agg #[(.int .i64 0),(.slice none 0 0),(.int .i64 0)])):=by kernel_rfl
@[go_sem] theorem ty49sizeT:sizeT Tryz.prog 49=some 1:=by kernel_rfl
@[go_sem] theorem ty49zeroT:zeroT Tryz.prog 49=some (.slice none 0 0):=by kernel_rfl
@[go_sem] theorem ty49conc:Program.concrete Tryz.prog 49=true:=by kernel_rfl
@[go_sem] theorem ty52tyK:tyK Tryz.prog 52=.slice false 32:=by kernel_rfl
@[go_sem] theorem ty52isSliceT:isSliceT Tryz.prog 52=true:=by kernel_rfl
@[go_sem] theorem ty52sliI:sliI Tryz.prog 52=some 3:=by kernel_rfl
@[go_sem] theorem ty52mkI:mkI Tryz.prog 52=some (32,3,40,(.agg #[(.int .i64 0),(.slice none 0 0),(.int .i64 0)])):=by kernel_rfl
@[go_sem] theorem ty52sizeT:sizeT Tryz.prog 52=some 1:=by kernel_rfl
@[go_sem] theorem ty52zeroT:zeroT Tryz.prog 52=some (.slice none 0 0):=by kernel_rfl
@[go_sem] theorem ty52conc:Program.concrete Tryz.prog 52=true:=by kernel_rfl
@[go_sem] theorem ty57tyK:tyK Tryz.prog 57=.ptr:=by kernel_rfl
@[go_sem] theorem ty57isPtrT:isPtrT Tryz.prog 57=true:=by kernel_rfl
@[go_sem] theorem ty57sizeT:sizeT Tryz.prog 57=some 1:=by kernel_rfl
@[go_sem] theorem ty57zeroT:zeroT Tryz.prog 57=some (.pointer none):=by kernel_rfl
@[go_sem] theorem ty57conc:Program.concrete Tryz.prog 57=true:=by kernel_rfl
@[go_sem] theorem ty59tyK:tyK Tryz.prog 59=.agg 3:=by kernel_rfl
@[go_sem] theorem ty59sizeT:sizeT Tryz.prog 59=some 3:=by kernel_rfl
@[go_sem] theorem ty59zeroT:zeroT Tryz.prog 59=some (.agg #[(.int .i64 0),(.int .i64 0),(.int .i64 0)]):=by kernel_rfl
@[go_sem] theorem ty59conc:Program.concrete Tryz.prog 59=true:=by kernel_rfl
@[go_sem] theorem ty59plc:plcT Tryz.prog 59=some [(0,1),(1,1),(2,1)]:=by kernel_rfl
@[go_sem] theorem ty59flat:flatT Tryz.prog 59=some [.int,.int,.int]:=by kernel_rfl
@[go_sem] theorem ty59fld0:fldI Tryz.prog 59 0=some (0,1,false):=by kernel_rfl
@[go_sem] theorem ty59fld1:fldI Tryz.prog 59 1=some (1,1,false):=by kernel_rfl
@[go_sem] theorem ty59fld2:fldI Tryz.prog 59 2=some (2,1,false):=by kernel_rfl
@[go_sem] theorem ty63tyK:tyK Tryz.prog 63=.agg 3:=by kernel_rfl
@[go_sem] theorem ty63sizeT:sizeT Tryz.prog 63=some 3:=by kernel_rfl
@[go_sem] theorem ty63zeroT:zeroT Tryz.prog 63=some (.agg #[(.bool false),(.int .i64 0),(.int .i64 0)]):=by kernel_rfl
@[go_sem] theorem ty63conc:Program.concrete Tryz.prog 63=true:=by kernel_rfl
@[go_sem] theorem ty63plc:plcT Tryz.prog 63=some [(0,1),(1,1),(2,1)]:=by kernel_rfl
@[go_sem] theorem ty63flat:flatT Tryz.prog 63=some [.bool,.int,.int]:=by kernel_rfl
@[go_sem] theorem ty63fld0:fldI Tryz.prog 63 0=some (0,1,false):=by kernel_rfl
@[go_sem] theorem ty63fld1:fldI Tryz.prog 63 1=some (1,1,false):=by kernel_rfl
@[go_sem] theorem ty63fld2:fldI Tryz.prog 63 2=some (2,1,false):=by kernel_rfl
@[go_sem] theorem ty66tyK:tyK Tryz.prog 66=.slice false 3:=by kernel_rfl
@[go_sem] theorem ty66isSliceT:isSliceT Tryz.prog 66=true:=by kernel_rfl
@[go_sem] theorem ty66sliI:sliI Tryz.prog 66=some 1:=by kernel_rfl
@[go_sem] theorem ty66mkI:mkI Tryz.prog 66=some (3,1,8,(.int .i64 0)):=by kernel_rfl
@[go_sem] theorem ty66sizeT:sizeT Tryz.prog 66=some 1:=by kernel_rfl
@[go_sem] theorem ty66zeroT:zeroT Tryz.prog 66=some (.slice none 0 0):=by kernel_rfl
@[go_sem] theorem ty66conc:Program.concrete Tryz.prog 66=true:=by kernel_rfl
@[go_sem] theorem ty74tyK:tyK Tryz.prog 74=.slice false 66:=by kernel_rfl
@[go_sem] theorem ty74isSliceT:isSliceT Tryz.prog 74=true:=by kernel_rfl
@[go_sem] theorem ty74sliI:sliI Tryz.prog 74=some 1:=by kernel_rfl
@[go_sem] theorem ty74mkI:mkI Tryz.prog 74=some (66,1,24,(.slice none 0 0)):=by kernel_rfl
@[go_sem] theorem ty74sizeT:sizeT Tryz.prog 74=some 1:=by kernel_rfl
@[go_sem] theorem ty74zeroT:zeroT Tryz.prog 74=some (.slice none 0 0):=by kernel_rfl
@[go_sem] theorem ty74conc:Program.concrete Tryz.prog 74=true:=by kernel_rfl
@[go_sem] theorem ty77tyK:tyK Tryz.prog 77=.agg 3:=by kernel_rfl
@[go_sem] theorem ty77sizeT:sizeT Tryz.prog 77=some 3:=by kernel_rfl
@[go_sem] theorem ty77zeroT:zeroT Tryz.prog 77=some (.agg #[(.slice none 0 0),(.slice none 0 0),(.int .i64 0)]):=by kernel_rfl
@[go_sem] theorem ty77conc:Program.concrete Tryz.prog 77=true:=by kernel_rfl
@[go_sem] theorem ty77plc:plcT Tryz.prog 77=some [(0,1),(1,1),(2,1)]:=by kernel_rfl
@[go_sem] theorem ty77fld0:fldI Tryz.prog 77 0=some (0,1,false):=by kernel_rfl
@[go_sem] theorem ty77fld1:fldI Tryz.prog 77 1=some (1,1,false):=by kernel_rfl
@[go_sem] theorem ty77fld2:fldI Tryz.prog 77 2=some (2,1,false):=by kernel_rfl
@[go_sem] theorem ty92tyK:tyK Tryz.prog 92=.other:=by kernel_rfl
@[go_sem] theorem ty92isFuncT:isFuncT Tryz.prog 92=true:=by kernel_rfl
@[go_sem] theorem ty92sizeT:sizeT Tryz.prog 92=some 1:=by kernel_rfl
@[go_sem] theorem ty92zeroT:zeroT Tryz.prog 92=some .nilFunc:=by kernel_rfl
@[go_sem] theorem ty92conc:Program.concrete Tryz.prog 92=true:=by kernel_rfl
@[go_sem] theorem ty103tyK:tyK Tryz.prog 103=.int .u32:=by kernel_rfl
@[go_sem] theorem ty103sizeT:sizeT Tryz.prog 103=some 1:=by kernel_rfl
@[go_sem] theorem ty103zeroT:zeroT Tryz.prog 103=some (.int .u32 0):=by kernel_rfl
@[go_sem] theorem ty103conc:Program.concrete Tryz.prog 103=true:=by kernel_rfl
@[go_sem] theorem ty104tyK:tyK Tryz.prog 104=.slice false 103:=by kernel_rfl
@[go_sem] theorem ty104isSliceT:isSliceT Tryz.prog 104=true:=by kernel_rfl
@[go_sem] theorem ty104sliI:sliI Tryz.prog 104=some 1:=by kernel_rfl
@[go_sem] theorem ty104mkI:mkI Tryz.prog 104=some (103,1,4,(.int .u32 0)):=by kernel_rfl
@[go_sem] theorem ty104sizeT:sizeT Tryz.prog 104=some 1:=by kernel_rfl
@[go_sem] theorem ty104zeroT:zeroT Tryz.prog 104=some (.slice none 0 0):=by kernel_rfl
@[go_sem] theorem ty104conc:Program.concrete Tryz.prog 104=true:=by kernel_rfl
@[go_sem] theorem ty105tyK:tyK Tryz.prog 105=.map:=by kernel_rfl
@[go_sem] theorem ty105isMapT:isMapT Tryz.prog 105=true:=by kernel_rfl
@[go_sem] theorem ty105sizeT:sizeT Tryz.prog 105=some 1:=by kernel_rfl
@[go_sem] theorem ty105zeroT:zeroT Tryz.prog 105=some (.map none):=by kernel_rfl
@[go_sem] theorem ty105conc:Program.concrete Tryz.prog 105=true:=by kernel_rfl
@[go_sem] theorem ty106tyK:tyK Tryz.prog 106=.slice false 112:=by kernel_rfl
@[go_sem] theorem ty106isSliceT:isSliceT Tryz.prog 106=true:=by kernel_rfl
@[go_sem] theorem ty106sliI:sliI Tryz.prog 106=some 3:=by kernel_rfl
@[go_sem] theorem ty106mkI:mkI Tryz.prog 106=some (112,3,48,(.agg #[(.int .u32 0),(.string (ofL [])),(.slice none 0 0)])):=by kernel_rfl
@[go_sem] theorem ty106sizeT:sizeT Tryz.prog 106=some 1:=by kernel_rfl
@[go_sem] theorem ty106zeroT:zeroT Tryz.prog 106=some (.slice none 0 0):=by kernel_rfl
@[go_sem] theorem ty106conc:Program.concrete Tryz.prog 106=true:=by kernel_rfl
@[go_sem] theorem ty108tyK:tyK Tryz.prog 108=.agg 5:=by kernel_rfl
@[go_sem] theorem ty108sizeT:sizeT Tryz.prog 108=some 5:=by kernel_rfl
@[go_sem] theorem ty108zeroT:zeroT Tryz.prog 108=some (.agg #[(.slice none 0 0),(.slice none 0 0),(.int .u32 0),(.map none),(.slice none 0 0)]):=by kernel_rfl
@[go_sem] theorem ty108conc:Program.concrete Tryz.prog 108=true:=by kernel_rfl
@[go_sem] theorem ty108plc:plcT Tryz.prog 108=some [(0,1),(1,1),(2,1),(3,1),(4,1)]:=by kernel_rfl
@[go_sem] theorem ty108fld0:fldI Tryz.prog 108 0=some (0,1,false):=by kernel_rfl
@[go_sem] theorem ty108fld1:fldI Tryz.prog 108 1=some (1,1,false):=by kernel_rfl
@[go_sem] theorem ty108fld2:fldI Tryz.prog 108 2=some (2,1,false):=by kernel_rfl
@[go_sem] theorem ty108fld3:fldI Tryz.prog 108 3=some (3,1,false):=by kernel_rfl
@[go_sem] theorem ty108fld4:fldI Tryz.prog 108 4=some (4,1,false):=by kernel_rfl
@[go_sem] theorem ty110tyK:tyK Tryz.prog 110=.agg 2:=by kernel_rfl
@[go_sem] theorem ty110sizeT:sizeT Tryz.prog 110=some 2:=by kernel_rfl
@[go_sem] theorem ty110zeroT:zeroT Tryz.prog 110=some (.agg #[(.int .u32 0),(.string (ofL []))]):=by kernel_rfl
@[go_sem] theorem ty110conc:Program.concrete Tryz.prog 110=true:=by kernel_rfl
@[go_sem] theorem ty110plc:plcT Tryz.prog 110=some [(0,1),(1,1)]:=by kernel_rfl
@[go_sem] theorem ty110flat:flatT Tryz.prog 110=some [.int,.str]:=by kernel_rfl
@[go_sem] theorem ty110fld0:fldI Tryz.prog 110 0=some (0,1,false):=by kernel_rfl
@[go_sem] theorem ty110fld1:fldI Tryz.prog 110 1=some (1,1,false):=by kernel_rfl
@[go_sem] theorem ty112tyK:tyK Tryz.prog 112=.agg 3:=by kernel_rfl
@[go_sem] theorem ty112sizeT:sizeT Tryz.prog 112=some 3:=by kernel_rfl
@[go_sem] theorem ty112zeroT:zeroT Tryz.prog 112=some (.agg #[(.int .u32 0),(.string (ofL [])),(.slice none 0 0)]):=by kernel_rfl
@[go_sem] theorem ty112conc:Program.concrete Tryz.prog 112=true:=by kernel_rfl
@[go_sem] theorem ty112plc:plcT Tryz.prog 112=some [(0,2),(2,1)]:=by kernel_rfl
@[go_sem] theorem ty112fld0:fldI Tryz.prog 112 0=some (0,2,true):=by kernel_rfl
@[go_sem] theorem ty112fld1:fldI Tryz.prog 112 1=some (2,1,false):=by kernel_rfl
@[go_sem] theorem ty116tyK:tyK Tryz.prog 116=.int .u64:=by kernel_rfl
@[go_sem] theorem ty116sizeT:sizeT Tryz.prog 116=some 1:=by kernel_rfl
@[go_sem] theorem ty116zeroT:zeroT Tryz.prog 116=some (.int .u64 0):=by kernel_rfl
@[go_sem] theorem ty116conc:Program.concrete Tryz.prog 116=true:=by kernel_rfl
@[go_sem] theorem ty122tyK:tyK Tryz.prog 122=.slice false 127:=by kernel_rfl
@[go_sem] theorem ty122isSliceT:isSliceT Tryz.prog 122=true:=by kernel_rfl
@[go_sem] theorem ty122sliI:sliI Tryz.prog 122=some 2:=by kernel_rfl
@[go_sem] theorem ty122mkI:mkI Tryz.prog 122=some (127,2,48,(.agg #[(.slice none 0 0),(.slice none 0 0)])):=by kernel_rfl
@[go_sem] theorem ty122sizeT:sizeT Tryz.prog 122=some 1:=by kernel_rfl
@[go_sem] theorem ty122zeroT:zeroT Tryz.prog 122=some (.slice none 0 0):=by kernel_rfl
@[go_sem] theorem ty122conc:Program.concrete Tryz.prog 122=true:=by kernel_rfl
@[go_sem] theorem ty125tyK:tyK Tryz.prog 125=.slice false 4:=by kernel_rfl
@[go_sem] theorem ty125isSliceT:isSliceT Tryz.prog 125=true:=by kernel_rfl
@[go_sem] theorem ty125sliI:sliI Tryz.prog 125=some 1:=by kernel_rfl
@[go_sem] theorem ty125mkI:mkI Tryz.prog 125=some (4,1,1,(.bool false)):=by kernel_rfl
@[go_sem] theorem ty125sizeT:sizeT Tryz.prog 125=some 1:=by kernel_rfl
@[go_sem] theorem ty125zeroT:zeroT Tryz.prog 125=some (.slice none 0 0):=by kernel_rfl
@[go_sem] theorem ty125conc:Program.concrete Tryz.prog 125=true:=by kernel_rfl
@[go_sem] theorem ty127tyK:tyK Tryz.prog 127=.agg 2:=by kernel_rfl
@[go_sem] theorem ty127sizeT:sizeT Tryz.prog 127=some 2:=by kernel_rfl
@[go_sem] theorem ty127zeroT:zeroT Tryz.prog 127=some (.agg #[(.slice none 0 0),(.slice none 0 0)]):=by kernel_rfl
@[go_sem] theorem ty127conc:Program.concrete Tryz.prog 127=true:=by kernel_rfl
@[go_sem] theorem ty127plc:plcT Tryz.prog 127=some [(0,1),(1,1)]:=by kernel_rfl
@[go_sem] theorem ty127fld0:fldI Tryz.prog 127 0=some (0,1,false):=by kernel_rfl
@[go_sem] theorem ty127fld1:fldI Tryz.prog 127 1=some (1,1,false):=by kernel_rfl
@[go_sem] theorem ty134tyK:tyK Tryz.prog 134=.agg 4:=by kernel_rfl
@[go_sem] theorem ty134sizeT:sizeT Tryz.prog 134=some 4:=by kernel_rfl
@[go_sem] theorem ty134zeroT:zeroT Tryz.prog 134=some (.agg #[(.int .i64 0),(.int .i64 0),(.int .i64 0),(.int .i64 0)]):=by kernel_rfl
@[go_sem] theorem ty134conc:Program.concrete Tryz.prog 134=true:=by kernel_rfl
@[go_sem] theorem ty134plc:plcT Tryz.prog 134=some [(0,1),(1,1),(2,1),(3,1)]:=by kernel_rfl
@[go_sem] theorem ty134flat:flatT Tryz.prog 134=some [.int,.int,.int,.int]:=by kernel_rfl
@[go_sem] theorem ty134fld0:fldI Tryz.prog 134 0=some (0,1,false):=by kernel_rfl
@[go_sem] theorem ty134fld1:fldI Tryz.prog 134 1=some (1,1,false):=by kernel_rfl
@[go_sem] theorem ty134fld2:fldI Tryz.prog 134 2=some (2,1,false):=by kernel_rfl
@[go_sem] theorem ty134fld3:fldI Tryz.prog 134 3=some (3,1,false):=by kernel_rfl
@[go_sem] theorem ty146tyK:tyK Tryz.prog 146=.int .i64:=by kernel_rfl
@[go_sem] theorem ty146sizeT:sizeT Tryz.prog 146=some 1:=by kernel_rfl
@[go_sem] theorem ty146zeroT:zeroT Tryz.prog 146=some (.int .i64 0):=by kernel_rfl
@[go_sem] theorem ty146conc:Program.concrete Tryz.prog 146=true:=by kernel_rfl
@[go_sem] theorem ty155tyK:tyK Tryz.prog 155=.int .u64:=by kernel_rfl
@[go_sem] theorem ty155sizeT:sizeT Tryz.prog 155=some 1:=by kernel_rfl
@[go_sem] theorem ty155zeroT:zeroT Tryz.prog 155=some (.int .u64 0):=by kernel_rfl
@[go_sem] theorem ty155conc:Program.concrete Tryz.prog 155=true:=by kernel_rfl
@[go_sem] theorem ty156tyK:tyK Tryz.prog 156=.map:=by kernel_rfl
@[go_sem] theorem ty156isMapT:isMapT Tryz.prog 156=true:=by kernel_rfl
@[go_sem] theorem ty156sizeT:sizeT Tryz.prog 156=some 1:=by kernel_rfl
@[go_sem] theorem ty156zeroT:zeroT Tryz.prog 156=some (.map none):=by kernel_rfl
@[go_sem] theorem ty156conc:Program.concrete Tryz.prog 156=true:=by kernel_rfl
@[go_sem] theorem ty164tyK:tyK Tryz.prog 164=.slice false 134:=by kernel_rfl
@[go_sem] theorem ty164isSliceT:isSliceT Tryz.prog 164=true:=by kernel_rfl
@[go_sem] theorem ty164sliI:sliI Tryz.prog 164=some 4:=by kernel_rfl
@[go_sem] theorem ty164mkI:mkI Tryz.prog 164=some (134,4,32,(.agg #[(.int .i64 0),(.int .i64 0),(.int .i64 0),(.int .i64 0)])):=by kernel_rfl
@[go_sem] theorem ty164sizeT:sizeT Tryz.prog 164=some 1:=by kernel_rfl
@[go_sem] theorem ty164zeroT:zeroT Tryz.prog 164=some (.slice none 0 0):=by kernel_rfl
@[go_sem] theorem ty164conc:Program.concrete Tryz.prog 164=true:=by kernel_rfl
@[go_sem] theorem ty176tyK:tyK Tryz.prog 176=.agg 3:=by kernel_rfl
@[go_sem] theorem ty176sizeT:sizeT Tryz.prog 176=some 3:=by kernel_rfl
@[go_sem] theorem ty176zeroT:zeroT Tryz.prog 176=some (.agg #[(.slice none 0 0),(.int .i64 0),(.bool false)]):=by kernel_rfl
@[go_sem] theorem ty176conc:Program.concrete Tryz.prog 176=true:=by kernel_rfl
@[go_sem] theorem ty176plc:plcT Tryz.prog 176=some [(0,1),(1,1),(2,1)]:=by kernel_rfl
@[go_sem] theorem ty176fld0:fldI Tryz.prog 176 0=some (0,1,false):=by kernel_rfl
@[go_sem] theorem ty176fld1:fldI Tryz.prog 176 1=some (1,1,false):=by kernel_rfl
@[go_sem] theorem ty176fld2:fldI Tryz.prog 176 2=some (2,1,false):=by kernel_rfl
@[go_sem] theorem ty185tyK:tyK Tryz.prog 185=.slice true 5:=by kernel_rfl
@[go_sem] theorem ty185isSliceT:isSliceT Tryz.prog 185=true:=by kernel_rfl
@[go_sem] theorem ty185sliI:sliI Tryz.prog 185=some 1:=by kernel_rfl
@[go_sem] theorem ty185mkI:mkI Tryz.prog 185=some (5,1,1,(.int .u8 0)):=by kernel_rfl
@[go_sem] theorem ty185sizeT:sizeT Tryz.prog 185=some 1:=by kernel_rfl
@[go_sem] theorem ty185zeroT:zeroT Tryz.prog 185=some (.slice none 0 0):=by kernel_rfl
@[go_sem] theorem ty185conc:Program.concrete Tryz.prog 185=true:=by kernel_rfl
def c3code:Code:=match Tryz.f3.body with | some c=>c | none=>.skip
def c3S0(_:Unit):Cmd:=.ret
def c3S1(_:Unit):Cmd:=(.cond (.tmp 13)
 (.seq (.ops [
 ⟨some 14,.call ⟨.value (.func 8),#[],#[]⟩,4,none⟩,
 ⟨some 4,.assign (.tmp 14),4,none⟩] [4]) (sg c3S0))
 (.skip [1,2]))
def c3S2(_:Unit):Cmd:=.ret
def c3S3(_:Unit):Cmd:=(.seq (.ops [
 ⟨some 29,.load 28 (.tmp 5),28,none⟩,
 ⟨some 30,.load 32 (.tmp 8),32,none⟩,
 ⟨some 31,.call ⟨.value (.func 11),#[(.tmp 29),(.tmp 30)],#[28,32]⟩,4,none⟩,
 ⟨some 32,.move (.tmp 31),4,none⟩,
 ⟨some 33,.move (.tmp 6),4,(some (32,true))⟩,
 ⟨some 34,.move (.tmp 9),4,(some (32,true))⟩,
 ⟨some 35,.binOp .eql 4 (.tmp 33) (.tmp 34) 4,4,(some (32,true))⟩,
 ⟨some 36,.pick (.tmp 32) (.tmp 35) (.const (.bool false)),4,none⟩,
 ⟨some 37,.move (.tmp 36),4,none⟩,
 ⟨some 38,.move (.tmp 7),29,(some (37,true))⟩,
 ⟨some 39,.move (.tmp 10),3,(some (37,true))⟩,
 ⟨some 40,.binOp .eql 3 (.tmp 38) (.tmp 39) 3,4,(some (37,true))⟩,
 ⟨some 41,.pick (.tmp 37) (.tmp 40) (.const (.bool false)),4,none⟩,
 ⟨some 42,.move (.tmp 41),4,none⟩,
 ⟨some 43,.call ⟨.value (.func 8),#[],#[]⟩,4,(some (42,true))⟩,
 ⟨some 44,.pick (.tmp 42) (.tmp 43) (.const (.bool false)),4,none⟩,
 ⟨some 4,.assign (.tmp 44),4,none⟩] [4]) (sg c3S2))
def c3S4(_:Unit):Cmd:=(.seq (.ops [
 ⟨some 23,.load 24 (.tmp 2),24,none⟩,
 ⟨some 24,.move (.tmp 1),3,none⟩,
 ⟨some 25,.call ⟨.value (.func 10),#[(.tmp 23),(.tmp 24)],#[24,3]⟩,33,none⟩,
 ⟨some 22,.move (.tmp 25),33,none⟩,
 ⟨some 26,.extract (.tmp 22) 0,32,none⟩,
 ⟨some 27,.extract (.tmp 22) 1,4,none⟩,
 ⟨some 28,.extract (.tmp 22) 2,3,none⟩,
 ⟨some 8,.alloc 32,0,none⟩,
 ⟨none,.store 32 (.tmp 8) (.tmp 26),0,none⟩,
 ⟨some 9,.assign (.tmp 27),4,none⟩,
 ⟨some 10,.assign (.tmp 28),3,none⟩] [5,6,7,8,9,10]) (sg c3S3))
def c3S5(_:Unit):Cmd:=(.seq (.ops [
 ⟨some 16,.load 24 (.tmp 2),24,none⟩,
 ⟨some 17,.move (.tmp 1),3,none⟩,
 ⟨some 18,.call ⟨.value (.func 9),#[(.tmp 16),(.tmp 17)],#[24,3]⟩,30,none⟩,
 ⟨some 15,.move (.tmp 18),30,none⟩,
 ⟨some 19,.extract (.tmp 15) 0,28,none⟩,
 ⟨some 20,.extract (.tmp 15) 1,4,none⟩,
 ⟨some 21,.extract (.tmp 15) 2,29,none⟩,
 ⟨some 5,.alloc 28,0,none⟩,
 ⟨none,.store 28 (.tmp 5) (.tmp 19),0,none⟩,
 ⟨some 6,.assign (.tmp 20),4,none⟩,
 ⟨some 7,.assign (.tmp 21),29,none⟩] [1,2,5,6,7]) (sg c3S4))
def c3:Cmd:=(.seq (.ops [
 ⟨some 2,.box 24 (.tmp 0),0,none⟩,
 ⟨some 4,.assign (.const (.bool false)),4,none⟩] [1,2])
 (.seq (.seq (.ops [
 ⟨some 11,.load 24 (.tmp 2),24,none⟩,
 ⟨some 12,.call ⟨.value (.func 7),#[(.tmp 11),(.const (.int .i64 6))],#[24,3]⟩,4,none⟩,
 ⟨some 13,.unOp .not 4 (.tmp 12),4,none⟩] [1,2,13]) (sg c3S1)) (sg c3S5)))
attribute [go_sem] c3 c3S0 c3S1 c3S2 c3S3 c3S4 c3S5
@[go_sem] theorem go3:goFunc Tryz.prog 3=true:=by kernel_rfl
@[go_sem] theorem go4:goFunc Tryz.prog 4=true:=by kernel_rfl
@[go_sem] theorem go5:goFunc Tryz.prog 5=true:=by kernel_rfl
def c6code:Code:=match Tryz.f6.body with | some c=>c | none=>.skip
def c6S0(_:Unit):Cmd:=.ret
def c6S1(_:Unit):Cmd:=(.ops [
 ⟨some 18,.move (.tmp 6),3,none⟩,
 ⟨some 19,.binOp .add 3 (.tmp 18) (.const (.int .i64 1)) 3,3,none⟩,
 ⟨some 6,.assign (.tmp 19),3,none⟩] [0,1,5,6])
def c6S2(_:Unit):Cmd:=(.seq (.block 1 (.seq (.ops [
 ⟨some 20,.move (.tmp 5),47,none⟩,
 ⟨some 21,.move (.tmp 6),3,none⟩,
 ⟨some 22,.indexAddr 47 (.tmp 20) (.tmp 21),0,none⟩,
 ⟨some 23,.fieldAddr 24 (.tmp 22) 2,0,none⟩,
 ⟨some 24,.load 22 (.tmp 23),22,none⟩,
 ⟨some 25,.call ⟨.builtin .len,#[(.tmp 24)],#[22]⟩,3,none⟩,
 ⟨some 26,.binOp .gtr 3 (.tmp 25) (.const (.int .i64 6)) 3,4,none⟩] [0,1,5,6,26])
 (.cond (.tmp 26)
 (.seq (.ops [
 ⟨some 27,.call ⟨.value (.func 8),#[],#[]⟩,4,none⟩,
 ⟨some 4,.assign (.tmp 27),4,none⟩] [4]) (sg c6S0))
 (.skip [0,1,5,6])))) (sg c6S1))
def c6L0(_:Unit):Cmd:=(.seq (.seq (.ops [
 ⟨some 14,.move (.tmp 6),3,none⟩,
 ⟨some 15,.move (.tmp 5),47,none⟩,
 ⟨some 16,.call ⟨.builtin .len,#[(.tmp 15)],#[47]⟩,3,none⟩,
 ⟨some 17,.binOp .lss 3 (.tmp 14) (.tmp 16) 3,4,none⟩] [0,1,5,6,17])
 (.cond (.tmp 17)
 (.skip [0,1,5,6])
 (.exit 0 [0,1]))) (sg c6S2))
def c6S3(_:Unit):Cmd:=.ret
def c6S4(_:Unit):Cmd:=(.cond (.tmp 69)
 (.seq (.ops [
 ⟨some 4,.assign (.const (.bool false)),4,none⟩] [4])
 .ret)
 (.skip [7,9,11]))
def c6S5(_:Unit):Cmd:=(.ops [
 ⟨some 58,.move (.tmp 11),3,none⟩,
 ⟨some 59,.binOp .add 3 (.tmp 58) (.const (.int .i64 1)) 3,3,none⟩,
 ⟨some 11,.assign (.tmp 59),3,none⟩] [7,9,11])
def c6S6(_:Unit):Cmd:=(.seq (.block 3 (.seq (.draw (drawOps 0 c6code) [7,9,11,69]) (sg c6S4))) (sg c6S5))
def c6L1(_:Unit):Cmd:=(.seq (.seq (.ops [
 ⟨some 54,.move (.tmp 11),3,none⟩,
 ⟨some 55,.move (.tmp 7),49,none⟩,
 ⟨some 56,.call ⟨.builtin .len,#[(.tmp 55)],#[49]⟩,3,none⟩,
 ⟨some 57,.binOp .lss 3 (.tmp 54) (.tmp 56) 3,4,none⟩] [7,9,11,57])
 (.cond (.tmp 57)
 (.skip [7,9,11])
 (.exit 2 []))) (sg c6S6))
def c6S7(_:Unit):Cmd:=.ret
def c6S8(_:Unit):Cmd:=(.seq (.ops [
 ⟨some 70,.call ⟨.value (.func 8),#[],#[]⟩,4,none⟩,
 ⟨some 4,.assign (.tmp 70),4,none⟩] [4]) (sg c6S7))
def c6S9(_:Unit):Cmd:=(.seq (.seq (.ops [
 ⟨some 11,.assign (.const (.int .i64 0)),3,none⟩] [7,9,11])
 (.block 2 (.loop (sg c6L1)))) (sg c6S8))
def c6S10(_:Unit):Cmd:=(.seq (.seq (.ops [
 ⟨some 44,.move (.tmp 8),29,none⟩,
 ⟨some 45,.move (.tmp 10),3,none⟩,
 ⟨some 46,.binOp .neq 3 (.tmp 44) (.tmp 45) 3,4,none⟩,
 ⟨some 47,.move (.tmp 46),4,none⟩,
 ⟨some 48,.move (.tmp 7),49,(some (47,false))⟩,
 ⟨some 49,.call ⟨.builtin .len,#[(.tmp 48)],#[49]⟩,3,(some (47,false))⟩,
 ⟨some 50,.move (.tmp 9),52,(some (47,false))⟩,
 ⟨some 51,.call ⟨.builtin .len,#[(.tmp 50)],#[52]⟩,3,(some (47,false))⟩,
 ⟨some 52,.binOp .neq 3 (.tmp 49) (.tmp 51) 3,4,(some (47,false))⟩,
 ⟨some 53,.pick (.tmp 47) (.const (.bool true)) (.tmp 52),4,none⟩] [7,9,53])
 (.cond (.tmp 53)
 (.seq (.ops [
 ⟨some 4,.assign (.const (.bool false)),4,none⟩] [4])
 .ret)
 (.skip [7,9]))) (sg c6S9))
def c6S11(_:Unit):Cmd:=(.seq (.ops [
 ⟨some 39,.move (.tmp 0),22,none⟩,
 ⟨some 40,.move (.tmp 1),3,none⟩,
 ⟨some 41,.call ⟨.value (.func 18),#[(.tmp 39),(.tmp 40)],#[22,3]⟩,53,none⟩,
 ⟨some 38,.move (.tmp 41),53,none⟩,
 ⟨some 42,.extract (.tmp 38) 0,52,none⟩,
 ⟨some 43,.extract (.tmp 38) 1,3,none⟩,
 ⟨some 9,.assign (.tmp 42),52,none⟩,
 ⟨some 10,.assign (.tmp 43),3,none⟩] [7,8,9,10]) (sg c6S10))
def c6S12(_:Unit):Cmd:=(.seq (.ops [
 ⟨some 33,.move (.tmp 0),22,none⟩,
 ⟨some 34,.move (.tmp 1),3,none⟩,
 ⟨some 35,.call ⟨.value (.func 17),#[(.tmp 33),(.tmp 34)],#[22,3]⟩,50,none⟩,
 ⟨some 32,.move (.tmp 35),50,none⟩,
 ⟨some 36,.extract (.tmp 32) 0,49,none⟩,
 ⟨some 37,.extract (.tmp 32) 1,29,none⟩,
 ⟨some 7,.assign (.tmp 36),49,none⟩,
 ⟨some 8,.assign (.tmp 37),29,none⟩] [0,1,7,8]) (sg c6S11))
def c6S13(_:Unit):Cmd:=(.seq (.seq (.ops [
 ⟨some 28,.move (.tmp 0),22,none⟩,
 ⟨some 29,.call ⟨.builtin .len,#[(.tmp 28)],#[22]⟩,3,none⟩,
 ⟨some 30,.binOp .gtr 3 (.tmp 29) (.const (.int .i64 30)) 3,4,none⟩] [0,1,30])
 (.cond (.tmp 30)
 (.seq (.ops [
 ⟨some 31,.call ⟨.value (.func 8),#[],#[]⟩,4,none⟩,
 ⟨some 4,.assign (.tmp 31),4,none⟩] [4]) (sg c6S3))
 (.skip [0,1]))) (sg c6S12))
def c6S14(_:Unit):Cmd:=(.seq (.seq (.ops [
 ⟨some 6,.assign (.const (.int .i64 0)),3,none⟩] [0,1,5,6])
 (.block 0 (.loop (sg c6L0)))) (sg c6S13))
def c6:Cmd:=(.seq (.ops [
 ⟨some 4,.assign (.const (.bool false)),4,none⟩] [0,1])
 (.seq (.ops [
 ⟨some 12,.move (.tmp 0),22,none⟩,
 ⟨some 13,.call ⟨.value (.func 16),#[(.tmp 12)],#[22]⟩,47,none⟩,
 ⟨some 5,.assign (.tmp 13),47,none⟩] [0,1,5]) (sg c6S14)))
attribute [go_sem] c6 c6S0 c6S1 c6S2 c6L0 c6S3 c6S4 c6S5 c6S6 c6L1 c6S7 c6S12
def c6D0:List (Nat × Ins):=[
 (0,⟨some 60,.move (.tmp 7),49,none⟩),
 (0,⟨some 61,.move (.tmp 11),3,none⟩),
 (0,⟨some 62,.indexAddr 49 (.tmp 60) (.tmp 61),0,none⟩),
 (0,⟨some 64,.move (.tmp 9),52,none⟩),
 (0,⟨some 65,.move (.tmp 11),3,none⟩),
 (0,⟨some 66,.indexAddr 52 (.tmp 64) (.tmp 65),0,none⟩),
 (1,⟨some 63,.load 28 (.tmp 62),28,none⟩),
 (2,⟨some 67,.load 32 (.tmp 66),32,none⟩),
 (3,⟨some 68,.call ⟨.value (.func 11),#[(.tmp 63),(.tmp 67)],#[28,32]⟩,4,none⟩),
 (0,⟨some 69,.unOp .not 4 (.tmp 68),4,none⟩)]
theorem c6draw0{L:List Nat}{ρ:Env}{w:World}{Q:Post}(S:World→Prop)(hS:S w.drew)(h:DG Tryz.prog S c6D0 L ρ w.drew Q):drawW Tryz.prog (drawOps 0 c6code) L ρ w Q :=
 drawW_held [3] [(0,0),(0,1),(0,2),(0,4),(0,5),(0,6),(1,3),(2,7),(3,8),(0,9)] c6D0 (by kernel_rfl) (by kernel_rfl) (by kernel_rfl) S hS h
theorem ent6(a0 a1:Value)(w:World)(K:Value→World→Prop)(h:W Tryz.prog c6 [(0,a0),(1,a1)] w (finQ Tryz.prog [.tmp 4] K)):Ret Tryz.prog 6 [a0,a1] w K :=
 Ret_of_W (code:=c6code) Tryz.func6 (by kernel_rfl) (by kernel_rfl) (of_decide_eq_true (by kernel_rfl)) h
@[go_sem] theorem go6:goFunc Tryz.prog 6=true:=by kernel_rfl
@[go_sem] theorem go7:goFunc Tryz.prog 7=true:=by kernel_rfl
def c8code:Code:=match Tryz.f8.body with | some c=>c | none=>.skip
def c8S0(_:Unit):Cmd:=(.seq (.ops [
 ⟨some 23,.move (.tmp 4),29,none⟩,
 ⟨some 24,.binOp .eql 29 (.tmp 23) (.const (.int .i64 0)) 29,4,none⟩,
 ⟨some 25,.move (.tmp 24),4,none⟩,
 ⟨some 26,.move (.tmp 3),4,(some (25,true))⟩,
 ⟨some 27,.pick (.tmp 25) (.tmp 26) (.const (.bool false)),4,none⟩,
 ⟨some 28,.move (.tmp 27),4,none⟩,
 ⟨some 29,.fieldAddr 28 (.tmp 2) 1,0,(some (28,true))⟩,
 ⟨some 30,.load 22 (.tmp 29),22,(some (28,true))⟩,
 ⟨some 31,.call ⟨.builtin .len,#[(.tmp 30)],#[22]⟩,3,(some (28,true))⟩,
 ⟨some 32,.binOp .eql 3 (.tmp 31) (.const (.int .i64 1)) 3,4,(some (28,true))⟩,
 ⟨some 33,.pick (.tmp 28) (.tmp 32) (.const (.bool false)),4,none⟩,
 ⟨some 34,.move (.tmp 33),4,none⟩,
 ⟨some 35,.fieldAddr 28 (.tmp 2) 1,0,(some (34,true))⟩,
 ⟨some 36,.load 22 (.tmp 35),22,(some (34,true))⟩,
 ⟨some 37,.indexAddr 22 (.tmp 36) (.const (.int .i64 0)),0,(some (34,true))⟩,
 ⟨some 38,.fieldAddr 38 (.tmp 37) 0,0,(some (34,true))⟩,
 ⟨some 39,.load 3 (.tmp 38),3,(some (34,true))⟩,
 ⟨some 40,.binOp .eql 3 (.tmp 39) (.const (.int .i64 3)) 3,4,(some (34,true))⟩,
 ⟨some 41,.pick (.tmp 34) (.tmp 40) (.const (.bool false)),4,none⟩,
 ⟨some 42,.move (.tmp 41),4,none⟩,
 ⟨some 43,.fieldAddr 28 (.tmp 2) 2,0,(some (42,true))⟩,
 ⟨some 44,.load 3 (.tmp 43),3,(some (42,true))⟩,
 ⟨some 45,.binOp .eql 3 (.tmp 44) (.const (.int .i64 6)) 3,4,(some (42,true))⟩,
 ⟨some 46,.pick (.tmp 42) (.tmp 45) (.const (.bool false)),4,none⟩,
 ⟨some 47,.move (.tmp 46),4,none⟩,
 ⟨some 48,.move (.tmp 6),29,(some (47,true))⟩,
 ⟨some 49,.move (.tmp 4),29,(some (47,true))⟩,
 ⟨some 50,.binOp .eql 29 (.tmp 48) (.tmp 49) 29,4,(some (47,true))⟩,
 ⟨some 51,.pick (.tmp 47) (.tmp 50) (.const (.bool false)),4,none⟩,
 ⟨some 52,.move (.tmp 51),4,none⟩,
 ⟨some 53,.move (.tmp 5),42,(some (52,true))⟩,
 ⟨some 54,.call ⟨.builtin .len,#[(.tmp 53)],#[42]⟩,3,(some (52,true))⟩,
 ⟨some 55,.binOp .eql 3 (.tmp 54) (.const (.int .i64 1)) 3,4,(some (52,true))⟩,
 ⟨some 56,.pick (.tmp 52) (.tmp 55) (.const (.bool false)),4,none⟩,
 ⟨some 57,.move (.tmp 56),4,none⟩,
 ⟨some 58,.move (.tmp 5),42,(some (57,true))⟩,
 ⟨some 59,.indexAddr 42 (.tmp 58) (.const (.int .i64 0)),0,(some (57,true))⟩,
 ⟨some 60,.load 46 (.tmp 59),46,(some (57,true))⟩,
 ⟨some 61,.build 46 #[(0,(.const (.int .i64 3))),(1,(.const (.int .i64 2)))],46,(some (57,true))⟩,
 ⟨some 62,.binOp .eql 46 (.tmp 60) (.tmp 61) 46,4,(some (57,true))⟩,
 ⟨some 63,.pick (.tmp 57) (.tmp 62) (.const (.bool false)),4,none⟩,
 ⟨some 0,.assign (.tmp 63),4,none⟩] [0])
 .ret)
def c8S1(_:Unit):Cmd:=(.seq (.ops [
 ⟨some 19,.load 24 (.tmp 1),24,none⟩,
 ⟨some 20,.call ⟨.value (.func 15),#[(.tmp 19),(.const (.int .i64 999))],#[24,3]⟩,43,none⟩,
 ⟨some 18,.move (.tmp 20),43,none⟩,
 ⟨some 21,.extract (.tmp 18) 0,42,none⟩,
 ⟨some 22,.extract (.tmp 18) 1,29,none⟩,
 ⟨some 5,.assign (.tmp 21),42,none⟩,
 ⟨some 6,.assign (.tmp 22),29,none⟩] [2,3,4,5,6]) (sg c8S0))
def c8:Cmd:=(.seq (.ops [
 ⟨some 0,.assign (.const (.bool false)),4,none⟩] [])
 (.seq (.ops [
 ⟨some 7,.build 38 #[(0,(.const (.int .i64 1))),(3,(.const (.int .i64 1))),(4,(.const (.int .i64 2))),(5,(.const (.int .i64 1))),(7,(.const (.bool true))),(10,(.const (.int .i64 1)))],38,none⟩,
 ⟨some 8,.build 38 #[(0,(.const (.int .i64 2))),(3,(.const (.int .i64 1))),(4,(.const (.int .i64 2))),(5,(.const (.int .i64 2))),(7,(.const (.bool true))),(9,(.const (.int .i64 2))),(10,(.const (.int .i64 3)))],38,none⟩,
 ⟨some 9,.build 38 #[(0,(.const (.int .i64 3))),(3,(.const (.int .i64 1))),(4,(.const (.int .i64 1))),(7,(.const (.bool true))),(8,(.const (.int .i64 1))),(9,(.const (.int .i64 4))),(10,(.const (.int .i64 5)))],38,none⟩,
 ⟨some 10,.buildSlice 22 3 #[(0,(.tmp 7)),(1,(.tmp 8)),(2,(.tmp 9))],22,none⟩,
 ⟨some 11,.build 24 #[(1,(.const (.int .i64 1))),(2,(.tmp 10))],24,none⟩,
 ⟨some 1,.alloc 24,0,none⟩,
 ⟨none,.store 24 (.tmp 1) (.tmp 11),0,none⟩] [1])
 (.seq (.ops [
 ⟨some 13,.load 24 (.tmp 1),24,none⟩,
 ⟨some 14,.call ⟨.value (.func 9),#[(.tmp 13),(.const (.int .i64 999))],#[24,3]⟩,30,none⟩,
 ⟨some 12,.move (.tmp 14),30,none⟩,
 ⟨some 15,.extract (.tmp 12) 0,28,none⟩,
 ⟨some 16,.extract (.tmp 12) 1,4,none⟩,
 ⟨some 17,.extract (.tmp 12) 2,29,none⟩,
 ⟨some 2,.alloc 28,0,none⟩,
 ⟨none,.store 28 (.tmp 2) (.tmp 15),0,none⟩,
 ⟨some 3,.assign (.tmp 16),4,none⟩,
 ⟨some 4,.assign (.tmp 17),29,none⟩] [1,2,3,4]) (sg c8S1))))
attribute [go_sem] c8
theorem ent8(w:World)(K:Value→World→Prop)(h:W Tryz.prog c8 [] w (finQ Tryz.prog [.tmp 0] K)):Ret Tryz.prog 8 [] w K :=
 Ret_of_W (code:=c8code) Tryz.func8 (by kernel_rfl) (by kernel_rfl) (of_decide_eq_true (by kernel_rfl)) h
@[go_sem] theorem go8:goFunc Tryz.prog 8=true:=by kernel_rfl
def c9code:Code:=match Tryz.f9.body with | some c=>c | none=>.skip
def c9S0(_:Unit):Cmd:=.ret
def c9S1(_:Unit):Cmd:=.ret
def c9S2(_:Unit):Cmd:=.ret
def c9S3(_:Unit):Cmd:=(.seq (.draw (drawOps 2 c9code) [4,5,6]) (sg c9S2))
def c9S4(_:Unit):Cmd:=(.seq (.seq (.ops [
 ⟨some 32,.move (.tmp 7),57,none⟩,
 ⟨some 33,.nilCheck (.tmp 32),0,none⟩,
 ⟨some 34,.fieldAddr 59 (.tmp 33) 2,0,none⟩,
 ⟨some 35,.load 29 (.tmp 34),29,none⟩,
 ⟨some 36,.binOp .neq 29 (.tmp 35) (.const (.int .i64 0)) 29,4,none⟩] [2,4,7,9,36])
 (.cond (.tmp 36)
 (.seq (.draw (drawOps 1 c9code) [4,5,6]) (sg c9S1))
 (.skip [2,4,7,9]))) (sg c9S3))
def c9S5(_:Unit):Cmd:=(.seq (.ops [
 ⟨some 29,.move (.tmp 7),57,none⟩,
 ⟨some 30,.load 24 (.tmp 2),24,none⟩,
 ⟨some 31,.call ⟨.value (.func 22),#[(.tmp 29),(.tmp 30)],#[57,24]⟩,24,none⟩,
 ⟨some 9,.alloc 24,0,none⟩,
 ⟨none,.store 24 (.tmp 9) (.tmp 31),0,none⟩] [2,4,7,9]) (sg c9S4))
def c9S6(_:Unit):Cmd:=(.seq (.seq (.ops [
 ⟨some 27,.move (.tmp 8),4,none⟩] [2,4,7,27])
 (.cond (.tmp 27)
 (.seq (.ops [
 ⟨some 28,.build 28 #[],28,none⟩,
 ⟨none,.store 28 (.tmp 4) (.tmp 28),0,none⟩,
 ⟨some 5,.assign (.const (.bool false)),4,none⟩,
 ⟨some 6,.assign (.const (.int .i64 0)),29,none⟩] [4,5,6])
 .ret)
 (.skip [2,4,7]))) (sg c9S5))
def c9S7(_:Unit):Cmd:=(.seq (.seq (.ops [
 ⟨some 17,.move (.tmp 7),57,none⟩,
 ⟨some 18,.nilCheck (.tmp 17),0,none⟩,
 ⟨some 19,.fieldAddr 59 (.tmp 18) 2,0,none⟩,
 ⟨some 20,.load 29 (.tmp 19),29,none⟩,
 ⟨some 21,.binOp .neq 29 (.tmp 20) (.const (.int .i64 0)) 29,4,none⟩] [2,4,7,8,21])
 (.cond (.tmp 21)
 (.seq (.draw (drawOps 0 c9code) [4,5,6]) (sg c9S0))
 (.skip [2,4,7,8]))) (sg c9S6))
def c9S8(_:Unit):Cmd:=(.seq (.ops [
 ⟨some 14,.move (.tmp 7),57,none⟩,
 ⟨some 15,.load 24 (.tmp 2),24,none⟩,
 ⟨some 16,.call ⟨.value (.func 21),#[(.tmp 14),(.tmp 15)],#[57,24]⟩,4,none⟩,
 ⟨some 8,.assign (.tmp 16),4,none⟩] [2,4,7,8]) (sg c9S7))
def c9:Cmd:=(.seq (.ops [
 ⟨some 2,.box 24 (.tmp 0),0,none⟩,
 ⟨some 4,.alloc 28,0,none⟩,
 ⟨some 5,.assign (.const (.bool false)),4,none⟩,
 ⟨some 6,.assign (.const (.int .i64 0)),29,none⟩] [1,2,4])
 (.seq (.ops [
 ⟨some 10,.move (.tmp 1),3,none⟩,
 ⟨some 11,.call ⟨.builtin .min,#[(.tmp 10),(.const (.int .i64 32768))],#[3,3]⟩,3,none⟩,
 ⟨some 12,.build 59 #[(0,(.tmp 11))],59,none⟩,
 ⟨some 13,.box 59 (.tmp 12),57,none⟩,
 ⟨some 7,.assign (.tmp 13),57,none⟩] [2,4,7]) (sg c9S8)))
attribute [go_sem] c9 c9S0 c9S1 c9S2 c9S3 c9S5 c9S6
def c9D0:List (Nat × Ins):=[
 (0,⟨some 23,.move (.tmp 7),57,none⟩),
 (0,⟨some 24,.nilCheck (.tmp 23),0,none⟩),
 (0,⟨some 25,.fieldAddr 59 (.tmp 24) 2,0,none⟩),
 (1,⟨some 26,.load 29 (.tmp 25),29,none⟩),
 (2,⟨some 22,.build 28 #[],28,none⟩),
 (2,⟨none,.store 28 (.tmp 4) (.tmp 22),0,none⟩),
 (0,⟨some 5,.assign (.const (.bool false)),4,none⟩),
 (0,⟨some 6,.assign (.tmp 26),29,none⟩)]
theorem c9draw0{L:List Nat}{ρ:Env}{w:World}{Q:Post}(S:World→Prop)(hS:S w.drew)(h:DG Tryz.prog S c9D0 L ρ w.drew Q):drawW Tryz.prog (drawOps 0 c9code) L ρ w Q :=
 drawW_held [4] [(0,1),(0,2),(0,3),(1,4),(2,0),(2,5),(0,6),(0,7)] c9D0 (by kernel_rfl) (by kernel_rfl) (by kernel_rfl) S hS h
def c9D1:List (Nat × Ins):=[
 (0,⟨some 38,.move (.tmp 7),57,none⟩),
 (0,⟨some 39,.nilCheck (.tmp 38),0,none⟩),
 (0,⟨some 40,.fieldAddr 59 (.tmp 39) 2,0,none⟩),
 (1,⟨some 41,.load 29 (.tmp 40),29,none⟩),
 (2,⟨some 37,.build 28 #[],28,none⟩),
 (2,⟨none,.store 28 (.tmp 4) (.tmp 37),0,none⟩),
 (0,⟨some 5,.assign (.const (.bool false)),4,none⟩),
 (0,⟨some 6,.assign (.tmp 41),29,none⟩)]
theorem c9draw1{L:List Nat}{ρ:Env}{w:World}{Q:Post}(S:World→Prop)(hS:S w.drew)(h:DG Tryz.prog S c9D1 L ρ w.drew Q):drawW Tryz.prog (drawOps 1 c9code) L ρ w Q :=
 drawW_held [4] [(0,1),(0,2),(0,3),(1,4),(2,0),(2,5),(0,6),(0,7)] c9D1 (by kernel_rfl) (by kernel_rfl) (by kernel_rfl) S hS h
def c9D2:List (Nat × Ins):=[
 (0,⟨some 42,.fieldAddr 24 (.tmp 2) 0,0,none⟩),
 (0,⟨some 44,.fieldAddr 24 (.tmp 9) 2,0,none⟩),
 (0,⟨some 47,.move (.tmp 7),57,none⟩),
 (0,⟨some 48,.nilCheck (.tmp 47),0,none⟩),
 (0,⟨some 49,.fieldAddr 59 (.tmp 48) 1,0,none⟩),
 (1,⟨some 43,.load 3 (.tmp 42),3,none⟩),
 (1,⟨some 45,.load 22 (.tmp 44),22,none⟩),
 (1,⟨some 50,.load 3 (.tmp 49),3,none⟩),
 (2,⟨some 46,.call ⟨.value (.func 23),#[(.tmp 45)],#[22]⟩,22,none⟩),
 (2,⟨some 51,.build 28 #[(0,(.tmp 43)),(1,(.tmp 46)),(2,(.tmp 50))],28,none⟩),
 (3,⟨none,.store 28 (.tmp 4) (.tmp 51),0,none⟩),
 (0,⟨some 5,.assign (.const (.bool true)),4,none⟩),
 (0,⟨some 6,.assign (.const (.int .i64 0)),29,none⟩)]
theorem c9draw2{L:List Nat}{ρ:Env}{w:World}{Q:Post}(S:World→Prop)(hS:S w.drew)(h:DG Tryz.prog S c9D2 L ρ w.drew Q):drawW Tryz.prog (drawOps 2 c9code) L ρ w Q :=
 drawW_held [1,3,8] [(0,0),(0,2),(0,5),(0,6),(0,7),(1,1),(1,3),(1,8),(2,4),(2,9),(3,10),(0,11),(0,12)] c9D2 (by kernel_rfl) (by kernel_rfl) (by kernel_rfl) S hS h
theorem ent9(a0 a1:Value)(w:World)(K:Value→World→Prop)(h:W Tryz.prog c9 [(0,a0),(1,a1)] w (finQ Tryz.prog [.cell 4 28,.tmp 5,.tmp 6] K)):Ret Tryz.prog 9 [a0,a1] w K :=
 Ret_of_W (code:=c9code) Tryz.func9 (by kernel_rfl) (by kernel_rfl) (of_decide_eq_true (by kernel_rfl)) h
@[go_sem] theorem go9:goFunc Tryz.prog 9=true:=by kernel_rfl
def c10code:Code:=match Tryz.f10.body with | some c=>c | none=>.skip
def c10S0(_:Unit):Cmd:=.ret
def c10S1(_:Unit):Cmd:=.ret
def c10S2(_:Unit):Cmd:=(.seq (.ops [
 ⟨some 62,.fieldAddr 63 (.tmp 7) 0,0,none⟩,
 ⟨some 63,.load 4 (.tmp 62),4,none⟩,
 ⟨some 64,.unOp .not 4 (.tmp 63),4,none⟩] [2,4,7,8,9,10,11,64])
 (.cond (.tmp 64)
 (.ops [
 ⟨some 65,.load 24 (.tmp 11),24,none⟩,
 ⟨none,.store 24 (.tmp 2) (.tmp 65),0,none⟩] [2,4,7,8,9,10])
 (.skip [2,4,7,8,9,10])))
def c10S3(_:Unit):Cmd:=(.seq (.ops [
 ⟨some 54,.move (.tmp 8),3,none⟩,
 ⟨some 55,.binOp .add 3 (.tmp 54) (.const (.int .i64 1)) 3,3,none⟩,
 ⟨some 8,.assign (.tmp 55),3,none⟩] [2,4,7,8,9,10,11])
 (.seq (.seq (.ops [
 ⟨some 56,.fieldAddr 63 (.tmp 7) 2,0,none⟩,
 ⟨some 57,.load 3 (.tmp 56),3,none⟩,
 ⟨some 58,.binOp .neq 3 (.tmp 57) (.const (.int .i64 0)) 3,4,none⟩] [2,4,7,8,9,10,11,58])
 (.cond (.tmp 58)
 (.seq (.draw (drawOps 2 c10code) [4,5,6]) (sg c10S1))
 (.skip [2,4,7,8,9,10,11]))) (sg c10S2)))
def c10S4(_:Unit):Cmd:=(.seq (.ops [
 ⟨some 50,.load 24 (.tmp 11),24,none⟩,
 ⟨some 51,.fieldAddr 63 (.tmp 7) 1,0,none⟩,
 ⟨some 52,.load 3 (.tmp 51),3,none⟩,
 ⟨some 53,.call ⟨.value (.func 24),#[(.tmp 50),(.tmp 52)],#[24,3]⟩,63,none⟩,
 ⟨none,.store 63 (.tmp 7) (.tmp 53),0,none⟩] [2,4,7,8,9,10,11]) (sg c10S3))
def c10S5(_:Unit):Cmd:=(.ops [
 ⟨some 35,.move (.tmp 10),3,none⟩,
 ⟨some 36,.binOp .sub 3 (.tmp 35) (.const (.int .i64 1)) 3,3,none⟩,
 ⟨some 10,.assign (.tmp 36),3,none⟩] [2,4,7,8,9,10])
def c10S6(_:Unit):Cmd:=(.seq (.block 3 (.seq (.draw (drawOps 1 c10code) [2,4,7,8,9,10,11]) (sg c10S4))) (sg c10S5))
def c10L0(_:Unit):Cmd:=(.seq (.seq (.ops [
 ⟨some 33,.move (.tmp 10),3,none⟩,
 ⟨some 34,.binOp .geq 3 (.tmp 33) (.const (.int .i64 0)) 3,4,none⟩] [2,4,7,8,9,10,34])
 (.cond (.tmp 34)
 (.skip [2,4,7,8,9,10])
 (.exit 2 [2,4,7,8,9]))) (sg c10S6))
def c10S7(_:Unit):Cmd:=(.seq (.ops [
 ⟨some 66,.fieldAddr 24 (.tmp 2) 2,0,none⟩,
 ⟨some 67,.load 22 (.tmp 66),22,none⟩,
 ⟨some 68,.call ⟨.builtin .len,#[(.tmp 67)],#[22]⟩,3,none⟩,
 ⟨some 69,.move (.tmp 9),22,none⟩,
 ⟨some 70,.call ⟨.builtin .len,#[(.tmp 69)],#[22]⟩,3,none⟩,
 ⟨some 71,.binOp .eql 3 (.tmp 68) (.tmp 70) 3,4,none⟩] [2,4,7,8,9,71])
 (.cond (.tmp 71)
 (.seq (.ops [
 ⟨some 72,.fieldAddr 24 (.tmp 2) 0,0,none⟩,
 ⟨some 73,.load 3 (.tmp 72),3,none⟩,
 ⟨some 74,.move (.tmp 9),22,none⟩,
 ⟨some 75,.move (.tmp 8),3,none⟩,
 ⟨some 76,.build 32 #[(0,(.tmp 73)),(1,(.tmp 74)),(2,(.tmp 75))],32,none⟩,
 ⟨none,.store 32 (.tmp 4) (.tmp 76),0,none⟩,
 ⟨some 5,.assign (.const (.bool true)),4,none⟩,
 ⟨some 6,.assign (.const (.int .i64 0)),3,none⟩] [4,5,6])
 .ret)
 (.skip [2,4,7,8])))
def c10S8(_:Unit):Cmd:=(.seq (.seq (.ops [
 ⟨some 30,.move (.tmp 9),22,none⟩,
 ⟨some 31,.call ⟨.builtin .len,#[(.tmp 30)],#[22]⟩,3,none⟩,
 ⟨some 32,.binOp .sub 3 (.tmp 31) (.const (.int .i64 1)) 3,3,none⟩,
 ⟨some 10,.assign (.tmp 32),3,none⟩] [2,4,7,8,9,10])
 (.block 2 (.loop (sg c10L0)))) (sg c10S7))
def c10L1(_:Unit):Cmd:=(.block 1 (.seq (.ops [
 ⟨some 27,.fieldAddr 24 (.tmp 2) 2,0,none⟩,
 ⟨some 28,.load 22 (.tmp 27),22,none⟩,
 ⟨some 29,.call ⟨.value (.func 25),#[(.tmp 28)],#[22]⟩,22,none⟩,
 ⟨some 9,.assign (.tmp 29),22,none⟩] [2,4,7,8,9]) (sg c10S8)))
def c10S9(_:Unit):Cmd:=(.seq (.ops [
 ⟨some 8,.assign (.const (.int .i64 0)),3,none⟩] [2,4,7,8])
 (.block 0 (.loop (sg c10L1))))
def c10S10(_:Unit):Cmd:=(.seq (.seq (.ops [
 ⟨some 17,.fieldAddr 63 (.tmp 7) 2,0,none⟩,
 ⟨some 18,.load 3 (.tmp 17),3,none⟩,
 ⟨some 19,.binOp .neq 3 (.tmp 18) (.const (.int .i64 0)) 3,4,none⟩,
 ⟨some 20,.move (.tmp 19),4,none⟩,
 ⟨some 21,.fieldAddr 63 (.tmp 7) 0,0,(some (20,false))⟩,
 ⟨some 22,.load 4 (.tmp 21),4,(some (20,false))⟩,
 ⟨some 23,.pick (.tmp 20) (.const (.bool true)) (.tmp 22),4,none⟩] [2,4,7,23])
 (.cond (.tmp 23)
 (.seq (.draw (drawOps 0 c10code) [4,5,6]) (sg c10S0))
 (.skip [2,4,7]))) (sg c10S9))
def c10S11(_:Unit):Cmd:=(.seq (.ops [
 ⟨some 14,.load 24 (.tmp 2),24,none⟩,
 ⟨some 15,.move (.tmp 1),3,none⟩,
 ⟨some 16,.call ⟨.value (.func 24),#[(.tmp 14),(.tmp 15)],#[24,3]⟩,63,none⟩,
 ⟨some 7,.alloc 63,0,none⟩,
 ⟨none,.store 63 (.tmp 7) (.tmp 16),0,none⟩] [2,4,7]) (sg c10S10))
def c10:Cmd:=(.seq (.ops [
 ⟨some 2,.box 24 (.tmp 0),0,none⟩,
 ⟨some 4,.alloc 32,0,none⟩,
 ⟨some 5,.assign (.const (.bool false)),4,none⟩,
 ⟨some 6,.assign (.const (.int .i64 0)),3,none⟩] [1,2,4])
 (.seq (.seq (.ops [
 ⟨some 12,.move (.tmp 1),3,none⟩,
 ⟨some 13,.binOp .gtr 3 (.tmp 12) (.const (.int .i64 32768)) 3,4,none⟩] [1,2,4,13])
 (.cond (.tmp 13)
 (.ops [
 ⟨some 1,.assign (.const (.int .i64 32768)),3,none⟩] [1,2,4])
 (.skip [1,2,4]))) (sg c10S11)))
attribute [go_sem] c10 c10S0 c10S1 c10S2 c10S5 c10S6 c10L0 c10L1 c10S9
def c10D0:List (Nat × Ins):=[
 (0,⟨some 25,.fieldAddr 63 (.tmp 7) 2,0,none⟩),
 (1,⟨some 26,.load 3 (.tmp 25),3,none⟩),
 (2,⟨some 24,.build 32 #[],32,none⟩),
 (2,⟨none,.store 32 (.tmp 4) (.tmp 24),0,none⟩),
 (0,⟨some 5,.assign (.const (.bool false)),4,none⟩),
 (0,⟨some 6,.assign (.tmp 26),3,none⟩)]
theorem c10draw0{L:List Nat}{ρ:Env}{w:World}{Q:Post}(S:World→Prop)(hS:S w.drew)(h:DG Tryz.prog S c10D0 L ρ w.drew Q):drawW Tryz.prog (drawOps 0 c10code) L ρ w Q :=
 drawW_held [2] [(0,1),(1,2),(2,0),(2,3),(0,4),(0,5)] c10D0 (by kernel_rfl) (by kernel_rfl) (by kernel_rfl) S hS h
def c10D1:GT:=(.one 0 ⟨some 37,.fieldAddr 24 (.tmp 2) 0,0,none⟩
 (.one 0 ⟨some 39,.fieldAddr 24 (.tmp 2) 1,0,none⟩
 (.one 0 ⟨some 41,.fieldAddr 24 (.tmp 2) 2,0,none⟩
 (.one 0 ⟨some 43,.move (.tmp 9),22,none⟩
 (.one 0 ⟨some 44,.move (.tmp 10),3,none⟩
 (.one 0 ⟨some 45,.indexAddr 22 (.tmp 43) (.tmp 44),0,none⟩
 (.one 0 ⟨some 46,.fieldAddr 38 (.tmp 45) 0,0,none⟩
 (.one 1 ⟨some 38,.load 3 (.tmp 37),3,none⟩
 (.one 1 ⟨some 40,.load 3 (.tmp 39),3,none⟩
 (.one 1 ⟨some 42,.load 22 (.tmp 41),22,none⟩
 (.one 1 ⟨some 47,.load 3 (.tmp 46),3,none⟩
 (.alt ⟨some 48,.call ⟨.value (.func 14),#[(.tmp 42),(.tmp 47)],#[22,3]⟩,22,none⟩
 (.alt ⟨some 49,.build 24 #[(0,(.tmp 38)),(1,(.tmp 40)),(2,(.tmp 48))],24,none⟩
 (.one 2 ⟨some 11,.alloc 24,0,none⟩
 (.one 2 ⟨none,.store 24 (.tmp 11) (.tmp 49),0,none⟩
 .nil))
 (.alt ⟨some 11,.alloc 24,0,none⟩
 (.one 2 ⟨some 49,.build 24 #[(0,(.tmp 38)),(1,(.tmp 40)),(2,(.tmp 48))],24,none⟩
 (.one 2 ⟨none,.store 24 (.tmp 11) (.tmp 49),0,none⟩
 .nil))
 .stop))
 (.alt ⟨some 11,.alloc 24,0,none⟩
 (.one 2 ⟨some 48,.call ⟨.value (.func 14),#[(.tmp 42),(.tmp 47)],#[22,3]⟩,22,none⟩
 (.one 2 ⟨some 49,.build 24 #[(0,(.tmp 38)),(1,(.tmp 40)),(2,(.tmp 48))],24,none⟩
 (.one 2 ⟨none,.store 24 (.tmp 11) (.tmp 49),0,none⟩
 .nil)))
 .stop)))))))))))))
theorem c10draw1{L:List Nat}{ρ:Env}{w:World}{Q:Post}(S:World→Prop)(hS:S w.drew)(h:DT Tryz.prog S c10D1 L ρ w.drew Q):drawW Tryz.prog (drawOps 1 c10code) L ρ w Q :=
 drawW_tree [1,3,5,10] (.one 0 0 (.one 0 2 (.one 0 4 (.one 0 6 (.one 0 7 (.one 0 8 (.one 0 9 (.one 1 1 (.one 1 3 (.one 1 5 (.one 1 10 (.alt 11 (.alt 12 (.one 2 13 (.one 2 14 .nil)) (.alt 13 (.one 2 12 (.one 2 14 .nil)) .stop)) (.alt 13 (.one 2 11 (.one 2 12 (.one 2 14 .nil))) .stop))))))))))))) c10D1 (by kernel_rfl) (by kernel_rfl) (by kernel_rfl) S hS h
def c10D2:List (Nat × Ins):=[
 (0,⟨some 60,.fieldAddr 63 (.tmp 7) 2,0,none⟩),
 (1,⟨some 61,.load 3 (.tmp 60),3,none⟩),
 (2,⟨some 59,.build 32 #[],32,none⟩),
 (2,⟨none,.store 32 (.tmp 4) (.tmp 59),0,none⟩),
 (0,⟨some 5,.assign (.const (.bool false)),4,none⟩),
 (0,⟨some 6,.assign (.tmp 61),3,none⟩)]
theorem c10draw2{L:List Nat}{ρ:Env}{w:World}{Q:Post}(S:World→Prop)(hS:S w.drew)(h:DG Tryz.prog S c10D2 L ρ w.drew Q):drawW Tryz.prog (drawOps 2 c10code) L ρ w Q :=
 drawW_held [2] [(0,1),(1,2),(2,0),(2,3),(0,4),(0,5)] c10D2 (by kernel_rfl) (by kernel_rfl) (by kernel_rfl) S hS h
theorem ent10(a0 a1:Value)(w:World)(K:Value→World→Prop)(h:W Tryz.prog c10 [(0,a0),(1,a1)] w (finQ Tryz.prog [.cell 4 32,.tmp 5,.tmp 6] K)):Ret Tryz.prog 10 [a0,a1] w K :=
 Ret_of_W (code:=c10code) Tryz.func10 (by kernel_rfl) (by kernel_rfl) (of_decide_eq_true (by kernel_rfl)) h
@[go_sem] theorem go10:goFunc Tryz.prog 10=true:=by kernel_rfl
def c11code:Code:=match Tryz.f11.body with | some c=>c | none=>.skip
def c11S0(_:Unit):Cmd:=.ret
def c11:Cmd:=(.seq (.ops [
 ⟨some 2,.box 28 (.tmp 0),0,none⟩,
 ⟨some 3,.box 32 (.tmp 1),0,none⟩,
 ⟨some 4,.assign (.const (.bool false)),4,none⟩] [2,3])
 (.seq (.ops [
 ⟨some 5,.fieldAddr 28 (.tmp 2) 0,0,none⟩,
 ⟨some 6,.load 3 (.tmp 5),3,none⟩,
 ⟨some 7,.fieldAddr 32 (.tmp 3) 0,0,none⟩,
 ⟨some 8,.load 3 (.tmp 7),3,none⟩,
 ⟨some 9,.binOp .eql 3 (.tmp 6) (.tmp 8) 3,4,none⟩,
 ⟨some 10,.move (.tmp 9),4,none⟩,
 ⟨some 11,.fieldAddr 28 (.tmp 2) 1,0,(some (10,true))⟩,
 ⟨some 12,.load 22 (.tmp 11),22,(some (10,true))⟩,
 ⟨some 13,.fieldAddr 32 (.tmp 3) 1,0,(some (10,true))⟩,
 ⟨some 14,.load 22 (.tmp 13),22,(some (10,true))⟩,
 ⟨some 15,.call ⟨.value (.func 26),#[(.tmp 12),(.tmp 14)],#[22,22]⟩,4,(some (10,true))⟩,
 ⟨some 16,.pick (.tmp 10) (.tmp 15) (.const (.bool false)),4,none⟩,
 ⟨some 17,.move (.tmp 16),4,none⟩,
 ⟨some 18,.fieldAddr 28 (.tmp 2) 2,0,(some (17,true))⟩,
 ⟨some 19,.load 3 (.tmp 18),3,(some (17,true))⟩,
 ⟨some 20,.fieldAddr 32 (.tmp 3) 2,0,(some (17,true))⟩,
 ⟨some 21,.load 3 (.tmp 20),3,(some (17,true))⟩,
 ⟨some 22,.binOp .eql 3 (.tmp 19) (.tmp 21) 3,4,(some (17,true))⟩,
 ⟨some 23,.pick (.tmp 17) (.tmp 22) (.const (.bool false)),4,none⟩,
 ⟨some 4,.assign (.tmp 23),4,none⟩] [4]) (sg c11S0)))
attribute [go_sem] c11 c11S0
theorem ent11(a0 a1:Value)(w:World)(K:Value→World→Prop)(h:W Tryz.prog c11 [(0,a0),(1,a1)] w (finQ Tryz.prog [.tmp 4] K)):Ret Tryz.prog 11 [a0,a1] w K :=
 Ret_of_W (code:=c11code) Tryz.func11 (by kernel_rfl) (by kernel_rfl) (of_decide_eq_true (by kernel_rfl)) h
@[go_sem] theorem go11:goFunc Tryz.prog 11=true:=by kernel_rfl
@[go_sem] theorem go12:goFunc Tryz.prog 12=true:=by kernel_rfl
@[go_sem] theorem go13:goFunc Tryz.prog 13=true:=by kernel_rfl
def c14code:Code:=match Tryz.f14.body with | some c=>c | none=>.skip
def c14S0(_:Unit):Cmd:=(.ops [
 ⟨some 11,.move (.tmp 6),3,none⟩,
 ⟨some 12,.binOp .add 3 (.tmp 11) (.const (.int .i64 1)) 3,3,none⟩,
 ⟨some 6,.assign (.tmp 12),3,none⟩] [0,1,5,6])
def c14S1(_:Unit):Cmd:=(.seq (.block 1 (.seq (.ops [
 ⟨some 13,.move (.tmp 0),22,none⟩,
 ⟨some 14,.move (.tmp 6),3,none⟩,
 ⟨some 15,.indexAddr 22 (.tmp 13) (.tmp 14),0,none⟩,
 ⟨some 16,.fieldAddr 38 (.tmp 15) 0,0,none⟩,
 ⟨some 17,.load 3 (.tmp 16),3,none⟩,
 ⟨some 18,.move (.tmp 1),3,none⟩,
 ⟨some 19,.binOp .neq 3 (.tmp 17) (.tmp 18) 3,4,none⟩] [0,1,5,6,19])
 (.cond (.tmp 19)
 (.ops [
 ⟨some 20,.move (.tmp 5),22,none⟩,
 ⟨some 21,.move (.tmp 0),22,none⟩,
 ⟨some 22,.move (.tmp 6),3,none⟩,
 ⟨some 23,.indexAddr 22 (.tmp 21) (.tmp 22),0,none⟩,
 ⟨some 24,.load 38 (.tmp 23),38,none⟩,
 ⟨some 25,.buildSlice 22 1 #[(0,(.tmp 24))],22,none⟩,
 ⟨some 26,.call ⟨.builtin .append,#[(.tmp 20),(.tmp 25)],#[22,22]⟩,22,none⟩,
 ⟨some 5,.assign (.tmp 26),22,none⟩] [0,1,5,6])
 (.skip [0,1,5,6])))) (sg c14S0))
def c14L0(_:Unit):Cmd:=(.seq (.seq (.ops [
 ⟨some 7,.move (.tmp 6),3,none⟩,
 ⟨some 8,.move (.tmp 0),22,none⟩,
 ⟨some 9,.call ⟨.builtin .len,#[(.tmp 8)],#[22]⟩,3,none⟩,
 ⟨some 10,.binOp .lss 3 (.tmp 7) (.tmp 9) 3,4,none⟩] [0,1,5,6,10])
 (.cond (.tmp 10)
 (.skip [0,1,5,6])
 (.exit 0 [5]))) (sg c14S1))
def c14S2(_:Unit):Cmd:=(.seq (.ops [
 ⟨some 27,.move (.tmp 5),22,none⟩,
 ⟨some 4,.assign (.tmp 27),22,none⟩] [4])
 .ret)
def c14:Cmd:=(.seq (.ops [
 ⟨some 4,.assign (.const (.slice none 0 0)),22,none⟩] [0,1])
 (.seq (.ops [
 ⟨some 5,.assign (.const (.slice none 0 0)),22,none⟩] [0,1,5])
 (.seq (.seq (.ops [
 ⟨some 6,.assign (.const (.int .i64 0)),3,none⟩] [0,1,5,6])
 (.block 0 (.loop (sg c14L0)))) (sg c14S2))))
attribute [go_sem] c14 c14S0 c14S1 c14L0
theorem ent14(a0 a1:Value)(w:World)(K:Value→World→Prop)(h:W Tryz.prog c14 [(0,a0),(1,a1)] w (finQ Tryz.prog [.tmp 4] K)):Ret Tryz.prog 14 [a0,a1] w K :=
 Ret_of_W (code:=c14code) Tryz.func14 (by kernel_rfl) (by kernel_rfl) (of_decide_eq_true (by kernel_rfl)) h
@[go_sem] theorem go14:goFunc Tryz.prog 14=true:=by kernel_rfl
def c15code:Code:=match Tryz.f15.body with | some c=>c | none=>.skip
def c15S0(_:Unit):Cmd:=.ret
def c15S1(_:Unit):Cmd:=(.seq (.ops [
 ⟨some 24,.move (.tmp 7),4,none⟩,
 ⟨some 25,.move (.tmp 24),4,none⟩,
 ⟨some 26,.move (.tmp 6),57,(some (25,false))⟩,
 ⟨some 27,.nilCheck (.tmp 26),0,(some (25,false))⟩,
 ⟨some 28,.fieldAddr 59 (.tmp 27) 2,0,(some (25,false))⟩,
 ⟨some 29,.load 29 (.tmp 28),29,(some (25,false))⟩,
 ⟨some 30,.binOp .neq 29 (.tmp 29) (.const (.int .i64 0)) 29,4,(some (25,false))⟩,
 ⟨some 31,.pick (.tmp 25) (.const (.bool true)) (.tmp 30),4,none⟩] [2,6,31])
 (.cond (.tmp 31)
 (.seq (.draw (drawOps 0 c15code) [4,5]) (sg c15S0))
 (.skip [2,6])))
def c15S2(_:Unit):Cmd:=(.cond (.tmp 80)
 (.exit 3 [2,6,8,10,12,41,42,43,52,53,54])
 (.skip [2,6,8,10,12,14,41,42,43,52,53,54]))
def c15S3(_:Unit):Cmd:=.ret
def c15S4(_:Unit):Cmd:=(.ops [
 ⟨some 90,.move (.tmp 8),42,none⟩,
 ⟨some 91,.fieldAddr 38 (.tmp 12) 0,0,none⟩,
 ⟨some 92,.load 3 (.tmp 91),3,none⟩,
 ⟨some 93,.move (.tmp 14),3,none⟩,
 ⟨some 94,.build 46 #[(0,(.tmp 92)),(1,(.tmp 93))],46,none⟩,
 ⟨some 95,.buildSlice 42 1 #[(0,(.tmp 94))],42,none⟩,
 ⟨some 96,.call ⟨.builtin .append,#[(.tmp 90),(.tmp 95)],#[42,42]⟩,42,none⟩,
 ⟨some 8,.assign (.tmp 96),42,none⟩] [2,6,8,10,12,41,42,43,52,53,54])
def c15S5(_:Unit):Cmd:=(.seq (.seq (.ops [
 ⟨some 81,.move (.tmp 6),57,none⟩,
 ⟨some 82,.nilCheck (.tmp 81),0,none⟩,
 ⟨some 83,.fieldAddr 59 (.tmp 82) 2,0,none⟩,
 ⟨some 84,.load 29 (.tmp 83),29,none⟩,
 ⟨some 85,.binOp .neq 29 (.tmp 84) (.const (.int .i64 0)) 29,4,none⟩] [2,6,8,10,12,14,41,42,43,52,53,54,85])
 (.cond (.tmp 85)
 (.seq (.draw (drawOps 1 c15code) [4,5]) (sg c15S3))
 (.skip [2,6,8,10,12,14,41,42,43,52,53,54]))) (sg c15S4))
def c15S6(_:Unit):Cmd:=(.seq (.seq (.ops [
 ⟨some 71,.move (.tmp 14),3,none⟩,
 ⟨some 72,.fieldAddr 38 (.tmp 12) 8,0,none⟩,
 ⟨some 73,.load 3 (.tmp 72),3,none⟩,
 ⟨some 74,.binOp .eql 3 (.tmp 71) (.tmp 73) 3,4,none⟩,
 ⟨some 75,.move (.tmp 74),4,none⟩,
 ⟨some 76,.move (.tmp 6),57,(some (75,false))⟩,
 ⟨some 77,.load 24 (.tmp 15),24,(some (75,false))⟩,
 ⟨some 78,.call ⟨.value (.func 21),#[(.tmp 76),(.tmp 77)],#[57,24]⟩,4,(some (75,false))⟩,
 ⟨some 79,.unOp .not 4 (.tmp 78),4,(some (75,false))⟩,
 ⟨some 80,.pick (.tmp 75) (.const (.bool true)) (.tmp 79),4,none⟩] [2,6,8,10,12,14,41,42,43,52,53,54,80]) (sg c15S2)) (sg c15S5))
def c15S7(_:Unit):Cmd:=(.seq (.ops [
 ⟨some 62,.load 38 (.tmp 12),38,none⟩,
 ⟨some 16,.alloc 38,0,none⟩,
 ⟨none,.store 38 (.tmp 16) (.tmp 62),0,none⟩] [2,6,8,10,12,14,15,16,41,42,43,52,53,54])
 (.seq (.ops [
 ⟨some 63,.move (.tmp 14),3,none⟩,
 ⟨some 64,.fieldAddr 38 (.tmp 16) 8,0,none⟩,
 ⟨none,.store 3 (.tmp 64) (.tmp 63),0,none⟩] [2,6,8,10,12,14,15,16,41,42,43,52,53,54])
 (.seq (.ops [
 ⟨some 65,.fieldAddr 24 (.tmp 15) 2,0,none⟩,
 ⟨some 66,.load 22 (.tmp 65),22,none⟩,
 ⟨some 67,.load 38 (.tmp 16),38,none⟩,
 ⟨some 68,.buildSlice 22 1 #[(0,(.tmp 67))],22,none⟩,
 ⟨some 69,.call ⟨.builtin .append,#[(.tmp 66),(.tmp 68)],#[22,22]⟩,22,none⟩,
 ⟨some 70,.fieldAddr 24 (.tmp 15) 2,0,none⟩,
 ⟨none,.store 22 (.tmp 70) (.tmp 69),0,none⟩] [2,6,8,10,12,14,15,41,42,43,52,53,54]) (sg c15S6))))
def c15S8(_:Unit):Cmd:=(.ops [
 ⟨some 97,.binOp .add 3 (.tmp 54) (.const (.int .i64 1)) 3,3,none⟩,
 ⟨some 54,.move (.tmp 97),3,none⟩] [2,6,8,10,12,41,42,43,52,53,54])
def c15S9(_:Unit):Cmd:=(.seq (.block 3 (.seq (.ops [
 ⟨some 56,.indexAddr 66 (.tmp 52) (.tmp 54),0,none⟩,
 ⟨some 57,.load 3 (.tmp 56),3,none⟩,
 ⟨some 14,.assign (.tmp 57),3,none⟩] [2,6,8,10,12,14,41,42,43,52,53,54])
 (.seq (.ops [
 ⟨some 58,.load 24 (.tmp 2),24,none⟩,
 ⟨some 59,.fieldAddr 38 (.tmp 12) 0,0,none⟩,
 ⟨some 60,.load 3 (.tmp 59),3,none⟩,
 ⟨some 61,.call ⟨.value (.func 29),#[(.tmp 58),(.tmp 60)],#[24,3]⟩,24,none⟩,
 ⟨some 15,.alloc 24,0,none⟩,
 ⟨none,.store 24 (.tmp 15) (.tmp 61),0,none⟩] [2,6,8,10,12,14,15,41,42,43,52,53,54]) (sg c15S7)))) (sg c15S8))
def c15L0(_:Unit):Cmd:=(.seq (.ops [
 ⟨some 55,.binOp .lss 3 (.tmp 54) (.tmp 53) 3,0,none⟩] [2,6,8,10,12,41,42,43,52,53,54,55])
 (.seq (.cond (.tmp 55)
 (.skip [2,6,8,10,12,41,42,43,52,53,54])
 (.exit 2 [2,6,8,10,41,42,43])) (sg c15S9)))
def c15S10(_:Unit):Cmd:=(.block 2 (.loop (sg c15L0)))
def c15S11(_:Unit):Cmd:=(.seq (.ops [
 ⟨some 50,.load 38 (.tmp 12),38,none⟩,
 ⟨some 51,.move (.tmp 10),66,none⟩,
 ⟨some 52,.call ⟨.value (.func 28),#[(.tmp 50),(.tmp 51)],#[38,66]⟩,66,none⟩,
 ⟨some 53,.call ⟨.builtin .len,#[(.tmp 52)],#[66]⟩,3,none⟩,
 ⟨some 54,.move (.const (.int .i64 0)),3,none⟩] [2,6,8,10,12,41,42,43,52,53,54]) (sg c15S10))
def c15S12(_:Unit):Cmd:=(.ops [
 ⟨some 98,.binOp .add 3 (.tmp 43) (.const (.int .i64 1)) 3,3,none⟩,
 ⟨some 43,.move (.tmp 98),3,none⟩] [2,6,8,10,41,42,43])
def c15S13(_:Unit):Cmd:=(.seq (.block 1 (.seq (.ops [
 ⟨some 45,.indexAddr 22 (.tmp 41) (.tmp 43),0,none⟩,
 ⟨some 46,.load 38 (.tmp 45),38,none⟩,
 ⟨some 12,.alloc 38,0,none⟩,
 ⟨none,.store 38 (.tmp 12) (.tmp 46),0,none⟩] [2,6,8,10,12,41,42,43])
 (.seq (.seq (.ops [
 ⟨some 47,.fieldAddr 38 (.tmp 12) 7,0,none⟩,
 ⟨some 48,.load 4 (.tmp 47),4,none⟩,
 ⟨some 49,.unOp .not 4 (.tmp 48),4,none⟩] [2,6,8,10,12,41,42,43,49])
 (.cond (.tmp 49)
 (.exit 1 [2,6,8,10,41,42,43])
 (.skip [2,6,8,10,12,41,42,43]))) (sg c15S11)))) (sg c15S12))
def c15L1(_:Unit):Cmd:=(.seq (.ops [
 ⟨some 44,.binOp .lss 3 (.tmp 43) (.tmp 42) 3,0,none⟩] [2,6,8,10,41,42,43,44])
 (.seq (.cond (.tmp 44)
 (.skip [2,6,8,10,41,42,43])
 (.exit 0 [8])) (sg c15S13)))
def c15S14(_:Unit):Cmd:=(.seq (.ops [
 ⟨some 99,.move (.tmp 8),42,none⟩,
 ⟨some 4,.assign (.tmp 99),42,none⟩,
 ⟨some 5,.assign (.const (.int .i64 0)),29,none⟩] [4,5])
 .ret)
def c15S15(_:Unit):Cmd:=(.seq (.seq (.ops [
 ⟨some 41,.move (.tmp 9),22,none⟩,
 ⟨some 42,.call ⟨.builtin .len,#[(.tmp 41)],#[22]⟩,3,none⟩,
 ⟨some 43,.move (.const (.int .i64 0)),3,none⟩] [2,6,8,10,41,42,43])
 (.block 0 (.loop (sg c15L1)))) (sg c15S14))
def c15S16(_:Unit):Cmd:=(.seq (.ops [
 ⟨some 39,.move (.tmp 9),22,none⟩,
 ⟨some 40,.call ⟨.value (.func 27),#[(.tmp 39)],#[22]⟩,66,none⟩,
 ⟨some 10,.assign (.tmp 40),66,none⟩] [2,6,8,9,10]) (sg c15S15))
def c15S17(_:Unit):Cmd:=(.seq (.ops [
 ⟨some 8,.assign (.const (.slice none 0 0)),42,none⟩] [2,6,8])
 (.seq (.ops [
 ⟨some 36,.fieldAddr 24 (.tmp 2) 2,0,none⟩,
 ⟨some 37,.load 22 (.tmp 36),22,none⟩,
 ⟨some 38,.call ⟨.value (.func 23),#[(.tmp 37)],#[22]⟩,22,none⟩,
 ⟨some 9,.assign (.tmp 38),22,none⟩] [2,6,8,9]) (sg c15S16)))
def c15S18(_:Unit):Cmd:=(.seq (.seq (.ops [
 ⟨some 21,.move (.tmp 6),57,none⟩,
 ⟨some 22,.load 24 (.tmp 2),24,none⟩,
 ⟨some 23,.call ⟨.value (.func 21),#[(.tmp 21),(.tmp 22)],#[57,24]⟩,4,none⟩,
 ⟨some 7,.assign (.tmp 23),4,none⟩] [2,6,7]) (sg c15S1)) (sg c15S17))
def c15:Cmd:=(.seq (.ops [
 ⟨some 2,.box 24 (.tmp 0),0,none⟩,
 ⟨some 4,.assign (.const (.slice none 0 0)),42,none⟩,
 ⟨some 5,.assign (.const (.int .i64 0)),29,none⟩] [1,2])
 (.seq (.ops [
 ⟨some 17,.move (.tmp 1),3,none⟩,
 ⟨some 18,.call ⟨.builtin .min,#[(.tmp 17),(.const (.int .i64 32768))],#[3,3]⟩,3,none⟩,
 ⟨some 19,.build 59 #[(0,(.tmp 18))],59,none⟩,
 ⟨some 20,.box 59 (.tmp 19),57,none⟩,
 ⟨some 6,.assign (.tmp 20),57,none⟩] [2,6]) (sg c15S18)))
attribute [go_sem] c15 c15S0 c15S2 c15S3 c15S4 c15S8 c15S9 c15L0 c15S10 c15S12 c15S13 c15L1 c15S14 c15S15 c15S16
def c15D0:List (Bool × Ins):=[
 (true,⟨some 32,.move (.tmp 6),57,none⟩),
 (true,⟨some 33,.nilCheck (.tmp 32),0,none⟩),
 (true,⟨some 34,.fieldAddr 59 (.tmp 33) 2,0,none⟩),
 (true,⟨some 4,.assign (.const (.slice none 0 0)),42,none⟩),
 (false,⟨some 35,.load 29 (.tmp 34),29,none⟩),
 (true,⟨some 5,.assign (.tmp 35),29,none⟩)]
theorem c15draw0{L:List Nat}{ρ:Env}{w:World}{Q:Post}(h:DL Tryz.prog c15D0 L ρ w.drew Q):drawW Tryz.prog (drawOps 0 c15code) L ρ w Q :=
 drawW_by [(true,0),(true,1),(true,2),(true,4),(false,3),(true,5)] c15D0 (by kernel_rfl) (by kernel_rfl) (by kernel_rfl) h
def c15D1:List (Bool × Ins):=[
 (true,⟨some 86,.move (.tmp 6),57,none⟩),
 (true,⟨some 87,.nilCheck (.tmp 86),0,none⟩),
 (true,⟨some 88,.fieldAddr 59 (.tmp 87) 2,0,none⟩),
 (true,⟨some 4,.assign (.const (.slice none 0 0)),42,none⟩),
 (false,⟨some 89,.load 29 (.tmp 88),29,none⟩),
 (true,⟨some 5,.assign (.tmp 89),29,none⟩)]
theorem c15draw1{L:List Nat}{ρ:Env}{w:World}{Q:Post}(h:DL Tryz.prog c15D1 L ρ w.drew Q):drawW Tryz.prog (drawOps 1 c15code) L ρ w Q :=
 drawW_by [(true,0),(true,1),(true,2),(true,4),(false,3),(true,5)] c15D1 (by kernel_rfl) (by kernel_rfl) (by kernel_rfl) h
theorem ent15(a0 a1:Value)(w:World)(K:Value→World→Prop)(h:W Tryz.prog c15 [(0,a0),(1,a1)] w (finQ Tryz.prog [.tmp 4,.tmp 5] K)):Ret Tryz.prog 15 [a0,a1] w K :=
 Ret_of_W (code:=c15code) Tryz.func15 (by kernel_rfl) (by kernel_rfl) (of_decide_eq_true (by kernel_rfl)) h
@[go_sem] theorem go15:goFunc Tryz.prog 15=true:=by kernel_rfl
def c16code:Code:=match Tryz.f16.body with | some c=>c | none=>.skip
def c16S0(_:Unit):Cmd:=(.ops [
 ⟨some 15,.move (.tmp 8),3,none⟩,
 ⟨some 16,.binOp .add 3 (.tmp 15) (.const (.int .i64 1)) 3,3,none⟩,
 ⟨some 8,.assign (.tmp 16),3,none⟩] [0,3,4,5,6,7,8])
def c16S1(_:Unit):Cmd:=(.seq (.block 3 (.seq (.ops [
 ⟨some 17,.move (.tmp 5),4,none⟩,
 ⟨some 18,.unOp .not 4 (.tmp 17),4,none⟩,
 ⟨some 19,.move (.tmp 18),4,none⟩,
 ⟨some 20,.move (.tmp 0),22,(some (19,false))⟩,
 ⟨some 21,.move (.tmp 8),3,(some (19,false))⟩,
 ⟨some 22,.indexAddr 22 (.tmp 20) (.tmp 21),0,(some (19,false))⟩,
 ⟨some 23,.fieldAddr 38 (.tmp 22) 2,0,(some (19,false))⟩,
 ⟨some 24,.load 3 (.tmp 23),3,(some (19,false))⟩,
 ⟨some 25,.move (.tmp 4),3,(some (19,false))⟩,
 ⟨some 26,.binOp .gtr 3 (.tmp 24) (.tmp 25) 3,4,(some (19,false))⟩,
 ⟨some 27,.pick (.tmp 19) (.const (.bool true)) (.tmp 26),4,none⟩,
 ⟨some 28,.move (.tmp 27),4,none⟩,
 ⟨some 29,.move (.tmp 7),4,(some (28,true))⟩,
 ⟨some 30,.unOp .not 4 (.tmp 29),4,(some (28,true))⟩,
 ⟨some 31,.move (.tmp 30),4,(some (28,true))⟩,
 ⟨some 32,.move (.tmp 0),22,(some (31,false))⟩,
 ⟨some 33,.move (.tmp 8),3,(some (31,false))⟩,
 ⟨some 34,.indexAddr 22 (.tmp 32) (.tmp 33),0,(some (31,false))⟩,
 ⟨some 35,.fieldAddr 38 (.tmp 34) 2,0,(some (31,false))⟩,
 ⟨some 36,.load 3 (.tmp 35),3,(some (31,false))⟩,
 ⟨some 37,.move (.tmp 6),3,(some (31,false))⟩,
 ⟨some 38,.binOp .lss 3 (.tmp 36) (.tmp 37) 3,4,(some (31,false))⟩,
 ⟨some 39,.pick (.tmp 31) (.const (.bool true)) (.tmp 38),4,(some (28,true))⟩,
 ⟨some 40,.pick (.tmp 28) (.tmp 39) (.const (.bool false)),4,none⟩] [0,3,4,5,6,7,8,40])
 (.cond (.tmp 40)
 (.ops [
 ⟨some 41,.move (.tmp 0),22,none⟩,
 ⟨some 42,.move (.tmp 8),3,none⟩,
 ⟨some 43,.indexAddr 22 (.tmp 41) (.tmp 42),0,none⟩,
 ⟨some 44,.fieldAddr 38 (.tmp 43) 2,0,none⟩,
 ⟨some 45,.load 3 (.tmp 44),3,none⟩,
 ⟨some 6,.assign (.tmp 45),3,none⟩,
 ⟨some 7,.assign (.const (.bool true)),4,none⟩] [0,3,4,5,6,7,8])
 (.skip [0,3,4,5,6,7,8])))) (sg c16S0))
def c16L0(_:Unit):Cmd:=(.seq (.seq (.ops [
 ⟨some 11,.move (.tmp 8),3,none⟩,
 ⟨some 12,.move (.tmp 0),22,none⟩,
 ⟨some 13,.call ⟨.builtin .len,#[(.tmp 12)],#[22]⟩,3,none⟩,
 ⟨some 14,.binOp .lss 3 (.tmp 11) (.tmp 13) 3,4,none⟩] [0,3,4,5,6,7,8,14])
 (.cond (.tmp 14)
 (.skip [0,3,4,5,6,7,8])
 (.exit 2 [0,3,6,7]))) (sg c16S1))
def c16S2(_:Unit):Cmd:=(.ops [
 ⟨some 53,.move (.tmp 10),3,none⟩,
 ⟨some 54,.binOp .add 3 (.tmp 53) (.const (.int .i64 1)) 3,3,none⟩,
 ⟨some 10,.assign (.tmp 54),3,none⟩] [0,3,6,9,10])
def c16S3(_:Unit):Cmd:=(.seq (.block 5 (.seq (.ops [
 ⟨some 55,.move (.tmp 0),22,none⟩,
 ⟨some 56,.move (.tmp 10),3,none⟩,
 ⟨some 57,.indexAddr 22 (.tmp 55) (.tmp 56),0,none⟩,
 ⟨some 58,.fieldAddr 38 (.tmp 57) 2,0,none⟩,
 ⟨some 59,.load 3 (.tmp 58),3,none⟩,
 ⟨some 60,.move (.tmp 6),3,none⟩,
 ⟨some 61,.binOp .eql 3 (.tmp 59) (.tmp 60) 3,4,none⟩] [0,3,6,9,10,61])
 (.cond (.tmp 61)
 (.ops [
 ⟨some 62,.move (.tmp 9),22,none⟩,
 ⟨some 63,.move (.tmp 0),22,none⟩,
 ⟨some 64,.move (.tmp 10),3,none⟩,
 ⟨some 65,.indexAddr 22 (.tmp 63) (.tmp 64),0,none⟩,
 ⟨some 66,.load 38 (.tmp 65),38,none⟩,
 ⟨some 67,.buildSlice 22 1 #[(0,(.tmp 66))],22,none⟩,
 ⟨some 68,.call ⟨.builtin .append,#[(.tmp 62),(.tmp 67)],#[22,22]⟩,22,none⟩,
 ⟨some 9,.assign (.tmp 68),22,none⟩] [0,3,6,9,10])
 (.skip [0,3,6,9,10])))) (sg c16S2))
def c16L1(_:Unit):Cmd:=(.seq (.seq (.ops [
 ⟨some 49,.move (.tmp 10),3,none⟩,
 ⟨some 50,.move (.tmp 0),22,none⟩,
 ⟨some 51,.call ⟨.builtin .len,#[(.tmp 50)],#[22]⟩,3,none⟩,
 ⟨some 52,.binOp .lss 3 (.tmp 49) (.tmp 51) 3,4,none⟩] [0,3,6,9,10,52])
 (.cond (.tmp 52)
 (.skip [0,3,6,9,10])
 (.exit 4 [0,3,6,9]))) (sg c16S3))
def c16S4(_:Unit):Cmd:=(.ops [
 ⟨some 81,.move (.tmp 6),3,none⟩,
 ⟨some 4,.assign (.tmp 81),3,none⟩,
 ⟨some 5,.assign (.const (.bool true)),4,none⟩] [0,3,4,5])
def c16S5(_:Unit):Cmd:=(.seq (.ops [
 ⟨some 71,.move (.tmp 3),47,none⟩,
 ⟨some 72,.move (.tmp 6),3,none⟩,
 ⟨some 73,.move (.tmp 9),22,none⟩,
 ⟨some 74,.indexAddr 22 (.tmp 73) (.const (.int .i64 0)),0,none⟩,
 ⟨some 75,.fieldAddr 38 (.tmp 74) 3,0,none⟩,
 ⟨some 76,.load 3 (.tmp 75),3,none⟩,
 ⟨some 77,.move (.tmp 9),22,none⟩,
 ⟨some 78,.build 24 #[(0,(.tmp 72)),(1,(.tmp 76)),(2,(.tmp 77))],24,none⟩,
 ⟨some 79,.buildSlice 47 1 #[(0,(.tmp 78))],47,none⟩,
 ⟨some 80,.call ⟨.builtin .append,#[(.tmp 71),(.tmp 79)],#[47,47]⟩,47,none⟩,
 ⟨some 3,.assign (.tmp 80),47,none⟩] [0,3,6]) (sg c16S4))
def c16S6(_:Unit):Cmd:=(.seq (.ops [
 ⟨some 69,.move (.tmp 9),22,none⟩,
 ⟨some 70,.call ⟨.value (.func 30),#[(.tmp 69)],#[22]⟩,22,none⟩,
 ⟨some 9,.assign (.tmp 70),22,none⟩] [0,3,6,9]) (sg c16S5))
def c16S7(_:Unit):Cmd:=(.seq (.ops [
 ⟨some 9,.assign (.const (.slice none 0 0)),22,none⟩] [0,3,6,9])
 (.seq (.seq (.ops [
 ⟨some 10,.assign (.const (.int .i64 0)),3,none⟩] [0,3,6,9,10])
 (.block 4 (.loop (sg c16L1)))) (sg c16S6)))
def c16S8(_:Unit):Cmd:=(.seq (.seq (.ops [
 ⟨some 46,.move (.tmp 7),4,none⟩,
 ⟨some 47,.unOp .not 4 (.tmp 46),4,none⟩] [0,3,6,47])
 (.cond (.tmp 47)
 (.seq (.ops [
 ⟨some 48,.move (.tmp 3),47,none⟩,
 ⟨some 2,.assign (.tmp 48),47,none⟩] [2])
 .ret)
 (.skip [0,3,6]))) (sg c16S7))
def c16L2(_:Unit):Cmd:=(.block 1 (.seq (.ops [
 ⟨some 6,.assign (.const (.int .i64 0)),3,none⟩,
 ⟨some 7,.assign (.const (.bool false)),4,none⟩] [0,3,4,5,6,7])
 (.seq (.seq (.ops [
 ⟨some 8,.assign (.const (.int .i64 0)),3,none⟩] [0,3,4,5,6,7,8])
 (.block 2 (.loop (sg c16L0)))) (sg c16S8))))
def c16:Cmd:=(.seq (.ops [
 ⟨some 2,.assign (.const (.slice none 0 0)),47,none⟩] [0])
 (.seq (.ops [
 ⟨some 3,.assign (.const (.slice none 0 0)),47,none⟩] [0,3])
 (.seq (.ops [
 ⟨some 4,.assign (.const (.int .i64 0)),3,none⟩,
 ⟨some 5,.assign (.const (.bool false)),4,none⟩] [0,3,4,5])
 (.block 0 (.loop (sg c16L2))))))
attribute [go_sem] c16 c16S0 c16S1 c16L0 c16S2 c16S3 c16L1 c16S4 c16S5 c16L2
theorem ent16(a0:Value)(w:World)(K:Value→World→Prop)(h:W Tryz.prog c16 [(0,a0)] w (finQ Tryz.prog [.tmp 2] K)):Ret Tryz.prog 16 [a0] w K :=
 Ret_of_W (code:=c16code) Tryz.func16 (by kernel_rfl) (by kernel_rfl) (of_decide_eq_true (by kernel_rfl)) h
@[go_sem] theorem go16:goFunc Tryz.prog 16=true:=by kernel_rfl
def c17code:Code:=match Tryz.f17.body with | some c=>c | none=>.skip
def c17S0(_:Unit):Cmd:=(.seq (.ops [
 ⟨some 15,.move (.tmp 6),29,none⟩,
 ⟨some 16,.binOp .neq 29 (.tmp 15) (.const (.int .i64 0)) 29,4,none⟩] [0,1,6,16])
 (.cond (.tmp 16)
 (.seq (.ops [
 ⟨some 17,.move (.tmp 6),29,none⟩,
 ⟨some 4,.assign (.const (.slice none 0 0)),49,none⟩,
 ⟨some 5,.assign (.tmp 17),29,none⟩] [4,5])
 .ret)
 (.skip [0,1])))
def c17S1(_:Unit):Cmd:=(.seq (.ops [
 ⟨some 35,.move (.tmp 11),4,none⟩] [1,7,10,19,20,21,35])
 (.cond (.tmp 35)
 (.ops [
 ⟨some 36,.move (.tmp 7),49,none⟩,
 ⟨some 37,.load 28 (.tmp 10),28,none⟩,
 ⟨some 38,.buildSlice 49 1 #[(0,(.tmp 37))],49,none⟩,
 ⟨some 39,.call ⟨.builtin .append,#[(.tmp 36),(.tmp 38)],#[49,49]⟩,49,none⟩,
 ⟨some 7,.assign (.tmp 39),49,none⟩] [1,7,19,20,21])
 (.skip [1,7,19,20,21])))
def c17S2(_:Unit):Cmd:=(.seq (.seq (.ops [
 ⟨some 32,.move (.tmp 12),29,none⟩,
 ⟨some 33,.binOp .neq 29 (.tmp 32) (.const (.int .i64 0)) 29,4,none⟩] [1,7,10,11,12,19,20,21,33])
 (.cond (.tmp 33)
 (.seq (.ops [
 ⟨some 34,.move (.tmp 12),29,none⟩,
 ⟨some 4,.assign (.const (.slice none 0 0)),49,none⟩,
 ⟨some 5,.assign (.tmp 34),29,none⟩] [4,5])
 .ret)
 (.skip [1,7,10,11,19,20,21]))) (sg c17S1))
def c17S3(_:Unit):Cmd:=(.ops [
 ⟨some 40,.binOp .add 3 (.tmp 21) (.const (.int .i64 1)) 3,3,none⟩,
 ⟨some 21,.move (.tmp 40),3,none⟩] [1,7,19,20,21])
def c17S4(_:Unit):Cmd:=(.seq (.block 1 (.seq (.ops [
 ⟨some 23,.indexAddr 47 (.tmp 19) (.tmp 21),0,none⟩,
 ⟨some 24,.load 24 (.tmp 23),24,none⟩,
 ⟨some 9,.alloc 24,0,none⟩,
 ⟨none,.store 24 (.tmp 9) (.tmp 24),0,none⟩] [1,7,9,19,20,21])
 (.seq (.ops [
 ⟨some 26,.load 24 (.tmp 9),24,none⟩,
 ⟨some 27,.move (.tmp 1),3,none⟩,
 ⟨some 28,.call ⟨.value (.func 9),#[(.tmp 26),(.tmp 27)],#[24,3]⟩,30,none⟩,
 ⟨some 25,.move (.tmp 28),30,none⟩,
 ⟨some 29,.extract (.tmp 25) 0,28,none⟩,
 ⟨some 30,.extract (.tmp 25) 1,4,none⟩,
 ⟨some 31,.extract (.tmp 25) 2,29,none⟩,
 ⟨some 10,.alloc 28,0,none⟩,
 ⟨none,.store 28 (.tmp 10) (.tmp 29),0,none⟩,
 ⟨some 11,.assign (.tmp 30),4,none⟩,
 ⟨some 12,.assign (.tmp 31),29,none⟩] [1,7,10,11,12,19,20,21]) (sg c17S2)))) (sg c17S3))
def c17L0(_:Unit):Cmd:=(.seq (.ops [
 ⟨some 22,.binOp .lss 3 (.tmp 21) (.tmp 20) 3,0,none⟩] [1,7,19,20,21,22])
 (.seq (.cond (.tmp 22)
 (.skip [1,7,19,20,21])
 (.exit 0 [7])) (sg c17S4)))
def c17S5(_:Unit):Cmd:=(.block 0 (.loop (sg c17L0)))
def c17S6(_:Unit):Cmd:=(.seq (.ops [
 ⟨some 41,.move (.tmp 7),49,none⟩,
 ⟨some 4,.assign (.tmp 41),49,none⟩,
 ⟨some 5,.assign (.const (.int .i64 0)),29,none⟩] [4,5])
 .ret)
def c17S7(_:Unit):Cmd:=(.seq (.ops [
 ⟨some 7,.assign (.const (.slice none 0 0)),49,none⟩] [0,1,7])
 (.seq (.seq (.ops [
 ⟨some 18,.move (.tmp 0),22,none⟩,
 ⟨some 19,.call ⟨.value (.func 32),#[(.tmp 18)],#[22]⟩,47,none⟩,
 ⟨some 20,.call ⟨.builtin .len,#[(.tmp 19)],#[47]⟩,3,none⟩,
 ⟨some 21,.move (.const (.int .i64 0)),3,none⟩] [1,7,19,20,21]) (sg c17S5)) (sg c17S6)))
def c17:Cmd:=(.seq (.ops [
 ⟨some 4,.assign (.const (.slice none 0 0)),49,none⟩,
 ⟨some 5,.assign (.const (.int .i64 0)),29,none⟩] [0,1])
 (.seq (.seq (.ops [
 ⟨some 13,.move (.tmp 0),22,none⟩,
 ⟨some 14,.call ⟨.value (.func 31),#[(.tmp 13)],#[22]⟩,29,none⟩,
 ⟨some 6,.assign (.tmp 14),29,none⟩] [0,1,6]) (sg c17S0)) (sg c17S7)))
attribute [go_sem] c17 c17S3 c17S4 c17L0 c17S7
theorem ent17(a0 a1:Value)(w:World)(K:Value→World→Prop)(h:W Tryz.prog c17 [(0,a0),(1,a1)] w (finQ Tryz.prog [.tmp 4,.tmp 5] K)):Ret Tryz.prog 17 [a0,a1] w K :=
 Ret_of_W (code:=c17code) Tryz.func17 (by kernel_rfl) (by kernel_rfl) (of_decide_eq_true (by kernel_rfl)) h
@[go_sem] theorem go17:goFunc Tryz.prog 17=true:=by kernel_rfl
def c18code:Code:=match Tryz.f18.body with | some c=>c | none=>.skip
def c18S0(_:Unit):Cmd:=.ret
def c18S1(_:Unit):Cmd:=(.cond (.tmp 14)
 (.seq (.ops [
 ⟨some 15,.move (.tmp 0),22,none⟩,
 ⟨some 16,.call ⟨.value (.func 33),#[(.tmp 15)],#[22]⟩,3,none⟩,
 ⟨some 4,.assign (.const (.slice none 0 0)),52,none⟩,
 ⟨some 5,.assign (.tmp 16),3,none⟩] [4,5]) (sg c18S0))
 (.skip [0,1]))
def c18S2(_:Unit):Cmd:=(.seq (.ops [
 ⟨some 38,.move (.tmp 10),4,none⟩] [1,6,7,8,9,38])
 (.cond (.tmp 38)
 (.ops [
 ⟨some 39,.move (.tmp 6),52,none⟩,
 ⟨some 40,.load 32 (.tmp 9),32,none⟩,
 ⟨some 41,.buildSlice 52 1 #[(0,(.tmp 40))],52,none⟩,
 ⟨some 42,.call ⟨.builtin .append,#[(.tmp 39),(.tmp 41)],#[52,52]⟩,52,none⟩,
 ⟨some 6,.assign (.tmp 42),52,none⟩] [1,6,7,8])
 (.skip [1,6,7,8])))
def c18S3(_:Unit):Cmd:=(.seq (.seq (.ops [
 ⟨some 35,.move (.tmp 11),3,none⟩,
 ⟨some 36,.binOp .neq 3 (.tmp 35) (.const (.int .i64 0)) 3,4,none⟩] [1,6,7,8,9,10,11,36])
 (.cond (.tmp 36)
 (.seq (.ops [
 ⟨some 37,.move (.tmp 11),3,none⟩,
 ⟨some 4,.assign (.const (.slice none 0 0)),52,none⟩,
 ⟨some 5,.assign (.tmp 37),3,none⟩] [4,5])
 .ret)
 (.skip [1,6,7,8,9,10]))) (sg c18S2))
def c18S4(_:Unit):Cmd:=(.ops [
 ⟨some 23,.move (.tmp 8),3,none⟩,
 ⟨some 24,.binOp .add 3 (.tmp 23) (.const (.int .i64 1)) 3,3,none⟩,
 ⟨some 8,.assign (.tmp 24),3,none⟩] [1,6,7,8])
def c18S5(_:Unit):Cmd:=(.seq (.block 1 (.seq (.ops [
 ⟨some 26,.move (.tmp 7),47,none⟩,
 ⟨some 27,.move (.tmp 8),3,none⟩,
 ⟨some 28,.indexAddr 47 (.tmp 26) (.tmp 27),0,none⟩,
 ⟨some 29,.load 24 (.tmp 28),24,none⟩,
 ⟨some 30,.move (.tmp 1),3,none⟩,
 ⟨some 31,.call ⟨.value (.func 10),#[(.tmp 29),(.tmp 30)],#[24,3]⟩,33,none⟩,
 ⟨some 25,.move (.tmp 31),33,none⟩,
 ⟨some 32,.extract (.tmp 25) 0,32,none⟩,
 ⟨some 33,.extract (.tmp 25) 1,4,none⟩,
 ⟨some 34,.extract (.tmp 25) 2,3,none⟩,
 ⟨some 9,.alloc 32,0,none⟩,
 ⟨none,.store 32 (.tmp 9) (.tmp 32),0,none⟩,
 ⟨some 10,.assign (.tmp 33),4,none⟩,
 ⟨some 11,.assign (.tmp 34),3,none⟩] [1,6,7,8,9,10,11]) (sg c18S3))) (sg c18S4))
def c18L0(_:Unit):Cmd:=(.seq (.seq (.ops [
 ⟨some 19,.move (.tmp 8),3,none⟩,
 ⟨some 20,.move (.tmp 7),47,none⟩,
 ⟨some 21,.call ⟨.builtin .len,#[(.tmp 20)],#[47]⟩,3,none⟩,
 ⟨some 22,.binOp .lss 3 (.tmp 19) (.tmp 21) 3,4,none⟩] [1,6,7,8,22])
 (.cond (.tmp 22)
 (.skip [1,6,7,8])
 (.exit 0 [6]))) (sg c18S5))
def c18S6(_:Unit):Cmd:=(.seq (.ops [
 ⟨some 43,.move (.tmp 6),52,none⟩,
 ⟨some 4,.assign (.tmp 43),52,none⟩,
 ⟨some 5,.assign (.const (.int .i64 0)),3,none⟩] [4,5])
 .ret)
def c18S7(_:Unit):Cmd:=(.seq (.seq (.ops [
 ⟨some 8,.assign (.const (.int .i64 0)),3,none⟩] [1,6,7,8])
 (.block 0 (.loop (sg c18L0)))) (sg c18S6))
def c18S8(_:Unit):Cmd:=(.seq (.ops [
 ⟨some 6,.assign (.const (.slice none 0 0)),52,none⟩] [0,1,6])
 (.seq (.ops [
 ⟨some 17,.move (.tmp 0),22,none⟩,
 ⟨some 18,.call ⟨.value (.func 16),#[(.tmp 17)],#[22]⟩,47,none⟩,
 ⟨some 7,.assign (.tmp 18),47,none⟩] [1,6,7]) (sg c18S7)))
def c18:Cmd:=(.seq (.ops [
 ⟨some 4,.assign (.const (.slice none 0 0)),52,none⟩,
 ⟨some 5,.assign (.const (.int .i64 0)),3,none⟩] [0,1])
 (.seq (.seq (.ops [
 ⟨some 12,.move (.tmp 0),22,none⟩,
 ⟨some 13,.call ⟨.value (.func 33),#[(.tmp 12)],#[22]⟩,3,none⟩,
 ⟨some 14,.binOp .neq 3 (.tmp 13) (.const (.int .i64 0)) 3,4,none⟩] [0,1,14]) (sg c18S1)) (sg c18S8)))
attribute [go_sem] c18 c18S0 c18S4 c18S5 c18L0 c18S8
theorem ent18(a0 a1:Value)(w:World)(K:Value→World→Prop)(h:W Tryz.prog c18 [(0,a0),(1,a1)] w (finQ Tryz.prog [.tmp 4,.tmp 5] K)):Ret Tryz.prog 18 [a0,a1] w K :=
 Ret_of_W (code:=c18code) Tryz.func18 (by kernel_rfl) (by kernel_rfl) (of_decide_eq_true (by kernel_rfl)) h
@[go_sem] theorem go18:goFunc Tryz.prog 18=true:=by kernel_rfl
@[go_sem] theorem go19:goFunc Tryz.prog 19=true:=by kernel_rfl
@[go_sem] theorem go20:goFunc Tryz.prog 20=true:=by kernel_rfl
def c21code:Code:=match Tryz.f21.body with | some c=>c | none=>.skip
def c21S0(_:Unit):Cmd:=(.seq (.ops [
 ⟨some 46,.fieldAddr 77 (.tmp 8) 1,0,none⟩,
 ⟨some 47,.load 74 (.tmp 46),74,none⟩,
 ⟨some 5,.assign (.tmp 47),74,none⟩] [0,5,15,16,17])
 (.seq (.ops [
 ⟨some 48,.move (.tmp 5),74,none⟩,
 ⟨some 49,.call ⟨.builtin .len,#[(.tmp 48)],#[74]⟩,3,none⟩,
 ⟨some 50,.binOp .eql 3 (.tmp 49) (.const (.int .i64 0)) 3,4,none⟩] [0,5,15,16,17,50])
 (.cond (.tmp 50)
 (.seq (.ops [
 ⟨some 4,.assign (.const (.bool false)),4,none⟩] [4])
 .ret)
 (.skip [0,5,15,16,17]))))
def c21S1(_:Unit):Cmd:=(.seq (.draw (drawOps 1 c21code) [0,8,15,16,17]) (sg c21S0))
def c21S2(_:Unit):Cmd:=(.seq (.seq (.ops [
 ⟨some 31,.move (.tmp 9),29,none⟩,
 ⟨some 32,.binOp .neq 29 (.tmp 31) (.const (.int .i64 0)) 29,4,none⟩] [0,8,9,15,16,17,32])
 (.cond (.tmp 32)
 (.seq (.ops [
 ⟨some 33,.move (.tmp 0),57,none⟩,
 ⟨some 34,.move (.tmp 9),29,none⟩,
 ⟨some 35,.nilCheck (.tmp 33),0,none⟩,
 ⟨some 36,.fieldAddr 59 (.tmp 35) 2,0,none⟩,
 ⟨none,.store 29 (.tmp 36) (.tmp 34),0,none⟩] [])
 (.seq (.ops [
 ⟨some 4,.assign (.const (.bool true)),4,none⟩] [4])
 .ret))
 (.skip [0,8,15,16,17]))) (sg c21S1))
def c21S3(_:Unit):Cmd:=(.ops [
 ⟨some 51,.binOp .add 3 (.tmp 17) (.const (.int .i64 1)) 3,3,none⟩,
 ⟨some 17,.move (.tmp 51),3,none⟩] [0,5,15,16,17])
def c21S4(_:Unit):Cmd:=(.seq (.block 1 (.seq (.ops [
 ⟨some 19,.indexAddr 47 (.tmp 15) (.tmp 17),0,none⟩,
 ⟨some 20,.load 24 (.tmp 19),24,none⟩,
 ⟨some 7,.alloc 24,0,none⟩,
 ⟨none,.store 24 (.tmp 7) (.tmp 20),0,none⟩] [0,5,7,15,16,17])
 (.seq (.draw (drawOps 0 c21code) [0,8,9,15,16,17]) (sg c21S2)))) (sg c21S3))
def c21L0(_:Unit):Cmd:=(.seq (.ops [
 ⟨some 18,.binOp .lss 3 (.tmp 17) (.tmp 16) 3,0,none⟩] [0,5,15,16,17,18])
 (.seq (.cond (.tmp 18)
 (.skip [0,5,15,16,17])
 (.exit 0 [])) (sg c21S4)))
def c21S5(_:Unit):Cmd:=(.block 0 (.loop (sg c21L0)))
def c21S6(_:Unit):Cmd:=(.seq (.ops [
 ⟨some 4,.assign (.const (.bool true)),4,none⟩] [4])
 .ret)
def c21S7(_:Unit):Cmd:=(.seq (.seq (.ops [
 ⟨some 14,.load 24 (.tmp 3),24,none⟩,
 ⟨some 15,.call ⟨.value (.func 36),#[(.tmp 14)],#[24]⟩,47,none⟩,
 ⟨some 16,.call ⟨.builtin .len,#[(.tmp 15)],#[47]⟩,3,none⟩,
 ⟨some 17,.move (.const (.int .i64 0)),3,none⟩] [0,5,15,16,17]) (sg c21S5)) (sg c21S6))
def c21:Cmd:=(.seq (.ops [
 ⟨some 3,.box 24 (.tmp 1),0,none⟩,
 ⟨some 4,.assign (.const (.bool false)),4,none⟩] [0,3])
 (.seq (.ops [
 ⟨some 10,.fieldAddr 24 (.tmp 3) 1,0,none⟩,
 ⟨some 11,.load 3 (.tmp 10),3,none⟩,
 ⟨some 12,.call ⟨.value (.func 35),#[(.tmp 11)],#[3]⟩,66,none⟩,
 ⟨some 13,.buildSlice 74 1 #[(0,(.tmp 12))],74,none⟩,
 ⟨some 5,.assign (.tmp 13),74,none⟩] [0,3,5]) (sg c21S7)))
attribute [go_sem] c21 c21S0 c21S1 c21S3 c21S4 c21L0 c21S5
def c21D0:GT:=(.one 0 ⟨some 23,.move (.tmp 5),74,none⟩
 (.one 0 ⟨some 24,.move (.tmp 0),57,none⟩
 (.one 0 ⟨some 25,.nilCheck (.tmp 24),0,none⟩
 (.one 0 ⟨some 26,.fieldAddr 59 (.tmp 25) 0,0,none⟩
 (.one 1 ⟨some 22,.load 24 (.tmp 7),24,none⟩
 (.one 1 ⟨some 27,.load 3 (.tmp 26),3,none⟩
 (.alt ⟨some 28,.call ⟨.value (.func 37),#[(.tmp 22),(.tmp 23),(.tmp 27)],#[24,74,3]⟩,78,none⟩
 (.one 0 ⟨some 21,.move (.tmp 28),78,none⟩
 (.one 0 ⟨some 29,.extract (.tmp 21) 0,77,none⟩
 (.one 0 ⟨some 30,.extract (.tmp 21) 1,29,none⟩
 (.one 2 ⟨some 8,.alloc 77,0,none⟩
 (.one 2 ⟨none,.store 77 (.tmp 8) (.tmp 29),0,none⟩
 (.one 0 ⟨some 9,.assign (.tmp 30),29,none⟩
 .nil))))))
 (.alt ⟨some 8,.alloc 77,0,none⟩
 (.one 2 ⟨some 28,.call ⟨.value (.func 37),#[(.tmp 22),(.tmp 23),(.tmp 27)],#[24,74,3]⟩,78,none⟩
 (.one 0 ⟨some 21,.move (.tmp 28),78,none⟩
 (.one 0 ⟨some 29,.extract (.tmp 21) 0,77,none⟩
 (.one 0 ⟨some 30,.extract (.tmp 21) 1,29,none⟩
 (.one 2 ⟨none,.store 77 (.tmp 8) (.tmp 29),0,none⟩
 (.one 0 ⟨some 9,.assign (.tmp 30),29,none⟩
 .nil))))))
 .stop))))))))
theorem c21draw0{L:List Nat}{ρ:Env}{w:World}{Q:Post}(S:World→Prop)(hS:S w.drew)(h:DT Tryz.prog S c21D0 L ρ w.drew Q):drawW Tryz.prog (drawOps 0 c21code) L ρ w Q :=
 drawW_tree [0,5] (.one 0 1 (.one 0 2 (.one 0 3 (.one 0 4 (.one 1 0 (.one 1 5 (.alt 6 (.one 0 7 (.one 0 8 (.one 0 9 (.one 2 10 (.one 2 11 (.one 0 12 .nil)))))) (.alt 10 (.one 2 6 (.one 0 7 (.one 0 8 (.one 0 9 (.one 2 11 (.one 0 12 .nil)))))) .stop)))))))) c21D0 (by kernel_rfl) (by kernel_rfl) (by kernel_rfl) S hS h
def c21D1:List (Nat × Ins):=[
 (0,⟨some 37,.move (.tmp 0),57,none⟩),
 (0,⟨some 38,.nilCheck (.tmp 37),0,none⟩),
 (0,⟨some 39,.fieldAddr 59 (.tmp 38) 0,0,none⟩),
 (0,⟨some 41,.fieldAddr 77 (.tmp 8) 2,0,none⟩),
 (1,⟨some 40,.load 3 (.tmp 39),3,none⟩),
 (2,⟨some 42,.load 3 (.tmp 41),3,none⟩),
 (0,⟨some 43,.binOp .sub 3 (.tmp 40) (.tmp 42) 3,3,none⟩),
 (0,⟨some 44,.nilCheck (.tmp 37),0,none⟩),
 (0,⟨some 45,.fieldAddr 59 (.tmp 44) 0,0,none⟩),
 (3,⟨none,.store 3 (.tmp 45) (.tmp 43),0,none⟩)]
theorem c21draw1{L:List Nat}{ρ:Env}{w:World}{Q:Post}(S:World→Prop)(hS:S w.drew)(h:DG Tryz.prog S c21D1 L ρ w.drew Q):drawW Tryz.prog (drawOps 1 c21code) L ρ w Q :=
 drawW_held [3] [(0,0),(0,1),(0,2),(0,4),(1,3),(2,5),(0,6),(0,7),(0,8),(3,9)] c21D1 (by kernel_rfl) (by kernel_rfl) (by kernel_rfl) S hS h
theorem ent21(a0 a1:Value)(w:World)(K:Value→World→Prop)(h:W Tryz.prog c21 [(0,a0),(1,a1)] w (finQ Tryz.prog [.tmp 4] K)):Ret Tryz.prog 21 [a0,a1] w K :=
 Ret_of_W (code:=c21code) Tryz.func21 (by kernel_rfl) (by kernel_rfl) (of_decide_eq_true (by kernel_rfl)) h
@[go_sem] theorem go21:goFunc Tryz.prog 21=true:=by kernel_rfl
def c22code:Code:=match Tryz.f22.body with | some c=>c | none=>.skip
def c22S0(_:Unit):Cmd:=(.cond (.tmp 40)
 (.ops [
 ⟨some 41,.load 24 (.tmp 8),24,none⟩,
 ⟨none,.store 24 (.tmp 3) (.tmp 41),0,none⟩] [2,3,4])
 (.skip [2,3,4]))
def c22S1(_:Unit):Cmd:=(.seq (.ops [
 ⟨some 42,.load 57 (.tmp 2),57,none⟩,
 ⟨some 43,.nilCheck (.tmp 42),0,none⟩,
 ⟨some 44,.fieldAddr 59 (.tmp 43) 2,0,none⟩,
 ⟨some 45,.load 29 (.tmp 44),29,none⟩,
 ⟨some 46,.binOp .neq 29 (.tmp 45) (.const (.int .i64 0)) 29,4,none⟩] [3,4,46])
 (.cond (.tmp 46)
 (.seq (.ops [
 ⟨some 47,.load 24 (.tmp 3),24,none⟩,
 ⟨none,.store 24 (.tmp 4) (.tmp 47),0,none⟩] [])
 .ret)
 (.skip [])))
def c22S2(_:Unit):Cmd:=(.seq (.ops [
 ⟨some 30,.load 57 (.tmp 2),57,none⟩,
 ⟨some 31,.nilCheck (.tmp 30),0,none⟩,
 ⟨some 32,.fieldAddr 59 (.tmp 31) 1,0,none⟩,
 ⟨some 33,.load 3 (.tmp 32),3,none⟩,
 ⟨some 34,.binOp .add 3 (.tmp 33) (.const (.int .i64 1)) 3,3,none⟩,
 ⟨some 35,.nilCheck (.tmp 30),0,none⟩,
 ⟨some 36,.fieldAddr 59 (.tmp 35) 1,0,none⟩,
 ⟨none,.store 3 (.tmp 36) (.tmp 34),0,none⟩] [2,3,4,8])
 (.seq (.seq (.ops [
 ⟨some 37,.load 57 (.tmp 2),57,none⟩,
 ⟨some 38,.load 24 (.tmp 8),24,none⟩,
 ⟨some 39,.call ⟨.value (.func 21),#[(.tmp 37),(.tmp 38)],#[57,24]⟩,4,none⟩,
 ⟨some 40,.unOp .not 4 (.tmp 39),4,none⟩] [2,3,4,8,40]) (sg c22S0)) (sg c22S1)))
def c22A0(_:Unit):Cmd:=(.ops [
 ⟨some 7,.assign (.tmp 26),3,none⟩] [2,3,4,7])
def c22B0(_:Unit):Cmd:=(.block 3 (.seq (.ops [
 ⟨some 27,.load 24 (.tmp 3),24,none⟩,
 ⟨some 28,.move (.tmp 7),3,none⟩,
 ⟨some 29,.call ⟨.value (.func 29),#[(.tmp 27),(.tmp 28)],#[24,3]⟩,24,none⟩,
 ⟨some 8,.alloc 24,0,none⟩,
 ⟨none,.store 24 (.tmp 8) (.tmp 29),0,none⟩] [2,3,4,8]) (sg c22S2)))
def c22S3(_:Unit):Cmd:=(.block 2 (.rangeF (.tmp 24) [25,26] (sg c22A0) (sg c22B0) [2,3,4,5]))
def c22S4(_:Unit):Cmd:=(.block 1 (.seq (.ops [
 ⟨some 18,.fieldAddr 24 (.tmp 3) 2,0,none⟩,
 ⟨some 19,.load 22 (.tmp 18),22,none⟩,
 ⟨some 20,.call ⟨.builtin .len,#[(.tmp 19)],#[22]⟩,3,none⟩,
 ⟨some 5,.assign (.tmp 20),3,none⟩] [2,3,4,5])
 (.seq (.ops [
 ⟨some 21,.fieldAddr 24 (.tmp 3) 2,0,none⟩,
 ⟨some 22,.load 22 (.tmp 21),22,none⟩,
 ⟨some 23,.call ⟨.value (.func 39),#[(.tmp 22)],#[22]⟩,66,none⟩,
 ⟨some 24,.call ⟨.value (.func 38),#[(.tmp 23)],#[66]⟩,81,none⟩] [2,3,4,5,24]) (sg c22S3))))
def c22L1(_:Unit):Cmd:=(.seq (.seq (.ops [
 ⟨some 13,.fieldAddr 24 (.tmp 3) 2,0,none⟩,
 ⟨some 14,.load 22 (.tmp 13),22,none⟩,
 ⟨some 15,.call ⟨.builtin .len,#[(.tmp 14)],#[22]⟩,3,none⟩,
 ⟨some 16,.move (.tmp 5),3,none⟩,
 ⟨some 17,.binOp .lss 3 (.tmp 15) (.tmp 16) 3,4,none⟩] [2,3,4,17])
 (.cond (.tmp 17)
 (.skip [2,3,4])
 (.exit 0 [3,4]))) (sg c22S4))
def c22S5(_:Unit):Cmd:=(.seq (.ops [
 ⟨some 48,.load 24 (.tmp 3),24,none⟩,
 ⟨none,.store 24 (.tmp 4) (.tmp 48),0,none⟩] [4])
 .ret)
def c22:Cmd:=(.seq (.ops [
 ⟨some 2,.box 57 (.tmp 0),0,none⟩,
 ⟨some 3,.box 24 (.tmp 1),0,none⟩,
 ⟨some 4,.alloc 24,0,none⟩] [2,3,4])
 (.seq (.seq (.ops [
 ⟨some 9,.fieldAddr 24 (.tmp 3) 2,0,none⟩,
 ⟨some 10,.load 22 (.tmp 9),22,none⟩,
 ⟨some 11,.call ⟨.builtin .len,#[(.tmp 10)],#[22]⟩,3,none⟩,
 ⟨some 12,.binOp .add 3 (.tmp 11) (.const (.int .i64 1)) 3,3,none⟩,
 ⟨some 5,.assign (.tmp 12),3,none⟩] [2,3,4,5])
 (.block 0 (.loop (sg c22L1)))) (sg c22S5)))
attribute [go_sem] c22 c22A0 c22B0 c22S4 c22L1
theorem ent22(a0 a1:Value)(w:World)(K:Value→World→Prop)(h:W Tryz.prog c22 [(0,a0),(1,a1)] w (finQ Tryz.prog [.cell 4 24] K)):Ret Tryz.prog 22 [a0,a1] w K :=
 Ret_of_W (code:=c22code) Tryz.func22 (by kernel_rfl) (by kernel_rfl) (of_decide_eq_true (by kernel_rfl)) h
@[go_sem] theorem go22:goFunc Tryz.prog 22=true:=by kernel_rfl
def c23code:Code:=match Tryz.f23.body with | some c=>c | none=>.skip
def c23S0(_:Unit):Cmd:=(.seq (.ops [
 ⟨some 8,.move (.tmp 3),22,none⟩,
 ⟨some 2,.assign (.tmp 8),22,none⟩] [2])
 .ret)
def c23S1(_:Unit):Cmd:=(.seq (.ops [
 ⟨some 6,.move (.tmp 3),22,none⟩,
 ⟨some 7,.call ⟨.value (.func 41),#[(.tmp 6),(.func 42)],#[22,85]⟩,0,none⟩] [3]) (sg c23S0))
def c23:Cmd:=(.seq (.ops [
 ⟨some 2,.assign (.const (.slice none 0 0)),22,none⟩] [0])
 (.seq (.ops [
 ⟨some 4,.move (.tmp 0),22,none⟩,
 ⟨some 5,.call ⟨.value (.func 40),#[(.tmp 4)],#[22]⟩,22,none⟩,
 ⟨some 3,.assign (.tmp 5),22,none⟩] [3]) (sg c23S1)))
attribute [go_sem] c23
theorem ent23(a0:Value)(w:World)(K:Value→World→Prop)(h:W Tryz.prog c23 [(0,a0)] w (finQ Tryz.prog [.tmp 2] K)):Ret Tryz.prog 23 [a0] w K :=
 Ret_of_W (code:=c23code) Tryz.func23 (by kernel_rfl) (by kernel_rfl) (of_decide_eq_true (by kernel_rfl)) h
@[go_sem] theorem go23:goFunc Tryz.prog 23=true:=by kernel_rfl
def c24code:Code:=match Tryz.f24.body with | some c=>c | none=>.skip
def c24S0(_:Unit):Cmd:=(.seq (.ops [
 ⟨some 36,.move (.tmp 1),3,none⟩,
 ⟨some 37,.fieldAddr 77 (.tmp 8) 2,0,none⟩,
 ⟨some 38,.load 3 (.tmp 37),3,none⟩,
 ⟨some 39,.binOp .sub 3 (.tmp 36) (.tmp 38) 3,3,none⟩,
 ⟨some 1,.assign (.tmp 39),3,none⟩] [1,4,6,7,8])
 (.seq (.ops [
 ⟨some 40,.fieldAddr 77 (.tmp 8) 1,0,none⟩,
 ⟨some 41,.load 74 (.tmp 40),74,none⟩,
 ⟨some 5,.assign (.tmp 41),74,none⟩] [1,4,5,6,7])
 (.seq (.ops [
 ⟨some 42,.move (.tmp 5),74,none⟩,
 ⟨some 43,.call ⟨.builtin .len,#[(.tmp 42)],#[74]⟩,3,none⟩,
 ⟨some 44,.binOp .eql 3 (.tmp 43) (.const (.int .i64 0)) 3,4,none⟩] [1,4,5,6,7,44])
 (.cond (.tmp 44)
 (.seq (.ops [
 ⟨some 45,.move (.tmp 1),3,none⟩,
 ⟨some 46,.build 63 #[(1,(.tmp 45))],63,none⟩,
 ⟨none,.store 63 (.tmp 4) (.tmp 46),0,none⟩] [4])
 .ret)
 (.skip [1,4,5,6,7])))))
def c24S1(_:Unit):Cmd:=(.seq (.seq (.ops [
 ⟨some 32,.move (.tmp 9),3,none⟩,
 ⟨some 33,.binOp .neq 3 (.tmp 32) (.const (.int .i64 0)) 3,4,none⟩] [1,4,6,7,8,9,33])
 (.cond (.tmp 33)
 (.seq (.ops [
 ⟨some 34,.move (.tmp 9),3,none⟩,
 ⟨some 35,.build 63 #[(2,(.tmp 34))],63,none⟩,
 ⟨none,.store 63 (.tmp 4) (.tmp 35),0,none⟩] [4])
 .ret)
 (.skip [1,4,6,7,8]))) (sg c24S0))
def c24S2(_:Unit):Cmd:=(.ops [
 ⟨some 20,.move (.tmp 7),3,none⟩,
 ⟨some 21,.binOp .add 3 (.tmp 20) (.const (.int .i64 1)) 3,3,none⟩,
 ⟨some 7,.assign (.tmp 21),3,none⟩] [1,4,5,6,7])
def c24S3(_:Unit):Cmd:=(.seq (.block 1 (.seq (.ops [
 ⟨some 23,.move (.tmp 6),47,none⟩,
 ⟨some 24,.move (.tmp 7),3,none⟩,
 ⟨some 25,.indexAddr 47 (.tmp 23) (.tmp 24),0,none⟩,
 ⟨some 26,.load 24 (.tmp 25),24,none⟩,
 ⟨some 27,.move (.tmp 5),74,none⟩,
 ⟨some 28,.move (.tmp 1),3,none⟩,
 ⟨some 29,.call ⟨.value (.func 46),#[(.tmp 26),(.tmp 27),(.tmp 28)],#[24,74,3]⟩,86,none⟩,
 ⟨some 22,.move (.tmp 29),86,none⟩,
 ⟨some 30,.extract (.tmp 22) 0,77,none⟩,
 ⟨some 31,.extract (.tmp 22) 1,3,none⟩,
 ⟨some 8,.alloc 77,0,none⟩,
 ⟨none,.store 77 (.tmp 8) (.tmp 30),0,none⟩,
 ⟨some 9,.assign (.tmp 31),3,none⟩] [1,4,6,7,8,9]) (sg c24S1))) (sg c24S2))
def c24L0(_:Unit):Cmd:=(.seq (.seq (.ops [
 ⟨some 16,.move (.tmp 7),3,none⟩,
 ⟨some 17,.move (.tmp 6),47,none⟩,
 ⟨some 18,.call ⟨.builtin .len,#[(.tmp 17)],#[47]⟩,3,none⟩,
 ⟨some 19,.binOp .lss 3 (.tmp 16) (.tmp 18) 3,4,none⟩] [1,4,5,6,7,19])
 (.cond (.tmp 19)
 (.skip [1,4,5,6,7])
 (.exit 0 [1,4]))) (sg c24S3))
def c24S4(_:Unit):Cmd:=(.seq (.ops [
 ⟨some 47,.move (.tmp 1),3,none⟩,
 ⟨some 48,.build 63 #[(0,(.const (.bool true))),(1,(.tmp 47))],63,none⟩,
 ⟨none,.store 63 (.tmp 4) (.tmp 48),0,none⟩] [4])
 .ret)
def c24S5(_:Unit):Cmd:=(.seq (.seq (.ops [
 ⟨some 7,.assign (.const (.int .i64 0)),3,none⟩] [1,4,5,6,7])
 (.block 0 (.loop (sg c24L0)))) (sg c24S4))
def c24S6(_:Unit):Cmd:=(.seq (.ops [
 ⟨some 14,.load 24 (.tmp 2),24,none⟩,
 ⟨some 15,.call ⟨.value (.func 45),#[(.tmp 14)],#[24]⟩,47,none⟩,
 ⟨some 6,.assign (.tmp 15),47,none⟩] [1,4,5,6]) (sg c24S5))
def c24:Cmd:=(.seq (.ops [
 ⟨some 2,.box 24 (.tmp 0),0,none⟩,
 ⟨some 4,.alloc 63,0,none⟩] [1,2,4])
 (.seq (.ops [
 ⟨some 10,.fieldAddr 24 (.tmp 2) 1,0,none⟩,
 ⟨some 11,.load 3 (.tmp 10),3,none⟩,
 ⟨some 12,.call ⟨.value (.func 44),#[(.tmp 11)],#[3]⟩,66,none⟩,
 ⟨some 13,.buildSlice 74 1 #[(0,(.tmp 12))],74,none⟩,
 ⟨some 5,.assign (.tmp 13),74,none⟩] [1,2,4,5]) (sg c24S6)))
attribute [go_sem] c24 c24S0 c24S2 c24S3 c24L0
theorem ent24(a0 a1:Value)(w:World)(K:Value→World→Prop)(h:W Tryz.prog c24 [(0,a0),(1,a1)] w (finQ Tryz.prog [.cell 4 63] K)):Ret Tryz.prog 24 [a0,a1] w K :=
 Ret_of_W (code:=c24code) Tryz.func24 (by kernel_rfl) (by kernel_rfl) (of_decide_eq_true (by kernel_rfl)) h
@[go_sem] theorem go24:goFunc Tryz.prog 24=true:=by kernel_rfl
def c25code:Code:=match Tryz.f25.body with | some c=>c | none=>.skip
def c25S0(_:Unit):Cmd:=(.ops [
 ⟨some 9,.move (.tmp 4),3,none⟩,
 ⟨some 10,.binOp .add 3 (.tmp 9) (.const (.int .i64 1)) 3,3,none⟩,
 ⟨some 4,.assign (.tmp 10),3,none⟩] [0,3,4])
def c25S1(_:Unit):Cmd:=(.seq (.block 1 (.ops [
 ⟨some 11,.move (.tmp 3),22,none⟩,
 ⟨some 12,.move (.tmp 0),22,none⟩,
 ⟨some 13,.move (.tmp 4),3,none⟩,
 ⟨some 14,.indexAddr 22 (.tmp 12) (.tmp 13),0,none⟩,
 ⟨some 15,.load 38 (.tmp 14),38,none⟩,
 ⟨some 16,.call ⟨.value (.func 47),#[(.tmp 11),(.tmp 15)],#[22,38]⟩,22,none⟩,
 ⟨some 3,.assign (.tmp 16),22,none⟩] [0,3,4])) (sg c25S0))
def c25L0(_:Unit):Cmd:=(.seq (.seq (.ops [
 ⟨some 5,.move (.tmp 4),3,none⟩,
 ⟨some 6,.move (.tmp 0),22,none⟩,
 ⟨some 7,.call ⟨.builtin .len,#[(.tmp 6)],#[22]⟩,3,none⟩,
 ⟨some 8,.binOp .lss 3 (.tmp 5) (.tmp 7) 3,4,none⟩] [0,3,4,8])
 (.cond (.tmp 8)
 (.skip [0,3,4])
 (.exit 0 [3]))) (sg c25S1))
def c25S2(_:Unit):Cmd:=(.seq (.ops [
 ⟨some 17,.move (.tmp 3),22,none⟩,
 ⟨some 2,.assign (.tmp 17),22,none⟩] [2])
 .ret)
def c25:Cmd:=(.seq (.ops [
 ⟨some 2,.assign (.const (.slice none 0 0)),22,none⟩] [0])
 (.seq (.ops [
 ⟨some 3,.assign (.const (.slice none 0 0)),22,none⟩] [0,3])
 (.seq (.seq (.ops [
 ⟨some 4,.assign (.const (.int .i64 0)),3,none⟩] [0,3,4])
 (.block 0 (.loop (sg c25L0)))) (sg c25S2))))
attribute [go_sem] c25 c25S0 c25S1 c25L0
theorem ent25(a0:Value)(w:World)(K:Value→World→Prop)(h:W Tryz.prog c25 [(0,a0)] w (finQ Tryz.prog [.tmp 2] K)):Ret Tryz.prog 25 [a0] w K :=
 Ret_of_W (code:=c25code) Tryz.func25 (by kernel_rfl) (by kernel_rfl) (of_decide_eq_true (by kernel_rfl)) h
@[go_sem] theorem go25:goFunc Tryz.prog 25=true:=by kernel_rfl
def c26code:Code:=match Tryz.f26.body with | some c=>c | none=>.skip
def c26S0(_:Unit):Cmd:=(.cond (.tmp 25)
 (.seq (.ops [
 ⟨some 4,.assign (.const (.bool false)),4,none⟩] [4])
 .ret)
 (.skip [0,1,5]))
def c26S1(_:Unit):Cmd:=(.ops [
 ⟨some 15,.move (.tmp 5),3,none⟩,
 ⟨some 16,.binOp .add 3 (.tmp 15) (.const (.int .i64 1)) 3,3,none⟩,
 ⟨some 5,.assign (.tmp 16),3,none⟩] [0,1,5])
def c26S2(_:Unit):Cmd:=(.seq (.block 1 (.seq (.draw (drawOps 0 c26code) [0,1,5,25]) (sg c26S0))) (sg c26S1))
def c26L0(_:Unit):Cmd:=(.seq (.seq (.ops [
 ⟨some 11,.move (.tmp 5),3,none⟩,
 ⟨some 12,.move (.tmp 0),22,none⟩,
 ⟨some 13,.call ⟨.builtin .len,#[(.tmp 12)],#[22]⟩,3,none⟩,
 ⟨some 14,.binOp .lss 3 (.tmp 11) (.tmp 13) 3,4,none⟩] [0,1,5,14])
 (.cond (.tmp 14)
 (.skip [0,1,5])
 (.exit 0 []))) (sg c26S2))
def c26S3(_:Unit):Cmd:=(.seq (.ops [
 ⟨some 4,.assign (.const (.bool true)),4,none⟩] [4])
 .ret)
def c26S4(_:Unit):Cmd:=(.seq (.seq (.ops [
 ⟨some 5,.assign (.const (.int .i64 0)),3,none⟩] [0,1,5])
 (.block 0 (.loop (sg c26L0)))) (sg c26S3))
def c26:Cmd:=(.seq (.ops [
 ⟨some 4,.assign (.const (.bool false)),4,none⟩] [0,1])
 (.seq (.seq (.ops [
 ⟨some 6,.move (.tmp 0),22,none⟩,
 ⟨some 7,.call ⟨.builtin .len,#[(.tmp 6)],#[22]⟩,3,none⟩,
 ⟨some 8,.move (.tmp 1),22,none⟩,
 ⟨some 9,.call ⟨.builtin .len,#[(.tmp 8)],#[22]⟩,3,none⟩,
 ⟨some 10,.binOp .neq 3 (.tmp 7) (.tmp 9) 3,4,none⟩] [0,1,10])
 (.cond (.tmp 10)
 (.seq (.ops [
 ⟨some 4,.assign (.const (.bool false)),4,none⟩] [4])
 .ret)
 (.skip [0,1]))) (sg c26S4)))
attribute [go_sem] c26 c26S0 c26S1 c26S2 c26L0 c26S3 c26S4
def c26D0:List (Bool × Ins):=[
 (true,⟨some 17,.move (.tmp 0),22,none⟩),
 (true,⟨some 18,.move (.tmp 5),3,none⟩),
 (true,⟨some 19,.indexAddr 22 (.tmp 17) (.tmp 18),0,none⟩),
 (false,⟨some 20,.load 38 (.tmp 19),38,none⟩),
 (true,⟨some 21,.move (.tmp 1),22,none⟩),
 (true,⟨some 22,.move (.tmp 5),3,none⟩),
 (true,⟨some 23,.indexAddr 22 (.tmp 21) (.tmp 22),0,none⟩),
 (false,⟨some 24,.load 38 (.tmp 23),38,none⟩),
 (true,⟨some 25,.binOp .neq 38 (.tmp 20) (.tmp 24) 38,4,none⟩)]
theorem c26draw0{L:List Nat}{ρ:Env}{w:World}{Q:Post}(h:DL Tryz.prog c26D0 L ρ w.drew Q):drawW Tryz.prog (drawOps 0 c26code) L ρ w Q :=
 drawW_still [true,true,true,false,true,true,true,false,true] c26D0 (by kernel_rfl) (by kernel_rfl) (by kernel_rfl) h
theorem ent26(a0 a1:Value)(w:World)(K:Value→World→Prop)(h:W Tryz.prog c26 [(0,a0),(1,a1)] w (finQ Tryz.prog [.tmp 4] K)):Ret Tryz.prog 26 [a0,a1] w K :=
 Ret_of_W (code:=c26code) Tryz.func26 (by kernel_rfl) (by kernel_rfl) (of_decide_eq_true (by kernel_rfl)) h
@[go_sem] theorem go26:goFunc Tryz.prog 26=true:=by kernel_rfl
def c27code:Code:=match Tryz.f27.body with | some c=>c | none=>.skip
def c27S0(_:Unit):Cmd:=(.seq (.ops [
 ⟨some 21,.fieldAddr 38 (.tmp 6) 3,0,none⟩,
 ⟨some 22,.load 3 (.tmp 21),3,none⟩,
 ⟨some 23,.binOp .eql 3 (.tmp 22) (.const (.int .i64 2)) 3,4,none⟩] [3,4,8,9,10,23])
 (.cond (.tmp 23)
 (.seq (.ops [
 ⟨some 24,.move (.tmp 4),3,none⟩,
 ⟨some 25,.binOp .add 3 (.tmp 24) (.const (.int .i64 1)) 3,3,none⟩,
 ⟨some 4,.assign (.tmp 25),3,none⟩] [3,4,8,9,10])
 (.ops [
 ⟨some 26,.move (.tmp 3),66,none⟩,
 ⟨some 27,.move (.tmp 4),3,none⟩,
 ⟨some 28,.move (.tmp 4),3,none⟩,
 ⟨some 29,.unOp .neg 3 (.tmp 28),3,none⟩,
 ⟨some 30,.buildSlice 66 2 #[(0,(.tmp 27)),(1,(.tmp 29))],66,none⟩,
 ⟨some 31,.call ⟨.builtin .append,#[(.tmp 26),(.tmp 30)],#[66,66]⟩,66,none⟩,
 ⟨some 3,.assign (.tmp 31),66,none⟩] [3,4,8,9,10]))
 (.skip [3,4,8,9,10])))
def c27S1(_:Unit):Cmd:=(.ops [
 ⟨some 32,.binOp .add 3 (.tmp 10) (.const (.int .i64 1)) 3,3,none⟩,
 ⟨some 10,.move (.tmp 32),3,none⟩] [3,4,8,9,10])
def c27S2(_:Unit):Cmd:=(.seq (.block 1 (.seq (.ops [
 ⟨some 12,.indexAddr 22 (.tmp 8) (.tmp 10),0,none⟩,
 ⟨some 13,.load 38 (.tmp 12),38,none⟩,
 ⟨some 6,.alloc 38,0,none⟩,
 ⟨none,.store 38 (.tmp 6) (.tmp 13),0,none⟩] [3,4,6,8,9,10])
 (.seq (.ops [
 ⟨some 14,.move (.tmp 3),66,none⟩,
 ⟨some 15,.fieldAddr 38 (.tmp 6) 5,0,none⟩,
 ⟨some 16,.load 3 (.tmp 15),3,none⟩,
 ⟨some 17,.fieldAddr 38 (.tmp 6) 6,0,none⟩,
 ⟨some 18,.load 3 (.tmp 17),3,none⟩,
 ⟨some 19,.buildSlice 66 2 #[(0,(.tmp 16)),(1,(.tmp 18))],66,none⟩,
 ⟨some 20,.call ⟨.builtin .append,#[(.tmp 14),(.tmp 19)],#[66,66]⟩,66,none⟩,
 ⟨some 3,.assign (.tmp 20),66,none⟩] [3,4,6,8,9,10]) (sg c27S0)))) (sg c27S1))
def c27L0(_:Unit):Cmd:=(.seq (.ops [
 ⟨some 11,.binOp .lss 3 (.tmp 10) (.tmp 9) 3,0,none⟩] [3,4,8,9,10,11])
 (.seq (.cond (.tmp 11)
 (.skip [3,4,8,9,10])
 (.exit 0 [3])) (sg c27S2)))
def c27S3(_:Unit):Cmd:=.ret
def c27S4(_:Unit):Cmd:=(.seq (.ops [
 ⟨some 35,.move (.tmp 3),66,none⟩,
 ⟨some 36,.call ⟨.value (.func 49),#[(.tmp 35)],#[66]⟩,66,none⟩,
 ⟨some 2,.assign (.tmp 36),66,none⟩] [2]) (sg c27S3))
def c27S5(_:Unit):Cmd:=(.seq (.ops [
 ⟨some 33,.move (.tmp 3),66,none⟩,
 ⟨some 34,.call ⟨.value (.func 48),#[(.tmp 33)],#[66]⟩,0,none⟩] [3]) (sg c27S4))
def c27:Cmd:=(.seq (.ops [
 ⟨some 2,.assign (.const (.slice none 0 0)),66,none⟩] [0])
 (.seq (.ops [
 ⟨some 7,.buildSlice 66 1 #[(0,(.const (.int .i64 0)))],66,none⟩,
 ⟨some 3,.assign (.tmp 7),66,none⟩] [0,3])
 (.seq (.ops [
 ⟨some 4,.assign (.const (.int .i64 0)),3,none⟩] [0,3,4])
 (.seq (.seq (.ops [
 ⟨some 8,.move (.tmp 0),22,none⟩,
 ⟨some 9,.call ⟨.builtin .len,#[(.tmp 8)],#[22]⟩,3,none⟩,
 ⟨some 10,.move (.const (.int .i64 0)),3,none⟩] [3,4,8,9,10])
 (.block 0 (.loop (sg c27L0)))) (sg c27S5)))))
attribute [go_sem] c27 c27S1 c27S2 c27L0 c27S3
theorem ent27(a0:Value)(w:World)(K:Value→World→Prop)(h:W Tryz.prog c27 [(0,a0)] w (finQ Tryz.prog [.tmp 2] K)):Ret Tryz.prog 27 [a0] w K :=
 Ret_of_W (code:=c27code) Tryz.func27 (by kernel_rfl) (by kernel_rfl) (of_decide_eq_true (by kernel_rfl)) h
@[go_sem] theorem go27:goFunc Tryz.prog 27=true:=by kernel_rfl
def c28code:Code:=match Tryz.f28.body with | some c=>c | none=>.skip
def c28S0(_:Unit):Cmd:=.ret
def c28S1(_:Unit):Cmd:=(.cond (.tmp 16)
 (.seq (.ops [
 ⟨some 21,.buildSlice 66 2 #[(0,(.const (.int .i64 0))),(1,(.const (.int .i64 1)))],66,none⟩,
 ⟨some 4,.assign (.tmp 21),66,none⟩] [4])
 .ret)
 (.skip []))
def c28S2(_:Unit):Cmd:=(.cond (.tmp 10)
 (.seq (.ops [
 ⟨some 13,.buildSlice 66 1 #[(0,(.const (.int .i64 (-1))))],66,none⟩,
 ⟨some 14,.move (.tmp 1),66,none⟩,
 ⟨some 15,.call ⟨.builtin .append,#[(.tmp 13),(.tmp 14)],#[66,66]⟩,66,none⟩,
 ⟨some 4,.assign (.tmp 15),66,none⟩] [4]) (sg c28S0))
 (.seq (.seq (.ops [
 ⟨some 17,.binOp .eql 3 (.tmp 6) (.const (.int .i64 3)) 3,4,none⟩,
 ⟨some 16,.assign (.tmp 17),4,none⟩] [6,16])
 (.cond (.tmp 16)
 (.skip [16])
 (.seq (.ops [
 ⟨some 18,.binOp .eql 3 (.tmp 6) (.const (.int .i64 10)) 3,4,none⟩,
 ⟨some 16,.assign (.tmp 18),4,none⟩] [6,16])
 (.cond (.tmp 16)
 (.skip [16])
 (.seq (.ops [
 ⟨some 19,.binOp .eql 3 (.tmp 6) (.const (.int .i64 11)) 3,4,none⟩,
 ⟨some 16,.assign (.tmp 19),4,none⟩] [6,16])
 (.cond (.tmp 16)
 (.skip [16])
 (.ops [
 ⟨some 20,.binOp .eql 3 (.tmp 6) (.const (.int .i64 12)) 3,4,none⟩,
 ⟨some 16,.assign (.tmp 20),4,none⟩] [16]))))))) (sg c28S1)))
def c28S3(_:Unit):Cmd:=(.seq (.ops [
 ⟨some 22,.buildSlice 66 1 #[(0,(.const (.int .i64 0)))],66,none⟩,
 ⟨some 4,.assign (.tmp 22),66,none⟩] [4])
 .ret)
def c28:Cmd:=(.seq (.ops [
 ⟨some 2,.box 38 (.tmp 0),0,none⟩,
 ⟨some 4,.assign (.const (.slice none 0 0)),66,none⟩] [1,2])
 (.seq (.seq (.ops [
 ⟨some 5,.fieldAddr 38 (.tmp 2) 4,0,none⟩,
 ⟨some 6,.load 3 (.tmp 5),3,none⟩] [1,6])
 (.block 0 (.seq (.ops [
 ⟨some 8,.binOp .eql 3 (.tmp 6) (.const (.int .i64 1)) 3,4,none⟩,
 ⟨some 7,.assign (.tmp 8),4,none⟩] [1,6,7])
 (.cond (.tmp 7)
 (.seq (.ops [
 ⟨some 9,.move (.tmp 1),66,none⟩,
 ⟨some 4,.assign (.tmp 9),66,none⟩] [4])
 .ret)
 (.seq (.seq (.ops [
 ⟨some 11,.binOp .eql 3 (.tmp 6) (.const (.int .i64 7)) 3,4,none⟩,
 ⟨some 10,.assign (.tmp 11),4,none⟩] [1,6,10])
 (.cond (.tmp 10)
 (.skip [1,6,10])
 (.ops [
 ⟨some 12,.binOp .eql 3 (.tmp 6) (.const (.int .i64 9)) 3,4,none⟩,
 ⟨some 10,.assign (.tmp 12),4,none⟩] [1,6,10]))) (sg c28S2)))))) (sg c28S3)))
attribute [go_sem] c28 c28S0 c28S1 c28S2 c28S3
theorem ent28(a0 a1:Value)(w:World)(K:Value→World→Prop)(h:W Tryz.prog c28 [(0,a0),(1,a1)] w (finQ Tryz.prog [.tmp 4] K)):Ret Tryz.prog 28 [a0,a1] w K :=
 Ret_of_W (code:=c28code) Tryz.func28 (by kernel_rfl) (by kernel_rfl) (of_decide_eq_true (by kernel_rfl)) h
@[go_sem] theorem go28:goFunc Tryz.prog 28=true:=by kernel_rfl
def c29code:Code:=match Tryz.f29.body with | some c=>c | none=>.skip
def c29S0(_:Unit):Cmd:=(.seq (.ops [
 ⟨some 11,.load 24 (.tmp 2),24,none⟩,
 ⟨none,.store 24 (.tmp 4) (.tmp 11),0,none⟩] [4])
 .ret)
def c29:Cmd:=(.seq (.ops [
 ⟨some 2,.box 24 (.tmp 0),0,none⟩,
 ⟨some 3,.box 3 (.tmp 1),0,none⟩,
 ⟨some 4,.alloc 24,0,none⟩] [2,3,4])
 (.seq (.ops [
 ⟨some 5,.fieldAddr 24 (.tmp 2) 2,0,none⟩,
 ⟨some 6,.load 22 (.tmp 5),22,none⟩,
 ⟨some 7,.call ⟨.value (.func 40),#[(.tmp 6)],#[22]⟩,22,none⟩,
 ⟨some 8,.makeFunc (.func 51) #[] #[(.tmp 3)],92,none⟩,
 ⟨some 9,.call ⟨.value (.func 50),#[(.tmp 7),(.tmp 8)],#[22,92]⟩,22,none⟩,
 ⟨some 10,.fieldAddr 24 (.tmp 2) 2,0,none⟩,
 ⟨none,.store 22 (.tmp 10) (.tmp 9),0,none⟩] [2,4]) (sg c29S0)))
attribute [go_sem] c29
theorem ent29(a0 a1:Value)(w:World)(K:Value→World→Prop)(h:W Tryz.prog c29 [(0,a0),(1,a1)] w (finQ Tryz.prog [.cell 4 24] K)):Ret Tryz.prog 29 [a0,a1] w K :=
 Ret_of_W (code:=c29code) Tryz.func29 (by kernel_rfl) (by kernel_rfl) (of_decide_eq_true (by kernel_rfl)) h
@[go_sem] theorem go29:goFunc Tryz.prog 29=true:=by kernel_rfl
def c30code:Code:=match Tryz.f30.body with | some c=>c | none=>.skip
def c30S0(_:Unit):Cmd:=(.cond (.tmp 55)
 (.skip [0,3,4,5])
 (.exit 2 [0,3,4,5]))
def c30S1(_:Unit):Cmd:=(.block 3 (.ops [
 ⟨some 56,.move (.tmp 5),3,none⟩,
 ⟨some 57,.binOp .add 3 (.tmp 56) (.const (.int .i64 1)) 3,3,none⟩,
 ⟨some 5,.assign (.tmp 57),3,none⟩] [0,3,4,5]))
def c30L0(_:Unit):Cmd:=(.seq (.seq (.draw (drawOps 0 c30code) [0,3,4,5,55]) (sg c30S0)) (sg c30S1))
def c30S2(_:Unit):Cmd:=(.ops [
 ⟨some 70,.move (.tmp 6),22,none⟩,
 ⟨some 71,.move (.tmp 3),22,none⟩,
 ⟨some 72,.move (.tmp 5),3,none⟩,
 ⟨some 73,.slice 22 (.tmp 71) (some (.tmp 72)) none none,22,none⟩,
 ⟨some 74,.call ⟨.builtin .append,#[(.tmp 70),(.tmp 73)],#[22,22]⟩,22,none⟩,
 ⟨some 3,.assign (.tmp 74),22,none⟩] [0,3,4])
def c30S3(_:Unit):Cmd:=(.seq (.ops [
 ⟨some 63,.move (.tmp 6),22,none⟩,
 ⟨some 64,.move (.tmp 0),22,none⟩,
 ⟨some 65,.move (.tmp 4),3,none⟩,
 ⟨some 66,.indexAddr 22 (.tmp 64) (.tmp 65),0,none⟩,
 ⟨some 67,.load 38 (.tmp 66),38,none⟩,
 ⟨some 68,.buildSlice 22 1 #[(0,(.tmp 67))],22,none⟩,
 ⟨some 69,.call ⟨.builtin .append,#[(.tmp 63),(.tmp 68)],#[22,22]⟩,22,none⟩,
 ⟨some 6,.assign (.tmp 69),22,none⟩] [0,3,4,5,6]) (sg c30S2))
def c30S4(_:Unit):Cmd:=(.seq (.ops [
 ⟨some 58,.buildSlice 22 0 #[],22,none⟩,
 ⟨some 59,.move (.tmp 3),22,none⟩,
 ⟨some 60,.move (.tmp 5),3,none⟩,
 ⟨some 61,.slice 22 (.tmp 59) none (some (.tmp 60)) none,22,none⟩,
 ⟨some 62,.call ⟨.builtin .append,#[(.tmp 58),(.tmp 61)],#[22,22]⟩,22,none⟩,
 ⟨some 6,.assign (.tmp 62),22,none⟩] [0,3,4,5,6]) (sg c30S3))
def c30S5(_:Unit):Cmd:=(.ops [
 ⟨some 11,.move (.tmp 4),3,none⟩,
 ⟨some 12,.binOp .add 3 (.tmp 11) (.const (.int .i64 1)) 3,3,none⟩,
 ⟨some 4,.assign (.tmp 12),3,none⟩] [0,3,4])
def c30S6(_:Unit):Cmd:=(.seq (.block 1 (.seq (.ops [
 ⟨some 5,.assign (.const (.int .i64 0)),3,none⟩] [0,3,4,5])
 (.seq (.block 2 (.loop (sg c30L0))) (sg c30S4)))) (sg c30S5))
def c30L1(_:Unit):Cmd:=(.seq (.seq (.ops [
 ⟨some 7,.move (.tmp 4),3,none⟩,
 ⟨some 8,.move (.tmp 0),22,none⟩,
 ⟨some 9,.call ⟨.builtin .len,#[(.tmp 8)],#[22]⟩,3,none⟩,
 ⟨some 10,.binOp .lss 3 (.tmp 7) (.tmp 9) 3,4,none⟩] [0,3,4,10])
 (.cond (.tmp 10)
 (.skip [0,3,4])
 (.exit 0 [3]))) (sg c30S6))
def c30S7(_:Unit):Cmd:=(.seq (.ops [
 ⟨some 75,.move (.tmp 3),22,none⟩,
 ⟨some 2,.assign (.tmp 75),22,none⟩] [2])
 .ret)
def c30:Cmd:=(.seq (.ops [
 ⟨some 2,.assign (.const (.slice none 0 0)),22,none⟩] [0])
 (.seq (.ops [
 ⟨some 3,.assign (.const (.slice none 0 0)),22,none⟩] [0,3])
 (.seq (.seq (.ops [
 ⟨some 4,.assign (.const (.int .i64 0)),3,none⟩] [0,3,4])
 (.block 0 (.loop (sg c30L1)))) (sg c30S7))))
attribute [go_sem] c30 c30S0 c30S1 c30L0 c30S2 c30S3 c30S5 c30S6 c30L1 c30S7
def c30D0:List (Bool × Ins):=[
 (true,⟨some 13,.move (.tmp 5),3,none⟩),
 (true,⟨some 14,.move (.tmp 3),22,none⟩),
 (true,⟨some 15,.call ⟨.builtin .len,#[(.tmp 14)],#[22]⟩,3,none⟩),
 (true,⟨some 16,.binOp .lss 3 (.tmp 13) (.tmp 15) 3,4,none⟩),
 (true,⟨some 17,.move (.tmp 16),4,none⟩),
 (true,⟨some 18,.move (.tmp 3),22,(some (17,true))⟩),
 (true,⟨some 19,.move (.tmp 5),3,(some (17,true))⟩),
 (true,⟨some 20,.indexAddr 22 (.tmp 18) (.tmp 19),0,(some (17,true))⟩),
 (true,⟨some 21,.fieldAddr 38 (.tmp 20) 9,0,(some (17,true))⟩),
 (false,⟨some 22,.load 3 (.tmp 21),3,(some (17,true))⟩),
 (true,⟨some 23,.move (.tmp 0),22,(some (17,true))⟩),
 (true,⟨some 24,.move (.tmp 4),3,(some (17,true))⟩),
 (true,⟨some 25,.indexAddr 22 (.tmp 23) (.tmp 24),0,(some (17,true))⟩),
 (true,⟨some 26,.fieldAddr 38 (.tmp 25) 9,0,(some (17,true))⟩),
 (false,⟨some 27,.load 3 (.tmp 26),3,(some (17,true))⟩),
 (true,⟨some 28,.binOp .lss 3 (.tmp 22) (.tmp 27) 3,4,(some (17,true))⟩),
 (true,⟨some 29,.move (.tmp 28),4,(some (17,true))⟩),
 (true,⟨some 30,.move (.tmp 3),22,(some (29,false))⟩),
 (true,⟨some 31,.move (.tmp 5),3,(some (29,false))⟩),
 (true,⟨some 32,.indexAddr 22 (.tmp 30) (.tmp 31),0,(some (29,false))⟩),
 (true,⟨some 33,.fieldAddr 38 (.tmp 32) 9,0,(some (29,false))⟩),
 (false,⟨some 34,.load 3 (.tmp 33),3,(some (29,false))⟩),
 (true,⟨some 35,.move (.tmp 0),22,(some (29,false))⟩),
 (true,⟨some 36,.move (.tmp 4),3,(some (29,false))⟩),
 (true,⟨some 37,.indexAddr 22 (.tmp 35) (.tmp 36),0,(some (29,false))⟩),
 (true,⟨some 38,.fieldAddr 38 (.tmp 37) 9,0,(some (29,false))⟩),
 (false,⟨some 39,.load 3 (.tmp 38),3,(some (29,false))⟩),
 (true,⟨some 40,.binOp .eql 3 (.tmp 34) (.tmp 39) 3,4,(some (29,false))⟩),
 (true,⟨some 41,.move (.tmp 40),4,(some (29,false))⟩),
 (true,⟨some 42,.move (.tmp 3),22,(some (41,true))⟩),
 (true,⟨some 43,.move (.tmp 5),3,(some (41,true))⟩),
 (true,⟨some 44,.indexAddr 22 (.tmp 42) (.tmp 43),0,(some (41,true))⟩),
 (true,⟨some 45,.fieldAddr 38 (.tmp 44) 0,0,(some (41,true))⟩),
 (false,⟨some 46,.load 3 (.tmp 45),3,(some (41,true))⟩),
 (true,⟨some 47,.move (.tmp 0),22,(some (41,true))⟩),
 (true,⟨some 48,.move (.tmp 4),3,(some (41,true))⟩),
 (true,⟨some 49,.indexAddr 22 (.tmp 47) (.tmp 48),0,(some (41,true))⟩),
 (true,⟨some 50,.fieldAddr 38 (.tmp 49) 0,0,(some (41,true))⟩),
 (false,⟨some 51,.load 3 (.tmp 50),3,(some (41,true))⟩),
 (true,⟨some 52,.binOp .leq 3 (.tmp 46) (.tmp 51) 3,4,(some (41,true))⟩),
 (true,⟨some 53,.pick (.tmp 41) (.tmp 52) (.const (.bool false)),4,(some (29,false))⟩),
 (true,⟨some 54,.pick (.tmp 29) (.const (.bool true)) (.tmp 53),4,(some (17,true))⟩),
 (true,⟨some 55,.pick (.tmp 17) (.tmp 54) (.const (.bool false)),4,none⟩)]
theorem c30draw0{L:List Nat}{ρ:Env}{w:World}{Q:Post}(h:DL Tryz.prog c30D0 L ρ w.drew Q):drawW Tryz.prog (drawOps 0 c30code) L ρ w Q :=
 drawW_still [true,true,true,true,true,true,true,true,true,false,true,true,true,true,false,true,true,true,true,true,true,false,true,true,true,true,false,true,true,true,true,true,true,false,true,true,true,true,false,true,true,true,true] c30D0 (by kernel_rfl) (by kernel_rfl) (by kernel_rfl) h
theorem ent30(a0:Value)(w:World)(K:Value→World→Prop)(h:W Tryz.prog c30 [(0,a0)] w (finQ Tryz.prog [.tmp 2] K)):Ret Tryz.prog 30 [a0] w K :=
 Ret_of_W (code:=c30code) Tryz.func30 (by kernel_rfl) (by kernel_rfl) (of_decide_eq_true (by kernel_rfl)) h
@[go_sem] theorem go30:goFunc Tryz.prog 30=true:=by kernel_rfl
def c31code:Code:=match Tryz.f31.body with | some c=>c | none=>.skip
def c31S0(_:Unit):Cmd:=(.seq (.ops [
 ⟨some 21,.move (.tmp 5),29,none⟩,
 ⟨some 22,.binOp .neq 29 (.tmp 21) (.const (.int .i64 0)) 29,4,none⟩] [0,3,4,5,12,13,14,22])
 (.cond (.tmp 22)
 (.seq (.ops [
 ⟨some 23,.move (.tmp 5),29,none⟩,
 ⟨some 2,.assign (.tmp 23),29,none⟩] [2])
 .ret)
 (.skip [0,3,4,12,13,14])))
def c31S1(_:Unit):Cmd:=(.cond (.tmp 36)
 (.seq (.ops [
 ⟨some 2,.assign (.const (.int .i64 7)),29,none⟩] [2])
 .ret)
 (.skip [0,12,13,14]))
def c31S2(_:Unit):Cmd:=(.seq (.draw (drawOps 0 c31code) [0,12,13,14,36]) (sg c31S1))
def c31S3(_:Unit):Cmd:=(.ops [
 ⟨some 37,.binOp .add 3 (.tmp 14) (.const (.int .i64 1)) 3,3,none⟩,
 ⟨some 14,.move (.tmp 37),3,none⟩] [0,12,13,14])
def c31S4(_:Unit):Cmd:=(.seq (.block 1 (.seq (.ops [
 ⟨some 16,.move (.tmp 14),3,none⟩,
 ⟨some 17,.indexAddr 22 (.tmp 12) (.tmp 14),0,none⟩,
 ⟨some 18,.load 38 (.tmp 17),38,none⟩,
 ⟨some 4,.alloc 38,0,none⟩,
 ⟨some 3,.assign (.tmp 16),3,none⟩,
 ⟨none,.store 38 (.tmp 4) (.tmp 18),0,none⟩] [0,3,4,12,13,14])
 (.seq (.seq (.ops [
 ⟨some 19,.load 38 (.tmp 4),38,none⟩,
 ⟨some 20,.call ⟨.value (.func 52),#[(.tmp 19)],#[38]⟩,29,none⟩,
 ⟨some 5,.assign (.tmp 20),29,none⟩] [0,3,4,5,12,13,14]) (sg c31S0)) (sg c31S2)))) (sg c31S3))
def c31L0(_:Unit):Cmd:=(.seq (.ops [
 ⟨some 15,.binOp .lss 3 (.tmp 14) (.tmp 13) 3,0,none⟩] [0,12,13,14,15])
 (.seq (.cond (.tmp 15)
 (.skip [0,12,13,14])
 (.exit 0 [0])) (sg c31S4)))
def c31S5(_:Unit):Cmd:=(.seq (.ops [
 ⟨some 47,.move (.tmp 8),29,none⟩,
 ⟨some 48,.binOp .neq 29 (.tmp 47) (.const (.int .i64 0)) 29,4,none⟩] [0,8,38,39,40,48])
 (.cond (.tmp 48)
 (.seq (.ops [
 ⟨some 49,.move (.tmp 8),29,none⟩,
 ⟨some 2,.assign (.tmp 49),29,none⟩] [2])
 .ret)
 (.skip [0,38,39,40])))
def c31S6(_:Unit):Cmd:=(.ops [
 ⟨some 50,.binOp .add 3 (.tmp 40) (.const (.int .i64 1)) 3,3,none⟩,
 ⟨some 40,.move (.tmp 50),3,none⟩] [0,38,39,40])
def c31S7(_:Unit):Cmd:=(.seq (.block 3 (.seq (.ops [
 ⟨some 42,.indexAddr 22 (.tmp 38) (.tmp 40),0,none⟩,
 ⟨some 43,.load 38 (.tmp 42),38,none⟩,
 ⟨some 7,.alloc 38,0,none⟩,
 ⟨none,.store 38 (.tmp 7) (.tmp 43),0,none⟩] [0,7,38,39,40])
 (.seq (.ops [
 ⟨some 44,.move (.tmp 0),22,none⟩,
 ⟨some 45,.load 38 (.tmp 7),38,none⟩,
 ⟨some 46,.call ⟨.value (.func 53),#[(.tmp 44),(.tmp 45)],#[22,38]⟩,29,none⟩,
 ⟨some 8,.assign (.tmp 46),29,none⟩] [0,8,38,39,40]) (sg c31S5)))) (sg c31S6))
def c31L1(_:Unit):Cmd:=(.seq (.ops [
 ⟨some 41,.binOp .lss 3 (.tmp 40) (.tmp 39) 3,0,none⟩] [0,38,39,40,41])
 (.seq (.cond (.tmp 41)
 (.skip [0,38,39,40])
 (.exit 2 [])) (sg c31S7)))
def c31S8(_:Unit):Cmd:=(.seq (.ops [
 ⟨some 2,.assign (.const (.int .i64 0)),29,none⟩] [2])
 .ret)
def c31S9(_:Unit):Cmd:=(.seq (.seq (.ops [
 ⟨some 38,.move (.tmp 0),22,none⟩,
 ⟨some 39,.call ⟨.builtin .len,#[(.tmp 38)],#[22]⟩,3,none⟩,
 ⟨some 40,.move (.const (.int .i64 0)),3,none⟩] [0,38,39,40])
 (.block 2 (.loop (sg c31L1)))) (sg c31S8))
def c31S10(_:Unit):Cmd:=(.seq (.seq (.ops [
 ⟨some 12,.move (.tmp 0),22,none⟩,
 ⟨some 13,.call ⟨.builtin .len,#[(.tmp 12)],#[22]⟩,3,none⟩,
 ⟨some 14,.move (.const (.int .i64 0)),3,none⟩] [0,12,13,14])
 (.block 0 (.loop (sg c31L0)))) (sg c31S9))
def c31:Cmd:=(.seq (.ops [
 ⟨some 2,.assign (.const (.int .i64 0)),29,none⟩] [0])
 (.seq (.seq (.ops [
 ⟨some 9,.move (.tmp 0),22,none⟩,
 ⟨some 10,.call ⟨.builtin .len,#[(.tmp 9)],#[22]⟩,3,none⟩,
 ⟨some 11,.binOp .gtr 3 (.tmp 10) (.const (.int .i64 64)) 3,4,none⟩] [0,11])
 (.cond (.tmp 11)
 (.seq (.ops [
 ⟨some 2,.assign (.const (.int .i64 34)),29,none⟩] [2])
 .ret)
 (.skip [0]))) (sg c31S10)))
attribute [go_sem] c31 c31S1 c31S2 c31S3 c31S4 c31L0 c31S6 c31S7 c31L1 c31S8 c31S10
def c31D0:List (Bool × Ins):=[
 (true,⟨some 24,.move (.tmp 3),3,none⟩),
 (true,⟨some 25,.binOp .gtr 3 (.tmp 24) (.const (.int .i64 0)) 3,4,none⟩),
 (true,⟨some 26,.move (.tmp 25),4,none⟩),
 (true,⟨some 27,.move (.tmp 0),22,(some (26,true))⟩),
 (true,⟨some 28,.move (.tmp 3),3,(some (26,true))⟩),
 (true,⟨some 29,.binOp .sub 3 (.tmp 28) (.const (.int .i64 1)) 3,3,(some (26,true))⟩),
 (true,⟨some 30,.indexAddr 22 (.tmp 27) (.tmp 29),0,(some (26,true))⟩),
 (true,⟨some 31,.fieldAddr 38 (.tmp 30) 0,0,(some (26,true))⟩),
 (false,⟨some 32,.load 3 (.tmp 31),3,(some (26,true))⟩),
 (true,⟨some 33,.fieldAddr 38 (.tmp 4) 0,0,(some (26,true))⟩),
 (false,⟨some 34,.load 3 (.tmp 33),3,(some (26,true))⟩),
 (true,⟨some 35,.binOp .geq 3 (.tmp 32) (.tmp 34) 3,4,(some (26,true))⟩),
 (true,⟨some 36,.pick (.tmp 26) (.tmp 35) (.const (.bool false)),4,none⟩)]
theorem c31draw0{L:List Nat}{ρ:Env}{w:World}{Q:Post}(h:DL Tryz.prog c31D0 L ρ w.drew Q):drawW Tryz.prog (drawOps 0 c31code) L ρ w Q :=
 drawW_still [true,true,true,true,true,true,true,true,false,true,false,true,true] c31D0 (by kernel_rfl) (by kernel_rfl) (by kernel_rfl) h
theorem ent31(a0:Value)(w:World)(K:Value→World→Prop)(h:W Tryz.prog c31 [(0,a0)] w (finQ Tryz.prog [.tmp 2] K)):Ret Tryz.prog 31 [a0] w K :=
 Ret_of_W (code:=c31code) Tryz.func31 (by kernel_rfl) (by kernel_rfl) (of_decide_eq_true (by kernel_rfl)) h
@[go_sem] theorem go31:goFunc Tryz.prog 31=true:=by kernel_rfl
def c32code:Code:=match Tryz.f32.body with | some c=>c | none=>.skip
def c32S0(_:Unit):Cmd:=(.ops [
 ⟨some 40,.move (.tmp 6),3,none⟩,
 ⟨some 41,.binOp .add 3 (.tmp 40) (.const (.int .i64 1)) 3,3,none⟩,
 ⟨some 6,.assign (.tmp 41),3,none⟩] [3,5,6,11,12,13])
def c32S1(_:Unit):Cmd:=(.cond (.tmp 31)
 (.seq (.ops [
 ⟨some 32,.move (.tmp 3),47,none⟩,
 ⟨some 33,.fieldAddr 38 (.tmp 5) 2,0,none⟩,
 ⟨some 34,.load 3 (.tmp 33),3,none⟩,
 ⟨some 35,.fieldAddr 38 (.tmp 5) 3,0,none⟩,
 ⟨some 36,.load 3 (.tmp 35),3,none⟩,
 ⟨some 37,.build 24 #[(0,(.tmp 34)),(1,(.tmp 36))],24,none⟩,
 ⟨some 38,.buildSlice 47 1 #[(0,(.tmp 37))],47,none⟩,
 ⟨some 39,.call ⟨.builtin .append,#[(.tmp 32),(.tmp 38)],#[47,47]⟩,47,none⟩,
 ⟨some 3,.assign (.tmp 39),47,none⟩] [3,5,6,11,12,13]) (sg c32S0))
 (.skip [3,5,6,11,12,13]))
def c32S2(_:Unit):Cmd:=(.draw (drawOps 1 c32code) [3,11,12,13])
def c32S3(_:Unit):Cmd:=(.ops [
 ⟨some 54,.binOp .add 3 (.tmp 13) (.const (.int .i64 1)) 3,3,none⟩,
 ⟨some 13,.move (.tmp 54),3,none⟩] [3,11,12,13])
def c32S4(_:Unit):Cmd:=(.seq (.block 1 (.seq (.ops [
 ⟨some 15,.indexAddr 22 (.tmp 11) (.tmp 13),0,none⟩,
 ⟨some 16,.load 38 (.tmp 15),38,none⟩,
 ⟨some 5,.alloc 38,0,none⟩,
 ⟨none,.store 38 (.tmp 5) (.tmp 16),0,none⟩] [3,5,11,12,13])
 (.seq (.ops [
 ⟨some 17,.move (.tmp 3),47,none⟩,
 ⟨some 18,.call ⟨.builtin .len,#[(.tmp 17)],#[47]⟩,3,none⟩,
 ⟨some 19,.binOp .sub 3 (.tmp 18) (.const (.int .i64 1)) 3,3,none⟩,
 ⟨some 6,.assign (.tmp 19),3,none⟩] [3,5,6,11,12,13])
 (.seq (.seq (.draw (drawOps 0 c32code) [3,5,6,11,12,13,31]) (sg c32S1)) (sg c32S2))))) (sg c32S3))
def c32L0(_:Unit):Cmd:=(.seq (.ops [
 ⟨some 14,.binOp .lss 3 (.tmp 13) (.tmp 12) 3,0,none⟩] [3,11,12,13,14])
 (.seq (.cond (.tmp 14)
 (.skip [3,11,12,13])
 (.exit 0 [3])) (sg c32S4)))
def c32S5(_:Unit):Cmd:=(.seq (.ops [
 ⟨some 55,.move (.tmp 3),47,none⟩,
 ⟨some 2,.assign (.tmp 55),47,none⟩] [2])
 .ret)
def c32S6(_:Unit):Cmd:=(.seq (.ops [
 ⟨some 3,.assign (.const (.slice none 0 0)),47,none⟩] [0,3])
 (.seq (.seq (.ops [
 ⟨some 11,.move (.tmp 0),22,none⟩,
 ⟨some 12,.call ⟨.builtin .len,#[(.tmp 11)],#[22]⟩,3,none⟩,
 ⟨some 13,.move (.const (.int .i64 0)),3,none⟩] [3,11,12,13])
 (.block 0 (.loop (sg c32L0)))) (sg c32S5)))
def c32S7(_:Unit):Cmd:=(.seq (.ops [
 ⟨some 9,.move (.tmp 0),22,none⟩,
 ⟨some 10,.call ⟨.value (.func 41),#[(.tmp 9),(.func 54)],#[22,85]⟩,0,none⟩] [0]) (sg c32S6))
def c32:Cmd:=(.seq (.ops [
 ⟨some 2,.assign (.const (.slice none 0 0)),47,none⟩] [0])
 (.seq (.ops [
 ⟨some 7,.move (.tmp 0),22,none⟩,
 ⟨some 8,.call ⟨.value (.func 40),#[(.tmp 7)],#[22]⟩,22,none⟩,
 ⟨some 0,.assign (.tmp 8),22,none⟩] [0]) (sg c32S7)))
attribute [go_sem] c32 c32S0 c32S3 c32S4 c32L0 c32S5 c32S6 c32S7
def c32D0:List (Bool × Ins):=[
 (true,⟨some 20,.move (.tmp 6),3,none⟩),
 (true,⟨some 21,.binOp .lss 3 (.tmp 20) (.const (.int .i64 0)) 3,4,none⟩),
 (true,⟨some 22,.move (.tmp 21),4,none⟩),
 (true,⟨some 23,.move (.tmp 3),47,(some (22,false))⟩),
 (true,⟨some 24,.move (.tmp 6),3,(some (22,false))⟩),
 (true,⟨some 25,.indexAddr 47 (.tmp 23) (.tmp 24),0,(some (22,false))⟩),
 (true,⟨some 26,.fieldAddr 24 (.tmp 25) 0,0,(some (22,false))⟩),
 (false,⟨some 27,.load 3 (.tmp 26),3,(some (22,false))⟩),
 (true,⟨some 28,.fieldAddr 38 (.tmp 5) 2,0,(some (22,false))⟩),
 (false,⟨some 29,.load 3 (.tmp 28),3,(some (22,false))⟩),
 (true,⟨some 30,.binOp .neq 3 (.tmp 27) (.tmp 29) 3,4,(some (22,false))⟩),
 (true,⟨some 31,.pick (.tmp 22) (.const (.bool true)) (.tmp 30),4,none⟩)]
theorem c32draw0{L:List Nat}{ρ:Env}{w:World}{Q:Post}(h:DL Tryz.prog c32D0 L ρ w.drew Q):drawW Tryz.prog (drawOps 0 c32code) L ρ w Q :=
 drawW_still [true,true,true,true,true,true,true,false,true,false,true,true] c32D0 (by kernel_rfl) (by kernel_rfl) (by kernel_rfl) h
def c32D1:List (Nat × Ins):=[
 (0,⟨some 42,.move (.tmp 3),47,none⟩),
 (0,⟨some 43,.move (.tmp 6),3,none⟩),
 (0,⟨some 44,.move (.tmp 3),47,none⟩),
 (0,⟨some 45,.move (.tmp 6),3,none⟩),
 (0,⟨some 46,.indexAddr 47 (.tmp 44) (.tmp 45),0,none⟩),
 (0,⟨some 47,.fieldAddr 24 (.tmp 46) 2,0,none⟩),
 (1,⟨some 48,.load 22 (.tmp 47),22,none⟩),
 (2,⟨some 49,.load 38 (.tmp 5),38,none⟩),
 (2,⟨some 50,.buildSlice 22 1 #[(0,(.tmp 49))],22,none⟩),
 (3,⟨some 51,.call ⟨.builtin .append,#[(.tmp 48),(.tmp 50)],#[22,22]⟩,22,none⟩),
 (0,⟨some 52,.indexAddr 47 (.tmp 42) (.tmp 43),0,none⟩),
 (0,⟨some 53,.fieldAddr 24 (.tmp 52) 2,0,none⟩),
 (3,⟨none,.store 22 (.tmp 53) (.tmp 51),0,none⟩)]
theorem c32draw1{L:List Nat}{ρ:Env}{w:World}{Q:Post}(S:World→Prop)(hS:S w.drew)(h:DG Tryz.prog S c32D1 L ρ w.drew Q):drawW Tryz.prog (drawOps 1 c32code) L ρ w Q :=
 drawW_held [6] [(0,0),(0,1),(0,2),(0,3),(0,4),(0,5),(1,6),(2,7),(2,8),(3,9),(0,10),(0,11),(3,12)] c32D1 (by kernel_rfl) (by kernel_rfl) (by kernel_rfl) S hS h
theorem ent32(a0:Value)(w:World)(K:Value→World→Prop)(h:W Tryz.prog c32 [(0,a0)] w (finQ Tryz.prog [.tmp 2] K)):Ret Tryz.prog 32 [a0] w K :=
 Ret_of_W (code:=c32code) Tryz.func32 (by kernel_rfl) (by kernel_rfl) (of_decide_eq_true (by kernel_rfl)) h
@[go_sem] theorem go32:goFunc Tryz.prog 32=true:=by kernel_rfl
def c33code:Code:=match Tryz.f33.body with | some c=>c | none=>.skip
def c33S0(_:Unit):Cmd:=(.cond (.tmp 39)
 (.seq (.ops [
 ⟨some 2,.assign (.const (.int .i64 7)),3,none⟩] [2])
 .ret)
 (.skip [0,3]))
def c33S1(_:Unit):Cmd:=(.seq (.draw (drawOps 0 c33code) [0,3,39]) (sg c33S0))
def c33S2(_:Unit):Cmd:=(.seq (.seq (.ops [
 ⟨some 21,.move (.tmp 4),3,none⟩,
 ⟨some 22,.binOp .neq 3 (.tmp 21) (.const (.int .i64 0)) 3,4,none⟩] [0,3,4,22])
 (.cond (.tmp 22)
 (.seq (.ops [
 ⟨some 23,.move (.tmp 4),3,none⟩,
 ⟨some 2,.assign (.tmp 23),3,none⟩] [2])
 .ret)
 (.skip [0,3]))) (sg c33S1))
def c33S3(_:Unit):Cmd:=(.ops [
 ⟨some 14,.move (.tmp 3),3,none⟩,
 ⟨some 15,.binOp .add 3 (.tmp 14) (.const (.int .i64 1)) 3,3,none⟩,
 ⟨some 3,.assign (.tmp 15),3,none⟩] [0,3])
def c33S4(_:Unit):Cmd:=(.seq (.block 1 (.seq (.ops [
 ⟨some 16,.move (.tmp 0),22,none⟩,
 ⟨some 17,.move (.tmp 3),3,none⟩,
 ⟨some 18,.indexAddr 22 (.tmp 16) (.tmp 17),0,none⟩,
 ⟨some 19,.load 38 (.tmp 18),38,none⟩,
 ⟨some 20,.call ⟨.value (.func 57),#[(.tmp 19)],#[38]⟩,3,none⟩,
 ⟨some 4,.assign (.tmp 20),3,none⟩] [0,3,4]) (sg c33S2))) (sg c33S3))
def c33L0(_:Unit):Cmd:=(.seq (.seq (.ops [
 ⟨some 10,.move (.tmp 3),3,none⟩,
 ⟨some 11,.move (.tmp 0),22,none⟩,
 ⟨some 12,.call ⟨.builtin .len,#[(.tmp 11)],#[22]⟩,3,none⟩,
 ⟨some 13,.binOp .lss 3 (.tmp 10) (.tmp 12) 3,4,none⟩] [0,3,13])
 (.cond (.tmp 13)
 (.skip [0,3])
 (.exit 0 [0]))) (sg c33S4))
def c33S5(_:Unit):Cmd:=(.seq (.ops [
 ⟨some 52,.move (.tmp 6),3,none⟩,
 ⟨some 53,.binOp .neq 3 (.tmp 52) (.const (.int .i64 0)) 3,4,none⟩] [0,5,6,53])
 (.cond (.tmp 53)
 (.seq (.ops [
 ⟨some 54,.move (.tmp 6),3,none⟩,
 ⟨some 2,.assign (.tmp 54),3,none⟩] [2])
 .ret)
 (.skip [0,5])))
def c33S6(_:Unit):Cmd:=(.ops [
 ⟨some 44,.move (.tmp 5),3,none⟩,
 ⟨some 45,.binOp .add 3 (.tmp 44) (.const (.int .i64 1)) 3,3,none⟩,
 ⟨some 5,.assign (.tmp 45),3,none⟩] [0,5])
def c33S7(_:Unit):Cmd:=(.seq (.block 3 (.seq (.ops [
 ⟨some 46,.move (.tmp 0),22,none⟩,
 ⟨some 47,.move (.tmp 0),22,none⟩,
 ⟨some 48,.move (.tmp 5),3,none⟩,
 ⟨some 49,.indexAddr 22 (.tmp 47) (.tmp 48),0,none⟩,
 ⟨some 50,.load 38 (.tmp 49),38,none⟩,
 ⟨some 51,.call ⟨.value (.func 58),#[(.tmp 46),(.tmp 50)],#[22,38]⟩,3,none⟩,
 ⟨some 6,.assign (.tmp 51),3,none⟩] [0,5,6]) (sg c33S5))) (sg c33S6))
def c33L1(_:Unit):Cmd:=(.seq (.seq (.ops [
 ⟨some 40,.move (.tmp 5),3,none⟩,
 ⟨some 41,.move (.tmp 0),22,none⟩,
 ⟨some 42,.call ⟨.builtin .len,#[(.tmp 41)],#[22]⟩,3,none⟩,
 ⟨some 43,.binOp .lss 3 (.tmp 40) (.tmp 42) 3,4,none⟩] [0,5,43])
 (.cond (.tmp 43)
 (.skip [0,5])
 (.exit 2 []))) (sg c33S7))
def c33S8(_:Unit):Cmd:=(.seq (.ops [
 ⟨some 2,.assign (.const (.int .i64 0)),3,none⟩] [2])
 .ret)
def c33S9(_:Unit):Cmd:=(.seq (.seq (.ops [
 ⟨some 5,.assign (.const (.int .i64 0)),3,none⟩] [0,5])
 (.block 2 (.loop (sg c33L1)))) (sg c33S8))
def c33S10(_:Unit):Cmd:=(.seq (.seq (.ops [
 ⟨some 3,.assign (.const (.int .i64 0)),3,none⟩] [0,3])
 (.block 0 (.loop (sg c33L0)))) (sg c33S9))
def c33:Cmd:=(.seq (.ops [
 ⟨some 2,.assign (.const (.int .i64 0)),3,none⟩] [0])
 (.seq (.seq (.ops [
 ⟨some 7,.move (.tmp 0),22,none⟩,
 ⟨some 8,.call ⟨.builtin .len,#[(.tmp 7)],#[22]⟩,3,none⟩,
 ⟨some 9,.binOp .gtr 3 (.tmp 8) (.const (.int .i64 64)) 3,4,none⟩] [0,9])
 (.cond (.tmp 9)
 (.seq (.ops [
 ⟨some 2,.assign (.const (.int .i64 34)),3,none⟩] [2])
 .ret)
 (.skip [0]))) (sg c33S10)))
attribute [go_sem] c33 c33S0 c33S1 c33S2 c33S3 c33S4 c33L0 c33S5 c33S6 c33S7 c33L1 c33S8 c33S9 c33S10
def c33D0:List (Bool × Ins):=[
 (true,⟨some 24,.move (.tmp 3),3,none⟩),
 (true,⟨some 25,.binOp .gtr 3 (.tmp 24) (.const (.int .i64 0)) 3,4,none⟩),
 (true,⟨some 26,.move (.tmp 25),4,none⟩),
 (true,⟨some 27,.move (.tmp 0),22,(some (26,true))⟩),
 (true,⟨some 28,.move (.tmp 3),3,(some (26,true))⟩),
 (true,⟨some 29,.indexAddr 22 (.tmp 27) (.tmp 28),0,(some (26,true))⟩),
 (true,⟨some 30,.fieldAddr 38 (.tmp 29) 0,0,(some (26,true))⟩),
 (false,⟨some 31,.load 3 (.tmp 30),3,(some (26,true))⟩),
 (true,⟨some 32,.move (.tmp 0),22,(some (26,true))⟩),
 (true,⟨some 33,.move (.tmp 3),3,(some (26,true))⟩),
 (true,⟨some 34,.binOp .sub 3 (.tmp 33) (.const (.int .i64 1)) 3,3,(some (26,true))⟩),
 (true,⟨some 35,.indexAddr 22 (.tmp 32) (.tmp 34),0,(some (26,true))⟩),
 (true,⟨some 36,.fieldAddr 38 (.tmp 35) 0,0,(some (26,true))⟩),
 (false,⟨some 37,.load 3 (.tmp 36),3,(some (26,true))⟩),
 (true,⟨some 38,.binOp .leq 3 (.tmp 31) (.tmp 37) 3,4,(some (26,true))⟩),
 (true,⟨some 39,.pick (.tmp 26) (.tmp 38) (.const (.bool false)),4,none⟩)]
theorem c33draw0{L:List Nat}{ρ:Env}{w:World}{Q:Post}(h:DL Tryz.prog c33D0 L ρ w.drew Q):drawW Tryz.prog (drawOps 0 c33code) L ρ w Q :=
 drawW_still [true,true,true,true,true,true,true,false,true,true,true,true,true,false,true,true] c33D0 (by kernel_rfl) (by kernel_rfl) (by kernel_rfl) h
theorem ent33(a0:Value)(w:World)(K:Value→World→Prop)(h:W Tryz.prog c33 [(0,a0)] w (finQ Tryz.prog [.tmp 2] K)):Ret Tryz.prog 33 [a0] w K :=
 Ret_of_W (code:=c33code) Tryz.func33 (by kernel_rfl) (by kernel_rfl) (of_decide_eq_true (by kernel_rfl)) h
@[go_sem] theorem go33:goFunc Tryz.prog 33=true:=by kernel_rfl
@[go_sem] theorem go34:goFunc Tryz.prog 34=true:=by kernel_rfl
def c35code:Code:=match Tryz.f35.body with | some c=>c | none=>.skip
def c35S0(_:Unit):Cmd:=(.cond (.tmp 4)
 (.seq (.ops [
 ⟨some 7,.buildSlice 66 1 #[(0,(.const (.int .i64 0)))],66,none⟩,
 ⟨some 2,.assign (.tmp 7),66,none⟩] [2])
 .ret)
 (.skip []))
def c35S1(_:Unit):Cmd:=(.seq (.ops [
 ⟨some 2,.assign (.const (.slice none 0 0)),66,none⟩] [2])
 .ret)
def c35:Cmd:=(.seq (.ops [
 ⟨some 2,.assign (.const (.slice none 0 0)),66,none⟩] [0])
 (.seq (.seq (.ops [
 ⟨some 3,.move (.tmp 0),3,none⟩] [3])
 (.block 0 (.seq (.seq (.ops [
 ⟨some 5,.binOp .eql 3 (.tmp 3) (.const (.int .i64 1)) 3,4,none⟩,
 ⟨some 4,.assign (.tmp 5),4,none⟩] [3,4])
 (.cond (.tmp 4)
 (.skip [4])
 (.ops [
 ⟨some 6,.binOp .eql 3 (.tmp 3) (.const (.int .i64 2)) 3,4,none⟩,
 ⟨some 4,.assign (.tmp 6),4,none⟩] [4]))) (sg c35S0)))) (sg c35S1)))
attribute [go_sem] c35 c35S0 c35S1
theorem ent35(a0:Value)(w:World)(K:Value→World→Prop)(h:W Tryz.prog c35 [(0,a0)] w (finQ Tryz.prog [.tmp 2] K)):Ret Tryz.prog 35 [a0] w K :=
 Ret_of_W (code:=c35code) Tryz.func35 (by kernel_rfl) (by kernel_rfl) (of_decide_eq_true (by kernel_rfl)) h
@[go_sem] theorem go35:goFunc Tryz.prog 35=true:=by kernel_rfl
def c36code:Code:=match Tryz.f36.body with | some c=>c | none=>.skip
def c36S0(_:Unit):Cmd:=(.ops [
 ⟨some 41,.move (.tmp 7),3,none⟩,
 ⟨some 42,.binOp .add 3 (.tmp 41) (.const (.int .i64 1)) 3,3,none⟩,
 ⟨some 7,.assign (.tmp 42),3,none⟩] [1,4,6,7,13,14,15])
def c36S1(_:Unit):Cmd:=(.cond (.tmp 32)
 (.seq (.ops [
 ⟨some 33,.move (.tmp 4),47,none⟩,
 ⟨some 34,.fieldAddr 24 (.tmp 1) 0,0,none⟩,
 ⟨some 35,.load 3 (.tmp 34),3,none⟩,
 ⟨some 36,.fieldAddr 24 (.tmp 1) 1,0,none⟩,
 ⟨some 37,.load 3 (.tmp 36),3,none⟩,
 ⟨some 38,.build 24 #[(0,(.tmp 35)),(1,(.tmp 37))],24,none⟩,
 ⟨some 39,.buildSlice 47 1 #[(0,(.tmp 38))],47,none⟩,
 ⟨some 40,.call ⟨.builtin .append,#[(.tmp 33),(.tmp 39)],#[47,47]⟩,47,none⟩,
 ⟨some 4,.assign (.tmp 40),47,none⟩] [1,4,6,7,13,14,15]) (sg c36S0))
 (.skip [1,4,6,7,13,14,15]))
def c36S2(_:Unit):Cmd:=(.draw (drawOps 1 c36code) [1,4,13,14,15])
def c36S3(_:Unit):Cmd:=(.ops [
 ⟨some 55,.binOp .add 3 (.tmp 15) (.const (.int .i64 1)) 3,3,none⟩,
 ⟨some 15,.move (.tmp 55),3,none⟩] [1,4,13,14,15])
def c36S4(_:Unit):Cmd:=(.seq (.block 1 (.seq (.ops [
 ⟨some 17,.indexAddr 22 (.tmp 13) (.tmp 15),0,none⟩,
 ⟨some 18,.load 38 (.tmp 17),38,none⟩,
 ⟨some 6,.alloc 38,0,none⟩,
 ⟨none,.store 38 (.tmp 6) (.tmp 18),0,none⟩] [1,4,6,13,14,15])
 (.seq (.ops [
 ⟨some 19,.move (.tmp 4),47,none⟩,
 ⟨some 20,.call ⟨.builtin .len,#[(.tmp 19)],#[47]⟩,3,none⟩,
 ⟨some 21,.binOp .sub 3 (.tmp 20) (.const (.int .i64 1)) 3,3,none⟩,
 ⟨some 7,.assign (.tmp 21),3,none⟩] [1,4,6,7,13,14,15])
 (.seq (.seq (.draw (drawOps 0 c36code) [1,4,6,7,13,14,15,32]) (sg c36S1)) (sg c36S2))))) (sg c36S3))
def c36L0(_:Unit):Cmd:=(.seq (.ops [
 ⟨some 16,.binOp .lss 3 (.tmp 15) (.tmp 14) 3,0,none⟩] [1,4,13,14,15,16])
 (.seq (.cond (.tmp 16)
 (.skip [1,4,13,14,15])
 (.exit 0 [4])) (sg c36S4)))
def c36S5(_:Unit):Cmd:=(.seq (.ops [
 ⟨some 56,.move (.tmp 4),47,none⟩,
 ⟨some 2,.assign (.tmp 56),47,none⟩] [2])
 .ret)
def c36S6(_:Unit):Cmd:=(.seq (.ops [
 ⟨some 4,.assign (.const (.slice none 0 0)),47,none⟩] [1,3,4])
 (.seq (.seq (.ops [
 ⟨some 13,.move (.tmp 3),22,none⟩,
 ⟨some 14,.call ⟨.builtin .len,#[(.tmp 13)],#[22]⟩,3,none⟩,
 ⟨some 15,.move (.const (.int .i64 0)),3,none⟩] [1,4,13,14,15])
 (.block 0 (.loop (sg c36L0)))) (sg c36S5)))
def c36S7(_:Unit):Cmd:=(.seq (.ops [
 ⟨some 11,.move (.tmp 3),22,none⟩,
 ⟨some 12,.call ⟨.value (.func 41),#[(.tmp 11),(.func 56)],#[22,85]⟩,0,none⟩] [1,3]) (sg c36S6))
def c36:Cmd:=(.seq (.ops [
 ⟨some 1,.box 24 (.tmp 0),0,none⟩,
 ⟨some 2,.assign (.const (.slice none 0 0)),47,none⟩] [1])
 (.seq (.ops [
 ⟨some 8,.fieldAddr 24 (.tmp 1) 2,0,none⟩,
 ⟨some 9,.load 22 (.tmp 8),22,none⟩,
 ⟨some 10,.call ⟨.value (.func 40),#[(.tmp 9)],#[22]⟩,22,none⟩,
 ⟨some 3,.assign (.tmp 10),22,none⟩] [1,3]) (sg c36S7)))
attribute [go_sem] c36 c36S0 c36S3 c36S4 c36L0 c36S5 c36S6 c36S7
def c36D0:List (Nat × Ins):=[
 (0,⟨some 22,.move (.tmp 7),3,none⟩),
 (0,⟨some 23,.binOp .lss 3 (.tmp 22) (.const (.int .i64 0)) 3,4,none⟩),
 (0,⟨some 24,.move (.tmp 23),4,none⟩),
 (0,⟨some 25,.move (.tmp 4),47,(some (24,false))⟩),
 (0,⟨some 26,.move (.tmp 7),3,(some (24,false))⟩),
 (0,⟨some 27,.indexAddr 47 (.tmp 25) (.tmp 26),0,(some (24,false))⟩),
 (0,⟨some 28,.fieldAddr 24 (.tmp 27) 2,0,(some (24,false))⟩),
 (1,⟨some 29,.load 22 (.tmp 28),22,(some (24,false))⟩),
 (2,⟨some 30,.load 38 (.tmp 6),38,(some (24,false))⟩),
 (3,⟨some 31,.call ⟨.value (.func 59),#[(.tmp 29),(.tmp 30)],#[22,38]⟩,4,(some (24,false))⟩),
 (0,⟨some 32,.pick (.tmp 24) (.const (.bool true)) (.tmp 31),4,none⟩)]
theorem c36draw0{L:List Nat}{ρ:Env}{w:World}{Q:Post}(S:World→Prop)(hS:S w.drew)(h:DG Tryz.prog S c36D0 L ρ w.drew Q):drawW Tryz.prog (drawOps 0 c36code) L ρ w Q :=
 drawW_held [7] [(0,0),(0,1),(0,2),(0,3),(0,4),(0,5),(0,6),(1,7),(2,8),(3,9),(0,10)] c36D0 (by kernel_rfl) (by kernel_rfl) (by kernel_rfl) S hS h
def c36D1:List (Nat × Ins):=[
 (0,⟨some 43,.move (.tmp 4),47,none⟩),
 (0,⟨some 44,.move (.tmp 7),3,none⟩),
 (0,⟨some 45,.move (.tmp 4),47,none⟩),
 (0,⟨some 46,.move (.tmp 7),3,none⟩),
 (0,⟨some 47,.indexAddr 47 (.tmp 45) (.tmp 46),0,none⟩),
 (0,⟨some 48,.fieldAddr 24 (.tmp 47) 2,0,none⟩),
 (1,⟨some 49,.load 22 (.tmp 48),22,none⟩),
 (2,⟨some 50,.load 38 (.tmp 6),38,none⟩),
 (2,⟨some 51,.buildSlice 22 1 #[(0,(.tmp 50))],22,none⟩),
 (3,⟨some 52,.call ⟨.builtin .append,#[(.tmp 49),(.tmp 51)],#[22,22]⟩,22,none⟩),
 (0,⟨some 53,.indexAddr 47 (.tmp 43) (.tmp 44),0,none⟩),
 (0,⟨some 54,.fieldAddr 24 (.tmp 53) 2,0,none⟩),
 (3,⟨none,.store 22 (.tmp 54) (.tmp 52),0,none⟩)]
theorem c36draw1{L:List Nat}{ρ:Env}{w:World}{Q:Post}(S:World→Prop)(hS:S w.drew)(h:DG Tryz.prog S c36D1 L ρ w.drew Q):drawW Tryz.prog (drawOps 1 c36code) L ρ w Q :=
 drawW_held [6] [(0,0),(0,1),(0,2),(0,3),(0,4),(0,5),(1,6),(2,7),(2,8),(3,9),(0,10),(0,11),(3,12)] c36D1 (by kernel_rfl) (by kernel_rfl) (by kernel_rfl) S hS h
theorem ent36(a0:Value)(w:World)(K:Value→World→Prop)(h:W Tryz.prog c36 [(0,a0)] w (finQ Tryz.prog [.tmp 2] K)):Ret Tryz.prog 36 [a0] w K :=
 Ret_of_W (code:=c36code) Tryz.func36 (by kernel_rfl) (by kernel_rfl) (of_decide_eq_true (by kernel_rfl)) h
@[go_sem] theorem go36:goFunc Tryz.prog 36=true:=by kernel_rfl
def c37code:Code:=match Tryz.f37.body with | some c=>c | none=>.skip
def c37S0(_:Unit):Cmd:=(.ops [
 ⟨some 41,.binOp .add 3 (.tmp 34) (.const (.int .i64 1)) 3,3,none⟩,
 ⟨some 34,.move (.tmp 41),3,none⟩] [2,6,8,9,32,33,34])
def c37S1(_:Unit):Cmd:=(.seq (.block 1 (.seq (.ops [
 ⟨some 36,.indexAddr 74 (.tmp 32) (.tmp 34),0,none⟩,
 ⟨some 37,.load 66 (.tmp 36),66,none⟩,
 ⟨some 11,.assign (.tmp 37),66,none⟩] [2,6,8,9,11,32,33,34])
 (.ops [
 ⟨some 38,.move (.tmp 8),99,none⟩,
 ⟨some 39,.move (.tmp 11),66,none⟩,
 ⟨some 40,.call ⟨.value (.func 62),#[(.tmp 38),(.const (.int .u32 0)),(.tmp 39)],#[99,103,66]⟩,0,none⟩] [2,6,8,9,32,33,34]))) (sg c37S0))
def c37L0(_:Unit):Cmd:=(.seq (.ops [
 ⟨some 35,.binOp .lss 3 (.tmp 34) (.tmp 33) 3,0,none⟩] [2,6,8,9,32,33,34,35])
 (.seq (.cond (.tmp 35)
 (.skip [2,6,8,9,32,33,34])
 (.exit 0 [2,6,8,9])) (sg c37S1)))
def c37S2(_:Unit):Cmd:=(.cond (.tmp 74)
 (.ops [
 ⟨some 75,.fieldAddr 77 (.tmp 9) 1,0,none⟩,
 ⟨some 76,.load 74 (.tmp 75),74,none⟩,
 ⟨some 77,.fieldAddr 112 (.tmp 13) 1,0,none⟩,
 ⟨some 78,.load 66 (.tmp 77),66,none⟩,
 ⟨some 79,.buildSlice 74 1 #[(0,(.tmp 78))],74,none⟩,
 ⟨some 80,.call ⟨.builtin .append,#[(.tmp 76),(.tmp 79)],#[74,74]⟩,74,none⟩,
 ⟨some 81,.fieldAddr 77 (.tmp 9) 1,0,none⟩,
 ⟨none,.store 74 (.tmp 81) (.tmp 80),0,none⟩] [2,6,8,9,12,13])
 (.skip [2,6,8,9,12,13]))
def c37S3(_:Unit):Cmd:=(.cond (.tmp 98)
 (.exit 5 [2,6,8,9,12,13,85,86,87])
 (.skip [2,6,8,9,12,13,14,15,85,86,87]))
def c37S4(_:Unit):Cmd:=(.seq (.ops [
 ⟨some 106,.move (.tmp 17),4,none⟩] [2,6,8,9,12,13,14,16,85,86,87,106])
 (.cond (.tmp 106)
 (.ops [
 ⟨some 107,.move (.tmp 8),99,none⟩,
 ⟨some 108,.fieldAddr 112 (.tmp 13) 0,0,none⟩,
 ⟨some 109,.fieldAddr 110 (.tmp 108) 0,0,none⟩,
 ⟨some 110,.load 103 (.tmp 109),103,none⟩,
 ⟨some 111,.move (.tmp 14),3,none⟩,
 ⟨some 112,.convert 3 116 (.tmp 111),116,none⟩,
 ⟨some 113,.binOp .shl 103 (.const (.int .u32 1)) (.tmp 112) 116,103,none⟩,
 ⟨some 114,.binOp .or 103 (.tmp 110) (.tmp 113) 103,103,none⟩,
 ⟨some 115,.move (.tmp 16),66,none⟩,
 ⟨some 116,.call ⟨.value (.func 62),#[(.tmp 107),(.tmp 114),(.tmp 115)],#[99,103,66]⟩,0,none⟩] [2,6,8,9,12,13,85,86,87])
 (.skip [2,6,8,9,12,13,85,86,87])))
def c37S5(_:Unit):Cmd:=(.seq (.ops [
 ⟨some 100,.fieldAddr 112 (.tmp 13) 1,0,none⟩,
 ⟨some 101,.load 66 (.tmp 100),66,none⟩,
 ⟨some 102,.load 38 (.tmp 15),38,none⟩,
 ⟨some 103,.call ⟨.value (.func 64),#[(.tmp 101),(.tmp 102)],#[66,38]⟩,114,none⟩,
 ⟨some 99,.move (.tmp 103),114,none⟩,
 ⟨some 104,.extract (.tmp 99) 0,66,none⟩,
 ⟨some 105,.extract (.tmp 99) 1,4,none⟩,
 ⟨some 16,.assign (.tmp 104),66,none⟩,
 ⟨some 17,.assign (.tmp 105),4,none⟩] [2,6,8,9,12,13,14,16,17,85,86,87]) (sg c37S4))
def c37S6(_:Unit):Cmd:=(.ops [
 ⟨some 117,.binOp .add 3 (.tmp 87) (.const (.int .i64 1)) 3,3,none⟩,
 ⟨some 87,.move (.tmp 117),3,none⟩] [2,6,8,9,12,13,85,86,87])
def c37S7(_:Unit):Cmd:=(.seq (.block 5 (.seq (.ops [
 ⟨some 89,.move (.tmp 87),3,none⟩,
 ⟨some 90,.indexAddr 22 (.tmp 85) (.tmp 87),0,none⟩,
 ⟨some 91,.load 38 (.tmp 90),38,none⟩,
 ⟨some 15,.alloc 38,0,none⟩,
 ⟨some 14,.assign (.tmp 89),3,none⟩,
 ⟨none,.store 38 (.tmp 15) (.tmp 91),0,none⟩] [2,6,8,9,12,13,14,15,85,86,87])
 (.seq (.seq (.ops [
 ⟨some 92,.move (.tmp 8),99,none⟩,
 ⟨some 93,.fieldAddr 112 (.tmp 13) 0,0,none⟩,
 ⟨some 94,.fieldAddr 110 (.tmp 93) 0,0,none⟩,
 ⟨some 95,.load 103 (.tmp 94),103,none⟩,
 ⟨some 96,.move (.tmp 14),3,none⟩,
 ⟨some 97,.call ⟨.value (.func 63),#[(.tmp 92),(.tmp 95),(.tmp 96)],#[99,103,3]⟩,4,none⟩,
 ⟨some 98,.unOp .not 4 (.tmp 97),4,none⟩] [2,6,8,9,12,13,14,15,85,86,87,98]) (sg c37S3)) (sg c37S5)))) (sg c37S6))
def c37L1(_:Unit):Cmd:=(.seq (.ops [
 ⟨some 88,.binOp .lss 3 (.tmp 87) (.tmp 86) 3,0,none⟩] [2,6,8,9,12,13,85,86,87,88])
 (.seq (.cond (.tmp 88)
 (.skip [2,6,8,9,12,13,85,86,87])
 (.exit 4 [2,6,8,9,12])) (sg c37S7)))
def c37S8(_:Unit):Cmd:=(.seq (.ops [
 ⟨some 82,.move (.tmp 8),99,none⟩,
 ⟨some 83,.nilCheck (.tmp 82),0,none⟩,
 ⟨some 84,.fieldAddr 108 (.tmp 83) 0,0,none⟩,
 ⟨some 85,.load 22 (.tmp 84),22,none⟩,
 ⟨some 86,.call ⟨.builtin .len,#[(.tmp 85)],#[22]⟩,3,none⟩,
 ⟨some 87,.move (.const (.int .i64 0)),3,none⟩] [2,6,8,9,12,13,85,86,87])
 (.block 4 (.loop (sg c37L1))))
def c37S9(_:Unit):Cmd:=(.seq (.ops [
 ⟨some 59,.move (.tmp 8),99,none⟩,
 ⟨some 60,.nilCheck (.tmp 59),0,none⟩,
 ⟨some 61,.fieldAddr 108 (.tmp 60) 4,0,none⟩,
 ⟨some 62,.load 106 (.tmp 61),106,none⟩,
 ⟨some 63,.move (.tmp 12),3,none⟩,
 ⟨some 64,.indexAddr 106 (.tmp 62) (.tmp 63),0,none⟩,
 ⟨some 65,.load 112 (.tmp 64),112,none⟩,
 ⟨some 13,.alloc 112,0,none⟩,
 ⟨none,.store 112 (.tmp 13) (.tmp 65),0,none⟩] [2,6,8,9,12,13])
 (.seq (.seq (.draw (drawOps 0 c37code) [2,6,8,9,12,13,74]) (sg c37S2)) (sg c37S8)))
def c37S10(_:Unit):Cmd:=(.ops [
 ⟨some 49,.move (.tmp 12),3,none⟩,
 ⟨some 50,.binOp .add 3 (.tmp 49) (.const (.int .i64 1)) 3,3,none⟩,
 ⟨some 12,.assign (.tmp 50),3,none⟩] [2,6,8,9,12])
def c37S11(_:Unit):Cmd:=(.seq (.block 3 (.seq (.seq (.ops [
 ⟨some 51,.move (.tmp 8),99,none⟩,
 ⟨some 52,.nilCheck (.tmp 51),0,none⟩,
 ⟨some 53,.fieldAddr 108 (.tmp 52) 4,0,none⟩,
 ⟨some 54,.load 106 (.tmp 53),106,none⟩,
 ⟨some 55,.call ⟨.builtin .len,#[(.tmp 54)],#[106]⟩,3,none⟩,
 ⟨some 56,.move (.tmp 2),3,none⟩,
 ⟨some 57,.binOp .gtr 3 (.tmp 55) (.tmp 56) 3,4,none⟩] [2,6,8,9,12,57])
 (.cond (.tmp 57)
 (.seq (.ops [
 ⟨some 58,.build 77 #[],77,none⟩,
 ⟨none,.store 77 (.tmp 6) (.tmp 58),0,none⟩,
 ⟨some 7,.assign (.const (.int .i64 35)),29,none⟩] [6,7])
 .ret)
 (.skip [2,6,8,9,12]))) (sg c37S9))) (sg c37S10))
def c37L2(_:Unit):Cmd:=(.seq (.seq (.ops [
 ⟨some 42,.move (.tmp 12),3,none⟩,
 ⟨some 43,.move (.tmp 8),99,none⟩,
 ⟨some 44,.nilCheck (.tmp 43),0,none⟩,
 ⟨some 45,.fieldAddr 108 (.tmp 44) 4,0,none⟩,
 ⟨some 46,.load 106 (.tmp 45),106,none⟩,
 ⟨some 47,.call ⟨.builtin .len,#[(.tmp 46)],#[106]⟩,3,none⟩,
 ⟨some 48,.binOp .lss 3 (.tmp 42) (.tmp 47) 3,4,none⟩] [2,6,8,9,12,48])
 (.cond (.tmp 48)
 (.skip [2,6,8,9,12])
 (.exit 2 [2,6,8,9]))) (sg c37S11))
def c37S12(_:Unit):Cmd:=(.seq (.ops [
 ⟨some 130,.move (.tmp 8),99,none⟩,
 ⟨some 131,.nilCheck (.tmp 130),0,none⟩,
 ⟨some 132,.fieldAddr 108 (.tmp 131) 4,0,none⟩,
 ⟨some 133,.load 106 (.tmp 132),106,none⟩,
 ⟨some 134,.call ⟨.builtin .len,#[(.tmp 133)],#[106]⟩,3,none⟩,
 ⟨some 135,.fieldAddr 77 (.tmp 9) 2,0,none⟩,
 ⟨none,.store 3 (.tmp 135) (.tmp 134),0,none⟩] [6,9])
 (.seq (.ops [
 ⟨some 136,.load 77 (.tmp 9),77,none⟩,
 ⟨none,.store 77 (.tmp 6) (.tmp 136),0,none⟩,
 ⟨some 7,.assign (.const (.int .i64 0)),29,none⟩] [6,7])
 .ret))
def c37S13(_:Unit):Cmd:=(.seq (.ops [
 ⟨some 126,.fieldAddr 77 (.tmp 9) 1,0,none⟩,
 ⟨some 127,.load 74 (.tmp 126),74,none⟩,
 ⟨some 128,.call ⟨.value (.func 61),#[(.tmp 127)],#[74]⟩,74,none⟩,
 ⟨some 129,.fieldAddr 77 (.tmp 9) 1,0,none⟩,
 ⟨none,.store 74 (.tmp 129) (.tmp 128),0,none⟩] [6,8,9]) (sg c37S12))
def c37S14(_:Unit):Cmd:=(.seq (.seq (.ops [
 ⟨some 118,.move (.tmp 8),99,none⟩,
 ⟨some 119,.nilCheck (.tmp 118),0,none⟩,
 ⟨some 120,.fieldAddr 108 (.tmp 119) 4,0,none⟩,
 ⟨some 121,.load 106 (.tmp 120),106,none⟩,
 ⟨some 122,.call ⟨.builtin .len,#[(.tmp 121)],#[106]⟩,3,none⟩,
 ⟨some 123,.move (.tmp 2),3,none⟩,
 ⟨some 124,.binOp .gtr 3 (.tmp 122) (.tmp 123) 3,4,none⟩] [6,8,9,124])
 (.cond (.tmp 124)
 (.seq (.ops [
 ⟨some 125,.build 77 #[],77,none⟩,
 ⟨none,.store 77 (.tmp 6) (.tmp 125),0,none⟩,
 ⟨some 7,.assign (.const (.int .i64 35)),29,none⟩] [6,7])
 .ret)
 (.skip [6,8,9]))) (sg c37S13))
def c37S15(_:Unit):Cmd:=(.seq (.seq (.ops [
 ⟨some 12,.assign (.const (.int .i64 0)),3,none⟩] [2,6,8,9,12])
 (.block 2 (.loop (sg c37L2)))) (sg c37S14))
def c37S16(_:Unit):Cmd:=(.seq (.seq (.ops [
 ⟨some 31,.fieldAddr 77 (.tmp 9) 0,0,none⟩,
 ⟨some 32,.load 74 (.tmp 31),74,none⟩,
 ⟨some 33,.call ⟨.builtin .len,#[(.tmp 32)],#[74]⟩,3,none⟩,
 ⟨some 34,.move (.const (.int .i64 0)),3,none⟩] [2,6,8,9,32,33,34])
 (.block 0 (.loop (sg c37L0)))) (sg c37S15))
def c37S17(_:Unit):Cmd:=(.seq (.ops [
 ⟨some 28,.move (.tmp 1),74,none⟩,
 ⟨some 29,.call ⟨.value (.func 61),#[(.tmp 28)],#[74]⟩,74,none⟩,
 ⟨some 30,.build 77 #[(0,(.tmp 29))],77,none⟩,
 ⟨some 9,.alloc 77,0,none⟩,
 ⟨none,.store 77 (.tmp 9) (.tmp 30),0,none⟩] [2,6,8,9]) (sg c37S16))
def c37S18(_:Unit):Cmd:=(.seq (.ops [
 ⟨some 25,.fieldAddr 24 (.tmp 3) 2,0,none⟩,
 ⟨some 26,.load 22 (.tmp 25),22,none⟩,
 ⟨some 27,.call ⟨.value (.func 60),#[(.tmp 26)],#[22]⟩,99,none⟩,
 ⟨some 8,.assign (.tmp 27),99,none⟩] [1,2,6,8]) (sg c37S17))
def c37S19(_:Unit):Cmd:=(.seq (.ops [
 ⟨some 23,.move (.tmp 2),3,none⟩,
 ⟨some 24,.call ⟨.builtin .min,#[(.tmp 23),(.const (.int .i64 32768))],#[3,3]⟩,3,none⟩,
 ⟨some 2,.assign (.tmp 24),3,none⟩] [1,2,3,6]) (sg c37S18))
def c37:Cmd:=(.seq (.ops [
 ⟨some 3,.box 24 (.tmp 0),0,none⟩,
 ⟨some 6,.alloc 77,0,none⟩,
 ⟨some 7,.assign (.const (.int .i64 0)),29,none⟩] [1,2,3,6])
 (.seq (.seq (.ops [
 ⟨some 18,.fieldAddr 24 (.tmp 3) 2,0,none⟩,
 ⟨some 19,.load 22 (.tmp 18),22,none⟩,
 ⟨some 20,.call ⟨.builtin .len,#[(.tmp 19)],#[22]⟩,3,none⟩,
 ⟨some 21,.binOp .gtr 3 (.tmp 20) (.const (.int .i64 16)) 3,4,none⟩] [1,2,3,6,21])
 (.cond (.tmp 21)
 (.seq (.ops [
 ⟨some 22,.build 77 #[],77,none⟩,
 ⟨none,.store 77 (.tmp 6) (.tmp 22),0,none⟩,
 ⟨some 7,.assign (.const (.int .i64 34)),29,none⟩] [6,7])
 .ret)
 (.skip [1,2,3,6]))) (sg c37S19)))
attribute [go_sem] c37 c37S0 c37S1 c37S2 c37S3 c37S4 c37S5 c37S6 c37S7 c37L1 c37S9 c37S10 c37S11 c37L2 c37S14 c37S16 c37S19
def c37D0:List (Bool × Ins):=[
 (true,⟨some 66,.move (.tmp 8),99,none⟩),
 (true,⟨some 67,.nilCheck (.tmp 66),0,none⟩),
 (true,⟨some 68,.fieldAddr 108 (.tmp 67) 2,0,none⟩),
 (false,⟨some 69,.load 103 (.tmp 68),103,none⟩),
 (true,⟨some 70,.fieldAddr 112 (.tmp 13) 0,0,none⟩),
 (true,⟨some 71,.fieldAddr 110 (.tmp 70) 0,0,none⟩),
 (false,⟨some 72,.load 103 (.tmp 71),103,none⟩),
 (true,⟨some 73,.binOp .andNot 103 (.tmp 69) (.tmp 72) 103,103,none⟩),
 (true,⟨some 74,.binOp .eql 103 (.tmp 73) (.const (.int .u32 0)) 103,4,none⟩)]
theorem c37draw0{L:List Nat}{ρ:Env}{w:World}{Q:Post}(h:DL Tryz.prog c37D0 L ρ w.drew Q):drawW Tryz.prog (drawOps 0 c37code) L ρ w Q :=
 drawW_still [true,true,true,false,true,true,false,true,true] c37D0 (by kernel_rfl) (by kernel_rfl) (by kernel_rfl) h
theorem ent37(a0 a1 a2:Value)(w:World)(K:Value→World→Prop)(h:W Tryz.prog c37 [(0,a0),(1,a1),(2,a2)] w (finQ Tryz.prog [.cell 6 77,.tmp 7] K)):Ret Tryz.prog 37 [a0,a1,a2] w K :=
 Ret_of_W (code:=c37code) Tryz.func37 (by kernel_rfl) (by kernel_rfl) (of_decide_eq_true (by kernel_rfl)) h
@[go_sem] theorem go37:goFunc Tryz.prog 37=true:=by kernel_rfl
def c38code:Code:=match Tryz.f38.body with | some c=>c | none=>.skip
def c38:Cmd:=(.seq (.ops [
 ⟨some 1,.box 66 (.tmp 0),0,none⟩,
 ⟨some 2,.assign (.const .nilFunc),81,none⟩] [1])
 (.seq (.ops [
 ⟨some 3,.makeFunc (.func 65) #[] #[(.tmp 1)],80,none⟩,
 ⟨some 2,.assign (.tmp 3),81,none⟩] [2])
 .ret))
attribute [go_sem] c38
theorem ent38(a0:Value)(w:World)(K:Value→World→Prop)(h:W Tryz.prog c38 [(0,a0)] w (finQ Tryz.prog [.tmp 2] K)):Ret Tryz.prog 38 [a0] w K :=
 Ret_of_W (code:=c38code) Tryz.func38 (by kernel_rfl) (by kernel_rfl) (of_decide_eq_true (by kernel_rfl)) h
@[go_sem] theorem go38:goFunc Tryz.prog 38=true:=by kernel_rfl
def c39code:Code:=match Tryz.f39.body with | some c=>c | none=>.skip
def c39S0(_:Unit):Cmd:=(.ops [
 ⟨some 17,.binOp .add 3 (.tmp 8) (.const (.int .i64 1)) 3,3,none⟩,
 ⟨some 8,.move (.tmp 17),3,none⟩] [3,6,7,8])
def c39S1(_:Unit):Cmd:=(.seq (.block 1 (.seq (.ops [
 ⟨some 10,.indexAddr 22 (.tmp 6) (.tmp 8),0,none⟩,
 ⟨some 11,.load 38 (.tmp 10),38,none⟩,
 ⟨some 5,.alloc 38,0,none⟩,
 ⟨none,.store 38 (.tmp 5) (.tmp 11),0,none⟩] [3,5,6,7,8])
 (.ops [
 ⟨some 12,.move (.tmp 3),66,none⟩,
 ⟨some 13,.fieldAddr 38 (.tmp 5) 0,0,none⟩,
 ⟨some 14,.load 3 (.tmp 13),3,none⟩,
 ⟨some 15,.buildSlice 66 1 #[(0,(.tmp 14))],66,none⟩,
 ⟨some 16,.call ⟨.builtin .append,#[(.tmp 12),(.tmp 15)],#[66,66]⟩,66,none⟩,
 ⟨some 3,.assign (.tmp 16),66,none⟩] [3,6,7,8]))) (sg c39S0))
def c39L0(_:Unit):Cmd:=(.seq (.ops [
 ⟨some 9,.binOp .lss 3 (.tmp 8) (.tmp 7) 3,0,none⟩] [3,6,7,8,9])
 (.seq (.cond (.tmp 9)
 (.skip [3,6,7,8])
 (.exit 0 [3])) (sg c39S1)))
def c39S2(_:Unit):Cmd:=(.seq (.ops [
 ⟨some 20,.move (.tmp 3),66,none⟩,
 ⟨some 2,.assign (.tmp 20),66,none⟩] [2])
 .ret)
def c39S3(_:Unit):Cmd:=(.seq (.ops [
 ⟨some 18,.move (.tmp 3),66,none⟩,
 ⟨some 19,.call ⟨.value (.func 48),#[(.tmp 18)],#[66]⟩,0,none⟩] [3]) (sg c39S2))
def c39:Cmd:=(.seq (.ops [
 ⟨some 2,.assign (.const (.slice none 0 0)),66,none⟩] [0])
 (.seq (.ops [
 ⟨some 3,.assign (.const (.slice none 0 0)),66,none⟩] [0,3])
 (.seq (.seq (.ops [
 ⟨some 6,.move (.tmp 0),22,none⟩,
 ⟨some 7,.call ⟨.builtin .len,#[(.tmp 6)],#[22]⟩,3,none⟩,
 ⟨some 8,.move (.const (.int .i64 0)),3,none⟩] [3,6,7,8])
 (.block 0 (.loop (sg c39L0)))) (sg c39S3))))
attribute [go_sem] c39 c39S0 c39S1 c39L0
theorem ent39(a0:Value)(w:World)(K:Value→World→Prop)(h:W Tryz.prog c39 [(0,a0)] w (finQ Tryz.prog [.tmp 2] K)):Ret Tryz.prog 39 [a0] w K :=
 Ret_of_W (code:=c39code) Tryz.func39 (by kernel_rfl) (by kernel_rfl) (of_decide_eq_true (by kernel_rfl)) h
@[go_sem] theorem go39:goFunc Tryz.prog 39=true:=by kernel_rfl
def c40code:Code:=match Tryz.f40.body with | some c=>c | none=>.skip
def c40S0(_:Unit):Cmd:=.ret
def c40S1(_:Unit):Cmd:=(.seq (.ops [
 ⟨some 5,.buildSlice 22 0 #[],22,none⟩,
 ⟨some 6,.move (.tmp 0),22,none⟩,
 ⟨some 7,.call ⟨.builtin .append,#[(.tmp 5),(.tmp 6)],#[22,22]⟩,22,none⟩,
 ⟨some 2,.assign (.tmp 7),22,none⟩] [2]) (sg c40S0))
def c40:Cmd:=(.seq (.ops [
 ⟨some 2,.assign (.const (.slice none 0 0)),22,none⟩] [0])
 (.seq (.seq (.ops [
 ⟨some 3,.move (.tmp 0),22,none⟩,
 ⟨some 4,.binOp .eql 22 (.tmp 3) (.const (.slice none 0 0)) 22,4,none⟩] [0,4])
 (.cond (.tmp 4)
 (.seq (.ops [
 ⟨some 2,.assign (.const (.slice none 0 0)),22,none⟩] [2])
 .ret)
 (.skip [0]))) (sg c40S1)))
attribute [go_sem] c40 c40S0 c40S1
theorem ent40(a0:Value)(w:World)(K:Value→World→Prop)(h:W Tryz.prog c40 [(0,a0)] w (finQ Tryz.prog [.tmp 2] K)):Ret Tryz.prog 40 [a0] w K :=
 Ret_of_W (code:=c40code) Tryz.func40 (by kernel_rfl) (by kernel_rfl) (of_decide_eq_true (by kernel_rfl)) h
@[go_sem] theorem go40:goFunc Tryz.prog 40=true:=by kernel_rfl
def c42code:Code:=match Tryz.f42.body with | some c=>c | none=>.skip
def c42S0(_:Unit):Cmd:=.ret
def c42:Cmd:=(.seq (.ops [
 ⟨some 2,.box 38 (.tmp 0),0,none⟩,
 ⟨some 3,.box 38 (.tmp 1),0,none⟩,
 ⟨some 4,.assign (.const (.int .i64 0)),3,none⟩] [2,3])
 (.seq (.ops [
 ⟨some 5,.fieldAddr 38 (.tmp 2) 0,0,none⟩,
 ⟨some 6,.load 3 (.tmp 5),3,none⟩,
 ⟨some 7,.fieldAddr 38 (.tmp 3) 0,0,none⟩,
 ⟨some 8,.load 3 (.tmp 7),3,none⟩,
 ⟨some 9,.call ⟨.value (.func 43),#[(.tmp 6),(.tmp 8)],#[3,3]⟩,3,none⟩,
 ⟨some 4,.assign (.tmp 9),3,none⟩] [4]) (sg c42S0)))
attribute [go_sem] c42 c42S0
theorem ent42(a0 a1:Value)(w:World)(K:Value→World→Prop)(h:W Tryz.prog c42 [(0,a0),(1,a1)] w (finQ Tryz.prog [.tmp 4] K)):Ret Tryz.prog 42 [a0,a1] w K :=
 Ret_of_W (code:=c42code) Tryz.func42 (by kernel_rfl) (by kernel_rfl) (of_decide_eq_true (by kernel_rfl)) h
@[go_sem] theorem go42:goFunc Tryz.prog 42=true:=by kernel_rfl
def c43code:Code:=match Tryz.f43.body with | some c=>c | none=>.skip
def c43S0(_:Unit):Cmd:=(.seq (.ops [
 ⟨some 4,.assign (.const (.int .i64 (-1))),3,none⟩] [4])
 .ret)
def c43S1(_:Unit):Cmd:=(.seq (.ops [
 ⟨some 4,.assign (.const (.int .i64 0)),3,none⟩] [4])
 .ret)
def c43S2(_:Unit):Cmd:=(.seq (.seq (.ops [
 ⟨some 17,.move (.tmp 0),3,none⟩,
 ⟨some 18,.move (.tmp 1),3,none⟩,
 ⟨some 19,.binOp .gtr 3 (.tmp 17) (.tmp 18) 3,4,none⟩] [19])
 (.cond (.tmp 19)
 (.seq (.ops [
 ⟨some 4,.assign (.const (.int .i64 1)),3,none⟩] [4])
 .ret)
 (.skip []))) (sg c43S1))
def c43S3(_:Unit):Cmd:=(.seq (.seq (.ops [
 ⟨some 14,.move (.tmp 0),3,none⟩,
 ⟨some 15,.move (.tmp 1),3,none⟩,
 ⟨some 16,.binOp .lss 3 (.tmp 14) (.tmp 15) 3,4,none⟩] [0,1,16])
 (.cond (.tmp 16)
 (.seq (.ops [
 ⟨some 4,.assign (.const (.int .i64 (-1))),3,none⟩] [4])
 .ret)
 (.skip [0,1]))) (sg c43S2))
def c43S4(_:Unit):Cmd:=(.seq (.seq (.ops [
 ⟨some 13,.move (.tmp 6),4,none⟩] [0,1,13])
 (.cond (.tmp 13)
 (.seq (.ops [
 ⟨some 4,.assign (.const (.int .i64 1)),3,none⟩] [4])
 .ret)
 (.skip [0,1]))) (sg c43S3))
def c43S5(_:Unit):Cmd:=(.seq (.seq (.ops [
 ⟨some 11,.move (.tmp 5),4,none⟩] [0,1,6,11])
 (.cond (.tmp 11)
 (.seq (.seq (.ops [
 ⟨some 12,.move (.tmp 6),4,none⟩] [12])
 (.cond (.tmp 12)
 (.seq (.ops [
 ⟨some 4,.assign (.const (.int .i64 0)),3,none⟩] [4])
 .ret)
 (.skip []))) (sg c43S0))
 (.skip [0,1,6]))) (sg c43S4))
def c43S6(_:Unit):Cmd:=(.seq (.ops [
 ⟨some 9,.move (.tmp 1),3,none⟩,
 ⟨some 10,.call ⟨.value (.func 68),#[(.tmp 9)],#[3]⟩,4,none⟩,
 ⟨some 6,.assign (.tmp 10),4,none⟩] [0,1,5,6]) (sg c43S5))
def c43:Cmd:=(.seq (.ops [
 ⟨some 4,.assign (.const (.int .i64 0)),3,none⟩] [0,1])
 (.seq (.ops [
 ⟨some 7,.move (.tmp 0),3,none⟩,
 ⟨some 8,.call ⟨.value (.func 68),#[(.tmp 7)],#[3]⟩,4,none⟩,
 ⟨some 5,.assign (.tmp 8),4,none⟩] [0,1,5]) (sg c43S6)))
attribute [go_sem] c43 c43S0 c43S1 c43S2 c43S3 c43S4 c43S5 c43S6
theorem ent43(a0 a1:Value)(w:World)(K:Value→World→Prop)(h:W Tryz.prog c43 [(0,a0),(1,a1)] w (finQ Tryz.prog [.tmp 4] K)):Ret Tryz.prog 43 [a0,a1] w K :=
 Ret_of_W (code:=c43code) Tryz.func43 (by kernel_rfl) (by kernel_rfl) (of_decide_eq_true (by kernel_rfl)) h
@[go_sem] theorem go43:goFunc Tryz.prog 43=true:=by kernel_rfl
def c44code:Code:=match Tryz.f44.body with | some c=>c | none=>.skip
def c44S0(_:Unit):Cmd:=(.seq (.ops [
 ⟨some 2,.assign (.const (.slice none 0 0)),66,none⟩] [2])
 .ret)
def c44:Cmd:=(.seq (.ops [
 ⟨some 2,.assign (.const (.slice none 0 0)),66,none⟩] [0])
 (.seq (.seq (.ops [
 ⟨some 3,.move (.tmp 0),3,none⟩,
 ⟨some 4,.binOp .eql 3 (.tmp 3) (.const (.int .i64 1)) 3,4,none⟩,
 ⟨some 5,.move (.tmp 4),4,none⟩,
 ⟨some 6,.move (.tmp 0),3,(some (5,false))⟩,
 ⟨some 7,.binOp .eql 3 (.tmp 6) (.const (.int .i64 2)) 3,4,(some (5,false))⟩,
 ⟨some 8,.pick (.tmp 5) (.const (.bool true)) (.tmp 7),4,none⟩] [8])
 (.cond (.tmp 8)
 (.seq (.ops [
 ⟨some 9,.buildSlice 66 1 #[(0,(.const (.int .i64 0)))],66,none⟩,
 ⟨some 2,.assign (.tmp 9),66,none⟩] [2])
 .ret)
 (.skip []))) (sg c44S0)))
attribute [go_sem] c44 c44S0
theorem ent44(a0:Value)(w:World)(K:Value→World→Prop)(h:W Tryz.prog c44 [(0,a0)] w (finQ Tryz.prog [.tmp 2] K)):Ret Tryz.prog 44 [a0] w K :=
 Ret_of_W (code:=c44code) Tryz.func44 (by kernel_rfl) (by kernel_rfl) (of_decide_eq_true (by kernel_rfl)) h
@[go_sem] theorem go44:goFunc Tryz.prog 44=true:=by kernel_rfl
def c45code:Code:=match Tryz.f45.body with | some c=>c | none=>.skip
def c45S0(_:Unit):Cmd:=(.ops [
 ⟨some 29,.move (.tmp 8),3,none⟩,
 ⟨some 30,.binOp .add 3 (.tmp 29) (.const (.int .i64 1)) 3,3,none⟩,
 ⟨some 8,.assign (.tmp 30),3,none⟩] [1,3,4,5,6,7,8])
def c45S1(_:Unit):Cmd:=(.seq (.block 3 (.draw (drawOps 0 c45code) [1,3,4,5,6,7,8])) (sg c45S0))
def c45L0(_:Unit):Cmd:=(.seq (.seq (.ops [
 ⟨some 23,.move (.tmp 8),3,none⟩,
 ⟨some 24,.move (.tmp 6),3,none⟩,
 ⟨some 25,.binOp .lss 3 (.tmp 23) (.tmp 24) 3,4,none⟩,
 ⟨some 26,.move (.tmp 25),4,none⟩,
 ⟨some 27,.move (.tmp 7),4,(some (26,true))⟩,
 ⟨some 28,.pick (.tmp 26) (.tmp 27) (.const (.bool false)),4,none⟩] [1,3,4,5,6,7,8,28])
 (.cond (.tmp 28)
 (.skip [1,3,4,5,6,8])
 (.exit 2 [1,3,4,5,6,7]))) (sg c45S1))
def c45S2(_:Unit):Cmd:=(.ops [
 ⟨some 59,.move (.tmp 6),3,none⟩,
 ⟨some 5,.assign (.tmp 59),3,none⟩] [1,3,4,5,6])
def c45S3(_:Unit):Cmd:=(.seq (.ops [
 ⟨some 40,.move (.tmp 7),4,none⟩,
 ⟨some 41,.move (.tmp 40),4,none⟩,
 ⟨some 42,.move (.tmp 6),3,(some (41,false))⟩,
 ⟨some 43,.move (.tmp 3),22,(some (41,false))⟩,
 ⟨some 44,.call ⟨.builtin .len,#[(.tmp 43)],#[22]⟩,3,(some (41,false))⟩,
 ⟨some 45,.binOp .eql 3 (.tmp 42) (.tmp 44) 3,4,(some (41,false))⟩,
 ⟨some 46,.pick (.tmp 41) (.const (.bool true)) (.tmp 45),4,none⟩] [1,3,4,5,6,46])
 (.cond (.tmp 46)
 (.seq (.draw (drawOps 1 c45code) [1,3,4,6]) (sg c45S2))
 (.skip [1,3,4,5,6])))
def c45S4(_:Unit):Cmd:=(.ops [
 ⟨some 16,.move (.tmp 6),3,none⟩,
 ⟨some 17,.binOp .add 3 (.tmp 16) (.const (.int .i64 1)) 3,3,none⟩,
 ⟨some 6,.assign (.tmp 17),3,none⟩] [1,3,4,5,6])
def c45S5(_:Unit):Cmd:=(.seq (.block 1 (.seq (.ops [
 ⟨some 18,.move (.tmp 6),3,none⟩,
 ⟨some 19,.move (.tmp 3),22,none⟩,
 ⟨some 20,.call ⟨.builtin .len,#[(.tmp 19)],#[22]⟩,3,none⟩,
 ⟨some 21,.binOp .lss 3 (.tmp 18) (.tmp 20) 3,4,none⟩,
 ⟨some 7,.assign (.tmp 21),4,none⟩] [1,3,4,5,6,7])
 (.seq (.seq (.ops [
 ⟨some 22,.move (.tmp 5),3,none⟩,
 ⟨some 8,.assign (.tmp 22),3,none⟩] [1,3,4,5,6,7,8])
 (.block 2 (.loop (sg c45L0)))) (sg c45S3)))) (sg c45S4))
def c45L1(_:Unit):Cmd:=(.seq (.seq (.ops [
 ⟨some 12,.move (.tmp 6),3,none⟩,
 ⟨some 13,.move (.tmp 3),22,none⟩,
 ⟨some 14,.call ⟨.builtin .len,#[(.tmp 13)],#[22]⟩,3,none⟩,
 ⟨some 15,.binOp .leq 3 (.tmp 12) (.tmp 14) 3,4,none⟩] [1,3,4,5,6,15])
 (.cond (.tmp 15)
 (.skip [1,3,4,5,6])
 (.exit 0 [4]))) (sg c45S5))
def c45S6(_:Unit):Cmd:=(.seq (.ops [
 ⟨some 60,.move (.tmp 4),47,none⟩,
 ⟨some 2,.assign (.tmp 60),47,none⟩] [2])
 .ret)
def c45S7(_:Unit):Cmd:=(.seq (.ops [
 ⟨some 4,.assign (.const (.slice none 0 0)),47,none⟩] [1,3,4])
 (.seq (.ops [
 ⟨some 5,.assign (.const (.int .i64 0)),3,none⟩] [1,3,4,5])
 (.seq (.seq (.ops [
 ⟨some 6,.assign (.const (.int .i64 1)),3,none⟩] [1,3,4,5,6])
 (.block 0 (.loop (sg c45L1)))) (sg c45S6))))
def c45:Cmd:=(.seq (.ops [
 ⟨some 1,.box 24 (.tmp 0),0,none⟩,
 ⟨some 2,.assign (.const (.slice none 0 0)),47,none⟩] [1])
 (.seq (.ops [
 ⟨some 9,.fieldAddr 24 (.tmp 1) 2,0,none⟩,
 ⟨some 10,.load 22 (.tmp 9),22,none⟩,
 ⟨some 11,.call ⟨.value (.func 30),#[(.tmp 10)],#[22]⟩,22,none⟩,
 ⟨some 3,.assign (.tmp 11),22,none⟩] [1,3]) (sg c45S7)))
attribute [go_sem] c45 c45S0 c45S1 c45L0 c45S2 c45S4 c45S5 c45L1 c45S6 c45S7
def c45D0:List (Nat × Ins):=[
 (0,⟨some 31,.move (.tmp 3),22,none⟩),
 (0,⟨some 32,.move (.tmp 8),3,none⟩),
 (0,⟨some 33,.indexAddr 22 (.tmp 31) (.tmp 32),0,none⟩),
 (0,⟨some 35,.move (.tmp 3),22,none⟩),
 (0,⟨some 36,.move (.tmp 6),3,none⟩),
 (0,⟨some 37,.indexAddr 22 (.tmp 35) (.tmp 36),0,none⟩),
 (1,⟨some 34,.load 38 (.tmp 33),38,none⟩),
 (2,⟨some 38,.load 38 (.tmp 37),38,none⟩),
 (3,⟨some 39,.call ⟨.value (.func 69),#[(.tmp 34),(.tmp 38)],#[38,38]⟩,4,none⟩),
 (0,⟨some 7,.assign (.tmp 39),4,none⟩)]
theorem c45draw0{L:List Nat}{ρ:Env}{w:World}{Q:Post}(S:World→Prop)(hS:S w.drew)(h:DG Tryz.prog S c45D0 L ρ w.drew Q):drawW Tryz.prog (drawOps 0 c45code) L ρ w Q :=
 drawW_held [3] [(0,0),(0,1),(0,2),(0,4),(0,5),(0,6),(1,3),(2,7),(3,8),(0,9)] c45D0 (by kernel_rfl) (by kernel_rfl) (by kernel_rfl) S hS h
def c45D1:List (Nat × Ins):=[
 (0,⟨some 47,.move (.tmp 4),47,none⟩),
 (0,⟨some 48,.fieldAddr 24 (.tmp 1) 0,0,none⟩),
 (0,⟨some 50,.fieldAddr 24 (.tmp 1) 1,0,none⟩),
 (0,⟨some 52,.move (.tmp 3),22,none⟩),
 (0,⟨some 53,.move (.tmp 5),3,none⟩),
 (0,⟨some 54,.move (.tmp 6),3,none⟩),
 (0,⟨some 55,.slice 22 (.tmp 52) (some (.tmp 53)) (some (.tmp 54)) none,22,none⟩),
 (1,⟨some 49,.load 3 (.tmp 48),3,none⟩),
 (2,⟨some 51,.load 3 (.tmp 50),3,none⟩),
 (3,⟨some 56,.build 24 #[(0,(.tmp 49)),(1,(.tmp 51)),(2,(.tmp 55))],24,none⟩),
 (2,⟨some 57,.buildSlice 47 1 #[(0,(.tmp 56))],47,none⟩),
 (2,⟨some 58,.call ⟨.builtin .append,#[(.tmp 47),(.tmp 57)],#[47,47]⟩,47,none⟩),
 (0,⟨some 4,.assign (.tmp 58),47,none⟩)]
theorem c45draw1{L:List Nat}{ρ:Env}{w:World}{Q:Post}(S:World→Prop)(hS:S w.drew)(h:DG Tryz.prog S c45D1 L ρ w.drew Q):drawW Tryz.prog (drawOps 1 c45code) L ρ w Q :=
 drawW_held [2] [(0,0),(0,1),(0,3),(0,5),(0,6),(0,7),(0,8),(1,2),(2,4),(3,9),(2,10),(2,11),(0,12)] c45D1 (by kernel_rfl) (by kernel_rfl) (by kernel_rfl) S hS h
theorem ent45(a0:Value)(w:World)(K:Value→World→Prop)(h:W Tryz.prog c45 [(0,a0)] w (finQ Tryz.prog [.tmp 2] K)):Ret Tryz.prog 45 [a0] w K :=
 Ret_of_W (code:=c45code) Tryz.func45 (by kernel_rfl) (by kernel_rfl) (of_decide_eq_true (by kernel_rfl)) h
@[go_sem] theorem go45:goFunc Tryz.prog 45=true:=by kernel_rfl
def c46code:Code:=match Tryz.f46.body with | some c=>c | none=>.skip
def c46S0(_:Unit):Cmd:=(.cond (.tmp 48)
 (.draw (drawOps 1 c46code) [3,6,8,9,10])
 (.skip [3,6,8,9,10]))
def c46S1(_:Unit):Cmd:=(.ops [
 ⟨some 39,.move (.tmp 10),3,none⟩,
 ⟨some 40,.binOp .add 3 (.tmp 39) (.const (.int .i64 1)) 3,3,none⟩,
 ⟨some 10,.assign (.tmp 40),3,none⟩] [3,6,8,9,10])
def c46S2(_:Unit):Cmd:=(.seq (.block 1 (.seq (.draw (drawOps 0 c46code) [3,6,8,9,10,48]) (sg c46S0))) (sg c46S1))
def c46L0(_:Unit):Cmd:=(.seq (.seq (.ops [
 ⟨some 35,.move (.tmp 10),3,none⟩,
 ⟨some 36,.move (.tmp 8),122,none⟩,
 ⟨some 37,.call ⟨.builtin .len,#[(.tmp 36)],#[122]⟩,3,none⟩,
 ⟨some 38,.binOp .lss 3 (.tmp 35) (.tmp 37) 3,4,none⟩] [3,6,8,9,10,38])
 (.cond (.tmp 38)
 (.skip [3,6,8,9,10])
 (.exit 0 [6,9]))) (sg c46S2))
def c46S3(_:Unit):Cmd:=(.seq (.ops [
 ⟨some 63,.load 77 (.tmp 9),77,none⟩,
 ⟨none,.store 77 (.tmp 6) (.tmp 63),0,none⟩,
 ⟨some 7,.assign (.const (.int .i64 0)),3,none⟩] [6,7])
 .ret)
def c46S4(_:Unit):Cmd:=(.seq (.ops [
 ⟨some 59,.fieldAddr 77 (.tmp 9) 1,0,none⟩,
 ⟨some 60,.load 74 (.tmp 59),74,none⟩,
 ⟨some 61,.call ⟨.value (.func 71),#[(.tmp 60)],#[74]⟩,74,none⟩,
 ⟨some 62,.fieldAddr 77 (.tmp 9) 1,0,none⟩,
 ⟨none,.store 74 (.tmp 62) (.tmp 61),0,none⟩] [6,9]) (sg c46S3))
def c46S5(_:Unit):Cmd:=(.seq (.seq (.ops [
 ⟨some 10,.assign (.const (.int .i64 0)),3,none⟩] [3,6,8,9,10])
 (.block 0 (.loop (sg c46L0)))) (sg c46S4))
def c46S6(_:Unit):Cmd:=(.seq (.ops [
 ⟨some 30,.move (.tmp 1),74,none⟩,
 ⟨some 31,.call ⟨.value (.func 71),#[(.tmp 30)],#[74]⟩,74,none⟩,
 ⟨some 32,.move (.tmp 8),122,none⟩,
 ⟨some 33,.call ⟨.builtin .len,#[(.tmp 32)],#[122]⟩,3,none⟩,
 ⟨some 34,.build 77 #[(0,(.tmp 31)),(2,(.tmp 33))],77,none⟩,
 ⟨some 9,.alloc 77,0,none⟩,
 ⟨none,.store 77 (.tmp 9) (.tmp 34),0,none⟩] [3,6,8,9]) (sg c46S5))
def c46S7(_:Unit):Cmd:=(.seq (.seq (.ops [
 ⟨some 25,.move (.tmp 8),122,none⟩,
 ⟨some 26,.call ⟨.builtin .len,#[(.tmp 25)],#[122]⟩,3,none⟩,
 ⟨some 27,.move (.tmp 2),3,none⟩,
 ⟨some 28,.binOp .gtr 3 (.tmp 26) (.tmp 27) 3,4,none⟩] [1,3,6,8,28])
 (.cond (.tmp 28)
 (.seq (.ops [
 ⟨some 29,.build 77 #[],77,none⟩,
 ⟨none,.store 77 (.tmp 6) (.tmp 29),0,none⟩,
 ⟨some 7,.assign (.const (.int .i64 35)),3,none⟩] [6,7])
 .ret)
 (.skip [1,3,6,8]))) (sg c46S6))
def c46S8(_:Unit):Cmd:=(.seq (.ops [
 ⟨some 20,.fieldAddr 24 (.tmp 3) 2,0,none⟩,
 ⟨some 21,.load 22 (.tmp 20),22,none⟩,
 ⟨some 22,.move (.tmp 1),74,none⟩,
 ⟨some 23,.move (.tmp 2),3,none⟩,
 ⟨some 24,.call ⟨.value (.func 70),#[(.tmp 21),(.tmp 22),(.tmp 23)],#[22,74,3]⟩,122,none⟩,
 ⟨some 8,.assign (.tmp 24),122,none⟩] [1,2,3,6,8]) (sg c46S7))
def c46S9(_:Unit):Cmd:=(.seq (.seq (.ops [
 ⟨some 18,.move (.tmp 2),3,none⟩,
 ⟨some 19,.binOp .gtr 3 (.tmp 18) (.const (.int .i64 32768)) 3,4,none⟩] [1,2,3,6,19])
 (.cond (.tmp 19)
 (.ops [
 ⟨some 2,.assign (.const (.int .i64 32768)),3,none⟩] [1,2,3,6])
 (.skip [1,2,3,6]))) (sg c46S8))
def c46S10(_:Unit):Cmd:=(.seq (.seq (.ops [
 ⟨some 16,.move (.tmp 2),3,none⟩,
 ⟨some 17,.binOp .lss 3 (.tmp 16) (.const (.int .i64 0)) 3,4,none⟩] [1,2,3,6,17])
 (.cond (.tmp 17)
 (.ops [
 ⟨some 2,.assign (.const (.int .i64 (-1))),3,none⟩] [1,2,3,6])
 (.skip [1,2,3,6]))) (sg c46S9))
def c46:Cmd:=(.seq (.ops [
 ⟨some 3,.box 24 (.tmp 0),0,none⟩,
 ⟨some 6,.alloc 77,0,none⟩,
 ⟨some 7,.assign (.const (.int .i64 0)),3,none⟩] [1,2,3,6])
 (.seq (.seq (.ops [
 ⟨some 11,.fieldAddr 24 (.tmp 3) 2,0,none⟩,
 ⟨some 12,.load 22 (.tmp 11),22,none⟩,
 ⟨some 13,.call ⟨.builtin .len,#[(.tmp 12)],#[22]⟩,3,none⟩,
 ⟨some 14,.binOp .gtr 3 (.tmp 13) (.const (.int .i64 16)) 3,4,none⟩] [1,2,3,6,14])
 (.cond (.tmp 14)
 (.seq (.ops [
 ⟨some 15,.build 77 #[],77,none⟩,
 ⟨none,.store 77 (.tmp 6) (.tmp 15),0,none⟩,
 ⟨some 7,.assign (.const (.int .i64 34)),3,none⟩] [6,7])
 .ret)
 (.skip [1,2,3,6]))) (sg c46S10)))
attribute [go_sem] c46 c46S0 c46S1 c46S2 c46L0 c46S3 c46S5 c46S7 c46S9 c46S10
def c46D0:List (Nat × Ins):=[
 (0,⟨some 41,.fieldAddr 24 (.tmp 3) 2,0,none⟩),
 (0,⟨some 43,.move (.tmp 8),122,none⟩),
 (0,⟨some 44,.move (.tmp 10),3,none⟩),
 (0,⟨some 45,.indexAddr 122 (.tmp 43) (.tmp 44),0,none⟩),
 (0,⟨some 46,.fieldAddr 127 (.tmp 45) 0,0,none⟩),
 (1,⟨some 42,.load 22 (.tmp 41),22,none⟩),
 (2,⟨some 47,.load 125 (.tmp 46),125,none⟩),
 (3,⟨some 48,.call ⟨.value (.func 72),#[(.tmp 42),(.tmp 47)],#[22,125]⟩,4,none⟩)]
theorem c46draw0{L:List Nat}{ρ:Env}{w:World}{Q:Post}(S:World→Prop)(hS:S w.drew)(h:DG Tryz.prog S c46D0 L ρ w.drew Q):drawW Tryz.prog (drawOps 0 c46code) L ρ w Q :=
 drawW_held [1] [(0,0),(0,2),(0,3),(0,4),(0,5),(1,1),(2,6),(3,7)] c46D0 (by kernel_rfl) (by kernel_rfl) (by kernel_rfl) S hS h
def c46D1:List (Nat × Ins):=[
 (0,⟨some 49,.fieldAddr 77 (.tmp 9) 1,0,none⟩),
 (0,⟨some 51,.move (.tmp 8),122,none⟩),
 (0,⟨some 52,.move (.tmp 10),3,none⟩),
 (0,⟨some 53,.indexAddr 122 (.tmp 51) (.tmp 52),0,none⟩),
 (0,⟨some 54,.fieldAddr 127 (.tmp 53) 1,0,none⟩),
 (1,⟨some 50,.load 74 (.tmp 49),74,none⟩),
 (2,⟨some 55,.load 66 (.tmp 54),66,none⟩),
 (2,⟨some 56,.buildSlice 74 1 #[(0,(.tmp 55))],74,none⟩),
 (3,⟨some 57,.call ⟨.builtin .append,#[(.tmp 50),(.tmp 56)],#[74,74]⟩,74,none⟩),
 (0,⟨some 58,.fieldAddr 77 (.tmp 9) 1,0,none⟩),
 (3,⟨none,.store 74 (.tmp 58) (.tmp 57),0,none⟩)]
theorem c46draw1{L:List Nat}{ρ:Env}{w:World}{Q:Post}(S:World→Prop)(hS:S w.drew)(h:DG Tryz.prog S c46D1 L ρ w.drew Q):drawW Tryz.prog (drawOps 1 c46code) L ρ w Q :=
 drawW_held [1] [(0,0),(0,2),(0,3),(0,4),(0,5),(1,1),(2,6),(2,7),(3,8),(0,9),(3,10)] c46D1 (by kernel_rfl) (by kernel_rfl) (by kernel_rfl) S hS h
theorem ent46(a0 a1 a2:Value)(w:World)(K:Value→World→Prop)(h:W Tryz.prog c46 [(0,a0),(1,a1),(2,a2)] w (finQ Tryz.prog [.cell 6 77,.tmp 7] K)):Ret Tryz.prog 46 [a0,a1,a2] w K :=
 Ret_of_W (code:=c46code) Tryz.func46 (by kernel_rfl) (by kernel_rfl) (of_decide_eq_true (by kernel_rfl)) h
@[go_sem] theorem go46:goFunc Tryz.prog 46=true:=by kernel_rfl
def c47code:Code:=match Tryz.f47.body with | some c=>c | none=>.skip
def c47S0(_:Unit):Cmd:=(.ops [
 ⟨some 6,.assign (.const (.bool true)),4,none⟩] [0,3,5,6,7])
def c47S1(_:Unit):Cmd:=(.cond (.tmp 25)
 (.seq (.ops [
 ⟨some 26,.move (.tmp 5),22,none⟩,
 ⟨some 27,.load 38 (.tmp 3),38,none⟩,
 ⟨some 28,.buildSlice 22 1 #[(0,(.tmp 27))],22,none⟩,
 ⟨some 29,.call ⟨.builtin .append,#[(.tmp 26),(.tmp 28)],#[22,22]⟩,22,none⟩,
 ⟨some 5,.assign (.tmp 29),22,none⟩] [0,3,5,7]) (sg c47S0))
 (.skip [0,3,5,6,7]))
def c47S2(_:Unit):Cmd:=(.cond (.tmp 37)
 (.ops [
 ⟨some 38,.move (.tmp 5),22,none⟩,
 ⟨some 39,.move (.tmp 0),22,none⟩,
 ⟨some 40,.move (.tmp 7),3,none⟩,
 ⟨some 41,.indexAddr 22 (.tmp 39) (.tmp 40),0,none⟩,
 ⟨some 42,.load 38 (.tmp 41),38,none⟩,
 ⟨some 43,.buildSlice 22 1 #[(0,(.tmp 42))],22,none⟩,
 ⟨some 44,.call ⟨.builtin .append,#[(.tmp 38),(.tmp 43)],#[22,22]⟩,22,none⟩,
 ⟨some 5,.assign (.tmp 44),22,none⟩] [0,3,5,6,7])
 (.skip [0,3,5,6,7]))
def c47S3(_:Unit):Cmd:=(.seq (.draw (drawOps 1 c47code) [0,3,5,6,7,37]) (sg c47S2))
def c47S4(_:Unit):Cmd:=(.ops [
 ⟨some 12,.move (.tmp 7),3,none⟩,
 ⟨some 13,.binOp .add 3 (.tmp 12) (.const (.int .i64 1)) 3,3,none⟩,
 ⟨some 7,.assign (.tmp 13),3,none⟩] [0,3,5,6,7])
def c47S5(_:Unit):Cmd:=(.seq (.block 1 (.seq (.seq (.draw (drawOps 0 c47code) [0,3,5,6,7,25]) (sg c47S1)) (sg c47S3))) (sg c47S4))
def c47L0(_:Unit):Cmd:=(.seq (.seq (.ops [
 ⟨some 8,.move (.tmp 7),3,none⟩,
 ⟨some 9,.move (.tmp 0),22,none⟩,
 ⟨some 10,.call ⟨.builtin .len,#[(.tmp 9)],#[22]⟩,3,none⟩,
 ⟨some 11,.binOp .lss 3 (.tmp 8) (.tmp 10) 3,4,none⟩] [0,3,5,6,7,11])
 (.cond (.tmp 11)
 (.skip [0,3,5,6,7])
 (.exit 0 [3,5,6]))) (sg c47S5))
def c47S6(_:Unit):Cmd:=(.seq (.ops [
 ⟨some 51,.move (.tmp 5),22,none⟩,
 ⟨some 4,.assign (.tmp 51),22,none⟩] [4])
 .ret)
def c47S7(_:Unit):Cmd:=(.seq (.seq (.ops [
 ⟨some 45,.move (.tmp 6),4,none⟩,
 ⟨some 46,.unOp .not 4 (.tmp 45),4,none⟩] [3,5,46])
 (.cond (.tmp 46)
 (.ops [
 ⟨some 47,.move (.tmp 5),22,none⟩,
 ⟨some 48,.load 38 (.tmp 3),38,none⟩,
 ⟨some 49,.buildSlice 22 1 #[(0,(.tmp 48))],22,none⟩,
 ⟨some 50,.call ⟨.builtin .append,#[(.tmp 47),(.tmp 49)],#[22,22]⟩,22,none⟩,
 ⟨some 5,.assign (.tmp 50),22,none⟩] [5])
 (.skip [5]))) (sg c47S6))
def c47:Cmd:=(.seq (.ops [
 ⟨some 3,.box 38 (.tmp 1),0,none⟩,
 ⟨some 4,.assign (.const (.slice none 0 0)),22,none⟩] [0,3])
 (.seq (.ops [
 ⟨some 5,.assign (.const (.slice none 0 0)),22,none⟩] [0,3,5])
 (.seq (.ops [
 ⟨some 6,.assign (.const (.bool false)),4,none⟩] [0,3,5,6])
 (.seq (.seq (.ops [
 ⟨some 7,.assign (.const (.int .i64 0)),3,none⟩] [0,3,5,6,7])
 (.block 0 (.loop (sg c47L0)))) (sg c47S7)))))
attribute [go_sem] c47 c47S0 c47S1 c47S2 c47S4 c47S5 c47L0 c47S6
def c47D0:List (Bool × Ins):=[
 (true,⟨some 14,.move (.tmp 6),4,none⟩),
 (true,⟨some 15,.unOp .not 4 (.tmp 14),4,none⟩),
 (true,⟨some 16,.move (.tmp 15),4,none⟩),
 (true,⟨some 17,.move (.tmp 0),22,(some (16,true))⟩),
 (true,⟨some 18,.move (.tmp 7),3,(some (16,true))⟩),
 (true,⟨some 19,.indexAddr 22 (.tmp 17) (.tmp 18),0,(some (16,true))⟩),
 (true,⟨some 20,.fieldAddr 38 (.tmp 19) 0,0,(some (16,true))⟩),
 (false,⟨some 21,.load 3 (.tmp 20),3,(some (16,true))⟩),
 (true,⟨some 22,.fieldAddr 38 (.tmp 3) 0,0,(some (16,true))⟩),
 (false,⟨some 23,.load 3 (.tmp 22),3,(some (16,true))⟩),
 (true,⟨some 24,.binOp .geq 3 (.tmp 21) (.tmp 23) 3,4,(some (16,true))⟩),
 (true,⟨some 25,.pick (.tmp 16) (.tmp 24) (.const (.bool false)),4,none⟩)]
theorem c47draw0{L:List Nat}{ρ:Env}{w:World}{Q:Post}(h:DL Tryz.prog c47D0 L ρ w.drew Q):drawW Tryz.prog (drawOps 0 c47code) L ρ w Q :=
 drawW_still [true,true,true,true,true,true,true,false,true,false,true,true] c47D0 (by kernel_rfl) (by kernel_rfl) (by kernel_rfl) h
def c47D1:List (Bool × Ins):=[
 (true,⟨some 30,.move (.tmp 0),22,none⟩),
 (true,⟨some 31,.move (.tmp 7),3,none⟩),
 (true,⟨some 32,.indexAddr 22 (.tmp 30) (.tmp 31),0,none⟩),
 (true,⟨some 33,.fieldAddr 38 (.tmp 32) 0,0,none⟩),
 (false,⟨some 34,.load 3 (.tmp 33),3,none⟩),
 (true,⟨some 35,.fieldAddr 38 (.tmp 3) 0,0,none⟩),
 (false,⟨some 36,.load 3 (.tmp 35),3,none⟩),
 (true,⟨some 37,.binOp .neq 3 (.tmp 34) (.tmp 36) 3,4,none⟩)]
theorem c47draw1{L:List Nat}{ρ:Env}{w:World}{Q:Post}(h:DL Tryz.prog c47D1 L ρ w.drew Q):drawW Tryz.prog (drawOps 1 c47code) L ρ w Q :=
 drawW_still [true,true,true,true,false,true,false,true] c47D1 (by kernel_rfl) (by kernel_rfl) (by kernel_rfl) h
theorem ent47(a0 a1:Value)(w:World)(K:Value→World→Prop)(h:W Tryz.prog c47 [(0,a0),(1,a1)] w (finQ Tryz.prog [.tmp 4] K)):Ret Tryz.prog 47 [a0,a1] w K :=
 Ret_of_W (code:=c47code) Tryz.func47 (by kernel_rfl) (by kernel_rfl) (of_decide_eq_true (by kernel_rfl)) h
@[go_sem] theorem go47:goFunc Tryz.prog 47=true:=by kernel_rfl
@[go_sem] theorem go49:goFunc Tryz.prog 49=true:=by kernel_rfl
def c50code:Code:=match Tryz.f50.body with | some c=>c | none=>.skip
def c50S0(_:Unit):Cmd:=(.cond (.tmp 29)
 (.seq (.ops [
 ⟨some 30,.move (.tmp 0),22,none⟩,
 ⟨some 31,.move (.tmp 5),3,none⟩,
 ⟨some 32,.load 38 (.tmp 7),38,none⟩,
 ⟨some 33,.indexAddr 22 (.tmp 30) (.tmp 31),0,none⟩,
 ⟨none,.store 38 (.tmp 33) (.tmp 32),0,none⟩] [0,1,5,6])
 (.ops [
 ⟨some 34,.move (.tmp 5),3,none⟩,
 ⟨some 35,.binOp .add 3 (.tmp 34) (.const (.int .i64 1)) 3,3,none⟩,
 ⟨some 5,.assign (.tmp 35),3,none⟩] [0,1,5,6]))
 (.skip [0,1,5,6]))
def c50S1(_:Unit):Cmd:=(.ops [
 ⟨some 20,.move (.tmp 6),3,none⟩,
 ⟨some 21,.binOp .add 3 (.tmp 20) (.const (.int .i64 1)) 3,3,none⟩,
 ⟨some 6,.assign (.tmp 21),3,none⟩] [0,1,5,6])
def c50S2(_:Unit):Cmd:=(.seq (.block 1 (.seq (.ops [
 ⟨some 22,.move (.tmp 0),22,none⟩,
 ⟨some 23,.move (.tmp 6),3,none⟩,
 ⟨some 24,.indexAddr 22 (.tmp 22) (.tmp 23),0,none⟩,
 ⟨some 25,.load 38 (.tmp 24),38,none⟩,
 ⟨some 7,.alloc 38,0,none⟩,
 ⟨none,.store 38 (.tmp 7) (.tmp 25),0,none⟩] [0,1,5,6,7])
 (.seq (.ops [
 ⟨some 26,.move (.tmp 1),92,none⟩,
 ⟨some 27,.load 38 (.tmp 7),38,none⟩,
 ⟨some 28,.call ⟨.value (.tmp 26),#[(.tmp 27)],#[38]⟩,4,none⟩,
 ⟨some 29,.unOp .not 4 (.tmp 28),4,none⟩] [0,1,5,6,7,29]) (sg c50S0)))) (sg c50S1))
def c50L0(_:Unit):Cmd:=(.seq (.seq (.ops [
 ⟨some 16,.move (.tmp 6),3,none⟩,
 ⟨some 17,.move (.tmp 0),22,none⟩,
 ⟨some 18,.call ⟨.builtin .len,#[(.tmp 17)],#[22]⟩,3,none⟩,
 ⟨some 19,.binOp .lss 3 (.tmp 16) (.tmp 18) 3,4,none⟩] [0,1,5,6,19])
 (.cond (.tmp 19)
 (.skip [0,1,5,6])
 (.exit 0 [0,5]))) (sg c50S2))
def c50S3(_:Unit):Cmd:=(.seq (.ops [
 ⟨some 39,.move (.tmp 0),22,none⟩,
 ⟨some 40,.move (.tmp 5),3,none⟩,
 ⟨some 41,.slice 22 (.tmp 39) none (some (.tmp 40)) none,22,none⟩,
 ⟨some 4,.assign (.tmp 41),22,none⟩] [4])
 .ret)
def c50S4(_:Unit):Cmd:=(.seq (.ops [
 ⟨some 36,.move (.tmp 0),22,none⟩,
 ⟨some 37,.move (.tmp 5),3,none⟩,
 ⟨some 38,.slice 22 (.tmp 36) (some (.tmp 37)) none none,22,none⟩,
 ⟨none,.call ⟨.builtin .clear,#[(.tmp 38)],#[22]⟩,0,none⟩] [0,5]) (sg c50S3))
def c50S5(_:Unit):Cmd:=(.seq (.seq (.ops [
 ⟨some 14,.move (.tmp 5),3,none⟩,
 ⟨some 15,.binOp .add 3 (.tmp 14) (.const (.int .i64 1)) 3,3,none⟩,
 ⟨some 6,.assign (.tmp 15),3,none⟩] [0,1,5,6])
 (.block 0 (.loop (sg c50L0)))) (sg c50S4))
def c50S6(_:Unit):Cmd:=(.seq (.seq (.ops [
 ⟨some 11,.move (.tmp 5),3,none⟩,
 ⟨some 12,.binOp .eql 3 (.tmp 11) (.const (.int .i64 (-1))) 3,4,none⟩] [0,1,5,12])
 (.cond (.tmp 12)
 (.seq (.ops [
 ⟨some 13,.move (.tmp 0),22,none⟩,
 ⟨some 4,.assign (.tmp 13),22,none⟩] [4])
 .ret)
 (.skip [0,1,5]))) (sg c50S5))
def c50:Cmd:=(.seq (.ops [
 ⟨some 4,.assign (.const (.slice none 0 0)),22,none⟩] [0,1])
 (.seq (.ops [
 ⟨some 8,.move (.tmp 0),22,none⟩,
 ⟨some 9,.move (.tmp 1),92,none⟩,
 ⟨some 10,.call ⟨.value (.func 74),#[(.tmp 8),(.tmp 9)],#[22,92]⟩,3,none⟩,
 ⟨some 5,.assign (.tmp 10),3,none⟩] [0,1,5]) (sg c50S6)))
attribute [go_sem] c50 c50S0 c50S1 c50S2 c50L0 c50S5 c50S6
theorem ent50(a0 a1:Value)(w:World)(K:Value→World→Prop)(h:W Tryz.prog c50 [(0,a0),(1,a1)] w (finQ Tryz.prog [.tmp 4] K)):Ret Tryz.prog 50 [a0,a1] w K :=
 Ret_of_W (code:=c50code) Tryz.func50 (by kernel_rfl) (by kernel_rfl) (of_decide_eq_true (by kernel_rfl)) h
@[go_sem] theorem go50:goFunc Tryz.prog 50=true:=by kernel_rfl
def c51code:Code:=match Tryz.f51.body with | some c=>c | none=>.skip
def c51:Cmd:=(.seq (.ops [
 ⟨some 2,.box 38 (.tmp 0),0,none⟩,
 ⟨some 3,.assign (.const (.bool false)),4,none⟩] [1,2])
 (.seq (.ops [
 ⟨some 4,.fieldAddr 38 (.tmp 2) 0,0,none⟩,
 ⟨some 5,.load 3 (.tmp 4),3,none⟩,
 ⟨some 6,.load 3 (.tmp 1),3,none⟩,
 ⟨some 7,.binOp .eql 3 (.tmp 5) (.tmp 6) 3,4,none⟩,
 ⟨some 3,.assign (.tmp 7),4,none⟩] [3])
 .ret))
attribute [go_sem] c51
theorem ent51(a0 a1:Value)(w:World)(K:Value→World→Prop)(h:W Tryz.prog c51 [(0,a0),(1,a1)] w (finQ Tryz.prog [.tmp 3] K)):Ret Tryz.prog 51 [a0,a1] w K :=
 Ret_of_W (code:=c51code) Tryz.func51 (by kernel_rfl) (by kernel_rfl) (of_decide_eq_true (by kernel_rfl)) h
@[go_sem] theorem go51:goFunc Tryz.prog 51=true:=by kernel_rfl
def c52code:Code:=match Tryz.f52.body with | some c=>c | none=>.skip
def c52S0(_:Unit):Cmd:=(.cond (.tmp 32)
 (.seq (.ops [
 ⟨some 2,.assign (.const (.int .i64 33)),29,none⟩] [2])
 .ret)
 (.seq (.ops [
 ⟨some 64,.fieldAddr 38 (.tmp 1) 9,0,none⟩,
 ⟨some 65,.load 3 (.tmp 64),3,none⟩,
 ⟨some 66,.binOp .lss 3 (.tmp 65) (.const (.int .i64 0)) 3,4,none⟩,
 ⟨some 67,.move (.tmp 66),4,none⟩,
 ⟨some 68,.fieldAddr 38 (.tmp 1) 9,0,(some (67,false))⟩,
 ⟨some 69,.load 3 (.tmp 68),3,(some (67,false))⟩,
 ⟨some 70,.binOp .gtr 3 (.tmp 69) (.const (.int .i64 1099511627776)) 3,4,(some (67,false))⟩,
 ⟨some 71,.pick (.tmp 67) (.const (.bool true)) (.tmp 70),4,none⟩,
 ⟨some 72,.move (.tmp 71),4,none⟩,
 ⟨some 73,.fieldAddr 38 (.tmp 1) 7,0,(some (72,false))⟩,
 ⟨some 74,.load 4 (.tmp 73),4,(some (72,false))⟩,
 ⟨some 75,.move (.tmp 74),4,(some (72,false))⟩,
 ⟨some 76,.fieldAddr 38 (.tmp 1) 10,0,(some (75,true))⟩,
 ⟨some 77,.load 3 (.tmp 76),3,(some (75,true))⟩,
 ⟨some 78,.fieldAddr 38 (.tmp 1) 9,0,(some (75,true))⟩,
 ⟨some 79,.load 3 (.tmp 78),3,(some (75,true))⟩,
 ⟨some 80,.binOp .leq 3 (.tmp 77) (.tmp 79) 3,4,(some (75,true))⟩,
 ⟨some 81,.move (.tmp 80),4,(some (75,true))⟩,
 ⟨some 82,.fieldAddr 38 (.tmp 1) 10,0,(some (81,false))⟩,
 ⟨some 83,.load 3 (.tmp 82),3,(some (81,false))⟩,
 ⟨some 84,.binOp .gtr 3 (.tmp 83) (.const (.int .i64 1099511627776)) 3,4,(some (81,false))⟩,
 ⟨some 85,.pick (.tmp 81) (.const (.bool true)) (.tmp 84),4,(some (75,true))⟩,
 ⟨some 86,.pick (.tmp 75) (.tmp 85) (.const (.bool false)),4,(some (72,false))⟩,
 ⟨some 87,.pick (.tmp 72) (.const (.bool true)) (.tmp 86),4,none⟩,
 ⟨some 88,.move (.tmp 87),4,none⟩,
 ⟨some 89,.fieldAddr 38 (.tmp 1) 7,0,(some (88,false))⟩,
 ⟨some 90,.load 4 (.tmp 89),4,(some (88,false))⟩,
 ⟨some 91,.unOp .not 4 (.tmp 90),4,(some (88,false))⟩,
 ⟨some 92,.move (.tmp 91),4,(some (88,false))⟩,
 ⟨some 93,.fieldAddr 38 (.tmp 1) 10,0,(some (92,true))⟩,
 ⟨some 94,.load 3 (.tmp 93),3,(some (92,true))⟩,
 ⟨some 95,.binOp .neq 3 (.tmp 94) (.const (.int .i64 0)) 3,4,(some (92,true))⟩,
 ⟨some 96,.pick (.tmp 92) (.tmp 95) (.const (.bool false)),4,(some (88,false))⟩,
 ⟨some 97,.pick (.tmp 88) (.const (.bool true)) (.tmp 96),4,none⟩,
 ⟨some 63,.assign (.tmp 97),4,none⟩] [63])
 (.cond (.tmp 63)
 (.seq (.ops [
 ⟨some 2,.assign (.const (.int .i64 31)),29,none⟩] [2])
 .ret)
 (.skip []))))
def c52S1(_:Unit):Cmd:=(.seq (.ops [
 ⟨some 2,.assign (.const (.int .i64 0)),29,none⟩] [2])
 .ret)
def c52:Cmd:=(.seq (.ops [
 ⟨some 1,.box 38 (.tmp 0),0,none⟩,
 ⟨some 2,.assign (.const (.int .i64 0)),29,none⟩] [1])
 (.seq (.block 0 (.seq (.ops [
 ⟨some 4,.fieldAddr 38 (.tmp 1) 0,0,none⟩,
 ⟨some 5,.load 3 (.tmp 4),3,none⟩,
 ⟨some 6,.binOp .lss 3 (.tmp 5) (.const (.int .i64 1)) 3,4,none⟩,
 ⟨some 7,.move (.tmp 6),4,none⟩,
 ⟨some 8,.fieldAddr 38 (.tmp 1) 0,0,(some (7,false))⟩,
 ⟨some 9,.load 3 (.tmp 8),3,(some (7,false))⟩,
 ⟨some 10,.binOp .gtr 3 (.tmp 9) (.const (.int .i64 1073741824)) 3,4,(some (7,false))⟩,
 ⟨some 11,.pick (.tmp 7) (.const (.bool true)) (.tmp 10),4,none⟩,
 ⟨some 12,.move (.tmp 11),4,none⟩,
 ⟨some 13,.fieldAddr 38 (.tmp 1) 1,0,(some (12,false))⟩,
 ⟨some 14,.load 3 (.tmp 13),3,(some (12,false))⟩,
 ⟨some 15,.binOp .lss 3 (.tmp 14) (.const (.int .i64 0)) 3,4,(some (12,false))⟩,
 ⟨some 16,.pick (.tmp 12) (.const (.bool true)) (.tmp 15),4,none⟩,
 ⟨some 17,.move (.tmp 16),4,none⟩,
 ⟨some 18,.fieldAddr 38 (.tmp 1) 1,0,(some (17,false))⟩,
 ⟨some 19,.load 3 (.tmp 18),3,(some (17,false))⟩,
 ⟨some 20,.binOp .gtr 3 (.tmp 19) (.const (.int .i64 1023)) 3,4,(some (17,false))⟩,
 ⟨some 21,.pick (.tmp 17) (.const (.bool true)) (.tmp 20),4,none⟩,
 ⟨some 22,.move (.tmp 21),4,none⟩,
 ⟨some 23,.fieldAddr 38 (.tmp 1) 2,0,(some (22,false))⟩,
 ⟨some 24,.load 3 (.tmp 23),3,(some (22,false))⟩,
 ⟨some 25,.binOp .lss 3 (.tmp 24) (.const (.int .i64 0)) 3,4,(some (22,false))⟩,
 ⟨some 26,.pick (.tmp 22) (.const (.bool true)) (.tmp 25),4,none⟩,
 ⟨some 27,.move (.tmp 26),4,none⟩,
 ⟨some 28,.fieldAddr 38 (.tmp 1) 2,0,(some (27,false))⟩,
 ⟨some 29,.load 3 (.tmp 28),3,(some (27,false))⟩,
 ⟨some 30,.binOp .gtr 3 (.tmp 29) (.const (.int .i64 1023)) 3,4,(some (27,false))⟩,
 ⟨some 31,.pick (.tmp 27) (.const (.bool true)) (.tmp 30),4,none⟩,
 ⟨some 3,.assign (.tmp 31),4,none⟩] [1,3])
 (.cond (.tmp 3)
 (.seq (.ops [
 ⟨some 2,.assign (.const (.int .i64 30)),29,none⟩] [2])
 .ret)
 (.seq (.ops [
 ⟨some 33,.fieldAddr 38 (.tmp 1) 3,0,none⟩,
 ⟨some 34,.load 3 (.tmp 33),3,none⟩,
 ⟨some 35,.fieldAddr 38 (.tmp 1) 4,0,none⟩,
 ⟨some 36,.load 3 (.tmp 35),3,none⟩,
 ⟨some 37,.call ⟨.value (.func 75),#[(.tmp 34),(.tmp 36)],#[3,3]⟩,4,none⟩,
 ⟨some 38,.unOp .not 4 (.tmp 37),4,none⟩,
 ⟨some 39,.move (.tmp 38),4,none⟩,
 ⟨some 40,.load 38 (.tmp 1),38,(some (39,false))⟩,
 ⟨some 41,.call ⟨.value (.func 76),#[(.tmp 40)],#[38]⟩,4,(some (39,false))⟩,
 ⟨some 42,.unOp .not 4 (.tmp 41),4,(some (39,false))⟩,
 ⟨some 43,.pick (.tmp 39) (.const (.bool true)) (.tmp 42),4,none⟩,
 ⟨some 44,.move (.tmp 43),4,none⟩,
 ⟨some 45,.fieldAddr 38 (.tmp 1) 7,0,(some (44,false))⟩,
 ⟨some 46,.load 4 (.tmp 45),4,(some (44,false))⟩,
 ⟨some 47,.move (.tmp 46),4,(some (44,false))⟩,
 ⟨some 48,.load 38 (.tmp 1),38,(some (47,true))⟩,
 ⟨some 49,.call ⟨.value (.func 77),#[(.tmp 48)],#[38]⟩,4,(some (47,true))⟩,
 ⟨some 50,.unOp .not 4 (.tmp 49),4,(some (47,true))⟩,
 ⟨some 51,.pick (.tmp 47) (.tmp 50) (.const (.bool false)),4,(some (44,false))⟩,
 ⟨some 52,.pick (.tmp 44) (.const (.bool true)) (.tmp 51),4,none⟩,
 ⟨some 53,.move (.tmp 52),4,none⟩,
 ⟨some 54,.fieldAddr 38 (.tmp 1) 7,0,(some (53,false))⟩,
 ⟨some 55,.load 4 (.tmp 54),4,(some (53,false))⟩,
 ⟨some 56,.unOp .not 4 (.tmp 55),4,(some (53,false))⟩,
 ⟨some 57,.move (.tmp 56),4,(some (53,false))⟩,
 ⟨some 58,.fieldAddr 38 (.tmp 1) 8,0,(some (57,true))⟩,
 ⟨some 59,.load 3 (.tmp 58),3,(some (57,true))⟩,
 ⟨some 60,.binOp .neq 3 (.tmp 59) (.const (.int .i64 0)) 3,4,(some (57,true))⟩,
 ⟨some 61,.pick (.tmp 57) (.tmp 60) (.const (.bool false)),4,(some (53,false))⟩,
 ⟨some 62,.pick (.tmp 53) (.const (.bool true)) (.tmp 61),4,none⟩,
 ⟨some 32,.assign (.tmp 62),4,none⟩] [1,32]) (sg c52S0))))) (sg c52S1)))
attribute [go_sem] c52 c52S1
theorem ent52(a0:Value)(w:World)(K:Value→World→Prop)(h:W Tryz.prog c52 [(0,a0)] w (finQ Tryz.prog [.tmp 2] K)):Ret Tryz.prog 52 [a0] w K :=
 Ret_of_W (code:=c52code) Tryz.func52 (by kernel_rfl) (by kernel_rfl) (of_decide_eq_true (by kernel_rfl)) h
@[go_sem] theorem go52:goFunc Tryz.prog 52=true:=by kernel_rfl
def c53code:Code:=match Tryz.f53.body with | some c=>c | none=>.skip
def c53S0(_:Unit):Cmd:=(.cond (.tmp 11)
 (.seq (.ops [
 ⟨some 4,.assign (.const (.int .i64 32)),29,none⟩] [4])
 .ret)
 (.skip []))
def c53S1(_:Unit):Cmd:=(.cond (.tmp 7)
 (.seq (.ops [
 ⟨some 4,.assign (.const (.int .i64 33)),29,none⟩] [4])
 .ret)
 (.seq (.ops [
 ⟨some 12,.move (.tmp 5),131,none⟩,
 ⟨some 13,.makeFunc (.func 82) #[] #[(.tmp 3)],92,none⟩,
 ⟨some 14,.call ⟨.value (.tmp 12),#[(.tmp 13)],#[92]⟩,4,none⟩,
 ⟨some 11,.assign (.tmp 14),4,none⟩] [11]) (sg c53S0)))
def c53S2(_:Unit):Cmd:=(.seq (.ops [
 ⟨some 4,.assign (.const (.int .i64 0)),29,none⟩] [4])
 .ret)
def c53:Cmd:=(.seq (.ops [
 ⟨some 2,.box 22 (.tmp 0),0,none⟩,
 ⟨some 3,.box 38 (.tmp 1),0,none⟩,
 ⟨some 4,.assign (.const (.int .i64 0)),29,none⟩] [2,3])
 (.seq (.ops [
 ⟨some 6,.makeFunc (.func 78) #[] #[(.tmp 2),(.tmp 3)],131,none⟩,
 ⟨some 5,.assign (.tmp 6),131,none⟩] [3,5])
 (.seq (.block 0 (.seq (.ops [
 ⟨some 8,.move (.tmp 5),131,none⟩,
 ⟨some 9,.makeFunc (.func 81) #[] #[(.tmp 3)],92,none⟩,
 ⟨some 10,.call ⟨.value (.tmp 8),#[(.tmp 9)],#[92]⟩,4,none⟩,
 ⟨some 7,.assign (.tmp 10),4,none⟩] [3,5,7]) (sg c53S1))) (sg c53S2))))
attribute [go_sem] c53 c53S0 c53S1 c53S2
theorem ent53(a0 a1:Value)(w:World)(K:Value→World→Prop)(h:W Tryz.prog c53 [(0,a0),(1,a1)] w (finQ Tryz.prog [.tmp 4] K)):Ret Tryz.prog 53 [a0,a1] w K :=
 Ret_of_W (code:=c53code) Tryz.func53 (by kernel_rfl) (by kernel_rfl) (of_decide_eq_true (by kernel_rfl)) h
@[go_sem] theorem go53:goFunc Tryz.prog 53=true:=by kernel_rfl
def c54code:Code:=match Tryz.f54.body with | some c=>c | none=>.skip
def c54S0(_:Unit):Cmd:=.ret
def c54:Cmd:=(.seq (.ops [
 ⟨some 2,.box 38 (.tmp 0),0,none⟩,
 ⟨some 3,.box 38 (.tmp 1),0,none⟩,
 ⟨some 4,.assign (.const (.int .i64 0)),3,none⟩] [2,3])
 (.seq (.draw (drawOps 0 c54code) [4]) (sg c54S0)))
attribute [go_sem] c54 c54S0
def c54D0:List (Nat × Ins):=[
 (0,⟨some 5,.fieldAddr 38 (.tmp 2) 2,0,none⟩),
 (0,⟨some 7,.fieldAddr 38 (.tmp 3) 2,0,none⟩),
 (1,⟨some 6,.load 3 (.tmp 5),3,none⟩),
 (1,⟨some 8,.load 3 (.tmp 7),3,none⟩),
 (1,⟨some 10,.load 38 (.tmp 2),38,none⟩),
 (1,⟨some 11,.load 38 (.tmp 3),38,none⟩),
 (2,⟨some 9,.call ⟨.value (.func 43),#[(.tmp 6),(.tmp 8)],#[3,3]⟩,3,none⟩),
 (2,⟨some 12,.call ⟨.value (.func 56),#[(.tmp 10),(.tmp 11)],#[38,38]⟩,3,none⟩),
 (2,⟨some 13,.buildSlice 66 2 #[(0,(.tmp 9)),(1,(.tmp 12))],66,none⟩),
 (2,⟨some 14,.call ⟨.value (.func 55),#[(.tmp 13)],#[66]⟩,3,none⟩),
 (0,⟨some 4,.assign (.tmp 14),3,none⟩)]
theorem c54draw0{L:List Nat}{ρ:Env}{w:World}{Q:Post}(S:World→Prop)(hS:S w.drew)(h:DG Tryz.prog S c54D0 L ρ w.drew Q):drawW Tryz.prog (drawOps 0 c54code) L ρ w Q :=
 drawW_held [1,3,5,6] [(0,0),(0,2),(1,1),(1,3),(1,5),(1,6),(2,4),(2,7),(2,8),(2,9),(0,10)] c54D0 (by kernel_rfl) (by kernel_rfl) (by kernel_rfl) S hS h
theorem ent54(a0 a1:Value)(w:World)(K:Value→World→Prop)(h:W Tryz.prog c54 [(0,a0),(1,a1)] w (finQ Tryz.prog [.tmp 4] K)):Ret Tryz.prog 54 [a0,a1] w K :=
 Ret_of_W (code:=c54code) Tryz.func54 (by kernel_rfl) (by kernel_rfl) (of_decide_eq_true (by kernel_rfl)) h
@[go_sem] theorem go54:goFunc Tryz.prog 54=true:=by kernel_rfl
def c55code:Code:=match Tryz.f55.body with | some c=>c | none=>.skip
def c55S0(_:Unit):Cmd:=(.ops [
 ⟨some 16,.binOp .add 3 (.tmp 8) (.const (.int .i64 1)) 3,3,none⟩,
 ⟨some 8,.move (.tmp 16),3,none⟩] [3,6,7,8])
def c55S1(_:Unit):Cmd:=(.seq (.block 1 (.seq (.ops [
 ⟨some 10,.indexAddr 66 (.tmp 6) (.tmp 8),0,none⟩,
 ⟨some 11,.load 3 (.tmp 10),3,none⟩,
 ⟨some 5,.assign (.tmp 11),3,none⟩] [3,5,6,7,8])
 (.seq (.ops [
 ⟨some 12,.move (.tmp 5),3,none⟩,
 ⟨some 13,.move (.tmp 3),3,none⟩,
 ⟨some 14,.binOp .neq 3 (.tmp 12) (.tmp 13) 3,4,none⟩] [3,5,6,7,8,14])
 (.cond (.tmp 14)
 (.seq (.ops [
 ⟨some 15,.move (.tmp 5),3,none⟩,
 ⟨some 2,.assign (.tmp 15),3,none⟩] [2])
 .ret)
 (.skip [3,6,7,8]))))) (sg c55S0))
def c55L0(_:Unit):Cmd:=(.seq (.ops [
 ⟨some 9,.binOp .lss 3 (.tmp 8) (.tmp 7) 3,0,none⟩] [3,6,7,8,9])
 (.seq (.cond (.tmp 9)
 (.skip [3,6,7,8])
 (.exit 0 [3])) (sg c55S1)))
def c55S2(_:Unit):Cmd:=(.seq (.ops [
 ⟨some 17,.move (.tmp 3),3,none⟩,
 ⟨some 2,.assign (.tmp 17),3,none⟩] [2])
 .ret)
def c55:Cmd:=(.seq (.ops [
 ⟨some 2,.assign (.const (.int .i64 0)),3,none⟩] [0])
 (.seq (.ops [
 ⟨some 3,.assign (.const (.int .i64 0)),3,none⟩] [0,3])
 (.seq (.seq (.ops [
 ⟨some 6,.move (.tmp 0),66,none⟩,
 ⟨some 7,.call ⟨.builtin .len,#[(.tmp 6)],#[66]⟩,3,none⟩,
 ⟨some 8,.move (.const (.int .i64 0)),3,none⟩] [3,6,7,8])
 (.block 0 (.loop (sg c55L0)))) (sg c55S2))))
attribute [go_sem] c55 c55S0 c55S1 c55L0 c55S2
theorem ent55(a0:Value)(w:World)(K:Value→World→Prop)(h:W Tryz.prog c55 [(0,a0)] w (finQ Tryz.prog [.tmp 2] K)):Ret Tryz.prog 55 [a0] w K :=
 Ret_of_W (code:=c55code) Tryz.func55 (by kernel_rfl) (by kernel_rfl) (of_decide_eq_true (by kernel_rfl)) h
@[go_sem] theorem go55:goFunc Tryz.prog 55=true:=by kernel_rfl
def c56code:Code:=match Tryz.f56.body with | some c=>c | none=>.skip
def c56S0(_:Unit):Cmd:=.ret
def c56:Cmd:=(.seq (.ops [
 ⟨some 2,.box 38 (.tmp 0),0,none⟩,
 ⟨some 3,.box 38 (.tmp 1),0,none⟩,
 ⟨some 4,.assign (.const (.int .i64 0)),3,none⟩] [2,3])
 (.seq (.draw (drawOps 0 c56code) [4]) (sg c56S0)))
attribute [go_sem] c56 c56S0
def c56D0:List (Nat × Ins):=[
 (0,⟨some 5,.fieldAddr 38 (.tmp 2) 9,0,none⟩),
 (0,⟨some 7,.fieldAddr 38 (.tmp 3) 9,0,none⟩),
 (0,⟨some 10,.fieldAddr 38 (.tmp 2) 0,0,none⟩),
 (0,⟨some 12,.fieldAddr 38 (.tmp 3) 0,0,none⟩),
 (1,⟨some 6,.load 3 (.tmp 5),3,none⟩),
 (1,⟨some 8,.load 3 (.tmp 7),3,none⟩),
 (1,⟨some 11,.load 3 (.tmp 10),3,none⟩),
 (1,⟨some 13,.load 3 (.tmp 12),3,none⟩),
 (2,⟨some 9,.call ⟨.value (.func 43),#[(.tmp 6),(.tmp 8)],#[3,3]⟩,3,none⟩),
 (2,⟨some 14,.call ⟨.value (.func 43),#[(.tmp 11),(.tmp 13)],#[3,3]⟩,3,none⟩),
 (2,⟨some 15,.buildSlice 66 2 #[(0,(.tmp 9)),(1,(.tmp 14))],66,none⟩),
 (2,⟨some 16,.call ⟨.value (.func 55),#[(.tmp 15)],#[66]⟩,3,none⟩),
 (0,⟨some 4,.assign (.tmp 16),3,none⟩)]
theorem c56draw0{L:List Nat}{ρ:Env}{w:World}{Q:Post}(S:World→Prop)(hS:S w.drew)(h:DG Tryz.prog S c56D0 L ρ w.drew Q):drawW Tryz.prog (drawOps 0 c56code) L ρ w Q :=
 drawW_held [1,3,6,8] [(0,0),(0,2),(0,5),(0,7),(1,1),(1,3),(1,6),(1,8),(2,4),(2,9),(2,10),(2,11),(0,12)] c56D0 (by kernel_rfl) (by kernel_rfl) (by kernel_rfl) S hS h
theorem ent56(a0 a1:Value)(w:World)(K:Value→World→Prop)(h:W Tryz.prog c56 [(0,a0),(1,a1)] w (finQ Tryz.prog [.tmp 4] K)):Ret Tryz.prog 56 [a0,a1] w K :=
 Ret_of_W (code:=c56code) Tryz.func56 (by kernel_rfl) (by kernel_rfl) (of_decide_eq_true (by kernel_rfl)) h
@[go_sem] theorem go56:goFunc Tryz.prog 56=true:=by kernel_rfl
def c57code:Code:=match Tryz.f57.body with | some c=>c | none=>.skip
def c57S0(_:Unit):Cmd:=(.cond (.tmp 22)
 (.seq (.ops [
 ⟨some 2,.assign (.const (.int .i64 30)),3,none⟩] [2])
 .ret)
 (.skip [1]))
def c57S1(_:Unit):Cmd:=(.cond (.tmp 50)
 (.seq (.ops [
 ⟨some 2,.assign (.const (.int .i64 33)),3,none⟩] [2])
 .ret)
 (.skip [1,3]))
def c57S2(_:Unit):Cmd:=(.cond (.tmp 70)
 (.seq (.ops [
 ⟨some 2,.assign (.const (.int .i64 33)),3,none⟩] [2])
 .ret)
 (.skip [1]))
def c57S3(_:Unit):Cmd:=(.cond (.tmp 84)
 (.seq (.ops [
 ⟨some 2,.assign (.const (.int .i64 31)),3,none⟩] [2])
 .ret)
 (.skip [1]))
def c57S4(_:Unit):Cmd:=(.seq (.ops [
 ⟨some 2,.assign (.const (.int .i64 0)),3,none⟩] [2])
 .ret)
def c57S5(_:Unit):Cmd:=(.seq (.seq (.ops [
 ⟨some 85,.fieldAddr 38 (.tmp 1) 7,0,none⟩,
 ⟨some 86,.load 4 (.tmp 85),4,none⟩,
 ⟨some 87,.move (.tmp 86),4,none⟩,
 ⟨some 88,.fieldAddr 38 (.tmp 1) 10,0,(some (87,true))⟩,
 ⟨some 89,.load 3 (.tmp 88),3,(some (87,true))⟩,
 ⟨some 90,.fieldAddr 38 (.tmp 1) 9,0,(some (87,true))⟩,
 ⟨some 91,.load 3 (.tmp 90),3,(some (87,true))⟩,
 ⟨some 92,.binOp .leq 3 (.tmp 89) (.tmp 91) 3,4,(some (87,true))⟩,
 ⟨some 93,.move (.tmp 92),4,(some (87,true))⟩,
 ⟨some 94,.fieldAddr 38 (.tmp 1) 10,0,(some (93,false))⟩,
 ⟨some 95,.load 3 (.tmp 94),3,(some (93,false))⟩,
 ⟨some 96,.binOp .gtr 3 (.tmp 95) (.const (.int .i64 1099511627776)) 3,4,(some (93,false))⟩,
 ⟨some 97,.pick (.tmp 93) (.const (.bool true)) (.tmp 96),4,(some (87,true))⟩,
 ⟨some 98,.pick (.tmp 87) (.tmp 97) (.const (.bool false)),4,none⟩] [98])
 (.cond (.tmp 98)
 (.seq (.ops [
 ⟨some 2,.assign (.const (.int .i64 31)),3,none⟩] [2])
 .ret)
 (.skip []))) (sg c57S4))
def c57S6(_:Unit):Cmd:=(.seq (.seq (.ops [
 ⟨some 71,.fieldAddr 38 (.tmp 1) 9,0,none⟩,
 ⟨some 72,.load 3 (.tmp 71),3,none⟩,
 ⟨some 73,.call ⟨.value (.func 84),#[(.tmp 72),(.const (.int .i64 0)),(.const (.int .i64 1099511627776))],#[3,3,3]⟩,4,none⟩,
 ⟨some 74,.unOp .not 4 (.tmp 73),4,none⟩,
 ⟨some 75,.move (.tmp 74),4,none⟩,
 ⟨some 76,.fieldAddr 38 (.tmp 1) 7,0,(some (75,false))⟩,
 ⟨some 77,.load 4 (.tmp 76),4,(some (75,false))⟩,
 ⟨some 78,.unOp .not 4 (.tmp 77),4,(some (75,false))⟩,
 ⟨some 79,.move (.tmp 78),4,(some (75,false))⟩,
 ⟨some 80,.fieldAddr 38 (.tmp 1) 10,0,(some (79,true))⟩,
 ⟨some 81,.load 3 (.tmp 80),3,(some (79,true))⟩,
 ⟨some 82,.binOp .neq 3 (.tmp 81) (.const (.int .i64 0)) 3,4,(some (79,true))⟩,
 ⟨some 83,.pick (.tmp 79) (.tmp 82) (.const (.bool false)),4,(some (75,false))⟩,
 ⟨some 84,.pick (.tmp 75) (.const (.bool true)) (.tmp 83),4,none⟩] [1,84]) (sg c57S3)) (sg c57S5))
def c57S7(_:Unit):Cmd:=(.seq (.seq (.ops [
 ⟨some 51,.fieldAddr 38 (.tmp 1) 7,0,none⟩,
 ⟨some 52,.load 4 (.tmp 51),4,none⟩,
 ⟨some 53,.move (.tmp 52),4,none⟩,
 ⟨some 54,.fieldAddr 38 (.tmp 1) 8,0,(some (53,true))⟩,
 ⟨some 55,.load 3 (.tmp 54),3,(some (53,true))⟩,
 ⟨some 56,.fieldAddr 134 (.tmp 3) 3,0,(some (53,true))⟩,
 ⟨some 57,.load 3 (.tmp 56),3,(some (53,true))⟩,
 ⟨some 58,.call ⟨.value (.func 86),#[(.tmp 55),(.tmp 57)],#[3,3]⟩,4,(some (53,true))⟩,
 ⟨some 59,.unOp .not 4 (.tmp 58),4,(some (53,true))⟩,
 ⟨some 60,.pick (.tmp 53) (.tmp 59) (.const (.bool false)),4,none⟩,
 ⟨some 61,.move (.tmp 60),4,none⟩,
 ⟨some 62,.fieldAddr 38 (.tmp 1) 7,0,(some (61,false))⟩,
 ⟨some 63,.load 4 (.tmp 62),4,(some (61,false))⟩,
 ⟨some 64,.unOp .not 4 (.tmp 63),4,(some (61,false))⟩,
 ⟨some 65,.move (.tmp 64),4,(some (61,false))⟩,
 ⟨some 66,.fieldAddr 38 (.tmp 1) 8,0,(some (65,true))⟩,
 ⟨some 67,.load 3 (.tmp 66),3,(some (65,true))⟩,
 ⟨some 68,.binOp .neq 3 (.tmp 67) (.const (.int .i64 0)) 3,4,(some (65,true))⟩,
 ⟨some 69,.pick (.tmp 65) (.tmp 68) (.const (.bool false)),4,(some (61,false))⟩,
 ⟨some 70,.pick (.tmp 61) (.const (.bool true)) (.tmp 69),4,none⟩] [1,70]) (sg c57S2)) (sg c57S6))
def c57S8(_:Unit):Cmd:=(.seq (.seq (.ops [
 ⟨some 39,.fieldAddr 38 (.tmp 1) 5,0,none⟩,
 ⟨some 40,.load 3 (.tmp 39),3,none⟩,
 ⟨some 41,.move (.tmp 5),3,none⟩,
 ⟨some 42,.call ⟨.value (.func 84),#[(.tmp 40),(.const (.int .i64 0)),(.tmp 41)],#[3,3,3]⟩,4,none⟩,
 ⟨some 43,.unOp .not 4 (.tmp 42),4,none⟩,
 ⟨some 44,.move (.tmp 43),4,none⟩,
 ⟨some 45,.fieldAddr 38 (.tmp 1) 6,0,(some (44,false))⟩,
 ⟨some 46,.load 3 (.tmp 45),3,(some (44,false))⟩,
 ⟨some 47,.move (.tmp 6),3,(some (44,false))⟩,
 ⟨some 48,.call ⟨.value (.func 84),#[(.tmp 46),(.const (.int .i64 0)),(.tmp 47)],#[3,3,3]⟩,4,(some (44,false))⟩,
 ⟨some 49,.unOp .not 4 (.tmp 48),4,(some (44,false))⟩,
 ⟨some 50,.pick (.tmp 44) (.const (.bool true)) (.tmp 49),4,none⟩] [1,3,50]) (sg c57S1)) (sg c57S7))
def c57S9(_:Unit):Cmd:=(.seq (.seq (.ops [
 ⟨some 36,.fieldAddr 134 (.tmp 3) 2,0,none⟩,
 ⟨some 37,.load 3 (.tmp 36),3,none⟩,
 ⟨some 38,.binOp .geq 3 (.tmp 37) (.const (.int .i64 2)) 3,4,none⟩] [1,3,5,6,38])
 (.cond (.tmp 38)
 (.ops [
 ⟨some 6,.assign (.const (.int .i64 1073741824)),3,none⟩] [1,3,5,6])
 (.skip [1,3,5,6]))) (sg c57S8))
def c57S10(_:Unit):Cmd:=(.seq (.ops [
 ⟨some 5,.assign (.const (.int .i64 0)),3,none⟩,
 ⟨some 6,.assign (.const (.int .i64 0)),3,none⟩] [1,3,5,6])
 (.seq (.seq (.ops [
 ⟨some 33,.fieldAddr 134 (.tmp 3) 2,0,none⟩,
 ⟨some 34,.load 3 (.tmp 33),3,none⟩,
 ⟨some 35,.binOp .geq 3 (.tmp 34) (.const (.int .i64 1)) 3,4,none⟩] [1,3,5,6,35])
 (.cond (.tmp 35)
 (.ops [
 ⟨some 5,.assign (.const (.int .i64 1073741824)),3,none⟩] [1,3,5,6])
 (.skip [1,3,5,6]))) (sg c57S9)))
def c57S11(_:Unit):Cmd:=(.seq (.seq (.ops [
 ⟨some 31,.move (.tmp 4),4,none⟩,
 ⟨some 32,.unOp .not 4 (.tmp 31),4,none⟩] [1,3,32])
 (.cond (.tmp 32)
 (.seq (.ops [
 ⟨some 2,.assign (.const (.int .i64 33)),3,none⟩] [2])
 .ret)
 (.skip [1,3]))) (sg c57S10))
def c57S12(_:Unit):Cmd:=(.seq (.ops [
 ⟨some 24,.fieldAddr 38 (.tmp 1) 3,0,none⟩,
 ⟨some 25,.load 3 (.tmp 24),3,none⟩,
 ⟨some 26,.fieldAddr 38 (.tmp 1) 4,0,none⟩,
 ⟨some 27,.load 3 (.tmp 26),3,none⟩,
 ⟨some 28,.call ⟨.value (.func 85),#[(.tmp 25),(.tmp 27)],#[3,3]⟩,135,none⟩,
 ⟨some 23,.move (.tmp 28),135,none⟩,
 ⟨some 29,.extract (.tmp 23) 0,134,none⟩,
 ⟨some 30,.extract (.tmp 23) 1,4,none⟩,
 ⟨some 3,.alloc 134,0,none⟩,
 ⟨none,.store 134 (.tmp 3) (.tmp 29),0,none⟩,
 ⟨some 4,.assign (.tmp 30),4,none⟩] [1,3,4]) (sg c57S11))
def c57:Cmd:=(.seq (.ops [
 ⟨some 1,.box 38 (.tmp 0),0,none⟩,
 ⟨some 2,.assign (.const (.int .i64 0)),3,none⟩] [1])
 (.seq (.seq (.ops [
 ⟨some 7,.fieldAddr 38 (.tmp 1) 0,0,none⟩,
 ⟨some 8,.load 3 (.tmp 7),3,none⟩,
 ⟨some 9,.call ⟨.value (.func 84),#[(.tmp 8),(.const (.int .i64 1)),(.const (.int .i64 1073741824))],#[3,3,3]⟩,4,none⟩,
 ⟨some 10,.unOp .not 4 (.tmp 9),4,none⟩,
 ⟨some 11,.move (.tmp 10),4,none⟩,
 ⟨some 12,.fieldAddr 38 (.tmp 1) 1,0,(some (11,false))⟩,
 ⟨some 13,.load 3 (.tmp 12),3,(some (11,false))⟩,
 ⟨some 14,.call ⟨.value (.func 84),#[(.tmp 13),(.const (.int .i64 0)),(.const (.int .i64 1023))],#[3,3,3]⟩,4,(some (11,false))⟩,
 ⟨some 15,.unOp .not 4 (.tmp 14),4,(some (11,false))⟩,
 ⟨some 16,.pick (.tmp 11) (.const (.bool true)) (.tmp 15),4,none⟩,
 ⟨some 17,.move (.tmp 16),4,none⟩,
 ⟨some 18,.fieldAddr 38 (.tmp 1) 2,0,(some (17,false))⟩,
 ⟨some 19,.load 3 (.tmp 18),3,(some (17,false))⟩,
 ⟨some 20,.call ⟨.value (.func 84),#[(.tmp 19),(.const (.int .i64 0)),(.const (.int .i64 1023))],#[3,3,3]⟩,4,(some (17,false))⟩,
 ⟨some 21,.unOp .not 4 (.tmp 20),4,(some (17,false))⟩,
 ⟨some 22,.pick (.tmp 17) (.const (.bool true)) (.tmp 21),4,none⟩] [1,22]) (sg c57S0)) (sg c57S12)))
attribute [go_sem] c57 c57S0 c57S1 c57S2 c57S3 c57S4 c57S5 c57S7 c57S9 c57S10
theorem ent57(a0:Value)(w:World)(K:Value→World→Prop)(h:W Tryz.prog c57 [(0,a0)] w (finQ Tryz.prog [.tmp 2] K)):Ret Tryz.prog 57 [a0] w K :=
 Ret_of_W (code:=c57code) Tryz.func57 (by kernel_rfl) (by kernel_rfl) (of_decide_eq_true (by kernel_rfl)) h
@[go_sem] theorem go57:goFunc Tryz.prog 57=true:=by kernel_rfl
def c58code:Code:=match Tryz.f58.body with | some c=>c | none=>.skip
def c58S0(_:Unit):Cmd:=(.cond (.tmp 40)
 (.seq (.ops [
 ⟨some 4,.assign (.const (.int .i64 33)),3,none⟩] [4])
 .ret)
 (.skip [0,3,5]))
def c58S1(_:Unit):Cmd:=(.ops [
 ⟨some 11,.move (.tmp 5),3,none⟩,
 ⟨some 12,.binOp .add 3 (.tmp 11) (.const (.int .i64 1)) 3,3,none⟩,
 ⟨some 5,.assign (.tmp 12),3,none⟩] [0,3,5])
def c58S2(_:Unit):Cmd:=(.seq (.block 1 (.seq (.draw (drawOps 0 c58code) [0,3,5,40]) (sg c58S0))) (sg c58S1))
def c58L0(_:Unit):Cmd:=(.seq (.seq (.ops [
 ⟨some 7,.move (.tmp 5),3,none⟩,
 ⟨some 8,.move (.tmp 0),22,none⟩,
 ⟨some 9,.call ⟨.builtin .len,#[(.tmp 8)],#[22]⟩,3,none⟩,
 ⟨some 10,.binOp .lss 3 (.tmp 7) (.tmp 9) 3,4,none⟩] [0,3,5,10])
 (.cond (.tmp 10)
 (.skip [0,3,5])
 (.exit 0 [0,3]))) (sg c58S2))
def c58S3(_:Unit):Cmd:=(.cond (.tmp 82)
 (.seq (.ops [
 ⟨some 4,.assign (.const (.int .i64 32)),3,none⟩] [4])
 .ret)
 (.skip [0,3,6]))
def c58S4(_:Unit):Cmd:=(.ops [
 ⟨some 45,.move (.tmp 6),3,none⟩,
 ⟨some 46,.binOp .add 3 (.tmp 45) (.const (.int .i64 1)) 3,3,none⟩,
 ⟨some 6,.assign (.tmp 46),3,none⟩] [0,3,6])
def c58S5(_:Unit):Cmd:=(.seq (.block 3 (.seq (.draw (drawOps 1 c58code) [0,3,6,82]) (sg c58S3))) (sg c58S4))
def c58L1(_:Unit):Cmd:=(.seq (.seq (.ops [
 ⟨some 41,.move (.tmp 6),3,none⟩,
 ⟨some 42,.move (.tmp 0),22,none⟩,
 ⟨some 43,.call ⟨.builtin .len,#[(.tmp 42)],#[22]⟩,3,none⟩,
 ⟨some 44,.binOp .lss 3 (.tmp 41) (.tmp 43) 3,4,none⟩] [0,3,6,44])
 (.cond (.tmp 44)
 (.skip [0,3,6])
 (.exit 2 []))) (sg c58S5))
def c58S6(_:Unit):Cmd:=(.seq (.ops [
 ⟨some 4,.assign (.const (.int .i64 0)),3,none⟩] [4])
 .ret)
def c58S7(_:Unit):Cmd:=(.seq (.seq (.ops [
 ⟨some 6,.assign (.const (.int .i64 0)),3,none⟩] [0,3,6])
 (.block 2 (.loop (sg c58L1)))) (sg c58S6))
def c58:Cmd:=(.seq (.ops [
 ⟨some 3,.box 38 (.tmp 1),0,none⟩,
 ⟨some 4,.assign (.const (.int .i64 0)),3,none⟩] [0,3])
 (.seq (.seq (.ops [
 ⟨some 5,.assign (.const (.int .i64 0)),3,none⟩] [0,3,5])
 (.block 0 (.loop (sg c58L0)))) (sg c58S7)))
attribute [go_sem] c58 c58S0 c58S1 c58S2 c58L0 c58S3 c58S4 c58S5 c58L1 c58S6 c58S7
def c58D0:List (Bool × Ins):=[
 (true,⟨some 13,.move (.tmp 0),22,none⟩),
 (true,⟨some 14,.move (.tmp 5),3,none⟩),
 (true,⟨some 15,.indexAddr 22 (.tmp 13) (.tmp 14),0,none⟩),
 (true,⟨some 16,.fieldAddr 38 (.tmp 15) 0,0,none⟩),
 (false,⟨some 17,.load 3 (.tmp 16),3,none⟩),
 (true,⟨some 18,.fieldAddr 38 (.tmp 3) 0,0,none⟩),
 (false,⟨some 19,.load 3 (.tmp 18),3,none⟩),
 (true,⟨some 20,.binOp .neq 3 (.tmp 17) (.tmp 19) 3,4,none⟩),
 (true,⟨some 21,.move (.tmp 20),4,none⟩),
 (true,⟨some 22,.move (.tmp 0),22,(some (21,true))⟩),
 (true,⟨some 23,.move (.tmp 5),3,(some (21,true))⟩),
 (true,⟨some 24,.indexAddr 22 (.tmp 22) (.tmp 23),0,(some (21,true))⟩),
 (true,⟨some 25,.fieldAddr 38 (.tmp 24) 2,0,(some (21,true))⟩),
 (false,⟨some 26,.load 3 (.tmp 25),3,(some (21,true))⟩),
 (true,⟨some 27,.fieldAddr 38 (.tmp 3) 2,0,(some (21,true))⟩),
 (false,⟨some 28,.load 3 (.tmp 27),3,(some (21,true))⟩),
 (true,⟨some 29,.binOp .eql 3 (.tmp 26) (.tmp 28) 3,4,(some (21,true))⟩),
 (true,⟨some 30,.pick (.tmp 21) (.tmp 29) (.const (.bool false)),4,none⟩),
 (true,⟨some 31,.move (.tmp 30),4,none⟩),
 (true,⟨some 32,.move (.tmp 0),22,(some (31,true))⟩),
 (true,⟨some 33,.move (.tmp 5),3,(some (31,true))⟩),
 (true,⟨some 34,.indexAddr 22 (.tmp 32) (.tmp 33),0,(some (31,true))⟩),
 (true,⟨some 35,.fieldAddr 38 (.tmp 34) 3,0,(some (31,true))⟩),
 (false,⟨some 36,.load 3 (.tmp 35),3,(some (31,true))⟩),
 (true,⟨some 37,.fieldAddr 38 (.tmp 3) 3,0,(some (31,true))⟩),
 (false,⟨some 38,.load 3 (.tmp 37),3,(some (31,true))⟩),
 (true,⟨some 39,.binOp .neq 3 (.tmp 36) (.tmp 38) 3,4,(some (31,true))⟩),
 (true,⟨some 40,.pick (.tmp 31) (.tmp 39) (.const (.bool false)),4,none⟩)]
theorem c58draw0{L:List Nat}{ρ:Env}{w:World}{Q:Post}(h:DL Tryz.prog c58D0 L ρ w.drew Q):drawW Tryz.prog (drawOps 0 c58code) L ρ w Q :=
 drawW_still [true,true,true,true,false,true,false,true,true,true,true,true,true,false,true,false,true,true,true,true,true,true,true,false,true,false,true,true] c58D0 (by kernel_rfl) (by kernel_rfl) (by kernel_rfl) h
def c58D1:List (Nat × Ins):=[
 (0,⟨some 47,.move (.tmp 0),22,none⟩),
 (0,⟨some 48,.move (.tmp 6),3,none⟩),
 (0,⟨some 49,.indexAddr 22 (.tmp 47) (.tmp 48),0,none⟩),
 (0,⟨some 50,.fieldAddr 38 (.tmp 49) 0,0,none⟩),
 (0,⟨some 52,.fieldAddr 38 (.tmp 3) 0,0,none⟩),
 (1,⟨some 51,.load 3 (.tmp 50),3,none⟩),
 (2,⟨some 53,.load 3 (.tmp 52),3,none⟩),
 (0,⟨some 54,.binOp .neq 3 (.tmp 51) (.tmp 53) 3,4,none⟩),
 (0,⟨some 55,.move (.tmp 54),4,none⟩),
 (0,⟨some 56,.move (.tmp 0),22,(some (55,true))⟩),
 (0,⟨some 57,.move (.tmp 6),3,(some (55,true))⟩),
 (0,⟨some 58,.indexAddr 22 (.tmp 56) (.tmp 57),0,(some (55,true))⟩),
 (0,⟨some 59,.fieldAddr 38 (.tmp 58) 1,0,(some (55,true))⟩),
 (0,⟨some 61,.fieldAddr 38 (.tmp 3) 1,0,(some (55,true))⟩),
 (1,⟨some 60,.load 3 (.tmp 59),3,(some (55,true))⟩),
 (2,⟨some 62,.load 3 (.tmp 61),3,(some (55,true))⟩),
 (0,⟨some 63,.binOp .eql 3 (.tmp 60) (.tmp 62) 3,4,(some (55,true))⟩),
 (0,⟨some 64,.pick (.tmp 55) (.tmp 63) (.const (.bool false)),4,none⟩),
 (0,⟨some 65,.move (.tmp 64),4,none⟩),
 (0,⟨some 66,.move (.tmp 0),22,(some (65,true))⟩),
 (0,⟨some 67,.move (.tmp 6),3,(some (65,true))⟩),
 (0,⟨some 68,.indexAddr 22 (.tmp 66) (.tmp 67),0,(some (65,true))⟩),
 (1,⟨some 69,.load 38 (.tmp 68),38,(some (65,true))⟩),
 (2,⟨some 70,.load 38 (.tmp 3),38,(some (65,true))⟩),
 (2,⟨some 71,.call ⟨.value (.func 69),#[(.tmp 69),(.tmp 70)],#[38,38]⟩,4,(some (65,true))⟩),
 (0,⟨some 72,.unOp .not 4 (.tmp 71),4,(some (65,true))⟩),
 (0,⟨some 73,.pick (.tmp 65) (.tmp 72) (.const (.bool false)),4,none⟩),
 (0,⟨some 74,.move (.tmp 73),4,none⟩),
 (0,⟨some 76,.move (.tmp 0),22,(some (74,true))⟩),
 (0,⟨some 77,.move (.tmp 6),3,(some (74,true))⟩),
 (0,⟨some 78,.indexAddr 22 (.tmp 76) (.tmp 77),0,(some (74,true))⟩),
 (1,⟨some 75,.load 38 (.tmp 3),38,(some (74,true))⟩),
 (2,⟨some 79,.load 38 (.tmp 78),38,(some (74,true))⟩),
 (2,⟨some 80,.call ⟨.value (.func 69),#[(.tmp 75),(.tmp 79)],#[38,38]⟩,4,(some (74,true))⟩),
 (0,⟨some 81,.unOp .not 4 (.tmp 80),4,(some (74,true))⟩),
 (0,⟨some 82,.pick (.tmp 74) (.tmp 81) (.const (.bool false)),4,none⟩)]
theorem c58draw1{L:List Nat}{ρ:Env}{w:World}{Q:Post}(S:World→Prop)(hS:S w.drew)(h:DG Tryz.prog S c58D1 L ρ w.drew Q):drawW Tryz.prog (drawOps 1 c58code) L ρ w Q :=
 drawW_held [4,13,22,28] [(0,0),(0,1),(0,2),(0,3),(0,5),(1,4),(2,6),(0,7),(0,8),(0,9),(0,10),(0,11),(0,12),(0,14),(1,13),(2,15),(0,16),(0,17),(0,18),(0,19),(0,20),(0,21),(1,22),(2,23),(2,24),(0,25),(0,26),(0,27),(0,29),(0,30),(0,31),(1,28),(2,32),(2,33),(0,34),(0,35)] c58D1 (by kernel_rfl) (by kernel_rfl) (by kernel_rfl) S hS h
theorem ent58(a0 a1:Value)(w:World)(K:Value→World→Prop)(h:W Tryz.prog c58 [(0,a0),(1,a1)] w (finQ Tryz.prog [.tmp 4] K)):Ret Tryz.prog 58 [a0,a1] w K :=
 Ret_of_W (code:=c58code) Tryz.func58 (by kernel_rfl) (by kernel_rfl) (of_decide_eq_true (by kernel_rfl)) h
@[go_sem] theorem go58:goFunc Tryz.prog 58=true:=by kernel_rfl
def c59code:Code:=match Tryz.f59.body with | some c=>c | none=>.skip
def c59S0(_:Unit):Cmd:=.ret
def c59:Cmd:=(.seq (.ops [
 ⟨some 3,.box 38 (.tmp 1),0,none⟩,
 ⟨some 4,.assign (.const (.bool false)),4,none⟩] [0,3])
 (.seq (.ops [
 ⟨some 5,.move (.tmp 0),22,none⟩,
 ⟨some 6,.makeFunc (.func 87) #[] #[(.tmp 3)],92,none⟩,
 ⟨some 7,.call ⟨.value (.func 79),#[(.tmp 5),(.tmp 6)],#[22,92]⟩,4,none⟩,
 ⟨some 8,.unOp .not 4 (.tmp 7),4,none⟩,
 ⟨some 4,.assign (.tmp 8),4,none⟩] [4]) (sg c59S0)))
attribute [go_sem] c59 c59S0
theorem ent59(a0 a1:Value)(w:World)(K:Value→World→Prop)(h:W Tryz.prog c59 [(0,a0),(1,a1)] w (finQ Tryz.prog [.tmp 4] K)):Ret Tryz.prog 59 [a0,a1] w K :=
 Ret_of_W (code:=c59code) Tryz.func59 (by kernel_rfl) (by kernel_rfl) (of_decide_eq_true (by kernel_rfl)) h
@[go_sem] theorem go59:goFunc Tryz.prog 59=true:=by kernel_rfl
def c60code:Code:=match Tryz.f60.body with | some c=>c | none=>.skip
def c60S0(_:Unit):Cmd:=(.cond (.tmp 43)
 (.ops [
 ⟨some 44,.move (.tmp 3),99,none⟩,
 ⟨some 45,.nilCheck (.tmp 44),0,none⟩,
 ⟨some 46,.fieldAddr 108 (.tmp 45) 1,0,none⟩,
 ⟨some 47,.load 104 (.tmp 46),104,none⟩,
 ⟨some 48,.move (.tmp 4),3,none⟩,
 ⟨some 49,.indexAddr 104 (.tmp 47) (.tmp 48),0,none⟩,
 ⟨some 50,.load 103 (.tmp 49),103,none⟩,
 ⟨some 51,.move (.tmp 6),3,none⟩,
 ⟨some 52,.convert 3 116 (.tmp 51),116,none⟩,
 ⟨some 53,.binOp .shl 103 (.const (.int .u32 1)) (.tmp 52) 116,103,none⟩,
 ⟨some 54,.binOp .or 103 (.tmp 50) (.tmp 53) 103,103,none⟩,
 ⟨some 55,.indexAddr 104 (.tmp 47) (.tmp 48),0,none⟩,
 ⟨none,.store 103 (.tmp 55) (.tmp 54),0,none⟩] [0,3,4,5,15,16,17,34,35,36])
 (.skip [0,3,4,5,15,16,17,34,35,36]))
def c60S1(_:Unit):Cmd:=(.ops [
 ⟨some 56,.binOp .add 3 (.tmp 36) (.const (.int .i64 1)) 3,3,none⟩,
 ⟨some 36,.move (.tmp 56),3,none⟩] [0,3,4,5,15,16,17,34,35,36])
def c60S2(_:Unit):Cmd:=(.seq (.block 3 (.seq (.ops [
 ⟨some 38,.move (.tmp 36),3,none⟩,
 ⟨some 39,.indexAddr 22 (.tmp 34) (.tmp 36),0,none⟩,
 ⟨some 40,.load 38 (.tmp 39),38,none⟩,
 ⟨some 7,.alloc 38,0,none⟩,
 ⟨some 6,.assign (.tmp 38),3,none⟩,
 ⟨none,.store 38 (.tmp 7) (.tmp 40),0,none⟩] [0,3,4,5,6,7,15,16,17,34,35,36])
 (.seq (.ops [
 ⟨some 41,.load 38 (.tmp 7),38,none⟩,
 ⟨some 42,.load 38 (.tmp 5),38,none⟩,
 ⟨some 43,.call ⟨.value (.func 88),#[(.tmp 41),(.tmp 42)],#[38,38]⟩,4,none⟩] [0,3,4,5,6,15,16,17,34,35,36,43]) (sg c60S0)))) (sg c60S1))
def c60L0(_:Unit):Cmd:=(.seq (.ops [
 ⟨some 37,.binOp .lss 3 (.tmp 36) (.tmp 35) 3,0,none⟩] [0,3,4,5,15,16,17,34,35,36,37])
 (.seq (.cond (.tmp 37)
 (.skip [0,3,4,5,15,16,17,34,35,36])
 (.exit 2 [0,3,15,16,17])) (sg c60S2)))
def c60S3(_:Unit):Cmd:=(.seq (.ops [
 ⟨some 34,.move (.tmp 0),22,none⟩,
 ⟨some 35,.call ⟨.builtin .len,#[(.tmp 34)],#[22]⟩,3,none⟩,
 ⟨some 36,.move (.const (.int .i64 0)),3,none⟩] [0,3,4,5,15,16,17,34,35,36])
 (.block 2 (.loop (sg c60L0))))
def c60S4(_:Unit):Cmd:=(.ops [
 ⟨some 57,.binOp .add 3 (.tmp 17) (.const (.int .i64 1)) 3,3,none⟩,
 ⟨some 17,.move (.tmp 57),3,none⟩] [0,3,15,16,17])
def c60S5(_:Unit):Cmd:=(.seq (.block 1 (.seq (.ops [
 ⟨some 19,.move (.tmp 17),3,none⟩,
 ⟨some 20,.indexAddr 22 (.tmp 15) (.tmp 17),0,none⟩,
 ⟨some 21,.load 38 (.tmp 20),38,none⟩,
 ⟨some 5,.alloc 38,0,none⟩,
 ⟨some 4,.assign (.tmp 19),3,none⟩,
 ⟨none,.store 38 (.tmp 5) (.tmp 21),0,none⟩] [0,3,4,5,15,16,17])
 (.seq (.seq (.ops [
 ⟨some 22,.fieldAddr 38 (.tmp 5) 7,0,none⟩,
 ⟨some 23,.load 4 (.tmp 22),4,none⟩] [0,3,4,5,15,16,17,23])
 (.cond (.tmp 23)
 (.ops [
 ⟨some 24,.move (.tmp 3),99,none⟩,
 ⟨some 25,.nilCheck (.tmp 24),0,none⟩,
 ⟨some 26,.fieldAddr 108 (.tmp 25) 2,0,none⟩,
 ⟨some 27,.load 103 (.tmp 26),103,none⟩,
 ⟨some 28,.move (.tmp 4),3,none⟩,
 ⟨some 29,.convert 3 116 (.tmp 28),116,none⟩,
 ⟨some 30,.binOp .shl 103 (.const (.int .u32 1)) (.tmp 29) 116,103,none⟩,
 ⟨some 31,.binOp .or 103 (.tmp 27) (.tmp 30) 103,103,none⟩,
 ⟨some 32,.nilCheck (.tmp 24),0,none⟩,
 ⟨some 33,.fieldAddr 108 (.tmp 32) 2,0,none⟩,
 ⟨none,.store 103 (.tmp 33) (.tmp 31),0,none⟩] [0,3,4,5,15,16,17])
 (.skip [0,3,4,5,15,16,17]))) (sg c60S3)))) (sg c60S4))
def c60L1(_:Unit):Cmd:=(.seq (.ops [
 ⟨some 18,.binOp .lss 3 (.tmp 17) (.tmp 16) 3,0,none⟩] [0,3,15,16,17,18])
 (.seq (.cond (.tmp 18)
 (.skip [0,3,15,16,17])
 (.exit 0 [3])) (sg c60S5)))
def c60S6(_:Unit):Cmd:=(.seq (.ops [
 ⟨some 58,.move (.tmp 3),99,none⟩,
 ⟨some 2,.assign (.tmp 58),99,none⟩] [2])
 .ret)
def c60:Cmd:=(.seq (.ops [
 ⟨some 2,.assign (.const (.pointer none)),99,none⟩] [0])
 (.seq (.ops [
 ⟨some 8,.move (.tmp 0),22,none⟩,
 ⟨some 9,.move (.tmp 0),22,none⟩,
 ⟨some 10,.call ⟨.builtin .len,#[(.tmp 9)],#[22]⟩,3,none⟩,
 ⟨some 11,.makeSlice 104 (.tmp 10) (.tmp 10),104,none⟩,
 ⟨some 12,.makeMap 105 none,105,none⟩,
 ⟨some 13,.build 108 #[(0,(.tmp 8)),(1,(.tmp 11)),(3,(.tmp 12))],108,none⟩,
 ⟨some 14,.box 108 (.tmp 13),99,none⟩,
 ⟨some 3,.assign (.tmp 14),99,none⟩] [0,3])
 (.seq (.seq (.ops [
 ⟨some 15,.move (.tmp 0),22,none⟩,
 ⟨some 16,.call ⟨.builtin .len,#[(.tmp 15)],#[22]⟩,3,none⟩,
 ⟨some 17,.move (.const (.int .i64 0)),3,none⟩] [0,3,15,16,17])
 (.block 0 (.loop (sg c60L1)))) (sg c60S6))))
attribute [go_sem] c60 c60S0 c60S1 c60S2 c60L0 c60S4 c60S5 c60S6
theorem ent60(a0:Value)(w:World)(K:Value→World→Prop)(h:W Tryz.prog c60 [(0,a0)] w (finQ Tryz.prog [.tmp 2] K)):Ret Tryz.prog 60 [a0] w K :=
 Ret_of_W (code:=c60code) Tryz.func60 (by kernel_rfl) (by kernel_rfl) (of_decide_eq_true (by kernel_rfl)) h
@[go_sem] theorem go60:goFunc Tryz.prog 60=true:=by kernel_rfl
def c61code:Code:=match Tryz.f61.body with | some c=>c | none=>.skip
def c61S0(_:Unit):Cmd:=(.ops [
 ⟨some 20,.binOp .add 3 (.tmp 11) (.const (.int .i64 1)) 3,3,none⟩,
 ⟨some 11,.move (.tmp 20),3,none⟩] [3,9,10,11])
def c61S1(_:Unit):Cmd:=(.seq (.block 1 (.seq (.ops [
 ⟨some 13,.indexAddr 74 (.tmp 9) (.tmp 11),0,none⟩,
 ⟨some 14,.load 66 (.tmp 13),66,none⟩,
 ⟨some 5,.assign (.tmp 14),66,none⟩] [3,5,9,10,11])
 (.ops [
 ⟨some 15,.move (.tmp 3),74,none⟩,
 ⟨some 16,.move (.tmp 5),66,none⟩,
 ⟨some 17,.call ⟨.value (.func 89),#[(.tmp 16)],#[66]⟩,66,none⟩,
 ⟨some 18,.buildSlice 74 1 #[(0,(.tmp 17))],74,none⟩,
 ⟨some 19,.call ⟨.builtin .append,#[(.tmp 15),(.tmp 18)],#[74,74]⟩,74,none⟩,
 ⟨some 3,.assign (.tmp 19),74,none⟩] [3,9,10,11]))) (sg c61S0))
def c61L0(_:Unit):Cmd:=(.seq (.ops [
 ⟨some 12,.binOp .lss 3 (.tmp 11) (.tmp 10) 3,0,none⟩] [3,9,10,11,12])
 (.seq (.cond (.tmp 12)
 (.skip [3,9,10,11])
 (.exit 0 [3])) (sg c61S1)))
def c61S2(_:Unit):Cmd:=.ret
def c61S3(_:Unit):Cmd:=(.seq (.ops [
 ⟨some 23,.move (.tmp 3),74,none⟩,
 ⟨some 24,.call ⟨.value (.func 94),#[(.tmp 23),(.func 95)],#[74,142]⟩,74,none⟩,
 ⟨some 2,.assign (.tmp 24),74,none⟩] [2]) (sg c61S2))
def c61S4(_:Unit):Cmd:=(.seq (.ops [
 ⟨some 21,.move (.tmp 3),74,none⟩,
 ⟨some 22,.call ⟨.value (.func 90),#[(.tmp 21),(.func 91)],#[74,140]⟩,0,none⟩] [3]) (sg c61S3))
def c61:Cmd:=(.seq (.ops [
 ⟨some 2,.assign (.const (.slice none 0 0)),74,none⟩] [0])
 (.seq (.ops [
 ⟨some 6,.move (.tmp 0),74,none⟩,
 ⟨some 7,.call ⟨.builtin .len,#[(.tmp 6)],#[74]⟩,3,none⟩,
 ⟨some 8,.makeSlice 74 (.const (.int .i64 0)) (.tmp 7),74,none⟩,
 ⟨some 3,.assign (.tmp 8),74,none⟩] [0,3])
 (.seq (.seq (.ops [
 ⟨some 9,.move (.tmp 0),74,none⟩,
 ⟨some 10,.call ⟨.builtin .len,#[(.tmp 9)],#[74]⟩,3,none⟩,
 ⟨some 11,.move (.const (.int .i64 0)),3,none⟩] [3,9,10,11])
 (.block 0 (.loop (sg c61L0)))) (sg c61S4))))
attribute [go_sem] c61 c61S0 c61S1 c61L0 c61S2 c61S3 c61S4
theorem ent61(a0:Value)(w:World)(K:Value→World→Prop)(h:W Tryz.prog c61 [(0,a0)] w (finQ Tryz.prog [.tmp 2] K)):Ret Tryz.prog 61 [a0] w K :=
 Ret_of_W (code:=c61code) Tryz.func61 (by kernel_rfl) (by kernel_rfl) (of_decide_eq_true (by kernel_rfl)) h
@[go_sem] theorem go61:goFunc Tryz.prog 61=true:=by kernel_rfl
def c62code:Code:=match Tryz.f62.body with | some c=>c | none=>.skip
def c62S0(_:Unit):Cmd:=(.draw (drawOps 2 c62code) [])
def c62S1(_:Unit):Cmd:=(.cond (.tmp 20)
 (.seq (.draw (drawOps 1 c62code) [0,6]) (sg c62S0))
 (.skip []))
def c62S2(_:Unit):Cmd:=(.seq (.draw (drawOps 0 c62code) [0,6,20]) (sg c62S1))
def c62:Cmd:=(.seq (.ops [
 ⟨some 7,.move (.tmp 1),103,none⟩,
 ⟨some 8,.move (.tmp 2),66,none⟩,
 ⟨some 9,.call ⟨.value (.func 93),#[(.tmp 8)],#[66]⟩,9,none⟩,
 ⟨some 10,.build 110 #[(0,(.tmp 7)),(1,(.tmp 9))],110,none⟩,
 ⟨some 11,.move (.tmp 2),66,none⟩,
 ⟨some 12,.build 112 #[(0,(.tmp 10)),(1,(.tmp 11))],112,none⟩,
 ⟨some 6,.alloc 112,0,none⟩,
 ⟨none,.store 112 (.tmp 6) (.tmp 12),0,none⟩] [0,6]) (sg c62S2))
attribute [go_sem] c62 c62S0 c62S1 c62S2
def c62D0:List (Nat × Ins):=[
 (0,⟨some 13,.move (.tmp 0),99,none⟩),
 (0,⟨some 14,.nilCheck (.tmp 13),0,none⟩),
 (0,⟨some 15,.fieldAddr 108 (.tmp 14) 3,0,none⟩),
 (0,⟨some 17,.fieldAddr 112 (.tmp 6) 0,0,none⟩),
 (1,⟨some 16,.load 105 (.tmp 15),105,none⟩),
 (2,⟨some 18,.load 110 (.tmp 17),110,none⟩),
 (3,⟨some 19,.lookup 105 (.tmp 16) (.tmp 18) false,4,none⟩),
 (0,⟨some 20,.unOp .not 4 (.tmp 19),4,none⟩)]
theorem c62draw0{L:List Nat}{ρ:Env}{w:World}{Q:Post}(S:World→Prop)(hS:S w.drew)(h:DG Tryz.prog S c62D0 L ρ w.drew Q):drawW Tryz.prog (drawOps 0 c62code) L ρ w Q :=
 drawW_held [3] [(0,0),(0,1),(0,2),(0,4),(1,3),(2,5),(3,6),(0,7)] c62D0 (by kernel_rfl) (by kernel_rfl) (by kernel_rfl) S hS h
def c62D1:List (Nat × Ins):=[
 (0,⟨some 21,.move (.tmp 0),99,none⟩),
 (0,⟨some 22,.nilCheck (.tmp 21),0,none⟩),
 (0,⟨some 23,.fieldAddr 108 (.tmp 22) 3,0,none⟩),
 (0,⟨some 25,.fieldAddr 112 (.tmp 6) 0,0,none⟩),
 (1,⟨some 24,.load 105 (.tmp 23),105,none⟩),
 (2,⟨some 26,.load 110 (.tmp 25),110,none⟩),
 (3,⟨none,.mapUpdate 105 (.tmp 24) (.tmp 26) (.const (.bool true)),0,none⟩)]
theorem c62draw1{L:List Nat}{ρ:Env}{w:World}{Q:Post}(S:World→Prop)(hS:S w.drew)(h:DG Tryz.prog S c62D1 L ρ w.drew Q):drawW Tryz.prog (drawOps 1 c62code) L ρ w Q :=
 drawW_held [3] [(0,0),(0,1),(0,2),(0,4),(1,3),(2,5),(3,6)] c62D1 (by kernel_rfl) (by kernel_rfl) (by kernel_rfl) S hS h
def c62D2:List (Nat × Ins):=[
 (0,⟨some 27,.move (.tmp 0),99,none⟩),
 (0,⟨some 28,.move (.tmp 0),99,none⟩),
 (0,⟨some 29,.nilCheck (.tmp 28),0,none⟩),
 (0,⟨some 30,.fieldAddr 108 (.tmp 29) 4,0,none⟩),
 (1,⟨some 31,.load 106 (.tmp 30),106,none⟩),
 (2,⟨some 32,.load 112 (.tmp 6),112,none⟩),
 (2,⟨some 33,.buildSlice 106 1 #[(0,(.tmp 32))],106,none⟩),
 (3,⟨some 34,.call ⟨.builtin .append,#[(.tmp 31),(.tmp 33)],#[106,106]⟩,106,none⟩),
 (0,⟨some 35,.nilCheck (.tmp 27),0,none⟩),
 (0,⟨some 36,.fieldAddr 108 (.tmp 35) 4,0,none⟩),
 (3,⟨none,.store 106 (.tmp 36) (.tmp 34),0,none⟩)]
theorem c62draw2{L:List Nat}{ρ:Env}{w:World}{Q:Post}(S:World→Prop)(hS:S w.drew)(h:DG Tryz.prog S c62D2 L ρ w.drew Q):drawW Tryz.prog (drawOps 2 c62code) L ρ w Q :=
 drawW_held [4] [(0,0),(0,1),(0,2),(0,3),(1,4),(2,5),(2,6),(3,7),(0,8),(0,9),(3,10)] c62D2 (by kernel_rfl) (by kernel_rfl) (by kernel_rfl) S hS h
theorem ent62(a0 a1 a2:Value)(w:World)(K:Value→World→Prop)(h:W Tryz.prog c62 [(0,a0),(1,a1),(2,a2)] w (finQ Tryz.prog [] K)):Ret Tryz.prog 62 [a0,a1,a2] w K :=
 Ret_of_W (code:=c62code) Tryz.func62 (by kernel_rfl) (by kernel_rfl) (of_decide_eq_true (by kernel_rfl)) h
@[go_sem] theorem go62:goFunc Tryz.prog 62=true:=by kernel_rfl
def c63code:Code:=match Tryz.f63.body with | some c=>c | none=>.skip
def c63:Cmd:=(.seq (.ops [
 ⟨some 6,.assign (.const (.bool false)),4,none⟩] [0,1,2])
 (.seq (.ops [
 ⟨some 7,.move (.tmp 1),103,none⟩,
 ⟨some 8,.move (.tmp 2),3,none⟩,
 ⟨some 9,.convert 3 116 (.tmp 8),116,none⟩,
 ⟨some 10,.binOp .shr 103 (.tmp 7) (.tmp 9) 116,103,none⟩,
 ⟨some 11,.binOp .and 103 (.tmp 10) (.const (.int .u32 1)) 103,103,none⟩,
 ⟨some 12,.binOp .eql 103 (.tmp 11) (.const (.int .u32 0)) 103,4,none⟩,
 ⟨some 13,.move (.tmp 12),4,none⟩,
 ⟨some 14,.move (.tmp 0),99,(some (13,true))⟩,
 ⟨some 15,.nilCheck (.tmp 14),0,(some (13,true))⟩,
 ⟨some 16,.fieldAddr 108 (.tmp 15) 1,0,(some (13,true))⟩,
 ⟨some 17,.load 104 (.tmp 16),104,(some (13,true))⟩,
 ⟨some 18,.move (.tmp 2),3,(some (13,true))⟩,
 ⟨some 19,.indexAddr 104 (.tmp 17) (.tmp 18),0,(some (13,true))⟩,
 ⟨some 20,.load 103 (.tmp 19),103,(some (13,true))⟩,
 ⟨some 21,.move (.tmp 1),103,(some (13,true))⟩,
 ⟨some 22,.binOp .andNot 103 (.tmp 20) (.tmp 21) 103,103,(some (13,true))⟩,
 ⟨some 23,.binOp .eql 103 (.tmp 22) (.const (.int .u32 0)) 103,4,(some (13,true))⟩,
 ⟨some 24,.pick (.tmp 13) (.tmp 23) (.const (.bool false)),4,none⟩,
 ⟨some 6,.assign (.tmp 24),4,none⟩] [6])
 .ret))
attribute [go_sem] c63
theorem ent63(a0 a1 a2:Value)(w:World)(K:Value→World→Prop)(h:W Tryz.prog c63 [(0,a0),(1,a1),(2,a2)] w (finQ Tryz.prog [.tmp 6] K)):Ret Tryz.prog 63 [a0,a1,a2] w K :=
 Ret_of_W (code:=c63code) Tryz.func63 (by kernel_rfl) (by kernel_rfl) (of_decide_eq_true (by kernel_rfl)) h
@[go_sem] theorem go63:goFunc Tryz.prog 63=true:=by kernel_rfl
def c64code:Code:=match Tryz.f64.body with | some c=>c | none=>.skip
def c64S0(_:Unit):Cmd:=(.seq (.ops [
 ⟨some 28,.move (.tmp 6),66,none⟩,
 ⟨some 4,.assign (.tmp 28),66,none⟩,
 ⟨some 5,.assign (.const (.bool true)),4,none⟩] [4,5])
 .ret)
def c64S1(_:Unit):Cmd:=(.seq (.seq (.ops [
 ⟨some 16,.move (.tmp 8),4,none⟩,
 ⟨some 17,.unOp .not 4 (.tmp 16),4,none⟩,
 ⟨some 18,.move (.tmp 17),4,none⟩,
 ⟨some 19,.fieldAddr 38 (.tmp 3) 7,0,(some (18,false))⟩,
 ⟨some 20,.load 4 (.tmp 19),4,(some (18,false))⟩,
 ⟨some 21,.move (.tmp 20),4,(some (18,false))⟩,
 ⟨some 22,.move (.tmp 7),3,(some (21,true))⟩,
 ⟨some 23,.fieldAddr 38 (.tmp 3) 8,0,(some (21,true))⟩,
 ⟨some 24,.load 3 (.tmp 23),3,(some (21,true))⟩,
 ⟨some 25,.binOp .neq 3 (.tmp 22) (.tmp 24) 3,4,(some (21,true))⟩,
 ⟨some 26,.pick (.tmp 21) (.tmp 25) (.const (.bool false)),4,(some (18,false))⟩,
 ⟨some 27,.pick (.tmp 18) (.const (.bool true)) (.tmp 26),4,none⟩] [6,27])
 (.cond (.tmp 27)
 (.seq (.ops [
 ⟨some 4,.assign (.const (.slice none 0 0)),66,none⟩,
 ⟨some 5,.assign (.const (.bool false)),4,none⟩] [4,5])
 .ret)
 (.skip [6]))) (sg c64S0))
def c64:Cmd:=(.seq (.ops [
 ⟨some 3,.box 38 (.tmp 1),0,none⟩,
 ⟨some 4,.assign (.const (.slice none 0 0)),66,none⟩,
 ⟨some 5,.assign (.const (.bool false)),4,none⟩] [0,3])
 (.seq (.ops [
 ⟨some 10,.move (.tmp 0),66,none⟩,
 ⟨some 11,.load 38 (.tmp 3),38,none⟩,
 ⟨some 12,.call ⟨.value (.func 97),#[(.tmp 10),(.tmp 11)],#[66,38]⟩,143,none⟩,
 ⟨some 9,.move (.tmp 12),143,none⟩,
 ⟨some 13,.extract (.tmp 9) 0,66,none⟩,
 ⟨some 14,.extract (.tmp 9) 1,3,none⟩,
 ⟨some 15,.extract (.tmp 9) 2,4,none⟩,
 ⟨some 6,.assign (.tmp 13),66,none⟩,
 ⟨some 7,.assign (.tmp 14),3,none⟩,
 ⟨some 8,.assign (.tmp 15),4,none⟩] [3,6,7,8]) (sg c64S1)))
attribute [go_sem] c64 c64S0
theorem ent64(a0 a1:Value)(w:World)(K:Value→World→Prop)(h:W Tryz.prog c64 [(0,a0),(1,a1)] w (finQ Tryz.prog [.tmp 4,.tmp 5] K)):Ret Tryz.prog 64 [a0,a1] w K :=
 Ret_of_W (code:=c64code) Tryz.func64 (by kernel_rfl) (by kernel_rfl) (of_decide_eq_true (by kernel_rfl)) h
@[go_sem] theorem go64:goFunc Tryz.prog 64=true:=by kernel_rfl
def c65code:Code:=match Tryz.f65.body with | some c=>c | none=>.skip
def c65S0(_:Unit):Cmd:=(.cond (.tmp 18)
 .ret
 (.skip [0,1,3]))
def c65S1(_:Unit):Cmd:=(.ops [
 ⟨some 9,.move (.tmp 3),3,none⟩,
 ⟨some 10,.binOp .sub 3 (.tmp 9) (.const (.int .i64 1)) 3,3,none⟩,
 ⟨some 3,.assign (.tmp 10),3,none⟩] [0,1,3])
def c65S2(_:Unit):Cmd:=(.seq (.block 1 (.seq (.ops [
 ⟨some 11,.move (.tmp 0),117,none⟩,
 ⟨some 12,.move (.tmp 3),3,none⟩,
 ⟨some 13,.load 66 (.tmp 1),66,none⟩,
 ⟨some 14,.move (.tmp 3),3,none⟩,
 ⟨some 15,.indexAddr 66 (.tmp 13) (.tmp 14),0,none⟩,
 ⟨some 16,.load 3 (.tmp 15),3,none⟩,
 ⟨some 17,.call ⟨.value (.tmp 11),#[(.tmp 12),(.tmp 16)],#[3,3]⟩,4,none⟩,
 ⟨some 18,.unOp .not 4 (.tmp 17),4,none⟩] [0,1,3,18]) (sg c65S0))) (sg c65S1))
def c65L0(_:Unit):Cmd:=(.seq (.seq (.ops [
 ⟨some 7,.move (.tmp 3),3,none⟩,
 ⟨some 8,.binOp .geq 3 (.tmp 7) (.const (.int .i64 0)) 3,4,none⟩] [0,1,3,8])
 (.cond (.tmp 8)
 (.skip [0,1,3])
 (.exit 0 []))) (sg c65S2))
def c65:Cmd:=(.seq (.ops [
 ⟨some 4,.load 66 (.tmp 1),66,none⟩,
 ⟨some 5,.call ⟨.builtin .len,#[(.tmp 4)],#[66]⟩,3,none⟩,
 ⟨some 6,.binOp .sub 3 (.tmp 5) (.const (.int .i64 1)) 3,3,none⟩,
 ⟨some 3,.assign (.tmp 6),3,none⟩] [0,1,3])
 (.block 0 (.loop (sg c65L0))))
attribute [go_sem] c65 c65S0 c65S1 c65S2 c65L0
theorem ent65(a0 a1:Value)(w:World)(K:Value→World→Prop)(h:W Tryz.prog c65 [(0,a0),(1,a1)] w (finQ Tryz.prog [] K)):Ret Tryz.prog 65 [a0,a1] w K :=
 Ret_of_W (code:=c65code) Tryz.func65 (by kernel_rfl) (by kernel_rfl) (of_decide_eq_true (by kernel_rfl)) h
@[go_sem] theorem go65:goFunc Tryz.prog 65=true:=by kernel_rfl
def c66code:Code:=match Tryz.f66.body with | some c=>c | none=>.skip
def c66S0(_:Unit):Cmd:=.ret
def c66S1(_:Unit):Cmd:=.ret
def c66S2(_:Unit):Cmd:=(.ops [
 ⟨some 45,.move (.tmp 3),3,none⟩,
 ⟨some 46,.binOp .sub 3 (.tmp 45) (.const (.int .i64 1)) 3,3,none⟩,
 ⟨some 3,.assign (.tmp 46),3,none⟩] [0,1,2,3,4,10,11,12])
def c66S3(_:Unit):Cmd:=(.seq (.ops [
 ⟨some 62,.move (.tmp 2),3,none⟩,
 ⟨some 63,.binOp .sub 3 (.tmp 62) (.const (.int .i64 1)) 3,3,none⟩,
 ⟨some 64,.move (.tmp 13),3,none⟩,
 ⟨some 65,.move (.tmp 1),3,none⟩,
 ⟨some 66,.binOp .sub 3 (.tmp 64) (.tmp 65) 3,3,none⟩,
 ⟨some 67,.binOp .sub 3 (.tmp 63) (.tmp 66) 3,3,none⟩,
 ⟨some 13,.assign (.tmp 67),3,none⟩] [0,1,2,3,4,10,11,12,13])
 (.ops [
 ⟨some 14,.assign (.const (.int .i64 1)),146,none⟩] [0,1,2,3,4,10,11,12,13,14]))
def c66S4(_:Unit):Cmd:=(.cond (.tmp 80)
 .ret
 (.skip [0,1,2,3,4,10,11,12,13]))
def c66S5(_:Unit):Cmd:=(.seq (.ops [
 ⟨some 104,.move (.tmp 15),3,none⟩,
 ⟨some 1,.assign (.tmp 104),3,none⟩] [0,1,2,3,4,10,11])
 (.exit 1 [0,1,2,3,4,10,11]))
def c66S6(_:Unit):Cmd:=(.cond (.tmp 97)
 (.seq (.ops [
 ⟨some 98,.move (.tmp 0),22,none⟩,
 ⟨some 99,.move (.tmp 1),3,none⟩,
 ⟨some 100,.move (.tmp 2),3,none⟩,
 ⟨some 101,.move (.tmp 13),3,none⟩,
 ⟨some 102,.move (.tmp 4),85,none⟩,
 ⟨some 103,.call ⟨.value (.func 104),#[(.tmp 98),(.tmp 99),(.tmp 100),(.tmp 101),(.tmp 102)],#[22,3,3,3,85]⟩,3,none⟩,
 ⟨some 15,.assign (.tmp 103),3,none⟩] [0,2,3,4,10,11,15]) (sg c66S5))
 (.skip [0,1,2,3,4,12,13]))
def c66S7(_:Unit):Cmd:=(.ops [
 ⟨some 135,.move (.tmp 16),3,none⟩,
 ⟨some 136,.binOp .add 3 (.tmp 135) (.const (.int .i64 1)) 3,3,none⟩,
 ⟨some 1,.assign (.tmp 136),3,none⟩] [0,1,2,3,4,10,11])
def c66S8(_:Unit):Cmd:=(.ops [
 ⟨some 147,.move (.tmp 16),3,none⟩,
 ⟨some 2,.assign (.tmp 147),3,none⟩] [0,1,2,3,4,10,11])
def c66S9(_:Unit):Cmd:=(.seq (.ops [
 ⟨some 114,.move (.tmp 17),4,none⟩,
 ⟨some 11,.assign (.tmp 114),4,none⟩] [0,1,2,3,4,11,12,16])
 (.seq (.ops [
 ⟨some 115,.move (.tmp 16),3,none⟩,
 ⟨some 116,.move (.tmp 1),3,none⟩,
 ⟨some 117,.binOp .sub 3 (.tmp 115) (.tmp 116) 3,3,none⟩,
 ⟨some 118,.move (.tmp 2),3,none⟩,
 ⟨some 119,.move (.tmp 16),3,none⟩,
 ⟨some 120,.binOp .sub 3 (.tmp 118) (.tmp 119) 3,3,none⟩,
 ⟨some 18,.assign (.tmp 117),3,none⟩,
 ⟨some 19,.assign (.tmp 120),3,none⟩] [0,1,2,3,4,11,12,16,18,19])
 (.seq (.ops [
 ⟨some 121,.move (.tmp 12),3,none⟩,
 ⟨some 122,.binOp .quo 3 (.tmp 121) (.const (.int .i64 8)) 3,3,none⟩,
 ⟨some 20,.assign (.tmp 122),3,none⟩] [0,1,2,3,4,11,16,18,19,20])
 (.seq (.ops [
 ⟨some 123,.move (.tmp 18),3,none⟩,
 ⟨some 124,.move (.tmp 19),3,none⟩,
 ⟨some 125,.binOp .lss 3 (.tmp 123) (.tmp 124) 3,4,none⟩] [0,1,2,3,4,11,16,18,19,20,125])
 (.cond (.tmp 125)
 (.seq (.ops [
 ⟨some 126,.move (.tmp 18),3,none⟩,
 ⟨some 127,.move (.tmp 20),3,none⟩,
 ⟨some 128,.binOp .geq 3 (.tmp 126) (.tmp 127) 3,4,none⟩,
 ⟨some 10,.assign (.tmp 128),4,none⟩] [0,1,2,3,4,10,11,16])
 (.seq (.ops [
 ⟨some 129,.move (.tmp 0),22,none⟩,
 ⟨some 130,.move (.tmp 1),3,none⟩,
 ⟨some 131,.move (.tmp 16),3,none⟩,
 ⟨some 132,.move (.tmp 3),3,none⟩,
 ⟨some 133,.move (.tmp 4),85,none⟩,
 ⟨some 134,.call ⟨.value (.func 66),#[(.tmp 129),(.tmp 130),(.tmp 131),(.tmp 132),(.tmp 133)],#[22,3,3,3,85]⟩,0,none⟩] [0,2,3,4,10,11,16]) (sg c66S7)))
 (.seq (.ops [
 ⟨some 137,.move (.tmp 19),3,none⟩,
 ⟨some 138,.move (.tmp 20),3,none⟩,
 ⟨some 139,.binOp .geq 3 (.tmp 137) (.tmp 138) 3,4,none⟩,
 ⟨some 10,.assign (.tmp 139),4,none⟩] [0,1,2,3,4,10,11,16])
 (.seq (.ops [
 ⟨some 140,.move (.tmp 0),22,none⟩,
 ⟨some 141,.move (.tmp 16),3,none⟩,
 ⟨some 142,.binOp .add 3 (.tmp 141) (.const (.int .i64 1)) 3,3,none⟩,
 ⟨some 143,.move (.tmp 2),3,none⟩,
 ⟨some 144,.move (.tmp 3),3,none⟩,
 ⟨some 145,.move (.tmp 4),85,none⟩,
 ⟨some 146,.call ⟨.value (.func 66),#[(.tmp 140),(.tmp 142),(.tmp 143),(.tmp 144),(.tmp 145)],#[22,3,3,3,85]⟩,0,none⟩] [0,1,3,4,10,11,16]) (sg c66S8))))))))
def c66S10(_:Unit):Cmd:=(.seq (.ops [
 ⟨some 106,.move (.tmp 0),22,none⟩,
 ⟨some 107,.move (.tmp 1),3,none⟩,
 ⟨some 108,.move (.tmp 2),3,none⟩,
 ⟨some 109,.move (.tmp 13),3,none⟩,
 ⟨some 110,.move (.tmp 4),85,none⟩,
 ⟨some 111,.call ⟨.value (.func 105),#[(.tmp 106),(.tmp 107),(.tmp 108),(.tmp 109),(.tmp 110)],#[22,3,3,3,85]⟩,151,none⟩,
 ⟨some 105,.move (.tmp 111),151,none⟩,
 ⟨some 112,.extract (.tmp 105) 0,3,none⟩,
 ⟨some 113,.extract (.tmp 105) 1,4,none⟩,
 ⟨some 16,.assign (.tmp 112),3,none⟩,
 ⟨some 17,.assign (.tmp 113),4,none⟩] [0,1,2,3,4,12,16,17]) (sg c66S9))
def c66S11(_:Unit):Cmd:=(.seq (.seq (.draw (drawOps 0 c66code) [0,1,2,3,4,10,11,12,13,97]) (sg c66S6)) (sg c66S10))
def c66S12(_:Unit):Cmd:=(.seq (.seq (.ops [
 ⟨some 68,.move (.tmp 10),4,none⟩,
 ⟨some 69,.move (.tmp 68),4,none⟩,
 ⟨some 70,.move (.tmp 11),4,(some (69,true))⟩,
 ⟨some 71,.pick (.tmp 69) (.tmp 70) (.const (.bool false)),4,none⟩,
 ⟨some 72,.move (.tmp 71),4,none⟩,
 ⟨some 73,.move (.tmp 14),146,(some (72,true))⟩,
 ⟨some 74,.binOp .eql 146 (.tmp 73) (.const (.int .i64 1)) 146,4,(some (72,true))⟩,
 ⟨some 75,.pick (.tmp 72) (.tmp 74) (.const (.bool false)),4,none⟩] [0,1,2,3,4,10,11,12,13,75])
 (.cond (.tmp 75)
 (.seq (.ops [
 ⟨some 76,.move (.tmp 0),22,none⟩,
 ⟨some 77,.move (.tmp 1),3,none⟩,
 ⟨some 78,.move (.tmp 2),3,none⟩,
 ⟨some 79,.move (.tmp 4),85,none⟩,
 ⟨some 80,.call ⟨.value (.func 103),#[(.tmp 76),(.tmp 77),(.tmp 78),(.tmp 79)],#[22,3,3,85]⟩,4,none⟩] [0,1,2,3,4,10,11,12,13,80]) (sg c66S4))
 (.skip [0,1,2,3,4,10,11,12,13]))) (sg c66S11))
def c66S13(_:Unit):Cmd:=(.seq (.seq (.ops [
 ⟨some 55,.move (.tmp 14),146,none⟩,
 ⟨some 56,.binOp .eql 146 (.tmp 55) (.const (.int .i64 2)) 146,4,none⟩] [0,1,2,3,4,10,11,12,13,14,56])
 (.cond (.tmp 56)
 (.seq (.ops [
 ⟨some 57,.move (.tmp 0),22,none⟩,
 ⟨some 58,.move (.tmp 1),3,none⟩,
 ⟨some 59,.move (.tmp 2),3,none⟩,
 ⟨some 60,.move (.tmp 4),85,none⟩,
 ⟨some 61,.call ⟨.value (.func 102),#[(.tmp 57),(.tmp 58),(.tmp 59),(.tmp 60)],#[22,3,3,85]⟩,0,none⟩] [0,1,2,3,4,10,11,12,13]) (sg c66S3))
 (.skip [0,1,2,3,4,10,11,12,13,14]))) (sg c66S12))
def c66S14(_:Unit):Cmd:=(.seq (.ops [
 ⟨some 48,.move (.tmp 0),22,none⟩,
 ⟨some 49,.move (.tmp 1),3,none⟩,
 ⟨some 50,.move (.tmp 2),3,none⟩,
 ⟨some 51,.move (.tmp 4),85,none⟩,
 ⟨some 52,.call ⟨.value (.func 101),#[(.tmp 48),(.tmp 49),(.tmp 50),(.tmp 51)],#[22,3,3,85]⟩,147,none⟩,
 ⟨some 47,.move (.tmp 52),147,none⟩,
 ⟨some 53,.extract (.tmp 47) 0,3,none⟩,
 ⟨some 54,.extract (.tmp 47) 1,146,none⟩,
 ⟨some 13,.assign (.tmp 53),3,none⟩,
 ⟨some 14,.assign (.tmp 54),146,none⟩] [0,1,2,3,4,10,11,12,13,14]) (sg c66S13))
def c66S15(_:Unit):Cmd:=(.seq (.seq (.ops [
 ⟨some 38,.move (.tmp 10),4,none⟩,
 ⟨some 39,.unOp .not 4 (.tmp 38),4,none⟩] [0,1,2,3,4,10,11,12,39])
 (.cond (.tmp 39)
 (.seq (.ops [
 ⟨some 40,.move (.tmp 0),22,none⟩,
 ⟨some 41,.move (.tmp 1),3,none⟩,
 ⟨some 42,.move (.tmp 2),3,none⟩,
 ⟨some 43,.move (.tmp 4),85,none⟩,
 ⟨some 44,.call ⟨.value (.func 100),#[(.tmp 40),(.tmp 41),(.tmp 42),(.tmp 43)],#[22,3,3,85]⟩,0,none⟩] [0,1,2,3,4,10,11,12]) (sg c66S2))
 (.skip [0,1,2,3,4,10,11,12]))) (sg c66S14))
def c66S16(_:Unit):Cmd:=(.seq (.seq (.ops [
 ⟨some 31,.move (.tmp 3),3,none⟩,
 ⟨some 32,.binOp .eql 3 (.tmp 31) (.const (.int .i64 0)) 3,4,none⟩] [0,1,2,3,4,10,11,12,32])
 (.cond (.tmp 32)
 (.seq (.ops [
 ⟨some 33,.move (.tmp 0),22,none⟩,
 ⟨some 34,.move (.tmp 1),3,none⟩,
 ⟨some 35,.move (.tmp 2),3,none⟩,
 ⟨some 36,.move (.tmp 4),85,none⟩,
 ⟨some 37,.call ⟨.value (.func 99),#[(.tmp 33),(.tmp 34),(.tmp 35),(.tmp 36)],#[22,3,3,85]⟩,0,none⟩] []) (sg c66S1))
 (.skip [0,1,2,3,4,10,11,12]))) (sg c66S15))
def c66L0(_:Unit):Cmd:=(.block 1 (.seq (.ops [
 ⟨some 21,.move (.tmp 2),3,none⟩,
 ⟨some 22,.move (.tmp 1),3,none⟩,
 ⟨some 23,.binOp .sub 3 (.tmp 21) (.tmp 22) 3,3,none⟩,
 ⟨some 12,.assign (.tmp 23),3,none⟩] [0,1,2,3,4,10,11,12])
 (.seq (.seq (.ops [
 ⟨some 24,.move (.tmp 12),3,none⟩,
 ⟨some 25,.binOp .leq 3 (.tmp 24) (.const (.int .i64 12)) 3,4,none⟩] [0,1,2,3,4,10,11,12,25])
 (.cond (.tmp 25)
 (.seq (.ops [
 ⟨some 26,.move (.tmp 0),22,none⟩,
 ⟨some 27,.move (.tmp 1),3,none⟩,
 ⟨some 28,.move (.tmp 2),3,none⟩,
 ⟨some 29,.move (.tmp 4),85,none⟩,
 ⟨some 30,.call ⟨.value (.func 98),#[(.tmp 26),(.tmp 27),(.tmp 28),(.tmp 29)],#[22,3,3,85]⟩,0,none⟩] []) (sg c66S0))
 (.skip [0,1,2,3,4,10,11,12]))) (sg c66S16))))
def c66:Cmd:=(.seq (.ops [
 ⟨some 10,.assign (.const (.bool true)),4,none⟩] [0,1,2,3,4,10])
 (.seq (.ops [
 ⟨some 11,.assign (.const (.bool true)),4,none⟩] [0,1,2,3,4,10,11])
 (.block 0 (.loop (sg c66L0)))))
attribute [go_sem] c66 c66S0 c66S1 c66S2 c66S3 c66S4 c66S5 c66S6 c66S7 c66S8 c66S9 c66S10 c66S11 c66S12 c66S13 c66S14 c66S15 c66S16 c66L0
theorem ent66(a0 a1 a2 a3 a4:Value)(w:World)(K:Value→World→Prop)(h:W Tryz.prog c66 [(0,a0),(1,a1),(2,a2),(3,a3),(4,a4)] w (finQ Tryz.prog [] K)):Ret Tryz.prog 66 [a0,a1,a2,a3,a4] w K :=
 Ret_of_W (code:=c66code) Tryz.func66 (by kernel_rfl) (by kernel_rfl) (of_decide_eq_true (by kernel_rfl)) h
@[go_sem] theorem go66:goFunc Tryz.prog 66=true:=by kernel_rfl
def c68code:Code:=match Tryz.f68.body with | some c=>c | none=>.skip
def c68:Cmd:=(.seq (.ops [
 ⟨some 2,.assign (.const (.bool false)),4,none⟩] [0])
 (.seq (.ops [
 ⟨some 3,.move (.tmp 0),3,none⟩,
 ⟨some 4,.move (.tmp 0),3,none⟩,
 ⟨some 5,.binOp .neq 3 (.tmp 3) (.tmp 4) 3,4,none⟩,
 ⟨some 2,.assign (.tmp 5),4,none⟩] [2])
 .ret))
attribute [go_sem] c68
theorem ent68(a0:Value)(w:World)(K:Value→World→Prop)(h:W Tryz.prog c68 [(0,a0)] w (finQ Tryz.prog [.tmp 2] K)):Ret Tryz.prog 68 [a0] w K :=
 Ret_of_W (code:=c68code) Tryz.func68 (by kernel_rfl) (by kernel_rfl) (of_decide_eq_true (by kernel_rfl)) h
@[go_sem] theorem go68:goFunc Tryz.prog 68=true:=by kernel_rfl
def c69code:Code:=match Tryz.f69.body with | some c=>c | none=>.skip
def c69:Cmd:=(.seq (.ops [
 ⟨some 2,.box 38 (.tmp 0),0,none⟩,
 ⟨some 3,.box 38 (.tmp 1),0,none⟩,
 ⟨some 4,.assign (.const (.bool false)),4,none⟩] [2,3])
 (.seq (.ops [
 ⟨some 5,.fieldAddr 38 (.tmp 2) 7,0,none⟩,
 ⟨some 6,.load 4 (.tmp 5),4,none⟩,
 ⟨some 7,.move (.tmp 6),4,none⟩,
 ⟨some 8,.fieldAddr 38 (.tmp 2) 10,0,(some (7,true))⟩,
 ⟨some 9,.load 3 (.tmp 8),3,(some (7,true))⟩,
 ⟨some 10,.fieldAddr 38 (.tmp 3) 9,0,(some (7,true))⟩,
 ⟨some 11,.load 3 (.tmp 10),3,(some (7,true))⟩,
 ⟨some 12,.binOp .lss 3 (.tmp 9) (.tmp 11) 3,4,(some (7,true))⟩,
 ⟨some 13,.pick (.tmp 7) (.tmp 12) (.const (.bool false)),4,none⟩,
 ⟨some 4,.assign (.tmp 13),4,none⟩] [4])
 .ret))
attribute [go_sem] c69
theorem ent69(a0 a1:Value)(w:World)(K:Value→World→Prop)(h:W Tryz.prog c69 [(0,a0),(1,a1)] w (finQ Tryz.prog [.tmp 4] K)):Ret Tryz.prog 69 [a0,a1] w K :=
 Ret_of_W (code:=c69code) Tryz.func69 (by kernel_rfl) (by kernel_rfl) (of_decide_eq_true (by kernel_rfl)) h
@[go_sem] theorem go69:goFunc Tryz.prog 69=true:=by kernel_rfl
def c70code:Code:=match Tryz.f70.body with | some c=>c | none=>.skip
def c70S0(_:Unit):Cmd:=(.ops [
 ⟨some 43,.move (.tmp 7),122,none⟩,
 ⟨some 44,.load 127 (.tmp 11),127,none⟩,
 ⟨some 45,.buildSlice 122 1 #[(0,(.tmp 44))],122,none⟩,
 ⟨some 46,.call ⟨.builtin .append,#[(.tmp 43),(.tmp 45)],#[122,122]⟩,122,none⟩,
 ⟨some 7,.assign (.tmp 46),122,none⟩] [0,2,7,8,9,10])
def c70S1(_:Unit):Cmd:=(.seq (.ops [
 ⟨some 40,.move (.tmp 8),156,none⟩,
 ⟨some 41,.load 127 (.tmp 11),127,none⟩,
 ⟨some 42,.call ⟨.value (.func 108),#[(.tmp 41)],#[127]⟩,9,none⟩,
 ⟨none,.mapUpdate 156 (.tmp 40) (.tmp 42) (.const (.bool true)),0,none⟩] [0,2,7,8,9,10,11]) (sg c70S0))
def c70S2(_:Unit):Cmd:=(.ops [
 ⟨some 30,.move (.tmp 10),3,none⟩,
 ⟨some 31,.binOp .add 3 (.tmp 30) (.const (.int .i64 1)) 3,3,none⟩,
 ⟨some 10,.assign (.tmp 31),3,none⟩] [0,2,7,8,9,10])
def c70S3(_:Unit):Cmd:=(.seq (.block 1 (.seq (.draw (drawOps 0 c70code) [0,2,7,8,9,10,11]) (sg c70S1))) (sg c70S2))
def c70L0(_:Unit):Cmd:=(.seq (.seq (.ops [
 ⟨some 20,.move (.tmp 10),3,none⟩,
 ⟨some 21,.move (.tmp 9),74,none⟩,
 ⟨some 22,.call ⟨.builtin .len,#[(.tmp 21)],#[74]⟩,3,none⟩,
 ⟨some 23,.binOp .lss 3 (.tmp 20) (.tmp 22) 3,4,none⟩,
 ⟨some 24,.move (.tmp 23),4,none⟩,
 ⟨some 25,.move (.tmp 7),122,(some (24,true))⟩,
 ⟨some 26,.call ⟨.builtin .len,#[(.tmp 25)],#[122]⟩,3,(some (24,true))⟩,
 ⟨some 27,.move (.tmp 2),3,(some (24,true))⟩,
 ⟨some 28,.binOp .leq 3 (.tmp 26) (.tmp 27) 3,4,(some (24,true))⟩,
 ⟨some 29,.pick (.tmp 24) (.tmp 28) (.const (.bool false)),4,none⟩] [0,2,7,8,9,10,29])
 (.cond (.tmp 29)
 (.skip [0,2,7,8,9,10])
 (.exit 0 [0,2,7,8]))) (sg c70S3))
def c70S4(_:Unit):Cmd:=(.cond (.tmp 73)
 (.exit 5 [0,2,7,8,12,13])
 (.skip [0,2,7,8,12,13]))
def c70S5(_:Unit):Cmd:=(.ops [
 ⟨some 110,.move (.tmp 7),122,none⟩,
 ⟨some 111,.load 127 (.tmp 16),127,none⟩,
 ⟨some 112,.buildSlice 122 1 #[(0,(.tmp 111))],122,none⟩,
 ⟨some 113,.call ⟨.builtin .append,#[(.tmp 110),(.tmp 112)],#[122,122]⟩,122,none⟩,
 ⟨some 7,.assign (.tmp 113),122,none⟩] [0,2,7,8,12,13])
def c70S6(_:Unit):Cmd:=(.cond (.tmp 106)
 (.seq (.ops [
 ⟨some 107,.move (.tmp 8),156,none⟩,
 ⟨some 108,.load 127 (.tmp 16),127,none⟩,
 ⟨some 109,.call ⟨.value (.func 108),#[(.tmp 108)],#[127]⟩,9,none⟩,
 ⟨none,.mapUpdate 156 (.tmp 107) (.tmp 109) (.const (.bool true)),0,none⟩] [0,2,7,8,12,13,16]) (sg c70S5))
 (.skip [0,2,7,8,12,13]))
def c70S7(_:Unit):Cmd:=(.seq (.ops [
 ⟨some 98,.fieldAddr 127 (.tmp 16) 0,0,none⟩,
 ⟨some 99,.load 125 (.tmp 98),125,none⟩,
 ⟨some 100,.move (.tmp 13),3,none⟩,
 ⟨some 101,.indexAddr 125 (.tmp 99) (.tmp 100),0,none⟩,
 ⟨none,.store 4 (.tmp 101) (.const (.bool true)),0,none⟩] [0,2,7,8,12,13,16])
 (.seq (.ops [
 ⟨some 102,.move (.tmp 8),156,none⟩,
 ⟨some 103,.load 127 (.tmp 16),127,none⟩,
 ⟨some 104,.call ⟨.value (.func 108),#[(.tmp 103)],#[127]⟩,9,none⟩,
 ⟨some 105,.lookup 156 (.tmp 102) (.tmp 104) false,4,none⟩,
 ⟨some 106,.unOp .not 4 (.tmp 105),4,none⟩] [0,2,7,8,12,13,16,106]) (sg c70S6)))
def c70S8(_:Unit):Cmd:=(.seq (.ops [
 ⟨some 89,.buildSlice 125 0 #[],125,none⟩,
 ⟨some 90,.move (.tmp 7),122,none⟩,
 ⟨some 91,.move (.tmp 12),3,none⟩,
 ⟨some 92,.indexAddr 122 (.tmp 90) (.tmp 91),0,none⟩,
 ⟨some 93,.fieldAddr 127 (.tmp 92) 0,0,none⟩,
 ⟨some 94,.load 125 (.tmp 93),125,none⟩,
 ⟨some 95,.call ⟨.builtin .append,#[(.tmp 89),(.tmp 94)],#[125,125]⟩,125,none⟩,
 ⟨some 96,.move (.tmp 14),66,none⟩,
 ⟨some 97,.build 127 #[(0,(.tmp 95)),(1,(.tmp 96))],127,none⟩,
 ⟨some 16,.alloc 127,0,none⟩,
 ⟨none,.store 127 (.tmp 16) (.tmp 97),0,none⟩] [0,2,7,8,12,13,16]) (sg c70S7))
def c70S9(_:Unit):Cmd:=(.seq (.seq (.ops [
 ⟨some 87,.move (.tmp 15),4,none⟩,
 ⟨some 88,.unOp .not 4 (.tmp 87),4,none⟩] [0,2,7,8,12,13,14,88])
 (.cond (.tmp 88)
 (.exit 5 [0,2,7,8,12,13])
 (.skip [0,2,7,8,12,13,14]))) (sg c70S8))
def c70S10(_:Unit):Cmd:=(.seq (.draw (drawOps 1 c70code) [0,2,7,8,12,13,14,15]) (sg c70S9))
def c70S11(_:Unit):Cmd:=(.ops [
 ⟨some 63,.move (.tmp 13),3,none⟩,
 ⟨some 64,.binOp .add 3 (.tmp 63) (.const (.int .i64 1)) 3,3,none⟩,
 ⟨some 13,.assign (.tmp 64),3,none⟩] [0,2,7,8,12,13])
def c70S12(_:Unit):Cmd:=(.seq (.block 5 (.seq (.seq (.ops [
 ⟨some 65,.move (.tmp 0),22,none⟩,
 ⟨some 66,.move (.tmp 7),122,none⟩,
 ⟨some 67,.move (.tmp 12),3,none⟩,
 ⟨some 68,.indexAddr 122 (.tmp 66) (.tmp 67),0,none⟩,
 ⟨some 69,.fieldAddr 127 (.tmp 68) 0,0,none⟩,
 ⟨some 70,.load 125 (.tmp 69),125,none⟩,
 ⟨some 71,.move (.tmp 13),3,none⟩,
 ⟨some 72,.call ⟨.value (.func 109),#[(.tmp 65),(.tmp 70),(.tmp 71)],#[22,125,3]⟩,4,none⟩,
 ⟨some 73,.unOp .not 4 (.tmp 72),4,none⟩] [0,2,7,8,12,13,73]) (sg c70S4)) (sg c70S10))) (sg c70S11))
def c70L1(_:Unit):Cmd:=(.seq (.seq (.ops [
 ⟨some 59,.move (.tmp 13),3,none⟩,
 ⟨some 60,.move (.tmp 0),22,none⟩,
 ⟨some 61,.call ⟨.builtin .len,#[(.tmp 60)],#[22]⟩,3,none⟩,
 ⟨some 62,.binOp .lss 3 (.tmp 59) (.tmp 61) 3,4,none⟩] [0,2,7,8,12,13,62])
 (.cond (.tmp 62)
 (.skip [0,2,7,8,12,13])
 (.exit 4 [0,2,7,8,12]))) (sg c70S12))
def c70S13(_:Unit):Cmd:=(.ops [
 ⟨some 57,.move (.tmp 12),3,none⟩,
 ⟨some 58,.binOp .add 3 (.tmp 57) (.const (.int .i64 1)) 3,3,none⟩,
 ⟨some 12,.assign (.tmp 58),3,none⟩] [0,2,7,8,12])
def c70S14(_:Unit):Cmd:=(.seq (.block 3 (.seq (.ops [
 ⟨some 13,.assign (.const (.int .i64 0)),3,none⟩] [0,2,7,8,12,13])
 (.block 4 (.loop (sg c70L1))))) (sg c70S13))
def c70L2(_:Unit):Cmd:=(.seq (.seq (.ops [
 ⟨some 47,.move (.tmp 12),3,none⟩,
 ⟨some 48,.move (.tmp 7),122,none⟩,
 ⟨some 49,.call ⟨.builtin .len,#[(.tmp 48)],#[122]⟩,3,none⟩,
 ⟨some 50,.binOp .lss 3 (.tmp 47) (.tmp 49) 3,4,none⟩,
 ⟨some 51,.move (.tmp 50),4,none⟩,
 ⟨some 52,.move (.tmp 7),122,(some (51,true))⟩,
 ⟨some 53,.call ⟨.builtin .len,#[(.tmp 52)],#[122]⟩,3,(some (51,true))⟩,
 ⟨some 54,.move (.tmp 2),3,(some (51,true))⟩,
 ⟨some 55,.binOp .leq 3 (.tmp 53) (.tmp 54) 3,4,(some (51,true))⟩,
 ⟨some 56,.pick (.tmp 51) (.tmp 55) (.const (.bool false)),4,none⟩] [0,2,7,8,12,56])
 (.cond (.tmp 56)
 (.skip [0,2,7,8,12])
 (.exit 2 [7]))) (sg c70S14))
def c70S15(_:Unit):Cmd:=(.seq (.ops [
 ⟨some 114,.move (.tmp 7),122,none⟩,
 ⟨some 6,.assign (.tmp 114),122,none⟩] [6])
 .ret)
def c70S16(_:Unit):Cmd:=(.seq (.seq (.ops [
 ⟨some 12,.assign (.const (.int .i64 0)),3,none⟩] [0,2,7,8,12])
 (.block 2 (.loop (sg c70L2)))) (sg c70S15))
def c70S17(_:Unit):Cmd:=(.seq (.seq (.ops [
 ⟨some 10,.assign (.const (.int .i64 0)),3,none⟩] [0,2,7,8,9,10])
 (.block 0 (.loop (sg c70L0)))) (sg c70S16))
def c70:Cmd:=(.seq (.ops [
 ⟨some 6,.assign (.const (.slice none 0 0)),122,none⟩] [0,1,2])
 (.seq (.ops [
 ⟨some 7,.assign (.const (.slice none 0 0)),122,none⟩] [0,1,2,7])
 (.seq (.ops [
 ⟨some 17,.makeMap 156 none,156,none⟩,
 ⟨some 8,.assign (.tmp 17),156,none⟩] [0,1,2,7,8])
 (.seq (.ops [
 ⟨some 18,.move (.tmp 1),74,none⟩,
 ⟨some 19,.call ⟨.value (.func 71),#[(.tmp 18)],#[74]⟩,74,none⟩,
 ⟨some 9,.assign (.tmp 19),74,none⟩] [0,2,7,8,9]) (sg c70S17)))))
attribute [go_sem] c70 c70S0 c70S2 c70S3 c70L0 c70S4 c70S5 c70S6 c70S8 c70S9 c70S10 c70S11 c70S12 c70L1 c70L2 c70S15 c70S17
def c70D0:GT:=(.one 0 ⟨some 32,.move (.tmp 0),22,none⟩
 (.one 0 ⟨some 33,.call ⟨.builtin .len,#[(.tmp 32)],#[22]⟩,3,none⟩
 (.one 0 ⟨some 35,.move (.tmp 9),74,none⟩
 (.one 0 ⟨some 36,.move (.tmp 10),3,none⟩
 (.one 0 ⟨some 37,.indexAddr 74 (.tmp 35) (.tmp 36),0,none⟩
 (.one 1 ⟨some 38,.load 66 (.tmp 37),66,none⟩
 (.alt ⟨some 34,.makeSlice 125 (.tmp 33) (.tmp 33),125,none⟩
 (.alt ⟨some 39,.build 127 #[(0,(.tmp 34)),(1,(.tmp 38))],127,none⟩
 (.one 2 ⟨some 11,.alloc 127,0,none⟩
 (.one 2 ⟨none,.store 127 (.tmp 11) (.tmp 39),0,none⟩
 .nil))
 (.alt ⟨some 11,.alloc 127,0,none⟩
 (.one 2 ⟨some 39,.build 127 #[(0,(.tmp 34)),(1,(.tmp 38))],127,none⟩
 (.one 2 ⟨none,.store 127 (.tmp 11) (.tmp 39),0,none⟩
 .nil))
 .stop))
 (.alt ⟨some 11,.alloc 127,0,none⟩
 (.one 2 ⟨some 34,.makeSlice 125 (.tmp 33) (.tmp 33),125,none⟩
 (.one 2 ⟨some 39,.build 127 #[(0,(.tmp 34)),(1,(.tmp 38))],127,none⟩
 (.one 2 ⟨none,.store 127 (.tmp 11) (.tmp 39),0,none⟩
 .nil)))
 .stop))))))))
theorem c70draw0{L:List Nat}{ρ:Env}{w:World}{Q:Post}(S:World→Prop)(hS:S w.drew)(h:DT Tryz.prog S c70D0 L ρ w.drew Q):drawW Tryz.prog (drawOps 0 c70code) L ρ w Q :=
 drawW_tree [6] (.one 0 0 (.one 0 1 (.one 0 3 (.one 0 4 (.one 0 5 (.one 1 6 (.alt 2 (.alt 7 (.one 2 8 (.one 2 9 .nil)) (.alt 8 (.one 2 7 (.one 2 9 .nil)) .stop)) (.alt 8 (.one 2 2 (.one 2 7 (.one 2 9 .nil))) .stop)))))))) c70D0 (by kernel_rfl) (by kernel_rfl) (by kernel_rfl) S hS h
def c70D1:List (Nat × Ins):=[
 (0,⟨some 75,.move (.tmp 7),122,none⟩),
 (0,⟨some 76,.move (.tmp 12),3,none⟩),
 (0,⟨some 77,.indexAddr 122 (.tmp 75) (.tmp 76),0,none⟩),
 (0,⟨some 78,.fieldAddr 127 (.tmp 77) 1,0,none⟩),
 (0,⟨some 80,.move (.tmp 0),22,none⟩),
 (0,⟨some 81,.move (.tmp 13),3,none⟩),
 (0,⟨some 82,.indexAddr 22 (.tmp 80) (.tmp 81),0,none⟩),
 (1,⟨some 79,.load 66 (.tmp 78),66,none⟩),
 (2,⟨some 83,.load 38 (.tmp 82),38,none⟩),
 (3,⟨some 84,.call ⟨.value (.func 110),#[(.tmp 79),(.tmp 83)],#[66,38]⟩,114,none⟩),
 (0,⟨some 74,.move (.tmp 84),114,none⟩),
 (0,⟨some 85,.extract (.tmp 74) 0,66,none⟩),
 (0,⟨some 86,.extract (.tmp 74) 1,4,none⟩),
 (0,⟨some 14,.assign (.tmp 85),66,none⟩),
 (0,⟨some 15,.assign (.tmp 86),4,none⟩)]
theorem c70draw1{L:List Nat}{ρ:Env}{w:World}{Q:Post}(S:World→Prop)(hS:S w.drew)(h:DG Tryz.prog S c70D1 L ρ w.drew Q):drawW Tryz.prog (drawOps 1 c70code) L ρ w Q :=
 drawW_held [4] [(0,0),(0,1),(0,2),(0,3),(0,5),(0,6),(0,7),(1,4),(2,8),(3,9),(0,10),(0,11),(0,12),(0,13),(0,14)] c70D1 (by kernel_rfl) (by kernel_rfl) (by kernel_rfl) S hS h
theorem ent70(a0 a1 a2:Value)(w:World)(K:Value→World→Prop)(h:W Tryz.prog c70 [(0,a0),(1,a1),(2,a2)] w (finQ Tryz.prog [.tmp 6] K)):Ret Tryz.prog 70 [a0,a1,a2] w K :=
 Ret_of_W (code:=c70code) Tryz.func70 (by kernel_rfl) (by kernel_rfl) (of_decide_eq_true (by kernel_rfl)) h
@[go_sem] theorem go70:goFunc Tryz.prog 70=true:=by kernel_rfl
def c71code:Code:=match Tryz.f71.body with | some c=>c | none=>.skip
def c71S0(_:Unit):Cmd:=(.seq (.ops [
 ⟨some 33,.move (.tmp 7),4,none⟩,
 ⟨some 34,.move (.tmp 33),4,none⟩,
 ⟨some 35,.move (.tmp 9),9,(some (34,false))⟩,
 ⟨some 36,.move (.tmp 5),9,(some (34,false))⟩,
 ⟨some 37,.binOp .eql 9 (.tmp 35) (.tmp 36) 9,4,(some (34,false))⟩,
 ⟨some 38,.pick (.tmp 34) (.const (.bool true)) (.tmp 37),4,none⟩,
 ⟨some 7,.assign (.tmp 38),4,none⟩] [0,3,4,5,6,7,8,9])
 (.seq (.ops [
 ⟨some 39,.move (.tmp 9),9,none⟩,
 ⟨some 40,.move (.tmp 5),9,none⟩,
 ⟨some 41,.binOp .lss 9 (.tmp 39) (.tmp 40) 9,4,none⟩] [0,3,4,5,6,7,8,41])
 (.cond (.tmp 41)
 (.ops [
 ⟨some 42,.move (.tmp 6),3,none⟩,
 ⟨some 43,.binOp .add 3 (.tmp 42) (.const (.int .i64 1)) 3,3,none⟩,
 ⟨some 6,.assign (.tmp 43),3,none⟩] [0,3,4,5,6,7,8])
 (.skip [0,3,4,5,6,7,8]))))
def c71S1(_:Unit):Cmd:=(.ops [
 ⟨some 26,.move (.tmp 8),3,none⟩,
 ⟨some 27,.binOp .add 3 (.tmp 26) (.const (.int .i64 1)) 3,3,none⟩,
 ⟨some 8,.assign (.tmp 27),3,none⟩] [0,3,4,5,6,7,8])
def c71S2(_:Unit):Cmd:=(.seq (.block 3 (.seq (.ops [
 ⟨some 28,.move (.tmp 3),74,none⟩,
 ⟨some 29,.move (.tmp 8),3,none⟩,
 ⟨some 30,.indexAddr 74 (.tmp 28) (.tmp 29),0,none⟩,
 ⟨some 31,.load 66 (.tmp 30),66,none⟩,
 ⟨some 32,.call ⟨.value (.func 111),#[(.tmp 31)],#[66]⟩,9,none⟩,
 ⟨some 9,.assign (.tmp 32),9,none⟩] [0,3,4,5,6,7,8,9]) (sg c71S0))) (sg c71S1))
def c71L0(_:Unit):Cmd:=(.seq (.seq (.ops [
 ⟨some 22,.move (.tmp 8),3,none⟩,
 ⟨some 23,.move (.tmp 3),74,none⟩,
 ⟨some 24,.call ⟨.builtin .len,#[(.tmp 23)],#[74]⟩,3,none⟩,
 ⟨some 25,.binOp .lss 3 (.tmp 22) (.tmp 24) 3,4,none⟩] [0,3,4,5,6,7,8,25])
 (.cond (.tmp 25)
 (.skip [0,3,4,5,6,7,8])
 (.exit 2 [0,3,4,6,7]))) (sg c71S2))
def c71S3(_:Unit):Cmd:=(.ops [
 ⟨some 58,.move (.tmp 10),74,none⟩,
 ⟨some 59,.move (.tmp 3),74,none⟩,
 ⟨some 60,.move (.tmp 6),3,none⟩,
 ⟨some 61,.slice 74 (.tmp 59) (some (.tmp 60)) none none,74,none⟩,
 ⟨some 62,.call ⟨.builtin .append,#[(.tmp 58),(.tmp 61)],#[74,74]⟩,74,none⟩,
 ⟨some 3,.assign (.tmp 62),74,none⟩] [0,3,4])
def c71S4(_:Unit):Cmd:=(.seq (.ops [
 ⟨some 51,.move (.tmp 10),74,none⟩,
 ⟨some 52,.move (.tmp 0),74,none⟩,
 ⟨some 53,.move (.tmp 4),3,none⟩,
 ⟨some 54,.indexAddr 74 (.tmp 52) (.tmp 53),0,none⟩,
 ⟨some 55,.load 66 (.tmp 54),66,none⟩,
 ⟨some 56,.buildSlice 74 1 #[(0,(.tmp 55))],74,none⟩,
 ⟨some 57,.call ⟨.builtin .append,#[(.tmp 51),(.tmp 56)],#[74,74]⟩,74,none⟩,
 ⟨some 10,.assign (.tmp 57),74,none⟩] [0,3,4,6,10]) (sg c71S3))
def c71S5(_:Unit):Cmd:=(.seq (.ops [
 ⟨some 44,.move (.tmp 7),4,none⟩,
 ⟨some 45,.unOp .not 4 (.tmp 44),4,none⟩] [0,3,4,6,45])
 (.cond (.tmp 45)
 (.seq (.ops [
 ⟨some 46,.buildSlice 74 0 #[],74,none⟩,
 ⟨some 47,.move (.tmp 3),74,none⟩,
 ⟨some 48,.move (.tmp 6),3,none⟩,
 ⟨some 49,.slice 74 (.tmp 47) none (some (.tmp 48)) none,74,none⟩,
 ⟨some 50,.call ⟨.builtin .append,#[(.tmp 46),(.tmp 49)],#[74,74]⟩,74,none⟩,
 ⟨some 10,.assign (.tmp 50),74,none⟩] [0,3,4,6,10]) (sg c71S4))
 (.skip [0,3,4])))
def c71S6(_:Unit):Cmd:=(.seq (.ops [
 ⟨some 6,.assign (.const (.int .i64 0)),3,none⟩,
 ⟨some 7,.assign (.const (.bool false)),4,none⟩] [0,3,4,5,6,7])
 (.seq (.seq (.ops [
 ⟨some 8,.assign (.const (.int .i64 0)),3,none⟩] [0,3,4,5,6,7,8])
 (.block 2 (.loop (sg c71L0)))) (sg c71S5)))
def c71S7(_:Unit):Cmd:=(.ops [
 ⟨some 15,.move (.tmp 4),3,none⟩,
 ⟨some 16,.binOp .add 3 (.tmp 15) (.const (.int .i64 1)) 3,3,none⟩,
 ⟨some 4,.assign (.tmp 16),3,none⟩] [0,3,4])
def c71S8(_:Unit):Cmd:=(.seq (.block 1 (.seq (.ops [
 ⟨some 17,.move (.tmp 0),74,none⟩,
 ⟨some 18,.move (.tmp 4),3,none⟩,
 ⟨some 19,.indexAddr 74 (.tmp 17) (.tmp 18),0,none⟩,
 ⟨some 20,.load 66 (.tmp 19),66,none⟩,
 ⟨some 21,.call ⟨.value (.func 111),#[(.tmp 20)],#[66]⟩,9,none⟩,
 ⟨some 5,.assign (.tmp 21),9,none⟩] [0,3,4,5]) (sg c71S6))) (sg c71S7))
def c71L1(_:Unit):Cmd:=(.seq (.seq (.ops [
 ⟨some 11,.move (.tmp 4),3,none⟩,
 ⟨some 12,.move (.tmp 0),74,none⟩,
 ⟨some 13,.call ⟨.builtin .len,#[(.tmp 12)],#[74]⟩,3,none⟩,
 ⟨some 14,.binOp .lss 3 (.tmp 11) (.tmp 13) 3,4,none⟩] [0,3,4,14])
 (.cond (.tmp 14)
 (.skip [0,3,4])
 (.exit 0 [3]))) (sg c71S8))
def c71S9(_:Unit):Cmd:=(.seq (.ops [
 ⟨some 63,.move (.tmp 3),74,none⟩,
 ⟨some 2,.assign (.tmp 63),74,none⟩] [2])
 .ret)
def c71:Cmd:=(.seq (.ops [
 ⟨some 2,.assign (.const (.slice none 0 0)),74,none⟩] [0])
 (.seq (.ops [
 ⟨some 3,.assign (.const (.slice none 0 0)),74,none⟩] [0,3])
 (.seq (.seq (.ops [
 ⟨some 4,.assign (.const (.int .i64 0)),3,none⟩] [0,3,4])
 (.block 0 (.loop (sg c71L1)))) (sg c71S9))))
attribute [go_sem] c71 c71S0 c71S1 c71S2 c71L0 c71S3 c71S4 c71S6 c71S7 c71S8 c71L1 c71S9
theorem ent71(a0:Value)(w:World)(K:Value→World→Prop)(h:W Tryz.prog c71 [(0,a0)] w (finQ Tryz.prog [.tmp 2] K)):Ret Tryz.prog 71 [a0] w K :=
 Ret_of_W (code:=c71code) Tryz.func71 (by kernel_rfl) (by kernel_rfl) (of_decide_eq_true (by kernel_rfl)) h
@[go_sem] theorem go71:goFunc Tryz.prog 71=true:=by kernel_rfl
def c72code:Code:=match Tryz.f72.body with | some c=>c | none=>.skip
def c72S0(_:Unit):Cmd:=(.ops [
 ⟨some 10,.move (.tmp 5),3,none⟩,
 ⟨some 11,.binOp .add 3 (.tmp 10) (.const (.int .i64 1)) 3,3,none⟩,
 ⟨some 5,.assign (.tmp 11),3,none⟩] [0,1,5])
def c72S1(_:Unit):Cmd:=(.seq (.block 1 (.seq (.ops [
 ⟨some 12,.move (.tmp 0),22,none⟩,
 ⟨some 13,.move (.tmp 5),3,none⟩,
 ⟨some 14,.indexAddr 22 (.tmp 12) (.tmp 13),0,none⟩,
 ⟨some 15,.fieldAddr 38 (.tmp 14) 7,0,none⟩,
 ⟨some 16,.load 4 (.tmp 15),4,none⟩,
 ⟨some 17,.move (.tmp 16),4,none⟩,
 ⟨some 18,.move (.tmp 1),125,(some (17,true))⟩,
 ⟨some 19,.move (.tmp 5),3,(some (17,true))⟩,
 ⟨some 20,.indexAddr 125 (.tmp 18) (.tmp 19),0,(some (17,true))⟩,
 ⟨some 21,.load 4 (.tmp 20),4,(some (17,true))⟩,
 ⟨some 22,.unOp .not 4 (.tmp 21),4,(some (17,true))⟩,
 ⟨some 23,.pick (.tmp 17) (.tmp 22) (.const (.bool false)),4,none⟩] [0,1,5,23])
 (.cond (.tmp 23)
 (.seq (.ops [
 ⟨some 4,.assign (.const (.bool false)),4,none⟩] [4])
 .ret)
 (.skip [0,1,5])))) (sg c72S0))
def c72L0(_:Unit):Cmd:=(.seq (.seq (.ops [
 ⟨some 6,.move (.tmp 5),3,none⟩,
 ⟨some 7,.move (.tmp 0),22,none⟩,
 ⟨some 8,.call ⟨.builtin .len,#[(.tmp 7)],#[22]⟩,3,none⟩,
 ⟨some 9,.binOp .lss 3 (.tmp 6) (.tmp 8) 3,4,none⟩] [0,1,5,9])
 (.cond (.tmp 9)
 (.skip [0,1,5])
 (.exit 0 []))) (sg c72S1))
def c72S2(_:Unit):Cmd:=(.seq (.ops [
 ⟨some 4,.assign (.const (.bool true)),4,none⟩] [4])
 .ret)
def c72:Cmd:=(.seq (.ops [
 ⟨some 4,.assign (.const (.bool false)),4,none⟩] [0,1])
 (.seq (.seq (.ops [
 ⟨some 5,.assign (.const (.int .i64 0)),3,none⟩] [0,1,5])
 (.block 0 (.loop (sg c72L0)))) (sg c72S2)))
attribute [go_sem] c72 c72S0 c72S1 c72L0 c72S2
theorem ent72(a0 a1:Value)(w:World)(K:Value→World→Prop)(h:W Tryz.prog c72 [(0,a0),(1,a1)] w (finQ Tryz.prog [.tmp 4] K)):Ret Tryz.prog 72 [a0,a1] w K :=
 Ret_of_W (code:=c72code) Tryz.func72 (by kernel_rfl) (by kernel_rfl) (of_decide_eq_true (by kernel_rfl)) h
@[go_sem] theorem go72:goFunc Tryz.prog 72=true:=by kernel_rfl
def c74code:Code:=match Tryz.f74.body with | some c=>c | none=>.skip
def c74S0(_:Unit):Cmd:=(.cond (.tmp 16)
 (.seq (.ops [
 ⟨some 17,.move (.tmp 5),3,none⟩,
 ⟨some 4,.assign (.tmp 17),3,none⟩] [4])
 .ret)
 (.skip [0,1,7,8]))
def c74S1(_:Unit):Cmd:=(.ops [
 ⟨some 18,.binOp .add 3 (.tmp 8) (.const (.int .i64 1)) 3,3,none⟩,
 ⟨some 8,.move (.tmp 18),3,none⟩] [0,1,7,8])
def c74S2(_:Unit):Cmd:=(.seq (.block 1 (.seq (.ops [
 ⟨some 10,.move (.tmp 8),3,none⟩,
 ⟨some 5,.assign (.tmp 10),3,none⟩] [0,1,5,7,8])
 (.seq (.ops [
 ⟨some 11,.move (.tmp 1),92,none⟩,
 ⟨some 12,.move (.tmp 0),22,none⟩,
 ⟨some 13,.move (.tmp 5),3,none⟩,
 ⟨some 14,.indexAddr 22 (.tmp 12) (.tmp 13),0,none⟩,
 ⟨some 15,.load 38 (.tmp 14),38,none⟩,
 ⟨some 16,.call ⟨.value (.tmp 11),#[(.tmp 15)],#[38]⟩,4,none⟩] [0,1,5,7,8,16]) (sg c74S0)))) (sg c74S1))
def c74L0(_:Unit):Cmd:=(.seq (.ops [
 ⟨some 9,.binOp .lss 3 (.tmp 8) (.tmp 7) 3,0,none⟩] [0,1,7,8,9])
 (.seq (.cond (.tmp 9)
 (.skip [0,1,7,8])
 (.exit 0 [])) (sg c74S2)))
def c74S3(_:Unit):Cmd:=(.seq (.ops [
 ⟨some 4,.assign (.const (.int .i64 (-1))),3,none⟩] [4])
 .ret)
def c74:Cmd:=(.seq (.ops [
 ⟨some 4,.assign (.const (.int .i64 0)),3,none⟩] [0,1])
 (.seq (.seq (.ops [
 ⟨some 6,.move (.tmp 0),22,none⟩,
 ⟨some 7,.call ⟨.builtin .len,#[(.tmp 6)],#[22]⟩,3,none⟩,
 ⟨some 8,.move (.const (.int .i64 0)),3,none⟩] [0,1,7,8])
 (.block 0 (.loop (sg c74L0)))) (sg c74S3)))
attribute [go_sem] c74 c74S0 c74S1 c74S2 c74L0 c74S3
theorem ent74(a0 a1:Value)(w:World)(K:Value→World→Prop)(h:W Tryz.prog c74 [(0,a0),(1,a1)] w (finQ Tryz.prog [.tmp 4] K)):Ret Tryz.prog 74 [a0,a1] w K :=
 Ret_of_W (code:=c74code) Tryz.func74 (by kernel_rfl) (by kernel_rfl) (of_decide_eq_true (by kernel_rfl)) h
@[go_sem] theorem go74:goFunc Tryz.prog 74=true:=by kernel_rfl
def c75code:Code:=match Tryz.f75.body with | some c=>c | none=>.skip
def c75S0(_:Unit):Cmd:=(.seq (.ops [
 ⟨some 4,.assign (.const (.bool false)),4,none⟩] [4])
 .ret)
def c75:Cmd:=(.seq (.ops [
 ⟨some 4,.assign (.const (.bool false)),4,none⟩] [0,1])
 (.seq (.seq (.ops [
 ⟨some 5,.move (.tmp 0),3,none⟩] [1,5])
 (.block 0 (.seq (.ops [
 ⟨some 7,.binOp .eql 3 (.tmp 5) (.const (.int .i64 1)) 3,4,none⟩,
 ⟨some 6,.assign (.tmp 7),4,none⟩] [1,5,6])
 (.cond (.tmp 6)
 (.seq (.ops [
 ⟨some 8,.move (.tmp 1),3,none⟩,
 ⟨some 9,.binOp .geq 3 (.tmp 8) (.const (.int .i64 1)) 3,4,none⟩,
 ⟨some 10,.move (.tmp 9),4,none⟩,
 ⟨some 11,.move (.tmp 1),3,(some (10,true))⟩,
 ⟨some 12,.binOp .leq 3 (.tmp 11) (.const (.int .i64 3)) 3,4,(some (10,true))⟩,
 ⟨some 13,.pick (.tmp 10) (.tmp 12) (.const (.bool false)),4,none⟩,
 ⟨some 4,.assign (.tmp 13),4,none⟩] [4])
 .ret)
 (.seq (.ops [
 ⟨some 15,.binOp .eql 3 (.tmp 5) (.const (.int .i64 2)) 3,4,none⟩,
 ⟨some 14,.assign (.tmp 15),4,none⟩] [1,5,14])
 (.cond (.tmp 14)
 (.seq (.ops [
 ⟨some 16,.move (.tmp 1),3,none⟩,
 ⟨some 17,.binOp .eql 3 (.tmp 16) (.const (.int .i64 1)) 3,4,none⟩,
 ⟨some 18,.move (.tmp 17),4,none⟩,
 ⟨some 19,.move (.tmp 1),3,(some (18,false))⟩,
 ⟨some 20,.binOp .eql 3 (.tmp 19) (.const (.int .i64 4)) 3,4,(some (18,false))⟩,
 ⟨some 21,.pick (.tmp 18) (.const (.bool true)) (.tmp 20),4,none⟩,
 ⟨some 22,.move (.tmp 21),4,none⟩,
 ⟨some 23,.move (.tmp 1),3,(some (22,false))⟩,
 ⟨some 24,.binOp .eql 3 (.tmp 23) (.const (.int .i64 5)) 3,4,(some (22,false))⟩,
 ⟨some 25,.pick (.tmp 22) (.const (.bool true)) (.tmp 24),4,none⟩,
 ⟨some 4,.assign (.tmp 25),4,none⟩] [4])
 .ret)
 (.seq (.ops [
 ⟨some 27,.binOp .eql 3 (.tmp 5) (.const (.int .i64 3)) 3,4,none⟩,
 ⟨some 26,.assign (.tmp 27),4,none⟩] [1,5,26])
 (.cond (.tmp 26)
 (.seq (.ops [
 ⟨some 28,.move (.tmp 1),3,none⟩,
 ⟨some 29,.binOp .eql 3 (.tmp 28) (.const (.int .i64 6)) 3,4,none⟩,
 ⟨some 30,.move (.tmp 29),4,none⟩,
 ⟨some 31,.move (.tmp 1),3,(some (30,false))⟩,
 ⟨some 32,.binOp .eql 3 (.tmp 31) (.const (.int .i64 7)) 3,4,(some (30,false))⟩,
 ⟨some 33,.pick (.tmp 30) (.const (.bool true)) (.tmp 32),4,none⟩,
 ⟨some 4,.assign (.tmp 33),4,none⟩] [4])
 .ret)
 (.seq (.ops [
 ⟨some 35,.binOp .eql 3 (.tmp 5) (.const (.int .i64 4)) 3,4,none⟩,
 ⟨some 34,.assign (.tmp 35),4,none⟩] [1,5,34])
 (.cond (.tmp 34)
 (.seq (.ops [
 ⟨some 36,.move (.tmp 1),3,none⟩,
 ⟨some 37,.binOp .eql 3 (.tmp 36) (.const (.int .i64 8)) 3,4,none⟩,
 ⟨some 38,.move (.tmp 37),4,none⟩,
 ⟨some 39,.move (.tmp 1),3,(some (38,false))⟩,
 ⟨some 40,.binOp .eql 3 (.tmp 39) (.const (.int .i64 9)) 3,4,(some (38,false))⟩,
 ⟨some 41,.pick (.tmp 38) (.const (.bool true)) (.tmp 40),4,none⟩,
 ⟨some 4,.assign (.tmp 41),4,none⟩] [4])
 .ret)
 (.seq (.ops [
 ⟨some 43,.binOp .eql 3 (.tmp 5) (.const (.int .i64 5)) 3,4,none⟩,
 ⟨some 42,.assign (.tmp 43),4,none⟩] [1,5,42])
 (.cond (.tmp 42)
 (.seq (.ops [
 ⟨some 44,.move (.tmp 1),3,none⟩,
 ⟨some 45,.binOp .geq 3 (.tmp 44) (.const (.int .i64 10)) 3,4,none⟩,
 ⟨some 46,.move (.tmp 45),4,none⟩,
 ⟨some 47,.move (.tmp 1),3,(some (46,true))⟩,
 ⟨some 48,.binOp .leq 3 (.tmp 47) (.const (.int .i64 12)) 3,4,(some (46,true))⟩,
 ⟨some 49,.pick (.tmp 46) (.tmp 48) (.const (.bool false)),4,none⟩,
 ⟨some 4,.assign (.tmp 49),4,none⟩] [4])
 .ret)
 (.seq (.ops [
 ⟨some 51,.binOp .eql 3 (.tmp 5) (.const (.int .i64 6)) 3,4,none⟩,
 ⟨some 50,.assign (.tmp 51),4,none⟩] [1,50])
 (.cond (.tmp 50)
 (.seq (.ops [
 ⟨some 52,.move (.tmp 1),3,none⟩,
 ⟨some 53,.binOp .eql 3 (.tmp 52) (.const (.int .i64 13)) 3,4,none⟩,
 ⟨some 54,.move (.tmp 53),4,none⟩,
 ⟨some 55,.move (.tmp 1),3,(some (54,false))⟩,
 ⟨some 56,.binOp .eql 3 (.tmp 55) (.const (.int .i64 14)) 3,4,(some (54,false))⟩,
 ⟨some 57,.pick (.tmp 54) (.const (.bool true)) (.tmp 56),4,none⟩,
 ⟨some 4,.assign (.tmp 57),4,none⟩] [4])
 .ret)
 (.skip []))))))))))))))) (sg c75S0)))
attribute [go_sem] c75 c75S0
theorem ent75(a0 a1:Value)(w:World)(K:Value→World→Prop)(h:W Tryz.prog c75 [(0,a0),(1,a1)] w (finQ Tryz.prog [.tmp 4] K)):Ret Tryz.prog 75 [a0,a1] w K :=
 Ret_of_W (code:=c75code) Tryz.func75 (by kernel_rfl) (by kernel_rfl) (of_decide_eq_true (by kernel_rfl)) h
@[go_sem] theorem go75:goFunc Tryz.prog 75=true:=by kernel_rfl
def c76code:Code:=match Tryz.f76.body with | some c=>c | none=>.skip
def c76S0(_:Unit):Cmd:=.ret
def c76S1(_:Unit):Cmd:=.ret
def c76S2(_:Unit):Cmd:=(.cond (.tmp 15)
 (.seq (.ops [
 ⟨some 22,.fieldAddr 38 (.tmp 1) 5,0,none⟩,
 ⟨some 23,.load 3 (.tmp 22),3,none⟩,
 ⟨some 24,.call ⟨.value (.func 121),#[(.tmp 23)],#[3]⟩,4,none⟩,
 ⟨some 25,.move (.tmp 24),4,none⟩,
 ⟨some 26,.fieldAddr 38 (.tmp 1) 6,0,(some (25,true))⟩,
 ⟨some 27,.load 3 (.tmp 26),3,(some (25,true))⟩,
 ⟨some 28,.binOp .eql 3 (.tmp 27) (.const (.int .i64 0)) 3,4,(some (25,true))⟩,
 ⟨some 29,.pick (.tmp 25) (.tmp 28) (.const (.bool false)),4,none⟩,
 ⟨some 2,.assign (.tmp 29),4,none⟩] [2]) (sg c76S1))
 (.skip [1]))
def c76S3(_:Unit):Cmd:=(.seq (.ops [
 ⟨some 30,.fieldAddr 38 (.tmp 1) 5,0,none⟩,
 ⟨some 31,.load 3 (.tmp 30),3,none⟩,
 ⟨some 32,.binOp .eql 3 (.tmp 31) (.const (.int .i64 0)) 3,4,none⟩,
 ⟨some 33,.move (.tmp 32),4,none⟩,
 ⟨some 34,.fieldAddr 38 (.tmp 1) 6,0,(some (33,true))⟩,
 ⟨some 35,.load 3 (.tmp 34),3,(some (33,true))⟩,
 ⟨some 36,.binOp .eql 3 (.tmp 35) (.const (.int .i64 0)) 3,4,(some (33,true))⟩,
 ⟨some 37,.pick (.tmp 33) (.tmp 36) (.const (.bool false)),4,none⟩,
 ⟨some 2,.assign (.tmp 37),4,none⟩] [2])
 .ret)
def c76:Cmd:=(.seq (.ops [
 ⟨some 1,.box 38 (.tmp 0),0,none⟩,
 ⟨some 2,.assign (.const (.bool false)),4,none⟩] [1])
 (.seq (.seq (.ops [
 ⟨some 3,.fieldAddr 38 (.tmp 1) 4,0,none⟩,
 ⟨some 4,.load 3 (.tmp 3),3,none⟩] [1,4])
 (.block 0 (.seq (.ops [
 ⟨some 6,.binOp .eql 3 (.tmp 4) (.const (.int .i64 3)) 3,4,none⟩,
 ⟨some 5,.assign (.tmp 6),4,none⟩] [1,4,5])
 (.cond (.tmp 5)
 (.seq (.ops [
 ⟨some 7,.fieldAddr 38 (.tmp 1) 5,0,none⟩,
 ⟨some 8,.load 3 (.tmp 7),3,none⟩,
 ⟨some 9,.call ⟨.value (.func 121),#[(.tmp 8)],#[3]⟩,4,none⟩,
 ⟨some 10,.move (.tmp 9),4,none⟩,
 ⟨some 11,.fieldAddr 38 (.tmp 1) 6,0,(some (10,true))⟩,
 ⟨some 12,.load 3 (.tmp 11),3,(some (10,true))⟩,
 ⟨some 13,.call ⟨.value (.func 121),#[(.tmp 12)],#[3]⟩,4,(some (10,true))⟩,
 ⟨some 14,.pick (.tmp 10) (.tmp 13) (.const (.bool false)),4,none⟩,
 ⟨some 2,.assign (.tmp 14),4,none⟩] [2]) (sg c76S0))
 (.seq (.seq (.ops [
 ⟨some 16,.binOp .eql 3 (.tmp 4) (.const (.int .i64 2)) 3,4,none⟩,
 ⟨some 15,.assign (.tmp 16),4,none⟩] [1,4,15])
 (.cond (.tmp 15)
 (.skip [1,15])
 (.seq (.ops [
 ⟨some 17,.binOp .eql 3 (.tmp 4) (.const (.int .i64 6)) 3,4,none⟩,
 ⟨some 15,.assign (.tmp 17),4,none⟩] [1,4,15])
 (.cond (.tmp 15)
 (.skip [1,15])
 (.seq (.ops [
 ⟨some 18,.binOp .eql 3 (.tmp 4) (.const (.int .i64 8)) 3,4,none⟩,
 ⟨some 15,.assign (.tmp 18),4,none⟩] [1,4,15])
 (.cond (.tmp 15)
 (.skip [1,15])
 (.seq (.ops [
 ⟨some 19,.binOp .eql 3 (.tmp 4) (.const (.int .i64 10)) 3,4,none⟩,
 ⟨some 15,.assign (.tmp 19),4,none⟩] [1,4,15])
 (.cond (.tmp 15)
 (.skip [1,15])
 (.seq (.ops [
 ⟨some 20,.binOp .eql 3 (.tmp 4) (.const (.int .i64 11)) 3,4,none⟩,
 ⟨some 15,.assign (.tmp 20),4,none⟩] [1,4,15])
 (.cond (.tmp 15)
 (.skip [1,15])
 (.ops [
 ⟨some 21,.binOp .eql 3 (.tmp 4) (.const (.int .i64 12)) 3,4,none⟩,
 ⟨some 15,.assign (.tmp 21),4,none⟩] [1,15]))))))))))) (sg c76S2)))))) (sg c76S3)))
attribute [go_sem] c76 c76S0 c76S1 c76S3
theorem ent76(a0:Value)(w:World)(K:Value→World→Prop)(h:W Tryz.prog c76 [(0,a0)] w (finQ Tryz.prog [.tmp 2] K)):Ret Tryz.prog 76 [a0] w K :=
 Ret_of_W (code:=c76code) Tryz.func76 (by kernel_rfl) (by kernel_rfl) (of_decide_eq_true (by kernel_rfl)) h
@[go_sem] theorem go76:goFunc Tryz.prog 76=true:=by kernel_rfl
def c77code:Code:=match Tryz.f77.body with | some c=>c | none=>.skip
def c77S0(_:Unit):Cmd:=.ret
def c77S1(_:Unit):Cmd:=.ret
def c77S2(_:Unit):Cmd:=(.cond (.tmp 34)
 (.seq (.ops [
 ⟨some 37,.fieldAddr 38 (.tmp 1) 8,0,none⟩,
 ⟨some 38,.load 3 (.tmp 37),3,none⟩,
 ⟨some 39,.binOp .eql 3 (.tmp 38) (.const (.int .i64 (-1))) 3,4,none⟩,
 ⟨some 40,.move (.tmp 39),4,none⟩,
 ⟨some 41,.fieldAddr 38 (.tmp 1) 8,0,(some (40,false))⟩,
 ⟨some 42,.load 3 (.tmp 41),3,(some (40,false))⟩,
 ⟨some 43,.call ⟨.value (.func 121),#[(.tmp 42)],#[3]⟩,4,(some (40,false))⟩,
 ⟨some 44,.pick (.tmp 40) (.const (.bool true)) (.tmp 43),4,none⟩,
 ⟨some 2,.assign (.tmp 44),4,none⟩] [2]) (sg c77S1))
 (.skip [1]))
def c77S3(_:Unit):Cmd:=(.cond (.tmp 21)
 (.seq (.ops [
 ⟨some 26,.fieldAddr 38 (.tmp 1) 8,0,none⟩,
 ⟨some 27,.load 3 (.tmp 26),3,none⟩,
 ⟨some 28,.binOp .eql 3 (.tmp 27) (.const (.int .i64 0)) 3,4,none⟩,
 ⟨some 29,.move (.tmp 28),4,none⟩,
 ⟨some 30,.fieldAddr 38 (.tmp 1) 8,0,(some (29,false))⟩,
 ⟨some 31,.load 3 (.tmp 30),3,(some (29,false))⟩,
 ⟨some 32,.binOp .eql 3 (.tmp 31) (.const (.int .i64 1)) 3,4,(some (29,false))⟩,
 ⟨some 33,.pick (.tmp 29) (.const (.bool true)) (.tmp 32),4,none⟩,
 ⟨some 2,.assign (.tmp 33),4,none⟩] [2])
 .ret)
 (.seq (.seq (.ops [
 ⟨some 35,.binOp .eql 3 (.tmp 4) (.const (.int .i64 7)) 3,4,none⟩,
 ⟨some 34,.assign (.tmp 35),4,none⟩] [1,4,34])
 (.cond (.tmp 34)
 (.skip [1,34])
 (.ops [
 ⟨some 36,.binOp .eql 3 (.tmp 4) (.const (.int .i64 9)) 3,4,none⟩,
 ⟨some 34,.assign (.tmp 36),4,none⟩] [1,34]))) (sg c77S2)))
def c77S4(_:Unit):Cmd:=(.seq (.ops [
 ⟨some 45,.fieldAddr 38 (.tmp 1) 8,0,none⟩,
 ⟨some 46,.load 3 (.tmp 45),3,none⟩,
 ⟨some 47,.binOp .eql 3 (.tmp 46) (.const (.int .i64 0)) 3,4,none⟩,
 ⟨some 2,.assign (.tmp 47),4,none⟩] [2])
 .ret)
def c77:Cmd:=(.seq (.ops [
 ⟨some 1,.box 38 (.tmp 0),0,none⟩,
 ⟨some 2,.assign (.const (.bool false)),4,none⟩] [1])
 (.seq (.seq (.ops [
 ⟨some 3,.fieldAddr 38 (.tmp 1) 4,0,none⟩,
 ⟨some 4,.load 3 (.tmp 3),3,none⟩] [1,4])
 (.block 0 (.seq (.ops [
 ⟨some 6,.binOp .eql 3 (.tmp 4) (.const (.int .i64 1)) 3,4,none⟩,
 ⟨some 5,.assign (.tmp 6),4,none⟩] [1,4,5])
 (.cond (.tmp 5)
 (.seq (.ops [
 ⟨some 7,.fieldAddr 38 (.tmp 1) 8,0,none⟩,
 ⟨some 8,.load 3 (.tmp 7),3,none⟩,
 ⟨some 9,.call ⟨.value (.func 121),#[(.tmp 8)],#[3]⟩,4,none⟩,
 ⟨some 10,.move (.tmp 9),4,none⟩,
 ⟨some 11,.fieldAddr 38 (.tmp 1) 3,0,(some (10,false))⟩,
 ⟨some 12,.load 3 (.tmp 11),3,(some (10,false))⟩,
 ⟨some 13,.binOp .eql 3 (.tmp 12) (.const (.int .i64 2)) 3,4,(some (10,false))⟩,
 ⟨some 14,.move (.tmp 13),4,(some (10,false))⟩,
 ⟨some 15,.fieldAddr 38 (.tmp 1) 8,0,(some (14,true))⟩,
 ⟨some 16,.load 3 (.tmp 15),3,(some (14,true))⟩,
 ⟨some 17,.unOp .neg 3 (.tmp 16),3,(some (14,true))⟩,
 ⟨some 18,.call ⟨.value (.func 121),#[(.tmp 17)],#[3]⟩,4,(some (14,true))⟩,
 ⟨some 19,.pick (.tmp 14) (.tmp 18) (.const (.bool false)),4,(some (10,false))⟩,
 ⟨some 20,.pick (.tmp 10) (.const (.bool true)) (.tmp 19),4,none⟩,
 ⟨some 2,.assign (.tmp 20),4,none⟩] [2]) (sg c77S0))
 (.seq (.seq (.ops [
 ⟨some 22,.binOp .eql 3 (.tmp 4) (.const (.int .i64 3)) 3,4,none⟩,
 ⟨some 21,.assign (.tmp 22),4,none⟩] [1,4,21])
 (.cond (.tmp 21)
 (.skip [1,4,21])
 (.seq (.ops [
 ⟨some 23,.binOp .eql 3 (.tmp 4) (.const (.int .i64 10)) 3,4,none⟩,
 ⟨some 21,.assign (.tmp 23),4,none⟩] [1,4,21])
 (.cond (.tmp 21)
 (.skip [1,4,21])
 (.seq (.ops [
 ⟨some 24,.binOp .eql 3 (.tmp 4) (.const (.int .i64 11)) 3,4,none⟩,
 ⟨some 21,.assign (.tmp 24),4,none⟩] [1,4,21])
 (.cond (.tmp 21)
 (.skip [1,4,21])
 (.ops [
 ⟨some 25,.binOp .eql 3 (.tmp 4) (.const (.int .i64 12)) 3,4,none⟩,
 ⟨some 21,.assign (.tmp 25),4,none⟩] [1,4,21]))))))) (sg c77S3)))))) (sg c77S4)))
attribute [go_sem] c77 c77S0 c77S1 c77S4
end Go.Proofs.YteiciplnfjnfjaaGreat

end
