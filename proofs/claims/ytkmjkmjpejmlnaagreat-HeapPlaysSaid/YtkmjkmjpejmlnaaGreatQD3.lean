/- Texts put together by program. -/
import Derived.Test.YtkmjkmjpejmlnaaGreatQD2
set_option linter.unusedSimpArgs false
set_option linter.unusedVariables false
set_option maxRecDepth 100000
noncomputable section

namespace Go.Proofs.YtkmjkmjpejmlnaaGreat
open Go Go.Ann
@[go_sem] theorem ty3tyK:tyK Tryz.prog 3=.int .i64:=by kernel_rfl
@[go_sem] theorem ty3sizeT:sizeT Tryz.prog 3=some 1:=by kernel_rfl
@[go_sem] theorem ty3zeroT:zeroT Tryz.prog 3=some (.int .i64 0):=by kernel_rfl
@[go_sem] theorem ty3conc:Program.concrete Tryz.prog 3=true:=by kernel_rfl
@[go_sem] theorem ty4tyK:tyK Tryz.prog 4=.bool:=by kernel_rfl
@[go_sem] theorem ty4isBoolT:isBoolT Tryz.prog 4=true:=by kernel_rfl
@[go_sem] theorem ty4sizeT:sizeT Tryz.prog 4=some 1:=by kernel_rfl
@[go_sem] theorem ty4zeroT:zeroT Tryz.prog 4=some (.bool false):=by kernel_rfl
@[go_sem] theorem ty4conc:Program.concrete Tryz.prog 4=true:=by kernel_rfl
@[go_sem] theorem ty5tyK:tyK Tryz.prog 5=.int .u8:=by kernel_rfl
@[go_sem] theorem ty5sizeT:sizeT Tryz.prog 5=some 1:=by kernel_rfl
@[go_sem] theorem ty5zeroT:zeroT Tryz.prog 5=some (.int .u8 0):=by kernel_rfl
@[go_sem] theorem ty5conc:Program.concrete Tryz.prog 5=true:=by kernel_rfl
@[go_sem] theorem ty9tyK:tyK Tryz.prog 9=.str:=by kernel_rfl
@[go_sem] theorem ty9isStrT:isStrT Tryz.prog 9=true:=by kernel_rfl
@[go_sem] theorem ty9sizeT:sizeT Tryz.prog 9=some 1:=by kernel_rfl
@[go_sem] theorem ty9zeroT:zeroT Tryz.prog 9=some (.string (ofL [])):=by kernel_rfl
@[go_sem] theorem ty9conc:Program.concrete Tryz.prog 9=true:=by kernel_rfl
@[go_sem] theorem ty22tyK:tyK Tryz.prog 22=.slice false 9:=by kernel_rfl
@[go_sem] theorem ty22isSliceT:isSliceT Tryz.prog 22=true:=by kernel_rfl
@[go_sem] theorem ty22sliI:sliI Tryz.prog 22=some 1:=by kernel_rfl
@[go_sem] theorem ty22mkI:mkI Tryz.prog 22=some (9,1,16,(.string (ofL []))):=by kernel_rfl
@[go_sem] theorem ty22sizeT:sizeT Tryz.prog 22=some 1:=by kernel_rfl
@[go_sem] theorem ty22zeroT:zeroT Tryz.prog 22=some (.slice none 0 0):=by kernel_rfl
@[go_sem] theorem ty22conc:Program.concrete Tryz.prog 22=true:=by kernel_rfl
@[go_sem] theorem ty23tyK:tyK Tryz.prog 23=.ptr:=by kernel_rfl
@[go_sem] theorem ty23isPtrT:isPtrT Tryz.prog 23=true:=by kernel_rfl
@[go_sem] theorem ty23sizeT:sizeT Tryz.prog 23=some 1:=by kernel_rfl
@[go_sem] theorem ty23zeroT:zeroT Tryz.prog 23=some (.pointer none):=by kernel_rfl
@[go_sem] theorem ty23conc:Program.concrete Tryz.prog 23=true:=by kernel_rfl
@[go_sem] theorem ty24tyK:tyK Tryz.prog 24=.ptr:=by kernel_rfl
@[go_sem] theorem ty24isPtrT:isPtrT Tryz.prog 24=true:=by kernel_rfl
@[go_sem] theorem ty24sizeT:sizeT Tryz.prog 24=some 1:=by kernel_rfl
@[go_sem] theorem ty24zeroT:zeroT Tryz.prog 24=some (.pointer none):=by kernel_rfl
@[go_sem] theorem ty24conc:Program.concrete Tryz.prog 24=true:=by kernel_rfl
@[go_sem] theorem ty27tyK:tyK Tryz.prog 27=.ptr:=by kernel_rfl
@[go_sem] theorem ty27isPtrT:isPtrT Tryz.prog 27=true:=by kernel_rfl
@[go_sem] theorem ty27sizeT:sizeT Tryz.prog 27=some 1:=by kernel_rfl
@[go_sem] theorem ty27zeroT:zeroT Tryz.prog 27=some (.pointer none):=by kernel_rfl
@[go_sem] theorem ty27conc:Program.concrete Tryz.prog 27=true:=by kernel_rfl
@[go_sem] theorem ty30tyK:tyK Tryz.prog 30=.int .i64:=by kernel_rfl
@[go_sem] theorem ty30sizeT:sizeT Tryz.prog 30=some 1:=by kernel_rfl
@[go_sem] theorem ty30zeroT:zeroT Tryz.prog 30=some (.int .i64 0):=by kernel_rfl
@[go_sem] theorem ty30conc:Program.concrete Tryz.prog 30=true:=by kernel_rfl
@[go_sem] theorem ty36tyK:tyK Tryz.prog 36=.slice false 44:=by kernel_rfl
@[go_sem] theorem ty36isSliceT:isSliceT Tryz.prog 36=true:=by kernel_rfl
@[go_sem] theorem ty36sliI:sliI Tryz.prog 36=some 2:=by kernel_rfl
@[go_sem] theorem ty36mkI:mkI Tryz.prog 36=some (44,2,24,(.agg #[(.int .i64 0),(.string (ofL []))])):=by kernel_rfl
@[go_sem] theorem ty36sizeT:sizeT Tryz.prog 36=some 1:=by kernel_rfl
@[go_sem] theorem ty36zeroT:zeroT Tryz.prog 36=some (.slice none 0 0):=by kernel_rfl
@[go_sem] theorem ty36conc:Program.concrete Tryz.prog 36=true:=by kernel_rfl
@[go_sem] theorem ty44tyK:tyK Tryz.prog 44=.agg 2:=by kernel_rfl
@[go_sem] theorem ty44sizeT:sizeT Tryz.prog 44=some 2:=by kernel_rfl
@[go_sem] theorem ty44zeroT:zeroT Tryz.prog 44=some (.agg #[(.int .i64 0),(.string (ofL []))]):=by kernel_rfl
@[go_sem] theorem ty44conc:Program.concrete Tryz.prog 44=true:=by kernel_rfl
@[go_sem] theorem ty44plc:plcT Tryz.prog 44=some [(0,1),(1,1)]:=by kernel_rfl
@[go_sem] theorem ty44flat:flatT Tryz.prog 44=some [.int,.str]:=by kernel_rfl
@[go_sem] theorem ty44fld0:fldI Tryz.prog 44 0=some (0,1,false):=by kernel_rfl
@[go_sem] theorem ty44fld1:fldI Tryz.prog 44 1=some (1,1,false):=by kernel_rfl
@[go_sem] theorem ty48tyK:tyK Tryz.prog 48=.slice false 3:=by kernel_rfl
@[go_sem] theorem ty48isSliceT:isSliceT Tryz.prog 48=true:=by kernel_rfl
@[go_sem] theorem ty48sliI:sliI Tryz.prog 48=some 1:=by kernel_rfl
@[go_sem] theorem ty48mkI:mkI Tryz.prog 48=some (3,1,8,(.int .i64 0)):=by kernel_rfl
@[go_sem] theorem ty48sizeT:sizeT Tryz.prog 48=some 1:=by kernel_rfl
@[go_sem] theorem ty48zeroT:zeroT Tryz.prog 48=some (.slice none 0 0):=by kernel_rfl
@[go_sem] theorem ty48conc:Program.concrete Tryz.prog 48=true:=by kernel_rfl
@[go_sem] theorem ty62tyK:tyK Tryz.prog 62=.slice false 65:=by kernel_rfl
@[go_sem] theorem ty62isSliceT:isSliceT Tryz.prog 62=true:=by kernel_rfl
@[go_sem] theorem ty62sliI:sliI Tryz.prog 62=some 3:=by kernel_rfl
@[go_sem] theorem ty62mkI:mkI Tryz.prog 62=some (65,3,32,(.agg #[(.int .i64 0),(.string (ofL [])),(.int .i64 0)])):=by kernel_rfl
@[go_sem] theorem ty62sizeT:sizeT Tryz.prog 62=some 1:=by kernel_rfl
@[go_sem] theorem ty62zeroT:zeroT Tryz.prog 62=some (.slice none 0 0):=by kernel_rfl
@[go_sem] theorem ty62conc:Program.concrete Tryz.prog 62=true:=by kernel_rfl
@[go_sem] theorem ty63tyK:tyK Tryz.prog 63=.slice false 71:=by kernel_rfl
@[go_sem] theorem ty63isSliceT:isSliceT Tryz.prog 63=true:=by kernel_rfl
@[go_sem] theorem ty63sliI:sliI Tryz.prog 63=some 2:=by kernel_rfl
@[go_sem] theorem ty63mkI:mkI Tryz.prog 63=some (71,2,24,(.agg #[(.int .i64 0),(.string (ofL []))])):=by kernel_rfl
@[go_sem] theorem ty63sizeT:sizeT Tryz.prog 63=some 1:=by kernel_rfl
@[go_sem] theorem ty63zeroT:zeroT Tryz.prog 63=some (.slice none 0 0):=by kernel_rfl
@[go_sem] theorem ty63conc:Program.concrete Tryz.prog 63=true:=by kernel_rfl
@[go_sem] theorem ty65tyK:tyK Tryz.prog 65=.agg 3:=by kernel_rfl
@[go_sem] theorem ty65sizeT:sizeT Tryz.prog 65=some 3:=by kernel_rfl
@[go_sem] theorem ty65zeroT:zeroT Tryz.prog 65=some (.agg #[(.int .i64 0),(.string (ofL [])),(.int .i64 0)]):=by kernel_rfl
@[go_sem] theorem ty65conc:Program.concrete Tryz.prog 65=true:=by kernel_rfl
@[go_sem] theorem ty65plc:plcT Tryz.prog 65=some [(0,1),(1,1),(2,1)]:=by kernel_rfl
@[go_sem] theorem ty65flat:flatT Tryz.prog 65=some [.int,.str,.int]:=by kernel_rfl
@[go_sem] theorem ty65fld0:fldI Tryz.prog 65 0=some (0,1,false):=by kernel_rfl
@[go_sem] theorem ty65fld1:fldI Tryz.prog 65 1=some (1,1,false):=by kernel_rfl
@[go_sem] theorem ty65fld2:fldI Tryz.prog 65 2=some (2,1,false):=by kernel_rfl
@[go_sem] theorem ty71tyK:tyK Tryz.prog 71=.agg 2:=by kernel_rfl
@[go_sem] theorem ty71sizeT:sizeT Tryz.prog 71=some 2:=by kernel_rfl
@[go_sem] theorem ty71zeroT:zeroT Tryz.prog 71=some (.agg #[(.int .i64 0),(.string (ofL []))]):=by kernel_rfl
@[go_sem] theorem ty71conc:Program.concrete Tryz.prog 71=true:=by kernel_rfl
@[go_sem] theorem ty71plc:plcT Tryz.prog 71=some [(0,1),(1,1)]:=by kernel_rfl
@[go_sem] theorem ty71flat:flatT Tryz.prog 71=some [.int,.str]:=by kernel_rfl
@[go_sem] theorem ty71fld0:fldI Tryz.prog 71 0=some (0,1,false):=by kernel_rfl
@[go_sem] theorem ty71fld1:fldI Tryz.prog 71 1=some (1,1,false):=by kernel_rfl
@[go_sem] theorem ty78tyK:tyK Tryz.prog 78=.int .u64:=by kernel_rfl
@[go_sem] theorem ty78sizeT:sizeT Tryz.prog 78=some 1:=by kernel_rfl
@[go_sem] theorem ty78zeroT:zeroT Tryz.prog 78=some (.int .u64 0):=by kernel_rfl
@[go_sem] theorem ty78conc:Program.concrete Tryz.prog 78=true:=by kernel_rfl
@[go_sem] theorem ty88tyK:tyK Tryz.prog 88=.ptr:=by kernel_rfl
@[go_sem] theorem ty88isPtrT:isPtrT Tryz.prog 88=true:=by kernel_rfl
@[go_sem] theorem ty88sizeT:sizeT Tryz.prog 88=some 1:=by kernel_rfl
@[go_sem] theorem ty88zeroT:zeroT Tryz.prog 88=some (.pointer none):=by kernel_rfl
@[go_sem] theorem ty88conc:Program.concrete Tryz.prog 88=true:=by kernel_rfl
@[go_sem] theorem ty96tyK:tyK Tryz.prog 96=.ptr:=by kernel_rfl
@[go_sem] theorem ty96isPtrT:isPtrT Tryz.prog 96=true:=by kernel_rfl
@[go_sem] theorem ty96sizeT:sizeT Tryz.prog 96=some 1:=by kernel_rfl
@[go_sem] theorem ty96zeroT:zeroT Tryz.prog 96=some (.pointer none):=by kernel_rfl
@[go_sem] theorem ty96conc:Program.concrete Tryz.prog 96=true:=by kernel_rfl
@[go_sem] theorem ty98tyK:tyK Tryz.prog 98=.agg 2:=by kernel_rfl
@[go_sem] theorem ty98sizeT:sizeT Tryz.prog 98=some 2:=by kernel_rfl
@[go_sem] theorem ty98zeroT:zeroT Tryz.prog 98=some (.agg #[(.pointer none),(.pointer none)]):=by kernel_rfl
@[go_sem] theorem ty98conc:Program.concrete Tryz.prog 98=true:=by kernel_rfl
@[go_sem] theorem ty98plc:plcT Tryz.prog 98=some [(0,1),(1,1)]:=by kernel_rfl
@[go_sem] theorem ty98fld0:fldI Tryz.prog 98 0=some (0,1,false):=by kernel_rfl
@[go_sem] theorem ty98fld1:fldI Tryz.prog 98 1=some (1,1,false):=by kernel_rfl
@[go_sem] theorem ty104tyK:tyK Tryz.prog 104=.agg 2:=by kernel_rfl
@[go_sem] theorem ty104sizeT:sizeT Tryz.prog 104=some 2:=by kernel_rfl
@[go_sem] theorem ty104zeroT:zeroT Tryz.prog 104=some (.agg #[(.pointer none),(.int .i64 0)]):=by kernel_rfl
@[go_sem] theorem ty104conc:Program.concrete Tryz.prog 104=true:=by kernel_rfl
@[go_sem] theorem ty104plc:plcT Tryz.prog 104=some [(0,1),(1,1)]:=by kernel_rfl
@[go_sem] theorem ty104fld0:fldI Tryz.prog 104 0=some (0,1,false):=by kernel_rfl
@[go_sem] theorem ty104fld1:fldI Tryz.prog 104 1=some (1,1,false):=by kernel_rfl
@[go_sem] theorem ty141tyK:tyK Tryz.prog 141=.other:=by kernel_rfl
@[go_sem] theorem ty141isFuncT:isFuncT Tryz.prog 141=true:=by kernel_rfl
@[go_sem] theorem ty141sizeT:sizeT Tryz.prog 141=some 1:=by kernel_rfl
@[go_sem] theorem ty141zeroT:zeroT Tryz.prog 141=some .nilFunc:=by kernel_rfl
@[go_sem] theorem ty141conc:Program.concrete Tryz.prog 141=true:=by kernel_rfl
@[go_sem] theorem ty147tyK:tyK Tryz.prog 147=.int .u64:=by kernel_rfl
@[go_sem] theorem ty147sizeT:sizeT Tryz.prog 147=some 1:=by kernel_rfl
@[go_sem] theorem ty147zeroT:zeroT Tryz.prog 147=some (.int .u64 0):=by kernel_rfl
@[go_sem] theorem ty147conc:Program.concrete Tryz.prog 147=true:=by kernel_rfl
@[go_sem] theorem ty155tyK:tyK Tryz.prog 155=.slice false 199:=by kernel_rfl
@[go_sem] theorem ty155isSliceT:isSliceT Tryz.prog 155=true:=by kernel_rfl
@[go_sem] theorem ty155sliI:sliI Tryz.prog 155=some 2:=by kernel_rfl
@[go_sem] theorem ty155mkI:mkI Tryz.prog 155=some (199,2,24,(.agg #[(.int .i64 0),(.string (ofL []))])):=by kernel_rfl
@[go_sem] theorem ty155sizeT:sizeT Tryz.prog 155=some 1:=by kernel_rfl
@[go_sem] theorem ty155zeroT:zeroT Tryz.prog 155=some (.slice none 0 0):=by kernel_rfl
@[go_sem] theorem ty155conc:Program.concrete Tryz.prog 155=true:=by kernel_rfl
@[go_sem] theorem ty157tyK:tyK Tryz.prog 157=.agg 5:=by kernel_rfl
@[go_sem] theorem ty157sizeT:sizeT Tryz.prog 157=some 5:=by kernel_rfl
@[go_sem] theorem ty157zeroT:zeroT Tryz.prog 157=some (.agg #[(.slice none 0 0),(.slice none 0 0),(.int .i64 0),(.bool false),(.string (ofL []))]):=by kernel_rfl
@[go_sem] theorem ty157conc:Program.concrete Tryz.prog 157=true:=by kernel_rfl
@[go_sem] theorem ty157plc:plcT Tryz.prog 157=some [(0,1),(1,1),(2,1),(3,1),(4,1)]:=by kernel_rfl
@[go_sem] theorem ty157fld0:fldI Tryz.prog 157 0=some (0,1,false):=by kernel_rfl
@[go_sem] theorem ty157fld1:fldI Tryz.prog 157 1=some (1,1,false):=by kernel_rfl
@[go_sem] theorem ty157fld2:fldI Tryz.prog 157 2=some (2,1,false):=by kernel_rfl
@[go_sem] theorem ty157fld3:fldI Tryz.prog 157 3=some (3,1,false):=by kernel_rfl
@[go_sem] theorem ty157fld4:fldI Tryz.prog 157 4=some (4,1,false):=by kernel_rfl
@[go_sem] theorem ty160tyK:tyK Tryz.prog 160=.agg 4:=by kernel_rfl
@[go_sem] theorem ty160sizeT:sizeT Tryz.prog 160=some 4:=by kernel_rfl
@[go_sem] theorem ty160zeroT:zeroT Tryz.prog 160=some (.agg #[(.int .u64 0),(.int .i64 0),(.int .i64 0),(.int .i64 0)]):=by kernel_rfl
@[go_sem] theorem ty160conc:Program.concrete Tryz.prog 160=true:=by kernel_rfl
@[go_sem] theorem ty160plc:plcT Tryz.prog 160=some [(0,1),(1,1),(2,1),(3,1)]:=by kernel_rfl
@[go_sem] theorem ty160flat:flatT Tryz.prog 160=some [.int,.int,.int,.int]:=by kernel_rfl
@[go_sem] theorem ty160fld0:fldI Tryz.prog 160 0=some (0,1,false):=by kernel_rfl
@[go_sem] theorem ty160fld1:fldI Tryz.prog 160 1=some (1,1,false):=by kernel_rfl
@[go_sem] theorem ty160fld2:fldI Tryz.prog 160 2=some (2,1,false):=by kernel_rfl
@[go_sem] theorem ty160fld3:fldI Tryz.prog 160 3=some (3,1,false):=by kernel_rfl
@[go_sem] theorem ty163tyK:tyK Tryz.prog 163=.map:=by kernel_rfl
@[go_sem] theorem ty163isMapT:isMapT Tryz.prog 163=true:=by kernel_rfl
@[go_sem] theorem ty163sizeT:sizeT Tryz.prog 163=some 1:=by kernel_rfl
@[go_sem] theorem ty163zeroT:zeroT Tryz.prog 163=some (.map none):=by kernel_rfl
@[go_sem] theorem ty163conc:Program.concrete Tryz.prog 163=true:=by kernel_rfl
@[go_sem] theorem ty165tyK:tyK Tryz.prog 165=.agg 7:=by kernel_rfl
@[go_sem] theorem ty165sizeT:sizeT Tryz.prog 165=some 7:=by kernel_rfl
@[go_sem] theorem ty165zeroT:zeroT Tryz.prog 165=some (.agg #[(.pointer none),(.int .u64 0),(.int .i64 0),(.int .i64 0),(.int .i64 0),(.map none),(.bool false)]):=by kernel_rfl
@[go_sem] theorem ty165conc:Program.concrete Tryz.prog 165=true:=by kernel_rfl
@[go_sem] theorem ty165plc:plcT Tryz.prog 165=some [(0,1),(1,4),(5,1),(6,1)]:=by kernel_rfl
@[go_sem] theorem ty165fld0:fldI Tryz.prog 165 0=some (0,1,false):=by kernel_rfl
@[go_sem] theorem ty165fld1:fldI Tryz.prog 165 1=some (1,4,true):=by kernel_rfl
@[go_sem] theorem ty165fld2:fldI Tryz.prog 165 2=some (5,1,false):=by kernel_rfl
@[go_sem] theorem ty165fld3:fldI Tryz.prog 165 3=some (6,1,false):=by kernel_rfl
@[go_sem] theorem ty181tyK:tyK Tryz.prog 181=.slice true 5:=by kernel_rfl
@[go_sem] theorem ty181isSliceT:isSliceT Tryz.prog 181=true:=by kernel_rfl
@[go_sem] theorem ty181sliI:sliI Tryz.prog 181=some 1:=by kernel_rfl
@[go_sem] theorem ty181mkI:mkI Tryz.prog 181=some (5,1,1,(.int .u8 0)):=by kernel_rfl
@[go_sem] theorem ty181sizeT:sizeT Tryz.prog 181=some 1:=by kernel_rfl
@[go_sem] theorem ty181zeroT:zeroT Tryz.prog 181=some (.slice none 0 0):=by kernel_rfl
@[go_sem] theorem ty181conc:Program.concrete Tryz.prog 181=true:=by kernel_rfl
@[go_sem] theorem ty199tyK:tyK Tryz.prog 199=.agg 2:=by kernel_rfl
@[go_sem] theorem ty199sizeT:sizeT Tryz.prog 199=some 2:=by kernel_rfl
@[go_sem] theorem ty199zeroT:zeroT Tryz.prog 199=some (.agg #[(.int .i64 0),(.string (ofL []))]):=by kernel_rfl
@[go_sem] theorem ty199conc:Program.concrete Tryz.prog 199=true:=by kernel_rfl
@[go_sem] theorem ty199plc:plcT Tryz.prog 199=some [(0,1),(1,1)]:=by kernel_rfl
@[go_sem] theorem ty199flat:flatT Tryz.prog 199=some [.int,.str]:=by kernel_rfl
@[go_sem] theorem ty199fld0:fldI Tryz.prog 199 0=some (0,1,false):=by kernel_rfl
@[go_sem] theorem ty199fld1:fldI Tryz.prog 199 1=some (1,1,false):=by kernel_rfl
@[go_sem] theorem ty204tyK:tyK Tryz.prog 204=.slice false 223:=by kernel_rfl
@[go_sem] theorem ty204isSliceT:isSliceT Tryz.prog 204=true:=by kernel_rfl
@[go_sem] theorem ty204sliI:sliI Tryz.prog 204=some 3:=by kernel_rfl
@[go_sem] theorem ty204mkI:mkI Tryz.prog 204=some (223,3,32,(.agg #[(.int .i64 0),(.string (ofL [])),(.int .i64 0)])):=by kernel_rfl
@[go_sem] theorem ty204sizeT:sizeT Tryz.prog 204=some 1:=by kernel_rfl
@[go_sem] theorem ty204zeroT:zeroT Tryz.prog 204=some (.slice none 0 0):=by kernel_rfl
@[go_sem] theorem ty204conc:Program.concrete Tryz.prog 204=true:=by kernel_rfl
@[go_sem] theorem ty206tyK:tyK Tryz.prog 206=.agg 2:=by kernel_rfl
@[go_sem] theorem ty206sizeT:sizeT Tryz.prog 206=some 2:=by kernel_rfl
@[go_sem] theorem ty206zeroT:zeroT Tryz.prog 206=some (.agg #[(.int .i64 0),(.slice none 0 0)]):=by kernel_rfl
@[go_sem] theorem ty206conc:Program.concrete Tryz.prog 206=true:=by kernel_rfl
@[go_sem] theorem ty206plc:plcT Tryz.prog 206=some [(0,1),(1,1)]:=by kernel_rfl
@[go_sem] theorem ty206fld0:fldI Tryz.prog 206 0=some (0,1,false):=by kernel_rfl
@[go_sem] theorem ty206fld1:fldI Tryz.prog 206 1=some (1,1,false):=by kernel_rfl
@[go_sem] theorem ty209tyK:tyK Tryz.prog 209=.agg 2:=by kernel_rfl
@[go_sem] theorem ty209sizeT:sizeT Tryz.prog 209=some 2:=by kernel_rfl
@[go_sem] theorem ty209zeroT:zeroT Tryz.prog 209=some (.agg #[(.pointer none),(.slice none 0 0)]):=by kernel_rfl
@[go_sem] theorem ty209conc:Program.concrete Tryz.prog 209=true:=by kernel_rfl
@[go_sem] theorem ty209plc:plcT Tryz.prog 209=some [(0,1),(1,1)]:=by kernel_rfl
@[go_sem] theorem ty209fld0:fldI Tryz.prog 209 0=some (0,1,false):=by kernel_rfl
@[go_sem] theorem ty209fld1:fldI Tryz.prog 209 1=some (1,1,false):=by kernel_rfl
@[go_sem] theorem ty223tyK:tyK Tryz.prog 223=.agg 3:=by kernel_rfl
@[go_sem] theorem ty223sizeT:sizeT Tryz.prog 223=some 3:=by kernel_rfl
@[go_sem] theorem ty223zeroT:zeroT Tryz.prog 223=some (.agg #[(.int .i64 0),(.string (ofL [])),(.int .i64 0)]):=by kernel_rfl
@[go_sem] theorem ty223conc:Program.concrete Tryz.prog 223=true:=by kernel_rfl
@[go_sem] theorem ty223plc:plcT Tryz.prog 223=some [(0,1),(1,1),(2,1)]:=by kernel_rfl
@[go_sem] theorem ty223flat:flatT Tryz.prog 223=some [.int,.str,.int]:=by kernel_rfl
@[go_sem] theorem ty223fld0:fldI Tryz.prog 223 0=some (0,1,false):=by kernel_rfl
@[go_sem] theorem ty223fld1:fldI Tryz.prog 223 1=some (1,1,false):=by kernel_rfl
@[go_sem] theorem ty223fld2:fldI Tryz.prog 223 2=some (2,1,false):=by kernel_rfl
@[go_sem] theorem ty236tyK:tyK Tryz.prog 236=.ptr:=by kernel_rfl
@[go_sem] theorem ty236isPtrT:isPtrT Tryz.prog 236=true:=by kernel_rfl
@[go_sem] theorem ty236sizeT:sizeT Tryz.prog 236=some 1:=by kernel_rfl
@[go_sem] theorem ty236zeroT:zeroT Tryz.prog 236=some (.pointer none):=by kernel_rfl
@[go_sem] theorem ty236conc:Program.concrete Tryz.prog 236=true:=by kernel_rfl
def c3code:Code:=match Tryz.f3.body with | some c=>c | none=>.skip
def c3S0(_:Unit):Cmd:=(.cond (.tmp 65)
 (.seq (.ops [
 ⟨some 2,.assign (.const (.bool false)),4,none⟩] [2])
 .ret)
 (.skip [0,4,5,6,7,8]))
def c3S1(_:Unit):Cmd:=(.seq (.ops [
 ⟨some 50,.move (.tmp 10),30,none⟩,
 ⟨some 51,.binOp .eql 30 (.tmp 50) (.const (.int .i64 0)) 30,4,none⟩,
 ⟨some 52,.move (.tmp 0),22,none⟩,
 ⟨some 53,.move (.tmp 8),3,none⟩,
 ⟨some 54,.indexAddr 22 (.tmp 52) (.tmp 53),0,none⟩,
 ⟨some 55,.load 9 (.tmp 54),9,none⟩,
 ⟨some 56,.binOp .neq 9 (.tmp 55) (.const (.string (ofL []))) 9,4,none⟩,
 ⟨some 57,.binOp .neq 4 (.tmp 51) (.tmp 56) 4,4,none⟩,
 ⟨some 58,.move (.tmp 57),4,none⟩,
 ⟨some 59,.move (.tmp 6),3,(some (58,false))⟩,
 ⟨some 60,.move (.tmp 4),24,(some (58,false))⟩,
 ⟨some 61,.call ⟨.value (.func 12),#[(.tmp 60)],#[24]⟩,3,(some (58,false))⟩,
 ⟨some 62,.binOp .sub 3 (.tmp 59) (.tmp 61) 3,3,(some (58,false))⟩,
 ⟨some 63,.move (.tmp 7),3,(some (58,false))⟩,
 ⟨some 64,.binOp .gtr 3 (.tmp 62) (.tmp 63) 3,4,(some (58,false))⟩,
 ⟨some 65,.pick (.tmp 58) (.const (.bool true)) (.tmp 64),4,none⟩] [0,4,5,6,7,8,65]) (sg c3S0))
def c3S2(_:Unit):Cmd:=(.seq (.seq (.ops [
 ⟨some 46,.move (.tmp 10),30,none⟩,
 ⟨some 47,.binOp .eql 30 (.tmp 46) (.const (.int .i64 0)) 30,4,none⟩] [0,4,5,6,7,8,10,47])
 (.cond (.tmp 47)
 (.ops [
 ⟨some 48,.move (.tmp 7),3,none⟩,
 ⟨some 49,.binOp .add 3 (.tmp 48) (.const (.int .i64 1)) 3,3,none⟩,
 ⟨some 7,.assign (.tmp 49),3,none⟩] [0,4,5,6,7,8,10])
 (.skip [0,4,5,6,7,8,10]))) (sg c3S1))
def c3S3(_:Unit):Cmd:=(.seq (.ops [
 ⟨some 38,.move (.tmp 5),27,none⟩,
 ⟨some 39,.move (.tmp 0),22,none⟩,
 ⟨some 40,.move (.tmp 8),3,none⟩,
 ⟨some 41,.indexAddr 22 (.tmp 39) (.tmp 40),0,none⟩,
 ⟨some 42,.load 9 (.tmp 41),9,none⟩,
 ⟨some 43,.call ⟨.value (.func 13),#[(.tmp 38),(.tmp 42)],#[27,9]⟩,31,none⟩,
 ⟨some 37,.move (.tmp 43),31,none⟩,
 ⟨some 44,.extract (.tmp 37) 0,3,none⟩,
 ⟨some 45,.extract (.tmp 37) 1,30,none⟩,
 ⟨some 9,.assign (.tmp 44),3,none⟩,
 ⟨some 10,.assign (.tmp 45),30,none⟩] [0,4,5,6,7,8,10]) (sg c3S2))
def c3S4(_:Unit):Cmd:=(.ops [
 ⟨some 29,.move (.tmp 8),3,none⟩,
 ⟨some 30,.binOp .add 3 (.tmp 29) (.const (.int .i64 1)) 3,3,none⟩,
 ⟨some 8,.assign (.tmp 30),3,none⟩] [0,4,5,6,7,8])
def c3S5(_:Unit):Cmd:=(.seq (.block 1 (.seq (.seq (.ops [
 ⟨some 31,.move (.tmp 0),22,none⟩,
 ⟨some 32,.move (.tmp 8),3,none⟩,
 ⟨some 33,.indexAddr 22 (.tmp 31) (.tmp 32),0,none⟩,
 ⟨some 34,.load 9 (.tmp 33),9,none⟩,
 ⟨some 35,.call ⟨.builtin .len,#[(.tmp 34)],#[9]⟩,3,none⟩,
 ⟨some 36,.binOp .gtr 3 (.tmp 35) (.const (.int .i64 60)) 3,4,none⟩] [0,4,5,6,7,8,36])
 (.cond (.tmp 36)
 (.exit 1 [0,4,5,6,7,8])
 (.skip [0,4,5,6,7,8]))) (sg c3S3))) (sg c3S4))
def c3L0(_:Unit):Cmd:=(.seq (.seq (.ops [
 ⟨some 21,.move (.tmp 8),3,none⟩,
 ⟨some 22,.move (.tmp 0),22,none⟩,
 ⟨some 23,.call ⟨.builtin .len,#[(.tmp 22)],#[22]⟩,3,none⟩,
 ⟨some 24,.binOp .lss 3 (.tmp 21) (.tmp 23) 3,4,none⟩,
 ⟨some 25,.move (.tmp 24),4,none⟩,
 ⟨some 26,.move (.tmp 8),3,(some (25,true))⟩,
 ⟨some 27,.binOp .lss 3 (.tmp 26) (.const (.int .i64 60)) 3,4,(some (25,true))⟩,
 ⟨some 28,.pick (.tmp 25) (.tmp 27) (.const (.bool false)),4,none⟩] [0,4,5,6,7,8,28])
 (.cond (.tmp 28)
 (.skip [0,4,5,6,7,8])
 (.exit 0 []))) (sg c3S5))
def c3S6(_:Unit):Cmd:=.ret
def c3S7(_:Unit):Cmd:=(.seq (.ops [
 ⟨some 66,.call ⟨.value (.func 14),#[],#[]⟩,4,none⟩,
 ⟨some 2,.assign (.tmp 66),4,none⟩] [2]) (sg c3S6))
def c3S8(_:Unit):Cmd:=(.seq (.seq (.ops [
 ⟨some 8,.assign (.const (.int .i64 0)),3,none⟩] [0,4,5,6,7,8])
 (.block 0 (.loop (sg c3L0)))) (sg c3S7))
def c3S9(_:Unit):Cmd:=(.seq (.ops [
 ⟨some 19,.move (.tmp 4),24,none⟩,
 ⟨some 20,.call ⟨.value (.func 12),#[(.tmp 19)],#[24]⟩,3,none⟩,
 ⟨some 6,.assign (.tmp 20),3,none⟩,
 ⟨some 7,.assign (.const (.int .i64 0)),3,none⟩] [0,4,5,6,7]) (sg c3S8))
def c3S10(_:Unit):Cmd:=(.seq (.seq (.ops [
 ⟨some 17,.move (.tmp 5),27,none⟩,
 ⟨some 18,.binOp .eql 27 (.tmp 17) (.const (.pointer none)) 27,4,none⟩] [0,4,5,18])
 (.cond (.tmp 18)
 (.seq (.ops [
 ⟨some 2,.assign (.const (.bool false)),4,none⟩] [2])
 .ret)
 (.skip [0,4,5]))) (sg c3S9))
def c3S11(_:Unit):Cmd:=(.seq (.ops [
 ⟨some 15,.move (.tmp 4),24,none⟩,
 ⟨some 16,.call ⟨.value (.func 11),#[(.tmp 15),(.const (.int .i64 9))],#[24,3]⟩,27,none⟩,
 ⟨some 5,.assign (.tmp 16),27,none⟩] [0,4,5]) (sg c3S10))
def c3:Cmd:=(.seq (.ops [
 ⟨some 2,.assign (.const (.bool false)),4,none⟩] [0])
 (.seq (.ops [
 ⟨some 12,.call ⟨.value (.func 10),#[(.const (.int .i64 100))],#[3]⟩,25,none⟩,
 ⟨some 11,.move (.tmp 12),25,none⟩,
 ⟨some 13,.extract (.tmp 11) 0,23,none⟩,
 ⟨some 14,.extract (.tmp 11) 1,24,none⟩,
 ⟨some 3,.assign (.tmp 13),23,none⟩,
 ⟨some 4,.assign (.tmp 14),24,none⟩] [0,4]) (sg c3S11)))
attribute [go_sem] c3 c3S0 c3S1 c3S2 c3S3 c3S4 c3S5 c3L0 c3S6 c3S7 c3S8 c3S9 c3S10 c3S11
@[go_sem] theorem go3:goFunc Tryz.prog 3=true:=by kernel_rfl
def c6code:Code:=match Tryz.f6.body with | some c=>c | none=>.skip
def c6S0(_:Unit):Cmd:=(.cond (.tmp 62)
 (.seq (.ops [
 ⟨some 4,.assign (.const (.bool false)),4,none⟩] [4])
 .ret)
 (.skip [0,1,6,7,8,9]))
def c6S1(_:Unit):Cmd:=(.seq (.ops [
 ⟨some 79,.move (.tmp 12),30,none⟩,
 ⟨some 80,.binOp .neq 30 (.tmp 79) (.const (.int .i64 0)) 30,4,none⟩,
 ⟨some 81,.move (.tmp 80),4,none⟩,
 ⟨some 82,.move (.tmp 11),9,(some (81,false))⟩,
 ⟨some 83,.load 63 (.tmp 8),63,(some (81,false))⟩,
 ⟨some 84,.move (.tmp 10),3,(some (81,false))⟩,
 ⟨some 85,.indexAddr 63 (.tmp 83) (.tmp 84),0,(some (81,false))⟩,
 ⟨some 86,.fieldAddr 71 (.tmp 85) 1,0,(some (81,false))⟩,
 ⟨some 87,.load 9 (.tmp 86),9,(some (81,false))⟩,
 ⟨some 88,.binOp .neq 9 (.tmp 82) (.tmp 87) 9,4,(some (81,false))⟩,
 ⟨some 89,.pick (.tmp 81) (.const (.bool true)) (.tmp 88),4,none⟩] [0,1,6,7,8,9,10,89])
 (.cond (.tmp 89)
 (.seq (.ops [
 ⟨some 4,.assign (.const (.bool false)),4,none⟩] [4])
 .ret)
 (.skip [0,1,6,7,8,9,10])))
def c6S2(_:Unit):Cmd:=(.ops [
 ⟨some 67,.move (.tmp 10),3,none⟩,
 ⟨some 68,.binOp .add 3 (.tmp 67) (.const (.int .i64 1)) 3,3,none⟩,
 ⟨some 10,.assign (.tmp 68),3,none⟩] [0,1,6,7,8,9,10])
def c6S3(_:Unit):Cmd:=(.seq (.block 3 (.seq (.ops [
 ⟨some 70,.move (.tmp 7),27,none⟩,
 ⟨some 71,.load 63 (.tmp 8),63,none⟩,
 ⟨some 72,.move (.tmp 10),3,none⟩,
 ⟨some 73,.indexAddr 63 (.tmp 71) (.tmp 72),0,none⟩,
 ⟨some 74,.fieldAddr 71 (.tmp 73) 0,0,none⟩,
 ⟨some 75,.load 3 (.tmp 74),3,none⟩,
 ⟨some 76,.call ⟨.value (.func 32),#[(.tmp 70),(.tmp 75)],#[27,3]⟩,50,none⟩,
 ⟨some 69,.move (.tmp 76),50,none⟩,
 ⟨some 77,.extract (.tmp 69) 0,9,none⟩,
 ⟨some 78,.extract (.tmp 69) 1,30,none⟩,
 ⟨some 11,.assign (.tmp 77),9,none⟩,
 ⟨some 12,.assign (.tmp 78),30,none⟩] [0,1,6,7,8,9,10,11,12]) (sg c6S1))) (sg c6S2))
def c6L0(_:Unit):Cmd:=(.seq (.seq (.ops [
 ⟨some 63,.move (.tmp 10),3,none⟩,
 ⟨some 64,.load 63 (.tmp 8),63,none⟩,
 ⟨some 65,.call ⟨.builtin .len,#[(.tmp 64)],#[63]⟩,3,none⟩,
 ⟨some 66,.binOp .lss 3 (.tmp 63) (.tmp 65) 3,4,none⟩] [0,1,6,7,8,9,10,66])
 (.cond (.tmp 66)
 (.skip [0,1,6,7,8,9,10])
 (.exit 2 [0,1,6,7,8,9]))) (sg c6S3))
def c6S4(_:Unit):Cmd:=(.seq (.ops [
 ⟨some 110,.move (.tmp 14),4,none⟩,
 ⟨some 111,.move (.tmp 16),30,none⟩,
 ⟨some 112,.binOp .eql 30 (.tmp 111) (.const (.int .i64 0)) 30,4,none⟩,
 ⟨some 113,.binOp .neq 4 (.tmp 110) (.tmp 112) 4,4,none⟩] [0,1,6,7,8,9,113])
 (.cond (.tmp 113)
 (.seq (.ops [
 ⟨some 4,.assign (.const (.bool false)),4,none⟩] [4])
 .ret)
 (.skip [0,1,6,7,8,9])))
def c6S5(_:Unit):Cmd:=(.seq (.ops [
 ⟨some 101,.move (.tmp 7),27,none⟩,
 ⟨some 102,.move (.tmp 0),62,none⟩,
 ⟨some 103,.move (.tmp 9),3,none⟩,
 ⟨some 104,.indexAddr 62 (.tmp 102) (.tmp 103),0,none⟩,
 ⟨some 105,.fieldAddr 65 (.tmp 104) 2,0,none⟩,
 ⟨some 106,.load 3 (.tmp 105),3,none⟩,
 ⟨some 107,.call ⟨.value (.func 32),#[(.tmp 101),(.tmp 106)],#[27,3]⟩,50,none⟩,
 ⟨some 100,.move (.tmp 107),50,none⟩,
 ⟨some 108,.extract (.tmp 100) 0,9,none⟩,
 ⟨some 109,.extract (.tmp 100) 1,30,none⟩,
 ⟨some 15,.assign (.tmp 108),9,none⟩,
 ⟨some 16,.assign (.tmp 109),30,none⟩] [0,1,6,7,8,9,14,16]) (sg c6S4))
def c6S6(_:Unit):Cmd:=(.seq (.draw (drawOps 0 c6code) [0,1,6,7,8,9,14]) (sg c6S5))
def c6S7(_:Unit):Cmd:=(.seq (.seq (.ops [
 ⟨some 10,.assign (.const (.int .i64 0)),3,none⟩] [0,1,6,7,8,9,10])
 (.block 2 (.loop (sg c6L0)))) (sg c6S6))
def c6S8(_:Unit):Cmd:=(.seq (.seq (.ops [
 ⟨some 42,.move (.tmp 7),27,none⟩,
 ⟨some 43,.move (.tmp 6),24,none⟩,
 ⟨some 44,.move (.tmp 0),62,none⟩,
 ⟨some 45,.move (.tmp 9),3,none⟩,
 ⟨some 46,.indexAddr 62 (.tmp 44) (.tmp 45),0,none⟩,
 ⟨some 47,.load 65 (.tmp 46),65,none⟩,
 ⟨some 48,.call ⟨.value (.func 30),#[(.tmp 42),(.tmp 43),(.tmp 8),(.tmp 47)],#[27,24,67,65]⟩,4,none⟩,
 ⟨some 49,.unOp .not 4 (.tmp 48),4,none⟩,
 ⟨some 50,.move (.tmp 49),4,none⟩,
 ⟨some 51,.move (.tmp 7),27,(some (50,false))⟩,
 ⟨some 52,.load 63 (.tmp 8),63,(some (50,false))⟩,
 ⟨some 53,.call ⟨.value (.func 31),#[(.tmp 51),(.tmp 52),(.const (.int .i64 1000))],#[27,63,3]⟩,4,(some (50,false))⟩,
 ⟨some 54,.unOp .not 4 (.tmp 53),4,(some (50,false))⟩,
 ⟨some 55,.pick (.tmp 50) (.const (.bool true)) (.tmp 54),4,none⟩,
 ⟨some 56,.move (.tmp 55),4,none⟩,
 ⟨some 57,.move (.tmp 7),27,(some (56,false))⟩,
 ⟨some 58,.load 63 (.tmp 8),63,(some (56,false))⟩,
 ⟨some 59,.move (.tmp 1),3,(some (56,false))⟩,
 ⟨some 60,.call ⟨.value (.func 31),#[(.tmp 57),(.tmp 58),(.tmp 59)],#[27,63,3]⟩,4,(some (56,false))⟩,
 ⟨some 61,.unOp .not 4 (.tmp 60),4,(some (56,false))⟩,
 ⟨some 62,.pick (.tmp 56) (.const (.bool true)) (.tmp 61),4,none⟩] [0,1,6,7,8,9,62]) (sg c6S0)) (sg c6S7))
def c6S9(_:Unit):Cmd:=(.ops [
 ⟨some 33,.move (.tmp 9),3,none⟩,
 ⟨some 34,.binOp .add 3 (.tmp 33) (.const (.int .i64 1)) 3,3,none⟩,
 ⟨some 9,.assign (.tmp 34),3,none⟩] [0,1,6,7,8,9])
def c6S10(_:Unit):Cmd:=(.seq (.block 1 (.seq (.seq (.ops [
 ⟨some 35,.move (.tmp 0),62,none⟩,
 ⟨some 36,.move (.tmp 9),3,none⟩,
 ⟨some 37,.indexAddr 62 (.tmp 35) (.tmp 36),0,none⟩,
 ⟨some 38,.fieldAddr 65 (.tmp 37) 1,0,none⟩,
 ⟨some 39,.load 9 (.tmp 38),9,none⟩,
 ⟨some 40,.call ⟨.builtin .len,#[(.tmp 39)],#[9]⟩,3,none⟩,
 ⟨some 41,.binOp .gtr 3 (.tmp 40) (.const (.int .i64 5000)) 3,4,none⟩] [0,1,6,7,8,9,41])
 (.cond (.tmp 41)
 (.exit 1 [0,1,6,7,8,9])
 (.skip [0,1,6,7,8,9]))) (sg c6S8))) (sg c6S9))
def c6L1(_:Unit):Cmd:=(.seq (.seq (.ops [
 ⟨some 25,.move (.tmp 9),3,none⟩,
 ⟨some 26,.move (.tmp 0),62,none⟩,
 ⟨some 27,.call ⟨.builtin .len,#[(.tmp 26)],#[62]⟩,3,none⟩,
 ⟨some 28,.binOp .lss 3 (.tmp 25) (.tmp 27) 3,4,none⟩,
 ⟨some 29,.move (.tmp 28),4,none⟩,
 ⟨some 30,.move (.tmp 9),3,(some (29,true))⟩,
 ⟨some 31,.binOp .lss 3 (.tmp 30) (.const (.int .i64 30)) 3,4,(some (29,true))⟩,
 ⟨some 32,.pick (.tmp 29) (.tmp 31) (.const (.bool false)),4,none⟩] [0,1,6,7,8,9,32])
 (.cond (.tmp 32)
 (.skip [0,1,6,7,8,9])
 (.exit 0 []))) (sg c6S10))
def c6S11(_:Unit):Cmd:=.ret
def c6S12(_:Unit):Cmd:=(.seq (.ops [
 ⟨some 114,.call ⟨.value (.func 14),#[],#[]⟩,4,none⟩,
 ⟨some 4,.assign (.tmp 114),4,none⟩] [4]) (sg c6S11))
def c6S13(_:Unit):Cmd:=(.seq (.ops [
 ⟨some 8,.alloc 63,0,none⟩] [0,1,6,7,8])
 (.seq (.seq (.ops [
 ⟨some 9,.assign (.const (.int .i64 0)),3,none⟩] [0,1,6,7,8,9])
 (.block 0 (.loop (sg c6L1)))) (sg c6S12)))
def c6S14(_:Unit):Cmd:=(.seq (.seq (.ops [
 ⟨some 23,.move (.tmp 7),27,none⟩,
 ⟨some 24,.binOp .eql 27 (.tmp 23) (.const (.pointer none)) 27,4,none⟩] [0,1,6,7,24])
 (.cond (.tmp 24)
 (.seq (.ops [
 ⟨some 4,.assign (.const (.bool false)),4,none⟩] [4])
 .ret)
 (.skip [0,1,6,7]))) (sg c6S13))
def c6S15(_:Unit):Cmd:=(.seq (.ops [
 ⟨some 21,.move (.tmp 6),24,none⟩,
 ⟨some 22,.call ⟨.value (.func 11),#[(.tmp 21),(.const (.int .i64 9))],#[24,3]⟩,27,none⟩,
 ⟨some 7,.assign (.tmp 22),27,none⟩] [0,1,6,7]) (sg c6S14))
def c6:Cmd:=(.seq (.ops [
 ⟨some 4,.assign (.const (.bool false)),4,none⟩] [0,1])
 (.seq (.ops [
 ⟨some 18,.call ⟨.value (.func 10),#[(.const (.int .i64 400))],#[3]⟩,25,none⟩,
 ⟨some 17,.move (.tmp 18),25,none⟩,
 ⟨some 19,.extract (.tmp 17) 0,23,none⟩,
 ⟨some 20,.extract (.tmp 17) 1,24,none⟩,
 ⟨some 5,.assign (.tmp 19),23,none⟩,
 ⟨some 6,.assign (.tmp 20),24,none⟩] [0,1,6]) (sg c6S15)))
attribute [go_sem] c6 c6S0 c6S1 c6S2 c6S3 c6S4 c6S5 c6S8 c6S9 c6S10 c6S11 c6S13 c6S14 c6S15
def c6D0:List (Nat × Ins):=[
 (0,⟨some 92,.move (.tmp 0),62,none⟩),
 (0,⟨some 93,.move (.tmp 9),3,none⟩),
 (0,⟨some 94,.indexAddr 62 (.tmp 92) (.tmp 93),0,none⟩),
 (0,⟨some 95,.fieldAddr 65 (.tmp 94) 2,0,none⟩),
 (1,⟨some 91,.load 63 (.tmp 8),63,none⟩),
 (2,⟨some 96,.load 3 (.tmp 95),3,none⟩),
 (3,⟨some 97,.call ⟨.value (.func 33),#[(.tmp 91),(.tmp 96)],#[63,3]⟩,72,none⟩),
 (0,⟨some 90,.move (.tmp 97),72,none⟩),
 (0,⟨some 98,.extract (.tmp 90) 0,9,none⟩),
 (0,⟨some 99,.extract (.tmp 90) 1,4,none⟩),
 (0,⟨some 13,.assign (.tmp 98),9,none⟩),
 (0,⟨some 14,.assign (.tmp 99),4,none⟩)]
theorem c6draw0{L:List Nat}{ρ:Env}{w:World}{Q:Post}(S:World→Prop)(hS:S w.drew)(h:DG Tryz.prog S c6D0 L ρ w.drew Q):drawW Tryz.prog (drawOps 0 c6code) L ρ w Q :=
 drawW_held [0] [(0,1),(0,2),(0,3),(0,4),(1,0),(2,5),(3,6),(0,7),(0,8),(0,9),(0,10),(0,11)] c6D0 (by kernel_rfl) (by kernel_rfl) (by kernel_rfl) S hS h
theorem ent6(a0 a1:Value)(w:World)(K:Value→World→Prop)(h:W Tryz.prog c6 [(0,a0),(1,a1)] w (finQ Tryz.prog [.tmp 4] K)):Ret Tryz.prog 6 [a0,a1] w K :=
 Ret_of_W (code:=c6code) Tryz.func6 (by kernel_rfl) (by kernel_rfl) (of_decide_eq_true (by kernel_rfl)) h
@[go_sem] theorem go6:goFunc Tryz.prog 6=true:=by kernel_rfl
@[go_sem] theorem go7:goFunc Tryz.prog 7=true:=by kernel_rfl
@[go_sem] theorem go8:goFunc Tryz.prog 8=true:=by kernel_rfl
@[go_sem] theorem go9:goFunc Tryz.prog 9=true:=by kernel_rfl
def c10code:Code:=match Tryz.f10.body with | some c=>c | none=>.skip
def c10S0(_:Unit):Cmd:=(.cond (.tmp 21)
 (.seq (.ops [
 ⟨some 2,.assign (.const (.pointer none)),23,none⟩,
 ⟨some 3,.assign (.const (.pointer none)),24,none⟩] [2,3])
 .ret)
 (.skip [4]))
def c10S1(_:Unit):Cmd:=(.cond (.tmp 41)
 (.seq (.ops [
 ⟨some 2,.assign (.const (.pointer none)),23,none⟩,
 ⟨some 3,.assign (.const (.pointer none)),24,none⟩] [2,3])
 .ret)
 (.skip [4,7]))
def c10S2(_:Unit):Cmd:=(.seq (.ops [
 ⟨some 42,.move (.tmp 4),23,none⟩,
 ⟨some 43,.move (.tmp 7),24,none⟩,
 ⟨some 2,.assign (.tmp 42),23,none⟩,
 ⟨some 3,.assign (.tmp 43),24,none⟩] [2,3])
 .ret)
def c10S3(_:Unit):Cmd:=(.seq (.seq (.ops [
 ⟨some 34,.move (.tmp 5),30,none⟩,
 ⟨some 35,.binOp .neq 30 (.tmp 34) (.const (.int .i64 0)) 30,4,none⟩,
 ⟨some 36,.move (.tmp 35),4,none⟩,
 ⟨some 37,.move (.tmp 7),24,(some (36,false))⟩,
 ⟨some 38,.call ⟨.value (.func 44),#[(.tmp 37)],#[24]⟩,30,(some (36,false))⟩,
 ⟨some 39,.move (.tmp 5),30,(some (36,false))⟩,
 ⟨some 40,.binOp .neq 30 (.tmp 38) (.tmp 39) 30,4,(some (36,false))⟩,
 ⟨some 41,.pick (.tmp 36) (.const (.bool true)) (.tmp 40),4,none⟩] [4,7,41]) (sg c10S1)) (sg c10S2))
def c10S4(_:Unit):Cmd:=(.seq (.ops [
 ⟨some 30,.move (.tmp 6),88,none⟩,
 ⟨some 31,.call ⟨.value (.func 43),#[(.tmp 30)],#[88]⟩,91,none⟩,
 ⟨some 29,.move (.tmp 31),91,none⟩,
 ⟨some 32,.extract (.tmp 29) 0,24,none⟩,
 ⟨some 33,.extract (.tmp 29) 1,30,none⟩,
 ⟨some 7,.assign (.tmp 32),24,none⟩,
 ⟨some 5,.assign (.tmp 33),30,none⟩] [4,5,7]) (sg c10S3))
def c10S5(_:Unit):Cmd:=(.seq (.seq (.ops [
 ⟨some 27,.move (.tmp 5),30,none⟩,
 ⟨some 28,.binOp .neq 30 (.tmp 27) (.const (.int .i64 0)) 30,4,none⟩] [4,6,28])
 (.cond (.tmp 28)
 (.seq (.ops [
 ⟨some 2,.assign (.const (.pointer none)),23,none⟩,
 ⟨some 3,.assign (.const (.pointer none)),24,none⟩] [2,3])
 .ret)
 (.skip [4,6]))) (sg c10S4))
def c10S6(_:Unit):Cmd:=(.seq (.ops [
 ⟨some 23,.move (.tmp 4),23,none⟩,
 ⟨some 24,.call ⟨.value (.func 42),#[(.tmp 23)],#[23]⟩,89,none⟩,
 ⟨some 22,.move (.tmp 24),89,none⟩,
 ⟨some 25,.extract (.tmp 22) 0,88,none⟩,
 ⟨some 26,.extract (.tmp 22) 1,30,none⟩,
 ⟨some 6,.assign (.tmp 25),88,none⟩,
 ⟨some 5,.assign (.tmp 26),30,none⟩] [4,5,6]) (sg c10S5))
def c10S7(_:Unit):Cmd:=(.seq (.seq (.ops [
 ⟨some 14,.move (.tmp 5),30,none⟩,
 ⟨some 15,.binOp .neq 30 (.tmp 14) (.const (.int .i64 0)) 30,4,none⟩,
 ⟨some 16,.move (.tmp 15),4,none⟩,
 ⟨some 17,.move (.tmp 4),23,(some (16,false))⟩,
 ⟨some 18,.call ⟨.value (.func 41),#[(.tmp 17),(.const (.int .i64 400))],#[23,3]⟩,30,(some (16,false))⟩,
 ⟨some 19,.move (.tmp 5),30,(some (16,false))⟩,
 ⟨some 20,.binOp .neq 30 (.tmp 18) (.tmp 19) 30,4,(some (16,false))⟩,
 ⟨some 21,.pick (.tmp 16) (.const (.bool true)) (.tmp 20),4,none⟩] [4,21]) (sg c10S0)) (sg c10S6))
def c10:Cmd:=(.seq (.ops [
 ⟨some 2,.assign (.const (.pointer none)),23,none⟩,
 ⟨some 3,.assign (.const (.pointer none)),24,none⟩] [0])
 (.seq (.ops [
 ⟨some 9,.move (.tmp 0),3,none⟩,
 ⟨some 10,.binOp .add 3 (.tmp 9) (.const (.int .i64 402)) 3,3,none⟩,
 ⟨some 11,.call ⟨.value (.func 40),#[(.tmp 10)],#[3]⟩,85,none⟩,
 ⟨some 8,.move (.tmp 11),85,none⟩,
 ⟨some 12,.extract (.tmp 8) 0,23,none⟩,
 ⟨some 13,.extract (.tmp 8) 1,30,none⟩,
 ⟨some 4,.assign (.tmp 12),23,none⟩,
 ⟨some 5,.assign (.tmp 13),30,none⟩] [4,5]) (sg c10S7)))
attribute [go_sem] c10 c10S0 c10S1 c10S2 c10S3 c10S4 c10S5 c10S6 c10S7
theorem ent10(a0:Value)(w:World)(K:Value→World→Prop)(h:W Tryz.prog c10 [(0,a0)] w (finQ Tryz.prog [.tmp 2,.tmp 3] K)):Ret Tryz.prog 10 [a0] w K :=
 Ret_of_W (code:=c10code) Tryz.func10 (by kernel_rfl) (by kernel_rfl) (of_decide_eq_true (by kernel_rfl)) h
@[go_sem] theorem go10:goFunc Tryz.prog 10=true:=by kernel_rfl
def c11code:Code:=match Tryz.f11.body with | some c=>c | none=>.skip
def c11S0(_:Unit):Cmd:=(.seq (.ops [
 ⟨some 15,.move (.tmp 5),27,none⟩,
 ⟨some 4,.assign (.tmp 15),27,none⟩] [4])
 .ret)
def c11S1(_:Unit):Cmd:=(.seq (.seq (.ops [
 ⟨some 13,.move (.tmp 6),30,none⟩,
 ⟨some 14,.binOp .neq 30 (.tmp 13) (.const (.int .i64 0)) 30,4,none⟩] [5,14])
 (.cond (.tmp 14)
 (.seq (.ops [
 ⟨some 4,.assign (.const (.pointer none)),27,none⟩] [4])
 .ret)
 (.skip [5]))) (sg c11S0))
def c11:Cmd:=(.seq (.ops [
 ⟨some 4,.assign (.const (.pointer none)),27,none⟩] [0,1])
 (.seq (.ops [
 ⟨some 8,.move (.tmp 0),24,none⟩,
 ⟨some 9,.move (.tmp 1),3,none⟩,
 ⟨some 10,.call ⟨.value (.func 45),#[(.tmp 8),(.tmp 9)],#[24,3]⟩,93,none⟩,
 ⟨some 7,.move (.tmp 10),93,none⟩,
 ⟨some 11,.extract (.tmp 7) 0,27,none⟩,
 ⟨some 12,.extract (.tmp 7) 1,30,none⟩,
 ⟨some 5,.assign (.tmp 11),27,none⟩,
 ⟨some 6,.assign (.tmp 12),30,none⟩] [5,6]) (sg c11S1)))
attribute [go_sem] c11 c11S0 c11S1
theorem ent11(a0 a1:Value)(w:World)(K:Value→World→Prop)(h:W Tryz.prog c11 [(0,a0),(1,a1)] w (finQ Tryz.prog [.tmp 4] K)):Ret Tryz.prog 11 [a0,a1] w K :=
 Ret_of_W (code:=c11code) Tryz.func11 (by kernel_rfl) (by kernel_rfl) (of_decide_eq_true (by kernel_rfl)) h
@[go_sem] theorem go11:goFunc Tryz.prog 11=true:=by kernel_rfl
def c12code:Code:=match Tryz.f12.body with | some c=>c | none=>.skip
def c12S0(_:Unit):Cmd:=(.cond (.tmp 37)
 (.ops [
 ⟨some 38,.move (.tmp 6),3,none⟩,
 ⟨some 39,.binOp .sub 3 (.tmp 38) (.const (.int .i64 1)) 3,3,none⟩,
 ⟨some 6,.assign (.tmp 39),3,none⟩] [3,5,6,7])
 (.skip [3,5,6,7]))
def c12S1(_:Unit):Cmd:=(.ops [
 ⟨some 33,.move (.tmp 7),3,none⟩,
 ⟨some 34,.binOp .add 3 (.tmp 33) (.const (.int .i64 1)) 3,3,none⟩,
 ⟨some 7,.assign (.tmp 34),3,none⟩] [3,5,6,7])
def c12S2(_:Unit):Cmd:=(.seq (.block 1 (.seq (.ops [
 ⟨some 35,.move (.tmp 3),9,none⟩,
 ⟨some 36,.move (.tmp 7),3,none⟩,
 ⟨some 37,.call ⟨.value (.func 49),#[(.tmp 35),(.tmp 36)],#[9,3]⟩,4,none⟩] [3,5,6,7,37]) (sg c12S0))) (sg c12S1))
def c12L0(_:Unit):Cmd:=(.seq (.seq (.ops [
 ⟨some 30,.move (.tmp 7),3,none⟩,
 ⟨some 31,.move (.tmp 5),3,none⟩,
 ⟨some 32,.binOp .lss 3 (.tmp 30) (.tmp 31) 3,4,none⟩] [3,5,6,7,32])
 (.cond (.tmp 32)
 (.skip [3,5,6,7])
 (.exit 0 [6]))) (sg c12S2))
def c12S3(_:Unit):Cmd:=(.seq (.ops [
 ⟨some 40,.move (.tmp 6),3,none⟩,
 ⟨some 2,.assign (.tmp 40),3,none⟩] [2])
 .ret)
def c12S4(_:Unit):Cmd:=(.seq (.seq (.ops [
 ⟨some 27,.move (.tmp 5),3,none⟩,
 ⟨some 28,.binOp .quo 3 (.tmp 27) (.const (.int .i64 8)) 3,3,none⟩,
 ⟨some 29,.binOp .mul 3 (.tmp 28) (.const (.int .i64 8)) 3,3,none⟩,
 ⟨some 7,.assign (.tmp 29),3,none⟩] [3,5,6,7])
 (.block 0 (.loop (sg c12L0)))) (sg c12S3))
def c12S5(_:Unit):Cmd:=(.seq (.ops [
 ⟨some 20,.move (.tmp 5),3,none⟩,
 ⟨some 21,.move (.tmp 3),9,none⟩,
 ⟨some 22,.move (.tmp 5),3,none⟩,
 ⟨some 23,.binOp .quo 3 (.tmp 22) (.const (.int .i64 8)) 3,3,none⟩,
 ⟨some 24,.slice 9 (.tmp 21) none (some (.tmp 23)) none,9,none⟩,
 ⟨some 25,.call ⟨.value (.func 48),#[(.tmp 24)],#[9]⟩,3,none⟩,
 ⟨some 26,.binOp .sub 3 (.tmp 20) (.tmp 25) 3,3,none⟩,
 ⟨some 6,.assign (.tmp 26),3,none⟩] [3,5,6]) (sg c12S4))
def c12S6(_:Unit):Cmd:=(.seq (.ops [
 ⟨some 15,.move (.tmp 0),24,none⟩,
 ⟨some 16,.nilCheck (.tmp 15),0,none⟩,
 ⟨some 17,.fieldAddr 98 (.tmp 16) 0,0,none⟩,
 ⟨some 18,.load 88 (.tmp 17),88,none⟩,
 ⟨some 19,.call ⟨.value (.func 47),#[(.tmp 18)],#[88]⟩,3,none⟩,
 ⟨some 5,.assign (.tmp 19),3,none⟩] [3,5]) (sg c12S5))
def c12S7(_:Unit):Cmd:=(.seq (.seq (.ops [
 ⟨some 13,.move (.tmp 4),30,none⟩,
 ⟨some 14,.binOp .neq 30 (.tmp 13) (.const (.int .i64 0)) 30,4,none⟩] [0,3,14])
 (.cond (.tmp 14)
 (.seq (.ops [
 ⟨some 2,.assign (.const (.int .i64 0)),3,none⟩] [2])
 .ret)
 (.skip [0,3]))) (sg c12S6))
def c12:Cmd:=(.seq (.ops [
 ⟨some 2,.assign (.const (.int .i64 0)),3,none⟩] [0])
 (.seq (.ops [
 ⟨some 9,.move (.tmp 0),24,none⟩,
 ⟨some 10,.call ⟨.value (.func 46),#[(.tmp 9)],#[24]⟩,50,none⟩,
 ⟨some 8,.move (.tmp 10),50,none⟩,
 ⟨some 11,.extract (.tmp 8) 0,9,none⟩,
 ⟨some 12,.extract (.tmp 8) 1,30,none⟩,
 ⟨some 3,.assign (.tmp 11),9,none⟩,
 ⟨some 4,.assign (.tmp 12),30,none⟩] [0,3,4]) (sg c12S7)))
attribute [go_sem] c12 c12S0 c12S1 c12S2 c12S3 c12S4 c12S5 c12S6 c12S7
theorem ent12(a0:Value)(w:World)(K:Value→World→Prop)(h:W Tryz.prog c12 [(0,a0)] w (finQ Tryz.prog [.tmp 2] K)):Ret Tryz.prog 12 [a0] w K :=
 Ret_of_W (code:=c12code) Tryz.func12 (by kernel_rfl) (by kernel_rfl) (of_decide_eq_true (by kernel_rfl)) h
@[go_sem] theorem go12:goFunc Tryz.prog 12=true:=by kernel_rfl
def c13code:Code:=match Tryz.f13.body with | some c=>c | none=>.skip
def c13S0(_:Unit):Cmd:=(.cond (.tmp 21)
 (.seq (.ops [
 ⟨none,.store 3 (.tmp 4) (.const (.int .i64 0)),0,none⟩,
 ⟨none,.store 30 (.tmp 5) (.const (.int .i64 3)),0,none⟩] [4,5])
 .ret)
 (.skip [1,2,4,5]))
def c13S1(_:Unit):Cmd:=(.seq (.ops [
 ⟨some 24,.move (.tmp 6),30,none⟩,
 ⟨some 25,.binOp .neq 30 (.tmp 24) (.const (.int .i64 0)) 30,4,none⟩] [1,2,4,5,6,25])
 (.cond (.tmp 25)
 (.seq (.ops [
 ⟨some 26,.move (.tmp 6),30,none⟩,
 ⟨none,.store 3 (.tmp 4) (.const (.int .i64 0)),0,none⟩,
 ⟨none,.store 30 (.tmp 5) (.tmp 26),0,none⟩] [4,5])
 .ret)
 (.skip [1,2,4,5])))
def c13S2(_:Unit):Cmd:=(.cond (.tmp 39)
 (.seq (.ops [
 ⟨none,.store 3 (.tmp 4) (.const (.int .i64 0)),0,none⟩,
 ⟨none,.store 30 (.tmp 5) (.const (.int .i64 13)),0,none⟩] [4,5])
 .ret)
 (.skip [1,2,4,5,7,8]))
def c13S3(_:Unit):Cmd:=(.seq (.ops [
 ⟨some 48,.move (.tmp 10),30,none⟩,
 ⟨some 49,.binOp .neq 30 (.tmp 48) (.const (.int .i64 0)) 30,4,none⟩] [1,2,4,5,7,9,10,49])
 (.cond (.tmp 49)
 (.seq (.ops [
 ⟨some 50,.move (.tmp 10),30,none⟩,
 ⟨none,.store 3 (.tmp 4) (.const (.int .i64 0)),0,none⟩,
 ⟨none,.store 30 (.tmp 5) (.tmp 50),0,none⟩] [4,5])
 .ret)
 (.skip [1,2,4,5,7,9])))
def c13S4(_:Unit):Cmd:=(.cond (.tmp 71)
 (.exit 1 [])
 (.skip [2,4,5,11,13,14,15]))
def c13S5(_:Unit):Cmd:=.ret
def c13S6(_:Unit):Cmd:=(.seq (.draw (drawOps 1 c13code) []) (sg c13S5))
def c13S7(_:Unit):Cmd:=(.seq (.ops [
 ⟨some 73,.move (.tmp 15),9,none⟩,
 ⟨some 74,.load 9 (.tmp 11),9,none⟩,
 ⟨some 75,.call ⟨.value (.func 58),#[(.tmp 73),(.tmp 74)],#[9,9]⟩,111,none⟩,
 ⟨some 72,.move (.tmp 75),111,none⟩,
 ⟨some 76,.extract (.tmp 72) 0,9,none⟩,
 ⟨some 77,.extract (.tmp 72) 1,3,none⟩,
 ⟨some 78,.extract (.tmp 72) 2,4,none⟩,
 ⟨some 15,.assign (.tmp 76),9,none⟩,
 ⟨some 17,.assign (.tmp 77),3,none⟩,
 ⟨some 18,.assign (.tmp 78),4,none⟩] [2,4,5,13,14,15,17]) (sg c13S6))
def c13S8(_:Unit):Cmd:=(.seq (.seq (.draw (drawOps 0 c13code) [2,4,5,11,13,14,15,71]) (sg c13S4)) (sg c13S7))
def c13S9(_:Unit):Cmd:=(.seq (.seq (.ops [
 ⟨some 65,.move (.tmp 16),30,none⟩,
 ⟨some 66,.binOp .neq 30 (.tmp 65) (.const (.int .i64 0)) 30,4,none⟩] [2,4,5,7,11,13,14,15,16,66])
 (.cond (.tmp 66)
 (.seq (.ops [
 ⟨some 67,.move (.tmp 16),30,none⟩,
 ⟨none,.store 3 (.tmp 4) (.const (.int .i64 0)),0,none⟩,
 ⟨none,.store 30 (.tmp 5) (.tmp 67),0,none⟩] [])
 .ret)
 (.skip [2,4,5,7,11,13,14,15]))) (sg c13S8))
def c13A0(_:Unit):Cmd:=(.ops [
 ⟨some 13,.assign (.tmp 57),3,none⟩] [2,4,5,7,11,13])
def c13B0(_:Unit):Cmd:=(.block 1 (.seq (.ops [
 ⟨some 59,.load 27 (.tmp 2),27,none⟩,
 ⟨some 60,.move (.tmp 13),3,none⟩,
 ⟨some 61,.call ⟨.value (.func 56),#[(.tmp 59),(.tmp 60)],#[27,3]⟩,109,none⟩,
 ⟨some 58,.move (.tmp 61),109,none⟩,
 ⟨some 62,.extract (.tmp 58) 0,3,none⟩,
 ⟨some 63,.extract (.tmp 58) 1,9,none⟩,
 ⟨some 64,.extract (.tmp 58) 2,30,none⟩,
 ⟨some 14,.assign (.tmp 62),3,none⟩,
 ⟨some 15,.assign (.tmp 63),9,none⟩,
 ⟨some 16,.assign (.tmp 64),30,none⟩] [2,4,5,7,11,13,14,15,16]) (sg c13S9)))
def c13S10(_:Unit):Cmd:=(.block 0 (.rangeF (.tmp 55) [56,57] (sg c13A0) (sg c13B0) [2,4,5,11]))
def c13S11(_:Unit):Cmd:=.ret
def c13S12(_:Unit):Cmd:=(.seq (.ops [
 ⟨some 87,.load 27 (.tmp 2),27,none⟩,
 ⟨some 88,.load 9 (.tmp 11),9,none⟩,
 ⟨some 89,.call ⟨.value (.func 61),#[(.tmp 87),(.tmp 88)],#[27,9]⟩,31,none⟩,
 ⟨some 90,.extract (.tmp 89) 0,3,none⟩,
 ⟨some 91,.extract (.tmp 89) 1,30,none⟩,
 ⟨none,.store 3 (.tmp 4) (.tmp 90),0,none⟩,
 ⟨none,.store 30 (.tmp 5) (.tmp 91),0,none⟩] [4,5]) (sg c13S11))
def c13S13(_:Unit):Cmd:=(.seq (.seq (.ops [
 ⟨some 54,.load 27 (.tmp 2),27,none⟩,
 ⟨some 55,.call ⟨.value (.func 55),#[(.tmp 54)],#[27]⟩,107,none⟩] [2,4,5,7,11,55]) (sg c13S10)) (sg c13S12))
def c13S14(_:Unit):Cmd:=(.seq (.ops [
 ⟨some 51,.move (.tmp 1),9,none⟩,
 ⟨some 52,.move (.tmp 9),3,none⟩,
 ⟨some 53,.call ⟨.value (.func 54),#[(.tmp 51),(.tmp 52)],#[9,3]⟩,9,none⟩,
 ⟨some 11,.alloc 9,0,none⟩,
 ⟨none,.store 9 (.tmp 11) (.tmp 53),0,none⟩] [2,4,5,7,11]) (sg c13S13))
def c13S15(_:Unit):Cmd:=(.seq (.ops [
 ⟨some 9,.assign (.const (.int .i64 0)),3,none⟩] [1,2,4,5,7,8,9])
 (.seq (.seq (.ops [
 ⟨some 40,.move (.tmp 8),3,none⟩,
 ⟨some 41,.binOp .gtr 3 (.tmp 40) (.const (.int .i64 0)) 3,4,none⟩] [1,2,4,5,7,9,41])
 (.cond (.tmp 41)
 (.seq (.ops [
 ⟨some 10,.assign (.const (.int .i64 0)),30,none⟩] [1,2,4,5,7])
 (.seq (.ops [
 ⟨some 43,.load 27 (.tmp 2),27,none⟩,
 ⟨some 44,.move (.tmp 1),9,none⟩,
 ⟨some 45,.call ⟨.value (.func 53),#[(.tmp 43),(.tmp 44)],#[27,9]⟩,31,none⟩,
 ⟨some 42,.move (.tmp 45),31,none⟩,
 ⟨some 46,.extract (.tmp 42) 0,3,none⟩,
 ⟨some 47,.extract (.tmp 42) 1,30,none⟩,
 ⟨some 9,.assign (.tmp 46),3,none⟩,
 ⟨some 10,.assign (.tmp 47),30,none⟩] [1,2,4,5,7,9,10]) (sg c13S3)))
 (.skip [1,2,4,5,7,9]))) (sg c13S14)))
def c13S16(_:Unit):Cmd:=(.seq (.seq (.ops [
 ⟨some 32,.load 27 (.tmp 2),27,none⟩,
 ⟨some 33,.nilCheck (.tmp 32),0,none⟩,
 ⟨some 34,.fieldAddr 104 (.tmp 33) 0,0,none⟩,
 ⟨some 35,.load 24 (.tmp 34),24,none⟩,
 ⟨some 36,.call ⟨.value (.func 12),#[(.tmp 35)],#[24]⟩,3,none⟩,
 ⟨some 37,.move (.tmp 8),3,none⟩,
 ⟨some 38,.binOp .add 3 (.tmp 37) (.const (.int .i64 1)) 3,3,none⟩,
 ⟨some 39,.binOp .lss 3 (.tmp 36) (.tmp 38) 3,4,none⟩] [1,2,4,5,7,8,39]) (sg c13S2)) (sg c13S15))
def c13S17(_:Unit):Cmd:=(.seq (.ops [
 ⟨some 28,.move (.tmp 1),9,none⟩,
 ⟨some 29,.call ⟨.value (.func 52),#[(.tmp 28)],#[9]⟩,101,none⟩,
 ⟨some 27,.move (.tmp 29),101,none⟩,
 ⟨some 30,.extract (.tmp 27) 0,3,none⟩,
 ⟨some 31,.extract (.tmp 27) 1,3,none⟩,
 ⟨some 7,.alloc 3,0,none⟩,
 ⟨none,.store 3 (.tmp 7) (.tmp 30),0,none⟩,
 ⟨some 8,.assign (.tmp 31),3,none⟩] [1,2,4,5,7,8]) (sg c13S16))
def c13S18(_:Unit):Cmd:=(.seq (.seq (.ops [
 ⟨some 22,.move (.tmp 1),9,none⟩,
 ⟨some 23,.call ⟨.value (.func 51),#[(.tmp 22)],#[9]⟩,30,none⟩,
 ⟨some 6,.assign (.tmp 23),30,none⟩] [1,2,4,5,6]) (sg c13S1)) (sg c13S17))
def c13:Cmd:=(.seq (.ops [
 ⟨some 2,.box 27 (.tmp 0),0,none⟩,
 ⟨some 4,.alloc 3,0,none⟩,
 ⟨some 5,.alloc 30,0,none⟩] [1,2,4,5])
 (.seq (.seq (.ops [
 ⟨some 19,.load 27 (.tmp 2),27,none⟩,
 ⟨some 20,.call ⟨.value (.func 50),#[(.tmp 19)],#[27]⟩,4,none⟩,
 ⟨some 21,.unOp .not 4 (.tmp 20),4,none⟩] [1,2,4,5,21]) (sg c13S0)) (sg c13S18)))
attribute [go_sem] c13 c13S0 c13S1 c13S2 c13S3 c13S4 c13S5 c13S6 c13S7 c13S8 c13S9 c13A0 c13S10 c13S11 c13S12 c13S13 c13S15 c13S16 c13S17 c13S18
def c13D0:List (Nat × Ins):=[
 (0,⟨some 68,.move (.tmp 15),9,none⟩),
 (1,⟨some 70,.load 3 (.tmp 7),3,none⟩),
 (2,⟨some 69,.call ⟨.value (.func 57),#[(.tmp 68)],#[9]⟩,3,none⟩),
 (0,⟨some 71,.binOp .lss 3 (.tmp 69) (.tmp 70) 3,4,none⟩)]
theorem c13draw0{L:List Nat}{ρ:Env}{w:World}{Q:Post}(S:World→Prop)(hS:S w.drew)(h:DG Tryz.prog S c13D0 L ρ w.drew Q):drawW Tryz.prog (drawOps 0 c13code) L ρ w Q :=
 drawW_held [2] [(0,0),(1,2),(2,1),(0,3)] c13D0 (by kernel_rfl) (by kernel_rfl) (by kernel_rfl) S hS h
def c13D1:List (Nat × Ins):=[
 (0,⟨some 79,.move (.tmp 13),3,none⟩),
 (0,⟨some 80,.move (.tmp 17),3,none⟩),
 (0,⟨some 83,.move (.tmp 13),3,none⟩),
 (0,⟨some 84,.move (.tmp 14),3,none⟩),
 (0,⟨some 85,.move (.tmp 15),9,none⟩),
 (1,⟨some 82,.load 27 (.tmp 2),27,none⟩),
 (2,⟨some 81,.call ⟨.value (.func 59),#[(.tmp 79),(.tmp 80)],#[3,3]⟩,3,none⟩),
 (3,⟨some 86,.call ⟨.value (.func 60),#[(.tmp 82),(.tmp 83),(.tmp 84),(.tmp 85)],#[27,3,3,9]⟩,30,none⟩),
 (2,⟨none,.store 3 (.tmp 4) (.tmp 81),0,none⟩),
 (3,⟨none,.store 30 (.tmp 5) (.tmp 86),0,none⟩)]
theorem c13draw1{L:List Nat}{ρ:Env}{w:World}{Q:Post}(S:World→Prop)(hS:S w.drew)(h:DG Tryz.prog S c13D1 L ρ w.drew Q):drawW Tryz.prog (drawOps 1 c13code) L ρ w Q :=
 drawW_held [3] [(0,0),(0,1),(0,4),(0,5),(0,6),(1,3),(2,2),(3,7),(2,8),(3,9)] c13D1 (by kernel_rfl) (by kernel_rfl) (by kernel_rfl) S hS h
theorem ent13(a0 a1:Value)(w:World)(K:Value→World→Prop)(h:W Tryz.prog c13 [(0,a0),(1,a1)] w (finQ Tryz.prog [.cell 4 3,.cell 5 30] K)):Ret Tryz.prog 13 [a0,a1] w K :=
 Ret_of_W (code:=c13code) Tryz.func13 (by kernel_rfl) (by kernel_rfl) (of_decide_eq_true (by kernel_rfl)) h
@[go_sem] theorem go13:goFunc Tryz.prog 13=true:=by kernel_rfl
def c14code:Code:=match Tryz.f14.body with | some c=>c | none=>.skip
def c14S0(_:Unit):Cmd:=.ret
def c14S1(_:Unit):Cmd:=(.seq (.ops [
 ⟨some 46,.move (.tmp 6),30,none⟩,
 ⟨some 47,.binOp .eql 30 (.tmp 46) (.const (.int .i64 0)) 30,4,none⟩,
 ⟨some 48,.move (.tmp 47),4,none⟩,
 ⟨some 49,.move (.tmp 8),30,(some (48,true))⟩,
 ⟨some 50,.move (.tmp 6),30,(some (48,true))⟩,
 ⟨some 51,.binOp .eql 30 (.tmp 49) (.tmp 50) 30,4,(some (48,true))⟩,
 ⟨some 52,.pick (.tmp 48) (.tmp 51) (.const (.bool false)),4,none⟩,
 ⟨some 53,.move (.tmp 52),4,none⟩,
 ⟨some 54,.move (.tmp 10),30,(some (53,true))⟩,
 ⟨some 55,.move (.tmp 6),30,(some (53,true))⟩,
 ⟨some 56,.binOp .eql 30 (.tmp 54) (.tmp 55) 30,4,(some (53,true))⟩,
 ⟨some 57,.pick (.tmp 53) (.tmp 56) (.const (.bool false)),4,none⟩,
 ⟨some 58,.move (.tmp 57),4,none⟩,
 ⟨some 59,.move (.tmp 12),30,(some (58,true))⟩,
 ⟨some 60,.move (.tmp 6),30,(some (58,true))⟩,
 ⟨some 61,.binOp .eql 30 (.tmp 59) (.tmp 60) 30,4,(some (58,true))⟩,
 ⟨some 62,.pick (.tmp 58) (.tmp 61) (.const (.bool false)),4,none⟩,
 ⟨some 63,.move (.tmp 62),4,none⟩,
 ⟨some 64,.move (.tmp 9),9,(some (63,true))⟩,
 ⟨some 65,.call ⟨.value (.func 62),#[(.const (.int .i64 1000))],#[3]⟩,9,(some (63,true))⟩,
 ⟨some 66,.binOp .eql 9 (.tmp 64) (.tmp 65) 9,4,(some (63,true))⟩,
 ⟨some 67,.pick (.tmp 63) (.tmp 66) (.const (.bool false)),4,none⟩,
 ⟨some 68,.move (.tmp 67),4,none⟩,
 ⟨some 69,.move (.tmp 11),9,(some (68,true))⟩,
 ⟨some 70,.binOp .eql 9 (.tmp 69) (.const (.string (ofL [97,98]))) 9,4,(some (68,true))⟩,
 ⟨some 71,.pick (.tmp 68) (.tmp 70) (.const (.bool false)),4,none⟩,
 ⟨some 72,.move (.tmp 71),4,none⟩,
 ⟨some 73,.move (.tmp 3),27,(some (72,true))⟩,
 ⟨some 74,.move (.tmp 5),3,(some (72,true))⟩,
 ⟨some 75,.call ⟨.value (.func 35),#[(.tmp 73),(.tmp 74)],#[27,3]⟩,30,(some (72,true))⟩,
 ⟨some 76,.move (.tmp 6),30,(some (72,true))⟩,
 ⟨some 77,.binOp .eql 30 (.tmp 75) (.tmp 76) 30,4,(some (72,true))⟩,
 ⟨some 78,.pick (.tmp 72) (.tmp 77) (.const (.bool false)),4,none⟩,
 ⟨some 79,.move (.tmp 78),4,none⟩,
 ⟨some 80,.move (.tmp 3),27,(some (79,true))⟩,
 ⟨some 81,.move (.tmp 7),3,(some (79,true))⟩,
 ⟨some 82,.call ⟨.value (.func 35),#[(.tmp 80),(.tmp 81)],#[27,3]⟩,30,(some (79,true))⟩,
 ⟨some 83,.move (.tmp 6),30,(some (79,true))⟩,
 ⟨some 84,.binOp .eql 30 (.tmp 82) (.tmp 83) 30,4,(some (79,true))⟩,
 ⟨some 85,.pick (.tmp 79) (.tmp 84) (.const (.bool false)),4,none⟩,
 ⟨some 86,.move (.tmp 85),4,none⟩,
 ⟨some 87,.move (.tmp 2),24,(some (86,true))⟩,
 ⟨some 88,.call ⟨.value (.func 12),#[(.tmp 87)],#[24]⟩,3,(some (86,true))⟩,
 ⟨some 89,.move (.tmp 4),3,(some (86,true))⟩,
 ⟨some 90,.binOp .eql 3 (.tmp 88) (.tmp 89) 3,4,(some (86,true))⟩,
 ⟨some 91,.pick (.tmp 86) (.tmp 90) (.const (.bool false)),4,none⟩,
 ⟨some 0,.assign (.tmp 91),4,none⟩] [0]) (sg c14S0))
def c14S2(_:Unit):Cmd:=(.seq (.ops [
 ⟨some 41,.move (.tmp 3),27,none⟩,
 ⟨some 42,.move (.tmp 7),3,none⟩,
 ⟨some 43,.call ⟨.value (.func 32),#[(.tmp 41),(.tmp 42)],#[27,3]⟩,50,none⟩,
 ⟨some 40,.move (.tmp 43),50,none⟩,
 ⟨some 44,.extract (.tmp 40) 0,9,none⟩,
 ⟨some 45,.extract (.tmp 40) 1,30,none⟩,
 ⟨some 11,.assign (.tmp 44),9,none⟩,
 ⟨some 12,.assign (.tmp 45),30,none⟩] [2,3,4,5,6,7,8,9,10,11,12]) (sg c14S1))
def c14S3(_:Unit):Cmd:=(.seq (.ops [
 ⟨some 35,.move (.tmp 3),27,none⟩,
 ⟨some 36,.move (.tmp 5),3,none⟩,
 ⟨some 37,.call ⟨.value (.func 32),#[(.tmp 35),(.tmp 36)],#[27,3]⟩,50,none⟩,
 ⟨some 34,.move (.tmp 37),50,none⟩,
 ⟨some 38,.extract (.tmp 34) 0,9,none⟩,
 ⟨some 39,.extract (.tmp 34) 1,30,none⟩,
 ⟨some 9,.assign (.tmp 38),9,none⟩,
 ⟨some 10,.assign (.tmp 39),30,none⟩] [2,3,4,5,6,7,8,9,10]) (sg c14S2))
def c14S4(_:Unit):Cmd:=(.seq (.ops [
 ⟨some 30,.move (.tmp 3),27,none⟩,
 ⟨some 31,.call ⟨.value (.func 13),#[(.tmp 30),(.const (.string (ofL [97,98])))],#[27,9]⟩,31,none⟩,
 ⟨some 29,.move (.tmp 31),31,none⟩,
 ⟨some 32,.extract (.tmp 29) 0,3,none⟩,
 ⟨some 33,.extract (.tmp 29) 1,30,none⟩,
 ⟨some 7,.assign (.tmp 32),3,none⟩,
 ⟨some 8,.assign (.tmp 33),30,none⟩] [2,3,4,5,6,7,8]) (sg c14S3))
def c14S5(_:Unit):Cmd:=(.seq (.ops [
 ⟨some 24,.move (.tmp 3),27,none⟩,
 ⟨some 25,.call ⟨.value (.func 62),#[(.const (.int .i64 1000))],#[3]⟩,9,none⟩,
 ⟨some 26,.call ⟨.value (.func 13),#[(.tmp 24),(.tmp 25)],#[27,9]⟩,31,none⟩,
 ⟨some 23,.move (.tmp 26),31,none⟩,
 ⟨some 27,.extract (.tmp 23) 0,3,none⟩,
 ⟨some 28,.extract (.tmp 23) 1,30,none⟩,
 ⟨some 5,.assign (.tmp 27),3,none⟩,
 ⟨some 6,.assign (.tmp 28),30,none⟩] [2,3,4,5,6]) (sg c14S4))
def c14S6(_:Unit):Cmd:=(.seq (.ops [
 ⟨some 21,.move (.tmp 2),24,none⟩,
 ⟨some 22,.call ⟨.value (.func 12),#[(.tmp 21)],#[24]⟩,3,none⟩,
 ⟨some 4,.assign (.tmp 22),3,none⟩] [2,3,4]) (sg c14S5))
def c14S7(_:Unit):Cmd:=(.seq (.seq (.ops [
 ⟨some 19,.move (.tmp 3),27,none⟩,
 ⟨some 20,.binOp .eql 27 (.tmp 19) (.const (.pointer none)) 27,4,none⟩] [2,3,20])
 (.cond (.tmp 20)
 (.seq (.ops [
 ⟨some 0,.assign (.const (.bool false)),4,none⟩] [0])
 .ret)
 (.skip [2,3]))) (sg c14S6))
def c14S8(_:Unit):Cmd:=(.seq (.ops [
 ⟨some 17,.move (.tmp 2),24,none⟩,
 ⟨some 18,.call ⟨.value (.func 11),#[(.tmp 17),(.const (.int .i64 9))],#[24,3]⟩,27,none⟩,
 ⟨some 3,.assign (.tmp 18),27,none⟩] [2,3]) (sg c14S7))
def c14:Cmd:=(.seq (.ops [
 ⟨some 0,.assign (.const (.bool false)),4,none⟩] [])
 (.seq (.ops [
 ⟨some 14,.call ⟨.value (.func 10),#[(.const (.int .i64 30))],#[3]⟩,25,none⟩,
 ⟨some 13,.move (.tmp 14),25,none⟩,
 ⟨some 15,.extract (.tmp 13) 0,23,none⟩,
 ⟨some 16,.extract (.tmp 13) 1,24,none⟩,
 ⟨some 1,.assign (.tmp 15),23,none⟩,
 ⟨some 2,.assign (.tmp 16),24,none⟩] [2]) (sg c14S8)))
attribute [go_sem] c14 c14S0 c14S1 c14S2 c14S3 c14S4 c14S5 c14S6 c14S7 c14S8
theorem ent14(w:World)(K:Value→World→Prop)(h:W Tryz.prog c14 [] w (finQ Tryz.prog [.tmp 0] K)):Ret Tryz.prog 14 [] w K :=
 Ret_of_W (code:=c14code) Tryz.func14 (by kernel_rfl) (by kernel_rfl) (of_decide_eq_true (by kernel_rfl)) h
@[go_sem] theorem go14:goFunc Tryz.prog 14=true:=by kernel_rfl
def c19code:Code:=match Tryz.f19.body with | some c=>c | none=>.skip
def c19S0(_:Unit):Cmd:=(.seq (.ops [
 ⟨some 11,.move (.tmp 7),30,none⟩,
 ⟨some 12,.binOp .neq 30 (.tmp 11) (.const (.int .i64 0)) 30,4,none⟩] [0,1,2,7,12])
 (.cond (.tmp 12)
 (.seq (.ops [
 ⟨some 13,.move (.tmp 7),30,none⟩,
 ⟨some 6,.assign (.tmp 13),30,none⟩] [6])
 .ret)
 (.skip [0,1,2])))
def c19S1(_:Unit):Cmd:=.ret
def c19S2(_:Unit):Cmd:=(.seq (.ops [
 ⟨some 14,.move (.tmp 0),24,none⟩,
 ⟨some 15,.move (.tmp 1),3,none⟩,
 ⟨some 16,.move (.tmp 2),9,none⟩,
 ⟨some 17,.call ⟨.value (.func 70),#[(.tmp 14),(.tmp 15),(.tmp 16)],#[24,3,9]⟩,30,none⟩,
 ⟨some 6,.assign (.tmp 17),30,none⟩] [6]) (sg c19S1))
def c19:Cmd:=(.seq (.ops [
 ⟨some 6,.assign (.const (.int .i64 0)),30,none⟩] [0,1,2])
 (.seq (.seq (.ops [
 ⟨some 8,.move (.tmp 0),24,none⟩,
 ⟨some 9,.move (.tmp 1),3,none⟩,
 ⟨some 10,.call ⟨.value (.func 69),#[(.tmp 8),(.tmp 9)],#[24,3]⟩,30,none⟩,
 ⟨some 7,.assign (.tmp 10),30,none⟩] [0,1,2,7]) (sg c19S0)) (sg c19S2)))
attribute [go_sem] c19 c19S0 c19S1 c19S2
theorem ent19(a0 a1 a2:Value)(w:World)(K:Value→World→Prop)(h:W Tryz.prog c19 [(0,a0),(1,a1),(2,a2)] w (finQ Tryz.prog [.tmp 6] K)):Ret Tryz.prog 19 [a0,a1,a2] w K :=
 Ret_of_W (code:=c19code) Tryz.func19 (by kernel_rfl) (by kernel_rfl) (of_decide_eq_true (by kernel_rfl)) h
@[go_sem] theorem go19:goFunc Tryz.prog 19=true:=by kernel_rfl
def c30code:Code:=match Tryz.f30.body with | some c=>c | none=>.skip
def c30S0(_:Unit):Cmd:=(.seq (.ops [
 ⟨some 73,.move (.tmp 11),30,none⟩,
 ⟨some 74,.binOp .eql 30 (.tmp 73) (.const (.int .i64 0)) 30,4,none⟩,
 ⟨some 75,.move (.tmp 74),4,none⟩,
 ⟨some 76,.move (.tmp 10),3,(some (75,true))⟩,
 ⟨some 77,.binOp .gtr 3 (.tmp 76) (.const (.int .i64 0)) 3,4,(some (75,true))⟩,
 ⟨some 78,.pick (.tmp 75) (.tmp 77) (.const (.bool false)),4,none⟩,
 ⟨some 79,.move (.tmp 78),4,none⟩,
 ⟨some 80,.move (.tmp 13),4,(some (79,true))⟩,
 ⟨some 81,.unOp .not 4 (.tmp 80),4,(some (79,true))⟩,
 ⟨some 82,.pick (.tmp 79) (.tmp 81) (.const (.bool false)),4,none⟩,
 ⟨some 8,.assign (.tmp 82),4,none⟩] [8])
 .ret)
def c30S1(_:Unit):Cmd:=(.seq (.draw (drawOps 0 c30code) [10,11,13]) (sg c30S0))
def c30S2(_:Unit):Cmd:=(.seq (.ops [
 ⟨some 56,.move (.tmp 2),67,none⟩,
 ⟨some 57,.nilCheck (.tmp 56),0,none⟩,
 ⟨some 58,.load 63 (.tmp 57),63,none⟩,
 ⟨some 59,.move (.tmp 10),3,none⟩,
 ⟨some 60,.call ⟨.value (.func 33),#[(.tmp 58),(.tmp 59)],#[63,3]⟩,72,none⟩,
 ⟨some 55,.move (.tmp 60),72,none⟩,
 ⟨some 61,.extract (.tmp 55) 0,9,none⟩,
 ⟨some 62,.extract (.tmp 55) 1,4,none⟩,
 ⟨some 12,.assign (.tmp 61),9,none⟩,
 ⟨some 13,.assign (.tmp 62),4,none⟩] [2,7,10,11,13]) (sg c30S1))
def c30S3(_:Unit):Cmd:=(.seq (.seq (.ops [
 ⟨some 47,.move (.tmp 11),30,none⟩,
 ⟨some 48,.binOp .eql 30 (.tmp 47) (.const (.int .i64 13)) 30,4,none⟩] [2,7,9,10,11,48])
 (.cond (.tmp 48)
 (.seq (.ops [
 ⟨some 49,.move (.tmp 9),3,none⟩,
 ⟨some 50,.binOp .lss 3 (.tmp 49) (.const (.int .i64 10)) 3,4,none⟩,
 ⟨some 51,.move (.tmp 50),4,none⟩,
 ⟨some 52,.move (.tmp 10),3,(some (51,true))⟩,
 ⟨some 53,.binOp .eql 3 (.tmp 52) (.const (.int .i64 0)) 3,4,(some (51,true))⟩,
 ⟨some 54,.pick (.tmp 51) (.tmp 53) (.const (.bool false)),4,none⟩,
 ⟨some 8,.assign (.tmp 54),4,none⟩] [8])
 .ret)
 (.skip [2,7,10,11]))) (sg c30S2))
def c30S4(_:Unit):Cmd:=(.seq (.seq (.ops [
 ⟨some 31,.fieldAddr 65 (.tmp 7) 1,0,none⟩,
 ⟨some 32,.load 9 (.tmp 31),9,none⟩,
 ⟨some 33,.call ⟨.builtin .len,#[(.tmp 32)],#[9]⟩,3,none⟩,
 ⟨some 34,.binOp .eql 3 (.tmp 33) (.const (.int .i64 0)) 3,4,none⟩,
 ⟨some 35,.move (.tmp 34),4,none⟩,
 ⟨some 36,.fieldAddr 65 (.tmp 7) 1,0,(some (35,false))⟩,
 ⟨some 37,.load 9 (.tmp 36),9,(some (35,false))⟩,
 ⟨some 38,.call ⟨.builtin .len,#[(.tmp 37)],#[9]⟩,3,(some (35,false))⟩,
 ⟨some 39,.binOp .gtr 3 (.tmp 38) (.const (.int .i64 2000)) 3,4,(some (35,false))⟩,
 ⟨some 40,.pick (.tmp 35) (.const (.bool true)) (.tmp 39),4,none⟩] [2,7,9,10,11,40])
 (.cond (.tmp 40)
 (.seq (.ops [
 ⟨some 41,.move (.tmp 11),30,none⟩,
 ⟨some 42,.binOp .eql 30 (.tmp 41) (.const (.int .i64 21)) 30,4,none⟩,
 ⟨some 43,.move (.tmp 42),4,none⟩,
 ⟨some 44,.move (.tmp 10),3,(some (43,true))⟩,
 ⟨some 45,.binOp .eql 3 (.tmp 44) (.const (.int .i64 0)) 3,4,(some (43,true))⟩,
 ⟨some 46,.pick (.tmp 43) (.tmp 45) (.const (.bool false)),4,none⟩,
 ⟨some 8,.assign (.tmp 46),4,none⟩] [8])
 .ret)
 (.skip [2,7,9,10,11]))) (sg c30S3))
def c30S5(_:Unit):Cmd:=(.seq (.ops [
 ⟨some 25,.move (.tmp 0),27,none⟩,
 ⟨some 26,.fieldAddr 65 (.tmp 7) 1,0,none⟩,
 ⟨some 27,.load 9 (.tmp 26),9,none⟩,
 ⟨some 28,.call ⟨.value (.func 13),#[(.tmp 25),(.tmp 27)],#[27,9]⟩,31,none⟩,
 ⟨some 24,.move (.tmp 28),31,none⟩,
 ⟨some 29,.extract (.tmp 24) 0,3,none⟩,
 ⟨some 30,.extract (.tmp 24) 1,30,none⟩,
 ⟨some 10,.assign (.tmp 29),3,none⟩,
 ⟨some 11,.assign (.tmp 30),30,none⟩] [2,7,9,10,11]) (sg c30S4))
def c30S6(_:Unit):Cmd:=(.seq (.ops [
 ⟨some 132,.move (.tmp 16),4,none⟩,
 ⟨some 133,.move (.tmp 132),4,none⟩,
 ⟨some 134,.move (.tmp 17),30,(some (133,true))⟩,
 ⟨some 135,.binOp .eql 30 (.tmp 134) (.const (.int .i64 0)) 30,4,(some (133,true))⟩,
 ⟨some 136,.pick (.tmp 133) (.tmp 135) (.const (.bool false)),4,none⟩,
 ⟨some 137,.move (.tmp 136),4,none⟩,
 ⟨some 138,.move (.tmp 16),4,(some (137,false))⟩,
 ⟨some 139,.unOp .not 4 (.tmp 138),4,(some (137,false))⟩,
 ⟨some 140,.move (.tmp 139),4,(some (137,false))⟩,
 ⟨some 141,.move (.tmp 17),30,(some (140,true))⟩,
 ⟨some 142,.binOp .eql 30 (.tmp 141) (.const (.int .i64 6)) 30,4,(some (140,true))⟩,
 ⟨some 143,.pick (.tmp 140) (.tmp 142) (.const (.bool false)),4,(some (137,false))⟩,
 ⟨some 144,.pick (.tmp 137) (.const (.bool true)) (.tmp 143),4,none⟩,
 ⟨some 8,.assign (.tmp 144),4,none⟩] [8])
 .ret)
def c30S7(_:Unit):Cmd:=(.seq (.ops [
 ⟨some 129,.move (.tmp 0),27,none⟩,
 ⟨some 130,.move (.tmp 14),3,none⟩,
 ⟨some 131,.call ⟨.value (.func 35),#[(.tmp 129),(.tmp 130)],#[27,3]⟩,30,none⟩,
 ⟨some 17,.assign (.tmp 131),30,none⟩] [16,17]) (sg c30S6))
def c30S8(_:Unit):Cmd:=(.seq (.ops [
 ⟨some 122,.move (.tmp 2),67,none⟩,
 ⟨some 123,.move (.tmp 2),67,none⟩,
 ⟨some 124,.nilCheck (.tmp 123),0,none⟩,
 ⟨some 125,.load 63 (.tmp 124),63,none⟩,
 ⟨some 126,.move (.tmp 14),3,none⟩,
 ⟨some 127,.call ⟨.value (.func 85),#[(.tmp 125),(.tmp 126)],#[63,3]⟩,63,none⟩,
 ⟨some 128,.nilCheck (.tmp 122),0,none⟩,
 ⟨none,.store 63 (.tmp 128) (.tmp 127),0,none⟩] [0,14,16]) (sg c30S7))
def c30S9(_:Unit):Cmd:=(.seq (.ops [
 ⟨some 115,.move (.tmp 2),67,none⟩,
 ⟨some 116,.nilCheck (.tmp 115),0,none⟩,
 ⟨some 117,.load 63 (.tmp 116),63,none⟩,
 ⟨some 118,.move (.tmp 14),3,none⟩,
 ⟨some 119,.call ⟨.value (.func 33),#[(.tmp 117),(.tmp 118)],#[63,3]⟩,72,none⟩,
 ⟨some 114,.move (.tmp 119),72,none⟩,
 ⟨some 120,.extract (.tmp 114) 0,9,none⟩,
 ⟨some 121,.extract (.tmp 114) 1,4,none⟩,
 ⟨some 15,.assign (.tmp 120),9,none⟩,
 ⟨some 16,.assign (.tmp 121),4,none⟩] [0,2,14,16]) (sg c30S8))
def c30S10(_:Unit):Cmd:=(.cond (.tmp 83)
 (.seq (.ops [
 ⟨some 86,.fieldAddr 65 (.tmp 7) 2,0,none⟩,
 ⟨some 87,.load 3 (.tmp 86),3,none⟩,
 ⟨some 14,.assign (.tmp 87),3,none⟩] [0,2,7,14])
 (.seq (.seq (.ops [
 ⟨some 88,.fieldAddr 65 (.tmp 7) 0,0,none⟩,
 ⟨some 89,.load 3 (.tmp 88),3,none⟩,
 ⟨some 90,.binOp .eql 3 (.tmp 89) (.const (.int .i64 1)) 3,4,none⟩,
 ⟨some 91,.move (.tmp 90),4,none⟩,
 ⟨some 92,.move (.tmp 2),67,(some (91,true))⟩,
 ⟨some 93,.nilCheck (.tmp 92),0,(some (91,true))⟩,
 ⟨some 94,.load 63 (.tmp 93),63,(some (91,true))⟩,
 ⟨some 95,.call ⟨.builtin .len,#[(.tmp 94)],#[63]⟩,3,(some (91,true))⟩,
 ⟨some 96,.binOp .gtr 3 (.tmp 95) (.const (.int .i64 0)) 3,4,(some (91,true))⟩,
 ⟨some 97,.pick (.tmp 91) (.tmp 96) (.const (.bool false)),4,none⟩] [0,2,7,14,97])
 (.cond (.tmp 97)
 (.draw (drawOps 1 c30code) [0,2,14])
 (.skip [0,2,14]))) (sg c30S9)))
 (.skip [1]))
def c30S11(_:Unit):Cmd:=.ret
def c30S12(_:Unit):Cmd:=(.seq (.ops [
 ⟨some 145,.move (.tmp 1),24,none⟩,
 ⟨some 146,.call ⟨.value (.func 86),#[(.tmp 145)],#[24]⟩,30,none⟩,
 ⟨some 147,.binOp .eql 30 (.tmp 146) (.const (.int .i64 0)) 30,4,none⟩,
 ⟨some 8,.assign (.tmp 147),4,none⟩] [8]) (sg c30S11))
def c30:Cmd:=(.seq (.ops [
 ⟨some 7,.box 65 (.tmp 3),0,none⟩,
 ⟨some 8,.assign (.const (.bool false)),4,none⟩] [0,1,2,7])
 (.seq (.seq (.ops [
 ⟨some 18,.fieldAddr 65 (.tmp 7) 0,0,none⟩,
 ⟨some 19,.load 3 (.tmp 18),3,none⟩] [0,1,2,7,19])
 (.block 0 (.seq (.ops [
 ⟨some 21,.binOp .eql 3 (.tmp 19) (.const (.int .i64 0)) 3,4,none⟩,
 ⟨some 20,.assign (.tmp 21),4,none⟩] [0,1,2,7,19,20])
 (.cond (.tmp 20)
 (.seq (.ops [
 ⟨some 22,.move (.tmp 1),24,none⟩,
 ⟨some 23,.call ⟨.value (.func 12),#[(.tmp 22)],#[24]⟩,3,none⟩,
 ⟨some 9,.assign (.tmp 23),3,none⟩] [0,2,7,9]) (sg c30S5))
 (.seq (.seq (.ops [
 ⟨some 84,.binOp .eql 3 (.tmp 19) (.const (.int .i64 1)) 3,4,none⟩,
 ⟨some 83,.assign (.tmp 84),4,none⟩] [0,1,2,7,19,83])
 (.cond (.tmp 83)
 (.skip [0,1,2,7,83])
 (.ops [
 ⟨some 85,.binOp .eql 3 (.tmp 19) (.const (.int .i64 2)) 3,4,none⟩,
 ⟨some 83,.assign (.tmp 85),4,none⟩] [0,1,2,7,83]))) (sg c30S10)))))) (sg c30S12)))
attribute [go_sem] c30 c30S0 c30S1 c30S2 c30S3 c30S4 c30S6 c30S7 c30S8 c30S11
def c30D0:List (Nat × Ins):=[
 (0,⟨some 63,.move (.tmp 2),67,none⟩),
 (0,⟨some 64,.move (.tmp 2),67,none⟩),
 (0,⟨some 65,.nilCheck (.tmp 64),0,none⟩),
 (0,⟨some 67,.move (.tmp 10),3,none⟩),
 (0,⟨some 68,.fieldAddr 65 (.tmp 7) 1,0,none⟩),
 (1,⟨some 66,.load 63 (.tmp 65),63,none⟩),
 (2,⟨some 69,.load 9 (.tmp 68),9,none⟩),
 (2,⟨some 70,.build 71 #[(0,(.tmp 67)),(1,(.tmp 69))],71,none⟩),
 (3,⟨some 71,.call ⟨.value (.func 84),#[(.tmp 66),(.tmp 70)],#[63,71]⟩,63,none⟩),
 (0,⟨some 72,.nilCheck (.tmp 63),0,none⟩),
 (3,⟨none,.store 63 (.tmp 72) (.tmp 71),0,none⟩)]
theorem c30draw0{L:List Nat}{ρ:Env}{w:World}{Q:Post}(S:World→Prop)(hS:S w.drew)(h:DG Tryz.prog S c30D0 L ρ w.drew Q):drawW Tryz.prog (drawOps 0 c30code) L ρ w Q :=
 drawW_held [3] [(0,0),(0,1),(0,2),(0,4),(0,5),(1,3),(2,6),(2,7),(3,8),(0,9),(3,10)] c30D0 (by kernel_rfl) (by kernel_rfl) (by kernel_rfl) S hS h
def c30D1:List (Bool × Ins):=[
 (true,⟨some 98,.move (.tmp 2),67,none⟩),
 (true,⟨some 99,.nilCheck (.tmp 98),0,none⟩),
 (false,⟨some 100,.load 63 (.tmp 99),63,none⟩),
 (true,⟨some 101,.fieldAddr 65 (.tmp 7) 2,0,none⟩),
 (false,⟨some 102,.load 3 (.tmp 101),3,none⟩),
 (true,⟨some 103,.convert 3 78 (.tmp 102),78,none⟩),
 (true,⟨some 104,.move (.tmp 2),67,none⟩),
 (true,⟨some 105,.nilCheck (.tmp 104),0,none⟩),
 (false,⟨some 106,.load 63 (.tmp 105),63,none⟩),
 (true,⟨some 107,.call ⟨.builtin .len,#[(.tmp 106)],#[63]⟩,3,none⟩),
 (true,⟨some 108,.convert 3 78 (.tmp 107),78,none⟩),
 (true,⟨some 109,.binOp .rem 78 (.tmp 103) (.tmp 108) 78,78,none⟩),
 (true,⟨some 110,.convert 78 3 (.tmp 109),3,none⟩),
 (true,⟨some 111,.indexAddr 63 (.tmp 100) (.tmp 110),0,none⟩),
 (true,⟨some 112,.fieldAddr 71 (.tmp 111) 0,0,none⟩),
 (false,⟨some 113,.load 3 (.tmp 112),3,none⟩),
 (true,⟨some 14,.assign (.tmp 113),3,none⟩)]
theorem c30draw1{L:List Nat}{ρ:Env}{w:World}{Q:Post}(h:DL Tryz.prog c30D1 L ρ w.drew Q):drawW Tryz.prog (drawOps 1 c30code) L ρ w Q :=
 drawW_still [true,true,false,true,false,true,true,true,false,true,true,true,true,true,true,false,true] c30D1 (by kernel_rfl) (by kernel_rfl) (by kernel_rfl) h
theorem ent30(a0 a1 a2 a3:Value)(w:World)(K:Value→World→Prop)(h:W Tryz.prog c30 [(0,a0),(1,a1),(2,a2),(3,a3)] w (finQ Tryz.prog [.tmp 8] K)):Ret Tryz.prog 30 [a0,a1,a2,a3] w K :=
 Ret_of_W (code:=c30code) Tryz.func30 (by kernel_rfl) (by kernel_rfl) (of_decide_eq_true (by kernel_rfl)) h
@[go_sem] theorem go30:goFunc Tryz.prog 30=true:=by kernel_rfl
def c31code:Code:=match Tryz.f31.body with | some c=>c | none=>.skip
def c31S0(_:Unit):Cmd:=(.ops [
 ⟨some 16,.move (.tmp 9),141,none⟩,
 ⟨some 17,.makeFunc (.func 88) #[] #[(.tmp 8),(.tmp 7),(.tmp 4),(.tmp 5)],143,none⟩,
 ⟨some 18,.call ⟨.value (.tmp 16),#[(.tmp 17)],#[143]⟩,0,none⟩] [0,4,5,7,8])
def c31S1(_:Unit):Cmd:=(.seq (.seq (.ops [
 ⟨some 14,.move (.tmp 9),141,none⟩,
 ⟨some 15,.binOp .eql 141 (.tmp 14) (.const .nilFunc) 141,4,none⟩] [0,4,5,7,8,9,15])
 (.cond (.tmp 15)
 (.seq (.ops [
 ⟨some 6,.assign (.const (.bool false)),4,none⟩] [6])
 .ret)
 (.skip [0,4,5,7,8,9]))) (sg c31S0))
def c31S2(_:Unit):Cmd:=.ret
def c31S3(_:Unit):Cmd:=(.seq (.draw (drawOps 0 c31code) [6]) (sg c31S2))
def c31:Cmd:=(.seq (.ops [
 ⟨some 4,.box 63 (.tmp 1),0,none⟩,
 ⟨some 5,.box 3 (.tmp 2),0,none⟩,
 ⟨some 6,.assign (.const (.bool false)),4,none⟩] [0,4,5])
 (.seq (.ops [
 ⟨some 7,.alloc 3,0,none⟩,
 ⟨none,.store 3 (.tmp 7) (.const (.int .i64 0)),0,none⟩] [0,4,5,7])
 (.seq (.ops [
 ⟨some 8,.alloc 4,0,none⟩,
 ⟨none,.store 4 (.tmp 8) (.const (.bool true)),0,none⟩] [0,4,5,7,8])
 (.seq (.seq (.ops [
 ⟨some 10,.load 3 (.tmp 5),3,none⟩,
 ⟨some 11,.binOp .gtr 3 (.tmp 10) (.const (.int .i64 0)) 3,4,none⟩] [0,4,5,7,8,11])
 (.cond (.tmp 11)
 (.seq (.ops [
 ⟨some 12,.move (.tmp 0),27,none⟩,
 ⟨some 13,.call ⟨.value (.func 87),#[(.tmp 12)],#[27]⟩,141,none⟩,
 ⟨some 9,.assign (.tmp 13),141,none⟩] [0,4,5,7,8,9]) (sg c31S1))
 (.skip [0,4,5,7,8]))) (sg c31S3)))))
attribute [go_sem] c31 c31S2
def c31D0:List (Nat × Ins):=[
 (2,⟨some 19,.load 4 (.tmp 8),4,none⟩),
 (0,⟨some 20,.move (.tmp 19),4,none⟩),
 (1,⟨some 21,.load 3 (.tmp 7),3,(some (20,true))⟩),
 (1,⟨some 22,.load 63 (.tmp 4),63,(some (20,true))⟩),
 (0,⟨some 23,.call ⟨.builtin .len,#[(.tmp 22)],#[63]⟩,3,(some (20,true))⟩),
 (2,⟨some 24,.load 3 (.tmp 5),3,(some (20,true))⟩),
 (0,⟨some 25,.call ⟨.builtin .max,#[(.const (.int .i64 0)),(.tmp 24)],#[3,3]⟩,3,(some (20,true))⟩),
 (0,⟨some 26,.call ⟨.builtin .min,#[(.tmp 23),(.tmp 25)],#[3,3]⟩,3,(some (20,true))⟩),
 (0,⟨some 27,.binOp .eql 3 (.tmp 21) (.tmp 26) 3,4,(some (20,true))⟩),
 (0,⟨some 28,.pick (.tmp 20) (.tmp 27) (.const (.bool false)),4,none⟩),
 (0,⟨some 29,.move (.tmp 28),4,none⟩),
 (0,⟨some 30,.move (.tmp 0),27,(some (29,true))⟩),
 (1,⟨some 32,.load 63 (.tmp 4),63,(some (29,true))⟩),
 (0,⟨some 33,.call ⟨.builtin .len,#[(.tmp 32)],#[63]⟩,3,(some (29,true))⟩),
 (2,⟨some 31,.call ⟨.value (.func 37),#[(.tmp 30)],#[27]⟩,3,(some (29,true))⟩),
 (0,⟨some 34,.binOp .eql 3 (.tmp 31) (.tmp 33) 3,4,(some (29,true))⟩),
 (0,⟨some 35,.pick (.tmp 29) (.tmp 34) (.const (.bool false)),4,none⟩),
 (0,⟨some 6,.assign (.tmp 35),4,none⟩)]
theorem c31draw0{L:List Nat}{ρ:Env}{w:World}{Q:Post}(S:World→Prop)(hS:S w.drew)(h:DG Tryz.prog S c31D0 L ρ w.drew Q):drawW Tryz.prog (drawOps 0 c31code) L ρ w Q :=
 drawW_held [2,3,13] [(2,0),(0,1),(1,2),(1,3),(0,4),(2,5),(0,6),(0,7),(0,8),(0,9),(0,10),(0,11),(1,13),(0,14),(2,12),(0,15),(0,16),(0,17)] c31D0 (by kernel_rfl) (by kernel_rfl) (by kernel_rfl) S hS h
theorem ent31(a0 a1 a2:Value)(w:World)(K:Value→World→Prop)(h:W Tryz.prog c31 [(0,a0),(1,a1),(2,a2)] w (finQ Tryz.prog [.tmp 6] K)):Ret Tryz.prog 31 [a0,a1,a2] w K :=
 Ret_of_W (code:=c31code) Tryz.func31 (by kernel_rfl) (by kernel_rfl) (of_decide_eq_true (by kernel_rfl)) h
@[go_sem] theorem go31:goFunc Tryz.prog 31=true:=by kernel_rfl
def c32code:Code:=match Tryz.f32.body with | some c=>c | none=>.skip
def c32S0(_:Unit):Cmd:=.ret
def c32S1(_:Unit):Cmd:=(.seq (.ops [
 ⟨some 31,.move (.tmp 9),9,none⟩,
 ⟨some 32,.slice 9 (.tmp 31) (some (.const (.int .i64 1))) none none,9,none⟩,
 ⟨some 4,.assign (.tmp 32),9,none⟩,
 ⟨some 5,.assign (.const (.int .i64 0)),30,none⟩] [4,5])
 .ret)
def c32S2(_:Unit):Cmd:=(.seq (.seq (.ops [
 ⟨some 23,.move (.tmp 9),9,none⟩,
 ⟨some 24,.index 9 (.tmp 23) (.const (.int .i64 0)),5,none⟩,
 ⟨some 25,.binOp .eql 5 (.tmp 24) (.const (.int .u8 108)) 5,4,none⟩] [0,9,25])
 (.cond (.tmp 25)
 (.seq (.ops [
 ⟨some 26,.move (.tmp 0),27,none⟩,
 ⟨some 27,.move (.tmp 9),9,none⟩,
 ⟨some 28,.call ⟨.value (.func 90),#[(.tmp 26),(.tmp 27)],#[27,9]⟩,50,none⟩,
 ⟨some 29,.extract (.tmp 28) 0,9,none⟩,
 ⟨some 30,.extract (.tmp 28) 1,30,none⟩,
 ⟨some 4,.assign (.tmp 29),9,none⟩,
 ⟨some 5,.assign (.tmp 30),30,none⟩] [4,5]) (sg c32S0))
 (.skip [9]))) (sg c32S1))
def c32S3(_:Unit):Cmd:=(.seq (.seq (.ops [
 ⟨some 20,.move (.tmp 10),30,none⟩,
 ⟨some 21,.binOp .neq 30 (.tmp 20) (.const (.int .i64 0)) 30,4,none⟩] [0,9,10,21])
 (.cond (.tmp 21)
 (.seq (.ops [
 ⟨some 22,.move (.tmp 10),30,none⟩,
 ⟨some 4,.assign (.const (.string (ofL []))),9,none⟩,
 ⟨some 5,.assign (.tmp 22),30,none⟩] [4,5])
 .ret)
 (.skip [0,9]))) (sg c32S2))
def c32:Cmd:=(.seq (.ops [
 ⟨some 4,.assign (.const (.string (ofL []))),9,none⟩,
 ⟨some 5,.assign (.const (.int .i64 0)),30,none⟩] [0,1])
 (.seq (.ops [
 ⟨some 12,.move (.tmp 0),27,none⟩,
 ⟨some 13,.move (.tmp 1),3,none⟩,
 ⟨some 14,.call ⟨.value (.func 89),#[(.tmp 12),(.tmp 13)],#[27,3]⟩,144,none⟩,
 ⟨some 11,.move (.tmp 14),144,none⟩,
 ⟨some 15,.extract (.tmp 11) 0,3,none⟩,
 ⟨some 16,.extract (.tmp 11) 1,3,none⟩,
 ⟨some 17,.extract (.tmp 11) 2,9,none⟩,
 ⟨some 18,.extract (.tmp 11) 3,9,none⟩,
 ⟨some 19,.extract (.tmp 11) 4,30,none⟩,
 ⟨some 6,.assign (.tmp 15),3,none⟩,
 ⟨some 7,.assign (.tmp 16),3,none⟩,
 ⟨some 8,.assign (.tmp 17),9,none⟩,
 ⟨some 9,.assign (.tmp 18),9,none⟩,
 ⟨some 10,.assign (.tmp 19),30,none⟩] [0,9,10]) (sg c32S3)))
attribute [go_sem] c32 c32S0 c32S1 c32S2 c32S3
theorem ent32(a0 a1:Value)(w:World)(K:Value→World→Prop)(h:W Tryz.prog c32 [(0,a0),(1,a1)] w (finQ Tryz.prog [.tmp 4,.tmp 5] K)):Ret Tryz.prog 32 [a0,a1] w K :=
 Ret_of_W (code:=c32code) Tryz.func32 (by kernel_rfl) (by kernel_rfl) (of_decide_eq_true (by kernel_rfl)) h
@[go_sem] theorem go32:goFunc Tryz.prog 32=true:=by kernel_rfl
def c33code:Code:=match Tryz.f33.body with | some c=>c | none=>.skip
def c33S0(_:Unit):Cmd:=(.ops [
 ⟨some 11,.move (.tmp 6),3,none⟩,
 ⟨some 12,.binOp .add 3 (.tmp 11) (.const (.int .i64 1)) 3,3,none⟩,
 ⟨some 6,.assign (.tmp 12),3,none⟩] [0,1,6])
def c33S1(_:Unit):Cmd:=(.seq (.block 1 (.seq (.ops [
 ⟨some 13,.move (.tmp 0),63,none⟩,
 ⟨some 14,.move (.tmp 6),3,none⟩,
 ⟨some 15,.indexAddr 63 (.tmp 13) (.tmp 14),0,none⟩,
 ⟨some 16,.fieldAddr 71 (.tmp 15) 0,0,none⟩,
 ⟨some 17,.load 3 (.tmp 16),3,none⟩,
 ⟨some 18,.move (.tmp 1),3,none⟩,
 ⟨some 19,.binOp .eql 3 (.tmp 17) (.tmp 18) 3,4,none⟩] [0,1,6,19])
 (.cond (.tmp 19)
 (.seq (.ops [
 ⟨some 20,.move (.tmp 0),63,none⟩,
 ⟨some 21,.move (.tmp 6),3,none⟩,
 ⟨some 22,.indexAddr 63 (.tmp 20) (.tmp 21),0,none⟩,
 ⟨some 23,.fieldAddr 71 (.tmp 22) 1,0,none⟩,
 ⟨some 24,.load 9 (.tmp 23),9,none⟩,
 ⟨some 4,.assign (.tmp 24),9,none⟩,
 ⟨some 5,.assign (.const (.bool true)),4,none⟩] [4,5])
 .ret)
 (.skip [0,1,6])))) (sg c33S0))
def c33L0(_:Unit):Cmd:=(.seq (.seq (.ops [
 ⟨some 7,.move (.tmp 6),3,none⟩,
 ⟨some 8,.move (.tmp 0),63,none⟩,
 ⟨some 9,.call ⟨.builtin .len,#[(.tmp 8)],#[63]⟩,3,none⟩,
 ⟨some 10,.binOp .lss 3 (.tmp 7) (.tmp 9) 3,4,none⟩] [0,1,6,10])
 (.cond (.tmp 10)
 (.skip [0,1,6])
 (.exit 0 []))) (sg c33S1))
def c33S2(_:Unit):Cmd:=(.seq (.ops [
 ⟨some 4,.assign (.const (.string (ofL []))),9,none⟩,
 ⟨some 5,.assign (.const (.bool false)),4,none⟩] [4,5])
 .ret)
def c33:Cmd:=(.seq (.ops [
 ⟨some 4,.assign (.const (.string (ofL []))),9,none⟩,
 ⟨some 5,.assign (.const (.bool false)),4,none⟩] [0,1])
 (.seq (.seq (.ops [
 ⟨some 6,.assign (.const (.int .i64 0)),3,none⟩] [0,1,6])
 (.block 0 (.loop (sg c33L0)))) (sg c33S2)))
attribute [go_sem] c33 c33S0 c33S1 c33S2
theorem ent33(a0 a1:Value)(w:World)(K:Value→World→Prop)(h:W Tryz.prog c33 [(0,a0),(1,a1)] w (finQ Tryz.prog [.tmp 4,.tmp 5] K)):Ret Tryz.prog 33 [a0,a1] w K :=
 Ret_of_W (code:=c33code) Tryz.func33 (by kernel_rfl) (by kernel_rfl) (of_decide_eq_true (by kernel_rfl)) h
@[go_sem] theorem go33:goFunc Tryz.prog 33=true:=by kernel_rfl
@[go_sem] theorem go34:goFunc Tryz.prog 34=true:=by kernel_rfl
def c35code:Code:=match Tryz.f35.body with | some c=>c | none=>.skip
def c35S0(_:Unit):Cmd:=(.seq (.ops [
 ⟨some 26,.move (.tmp 10),30,none⟩,
 ⟨some 27,.binOp .neq 30 (.tmp 26) (.const (.int .i64 0)) 30,4,none⟩] [0,1,5,6,7,10,27])
 (.cond (.tmp 27)
 (.seq (.ops [
 ⟨some 28,.move (.tmp 10),30,none⟩,
 ⟨some 4,.assign (.tmp 28),30,none⟩] [4])
 .ret)
 (.skip [0,1,5,6,7])))
def c35S1(_:Unit):Cmd:=.ret
def c35S2(_:Unit):Cmd:=(.cond (.tmp 38)
 (.seq (.ops [
 ⟨some 39,.move (.tmp 0),27,none⟩,
 ⟨some 40,.move (.tmp 5),3,none⟩,
 ⟨some 41,.move (.tmp 6),3,none⟩,
 ⟨some 42,.move (.tmp 7),9,none⟩,
 ⟨some 43,.call ⟨.value (.func 60),#[(.tmp 39),(.tmp 40),(.tmp 41),(.tmp 42)],#[27,3,3,9]⟩,30,none⟩,
 ⟨some 4,.assign (.tmp 43),30,none⟩] [4]) (sg c35S1))
 (.skip [0,5,6]))
def c35S3(_:Unit):Cmd:=.ret
def c35S4(_:Unit):Cmd:=(.seq (.ops [
 ⟨some 44,.move (.tmp 0),27,none⟩,
 ⟨some 45,.move (.tmp 5),3,none⟩,
 ⟨some 46,.move (.tmp 6),3,none⟩,
 ⟨some 47,.call ⟨.value (.func 95),#[(.tmp 44),(.tmp 45),(.tmp 46)],#[27,3,3]⟩,30,none⟩,
 ⟨some 4,.assign (.tmp 47),30,none⟩] [4]) (sg c35S3))
def c35S5(_:Unit):Cmd:=(.seq (.seq (.ops [
 ⟨some 36,.move (.tmp 7),9,none⟩,
 ⟨some 37,.call ⟨.value (.func 94),#[(.tmp 36)],#[9]⟩,3,none⟩,
 ⟨some 38,.binOp .gtr 3 (.tmp 37) (.const (.int .i64 0)) 3,4,none⟩] [0,5,6,7,38]) (sg c35S2)) (sg c35S4))
def c35S6(_:Unit):Cmd:=(.seq (.ops [
 ⟨some 30,.move (.tmp 7),9,none⟩,
 ⟨some 31,.move (.tmp 1),3,none⟩,
 ⟨some 32,.binOp .rem 3 (.tmp 31) (.const (.int .i64 256)) 3,3,none⟩,
 ⟨some 33,.call ⟨.value (.func 93),#[(.tmp 30),(.tmp 32)],#[9,3]⟩,72,none⟩,
 ⟨some 29,.move (.tmp 33),72,none⟩,
 ⟨some 34,.extract (.tmp 29) 0,9,none⟩,
 ⟨some 35,.extract (.tmp 29) 1,4,none⟩,
 ⟨some 7,.assign (.tmp 34),9,none⟩] [0,5,6,7]) (sg c35S5))
def c35S7(_:Unit):Cmd:=(.seq (.seq (.ops [
 ⟨some 23,.move (.tmp 0),27,none⟩,
 ⟨some 24,.move (.tmp 8),9,none⟩,
 ⟨some 25,.call ⟨.value (.func 92),#[(.tmp 23),(.tmp 24)],#[27,9]⟩,30,none⟩,
 ⟨some 10,.assign (.tmp 25),30,none⟩] [0,1,5,6,7,10]) (sg c35S0)) (sg c35S6))
def c35S8(_:Unit):Cmd:=(.seq (.seq (.ops [
 ⟨some 20,.move (.tmp 9),30,none⟩,
 ⟨some 21,.binOp .neq 30 (.tmp 20) (.const (.int .i64 0)) 30,4,none⟩] [0,1,5,6,7,8,9,21])
 (.cond (.tmp 21)
 (.seq (.ops [
 ⟨some 22,.move (.tmp 9),30,none⟩,
 ⟨some 4,.assign (.tmp 22),30,none⟩] [4])
 .ret)
 (.skip [0,1,5,6,7,8]))) (sg c35S7))
def c35:Cmd:=(.seq (.ops [
 ⟨some 4,.assign (.const (.int .i64 0)),30,none⟩] [0,1])
 (.seq (.ops [
 ⟨some 12,.move (.tmp 0),27,none⟩,
 ⟨some 13,.move (.tmp 1),3,none⟩,
 ⟨some 14,.call ⟨.value (.func 89),#[(.tmp 12),(.tmp 13)],#[27,3]⟩,144,none⟩,
 ⟨some 11,.move (.tmp 14),144,none⟩,
 ⟨some 15,.extract (.tmp 11) 0,3,none⟩,
 ⟨some 16,.extract (.tmp 11) 1,3,none⟩,
 ⟨some 17,.extract (.tmp 11) 2,9,none⟩,
 ⟨some 18,.extract (.tmp 11) 3,9,none⟩,
 ⟨some 19,.extract (.tmp 11) 4,30,none⟩,
 ⟨some 5,.assign (.tmp 15),3,none⟩,
 ⟨some 6,.assign (.tmp 16),3,none⟩,
 ⟨some 7,.assign (.tmp 17),9,none⟩,
 ⟨some 8,.assign (.tmp 18),9,none⟩,
 ⟨some 9,.assign (.tmp 19),30,none⟩] [0,1,5,6,7,8,9]) (sg c35S8)))
attribute [go_sem] c35 c35S0 c35S1 c35S2 c35S3 c35S4 c35S5 c35S7 c35S8
theorem ent35(a0 a1:Value)(w:World)(K:Value→World→Prop)(h:W Tryz.prog c35 [(0,a0),(1,a1)] w (finQ Tryz.prog [.tmp 4] K)):Ret Tryz.prog 35 [a0,a1] w K :=
 Ret_of_W (code:=c35code) Tryz.func35 (by kernel_rfl) (by kernel_rfl) (of_decide_eq_true (by kernel_rfl)) h
@[go_sem] theorem go35:goFunc Tryz.prog 35=true:=by kernel_rfl
def c36code:Code:=match Tryz.f36.body with | some c=>c | none=>.skip
def c36S0(_:Unit):Cmd:=(.cond (.tmp 10)
 (.seq (.ops [
 ⟨some 4,.assign (.const (.int .i64 0)),3,none⟩,
 ⟨some 5,.assign (.const (.int .i64 3)),30,none⟩] [4,5])
 .ret)
 (.skip [0,1]))
def c36S1(_:Unit):Cmd:=.ret
def c36S2(_:Unit):Cmd:=(.seq (.ops [
 ⟨some 25,.move (.tmp 6),9,none⟩,
 ⟨some 26,.move (.tmp 1),3,none⟩,
 ⟨some 27,.binOp .mul 3 (.const (.int .i64 4)) (.tmp 26) 3,3,none⟩,
 ⟨some 28,.move (.tmp 1),3,none⟩,
 ⟨some 29,.binOp .mul 3 (.const (.int .i64 4)) (.tmp 28) 3,3,none⟩,
 ⟨some 30,.binOp .add 3 (.tmp 29) (.const (.int .i64 4)) 3,3,none⟩,
 ⟨some 31,.slice 9 (.tmp 25) (some (.tmp 27)) (some (.tmp 30)) none,9,none⟩,
 ⟨some 32,.call ⟨.value (.func 98),#[(.tmp 31)],#[9]⟩,147,none⟩,
 ⟨some 33,.convert 147 3 (.tmp 32),3,none⟩,
 ⟨some 4,.assign (.tmp 33),3,none⟩,
 ⟨some 5,.assign (.const (.int .i64 0)),30,none⟩] [4,5]) (sg c36S1))
def c36S3(_:Unit):Cmd:=(.seq (.seq (.ops [
 ⟨some 22,.move (.tmp 7),30,none⟩,
 ⟨some 23,.binOp .neq 30 (.tmp 22) (.const (.int .i64 0)) 30,4,none⟩] [1,6,7,23])
 (.cond (.tmp 23)
 (.seq (.ops [
 ⟨some 24,.move (.tmp 7),30,none⟩,
 ⟨some 4,.assign (.const (.int .i64 0)),3,none⟩,
 ⟨some 5,.assign (.tmp 24),30,none⟩] [4,5])
 .ret)
 (.skip [1,6]))) (sg c36S2))
def c36S4(_:Unit):Cmd:=(.seq (.ops [
 ⟨some 18,.move (.tmp 0),24,none⟩,
 ⟨some 19,.call ⟨.value (.func 97),#[(.tmp 18),(.const (.int .i64 1))],#[24,3]⟩,50,none⟩,
 ⟨some 17,.move (.tmp 19),50,none⟩,
 ⟨some 20,.extract (.tmp 17) 0,9,none⟩,
 ⟨some 21,.extract (.tmp 17) 1,30,none⟩,
 ⟨some 6,.assign (.tmp 20),9,none⟩,
 ⟨some 7,.assign (.tmp 21),30,none⟩] [1,6,7]) (sg c36S3))
def c36S5(_:Unit):Cmd:=(.seq (.seq (.ops [
 ⟨some 11,.move (.tmp 1),3,none⟩,
 ⟨some 12,.binOp .lss 3 (.tmp 11) (.const (.int .i64 0)) 3,4,none⟩,
 ⟨some 13,.move (.tmp 12),4,none⟩,
 ⟨some 14,.move (.tmp 1),3,(some (13,false))⟩,
 ⟨some 15,.binOp .geq 3 (.tmp 14) (.const (.int .i64 16)) 3,4,(some (13,false))⟩,
 ⟨some 16,.pick (.tmp 13) (.const (.bool true)) (.tmp 15),4,none⟩] [0,1,16])
 (.cond (.tmp 16)
 (.seq (.ops [
 ⟨some 4,.assign (.const (.int .i64 0)),3,none⟩,
 ⟨some 5,.assign (.const (.int .i64 1)),30,none⟩] [4,5])
 .ret)
 (.skip [0,1]))) (sg c36S4))
def c36:Cmd:=(.seq (.ops [
 ⟨some 4,.assign (.const (.int .i64 0)),3,none⟩,
 ⟨some 5,.assign (.const (.int .i64 0)),30,none⟩] [0,1])
 (.seq (.seq (.ops [
 ⟨some 8,.move (.tmp 0),24,none⟩,
 ⟨some 9,.call ⟨.value (.func 96),#[(.tmp 8)],#[24]⟩,4,none⟩,
 ⟨some 10,.unOp .not 4 (.tmp 9),4,none⟩] [0,1,10]) (sg c36S0)) (sg c36S5)))
attribute [go_sem] c36 c36S0 c36S1 c36S2 c36S3 c36S4 c36S5
theorem ent36(a0 a1:Value)(w:World)(K:Value→World→Prop)(h:W Tryz.prog c36 [(0,a0),(1,a1)] w (finQ Tryz.prog [.tmp 4,.tmp 5] K)):Ret Tryz.prog 36 [a0,a1] w K :=
 Ret_of_W (code:=c36code) Tryz.func36 (by kernel_rfl) (by kernel_rfl) (of_decide_eq_true (by kernel_rfl)) h
@[go_sem] theorem go36:goFunc Tryz.prog 36=true:=by kernel_rfl
def c37code:Code:=match Tryz.f37.body with | some c=>c | none=>.skip
def c37S0(_:Unit):Cmd:=.ret
def c37:Cmd:=(.seq (.ops [
 ⟨some 2,.assign (.const (.int .i64 0)),3,none⟩] [0])
 (.seq (.ops [
 ⟨some 3,.move (.tmp 0),27,none⟩,
 ⟨some 4,.call ⟨.value (.func 91),#[(.tmp 3)],#[27]⟩,48,none⟩,
 ⟨some 5,.call ⟨.builtin .len,#[(.tmp 4)],#[48]⟩,3,none⟩,
 ⟨some 2,.assign (.tmp 5),3,none⟩] [2]) (sg c37S0)))
attribute [go_sem] c37 c37S0
theorem ent37(a0:Value)(w:World)(K:Value→World→Prop)(h:W Tryz.prog c37 [(0,a0)] w (finQ Tryz.prog [.tmp 2] K)):Ret Tryz.prog 37 [a0] w K :=
 Ret_of_W (code:=c37code) Tryz.func37 (by kernel_rfl) (by kernel_rfl) (of_decide_eq_true (by kernel_rfl)) h
@[go_sem] theorem go37:goFunc Tryz.prog 37=true:=by kernel_rfl
def c39code:Code:=match Tryz.f39.body with | some c=>c | none=>.skip
def c39S0(_:Unit):Cmd:=(.seq (.ops [
 ⟨some 10,.move (.tmp 6),30,none⟩,
 ⟨some 11,.binOp .neq 30 (.tmp 10) (.const (.int .i64 0)) 30,4,none⟩] [0,1,6,11])
 (.cond (.tmp 11)
 (.seq (.ops [
 ⟨some 12,.move (.tmp 6),30,none⟩,
 ⟨some 4,.assign (.const (.string (ofL []))),9,none⟩,
 ⟨some 5,.assign (.tmp 12),30,none⟩] [4,5])
 .ret)
 (.skip [0,1])))
def c39S1(_:Unit):Cmd:=.ret
def c39S2(_:Unit):Cmd:=(.seq (.ops [
 ⟨some 13,.move (.tmp 0),24,none⟩,
 ⟨some 14,.move (.tmp 1),3,none⟩,
 ⟨some 15,.call ⟨.value (.func 97),#[(.tmp 13),(.tmp 14)],#[24,3]⟩,50,none⟩,
 ⟨some 16,.extract (.tmp 15) 0,9,none⟩,
 ⟨some 17,.extract (.tmp 15) 1,30,none⟩,
 ⟨some 4,.assign (.tmp 16),9,none⟩,
 ⟨some 5,.assign (.tmp 17),30,none⟩] [4,5]) (sg c39S1))
def c39:Cmd:=(.seq (.ops [
 ⟨some 4,.assign (.const (.string (ofL []))),9,none⟩,
 ⟨some 5,.assign (.const (.int .i64 0)),30,none⟩] [0,1])
 (.seq (.seq (.ops [
 ⟨some 7,.move (.tmp 0),24,none⟩,
 ⟨some 8,.move (.tmp 1),3,none⟩,
 ⟨some 9,.call ⟨.value (.func 69),#[(.tmp 7),(.tmp 8)],#[24,3]⟩,30,none⟩,
 ⟨some 6,.assign (.tmp 9),30,none⟩] [0,1,6]) (sg c39S0)) (sg c39S2)))
attribute [go_sem] c39 c39S0 c39S1 c39S2
theorem ent39(a0 a1:Value)(w:World)(K:Value→World→Prop)(h:W Tryz.prog c39 [(0,a0),(1,a1)] w (finQ Tryz.prog [.tmp 4,.tmp 5] K)):Ret Tryz.prog 39 [a0,a1] w K :=
 Ret_of_W (code:=c39code) Tryz.func39 (by kernel_rfl) (by kernel_rfl) (of_decide_eq_true (by kernel_rfl)) h
@[go_sem] theorem go39:goFunc Tryz.prog 39=true:=by kernel_rfl
def c40code:Code:=match Tryz.f40.body with | some c=>c | none=>.skip
def c40S0(_:Unit):Cmd:=(.ops [
 ⟨some 30,.binOp .add 3 (.tmp 15) (.const (.int .i64 1)) 3,3,none⟩,
 ⟨some 15,.move (.tmp 30),3,none⟩] [4,14,15])
def c40S1(_:Unit):Cmd:=(.seq (.block 1 (.draw (drawOps 0 c40code) [4,14,15])) (sg c40S0))
def c40L0(_:Unit):Cmd:=(.seq (.ops [
 ⟨some 16,.binOp .lss 3 (.tmp 15) (.tmp 14) 3,4,none⟩] [4,14,15,16])
 (.seq (.cond (.tmp 16)
 (.skip [4,14,15])
 (.exit 0 [4])) (sg c40S1)))
def c40S2(_:Unit):Cmd:=(.seq (.ops [
 ⟨some 31,.move (.tmp 4),23,none⟩,
 ⟨some 2,.assign (.tmp 31),23,none⟩,
 ⟨some 3,.assign (.const (.int .i64 0)),30,none⟩] [2,3])
 .ret)
def c40S3(_:Unit):Cmd:=(.seq (.seq (.ops [
 ⟨some 14,.move (.tmp 0),3,none⟩,
 ⟨some 15,.move (.const (.int .i64 0)),3,none⟩] [4,14,15])
 (.block 0 (.loop (sg c40L0)))) (sg c40S2))
def c40S4(_:Unit):Cmd:=(.seq (.ops [
 ⟨some 11,.call ⟨.value (.func 104),#[],#[]⟩,9,none⟩,
 ⟨some 12,.build 157 #[(2,(.const (.int .i64 (-1)))),(4,(.tmp 11))],157,none⟩,
 ⟨some 13,.box 157 (.tmp 12),23,none⟩,
 ⟨some 4,.assign (.tmp 13),23,none⟩] [0,4]) (sg c40S3))
def c40:Cmd:=(.seq (.ops [
 ⟨some 2,.assign (.const (.pointer none)),23,none⟩,
 ⟨some 3,.assign (.const (.int .i64 0)),30,none⟩] [0])
 (.seq (.seq (.ops [
 ⟨some 5,.move (.tmp 0),3,none⟩,
 ⟨some 6,.binOp .lss 3 (.tmp 5) (.const (.int .i64 1)) 3,4,none⟩,
 ⟨some 7,.move (.tmp 6),4,none⟩,
 ⟨some 8,.move (.tmp 0),3,(some (7,false))⟩,
 ⟨some 9,.binOp .gtr 3 (.tmp 8) (.const (.int .i64 2048)) 3,4,(some (7,false))⟩,
 ⟨some 10,.pick (.tmp 7) (.const (.bool true)) (.tmp 9),4,none⟩] [0,10])
 (.cond (.tmp 10)
 (.seq (.ops [
 ⟨some 2,.assign (.const (.pointer none)),23,none⟩,
 ⟨some 3,.assign (.const (.int .i64 1)),30,none⟩] [2,3])
 .ret)
 (.skip [0]))) (sg c40S4)))
attribute [go_sem] c40 c40S0 c40S1 c40S2 c40S3 c40S4
def c40D0:List (Nat × Ins):=[
 (0,⟨some 17,.move (.tmp 4),23,none⟩),
 (0,⟨some 18,.move (.tmp 4),23,none⟩),
 (0,⟨some 19,.nilCheck (.tmp 18),0,none⟩),
 (0,⟨some 20,.fieldAddr 157 (.tmp 19) 0,0,none⟩),
 (0,⟨some 22,.move (.tmp 4),23,none⟩),
 (0,⟨some 23,.nilCheck (.tmp 22),0,none⟩),
 (0,⟨some 24,.fieldAddr 157 (.tmp 23) 4,0,none⟩),
 (1,⟨some 21,.load 22 (.tmp 20),22,none⟩),
 (2,⟨some 25,.load 9 (.tmp 24),9,none⟩),
 (2,⟨some 26,.buildSlice 22 1 #[(0,(.tmp 25))],22,none⟩),
 (3,⟨some 27,.call ⟨.builtin .append,#[(.tmp 21),(.tmp 26)],#[22,22]⟩,22,none⟩),
 (0,⟨some 28,.nilCheck (.tmp 17),0,none⟩),
 (0,⟨some 29,.fieldAddr 157 (.tmp 28) 0,0,none⟩),
 (3,⟨none,.store 22 (.tmp 29) (.tmp 27),0,none⟩)]
theorem c40draw0{L:List Nat}{ρ:Env}{w:World}{Q:Post}(S:World→Prop)(hS:S w.drew)(h:DG Tryz.prog S c40D0 L ρ w.drew Q):drawW Tryz.prog (drawOps 0 c40code) L ρ w Q :=
 drawW_held [4] [(0,0),(0,1),(0,2),(0,3),(0,5),(0,6),(0,7),(1,4),(2,8),(2,9),(3,10),(0,11),(0,12),(3,13)] c40D0 (by kernel_rfl) (by kernel_rfl) (by kernel_rfl) S hS h
theorem ent40(a0:Value)(w:World)(K:Value→World→Prop)(h:W Tryz.prog c40 [(0,a0)] w (finQ Tryz.prog [.tmp 2,.tmp 3] K)):Ret Tryz.prog 40 [a0] w K :=
 Ret_of_W (code:=c40code) Tryz.func40 (by kernel_rfl) (by kernel_rfl) (of_decide_eq_true (by kernel_rfl)) h
@[go_sem] theorem go40:goFunc Tryz.prog 40=true:=by kernel_rfl
def c41code:Code:=match Tryz.f41.body with | some c=>c | none=>.skip
def c41S0(_:Unit):Cmd:=(.seq (.ops [
 ⟨some 16,.move (.tmp 7),30,none⟩,
 ⟨some 17,.binOp .neq 30 (.tmp 16) (.const (.int .i64 0)) 30,4,none⟩] [0,1,5,7,17])
 (.cond (.tmp 17)
 (.seq (.ops [
 ⟨some 18,.move (.tmp 7),30,none⟩,
 ⟨some 4,.assign (.tmp 18),30,none⟩] [4])
 .ret)
 (.skip [0,1,5])))
def c41S1(_:Unit):Cmd:=(.seq (.ops [
 ⟨some 35,.move (.tmp 8),30,none⟩,
 ⟨some 36,.binOp .neq 30 (.tmp 35) (.const (.int .i64 0)) 30,4,none⟩] [0,1,5,8,36])
 (.cond (.tmp 36)
 (.seq (.ops [
 ⟨some 37,.move (.tmp 8),30,none⟩,
 ⟨some 4,.assign (.tmp 37),30,none⟩] [4])
 .ret)
 (.skip [0,1,5])))
def c41S2(_:Unit):Cmd:=.ret
def c41S3(_:Unit):Cmd:=(.seq (.ops [
 ⟨some 38,.move (.tmp 0),23,none⟩,
 ⟨some 39,.move (.tmp 1),3,none⟩,
 ⟨some 40,.move (.tmp 5),3,none⟩,
 ⟨some 41,.binOp .sub 3 (.tmp 40) (.const (.int .i64 2)) 3,3,none⟩,
 ⟨some 42,.move (.tmp 1),3,none⟩,
 ⟨some 43,.binOp .sub 3 (.tmp 41) (.tmp 42) 3,3,none⟩,
 ⟨some 44,.call ⟨.builtin .min,#[(.tmp 43),(.const (.int .i64 1024))],#[3,3]⟩,3,none⟩,
 ⟨some 45,.build 160 #[(0,(.const (.int .u64 2))),(2,(.tmp 39)),(3,(.tmp 44))],160,none⟩,
 ⟨some 46,.call ⟨.value (.func 108),#[(.tmp 38),(.tmp 45)],#[23,160]⟩,30,none⟩,
 ⟨some 4,.assign (.tmp 46),30,none⟩] [4]) (sg c41S2))
def c41S4(_:Unit):Cmd:=(.seq (.seq (.ops [
 ⟨some 33,.move (.tmp 0),23,none⟩,
 ⟨some 34,.call ⟨.value (.func 107),#[(.tmp 33),(.const (.int .i64 1)),(.const (.string (ofL [])))],#[23,3,9]⟩,30,none⟩,
 ⟨some 8,.assign (.tmp 34),30,none⟩] [0,1,5,8]) (sg c41S1)) (sg c41S3))
def c41S5(_:Unit):Cmd:=(.seq (.seq (.ops [
 ⟨some 19,.move (.tmp 1),3,none⟩,
 ⟨some 20,.binOp .lss 3 (.tmp 19) (.const (.int .i64 1)) 3,4,none⟩,
 ⟨some 21,.move (.tmp 20),4,none⟩,
 ⟨some 22,.move (.tmp 1),3,(some (21,false))⟩,
 ⟨some 23,.move (.tmp 5),3,(some (21,false))⟩,
 ⟨some 24,.binOp .gtr 3 (.tmp 22) (.tmp 23) 3,4,(some (21,false))⟩,
 ⟨some 25,.pick (.tmp 21) (.const (.bool true)) (.tmp 24),4,none⟩,
 ⟨some 26,.move (.tmp 25),4,none⟩,
 ⟨some 27,.move (.tmp 5),3,(some (26,false))⟩,
 ⟨some 28,.binOp .sub 3 (.tmp 27) (.const (.int .i64 2)) 3,3,(some (26,false))⟩,
 ⟨some 29,.move (.tmp 1),3,(some (26,false))⟩,
 ⟨some 30,.binOp .sub 3 (.tmp 28) (.tmp 29) 3,3,(some (26,false))⟩,
 ⟨some 31,.binOp .lss 3 (.tmp 30) (.const (.int .i64 1)) 3,4,(some (26,false))⟩,
 ⟨some 32,.pick (.tmp 26) (.const (.bool true)) (.tmp 31),4,none⟩] [0,1,5,32])
 (.cond (.tmp 32)
 (.seq (.ops [
 ⟨some 4,.assign (.const (.int .i64 1)),30,none⟩] [4])
 .ret)
 (.skip [0,1,5]))) (sg c41S4))
def c41S6(_:Unit):Cmd:=(.seq (.seq (.ops [
 ⟨some 12,.move (.tmp 0),23,none⟩,
 ⟨some 13,.call ⟨.value (.func 106),#[(.tmp 12),(.const (.int .i64 0))],#[23,3]⟩,50,none⟩,
 ⟨some 11,.move (.tmp 13),50,none⟩,
 ⟨some 14,.extract (.tmp 11) 0,9,none⟩,
 ⟨some 15,.extract (.tmp 11) 1,30,none⟩,
 ⟨some 6,.assign (.tmp 14),9,none⟩,
 ⟨some 7,.assign (.tmp 15),30,none⟩] [0,1,5,7]) (sg c41S0)) (sg c41S5))
def c41:Cmd:=(.seq (.ops [
 ⟨some 4,.assign (.const (.int .i64 0)),30,none⟩] [0,1])
 (.seq (.ops [
 ⟨some 9,.move (.tmp 0),23,none⟩,
 ⟨some 10,.call ⟨.value (.func 105),#[(.tmp 9)],#[23]⟩,3,none⟩,
 ⟨some 5,.assign (.tmp 10),3,none⟩] [0,1,5]) (sg c41S6)))
attribute [go_sem] c41 c41S0 c41S1 c41S2 c41S3 c41S4 c41S5 c41S6
theorem ent41(a0 a1:Value)(w:World)(K:Value→World→Prop)(h:W Tryz.prog c41 [(0,a0),(1,a1)] w (finQ Tryz.prog [.tmp 4] K)):Ret Tryz.prog 41 [a0,a1] w K :=
 Ret_of_W (code:=c41code) Tryz.func41 (by kernel_rfl) (by kernel_rfl) (of_decide_eq_true (by kernel_rfl)) h
@[go_sem] theorem go41:goFunc Tryz.prog 41=true:=by kernel_rfl
def c42code:Code:=match Tryz.f42.body with | some c=>c | none=>.skip
def c42S0(_:Unit):Cmd:=(.ops [
 ⟨some 45,.move (.tmp 7),22,none⟩,
 ⟨some 46,.move (.tmp 9),9,none⟩,
 ⟨some 47,.buildSlice 22 1 #[(0,(.tmp 46))],22,none⟩,
 ⟨some 48,.call ⟨.builtin .append,#[(.tmp 45),(.tmp 47)],#[22,22]⟩,22,none⟩,
 ⟨some 7,.assign (.tmp 48),22,none⟩] [0,6,7,31,32])
def c42S1(_:Unit):Cmd:=(.seq (.seq (.ops [
 ⟨some 42,.move (.tmp 10),30,none⟩,
 ⟨some 43,.binOp .neq 30 (.tmp 42) (.const (.int .i64 0)) 30,4,none⟩] [0,6,7,9,10,31,32,43])
 (.cond (.tmp 43)
 (.seq (.ops [
 ⟨some 44,.move (.tmp 10),30,none⟩,
 ⟨some 2,.assign (.const (.pointer none)),88,none⟩,
 ⟨some 3,.assign (.tmp 44),30,none⟩] [2,3])
 .ret)
 (.skip [0,6,7,9,31,32]))) (sg c42S0))
def c42S2(_:Unit):Cmd:=(.ops [
 ⟨some 49,.binOp .add 3 (.tmp 32) (.const (.int .i64 1)) 3,3,none⟩,
 ⟨some 32,.move (.tmp 49),3,none⟩] [0,6,7,31,32])
def c42S3(_:Unit):Cmd:=(.seq (.block 1 (.seq (.ops [
 ⟨some 34,.move (.tmp 32),3,none⟩,
 ⟨some 8,.assign (.tmp 34),3,none⟩] [0,6,7,8,31,32])
 (.seq (.ops [
 ⟨some 36,.move (.tmp 0),23,none⟩,
 ⟨some 37,.move (.tmp 8),3,none⟩,
 ⟨some 38,.binOp .add 3 (.const (.int .i64 2)) (.tmp 37) 3,3,none⟩,
 ⟨some 39,.call ⟨.value (.func 106),#[(.tmp 36),(.tmp 38)],#[23,3]⟩,50,none⟩,
 ⟨some 35,.move (.tmp 39),50,none⟩,
 ⟨some 40,.extract (.tmp 35) 0,9,none⟩,
 ⟨some 41,.extract (.tmp 35) 1,30,none⟩,
 ⟨some 9,.assign (.tmp 40),9,none⟩,
 ⟨some 10,.assign (.tmp 41),30,none⟩] [0,6,7,9,10,31,32]) (sg c42S1)))) (sg c42S2))
def c42L0(_:Unit):Cmd:=(.seq (.ops [
 ⟨some 33,.binOp .lss 3 (.tmp 32) (.tmp 31) 3,4,none⟩] [0,6,7,31,32,33])
 (.seq (.cond (.tmp 33)
 (.skip [0,6,7,31,32])
 (.exit 0 [6,7])) (sg c42S3)))
def c42S4(_:Unit):Cmd:=(.seq (.ops [
 ⟨some 61,.move (.tmp 13),30,none⟩,
 ⟨some 62,.binOp .neq 30 (.tmp 61) (.const (.int .i64 0)) 30,4,none⟩] [6,13,62])
 (.cond (.tmp 62)
 (.seq (.ops [
 ⟨some 63,.move (.tmp 13),30,none⟩,
 ⟨some 2,.assign (.const (.pointer none)),88,none⟩,
 ⟨some 3,.assign (.tmp 63),30,none⟩] [2,3])
 .ret)
 (.skip [6])))
def c42S5(_:Unit):Cmd:=(.seq (.ops [
 ⟨some 58,.move (.tmp 6),88,none⟩,
 ⟨some 59,.move (.tmp 11),36,none⟩,
 ⟨some 60,.call ⟨.value (.func 111),#[(.tmp 58),(.tmp 59)],#[88,36]⟩,30,none⟩,
 ⟨some 13,.assign (.tmp 60),30,none⟩] [6,13]) (sg c42S4))
def c42S6(_:Unit):Cmd:=(.seq (.seq (.ops [
 ⟨some 55,.move (.tmp 12),30,none⟩,
 ⟨some 56,.binOp .neq 30 (.tmp 55) (.const (.int .i64 0)) 30,4,none⟩] [6,11,12,56])
 (.cond (.tmp 56)
 (.seq (.ops [
 ⟨some 57,.move (.tmp 12),30,none⟩,
 ⟨some 2,.assign (.const (.pointer none)),88,none⟩,
 ⟨some 3,.assign (.tmp 57),30,none⟩] [2,3])
 .ret)
 (.skip [6,11]))) (sg c42S5))
def c42S7(_:Unit):Cmd:=(.seq (.ops [
 ⟨some 51,.move (.tmp 7),22,none⟩,
 ⟨some 52,.call ⟨.value (.func 110),#[(.tmp 51)],#[22]⟩,166,none⟩,
 ⟨some 50,.move (.tmp 52),166,none⟩,
 ⟨some 53,.extract (.tmp 50) 0,36,none⟩,
 ⟨some 54,.extract (.tmp 50) 1,30,none⟩,
 ⟨some 11,.assign (.tmp 53),36,none⟩,
 ⟨some 12,.assign (.tmp 54),30,none⟩] [6,11,12]) (sg c42S6))
def c42S8(_:Unit):Cmd:=(.seq (.ops [
 ⟨some 64,.move (.tmp 6),88,none⟩,
 ⟨some 2,.assign (.tmp 64),88,none⟩,
 ⟨some 3,.assign (.const (.int .i64 0)),30,none⟩] [2,3])
 .ret)
def c42S9(_:Unit):Cmd:=(.seq (.ops [
 ⟨some 22,.move (.tmp 0),23,none⟩,
 ⟨some 23,.load 160 (.tmp 4),160,none⟩,
 ⟨some 24,.makeMap 163 none,163,none⟩,
 ⟨some 25,.build 165 #[(0,(.tmp 22)),(1,(.tmp 23)),(2,(.tmp 24))],165,none⟩,
 ⟨some 26,.box 165 (.tmp 25),88,none⟩,
 ⟨some 6,.assign (.tmp 26),88,none⟩] [0,4,6])
 (.seq (.seq (.ops [
 ⟨some 27,.fieldAddr 160 (.tmp 4) 1,0,none⟩,
 ⟨some 28,.load 3 (.tmp 27),3,none⟩,
 ⟨some 29,.binOp .gtr 3 (.tmp 28) (.const (.int .i64 0)) 3,4,none⟩] [0,4,6,29])
 (.cond (.tmp 29)
 (.seq (.ops [
 ⟨some 7,.assign (.const (.slice none 0 0)),22,none⟩] [0,4,6,7])
 (.seq (.seq (.ops [
 ⟨some 30,.fieldAddr 160 (.tmp 4) 1,0,none⟩,
 ⟨some 31,.load 3 (.tmp 30),3,none⟩,
 ⟨some 32,.move (.const (.int .i64 0)),3,none⟩] [0,6,7,31,32])
 (.block 0 (.loop (sg c42L0)))) (sg c42S7)))
 (.skip [6]))) (sg c42S8)))
def c42S10(_:Unit):Cmd:=(.seq (.seq (.ops [
 ⟨some 19,.move (.tmp 5),30,none⟩,
 ⟨some 20,.binOp .neq 30 (.tmp 19) (.const (.int .i64 0)) 30,4,none⟩] [0,4,5,20])
 (.cond (.tmp 20)
 (.seq (.ops [
 ⟨some 21,.move (.tmp 5),30,none⟩,
 ⟨some 2,.assign (.const (.pointer none)),88,none⟩,
 ⟨some 3,.assign (.tmp 21),30,none⟩] [2,3])
 .ret)
 (.skip [0,4]))) (sg c42S9))
def c42:Cmd:=(.seq (.ops [
 ⟨some 2,.assign (.const (.pointer none)),88,none⟩,
 ⟨some 3,.assign (.const (.int .i64 0)),30,none⟩] [0])
 (.seq (.ops [
 ⟨some 15,.move (.tmp 0),23,none⟩,
 ⟨some 16,.call ⟨.value (.func 109),#[(.tmp 15)],#[23]⟩,161,none⟩,
 ⟨some 14,.move (.tmp 16),161,none⟩,
 ⟨some 17,.extract (.tmp 14) 0,160,none⟩,
 ⟨some 18,.extract (.tmp 14) 1,30,none⟩,
 ⟨some 4,.alloc 160,0,none⟩,
 ⟨none,.store 160 (.tmp 4) (.tmp 17),0,none⟩,
 ⟨some 5,.assign (.tmp 18),30,none⟩] [0,4,5]) (sg c42S10)))
attribute [go_sem] c42 c42S0 c42S1 c42S2 c42S3 c42L0 c42S4 c42S5 c42S6 c42S7 c42S8 c42S9 c42S10
theorem ent42(a0:Value)(w:World)(K:Value→World→Prop)(h:W Tryz.prog c42 [(0,a0)] w (finQ Tryz.prog [.tmp 2,.tmp 3] K)):Ret Tryz.prog 42 [a0] w K :=
 Ret_of_W (code:=c42code) Tryz.func42 (by kernel_rfl) (by kernel_rfl) (of_decide_eq_true (by kernel_rfl)) h
@[go_sem] theorem go42:goFunc Tryz.prog 42=true:=by kernel_rfl
def c43code:Code:=match Tryz.f43.body with | some c=>c | none=>.skip
def c43S0(_:Unit):Cmd:=(.seq (.ops [
 ⟨some 13,.move (.tmp 5),30,none⟩,
 ⟨some 14,.binOp .neq 30 (.tmp 13) (.const (.int .i64 0)) 30,4,none⟩] [0,5,14])
 (.cond (.tmp 14)
 (.seq (.ops [
 ⟨some 15,.move (.tmp 5),30,none⟩,
 ⟨some 2,.assign (.const (.pointer none)),24,none⟩,
 ⟨some 3,.assign (.tmp 15),30,none⟩] [2,3])
 .ret)
 (.skip [0])))
def c43S1(_:Unit):Cmd:=(.seq (.ops [
 ⟨some 20,.move (.tmp 0),88,none⟩,
 ⟨some 21,.move (.tmp 6),96,none⟩,
 ⟨some 22,.build 98 #[(0,(.tmp 20)),(1,(.tmp 21))],98,none⟩,
 ⟨some 23,.box 98 (.tmp 22),24,none⟩,
 ⟨some 24,.move (.tmp 7),30,none⟩,
 ⟨some 2,.assign (.tmp 23),24,none⟩,
 ⟨some 3,.assign (.tmp 24),30,none⟩] [2,3])
 .ret)
def c43S2(_:Unit):Cmd:=(.seq (.ops [
 ⟨some 17,.call ⟨.value (.func 113),#[(.const (.int .i64 64))],#[3]⟩,169,none⟩,
 ⟨some 16,.move (.tmp 17),169,none⟩,
 ⟨some 18,.extract (.tmp 16) 0,96,none⟩,
 ⟨some 19,.extract (.tmp 16) 1,30,none⟩,
 ⟨some 6,.assign (.tmp 18),96,none⟩,
 ⟨some 7,.assign (.tmp 19),30,none⟩] [0,6,7]) (sg c43S1))
def c43:Cmd:=(.seq (.ops [
 ⟨some 2,.assign (.const (.pointer none)),24,none⟩,
 ⟨some 3,.assign (.const (.int .i64 0)),30,none⟩] [0])
 (.seq (.seq (.ops [
 ⟨some 9,.move (.tmp 0),88,none⟩,
 ⟨some 10,.call ⟨.value (.func 112),#[(.tmp 9),(.const (.int .i64 0))],#[88,3]⟩,50,none⟩,
 ⟨some 8,.move (.tmp 10),50,none⟩,
 ⟨some 11,.extract (.tmp 8) 0,9,none⟩,
 ⟨some 12,.extract (.tmp 8) 1,30,none⟩,
 ⟨some 4,.assign (.tmp 11),9,none⟩,
 ⟨some 5,.assign (.tmp 12),30,none⟩] [0,5]) (sg c43S0)) (sg c43S2)))
attribute [go_sem] c43 c43S0 c43S1 c43S2
theorem ent43(a0:Value)(w:World)(K:Value→World→Prop)(h:W Tryz.prog c43 [(0,a0)] w (finQ Tryz.prog [.tmp 2,.tmp 3] K)):Ret Tryz.prog 43 [a0] w K :=
 Ret_of_W (code:=c43code) Tryz.func43 (by kernel_rfl) (by kernel_rfl) (of_decide_eq_true (by kernel_rfl)) h
@[go_sem] theorem go43:goFunc Tryz.prog 43=true:=by kernel_rfl
def c44code:Code:=match Tryz.f44.body with | some c=>c | none=>.skip
def c44S0(_:Unit):Cmd:=(.cond (.tmp 8)
 (.seq (.ops [
 ⟨some 2,.assign (.const (.int .i64 3)),30,none⟩] [2])
 .ret)
 (.skip [0]))
def c44S1(_:Unit):Cmd:=(.cond (.tmp 14)
 (.seq (.ops [
 ⟨some 2,.assign (.const (.int .i64 1)),30,none⟩] [2])
 .ret)
 (.skip [0]))
def c44S2(_:Unit):Cmd:=(.ops [
 ⟨some 25,.binOp .add 3 (.tmp 16) (.const (.int .i64 1)) 3,3,none⟩,
 ⟨some 16,.move (.tmp 25),3,none⟩] [0,3,16])
def c44S3(_:Unit):Cmd:=(.seq (.block 1 (.seq (.ops [
 ⟨some 18,.move (.tmp 16),3,none⟩,
 ⟨some 4,.assign (.tmp 18),3,none⟩] [0,3,4,16])
 (.ops [
 ⟨some 20,.move (.tmp 3),9,none⟩,
 ⟨some 21,.move (.tmp 4),3,none⟩,
 ⟨some 22,.call ⟨.value (.func 115),#[(.tmp 20),(.tmp 21),(.const (.bool true))],#[9,3,4]⟩,72,none⟩,
 ⟨some 19,.move (.tmp 22),72,none⟩,
 ⟨some 23,.extract (.tmp 19) 0,9,none⟩,
 ⟨some 24,.extract (.tmp 19) 1,4,none⟩,
 ⟨some 3,.assign (.tmp 23),9,none⟩] [0,3,16]))) (sg c44S2))
def c44L0(_:Unit):Cmd:=(.seq (.ops [
 ⟨some 17,.binOp .lss 3 (.tmp 16) (.const (.int .i64 2)) 3,4,none⟩] [0,3,16,17])
 (.seq (.cond (.tmp 17)
 (.skip [0,3,16])
 (.exit 0 [0,3])) (sg c44S3)))
def c44S4(_:Unit):Cmd:=(.seq (.ops [
 ⟨some 29,.move (.tmp 5),30,none⟩,
 ⟨some 30,.binOp .neq 30 (.tmp 29) (.const (.int .i64 0)) 30,4,none⟩] [0,5,30])
 (.cond (.tmp 30)
 (.seq (.ops [
 ⟨some 31,.move (.tmp 5),30,none⟩,
 ⟨some 2,.assign (.tmp 31),30,none⟩] [2])
 .ret)
 (.skip [0])))
def c44S5(_:Unit):Cmd:=.ret
def c44S6(_:Unit):Cmd:=(.seq (.ops [
 ⟨some 32,.move (.tmp 0),24,none⟩,
 ⟨some 33,.call ⟨.value (.func 70),#[(.tmp 32),(.const (.int .i64 1)),(.const (.string (ofL [])))],#[24,3,9]⟩,30,none⟩,
 ⟨some 2,.assign (.tmp 33),30,none⟩] [2]) (sg c44S5))
def c44S7(_:Unit):Cmd:=(.seq (.seq (.ops [
 ⟨some 26,.move (.tmp 0),24,none⟩,
 ⟨some 27,.move (.tmp 3),9,none⟩,
 ⟨some 28,.call ⟨.value (.func 70),#[(.tmp 26),(.const (.int .i64 0)),(.tmp 27)],#[24,3,9]⟩,30,none⟩,
 ⟨some 5,.assign (.tmp 28),30,none⟩] [0,5]) (sg c44S4)) (sg c44S6))
def c44S8(_:Unit):Cmd:=(.seq (.seq (.ops [
 ⟨some 16,.move (.const (.int .i64 0)),3,none⟩] [0,3,16])
 (.block 0 (.loop (sg c44L0)))) (sg c44S7))
def c44S9(_:Unit):Cmd:=(.seq (.ops [
 ⟨some 15,.call ⟨.value (.func 114),#[(.const (.int .i64 2048))],#[3]⟩,9,none⟩,
 ⟨some 3,.assign (.tmp 15),9,none⟩] [0,3]) (sg c44S8))
def c44S10(_:Unit):Cmd:=(.seq (.seq (.ops [
 ⟨some 9,.move (.tmp 0),24,none⟩,
 ⟨some 10,.nilCheck (.tmp 9),0,none⟩,
 ⟨some 11,.fieldAddr 98 (.tmp 10) 0,0,none⟩,
 ⟨some 12,.load 88 (.tmp 11),88,none⟩,
 ⟨some 13,.call ⟨.value (.func 47),#[(.tmp 12)],#[88]⟩,3,none⟩,
 ⟨some 14,.binOp .leq 3 (.tmp 13) (.const (.int .i64 2)) 3,4,none⟩] [0,14]) (sg c44S1)) (sg c44S9))
def c44:Cmd:=(.seq (.ops [
 ⟨some 2,.assign (.const (.int .i64 0)),30,none⟩] [0])
 (.seq (.seq (.ops [
 ⟨some 6,.move (.tmp 0),24,none⟩,
 ⟨some 7,.call ⟨.value (.func 96),#[(.tmp 6)],#[24]⟩,4,none⟩,
 ⟨some 8,.unOp .not 4 (.tmp 7),4,none⟩] [0,8]) (sg c44S0)) (sg c44S10)))
attribute [go_sem] c44 c44S0 c44S1 c44S2 c44S3 c44S4 c44S5 c44S6 c44S7 c44S8 c44S9 c44S10
theorem ent44(a0:Value)(w:World)(K:Value→World→Prop)(h:W Tryz.prog c44 [(0,a0)] w (finQ Tryz.prog [.tmp 2] K)):Ret Tryz.prog 44 [a0] w K :=
 Ret_of_W (code:=c44code) Tryz.func44 (by kernel_rfl) (by kernel_rfl) (of_decide_eq_true (by kernel_rfl)) h
@[go_sem] theorem go44:goFunc Tryz.prog 44=true:=by kernel_rfl
def c45code:Code:=match Tryz.f45.body with | some c=>c | none=>.skip
def c45S0(_:Unit):Cmd:=(.seq (.ops [
 ⟨some 14,.move (.tmp 7),30,none⟩,
 ⟨some 15,.binOp .neq 30 (.tmp 14) (.const (.int .i64 0)) 30,4,none⟩] [0,1,7,15])
 (.cond (.tmp 15)
 (.seq (.ops [
 ⟨some 16,.move (.tmp 7),30,none⟩,
 ⟨some 4,.assign (.const (.pointer none)),27,none⟩,
 ⟨some 5,.assign (.tmp 16),30,none⟩] [4,5])
 .ret)
 (.skip [0,1])))
def c45S1(_:Unit):Cmd:=(.seq (.ops [
 ⟨some 17,.move (.tmp 0),24,none⟩,
 ⟨some 18,.move (.tmp 1),3,none⟩,
 ⟨some 19,.build 104 #[(0,(.tmp 17)),(1,(.tmp 18))],104,none⟩,
 ⟨some 20,.box 104 (.tmp 19),27,none⟩,
 ⟨some 4,.assign (.tmp 20),27,none⟩,
 ⟨some 5,.assign (.const (.int .i64 0)),30,none⟩] [4,5])
 .ret)
def c45:Cmd:=(.seq (.ops [
 ⟨some 4,.assign (.const (.pointer none)),27,none⟩,
 ⟨some 5,.assign (.const (.int .i64 0)),30,none⟩] [0,1])
 (.seq (.seq (.ops [
 ⟨some 9,.move (.tmp 0),24,none⟩,
 ⟨some 10,.move (.tmp 1),3,none⟩,
 ⟨some 11,.call ⟨.value (.func 36),#[(.tmp 9),(.tmp 10)],#[24,3]⟩,31,none⟩,
 ⟨some 8,.move (.tmp 11),31,none⟩,
 ⟨some 12,.extract (.tmp 8) 0,3,none⟩,
 ⟨some 13,.extract (.tmp 8) 1,30,none⟩,
 ⟨some 6,.assign (.tmp 12),3,none⟩,
 ⟨some 7,.assign (.tmp 13),30,none⟩] [0,1,7]) (sg c45S0)) (sg c45S1)))
attribute [go_sem] c45 c45S0 c45S1
theorem ent45(a0 a1:Value)(w:World)(K:Value→World→Prop)(h:W Tryz.prog c45 [(0,a0),(1,a1)] w (finQ Tryz.prog [.tmp 4,.tmp 5] K)):Ret Tryz.prog 45 [a0,a1] w K :=
 Ret_of_W (code:=c45code) Tryz.func45 (by kernel_rfl) (by kernel_rfl) (of_decide_eq_true (by kernel_rfl)) h
@[go_sem] theorem go45:goFunc Tryz.prog 45=true:=by kernel_rfl
def c46code:Code:=match Tryz.f46.body with | some c=>c | none=>.skip
def c46S0(_:Unit):Cmd:=(.cond (.tmp 6)
 (.seq (.ops [
 ⟨some 2,.assign (.const (.string (ofL []))),9,none⟩,
 ⟨some 3,.assign (.const (.int .i64 3)),30,none⟩] [2,3])
 .ret)
 (.skip [0]))
def c46S1(_:Unit):Cmd:=.ret
def c46S2(_:Unit):Cmd:=(.seq (.ops [
 ⟨some 7,.move (.tmp 0),24,none⟩,
 ⟨some 8,.call ⟨.value (.func 97),#[(.tmp 7),(.const (.int .i64 0))],#[24,3]⟩,50,none⟩,
 ⟨some 9,.extract (.tmp 8) 0,9,none⟩,
 ⟨some 10,.extract (.tmp 8) 1,30,none⟩,
 ⟨some 2,.assign (.tmp 9),9,none⟩,
 ⟨some 3,.assign (.tmp 10),30,none⟩] [2,3]) (sg c46S1))
def c46:Cmd:=(.seq (.ops [
 ⟨some 2,.assign (.const (.string (ofL []))),9,none⟩,
 ⟨some 3,.assign (.const (.int .i64 0)),30,none⟩] [0])
 (.seq (.seq (.ops [
 ⟨some 4,.move (.tmp 0),24,none⟩,
 ⟨some 5,.call ⟨.value (.func 96),#[(.tmp 4)],#[24]⟩,4,none⟩,
 ⟨some 6,.unOp .not 4 (.tmp 5),4,none⟩] [0,6]) (sg c46S0)) (sg c46S2)))
attribute [go_sem] c46 c46S0 c46S1 c46S2
theorem ent46(a0:Value)(w:World)(K:Value→World→Prop)(h:W Tryz.prog c46 [(0,a0)] w (finQ Tryz.prog [.tmp 2,.tmp 3] K)):Ret Tryz.prog 46 [a0] w K :=
 Ret_of_W (code:=c46code) Tryz.func46 (by kernel_rfl) (by kernel_rfl) (of_decide_eq_true (by kernel_rfl)) h
@[go_sem] theorem go46:goFunc Tryz.prog 46=true:=by kernel_rfl
def c47code:Code:=match Tryz.f47.body with | some c=>c | none=>.skip
def c47S0(_:Unit):Cmd:=(.seq (.ops [
 ⟨some 5,.move (.tmp 0),88,none⟩,
 ⟨some 6,.nilCheck (.tmp 5),0,none⟩,
 ⟨some 7,.fieldAddr 165 (.tmp 6) 1,0,none⟩,
 ⟨some 8,.fieldAddr 160 (.tmp 7) 3,0,none⟩,
 ⟨some 9,.load 3 (.tmp 8),3,none⟩,
 ⟨some 2,.assign (.tmp 9),3,none⟩] [2])
 .ret)
def c47:Cmd:=(.seq (.ops [
 ⟨some 2,.assign (.const (.int .i64 0)),3,none⟩] [0])
 (.seq (.seq (.ops [
 ⟨some 3,.move (.tmp 0),88,none⟩,
 ⟨some 4,.binOp .eql 88 (.tmp 3) (.const (.pointer none)) 88,4,none⟩] [0,4])
 (.cond (.tmp 4)
 (.seq (.ops [
 ⟨some 2,.assign (.const (.int .i64 0)),3,none⟩] [2])
 .ret)
 (.skip [0]))) (sg c47S0)))
attribute [go_sem] c47 c47S0
theorem ent47(a0:Value)(w:World)(K:Value→World→Prop)(h:W Tryz.prog c47 [(0,a0)] w (finQ Tryz.prog [.tmp 2] K)):Ret Tryz.prog 47 [a0] w K :=
 Ret_of_W (code:=c47code) Tryz.func47 (by kernel_rfl) (by kernel_rfl) (of_decide_eq_true (by kernel_rfl)) h
@[go_sem] theorem go47:goFunc Tryz.prog 47=true:=by kernel_rfl
def c48code:Code:=match Tryz.f48.body with | some c=>c | none=>.skip
def c48S0(_:Unit):Cmd:=(.ops [
 ⟨some 16,.binOp .add 3 (.tmp 7) (.const (.int .i64 1)) 3,3,none⟩,
 ⟨some 7,.move (.tmp 16),3,none⟩] [0,3,6,7])
def c48S1(_:Unit):Cmd:=(.seq (.block 1 (.seq (.ops [
 ⟨some 9,.move (.tmp 7),3,none⟩,
 ⟨some 4,.assign (.tmp 9),3,none⟩] [0,3,4,6,7])
 (.ops [
 ⟨some 10,.move (.tmp 3),3,none⟩,
 ⟨some 11,.move (.tmp 0),9,none⟩,
 ⟨some 12,.move (.tmp 4),3,none⟩,
 ⟨some 13,.index 9 (.tmp 11) (.tmp 12),5,none⟩,
 ⟨some 14,.call ⟨.value (.func 116),#[(.tmp 13)],#[5]⟩,3,none⟩,
 ⟨some 15,.binOp .add 3 (.tmp 10) (.tmp 14) 3,3,none⟩,
 ⟨some 3,.assign (.tmp 15),3,none⟩] [0,3,6,7]))) (sg c48S0))
def c48L0(_:Unit):Cmd:=(.seq (.ops [
 ⟨some 8,.binOp .lss 3 (.tmp 7) (.tmp 6) 3,4,none⟩] [0,3,6,7,8])
 (.seq (.cond (.tmp 8)
 (.skip [0,3,6,7])
 (.exit 0 [3])) (sg c48S1)))
def c48S2(_:Unit):Cmd:=(.seq (.ops [
 ⟨some 17,.move (.tmp 3),3,none⟩,
 ⟨some 2,.assign (.tmp 17),3,none⟩] [2])
 .ret)
def c48:Cmd:=(.seq (.ops [
 ⟨some 2,.assign (.const (.int .i64 0)),3,none⟩] [0])
 (.seq (.ops [
 ⟨some 3,.assign (.const (.int .i64 0)),3,none⟩] [0,3])
 (.seq (.seq (.ops [
 ⟨some 5,.move (.tmp 0),9,none⟩,
 ⟨some 6,.call ⟨.builtin .len,#[(.tmp 5)],#[9]⟩,3,none⟩,
 ⟨some 7,.move (.const (.int .i64 0)),3,none⟩] [0,3,6,7])
 (.block 0 (.loop (sg c48L0)))) (sg c48S2))))
attribute [go_sem] c48 c48S0 c48S1 c48L0 c48S2
theorem ent48(a0:Value)(w:World)(K:Value→World→Prop)(h:W Tryz.prog c48 [(0,a0)] w (finQ Tryz.prog [.tmp 2] K)):Ret Tryz.prog 48 [a0] w K :=
 Ret_of_W (code:=c48code) Tryz.func48 (by kernel_rfl) (by kernel_rfl) (of_decide_eq_true (by kernel_rfl)) h
@[go_sem] theorem go48:goFunc Tryz.prog 48=true:=by kernel_rfl
def c49code:Code:=match Tryz.f49.body with | some c=>c | none=>.skip
def c49:Cmd:=(.seq (.ops [
 ⟨some 4,.assign (.const (.bool false)),4,none⟩] [0,1])
 (.seq (.ops [
 ⟨some 5,.move (.tmp 1),3,none⟩,
 ⟨some 6,.binOp .geq 3 (.tmp 5) (.const (.int .i64 0)) 3,4,none⟩,
 ⟨some 7,.move (.tmp 6),4,none⟩,
 ⟨some 8,.move (.tmp 1),3,(some (7,true))⟩,
 ⟨some 9,.binOp .quo 3 (.tmp 8) (.const (.int .i64 8)) 3,3,(some (7,true))⟩,
 ⟨some 10,.move (.tmp 0),9,(some (7,true))⟩,
 ⟨some 11,.call ⟨.builtin .len,#[(.tmp 10)],#[9]⟩,3,(some (7,true))⟩,
 ⟨some 12,.binOp .lss 3 (.tmp 9) (.tmp 11) 3,4,(some (7,true))⟩,
 ⟨some 13,.pick (.tmp 7) (.tmp 12) (.const (.bool false)),4,none⟩,
 ⟨some 14,.move (.tmp 13),4,none⟩,
 ⟨some 15,.move (.tmp 0),9,(some (14,true))⟩,
 ⟨some 16,.move (.tmp 1),3,(some (14,true))⟩,
 ⟨some 17,.binOp .quo 3 (.tmp 16) (.const (.int .i64 8)) 3,3,(some (14,true))⟩,
 ⟨some 18,.index 9 (.tmp 15) (.tmp 17),5,(some (14,true))⟩,
 ⟨some 19,.move (.tmp 1),3,(some (14,true))⟩,
 ⟨some 20,.binOp .rem 3 (.tmp 19) (.const (.int .i64 8)) 3,3,(some (14,true))⟩,
 ⟨some 21,.convert 3 78 (.tmp 20),78,(some (14,true))⟩,
 ⟨some 22,.binOp .shr 5 (.tmp 18) (.tmp 21) 78,5,(some (14,true))⟩,
 ⟨some 23,.binOp .and 5 (.tmp 22) (.const (.int .u8 1)) 5,5,(some (14,true))⟩,
 ⟨some 24,.binOp .eql 5 (.tmp 23) (.const (.int .u8 1)) 5,4,(some (14,true))⟩,
 ⟨some 25,.pick (.tmp 14) (.tmp 24) (.const (.bool false)),4,none⟩,
 ⟨some 4,.assign (.tmp 25),4,none⟩] [4])
 .ret))
attribute [go_sem] c49
theorem ent49(a0 a1:Value)(w:World)(K:Value→World→Prop)(h:W Tryz.prog c49 [(0,a0),(1,a1)] w (finQ Tryz.prog [.tmp 4] K)):Ret Tryz.prog 49 [a0,a1] w K :=
 Ret_of_W (code:=c49code) Tryz.func49 (by kernel_rfl) (by kernel_rfl) (of_decide_eq_true (by kernel_rfl)) h
@[go_sem] theorem go49:goFunc Tryz.prog 49=true:=by kernel_rfl
def c50code:Code:=match Tryz.f50.body with | some c=>c | none=>.skip
def c50:Cmd:=(.seq (.ops [
 ⟨some 2,.assign (.const (.bool false)),4,none⟩] [0])
 (.seq (.ops [
 ⟨some 3,.move (.tmp 0),27,none⟩,
 ⟨some 4,.binOp .neq 27 (.tmp 3) (.const (.pointer none)) 27,4,none⟩,
 ⟨some 5,.move (.tmp 4),4,none⟩,
 ⟨some 6,.move (.tmp 0),27,(some (5,true))⟩,
 ⟨some 7,.nilCheck (.tmp 6),0,(some (5,true))⟩,
 ⟨some 8,.fieldAddr 104 (.tmp 7) 0,0,(some (5,true))⟩,
 ⟨some 9,.load 24 (.tmp 8),24,(some (5,true))⟩,
 ⟨some 10,.binOp .neq 24 (.tmp 9) (.const (.pointer none)) 24,4,(some (5,true))⟩,
 ⟨some 11,.pick (.tmp 5) (.tmp 10) (.const (.bool false)),4,none⟩,
 ⟨some 2,.assign (.tmp 11),4,none⟩] [2])
 .ret))
attribute [go_sem] c50
theorem ent50(a0:Value)(w:World)(K:Value→World→Prop)(h:W Tryz.prog c50 [(0,a0)] w (finQ Tryz.prog [.tmp 2] K)):Ret Tryz.prog 50 [a0] w K :=
 Ret_of_W (code:=c50code) Tryz.func50 (by kernel_rfl) (by kernel_rfl) (of_decide_eq_true (by kernel_rfl)) h
@[go_sem] theorem go50:goFunc Tryz.prog 50=true:=by kernel_rfl
def c51code:Code:=match Tryz.f51.body with | some c=>c | none=>.skip
def c51S0(_:Unit):Cmd:=(.seq (.ops [
 ⟨some 2,.assign (.const (.int .i64 0)),30,none⟩] [2])
 .ret)
def c51:Cmd:=(.seq (.ops [
 ⟨some 2,.assign (.const (.int .i64 0)),30,none⟩] [0])
 (.seq (.seq (.ops [
 ⟨some 3,.move (.tmp 0),9,none⟩,
 ⟨some 4,.binOp .eql 9 (.tmp 3) (.const (.string (ofL []))) 9,4,none⟩,
 ⟨some 5,.move (.tmp 4),4,none⟩,
 ⟨some 6,.move (.tmp 0),9,(some (5,false))⟩,
 ⟨some 7,.call ⟨.builtin .len,#[(.tmp 6)],#[9]⟩,3,(some (5,false))⟩,
 ⟨some 8,.binOp .gtr 3 (.tmp 7) (.const (.int .i64 2000)) 3,4,(some (5,false))⟩,
 ⟨some 9,.pick (.tmp 5) (.const (.bool true)) (.tmp 8),4,none⟩] [9])
 (.cond (.tmp 9)
 (.seq (.ops [
 ⟨some 2,.assign (.const (.int .i64 21)),30,none⟩] [2])
 .ret)
 (.skip []))) (sg c51S0)))
attribute [go_sem] c51 c51S0
theorem ent51(a0:Value)(w:World)(K:Value→World→Prop)(h:W Tryz.prog c51 [(0,a0)] w (finQ Tryz.prog [.tmp 2] K)):Ret Tryz.prog 51 [a0] w K :=
 Ret_of_W (code:=c51code) Tryz.func51 (by kernel_rfl) (by kernel_rfl) (of_decide_eq_true (by kernel_rfl)) h
@[go_sem] theorem go51:goFunc Tryz.prog 51=true:=by kernel_rfl
def c52code:Code:=match Tryz.f52.body with | some c=>c | none=>.skip
def c52S0(_:Unit):Cmd:=.ret
def c52S1(_:Unit):Cmd:=(.seq (.ops [
 ⟨some 11,.move (.tmp 0),9,none⟩,
 ⟨some 12,.call ⟨.builtin .len,#[(.tmp 11)],#[9]⟩,3,none⟩,
 ⟨some 13,.call ⟨.value (.func 117),#[(.tmp 12)],#[3]⟩,3,none⟩,
 ⟨some 2,.assign (.const (.int .i64 9)),3,none⟩,
 ⟨some 3,.assign (.tmp 13),3,none⟩] [2,3]) (sg c52S0))
def c52:Cmd:=(.seq (.ops [
 ⟨some 2,.assign (.const (.int .i64 0)),3,none⟩,
 ⟨some 3,.assign (.const (.int .i64 0)),3,none⟩] [0])
 (.seq (.seq (.ops [
 ⟨some 4,.move (.tmp 0),9,none⟩,
 ⟨some 5,.call ⟨.builtin .len,#[(.tmp 4)],#[9]⟩,3,none⟩,
 ⟨some 6,.binOp .add 3 (.const (.int .i64 1)) (.tmp 5) 3,3,none⟩,
 ⟨some 7,.binOp .leq 3 (.tmp 6) (.const (.int .i64 63)) 3,4,none⟩] [0,7])
 (.cond (.tmp 7)
 (.seq (.ops [
 ⟨some 8,.move (.tmp 0),9,none⟩,
 ⟨some 9,.call ⟨.builtin .len,#[(.tmp 8)],#[9]⟩,3,none⟩,
 ⟨some 10,.binOp .add 3 (.const (.int .i64 1)) (.tmp 9) 3,3,none⟩,
 ⟨some 2,.assign (.tmp 10),3,none⟩,
 ⟨some 3,.assign (.const (.int .i64 0)),3,none⟩] [2,3])
 .ret)
 (.skip [0]))) (sg c52S1)))
attribute [go_sem] c52 c52S0 c52S1
theorem ent52(a0:Value)(w:World)(K:Value→World→Prop)(h:W Tryz.prog c52 [(0,a0)] w (finQ Tryz.prog [.tmp 2,.tmp 3] K)):Ret Tryz.prog 52 [a0] w K :=
 Ret_of_W (code:=c52code) Tryz.func52 (by kernel_rfl) (by kernel_rfl) (of_decide_eq_true (by kernel_rfl)) h
@[go_sem] theorem go52:goFunc Tryz.prog 52=true:=by kernel_rfl
def c53code:Code:=match Tryz.f53.body with | some c=>c | none=>.skip
def c53S0(_:Unit):Cmd:=(.seq (.ops [
 ⟨some 45,.move (.tmp 11),30,none⟩,
 ⟨some 46,.binOp .neq 30 (.tmp 45) (.const (.int .i64 0)) 30,4,none⟩] [0,1,7,8,11,46])
 (.cond (.tmp 46)
 (.seq (.ops [
 ⟨some 47,.move (.tmp 11),30,none⟩,
 ⟨some 4,.assign (.const (.int .i64 0)),3,none⟩,
 ⟨some 5,.assign (.tmp 47),30,none⟩] [4,5])
 .ret)
 (.skip [0,1,7,8])))
def c53S1(_:Unit):Cmd:=(.ops [
 ⟨some 48,.move (.tmp 8),3,none⟩,
 ⟨some 6,.assign (.tmp 48),3,none⟩] [0,1,6,7])
def c53S2(_:Unit):Cmd:=(.seq (.ops [
 ⟨some 30,.move (.tmp 7),3,none⟩,
 ⟨some 31,.binOp .sub 3 (.tmp 30) (.const (.int .i64 1)) 3,3,none⟩,
 ⟨some 32,.binOp .mul 3 (.tmp 31) (.const (.int .i64 252)) 3,3,none⟩,
 ⟨some 10,.assign (.tmp 32),3,none⟩] [0,1,6,7,8,10])
 (.seq (.seq (.ops [
 ⟨some 33,.move (.tmp 0),27,none⟩,
 ⟨some 34,.move (.tmp 8),3,none⟩,
 ⟨some 35,.move (.tmp 6),3,none⟩,
 ⟨some 36,.move (.tmp 1),9,none⟩,
 ⟨some 37,.move (.tmp 10),3,none⟩,
 ⟨some 38,.move (.tmp 1),9,none⟩,
 ⟨some 39,.call ⟨.builtin .len,#[(.tmp 38)],#[9]⟩,3,none⟩,
 ⟨some 40,.move (.tmp 10),3,none⟩,
 ⟨some 41,.binOp .add 3 (.tmp 40) (.const (.int .i64 252)) 3,3,none⟩,
 ⟨some 42,.call ⟨.builtin .min,#[(.tmp 39),(.tmp 41)],#[3,3]⟩,3,none⟩,
 ⟨some 43,.slice 9 (.tmp 36) (some (.tmp 37)) (some (.tmp 42)) none,9,none⟩,
 ⟨some 44,.call ⟨.value (.func 60),#[(.tmp 33),(.tmp 34),(.tmp 35),(.tmp 43)],#[27,3,3,9]⟩,30,none⟩,
 ⟨some 11,.assign (.tmp 44),30,none⟩] [0,1,7,8,11]) (sg c53S0)) (sg c53S1)))
def c53S3(_:Unit):Cmd:=(.seq (.seq (.ops [
 ⟨some 27,.move (.tmp 9),30,none⟩,
 ⟨some 28,.binOp .neq 30 (.tmp 27) (.const (.int .i64 0)) 30,4,none⟩] [0,1,6,7,8,9,28])
 (.cond (.tmp 28)
 (.seq (.ops [
 ⟨some 29,.move (.tmp 9),30,none⟩,
 ⟨some 4,.assign (.const (.int .i64 0)),3,none⟩,
 ⟨some 5,.assign (.tmp 29),30,none⟩] [4,5])
 .ret)
 (.skip [0,1,6,7,8]))) (sg c53S2))
def c53S4(_:Unit):Cmd:=(.ops [
 ⟨some 17,.move (.tmp 7),3,none⟩,
 ⟨some 18,.binOp .sub 3 (.tmp 17) (.const (.int .i64 1)) 3,3,none⟩,
 ⟨some 7,.assign (.tmp 18),3,none⟩] [0,1,6,7])
def c53S5(_:Unit):Cmd:=(.seq (.block 1 (.seq (.ops [
 ⟨some 20,.move (.tmp 0),27,none⟩,
 ⟨some 21,.nilCheck (.tmp 20),0,none⟩,
 ⟨some 22,.fieldAddr 104 (.tmp 21) 0,0,none⟩,
 ⟨some 23,.load 24 (.tmp 22),24,none⟩,
 ⟨some 24,.call ⟨.value (.func 64),#[(.tmp 23)],#[24]⟩,31,none⟩,
 ⟨some 19,.move (.tmp 24),31,none⟩,
 ⟨some 25,.extract (.tmp 19) 0,3,none⟩,
 ⟨some 26,.extract (.tmp 19) 1,30,none⟩,
 ⟨some 8,.assign (.tmp 25),3,none⟩,
 ⟨some 9,.assign (.tmp 26),30,none⟩] [0,1,6,7,8,9]) (sg c53S3))) (sg c53S4))
def c53L0(_:Unit):Cmd:=(.seq (.seq (.ops [
 ⟨some 15,.move (.tmp 7),3,none⟩,
 ⟨some 16,.binOp .gtr 3 (.tmp 15) (.const (.int .i64 0)) 3,4,none⟩] [0,1,6,7,16])
 (.cond (.tmp 16)
 (.skip [0,1,6,7])
 (.exit 0 [6]))) (sg c53S5))
def c53S6(_:Unit):Cmd:=(.block 0 (.loop (sg c53L0)))
def c53S7(_:Unit):Cmd:=(.seq (.ops [
 ⟨some 49,.move (.tmp 6),3,none⟩,
 ⟨some 4,.assign (.tmp 49),3,none⟩,
 ⟨some 5,.assign (.const (.int .i64 0)),30,none⟩] [4,5])
 .ret)
def c53:Cmd:=(.seq (.ops [
 ⟨some 4,.assign (.const (.int .i64 0)),3,none⟩,
 ⟨some 5,.assign (.const (.int .i64 0)),30,none⟩] [0,1])
 (.seq (.ops [
 ⟨some 6,.assign (.const (.int .i64 0)),3,none⟩] [0,1,6])
 (.seq (.seq (.ops [
 ⟨some 12,.move (.tmp 1),9,none⟩,
 ⟨some 13,.call ⟨.builtin .len,#[(.tmp 12)],#[9]⟩,3,none⟩,
 ⟨some 14,.call ⟨.value (.func 117),#[(.tmp 13)],#[3]⟩,3,none⟩,
 ⟨some 7,.assign (.tmp 14),3,none⟩] [0,1,6,7]) (sg c53S6)) (sg c53S7))))
attribute [go_sem] c53 c53S0 c53S1 c53S2 c53S3 c53S4 c53S5 c53L0 c53S6 c53S7
theorem ent53(a0 a1:Value)(w:World)(K:Value→World→Prop)(h:W Tryz.prog c53 [(0,a0),(1,a1)] w (finQ Tryz.prog [.tmp 4,.tmp 5] K)):Ret Tryz.prog 53 [a0,a1] w K :=
 Ret_of_W (code:=c53code) Tryz.func53 (by kernel_rfl) (by kernel_rfl) (of_decide_eq_true (by kernel_rfl)) h
@[go_sem] theorem go53:goFunc Tryz.prog 53=true:=by kernel_rfl
def c54code:Code:=match Tryz.f54.body with | some c=>c | none=>.skip
def c54S0(_:Unit):Cmd:=.ret
def c54S1(_:Unit):Cmd:=(.seq (.ops [
 ⟨some 9,.move (.tmp 0),9,none⟩,
 ⟨some 10,.call ⟨.builtin .len,#[(.tmp 9)],#[9]⟩,3,none⟩,
 ⟨some 11,.convert 3 147 (.tmp 10),147,none⟩,
 ⟨some 12,.call ⟨.value (.func 118),#[(.tmp 11),(.const (.int .i64 4))],#[147,3]⟩,9,none⟩,
 ⟨some 13,.binOp .add 9 (.const (.string (ofL [108]))) (.tmp 12) 9,9,none⟩,
 ⟨some 14,.move (.tmp 1),3,none⟩,
 ⟨some 15,.convert 3 147 (.tmp 14),147,none⟩,
 ⟨some 16,.call ⟨.value (.func 118),#[(.tmp 15),(.const (.int .i64 4))],#[147,3]⟩,9,none⟩,
 ⟨some 17,.binOp .add 9 (.tmp 13) (.tmp 16) 9,9,none⟩,
 ⟨some 4,.assign (.tmp 17),9,none⟩] [4]) (sg c54S0))
def c54:Cmd:=(.seq (.ops [
 ⟨some 4,.assign (.const (.string (ofL []))),9,none⟩] [0,1])
 (.seq (.seq (.ops [
 ⟨some 5,.move (.tmp 1),3,none⟩,
 ⟨some 6,.binOp .eql 3 (.tmp 5) (.const (.int .i64 0)) 3,4,none⟩] [0,1,6])
 (.cond (.tmp 6)
 (.seq (.ops [
 ⟨some 7,.move (.tmp 0),9,none⟩,
 ⟨some 8,.binOp .add 9 (.const (.string (ofL [115]))) (.tmp 7) 9,9,none⟩,
 ⟨some 4,.assign (.tmp 8),9,none⟩] [4])
 .ret)
 (.skip [0,1]))) (sg c54S1)))
attribute [go_sem] c54 c54S0 c54S1
theorem ent54(a0 a1:Value)(w:World)(K:Value→World→Prop)(h:W Tryz.prog c54 [(0,a0),(1,a1)] w (finQ Tryz.prog [.tmp 4] K)):Ret Tryz.prog 54 [a0,a1] w K :=
 Ret_of_W (code:=c54code) Tryz.func54 (by kernel_rfl) (by kernel_rfl) (of_decide_eq_true (by kernel_rfl)) h
@[go_sem] theorem go54:goFunc Tryz.prog 54=true:=by kernel_rfl
def c55code:Code:=match Tryz.f55.body with | some c=>c | none=>.skip
def c55:Cmd:=(.seq (.ops [
 ⟨some 1,.box 27 (.tmp 0),0,none⟩,
 ⟨some 2,.assign (.const .nilFunc),107,none⟩] [1])
 (.seq (.ops [
 ⟨some 3,.makeFunc (.func 119) #[] #[(.tmp 1)],106,none⟩,
 ⟨some 2,.assign (.tmp 3),107,none⟩] [2])
 .ret))
attribute [go_sem] c55
theorem ent55(a0:Value)(w:World)(K:Value→World→Prop)(h:W Tryz.prog c55 [(0,a0)] w (finQ Tryz.prog [.tmp 2] K)):Ret Tryz.prog 55 [a0] w K :=
 Ret_of_W (code:=c55code) Tryz.func55 (by kernel_rfl) (by kernel_rfl) (of_decide_eq_true (by kernel_rfl)) h
@[go_sem] theorem go55:goFunc Tryz.prog 55=true:=by kernel_rfl
def c56code:Code:=match Tryz.f56.body with | some c=>c | none=>.skip
def c56S0(_:Unit):Cmd:=.ret
def c56S1(_:Unit):Cmd:=(.seq (.draw (drawOps 0 c56code) [4,5,6]) (sg c56S0))
def c56S2(_:Unit):Cmd:=(.seq (.seq (.ops [
 ⟨some 18,.move (.tmp 8),30,none⟩,
 ⟨some 19,.binOp .neq 30 (.tmp 18) (.const (.int .i64 0)) 30,4,none⟩] [7,8,19])
 (.cond (.tmp 19)
 (.seq (.ops [
 ⟨some 20,.move (.tmp 8),30,none⟩,
 ⟨some 4,.assign (.const (.int .i64 0)),3,none⟩,
 ⟨some 5,.assign (.const (.string (ofL []))),9,none⟩,
 ⟨some 6,.assign (.tmp 20),30,none⟩] [4,5,6])
 .ret)
 (.skip [7]))) (sg c56S1))
def c56:Cmd:=(.seq (.ops [
 ⟨some 4,.assign (.const (.int .i64 0)),3,none⟩,
 ⟨some 5,.assign (.const (.string (ofL []))),9,none⟩,
 ⟨some 6,.assign (.const (.int .i64 0)),30,none⟩] [0,1])
 (.seq (.ops [
 ⟨some 10,.move (.tmp 0),27,none⟩,
 ⟨some 11,.nilCheck (.tmp 10),0,none⟩,
 ⟨some 12,.fieldAddr 104 (.tmp 11) 0,0,none⟩,
 ⟨some 13,.load 24 (.tmp 12),24,none⟩,
 ⟨some 14,.move (.tmp 1),3,none⟩,
 ⟨some 15,.call ⟨.value (.func 39),#[(.tmp 13),(.tmp 14)],#[24,3]⟩,50,none⟩,
 ⟨some 9,.move (.tmp 15),50,none⟩,
 ⟨some 16,.extract (.tmp 9) 0,9,none⟩,
 ⟨some 17,.extract (.tmp 9) 1,30,none⟩,
 ⟨some 7,.assign (.tmp 16),9,none⟩,
 ⟨some 8,.assign (.tmp 17),30,none⟩] [7,8]) (sg c56S2)))
attribute [go_sem] c56 c56S0 c56S1 c56S2
def c56D0:List (Bool × Ins):=[
 (true,⟨some 21,.move (.tmp 7),9,none⟩),
 (true,⟨some 22,.slice 9 (.tmp 21) none (some (.const (.int .i64 4))) none,9,none⟩),
 (true,⟨some 25,.move (.tmp 7),9,none⟩),
 (true,⟨some 26,.slice 9 (.tmp 25) (some (.const (.int .i64 4))) none none,9,none⟩),
 (false,⟨some 23,.call ⟨.value (.func 98),#[(.tmp 22)],#[9]⟩,147,none⟩),
 (true,⟨some 24,.convert 147 3 (.tmp 23),3,none⟩),
 (true,⟨some 4,.assign (.tmp 24),3,none⟩),
 (true,⟨some 5,.assign (.tmp 26),9,none⟩),
 (true,⟨some 6,.assign (.const (.int .i64 0)),30,none⟩)]
theorem c56draw0{L:List Nat}{ρ:Env}{w:World}{Q:Post}(h:DL Tryz.prog c56D0 L ρ w.drew Q):drawW Tryz.prog (drawOps 0 c56code) L ρ w Q :=
 drawW_by [(true,0),(true,1),(true,4),(true,5),(false,2),(true,3),(true,6),(true,7),(true,8)] c56D0 (by kernel_rfl) (by kernel_rfl) (by kernel_rfl) h
theorem ent56(a0 a1:Value)(w:World)(K:Value→World→Prop)(h:W Tryz.prog c56 [(0,a0),(1,a1)] w (finQ Tryz.prog [.tmp 4,.tmp 5,.tmp 6] K)):Ret Tryz.prog 56 [a0,a1] w K :=
 Ret_of_W (code:=c56code) Tryz.func56 (by kernel_rfl) (by kernel_rfl) (of_decide_eq_true (by kernel_rfl)) h
@[go_sem] theorem go56:goFunc Tryz.prog 56=true:=by kernel_rfl
def c57code:Code:=match Tryz.f57.body with | some c=>c | none=>.skip
def c57S0(_:Unit):Cmd:=(.cond (.tmp 16)
 (.ops [
 ⟨some 17,.move (.tmp 4),3,none⟩,
 ⟨some 18,.binOp .sub 3 (.tmp 17) (.const (.int .i64 2)) 3,3,none⟩,
 ⟨some 4,.assign (.tmp 18),3,none⟩] [4])
 (.skip [4]))
def c57S1(_:Unit):Cmd:=.ret
def c57S2(_:Unit):Cmd:=(.seq (.ops [
 ⟨some 19,.move (.tmp 4),3,none⟩,
 ⟨some 20,.call ⟨.builtin .min,#[(.tmp 19),(.const (.int .i64 255))],#[3,3]⟩,3,none⟩,
 ⟨some 21,.call ⟨.builtin .max,#[(.const (.int .i64 0)),(.tmp 20)],#[3,3]⟩,3,none⟩,
 ⟨some 2,.assign (.tmp 21),3,none⟩] [2]) (sg c57S1))
def c57S3(_:Unit):Cmd:=(.seq (.seq (.ops [
 ⟨some 14,.move (.tmp 3),22,none⟩,
 ⟨some 15,.call ⟨.value (.func 122),#[(.tmp 14),(.const (.string (ofL [])))],#[22,9]⟩,4,none⟩,
 ⟨some 16,.unOp .not 4 (.tmp 15),4,none⟩] [4,16]) (sg c57S0)) (sg c57S2))
def c57S4(_:Unit):Cmd:=(.seq (.ops [
 ⟨some 9,.move (.tmp 0),9,none⟩,
 ⟨some 10,.call ⟨.builtin .len,#[(.tmp 9)],#[9]⟩,3,none⟩,
 ⟨some 11,.move (.tmp 3),22,none⟩,
 ⟨some 12,.call ⟨.value (.func 121),#[(.tmp 11)],#[22]⟩,3,none⟩,
 ⟨some 13,.binOp .sub 3 (.tmp 10) (.tmp 12) 3,3,none⟩,
 ⟨some 4,.assign (.tmp 13),3,none⟩] [3,4]) (sg c57S3))
def c57S5(_:Unit):Cmd:=(.seq (.ops [
 ⟨some 7,.move (.tmp 0),9,none⟩,
 ⟨some 8,.call ⟨.value (.func 120),#[(.tmp 7)],#[9]⟩,22,none⟩,
 ⟨some 3,.assign (.tmp 8),22,none⟩] [0,3]) (sg c57S4))
def c57:Cmd:=(.seq (.ops [
 ⟨some 2,.assign (.const (.int .i64 0)),3,none⟩] [0])
 (.seq (.seq (.ops [
 ⟨some 5,.move (.tmp 0),9,none⟩,
 ⟨some 6,.binOp .eql 9 (.tmp 5) (.const (.string (ofL []))) 9,4,none⟩] [0,6])
 (.cond (.tmp 6)
 (.seq (.ops [
 ⟨some 2,.assign (.const (.int .i64 0)),3,none⟩] [2])
 .ret)
 (.skip [0]))) (sg c57S5)))
attribute [go_sem] c57 c57S0 c57S1 c57S2 c57S3 c57S4 c57S5
theorem ent57(a0:Value)(w:World)(K:Value→World→Prop)(h:W Tryz.prog c57 [(0,a0)] w (finQ Tryz.prog [.tmp 2] K)):Ret Tryz.prog 57 [a0] w K :=
 Ret_of_W (code:=c57code) Tryz.func57 (by kernel_rfl) (by kernel_rfl) (of_decide_eq_true (by kernel_rfl)) h
@[go_sem] theorem go57:goFunc Tryz.prog 57=true:=by kernel_rfl
def c58code:Code:=match Tryz.f58.body with | some c=>c | none=>.skip
def c58S0(_:Unit):Cmd:=(.cond (.tmp 17)
 (.seq (.ops [
 ⟨some 18,.move (.tmp 0),9,none⟩,
 ⟨some 4,.assign (.tmp 18),9,none⟩,
 ⟨some 5,.assign (.const (.int .i64 0)),3,none⟩,
 ⟨some 6,.assign (.const (.bool false)),4,none⟩] [4,5,6])
 .ret)
 (.skip [0,1]))
def c58S1(_:Unit):Cmd:=.ret
def c58S2(_:Unit):Cmd:=(.seq (.ops [
 ⟨some 30,.move (.tmp 7),22,none⟩,
 ⟨some 31,.move (.tmp 8),3,none⟩,
 ⟨some 32,.move (.tmp 1),9,none⟩,
 ⟨some 33,.indexAddr 22 (.tmp 30) (.tmp 31),0,none⟩,
 ⟨none,.store 9 (.tmp 33) (.tmp 32),0,none⟩] [0,7,8])
 (.seq (.ops [
 ⟨some 34,.move (.tmp 0),9,none⟩,
 ⟨some 35,.call ⟨.builtin .len,#[(.tmp 34)],#[9]⟩,3,none⟩,
 ⟨some 36,.move (.tmp 7),22,none⟩,
 ⟨some 37,.call ⟨.value (.func 124),#[(.tmp 35),(.tmp 36)],#[3,22]⟩,9,none⟩,
 ⟨some 38,.move (.tmp 8),3,none⟩,
 ⟨some 4,.assign (.tmp 37),9,none⟩,
 ⟨some 5,.assign (.tmp 38),3,none⟩,
 ⟨some 6,.assign (.const (.bool true)),4,none⟩] [4,5,6]) (sg c58S1)))
def c58S3(_:Unit):Cmd:=(.seq (.seq (.ops [
 ⟨some 23,.move (.tmp 8),3,none⟩,
 ⟨some 24,.binOp .lss 3 (.tmp 23) (.const (.int .i64 0)) 3,4,none⟩] [0,1,7,8,24])
 (.cond (.tmp 24)
 (.seq (.ops [
 ⟨some 25,.move (.tmp 7),22,none⟩,
 ⟨some 26,.call ⟨.builtin .len,#[(.tmp 25)],#[22]⟩,3,none⟩,
 ⟨some 8,.assign (.tmp 26),3,none⟩] [0,1,7,8])
 (.ops [
 ⟨some 27,.move (.tmp 7),22,none⟩,
 ⟨some 28,.buildSlice 22 1 #[(0,(.const (.string (ofL []))))],22,none⟩,
 ⟨some 29,.call ⟨.builtin .append,#[(.tmp 27),(.tmp 28)],#[22,22]⟩,22,none⟩,
 ⟨some 7,.assign (.tmp 29),22,none⟩] [0,1,7,8]))
 (.skip [0,1,7,8]))) (sg c58S2))
def c58S4(_:Unit):Cmd:=(.seq (.ops [
 ⟨some 21,.move (.tmp 7),22,none⟩,
 ⟨some 22,.call ⟨.value (.func 123),#[(.tmp 21),(.const (.string (ofL [])))],#[22,9]⟩,3,none⟩,
 ⟨some 8,.assign (.tmp 22),3,none⟩] [0,1,7,8]) (sg c58S3))
def c58S5(_:Unit):Cmd:=(.seq (.ops [
 ⟨some 19,.move (.tmp 0),9,none⟩,
 ⟨some 20,.call ⟨.value (.func 120),#[(.tmp 19)],#[9]⟩,22,none⟩,
 ⟨some 7,.assign (.tmp 20),22,none⟩] [0,1,7]) (sg c58S4))
def c58:Cmd:=(.seq (.ops [
 ⟨some 4,.assign (.const (.string (ofL []))),9,none⟩,
 ⟨some 5,.assign (.const (.int .i64 0)),3,none⟩,
 ⟨some 6,.assign (.const (.bool false)),4,none⟩] [0,1])
 (.seq (.seq (.ops [
 ⟨some 9,.move (.tmp 1),9,none⟩,
 ⟨some 10,.binOp .eql 9 (.tmp 9) (.const (.string (ofL []))) 9,4,none⟩,
 ⟨some 11,.move (.tmp 10),4,none⟩,
 ⟨some 12,.move (.tmp 1),9,(some (11,false))⟩,
 ⟨some 13,.call ⟨.builtin .len,#[(.tmp 12)],#[9]⟩,3,(some (11,false))⟩,
 ⟨some 14,.move (.tmp 0),9,(some (11,false))⟩,
 ⟨some 15,.call ⟨.value (.func 57),#[(.tmp 14)],#[9]⟩,3,(some (11,false))⟩,
 ⟨some 16,.binOp .gtr 3 (.tmp 13) (.tmp 15) 3,4,(some (11,false))⟩,
 ⟨some 17,.pick (.tmp 11) (.const (.bool true)) (.tmp 16),4,none⟩] [0,1,17]) (sg c58S0)) (sg c58S5)))
attribute [go_sem] c58 c58S0 c58S1 c58S3 c58S4 c58S5
theorem ent58(a0 a1:Value)(w:World)(K:Value→World→Prop)(h:W Tryz.prog c58 [(0,a0),(1,a1)] w (finQ Tryz.prog [.tmp 4,.tmp 5,.tmp 6] K)):Ret Tryz.prog 58 [a0,a1] w K :=
 Ret_of_W (code:=c58code) Tryz.func58 (by kernel_rfl) (by kernel_rfl) (of_decide_eq_true (by kernel_rfl)) h
@[go_sem] theorem go58:goFunc Tryz.prog 58=true:=by kernel_rfl
def c59code:Code:=match Tryz.f59.body with | some c=>c | none=>.skip
def c59:Cmd:=(.seq (.ops [
 ⟨some 4,.assign (.const (.int .i64 0)),3,none⟩] [0,1])
 (.seq (.ops [
 ⟨some 5,.move (.tmp 0),3,none⟩,
 ⟨some 6,.binOp .mul 3 (.const (.int .i64 256)) (.tmp 5) 3,3,none⟩,
 ⟨some 7,.move (.tmp 1),3,none⟩,
 ⟨some 8,.binOp .add 3 (.tmp 6) (.tmp 7) 3,3,none⟩,
 ⟨some 4,.assign (.tmp 8),3,none⟩] [4])
 .ret))
attribute [go_sem] c59
theorem ent59(a0 a1:Value)(w:World)(K:Value→World→Prop)(h:W Tryz.prog c59 [(0,a0),(1,a1)] w (finQ Tryz.prog [.tmp 4] K)):Ret Tryz.prog 59 [a0,a1] w K :=
 Ret_of_W (code:=c59code) Tryz.func59 (by kernel_rfl) (by kernel_rfl) (of_decide_eq_true (by kernel_rfl)) h
@[go_sem] theorem go59:goFunc Tryz.prog 59=true:=by kernel_rfl
def c60code:Code:=match Tryz.f60.body with | some c=>c | none=>.skip
def c60S0(_:Unit):Cmd:=.ret
def c60:Cmd:=(.seq (.ops [
 ⟨some 8,.assign (.const (.int .i64 0)),30,none⟩] [0,1,2,3])
 (.seq (.draw (drawOps 0 c60code) [8]) (sg c60S0)))
attribute [go_sem] c60 c60S0
def c60D0:List (Nat × Ins):=[
 (0,⟨some 9,.move (.tmp 0),27,none⟩),
 (0,⟨some 10,.nilCheck (.tmp 9),0,none⟩),
 (0,⟨some 11,.fieldAddr 104 (.tmp 10) 0,0,none⟩),
 (0,⟨some 13,.move (.tmp 1),3,none⟩),
 (0,⟨some 14,.move (.tmp 2),3,none⟩),
 (0,⟨some 15,.convert 3 147 (.tmp 14),147,none⟩),
 (0,⟨some 17,.move (.tmp 3),9,none⟩),
 (1,⟨some 12,.load 24 (.tmp 11),24,none⟩),
 (2,⟨some 16,.call ⟨.value (.func 118),#[(.tmp 15),(.const (.int .i64 4))],#[147,3]⟩,9,none⟩),
 (0,⟨some 18,.binOp .add 9 (.tmp 16) (.tmp 17) 9,9,none⟩),
 (3,⟨some 19,.call ⟨.value (.func 19),#[(.tmp 12),(.tmp 13),(.tmp 18)],#[24,3,9]⟩,30,none⟩),
 (0,⟨some 8,.assign (.tmp 19),30,none⟩)]
theorem c60draw0{L:List Nat}{ρ:Env}{w:World}{Q:Post}(S:World→Prop)(hS:S w.drew)(h:DG Tryz.prog S c60D0 L ρ w.drew Q):drawW Tryz.prog (drawOps 0 c60code) L ρ w Q :=
 drawW_held [3] [(0,0),(0,1),(0,2),(0,4),(0,5),(0,6),(0,8),(1,3),(2,7),(0,9),(3,10),(0,11)] c60D0 (by kernel_rfl) (by kernel_rfl) (by kernel_rfl) S hS h
theorem ent60(a0 a1 a2 a3:Value)(w:World)(K:Value→World→Prop)(h:W Tryz.prog c60 [(0,a0),(1,a1),(2,a2),(3,a3)] w (finQ Tryz.prog [.tmp 8] K)):Ret Tryz.prog 60 [a0,a1,a2,a3] w K :=
 Ret_of_W (code:=c60code) Tryz.func60 (by kernel_rfl) (by kernel_rfl) (of_decide_eq_true (by kernel_rfl)) h
@[go_sem] theorem go60:goFunc Tryz.prog 60=true:=by kernel_rfl
def c61code:Code:=match Tryz.f61.body with | some c=>c | none=>.skip
def c61S0(_:Unit):Cmd:=(.seq (.ops [
 ⟨some 51,.move (.tmp 12),30,none⟩,
 ⟨some 52,.binOp .neq 30 (.tmp 51) (.const (.int .i64 0)) 30,4,none⟩] [0,8,10,12,52])
 (.cond (.tmp 52)
 (.seq (.ops [
 ⟨some 53,.move (.tmp 12),30,none⟩,
 ⟨some 4,.assign (.const (.int .i64 0)),3,none⟩,
 ⟨some 5,.assign (.tmp 53),30,none⟩] [4,5])
 .ret)
 (.skip [0,8,10])))
def c61S1(_:Unit):Cmd:=.ret
def c61S2(_:Unit):Cmd:=(.seq (.draw (drawOps 1 c61code) [4,5]) (sg c61S1))
def c61S3(_:Unit):Cmd:=(.seq (.seq (.ops [
 ⟨some 46,.move (.tmp 0),27,none⟩,
 ⟨some 47,.move (.tmp 8),3,none⟩,
 ⟨some 48,.move (.tmp 6),3,none⟩,
 ⟨some 49,.move (.tmp 9),9,none⟩,
 ⟨some 50,.call ⟨.value (.func 60),#[(.tmp 46),(.tmp 47),(.tmp 48),(.tmp 49)],#[27,3,3,9]⟩,30,none⟩,
 ⟨some 12,.assign (.tmp 50),30,none⟩] [0,8,10,12]) (sg c61S0)) (sg c61S2))
def c61S4(_:Unit):Cmd:=(.seq (.ops [
 ⟨some 40,.call ⟨.value (.func 125),#[(.const (.int .i64 252))],#[3]⟩,9,none⟩,
 ⟨some 41,.move (.tmp 1),9,none⟩,
 ⟨some 42,.call ⟨.value (.func 58),#[(.tmp 40),(.tmp 41)],#[9,9]⟩,111,none⟩,
 ⟨some 39,.move (.tmp 42),111,none⟩,
 ⟨some 43,.extract (.tmp 39) 0,9,none⟩,
 ⟨some 44,.extract (.tmp 39) 1,3,none⟩,
 ⟨some 45,.extract (.tmp 39) 2,4,none⟩,
 ⟨some 9,.assign (.tmp 43),9,none⟩,
 ⟨some 10,.assign (.tmp 44),3,none⟩,
 ⟨some 11,.assign (.tmp 45),4,none⟩] [0,6,8,9,10]) (sg c61S3))
def c61S5(_:Unit):Cmd:=(.seq (.seq (.ops [
 ⟨some 36,.move (.tmp 7),30,none⟩,
 ⟨some 37,.binOp .neq 30 (.tmp 36) (.const (.int .i64 0)) 30,4,none⟩] [0,1,6,7,8,37])
 (.cond (.tmp 37)
 (.seq (.ops [
 ⟨some 38,.move (.tmp 7),30,none⟩,
 ⟨some 4,.assign (.const (.int .i64 0)),3,none⟩,
 ⟨some 5,.assign (.tmp 38),30,none⟩] [4,5])
 .ret)
 (.skip [0,1,6,8]))) (sg c61S4))
def c61S6(_:Unit):Cmd:=(.seq (.ops [
 ⟨some 29,.move (.tmp 0),27,none⟩,
 ⟨some 30,.nilCheck (.tmp 29),0,none⟩,
 ⟨some 31,.fieldAddr 104 (.tmp 30) 0,0,none⟩,
 ⟨some 32,.load 24 (.tmp 31),24,none⟩,
 ⟨some 33,.call ⟨.value (.func 64),#[(.tmp 32)],#[24]⟩,31,none⟩,
 ⟨some 28,.move (.tmp 33),31,none⟩,
 ⟨some 34,.extract (.tmp 28) 0,3,none⟩,
 ⟨some 35,.extract (.tmp 28) 1,30,none⟩,
 ⟨some 8,.assign (.tmp 34),3,none⟩,
 ⟨some 7,.assign (.tmp 35),30,none⟩] [0,1,6,7,8]) (sg c61S5))
def c61S7(_:Unit):Cmd:=(.seq (.seq (.ops [
 ⟨some 25,.move (.tmp 7),30,none⟩,
 ⟨some 26,.binOp .neq 30 (.tmp 25) (.const (.int .i64 0)) 30,4,none⟩] [0,1,6,7,26])
 (.cond (.tmp 26)
 (.seq (.ops [
 ⟨some 27,.move (.tmp 7),30,none⟩,
 ⟨some 4,.assign (.const (.int .i64 0)),3,none⟩,
 ⟨some 5,.assign (.tmp 27),30,none⟩] [4,5])
 .ret)
 (.skip [0,1,6]))) (sg c61S6))
def c61:Cmd:=(.seq (.ops [
 ⟨some 4,.assign (.const (.int .i64 0)),3,none⟩,
 ⟨some 5,.assign (.const (.int .i64 0)),30,none⟩] [0,1])
 (.seq (.draw (drawOps 0 c61code) [0,1,6,7]) (sg c61S7)))
attribute [go_sem] c61 c61S0 c61S1 c61S2 c61S3 c61S4 c61S5 c61S6 c61S7
def c61D0:List (Nat × Ins):=[
 (0,⟨some 14,.move (.tmp 0),27,none⟩),
 (0,⟨some 15,.nilCheck (.tmp 14),0,none⟩),
 (0,⟨some 16,.fieldAddr 104 (.tmp 15) 0,0,none⟩),
 (0,⟨some 18,.move (.tmp 0),27,none⟩),
 (0,⟨some 19,.nilCheck (.tmp 18),0,none⟩),
 (0,⟨some 20,.fieldAddr 104 (.tmp 19) 1,0,none⟩),
 (1,⟨some 17,.load 24 (.tmp 16),24,none⟩),
 (2,⟨some 21,.load 3 (.tmp 20),3,none⟩),
 (3,⟨some 22,.call ⟨.value (.func 36),#[(.tmp 17),(.tmp 21)],#[24,3]⟩,31,none⟩),
 (0,⟨some 13,.move (.tmp 22),31,none⟩),
 (0,⟨some 23,.extract (.tmp 13) 0,3,none⟩),
 (0,⟨some 24,.extract (.tmp 13) 1,30,none⟩),
 (0,⟨some 6,.assign (.tmp 23),3,none⟩),
 (0,⟨some 7,.assign (.tmp 24),30,none⟩)]
theorem c61draw0{L:List Nat}{ρ:Env}{w:World}{Q:Post}(S:World→Prop)(hS:S w.drew)(h:DG Tryz.prog S c61D0 L ρ w.drew Q):drawW Tryz.prog (drawOps 0 c61code) L ρ w Q :=
 drawW_held [3] [(0,0),(0,1),(0,2),(0,4),(0,5),(0,6),(1,3),(2,7),(3,8),(0,9),(0,10),(0,11),(0,12),(0,13)] c61D0 (by kernel_rfl) (by kernel_rfl) (by kernel_rfl) S hS h
def c61D1:List (Nat × Ins):=[
 (0,⟨some 54,.move (.tmp 8),3,none⟩),
 (0,⟨some 55,.move (.tmp 10),3,none⟩),
 (0,⟨some 57,.move (.tmp 0),27,none⟩),
 (0,⟨some 58,.nilCheck (.tmp 57),0,none⟩),
 (0,⟨some 59,.fieldAddr 104 (.tmp 58) 0,0,none⟩),
 (0,⟨some 61,.move (.tmp 0),27,none⟩),
 (0,⟨some 62,.nilCheck (.tmp 61),0,none⟩),
 (0,⟨some 63,.fieldAddr 104 (.tmp 62) 1,0,none⟩),
 (0,⟨some 65,.move (.tmp 8),3,none⟩),
 (1,⟨some 60,.load 24 (.tmp 59),24,none⟩),
 (1,⟨some 64,.load 3 (.tmp 63),3,none⟩),
 (2,⟨some 56,.call ⟨.value (.func 59),#[(.tmp 54),(.tmp 55)],#[3,3]⟩,3,none⟩),
 (3,⟨some 66,.call ⟨.value (.func 66),#[(.tmp 60),(.tmp 64),(.tmp 65)],#[24,3,3]⟩,30,none⟩),
 (0,⟨some 4,.assign (.tmp 56),3,none⟩),
 (0,⟨some 5,.assign (.tmp 66),30,none⟩)]
theorem c61draw1{L:List Nat}{ρ:Env}{w:World}{Q:Post}(S:World→Prop)(hS:S w.drew)(h:DG Tryz.prog S c61D1 L ρ w.drew Q):drawW Tryz.prog (drawOps 1 c61code) L ρ w Q :=
 drawW_held [6,10] [(0,0),(0,1),(0,3),(0,4),(0,5),(0,7),(0,8),(0,9),(0,11),(1,6),(1,10),(2,2),(3,12),(0,13),(0,14)] c61D1 (by kernel_rfl) (by kernel_rfl) (by kernel_rfl) S hS h
theorem ent61(a0 a1:Value)(w:World)(K:Value→World→Prop)(h:W Tryz.prog c61 [(0,a0),(1,a1)] w (finQ Tryz.prog [.tmp 4,.tmp 5] K)):Ret Tryz.prog 61 [a0,a1] w K :=
 Ret_of_W (code:=c61code) Tryz.func61 (by kernel_rfl) (by kernel_rfl) (of_decide_eq_true (by kernel_rfl)) h
@[go_sem] theorem go61:goFunc Tryz.prog 61=true:=by kernel_rfl
def c62code:Code:=match Tryz.f62.body with | some c=>c | none=>.skip
def c62:Cmd:=(.seq (.ops [
 ⟨some 2,.assign (.const (.string (ofL []))),9,none⟩] [0])
 (.seq (.ops [
 ⟨some 3,.move (.tmp 0),3,none⟩,
 ⟨some 4,.makeSlice 181 (.tmp 3) (.tmp 3),181,none⟩,
 ⟨some 5,.convert 181 9 (.tmp 4),9,none⟩,
 ⟨some 2,.assign (.tmp 5),9,none⟩] [2])
 .ret))
attribute [go_sem] c62
theorem ent62(a0:Value)(w:World)(K:Value→World→Prop)(h:W Tryz.prog c62 [(0,a0)] w (finQ Tryz.prog [.tmp 2] K)):Ret Tryz.prog 62 [a0] w K :=
 Ret_of_W (code:=c62code) Tryz.func62 (by kernel_rfl) (by kernel_rfl) (of_decide_eq_true (by kernel_rfl)) h
@[go_sem] theorem go62:goFunc Tryz.prog 62=true:=by kernel_rfl
def c64code:Code:=match Tryz.f64.body with | some c=>c | none=>.skip
def c64S0(_:Unit):Cmd:=(.seq (.ops [
 ⟨some 38,.move (.tmp 8),30,none⟩,
 ⟨some 39,.binOp .neq 30 (.tmp 38) (.const (.int .i64 0)) 30,4,none⟩] [0,6,8,39])
 (.cond (.tmp 39)
 (.seq (.ops [
 ⟨some 40,.move (.tmp 8),30,none⟩,
 ⟨some 2,.assign (.const (.int .i64 0)),3,none⟩,
 ⟨some 3,.assign (.tmp 40),30,none⟩] [2,3])
 .ret)
 (.skip [0,6])))
def c64S1(_:Unit):Cmd:=.ret
def c64S2(_:Unit):Cmd:=(.seq (.ops [
 ⟨some 41,.move (.tmp 6),3,none⟩,
 ⟨some 42,.move (.tmp 0),24,none⟩,
 ⟨some 43,.move (.tmp 6),3,none⟩,
 ⟨some 44,.call ⟨.value (.func 70),#[(.tmp 42),(.tmp 43),(.const (.string (ofL [])))],#[24,3,9]⟩,30,none⟩,
 ⟨some 2,.assign (.tmp 41),3,none⟩,
 ⟨some 3,.assign (.tmp 44),30,none⟩] [2,3]) (sg c64S1))
def c64S3(_:Unit):Cmd:=(.seq (.seq (.ops [
 ⟨some 35,.move (.tmp 0),24,none⟩,
 ⟨some 36,.move (.tmp 4),9,none⟩,
 ⟨some 37,.call ⟨.value (.func 70),#[(.tmp 35),(.const (.int .i64 0)),(.tmp 36)],#[24,3,9]⟩,30,none⟩,
 ⟨some 8,.assign (.tmp 37),30,none⟩] [0,6,8]) (sg c64S0)) (sg c64S2))
def c64S4(_:Unit):Cmd:=(.seq (.ops [
 ⟨some 30,.move (.tmp 4),9,none⟩,
 ⟨some 31,.move (.tmp 6),3,none⟩,
 ⟨some 32,.call ⟨.value (.func 115),#[(.tmp 30),(.tmp 31),(.const (.bool true))],#[9,3,4]⟩,72,none⟩,
 ⟨some 29,.move (.tmp 32),72,none⟩,
 ⟨some 33,.extract (.tmp 29) 0,9,none⟩,
 ⟨some 34,.extract (.tmp 29) 1,4,none⟩,
 ⟨some 4,.assign (.tmp 33),9,none⟩] [0,4,6]) (sg c64S3))
def c64S5(_:Unit):Cmd:=(.seq (.seq (.ops [
 ⟨some 27,.move (.tmp 7),4,none⟩,
 ⟨some 28,.unOp .not 4 (.tmp 27),4,none⟩] [0,4,6,28])
 (.cond (.tmp 28)
 (.seq (.ops [
 ⟨some 2,.assign (.const (.int .i64 0)),3,none⟩,
 ⟨some 3,.assign (.const (.int .i64 13)),30,none⟩] [2,3])
 .ret)
 (.skip [0,4,6]))) (sg c64S4))
def c64S6(_:Unit):Cmd:=(.seq (.ops [
 ⟨some 18,.move (.tmp 4),9,none⟩,
 ⟨some 19,.move (.tmp 0),24,none⟩,
 ⟨some 20,.nilCheck (.tmp 19),0,none⟩,
 ⟨some 21,.fieldAddr 98 (.tmp 20) 0,0,none⟩,
 ⟨some 22,.load 88 (.tmp 21),88,none⟩,
 ⟨some 23,.call ⟨.value (.func 47),#[(.tmp 22)],#[88]⟩,3,none⟩,
 ⟨some 24,.call ⟨.value (.func 126),#[(.tmp 18),(.const (.int .i64 2)),(.tmp 23)],#[9,3,3]⟩,135,none⟩,
 ⟨some 17,.move (.tmp 24),135,none⟩,
 ⟨some 25,.extract (.tmp 17) 0,3,none⟩,
 ⟨some 26,.extract (.tmp 17) 1,4,none⟩,
 ⟨some 6,.assign (.tmp 25),3,none⟩,
 ⟨some 7,.assign (.tmp 26),4,none⟩] [0,4,6,7]) (sg c64S5))
def c64S7(_:Unit):Cmd:=(.seq (.seq (.ops [
 ⟨some 14,.move (.tmp 5),30,none⟩,
 ⟨some 15,.binOp .neq 30 (.tmp 14) (.const (.int .i64 0)) 30,4,none⟩] [0,4,5,15])
 (.cond (.tmp 15)
 (.seq (.ops [
 ⟨some 16,.move (.tmp 5),30,none⟩,
 ⟨some 2,.assign (.const (.int .i64 0)),3,none⟩,
 ⟨some 3,.assign (.tmp 16),30,none⟩] [2,3])
 .ret)
 (.skip [0,4]))) (sg c64S6))
def c64:Cmd:=(.seq (.ops [
 ⟨some 2,.assign (.const (.int .i64 0)),3,none⟩,
 ⟨some 3,.assign (.const (.int .i64 0)),30,none⟩] [0])
 (.seq (.ops [
 ⟨some 10,.move (.tmp 0),24,none⟩,
 ⟨some 11,.call ⟨.value (.func 46),#[(.tmp 10)],#[24]⟩,50,none⟩,
 ⟨some 9,.move (.tmp 11),50,none⟩,
 ⟨some 12,.extract (.tmp 9) 0,9,none⟩,
 ⟨some 13,.extract (.tmp 9) 1,30,none⟩,
 ⟨some 4,.assign (.tmp 12),9,none⟩,
 ⟨some 5,.assign (.tmp 13),30,none⟩] [0,4,5]) (sg c64S7)))
attribute [go_sem] c64 c64S0 c64S1 c64S2 c64S3 c64S4 c64S5 c64S6 c64S7
theorem ent64(a0:Value)(w:World)(K:Value→World→Prop)(h:W Tryz.prog c64 [(0,a0)] w (finQ Tryz.prog [.tmp 2,.tmp 3] K)):Ret Tryz.prog 64 [a0] w K :=
 Ret_of_W (code:=c64code) Tryz.func64 (by kernel_rfl) (by kernel_rfl) (of_decide_eq_true (by kernel_rfl)) h
@[go_sem] theorem go64:goFunc Tryz.prog 64=true:=by kernel_rfl
def c66code:Code:=match Tryz.f66.body with | some c=>c | none=>.skip
def c66S0(_:Unit):Cmd:=(.seq (.ops [
 ⟨some 18,.move (.tmp 8),30,none⟩,
 ⟨some 19,.binOp .neq 30 (.tmp 18) (.const (.int .i64 0)) 30,4,none⟩] [0,1,2,8,19])
 (.cond (.tmp 19)
 (.seq (.ops [
 ⟨some 20,.move (.tmp 8),30,none⟩,
 ⟨some 6,.assign (.tmp 20),30,none⟩] [6])
 .ret)
 (.skip [0,1,2])))
def c66S1(_:Unit):Cmd:=(.seq (.ops [
 ⟨some 26,.move (.tmp 9),30,none⟩,
 ⟨some 27,.binOp .neq 30 (.tmp 26) (.const (.int .i64 0)) 30,4,none⟩] [0,1,2,9,27])
 (.cond (.tmp 27)
 (.seq (.ops [
 ⟨some 28,.move (.tmp 9),30,none⟩,
 ⟨some 6,.assign (.tmp 28),30,none⟩] [6])
 .ret)
 (.skip [0,1,2])))
def c66S2(_:Unit):Cmd:=.ret
def c66S3(_:Unit):Cmd:=(.seq (.draw (drawOps 0 c66code) [6]) (sg c66S2))
def c66S4(_:Unit):Cmd:=(.seq (.seq (.ops [
 ⟨some 34,.move (.tmp 11),30,none⟩,
 ⟨some 35,.binOp .neq 30 (.tmp 34) (.const (.int .i64 0)) 30,4,none⟩] [0,1,2,10,11,35])
 (.cond (.tmp 35)
 (.seq (.ops [
 ⟨some 36,.move (.tmp 11),30,none⟩,
 ⟨some 6,.assign (.tmp 36),30,none⟩] [6])
 .ret)
 (.skip [0,1,2,10]))) (sg c66S3))
def c66S5(_:Unit):Cmd:=(.seq (.ops [
 ⟨some 30,.move (.tmp 0),24,none⟩,
 ⟨some 31,.call ⟨.value (.func 97),#[(.tmp 30),(.const (.int .i64 1))],#[24,3]⟩,50,none⟩,
 ⟨some 29,.move (.tmp 31),50,none⟩,
 ⟨some 32,.extract (.tmp 29) 0,9,none⟩,
 ⟨some 33,.extract (.tmp 29) 1,30,none⟩,
 ⟨some 10,.assign (.tmp 32),9,none⟩,
 ⟨some 11,.assign (.tmp 33),30,none⟩] [0,1,2,10,11]) (sg c66S4))
def c66S6(_:Unit):Cmd:=(.seq (.seq (.ops [
 ⟨some 21,.move (.tmp 2),3,none⟩,
 ⟨some 22,.binOp .neq 3 (.tmp 21) (.const (.int .i64 0)) 3,4,none⟩] [0,1,2,22])
 (.cond (.tmp 22)
 (.seq (.ops [
 ⟨some 23,.move (.tmp 0),24,none⟩,
 ⟨some 24,.move (.tmp 2),3,none⟩,
 ⟨some 25,.call ⟨.value (.func 69),#[(.tmp 23),(.tmp 24)],#[24,3]⟩,30,none⟩,
 ⟨some 9,.assign (.tmp 25),30,none⟩] [0,1,2,9]) (sg c66S1))
 (.skip [0,1,2]))) (sg c66S5))
def c66:Cmd:=(.seq (.ops [
 ⟨some 6,.assign (.const (.int .i64 0)),30,none⟩] [0,1,2])
 (.seq (.seq (.ops [
 ⟨some 13,.move (.tmp 0),24,none⟩,
 ⟨some 14,.move (.tmp 1),3,none⟩,
 ⟨some 15,.call ⟨.value (.func 36),#[(.tmp 13),(.tmp 14)],#[24,3]⟩,31,none⟩,
 ⟨some 12,.move (.tmp 15),31,none⟩,
 ⟨some 16,.extract (.tmp 12) 0,3,none⟩,
 ⟨some 17,.extract (.tmp 12) 1,30,none⟩,
 ⟨some 7,.assign (.tmp 16),3,none⟩,
 ⟨some 8,.assign (.tmp 17),30,none⟩] [0,1,2,8]) (sg c66S0)) (sg c66S6)))
attribute [go_sem] c66 c66S0 c66S1 c66S2 c66S3 c66S4 c66S6
def c66D0:List (Bool × Ins):=[
 (true,⟨some 37,.move (.tmp 0),24,none⟩),
 (true,⟨some 38,.move (.tmp 10),9,none⟩),
 (true,⟨some 39,.move (.tmp 1),3,none⟩),
 (true,⟨some 40,.binOp .mul 3 (.const (.int .i64 4)) (.tmp 39) 3,3,none⟩),
 (true,⟨some 41,.slice 9 (.tmp 38) none (some (.tmp 40)) none,9,none⟩),
 (true,⟨some 42,.move (.tmp 2),3,none⟩),
 (true,⟨some 43,.convert 3 147 (.tmp 42),147,none⟩),
 (true,⟨some 46,.move (.tmp 10),9,none⟩),
 (true,⟨some 47,.move (.tmp 1),3,none⟩),
 (true,⟨some 48,.binOp .mul 3 (.const (.int .i64 4)) (.tmp 47) 3,3,none⟩),
 (true,⟨some 49,.binOp .add 3 (.tmp 48) (.const (.int .i64 4)) 3,3,none⟩),
 (true,⟨some 50,.slice 9 (.tmp 46) (some (.tmp 49)) none none,9,none⟩),
 (false,⟨some 44,.call ⟨.value (.func 118),#[(.tmp 43),(.const (.int .i64 4))],#[147,3]⟩,9,none⟩),
 (true,⟨some 45,.binOp .add 9 (.tmp 41) (.tmp 44) 9,9,none⟩),
 (true,⟨some 51,.binOp .add 9 (.tmp 45) (.tmp 50) 9,9,none⟩),
 (false,⟨some 52,.call ⟨.value (.func 70),#[(.tmp 37),(.const (.int .i64 1)),(.tmp 51)],#[24,3,9]⟩,30,none⟩),
 (true,⟨some 6,.assign (.tmp 52),30,none⟩)]
theorem c66draw0{L:List Nat}{ρ:Env}{w:World}{Q:Post}(h:DL Tryz.prog c66D0 L ρ w.drew Q):drawW Tryz.prog (drawOps 0 c66code) L ρ w Q :=
 drawW_by [(true,0),(true,1),(true,2),(true,3),(true,4),(true,5),(true,6),(true,9),(true,10),(true,11),(true,12),(true,13),(false,7),(true,8),(true,14),(false,15),(true,16)] c66D0 (by kernel_rfl) (by kernel_rfl) (by kernel_rfl) h
theorem ent66(a0 a1 a2:Value)(w:World)(K:Value→World→Prop)(h:W Tryz.prog c66 [(0,a0),(1,a1),(2,a2)] w (finQ Tryz.prog [.tmp 6] K)):Ret Tryz.prog 66 [a0,a1,a2] w K :=
 Ret_of_W (code:=c66code) Tryz.func66 (by kernel_rfl) (by kernel_rfl) (of_decide_eq_true (by kernel_rfl)) h
@[go_sem] theorem go66:goFunc Tryz.prog 66=true:=by kernel_rfl
def c69code:Code:=match Tryz.f69.body with | some c=>c | none=>.skip
def c69S0(_:Unit):Cmd:=(.cond (.tmp 32)
 (.ops [
 ⟨some 6,.assign (.const (.int .i64 6)),30,none⟩] [6])
 (.skip [6]))
def c69S1(_:Unit):Cmd:=(.seq (.ops [
 ⟨some 33,.move (.tmp 6),30,none⟩,
 ⟨some 4,.assign (.tmp 33),30,none⟩] [4])
 .ret)
def c69S2(_:Unit):Cmd:=(.seq (.seq (.ops [
 ⟨some 12,.move (.tmp 6),30,none⟩,
 ⟨some 13,.binOp .eql 30 (.tmp 12) (.const (.int .i64 0)) 30,4,none⟩,
 ⟨some 14,.move (.tmp 13),4,none⟩,
 ⟨some 15,.move (.tmp 1),3,(some (14,true))⟩,
 ⟨some 16,.binOp .lss 3 (.tmp 15) (.const (.int .i64 2)) 3,4,(some (14,true))⟩,
 ⟨some 17,.move (.tmp 16),4,(some (14,true))⟩,
 ⟨some 18,.move (.tmp 1),3,(some (17,false))⟩,
 ⟨some 19,.move (.tmp 0),24,(some (17,false))⟩,
 ⟨some 20,.nilCheck (.tmp 19),0,(some (17,false))⟩,
 ⟨some 21,.fieldAddr 98 (.tmp 20) 0,0,(some (17,false))⟩,
 ⟨some 22,.load 88 (.tmp 21),88,(some (17,false))⟩,
 ⟨some 23,.call ⟨.value (.func 47),#[(.tmp 22)],#[88]⟩,3,(some (17,false))⟩,
 ⟨some 24,.binOp .geq 3 (.tmp 18) (.tmp 23) 3,4,(some (17,false))⟩,
 ⟨some 25,.pick (.tmp 17) (.const (.bool true)) (.tmp 24),4,(some (14,true))⟩,
 ⟨some 26,.move (.tmp 25),4,(some (14,true))⟩,
 ⟨some 27,.move (.tmp 5),9,(some (26,false))⟩,
 ⟨some 28,.move (.tmp 1),3,(some (26,false))⟩,
 ⟨some 29,.call ⟨.value (.func 49),#[(.tmp 27),(.tmp 28)],#[9,3]⟩,4,(some (26,false))⟩,
 ⟨some 30,.unOp .not 4 (.tmp 29),4,(some (26,false))⟩,
 ⟨some 31,.pick (.tmp 26) (.const (.bool true)) (.tmp 30),4,(some (14,true))⟩,
 ⟨some 32,.pick (.tmp 14) (.tmp 31) (.const (.bool false)),4,none⟩] [6,32]) (sg c69S0)) (sg c69S1))
def c69:Cmd:=(.seq (.ops [
 ⟨some 4,.assign (.const (.int .i64 0)),30,none⟩] [0,1])
 (.seq (.ops [
 ⟨some 8,.move (.tmp 0),24,none⟩,
 ⟨some 9,.call ⟨.value (.func 46),#[(.tmp 8)],#[24]⟩,50,none⟩,
 ⟨some 7,.move (.tmp 9),50,none⟩,
 ⟨some 10,.extract (.tmp 7) 0,9,none⟩,
 ⟨some 11,.extract (.tmp 7) 1,30,none⟩,
 ⟨some 5,.assign (.tmp 10),9,none⟩,
 ⟨some 6,.assign (.tmp 11),30,none⟩] [0,1,5,6]) (sg c69S2)))
attribute [go_sem] c69 c69S0 c69S1 c69S2
theorem ent69(a0 a1:Value)(w:World)(K:Value→World→Prop)(h:W Tryz.prog c69 [(0,a0),(1,a1)] w (finQ Tryz.prog [.tmp 4] K)):Ret Tryz.prog 69 [a0,a1] w K :=
 Ret_of_W (code:=c69code) Tryz.func69 (by kernel_rfl) (by kernel_rfl) (of_decide_eq_true (by kernel_rfl)) h
@[go_sem] theorem go69:goFunc Tryz.prog 69=true:=by kernel_rfl
def c70code:Code:=match Tryz.f70.body with | some c=>c | none=>.skip
def c70S0(_:Unit):Cmd:=.ret
def c70S1(_:Unit):Cmd:=(.seq (.ops [
 ⟨some 13,.move (.tmp 0),24,none⟩,
 ⟨some 14,.nilCheck (.tmp 13),0,none⟩,
 ⟨some 15,.fieldAddr 98 (.tmp 14) 0,0,none⟩,
 ⟨some 16,.load 88 (.tmp 15),88,none⟩,
 ⟨some 17,.move (.tmp 1),3,none⟩,
 ⟨some 18,.move (.tmp 2),9,none⟩,
 ⟨some 19,.call ⟨.value (.func 132),#[(.tmp 16),(.tmp 17),(.tmp 18)],#[88,3,9]⟩,30,none⟩,
 ⟨some 6,.assign (.tmp 19),30,none⟩] [6]) (sg c70S0))
def c70:Cmd:=(.seq (.ops [
 ⟨some 6,.assign (.const (.int .i64 0)),30,none⟩] [0,1,2])
 (.seq (.ops [
 ⟨some 7,.move (.tmp 0),24,none⟩,
 ⟨some 8,.nilCheck (.tmp 7),0,none⟩,
 ⟨some 9,.fieldAddr 98 (.tmp 8) 1,0,none⟩,
 ⟨some 10,.load 96 (.tmp 9),96,none⟩,
 ⟨some 11,.move (.tmp 1),3,none⟩,
 ⟨some 12,.call ⟨.value (.func 131),#[(.tmp 10),(.tmp 11)],#[96,3]⟩,4,none⟩] [0,1,2]) (sg c70S1)))
attribute [go_sem] c70 c70S0 c70S1
theorem ent70(a0 a1 a2:Value)(w:World)(K:Value→World→Prop)(h:W Tryz.prog c70 [(0,a0),(1,a1),(2,a2)] w (finQ Tryz.prog [.tmp 6] K)):Ret Tryz.prog 70 [a0,a1,a2] w K :=
 Ret_of_W (code:=c70code) Tryz.func70 (by kernel_rfl) (by kernel_rfl) (of_decide_eq_true (by kernel_rfl)) h
@[go_sem] theorem go70:goFunc Tryz.prog 70=true:=by kernel_rfl
def c81code:Code:=match Tryz.f81.body with | some c=>c | none=>.skip
def c81S0(_:Unit):Cmd:=(.seq (.ops [
 ⟨some 11,.move (.tmp 5),30,none⟩,
 ⟨some 12,.binOp .neq 30 (.tmp 11) (.const (.int .i64 0)) 30,4,none⟩] [0,1,5,12])
 (.cond (.tmp 12)
 (.seq (.ops [
 ⟨some 13,.move (.tmp 5),30,none⟩,
 ⟨some 4,.assign (.tmp 13),30,none⟩] [4])
 .ret)
 (.skip [0,1])))
def c81S1(_:Unit):Cmd:=.ret
def c81S2(_:Unit):Cmd:=(.seq (.ops [
 ⟨some 25,.move (.tmp 0),24,none⟩,
 ⟨some 26,.move (.tmp 6),9,none⟩,
 ⟨some 27,.call ⟨.value (.func 70),#[(.tmp 25),(.const (.int .i64 0)),(.tmp 26)],#[24,3,9]⟩,30,none⟩,
 ⟨some 4,.assign (.tmp 27),30,none⟩] [4]) (sg c81S1))
def c81S3(_:Unit):Cmd:=(.seq (.ops [
 ⟨some 20,.move (.tmp 6),9,none⟩,
 ⟨some 21,.move (.tmp 1),3,none⟩,
 ⟨some 22,.call ⟨.value (.func 115),#[(.tmp 20),(.tmp 21),(.const (.bool false))],#[9,3,4]⟩,72,none⟩,
 ⟨some 19,.move (.tmp 22),72,none⟩,
 ⟨some 23,.extract (.tmp 19) 0,9,none⟩,
 ⟨some 24,.extract (.tmp 19) 1,4,none⟩,
 ⟨some 6,.assign (.tmp 23),9,none⟩] [0,6]) (sg c81S2))
def c81S4(_:Unit):Cmd:=(.seq (.ops [
 ⟨some 15,.move (.tmp 0),24,none⟩,
 ⟨some 16,.call ⟨.value (.func 46),#[(.tmp 15)],#[24]⟩,50,none⟩,
 ⟨some 14,.move (.tmp 16),50,none⟩,
 ⟨some 17,.extract (.tmp 14) 0,9,none⟩,
 ⟨some 18,.extract (.tmp 14) 1,30,none⟩,
 ⟨some 6,.assign (.tmp 17),9,none⟩,
 ⟨some 7,.assign (.tmp 18),30,none⟩] [0,1,6]) (sg c81S3))
def c81:Cmd:=(.seq (.ops [
 ⟨some 4,.assign (.const (.int .i64 0)),30,none⟩] [0,1])
 (.seq (.seq (.ops [
 ⟨some 8,.move (.tmp 0),24,none⟩,
 ⟨some 9,.move (.tmp 1),3,none⟩,
 ⟨some 10,.call ⟨.value (.func 69),#[(.tmp 8),(.tmp 9)],#[24,3]⟩,30,none⟩,
 ⟨some 5,.assign (.tmp 10),30,none⟩] [0,1,5]) (sg c81S0)) (sg c81S4)))
attribute [go_sem] c81 c81S0 c81S1 c81S2 c81S3 c81S4
theorem ent81(a0 a1:Value)(w:World)(K:Value→World→Prop)(h:W Tryz.prog c81 [(0,a0),(1,a1)] w (finQ Tryz.prog [.tmp 4] K)):Ret Tryz.prog 81 [a0,a1] w K :=
 Ret_of_W (code:=c81code) Tryz.func81 (by kernel_rfl) (by kernel_rfl) (of_decide_eq_true (by kernel_rfl)) h
@[go_sem] theorem go81:goFunc Tryz.prog 81=true:=by kernel_rfl
def c84code:Code:=match Tryz.f84.body with | some c=>c | none=>.skip
def c84S0(_:Unit):Cmd:=(.ops [
 ⟨some 6,.assign (.const (.bool true)),4,none⟩] [0,3,5,6,7])
def c84S1(_:Unit):Cmd:=(.cond (.tmp 25)
 (.seq (.ops [
 ⟨some 26,.move (.tmp 5),63,none⟩,
 ⟨some 27,.load 71 (.tmp 3),71,none⟩,
 ⟨some 28,.buildSlice 63 1 #[(0,(.tmp 27))],63,none⟩,
 ⟨some 29,.call ⟨.builtin .append,#[(.tmp 26),(.tmp 28)],#[63,63]⟩,63,none⟩,
 ⟨some 5,.assign (.tmp 29),63,none⟩] [0,3,5,7]) (sg c84S0))
 (.skip [0,3,5,6,7]))
def c84S2(_:Unit):Cmd:=(.ops [
 ⟨some 30,.move (.tmp 5),63,none⟩,
 ⟨some 31,.move (.tmp 0),63,none⟩,
 ⟨some 32,.move (.tmp 7),3,none⟩,
 ⟨some 33,.indexAddr 63 (.tmp 31) (.tmp 32),0,none⟩,
 ⟨some 34,.load 71 (.tmp 33),71,none⟩,
 ⟨some 35,.buildSlice 63 1 #[(0,(.tmp 34))],63,none⟩,
 ⟨some 36,.call ⟨.builtin .append,#[(.tmp 30),(.tmp 35)],#[63,63]⟩,63,none⟩,
 ⟨some 5,.assign (.tmp 36),63,none⟩] [0,3,5,6,7])
def c84S3(_:Unit):Cmd:=(.ops [
 ⟨some 12,.move (.tmp 7),3,none⟩,
 ⟨some 13,.binOp .add 3 (.tmp 12) (.const (.int .i64 1)) 3,3,none⟩,
 ⟨some 7,.assign (.tmp 13),3,none⟩] [0,3,5,6,7])
def c84S4(_:Unit):Cmd:=(.seq (.block 1 (.seq (.seq (.draw (drawOps 0 c84code) [0,3,5,6,7,25]) (sg c84S1)) (sg c84S2))) (sg c84S3))
def c84L0(_:Unit):Cmd:=(.seq (.seq (.ops [
 ⟨some 8,.move (.tmp 7),3,none⟩,
 ⟨some 9,.move (.tmp 0),63,none⟩,
 ⟨some 10,.call ⟨.builtin .len,#[(.tmp 9)],#[63]⟩,3,none⟩,
 ⟨some 11,.binOp .lss 3 (.tmp 8) (.tmp 10) 3,4,none⟩] [0,3,5,6,7,11])
 (.cond (.tmp 11)
 (.skip [0,3,5,6,7])
 (.exit 0 [3,5,6]))) (sg c84S4))
def c84S5(_:Unit):Cmd:=(.seq (.ops [
 ⟨some 43,.move (.tmp 5),63,none⟩,
 ⟨some 4,.assign (.tmp 43),63,none⟩] [4])
 .ret)
def c84S6(_:Unit):Cmd:=(.seq (.seq (.ops [
 ⟨some 37,.move (.tmp 6),4,none⟩,
 ⟨some 38,.unOp .not 4 (.tmp 37),4,none⟩] [3,5,38])
 (.cond (.tmp 38)
 (.ops [
 ⟨some 39,.move (.tmp 5),63,none⟩,
 ⟨some 40,.load 71 (.tmp 3),71,none⟩,
 ⟨some 41,.buildSlice 63 1 #[(0,(.tmp 40))],63,none⟩,
 ⟨some 42,.call ⟨.builtin .append,#[(.tmp 39),(.tmp 41)],#[63,63]⟩,63,none⟩,
 ⟨some 5,.assign (.tmp 42),63,none⟩] [5])
 (.skip [5]))) (sg c84S5))
def c84:Cmd:=(.seq (.ops [
 ⟨some 3,.box 71 (.tmp 1),0,none⟩,
 ⟨some 4,.assign (.const (.slice none 0 0)),63,none⟩] [0,3])
 (.seq (.ops [
 ⟨some 5,.assign (.const (.slice none 0 0)),63,none⟩] [0,3,5])
 (.seq (.ops [
 ⟨some 6,.assign (.const (.bool false)),4,none⟩] [0,3,5,6])
 (.seq (.seq (.ops [
 ⟨some 7,.assign (.const (.int .i64 0)),3,none⟩] [0,3,5,6,7])
 (.block 0 (.loop (sg c84L0)))) (sg c84S6)))))
attribute [go_sem] c84 c84S0 c84S1 c84S2 c84S3 c84S4 c84S5 c84S6
def c84D0:List (Bool × Ins):=[
 (true,⟨some 14,.move (.tmp 6),4,none⟩),
 (true,⟨some 15,.unOp .not 4 (.tmp 14),4,none⟩),
 (true,⟨some 16,.move (.tmp 15),4,none⟩),
 (true,⟨some 17,.move (.tmp 0),63,(some (16,true))⟩),
 (true,⟨some 18,.move (.tmp 7),3,(some (16,true))⟩),
 (true,⟨some 19,.indexAddr 63 (.tmp 17) (.tmp 18),0,(some (16,true))⟩),
 (true,⟨some 20,.fieldAddr 71 (.tmp 19) 0,0,(some (16,true))⟩),
 (false,⟨some 21,.load 3 (.tmp 20),3,(some (16,true))⟩),
 (true,⟨some 22,.fieldAddr 71 (.tmp 3) 0,0,(some (16,true))⟩),
 (false,⟨some 23,.load 3 (.tmp 22),3,(some (16,true))⟩),
 (true,⟨some 24,.binOp .gtr 3 (.tmp 21) (.tmp 23) 3,4,(some (16,true))⟩),
 (true,⟨some 25,.pick (.tmp 16) (.tmp 24) (.const (.bool false)),4,none⟩)]
theorem c84draw0{L:List Nat}{ρ:Env}{w:World}{Q:Post}(h:DL Tryz.prog c84D0 L ρ w.drew Q):drawW Tryz.prog (drawOps 0 c84code) L ρ w Q :=
 drawW_still [true,true,true,true,true,true,true,false,true,false,true,true] c84D0 (by kernel_rfl) (by kernel_rfl) (by kernel_rfl) h
theorem ent84(a0 a1:Value)(w:World)(K:Value→World→Prop)(h:W Tryz.prog c84 [(0,a0),(1,a1)] w (finQ Tryz.prog [.tmp 4] K)):Ret Tryz.prog 84 [a0,a1] w K :=
 Ret_of_W (code:=c84code) Tryz.func84 (by kernel_rfl) (by kernel_rfl) (of_decide_eq_true (by kernel_rfl)) h
@[go_sem] theorem go84:goFunc Tryz.prog 84=true:=by kernel_rfl
def c85code:Code:=match Tryz.f85.body with | some c=>c | none=>.skip
def c85S0(_:Unit):Cmd:=(.ops [
 ⟨some 11,.move (.tmp 6),3,none⟩,
 ⟨some 12,.binOp .add 3 (.tmp 11) (.const (.int .i64 1)) 3,3,none⟩,
 ⟨some 6,.assign (.tmp 12),3,none⟩] [0,1,5,6])
def c85S1(_:Unit):Cmd:=(.seq (.block 1 (.seq (.ops [
 ⟨some 13,.move (.tmp 0),63,none⟩,
 ⟨some 14,.move (.tmp 6),3,none⟩,
 ⟨some 15,.indexAddr 63 (.tmp 13) (.tmp 14),0,none⟩,
 ⟨some 16,.fieldAddr 71 (.tmp 15) 0,0,none⟩,
 ⟨some 17,.load 3 (.tmp 16),3,none⟩,
 ⟨some 18,.move (.tmp 1),3,none⟩,
 ⟨some 19,.binOp .neq 3 (.tmp 17) (.tmp 18) 3,4,none⟩] [0,1,5,6,19])
 (.cond (.tmp 19)
 (.ops [
 ⟨some 20,.move (.tmp 5),63,none⟩,
 ⟨some 21,.move (.tmp 0),63,none⟩,
 ⟨some 22,.move (.tmp 6),3,none⟩,
 ⟨some 23,.indexAddr 63 (.tmp 21) (.tmp 22),0,none⟩,
 ⟨some 24,.load 71 (.tmp 23),71,none⟩,
 ⟨some 25,.buildSlice 63 1 #[(0,(.tmp 24))],63,none⟩,
 ⟨some 26,.call ⟨.builtin .append,#[(.tmp 20),(.tmp 25)],#[63,63]⟩,63,none⟩,
 ⟨some 5,.assign (.tmp 26),63,none⟩] [0,1,5,6])
 (.skip [0,1,5,6])))) (sg c85S0))
def c85L0(_:Unit):Cmd:=(.seq (.seq (.ops [
 ⟨some 7,.move (.tmp 6),3,none⟩,
 ⟨some 8,.move (.tmp 0),63,none⟩,
 ⟨some 9,.call ⟨.builtin .len,#[(.tmp 8)],#[63]⟩,3,none⟩,
 ⟨some 10,.binOp .lss 3 (.tmp 7) (.tmp 9) 3,4,none⟩] [0,1,5,6,10])
 (.cond (.tmp 10)
 (.skip [0,1,5,6])
 (.exit 0 [5]))) (sg c85S1))
def c85S2(_:Unit):Cmd:=(.seq (.ops [
 ⟨some 27,.move (.tmp 5),63,none⟩,
 ⟨some 4,.assign (.tmp 27),63,none⟩] [4])
 .ret)
def c85:Cmd:=(.seq (.ops [
 ⟨some 4,.assign (.const (.slice none 0 0)),63,none⟩] [0,1])
 (.seq (.ops [
 ⟨some 5,.assign (.const (.slice none 0 0)),63,none⟩] [0,1,5])
 (.seq (.seq (.ops [
 ⟨some 6,.assign (.const (.int .i64 0)),3,none⟩] [0,1,5,6])
 (.block 0 (.loop (sg c85L0)))) (sg c85S2))))
attribute [go_sem] c85 c85S0 c85S1 c85S2
theorem ent85(a0 a1:Value)(w:World)(K:Value→World→Prop)(h:W Tryz.prog c85 [(0,a0),(1,a1)] w (finQ Tryz.prog [.tmp 4] K)):Ret Tryz.prog 85 [a0,a1] w K :=
 Ret_of_W (code:=c85code) Tryz.func85 (by kernel_rfl) (by kernel_rfl) (of_decide_eq_true (by kernel_rfl)) h
@[go_sem] theorem go85:goFunc Tryz.prog 85=true:=by kernel_rfl
def c86code:Code:=match Tryz.f86.body with | some c=>c | none=>.skip
def c86S0(_:Unit):Cmd:=(.cond (.tmp 6)
 (.seq (.ops [
 ⟨some 2,.assign (.const (.int .i64 3)),30,none⟩] [2])
 .ret)
 (.skip [0]))
def c86S1(_:Unit):Cmd:=(.seq (.ops [
 ⟨some 16,.move (.tmp 3),30,none⟩,
 ⟨some 2,.assign (.tmp 16),30,none⟩] [2])
 .ret)
def c86S2(_:Unit):Cmd:=(.seq (.seq (.ops [
 ⟨some 12,.move (.tmp 3),30,none⟩,
 ⟨some 13,.binOp .neq 30 (.tmp 12) (.const (.int .i64 0)) 30,4,none⟩] [0,3,13])
 (.cond (.tmp 13)
 (.ops [
 ⟨some 14,.move (.tmp 0),24,none⟩,
 ⟨some 15,.call ⟨.value (.func 142),#[(.tmp 14)],#[24]⟩,0,none⟩] [3])
 (.skip [3]))) (sg c86S1))
def c86S3(_:Unit):Cmd:=(.seq (.ops [
 ⟨some 7,.move (.tmp 0),24,none⟩,
 ⟨some 8,.nilCheck (.tmp 7),0,none⟩,
 ⟨some 9,.fieldAddr 98 (.tmp 8) 0,0,none⟩,
 ⟨some 10,.load 88 (.tmp 9),88,none⟩,
 ⟨some 11,.call ⟨.value (.func 141),#[(.tmp 10)],#[88]⟩,30,none⟩,
 ⟨some 3,.assign (.tmp 11),30,none⟩] [0,3]) (sg c86S2))
def c86:Cmd:=(.seq (.ops [
 ⟨some 2,.assign (.const (.int .i64 0)),30,none⟩] [0])
 (.seq (.seq (.ops [
 ⟨some 4,.move (.tmp 0),24,none⟩,
 ⟨some 5,.call ⟨.value (.func 96),#[(.tmp 4)],#[24]⟩,4,none⟩,
 ⟨some 6,.unOp .not 4 (.tmp 5),4,none⟩] [0,6]) (sg c86S0)) (sg c86S3)))
attribute [go_sem] c86 c86S0 c86S1 c86S2 c86S3
theorem ent86(a0:Value)(w:World)(K:Value→World→Prop)(h:W Tryz.prog c86 [(0,a0)] w (finQ Tryz.prog [.tmp 2] K)):Ret Tryz.prog 86 [a0] w K :=
 Ret_of_W (code:=c86code) Tryz.func86 (by kernel_rfl) (by kernel_rfl) (of_decide_eq_true (by kernel_rfl)) h
@[go_sem] theorem go86:goFunc Tryz.prog 86=true:=by kernel_rfl
def c87code:Code:=match Tryz.f87.body with | some c=>c | none=>.skip
def c87:Cmd:=(.seq (.ops [
 ⟨some 1,.box 27 (.tmp 0),0,none⟩,
 ⟨some 2,.assign (.const .nilFunc),141,none⟩] [1])
 (.seq (.ops [
 ⟨some 3,.makeFunc (.func 143) #[] #[(.tmp 1)],140,none⟩,
 ⟨some 2,.assign (.tmp 3),141,none⟩] [2])
 .ret))
attribute [go_sem] c87
theorem ent87(a0:Value)(w:World)(K:Value→World→Prop)(h:W Tryz.prog c87 [(0,a0)] w (finQ Tryz.prog [.tmp 2] K)):Ret Tryz.prog 87 [a0] w K :=
 Ret_of_W (code:=c87code) Tryz.func87 (by kernel_rfl) (by kernel_rfl) (of_decide_eq_true (by kernel_rfl)) h
@[go_sem] theorem go87:goFunc Tryz.prog 87=true:=by kernel_rfl
def c88code:Code:=match Tryz.f88.body with | some c=>c | none=>.skip
def c88:Cmd:=(.seq (.ops [
 ⟨some 8,.assign (.const (.bool false)),4,none⟩] [0,1,2,3,4,5])
 (.seq (.ops [
 ⟨some 9,.load 4 (.tmp 2),4,none⟩,
 ⟨some 10,.move (.tmp 9),4,none⟩,
 ⟨some 11,.load 3 (.tmp 3),3,(some (10,true))⟩,
 ⟨some 12,.load 63 (.tmp 4),63,(some (10,true))⟩,
 ⟨some 13,.call ⟨.builtin .len,#[(.tmp 12)],#[63]⟩,3,(some (10,true))⟩,
 ⟨some 14,.binOp .lss 3 (.tmp 11) (.tmp 13) 3,4,(some (10,true))⟩,
 ⟨some 15,.pick (.tmp 10) (.tmp 14) (.const (.bool false)),4,none⟩,
 ⟨some 16,.move (.tmp 15),4,none⟩,
 ⟨some 17,.load 63 (.tmp 4),63,(some (16,true))⟩,
 ⟨some 18,.load 3 (.tmp 3),3,(some (16,true))⟩,
 ⟨some 19,.indexAddr 63 (.tmp 17) (.tmp 18),0,(some (16,true))⟩,
 ⟨some 20,.fieldAddr 71 (.tmp 19) 0,0,(some (16,true))⟩,
 ⟨some 21,.load 3 (.tmp 20),3,(some (16,true))⟩,
 ⟨some 22,.move (.tmp 0),3,(some (16,true))⟩,
 ⟨some 23,.binOp .eql 3 (.tmp 21) (.tmp 22) 3,4,(some (16,true))⟩,
 ⟨some 24,.pick (.tmp 16) (.tmp 23) (.const (.bool false)),4,none⟩,
 ⟨some 25,.move (.tmp 24),4,none⟩,
 ⟨some 26,.load 63 (.tmp 4),63,(some (25,true))⟩,
 ⟨some 27,.load 3 (.tmp 3),3,(some (25,true))⟩,
 ⟨some 28,.indexAddr 63 (.tmp 26) (.tmp 27),0,(some (25,true))⟩,
 ⟨some 29,.fieldAddr 71 (.tmp 28) 1,0,(some (25,true))⟩,
 ⟨some 30,.load 9 (.tmp 29),9,(some (25,true))⟩,
 ⟨some 31,.move (.tmp 1),9,(some (25,true))⟩,
 ⟨some 32,.binOp .eql 9 (.tmp 30) (.tmp 31) 9,4,(some (25,true))⟩,
 ⟨some 33,.pick (.tmp 25) (.tmp 32) (.const (.bool false)),4,none⟩,
 ⟨none,.store 4 (.tmp 2) (.tmp 33),0,none⟩] [3,5])
 (.seq (.ops [
 ⟨some 34,.load 3 (.tmp 3),3,none⟩,
 ⟨some 35,.binOp .add 3 (.tmp 34) (.const (.int .i64 1)) 3,3,none⟩,
 ⟨none,.store 3 (.tmp 3) (.tmp 35),0,none⟩] [3,5])
 (.seq (.ops [
 ⟨some 36,.load 3 (.tmp 3),3,none⟩,
 ⟨some 37,.load 3 (.tmp 5),3,none⟩,
 ⟨some 38,.binOp .lss 3 (.tmp 36) (.tmp 37) 3,4,none⟩,
 ⟨some 8,.assign (.tmp 38),4,none⟩] [8])
 .ret))))
attribute [go_sem] c88
theorem ent88(a0 a1 a2 a3 a4 a5:Value)(w:World)(K:Value→World→Prop)(h:W Tryz.prog c88 [(0,a0),(1,a1),(2,a2),(3,a3),(4,a4),(5,a5)] w (finQ Tryz.prog [.tmp 8] K)):Ret Tryz.prog 88 [a0,a1,a2,a3,a4,a5] w K :=
 Ret_of_W (code:=c88code) Tryz.func88 (by kernel_rfl) (by kernel_rfl) (of_decide_eq_true (by kernel_rfl)) h
@[go_sem] theorem go88:goFunc Tryz.prog 88=true:=by kernel_rfl
def c89code:Code:=match Tryz.f89.body with | some c=>c | none=>.skip
def c89S0(_:Unit):Cmd:=(.cond (.tmp 18)
 (.seq (.ops [
 ⟨none,.store 3 (.tmp 4) (.const (.int .i64 0)),0,none⟩,
 ⟨none,.store 3 (.tmp 5) (.const (.int .i64 0)),0,none⟩,
 ⟨none,.store 9 (.tmp 6) (.const (.string (ofL []))),0,none⟩,
 ⟨none,.store 9 (.tmp 7) (.const (.string (ofL []))),0,none⟩,
 ⟨none,.store 30 (.tmp 8) (.const (.int .i64 3)),0,none⟩] [4,5,6,7,8])
 .ret)
 (.skip [2,3,4,5,6,7,8]))
def c89S1(_:Unit):Cmd:=(.seq (.ops [
 ⟨some 48,.move (.tmp 15),4,none⟩] [4,5,6,7,8,10,11,12,14,48])
 (.cond (.tmp 48)
 (.seq (.ops [
 ⟨some 49,.move (.tmp 10),3,none⟩,
 ⟨some 50,.move (.tmp 11),3,none⟩,
 ⟨some 51,.move (.tmp 12),9,none⟩,
 ⟨some 52,.move (.tmp 14),9,none⟩,
 ⟨none,.store 3 (.tmp 4) (.tmp 49),0,none⟩,
 ⟨none,.store 3 (.tmp 5) (.tmp 50),0,none⟩,
 ⟨none,.store 9 (.tmp 6) (.tmp 51),0,none⟩,
 ⟨none,.store 9 (.tmp 7) (.tmp 52),0,none⟩,
 ⟨none,.store 30 (.tmp 8) (.const (.int .i64 0)),0,none⟩] [])
 .ret)
 (.skip [])))
def c89S2(_:Unit):Cmd:=(.seq (.ops [
 ⟨some 42,.move (.tmp 12),9,none⟩,
 ⟨some 43,.load 3 (.tmp 3),3,none⟩,
 ⟨some 44,.binOp .rem 3 (.tmp 43) (.const (.int .i64 256)) 3,3,none⟩,
 ⟨some 45,.call ⟨.value (.func 144),#[(.tmp 42),(.tmp 44)],#[9,3]⟩,72,none⟩,
 ⟨some 41,.move (.tmp 45),72,none⟩,
 ⟨some 46,.extract (.tmp 41) 0,9,none⟩,
 ⟨some 47,.extract (.tmp 41) 1,4,none⟩,
 ⟨some 14,.assign (.tmp 46),9,none⟩,
 ⟨some 15,.assign (.tmp 47),4,none⟩] [4,5,6,7,8,10,11,12,14,15]) (sg c89S1))
def c89S3(_:Unit):Cmd:=(.seq (.seq (.ops [
 ⟨some 38,.move (.tmp 13),30,none⟩,
 ⟨some 39,.binOp .neq 30 (.tmp 38) (.const (.int .i64 0)) 30,4,none⟩] [3,4,5,6,7,8,10,11,12,13,39])
 (.cond (.tmp 39)
 (.seq (.ops [
 ⟨some 40,.move (.tmp 13),30,none⟩,
 ⟨none,.store 3 (.tmp 4) (.const (.int .i64 0)),0,none⟩,
 ⟨none,.store 3 (.tmp 5) (.const (.int .i64 0)),0,none⟩,
 ⟨none,.store 9 (.tmp 6) (.const (.string (ofL []))),0,none⟩,
 ⟨none,.store 9 (.tmp 7) (.const (.string (ofL []))),0,none⟩,
 ⟨none,.store 30 (.tmp 8) (.tmp 40),0,none⟩] [])
 .ret)
 (.skip [3,4,5,6,7,8,10,11,12]))) (sg c89S2))
def c89S4(_:Unit):Cmd:=(.seq (.ops [
 ⟨some 32,.load 27 (.tmp 2),27,none⟩,
 ⟨some 33,.move (.tmp 10),3,none⟩,
 ⟨some 34,.call ⟨.value (.func 56),#[(.tmp 32),(.tmp 33)],#[27,3]⟩,109,none⟩,
 ⟨some 31,.move (.tmp 34),109,none⟩,
 ⟨some 35,.extract (.tmp 31) 0,3,none⟩,
 ⟨some 36,.extract (.tmp 31) 1,9,none⟩,
 ⟨some 37,.extract (.tmp 31) 2,30,none⟩,
 ⟨some 11,.assign (.tmp 35),3,none⟩,
 ⟨some 12,.assign (.tmp 36),9,none⟩,
 ⟨some 13,.assign (.tmp 37),30,none⟩] [3,4,5,6,7,8,10,11,12,13]) (sg c89S3))
def c89A0(_:Unit):Cmd:=(.ops [
 ⟨some 10,.assign (.tmp 22),3,none⟩] [2,3,4,5,6,7,8,10])
def c89B0(_:Unit):Cmd:=(.block 1 (.seq (.seq (.ops [
 ⟨some 23,.move (.tmp 10),3,none⟩,
 ⟨some 24,.load 3 (.tmp 3),3,none⟩,
 ⟨some 25,.binOp .quo 3 (.tmp 24) (.const (.int .i64 256)) 3,3,none⟩,
 ⟨some 26,.binOp .neq 3 (.tmp 23) (.tmp 25) 3,4,none⟩,
 ⟨some 27,.move (.tmp 26),4,none⟩,
 ⟨some 28,.load 3 (.tmp 3),3,(some (27,false))⟩,
 ⟨some 29,.binOp .lss 3 (.tmp 28) (.const (.int .i64 0)) 3,4,(some (27,false))⟩,
 ⟨some 30,.pick (.tmp 27) (.const (.bool true)) (.tmp 29),4,none⟩] [2,3,4,5,6,7,8,10,30])
 (.cond (.tmp 30)
 (.exit 1 [])
 (.skip [2,3,4,5,6,7,8,10]))) (sg c89S4)))
def c89S5(_:Unit):Cmd:=(.block 0 (.rangeF (.tmp 20) [21,22] (sg c89A0) (sg c89B0) [4,5,6,7,8]))
def c89S6(_:Unit):Cmd:=(.seq (.ops [
 ⟨none,.store 3 (.tmp 4) (.const (.int .i64 0)),0,none⟩,
 ⟨none,.store 3 (.tmp 5) (.const (.int .i64 0)),0,none⟩,
 ⟨none,.store 9 (.tmp 6) (.const (.string (ofL []))),0,none⟩,
 ⟨none,.store 9 (.tmp 7) (.const (.string (ofL []))),0,none⟩,
 ⟨none,.store 30 (.tmp 8) (.const (.int .i64 6)),0,none⟩] [4,5,6,7,8])
 .ret)
def c89S7(_:Unit):Cmd:=(.seq (.seq (.ops [
 ⟨some 19,.load 27 (.tmp 2),27,none⟩,
 ⟨some 20,.call ⟨.value (.func 55),#[(.tmp 19)],#[27]⟩,107,none⟩] [2,3,4,5,6,7,8,20]) (sg c89S5)) (sg c89S6))
def c89:Cmd:=(.seq (.ops [
 ⟨some 2,.box 27 (.tmp 0),0,none⟩,
 ⟨some 3,.box 3 (.tmp 1),0,none⟩,
 ⟨some 4,.alloc 3,0,none⟩,
 ⟨some 5,.alloc 3,0,none⟩,
 ⟨some 6,.alloc 9,0,none⟩,
 ⟨some 7,.alloc 9,0,none⟩,
 ⟨some 8,.alloc 30,0,none⟩] [2,3,4,5,6,7,8])
 (.seq (.seq (.ops [
 ⟨some 16,.load 27 (.tmp 2),27,none⟩,
 ⟨some 17,.call ⟨.value (.func 50),#[(.tmp 16)],#[27]⟩,4,none⟩,
 ⟨some 18,.unOp .not 4 (.tmp 17),4,none⟩] [2,3,4,5,6,7,8,18]) (sg c89S0)) (sg c89S7)))
attribute [go_sem] c89 c89S0 c89S1 c89S2 c89S3 c89S4 c89A0 c89S5 c89S6 c89S7
theorem ent89(a0 a1:Value)(w:World)(K:Value→World→Prop)(h:W Tryz.prog c89 [(0,a0),(1,a1)] w (finQ Tryz.prog [.cell 4 3,.cell 5 3,.cell 6 9,.cell 7 9,.cell 8 30] K)):Ret Tryz.prog 89 [a0,a1] w K :=
 Ret_of_W (code:=c89code) Tryz.func89 (by kernel_rfl) (by kernel_rfl) (of_decide_eq_true (by kernel_rfl)) h
@[go_sem] theorem go89:goFunc Tryz.prog 89=true:=by kernel_rfl
def c90code:Code:=match Tryz.f90.body with | some c=>c | none=>.skip
def c90S0(_:Unit):Cmd:=(.ops [
 ⟨some 45,.move (.tmp 9),3,none⟩,
 ⟨some 7,.assign (.tmp 45),3,none⟩] [0,6,7,8])
def c90S1(_:Unit):Cmd:=(.seq (.ops [
 ⟨some 34,.move (.tmp 8),9,none⟩,
 ⟨some 35,.move (.tmp 10),9,none⟩,
 ⟨some 36,.move (.tmp 10),9,none⟩,
 ⟨some 37,.call ⟨.builtin .len,#[(.tmp 36)],#[9]⟩,3,none⟩,
 ⟨some 38,.move (.tmp 6),3,none⟩,
 ⟨some 39,.move (.tmp 8),9,none⟩,
 ⟨some 40,.call ⟨.builtin .len,#[(.tmp 39)],#[9]⟩,3,none⟩,
 ⟨some 41,.binOp .sub 3 (.tmp 38) (.tmp 40) 3,3,none⟩,
 ⟨some 42,.call ⟨.builtin .min,#[(.tmp 37),(.tmp 41)],#[3,3]⟩,3,none⟩,
 ⟨some 43,.slice 9 (.tmp 35) none (some (.tmp 42)) none,9,none⟩,
 ⟨some 44,.binOp .add 9 (.tmp 34) (.tmp 43) 9,9,none⟩,
 ⟨some 8,.assign (.tmp 44),9,none⟩] [0,6,8,9]) (sg c90S0))
def c90S2(_:Unit):Cmd:=(.seq (.seq (.ops [
 ⟨some 31,.move (.tmp 11),30,none⟩,
 ⟨some 32,.binOp .neq 30 (.tmp 31) (.const (.int .i64 0)) 30,4,none⟩] [0,6,8,9,10,11,32])
 (.cond (.tmp 32)
 (.seq (.ops [
 ⟨some 33,.move (.tmp 11),30,none⟩,
 ⟨some 4,.assign (.const (.string (ofL []))),9,none⟩,
 ⟨some 5,.assign (.tmp 33),30,none⟩] [4,5])
 .ret)
 (.skip [0,6,8,9,10]))) (sg c90S1))
def c90S3(_:Unit):Cmd:=(.block 1 (.seq (.ops [
 ⟨some 25,.move (.tmp 0),27,none⟩,
 ⟨some 26,.move (.tmp 7),3,none⟩,
 ⟨some 27,.call ⟨.value (.func 56),#[(.tmp 25),(.tmp 26)],#[27,3]⟩,109,none⟩,
 ⟨some 24,.move (.tmp 27),109,none⟩,
 ⟨some 28,.extract (.tmp 24) 0,3,none⟩,
 ⟨some 29,.extract (.tmp 24) 1,9,none⟩,
 ⟨some 30,.extract (.tmp 24) 2,30,none⟩,
 ⟨some 9,.assign (.tmp 28),3,none⟩,
 ⟨some 10,.assign (.tmp 29),9,none⟩,
 ⟨some 11,.assign (.tmp 30),30,none⟩] [0,6,8,9,10,11]) (sg c90S2)))
def c90L0(_:Unit):Cmd:=(.seq (.seq (.ops [
 ⟨some 20,.move (.tmp 8),9,none⟩,
 ⟨some 21,.call ⟨.builtin .len,#[(.tmp 20)],#[9]⟩,3,none⟩,
 ⟨some 22,.move (.tmp 6),3,none⟩,
 ⟨some 23,.binOp .lss 3 (.tmp 21) (.tmp 22) 3,4,none⟩] [0,6,7,8,23])
 (.cond (.tmp 23)
 (.skip [0,6,7,8])
 (.exit 0 [8]))) (sg c90S3))
def c90S4(_:Unit):Cmd:=(.seq (.ops [
 ⟨some 46,.move (.tmp 8),9,none⟩,
 ⟨some 4,.assign (.tmp 46),9,none⟩,
 ⟨some 5,.assign (.const (.int .i64 0)),30,none⟩] [4,5])
 .ret)
def c90S5(_:Unit):Cmd:=(.seq (.ops [
 ⟨some 8,.assign (.const (.string (ofL []))),9,none⟩] [0,6,7,8])
 (.seq (.block 0 (.loop (sg c90L0))) (sg c90S4)))
def c90:Cmd:=(.seq (.ops [
 ⟨some 4,.assign (.const (.string (ofL []))),9,none⟩,
 ⟨some 5,.assign (.const (.int .i64 0)),30,none⟩] [0,1])
 (.seq (.draw (drawOps 0 c90code) [0,6,7]) (sg c90S5)))
attribute [go_sem] c90 c90S0 c90S1 c90S2 c90S3 c90L0 c90S4 c90S5
def c90D0:List (Bool × Ins):=[
 (true,⟨some 12,.move (.tmp 1),9,none⟩),
 (true,⟨some 13,.slice 9 (.tmp 12) (some (.const (.int .i64 1))) (some (.const (.int .i64 5))) none,9,none⟩),
 (true,⟨some 16,.move (.tmp 1),9,none⟩),
 (true,⟨some 17,.slice 9 (.tmp 16) (some (.const (.int .i64 5))) (some (.const (.int .i64 9))) none,9,none⟩),
 (false,⟨some 14,.call ⟨.value (.func 98),#[(.tmp 13)],#[9]⟩,147,none⟩),
 (true,⟨some 15,.convert 147 3 (.tmp 14),3,none⟩),
 (false,⟨some 18,.call ⟨.value (.func 98),#[(.tmp 17)],#[9]⟩,147,none⟩),
 (true,⟨some 19,.convert 147 3 (.tmp 18),3,none⟩),
 (true,⟨some 6,.assign (.tmp 15),3,none⟩),
 (true,⟨some 7,.assign (.tmp 19),3,none⟩)]
theorem c90draw0{L:List Nat}{ρ:Env}{w:World}{Q:Post}(h:DL Tryz.prog c90D0 L ρ w.drew Q):drawW Tryz.prog (drawOps 0 c90code) L ρ w Q :=
 drawW_by [(true,0),(true,1),(true,4),(true,5),(false,2),(true,3),(false,6),(true,7),(true,8),(true,9)] c90D0 (by kernel_rfl) (by kernel_rfl) (by kernel_rfl) h
theorem ent90(a0 a1:Value)(w:World)(K:Value→World→Prop)(h:W Tryz.prog c90 [(0,a0),(1,a1)] w (finQ Tryz.prog [.tmp 4,.tmp 5] K)):Ret Tryz.prog 90 [a0,a1] w K :=
 Ret_of_W (code:=c90code) Tryz.func90 (by kernel_rfl) (by kernel_rfl) (of_decide_eq_true (by kernel_rfl)) h
@[go_sem] theorem go90:goFunc Tryz.prog 90=true:=by kernel_rfl
def c92code:Code:=match Tryz.f92.body with | some c=>c | none=>.skip
def c92S0(_:Unit):Cmd:=(.ops [
 ⟨some 36,.move (.tmp 6),3,none⟩,
 ⟨some 5,.assign (.tmp 36),3,none⟩] [0,5])
def c92S1(_:Unit):Cmd:=(.seq (.seq (.ops [
 ⟨some 33,.move (.tmp 8),30,none⟩,
 ⟨some 34,.binOp .neq 30 (.tmp 33) (.const (.int .i64 0)) 30,4,none⟩] [0,6,8,34])
 (.cond (.tmp 34)
 (.seq (.ops [
 ⟨some 35,.move (.tmp 8),30,none⟩,
 ⟨some 4,.assign (.tmp 35),30,none⟩] [4])
 .ret)
 (.skip [0,6]))) (sg c92S0))
def c92S2(_:Unit):Cmd:=(.seq (.seq (.ops [
 ⟨some 25,.move (.tmp 8),30,none⟩,
 ⟨some 26,.binOp .eql 30 (.tmp 25) (.const (.int .i64 0)) 30,4,none⟩] [0,5,6,8,26])
 (.cond (.tmp 26)
 (.ops [
 ⟨some 27,.move (.tmp 0),27,none⟩,
 ⟨some 28,.nilCheck (.tmp 27),0,none⟩,
 ⟨some 29,.fieldAddr 104 (.tmp 28) 0,0,none⟩,
 ⟨some 30,.load 24 (.tmp 29),24,none⟩,
 ⟨some 31,.move (.tmp 5),3,none⟩,
 ⟨some 32,.call ⟨.value (.func 81),#[(.tmp 30),(.tmp 31)],#[24,3]⟩,30,none⟩,
 ⟨some 8,.assign (.tmp 32),30,none⟩] [0,6,8])
 (.skip [0,6,8]))) (sg c92S1))
def c92S3(_:Unit):Cmd:=(.block 1 (.seq (.ops [
 ⟨some 19,.move (.tmp 0),27,none⟩,
 ⟨some 20,.move (.tmp 5),3,none⟩,
 ⟨some 21,.call ⟨.value (.func 56),#[(.tmp 19),(.tmp 20)],#[27,3]⟩,109,none⟩,
 ⟨some 18,.move (.tmp 21),109,none⟩,
 ⟨some 22,.extract (.tmp 18) 0,3,none⟩,
 ⟨some 23,.extract (.tmp 18) 1,9,none⟩,
 ⟨some 24,.extract (.tmp 18) 2,30,none⟩,
 ⟨some 6,.assign (.tmp 22),3,none⟩,
 ⟨some 7,.assign (.tmp 23),9,none⟩,
 ⟨some 8,.assign (.tmp 24),30,none⟩] [0,5,6,8]) (sg c92S2)))
def c92L0(_:Unit):Cmd:=(.seq (.seq (.ops [
 ⟨some 16,.move (.tmp 5),3,none⟩,
 ⟨some 17,.binOp .neq 3 (.tmp 16) (.const (.int .i64 0)) 3,4,none⟩] [0,5,17])
 (.cond (.tmp 17)
 (.skip [0,5])
 (.exit 0 []))) (sg c92S3))
def c92S4(_:Unit):Cmd:=(.seq (.ops [
 ⟨some 4,.assign (.const (.int .i64 0)),30,none⟩] [4])
 .ret)
def c92S5(_:Unit):Cmd:=(.seq (.block 0 (.loop (sg c92L0))) (sg c92S4))
def c92S6(_:Unit):Cmd:=(.seq (.ops [
 ⟨some 12,.move (.tmp 1),9,none⟩,
 ⟨some 13,.slice 9 (.tmp 12) (some (.const (.int .i64 5))) (some (.const (.int .i64 9))) none,9,none⟩,
 ⟨some 14,.call ⟨.value (.func 98),#[(.tmp 13)],#[9]⟩,147,none⟩,
 ⟨some 15,.convert 147 3 (.tmp 14),3,none⟩,
 ⟨some 5,.assign (.tmp 15),3,none⟩] [0,5]) (sg c92S5))
def c92:Cmd:=(.seq (.ops [
 ⟨some 4,.assign (.const (.int .i64 0)),30,none⟩] [0,1])
 (.seq (.seq (.ops [
 ⟨some 9,.move (.tmp 1),9,none⟩,
 ⟨some 10,.index 9 (.tmp 9) (.const (.int .i64 0)),5,none⟩,
 ⟨some 11,.binOp .neq 5 (.tmp 10) (.const (.int .u8 108)) 5,4,none⟩] [0,1,11])
 (.cond (.tmp 11)
 (.seq (.ops [
 ⟨some 4,.assign (.const (.int .i64 0)),30,none⟩] [4])
 .ret)
 (.skip [0,1]))) (sg c92S6)))
attribute [go_sem] c92 c92S0 c92S1 c92S2 c92S3 c92L0 c92S4 c92S5 c92S6
theorem ent92(a0 a1:Value)(w:World)(K:Value→World→Prop)(h:W Tryz.prog c92 [(0,a0),(1,a1)] w (finQ Tryz.prog [.tmp 4] K)):Ret Tryz.prog 92 [a0,a1] w K :=
 Ret_of_W (code:=c92code) Tryz.func92 (by kernel_rfl) (by kernel_rfl) (of_decide_eq_true (by kernel_rfl)) h
@[go_sem] theorem go92:goFunc Tryz.prog 92=true:=by kernel_rfl
def c93code:Code:=match Tryz.f93.body with | some c=>c | none=>.skip
def c93S0(_:Unit):Cmd:=(.seq (.ops [
 ⟨some 15,.move (.tmp 7),4,none⟩,
 ⟨some 16,.unOp .not 4 (.tmp 15),4,none⟩] [0,1,16])
 (.cond (.tmp 16)
 (.seq (.ops [
 ⟨some 17,.move (.tmp 0),9,none⟩,
 ⟨some 4,.assign (.tmp 17),9,none⟩,
 ⟨some 5,.assign (.const (.bool false)),4,none⟩] [4,5])
 .ret)
 (.skip [0,1])))
def c93S1(_:Unit):Cmd:=.ret
def c93S2(_:Unit):Cmd:=(.seq (.ops [
 ⟨some 20,.move (.tmp 8),22,none⟩,
 ⟨some 21,.move (.tmp 1),3,none⟩,
 ⟨some 22,.indexAddr 22 (.tmp 20) (.tmp 21),0,none⟩,
 ⟨none,.store 9 (.tmp 22) (.const (.string (ofL []))),0,none⟩] [0,8])
 (.seq (.ops [
 ⟨some 23,.move (.tmp 0),9,none⟩,
 ⟨some 24,.call ⟨.builtin .len,#[(.tmp 23)],#[9]⟩,3,none⟩,
 ⟨some 25,.move (.tmp 8),22,none⟩,
 ⟨some 26,.call ⟨.value (.func 124),#[(.tmp 24),(.tmp 25)],#[3,22]⟩,9,none⟩,
 ⟨some 4,.assign (.tmp 26),9,none⟩,
 ⟨some 5,.assign (.const (.bool true)),4,none⟩] [4,5]) (sg c93S1)))
def c93S3(_:Unit):Cmd:=(.seq (.ops [
 ⟨some 18,.move (.tmp 0),9,none⟩,
 ⟨some 19,.call ⟨.value (.func 120),#[(.tmp 18)],#[9]⟩,22,none⟩,
 ⟨some 8,.assign (.tmp 19),22,none⟩] [0,1,8]) (sg c93S2))
def c93:Cmd:=(.seq (.ops [
 ⟨some 4,.assign (.const (.string (ofL []))),9,none⟩,
 ⟨some 5,.assign (.const (.bool false)),4,none⟩] [0,1])
 (.seq (.seq (.ops [
 ⟨some 10,.move (.tmp 0),9,none⟩,
 ⟨some 11,.move (.tmp 1),3,none⟩,
 ⟨some 12,.call ⟨.value (.func 144),#[(.tmp 10),(.tmp 11)],#[9,3]⟩,72,none⟩,
 ⟨some 9,.move (.tmp 12),72,none⟩,
 ⟨some 13,.extract (.tmp 9) 0,9,none⟩,
 ⟨some 14,.extract (.tmp 9) 1,4,none⟩,
 ⟨some 6,.assign (.tmp 13),9,none⟩,
 ⟨some 7,.assign (.tmp 14),4,none⟩] [0,1,7]) (sg c93S0)) (sg c93S3)))
attribute [go_sem] c93 c93S0 c93S1 c93S3
theorem ent93(a0 a1:Value)(w:World)(K:Value→World→Prop)(h:W Tryz.prog c93 [(0,a0),(1,a1)] w (finQ Tryz.prog [.tmp 4,.tmp 5] K)):Ret Tryz.prog 93 [a0,a1] w K :=
 Ret_of_W (code:=c93code) Tryz.func93 (by kernel_rfl) (by kernel_rfl) (of_decide_eq_true (by kernel_rfl)) h
@[go_sem] theorem go93:goFunc Tryz.prog 93=true:=by kernel_rfl
def c94code:Code:=match Tryz.f94.body with | some c=>c | none=>.skip
def c94A0(_:Unit):Cmd:=(.skip [3])
def c94B0(_:Unit):Cmd:=(.block 1 (.ops [
 ⟨some 8,.load 3 (.tmp 3),3,none⟩,
 ⟨some 9,.binOp .add 3 (.tmp 8) (.const (.int .i64 1)) 3,3,none⟩,
 ⟨none,.store 3 (.tmp 3) (.tmp 9),0,none⟩] []))
def c94S0(_:Unit):Cmd:=(.block 0 (.rangeF (.tmp 5) [6,7] (sg c94A0) (sg c94B0) [2,3]))
def c94S1(_:Unit):Cmd:=(.seq (.ops [
 ⟨some 10,.load 3 (.tmp 3),3,none⟩,
 ⟨some 2,.assign (.tmp 10),3,none⟩] [2])
 .ret)
def c94:Cmd:=(.seq (.ops [
 ⟨some 2,.assign (.const (.int .i64 0)),3,none⟩] [0,2])
 (.seq (.ops [
 ⟨some 3,.alloc 3,0,none⟩,
 ⟨none,.store 3 (.tmp 3) (.const (.int .i64 0)),0,none⟩] [0,2,3])
 (.seq (.seq (.ops [
 ⟨some 4,.move (.tmp 0),9,none⟩,
 ⟨some 5,.call ⟨.value (.func 101),#[(.tmp 4)],#[9]⟩,141,none⟩] [2,3,5]) (sg c94S0)) (sg c94S1))))
attribute [go_sem] c94 c94A0 c94B0 c94S0 c94S1
theorem ent94(a0:Value)(w:World)(K:Value→World→Prop)(h:W Tryz.prog c94 [(0,a0)] w (finQ Tryz.prog [.tmp 2] K)):Ret Tryz.prog 94 [a0] w K :=
 Ret_of_W (code:=c94code) Tryz.func94 (by kernel_rfl) (by kernel_rfl) (of_decide_eq_true (by kernel_rfl)) h
@[go_sem] theorem go94:goFunc Tryz.prog 94=true:=by kernel_rfl
def c95code:Code:=match Tryz.f95.body with | some c=>c | none=>.skip
def c95S0(_:Unit):Cmd:=(.seq (.ops [
 ⟨some 32,.move (.tmp 9),30,none⟩,
 ⟨some 33,.binOp .neq 30 (.tmp 32) (.const (.int .i64 0)) 30,4,none⟩] [3,4,6,9,33])
 (.cond (.tmp 33)
 (.seq (.ops [
 ⟨some 34,.move (.tmp 9),30,none⟩,
 ⟨none,.store 30 (.tmp 6) (.tmp 34),0,none⟩] [])
 .ret)
 (.skip [3,4,6])))
def c95S1(_:Unit):Cmd:=.ret
def c95S2(_:Unit):Cmd:=(.seq (.draw (drawOps 1 c95code) []) (sg c95S1))
def c95S3(_:Unit):Cmd:=.ret
def c95S4(_:Unit):Cmd:=(.seq (.draw (drawOps 2 c95code) []) (sg c95S3))
def c95S5(_:Unit):Cmd:=(.seq (.seq (.ops [
 ⟨some 55,.move (.tmp 12),30,none⟩,
 ⟨some 56,.binOp .neq 30 (.tmp 55) (.const (.int .i64 0)) 30,4,none⟩] [3,4,6,12,56])
 (.cond (.tmp 56)
 (.seq (.ops [
 ⟨some 57,.move (.tmp 12),30,none⟩,
 ⟨none,.store 30 (.tmp 6) (.tmp 57),0,none⟩] [])
 .ret)
 (.skip [3,4,6]))) (sg c95S4))
def c95S6(_:Unit):Cmd:=(.seq (.seq (.ops [
 ⟨some 48,.move (.tmp 12),30,none⟩,
 ⟨some 49,.binOp .eql 30 (.tmp 48) (.const (.int .i64 0)) 30,4,none⟩] [3,4,5,6,7,11,12,49])
 (.cond (.tmp 49)
 (.ops [
 ⟨some 50,.load 27 (.tmp 3),27,none⟩,
 ⟨some 51,.move (.tmp 7),3,none⟩,
 ⟨some 52,.load 3 (.tmp 5),3,none⟩,
 ⟨some 53,.move (.tmp 11),9,none⟩,
 ⟨some 54,.call ⟨.value (.func 60),#[(.tmp 50),(.tmp 51),(.tmp 52),(.tmp 53)],#[27,3,3,9]⟩,30,none⟩,
 ⟨some 12,.assign (.tmp 54),30,none⟩] [3,4,6,12])
 (.skip [3,4,6,12]))) (sg c95S5))
def c95S7(_:Unit):Cmd:=(.seq (.ops [
 ⟨some 42,.load 27 (.tmp 3),27,none⟩,
 ⟨some 43,.move (.tmp 7),3,none⟩,
 ⟨some 44,.call ⟨.value (.func 56),#[(.tmp 42),(.tmp 43)],#[27,3]⟩,109,none⟩,
 ⟨some 41,.move (.tmp 44),109,none⟩,
 ⟨some 45,.extract (.tmp 41) 0,3,none⟩,
 ⟨some 46,.extract (.tmp 41) 1,9,none⟩,
 ⟨some 47,.extract (.tmp 41) 2,30,none⟩,
 ⟨some 10,.assign (.tmp 45),3,none⟩,
 ⟨some 11,.assign (.tmp 46),9,none⟩,
 ⟨some 12,.assign (.tmp 47),30,none⟩] [3,4,5,6,7,11,12]) (sg c95S6))
def c95S8(_:Unit):Cmd:=(.seq (.seq (.ops [
 ⟨some 20,.move (.tmp 7),3,none⟩,
 ⟨some 21,.binOp .eql 3 (.tmp 20) (.const (.int .i64 0)) 3,4,none⟩] [3,4,5,6,7,21])
 (.cond (.tmp 21)
 (.seq (.seq (.draw (drawOps 0 c95code) [3,4,6,9]) (sg c95S0)) (sg c95S2))
 (.skip [3,4,5,6,7]))) (sg c95S7))
def c95A0(_:Unit):Cmd:=(.seq (.ops [
 ⟨some 7,.assign (.tmp 15),3,none⟩] [3,4,5,6,7,16])
 (.ops [
 ⟨some 8,.assign (.tmp 16),3,none⟩] [3,4,5,6,7,8]))
def c95B0(_:Unit):Cmd:=(.block 1 (.seq (.seq (.ops [
 ⟨some 17,.move (.tmp 8),3,none⟩,
 ⟨some 18,.load 3 (.tmp 4),3,none⟩,
 ⟨some 19,.binOp .neq 3 (.tmp 17) (.tmp 18) 3,4,none⟩] [3,4,5,6,7,19])
 (.cond (.tmp 19)
 (.exit 1 [])
 (.skip [3,4,5,6,7]))) (sg c95S8)))
def c95S9(_:Unit):Cmd:=(.block 0 (.rangeF (.tmp 14) [15,16] (sg c95A0) (sg c95B0) [6]))
def c95S10(_:Unit):Cmd:=(.seq (.ops [
 ⟨none,.store 30 (.tmp 6) (.const (.int .i64 14)),0,none⟩] [6])
 .ret)
def c95:Cmd:=(.seq (.ops [
 ⟨some 3,.box 27 (.tmp 0),0,none⟩,
 ⟨some 4,.box 3 (.tmp 1),0,none⟩,
 ⟨some 5,.box 3 (.tmp 2),0,none⟩,
 ⟨some 6,.alloc 30,0,none⟩] [3,4,5,6])
 (.seq (.seq (.ops [
 ⟨some 13,.load 27 (.tmp 3),27,none⟩,
 ⟨some 14,.call ⟨.value (.func 55),#[(.tmp 13)],#[27]⟩,107,none⟩] [3,4,5,6,14]) (sg c95S9)) (sg c95S10)))
attribute [go_sem] c95 c95S0 c95S1 c95S2 c95S3 c95S4 c95S5 c95S6 c95S7 c95S8 c95A0 c95S9 c95S10
def c95D0:List (Nat × Ins):=[
 (1,⟨some 22,.load 27 (.tmp 3),27,none⟩),
 (0,⟨some 23,.nilCheck (.tmp 22),0,none⟩),
 (0,⟨some 24,.fieldAddr 104 (.tmp 23) 0,0,none⟩),
 (1,⟨some 25,.load 24 (.tmp 24),24,none⟩),
 (1,⟨some 26,.load 27 (.tmp 3),27,none⟩),
 (0,⟨some 27,.nilCheck (.tmp 26),0,none⟩),
 (0,⟨some 28,.fieldAddr 104 (.tmp 27) 1,0,none⟩),
 (1,⟨some 29,.load 3 (.tmp 28),3,none⟩),
 (2,⟨some 30,.load 3 (.tmp 5),3,none⟩),
 (2,⟨some 31,.call ⟨.value (.func 66),#[(.tmp 25),(.tmp 29),(.tmp 30)],#[24,3,3]⟩,30,none⟩),
 (0,⟨some 9,.assign (.tmp 31),30,none⟩)]
theorem c95draw0{L:List Nat}{ρ:Env}{w:World}{Q:Post}(S:World→Prop)(hS:S w.drew)(h:DG Tryz.prog S c95D0 L ρ w.drew Q):drawW Tryz.prog (drawOps 0 c95code) L ρ w Q :=
 drawW_held [0,3,4,7] [(1,0),(0,1),(0,2),(1,3),(1,4),(0,5),(0,6),(1,7),(2,8),(2,9),(0,10)] c95D0 (by kernel_rfl) (by kernel_rfl) (by kernel_rfl) S hS h
def c95D1:List (Nat × Ins):=[
 (1,⟨some 35,.load 27 (.tmp 3),27,none⟩),
 (0,⟨some 36,.nilCheck (.tmp 35),0,none⟩),
 (0,⟨some 37,.fieldAddr 104 (.tmp 36) 0,0,none⟩),
 (1,⟨some 38,.load 24 (.tmp 37),24,none⟩),
 (2,⟨some 39,.load 3 (.tmp 4),3,none⟩),
 (2,⟨some 40,.call ⟨.value (.func 81),#[(.tmp 38),(.tmp 39)],#[24,3]⟩,30,none⟩),
 (3,⟨none,.store 30 (.tmp 6) (.tmp 40),0,none⟩)]
theorem c95draw1{L:List Nat}{ρ:Env}{w:World}{Q:Post}(S:World→Prop)(hS:S w.drew)(h:DG Tryz.prog S c95D1 L ρ w.drew Q):drawW Tryz.prog (drawOps 1 c95code) L ρ w Q :=
 drawW_held [0,3] [(1,0),(0,1),(0,2),(1,3),(2,4),(2,5),(3,6)] c95D1 (by kernel_rfl) (by kernel_rfl) (by kernel_rfl) S hS h
def c95D2:List (Nat × Ins):=[
 (1,⟨some 58,.load 27 (.tmp 3),27,none⟩),
 (0,⟨some 59,.nilCheck (.tmp 58),0,none⟩),
 (0,⟨some 60,.fieldAddr 104 (.tmp 59) 0,0,none⟩),
 (1,⟨some 61,.load 24 (.tmp 60),24,none⟩),
 (2,⟨some 62,.load 3 (.tmp 4),3,none⟩),
 (2,⟨some 63,.call ⟨.value (.func 81),#[(.tmp 61),(.tmp 62)],#[24,3]⟩,30,none⟩),
 (3,⟨none,.store 30 (.tmp 6) (.tmp 63),0,none⟩)]
theorem c95draw2{L:List Nat}{ρ:Env}{w:World}{Q:Post}(S:World→Prop)(hS:S w.drew)(h:DG Tryz.prog S c95D2 L ρ w.drew Q):drawW Tryz.prog (drawOps 2 c95code) L ρ w Q :=
 drawW_held [0,3] [(1,0),(0,1),(0,2),(1,3),(2,4),(2,5),(3,6)] c95D2 (by kernel_rfl) (by kernel_rfl) (by kernel_rfl) S hS h
theorem ent95(a0 a1 a2:Value)(w:World)(K:Value→World→Prop)(h:W Tryz.prog c95 [(0,a0),(1,a1),(2,a2)] w (finQ Tryz.prog [.cell 6 30] K)):Ret Tryz.prog 95 [a0,a1,a2] w K :=
 Ret_of_W (code:=c95code) Tryz.func95 (by kernel_rfl) (by kernel_rfl) (of_decide_eq_true (by kernel_rfl)) h
@[go_sem] theorem go95:goFunc Tryz.prog 95=true:=by kernel_rfl
def c96code:Code:=match Tryz.f96.body with | some c=>c | none=>.skip
def c96:Cmd:=(.seq (.ops [
 ⟨some 2,.assign (.const (.bool false)),4,none⟩] [0])
 (.seq (.ops [
 ⟨some 3,.move (.tmp 0),24,none⟩,
 ⟨some 4,.binOp .neq 24 (.tmp 3) (.const (.pointer none)) 24,4,none⟩,
 ⟨some 5,.move (.tmp 4),4,none⟩,
 ⟨some 6,.move (.tmp 0),24,(some (5,true))⟩,
 ⟨some 7,.nilCheck (.tmp 6),0,(some (5,true))⟩,
 ⟨some 8,.fieldAddr 98 (.tmp 7) 0,0,(some (5,true))⟩,
 ⟨some 9,.load 88 (.tmp 8),88,(some (5,true))⟩,
 ⟨some 10,.binOp .neq 88 (.tmp 9) (.const (.pointer none)) 88,4,(some (5,true))⟩,
 ⟨some 11,.pick (.tmp 5) (.tmp 10) (.const (.bool false)),4,none⟩,
 ⟨some 2,.assign (.tmp 11),4,none⟩] [2])
 .ret))
attribute [go_sem] c96
theorem ent96(a0:Value)(w:World)(K:Value→World→Prop)(h:W Tryz.prog c96 [(0,a0)] w (finQ Tryz.prog [.tmp 2] K)):Ret Tryz.prog 96 [a0] w K :=
 Ret_of_W (code:=c96code) Tryz.func96 (by kernel_rfl) (by kernel_rfl) (of_decide_eq_true (by kernel_rfl)) h
@[go_sem] theorem go96:goFunc Tryz.prog 96=true:=by kernel_rfl
def c97code:Code:=match Tryz.f97.body with | some c=>c | none=>.skip
def c97S0(_:Unit):Cmd:=(.seq (.ops [
 ⟨some 19,.move (.tmp 7),4,none⟩] [0,1,6,19])
 (.cond (.tmp 19)
 (.seq (.ops [
 ⟨some 20,.move (.tmp 6),9,none⟩,
 ⟨some 4,.assign (.tmp 20),9,none⟩,
 ⟨some 5,.assign (.const (.int .i64 0)),30,none⟩] [4,5])
 .ret)
 (.skip [0,1])))
def c97S1(_:Unit):Cmd:=(.seq (.ops [
 ⟨some 39,.move (.tmp 8),9,none⟩,
 ⟨some 40,.move (.tmp 9),30,none⟩,
 ⟨some 4,.assign (.tmp 39),9,none⟩,
 ⟨some 5,.assign (.tmp 40),30,none⟩] [4,5])
 .ret)
def c97S2(_:Unit):Cmd:=(.seq (.seq (.ops [
 ⟨some 30,.move (.tmp 9),30,none⟩,
 ⟨some 31,.binOp .eql 30 (.tmp 30) (.const (.int .i64 0)) 30,4,none⟩] [0,1,8,9,31])
 (.cond (.tmp 31)
 (.ops [
 ⟨some 32,.move (.tmp 0),24,none⟩,
 ⟨some 33,.nilCheck (.tmp 32),0,none⟩,
 ⟨some 34,.fieldAddr 98 (.tmp 33) 1,0,none⟩,
 ⟨some 35,.load 96 (.tmp 34),96,none⟩,
 ⟨some 36,.move (.tmp 1),3,none⟩,
 ⟨some 37,.move (.tmp 8),9,none⟩,
 ⟨some 38,.call ⟨.value (.func 146),#[(.tmp 35),(.tmp 36),(.tmp 37)],#[96,3,9]⟩,194,none⟩] [8,9])
 (.skip [8,9]))) (sg c97S1))
def c97S3(_:Unit):Cmd:=(.seq (.ops [
 ⟨some 22,.move (.tmp 0),24,none⟩,
 ⟨some 23,.nilCheck (.tmp 22),0,none⟩,
 ⟨some 24,.fieldAddr 98 (.tmp 23) 0,0,none⟩,
 ⟨some 25,.load 88 (.tmp 24),88,none⟩,
 ⟨some 26,.move (.tmp 1),3,none⟩,
 ⟨some 27,.call ⟨.value (.func 112),#[(.tmp 25),(.tmp 26)],#[88,3]⟩,50,none⟩,
 ⟨some 21,.move (.tmp 27),50,none⟩,
 ⟨some 28,.extract (.tmp 21) 0,9,none⟩,
 ⟨some 29,.extract (.tmp 21) 1,30,none⟩,
 ⟨some 8,.assign (.tmp 28),9,none⟩,
 ⟨some 9,.assign (.tmp 29),30,none⟩] [0,1,8,9]) (sg c97S2))
def c97:Cmd:=(.seq (.ops [
 ⟨some 4,.assign (.const (.string (ofL []))),9,none⟩,
 ⟨some 5,.assign (.const (.int .i64 0)),30,none⟩] [0,1])
 (.seq (.seq (.ops [
 ⟨some 11,.move (.tmp 0),24,none⟩,
 ⟨some 12,.nilCheck (.tmp 11),0,none⟩,
 ⟨some 13,.fieldAddr 98 (.tmp 12) 1,0,none⟩,
 ⟨some 14,.load 96 (.tmp 13),96,none⟩,
 ⟨some 15,.move (.tmp 1),3,none⟩,
 ⟨some 16,.call ⟨.value (.func 145),#[(.tmp 14),(.tmp 15)],#[96,3]⟩,72,none⟩,
 ⟨some 10,.move (.tmp 16),72,none⟩,
 ⟨some 17,.extract (.tmp 10) 0,9,none⟩,
 ⟨some 18,.extract (.tmp 10) 1,4,none⟩,
 ⟨some 6,.assign (.tmp 17),9,none⟩,
 ⟨some 7,.assign (.tmp 18),4,none⟩] [0,1,6,7]) (sg c97S0)) (sg c97S3)))
attribute [go_sem] c97 c97S0 c97S1 c97S2 c97S3
theorem ent97(a0 a1:Value)(w:World)(K:Value→World→Prop)(h:W Tryz.prog c97 [(0,a0),(1,a1)] w (finQ Tryz.prog [.tmp 4,.tmp 5] K)):Ret Tryz.prog 97 [a0,a1] w K :=
 Ret_of_W (code:=c97code) Tryz.func97 (by kernel_rfl) (by kernel_rfl) (of_decide_eq_true (by kernel_rfl)) h
@[go_sem] theorem go97:goFunc Tryz.prog 97=true:=by kernel_rfl
def c98code:Code:=match Tryz.f98.body with | some c=>c | none=>.skip
def c98S0(_:Unit):Cmd:=(.seq (.block 1 (.seq (.ops [
 ⟨some 10,.move (.tmp 8),3,none⟩,
 ⟨some 4,.assign (.tmp 10),3,none⟩] [0,3,4,7,8])
 (.ops [
 ⟨some 11,.move (.tmp 3),147,none⟩,
 ⟨some 12,.move (.tmp 0),9,none⟩,
 ⟨some 13,.move (.tmp 4),3,none⟩,
 ⟨some 14,.index 9 (.tmp 12) (.tmp 13),5,none⟩,
 ⟨some 15,.convert 5 147 (.tmp 14),147,none⟩,
 ⟨some 16,.move (.tmp 4),3,none⟩,
 ⟨some 17,.binOp .mul 3 (.const (.int .i64 8)) (.tmp 16) 3,3,none⟩,
 ⟨some 18,.convert 3 78 (.tmp 17),78,none⟩,
 ⟨some 19,.binOp .shl 147 (.tmp 15) (.tmp 18) 78,147,none⟩,
 ⟨some 20,.binOp .or 147 (.tmp 11) (.tmp 19) 147,147,none⟩,
 ⟨some 3,.assign (.tmp 20),147,none⟩] [0,3,7,8])))
 (.ops [
 ⟨some 21,.binOp .add 3 (.tmp 8) (.const (.int .i64 1)) 3,3,none⟩,
 ⟨some 8,.move (.tmp 21),3,none⟩] [0,3,7,8]))
def c98L0(_:Unit):Cmd:=(.seq (.ops [
 ⟨some 9,.binOp .lss 3 (.tmp 8) (.tmp 7) 3,4,none⟩] [0,3,7,8,9])
 (.seq (.cond (.tmp 9)
 (.skip [0,3,7,8])
 (.exit 0 [3])) (sg c98S0)))
def c98S1(_:Unit):Cmd:=(.block 0 (.loop (sg c98L0)))
def c98S2(_:Unit):Cmd:=(.seq (.ops [
 ⟨some 22,.move (.tmp 3),147,none⟩,
 ⟨some 2,.assign (.tmp 22),147,none⟩] [2])
 .ret)
def c98:Cmd:=(.seq (.ops [
 ⟨some 2,.assign (.const (.int .u64 0)),147,none⟩] [0])
 (.seq (.ops [
 ⟨some 3,.assign (.const (.int .u64 0)),147,none⟩] [0,3])
 (.seq (.seq (.ops [
 ⟨some 5,.move (.tmp 0),9,none⟩,
 ⟨some 6,.call ⟨.builtin .len,#[(.tmp 5)],#[9]⟩,3,none⟩,
 ⟨some 7,.call ⟨.builtin .min,#[(.tmp 6),(.const (.int .i64 8))],#[3,3]⟩,3,none⟩,
 ⟨some 8,.move (.const (.int .i64 0)),3,none⟩] [0,3,7,8]) (sg c98S1)) (sg c98S2))))
attribute [go_sem] c98 c98S0 c98S1 c98S2
theorem ent98(a0:Value)(w:World)(K:Value→World→Prop)(h:W Tryz.prog c98 [(0,a0)] w (finQ Tryz.prog [.tmp 2] K)):Ret Tryz.prog 98 [a0] w K :=
 Ret_of_W (code:=c98code) Tryz.func98 (by kernel_rfl) (by kernel_rfl) (of_decide_eq_true (by kernel_rfl)) h
@[go_sem] theorem go98:goFunc Tryz.prog 98=true:=by kernel_rfl
@[go_sem] theorem go99:goFunc Tryz.prog 99=true:=by kernel_rfl
@[go_sem] theorem go100:goFunc Tryz.prog 100=true:=by kernel_rfl
def c101code:Code:=match Tryz.f101.body with | some c=>c | none=>.skip
def c101:Cmd:=(.seq (.ops [
 ⟨some 1,.box 9 (.tmp 0),0,none⟩,
 ⟨some 2,.assign (.const .nilFunc),141,none⟩] [1])
 (.seq (.ops [
 ⟨some 3,.makeFunc (.func 149) #[] #[(.tmp 1)],140,none⟩,
 ⟨some 2,.assign (.tmp 3),141,none⟩] [2])
 .ret))
attribute [go_sem] c101
theorem ent101(a0:Value)(w:World)(K:Value→World→Prop)(h:W Tryz.prog c101 [(0,a0)] w (finQ Tryz.prog [.tmp 2] K)):Ret Tryz.prog 101 [a0] w K :=
 Ret_of_W (code:=c101code) Tryz.func101 (by kernel_rfl) (by kernel_rfl) (of_decide_eq_true (by kernel_rfl)) h
@[go_sem] theorem go101:goFunc Tryz.prog 101=true:=by kernel_rfl
@[go_sem] theorem go102:goFunc Tryz.prog 102=true:=by kernel_rfl
def c103code:Code:=match Tryz.f103.body with | some c=>c | none=>.skip
def c103S0(_:Unit):Cmd:=(.cond (.tmp 24)
 (.skip [0,2,3])
 (.exit 2 [0,2]))
def c103S1(_:Unit):Cmd:=(.ops [
 ⟨some 25,.move (.tmp 3),3,none⟩,
 ⟨some 26,.binOp .sub 3 (.tmp 25) (.const (.int .i64 1)) 3,3,none⟩,
 ⟨some 3,.assign (.tmp 26),3,none⟩] [0,2,3])
def c103S2(_:Unit):Cmd:=(.seq (.block 3 (.draw (drawOps 1 c103code) [0,2,3])) (sg c103S1))
def c103L0(_:Unit):Cmd:=(.seq (.seq (.draw (drawOps 0 c103code) [0,2,3,24]) (sg c103S0)) (sg c103S2))
def c103S3(_:Unit):Cmd:=(.ops [
 ⟨some 8,.move (.tmp 2),3,none⟩,
 ⟨some 9,.binOp .add 3 (.tmp 8) (.const (.int .i64 1)) 3,3,none⟩,
 ⟨some 2,.assign (.tmp 9),3,none⟩] [0,2])
def c103S4(_:Unit):Cmd:=(.seq (.block 1 (.seq (.ops [
 ⟨some 10,.move (.tmp 2),3,none⟩,
 ⟨some 3,.assign (.tmp 10),3,none⟩] [0,2,3])
 (.block 2 (.loop (sg c103L0))))) (sg c103S3))
def c103L1(_:Unit):Cmd:=(.seq (.seq (.ops [
 ⟨some 4,.move (.tmp 2),3,none⟩,
 ⟨some 5,.move (.tmp 0),48,none⟩,
 ⟨some 6,.call ⟨.builtin .len,#[(.tmp 5)],#[48]⟩,3,none⟩,
 ⟨some 7,.binOp .lss 3 (.tmp 4) (.tmp 6) 3,4,none⟩] [0,2,7])
 (.cond (.tmp 7)
 (.skip [0,2])
 (.exit 0 []))) (sg c103S4))
def c103:Cmd:=(.seq (.ops [
 ⟨some 2,.assign (.const (.int .i64 1)),3,none⟩] [0,2])
 (.block 0 (.loop (sg c103L1))))
attribute [go_sem] c103 c103S0 c103S1 c103S2 c103S3 c103S4
def c103D0:List (Bool × Ins):=[
 (true,⟨some 11,.move (.tmp 3),3,none⟩),
 (true,⟨some 12,.binOp .gtr 3 (.tmp 11) (.const (.int .i64 0)) 3,4,none⟩),
 (true,⟨some 13,.move (.tmp 12),4,none⟩),
 (true,⟨some 14,.move (.tmp 0),48,(some (13,true))⟩),
 (true,⟨some 15,.move (.tmp 3),3,(some (13,true))⟩),
 (true,⟨some 16,.indexAddr 48 (.tmp 14) (.tmp 15),0,(some (13,true))⟩),
 (false,⟨some 17,.load 3 (.tmp 16),3,(some (13,true))⟩),
 (true,⟨some 18,.move (.tmp 0),48,(some (13,true))⟩),
 (true,⟨some 19,.move (.tmp 3),3,(some (13,true))⟩),
 (true,⟨some 20,.binOp .sub 3 (.tmp 19) (.const (.int .i64 1)) 3,3,(some (13,true))⟩),
 (true,⟨some 21,.indexAddr 48 (.tmp 18) (.tmp 20),0,(some (13,true))⟩),
 (false,⟨some 22,.load 3 (.tmp 21),3,(some (13,true))⟩),
 (true,⟨some 23,.binOp .lss 3 (.tmp 17) (.tmp 22) 3,4,(some (13,true))⟩),
 (true,⟨some 24,.pick (.tmp 13) (.tmp 23) (.const (.bool false)),4,none⟩)]
theorem c103draw0{L:List Nat}{ρ:Env}{w:World}{Q:Post}(h:DL Tryz.prog c103D0 L ρ w.drew Q):drawW Tryz.prog (drawOps 0 c103code) L ρ w Q :=
 drawW_still [true,true,true,true,true,true,false,true,true,true,true,false,true,true] c103D0 (by kernel_rfl) (by kernel_rfl) (by kernel_rfl) h
def c103D1:List (Nat × Ins):=[
 (0,⟨some 27,.move (.tmp 0),48,none⟩),
 (0,⟨some 28,.move (.tmp 3),3,none⟩),
 (0,⟨some 29,.move (.tmp 0),48,none⟩),
 (0,⟨some 30,.move (.tmp 3),3,none⟩),
 (0,⟨some 31,.binOp .sub 3 (.tmp 30) (.const (.int .i64 1)) 3,3,none⟩),
 (0,⟨some 32,.move (.tmp 0),48,none⟩),
 (0,⟨some 33,.move (.tmp 3),3,none⟩),
 (0,⟨some 34,.binOp .sub 3 (.tmp 33) (.const (.int .i64 1)) 3,3,none⟩),
 (0,⟨some 35,.indexAddr 48 (.tmp 32) (.tmp 34),0,none⟩),
 (0,⟨some 37,.move (.tmp 0),48,none⟩),
 (0,⟨some 38,.move (.tmp 3),3,none⟩),
 (0,⟨some 39,.indexAddr 48 (.tmp 37) (.tmp 38),0,none⟩),
 (1,⟨some 36,.load 3 (.tmp 35),3,none⟩),
 (2,⟨some 40,.load 3 (.tmp 39),3,none⟩),
 (0,⟨some 41,.indexAddr 48 (.tmp 27) (.tmp 28),0,none⟩),
 (3,⟨none,.store 3 (.tmp 41) (.tmp 36),0,none⟩),
 (0,⟨some 42,.indexAddr 48 (.tmp 29) (.tmp 31),0,none⟩),
 (3,⟨none,.store 3 (.tmp 42) (.tmp 40),0,none⟩)]
theorem c103draw1{L:List Nat}{ρ:Env}{w:World}{Q:Post}(S:World→Prop)(hS:S w.drew)(h:DG Tryz.prog S c103D1 L ρ w.drew Q):drawW Tryz.prog (drawOps 1 c103code) L ρ w Q :=
 drawW_held [9] [(0,0),(0,1),(0,2),(0,3),(0,4),(0,5),(0,6),(0,7),(0,8),(0,10),(0,11),(0,12),(1,9),(2,13),(0,14),(3,15),(0,16),(3,17)] c103D1 (by kernel_rfl) (by kernel_rfl) (by kernel_rfl) S hS h
theorem ent103(a0:Value)(w:World)(K:Value→World→Prop)(h:W Tryz.prog c103 [(0,a0)] w (finQ Tryz.prog [] K)):Ret Tryz.prog 103 [a0] w K :=
 Ret_of_W (code:=c103code) Tryz.func103 (by kernel_rfl) (by kernel_rfl) (of_decide_eq_true (by kernel_rfl)) h
@[go_sem] theorem go103:goFunc Tryz.prog 103=true:=by kernel_rfl
def c104code:Code:=match Tryz.f104.body with | some c=>c | none=>.skip
def c104:Cmd:=(.seq (.ops [
 ⟨some 0,.assign (.const (.string (ofL []))),9,none⟩] [])
 (.seq (.ops [
 ⟨some 1,.makeSlice 181 (.const (.int .i64 256)) (.const (.int .i64 256)),181,none⟩,
 ⟨some 2,.convert 181 9 (.tmp 1),9,none⟩,
 ⟨some 0,.assign (.tmp 2),9,none⟩] [0])
 .ret))
attribute [go_sem] c104
theorem ent104(w:World)(K:Value→World→Prop)(h:W Tryz.prog c104 [] w (finQ Tryz.prog [.tmp 0] K)):Ret Tryz.prog 104 [] w K :=
 Ret_of_W (code:=c104code) Tryz.func104 (by kernel_rfl) (by kernel_rfl) (of_decide_eq_true (by kernel_rfl)) h
@[go_sem] theorem go104:goFunc Tryz.prog 104=true:=by kernel_rfl
def c105code:Code:=match Tryz.f105.body with | some c=>c | none=>.skip
def c105S0(_:Unit):Cmd:=(.seq (.ops [
 ⟨some 5,.move (.tmp 0),23,none⟩,
 ⟨some 6,.nilCheck (.tmp 5),0,none⟩,
 ⟨some 7,.fieldAddr 157 (.tmp 6) 0,0,none⟩,
 ⟨some 8,.load 22 (.tmp 7),22,none⟩,
 ⟨some 9,.call ⟨.builtin .len,#[(.tmp 8)],#[22]⟩,3,none⟩,
 ⟨some 2,.assign (.tmp 9),3,none⟩] [2])
 .ret)
def c105:Cmd:=(.seq (.ops [
 ⟨some 2,.assign (.const (.int .i64 0)),3,none⟩] [0])
 (.seq (.seq (.ops [
 ⟨some 3,.move (.tmp 0),23,none⟩,
 ⟨some 4,.binOp .eql 23 (.tmp 3) (.const (.pointer none)) 23,4,none⟩] [0,4])
 (.cond (.tmp 4)
 (.seq (.ops [
 ⟨some 2,.assign (.const (.int .i64 0)),3,none⟩] [2])
 .ret)
 (.skip [0]))) (sg c105S0)))
attribute [go_sem] c105 c105S0
theorem ent105(a0:Value)(w:World)(K:Value→World→Prop)(h:W Tryz.prog c105 [(0,a0)] w (finQ Tryz.prog [.tmp 2] K)):Ret Tryz.prog 105 [a0] w K :=
 Ret_of_W (code:=c105code) Tryz.func105 (by kernel_rfl) (by kernel_rfl) (of_decide_eq_true (by kernel_rfl)) h
@[go_sem] theorem go105:goFunc Tryz.prog 105=true:=by kernel_rfl
def c106code:Code:=match Tryz.f106.body with | some c=>c | none=>.skip
def c106S0(_:Unit):Cmd:=(.seq (.ops [
 ⟨some 13,.move (.tmp 6),30,none⟩,
 ⟨some 14,.binOp .neq 30 (.tmp 13) (.const (.int .i64 0)) 30,4,none⟩] [0,1,6,14])
 (.cond (.tmp 14)
 (.seq (.ops [
 ⟨some 15,.move (.tmp 6),30,none⟩,
 ⟨some 4,.assign (.const (.string (ofL []))),9,none⟩,
 ⟨some 5,.assign (.tmp 15),30,none⟩] [4,5])
 .ret)
 (.skip [0,1])))
def c106S1(_:Unit):Cmd:=(.ops [
 ⟨some 38,.binOp .add 3 (.tmp 28) (.const (.int .i64 1)) 3,3,none⟩,
 ⟨some 28,.move (.tmp 38),3,none⟩] [1,7,26,27,28])
def c106S2(_:Unit):Cmd:=(.seq (.block 1 (.seq (.ops [
 ⟨some 30,.indexAddr 155 (.tmp 26) (.tmp 28),0,none⟩,
 ⟨some 31,.load 199 (.tmp 30),199,none⟩,
 ⟨some 9,.alloc 199,0,none⟩,
 ⟨none,.store 199 (.tmp 9) (.tmp 31),0,none⟩] [1,7,9,26,27,28])
 (.seq (.ops [
 ⟨some 32,.fieldAddr 199 (.tmp 9) 0,0,none⟩,
 ⟨some 33,.load 3 (.tmp 32),3,none⟩,
 ⟨some 34,.move (.tmp 1),3,none⟩,
 ⟨some 35,.binOp .eql 3 (.tmp 33) (.tmp 34) 3,4,none⟩] [1,7,9,26,27,28,35])
 (.cond (.tmp 35)
 (.ops [
 ⟨some 36,.fieldAddr 199 (.tmp 9) 1,0,none⟩,
 ⟨some 37,.load 9 (.tmp 36),9,none⟩,
 ⟨some 7,.assign (.tmp 37),9,none⟩] [1,7,26,27,28])
 (.skip [1,7,26,27,28]))))) (sg c106S1))
def c106L0(_:Unit):Cmd:=(.seq (.ops [
 ⟨some 29,.binOp .lss 3 (.tmp 28) (.tmp 27) 3,0,none⟩] [1,7,26,27,28,29])
 (.seq (.cond (.tmp 29)
 (.skip [1,7,26,27,28])
 (.exit 0 [7])) (sg c106S2)))
def c106S3(_:Unit):Cmd:=(.seq (.ops [
 ⟨some 39,.move (.tmp 7),9,none⟩,
 ⟨some 4,.assign (.tmp 39),9,none⟩,
 ⟨some 5,.assign (.const (.int .i64 0)),30,none⟩] [4,5])
 .ret)
def c106S4(_:Unit):Cmd:=(.seq (.ops [
 ⟨some 16,.move (.tmp 0),23,none⟩,
 ⟨some 17,.nilCheck (.tmp 16),0,none⟩,
 ⟨some 18,.fieldAddr 157 (.tmp 17) 0,0,none⟩,
 ⟨some 19,.load 22 (.tmp 18),22,none⟩,
 ⟨some 20,.move (.tmp 1),3,none⟩,
 ⟨some 21,.indexAddr 22 (.tmp 19) (.tmp 20),0,none⟩,
 ⟨some 22,.load 9 (.tmp 21),9,none⟩,
 ⟨some 7,.assign (.tmp 22),9,none⟩] [0,1,7])
 (.seq (.seq (.ops [
 ⟨some 23,.move (.tmp 0),23,none⟩,
 ⟨some 24,.nilCheck (.tmp 23),0,none⟩,
 ⟨some 25,.fieldAddr 157 (.tmp 24) 1,0,none⟩,
 ⟨some 26,.load 155 (.tmp 25),155,none⟩,
 ⟨some 27,.call ⟨.builtin .len,#[(.tmp 26)],#[155]⟩,3,none⟩,
 ⟨some 28,.move (.const (.int .i64 0)),3,none⟩] [1,7,26,27,28])
 (.block 0 (.loop (sg c106L0)))) (sg c106S3)))
def c106:Cmd:=(.seq (.ops [
 ⟨some 4,.assign (.const (.string (ofL []))),9,none⟩,
 ⟨some 5,.assign (.const (.int .i64 0)),30,none⟩] [0,1])
 (.seq (.seq (.ops [
 ⟨some 10,.move (.tmp 0),23,none⟩,
 ⟨some 11,.move (.tmp 1),3,none⟩,
 ⟨some 12,.call ⟨.value (.func 150),#[(.tmp 10),(.tmp 11)],#[23,3]⟩,30,none⟩,
 ⟨some 6,.assign (.tmp 12),30,none⟩] [0,1,6]) (sg c106S0)) (sg c106S4)))
attribute [go_sem] c106 c106S0 c106S1 c106S2 c106S3 c106S4
theorem ent106(a0 a1:Value)(w:World)(K:Value→World→Prop)(h:W Tryz.prog c106 [(0,a0),(1,a1)] w (finQ Tryz.prog [.tmp 4,.tmp 5] K)):Ret Tryz.prog 106 [a0,a1] w K :=
 Ret_of_W (code:=c106code) Tryz.func106 (by kernel_rfl) (by kernel_rfl) (of_decide_eq_true (by kernel_rfl)) h
@[go_sem] theorem go106:goFunc Tryz.prog 106=true:=by kernel_rfl
def c107code:Code:=match Tryz.f107.body with | some c=>c | none=>.skip
def c107S0(_:Unit):Cmd:=(.seq (.ops [
 ⟨some 44,.move (.tmp 7),30,none⟩,
 ⟨some 6,.assign (.tmp 44),30,none⟩] [6])
 .ret)
def c107S1(_:Unit):Cmd:=(.seq (.seq (.ops [
 ⟨some 22,.move (.tmp 7),30,none⟩,
 ⟨some 23,.binOp .eql 30 (.tmp 22) (.const (.int .i64 0)) 30,4,none⟩] [0,1,2,7,23])
 (.cond (.tmp 23)
 (.draw (drawOps 0 c107code) [7])
 (.skip [7]))) (sg c107S0))
def c107S2(_:Unit):Cmd:=(.seq (.seq (.ops [
 ⟨some 18,.move (.tmp 7),30,none⟩,
 ⟨some 19,.binOp .eql 30 (.tmp 18) (.const (.int .i64 0)) 30,4,none⟩] [0,1,2,7,19])
 (.cond (.tmp 19)
 (.ops [
 ⟨some 20,.move (.tmp 0),23,none⟩,
 ⟨some 21,.call ⟨.value (.func 151),#[(.tmp 20)],#[23]⟩,30,none⟩,
 ⟨some 7,.assign (.tmp 21),30,none⟩] [0,1,2,7])
 (.skip [0,1,2,7]))) (sg c107S1))
def c107S3(_:Unit):Cmd:=(.seq (.seq (.ops [
 ⟨some 11,.move (.tmp 7),30,none⟩,
 ⟨some 12,.binOp .eql 30 (.tmp 11) (.const (.int .i64 0)) 30,4,none⟩,
 ⟨some 13,.move (.tmp 12),4,none⟩,
 ⟨some 14,.move (.tmp 2),9,(some (13,true))⟩,
 ⟨some 15,.call ⟨.builtin .len,#[(.tmp 14)],#[9]⟩,3,(some (13,true))⟩,
 ⟨some 16,.binOp .gtr 3 (.tmp 15) (.const (.int .i64 256)) 3,4,(some (13,true))⟩,
 ⟨some 17,.pick (.tmp 13) (.tmp 16) (.const (.bool false)),4,none⟩] [0,1,2,7,17])
 (.cond (.tmp 17)
 (.ops [
 ⟨some 7,.assign (.const (.int .i64 21)),30,none⟩] [0,1,2,7])
 (.skip [0,1,2,7]))) (sg c107S2))
def c107:Cmd:=(.seq (.ops [
 ⟨some 6,.assign (.const (.int .i64 0)),30,none⟩] [0,1,2])
 (.seq (.ops [
 ⟨some 8,.move (.tmp 0),23,none⟩,
 ⟨some 9,.move (.tmp 1),3,none⟩,
 ⟨some 10,.call ⟨.value (.func 150),#[(.tmp 8),(.tmp 9)],#[23,3]⟩,30,none⟩,
 ⟨some 7,.assign (.tmp 10),30,none⟩] [0,1,2,7]) (sg c107S3)))
attribute [go_sem] c107 c107S0 c107S1 c107S2 c107S3
def c107D0:List (Nat × Ins):=[
 (0,⟨some 24,.move (.tmp 0),23,none⟩),
 (0,⟨some 25,.move (.tmp 0),23,none⟩),
 (0,⟨some 26,.nilCheck (.tmp 25),0,none⟩),
 (0,⟨some 27,.fieldAddr 157 (.tmp 26) 1,0,none⟩),
 (0,⟨some 29,.move (.tmp 1),3,none⟩),
 (0,⟨some 30,.move (.tmp 2),9,none⟩),
 (0,⟨some 31,.move (.tmp 0),23,none⟩),
 (0,⟨some 32,.nilCheck (.tmp 31),0,none⟩),
 (0,⟨some 33,.fieldAddr 157 (.tmp 32) 4,0,none⟩),
 (0,⟨some 35,.move (.tmp 2),9,none⟩),
 (0,⟨some 36,.call ⟨.builtin .len,#[(.tmp 35)],#[9]⟩,3,none⟩),
 (1,⟨some 28,.load 155 (.tmp 27),155,none⟩),
 (2,⟨some 34,.load 9 (.tmp 33),9,none⟩),
 (0,⟨some 37,.slice 9 (.tmp 34) (some (.tmp 36)) none none,9,none⟩),
 (0,⟨some 38,.binOp .add 9 (.tmp 30) (.tmp 37) 9,9,none⟩),
 (2,⟨some 39,.build 199 #[(0,(.tmp 29)),(1,(.tmp 38))],199,none⟩),
 (2,⟨some 40,.buildSlice 155 1 #[(0,(.tmp 39))],155,none⟩),
 (3,⟨some 41,.call ⟨.builtin .append,#[(.tmp 28),(.tmp 40)],#[155,155]⟩,155,none⟩),
 (0,⟨some 42,.nilCheck (.tmp 24),0,none⟩),
 (0,⟨some 43,.fieldAddr 157 (.tmp 42) 1,0,none⟩),
 (3,⟨none,.store 155 (.tmp 43) (.tmp 41),0,none⟩)]
theorem c107draw0{L:List Nat}{ρ:Env}{w:World}{Q:Post}(S:World→Prop)(hS:S w.drew)(h:DG Tryz.prog S c107D0 L ρ w.drew Q):drawW Tryz.prog (drawOps 0 c107code) L ρ w Q :=
 drawW_held [4] [(0,0),(0,1),(0,2),(0,3),(0,5),(0,6),(0,7),(0,8),(0,9),(0,11),(0,12),(1,4),(2,10),(0,13),(0,14),(2,15),(2,16),(3,17),(0,18),(0,19),(3,20)] c107D0 (by kernel_rfl) (by kernel_rfl) (by kernel_rfl) S hS h
theorem ent107(a0 a1 a2:Value)(w:World)(K:Value→World→Prop)(h:W Tryz.prog c107 [(0,a0),(1,a1),(2,a2)] w (finQ Tryz.prog [.tmp 6] K)):Ret Tryz.prog 107 [a0,a1,a2] w K :=
 Ret_of_W (code:=c107code) Tryz.func107 (by kernel_rfl) (by kernel_rfl) (of_decide_eq_true (by kernel_rfl)) h
@[go_sem] theorem go107:goFunc Tryz.prog 107=true:=by kernel_rfl
def c108code:Code:=match Tryz.f108.body with | some c=>c | none=>.skip
def c108S0(_:Unit):Cmd:=(.seq (.ops [
 ⟨some 14,.move (.tmp 5),30,none⟩,
 ⟨some 15,.binOp .neq 30 (.tmp 14) (.const (.int .i64 0)) 30,4,none⟩] [0,5,15])
 (.cond (.tmp 15)
 (.seq (.ops [
 ⟨some 16,.move (.tmp 5),30,none⟩,
 ⟨some 4,.assign (.tmp 16),30,none⟩] [4])
 .ret)
 (.skip [0])))
def c108S1(_:Unit):Cmd:=.ret
def c108S2(_:Unit):Cmd:=(.seq (.ops [
 ⟨some 17,.move (.tmp 0),23,none⟩,
 ⟨some 18,.call ⟨.value (.func 153),#[(.tmp 17)],#[23]⟩,30,none⟩,
 ⟨some 4,.assign (.tmp 18),30,none⟩] [4]) (sg c108S1))
def c108:Cmd:=(.seq (.ops [
 ⟨some 3,.box 160 (.tmp 1),0,none⟩,
 ⟨some 4,.assign (.const (.int .i64 0)),30,none⟩] [0,3])
 (.seq (.seq (.draw (drawOps 0 c108code) [0,5]) (sg c108S0)) (sg c108S2)))
attribute [go_sem] c108 c108S0 c108S1 c108S2
def c108D0:List (Nat × Ins):=[
 (0,⟨some 6,.move (.tmp 0),23,none⟩),
 (0,⟨some 7,.fieldAddr 160 (.tmp 3) 0,0,none⟩),
 (1,⟨some 8,.load 147 (.tmp 7),147,none⟩),
 (0,⟨some 9,.binOp .rem 147 (.tmp 8) (.const (.int .u64 2)) 147,147,none⟩),
 (0,⟨some 10,.convert 147 3 (.tmp 9),3,none⟩),
 (2,⟨some 11,.load 160 (.tmp 3),160,none⟩),
 (2,⟨some 12,.call ⟨.value (.func 152),#[(.tmp 11)],#[160]⟩,9,none⟩),
 (2,⟨some 13,.call ⟨.value (.func 107),#[(.tmp 6),(.tmp 10),(.tmp 12)],#[23,3,9]⟩,30,none⟩),
 (0,⟨some 5,.assign (.tmp 13),30,none⟩)]
theorem c108draw0{L:List Nat}{ρ:Env}{w:World}{Q:Post}(S:World→Prop)(hS:S w.drew)(h:DG Tryz.prog S c108D0 L ρ w.drew Q):drawW Tryz.prog (drawOps 0 c108code) L ρ w Q :=
 drawW_held [2] [(0,0),(0,1),(1,2),(0,3),(0,4),(2,5),(2,6),(2,7),(0,8)] c108D0 (by kernel_rfl) (by kernel_rfl) (by kernel_rfl) S hS h
theorem ent108(a0 a1:Value)(w:World)(K:Value→World→Prop)(h:W Tryz.prog c108 [(0,a0),(1,a1)] w (finQ Tryz.prog [.tmp 4] K)):Ret Tryz.prog 108 [a0,a1] w K :=
 Ret_of_W (code:=c108code) Tryz.func108 (by kernel_rfl) (by kernel_rfl) (of_decide_eq_true (by kernel_rfl)) h
@[go_sem] theorem go108:goFunc Tryz.prog 108=true:=by kernel_rfl
def c109code:Code:=match Tryz.f109.body with | some c=>c | none=>.skip
def c109S0(_:Unit):Cmd:=(.seq (.ops [
 ⟨some 70,.move (.tmp 10),4,none⟩,
 ⟨some 71,.move (.tmp 70),4,none⟩,
 ⟨some 72,.move (.tmp 11),4,(some (71,true))⟩,
 ⟨some 73,.pick (.tmp 71) (.tmp 72) (.const (.bool false)),4,none⟩,
 ⟨some 74,.move (.tmp 73),4,none⟩,
 ⟨some 75,.fieldAddr 160 (.tmp 9) 0,0,(some (74,true))⟩,
 ⟨some 76,.load 147 (.tmp 75),147,(some (74,true))⟩,
 ⟨some 77,.fieldAddr 160 (.tmp 4) 0,0,(some (74,true))⟩,
 ⟨some 78,.load 147 (.tmp 77),147,(some (74,true))⟩,
 ⟨some 79,.binOp .gtr 147 (.tmp 76) (.tmp 78) 147,4,(some (74,true))⟩,
 ⟨some 80,.pick (.tmp 74) (.tmp 79) (.const (.bool false)),4,none⟩,
 ⟨some 81,.move (.tmp 80),4,none⟩,
 ⟨some 82,.fieldAddr 160 (.tmp 9) 0,0,(some (81,true))⟩,
 ⟨some 83,.load 147 (.tmp 82),147,(some (81,true))⟩,
 ⟨some 84,.binOp .rem 147 (.tmp 83) (.const (.int .u64 2)) 147,147,(some (81,true))⟩,
 ⟨some 85,.convert 147 3 (.tmp 84),3,(some (81,true))⟩,
 ⟨some 86,.move (.tmp 6),3,(some (81,true))⟩,
 ⟨some 87,.binOp .eql 3 (.tmp 85) (.tmp 86) 3,4,(some (81,true))⟩,
 ⟨some 88,.pick (.tmp 81) (.tmp 87) (.const (.bool false)),4,none⟩] [0,2,4,5,9,12,88])
 (.cond (.tmp 88)
 (.ops [
 ⟨some 89,.load 160 (.tmp 9),160,none⟩,
 ⟨none,.store 160 (.tmp 4) (.tmp 89),0,none⟩,
 ⟨some 5,.assign (.const (.bool true)),4,none⟩] [0,2,4,5,12])
 (.skip [0,2,4,5,12])))
def c109S1(_:Unit):Cmd:=(.seq (.draw (drawOps 0 c109code) [0,2,4,5,6,9,10,11,12]) (sg c109S0))
def c109S2(_:Unit):Cmd:=(.seq (.ops [
 ⟨some 28,.move (.tmp 7),9,none⟩,
 ⟨some 29,.call ⟨.value (.func 154),#[(.tmp 28)],#[9]⟩,201,none⟩,
 ⟨some 27,.move (.tmp 29),201,none⟩,
 ⟨some 30,.extract (.tmp 27) 0,160,none⟩,
 ⟨some 31,.extract (.tmp 27) 1,4,none⟩,
 ⟨some 9,.alloc 160,0,none⟩,
 ⟨none,.store 160 (.tmp 9) (.tmp 30),0,none⟩,
 ⟨some 10,.assign (.tmp 31),4,none⟩] [0,2,4,5,6,9,10,12]) (sg c109S1))
def c109S3(_:Unit):Cmd:=(.seq (.seq (.ops [
 ⟨some 23,.move (.tmp 8),30,none⟩,
 ⟨some 24,.binOp .neq 30 (.tmp 23) (.const (.int .i64 0)) 30,4,none⟩] [0,2,4,5,6,7,8,12,24])
 (.cond (.tmp 24)
 (.seq (.ops [
 ⟨some 25,.load 160 (.tmp 4),160,none⟩,
 ⟨some 26,.move (.tmp 8),30,none⟩,
 ⟨none,.store 160 (.tmp 2) (.tmp 25),0,none⟩,
 ⟨some 3,.assign (.tmp 26),30,none⟩] [2,3])
 .ret)
 (.skip [0,2,4,5,6,7,12]))) (sg c109S2))
def c109S4(_:Unit):Cmd:=(.seq (.seq (.ops [
 ⟨some 21,.move (.tmp 8),30,none⟩,
 ⟨some 22,.binOp .eql 30 (.tmp 21) (.const (.int .i64 10)) 30,4,none⟩] [0,2,4,5,6,7,8,12,22])
 (.cond (.tmp 22)
 (.exit 1 [0,2,4,5,12])
 (.skip [0,2,4,5,6,7,8,12]))) (sg c109S3))
def c109S5(_:Unit):Cmd:=(.ops [
 ⟨some 90,.binOp .add 3 (.tmp 12) (.const (.int .i64 1)) 3,3,none⟩,
 ⟨some 12,.move (.tmp 90),3,none⟩] [0,2,4,5,12])
def c109S6(_:Unit):Cmd:=(.seq (.block 1 (.seq (.ops [
 ⟨some 14,.move (.tmp 12),3,none⟩,
 ⟨some 6,.assign (.tmp 14),3,none⟩] [0,2,4,5,6,12])
 (.seq (.ops [
 ⟨some 16,.move (.tmp 0),23,none⟩,
 ⟨some 17,.move (.tmp 6),3,none⟩,
 ⟨some 18,.call ⟨.value (.func 106),#[(.tmp 16),(.tmp 17)],#[23,3]⟩,50,none⟩,
 ⟨some 15,.move (.tmp 18),50,none⟩,
 ⟨some 19,.extract (.tmp 15) 0,9,none⟩,
 ⟨some 20,.extract (.tmp 15) 1,30,none⟩,
 ⟨some 7,.assign (.tmp 19),9,none⟩,
 ⟨some 8,.assign (.tmp 20),30,none⟩] [0,2,4,5,6,7,8,12]) (sg c109S4)))) (sg c109S5))
def c109L0(_:Unit):Cmd:=(.seq (.ops [
 ⟨some 13,.binOp .lss 3 (.tmp 12) (.const (.int .i64 2)) 3,4,none⟩] [0,2,4,5,12,13])
 (.seq (.cond (.tmp 13)
 (.skip [0,2,4,5,12])
 (.exit 0 [2,4,5])) (sg c109S6)))
def c109S7(_:Unit):Cmd:=(.seq (.ops [
 ⟨some 94,.load 160 (.tmp 4),160,none⟩,
 ⟨none,.store 160 (.tmp 2) (.tmp 94),0,none⟩,
 ⟨some 3,.assign (.const (.int .i64 0)),30,none⟩] [2,3])
 .ret)
def c109S8(_:Unit):Cmd:=(.seq (.seq (.ops [
 ⟨some 91,.move (.tmp 5),4,none⟩,
 ⟨some 92,.unOp .not 4 (.tmp 91),4,none⟩] [2,4,92])
 (.cond (.tmp 92)
 (.seq (.ops [
 ⟨some 93,.load 160 (.tmp 4),160,none⟩,
 ⟨none,.store 160 (.tmp 2) (.tmp 93),0,none⟩,
 ⟨some 3,.assign (.const (.int .i64 14)),30,none⟩] [2,3])
 .ret)
 (.skip [2,4]))) (sg c109S7))
def c109:Cmd:=(.seq (.ops [
 ⟨some 2,.alloc 160,0,none⟩,
 ⟨some 3,.assign (.const (.int .i64 0)),30,none⟩] [0,2])
 (.seq (.ops [
 ⟨some 4,.alloc 160,0,none⟩] [0,2,4])
 (.seq (.ops [
 ⟨some 5,.assign (.const (.bool false)),4,none⟩] [0,2,4,5])
 (.seq (.seq (.ops [
 ⟨some 12,.move (.const (.int .i64 0)),3,none⟩] [0,2,4,5,12])
 (.block 0 (.loop (sg c109L0)))) (sg c109S8)))))
attribute [go_sem] c109 c109S0 c109S1 c109S2 c109S3 c109S4 c109S5 c109S6 c109S7 c109S8
def c109D0:List (Nat × Ins):=[
 (0,⟨some 32,.fieldAddr 160 (.tmp 9) 2,0,none⟩),
 (2,⟨some 33,.load 3 (.tmp 32),3,none⟩),
 (0,⟨some 34,.binOp .geq 3 (.tmp 33) (.const (.int .i64 1)) 3,4,none⟩),
 (0,⟨some 35,.move (.tmp 34),4,none⟩),
 (0,⟨some 36,.fieldAddr 160 (.tmp 9) 3,0,(some (35,true))⟩),
 (2,⟨some 37,.load 3 (.tmp 36),3,(some (35,true))⟩),
 (0,⟨some 38,.binOp .geq 3 (.tmp 37) (.const (.int .i64 1)) 3,4,(some (35,true))⟩),
 (0,⟨some 39,.pick (.tmp 35) (.tmp 38) (.const (.bool false)),4,none⟩),
 (0,⟨some 40,.move (.tmp 39),4,none⟩),
 (0,⟨some 41,.fieldAddr 160 (.tmp 9) 3,0,(some (40,true))⟩),
 (2,⟨some 42,.load 3 (.tmp 41),3,(some (40,true))⟩),
 (0,⟨some 43,.binOp .leq 3 (.tmp 42) (.const (.int .i64 1024)) 3,4,(some (40,true))⟩),
 (0,⟨some 44,.pick (.tmp 40) (.tmp 43) (.const (.bool false)),4,none⟩),
 (0,⟨some 45,.move (.tmp 44),4,none⟩),
 (0,⟨some 46,.fieldAddr 160 (.tmp 9) 1,0,(some (45,true))⟩),
 (0,⟨some 48,.fieldAddr 160 (.tmp 9) 2,0,(some (45,true))⟩),
 (1,⟨some 47,.load 3 (.tmp 46),3,(some (45,true))⟩),
 (2,⟨some 49,.load 3 (.tmp 48),3,(some (45,true))⟩),
 (0,⟨some 50,.binOp .leq 3 (.tmp 47) (.tmp 49) 3,4,(some (45,true))⟩),
 (0,⟨some 51,.pick (.tmp 45) (.tmp 50) (.const (.bool false)),4,none⟩),
 (0,⟨some 52,.move (.tmp 51),4,none⟩),
 (0,⟨some 53,.fieldAddr 160 (.tmp 9) 2,0,(some (52,true))⟩),
 (0,⟨some 55,.move (.tmp 0),23,(some (52,true))⟩),
 (1,⟨some 54,.load 3 (.tmp 53),3,(some (52,true))⟩),
 (2,⟨some 56,.call ⟨.value (.func 105),#[(.tmp 55)],#[23]⟩,3,(some (52,true))⟩),
 (0,⟨some 57,.binOp .leq 3 (.tmp 54) (.tmp 56) 3,4,(some (52,true))⟩),
 (0,⟨some 58,.pick (.tmp 52) (.tmp 57) (.const (.bool false)),4,none⟩),
 (0,⟨some 59,.move (.tmp 58),4,none⟩),
 (0,⟨some 60,.fieldAddr 160 (.tmp 9) 2,0,(some (59,true))⟩),
 (0,⟨some 63,.fieldAddr 160 (.tmp 9) 3,0,(some (59,true))⟩),
 (0,⟨some 66,.move (.tmp 0),23,(some (59,true))⟩),
 (1,⟨some 61,.load 3 (.tmp 60),3,(some (59,true))⟩),
 (0,⟨some 62,.binOp .add 3 (.const (.int .i64 2)) (.tmp 61) 3,3,(some (59,true))⟩),
 (1,⟨some 64,.load 3 (.tmp 63),3,(some (59,true))⟩),
 (0,⟨some 65,.binOp .add 3 (.tmp 62) (.tmp 64) 3,3,(some (59,true))⟩),
 (2,⟨some 67,.call ⟨.value (.func 105),#[(.tmp 66)],#[23]⟩,3,(some (59,true))⟩),
 (0,⟨some 68,.binOp .leq 3 (.tmp 65) (.tmp 67) 3,4,(some (59,true))⟩),
 (0,⟨some 69,.pick (.tmp 59) (.tmp 68) (.const (.bool false)),4,none⟩),
 (0,⟨some 11,.assign (.tmp 69),4,none⟩)]
theorem c109draw0{L:List Nat}{ρ:Env}{w:World}{Q:Post}(S:World→Prop)(hS:S w.drew)(h:DG Tryz.prog S c109D0 L ρ w.drew Q):drawW Tryz.prog (drawOps 0 c109code) L ρ w Q :=
 drawW_held [15,22,29,32] [(0,0),(2,1),(0,2),(0,3),(0,4),(2,5),(0,6),(0,7),(0,8),(0,9),(2,10),(0,11),(0,12),(0,13),(0,14),(0,16),(1,15),(2,17),(0,18),(0,19),(0,20),(0,21),(0,23),(1,22),(2,24),(0,25),(0,26),(0,27),(0,28),(0,31),(0,34),(1,29),(0,30),(1,32),(0,33),(2,35),(0,36),(0,37),(0,38)] c109D0 (by kernel_rfl) (by kernel_rfl) (by kernel_rfl) S hS h
theorem ent109(a0:Value)(w:World)(K:Value→World→Prop)(h:W Tryz.prog c109 [(0,a0)] w (finQ Tryz.prog [.cell 2 160,.tmp 3] K)):Ret Tryz.prog 109 [a0] w K :=
 Ret_of_W (code:=c109code) Tryz.func109 (by kernel_rfl) (by kernel_rfl) (of_decide_eq_true (by kernel_rfl)) h
@[go_sem] theorem go109:goFunc Tryz.prog 109=true:=by kernel_rfl
@[go_sem] theorem go110:goFunc Tryz.prog 110=true:=by kernel_rfl
def c111code:Code:=match Tryz.f111.body with | some c=>c | none=>.skip
def c111S0(_:Unit):Cmd:=(.cond (.tmp 22)
 (.seq (.ops [
 ⟨some 4,.assign (.const (.int .i64 14)),30,none⟩] [4])
 .ret)
 (.skip [0,6,9,10,11]))
def c111S1(_:Unit):Cmd:=(.seq (.ops [
 ⟨some 39,.move (.tmp 7),30,none⟩,
 ⟨some 40,.binOp .neq 30 (.tmp 39) (.const (.int .i64 0)) 30,4,none⟩] [0,7,9,10,11,40])
 (.cond (.tmp 40)
 (.seq (.ops [
 ⟨some 41,.move (.tmp 7),30,none⟩,
 ⟨some 4,.assign (.tmp 41),30,none⟩] [4])
 .ret)
 (.skip [0,9,10,11])))
def c111S2(_:Unit):Cmd:=(.seq (.draw (drawOps 1 c111code) [0,7,9,10,11]) (sg c111S1))
def c111S3(_:Unit):Cmd:=(.ops [
 ⟨some 42,.binOp .add 3 (.tmp 11) (.const (.int .i64 1)) 3,3,none⟩,
 ⟨some 11,.move (.tmp 42),3,none⟩] [0,9,10,11])
def c111S4(_:Unit):Cmd:=(.seq (.block 1 (.seq (.ops [
 ⟨some 13,.indexAddr 36 (.tmp 9) (.tmp 11),0,none⟩,
 ⟨some 14,.load 44 (.tmp 13),44,none⟩,
 ⟨some 6,.alloc 44,0,none⟩,
 ⟨none,.store 44 (.tmp 6) (.tmp 14),0,none⟩] [0,6,9,10,11])
 (.seq (.seq (.draw (drawOps 0 c111code) [0,6,9,10,11,22]) (sg c111S0)) (sg c111S2)))) (sg c111S3))
def c111L0(_:Unit):Cmd:=(.seq (.ops [
 ⟨some 12,.binOp .lss 3 (.tmp 11) (.tmp 10) 3,0,none⟩] [0,9,10,11,12])
 (.seq (.cond (.tmp 12)
 (.skip [0,9,10,11])
 (.exit 0 [0])) (sg c111S4)))
def c111S5(_:Unit):Cmd:=(.seq (.ops [
 ⟨some 48,.move (.tmp 8),30,none⟩,
 ⟨some 49,.binOp .neq 30 (.tmp 48) (.const (.int .i64 0)) 30,4,none⟩] [0,8,49])
 (.cond (.tmp 49)
 (.seq (.ops [
 ⟨some 50,.move (.tmp 8),30,none⟩,
 ⟨some 4,.assign (.tmp 50),30,none⟩] [4])
 .ret)
 (.skip [0])))
def c111S6(_:Unit):Cmd:=.ret
def c111S7(_:Unit):Cmd:=(.seq (.ops [
 ⟨some 51,.move (.tmp 0),88,none⟩,
 ⟨some 52,.call ⟨.value (.func 158),#[(.tmp 51),(.const (.int .i64 0))],#[88,3]⟩,30,none⟩,
 ⟨some 4,.assign (.tmp 52),30,none⟩] [4]) (sg c111S6))
def c111S8(_:Unit):Cmd:=(.seq (.seq (.ops [
 ⟨some 43,.move (.tmp 0),88,none⟩,
 ⟨some 44,.nilCheck (.tmp 43),0,none⟩,
 ⟨some 45,.fieldAddr 165 (.tmp 44) 0,0,none⟩,
 ⟨some 46,.load 23 (.tmp 45),23,none⟩,
 ⟨some 47,.call ⟨.value (.func 153),#[(.tmp 46)],#[23]⟩,30,none⟩,
 ⟨some 8,.assign (.tmp 47),30,none⟩] [0,8]) (sg c111S5)) (sg c111S7))
def c111:Cmd:=(.seq (.ops [
 ⟨some 4,.assign (.const (.int .i64 0)),30,none⟩] [0,1])
 (.seq (.seq (.ops [
 ⟨some 9,.move (.tmp 1),36,none⟩,
 ⟨some 10,.call ⟨.builtin .len,#[(.tmp 9)],#[36]⟩,3,none⟩,
 ⟨some 11,.move (.const (.int .i64 0)),3,none⟩] [0,9,10,11])
 (.block 0 (.loop (sg c111L0)))) (sg c111S8)))
attribute [go_sem] c111 c111S0 c111S1 c111S2 c111S3 c111S4 c111S5 c111S6 c111S7 c111S8
def c111D0:List (Bool × Ins):=[
 (true,⟨some 15,.fieldAddr 44 (.tmp 6) 0,0,none⟩),
 (false,⟨some 16,.load 3 (.tmp 15),3,none⟩),
 (true,⟨some 17,.move (.tmp 0),88,none⟩),
 (true,⟨some 18,.nilCheck (.tmp 17),0,none⟩),
 (true,⟨some 19,.fieldAddr 165 (.tmp 18) 1,0,none⟩),
 (true,⟨some 20,.fieldAddr 160 (.tmp 19) 3,0,none⟩),
 (false,⟨some 21,.load 3 (.tmp 20),3,none⟩),
 (true,⟨some 22,.binOp .geq 3 (.tmp 16) (.tmp 21) 3,4,none⟩)]
theorem c111draw0{L:List Nat}{ρ:Env}{w:World}{Q:Post}(h:DL Tryz.prog c111D0 L ρ w.drew Q):drawW Tryz.prog (drawOps 0 c111code) L ρ w Q :=
 drawW_still [true,false,true,true,true,true,false,true] c111D0 (by kernel_rfl) (by kernel_rfl) (by kernel_rfl) h
def c111D1:List (Nat × Ins):=[
 (0,⟨some 23,.move (.tmp 0),88,none⟩),
 (0,⟨some 24,.nilCheck (.tmp 23),0,none⟩),
 (0,⟨some 25,.fieldAddr 165 (.tmp 24) 0,0,none⟩),
 (0,⟨some 27,.move (.tmp 0),88,none⟩),
 (0,⟨some 28,.nilCheck (.tmp 27),0,none⟩),
 (0,⟨some 29,.fieldAddr 165 (.tmp 28) 1,0,none⟩),
 (0,⟨some 30,.fieldAddr 160 (.tmp 29) 2,0,none⟩),
 (0,⟨some 33,.fieldAddr 44 (.tmp 6) 0,0,none⟩),
 (0,⟨some 36,.fieldAddr 44 (.tmp 6) 1,0,none⟩),
 (1,⟨some 26,.load 23 (.tmp 25),23,none⟩),
 (1,⟨some 31,.load 3 (.tmp 30),3,none⟩),
 (0,⟨some 32,.binOp .add 3 (.const (.int .i64 2)) (.tmp 31) 3,3,none⟩),
 (1,⟨some 34,.load 3 (.tmp 33),3,none⟩),
 (0,⟨some 35,.binOp .add 3 (.tmp 32) (.tmp 34) 3,3,none⟩),
 (2,⟨some 37,.load 9 (.tmp 36),9,none⟩),
 (2,⟨some 38,.call ⟨.value (.func 107),#[(.tmp 26),(.tmp 35),(.tmp 37)],#[23,3,9]⟩,30,none⟩),
 (0,⟨some 7,.assign (.tmp 38),30,none⟩)]
theorem c111draw1{L:List Nat}{ρ:Env}{w:World}{Q:Post}(S:World→Prop)(hS:S w.drew)(h:DG Tryz.prog S c111D1 L ρ w.drew Q):drawW Tryz.prog (drawOps 1 c111code) L ρ w Q :=
 drawW_held [3,8,11] [(0,0),(0,1),(0,2),(0,4),(0,5),(0,6),(0,7),(0,10),(0,13),(1,3),(1,8),(0,9),(1,11),(0,12),(2,14),(2,15),(0,16)] c111D1 (by kernel_rfl) (by kernel_rfl) (by kernel_rfl) S hS h
theorem ent111(a0 a1:Value)(w:World)(K:Value→World→Prop)(h:W Tryz.prog c111 [(0,a0),(1,a1)] w (finQ Tryz.prog [.tmp 4] K)):Ret Tryz.prog 111 [a0,a1] w K :=
 Ret_of_W (code:=c111code) Tryz.func111 (by kernel_rfl) (by kernel_rfl) (of_decide_eq_true (by kernel_rfl)) h
@[go_sem] theorem go111:goFunc Tryz.prog 111=true:=by kernel_rfl
def c112code:Code:=match Tryz.f112.body with | some c=>c | none=>.skip
def c112S0(_:Unit):Cmd:=(.seq (.ops [
 ⟨some 14,.move (.tmp 6),30,none⟩,
 ⟨some 15,.binOp .neq 30 (.tmp 14) (.const (.int .i64 0)) 30,4,none⟩] [0,1,6,15])
 (.cond (.tmp 15)
 (.seq (.ops [
 ⟨some 16,.move (.tmp 6),30,none⟩,
 ⟨some 4,.assign (.const (.string (ofL []))),9,none⟩,
 ⟨some 5,.assign (.tmp 16),30,none⟩] [4,5])
 .ret)
 (.skip [0,1])))
def c112S1(_:Unit):Cmd:=(.seq (.ops [
 ⟨some 49,.move (.tmp 9),9,none⟩,
 ⟨some 50,.move (.tmp 10),30,none⟩,
 ⟨some 4,.assign (.tmp 49),9,none⟩,
 ⟨some 5,.assign (.tmp 50),30,none⟩] [4,5])
 .ret)
def c112S2(_:Unit):Cmd:=(.seq (.seq (.ops [
 ⟨some 44,.move (.tmp 10),30,none⟩,
 ⟨some 45,.binOp .neq 30 (.tmp 44) (.const (.int .i64 0)) 30,4,none⟩] [0,9,10,45])
 (.cond (.tmp 45)
 (.ops [
 ⟨some 46,.move (.tmp 0),88,none⟩,
 ⟨some 47,.nilCheck (.tmp 46),0,none⟩,
 ⟨some 48,.fieldAddr 165 (.tmp 47) 3,0,none⟩,
 ⟨none,.store 4 (.tmp 48) (.const (.bool true)),0,none⟩] [9,10])
 (.skip [9,10]))) (sg c112S1))
def c112S3(_:Unit):Cmd:=(.seq (.draw (drawOps 0 c112code) [0,9,10]) (sg c112S2))
def c112S4(_:Unit):Cmd:=(.seq (.seq (.ops [
 ⟨some 18,.move (.tmp 0),88,none⟩,
 ⟨some 19,.nilCheck (.tmp 18),0,none⟩,
 ⟨some 20,.fieldAddr 165 (.tmp 19) 2,0,none⟩,
 ⟨some 21,.load 163 (.tmp 20),163,none⟩,
 ⟨some 22,.move (.tmp 1),3,none⟩,
 ⟨some 23,.lookup 163 (.tmp 21) (.tmp 22) true,72,none⟩,
 ⟨some 17,.move (.tmp 23),72,none⟩,
 ⟨some 24,.extract (.tmp 17) 0,9,none⟩,
 ⟨some 25,.extract (.tmp 17) 1,4,none⟩,
 ⟨some 7,.assign (.tmp 24),9,none⟩,
 ⟨some 8,.assign (.tmp 25),4,none⟩] [0,1,7,8])
 (.seq (.ops [
 ⟨some 26,.move (.tmp 8),4,none⟩] [0,1,7,26])
 (.cond (.tmp 26)
 (.seq (.ops [
 ⟨some 27,.move (.tmp 7),9,none⟩,
 ⟨some 4,.assign (.tmp 27),9,none⟩,
 ⟨some 5,.assign (.const (.int .i64 0)),30,none⟩] [4,5])
 .ret)
 (.skip [0,1])))) (sg c112S3))
def c112:Cmd:=(.seq (.ops [
 ⟨some 4,.assign (.const (.string (ofL []))),9,none⟩,
 ⟨some 5,.assign (.const (.int .i64 0)),30,none⟩] [0,1])
 (.seq (.seq (.ops [
 ⟨some 11,.move (.tmp 0),88,none⟩,
 ⟨some 12,.move (.tmp 1),3,none⟩,
 ⟨some 13,.call ⟨.value (.func 159),#[(.tmp 11),(.tmp 12)],#[88,3]⟩,30,none⟩,
 ⟨some 6,.assign (.tmp 13),30,none⟩] [0,1,6]) (sg c112S0)) (sg c112S4)))
attribute [go_sem] c112 c112S0 c112S1 c112S2 c112S3 c112S4
def c112D0:List (Nat × Ins):=[
 (0,⟨some 29,.move (.tmp 0),88,none⟩),
 (0,⟨some 30,.nilCheck (.tmp 29),0,none⟩),
 (0,⟨some 31,.fieldAddr 165 (.tmp 30) 0,0,none⟩),
 (0,⟨some 33,.move (.tmp 0),88,none⟩),
 (0,⟨some 34,.nilCheck (.tmp 33),0,none⟩),
 (0,⟨some 35,.fieldAddr 165 (.tmp 34) 1,0,none⟩),
 (0,⟨some 36,.fieldAddr 160 (.tmp 35) 2,0,none⟩),
 (0,⟨some 39,.move (.tmp 1),3,none⟩),
 (1,⟨some 32,.load 23 (.tmp 31),23,none⟩),
 (2,⟨some 37,.load 3 (.tmp 36),3,none⟩),
 (0,⟨some 38,.binOp .add 3 (.const (.int .i64 2)) (.tmp 37) 3,3,none⟩),
 (0,⟨some 40,.binOp .add 3 (.tmp 38) (.tmp 39) 3,3,none⟩),
 (3,⟨some 41,.call ⟨.value (.func 106),#[(.tmp 32),(.tmp 40)],#[23,3]⟩,50,none⟩),
 (0,⟨some 28,.move (.tmp 41),50,none⟩),
 (0,⟨some 42,.extract (.tmp 28) 0,9,none⟩),
 (0,⟨some 43,.extract (.tmp 28) 1,30,none⟩),
 (0,⟨some 9,.assign (.tmp 42),9,none⟩),
 (0,⟨some 10,.assign (.tmp 43),30,none⟩)]
theorem c112draw0{L:List Nat}{ρ:Env}{w:World}{Q:Post}(S:World→Prop)(hS:S w.drew)(h:DG Tryz.prog S c112D0 L ρ w.drew Q):drawW Tryz.prog (drawOps 0 c112code) L ρ w Q :=
 drawW_held [3] [(0,0),(0,1),(0,2),(0,4),(0,5),(0,6),(0,7),(0,10),(1,3),(2,8),(0,9),(0,11),(3,12),(0,13),(0,14),(0,15),(0,16),(0,17)] c112D0 (by kernel_rfl) (by kernel_rfl) (by kernel_rfl) S hS h
theorem ent112(a0 a1:Value)(w:World)(K:Value→World→Prop)(h:W Tryz.prog c112 [(0,a0),(1,a1)] w (finQ Tryz.prog [.tmp 4,.tmp 5] K)):Ret Tryz.prog 112 [a0,a1] w K :=
 Ret_of_W (code:=c112code) Tryz.func112 (by kernel_rfl) (by kernel_rfl) (of_decide_eq_true (by kernel_rfl)) h
@[go_sem] theorem go112:goFunc Tryz.prog 112=true:=by kernel_rfl
def c113code:Code:=match Tryz.f113.body with | some c=>c | none=>.skip
def c113S0(_:Unit):Cmd:=(.seq (.ops [
 ⟨some 10,.move (.tmp 0),3,none⟩,
 ⟨some 11,.build 206 #[(0,(.tmp 10))],206,none⟩,
 ⟨some 12,.box 206 (.tmp 11),96,none⟩,
 ⟨some 2,.assign (.tmp 12),96,none⟩,
 ⟨some 3,.assign (.const (.int .i64 0)),30,none⟩] [2,3])
 .ret)
def c113:Cmd:=(.seq (.ops [
 ⟨some 2,.assign (.const (.pointer none)),96,none⟩,
 ⟨some 3,.assign (.const (.int .i64 0)),30,none⟩] [0])
 (.seq (.seq (.ops [
 ⟨some 4,.move (.tmp 0),3,none⟩,
 ⟨some 5,.binOp .lss 3 (.tmp 4) (.const (.int .i64 1)) 3,4,none⟩,
 ⟨some 6,.move (.tmp 5),4,none⟩,
 ⟨some 7,.move (.tmp 0),3,(some (6,false))⟩,
 ⟨some 8,.binOp .gtr 3 (.tmp 7) (.const (.int .i64 1024)) 3,4,(some (6,false))⟩,
 ⟨some 9,.pick (.tmp 6) (.const (.bool true)) (.tmp 8),4,none⟩] [0,9])
 (.cond (.tmp 9)
 (.seq (.ops [
 ⟨some 2,.assign (.const (.pointer none)),96,none⟩,
 ⟨some 3,.assign (.const (.int .i64 1)),30,none⟩] [2,3])
 .ret)
 (.skip [0]))) (sg c113S0)))
attribute [go_sem] c113 c113S0
theorem ent113(a0:Value)(w:World)(K:Value→World→Prop)(h:W Tryz.prog c113 [(0,a0)] w (finQ Tryz.prog [.tmp 2,.tmp 3] K)):Ret Tryz.prog 113 [a0] w K :=
 Ret_of_W (code:=c113code) Tryz.func113 (by kernel_rfl) (by kernel_rfl) (of_decide_eq_true (by kernel_rfl)) h
@[go_sem] theorem go113:goFunc Tryz.prog 113=true:=by kernel_rfl
def c114code:Code:=match Tryz.f114.body with | some c=>c | none=>.skip
def c114S0(_:Unit):Cmd:=.ret
def c114:Cmd:=(.seq (.ops [
 ⟨some 2,.assign (.const (.string (ofL []))),9,none⟩] [0])
 (.seq (.ops [
 ⟨some 3,.move (.tmp 0),3,none⟩,
 ⟨some 4,.binOp .quo 3 (.tmp 3) (.const (.int .i64 8)) 3,3,none⟩,
 ⟨some 5,.move (.tmp 0),3,none⟩,
 ⟨some 6,.binOp .rem 3 (.tmp 5) (.const (.int .i64 8)) 3,3,none⟩,
 ⟨some 7,.call ⟨.builtin .max,#[(.const (.int .i64 0)),(.tmp 6)],#[3,3]⟩,3,none⟩,
 ⟨some 8,.call ⟨.builtin .min,#[(.const (.int .i64 1)),(.tmp 7)],#[3,3]⟩,3,none⟩,
 ⟨some 9,.binOp .add 3 (.tmp 4) (.tmp 8) 3,3,none⟩,
 ⟨some 10,.call ⟨.builtin .max,#[(.const (.int .i64 0)),(.tmp 9)],#[3,3]⟩,3,none⟩,
 ⟨some 11,.makeSlice 181 (.tmp 10) (.tmp 10),181,none⟩,
 ⟨some 12,.convert 181 9 (.tmp 11),9,none⟩,
 ⟨some 2,.assign (.tmp 12),9,none⟩] [2]) (sg c114S0)))
attribute [go_sem] c114 c114S0
theorem ent114(a0:Value)(w:World)(K:Value→World→Prop)(h:W Tryz.prog c114 [(0,a0)] w (finQ Tryz.prog [.tmp 2] K)):Ret Tryz.prog 114 [a0] w K :=
 Ret_of_W (code:=c114code) Tryz.func114 (by kernel_rfl) (by kernel_rfl) (of_decide_eq_true (by kernel_rfl)) h
@[go_sem] theorem go114:goFunc Tryz.prog 114=true:=by kernel_rfl
def c115code:Code:=match Tryz.f115.body with | some c=>c | none=>.skip
def c115S0(_:Unit):Cmd:=(.seq (.ops [
 ⟨some 44,.move (.tmp 8),181,none⟩,
 ⟨some 45,.convert 181 9 (.tmp 44),9,none⟩,
 ⟨some 6,.assign (.tmp 45),9,none⟩,
 ⟨some 7,.assign (.const (.bool true)),4,none⟩] [6,7])
 .ret)
def c115S1(_:Unit):Cmd:=(.seq (.ops [
 ⟨some 19,.move (.tmp 0),9,none⟩,
 ⟨some 20,.convert 9 181 (.tmp 19),181,none⟩,
 ⟨some 8,.assign (.tmp 20),181,none⟩] [1,2,8])
 (.seq (.seq (.ops [
 ⟨some 21,.move (.tmp 2),4,none⟩] [1,8,21])
 (.cond (.tmp 21)
 (.ops [
 ⟨some 22,.move (.tmp 8),181,none⟩,
 ⟨some 23,.move (.tmp 1),3,none⟩,
 ⟨some 24,.binOp .quo 3 (.tmp 23) (.const (.int .i64 8)) 3,3,none⟩,
 ⟨some 25,.indexAddr 181 (.tmp 22) (.tmp 24),0,none⟩,
 ⟨some 26,.load 5 (.tmp 25),5,none⟩,
 ⟨some 27,.move (.tmp 1),3,none⟩,
 ⟨some 28,.binOp .rem 3 (.tmp 27) (.const (.int .i64 8)) 3,3,none⟩,
 ⟨some 29,.convert 3 78 (.tmp 28),78,none⟩,
 ⟨some 30,.binOp .shl 5 (.const (.int .u8 1)) (.tmp 29) 78,5,none⟩,
 ⟨some 31,.binOp .or 5 (.tmp 26) (.tmp 30) 5,5,none⟩,
 ⟨some 32,.indexAddr 181 (.tmp 22) (.tmp 24),0,none⟩,
 ⟨none,.store 5 (.tmp 32) (.tmp 31),0,none⟩] [8])
 (.ops [
 ⟨some 33,.move (.tmp 8),181,none⟩,
 ⟨some 34,.move (.tmp 1),3,none⟩,
 ⟨some 35,.binOp .quo 3 (.tmp 34) (.const (.int .i64 8)) 3,3,none⟩,
 ⟨some 36,.indexAddr 181 (.tmp 33) (.tmp 35),0,none⟩,
 ⟨some 37,.load 5 (.tmp 36),5,none⟩,
 ⟨some 38,.move (.tmp 1),3,none⟩,
 ⟨some 39,.binOp .rem 3 (.tmp 38) (.const (.int .i64 8)) 3,3,none⟩,
 ⟨some 40,.convert 3 78 (.tmp 39),78,none⟩,
 ⟨some 41,.binOp .shl 5 (.const (.int .u8 1)) (.tmp 40) 78,5,none⟩,
 ⟨some 42,.binOp .andNot 5 (.tmp 37) (.tmp 41) 5,5,none⟩,
 ⟨some 43,.indexAddr 181 (.tmp 33) (.tmp 35),0,none⟩,
 ⟨none,.store 5 (.tmp 43) (.tmp 42),0,none⟩] [8]))) (sg c115S0)))
def c115:Cmd:=(.seq (.ops [
 ⟨some 6,.assign (.const (.string (ofL []))),9,none⟩,
 ⟨some 7,.assign (.const (.bool false)),4,none⟩] [0,1,2])
 (.seq (.seq (.ops [
 ⟨some 9,.move (.tmp 1),3,none⟩,
 ⟨some 10,.binOp .lss 3 (.tmp 9) (.const (.int .i64 0)) 3,4,none⟩,
 ⟨some 11,.move (.tmp 10),4,none⟩,
 ⟨some 12,.move (.tmp 1),3,(some (11,false))⟩,
 ⟨some 13,.binOp .quo 3 (.tmp 12) (.const (.int .i64 8)) 3,3,(some (11,false))⟩,
 ⟨some 14,.move (.tmp 0),9,(some (11,false))⟩,
 ⟨some 15,.call ⟨.builtin .len,#[(.tmp 14)],#[9]⟩,3,(some (11,false))⟩,
 ⟨some 16,.binOp .geq 3 (.tmp 13) (.tmp 15) 3,4,(some (11,false))⟩,
 ⟨some 17,.pick (.tmp 11) (.const (.bool true)) (.tmp 16),4,none⟩] [0,1,2,17])
 (.cond (.tmp 17)
 (.seq (.ops [
 ⟨some 18,.move (.tmp 0),9,none⟩,
 ⟨some 6,.assign (.tmp 18),9,none⟩,
 ⟨some 7,.assign (.const (.bool false)),4,none⟩] [6,7])
 .ret)
 (.skip [0,1,2]))) (sg c115S1)))
attribute [go_sem] c115 c115S0 c115S1
theorem ent115(a0 a1 a2:Value)(w:World)(K:Value→World→Prop)(h:W Tryz.prog c115 [(0,a0),(1,a1),(2,a2)] w (finQ Tryz.prog [.tmp 6,.tmp 7] K)):Ret Tryz.prog 115 [a0,a1,a2] w K :=
 Ret_of_W (code:=c115code) Tryz.func115 (by kernel_rfl) (by kernel_rfl) (of_decide_eq_true (by kernel_rfl)) h
@[go_sem] theorem go115:goFunc Tryz.prog 115=true:=by kernel_rfl
def str256x1466348926:List UInt8:=[0,1,1,2,1,2,2,3,1,2,2,3,2,3,3,4,1,2,2,3,2,3,3,4,2,3,3,4,3,4,4,5,1,2,2,3,2,3,3,4,2,3,3,4,3,4,4,5,2,3,3,4,3,4,4,5,3,4,4,5,4,5,5,6,1,2,2,3,2,3,3,4,2,3,3,4,3,4,4,5,2,3,3,4,3,4,4,5,3,4,4,5,4,5,5,6,2,3,3,4,3,4,4,5,3,4,4,5,4,5,5,6,3,4,4,5,4,5,5,6,4,5,5,6,5,6,6,7,1,2,2,3,2,3,3,4,2,3,3,4,3,4,4,5,2,3,3,4,3,4,4,5,3,4,4,5,4,5,5,6,2,3,3,4,3,4,4,5,3,4,4,5,4,5,5,6,3,4,4,5,4,5,5,6,4,5,5,6,5,6,6,7,2,3,3,4,3,4,4,5,3,4,4,5,4,5,5,6,3,4,4,5,4,5,5,6,4,5,5,6,5,6,6,7,3,4,4,5,4,5,5,6,4,5,5,6,5,6,6,7,4,5,5,6,5,6,6,7,5,6,6,7,6,7,7,8]
def c116code:Code:=match Tryz.f116.body with | some c=>c | none=>.skip
def c116:Cmd:=(.seq (.ops [
 ⟨some 2,.assign (.const (.int .i64 0)),3,none⟩] [0])
 (.seq (.ops [
 ⟨some 3,.move (.tmp 0),5,none⟩,
 ⟨some 4,.index 9 (.const (.string (ofL str256x1466348926))) (.tmp 3),5,none⟩,
 ⟨some 5,.convert 5 3 (.tmp 4),3,none⟩,
 ⟨some 2,.assign (.tmp 5),3,none⟩] [2])
 .ret))
attribute [go_sem] c116
theorem ent116(a0:Value)(w:World)(K:Value→World→Prop)(h:W Tryz.prog c116 [(0,a0)] w (finQ Tryz.prog [.tmp 2] K)):Ret Tryz.prog 116 [a0] w K :=
 Ret_of_W (code:=c116code) Tryz.func116 (by kernel_rfl) (by kernel_rfl) (of_decide_eq_true (by kernel_rfl)) h
@[go_sem] theorem go116:goFunc Tryz.prog 116=true:=by kernel_rfl
def c117code:Code:=match Tryz.f117.body with | some c=>c | none=>.skip
def c117:Cmd:=(.seq (.ops [
 ⟨some 2,.assign (.const (.int .i64 0)),3,none⟩] [0])
 (.seq (.ops [
 ⟨some 3,.move (.tmp 0),3,none⟩,
 ⟨some 4,.binOp .add 3 (.tmp 3) (.const (.int .i64 252)) 3,3,none⟩,
 ⟨some 5,.binOp .sub 3 (.tmp 4) (.const (.int .i64 1)) 3,3,none⟩,
 ⟨some 6,.binOp .quo 3 (.tmp 5) (.const (.int .i64 252)) 3,3,none⟩,
 ⟨some 2,.assign (.tmp 6),3,none⟩] [2])
 .ret))
attribute [go_sem] c117
theorem ent117(a0:Value)(w:World)(K:Value→World→Prop)(h:W Tryz.prog c117 [(0,a0)] w (finQ Tryz.prog [.tmp 2] K)):Ret Tryz.prog 117 [a0] w K :=
 Ret_of_W (code:=c117code) Tryz.func117 (by kernel_rfl) (by kernel_rfl) (of_decide_eq_true (by kernel_rfl)) h
@[go_sem] theorem go117:goFunc Tryz.prog 117=true:=by kernel_rfl
def c118code:Code:=match Tryz.f118.body with | some c=>c | none=>.skip
def c118S0(_:Unit):Cmd:=(.ops [
 ⟨some 23,.binOp .add 3 (.tmp 11) (.const (.int .i64 1)) 3,3,none⟩,
 ⟨some 11,.move (.tmp 23),3,none⟩] [0,5,10,11])
def c118S1(_:Unit):Cmd:=(.seq (.block 1 (.seq (.ops [
 ⟨some 13,.move (.tmp 11),3,none⟩,
 ⟨some 6,.assign (.tmp 13),3,none⟩] [0,5,6,10,11])
 (.ops [
 ⟨some 14,.move (.tmp 5),181,none⟩,
 ⟨some 15,.move (.tmp 0),147,none⟩,
 ⟨some 16,.move (.tmp 6),3,none⟩,
 ⟨some 17,.binOp .mul 3 (.const (.int .i64 8)) (.tmp 16) 3,3,none⟩,
 ⟨some 18,.convert 3 78 (.tmp 17),78,none⟩,
 ⟨some 19,.binOp .shr 147 (.tmp 15) (.tmp 18) 78,147,none⟩,
 ⟨some 20,.convert 147 5 (.tmp 19),5,none⟩,
 ⟨some 21,.buildSlice 181 1 #[(0,(.tmp 20))],181,none⟩,
 ⟨some 22,.call ⟨.builtin .append,#[(.tmp 14),(.tmp 21)],#[181,181]⟩,181,none⟩,
 ⟨some 5,.assign (.tmp 22),181,none⟩] [0,5,10,11]))) (sg c118S0))
def c118L0(_:Unit):Cmd:=(.seq (.ops [
 ⟨some 12,.binOp .lss 3 (.tmp 11) (.tmp 10) 3,4,none⟩] [0,5,10,11,12])
 (.seq (.cond (.tmp 12)
 (.skip [0,5,10,11])
 (.exit 0 [5])) (sg c118S1)))
def c118S2(_:Unit):Cmd:=(.block 0 (.loop (sg c118L0)))
def c118S3(_:Unit):Cmd:=(.seq (.ops [
 ⟨some 24,.move (.tmp 5),181,none⟩,
 ⟨some 25,.convert 181 9 (.tmp 24),9,none⟩,
 ⟨some 4,.assign (.tmp 25),9,none⟩] [4])
 .ret)
def c118:Cmd:=(.seq (.ops [
 ⟨some 4,.assign (.const (.string (ofL []))),9,none⟩] [0,1])
 (.seq (.ops [
 ⟨some 7,.makeSlice 181 (.const (.int .i64 0)) (.const (.int .i64 8)),181,none⟩,
 ⟨some 5,.assign (.tmp 7),181,none⟩] [0,1,5])
 (.seq (.seq (.ops [
 ⟨some 8,.move (.tmp 1),3,none⟩,
 ⟨some 9,.call ⟨.builtin .min,#[(.tmp 8),(.const (.int .i64 8))],#[3,3]⟩,3,none⟩,
 ⟨some 10,.call ⟨.builtin .max,#[(.const (.int .i64 0)),(.tmp 9)],#[3,3]⟩,3,none⟩,
 ⟨some 11,.move (.const (.int .i64 0)),3,none⟩] [0,5,10,11]) (sg c118S2)) (sg c118S3))))
attribute [go_sem] c118 c118S0 c118S1 c118S2 c118S3
theorem ent118(a0 a1:Value)(w:World)(K:Value→World→Prop)(h:W Tryz.prog c118 [(0,a0),(1,a1)] w (finQ Tryz.prog [.tmp 4] K)):Ret Tryz.prog 118 [a0,a1] w K :=
 Ret_of_W (code:=c118code) Tryz.func118 (by kernel_rfl) (by kernel_rfl) (of_decide_eq_true (by kernel_rfl)) h
@[go_sem] theorem go118:goFunc Tryz.prog 118=true:=by kernel_rfl
def c119code:Code:=match Tryz.f119.body with | some c=>c | none=>.skip
def c119S0(_:Unit):Cmd:=(.cond (.tmp 35)
 .ret
 (.skip [0,1,3,6]))
def c119S1(_:Unit):Cmd:=(.seq (.ops [
 ⟨some 36,.move (.tmp 3),3,none⟩,
 ⟨some 5,.assign (.tmp 36),3,none⟩] [0,1,3,5,6])
 (.ops [
 ⟨some 38,.load 27 (.tmp 1),27,none⟩,
 ⟨some 39,.move (.tmp 3),3,none⟩,
 ⟨some 40,.call ⟨.value (.func 56),#[(.tmp 38),(.tmp 39)],#[27,3]⟩,109,none⟩,
 ⟨some 37,.move (.tmp 40),109,none⟩,
 ⟨some 41,.extract (.tmp 37) 0,3,none⟩,
 ⟨some 42,.extract (.tmp 37) 1,9,none⟩,
 ⟨some 43,.extract (.tmp 37) 2,30,none⟩,
 ⟨some 3,.assign (.tmp 41),3,none⟩,
 ⟨some 4,.assign (.tmp 43),30,none⟩] [0,1,3,4,5,6]))
def c119S2(_:Unit):Cmd:=(.ops [
 ⟨some 29,.move (.tmp 6),3,none⟩,
 ⟨some 30,.binOp .add 3 (.tmp 29) (.const (.int .i64 1)) 3,3,none⟩,
 ⟨some 6,.assign (.tmp 30),3,none⟩] [0,1,3,4,5,6])
def c119S3(_:Unit):Cmd:=(.seq (.block 1 (.seq (.seq (.ops [
 ⟨some 31,.move (.tmp 0),175,none⟩,
 ⟨some 32,.move (.tmp 5),3,none⟩,
 ⟨some 33,.move (.tmp 3),3,none⟩,
 ⟨some 34,.call ⟨.value (.tmp 31),#[(.tmp 32),(.tmp 33)],#[3,3]⟩,4,none⟩,
 ⟨some 35,.unOp .not 4 (.tmp 34),4,none⟩] [0,1,3,6,35]) (sg c119S0)) (sg c119S1))) (sg c119S2))
def c119L0(_:Unit):Cmd:=(.seq (.seq (.ops [
 ⟨some 19,.move (.tmp 4),30,none⟩,
 ⟨some 20,.binOp .eql 30 (.tmp 19) (.const (.int .i64 0)) 30,4,none⟩,
 ⟨some 21,.move (.tmp 20),4,none⟩,
 ⟨some 22,.move (.tmp 3),3,(some (21,true))⟩,
 ⟨some 23,.binOp .neq 3 (.tmp 22) (.const (.int .i64 0)) 3,4,(some (21,true))⟩,
 ⟨some 24,.pick (.tmp 21) (.tmp 23) (.const (.bool false)),4,none⟩,
 ⟨some 25,.move (.tmp 24),4,none⟩,
 ⟨some 26,.move (.tmp 6),3,(some (25,true))⟩,
 ⟨some 27,.binOp .lss 3 (.tmp 26) (.const (.int .i64 1024)) 3,4,(some (25,true))⟩,
 ⟨some 28,.pick (.tmp 25) (.tmp 27) (.const (.bool false)),4,none⟩] [0,1,3,5,6,28])
 (.cond (.tmp 28)
 (.skip [0,1,3,5,6])
 (.exit 0 []))) (sg c119S3))
def c119S4(_:Unit):Cmd:=(.seq (.ops [
 ⟨some 5,.assign (.const (.int .i64 0)),3,none⟩] [0,1,3,4,5])
 (.seq (.ops [
 ⟨some 6,.assign (.const (.int .i64 0)),3,none⟩] [0,1,3,4,5,6])
 (.block 0 (.loop (sg c119L0)))))
def c119:Cmd:=(.seq (.draw (drawOps 0 c119code) [0,1,3,4]) (sg c119S4))
attribute [go_sem] c119 c119S0 c119S1 c119S2 c119S3 c119S4
def c119D0:List (Nat × Ins):=[
 (1,⟨some 8,.load 27 (.tmp 1),27,none⟩),
 (0,⟨some 9,.nilCheck (.tmp 8),0,none⟩),
 (0,⟨some 10,.fieldAddr 104 (.tmp 9) 0,0,none⟩),
 (1,⟨some 11,.load 24 (.tmp 10),24,none⟩),
 (2,⟨some 12,.load 27 (.tmp 1),27,none⟩),
 (0,⟨some 13,.nilCheck (.tmp 12),0,none⟩),
 (0,⟨some 14,.fieldAddr 104 (.tmp 13) 1,0,none⟩),
 (2,⟨some 15,.load 3 (.tmp 14),3,none⟩),
 (2,⟨some 16,.call ⟨.value (.func 36),#[(.tmp 11),(.tmp 15)],#[24,3]⟩,31,none⟩),
 (0,⟨some 7,.move (.tmp 16),31,none⟩),
 (0,⟨some 17,.extract (.tmp 7) 0,3,none⟩),
 (0,⟨some 18,.extract (.tmp 7) 1,30,none⟩),
 (0,⟨some 3,.assign (.tmp 17),3,none⟩),
 (0,⟨some 4,.assign (.tmp 18),30,none⟩)]
theorem c119draw0{L:List Nat}{ρ:Env}{w:World}{Q:Post}(S:World→Prop)(hS:S w.drew)(h:DG Tryz.prog S c119D0 L ρ w.drew Q):drawW Tryz.prog (drawOps 0 c119code) L ρ w Q :=
 drawW_held [0,3] [(1,0),(0,1),(0,2),(1,3),(2,4),(0,5),(0,6),(2,7),(2,8),(0,9),(0,10),(0,11),(0,12),(0,13)] c119D0 (by kernel_rfl) (by kernel_rfl) (by kernel_rfl) S hS h
theorem ent119(a0 a1:Value)(w:World)(K:Value→World→Prop)(h:W Tryz.prog c119 [(0,a0),(1,a1)] w (finQ Tryz.prog [] K)):Ret Tryz.prog 119 [a0,a1] w K :=
 Ret_of_W (code:=c119code) Tryz.func119 (by kernel_rfl) (by kernel_rfl) (of_decide_eq_true (by kernel_rfl)) h
@[go_sem] theorem go119:goFunc Tryz.prog 119=true:=by kernel_rfl
def c120code:Code:=match Tryz.f120.body with | some c=>c | none=>.skip
def c120A0(_:Unit):Cmd:=(.seq (.ops [
 ⟨some 4,.assign (.tmp 11),3,none⟩] [3,4,12])
 (.ops [
 ⟨some 5,.assign (.tmp 12),9,none⟩] [3,4,5]))
def c120B0(_:Unit):Cmd:=(.block 1 (.ops [
 ⟨some 13,.load 22 (.tmp 3),22,none⟩,
 ⟨some 14,.move (.tmp 4),3,none⟩,
 ⟨some 15,.move (.tmp 5),9,none⟩,
 ⟨some 16,.indexAddr 22 (.tmp 13) (.tmp 14),0,none⟩,
 ⟨none,.store 9 (.tmp 16) (.tmp 15),0,none⟩] []))
def c120S0(_:Unit):Cmd:=(.block 0 (.rangeF (.tmp 10) [11,12] (sg c120A0) (sg c120B0) [2,3]))
def c120S1(_:Unit):Cmd:=(.seq (.ops [
 ⟨some 17,.load 22 (.tmp 3),22,none⟩,
 ⟨some 2,.assign (.tmp 17),22,none⟩] [2])
 .ret)
def c120S2(_:Unit):Cmd:=(.seq (.seq (.ops [
 ⟨some 9,.move (.tmp 0),9,none⟩,
 ⟨some 10,.call ⟨.value (.func 101),#[(.tmp 9)],#[9]⟩,141,none⟩] [2,3,10]) (sg c120S0)) (sg c120S1))
def c120:Cmd:=(.seq (.ops [
 ⟨some 2,.assign (.const (.slice none 0 0)),22,none⟩] [0,2])
 (.seq (.ops [
 ⟨some 6,.move (.tmp 0),9,none⟩,
 ⟨some 7,.call ⟨.value (.func 147),#[(.tmp 6)],#[9]⟩,3,none⟩,
 ⟨some 8,.makeSlice 22 (.tmp 7) (.tmp 7),22,none⟩,
 ⟨some 3,.alloc 22,0,none⟩,
 ⟨none,.store 22 (.tmp 3) (.tmp 8),0,none⟩] [0,2,3]) (sg c120S2)))
attribute [go_sem] c120 c120A0 c120B0 c120S0 c120S1 c120S2
theorem ent120(a0:Value)(w:World)(K:Value→World→Prop)(h:W Tryz.prog c120 [(0,a0)] w (finQ Tryz.prog [.tmp 2] K)):Ret Tryz.prog 120 [a0] w K :=
 Ret_of_W (code:=c120code) Tryz.func120 (by kernel_rfl) (by kernel_rfl) (of_decide_eq_true (by kernel_rfl)) h
@[go_sem] theorem go120:goFunc Tryz.prog 120=true:=by kernel_rfl
def c121code:Code:=match Tryz.f121.body with | some c=>c | none=>.skip
def c121S0(_:Unit):Cmd:=(.seq (.block 1 (.seq (.ops [
 ⟨some 14,.indexAddr 22 (.tmp 10) (.tmp 12),0,none⟩,
 ⟨some 15,.load 9 (.tmp 14),9,none⟩,
 ⟨some 5,.assign (.tmp 15),9,none⟩] [3,5,10,11,12])
 (.ops [
 ⟨some 16,.move (.tmp 3),3,none⟩,
 ⟨some 17,.move (.tmp 5),9,none⟩,
 ⟨some 18,.call ⟨.builtin .len,#[(.tmp 17)],#[9]⟩,3,none⟩,
 ⟨some 19,.binOp .add 3 (.tmp 16) (.tmp 18) 3,3,none⟩,
 ⟨some 3,.assign (.tmp 19),3,none⟩] [3,10,11,12])))
 (.ops [
 ⟨some 20,.binOp .add 3 (.tmp 12) (.const (.int .i64 1)) 3,3,none⟩,
 ⟨some 12,.move (.tmp 20),3,none⟩] [3,10,11,12]))
def c121L0(_:Unit):Cmd:=(.seq (.ops [
 ⟨some 13,.binOp .lss 3 (.tmp 12) (.tmp 11) 3,0,none⟩] [3,10,11,12,13])
 (.seq (.cond (.tmp 13)
 (.skip [3,10,11,12])
 (.exit 0 [3])) (sg c121S0)))
def c121S1(_:Unit):Cmd:=(.seq (.ops [
 ⟨some 21,.move (.tmp 3),3,none⟩,
 ⟨some 2,.assign (.tmp 21),3,none⟩] [2])
 .ret)
def c121:Cmd:=(.seq (.ops [
 ⟨some 2,.assign (.const (.int .i64 0)),3,none⟩] [0])
 (.seq (.ops [
 ⟨some 6,.move (.tmp 0),22,none⟩,
 ⟨some 7,.call ⟨.builtin .len,#[(.tmp 6)],#[22]⟩,3,none⟩,
 ⟨some 8,.binOp .mul 3 (.const (.int .i64 2)) (.tmp 7) 3,3,none⟩,
 ⟨some 9,.binOp .add 3 (.const (.int .i64 1)) (.tmp 8) 3,3,none⟩,
 ⟨some 3,.assign (.tmp 9),3,none⟩] [0,3])
 (.seq (.seq (.ops [
 ⟨some 10,.move (.tmp 0),22,none⟩,
 ⟨some 11,.call ⟨.builtin .len,#[(.tmp 10)],#[22]⟩,3,none⟩,
 ⟨some 12,.move (.const (.int .i64 0)),3,none⟩] [3,10,11,12])
 (.block 0 (.loop (sg c121L0)))) (sg c121S1))))
attribute [go_sem] c121 c121S0 c121L0 c121S1
theorem ent121(a0:Value)(w:World)(K:Value→World→Prop)(h:W Tryz.prog c121 [(0,a0)] w (finQ Tryz.prog [.tmp 2] K)):Ret Tryz.prog 121 [a0] w K :=
 Ret_of_W (code:=c121code) Tryz.func121 (by kernel_rfl) (by kernel_rfl) (of_decide_eq_true (by kernel_rfl)) h
@[go_sem] theorem go121:goFunc Tryz.prog 121=true:=by kernel_rfl
def c122code:Code:=match Tryz.f122.body with | some c=>c | none=>.skip
def c122S0(_:Unit):Cmd:=.ret
def c122:Cmd:=(.seq (.ops [
 ⟨some 4,.assign (.const (.bool false)),4,none⟩] [0,1])
 (.seq (.ops [
 ⟨some 5,.move (.tmp 0),22,none⟩,
 ⟨some 6,.move (.tmp 1),9,none⟩,
 ⟨some 7,.call ⟨.value (.func 123),#[(.tmp 5),(.tmp 6)],#[22,9]⟩,3,none⟩,
 ⟨some 8,.binOp .geq 3 (.tmp 7) (.const (.int .i64 0)) 3,4,none⟩,
 ⟨some 4,.assign (.tmp 8),4,none⟩] [4]) (sg c122S0)))
attribute [go_sem] c122 c122S0
theorem ent122(a0 a1:Value)(w:World)(K:Value→World→Prop)(h:W Tryz.prog c122 [(0,a0),(1,a1)] w (finQ Tryz.prog [.tmp 4] K)):Ret Tryz.prog 122 [a0,a1] w K :=
 Ret_of_W (code:=c122code) Tryz.func122 (by kernel_rfl) (by kernel_rfl) (of_decide_eq_true (by kernel_rfl)) h
@[go_sem] theorem go122:goFunc Tryz.prog 122=true:=by kernel_rfl
def c123code:Code:=match Tryz.f123.body with | some c=>c | none=>.skip
def c123S0(_:Unit):Cmd:=(.ops [
 ⟨some 18,.binOp .add 3 (.tmp 8) (.const (.int .i64 1)) 3,3,none⟩,
 ⟨some 8,.move (.tmp 18),3,none⟩] [0,1,7,8])
def c123S1(_:Unit):Cmd:=(.seq (.block 1 (.seq (.ops [
 ⟨some 10,.move (.tmp 8),3,none⟩,
 ⟨some 5,.assign (.tmp 10),3,none⟩] [0,1,5,7,8])
 (.seq (.ops [
 ⟨some 11,.move (.tmp 1),9,none⟩,
 ⟨some 12,.move (.tmp 0),22,none⟩,
 ⟨some 13,.move (.tmp 5),3,none⟩,
 ⟨some 14,.indexAddr 22 (.tmp 12) (.tmp 13),0,none⟩,
 ⟨some 15,.load 9 (.tmp 14),9,none⟩,
 ⟨some 16,.binOp .eql 9 (.tmp 11) (.tmp 15) 9,4,none⟩] [0,1,5,7,8,16])
 (.cond (.tmp 16)
 (.seq (.ops [
 ⟨some 17,.move (.tmp 5),3,none⟩,
 ⟨some 4,.assign (.tmp 17),3,none⟩] [4])
 .ret)
 (.skip [0,1,7,8]))))) (sg c123S0))
def c123L0(_:Unit):Cmd:=(.seq (.ops [
 ⟨some 9,.binOp .lss 3 (.tmp 8) (.tmp 7) 3,0,none⟩] [0,1,7,8,9])
 (.seq (.cond (.tmp 9)
 (.skip [0,1,7,8])
 (.exit 0 [])) (sg c123S1)))
def c123S2(_:Unit):Cmd:=(.seq (.ops [
 ⟨some 4,.assign (.const (.int .i64 (-1))),3,none⟩] [4])
 .ret)
def c123:Cmd:=(.seq (.ops [
 ⟨some 4,.assign (.const (.int .i64 0)),3,none⟩] [0,1])
 (.seq (.seq (.ops [
 ⟨some 6,.move (.tmp 0),22,none⟩,
 ⟨some 7,.call ⟨.builtin .len,#[(.tmp 6)],#[22]⟩,3,none⟩,
 ⟨some 8,.move (.const (.int .i64 0)),3,none⟩] [0,1,7,8])
 (.block 0 (.loop (sg c123L0)))) (sg c123S2)))
attribute [go_sem] c123 c123S0 c123S1 c123L0 c123S2
theorem ent123(a0 a1:Value)(w:World)(K:Value→World→Prop)(h:W Tryz.prog c123 [(0,a0),(1,a1)] w (finQ Tryz.prog [.tmp 4] K)):Ret Tryz.prog 123 [a0,a1] w K :=
 Ret_of_W (code:=c123code) Tryz.func123 (by kernel_rfl) (by kernel_rfl) (of_decide_eq_true (by kernel_rfl)) h
@[go_sem] theorem go123:goFunc Tryz.prog 123=true:=by kernel_rfl
def c124code:Code:=match Tryz.f124.body with | some c=>c | none=>.skip
def c124S0(_:Unit):Cmd:=(.block 1 (.ops [
 ⟨some 21,.move (.tmp 1),22,none⟩,
 ⟨some 22,.move (.tmp 1),22,none⟩,
 ⟨some 23,.call ⟨.builtin .len,#[(.tmp 22)],#[22]⟩,3,none⟩,
 ⟨some 24,.binOp .sub 3 (.tmp 23) (.const (.int .i64 1)) 3,3,none⟩,
 ⟨some 25,.slice 22 (.tmp 21) none (some (.tmp 24)) none,22,none⟩,
 ⟨some 1,.assign (.tmp 25),22,none⟩] [0,1]))
def c124L0(_:Unit):Cmd:=(.seq (.seq (.ops [
 ⟨some 9,.move (.tmp 1),22,none⟩,
 ⟨some 10,.call ⟨.builtin .len,#[(.tmp 9)],#[22]⟩,3,none⟩,
 ⟨some 11,.binOp .gtr 3 (.tmp 10) (.const (.int .i64 0)) 3,4,none⟩,
 ⟨some 12,.move (.tmp 11),4,none⟩,
 ⟨some 13,.move (.tmp 1),22,(some (12,true))⟩,
 ⟨some 14,.move (.tmp 1),22,(some (12,true))⟩,
 ⟨some 15,.call ⟨.builtin .len,#[(.tmp 14)],#[22]⟩,3,(some (12,true))⟩,
 ⟨some 16,.binOp .sub 3 (.tmp 15) (.const (.int .i64 1)) 3,3,(some (12,true))⟩,
 ⟨some 17,.indexAddr 22 (.tmp 13) (.tmp 16),0,(some (12,true))⟩,
 ⟨some 18,.load 9 (.tmp 17),9,(some (12,true))⟩,
 ⟨some 19,.binOp .eql 9 (.tmp 18) (.const (.string (ofL []))) 9,4,(some (12,true))⟩,
 ⟨some 20,.pick (.tmp 12) (.tmp 19) (.const (.bool false)),4,none⟩] [0,1,20])
 (.cond (.tmp 20)
 (.skip [0,1])
 (.exit 0 [0,1]))) (sg c124S0))
def c124S1(_:Unit):Cmd:=(.ops [
 ⟨some 52,.move (.tmp 5),181,none⟩,
 ⟨some 53,.move (.tmp 7),3,none⟩,
 ⟨some 54,.binOp .mul 3 (.const (.int .i64 2)) (.tmp 53) 3,3,none⟩,
 ⟨some 55,.binOp .add 3 (.const (.int .i64 1)) (.tmp 54) 3,3,none⟩,
 ⟨some 56,.move (.tmp 5),181,none⟩,
 ⟨some 57,.move (.tmp 7),3,none⟩,
 ⟨some 58,.binOp .mul 3 (.const (.int .i64 2)) (.tmp 57) 3,3,none⟩,
 ⟨some 59,.binOp .add 3 (.const (.int .i64 1)) (.tmp 58) 3,3,none⟩,
 ⟨some 60,.binOp .add 3 (.tmp 59) (.const (.int .i64 1)) 3,3,none⟩,
 ⟨some 61,.move (.tmp 6),3,none⟩,
 ⟨some 62,.convert 3 5 (.tmp 61),5,none⟩,
 ⟨some 63,.move (.tmp 8),9,none⟩,
 ⟨some 64,.call ⟨.builtin .len,#[(.tmp 63)],#[9]⟩,3,none⟩,
 ⟨some 65,.convert 3 5 (.tmp 64),5,none⟩,
 ⟨some 66,.indexAddr 181 (.tmp 52) (.tmp 55),0,none⟩,
 ⟨none,.store 5 (.tmp 66) (.tmp 62),0,none⟩,
 ⟨some 67,.indexAddr 181 (.tmp 56) (.tmp 60),0,none⟩,
 ⟨none,.store 5 (.tmp 67) (.tmp 65),0,none⟩] [5,6,34,35,36])
def c124S2(_:Unit):Cmd:=(.seq (.ops [
 ⟨some 43,.move (.tmp 6),3,none⟩,
 ⟨some 44,.move (.tmp 8),9,none⟩,
 ⟨some 45,.call ⟨.builtin .len,#[(.tmp 44)],#[9]⟩,3,none⟩,
 ⟨some 46,.binOp .sub 3 (.tmp 43) (.tmp 45) 3,3,none⟩,
 ⟨some 6,.assign (.tmp 46),3,none⟩] [5,6,7,8,34,35,36])
 (.seq (.ops [
 ⟨some 47,.move (.tmp 5),181,none⟩,
 ⟨some 48,.move (.tmp 6),3,none⟩,
 ⟨some 49,.slice 181 (.tmp 47) (some (.tmp 48)) none none,181,none⟩,
 ⟨some 50,.move (.tmp 8),9,none⟩,
 ⟨some 51,.call ⟨.builtin .copy,#[(.tmp 49),(.tmp 50)],#[181,9]⟩,3,none⟩] [5,6,7,8,34,35,36]) (sg c124S1)))
def c124S3(_:Unit):Cmd:=(.ops [
 ⟨some 68,.binOp .add 3 (.tmp 36) (.const (.int .i64 1)) 3,3,none⟩,
 ⟨some 36,.move (.tmp 68),3,none⟩] [5,6,34,35,36])
def c124S4(_:Unit):Cmd:=(.seq (.block 3 (.seq (.ops [
 ⟨some 38,.move (.tmp 36),3,none⟩,
 ⟨some 39,.indexAddr 22 (.tmp 34) (.tmp 36),0,none⟩,
 ⟨some 40,.load 9 (.tmp 39),9,none⟩,
 ⟨some 7,.assign (.tmp 38),3,none⟩,
 ⟨some 8,.assign (.tmp 40),9,none⟩] [5,6,7,8,34,35,36])
 (.seq (.seq (.ops [
 ⟨some 41,.move (.tmp 8),9,none⟩,
 ⟨some 42,.binOp .eql 9 (.tmp 41) (.const (.string (ofL []))) 9,4,none⟩] [5,6,7,8,34,35,36,42])
 (.cond (.tmp 42)
 (.exit 3 [5,6,34,35,36])
 (.skip [5,6,7,8,34,35,36]))) (sg c124S2)))) (sg c124S3))
def c124L1(_:Unit):Cmd:=(.seq (.ops [
 ⟨some 37,.binOp .lss 3 (.tmp 36) (.tmp 35) 3,0,none⟩] [5,6,34,35,36,37])
 (.seq (.cond (.tmp 37)
 (.skip [5,6,34,35,36])
 (.exit 2 [5])) (sg c124S4)))
def c124S5(_:Unit):Cmd:=(.seq (.ops [
 ⟨some 69,.move (.tmp 5),181,none⟩,
 ⟨some 70,.convert 181 9 (.tmp 69),9,none⟩,
 ⟨some 4,.assign (.tmp 70),9,none⟩] [4])
 .ret)
def c124S6(_:Unit):Cmd:=(.seq (.ops [
 ⟨some 26,.move (.tmp 0),3,none⟩,
 ⟨some 27,.makeSlice 181 (.tmp 26) (.tmp 26),181,none⟩,
 ⟨some 5,.assign (.tmp 27),181,none⟩] [0,1,5])
 (.seq (.ops [
 ⟨some 28,.move (.tmp 5),181,none⟩,
 ⟨some 29,.move (.tmp 1),22,none⟩,
 ⟨some 30,.call ⟨.builtin .len,#[(.tmp 29)],#[22]⟩,3,none⟩,
 ⟨some 31,.convert 3 5 (.tmp 30),5,none⟩,
 ⟨some 32,.indexAddr 181 (.tmp 28) (.const (.int .i64 0)),0,none⟩,
 ⟨none,.store 5 (.tmp 32) (.tmp 31),0,none⟩] [0,1,5])
 (.seq (.ops [
 ⟨some 33,.move (.tmp 0),3,none⟩,
 ⟨some 6,.assign (.tmp 33),3,none⟩] [1,5,6])
 (.seq (.seq (.ops [
 ⟨some 34,.move (.tmp 1),22,none⟩,
 ⟨some 35,.call ⟨.builtin .len,#[(.tmp 34)],#[22]⟩,3,none⟩,
 ⟨some 36,.move (.const (.int .i64 0)),3,none⟩] [5,6,34,35,36])
 (.block 2 (.loop (sg c124L1)))) (sg c124S5)))))
def c124:Cmd:=(.seq (.ops [
 ⟨some 4,.assign (.const (.string (ofL []))),9,none⟩] [0,1])
 (.seq (.block 0 (.loop (sg c124L0))) (sg c124S6)))
attribute [go_sem] c124 c124S0 c124L0 c124S1 c124S2 c124S3 c124S4 c124L1 c124S5
theorem ent124(a0 a1:Value)(w:World)(K:Value→World→Prop)(h:W Tryz.prog c124 [(0,a0),(1,a1)] w (finQ Tryz.prog [.tmp 4] K)):Ret Tryz.prog 124 [a0,a1] w K :=
 Ret_of_W (code:=c124code) Tryz.func124 (by kernel_rfl) (by kernel_rfl) (of_decide_eq_true (by kernel_rfl)) h
@[go_sem] theorem go124:goFunc Tryz.prog 124=true:=by kernel_rfl
def c125code:Code:=match Tryz.f125.body with | some c=>c | none=>.skip
def c125S0(_:Unit):Cmd:=(.seq (.ops [
 ⟨some 9,.move (.tmp 0),3,none⟩,
 ⟨some 10,.makeSlice 181 (.tmp 9) (.tmp 9),181,none⟩,
 ⟨some 11,.convert 181 9 (.tmp 10),9,none⟩,
 ⟨some 2,.assign (.tmp 11),9,none⟩] [2])
 .ret)
def c125:Cmd:=(.seq (.ops [
 ⟨some 2,.assign (.const (.string (ofL []))),9,none⟩] [0])
 (.seq (.seq (.ops [
 ⟨some 3,.move (.tmp 0),3,none⟩,
 ⟨some 4,.binOp .lss 3 (.tmp 3) (.const (.int .i64 8)) 3,4,none⟩,
 ⟨some 5,.move (.tmp 4),4,none⟩,
 ⟨some 6,.move (.tmp 0),3,(some (5,false))⟩,
 ⟨some 7,.binOp .gtr 3 (.tmp 6) (.const (.int .i64 256)) 3,4,(some (5,false))⟩,
 ⟨some 8,.pick (.tmp 5) (.const (.bool true)) (.tmp 7),4,none⟩] [0,8])
 (.cond (.tmp 8)
 (.seq (.ops [
 ⟨some 2,.assign (.const (.string (ofL []))),9,none⟩] [2])
 .ret)
 (.skip [0]))) (sg c125S0)))
attribute [go_sem] c125 c125S0
theorem ent125(a0:Value)(w:World)(K:Value→World→Prop)(h:W Tryz.prog c125 [(0,a0)] w (finQ Tryz.prog [.tmp 2] K)):Ret Tryz.prog 125 [a0] w K :=
 Ret_of_W (code:=c125code) Tryz.func125 (by kernel_rfl) (by kernel_rfl) (of_decide_eq_true (by kernel_rfl)) h
@[go_sem] theorem go125:goFunc Tryz.prog 125=true:=by kernel_rfl
def c126code:Code:=match Tryz.f126.body with | some c=>c | none=>.skip
def c126S0(_:Unit):Cmd:=(.cond (.tmp 38)
 (.seq (.ops [
 ⟨some 39,.move (.tmp 8),3,none⟩,
 ⟨some 6,.assign (.tmp 39),3,none⟩,
 ⟨some 7,.assign (.const (.bool true)),4,none⟩] [6,7])
 .ret)
 (.skip [0,2,8]))
def c126S1(_:Unit):Cmd:=(.seq (.ops [
 ⟨some 35,.move (.tmp 0),9,none⟩,
 ⟨some 36,.move (.tmp 8),3,none⟩,
 ⟨some 37,.call ⟨.value (.func 49),#[(.tmp 35),(.tmp 36)],#[9,3]⟩,4,none⟩,
 ⟨some 38,.unOp .not 4 (.tmp 37),4,none⟩] [0,2,8,38]) (sg c126S0))
def c126S2(_:Unit):Cmd:=(.ops [
 ⟨some 21,.move (.tmp 8),3,none⟩,
 ⟨some 22,.binOp .add 3 (.tmp 21) (.const (.int .i64 1)) 3,3,none⟩,
 ⟨some 8,.assign (.tmp 22),3,none⟩] [0,2,8])
def c126S3(_:Unit):Cmd:=(.seq (.block 1 (.seq (.seq (.ops [
 ⟨some 23,.move (.tmp 8),3,none⟩,
 ⟨some 24,.binOp .rem 3 (.tmp 23) (.const (.int .i64 8)) 3,3,none⟩,
 ⟨some 25,.binOp .eql 3 (.tmp 24) (.const (.int .i64 0)) 3,4,none⟩,
 ⟨some 26,.move (.tmp 25),4,none⟩,
 ⟨some 27,.move (.tmp 0),9,(some (26,true))⟩,
 ⟨some 28,.move (.tmp 8),3,(some (26,true))⟩,
 ⟨some 29,.binOp .quo 3 (.tmp 28) (.const (.int .i64 8)) 3,3,(some (26,true))⟩,
 ⟨some 30,.index 9 (.tmp 27) (.tmp 29),5,(some (26,true))⟩,
 ⟨some 31,.binOp .eql 5 (.tmp 30) (.const (.int .u8 255)) 5,4,(some (26,true))⟩,
 ⟨some 32,.pick (.tmp 26) (.tmp 31) (.const (.bool false)),4,none⟩] [0,2,8,32])
 (.cond (.tmp 32)
 (.seq (.ops [
 ⟨some 33,.move (.tmp 8),3,none⟩,
 ⟨some 34,.binOp .add 3 (.tmp 33) (.const (.int .i64 7)) 3,3,none⟩,
 ⟨some 8,.assign (.tmp 34),3,none⟩] [0,2,8])
 (.exit 1 [0,2,8]))
 (.skip [0,2,8]))) (sg c126S1))) (sg c126S2))
def c126L0(_:Unit):Cmd:=(.seq (.seq (.ops [
 ⟨some 11,.move (.tmp 8),3,none⟩,
 ⟨some 12,.move (.tmp 2),3,none⟩,
 ⟨some 13,.binOp .lss 3 (.tmp 11) (.tmp 12) 3,4,none⟩,
 ⟨some 14,.move (.tmp 13),4,none⟩,
 ⟨some 15,.move (.tmp 8),3,(some (14,true))⟩,
 ⟨some 16,.binOp .quo 3 (.tmp 15) (.const (.int .i64 8)) 3,3,(some (14,true))⟩,
 ⟨some 17,.move (.tmp 0),9,(some (14,true))⟩,
 ⟨some 18,.call ⟨.builtin .len,#[(.tmp 17)],#[9]⟩,3,(some (14,true))⟩,
 ⟨some 19,.binOp .lss 3 (.tmp 16) (.tmp 18) 3,4,(some (14,true))⟩,
 ⟨some 20,.pick (.tmp 14) (.tmp 19) (.const (.bool false)),4,none⟩] [0,2,8,20])
 (.cond (.tmp 20)
 (.skip [0,2,8])
 (.exit 0 []))) (sg c126S3))
def c126S4(_:Unit):Cmd:=(.block 0 (.loop (sg c126L0)))
def c126S5(_:Unit):Cmd:=(.seq (.ops [
 ⟨some 6,.assign (.const (.int .i64 0)),3,none⟩,
 ⟨some 7,.assign (.const (.bool false)),4,none⟩] [6,7])
 .ret)
def c126:Cmd:=(.seq (.ops [
 ⟨some 6,.assign (.const (.int .i64 0)),3,none⟩,
 ⟨some 7,.assign (.const (.bool false)),4,none⟩] [0,1,2])
 (.seq (.seq (.ops [
 ⟨some 9,.move (.tmp 1),3,none⟩,
 ⟨some 10,.call ⟨.builtin .max,#[(.const (.int .i64 0)),(.tmp 9)],#[3,3]⟩,3,none⟩,
 ⟨some 8,.assign (.tmp 10),3,none⟩] [0,2,8]) (sg c126S4)) (sg c126S5)))
attribute [go_sem] c126 c126S0 c126S1 c126S2 c126S3 c126L0 c126S4 c126S5
theorem ent126(a0 a1 a2:Value)(w:World)(K:Value→World→Prop)(h:W Tryz.prog c126 [(0,a0),(1,a1),(2,a2)] w (finQ Tryz.prog [.tmp 6,.tmp 7] K)):Ret Tryz.prog 126 [a0,a1,a2] w K :=
 Ret_of_W (code:=c126code) Tryz.func126 (by kernel_rfl) (by kernel_rfl) (of_decide_eq_true (by kernel_rfl)) h
@[go_sem] theorem go126:goFunc Tryz.prog 126=true:=by kernel_rfl
def c131code:Code:=match Tryz.f131.body with | some c=>c | none=>.skip
def c131S0(_:Unit):Cmd:=(.seq (.ops [
 ⟨some 22,.move (.tmp 5),3,none⟩,
 ⟨some 23,.binOp .geq 3 (.tmp 22) (.const (.int .i64 0)) 3,4,none⟩,
 ⟨some 4,.assign (.tmp 23),4,none⟩] [4])
 .ret)
def c131S1(_:Unit):Cmd:=(.seq (.seq (.ops [
 ⟨some 9,.move (.tmp 5),3,none⟩,
 ⟨some 10,.binOp .geq 3 (.tmp 9) (.const (.int .i64 0)) 3,4,none⟩] [0,5,10])
 (.cond (.tmp 10)
 (.ops [
 ⟨some 11,.move (.tmp 0),96,none⟩,
 ⟨some 12,.move (.tmp 0),96,none⟩,
 ⟨some 13,.nilCheck (.tmp 12),0,none⟩,
 ⟨some 14,.fieldAddr 206 (.tmp 13) 1,0,none⟩,
 ⟨some 15,.load 204 (.tmp 14),204,none⟩,
 ⟨some 16,.move (.tmp 5),3,none⟩,
 ⟨some 17,.move (.tmp 5),3,none⟩,
 ⟨some 18,.binOp .add 3 (.tmp 17) (.const (.int .i64 1)) 3,3,none⟩,
 ⟨some 19,.call ⟨.value (.func 170),#[(.tmp 15),(.tmp 16),(.tmp 18)],#[204,3,3]⟩,204,none⟩,
 ⟨some 20,.nilCheck (.tmp 11),0,none⟩,
 ⟨some 21,.fieldAddr 206 (.tmp 20) 1,0,none⟩,
 ⟨none,.store 204 (.tmp 21) (.tmp 19),0,none⟩] [5])
 (.skip [5]))) (sg c131S0))
def c131:Cmd:=(.seq (.ops [
 ⟨some 4,.assign (.const (.bool false)),4,none⟩] [0,1])
 (.seq (.ops [
 ⟨some 6,.move (.tmp 0),96,none⟩,
 ⟨some 7,.move (.tmp 1),3,none⟩,
 ⟨some 8,.call ⟨.value (.func 169),#[(.tmp 6),(.tmp 7)],#[96,3]⟩,3,none⟩,
 ⟨some 5,.assign (.tmp 8),3,none⟩] [0,5]) (sg c131S1)))
attribute [go_sem] c131 c131S0 c131S1
theorem ent131(a0 a1:Value)(w:World)(K:Value→World→Prop)(h:W Tryz.prog c131 [(0,a0),(1,a1)] w (finQ Tryz.prog [.tmp 4] K)):Ret Tryz.prog 131 [a0,a1] w K :=
 Ret_of_W (code:=c131code) Tryz.func131 (by kernel_rfl) (by kernel_rfl) (of_decide_eq_true (by kernel_rfl)) h
@[go_sem] theorem go131:goFunc Tryz.prog 131=true:=by kernel_rfl
def c132code:Code:=match Tryz.f132.body with | some c=>c | none=>.skip
def c132S0(_:Unit):Cmd:=(.seq (.ops [
 ⟨some 11,.move (.tmp 7),30,none⟩,
 ⟨some 12,.binOp .neq 30 (.tmp 11) (.const (.int .i64 0)) 30,4,none⟩] [0,1,2,7,12])
 (.cond (.tmp 12)
 (.seq (.ops [
 ⟨some 13,.move (.tmp 7),30,none⟩,
 ⟨some 6,.assign (.tmp 13),30,none⟩] [6])
 .ret)
 (.skip [0,1,2])))
def c132S1(_:Unit):Cmd:=(.seq (.ops [
 ⟨some 6,.assign (.const (.int .i64 0)),30,none⟩] [6])
 .ret)
def c132S2(_:Unit):Cmd:=(.seq (.draw (drawOps 0 c132code) []) (sg c132S1))
def c132S3(_:Unit):Cmd:=(.seq (.seq (.ops [
 ⟨some 14,.move (.tmp 2),9,none⟩,
 ⟨some 15,.call ⟨.builtin .len,#[(.tmp 14)],#[9]⟩,3,none⟩,
 ⟨some 16,.binOp .gtr 3 (.tmp 15) (.const (.int .i64 256)) 3,4,none⟩] [0,1,2,16])
 (.cond (.tmp 16)
 (.seq (.ops [
 ⟨some 6,.assign (.const (.int .i64 21)),30,none⟩] [6])
 .ret)
 (.skip [0,1,2]))) (sg c132S2))
def c132:Cmd:=(.seq (.ops [
 ⟨some 6,.assign (.const (.int .i64 0)),30,none⟩] [0,1,2])
 (.seq (.seq (.ops [
 ⟨some 8,.move (.tmp 0),88,none⟩,
 ⟨some 9,.move (.tmp 1),3,none⟩,
 ⟨some 10,.call ⟨.value (.func 159),#[(.tmp 8),(.tmp 9)],#[88,3]⟩,30,none⟩,
 ⟨some 7,.assign (.tmp 10),30,none⟩] [0,1,2,7]) (sg c132S0)) (sg c132S3)))
attribute [go_sem] c132 c132S0 c132S1 c132S2 c132S3
def c132D0:List (Nat × Ins):=[
 (0,⟨some 17,.move (.tmp 0),88,none⟩),
 (0,⟨some 18,.nilCheck (.tmp 17),0,none⟩),
 (0,⟨some 19,.fieldAddr 165 (.tmp 18) 2,0,none⟩),
 (0,⟨some 21,.move (.tmp 1),3,none⟩),
 (0,⟨some 22,.move (.tmp 2),9,none⟩),
 (0,⟨some 23,.move (.tmp 2),9,none⟩),
 (0,⟨some 24,.call ⟨.builtin .len,#[(.tmp 23)],#[9]⟩,3,none⟩),
 (0,⟨some 25,.binOp .sub 3 (.const (.int .i64 256)) (.tmp 24) 3,3,none⟩),
 (1,⟨some 20,.load 163 (.tmp 19),163,none⟩),
 (2,⟨some 26,.makeSlice 181 (.tmp 25) (.tmp 25),181,none⟩),
 (2,⟨some 27,.convert 181 9 (.tmp 26),9,none⟩),
 (0,⟨some 28,.binOp .add 9 (.tmp 22) (.tmp 27) 9,9,none⟩),
 (3,⟨none,.mapUpdate 163 (.tmp 20) (.tmp 21) (.tmp 28),0,none⟩)]
theorem c132draw0{L:List Nat}{ρ:Env}{w:World}{Q:Post}(S:World→Prop)(hS:S w.drew)(h:DG Tryz.prog S c132D0 L ρ w.drew Q):drawW Tryz.prog (drawOps 0 c132code) L ρ w Q :=
 drawW_held [3] [(0,0),(0,1),(0,2),(0,4),(0,5),(0,6),(0,7),(0,8),(1,3),(2,9),(2,10),(0,11),(3,12)] c132D0 (by kernel_rfl) (by kernel_rfl) (by kernel_rfl) S hS h
theorem ent132(a0 a1 a2:Value)(w:World)(K:Value→World→Prop)(h:W Tryz.prog c132 [(0,a0),(1,a1),(2,a2)] w (finQ Tryz.prog [.tmp 6] K)):Ret Tryz.prog 132 [a0,a1,a2] w K :=
 Ret_of_W (code:=c132code) Tryz.func132 (by kernel_rfl) (by kernel_rfl) (of_decide_eq_true (by kernel_rfl)) h
@[go_sem] theorem go132:goFunc Tryz.prog 132=true:=by kernel_rfl
def c141code:Code:=match Tryz.f141.body with | some c=>c | none=>.skip
def c141S0(_:Unit):Cmd:=(.seq (.ops [
 ⟨some 10,.move (.tmp 3),30,none⟩,
 ⟨some 11,.binOp .neq 30 (.tmp 10) (.const (.int .i64 0)) 30,4,none⟩,
 ⟨some 12,.move (.tmp 11),4,none⟩,
 ⟨some 13,.move (.tmp 0),88,(some (12,false))⟩,
 ⟨some 14,.nilCheck (.tmp 13),0,(some (12,false))⟩,
 ⟨some 15,.fieldAddr 165 (.tmp 14) 2,0,(some (12,false))⟩,
 ⟨some 16,.load 163 (.tmp 15),163,(some (12,false))⟩,
 ⟨some 17,.call ⟨.builtin .len,#[(.tmp 16)],#[163]⟩,3,(some (12,false))⟩,
 ⟨some 18,.binOp .eql 3 (.tmp 17) (.const (.int .i64 0)) 3,4,(some (12,false))⟩,
 ⟨some 19,.pick (.tmp 12) (.const (.bool true)) (.tmp 18),4,none⟩] [0,3,19])
 (.cond (.tmp 19)
 (.seq (.ops [
 ⟨some 20,.move (.tmp 3),30,none⟩,
 ⟨some 2,.assign (.tmp 20),30,none⟩] [2])
 .ret)
 (.skip [0])))
def c141S1(_:Unit):Cmd:=(.block 1 (.seq (.ops [
 ⟨some 28,.entry (.tmp 25),0,none⟩,
 ⟨some 29,.extract (.tmp 28) 0,3,none⟩,
 ⟨some 30,.extract (.tmp 28) 1,9,none⟩,
 ⟨some 5,.assign (.tmp 29),3,none⟩,
 ⟨some 6,.assign (.tmp 30),9,none⟩] [0,4,5,6,25])
 (.ops [
 ⟨some 31,.move (.tmp 4),36,none⟩,
 ⟨some 32,.move (.tmp 5),3,none⟩,
 ⟨some 33,.move (.tmp 6),9,none⟩,
 ⟨some 34,.build 44 #[(0,(.tmp 32)),(1,(.tmp 33))],44,none⟩,
 ⟨some 35,.buildSlice 36 1 #[(0,(.tmp 34))],36,none⟩,
 ⟨some 36,.call ⟨.builtin .append,#[(.tmp 31),(.tmp 35)],#[36,36]⟩,36,none⟩,
 ⟨some 4,.assign (.tmp 36),36,none⟩] [0,4,25])))
end Go.Proofs.YtkmjkmjpejmlnaaGreat

end
