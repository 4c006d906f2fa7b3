/- The functions as commands, and facts on the types: printed by program. -/
import Derived.Test.YtlaflmkgfafhpaaRows
import Derived.Test.YtlaflmkgfafhpaaAnn17
import Derived.KernelRfl
namespace Go.Proofs.Ytlaflmkgfafhpaa
open Go Go.Ann
@[go_sem] theorem ty0tyK : tyK Try.prog 0 = .other := by kernel_rfl
@[go_sem] theorem ty0sizeT : sizeT Try.prog 0 = some 1 := by kernel_rfl
@[go_sem] theorem ty0zeroT : zeroT Try.prog 0 = some (.tuple #[]) := by kernel_rfl
@[go_sem] theorem ty0conc : Program.concrete Try.prog 0 = true := by kernel_rfl
@[go_sem] theorem ty1tyK : tyK Try.prog 1 = .other := by kernel_rfl
@[go_sem] theorem ty1isFuncT : isFuncT Try.prog 1 = true := by kernel_rfl
@[go_sem] theorem ty1sizeT : sizeT Try.prog 1 = some 1 := by kernel_rfl
@[go_sem] theorem ty1zeroT : zeroT Try.prog 1 = some .nilFunc := by kernel_rfl
@[go_sem] theorem ty1conc : Program.concrete Try.prog 1 = true := by kernel_rfl
@[go_sem] theorem ty2tyK : tyK Try.prog 2 = .int .i64 := by kernel_rfl
@[go_sem] theorem ty2sizeT : sizeT Try.prog 2 = some 1 := by kernel_rfl
@[go_sem] theorem ty2zeroT : zeroT Try.prog 2 = some (.int .i64 0) := by kernel_rfl
@[go_sem] theorem ty2conc : Program.concrete Try.prog 2 = true := by kernel_rfl
@[go_sem] theorem ty3tyK : tyK Try.prog 3 = .int .i64 := by kernel_rfl
@[go_sem] theorem ty3sizeT : sizeT Try.prog 3 = some 1 := by kernel_rfl
@[go_sem] theorem ty3zeroT : zeroT Try.prog 3 = some (.int .i64 0) := by kernel_rfl
@[go_sem] theorem ty3conc : Program.concrete Try.prog 3 = true := by kernel_rfl
@[go_sem] theorem ty4tyK : tyK Try.prog 4 = .bool := by kernel_rfl
@[go_sem] theorem ty4isBoolT : isBoolT Try.prog 4 = true := by kernel_rfl
@[go_sem] theorem ty4sizeT : sizeT Try.prog 4 = some 1 := by kernel_rfl
@[go_sem] theorem ty4zeroT : zeroT Try.prog 4 = some (.bool false) := by kernel_rfl
@[go_sem] theorem ty4conc : Program.concrete Try.prog 4 = true := by kernel_rfl
@[go_sem] theorem ty5tyK : tyK Try.prog 5 = .int .u8 := by kernel_rfl
@[go_sem] theorem ty5sizeT : sizeT Try.prog 5 = some 1 := by kernel_rfl
@[go_sem] theorem ty5zeroT : zeroT Try.prog 5 = some (.int .u8 0) := by kernel_rfl
@[go_sem] theorem ty5conc : Program.concrete Try.prog 5 = true := by kernel_rfl
@[go_sem] theorem ty6tyK : tyK Try.prog 6 = .int .u8 := by kernel_rfl
@[go_sem] theorem ty6sizeT : sizeT Try.prog 6 = some 1 := by kernel_rfl
@[go_sem] theorem ty6zeroT : zeroT Try.prog 6 = some (.int .u8 0) := by kernel_rfl
@[go_sem] theorem ty6conc : Program.concrete Try.prog 6 = true := by kernel_rfl
@[go_sem] theorem ty7tyK : tyK Try.prog 7 = .agg 4 := by kernel_rfl
@[go_sem] theorem ty7sizeT : sizeT Try.prog 7 = some 4 := by kernel_rfl
@[go_sem] theorem ty7zeroT : zeroT Try.prog 7 = some (.agg #[(.int .i64 0), (.int .i64 0), (.bool false), (.int .u8 0)]) := by kernel_rfl
@[go_sem] theorem ty7conc : Program.concrete Try.prog 7 = true := by kernel_rfl
@[go_sem] theorem ty7plc : plcT Try.prog 7 = some [(0, 1), (1, 1), (2, 1), (3, 1)] := by kernel_rfl
@[go_sem] theorem ty7fld0 : fldI Try.prog 7 0 = some (0, 1, false) := by kernel_rfl
@[go_sem] theorem ty7fld1 : fldI Try.prog 7 1 = some (1, 1, false) := by kernel_rfl
@[go_sem] theorem ty7fld2 : fldI Try.prog 7 2 = some (2, 1, false) := by kernel_rfl
@[go_sem] theorem ty7fld3 : fldI Try.prog 7 3 = some (3, 1, false) := by kernel_rfl
@[go_sem] theorem ty8tyK : tyK Try.prog 8 = .agg 4 := by kernel_rfl
@[go_sem] theorem ty8sizeT : sizeT Try.prog 8 = some 4 := by kernel_rfl
@[go_sem] theorem ty8zeroT : zeroT Try.prog 8 = some (.agg #[(.int .i64 0), (.int .i64 0), (.bool false), (.int .u8 0)]) := by kernel_rfl
@[go_sem] theorem ty8conc : Program.concrete Try.prog 8 = true := by kernel_rfl
@[go_sem] theorem ty8plc : plcT Try.prog 8 = some [(0, 1), (1, 1), (2, 1), (3, 1)] := by kernel_rfl
@[go_sem] theorem ty8fld0 : fldI Try.prog 8 0 = some (0, 1, false) := by kernel_rfl
@[go_sem] theorem ty8fld1 : fldI Try.prog 8 1 = some (1, 1, false) := by kernel_rfl
@[go_sem] theorem ty8fld2 : fldI Try.prog 8 2 = some (2, 1, false) := by kernel_rfl
@[go_sem] theorem ty8fld3 : fldI Try.prog 8 3 = some (3, 1, false) := by kernel_rfl
@[go_sem] theorem ty9tyK : tyK Try.prog 9 = .str := by kernel_rfl
@[go_sem] theorem ty9isStrT : isStrT Try.prog 9 = true := by kernel_rfl
@[go_sem] theorem ty9sizeT : sizeT Try.prog 9 = some 1 := by kernel_rfl
@[go_sem] theorem ty9zeroT : zeroT Try.prog 9 = some (.string (ofL [])) := by kernel_rfl
@[go_sem] theorem ty9conc : Program.concrete Try.prog 9 = true := by kernel_rfl
@[go_sem] theorem ty10tyK : tyK Try.prog 10 = .str := by kernel_rfl
@[go_sem] theorem ty10isStrT : isStrT Try.prog 10 = true := by kernel_rfl
@[go_sem] theorem ty10sizeT : sizeT Try.prog 10 = some 1 := by kernel_rfl
@[go_sem] theorem ty10zeroT : zeroT Try.prog 10 = some (.string (ofL [])) := by kernel_rfl
@[go_sem] theorem ty10conc : Program.concrete Try.prog 10 = true := by kernel_rfl
@[go_sem] theorem ty11tyK : tyK Try.prog 11 = .str := by kernel_rfl
@[go_sem] theorem ty11isStrT : isStrT Try.prog 11 = true := by kernel_rfl
@[go_sem] theorem ty11sizeT : sizeT Try.prog 11 = some 1 := by kernel_rfl
@[go_sem] theorem ty11zeroT : zeroT Try.prog 11 = some (.string (ofL [])) := by kernel_rfl
@[go_sem] theorem ty11conc : Program.concrete Try.prog 11 = true := by kernel_rfl
@[go_sem] theorem ty12tyK : tyK Try.prog 12 = .int .u64 := by kernel_rfl
@[go_sem] theorem ty12sizeT : sizeT Try.prog 12 = some 1 := by kernel_rfl
@[go_sem] theorem ty12zeroT : zeroT Try.prog 12 = some (.int .u64 0) := by kernel_rfl
@[go_sem] theorem ty12conc : Program.concrete Try.prog 12 = true := by kernel_rfl
@[go_sem] theorem ty13tyK : tyK Try.prog 13 = .agg 2 := by kernel_rfl
@[go_sem] theorem ty13sizeT : sizeT Try.prog 13 = some 2 := by kernel_rfl
@[go_sem] theorem ty13zeroT : zeroT Try.prog 13 = some (.agg #[(.string (ofL [])), (.int .u64 0)]) := by kernel_rfl
@[go_sem] theorem ty13conc : Program.concrete Try.prog 13 = true := by kernel_rfl
@[go_sem] theorem ty13plc : plcT Try.prog 13 = some [(0, 1), (1, 1)] := by kernel_rfl
@[go_sem] theorem ty13fld0 : fldI Try.prog 13 0 = some (0, 1, false) := by kernel_rfl
@[go_sem] theorem ty13fld1 : fldI Try.prog 13 1 = some (1, 1, false) := by kernel_rfl
@[go_sem] theorem ty14tyK : tyK Try.prog 14 = .agg 2 := by kernel_rfl
@[go_sem] theorem ty14sizeT : sizeT Try.prog 14 = some 2 := by kernel_rfl
@[go_sem] theorem ty14zeroT : zeroT Try.prog 14 = some (.agg #[(.string (ofL [])), (.int .u64 0)]) := by kernel_rfl
@[go_sem] theorem ty14conc : Program.concrete Try.prog 14 = true := by kernel_rfl
@[go_sem] theorem ty14plc : plcT Try.prog 14 = some [(0, 1), (1, 1)] := by kernel_rfl
@[go_sem] theorem ty14fld0 : fldI Try.prog 14 0 = some (0, 1, false) := by kernel_rfl
@[go_sem] theorem ty14fld1 : fldI Try.prog 14 1 = some (1, 1, false) := by kernel_rfl
@[go_sem] theorem ty15tyK : tyK Try.prog 15 = .ptr := by kernel_rfl
@[go_sem] theorem ty15isPtrT : isPtrT Try.prog 15 = true := by kernel_rfl
@[go_sem] theorem ty15sizeT : sizeT Try.prog 15 = some 1 := by kernel_rfl
@[go_sem] theorem ty15zeroT : zeroT Try.prog 15 = some (.pointer none) := by kernel_rfl
@[go_sem] theorem ty15conc : Program.concrete Try.prog 15 = true := by kernel_rfl
@[go_sem] theorem ty16tyK : tyK Try.prog 16 = .ptr := by kernel_rfl
@[go_sem] theorem ty16isPtrT : isPtrT Try.prog 16 = true := by kernel_rfl
@[go_sem] theorem ty16sizeT : sizeT Try.prog 16 = some 1 := by kernel_rfl
@[go_sem] theorem ty16zeroT : zeroT Try.prog 16 = some (.pointer none) := by kernel_rfl
@[go_sem] theorem ty16conc : Program.concrete Try.prog 16 = true := by kernel_rfl
@[go_sem] theorem ty17tyK : tyK Try.prog 17 = .ptr := by kernel_rfl
@[go_sem] theorem ty17isPtrT : isPtrT Try.prog 17 = true := by kernel_rfl
@[go_sem] theorem ty17sizeT : sizeT Try.prog 17 = some 1 := by kernel_rfl
@[go_sem] theorem ty17zeroT : zeroT Try.prog 17 = some (.pointer none) := by kernel_rfl
@[go_sem] theorem ty17conc : Program.concrete Try.prog 17 = true := by kernel_rfl
@[go_sem] theorem ty18tyK : tyK Try.prog 18 = .agg 1 := by kernel_rfl
@[go_sem] theorem ty18sizeT : sizeT Try.prog 18 = some 1 := by kernel_rfl
@[go_sem] theorem ty18zeroT : zeroT Try.prog 18 = some (.agg #[(.pointer none)]) := by kernel_rfl
@[go_sem] theorem ty18conc : Program.concrete Try.prog 18 = true := by kernel_rfl
@[go_sem] theorem ty18plc : plcT Try.prog 18 = some [(0, 1)] := by kernel_rfl
@[go_sem] theorem ty18fld0 : fldI Try.prog 18 0 = some (0, 1, false) := by kernel_rfl
@[go_sem] theorem ty19tyK : tyK Try.prog 19 = .agg 1 := by kernel_rfl
@[go_sem] theorem ty19sizeT : sizeT Try.prog 19 = some 1 := by kernel_rfl
@[go_sem] theorem ty19zeroT : zeroT Try.prog 19 = some (.agg #[(.pointer none)]) := by kernel_rfl
@[go_sem] theorem ty19conc : Program.concrete Try.prog 19 = true := by kernel_rfl
@[go_sem] theorem ty19plc : plcT Try.prog 19 = some [(0, 1)] := by kernel_rfl
@[go_sem] theorem ty19fld0 : fldI Try.prog 19 0 = some (0, 1, false) := by kernel_rfl
@[go_sem] theorem ty20tyK : tyK Try.prog 20 = .other := by kernel_rfl
@[go_sem] theorem ty20isIfaceT : isIfaceT Try.prog 20 = true := by kernel_rfl
@[go_sem] theorem ty20sizeT : sizeT Try.prog 20 = some 1 := by kernel_rfl
@[go_sem] theorem ty20zeroT : zeroT Try.prog 20 = some .nilIface := by kernel_rfl
@[go_sem] theorem ty21tyK : tyK Try.prog 21 = .int .i32 := by kernel_rfl
@[go_sem] theorem ty21sizeT : sizeT Try.prog 21 = some 1 := by kernel_rfl
@[go_sem] theorem ty21zeroT : zeroT Try.prog 21 = some (.int .i32 0) := by kernel_rfl
@[go_sem] theorem ty21conc : Program.concrete Try.prog 21 = true := by kernel_rfl
@[go_sem] theorem ty22tyK : tyK Try.prog 22 = .slice false 28 := by kernel_rfl
@[go_sem] theorem ty22isSliceT : isSliceT Try.prog 22 = true := by kernel_rfl
@[go_sem] theorem ty22sliI : sliI Try.prog 22 = some 6 := by kernel_rfl
@[go_sem] theorem ty22mkI : mkI Try.prog 22 = some (28, 6, 56, (.agg #[(.int .i64 0), (.int .i64 0), (.string (ofL [])), (.int .u64 0), (.int .i64 0), (.int .i64 0)])) := by kernel_rfl
@[go_sem] theorem ty22sizeT : sizeT Try.prog 22 = some 1 := by kernel_rfl
@[go_sem] theorem ty22zeroT : zeroT Try.prog 22 = some (.slice none 0 0) := by kernel_rfl
@[go_sem] theorem ty22conc : Program.concrete Try.prog 22 = true := by kernel_rfl
@[go_sem] theorem ty23tyK : tyK Try.prog 23 = .ptr := by kernel_rfl
@[go_sem] theorem ty23isPtrT : isPtrT Try.prog 23 = true := by kernel_rfl
@[go_sem] theorem ty23sizeT : sizeT Try.prog 23 = some 1 := by kernel_rfl
@[go_sem] theorem ty23zeroT : zeroT Try.prog 23 = some (.pointer none) := by kernel_rfl
@[go_sem] theorem ty23conc : Program.concrete Try.prog 23 = true := by kernel_rfl
@[go_sem] theorem ty24tyK : tyK Try.prog 24 = .other := by kernel_rfl
@[go_sem] theorem ty24isFuncT : isFuncT Try.prog 24 = true := by kernel_rfl
@[go_sem] theorem ty24sizeT : sizeT Try.prog 24 = some 1 := by kernel_rfl
@[go_sem] theorem ty24zeroT : zeroT Try.prog 24 = some .nilFunc := by kernel_rfl
@[go_sem] theorem ty24conc : Program.concrete Try.prog 24 = true := by kernel_rfl
@[go_sem] theorem ty25tyK : tyK Try.prog 25 = .agg 6 := by kernel_rfl
@[go_sem] theorem ty25arrI : arrI Try.prog 25 = some (6, 1, false) := by kernel_rfl
@[go_sem] theorem ty25sizeT : sizeT Try.prog 25 = some 6 := by kernel_rfl
@[go_sem] theorem ty25zeroT : zeroT Try.prog 25 = some (.agg #[(.string (ofL [])), (.string (ofL [])), (.string (ofL [])), (.string (ofL [])), (.string (ofL [])), (.string (ofL []))]) := by kernel_rfl
@[go_sem] theorem ty25conc : Program.concrete Try.prog 25 = true := by kernel_rfl
@[go_sem] theorem ty26tyK : tyK Try.prog 26 = .int .u64 := by kernel_rfl
@[go_sem] theorem ty26sizeT : sizeT Try.prog 26 = some 1 := by kernel_rfl
@[go_sem] theorem ty26zeroT : zeroT Try.prog 26 = some (.int .u64 0) := by kernel_rfl
@[go_sem] theorem ty26conc : Program.concrete Try.prog 26 = true := by kernel_rfl
@[go_sem] theorem ty27tyK : tyK Try.prog 27 = .agg 6 := by kernel_rfl
@[go_sem] theorem ty27sizeT : sizeT Try.prog 27 = some 6 := by kernel_rfl
@[go_sem] theorem ty27zeroT : zeroT Try.prog 27 = some (.agg #[(.int .i64 0), (.int .i64 0), (.string (ofL [])), (.int .u64 0), (.int .i64 0), (.int .i64 0)]) := by kernel_rfl
@[go_sem] theorem ty27conc : Program.concrete Try.prog 27 = true := by kernel_rfl
@[go_sem] theorem ty27plc : plcT Try.prog 27 = some [(0, 1), (1, 1), (2, 1), (3, 1), (4, 1), (5, 1)] := by kernel_rfl
@[go_sem] theorem ty27fld0 : fldI Try.prog 27 0 = some (0, 1, false) := by kernel_rfl
@[go_sem] theorem ty27fld1 : fldI Try.prog 27 1 = some (1, 1, false) := by kernel_rfl
@[go_sem] theorem ty27fld2 : fldI Try.prog 27 2 = some (2, 1, false) := by kernel_rfl
@[go_sem] theorem ty27fld3 : fldI Try.prog 27 3 = some (3, 1, false) := by kernel_rfl
@[go_sem] theorem ty27fld4 : fldI Try.prog 27 4 = some (4, 1, false) := by kernel_rfl
@[go_sem] theorem ty27fld5 : fldI Try.prog 27 5 = some (5, 1, false) := by kernel_rfl
@[go_sem] theorem ty28tyK : tyK Try.prog 28 = .agg 6 := by kernel_rfl
@[go_sem] theorem ty28sizeT : sizeT Try.prog 28 = some 6 := by kernel_rfl
@[go_sem] theorem ty28zeroT : zeroT Try.prog 28 = some (.agg #[(.int .i64 0), (.int .i64 0), (.string (ofL [])), (.int .u64 0), (.int .i64 0), (.int .i64 0)]) := by kernel_rfl
@[go_sem] theorem ty28conc : Program.concrete Try.prog 28 = true := by kernel_rfl
@[go_sem] theorem ty28plc : plcT Try.prog 28 = some [(0, 1), (1, 1), (2, 1), (3, 1), (4, 1), (5, 1)] := by kernel_rfl
@[go_sem] theorem ty28fld0 : fldI Try.prog 28 0 = some (0, 1, false) := by kernel_rfl
@[go_sem] theorem ty28fld1 : fldI Try.prog 28 1 = some (1, 1, false) := by kernel_rfl
@[go_sem] theorem ty28fld2 : fldI Try.prog 28 2 = some (2, 1, false) := by kernel_rfl
@[go_sem] theorem ty28fld3 : fldI Try.prog 28 3 = some (3, 1, false) := by kernel_rfl
@[go_sem] theorem ty28fld4 : fldI Try.prog 28 4 = some (4, 1, false) := by kernel_rfl
@[go_sem] theorem ty28fld5 : fldI Try.prog 28 5 = some (5, 1, false) := by kernel_rfl
@[go_sem] theorem ty29tyK : tyK Try.prog 29 = .int .i64 := by kernel_rfl
@[go_sem] theorem ty29sizeT : sizeT Try.prog 29 = some 1 := by kernel_rfl
@[go_sem] theorem ty29zeroT : zeroT Try.prog 29 = some (.int .i64 0) := by kernel_rfl
@[go_sem] theorem ty29conc : Program.concrete Try.prog 29 = true := by kernel_rfl
@[go_sem] theorem ty30tyK : tyK Try.prog 30 = .other := by kernel_rfl
@[go_sem] theorem ty30isFuncT : isFuncT Try.prog 30 = true := by kernel_rfl
@[go_sem] theorem ty30sizeT : sizeT Try.prog 30 = some 1 := by kernel_rfl
@[go_sem] theorem ty30zeroT : zeroT Try.prog 30 = some .nilFunc := by kernel_rfl
@[go_sem] theorem ty30conc : Program.concrete Try.prog 30 = true := by kernel_rfl
@[go_sem] theorem ty31tyK : tyK Try.prog 31 = .other := by kernel_rfl
@[go_sem] theorem ty31isFuncT : isFuncT Try.prog 31 = true := by kernel_rfl
@[go_sem] theorem ty31sizeT : sizeT Try.prog 31 = some 1 := by kernel_rfl
@[go_sem] theorem ty31zeroT : zeroT Try.prog 31 = some .nilFunc := by kernel_rfl
@[go_sem] theorem ty31conc : Program.concrete Try.prog 31 = true := by kernel_rfl
@[go_sem] theorem ty32tyK : tyK Try.prog 32 = .other := by kernel_rfl
@[go_sem] theorem ty32sizeT : sizeT Try.prog 32 = some 1 := by kernel_rfl
@[go_sem] theorem ty32zeroT : zeroT Try.prog 32 = some (.tuple #[(.string (ofL [])), (.int .i64 0)]) := by kernel_rfl
@[go_sem] theorem ty32conc : Program.concrete Try.prog 32 = true := by kernel_rfl
@[go_sem] theorem ty33tyK : tyK Try.prog 33 = .other := by kernel_rfl
@[go_sem] theorem ty33isFuncT : isFuncT Try.prog 33 = true := by kernel_rfl
@[go_sem] theorem ty33sizeT : sizeT Try.prog 33 = some 1 := by kernel_rfl
@[go_sem] theorem ty33zeroT : zeroT Try.prog 33 = some .nilFunc := by kernel_rfl
@[go_sem] theorem ty33conc : Program.concrete Try.prog 33 = true := by kernel_rfl
@[go_sem] theorem ty34tyK : tyK Try.prog 34 = .other := by kernel_rfl
@[go_sem] theorem ty34isFuncT : isFuncT Try.prog 34 = true := by kernel_rfl
@[go_sem] theorem ty34sizeT : sizeT Try.prog 34 = some 1 := by kernel_rfl
@[go_sem] theorem ty34zeroT : zeroT Try.prog 34 = some .nilFunc := by kernel_rfl
@[go_sem] theorem ty34conc : Program.concrete Try.prog 34 = true := by kernel_rfl
@[go_sem] theorem ty35tyK : tyK Try.prog 35 = .other := by kernel_rfl
@[go_sem] theorem ty35isFuncT : isFuncT Try.prog 35 = true := by kernel_rfl
@[go_sem] theorem ty35sizeT : sizeT Try.prog 35 = some 1 := by kernel_rfl
@[go_sem] theorem ty35zeroT : zeroT Try.prog 35 = some .nilFunc := by kernel_rfl
@[go_sem] theorem ty35conc : Program.concrete Try.prog 35 = true := by kernel_rfl
@[go_sem] theorem ty36tyK : tyK Try.prog 36 = .other := by kernel_rfl
@[go_sem] theorem ty36isFuncT : isFuncT Try.prog 36 = true := by kernel_rfl
@[go_sem] theorem ty36sizeT : sizeT Try.prog 36 = some 1 := by kernel_rfl
@[go_sem] theorem ty36zeroT : zeroT Try.prog 36 = some .nilFunc := by kernel_rfl
@[go_sem] theorem ty36conc : Program.concrete Try.prog 36 = true := by kernel_rfl
@[go_sem] theorem ty37tyK : tyK Try.prog 37 = .agg 6 := by kernel_rfl
@[go_sem] theorem ty37arrI : arrI Try.prog 37 = some (6, 1, false) := by kernel_rfl
@[go_sem] theorem ty37sizeT : sizeT Try.prog 37 = some 6 := by kernel_rfl
@[go_sem] theorem ty37zeroT : zeroT Try.prog 37 = some (.agg #[(.bool false), (.bool false), (.bool false), (.bool false), (.bool false), (.bool false)]) := by kernel_rfl
@[go_sem] theorem ty37conc : Program.concrete Try.prog 37 = true := by kernel_rfl
@[go_sem] theorem ty38tyK : tyK Try.prog 38 = .other := by kernel_rfl
@[go_sem] theorem ty38isFuncT : isFuncT Try.prog 38 = true := by kernel_rfl
@[go_sem] theorem ty38sizeT : sizeT Try.prog 38 = some 1 := by kernel_rfl
@[go_sem] theorem ty38zeroT : zeroT Try.prog 38 = some .nilFunc := by kernel_rfl
@[go_sem] theorem ty38conc : Program.concrete Try.prog 38 = true := by kernel_rfl
@[go_sem] theorem ty39tyK : tyK Try.prog 39 = .other := by kernel_rfl
@[go_sem] theorem ty39isFuncT : isFuncT Try.prog 39 = true := by kernel_rfl
@[go_sem] theorem ty39sizeT : sizeT Try.prog 39 = some 1 := by kernel_rfl
@[go_sem] theorem ty39zeroT : zeroT Try.prog 39 = some .nilFunc := by kernel_rfl
@[go_sem] theorem ty39conc : Program.concrete Try.prog 39 = true := by kernel_rfl
@[go_sem] theorem ty40tyK : tyK Try.prog 40 = .other := by kernel_rfl
@[go_sem] theorem ty40isFuncT : isFuncT Try.prog 40 = true := by kernel_rfl
@[go_sem] theorem ty40sizeT : sizeT Try.prog 40 = some 1 := by kernel_rfl
@[go_sem] theorem ty40zeroT : zeroT Try.prog 40 = some .nilFunc := by kernel_rfl
@[go_sem] theorem ty40conc : Program.concrete Try.prog 40 = true := by kernel_rfl
@[go_sem] theorem ty41tyK : tyK Try.prog 41 = .other := by kernel_rfl
@[go_sem] theorem ty41isFuncT : isFuncT Try.prog 41 = true := by kernel_rfl
@[go_sem] theorem ty41sizeT : sizeT Try.prog 41 = some 1 := by kernel_rfl
@[go_sem] theorem ty41zeroT : zeroT Try.prog 41 = some .nilFunc := by kernel_rfl
@[go_sem] theorem ty41conc : Program.concrete Try.prog 41 = true := by kernel_rfl
@[go_sem] theorem ty42tyK : tyK Try.prog 42 = .other := by kernel_rfl
@[go_sem] theorem ty42isFuncT : isFuncT Try.prog 42 = true := by kernel_rfl
@[go_sem] theorem ty42sizeT : sizeT Try.prog 42 = some 1 := by kernel_rfl
@[go_sem] theorem ty42zeroT : zeroT Try.prog 42 = some .nilFunc := by kernel_rfl
@[go_sem] theorem ty42conc : Program.concrete Try.prog 42 = true := by kernel_rfl
@[go_sem] theorem ty43tyK : tyK Try.prog 43 = .other := by kernel_rfl
@[go_sem] theorem ty43sizeT : sizeT Try.prog 43 = some 1 := by kernel_rfl
@[go_sem] theorem ty43zeroT : zeroT Try.prog 43 = some (.tuple #[(.pointer none), (.int .i64 0)]) := by kernel_rfl
@[go_sem] theorem ty43conc : Program.concrete Try.prog 43 = true := by kernel_rfl
@[go_sem] theorem ty44tyK : tyK Try.prog 44 = .other := by kernel_rfl
@[go_sem] theorem ty44isFuncT : isFuncT Try.prog 44 = true := by kernel_rfl
@[go_sem] theorem ty44sizeT : sizeT Try.prog 44 = some 1 := by kernel_rfl
@[go_sem] theorem ty44zeroT : zeroT Try.prog 44 = some .nilFunc := by kernel_rfl
@[go_sem] theorem ty44conc : Program.concrete Try.prog 44 = true := by kernel_rfl
@[go_sem] theorem ty45tyK : tyK Try.prog 45 = .slice false 9 := by kernel_rfl
@[go_sem] theorem ty45isSliceT : isSliceT Try.prog 45 = true := by kernel_rfl
@[go_sem] theorem ty45sliI : sliI Try.prog 45 = some 1 := by kernel_rfl
@[go_sem] theorem ty45mkI : mkI Try.prog 45 = some (9, 1, 16, (.string (ofL []))) := by kernel_rfl
@[go_sem] theorem ty45sizeT : sizeT Try.prog 45 = some 1 := by kernel_rfl
@[go_sem] theorem ty45zeroT : zeroT Try.prog 45 = some (.slice none 0 0) := by kernel_rfl
@[go_sem] theorem ty45conc : Program.concrete Try.prog 45 = true := by kernel_rfl
@[go_sem] theorem ty46tyK : tyK Try.prog 46 = .slice false 95 := by kernel_rfl
@[go_sem] theorem ty46isSliceT : isSliceT Try.prog 46 = true := by kernel_rfl
@[go_sem] theorem ty46sliI : sliI Try.prog 46 = some 2 := by kernel_rfl
@[go_sem] theorem ty46mkI : mkI Try.prog 46 = some (95, 2, 24, (.agg #[(.int .i64 0), (.string (ofL []))])) := by kernel_rfl
@[go_sem] theorem ty46sizeT : sizeT Try.prog 46 = some 1 := by kernel_rfl
@[go_sem] theorem ty46zeroT : zeroT Try.prog 46 = some (.slice none 0 0) := by kernel_rfl
@[go_sem] theorem ty46conc : Program.concrete Try.prog 46 = true := by kernel_rfl
@[go_sem] theorem ty47tyK : tyK Try.prog 47 = .agg 4 := by kernel_rfl
@[go_sem] theorem ty47sizeT : sizeT Try.prog 47 = some 4 := by kernel_rfl
@[go_sem] theorem ty47zeroT : zeroT Try.prog 47 = some (.agg #[(.slice none 0 0), (.slice none 0 0), (.int .i64 0), (.bool false)]) := by kernel_rfl
@[go_sem] theorem ty47conc : Program.concrete Try.prog 47 = true := by kernel_rfl
@[go_sem] theorem ty47plc : plcT Try.prog 47 = some [(0, 1), (1, 1), (2, 1), (3, 1)] := by kernel_rfl
@[go_sem] theorem ty47fld0 : fldI Try.prog 47 0 = some (0, 1, false) := by kernel_rfl
@[go_sem] theorem ty47fld1 : fldI Try.prog 47 1 = some (1, 1, false) := by kernel_rfl
@[go_sem] theorem ty47fld2 : fldI Try.prog 47 2 = some (2, 1, false) := by kernel_rfl
@[go_sem] theorem ty47fld3 : fldI Try.prog 47 3 = some (3, 1, false) := by kernel_rfl
@[go_sem] theorem ty48tyK : tyK Try.prog 48 = .agg 4 := by kernel_rfl
@[go_sem] theorem ty48sizeT : sizeT Try.prog 48 = some 4 := by kernel_rfl
@[go_sem] theorem ty48zeroT : zeroT Try.prog 48 = some (.agg #[(.slice none 0 0), (.slice none 0 0), (.int .i64 0), (.bool false)]) := by kernel_rfl
@[go_sem] theorem ty48conc : Program.concrete Try.prog 48 = true := by kernel_rfl
@[go_sem] theorem ty48plc : plcT Try.prog 48 = some [(0, 1), (1, 1), (2, 1), (3, 1)] := by kernel_rfl
@[go_sem] theorem ty48fld0 : fldI Try.prog 48 0 = some (0, 1, false) := by kernel_rfl
@[go_sem] theorem ty48fld1 : fldI Try.prog 48 1 = some (1, 1, false) := by kernel_rfl
@[go_sem] theorem ty48fld2 : fldI Try.prog 48 2 = some (2, 1, false) := by kernel_rfl
@[go_sem] theorem ty48fld3 : fldI Try.prog 48 3 = some (3, 1, false) := by kernel_rfl
@[go_sem] theorem ty49tyK : tyK Try.prog 49 = .other := by kernel_rfl
@[go_sem] theorem ty49sizeT : sizeT Try.prog 49 = some 1 := by kernel_rfl
@[go_sem] theorem ty49zeroT : zeroT Try.prog 49 = some (.tuple #[(.agg #[(.slice none 0 0), (.slice none 0 0), (.int .i64 0), (.bool false)]), (.int .i64 0)]) := by kernel_rfl
@[go_sem] theorem ty49conc : Program.concrete Try.prog 49 = true := by kernel_rfl
@[go_sem] theorem ty50tyK : tyK Try.prog 50 = .other := by kernel_rfl
@[go_sem] theorem ty50isFuncT : isFuncT Try.prog 50 = true := by kernel_rfl
@[go_sem] theorem ty50sizeT : sizeT Try.prog 50 = some 1 := by kernel_rfl
@[go_sem] theorem ty50zeroT : zeroT Try.prog 50 = some .nilFunc := by kernel_rfl
@[go_sem] theorem ty50conc : Program.concrete Try.prog 50 = true := by kernel_rfl
@[go_sem] theorem ty51tyK : tyK Try.prog 51 = .other := by kernel_rfl
@[go_sem] theorem ty51isFuncT : isFuncT Try.prog 51 = true := by kernel_rfl
@[go_sem] theorem ty51sizeT : sizeT Try.prog 51 = some 1 := by kernel_rfl
@[go_sem] theorem ty51zeroT : zeroT Try.prog 51 = some .nilFunc := by kernel_rfl
@[go_sem] theorem ty51conc : Program.concrete Try.prog 51 = true := by kernel_rfl
@[go_sem] theorem ty52tyK : tyK Try.prog 52 = .other := by kernel_rfl
@[go_sem] theorem ty52isFuncT : isFuncT Try.prog 52 = true := by kernel_rfl
@[go_sem] theorem ty52sizeT : sizeT Try.prog 52 = some 1 := by kernel_rfl
@[go_sem] theorem ty52zeroT : zeroT Try.prog 52 = some .nilFunc := by kernel_rfl
@[go_sem] theorem ty52conc : Program.concrete Try.prog 52 = true := by kernel_rfl
@[go_sem] theorem ty53tyK : tyK Try.prog 53 = .ptr := by kernel_rfl
@[go_sem] theorem ty53isPtrT : isPtrT Try.prog 53 = true := by kernel_rfl
@[go_sem] theorem ty53sizeT : sizeT Try.prog 53 = some 1 := by kernel_rfl
@[go_sem] theorem ty53zeroT : zeroT Try.prog 53 = some (.pointer none) := by kernel_rfl
@[go_sem] theorem ty53conc : Program.concrete Try.prog 53 = true := by kernel_rfl
@[go_sem] theorem ty54tyK : tyK Try.prog 54 = .other := by kernel_rfl
@[go_sem] theorem ty54sizeT : sizeT Try.prog 54 = some 1 := by kernel_rfl
@[go_sem] theorem ty54zeroT : zeroT Try.prog 54 = some (.tuple #[(.string (ofL [])), (.int .i64 0)]) := by kernel_rfl
@[go_sem] theorem ty54conc : Program.concrete Try.prog 54 = true := by kernel_rfl
@[go_sem] theorem ty55tyK : tyK Try.prog 55 = .other := by kernel_rfl
@[go_sem] theorem ty55isFuncT : isFuncT Try.prog 55 = true := by kernel_rfl
@[go_sem] theorem ty55sizeT : sizeT Try.prog 55 = some 1 := by kernel_rfl
@[go_sem] theorem ty55zeroT : zeroT Try.prog 55 = some .nilFunc := by kernel_rfl
@[go_sem] theorem ty55conc : Program.concrete Try.prog 55 = true := by kernel_rfl
@[go_sem] theorem ty56tyK : tyK Try.prog 56 = .slice false 88 := by kernel_rfl
@[go_sem] theorem ty56isSliceT : isSliceT Try.prog 56 = true := by kernel_rfl
@[go_sem] theorem ty56sliI : sliI Try.prog 56 = some 2 := by kernel_rfl
@[go_sem] theorem ty56mkI : mkI Try.prog 56 = some (88, 2, 24, (.agg #[(.int .i64 0), (.string (ofL []))])) := by kernel_rfl
@[go_sem] theorem ty56sizeT : sizeT Try.prog 56 = some 1 := by kernel_rfl
@[go_sem] theorem ty56zeroT : zeroT Try.prog 56 = some (.slice none 0 0) := by kernel_rfl
@[go_sem] theorem ty56conc : Program.concrete Try.prog 56 = true := by kernel_rfl
@[go_sem] theorem ty57tyK : tyK Try.prog 57 = .agg 5 := by kernel_rfl
@[go_sem] theorem ty57sizeT : sizeT Try.prog 57 = some 5 := by kernel_rfl
@[go_sem] theorem ty57zeroT : zeroT Try.prog 57 = some (.agg #[(.slice none 0 0), (.slice none 0 0), (.int .i64 0), (.bool false), (.string (ofL []))]) := by kernel_rfl
@[go_sem] theorem ty57conc : Program.concrete Try.prog 57 = true := by kernel_rfl
@[go_sem] theorem ty57plc : plcT Try.prog 57 = some [(0, 1), (1, 1), (2, 1), (3, 1), (4, 1)] := by kernel_rfl
@[go_sem] theorem ty57fld0 : fldI Try.prog 57 0 = some (0, 1, false) := by kernel_rfl
@[go_sem] theorem ty57fld1 : fldI Try.prog 57 1 = some (1, 1, false) := by kernel_rfl
@[go_sem] theorem ty57fld2 : fldI Try.prog 57 2 = some (2, 1, false) := by kernel_rfl
@[go_sem] theorem ty57fld3 : fldI Try.prog 57 3 = some (3, 1, false) := by kernel_rfl
@[go_sem] theorem ty57fld4 : fldI Try.prog 57 4 = some (4, 1, false) := by kernel_rfl
@[go_sem] theorem ty58tyK : tyK Try.prog 58 = .agg 5 := by kernel_rfl
@[go_sem] theorem ty58sizeT : sizeT Try.prog 58 = some 5 := by kernel_rfl
@[go_sem] theorem ty58zeroT : zeroT Try.prog 58 = some (.agg #[(.slice none 0 0), (.slice none 0 0), (.int .i64 0), (.bool false), (.string (ofL []))]) := by kernel_rfl
@[go_sem] theorem ty58conc : Program.concrete Try.prog 58 = true := by kernel_rfl
@[go_sem] theorem ty58plc : plcT Try.prog 58 = some [(0, 1), (1, 1), (2, 1), (3, 1), (4, 1)] := by kernel_rfl
@[go_sem] theorem ty58fld0 : fldI Try.prog 58 0 = some (0, 1, false) := by kernel_rfl
@[go_sem] theorem ty58fld1 : fldI Try.prog 58 1 = some (1, 1, false) := by kernel_rfl
@[go_sem] theorem ty58fld2 : fldI Try.prog 58 2 = some (2, 1, false) := by kernel_rfl
@[go_sem] theorem ty58fld3 : fldI Try.prog 58 3 = some (3, 1, false) := by kernel_rfl
@[go_sem] theorem ty58fld4 : fldI Try.prog 58 4 = some (4, 1, false) := by kernel_rfl
@[go_sem] theorem ty59tyK : tyK Try.prog 59 = .slice false 23 := by kernel_rfl
@[go_sem] theorem ty59isSliceT : isSliceT Try.prog 59 = true := by kernel_rfl
@[go_sem] theorem ty59sliI : sliI Try.prog 59 = some 1 := by kernel_rfl
@[go_sem] theorem ty59mkI : mkI Try.prog 59 = some (23, 1, 8, (.pointer none)) := by kernel_rfl
@[go_sem] theorem ty59sizeT : sizeT Try.prog 59 = some 1 := by kernel_rfl
@[go_sem] theorem ty59zeroT : zeroT Try.prog 59 = some (.slice none 0 0) := by kernel_rfl
@[go_sem] theorem ty59conc : Program.concrete Try.prog 59 = true := by kernel_rfl
@[go_sem] theorem ty60tyK : tyK Try.prog 60 = .other := by kernel_rfl
@[go_sem] theorem ty60isFuncT : isFuncT Try.prog 60 = true := by kernel_rfl
@[go_sem] theorem ty60sizeT : sizeT Try.prog 60 = some 1 := by kernel_rfl
@[go_sem] theorem ty60zeroT : zeroT Try.prog 60 = some .nilFunc := by kernel_rfl
@[go_sem] theorem ty60conc : Program.concrete Try.prog 60 = true := by kernel_rfl
@[go_sem] theorem ty61tyK : tyK Try.prog 61 = .agg 2 := by kernel_rfl
@[go_sem] theorem ty61sizeT : sizeT Try.prog 61 = some 2 := by kernel_rfl
@[go_sem] theorem ty61zeroT : zeroT Try.prog 61 = some (.agg #[(.int .i64 0), (.slice none 0 0)]) := by kernel_rfl
@[go_sem] theorem ty61conc : Program.concrete Try.prog 61 = true := by kernel_rfl
@[go_sem] theorem ty61plc : plcT Try.prog 61 = some [(0, 1), (1, 1)] := by kernel_rfl
@[go_sem] theorem ty61fld0 : fldI Try.prog 61 0 = some (0, 1, false) := by kernel_rfl
@[go_sem] theorem ty61fld1 : fldI Try.prog 61 1 = some (1, 1, false) := by kernel_rfl
@[go_sem] theorem ty62tyK : tyK Try.prog 62 = .agg 2 := by kernel_rfl
@[go_sem] theorem ty62sizeT : sizeT Try.prog 62 = some 2 := by kernel_rfl
@[go_sem] theorem ty62zeroT : zeroT Try.prog 62 = some (.agg #[(.int .i64 0), (.slice none 0 0)]) := by kernel_rfl
@[go_sem] theorem ty62conc : Program.concrete Try.prog 62 = true := by kernel_rfl
@[go_sem] theorem ty62plc : plcT Try.prog 62 = some [(0, 1), (1, 1)] := by kernel_rfl
@[go_sem] theorem ty62fld0 : fldI Try.prog 62 0 = some (0, 1, false) := by kernel_rfl
@[go_sem] theorem ty62fld1 : fldI Try.prog 62 1 = some (1, 1, false) := by kernel_rfl
@[go_sem] theorem ty63tyK : tyK Try.prog 63 = .other := by kernel_rfl
@[go_sem] theorem ty63sizeT : sizeT Try.prog 63 = some 1 := by kernel_rfl
@[go_sem] theorem ty63zeroT : zeroT Try.prog 63 = some (.tuple #[(.agg #[(.int .i64 0), (.slice none 0 0)]), (.bool false)]) := by kernel_rfl
@[go_sem] theorem ty63conc : Program.concrete Try.prog 63 = true := by kernel_rfl
@[go_sem] theorem ty64tyK : tyK Try.prog 64 = .other := by kernel_rfl
@[go_sem] theorem ty64isFuncT : isFuncT Try.prog 64 = true := by kernel_rfl
@[go_sem] theorem ty64sizeT : sizeT Try.prog 64 = some 1 := by kernel_rfl
@[go_sem] theorem ty64zeroT : zeroT Try.prog 64 = some .nilFunc := by kernel_rfl
@[go_sem] theorem ty64conc : Program.concrete Try.prog 64 = true := by kernel_rfl
@[go_sem] theorem ty65tyK : tyK Try.prog 65 = .other := by kernel_rfl
@[go_sem] theorem ty65sizeT : sizeT Try.prog 65 = some 1 := by kernel_rfl
@[go_sem] theorem ty65zeroT : zeroT Try.prog 65 = some (.tuple #[(.string (ofL [])), (.int .i64 0), (.bool false)]) := by kernel_rfl
@[go_sem] theorem ty65conc : Program.concrete Try.prog 65 = true := by kernel_rfl
@[go_sem] theorem ty66tyK : tyK Try.prog 66 = .other := by kernel_rfl
@[go_sem] theorem ty66isFuncT : isFuncT Try.prog 66 = true := by kernel_rfl
@[go_sem] theorem ty66sizeT : sizeT Try.prog 66 = some 1 := by kernel_rfl
@[go_sem] theorem ty66zeroT : zeroT Try.prog 66 = some .nilFunc := by kernel_rfl
@[go_sem] theorem ty66conc : Program.concrete Try.prog 66 = true := by kernel_rfl
@[go_sem] theorem ty67tyK : tyK Try.prog 67 = .other := by kernel_rfl
@[go_sem] theorem ty67sizeT : sizeT Try.prog 67 = some 1 := by kernel_rfl
@[go_sem] theorem ty67zeroT : zeroT Try.prog 67 = some (.tuple #[(.agg #[(.int .i64 0), (.slice none 0 0)]), (.int .i64 0), (.bool false)]) := by kernel_rfl
@[go_sem] theorem ty67conc : Program.concrete Try.prog 67 = true := by kernel_rfl
@[go_sem] theorem ty68tyK : tyK Try.prog 68 = .other := by kernel_rfl
@[go_sem] theorem ty68isFuncT : isFuncT Try.prog 68 = true := by kernel_rfl
@[go_sem] theorem ty68sizeT : sizeT Try.prog 68 = some 1 := by kernel_rfl
@[go_sem] theorem ty68zeroT : zeroT Try.prog 68 = some .nilFunc := by kernel_rfl
@[go_sem] theorem ty68conc : Program.concrete Try.prog 68 = true := by kernel_rfl
@[go_sem] theorem ty69tyK : tyK Try.prog 69 = .other := by kernel_rfl
@[go_sem] theorem ty69isFuncT : isFuncT Try.prog 69 = true := by kernel_rfl
@[go_sem] theorem ty69sizeT : sizeT Try.prog 69 = some 1 := by kernel_rfl
@[go_sem] theorem ty69zeroT : zeroT Try.prog 69 = some .nilFunc := by kernel_rfl
@[go_sem] theorem ty69conc : Program.concrete Try.prog 69 = true := by kernel_rfl
@[go_sem] theorem ty70tyK : tyK Try.prog 70 = .other := by kernel_rfl
@[go_sem] theorem ty70isFuncT : isFuncT Try.prog 70 = true := by kernel_rfl
@[go_sem] theorem ty70sizeT : sizeT Try.prog 70 = some 1 := by kernel_rfl
@[go_sem] theorem ty70zeroT : zeroT Try.prog 70 = some .nilFunc := by kernel_rfl
@[go_sem] theorem ty70conc : Program.concrete Try.prog 70 = true := by kernel_rfl
@[go_sem] theorem ty71tyK : tyK Try.prog 71 = .other := by kernel_rfl
@[go_sem] theorem ty71sizeT : sizeT Try.prog 71 = some 1 := by kernel_rfl
@[go_sem] theorem ty71zeroT : zeroT Try.prog 71 = some (.tuple #[(.string (ofL [])), (.bool false)]) := by kernel_rfl
@[go_sem] theorem ty71conc : Program.concrete Try.prog 71 = true := by kernel_rfl
@[go_sem] theorem ty72tyK : tyK Try.prog 72 = .other := by kernel_rfl
@[go_sem] theorem ty72isFuncT : isFuncT Try.prog 72 = true := by kernel_rfl
@[go_sem] theorem ty72sizeT : sizeT Try.prog 72 = some 1 := by kernel_rfl
@[go_sem] theorem ty72zeroT : zeroT Try.prog 72 = some .nilFunc := by kernel_rfl
@[go_sem] theorem ty72conc : Program.concrete Try.prog 72 = true := by kernel_rfl
@[go_sem] theorem ty73tyK : tyK Try.prog 73 = .other := by kernel_rfl
@[go_sem] theorem ty73isFuncT : isFuncT Try.prog 73 = true := by kernel_rfl
@[go_sem] theorem ty73sizeT : sizeT Try.prog 73 = some 1 := by kernel_rfl
@[go_sem] theorem ty73zeroT : zeroT Try.prog 73 = some .nilFunc := by kernel_rfl
@[go_sem] theorem ty73conc : Program.concrete Try.prog 73 = true := by kernel_rfl
@[go_sem] theorem ty74tyK : tyK Try.prog 74 = .other := by kernel_rfl
@[go_sem] theorem ty74isFuncT : isFuncT Try.prog 74 = true := by kernel_rfl
@[go_sem] theorem ty74sizeT : sizeT Try.prog 74 = some 1 := by kernel_rfl
@[go_sem] theorem ty74zeroT : zeroT Try.prog 74 = some .nilFunc := by kernel_rfl
@[go_sem] theorem ty74conc : Program.concrete Try.prog 74 = true := by kernel_rfl
@[go_sem] theorem ty75tyK : tyK Try.prog 75 = .other := by kernel_rfl
@[go_sem] theorem ty75isFuncT : isFuncT Try.prog 75 = true := by kernel_rfl
@[go_sem] theorem ty75sizeT : sizeT Try.prog 75 = some 1 := by kernel_rfl
@[go_sem] theorem ty75zeroT : zeroT Try.prog 75 = some .nilFunc := by kernel_rfl
@[go_sem] theorem ty75conc : Program.concrete Try.prog 75 = true := by kernel_rfl
@[go_sem] theorem ty76tyK : tyK Try.prog 76 = .other := by kernel_rfl
@[go_sem] theorem ty76isFuncT : isFuncT Try.prog 76 = true := by kernel_rfl
@[go_sem] theorem ty76sizeT : sizeT Try.prog 76 = some 1 := by kernel_rfl
@[go_sem] theorem ty76zeroT : zeroT Try.prog 76 = some .nilFunc := by kernel_rfl
@[go_sem] theorem ty76conc : Program.concrete Try.prog 76 = true := by kernel_rfl
@[go_sem] theorem ty77tyK : tyK Try.prog 77 = .other := by kernel_rfl
@[go_sem] theorem ty77isFuncT : isFuncT Try.prog 77 = true := by kernel_rfl
@[go_sem] theorem ty77sizeT : sizeT Try.prog 77 = some 1 := by kernel_rfl
@[go_sem] theorem ty77zeroT : zeroT Try.prog 77 = some .nilFunc := by kernel_rfl
@[go_sem] theorem ty77conc : Program.concrete Try.prog 77 = true := by kernel_rfl
@[go_sem] theorem ty78tyK : tyK Try.prog 78 = .other := by kernel_rfl
@[go_sem] theorem ty78isFuncT : isFuncT Try.prog 78 = true := by kernel_rfl
@[go_sem] theorem ty78sizeT : sizeT Try.prog 78 = some 1 := by kernel_rfl
@[go_sem] theorem ty78zeroT : zeroT Try.prog 78 = some .nilFunc := by kernel_rfl
@[go_sem] theorem ty78conc : Program.concrete Try.prog 78 = true := by kernel_rfl
@[go_sem] theorem ty79tyK : tyK Try.prog 79 = .other := by kernel_rfl
@[go_sem] theorem ty79isFuncT : isFuncT Try.prog 79 = true := by kernel_rfl
@[go_sem] theorem ty79sizeT : sizeT Try.prog 79 = some 1 := by kernel_rfl
@[go_sem] theorem ty79zeroT : zeroT Try.prog 79 = some .nilFunc := by kernel_rfl
@[go_sem] theorem ty79conc : Program.concrete Try.prog 79 = true := by kernel_rfl
@[go_sem] theorem ty80tyK : tyK Try.prog 80 = .slice false 83 := by kernel_rfl
@[go_sem] theorem ty80isSliceT : isSliceT Try.prog 80 = true := by kernel_rfl
@[go_sem] theorem ty80sliI : sliI Try.prog 80 = some 3 := by kernel_rfl
@[go_sem] theorem ty80mkI : mkI Try.prog 80 = some (83, 3, 32, (.agg #[(.int .i64 0), (.int .i64 0), (.string (ofL []))])) := by kernel_rfl
@[go_sem] theorem ty80sizeT : sizeT Try.prog 80 = some 1 := by kernel_rfl
@[go_sem] theorem ty80zeroT : zeroT Try.prog 80 = some (.slice none 0 0) := by kernel_rfl
@[go_sem] theorem ty80conc : Program.concrete Try.prog 80 = true := by kernel_rfl
@[go_sem] theorem ty81tyK : tyK Try.prog 81 = .other := by kernel_rfl
@[go_sem] theorem ty81isFuncT : isFuncT Try.prog 81 = true := by kernel_rfl
@[go_sem] theorem ty81sizeT : sizeT Try.prog 81 = some 1 := by kernel_rfl
@[go_sem] theorem ty81zeroT : zeroT Try.prog 81 = some .nilFunc := by kernel_rfl
@[go_sem] theorem ty81conc : Program.concrete Try.prog 81 = true := by kernel_rfl
@[go_sem] theorem ty82tyK : tyK Try.prog 82 = .agg 3 := by kernel_rfl
@[go_sem] theorem ty82sizeT : sizeT Try.prog 82 = some 3 := by kernel_rfl
@[go_sem] theorem ty82zeroT : zeroT Try.prog 82 = some (.agg #[(.int .i64 0), (.int .i64 0), (.string (ofL []))]) := by kernel_rfl
@[go_sem] theorem ty82conc : Program.concrete Try.prog 82 = true := by kernel_rfl
@[go_sem] theorem ty82plc : plcT Try.prog 82 = some [(0, 1), (1, 1), (2, 1)] := by kernel_rfl
@[go_sem] theorem ty82fld0 : fldI Try.prog 82 0 = some (0, 1, false) := by kernel_rfl
@[go_sem] theorem ty82fld1 : fldI Try.prog 82 1 = some (1, 1, false) := by kernel_rfl
@[go_sem] theorem ty82fld2 : fldI Try.prog 82 2 = some (2, 1, false) := by kernel_rfl
@[go_sem] theorem ty83tyK : tyK Try.prog 83 = .agg 3 := by kernel_rfl
@[go_sem] theorem ty83sizeT : sizeT Try.prog 83 = some 3 := by kernel_rfl
@[go_sem] theorem ty83zeroT : zeroT Try.prog 83 = some (.agg #[(.int .i64 0), (.int .i64 0), (.string (ofL []))]) := by kernel_rfl
@[go_sem] theorem ty83conc : Program.concrete Try.prog 83 = true := by kernel_rfl
@[go_sem] theorem ty83plc : plcT Try.prog 83 = some [(0, 1), (1, 1), (2, 1)] := by kernel_rfl
@[go_sem] theorem ty83fld0 : fldI Try.prog 83 0 = some (0, 1, false) := by kernel_rfl
@[go_sem] theorem ty83fld1 : fldI Try.prog 83 1 = some (1, 1, false) := by kernel_rfl
@[go_sem] theorem ty83fld2 : fldI Try.prog 83 2 = some (2, 1, false) := by kernel_rfl
@[go_sem] theorem ty84tyK : tyK Try.prog 84 = .other := by kernel_rfl
@[go_sem] theorem ty84isFuncT : isFuncT Try.prog 84 = true := by kernel_rfl
@[go_sem] theorem ty84sizeT : sizeT Try.prog 84 = some 1 := by kernel_rfl
@[go_sem] theorem ty84zeroT : zeroT Try.prog 84 = some .nilFunc := by kernel_rfl
@[go_sem] theorem ty84conc : Program.concrete Try.prog 84 = true := by kernel_rfl
@[go_sem] theorem ty85tyK : tyK Try.prog 85 = .other := by kernel_rfl
@[go_sem] theorem ty85isFuncT : isFuncT Try.prog 85 = true := by kernel_rfl
@[go_sem] theorem ty85sizeT : sizeT Try.prog 85 = some 1 := by kernel_rfl
@[go_sem] theorem ty85zeroT : zeroT Try.prog 85 = some .nilFunc := by kernel_rfl
@[go_sem] theorem ty85conc : Program.concrete Try.prog 85 = true := by kernel_rfl
@[go_sem] theorem ty86tyK : tyK Try.prog 86 = .other := by kernel_rfl
@[go_sem] theorem ty86isFuncT : isFuncT Try.prog 86 = true := by kernel_rfl
@[go_sem] theorem ty86sizeT : sizeT Try.prog 86 = some 1 := by kernel_rfl
@[go_sem] theorem ty86zeroT : zeroT Try.prog 86 = some .nilFunc := by kernel_rfl
@[go_sem] theorem ty86conc : Program.concrete Try.prog 86 = true := by kernel_rfl
@[go_sem] theorem ty87tyK : tyK Try.prog 87 = .agg 2 := by kernel_rfl
@[go_sem] theorem ty87sizeT : sizeT Try.prog 87 = some 2 := by kernel_rfl
@[go_sem] theorem ty87zeroT : zeroT Try.prog 87 = some (.agg #[(.int .i64 0), (.string (ofL []))]) := by kernel_rfl
@[go_sem] theorem ty87conc : Program.concrete Try.prog 87 = true := by kernel_rfl
@[go_sem] theorem ty87plc : plcT Try.prog 87 = some [(0, 1), (1, 1)] := by kernel_rfl
@[go_sem] theorem ty87fld0 : fldI Try.prog 87 0 = some (0, 1, false) := by kernel_rfl
@[go_sem] theorem ty87fld1 : fldI Try.prog 87 1 = some (1, 1, false) := by kernel_rfl
@[go_sem] theorem ty88tyK : tyK Try.prog 88 = .agg 2 := by kernel_rfl
@[go_sem] theorem ty88sizeT : sizeT Try.prog 88 = some 2 := by kernel_rfl
@[go_sem] theorem ty88zeroT : zeroT Try.prog 88 = some (.agg #[(.int .i64 0), (.string (ofL []))]) := by kernel_rfl
@[go_sem] theorem ty88conc : Program.concrete Try.prog 88 = true := by kernel_rfl
@[go_sem] theorem ty88plc : plcT Try.prog 88 = some [(0, 1), (1, 1)] := by kernel_rfl
@[go_sem] theorem ty88fld0 : fldI Try.prog 88 0 = some (0, 1, false) := by kernel_rfl
@[go_sem] theorem ty88fld1 : fldI Try.prog 88 1 = some (1, 1, false) := by kernel_rfl
@[go_sem] theorem ty89tyK : tyK Try.prog 89 = .slice true 5 := by kernel_rfl
@[go_sem] theorem ty89isSliceT : isSliceT Try.prog 89 = true := by kernel_rfl
@[go_sem] theorem ty89sliI : sliI Try.prog 89 = some 1 := by kernel_rfl
@[go_sem] theorem ty89mkI : mkI Try.prog 89 = some (5, 1, 1, (.int .u8 0)) := by kernel_rfl
@[go_sem] theorem ty89sizeT : sizeT Try.prog 89 = some 1 := by kernel_rfl
@[go_sem] theorem ty89zeroT : zeroT Try.prog 89 = some (.slice none 0 0) := by kernel_rfl
@[go_sem] theorem ty89conc : Program.concrete Try.prog 89 = true := by kernel_rfl
@[go_sem] theorem ty90tyK : tyK Try.prog 90 = .int .u64 := by kernel_rfl
@[go_sem] theorem ty90sizeT : sizeT Try.prog 90 = some 1 := by kernel_rfl
@[go_sem] theorem ty90zeroT : zeroT Try.prog 90 = some (.int .u64 0) := by kernel_rfl
@[go_sem] theorem ty90conc : Program.concrete Try.prog 90 = true := by kernel_rfl
@[go_sem] theorem ty91tyK : tyK Try.prog 91 = .other := by kernel_rfl
@[go_sem] theorem ty91isFuncT : isFuncT Try.prog 91 = true := by kernel_rfl
@[go_sem] theorem ty91sizeT : sizeT Try.prog 91 = some 1 := by kernel_rfl
@[go_sem] theorem ty91zeroT : zeroT Try.prog 91 = some .nilFunc := by kernel_rfl
@[go_sem] theorem ty91conc : Program.concrete Try.prog 91 = true := by kernel_rfl
@[go_sem] theorem ty92tyK : tyK Try.prog 92 = .other := by kernel_rfl
@[go_sem] theorem ty92isFuncT : isFuncT Try.prog 92 = true := by kernel_rfl
@[go_sem] theorem ty92sizeT : sizeT Try.prog 92 = some 1 := by kernel_rfl
@[go_sem] theorem ty92zeroT : zeroT Try.prog 92 = some .nilFunc := by kernel_rfl
@[go_sem] theorem ty92conc : Program.concrete Try.prog 92 = true := by kernel_rfl
@[go_sem] theorem ty93tyK : tyK Try.prog 93 = .other := by kernel_rfl
@[go_sem] theorem ty93isFuncT : isFuncT Try.prog 93 = true := by kernel_rfl
@[go_sem] theorem ty93sizeT : sizeT Try.prog 93 = some 1 := by kernel_rfl
@[go_sem] theorem ty93zeroT : zeroT Try.prog 93 = some .nilFunc := by kernel_rfl
@[go_sem] theorem ty93conc : Program.concrete Try.prog 93 = true := by kernel_rfl
@[go_sem] theorem ty94tyK : tyK Try.prog 94 = .agg 2 := by kernel_rfl
@[go_sem] theorem ty94sizeT : sizeT Try.prog 94 = some 2 := by kernel_rfl
@[go_sem] theorem ty94zeroT : zeroT Try.prog 94 = some (.agg #[(.int .i64 0), (.string (ofL []))]) := by kernel_rfl
@[go_sem] theorem ty94conc : Program.concrete Try.prog 94 = true := by kernel_rfl
@[go_sem] theorem ty94plc : plcT Try.prog 94 = some [(0, 1), (1, 1)] := by kernel_rfl
@[go_sem] theorem ty94fld0 : fldI Try.prog 94 0 = some (0, 1, false) := by kernel_rfl
@[go_sem] theorem ty94fld1 : fldI Try.prog 94 1 = some (1, 1, false) := by kernel_rfl
@[go_sem] theorem ty95tyK : tyK Try.prog 95 = .agg 2 := by kernel_rfl
@[go_sem] theorem ty95sizeT : sizeT Try.prog 95 = some 2 := by kernel_rfl
@[go_sem] theorem ty95zeroT : zeroT Try.prog 95 = some (.agg #[(.int .i64 0), (.string (ofL []))]) := by kernel_rfl
@[go_sem] theorem ty95conc : Program.concrete Try.prog 95 = true := by kernel_rfl
@[go_sem] theorem ty95plc : plcT Try.prog 95 = some [(0, 1), (1, 1)] := by kernel_rfl
@[go_sem] theorem ty95fld0 : fldI Try.prog 95 0 = some (0, 1, false) := by kernel_rfl
@[go_sem] theorem ty95fld1 : fldI Try.prog 95 1 = some (1, 1, false) := by kernel_rfl
@[go_sem] theorem ty96tyK : tyK Try.prog 96 = .other := by kernel_rfl
@[go_sem] theorem ty96isFuncT : isFuncT Try.prog 96 = true := by kernel_rfl
@[go_sem] theorem ty96sizeT : sizeT Try.prog 96 = some 1 := by kernel_rfl
@[go_sem] theorem ty96zeroT : zeroT Try.prog 96 = some .nilFunc := by kernel_rfl
@[go_sem] theorem ty96conc : Program.concrete Try.prog 96 = true := by kernel_rfl
@[go_sem] theorem ty97tyK : tyK Try.prog 97 = .other := by kernel_rfl
@[go_sem] theorem ty97isFuncT : isFuncT Try.prog 97 = true := by kernel_rfl
@[go_sem] theorem ty97sizeT : sizeT Try.prog 97 = some 1 := by kernel_rfl
@[go_sem] theorem ty97zeroT : zeroT Try.prog 97 = some .nilFunc := by kernel_rfl
@[go_sem] theorem ty97conc : Program.concrete Try.prog 97 = true := by kernel_rfl
@[go_sem] theorem ty98tyK : tyK Try.prog 98 = .other := by kernel_rfl
@[go_sem] theorem ty98isFuncT : isFuncT Try.prog 98 = true := by kernel_rfl
@[go_sem] theorem ty98sizeT : sizeT Try.prog 98 = some 1 := by kernel_rfl
@[go_sem] theorem ty98zeroT : zeroT Try.prog 98 = some .nilFunc := by kernel_rfl
@[go_sem] theorem ty98conc : Program.concrete Try.prog 98 = true := by kernel_rfl
@[go_sem] theorem ty99tyK : tyK Try.prog 99 = .other := by kernel_rfl
@[go_sem] theorem ty99isFuncT : isFuncT Try.prog 99 = true := by kernel_rfl
@[go_sem] theorem ty99sizeT : sizeT Try.prog 99 = some 1 := by kernel_rfl
@[go_sem] theorem ty99zeroT : zeroT Try.prog 99 = some .nilFunc := by kernel_rfl
@[go_sem] theorem ty99conc : Program.concrete Try.prog 99 = true := by kernel_rfl
@[go_sem] theorem ty100tyK : tyK Try.prog 100 = .other := by kernel_rfl
@[go_sem] theorem ty100sizeT : sizeT Try.prog 100 = some 1 := by kernel_rfl
@[go_sem] theorem ty100zeroT : zeroT Try.prog 100 = some (.tuple #[(.int .i64 0), (.int .i64 0)]) := by kernel_rfl
@[go_sem] theorem ty100conc : Program.concrete Try.prog 100 = true := by kernel_rfl
@[go_sem] theorem ty101tyK : tyK Try.prog 101 = .other := by kernel_rfl
@[go_sem] theorem ty101isFuncT : isFuncT Try.prog 101 = true := by kernel_rfl
@[go_sem] theorem ty101sizeT : sizeT Try.prog 101 = some 1 := by kernel_rfl
@[go_sem] theorem ty101zeroT : zeroT Try.prog 101 = some .nilFunc := by kernel_rfl
@[go_sem] theorem ty101conc : Program.concrete Try.prog 101 = true := by kernel_rfl
@[go_sem] theorem ty102tyK : tyK Try.prog 102 = .other := by kernel_rfl
@[go_sem] theorem ty102isFuncT : isFuncT Try.prog 102 = true := by kernel_rfl
@[go_sem] theorem ty102sizeT : sizeT Try.prog 102 = some 1 := by kernel_rfl
@[go_sem] theorem ty102zeroT : zeroT Try.prog 102 = some .nilFunc := by kernel_rfl
@[go_sem] theorem ty102conc : Program.concrete Try.prog 102 = true := by kernel_rfl
@[go_sem] theorem ty103tyK : tyK Try.prog 103 = .other := by kernel_rfl
@[go_sem] theorem ty103isFuncT : isFuncT Try.prog 103 = true := by kernel_rfl
@[go_sem] theorem ty103sizeT : sizeT Try.prog 103 = some 1 := by kernel_rfl
@[go_sem] theorem ty103zeroT : zeroT Try.prog 103 = some .nilFunc := by kernel_rfl
@[go_sem] theorem ty103conc : Program.concrete Try.prog 103 = true := by kernel_rfl
@[go_sem] theorem ty104tyK : tyK Try.prog 104 = .slice false 4 := by kernel_rfl
@[go_sem] theorem ty104isSliceT : isSliceT Try.prog 104 = true := by kernel_rfl
@[go_sem] theorem ty104sliI : sliI Try.prog 104 = some 1 := by kernel_rfl
@[go_sem] theorem ty104mkI : mkI Try.prog 104 = some (4, 1, 1, (.bool false)) := by kernel_rfl
@[go_sem] theorem ty104sizeT : sizeT Try.prog 104 = some 1 := by kernel_rfl
@[go_sem] theorem ty104zeroT : zeroT Try.prog 104 = some (.slice none 0 0) := by kernel_rfl
@[go_sem] theorem ty104conc : Program.concrete Try.prog 104 = true := by kernel_rfl
@[go_sem] theorem ty105tyK : tyK Try.prog 105 = .other := by kernel_rfl
@[go_sem] theorem ty105isFuncT : isFuncT Try.prog 105 = true := by kernel_rfl
@[go_sem] theorem ty105sizeT : sizeT Try.prog 105 = some 1 := by kernel_rfl
@[go_sem] theorem ty105zeroT : zeroT Try.prog 105 = some .nilFunc := by kernel_rfl
@[go_sem] theorem ty105conc : Program.concrete Try.prog 105 = true := by kernel_rfl
@[go_sem] theorem ty106tyK : tyK Try.prog 106 = .other := by kernel_rfl
@[go_sem] theorem ty106isFuncT : isFuncT Try.prog 106 = true := by kernel_rfl
@[go_sem] theorem ty106sizeT : sizeT Try.prog 106 = some 1 := by kernel_rfl
@[go_sem] theorem ty106zeroT : zeroT Try.prog 106 = some .nilFunc := by kernel_rfl
@[go_sem] theorem ty106conc : Program.concrete Try.prog 106 = true := by kernel_rfl
@[go_sem] theorem ty107tyK : tyK Try.prog 107 = .other := by kernel_rfl
@[go_sem] theorem ty107isFuncT : isFuncT Try.prog 107 = true := by kernel_rfl
@[go_sem] theorem ty107sizeT : sizeT Try.prog 107 = some 1 := by kernel_rfl
@[go_sem] theorem ty107zeroT : zeroT Try.prog 107 = some .nilFunc := by kernel_rfl
@[go_sem] theorem ty107conc : Program.concrete Try.prog 107 = true := by kernel_rfl
@[go_sem] theorem ty108tyK : tyK Try.prog 108 = .other := by kernel_rfl
@[go_sem] theorem ty108isFuncT : isFuncT Try.prog 108 = true := by kernel_rfl
@[go_sem] theorem ty108sizeT : sizeT Try.prog 108 = some 1 := by kernel_rfl
@[go_sem] theorem ty108zeroT : zeroT Try.prog 108 = some .nilFunc := by kernel_rfl
@[go_sem] theorem ty108conc : Program.concrete Try.prog 108 = true := by kernel_rfl
@[go_sem] theorem ty109tyK : tyK Try.prog 109 = .other := by kernel_rfl
@[go_sem] theorem ty109isFuncT : isFuncT Try.prog 109 = true := by kernel_rfl
@[go_sem] theorem ty109sizeT : sizeT Try.prog 109 = some 1 := by kernel_rfl
@[go_sem] theorem ty109zeroT : zeroT Try.prog 109 = some .nilFunc := by kernel_rfl
@[go_sem] theorem ty109conc : Program.concrete Try.prog 109 = true := by kernel_rfl
@[go_sem] theorem ty110tyK : tyK Try.prog 110 = .other := by kernel_rfl
@[go_sem] theorem ty110isFuncT : isFuncT Try.prog 110 = true := by kernel_rfl
@[go_sem] theorem ty110sizeT : sizeT Try.prog 110 = some 1 := by kernel_rfl
@[go_sem] theorem ty110zeroT : zeroT Try.prog 110 = some .nilFunc := by kernel_rfl
@[go_sem] theorem ty110conc : Program.concrete Try.prog 110 = true := by kernel_rfl
@[go_sem] theorem ty111tyK : tyK Try.prog 111 = .other := by kernel_rfl
@[go_sem] theorem ty111isFuncT : isFuncT Try.prog 111 = true := by kernel_rfl
@[go_sem] theorem ty111sizeT : sizeT Try.prog 111 = some 1 := by kernel_rfl
@[go_sem] theorem ty111zeroT : zeroT Try.prog 111 = some .nilFunc := by kernel_rfl
@[go_sem] theorem ty111conc : Program.concrete Try.prog 111 = true := by kernel_rfl
@[go_sem] theorem ty112tyK : tyK Try.prog 112 = .agg 4 := by kernel_rfl
@[go_sem] theorem ty112sizeT : sizeT Try.prog 112 = some 4 := by kernel_rfl
@[go_sem] theorem ty112zeroT : zeroT Try.prog 112 = some (.agg #[(.pointer none), (.pointer none), (.pointer none), (.string (ofL []))]) := by kernel_rfl
@[go_sem] theorem ty112conc : Program.concrete Try.prog 112 = true := by kernel_rfl
@[go_sem] theorem ty112plc : plcT Try.prog 112 = some [(0, 1), (1, 1), (2, 1), (3, 1)] := by kernel_rfl
@[go_sem] theorem ty112fld0 : fldI Try.prog 112 0 = some (0, 1, false) := by kernel_rfl
@[go_sem] theorem ty112fld1 : fldI Try.prog 112 1 = some (1, 1, false) := by kernel_rfl
@[go_sem] theorem ty112fld2 : fldI Try.prog 112 2 = some (2, 1, false) := by kernel_rfl
@[go_sem] theorem ty112fld3 : fldI Try.prog 112 3 = some (3, 1, false) := by kernel_rfl
@[go_sem] theorem ty113tyK : tyK Try.prog 113 = .agg 4 := by kernel_rfl
@[go_sem] theorem ty113sizeT : sizeT Try.prog 113 = some 4 := by kernel_rfl
@[go_sem] theorem ty113zeroT : zeroT Try.prog 113 = some (.agg #[(.pointer none), (.pointer none), (.pointer none), (.string (ofL []))]) := by kernel_rfl
@[go_sem] theorem ty113conc : Program.concrete Try.prog 113 = true := by kernel_rfl
@[go_sem] theorem ty113plc : plcT Try.prog 113 = some [(0, 1), (1, 1), (2, 1), (3, 1)] := by kernel_rfl
@[go_sem] theorem ty113fld0 : fldI Try.prog 113 0 = some (0, 1, false) := by kernel_rfl
@[go_sem] theorem ty113fld1 : fldI Try.prog 113 1 = some (1, 1, false) := by kernel_rfl
@[go_sem] theorem ty113fld2 : fldI Try.prog 113 2 = some (2, 1, false) := by kernel_rfl
@[go_sem] theorem ty113fld3 : fldI Try.prog 113 3 = some (3, 1, false) := by kernel_rfl
@[go_sem] theorem ty114tyK : tyK Try.prog 114 = .agg 0 := by kernel_rfl
@[go_sem] theorem ty114arrI : arrI Try.prog 114 = some (0, 1, false) := by kernel_rfl
@[go_sem] theorem ty114sizeT : sizeT Try.prog 114 = some 0 := by kernel_rfl
@[go_sem] theorem ty114zeroT : zeroT Try.prog 114 = some (.agg #[]) := by kernel_rfl
@[go_sem] theorem ty114conc : Program.concrete Try.prog 114 = true := by kernel_rfl
@[go_sem] theorem ty115tyK : tyK Try.prog 115 = .agg 0 := by kernel_rfl
@[go_sem] theorem ty115sizeT : sizeT Try.prog 115 = some 0 := by kernel_rfl
@[go_sem] theorem ty115zeroT : zeroT Try.prog 115 = some (.agg #[]) := by kernel_rfl
@[go_sem] theorem ty115conc : Program.concrete Try.prog 115 = true := by kernel_rfl
@[go_sem] theorem ty115plc : plcT Try.prog 115 = some [(0, 0)] := by kernel_rfl
@[go_sem] theorem ty115fld0 : fldI Try.prog 115 0 = some (0, 0, true) := by kernel_rfl
@[go_sem] theorem ty116tyK : tyK Try.prog 116 = .agg 0 := by kernel_rfl
@[go_sem] theorem ty116sizeT : sizeT Try.prog 116 = some 0 := by kernel_rfl
@[go_sem] theorem ty116zeroT : zeroT Try.prog 116 = some (.agg #[]) := by kernel_rfl
@[go_sem] theorem ty116conc : Program.concrete Try.prog 116 = true := by kernel_rfl
@[go_sem] theorem ty116plc : plcT Try.prog 116 = some [(0, 0)] := by kernel_rfl
@[go_sem] theorem ty116fld0 : fldI Try.prog 116 0 = some (0, 0, true) := by kernel_rfl
@[go_sem] theorem ty117tyK : tyK Try.prog 117 = .int .u32 := by kernel_rfl
@[go_sem] theorem ty117sizeT : sizeT Try.prog 117 = some 1 := by kernel_rfl
@[go_sem] theorem ty117zeroT : zeroT Try.prog 117 = some (.int .u32 0) := by kernel_rfl
@[go_sem] theorem ty117conc : Program.concrete Try.prog 117 = true := by kernel_rfl
@[go_sem] theorem ty118tyK : tyK Try.prog 118 = .int .u8 := by kernel_rfl
@[go_sem] theorem ty118sizeT : sizeT Try.prog 118 = some 1 := by kernel_rfl
@[go_sem] theorem ty118zeroT : zeroT Try.prog 118 = some (.int .u8 0) := by kernel_rfl
@[go_sem] theorem ty118conc : Program.concrete Try.prog 118 = true := by kernel_rfl
@[go_sem] theorem ty119tyK : tyK Try.prog 119 = .int .u8 := by kernel_rfl
@[go_sem] theorem ty119sizeT : sizeT Try.prog 119 = some 1 := by kernel_rfl
@[go_sem] theorem ty119zeroT : zeroT Try.prog 119 = some (.int .u8 0) := by kernel_rfl
@[go_sem] theorem ty119conc : Program.concrete Try.prog 119 = true := by kernel_rfl
@[go_sem] theorem ty120tyK : tyK Try.prog 120 = .other := by kernel_rfl
@[go_sem] theorem ty120isFuncT : isFuncT Try.prog 120 = true := by kernel_rfl
@[go_sem] theorem ty120sizeT : sizeT Try.prog 120 = some 1 := by kernel_rfl
@[go_sem] theorem ty120zeroT : zeroT Try.prog 120 = some .nilFunc := by kernel_rfl
@[go_sem] theorem ty120conc : Program.concrete Try.prog 120 = true := by kernel_rfl
@[go_sem] theorem ty121tyK : tyK Try.prog 121 = .ptr := by kernel_rfl
@[go_sem] theorem ty121isPtrT : isPtrT Try.prog 121 = true := by kernel_rfl
@[go_sem] theorem ty121sizeT : sizeT Try.prog 121 = some 1 := by kernel_rfl
@[go_sem] theorem ty121zeroT : zeroT Try.prog 121 = some (.pointer none) := by kernel_rfl
@[go_sem] theorem ty121conc : Program.concrete Try.prog 121 = true := by kernel_rfl
@[go_sem] theorem ty122tyK : tyK Try.prog 122 = .int .i32 := by kernel_rfl
@[go_sem] theorem ty122sizeT : sizeT Try.prog 122 = some 1 := by kernel_rfl
@[go_sem] theorem ty122zeroT : zeroT Try.prog 122 = some (.int .i32 0) := by kernel_rfl
@[go_sem] theorem ty122conc : Program.concrete Try.prog 122 = true := by kernel_rfl
@[go_sem] theorem ty123tyK : tyK Try.prog 123 = .int .i32 := by kernel_rfl
@[go_sem] theorem ty123sizeT : sizeT Try.prog 123 = some 1 := by kernel_rfl
@[go_sem] theorem ty123zeroT : zeroT Try.prog 123 = some (.int .i32 0) := by kernel_rfl
@[go_sem] theorem ty123conc : Program.concrete Try.prog 123 = true := by kernel_rfl
@[go_sem] theorem ty124tyK : tyK Try.prog 124 = .agg 11 := by kernel_rfl
@[go_sem] theorem ty124sizeT : sizeT Try.prog 124 = some 11 := by kernel_rfl
@[go_sem] theorem ty124zeroT : zeroT Try.prog 124 = some (.agg #[(.int .u64 0), (.int .u64 0), (.int .u32 0), (.int .u8 0), (.int .u8 0), (.int .u8 0), (.int .u8 0), .nilFunc, (.pointer none), (.int .i32 0), (.int .i32 0)]) := by kernel_rfl
@[go_sem] theorem ty124conc : Program.concrete Try.prog 124 = true := by kernel_rfl
@[go_sem] theorem ty124plc : plcT Try.prog 124 = some [(0, 1), (1, 1), (2, 1), (3, 1), (4, 1), (5, 1), (6, 1), (7, 1), (8, 1), (9, 1), (10, 1)] := by kernel_rfl
@[go_sem] theorem ty124fld0 : fldI Try.prog 124 0 = some (0, 1, false) := by kernel_rfl
@[go_sem] theorem ty124fld1 : fldI Try.prog 124 1 = some (1, 1, false) := by kernel_rfl
@[go_sem] theorem ty124fld2 : fldI Try.prog 124 2 = some (2, 1, false) := by kernel_rfl
@[go_sem] theorem ty124fld3 : fldI Try.prog 124 3 = some (3, 1, false) := by kernel_rfl
@[go_sem] theorem ty124fld4 : fldI Try.prog 124 4 = some (4, 1, false) := by kernel_rfl
@[go_sem] theorem ty124fld5 : fldI Try.prog 124 5 = some (5, 1, false) := by kernel_rfl
@[go_sem] theorem ty124fld6 : fldI Try.prog 124 6 = some (6, 1, false) := by kernel_rfl
@[go_sem] theorem ty124fld7 : fldI Try.prog 124 7 = some (7, 1, false) := by kernel_rfl
@[go_sem] theorem ty124fld8 : fldI Try.prog 124 8 = some (8, 1, false) := by kernel_rfl
@[go_sem] theorem ty124fld9 : fldI Try.prog 124 9 = some (9, 1, false) := by kernel_rfl
@[go_sem] theorem ty124fld10 : fldI Try.prog 124 10 = some (10, 1, false) := by kernel_rfl
@[go_sem] theorem ty125tyK : tyK Try.prog 125 = .agg 11 := by kernel_rfl
@[go_sem] theorem ty125sizeT : sizeT Try.prog 125 = some 11 := by kernel_rfl
@[go_sem] theorem ty125zeroT : zeroT Try.prog 125 = some (.agg #[(.int .u64 0), (.int .u64 0), (.int .u32 0), (.int .u8 0), (.int .u8 0), (.int .u8 0), (.int .u8 0), .nilFunc, (.pointer none), (.int .i32 0), (.int .i32 0)]) := by kernel_rfl
@[go_sem] theorem ty125conc : Program.concrete Try.prog 125 = true := by kernel_rfl
@[go_sem] theorem ty125plc : plcT Try.prog 125 = some [(0, 1), (1, 1), (2, 1), (3, 1), (4, 1), (5, 1), (6, 1), (7, 1), (8, 1), (9, 1), (10, 1)] := by kernel_rfl
@[go_sem] theorem ty125fld0 : fldI Try.prog 125 0 = some (0, 1, false) := by kernel_rfl
@[go_sem] theorem ty125fld1 : fldI Try.prog 125 1 = some (1, 1, false) := by kernel_rfl
@[go_sem] theorem ty125fld2 : fldI Try.prog 125 2 = some (2, 1, false) := by kernel_rfl
@[go_sem] theorem ty125fld3 : fldI Try.prog 125 3 = some (3, 1, false) := by kernel_rfl
@[go_sem] theorem ty125fld4 : fldI Try.prog 125 4 = some (4, 1, false) := by kernel_rfl
@[go_sem] theorem ty125fld5 : fldI Try.prog 125 5 = some (5, 1, false) := by kernel_rfl
@[go_sem] theorem ty125fld6 : fldI Try.prog 125 6 = some (6, 1, false) := by kernel_rfl
@[go_sem] theorem ty125fld7 : fldI Try.prog 125 7 = some (7, 1, false) := by kernel_rfl
@[go_sem] theorem ty125fld8 : fldI Try.prog 125 8 = some (8, 1, false) := by kernel_rfl
@[go_sem] theorem ty125fld9 : fldI Try.prog 125 9 = some (9, 1, false) := by kernel_rfl
@[go_sem] theorem ty125fld10 : fldI Try.prog 125 10 = some (10, 1, false) := by kernel_rfl
@[go_sem] theorem ty126tyK : tyK Try.prog 126 = .other := by kernel_rfl
@[go_sem] theorem ty126sizeT : sizeT Try.prog 126 = some 1 := by kernel_rfl
@[go_sem] theorem ty126zeroT : zeroT Try.prog 126 = some (.pointer none) := by kernel_rfl
@[go_sem] theorem ty126conc : Program.concrete Try.prog 126 = true := by kernel_rfl
/- Function 3: annalistlaw02.BlockLast -/
noncomputable def c3code : Code := match Try.f3.body with | some c => c | none => .skip
noncomputable def c3S0 (_ : Unit) : Cmd := (.cond (.tmp 50)
  (.seq (.ops [
  ⟨some 2, .assign (.const (.bool false)), 4, none⟩] [2])
  .ret)
  (.skip [0, 3, 4, 5, 6, 7]))
noncomputable def c3S1 (_ : Unit) : Cmd := (.cond (.tmp 64)
  (.seq (.ops [
  ⟨some 2, .assign (.const (.bool false)), 4, none⟩] [2])
  .ret)
  (.skip [0, 3, 4, 5]))
noncomputable def c3S2 (_ : Unit) : Cmd := (.seq (.ops [
 ⟨some 57, .fieldAddr 28 (.tmp 6) 0, 0, none⟩,
 ⟨some 58, .load 3 (.tmp 57), 3, none⟩,
 ⟨some 59, .binOp .eql 3 (.tmp 58) (.const (.int .i64 1)) 3, 4, none⟩,
 ⟨some 60, .move (.tmp 59), 4, none⟩,
 ⟨some 61, .move (.tmp 3), 23, (some (60, true))⟩,
 ⟨some 62, .call ⟨.value (.func 15), #[(.tmp 61)], #[23]⟩, 29, (some (60, true))⟩,
 ⟨some 63, .binOp .neq 29 (.tmp 62) (.const (.int .i64 0)) 29, 4, (some (60, true))⟩,
 ⟨some 64, .pick (.tmp 60) (.tmp 63) (.const (.bool false)), 4, none⟩] [0, 3, 4, 5, 64]) (sg c3S1))
noncomputable def c3S3 (_ : Unit) : Cmd := (.seq (.seq (.ops [
 ⟨some 51, .move (.tmp 7), 4, none⟩] [0, 3, 4, 5, 6, 51])
 (.cond (.tmp 51)
  (.ops [
  ⟨some 52, .fieldAddr 28 (.tmp 6) 1, 0, none⟩,
  ⟨some 53, .load 3 (.tmp 52), 3, none⟩,
  ⟨some 54, .fieldAddr 28 (.tmp 6) 2, 0, none⟩,
  ⟨some 55, .load 9 (.tmp 54), 9, none⟩,
  ⟨some 56, .indexAddr 25 (.tmp 4) (.tmp 53), 0, none⟩,
  ⟨none, .store 9 (.tmp 56) (.tmp 55), 0, none⟩] [0, 3, 4, 5, 6])
  (.skip [0, 3, 4, 5, 6]))) (sg c3S2))
noncomputable def c3S4 (_ : Unit) : Cmd := (.ops [
 ⟨some 22, .move (.tmp 5), 3, none⟩,
 ⟨some 23, .binOp .add 3 (.tmp 22) (.const (.int .i64 1)) 3, 3, none⟩,
 ⟨some 5, .assign (.tmp 23), 3, none⟩] [0, 3, 4, 5])
noncomputable def c3S5 (_ : Unit) : Cmd := (.seq (.block 1 (.seq (.ops [
 ⟨some 24, .move (.tmp 0), 22, none⟩,
 ⟨some 25, .move (.tmp 5), 3, none⟩,
 ⟨some 26, .indexAddr 22 (.tmp 24) (.tmp 25), 0, none⟩,
 ⟨some 27, .load 28 (.tmp 26), 28, none⟩,
 ⟨some 6, .alloc 28, 0, none⟩,
 ⟨none, .store 28 (.tmp 6) (.tmp 27), 0, none⟩] [0, 3, 4, 5, 6])
 (.seq (.ops [
 ⟨some 28, .fieldAddr 28 (.tmp 6) 1, 0, none⟩,
 ⟨some 29, .load 3 (.tmp 28), 3, none⟩,
 ⟨some 30, .binOp .geq 3 (.tmp 29) (.const (.int .i64 0)) 3, 4, none⟩,
 ⟨some 31, .move (.tmp 30), 4, none⟩,
 ⟨some 32, .fieldAddr 28 (.tmp 6) 1, 0, (some (31, true))⟩,
 ⟨some 33, .load 3 (.tmp 32), 3, (some (31, true))⟩,
 ⟨some 34, .binOp .lss 3 (.tmp 33) (.const (.int .i64 6)) 3, 4, (some (31, true))⟩,
 ⟨some 35, .pick (.tmp 31) (.tmp 34) (.const (.bool false)), 4, none⟩,
 ⟨some 36, .move (.tmp 35), 4, none⟩,
 ⟨some 37, .fieldAddr 28 (.tmp 6) 2, 0, (some (36, true))⟩,
 ⟨some 38, .load 9 (.tmp 37), 9, (some (36, true))⟩,
 ⟨some 39, .call ⟨.builtin .len, #[(.tmp 38)], #[9]⟩, 3, (some (36, true))⟩,
 ⟨some 40, .binOp .leq 3 (.tmp 39) (.const (.int .i64 256)) 3, 4, (some (36, true))⟩,
 ⟨some 41, .pick (.tmp 36) (.tmp 40) (.const (.bool false)), 4, none⟩,
 ⟨some 7, .assign (.tmp 41), 4, none⟩] [0, 3, 4, 5, 6, 7])
 (.seq (.seq (.ops [
 ⟨some 42, .move (.tmp 3), 23, none⟩,
 ⟨some 43, .fieldAddr 28 (.tmp 6) 1, 0, none⟩,
 ⟨some 44, .load 3 (.tmp 43), 3, none⟩,
 ⟨some 45, .fieldAddr 28 (.tmp 6) 2, 0, none⟩,
 ⟨some 46, .load 9 (.tmp 45), 9, none⟩,
 ⟨some 47, .call ⟨.value (.func 14), #[(.tmp 42), (.tmp 44), (.tmp 46)], #[23, 3, 9]⟩, 29, none⟩,
 ⟨some 48, .binOp .eql 29 (.tmp 47) (.const (.int .i64 0)) 29, 4, none⟩,
 ⟨some 49, .move (.tmp 7), 4, none⟩,
 ⟨some 50, .binOp .neq 4 (.tmp 48) (.tmp 49) 4, 4, none⟩] [0, 3, 4, 5, 6, 7, 50]) (sg c3S0)) (sg c3S3))))) (sg c3S4))
noncomputable def c3L0 (_ : Unit) : Cmd := (.seq (.seq (.ops [
 ⟨some 14, .move (.tmp 5), 3, none⟩,
 ⟨some 15, .move (.tmp 0), 22, none⟩,
 ⟨some 16, .call ⟨.builtin .len, #[(.tmp 15)], #[22]⟩, 3, none⟩,
 ⟨some 17, .binOp .lss 3 (.tmp 14) (.tmp 16) 3, 4, none⟩,
 ⟨some 18, .move (.tmp 17), 4, none⟩,
 ⟨some 19, .move (.tmp 5), 3, (some (18, true))⟩,
 ⟨some 20, .binOp .lss 3 (.tmp 19) (.const (.int .i64 200)) 3, 4, (some (18, true))⟩,
 ⟨some 21, .pick (.tmp 18) (.tmp 20) (.const (.bool false)), 4, none⟩] [0, 3, 4, 5, 21])
 (.cond (.tmp 21)
  (.skip [0, 3, 4, 5])
  (.exit 0 [3, 4]))) (sg c3S5))
noncomputable def c3S6 (_ : Unit) : Cmd := (.cond (.tmp 84)
  (.seq (.ops [
  ⟨some 2, .assign (.const (.bool false)), 4, none⟩] [2])
  .ret)
  (.skip [3, 4, 8]))
noncomputable def c3S7 (_ : Unit) : Cmd := (.seq (.ops [
 ⟨some 75, .move (.tmp 10), 29, none⟩,
 ⟨some 76, .binOp .neq 29 (.tmp 75) (.const (.int .i64 0)) 29, 4, none⟩,
 ⟨some 77, .move (.tmp 76), 4, none⟩,
 ⟨some 78, .move (.tmp 9), 9, (some (77, false))⟩,
 ⟨some 79, .move (.tmp 8), 3, (some (77, false))⟩,
 ⟨some 80, .indexAddr 25 (.tmp 4) (.tmp 79), 0, (some (77, false))⟩,
 ⟨some 81, .load 9 (.tmp 80), 9, (some (77, false))⟩,
 ⟨some 82, .call ⟨.value (.func 17), #[(.tmp 81)], #[9]⟩, 9, (some (77, false))⟩,
 ⟨some 83, .binOp .neq 9 (.tmp 78) (.tmp 82) 9, 4, (some (77, false))⟩,
 ⟨some 84, .pick (.tmp 77) (.const (.bool true)) (.tmp 83), 4, none⟩] [3, 4, 8, 84]) (sg c3S6))
noncomputable def c3S8 (_ : Unit) : Cmd := (.ops [
 ⟨some 67, .move (.tmp 8), 3, none⟩,
 ⟨some 68, .binOp .add 3 (.tmp 67) (.const (.int .i64 1)) 3, 3, none⟩,
 ⟨some 8, .assign (.tmp 68), 3, none⟩] [3, 4, 8])
noncomputable def c3S9 (_ : Unit) : Cmd := (.seq (.block 3 (.seq (.ops [
 ⟨some 70, .move (.tmp 3), 23, none⟩,
 ⟨some 71, .move (.tmp 8), 3, none⟩,
 ⟨some 72, .call ⟨.value (.func 16), #[(.tmp 70), (.tmp 71)], #[23, 3]⟩, 32, none⟩,
 ⟨some 69, .move (.tmp 72), 32, none⟩,
 ⟨some 73, .extract (.tmp 69) 0, 9, none⟩,
 ⟨some 74, .extract (.tmp 69) 1, 29, none⟩,
 ⟨some 9, .assign (.tmp 73), 9, none⟩,
 ⟨some 10, .assign (.tmp 74), 29, none⟩] [3, 4, 8, 9, 10]) (sg c3S7))) (sg c3S8))
noncomputable def c3L1 (_ : Unit) : Cmd := (.seq (.seq (.ops [
 ⟨some 65, .move (.tmp 8), 3, none⟩,
 ⟨some 66, .binOp .lss 3 (.tmp 65) (.const (.int .i64 6)) 3, 4, none⟩] [3, 4, 8, 66])
 (.cond (.tmp 66)
  (.skip [3, 4, 8])
  (.exit 2 []))) (sg c3S9))
noncomputable def c3S10 (_ : Unit) : Cmd := .ret
noncomputable def c3S11 (_ : Unit) : Cmd := (.seq (.ops [
 ⟨some 85, .call ⟨.value (.func 18), #[], #[]⟩, 4, none⟩,
 ⟨some 2, .assign (.tmp 85), 4, none⟩] [2]) (sg c3S10))
noncomputable def c3S12 (_ : Unit) : Cmd := (.seq (.seq (.ops [
 ⟨some 8, .assign (.const (.int .i64 0)), 3, none⟩] [3, 4, 8])
 (.block 2 (.loop (sg c3L1)))) (sg c3S11))
noncomputable def c3S13 (_ : Unit) : Cmd := (.seq (.ops [
 ⟨some 4, .alloc 25, 0, none⟩] [0, 3, 4])
 (.seq (.seq (.ops [
 ⟨some 5, .assign (.const (.int .i64 0)), 3, none⟩] [0, 3, 4, 5])
 (.block 0 (.loop (sg c3L0)))) (sg c3S12)))
noncomputable def c3S14 (_ : Unit) : Cmd := (.seq (.seq (.ops [
 ⟨some 12, .move (.tmp 3), 23, none⟩,
 ⟨some 13, .binOp .eql 23 (.tmp 12) (.const (.pointer none)) 23, 4, none⟩] [0, 3, 13])
 (.cond (.tmp 13)
  (.seq (.ops [
  ⟨some 2, .assign (.const (.bool false)), 4, none⟩] [2])
  .ret)
  (.skip [0, 3]))) (sg c3S13))
noncomputable def c3 : Cmd := (.seq (.ops [
 ⟨some 2, .assign (.const (.bool false)), 4, none⟩] [0])
 (.seq (.ops [
 ⟨some 11, .call ⟨.value (.func 13), #[], #[]⟩, 23, none⟩,
 ⟨some 3, .assign (.tmp 11), 23, none⟩] [0, 3]) (sg c3S14)))
set_option maxRecDepth 100000 in
theorem ent3 (a0 : Value) (w : World) (K : Value → World → Prop) (h : W Try.prog c3 [(0, a0)] w (finQ Try.prog [.tmp 2] K)) : Ret Try.prog 3 [a0] w K :=
  Ret_of_W (code := c3code) Try.func3 (by kernel_rfl) (by kernel_rfl) (of_decide_eq_true (by kernel_rfl)) h
--SIMP 3 c3 c3S0 c3S1 c3S2 c3S3 c3S4 c3S5 c3L0 c3S6 c3S7 c3S8 c3S9 c3L1 c3S10 c3S11 c3S12 c3S13 c3S14 TYS 3 4 9 22 23 25 28 29 FNS 13 14 15 16 17 18
@[go_sem] theorem go3 : goFunc Try.prog 3 = true := by kernel_rfl
/- Function 4: annalistlaw02.BlockStays -/
noncomputable def c4code : Code := match Try.f4.body with | some c => c | none => .skip
noncomputable def c4S0 (_ : Unit) : Cmd := (.ops [
 ⟨some 35, .move (.tmp 10), 3, none⟩,
 ⟨some 36, .binOp .add 3 (.tmp 35) (.const (.int .i64 1)) 3, 3, none⟩,
 ⟨some 10, .assign (.tmp 36), 3, none⟩] [0, 1, 6, 7, 9, 10])
noncomputable def c4S1 (_ : Unit) : Cmd := (.seq (.block 1 (.draw (drawOps 0 c4code) [0, 1, 6, 7, 9, 10])) (sg c4S0))
noncomputable def c4L0 (_ : Unit) : Cmd := (.seq (.seq (.ops [
 ⟨some 27, .move (.tmp 10), 3, none⟩,
 ⟨some 28, .move (.tmp 0), 22, none⟩,
 ⟨some 29, .call ⟨.builtin .len, #[(.tmp 28)], #[22]⟩, 3, none⟩,
 ⟨some 30, .binOp .lss 3 (.tmp 27) (.tmp 29) 3, 4, none⟩,
 ⟨some 31, .move (.tmp 30), 4, none⟩,
 ⟨some 32, .move (.tmp 10), 3, (some (31, true))⟩,
 ⟨some 33, .binOp .lss 3 (.tmp 32) (.const (.int .i64 60)) 3, 4, (some (31, true))⟩,
 ⟨some 34, .pick (.tmp 31) (.tmp 33) (.const (.bool false)), 4, none⟩] [0, 1, 6, 7, 9, 10, 34])
 (.cond (.tmp 34)
  (.skip [0, 1, 6, 7, 9, 10])
  (.exit 0 [1, 6, 7, 9]))) (sg c4S1))
noncomputable def c4S2 (_ : Unit) : Cmd := (.cond (.tmp 51)
  (.seq (.ops [
  ⟨some 8, .assign (.const (.bool false)), 4, none⟩] [8])
  .ret)
  (.skip [1, 6, 7, 9]))
noncomputable def c4S3 (_ : Unit) : Cmd := (.ops [
 ⟨some 62, .move (.tmp 12), 3, none⟩,
 ⟨some 63, .move (.tmp 13), 9, none⟩,
 ⟨some 64, .indexAddr 25 (.tmp 11) (.tmp 62), 0, none⟩,
 ⟨none, .store 9 (.tmp 64) (.tmp 63), 0, none⟩] [1, 6, 7, 9, 11, 12])
noncomputable def c4S4 (_ : Unit) : Cmd := (.ops [
 ⟨some 54, .move (.tmp 12), 3, none⟩,
 ⟨some 55, .binOp .add 3 (.tmp 54) (.const (.int .i64 1)) 3, 3, none⟩,
 ⟨some 12, .assign (.tmp 55), 3, none⟩] [1, 6, 7, 9, 11, 12])
noncomputable def c4S5 (_ : Unit) : Cmd := (.seq (.block 3 (.seq (.ops [
 ⟨some 57, .move (.tmp 9), 23, none⟩,
 ⟨some 58, .move (.tmp 12), 3, none⟩,
 ⟨some 59, .call ⟨.value (.func 16), #[(.tmp 57), (.tmp 58)], #[23, 3]⟩, 32, none⟩,
 ⟨some 56, .move (.tmp 59), 32, none⟩,
 ⟨some 60, .extract (.tmp 56) 0, 9, none⟩,
 ⟨some 61, .extract (.tmp 56) 1, 29, none⟩,
 ⟨some 13, .assign (.tmp 60), 9, none⟩,
 ⟨some 14, .assign (.tmp 61), 29, none⟩] [1, 6, 7, 9, 11, 12, 13]) (sg c4S3))) (sg c4S4))
noncomputable def c4L1 (_ : Unit) : Cmd := (.seq (.seq (.ops [
 ⟨some 52, .move (.tmp 12), 3, none⟩,
 ⟨some 53, .binOp .lss 3 (.tmp 52) (.const (.int .i64 6)) 3, 4, none⟩] [1, 6, 7, 9, 11, 12, 53])
 (.cond (.tmp 53)
  (.skip [1, 6, 7, 9, 11, 12])
  (.exit 2 [1, 6, 7, 9, 11]))) (sg c4S5))
noncomputable def c4S6 (_ : Unit) : Cmd := (.cond (.tmp 87)
  (.ops [
  ⟨some 88, .move (.tmp 1), 22, none⟩,
  ⟨some 89, .move (.tmp 16), 3, none⟩,
  ⟨some 90, .indexAddr 22 (.tmp 88) (.tmp 89), 0, none⟩,
  ⟨some 91, .fieldAddr 28 (.tmp 90) 1, 0, none⟩,
  ⟨some 92, .load 3 (.tmp 91), 3, none⟩,
  ⟨some 93, .indexAddr 37 (.tmp 15) (.tmp 92), 0, none⟩,
  ⟨none, .store 4 (.tmp 93) (.const (.bool true)), 0, none⟩] [1, 6, 7, 9, 11, 15, 16])
  (.skip [1, 6, 7, 9, 11, 15, 16]))
noncomputable def c4S7 (_ : Unit) : Cmd := (.ops [
 ⟨some 73, .move (.tmp 16), 3, none⟩,
 ⟨some 74, .binOp .add 3 (.tmp 73) (.const (.int .i64 1)) 3, 3, none⟩,
 ⟨some 16, .assign (.tmp 74), 3, none⟩] [1, 6, 7, 9, 11, 15, 16])
noncomputable def c4S8 (_ : Unit) : Cmd := (.seq (.block 5 (.seq (.draw (drawOps 1 c4code) [1, 6, 7, 9, 11, 15, 16, 87]) (sg c4S6))) (sg c4S7))
noncomputable def c4L2 (_ : Unit) : Cmd := (.seq (.seq (.ops [
 ⟨some 65, .move (.tmp 16), 3, none⟩,
 ⟨some 66, .move (.tmp 1), 22, none⟩,
 ⟨some 67, .call ⟨.builtin .len, #[(.tmp 66)], #[22]⟩, 3, none⟩,
 ⟨some 68, .binOp .lss 3 (.tmp 65) (.tmp 67) 3, 4, none⟩,
 ⟨some 69, .move (.tmp 68), 4, none⟩,
 ⟨some 70, .move (.tmp 16), 3, (some (69, true))⟩,
 ⟨some 71, .binOp .lss 3 (.tmp 70) (.const (.int .i64 60)) 3, 4, (some (69, true))⟩,
 ⟨some 72, .pick (.tmp 69) (.tmp 71) (.const (.bool false)), 4, none⟩] [1, 6, 7, 9, 11, 15, 16, 72])
 (.cond (.tmp 72)
  (.skip [1, 6, 7, 9, 11, 15, 16])
  (.exit 4 [6, 7, 9, 11, 15]))) (sg c4S8))
noncomputable def c4S9 (_ : Unit) : Cmd := (.seq (.ops [
 ⟨some 112, .move (.tmp 18), 3, none⟩,
 ⟨some 113, .move (.tmp 19), 9, none⟩,
 ⟨some 114, .indexAddr 25 (.tmp 17) (.tmp 112), 0, none⟩,
 ⟨none, .store 9 (.tmp 114) (.tmp 113), 0, none⟩] [7, 9, 11, 15, 17, 18, 19, 20])
 (.seq (.ops [
 ⟨some 115, .move (.tmp 20), 29, none⟩,
 ⟨some 116, .binOp .neq 29 (.tmp 115) (.const (.int .i64 0)) 29, 4, none⟩,
 ⟨some 117, .move (.tmp 116), 4, none⟩,
 ⟨some 118, .move (.tmp 19), 9, (some (117, false))⟩,
 ⟨some 119, .call ⟨.builtin .len, #[(.tmp 118)], #[9]⟩, 3, (some (117, false))⟩,
 ⟨some 120, .binOp .neq 3 (.tmp 119) (.const (.int .i64 256)) 3, 4, (some (117, false))⟩,
 ⟨some 121, .pick (.tmp 117) (.const (.bool true)) (.tmp 120), 4, none⟩,
 ⟨some 122, .move (.tmp 121), 4, none⟩,
 ⟨some 123, .move (.tmp 18), 3, (some (122, false))⟩,
 ⟨some 124, .indexAddr 37 (.tmp 15) (.tmp 123), 0, (some (122, false))⟩,
 ⟨some 125, .load 4 (.tmp 124), 4, (some (122, false))⟩,
 ⟨some 126, .unOp .not 4 (.tmp 125), 4, (some (122, false))⟩,
 ⟨some 127, .move (.tmp 126), 4, (some (122, false))⟩,
 ⟨some 128, .move (.tmp 19), 9, (some (127, true))⟩,
 ⟨some 129, .move (.tmp 18), 3, (some (127, true))⟩,
 ⟨some 130, .indexAddr 25 (.tmp 11) (.tmp 129), 0, (some (127, true))⟩,
 ⟨some 131, .load 9 (.tmp 130), 9, (some (127, true))⟩,
 ⟨some 132, .binOp .neq 9 (.tmp 128) (.tmp 131) 9, 4, (some (127, true))⟩,
 ⟨some 133, .pick (.tmp 127) (.tmp 132) (.const (.bool false)), 4, (some (122, false))⟩,
 ⟨some 134, .pick (.tmp 122) (.const (.bool true)) (.tmp 133), 4, none⟩] [7, 9, 11, 15, 17, 18, 134])
 (.cond (.tmp 134)
  (.seq (.ops [
  ⟨some 8, .assign (.const (.bool false)), 4, none⟩] [8])
  .ret)
  (.skip [7, 9, 11, 15, 17, 18]))))
noncomputable def c4S10 (_ : Unit) : Cmd := (.ops [
 ⟨some 104, .move (.tmp 18), 3, none⟩,
 ⟨some 105, .binOp .add 3 (.tmp 104) (.const (.int .i64 1)) 3, 3, none⟩,
 ⟨some 18, .assign (.tmp 105), 3, none⟩] [7, 9, 11, 15, 17, 18])
noncomputable def c4S11 (_ : Unit) : Cmd := (.seq (.block 7 (.seq (.ops [
 ⟨some 107, .move (.tmp 9), 23, none⟩,
 ⟨some 108, .move (.tmp 18), 3, none⟩,
 ⟨some 109, .call ⟨.value (.func 16), #[(.tmp 107), (.tmp 108)], #[23, 3]⟩, 32, none⟩,
 ⟨some 106, .move (.tmp 109), 32, none⟩,
 ⟨some 110, .extract (.tmp 106) 0, 9, none⟩,
 ⟨some 111, .extract (.tmp 106) 1, 29, none⟩,
 ⟨some 19, .assign (.tmp 110), 9, none⟩,
 ⟨some 20, .assign (.tmp 111), 29, none⟩] [7, 9, 11, 15, 17, 18, 19, 20]) (sg c4S9))) (sg c4S10))
noncomputable def c4L3 (_ : Unit) : Cmd := (.seq (.seq (.ops [
 ⟨some 102, .move (.tmp 18), 3, none⟩,
 ⟨some 103, .binOp .lss 3 (.tmp 102) (.const (.int .i64 6)) 3, 4, none⟩] [7, 9, 11, 15, 17, 18, 103])
 (.cond (.tmp 103)
  (.skip [7, 9, 11, 15, 17, 18])
  (.exit 6 [7, 9, 17]))) (sg c4S11))
noncomputable def c4S12 (_ : Unit) : Cmd := (.seq (.ops [
 ⟨some 153, .move (.tmp 22), 9, none⟩,
 ⟨some 154, .move (.tmp 21), 3, none⟩,
 ⟨some 155, .indexAddr 25 (.tmp 17) (.tmp 154), 0, none⟩,
 ⟨some 156, .load 9 (.tmp 155), 9, none⟩,
 ⟨some 157, .binOp .neq 9 (.tmp 153) (.tmp 156) 9, 4, none⟩] [9, 17, 21, 157])
 (.cond (.tmp 157)
  (.seq (.ops [
  ⟨some 8, .assign (.const (.bool false)), 4, none⟩] [8])
  .ret)
  (.skip [9, 17, 21])))
noncomputable def c4S13 (_ : Unit) : Cmd := (.ops [
 ⟨some 145, .move (.tmp 21), 3, none⟩,
 ⟨some 146, .binOp .add 3 (.tmp 145) (.const (.int .i64 1)) 3, 3, none⟩,
 ⟨some 21, .assign (.tmp 146), 3, none⟩] [9, 17, 21])
noncomputable def c4S14 (_ : Unit) : Cmd := (.seq (.block 9 (.seq (.ops [
 ⟨some 148, .move (.tmp 9), 23, none⟩,
 ⟨some 149, .move (.tmp 21), 3, none⟩,
 ⟨some 150, .call ⟨.value (.func 16), #[(.tmp 148), (.tmp 149)], #[23, 3]⟩, 32, none⟩,
 ⟨some 147, .move (.tmp 150), 32, none⟩,
 ⟨some 151, .extract (.tmp 147) 0, 9, none⟩,
 ⟨some 152, .extract (.tmp 147) 1, 29, none⟩,
 ⟨some 22, .assign (.tmp 151), 9, none⟩,
 ⟨some 23, .assign (.tmp 152), 29, none⟩] [9, 17, 21, 22]) (sg c4S12))) (sg c4S13))
noncomputable def c4L4 (_ : Unit) : Cmd := (.seq (.seq (.ops [
 ⟨some 143, .move (.tmp 21), 3, none⟩,
 ⟨some 144, .binOp .lss 3 (.tmp 143) (.const (.int .i64 6)) 3, 4, none⟩] [9, 17, 21, 144])
 (.cond (.tmp 144)
  (.skip [9, 17, 21])
  (.exit 8 []))) (sg c4S14))
noncomputable def c4S15 (_ : Unit) : Cmd := .ret
noncomputable def c4S16 (_ : Unit) : Cmd := (.seq (.ops [
 ⟨some 158, .call ⟨.value (.func 18), #[], #[]⟩, 4, none⟩,
 ⟨some 8, .assign (.tmp 158), 4, none⟩] [8]) (sg c4S15))
noncomputable def c4S17 (_ : Unit) : Cmd := (.seq (.seq (.ops [
 ⟨some 21, .assign (.const (.int .i64 0)), 3, none⟩] [9, 17, 21])
 (.block 8 (.loop (sg c4L4)))) (sg c4S16))
noncomputable def c4S18 (_ : Unit) : Cmd := (.seq (.ops [
 ⟨some 135, .move (.tmp 9), 23, none⟩,
 ⟨some 136, .fieldAddr 28 (.tmp 7) 3, 0, none⟩,
 ⟨some 137, .load 26 (.tmp 136), 26, none⟩,
 ⟨some 138, .fieldAddr 28 (.tmp 7) 4, 0, none⟩,
 ⟨some 139, .load 3 (.tmp 138), 3, none⟩,
 ⟨some 140, .fieldAddr 28 (.tmp 7) 5, 0, none⟩,
 ⟨some 141, .load 3 (.tmp 140), 3, none⟩,
 ⟨some 142, .call ⟨.value (.func 19), #[(.tmp 135), (.tmp 137), (.tmp 139), (.tmp 141)], #[23, 26, 3, 3]⟩, 0, none⟩] [9, 17]) (sg c4S17))
noncomputable def c4S19 (_ : Unit) : Cmd := (.seq (.ops [
 ⟨some 17, .alloc 25, 0, none⟩] [7, 9, 11, 15, 17])
 (.seq (.seq (.ops [
 ⟨some 18, .assign (.const (.int .i64 0)), 3, none⟩] [7, 9, 11, 15, 17, 18])
 (.block 6 (.loop (sg c4L3)))) (sg c4S18)))
noncomputable def c4S20 (_ : Unit) : Cmd := (.seq (.ops [
 ⟨some 94, .move (.tmp 9), 23, none⟩,
 ⟨some 95, .fieldAddr 28 (.tmp 6) 3, 0, none⟩,
 ⟨some 96, .load 26 (.tmp 95), 26, none⟩,
 ⟨some 97, .fieldAddr 28 (.tmp 6) 4, 0, none⟩,
 ⟨some 98, .load 3 (.tmp 97), 3, none⟩,
 ⟨some 99, .fieldAddr 28 (.tmp 6) 5, 0, none⟩,
 ⟨some 100, .load 3 (.tmp 99), 3, none⟩,
 ⟨some 101, .call ⟨.value (.func 19), #[(.tmp 94), (.tmp 96), (.tmp 98), (.tmp 100)], #[23, 26, 3, 3]⟩, 0, none⟩] [7, 9, 11, 15]) (sg c4S19))
noncomputable def c4S21 (_ : Unit) : Cmd := (.seq (.ops [
 ⟨some 15, .alloc 37, 0, none⟩] [1, 6, 7, 9, 11, 15])
 (.seq (.seq (.ops [
 ⟨some 16, .assign (.const (.int .i64 0)), 3, none⟩] [1, 6, 7, 9, 11, 15, 16])
 (.block 4 (.loop (sg c4L2)))) (sg c4S20)))
noncomputable def c4S22 (_ : Unit) : Cmd := (.seq (.ops [
 ⟨some 11, .alloc 25, 0, none⟩] [1, 6, 7, 9, 11])
 (.seq (.seq (.ops [
 ⟨some 12, .assign (.const (.int .i64 0)), 3, none⟩] [1, 6, 7, 9, 11, 12])
 (.block 2 (.loop (sg c4L1)))) (sg c4S21)))
noncomputable def c4S23 (_ : Unit) : Cmd := (.seq (.seq (.ops [
 ⟨some 49, .move (.tmp 9), 23, none⟩,
 ⟨some 50, .call ⟨.value (.func 15), #[(.tmp 49)], #[23]⟩, 29, none⟩,
 ⟨some 51, .binOp .neq 29 (.tmp 50) (.const (.int .i64 0)) 29, 4, none⟩] [1, 6, 7, 9, 51]) (sg c4S2)) (sg c4S22))
noncomputable def c4S24 (_ : Unit) : Cmd := (.seq (.seq (.ops [
 ⟨some 10, .assign (.const (.int .i64 0)), 3, none⟩] [0, 1, 6, 7, 9, 10])
 (.block 0 (.loop (sg c4L0)))) (sg c4S23))
noncomputable def c4S25 (_ : Unit) : Cmd := (.seq (.seq (.ops [
 ⟨some 25, .move (.tmp 9), 23, none⟩,
 ⟨some 26, .binOp .eql 23 (.tmp 25) (.const (.pointer none)) 23, 4, none⟩] [0, 1, 6, 7, 9, 26])
 (.cond (.tmp 26)
  (.seq (.ops [
  ⟨some 8, .assign (.const (.bool false)), 4, none⟩] [8])
  .ret)
  (.skip [0, 1, 6, 7, 9]))) (sg c4S24))
noncomputable def c4 : Cmd := (.seq (.ops [
 ⟨some 6, .box 28 (.tmp 2), 0, none⟩,
 ⟨some 7, .box 28 (.tmp 3), 0, none⟩,
 ⟨some 8, .assign (.const (.bool false)), 4, none⟩] [0, 1, 6, 7])
 (.seq (.ops [
 ⟨some 24, .call ⟨.value (.func 13), #[], #[]⟩, 23, none⟩,
 ⟨some 9, .assign (.tmp 24), 23, none⟩] [0, 1, 6, 7, 9]) (sg c4S25)))
noncomputable def c4D0 : List (Nat × Ins) := [
 (0, ⟨some 37, .move (.tmp 9), 23, none⟩),
 (0, ⟨some 38, .move (.tmp 0), 22, none⟩),
 (0, ⟨some 39, .move (.tmp 10), 3, none⟩),
 (0, ⟨some 40, .indexAddr 22 (.tmp 38) (.tmp 39), 0, none⟩),
 (0, ⟨some 41, .fieldAddr 28 (.tmp 40) 1, 0, none⟩),
 (0, ⟨some 43, .move (.tmp 0), 22, none⟩),
 (0, ⟨some 44, .move (.tmp 10), 3, none⟩),
 (0, ⟨some 45, .indexAddr 22 (.tmp 43) (.tmp 44), 0, none⟩),
 (0, ⟨some 46, .fieldAddr 28 (.tmp 45) 2, 0, none⟩),
 (1, ⟨some 42, .load 3 (.tmp 41), 3, none⟩),
 (2, ⟨some 47, .load 9 (.tmp 46), 9, none⟩),
 (3, ⟨some 48, .call ⟨.value (.func 14), #[(.tmp 37), (.tmp 42), (.tmp 47)], #[23, 3, 9]⟩, 29, none⟩)]
theorem c4draw0 {L : List Nat} {ρ : Env} {w : World} {Q : Post} (S : World → Prop) (hS : S w.drew) (h : DG Try.prog S c4D0 L ρ w.drew Q) : drawW Try.prog (drawOps 0 c4code) L ρ w Q :=
  drawW_held [5] [(0, 0), (0, 1), (0, 2), (0, 3), (0, 4), (0, 6), (0, 7), (0, 8), (0, 9), (1, 5), (2, 10), (3, 11)] c4D0 (by kernel_rfl) (by kernel_rfl) (by kernel_rfl) S hS h
noncomputable def c4D1 : List (Nat × Ins) := [
 (0, ⟨some 75, .move (.tmp 9), 23, none⟩),
 (0, ⟨some 76, .move (.tmp 1), 22, none⟩),
 (0, ⟨some 77, .move (.tmp 16), 3, none⟩),
 (0, ⟨some 78, .indexAddr 22 (.tmp 76) (.tmp 77), 0, none⟩),
 (0, ⟨some 79, .fieldAddr 28 (.tmp 78) 1, 0, none⟩),
 (0, ⟨some 81, .move (.tmp 1), 22, none⟩),
 (0, ⟨some 82, .move (.tmp 16), 3, none⟩),
 (0, ⟨some 83, .indexAddr 22 (.tmp 81) (.tmp 82), 0, none⟩),
 (0, ⟨some 84, .fieldAddr 28 (.tmp 83) 2, 0, none⟩),
 (1, ⟨some 80, .load 3 (.tmp 79), 3, none⟩),
 (2, ⟨some 85, .load 9 (.tmp 84), 9, none⟩),
 (3, ⟨some 86, .call ⟨.value (.func 14), #[(.tmp 75), (.tmp 80), (.tmp 85)], #[23, 3, 9]⟩, 29, none⟩),
 (0, ⟨some 87, .binOp .eql 29 (.tmp 86) (.const (.int .i64 0)) 29, 4, none⟩)]
theorem c4draw1 {L : List Nat} {ρ : Env} {w : World} {Q : Post} (S : World → Prop) (hS : S w.drew) (h : DG Try.prog S c4D1 L ρ w.drew Q) : drawW Try.prog (drawOps 1 c4code) L ρ w Q :=
  drawW_held [5] [(0, 0), (0, 1), (0, 2), (0, 3), (0, 4), (0, 6), (0, 7), (0, 8), (0, 9), (1, 5), (2, 10), (3, 11), (0, 12)] c4D1 (by kernel_rfl) (by kernel_rfl) (by kernel_rfl) S hS h
set_option maxRecDepth 100000 in
theorem ent4 (a0 a1 a2 a3 : Value) (w : World) (K : Value → World → Prop) (h : W Try.prog c4 [(0, a0), (1, a1), (2, a2), (3, a3)] w (finQ Try.prog [.tmp 8] K)) : Ret Try.prog 4 [a0, a1, a2, a3] w K :=
  Ret_of_W (code := c4code) Try.func4 (by kernel_rfl) (by kernel_rfl) (of_decide_eq_true (by kernel_rfl)) h
--SIMP 4 c4 c4S0 c4S1 c4L0 c4S2 c4S3 c4S4 c4S5 c4L1 c4S6 c4S7 c4S8 c4L2 c4S9 c4S10 c4S11 c4L3 c4S12 c4S13 c4S14 c4L4 c4S15 c4S16 c4S17 c4S18 c4S19 c4S20 c4S21 c4S22 c4S23 c4S24 c4S25 TYS 3 4 9 22 23 25 26 28 29 37 FNS 13 14 15 16 18 19
@[go_sem] theorem go4 : goFunc Try.prog 4 = true := by kernel_rfl
/- Function 5: annalistlaw02.BlockTears -/
noncomputable def c5code : Code := match Try.f5.body with | some c => c | none => .skip
noncomputable def c5S0 (_ : Unit) : Cmd := .ret
noncomputable def c5S1 (_ : Unit) : Cmd := (.cond (.tmp 45)
  (.seq (.ops [
  ⟨some 6, .assign (.const (.bool false)), 4, none⟩] [6])
  .ret)
  (.skip [0, 1, 2, 7]))
noncomputable def c5S2 (_ : Unit) : Cmd := .ret
noncomputable def c5S3 (_ : Unit) : Cmd := (.seq (.draw (drawOps 0 c5code) [6]) (sg c5S2))
noncomputable def c5S4 (_ : Unit) : Cmd := (.seq (.ops [
 ⟨some 55, .move (.tmp 7), 23, none⟩,
 ⟨some 56, .call ⟨.value (.func 16), #[(.tmp 55), (.const (.int .i64 1))], #[23, 3]⟩, 32, none⟩,
 ⟨some 54, .move (.tmp 56), 32, none⟩,
 ⟨some 57, .extract (.tmp 54) 0, 9, none⟩,
 ⟨some 58, .extract (.tmp 54) 1, 29, none⟩,
 ⟨some 9, .assign (.tmp 57), 9, none⟩,
 ⟨some 10, .assign (.tmp 58), 29, none⟩] [0, 1, 8, 9, 10]) (sg c5S3))
noncomputable def c5S5 (_ : Unit) : Cmd := (.seq (.seq (.ops [
 ⟨some 52, .move (.tmp 8), 3, none⟩,
 ⟨some 53, .binOp .gtr 3 (.tmp 52) (.const (.int .i64 256)) 3, 4, none⟩] [0, 1, 7, 8, 53])
 (.cond (.tmp 53)
  (.ops [
  ⟨some 8, .assign (.const (.int .i64 256)), 3, none⟩] [0, 1, 7, 8])
  (.skip [0, 1, 7, 8]))) (sg c5S4))
noncomputable def c5S6 (_ : Unit) : Cmd := (.seq (.ops [
 ⟨some 49, .move (.tmp 2), 3, none⟩,
 ⟨some 8, .assign (.tmp 49), 3, none⟩] [0, 1, 7, 8])
 (.seq (.seq (.ops [
 ⟨some 50, .move (.tmp 8), 3, none⟩,
 ⟨some 51, .binOp .lss 3 (.tmp 50) (.const (.int .i64 0)) 3, 4, none⟩] [0, 1, 7, 8, 51])
 (.cond (.tmp 51)
  (.ops [
  ⟨some 8, .assign (.const (.int .i64 0)), 3, none⟩] [0, 1, 7, 8])
  (.skip [0, 1, 7, 8]))) (sg c5S5)))
noncomputable def c5S7 (_ : Unit) : Cmd := (.seq (.ops [
 ⟨some 46, .move (.tmp 7), 23, none⟩,
 ⟨some 47, .move (.tmp 2), 3, none⟩,
 ⟨some 48, .call ⟨.value (.func 19), #[(.tmp 46), (.const (.int .u64 1)), (.const (.int .i64 0)), (.tmp 47)], #[23, 26, 3, 3]⟩, 0, none⟩] [0, 1, 2, 7]) (sg c5S6))
noncomputable def c5S8 (_ : Unit) : Cmd := (.seq (.seq (.ops [
 ⟨some 31, .move (.tmp 7), 23, none⟩,
 ⟨some 32, .move (.tmp 0), 9, none⟩,
 ⟨some 33, .call ⟨.value (.func 14), #[(.tmp 31), (.const (.int .i64 1)), (.tmp 32)], #[23, 3, 9]⟩, 29, none⟩,
 ⟨some 34, .binOp .neq 29 (.tmp 33) (.const (.int .i64 0)) 29, 4, none⟩,
 ⟨some 35, .move (.tmp 34), 4, none⟩,
 ⟨some 36, .move (.tmp 7), 23, (some (35, false))⟩,
 ⟨some 37, .call ⟨.value (.func 15), #[(.tmp 36)], #[23]⟩, 29, (some (35, false))⟩,
 ⟨some 38, .binOp .neq 29 (.tmp 37) (.const (.int .i64 0)) 29, 4, (some (35, false))⟩,
 ⟨some 39, .pick (.tmp 35) (.const (.bool true)) (.tmp 38), 4, none⟩,
 ⟨some 40, .move (.tmp 39), 4, none⟩,
 ⟨some 41, .move (.tmp 7), 23, (some (40, false))⟩,
 ⟨some 42, .move (.tmp 1), 9, (some (40, false))⟩,
 ⟨some 43, .call ⟨.value (.func 14), #[(.tmp 41), (.const (.int .i64 1)), (.tmp 42)], #[23, 3, 9]⟩, 29, (some (40, false))⟩,
 ⟨some 44, .binOp .neq 29 (.tmp 43) (.const (.int .i64 0)) 29, 4, (some (40, false))⟩,
 ⟨some 45, .pick (.tmp 40) (.const (.bool true)) (.tmp 44), 4, none⟩] [0, 1, 2, 7, 45]) (sg c5S1)) (sg c5S7))
noncomputable def c5S9 (_ : Unit) : Cmd := (.seq (.seq (.ops [
 ⟨some 14, .move (.tmp 0), 9, none⟩,
 ⟨some 15, .call ⟨.builtin .len, #[(.tmp 14)], #[9]⟩, 3, none⟩,
 ⟨some 16, .binOp .gtr 3 (.tmp 15) (.const (.int .i64 256)) 3, 4, none⟩,
 ⟨some 17, .move (.tmp 16), 4, none⟩,
 ⟨some 18, .move (.tmp 1), 9, (some (17, false))⟩,
 ⟨some 19, .call ⟨.builtin .len, #[(.tmp 18)], #[9]⟩, 3, (some (17, false))⟩,
 ⟨some 20, .binOp .gtr 3 (.tmp 19) (.const (.int .i64 256)) 3, 4, (some (17, false))⟩,
 ⟨some 21, .pick (.tmp 17) (.const (.bool true)) (.tmp 20), 4, none⟩] [0, 1, 2, 7, 21])
 (.cond (.tmp 21)
  (.seq (.ops [
  ⟨some 22, .move (.tmp 7), 23, none⟩,
  ⟨some 23, .move (.tmp 0), 9, none⟩,
  ⟨some 24, .move (.tmp 1), 9, none⟩,
  ⟨some 25, .binOp .add 9 (.tmp 23) (.tmp 24) 9, 9, none⟩,
  ⟨some 26, .call ⟨.value (.func 14), #[(.tmp 22), (.const (.int .i64 1)), (.tmp 25)], #[23, 3, 9]⟩, 29, none⟩,
  ⟨some 27, .binOp .eql 29 (.tmp 26) (.const (.int .i64 21)) 29, 4, none⟩,
  ⟨some 28, .move (.tmp 27), 4, none⟩,
  ⟨some 29, .call ⟨.value (.func 18), #[], #[]⟩, 4, (some (28, true))⟩,
  ⟨some 30, .pick (.tmp 28) (.tmp 29) (.const (.bool false)), 4, none⟩,
  ⟨some 6, .assign (.tmp 30), 4, none⟩] [6]) (sg c5S0))
  (.skip [0, 1, 2, 7]))) (sg c5S8))
noncomputable def c5S10 (_ : Unit) : Cmd := (.seq (.seq (.ops [
 ⟨some 12, .move (.tmp 7), 23, none⟩,
 ⟨some 13, .binOp .eql 23 (.tmp 12) (.const (.pointer none)) 23, 4, none⟩] [0, 1, 2, 7, 13])
 (.cond (.tmp 13)
  (.seq (.ops [
  ⟨some 6, .assign (.const (.bool false)), 4, none⟩] [6])
  .ret)
  (.skip [0, 1, 2, 7]))) (sg c5S9))
noncomputable def c5 : Cmd := (.seq (.ops [
 ⟨some 6, .assign (.const (.bool false)), 4, none⟩] [0, 1, 2])
 (.seq (.ops [
 ⟨some 11, .call ⟨.value (.func 13), #[], #[]⟩, 23, none⟩,
 ⟨some 7, .assign (.tmp 11), 23, none⟩] [0, 1, 2, 7]) (sg c5S10)))
noncomputable def c5D0 : List (Bool × Ins) := [
 (true, ⟨some 59, .move (.tmp 10), 29, none⟩),
 (true, ⟨some 60, .binOp .eql 29 (.tmp 59) (.const (.int .i64 0)) 29, 4, none⟩),
 (true, ⟨some 61, .move (.tmp 60), 4, none⟩),
 (true, ⟨some 62, .move (.tmp 9), 9, (some (61, true))⟩),
 (true, ⟨some 63, .move (.tmp 1), 9, (some (61, true))⟩),
 (true, ⟨some 65, .move (.tmp 8), 3, (some (61, true))⟩),
 (true, ⟨some 67, .move (.tmp 0), 9, (some (61, true))⟩),
 (true, ⟨some 69, .move (.tmp 8), 3, (some (61, true))⟩),
 (false, ⟨some 64, .call ⟨.value (.func 17), #[(.tmp 63)], #[9]⟩, 9, (some (61, true))⟩),
 (true, ⟨some 66, .slice 9 (.tmp 64) none (some (.tmp 65)) none, 9, (some (61, true))⟩),
 (false, ⟨some 68, .call ⟨.value (.func 17), #[(.tmp 67)], #[9]⟩, 9, (some (61, true))⟩),
 (true, ⟨some 70, .slice 9 (.tmp 68) (some (.tmp 69)) none none, 9, (some (61, true))⟩),
 (true, ⟨some 71, .binOp .add 9 (.tmp 66) (.tmp 70) 9, 9, (some (61, true))⟩),
 (true, ⟨some 72, .binOp .eql 9 (.tmp 62) (.tmp 71) 9, 4, (some (61, true))⟩),
 (true, ⟨some 73, .pick (.tmp 61) (.tmp 72) (.const (.bool false)), 4, none⟩),
 (true, ⟨some 74, .move (.tmp 73), 4, none⟩),
 (false, ⟨some 75, .call ⟨.value (.func 18), #[], #[]⟩, 4, (some (74, true))⟩),
 (true, ⟨some 76, .pick (.tmp 74) (.tmp 75) (.const (.bool false)), 4, none⟩),
 (true, ⟨some 6, .assign (.tmp 76), 4, none⟩)]
theorem c5draw0 {L : List Nat} {ρ : Env} {w : World} {Q : Post} (h : DL Try.prog c5D0 L ρ w.drew Q) : drawW Try.prog (drawOps 0 c5code) L ρ w Q :=
  drawW_by [(true, 0), (true, 1), (true, 2), (true, 3), (true, 4), (true, 6), (true, 8), (true, 10), (false, 5), (true, 7), (false, 9), (true, 11), (true, 12), (true, 13), (true, 14), (true, 15), (false, 16), (true, 17), (true, 18)] c5D0 (by kernel_rfl) (by kernel_rfl) (by kernel_rfl) h
set_option maxRecDepth 100000 in
theorem ent5 (a0 a1 a2 : Value) (w : World) (K : Value → World → Prop) (h : W Try.prog c5 [(0, a0), (1, a1), (2, a2)] w (finQ Try.prog [.tmp 6] K)) : Ret Try.prog 5 [a0, a1, a2] w K :=
  Ret_of_W (code := c5code) Try.func5 (by kernel_rfl) (by kernel_rfl) (of_decide_eq_true (by kernel_rfl)) h
--SIMP 5 c5 c5S0 c5S1 c5S2 c5S3 c5S4 c5S5 c5S6 c5S7 c5S8 c5S9 c5S10 TYS 3 9 23 29 FNS 13 14 15 16 17 18 19
@[go_sem] theorem go5 : goFunc Try.prog 5 = true := by kernel_rfl
/- Function 6: annalistlaw02.BlockLimits -/
noncomputable def c6code : Code := match Try.f6.body with | some c => c | none => .skip
noncomputable def c6S0 (_ : Unit) : Cmd := .ret
noncomputable def c6S1 (_ : Unit) : Cmd := (.seq (.ops [
  ⟨some 50, .move (.tmp 9), 29, none⟩,
  ⟨some 51, .binOp .eql 29 (.tmp 50) (.const (.int .i64 11)) 29, 4, none⟩,
  ⟨some 52, .move (.tmp 6), 3, none⟩,
  ⟨some 53, .move (.tmp 0), 3, none⟩,
  ⟨some 54, .binOp .geq 3 (.tmp 52) (.tmp 53) 3, 4, none⟩,
  ⟨some 55, .binOp .neq 4 (.tmp 51) (.tmp 54) 4, 4, none⟩] [0, 1, 5, 6, 7, 55])
  (.cond (.tmp 55)
   (.seq (.ops [
   ⟨some 4, .assign (.const (.bool false)), 4, none⟩] [4])
   .ret)
   (.skip [0, 1, 5, 6, 7])))
noncomputable def c6S2 (_ : Unit) : Cmd := (.seq (.ops [
 ⟨some 56, .move (.tmp 7), 29, none⟩,
 ⟨some 57, .binOp .eql 29 (.tmp 56) (.const (.int .i64 0)) 29, 4, none⟩,
 ⟨some 58, .move (.tmp 6), 3, none⟩,
 ⟨some 59, .move (.tmp 0), 3, none⟩,
 ⟨some 60, .binOp .lss 3 (.tmp 58) (.tmp 59) 3, 4, none⟩,
 ⟨some 61, .binOp .neq 4 (.tmp 57) (.tmp 60) 4, 4, none⟩,
 ⟨some 62, .move (.tmp 61), 4, none⟩,
 ⟨some 63, .move (.tmp 7), 29, (some (62, false))⟩,
 ⟨some 64, .binOp .neq 29 (.tmp 63) (.const (.int .i64 0)) 29, 4, (some (62, false))⟩,
 ⟨some 65, .move (.tmp 64), 4, (some (62, false))⟩,
 ⟨some 66, .move (.tmp 7), 29, (some (65, true))⟩,
 ⟨some 67, .binOp .neq 29 (.tmp 66) (.const (.int .i64 11)) 29, 4, (some (65, true))⟩,
 ⟨some 68, .pick (.tmp 65) (.tmp 67) (.const (.bool false)), 4, (some (62, false))⟩,
 ⟨some 69, .pick (.tmp 62) (.const (.bool true)) (.tmp 68), 4, none⟩] [0, 1, 5, 6, 69])
 (.cond (.tmp 69)
  (.seq (.ops [
  ⟨some 4, .assign (.const (.bool false)), 4, none⟩] [4])
  .ret)
  (.skip [0, 1, 5, 6])))
noncomputable def c6S3 (_ : Unit) : Cmd := (.seq (.seq (.ops [
 ⟨some 39, .move (.tmp 1), 22, none⟩,
 ⟨some 40, .move (.tmp 6), 3, none⟩,
 ⟨some 41, .indexAddr 22 (.tmp 39) (.tmp 40), 0, none⟩,
 ⟨some 42, .fieldAddr 28 (.tmp 41) 0, 0, none⟩,
 ⟨some 43, .load 3 (.tmp 42), 3, none⟩,
 ⟨some 44, .binOp .eql 3 (.tmp 43) (.const (.int .i64 1)) 3, 4, none⟩] [0, 1, 5, 6, 7, 44])
 (.cond (.tmp 44)
  (.seq (.ops [
  ⟨some 46, .move (.tmp 5), 23, none⟩,
  ⟨some 47, .call ⟨.value (.func 16), #[(.tmp 46), (.const (.int .i64 2))], #[23, 3]⟩, 32, none⟩,
  ⟨some 45, .move (.tmp 47), 32, none⟩,
  ⟨some 48, .extract (.tmp 45) 0, 9, none⟩,
  ⟨some 49, .extract (.tmp 45) 1, 29, none⟩,
  ⟨some 8, .assign (.tmp 48), 9, none⟩,
  ⟨some 9, .assign (.tmp 49), 29, none⟩] [0, 1, 5, 6, 7, 9]) (sg c6S1))
  (.skip [0, 1, 5, 6, 7]))) (sg c6S2))
noncomputable def c6S4 (_ : Unit) : Cmd := (.ops [
 ⟨some 35, .move (.tmp 6), 3, none⟩,
 ⟨some 36, .binOp .add 3 (.tmp 35) (.const (.int .i64 1)) 3, 3, none⟩,
 ⟨some 6, .assign (.tmp 36), 3, none⟩] [0, 1, 5, 6])
noncomputable def c6S5 (_ : Unit) : Cmd := (.seq (.block 1 (.seq (.ops [
 ⟨some 37, .move (.tmp 5), 23, none⟩,
 ⟨some 38, .call ⟨.value (.func 14), #[(.tmp 37), (.const (.int .i64 2)), (.const (.string (ofL [120])))], #[23, 3, 9]⟩, 29, none⟩,
 ⟨some 7, .assign (.tmp 38), 29, none⟩] [0, 1, 5, 6, 7]) (sg c6S3))) (sg c6S4))
noncomputable def c6L0 (_ : Unit) : Cmd := (.seq (.seq (.ops [
 ⟨some 27, .move (.tmp 6), 3, none⟩,
 ⟨some 28, .move (.tmp 1), 22, none⟩,
 ⟨some 29, .call ⟨.builtin .len, #[(.tmp 28)], #[22]⟩, 3, none⟩,
 ⟨some 30, .binOp .lss 3 (.tmp 27) (.tmp 29) 3, 4, none⟩,
 ⟨some 31, .move (.tmp 30), 4, none⟩,
 ⟨some 32, .move (.tmp 6), 3, (some (31, true))⟩,
 ⟨some 33, .binOp .lss 3 (.tmp 32) (.const (.int .i64 80)) 3, 4, (some (31, true))⟩,
 ⟨some 34, .pick (.tmp 31) (.tmp 33) (.const (.bool false)), 4, none⟩] [0, 1, 5, 6, 34])
 (.cond (.tmp 34)
  (.skip [0, 1, 5, 6])
  (.exit 0 [5]))) (sg c6S5))
noncomputable def c6S6 (_ : Unit) : Cmd := .ret
noncomputable def c6S7 (_ : Unit) : Cmd := (.seq (.ops [
 ⟨some 77, .move (.tmp 11), 29, none⟩,
 ⟨some 78, .binOp .eql 29 (.tmp 77) (.const (.int .i64 0)) 29, 4, none⟩,
 ⟨some 79, .move (.tmp 78), 4, none⟩,
 ⟨some 80, .move (.tmp 10), 9, (some (79, true))⟩,
 ⟨some 81, .call ⟨.value (.func 17), #[(.const (.string (ofL [])))], #[9]⟩, 9, (some (79, true))⟩,
 ⟨some 82, .binOp .eql 9 (.tmp 80) (.tmp 81) 9, 4, (some (79, true))⟩,
 ⟨some 83, .pick (.tmp 79) (.tmp 82) (.const (.bool false)), 4, none⟩,
 ⟨some 84, .move (.tmp 83), 4, none⟩,
 ⟨some 85, .move (.tmp 5), 23, (some (84, true))⟩,
 ⟨some 86, .call ⟨.value (.func 15), #[(.tmp 85)], #[23]⟩, 29, (some (84, true))⟩,
 ⟨some 87, .move (.tmp 11), 29, (some (84, true))⟩,
 ⟨some 88, .binOp .eql 29 (.tmp 86) (.tmp 87) 29, 4, (some (84, true))⟩,
 ⟨some 89, .pick (.tmp 84) (.tmp 88) (.const (.bool false)), 4, none⟩,
 ⟨some 90, .move (.tmp 89), 4, none⟩,
 ⟨some 91, .call ⟨.value (.func 18), #[], #[]⟩, 4, (some (90, true))⟩,
 ⟨some 92, .pick (.tmp 90) (.tmp 91) (.const (.bool false)), 4, none⟩,
 ⟨some 4, .assign (.tmp 92), 4, none⟩] [4]) (sg c6S6))
noncomputable def c6S8 (_ : Unit) : Cmd := (.seq (.ops [
 ⟨some 73, .move (.tmp 5), 23, none⟩,
 ⟨some 74, .call ⟨.value (.func 16), #[(.tmp 73), (.const (.int .i64 2))], #[23, 3]⟩, 32, none⟩,
 ⟨some 72, .move (.tmp 74), 32, none⟩,
 ⟨some 75, .extract (.tmp 72) 0, 9, none⟩,
 ⟨some 76, .extract (.tmp 72) 1, 29, none⟩,
 ⟨some 10, .assign (.tmp 75), 9, none⟩,
 ⟨some 11, .assign (.tmp 76), 29, none⟩] [5, 10, 11]) (sg c6S7))
noncomputable def c6S9 (_ : Unit) : Cmd := (.seq (.ops [
 ⟨some 70, .move (.tmp 5), 23, none⟩,
 ⟨some 71, .call ⟨.value (.func 19), #[(.tmp 70), (.const (.int .u64 0)), (.const (.int .i64 0)), (.const (.int .i64 0))], #[23, 26, 3, 3]⟩, 0, none⟩] [5]) (sg c6S8))
noncomputable def c6S10 (_ : Unit) : Cmd := (.seq (.seq (.ops [
 ⟨some 6, .assign (.const (.int .i64 0)), 3, none⟩] [0, 1, 5, 6])
 (.block 0 (.loop (sg c6L0)))) (sg c6S9))
noncomputable def c6S11 (_ : Unit) : Cmd := (.seq (.ops [
 ⟨some 24, .move (.tmp 5), 23, none⟩,
 ⟨some 25, .move (.tmp 0), 3, none⟩,
 ⟨some 26, .call ⟨.value (.func 20), #[(.tmp 24), (.tmp 25)], #[23, 3]⟩, 0, none⟩] [0, 1, 5]) (sg c6S10))
noncomputable def c6S12 (_ : Unit) : Cmd := (.seq (.seq (.ops [
 ⟨some 13, .move (.tmp 5), 23, none⟩,
 ⟨some 14, .binOp .eql 23 (.tmp 13) (.const (.pointer none)) 23, 4, none⟩,
 ⟨some 15, .move (.tmp 14), 4, none⟩,
 ⟨some 16, .move (.tmp 0), 3, (some (15, false))⟩,
 ⟨some 17, .binOp .lss 3 (.tmp 16) (.const (.int .i64 0)) 3, 4, (some (15, false))⟩,
 ⟨some 18, .pick (.tmp 15) (.const (.bool true)) (.tmp 17), 4, none⟩] [0, 1, 5, 18])
 (.cond (.tmp 18)
  (.seq (.ops [
  ⟨some 19, .move (.tmp 5), 23, none⟩,
  ⟨some 20, .binOp .neq 23 (.tmp 19) (.const (.pointer none)) 23, 4, none⟩,
  ⟨some 21, .move (.tmp 20), 4, none⟩,
  ⟨some 22, .call ⟨.value (.func 18), #[], #[]⟩, 4, (some (21, true))⟩,
  ⟨some 23, .pick (.tmp 21) (.tmp 22) (.const (.bool false)), 4, none⟩,
  ⟨some 4, .assign (.tmp 23), 4, none⟩] [4]) (sg c6S0))
  (.skip [0, 1, 5]))) (sg c6S11))
noncomputable def c6 : Cmd := (.seq (.ops [
 ⟨some 4, .assign (.const (.bool false)), 4, none⟩] [0, 1])
 (.seq (.ops [
 ⟨some 12, .call ⟨.value (.func 13), #[], #[]⟩, 23, none⟩,
 ⟨some 5, .assign (.tmp 12), 23, none⟩] [0, 1, 5]) (sg c6S12)))
set_option maxRecDepth 100000 in
theorem ent6 (a0 a1 : Value) (w : World) (K : Value → World → Prop) (h : W Try.prog c6 [(0, a0), (1, a1)] w (finQ Try.prog [.tmp 4] K)) : Ret Try.prog 6 [a0, a1] w K :=
  Ret_of_W (code := c6code) Try.func6 (by kernel_rfl) (by kernel_rfl) (of_decide_eq_true (by kernel_rfl)) h
--SIMP 6 c6 c6S0 c6S1 c6S2 c6S3 c6S4 c6S5 c6L0 c6S6 c6S7 c6S8 c6S9 c6S10 c6S11 c6S12 TYS 3 4 9 22 23 28 29 FNS 13 14 15 16 17 18 19 20
@[go_sem] theorem go6 : goFunc Try.prog 6 = true := by kernel_rfl
/- Function 7: annalistlaw02.BlockPlays -/
noncomputable def c7code : Code := match Try.f7.body with | some c => c | none => .skip
noncomputable def c7S0 (_ : Unit) : Cmd := .ret
noncomputable def c7S1 (_ : Unit) : Cmd := (.cond (.tmp 49)
  (.seq (.ops [
  ⟨some 4, .assign (.const (.bool false)), 4, none⟩] [4])
  .ret)
  (.skip [0, 1, 5, 7]))
noncomputable def c7S2 (_ : Unit) : Cmd := (.cond (.tmp 70)
  (.seq (.ops [
  ⟨some 4, .assign (.const (.bool false)), 4, none⟩] [4])
  .ret)
  (.skip [0, 1, 5, 7, 9]))
noncomputable def c7S3 (_ : Unit) : Cmd := (.seq (.ops [
 ⟨some 88, .move (.tmp 11), 9, none⟩,
 ⟨some 89, .move (.tmp 13), 9, none⟩,
 ⟨some 90, .binOp .neq 9 (.tmp 88) (.tmp 89) 9, 4, none⟩,
 ⟨some 91, .move (.tmp 90), 4, none⟩,
 ⟨some 92, .move (.tmp 12), 29, (some (91, false))⟩,
 ⟨some 93, .move (.tmp 14), 3, (some (91, false))⟩,
 ⟨some 94, .binOp .neq 3 (.tmp 92) (.tmp 93) 3, 4, (some (91, false))⟩,
 ⟨some 95, .pick (.tmp 91) (.const (.bool true)) (.tmp 94), 4, none⟩] [0, 1, 5, 7, 9, 10, 95])
 (.cond (.tmp 95)
  (.seq (.ops [
  ⟨some 4, .assign (.const (.bool false)), 4, none⟩] [4])
  .ret)
  (.skip [0, 1, 5, 7, 9, 10])))
noncomputable def c7S4 (_ : Unit) : Cmd := (.seq (.ops [
 ⟨some 83, .load 48 (.tmp 7), 48, none⟩,
 ⟨some 84, .move (.tmp 10), 3, none⟩,
 ⟨some 85, .call ⟨.value (.func 25), #[(.tmp 83), (.tmp 84)], #[48, 3]⟩, 54, none⟩,
 ⟨some 82, .move (.tmp 85), 54, none⟩,
 ⟨some 86, .extract (.tmp 82) 0, 9, none⟩,
 ⟨some 87, .extract (.tmp 82) 1, 3, none⟩,
 ⟨some 13, .assign (.tmp 86), 9, none⟩,
 ⟨some 14, .assign (.tmp 87), 3, none⟩] [0, 1, 5, 7, 9, 10, 11, 12, 13, 14]) (sg c7S3))
noncomputable def c7S5 (_ : Unit) : Cmd := (.ops [
 ⟨some 74, .move (.tmp 10), 3, none⟩,
 ⟨some 75, .binOp .add 3 (.tmp 74) (.const (.int .i64 1)) 3, 3, none⟩,
 ⟨some 10, .assign (.tmp 75), 3, none⟩] [0, 1, 5, 7, 9, 10])
noncomputable def c7S6 (_ : Unit) : Cmd := (.seq (.block 3 (.seq (.ops [
 ⟨some 77, .move (.tmp 5), 23, none⟩,
 ⟨some 78, .move (.tmp 10), 3, none⟩,
 ⟨some 79, .call ⟨.value (.func 16), #[(.tmp 77), (.tmp 78)], #[23, 3]⟩, 32, none⟩,
 ⟨some 76, .move (.tmp 79), 32, none⟩,
 ⟨some 80, .extract (.tmp 76) 0, 9, none⟩,
 ⟨some 81, .extract (.tmp 76) 1, 29, none⟩,
 ⟨some 11, .assign (.tmp 80), 9, none⟩,
 ⟨some 12, .assign (.tmp 81), 29, none⟩] [0, 1, 5, 7, 9, 10, 11, 12]) (sg c7S4))) (sg c7S5))
noncomputable def c7L0 (_ : Unit) : Cmd := (.seq (.seq (.ops [
 ⟨some 71, .move (.tmp 10), 3, none⟩,
 ⟨some 72, .move (.tmp 0), 3, none⟩,
 ⟨some 73, .binOp .leq 3 (.tmp 71) (.tmp 72) 3, 4, none⟩] [0, 1, 5, 7, 9, 10, 73])
 (.cond (.tmp 73)
  (.skip [0, 1, 5, 7, 9, 10])
  (.exit 2 [0, 1, 5, 7, 9]))) (sg c7S6))
noncomputable def c7S7 (_ : Unit) : Cmd := (.seq (.ops [
 ⟨some 10, .assign (.const (.int .i64 (-1))), 3, none⟩] [0, 1, 5, 7, 9, 10])
 (.block 2 (.loop (sg c7L0))))
noncomputable def c7S8 (_ : Unit) : Cmd := (.ops [
 ⟨some 62, .move (.tmp 9), 3, none⟩,
 ⟨some 63, .binOp .add 3 (.tmp 62) (.const (.int .i64 1)) 3, 3, none⟩,
 ⟨some 9, .assign (.tmp 63), 3, none⟩] [0, 1, 5, 7, 9])
noncomputable def c7S9 (_ : Unit) : Cmd := (.seq (.block 1 (.seq (.seq (.ops [
 ⟨some 64, .move (.tmp 5), 23, none⟩,
 ⟨some 65, .move (.tmp 1), 22, none⟩,
 ⟨some 66, .move (.tmp 9), 3, none⟩,
 ⟨some 67, .indexAddr 22 (.tmp 65) (.tmp 66), 0, none⟩,
 ⟨some 68, .load 28 (.tmp 67), 28, none⟩,
 ⟨some 69, .call ⟨.value (.func 24), #[(.tmp 64), (.tmp 7), (.tmp 68)], #[23, 53, 28]⟩, 4, none⟩,
 ⟨some 70, .unOp .not 4 (.tmp 69), 4, none⟩] [0, 1, 5, 7, 9, 70]) (sg c7S2)) (sg c7S7))) (sg c7S8))
noncomputable def c7L1 (_ : Unit) : Cmd := (.seq (.seq (.ops [
 ⟨some 50, .move (.tmp 9), 3, none⟩,
 ⟨some 51, .move (.tmp 1), 22, none⟩,
 ⟨some 52, .call ⟨.builtin .len, #[(.tmp 51)], #[22]⟩, 3, none⟩,
 ⟨some 53, .binOp .lss 3 (.tmp 50) (.tmp 52) 3, 4, none⟩,
 ⟨some 54, .move (.tmp 53), 4, none⟩,
 ⟨some 55, .move (.tmp 9), 3, (some (54, true))⟩,
 ⟨some 56, .binOp .lss 3 (.tmp 55) (.const (.int .i64 80)) 3, 4, (some (54, true))⟩,
 ⟨some 57, .pick (.tmp 54) (.tmp 56) (.const (.bool false)), 4, none⟩,
 ⟨some 58, .move (.tmp 57), 4, none⟩,
 ⟨some 59, .move (.tmp 5), 23, (some (58, true))⟩,
 ⟨some 60, .binOp .neq 23 (.tmp 59) (.const (.pointer none)) 23, 4, (some (58, true))⟩,
 ⟨some 61, .pick (.tmp 58) (.tmp 60) (.const (.bool false)), 4, none⟩] [0, 1, 5, 7, 9, 61])
 (.cond (.tmp 61)
  (.skip [0, 1, 5, 7, 9])
  (.exit 0 []))) (sg c7S9))
noncomputable def c7S10 (_ : Unit) : Cmd := .ret
noncomputable def c7S11 (_ : Unit) : Cmd := (.seq (.ops [
 ⟨some 96, .call ⟨.value (.func 18), #[], #[]⟩, 4, none⟩,
 ⟨some 4, .assign (.tmp 96), 4, none⟩] [4]) (sg c7S10))
noncomputable def c7S12 (_ : Unit) : Cmd := (.seq (.seq (.ops [
 ⟨some 9, .assign (.const (.int .i64 0)), 3, none⟩] [0, 1, 5, 7, 9])
 (.block 0 (.loop (sg c7L1)))) (sg c7S11))
noncomputable def c7S13 (_ : Unit) : Cmd := (.seq (.seq (.draw (drawOps 0 c7code) [0, 1, 5, 7, 49]) (sg c7S1)) (sg c7S12))
noncomputable def c7S14 (_ : Unit) : Cmd := (.seq (.ops [
 ⟨some 28, .move (.tmp 0), 3, none⟩,
 ⟨some 29, .call ⟨.value (.func 22), #[(.tmp 28)], #[3]⟩, 49, none⟩,
 ⟨some 27, .move (.tmp 29), 49, none⟩,
 ⟨some 30, .extract (.tmp 27) 0, 48, none⟩,
 ⟨some 31, .extract (.tmp 27) 1, 3, none⟩,
 ⟨some 7, .alloc 48, 0, none⟩,
 ⟨none, .store 48 (.tmp 7) (.tmp 30), 0, none⟩,
 ⟨some 8, .assign (.tmp 31), 3, none⟩] [0, 1, 5, 6, 7, 8]) (sg c7S13))
noncomputable def c7S15 (_ : Unit) : Cmd := (.seq (.ops [
 ⟨some 23, .move (.tmp 0), 3, none⟩,
 ⟨some 24, .call ⟨.value (.func 21), #[(.tmp 23)], #[3]⟩, 43, none⟩,
 ⟨some 22, .move (.tmp 24), 43, none⟩,
 ⟨some 25, .extract (.tmp 22) 0, 23, none⟩,
 ⟨some 26, .extract (.tmp 22) 1, 29, none⟩,
 ⟨some 5, .assign (.tmp 25), 23, none⟩,
 ⟨some 6, .assign (.tmp 26), 29, none⟩] [0, 1, 5, 6]) (sg c7S14))
noncomputable def c7 : Cmd := (.seq (.ops [
 ⟨some 4, .assign (.const (.bool false)), 4, none⟩] [0, 1])
 (.seq (.seq (.ops [
 ⟨some 15, .move (.tmp 0), 3, none⟩,
 ⟨some 16, .binOp .gtr 3 (.tmp 15) (.const (.int .i64 12)) 3, 4, none⟩,
 ⟨some 17, .move (.tmp 16), 4, none⟩,
 ⟨some 18, .move (.tmp 0), 3, (some (17, true))⟩,
 ⟨some 19, .binOp .leq 3 (.tmp 18) (.const (.int .i64 2048)) 3, 4, (some (17, true))⟩,
 ⟨some 20, .pick (.tmp 17) (.tmp 19) (.const (.bool false)), 4, none⟩] [0, 1, 20])
 (.cond (.tmp 20)
  (.seq (.ops [
  ⟨some 21, .call ⟨.value (.func 18), #[], #[]⟩, 4, none⟩,
  ⟨some 4, .assign (.tmp 21), 4, none⟩] [4]) (sg c7S0))
  (.skip [0, 1]))) (sg c7S15)))
noncomputable def c7D0 : List (Nat × Ins) := [
 (0, ⟨some 32, .move (.tmp 6), 29, none⟩),
 (0, ⟨some 33, .move (.tmp 8), 3, none⟩),
 (0, ⟨some 34, .binOp .neq 3 (.tmp 32) (.tmp 33) 3, 4, none⟩),
 (0, ⟨some 35, .move (.tmp 34), 4, none⟩),
 (0, ⟨some 36, .move (.tmp 5), 23, (some (35, false))⟩),
 (0, ⟨some 37, .binOp .neq 23 (.tmp 36) (.const (.pointer none)) 23, 4, (some (35, false))⟩),
 (0, ⟨some 38, .move (.tmp 8), 3, (some (35, false))⟩),
 (0, ⟨some 39, .binOp .eql 3 (.tmp 38) (.const (.int .i64 0)) 3, 4, (some (35, false))⟩),
 (0, ⟨some 40, .binOp .neq 4 (.tmp 37) (.tmp 39) 4, 4, (some (35, false))⟩),
 (0, ⟨some 41, .pick (.tmp 35) (.const (.bool true)) (.tmp 40), 4, none⟩),
 (0, ⟨some 42, .move (.tmp 41), 4, none⟩),
 (0, ⟨some 43, .move (.tmp 5), 23, (some (42, false))⟩),
 (0, ⟨some 45, .fieldAddr 48 (.tmp 7) 0, 0, (some (42, false))⟩),
 (1, ⟨some 46, .load 45 (.tmp 45), 45, (some (42, false))⟩),
 (0, ⟨some 47, .call ⟨.builtin .len, #[(.tmp 46)], #[45]⟩, 3, (some (42, false))⟩),
 (2, ⟨some 44, .call ⟨.value (.func 23), #[(.tmp 43)], #[23]⟩, 3, (some (42, false))⟩),
 (0, ⟨some 48, .binOp .neq 3 (.tmp 44) (.tmp 47) 3, 4, (some (42, false))⟩),
 (0, ⟨some 49, .pick (.tmp 42) (.const (.bool true)) (.tmp 48), 4, none⟩)]
theorem c7draw0 {L : List Nat} {ρ : Env} {w : World} {Q : Post} (S : World → Prop) (hS : S w.drew) (h : DG Try.prog S c7D0 L ρ w.drew Q) : drawW Try.prog (drawOps 0 c7code) L ρ w Q :=
  drawW_held [14] [(0, 0), (0, 1), (0, 2), (0, 3), (0, 4), (0, 5), (0, 6), (0, 7), (0, 8), (0, 9), (0, 10), (0, 11), (0, 13), (1, 14), (0, 15), (2, 12), (0, 16), (0, 17)] c7D0 (by kernel_rfl) (by kernel_rfl) (by kernel_rfl) S hS h
set_option maxRecDepth 100000 in
theorem ent7 (a0 a1 : Value) (w : World) (K : Value → World → Prop) (h : W Try.prog c7 [(0, a0), (1, a1)] w (finQ Try.prog [.tmp 4] K)) : Ret Try.prog 7 [a0, a1] w K :=
  Ret_of_W (code := c7code) Try.func7 (by kernel_rfl) (by kernel_rfl) (of_decide_eq_true (by kernel_rfl)) h
--SIMP 7 c7 c7S0 c7S1 c7S2 c7S3 c7S4 c7S5 c7S6 c7L0 c7S7 c7S8 c7S9 c7L1 c7S10 c7S11 c7S12 c7S13 c7S14 c7S15 TYS 3 4 9 22 23 28 45 48 FNS 16 18 21 22 23 24 25
@[go_sem] theorem go7 : goFunc Try.prog 7 = true := by kernel_rfl
/- Function 8: annalistlaw02.BlockNobody -/
noncomputable def c8code : Code := match Try.f8.body with | some c => c | none => .skip
noncomputable def c8S0 (_ : Unit) : Cmd := (.cond (.tmp 64)
  (.seq (.ops [
  ⟨some 2, .assign (.const (.bool false)), 4, none⟩] [2])
  .ret)
  (.skip [1, 11, 12, 13]))
noncomputable def c8S1 (_ : Unit) : Cmd := (.seq (.ops [
 ⟨some 44, .move (.tmp 5), 9, none⟩,
 ⟨some 45, .binOp .neq 9 (.tmp 44) (.const (.string (ofL []))) 9, 4, none⟩,
 ⟨some 46, .move (.tmp 45), 4, none⟩,
 ⟨some 47, .move (.tmp 6), 29, (some (46, false))⟩,
 ⟨some 48, .binOp .neq 29 (.tmp 47) (.const (.int .i64 3)) 29, 4, (some (46, false))⟩,
 ⟨some 49, .pick (.tmp 46) (.const (.bool true)) (.tmp 48), 4, none⟩,
 ⟨some 50, .move (.tmp 49), 4, none⟩,
 ⟨some 51, .move (.tmp 7), 29, (some (50, false))⟩,
 ⟨some 52, .move (.tmp 6), 29, (some (50, false))⟩,
 ⟨some 53, .binOp .neq 29 (.tmp 51) (.tmp 52) 29, 4, (some (50, false))⟩,
 ⟨some 54, .pick (.tmp 50) (.const (.bool true)) (.tmp 53), 4, none⟩,
 ⟨some 55, .move (.tmp 54), 4, none⟩,
 ⟨some 56, .move (.tmp 8), 29, (some (55, false))⟩,
 ⟨some 57, .move (.tmp 6), 29, (some (55, false))⟩,
 ⟨some 58, .binOp .neq 29 (.tmp 56) (.tmp 57) 29, 4, (some (55, false))⟩,
 ⟨some 59, .pick (.tmp 55) (.const (.bool true)) (.tmp 58), 4, none⟩,
 ⟨some 60, .move (.tmp 59), 4, none⟩,
 ⟨some 61, .move (.tmp 4), 23, (some (60, false))⟩,
 ⟨some 62, .call ⟨.value (.func 23), #[(.tmp 61)], #[23]⟩, 3, (some (60, false))⟩,
 ⟨some 63, .binOp .neq 3 (.tmp 62) (.const (.int .i64 0)) 3, 4, (some (60, false))⟩,
 ⟨some 64, .pick (.tmp 60) (.const (.bool true)) (.tmp 63), 4, none⟩] [1, 11, 12, 13, 64]) (sg c8S0))
noncomputable def c8S2 (_ : Unit) : Cmd := (.seq (.ops [
 ⟨some 36, .move (.tmp 4), 23, none⟩,
 ⟨some 37, .fieldAddr 28 (.tmp 1) 3, 0, none⟩,
 ⟨some 38, .load 26 (.tmp 37), 26, none⟩,
 ⟨some 39, .fieldAddr 28 (.tmp 1) 4, 0, none⟩,
 ⟨some 40, .load 3 (.tmp 39), 3, none⟩,
 ⟨some 41, .fieldAddr 28 (.tmp 1) 5, 0, none⟩,
 ⟨some 42, .load 3 (.tmp 41), 3, none⟩,
 ⟨some 43, .call ⟨.value (.func 19), #[(.tmp 36), (.tmp 38), (.tmp 40), (.tmp 42)], #[23, 26, 3, 3]⟩, 0, none⟩] [1, 4, 5, 6, 7, 8, 11, 12, 13]) (sg c8S1))
noncomputable def c8S3 (_ : Unit) : Cmd := (.seq (.ops [
 ⟨some 32, .move (.tmp 4), 23, none⟩,
 ⟨some 33, .fieldAddr 28 (.tmp 1) 1, 0, none⟩,
 ⟨some 34, .load 3 (.tmp 33), 3, none⟩,
 ⟨some 35, .call ⟨.value (.func 20), #[(.tmp 32), (.tmp 34)], #[23, 3]⟩, 0, none⟩] [1, 4, 5, 6, 7, 8, 11, 12, 13]) (sg c8S2))
noncomputable def c8S4 (_ : Unit) : Cmd := (.seq (.ops [
 ⟨some 30, .move (.tmp 4), 23, none⟩,
 ⟨some 31, .call ⟨.value (.func 15), #[(.tmp 30)], #[23]⟩, 29, none⟩,
 ⟨some 8, .assign (.tmp 31), 29, none⟩] [1, 4, 5, 6, 7, 8, 11, 12, 13]) (sg c8S3))
noncomputable def c8S5 (_ : Unit) : Cmd := (.seq (.ops [
 ⟨some 24, .move (.tmp 4), 23, none⟩,
 ⟨some 25, .fieldAddr 28 (.tmp 1) 1, 0, none⟩,
 ⟨some 26, .load 3 (.tmp 25), 3, none⟩,
 ⟨some 27, .fieldAddr 28 (.tmp 1) 2, 0, none⟩,
 ⟨some 28, .load 9 (.tmp 27), 9, none⟩,
 ⟨some 29, .call ⟨.value (.func 14), #[(.tmp 24), (.tmp 26), (.tmp 28)], #[23, 3, 9]⟩, 29, none⟩,
 ⟨some 7, .assign (.tmp 29), 29, none⟩] [1, 4, 5, 6, 7, 11, 12, 13]) (sg c8S4))
noncomputable def c8S6 (_ : Unit) : Cmd := (.ops [
 ⟨some 65, .binOp .add 3 (.tmp 13) (.const (.int .i64 1)) 3, 3, none⟩,
 ⟨some 13, .move (.tmp 65), 3, none⟩] [1, 11, 12, 13])
noncomputable def c8S7 (_ : Unit) : Cmd := (.seq (.block 1 (.seq (.ops [
 ⟨some 15, .indexAddr 59 (.tmp 11) (.tmp 13), 0, none⟩,
 ⟨some 16, .load 23 (.tmp 15), 23, none⟩,
 ⟨some 4, .assign (.tmp 16), 23, none⟩] [1, 4, 11, 12, 13])
 (.seq (.ops [
 ⟨some 18, .move (.tmp 4), 23, none⟩,
 ⟨some 19, .fieldAddr 28 (.tmp 1) 1, 0, none⟩,
 ⟨some 20, .load 3 (.tmp 19), 3, none⟩,
 ⟨some 21, .call ⟨.value (.func 16), #[(.tmp 18), (.tmp 20)], #[23, 3]⟩, 32, none⟩,
 ⟨some 17, .move (.tmp 21), 32, none⟩,
 ⟨some 22, .extract (.tmp 17) 0, 9, none⟩,
 ⟨some 23, .extract (.tmp 17) 1, 29, none⟩,
 ⟨some 5, .assign (.tmp 22), 9, none⟩,
 ⟨some 6, .assign (.tmp 23), 29, none⟩] [1, 4, 5, 6, 11, 12, 13]) (sg c8S5)))) (sg c8S6))
noncomputable def c8L0 (_ : Unit) : Cmd := (.seq (.ops [
 ⟨some 14, .binOp .lss 3 (.tmp 13) (.tmp 12) 3, 0, none⟩] [1, 11, 12, 13, 14])
 (.seq (.cond (.tmp 14)
  (.skip [1, 11, 12, 13])
  (.exit 0 [])) (sg c8S7)))
noncomputable def c8S8 (_ : Unit) : Cmd := .ret
noncomputable def c8S9 (_ : Unit) : Cmd := (.seq (.ops [
 ⟨some 66, .call ⟨.value (.func 18), #[], #[]⟩, 4, none⟩,
 ⟨some 2, .assign (.tmp 66), 4, none⟩] [2]) (sg c8S8))
noncomputable def c8 : Cmd := (.seq (.ops [
 ⟨some 1, .box 28 (.tmp 0), 0, none⟩,
 ⟨some 2, .assign (.const (.bool false)), 4, none⟩] [1])
 (.seq (.seq (.ops [
 ⟨some 9, .build 58 #[], 58, none⟩,
 ⟨some 10, .box 58 (.tmp 9), 23, none⟩,
 ⟨some 11, .buildSlice 59 2 #[(0, (.const (.pointer none))), (1, (.tmp 10))], 59, none⟩,
 ⟨some 12, .call ⟨.builtin .len, #[(.tmp 11)], #[59]⟩, 3, none⟩,
 ⟨some 13, .move (.const (.int .i64 0)), 3, none⟩] [1, 11, 12, 13])
 (.block 0 (.loop (sg c8L0)))) (sg c8S9)))
set_option maxRecDepth 100000 in
theorem ent8 (a0 : Value) (w : World) (K : Value → World → Prop) (h : W Try.prog c8 [(0, a0)] w (finQ Try.prog [.tmp 2] K)) : Ret Try.prog 8 [a0] w K :=
  Ret_of_W (code := c8code) Try.func8 (by kernel_rfl) (by kernel_rfl) (of_decide_eq_true (by kernel_rfl)) h
--SIMP 8 c8 c8S0 c8S1 c8S2 c8S3 c8S4 c8S5 c8S6 c8S7 c8L0 c8S8 c8S9 TYS 3 9 23 26 28 29 58 59 FNS 14 15 16 18 19 20 23
@[go_sem] theorem go8 : goFunc Try.prog 8 = true := by kernel_rfl
/- Function 13: annalistlaw02.some -/
noncomputable def c13code : Code := match Try.f13.body with | some c => c | none => .skip
noncomputable def c13S0 (_ : Unit) : Cmd := (.seq (.ops [
 ⟨some 9, .move (.tmp 1), 23, none⟩,
 ⟨some 0, .assign (.tmp 9), 23, none⟩] [0])
 .ret)
noncomputable def c13S1 (_ : Unit) : Cmd := (.seq (.seq (.ops [
 ⟨some 7, .move (.tmp 2), 29, none⟩,
 ⟨some 8, .binOp .neq 29 (.tmp 7) (.const (.int .i64 0)) 29, 4, none⟩] [1, 8])
 (.cond (.tmp 8)
  (.seq (.ops [
  ⟨some 0, .assign (.const (.pointer none)), 23, none⟩] [0])
  .ret)
  (.skip [1]))) (sg c13S0))
noncomputable def c13 : Cmd := (.seq (.ops [
 ⟨some 0, .assign (.const (.pointer none)), 23, none⟩] [])
 (.seq (.ops [
 ⟨some 4, .call ⟨.value (.func 21), #[(.const (.int .i64 6))], #[3]⟩, 43, none⟩,
 ⟨some 3, .move (.tmp 4), 43, none⟩,
 ⟨some 5, .extract (.tmp 3) 0, 23, none⟩,
 ⟨some 6, .extract (.tmp 3) 1, 29, none⟩,
 ⟨some 1, .assign (.tmp 5), 23, none⟩,
 ⟨some 2, .assign (.tmp 6), 29, none⟩] [1, 2]) (sg c13S1)))
set_option maxRecDepth 100000 in
theorem ent13 (w : World) (K : Value → World → Prop) (h : W Try.prog c13 [] w (finQ Try.prog [.tmp 0] K)) : Ret Try.prog 13 [] w K :=
  Ret_of_W (code := c13code) Try.func13 (by kernel_rfl) (by kernel_rfl) (of_decide_eq_true (by kernel_rfl)) h
--SIMP 13 c13 c13S0 c13S1 TYS 29 FNS 21
@[go_sem] theorem go13 : goFunc Try.prog 13 = true := by kernel_rfl
/- Function 14: (*block.Disk).Write -/
noncomputable def c14code : Code := match Try.f14.body with | some c => c | none => .skip
noncomputable def c14S0 (_ : Unit) : Cmd := (.seq (.ops [
 ⟨some 44, .move (.tmp 7), 29, none⟩,
 ⟨some 6, .assign (.tmp 44), 29, none⟩] [6])
 .ret)
noncomputable def c14S1 (_ : Unit) : Cmd := (.seq (.seq (.ops [
 ⟨some 22, .move (.tmp 7), 29, none⟩,
 ⟨some 23, .binOp .eql 29 (.tmp 22) (.const (.int .i64 0)) 29, 4, none⟩] [0, 1, 2, 7, 23])
 (.cond (.tmp 23)
  (.draw (drawOps 0 c14code) [7])
  (.skip [7]))) (sg c14S0))
noncomputable def c14S2 (_ : Unit) : Cmd := (.seq (.seq (.ops [
 ⟨some 18, .move (.tmp 7), 29, none⟩,
 ⟨some 19, .binOp .eql 29 (.tmp 18) (.const (.int .i64 0)) 29, 4, none⟩] [0, 1, 2, 7, 19])
 (.cond (.tmp 19)
  (.ops [
  ⟨some 20, .move (.tmp 0), 23, none⟩,
  ⟨some 21, .call ⟨.value (.func 43), #[(.tmp 20)], #[23]⟩, 29, none⟩,
  ⟨some 7, .assign (.tmp 21), 29, none⟩] [0, 1, 2, 7])
  (.skip [0, 1, 2, 7]))) (sg c14S1))
noncomputable def c14S3 (_ : Unit) : Cmd := (.seq (.seq (.ops [
 ⟨some 11, .move (.tmp 7), 29, none⟩,
 ⟨some 12, .binOp .eql 29 (.tmp 11) (.const (.int .i64 0)) 29, 4, none⟩,
 ⟨some 13, .move (.tmp 12), 4, none⟩,
 ⟨some 14, .move (.tmp 2), 9, (some (13, true))⟩,
 ⟨some 15, .call ⟨.builtin .len, #[(.tmp 14)], #[9]⟩, 3, (some (13, true))⟩,
 ⟨some 16, .binOp .gtr 3 (.tmp 15) (.const (.int .i64 256)) 3, 4, (some (13, true))⟩,
 ⟨some 17, .pick (.tmp 13) (.tmp 16) (.const (.bool false)), 4, none⟩] [0, 1, 2, 7, 17])
 (.cond (.tmp 17)
  (.ops [
  ⟨some 7, .assign (.const (.int .i64 21)), 29, none⟩] [0, 1, 2, 7])
  (.skip [0, 1, 2, 7]))) (sg c14S2))
noncomputable def c14 : Cmd := (.seq (.ops [
 ⟨some 6, .assign (.const (.int .i64 0)), 29, none⟩] [0, 1, 2])
 (.seq (.ops [
 ⟨some 8, .move (.tmp 0), 23, none⟩,
 ⟨some 9, .move (.tmp 1), 3, none⟩,
 ⟨some 10, .call ⟨.value (.func 42), #[(.tmp 8), (.tmp 9)], #[23, 3]⟩, 29, none⟩,
 ⟨some 7, .assign (.tmp 10), 29, none⟩] [0, 1, 2, 7]) (sg c14S3)))
noncomputable def c14D0 : List (Nat × Ins) := [
 (0, ⟨some 24, .move (.tmp 0), 23, none⟩),
 (0, ⟨some 25, .move (.tmp 0), 23, none⟩),
 (0, ⟨some 26, .nilCheck (.tmp 25), 0, none⟩),
 (0, ⟨some 27, .fieldAddr 58 (.tmp 26) 1, 0, none⟩),
 (0, ⟨some 29, .move (.tmp 1), 3, none⟩),
 (0, ⟨some 30, .move (.tmp 2), 9, none⟩),
 (0, ⟨some 31, .move (.tmp 0), 23, none⟩),
 (0, ⟨some 32, .nilCheck (.tmp 31), 0, none⟩),
 (0, ⟨some 33, .fieldAddr 58 (.tmp 32) 4, 0, none⟩),
 (0, ⟨some 35, .move (.tmp 2), 9, none⟩),
 (0, ⟨some 36, .call ⟨.builtin .len, #[(.tmp 35)], #[9]⟩, 3, none⟩),
 (1, ⟨some 28, .load 56 (.tmp 27), 56, none⟩),
 (2, ⟨some 34, .load 9 (.tmp 33), 9, none⟩),
 (0, ⟨some 37, .slice 9 (.tmp 34) (some (.tmp 36)) none none, 9, none⟩),
 (0, ⟨some 38, .binOp .add 9 (.tmp 30) (.tmp 37) 9, 9, none⟩),
 (2, ⟨some 39, .build 88 #[(0, (.tmp 29)), (1, (.tmp 38))], 88, none⟩),
 (2, ⟨some 40, .buildSlice 56 1 #[(0, (.tmp 39))], 56, none⟩),
 (3, ⟨some 41, .call ⟨.builtin .append, #[(.tmp 28), (.tmp 40)], #[56, 56]⟩, 56, none⟩),
 (0, ⟨some 42, .nilCheck (.tmp 24), 0, none⟩),
 (0, ⟨some 43, .fieldAddr 58 (.tmp 42) 1, 0, none⟩),
 (3, ⟨none, .store 56 (.tmp 43) (.tmp 41), 0, none⟩)]
theorem c14draw0 {L : List Nat} {ρ : Env} {w : World} {Q : Post} (S : World → Prop) (hS : S w.drew) (h : DG Try.prog S c14D0 L ρ w.drew Q) : drawW Try.prog (drawOps 0 c14code) L ρ w Q :=
  drawW_held [4] [(0, 0), (0, 1), (0, 2), (0, 3), (0, 5), (0, 6), (0, 7), (0, 8), (0, 9), (0, 11), (0, 12), (1, 4), (2, 10), (0, 13), (0, 14), (2, 15), (2, 16), (3, 17), (0, 18), (0, 19), (3, 20)] c14D0 (by kernel_rfl) (by kernel_rfl) (by kernel_rfl) S hS h
set_option maxRecDepth 100000 in
theorem ent14 (a0 a1 a2 : Value) (w : World) (K : Value → World → Prop) (h : W Try.prog c14 [(0, a0), (1, a1), (2, a2)] w (finQ Try.prog [.tmp 6] K)) : Ret Try.prog 14 [a0, a1, a2] w K :=
  Ret_of_W (code := c14code) Try.func14 (by kernel_rfl) (by kernel_rfl) (of_decide_eq_true (by kernel_rfl)) h
--SIMP 14 c14 c14S0 c14S1 c14S2 c14S3 TYS 3 9 29 56 58 88 FNS 42 43
@[go_sem] theorem go14 : goFunc Try.prog 14 = true := by kernel_rfl
/- Function 15: (*block.Disk).Flush -/
noncomputable def c15code : Code := match Try.f15.body with | some c => c | none => .skip
noncomputable def c15S0 (_ : Unit) : Cmd := (.ops [
 ⟨some 32, .binOp .add 3 (.tmp 19) (.const (.int .i64 1)) 3, 3, none⟩,
 ⟨some 19, .move (.tmp 32), 3, none⟩] [0, 3, 17, 18, 19])
noncomputable def c15S1 (_ : Unit) : Cmd := (.seq (.block 1 (.seq (.ops [
 ⟨some 21, .indexAddr 56 (.tmp 17) (.tmp 19), 0, none⟩,
 ⟨some 22, .load 88 (.tmp 21), 88, none⟩,
 ⟨some 5, .alloc 88, 0, none⟩,
 ⟨none, .store 88 (.tmp 5) (.tmp 22), 0, none⟩] [0, 3, 5, 17, 18, 19])
 (.draw (drawOps 0 c15code) [0, 3, 17, 18, 19]))) (sg c15S0))
noncomputable def c15L0 (_ : Unit) : Cmd := (.seq (.ops [
 ⟨some 20, .binOp .lss 3 (.tmp 19) (.tmp 18) 3, 0, none⟩] [0, 3, 17, 18, 19, 20])
 (.seq (.cond (.tmp 20)
  (.skip [0, 3, 17, 18, 19])
  (.exit 0 [0, 3])) (sg c15S1)))
noncomputable def c15S2 (_ : Unit) : Cmd := (.ops [
  ⟨some 33, .move (.tmp 0), 23, none⟩,
  ⟨some 34, .nilCheck (.tmp 33), 0, none⟩,
  ⟨some 35, .fieldAddr 58 (.tmp 34) 1, 0, none⟩,
  ⟨none, .store 56 (.tmp 35) (.const (.slice none 0 0)), 0, none⟩] [3])
noncomputable def c15S3 (_ : Unit) : Cmd := (.seq (.ops [
 ⟨some 36, .move (.tmp 3), 29, none⟩,
 ⟨some 2, .assign (.tmp 36), 29, none⟩] [2])
 .ret)
noncomputable def c15S4 (_ : Unit) : Cmd := (.seq (.seq (.ops [
 ⟨some 12, .move (.tmp 3), 29, none⟩,
 ⟨some 13, .binOp .eql 29 (.tmp 12) (.const (.int .i64 0)) 29, 4, none⟩] [0, 3, 13])
 (.cond (.tmp 13)
  (.seq (.seq (.ops [
  ⟨some 14, .move (.tmp 0), 23, none⟩,
  ⟨some 15, .nilCheck (.tmp 14), 0, none⟩,
  ⟨some 16, .fieldAddr 58 (.tmp 15) 1, 0, none⟩,
  ⟨some 17, .load 56 (.tmp 16), 56, none⟩,
  ⟨some 18, .call ⟨.builtin .len, #[(.tmp 17)], #[56]⟩, 3, none⟩,
  ⟨some 19, .move (.const (.int .i64 0)), 3, none⟩] [0, 3, 17, 18, 19])
  (.block 0 (.loop (sg c15L0)))) (sg c15S2))
  (.skip [3]))) (sg c15S3))
noncomputable def c15S5 (_ : Unit) : Cmd := (.seq (.seq (.ops [
 ⟨some 8, .move (.tmp 3), 29, none⟩,
 ⟨some 9, .binOp .eql 29 (.tmp 8) (.const (.int .i64 0)) 29, 4, none⟩] [0, 3, 9])
 (.cond (.tmp 9)
  (.ops [
  ⟨some 10, .move (.tmp 0), 23, none⟩,
  ⟨some 11, .call ⟨.value (.func 43), #[(.tmp 10)], #[23]⟩, 29, none⟩,
  ⟨some 3, .assign (.tmp 11), 29, none⟩] [0, 3])
  (.skip [0, 3]))) (sg c15S4))
noncomputable def c15 : Cmd := (.seq (.ops [
 ⟨some 2, .assign (.const (.int .i64 0)), 29, none⟩] [0])
 (.seq (.ops [
 ⟨some 6, .move (.tmp 0), 23, none⟩,
 ⟨some 7, .call ⟨.value (.func 42), #[(.tmp 6), (.const (.int .i64 0))], #[23, 3]⟩, 29, none⟩,
 ⟨some 3, .assign (.tmp 7), 29, none⟩] [0, 3]) (sg c15S5)))
noncomputable def c15D0 : List (Nat × Ins) := [
 (0, ⟨some 23, .move (.tmp 0), 23, none⟩),
 (0, ⟨some 24, .nilCheck (.tmp 23), 0, none⟩),
 (0, ⟨some 25, .fieldAddr 58 (.tmp 24) 0, 0, none⟩),
 (0, ⟨some 27, .fieldAddr 88 (.tmp 5) 0, 0, none⟩),
 (0, ⟨some 29, .fieldAddr 88 (.tmp 5) 1, 0, none⟩),
 (1, ⟨some 26, .load 45 (.tmp 25), 45, none⟩),
 (1, ⟨some 28, .load 3 (.tmp 27), 3, none⟩),
 (2, ⟨some 30, .load 9 (.tmp 29), 9, none⟩),
 (0, ⟨some 31, .indexAddr 45 (.tmp 26) (.tmp 28), 0, none⟩),
 (3, ⟨none, .store 9 (.tmp 31) (.tmp 30), 0, none⟩)]
theorem c15draw0 {L : List Nat} {ρ : Env} {w : World} {Q : Post} (S : World → Prop) (hS : S w.drew) (h : DG Try.prog S c15D0 L ρ w.drew Q) : drawW Try.prog (drawOps 0 c15code) L ρ w Q :=
  drawW_held [3, 5] [(0, 0), (0, 1), (0, 2), (0, 4), (0, 6), (1, 3), (1, 5), (2, 7), (0, 8), (3, 9)] c15D0 (by kernel_rfl) (by kernel_rfl) (by kernel_rfl) S hS h
set_option maxRecDepth 100000 in
theorem ent15 (a0 : Value) (w : World) (K : Value → World → Prop) (h : W Try.prog c15 [(0, a0)] w (finQ Try.prog [.tmp 2] K)) : Ret Try.prog 15 [a0] w K :=
  Ret_of_W (code := c15code) Try.func15 (by kernel_rfl) (by kernel_rfl) (of_decide_eq_true (by kernel_rfl)) h
--SIMP 15 c15 c15S0 c15S1 c15L0 c15S2 c15S3 c15S4 c15S5 TYS 3 9 29 45 56 58 88 FNS 42 43
@[go_sem] theorem go15 : goFunc Try.prog 15 = true := by kernel_rfl
/- Function 16: (*block.Disk).Read -/
noncomputable def c16code : Code := match Try.f16.body with | some c => c | none => .skip
noncomputable def c16S0 (_ : Unit) : Cmd := (.seq (.ops [
 ⟨some 13, .move (.tmp 6), 29, none⟩,
 ⟨some 14, .binOp .neq 29 (.tmp 13) (.const (.int .i64 0)) 29, 4, none⟩] [0, 1, 6, 14])
 (.cond (.tmp 14)
  (.seq (.ops [
  ⟨some 15, .move (.tmp 6), 29, none⟩,
  ⟨some 4, .assign (.const (.string (ofL []))), 9, none⟩,
  ⟨some 5, .assign (.tmp 15), 29, none⟩] [4, 5])
  .ret)
  (.skip [0, 1])))
noncomputable def c16S1 (_ : Unit) : Cmd := (.ops [
 ⟨some 38, .binOp .add 3 (.tmp 28) (.const (.int .i64 1)) 3, 3, none⟩,
 ⟨some 28, .move (.tmp 38), 3, none⟩] [1, 7, 26, 27, 28])
noncomputable def c16S2 (_ : Unit) : Cmd := (.seq (.block 1 (.seq (.ops [
 ⟨some 30, .indexAddr 56 (.tmp 26) (.tmp 28), 0, none⟩,
 ⟨some 31, .load 88 (.tmp 30), 88, none⟩,
 ⟨some 9, .alloc 88, 0, none⟩,
 ⟨none, .store 88 (.tmp 9) (.tmp 31), 0, none⟩] [1, 7, 9, 26, 27, 28])
 (.seq (.ops [
 ⟨some 32, .fieldAddr 88 (.tmp 9) 0, 0, none⟩,
 ⟨some 33, .load 3 (.tmp 32), 3, none⟩,
 ⟨some 34, .move (.tmp 1), 3, none⟩,
 ⟨some 35, .binOp .eql 3 (.tmp 33) (.tmp 34) 3, 4, none⟩] [1, 7, 9, 26, 27, 28, 35])
 (.cond (.tmp 35)
  (.ops [
  ⟨some 36, .fieldAddr 88 (.tmp 9) 1, 0, none⟩,
  ⟨some 37, .load 9 (.tmp 36), 9, none⟩,
  ⟨some 7, .assign (.tmp 37), 9, none⟩] [1, 7, 26, 27, 28])
  (.skip [1, 7, 26, 27, 28]))))) (sg c16S1))
noncomputable def c16L0 (_ : Unit) : Cmd := (.seq (.ops [
 ⟨some 29, .binOp .lss 3 (.tmp 28) (.tmp 27) 3, 0, none⟩] [1, 7, 26, 27, 28, 29])
 (.seq (.cond (.tmp 29)
  (.skip [1, 7, 26, 27, 28])
  (.exit 0 [7])) (sg c16S2)))
noncomputable def c16S3 (_ : Unit) : Cmd := (.seq (.ops [
 ⟨some 39, .move (.tmp 7), 9, none⟩,
 ⟨some 4, .assign (.tmp 39), 9, none⟩,
 ⟨some 5, .assign (.const (.int .i64 0)), 29, none⟩] [4, 5])
 .ret)
noncomputable def c16S4 (_ : Unit) : Cmd := (.seq (.ops [
 ⟨some 16, .move (.tmp 0), 23, none⟩,
 ⟨some 17, .nilCheck (.tmp 16), 0, none⟩,
 ⟨some 18, .fieldAddr 58 (.tmp 17) 0, 0, none⟩,
 ⟨some 19, .load 45 (.tmp 18), 45, none⟩,
 ⟨some 20, .move (.tmp 1), 3, none⟩,
 ⟨some 21, .indexAddr 45 (.tmp 19) (.tmp 20), 0, none⟩,
 ⟨some 22, .load 9 (.tmp 21), 9, none⟩,
 ⟨some 7, .assign (.tmp 22), 9, none⟩] [0, 1, 7])
 (.seq (.seq (.ops [
 ⟨some 23, .move (.tmp 0), 23, none⟩,
 ⟨some 24, .nilCheck (.tmp 23), 0, none⟩,
 ⟨some 25, .fieldAddr 58 (.tmp 24) 1, 0, none⟩,
 ⟨some 26, .load 56 (.tmp 25), 56, none⟩,
 ⟨some 27, .call ⟨.builtin .len, #[(.tmp 26)], #[56]⟩, 3, none⟩,
 ⟨some 28, .move (.const (.int .i64 0)), 3, none⟩] [1, 7, 26, 27, 28])
 (.block 0 (.loop (sg c16L0)))) (sg c16S3)))
noncomputable def c16 : Cmd := (.seq (.ops [
 ⟨some 4, .assign (.const (.string (ofL []))), 9, none⟩,
 ⟨some 5, .assign (.const (.int .i64 0)), 29, none⟩] [0, 1])
 (.seq (.seq (.ops [
 ⟨some 10, .move (.tmp 0), 23, none⟩,
 ⟨some 11, .move (.tmp 1), 3, none⟩,
 ⟨some 12, .call ⟨.value (.func 42), #[(.tmp 10), (.tmp 11)], #[23, 3]⟩, 29, none⟩,
 ⟨some 6, .assign (.tmp 12), 29, none⟩] [0, 1, 6]) (sg c16S0)) (sg c16S4)))
set_option maxRecDepth 100000 in
theorem ent16 (a0 a1 : Value) (w : World) (K : Value → World → Prop) (h : W Try.prog c16 [(0, a0), (1, a1)] w (finQ Try.prog [.tmp 4, .tmp 5] K)) : Ret Try.prog 16 [a0, a1] w K :=
  Ret_of_W (code := c16code) Try.func16 (by kernel_rfl) (by kernel_rfl) (of_decide_eq_true (by kernel_rfl)) h
--SIMP 16 c16 c16S0 c16S1 c16S2 c16L0 c16S3 c16S4 TYS 3 9 29 45 56 58 88 FNS 42
@[go_sem] theorem go16 : goFunc Try.prog 16 = true := by kernel_rfl
/- Function 17: annalistref02.Filled -/
noncomputable def c17code : Code := match Try.f17.body with | some c => c | none => .skip
noncomputable def c17 : Cmd := (.seq (.ops [
 ⟨some 2, .assign (.const (.string (ofL []))), 9, none⟩] [0])
 (.seq (.ops [
 ⟨some 3, .move (.tmp 0), 9, none⟩,
 ⟨some 4, .move (.tmp 0), 9, none⟩,
 ⟨some 5, .call ⟨.builtin .len, #[(.tmp 4)], #[9]⟩, 3, none⟩,
 ⟨some 6, .binOp .sub 3 (.const (.int .i64 256)) (.tmp 5) 3, 3, none⟩,
 ⟨some 7, .makeSlice 89 (.tmp 6) (.tmp 6), 89, none⟩,
 ⟨some 8, .convert 89 9 (.tmp 7), 9, none⟩,
 ⟨some 9, .binOp .add 9 (.tmp 3) (.tmp 8) 9, 9, none⟩,
 ⟨some 2, .assign (.tmp 9), 9, none⟩] [2])
 .ret))
set_option maxRecDepth 100000 in
theorem ent17 (a0 : Value) (w : World) (K : Value → World → Prop) (h : W Try.prog c17 [(0, a0)] w (finQ Try.prog [.tmp 2] K)) : Ret Try.prog 17 [a0] w K :=
  Ret_of_W (code := c17code) Try.func17 (by kernel_rfl) (by kernel_rfl) (of_decide_eq_true (by kernel_rfl)) h
--SIMP 17 c17 TYS 3 9 89 FNS 
@[go_sem] theorem go17 : goFunc Try.prog 17 = true := by kernel_rfl
/- Function 18: annalistlaw02.awake -/
noncomputable def c18code : Code := match Try.f18.body with | some c => c | none => .skip
noncomputable def c18S0 (_ : Unit) : Cmd := (.cond (.tmp 21)
  (.seq (.ops [
  ⟨some 0, .assign (.const (.bool false)), 4, none⟩] [0])
  .ret)
  (.skip [1]))
noncomputable def c18S1 (_ : Unit) : Cmd := (.seq (.ops [
 ⟨some 29, .move (.tmp 3), 29, none⟩,
 ⟨some 30, .binOp .eql 29 (.tmp 29) (.const (.int .i64 0)) 29, 4, none⟩,
 ⟨some 31, .move (.tmp 30), 4, none⟩,
 ⟨some 32, .move (.tmp 2), 9, (some (31, true))⟩,
 ⟨some 33, .call ⟨.builtin .len, #[(.tmp 32)], #[9]⟩, 3, (some (31, true))⟩,
 ⟨some 34, .binOp .eql 3 (.tmp 33) (.const (.int .i64 256)) 3, 4, (some (31, true))⟩,
 ⟨some 35, .pick (.tmp 31) (.tmp 34) (.const (.bool false)), 4, none⟩,
 ⟨some 36, .move (.tmp 35), 4, none⟩,
 ⟨some 37, .move (.tmp 2), 9, (some (36, true))⟩,
 ⟨some 38, .slice 9 (.tmp 37) none (some (.const (.int .i64 2))) none, 9, (some (36, true))⟩,
 ⟨some 39, .binOp .eql 9 (.tmp 38) (.const (.string (ofL [99, 98]))) 9, 4, (some (36, true))⟩,
 ⟨some 40, .pick (.tmp 36) (.tmp 39) (.const (.bool false)), 4, none⟩,
 ⟨some 0, .assign (.tmp 40), 4, none⟩] [0])
 .ret)
noncomputable def c18S2 (_ : Unit) : Cmd := (.seq (.ops [
 ⟨some 25, .move (.tmp 1), 23, none⟩,
 ⟨some 26, .call ⟨.value (.func 16), #[(.tmp 25), (.const (.int .i64 0))], #[23, 3]⟩, 32, none⟩,
 ⟨some 24, .move (.tmp 26), 32, none⟩,
 ⟨some 27, .extract (.tmp 24) 0, 9, none⟩,
 ⟨some 28, .extract (.tmp 24) 1, 29, none⟩,
 ⟨some 2, .assign (.tmp 27), 9, none⟩,
 ⟨some 3, .assign (.tmp 28), 29, none⟩] [2, 3]) (sg c18S1))
noncomputable def c18S3 (_ : Unit) : Cmd := (.seq (.ops [
 ⟨some 22, .move (.tmp 1), 23, none⟩,
 ⟨some 23, .call ⟨.value (.func 19), #[(.tmp 22), (.const (.int .u64 1)), (.const (.int .i64 0)), (.const (.int .i64 1))], #[23, 26, 3, 3]⟩, 0, none⟩] [1]) (sg c18S2))
noncomputable def c18S4 (_ : Unit) : Cmd := (.seq (.seq (.ops [
 ⟨some 5, .move (.tmp 1), 23, none⟩,
 ⟨some 6, .binOp .eql 23 (.tmp 5) (.const (.pointer none)) 23, 4, none⟩,
 ⟨some 7, .move (.tmp 6), 4, none⟩,
 ⟨some 8, .move (.tmp 1), 23, (some (7, false))⟩,
 ⟨some 9, .call ⟨.value (.func 14), #[(.tmp 8), (.const (.int .i64 0)), (.const (.string (ofL [97, 98])))], #[23, 3, 9]⟩, 29, (some (7, false))⟩,
 ⟨some 10, .binOp .neq 29 (.tmp 9) (.const (.int .i64 0)) 29, 4, (some (7, false))⟩,
 ⟨some 11, .pick (.tmp 7) (.const (.bool true)) (.tmp 10), 4, none⟩,
 ⟨some 12, .move (.tmp 11), 4, none⟩,
 ⟨some 13, .move (.tmp 1), 23, (some (12, false))⟩,
 ⟨some 14, .call ⟨.value (.func 15), #[(.tmp 13)], #[23]⟩, 29, (some (12, false))⟩,
 ⟨some 15, .binOp .neq 29 (.tmp 14) (.const (.int .i64 0)) 29, 4, (some (12, false))⟩,
 ⟨some 16, .pick (.tmp 12) (.const (.bool true)) (.tmp 15), 4, none⟩,
 ⟨some 17, .move (.tmp 16), 4, none⟩,
 ⟨some 18, .move (.tmp 1), 23, (some (17, false))⟩,
 ⟨some 19, .call ⟨.value (.func 14), #[(.tmp 18), (.const (.int .i64 0)), (.const (.string (ofL [99, 100])))], #[23, 3, 9]⟩, 29, (some (17, false))⟩,
 ⟨some 20, .binOp .neq 29 (.tmp 19) (.const (.int .i64 0)) 29, 4, (some (17, false))⟩,
 ⟨some 21, .pick (.tmp 17) (.const (.bool true)) (.tmp 20), 4, none⟩] [1, 21]) (sg c18S0)) (sg c18S3))
noncomputable def c18 : Cmd := (.seq (.ops [
 ⟨some 0, .assign (.const (.bool false)), 4, none⟩] [])
 (.seq (.ops [
 ⟨some 4, .call ⟨.value (.func 13), #[], #[]⟩, 23, none⟩,
 ⟨some 1, .assign (.tmp 4), 23, none⟩] [1]) (sg c18S4)))
set_option maxRecDepth 100000 in
theorem ent18 (w : World) (K : Value → World → Prop) (h : W Try.prog c18 [] w (finQ Try.prog [.tmp 0] K)) : Ret Try.prog 18 [] w K :=
  Ret_of_W (code := c18code) Try.func18 (by kernel_rfl) (by kernel_rfl) (of_decide_eq_true (by kernel_rfl)) h
--SIMP 18 c18 c18S0 c18S1 c18S2 c18S3 c18S4 TYS 3 9 23 29 FNS 13 14 15 16 19
@[go_sem] theorem go18 : goFunc Try.prog 18 = true := by kernel_rfl
/- Function 19: (*block.Disk).Crash -/
noncomputable def c19code : Code := match Try.f19.body with | some c => c | none => .skip
noncomputable def c19S0 (_ : Unit) : Cmd := (.draw (drawOps 0 c19code) [0, 1, 2, 3, 9, 16, 17, 18])
noncomputable def c19S1 (_ : Unit) : Cmd := (.draw (drawOps 1 c19code) [0, 1, 2, 3, 16, 17, 18])
noncomputable def c19S2 (_ : Unit) : Cmd := (.seq (.seq (.ops [
 ⟨some 30, .move (.tmp 8), 3, none⟩,
 ⟨some 31, .move (.tmp 2), 3, none⟩,
 ⟨some 32, .binOp .eql 3 (.tmp 30) (.tmp 31) 3, 4, none⟩] [0, 1, 2, 3, 9, 16, 17, 18, 32])
 (.cond (.tmp 32)
  (.seq (.ops [
  ⟨some 33, .move (.tmp 3), 3, none⟩,
  ⟨some 34, .call ⟨.builtin .min, #[(.tmp 33), (.const (.int .i64 256))], #[3, 3]⟩, 3, none⟩,
  ⟨some 35, .call ⟨.builtin .max, #[(.const (.int .i64 0)), (.tmp 34)], #[3, 3]⟩, 3, none⟩,
  ⟨some 10, .assign (.tmp 35), 3, none⟩] [0, 1, 2, 3, 9, 10, 16, 17, 18]) (sg c19S0))
  (.skip [0, 1, 2, 3, 9, 16, 17, 18]))) (sg c19S1))
noncomputable def c19S3 (_ : Unit) : Cmd := (.ops [
 ⟨some 61, .binOp .add 3 (.tmp 18) (.const (.int .i64 1)) 3, 3, none⟩,
 ⟨some 18, .move (.tmp 61), 3, none⟩] [0, 1, 2, 3, 16, 17, 18])
noncomputable def c19S4 (_ : Unit) : Cmd := (.seq (.block 1 (.seq (.ops [
 ⟨some 20, .move (.tmp 18), 3, none⟩,
 ⟨some 21, .indexAddr 56 (.tmp 16) (.tmp 18), 0, none⟩,
 ⟨some 22, .load 88 (.tmp 21), 88, none⟩,
 ⟨some 9, .alloc 88, 0, none⟩,
 ⟨some 8, .assign (.tmp 20), 3, none⟩,
 ⟨none, .store 88 (.tmp 9) (.tmp 22), 0, none⟩] [0, 1, 2, 3, 8, 9, 16, 17, 18])
 (.seq (.seq (.ops [
 ⟨some 23, .move (.tmp 1), 26, none⟩,
 ⟨some 24, .move (.tmp 8), 3, none⟩,
 ⟨some 25, .binOp .and 3 (.tmp 24) (.const (.int .i64 63)) 3, 3, none⟩,
 ⟨some 26, .convert 3 90 (.tmp 25), 90, none⟩,
 ⟨some 27, .binOp .shr 26 (.tmp 23) (.tmp 26) 90, 26, none⟩,
 ⟨some 28, .binOp .and 26 (.tmp 27) (.const (.int .u64 1)) 26, 26, none⟩,
 ⟨some 29, .binOp .eql 26 (.tmp 28) (.const (.int .u64 0)) 26, 4, none⟩] [0, 1, 2, 3, 8, 9, 16, 17, 18, 29])
 (.cond (.tmp 29)
  (.exit 1 [0, 1, 2, 3, 16, 17, 18])
  (.skip [0, 1, 2, 3, 8, 9, 16, 17, 18]))) (sg c19S2)))) (sg c19S3))
noncomputable def c19L0 (_ : Unit) : Cmd := (.seq (.ops [
 ⟨some 19, .binOp .lss 3 (.tmp 18) (.tmp 17) 3, 0, none⟩] [0, 1, 2, 3, 16, 17, 18, 19])
 (.seq (.cond (.tmp 19)
  (.skip [0, 1, 2, 3, 16, 17, 18])
  (.exit 0 [0])) (sg c19S4)))
noncomputable def c19S5 (_ : Unit) : Cmd := (.ops [
 ⟨some 62, .move (.tmp 0), 23, none⟩,
 ⟨some 63, .move (.tmp 0), 23, none⟩,
 ⟨some 64, .move (.tmp 0), 23, none⟩,
 ⟨some 65, .nilCheck (.tmp 62), 0, none⟩,
 ⟨some 66, .fieldAddr 58 (.tmp 65) 1, 0, none⟩,
 ⟨none, .store 56 (.tmp 66) (.const (.slice none 0 0)), 0, none⟩,
 ⟨some 67, .nilCheck (.tmp 63), 0, none⟩,
 ⟨some 68, .fieldAddr 58 (.tmp 67) 2, 0, none⟩,
 ⟨none, .store 3 (.tmp 68) (.const (.int .i64 (-1))), 0, none⟩,
 ⟨some 69, .nilCheck (.tmp 64), 0, none⟩,
 ⟨some 70, .fieldAddr 58 (.tmp 69) 3, 0, none⟩,
 ⟨none, .store 4 (.tmp 70) (.const (.bool false)), 0, none⟩] [])
noncomputable def c19S6 (_ : Unit) : Cmd := (.seq (.seq (.ops [
 ⟨some 13, .move (.tmp 0), 23, none⟩,
 ⟨some 14, .nilCheck (.tmp 13), 0, none⟩,
 ⟨some 15, .fieldAddr 58 (.tmp 14) 1, 0, none⟩,
 ⟨some 16, .load 56 (.tmp 15), 56, none⟩,
 ⟨some 17, .call ⟨.builtin .len, #[(.tmp 16)], #[56]⟩, 3, none⟩,
 ⟨some 18, .move (.const (.int .i64 0)), 3, none⟩] [0, 1, 2, 3, 16, 17, 18])
 (.block 0 (.loop (sg c19L0)))) (sg c19S5))
noncomputable def c19 : Cmd := (.seq (.seq (.ops [
 ⟨some 11, .move (.tmp 0), 23, none⟩,
 ⟨some 12, .binOp .eql 23 (.tmp 11) (.const (.pointer none)) 23, 4, none⟩] [0, 1, 2, 3, 12])
 (.cond (.tmp 12)
  .ret
  (.skip [0, 1, 2, 3]))) (sg c19S6))
noncomputable def c19D0 : List (Nat × Ins) := [
 (0, ⟨some 36, .fieldAddr 88 (.tmp 9) 1, 0, none⟩),
 (0, ⟨some 38, .move (.tmp 10), 3, none⟩),
 (0, ⟨some 40, .move (.tmp 0), 23, none⟩),
 (0, ⟨some 41, .nilCheck (.tmp 40), 0, none⟩),
 (0, ⟨some 42, .fieldAddr 58 (.tmp 41) 0, 0, none⟩),
 (0, ⟨some 44, .fieldAddr 88 (.tmp 9) 0, 0, none⟩),
 (0, ⟨some 48, .move (.tmp 10), 3, none⟩),
 (1, ⟨some 37, .load 9 (.tmp 36), 9, none⟩),
 (0, ⟨some 39, .slice 9 (.tmp 37) none (some (.tmp 38)) none, 9, none⟩),
 (1, ⟨some 43, .load 45 (.tmp 42), 45, none⟩),
 (2, ⟨some 45, .load 3 (.tmp 44), 3, none⟩),
 (0, ⟨some 46, .indexAddr 45 (.tmp 43) (.tmp 45), 0, none⟩),
 (2, ⟨some 47, .load 9 (.tmp 46), 9, none⟩),
 (0, ⟨some 49, .slice 9 (.tmp 47) (some (.tmp 48)) none none, 9, none⟩),
 (0, ⟨some 50, .binOp .add 9 (.tmp 39) (.tmp 49) 9, 9, none⟩),
 (0, ⟨some 51, .fieldAddr 88 (.tmp 9) 1, 0, none⟩),
 (3, ⟨none, .store 9 (.tmp 51) (.tmp 50), 0, none⟩)]
theorem c19draw0 {L : List Nat} {ρ : Env} {w : World} {Q : Post} (S : World → Prop) (hS : S w.drew) (h : DG Try.prog S c19D0 L ρ w.drew Q) : drawW Try.prog (drawOps 0 c19code) L ρ w Q :=
  drawW_held [1, 7] [(0, 0), (0, 2), (0, 4), (0, 5), (0, 6), (0, 8), (0, 12), (1, 1), (0, 3), (1, 7), (2, 9), (0, 10), (2, 11), (0, 13), (0, 14), (0, 15), (3, 16)] c19D0 (by kernel_rfl) (by kernel_rfl) (by kernel_rfl) S hS h
noncomputable def c19D1 : List (Nat × Ins) := [
 (0, ⟨some 52, .move (.tmp 0), 23, none⟩),
 (0, ⟨some 53, .nilCheck (.tmp 52), 0, none⟩),
 (0, ⟨some 54, .fieldAddr 58 (.tmp 53) 0, 0, none⟩),
 (0, ⟨some 56, .fieldAddr 88 (.tmp 9) 0, 0, none⟩),
 (0, ⟨some 58, .fieldAddr 88 (.tmp 9) 1, 0, none⟩),
 (1, ⟨some 55, .load 45 (.tmp 54), 45, none⟩),
 (1, ⟨some 57, .load 3 (.tmp 56), 3, none⟩),
 (2, ⟨some 59, .load 9 (.tmp 58), 9, none⟩),
 (0, ⟨some 60, .indexAddr 45 (.tmp 55) (.tmp 57), 0, none⟩),
 (3, ⟨none, .store 9 (.tmp 60) (.tmp 59), 0, none⟩)]
theorem c19draw1 {L : List Nat} {ρ : Env} {w : World} {Q : Post} (S : World → Prop) (hS : S w.drew) (h : DG Try.prog S c19D1 L ρ w.drew Q) : drawW Try.prog (drawOps 1 c19code) L ρ w Q :=
  drawW_held [3, 5] [(0, 0), (0, 1), (0, 2), (0, 4), (0, 6), (1, 3), (1, 5), (2, 7), (0, 8), (3, 9)] c19D1 (by kernel_rfl) (by kernel_rfl) (by kernel_rfl) S hS h
set_option maxRecDepth 100000 in
theorem ent19 (a0 a1 a2 a3 : Value) (w : World) (K : Value → World → Prop) (h : W Try.prog c19 [(0, a0), (1, a1), (2, a2), (3, a3)] w (finQ Try.prog [] K)) : Ret Try.prog 19 [a0, a1, a2, a3] w K :=
  Ret_of_W (code := c19code) Try.func19 (by kernel_rfl) (by kernel_rfl) (of_decide_eq_true (by kernel_rfl)) h
--SIMP 19 c19 c19S0 c19S1 c19S2 c19S3 c19S4 c19L0 c19S5 c19S6 TYS 3 4 9 23 26 45 56 58 88 90 FNS 
@[go_sem] theorem go19 : goFunc Try.prog 19 = true := by kernel_rfl
/- Function 20: (*block.Disk).Limit -/
noncomputable def c20code : Code := match Try.f20.body with | some c => c | none => .skip
noncomputable def c20 : Cmd := (.seq (.ops [
 ⟨some 4, .move (.tmp 0), 23, none⟩,
 ⟨some 5, .binOp .neq 23 (.tmp 4) (.const (.pointer none)) 23, 4, none⟩] [0, 1, 5])
 (.cond (.tmp 5)
  (.ops [
  ⟨some 6, .move (.tmp 0), 23, none⟩,
  ⟨some 7, .move (.tmp 1), 3, none⟩,
  ⟨some 8, .nilCheck (.tmp 6), 0, none⟩,
  ⟨some 9, .fieldAddr 58 (.tmp 8) 2, 0, none⟩,
  ⟨none, .store 3 (.tmp 9) (.tmp 7), 0, none⟩] [])
  (.skip [])))
set_option maxRecDepth 100000 in
theorem ent20 (a0 a1 : Value) (w : World) (K : Value → World → Prop) (h : W Try.prog c20 [(0, a0), (1, a1)] w (finQ Try.prog [] K)) : Ret Try.prog 20 [a0, a1] w K :=
  Ret_of_W (code := c20code) Try.func20 (by kernel_rfl) (by kernel_rfl) (of_decide_eq_true (by kernel_rfl)) h
--SIMP 20 c20 TYS 3 23 58 FNS 
@[go_sem] theorem go20 : goFunc Try.prog 20 = true := by kernel_rfl
/- Function 21: block.New -/
noncomputable def c21code : Code := match Try.f21.body with | some c => c | none => .skip
noncomputable def c21S0 (_ : Unit) : Cmd := (.ops [
 ⟨some 30, .binOp .add 3 (.tmp 15) (.const (.int .i64 1)) 3, 3, none⟩,
 ⟨some 15, .move (.tmp 30), 3, none⟩] [4, 14, 15])
noncomputable def c21S1 (_ : Unit) : Cmd := (.seq (.block 1 (.draw (drawOps 0 c21code) [4, 14, 15])) (sg c21S0))
noncomputable def c21L0 (_ : Unit) : Cmd := (.seq (.ops [
 ⟨some 16, .binOp .lss 3 (.tmp 15) (.tmp 14) 3, 4, none⟩] [4, 14, 15, 16])
 (.seq (.cond (.tmp 16)
  (.skip [4, 14, 15])
  (.exit 0 [4])) (sg c21S1)))
noncomputable def c21S2 (_ : Unit) : Cmd := (.seq (.ops [
 ⟨some 31, .move (.tmp 4), 23, none⟩,
 ⟨some 2, .assign (.tmp 31), 23, none⟩,
 ⟨some 3, .assign (.const (.int .i64 0)), 29, none⟩] [2, 3])
 .ret)
noncomputable def c21S3 (_ : Unit) : Cmd := (.seq (.seq (.ops [
 ⟨some 14, .move (.tmp 0), 3, none⟩,
 ⟨some 15, .move (.const (.int .i64 0)), 3, none⟩] [4, 14, 15])
 (.block 0 (.loop (sg c21L0)))) (sg c21S2))
noncomputable def c21S4 (_ : Unit) : Cmd := (.seq (.ops [
 ⟨some 11, .call ⟨.value (.func 44), #[], #[]⟩, 9, none⟩,
 ⟨some 12, .build 58 #[(2, (.const (.int .i64 (-1)))), (4, (.tmp 11))], 58, none⟩,
 ⟨some 13, .box 58 (.tmp 12), 23, none⟩,
 ⟨some 4, .assign (.tmp 13), 23, none⟩] [0, 4]) (sg c21S3))
noncomputable def c21 : Cmd := (.seq (.ops [
 ⟨some 2, .assign (.const (.pointer none)), 23, none⟩,
 ⟨some 3, .assign (.const (.int .i64 0)), 29, none⟩] [0])
 (.seq (.seq (.ops [
 ⟨some 5, .move (.tmp 0), 3, none⟩,
 ⟨some 6, .binOp .lss 3 (.tmp 5) (.const (.int .i64 1)) 3, 4, none⟩,
 ⟨some 7, .move (.tmp 6), 4, none⟩,
 ⟨some 8, .move (.tmp 0), 3, (some (7, false))⟩,
 ⟨some 9, .binOp .gtr 3 (.tmp 8) (.const (.int .i64 2048)) 3, 4, (some (7, false))⟩,
 ⟨some 10, .pick (.tmp 7) (.const (.bool true)) (.tmp 9), 4, none⟩] [0, 10])
 (.cond (.tmp 10)
  (.seq (.ops [
  ⟨some 2, .assign (.const (.pointer none)), 23, none⟩,
  ⟨some 3, .assign (.const (.int .i64 1)), 29, none⟩] [2, 3])
  .ret)
  (.skip [0]))) (sg c21S4)))
noncomputable def c21D0 : List (Nat × Ins) := [
 (0, ⟨some 17, .move (.tmp 4), 23, none⟩),
 (0, ⟨some 18, .move (.tmp 4), 23, none⟩),
 (0, ⟨some 19, .nilCheck (.tmp 18), 0, none⟩),
 (0, ⟨some 20, .fieldAddr 58 (.tmp 19) 0, 0, none⟩),
 (0, ⟨some 22, .move (.tmp 4), 23, none⟩),
 (0, ⟨some 23, .nilCheck (.tmp 22), 0, none⟩),
 (0, ⟨some 24, .fieldAddr 58 (.tmp 23) 4, 0, none⟩),
 (1, ⟨some 21, .load 45 (.tmp 20), 45, none⟩),
 (2, ⟨some 25, .load 9 (.tmp 24), 9, none⟩),
 (2, ⟨some 26, .buildSlice 45 1 #[(0, (.tmp 25))], 45, none⟩),
 (3, ⟨some 27, .call ⟨.builtin .append, #[(.tmp 21), (.tmp 26)], #[45, 45]⟩, 45, none⟩),
 (0, ⟨some 28, .nilCheck (.tmp 17), 0, none⟩),
 (0, ⟨some 29, .fieldAddr 58 (.tmp 28) 0, 0, none⟩),
 (3, ⟨none, .store 45 (.tmp 29) (.tmp 27), 0, none⟩)]
theorem c21draw0 {L : List Nat} {ρ : Env} {w : World} {Q : Post} (S : World → Prop) (hS : S w.drew) (h : DG Try.prog S c21D0 L ρ w.drew Q) : drawW Try.prog (drawOps 0 c21code) L ρ w Q :=
  drawW_held [4] [(0, 0), (0, 1), (0, 2), (0, 3), (0, 5), (0, 6), (0, 7), (1, 4), (2, 8), (2, 9), (3, 10), (0, 11), (0, 12), (3, 13)] c21D0 (by kernel_rfl) (by kernel_rfl) (by kernel_rfl) S hS h
set_option maxRecDepth 100000 in
theorem ent21 (a0 : Value) (w : World) (K : Value → World → Prop) (h : W Try.prog c21 [(0, a0)] w (finQ Try.prog [.tmp 2, .tmp 3] K)) : Ret Try.prog 21 [a0] w K :=
  Ret_of_W (code := c21code) Try.func21 (by kernel_rfl) (by kernel_rfl) (of_decide_eq_true (by kernel_rfl)) h
--SIMP 21 c21 c21S0 c21S1 c21L0 c21S2 c21S3 c21S4 TYS 3 9 45 58 FNS 44
@[go_sem] theorem go21 : goFunc Try.prog 21 = true := by kernel_rfl
/- Function 22: annalistref02.New -/
noncomputable def c22code : Code := match Try.f22.body with | some c => c | none => .skip
noncomputable def c22S0 (_ : Unit) : Cmd := (.ops [
 ⟨some 17, .move (.tmp 5), 3, none⟩,
 ⟨some 18, .binOp .add 3 (.tmp 17) (.const (.int .i64 1)) 3, 3, none⟩,
 ⟨some 5, .assign (.tmp 18), 3, none⟩] [0, 2, 4, 5])
noncomputable def c22S1 (_ : Unit) : Cmd := (.seq (.block 1 (.draw (drawOps 0 c22code) [0, 2, 4, 5])) (sg c22S0))
noncomputable def c22L0 (_ : Unit) : Cmd := (.seq (.seq (.ops [
 ⟨some 14, .move (.tmp 5), 3, none⟩,
 ⟨some 15, .move (.tmp 0), 3, none⟩,
 ⟨some 16, .binOp .lss 3 (.tmp 14) (.tmp 15) 3, 4, none⟩] [0, 2, 4, 5, 16])
 (.cond (.tmp 16)
  (.skip [0, 2, 4, 5])
  (.exit 0 [2, 4]))) (sg c22S1))
noncomputable def c22S2 (_ : Unit) : Cmd := (.seq (.ops [
 ⟨some 25, .load 48 (.tmp 4), 48, none⟩,
 ⟨none, .store 48 (.tmp 2) (.tmp 25), 0, none⟩,
 ⟨some 3, .assign (.const (.int .i64 0)), 3, none⟩] [2, 3])
 .ret)
noncomputable def c22S3 (_ : Unit) : Cmd := (.seq (.ops [
 ⟨some 13, .build 48 #[(2, (.const (.int .i64 (-1))))], 48, none⟩,
 ⟨some 4, .alloc 48, 0, none⟩,
 ⟨none, .store 48 (.tmp 4) (.tmp 13), 0, none⟩] [0, 2, 4])
 (.seq (.seq (.ops [
 ⟨some 5, .assign (.const (.int .i64 0)), 3, none⟩] [0, 2, 4, 5])
 (.block 0 (.loop (sg c22L0)))) (sg c22S2)))
noncomputable def c22 : Cmd := (.seq (.ops [
 ⟨some 2, .alloc 48, 0, none⟩,
 ⟨some 3, .assign (.const (.int .i64 0)), 3, none⟩] [0, 2])
 (.seq (.seq (.ops [
 ⟨some 6, .move (.tmp 0), 3, none⟩,
 ⟨some 7, .binOp .lss 3 (.tmp 6) (.const (.int .i64 1)) 3, 4, none⟩,
 ⟨some 8, .move (.tmp 7), 4, none⟩,
 ⟨some 9, .move (.tmp 0), 3, (some (8, false))⟩,
 ⟨some 10, .binOp .gtr 3 (.tmp 9) (.const (.int .i64 2048)) 3, 4, (some (8, false))⟩,
 ⟨some 11, .pick (.tmp 8) (.const (.bool true)) (.tmp 10), 4, none⟩] [0, 2, 11])
 (.cond (.tmp 11)
  (.seq (.ops [
  ⟨some 12, .build 48 #[], 48, none⟩,
  ⟨none, .store 48 (.tmp 2) (.tmp 12), 0, none⟩,
  ⟨some 3, .assign (.const (.int .i64 1)), 3, none⟩] [2, 3])
  .ret)
  (.skip [0, 2]))) (sg c22S3)))
noncomputable def c22D0 : List (Nat × Ins) := [
 (0, ⟨some 19, .fieldAddr 48 (.tmp 4) 0, 0, none⟩),
 (1, ⟨some 20, .load 45 (.tmp 19), 45, none⟩),
 (2, ⟨some 21, .call ⟨.value (.func 17), #[(.const (.string (ofL [])))], #[9]⟩, 9, none⟩),
 (2, ⟨some 22, .buildSlice 45 1 #[(0, (.tmp 21))], 45, none⟩),
 (3, ⟨some 23, .call ⟨.builtin .append, #[(.tmp 20), (.tmp 22)], #[45, 45]⟩, 45, none⟩),
 (0, ⟨some 24, .fieldAddr 48 (.tmp 4) 0, 0, none⟩),
 (3, ⟨none, .store 45 (.tmp 24) (.tmp 23), 0, none⟩)]
theorem c22draw0 {L : List Nat} {ρ : Env} {w : World} {Q : Post} (S : World → Prop) (hS : S w.drew) (h : DG Try.prog S c22D0 L ρ w.drew Q) : drawW Try.prog (drawOps 0 c22code) L ρ w Q :=
  drawW_held [1] [(0, 0), (1, 1), (2, 2), (2, 3), (3, 4), (0, 5), (3, 6)] c22D0 (by kernel_rfl) (by kernel_rfl) (by kernel_rfl) S hS h
set_option maxRecDepth 100000 in
theorem ent22 (a0 : Value) (w : World) (K : Value → World → Prop) (h : W Try.prog c22 [(0, a0)] w (finQ Try.prog [.cell 2 48, .tmp 3] K)) : Ret Try.prog 22 [a0] w K :=
  Ret_of_W (code := c22code) Try.func22 (by kernel_rfl) (by kernel_rfl) (of_decide_eq_true (by kernel_rfl)) h
--SIMP 22 c22 c22S0 c22S1 c22L0 c22S2 c22S3 TYS 3 45 48 FNS 17
@[go_sem] theorem go22 : goFunc Try.prog 22 = true := by kernel_rfl
/- Function 23: (*block.Disk).Len -/
noncomputable def c23code : Code := match Try.f23.body with | some c => c | none => .skip
noncomputable def c23S0 (_ : Unit) : Cmd := (.seq (.ops [
 ⟨some 5, .move (.tmp 0), 23, none⟩,
 ⟨some 6, .nilCheck (.tmp 5), 0, none⟩,
 ⟨some 7, .fieldAddr 58 (.tmp 6) 0, 0, none⟩,
 ⟨some 8, .load 45 (.tmp 7), 45, none⟩,
 ⟨some 9, .call ⟨.builtin .len, #[(.tmp 8)], #[45]⟩, 3, none⟩,
 ⟨some 2, .assign (.tmp 9), 3, none⟩] [2])
 .ret)
noncomputable def c23 : Cmd := (.seq (.ops [
 ⟨some 2, .assign (.const (.int .i64 0)), 3, none⟩] [0])
 (.seq (.seq (.ops [
 ⟨some 3, .move (.tmp 0), 23, none⟩,
 ⟨some 4, .binOp .eql 23 (.tmp 3) (.const (.pointer none)) 23, 4, none⟩] [0, 4])
 (.cond (.tmp 4)
  (.seq (.ops [
  ⟨some 2, .assign (.const (.int .i64 0)), 3, none⟩] [2])
  .ret)
  (.skip [0]))) (sg c23S0)))
set_option maxRecDepth 100000 in
theorem ent23 (a0 : Value) (w : World) (K : Value → World → Prop) (h : W Try.prog c23 [(0, a0)] w (finQ Try.prog [.tmp 2] K)) : Ret Try.prog 23 [a0] w K :=
  Ret_of_W (code := c23code) Try.func23 (by kernel_rfl) (by kernel_rfl) (of_decide_eq_true (by kernel_rfl)) h
--SIMP 23 c23 c23S0 TYS 23 45 58 FNS 
@[go_sem] theorem go23 : goFunc Try.prog 23 = true := by kernel_rfl
/- Function 24: annalistlaw02.does -/
noncomputable def c24code : Code := match Try.f24.body with | some c => c | none => .skip
noncomputable def c24S0 (_ : Unit) : Cmd := (.ops [
  ⟨some 50, .move (.tmp 0), 23, none⟩,
  ⟨some 51, .fieldAddr 28 (.tmp 5) 1, 0, none⟩,
  ⟨some 52, .load 3 (.tmp 51), 3, none⟩,
  ⟨some 53, .fieldAddr 28 (.tmp 5) 2, 0, none⟩,
  ⟨some 54, .load 9 (.tmp 53), 9, none⟩,
  ⟨some 55, .call ⟨.value (.func 14), #[(.tmp 50), (.tmp 52), (.tmp 54)], #[23, 3, 9]⟩, 29, none⟩,
  ⟨some 8, .assign (.tmp 55), 29, none⟩] [1, 7, 8, 9])
noncomputable def c24S1 (_ : Unit) : Cmd := (.ops [
   ⟨some 65, .move (.tmp 0), 23, none⟩,
   ⟨some 66, .call ⟨.value (.func 15), #[(.tmp 65)], #[23]⟩, 29, none⟩,
   ⟨some 8, .assign (.tmp 66), 29, none⟩] [1, 7, 8, 9])
noncomputable def c24S2 (_ : Unit) : Cmd := (.seq (.ops [
    ⟨some 85, .move (.tmp 10), 9, none⟩,
    ⟨some 86, .move (.tmp 12), 9, none⟩,
    ⟨some 87, .binOp .eql 9 (.tmp 85) (.tmp 86) 9, 4, none⟩,
    ⟨some 88, .move (.tmp 87), 4, none⟩,
    ⟨some 89, .move (.tmp 13), 29, (some (88, true))⟩,
    ⟨some 90, .move (.tmp 11), 3, (some (88, true))⟩,
    ⟨some 91, .binOp .eql 3 (.tmp 89) (.tmp 90) 3, 4, (some (88, true))⟩,
    ⟨some 92, .pick (.tmp 88) (.tmp 91) (.const (.bool false)), 4, none⟩,
    ⟨some 6, .assign (.tmp 92), 4, none⟩] [6])
    .ret)
noncomputable def c24S3 (_ : Unit) : Cmd := (.seq (.ops [
    ⟨some 79, .move (.tmp 0), 23, none⟩,
    ⟨some 80, .fieldAddr 28 (.tmp 5) 1, 0, none⟩,
    ⟨some 81, .load 3 (.tmp 80), 3, none⟩,
    ⟨some 82, .call ⟨.value (.func 16), #[(.tmp 79), (.tmp 81)], #[23, 3]⟩, 32, none⟩,
    ⟨some 78, .move (.tmp 82), 32, none⟩,
    ⟨some 83, .extract (.tmp 78) 0, 9, none⟩,
    ⟨some 84, .extract (.tmp 78) 1, 29, none⟩,
    ⟨some 12, .assign (.tmp 83), 9, none⟩,
    ⟨some 13, .assign (.tmp 84), 29, none⟩] [10, 11, 12, 13]) (sg c24S2))
noncomputable def c24S4 (_ : Unit) : Cmd := (.ops [
     ⟨some 29, .move (.tmp 0), 23, none⟩,
     ⟨some 30, .fieldAddr 28 (.tmp 5) 3, 0, none⟩,
     ⟨some 31, .load 26 (.tmp 30), 26, none⟩,
     ⟨some 32, .fieldAddr 28 (.tmp 5) 4, 0, none⟩,
     ⟨some 33, .load 3 (.tmp 32), 3, none⟩,
     ⟨some 34, .fieldAddr 28 (.tmp 5) 5, 0, none⟩,
     ⟨some 35, .load 3 (.tmp 34), 3, none⟩,
     ⟨some 36, .call ⟨.value (.func 19), #[(.tmp 29), (.tmp 31), (.tmp 33), (.tmp 35)], #[23, 26, 3, 3]⟩, 0, none⟩] [1, 7, 8, 9])
noncomputable def c24S5 (_ : Unit) : Cmd := (.seq (.ops [
 ⟨some 102, .move (.tmp 1), 53, none⟩,
 ⟨some 103, .load 48 (.tmp 9), 48, none⟩,
 ⟨some 104, .nilCheck (.tmp 102), 0, none⟩,
 ⟨none, .store 48 (.tmp 104) (.tmp 103), 0, none⟩] [7, 8])
 (.seq (.ops [
 ⟨some 105, .move (.tmp 8), 29, none⟩,
 ⟨some 106, .move (.tmp 7), 3, none⟩,
 ⟨some 107, .binOp .eql 3 (.tmp 105) (.tmp 106) 3, 4, none⟩,
 ⟨some 6, .assign (.tmp 107), 4, none⟩] [6])
 .ret))
noncomputable def c24 : Cmd := (.seq (.ops [
 ⟨some 5, .box 28 (.tmp 2), 0, none⟩,
 ⟨some 6, .assign (.const (.bool false)), 4, none⟩] [0, 1, 5])
 (.seq (.ops [
 ⟨some 7, .assign (.const (.int .i64 0)), 3, none⟩,
 ⟨some 8, .assign (.const (.int .i64 0)), 29, none⟩] [0, 1, 5, 7, 8])
 (.seq (.ops [
 ⟨some 14, .move (.tmp 1), 53, none⟩,
 ⟨some 15, .nilCheck (.tmp 14), 0, none⟩,
 ⟨some 16, .load 48 (.tmp 15), 48, none⟩,
 ⟨some 9, .alloc 48, 0, none⟩,
 ⟨none, .store 48 (.tmp 9) (.tmp 16), 0, none⟩] [0, 1, 5, 7, 8, 9])
 (.seq (.seq (.ops [
 ⟨some 17, .fieldAddr 28 (.tmp 5) 0, 0, none⟩,
 ⟨some 18, .load 3 (.tmp 17), 3, none⟩] [0, 1, 5, 7, 8, 9, 18])
 (.block 0 (.seq (.ops [
 ⟨some 38, .binOp .eql 3 (.tmp 18) (.const (.int .i64 0)) 3, 4, none⟩,
 ⟨some 37, .assign (.tmp 38), 4, none⟩] [0, 1, 5, 7, 8, 9, 18, 37])
 (.cond (.tmp 37)
  (.seq (.draw (drawOps 0 c24code) [0, 1, 5, 7, 9]) (sg c24S0))
  (.seq (.ops [
  ⟨some 57, .binOp .eql 3 (.tmp 18) (.const (.int .i64 1)) 3, 4, none⟩,
  ⟨some 56, .assign (.tmp 57), 4, none⟩] [0, 1, 5, 7, 8, 9, 18, 56])
  (.cond (.tmp 56)
   (.seq (.ops [
   ⟨some 59, .move (.tmp 1), 53, none⟩,
   ⟨some 60, .nilCheck (.tmp 59), 0, none⟩,
   ⟨some 61, .load 48 (.tmp 60), 48, none⟩,
   ⟨some 62, .call ⟨.value (.func 46), #[(.tmp 61)], #[53]⟩, 49, none⟩,
   ⟨some 58, .move (.tmp 62), 49, none⟩,
   ⟨some 63, .extract (.tmp 58) 0, 48, none⟩,
   ⟨some 64, .extract (.tmp 58) 1, 3, none⟩,
   ⟨none, .store 48 (.tmp 9) (.tmp 63), 0, none⟩,
   ⟨some 7, .assign (.tmp 64), 3, none⟩] [0, 1, 7, 9]) (sg c24S1))
   (.seq (.ops [
   ⟨some 68, .binOp .eql 3 (.tmp 18) (.const (.int .i64 2)) 3, 4, none⟩,
   ⟨some 67, .assign (.tmp 68), 4, none⟩] [0, 1, 5, 7, 8, 9, 18, 67])
   (.cond (.tmp 67)
    (.seq (.draw (drawOps 1 c24code) [0, 5, 10, 11]) (sg c24S3))
    (.seq (.ops [
    ⟨some 94, .binOp .eql 3 (.tmp 18) (.const (.int .i64 3)) 3, 4, none⟩,
    ⟨some 93, .assign (.tmp 94), 4, none⟩] [0, 1, 5, 7, 8, 9, 93])
    (.cond (.tmp 93)
     (.seq (.ops [
     ⟨some 95, .fieldAddr 28 (.tmp 5) 1, 0, none⟩,
     ⟨some 96, .load 3 (.tmp 95), 3, none⟩,
     ⟨some 97, .fieldAddr 48 (.tmp 9) 2, 0, none⟩,
     ⟨none, .store 3 (.tmp 97) (.tmp 96), 0, none⟩] [0, 1, 5, 7, 8, 9])
     (.ops [
     ⟨some 98, .move (.tmp 0), 23, none⟩,
     ⟨some 99, .fieldAddr 28 (.tmp 5) 1, 0, none⟩,
     ⟨some 100, .load 3 (.tmp 99), 3, none⟩,
     ⟨some 101, .call ⟨.value (.func 20), #[(.tmp 98), (.tmp 100)], #[23, 3]⟩, 0, none⟩] [1, 7, 8, 9]))
     (.seq (.draw (drawOps 2 c24code) [0, 1, 5, 7, 8, 9]) (sg c24S4)))))))))))) (sg c24S5)))))
noncomputable def c24D0 : List (Nat × Ins) := [
 (0, ⟨some 40, .move (.tmp 1), 53, none⟩),
 (0, ⟨some 41, .nilCheck (.tmp 40), 0, none⟩),
 (0, ⟨some 43, .fieldAddr 28 (.tmp 5) 1, 0, none⟩),
 (0, ⟨some 45, .fieldAddr 28 (.tmp 5) 2, 0, none⟩),
 (1, ⟨some 42, .load 48 (.tmp 41), 48, none⟩),
 (1, ⟨some 44, .load 3 (.tmp 43), 3, none⟩),
 (2, ⟨some 46, .load 9 (.tmp 45), 9, none⟩),
 (3, ⟨some 47, .call ⟨.value (.func 45), #[(.tmp 42), (.tmp 44), (.tmp 46)], #[53, 3, 9]⟩, 49, none⟩),
 (0, ⟨some 39, .move (.tmp 47), 49, none⟩),
 (0, ⟨some 48, .extract (.tmp 39) 0, 48, none⟩),
 (0, ⟨some 49, .extract (.tmp 39) 1, 3, none⟩),
 (3, ⟨none, .store 48 (.tmp 9) (.tmp 48), 0, none⟩),
 (0, ⟨some 7, .assign (.tmp 49), 3, none⟩)]
theorem c24draw0 {L : List Nat} {ρ : Env} {w : World} {Q : Post} (S : World → Prop) (hS : S w.drew) (h : DG Try.prog S c24D0 L ρ w.drew Q) : drawW Try.prog (drawOps 0 c24code) L ρ w Q :=
  drawW_held [2, 4] [(0, 0), (0, 1), (0, 3), (0, 5), (1, 2), (1, 4), (2, 6), (3, 7), (0, 8), (0, 9), (0, 10), (3, 11), (0, 12)] c24D0 (by kernel_rfl) (by kernel_rfl) (by kernel_rfl) S hS h
noncomputable def c24D1 : List (Nat × Ins) := [
 (0, ⟨some 70, .move (.tmp 1), 53, none⟩),
 (0, ⟨some 71, .nilCheck (.tmp 70), 0, none⟩),
 (0, ⟨some 73, .fieldAddr 28 (.tmp 5) 1, 0, none⟩),
 (1, ⟨some 72, .load 48 (.tmp 71), 48, none⟩),
 (2, ⟨some 74, .load 3 (.tmp 73), 3, none⟩),
 (3, ⟨some 75, .call ⟨.value (.func 25), #[(.tmp 72), (.tmp 74)], #[53, 3]⟩, 54, none⟩),
 (0, ⟨some 69, .move (.tmp 75), 54, none⟩),
 (0, ⟨some 76, .extract (.tmp 69) 0, 9, none⟩),
 (0, ⟨some 77, .extract (.tmp 69) 1, 3, none⟩),
 (0, ⟨some 10, .assign (.tmp 76), 9, none⟩),
 (0, ⟨some 11, .assign (.tmp 77), 3, none⟩)]
theorem c24draw1 {L : List Nat} {ρ : Env} {w : World} {Q : Post} (S : World → Prop) (hS : S w.drew) (h : DG Try.prog S c24D1 L ρ w.drew Q) : drawW Try.prog (drawOps 1 c24code) L ρ w Q :=
  drawW_held [2] [(0, 0), (0, 1), (0, 3), (1, 2), (2, 4), (3, 5), (0, 6), (0, 7), (0, 8), (0, 9), (0, 10)] c24D1 (by kernel_rfl) (by kernel_rfl) (by kernel_rfl) S hS h
noncomputable def c24D2 : List (Nat × Ins) := [
 (0, ⟨some 19, .move (.tmp 1), 53, none⟩),
 (0, ⟨some 20, .nilCheck (.tmp 19), 0, none⟩),
 (0, ⟨some 22, .fieldAddr 28 (.tmp 5) 3, 0, none⟩),
 (0, ⟨some 24, .fieldAddr 28 (.tmp 5) 4, 0, none⟩),
 (0, ⟨some 26, .fieldAddr 28 (.tmp 5) 5, 0, none⟩),
 (1, ⟨some 21, .load 48 (.tmp 20), 48, none⟩),
 (1, ⟨some 23, .load 26 (.tmp 22), 26, none⟩),
 (1, ⟨some 25, .load 3 (.tmp 24), 3, none⟩),
 (2, ⟨some 27, .load 3 (.tmp 26), 3, none⟩),
 (3, ⟨some 28, .call ⟨.value (.func 47), #[(.tmp 21), (.tmp 23), (.tmp 25), (.tmp 27)], #[53, 26, 3, 3]⟩, 48, none⟩),
 (3, ⟨none, .store 48 (.tmp 9) (.tmp 28), 0, none⟩)]
theorem c24draw2 {L : List Nat} {ρ : Env} {w : World} {Q : Post} (S : World → Prop) (hS : S w.drew) (h : DG Try.prog S c24D2 L ρ w.drew Q) : drawW Try.prog (drawOps 2 c24code) L ρ w Q :=
  drawW_held [2, 4, 6] [(0, 0), (0, 1), (0, 3), (0, 5), (0, 7), (1, 2), (1, 4), (1, 6), (2, 8), (3, 9), (3, 10)] c24D2 (by kernel_rfl) (by kernel_rfl) (by kernel_rfl) S hS h
set_option maxRecDepth 100000 in
theorem ent24 (a0 a1 a2 : Value) (w : World) (K : Value → World → Prop) (h : W Try.prog c24 [(0, a0), (1, a1), (2, a2)] w (finQ Try.prog [.tmp 6] K)) : Ret Try.prog 24 [a0, a1, a2] w K :=
  Ret_of_W (code := c24code) Try.func24 (by kernel_rfl) (by kernel_rfl) (of_decide_eq_true (by kernel_rfl)) h
--SIMP 24 c24 c24S0 c24S1 c24S2 c24S3 c24S4 c24S5 TYS 3 9 26 28 48 FNS 14 15 16 19 20 25 45 46 47
@[go_sem] theorem go24 : goFunc Try.prog 24 = true := by kernel_rfl
/- Function 25: (annalistref02.Disk).Read -/
noncomputable def c25code : Code := match Try.f25.body with | some c => c | none => .skip
noncomputable def c25S0 (_ : Unit) : Cmd := (.ops [
 ⟨some 24, .move (.tmp 6), 3, none⟩,
 ⟨some 25, .binOp .sub 3 (.tmp 24) (.const (.int .i64 1)) 3, 3, none⟩,
 ⟨some 6, .assign (.tmp 25), 3, none⟩] [1, 2, 6])
noncomputable def c25S1 (_ : Unit) : Cmd := (.seq (.block 1 (.seq (.ops [
 ⟨some 26, .fieldAddr 48 (.tmp 2) 1, 0, none⟩,
 ⟨some 27, .load 46 (.tmp 26), 46, none⟩,
 ⟨some 28, .move (.tmp 6), 3, none⟩,
 ⟨some 29, .indexAddr 46 (.tmp 27) (.tmp 28), 0, none⟩,
 ⟨some 30, .fieldAddr 95 (.tmp 29) 0, 0, none⟩,
 ⟨some 31, .load 3 (.tmp 30), 3, none⟩,
 ⟨some 32, .move (.tmp 1), 3, none⟩,
 ⟨some 33, .binOp .eql 3 (.tmp 31) (.tmp 32) 3, 4, none⟩] [1, 2, 6, 33])
 (.cond (.tmp 33)
  (.seq (.ops [
  ⟨some 34, .fieldAddr 48 (.tmp 2) 1, 0, none⟩,
  ⟨some 35, .load 46 (.tmp 34), 46, none⟩,
  ⟨some 36, .move (.tmp 6), 3, none⟩,
  ⟨some 37, .indexAddr 46 (.tmp 35) (.tmp 36), 0, none⟩,
  ⟨some 38, .fieldAddr 95 (.tmp 37) 1, 0, none⟩,
  ⟨some 39, .load 9 (.tmp 38), 9, none⟩,
  ⟨some 4, .assign (.tmp 39), 9, none⟩,
  ⟨some 5, .assign (.const (.int .i64 0)), 3, none⟩] [4, 5])
  .ret)
  (.skip [1, 2, 6])))) (sg c25S0))
noncomputable def c25L0 (_ : Unit) : Cmd := (.seq (.seq (.ops [
 ⟨some 22, .move (.tmp 6), 3, none⟩,
 ⟨some 23, .binOp .geq 3 (.tmp 22) (.const (.int .i64 0)) 3, 4, none⟩] [1, 2, 6, 23])
 (.cond (.tmp 23)
  (.skip [1, 2, 6])
  (.exit 0 [1, 2]))) (sg c25S1))
noncomputable def c25S2 (_ : Unit) : Cmd := (.seq (.ops [
 ⟨some 40, .fieldAddr 48 (.tmp 2) 0, 0, none⟩,
 ⟨some 41, .load 45 (.tmp 40), 45, none⟩,
 ⟨some 42, .move (.tmp 1), 3, none⟩,
 ⟨some 43, .indexAddr 45 (.tmp 41) (.tmp 42), 0, none⟩,
 ⟨some 44, .load 9 (.tmp 43), 9, none⟩,
 ⟨some 4, .assign (.tmp 44), 9, none⟩,
 ⟨some 5, .assign (.const (.int .i64 0)), 3, none⟩] [4, 5])
 .ret)
noncomputable def c25S3 (_ : Unit) : Cmd := (.seq (.seq (.ops [
 ⟨some 18, .fieldAddr 48 (.tmp 2) 1, 0, none⟩,
 ⟨some 19, .load 46 (.tmp 18), 46, none⟩,
 ⟨some 20, .call ⟨.builtin .len, #[(.tmp 19)], #[46]⟩, 3, none⟩,
 ⟨some 21, .binOp .sub 3 (.tmp 20) (.const (.int .i64 1)) 3, 3, none⟩,
 ⟨some 6, .assign (.tmp 21), 3, none⟩] [1, 2, 6])
 (.block 0 (.loop (sg c25L0)))) (sg c25S2))
noncomputable def c25S4 (_ : Unit) : Cmd := (.seq (.seq (.ops [
 ⟨some 9, .move (.tmp 1), 3, none⟩,
 ⟨some 10, .binOp .lss 3 (.tmp 9) (.const (.int .i64 0)) 3, 4, none⟩,
 ⟨some 11, .move (.tmp 10), 4, none⟩,
 ⟨some 12, .move (.tmp 1), 3, (some (11, false))⟩,
 ⟨some 13, .fieldAddr 48 (.tmp 2) 0, 0, (some (11, false))⟩,
 ⟨some 14, .load 45 (.tmp 13), 45, (some (11, false))⟩,
 ⟨some 15, .call ⟨.builtin .len, #[(.tmp 14)], #[45]⟩, 3, (some (11, false))⟩,
 ⟨some 16, .binOp .geq 3 (.tmp 12) (.tmp 15) 3, 4, (some (11, false))⟩,
 ⟨some 17, .pick (.tmp 11) (.const (.bool true)) (.tmp 16), 4, none⟩] [1, 2, 17])
 (.cond (.tmp 17)
  (.seq (.ops [
  ⟨some 4, .assign (.const (.string (ofL []))), 9, none⟩,
  ⟨some 5, .assign (.const (.int .i64 10)), 3, none⟩] [4, 5])
  .ret)
  (.skip [1, 2]))) (sg c25S3))
noncomputable def c25 : Cmd := (.seq (.ops [
 ⟨some 2, .box 48 (.tmp 0), 0, none⟩,
 ⟨some 4, .assign (.const (.string (ofL []))), 9, none⟩,
 ⟨some 5, .assign (.const (.int .i64 0)), 3, none⟩] [1, 2])
 (.seq (.seq (.ops [
 ⟨some 7, .fieldAddr 48 (.tmp 2) 3, 0, none⟩,
 ⟨some 8, .load 4 (.tmp 7), 4, none⟩] [1, 2, 8])
 (.cond (.tmp 8)
  (.seq (.ops [
  ⟨some 4, .assign (.const (.string (ofL []))), 9, none⟩,
  ⟨some 5, .assign (.const (.int .i64 11)), 3, none⟩] [4, 5])
  .ret)
  (.skip [1, 2]))) (sg c25S4)))
set_option maxRecDepth 100000 in
theorem ent25 (a0 a1 : Value) (w : World) (K : Value → World → Prop) (h : W Try.prog c25 [(0, a0), (1, a1)] w (finQ Try.prog [.tmp 4, .tmp 5] K)) : Ret Try.prog 25 [a0, a1] w K :=
  Ret_of_W (code := c25code) Try.func25 (by kernel_rfl) (by kernel_rfl) (of_decide_eq_true (by kernel_rfl)) h
--SIMP 25 c25 c25S0 c25S1 c25L0 c25S2 c25S3 c25S4 TYS 3 4 9 45 46 48 95 FNS 
@[go_sem] theorem go25 : goFunc Try.prog 25 = true := by kernel_rfl
/- Function 42: (*block.Disk).ready -/
noncomputable def c42code : Code := match Try.f42.body with | some c => c | none => .skip
noncomputable def c42S0 (_ : Unit) : Cmd := (.seq (.ops [
 ⟨some 4, .assign (.const (.int .i64 0)), 29, none⟩] [4])
 .ret)
noncomputable def c42 : Cmd := (.seq (.ops [
 ⟨some 4, .assign (.const (.int .i64 0)), 29, none⟩] [0, 1])
 (.seq (.block 0 (.seq (.ops [
 ⟨some 6, .move (.tmp 0), 23, none⟩,
 ⟨some 7, .binOp .eql 23 (.tmp 6) (.const (.pointer none)) 23, 4, none⟩,
 ⟨some 8, .move (.tmp 7), 4, none⟩,
 ⟨some 9, .move (.tmp 0), 23, (some (8, false))⟩,
 ⟨some 10, .nilCheck (.tmp 9), 0, (some (8, false))⟩,
 ⟨some 11, .fieldAddr 58 (.tmp 10) 0, 0, (some (8, false))⟩,
 ⟨some 12, .load 45 (.tmp 11), 45, (some (8, false))⟩,
 ⟨some 13, .binOp .eql 45 (.tmp 12) (.const (.slice none 0 0)) 45, 4, (some (8, false))⟩,
 ⟨some 14, .pick (.tmp 8) (.const (.bool true)) (.tmp 13), 4, none⟩,
 ⟨some 5, .assign (.tmp 14), 4, none⟩] [0, 1, 5])
 (.cond (.tmp 5)
  (.seq (.ops [
  ⟨some 4, .assign (.const (.int .i64 3)), 29, none⟩] [4])
  .ret)
  (.seq (.ops [
  ⟨some 16, .move (.tmp 0), 23, none⟩,
  ⟨some 17, .nilCheck (.tmp 16), 0, none⟩,
  ⟨some 18, .fieldAddr 58 (.tmp 17) 3, 0, none⟩,
  ⟨some 19, .load 4 (.tmp 18), 4, none⟩,
  ⟨some 15, .assign (.tmp 19), 4, none⟩] [0, 1, 15])
  (.cond (.tmp 15)
   (.seq (.ops [
   ⟨some 4, .assign (.const (.int .i64 11)), 29, none⟩] [4])
   .ret)
   (.seq (.ops [
   ⟨some 21, .move (.tmp 1), 3, none⟩,
   ⟨some 22, .binOp .lss 3 (.tmp 21) (.const (.int .i64 0)) 3, 4, none⟩,
   ⟨some 23, .move (.tmp 22), 4, none⟩,
   ⟨some 24, .move (.tmp 1), 3, (some (23, false))⟩,
   ⟨some 25, .move (.tmp 0), 23, (some (23, false))⟩,
   ⟨some 26, .nilCheck (.tmp 25), 0, (some (23, false))⟩,
   ⟨some 27, .fieldAddr 58 (.tmp 26) 0, 0, (some (23, false))⟩,
   ⟨some 28, .load 45 (.tmp 27), 45, (some (23, false))⟩,
   ⟨some 29, .call ⟨.builtin .len, #[(.tmp 28)], #[45]⟩, 3, (some (23, false))⟩,
   ⟨some 30, .binOp .geq 3 (.tmp 24) (.tmp 29) 3, 4, (some (23, false))⟩,
   ⟨some 31, .pick (.tmp 23) (.const (.bool true)) (.tmp 30), 4, none⟩,
   ⟨some 20, .assign (.tmp 31), 4, none⟩] [20])
   (.cond (.tmp 20)
    (.seq (.ops [
    ⟨some 4, .assign (.const (.int .i64 10)), 29, none⟩] [4])
    .ret)
    (.skip [])))))))) (sg c42S0)))
set_option maxRecDepth 100000 in
theorem ent42 (a0 a1 : Value) (w : World) (K : Value → World → Prop) (h : W Try.prog c42 [(0, a0), (1, a1)] w (finQ Try.prog [.tmp 4] K)) : Ret Try.prog 42 [a0, a1] w K :=
  Ret_of_W (code := c42code) Try.func42 (by kernel_rfl) (by kernel_rfl) (of_decide_eq_true (by kernel_rfl)) h
--SIMP 42 c42 c42S0 TYS 3 4 23 45 58 FNS 
@[go_sem] theorem go42 : goFunc Try.prog 42 = true := by kernel_rfl
/- Function 43: (*block.Disk).use -/
noncomputable def c43code : Code := match Try.f43.body with | some c => c | none => .skip
noncomputable def c43S0 (_ : Unit) : Cmd := (.seq (.ops [
 ⟨some 2, .assign (.const (.int .i64 0)), 29, none⟩] [2])
 .ret)
noncomputable def c43S1 (_ : Unit) : Cmd := (.seq (.seq (.ops [
 ⟨some 11, .move (.tmp 0), 23, none⟩,
 ⟨some 12, .nilCheck (.tmp 11), 0, none⟩,
 ⟨some 13, .fieldAddr 58 (.tmp 12) 2, 0, none⟩,
 ⟨some 14, .load 3 (.tmp 13), 3, none⟩,
 ⟨some 15, .binOp .gtr 3 (.tmp 14) (.const (.int .i64 0)) 3, 4, none⟩] [0, 15])
 (.cond (.tmp 15)
  (.ops [
  ⟨some 16, .move (.tmp 0), 23, none⟩,
  ⟨some 17, .nilCheck (.tmp 16), 0, none⟩,
  ⟨some 18, .fieldAddr 58 (.tmp 17) 2, 0, none⟩,
  ⟨some 19, .load 3 (.tmp 18), 3, none⟩,
  ⟨some 20, .binOp .sub 3 (.tmp 19) (.const (.int .i64 1)) 3, 3, none⟩,
  ⟨some 21, .nilCheck (.tmp 16), 0, none⟩,
  ⟨some 22, .fieldAddr 58 (.tmp 21) 2, 0, none⟩,
  ⟨none, .store 3 (.tmp 22) (.tmp 20), 0, none⟩] [])
  (.skip []))) (sg c43S0))
noncomputable def c43 : Cmd := (.seq (.ops [
 ⟨some 2, .assign (.const (.int .i64 0)), 29, none⟩] [0])
 (.seq (.seq (.ops [
 ⟨some 3, .move (.tmp 0), 23, none⟩,
 ⟨some 4, .nilCheck (.tmp 3), 0, none⟩,
 ⟨some 5, .fieldAddr 58 (.tmp 4) 2, 0, none⟩,
 ⟨some 6, .load 3 (.tmp 5), 3, none⟩,
 ⟨some 7, .binOp .eql 3 (.tmp 6) (.const (.int .i64 0)) 3, 4, none⟩] [0, 7])
 (.cond (.tmp 7)
  (.seq (.ops [
  ⟨some 8, .move (.tmp 0), 23, none⟩,
  ⟨some 9, .nilCheck (.tmp 8), 0, none⟩,
  ⟨some 10, .fieldAddr 58 (.tmp 9) 3, 0, none⟩,
  ⟨none, .store 4 (.tmp 10) (.const (.bool true)), 0, none⟩] [])
  (.seq (.ops [
  ⟨some 2, .assign (.const (.int .i64 11)), 29, none⟩] [2])
  .ret))
  (.skip [0]))) (sg c43S1)))
set_option maxRecDepth 100000 in
theorem ent43 (a0 : Value) (w : World) (K : Value → World → Prop) (h : W Try.prog c43 [(0, a0)] w (finQ Try.prog [.tmp 2] K)) : Ret Try.prog 43 [a0] w K :=
  Ret_of_W (code := c43code) Try.func43 (by kernel_rfl) (by kernel_rfl) (of_decide_eq_true (by kernel_rfl)) h
--SIMP 43 c43 c43S0 c43S1 TYS 3 4 58 FNS 
@[go_sem] theorem go43 : goFunc Try.prog 43 = true := by kernel_rfl
/- Function 44: block.zeros -/
noncomputable def c44code : Code := match Try.f44.body with | some c => c | none => .skip
noncomputable def c44 : Cmd := (.seq (.ops [
 ⟨some 0, .assign (.const (.string (ofL []))), 9, none⟩] [])
 (.seq (.ops [
 ⟨some 1, .makeSlice 89 (.const (.int .i64 256)) (.const (.int .i64 256)), 89, none⟩,
 ⟨some 2, .convert 89 9 (.tmp 1), 9, none⟩,
 ⟨some 0, .assign (.tmp 2), 9, none⟩] [0])
 .ret))
set_option maxRecDepth 100000 in
theorem ent44 (w : World) (K : Value → World → Prop) (h : W Try.prog c44 [] w (finQ Try.prog [.tmp 0] K)) : Ret Try.prog 44 [] w K :=
  Ret_of_W (code := c44code) Try.func44 (by kernel_rfl) (by kernel_rfl) (of_decide_eq_true (by kernel_rfl)) h
--SIMP 44 c44 TYS 9 89 FNS 
@[go_sem] theorem go44 : goFunc Try.prog 44 = true := by kernel_rfl
/- Function 45: (annalistref02.Disk).Write -/
noncomputable def c45code : Code := match Try.f45.body with | some c => c | none => .skip
noncomputable def c45S0 (_ : Unit) : Cmd := (.seq (.ops [
 ⟨some 42, .load 48 (.tmp 3), 48, none⟩,
 ⟨some 43, .move (.tmp 9), 3, none⟩,
 ⟨none, .store 48 (.tmp 6) (.tmp 42), 0, none⟩,
 ⟨some 7, .assign (.tmp 43), 3, none⟩] [6, 7])
 .ret)
noncomputable def c45S1 (_ : Unit) : Cmd := (.seq (.seq (.ops [
 ⟨some 29, .move (.tmp 9), 3, none⟩,
 ⟨some 30, .binOp .eql 3 (.tmp 29) (.const (.int .i64 0)) 3, 4, none⟩] [1, 2, 3, 6, 9, 30])
 (.cond (.tmp 30)
  (.ops [
  ⟨some 31, .buildSlice 46 0 #[], 46, none⟩,
  ⟨some 32, .fieldAddr 48 (.tmp 3) 1, 0, none⟩,
  ⟨some 33, .load 46 (.tmp 32), 46, none⟩,
  ⟨some 34, .call ⟨.builtin .append, #[(.tmp 31), (.tmp 33)], #[46, 46]⟩, 46, none⟩,
  ⟨some 35, .move (.tmp 1), 3, none⟩,
  ⟨some 36, .move (.tmp 2), 9, none⟩,
  ⟨some 37, .call ⟨.value (.func 17), #[(.tmp 36)], #[9]⟩, 9, none⟩,
  ⟨some 38, .build 95 #[(0, (.tmp 35)), (1, (.tmp 37))], 95, none⟩,
  ⟨some 39, .buildSlice 46 1 #[(0, (.tmp 38))], 46, none⟩,
  ⟨some 40, .call ⟨.builtin .append, #[(.tmp 34), (.tmp 39)], #[46, 46]⟩, 46, none⟩,
  ⟨some 41, .fieldAddr 48 (.tmp 3) 1, 0, none⟩,
  ⟨none, .store 46 (.tmp 41) (.tmp 40), 0, none⟩] [3, 6, 9])
  (.skip [3, 6, 9]))) (sg c45S0))
noncomputable def c45S2 (_ : Unit) : Cmd := (.seq (.ops [
 ⟨some 25, .load 48 (.tmp 3), 48, none⟩,
 ⟨some 26, .call ⟨.value (.func 59), #[(.tmp 25)], #[48]⟩, 49, none⟩,
 ⟨some 24, .move (.tmp 26), 49, none⟩,
 ⟨some 27, .extract (.tmp 24) 0, 48, none⟩,
 ⟨some 28, .extract (.tmp 24) 1, 3, none⟩,
 ⟨none, .store 48 (.tmp 3) (.tmp 27), 0, none⟩,
 ⟨some 9, .assign (.tmp 28), 3, none⟩] [1, 2, 3, 6, 9]) (sg c45S1))
noncomputable def c45S3 (_ : Unit) : Cmd := (.seq (.seq (.ops [
 ⟨some 20, .move (.tmp 2), 9, none⟩,
 ⟨some 21, .call ⟨.builtin .len, #[(.tmp 20)], #[9]⟩, 3, none⟩,
 ⟨some 22, .binOp .gtr 3 (.tmp 21) (.const (.int .i64 256)) 3, 4, none⟩] [1, 2, 3, 6, 22])
 (.cond (.tmp 22)
  (.seq (.ops [
  ⟨some 23, .load 48 (.tmp 3), 48, none⟩,
  ⟨none, .store 48 (.tmp 6) (.tmp 23), 0, none⟩,
  ⟨some 7, .assign (.const (.int .i64 21)), 3, none⟩] [6, 7])
  .ret)
  (.skip [1, 2, 3, 6]))) (sg c45S2))
noncomputable def c45S4 (_ : Unit) : Cmd := (.seq (.seq (.ops [
 ⟨some 16, .move (.tmp 9), 3, none⟩,
 ⟨some 17, .binOp .neq 3 (.tmp 16) (.const (.int .i64 0)) 3, 4, none⟩] [1, 2, 3, 6, 9, 17])
 (.cond (.tmp 17)
  (.seq (.ops [
  ⟨some 18, .load 48 (.tmp 3), 48, none⟩,
  ⟨some 19, .move (.tmp 9), 3, none⟩,
  ⟨none, .store 48 (.tmp 6) (.tmp 18), 0, none⟩,
  ⟨some 7, .assign (.tmp 19), 3, none⟩] [6, 7])
  .ret)
  (.skip [1, 2, 3, 6]))) (sg c45S3))
noncomputable def c45 : Cmd := (.seq (.ops [
 ⟨some 3, .box 48 (.tmp 0), 0, none⟩,
 ⟨some 6, .alloc 48, 0, none⟩,
 ⟨some 7, .assign (.const (.int .i64 0)), 3, none⟩] [1, 2, 3, 6])
 (.seq (.ops [
 ⟨some 11, .load 48 (.tmp 3), 48, none⟩,
 ⟨some 12, .move (.tmp 1), 3, none⟩,
 ⟨some 13, .call ⟨.value (.func 25), #[(.tmp 11), (.tmp 12)], #[48, 3]⟩, 54, none⟩,
 ⟨some 10, .move (.tmp 13), 54, none⟩,
 ⟨some 14, .extract (.tmp 10) 0, 9, none⟩,
 ⟨some 15, .extract (.tmp 10) 1, 3, none⟩,
 ⟨some 8, .assign (.tmp 14), 9, none⟩,
 ⟨some 9, .assign (.tmp 15), 3, none⟩] [1, 2, 3, 6, 9]) (sg c45S4)))
set_option maxRecDepth 100000 in
theorem ent45 (a0 a1 a2 : Value) (w : World) (K : Value → World → Prop) (h : W Try.prog c45 [(0, a0), (1, a1), (2, a2)] w (finQ Try.prog [.cell 6 48, .tmp 7] K)) : Ret Try.prog 45 [a0, a1, a2] w K :=
  Ret_of_W (code := c45code) Try.func45 (by kernel_rfl) (by kernel_rfl) (of_decide_eq_true (by kernel_rfl)) h
--SIMP 45 c45 c45S0 c45S1 c45S2 c45S3 c45S4 TYS 3 9 46 48 95 FNS 17 25 59
@[go_sem] theorem go45 : goFunc Try.prog 45 = true := by kernel_rfl
/- Function 46: (annalistref02.Disk).Flush -/
noncomputable def c46code : Code := match Try.f46.body with | some c => c | none => .skip
noncomputable def c46S0 (_ : Unit) : Cmd := (.ops [
  ⟨some 18, .fieldAddr 48 (.tmp 1) 1, 0, none⟩,
  ⟨none, .store 46 (.tmp 18) (.const (.slice none 0 0)), 0, none⟩] [1, 2, 4])
noncomputable def c46S1 (_ : Unit) : Cmd := (.seq (.ops [
 ⟨some 19, .load 48 (.tmp 1), 48, none⟩,
 ⟨some 20, .move (.tmp 4), 3, none⟩,
 ⟨none, .store 48 (.tmp 2) (.tmp 19), 0, none⟩,
 ⟨some 3, .assign (.tmp 20), 3, none⟩] [2, 3])
 .ret)
noncomputable def c46S2 (_ : Unit) : Cmd := (.seq (.seq (.ops [
 ⟨some 13, .move (.tmp 4), 3, none⟩,
 ⟨some 14, .binOp .eql 3 (.tmp 13) (.const (.int .i64 0)) 3, 4, none⟩] [1, 2, 4, 14])
 (.cond (.tmp 14)
  (.seq (.ops [
  ⟨some 15, .load 48 (.tmp 1), 48, none⟩,
  ⟨some 16, .call ⟨.value (.func 60), #[(.tmp 15), (.const (.int .u64 18446744073709551615)), (.const (.int .i64 (-1))), (.const (.int .i64 0))], #[48, 26, 3, 3]⟩, 45, none⟩,
  ⟨some 17, .fieldAddr 48 (.tmp 1) 0, 0, none⟩,
  ⟨none, .store 45 (.tmp 17) (.tmp 16), 0, none⟩] [1, 2, 4]) (sg c46S0))
  (.skip [1, 2, 4]))) (sg c46S1))
noncomputable def c46S3 (_ : Unit) : Cmd := (.seq (.ops [
 ⟨some 9, .load 48 (.tmp 1), 48, none⟩,
 ⟨some 10, .call ⟨.value (.func 59), #[(.tmp 9)], #[48]⟩, 49, none⟩,
 ⟨some 8, .move (.tmp 10), 49, none⟩,
 ⟨some 11, .extract (.tmp 8) 0, 48, none⟩,
 ⟨some 12, .extract (.tmp 8) 1, 3, none⟩,
 ⟨none, .store 48 (.tmp 1) (.tmp 11), 0, none⟩,
 ⟨some 4, .assign (.tmp 12), 3, none⟩] [1, 2, 4]) (sg c46S2))
noncomputable def c46 : Cmd := (.seq (.ops [
 ⟨some 1, .box 48 (.tmp 0), 0, none⟩,
 ⟨some 2, .alloc 48, 0, none⟩,
 ⟨some 3, .assign (.const (.int .i64 0)), 3, none⟩] [1, 2])
 (.seq (.seq (.ops [
 ⟨some 5, .fieldAddr 48 (.tmp 1) 3, 0, none⟩,
 ⟨some 6, .load 4 (.tmp 5), 4, none⟩] [1, 2, 6])
 (.cond (.tmp 6)
  (.seq (.ops [
  ⟨some 7, .load 48 (.tmp 1), 48, none⟩,
  ⟨none, .store 48 (.tmp 2) (.tmp 7), 0, none⟩,
  ⟨some 3, .assign (.const (.int .i64 11)), 3, none⟩] [2, 3])
  .ret)
  (.skip [1, 2]))) (sg c46S3)))
set_option maxRecDepth 100000 in
theorem ent46 (a0 : Value) (w : World) (K : Value → World → Prop) (h : W Try.prog c46 [(0, a0)] w (finQ Try.prog [.cell 2 48, .tmp 3] K)) : Ret Try.prog 46 [a0] w K :=
  Ret_of_W (code := c46code) Try.func46 (by kernel_rfl) (by kernel_rfl) (of_decide_eq_true (by kernel_rfl)) h
--SIMP 46 c46 c46S0 c46S1 c46S2 c46S3 TYS 3 4 45 46 48 FNS 59 60
@[go_sem] theorem go46 : goFunc Try.prog 46 = true := by kernel_rfl
/- Function 47: (annalistref02.Disk).Crash -/
noncomputable def c47code : Code := match Try.f47.body with | some c => c | none => .skip
noncomputable def c47S0 (_ : Unit) : Cmd := .ret
noncomputable def c47 : Cmd := (.seq (.ops [
 ⟨some 4, .box 48 (.tmp 0), 0, none⟩,
 ⟨some 8, .alloc 48, 0, none⟩] [1, 2, 3, 4, 8])
 (.seq (.ops [
 ⟨some 9, .load 48 (.tmp 4), 48, none⟩,
 ⟨some 10, .move (.tmp 1), 26, none⟩,
 ⟨some 11, .move (.tmp 2), 3, none⟩,
 ⟨some 12, .move (.tmp 3), 3, none⟩,
 ⟨some 13, .call ⟨.value (.func 60), #[(.tmp 9), (.tmp 10), (.tmp 11), (.tmp 12)], #[48, 26, 3, 3]⟩, 45, none⟩,
 ⟨some 14, .build 48 #[(0, (.tmp 13)), (2, (.const (.int .i64 (-1))))], 48, none⟩,
 ⟨none, .store 48 (.tmp 8) (.tmp 14), 0, none⟩] [8]) (sg c47S0)))
set_option maxRecDepth 100000 in
theorem ent47 (a0 a1 a2 a3 : Value) (w : World) (K : Value → World → Prop) (h : W Try.prog c47 [(0, a0), (1, a1), (2, a2), (3, a3)] w (finQ Try.prog [.cell 8 48] K)) : Ret Try.prog 47 [a0, a1, a2, a3] w K :=
  Ret_of_W (code := c47code) Try.func47 (by kernel_rfl) (by kernel_rfl) (of_decide_eq_true (by kernel_rfl)) h
--SIMP 47 c47 c47S0 TYS 48 FNS 60
@[go_sem] theorem go47 : goFunc Try.prog 47 = true := by kernel_rfl
/- Function 59: (annalistref02.Disk).spent -/
noncomputable def c59code : Code := match Try.f59.body with | some c => c | none => .skip
noncomputable def c59S0 (_ : Unit) : Cmd := (.seq (.ops [
 ⟨some 16, .load 48 (.tmp 1), 48, none⟩,
 ⟨none, .store 48 (.tmp 2) (.tmp 16), 0, none⟩,
 ⟨some 3, .assign (.const (.int .i64 0)), 3, none⟩] [2, 3])
 .ret)
noncomputable def c59S1 (_ : Unit) : Cmd := (.seq (.seq (.ops [
 ⟨some 9, .fieldAddr 48 (.tmp 1) 2, 0, none⟩,
 ⟨some 10, .load 3 (.tmp 9), 3, none⟩,
 ⟨some 11, .binOp .gtr 3 (.tmp 10) (.const (.int .i64 0)) 3, 4, none⟩] [1, 2, 11])
 (.cond (.tmp 11)
  (.ops [
  ⟨some 12, .fieldAddr 48 (.tmp 1) 2, 0, none⟩,
  ⟨some 13, .load 3 (.tmp 12), 3, none⟩,
  ⟨some 14, .binOp .sub 3 (.tmp 13) (.const (.int .i64 1)) 3, 3, none⟩,
  ⟨some 15, .fieldAddr 48 (.tmp 1) 2, 0, none⟩,
  ⟨none, .store 3 (.tmp 15) (.tmp 14), 0, none⟩] [1, 2])
  (.skip [1, 2]))) (sg c59S0))
noncomputable def c59 : Cmd := (.seq (.ops [
 ⟨some 1, .box 48 (.tmp 0), 0, none⟩,
 ⟨some 2, .alloc 48, 0, none⟩,
 ⟨some 3, .assign (.const (.int .i64 0)), 3, none⟩] [1, 2])
 (.seq (.seq (.ops [
 ⟨some 4, .fieldAddr 48 (.tmp 1) 2, 0, none⟩,
 ⟨some 5, .load 3 (.tmp 4), 3, none⟩,
 ⟨some 6, .binOp .eql 3 (.tmp 5) (.const (.int .i64 0)) 3, 4, none⟩] [1, 2, 6])
 (.cond (.tmp 6)
  (.seq (.ops [
  ⟨some 7, .fieldAddr 48 (.tmp 1) 3, 0, none⟩,
  ⟨none, .store 4 (.tmp 7) (.const (.bool true)), 0, none⟩] [1, 2])
  (.seq (.ops [
  ⟨some 8, .load 48 (.tmp 1), 48, none⟩,
  ⟨none, .store 48 (.tmp 2) (.tmp 8), 0, none⟩,
  ⟨some 3, .assign (.const (.int .i64 11)), 3, none⟩] [2, 3])
  .ret))
  (.skip [1, 2]))) (sg c59S1)))
set_option maxRecDepth 100000 in
theorem ent59 (a0 : Value) (w : World) (K : Value → World → Prop) (h : W Try.prog c59 [(0, a0)] w (finQ Try.prog [.cell 2 48, .tmp 3] K)) : Ret Try.prog 59 [a0] w K :=
  Ret_of_W (code := c59code) Try.func59 (by kernel_rfl) (by kernel_rfl) (of_decide_eq_true (by kernel_rfl)) h
--SIMP 59 c59 c59S0 c59S1 TYS 3 4 48 FNS 
@[go_sem] theorem go59 : goFunc Try.prog 59 = true := by kernel_rfl
/- Function 60: (annalistref02.Disk).kept -/
noncomputable def c60code : Code := match Try.f60.body with | some c => c | none => .skip
noncomputable def c60S0 (_ : Unit) : Cmd := (.cond (.tmp 33)
  (.exit 1 [1, 2, 3, 4, 9, 10])
  (.skip [1, 2, 3, 4, 9, 10, 11]))
noncomputable def c60S1 (_ : Unit) : Cmd := (.draw (drawOps 0 c60code) [1, 2, 3, 4, 9, 10])
noncomputable def c60S2 (_ : Unit) : Cmd := (.seq (.seq (.ops [
 ⟨some 42, .move (.tmp 12), 3, none⟩,
 ⟨some 43, .binOp .lss 3 (.tmp 42) (.const (.int .i64 0)) 3, 4, none⟩] [1, 2, 3, 4, 9, 10, 11, 12, 43])
 (.cond (.tmp 43)
  (.ops [
  ⟨some 12, .assign (.const (.int .i64 0)), 3, none⟩] [1, 2, 3, 4, 9, 10, 11, 12])
  (.skip [1, 2, 3, 4, 9, 10, 11, 12]))) (sg c60S1))
noncomputable def c60S3 (_ : Unit) : Cmd := (.seq (.ops [
 ⟨some 12, .assign (.const (.int .i64 256)), 3, none⟩] [1, 2, 3, 4, 9, 10, 11, 12])
 (.seq (.seq (.ops [
 ⟨some 34, .move (.tmp 10), 3, none⟩,
 ⟨some 35, .move (.tmp 2), 3, none⟩,
 ⟨some 36, .binOp .eql 3 (.tmp 34) (.tmp 35) 3, 4, none⟩,
 ⟨some 37, .move (.tmp 36), 4, none⟩,
 ⟨some 38, .move (.tmp 3), 3, (some (37, true))⟩,
 ⟨some 39, .binOp .lss 3 (.tmp 38) (.const (.int .i64 256)) 3, 4, (some (37, true))⟩,
 ⟨some 40, .pick (.tmp 37) (.tmp 39) (.const (.bool false)), 4, none⟩] [1, 2, 3, 4, 9, 10, 11, 12, 40])
 (.cond (.tmp 40)
  (.ops [
  ⟨some 41, .move (.tmp 3), 3, none⟩,
  ⟨some 12, .assign (.tmp 41), 3, none⟩] [1, 2, 3, 4, 9, 10, 11, 12])
  (.skip [1, 2, 3, 4, 9, 10, 11, 12]))) (sg c60S2)))
noncomputable def c60S4 (_ : Unit) : Cmd := (.ops [
 ⟨some 22, .move (.tmp 10), 3, none⟩,
 ⟨some 23, .binOp .add 3 (.tmp 22) (.const (.int .i64 1)) 3, 3, none⟩,
 ⟨some 10, .assign (.tmp 23), 3, none⟩] [1, 2, 3, 4, 9, 10])
noncomputable def c60S5 (_ : Unit) : Cmd := (.seq (.block 1 (.seq (.ops [
 ⟨some 24, .fieldAddr 48 (.tmp 4) 1, 0, none⟩,
 ⟨some 25, .load 46 (.tmp 24), 46, none⟩,
 ⟨some 26, .move (.tmp 10), 3, none⟩,
 ⟨some 27, .indexAddr 46 (.tmp 25) (.tmp 26), 0, none⟩,
 ⟨some 28, .fieldAddr 95 (.tmp 27) 0, 0, none⟩,
 ⟨some 29, .load 3 (.tmp 28), 3, none⟩,
 ⟨some 11, .assign (.tmp 29), 3, none⟩] [1, 2, 3, 4, 9, 10, 11])
 (.seq (.seq (.ops [
 ⟨some 30, .move (.tmp 1), 26, none⟩,
 ⟨some 31, .move (.tmp 10), 3, none⟩,
 ⟨some 32, .call ⟨.value (.func 63), #[(.tmp 30), (.tmp 31)], #[26, 3]⟩, 4, none⟩,
 ⟨some 33, .unOp .not 4 (.tmp 32), 4, none⟩] [1, 2, 3, 4, 9, 10, 11, 33]) (sg c60S0)) (sg c60S3)))) (sg c60S4))
noncomputable def c60L0 (_ : Unit) : Cmd := (.seq (.seq (.ops [
 ⟨some 17, .move (.tmp 10), 3, none⟩,
 ⟨some 18, .fieldAddr 48 (.tmp 4) 1, 0, none⟩,
 ⟨some 19, .load 46 (.tmp 18), 46, none⟩,
 ⟨some 20, .call ⟨.builtin .len, #[(.tmp 19)], #[46]⟩, 3, none⟩,
 ⟨some 21, .binOp .lss 3 (.tmp 17) (.tmp 20) 3, 4, none⟩] [1, 2, 3, 4, 9, 10, 21])
 (.cond (.tmp 21)
  (.skip [1, 2, 3, 4, 9, 10])
  (.exit 0 [9]))) (sg c60S5))
noncomputable def c60S6 (_ : Unit) : Cmd := (.seq (.ops [
 ⟨some 62, .move (.tmp 9), 45, none⟩,
 ⟨some 8, .assign (.tmp 62), 45, none⟩] [8])
 .ret)
noncomputable def c60S7 (_ : Unit) : Cmd := (.seq (.seq (.ops [
 ⟨some 10, .assign (.const (.int .i64 0)), 3, none⟩] [1, 2, 3, 4, 9, 10])
 (.block 0 (.loop (sg c60L0)))) (sg c60S6))
noncomputable def c60 : Cmd := (.seq (.ops [
 ⟨some 4, .box 48 (.tmp 0), 0, none⟩,
 ⟨some 8, .assign (.const (.slice none 0 0)), 45, none⟩] [1, 2, 3, 4])
 (.seq (.ops [
 ⟨some 13, .buildSlice 45 0 #[], 45, none⟩,
 ⟨some 14, .fieldAddr 48 (.tmp 4) 0, 0, none⟩,
 ⟨some 15, .load 45 (.tmp 14), 45, none⟩,
 ⟨some 16, .call ⟨.builtin .append, #[(.tmp 13), (.tmp 15)], #[45, 45]⟩, 45, none⟩,
 ⟨some 9, .assign (.tmp 16), 45, none⟩] [1, 2, 3, 4, 9]) (sg c60S7)))
noncomputable def c60D0 : List (Nat × Ins) := [
 (0, ⟨some 44, .move (.tmp 9), 45, none⟩),
 (0, ⟨some 45, .move (.tmp 11), 3, none⟩),
 (0, ⟨some 46, .fieldAddr 48 (.tmp 4) 1, 0, none⟩),
 (0, ⟨some 48, .move (.tmp 10), 3, none⟩),
 (0, ⟨some 52, .move (.tmp 12), 3, none⟩),
 (0, ⟨some 54, .move (.tmp 9), 45, none⟩),
 (0, ⟨some 55, .move (.tmp 11), 3, none⟩),
 (0, ⟨some 56, .indexAddr 45 (.tmp 54) (.tmp 55), 0, none⟩),
 (0, ⟨some 58, .move (.tmp 12), 3, none⟩),
 (1, ⟨some 47, .load 46 (.tmp 46), 46, none⟩),
 (0, ⟨some 49, .indexAddr 46 (.tmp 47) (.tmp 48), 0, none⟩),
 (0, ⟨some 50, .fieldAddr 95 (.tmp 49) 1, 0, none⟩),
 (1, ⟨some 51, .load 9 (.tmp 50), 9, none⟩),
 (0, ⟨some 53, .slice 9 (.tmp 51) none (some (.tmp 52)) none, 9, none⟩),
 (2, ⟨some 57, .load 9 (.tmp 56), 9, none⟩),
 (0, ⟨some 59, .slice 9 (.tmp 57) (some (.tmp 58)) none none, 9, none⟩),
 (0, ⟨some 60, .binOp .add 9 (.tmp 53) (.tmp 59) 9, 9, none⟩),
 (0, ⟨some 61, .indexAddr 45 (.tmp 44) (.tmp 45), 0, none⟩),
 (3, ⟨none, .store 9 (.tmp 61) (.tmp 60), 0, none⟩)]
theorem c60draw0 {L : List Nat} {ρ : Env} {w : World} {Q : Post} (S : World → Prop) (hS : S w.drew) (h : DG Try.prog S c60D0 L ρ w.drew Q) : drawW Try.prog (drawOps 0 c60code) L ρ w Q :=
  drawW_held [3, 7] [(0, 0), (0, 1), (0, 2), (0, 4), (0, 8), (0, 10), (0, 11), (0, 12), (0, 14), (1, 3), (0, 5), (0, 6), (1, 7), (0, 9), (2, 13), (0, 15), (0, 16), (0, 17), (3, 18)] c60D0 (by kernel_rfl) (by kernel_rfl) (by kernel_rfl) S hS h
set_option maxRecDepth 100000 in
theorem ent60 (a0 a1 a2 a3 : Value) (w : World) (K : Value → World → Prop) (h : W Try.prog c60 [(0, a0), (1, a1), (2, a2), (3, a3)] w (finQ Try.prog [.tmp 8] K)) : Ret Try.prog 60 [a0, a1, a2, a3] w K :=
  Ret_of_W (code := c60code) Try.func60 (by kernel_rfl) (by kernel_rfl) (of_decide_eq_true (by kernel_rfl)) h
--SIMP 60 c60 c60S0 c60S1 c60S2 c60S3 c60S4 c60S5 c60L0 c60S6 c60S7 TYS 3 9 45 46 48 95 FNS 63
@[go_sem] theorem go60 : goFunc Try.prog 60 = true := by kernel_rfl
/- Function 63: annalistref02.bit -/
noncomputable def c63code : Code := match Try.f63.body with | some c => c | none => .skip
noncomputable def c63S0 (_ : Unit) : Cmd := (.seq (.block 1 (.ops [
 ⟨some 12, .move (.tmp 0), 26, none⟩,
 ⟨some 13, .binOp .quo 26 (.tmp 12) (.const (.int .u64 2)) 26, 26, none⟩,
 ⟨some 0, .assign (.tmp 13), 26, none⟩] [0, 1, 5]))
 (.ops [
 ⟨some 10, .move (.tmp 5), 3, none⟩,
 ⟨some 11, .binOp .add 3 (.tmp 10) (.const (.int .i64 1)) 3, 3, none⟩,
 ⟨some 5, .assign (.tmp 11), 3, none⟩] [0, 1, 5]))
noncomputable def c63L0 (_ : Unit) : Cmd := (.seq (.seq (.ops [
 ⟨some 6, .move (.tmp 5), 3, none⟩,
 ⟨some 7, .move (.tmp 1), 3, none⟩,
 ⟨some 8, .binOp .rem 3 (.tmp 7) (.const (.int .i64 64)) 3, 3, none⟩,
 ⟨some 9, .binOp .lss 3 (.tmp 6) (.tmp 8) 3, 4, none⟩] [0, 1, 5, 9])
 (.cond (.tmp 9)
  (.skip [0, 1, 5])
  (.exit 0 [0]))) (sg c63S0))
noncomputable def c63S1 (_ : Unit) : Cmd := (.seq (.ops [
 ⟨some 14, .move (.tmp 0), 26, none⟩,
 ⟨some 15, .binOp .rem 26 (.tmp 14) (.const (.int .u64 2)) 26, 26, none⟩,
 ⟨some 16, .binOp .eql 26 (.tmp 15) (.const (.int .u64 1)) 26, 4, none⟩,
 ⟨some 4, .assign (.tmp 16), 4, none⟩] [4])
 .ret)
noncomputable def c63 : Cmd := (.seq (.ops [
 ⟨some 4, .assign (.const (.bool false)), 4, none⟩] [0, 1])
 (.seq (.seq (.ops [
 ⟨some 5, .assign (.const (.int .i64 0)), 3, none⟩] [0, 1, 5])
 (.block 0 (.loop (sg c63L0)))) (sg c63S1)))
set_option maxRecDepth 100000 in
theorem ent63 (a0 a1 : Value) (w : World) (K : Value → World → Prop) (h : W Try.prog c63 [(0, a0), (1, a1)] w (finQ Try.prog [.tmp 4] K)) : Ret Try.prog 63 [a0, a1] w K :=
  Ret_of_W (code := c63code) Try.func63 (by kernel_rfl) (by kernel_rfl) (of_decide_eq_true (by kernel_rfl)) h
--SIMP 63 c63 c63S0 c63L0 c63S1 TYS 3 26 FNS 
@[go_sem] theorem go63 : goFunc Try.prog 63 = true := by kernel_rfl
end Go.Proofs.Ytlaflmkgfafhpaa
