/- The functions as commands, and facts on the types: printed by program. -/
import Derived.Test.YtobamkckamnmoaaRows
import Derived.Test.YtobamkckamnmoaaAnn17
import Derived.KernelRfl
namespace Go.Proofs.Ytobamkckamnmoaa
open Go Go.Ann
@[go_sem] theorem ty0tyK : tyK Try.prog 0 = .other := by kernel_rfl
@[go_sem] theorem ty0sizeT : sizeT Try.prog 0 = some 1 := by kernel_rfl
@[go_sem] theorem ty0zeroT : zeroT Try.prog 0 = some (.tuple #[]) := by kernel_rfl
@[go_sem] theorem ty0conc : Program.concrete Try.prog 0 = true := by kernel_rfl
@[go_sem] theorem ty1tyK : tyK Try.prog 1 = .other := by kernel_rfl
@[go_sem] theorem ty1isFuncT : isFuncT Try.prog 1 = true := by kernel_rfl
@[go_sem] theorem ty1sizeT : sizeT Try.prog 1 = some 1 := by kernel_rfl
@[go_sem] theorem ty1zeroT : zeroT Try.prog 1 = some .nilFunc := by kernel_rfl
@[go_sem] theorem ty1conc : Program.concrete Try.prog 1 = true := by kernel_rfl
@[go_sem] theorem ty2tyK : tyK Try.prog 2 = .int .i64 := by kernel_rfl
@[go_sem] theorem ty2sizeT : sizeT Try.prog 2 = some 1 := by kernel_rfl
@[go_sem] theorem ty2zeroT : zeroT Try.prog 2 = some (.int .i64 0) := by kernel_rfl
@[go_sem] theorem ty2conc : Program.concrete Try.prog 2 = true := by kernel_rfl
@[go_sem] theorem ty3tyK : tyK Try.prog 3 = .int .i64 := by kernel_rfl
@[go_sem] theorem ty3sizeT : sizeT Try.prog 3 = some 1 := by kernel_rfl
@[go_sem] theorem ty3zeroT : zeroT Try.prog 3 = some (.int .i64 0) := by kernel_rfl
@[go_sem] theorem ty3conc : Program.concrete Try.prog 3 = true := by kernel_rfl
@[go_sem] theorem ty4tyK : tyK Try.prog 4 = .bool := by kernel_rfl
@[go_sem] theorem ty4isBoolT : isBoolT Try.prog 4 = true := by kernel_rfl
@[go_sem] theorem ty4sizeT : sizeT Try.prog 4 = some 1 := by kernel_rfl
@[go_sem] theorem ty4zeroT : zeroT Try.prog 4 = some (.bool false) := by kernel_rfl
@[go_sem] theorem ty4conc : Program.concrete Try.prog 4 = true := by kernel_rfl
@[go_sem] theorem ty5tyK : tyK Try.prog 5 = .int .u8 := by kernel_rfl
@[go_sem] theorem ty5sizeT : sizeT Try.prog 5 = some 1 := by kernel_rfl
@[go_sem] theorem ty5zeroT : zeroT Try.prog 5 = some (.int .u8 0) := by kernel_rfl
@[go_sem] theorem ty5conc : Program.concrete Try.prog 5 = true := by kernel_rfl
@[go_sem] theorem ty6tyK : tyK Try.prog 6 = .int .u8 := by kernel_rfl
@[go_sem] theorem ty6sizeT : sizeT Try.prog 6 = some 1 := by kernel_rfl
@[go_sem] theorem ty6zeroT : zeroT Try.prog 6 = some (.int .u8 0) := by kernel_rfl
@[go_sem] theorem ty6conc : Program.concrete Try.prog 6 = true := by kernel_rfl
@[go_sem] theorem ty7tyK : tyK Try.prog 7 = .agg 4 := by kernel_rfl
@[go_sem] theorem ty7sizeT : sizeT Try.prog 7 = some 4 := by kernel_rfl
@[go_sem] theorem ty7zeroT : zeroT Try.prog 7 = some (.agg #[(.int .i64 0), (.int .i64 0), (.bool false), (.int .u8 0)]) := by kernel_rfl
@[go_sem] theorem ty7conc : Program.concrete Try.prog 7 = true := by kernel_rfl
@[go_sem] theorem ty7plc : plcT Try.prog 7 = some [(0, 1), (1, 1), (2, 1), (3, 1)] := by kernel_rfl
@[go_sem] theorem ty7flat : flatT Try.prog 7 = some [.int, .int, .bool, .int] := by kernel_rfl
@[go_sem] theorem ty7fld0 : fldI Try.prog 7 0 = some (0, 1, false) := by kernel_rfl
@[go_sem] theorem ty7fld1 : fldI Try.prog 7 1 = some (1, 1, false) := by kernel_rfl
@[go_sem] theorem ty7fld2 : fldI Try.prog 7 2 = some (2, 1, false) := by kernel_rfl
@[go_sem] theorem ty7fld3 : fldI Try.prog 7 3 = some (3, 1, false) := by kernel_rfl
@[go_sem] theorem ty8tyK : tyK Try.prog 8 = .agg 4 := by kernel_rfl
@[go_sem] theorem ty8sizeT : sizeT Try.prog 8 = some 4 := by kernel_rfl
@[go_sem] theorem ty8zeroT : zeroT Try.prog 8 = some (.agg #[(.int .i64 0), (.int .i64 0), (.bool false), (.int .u8 0)]) := by kernel_rfl
@[go_sem] theorem ty8conc : Program.concrete Try.prog 8 = true := by kernel_rfl
@[go_sem] theorem ty8plc : plcT Try.prog 8 = some [(0, 1), (1, 1), (2, 1), (3, 1)] := by kernel_rfl
@[go_sem] theorem ty8flat : flatT Try.prog 8 = some [.int, .int, .bool, .int] := by kernel_rfl
@[go_sem] theorem ty8fld0 : fldI Try.prog 8 0 = some (0, 1, false) := by kernel_rfl
@[go_sem] theorem ty8fld1 : fldI Try.prog 8 1 = some (1, 1, false) := by kernel_rfl
@[go_sem] theorem ty8fld2 : fldI Try.prog 8 2 = some (2, 1, false) := by kernel_rfl
@[go_sem] theorem ty8fld3 : fldI Try.prog 8 3 = some (3, 1, false) := by kernel_rfl
@[go_sem] theorem ty9tyK : tyK Try.prog 9 = .str := by kernel_rfl
@[go_sem] theorem ty9isStrT : isStrT Try.prog 9 = true := by kernel_rfl
@[go_sem] theorem ty9sizeT : sizeT Try.prog 9 = some 1 := by kernel_rfl
@[go_sem] theorem ty9zeroT : zeroT Try.prog 9 = some (.string (ofL [])) := by kernel_rfl
@[go_sem] theorem ty9conc : Program.concrete Try.prog 9 = true := by kernel_rfl
@[go_sem] theorem ty10tyK : tyK Try.prog 10 = .str := by kernel_rfl
@[go_sem] theorem ty10isStrT : isStrT Try.prog 10 = true := by kernel_rfl
@[go_sem] theorem ty10sizeT : sizeT Try.prog 10 = some 1 := by kernel_rfl
@[go_sem] theorem ty10zeroT : zeroT Try.prog 10 = some (.string (ofL [])) := by kernel_rfl
@[go_sem] theorem ty10conc : Program.concrete Try.prog 10 = true := by kernel_rfl
@[go_sem] theorem ty11tyK : tyK Try.prog 11 = .str := by kernel_rfl
@[go_sem] theorem ty11isStrT : isStrT Try.prog 11 = true := by kernel_rfl
@[go_sem] theorem ty11sizeT : sizeT Try.prog 11 = some 1 := by kernel_rfl
@[go_sem] theorem ty11zeroT : zeroT Try.prog 11 = some (.string (ofL [])) := by kernel_rfl
@[go_sem] theorem ty11conc : Program.concrete Try.prog 11 = true := by kernel_rfl
@[go_sem] theorem ty12tyK : tyK Try.prog 12 = .int .u64 := by kernel_rfl
@[go_sem] theorem ty12sizeT : sizeT Try.prog 12 = some 1 := by kernel_rfl
@[go_sem] theorem ty12zeroT : zeroT Try.prog 12 = some (.int .u64 0) := by kernel_rfl
@[go_sem] theorem ty12conc : Program.concrete Try.prog 12 = true := by kernel_rfl
@[go_sem] theorem ty13tyK : tyK Try.prog 13 = .agg 2 := by kernel_rfl
@[go_sem] theorem ty13sizeT : sizeT Try.prog 13 = some 2 := by kernel_rfl
@[go_sem] theorem ty13zeroT : zeroT Try.prog 13 = some (.agg #[(.string (ofL [])), (.int .u64 0)]) := by kernel_rfl
@[go_sem] theorem ty13conc : Program.concrete Try.prog 13 = true := by kernel_rfl
@[go_sem] theorem ty13plc : plcT Try.prog 13 = some [(0, 1), (1, 1)] := by kernel_rfl
@[go_sem] theorem ty13fld0 : fldI Try.prog 13 0 = some (0, 1, false) := by kernel_rfl
@[go_sem] theorem ty13fld1 : fldI Try.prog 13 1 = some (1, 1, false) := by kernel_rfl
@[go_sem] theorem ty14tyK : tyK Try.prog 14 = .agg 2 := by kernel_rfl
@[go_sem] theorem ty14sizeT : sizeT Try.prog 14 = some 2 := by kernel_rfl
@[go_sem] theorem ty14zeroT : zeroT Try.prog 14 = some (.agg #[(.string (ofL [])), (.int .u64 0)]) := by kernel_rfl
@[go_sem] theorem ty14conc : Program.concrete Try.prog 14 = true := by kernel_rfl
@[go_sem] theorem ty14plc : plcT Try.prog 14 = some [(0, 1), (1, 1)] := by kernel_rfl
@[go_sem] theorem ty14fld0 : fldI Try.prog 14 0 = some (0, 1, false) := by kernel_rfl
@[go_sem] theorem ty14fld1 : fldI Try.prog 14 1 = some (1, 1, false) := by kernel_rfl
@[go_sem] theorem ty15tyK : tyK Try.prog 15 = .ptr := by kernel_rfl
@[go_sem] theorem ty15isPtrT : isPtrT Try.prog 15 = true := by kernel_rfl
@[go_sem] theorem ty15sizeT : sizeT Try.prog 15 = some 1 := by kernel_rfl
@[go_sem] theorem ty15zeroT : zeroT Try.prog 15 = some (.pointer none) := by kernel_rfl
@[go_sem] theorem ty15conc : Program.concrete Try.prog 15 = true := by kernel_rfl
@[go_sem] theorem ty16tyK : tyK Try.prog 16 = .ptr := by kernel_rfl
@[go_sem] theorem ty16isPtrT : isPtrT Try.prog 16 = true := by kernel_rfl
@[go_sem] theorem ty16sizeT : sizeT Try.prog 16 = some 1 := by kernel_rfl
@[go_sem] theorem ty16zeroT : zeroT Try.prog 16 = some (.pointer none) := by kernel_rfl
@[go_sem] theorem ty16conc : Program.concrete Try.prog 16 = true := by kernel_rfl
@[go_sem] theorem ty17tyK : tyK Try.prog 17 = .ptr := by kernel_rfl
@[go_sem] theorem ty17isPtrT : isPtrT Try.prog 17 = true := by kernel_rfl
@[go_sem] theorem ty17sizeT : sizeT Try.prog 17 = some 1 := by kernel_rfl
@[go_sem] theorem ty17zeroT : zeroT Try.prog 17 = some (.pointer none) := by kernel_rfl
@[go_sem] theorem ty17conc : Program.concrete Try.prog 17 = true := by kernel_rfl
@[go_sem] theorem ty18tyK : tyK Try.prog 18 = .agg 1 := by kernel_rfl
@[go_sem] theorem ty18sizeT : sizeT Try.prog 18 = some 1 := by kernel_rfl
@[go_sem] theorem ty18zeroT : zeroT Try.prog 18 = some (.agg #[(.pointer none)]) := by kernel_rfl
@[go_sem] theorem ty18conc : Program.concrete Try.prog 18 = true := by kernel_rfl
@[go_sem] theorem ty18plc : plcT Try.prog 18 = some [(0, 1)] := by kernel_rfl
@[go_sem] theorem ty18fld0 : fldI Try.prog 18 0 = some (0, 1, false) := by kernel_rfl
@[go_sem] theorem ty19tyK : tyK Try.prog 19 = .agg 1 := by kernel_rfl
@[go_sem] theorem ty19sizeT : sizeT Try.prog 19 = some 1 := by kernel_rfl
@[go_sem] theorem ty19zeroT : zeroT Try.prog 19 = some (.agg #[(.pointer none)]) := by kernel_rfl
@[go_sem] theorem ty19conc : Program.concrete Try.prog 19 = true := by kernel_rfl
@[go_sem] theorem ty19plc : plcT Try.prog 19 = some [(0, 1)] := by kernel_rfl
@[go_sem] theorem ty19fld0 : fldI Try.prog 19 0 = some (0, 1, false) := by kernel_rfl
@[go_sem] theorem ty20tyK : tyK Try.prog 20 = .other := by kernel_rfl
@[go_sem] theorem ty20isIfaceT : isIfaceT Try.prog 20 = true := by kernel_rfl
@[go_sem] theorem ty20sizeT : sizeT Try.prog 20 = some 1 := by kernel_rfl
@[go_sem] theorem ty20zeroT : zeroT Try.prog 20 = some .nilIface := by kernel_rfl
@[go_sem] theorem ty21tyK : tyK Try.prog 21 = .int .i32 := by kernel_rfl
@[go_sem] theorem ty21sizeT : sizeT Try.prog 21 = some 1 := by kernel_rfl
@[go_sem] theorem ty21zeroT : zeroT Try.prog 21 = some (.int .i32 0) := by kernel_rfl
@[go_sem] theorem ty21conc : Program.concrete Try.prog 21 = true := by kernel_rfl
@[go_sem] theorem ty22tyK : tyK Try.prog 22 = .slice false 35 := by kernel_rfl
@[go_sem] theorem ty22isSliceT : isSliceT Try.prog 22 = true := by kernel_rfl
@[go_sem] theorem ty22sliI : sliI Try.prog 22 = some 11 := by kernel_rfl
@[go_sem] theorem ty22mkI : mkI Try.prog 22 = some (35, 11, 88, (.agg #[(.int .i64 0), (.int .i64 0), (.int .i64 0), (.int .i64 0), (.int .i64 0), (.int .i64 0), (.int .i64 0), (.bool false), (.int .i64 0), (.int .i64 0), (.int .i64 0)])) := by kernel_rfl
@[go_sem] theorem ty22sizeT : sizeT Try.prog 22 = some 1 := by kernel_rfl
@[go_sem] theorem ty22zeroT : zeroT Try.prog 22 = some (.slice none 0 0) := by kernel_rfl
@[go_sem] theorem ty22conc : Program.concrete Try.prog 22 = true := by kernel_rfl
@[go_sem] theorem ty23tyK : tyK Try.prog 23 = .agg 3 := by kernel_rfl
@[go_sem] theorem ty23sizeT : sizeT Try.prog 23 = some 3 := by kernel_rfl
@[go_sem] theorem ty23zeroT : zeroT Try.prog 23 = some (.agg #[(.int .i64 0), (.int .i64 0), (.slice none 0 0)]) := by kernel_rfl
@[go_sem] theorem ty23conc : Program.concrete Try.prog 23 = true := by kernel_rfl
@[go_sem] theorem ty23plc : plcT Try.prog 23 = some [(0, 1), (1, 1), (2, 1)] := by kernel_rfl
@[go_sem] theorem ty23fld0 : fldI Try.prog 23 0 = some (0, 1, false) := by kernel_rfl
@[go_sem] theorem ty23fld1 : fldI Try.prog 23 1 = some (1, 1, false) := by kernel_rfl
@[go_sem] theorem ty23fld2 : fldI Try.prog 23 2 = some (2, 1, false) := by kernel_rfl
@[go_sem] theorem ty24tyK : tyK Try.prog 24 = .agg 3 := by kernel_rfl
@[go_sem] theorem ty24sizeT : sizeT Try.prog 24 = some 3 := by kernel_rfl
@[go_sem] theorem ty24zeroT : zeroT Try.prog 24 = some (.agg #[(.int .i64 0), (.int .i64 0), (.slice none 0 0)]) := by kernel_rfl
@[go_sem] theorem ty24conc : Program.concrete Try.prog 24 = true := by kernel_rfl
@[go_sem] theorem ty24plc : plcT Try.prog 24 = some [(0, 1), (1, 1), (2, 1)] := by kernel_rfl
@[go_sem] theorem ty24fld0 : fldI Try.prog 24 0 = some (0, 1, false) := by kernel_rfl
@[go_sem] theorem ty24fld1 : fldI Try.prog 24 1 = some (1, 1, false) := by kernel_rfl
@[go_sem] theorem ty24fld2 : fldI Try.prog 24 2 = some (2, 1, false) := by kernel_rfl
@[go_sem] theorem ty25tyK : tyK Try.prog 25 = .other := by kernel_rfl
@[go_sem] theorem ty25isFuncT : isFuncT Try.prog 25 = true := by kernel_rfl
@[go_sem] theorem ty25sizeT : sizeT Try.prog 25 = some 1 := by kernel_rfl
@[go_sem] theorem ty25zeroT : zeroT Try.prog 25 = some .nilFunc := by kernel_rfl
@[go_sem] theorem ty25conc : Program.concrete Try.prog 25 = true := by kernel_rfl
@[go_sem] theorem ty26tyK : tyK Try.prog 26 = .other := by kernel_rfl
@[go_sem] theorem ty26isFuncT : isFuncT Try.prog 26 = true := by kernel_rfl
@[go_sem] theorem ty26sizeT : sizeT Try.prog 26 = some 1 := by kernel_rfl
@[go_sem] theorem ty26zeroT : zeroT Try.prog 26 = some .nilFunc := by kernel_rfl
@[go_sem] theorem ty26conc : Program.concrete Try.prog 26 = true := by kernel_rfl
@[go_sem] theorem ty27tyK : tyK Try.prog 27 = .other := by kernel_rfl
@[go_sem] theorem ty27isFuncT : isFuncT Try.prog 27 = true := by kernel_rfl
@[go_sem] theorem ty27sizeT : sizeT Try.prog 27 = some 1 := by kernel_rfl
@[go_sem] theorem ty27zeroT : zeroT Try.prog 27 = some .nilFunc := by kernel_rfl
@[go_sem] theorem ty27conc : Program.concrete Try.prog 27 = true := by kernel_rfl
@[go_sem] theorem ty28tyK : tyK Try.prog 28 = .slice false 24 := by kernel_rfl
@[go_sem] theorem ty28isSliceT : isSliceT Try.prog 28 = true := by kernel_rfl
@[go_sem] theorem ty28sliI : sliI Try.prog 28 = some 3 := by kernel_rfl
@[go_sem] theorem ty28mkI : mkI Try.prog 28 = some (24, 3, 40, (.agg #[(.int .i64 0), (.int .i64 0), (.slice none 0 0)])) := by kernel_rfl
@[go_sem] theorem ty28sizeT : sizeT Try.prog 28 = some 1 := by kernel_rfl
@[go_sem] theorem ty28zeroT : zeroT Try.prog 28 = some (.slice none 0 0) := by kernel_rfl
@[go_sem] theorem ty28conc : Program.concrete Try.prog 28 = true := by kernel_rfl
@[go_sem] theorem ty29tyK : tyK Try.prog 29 = .other := by kernel_rfl
@[go_sem] theorem ty29isFuncT : isFuncT Try.prog 29 = true := by kernel_rfl
@[go_sem] theorem ty29sizeT : sizeT Try.prog 29 = some 1 := by kernel_rfl
@[go_sem] theorem ty29zeroT : zeroT Try.prog 29 = some .nilFunc := by kernel_rfl
@[go_sem] theorem ty29conc : Program.concrete Try.prog 29 = true := by kernel_rfl
@[go_sem] theorem ty30tyK : tyK Try.prog 30 = .other := by kernel_rfl
@[go_sem] theorem ty30isFuncT : isFuncT Try.prog 30 = true := by kernel_rfl
@[go_sem] theorem ty30sizeT : sizeT Try.prog 30 = some 1 := by kernel_rfl
@[go_sem] theorem ty30zeroT : zeroT Try.prog 30 = some .nilFunc := by kernel_rfl
@[go_sem] theorem ty30conc : Program.concrete Try.prog 30 = true := by kernel_rfl
@[go_sem] theorem ty31tyK : tyK Try.prog 31 = .other := by kernel_rfl
@[go_sem] theorem ty31isFuncT : isFuncT Try.prog 31 = true := by kernel_rfl
@[go_sem] theorem ty31sizeT : sizeT Try.prog 31 = some 1 := by kernel_rfl
@[go_sem] theorem ty31zeroT : zeroT Try.prog 31 = some .nilFunc := by kernel_rfl
@[go_sem] theorem ty31conc : Program.concrete Try.prog 31 = true := by kernel_rfl
@[go_sem] theorem ty32tyK : tyK Try.prog 32 = .other := by kernel_rfl
@[go_sem] theorem ty32isFuncT : isFuncT Try.prog 32 = true := by kernel_rfl
@[go_sem] theorem ty32sizeT : sizeT Try.prog 32 = some 1 := by kernel_rfl
@[go_sem] theorem ty32zeroT : zeroT Try.prog 32 = some .nilFunc := by kernel_rfl
@[go_sem] theorem ty32conc : Program.concrete Try.prog 32 = true := by kernel_rfl
@[go_sem] theorem ty33tyK : tyK Try.prog 33 = .other := by kernel_rfl
@[go_sem] theorem ty33isFuncT : isFuncT Try.prog 33 = true := by kernel_rfl
@[go_sem] theorem ty33sizeT : sizeT Try.prog 33 = some 1 := by kernel_rfl
@[go_sem] theorem ty33zeroT : zeroT Try.prog 33 = some .nilFunc := by kernel_rfl
@[go_sem] theorem ty33conc : Program.concrete Try.prog 33 = true := by kernel_rfl
@[go_sem] theorem ty34tyK : tyK Try.prog 34 = .agg 11 := by kernel_rfl
@[go_sem] theorem ty34sizeT : sizeT Try.prog 34 = some 11 := by kernel_rfl
@[go_sem] theorem ty34zeroT : zeroT Try.prog 34 = some (.agg #[(.int .i64 0), (.int .i64 0), (.int .i64 0), (.int .i64 0), (.int .i64 0), (.int .i64 0), (.int .i64 0), (.bool false), (.int .i64 0), (.int .i64 0), (.int .i64 0)]) := by kernel_rfl
@[go_sem] theorem ty34conc : Program.concrete Try.prog 34 = true := by kernel_rfl
@[go_sem] theorem ty34plc : plcT Try.prog 34 = some [(0, 1), (1, 1), (2, 1), (3, 1), (4, 1), (5, 1), (6, 1), (7, 1), (8, 1), (9, 1), (10, 1)] := by kernel_rfl
@[go_sem] theorem ty34flat : flatT Try.prog 34 = some [.int, .int, .int, .int, .int, .int, .int, .bool, .int, .int, .int] := by kernel_rfl
@[go_sem] theorem ty34fld0 : fldI Try.prog 34 0 = some (0, 1, false) := by kernel_rfl
@[go_sem] theorem ty34fld1 : fldI Try.prog 34 1 = some (1, 1, false) := by kernel_rfl
@[go_sem] theorem ty34fld2 : fldI Try.prog 34 2 = some (2, 1, false) := by kernel_rfl
@[go_sem] theorem ty34fld3 : fldI Try.prog 34 3 = some (3, 1, false) := by kernel_rfl
@[go_sem] theorem ty34fld4 : fldI Try.prog 34 4 = some (4, 1, false) := by kernel_rfl
@[go_sem] theorem ty34fld5 : fldI Try.prog 34 5 = some (5, 1, false) := by kernel_rfl
@[go_sem] theorem ty34fld6 : fldI Try.prog 34 6 = some (6, 1, false) := by kernel_rfl
@[go_sem] theorem ty34fld7 : fldI Try.prog 34 7 = some (7, 1, false) := by kernel_rfl
@[go_sem] theorem ty34fld8 : fldI Try.prog 34 8 = some (8, 1, false) := by kernel_rfl
@[go_sem] theorem ty34fld9 : fldI Try.prog 34 9 = some (9, 1, false) := by kernel_rfl
@[go_sem] theorem ty34fld10 : fldI Try.prog 34 10 = some (10, 1, false) := by kernel_rfl
@[go_sem] theorem ty35tyK : tyK Try.prog 35 = .agg 11 := by kernel_rfl
@[go_sem] theorem ty35sizeT : sizeT Try.prog 35 = some 11 := by kernel_rfl
@[go_sem] theorem ty35zeroT : zeroT Try.prog 35 = some (.agg #[(.int .i64 0), (.int .i64 0), (.int .i64 0), (.int .i64 0), (.int .i64 0), (.int .i64 0), (.int .i64 0), (.bool false), (.int .i64 0), (.int .i64 0), (.int .i64 0)]) := by kernel_rfl
@[go_sem] theorem ty35conc : Program.concrete Try.prog 35 = true := by kernel_rfl
@[go_sem] theorem ty35plc : plcT Try.prog 35 = some [(0, 1), (1, 1), (2, 1), (3, 1), (4, 1), (5, 1), (6, 1), (7, 1), (8, 1), (9, 1), (10, 1)] := by kernel_rfl
@[go_sem] theorem ty35flat : flatT Try.prog 35 = some [.int, .int, .int, .int, .int, .int, .int, .bool, .int, .int, .int] := by kernel_rfl
@[go_sem] theorem ty35fld0 : fldI Try.prog 35 0 = some (0, 1, false) := by kernel_rfl
@[go_sem] theorem ty35fld1 : fldI Try.prog 35 1 = some (1, 1, false) := by kernel_rfl
@[go_sem] theorem ty35fld2 : fldI Try.prog 35 2 = some (2, 1, false) := by kernel_rfl
@[go_sem] theorem ty35fld3 : fldI Try.prog 35 3 = some (3, 1, false) := by kernel_rfl
@[go_sem] theorem ty35fld4 : fldI Try.prog 35 4 = some (4, 1, false) := by kernel_rfl
@[go_sem] theorem ty35fld5 : fldI Try.prog 35 5 = some (5, 1, false) := by kernel_rfl
@[go_sem] theorem ty35fld6 : fldI Try.prog 35 6 = some (6, 1, false) := by kernel_rfl
@[go_sem] theorem ty35fld7 : fldI Try.prog 35 7 = some (7, 1, false) := by kernel_rfl
@[go_sem] theorem ty35fld8 : fldI Try.prog 35 8 = some (8, 1, false) := by kernel_rfl
@[go_sem] theorem ty35fld9 : fldI Try.prog 35 9 = some (9, 1, false) := by kernel_rfl
@[go_sem] theorem ty35fld10 : fldI Try.prog 35 10 = some (10, 1, false) := by kernel_rfl
@[go_sem] theorem ty36tyK : tyK Try.prog 36 = .other := by kernel_rfl
@[go_sem] theorem ty36sizeT : sizeT Try.prog 36 = some 1 := by kernel_rfl
@[go_sem] theorem ty36zeroT : zeroT Try.prog 36 = some (.tuple #[(.agg #[(.int .i64 0), (.int .i64 0), (.int .i64 0), (.int .i64 0), (.int .i64 0), (.int .i64 0), (.int .i64 0), (.bool false), (.int .i64 0), (.int .i64 0), (.int .i64 0)]), (.bool false)]) := by kernel_rfl
@[go_sem] theorem ty36conc : Program.concrete Try.prog 36 = true := by kernel_rfl
@[go_sem] theorem ty37tyK : tyK Try.prog 37 = .other := by kernel_rfl
@[go_sem] theorem ty37isFuncT : isFuncT Try.prog 37 = true := by kernel_rfl
@[go_sem] theorem ty37sizeT : sizeT Try.prog 37 = some 1 := by kernel_rfl
@[go_sem] theorem ty37zeroT : zeroT Try.prog 37 = some .nilFunc := by kernel_rfl
@[go_sem] theorem ty37conc : Program.concrete Try.prog 37 = true := by kernel_rfl
@[go_sem] theorem ty38tyK : tyK Try.prog 38 = .other := by kernel_rfl
@[go_sem] theorem ty38isFuncT : isFuncT Try.prog 38 = true := by kernel_rfl
@[go_sem] theorem ty38sizeT : sizeT Try.prog 38 = some 1 := by kernel_rfl
@[go_sem] theorem ty38zeroT : zeroT Try.prog 38 = some .nilFunc := by kernel_rfl
@[go_sem] theorem ty38conc : Program.concrete Try.prog 38 = true := by kernel_rfl
@[go_sem] theorem ty39tyK : tyK Try.prog 39 = .slice false 49 := by kernel_rfl
@[go_sem] theorem ty39isSliceT : isSliceT Try.prog 39 = true := by kernel_rfl
@[go_sem] theorem ty39sliI : sliI Try.prog 39 = some 1 := by kernel_rfl
@[go_sem] theorem ty39mkI : mkI Try.prog 39 = some (49, 1, 24, (.slice none 0 0)) := by kernel_rfl
@[go_sem] theorem ty39sizeT : sizeT Try.prog 39 = some 1 := by kernel_rfl
@[go_sem] theorem ty39zeroT : zeroT Try.prog 39 = some (.slice none 0 0) := by kernel_rfl
@[go_sem] theorem ty39conc : Program.concrete Try.prog 39 = true := by kernel_rfl
@[go_sem] theorem ty40tyK : tyK Try.prog 40 = .agg 3 := by kernel_rfl
@[go_sem] theorem ty40sizeT : sizeT Try.prog 40 = some 3 := by kernel_rfl
@[go_sem] theorem ty40zeroT : zeroT Try.prog 40 = some (.agg #[(.slice none 0 0), (.slice none 0 0), (.int .i64 0)]) := by kernel_rfl
@[go_sem] theorem ty40conc : Program.concrete Try.prog 40 = true := by kernel_rfl
@[go_sem] theorem ty40plc : plcT Try.prog 40 = some [(0, 1), (1, 1), (2, 1)] := by kernel_rfl
@[go_sem] theorem ty40fld0 : fldI Try.prog 40 0 = some (0, 1, false) := by kernel_rfl
@[go_sem] theorem ty40fld1 : fldI Try.prog 40 1 = some (1, 1, false) := by kernel_rfl
@[go_sem] theorem ty40fld2 : fldI Try.prog 40 2 = some (2, 1, false) := by kernel_rfl
@[go_sem] theorem ty41tyK : tyK Try.prog 41 = .agg 3 := by kernel_rfl
@[go_sem] theorem ty41sizeT : sizeT Try.prog 41 = some 3 := by kernel_rfl
@[go_sem] theorem ty41zeroT : zeroT Try.prog 41 = some (.agg #[(.slice none 0 0), (.slice none 0 0), (.int .i64 0)]) := by kernel_rfl
@[go_sem] theorem ty41conc : Program.concrete Try.prog 41 = true := by kernel_rfl
@[go_sem] theorem ty41plc : plcT Try.prog 41 = some [(0, 1), (1, 1), (2, 1)] := by kernel_rfl
@[go_sem] theorem ty41fld0 : fldI Try.prog 41 0 = some (0, 1, false) := by kernel_rfl
@[go_sem] theorem ty41fld1 : fldI Try.prog 41 1 = some (1, 1, false) := by kernel_rfl
@[go_sem] theorem ty41fld2 : fldI Try.prog 41 2 = some (2, 1, false) := by kernel_rfl
@[go_sem] theorem ty42tyK : tyK Try.prog 42 = .int .i64 := by kernel_rfl
@[go_sem] theorem ty42sizeT : sizeT Try.prog 42 = some 1 := by kernel_rfl
@[go_sem] theorem ty42zeroT : zeroT Try.prog 42 = some (.int .i64 0) := by kernel_rfl
@[go_sem] theorem ty42conc : Program.concrete Try.prog 42 = true := by kernel_rfl
@[go_sem] theorem ty43tyK : tyK Try.prog 43 = .other := by kernel_rfl
@[go_sem] theorem ty43sizeT : sizeT Try.prog 43 = some 1 := by kernel_rfl
@[go_sem] theorem ty43zeroT : zeroT Try.prog 43 = some (.tuple #[(.agg #[(.slice none 0 0), (.slice none 0 0), (.int .i64 0)]), (.int .i64 0)]) := by kernel_rfl
@[go_sem] theorem ty43conc : Program.concrete Try.prog 43 = true := by kernel_rfl
@[go_sem] theorem ty44tyK : tyK Try.prog 44 = .other := by kernel_rfl
@[go_sem] theorem ty44isFuncT : isFuncT Try.prog 44 = true := by kernel_rfl
@[go_sem] theorem ty44sizeT : sizeT Try.prog 44 = some 1 := by kernel_rfl
@[go_sem] theorem ty44zeroT : zeroT Try.prog 44 = some .nilFunc := by kernel_rfl
@[go_sem] theorem ty44conc : Program.concrete Try.prog 44 = true := by kernel_rfl
@[go_sem] theorem ty45tyK : tyK Try.prog 45 = .other := by kernel_rfl
@[go_sem] theorem ty45isFuncT : isFuncT Try.prog 45 = true := by kernel_rfl
@[go_sem] theorem ty45sizeT : sizeT Try.prog 45 = some 1 := by kernel_rfl
@[go_sem] theorem ty45zeroT : zeroT Try.prog 45 = some .nilFunc := by kernel_rfl
@[go_sem] theorem ty45conc : Program.concrete Try.prog 45 = true := by kernel_rfl
@[go_sem] theorem ty46tyK : tyK Try.prog 46 = .other := by kernel_rfl
@[go_sem] theorem ty46isFuncT : isFuncT Try.prog 46 = true := by kernel_rfl
@[go_sem] theorem ty46sizeT : sizeT Try.prog 46 = some 1 := by kernel_rfl
@[go_sem] theorem ty46zeroT : zeroT Try.prog 46 = some .nilFunc := by kernel_rfl
@[go_sem] theorem ty46conc : Program.concrete Try.prog 46 = true := by kernel_rfl
@[go_sem] theorem ty47tyK : tyK Try.prog 47 = .other := by kernel_rfl
@[go_sem] theorem ty47sizeT : sizeT Try.prog 47 = some 1 := by kernel_rfl
@[go_sem] theorem ty47zeroT : zeroT Try.prog 47 = some (.tuple #[(.agg #[(.slice none 0 0), (.slice none 0 0), (.int .i64 0)]), (.int .i64 0)]) := by kernel_rfl
@[go_sem] theorem ty47conc : Program.concrete Try.prog 47 = true := by kernel_rfl
@[go_sem] theorem ty48tyK : tyK Try.prog 48 = .other := by kernel_rfl
@[go_sem] theorem ty48isFuncT : isFuncT Try.prog 48 = true := by kernel_rfl
@[go_sem] theorem ty48sizeT : sizeT Try.prog 48 = some 1 := by kernel_rfl
@[go_sem] theorem ty48zeroT : zeroT Try.prog 48 = some .nilFunc := by kernel_rfl
@[go_sem] theorem ty48conc : Program.concrete Try.prog 48 = true := by kernel_rfl
@[go_sem] theorem ty49tyK : tyK Try.prog 49 = .slice false 3 := by kernel_rfl
@[go_sem] theorem ty49isSliceT : isSliceT Try.prog 49 = true := by kernel_rfl
@[go_sem] theorem ty49sliI : sliI Try.prog 49 = some 1 := by kernel_rfl
@[go_sem] theorem ty49mkI : mkI Try.prog 49 = some (3, 1, 8, (.int .i64 0)) := by kernel_rfl
@[go_sem] theorem ty49sizeT : sizeT Try.prog 49 = some 1 := by kernel_rfl
@[go_sem] theorem ty49zeroT : zeroT Try.prog 49 = some (.slice none 0 0) := by kernel_rfl
@[go_sem] theorem ty49conc : Program.concrete Try.prog 49 = true := by kernel_rfl
@[go_sem] theorem ty50tyK : tyK Try.prog 50 = .other := by kernel_rfl
@[go_sem] theorem ty50isFuncT : isFuncT Try.prog 50 = true := by kernel_rfl
@[go_sem] theorem ty50sizeT : sizeT Try.prog 50 = some 1 := by kernel_rfl
@[go_sem] theorem ty50zeroT : zeroT Try.prog 50 = some .nilFunc := by kernel_rfl
@[go_sem] theorem ty50conc : Program.concrete Try.prog 50 = true := by kernel_rfl
@[go_sem] theorem ty51tyK : tyK Try.prog 51 = .other := by kernel_rfl
@[go_sem] theorem ty51isFuncT : isFuncT Try.prog 51 = true := by kernel_rfl
@[go_sem] theorem ty51sizeT : sizeT Try.prog 51 = some 1 := by kernel_rfl
@[go_sem] theorem ty51zeroT : zeroT Try.prog 51 = some .nilFunc := by kernel_rfl
@[go_sem] theorem ty51conc : Program.concrete Try.prog 51 = true := by kernel_rfl
@[go_sem] theorem ty52tyK : tyK Try.prog 52 = .other := by kernel_rfl
@[go_sem] theorem ty52isFuncT : isFuncT Try.prog 52 = true := by kernel_rfl
@[go_sem] theorem ty52sizeT : sizeT Try.prog 52 = some 1 := by kernel_rfl
@[go_sem] theorem ty52zeroT : zeroT Try.prog 52 = some .nilFunc := by kernel_rfl
@[go_sem] theorem ty52conc : Program.concrete Try.prog 52 = true := by kernel_rfl
@[go_sem] theorem ty53tyK : tyK Try.prog 53 = .other := by kernel_rfl
@[go_sem] theorem ty53isFuncT : isFuncT Try.prog 53 = true := by kernel_rfl
@[go_sem] theorem ty53sizeT : sizeT Try.prog 53 = some 1 := by kernel_rfl
@[go_sem] theorem ty53zeroT : zeroT Try.prog 53 = some .nilFunc := by kernel_rfl
@[go_sem] theorem ty53conc : Program.concrete Try.prog 53 = true := by kernel_rfl
@[go_sem] theorem ty54tyK : tyK Try.prog 54 = .slice false 4 := by kernel_rfl
@[go_sem] theorem ty54isSliceT : isSliceT Try.prog 54 = true := by kernel_rfl
@[go_sem] theorem ty54sliI : sliI Try.prog 54 = some 1 := by kernel_rfl
@[go_sem] theorem ty54mkI : mkI Try.prog 54 = some (4, 1, 1, (.bool false)) := by kernel_rfl
@[go_sem] theorem ty54sizeT : sizeT Try.prog 54 = some 1 := by kernel_rfl
@[go_sem] theorem ty54zeroT : zeroT Try.prog 54 = some (.slice none 0 0) := by kernel_rfl
@[go_sem] theorem ty54conc : Program.concrete Try.prog 54 = true := by kernel_rfl
@[go_sem] theorem ty55tyK : tyK Try.prog 55 = .other := by kernel_rfl
@[go_sem] theorem ty55isFuncT : isFuncT Try.prog 55 = true := by kernel_rfl
@[go_sem] theorem ty55sizeT : sizeT Try.prog 55 = some 1 := by kernel_rfl
@[go_sem] theorem ty55zeroT : zeroT Try.prog 55 = some .nilFunc := by kernel_rfl
@[go_sem] theorem ty55conc : Program.concrete Try.prog 55 = true := by kernel_rfl
@[go_sem] theorem ty56tyK : tyK Try.prog 56 = .other := by kernel_rfl
@[go_sem] theorem ty56isFuncT : isFuncT Try.prog 56 = true := by kernel_rfl
@[go_sem] theorem ty56sizeT : sizeT Try.prog 56 = some 1 := by kernel_rfl
@[go_sem] theorem ty56zeroT : zeroT Try.prog 56 = some .nilFunc := by kernel_rfl
@[go_sem] theorem ty56conc : Program.concrete Try.prog 56 = true := by kernel_rfl
@[go_sem] theorem ty57tyK : tyK Try.prog 57 = .int .u16 := by kernel_rfl
@[go_sem] theorem ty57sizeT : sizeT Try.prog 57 = some 1 := by kernel_rfl
@[go_sem] theorem ty57zeroT : zeroT Try.prog 57 = some (.int .u16 0) := by kernel_rfl
@[go_sem] theorem ty57conc : Program.concrete Try.prog 57 = true := by kernel_rfl
@[go_sem] theorem ty58tyK : tyK Try.prog 58 = .other := by kernel_rfl
@[go_sem] theorem ty58isFuncT : isFuncT Try.prog 58 = true := by kernel_rfl
@[go_sem] theorem ty58sizeT : sizeT Try.prog 58 = some 1 := by kernel_rfl
@[go_sem] theorem ty58zeroT : zeroT Try.prog 58 = some .nilFunc := by kernel_rfl
@[go_sem] theorem ty58conc : Program.concrete Try.prog 58 = true := by kernel_rfl
@[go_sem] theorem ty59tyK : tyK Try.prog 59 = .other := by kernel_rfl
@[go_sem] theorem ty59isFuncT : isFuncT Try.prog 59 = true := by kernel_rfl
@[go_sem] theorem ty59sizeT : sizeT Try.prog 59 = some 1 := by kernel_rfl
@[go_sem] theorem ty59zeroT : zeroT Try.prog 59 = some .nilFunc := by kernel_rfl
@[go_sem] theorem ty59conc : Program.concrete Try.prog 59 = true := by kernel_rfl
@[go_sem] theorem ty60tyK : tyK Try.prog 60 = .other := by kernel_rfl
@[go_sem] theorem ty60isFuncT : isFuncT Try.prog 60 = true := by kernel_rfl
@[go_sem] theorem ty60sizeT : sizeT Try.prog 60 = some 1 := by kernel_rfl
@[go_sem] theorem ty60zeroT : zeroT Try.prog 60 = some .nilFunc := by kernel_rfl
@[go_sem] theorem ty60conc : Program.concrete Try.prog 60 = true := by kernel_rfl
@[go_sem] theorem ty61tyK : tyK Try.prog 61 = .other := by kernel_rfl
@[go_sem] theorem ty61isFuncT : isFuncT Try.prog 61 = true := by kernel_rfl
@[go_sem] theorem ty61sizeT : sizeT Try.prog 61 = some 1 := by kernel_rfl
@[go_sem] theorem ty61zeroT : zeroT Try.prog 61 = some .nilFunc := by kernel_rfl
@[go_sem] theorem ty61conc : Program.concrete Try.prog 61 = true := by kernel_rfl
@[go_sem] theorem ty62tyK : tyK Try.prog 62 = .other := by kernel_rfl
@[go_sem] theorem ty62isFuncT : isFuncT Try.prog 62 = true := by kernel_rfl
@[go_sem] theorem ty62sizeT : sizeT Try.prog 62 = some 1 := by kernel_rfl
@[go_sem] theorem ty62zeroT : zeroT Try.prog 62 = some .nilFunc := by kernel_rfl
@[go_sem] theorem ty62conc : Program.concrete Try.prog 62 = true := by kernel_rfl
@[go_sem] theorem ty63tyK : tyK Try.prog 63 = .other := by kernel_rfl
@[go_sem] theorem ty63isFuncT : isFuncT Try.prog 63 = true := by kernel_rfl
@[go_sem] theorem ty63sizeT : sizeT Try.prog 63 = some 1 := by kernel_rfl
@[go_sem] theorem ty63zeroT : zeroT Try.prog 63 = some .nilFunc := by kernel_rfl
@[go_sem] theorem ty63conc : Program.concrete Try.prog 63 = true := by kernel_rfl
@[go_sem] theorem ty64tyK : tyK Try.prog 64 = .other := by kernel_rfl
@[go_sem] theorem ty64isFuncT : isFuncT Try.prog 64 = true := by kernel_rfl
@[go_sem] theorem ty64sizeT : sizeT Try.prog 64 = some 1 := by kernel_rfl
@[go_sem] theorem ty64zeroT : zeroT Try.prog 64 = some .nilFunc := by kernel_rfl
@[go_sem] theorem ty64conc : Program.concrete Try.prog 64 = true := by kernel_rfl
@[go_sem] theorem ty65tyK : tyK Try.prog 65 = .other := by kernel_rfl
@[go_sem] theorem ty65isFuncT : isFuncT Try.prog 65 = true := by kernel_rfl
@[go_sem] theorem ty65sizeT : sizeT Try.prog 65 = some 1 := by kernel_rfl
@[go_sem] theorem ty65zeroT : zeroT Try.prog 65 = some .nilFunc := by kernel_rfl
@[go_sem] theorem ty65conc : Program.concrete Try.prog 65 = true := by kernel_rfl
@[go_sem] theorem ty66tyK : tyK Try.prog 66 = .other := by kernel_rfl
@[go_sem] theorem ty66isFuncT : isFuncT Try.prog 66 = true := by kernel_rfl
@[go_sem] theorem ty66sizeT : sizeT Try.prog 66 = some 1 := by kernel_rfl
@[go_sem] theorem ty66zeroT : zeroT Try.prog 66 = some .nilFunc := by kernel_rfl
@[go_sem] theorem ty66conc : Program.concrete Try.prog 66 = true := by kernel_rfl
@[go_sem] theorem ty67tyK : tyK Try.prog 67 = .other := by kernel_rfl
@[go_sem] theorem ty67isFuncT : isFuncT Try.prog 67 = true := by kernel_rfl
@[go_sem] theorem ty67sizeT : sizeT Try.prog 67 = some 1 := by kernel_rfl
@[go_sem] theorem ty67zeroT : zeroT Try.prog 67 = some .nilFunc := by kernel_rfl
@[go_sem] theorem ty67conc : Program.concrete Try.prog 67 = true := by kernel_rfl
@[go_sem] theorem ty68tyK : tyK Try.prog 68 = .ptr := by kernel_rfl
@[go_sem] theorem ty68isPtrT : isPtrT Try.prog 68 = true := by kernel_rfl
@[go_sem] theorem ty68sizeT : sizeT Try.prog 68 = some 1 := by kernel_rfl
@[go_sem] theorem ty68zeroT : zeroT Try.prog 68 = some (.pointer none) := by kernel_rfl
@[go_sem] theorem ty68conc : Program.concrete Try.prog 68 = true := by kernel_rfl
@[go_sem] theorem ty69tyK : tyK Try.prog 69 = .other := by kernel_rfl
@[go_sem] theorem ty69isFuncT : isFuncT Try.prog 69 = true := by kernel_rfl
@[go_sem] theorem ty69sizeT : sizeT Try.prog 69 = some 1 := by kernel_rfl
@[go_sem] theorem ty69zeroT : zeroT Try.prog 69 = some .nilFunc := by kernel_rfl
@[go_sem] theorem ty69conc : Program.concrete Try.prog 69 = true := by kernel_rfl
@[go_sem] theorem ty70tyK : tyK Try.prog 70 = .other := by kernel_rfl
@[go_sem] theorem ty70isFuncT : isFuncT Try.prog 70 = true := by kernel_rfl
@[go_sem] theorem ty70sizeT : sizeT Try.prog 70 = some 1 := by kernel_rfl
@[go_sem] theorem ty70zeroT : zeroT Try.prog 70 = some .nilFunc := by kernel_rfl
@[go_sem] theorem ty70conc : Program.concrete Try.prog 70 = true := by kernel_rfl
@[go_sem] theorem ty71tyK : tyK Try.prog 71 = .int .u32 := by kernel_rfl
@[go_sem] theorem ty71sizeT : sizeT Try.prog 71 = some 1 := by kernel_rfl
@[go_sem] theorem ty71zeroT : zeroT Try.prog 71 = some (.int .u32 0) := by kernel_rfl
@[go_sem] theorem ty71conc : Program.concrete Try.prog 71 = true := by kernel_rfl
@[go_sem] theorem ty72tyK : tyK Try.prog 72 = .slice false 71 := by kernel_rfl
@[go_sem] theorem ty72isSliceT : isSliceT Try.prog 72 = true := by kernel_rfl
@[go_sem] theorem ty72sliI : sliI Try.prog 72 = some 1 := by kernel_rfl
@[go_sem] theorem ty72mkI : mkI Try.prog 72 = some (71, 1, 4, (.int .u32 0)) := by kernel_rfl
@[go_sem] theorem ty72sizeT : sizeT Try.prog 72 = some 1 := by kernel_rfl
@[go_sem] theorem ty72zeroT : zeroT Try.prog 72 = some (.slice none 0 0) := by kernel_rfl
@[go_sem] theorem ty72conc : Program.concrete Try.prog 72 = true := by kernel_rfl
@[go_sem] theorem ty73tyK : tyK Try.prog 73 = .map := by kernel_rfl
@[go_sem] theorem ty73isMapT : isMapT Try.prog 73 = true := by kernel_rfl
@[go_sem] theorem ty73sizeT : sizeT Try.prog 73 = some 1 := by kernel_rfl
@[go_sem] theorem ty73zeroT : zeroT Try.prog 73 = some (.map none) := by kernel_rfl
@[go_sem] theorem ty73conc : Program.concrete Try.prog 73 = true := by kernel_rfl
@[go_sem] theorem ty74tyK : tyK Try.prog 74 = .slice false 80 := by kernel_rfl
@[go_sem] theorem ty74isSliceT : isSliceT Try.prog 74 = true := by kernel_rfl
@[go_sem] theorem ty74sliI : sliI Try.prog 74 = some 3 := by kernel_rfl
@[go_sem] theorem ty74mkI : mkI Try.prog 74 = some (80, 3, 48, (.agg #[(.int .u32 0), (.string (ofL [])), (.slice none 0 0)])) := by kernel_rfl
@[go_sem] theorem ty74sizeT : sizeT Try.prog 74 = some 1 := by kernel_rfl
@[go_sem] theorem ty74zeroT : zeroT Try.prog 74 = some (.slice none 0 0) := by kernel_rfl
@[go_sem] theorem ty74conc : Program.concrete Try.prog 74 = true := by kernel_rfl
@[go_sem] theorem ty75tyK : tyK Try.prog 75 = .agg 5 := by kernel_rfl
@[go_sem] theorem ty75sizeT : sizeT Try.prog 75 = some 5 := by kernel_rfl
@[go_sem] theorem ty75zeroT : zeroT Try.prog 75 = some (.agg #[(.slice none 0 0), (.slice none 0 0), (.int .u32 0), (.map none), (.slice none 0 0)]) := by kernel_rfl
@[go_sem] theorem ty75conc : Program.concrete Try.prog 75 = true := by kernel_rfl
@[go_sem] theorem ty75plc : plcT Try.prog 75 = some [(0, 1), (1, 1), (2, 1), (3, 1), (4, 1)] := by kernel_rfl
@[go_sem] theorem ty75fld0 : fldI Try.prog 75 0 = some (0, 1, false) := by kernel_rfl
@[go_sem] theorem ty75fld1 : fldI Try.prog 75 1 = some (1, 1, false) := by kernel_rfl
@[go_sem] theorem ty75fld2 : fldI Try.prog 75 2 = some (2, 1, false) := by kernel_rfl
@[go_sem] theorem ty75fld3 : fldI Try.prog 75 3 = some (3, 1, false) := by kernel_rfl
@[go_sem] theorem ty75fld4 : fldI Try.prog 75 4 = some (4, 1, false) := by kernel_rfl
@[go_sem] theorem ty76tyK : tyK Try.prog 76 = .agg 5 := by kernel_rfl
@[go_sem] theorem ty76sizeT : sizeT Try.prog 76 = some 5 := by kernel_rfl
@[go_sem] theorem ty76zeroT : zeroT Try.prog 76 = some (.agg #[(.slice none 0 0), (.slice none 0 0), (.int .u32 0), (.map none), (.slice none 0 0)]) := by kernel_rfl
@[go_sem] theorem ty76conc : Program.concrete Try.prog 76 = true := by kernel_rfl
@[go_sem] theorem ty76plc : plcT Try.prog 76 = some [(0, 1), (1, 1), (2, 1), (3, 1), (4, 1)] := by kernel_rfl
@[go_sem] theorem ty76fld0 : fldI Try.prog 76 0 = some (0, 1, false) := by kernel_rfl
@[go_sem] theorem ty76fld1 : fldI Try.prog 76 1 = some (1, 1, false) := by kernel_rfl
@[go_sem] theorem ty76fld2 : fldI Try.prog 76 2 = some (2, 1, false) := by kernel_rfl
@[go_sem] theorem ty76fld3 : fldI Try.prog 76 3 = some (3, 1, false) := by kernel_rfl
@[go_sem] theorem ty76fld4 : fldI Try.prog 76 4 = some (4, 1, false) := by kernel_rfl
@[go_sem] theorem ty77tyK : tyK Try.prog 77 = .agg 2 := by kernel_rfl
@[go_sem] theorem ty77sizeT : sizeT Try.prog 77 = some 2 := by kernel_rfl
@[go_sem] theorem ty77zeroT : zeroT Try.prog 77 = some (.agg #[(.int .u32 0), (.string (ofL []))]) := by kernel_rfl
@[go_sem] theorem ty77conc : Program.concrete Try.prog 77 = true := by kernel_rfl
@[go_sem] theorem ty77plc : plcT Try.prog 77 = some [(0, 1), (1, 1)] := by kernel_rfl
@[go_sem] theorem ty77flat : flatT Try.prog 77 = some [.int, .str] := by kernel_rfl
@[go_sem] theorem ty77fld0 : fldI Try.prog 77 0 = some (0, 1, false) := by kernel_rfl
@[go_sem] theorem ty77fld1 : fldI Try.prog 77 1 = some (1, 1, false) := by kernel_rfl
@[go_sem] theorem ty78tyK : tyK Try.prog 78 = .agg 2 := by kernel_rfl
@[go_sem] theorem ty78sizeT : sizeT Try.prog 78 = some 2 := by kernel_rfl
@[go_sem] theorem ty78zeroT : zeroT Try.prog 78 = some (.agg #[(.int .u32 0), (.string (ofL []))]) := by kernel_rfl
@[go_sem] theorem ty78conc : Program.concrete Try.prog 78 = true := by kernel_rfl
@[go_sem] theorem ty78plc : plcT Try.prog 78 = some [(0, 1), (1, 1)] := by kernel_rfl
@[go_sem] theorem ty78flat : flatT Try.prog 78 = some [.int, .str] := by kernel_rfl
@[go_sem] theorem ty78fld0 : fldI Try.prog 78 0 = some (0, 1, false) := by kernel_rfl
@[go_sem] theorem ty78fld1 : fldI Try.prog 78 1 = some (1, 1, false) := by kernel_rfl
@[go_sem] theorem ty79tyK : tyK Try.prog 79 = .agg 3 := by kernel_rfl
@[go_sem] theorem ty79sizeT : sizeT Try.prog 79 = some 3 := by kernel_rfl
@[go_sem] theorem ty79zeroT : zeroT Try.prog 79 = some (.agg #[(.int .u32 0), (.string (ofL [])), (.slice none 0 0)]) := by kernel_rfl
@[go_sem] theorem ty79conc : Program.concrete Try.prog 79 = true := by kernel_rfl
@[go_sem] theorem ty79plc : plcT Try.prog 79 = some [(0, 2), (2, 1)] := by kernel_rfl
@[go_sem] theorem ty79fld0 : fldI Try.prog 79 0 = some (0, 2, true) := by kernel_rfl
@[go_sem] theorem ty79fld1 : fldI Try.prog 79 1 = some (2, 1, false) := by kernel_rfl
@[go_sem] theorem ty80tyK : tyK Try.prog 80 = .agg 3 := by kernel_rfl
@[go_sem] theorem ty80sizeT : sizeT Try.prog 80 = some 3 := by kernel_rfl
@[go_sem] theorem ty80zeroT : zeroT Try.prog 80 = some (.agg #[(.int .u32 0), (.string (ofL [])), (.slice none 0 0)]) := by kernel_rfl
@[go_sem] theorem ty80conc : Program.concrete Try.prog 80 = true := by kernel_rfl
@[go_sem] theorem ty80plc : plcT Try.prog 80 = some [(0, 2), (2, 1)] := by kernel_rfl
@[go_sem] theorem ty80fld0 : fldI Try.prog 80 0 = some (0, 2, true) := by kernel_rfl
@[go_sem] theorem ty80fld1 : fldI Try.prog 80 1 = some (2, 1, false) := by kernel_rfl
@[go_sem] theorem ty81tyK : tyK Try.prog 81 = .other := by kernel_rfl
@[go_sem] theorem ty81isFuncT : isFuncT Try.prog 81 = true := by kernel_rfl
@[go_sem] theorem ty81sizeT : sizeT Try.prog 81 = some 1 := by kernel_rfl
@[go_sem] theorem ty81zeroT : zeroT Try.prog 81 = some .nilFunc := by kernel_rfl
@[go_sem] theorem ty81conc : Program.concrete Try.prog 81 = true := by kernel_rfl
@[go_sem] theorem ty82tyK : tyK Try.prog 82 = .other := by kernel_rfl
@[go_sem] theorem ty82sizeT : sizeT Try.prog 82 = some 1 := by kernel_rfl
@[go_sem] theorem ty82zeroT : zeroT Try.prog 82 = some (.tuple #[(.slice none 0 0), (.bool false)]) := by kernel_rfl
@[go_sem] theorem ty82conc : Program.concrete Try.prog 82 = true := by kernel_rfl
@[go_sem] theorem ty83tyK : tyK Try.prog 83 = .other := by kernel_rfl
@[go_sem] theorem ty83isFuncT : isFuncT Try.prog 83 = true := by kernel_rfl
@[go_sem] theorem ty83sizeT : sizeT Try.prog 83 = some 1 := by kernel_rfl
@[go_sem] theorem ty83zeroT : zeroT Try.prog 83 = some .nilFunc := by kernel_rfl
@[go_sem] theorem ty83conc : Program.concrete Try.prog 83 = true := by kernel_rfl
@[go_sem] theorem ty84tyK : tyK Try.prog 84 = .int .u64 := by kernel_rfl
@[go_sem] theorem ty84sizeT : sizeT Try.prog 84 = some 1 := by kernel_rfl
@[go_sem] theorem ty84zeroT : zeroT Try.prog 84 = some (.int .u64 0) := by kernel_rfl
@[go_sem] theorem ty84conc : Program.concrete Try.prog 84 = true := by kernel_rfl
@[go_sem] theorem ty85tyK : tyK Try.prog 85 = .other := by kernel_rfl
@[go_sem] theorem ty85isFuncT : isFuncT Try.prog 85 = true := by kernel_rfl
@[go_sem] theorem ty85sizeT : sizeT Try.prog 85 = some 1 := by kernel_rfl
@[go_sem] theorem ty85zeroT : zeroT Try.prog 85 = some .nilFunc := by kernel_rfl
@[go_sem] theorem ty85conc : Program.concrete Try.prog 85 = true := by kernel_rfl
@[go_sem] theorem ty86tyK : tyK Try.prog 86 = .other := by kernel_rfl
@[go_sem] theorem ty86isFuncT : isFuncT Try.prog 86 = true := by kernel_rfl
@[go_sem] theorem ty86sizeT : sizeT Try.prog 86 = some 1 := by kernel_rfl
@[go_sem] theorem ty86zeroT : zeroT Try.prog 86 = some .nilFunc := by kernel_rfl
@[go_sem] theorem ty86conc : Program.concrete Try.prog 86 = true := by kernel_rfl
@[go_sem] theorem ty87tyK : tyK Try.prog 87 = .slice false 91 := by kernel_rfl
@[go_sem] theorem ty87isSliceT : isSliceT Try.prog 87 = true := by kernel_rfl
@[go_sem] theorem ty87sliI : sliI Try.prog 87 = some 2 := by kernel_rfl
@[go_sem] theorem ty87mkI : mkI Try.prog 87 = some (91, 2, 48, (.agg #[(.slice none 0 0), (.slice none 0 0)])) := by kernel_rfl
@[go_sem] theorem ty87sizeT : sizeT Try.prog 87 = some 1 := by kernel_rfl
@[go_sem] theorem ty87zeroT : zeroT Try.prog 87 = some (.slice none 0 0) := by kernel_rfl
@[go_sem] theorem ty87conc : Program.concrete Try.prog 87 = true := by kernel_rfl
@[go_sem] theorem ty88tyK : tyK Try.prog 88 = .other := by kernel_rfl
@[go_sem] theorem ty88isFuncT : isFuncT Try.prog 88 = true := by kernel_rfl
@[go_sem] theorem ty88sizeT : sizeT Try.prog 88 = some 1 := by kernel_rfl
@[go_sem] theorem ty88zeroT : zeroT Try.prog 88 = some .nilFunc := by kernel_rfl
@[go_sem] theorem ty88conc : Program.concrete Try.prog 88 = true := by kernel_rfl
@[go_sem] theorem ty89tyK : tyK Try.prog 89 = .other := by kernel_rfl
@[go_sem] theorem ty89isFuncT : isFuncT Try.prog 89 = true := by kernel_rfl
@[go_sem] theorem ty89sizeT : sizeT Try.prog 89 = some 1 := by kernel_rfl
@[go_sem] theorem ty89zeroT : zeroT Try.prog 89 = some .nilFunc := by kernel_rfl
@[go_sem] theorem ty89conc : Program.concrete Try.prog 89 = true := by kernel_rfl
@[go_sem] theorem ty90tyK : tyK Try.prog 90 = .agg 2 := by kernel_rfl
@[go_sem] theorem ty90sizeT : sizeT Try.prog 90 = some 2 := by kernel_rfl
@[go_sem] theorem ty90zeroT : zeroT Try.prog 90 = some (.agg #[(.slice none 0 0), (.slice none 0 0)]) := by kernel_rfl
@[go_sem] theorem ty90conc : Program.concrete Try.prog 90 = true := by kernel_rfl
@[go_sem] theorem ty90plc : plcT Try.prog 90 = some [(0, 1), (1, 1)] := by kernel_rfl
@[go_sem] theorem ty90fld0 : fldI Try.prog 90 0 = some (0, 1, false) := by kernel_rfl
@[go_sem] theorem ty90fld1 : fldI Try.prog 90 1 = some (1, 1, false) := by kernel_rfl
@[go_sem] theorem ty91tyK : tyK Try.prog 91 = .agg 2 := by kernel_rfl
@[go_sem] theorem ty91sizeT : sizeT Try.prog 91 = some 2 := by kernel_rfl
@[go_sem] theorem ty91zeroT : zeroT Try.prog 91 = some (.agg #[(.slice none 0 0), (.slice none 0 0)]) := by kernel_rfl
@[go_sem] theorem ty91conc : Program.concrete Try.prog 91 = true := by kernel_rfl
@[go_sem] theorem ty91plc : plcT Try.prog 91 = some [(0, 1), (1, 1)] := by kernel_rfl
@[go_sem] theorem ty91fld0 : fldI Try.prog 91 0 = some (0, 1, false) := by kernel_rfl
@[go_sem] theorem ty91fld1 : fldI Try.prog 91 1 = some (1, 1, false) := by kernel_rfl
@[go_sem] theorem ty92tyK : tyK Try.prog 92 = .other := by kernel_rfl
@[go_sem] theorem ty92isFuncT : isFuncT Try.prog 92 = true := by kernel_rfl
@[go_sem] theorem ty92sizeT : sizeT Try.prog 92 = some 1 := by kernel_rfl
@[go_sem] theorem ty92zeroT : zeroT Try.prog 92 = some .nilFunc := by kernel_rfl
@[go_sem] theorem ty92conc : Program.concrete Try.prog 92 = true := by kernel_rfl
@[go_sem] theorem ty93tyK : tyK Try.prog 93 = .other := by kernel_rfl
@[go_sem] theorem ty93isFuncT : isFuncT Try.prog 93 = true := by kernel_rfl
@[go_sem] theorem ty93sizeT : sizeT Try.prog 93 = some 1 := by kernel_rfl
@[go_sem] theorem ty93zeroT : zeroT Try.prog 93 = some .nilFunc := by kernel_rfl
@[go_sem] theorem ty93conc : Program.concrete Try.prog 93 = true := by kernel_rfl
@[go_sem] theorem ty94tyK : tyK Try.prog 94 = .other := by kernel_rfl
@[go_sem] theorem ty94isFuncT : isFuncT Try.prog 94 = true := by kernel_rfl
@[go_sem] theorem ty94sizeT : sizeT Try.prog 94 = some 1 := by kernel_rfl
@[go_sem] theorem ty94zeroT : zeroT Try.prog 94 = some .nilFunc := by kernel_rfl
@[go_sem] theorem ty94conc : Program.concrete Try.prog 94 = true := by kernel_rfl
@[go_sem] theorem ty95tyK : tyK Try.prog 95 = .other := by kernel_rfl
@[go_sem] theorem ty95isFuncT : isFuncT Try.prog 95 = true := by kernel_rfl
@[go_sem] theorem ty95sizeT : sizeT Try.prog 95 = some 1 := by kernel_rfl
@[go_sem] theorem ty95zeroT : zeroT Try.prog 95 = some .nilFunc := by kernel_rfl
@[go_sem] theorem ty95conc : Program.concrete Try.prog 95 = true := by kernel_rfl
@[go_sem] theorem ty96tyK : tyK Try.prog 96 = .other := by kernel_rfl
@[go_sem] theorem ty96isFuncT : isFuncT Try.prog 96 = true := by kernel_rfl
@[go_sem] theorem ty96sizeT : sizeT Try.prog 96 = some 1 := by kernel_rfl
@[go_sem] theorem ty96zeroT : zeroT Try.prog 96 = some .nilFunc := by kernel_rfl
@[go_sem] theorem ty96conc : Program.concrete Try.prog 96 = true := by kernel_rfl
@[go_sem] theorem ty97tyK : tyK Try.prog 97 = .other := by kernel_rfl
@[go_sem] theorem ty97isFuncT : isFuncT Try.prog 97 = true := by kernel_rfl
@[go_sem] theorem ty97sizeT : sizeT Try.prog 97 = some 1 := by kernel_rfl
@[go_sem] theorem ty97zeroT : zeroT Try.prog 97 = some .nilFunc := by kernel_rfl
@[go_sem] theorem ty97conc : Program.concrete Try.prog 97 = true := by kernel_rfl
@[go_sem] theorem ty98tyK : tyK Try.prog 98 = .other := by kernel_rfl
@[go_sem] theorem ty98isFuncT : isFuncT Try.prog 98 = true := by kernel_rfl
@[go_sem] theorem ty98sizeT : sizeT Try.prog 98 = some 1 := by kernel_rfl
@[go_sem] theorem ty98zeroT : zeroT Try.prog 98 = some .nilFunc := by kernel_rfl
@[go_sem] theorem ty98conc : Program.concrete Try.prog 98 = true := by kernel_rfl
@[go_sem] theorem ty99tyK : tyK Try.prog 99 = .other := by kernel_rfl
@[go_sem] theorem ty99isFuncT : isFuncT Try.prog 99 = true := by kernel_rfl
@[go_sem] theorem ty99sizeT : sizeT Try.prog 99 = some 1 := by kernel_rfl
@[go_sem] theorem ty99zeroT : zeroT Try.prog 99 = some .nilFunc := by kernel_rfl
@[go_sem] theorem ty99conc : Program.concrete Try.prog 99 = true := by kernel_rfl
@[go_sem] theorem ty100tyK : tyK Try.prog 100 = .other := by kernel_rfl
@[go_sem] theorem ty100isFuncT : isFuncT Try.prog 100 = true := by kernel_rfl
@[go_sem] theorem ty100sizeT : sizeT Try.prog 100 = some 1 := by kernel_rfl
@[go_sem] theorem ty100zeroT : zeroT Try.prog 100 = some .nilFunc := by kernel_rfl
@[go_sem] theorem ty100conc : Program.concrete Try.prog 100 = true := by kernel_rfl
@[go_sem] theorem ty101tyK : tyK Try.prog 101 = .other := by kernel_rfl
@[go_sem] theorem ty101isFuncT : isFuncT Try.prog 101 = true := by kernel_rfl
@[go_sem] theorem ty101sizeT : sizeT Try.prog 101 = some 1 := by kernel_rfl
@[go_sem] theorem ty101zeroT : zeroT Try.prog 101 = some .nilFunc := by kernel_rfl
@[go_sem] theorem ty101conc : Program.concrete Try.prog 101 = true := by kernel_rfl
@[go_sem] theorem ty102tyK : tyK Try.prog 102 = .other := by kernel_rfl
@[go_sem] theorem ty102isFuncT : isFuncT Try.prog 102 = true := by kernel_rfl
@[go_sem] theorem ty102sizeT : sizeT Try.prog 102 = some 1 := by kernel_rfl
@[go_sem] theorem ty102zeroT : zeroT Try.prog 102 = some .nilFunc := by kernel_rfl
@[go_sem] theorem ty102conc : Program.concrete Try.prog 102 = true := by kernel_rfl
@[go_sem] theorem ty103tyK : tyK Try.prog 103 = .other := by kernel_rfl
@[go_sem] theorem ty103isFuncT : isFuncT Try.prog 103 = true := by kernel_rfl
@[go_sem] theorem ty103sizeT : sizeT Try.prog 103 = some 1 := by kernel_rfl
@[go_sem] theorem ty103zeroT : zeroT Try.prog 103 = some .nilFunc := by kernel_rfl
@[go_sem] theorem ty103conc : Program.concrete Try.prog 103 = true := by kernel_rfl
@[go_sem] theorem ty104tyK : tyK Try.prog 104 = .other := by kernel_rfl
@[go_sem] theorem ty104isFuncT : isFuncT Try.prog 104 = true := by kernel_rfl
@[go_sem] theorem ty104sizeT : sizeT Try.prog 104 = some 1 := by kernel_rfl
@[go_sem] theorem ty104zeroT : zeroT Try.prog 104 = some .nilFunc := by kernel_rfl
@[go_sem] theorem ty104conc : Program.concrete Try.prog 104 = true := by kernel_rfl
@[go_sem] theorem ty105tyK : tyK Try.prog 105 = .other := by kernel_rfl
@[go_sem] theorem ty105isFuncT : isFuncT Try.prog 105 = true := by kernel_rfl
@[go_sem] theorem ty105sizeT : sizeT Try.prog 105 = some 1 := by kernel_rfl
@[go_sem] theorem ty105zeroT : zeroT Try.prog 105 = some .nilFunc := by kernel_rfl
@[go_sem] theorem ty105conc : Program.concrete Try.prog 105 = true := by kernel_rfl
@[go_sem] theorem ty106tyK : tyK Try.prog 106 = .agg 4 := by kernel_rfl
@[go_sem] theorem ty106sizeT : sizeT Try.prog 106 = some 4 := by kernel_rfl
@[go_sem] theorem ty106zeroT : zeroT Try.prog 106 = some (.agg #[(.int .i64 0), (.int .i64 0), (.int .i64 0), (.int .i64 0)]) := by kernel_rfl
@[go_sem] theorem ty106conc : Program.concrete Try.prog 106 = true := by kernel_rfl
@[go_sem] theorem ty106plc : plcT Try.prog 106 = some [(0, 1), (1, 1), (2, 1), (3, 1)] := by kernel_rfl
@[go_sem] theorem ty106flat : flatT Try.prog 106 = some [.int, .int, .int, .int] := by kernel_rfl
@[go_sem] theorem ty106fld0 : fldI Try.prog 106 0 = some (0, 1, false) := by kernel_rfl
@[go_sem] theorem ty106fld1 : fldI Try.prog 106 1 = some (1, 1, false) := by kernel_rfl
@[go_sem] theorem ty106fld2 : fldI Try.prog 106 2 = some (2, 1, false) := by kernel_rfl
@[go_sem] theorem ty106fld3 : fldI Try.prog 106 3 = some (3, 1, false) := by kernel_rfl
@[go_sem] theorem ty107tyK : tyK Try.prog 107 = .agg 4 := by kernel_rfl
@[go_sem] theorem ty107sizeT : sizeT Try.prog 107 = some 4 := by kernel_rfl
@[go_sem] theorem ty107zeroT : zeroT Try.prog 107 = some (.agg #[(.int .i64 0), (.int .i64 0), (.int .i64 0), (.int .i64 0)]) := by kernel_rfl
@[go_sem] theorem ty107conc : Program.concrete Try.prog 107 = true := by kernel_rfl
@[go_sem] theorem ty107plc : plcT Try.prog 107 = some [(0, 1), (1, 1), (2, 1), (3, 1)] := by kernel_rfl
@[go_sem] theorem ty107flat : flatT Try.prog 107 = some [.int, .int, .int, .int] := by kernel_rfl
@[go_sem] theorem ty107fld0 : fldI Try.prog 107 0 = some (0, 1, false) := by kernel_rfl
@[go_sem] theorem ty107fld1 : fldI Try.prog 107 1 = some (1, 1, false) := by kernel_rfl
@[go_sem] theorem ty107fld2 : fldI Try.prog 107 2 = some (2, 1, false) := by kernel_rfl
@[go_sem] theorem ty107fld3 : fldI Try.prog 107 3 = some (3, 1, false) := by kernel_rfl
@[go_sem] theorem ty108tyK : tyK Try.prog 108 = .other := by kernel_rfl
@[go_sem] theorem ty108sizeT : sizeT Try.prog 108 = some 1 := by kernel_rfl
@[go_sem] theorem ty108zeroT : zeroT Try.prog 108 = some (.tuple #[(.agg #[(.int .i64 0), (.int .i64 0), (.int .i64 0), (.int .i64 0)]), (.bool false)]) := by kernel_rfl
@[go_sem] theorem ty108conc : Program.concrete Try.prog 108 = true := by kernel_rfl
@[go_sem] theorem ty109tyK : tyK Try.prog 109 = .other := by kernel_rfl
@[go_sem] theorem ty109isFuncT : isFuncT Try.prog 109 = true := by kernel_rfl
@[go_sem] theorem ty109sizeT : sizeT Try.prog 109 = some 1 := by kernel_rfl
@[go_sem] theorem ty109zeroT : zeroT Try.prog 109 = some .nilFunc := by kernel_rfl
@[go_sem] theorem ty109conc : Program.concrete Try.prog 109 = true := by kernel_rfl
@[go_sem] theorem ty110tyK : tyK Try.prog 110 = .other := by kernel_rfl
@[go_sem] theorem ty110isFuncT : isFuncT Try.prog 110 = true := by kernel_rfl
@[go_sem] theorem ty110sizeT : sizeT Try.prog 110 = some 1 := by kernel_rfl
@[go_sem] theorem ty110zeroT : zeroT Try.prog 110 = some .nilFunc := by kernel_rfl
@[go_sem] theorem ty110conc : Program.concrete Try.prog 110 = true := by kernel_rfl
@[go_sem] theorem ty111tyK : tyK Try.prog 111 = .other := by kernel_rfl
@[go_sem] theorem ty111sizeT : sizeT Try.prog 111 = some 1 := by kernel_rfl
@[go_sem] theorem ty111zeroT : zeroT Try.prog 111 = some (.tuple #[(.slice none 0 0), (.int .i64 0), (.bool false)]) := by kernel_rfl
@[go_sem] theorem ty111conc : Program.concrete Try.prog 111 = true := by kernel_rfl
@[go_sem] theorem ty112tyK : tyK Try.prog 112 = .other := by kernel_rfl
@[go_sem] theorem ty112isFuncT : isFuncT Try.prog 112 = true := by kernel_rfl
@[go_sem] theorem ty112sizeT : sizeT Try.prog 112 = some 1 := by kernel_rfl
@[go_sem] theorem ty112zeroT : zeroT Try.prog 112 = some .nilFunc := by kernel_rfl
@[go_sem] theorem ty112conc : Program.concrete Try.prog 112 = true := by kernel_rfl
@[go_sem] theorem ty113tyK : tyK Try.prog 113 = .other := by kernel_rfl
@[go_sem] theorem ty113isFuncT : isFuncT Try.prog 113 = true := by kernel_rfl
@[go_sem] theorem ty113sizeT : sizeT Try.prog 113 = some 1 := by kernel_rfl
@[go_sem] theorem ty113zeroT : zeroT Try.prog 113 = some .nilFunc := by kernel_rfl
@[go_sem] theorem ty113conc : Program.concrete Try.prog 113 = true := by kernel_rfl
@[go_sem] theorem ty114tyK : tyK Try.prog 114 = .map := by kernel_rfl
@[go_sem] theorem ty114isMapT : isMapT Try.prog 114 = true := by kernel_rfl
@[go_sem] theorem ty114sizeT : sizeT Try.prog 114 = some 1 := by kernel_rfl
@[go_sem] theorem ty114zeroT : zeroT Try.prog 114 = some (.map none) := by kernel_rfl
@[go_sem] theorem ty114conc : Program.concrete Try.prog 114 = true := by kernel_rfl
@[go_sem] theorem ty115tyK : tyK Try.prog 115 = .other := by kernel_rfl
@[go_sem] theorem ty115isFuncT : isFuncT Try.prog 115 = true := by kernel_rfl
@[go_sem] theorem ty115sizeT : sizeT Try.prog 115 = some 1 := by kernel_rfl
@[go_sem] theorem ty115zeroT : zeroT Try.prog 115 = some .nilFunc := by kernel_rfl
@[go_sem] theorem ty115conc : Program.concrete Try.prog 115 = true := by kernel_rfl
@[go_sem] theorem ty116tyK : tyK Try.prog 116 = .other := by kernel_rfl
@[go_sem] theorem ty116isFuncT : isFuncT Try.prog 116 = true := by kernel_rfl
@[go_sem] theorem ty116sizeT : sizeT Try.prog 116 = some 1 := by kernel_rfl
@[go_sem] theorem ty116zeroT : zeroT Try.prog 116 = some .nilFunc := by kernel_rfl
@[go_sem] theorem ty116conc : Program.concrete Try.prog 116 = true := by kernel_rfl
@[go_sem] theorem ty117tyK : tyK Try.prog 117 = .other := by kernel_rfl
@[go_sem] theorem ty117isFuncT : isFuncT Try.prog 117 = true := by kernel_rfl
@[go_sem] theorem ty117sizeT : sizeT Try.prog 117 = some 1 := by kernel_rfl
@[go_sem] theorem ty117zeroT : zeroT Try.prog 117 = some .nilFunc := by kernel_rfl
@[go_sem] theorem ty117conc : Program.concrete Try.prog 117 = true := by kernel_rfl
@[go_sem] theorem ty118tyK : tyK Try.prog 118 = .int .u64 := by kernel_rfl
@[go_sem] theorem ty118sizeT : sizeT Try.prog 118 = some 1 := by kernel_rfl
@[go_sem] theorem ty118zeroT : zeroT Try.prog 118 = some (.int .u64 0) := by kernel_rfl
@[go_sem] theorem ty118conc : Program.concrete Try.prog 118 = true := by kernel_rfl
@[go_sem] theorem ty119tyK : tyK Try.prog 119 = .other := by kernel_rfl
@[go_sem] theorem ty119isFuncT : isFuncT Try.prog 119 = true := by kernel_rfl
@[go_sem] theorem ty119sizeT : sizeT Try.prog 119 = some 1 := by kernel_rfl
@[go_sem] theorem ty119zeroT : zeroT Try.prog 119 = some .nilFunc := by kernel_rfl
@[go_sem] theorem ty119conc : Program.concrete Try.prog 119 = true := by kernel_rfl
@[go_sem] theorem ty120tyK : tyK Try.prog 120 = .agg 3 := by kernel_rfl
@[go_sem] theorem ty120sizeT : sizeT Try.prog 120 = some 3 := by kernel_rfl
@[go_sem] theorem ty120zeroT : zeroT Try.prog 120 = some (.agg #[(.slice none 0 0), (.int .i64 0), (.bool false)]) := by kernel_rfl
@[go_sem] theorem ty120conc : Program.concrete Try.prog 120 = true := by kernel_rfl
@[go_sem] theorem ty120plc : plcT Try.prog 120 = some [(0, 1), (1, 1), (2, 1)] := by kernel_rfl
@[go_sem] theorem ty120fld0 : fldI Try.prog 120 0 = some (0, 1, false) := by kernel_rfl
@[go_sem] theorem ty120fld1 : fldI Try.prog 120 1 = some (1, 1, false) := by kernel_rfl
@[go_sem] theorem ty120fld2 : fldI Try.prog 120 2 = some (2, 1, false) := by kernel_rfl
@[go_sem] theorem ty121tyK : tyK Try.prog 121 = .agg 3 := by kernel_rfl
@[go_sem] theorem ty121sizeT : sizeT Try.prog 121 = some 3 := by kernel_rfl
@[go_sem] theorem ty121zeroT : zeroT Try.prog 121 = some (.agg #[(.slice none 0 0), (.int .i64 0), (.bool false)]) := by kernel_rfl
@[go_sem] theorem ty121conc : Program.concrete Try.prog 121 = true := by kernel_rfl
@[go_sem] theorem ty121plc : plcT Try.prog 121 = some [(0, 1), (1, 1), (2, 1)] := by kernel_rfl
@[go_sem] theorem ty121fld0 : fldI Try.prog 121 0 = some (0, 1, false) := by kernel_rfl
@[go_sem] theorem ty121fld1 : fldI Try.prog 121 1 = some (1, 1, false) := by kernel_rfl
@[go_sem] theorem ty121fld2 : fldI Try.prog 121 2 = some (2, 1, false) := by kernel_rfl
@[go_sem] theorem ty122tyK : tyK Try.prog 122 = .other := by kernel_rfl
@[go_sem] theorem ty122isFuncT : isFuncT Try.prog 122 = true := by kernel_rfl
@[go_sem] theorem ty122sizeT : sizeT Try.prog 122 = some 1 := by kernel_rfl
@[go_sem] theorem ty122zeroT : zeroT Try.prog 122 = some .nilFunc := by kernel_rfl
@[go_sem] theorem ty122conc : Program.concrete Try.prog 122 = true := by kernel_rfl
@[go_sem] theorem ty123tyK : tyK Try.prog 123 = .other := by kernel_rfl
@[go_sem] theorem ty123isFuncT : isFuncT Try.prog 123 = true := by kernel_rfl
@[go_sem] theorem ty123sizeT : sizeT Try.prog 123 = some 1 := by kernel_rfl
@[go_sem] theorem ty123zeroT : zeroT Try.prog 123 = some .nilFunc := by kernel_rfl
@[go_sem] theorem ty123conc : Program.concrete Try.prog 123 = true := by kernel_rfl
@[go_sem] theorem ty124tyK : tyK Try.prog 124 = .int .i64 := by kernel_rfl
@[go_sem] theorem ty124sizeT : sizeT Try.prog 124 = some 1 := by kernel_rfl
@[go_sem] theorem ty124zeroT : zeroT Try.prog 124 = some (.int .i64 0) := by kernel_rfl
@[go_sem] theorem ty124conc : Program.concrete Try.prog 124 = true := by kernel_rfl
@[go_sem] theorem ty125tyK : tyK Try.prog 125 = .other := by kernel_rfl
@[go_sem] theorem ty125sizeT : sizeT Try.prog 125 = some 1 := by kernel_rfl
@[go_sem] theorem ty125zeroT : zeroT Try.prog 125 = some (.tuple #[(.int .i64 0), (.int .i64 0)]) := by kernel_rfl
@[go_sem] theorem ty125conc : Program.concrete Try.prog 125 = true := by kernel_rfl
@[go_sem] theorem ty126tyK : tyK Try.prog 126 = .other := by kernel_rfl
@[go_sem] theorem ty126isFuncT : isFuncT Try.prog 126 = true := by kernel_rfl
@[go_sem] theorem ty126sizeT : sizeT Try.prog 126 = some 1 := by kernel_rfl
@[go_sem] theorem ty126zeroT : zeroT Try.prog 126 = some .nilFunc := by kernel_rfl
@[go_sem] theorem ty126conc : Program.concrete Try.prog 126 = true := by kernel_rfl
@[go_sem] theorem ty127tyK : tyK Try.prog 127 = .other := by kernel_rfl
@[go_sem] theorem ty127isFuncT : isFuncT Try.prog 127 = true := by kernel_rfl
@[go_sem] theorem ty127sizeT : sizeT Try.prog 127 = some 1 := by kernel_rfl
@[go_sem] theorem ty127zeroT : zeroT Try.prog 127 = some .nilFunc := by kernel_rfl
@[go_sem] theorem ty127conc : Program.concrete Try.prog 127 = true := by kernel_rfl
@[go_sem] theorem ty128tyK : tyK Try.prog 128 = .other := by kernel_rfl
@[go_sem] theorem ty128isFuncT : isFuncT Try.prog 128 = true := by kernel_rfl
@[go_sem] theorem ty128sizeT : sizeT Try.prog 128 = some 1 := by kernel_rfl
@[go_sem] theorem ty128zeroT : zeroT Try.prog 128 = some .nilFunc := by kernel_rfl
@[go_sem] theorem ty128conc : Program.concrete Try.prog 128 = true := by kernel_rfl
@[go_sem] theorem ty129tyK : tyK Try.prog 129 = .other := by kernel_rfl
@[go_sem] theorem ty129sizeT : sizeT Try.prog 129 = some 1 := by kernel_rfl
@[go_sem] theorem ty129zeroT : zeroT Try.prog 129 = some (.tuple #[(.int .i64 0), (.bool false)]) := by kernel_rfl
@[go_sem] theorem ty129conc : Program.concrete Try.prog 129 = true := by kernel_rfl
@[go_sem] theorem ty130tyK : tyK Try.prog 130 = .other := by kernel_rfl
@[go_sem] theorem ty130isFuncT : isFuncT Try.prog 130 = true := by kernel_rfl
@[go_sem] theorem ty130sizeT : sizeT Try.prog 130 = some 1 := by kernel_rfl
@[go_sem] theorem ty130zeroT : zeroT Try.prog 130 = some .nilFunc := by kernel_rfl
@[go_sem] theorem ty130conc : Program.concrete Try.prog 130 = true := by kernel_rfl
@[go_sem] theorem ty131tyK : tyK Try.prog 131 = .other := by kernel_rfl
@[go_sem] theorem ty131isFuncT : isFuncT Try.prog 131 = true := by kernel_rfl
@[go_sem] theorem ty131sizeT : sizeT Try.prog 131 = some 1 := by kernel_rfl
@[go_sem] theorem ty131zeroT : zeroT Try.prog 131 = some .nilFunc := by kernel_rfl
@[go_sem] theorem ty131conc : Program.concrete Try.prog 131 = true := by kernel_rfl
@[go_sem] theorem ty132tyK : tyK Try.prog 132 = .other := by kernel_rfl
@[go_sem] theorem ty132isFuncT : isFuncT Try.prog 132 = true := by kernel_rfl
@[go_sem] theorem ty132sizeT : sizeT Try.prog 132 = some 1 := by kernel_rfl
@[go_sem] theorem ty132zeroT : zeroT Try.prog 132 = some .nilFunc := by kernel_rfl
@[go_sem] theorem ty132conc : Program.concrete Try.prog 132 = true := by kernel_rfl
@[go_sem] theorem ty133tyK : tyK Try.prog 133 = .other := by kernel_rfl
@[go_sem] theorem ty133isFuncT : isFuncT Try.prog 133 = true := by kernel_rfl
@[go_sem] theorem ty133sizeT : sizeT Try.prog 133 = some 1 := by kernel_rfl
@[go_sem] theorem ty133zeroT : zeroT Try.prog 133 = some .nilFunc := by kernel_rfl
@[go_sem] theorem ty133conc : Program.concrete Try.prog 133 = true := by kernel_rfl
@[go_sem] theorem ty134tyK : tyK Try.prog 134 = .slice false 107 := by kernel_rfl
@[go_sem] theorem ty134isSliceT : isSliceT Try.prog 134 = true := by kernel_rfl
@[go_sem] theorem ty134sliI : sliI Try.prog 134 = some 4 := by kernel_rfl
@[go_sem] theorem ty134mkI : mkI Try.prog 134 = some (107, 4, 32, (.agg #[(.int .i64 0), (.int .i64 0), (.int .i64 0), (.int .i64 0)])) := by kernel_rfl
@[go_sem] theorem ty134sizeT : sizeT Try.prog 134 = some 1 := by kernel_rfl
@[go_sem] theorem ty134zeroT : zeroT Try.prog 134 = some (.slice none 0 0) := by kernel_rfl
@[go_sem] theorem ty134conc : Program.concrete Try.prog 134 = true := by kernel_rfl
@[go_sem] theorem ty135tyK : tyK Try.prog 135 = .other := by kernel_rfl
@[go_sem] theorem ty135isFuncT : isFuncT Try.prog 135 = true := by kernel_rfl
@[go_sem] theorem ty135sizeT : sizeT Try.prog 135 = some 1 := by kernel_rfl
@[go_sem] theorem ty135zeroT : zeroT Try.prog 135 = some .nilFunc := by kernel_rfl
@[go_sem] theorem ty135conc : Program.concrete Try.prog 135 = true := by kernel_rfl
@[go_sem] theorem ty136tyK : tyK Try.prog 136 = .other := by kernel_rfl
@[go_sem] theorem ty136isFuncT : isFuncT Try.prog 136 = true := by kernel_rfl
@[go_sem] theorem ty136sizeT : sizeT Try.prog 136 = some 1 := by kernel_rfl
@[go_sem] theorem ty136zeroT : zeroT Try.prog 136 = some .nilFunc := by kernel_rfl
@[go_sem] theorem ty136conc : Program.concrete Try.prog 136 = true := by kernel_rfl
@[go_sem] theorem ty137tyK : tyK Try.prog 137 = .other := by kernel_rfl
@[go_sem] theorem ty137isFuncT : isFuncT Try.prog 137 = true := by kernel_rfl
@[go_sem] theorem ty137sizeT : sizeT Try.prog 137 = some 1 := by kernel_rfl
@[go_sem] theorem ty137zeroT : zeroT Try.prog 137 = some .nilFunc := by kernel_rfl
@[go_sem] theorem ty137conc : Program.concrete Try.prog 137 = true := by kernel_rfl
@[go_sem] theorem ty138tyK : tyK Try.prog 138 = .other := by kernel_rfl
@[go_sem] theorem ty138isFuncT : isFuncT Try.prog 138 = true := by kernel_rfl
@[go_sem] theorem ty138sizeT : sizeT Try.prog 138 = some 1 := by kernel_rfl
@[go_sem] theorem ty138zeroT : zeroT Try.prog 138 = some .nilFunc := by kernel_rfl
@[go_sem] theorem ty138conc : Program.concrete Try.prog 138 = true := by kernel_rfl
@[go_sem] theorem ty139tyK : tyK Try.prog 139 = .other := by kernel_rfl
@[go_sem] theorem ty139isFuncT : isFuncT Try.prog 139 = true := by kernel_rfl
@[go_sem] theorem ty139sizeT : sizeT Try.prog 139 = some 1 := by kernel_rfl
@[go_sem] theorem ty139zeroT : zeroT Try.prog 139 = some .nilFunc := by kernel_rfl
@[go_sem] theorem ty139conc : Program.concrete Try.prog 139 = true := by kernel_rfl
@[go_sem] theorem ty140tyK : tyK Try.prog 140 = .other := by kernel_rfl
@[go_sem] theorem ty140isFuncT : isFuncT Try.prog 140 = true := by kernel_rfl
@[go_sem] theorem ty140sizeT : sizeT Try.prog 140 = some 1 := by kernel_rfl
@[go_sem] theorem ty140zeroT : zeroT Try.prog 140 = some .nilFunc := by kernel_rfl
@[go_sem] theorem ty140conc : Program.concrete Try.prog 140 = true := by kernel_rfl
@[go_sem] theorem ty141tyK : tyK Try.prog 141 = .slice true 5 := by kernel_rfl
@[go_sem] theorem ty141isSliceT : isSliceT Try.prog 141 = true := by kernel_rfl
@[go_sem] theorem ty141sliI : sliI Try.prog 141 = some 1 := by kernel_rfl
@[go_sem] theorem ty141mkI : mkI Try.prog 141 = some (5, 1, 1, (.int .u8 0)) := by kernel_rfl
@[go_sem] theorem ty141sizeT : sizeT Try.prog 141 = some 1 := by kernel_rfl
@[go_sem] theorem ty141zeroT : zeroT Try.prog 141 = some (.slice none 0 0) := by kernel_rfl
@[go_sem] theorem ty141conc : Program.concrete Try.prog 141 = true := by kernel_rfl
@[go_sem] theorem ty142tyK : tyK Try.prog 142 = .other := by kernel_rfl
@[go_sem] theorem ty142isFuncT : isFuncT Try.prog 142 = true := by kernel_rfl
@[go_sem] theorem ty142sizeT : sizeT Try.prog 142 = some 1 := by kernel_rfl
@[go_sem] theorem ty142zeroT : zeroT Try.prog 142 = some .nilFunc := by kernel_rfl
@[go_sem] theorem ty142conc : Program.concrete Try.prog 142 = true := by kernel_rfl
@[go_sem] theorem ty143tyK : tyK Try.prog 143 = .int .u64 := by kernel_rfl
@[go_sem] theorem ty143sizeT : sizeT Try.prog 143 = some 1 := by kernel_rfl
@[go_sem] theorem ty143zeroT : zeroT Try.prog 143 = some (.int .u64 0) := by kernel_rfl
@[go_sem] theorem ty143conc : Program.concrete Try.prog 143 = true := by kernel_rfl
@[go_sem] theorem ty144tyK : tyK Try.prog 144 = .other := by kernel_rfl
@[go_sem] theorem ty144isFuncT : isFuncT Try.prog 144 = true := by kernel_rfl
@[go_sem] theorem ty144sizeT : sizeT Try.prog 144 = some 1 := by kernel_rfl
@[go_sem] theorem ty144zeroT : zeroT Try.prog 144 = some .nilFunc := by kernel_rfl
@[go_sem] theorem ty144conc : Program.concrete Try.prog 144 = true := by kernel_rfl
@[go_sem] theorem ty145tyK : tyK Try.prog 145 = .other := by kernel_rfl
@[go_sem] theorem ty145isFuncT : isFuncT Try.prog 145 = true := by kernel_rfl
@[go_sem] theorem ty145sizeT : sizeT Try.prog 145 = some 1 := by kernel_rfl
@[go_sem] theorem ty145zeroT : zeroT Try.prog 145 = some .nilFunc := by kernel_rfl
@[go_sem] theorem ty145conc : Program.concrete Try.prog 145 = true := by kernel_rfl
@[go_sem] theorem ty146tyK : tyK Try.prog 146 = .other := by kernel_rfl
@[go_sem] theorem ty146isFuncT : isFuncT Try.prog 146 = true := by kernel_rfl
@[go_sem] theorem ty146sizeT : sizeT Try.prog 146 = some 1 := by kernel_rfl
@[go_sem] theorem ty146zeroT : zeroT Try.prog 146 = some .nilFunc := by kernel_rfl
@[go_sem] theorem ty146conc : Program.concrete Try.prog 146 = true := by kernel_rfl
@[go_sem] theorem ty147tyK : tyK Try.prog 147 = .ptr := by kernel_rfl
@[go_sem] theorem ty147isPtrT : isPtrT Try.prog 147 = true := by kernel_rfl
@[go_sem] theorem ty147sizeT : sizeT Try.prog 147 = some 1 := by kernel_rfl
@[go_sem] theorem ty147zeroT : zeroT Try.prog 147 = some (.pointer none) := by kernel_rfl
@[go_sem] theorem ty147conc : Program.concrete Try.prog 147 = true := by kernel_rfl
@[go_sem] theorem ty148tyK : tyK Try.prog 148 = .other := by kernel_rfl
@[go_sem] theorem ty148isFuncT : isFuncT Try.prog 148 = true := by kernel_rfl
@[go_sem] theorem ty148sizeT : sizeT Try.prog 148 = some 1 := by kernel_rfl
@[go_sem] theorem ty148zeroT : zeroT Try.prog 148 = some .nilFunc := by kernel_rfl
@[go_sem] theorem ty148conc : Program.concrete Try.prog 148 = true := by kernel_rfl
@[go_sem] theorem ty149tyK : tyK Try.prog 149 = .other := by kernel_rfl
@[go_sem] theorem ty149isFuncT : isFuncT Try.prog 149 = true := by kernel_rfl
@[go_sem] theorem ty149sizeT : sizeT Try.prog 149 = some 1 := by kernel_rfl
@[go_sem] theorem ty149zeroT : zeroT Try.prog 149 = some .nilFunc := by kernel_rfl
@[go_sem] theorem ty149conc : Program.concrete Try.prog 149 = true := by kernel_rfl
@[go_sem] theorem ty150tyK : tyK Try.prog 150 = .other := by kernel_rfl
@[go_sem] theorem ty150isFuncT : isFuncT Try.prog 150 = true := by kernel_rfl
@[go_sem] theorem ty150sizeT : sizeT Try.prog 150 = some 1 := by kernel_rfl
@[go_sem] theorem ty150zeroT : zeroT Try.prog 150 = some .nilFunc := by kernel_rfl
@[go_sem] theorem ty150conc : Program.concrete Try.prog 150 = true := by kernel_rfl
@[go_sem] theorem ty151tyK : tyK Try.prog 151 = .other := by kernel_rfl
@[go_sem] theorem ty151isFuncT : isFuncT Try.prog 151 = true := by kernel_rfl
@[go_sem] theorem ty151sizeT : sizeT Try.prog 151 = some 1 := by kernel_rfl
@[go_sem] theorem ty151zeroT : zeroT Try.prog 151 = some .nilFunc := by kernel_rfl
@[go_sem] theorem ty151conc : Program.concrete Try.prog 151 = true := by kernel_rfl
@[go_sem] theorem ty152tyK : tyK Try.prog 152 = .other := by kernel_rfl
@[go_sem] theorem ty152isFuncT : isFuncT Try.prog 152 = true := by kernel_rfl
@[go_sem] theorem ty152sizeT : sizeT Try.prog 152 = some 1 := by kernel_rfl
@[go_sem] theorem ty152zeroT : zeroT Try.prog 152 = some .nilFunc := by kernel_rfl
@[go_sem] theorem ty152conc : Program.concrete Try.prog 152 = true := by kernel_rfl
@[go_sem] theorem ty153tyK : tyK Try.prog 153 = .other := by kernel_rfl
@[go_sem] theorem ty153isFuncT : isFuncT Try.prog 153 = true := by kernel_rfl
@[go_sem] theorem ty153sizeT : sizeT Try.prog 153 = some 1 := by kernel_rfl
@[go_sem] theorem ty153zeroT : zeroT Try.prog 153 = some .nilFunc := by kernel_rfl
@[go_sem] theorem ty153conc : Program.concrete Try.prog 153 = true := by kernel_rfl
@[go_sem] theorem ty154tyK : tyK Try.prog 154 = .other := by kernel_rfl
@[go_sem] theorem ty154isFuncT : isFuncT Try.prog 154 = true := by kernel_rfl
@[go_sem] theorem ty154sizeT : sizeT Try.prog 154 = some 1 := by kernel_rfl
@[go_sem] theorem ty154zeroT : zeroT Try.prog 154 = some .nilFunc := by kernel_rfl
@[go_sem] theorem ty154conc : Program.concrete Try.prog 154 = true := by kernel_rfl
@[go_sem] theorem ty155tyK : tyK Try.prog 155 = .ptr := by kernel_rfl
@[go_sem] theorem ty155isPtrT : isPtrT Try.prog 155 = true := by kernel_rfl
@[go_sem] theorem ty155sizeT : sizeT Try.prog 155 = some 1 := by kernel_rfl
@[go_sem] theorem ty155zeroT : zeroT Try.prog 155 = some (.pointer none) := by kernel_rfl
@[go_sem] theorem ty155conc : Program.concrete Try.prog 155 = true := by kernel_rfl
@[go_sem] theorem ty156tyK : tyK Try.prog 156 = .other := by kernel_rfl
@[go_sem] theorem ty156sizeT : sizeT Try.prog 156 = some 1 := by kernel_rfl
@[go_sem] theorem ty156zeroT : zeroT Try.prog 156 = some (.tuple #[(.int .i64 0), (.int .i64 0)]) := by kernel_rfl
@[go_sem] theorem ty156conc : Program.concrete Try.prog 156 = true := by kernel_rfl
@[go_sem] theorem ty157tyK : tyK Try.prog 157 = .other := by kernel_rfl
@[go_sem] theorem ty157isFuncT : isFuncT Try.prog 157 = true := by kernel_rfl
@[go_sem] theorem ty157sizeT : sizeT Try.prog 157 = some 1 := by kernel_rfl
@[go_sem] theorem ty157zeroT : zeroT Try.prog 157 = some .nilFunc := by kernel_rfl
@[go_sem] theorem ty157conc : Program.concrete Try.prog 157 = true := by kernel_rfl
@[go_sem] theorem ty158tyK : tyK Try.prog 158 = .other := by kernel_rfl
@[go_sem] theorem ty158isFuncT : isFuncT Try.prog 158 = true := by kernel_rfl
@[go_sem] theorem ty158sizeT : sizeT Try.prog 158 = some 1 := by kernel_rfl
@[go_sem] theorem ty158zeroT : zeroT Try.prog 158 = some .nilFunc := by kernel_rfl
@[go_sem] theorem ty158conc : Program.concrete Try.prog 158 = true := by kernel_rfl
@[go_sem] theorem ty159tyK : tyK Try.prog 159 = .other := by kernel_rfl
@[go_sem] theorem ty159isFuncT : isFuncT Try.prog 159 = true := by kernel_rfl
@[go_sem] theorem ty159sizeT : sizeT Try.prog 159 = some 1 := by kernel_rfl
@[go_sem] theorem ty159zeroT : zeroT Try.prog 159 = some .nilFunc := by kernel_rfl
@[go_sem] theorem ty159conc : Program.concrete Try.prog 159 = true := by kernel_rfl
@[go_sem] theorem ty160tyK : tyK Try.prog 160 = .other := by kernel_rfl
@[go_sem] theorem ty160isFuncT : isFuncT Try.prog 160 = true := by kernel_rfl
@[go_sem] theorem ty160sizeT : sizeT Try.prog 160 = some 1 := by kernel_rfl
@[go_sem] theorem ty160zeroT : zeroT Try.prog 160 = some .nilFunc := by kernel_rfl
@[go_sem] theorem ty160conc : Program.concrete Try.prog 160 = true := by kernel_rfl
@[go_sem] theorem ty161tyK : tyK Try.prog 161 = .other := by kernel_rfl
@[go_sem] theorem ty161isFuncT : isFuncT Try.prog 161 = true := by kernel_rfl
@[go_sem] theorem ty161sizeT : sizeT Try.prog 161 = some 1 := by kernel_rfl
@[go_sem] theorem ty161zeroT : zeroT Try.prog 161 = some .nilFunc := by kernel_rfl
@[go_sem] theorem ty161conc : Program.concrete Try.prog 161 = true := by kernel_rfl
@[go_sem] theorem ty162tyK : tyK Try.prog 162 = .agg 4 := by kernel_rfl
@[go_sem] theorem ty162sizeT : sizeT Try.prog 162 = some 4 := by kernel_rfl
@[go_sem] theorem ty162zeroT : zeroT Try.prog 162 = some (.agg #[(.pointer none), (.pointer none), (.pointer none), (.string (ofL []))]) := by kernel_rfl
@[go_sem] theorem ty162conc : Program.concrete Try.prog 162 = true := by kernel_rfl
@[go_sem] theorem ty162plc : plcT Try.prog 162 = some [(0, 1), (1, 1), (2, 1), (3, 1)] := by kernel_rfl
@[go_sem] theorem ty162fld0 : fldI Try.prog 162 0 = some (0, 1, false) := by kernel_rfl
@[go_sem] theorem ty162fld1 : fldI Try.prog 162 1 = some (1, 1, false) := by kernel_rfl
@[go_sem] theorem ty162fld2 : fldI Try.prog 162 2 = some (2, 1, false) := by kernel_rfl
@[go_sem] theorem ty162fld3 : fldI Try.prog 162 3 = some (3, 1, false) := by kernel_rfl
@[go_sem] theorem ty163tyK : tyK Try.prog 163 = .agg 4 := by kernel_rfl
@[go_sem] theorem ty163sizeT : sizeT Try.prog 163 = some 4 := by kernel_rfl
@[go_sem] theorem ty163zeroT : zeroT Try.prog 163 = some (.agg #[(.pointer none), (.pointer none), (.pointer none), (.string (ofL []))]) := by kernel_rfl
@[go_sem] theorem ty163conc : Program.concrete Try.prog 163 = true := by kernel_rfl
@[go_sem] theorem ty163plc : plcT Try.prog 163 = some [(0, 1), (1, 1), (2, 1), (3, 1)] := by kernel_rfl
@[go_sem] theorem ty163fld0 : fldI Try.prog 163 0 = some (0, 1, false) := by kernel_rfl
@[go_sem] theorem ty163fld1 : fldI Try.prog 163 1 = some (1, 1, false) := by kernel_rfl
@[go_sem] theorem ty163fld2 : fldI Try.prog 163 2 = some (2, 1, false) := by kernel_rfl
@[go_sem] theorem ty163fld3 : fldI Try.prog 163 3 = some (3, 1, false) := by kernel_rfl
@[go_sem] theorem ty164tyK : tyK Try.prog 164 = .agg 0 := by kernel_rfl
@[go_sem] theorem ty164arrI : arrI Try.prog 164 = some (0, 1, false) := by kernel_rfl
@[go_sem] theorem ty164sizeT : sizeT Try.prog 164 = some 0 := by kernel_rfl
@[go_sem] theorem ty164zeroT : zeroT Try.prog 164 = some (.agg #[]) := by kernel_rfl
@[go_sem] theorem ty164conc : Program.concrete Try.prog 164 = true := by kernel_rfl
@[go_sem] theorem ty165tyK : tyK Try.prog 165 = .agg 0 := by kernel_rfl
@[go_sem] theorem ty165sizeT : sizeT Try.prog 165 = some 0 := by kernel_rfl
@[go_sem] theorem ty165zeroT : zeroT Try.prog 165 = some (.agg #[]) := by kernel_rfl
@[go_sem] theorem ty165conc : Program.concrete Try.prog 165 = true := by kernel_rfl
@[go_sem] theorem ty165plc : plcT Try.prog 165 = some [(0, 0)] := by kernel_rfl
@[go_sem] theorem ty165fld0 : fldI Try.prog 165 0 = some (0, 0, true) := by kernel_rfl
@[go_sem] theorem ty166tyK : tyK Try.prog 166 = .agg 0 := by kernel_rfl
@[go_sem] theorem ty166sizeT : sizeT Try.prog 166 = some 0 := by kernel_rfl
@[go_sem] theorem ty166zeroT : zeroT Try.prog 166 = some (.agg #[]) := by kernel_rfl
@[go_sem] theorem ty166conc : Program.concrete Try.prog 166 = true := by kernel_rfl
@[go_sem] theorem ty166plc : plcT Try.prog 166 = some [(0, 0)] := by kernel_rfl
@[go_sem] theorem ty166fld0 : fldI Try.prog 166 0 = some (0, 0, true) := by kernel_rfl
@[go_sem] theorem ty167tyK : tyK Try.prog 167 = .other := by kernel_rfl
@[go_sem] theorem ty167isFuncT : isFuncT Try.prog 167 = true := by kernel_rfl
@[go_sem] theorem ty167sizeT : sizeT Try.prog 167 = some 1 := by kernel_rfl
@[go_sem] theorem ty167zeroT : zeroT Try.prog 167 = some .nilFunc := by kernel_rfl
@[go_sem] theorem ty167conc : Program.concrete Try.prog 167 = true := by kernel_rfl
@[go_sem] theorem ty168tyK : tyK Try.prog 168 = .int .u8 := by kernel_rfl
@[go_sem] theorem ty168sizeT : sizeT Try.prog 168 = some 1 := by kernel_rfl
@[go_sem] theorem ty168zeroT : zeroT Try.prog 168 = some (.int .u8 0) := by kernel_rfl
@[go_sem] theorem ty168conc : Program.concrete Try.prog 168 = true := by kernel_rfl
@[go_sem] theorem ty169tyK : tyK Try.prog 169 = .int .u8 := by kernel_rfl
@[go_sem] theorem ty169sizeT : sizeT Try.prog 169 = some 1 := by kernel_rfl
@[go_sem] theorem ty169zeroT : zeroT Try.prog 169 = some (.int .u8 0) := by kernel_rfl
@[go_sem] theorem ty169conc : Program.concrete Try.prog 169 = true := by kernel_rfl
@[go_sem] theorem ty170tyK : tyK Try.prog 170 = .other := by kernel_rfl
@[go_sem] theorem ty170isFuncT : isFuncT Try.prog 170 = true := by kernel_rfl
@[go_sem] theorem ty170sizeT : sizeT Try.prog 170 = some 1 := by kernel_rfl
@[go_sem] theorem ty170zeroT : zeroT Try.prog 170 = some .nilFunc := by kernel_rfl
@[go_sem] theorem ty170conc : Program.concrete Try.prog 170 = true := by kernel_rfl
@[go_sem] theorem ty171tyK : tyK Try.prog 171 = .ptr := by kernel_rfl
@[go_sem] theorem ty171isPtrT : isPtrT Try.prog 171 = true := by kernel_rfl
@[go_sem] theorem ty171sizeT : sizeT Try.prog 171 = some 1 := by kernel_rfl
@[go_sem] theorem ty171zeroT : zeroT Try.prog 171 = some (.pointer none) := by kernel_rfl
@[go_sem] theorem ty171conc : Program.concrete Try.prog 171 = true := by kernel_rfl
@[go_sem] theorem ty172tyK : tyK Try.prog 172 = .int .i32 := by kernel_rfl
@[go_sem] theorem ty172sizeT : sizeT Try.prog 172 = some 1 := by kernel_rfl
@[go_sem] theorem ty172zeroT : zeroT Try.prog 172 = some (.int .i32 0) := by kernel_rfl
@[go_sem] theorem ty172conc : Program.concrete Try.prog 172 = true := by kernel_rfl
@[go_sem] theorem ty173tyK : tyK Try.prog 173 = .int .i32 := by kernel_rfl
@[go_sem] theorem ty173sizeT : sizeT Try.prog 173 = some 1 := by kernel_rfl
@[go_sem] theorem ty173zeroT : zeroT Try.prog 173 = some (.int .i32 0) := by kernel_rfl
@[go_sem] theorem ty173conc : Program.concrete Try.prog 173 = true := by kernel_rfl
@[go_sem] theorem ty174tyK : tyK Try.prog 174 = .agg 11 := by kernel_rfl
@[go_sem] theorem ty174sizeT : sizeT Try.prog 174 = some 11 := by kernel_rfl
@[go_sem] theorem ty174zeroT : zeroT Try.prog 174 = some (.agg #[(.int .u64 0), (.int .u64 0), (.int .u32 0), (.int .u8 0), (.int .u8 0), (.int .u8 0), (.int .u8 0), .nilFunc, (.pointer none), (.int .i32 0), (.int .i32 0)]) := by kernel_rfl
@[go_sem] theorem ty174conc : Program.concrete Try.prog 174 = true := by kernel_rfl
@[go_sem] theorem ty174plc : plcT Try.prog 174 = some [(0, 1), (1, 1), (2, 1), (3, 1), (4, 1), (5, 1), (6, 1), (7, 1), (8, 1), (9, 1), (10, 1)] := by kernel_rfl
@[go_sem] theorem ty174fld0 : fldI Try.prog 174 0 = some (0, 1, false) := by kernel_rfl
@[go_sem] theorem ty174fld1 : fldI Try.prog 174 1 = some (1, 1, false) := by kernel_rfl
@[go_sem] theorem ty174fld2 : fldI Try.prog 174 2 = some (2, 1, false) := by kernel_rfl
@[go_sem] theorem ty174fld3 : fldI Try.prog 174 3 = some (3, 1, false) := by kernel_rfl
@[go_sem] theorem ty174fld4 : fldI Try.prog 174 4 = some (4, 1, false) := by kernel_rfl
@[go_sem] theorem ty174fld5 : fldI Try.prog 174 5 = some (5, 1, false) := by kernel_rfl
@[go_sem] theorem ty174fld6 : fldI Try.prog 174 6 = some (6, 1, false) := by kernel_rfl
@[go_sem] theorem ty174fld7 : fldI Try.prog 174 7 = some (7, 1, false) := by kernel_rfl
@[go_sem] theorem ty174fld8 : fldI Try.prog 174 8 = some (8, 1, false) := by kernel_rfl
@[go_sem] theorem ty174fld9 : fldI Try.prog 174 9 = some (9, 1, false) := by kernel_rfl
@[go_sem] theorem ty174fld10 : fldI Try.prog 174 10 = some (10, 1, false) := by kernel_rfl
@[go_sem] theorem ty175tyK : tyK Try.prog 175 = .agg 11 := by kernel_rfl
@[go_sem] theorem ty175sizeT : sizeT Try.prog 175 = some 11 := by kernel_rfl
@[go_sem] theorem ty175zeroT : zeroT Try.prog 175 = some (.agg #[(.int .u64 0), (.int .u64 0), (.int .u32 0), (.int .u8 0), (.int .u8 0), (.int .u8 0), (.int .u8 0), .nilFunc, (.pointer none), (.int .i32 0), (.int .i32 0)]) := by kernel_rfl
@[go_sem] theorem ty175conc : Program.concrete Try.prog 175 = true := by kernel_rfl
@[go_sem] theorem ty175plc : plcT Try.prog 175 = some [(0, 1), (1, 1), (2, 1), (3, 1), (4, 1), (5, 1), (6, 1), (7, 1), (8, 1), (9, 1), (10, 1)] := by kernel_rfl
@[go_sem] theorem ty175fld0 : fldI Try.prog 175 0 = some (0, 1, false) := by kernel_rfl
@[go_sem] theorem ty175fld1 : fldI Try.prog 175 1 = some (1, 1, false) := by kernel_rfl
@[go_sem] theorem ty175fld2 : fldI Try.prog 175 2 = some (2, 1, false) := by kernel_rfl
@[go_sem] theorem ty175fld3 : fldI Try.prog 175 3 = some (3, 1, false) := by kernel_rfl
@[go_sem] theorem ty175fld4 : fldI Try.prog 175 4 = some (4, 1, false) := by kernel_rfl
@[go_sem] theorem ty175fld5 : fldI Try.prog 175 5 = some (5, 1, false) := by kernel_rfl
@[go_sem] theorem ty175fld6 : fldI Try.prog 175 6 = some (6, 1, false) := by kernel_rfl
@[go_sem] theorem ty175fld7 : fldI Try.prog 175 7 = some (7, 1, false) := by kernel_rfl
@[go_sem] theorem ty175fld8 : fldI Try.prog 175 8 = some (8, 1, false) := by kernel_rfl
@[go_sem] theorem ty175fld9 : fldI Try.prog 175 9 = some (9, 1, false) := by kernel_rfl
@[go_sem] theorem ty175fld10 : fldI Try.prog 175 10 = some (10, 1, false) := by kernel_rfl
@[go_sem] theorem ty176tyK : tyK Try.prog 176 = .other := by kernel_rfl
@[go_sem] theorem ty176sizeT : sizeT Try.prog 176 = some 1 := by kernel_rfl
@[go_sem] theorem ty176zeroT : zeroT Try.prog 176 = some (.pointer none) := by kernel_rfl
@[go_sem] theorem ty176conc : Program.concrete Try.prog 176 = true := by kernel_rfl
/- Function 3: annalistlaw14.CutSegments -/
noncomputable def c3code : Code := match Try.f3.body with | some c => c | none => .skip
noncomputable def c3S0 (_ : Unit) : Cmd := .ret
noncomputable def c3S1 (_ : Unit) : Cmd := (.cond (.tmp 11)
  (.seq (.ops [
  ⟨some 12, .call ⟨.value (.func 14), #[], #[]⟩, 4, none⟩,
  ⟨some 2, .assign (.tmp 12), 4, none⟩] [2]) (sg c3S0))
  (.skip [1]))
noncomputable def c3S2 (_ : Unit) : Cmd := .ret
noncomputable def c3S3 (_ : Unit) : Cmd := (.seq (.draw (drawOps 0 c3code) [2]) (sg c3S2))
noncomputable def c3 : Cmd := (.seq (.ops [
 ⟨some 1, .box 24 (.tmp 0), 0, none⟩,
 ⟨some 2, .assign (.const (.bool false)), 4, none⟩] [1])
 (.seq (.seq (.ops [
 ⟨some 3, .fieldAddr 24 (.tmp 1) 2, 0, none⟩,
 ⟨some 4, .load 22 (.tmp 3), 22, none⟩,
 ⟨some 5, .call ⟨.builtin .len, #[(.tmp 4)], #[22]⟩, 3, none⟩,
 ⟨some 6, .binOp .gtr 3 (.tmp 5) (.const (.int .i64 80)) 3, 4, none⟩,
 ⟨some 7, .move (.tmp 6), 4, none⟩,
 ⟨some 8, .fieldAddr 24 (.tmp 1) 2, 0, (some (7, false))⟩,
 ⟨some 9, .load 22 (.tmp 8), 22, (some (7, false))⟩,
 ⟨some 10, .call ⟨.value (.func 13), #[(.tmp 9)], #[22]⟩, 4, (some (7, false))⟩,
 ⟨some 11, .pick (.tmp 7) (.const (.bool true)) (.tmp 10), 4, none⟩] [1, 11]) (sg c3S1)) (sg c3S3)))
noncomputable def c3D0 : List (Nat × Ins) := [
 (1, ⟨some 13, .load 24 (.tmp 1), 24, none⟩),
 (1, ⟨some 15, .load 24 (.tmp 1), 24, none⟩),
 (2, ⟨some 14, .call ⟨.value (.func 16), #[(.tmp 13)], #[24]⟩, 28, none⟩),
 (2, ⟨some 16, .call ⟨.value (.func 17), #[(.tmp 15)], #[24]⟩, 28, none⟩),
 (2, ⟨some 17, .call ⟨.value (.func 15), #[(.tmp 14), (.tmp 16)], #[28, 28]⟩, 4, none⟩),
 (0, ⟨some 18, .move (.tmp 17), 4, none⟩),
 (2, ⟨some 19, .call ⟨.value (.func 14), #[], #[]⟩, 4, (some (18, true))⟩),
 (0, ⟨some 20, .pick (.tmp 18) (.tmp 19) (.const (.bool false)), 4, none⟩),
 (0, ⟨some 2, .assign (.tmp 20), 4, none⟩)]
theorem c3draw0 {L : List Nat} {ρ : Env} {w : World} {Q : Post} (S : World → Prop) (hS : S w.drew) (h : DG Try.prog S c3D0 L ρ w.drew Q) : drawW Try.prog (drawOps 0 c3code) L ρ w Q :=
  drawW_held [0, 2] [(1, 0), (1, 2), (2, 1), (2, 3), (2, 4), (0, 5), (2, 6), (0, 7), (0, 8)] c3D0 (by kernel_rfl) (by kernel_rfl) (by kernel_rfl) S hS h
set_option maxRecDepth 100000 in
theorem ent3 (a0 : Value) (w : World) (K : Value → World → Prop) (h : W Try.prog c3 [(0, a0)] w (finQ Try.prog [.tmp 2] K)) : Ret Try.prog 3 [a0] w K :=
  Ret_of_W (code := c3code) Try.func3 (by kernel_rfl) (by kernel_rfl) (of_decide_eq_true (by kernel_rfl)) h
--SIMP 3 c3 c3S0 c3S1 c3S2 c3S3 TYS 3 22 24 FNS 13 14 15 16 17
@[go_sem] theorem go3 : goFunc Try.prog 3 = true := by kernel_rfl
/- Function 4: annalistlaw14.CutObjects -/
noncomputable def c4code : Code := match Try.f4.body with | some c => c | none => .skip
noncomputable def c4S0 (_ : Unit) : Cmd := .ret
noncomputable def c4S1 (_ : Unit) : Cmd := (.cond (.tmp 9)
  (.seq (.ops [
  ⟨some 10, .call ⟨.value (.func 14), #[], #[]⟩, 4, none⟩,
  ⟨some 2, .assign (.tmp 10), 4, none⟩] [2]) (sg c4S0))
  (.skip [0]))
noncomputable def c4S2 (_ : Unit) : Cmd := .ret
noncomputable def c4S3 (_ : Unit) : Cmd := (.seq (.ops [
 ⟨some 11, .move (.tmp 0), 22, none⟩,
 ⟨some 12, .call ⟨.value (.func 18), #[(.tmp 11)], #[22]⟩, 28, none⟩,
 ⟨some 13, .move (.tmp 0), 22, none⟩,
 ⟨some 14, .call ⟨.value (.func 19), #[(.tmp 13)], #[22]⟩, 28, none⟩,
 ⟨some 15, .call ⟨.value (.func 15), #[(.tmp 12), (.tmp 14)], #[28, 28]⟩, 4, none⟩,
 ⟨some 16, .move (.tmp 15), 4, none⟩,
 ⟨some 17, .call ⟨.value (.func 14), #[], #[]⟩, 4, (some (16, true))⟩,
 ⟨some 18, .pick (.tmp 16) (.tmp 17) (.const (.bool false)), 4, none⟩,
 ⟨some 2, .assign (.tmp 18), 4, none⟩] [2]) (sg c4S2))
noncomputable def c4 : Cmd := (.seq (.ops [
 ⟨some 2, .assign (.const (.bool false)), 4, none⟩] [0])
 (.seq (.seq (.ops [
 ⟨some 3, .move (.tmp 0), 22, none⟩,
 ⟨some 4, .call ⟨.builtin .len, #[(.tmp 3)], #[22]⟩, 3, none⟩,
 ⟨some 5, .binOp .gtr 3 (.tmp 4) (.const (.int .i64 80)) 3, 4, none⟩,
 ⟨some 6, .move (.tmp 5), 4, none⟩,
 ⟨some 7, .move (.tmp 0), 22, (some (6, false))⟩,
 ⟨some 8, .call ⟨.value (.func 13), #[(.tmp 7)], #[22]⟩, 4, (some (6, false))⟩,
 ⟨some 9, .pick (.tmp 6) (.const (.bool true)) (.tmp 8), 4, none⟩] [0, 9]) (sg c4S1)) (sg c4S3)))
set_option maxRecDepth 100000 in
theorem ent4 (a0 : Value) (w : World) (K : Value → World → Prop) (h : W Try.prog c4 [(0, a0)] w (finQ Try.prog [.tmp 2] K)) : Ret Try.prog 4 [a0] w K :=
  Ret_of_W (code := c4code) Try.func4 (by kernel_rfl) (by kernel_rfl) (of_decide_eq_true (by kernel_rfl)) h
--SIMP 4 c4 c4S0 c4S1 c4S2 c4S3 TYS 3 22 FNS 13 14 15 18 19
@[go_sem] theorem go4 : goFunc Try.prog 4 = true := by kernel_rfl
/- Function 5: annalistlaw14.CutWhole -/
noncomputable def c5code : Code := match Try.f5.body with | some c => c | none => .skip
noncomputable def c5S0 (_ : Unit) : Cmd := .ret
noncomputable def c5S1 (_ : Unit) : Cmd := (.cond (.tmp 19)
  (.seq (.ops [
  ⟨some 20, .call ⟨.value (.func 14), #[], #[]⟩, 4, none⟩,
  ⟨some 2, .assign (.tmp 20), 4, none⟩] [2]) (sg c5S0))
  (.skip [0]))
noncomputable def c5S2 (_ : Unit) : Cmd := (.cond (.tmp 59)
  (.seq (.ops [
  ⟨some 2, .assign (.const (.bool false)), 4, none⟩] [2])
  .ret)
  (.skip [0, 3, 4, 5, 6, 7, 8]))
noncomputable def c5S3 (_ : Unit) : Cmd := (.ops [
 ⟨some 60, .move (.tmp 6), 22, none⟩,
 ⟨some 61, .move (.tmp 7), 28, none⟩,
 ⟨some 62, .move (.tmp 8), 3, none⟩,
 ⟨some 63, .indexAddr 28 (.tmp 61) (.tmp 62), 0, none⟩,
 ⟨some 64, .fieldAddr 24 (.tmp 63) 2, 0, none⟩,
 ⟨some 65, .load 22 (.tmp 64), 22, none⟩,
 ⟨some 66, .call ⟨.builtin .append, #[(.tmp 60), (.tmp 65)], #[22, 22]⟩, 22, none⟩,
 ⟨some 6, .assign (.tmp 66), 22, none⟩] [0, 3, 4, 5, 6, 7, 8])
noncomputable def c5S4 (_ : Unit) : Cmd := (.ops [
 ⟨some 38, .move (.tmp 8), 3, none⟩,
 ⟨some 39, .binOp .add 3 (.tmp 38) (.const (.int .i64 1)) 3, 3, none⟩,
 ⟨some 8, .assign (.tmp 39), 3, none⟩] [0, 3, 4, 5, 6, 7, 8])
noncomputable def c5S5 (_ : Unit) : Cmd := (.seq (.block 3 (.seq (.seq (.draw (drawOps 0 c5code) [0, 3, 4, 5, 6, 7, 8, 59]) (sg c5S2)) (sg c5S3))) (sg c5S4))
noncomputable def c5L0 (_ : Unit) : Cmd := (.seq (.seq (.ops [
 ⟨some 34, .move (.tmp 8), 3, none⟩,
 ⟨some 35, .move (.tmp 7), 28, none⟩,
 ⟨some 36, .call ⟨.builtin .len, #[(.tmp 35)], #[28]⟩, 3, none⟩,
 ⟨some 37, .binOp .lss 3 (.tmp 34) (.tmp 36) 3, 4, none⟩] [0, 3, 4, 5, 6, 7, 8, 37])
 (.cond (.tmp 37)
  (.skip [0, 3, 4, 5, 6, 7, 8])
  (.exit 2 [0, 3, 4, 5, 6]))) (sg c5S5))
noncomputable def c5S6 (_ : Unit) : Cmd := (.cond (.tmp 92)
  (.seq (.ops [
  ⟨some 2, .assign (.const (.bool false)), 4, none⟩] [2])
  .ret)
  (.skip [0, 3, 4, 5, 6]))
noncomputable def c5S7 (_ : Unit) : Cmd := (.cond (.tmp 142)
  (.seq (.ops [
  ⟨some 2, .assign (.const (.bool false)), 4, none⟩] [2])
  .ret)
  (.skip [0, 3, 4, 5, 6, 9]))
noncomputable def c5S8 (_ : Unit) : Cmd := (.seq (.draw (drawOps 2 c5code) [0, 3, 4, 5, 6, 9, 142]) (sg c5S7))
noncomputable def c5S9 (_ : Unit) : Cmd := (.ops [
 ⟨some 101, .move (.tmp 9), 3, none⟩,
 ⟨some 102, .binOp .add 3 (.tmp 101) (.const (.int .i64 1)) 3, 3, none⟩,
 ⟨some 9, .assign (.tmp 102), 3, none⟩] [0, 3, 4, 5, 6, 9])
noncomputable def c5S10 (_ : Unit) : Cmd := (.seq (.block 5 (.seq (.ops [
 ⟨some 104, .move (.tmp 0), 22, none⟩,
 ⟨some 105, .move (.tmp 6), 22, none⟩,
 ⟨some 106, .move (.tmp 9), 3, none⟩,
 ⟨some 107, .indexAddr 22 (.tmp 105) (.tmp 106), 0, none⟩,
 ⟨some 108, .fieldAddr 35 (.tmp 107) 0, 0, none⟩,
 ⟨some 109, .load 3 (.tmp 108), 3, none⟩,
 ⟨some 110, .call ⟨.value (.func 22), #[(.tmp 104), (.tmp 109)], #[22, 3]⟩, 36, none⟩,
 ⟨some 103, .move (.tmp 110), 36, none⟩,
 ⟨some 111, .extract (.tmp 103) 0, 35, none⟩,
 ⟨some 112, .extract (.tmp 103) 1, 4, none⟩,
 ⟨some 10, .alloc 35, 0, none⟩,
 ⟨none, .store 35 (.tmp 10) (.tmp 111), 0, none⟩,
 ⟨some 11, .assign (.tmp 112), 4, none⟩] [0, 3, 4, 5, 6, 9, 10, 11]) (sg c5S8))) (sg c5S9))
noncomputable def c5L1 (_ : Unit) : Cmd := (.seq (.seq (.ops [
 ⟨some 97, .move (.tmp 9), 3, none⟩,
 ⟨some 98, .move (.tmp 6), 22, none⟩,
 ⟨some 99, .call ⟨.builtin .len, #[(.tmp 98)], #[22]⟩, 3, none⟩,
 ⟨some 100, .binOp .lss 3 (.tmp 97) (.tmp 99) 3, 4, none⟩] [0, 3, 4, 5, 6, 9, 100])
 (.cond (.tmp 100)
  (.skip [0, 3, 4, 5, 6, 9])
  (.exit 4 [0, 3, 4, 5]))) (sg c5S10))
noncomputable def c5S11 (_ : Unit) : Cmd := (.seq (.ops [
 ⟨some 93, .move (.tmp 3), 3, none⟩,
 ⟨some 94, .move (.tmp 6), 22, none⟩,
 ⟨some 95, .call ⟨.builtin .len, #[(.tmp 94)], #[22]⟩, 3, none⟩,
 ⟨some 96, .binOp .add 3 (.tmp 93) (.tmp 95) 3, 3, none⟩,
 ⟨some 3, .assign (.tmp 96), 3, none⟩] [0, 3, 4, 5, 6])
 (.seq (.ops [
 ⟨some 9, .assign (.const (.int .i64 0)), 3, none⟩] [0, 3, 4, 5, 6, 9])
 (.block 4 (.loop (sg c5L1)))))
noncomputable def c5S12 (_ : Unit) : Cmd := (.seq (.seq (.draw (drawOps 1 c5code) [0, 3, 4, 5, 6, 92]) (sg c5S6)) (sg c5S11))
noncomputable def c5S13 (_ : Unit) : Cmd := (.seq (.seq (.ops [
 ⟨some 8, .assign (.const (.int .i64 0)), 3, none⟩] [0, 3, 4, 5, 6, 7, 8])
 (.block 2 (.loop (sg c5L0)))) (sg c5S12))
noncomputable def c5S14 (_ : Unit) : Cmd := (.ops [
 ⟨some 27, .move (.tmp 5), 3, none⟩,
 ⟨some 28, .binOp .add 3 (.tmp 27) (.const (.int .i64 1)) 3, 3, none⟩,
 ⟨some 5, .assign (.tmp 28), 3, none⟩] [0, 3, 4, 5])
noncomputable def c5S15 (_ : Unit) : Cmd := (.seq (.block 1 (.seq (.ops [
 ⟨some 6, .assign (.const (.slice none 0 0)), 22, none⟩] [0, 3, 4, 5, 6])
 (.seq (.ops [
 ⟨some 29, .move (.tmp 4), 28, none⟩,
 ⟨some 30, .move (.tmp 5), 3, none⟩,
 ⟨some 31, .indexAddr 28 (.tmp 29) (.tmp 30), 0, none⟩,
 ⟨some 32, .load 24 (.tmp 31), 24, none⟩,
 ⟨some 33, .call ⟨.value (.func 16), #[(.tmp 32)], #[24]⟩, 28, none⟩,
 ⟨some 7, .assign (.tmp 33), 28, none⟩] [0, 3, 4, 5, 6, 7]) (sg c5S13)))) (sg c5S14))
noncomputable def c5L2 (_ : Unit) : Cmd := (.seq (.seq (.ops [
 ⟨some 23, .move (.tmp 5), 3, none⟩,
 ⟨some 24, .move (.tmp 4), 28, none⟩,
 ⟨some 25, .call ⟨.builtin .len, #[(.tmp 24)], #[28]⟩, 3, none⟩,
 ⟨some 26, .binOp .lss 3 (.tmp 23) (.tmp 25) 3, 4, none⟩] [0, 3, 4, 5, 26])
 (.cond (.tmp 26)
  (.skip [0, 3, 4, 5])
  (.exit 0 [0, 3]))) (sg c5S15))
noncomputable def c5S16 (_ : Unit) : Cmd := .ret
noncomputable def c5S17 (_ : Unit) : Cmd := (.seq (.ops [
 ⟨some 143, .move (.tmp 3), 3, none⟩,
 ⟨some 144, .move (.tmp 0), 22, none⟩,
 ⟨some 145, .call ⟨.builtin .len, #[(.tmp 144)], #[22]⟩, 3, none⟩,
 ⟨some 146, .binOp .eql 3 (.tmp 143) (.tmp 145) 3, 4, none⟩,
 ⟨some 147, .move (.tmp 146), 4, none⟩,
 ⟨some 148, .call ⟨.value (.func 14), #[], #[]⟩, 4, (some (147, true))⟩,
 ⟨some 149, .pick (.tmp 147) (.tmp 148) (.const (.bool false)), 4, none⟩,
 ⟨some 2, .assign (.tmp 149), 4, none⟩] [2]) (sg c5S16))
noncomputable def c5S18 (_ : Unit) : Cmd := (.seq (.seq (.ops [
 ⟨some 5, .assign (.const (.int .i64 0)), 3, none⟩] [0, 3, 4, 5])
 (.block 0 (.loop (sg c5L2)))) (sg c5S17))
noncomputable def c5S19 (_ : Unit) : Cmd := (.seq (.ops [
 ⟨some 3, .assign (.const (.int .i64 0)), 3, none⟩] [0, 3])
 (.seq (.ops [
 ⟨some 21, .move (.tmp 0), 22, none⟩,
 ⟨some 22, .call ⟨.value (.func 18), #[(.tmp 21)], #[22]⟩, 28, none⟩,
 ⟨some 4, .assign (.tmp 22), 28, none⟩] [0, 3, 4]) (sg c5S18)))
noncomputable def c5 : Cmd := (.seq (.ops [
 ⟨some 2, .assign (.const (.bool false)), 4, none⟩] [0])
 (.seq (.seq (.ops [
 ⟨some 12, .move (.tmp 0), 22, none⟩,
 ⟨some 13, .call ⟨.builtin .len, #[(.tmp 12)], #[22]⟩, 3, none⟩,
 ⟨some 14, .binOp .gtr 3 (.tmp 13) (.const (.int .i64 64)) 3, 4, none⟩,
 ⟨some 15, .move (.tmp 14), 4, none⟩,
 ⟨some 16, .move (.tmp 0), 22, (some (15, false))⟩,
 ⟨some 17, .call ⟨.value (.func 20), #[(.tmp 16)], #[22]⟩, 3, (some (15, false))⟩,
 ⟨some 18, .binOp .neq 3 (.tmp 17) (.const (.int .i64 0)) 3, 4, (some (15, false))⟩,
 ⟨some 19, .pick (.tmp 15) (.const (.bool true)) (.tmp 18), 4, none⟩] [0, 19]) (sg c5S1)) (sg c5S19)))
noncomputable def c5D0 : List (Bool × Ins) := [
 (true, ⟨some 40, .move (.tmp 7), 28, none⟩),
 (true, ⟨some 41, .move (.tmp 8), 3, none⟩),
 (true, ⟨some 42, .indexAddr 28 (.tmp 40) (.tmp 41), 0, none⟩),
 (true, ⟨some 43, .fieldAddr 24 (.tmp 42) 0, 0, none⟩),
 (false, ⟨some 44, .load 3 (.tmp 43), 3, none⟩),
 (true, ⟨some 45, .move (.tmp 4), 28, none⟩),
 (true, ⟨some 46, .move (.tmp 5), 3, none⟩),
 (true, ⟨some 47, .indexAddr 28 (.tmp 45) (.tmp 46), 0, none⟩),
 (true, ⟨some 48, .fieldAddr 24 (.tmp 47) 0, 0, none⟩),
 (false, ⟨some 49, .load 3 (.tmp 48), 3, none⟩),
 (true, ⟨some 50, .binOp .neq 3 (.tmp 44) (.tmp 49) 3, 4, none⟩),
 (true, ⟨some 51, .move (.tmp 50), 4, none⟩),
 (true, ⟨some 52, .move (.tmp 7), 28, (some (51, false))⟩),
 (true, ⟨some 53, .move (.tmp 8), 3, (some (51, false))⟩),
 (true, ⟨some 54, .indexAddr 28 (.tmp 52) (.tmp 53), 0, (some (51, false))⟩),
 (true, ⟨some 55, .fieldAddr 24 (.tmp 54) 2, 0, (some (51, false))⟩),
 (false, ⟨some 56, .load 22 (.tmp 55), 22, (some (51, false))⟩),
 (true, ⟨some 57, .call ⟨.builtin .len, #[(.tmp 56)], #[22]⟩, 3, (some (51, false))⟩),
 (true, ⟨some 58, .binOp .eql 3 (.tmp 57) (.const (.int .i64 0)) 3, 4, (some (51, false))⟩),
 (true, ⟨some 59, .pick (.tmp 51) (.const (.bool true)) (.tmp 58), 4, none⟩)]
theorem c5draw0 {L : List Nat} {ρ : Env} {w : World} {Q : Post} (h : DL Try.prog c5D0 L ρ w.drew Q) : drawW Try.prog (drawOps 0 c5code) L ρ w Q :=
  drawW_still [true, true, true, true, false, true, true, true, true, false, true, true, true, true, true, true, false, true, true, true] c5D0 (by kernel_rfl) (by kernel_rfl) (by kernel_rfl) h
noncomputable def c5D1 : List (Nat × Ins) := [
 (0, ⟨some 67, .move (.tmp 6), 22, none⟩),
 (0, ⟨some 68, .move (.tmp 4), 28, none⟩),
 (0, ⟨some 69, .move (.tmp 5), 3, none⟩),
 (0, ⟨some 70, .indexAddr 28 (.tmp 68) (.tmp 69), 0, none⟩),
 (0, ⟨some 71, .fieldAddr 24 (.tmp 70) 2, 0, none⟩),
 (2, ⟨some 72, .load 22 (.tmp 71), 22, none⟩),
 (2, ⟨some 73, .call ⟨.value (.func 21), #[(.tmp 67), (.tmp 72)], #[22, 22]⟩, 4, none⟩),
 (0, ⟨some 74, .unOp .not 4 (.tmp 73), 4, none⟩),
 (0, ⟨some 75, .move (.tmp 74), 4, none⟩),
 (0, ⟨some 76, .move (.tmp 5), 3, (some (75, false))⟩),
 (0, ⟨some 77, .binOp .gtr 3 (.tmp 76) (.const (.int .i64 0)) 3, 4, (some (75, false))⟩),
 (0, ⟨some 78, .move (.tmp 77), 4, (some (75, false))⟩),
 (0, ⟨some 79, .move (.tmp 4), 28, (some (78, true))⟩),
 (0, ⟨some 80, .move (.tmp 5), 3, (some (78, true))⟩),
 (0, ⟨some 81, .binOp .sub 3 (.tmp 80) (.const (.int .i64 1)) 3, 3, (some (78, true))⟩),
 (0, ⟨some 82, .indexAddr 28 (.tmp 79) (.tmp 81), 0, (some (78, true))⟩),
 (0, ⟨some 83, .fieldAddr 24 (.tmp 82) 0, 0, (some (78, true))⟩),
 (0, ⟨some 85, .move (.tmp 4), 28, (some (78, true))⟩),
 (0, ⟨some 86, .move (.tmp 5), 3, (some (78, true))⟩),
 (0, ⟨some 87, .indexAddr 28 (.tmp 85) (.tmp 86), 0, (some (78, true))⟩),
 (0, ⟨some 88, .fieldAddr 24 (.tmp 87) 0, 0, (some (78, true))⟩),
 (1, ⟨some 84, .load 3 (.tmp 83), 3, (some (78, true))⟩),
 (2, ⟨some 89, .load 3 (.tmp 88), 3, (some (78, true))⟩),
 (0, ⟨some 90, .binOp .geq 3 (.tmp 84) (.tmp 89) 3, 4, (some (78, true))⟩),
 (0, ⟨some 91, .pick (.tmp 78) (.tmp 90) (.const (.bool false)), 4, (some (75, false))⟩),
 (0, ⟨some 92, .pick (.tmp 75) (.const (.bool true)) (.tmp 91), 4, none⟩)]
theorem c5draw1 {L : List Nat} {ρ : Env} {w : World} {Q : Post} (S : World → Prop) (hS : S w.drew) (h : DG Try.prog S c5D1 L ρ w.drew Q) : drawW Try.prog (drawOps 1 c5code) L ρ w Q :=
  drawW_held [17] [(0, 0), (0, 1), (0, 2), (0, 3), (0, 4), (2, 5), (2, 6), (0, 7), (0, 8), (0, 9), (0, 10), (0, 11), (0, 12), (0, 13), (0, 14), (0, 15), (0, 16), (0, 18), (0, 19), (0, 20), (0, 21), (1, 17), (2, 22), (0, 23), (0, 24), (0, 25)] c5D1 (by kernel_rfl) (by kernel_rfl) (by kernel_rfl) S hS h
noncomputable def c5D2 : List (Bool × Ins) := [
 (true, ⟨some 113, .move (.tmp 11), 4, none⟩),
 (true, ⟨some 114, .unOp .not 4 (.tmp 113), 4, none⟩),
 (true, ⟨some 115, .move (.tmp 114), 4, none⟩),
 (false, ⟨some 116, .load 35 (.tmp 10), 35, (some (115, false))⟩),
 (true, ⟨some 117, .move (.tmp 6), 22, (some (115, false))⟩),
 (true, ⟨some 118, .move (.tmp 9), 3, (some (115, false))⟩),
 (true, ⟨some 119, .indexAddr 22 (.tmp 117) (.tmp 118), 0, (some (115, false))⟩),
 (false, ⟨some 120, .load 35 (.tmp 119), 35, (some (115, false))⟩),
 (true, ⟨some 121, .binOp .neq 35 (.tmp 116) (.tmp 120) 35, 4, (some (115, false))⟩),
 (true, ⟨some 122, .pick (.tmp 115) (.const (.bool true)) (.tmp 121), 4, none⟩),
 (true, ⟨some 123, .move (.tmp 122), 4, none⟩),
 (true, ⟨some 124, .fieldAddr 35 (.tmp 10) 2, 0, (some (123, false))⟩),
 (false, ⟨some 125, .load 3 (.tmp 124), 3, (some (123, false))⟩),
 (true, ⟨some 126, .move (.tmp 4), 28, (some (123, false))⟩),
 (true, ⟨some 127, .move (.tmp 5), 3, (some (123, false))⟩),
 (true, ⟨some 128, .indexAddr 28 (.tmp 126) (.tmp 127), 0, (some (123, false))⟩),
 (true, ⟨some 129, .fieldAddr 24 (.tmp 128) 0, 0, (some (123, false))⟩),
 (false, ⟨some 130, .load 3 (.tmp 129), 3, (some (123, false))⟩),
 (true, ⟨some 131, .binOp .neq 3 (.tmp 125) (.tmp 130) 3, 4, (some (123, false))⟩),
 (true, ⟨some 132, .pick (.tmp 123) (.const (.bool true)) (.tmp 131), 4, none⟩),
 (true, ⟨some 133, .move (.tmp 132), 4, none⟩),
 (true, ⟨some 134, .fieldAddr 35 (.tmp 10) 3, 0, (some (133, false))⟩),
 (false, ⟨some 135, .load 3 (.tmp 134), 3, (some (133, false))⟩),
 (true, ⟨some 136, .move (.tmp 4), 28, (some (133, false))⟩),
 (true, ⟨some 137, .move (.tmp 5), 3, (some (133, false))⟩),
 (true, ⟨some 138, .indexAddr 28 (.tmp 136) (.tmp 137), 0, (some (133, false))⟩),
 (true, ⟨some 139, .fieldAddr 24 (.tmp 138) 1, 0, (some (133, false))⟩),
 (false, ⟨some 140, .load 3 (.tmp 139), 3, (some (133, false))⟩),
 (true, ⟨some 141, .binOp .neq 3 (.tmp 135) (.tmp 140) 3, 4, (some (133, false))⟩),
 (true, ⟨some 142, .pick (.tmp 133) (.const (.bool true)) (.tmp 141), 4, none⟩)]
theorem c5draw2 {L : List Nat} {ρ : Env} {w : World} {Q : Post} (h : DL Try.prog c5D2 L ρ w.drew Q) : drawW Try.prog (drawOps 2 c5code) L ρ w Q :=
  drawW_still [true, true, true, false, true, true, true, false, true, true, true, true, false, true, true, true, true, false, true, true, true, true, false, true, true, true, true, false, true, true] c5D2 (by kernel_rfl) (by kernel_rfl) (by kernel_rfl) h
set_option maxRecDepth 100000 in
theorem ent5 (a0 : Value) (w : World) (K : Value → World → Prop) (h : W Try.prog c5 [(0, a0)] w (finQ Try.prog [.tmp 2] K)) : Ret Try.prog 5 [a0] w K :=
  Ret_of_W (code := c5code) Try.func5 (by kernel_rfl) (by kernel_rfl) (of_decide_eq_true (by kernel_rfl)) h
--SIMP 5 c5 c5S0 c5S1 c5S2 c5S3 c5S4 c5S5 c5L0 c5S6 c5S7 c5S8 c5S9 c5S10 c5L1 c5S11 c5S12 c5S13 c5S14 c5S15 c5L2 c5S16 c5S17 c5S18 c5S19 TYS 3 22 24 28 35 FNS 14 16 18 20 21 22
@[go_sem] theorem go5 : goFunc Try.prog 5 = true := by kernel_rfl
/- Function 6: annalistlaw14.CutQuiet -/
noncomputable def c6code : Code := match Try.f6.body with | some c => c | none => .skip
noncomputable def c6S0 (_ : Unit) : Cmd := .ret
noncomputable def c6S1 (_ : Unit) : Cmd := (.cond (.tmp 16)
  (.seq (.ops [
  ⟨some 17, .call ⟨.value (.func 14), #[], #[]⟩, 4, none⟩,
  ⟨some 2, .assign (.tmp 17), 4, none⟩] [2]) (sg c6S0))
  (.skip [0]))
noncomputable def c6S2 (_ : Unit) : Cmd := (.cond (.tmp 43)
  (.seq (.ops [
  ⟨some 2, .assign (.const (.bool false)), 4, none⟩] [2])
  .ret)
  (.skip [3, 4, 5, 6]))
noncomputable def c6S3 (_ : Unit) : Cmd := (.cond (.tmp 98)
  (.seq (.ops [
  ⟨some 2, .assign (.const (.bool false)), 4, none⟩] [2])
  .ret)
  (.skip [3, 4, 5, 6, 7, 8]))
noncomputable def c6S4 (_ : Unit) : Cmd := (.ops [
 ⟨some 78, .move (.tmp 8), 3, none⟩,
 ⟨some 79, .binOp .add 3 (.tmp 78) (.const (.int .i64 1)) 3, 3, none⟩,
 ⟨some 8, .assign (.tmp 79), 3, none⟩] [3, 4, 5, 6, 7, 8])
noncomputable def c6S5 (_ : Unit) : Cmd := (.seq (.block 7 (.seq (.draw (drawOps 0 c6code) [3, 4, 5, 6, 7, 8, 98]) (sg c6S3))) (sg c6S4))
noncomputable def c6L0 (_ : Unit) : Cmd := (.seq (.seq (.ops [
 ⟨some 69, .move (.tmp 8), 3, none⟩,
 ⟨some 70, .move (.tmp 5), 28, none⟩,
 ⟨some 71, .move (.tmp 6), 3, none⟩,
 ⟨some 72, .binOp .add 3 (.tmp 71) (.const (.int .i64 1)) 3, 3, none⟩,
 ⟨some 73, .indexAddr 28 (.tmp 70) (.tmp 72), 0, none⟩,
 ⟨some 74, .fieldAddr 24 (.tmp 73) 2, 0, none⟩,
 ⟨some 75, .load 22 (.tmp 74), 22, none⟩,
 ⟨some 76, .call ⟨.builtin .len, #[(.tmp 75)], #[22]⟩, 3, none⟩,
 ⟨some 77, .binOp .lss 3 (.tmp 69) (.tmp 76) 3, 4, none⟩] [3, 4, 5, 6, 7, 8, 77])
 (.cond (.tmp 77)
  (.skip [3, 4, 5, 6, 7, 8])
  (.exit 6 [3, 4, 5, 6, 7]))) (sg c6S5))
noncomputable def c6S6 (_ : Unit) : Cmd := (.seq (.ops [
 ⟨some 8, .assign (.const (.int .i64 0)), 3, none⟩] [3, 4, 5, 6, 7, 8])
 (.block 6 (.loop (sg c6L0))))
noncomputable def c6S7 (_ : Unit) : Cmd := (.seq (.seq (.ops [
 ⟨some 59, .move (.tmp 5), 28, none⟩,
 ⟨some 60, .move (.tmp 6), 3, none⟩,
 ⟨some 61, .indexAddr 28 (.tmp 59) (.tmp 60), 0, none⟩,
 ⟨some 62, .fieldAddr 24 (.tmp 61) 2, 0, none⟩,
 ⟨some 63, .load 22 (.tmp 62), 22, none⟩,
 ⟨some 64, .move (.tmp 7), 3, none⟩,
 ⟨some 65, .indexAddr 22 (.tmp 63) (.tmp 64), 0, none⟩,
 ⟨some 66, .fieldAddr 35 (.tmp 65) 7, 0, none⟩,
 ⟨some 67, .load 4 (.tmp 66), 4, none⟩,
 ⟨some 68, .unOp .not 4 (.tmp 67), 4, none⟩] [3, 4, 5, 6, 7, 68])
 (.cond (.tmp 68)
  (.seq (.ops [
  ⟨some 2, .assign (.const (.bool false)), 4, none⟩] [2])
  .ret)
  (.skip [3, 4, 5, 6, 7]))) (sg c6S6))
noncomputable def c6S8 (_ : Unit) : Cmd := (.ops [
 ⟨some 52, .move (.tmp 7), 3, none⟩,
 ⟨some 53, .binOp .add 3 (.tmp 52) (.const (.int .i64 1)) 3, 3, none⟩,
 ⟨some 7, .assign (.tmp 53), 3, none⟩] [3, 4, 5, 6, 7])
noncomputable def c6S9 (_ : Unit) : Cmd := (.seq (.block 5 (.seq (.seq (.ops [
 ⟨some 54, .move (.tmp 6), 3, none⟩,
 ⟨some 55, .binOp .add 3 (.tmp 54) (.const (.int .i64 1)) 3, 3, none⟩,
 ⟨some 56, .move (.tmp 5), 28, none⟩,
 ⟨some 57, .call ⟨.builtin .len, #[(.tmp 56)], #[28]⟩, 3, none⟩,
 ⟨some 58, .binOp .eql 3 (.tmp 55) (.tmp 57) 3, 4, none⟩] [3, 4, 5, 6, 7, 58])
 (.cond (.tmp 58)
  (.exit 5 [3, 4, 5, 6, 7])
  (.skip [3, 4, 5, 6, 7]))) (sg c6S7))) (sg c6S8))
noncomputable def c6L1 (_ : Unit) : Cmd := (.seq (.seq (.ops [
 ⟨some 44, .move (.tmp 7), 3, none⟩,
 ⟨some 45, .move (.tmp 5), 28, none⟩,
 ⟨some 46, .move (.tmp 6), 3, none⟩,
 ⟨some 47, .indexAddr 28 (.tmp 45) (.tmp 46), 0, none⟩,
 ⟨some 48, .fieldAddr 24 (.tmp 47) 2, 0, none⟩,
 ⟨some 49, .load 22 (.tmp 48), 22, none⟩,
 ⟨some 50, .call ⟨.builtin .len, #[(.tmp 49)], #[22]⟩, 3, none⟩,
 ⟨some 51, .binOp .lss 3 (.tmp 44) (.tmp 50) 3, 4, none⟩] [3, 4, 5, 6, 7, 51])
 (.cond (.tmp 51)
  (.skip [3, 4, 5, 6, 7])
  (.exit 4 [3, 4, 5, 6]))) (sg c6S9))
noncomputable def c6S10 (_ : Unit) : Cmd := (.seq (.ops [
 ⟨some 7, .assign (.const (.int .i64 0)), 3, none⟩] [3, 4, 5, 6, 7])
 (.block 4 (.loop (sg c6L1))))
noncomputable def c6S11 (_ : Unit) : Cmd := (.ops [
 ⟨some 35, .move (.tmp 6), 3, none⟩,
 ⟨some 36, .binOp .add 3 (.tmp 35) (.const (.int .i64 1)) 3, 3, none⟩,
 ⟨some 6, .assign (.tmp 36), 3, none⟩] [3, 4, 5, 6])
noncomputable def c6S12 (_ : Unit) : Cmd := (.seq (.block 3 (.seq (.seq (.ops [
 ⟨some 37, .move (.tmp 5), 28, none⟩,
 ⟨some 38, .move (.tmp 6), 3, none⟩,
 ⟨some 39, .indexAddr 28 (.tmp 37) (.tmp 38), 0, none⟩,
 ⟨some 40, .load 24 (.tmp 39), 24, none⟩,
 ⟨some 41, .call ⟨.value (.func 16), #[(.tmp 40)], #[24]⟩, 28, none⟩,
 ⟨some 42, .call ⟨.builtin .len, #[(.tmp 41)], #[28]⟩, 3, none⟩,
 ⟨some 43, .binOp .neq 3 (.tmp 42) (.const (.int .i64 1)) 3, 4, none⟩] [3, 4, 5, 6, 43]) (sg c6S2)) (sg c6S10))) (sg c6S11))
noncomputable def c6L2 (_ : Unit) : Cmd := (.seq (.seq (.ops [
 ⟨some 31, .move (.tmp 6), 3, none⟩,
 ⟨some 32, .move (.tmp 5), 28, none⟩,
 ⟨some 33, .call ⟨.builtin .len, #[(.tmp 32)], #[28]⟩, 3, none⟩,
 ⟨some 34, .binOp .lss 3 (.tmp 31) (.tmp 33) 3, 4, none⟩] [3, 4, 5, 6, 34])
 (.cond (.tmp 34)
  (.skip [3, 4, 5, 6])
  (.exit 2 [3, 4]))) (sg c6S12))
noncomputable def c6S13 (_ : Unit) : Cmd := (.seq (.ops [
 ⟨some 6, .assign (.const (.int .i64 0)), 3, none⟩] [3, 4, 5, 6])
 (.block 2 (.loop (sg c6L2))))
noncomputable def c6S14 (_ : Unit) : Cmd := (.ops [
 ⟨some 24, .move (.tmp 4), 3, none⟩,
 ⟨some 25, .binOp .add 3 (.tmp 24) (.const (.int .i64 1)) 3, 3, none⟩,
 ⟨some 4, .assign (.tmp 25), 3, none⟩] [3, 4])
noncomputable def c6S15 (_ : Unit) : Cmd := (.seq (.block 1 (.seq (.ops [
 ⟨some 26, .move (.tmp 3), 28, none⟩,
 ⟨some 27, .move (.tmp 4), 3, none⟩,
 ⟨some 28, .indexAddr 28 (.tmp 26) (.tmp 27), 0, none⟩,
 ⟨some 29, .load 24 (.tmp 28), 24, none⟩,
 ⟨some 30, .call ⟨.value (.func 16), #[(.tmp 29)], #[24]⟩, 28, none⟩,
 ⟨some 5, .assign (.tmp 30), 28, none⟩] [3, 4, 5]) (sg c6S13))) (sg c6S14))
noncomputable def c6L3 (_ : Unit) : Cmd := (.seq (.seq (.ops [
 ⟨some 20, .move (.tmp 4), 3, none⟩,
 ⟨some 21, .move (.tmp 3), 28, none⟩,
 ⟨some 22, .call ⟨.builtin .len, #[(.tmp 21)], #[28]⟩, 3, none⟩,
 ⟨some 23, .binOp .lss 3 (.tmp 20) (.tmp 22) 3, 4, none⟩] [3, 4, 23])
 (.cond (.tmp 23)
  (.skip [3, 4])
  (.exit 0 []))) (sg c6S15))
noncomputable def c6S16 (_ : Unit) : Cmd := .ret
noncomputable def c6S17 (_ : Unit) : Cmd := (.seq (.ops [
 ⟨some 99, .call ⟨.value (.func 14), #[], #[]⟩, 4, none⟩,
 ⟨some 2, .assign (.tmp 99), 4, none⟩] [2]) (sg c6S16))
noncomputable def c6S18 (_ : Unit) : Cmd := (.seq (.seq (.ops [
 ⟨some 4, .assign (.const (.int .i64 0)), 3, none⟩] [3, 4])
 (.block 0 (.loop (sg c6L3)))) (sg c6S17))
noncomputable def c6S19 (_ : Unit) : Cmd := (.seq (.ops [
 ⟨some 18, .move (.tmp 0), 22, none⟩,
 ⟨some 19, .call ⟨.value (.func 18), #[(.tmp 18)], #[22]⟩, 28, none⟩,
 ⟨some 3, .assign (.tmp 19), 28, none⟩] [3]) (sg c6S18))
noncomputable def c6 : Cmd := (.seq (.ops [
 ⟨some 2, .assign (.const (.bool false)), 4, none⟩] [0])
 (.seq (.seq (.ops [
 ⟨some 9, .move (.tmp 0), 22, none⟩,
 ⟨some 10, .call ⟨.builtin .len, #[(.tmp 9)], #[22]⟩, 3, none⟩,
 ⟨some 11, .binOp .gtr 3 (.tmp 10) (.const (.int .i64 64)) 3, 4, none⟩,
 ⟨some 12, .move (.tmp 11), 4, none⟩,
 ⟨some 13, .move (.tmp 0), 22, (some (12, false))⟩,
 ⟨some 14, .call ⟨.value (.func 20), #[(.tmp 13)], #[22]⟩, 3, (some (12, false))⟩,
 ⟨some 15, .binOp .neq 3 (.tmp 14) (.const (.int .i64 0)) 3, 4, (some (12, false))⟩,
 ⟨some 16, .pick (.tmp 12) (.const (.bool true)) (.tmp 15), 4, none⟩] [0, 16]) (sg c6S1)) (sg c6S19)))
noncomputable def c6D0 : List (Nat × Ins) := [
 (0, ⟨some 80, .move (.tmp 5), 28, none⟩),
 (0, ⟨some 81, .move (.tmp 6), 3, none⟩),
 (0, ⟨some 82, .indexAddr 28 (.tmp 80) (.tmp 81), 0, none⟩),
 (0, ⟨some 83, .fieldAddr 24 (.tmp 82) 2, 0, none⟩),
 (0, ⟨some 85, .move (.tmp 7), 3, none⟩),
 (0, ⟨some 88, .move (.tmp 5), 28, none⟩),
 (0, ⟨some 89, .move (.tmp 6), 3, none⟩),
 (0, ⟨some 90, .binOp .add 3 (.tmp 89) (.const (.int .i64 1)) 3, 3, none⟩),
 (0, ⟨some 91, .indexAddr 28 (.tmp 88) (.tmp 90), 0, none⟩),
 (0, ⟨some 92, .fieldAddr 24 (.tmp 91) 2, 0, none⟩),
 (0, ⟨some 94, .move (.tmp 8), 3, none⟩),
 (1, ⟨some 84, .load 22 (.tmp 83), 22, none⟩),
 (0, ⟨some 86, .indexAddr 22 (.tmp 84) (.tmp 85), 0, none⟩),
 (1, ⟨some 87, .load 35 (.tmp 86), 35, none⟩),
 (2, ⟨some 93, .load 22 (.tmp 92), 22, none⟩),
 (0, ⟨some 95, .indexAddr 22 (.tmp 93) (.tmp 94), 0, none⟩),
 (2, ⟨some 96, .load 35 (.tmp 95), 35, none⟩),
 (2, ⟨some 97, .call ⟨.value (.func 23), #[(.tmp 87), (.tmp 96)], #[35, 35]⟩, 4, none⟩),
 (0, ⟨some 98, .unOp .not 4 (.tmp 97), 4, none⟩)]
theorem c6draw0 {L : List Nat} {ρ : Env} {w : World} {Q : Post} (S : World → Prop) (hS : S w.drew) (h : DG Try.prog S c6D0 L ρ w.drew Q) : drawW Try.prog (drawOps 0 c6code) L ρ w Q :=
  drawW_held [4, 7] [(0, 0), (0, 1), (0, 2), (0, 3), (0, 5), (0, 8), (0, 9), (0, 10), (0, 11), (0, 12), (0, 14), (1, 4), (0, 6), (1, 7), (2, 13), (0, 15), (2, 16), (2, 17), (0, 18)] c6D0 (by kernel_rfl) (by kernel_rfl) (by kernel_rfl) S hS h
set_option maxRecDepth 100000 in
theorem ent6 (a0 : Value) (w : World) (K : Value → World → Prop) (h : W Try.prog c6 [(0, a0)] w (finQ Try.prog [.tmp 2] K)) : Ret Try.prog 6 [a0] w K :=
  Ret_of_W (code := c6code) Try.func6 (by kernel_rfl) (by kernel_rfl) (of_decide_eq_true (by kernel_rfl)) h
--SIMP 6 c6 c6S0 c6S1 c6S2 c6S3 c6S4 c6S5 c6L0 c6S6 c6S7 c6S8 c6S9 c6L1 c6S10 c6S11 c6S12 c6L2 c6S13 c6S14 c6S15 c6L3 c6S16 c6S17 c6S18 c6S19 TYS 3 4 22 24 28 35 FNS 14 16 18 20 23
@[go_sem] theorem go6 : goFunc Try.prog 6 = true := by kernel_rfl
/- Function 13: annalistref14.Mixed -/
noncomputable def c13code : Code := match Try.f13.body with | some c => c | none => .skip
noncomputable def c13S0 (_ : Unit) : Cmd := (.cond (.tmp 37)
  (.seq (.ops [
  ⟨some 2, .assign (.const (.bool true)), 4, none⟩] [2])
  .ret)
  (.skip [0, 3, 4]))
noncomputable def c13S1 (_ : Unit) : Cmd := (.ops [
 ⟨some 14, .move (.tmp 4), 3, none⟩,
 ⟨some 15, .binOp .add 3 (.tmp 14) (.const (.int .i64 1)) 3, 3, none⟩,
 ⟨some 4, .assign (.tmp 15), 3, none⟩] [0, 3, 4])
noncomputable def c13S2 (_ : Unit) : Cmd := (.seq (.block 3 (.seq (.draw (drawOps 0 c13code) [0, 3, 4, 37]) (sg c13S0))) (sg c13S1))
noncomputable def c13L0 (_ : Unit) : Cmd := (.seq (.seq (.ops [
 ⟨some 11, .move (.tmp 4), 3, none⟩,
 ⟨some 12, .move (.tmp 3), 3, none⟩,
 ⟨some 13, .binOp .lss 3 (.tmp 11) (.tmp 12) 3, 4, none⟩] [0, 3, 4, 13])
 (.cond (.tmp 13)
  (.skip [0, 3, 4])
  (.exit 2 [0, 3]))) (sg c13S2))
noncomputable def c13S3 (_ : Unit) : Cmd := (.ops [
 ⟨some 9, .move (.tmp 3), 3, none⟩,
 ⟨some 10, .binOp .add 3 (.tmp 9) (.const (.int .i64 1)) 3, 3, none⟩,
 ⟨some 3, .assign (.tmp 10), 3, none⟩] [0, 3])
noncomputable def c13S4 (_ : Unit) : Cmd := (.seq (.block 1 (.seq (.ops [
 ⟨some 4, .assign (.const (.int .i64 0)), 3, none⟩] [0, 3, 4])
 (.block 2 (.loop (sg c13L0))))) (sg c13S3))
noncomputable def c13L1 (_ : Unit) : Cmd := (.seq (.seq (.ops [
 ⟨some 5, .move (.tmp 3), 3, none⟩,
 ⟨some 6, .move (.tmp 0), 22, none⟩,
 ⟨some 7, .call ⟨.builtin .len, #[(.tmp 6)], #[22]⟩, 3, none⟩,
 ⟨some 8, .binOp .lss 3 (.tmp 5) (.tmp 7) 3, 4, none⟩] [0, 3, 8])
 (.cond (.tmp 8)
  (.skip [0, 3])
  (.exit 0 []))) (sg c13S4))
noncomputable def c13S5 (_ : Unit) : Cmd := (.seq (.ops [
 ⟨some 2, .assign (.const (.bool false)), 4, none⟩] [2])
 .ret)
noncomputable def c13 : Cmd := (.seq (.ops [
 ⟨some 2, .assign (.const (.bool false)), 4, none⟩] [0])
 (.seq (.seq (.ops [
 ⟨some 3, .assign (.const (.int .i64 0)), 3, none⟩] [0, 3])
 (.block 0 (.loop (sg c13L1)))) (sg c13S5)))
noncomputable def c13D0 : List (Bool × Ins) := [
 (true, ⟨some 16, .move (.tmp 0), 22, none⟩),
 (true, ⟨some 17, .move (.tmp 3), 3, none⟩),
 (true, ⟨some 18, .indexAddr 22 (.tmp 16) (.tmp 17), 0, none⟩),
 (true, ⟨some 19, .fieldAddr 35 (.tmp 18) 0, 0, none⟩),
 (false, ⟨some 20, .load 3 (.tmp 19), 3, none⟩),
 (true, ⟨some 21, .move (.tmp 0), 22, none⟩),
 (true, ⟨some 22, .move (.tmp 4), 3, none⟩),
 (true, ⟨some 23, .indexAddr 22 (.tmp 21) (.tmp 22), 0, none⟩),
 (true, ⟨some 24, .fieldAddr 35 (.tmp 23) 0, 0, none⟩),
 (false, ⟨some 25, .load 3 (.tmp 24), 3, none⟩),
 (true, ⟨some 26, .binOp .eql 3 (.tmp 20) (.tmp 25) 3, 4, none⟩),
 (true, ⟨some 27, .move (.tmp 26), 4, none⟩),
 (true, ⟨some 28, .move (.tmp 0), 22, (some (27, true))⟩),
 (true, ⟨some 29, .move (.tmp 3), 3, (some (27, true))⟩),
 (true, ⟨some 30, .indexAddr 22 (.tmp 28) (.tmp 29), 0, (some (27, true))⟩),
 (false, ⟨some 31, .load 35 (.tmp 30), 35, (some (27, true))⟩),
 (true, ⟨some 32, .move (.tmp 0), 22, (some (27, true))⟩),
 (true, ⟨some 33, .move (.tmp 4), 3, (some (27, true))⟩),
 (true, ⟨some 34, .indexAddr 22 (.tmp 32) (.tmp 33), 0, (some (27, true))⟩),
 (false, ⟨some 35, .load 35 (.tmp 34), 35, (some (27, true))⟩),
 (true, ⟨some 36, .binOp .neq 35 (.tmp 31) (.tmp 35) 35, 4, (some (27, true))⟩),
 (true, ⟨some 37, .pick (.tmp 27) (.tmp 36) (.const (.bool false)), 4, none⟩)]
theorem c13draw0 {L : List Nat} {ρ : Env} {w : World} {Q : Post} (h : DL Try.prog c13D0 L ρ w.drew Q) : drawW Try.prog (drawOps 0 c13code) L ρ w Q :=
  drawW_still [true, true, true, true, false, true, true, true, true, false, true, true, true, true, true, false, true, true, true, false, true, true] c13D0 (by kernel_rfl) (by kernel_rfl) (by kernel_rfl) h
set_option maxRecDepth 100000 in
theorem ent13 (a0 : Value) (w : World) (K : Value → World → Prop) (h : W Try.prog c13 [(0, a0)] w (finQ Try.prog [.tmp 2] K)) : Ret Try.prog 13 [a0] w K :=
  Ret_of_W (code := c13code) Try.func13 (by kernel_rfl) (by kernel_rfl) (of_decide_eq_true (by kernel_rfl)) h
--SIMP 13 c13 c13S0 c13S1 c13S2 c13L0 c13S3 c13S4 c13L1 c13S5 TYS 3 22 35 FNS 
@[go_sem] theorem go13 : goFunc Try.prog 13 = true := by kernel_rfl
/- Function 14: annalistlaw14.awake -/
noncomputable def c14code : Code := match Try.f14.body with | some c => c | none => .skip
noncomputable def c14S0 (_ : Unit) : Cmd := (.seq (.ops [
 ⟨some 10, .move (.tmp 2), 28, none⟩,
 ⟨some 11, .call ⟨.builtin .len, #[(.tmp 10)], #[28]⟩, 3, none⟩,
 ⟨some 12, .binOp .eql 3 (.tmp 11) (.const (.int .i64 2)) 3, 4, none⟩,
 ⟨some 13, .move (.tmp 12), 4, none⟩,
 ⟨some 14, .move (.tmp 2), 28, (some (13, true))⟩,
 ⟨some 15, .indexAddr 28 (.tmp 14) (.const (.int .i64 0)), 0, (some (13, true))⟩,
 ⟨some 16, .fieldAddr 24 (.tmp 15) 2, 0, (some (13, true))⟩,
 ⟨some 17, .load 22 (.tmp 16), 22, (some (13, true))⟩,
 ⟨some 18, .call ⟨.builtin .len, #[(.tmp 17)], #[22]⟩, 3, (some (13, true))⟩,
 ⟨some 19, .binOp .eql 3 (.tmp 18) (.const (.int .i64 2)) 3, 4, (some (13, true))⟩,
 ⟨some 20, .pick (.tmp 13) (.tmp 19) (.const (.bool false)), 4, none⟩,
 ⟨some 21, .move (.tmp 20), 4, none⟩,
 ⟨some 22, .move (.tmp 2), 28, (some (21, true))⟩,
 ⟨some 23, .indexAddr 28 (.tmp 22) (.const (.int .i64 1)), 0, (some (21, true))⟩,
 ⟨some 24, .fieldAddr 24 (.tmp 23) 2, 0, (some (21, true))⟩,
 ⟨some 25, .load 22 (.tmp 24), 22, (some (21, true))⟩,
 ⟨some 26, .call ⟨.builtin .len, #[(.tmp 25)], #[22]⟩, 3, (some (21, true))⟩,
 ⟨some 27, .binOp .eql 3 (.tmp 26) (.const (.int .i64 1)) 3, 4, (some (21, true))⟩,
 ⟨some 28, .pick (.tmp 21) (.tmp 27) (.const (.bool false)), 4, none⟩,
 ⟨some 0, .assign (.tmp 28), 4, none⟩] [0])
 .ret)
noncomputable def c14 : Cmd := (.seq (.ops [
 ⟨some 0, .assign (.const (.bool false)), 4, none⟩] [])
 (.seq (.ops [
 ⟨some 3, .build 35 #[(0, (.const (.int .i64 1))), (7, (.const (.bool true))), (9, (.const (.int .i64 1))), (10, (.const (.int .i64 4)))], 35, none⟩,
 ⟨some 4, .build 35 #[(0, (.const (.int .i64 2))), (7, (.const (.bool true))), (9, (.const (.int .i64 3))), (10, (.const (.int .i64 6)))], 35, none⟩,
 ⟨some 5, .build 35 #[(0, (.const (.int .i64 3))), (7, (.const (.bool true))), (9, (.const (.int .i64 7))), (10, (.const (.int .i64 9)))], 35, none⟩,
 ⟨some 6, .buildSlice 22 3 #[(0, (.tmp 3)), (1, (.tmp 4)), (2, (.tmp 5))], 22, none⟩,
 ⟨some 1, .assign (.tmp 6), 22, none⟩] [1])
 (.seq (.ops [
 ⟨some 7, .move (.tmp 1), 22, none⟩,
 ⟨some 8, .build 24 #[(2, (.tmp 7))], 24, none⟩,
 ⟨some 9, .call ⟨.value (.func 16), #[(.tmp 8)], #[24]⟩, 28, none⟩,
 ⟨some 2, .assign (.tmp 9), 28, none⟩] [2]) (sg c14S0))))
set_option maxRecDepth 100000 in
theorem ent14 (w : World) (K : Value → World → Prop) (h : W Try.prog c14 [] w (finQ Try.prog [.tmp 0] K)) : Ret Try.prog 14 [] w K :=
  Ret_of_W (code := c14code) Try.func14 (by kernel_rfl) (by kernel_rfl) (of_decide_eq_true (by kernel_rfl)) h
--SIMP 14 c14 c14S0 TYS 3 22 24 28 35 FNS 16
@[go_sem] theorem go14 : goFunc Try.prog 14 = true := by kernel_rfl
/- Function 15: annalistref14.Same -/
noncomputable def c15code : Code := match Try.f15.body with | some c => c | none => .skip
noncomputable def c15S0 (_ : Unit) : Cmd := (.cond (.tmp 54)
  (.seq (.ops [
  ⟨some 4, .assign (.const (.bool false)), 4, none⟩] [4])
  .ret)
  (.skip [0, 1, 5]))
noncomputable def c15S1 (_ : Unit) : Cmd := (.ops [
 ⟨some 15, .move (.tmp 5), 3, none⟩,
 ⟨some 16, .binOp .add 3 (.tmp 15) (.const (.int .i64 1)) 3, 3, none⟩,
 ⟨some 5, .assign (.tmp 16), 3, none⟩] [0, 1, 5])
noncomputable def c15S2 (_ : Unit) : Cmd := (.seq (.block 1 (.seq (.draw (drawOps 0 c15code) [0, 1, 5, 54]) (sg c15S0))) (sg c15S1))
noncomputable def c15L0 (_ : Unit) : Cmd := (.seq (.seq (.ops [
 ⟨some 11, .move (.tmp 5), 3, none⟩,
 ⟨some 12, .move (.tmp 0), 28, none⟩,
 ⟨some 13, .call ⟨.builtin .len, #[(.tmp 12)], #[28]⟩, 3, none⟩,
 ⟨some 14, .binOp .lss 3 (.tmp 11) (.tmp 13) 3, 4, none⟩] [0, 1, 5, 14])
 (.cond (.tmp 14)
  (.skip [0, 1, 5])
  (.exit 0 []))) (sg c15S2))
noncomputable def c15S3 (_ : Unit) : Cmd := (.seq (.ops [
 ⟨some 4, .assign (.const (.bool true)), 4, none⟩] [4])
 .ret)
noncomputable def c15S4 (_ : Unit) : Cmd := (.seq (.seq (.ops [
 ⟨some 5, .assign (.const (.int .i64 0)), 3, none⟩] [0, 1, 5])
 (.block 0 (.loop (sg c15L0)))) (sg c15S3))
noncomputable def c15 : Cmd := (.seq (.ops [
 ⟨some 4, .assign (.const (.bool false)), 4, none⟩] [0, 1])
 (.seq (.seq (.ops [
 ⟨some 6, .move (.tmp 0), 28, none⟩,
 ⟨some 7, .call ⟨.builtin .len, #[(.tmp 6)], #[28]⟩, 3, none⟩,
 ⟨some 8, .move (.tmp 1), 28, none⟩,
 ⟨some 9, .call ⟨.builtin .len, #[(.tmp 8)], #[28]⟩, 3, none⟩,
 ⟨some 10, .binOp .neq 3 (.tmp 7) (.tmp 9) 3, 4, none⟩] [0, 1, 10])
 (.cond (.tmp 10)
  (.seq (.ops [
  ⟨some 4, .assign (.const (.bool false)), 4, none⟩] [4])
  .ret)
  (.skip [0, 1]))) (sg c15S4)))
noncomputable def c15D0 : List (Nat × Ins) := [
 (0, ⟨some 17, .move (.tmp 0), 28, none⟩),
 (0, ⟨some 18, .move (.tmp 5), 3, none⟩),
 (0, ⟨some 19, .indexAddr 28 (.tmp 17) (.tmp 18), 0, none⟩),
 (0, ⟨some 20, .fieldAddr 24 (.tmp 19) 0, 0, none⟩),
 (0, ⟨some 22, .move (.tmp 1), 28, none⟩),
 (0, ⟨some 23, .move (.tmp 5), 3, none⟩),
 (0, ⟨some 24, .indexAddr 28 (.tmp 22) (.tmp 23), 0, none⟩),
 (0, ⟨some 25, .fieldAddr 24 (.tmp 24) 0, 0, none⟩),
 (1, ⟨some 21, .load 3 (.tmp 20), 3, none⟩),
 (2, ⟨some 26, .load 3 (.tmp 25), 3, none⟩),
 (0, ⟨some 27, .binOp .neq 3 (.tmp 21) (.tmp 26) 3, 4, none⟩),
 (0, ⟨some 28, .move (.tmp 27), 4, none⟩),
 (0, ⟨some 29, .move (.tmp 0), 28, (some (28, false))⟩),
 (0, ⟨some 30, .move (.tmp 5), 3, (some (28, false))⟩),
 (0, ⟨some 31, .indexAddr 28 (.tmp 29) (.tmp 30), 0, (some (28, false))⟩),
 (0, ⟨some 32, .fieldAddr 24 (.tmp 31) 1, 0, (some (28, false))⟩),
 (0, ⟨some 34, .move (.tmp 1), 28, (some (28, false))⟩),
 (0, ⟨some 35, .move (.tmp 5), 3, (some (28, false))⟩),
 (0, ⟨some 36, .indexAddr 28 (.tmp 34) (.tmp 35), 0, (some (28, false))⟩),
 (0, ⟨some 37, .fieldAddr 24 (.tmp 36) 1, 0, (some (28, false))⟩),
 (1, ⟨some 33, .load 3 (.tmp 32), 3, (some (28, false))⟩),
 (2, ⟨some 38, .load 3 (.tmp 37), 3, (some (28, false))⟩),
 (0, ⟨some 39, .binOp .neq 3 (.tmp 33) (.tmp 38) 3, 4, (some (28, false))⟩),
 (0, ⟨some 40, .pick (.tmp 28) (.const (.bool true)) (.tmp 39), 4, none⟩),
 (0, ⟨some 41, .move (.tmp 40), 4, none⟩),
 (0, ⟨some 42, .move (.tmp 0), 28, (some (41, false))⟩),
 (0, ⟨some 43, .move (.tmp 5), 3, (some (41, false))⟩),
 (0, ⟨some 44, .indexAddr 28 (.tmp 42) (.tmp 43), 0, (some (41, false))⟩),
 (0, ⟨some 45, .fieldAddr 24 (.tmp 44) 2, 0, (some (41, false))⟩),
 (0, ⟨some 47, .move (.tmp 1), 28, (some (41, false))⟩),
 (0, ⟨some 48, .move (.tmp 5), 3, (some (41, false))⟩),
 (0, ⟨some 49, .indexAddr 28 (.tmp 47) (.tmp 48), 0, (some (41, false))⟩),
 (0, ⟨some 50, .fieldAddr 24 (.tmp 49) 2, 0, (some (41, false))⟩),
 (1, ⟨some 46, .load 22 (.tmp 45), 22, (some (41, false))⟩),
 (2, ⟨some 51, .load 22 (.tmp 50), 22, (some (41, false))⟩),
 (2, ⟨some 52, .call ⟨.value (.func 21), #[(.tmp 46), (.tmp 51)], #[22, 22]⟩, 4, (some (41, false))⟩),
 (0, ⟨some 53, .unOp .not 4 (.tmp 52), 4, (some (41, false))⟩),
 (0, ⟨some 54, .pick (.tmp 41) (.const (.bool true)) (.tmp 53), 4, none⟩)]
theorem c15draw0 {L : List Nat} {ρ : Env} {w : World} {Q : Post} (S : World → Prop) (hS : S w.drew) (h : DG Try.prog S c15D0 L ρ w.drew Q) : drawW Try.prog (drawOps 0 c15code) L ρ w Q :=
  drawW_held [4, 16, 29] [(0, 0), (0, 1), (0, 2), (0, 3), (0, 5), (0, 6), (0, 7), (0, 8), (1, 4), (2, 9), (0, 10), (0, 11), (0, 12), (0, 13), (0, 14), (0, 15), (0, 17), (0, 18), (0, 19), (0, 20), (1, 16), (2, 21), (0, 22), (0, 23), (0, 24), (0, 25), (0, 26), (0, 27), (0, 28), (0, 30), (0, 31), (0, 32), (0, 33), (1, 29), (2, 34), (2, 35), (0, 36), (0, 37)] c15D0 (by kernel_rfl) (by kernel_rfl) (by kernel_rfl) S hS h
set_option maxRecDepth 100000 in
theorem ent15 (a0 a1 : Value) (w : World) (K : Value → World → Prop) (h : W Try.prog c15 [(0, a0), (1, a1)] w (finQ Try.prog [.tmp 4] K)) : Ret Try.prog 15 [a0, a1] w K :=
  Ret_of_W (code := c15code) Try.func15 (by kernel_rfl) (by kernel_rfl) (of_decide_eq_true (by kernel_rfl)) h
--SIMP 15 c15 c15S0 c15S1 c15S2 c15L0 c15S3 c15S4 TYS 3 22 24 28 FNS 21
@[go_sem] theorem go15 : goFunc Try.prog 15 = true := by kernel_rfl
/- Function 16: cut.Segments -/
noncomputable def c16code : Code := match Try.f16.body with | some c => c | none => .skip
noncomputable def c16S0 (_ : Unit) : Cmd := (.ops [
  ⟨some 41, .move (.tmp 7), 3, none⟩,
  ⟨some 42, .binOp .add 3 (.tmp 41) (.const (.int .i64 1)) 3, 3, none⟩,
  ⟨some 7, .assign (.tmp 42), 3, none⟩] [1, 4, 6, 7, 13, 14, 15])
noncomputable def c16S1 (_ : Unit) : Cmd := (.cond (.tmp 32)
  (.seq (.ops [
  ⟨some 33, .move (.tmp 4), 28, none⟩,
  ⟨some 34, .fieldAddr 24 (.tmp 1) 0, 0, none⟩,
  ⟨some 35, .load 3 (.tmp 34), 3, none⟩,
  ⟨some 36, .fieldAddr 24 (.tmp 1) 1, 0, none⟩,
  ⟨some 37, .load 3 (.tmp 36), 3, none⟩,
  ⟨some 38, .build 24 #[(0, (.tmp 35)), (1, (.tmp 37))], 24, none⟩,
  ⟨some 39, .buildSlice 28 1 #[(0, (.tmp 38))], 28, none⟩,
  ⟨some 40, .call ⟨.builtin .append, #[(.tmp 33), (.tmp 39)], #[28, 28]⟩, 28, none⟩,
  ⟨some 4, .assign (.tmp 40), 28, none⟩] [1, 4, 6, 7, 13, 14, 15]) (sg c16S0))
  (.skip [1, 4, 6, 7, 13, 14, 15]))
noncomputable def c16S2 (_ : Unit) : Cmd := (.draw (drawOps 1 c16code) [1, 4, 13, 14, 15])
noncomputable def c16S3 (_ : Unit) : Cmd := (.ops [
 ⟨some 55, .binOp .add 3 (.tmp 15) (.const (.int .i64 1)) 3, 3, none⟩,
 ⟨some 15, .move (.tmp 55), 3, none⟩] [1, 4, 13, 14, 15])
noncomputable def c16S4 (_ : Unit) : Cmd := (.seq (.block 1 (.seq (.ops [
 ⟨some 17, .indexAddr 22 (.tmp 13) (.tmp 15), 0, none⟩,
 ⟨some 18, .load 35 (.tmp 17), 35, none⟩,
 ⟨some 6, .alloc 35, 0, none⟩,
 ⟨none, .store 35 (.tmp 6) (.tmp 18), 0, none⟩] [1, 4, 6, 13, 14, 15])
 (.seq (.ops [
 ⟨some 19, .move (.tmp 4), 28, none⟩,
 ⟨some 20, .call ⟨.builtin .len, #[(.tmp 19)], #[28]⟩, 3, none⟩,
 ⟨some 21, .binOp .sub 3 (.tmp 20) (.const (.int .i64 1)) 3, 3, none⟩,
 ⟨some 7, .assign (.tmp 21), 3, none⟩] [1, 4, 6, 7, 13, 14, 15])
 (.seq (.seq (.draw (drawOps 0 c16code) [1, 4, 6, 7, 13, 14, 15, 32]) (sg c16S1)) (sg c16S2))))) (sg c16S3))
noncomputable def c16L0 (_ : Unit) : Cmd := (.seq (.ops [
 ⟨some 16, .binOp .lss 3 (.tmp 15) (.tmp 14) 3, 0, none⟩] [1, 4, 13, 14, 15, 16])
 (.seq (.cond (.tmp 16)
  (.skip [1, 4, 13, 14, 15])
  (.exit 0 [4])) (sg c16S4)))
noncomputable def c16S5 (_ : Unit) : Cmd := (.seq (.ops [
 ⟨some 56, .move (.tmp 4), 28, none⟩,
 ⟨some 2, .assign (.tmp 56), 28, none⟩] [2])
 .ret)
noncomputable def c16S6 (_ : Unit) : Cmd := (.seq (.ops [
 ⟨some 4, .assign (.const (.slice none 0 0)), 28, none⟩] [1, 3, 4])
 (.seq (.seq (.ops [
 ⟨some 13, .move (.tmp 3), 22, none⟩,
 ⟨some 14, .call ⟨.builtin .len, #[(.tmp 13)], #[22]⟩, 3, none⟩,
 ⟨some 15, .move (.const (.int .i64 0)), 3, none⟩] [1, 4, 13, 14, 15])
 (.block 0 (.loop (sg c16L0)))) (sg c16S5)))
noncomputable def c16S7 (_ : Unit) : Cmd := (.seq (.ops [
 ⟨some 11, .move (.tmp 3), 22, none⟩,
 ⟨some 12, .call ⟨.value (.func 35), #[(.tmp 11), (.func 36)], #[22, 62]⟩, 0, none⟩] [1, 3]) (sg c16S6))
noncomputable def c16 : Cmd := (.seq (.ops [
 ⟨some 1, .box 24 (.tmp 0), 0, none⟩,
 ⟨some 2, .assign (.const (.slice none 0 0)), 28, none⟩] [1])
 (.seq (.ops [
 ⟨some 8, .fieldAddr 24 (.tmp 1) 2, 0, none⟩,
 ⟨some 9, .load 22 (.tmp 8), 22, none⟩,
 ⟨some 10, .call ⟨.value (.func 34), #[(.tmp 9)], #[22]⟩, 22, none⟩,
 ⟨some 3, .assign (.tmp 10), 22, none⟩] [1, 3]) (sg c16S7)))
noncomputable def c16D0 : List (Nat × Ins) := [
 (0, ⟨some 22, .move (.tmp 7), 3, none⟩),
 (0, ⟨some 23, .binOp .lss 3 (.tmp 22) (.const (.int .i64 0)) 3, 4, none⟩),
 (0, ⟨some 24, .move (.tmp 23), 4, none⟩),
 (0, ⟨some 25, .move (.tmp 4), 28, (some (24, false))⟩),
 (0, ⟨some 26, .move (.tmp 7), 3, (some (24, false))⟩),
 (0, ⟨some 27, .indexAddr 28 (.tmp 25) (.tmp 26), 0, (some (24, false))⟩),
 (0, ⟨some 28, .fieldAddr 24 (.tmp 27) 2, 0, (some (24, false))⟩),
 (1, ⟨some 29, .load 22 (.tmp 28), 22, (some (24, false))⟩),
 (2, ⟨some 30, .load 35 (.tmp 6), 35, (some (24, false))⟩),
 (3, ⟨some 31, .call ⟨.value (.func 37), #[(.tmp 29), (.tmp 30)], #[22, 35]⟩, 4, (some (24, false))⟩),
 (0, ⟨some 32, .pick (.tmp 24) (.const (.bool true)) (.tmp 31), 4, none⟩)]
theorem c16draw0 {L : List Nat} {ρ : Env} {w : World} {Q : Post} (S : World → Prop) (hS : S w.drew) (h : DG Try.prog S c16D0 L ρ w.drew Q) : drawW Try.prog (drawOps 0 c16code) L ρ w Q :=
  drawW_held [7] [(0, 0), (0, 1), (0, 2), (0, 3), (0, 4), (0, 5), (0, 6), (1, 7), (2, 8), (3, 9), (0, 10)] c16D0 (by kernel_rfl) (by kernel_rfl) (by kernel_rfl) S hS h
noncomputable def c16D1 : List (Nat × Ins) := [
 (0, ⟨some 43, .move (.tmp 4), 28, none⟩),
 (0, ⟨some 44, .move (.tmp 7), 3, none⟩),
 (0, ⟨some 45, .move (.tmp 4), 28, none⟩),
 (0, ⟨some 46, .move (.tmp 7), 3, none⟩),
 (0, ⟨some 47, .indexAddr 28 (.tmp 45) (.tmp 46), 0, none⟩),
 (0, ⟨some 48, .fieldAddr 24 (.tmp 47) 2, 0, none⟩),
 (1, ⟨some 49, .load 22 (.tmp 48), 22, none⟩),
 (2, ⟨some 50, .load 35 (.tmp 6), 35, none⟩),
 (2, ⟨some 51, .buildSlice 22 1 #[(0, (.tmp 50))], 22, none⟩),
 (3, ⟨some 52, .call ⟨.builtin .append, #[(.tmp 49), (.tmp 51)], #[22, 22]⟩, 22, none⟩),
 (0, ⟨some 53, .indexAddr 28 (.tmp 43) (.tmp 44), 0, none⟩),
 (0, ⟨some 54, .fieldAddr 24 (.tmp 53) 2, 0, none⟩),
 (3, ⟨none, .store 22 (.tmp 54) (.tmp 52), 0, none⟩)]
theorem c16draw1 {L : List Nat} {ρ : Env} {w : World} {Q : Post} (S : World → Prop) (hS : S w.drew) (h : DG Try.prog S c16D1 L ρ w.drew Q) : drawW Try.prog (drawOps 1 c16code) L ρ w Q :=
  drawW_held [6] [(0, 0), (0, 1), (0, 2), (0, 3), (0, 4), (0, 5), (1, 6), (2, 7), (2, 8), (3, 9), (0, 10), (0, 11), (3, 12)] c16D1 (by kernel_rfl) (by kernel_rfl) (by kernel_rfl) S hS h
set_option maxRecDepth 100000 in
theorem ent16 (a0 : Value) (w : World) (K : Value → World → Prop) (h : W Try.prog c16 [(0, a0)] w (finQ Try.prog [.tmp 2] K)) : Ret Try.prog 16 [a0] w K :=
  Ret_of_W (code := c16code) Try.func16 (by kernel_rfl) (by kernel_rfl) (of_decide_eq_true (by kernel_rfl)) h
--SIMP 16 c16 c16S0 c16S1 c16S2 c16S3 c16S4 c16L0 c16S5 c16S6 c16S7 TYS 3 22 24 28 35 FNS 34 35 36 37
@[go_sem] theorem go16 : goFunc Try.prog 16 = true := by kernel_rfl
/- Function 17: annalistref14.Segments -/
noncomputable def c17code : Code := match Try.f17.body with | some c => c | none => .skip
noncomputable def c17S0 (_ : Unit) : Cmd := (.ops [
 ⟨some 29, .move (.tmp 8), 3, none⟩,
 ⟨some 30, .binOp .add 3 (.tmp 29) (.const (.int .i64 1)) 3, 3, none⟩,
 ⟨some 8, .assign (.tmp 30), 3, none⟩] [1, 3, 4, 5, 6, 7, 8])
noncomputable def c17S1 (_ : Unit) : Cmd := (.seq (.block 3 (.draw (drawOps 0 c17code) [1, 3, 4, 5, 6, 7, 8])) (sg c17S0))
noncomputable def c17L0 (_ : Unit) : Cmd := (.seq (.seq (.ops [
 ⟨some 23, .move (.tmp 8), 3, none⟩,
 ⟨some 24, .move (.tmp 6), 3, none⟩,
 ⟨some 25, .binOp .lss 3 (.tmp 23) (.tmp 24) 3, 4, none⟩,
 ⟨some 26, .move (.tmp 25), 4, none⟩,
 ⟨some 27, .move (.tmp 7), 4, (some (26, true))⟩,
 ⟨some 28, .pick (.tmp 26) (.tmp 27) (.const (.bool false)), 4, none⟩] [1, 3, 4, 5, 6, 7, 8, 28])
 (.cond (.tmp 28)
  (.skip [1, 3, 4, 5, 6, 8])
  (.exit 2 [1, 3, 4, 5, 6, 7]))) (sg c17S1))
noncomputable def c17S2 (_ : Unit) : Cmd := (.ops [
  ⟨some 59, .move (.tmp 6), 3, none⟩,
  ⟨some 5, .assign (.tmp 59), 3, none⟩] [1, 3, 4, 5, 6])
noncomputable def c17S3 (_ : Unit) : Cmd := (.seq (.ops [
 ⟨some 40, .move (.tmp 7), 4, none⟩,
 ⟨some 41, .move (.tmp 40), 4, none⟩,
 ⟨some 42, .move (.tmp 6), 3, (some (41, false))⟩,
 ⟨some 43, .move (.tmp 3), 22, (some (41, false))⟩,
 ⟨some 44, .call ⟨.builtin .len, #[(.tmp 43)], #[22]⟩, 3, (some (41, false))⟩,
 ⟨some 45, .binOp .eql 3 (.tmp 42) (.tmp 44) 3, 4, (some (41, false))⟩,
 ⟨some 46, .pick (.tmp 41) (.const (.bool true)) (.tmp 45), 4, none⟩] [1, 3, 4, 5, 6, 46])
 (.cond (.tmp 46)
  (.seq (.draw (drawOps 1 c17code) [1, 3, 4, 6]) (sg c17S2))
  (.skip [1, 3, 4, 5, 6])))
noncomputable def c17S4 (_ : Unit) : Cmd := (.ops [
 ⟨some 16, .move (.tmp 6), 3, none⟩,
 ⟨some 17, .binOp .add 3 (.tmp 16) (.const (.int .i64 1)) 3, 3, none⟩,
 ⟨some 6, .assign (.tmp 17), 3, none⟩] [1, 3, 4, 5, 6])
noncomputable def c17S5 (_ : Unit) : Cmd := (.seq (.block 1 (.seq (.ops [
 ⟨some 18, .move (.tmp 6), 3, none⟩,
 ⟨some 19, .move (.tmp 3), 22, none⟩,
 ⟨some 20, .call ⟨.builtin .len, #[(.tmp 19)], #[22]⟩, 3, none⟩,
 ⟨some 21, .binOp .lss 3 (.tmp 18) (.tmp 20) 3, 4, none⟩,
 ⟨some 7, .assign (.tmp 21), 4, none⟩] [1, 3, 4, 5, 6, 7])
 (.seq (.seq (.ops [
 ⟨some 22, .move (.tmp 5), 3, none⟩,
 ⟨some 8, .assign (.tmp 22), 3, none⟩] [1, 3, 4, 5, 6, 7, 8])
 (.block 2 (.loop (sg c17L0)))) (sg c17S3)))) (sg c17S4))
noncomputable def c17L1 (_ : Unit) : Cmd := (.seq (.seq (.ops [
 ⟨some 12, .move (.tmp 6), 3, none⟩,
 ⟨some 13, .move (.tmp 3), 22, none⟩,
 ⟨some 14, .call ⟨.builtin .len, #[(.tmp 13)], #[22]⟩, 3, none⟩,
 ⟨some 15, .binOp .leq 3 (.tmp 12) (.tmp 14) 3, 4, none⟩] [1, 3, 4, 5, 6, 15])
 (.cond (.tmp 15)
  (.skip [1, 3, 4, 5, 6])
  (.exit 0 [4]))) (sg c17S5))
noncomputable def c17S6 (_ : Unit) : Cmd := (.seq (.ops [
 ⟨some 60, .move (.tmp 4), 28, none⟩,
 ⟨some 2, .assign (.tmp 60), 28, none⟩] [2])
 .ret)
noncomputable def c17S7 (_ : Unit) : Cmd := (.seq (.ops [
 ⟨some 4, .assign (.const (.slice none 0 0)), 28, none⟩] [1, 3, 4])
 (.seq (.ops [
 ⟨some 5, .assign (.const (.int .i64 0)), 3, none⟩] [1, 3, 4, 5])
 (.seq (.seq (.ops [
 ⟨some 6, .assign (.const (.int .i64 1)), 3, none⟩] [1, 3, 4, 5, 6])
 (.block 0 (.loop (sg c17L1)))) (sg c17S6))))
noncomputable def c17 : Cmd := (.seq (.ops [
 ⟨some 1, .box 24 (.tmp 0), 0, none⟩,
 ⟨some 2, .assign (.const (.slice none 0 0)), 28, none⟩] [1])
 (.seq (.ops [
 ⟨some 9, .fieldAddr 24 (.tmp 1) 2, 0, none⟩,
 ⟨some 10, .load 22 (.tmp 9), 22, none⟩,
 ⟨some 11, .call ⟨.value (.func 38), #[(.tmp 10)], #[22]⟩, 22, none⟩,
 ⟨some 3, .assign (.tmp 11), 22, none⟩] [1, 3]) (sg c17S7)))
noncomputable def c17D0 : List (Nat × Ins) := [
 (0, ⟨some 31, .move (.tmp 3), 22, none⟩),
 (0, ⟨some 32, .move (.tmp 8), 3, none⟩),
 (0, ⟨some 33, .indexAddr 22 (.tmp 31) (.tmp 32), 0, none⟩),
 (0, ⟨some 35, .move (.tmp 3), 22, none⟩),
 (0, ⟨some 36, .move (.tmp 6), 3, none⟩),
 (0, ⟨some 37, .indexAddr 22 (.tmp 35) (.tmp 36), 0, none⟩),
 (1, ⟨some 34, .load 35 (.tmp 33), 35, none⟩),
 (2, ⟨some 38, .load 35 (.tmp 37), 35, none⟩),
 (3, ⟨some 39, .call ⟨.value (.func 23), #[(.tmp 34), (.tmp 38)], #[35, 35]⟩, 4, none⟩),
 (0, ⟨some 7, .assign (.tmp 39), 4, none⟩)]
theorem c17draw0 {L : List Nat} {ρ : Env} {w : World} {Q : Post} (S : World → Prop) (hS : S w.drew) (h : DG Try.prog S c17D0 L ρ w.drew Q) : drawW Try.prog (drawOps 0 c17code) L ρ w Q :=
  drawW_held [3] [(0, 0), (0, 1), (0, 2), (0, 4), (0, 5), (0, 6), (1, 3), (2, 7), (3, 8), (0, 9)] c17D0 (by kernel_rfl) (by kernel_rfl) (by kernel_rfl) S hS h
noncomputable def c17D1 : List (Nat × Ins) := [
 (0, ⟨some 47, .move (.tmp 4), 28, none⟩),
 (0, ⟨some 48, .fieldAddr 24 (.tmp 1) 0, 0, none⟩),
 (0, ⟨some 50, .fieldAddr 24 (.tmp 1) 1, 0, none⟩),
 (0, ⟨some 52, .move (.tmp 3), 22, none⟩),
 (0, ⟨some 53, .move (.tmp 5), 3, none⟩),
 (0, ⟨some 54, .move (.tmp 6), 3, none⟩),
 (0, ⟨some 55, .slice 22 (.tmp 52) (some (.tmp 53)) (some (.tmp 54)) none, 22, none⟩),
 (1, ⟨some 49, .load 3 (.tmp 48), 3, none⟩),
 (2, ⟨some 51, .load 3 (.tmp 50), 3, none⟩),
 (3, ⟨some 56, .build 24 #[(0, (.tmp 49)), (1, (.tmp 51)), (2, (.tmp 55))], 24, none⟩),
 (2, ⟨some 57, .buildSlice 28 1 #[(0, (.tmp 56))], 28, none⟩),
 (2, ⟨some 58, .call ⟨.builtin .append, #[(.tmp 47), (.tmp 57)], #[28, 28]⟩, 28, none⟩),
 (0, ⟨some 4, .assign (.tmp 58), 28, none⟩)]
theorem c17draw1 {L : List Nat} {ρ : Env} {w : World} {Q : Post} (S : World → Prop) (hS : S w.drew) (h : DG Try.prog S c17D1 L ρ w.drew Q) : drawW Try.prog (drawOps 1 c17code) L ρ w Q :=
  drawW_held [2] [(0, 0), (0, 1), (0, 3), (0, 5), (0, 6), (0, 7), (0, 8), (1, 2), (2, 4), (3, 9), (2, 10), (2, 11), (0, 12)] c17D1 (by kernel_rfl) (by kernel_rfl) (by kernel_rfl) S hS h
set_option maxRecDepth 100000 in
theorem ent17 (a0 : Value) (w : World) (K : Value → World → Prop) (h : W Try.prog c17 [(0, a0)] w (finQ Try.prog [.tmp 2] K)) : Ret Try.prog 17 [a0] w K :=
  Ret_of_W (code := c17code) Try.func17 (by kernel_rfl) (by kernel_rfl) (of_decide_eq_true (by kernel_rfl)) h
--SIMP 17 c17 c17S0 c17S1 c17L0 c17S2 c17S3 c17S4 c17S5 c17L1 c17S6 c17S7 TYS 3 22 24 28 35 FNS 23 38
@[go_sem] theorem go17 : goFunc Try.prog 17 = true := by kernel_rfl
/- Function 18: cut.Objects -/
noncomputable def c18code : Code := match Try.f18.body with | some c => c | none => .skip
noncomputable def c18S0 (_ : Unit) : Cmd := (.ops [
  ⟨some 40, .move (.tmp 6), 3, none⟩,
  ⟨some 41, .binOp .add 3 (.tmp 40) (.const (.int .i64 1)) 3, 3, none⟩,
  ⟨some 6, .assign (.tmp 41), 3, none⟩] [3, 5, 6, 11, 12, 13])
noncomputable def c18S1 (_ : Unit) : Cmd := (.cond (.tmp 31)
  (.seq (.ops [
  ⟨some 32, .move (.tmp 3), 28, none⟩,
  ⟨some 33, .fieldAddr 35 (.tmp 5) 2, 0, none⟩,
  ⟨some 34, .load 3 (.tmp 33), 3, none⟩,
  ⟨some 35, .fieldAddr 35 (.tmp 5) 3, 0, none⟩,
  ⟨some 36, .load 3 (.tmp 35), 3, none⟩,
  ⟨some 37, .build 24 #[(0, (.tmp 34)), (1, (.tmp 36))], 24, none⟩,
  ⟨some 38, .buildSlice 28 1 #[(0, (.tmp 37))], 28, none⟩,
  ⟨some 39, .call ⟨.builtin .append, #[(.tmp 32), (.tmp 38)], #[28, 28]⟩, 28, none⟩,
  ⟨some 3, .assign (.tmp 39), 28, none⟩] [3, 5, 6, 11, 12, 13]) (sg c18S0))
  (.skip [3, 5, 6, 11, 12, 13]))
noncomputable def c18S2 (_ : Unit) : Cmd := (.draw (drawOps 1 c18code) [3, 11, 12, 13])
noncomputable def c18S3 (_ : Unit) : Cmd := (.ops [
 ⟨some 54, .binOp .add 3 (.tmp 13) (.const (.int .i64 1)) 3, 3, none⟩,
 ⟨some 13, .move (.tmp 54), 3, none⟩] [3, 11, 12, 13])
noncomputable def c18S4 (_ : Unit) : Cmd := (.seq (.block 1 (.seq (.ops [
 ⟨some 15, .indexAddr 22 (.tmp 11) (.tmp 13), 0, none⟩,
 ⟨some 16, .load 35 (.tmp 15), 35, none⟩,
 ⟨some 5, .alloc 35, 0, none⟩,
 ⟨none, .store 35 (.tmp 5) (.tmp 16), 0, none⟩] [3, 5, 11, 12, 13])
 (.seq (.ops [
 ⟨some 17, .move (.tmp 3), 28, none⟩,
 ⟨some 18, .call ⟨.builtin .len, #[(.tmp 17)], #[28]⟩, 3, none⟩,
 ⟨some 19, .binOp .sub 3 (.tmp 18) (.const (.int .i64 1)) 3, 3, none⟩,
 ⟨some 6, .assign (.tmp 19), 3, none⟩] [3, 5, 6, 11, 12, 13])
 (.seq (.seq (.draw (drawOps 0 c18code) [3, 5, 6, 11, 12, 13, 31]) (sg c18S1)) (sg c18S2))))) (sg c18S3))
noncomputable def c18L0 (_ : Unit) : Cmd := (.seq (.ops [
 ⟨some 14, .binOp .lss 3 (.tmp 13) (.tmp 12) 3, 0, none⟩] [3, 11, 12, 13, 14])
 (.seq (.cond (.tmp 14)
  (.skip [3, 11, 12, 13])
  (.exit 0 [3])) (sg c18S4)))
noncomputable def c18S5 (_ : Unit) : Cmd := (.seq (.ops [
 ⟨some 55, .move (.tmp 3), 28, none⟩,
 ⟨some 2, .assign (.tmp 55), 28, none⟩] [2])
 .ret)
noncomputable def c18S6 (_ : Unit) : Cmd := (.seq (.ops [
 ⟨some 3, .assign (.const (.slice none 0 0)), 28, none⟩] [0, 3])
 (.seq (.seq (.ops [
 ⟨some 11, .move (.tmp 0), 22, none⟩,
 ⟨some 12, .call ⟨.builtin .len, #[(.tmp 11)], #[22]⟩, 3, none⟩,
 ⟨some 13, .move (.const (.int .i64 0)), 3, none⟩] [3, 11, 12, 13])
 (.block 0 (.loop (sg c18L0)))) (sg c18S5)))
noncomputable def c18S7 (_ : Unit) : Cmd := (.seq (.ops [
 ⟨some 9, .move (.tmp 0), 22, none⟩,
 ⟨some 10, .call ⟨.value (.func 35), #[(.tmp 9), (.func 39)], #[22, 62]⟩, 0, none⟩] [0]) (sg c18S6))
noncomputable def c18 : Cmd := (.seq (.ops [
 ⟨some 2, .assign (.const (.slice none 0 0)), 28, none⟩] [0])
 (.seq (.ops [
 ⟨some 7, .move (.tmp 0), 22, none⟩,
 ⟨some 8, .call ⟨.value (.func 34), #[(.tmp 7)], #[22]⟩, 22, none⟩,
 ⟨some 0, .assign (.tmp 8), 22, none⟩] [0]) (sg c18S7)))
noncomputable def c18D0 : List (Bool × Ins) := [
 (true, ⟨some 20, .move (.tmp 6), 3, none⟩),
 (true, ⟨some 21, .binOp .lss 3 (.tmp 20) (.const (.int .i64 0)) 3, 4, none⟩),
 (true, ⟨some 22, .move (.tmp 21), 4, none⟩),
 (true, ⟨some 23, .move (.tmp 3), 28, (some (22, false))⟩),
 (true, ⟨some 24, .move (.tmp 6), 3, (some (22, false))⟩),
 (true, ⟨some 25, .indexAddr 28 (.tmp 23) (.tmp 24), 0, (some (22, false))⟩),
 (true, ⟨some 26, .fieldAddr 24 (.tmp 25) 0, 0, (some (22, false))⟩),
 (false, ⟨some 27, .load 3 (.tmp 26), 3, (some (22, false))⟩),
 (true, ⟨some 28, .fieldAddr 35 (.tmp 5) 2, 0, (some (22, false))⟩),
 (false, ⟨some 29, .load 3 (.tmp 28), 3, (some (22, false))⟩),
 (true, ⟨some 30, .binOp .neq 3 (.tmp 27) (.tmp 29) 3, 4, (some (22, false))⟩),
 (true, ⟨some 31, .pick (.tmp 22) (.const (.bool true)) (.tmp 30), 4, none⟩)]
theorem c18draw0 {L : List Nat} {ρ : Env} {w : World} {Q : Post} (h : DL Try.prog c18D0 L ρ w.drew Q) : drawW Try.prog (drawOps 0 c18code) L ρ w Q :=
  drawW_still [true, true, true, true, true, true, true, false, true, false, true, true] c18D0 (by kernel_rfl) (by kernel_rfl) (by kernel_rfl) h
noncomputable def c18D1 : List (Nat × Ins) := [
 (0, ⟨some 42, .move (.tmp 3), 28, none⟩),
 (0, ⟨some 43, .move (.tmp 6), 3, none⟩),
 (0, ⟨some 44, .move (.tmp 3), 28, none⟩),
 (0, ⟨some 45, .move (.tmp 6), 3, none⟩),
 (0, ⟨some 46, .indexAddr 28 (.tmp 44) (.tmp 45), 0, none⟩),
 (0, ⟨some 47, .fieldAddr 24 (.tmp 46) 2, 0, none⟩),
 (1, ⟨some 48, .load 22 (.tmp 47), 22, none⟩),
 (2, ⟨some 49, .load 35 (.tmp 5), 35, none⟩),
 (2, ⟨some 50, .buildSlice 22 1 #[(0, (.tmp 49))], 22, none⟩),
 (3, ⟨some 51, .call ⟨.builtin .append, #[(.tmp 48), (.tmp 50)], #[22, 22]⟩, 22, none⟩),
 (0, ⟨some 52, .indexAddr 28 (.tmp 42) (.tmp 43), 0, none⟩),
 (0, ⟨some 53, .fieldAddr 24 (.tmp 52) 2, 0, none⟩),
 (3, ⟨none, .store 22 (.tmp 53) (.tmp 51), 0, none⟩)]
theorem c18draw1 {L : List Nat} {ρ : Env} {w : World} {Q : Post} (S : World → Prop) (hS : S w.drew) (h : DG Try.prog S c18D1 L ρ w.drew Q) : drawW Try.prog (drawOps 1 c18code) L ρ w Q :=
  drawW_held [6] [(0, 0), (0, 1), (0, 2), (0, 3), (0, 4), (0, 5), (1, 6), (2, 7), (2, 8), (3, 9), (0, 10), (0, 11), (3, 12)] c18D1 (by kernel_rfl) (by kernel_rfl) (by kernel_rfl) S hS h
set_option maxRecDepth 100000 in
theorem ent18 (a0 : Value) (w : World) (K : Value → World → Prop) (h : W Try.prog c18 [(0, a0)] w (finQ Try.prog [.tmp 2] K)) : Ret Try.prog 18 [a0] w K :=
  Ret_of_W (code := c18code) Try.func18 (by kernel_rfl) (by kernel_rfl) (of_decide_eq_true (by kernel_rfl)) h
--SIMP 18 c18 c18S0 c18S1 c18S2 c18S3 c18S4 c18L0 c18S5 c18S6 c18S7 TYS 3 22 24 28 35 FNS 34 35 39
@[go_sem] theorem go18 : goFunc Try.prog 18 = true := by kernel_rfl
/- Function 19: annalistref14.Objects -/
noncomputable def c19code : Code := match Try.f19.body with | some c => c | none => .skip
noncomputable def c19S0 (_ : Unit) : Cmd := (.ops [
 ⟨some 15, .move (.tmp 8), 3, none⟩,
 ⟨some 16, .binOp .add 3 (.tmp 15) (.const (.int .i64 1)) 3, 3, none⟩,
 ⟨some 8, .assign (.tmp 16), 3, none⟩] [0, 3, 4, 5, 6, 7, 8])
noncomputable def c19S1 (_ : Unit) : Cmd := (.seq (.block 3 (.seq (.ops [
 ⟨some 17, .move (.tmp 5), 4, none⟩,
 ⟨some 18, .unOp .not 4 (.tmp 17), 4, none⟩,
 ⟨some 19, .move (.tmp 18), 4, none⟩,
 ⟨some 20, .move (.tmp 0), 22, (some (19, false))⟩,
 ⟨some 21, .move (.tmp 8), 3, (some (19, false))⟩,
 ⟨some 22, .indexAddr 22 (.tmp 20) (.tmp 21), 0, (some (19, false))⟩,
 ⟨some 23, .fieldAddr 35 (.tmp 22) 2, 0, (some (19, false))⟩,
 ⟨some 24, .load 3 (.tmp 23), 3, (some (19, false))⟩,
 ⟨some 25, .move (.tmp 4), 3, (some (19, false))⟩,
 ⟨some 26, .binOp .gtr 3 (.tmp 24) (.tmp 25) 3, 4, (some (19, false))⟩,
 ⟨some 27, .pick (.tmp 19) (.const (.bool true)) (.tmp 26), 4, none⟩,
 ⟨some 28, .move (.tmp 27), 4, none⟩,
 ⟨some 29, .move (.tmp 7), 4, (some (28, true))⟩,
 ⟨some 30, .unOp .not 4 (.tmp 29), 4, (some (28, true))⟩,
 ⟨some 31, .move (.tmp 30), 4, (some (28, true))⟩,
 ⟨some 32, .move (.tmp 0), 22, (some (31, false))⟩,
 ⟨some 33, .move (.tmp 8), 3, (some (31, false))⟩,
 ⟨some 34, .indexAddr 22 (.tmp 32) (.tmp 33), 0, (some (31, false))⟩,
 ⟨some 35, .fieldAddr 35 (.tmp 34) 2, 0, (some (31, false))⟩,
 ⟨some 36, .load 3 (.tmp 35), 3, (some (31, false))⟩,
 ⟨some 37, .move (.tmp 6), 3, (some (31, false))⟩,
 ⟨some 38, .binOp .lss 3 (.tmp 36) (.tmp 37) 3, 4, (some (31, false))⟩,
 ⟨some 39, .pick (.tmp 31) (.const (.bool true)) (.tmp 38), 4, (some (28, true))⟩,
 ⟨some 40, .pick (.tmp 28) (.tmp 39) (.const (.bool false)), 4, none⟩] [0, 3, 4, 5, 6, 7, 8, 40])
 (.cond (.tmp 40)
  (.ops [
  ⟨some 41, .move (.tmp 0), 22, none⟩,
  ⟨some 42, .move (.tmp 8), 3, none⟩,
  ⟨some 43, .indexAddr 22 (.tmp 41) (.tmp 42), 0, none⟩,
  ⟨some 44, .fieldAddr 35 (.tmp 43) 2, 0, none⟩,
  ⟨some 45, .load 3 (.tmp 44), 3, none⟩,
  ⟨some 6, .assign (.tmp 45), 3, none⟩,
  ⟨some 7, .assign (.const (.bool true)), 4, none⟩] [0, 3, 4, 5, 6, 7, 8])
  (.skip [0, 3, 4, 5, 6, 7, 8])))) (sg c19S0))
noncomputable def c19L0 (_ : Unit) : Cmd := (.seq (.seq (.ops [
 ⟨some 11, .move (.tmp 8), 3, none⟩,
 ⟨some 12, .move (.tmp 0), 22, none⟩,
 ⟨some 13, .call ⟨.builtin .len, #[(.tmp 12)], #[22]⟩, 3, none⟩,
 ⟨some 14, .binOp .lss 3 (.tmp 11) (.tmp 13) 3, 4, none⟩] [0, 3, 4, 5, 6, 7, 8, 14])
 (.cond (.tmp 14)
  (.skip [0, 3, 4, 5, 6, 7, 8])
  (.exit 2 [0, 3, 6, 7]))) (sg c19S1))
noncomputable def c19S2 (_ : Unit) : Cmd := (.ops [
 ⟨some 53, .move (.tmp 10), 3, none⟩,
 ⟨some 54, .binOp .add 3 (.tmp 53) (.const (.int .i64 1)) 3, 3, none⟩,
 ⟨some 10, .assign (.tmp 54), 3, none⟩] [0, 3, 6, 9, 10])
noncomputable def c19S3 (_ : Unit) : Cmd := (.seq (.block 5 (.seq (.ops [
 ⟨some 55, .move (.tmp 0), 22, none⟩,
 ⟨some 56, .move (.tmp 10), 3, none⟩,
 ⟨some 57, .indexAddr 22 (.tmp 55) (.tmp 56), 0, none⟩,
 ⟨some 58, .fieldAddr 35 (.tmp 57) 2, 0, none⟩,
 ⟨some 59, .load 3 (.tmp 58), 3, none⟩,
 ⟨some 60, .move (.tmp 6), 3, none⟩,
 ⟨some 61, .binOp .eql 3 (.tmp 59) (.tmp 60) 3, 4, none⟩] [0, 3, 6, 9, 10, 61])
 (.cond (.tmp 61)
  (.ops [
  ⟨some 62, .move (.tmp 9), 22, none⟩,
  ⟨some 63, .move (.tmp 0), 22, none⟩,
  ⟨some 64, .move (.tmp 10), 3, none⟩,
  ⟨some 65, .indexAddr 22 (.tmp 63) (.tmp 64), 0, none⟩,
  ⟨some 66, .load 35 (.tmp 65), 35, none⟩,
  ⟨some 67, .buildSlice 22 1 #[(0, (.tmp 66))], 22, none⟩,
  ⟨some 68, .call ⟨.builtin .append, #[(.tmp 62), (.tmp 67)], #[22, 22]⟩, 22, none⟩,
  ⟨some 9, .assign (.tmp 68), 22, none⟩] [0, 3, 6, 9, 10])
  (.skip [0, 3, 6, 9, 10])))) (sg c19S2))
noncomputable def c19L1 (_ : Unit) : Cmd := (.seq (.seq (.ops [
 ⟨some 49, .move (.tmp 10), 3, none⟩,
 ⟨some 50, .move (.tmp 0), 22, none⟩,
 ⟨some 51, .call ⟨.builtin .len, #[(.tmp 50)], #[22]⟩, 3, none⟩,
 ⟨some 52, .binOp .lss 3 (.tmp 49) (.tmp 51) 3, 4, none⟩] [0, 3, 6, 9, 10, 52])
 (.cond (.tmp 52)
  (.skip [0, 3, 6, 9, 10])
  (.exit 4 [0, 3, 6, 9]))) (sg c19S3))
noncomputable def c19S4 (_ : Unit) : Cmd := (.ops [
 ⟨some 81, .move (.tmp 6), 3, none⟩,
 ⟨some 4, .assign (.tmp 81), 3, none⟩,
 ⟨some 5, .assign (.const (.bool true)), 4, none⟩] [0, 3, 4, 5])
noncomputable def c19S5 (_ : Unit) : Cmd := (.seq (.ops [
 ⟨some 71, .move (.tmp 3), 28, none⟩,
 ⟨some 72, .move (.tmp 6), 3, none⟩,
 ⟨some 73, .move (.tmp 9), 22, none⟩,
 ⟨some 74, .indexAddr 22 (.tmp 73) (.const (.int .i64 0)), 0, none⟩,
 ⟨some 75, .fieldAddr 35 (.tmp 74) 3, 0, none⟩,
 ⟨some 76, .load 3 (.tmp 75), 3, none⟩,
 ⟨some 77, .move (.tmp 9), 22, none⟩,
 ⟨some 78, .build 24 #[(0, (.tmp 72)), (1, (.tmp 76)), (2, (.tmp 77))], 24, none⟩,
 ⟨some 79, .buildSlice 28 1 #[(0, (.tmp 78))], 28, none⟩,
 ⟨some 80, .call ⟨.builtin .append, #[(.tmp 71), (.tmp 79)], #[28, 28]⟩, 28, none⟩,
 ⟨some 3, .assign (.tmp 80), 28, none⟩] [0, 3, 6]) (sg c19S4))
noncomputable def c19S6 (_ : Unit) : Cmd := (.seq (.ops [
 ⟨some 69, .move (.tmp 9), 22, none⟩,
 ⟨some 70, .call ⟨.value (.func 38), #[(.tmp 69)], #[22]⟩, 22, none⟩,
 ⟨some 9, .assign (.tmp 70), 22, none⟩] [0, 3, 6, 9]) (sg c19S5))
noncomputable def c19S7 (_ : Unit) : Cmd := (.seq (.ops [
 ⟨some 9, .assign (.const (.slice none 0 0)), 22, none⟩] [0, 3, 6, 9])
 (.seq (.seq (.ops [
 ⟨some 10, .assign (.const (.int .i64 0)), 3, none⟩] [0, 3, 6, 9, 10])
 (.block 4 (.loop (sg c19L1)))) (sg c19S6)))
noncomputable def c19S8 (_ : Unit) : Cmd := (.seq (.seq (.ops [
 ⟨some 46, .move (.tmp 7), 4, none⟩,
 ⟨some 47, .unOp .not 4 (.tmp 46), 4, none⟩] [0, 3, 6, 47])
 (.cond (.tmp 47)
  (.seq (.ops [
  ⟨some 48, .move (.tmp 3), 28, none⟩,
  ⟨some 2, .assign (.tmp 48), 28, none⟩] [2])
  .ret)
  (.skip [0, 3, 6]))) (sg c19S7))
noncomputable def c19L2 (_ : Unit) : Cmd := (.block 1 (.seq (.ops [
 ⟨some 6, .assign (.const (.int .i64 0)), 3, none⟩,
 ⟨some 7, .assign (.const (.bool false)), 4, none⟩] [0, 3, 4, 5, 6, 7])
 (.seq (.seq (.ops [
 ⟨some 8, .assign (.const (.int .i64 0)), 3, none⟩] [0, 3, 4, 5, 6, 7, 8])
 (.block 2 (.loop (sg c19L0)))) (sg c19S8))))
noncomputable def c19 : Cmd := (.seq (.ops [
 ⟨some 2, .assign (.const (.slice none 0 0)), 28, none⟩] [0])
 (.seq (.ops [
 ⟨some 3, .assign (.const (.slice none 0 0)), 28, none⟩] [0, 3])
 (.seq (.ops [
 ⟨some 4, .assign (.const (.int .i64 0)), 3, none⟩,
 ⟨some 5, .assign (.const (.bool false)), 4, none⟩] [0, 3, 4, 5])
 (.block 0 (.loop (sg c19L2))))))
set_option maxRecDepth 100000 in
theorem ent19 (a0 : Value) (w : World) (K : Value → World → Prop) (h : W Try.prog c19 [(0, a0)] w (finQ Try.prog [.tmp 2] K)) : Ret Try.prog 19 [a0] w K :=
  Ret_of_W (code := c19code) Try.func19 (by kernel_rfl) (by kernel_rfl) (of_decide_eq_true (by kernel_rfl)) h
--SIMP 19 c19 c19S0 c19S1 c19L0 c19S2 c19S3 c19L1 c19S4 c19S5 c19S6 c19S7 c19S8 c19L2 TYS 3 22 24 28 35 FNS 38
@[go_sem] theorem go19 : goFunc Try.prog 19 = true := by kernel_rfl
/- Function 20: annalistref12.Check -/
noncomputable def c20code : Code := match Try.f20.body with | some c => c | none => .skip
noncomputable def c20S0 (_ : Unit) : Cmd := (.cond (.tmp 39)
  (.seq (.ops [
  ⟨some 2, .assign (.const (.int .i64 7)), 3, none⟩] [2])
  .ret)
  (.skip [0, 3]))
noncomputable def c20S1 (_ : Unit) : Cmd := (.seq (.draw (drawOps 0 c20code) [0, 3, 39]) (sg c20S0))
noncomputable def c20S2 (_ : Unit) : Cmd := (.seq (.seq (.ops [
 ⟨some 21, .move (.tmp 4), 3, none⟩,
 ⟨some 22, .binOp .neq 3 (.tmp 21) (.const (.int .i64 0)) 3, 4, none⟩] [0, 3, 4, 22])
 (.cond (.tmp 22)
  (.seq (.ops [
  ⟨some 23, .move (.tmp 4), 3, none⟩,
  ⟨some 2, .assign (.tmp 23), 3, none⟩] [2])
  .ret)
  (.skip [0, 3]))) (sg c20S1))
noncomputable def c20S3 (_ : Unit) : Cmd := (.ops [
 ⟨some 14, .move (.tmp 3), 3, none⟩,
 ⟨some 15, .binOp .add 3 (.tmp 14) (.const (.int .i64 1)) 3, 3, none⟩,
 ⟨some 3, .assign (.tmp 15), 3, none⟩] [0, 3])
noncomputable def c20S4 (_ : Unit) : Cmd := (.seq (.block 1 (.seq (.ops [
 ⟨some 16, .move (.tmp 0), 22, none⟩,
 ⟨some 17, .move (.tmp 3), 3, none⟩,
 ⟨some 18, .indexAddr 22 (.tmp 16) (.tmp 17), 0, none⟩,
 ⟨some 19, .load 35 (.tmp 18), 35, none⟩,
 ⟨some 20, .call ⟨.value (.func 42), #[(.tmp 19)], #[35]⟩, 3, none⟩,
 ⟨some 4, .assign (.tmp 20), 3, none⟩] [0, 3, 4]) (sg c20S2))) (sg c20S3))
noncomputable def c20L0 (_ : Unit) : Cmd := (.seq (.seq (.ops [
 ⟨some 10, .move (.tmp 3), 3, none⟩,
 ⟨some 11, .move (.tmp 0), 22, none⟩,
 ⟨some 12, .call ⟨.builtin .len, #[(.tmp 11)], #[22]⟩, 3, none⟩,
 ⟨some 13, .binOp .lss 3 (.tmp 10) (.tmp 12) 3, 4, none⟩] [0, 3, 13])
 (.cond (.tmp 13)
  (.skip [0, 3])
  (.exit 0 [0]))) (sg c20S4))
noncomputable def c20S5 (_ : Unit) : Cmd := (.seq (.ops [
 ⟨some 52, .move (.tmp 6), 3, none⟩,
 ⟨some 53, .binOp .neq 3 (.tmp 52) (.const (.int .i64 0)) 3, 4, none⟩] [0, 5, 6, 53])
 (.cond (.tmp 53)
  (.seq (.ops [
  ⟨some 54, .move (.tmp 6), 3, none⟩,
  ⟨some 2, .assign (.tmp 54), 3, none⟩] [2])
  .ret)
  (.skip [0, 5])))
noncomputable def c20S6 (_ : Unit) : Cmd := (.ops [
 ⟨some 44, .move (.tmp 5), 3, none⟩,
 ⟨some 45, .binOp .add 3 (.tmp 44) (.const (.int .i64 1)) 3, 3, none⟩,
 ⟨some 5, .assign (.tmp 45), 3, none⟩] [0, 5])
noncomputable def c20S7 (_ : Unit) : Cmd := (.seq (.block 3 (.seq (.ops [
 ⟨some 46, .move (.tmp 0), 22, none⟩,
 ⟨some 47, .move (.tmp 0), 22, none⟩,
 ⟨some 48, .move (.tmp 5), 3, none⟩,
 ⟨some 49, .indexAddr 22 (.tmp 47) (.tmp 48), 0, none⟩,
 ⟨some 50, .load 35 (.tmp 49), 35, none⟩,
 ⟨some 51, .call ⟨.value (.func 43), #[(.tmp 46), (.tmp 50)], #[22, 35]⟩, 3, none⟩,
 ⟨some 6, .assign (.tmp 51), 3, none⟩] [0, 5, 6]) (sg c20S5))) (sg c20S6))
noncomputable def c20L1 (_ : Unit) : Cmd := (.seq (.seq (.ops [
 ⟨some 40, .move (.tmp 5), 3, none⟩,
 ⟨some 41, .move (.tmp 0), 22, none⟩,
 ⟨some 42, .call ⟨.builtin .len, #[(.tmp 41)], #[22]⟩, 3, none⟩,
 ⟨some 43, .binOp .lss 3 (.tmp 40) (.tmp 42) 3, 4, none⟩] [0, 5, 43])
 (.cond (.tmp 43)
  (.skip [0, 5])
  (.exit 2 []))) (sg c20S7))
noncomputable def c20S8 (_ : Unit) : Cmd := (.seq (.ops [
 ⟨some 2, .assign (.const (.int .i64 0)), 3, none⟩] [2])
 .ret)
noncomputable def c20S9 (_ : Unit) : Cmd := (.seq (.seq (.ops [
 ⟨some 5, .assign (.const (.int .i64 0)), 3, none⟩] [0, 5])
 (.block 2 (.loop (sg c20L1)))) (sg c20S8))
noncomputable def c20S10 (_ : Unit) : Cmd := (.seq (.seq (.ops [
 ⟨some 3, .assign (.const (.int .i64 0)), 3, none⟩] [0, 3])
 (.block 0 (.loop (sg c20L0)))) (sg c20S9))
noncomputable def c20 : Cmd := (.seq (.ops [
 ⟨some 2, .assign (.const (.int .i64 0)), 3, none⟩] [0])
 (.seq (.seq (.ops [
 ⟨some 7, .move (.tmp 0), 22, none⟩,
 ⟨some 8, .call ⟨.builtin .len, #[(.tmp 7)], #[22]⟩, 3, none⟩,
 ⟨some 9, .binOp .gtr 3 (.tmp 8) (.const (.int .i64 64)) 3, 4, none⟩] [0, 9])
 (.cond (.tmp 9)
  (.seq (.ops [
  ⟨some 2, .assign (.const (.int .i64 34)), 3, none⟩] [2])
  .ret)
  (.skip [0]))) (sg c20S10)))
noncomputable def c20D0 : List (Bool × Ins) := [
 (true, ⟨some 24, .move (.tmp 3), 3, none⟩),
 (true, ⟨some 25, .binOp .gtr 3 (.tmp 24) (.const (.int .i64 0)) 3, 4, none⟩),
 (true, ⟨some 26, .move (.tmp 25), 4, none⟩),
 (true, ⟨some 27, .move (.tmp 0), 22, (some (26, true))⟩),
 (true, ⟨some 28, .move (.tmp 3), 3, (some (26, true))⟩),
 (true, ⟨some 29, .indexAddr 22 (.tmp 27) (.tmp 28), 0, (some (26, true))⟩),
 (true, ⟨some 30, .fieldAddr 35 (.tmp 29) 0, 0, (some (26, true))⟩),
 (false, ⟨some 31, .load 3 (.tmp 30), 3, (some (26, true))⟩),
 (true, ⟨some 32, .move (.tmp 0), 22, (some (26, true))⟩),
 (true, ⟨some 33, .move (.tmp 3), 3, (some (26, true))⟩),
 (true, ⟨some 34, .binOp .sub 3 (.tmp 33) (.const (.int .i64 1)) 3, 3, (some (26, true))⟩),
 (true, ⟨some 35, .indexAddr 22 (.tmp 32) (.tmp 34), 0, (some (26, true))⟩),
 (true, ⟨some 36, .fieldAddr 35 (.tmp 35) 0, 0, (some (26, true))⟩),
 (false, ⟨some 37, .load 3 (.tmp 36), 3, (some (26, true))⟩),
 (true, ⟨some 38, .binOp .leq 3 (.tmp 31) (.tmp 37) 3, 4, (some (26, true))⟩),
 (true, ⟨some 39, .pick (.tmp 26) (.tmp 38) (.const (.bool false)), 4, none⟩)]
theorem c20draw0 {L : List Nat} {ρ : Env} {w : World} {Q : Post} (h : DL Try.prog c20D0 L ρ w.drew Q) : drawW Try.prog (drawOps 0 c20code) L ρ w Q :=
  drawW_still [true, true, true, true, true, true, true, false, true, true, true, true, true, false, true, true] c20D0 (by kernel_rfl) (by kernel_rfl) (by kernel_rfl) h
set_option maxRecDepth 100000 in
theorem ent20 (a0 : Value) (w : World) (K : Value → World → Prop) (h : W Try.prog c20 [(0, a0)] w (finQ Try.prog [.tmp 2] K)) : Ret Try.prog 20 [a0] w K :=
  Ret_of_W (code := c20code) Try.func20 (by kernel_rfl) (by kernel_rfl) (of_decide_eq_true (by kernel_rfl)) h
--SIMP 20 c20 c20S0 c20S1 c20S2 c20S3 c20S4 c20L0 c20S5 c20S6 c20S7 c20L1 c20S8 c20S9 c20S10 TYS 3 22 35 FNS 42 43
@[go_sem] theorem go20 : goFunc Try.prog 20 = true := by kernel_rfl
/- Function 21: annalistref10.Ops -/
noncomputable def c21code : Code := match Try.f21.body with | some c => c | none => .skip
noncomputable def c21S0 (_ : Unit) : Cmd := (.cond (.tmp 25)
  (.seq (.ops [
  ⟨some 4, .assign (.const (.bool false)), 4, none⟩] [4])
  .ret)
  (.skip [0, 1, 5]))
noncomputable def c21S1 (_ : Unit) : Cmd := (.ops [
 ⟨some 15, .move (.tmp 5), 3, none⟩,
 ⟨some 16, .binOp .add 3 (.tmp 15) (.const (.int .i64 1)) 3, 3, none⟩,
 ⟨some 5, .assign (.tmp 16), 3, none⟩] [0, 1, 5])
noncomputable def c21S2 (_ : Unit) : Cmd := (.seq (.block 1 (.seq (.draw (drawOps 0 c21code) [0, 1, 5, 25]) (sg c21S0))) (sg c21S1))
noncomputable def c21L0 (_ : Unit) : Cmd := (.seq (.seq (.ops [
 ⟨some 11, .move (.tmp 5), 3, none⟩,
 ⟨some 12, .move (.tmp 0), 22, none⟩,
 ⟨some 13, .call ⟨.builtin .len, #[(.tmp 12)], #[22]⟩, 3, none⟩,
 ⟨some 14, .binOp .lss 3 (.tmp 11) (.tmp 13) 3, 4, none⟩] [0, 1, 5, 14])
 (.cond (.tmp 14)
  (.skip [0, 1, 5])
  (.exit 0 []))) (sg c21S2))
noncomputable def c21S3 (_ : Unit) : Cmd := (.seq (.ops [
 ⟨some 4, .assign (.const (.bool true)), 4, none⟩] [4])
 .ret)
noncomputable def c21S4 (_ : Unit) : Cmd := (.seq (.seq (.ops [
 ⟨some 5, .assign (.const (.int .i64 0)), 3, none⟩] [0, 1, 5])
 (.block 0 (.loop (sg c21L0)))) (sg c21S3))
noncomputable def c21 : Cmd := (.seq (.ops [
 ⟨some 4, .assign (.const (.bool false)), 4, none⟩] [0, 1])
 (.seq (.seq (.ops [
 ⟨some 6, .move (.tmp 0), 22, none⟩,
 ⟨some 7, .call ⟨.builtin .len, #[(.tmp 6)], #[22]⟩, 3, none⟩,
 ⟨some 8, .move (.tmp 1), 22, none⟩,
 ⟨some 9, .call ⟨.builtin .len, #[(.tmp 8)], #[22]⟩, 3, none⟩,
 ⟨some 10, .binOp .neq 3 (.tmp 7) (.tmp 9) 3, 4, none⟩] [0, 1, 10])
 (.cond (.tmp 10)
  (.seq (.ops [
  ⟨some 4, .assign (.const (.bool false)), 4, none⟩] [4])
  .ret)
  (.skip [0, 1]))) (sg c21S4)))
noncomputable def c21D0 : List (Bool × Ins) := [
 (true, ⟨some 17, .move (.tmp 0), 22, none⟩),
 (true, ⟨some 18, .move (.tmp 5), 3, none⟩),
 (true, ⟨some 19, .indexAddr 22 (.tmp 17) (.tmp 18), 0, none⟩),
 (false, ⟨some 20, .load 35 (.tmp 19), 35, none⟩),
 (true, ⟨some 21, .move (.tmp 1), 22, none⟩),
 (true, ⟨some 22, .move (.tmp 5), 3, none⟩),
 (true, ⟨some 23, .indexAddr 22 (.tmp 21) (.tmp 22), 0, none⟩),
 (false, ⟨some 24, .load 35 (.tmp 23), 35, none⟩),
 (true, ⟨some 25, .binOp .neq 35 (.tmp 20) (.tmp 24) 35, 4, none⟩)]
theorem c21draw0 {L : List Nat} {ρ : Env} {w : World} {Q : Post} (h : DL Try.prog c21D0 L ρ w.drew Q) : drawW Try.prog (drawOps 0 c21code) L ρ w Q :=
  drawW_still [true, true, true, false, true, true, true, false, true] c21D0 (by kernel_rfl) (by kernel_rfl) (by kernel_rfl) h
set_option maxRecDepth 100000 in
theorem ent21 (a0 a1 : Value) (w : World) (K : Value → World → Prop) (h : W Try.prog c21 [(0, a0), (1, a1)] w (finQ Try.prog [.tmp 4] K)) : Ret Try.prog 21 [a0, a1] w K :=
  Ret_of_W (code := c21code) Try.func21 (by kernel_rfl) (by kernel_rfl) (of_decide_eq_true (by kernel_rfl)) h
--SIMP 21 c21 c21S0 c21S1 c21S2 c21L0 c21S3 c21S4 TYS 3 22 35 FNS 
@[go_sem] theorem go21 : goFunc Try.prog 21 = true := by kernel_rfl
/- Function 22: annalistref12.Get -/
noncomputable def c22code : Code := match Try.f22.body with | some c => c | none => .skip
noncomputable def c22S0 (_ : Unit) : Cmd := (.ops [
 ⟨some 11, .move (.tmp 6), 3, none⟩,
 ⟨some 12, .binOp .add 3 (.tmp 11) (.const (.int .i64 1)) 3, 3, none⟩,
 ⟨some 6, .assign (.tmp 12), 3, none⟩] [0, 1, 4, 6])
noncomputable def c22S1 (_ : Unit) : Cmd := (.seq (.block 1 (.seq (.ops [
 ⟨some 13, .move (.tmp 0), 22, none⟩,
 ⟨some 14, .move (.tmp 6), 3, none⟩,
 ⟨some 15, .indexAddr 22 (.tmp 13) (.tmp 14), 0, none⟩,
 ⟨some 16, .fieldAddr 35 (.tmp 15) 0, 0, none⟩,
 ⟨some 17, .load 3 (.tmp 16), 3, none⟩,
 ⟨some 18, .move (.tmp 1), 3, none⟩,
 ⟨some 19, .binOp .eql 3 (.tmp 17) (.tmp 18) 3, 4, none⟩] [0, 1, 4, 6, 19])
 (.cond (.tmp 19)
  (.seq (.ops [
  ⟨some 20, .move (.tmp 0), 22, none⟩,
  ⟨some 21, .move (.tmp 6), 3, none⟩,
  ⟨some 22, .indexAddr 22 (.tmp 20) (.tmp 21), 0, none⟩,
  ⟨some 23, .load 35 (.tmp 22), 35, none⟩,
  ⟨none, .store 35 (.tmp 4) (.tmp 23), 0, none⟩,
  ⟨some 5, .assign (.const (.bool true)), 4, none⟩] [4, 5])
  .ret)
  (.skip [0, 1, 4, 6])))) (sg c22S0))
noncomputable def c22L0 (_ : Unit) : Cmd := (.seq (.seq (.ops [
 ⟨some 7, .move (.tmp 6), 3, none⟩,
 ⟨some 8, .move (.tmp 0), 22, none⟩,
 ⟨some 9, .call ⟨.builtin .len, #[(.tmp 8)], #[22]⟩, 3, none⟩,
 ⟨some 10, .binOp .lss 3 (.tmp 7) (.tmp 9) 3, 4, none⟩] [0, 1, 4, 6, 10])
 (.cond (.tmp 10)
  (.skip [0, 1, 4, 6])
  (.exit 0 [4]))) (sg c22S1))
noncomputable def c22S2 (_ : Unit) : Cmd := (.seq (.ops [
 ⟨some 24, .build 35 #[], 35, none⟩,
 ⟨none, .store 35 (.tmp 4) (.tmp 24), 0, none⟩,
 ⟨some 5, .assign (.const (.bool false)), 4, none⟩] [4, 5])
 .ret)
noncomputable def c22 : Cmd := (.seq (.ops [
 ⟨some 4, .alloc 35, 0, none⟩,
 ⟨some 5, .assign (.const (.bool false)), 4, none⟩] [0, 1, 4])
 (.seq (.seq (.ops [
 ⟨some 6, .assign (.const (.int .i64 0)), 3, none⟩] [0, 1, 4, 6])
 (.block 0 (.loop (sg c22L0)))) (sg c22S2)))
set_option maxRecDepth 100000 in
theorem ent22 (a0 a1 : Value) (w : World) (K : Value → World → Prop) (h : W Try.prog c22 [(0, a0), (1, a1)] w (finQ Try.prog [.cell 4 35, .tmp 5] K)) : Ret Try.prog 22 [a0, a1] w K :=
  Ret_of_W (code := c22code) Try.func22 (by kernel_rfl) (by kernel_rfl) (of_decide_eq_true (by kernel_rfl)) h
--SIMP 22 c22 c22S0 c22S1 c22L0 c22S2 TYS 3 22 35 FNS 
@[go_sem] theorem go22 : goFunc Try.prog 22 = true := by kernel_rfl
/- Function 23: annalistref10.Before -/
noncomputable def c23code : Code := match Try.f23.body with | some c => c | none => .skip
noncomputable def c23 : Cmd := (.seq (.ops [
 ⟨some 2, .box 35 (.tmp 0), 0, none⟩,
 ⟨some 3, .box 35 (.tmp 1), 0, none⟩,
 ⟨some 4, .assign (.const (.bool false)), 4, none⟩] [2, 3])
 (.seq (.ops [
 ⟨some 5, .fieldAddr 35 (.tmp 2) 7, 0, none⟩,
 ⟨some 6, .load 4 (.tmp 5), 4, none⟩,
 ⟨some 7, .move (.tmp 6), 4, none⟩,
 ⟨some 8, .fieldAddr 35 (.tmp 2) 10, 0, (some (7, true))⟩,
 ⟨some 9, .load 3 (.tmp 8), 3, (some (7, true))⟩,
 ⟨some 10, .fieldAddr 35 (.tmp 3) 9, 0, (some (7, true))⟩,
 ⟨some 11, .load 3 (.tmp 10), 3, (some (7, true))⟩,
 ⟨some 12, .binOp .lss 3 (.tmp 9) (.tmp 11) 3, 4, (some (7, true))⟩,
 ⟨some 13, .pick (.tmp 7) (.tmp 12) (.const (.bool false)), 4, none⟩,
 ⟨some 4, .assign (.tmp 13), 4, none⟩] [4])
 .ret))
set_option maxRecDepth 100000 in
theorem ent23 (a0 a1 : Value) (w : World) (K : Value → World → Prop) (h : W Try.prog c23 [(0, a0), (1, a1)] w (finQ Try.prog [.tmp 4] K)) : Ret Try.prog 23 [a0, a1] w K :=
  Ret_of_W (code := c23code) Try.func23 (by kernel_rfl) (by kernel_rfl) (of_decide_eq_true (by kernel_rfl)) h
--SIMP 23 c23 TYS 3 4 35 FNS 
@[go_sem] theorem go23 : goFunc Try.prog 23 = true := by kernel_rfl
/- Function 34: slices.Clone[[]api.Op,api.Op] -/
noncomputable def c34code : Code := match Try.f34.body with | some c => c | none => .skip
noncomputable def c34S0 (_ : Unit) : Cmd := .ret
noncomputable def c34S1 (_ : Unit) : Cmd := (.seq (.ops [
 ⟨some 5, .buildSlice 22 0 #[], 22, none⟩,
 ⟨some 6, .move (.tmp 0), 22, none⟩,
 ⟨some 7, .call ⟨.builtin .append, #[(.tmp 5), (.tmp 6)], #[22, 22]⟩, 22, none⟩,
 ⟨some 2, .assign (.tmp 7), 22, none⟩] [2]) (sg c34S0))
noncomputable def c34 : Cmd := (.seq (.ops [
 ⟨some 2, .assign (.const (.slice none 0 0)), 22, none⟩] [0])
 (.seq (.seq (.ops [
 ⟨some 3, .move (.tmp 0), 22, none⟩,
 ⟨some 4, .binOp .eql 22 (.tmp 3) (.const (.slice none 0 0)) 22, 4, none⟩] [0, 4])
 (.cond (.tmp 4)
  (.seq (.ops [
  ⟨some 2, .assign (.const (.slice none 0 0)), 22, none⟩] [2])
  .ret)
  (.skip [0]))) (sg c34S1)))
set_option maxRecDepth 100000 in
theorem ent34 (a0 : Value) (w : World) (K : Value → World → Prop) (h : W Try.prog c34 [(0, a0)] w (finQ Try.prog [.tmp 2] K)) : Ret Try.prog 34 [a0] w K :=
  Ret_of_W (code := c34code) Try.func34 (by kernel_rfl) (by kernel_rfl) (of_decide_eq_true (by kernel_rfl)) h
--SIMP 34 c34 c34S0 c34S1 TYS 22 FNS 
@[go_sem] theorem go34 : goFunc Try.prog 34 = true := by kernel_rfl
/- Function 35: slices.SortFunc[[]api.Op,api.Op] -/
noncomputable def c35code : Code := match Try.f35.body with | some c => c | none => .skip
noncomputable def c35 : Cmd := (.seq (.ops [
 ⟨some 5, .move (.tmp 0), 22, none⟩,
 ⟨some 6, .call ⟨.builtin .len, #[(.tmp 5)], #[22]⟩, 3, none⟩,
 ⟨some 4, .assign (.tmp 6), 3, none⟩] [0, 1, 4])
 (.ops [
 ⟨some 7, .move (.tmp 0), 22, none⟩,
 ⟨some 8, .move (.tmp 4), 3, none⟩,
 ⟨some 9, .move (.tmp 4), 3, none⟩,
 ⟨some 10, .convert 3 84 (.tmp 9), 84, none⟩,
 ⟨some 11, .call ⟨.value (.func 66), #[(.tmp 10)], #[84]⟩, 3, none⟩,
 ⟨some 12, .move (.tmp 1), 62, none⟩,
 ⟨some 13, .call ⟨.value (.func 65), #[(.tmp 7), (.const (.int .i64 0)), (.tmp 8), (.tmp 11), (.tmp 12)], #[22, 3, 3, 3, 62]⟩, 0, none⟩] []))
set_option maxRecDepth 100000 in
theorem ent35 (a0 a1 : Value) (w : World) (K : Value → World → Prop) (h : W Try.prog c35 [(0, a0), (1, a1)] w (finQ Try.prog [] K)) : Ret Try.prog 35 [a0, a1] w K :=
  Ret_of_W (code := c35code) Try.func35 (by kernel_rfl) (by kernel_rfl) (of_decide_eq_true (by kernel_rfl)) h
--SIMP 35 c35 TYS 3 22 84 FNS 65 66
@[go_sem] theorem go35 : goFunc Try.prog 35 = true := by kernel_rfl
/- Function 36: cut.earlier -/
noncomputable def c36code : Code := match Try.f36.body with | some c => c | none => .skip
noncomputable def c36S0 (_ : Unit) : Cmd := .ret
noncomputable def c36 : Cmd := (.seq (.ops [
 ⟨some 2, .box 35 (.tmp 0), 0, none⟩,
 ⟨some 3, .box 35 (.tmp 1), 0, none⟩,
 ⟨some 4, .assign (.const (.int .i64 0)), 3, none⟩] [2, 3])
 (.seq (.draw (drawOps 0 c36code) [4]) (sg c36S0)))
noncomputable def c36D0 : List (Nat × Ins) := [
 (0, ⟨some 5, .fieldAddr 35 (.tmp 2) 9, 0, none⟩),
 (0, ⟨some 7, .fieldAddr 35 (.tmp 3) 9, 0, none⟩),
 (0, ⟨some 10, .fieldAddr 35 (.tmp 2) 0, 0, none⟩),
 (0, ⟨some 12, .fieldAddr 35 (.tmp 3) 0, 0, none⟩),
 (1, ⟨some 6, .load 3 (.tmp 5), 3, none⟩),
 (1, ⟨some 8, .load 3 (.tmp 7), 3, none⟩),
 (1, ⟨some 11, .load 3 (.tmp 10), 3, none⟩),
 (1, ⟨some 13, .load 3 (.tmp 12), 3, none⟩),
 (2, ⟨some 9, .call ⟨.value (.func 41), #[(.tmp 6), (.tmp 8)], #[3, 3]⟩, 3, none⟩),
 (2, ⟨some 14, .call ⟨.value (.func 41), #[(.tmp 11), (.tmp 13)], #[3, 3]⟩, 3, none⟩),
 (2, ⟨some 15, .buildSlice 49 2 #[(0, (.tmp 9)), (1, (.tmp 14))], 49, none⟩),
 (2, ⟨some 16, .call ⟨.value (.func 40), #[(.tmp 15)], #[49]⟩, 3, none⟩),
 (0, ⟨some 4, .assign (.tmp 16), 3, none⟩)]
theorem c36draw0 {L : List Nat} {ρ : Env} {w : World} {Q : Post} (S : World → Prop) (hS : S w.drew) (h : DG Try.prog S c36D0 L ρ w.drew Q) : drawW Try.prog (drawOps 0 c36code) L ρ w Q :=
  drawW_held [1, 3, 6, 8] [(0, 0), (0, 2), (0, 5), (0, 7), (1, 1), (1, 3), (1, 6), (1, 8), (2, 4), (2, 9), (2, 10), (2, 11), (0, 12)] c36D0 (by kernel_rfl) (by kernel_rfl) (by kernel_rfl) S hS h
set_option maxRecDepth 100000 in
theorem ent36 (a0 a1 : Value) (w : World) (K : Value → World → Prop) (h : W Try.prog c36 [(0, a0), (1, a1)] w (finQ Try.prog [.tmp 4] K)) : Ret Try.prog 36 [a0, a1] w K :=
  Ret_of_W (code := c36code) Try.func36 (by kernel_rfl) (by kernel_rfl) (of_decide_eq_true (by kernel_rfl)) h
--SIMP 36 c36 c36S0 TYS 3 35 49 FNS 40 41
@[go_sem] theorem go36 : goFunc Try.prog 36 = true := by kernel_rfl
/- Function 37: cut.quiet -/
noncomputable def c37code : Code := match Try.f37.body with | some c => c | none => .skip
noncomputable def c37S0 (_ : Unit) : Cmd := .ret
noncomputable def c37 : Cmd := (.seq (.ops [
 ⟨some 3, .box 35 (.tmp 1), 0, none⟩,
 ⟨some 4, .assign (.const (.bool false)), 4, none⟩] [0, 3])
 (.seq (.ops [
 ⟨some 5, .move (.tmp 0), 22, none⟩,
 ⟨some 6, .makeFunc (.func 68) #[] #[(.tmp 3)], 103, none⟩,
 ⟨some 7, .call ⟨.value (.func 67), #[(.tmp 5), (.tmp 6)], #[22, 103]⟩, 4, none⟩,
 ⟨some 8, .unOp .not 4 (.tmp 7), 4, none⟩,
 ⟨some 4, .assign (.tmp 8), 4, none⟩] [4]) (sg c37S0)))
set_option maxRecDepth 100000 in
theorem ent37 (a0 a1 : Value) (w : World) (K : Value → World → Prop) (h : W Try.prog c37 [(0, a0), (1, a1)] w (finQ Try.prog [.tmp 4] K)) : Ret Try.prog 37 [a0, a1] w K :=
  Ret_of_W (code := c37code) Try.func37 (by kernel_rfl) (by kernel_rfl) (of_decide_eq_true (by kernel_rfl)) h
--SIMP 37 c37 c37S0 TYS 35 FNS 67
@[go_sem] theorem go37 : goFunc Try.prog 37 = true := by kernel_rfl
/- Function 38: annalistref14.Sorted -/
noncomputable def c38code : Code := match Try.f38.body with | some c => c | none => .skip
noncomputable def c38S0 (_ : Unit) : Cmd := (.cond (.tmp 55)
  (.skip [0, 3, 4, 5])
  (.exit 2 [0, 3, 4, 5]))
noncomputable def c38S1 (_ : Unit) : Cmd := (.block 3 (.ops [
 ⟨some 56, .move (.tmp 5), 3, none⟩,
 ⟨some 57, .binOp .add 3 (.tmp 56) (.const (.int .i64 1)) 3, 3, none⟩,
 ⟨some 5, .assign (.tmp 57), 3, none⟩] [0, 3, 4, 5]))
noncomputable def c38L0 (_ : Unit) : Cmd := (.seq (.seq (.draw (drawOps 0 c38code) [0, 3, 4, 5, 55]) (sg c38S0)) (sg c38S1))
noncomputable def c38S2 (_ : Unit) : Cmd := (.ops [
 ⟨some 70, .move (.tmp 6), 22, none⟩,
 ⟨some 71, .move (.tmp 3), 22, none⟩,
 ⟨some 72, .move (.tmp 5), 3, none⟩,
 ⟨some 73, .slice 22 (.tmp 71) (some (.tmp 72)) none none, 22, none⟩,
 ⟨some 74, .call ⟨.builtin .append, #[(.tmp 70), (.tmp 73)], #[22, 22]⟩, 22, none⟩,
 ⟨some 3, .assign (.tmp 74), 22, none⟩] [0, 3, 4])
noncomputable def c38S3 (_ : Unit) : Cmd := (.seq (.ops [
 ⟨some 63, .move (.tmp 6), 22, none⟩,
 ⟨some 64, .move (.tmp 0), 22, none⟩,
 ⟨some 65, .move (.tmp 4), 3, none⟩,
 ⟨some 66, .indexAddr 22 (.tmp 64) (.tmp 65), 0, none⟩,
 ⟨some 67, .load 35 (.tmp 66), 35, none⟩,
 ⟨some 68, .buildSlice 22 1 #[(0, (.tmp 67))], 22, none⟩,
 ⟨some 69, .call ⟨.builtin .append, #[(.tmp 63), (.tmp 68)], #[22, 22]⟩, 22, none⟩,
 ⟨some 6, .assign (.tmp 69), 22, none⟩] [0, 3, 4, 5, 6]) (sg c38S2))
noncomputable def c38S4 (_ : Unit) : Cmd := (.seq (.ops [
 ⟨some 58, .buildSlice 22 0 #[], 22, none⟩,
 ⟨some 59, .move (.tmp 3), 22, none⟩,
 ⟨some 60, .move (.tmp 5), 3, none⟩,
 ⟨some 61, .slice 22 (.tmp 59) none (some (.tmp 60)) none, 22, none⟩,
 ⟨some 62, .call ⟨.builtin .append, #[(.tmp 58), (.tmp 61)], #[22, 22]⟩, 22, none⟩,
 ⟨some 6, .assign (.tmp 62), 22, none⟩] [0, 3, 4, 5, 6]) (sg c38S3))
noncomputable def c38S5 (_ : Unit) : Cmd := (.ops [
 ⟨some 11, .move (.tmp 4), 3, none⟩,
 ⟨some 12, .binOp .add 3 (.tmp 11) (.const (.int .i64 1)) 3, 3, none⟩,
 ⟨some 4, .assign (.tmp 12), 3, none⟩] [0, 3, 4])
noncomputable def c38S6 (_ : Unit) : Cmd := (.seq (.block 1 (.seq (.ops [
 ⟨some 5, .assign (.const (.int .i64 0)), 3, none⟩] [0, 3, 4, 5])
 (.seq (.block 2 (.loop (sg c38L0))) (sg c38S4)))) (sg c38S5))
noncomputable def c38L1 (_ : Unit) : Cmd := (.seq (.seq (.ops [
 ⟨some 7, .move (.tmp 4), 3, none⟩,
 ⟨some 8, .move (.tmp 0), 22, none⟩,
 ⟨some 9, .call ⟨.builtin .len, #[(.tmp 8)], #[22]⟩, 3, none⟩,
 ⟨some 10, .binOp .lss 3 (.tmp 7) (.tmp 9) 3, 4, none⟩] [0, 3, 4, 10])
 (.cond (.tmp 10)
  (.skip [0, 3, 4])
  (.exit 0 [3]))) (sg c38S6))
noncomputable def c38S7 (_ : Unit) : Cmd := (.seq (.ops [
 ⟨some 75, .move (.tmp 3), 22, none⟩,
 ⟨some 2, .assign (.tmp 75), 22, none⟩] [2])
 .ret)
noncomputable def c38 : Cmd := (.seq (.ops [
 ⟨some 2, .assign (.const (.slice none 0 0)), 22, none⟩] [0])
 (.seq (.ops [
 ⟨some 3, .assign (.const (.slice none 0 0)), 22, none⟩] [0, 3])
 (.seq (.seq (.ops [
 ⟨some 4, .assign (.const (.int .i64 0)), 3, none⟩] [0, 3, 4])
 (.block 0 (.loop (sg c38L1)))) (sg c38S7))))
noncomputable def c38D0 : List (Bool × Ins) := [
 (true, ⟨some 13, .move (.tmp 5), 3, none⟩),
 (true, ⟨some 14, .move (.tmp 3), 22, none⟩),
 (true, ⟨some 15, .call ⟨.builtin .len, #[(.tmp 14)], #[22]⟩, 3, none⟩),
 (true, ⟨some 16, .binOp .lss 3 (.tmp 13) (.tmp 15) 3, 4, none⟩),
 (true, ⟨some 17, .move (.tmp 16), 4, none⟩),
 (true, ⟨some 18, .move (.tmp 3), 22, (some (17, true))⟩),
 (true, ⟨some 19, .move (.tmp 5), 3, (some (17, true))⟩),
 (true, ⟨some 20, .indexAddr 22 (.tmp 18) (.tmp 19), 0, (some (17, true))⟩),
 (true, ⟨some 21, .fieldAddr 35 (.tmp 20) 9, 0, (some (17, true))⟩),
 (false, ⟨some 22, .load 3 (.tmp 21), 3, (some (17, true))⟩),
 (true, ⟨some 23, .move (.tmp 0), 22, (some (17, true))⟩),
 (true, ⟨some 24, .move (.tmp 4), 3, (some (17, true))⟩),
 (true, ⟨some 25, .indexAddr 22 (.tmp 23) (.tmp 24), 0, (some (17, true))⟩),
 (true, ⟨some 26, .fieldAddr 35 (.tmp 25) 9, 0, (some (17, true))⟩),
 (false, ⟨some 27, .load 3 (.tmp 26), 3, (some (17, true))⟩),
 (true, ⟨some 28, .binOp .lss 3 (.tmp 22) (.tmp 27) 3, 4, (some (17, true))⟩),
 (true, ⟨some 29, .move (.tmp 28), 4, (some (17, true))⟩),
 (true, ⟨some 30, .move (.tmp 3), 22, (some (29, false))⟩),
 (true, ⟨some 31, .move (.tmp 5), 3, (some (29, false))⟩),
 (true, ⟨some 32, .indexAddr 22 (.tmp 30) (.tmp 31), 0, (some (29, false))⟩),
 (true, ⟨some 33, .fieldAddr 35 (.tmp 32) 9, 0, (some (29, false))⟩),
 (false, ⟨some 34, .load 3 (.tmp 33), 3, (some (29, false))⟩),
 (true, ⟨some 35, .move (.tmp 0), 22, (some (29, false))⟩),
 (true, ⟨some 36, .move (.tmp 4), 3, (some (29, false))⟩),
 (true, ⟨some 37, .indexAddr 22 (.tmp 35) (.tmp 36), 0, (some (29, false))⟩),
 (true, ⟨some 38, .fieldAddr 35 (.tmp 37) 9, 0, (some (29, false))⟩),
 (false, ⟨some 39, .load 3 (.tmp 38), 3, (some (29, false))⟩),
 (true, ⟨some 40, .binOp .eql 3 (.tmp 34) (.tmp 39) 3, 4, (some (29, false))⟩),
 (true, ⟨some 41, .move (.tmp 40), 4, (some (29, false))⟩),
 (true, ⟨some 42, .move (.tmp 3), 22, (some (41, true))⟩),
 (true, ⟨some 43, .move (.tmp 5), 3, (some (41, true))⟩),
 (true, ⟨some 44, .indexAddr 22 (.tmp 42) (.tmp 43), 0, (some (41, true))⟩),
 (true, ⟨some 45, .fieldAddr 35 (.tmp 44) 0, 0, (some (41, true))⟩),
 (false, ⟨some 46, .load 3 (.tmp 45), 3, (some (41, true))⟩),
 (true, ⟨some 47, .move (.tmp 0), 22, (some (41, true))⟩),
 (true, ⟨some 48, .move (.tmp 4), 3, (some (41, true))⟩),
 (true, ⟨some 49, .indexAddr 22 (.tmp 47) (.tmp 48), 0, (some (41, true))⟩),
 (true, ⟨some 50, .fieldAddr 35 (.tmp 49) 0, 0, (some (41, true))⟩),
 (false, ⟨some 51, .load 3 (.tmp 50), 3, (some (41, true))⟩),
 (true, ⟨some 52, .binOp .leq 3 (.tmp 46) (.tmp 51) 3, 4, (some (41, true))⟩),
 (true, ⟨some 53, .pick (.tmp 41) (.tmp 52) (.const (.bool false)), 4, (some (29, false))⟩),
 (true, ⟨some 54, .pick (.tmp 29) (.const (.bool true)) (.tmp 53), 4, (some (17, true))⟩),
 (true, ⟨some 55, .pick (.tmp 17) (.tmp 54) (.const (.bool false)), 4, none⟩)]
theorem c38draw0 {L : List Nat} {ρ : Env} {w : World} {Q : Post} (h : DL Try.prog c38D0 L ρ w.drew Q) : drawW Try.prog (drawOps 0 c38code) L ρ w Q :=
  drawW_still [true, true, true, true, true, true, true, true, true, false, true, true, true, true, false, true, true, true, true, true, true, false, true, true, true, true, false, true, true, true, true, true, true, false, true, true, true, true, false, true, true, true, true] c38D0 (by kernel_rfl) (by kernel_rfl) (by kernel_rfl) h
set_option maxRecDepth 100000 in
theorem ent38 (a0 : Value) (w : World) (K : Value → World → Prop) (h : W Try.prog c38 [(0, a0)] w (finQ Try.prog [.tmp 2] K)) : Ret Try.prog 38 [a0] w K :=
  Ret_of_W (code := c38code) Try.func38 (by kernel_rfl) (by kernel_rfl) (of_decide_eq_true (by kernel_rfl)) h
--SIMP 38 c38 c38S0 c38S1 c38L0 c38S2 c38S3 c38S4 c38S5 c38S6 c38L1 c38S7 TYS 3 22 35 FNS 
@[go_sem] theorem go38 : goFunc Try.prog 38 = true := by kernel_rfl
/- Function 39: cut.Objects$1 -/
noncomputable def c39code : Code := match Try.f39.body with | some c => c | none => .skip
noncomputable def c39S0 (_ : Unit) : Cmd := .ret
noncomputable def c39 : Cmd := (.seq (.ops [
 ⟨some 2, .box 35 (.tmp 0), 0, none⟩,
 ⟨some 3, .box 35 (.tmp 1), 0, none⟩,
 ⟨some 4, .assign (.const (.int .i64 0)), 3, none⟩] [2, 3])
 (.seq (.draw (drawOps 0 c39code) [4]) (sg c39S0)))
noncomputable def c39D0 : List (Nat × Ins) := [
 (0, ⟨some 5, .fieldAddr 35 (.tmp 2) 2, 0, none⟩),
 (0, ⟨some 7, .fieldAddr 35 (.tmp 3) 2, 0, none⟩),
 (1, ⟨some 6, .load 3 (.tmp 5), 3, none⟩),
 (1, ⟨some 8, .load 3 (.tmp 7), 3, none⟩),
 (1, ⟨some 10, .load 35 (.tmp 2), 35, none⟩),
 (1, ⟨some 11, .load 35 (.tmp 3), 35, none⟩),
 (2, ⟨some 9, .call ⟨.value (.func 41), #[(.tmp 6), (.tmp 8)], #[3, 3]⟩, 3, none⟩),
 (2, ⟨some 12, .call ⟨.value (.func 36), #[(.tmp 10), (.tmp 11)], #[35, 35]⟩, 3, none⟩),
 (2, ⟨some 13, .buildSlice 49 2 #[(0, (.tmp 9)), (1, (.tmp 12))], 49, none⟩),
 (2, ⟨some 14, .call ⟨.value (.func 40), #[(.tmp 13)], #[49]⟩, 3, none⟩),
 (0, ⟨some 4, .assign (.tmp 14), 3, none⟩)]
theorem c39draw0 {L : List Nat} {ρ : Env} {w : World} {Q : Post} (S : World → Prop) (hS : S w.drew) (h : DG Try.prog S c39D0 L ρ w.drew Q) : drawW Try.prog (drawOps 0 c39code) L ρ w Q :=
  drawW_held [1, 3, 5, 6] [(0, 0), (0, 2), (1, 1), (1, 3), (1, 5), (1, 6), (2, 4), (2, 7), (2, 8), (2, 9), (0, 10)] c39D0 (by kernel_rfl) (by kernel_rfl) (by kernel_rfl) S hS h
set_option maxRecDepth 100000 in
theorem ent39 (a0 a1 : Value) (w : World) (K : Value → World → Prop) (h : W Try.prog c39 [(0, a0), (1, a1)] w (finQ Try.prog [.tmp 4] K)) : Ret Try.prog 39 [a0, a1] w K :=
  Ret_of_W (code := c39code) Try.func39 (by kernel_rfl) (by kernel_rfl) (of_decide_eq_true (by kernel_rfl)) h
--SIMP 39 c39 c39S0 TYS 3 35 49 FNS 36 40 41
@[go_sem] theorem go39 : goFunc Try.prog 39 = true := by kernel_rfl
/- Function 40: cmp.Or[int] -/
noncomputable def c40code : Code := match Try.f40.body with | some c => c | none => .skip
noncomputable def c40S0 (_ : Unit) : Cmd := (.ops [
 ⟨some 16, .binOp .add 3 (.tmp 8) (.const (.int .i64 1)) 3, 3, none⟩,
 ⟨some 8, .move (.tmp 16), 3, none⟩] [3, 6, 7, 8])
noncomputable def c40S1 (_ : Unit) : Cmd := (.seq (.block 1 (.seq (.ops [
 ⟨some 10, .indexAddr 49 (.tmp 6) (.tmp 8), 0, none⟩,
 ⟨some 11, .load 3 (.tmp 10), 3, none⟩,
 ⟨some 5, .assign (.tmp 11), 3, none⟩] [3, 5, 6, 7, 8])
 (.seq (.ops [
 ⟨some 12, .move (.tmp 5), 3, none⟩,
 ⟨some 13, .move (.tmp 3), 3, none⟩,
 ⟨some 14, .binOp .neq 3 (.tmp 12) (.tmp 13) 3, 4, none⟩] [3, 5, 6, 7, 8, 14])
 (.cond (.tmp 14)
  (.seq (.ops [
  ⟨some 15, .move (.tmp 5), 3, none⟩,
  ⟨some 2, .assign (.tmp 15), 3, none⟩] [2])
  .ret)
  (.skip [3, 6, 7, 8]))))) (sg c40S0))
noncomputable def c40L0 (_ : Unit) : Cmd := (.seq (.ops [
 ⟨some 9, .binOp .lss 3 (.tmp 8) (.tmp 7) 3, 0, none⟩] [3, 6, 7, 8, 9])
 (.seq (.cond (.tmp 9)
  (.skip [3, 6, 7, 8])
  (.exit 0 [3])) (sg c40S1)))
noncomputable def c40S2 (_ : Unit) : Cmd := (.seq (.ops [
 ⟨some 17, .move (.tmp 3), 3, none⟩,
 ⟨some 2, .assign (.tmp 17), 3, none⟩] [2])
 .ret)
noncomputable def c40 : Cmd := (.seq (.ops [
 ⟨some 2, .assign (.const (.int .i64 0)), 3, none⟩] [0])
 (.seq (.ops [
 ⟨some 3, .assign (.const (.int .i64 0)), 3, none⟩] [0, 3])
 (.seq (.seq (.ops [
 ⟨some 6, .move (.tmp 0), 49, none⟩,
 ⟨some 7, .call ⟨.builtin .len, #[(.tmp 6)], #[49]⟩, 3, none⟩,
 ⟨some 8, .move (.const (.int .i64 0)), 3, none⟩] [3, 6, 7, 8])
 (.block 0 (.loop (sg c40L0)))) (sg c40S2))))
set_option maxRecDepth 100000 in
theorem ent40 (a0 : Value) (w : World) (K : Value → World → Prop) (h : W Try.prog c40 [(0, a0)] w (finQ Try.prog [.tmp 2] K)) : Ret Try.prog 40 [a0] w K :=
  Ret_of_W (code := c40code) Try.func40 (by kernel_rfl) (by kernel_rfl) (of_decide_eq_true (by kernel_rfl)) h
--SIMP 40 c40 c40S0 c40S1 c40L0 c40S2 TYS 3 49 FNS 
@[go_sem] theorem go40 : goFunc Try.prog 40 = true := by kernel_rfl
/- Function 41: cmp.Compare[int] -/
noncomputable def c41code : Code := match Try.f41.body with | some c => c | none => .skip
noncomputable def c41S0 (_ : Unit) : Cmd := (.seq (.ops [
  ⟨some 4, .assign (.const (.int .i64 (-1))), 3, none⟩] [4])
  .ret)
noncomputable def c41S1 (_ : Unit) : Cmd := (.seq (.ops [
 ⟨some 4, .assign (.const (.int .i64 0)), 3, none⟩] [4])
 .ret)
noncomputable def c41S2 (_ : Unit) : Cmd := (.seq (.seq (.ops [
 ⟨some 17, .move (.tmp 0), 3, none⟩,
 ⟨some 18, .move (.tmp 1), 3, none⟩,
 ⟨some 19, .binOp .gtr 3 (.tmp 17) (.tmp 18) 3, 4, none⟩] [19])
 (.cond (.tmp 19)
  (.seq (.ops [
  ⟨some 4, .assign (.const (.int .i64 1)), 3, none⟩] [4])
  .ret)
  (.skip []))) (sg c41S1))
noncomputable def c41S3 (_ : Unit) : Cmd := (.seq (.seq (.ops [
 ⟨some 14, .move (.tmp 0), 3, none⟩,
 ⟨some 15, .move (.tmp 1), 3, none⟩,
 ⟨some 16, .binOp .lss 3 (.tmp 14) (.tmp 15) 3, 4, none⟩] [0, 1, 16])
 (.cond (.tmp 16)
  (.seq (.ops [
  ⟨some 4, .assign (.const (.int .i64 (-1))), 3, none⟩] [4])
  .ret)
  (.skip [0, 1]))) (sg c41S2))
noncomputable def c41S4 (_ : Unit) : Cmd := (.seq (.seq (.ops [
 ⟨some 13, .move (.tmp 6), 4, none⟩] [0, 1, 13])
 (.cond (.tmp 13)
  (.seq (.ops [
  ⟨some 4, .assign (.const (.int .i64 1)), 3, none⟩] [4])
  .ret)
  (.skip [0, 1]))) (sg c41S3))
noncomputable def c41S5 (_ : Unit) : Cmd := (.seq (.seq (.ops [
 ⟨some 11, .move (.tmp 5), 4, none⟩] [0, 1, 6, 11])
 (.cond (.tmp 11)
  (.seq (.seq (.ops [
  ⟨some 12, .move (.tmp 6), 4, none⟩] [12])
  (.cond (.tmp 12)
   (.seq (.ops [
   ⟨some 4, .assign (.const (.int .i64 0)), 3, none⟩] [4])
   .ret)
   (.skip []))) (sg c41S0))
  (.skip [0, 1, 6]))) (sg c41S4))
noncomputable def c41S6 (_ : Unit) : Cmd := (.seq (.ops [
 ⟨some 9, .move (.tmp 1), 3, none⟩,
 ⟨some 10, .call ⟨.value (.func 70), #[(.tmp 9)], #[3]⟩, 4, none⟩,
 ⟨some 6, .assign (.tmp 10), 4, none⟩] [0, 1, 5, 6]) (sg c41S5))
noncomputable def c41 : Cmd := (.seq (.ops [
 ⟨some 4, .assign (.const (.int .i64 0)), 3, none⟩] [0, 1])
 (.seq (.ops [
 ⟨some 7, .move (.tmp 0), 3, none⟩,
 ⟨some 8, .call ⟨.value (.func 70), #[(.tmp 7)], #[3]⟩, 4, none⟩,
 ⟨some 5, .assign (.tmp 8), 4, none⟩] [0, 1, 5]) (sg c41S6)))
set_option maxRecDepth 100000 in
theorem ent41 (a0 a1 : Value) (w : World) (K : Value → World → Prop) (h : W Try.prog c41 [(0, a0), (1, a1)] w (finQ Try.prog [.tmp 4] K)) : Ret Try.prog 41 [a0, a1] w K :=
  Ret_of_W (code := c41code) Try.func41 (by kernel_rfl) (by kernel_rfl) (of_decide_eq_true (by kernel_rfl)) h
--SIMP 41 c41 c41S0 c41S1 c41S2 c41S3 c41S4 c41S5 c41S6 TYS 3 FNS 70
@[go_sem] theorem go41 : goFunc Try.prog 41 = true := by kernel_rfl
/- Function 42: annalistref10.Check -/
noncomputable def c42code : Code := match Try.f42.body with | some c => c | none => .skip
noncomputable def c42S0 (_ : Unit) : Cmd := (.cond (.tmp 22)
  (.seq (.ops [
  ⟨some 2, .assign (.const (.int .i64 30)), 3, none⟩] [2])
  .ret)
  (.skip [1]))
noncomputable def c42S1 (_ : Unit) : Cmd := (.cond (.tmp 50)
  (.seq (.ops [
  ⟨some 2, .assign (.const (.int .i64 33)), 3, none⟩] [2])
  .ret)
  (.skip [1, 3]))
noncomputable def c42S2 (_ : Unit) : Cmd := (.cond (.tmp 70)
  (.seq (.ops [
  ⟨some 2, .assign (.const (.int .i64 33)), 3, none⟩] [2])
  .ret)
  (.skip [1]))
noncomputable def c42S3 (_ : Unit) : Cmd := (.cond (.tmp 84)
  (.seq (.ops [
  ⟨some 2, .assign (.const (.int .i64 31)), 3, none⟩] [2])
  .ret)
  (.skip [1]))
noncomputable def c42S4 (_ : Unit) : Cmd := (.seq (.ops [
 ⟨some 2, .assign (.const (.int .i64 0)), 3, none⟩] [2])
 .ret)
noncomputable def c42S5 (_ : Unit) : Cmd := (.seq (.seq (.ops [
 ⟨some 85, .fieldAddr 35 (.tmp 1) 7, 0, none⟩,
 ⟨some 86, .load 4 (.tmp 85), 4, none⟩,
 ⟨some 87, .move (.tmp 86), 4, none⟩,
 ⟨some 88, .fieldAddr 35 (.tmp 1) 10, 0, (some (87, true))⟩,
 ⟨some 89, .load 3 (.tmp 88), 3, (some (87, true))⟩,
 ⟨some 90, .fieldAddr 35 (.tmp 1) 9, 0, (some (87, true))⟩,
 ⟨some 91, .load 3 (.tmp 90), 3, (some (87, true))⟩,
 ⟨some 92, .binOp .leq 3 (.tmp 89) (.tmp 91) 3, 4, (some (87, true))⟩,
 ⟨some 93, .move (.tmp 92), 4, (some (87, true))⟩,
 ⟨some 94, .fieldAddr 35 (.tmp 1) 10, 0, (some (93, false))⟩,
 ⟨some 95, .load 3 (.tmp 94), 3, (some (93, false))⟩,
 ⟨some 96, .binOp .gtr 3 (.tmp 95) (.const (.int .i64 1099511627776)) 3, 4, (some (93, false))⟩,
 ⟨some 97, .pick (.tmp 93) (.const (.bool true)) (.tmp 96), 4, (some (87, true))⟩,
 ⟨some 98, .pick (.tmp 87) (.tmp 97) (.const (.bool false)), 4, none⟩] [98])
 (.cond (.tmp 98)
  (.seq (.ops [
  ⟨some 2, .assign (.const (.int .i64 31)), 3, none⟩] [2])
  .ret)
  (.skip []))) (sg c42S4))
noncomputable def c42S6 (_ : Unit) : Cmd := (.seq (.seq (.ops [
 ⟨some 71, .fieldAddr 35 (.tmp 1) 9, 0, none⟩,
 ⟨some 72, .load 3 (.tmp 71), 3, none⟩,
 ⟨some 73, .call ⟨.value (.func 71), #[(.tmp 72), (.const (.int .i64 0)), (.const (.int .i64 1099511627776))], #[3, 3, 3]⟩, 4, none⟩,
 ⟨some 74, .unOp .not 4 (.tmp 73), 4, none⟩,
 ⟨some 75, .move (.tmp 74), 4, none⟩,
 ⟨some 76, .fieldAddr 35 (.tmp 1) 7, 0, (some (75, false))⟩,
 ⟨some 77, .load 4 (.tmp 76), 4, (some (75, false))⟩,
 ⟨some 78, .unOp .not 4 (.tmp 77), 4, (some (75, false))⟩,
 ⟨some 79, .move (.tmp 78), 4, (some (75, false))⟩,
 ⟨some 80, .fieldAddr 35 (.tmp 1) 10, 0, (some (79, true))⟩,
 ⟨some 81, .load 3 (.tmp 80), 3, (some (79, true))⟩,
 ⟨some 82, .binOp .neq 3 (.tmp 81) (.const (.int .i64 0)) 3, 4, (some (79, true))⟩,
 ⟨some 83, .pick (.tmp 79) (.tmp 82) (.const (.bool false)), 4, (some (75, false))⟩,
 ⟨some 84, .pick (.tmp 75) (.const (.bool true)) (.tmp 83), 4, none⟩] [1, 84]) (sg c42S3)) (sg c42S5))
noncomputable def c42S7 (_ : Unit) : Cmd := (.seq (.seq (.ops [
 ⟨some 51, .fieldAddr 35 (.tmp 1) 7, 0, none⟩,
 ⟨some 52, .load 4 (.tmp 51), 4, none⟩,
 ⟨some 53, .move (.tmp 52), 4, none⟩,
 ⟨some 54, .fieldAddr 35 (.tmp 1) 8, 0, (some (53, true))⟩,
 ⟨some 55, .load 3 (.tmp 54), 3, (some (53, true))⟩,
 ⟨some 56, .fieldAddr 107 (.tmp 3) 3, 0, (some (53, true))⟩,
 ⟨some 57, .load 3 (.tmp 56), 3, (some (53, true))⟩,
 ⟨some 58, .call ⟨.value (.func 73), #[(.tmp 55), (.tmp 57)], #[3, 3]⟩, 4, (some (53, true))⟩,
 ⟨some 59, .unOp .not 4 (.tmp 58), 4, (some (53, true))⟩,
 ⟨some 60, .pick (.tmp 53) (.tmp 59) (.const (.bool false)), 4, none⟩,
 ⟨some 61, .move (.tmp 60), 4, none⟩,
 ⟨some 62, .fieldAddr 35 (.tmp 1) 7, 0, (some (61, false))⟩,
 ⟨some 63, .load 4 (.tmp 62), 4, (some (61, false))⟩,
 ⟨some 64, .unOp .not 4 (.tmp 63), 4, (some (61, false))⟩,
 ⟨some 65, .move (.tmp 64), 4, (some (61, false))⟩,
 ⟨some 66, .fieldAddr 35 (.tmp 1) 8, 0, (some (65, true))⟩,
 ⟨some 67, .load 3 (.tmp 66), 3, (some (65, true))⟩,
 ⟨some 68, .binOp .neq 3 (.tmp 67) (.const (.int .i64 0)) 3, 4, (some (65, true))⟩,
 ⟨some 69, .pick (.tmp 65) (.tmp 68) (.const (.bool false)), 4, (some (61, false))⟩,
 ⟨some 70, .pick (.tmp 61) (.const (.bool true)) (.tmp 69), 4, none⟩] [1, 70]) (sg c42S2)) (sg c42S6))
noncomputable def c42S8 (_ : Unit) : Cmd := (.seq (.seq (.ops [
 ⟨some 39, .fieldAddr 35 (.tmp 1) 5, 0, none⟩,
 ⟨some 40, .load 3 (.tmp 39), 3, none⟩,
 ⟨some 41, .move (.tmp 5), 3, none⟩,
 ⟨some 42, .call ⟨.value (.func 71), #[(.tmp 40), (.const (.int .i64 0)), (.tmp 41)], #[3, 3, 3]⟩, 4, none⟩,
 ⟨some 43, .unOp .not 4 (.tmp 42), 4, none⟩,
 ⟨some 44, .move (.tmp 43), 4, none⟩,
 ⟨some 45, .fieldAddr 35 (.tmp 1) 6, 0, (some (44, false))⟩,
 ⟨some 46, .load 3 (.tmp 45), 3, (some (44, false))⟩,
 ⟨some 47, .move (.tmp 6), 3, (some (44, false))⟩,
 ⟨some 48, .call ⟨.value (.func 71), #[(.tmp 46), (.const (.int .i64 0)), (.tmp 47)], #[3, 3, 3]⟩, 4, (some (44, false))⟩,
 ⟨some 49, .unOp .not 4 (.tmp 48), 4, (some (44, false))⟩,
 ⟨some 50, .pick (.tmp 44) (.const (.bool true)) (.tmp 49), 4, none⟩] [1, 3, 50]) (sg c42S1)) (sg c42S7))
noncomputable def c42S9 (_ : Unit) : Cmd := (.seq (.seq (.ops [
 ⟨some 36, .fieldAddr 107 (.tmp 3) 2, 0, none⟩,
 ⟨some 37, .load 3 (.tmp 36), 3, none⟩,
 ⟨some 38, .binOp .geq 3 (.tmp 37) (.const (.int .i64 2)) 3, 4, none⟩] [1, 3, 5, 6, 38])
 (.cond (.tmp 38)
  (.ops [
  ⟨some 6, .assign (.const (.int .i64 1073741824)), 3, none⟩] [1, 3, 5, 6])
  (.skip [1, 3, 5, 6]))) (sg c42S8))
noncomputable def c42S10 (_ : Unit) : Cmd := (.seq (.ops [
 ⟨some 5, .assign (.const (.int .i64 0)), 3, none⟩,
 ⟨some 6, .assign (.const (.int .i64 0)), 3, none⟩] [1, 3, 5, 6])
 (.seq (.seq (.ops [
 ⟨some 33, .fieldAddr 107 (.tmp 3) 2, 0, none⟩,
 ⟨some 34, .load 3 (.tmp 33), 3, none⟩,
 ⟨some 35, .binOp .geq 3 (.tmp 34) (.const (.int .i64 1)) 3, 4, none⟩] [1, 3, 5, 6, 35])
 (.cond (.tmp 35)
  (.ops [
  ⟨some 5, .assign (.const (.int .i64 1073741824)), 3, none⟩] [1, 3, 5, 6])
  (.skip [1, 3, 5, 6]))) (sg c42S9)))
noncomputable def c42S11 (_ : Unit) : Cmd := (.seq (.seq (.ops [
 ⟨some 31, .move (.tmp 4), 4, none⟩,
 ⟨some 32, .unOp .not 4 (.tmp 31), 4, none⟩] [1, 3, 32])
 (.cond (.tmp 32)
  (.seq (.ops [
  ⟨some 2, .assign (.const (.int .i64 33)), 3, none⟩] [2])
  .ret)
  (.skip [1, 3]))) (sg c42S10))
noncomputable def c42S12 (_ : Unit) : Cmd := (.seq (.ops [
 ⟨some 24, .fieldAddr 35 (.tmp 1) 3, 0, none⟩,
 ⟨some 25, .load 3 (.tmp 24), 3, none⟩,
 ⟨some 26, .fieldAddr 35 (.tmp 1) 4, 0, none⟩,
 ⟨some 27, .load 3 (.tmp 26), 3, none⟩,
 ⟨some 28, .call ⟨.value (.func 72), #[(.tmp 25), (.tmp 27)], #[3, 3]⟩, 108, none⟩,
 ⟨some 23, .move (.tmp 28), 108, none⟩,
 ⟨some 29, .extract (.tmp 23) 0, 107, none⟩,
 ⟨some 30, .extract (.tmp 23) 1, 4, none⟩,
 ⟨some 3, .alloc 107, 0, none⟩,
 ⟨none, .store 107 (.tmp 3) (.tmp 29), 0, none⟩,
 ⟨some 4, .assign (.tmp 30), 4, none⟩] [1, 3, 4]) (sg c42S11))
noncomputable def c42 : Cmd := (.seq (.ops [
 ⟨some 1, .box 35 (.tmp 0), 0, none⟩,
 ⟨some 2, .assign (.const (.int .i64 0)), 3, none⟩] [1])
 (.seq (.seq (.ops [
 ⟨some 7, .fieldAddr 35 (.tmp 1) 0, 0, none⟩,
 ⟨some 8, .load 3 (.tmp 7), 3, none⟩,
 ⟨some 9, .call ⟨.value (.func 71), #[(.tmp 8), (.const (.int .i64 1)), (.const (.int .i64 1073741824))], #[3, 3, 3]⟩, 4, none⟩,
 ⟨some 10, .unOp .not 4 (.tmp 9), 4, none⟩,
 ⟨some 11, .move (.tmp 10), 4, none⟩,
 ⟨some 12, .fieldAddr 35 (.tmp 1) 1, 0, (some (11, false))⟩,
 ⟨some 13, .load 3 (.tmp 12), 3, (some (11, false))⟩,
 ⟨some 14, .call ⟨.value (.func 71), #[(.tmp 13), (.const (.int .i64 0)), (.const (.int .i64 1023))], #[3, 3, 3]⟩, 4, (some (11, false))⟩,
 ⟨some 15, .unOp .not 4 (.tmp 14), 4, (some (11, false))⟩,
 ⟨some 16, .pick (.tmp 11) (.const (.bool true)) (.tmp 15), 4, none⟩,
 ⟨some 17, .move (.tmp 16), 4, none⟩,
 ⟨some 18, .fieldAddr 35 (.tmp 1) 2, 0, (some (17, false))⟩,
 ⟨some 19, .load 3 (.tmp 18), 3, (some (17, false))⟩,
 ⟨some 20, .call ⟨.value (.func 71), #[(.tmp 19), (.const (.int .i64 0)), (.const (.int .i64 1023))], #[3, 3, 3]⟩, 4, (some (17, false))⟩,
 ⟨some 21, .unOp .not 4 (.tmp 20), 4, (some (17, false))⟩,
 ⟨some 22, .pick (.tmp 17) (.const (.bool true)) (.tmp 21), 4, none⟩] [1, 22]) (sg c42S0)) (sg c42S12)))
set_option maxRecDepth 100000 in
theorem ent42 (a0 : Value) (w : World) (K : Value → World → Prop) (h : W Try.prog c42 [(0, a0)] w (finQ Try.prog [.tmp 2] K)) : Ret Try.prog 42 [a0] w K :=
  Ret_of_W (code := c42code) Try.func42 (by kernel_rfl) (by kernel_rfl) (of_decide_eq_true (by kernel_rfl)) h
--SIMP 42 c42 c42S0 c42S1 c42S2 c42S3 c42S4 c42S5 c42S6 c42S7 c42S8 c42S9 c42S10 c42S11 c42S12 TYS 3 4 35 107 FNS 71 72 73
@[go_sem] theorem go42 : goFunc Try.prog 42 = true := by kernel_rfl
/- Function 43: annalistref12.beside -/
noncomputable def c43code : Code := match Try.f43.body with | some c => c | none => .skip
noncomputable def c43S0 (_ : Unit) : Cmd := (.cond (.tmp 40)
  (.seq (.ops [
  ⟨some 4, .assign (.const (.int .i64 33)), 3, none⟩] [4])
  .ret)
  (.skip [0, 3, 5]))
noncomputable def c43S1 (_ : Unit) : Cmd := (.ops [
 ⟨some 11, .move (.tmp 5), 3, none⟩,
 ⟨some 12, .binOp .add 3 (.tmp 11) (.const (.int .i64 1)) 3, 3, none⟩,
 ⟨some 5, .assign (.tmp 12), 3, none⟩] [0, 3, 5])
noncomputable def c43S2 (_ : Unit) : Cmd := (.seq (.block 1 (.seq (.draw (drawOps 0 c43code) [0, 3, 5, 40]) (sg c43S0))) (sg c43S1))
noncomputable def c43L0 (_ : Unit) : Cmd := (.seq (.seq (.ops [
 ⟨some 7, .move (.tmp 5), 3, none⟩,
 ⟨some 8, .move (.tmp 0), 22, none⟩,
 ⟨some 9, .call ⟨.builtin .len, #[(.tmp 8)], #[22]⟩, 3, none⟩,
 ⟨some 10, .binOp .lss 3 (.tmp 7) (.tmp 9) 3, 4, none⟩] [0, 3, 5, 10])
 (.cond (.tmp 10)
  (.skip [0, 3, 5])
  (.exit 0 [0, 3]))) (sg c43S2))
noncomputable def c43S3 (_ : Unit) : Cmd := (.cond (.tmp 82)
  (.seq (.ops [
  ⟨some 4, .assign (.const (.int .i64 32)), 3, none⟩] [4])
  .ret)
  (.skip [0, 3, 6]))
noncomputable def c43S4 (_ : Unit) : Cmd := (.ops [
 ⟨some 45, .move (.tmp 6), 3, none⟩,
 ⟨some 46, .binOp .add 3 (.tmp 45) (.const (.int .i64 1)) 3, 3, none⟩,
 ⟨some 6, .assign (.tmp 46), 3, none⟩] [0, 3, 6])
noncomputable def c43S5 (_ : Unit) : Cmd := (.seq (.block 3 (.seq (.draw (drawOps 1 c43code) [0, 3, 6, 82]) (sg c43S3))) (sg c43S4))
noncomputable def c43L1 (_ : Unit) : Cmd := (.seq (.seq (.ops [
 ⟨some 41, .move (.tmp 6), 3, none⟩,
 ⟨some 42, .move (.tmp 0), 22, none⟩,
 ⟨some 43, .call ⟨.builtin .len, #[(.tmp 42)], #[22]⟩, 3, none⟩,
 ⟨some 44, .binOp .lss 3 (.tmp 41) (.tmp 43) 3, 4, none⟩] [0, 3, 6, 44])
 (.cond (.tmp 44)
  (.skip [0, 3, 6])
  (.exit 2 []))) (sg c43S5))
noncomputable def c43S6 (_ : Unit) : Cmd := (.seq (.ops [
 ⟨some 4, .assign (.const (.int .i64 0)), 3, none⟩] [4])
 .ret)
noncomputable def c43S7 (_ : Unit) : Cmd := (.seq (.seq (.ops [
 ⟨some 6, .assign (.const (.int .i64 0)), 3, none⟩] [0, 3, 6])
 (.block 2 (.loop (sg c43L1)))) (sg c43S6))
noncomputable def c43 : Cmd := (.seq (.ops [
 ⟨some 3, .box 35 (.tmp 1), 0, none⟩,
 ⟨some 4, .assign (.const (.int .i64 0)), 3, none⟩] [0, 3])
 (.seq (.seq (.ops [
 ⟨some 5, .assign (.const (.int .i64 0)), 3, none⟩] [0, 3, 5])
 (.block 0 (.loop (sg c43L0)))) (sg c43S7)))
noncomputable def c43D0 : List (Bool × Ins) := [
 (true, ⟨some 13, .move (.tmp 0), 22, none⟩),
 (true, ⟨some 14, .move (.tmp 5), 3, none⟩),
 (true, ⟨some 15, .indexAddr 22 (.tmp 13) (.tmp 14), 0, none⟩),
 (true, ⟨some 16, .fieldAddr 35 (.tmp 15) 0, 0, none⟩),
 (false, ⟨some 17, .load 3 (.tmp 16), 3, none⟩),
 (true, ⟨some 18, .fieldAddr 35 (.tmp 3) 0, 0, none⟩),
 (false, ⟨some 19, .load 3 (.tmp 18), 3, none⟩),
 (true, ⟨some 20, .binOp .neq 3 (.tmp 17) (.tmp 19) 3, 4, none⟩),
 (true, ⟨some 21, .move (.tmp 20), 4, none⟩),
 (true, ⟨some 22, .move (.tmp 0), 22, (some (21, true))⟩),
 (true, ⟨some 23, .move (.tmp 5), 3, (some (21, true))⟩),
 (true, ⟨some 24, .indexAddr 22 (.tmp 22) (.tmp 23), 0, (some (21, true))⟩),
 (true, ⟨some 25, .fieldAddr 35 (.tmp 24) 2, 0, (some (21, true))⟩),
 (false, ⟨some 26, .load 3 (.tmp 25), 3, (some (21, true))⟩),
 (true, ⟨some 27, .fieldAddr 35 (.tmp 3) 2, 0, (some (21, true))⟩),
 (false, ⟨some 28, .load 3 (.tmp 27), 3, (some (21, true))⟩),
 (true, ⟨some 29, .binOp .eql 3 (.tmp 26) (.tmp 28) 3, 4, (some (21, true))⟩),
 (true, ⟨some 30, .pick (.tmp 21) (.tmp 29) (.const (.bool false)), 4, none⟩),
 (true, ⟨some 31, .move (.tmp 30), 4, none⟩),
 (true, ⟨some 32, .move (.tmp 0), 22, (some (31, true))⟩),
 (true, ⟨some 33, .move (.tmp 5), 3, (some (31, true))⟩),
 (true, ⟨some 34, .indexAddr 22 (.tmp 32) (.tmp 33), 0, (some (31, true))⟩),
 (true, ⟨some 35, .fieldAddr 35 (.tmp 34) 3, 0, (some (31, true))⟩),
 (false, ⟨some 36, .load 3 (.tmp 35), 3, (some (31, true))⟩),
 (true, ⟨some 37, .fieldAddr 35 (.tmp 3) 3, 0, (some (31, true))⟩),
 (false, ⟨some 38, .load 3 (.tmp 37), 3, (some (31, true))⟩),
 (true, ⟨some 39, .binOp .neq 3 (.tmp 36) (.tmp 38) 3, 4, (some (31, true))⟩),
 (true, ⟨some 40, .pick (.tmp 31) (.tmp 39) (.const (.bool false)), 4, none⟩)]
theorem c43draw0 {L : List Nat} {ρ : Env} {w : World} {Q : Post} (h : DL Try.prog c43D0 L ρ w.drew Q) : drawW Try.prog (drawOps 0 c43code) L ρ w Q :=
  drawW_still [true, true, true, true, false, true, false, true, true, true, true, true, true, false, true, false, true, true, true, true, true, true, true, false, true, false, true, true] c43D0 (by kernel_rfl) (by kernel_rfl) (by kernel_rfl) h
noncomputable def c43D1 : List (Nat × Ins) := [
 (0, ⟨some 47, .move (.tmp 0), 22, none⟩),
 (0, ⟨some 48, .move (.tmp 6), 3, none⟩),
 (0, ⟨some 49, .indexAddr 22 (.tmp 47) (.tmp 48), 0, none⟩),
 (0, ⟨some 50, .fieldAddr 35 (.tmp 49) 0, 0, none⟩),
 (0, ⟨some 52, .fieldAddr 35 (.tmp 3) 0, 0, none⟩),
 (1, ⟨some 51, .load 3 (.tmp 50), 3, none⟩),
 (2, ⟨some 53, .load 3 (.tmp 52), 3, none⟩),
 (0, ⟨some 54, .binOp .neq 3 (.tmp 51) (.tmp 53) 3, 4, none⟩),
 (0, ⟨some 55, .move (.tmp 54), 4, none⟩),
 (0, ⟨some 56, .move (.tmp 0), 22, (some (55, true))⟩),
 (0, ⟨some 57, .move (.tmp 6), 3, (some (55, true))⟩),
 (0, ⟨some 58, .indexAddr 22 (.tmp 56) (.tmp 57), 0, (some (55, true))⟩),
 (0, ⟨some 59, .fieldAddr 35 (.tmp 58) 1, 0, (some (55, true))⟩),
 (0, ⟨some 61, .fieldAddr 35 (.tmp 3) 1, 0, (some (55, true))⟩),
 (1, ⟨some 60, .load 3 (.tmp 59), 3, (some (55, true))⟩),
 (2, ⟨some 62, .load 3 (.tmp 61), 3, (some (55, true))⟩),
 (0, ⟨some 63, .binOp .eql 3 (.tmp 60) (.tmp 62) 3, 4, (some (55, true))⟩),
 (0, ⟨some 64, .pick (.tmp 55) (.tmp 63) (.const (.bool false)), 4, none⟩),
 (0, ⟨some 65, .move (.tmp 64), 4, none⟩),
 (0, ⟨some 66, .move (.tmp 0), 22, (some (65, true))⟩),
 (0, ⟨some 67, .move (.tmp 6), 3, (some (65, true))⟩),
 (0, ⟨some 68, .indexAddr 22 (.tmp 66) (.tmp 67), 0, (some (65, true))⟩),
 (1, ⟨some 69, .load 35 (.tmp 68), 35, (some (65, true))⟩),
 (2, ⟨some 70, .load 35 (.tmp 3), 35, (some (65, true))⟩),
 (2, ⟨some 71, .call ⟨.value (.func 23), #[(.tmp 69), (.tmp 70)], #[35, 35]⟩, 4, (some (65, true))⟩),
 (0, ⟨some 72, .unOp .not 4 (.tmp 71), 4, (some (65, true))⟩),
 (0, ⟨some 73, .pick (.tmp 65) (.tmp 72) (.const (.bool false)), 4, none⟩),
 (0, ⟨some 74, .move (.tmp 73), 4, none⟩),
 (0, ⟨some 76, .move (.tmp 0), 22, (some (74, true))⟩),
 (0, ⟨some 77, .move (.tmp 6), 3, (some (74, true))⟩),
 (0, ⟨some 78, .indexAddr 22 (.tmp 76) (.tmp 77), 0, (some (74, true))⟩),
 (1, ⟨some 75, .load 35 (.tmp 3), 35, (some (74, true))⟩),
 (2, ⟨some 79, .load 35 (.tmp 78), 35, (some (74, true))⟩),
 (2, ⟨some 80, .call ⟨.value (.func 23), #[(.tmp 75), (.tmp 79)], #[35, 35]⟩, 4, (some (74, true))⟩),
 (0, ⟨some 81, .unOp .not 4 (.tmp 80), 4, (some (74, true))⟩),
 (0, ⟨some 82, .pick (.tmp 74) (.tmp 81) (.const (.bool false)), 4, none⟩)]
theorem c43draw1 {L : List Nat} {ρ : Env} {w : World} {Q : Post} (S : World → Prop) (hS : S w.drew) (h : DG Try.prog S c43D1 L ρ w.drew Q) : drawW Try.prog (drawOps 1 c43code) L ρ w Q :=
  drawW_held [4, 13, 22, 28] [(0, 0), (0, 1), (0, 2), (0, 3), (0, 5), (1, 4), (2, 6), (0, 7), (0, 8), (0, 9), (0, 10), (0, 11), (0, 12), (0, 14), (1, 13), (2, 15), (0, 16), (0, 17), (0, 18), (0, 19), (0, 20), (0, 21), (1, 22), (2, 23), (2, 24), (0, 25), (0, 26), (0, 27), (0, 29), (0, 30), (0, 31), (1, 28), (2, 32), (2, 33), (0, 34), (0, 35)] c43D1 (by kernel_rfl) (by kernel_rfl) (by kernel_rfl) S hS h
set_option maxRecDepth 100000 in
theorem ent43 (a0 a1 : Value) (w : World) (K : Value → World → Prop) (h : W Try.prog c43 [(0, a0), (1, a1)] w (finQ Try.prog [.tmp 4] K)) : Ret Try.prog 43 [a0, a1] w K :=
  Ret_of_W (code := c43code) Try.func43 (by kernel_rfl) (by kernel_rfl) (of_decide_eq_true (by kernel_rfl)) h
--SIMP 43 c43 c43S0 c43S1 c43S2 c43L0 c43S3 c43S4 c43S5 c43L1 c43S6 c43S7 TYS 3 22 35 FNS 23
@[go_sem] theorem go43 : goFunc Try.prog 43 = true := by kernel_rfl
/- Function 65: slices.pdqsortCmpFunc[api.Op] -/
noncomputable def c65code : Code := match Try.f65.body with | some c => c | none => .skip
noncomputable def c65S0 (_ : Unit) : Cmd := .ret
noncomputable def c65S1 (_ : Unit) : Cmd := .ret
noncomputable def c65S2 (_ : Unit) : Cmd := (.ops [
  ⟨some 45, .move (.tmp 3), 3, none⟩,
  ⟨some 46, .binOp .sub 3 (.tmp 45) (.const (.int .i64 1)) 3, 3, none⟩,
  ⟨some 3, .assign (.tmp 46), 3, none⟩] [0, 1, 2, 3, 4, 10, 11, 12])
noncomputable def c65S3 (_ : Unit) : Cmd := (.seq (.ops [
  ⟨some 62, .move (.tmp 2), 3, none⟩,
  ⟨some 63, .binOp .sub 3 (.tmp 62) (.const (.int .i64 1)) 3, 3, none⟩,
  ⟨some 64, .move (.tmp 13), 3, none⟩,
  ⟨some 65, .move (.tmp 1), 3, none⟩,
  ⟨some 66, .binOp .sub 3 (.tmp 64) (.tmp 65) 3, 3, none⟩,
  ⟨some 67, .binOp .sub 3 (.tmp 63) (.tmp 66) 3, 3, none⟩,
  ⟨some 13, .assign (.tmp 67), 3, none⟩] [0, 1, 2, 3, 4, 10, 11, 12, 13])
  (.ops [
  ⟨some 14, .assign (.const (.int .i64 1)), 124, none⟩] [0, 1, 2, 3, 4, 10, 11, 12, 13, 14]))
noncomputable def c65S4 (_ : Unit) : Cmd := (.cond (.tmp 80)
   .ret
   (.skip [0, 1, 2, 3, 4, 10, 11, 12, 13]))
noncomputable def c65S5 (_ : Unit) : Cmd := (.seq (.ops [
  ⟨some 104, .move (.tmp 15), 3, none⟩,
  ⟨some 1, .assign (.tmp 104), 3, none⟩] [0, 1, 2, 3, 4, 10, 11])
  (.exit 1 [0, 1, 2, 3, 4, 10, 11]))
noncomputable def c65S6 (_ : Unit) : Cmd := (.cond (.tmp 97)
  (.seq (.ops [
  ⟨some 98, .move (.tmp 0), 22, none⟩,
  ⟨some 99, .move (.tmp 1), 3, none⟩,
  ⟨some 100, .move (.tmp 2), 3, none⟩,
  ⟨some 101, .move (.tmp 13), 3, none⟩,
  ⟨some 102, .move (.tmp 4), 62, none⟩,
  ⟨some 103, .call ⟨.value (.func 90), #[(.tmp 98), (.tmp 99), (.tmp 100), (.tmp 101), (.tmp 102)], #[22, 3, 3, 3, 62]⟩, 3, none⟩,
  ⟨some 15, .assign (.tmp 103), 3, none⟩] [0, 2, 3, 4, 10, 11, 15]) (sg c65S5))
  (.skip [0, 1, 2, 3, 4, 12, 13]))
noncomputable def c65S7 (_ : Unit) : Cmd := (.ops [
  ⟨some 135, .move (.tmp 16), 3, none⟩,
  ⟨some 136, .binOp .add 3 (.tmp 135) (.const (.int .i64 1)) 3, 3, none⟩,
  ⟨some 1, .assign (.tmp 136), 3, none⟩] [0, 1, 2, 3, 4, 10, 11])
noncomputable def c65S8 (_ : Unit) : Cmd := (.ops [
  ⟨some 147, .move (.tmp 16), 3, none⟩,
  ⟨some 2, .assign (.tmp 147), 3, none⟩] [0, 1, 2, 3, 4, 10, 11])
noncomputable def c65S9 (_ : Unit) : Cmd := (.seq (.ops [
 ⟨some 114, .move (.tmp 17), 4, none⟩,
 ⟨some 11, .assign (.tmp 114), 4, none⟩] [0, 1, 2, 3, 4, 11, 12, 16])
 (.seq (.ops [
 ⟨some 115, .move (.tmp 16), 3, none⟩,
 ⟨some 116, .move (.tmp 1), 3, none⟩,
 ⟨some 117, .binOp .sub 3 (.tmp 115) (.tmp 116) 3, 3, none⟩,
 ⟨some 118, .move (.tmp 2), 3, none⟩,
 ⟨some 119, .move (.tmp 16), 3, none⟩,
 ⟨some 120, .binOp .sub 3 (.tmp 118) (.tmp 119) 3, 3, none⟩,
 ⟨some 18, .assign (.tmp 117), 3, none⟩,
 ⟨some 19, .assign (.tmp 120), 3, none⟩] [0, 1, 2, 3, 4, 11, 12, 16, 18, 19])
 (.seq (.ops [
 ⟨some 121, .move (.tmp 12), 3, none⟩,
 ⟨some 122, .binOp .quo 3 (.tmp 121) (.const (.int .i64 8)) 3, 3, none⟩,
 ⟨some 20, .assign (.tmp 122), 3, none⟩] [0, 1, 2, 3, 4, 11, 16, 18, 19, 20])
 (.seq (.ops [
 ⟨some 123, .move (.tmp 18), 3, none⟩,
 ⟨some 124, .move (.tmp 19), 3, none⟩,
 ⟨some 125, .binOp .lss 3 (.tmp 123) (.tmp 124) 3, 4, none⟩] [0, 1, 2, 3, 4, 11, 16, 18, 19, 20, 125])
 (.cond (.tmp 125)
  (.seq (.ops [
  ⟨some 126, .move (.tmp 18), 3, none⟩,
  ⟨some 127, .move (.tmp 20), 3, none⟩,
  ⟨some 128, .binOp .geq 3 (.tmp 126) (.tmp 127) 3, 4, none⟩,
  ⟨some 10, .assign (.tmp 128), 4, none⟩] [0, 1, 2, 3, 4, 10, 11, 16])
  (.seq (.ops [
  ⟨some 129, .move (.tmp 0), 22, none⟩,
  ⟨some 130, .move (.tmp 1), 3, none⟩,
  ⟨some 131, .move (.tmp 16), 3, none⟩,
  ⟨some 132, .move (.tmp 3), 3, none⟩,
  ⟨some 133, .move (.tmp 4), 62, none⟩,
  ⟨some 134, .call ⟨.value (.func 65), #[(.tmp 129), (.tmp 130), (.tmp 131), (.tmp 132), (.tmp 133)], #[22, 3, 3, 3, 62]⟩, 0, none⟩] [0, 2, 3, 4, 10, 11, 16]) (sg c65S7)))
  (.seq (.ops [
  ⟨some 137, .move (.tmp 19), 3, none⟩,
  ⟨some 138, .move (.tmp 20), 3, none⟩,
  ⟨some 139, .binOp .geq 3 (.tmp 137) (.tmp 138) 3, 4, none⟩,
  ⟨some 10, .assign (.tmp 139), 4, none⟩] [0, 1, 2, 3, 4, 10, 11, 16])
  (.seq (.ops [
  ⟨some 140, .move (.tmp 0), 22, none⟩,
  ⟨some 141, .move (.tmp 16), 3, none⟩,
  ⟨some 142, .binOp .add 3 (.tmp 141) (.const (.int .i64 1)) 3, 3, none⟩,
  ⟨some 143, .move (.tmp 2), 3, none⟩,
  ⟨some 144, .move (.tmp 3), 3, none⟩,
  ⟨some 145, .move (.tmp 4), 62, none⟩,
  ⟨some 146, .call ⟨.value (.func 65), #[(.tmp 140), (.tmp 142), (.tmp 143), (.tmp 144), (.tmp 145)], #[22, 3, 3, 3, 62]⟩, 0, none⟩] [0, 1, 3, 4, 10, 11, 16]) (sg c65S8))))))))
noncomputable def c65S10 (_ : Unit) : Cmd := (.seq (.ops [
 ⟨some 106, .move (.tmp 0), 22, none⟩,
 ⟨some 107, .move (.tmp 1), 3, none⟩,
 ⟨some 108, .move (.tmp 2), 3, none⟩,
 ⟨some 109, .move (.tmp 13), 3, none⟩,
 ⟨some 110, .move (.tmp 4), 62, none⟩,
 ⟨some 111, .call ⟨.value (.func 91), #[(.tmp 106), (.tmp 107), (.tmp 108), (.tmp 109), (.tmp 110)], #[22, 3, 3, 3, 62]⟩, 129, none⟩,
 ⟨some 105, .move (.tmp 111), 129, none⟩,
 ⟨some 112, .extract (.tmp 105) 0, 3, none⟩,
 ⟨some 113, .extract (.tmp 105) 1, 4, none⟩,
 ⟨some 16, .assign (.tmp 112), 3, none⟩,
 ⟨some 17, .assign (.tmp 113), 4, none⟩] [0, 1, 2, 3, 4, 12, 16, 17]) (sg c65S9))
noncomputable def c65S11 (_ : Unit) : Cmd := (.seq (.seq (.draw (drawOps 0 c65code) [0, 1, 2, 3, 4, 10, 11, 12, 13, 97]) (sg c65S6)) (sg c65S10))
noncomputable def c65S12 (_ : Unit) : Cmd := (.seq (.seq (.ops [
 ⟨some 68, .move (.tmp 10), 4, none⟩,
 ⟨some 69, .move (.tmp 68), 4, none⟩,
 ⟨some 70, .move (.tmp 11), 4, (some (69, true))⟩,
 ⟨some 71, .pick (.tmp 69) (.tmp 70) (.const (.bool false)), 4, none⟩,
 ⟨some 72, .move (.tmp 71), 4, none⟩,
 ⟨some 73, .move (.tmp 14), 124, (some (72, true))⟩,
 ⟨some 74, .binOp .eql 124 (.tmp 73) (.const (.int .i64 1)) 124, 4, (some (72, true))⟩,
 ⟨some 75, .pick (.tmp 72) (.tmp 74) (.const (.bool false)), 4, none⟩] [0, 1, 2, 3, 4, 10, 11, 12, 13, 75])
 (.cond (.tmp 75)
  (.seq (.ops [
  ⟨some 76, .move (.tmp 0), 22, none⟩,
  ⟨some 77, .move (.tmp 1), 3, none⟩,
  ⟨some 78, .move (.tmp 2), 3, none⟩,
  ⟨some 79, .move (.tmp 4), 62, none⟩,
  ⟨some 80, .call ⟨.value (.func 89), #[(.tmp 76), (.tmp 77), (.tmp 78), (.tmp 79)], #[22, 3, 3, 62]⟩, 4, none⟩] [0, 1, 2, 3, 4, 10, 11, 12, 13, 80]) (sg c65S4))
  (.skip [0, 1, 2, 3, 4, 10, 11, 12, 13]))) (sg c65S11))
noncomputable def c65S13 (_ : Unit) : Cmd := (.seq (.seq (.ops [
 ⟨some 55, .move (.tmp 14), 124, none⟩,
 ⟨some 56, .binOp .eql 124 (.tmp 55) (.const (.int .i64 2)) 124, 4, none⟩] [0, 1, 2, 3, 4, 10, 11, 12, 13, 14, 56])
 (.cond (.tmp 56)
  (.seq (.ops [
  ⟨some 57, .move (.tmp 0), 22, none⟩,
  ⟨some 58, .move (.tmp 1), 3, none⟩,
  ⟨some 59, .move (.tmp 2), 3, none⟩,
  ⟨some 60, .move (.tmp 4), 62, none⟩,
  ⟨some 61, .call ⟨.value (.func 88), #[(.tmp 57), (.tmp 58), (.tmp 59), (.tmp 60)], #[22, 3, 3, 62]⟩, 0, none⟩] [0, 1, 2, 3, 4, 10, 11, 12, 13]) (sg c65S3))
  (.skip [0, 1, 2, 3, 4, 10, 11, 12, 13, 14]))) (sg c65S12))
noncomputable def c65S14 (_ : Unit) : Cmd := (.seq (.ops [
 ⟨some 48, .move (.tmp 0), 22, none⟩,
 ⟨some 49, .move (.tmp 1), 3, none⟩,
 ⟨some 50, .move (.tmp 2), 3, none⟩,
 ⟨some 51, .move (.tmp 4), 62, none⟩,
 ⟨some 52, .call ⟨.value (.func 87), #[(.tmp 48), (.tmp 49), (.tmp 50), (.tmp 51)], #[22, 3, 3, 62]⟩, 125, none⟩,
 ⟨some 47, .move (.tmp 52), 125, none⟩,
 ⟨some 53, .extract (.tmp 47) 0, 3, none⟩,
 ⟨some 54, .extract (.tmp 47) 1, 124, none⟩,
 ⟨some 13, .assign (.tmp 53), 3, none⟩,
 ⟨some 14, .assign (.tmp 54), 124, none⟩] [0, 1, 2, 3, 4, 10, 11, 12, 13, 14]) (sg c65S13))
noncomputable def c65S15 (_ : Unit) : Cmd := (.seq (.seq (.ops [
 ⟨some 38, .move (.tmp 10), 4, none⟩,
 ⟨some 39, .unOp .not 4 (.tmp 38), 4, none⟩] [0, 1, 2, 3, 4, 10, 11, 12, 39])
 (.cond (.tmp 39)
  (.seq (.ops [
  ⟨some 40, .move (.tmp 0), 22, none⟩,
  ⟨some 41, .move (.tmp 1), 3, none⟩,
  ⟨some 42, .move (.tmp 2), 3, none⟩,
  ⟨some 43, .move (.tmp 4), 62, none⟩,
  ⟨some 44, .call ⟨.value (.func 86), #[(.tmp 40), (.tmp 41), (.tmp 42), (.tmp 43)], #[22, 3, 3, 62]⟩, 0, none⟩] [0, 1, 2, 3, 4, 10, 11, 12]) (sg c65S2))
  (.skip [0, 1, 2, 3, 4, 10, 11, 12]))) (sg c65S14))
noncomputable def c65S16 (_ : Unit) : Cmd := (.seq (.seq (.ops [
 ⟨some 31, .move (.tmp 3), 3, none⟩,
 ⟨some 32, .binOp .eql 3 (.tmp 31) (.const (.int .i64 0)) 3, 4, none⟩] [0, 1, 2, 3, 4, 10, 11, 12, 32])
 (.cond (.tmp 32)
  (.seq (.ops [
  ⟨some 33, .move (.tmp 0), 22, none⟩,
  ⟨some 34, .move (.tmp 1), 3, none⟩,
  ⟨some 35, .move (.tmp 2), 3, none⟩,
  ⟨some 36, .move (.tmp 4), 62, none⟩,
  ⟨some 37, .call ⟨.value (.func 85), #[(.tmp 33), (.tmp 34), (.tmp 35), (.tmp 36)], #[22, 3, 3, 62]⟩, 0, none⟩] []) (sg c65S1))
  (.skip [0, 1, 2, 3, 4, 10, 11, 12]))) (sg c65S15))
noncomputable def c65L0 (_ : Unit) : Cmd := (.block 1 (.seq (.ops [
 ⟨some 21, .move (.tmp 2), 3, none⟩,
 ⟨some 22, .move (.tmp 1), 3, none⟩,
 ⟨some 23, .binOp .sub 3 (.tmp 21) (.tmp 22) 3, 3, none⟩,
 ⟨some 12, .assign (.tmp 23), 3, none⟩] [0, 1, 2, 3, 4, 10, 11, 12])
 (.seq (.seq (.ops [
 ⟨some 24, .move (.tmp 12), 3, none⟩,
 ⟨some 25, .binOp .leq 3 (.tmp 24) (.const (.int .i64 12)) 3, 4, none⟩] [0, 1, 2, 3, 4, 10, 11, 12, 25])
 (.cond (.tmp 25)
  (.seq (.ops [
  ⟨some 26, .move (.tmp 0), 22, none⟩,
  ⟨some 27, .move (.tmp 1), 3, none⟩,
  ⟨some 28, .move (.tmp 2), 3, none⟩,
  ⟨some 29, .move (.tmp 4), 62, none⟩,
  ⟨some 30, .call ⟨.value (.func 84), #[(.tmp 26), (.tmp 27), (.tmp 28), (.tmp 29)], #[22, 3, 3, 62]⟩, 0, none⟩] []) (sg c65S0))
  (.skip [0, 1, 2, 3, 4, 10, 11, 12]))) (sg c65S16))))
noncomputable def c65 : Cmd := (.seq (.ops [
 ⟨some 10, .assign (.const (.bool true)), 4, none⟩] [0, 1, 2, 3, 4, 10])
 (.seq (.ops [
 ⟨some 11, .assign (.const (.bool true)), 4, none⟩] [0, 1, 2, 3, 4, 10, 11])
 (.block 0 (.loop (sg c65L0)))))
noncomputable def c65D0 : List (Nat × Ins) := [
 (0, ⟨some 81, .move (.tmp 1), 3, none⟩),
 (0, ⟨some 82, .binOp .gtr 3 (.tmp 81) (.const (.int .i64 0)) 3, 4, none⟩),
 (0, ⟨some 83, .move (.tmp 82), 4, none⟩),
 (0, ⟨some 84, .move (.tmp 4), 62, (some (83, true))⟩),
 (0, ⟨some 85, .move (.tmp 0), 22, (some (83, true))⟩),
 (0, ⟨some 86, .move (.tmp 1), 3, (some (83, true))⟩),
 (0, ⟨some 87, .binOp .sub 3 (.tmp 86) (.const (.int .i64 1)) 3, 3, (some (83, true))⟩),
 (0, ⟨some 88, .indexAddr 22 (.tmp 85) (.tmp 87), 0, (some (83, true))⟩),
 (0, ⟨some 90, .move (.tmp 0), 22, (some (83, true))⟩),
 (0, ⟨some 91, .move (.tmp 13), 3, (some (83, true))⟩),
 (0, ⟨some 92, .indexAddr 22 (.tmp 90) (.tmp 91), 0, (some (83, true))⟩),
 (1, ⟨some 89, .load 35 (.tmp 88), 35, (some (83, true))⟩),
 (2, ⟨some 93, .load 35 (.tmp 92), 35, (some (83, true))⟩),
 (3, ⟨some 94, .call ⟨.value (.tmp 84), #[(.tmp 89), (.tmp 93)], #[35, 35]⟩, 3, (some (83, true))⟩),
 (0, ⟨some 95, .binOp .lss 3 (.tmp 94) (.const (.int .i64 0)) 3, 4, (some (83, true))⟩),
 (0, ⟨some 96, .unOp .not 4 (.tmp 95), 4, (some (83, true))⟩),
 (0, ⟨some 97, .pick (.tmp 83) (.tmp 96) (.const (.bool false)), 4, none⟩)]
theorem c65draw0 {L : List Nat} {ρ : Env} {w : World} {Q : Post} (S : World → Prop) (hS : S w.drew) (h : DG Try.prog S c65D0 L ρ w.drew Q) : drawW Try.prog (drawOps 0 c65code) L ρ w Q :=
  drawW_held [8] [(0, 0), (0, 1), (0, 2), (0, 3), (0, 4), (0, 5), (0, 6), (0, 7), (0, 9), (0, 10), (0, 11), (1, 8), (2, 12), (3, 13), (0, 14), (0, 15), (0, 16)] c65D0 (by kernel_rfl) (by kernel_rfl) (by kernel_rfl) S hS h
set_option maxRecDepth 100000 in
theorem ent65 (a0 a1 a2 a3 a4 : Value) (w : World) (K : Value → World → Prop) (h : W Try.prog c65 [(0, a0), (1, a1), (2, a2), (3, a3), (4, a4)] w (finQ Try.prog [] K)) : Ret Try.prog 65 [a0, a1, a2, a3, a4] w K :=
  Ret_of_W (code := c65code) Try.func65 (by kernel_rfl) (by kernel_rfl) (of_decide_eq_true (by kernel_rfl)) h
--SIMP 65 c65 c65S0 c65S1 c65S2 c65S3 c65S4 c65S5 c65S6 c65S7 c65S8 c65S9 c65S10 c65S11 c65S12 c65S13 c65S14 c65S15 c65S16 c65L0 TYS 3 22 35 124 FNS 65 84 85 86 87 88 89 90 91
@[go_sem] theorem go65 : goFunc Try.prog 65 = true := by kernel_rfl
/- Function 67: slices.ContainsFunc[[]api.Op,api.Op] -/
noncomputable def c67code : Code := match Try.f67.body with | some c => c | none => .skip
noncomputable def c67S0 (_ : Unit) : Cmd := .ret
noncomputable def c67 : Cmd := (.seq (.ops [
 ⟨some 4, .assign (.const (.bool false)), 4, none⟩] [0, 1])
 (.seq (.ops [
 ⟨some 5, .move (.tmp 0), 22, none⟩,
 ⟨some 6, .move (.tmp 1), 103, none⟩,
 ⟨some 7, .call ⟨.value (.func 94), #[(.tmp 5), (.tmp 6)], #[22, 103]⟩, 3, none⟩,
 ⟨some 8, .binOp .geq 3 (.tmp 7) (.const (.int .i64 0)) 3, 4, none⟩,
 ⟨some 4, .assign (.tmp 8), 4, none⟩] [4]) (sg c67S0)))
set_option maxRecDepth 100000 in
theorem ent67 (a0 a1 : Value) (w : World) (K : Value → World → Prop) (h : W Try.prog c67 [(0, a0), (1, a1)] w (finQ Try.prog [.tmp 4] K)) : Ret Try.prog 67 [a0, a1] w K :=
  Ret_of_W (code := c67code) Try.func67 (by kernel_rfl) (by kernel_rfl) (of_decide_eq_true (by kernel_rfl)) h
--SIMP 67 c67 c67S0 TYS 3 FNS 94
@[go_sem] theorem go67 : goFunc Try.prog 67 = true := by kernel_rfl
/- Function 68: cut.quiet$1 -/
noncomputable def c68code : Code := match Try.f68.body with | some c => c | none => .skip
noncomputable def c68S0 (_ : Unit) : Cmd := .ret
noncomputable def c68 : Cmd := (.seq (.ops [
 ⟨some 2, .box 35 (.tmp 0), 0, none⟩,
 ⟨some 3, .assign (.const (.bool false)), 4, none⟩] [1, 2])
 (.seq (.ops [
 ⟨some 4, .load 35 (.tmp 2), 35, none⟩,
 ⟨some 5, .load 35 (.tmp 1), 35, none⟩,
 ⟨some 6, .call ⟨.value (.func 69), #[(.tmp 4), (.tmp 5)], #[35, 35]⟩, 4, none⟩,
 ⟨some 7, .unOp .not 4 (.tmp 6), 4, none⟩,
 ⟨some 3, .assign (.tmp 7), 4, none⟩] [3]) (sg c68S0)))
set_option maxRecDepth 100000 in
theorem ent68 (a0 a1 : Value) (w : World) (K : Value → World → Prop) (h : W Try.prog c68 [(0, a0), (1, a1)] w (finQ Try.prog [.tmp 3] K)) : Ret Try.prog 68 [a0, a1] w K :=
  Ret_of_W (code := c68code) Try.func68 (by kernel_rfl) (by kernel_rfl) (of_decide_eq_true (by kernel_rfl)) h
--SIMP 68 c68 c68S0 TYS 35 FNS 69
@[go_sem] theorem go68 : goFunc Try.prog 68 = true := by kernel_rfl
/- Function 69: op.Before -/
noncomputable def c69code : Code := match Try.f69.body with | some c => c | none => .skip
noncomputable def c69 : Cmd := (.seq (.ops [
 ⟨some 2, .box 35 (.tmp 0), 0, none⟩,
 ⟨some 3, .box 35 (.tmp 1), 0, none⟩,
 ⟨some 4, .assign (.const (.bool false)), 4, none⟩] [2, 3])
 (.seq (.ops [
 ⟨some 5, .fieldAddr 35 (.tmp 2) 7, 0, none⟩,
 ⟨some 6, .load 4 (.tmp 5), 4, none⟩,
 ⟨some 7, .move (.tmp 6), 4, none⟩,
 ⟨some 8, .fieldAddr 35 (.tmp 2) 10, 0, (some (7, true))⟩,
 ⟨some 9, .load 3 (.tmp 8), 3, (some (7, true))⟩,
 ⟨some 10, .fieldAddr 35 (.tmp 3) 9, 0, (some (7, true))⟩,
 ⟨some 11, .load 3 (.tmp 10), 3, (some (7, true))⟩,
 ⟨some 12, .binOp .lss 3 (.tmp 9) (.tmp 11) 3, 4, (some (7, true))⟩,
 ⟨some 13, .pick (.tmp 7) (.tmp 12) (.const (.bool false)), 4, none⟩,
 ⟨some 4, .assign (.tmp 13), 4, none⟩] [4])
 .ret))
set_option maxRecDepth 100000 in
theorem ent69 (a0 a1 : Value) (w : World) (K : Value → World → Prop) (h : W Try.prog c69 [(0, a0), (1, a1)] w (finQ Try.prog [.tmp 4] K)) : Ret Try.prog 69 [a0, a1] w K :=
  Ret_of_W (code := c69code) Try.func69 (by kernel_rfl) (by kernel_rfl) (of_decide_eq_true (by kernel_rfl)) h
--SIMP 69 c69 TYS 3 4 35 FNS 
@[go_sem] theorem go69 : goFunc Try.prog 69 = true := by kernel_rfl
/- Function 70: cmp.isNaN[int] -/
noncomputable def c70code : Code := match Try.f70.body with | some c => c | none => .skip
noncomputable def c70 : Cmd := (.seq (.ops [
 ⟨some 2, .assign (.const (.bool false)), 4, none⟩] [0])
 (.seq (.ops [
 ⟨some 3, .move (.tmp 0), 3, none⟩,
 ⟨some 4, .move (.tmp 0), 3, none⟩,
 ⟨some 5, .binOp .neq 3 (.tmp 3) (.tmp 4) 3, 4, none⟩,
 ⟨some 2, .assign (.tmp 5), 4, none⟩] [2])
 .ret))
set_option maxRecDepth 100000 in
theorem ent70 (a0 : Value) (w : World) (K : Value → World → Prop) (h : W Try.prog c70 [(0, a0)] w (finQ Try.prog [.tmp 2] K)) : Ret Try.prog 70 [a0] w K :=
  Ret_of_W (code := c70code) Try.func70 (by kernel_rfl) (by kernel_rfl) (of_decide_eq_true (by kernel_rfl)) h
--SIMP 70 c70 TYS 3 FNS 
@[go_sem] theorem go70 : goFunc Try.prog 70 = true := by kernel_rfl
/- Function 71: annalistref10.between -/
noncomputable def c71code : Code := match Try.f71.body with | some c => c | none => .skip
noncomputable def c71 : Cmd := (.seq (.ops [
 ⟨some 6, .assign (.const (.bool false)), 4, none⟩] [0, 1, 2])
 (.seq (.ops [
 ⟨some 7, .move (.tmp 0), 3, none⟩,
 ⟨some 8, .move (.tmp 1), 3, none⟩,
 ⟨some 9, .binOp .geq 3 (.tmp 7) (.tmp 8) 3, 4, none⟩,
 ⟨some 10, .move (.tmp 9), 4, none⟩,
 ⟨some 11, .move (.tmp 0), 3, (some (10, true))⟩,
 ⟨some 12, .move (.tmp 2), 3, (some (10, true))⟩,
 ⟨some 13, .binOp .leq 3 (.tmp 11) (.tmp 12) 3, 4, (some (10, true))⟩,
 ⟨some 14, .pick (.tmp 10) (.tmp 13) (.const (.bool false)), 4, none⟩,
 ⟨some 6, .assign (.tmp 14), 4, none⟩] [6])
 .ret))
set_option maxRecDepth 100000 in
theorem ent71 (a0 a1 a2 : Value) (w : World) (K : Value → World → Prop) (h : W Try.prog c71 [(0, a0), (1, a1), (2, a2)] w (finQ Try.prog [.tmp 6] K)) : Ret Try.prog 71 [a0, a1, a2] w K :=
  Ret_of_W (code := c71code) Try.func71 (by kernel_rfl) (by kernel_rfl) (of_decide_eq_true (by kernel_rfl)) h
--SIMP 71 c71 TYS 3 FNS 
@[go_sem] theorem go71 : goFunc Try.prog 71 = true := by kernel_rfl
/- Function 72: annalistref10.Find -/
noncomputable def c72code : Code := match Try.f72.body with | some c => c | none => .skip
noncomputable def c72S0 (_ : Unit) : Cmd := (.ops [
 ⟨some 13, .move (.tmp 7), 3, none⟩,
 ⟨some 14, .binOp .add 3 (.tmp 13) (.const (.int .i64 1)) 3, 3, none⟩,
 ⟨some 7, .assign (.tmp 14), 3, none⟩] [0, 1, 4, 6, 7])
noncomputable def c72S1 (_ : Unit) : Cmd := (.seq (.block 1 (.seq (.ops [
 ⟨some 15, .move (.tmp 6), 134, none⟩,
 ⟨some 16, .move (.tmp 7), 3, none⟩,
 ⟨some 17, .indexAddr 134 (.tmp 15) (.tmp 16), 0, none⟩,
 ⟨some 18, .fieldAddr 107 (.tmp 17) 0, 0, none⟩,
 ⟨some 19, .load 3 (.tmp 18), 3, none⟩,
 ⟨some 20, .move (.tmp 0), 3, none⟩,
 ⟨some 21, .binOp .eql 3 (.tmp 19) (.tmp 20) 3, 4, none⟩,
 ⟨some 22, .move (.tmp 21), 4, none⟩,
 ⟨some 23, .move (.tmp 6), 134, (some (22, true))⟩,
 ⟨some 24, .move (.tmp 7), 3, (some (22, true))⟩,
 ⟨some 25, .indexAddr 134 (.tmp 23) (.tmp 24), 0, (some (22, true))⟩,
 ⟨some 26, .fieldAddr 107 (.tmp 25) 1, 0, (some (22, true))⟩,
 ⟨some 27, .load 3 (.tmp 26), 3, (some (22, true))⟩,
 ⟨some 28, .move (.tmp 1), 3, (some (22, true))⟩,
 ⟨some 29, .binOp .eql 3 (.tmp 27) (.tmp 28) 3, 4, (some (22, true))⟩,
 ⟨some 30, .pick (.tmp 22) (.tmp 29) (.const (.bool false)), 4, none⟩] [0, 1, 4, 6, 7, 30])
 (.cond (.tmp 30)
  (.seq (.ops [
  ⟨some 31, .move (.tmp 6), 134, none⟩,
  ⟨some 32, .move (.tmp 7), 3, none⟩,
  ⟨some 33, .indexAddr 134 (.tmp 31) (.tmp 32), 0, none⟩,
  ⟨some 34, .load 107 (.tmp 33), 107, none⟩,
  ⟨none, .store 107 (.tmp 4) (.tmp 34), 0, none⟩,
  ⟨some 5, .assign (.const (.bool true)), 4, none⟩] [4, 5])
  .ret)
  (.skip [0, 1, 4, 6, 7])))) (sg c72S0))
noncomputable def c72L0 (_ : Unit) : Cmd := (.seq (.seq (.ops [
 ⟨some 9, .move (.tmp 7), 3, none⟩,
 ⟨some 10, .move (.tmp 6), 134, none⟩,
 ⟨some 11, .call ⟨.builtin .len, #[(.tmp 10)], #[134]⟩, 3, none⟩,
 ⟨some 12, .binOp .lss 3 (.tmp 9) (.tmp 11) 3, 4, none⟩] [0, 1, 4, 6, 7, 12])
 (.cond (.tmp 12)
  (.skip [0, 1, 4, 6, 7])
  (.exit 0 [4]))) (sg c72S1))
noncomputable def c72S2 (_ : Unit) : Cmd := (.seq (.ops [
 ⟨some 35, .build 107 #[], 107, none⟩,
 ⟨none, .store 107 (.tmp 4) (.tmp 35), 0, none⟩,
 ⟨some 5, .assign (.const (.bool false)), 4, none⟩] [4, 5])
 .ret)
noncomputable def c72S3 (_ : Unit) : Cmd := (.seq (.seq (.ops [
 ⟨some 7, .assign (.const (.int .i64 0)), 3, none⟩] [0, 1, 4, 6, 7])
 (.block 0 (.loop (sg c72L0)))) (sg c72S2))
noncomputable def c72 : Cmd := (.seq (.ops [
 ⟨some 4, .alloc 107, 0, none⟩,
 ⟨some 5, .assign (.const (.bool false)), 4, none⟩] [0, 1, 4])
 (.seq (.ops [
 ⟨some 8, .call ⟨.value (.func 95), #[], #[]⟩, 134, none⟩,
 ⟨some 6, .assign (.tmp 8), 134, none⟩] [0, 1, 4, 6]) (sg c72S3)))
set_option maxRecDepth 100000 in
theorem ent72 (a0 a1 : Value) (w : World) (K : Value → World → Prop) (h : W Try.prog c72 [(0, a0), (1, a1)] w (finQ Try.prog [.cell 4 107, .tmp 5] K)) : Ret Try.prog 72 [a0, a1] w K :=
  Ret_of_W (code := c72code) Try.func72 (by kernel_rfl) (by kernel_rfl) (of_decide_eq_true (by kernel_rfl)) h
--SIMP 72 c72 c72S0 c72S1 c72L0 c72S2 c72S3 TYS 3 107 134 FNS 95
@[go_sem] theorem go72 : goFunc Try.prog 72 = true := by kernel_rfl
/- Function 73: annalistref10.answer -/
noncomputable def c73code : Code := match Try.f73.body with | some c => c | none => .skip
noncomputable def c73S0 (_ : Unit) : Cmd := .ret
noncomputable def c73S1 (_ : Unit) : Cmd := .ret
noncomputable def c73S2 (_ : Unit) : Cmd := .ret
noncomputable def c73S3 (_ : Unit) : Cmd := (.seq (.ops [
 ⟨some 25, .move (.tmp 0), 3, none⟩,
 ⟨some 26, .call ⟨.value (.func 71), #[(.tmp 25), (.const (.int .i64 (-1))), (.const (.int .i64 1073741824))], #[3, 3, 3]⟩, 4, none⟩,
 ⟨some 4, .assign (.tmp 26), 4, none⟩] [4]) (sg c73S2))
noncomputable def c73S4 (_ : Unit) : Cmd := (.seq (.seq (.ops [
 ⟨some 21, .move (.tmp 1), 3, none⟩,
 ⟨some 22, .binOp .eql 3 (.tmp 21) (.const (.int .i64 3)) 3, 4, none⟩] [0, 22])
 (.cond (.tmp 22)
  (.seq (.ops [
  ⟨some 23, .move (.tmp 0), 3, none⟩,
  ⟨some 24, .call ⟨.value (.func 71), #[(.tmp 23), (.const (.int .i64 (-1073741824))), (.const (.int .i64 1073741824))], #[3, 3, 3]⟩, 4, none⟩,
  ⟨some 4, .assign (.tmp 24), 4, none⟩] [4]) (sg c73S1))
  (.skip [0]))) (sg c73S3))
noncomputable def c73S5 (_ : Unit) : Cmd := (.seq (.seq (.ops [
 ⟨some 17, .move (.tmp 1), 3, none⟩,
 ⟨some 18, .binOp .eql 3 (.tmp 17) (.const (.int .i64 2)) 3, 4, none⟩] [0, 1, 18])
 (.cond (.tmp 18)
  (.seq (.ops [
  ⟨some 19, .move (.tmp 0), 3, none⟩,
  ⟨some 20, .call ⟨.value (.func 71), #[(.tmp 19), (.const (.int .i64 0)), (.const (.int .i64 1073741824))], #[3, 3, 3]⟩, 4, none⟩,
  ⟨some 4, .assign (.tmp 20), 4, none⟩] [4]) (sg c73S0))
  (.skip [0, 1]))) (sg c73S4))
noncomputable def c73S6 (_ : Unit) : Cmd := (.seq (.seq (.ops [
 ⟨some 9, .move (.tmp 1), 3, none⟩,
 ⟨some 10, .binOp .eql 3 (.tmp 9) (.const (.int .i64 1)) 3, 4, none⟩] [0, 1, 10])
 (.cond (.tmp 10)
  (.seq (.ops [
  ⟨some 11, .move (.tmp 0), 3, none⟩,
  ⟨some 12, .binOp .eql 3 (.tmp 11) (.const (.int .i64 0)) 3, 4, none⟩,
  ⟨some 13, .move (.tmp 12), 4, none⟩,
  ⟨some 14, .move (.tmp 0), 3, (some (13, false))⟩,
  ⟨some 15, .binOp .eql 3 (.tmp 14) (.const (.int .i64 1)) 3, 4, (some (13, false))⟩,
  ⟨some 16, .pick (.tmp 13) (.const (.bool true)) (.tmp 15), 4, none⟩,
  ⟨some 4, .assign (.tmp 16), 4, none⟩] [4])
  .ret)
  (.skip [0, 1]))) (sg c73S5))
noncomputable def c73 : Cmd := (.seq (.ops [
 ⟨some 4, .assign (.const (.bool false)), 4, none⟩] [0, 1])
 (.seq (.seq (.ops [
 ⟨some 5, .move (.tmp 1), 3, none⟩,
 ⟨some 6, .binOp .eql 3 (.tmp 5) (.const (.int .i64 0)) 3, 4, none⟩] [0, 1, 6])
 (.cond (.tmp 6)
  (.seq (.ops [
  ⟨some 7, .move (.tmp 0), 3, none⟩,
  ⟨some 8, .binOp .eql 3 (.tmp 7) (.const (.int .i64 0)) 3, 4, none⟩,
  ⟨some 4, .assign (.tmp 8), 4, none⟩] [4])
  .ret)
  (.skip [0, 1]))) (sg c73S6)))
set_option maxRecDepth 100000 in
theorem ent73 (a0 a1 : Value) (w : World) (K : Value → World → Prop) (h : W Try.prog c73 [(0, a0), (1, a1)] w (finQ Try.prog [.tmp 4] K)) : Ret Try.prog 73 [a0, a1] w K :=
  Ret_of_W (code := c73code) Try.func73 (by kernel_rfl) (by kernel_rfl) (of_decide_eq_true (by kernel_rfl)) h
--SIMP 73 c73 c73S0 c73S1 c73S2 c73S3 c73S4 c73S5 c73S6 TYS 3 FNS 71
@[go_sem] theorem go73 : goFunc Try.prog 73 = true := by kernel_rfl
/- Function 84: slices.insertionSortCmpFunc[api.Op] -/
noncomputable def c84code : Code := match Try.f84.body with | some c => c | none => .skip
noncomputable def c84S0 (_ : Unit) : Cmd := (.cond (.tmp 34)
  (.skip [0, 1, 2, 3, 8, 9])
  (.exit 2 [0, 1, 2, 3, 8]))
noncomputable def c84S1 (_ : Unit) : Cmd := (.ops [
 ⟨some 35, .move (.tmp 9), 3, none⟩,
 ⟨some 36, .binOp .sub 3 (.tmp 35) (.const (.int .i64 1)) 3, 3, none⟩,
 ⟨some 9, .assign (.tmp 36), 3, none⟩] [0, 1, 2, 3, 8, 9])
noncomputable def c84S2 (_ : Unit) : Cmd := (.seq (.block 3 (.draw (drawOps 1 c84code) [0, 1, 2, 3, 8, 9])) (sg c84S1))
noncomputable def c84L0 (_ : Unit) : Cmd := (.seq (.seq (.draw (drawOps 0 c84code) [0, 1, 2, 3, 8, 9, 34]) (sg c84S0)) (sg c84S2))
noncomputable def c84S3 (_ : Unit) : Cmd := (.ops [
 ⟨some 15, .move (.tmp 8), 3, none⟩,
 ⟨some 16, .binOp .add 3 (.tmp 15) (.const (.int .i64 1)) 3, 3, none⟩,
 ⟨some 8, .assign (.tmp 16), 3, none⟩] [0, 1, 2, 3, 8])
noncomputable def c84S4 (_ : Unit) : Cmd := (.seq (.block 1 (.seq (.ops [
 ⟨some 17, .move (.tmp 8), 3, none⟩,
 ⟨some 9, .assign (.tmp 17), 3, none⟩] [0, 1, 2, 3, 8, 9])
 (.block 2 (.loop (sg c84L0))))) (sg c84S3))
noncomputable def c84L1 (_ : Unit) : Cmd := (.seq (.seq (.ops [
 ⟨some 12, .move (.tmp 8), 3, none⟩,
 ⟨some 13, .move (.tmp 2), 3, none⟩,
 ⟨some 14, .binOp .lss 3 (.tmp 12) (.tmp 13) 3, 4, none⟩] [0, 1, 2, 3, 8, 14])
 (.cond (.tmp 14)
  (.skip [0, 1, 2, 3, 8])
  (.exit 0 []))) (sg c84S4))
noncomputable def c84 : Cmd := (.seq (.ops [
 ⟨some 10, .move (.tmp 1), 3, none⟩,
 ⟨some 11, .binOp .add 3 (.tmp 10) (.const (.int .i64 1)) 3, 3, none⟩,
 ⟨some 8, .assign (.tmp 11), 3, none⟩] [0, 1, 2, 3, 8])
 (.block 0 (.loop (sg c84L1))))
noncomputable def c84D0 : List (Nat × Ins) := [
 (0, ⟨some 18, .move (.tmp 9), 3, none⟩),
 (0, ⟨some 19, .move (.tmp 1), 3, none⟩),
 (0, ⟨some 20, .binOp .gtr 3 (.tmp 18) (.tmp 19) 3, 4, none⟩),
 (0, ⟨some 21, .move (.tmp 20), 4, none⟩),
 (0, ⟨some 22, .move (.tmp 3), 62, (some (21, true))⟩),
 (0, ⟨some 23, .move (.tmp 0), 22, (some (21, true))⟩),
 (0, ⟨some 24, .move (.tmp 9), 3, (some (21, true))⟩),
 (0, ⟨some 25, .indexAddr 22 (.tmp 23) (.tmp 24), 0, (some (21, true))⟩),
 (0, ⟨some 27, .move (.tmp 0), 22, (some (21, true))⟩),
 (0, ⟨some 28, .move (.tmp 9), 3, (some (21, true))⟩),
 (0, ⟨some 29, .binOp .sub 3 (.tmp 28) (.const (.int .i64 1)) 3, 3, (some (21, true))⟩),
 (0, ⟨some 30, .indexAddr 22 (.tmp 27) (.tmp 29), 0, (some (21, true))⟩),
 (1, ⟨some 26, .load 35 (.tmp 25), 35, (some (21, true))⟩),
 (2, ⟨some 31, .load 35 (.tmp 30), 35, (some (21, true))⟩),
 (3, ⟨some 32, .call ⟨.value (.tmp 22), #[(.tmp 26), (.tmp 31)], #[35, 35]⟩, 3, (some (21, true))⟩),
 (0, ⟨some 33, .binOp .lss 3 (.tmp 32) (.const (.int .i64 0)) 3, 4, (some (21, true))⟩),
 (0, ⟨some 34, .pick (.tmp 21) (.tmp 33) (.const (.bool false)), 4, none⟩)]
theorem c84draw0 {L : List Nat} {ρ : Env} {w : World} {Q : Post} (S : World → Prop) (hS : S w.drew) (h : DG Try.prog S c84D0 L ρ w.drew Q) : drawW Try.prog (drawOps 0 c84code) L ρ w Q :=
  drawW_held [8] [(0, 0), (0, 1), (0, 2), (0, 3), (0, 4), (0, 5), (0, 6), (0, 7), (0, 9), (0, 10), (0, 11), (0, 12), (1, 8), (2, 13), (3, 14), (0, 15), (0, 16)] c84D0 (by kernel_rfl) (by kernel_rfl) (by kernel_rfl) S hS h
noncomputable def c84D1 : List (Nat × Ins) := [
 (0, ⟨some 37, .move (.tmp 0), 22, none⟩),
 (0, ⟨some 38, .move (.tmp 9), 3, none⟩),
 (0, ⟨some 39, .move (.tmp 0), 22, none⟩),
 (0, ⟨some 40, .move (.tmp 9), 3, none⟩),
 (0, ⟨some 41, .binOp .sub 3 (.tmp 40) (.const (.int .i64 1)) 3, 3, none⟩),
 (0, ⟨some 42, .move (.tmp 0), 22, none⟩),
 (0, ⟨some 43, .move (.tmp 9), 3, none⟩),
 (0, ⟨some 44, .binOp .sub 3 (.tmp 43) (.const (.int .i64 1)) 3, 3, none⟩),
 (0, ⟨some 45, .indexAddr 22 (.tmp 42) (.tmp 44), 0, none⟩),
 (0, ⟨some 47, .move (.tmp 0), 22, none⟩),
 (0, ⟨some 48, .move (.tmp 9), 3, none⟩),
 (0, ⟨some 49, .indexAddr 22 (.tmp 47) (.tmp 48), 0, none⟩),
 (1, ⟨some 46, .load 35 (.tmp 45), 35, none⟩),
 (2, ⟨some 50, .load 35 (.tmp 49), 35, none⟩),
 (0, ⟨some 51, .indexAddr 22 (.tmp 37) (.tmp 38), 0, none⟩),
 (3, ⟨none, .store 35 (.tmp 51) (.tmp 46), 0, none⟩),
 (0, ⟨some 52, .indexAddr 22 (.tmp 39) (.tmp 41), 0, none⟩),
 (3, ⟨none, .store 35 (.tmp 52) (.tmp 50), 0, none⟩)]
theorem c84draw1 {L : List Nat} {ρ : Env} {w : World} {Q : Post} (S : World → Prop) (hS : S w.drew) (h : DG Try.prog S c84D1 L ρ w.drew Q) : drawW Try.prog (drawOps 1 c84code) L ρ w Q :=
  drawW_held [9] [(0, 0), (0, 1), (0, 2), (0, 3), (0, 4), (0, 5), (0, 6), (0, 7), (0, 8), (0, 10), (0, 11), (0, 12), (1, 9), (2, 13), (0, 14), (3, 15), (0, 16), (3, 17)] c84D1 (by kernel_rfl) (by kernel_rfl) (by kernel_rfl) S hS h
set_option maxRecDepth 100000 in
theorem ent84 (a0 a1 a2 a3 : Value) (w : World) (K : Value → World → Prop) (h : W Try.prog c84 [(0, a0), (1, a1), (2, a2), (3, a3)] w (finQ Try.prog [] K)) : Ret Try.prog 84 [a0, a1, a2, a3] w K :=
  Ret_of_W (code := c84code) Try.func84 (by kernel_rfl) (by kernel_rfl) (of_decide_eq_true (by kernel_rfl)) h
--SIMP 84 c84 c84S0 c84S1 c84S2 c84L0 c84S3 c84S4 c84L1 TYS 3 22 35 FNS 
@[go_sem] theorem go84 : goFunc Try.prog 84 = true := by kernel_rfl
/- Function 94: slices.IndexFunc[[]api.Op,api.Op] -/
noncomputable def c94code : Code := match Try.f94.body with | some c => c | none => .skip
noncomputable def c94S0 (_ : Unit) : Cmd := (.cond (.tmp 16)
  (.seq (.ops [
  ⟨some 17, .move (.tmp 5), 3, none⟩,
  ⟨some 4, .assign (.tmp 17), 3, none⟩] [4])
  .ret)
  (.skip [0, 1, 7, 8]))
noncomputable def c94S1 (_ : Unit) : Cmd := (.ops [
 ⟨some 18, .binOp .add 3 (.tmp 8) (.const (.int .i64 1)) 3, 3, none⟩,
 ⟨some 8, .move (.tmp 18), 3, none⟩] [0, 1, 7, 8])
noncomputable def c94S2 (_ : Unit) : Cmd := (.seq (.block 1 (.seq (.ops [
 ⟨some 10, .move (.tmp 8), 3, none⟩,
 ⟨some 5, .assign (.tmp 10), 3, none⟩] [0, 1, 5, 7, 8])
 (.seq (.ops [
 ⟨some 11, .move (.tmp 1), 103, none⟩,
 ⟨some 12, .move (.tmp 0), 22, none⟩,
 ⟨some 13, .move (.tmp 5), 3, none⟩,
 ⟨some 14, .indexAddr 22 (.tmp 12) (.tmp 13), 0, none⟩,
 ⟨some 15, .load 35 (.tmp 14), 35, none⟩,
 ⟨some 16, .call ⟨.value (.tmp 11), #[(.tmp 15)], #[35]⟩, 4, none⟩] [0, 1, 5, 7, 8, 16]) (sg c94S0)))) (sg c94S1))
noncomputable def c94L0 (_ : Unit) : Cmd := (.seq (.ops [
 ⟨some 9, .binOp .lss 3 (.tmp 8) (.tmp 7) 3, 0, none⟩] [0, 1, 7, 8, 9])
 (.seq (.cond (.tmp 9)
  (.skip [0, 1, 7, 8])
  (.exit 0 [])) (sg c94S2)))
noncomputable def c94S3 (_ : Unit) : Cmd := (.seq (.ops [
 ⟨some 4, .assign (.const (.int .i64 (-1))), 3, none⟩] [4])
 .ret)
noncomputable def c94 : Cmd := (.seq (.ops [
 ⟨some 4, .assign (.const (.int .i64 0)), 3, none⟩] [0, 1])
 (.seq (.seq (.ops [
 ⟨some 6, .move (.tmp 0), 22, none⟩,
 ⟨some 7, .call ⟨.builtin .len, #[(.tmp 6)], #[22]⟩, 3, none⟩,
 ⟨some 8, .move (.const (.int .i64 0)), 3, none⟩] [0, 1, 7, 8])
 (.block 0 (.loop (sg c94L0)))) (sg c94S3)))
set_option maxRecDepth 100000 in
theorem ent94 (a0 a1 : Value) (w : World) (K : Value → World → Prop) (h : W Try.prog c94 [(0, a0), (1, a1)] w (finQ Try.prog [.tmp 4] K)) : Ret Try.prog 94 [a0, a1] w K :=
  Ret_of_W (code := c94code) Try.func94 (by kernel_rfl) (by kernel_rfl) (of_decide_eq_true (by kernel_rfl)) h
--SIMP 94 c94 c94S0 c94S1 c94S2 c94L0 c94S3 TYS 3 22 35 FNS 
@[go_sem] theorem go94 : goFunc Try.prog 94 = true := by kernel_rfl
/- Function 95: annalistref10.Rows -/
noncomputable def c95code : Code := match Try.f95.body with | some c => c | none => .skip
noncomputable def c95 : Cmd := (.seq (.ops [
 ⟨some 0, .assign (.const (.slice none 0 0)), 134, none⟩] [])
 (.seq (.ops [
 ⟨some 1, .build 107 #[(0, (.const (.int .i64 1))), (1, (.const (.int .i64 1))), (2, (.const (.int .i64 0))), (3, (.const (.int .i64 2)))], 107, none⟩,
 ⟨some 2, .build 107 #[(0, (.const (.int .i64 1))), (1, (.const (.int .i64 2))), (2, (.const (.int .i64 1))), (3, (.const (.int .i64 0)))], 107, none⟩,
 ⟨some 3, .build 107 #[(0, (.const (.int .i64 1))), (1, (.const (.int .i64 3))), (2, (.const (.int .i64 2))), (3, (.const (.int .i64 1)))], 107, none⟩,
 ⟨some 4, .build 107 #[(0, (.const (.int .i64 2))), (1, (.const (.int .i64 1))), (2, (.const (.int .i64 0))), (3, (.const (.int .i64 3)))], 107, none⟩,
 ⟨some 5, .build 107 #[(0, (.const (.int .i64 2))), (1, (.const (.int .i64 4))), (2, (.const (.int .i64 0))), (3, (.const (.int .i64 0)))], 107, none⟩,
 ⟨some 6, .build 107 #[(0, (.const (.int .i64 2))), (1, (.const (.int .i64 5))), (2, (.const (.int .i64 0))), (3, (.const (.int .i64 0)))], 107, none⟩,
 ⟨some 7, .build 107 #[(0, (.const (.int .i64 3))), (1, (.const (.int .i64 6))), (2, (.const (.int .i64 1))), (3, (.const (.int .i64 0)))], 107, none⟩,
 ⟨some 8, .build 107 #[(0, (.const (.int .i64 3))), (1, (.const (.int .i64 7))), (2, (.const (.int .i64 0))), (3, (.const (.int .i64 4)))], 107, none⟩,
 ⟨some 9, .build 107 #[(0, (.const (.int .i64 4))), (1, (.const (.int .i64 8))), (2, (.const (.int .i64 1))), (3, (.const (.int .i64 0)))], 107, none⟩,
 ⟨some 10, .build 107 #[(0, (.const (.int .i64 4))), (1, (.const (.int .i64 9))), (2, (.const (.int .i64 0))), (3, (.const (.int .i64 4)))], 107, none⟩,
 ⟨some 11, .build 107 #[(0, (.const (.int .i64 5))), (1, (.const (.int .i64 10))), (2, (.const (.int .i64 1))), (3, (.const (.int .i64 1)))], 107, none⟩,
 ⟨some 12, .build 107 #[(0, (.const (.int .i64 5))), (1, (.const (.int .i64 11))), (2, (.const (.int .i64 1))), (3, (.const (.int .i64 1)))], 107, none⟩,
 ⟨some 13, .build 107 #[(0, (.const (.int .i64 5))), (1, (.const (.int .i64 12))), (2, (.const (.int .i64 1))), (3, (.const (.int .i64 1)))], 107, none⟩,
 ⟨some 14, .build 107 #[(0, (.const (.int .i64 6))), (1, (.const (.int .i64 13))), (2, (.const (.int .i64 0))), (3, (.const (.int .i64 0)))], 107, none⟩,
 ⟨some 15, .build 107 #[(0, (.const (.int .i64 6))), (1, (.const (.int .i64 14))), (2, (.const (.int .i64 0))), (3, (.const (.int .i64 0)))], 107, none⟩,
 ⟨some 16, .buildSlice 134 15 #[(0, (.tmp 1)), (1, (.tmp 2)), (2, (.tmp 3)), (3, (.tmp 4)), (4, (.tmp 5)), (5, (.tmp 6)), (6, (.tmp 7)), (7, (.tmp 8)), (8, (.tmp 9)), (9, (.tmp 10)), (10, (.tmp 11)), (11, (.tmp 12)), (12, (.tmp 13)), (13, (.tmp 14)), (14, (.tmp 15))], 134, none⟩,
 ⟨some 0, .assign (.tmp 16), 134, none⟩] [0])
 .ret))
set_option maxRecDepth 100000 in
theorem ent95 (w : World) (K : Value → World → Prop) (h : W Try.prog c95 [] w (finQ Try.prog [.tmp 0] K)) : Ret Try.prog 95 [] w K :=
  Ret_of_W (code := c95code) Try.func95 (by kernel_rfl) (by kernel_rfl) (of_decide_eq_true (by kernel_rfl)) h
--SIMP 95 c95 TYS 107 134 FNS 
@[go_sem] theorem go95 : goFunc Try.prog 95 = true := by kernel_rfl
end Go.Proofs.Ytobamkckamnmoaa
