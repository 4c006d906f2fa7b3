/- The functions as commands, and facts on the types: printed by program. -/
import Derived.Test.YtbeoedgoikcbpaaRows
import Derived.Test.YtbeoedgoikcbpaaE2
import Derived.KernelRfl
namespace Go.Proofs.Ytbeoedgoikcbpaa
open Go Go.Ann
@[go_sem] theorem ty0tyK : tyK Try.prog 0 = .other := by kernel_rfl
@[go_sem] theorem ty0sizeT : sizeT Try.prog 0 = some 1 := by kernel_rfl
@[go_sem] theorem ty0zeroT : zeroT Try.prog 0 = some (.tuple #[]) := by kernel_rfl
@[go_sem] theorem ty0conc : Program.concrete Try.prog 0 = true := by kernel_rfl
@[go_sem] theorem ty1tyK : tyK Try.prog 1 = .other := by kernel_rfl
@[go_sem] theorem ty1isFuncT : isFuncT Try.prog 1 = true := by kernel_rfl
@[go_sem] theorem ty1sizeT : sizeT Try.prog 1 = some 1 := by kernel_rfl
@[go_sem] theorem ty1zeroT : zeroT Try.prog 1 = some .nilFunc := by kernel_rfl
@[go_sem] theorem ty1conc : Program.concrete Try.prog 1 = true := by kernel_rfl
@[go_sem] theorem ty2tyK : tyK Try.prog 2 = .int .i64 := by kernel_rfl
@[go_sem] theorem ty2sizeT : sizeT Try.prog 2 = some 1 := by kernel_rfl
@[go_sem] theorem ty2zeroT : zeroT Try.prog 2 = some (.int .i64 0) := by kernel_rfl
@[go_sem] theorem ty2conc : Program.concrete Try.prog 2 = true := by kernel_rfl
@[go_sem] theorem ty3tyK : tyK Try.prog 3 = .int .i64 := by kernel_rfl
@[go_sem] theorem ty3sizeT : sizeT Try.prog 3 = some 1 := by kernel_rfl
@[go_sem] theorem ty3zeroT : zeroT Try.prog 3 = some (.int .i64 0) := by kernel_rfl
@[go_sem] theorem ty3conc : Program.concrete Try.prog 3 = true := by kernel_rfl
@[go_sem] theorem ty4tyK : tyK Try.prog 4 = .bool := by kernel_rfl
@[go_sem] theorem ty4isBoolT : isBoolT Try.prog 4 = true := by kernel_rfl
@[go_sem] theorem ty4sizeT : sizeT Try.prog 4 = some 1 := by kernel_rfl
@[go_sem] theorem ty4zeroT : zeroT Try.prog 4 = some (.bool false) := by kernel_rfl
@[go_sem] theorem ty4conc : Program.concrete Try.prog 4 = true := by kernel_rfl
@[go_sem] theorem ty5tyK : tyK Try.prog 5 = .int .u8 := by kernel_rfl
@[go_sem] theorem ty5sizeT : sizeT Try.prog 5 = some 1 := by kernel_rfl
@[go_sem] theorem ty5zeroT : zeroT Try.prog 5 = some (.int .u8 0) := by kernel_rfl
@[go_sem] theorem ty5conc : Program.concrete Try.prog 5 = true := by kernel_rfl
@[go_sem] theorem ty6tyK : tyK Try.prog 6 = .int .u8 := by kernel_rfl
@[go_sem] theorem ty6sizeT : sizeT Try.prog 6 = some 1 := by kernel_rfl
@[go_sem] theorem ty6zeroT : zeroT Try.prog 6 = some (.int .u8 0) := by kernel_rfl
@[go_sem] theorem ty6conc : Program.concrete Try.prog 6 = true := by kernel_rfl
@[go_sem] theorem ty7tyK : tyK Try.prog 7 = .agg 4 := by kernel_rfl
@[go_sem] theorem ty7sizeT : sizeT Try.prog 7 = some 4 := by kernel_rfl
@[go_sem] theorem ty7zeroT : zeroT Try.prog 7 = some (.agg #[(.int .i64 0), (.int .i64 0), (.bool false), (.int .u8 0)]) := by kernel_rfl
@[go_sem] theorem ty7conc : Program.concrete Try.prog 7 = true := by kernel_rfl
@[go_sem] theorem ty7plc : plcT Try.prog 7 = some [(0, 1), (1, 1), (2, 1), (3, 1)] := by kernel_rfl
@[go_sem] theorem ty7flat : flatT Try.prog 7 = some [.int, .int, .bool, .int] := by kernel_rfl
@[go_sem] theorem ty7fld0 : fldI Try.prog 7 0 = some (0, 1, false) := by kernel_rfl
@[go_sem] theorem ty7fld1 : fldI Try.prog 7 1 = some (1, 1, false) := by kernel_rfl
@[go_sem] theorem ty7fld2 : fldI Try.prog 7 2 = some (2, 1, false) := by kernel_rfl
@[go_sem] theorem ty7fld3 : fldI Try.prog 7 3 = some (3, 1, false) := by kernel_rfl
@[go_sem] theorem ty8tyK : tyK Try.prog 8 = .agg 4 := by kernel_rfl
@[go_sem] theorem ty8sizeT : sizeT Try.prog 8 = some 4 := by kernel_rfl
@[go_sem] theorem ty8zeroT : zeroT Try.prog 8 = some (.agg #[(.int .i64 0), (.int .i64 0), (.bool false), (.int .u8 0)]) := by kernel_rfl
@[go_sem] theorem ty8conc : Program.concrete Try.prog 8 = true := by kernel_rfl
@[go_sem] theorem ty8plc : plcT Try.prog 8 = some [(0, 1), (1, 1), (2, 1), (3, 1)] := by kernel_rfl
@[go_sem] theorem ty8flat : flatT Try.prog 8 = some [.int, .int, .bool, .int] := by kernel_rfl
@[go_sem] theorem ty8fld0 : fldI Try.prog 8 0 = some (0, 1, false) := by kernel_rfl
@[go_sem] theorem ty8fld1 : fldI Try.prog 8 1 = some (1, 1, false) := by kernel_rfl
@[go_sem] theorem ty8fld2 : fldI Try.prog 8 2 = some (2, 1, false) := by kernel_rfl
@[go_sem] theorem ty8fld3 : fldI Try.prog 8 3 = some (3, 1, false) := by kernel_rfl
@[go_sem] theorem ty9tyK : tyK Try.prog 9 = .str := by kernel_rfl
@[go_sem] theorem ty9isStrT : isStrT Try.prog 9 = true := by kernel_rfl
@[go_sem] theorem ty9sizeT : sizeT Try.prog 9 = some 1 := by kernel_rfl
@[go_sem] theorem ty9zeroT : zeroT Try.prog 9 = some (.string (ofL [])) := by kernel_rfl
@[go_sem] theorem ty9conc : Program.concrete Try.prog 9 = true := by kernel_rfl
@[go_sem] theorem ty10tyK : tyK Try.prog 10 = .str := by kernel_rfl
@[go_sem] theorem ty10isStrT : isStrT Try.prog 10 = true := by kernel_rfl
@[go_sem] theorem ty10sizeT : sizeT Try.prog 10 = some 1 := by kernel_rfl
@[go_sem] theorem ty10zeroT : zeroT Try.prog 10 = some (.string (ofL [])) := by kernel_rfl
@[go_sem] theorem ty10conc : Program.concrete Try.prog 10 = true := by kernel_rfl
@[go_sem] theorem ty11tyK : tyK Try.prog 11 = .str := by kernel_rfl
@[go_sem] theorem ty11isStrT : isStrT Try.prog 11 = true := by kernel_rfl
@[go_sem] theorem ty11sizeT : sizeT Try.prog 11 = some 1 := by kernel_rfl
@[go_sem] theorem ty11zeroT : zeroT Try.prog 11 = some (.string (ofL [])) := by kernel_rfl
@[go_sem] theorem ty11conc : Program.concrete Try.prog 11 = true := by kernel_rfl
@[go_sem] theorem ty12tyK : tyK Try.prog 12 = .int .u64 := by kernel_rfl
@[go_sem] theorem ty12sizeT : sizeT Try.prog 12 = some 1 := by kernel_rfl
@[go_sem] theorem ty12zeroT : zeroT Try.prog 12 = some (.int .u64 0) := by kernel_rfl
@[go_sem] theorem ty12conc : Program.concrete Try.prog 12 = true := by kernel_rfl
@[go_sem] theorem ty13tyK : tyK Try.prog 13 = .agg 2 := by kernel_rfl
@[go_sem] theorem ty13sizeT : sizeT Try.prog 13 = some 2 := by kernel_rfl
@[go_sem] theorem ty13zeroT : zeroT Try.prog 13 = some (.agg #[(.string (ofL [])), (.int .u64 0)]) := by kernel_rfl
@[go_sem] theorem ty13conc : Program.concrete Try.prog 13 = true := by kernel_rfl
@[go_sem] theorem ty13plc : plcT Try.prog 13 = some [(0, 1), (1, 1)] := by kernel_rfl
@[go_sem] theorem ty13fld0 : fldI Try.prog 13 0 = some (0, 1, false) := by kernel_rfl
@[go_sem] theorem ty13fld1 : fldI Try.prog 13 1 = some (1, 1, false) := by kernel_rfl
@[go_sem] theorem ty14tyK : tyK Try.prog 14 = .agg 2 := by kernel_rfl
@[go_sem] theorem ty14sizeT : sizeT Try.prog 14 = some 2 := by kernel_rfl
@[go_sem] theorem ty14zeroT : zeroT Try.prog 14 = some (.agg #[(.string (ofL [])), (.int .u64 0)]) := by kernel_rfl
@[go_sem] theorem ty14conc : Program.concrete Try.prog 14 = true := by kernel_rfl
@[go_sem] theorem ty14plc : plcT Try.prog 14 = some [(0, 1), (1, 1)] := by kernel_rfl
@[go_sem] theorem ty14fld0 : fldI Try.prog 14 0 = some (0, 1, false) := by kernel_rfl
@[go_sem] theorem ty14fld1 : fldI Try.prog 14 1 = some (1, 1, false) := by kernel_rfl
@[go_sem] theorem ty15tyK : tyK Try.prog 15 = .ptr := by kernel_rfl
@[go_sem] theorem ty15isPtrT : isPtrT Try.prog 15 = true := by kernel_rfl
@[go_sem] theorem ty15sizeT : sizeT Try.prog 15 = some 1 := by kernel_rfl
@[go_sem] theorem ty15zeroT : zeroT Try.prog 15 = some (.pointer none) := by kernel_rfl
@[go_sem] theorem ty15conc : Program.concrete Try.prog 15 = true := by kernel_rfl
@[go_sem] theorem ty16tyK : tyK Try.prog 16 = .ptr := by kernel_rfl
@[go_sem] theorem ty16isPtrT : isPtrT Try.prog 16 = true := by kernel_rfl
@[go_sem] theorem ty16sizeT : sizeT Try.prog 16 = some 1 := by kernel_rfl
@[go_sem] theorem ty16zeroT : zeroT Try.prog 16 = some (.pointer none) := by kernel_rfl
@[go_sem] theorem ty16conc : Program.concrete Try.prog 16 = true := by kernel_rfl
@[go_sem] theorem ty17tyK : tyK Try.prog 17 = .ptr := by kernel_rfl
@[go_sem] theorem ty17isPtrT : isPtrT Try.prog 17 = true := by kernel_rfl
@[go_sem] theorem ty17sizeT : sizeT Try.prog 17 = some 1 := by kernel_rfl
@[go_sem] theorem ty17zeroT : zeroT Try.prog 17 = some (.pointer none) := by kernel_rfl
@[go_sem] theorem ty17conc : Program.concrete Try.prog 17 = true := by kernel_rfl
@[go_sem] theorem ty18tyK : tyK Try.prog 18 = .agg 1 := by kernel_rfl
@[go_sem] theorem ty18sizeT : sizeT Try.prog 18 = some 1 := by kernel_rfl
@[go_sem] theorem ty18zeroT : zeroT Try.prog 18 = some (.agg #[(.pointer none)]) := by kernel_rfl
@[go_sem] theorem ty18conc : Program.concrete Try.prog 18 = true := by kernel_rfl
@[go_sem] theorem ty18plc : plcT Try.prog 18 = some [(0, 1)] := by kernel_rfl
@[go_sem] theorem ty18fld0 : fldI Try.prog 18 0 = some (0, 1, false) := by kernel_rfl
@[go_sem] theorem ty19tyK : tyK Try.prog 19 = .agg 1 := by kernel_rfl
@[go_sem] theorem ty19sizeT : sizeT Try.prog 19 = some 1 := by kernel_rfl
@[go_sem] theorem ty19zeroT : zeroT Try.prog 19 = some (.agg #[(.pointer none)]) := by kernel_rfl
@[go_sem] theorem ty19conc : Program.concrete Try.prog 19 = true := by kernel_rfl
@[go_sem] theorem ty19plc : plcT Try.prog 19 = some [(0, 1)] := by kernel_rfl
@[go_sem] theorem ty19fld0 : fldI Try.prog 19 0 = some (0, 1, false) := by kernel_rfl
@[go_sem] theorem ty20tyK : tyK Try.prog 20 = .other := by kernel_rfl
@[go_sem] theorem ty20isIfaceT : isIfaceT Try.prog 20 = true := by kernel_rfl
@[go_sem] theorem ty20sizeT : sizeT Try.prog 20 = some 1 := by kernel_rfl
@[go_sem] theorem ty20zeroT : zeroT Try.prog 20 = some .nilIface := by kernel_rfl
@[go_sem] theorem ty21tyK : tyK Try.prog 21 = .int .i32 := by kernel_rfl
@[go_sem] theorem ty21sizeT : sizeT Try.prog 21 = some 1 := by kernel_rfl
@[go_sem] theorem ty21zeroT : zeroT Try.prog 21 = some (.int .i32 0) := by kernel_rfl
@[go_sem] theorem ty21conc : Program.concrete Try.prog 21 = true := by kernel_rfl
@[go_sem] theorem ty22tyK : tyK Try.prog 22 = .slice false 58 := by kernel_rfl
@[go_sem] theorem ty22isSliceT : isSliceT Try.prog 22 = true := by kernel_rfl
@[go_sem] theorem ty22sliI : sliI Try.prog 22 = some 11 := by kernel_rfl
@[go_sem] theorem ty22mkI : mkI Try.prog 22 = some (58, 11, 88, (.agg #[(.int .i64 0), (.int .i64 0), (.int .i64 0), (.int .i64 0), (.int .i64 0), (.int .i64 0), (.int .i64 0), (.bool false), (.int .i64 0), (.int .i64 0), (.int .i64 0)])) := by kernel_rfl
@[go_sem] theorem ty22sizeT : sizeT Try.prog 22 = some 1 := by kernel_rfl
@[go_sem] theorem ty22zeroT : zeroT Try.prog 22 = some (.slice none 0 0) := by kernel_rfl
@[go_sem] theorem ty22conc : Program.concrete Try.prog 22 = true := by kernel_rfl
@[go_sem] theorem ty23tyK : tyK Try.prog 23 = .agg 3 := by kernel_rfl
@[go_sem] theorem ty23sizeT : sizeT Try.prog 23 = some 3 := by kernel_rfl
@[go_sem] theorem ty23zeroT : zeroT Try.prog 23 = some (.agg #[(.int .i64 0), (.int .i64 0), (.slice none 0 0)]) := by kernel_rfl
@[go_sem] theorem ty23conc : Program.concrete Try.prog 23 = true := by kernel_rfl
@[go_sem] theorem ty23plc : plcT Try.prog 23 = some [(0, 1), (1, 1), (2, 1)] := by kernel_rfl
@[go_sem] theorem ty23fld0 : fldI Try.prog 23 0 = some (0, 1, false) := by kernel_rfl
@[go_sem] theorem ty23fld1 : fldI Try.prog 23 1 = some (1, 1, false) := by kernel_rfl
@[go_sem] theorem ty23fld2 : fldI Try.prog 23 2 = some (2, 1, false) := by kernel_rfl
@[go_sem] theorem ty24tyK : tyK Try.prog 24 = .agg 3 := by kernel_rfl
@[go_sem] theorem ty24sizeT : sizeT Try.prog 24 = some 3 := by kernel_rfl
@[go_sem] theorem ty24zeroT : zeroT Try.prog 24 = some (.agg #[(.int .i64 0), (.int .i64 0), (.slice none 0 0)]) := by kernel_rfl
@[go_sem] theorem ty24conc : Program.concrete Try.prog 24 = true := by kernel_rfl
@[go_sem] theorem ty24plc : plcT Try.prog 24 = some [(0, 1), (1, 1), (2, 1)] := by kernel_rfl
@[go_sem] theorem ty24fld0 : fldI Try.prog 24 0 = some (0, 1, false) := by kernel_rfl
@[go_sem] theorem ty24fld1 : fldI Try.prog 24 1 = some (1, 1, false) := by kernel_rfl
@[go_sem] theorem ty24fld2 : fldI Try.prog 24 2 = some (2, 1, false) := by kernel_rfl
@[go_sem] theorem ty25tyK : tyK Try.prog 25 = .slice false 36 := by kernel_rfl
@[go_sem] theorem ty25isSliceT : isSliceT Try.prog 25 = true := by kernel_rfl
@[go_sem] theorem ty25sliI : sliI Try.prog 25 = some 1 := by kernel_rfl
@[go_sem] theorem ty25mkI : mkI Try.prog 25 = some (36, 1, 24, (.slice none 0 0)) := by kernel_rfl
@[go_sem] theorem ty25sizeT : sizeT Try.prog 25 = some 1 := by kernel_rfl
@[go_sem] theorem ty25zeroT : zeroT Try.prog 25 = some (.slice none 0 0) := by kernel_rfl
@[go_sem] theorem ty25conc : Program.concrete Try.prog 25 = true := by kernel_rfl
@[go_sem] theorem ty26tyK : tyK Try.prog 26 = .agg 3 := by kernel_rfl
@[go_sem] theorem ty26sizeT : sizeT Try.prog 26 = some 3 := by kernel_rfl
@[go_sem] theorem ty26zeroT : zeroT Try.prog 26 = some (.agg #[(.slice none 0 0), (.slice none 0 0), (.int .i64 0)]) := by kernel_rfl
@[go_sem] theorem ty26conc : Program.concrete Try.prog 26 = true := by kernel_rfl
@[go_sem] theorem ty26plc : plcT Try.prog 26 = some [(0, 1), (1, 1), (2, 1)] := by kernel_rfl
@[go_sem] theorem ty26fld0 : fldI Try.prog 26 0 = some (0, 1, false) := by kernel_rfl
@[go_sem] theorem ty26fld1 : fldI Try.prog 26 1 = some (1, 1, false) := by kernel_rfl
@[go_sem] theorem ty26fld2 : fldI Try.prog 26 2 = some (2, 1, false) := by kernel_rfl
@[go_sem] theorem ty27tyK : tyK Try.prog 27 = .agg 3 := by kernel_rfl
@[go_sem] theorem ty27sizeT : sizeT Try.prog 27 = some 3 := by kernel_rfl
@[go_sem] theorem ty27zeroT : zeroT Try.prog 27 = some (.agg #[(.slice none 0 0), (.slice none 0 0), (.int .i64 0)]) := by kernel_rfl
@[go_sem] theorem ty27conc : Program.concrete Try.prog 27 = true := by kernel_rfl
@[go_sem] theorem ty27plc : plcT Try.prog 27 = some [(0, 1), (1, 1), (2, 1)] := by kernel_rfl
@[go_sem] theorem ty27fld0 : fldI Try.prog 27 0 = some (0, 1, false) := by kernel_rfl
@[go_sem] theorem ty27fld1 : fldI Try.prog 27 1 = some (1, 1, false) := by kernel_rfl
@[go_sem] theorem ty27fld2 : fldI Try.prog 27 2 = some (2, 1, false) := by kernel_rfl
@[go_sem] theorem ty28tyK : tyK Try.prog 28 = .int .i64 := by kernel_rfl
@[go_sem] theorem ty28sizeT : sizeT Try.prog 28 = some 1 := by kernel_rfl
@[go_sem] theorem ty28zeroT : zeroT Try.prog 28 = some (.int .i64 0) := by kernel_rfl
@[go_sem] theorem ty28conc : Program.concrete Try.prog 28 = true := by kernel_rfl
@[go_sem] theorem ty29tyK : tyK Try.prog 29 = .other := by kernel_rfl
@[go_sem] theorem ty29sizeT : sizeT Try.prog 29 = some 1 := by kernel_rfl
@[go_sem] theorem ty29zeroT : zeroT Try.prog 29 = some (.tuple #[(.agg #[(.slice none 0 0), (.slice none 0 0), (.int .i64 0)]), (.int .i64 0)]) := by kernel_rfl
@[go_sem] theorem ty29conc : Program.concrete Try.prog 29 = true := by kernel_rfl
@[go_sem] theorem ty30tyK : tyK Try.prog 30 = .other := by kernel_rfl
@[go_sem] theorem ty30isFuncT : isFuncT Try.prog 30 = true := by kernel_rfl
@[go_sem] theorem ty30sizeT : sizeT Try.prog 30 = some 1 := by kernel_rfl
@[go_sem] theorem ty30zeroT : zeroT Try.prog 30 = some .nilFunc := by kernel_rfl
@[go_sem] theorem ty30conc : Program.concrete Try.prog 30 = true := by kernel_rfl
@[go_sem] theorem ty31tyK : tyK Try.prog 31 = .other := by kernel_rfl
@[go_sem] theorem ty31isFuncT : isFuncT Try.prog 31 = true := by kernel_rfl
@[go_sem] theorem ty31sizeT : sizeT Try.prog 31 = some 1 := by kernel_rfl
@[go_sem] theorem ty31zeroT : zeroT Try.prog 31 = some .nilFunc := by kernel_rfl
@[go_sem] theorem ty31conc : Program.concrete Try.prog 31 = true := by kernel_rfl
@[go_sem] theorem ty32tyK : tyK Try.prog 32 = .other := by kernel_rfl
@[go_sem] theorem ty32isFuncT : isFuncT Try.prog 32 = true := by kernel_rfl
@[go_sem] theorem ty32sizeT : sizeT Try.prog 32 = some 1 := by kernel_rfl
@[go_sem] theorem ty32zeroT : zeroT Try.prog 32 = some .nilFunc := by kernel_rfl
@[go_sem] theorem ty32conc : Program.concrete Try.prog 32 = true := by kernel_rfl
@[go_sem] theorem ty33tyK : tyK Try.prog 33 = .other := by kernel_rfl
@[go_sem] theorem ty33isFuncT : isFuncT Try.prog 33 = true := by kernel_rfl
@[go_sem] theorem ty33sizeT : sizeT Try.prog 33 = some 1 := by kernel_rfl
@[go_sem] theorem ty33zeroT : zeroT Try.prog 33 = some .nilFunc := by kernel_rfl
@[go_sem] theorem ty33conc : Program.concrete Try.prog 33 = true := by kernel_rfl
@[go_sem] theorem ty34tyK : tyK Try.prog 34 = .other := by kernel_rfl
@[go_sem] theorem ty34sizeT : sizeT Try.prog 34 = some 1 := by kernel_rfl
@[go_sem] theorem ty34zeroT : zeroT Try.prog 34 = some (.tuple #[(.agg #[(.slice none 0 0), (.slice none 0 0), (.int .i64 0)]), (.int .i64 0)]) := by kernel_rfl
@[go_sem] theorem ty34conc : Program.concrete Try.prog 34 = true := by kernel_rfl
@[go_sem] theorem ty35tyK : tyK Try.prog 35 = .other := by kernel_rfl
@[go_sem] theorem ty35isFuncT : isFuncT Try.prog 35 = true := by kernel_rfl
@[go_sem] theorem ty35sizeT : sizeT Try.prog 35 = some 1 := by kernel_rfl
@[go_sem] theorem ty35zeroT : zeroT Try.prog 35 = some .nilFunc := by kernel_rfl
@[go_sem] theorem ty35conc : Program.concrete Try.prog 35 = true := by kernel_rfl
@[go_sem] theorem ty36tyK : tyK Try.prog 36 = .slice false 3 := by kernel_rfl
@[go_sem] theorem ty36isSliceT : isSliceT Try.prog 36 = true := by kernel_rfl
@[go_sem] theorem ty36sliI : sliI Try.prog 36 = some 1 := by kernel_rfl
@[go_sem] theorem ty36mkI : mkI Try.prog 36 = some (3, 1, 8, (.int .i64 0)) := by kernel_rfl
@[go_sem] theorem ty36sizeT : sizeT Try.prog 36 = some 1 := by kernel_rfl
@[go_sem] theorem ty36zeroT : zeroT Try.prog 36 = some (.slice none 0 0) := by kernel_rfl
@[go_sem] theorem ty36conc : Program.concrete Try.prog 36 = true := by kernel_rfl
@[go_sem] theorem ty37tyK : tyK Try.prog 37 = .other := by kernel_rfl
@[go_sem] theorem ty37isFuncT : isFuncT Try.prog 37 = true := by kernel_rfl
@[go_sem] theorem ty37sizeT : sizeT Try.prog 37 = some 1 := by kernel_rfl
@[go_sem] theorem ty37zeroT : zeroT Try.prog 37 = some .nilFunc := by kernel_rfl
@[go_sem] theorem ty37conc : Program.concrete Try.prog 37 = true := by kernel_rfl
@[go_sem] theorem ty38tyK : tyK Try.prog 38 = .other := by kernel_rfl
@[go_sem] theorem ty38isFuncT : isFuncT Try.prog 38 = true := by kernel_rfl
@[go_sem] theorem ty38sizeT : sizeT Try.prog 38 = some 1 := by kernel_rfl
@[go_sem] theorem ty38zeroT : zeroT Try.prog 38 = some .nilFunc := by kernel_rfl
@[go_sem] theorem ty38conc : Program.concrete Try.prog 38 = true := by kernel_rfl
@[go_sem] theorem ty39tyK : tyK Try.prog 39 = .other := by kernel_rfl
@[go_sem] theorem ty39isFuncT : isFuncT Try.prog 39 = true := by kernel_rfl
@[go_sem] theorem ty39sizeT : sizeT Try.prog 39 = some 1 := by kernel_rfl
@[go_sem] theorem ty39zeroT : zeroT Try.prog 39 = some .nilFunc := by kernel_rfl
@[go_sem] theorem ty39conc : Program.concrete Try.prog 39 = true := by kernel_rfl
@[go_sem] theorem ty40tyK : tyK Try.prog 40 = .other := by kernel_rfl
@[go_sem] theorem ty40isFuncT : isFuncT Try.prog 40 = true := by kernel_rfl
@[go_sem] theorem ty40sizeT : sizeT Try.prog 40 = some 1 := by kernel_rfl
@[go_sem] theorem ty40zeroT : zeroT Try.prog 40 = some .nilFunc := by kernel_rfl
@[go_sem] theorem ty40conc : Program.concrete Try.prog 40 = true := by kernel_rfl
@[go_sem] theorem ty41tyK : tyK Try.prog 41 = .slice false 4 := by kernel_rfl
@[go_sem] theorem ty41isSliceT : isSliceT Try.prog 41 = true := by kernel_rfl
@[go_sem] theorem ty41sliI : sliI Try.prog 41 = some 1 := by kernel_rfl
@[go_sem] theorem ty41mkI : mkI Try.prog 41 = some (4, 1, 1, (.bool false)) := by kernel_rfl
@[go_sem] theorem ty41sizeT : sizeT Try.prog 41 = some 1 := by kernel_rfl
@[go_sem] theorem ty41zeroT : zeroT Try.prog 41 = some (.slice none 0 0) := by kernel_rfl
@[go_sem] theorem ty41conc : Program.concrete Try.prog 41 = true := by kernel_rfl
@[go_sem] theorem ty42tyK : tyK Try.prog 42 = .other := by kernel_rfl
@[go_sem] theorem ty42isFuncT : isFuncT Try.prog 42 = true := by kernel_rfl
@[go_sem] theorem ty42sizeT : sizeT Try.prog 42 = some 1 := by kernel_rfl
@[go_sem] theorem ty42zeroT : zeroT Try.prog 42 = some .nilFunc := by kernel_rfl
@[go_sem] theorem ty42conc : Program.concrete Try.prog 42 = true := by kernel_rfl
@[go_sem] theorem ty43tyK : tyK Try.prog 43 = .other := by kernel_rfl
@[go_sem] theorem ty43isFuncT : isFuncT Try.prog 43 = true := by kernel_rfl
@[go_sem] theorem ty43sizeT : sizeT Try.prog 43 = some 1 := by kernel_rfl
@[go_sem] theorem ty43zeroT : zeroT Try.prog 43 = some .nilFunc := by kernel_rfl
@[go_sem] theorem ty43conc : Program.concrete Try.prog 43 = true := by kernel_rfl
@[go_sem] theorem ty44tyK : tyK Try.prog 44 = .int .u16 := by kernel_rfl
@[go_sem] theorem ty44sizeT : sizeT Try.prog 44 = some 1 := by kernel_rfl
@[go_sem] theorem ty44zeroT : zeroT Try.prog 44 = some (.int .u16 0) := by kernel_rfl
@[go_sem] theorem ty44conc : Program.concrete Try.prog 44 = true := by kernel_rfl
@[go_sem] theorem ty45tyK : tyK Try.prog 45 = .other := by kernel_rfl
@[go_sem] theorem ty45isFuncT : isFuncT Try.prog 45 = true := by kernel_rfl
@[go_sem] theorem ty45sizeT : sizeT Try.prog 45 = some 1 := by kernel_rfl
@[go_sem] theorem ty45zeroT : zeroT Try.prog 45 = some .nilFunc := by kernel_rfl
@[go_sem] theorem ty45conc : Program.concrete Try.prog 45 = true := by kernel_rfl
@[go_sem] theorem ty46tyK : tyK Try.prog 46 = .other := by kernel_rfl
@[go_sem] theorem ty46isFuncT : isFuncT Try.prog 46 = true := by kernel_rfl
@[go_sem] theorem ty46sizeT : sizeT Try.prog 46 = some 1 := by kernel_rfl
@[go_sem] theorem ty46zeroT : zeroT Try.prog 46 = some .nilFunc := by kernel_rfl
@[go_sem] theorem ty46conc : Program.concrete Try.prog 46 = true := by kernel_rfl
@[go_sem] theorem ty47tyK : tyK Try.prog 47 = .slice false 24 := by kernel_rfl
@[go_sem] theorem ty47isSliceT : isSliceT Try.prog 47 = true := by kernel_rfl
@[go_sem] theorem ty47sliI : sliI Try.prog 47 = some 3 := by kernel_rfl
@[go_sem] theorem ty47mkI : mkI Try.prog 47 = some (24, 3, 40, (.agg #[(.int .i64 0), (.int .i64 0), (.slice none 0 0)])) := by kernel_rfl
@[go_sem] theorem ty47sizeT : sizeT Try.prog 47 = some 1 := by kernel_rfl
@[go_sem] theorem ty47zeroT : zeroT Try.prog 47 = some (.slice none 0 0) := by kernel_rfl
@[go_sem] theorem ty47conc : Program.concrete Try.prog 47 = true := by kernel_rfl
@[go_sem] theorem ty48tyK : tyK Try.prog 48 = .other := by kernel_rfl
@[go_sem] theorem ty48isFuncT : isFuncT Try.prog 48 = true := by kernel_rfl
@[go_sem] theorem ty48sizeT : sizeT Try.prog 48 = some 1 := by kernel_rfl
@[go_sem] theorem ty48zeroT : zeroT Try.prog 48 = some .nilFunc := by kernel_rfl
@[go_sem] theorem ty48conc : Program.concrete Try.prog 48 = true := by kernel_rfl
@[go_sem] theorem ty49tyK : tyK Try.prog 49 = .other := by kernel_rfl
@[go_sem] theorem ty49isFuncT : isFuncT Try.prog 49 = true := by kernel_rfl
@[go_sem] theorem ty49sizeT : sizeT Try.prog 49 = some 1 := by kernel_rfl
@[go_sem] theorem ty49zeroT : zeroT Try.prog 49 = some .nilFunc := by kernel_rfl
@[go_sem] theorem ty49conc : Program.concrete Try.prog 49 = true := by kernel_rfl
@[go_sem] theorem ty50tyK : tyK Try.prog 50 = .other := by kernel_rfl
@[go_sem] theorem ty50isFuncT : isFuncT Try.prog 50 = true := by kernel_rfl
@[go_sem] theorem ty50sizeT : sizeT Try.prog 50 = some 1 := by kernel_rfl
@[go_sem] theorem ty50zeroT : zeroT Try.prog 50 = some .nilFunc := by kernel_rfl
@[go_sem] theorem ty50conc : Program.concrete Try.prog 50 = true := by kernel_rfl
@[go_sem] theorem ty51tyK : tyK Try.prog 51 = .other := by kernel_rfl
@[go_sem] theorem ty51isFuncT : isFuncT Try.prog 51 = true := by kernel_rfl
@[go_sem] theorem ty51sizeT : sizeT Try.prog 51 = some 1 := by kernel_rfl
@[go_sem] theorem ty51zeroT : zeroT Try.prog 51 = some .nilFunc := by kernel_rfl
@[go_sem] theorem ty51conc : Program.concrete Try.prog 51 = true := by kernel_rfl
@[go_sem] theorem ty52tyK : tyK Try.prog 52 = .other := by kernel_rfl
@[go_sem] theorem ty52isFuncT : isFuncT Try.prog 52 = true := by kernel_rfl
@[go_sem] theorem ty52sizeT : sizeT Try.prog 52 = some 1 := by kernel_rfl
@[go_sem] theorem ty52zeroT : zeroT Try.prog 52 = some .nilFunc := by kernel_rfl
@[go_sem] theorem ty52conc : Program.concrete Try.prog 52 = true := by kernel_rfl
@[go_sem] theorem ty53tyK : tyK Try.prog 53 = .other := by kernel_rfl
@[go_sem] theorem ty53sizeT : sizeT Try.prog 53 = some 1 := by kernel_rfl
@[go_sem] theorem ty53zeroT : zeroT Try.prog 53 = some (.tuple #[(.slice none 0 0), (.bool false), (.int .i64 0)]) := by kernel_rfl
@[go_sem] theorem ty53conc : Program.concrete Try.prog 53 = true := by kernel_rfl
@[go_sem] theorem ty54tyK : tyK Try.prog 54 = .other := by kernel_rfl
@[go_sem] theorem ty54isFuncT : isFuncT Try.prog 54 = true := by kernel_rfl
@[go_sem] theorem ty54sizeT : sizeT Try.prog 54 = some 1 := by kernel_rfl
@[go_sem] theorem ty54zeroT : zeroT Try.prog 54 = some .nilFunc := by kernel_rfl
@[go_sem] theorem ty54conc : Program.concrete Try.prog 54 = true := by kernel_rfl
@[go_sem] theorem ty55tyK : tyK Try.prog 55 = .other := by kernel_rfl
@[go_sem] theorem ty55isFuncT : isFuncT Try.prog 55 = true := by kernel_rfl
@[go_sem] theorem ty55sizeT : sizeT Try.prog 55 = some 1 := by kernel_rfl
@[go_sem] theorem ty55zeroT : zeroT Try.prog 55 = some .nilFunc := by kernel_rfl
@[go_sem] theorem ty55conc : Program.concrete Try.prog 55 = true := by kernel_rfl
@[go_sem] theorem ty56tyK : tyK Try.prog 56 = .other := by kernel_rfl
@[go_sem] theorem ty56isFuncT : isFuncT Try.prog 56 = true := by kernel_rfl
@[go_sem] theorem ty56sizeT : sizeT Try.prog 56 = some 1 := by kernel_rfl
@[go_sem] theorem ty56zeroT : zeroT Try.prog 56 = some .nilFunc := by kernel_rfl
@[go_sem] theorem ty56conc : Program.concrete Try.prog 56 = true := by kernel_rfl
@[go_sem] theorem ty57tyK : tyK Try.prog 57 = .agg 11 := by kernel_rfl
@[go_sem] theorem ty57sizeT : sizeT Try.prog 57 = some 11 := by kernel_rfl
@[go_sem] theorem ty57zeroT : zeroT Try.prog 57 = some (.agg #[(.int .i64 0), (.int .i64 0), (.int .i64 0), (.int .i64 0), (.int .i64 0), (.int .i64 0), (.int .i64 0), (.bool false), (.int .i64 0), (.int .i64 0), (.int .i64 0)]) := by kernel_rfl
@[go_sem] theorem ty57conc : Program.concrete Try.prog 57 = true := by kernel_rfl
@[go_sem] theorem ty57plc : plcT Try.prog 57 = some [(0, 1), (1, 1), (2, 1), (3, 1), (4, 1), (5, 1), (6, 1), (7, 1), (8, 1), (9, 1), (10, 1)] := by kernel_rfl
@[go_sem] theorem ty57flat : flatT Try.prog 57 = some [.int, .int, .int, .int, .int, .int, .int, .bool, .int, .int, .int] := by kernel_rfl
@[go_sem] theorem ty57fld0 : fldI Try.prog 57 0 = some (0, 1, false) := by kernel_rfl
@[go_sem] theorem ty57fld1 : fldI Try.prog 57 1 = some (1, 1, false) := by kernel_rfl
@[go_sem] theorem ty57fld2 : fldI Try.prog 57 2 = some (2, 1, false) := by kernel_rfl
@[go_sem] theorem ty57fld3 : fldI Try.prog 57 3 = some (3, 1, false) := by kernel_rfl
@[go_sem] theorem ty57fld4 : fldI Try.prog 57 4 = some (4, 1, false) := by kernel_rfl
@[go_sem] theorem ty57fld5 : fldI Try.prog 57 5 = some (5, 1, false) := by kernel_rfl
@[go_sem] theorem ty57fld6 : fldI Try.prog 57 6 = some (6, 1, false) := by kernel_rfl
@[go_sem] theorem ty57fld7 : fldI Try.prog 57 7 = some (7, 1, false) := by kernel_rfl
@[go_sem] theorem ty57fld8 : fldI Try.prog 57 8 = some (8, 1, false) := by kernel_rfl
@[go_sem] theorem ty57fld9 : fldI Try.prog 57 9 = some (9, 1, false) := by kernel_rfl
@[go_sem] theorem ty57fld10 : fldI Try.prog 57 10 = some (10, 1, false) := by kernel_rfl
@[go_sem] theorem ty58tyK : tyK Try.prog 58 = .agg 11 := by kernel_rfl
@[go_sem] theorem ty58sizeT : sizeT Try.prog 58 = some 11 := by kernel_rfl
@[go_sem] theorem ty58zeroT : zeroT Try.prog 58 = some (.agg #[(.int .i64 0), (.int .i64 0), (.int .i64 0), (.int .i64 0), (.int .i64 0), (.int .i64 0), (.int .i64 0), (.bool false), (.int .i64 0), (.int .i64 0), (.int .i64 0)]) := by kernel_rfl
@[go_sem] theorem ty58conc : Program.concrete Try.prog 58 = true := by kernel_rfl
@[go_sem] theorem ty58plc : plcT Try.prog 58 = some [(0, 1), (1, 1), (2, 1), (3, 1), (4, 1), (5, 1), (6, 1), (7, 1), (8, 1), (9, 1), (10, 1)] := by kernel_rfl
@[go_sem] theorem ty58flat : flatT Try.prog 58 = some [.int, .int, .int, .int, .int, .int, .int, .bool, .int, .int, .int] := by kernel_rfl
@[go_sem] theorem ty58fld0 : fldI Try.prog 58 0 = some (0, 1, false) := by kernel_rfl
@[go_sem] theorem ty58fld1 : fldI Try.prog 58 1 = some (1, 1, false) := by kernel_rfl
@[go_sem] theorem ty58fld2 : fldI Try.prog 58 2 = some (2, 1, false) := by kernel_rfl
@[go_sem] theorem ty58fld3 : fldI Try.prog 58 3 = some (3, 1, false) := by kernel_rfl
@[go_sem] theorem ty58fld4 : fldI Try.prog 58 4 = some (4, 1, false) := by kernel_rfl
@[go_sem] theorem ty58fld5 : fldI Try.prog 58 5 = some (5, 1, false) := by kernel_rfl
@[go_sem] theorem ty58fld6 : fldI Try.prog 58 6 = some (6, 1, false) := by kernel_rfl
@[go_sem] theorem ty58fld7 : fldI Try.prog 58 7 = some (7, 1, false) := by kernel_rfl
@[go_sem] theorem ty58fld8 : fldI Try.prog 58 8 = some (8, 1, false) := by kernel_rfl
@[go_sem] theorem ty58fld9 : fldI Try.prog 58 9 = some (9, 1, false) := by kernel_rfl
@[go_sem] theorem ty58fld10 : fldI Try.prog 58 10 = some (10, 1, false) := by kernel_rfl
@[go_sem] theorem ty59tyK : tyK Try.prog 59 = .other := by kernel_rfl
@[go_sem] theorem ty59isFuncT : isFuncT Try.prog 59 = true := by kernel_rfl
@[go_sem] theorem ty59sizeT : sizeT Try.prog 59 = some 1 := by kernel_rfl
@[go_sem] theorem ty59zeroT : zeroT Try.prog 59 = some .nilFunc := by kernel_rfl
@[go_sem] theorem ty59conc : Program.concrete Try.prog 59 = true := by kernel_rfl
@[go_sem] theorem ty60tyK : tyK Try.prog 60 = .ptr := by kernel_rfl
@[go_sem] theorem ty60isPtrT : isPtrT Try.prog 60 = true := by kernel_rfl
@[go_sem] theorem ty60sizeT : sizeT Try.prog 60 = some 1 := by kernel_rfl
@[go_sem] theorem ty60zeroT : zeroT Try.prog 60 = some (.pointer none) := by kernel_rfl
@[go_sem] theorem ty60conc : Program.concrete Try.prog 60 = true := by kernel_rfl
@[go_sem] theorem ty61tyK : tyK Try.prog 61 = .other := by kernel_rfl
@[go_sem] theorem ty61isFuncT : isFuncT Try.prog 61 = true := by kernel_rfl
@[go_sem] theorem ty61sizeT : sizeT Try.prog 61 = some 1 := by kernel_rfl
@[go_sem] theorem ty61zeroT : zeroT Try.prog 61 = some .nilFunc := by kernel_rfl
@[go_sem] theorem ty61conc : Program.concrete Try.prog 61 = true := by kernel_rfl
@[go_sem] theorem ty62tyK : tyK Try.prog 62 = .other := by kernel_rfl
@[go_sem] theorem ty62isFuncT : isFuncT Try.prog 62 = true := by kernel_rfl
@[go_sem] theorem ty62sizeT : sizeT Try.prog 62 = some 1 := by kernel_rfl
@[go_sem] theorem ty62zeroT : zeroT Try.prog 62 = some .nilFunc := by kernel_rfl
@[go_sem] theorem ty62conc : Program.concrete Try.prog 62 = true := by kernel_rfl
@[go_sem] theorem ty63tyK : tyK Try.prog 63 = .int .u32 := by kernel_rfl
@[go_sem] theorem ty63sizeT : sizeT Try.prog 63 = some 1 := by kernel_rfl
@[go_sem] theorem ty63zeroT : zeroT Try.prog 63 = some (.int .u32 0) := by kernel_rfl
@[go_sem] theorem ty63conc : Program.concrete Try.prog 63 = true := by kernel_rfl
@[go_sem] theorem ty64tyK : tyK Try.prog 64 = .slice false 63 := by kernel_rfl
@[go_sem] theorem ty64isSliceT : isSliceT Try.prog 64 = true := by kernel_rfl
@[go_sem] theorem ty64sliI : sliI Try.prog 64 = some 1 := by kernel_rfl
@[go_sem] theorem ty64mkI : mkI Try.prog 64 = some (63, 1, 4, (.int .u32 0)) := by kernel_rfl
@[go_sem] theorem ty64sizeT : sizeT Try.prog 64 = some 1 := by kernel_rfl
@[go_sem] theorem ty64zeroT : zeroT Try.prog 64 = some (.slice none 0 0) := by kernel_rfl
@[go_sem] theorem ty64conc : Program.concrete Try.prog 64 = true := by kernel_rfl
@[go_sem] theorem ty65tyK : tyK Try.prog 65 = .map := by kernel_rfl
@[go_sem] theorem ty65isMapT : isMapT Try.prog 65 = true := by kernel_rfl
@[go_sem] theorem ty65sizeT : sizeT Try.prog 65 = some 1 := by kernel_rfl
@[go_sem] theorem ty65zeroT : zeroT Try.prog 65 = some (.map none) := by kernel_rfl
@[go_sem] theorem ty65conc : Program.concrete Try.prog 65 = true := by kernel_rfl
@[go_sem] theorem ty66tyK : tyK Try.prog 66 = .slice false 72 := by kernel_rfl
@[go_sem] theorem ty66isSliceT : isSliceT Try.prog 66 = true := by kernel_rfl
@[go_sem] theorem ty66sliI : sliI Try.prog 66 = some 3 := by kernel_rfl
@[go_sem] theorem ty66mkI : mkI Try.prog 66 = some (72, 3, 48, (.agg #[(.int .u32 0), (.string (ofL [])), (.slice none 0 0)])) := by kernel_rfl
@[go_sem] theorem ty66sizeT : sizeT Try.prog 66 = some 1 := by kernel_rfl
@[go_sem] theorem ty66zeroT : zeroT Try.prog 66 = some (.slice none 0 0) := by kernel_rfl
@[go_sem] theorem ty66conc : Program.concrete Try.prog 66 = true := by kernel_rfl
@[go_sem] theorem ty67tyK : tyK Try.prog 67 = .agg 5 := by kernel_rfl
@[go_sem] theorem ty67sizeT : sizeT Try.prog 67 = some 5 := by kernel_rfl
@[go_sem] theorem ty67zeroT : zeroT Try.prog 67 = some (.agg #[(.slice none 0 0), (.slice none 0 0), (.int .u32 0), (.map none), (.slice none 0 0)]) := by kernel_rfl
@[go_sem] theorem ty67conc : Program.concrete Try.prog 67 = true := by kernel_rfl
@[go_sem] theorem ty67plc : plcT Try.prog 67 = some [(0, 1), (1, 1), (2, 1), (3, 1), (4, 1)] := by kernel_rfl
@[go_sem] theorem ty67fld0 : fldI Try.prog 67 0 = some (0, 1, false) := by kernel_rfl
@[go_sem] theorem ty67fld1 : fldI Try.prog 67 1 = some (1, 1, false) := by kernel_rfl
@[go_sem] theorem ty67fld2 : fldI Try.prog 67 2 = some (2, 1, false) := by kernel_rfl
@[go_sem] theorem ty67fld3 : fldI Try.prog 67 3 = some (3, 1, false) := by kernel_rfl
@[go_sem] theorem ty67fld4 : fldI Try.prog 67 4 = some (4, 1, false) := by kernel_rfl
@[go_sem] theorem ty68tyK : tyK Try.prog 68 = .agg 5 := by kernel_rfl
@[go_sem] theorem ty68sizeT : sizeT Try.prog 68 = some 5 := by kernel_rfl
@[go_sem] theorem ty68zeroT : zeroT Try.prog 68 = some (.agg #[(.slice none 0 0), (.slice none 0 0), (.int .u32 0), (.map none), (.slice none 0 0)]) := by kernel_rfl
@[go_sem] theorem ty68conc : Program.concrete Try.prog 68 = true := by kernel_rfl
@[go_sem] theorem ty68plc : plcT Try.prog 68 = some [(0, 1), (1, 1), (2, 1), (3, 1), (4, 1)] := by kernel_rfl
@[go_sem] theorem ty68fld0 : fldI Try.prog 68 0 = some (0, 1, false) := by kernel_rfl
@[go_sem] theorem ty68fld1 : fldI Try.prog 68 1 = some (1, 1, false) := by kernel_rfl
@[go_sem] theorem ty68fld2 : fldI Try.prog 68 2 = some (2, 1, false) := by kernel_rfl
@[go_sem] theorem ty68fld3 : fldI Try.prog 68 3 = some (3, 1, false) := by kernel_rfl
@[go_sem] theorem ty68fld4 : fldI Try.prog 68 4 = some (4, 1, false) := by kernel_rfl
@[go_sem] theorem ty69tyK : tyK Try.prog 69 = .agg 2 := by kernel_rfl
@[go_sem] theorem ty69sizeT : sizeT Try.prog 69 = some 2 := by kernel_rfl
@[go_sem] theorem ty69zeroT : zeroT Try.prog 69 = some (.agg #[(.int .u32 0), (.string (ofL []))]) := by kernel_rfl
@[go_sem] theorem ty69conc : Program.concrete Try.prog 69 = true := by kernel_rfl
@[go_sem] theorem ty69plc : plcT Try.prog 69 = some [(0, 1), (1, 1)] := by kernel_rfl
@[go_sem] theorem ty69flat : flatT Try.prog 69 = some [.int, .str] := by kernel_rfl
@[go_sem] theorem ty69fld0 : fldI Try.prog 69 0 = some (0, 1, false) := by kernel_rfl
@[go_sem] theorem ty69fld1 : fldI Try.prog 69 1 = some (1, 1, false) := by kernel_rfl
@[go_sem] theorem ty70tyK : tyK Try.prog 70 = .agg 2 := by kernel_rfl
@[go_sem] theorem ty70sizeT : sizeT Try.prog 70 = some 2 := by kernel_rfl
@[go_sem] theorem ty70zeroT : zeroT Try.prog 70 = some (.agg #[(.int .u32 0), (.string (ofL []))]) := by kernel_rfl
@[go_sem] theorem ty70conc : Program.concrete Try.prog 70 = true := by kernel_rfl
@[go_sem] theorem ty70plc : plcT Try.prog 70 = some [(0, 1), (1, 1)] := by kernel_rfl
@[go_sem] theorem ty70flat : flatT Try.prog 70 = some [.int, .str] := by kernel_rfl
@[go_sem] theorem ty70fld0 : fldI Try.prog 70 0 = some (0, 1, false) := by kernel_rfl
@[go_sem] theorem ty70fld1 : fldI Try.prog 70 1 = some (1, 1, false) := by kernel_rfl
@[go_sem] theorem ty71tyK : tyK Try.prog 71 = .agg 3 := by kernel_rfl
@[go_sem] theorem ty71sizeT : sizeT Try.prog 71 = some 3 := by kernel_rfl
@[go_sem] theorem ty71zeroT : zeroT Try.prog 71 = some (.agg #[(.int .u32 0), (.string (ofL [])), (.slice none 0 0)]) := by kernel_rfl
@[go_sem] theorem ty71conc : Program.concrete Try.prog 71 = true := by kernel_rfl
@[go_sem] theorem ty71plc : plcT Try.prog 71 = some [(0, 2), (2, 1)] := by kernel_rfl
@[go_sem] theorem ty71fld0 : fldI Try.prog 71 0 = some (0, 2, true) := by kernel_rfl
@[go_sem] theorem ty71fld1 : fldI Try.prog 71 1 = some (2, 1, false) := by kernel_rfl
@[go_sem] theorem ty72tyK : tyK Try.prog 72 = .agg 3 := by kernel_rfl
@[go_sem] theorem ty72sizeT : sizeT Try.prog 72 = some 3 := by kernel_rfl
@[go_sem] theorem ty72zeroT : zeroT Try.prog 72 = some (.agg #[(.int .u32 0), (.string (ofL [])), (.slice none 0 0)]) := by kernel_rfl
@[go_sem] theorem ty72conc : Program.concrete Try.prog 72 = true := by kernel_rfl
@[go_sem] theorem ty72plc : plcT Try.prog 72 = some [(0, 2), (2, 1)] := by kernel_rfl
@[go_sem] theorem ty72fld0 : fldI Try.prog 72 0 = some (0, 2, true) := by kernel_rfl
@[go_sem] theorem ty72fld1 : fldI Try.prog 72 1 = some (2, 1, false) := by kernel_rfl
@[go_sem] theorem ty73tyK : tyK Try.prog 73 = .other := by kernel_rfl
@[go_sem] theorem ty73isFuncT : isFuncT Try.prog 73 = true := by kernel_rfl
@[go_sem] theorem ty73sizeT : sizeT Try.prog 73 = some 1 := by kernel_rfl
@[go_sem] theorem ty73zeroT : zeroT Try.prog 73 = some .nilFunc := by kernel_rfl
@[go_sem] theorem ty73conc : Program.concrete Try.prog 73 = true := by kernel_rfl
@[go_sem] theorem ty74tyK : tyK Try.prog 74 = .other := by kernel_rfl
@[go_sem] theorem ty74sizeT : sizeT Try.prog 74 = some 1 := by kernel_rfl
@[go_sem] theorem ty74zeroT : zeroT Try.prog 74 = some (.tuple #[(.slice none 0 0), (.bool false)]) := by kernel_rfl
@[go_sem] theorem ty74conc : Program.concrete Try.prog 74 = true := by kernel_rfl
@[go_sem] theorem ty75tyK : tyK Try.prog 75 = .other := by kernel_rfl
@[go_sem] theorem ty75isFuncT : isFuncT Try.prog 75 = true := by kernel_rfl
@[go_sem] theorem ty75sizeT : sizeT Try.prog 75 = some 1 := by kernel_rfl
@[go_sem] theorem ty75zeroT : zeroT Try.prog 75 = some .nilFunc := by kernel_rfl
@[go_sem] theorem ty75conc : Program.concrete Try.prog 75 = true := by kernel_rfl
@[go_sem] theorem ty76tyK : tyK Try.prog 76 = .int .u64 := by kernel_rfl
@[go_sem] theorem ty76sizeT : sizeT Try.prog 76 = some 1 := by kernel_rfl
@[go_sem] theorem ty76zeroT : zeroT Try.prog 76 = some (.int .u64 0) := by kernel_rfl
@[go_sem] theorem ty76conc : Program.concrete Try.prog 76 = true := by kernel_rfl
@[go_sem] theorem ty77tyK : tyK Try.prog 77 = .other := by kernel_rfl
@[go_sem] theorem ty77isFuncT : isFuncT Try.prog 77 = true := by kernel_rfl
@[go_sem] theorem ty77sizeT : sizeT Try.prog 77 = some 1 := by kernel_rfl
@[go_sem] theorem ty77zeroT : zeroT Try.prog 77 = some .nilFunc := by kernel_rfl
@[go_sem] theorem ty77conc : Program.concrete Try.prog 77 = true := by kernel_rfl
@[go_sem] theorem ty78tyK : tyK Try.prog 78 = .other := by kernel_rfl
@[go_sem] theorem ty78isFuncT : isFuncT Try.prog 78 = true := by kernel_rfl
@[go_sem] theorem ty78sizeT : sizeT Try.prog 78 = some 1 := by kernel_rfl
@[go_sem] theorem ty78zeroT : zeroT Try.prog 78 = some .nilFunc := by kernel_rfl
@[go_sem] theorem ty78conc : Program.concrete Try.prog 78 = true := by kernel_rfl
@[go_sem] theorem ty79tyK : tyK Try.prog 79 = .slice false 83 := by kernel_rfl
@[go_sem] theorem ty79isSliceT : isSliceT Try.prog 79 = true := by kernel_rfl
@[go_sem] theorem ty79sliI : sliI Try.prog 79 = some 2 := by kernel_rfl
@[go_sem] theorem ty79mkI : mkI Try.prog 79 = some (83, 2, 48, (.agg #[(.slice none 0 0), (.slice none 0 0)])) := by kernel_rfl
@[go_sem] theorem ty79sizeT : sizeT Try.prog 79 = some 1 := by kernel_rfl
@[go_sem] theorem ty79zeroT : zeroT Try.prog 79 = some (.slice none 0 0) := by kernel_rfl
@[go_sem] theorem ty79conc : Program.concrete Try.prog 79 = true := by kernel_rfl
@[go_sem] theorem ty80tyK : tyK Try.prog 80 = .other := by kernel_rfl
@[go_sem] theorem ty80isFuncT : isFuncT Try.prog 80 = true := by kernel_rfl
@[go_sem] theorem ty80sizeT : sizeT Try.prog 80 = some 1 := by kernel_rfl
@[go_sem] theorem ty80zeroT : zeroT Try.prog 80 = some .nilFunc := by kernel_rfl
@[go_sem] theorem ty80conc : Program.concrete Try.prog 80 = true := by kernel_rfl
@[go_sem] theorem ty81tyK : tyK Try.prog 81 = .other := by kernel_rfl
@[go_sem] theorem ty81isFuncT : isFuncT Try.prog 81 = true := by kernel_rfl
@[go_sem] theorem ty81sizeT : sizeT Try.prog 81 = some 1 := by kernel_rfl
@[go_sem] theorem ty81zeroT : zeroT Try.prog 81 = some .nilFunc := by kernel_rfl
@[go_sem] theorem ty81conc : Program.concrete Try.prog 81 = true := by kernel_rfl
@[go_sem] theorem ty82tyK : tyK Try.prog 82 = .agg 2 := by kernel_rfl
@[go_sem] theorem ty82sizeT : sizeT Try.prog 82 = some 2 := by kernel_rfl
@[go_sem] theorem ty82zeroT : zeroT Try.prog 82 = some (.agg #[(.slice none 0 0), (.slice none 0 0)]) := by kernel_rfl
@[go_sem] theorem ty82conc : Program.concrete Try.prog 82 = true := by kernel_rfl
@[go_sem] theorem ty82plc : plcT Try.prog 82 = some [(0, 1), (1, 1)] := by kernel_rfl
@[go_sem] theorem ty82fld0 : fldI Try.prog 82 0 = some (0, 1, false) := by kernel_rfl
@[go_sem] theorem ty82fld1 : fldI Try.prog 82 1 = some (1, 1, false) := by kernel_rfl
@[go_sem] theorem ty83tyK : tyK Try.prog 83 = .agg 2 := by kernel_rfl
@[go_sem] theorem ty83sizeT : sizeT Try.prog 83 = some 2 := by kernel_rfl
@[go_sem] theorem ty83zeroT : zeroT Try.prog 83 = some (.agg #[(.slice none 0 0), (.slice none 0 0)]) := by kernel_rfl
@[go_sem] theorem ty83conc : Program.concrete Try.prog 83 = true := by kernel_rfl
@[go_sem] theorem ty83plc : plcT Try.prog 83 = some [(0, 1), (1, 1)] := by kernel_rfl
@[go_sem] theorem ty83fld0 : fldI Try.prog 83 0 = some (0, 1, false) := by kernel_rfl
@[go_sem] theorem ty83fld1 : fldI Try.prog 83 1 = some (1, 1, false) := by kernel_rfl
@[go_sem] theorem ty84tyK : tyK Try.prog 84 = .other := by kernel_rfl
@[go_sem] theorem ty84isFuncT : isFuncT Try.prog 84 = true := by kernel_rfl
@[go_sem] theorem ty84sizeT : sizeT Try.prog 84 = some 1 := by kernel_rfl
@[go_sem] theorem ty84zeroT : zeroT Try.prog 84 = some .nilFunc := by kernel_rfl
@[go_sem] theorem ty84conc : Program.concrete Try.prog 84 = true := by kernel_rfl
@[go_sem] theorem ty85tyK : tyK Try.prog 85 = .other := by kernel_rfl
@[go_sem] theorem ty85isFuncT : isFuncT Try.prog 85 = true := by kernel_rfl
@[go_sem] theorem ty85sizeT : sizeT Try.prog 85 = some 1 := by kernel_rfl
@[go_sem] theorem ty85zeroT : zeroT Try.prog 85 = some .nilFunc := by kernel_rfl
@[go_sem] theorem ty85conc : Program.concrete Try.prog 85 = true := by kernel_rfl
@[go_sem] theorem ty86tyK : tyK Try.prog 86 = .other := by kernel_rfl
@[go_sem] theorem ty86isFuncT : isFuncT Try.prog 86 = true := by kernel_rfl
@[go_sem] theorem ty86sizeT : sizeT Try.prog 86 = some 1 := by kernel_rfl
@[go_sem] theorem ty86zeroT : zeroT Try.prog 86 = some .nilFunc := by kernel_rfl
@[go_sem] theorem ty86conc : Program.concrete Try.prog 86 = true := by kernel_rfl
@[go_sem] theorem ty87tyK : tyK Try.prog 87 = .other := by kernel_rfl
@[go_sem] theorem ty87isFuncT : isFuncT Try.prog 87 = true := by kernel_rfl
@[go_sem] theorem ty87sizeT : sizeT Try.prog 87 = some 1 := by kernel_rfl
@[go_sem] theorem ty87zeroT : zeroT Try.prog 87 = some .nilFunc := by kernel_rfl
@[go_sem] theorem ty87conc : Program.concrete Try.prog 87 = true := by kernel_rfl
@[go_sem] theorem ty88tyK : tyK Try.prog 88 = .other := by kernel_rfl
@[go_sem] theorem ty88isFuncT : isFuncT Try.prog 88 = true := by kernel_rfl
@[go_sem] theorem ty88sizeT : sizeT Try.prog 88 = some 1 := by kernel_rfl
@[go_sem] theorem ty88zeroT : zeroT Try.prog 88 = some .nilFunc := by kernel_rfl
@[go_sem] theorem ty88conc : Program.concrete Try.prog 88 = true := by kernel_rfl
@[go_sem] theorem ty89tyK : tyK Try.prog 89 = .other := by kernel_rfl
@[go_sem] theorem ty89isFuncT : isFuncT Try.prog 89 = true := by kernel_rfl
@[go_sem] theorem ty89sizeT : sizeT Try.prog 89 = some 1 := by kernel_rfl
@[go_sem] theorem ty89zeroT : zeroT Try.prog 89 = some .nilFunc := by kernel_rfl
@[go_sem] theorem ty89conc : Program.concrete Try.prog 89 = true := by kernel_rfl
@[go_sem] theorem ty90tyK : tyK Try.prog 90 = .other := by kernel_rfl
@[go_sem] theorem ty90isFuncT : isFuncT Try.prog 90 = true := by kernel_rfl
@[go_sem] theorem ty90sizeT : sizeT Try.prog 90 = some 1 := by kernel_rfl
@[go_sem] theorem ty90zeroT : zeroT Try.prog 90 = some .nilFunc := by kernel_rfl
@[go_sem] theorem ty90conc : Program.concrete Try.prog 90 = true := by kernel_rfl
@[go_sem] theorem ty91tyK : tyK Try.prog 91 = .other := by kernel_rfl
@[go_sem] theorem ty91isFuncT : isFuncT Try.prog 91 = true := by kernel_rfl
@[go_sem] theorem ty91sizeT : sizeT Try.prog 91 = some 1 := by kernel_rfl
@[go_sem] theorem ty91zeroT : zeroT Try.prog 91 = some .nilFunc := by kernel_rfl
@[go_sem] theorem ty91conc : Program.concrete Try.prog 91 = true := by kernel_rfl
@[go_sem] theorem ty92tyK : tyK Try.prog 92 = .other := by kernel_rfl
@[go_sem] theorem ty92isFuncT : isFuncT Try.prog 92 = true := by kernel_rfl
@[go_sem] theorem ty92sizeT : sizeT Try.prog 92 = some 1 := by kernel_rfl
@[go_sem] theorem ty92zeroT : zeroT Try.prog 92 = some .nilFunc := by kernel_rfl
@[go_sem] theorem ty92conc : Program.concrete Try.prog 92 = true := by kernel_rfl
@[go_sem] theorem ty93tyK : tyK Try.prog 93 = .other := by kernel_rfl
@[go_sem] theorem ty93isFuncT : isFuncT Try.prog 93 = true := by kernel_rfl
@[go_sem] theorem ty93sizeT : sizeT Try.prog 93 = some 1 := by kernel_rfl
@[go_sem] theorem ty93zeroT : zeroT Try.prog 93 = some .nilFunc := by kernel_rfl
@[go_sem] theorem ty93conc : Program.concrete Try.prog 93 = true := by kernel_rfl
@[go_sem] theorem ty94tyK : tyK Try.prog 94 = .other := by kernel_rfl
@[go_sem] theorem ty94isFuncT : isFuncT Try.prog 94 = true := by kernel_rfl
@[go_sem] theorem ty94sizeT : sizeT Try.prog 94 = some 1 := by kernel_rfl
@[go_sem] theorem ty94zeroT : zeroT Try.prog 94 = some .nilFunc := by kernel_rfl
@[go_sem] theorem ty94conc : Program.concrete Try.prog 94 = true := by kernel_rfl
@[go_sem] theorem ty95tyK : tyK Try.prog 95 = .ptr := by kernel_rfl
@[go_sem] theorem ty95isPtrT : isPtrT Try.prog 95 = true := by kernel_rfl
@[go_sem] theorem ty95sizeT : sizeT Try.prog 95 = some 1 := by kernel_rfl
@[go_sem] theorem ty95zeroT : zeroT Try.prog 95 = some (.pointer none) := by kernel_rfl
@[go_sem] theorem ty95conc : Program.concrete Try.prog 95 = true := by kernel_rfl
@[go_sem] theorem ty96tyK : tyK Try.prog 96 = .map := by kernel_rfl
@[go_sem] theorem ty96isMapT : isMapT Try.prog 96 = true := by kernel_rfl
@[go_sem] theorem ty96sizeT : sizeT Try.prog 96 = some 1 := by kernel_rfl
@[go_sem] theorem ty96zeroT : zeroT Try.prog 96 = some (.map none) := by kernel_rfl
@[go_sem] theorem ty96conc : Program.concrete Try.prog 96 = true := by kernel_rfl
@[go_sem] theorem ty97tyK : tyK Try.prog 97 = .slice false 22 := by kernel_rfl
@[go_sem] theorem ty97isSliceT : isSliceT Try.prog 97 = true := by kernel_rfl
@[go_sem] theorem ty97sliI : sliI Try.prog 97 = some 1 := by kernel_rfl
@[go_sem] theorem ty97mkI : mkI Try.prog 97 = some (22, 1, 24, (.slice none 0 0)) := by kernel_rfl
@[go_sem] theorem ty97sizeT : sizeT Try.prog 97 = some 1 := by kernel_rfl
@[go_sem] theorem ty97zeroT : zeroT Try.prog 97 = some (.slice none 0 0) := by kernel_rfl
@[go_sem] theorem ty97conc : Program.concrete Try.prog 97 = true := by kernel_rfl
@[go_sem] theorem ty98tyK : tyK Try.prog 98 = .agg 4 := by kernel_rfl
@[go_sem] theorem ty98sizeT : sizeT Try.prog 98 = some 4 := by kernel_rfl
@[go_sem] theorem ty98zeroT : zeroT Try.prog 98 = some (.agg #[(.slice none 0 0), (.map none), (.slice none 0 0), (.int .i64 0)]) := by kernel_rfl
@[go_sem] theorem ty98conc : Program.concrete Try.prog 98 = true := by kernel_rfl
@[go_sem] theorem ty98plc : plcT Try.prog 98 = some [(0, 1), (1, 1), (2, 1), (3, 1)] := by kernel_rfl
@[go_sem] theorem ty98fld0 : fldI Try.prog 98 0 = some (0, 1, false) := by kernel_rfl
@[go_sem] theorem ty98fld1 : fldI Try.prog 98 1 = some (1, 1, false) := by kernel_rfl
@[go_sem] theorem ty98fld2 : fldI Try.prog 98 2 = some (2, 1, false) := by kernel_rfl
@[go_sem] theorem ty98fld3 : fldI Try.prog 98 3 = some (3, 1, false) := by kernel_rfl
@[go_sem] theorem ty99tyK : tyK Try.prog 99 = .agg 4 := by kernel_rfl
@[go_sem] theorem ty99sizeT : sizeT Try.prog 99 = some 4 := by kernel_rfl
@[go_sem] theorem ty99zeroT : zeroT Try.prog 99 = some (.agg #[(.slice none 0 0), (.map none), (.slice none 0 0), (.int .i64 0)]) := by kernel_rfl
@[go_sem] theorem ty99conc : Program.concrete Try.prog 99 = true := by kernel_rfl
@[go_sem] theorem ty99plc : plcT Try.prog 99 = some [(0, 1), (1, 1), (2, 1), (3, 1)] := by kernel_rfl
@[go_sem] theorem ty99fld0 : fldI Try.prog 99 0 = some (0, 1, false) := by kernel_rfl
@[go_sem] theorem ty99fld1 : fldI Try.prog 99 1 = some (1, 1, false) := by kernel_rfl
@[go_sem] theorem ty99fld2 : fldI Try.prog 99 2 = some (2, 1, false) := by kernel_rfl
@[go_sem] theorem ty99fld3 : fldI Try.prog 99 3 = some (3, 1, false) := by kernel_rfl
@[go_sem] theorem ty100tyK : tyK Try.prog 100 = .other := by kernel_rfl
@[go_sem] theorem ty100isFuncT : isFuncT Try.prog 100 = true := by kernel_rfl
@[go_sem] theorem ty100sizeT : sizeT Try.prog 100 = some 1 := by kernel_rfl
@[go_sem] theorem ty100zeroT : zeroT Try.prog 100 = some .nilFunc := by kernel_rfl
@[go_sem] theorem ty100conc : Program.concrete Try.prog 100 = true := by kernel_rfl
@[go_sem] theorem ty101tyK : tyK Try.prog 101 = .other := by kernel_rfl
@[go_sem] theorem ty101isFuncT : isFuncT Try.prog 101 = true := by kernel_rfl
@[go_sem] theorem ty101sizeT : sizeT Try.prog 101 = some 1 := by kernel_rfl
@[go_sem] theorem ty101zeroT : zeroT Try.prog 101 = some .nilFunc := by kernel_rfl
@[go_sem] theorem ty101conc : Program.concrete Try.prog 101 = true := by kernel_rfl
@[go_sem] theorem ty102tyK : tyK Try.prog 102 = .other := by kernel_rfl
@[go_sem] theorem ty102isFuncT : isFuncT Try.prog 102 = true := by kernel_rfl
@[go_sem] theorem ty102sizeT : sizeT Try.prog 102 = some 1 := by kernel_rfl
@[go_sem] theorem ty102zeroT : zeroT Try.prog 102 = some .nilFunc := by kernel_rfl
@[go_sem] theorem ty102conc : Program.concrete Try.prog 102 = true := by kernel_rfl
@[go_sem] theorem ty103tyK : tyK Try.prog 103 = .other := by kernel_rfl
@[go_sem] theorem ty103isFuncT : isFuncT Try.prog 103 = true := by kernel_rfl
@[go_sem] theorem ty103sizeT : sizeT Try.prog 103 = some 1 := by kernel_rfl
@[go_sem] theorem ty103zeroT : zeroT Try.prog 103 = some .nilFunc := by kernel_rfl
@[go_sem] theorem ty103conc : Program.concrete Try.prog 103 = true := by kernel_rfl
@[go_sem] theorem ty104tyK : tyK Try.prog 104 = .other := by kernel_rfl
@[go_sem] theorem ty104isFuncT : isFuncT Try.prog 104 = true := by kernel_rfl
@[go_sem] theorem ty104sizeT : sizeT Try.prog 104 = some 1 := by kernel_rfl
@[go_sem] theorem ty104zeroT : zeroT Try.prog 104 = some .nilFunc := by kernel_rfl
@[go_sem] theorem ty104conc : Program.concrete Try.prog 104 = true := by kernel_rfl
@[go_sem] theorem ty105tyK : tyK Try.prog 105 = .other := by kernel_rfl
@[go_sem] theorem ty105isFuncT : isFuncT Try.prog 105 = true := by kernel_rfl
@[go_sem] theorem ty105sizeT : sizeT Try.prog 105 = some 1 := by kernel_rfl
@[go_sem] theorem ty105zeroT : zeroT Try.prog 105 = some .nilFunc := by kernel_rfl
@[go_sem] theorem ty105conc : Program.concrete Try.prog 105 = true := by kernel_rfl
@[go_sem] theorem ty106tyK : tyK Try.prog 106 = .other := by kernel_rfl
@[go_sem] theorem ty106sizeT : sizeT Try.prog 106 = some 1 := by kernel_rfl
@[go_sem] theorem ty106zeroT : zeroT Try.prog 106 = some (.tuple #[(.slice none 0 0), (.int .i64 0), (.bool false)]) := by kernel_rfl
@[go_sem] theorem ty106conc : Program.concrete Try.prog 106 = true := by kernel_rfl
@[go_sem] theorem ty107tyK : tyK Try.prog 107 = .other := by kernel_rfl
@[go_sem] theorem ty107isFuncT : isFuncT Try.prog 107 = true := by kernel_rfl
@[go_sem] theorem ty107sizeT : sizeT Try.prog 107 = some 1 := by kernel_rfl
@[go_sem] theorem ty107zeroT : zeroT Try.prog 107 = some .nilFunc := by kernel_rfl
@[go_sem] theorem ty107conc : Program.concrete Try.prog 107 = true := by kernel_rfl
@[go_sem] theorem ty108tyK : tyK Try.prog 108 = .other := by kernel_rfl
@[go_sem] theorem ty108isFuncT : isFuncT Try.prog 108 = true := by kernel_rfl
@[go_sem] theorem ty108sizeT : sizeT Try.prog 108 = some 1 := by kernel_rfl
@[go_sem] theorem ty108zeroT : zeroT Try.prog 108 = some .nilFunc := by kernel_rfl
@[go_sem] theorem ty108conc : Program.concrete Try.prog 108 = true := by kernel_rfl
@[go_sem] theorem ty109tyK : tyK Try.prog 109 = .map := by kernel_rfl
@[go_sem] theorem ty109isMapT : isMapT Try.prog 109 = true := by kernel_rfl
@[go_sem] theorem ty109sizeT : sizeT Try.prog 109 = some 1 := by kernel_rfl
@[go_sem] theorem ty109zeroT : zeroT Try.prog 109 = some (.map none) := by kernel_rfl
@[go_sem] theorem ty109conc : Program.concrete Try.prog 109 = true := by kernel_rfl
@[go_sem] theorem ty110tyK : tyK Try.prog 110 = .other := by kernel_rfl
@[go_sem] theorem ty110isFuncT : isFuncT Try.prog 110 = true := by kernel_rfl
@[go_sem] theorem ty110sizeT : sizeT Try.prog 110 = some 1 := by kernel_rfl
@[go_sem] theorem ty110zeroT : zeroT Try.prog 110 = some .nilFunc := by kernel_rfl
@[go_sem] theorem ty110conc : Program.concrete Try.prog 110 = true := by kernel_rfl
@[go_sem] theorem ty111tyK : tyK Try.prog 111 = .other := by kernel_rfl
@[go_sem] theorem ty111isFuncT : isFuncT Try.prog 111 = true := by kernel_rfl
@[go_sem] theorem ty111sizeT : sizeT Try.prog 111 = some 1 := by kernel_rfl
@[go_sem] theorem ty111zeroT : zeroT Try.prog 111 = some .nilFunc := by kernel_rfl
@[go_sem] theorem ty111conc : Program.concrete Try.prog 111 = true := by kernel_rfl
@[go_sem] theorem ty112tyK : tyK Try.prog 112 = .other := by kernel_rfl
@[go_sem] theorem ty112isFuncT : isFuncT Try.prog 112 = true := by kernel_rfl
@[go_sem] theorem ty112sizeT : sizeT Try.prog 112 = some 1 := by kernel_rfl
@[go_sem] theorem ty112zeroT : zeroT Try.prog 112 = some .nilFunc := by kernel_rfl
@[go_sem] theorem ty112conc : Program.concrete Try.prog 112 = true := by kernel_rfl
@[go_sem] theorem ty113tyK : tyK Try.prog 113 = .other := by kernel_rfl
@[go_sem] theorem ty113isFuncT : isFuncT Try.prog 113 = true := by kernel_rfl
@[go_sem] theorem ty113sizeT : sizeT Try.prog 113 = some 1 := by kernel_rfl
@[go_sem] theorem ty113zeroT : zeroT Try.prog 113 = some .nilFunc := by kernel_rfl
@[go_sem] theorem ty113conc : Program.concrete Try.prog 113 = true := by kernel_rfl
@[go_sem] theorem ty114tyK : tyK Try.prog 114 = .int .u64 := by kernel_rfl
@[go_sem] theorem ty114sizeT : sizeT Try.prog 114 = some 1 := by kernel_rfl
@[go_sem] theorem ty114zeroT : zeroT Try.prog 114 = some (.int .u64 0) := by kernel_rfl
@[go_sem] theorem ty114conc : Program.concrete Try.prog 114 = true := by kernel_rfl
@[go_sem] theorem ty115tyK : tyK Try.prog 115 = .other := by kernel_rfl
@[go_sem] theorem ty115isFuncT : isFuncT Try.prog 115 = true := by kernel_rfl
@[go_sem] theorem ty115sizeT : sizeT Try.prog 115 = some 1 := by kernel_rfl
@[go_sem] theorem ty115zeroT : zeroT Try.prog 115 = some .nilFunc := by kernel_rfl
@[go_sem] theorem ty115conc : Program.concrete Try.prog 115 = true := by kernel_rfl
@[go_sem] theorem ty116tyK : tyK Try.prog 116 = .agg 3 := by kernel_rfl
@[go_sem] theorem ty116sizeT : sizeT Try.prog 116 = some 3 := by kernel_rfl
@[go_sem] theorem ty116zeroT : zeroT Try.prog 116 = some (.agg #[(.slice none 0 0), (.int .i64 0), (.bool false)]) := by kernel_rfl
@[go_sem] theorem ty116conc : Program.concrete Try.prog 116 = true := by kernel_rfl
@[go_sem] theorem ty116plc : plcT Try.prog 116 = some [(0, 1), (1, 1), (2, 1)] := by kernel_rfl
@[go_sem] theorem ty116fld0 : fldI Try.prog 116 0 = some (0, 1, false) := by kernel_rfl
@[go_sem] theorem ty116fld1 : fldI Try.prog 116 1 = some (1, 1, false) := by kernel_rfl
@[go_sem] theorem ty116fld2 : fldI Try.prog 116 2 = some (2, 1, false) := by kernel_rfl
@[go_sem] theorem ty117tyK : tyK Try.prog 117 = .agg 3 := by kernel_rfl
@[go_sem] theorem ty117sizeT : sizeT Try.prog 117 = some 3 := by kernel_rfl
@[go_sem] theorem ty117zeroT : zeroT Try.prog 117 = some (.agg #[(.slice none 0 0), (.int .i64 0), (.bool false)]) := by kernel_rfl
@[go_sem] theorem ty117conc : Program.concrete Try.prog 117 = true := by kernel_rfl
@[go_sem] theorem ty117plc : plcT Try.prog 117 = some [(0, 1), (1, 1), (2, 1)] := by kernel_rfl
@[go_sem] theorem ty117fld0 : fldI Try.prog 117 0 = some (0, 1, false) := by kernel_rfl
@[go_sem] theorem ty117fld1 : fldI Try.prog 117 1 = some (1, 1, false) := by kernel_rfl
@[go_sem] theorem ty117fld2 : fldI Try.prog 117 2 = some (2, 1, false) := by kernel_rfl
@[go_sem] theorem ty118tyK : tyK Try.prog 118 = .other := by kernel_rfl
@[go_sem] theorem ty118isFuncT : isFuncT Try.prog 118 = true := by kernel_rfl
@[go_sem] theorem ty118sizeT : sizeT Try.prog 118 = some 1 := by kernel_rfl
@[go_sem] theorem ty118zeroT : zeroT Try.prog 118 = some .nilFunc := by kernel_rfl
@[go_sem] theorem ty118conc : Program.concrete Try.prog 118 = true := by kernel_rfl
@[go_sem] theorem ty119tyK : tyK Try.prog 119 = .other := by kernel_rfl
@[go_sem] theorem ty119isFuncT : isFuncT Try.prog 119 = true := by kernel_rfl
@[go_sem] theorem ty119sizeT : sizeT Try.prog 119 = some 1 := by kernel_rfl
@[go_sem] theorem ty119zeroT : zeroT Try.prog 119 = some .nilFunc := by kernel_rfl
@[go_sem] theorem ty119conc : Program.concrete Try.prog 119 = true := by kernel_rfl
@[go_sem] theorem ty120tyK : tyK Try.prog 120 = .agg 4 := by kernel_rfl
@[go_sem] theorem ty120sizeT : sizeT Try.prog 120 = some 4 := by kernel_rfl
@[go_sem] theorem ty120zeroT : zeroT Try.prog 120 = some (.agg #[(.int .i64 0), (.int .i64 0), (.int .i64 0), (.int .i64 0)]) := by kernel_rfl
@[go_sem] theorem ty120conc : Program.concrete Try.prog 120 = true := by kernel_rfl
@[go_sem] theorem ty120plc : plcT Try.prog 120 = some [(0, 1), (1, 1), (2, 1), (3, 1)] := by kernel_rfl
@[go_sem] theorem ty120flat : flatT Try.prog 120 = some [.int, .int, .int, .int] := by kernel_rfl
@[go_sem] theorem ty120fld0 : fldI Try.prog 120 0 = some (0, 1, false) := by kernel_rfl
@[go_sem] theorem ty120fld1 : fldI Try.prog 120 1 = some (1, 1, false) := by kernel_rfl
@[go_sem] theorem ty120fld2 : fldI Try.prog 120 2 = some (2, 1, false) := by kernel_rfl
@[go_sem] theorem ty120fld3 : fldI Try.prog 120 3 = some (3, 1, false) := by kernel_rfl
@[go_sem] theorem ty121tyK : tyK Try.prog 121 = .agg 4 := by kernel_rfl
@[go_sem] theorem ty121sizeT : sizeT Try.prog 121 = some 4 := by kernel_rfl
@[go_sem] theorem ty121zeroT : zeroT Try.prog 121 = some (.agg #[(.int .i64 0), (.int .i64 0), (.int .i64 0), (.int .i64 0)]) := by kernel_rfl
@[go_sem] theorem ty121conc : Program.concrete Try.prog 121 = true := by kernel_rfl
@[go_sem] theorem ty121plc : plcT Try.prog 121 = some [(0, 1), (1, 1), (2, 1), (3, 1)] := by kernel_rfl
@[go_sem] theorem ty121flat : flatT Try.prog 121 = some [.int, .int, .int, .int] := by kernel_rfl
@[go_sem] theorem ty121fld0 : fldI Try.prog 121 0 = some (0, 1, false) := by kernel_rfl
@[go_sem] theorem ty121fld1 : fldI Try.prog 121 1 = some (1, 1, false) := by kernel_rfl
@[go_sem] theorem ty121fld2 : fldI Try.prog 121 2 = some (2, 1, false) := by kernel_rfl
@[go_sem] theorem ty121fld3 : fldI Try.prog 121 3 = some (3, 1, false) := by kernel_rfl
@[go_sem] theorem ty122tyK : tyK Try.prog 122 = .other := by kernel_rfl
@[go_sem] theorem ty122sizeT : sizeT Try.prog 122 = some 1 := by kernel_rfl
@[go_sem] theorem ty122zeroT : zeroT Try.prog 122 = some (.tuple #[(.agg #[(.int .i64 0), (.int .i64 0), (.int .i64 0), (.int .i64 0)]), (.bool false)]) := by kernel_rfl
@[go_sem] theorem ty122conc : Program.concrete Try.prog 122 = true := by kernel_rfl
@[go_sem] theorem ty123tyK : tyK Try.prog 123 = .other := by kernel_rfl
@[go_sem] theorem ty123isFuncT : isFuncT Try.prog 123 = true := by kernel_rfl
@[go_sem] theorem ty123sizeT : sizeT Try.prog 123 = some 1 := by kernel_rfl
@[go_sem] theorem ty123zeroT : zeroT Try.prog 123 = some .nilFunc := by kernel_rfl
@[go_sem] theorem ty123conc : Program.concrete Try.prog 123 = true := by kernel_rfl
@[go_sem] theorem ty124tyK : tyK Try.prog 124 = .other := by kernel_rfl
@[go_sem] theorem ty124isFuncT : isFuncT Try.prog 124 = true := by kernel_rfl
@[go_sem] theorem ty124sizeT : sizeT Try.prog 124 = some 1 := by kernel_rfl
@[go_sem] theorem ty124zeroT : zeroT Try.prog 124 = some .nilFunc := by kernel_rfl
@[go_sem] theorem ty124conc : Program.concrete Try.prog 124 = true := by kernel_rfl
@[go_sem] theorem ty125tyK : tyK Try.prog 125 = .other := by kernel_rfl
@[go_sem] theorem ty125isFuncT : isFuncT Try.prog 125 = true := by kernel_rfl
@[go_sem] theorem ty125sizeT : sizeT Try.prog 125 = some 1 := by kernel_rfl
@[go_sem] theorem ty125zeroT : zeroT Try.prog 125 = some .nilFunc := by kernel_rfl
@[go_sem] theorem ty125conc : Program.concrete Try.prog 125 = true := by kernel_rfl
@[go_sem] theorem ty126tyK : tyK Try.prog 126 = .other := by kernel_rfl
@[go_sem] theorem ty126isFuncT : isFuncT Try.prog 126 = true := by kernel_rfl
@[go_sem] theorem ty126sizeT : sizeT Try.prog 126 = some 1 := by kernel_rfl
@[go_sem] theorem ty126zeroT : zeroT Try.prog 126 = some .nilFunc := by kernel_rfl
@[go_sem] theorem ty126conc : Program.concrete Try.prog 126 = true := by kernel_rfl
@[go_sem] theorem ty127tyK : tyK Try.prog 127 = .other := by kernel_rfl
@[go_sem] theorem ty127isFuncT : isFuncT Try.prog 127 = true := by kernel_rfl
@[go_sem] theorem ty127sizeT : sizeT Try.prog 127 = some 1 := by kernel_rfl
@[go_sem] theorem ty127zeroT : zeroT Try.prog 127 = some .nilFunc := by kernel_rfl
@[go_sem] theorem ty127conc : Program.concrete Try.prog 127 = true := by kernel_rfl
@[go_sem] theorem ty128tyK : tyK Try.prog 128 = .other := by kernel_rfl
@[go_sem] theorem ty128isFuncT : isFuncT Try.prog 128 = true := by kernel_rfl
@[go_sem] theorem ty128sizeT : sizeT Try.prog 128 = some 1 := by kernel_rfl
@[go_sem] theorem ty128zeroT : zeroT Try.prog 128 = some .nilFunc := by kernel_rfl
@[go_sem] theorem ty128conc : Program.concrete Try.prog 128 = true := by kernel_rfl
@[go_sem] theorem ty129tyK : tyK Try.prog 129 = .other := by kernel_rfl
@[go_sem] theorem ty129isFuncT : isFuncT Try.prog 129 = true := by kernel_rfl
@[go_sem] theorem ty129sizeT : sizeT Try.prog 129 = some 1 := by kernel_rfl
@[go_sem] theorem ty129zeroT : zeroT Try.prog 129 = some .nilFunc := by kernel_rfl
@[go_sem] theorem ty129conc : Program.concrete Try.prog 129 = true := by kernel_rfl
@[go_sem] theorem ty130tyK : tyK Try.prog 130 = .other := by kernel_rfl
@[go_sem] theorem ty130isFuncT : isFuncT Try.prog 130 = true := by kernel_rfl
@[go_sem] theorem ty130sizeT : sizeT Try.prog 130 = some 1 := by kernel_rfl
@[go_sem] theorem ty130zeroT : zeroT Try.prog 130 = some .nilFunc := by kernel_rfl
@[go_sem] theorem ty130conc : Program.concrete Try.prog 130 = true := by kernel_rfl
@[go_sem] theorem ty131tyK : tyK Try.prog 131 = .other := by kernel_rfl
@[go_sem] theorem ty131isFuncT : isFuncT Try.prog 131 = true := by kernel_rfl
@[go_sem] theorem ty131sizeT : sizeT Try.prog 131 = some 1 := by kernel_rfl
@[go_sem] theorem ty131zeroT : zeroT Try.prog 131 = some .nilFunc := by kernel_rfl
@[go_sem] theorem ty131conc : Program.concrete Try.prog 131 = true := by kernel_rfl
@[go_sem] theorem ty132tyK : tyK Try.prog 132 = .other := by kernel_rfl
@[go_sem] theorem ty132isFuncT : isFuncT Try.prog 132 = true := by kernel_rfl
@[go_sem] theorem ty132sizeT : sizeT Try.prog 132 = some 1 := by kernel_rfl
@[go_sem] theorem ty132zeroT : zeroT Try.prog 132 = some .nilFunc := by kernel_rfl
@[go_sem] theorem ty132conc : Program.concrete Try.prog 132 = true := by kernel_rfl
@[go_sem] theorem ty133tyK : tyK Try.prog 133 = .agg 3 := by kernel_rfl
@[go_sem] theorem ty133sizeT : sizeT Try.prog 133 = some 3 := by kernel_rfl
@[go_sem] theorem ty133zeroT : zeroT Try.prog 133 = some (.agg #[(.int .i64 0), (.int .u32 0), (.string (ofL []))]) := by kernel_rfl
@[go_sem] theorem ty133conc : Program.concrete Try.prog 133 = true := by kernel_rfl
@[go_sem] theorem ty133plc : plcT Try.prog 133 = some [(0, 1), (1, 1), (2, 1)] := by kernel_rfl
@[go_sem] theorem ty133flat : flatT Try.prog 133 = some [.int, .int, .str] := by kernel_rfl
@[go_sem] theorem ty133fld0 : fldI Try.prog 133 0 = some (0, 1, false) := by kernel_rfl
@[go_sem] theorem ty133fld1 : fldI Try.prog 133 1 = some (1, 1, false) := by kernel_rfl
@[go_sem] theorem ty133fld2 : fldI Try.prog 133 2 = some (2, 1, false) := by kernel_rfl
@[go_sem] theorem ty134tyK : tyK Try.prog 134 = .agg 3 := by kernel_rfl
@[go_sem] theorem ty134sizeT : sizeT Try.prog 134 = some 3 := by kernel_rfl
@[go_sem] theorem ty134zeroT : zeroT Try.prog 134 = some (.agg #[(.int .i64 0), (.int .u32 0), (.string (ofL []))]) := by kernel_rfl
@[go_sem] theorem ty134conc : Program.concrete Try.prog 134 = true := by kernel_rfl
@[go_sem] theorem ty134plc : plcT Try.prog 134 = some [(0, 1), (1, 1), (2, 1)] := by kernel_rfl
@[go_sem] theorem ty134flat : flatT Try.prog 134 = some [.int, .int, .str] := by kernel_rfl
@[go_sem] theorem ty134fld0 : fldI Try.prog 134 0 = some (0, 1, false) := by kernel_rfl
@[go_sem] theorem ty134fld1 : fldI Try.prog 134 1 = some (1, 1, false) := by kernel_rfl
@[go_sem] theorem ty134fld2 : fldI Try.prog 134 2 = some (2, 1, false) := by kernel_rfl
@[go_sem] theorem ty135tyK : tyK Try.prog 135 = .other := by kernel_rfl
@[go_sem] theorem ty135isFuncT : isFuncT Try.prog 135 = true := by kernel_rfl
@[go_sem] theorem ty135sizeT : sizeT Try.prog 135 = some 1 := by kernel_rfl
@[go_sem] theorem ty135zeroT : zeroT Try.prog 135 = some .nilFunc := by kernel_rfl
@[go_sem] theorem ty135conc : Program.concrete Try.prog 135 = true := by kernel_rfl
@[go_sem] theorem ty136tyK : tyK Try.prog 136 = .other := by kernel_rfl
@[go_sem] theorem ty136isFuncT : isFuncT Try.prog 136 = true := by kernel_rfl
@[go_sem] theorem ty136sizeT : sizeT Try.prog 136 = some 1 := by kernel_rfl
@[go_sem] theorem ty136zeroT : zeroT Try.prog 136 = some .nilFunc := by kernel_rfl
@[go_sem] theorem ty136conc : Program.concrete Try.prog 136 = true := by kernel_rfl
@[go_sem] theorem ty137tyK : tyK Try.prog 137 = .int .i64 := by kernel_rfl
@[go_sem] theorem ty137sizeT : sizeT Try.prog 137 = some 1 := by kernel_rfl
@[go_sem] theorem ty137zeroT : zeroT Try.prog 137 = some (.int .i64 0) := by kernel_rfl
@[go_sem] theorem ty137conc : Program.concrete Try.prog 137 = true := by kernel_rfl
@[go_sem] theorem ty138tyK : tyK Try.prog 138 = .other := by kernel_rfl
@[go_sem] theorem ty138sizeT : sizeT Try.prog 138 = some 1 := by kernel_rfl
@[go_sem] theorem ty138zeroT : zeroT Try.prog 138 = some (.tuple #[(.int .i64 0), (.int .i64 0)]) := by kernel_rfl
@[go_sem] theorem ty138conc : Program.concrete Try.prog 138 = true := by kernel_rfl
@[go_sem] theorem ty139tyK : tyK Try.prog 139 = .other := by kernel_rfl
@[go_sem] theorem ty139isFuncT : isFuncT Try.prog 139 = true := by kernel_rfl
@[go_sem] theorem ty139sizeT : sizeT Try.prog 139 = some 1 := by kernel_rfl
@[go_sem] theorem ty139zeroT : zeroT Try.prog 139 = some .nilFunc := by kernel_rfl
@[go_sem] theorem ty139conc : Program.concrete Try.prog 139 = true := by kernel_rfl
@[go_sem] theorem ty140tyK : tyK Try.prog 140 = .other := by kernel_rfl
@[go_sem] theorem ty140isFuncT : isFuncT Try.prog 140 = true := by kernel_rfl
@[go_sem] theorem ty140sizeT : sizeT Try.prog 140 = some 1 := by kernel_rfl
@[go_sem] theorem ty140zeroT : zeroT Try.prog 140 = some .nilFunc := by kernel_rfl
@[go_sem] theorem ty140conc : Program.concrete Try.prog 140 = true := by kernel_rfl
@[go_sem] theorem ty141tyK : tyK Try.prog 141 = .other := by kernel_rfl
@[go_sem] theorem ty141isFuncT : isFuncT Try.prog 141 = true := by kernel_rfl
@[go_sem] theorem ty141sizeT : sizeT Try.prog 141 = some 1 := by kernel_rfl
@[go_sem] theorem ty141zeroT : zeroT Try.prog 141 = some .nilFunc := by kernel_rfl
@[go_sem] theorem ty141conc : Program.concrete Try.prog 141 = true := by kernel_rfl
@[go_sem] theorem ty142tyK : tyK Try.prog 142 = .other := by kernel_rfl
@[go_sem] theorem ty142sizeT : sizeT Try.prog 142 = some 1 := by kernel_rfl
@[go_sem] theorem ty142zeroT : zeroT Try.prog 142 = some (.tuple #[(.int .i64 0), (.bool false)]) := by kernel_rfl
@[go_sem] theorem ty142conc : Program.concrete Try.prog 142 = true := by kernel_rfl
@[go_sem] theorem ty143tyK : tyK Try.prog 143 = .other := by kernel_rfl
@[go_sem] theorem ty143isFuncT : isFuncT Try.prog 143 = true := by kernel_rfl
@[go_sem] theorem ty143sizeT : sizeT Try.prog 143 = some 1 := by kernel_rfl
@[go_sem] theorem ty143zeroT : zeroT Try.prog 143 = some .nilFunc := by kernel_rfl
@[go_sem] theorem ty143conc : Program.concrete Try.prog 143 = true := by kernel_rfl
@[go_sem] theorem ty144tyK : tyK Try.prog 144 = .other := by kernel_rfl
@[go_sem] theorem ty144isFuncT : isFuncT Try.prog 144 = true := by kernel_rfl
@[go_sem] theorem ty144sizeT : sizeT Try.prog 144 = some 1 := by kernel_rfl
@[go_sem] theorem ty144zeroT : zeroT Try.prog 144 = some .nilFunc := by kernel_rfl
@[go_sem] theorem ty144conc : Program.concrete Try.prog 144 = true := by kernel_rfl
@[go_sem] theorem ty145tyK : tyK Try.prog 145 = .other := by kernel_rfl
@[go_sem] theorem ty145isFuncT : isFuncT Try.prog 145 = true := by kernel_rfl
@[go_sem] theorem ty145sizeT : sizeT Try.prog 145 = some 1 := by kernel_rfl
@[go_sem] theorem ty145zeroT : zeroT Try.prog 145 = some .nilFunc := by kernel_rfl
@[go_sem] theorem ty145conc : Program.concrete Try.prog 145 = true := by kernel_rfl
@[go_sem] theorem ty146tyK : tyK Try.prog 146 = .slice true 5 := by kernel_rfl
@[go_sem] theorem ty146isSliceT : isSliceT Try.prog 146 = true := by kernel_rfl
@[go_sem] theorem ty146sliI : sliI Try.prog 146 = some 1 := by kernel_rfl
@[go_sem] theorem ty146mkI : mkI Try.prog 146 = some (5, 1, 1, (.int .u8 0)) := by kernel_rfl
@[go_sem] theorem ty146sizeT : sizeT Try.prog 146 = some 1 := by kernel_rfl
@[go_sem] theorem ty146zeroT : zeroT Try.prog 146 = some (.slice none 0 0) := by kernel_rfl
@[go_sem] theorem ty146conc : Program.concrete Try.prog 146 = true := by kernel_rfl
@[go_sem] theorem ty147tyK : tyK Try.prog 147 = .other := by kernel_rfl
@[go_sem] theorem ty147isFuncT : isFuncT Try.prog 147 = true := by kernel_rfl
@[go_sem] theorem ty147sizeT : sizeT Try.prog 147 = some 1 := by kernel_rfl
@[go_sem] theorem ty147zeroT : zeroT Try.prog 147 = some .nilFunc := by kernel_rfl
@[go_sem] theorem ty147conc : Program.concrete Try.prog 147 = true := by kernel_rfl
@[go_sem] theorem ty148tyK : tyK Try.prog 148 = .slice false 121 := by kernel_rfl
@[go_sem] theorem ty148isSliceT : isSliceT Try.prog 148 = true := by kernel_rfl
@[go_sem] theorem ty148sliI : sliI Try.prog 148 = some 4 := by kernel_rfl
@[go_sem] theorem ty148mkI : mkI Try.prog 148 = some (121, 4, 32, (.agg #[(.int .i64 0), (.int .i64 0), (.int .i64 0), (.int .i64 0)])) := by kernel_rfl
@[go_sem] theorem ty148sizeT : sizeT Try.prog 148 = some 1 := by kernel_rfl
@[go_sem] theorem ty148zeroT : zeroT Try.prog 148 = some (.slice none 0 0) := by kernel_rfl
@[go_sem] theorem ty148conc : Program.concrete Try.prog 148 = true := by kernel_rfl
@[go_sem] theorem ty149tyK : tyK Try.prog 149 = .other := by kernel_rfl
@[go_sem] theorem ty149isFuncT : isFuncT Try.prog 149 = true := by kernel_rfl
@[go_sem] theorem ty149sizeT : sizeT Try.prog 149 = some 1 := by kernel_rfl
@[go_sem] theorem ty149zeroT : zeroT Try.prog 149 = some .nilFunc := by kernel_rfl
@[go_sem] theorem ty149conc : Program.concrete Try.prog 149 = true := by kernel_rfl
@[go_sem] theorem ty150tyK : tyK Try.prog 150 = .other := by kernel_rfl
@[go_sem] theorem ty150isFuncT : isFuncT Try.prog 150 = true := by kernel_rfl
@[go_sem] theorem ty150sizeT : sizeT Try.prog 150 = some 1 := by kernel_rfl
@[go_sem] theorem ty150zeroT : zeroT Try.prog 150 = some .nilFunc := by kernel_rfl
@[go_sem] theorem ty150conc : Program.concrete Try.prog 150 = true := by kernel_rfl
@[go_sem] theorem ty151tyK : tyK Try.prog 151 = .other := by kernel_rfl
@[go_sem] theorem ty151isFuncT : isFuncT Try.prog 151 = true := by kernel_rfl
@[go_sem] theorem ty151sizeT : sizeT Try.prog 151 = some 1 := by kernel_rfl
@[go_sem] theorem ty151zeroT : zeroT Try.prog 151 = some .nilFunc := by kernel_rfl
@[go_sem] theorem ty151conc : Program.concrete Try.prog 151 = true := by kernel_rfl
@[go_sem] theorem ty152tyK : tyK Try.prog 152 = .other := by kernel_rfl
@[go_sem] theorem ty152isFuncT : isFuncT Try.prog 152 = true := by kernel_rfl
@[go_sem] theorem ty152sizeT : sizeT Try.prog 152 = some 1 := by kernel_rfl
@[go_sem] theorem ty152zeroT : zeroT Try.prog 152 = some .nilFunc := by kernel_rfl
@[go_sem] theorem ty152conc : Program.concrete Try.prog 152 = true := by kernel_rfl
@[go_sem] theorem ty153tyK : tyK Try.prog 153 = .other := by kernel_rfl
@[go_sem] theorem ty153isFuncT : isFuncT Try.prog 153 = true := by kernel_rfl
@[go_sem] theorem ty153sizeT : sizeT Try.prog 153 = some 1 := by kernel_rfl
@[go_sem] theorem ty153zeroT : zeroT Try.prog 153 = some .nilFunc := by kernel_rfl
@[go_sem] theorem ty153conc : Program.concrete Try.prog 153 = true := by kernel_rfl
@[go_sem] theorem ty154tyK : tyK Try.prog 154 = .other := by kernel_rfl
@[go_sem] theorem ty154isFuncT : isFuncT Try.prog 154 = true := by kernel_rfl
@[go_sem] theorem ty154sizeT : sizeT Try.prog 154 = some 1 := by kernel_rfl
@[go_sem] theorem ty154zeroT : zeroT Try.prog 154 = some .nilFunc := by kernel_rfl
@[go_sem] theorem ty154conc : Program.concrete Try.prog 154 = true := by kernel_rfl
@[go_sem] theorem ty155tyK : tyK Try.prog 155 = .other := by kernel_rfl
@[go_sem] theorem ty155isFuncT : isFuncT Try.prog 155 = true := by kernel_rfl
@[go_sem] theorem ty155sizeT : sizeT Try.prog 155 = some 1 := by kernel_rfl
@[go_sem] theorem ty155zeroT : zeroT Try.prog 155 = some .nilFunc := by kernel_rfl
@[go_sem] theorem ty155conc : Program.concrete Try.prog 155 = true := by kernel_rfl
@[go_sem] theorem ty156tyK : tyK Try.prog 156 = .other := by kernel_rfl
@[go_sem] theorem ty156isFuncT : isFuncT Try.prog 156 = true := by kernel_rfl
@[go_sem] theorem ty156sizeT : sizeT Try.prog 156 = some 1 := by kernel_rfl
@[go_sem] theorem ty156zeroT : zeroT Try.prog 156 = some .nilFunc := by kernel_rfl
@[go_sem] theorem ty156conc : Program.concrete Try.prog 156 = true := by kernel_rfl
@[go_sem] theorem ty157tyK : tyK Try.prog 157 = .other := by kernel_rfl
@[go_sem] theorem ty157isFuncT : isFuncT Try.prog 157 = true := by kernel_rfl
@[go_sem] theorem ty157sizeT : sizeT Try.prog 157 = some 1 := by kernel_rfl
@[go_sem] theorem ty157zeroT : zeroT Try.prog 157 = some .nilFunc := by kernel_rfl
@[go_sem] theorem ty157conc : Program.concrete Try.prog 157 = true := by kernel_rfl
@[go_sem] theorem ty158tyK : tyK Try.prog 158 = .other := by kernel_rfl
@[go_sem] theorem ty158isFuncT : isFuncT Try.prog 158 = true := by kernel_rfl
@[go_sem] theorem ty158sizeT : sizeT Try.prog 158 = some 1 := by kernel_rfl
@[go_sem] theorem ty158zeroT : zeroT Try.prog 158 = some .nilFunc := by kernel_rfl
@[go_sem] theorem ty158conc : Program.concrete Try.prog 158 = true := by kernel_rfl
@[go_sem] theorem ty159tyK : tyK Try.prog 159 = .other := by kernel_rfl
@[go_sem] theorem ty159isFuncT : isFuncT Try.prog 159 = true := by kernel_rfl
@[go_sem] theorem ty159sizeT : sizeT Try.prog 159 = some 1 := by kernel_rfl
@[go_sem] theorem ty159zeroT : zeroT Try.prog 159 = some .nilFunc := by kernel_rfl
@[go_sem] theorem ty159conc : Program.concrete Try.prog 159 = true := by kernel_rfl
@[go_sem] theorem ty160tyK : tyK Try.prog 160 = .other := by kernel_rfl
@[go_sem] theorem ty160isFuncT : isFuncT Try.prog 160 = true := by kernel_rfl
@[go_sem] theorem ty160sizeT : sizeT Try.prog 160 = some 1 := by kernel_rfl
@[go_sem] theorem ty160zeroT : zeroT Try.prog 160 = some .nilFunc := by kernel_rfl
@[go_sem] theorem ty160conc : Program.concrete Try.prog 160 = true := by kernel_rfl
@[go_sem] theorem ty161tyK : tyK Try.prog 161 = .int .u64 := by kernel_rfl
@[go_sem] theorem ty161sizeT : sizeT Try.prog 161 = some 1 := by kernel_rfl
@[go_sem] theorem ty161zeroT : zeroT Try.prog 161 = some (.int .u64 0) := by kernel_rfl
@[go_sem] theorem ty161conc : Program.concrete Try.prog 161 = true := by kernel_rfl
@[go_sem] theorem ty162tyK : tyK Try.prog 162 = .other := by kernel_rfl
@[go_sem] theorem ty162isFuncT : isFuncT Try.prog 162 = true := by kernel_rfl
@[go_sem] theorem ty162sizeT : sizeT Try.prog 162 = some 1 := by kernel_rfl
@[go_sem] theorem ty162zeroT : zeroT Try.prog 162 = some .nilFunc := by kernel_rfl
@[go_sem] theorem ty162conc : Program.concrete Try.prog 162 = true := by kernel_rfl
@[go_sem] theorem ty163tyK : tyK Try.prog 163 = .other := by kernel_rfl
@[go_sem] theorem ty163isFuncT : isFuncT Try.prog 163 = true := by kernel_rfl
@[go_sem] theorem ty163sizeT : sizeT Try.prog 163 = some 1 := by kernel_rfl
@[go_sem] theorem ty163zeroT : zeroT Try.prog 163 = some .nilFunc := by kernel_rfl
@[go_sem] theorem ty163conc : Program.concrete Try.prog 163 = true := by kernel_rfl
@[go_sem] theorem ty164tyK : tyK Try.prog 164 = .other := by kernel_rfl
@[go_sem] theorem ty164isFuncT : isFuncT Try.prog 164 = true := by kernel_rfl
@[go_sem] theorem ty164sizeT : sizeT Try.prog 164 = some 1 := by kernel_rfl
@[go_sem] theorem ty164zeroT : zeroT Try.prog 164 = some .nilFunc := by kernel_rfl
@[go_sem] theorem ty164conc : Program.concrete Try.prog 164 = true := by kernel_rfl
@[go_sem] theorem ty165tyK : tyK Try.prog 165 = .ptr := by kernel_rfl
@[go_sem] theorem ty165isPtrT : isPtrT Try.prog 165 = true := by kernel_rfl
@[go_sem] theorem ty165sizeT : sizeT Try.prog 165 = some 1 := by kernel_rfl
@[go_sem] theorem ty165zeroT : zeroT Try.prog 165 = some (.pointer none) := by kernel_rfl
@[go_sem] theorem ty165conc : Program.concrete Try.prog 165 = true := by kernel_rfl
@[go_sem] theorem ty166tyK : tyK Try.prog 166 = .other := by kernel_rfl
@[go_sem] theorem ty166isFuncT : isFuncT Try.prog 166 = true := by kernel_rfl
@[go_sem] theorem ty166sizeT : sizeT Try.prog 166 = some 1 := by kernel_rfl
@[go_sem] theorem ty166zeroT : zeroT Try.prog 166 = some .nilFunc := by kernel_rfl
@[go_sem] theorem ty166conc : Program.concrete Try.prog 166 = true := by kernel_rfl
@[go_sem] theorem ty167tyK : tyK Try.prog 167 = .other := by kernel_rfl
@[go_sem] theorem ty167isFuncT : isFuncT Try.prog 167 = true := by kernel_rfl
@[go_sem] theorem ty167sizeT : sizeT Try.prog 167 = some 1 := by kernel_rfl
@[go_sem] theorem ty167zeroT : zeroT Try.prog 167 = some .nilFunc := by kernel_rfl
@[go_sem] theorem ty167conc : Program.concrete Try.prog 167 = true := by kernel_rfl
@[go_sem] theorem ty168tyK : tyK Try.prog 168 = .other := by kernel_rfl
@[go_sem] theorem ty168isFuncT : isFuncT Try.prog 168 = true := by kernel_rfl
@[go_sem] theorem ty168sizeT : sizeT Try.prog 168 = some 1 := by kernel_rfl
@[go_sem] theorem ty168zeroT : zeroT Try.prog 168 = some .nilFunc := by kernel_rfl
@[go_sem] theorem ty168conc : Program.concrete Try.prog 168 = true := by kernel_rfl
@[go_sem] theorem ty169tyK : tyK Try.prog 169 = .other := by kernel_rfl
@[go_sem] theorem ty169isFuncT : isFuncT Try.prog 169 = true := by kernel_rfl
@[go_sem] theorem ty169sizeT : sizeT Try.prog 169 = some 1 := by kernel_rfl
@[go_sem] theorem ty169zeroT : zeroT Try.prog 169 = some .nilFunc := by kernel_rfl
@[go_sem] theorem ty169conc : Program.concrete Try.prog 169 = true := by kernel_rfl
@[go_sem] theorem ty170tyK : tyK Try.prog 170 = .ptr := by kernel_rfl
@[go_sem] theorem ty170isPtrT : isPtrT Try.prog 170 = true := by kernel_rfl
@[go_sem] theorem ty170sizeT : sizeT Try.prog 170 = some 1 := by kernel_rfl
@[go_sem] theorem ty170zeroT : zeroT Try.prog 170 = some (.pointer none) := by kernel_rfl
@[go_sem] theorem ty170conc : Program.concrete Try.prog 170 = true := by kernel_rfl
@[go_sem] theorem ty171tyK : tyK Try.prog 171 = .other := by kernel_rfl
@[go_sem] theorem ty171sizeT : sizeT Try.prog 171 = some 1 := by kernel_rfl
@[go_sem] theorem ty171zeroT : zeroT Try.prog 171 = some (.tuple #[(.int .i64 0), (.int .i64 0)]) := by kernel_rfl
@[go_sem] theorem ty171conc : Program.concrete Try.prog 171 = true := by kernel_rfl
@[go_sem] theorem ty172tyK : tyK Try.prog 172 = .other := by kernel_rfl
@[go_sem] theorem ty172isFuncT : isFuncT Try.prog 172 = true := by kernel_rfl
@[go_sem] theorem ty172sizeT : sizeT Try.prog 172 = some 1 := by kernel_rfl
@[go_sem] theorem ty172zeroT : zeroT Try.prog 172 = some .nilFunc := by kernel_rfl
@[go_sem] theorem ty172conc : Program.concrete Try.prog 172 = true := by kernel_rfl
@[go_sem] theorem ty173tyK : tyK Try.prog 173 = .other := by kernel_rfl
@[go_sem] theorem ty173isFuncT : isFuncT Try.prog 173 = true := by kernel_rfl
@[go_sem] theorem ty173sizeT : sizeT Try.prog 173 = some 1 := by kernel_rfl
@[go_sem] theorem ty173zeroT : zeroT Try.prog 173 = some .nilFunc := by kernel_rfl
@[go_sem] theorem ty173conc : Program.concrete Try.prog 173 = true := by kernel_rfl
@[go_sem] theorem ty174tyK : tyK Try.prog 174 = .other := by kernel_rfl
@[go_sem] theorem ty174isFuncT : isFuncT Try.prog 174 = true := by kernel_rfl
@[go_sem] theorem ty174sizeT : sizeT Try.prog 174 = some 1 := by kernel_rfl
@[go_sem] theorem ty174zeroT : zeroT Try.prog 174 = some .nilFunc := by kernel_rfl
@[go_sem] theorem ty174conc : Program.concrete Try.prog 174 = true := by kernel_rfl
@[go_sem] theorem ty175tyK : tyK Try.prog 175 = .other := by kernel_rfl
@[go_sem] theorem ty175isFuncT : isFuncT Try.prog 175 = true := by kernel_rfl
@[go_sem] theorem ty175sizeT : sizeT Try.prog 175 = some 1 := by kernel_rfl
@[go_sem] theorem ty175zeroT : zeroT Try.prog 175 = some .nilFunc := by kernel_rfl
@[go_sem] theorem ty175conc : Program.concrete Try.prog 175 = true := by kernel_rfl
@[go_sem] theorem ty176tyK : tyK Try.prog 176 = .agg 4 := by kernel_rfl
@[go_sem] theorem ty176sizeT : sizeT Try.prog 176 = some 4 := by kernel_rfl
@[go_sem] theorem ty176zeroT : zeroT Try.prog 176 = some (.agg #[(.pointer none), (.pointer none), (.pointer none), (.string (ofL []))]) := by kernel_rfl
@[go_sem] theorem ty176conc : Program.concrete Try.prog 176 = true := by kernel_rfl
@[go_sem] theorem ty176plc : plcT Try.prog 176 = some [(0, 1), (1, 1), (2, 1), (3, 1)] := by kernel_rfl
@[go_sem] theorem ty176fld0 : fldI Try.prog 176 0 = some (0, 1, false) := by kernel_rfl
@[go_sem] theorem ty176fld1 : fldI Try.prog 176 1 = some (1, 1, false) := by kernel_rfl
@[go_sem] theorem ty176fld2 : fldI Try.prog 176 2 = some (2, 1, false) := by kernel_rfl
@[go_sem] theorem ty176fld3 : fldI Try.prog 176 3 = some (3, 1, false) := by kernel_rfl
@[go_sem] theorem ty177tyK : tyK Try.prog 177 = .agg 4 := by kernel_rfl
@[go_sem] theorem ty177sizeT : sizeT Try.prog 177 = some 4 := by kernel_rfl
@[go_sem] theorem ty177zeroT : zeroT Try.prog 177 = some (.agg #[(.pointer none), (.pointer none), (.pointer none), (.string (ofL []))]) := by kernel_rfl
@[go_sem] theorem ty177conc : Program.concrete Try.prog 177 = true := by kernel_rfl
@[go_sem] theorem ty177plc : plcT Try.prog 177 = some [(0, 1), (1, 1), (2, 1), (3, 1)] := by kernel_rfl
@[go_sem] theorem ty177fld0 : fldI Try.prog 177 0 = some (0, 1, false) := by kernel_rfl
@[go_sem] theorem ty177fld1 : fldI Try.prog 177 1 = some (1, 1, false) := by kernel_rfl
@[go_sem] theorem ty177fld2 : fldI Try.prog 177 2 = some (2, 1, false) := by kernel_rfl
@[go_sem] theorem ty177fld3 : fldI Try.prog 177 3 = some (3, 1, false) := by kernel_rfl
@[go_sem] theorem ty178tyK : tyK Try.prog 178 = .agg 0 := by kernel_rfl
@[go_sem] theorem ty178arrI : arrI Try.prog 178 = some (0, 1, false) := by kernel_rfl
@[go_sem] theorem ty178sizeT : sizeT Try.prog 178 = some 0 := by kernel_rfl
@[go_sem] theorem ty178zeroT : zeroT Try.prog 178 = some (.agg #[]) := by kernel_rfl
@[go_sem] theorem ty178conc : Program.concrete Try.prog 178 = true := by kernel_rfl
@[go_sem] theorem ty179tyK : tyK Try.prog 179 = .agg 0 := by kernel_rfl
@[go_sem] theorem ty179sizeT : sizeT Try.prog 179 = some 0 := by kernel_rfl
@[go_sem] theorem ty179zeroT : zeroT Try.prog 179 = some (.agg #[]) := by kernel_rfl
@[go_sem] theorem ty179conc : Program.concrete Try.prog 179 = true := by kernel_rfl
@[go_sem] theorem ty179plc : plcT Try.prog 179 = some [(0, 0)] := by kernel_rfl
@[go_sem] theorem ty179fld0 : fldI Try.prog 179 0 = some (0, 0, true) := by kernel_rfl
@[go_sem] theorem ty180tyK : tyK Try.prog 180 = .agg 0 := by kernel_rfl
@[go_sem] theorem ty180sizeT : sizeT Try.prog 180 = some 0 := by kernel_rfl
@[go_sem] theorem ty180zeroT : zeroT Try.prog 180 = some (.agg #[]) := by kernel_rfl
@[go_sem] theorem ty180conc : Program.concrete Try.prog 180 = true := by kernel_rfl
@[go_sem] theorem ty180plc : plcT Try.prog 180 = some [(0, 0)] := by kernel_rfl
@[go_sem] theorem ty180fld0 : fldI Try.prog 180 0 = some (0, 0, true) := by kernel_rfl
@[go_sem] theorem ty181tyK : tyK Try.prog 181 = .other := by kernel_rfl
@[go_sem] theorem ty181isFuncT : isFuncT Try.prog 181 = true := by kernel_rfl
@[go_sem] theorem ty181sizeT : sizeT Try.prog 181 = some 1 := by kernel_rfl
@[go_sem] theorem ty181zeroT : zeroT Try.prog 181 = some .nilFunc := by kernel_rfl
@[go_sem] theorem ty181conc : Program.concrete Try.prog 181 = true := by kernel_rfl
@[go_sem] theorem ty182tyK : tyK Try.prog 182 = .int .u8 := by kernel_rfl
@[go_sem] theorem ty182sizeT : sizeT Try.prog 182 = some 1 := by kernel_rfl
@[go_sem] theorem ty182zeroT : zeroT Try.prog 182 = some (.int .u8 0) := by kernel_rfl
@[go_sem] theorem ty182conc : Program.concrete Try.prog 182 = true := by kernel_rfl
@[go_sem] theorem ty183tyK : tyK Try.prog 183 = .int .u8 := by kernel_rfl
@[go_sem] theorem ty183sizeT : sizeT Try.prog 183 = some 1 := by kernel_rfl
@[go_sem] theorem ty183zeroT : zeroT Try.prog 183 = some (.int .u8 0) := by kernel_rfl
@[go_sem] theorem ty183conc : Program.concrete Try.prog 183 = true := by kernel_rfl
@[go_sem] theorem ty184tyK : tyK Try.prog 184 = .other := by kernel_rfl
@[go_sem] theorem ty184isFuncT : isFuncT Try.prog 184 = true := by kernel_rfl
@[go_sem] theorem ty184sizeT : sizeT Try.prog 184 = some 1 := by kernel_rfl
@[go_sem] theorem ty184zeroT : zeroT Try.prog 184 = some .nilFunc := by kernel_rfl
@[go_sem] theorem ty184conc : Program.concrete Try.prog 184 = true := by kernel_rfl
@[go_sem] theorem ty185tyK : tyK Try.prog 185 = .ptr := by kernel_rfl
@[go_sem] theorem ty185isPtrT : isPtrT Try.prog 185 = true := by kernel_rfl
@[go_sem] theorem ty185sizeT : sizeT Try.prog 185 = some 1 := by kernel_rfl
@[go_sem] theorem ty185zeroT : zeroT Try.prog 185 = some (.pointer none) := by kernel_rfl
@[go_sem] theorem ty185conc : Program.concrete Try.prog 185 = true := by kernel_rfl
@[go_sem] theorem ty186tyK : tyK Try.prog 186 = .int .i32 := by kernel_rfl
@[go_sem] theorem ty186sizeT : sizeT Try.prog 186 = some 1 := by kernel_rfl
@[go_sem] theorem ty186zeroT : zeroT Try.prog 186 = some (.int .i32 0) := by kernel_rfl
@[go_sem] theorem ty186conc : Program.concrete Try.prog 186 = true := by kernel_rfl
@[go_sem] theorem ty187tyK : tyK Try.prog 187 = .int .i32 := by kernel_rfl
@[go_sem] theorem ty187sizeT : sizeT Try.prog 187 = some 1 := by kernel_rfl
@[go_sem] theorem ty187zeroT : zeroT Try.prog 187 = some (.int .i32 0) := by kernel_rfl
@[go_sem] theorem ty187conc : Program.concrete Try.prog 187 = true := by kernel_rfl
@[go_sem] theorem ty188tyK : tyK Try.prog 188 = .agg 11 := by kernel_rfl
@[go_sem] theorem ty188sizeT : sizeT Try.prog 188 = some 11 := by kernel_rfl
@[go_sem] theorem ty188zeroT : zeroT Try.prog 188 = some (.agg #[(.int .u64 0), (.int .u64 0), (.int .u32 0), (.int .u8 0), (.int .u8 0), (.int .u8 0), (.int .u8 0), .nilFunc, (.pointer none), (.int .i32 0), (.int .i32 0)]) := by kernel_rfl
@[go_sem] theorem ty188conc : Program.concrete Try.prog 188 = true := by kernel_rfl
@[go_sem] theorem ty188plc : plcT Try.prog 188 = some [(0, 1), (1, 1), (2, 1), (3, 1), (4, 1), (5, 1), (6, 1), (7, 1), (8, 1), (9, 1), (10, 1)] := by kernel_rfl
@[go_sem] theorem ty188fld0 : fldI Try.prog 188 0 = some (0, 1, false) := by kernel_rfl
@[go_sem] theorem ty188fld1 : fldI Try.prog 188 1 = some (1, 1, false) := by kernel_rfl
@[go_sem] theorem ty188fld2 : fldI Try.prog 188 2 = some (2, 1, false) := by kernel_rfl
@[go_sem] theorem ty188fld3 : fldI Try.prog 188 3 = some (3, 1, false) := by kernel_rfl
@[go_sem] theorem ty188fld4 : fldI Try.prog 188 4 = some (4, 1, false) := by kernel_rfl
@[go_sem] theorem ty188fld5 : fldI Try.prog 188 5 = some (5, 1, false) := by kernel_rfl
@[go_sem] theorem ty188fld6 : fldI Try.prog 188 6 = some (6, 1, false) := by kernel_rfl
@[go_sem] theorem ty188fld7 : fldI Try.prog 188 7 = some (7, 1, false) := by kernel_rfl
@[go_sem] theorem ty188fld8 : fldI Try.prog 188 8 = some (8, 1, false) := by kernel_rfl
@[go_sem] theorem ty188fld9 : fldI Try.prog 188 9 = some (9, 1, false) := by kernel_rfl
@[go_sem] theorem ty188fld10 : fldI Try.prog 188 10 = some (10, 1, false) := by kernel_rfl
@[go_sem] theorem ty189tyK : tyK Try.prog 189 = .agg 11 := by kernel_rfl
@[go_sem] theorem ty189sizeT : sizeT Try.prog 189 = some 11 := by kernel_rfl
@[go_sem] theorem ty189zeroT : zeroT Try.prog 189 = some (.agg #[(.int .u64 0), (.int .u64 0), (.int .u32 0), (.int .u8 0), (.int .u8 0), (.int .u8 0), (.int .u8 0), .nilFunc, (.pointer none), (.int .i32 0), (.int .i32 0)]) := by kernel_rfl
@[go_sem] theorem ty189conc : Program.concrete Try.prog 189 = true := by kernel_rfl
@[go_sem] theorem ty189plc : plcT Try.prog 189 = some [(0, 1), (1, 1), (2, 1), (3, 1), (4, 1), (5, 1), (6, 1), (7, 1), (8, 1), (9, 1), (10, 1)] := by kernel_rfl
@[go_sem] theorem ty189fld0 : fldI Try.prog 189 0 = some (0, 1, false) := by kernel_rfl
@[go_sem] theorem ty189fld1 : fldI Try.prog 189 1 = some (1, 1, false) := by kernel_rfl
@[go_sem] theorem ty189fld2 : fldI Try.prog 189 2 = some (2, 1, false) := by kernel_rfl
@[go_sem] theorem ty189fld3 : fldI Try.prog 189 3 = some (3, 1, false) := by kernel_rfl
@[go_sem] theorem ty189fld4 : fldI Try.prog 189 4 = some (4, 1, false) := by kernel_rfl
@[go_sem] theorem ty189fld5 : fldI Try.prog 189 5 = some (5, 1, false) := by kernel_rfl
@[go_sem] theorem ty189fld6 : fldI Try.prog 189 6 = some (6, 1, false) := by kernel_rfl
@[go_sem] theorem ty189fld7 : fldI Try.prog 189 7 = some (7, 1, false) := by kernel_rfl
@[go_sem] theorem ty189fld8 : fldI Try.prog 189 8 = some (8, 1, false) := by kernel_rfl
@[go_sem] theorem ty189fld9 : fldI Try.prog 189 9 = some (9, 1, false) := by kernel_rfl
@[go_sem] theorem ty189fld10 : fldI Try.prog 189 10 = some (10, 1, false) := by kernel_rfl
@[go_sem] theorem ty190tyK : tyK Try.prog 190 = .other := by kernel_rfl
@[go_sem] theorem ty190sizeT : sizeT Try.prog 190 = some 1 := by kernel_rfl
@[go_sem] theorem ty190zeroT : zeroT Try.prog 190 = some (.pointer none) := by kernel_rfl
@[go_sem] theorem ty190conc : Program.concrete Try.prog 190 = true := by kernel_rfl
/- Function 3: annalistlaw15.LinSearches -/
noncomputable def c3code : Code := match Try.f3.body with | some c => c | none => .skip
noncomputable def c3S0 (_ : Unit) : Cmd := .ret
noncomputable def c3S1 (_ : Unit) : Cmd := (.seq (.ops [
  ⟨some 23, .move (.tmp 8), 28, none⟩,
  ⟨some 24, .binOp .eql 28 (.tmp 23) (.const (.int .i64 34)) 28, 4, none⟩,
  ⟨some 25, .move (.tmp 24), 4, none⟩,
  ⟨some 26, .load 27 (.tmp 7), 27, (some (25, true))⟩,
  ⟨some 27, .build 27 #[], 27, (some (25, true))⟩,
  ⟨some 28, .call ⟨.value (.func 13), #[(.tmp 26), (.tmp 27)], #[27, 27]⟩, 4, (some (25, true))⟩,
  ⟨some 29, .pick (.tmp 25) (.tmp 28) (.const (.bool false)), 4, none⟩,
  ⟨some 30, .move (.tmp 29), 4, none⟩,
  ⟨some 31, .call ⟨.value (.func 14), #[], #[]⟩, 4, (some (30, true))⟩,
  ⟨some 32, .pick (.tmp 30) (.tmp 31) (.const (.bool false)), 4, none⟩,
  ⟨some 6, .assign (.tmp 32), 4, none⟩] [6]) (sg c3S0))
noncomputable def c3S2 (_ : Unit) : Cmd := .ret
noncomputable def c3S3 (_ : Unit) : Cmd := (.cond (.tmp 36)
  (.seq (.ops [
  ⟨some 37, .call ⟨.value (.func 14), #[], #[]⟩, 4, none⟩,
  ⟨some 6, .assign (.tmp 37), 4, none⟩] [6]) (sg c3S2))
  (.skip [1, 2, 3]))
noncomputable def c3S4 (_ : Unit) : Cmd := .ret
noncomputable def c3S5 (_ : Unit) : Cmd := (.seq (.ops [
 ⟨some 52, .load 27 (.tmp 9), 27, none⟩,
 ⟨some 53, .load 27 (.tmp 11), 27, none⟩,
 ⟨some 54, .call ⟨.value (.func 13), #[(.tmp 52), (.tmp 53)], #[27, 27]⟩, 4, none⟩,
 ⟨some 55, .move (.tmp 54), 4, none⟩,
 ⟨some 56, .move (.tmp 10), 28, (some (55, true))⟩,
 ⟨some 57, .move (.tmp 12), 3, (some (55, true))⟩,
 ⟨some 58, .binOp .eql 3 (.tmp 56) (.tmp 57) 3, 4, (some (55, true))⟩,
 ⟨some 59, .pick (.tmp 55) (.tmp 58) (.const (.bool false)), 4, none⟩,
 ⟨some 60, .move (.tmp 59), 4, none⟩,
 ⟨some 61, .call ⟨.value (.func 14), #[], #[]⟩, 4, (some (60, true))⟩,
 ⟨some 62, .pick (.tmp 60) (.tmp 61) (.const (.bool false)), 4, none⟩,
 ⟨some 6, .assign (.tmp 62), 4, none⟩] [6]) (sg c3S4))
noncomputable def c3S6 (_ : Unit) : Cmd := (.seq (.ops [
 ⟨some 46, .load 24 (.tmp 3), 24, none⟩,
 ⟨some 47, .move (.tmp 1), 25, none⟩,
 ⟨some 48, .move (.tmp 2), 3, none⟩,
 ⟨some 49, .call ⟨.value (.func 16), #[(.tmp 46), (.tmp 47), (.tmp 48)], #[24, 25, 3]⟩, 34, none⟩,
 ⟨some 45, .move (.tmp 49), 34, none⟩,
 ⟨some 50, .extract (.tmp 45) 0, 27, none⟩,
 ⟨some 51, .extract (.tmp 45) 1, 3, none⟩,
 ⟨some 11, .alloc 27, 0, none⟩,
 ⟨none, .store 27 (.tmp 11) (.tmp 50), 0, none⟩,
 ⟨some 12, .assign (.tmp 51), 3, none⟩] [9, 10, 11, 12]) (sg c3S5))
noncomputable def c3S7 (_ : Unit) : Cmd := (.seq (.ops [
 ⟨some 39, .load 24 (.tmp 3), 24, none⟩,
 ⟨some 40, .move (.tmp 1), 25, none⟩,
 ⟨some 41, .move (.tmp 2), 3, none⟩,
 ⟨some 42, .call ⟨.value (.func 12), #[(.tmp 39), (.tmp 40), (.tmp 41)], #[24, 25, 3]⟩, 29, none⟩,
 ⟨some 38, .move (.tmp 42), 29, none⟩,
 ⟨some 43, .extract (.tmp 38) 0, 27, none⟩,
 ⟨some 44, .extract (.tmp 38) 1, 28, none⟩,
 ⟨some 9, .alloc 27, 0, none⟩,
 ⟨none, .store 27 (.tmp 9) (.tmp 43), 0, none⟩,
 ⟨some 10, .assign (.tmp 44), 28, none⟩] [1, 2, 3, 9, 10]) (sg c3S6))
noncomputable def c3S8 (_ : Unit) : Cmd := (.seq (.seq (.ops [
 ⟨some 33, .load 24 (.tmp 3), 24, none⟩,
 ⟨some 34, .move (.tmp 1), 25, none⟩,
 ⟨some 35, .call ⟨.value (.func 15), #[(.tmp 33), (.tmp 34), (.const (.int .i64 6))], #[24, 25, 3]⟩, 4, none⟩,
 ⟨some 36, .unOp .not 4 (.tmp 35), 4, none⟩] [1, 2, 3, 36]) (sg c3S3)) (sg c3S7))
noncomputable def c3 : Cmd := (.seq (.ops [
 ⟨some 3, .box 24 (.tmp 0), 0, none⟩,
 ⟨some 6, .assign (.const (.bool false)), 4, none⟩] [1, 2, 3])
 (.seq (.seq (.ops [
 ⟨some 13, .fieldAddr 24 (.tmp 3) 2, 0, none⟩,
 ⟨some 14, .load 22 (.tmp 13), 22, none⟩,
 ⟨some 15, .call ⟨.builtin .len, #[(.tmp 14)], #[22]⟩, 3, none⟩,
 ⟨some 16, .binOp .gtr 3 (.tmp 15) (.const (.int .i64 16)) 3, 4, none⟩] [1, 2, 3, 16])
 (.cond (.tmp 16)
  (.seq (.ops [
  ⟨some 18, .load 24 (.tmp 3), 24, none⟩,
  ⟨some 19, .move (.tmp 2), 3, none⟩,
  ⟨some 20, .call ⟨.value (.func 12), #[(.tmp 18), (.const (.slice none 0 0)), (.tmp 19)], #[24, 25, 3]⟩, 29, none⟩,
  ⟨some 17, .move (.tmp 20), 29, none⟩,
  ⟨some 21, .extract (.tmp 17) 0, 27, none⟩,
  ⟨some 22, .extract (.tmp 17) 1, 28, none⟩,
  ⟨some 7, .alloc 27, 0, none⟩,
  ⟨none, .store 27 (.tmp 7) (.tmp 21), 0, none⟩,
  ⟨some 8, .assign (.tmp 22), 28, none⟩] [7, 8]) (sg c3S1))
  (.skip [1, 2, 3]))) (sg c3S8)))
set_option maxRecDepth 100000 in
theorem ent3 (a0 a1 a2 : Value) (w : World) (K : Value → World → Prop) (h : W Try.prog c3 [(0, a0), (1, a1), (2, a2)] w (finQ Try.prog [.tmp 6] K)) : Ret Try.prog 3 [a0, a1, a2] w K :=
  Ret_of_W (code := c3code) Try.func3 (by kernel_rfl) (by kernel_rfl) (of_decide_eq_true (by kernel_rfl)) h
@[go_sem] theorem go3 : goFunc Try.prog 3 = true := by kernel_rfl
/- Function 4: annalistlaw15.LinUnique -/
noncomputable def c4code : Code := match Try.f4.body with | some c => c | none => .skip
noncomputable def c4S0 (_ : Unit) : Cmd := .ret
noncomputable def c4S1 (_ : Unit) : Cmd := (.seq (.block 1 (.ops [
 ⟨some 15, .move (.tmp 3), 3, none⟩,
 ⟨some 16, .move (.tmp 0), 25, none⟩,
 ⟨some 17, .move (.tmp 4), 3, none⟩,
 ⟨some 18, .indexAddr 25 (.tmp 16) (.tmp 17), 0, none⟩,
 ⟨some 19, .load 36 (.tmp 18), 36, none⟩,
 ⟨some 20, .call ⟨.builtin .len, #[(.tmp 19)], #[36]⟩, 3, none⟩,
 ⟨some 21, .binOp .add 3 (.tmp 15) (.tmp 20) 3, 3, none⟩,
 ⟨some 3, .assign (.tmp 21), 3, none⟩] [0, 3, 4]))
 (.ops [
 ⟨some 13, .move (.tmp 4), 3, none⟩,
 ⟨some 14, .binOp .add 3 (.tmp 13) (.const (.int .i64 1)) 3, 3, none⟩,
 ⟨some 4, .assign (.tmp 14), 3, none⟩] [0, 3, 4]))
noncomputable def c4L0 (_ : Unit) : Cmd := (.seq (.seq (.ops [
 ⟨some 9, .move (.tmp 4), 3, none⟩,
 ⟨some 10, .move (.tmp 0), 25, none⟩,
 ⟨some 11, .call ⟨.builtin .len, #[(.tmp 10)], #[25]⟩, 3, none⟩,
 ⟨some 12, .binOp .lss 3 (.tmp 9) (.tmp 11) 3, 4, none⟩] [0, 3, 4, 12])
 (.cond (.tmp 12)
  (.skip [0, 3, 4])
  (.exit 0 [0, 3]))) (sg c4S1))
noncomputable def c4S2 (_ : Unit) : Cmd := .ret
noncomputable def c4S3 (_ : Unit) : Cmd := (.seq (.ops [
 ⟨some 22, .move (.tmp 3), 3, none⟩,
 ⟨some 23, .binOp .gtr 3 (.tmp 22) (.const (.int .i64 600)) 3, 4, none⟩,
 ⟨some 24, .move (.tmp 23), 4, none⟩,
 ⟨some 25, .move (.tmp 0), 25, (some (24, false))⟩,
 ⟨some 26, .call ⟨.value (.func 18), #[(.tmp 25)], #[25]⟩, 25, (some (24, false))⟩,
 ⟨some 27, .move (.tmp 0), 25, (some (24, false))⟩,
 ⟨some 28, .call ⟨.value (.func 19), #[(.tmp 27)], #[25]⟩, 25, (some (24, false))⟩,
 ⟨some 29, .call ⟨.value (.func 17), #[(.tmp 26), (.tmp 28)], #[25, 25]⟩, 4, (some (24, false))⟩,
 ⟨some 30, .move (.tmp 29), 4, (some (24, false))⟩,
 ⟨some 31, .call ⟨.value (.func 14), #[], #[]⟩, 4, (some (30, true))⟩,
 ⟨some 32, .pick (.tmp 30) (.tmp 31) (.const (.bool false)), 4, (some (24, false))⟩,
 ⟨some 33, .pick (.tmp 24) (.const (.bool true)) (.tmp 32), 4, none⟩,
 ⟨some 2, .assign (.tmp 33), 4, none⟩] [2]) (sg c4S2))
noncomputable def c4S4 (_ : Unit) : Cmd := (.seq (.ops [
 ⟨some 3, .assign (.const (.int .i64 0)), 3, none⟩] [0, 3])
 (.seq (.seq (.ops [
 ⟨some 4, .assign (.const (.int .i64 0)), 3, none⟩] [0, 3, 4])
 (.block 0 (.loop (sg c4L0)))) (sg c4S3)))
noncomputable def c4 : Cmd := (.seq (.ops [
 ⟨some 2, .assign (.const (.bool false)), 4, none⟩] [0])
 (.seq (.seq (.ops [
 ⟨some 5, .move (.tmp 0), 25, none⟩,
 ⟨some 6, .call ⟨.builtin .len, #[(.tmp 5)], #[25]⟩, 3, none⟩,
 ⟨some 7, .binOp .gtr 3 (.tmp 6) (.const (.int .i64 60)) 3, 4, none⟩] [0, 7])
 (.cond (.tmp 7)
  (.seq (.ops [
  ⟨some 8, .call ⟨.value (.func 14), #[], #[]⟩, 4, none⟩,
  ⟨some 2, .assign (.tmp 8), 4, none⟩] [2]) (sg c4S0))
  (.skip [0]))) (sg c4S4)))
set_option maxRecDepth 100000 in
theorem ent4 (a0 : Value) (w : World) (K : Value → World → Prop) (h : W Try.prog c4 [(0, a0)] w (finQ Try.prog [.tmp 2] K)) : Ret Try.prog 4 [a0] w K :=
  Ret_of_W (code := c4code) Try.func4 (by kernel_rfl) (by kernel_rfl) (of_decide_eq_true (by kernel_rfl)) h
@[go_sem] theorem go4 : goFunc Try.prog 4 = true := by kernel_rfl
/- Function 5: annalistlaw15.LinOrders -/
noncomputable def c5code : Code := match Try.f5.body with | some c => c | none => .skip
noncomputable def c5S0 (_ : Unit) : Cmd := .ret
noncomputable def c5S1 (_ : Unit) : Cmd := (.cond (.tmp 12)
  (.seq (.ops [
  ⟨some 13, .call ⟨.value (.func 14), #[], #[]⟩, 4, none⟩,
  ⟨some 4, .assign (.tmp 13), 4, none⟩] [4]) (sg c5S0))
  (.skip [1, 2]))
noncomputable def c5S2 (_ : Unit) : Cmd := .ret
noncomputable def c5S3 (_ : Unit) : Cmd := (.seq (.ops [
 ⟨some 30, .move (.tmp 6), 28, none⟩,
 ⟨some 31, .binOp .eql 28 (.tmp 30) (.const (.int .i64 0)) 28, 4, none⟩,
 ⟨some 32, .move (.tmp 31), 4, none⟩,
 ⟨some 33, .fieldAddr 27 (.tmp 5) 1, 0, (some (32, true))⟩,
 ⟨some 34, .load 25 (.tmp 33), 25, (some (32, true))⟩,
 ⟨some 35, .move (.tmp 7), 25, (some (32, true))⟩,
 ⟨some 36, .call ⟨.value (.func 17), #[(.tmp 34), (.tmp 35)], #[25, 25]⟩, 4, (some (32, true))⟩,
 ⟨some 37, .pick (.tmp 32) (.tmp 36) (.const (.bool false)), 4, none⟩,
 ⟨some 38, .move (.tmp 37), 4, none⟩,
 ⟨some 39, .call ⟨.value (.func 14), #[], #[]⟩, 4, (some (38, true))⟩,
 ⟨some 40, .pick (.tmp 38) (.tmp 39) (.const (.bool false)), 4, none⟩,
 ⟨some 4, .assign (.tmp 40), 4, none⟩] [4]) (sg c5S2))
noncomputable def c5S4 (_ : Unit) : Cmd := (.seq (.draw (drawOps 0 c5code) [5, 6, 7]) (sg c5S3))
noncomputable def c5S5 (_ : Unit) : Cmd := (.seq (.ops [
 ⟨some 15, .load 24 (.tmp 2), 24, none⟩,
 ⟨some 16, .move (.tmp 1), 36, none⟩,
 ⟨some 17, .buildSlice 25 1 #[(0, (.tmp 16))], 25, none⟩,
 ⟨some 18, .call ⟨.value (.func 12), #[(.tmp 15), (.tmp 17), (.const (.int .i64 32768))], #[24, 25, 3]⟩, 29, none⟩,
 ⟨some 14, .move (.tmp 18), 29, none⟩,
 ⟨some 19, .extract (.tmp 14) 0, 27, none⟩,
 ⟨some 20, .extract (.tmp 14) 1, 28, none⟩,
 ⟨some 5, .alloc 27, 0, none⟩,
 ⟨none, .store 27 (.tmp 5) (.tmp 19), 0, none⟩,
 ⟨some 6, .assign (.tmp 20), 28, none⟩] [1, 2, 5, 6]) (sg c5S4))
noncomputable def c5 : Cmd := (.seq (.ops [
 ⟨some 2, .box 24 (.tmp 0), 0, none⟩,
 ⟨some 4, .assign (.const (.bool false)), 4, none⟩] [1, 2])
 (.seq (.seq (.ops [
 ⟨some 8, .load 24 (.tmp 2), 24, none⟩,
 ⟨some 9, .move (.tmp 1), 36, none⟩,
 ⟨some 10, .buildSlice 25 1 #[(0, (.tmp 9))], 25, none⟩,
 ⟨some 11, .call ⟨.value (.func 15), #[(.tmp 8), (.tmp 10), (.const (.int .i64 5))], #[24, 25, 3]⟩, 4, none⟩,
 ⟨some 12, .unOp .not 4 (.tmp 11), 4, none⟩] [1, 2, 12]) (sg c5S1)) (sg c5S5)))
noncomputable def c5D0 : List (Nat × Ins) := [
 (0, ⟨some 21, .fieldAddr 24 (.tmp 2) 2, 0, none⟩),
 (0, ⟨some 23, .fieldAddr 24 (.tmp 2) 2, 0, none⟩),
 (0, ⟨some 27, .move (.tmp 1), 36, none⟩),
 (1, ⟨some 22, .load 22 (.tmp 21), 22, none⟩),
 (2, ⟨some 24, .load 22 (.tmp 23), 22, none⟩),
 (0, ⟨some 25, .call ⟨.builtin .len, #[(.tmp 24)], #[22]⟩, 3, none⟩),
 (2, ⟨some 26, .makeSlice 41 (.tmp 25) (.tmp 25), 41, none⟩),
 (3, ⟨some 28, .call ⟨.value (.func 20), #[(.tmp 22), (.tmp 26), (.tmp 27)], #[22, 41, 36]⟩, 25, none⟩),
 (2, ⟨some 29, .call ⟨.value (.func 19), #[(.tmp 28)], #[25]⟩, 25, none⟩),
 (0, ⟨some 7, .assign (.tmp 29), 25, none⟩)]
theorem c5draw0 {L : List Nat} {ρ : Env} {w : World} {Q : Post} (S : World → Prop) (hS : S w.drew) (h : DG Try.prog S c5D0 L ρ w.drew Q) : drawW Try.prog (drawOps 0 c5code) L ρ w Q :=
  drawW_held [1] [(0, 0), (0, 2), (0, 6), (1, 1), (2, 3), (0, 4), (2, 5), (3, 7), (2, 8), (0, 9)] c5D0 (by kernel_rfl) (by kernel_rfl) (by kernel_rfl) S hS h
set_option maxRecDepth 100000 in
theorem ent5 (a0 a1 : Value) (w : World) (K : Value → World → Prop) (h : W Try.prog c5 [(0, a0), (1, a1)] w (finQ Try.prog [.tmp 4] K)) : Ret Try.prog 5 [a0, a1] w K :=
  Ret_of_W (code := c5code) Try.func5 (by kernel_rfl) (by kernel_rfl) (of_decide_eq_true (by kernel_rfl)) h
@[go_sem] theorem go5 : goFunc Try.prog 5 = true := by kernel_rfl
/- Function 6: annalistlaw15.LinJoins -/
noncomputable def c6code : Code := match Try.f6.body with | some c => c | none => .skip
noncomputable def c6S0 (_ : Unit) : Cmd := .ret
noncomputable def c6S1 (_ : Unit) : Cmd := (.cond (.tmp 23)
  (.seq (.ops [
  ⟨some 24, .call ⟨.value (.func 14), #[], #[]⟩, 4, none⟩,
  ⟨some 6, .assign (.tmp 24), 4, none⟩] [6]) (sg c6S0))
  (.skip [1, 2, 3]))
noncomputable def c6S2 (_ : Unit) : Cmd := .ret
noncomputable def c6S3 (_ : Unit) : Cmd := .ret
noncomputable def c6S4 (_ : Unit) : Cmd := (.seq (.ops [
 ⟨some 66, .fieldAddr 27 (.tmp 11) 1, 0, none⟩,
 ⟨some 67, .load 25 (.tmp 66), 25, none⟩,
 ⟨some 68, .move (.tmp 13), 25, none⟩,
 ⟨some 69, .call ⟨.value (.func 17), #[(.tmp 67), (.tmp 68)], #[25, 25]⟩, 4, none⟩,
 ⟨some 70, .move (.tmp 69), 4, none⟩,
 ⟨some 71, .fieldAddr 27 (.tmp 11) 2, 0, (some (70, true))⟩,
 ⟨some 72, .load 3 (.tmp 71), 3, (some (70, true))⟩,
 ⟨some 73, .fieldAddr 27 (.tmp 7) 2, 0, (some (70, true))⟩,
 ⟨some 74, .load 3 (.tmp 73), 3, (some (70, true))⟩,
 ⟨some 75, .fieldAddr 27 (.tmp 9) 2, 0, (some (70, true))⟩,
 ⟨some 76, .load 3 (.tmp 75), 3, (some (70, true))⟩,
 ⟨some 77, .binOp .add 3 (.tmp 74) (.tmp 76) 3, 3, (some (70, true))⟩,
 ⟨some 78, .binOp .leq 3 (.tmp 72) (.tmp 77) 3, 4, (some (70, true))⟩,
 ⟨some 79, .pick (.tmp 70) (.tmp 78) (.const (.bool false)), 4, none⟩,
 ⟨some 80, .move (.tmp 79), 4, none⟩,
 ⟨some 81, .fieldAddr 27 (.tmp 11) 2, 0, (some (80, true))⟩,
 ⟨some 82, .load 3 (.tmp 81), 3, (some (80, true))⟩,
 ⟨some 83, .fieldAddr 27 (.tmp 7) 2, 0, (some (80, true))⟩,
 ⟨some 84, .load 3 (.tmp 83), 3, (some (80, true))⟩,
 ⟨some 85, .fieldAddr 27 (.tmp 9) 2, 0, (some (80, true))⟩,
 ⟨some 86, .load 3 (.tmp 85), 3, (some (80, true))⟩,
 ⟨some 87, .call ⟨.builtin .max, #[(.tmp 84), (.tmp 86)], #[3, 3]⟩, 3, (some (80, true))⟩,
 ⟨some 88, .binOp .geq 3 (.tmp 82) (.tmp 87) 3, 4, (some (80, true))⟩,
 ⟨some 89, .pick (.tmp 80) (.tmp 88) (.const (.bool false)), 4, none⟩,
 ⟨some 90, .move (.tmp 89), 4, none⟩,
 ⟨some 91, .call ⟨.value (.func 14), #[], #[]⟩, 4, (some (90, true))⟩,
 ⟨some 92, .pick (.tmp 90) (.tmp 91) (.const (.bool false)), 4, none⟩,
 ⟨some 6, .assign (.tmp 92), 4, none⟩] [6]) (sg c6S3))
noncomputable def c6S5 (_ : Unit) : Cmd := (.seq (.draw (drawOps 1 c6code) [7, 9, 11, 13]) (sg c6S4))
noncomputable def c6S6 (_ : Unit) : Cmd := (.seq (.seq (.ops [
 ⟨some 47, .move (.tmp 8), 28, none⟩,
 ⟨some 48, .binOp .neq 28 (.tmp 47) (.const (.int .i64 0)) 28, 4, none⟩,
 ⟨some 49, .move (.tmp 48), 4, none⟩,
 ⟨some 50, .move (.tmp 10), 28, (some (49, false))⟩,
 ⟨some 51, .binOp .neq 28 (.tmp 50) (.const (.int .i64 0)) 28, 4, (some (49, false))⟩,
 ⟨some 52, .pick (.tmp 49) (.const (.bool true)) (.tmp 51), 4, none⟩,
 ⟨some 53, .move (.tmp 52), 4, none⟩,
 ⟨some 54, .move (.tmp 12), 28, (some (53, false))⟩,
 ⟨some 55, .binOp .neq 28 (.tmp 54) (.const (.int .i64 0)) 28, 4, (some (53, false))⟩,
 ⟨some 56, .pick (.tmp 53) (.const (.bool true)) (.tmp 55), 4, none⟩] [7, 9, 11, 56])
 (.cond (.tmp 56)
  (.seq (.ops [
  ⟨some 57, .call ⟨.value (.func 14), #[], #[]⟩, 4, none⟩,
  ⟨some 6, .assign (.tmp 57), 4, none⟩] [6]) (sg c6S2))
  (.skip [7, 9, 11]))) (sg c6S5))
noncomputable def c6S7 (_ : Unit) : Cmd := (.seq (.draw (drawOps 0 c6code) [7, 8, 9, 10, 11, 12]) (sg c6S6))
noncomputable def c6S8 (_ : Unit) : Cmd := (.seq (.ops [
 ⟨some 32, .load 24 (.tmp 3), 24, none⟩,
 ⟨some 33, .move (.tmp 2), 25, none⟩,
 ⟨some 34, .call ⟨.value (.func 12), #[(.tmp 32), (.tmp 33), (.const (.int .i64 32768))], #[24, 25, 3]⟩, 29, none⟩,
 ⟨some 31, .move (.tmp 34), 29, none⟩,
 ⟨some 35, .extract (.tmp 31) 0, 27, none⟩,
 ⟨some 36, .extract (.tmp 31) 1, 28, none⟩,
 ⟨some 9, .alloc 27, 0, none⟩,
 ⟨none, .store 27 (.tmp 9) (.tmp 35), 0, none⟩,
 ⟨some 10, .assign (.tmp 36), 28, none⟩] [1, 2, 3, 7, 8, 9, 10]) (sg c6S7))
noncomputable def c6S9 (_ : Unit) : Cmd := (.seq (.ops [
 ⟨some 26, .load 24 (.tmp 3), 24, none⟩,
 ⟨some 27, .move (.tmp 1), 25, none⟩,
 ⟨some 28, .call ⟨.value (.func 12), #[(.tmp 26), (.tmp 27), (.const (.int .i64 32768))], #[24, 25, 3]⟩, 29, none⟩,
 ⟨some 25, .move (.tmp 28), 29, none⟩,
 ⟨some 29, .extract (.tmp 25) 0, 27, none⟩,
 ⟨some 30, .extract (.tmp 25) 1, 28, none⟩,
 ⟨some 7, .alloc 27, 0, none⟩,
 ⟨none, .store 27 (.tmp 7) (.tmp 29), 0, none⟩,
 ⟨some 8, .assign (.tmp 30), 28, none⟩] [1, 2, 3, 7, 8]) (sg c6S8))
noncomputable def c6 : Cmd := (.seq (.ops [
 ⟨some 3, .box 24 (.tmp 0), 0, none⟩,
 ⟨some 6, .assign (.const (.bool false)), 4, none⟩] [1, 2, 3])
 (.seq (.seq (.ops [
 ⟨some 14, .load 24 (.tmp 3), 24, none⟩,
 ⟨some 15, .move (.tmp 1), 25, none⟩,
 ⟨some 16, .call ⟨.value (.func 15), #[(.tmp 14), (.tmp 15), (.const (.int .i64 6))], #[24, 25, 3]⟩, 4, none⟩,
 ⟨some 17, .unOp .not 4 (.tmp 16), 4, none⟩,
 ⟨some 18, .move (.tmp 17), 4, none⟩,
 ⟨some 19, .load 24 (.tmp 3), 24, (some (18, false))⟩,
 ⟨some 20, .move (.tmp 2), 25, (some (18, false))⟩,
 ⟨some 21, .call ⟨.value (.func 15), #[(.tmp 19), (.tmp 20), (.const (.int .i64 6))], #[24, 25, 3]⟩, 4, (some (18, false))⟩,
 ⟨some 22, .unOp .not 4 (.tmp 21), 4, (some (18, false))⟩,
 ⟨some 23, .pick (.tmp 18) (.const (.bool true)) (.tmp 22), 4, none⟩] [1, 2, 3, 23]) (sg c6S1)) (sg c6S9)))
/- TREE function 6 draw 0: several may come: [0, 1, 10] after [2, 4] -/
noncomputable def c6D0 : GT := (.one 0 ⟨some 40, .move (.tmp 1), 25, none⟩
 (.one 0 ⟨some 42, .move (.tmp 2), 25, none⟩
 (.one 1 ⟨some 38, .load 24 (.tmp 3), 24, none⟩
 (.alt ⟨some 39, .buildSlice 25 0 #[], 25, none⟩
 (.alt ⟨some 41, .call ⟨.builtin .append, #[(.tmp 39), (.tmp 40)], #[25, 25]⟩, 25, none⟩
 (.alt ⟨some 43, .call ⟨.builtin .append, #[(.tmp 41), (.tmp 42)], #[25, 25]⟩, 25, none⟩
 (.alt ⟨some 44, .call ⟨.value (.func 12), #[(.tmp 38), (.tmp 43), (.const (.int .i64 32768))], #[24, 25, 3]⟩, 29, none⟩
 (.one 0 ⟨some 37, .move (.tmp 44), 29, none⟩
 (.one 0 ⟨some 45, .extract (.tmp 37) 0, 27, none⟩
 (.one 0 ⟨some 46, .extract (.tmp 37) 1, 28, none⟩
 (.one 2 ⟨some 11, .alloc 27, 0, none⟩
 (.one 2 ⟨none, .store 27 (.tmp 11) (.tmp 45), 0, none⟩
 (.one 0 ⟨some 12, .assign (.tmp 46), 28, none⟩
 .nil))))))
 (.alt ⟨some 11, .alloc 27, 0, none⟩
 (.one 2 ⟨some 44, .call ⟨.value (.func 12), #[(.tmp 38), (.tmp 43), (.const (.int .i64 32768))], #[24, 25, 3]⟩, 29, none⟩
 (.one 0 ⟨some 37, .move (.tmp 44), 29, none⟩
 (.one 0 ⟨some 45, .extract (.tmp 37) 0, 27, none⟩
 (.one 0 ⟨some 46, .extract (.tmp 37) 1, 28, none⟩
 (.one 2 ⟨none, .store 27 (.tmp 11) (.tmp 45), 0, none⟩
 (.one 0 ⟨some 12, .assign (.tmp 46), 28, none⟩
 .nil))))))
 .stop))
 (.alt ⟨some 11, .alloc 27, 0, none⟩
 (.one 2 ⟨some 43, .call ⟨.builtin .append, #[(.tmp 41), (.tmp 42)], #[25, 25]⟩, 25, none⟩
 (.one 2 ⟨some 44, .call ⟨.value (.func 12), #[(.tmp 38), (.tmp 43), (.const (.int .i64 32768))], #[24, 25, 3]⟩, 29, none⟩
 (.one 0 ⟨some 37, .move (.tmp 44), 29, none⟩
 (.one 0 ⟨some 45, .extract (.tmp 37) 0, 27, none⟩
 (.one 0 ⟨some 46, .extract (.tmp 37) 1, 28, none⟩
 (.one 2 ⟨none, .store 27 (.tmp 11) (.tmp 45), 0, none⟩
 (.one 0 ⟨some 12, .assign (.tmp 46), 28, none⟩
 .nil)))))))
 .stop))
 (.alt ⟨some 11, .alloc 27, 0, none⟩
 (.one 2 ⟨some 41, .call ⟨.builtin .append, #[(.tmp 39), (.tmp 40)], #[25, 25]⟩, 25, none⟩
 (.one 2 ⟨some 43, .call ⟨.builtin .append, #[(.tmp 41), (.tmp 42)], #[25, 25]⟩, 25, none⟩
 (.one 2 ⟨some 44, .call ⟨.value (.func 12), #[(.tmp 38), (.tmp 43), (.const (.int .i64 32768))], #[24, 25, 3]⟩, 29, none⟩
 (.one 0 ⟨some 37, .move (.tmp 44), 29, none⟩
 (.one 0 ⟨some 45, .extract (.tmp 37) 0, 27, none⟩
 (.one 0 ⟨some 46, .extract (.tmp 37) 1, 28, none⟩
 (.one 2 ⟨none, .store 27 (.tmp 11) (.tmp 45), 0, none⟩
 (.one 0 ⟨some 12, .assign (.tmp 46), 28, none⟩
 .nil))))))))
 .stop))
 (.alt ⟨some 11, .alloc 27, 0, none⟩
 (.one 2 ⟨some 39, .buildSlice 25 0 #[], 25, none⟩
 (.one 2 ⟨some 41, .call ⟨.builtin .append, #[(.tmp 39), (.tmp 40)], #[25, 25]⟩, 25, none⟩
 (.one 2 ⟨some 43, .call ⟨.builtin .append, #[(.tmp 41), (.tmp 42)], #[25, 25]⟩, 25, none⟩
 (.one 2 ⟨some 44, .call ⟨.value (.func 12), #[(.tmp 38), (.tmp 43), (.const (.int .i64 32768))], #[24, 25, 3]⟩, 29, none⟩
 (.one 0 ⟨some 37, .move (.tmp 44), 29, none⟩
 (.one 0 ⟨some 45, .extract (.tmp 37) 0, 27, none⟩
 (.one 0 ⟨some 46, .extract (.tmp 37) 1, 28, none⟩
 (.one 2 ⟨none, .store 27 (.tmp 11) (.tmp 45), 0, none⟩
 (.one 0 ⟨some 12, .assign (.tmp 46), 28, none⟩
 .nil)))))))))
 .stop)))))
theorem c6draw0 {L : List Nat} {ρ : Env} {w : World} {Q : Post} (S : World → Prop) (hS : S w.drew) (h : DT Try.prog S c6D0 L ρ w.drew Q) : drawW Try.prog (drawOps 0 c6code) L ρ w Q :=
  drawW_tree [0] (.one 0 2 (.one 0 4 (.one 1 0 (.alt 1 (.alt 3 (.alt 5 (.alt 6 (.one 0 7 (.one 0 8 (.one 0 9 (.one 2 10 (.one 2 11 (.one 0 12 .nil)))))) (.alt 10 (.one 2 6 (.one 0 7 (.one 0 8 (.one 0 9 (.one 2 11 (.one 0 12 .nil)))))) .stop)) (.alt 10 (.one 2 5 (.one 2 6 (.one 0 7 (.one 0 8 (.one 0 9 (.one 2 11 (.one 0 12 .nil))))))) .stop)) (.alt 10 (.one 2 3 (.one 2 5 (.one 2 6 (.one 0 7 (.one 0 8 (.one 0 9 (.one 2 11 (.one 0 12 .nil)))))))) .stop)) (.alt 10 (.one 2 1 (.one 2 3 (.one 2 5 (.one 2 6 (.one 0 7 (.one 0 8 (.one 0 9 (.one 2 11 (.one 0 12 .nil))))))))) .stop))))) c6D0 (by kernel_rfl) (by kernel_rfl) (by kernel_rfl) S hS h
noncomputable def c6D1 : List (Nat × Ins) := [
 (0, ⟨some 59, .fieldAddr 27 (.tmp 7) 1, 0, none⟩),
 (0, ⟨some 62, .fieldAddr 27 (.tmp 9) 1, 0, none⟩),
 (1, ⟨some 60, .load 25 (.tmp 59), 25, none⟩),
 (1, ⟨some 63, .load 25 (.tmp 62), 25, none⟩),
 (2, ⟨some 58, .buildSlice 25 0 #[], 25, none⟩),
 (2, ⟨some 61, .call ⟨.builtin .append, #[(.tmp 58), (.tmp 60)], #[25, 25]⟩, 25, none⟩),
 (2, ⟨some 64, .call ⟨.builtin .append, #[(.tmp 61), (.tmp 63)], #[25, 25]⟩, 25, none⟩),
 (2, ⟨some 65, .call ⟨.value (.func 18), #[(.tmp 64)], #[25]⟩, 25, none⟩),
 (0, ⟨some 13, .assign (.tmp 65), 25, none⟩)]
theorem c6draw1 {L : List Nat} {ρ : Env} {w : World} {Q : Post} (S : World → Prop) (hS : S w.drew) (h : DG Try.prog S c6D1 L ρ w.drew Q) : drawW Try.prog (drawOps 1 c6code) L ρ w Q :=
  drawW_held [2, 5] [(0, 1), (0, 4), (1, 2), (1, 5), (2, 0), (2, 3), (2, 6), (2, 7), (0, 8)] c6D1 (by kernel_rfl) (by kernel_rfl) (by kernel_rfl) S hS h
set_option maxRecDepth 100000 in
theorem ent6 (a0 a1 a2 : Value) (w : World) (K : Value → World → Prop) (h : W Try.prog c6 [(0, a0), (1, a1), (2, a2)] w (finQ Try.prog [.tmp 6] K)) : Ret Try.prog 6 [a0, a1, a2] w K :=
  Ret_of_W (code := c6code) Try.func6 (by kernel_rfl) (by kernel_rfl) (of_decide_eq_true (by kernel_rfl)) h
@[go_sem] theorem go6 : goFunc Try.prog 6 = true := by kernel_rfl
/- Function 7: annalistlaw15.LinBudget -/
noncomputable def c7code : Code := match Try.f7.body with | some c => c | none => .skip
noncomputable def c7S0 (_ : Unit) : Cmd := .ret
noncomputable def c7S1 (_ : Unit) : Cmd := (.cond (.tmp 18)
  (.seq (.ops [
  ⟨some 19, .call ⟨.value (.func 14), #[], #[]⟩, 4, none⟩,
  ⟨some 6, .assign (.tmp 19), 4, none⟩] [6]) (sg c7S0))
  (.skip [1, 2, 3]))
noncomputable def c7S2 (_ : Unit) : Cmd := .ret
noncomputable def c7S3 (_ : Unit) : Cmd := .ret
noncomputable def c7S4 (_ : Unit) : Cmd := (.seq (.ops [
 ⟨some 57, .move (.tmp 10), 28, none⟩,
 ⟨some 58, .binOp .eql 28 (.tmp 57) (.const (.int .i64 0)) 28, 4, none⟩,
 ⟨some 59, .move (.tmp 58), 4, none⟩,
 ⟨some 60, .move (.tmp 12), 28, (some (59, true))⟩,
 ⟨some 61, .move (.tmp 10), 28, (some (59, true))⟩,
 ⟨some 62, .binOp .eql 28 (.tmp 60) (.tmp 61) 28, 4, (some (59, true))⟩,
 ⟨some 63, .pick (.tmp 59) (.tmp 62) (.const (.bool false)), 4, none⟩,
 ⟨some 64, .move (.tmp 63), 4, none⟩,
 ⟨some 65, .move (.tmp 14), 28, (some (64, true))⟩,
 ⟨some 66, .binOp .eql 28 (.tmp 65) (.const (.int .i64 35)) 28, 4, (some (64, true))⟩,
 ⟨some 67, .pick (.tmp 64) (.tmp 66) (.const (.bool false)), 4, none⟩,
 ⟨some 68, .move (.tmp 67), 4, none⟩,
 ⟨some 69, .load 27 (.tmp 9), 27, (some (68, true))⟩,
 ⟨some 70, .load 27 (.tmp 7), 27, (some (68, true))⟩,
 ⟨some 71, .call ⟨.value (.func 13), #[(.tmp 69), (.tmp 70)], #[27, 27]⟩, 4, (some (68, true))⟩,
 ⟨some 72, .pick (.tmp 68) (.tmp 71) (.const (.bool false)), 4, none⟩,
 ⟨some 73, .move (.tmp 72), 4, none⟩,
 ⟨some 74, .load 27 (.tmp 11), 27, (some (73, true))⟩,
 ⟨some 75, .load 27 (.tmp 7), 27, (some (73, true))⟩,
 ⟨some 76, .call ⟨.value (.func 13), #[(.tmp 74), (.tmp 75)], #[27, 27]⟩, 4, (some (73, true))⟩,
 ⟨some 77, .pick (.tmp 73) (.tmp 76) (.const (.bool false)), 4, none⟩,
 ⟨some 78, .move (.tmp 77), 4, none⟩,
 ⟨some 79, .call ⟨.value (.func 14), #[], #[]⟩, 4, (some (78, true))⟩,
 ⟨some 80, .pick (.tmp 78) (.tmp 79) (.const (.bool false)), 4, none⟩,
 ⟨some 6, .assign (.tmp 80), 4, none⟩] [6]) (sg c7S3))
noncomputable def c7S5 (_ : Unit) : Cmd := (.seq (.ops [
 ⟨some 49, .load 24 (.tmp 3), 24, none⟩,
 ⟨some 50, .move (.tmp 1), 25, none⟩,
 ⟨some 51, .fieldAddr 27 (.tmp 7) 2, 0, none⟩,
 ⟨some 52, .load 3 (.tmp 51), 3, none⟩,
 ⟨some 53, .binOp .sub 3 (.tmp 52) (.const (.int .i64 1)) 3, 3, none⟩,
 ⟨some 54, .call ⟨.value (.func 12), #[(.tmp 49), (.tmp 50), (.tmp 53)], #[24, 25, 3]⟩, 29, none⟩,
 ⟨some 48, .move (.tmp 54), 29, none⟩,
 ⟨some 55, .extract (.tmp 48) 0, 27, none⟩,
 ⟨some 56, .extract (.tmp 48) 1, 28, none⟩,
 ⟨some 13, .alloc 27, 0, none⟩,
 ⟨none, .store 27 (.tmp 13) (.tmp 55), 0, none⟩,
 ⟨some 14, .assign (.tmp 56), 28, none⟩] [7, 9, 10, 11, 12, 14]) (sg c7S4))
noncomputable def c7S6 (_ : Unit) : Cmd := (.seq (.ops [
 ⟨some 38, .load 24 (.tmp 3), 24, none⟩,
 ⟨some 39, .move (.tmp 1), 25, none⟩,
 ⟨some 40, .fieldAddr 27 (.tmp 7) 2, 0, none⟩,
 ⟨some 41, .load 3 (.tmp 40), 3, none⟩,
 ⟨some 42, .move (.tmp 2), 44, none⟩,
 ⟨some 43, .convert 44 3 (.tmp 42), 3, none⟩,
 ⟨some 44, .binOp .add 3 (.tmp 41) (.tmp 43) 3, 3, none⟩,
 ⟨some 45, .call ⟨.value (.func 12), #[(.tmp 38), (.tmp 39), (.tmp 44)], #[24, 25, 3]⟩, 29, none⟩,
 ⟨some 37, .move (.tmp 45), 29, none⟩,
 ⟨some 46, .extract (.tmp 37) 0, 27, none⟩,
 ⟨some 47, .extract (.tmp 37) 1, 28, none⟩,
 ⟨some 11, .alloc 27, 0, none⟩,
 ⟨none, .store 27 (.tmp 11) (.tmp 46), 0, none⟩,
 ⟨some 12, .assign (.tmp 47), 28, none⟩] [1, 3, 7, 9, 10, 11, 12]) (sg c7S5))
noncomputable def c7S7 (_ : Unit) : Cmd := (.seq (.ops [
 ⟨some 30, .load 24 (.tmp 3), 24, none⟩,
 ⟨some 31, .move (.tmp 1), 25, none⟩,
 ⟨some 32, .fieldAddr 27 (.tmp 7) 2, 0, none⟩,
 ⟨some 33, .load 3 (.tmp 32), 3, none⟩,
 ⟨some 34, .call ⟨.value (.func 12), #[(.tmp 30), (.tmp 31), (.tmp 33)], #[24, 25, 3]⟩, 29, none⟩,
 ⟨some 29, .move (.tmp 34), 29, none⟩,
 ⟨some 35, .extract (.tmp 29) 0, 27, none⟩,
 ⟨some 36, .extract (.tmp 29) 1, 28, none⟩,
 ⟨some 9, .alloc 27, 0, none⟩,
 ⟨none, .store 27 (.tmp 9) (.tmp 35), 0, none⟩,
 ⟨some 10, .assign (.tmp 36), 28, none⟩] [1, 2, 3, 7, 9, 10]) (sg c7S6))
noncomputable def c7S8 (_ : Unit) : Cmd := (.seq (.seq (.ops [
 ⟨some 26, .move (.tmp 8), 28, none⟩,
 ⟨some 27, .binOp .neq 28 (.tmp 26) (.const (.int .i64 0)) 28, 4, none⟩] [1, 2, 3, 7, 27])
 (.cond (.tmp 27)
  (.seq (.ops [
  ⟨some 28, .call ⟨.value (.func 14), #[], #[]⟩, 4, none⟩,
  ⟨some 6, .assign (.tmp 28), 4, none⟩] [6]) (sg c7S2))
  (.skip [1, 2, 3, 7]))) (sg c7S7))
noncomputable def c7S9 (_ : Unit) : Cmd := (.seq (.ops [
 ⟨some 21, .load 24 (.tmp 3), 24, none⟩,
 ⟨some 22, .move (.tmp 1), 25, none⟩,
 ⟨some 23, .call ⟨.value (.func 12), #[(.tmp 21), (.tmp 22), (.const (.int .i64 32768))], #[24, 25, 3]⟩, 29, none⟩,
 ⟨some 20, .move (.tmp 23), 29, none⟩,
 ⟨some 24, .extract (.tmp 20) 0, 27, none⟩,
 ⟨some 25, .extract (.tmp 20) 1, 28, none⟩,
 ⟨some 7, .alloc 27, 0, none⟩,
 ⟨none, .store 27 (.tmp 7) (.tmp 24), 0, none⟩,
 ⟨some 8, .assign (.tmp 25), 28, none⟩] [1, 2, 3, 7, 8]) (sg c7S8))
noncomputable def c7 : Cmd := (.seq (.ops [
 ⟨some 3, .box 24 (.tmp 0), 0, none⟩,
 ⟨some 6, .assign (.const (.bool false)), 4, none⟩] [1, 2, 3])
 (.seq (.seq (.ops [
 ⟨some 15, .load 24 (.tmp 3), 24, none⟩,
 ⟨some 16, .move (.tmp 1), 25, none⟩,
 ⟨some 17, .call ⟨.value (.func 15), #[(.tmp 15), (.tmp 16), (.const (.int .i64 6))], #[24, 25, 3]⟩, 4, none⟩,
 ⟨some 18, .unOp .not 4 (.tmp 17), 4, none⟩] [1, 2, 3, 18]) (sg c7S1)) (sg c7S9)))
set_option maxRecDepth 100000 in
theorem ent7 (a0 a1 a2 : Value) (w : World) (K : Value → World → Prop) (h : W Try.prog c7 [(0, a0), (1, a1), (2, a2)] w (finQ Try.prog [.tmp 6] K)) : Ret Try.prog 7 [a0, a1, a2] w K :=
  Ret_of_W (code := c7code) Try.func7 (by kernel_rfl) (by kernel_rfl) (of_decide_eq_true (by kernel_rfl)) h
@[go_sem] theorem go7 : goFunc Try.prog 7 = true := by kernel_rfl
/- Function 8: annalistlaw15.LinChains -/
noncomputable def c8code : Code := match Try.f8.body with | some c => c | none => .skip
noncomputable def c8S0 (_ : Unit) : Cmd := .ret
noncomputable def c8S1 (_ : Unit) : Cmd := (.cond (.tmp 19)
  (.seq (.ops [
  ⟨some 20, .call ⟨.value (.func 14), #[], #[]⟩, 4, none⟩,
  ⟨some 2, .assign (.tmp 20), 4, none⟩] [2]) (sg c8S0))
  (.skip [0]))
noncomputable def c8S2 (_ : Unit) : Cmd := (.ops [
 ⟨some 65, .fieldAddr 27 (.tmp 8) 1, 0, none⟩,
 ⟨some 66, .load 25 (.tmp 65), 25, none⟩,
 ⟨some 5, .assign (.tmp 66), 25, none⟩] [3, 4, 5, 6, 7])
noncomputable def c8S3 (_ : Unit) : Cmd := (.seq (.seq (.ops [
 ⟨some 63, .move (.tmp 9), 28, none⟩,
 ⟨some 64, .binOp .neq 28 (.tmp 63) (.const (.int .i64 0)) 28, 4, none⟩] [3, 4, 6, 7, 8, 64])
 (.cond (.tmp 64)
  (.seq (.ops [
  ⟨some 2, .assign (.const (.bool false)), 4, none⟩] [2])
  .ret)
  (.skip [3, 4, 6, 7, 8]))) (sg c8S2))
noncomputable def c8S4 (_ : Unit) : Cmd := (.ops [
 ⟨some 52, .move (.tmp 7), 3, none⟩,
 ⟨some 53, .binOp .add 3 (.tmp 52) (.const (.int .i64 1)) 3, 3, none⟩,
 ⟨some 7, .assign (.tmp 53), 3, none⟩] [3, 4, 5, 6, 7])
noncomputable def c8S5 (_ : Unit) : Cmd := (.seq (.block 3 (.seq (.ops [
 ⟨some 55, .move (.tmp 6), 47, none⟩,
 ⟨some 56, .move (.tmp 7), 3, none⟩,
 ⟨some 57, .indexAddr 47 (.tmp 55) (.tmp 56), 0, none⟩,
 ⟨some 58, .load 24 (.tmp 57), 24, none⟩,
 ⟨some 59, .move (.tmp 5), 25, none⟩,
 ⟨some 60, .call ⟨.value (.func 12), #[(.tmp 58), (.tmp 59), (.const (.int .i64 32768))], #[24, 25, 3]⟩, 29, none⟩,
 ⟨some 54, .move (.tmp 60), 29, none⟩,
 ⟨some 61, .extract (.tmp 54) 0, 27, none⟩,
 ⟨some 62, .extract (.tmp 54) 1, 28, none⟩,
 ⟨some 8, .alloc 27, 0, none⟩,
 ⟨none, .store 27 (.tmp 8) (.tmp 61), 0, none⟩,
 ⟨some 9, .assign (.tmp 62), 28, none⟩] [3, 4, 6, 7, 8, 9]) (sg c8S3))) (sg c8S4))
noncomputable def c8L0 (_ : Unit) : Cmd := (.seq (.seq (.ops [
 ⟨some 48, .move (.tmp 7), 3, none⟩,
 ⟨some 49, .move (.tmp 6), 47, none⟩,
 ⟨some 50, .call ⟨.builtin .len, #[(.tmp 49)], #[47]⟩, 3, none⟩,
 ⟨some 51, .binOp .lss 3 (.tmp 48) (.tmp 50) 3, 4, none⟩] [3, 4, 5, 6, 7, 51])
 (.cond (.tmp 51)
  (.skip [3, 4, 5, 6, 7])
  (.exit 2 [3, 4, 5]))) (sg c8S5))
noncomputable def c8S6 (_ : Unit) : Cmd := (.cond (.tmp 90)
  (.seq (.ops [
  ⟨some 2, .assign (.const (.bool false)), 4, none⟩] [2])
  .ret)
  (.skip [3, 4]))
noncomputable def c8S7 (_ : Unit) : Cmd := (.seq (.ops [
 ⟨some 82, .move (.tmp 11), 28, none⟩,
 ⟨some 83, .binOp .neq 28 (.tmp 82) (.const (.int .i64 0)) 28, 4, none⟩,
 ⟨some 84, .move (.tmp 83), 4, none⟩,
 ⟨some 85, .fieldAddr 27 (.tmp 10) 1, 0, (some (84, false))⟩,
 ⟨some 86, .load 25 (.tmp 85), 25, (some (84, false))⟩,
 ⟨some 87, .move (.tmp 5), 25, (some (84, false))⟩,
 ⟨some 88, .call ⟨.value (.func 17), #[(.tmp 86), (.tmp 87)], #[25, 25]⟩, 4, (some (84, false))⟩,
 ⟨some 89, .unOp .not 4 (.tmp 88), 4, (some (84, false))⟩,
 ⟨some 90, .pick (.tmp 84) (.const (.bool true)) (.tmp 89), 4, none⟩] [3, 4, 90]) (sg c8S6))
noncomputable def c8S8 (_ : Unit) : Cmd := (.seq (.draw (drawOps 0 c8code) [3, 4, 5, 10, 11]) (sg c8S7))
noncomputable def c8S9 (_ : Unit) : Cmd := (.seq (.seq (.ops [
 ⟨some 7, .assign (.const (.int .i64 0)), 3, none⟩] [3, 4, 5, 6, 7])
 (.block 2 (.loop (sg c8L0)))) (sg c8S8))
noncomputable def c8S10 (_ : Unit) : Cmd := (.seq (.ops [
 ⟨some 43, .move (.tmp 3), 47, none⟩,
 ⟨some 44, .move (.tmp 4), 3, none⟩,
 ⟨some 45, .indexAddr 47 (.tmp 43) (.tmp 44), 0, none⟩,
 ⟨some 46, .load 24 (.tmp 45), 24, none⟩,
 ⟨some 47, .call ⟨.value (.func 24), #[(.tmp 46)], #[24]⟩, 47, none⟩,
 ⟨some 6, .assign (.tmp 47), 47, none⟩] [3, 4, 5, 6]) (sg c8S9))
noncomputable def c8S11 (_ : Unit) : Cmd := (.seq (.ops [
 ⟨some 36, .move (.tmp 3), 47, none⟩,
 ⟨some 37, .move (.tmp 4), 3, none⟩,
 ⟨some 38, .indexAddr 47 (.tmp 36) (.tmp 37), 0, none⟩,
 ⟨some 39, .fieldAddr 24 (.tmp 38) 1, 0, none⟩,
 ⟨some 40, .load 3 (.tmp 39), 3, none⟩,
 ⟨some 41, .call ⟨.value (.func 23), #[(.tmp 40)], #[3]⟩, 36, none⟩,
 ⟨some 42, .buildSlice 25 1 #[(0, (.tmp 41))], 25, none⟩,
 ⟨some 5, .assign (.tmp 42), 25, none⟩] [3, 4, 5]) (sg c8S10))
noncomputable def c8S12 (_ : Unit) : Cmd := (.ops [
 ⟨some 27, .move (.tmp 4), 3, none⟩,
 ⟨some 28, .binOp .add 3 (.tmp 27) (.const (.int .i64 1)) 3, 3, none⟩,
 ⟨some 4, .assign (.tmp 28), 3, none⟩] [3, 4])
noncomputable def c8S13 (_ : Unit) : Cmd := (.seq (.block 1 (.seq (.seq (.ops [
 ⟨some 29, .move (.tmp 3), 47, none⟩,
 ⟨some 30, .move (.tmp 4), 3, none⟩,
 ⟨some 31, .indexAddr 47 (.tmp 29) (.tmp 30), 0, none⟩,
 ⟨some 32, .fieldAddr 24 (.tmp 31) 2, 0, none⟩,
 ⟨some 33, .load 22 (.tmp 32), 22, none⟩,
 ⟨some 34, .call ⟨.builtin .len, #[(.tmp 33)], #[22]⟩, 3, none⟩,
 ⟨some 35, .binOp .gtr 3 (.tmp 34) (.const (.int .i64 7)) 3, 4, none⟩] [3, 4, 35])
 (.cond (.tmp 35)
  (.exit 1 [3, 4])
  (.skip [3, 4]))) (sg c8S11))) (sg c8S12))
noncomputable def c8L1 (_ : Unit) : Cmd := (.seq (.seq (.ops [
 ⟨some 23, .move (.tmp 4), 3, none⟩,
 ⟨some 24, .move (.tmp 3), 47, none⟩,
 ⟨some 25, .call ⟨.builtin .len, #[(.tmp 24)], #[47]⟩, 3, none⟩,
 ⟨some 26, .binOp .lss 3 (.tmp 23) (.tmp 25) 3, 4, none⟩] [3, 4, 26])
 (.cond (.tmp 26)
  (.skip [3, 4])
  (.exit 0 []))) (sg c8S13))
noncomputable def c8S14 (_ : Unit) : Cmd := .ret
noncomputable def c8S15 (_ : Unit) : Cmd := (.seq (.ops [
 ⟨some 91, .call ⟨.value (.func 14), #[], #[]⟩, 4, none⟩,
 ⟨some 2, .assign (.tmp 91), 4, none⟩] [2]) (sg c8S14))
noncomputable def c8S16 (_ : Unit) : Cmd := (.seq (.seq (.ops [
 ⟨some 4, .assign (.const (.int .i64 0)), 3, none⟩] [3, 4])
 (.block 0 (.loop (sg c8L1)))) (sg c8S15))
noncomputable def c8S17 (_ : Unit) : Cmd := (.seq (.ops [
 ⟨some 21, .move (.tmp 0), 22, none⟩,
 ⟨some 22, .call ⟨.value (.func 22), #[(.tmp 21)], #[22]⟩, 47, none⟩,
 ⟨some 3, .assign (.tmp 22), 47, none⟩] [3]) (sg c8S16))
noncomputable def c8 : Cmd := (.seq (.ops [
 ⟨some 2, .assign (.const (.bool false)), 4, none⟩] [0])
 (.seq (.seq (.ops [
 ⟨some 12, .move (.tmp 0), 22, none⟩,
 ⟨some 13, .call ⟨.builtin .len, #[(.tmp 12)], #[22]⟩, 3, none⟩,
 ⟨some 14, .binOp .gtr 3 (.tmp 13) (.const (.int .i64 64)) 3, 4, none⟩,
 ⟨some 15, .move (.tmp 14), 4, none⟩,
 ⟨some 16, .move (.tmp 0), 22, (some (15, false))⟩,
 ⟨some 17, .call ⟨.value (.func 21), #[(.tmp 16)], #[22]⟩, 3, (some (15, false))⟩,
 ⟨some 18, .binOp .neq 3 (.tmp 17) (.const (.int .i64 0)) 3, 4, (some (15, false))⟩,
 ⟨some 19, .pick (.tmp 15) (.const (.bool true)) (.tmp 18), 4, none⟩] [0, 19]) (sg c8S1)) (sg c8S17)))
/- TREE function 8 draw 0: several may come: [3, 8, 15] after [0, 1, 2, 4, 5, 6, 7] -/
noncomputable def c8D0 : GT := (.one 0 ⟨some 68, .move (.tmp 3), 47, none⟩
 (.one 0 ⟨some 69, .move (.tmp 4), 3, none⟩
 (.one 0 ⟨some 70, .indexAddr 47 (.tmp 68) (.tmp 69), 0, none⟩
 (.one 0 ⟨some 72, .move (.tmp 3), 47, none⟩
 (.one 0 ⟨some 73, .move (.tmp 4), 3, none⟩
 (.one 0 ⟨some 74, .indexAddr 47 (.tmp 72) (.tmp 73), 0, none⟩
 (.one 0 ⟨some 75, .fieldAddr 24 (.tmp 74) 1, 0, none⟩
 (.one 1 ⟨some 71, .load 24 (.tmp 70), 24, none⟩
 (.one 1 ⟨some 76, .load 3 (.tmp 75), 3, none⟩
 (.alt ⟨some 77, .call ⟨.value (.func 23), #[(.tmp 76)], #[3]⟩, 36, none⟩
 (.alt ⟨some 78, .buildSlice 25 1 #[(0, (.tmp 77))], 25, none⟩
 (.alt ⟨some 79, .call ⟨.value (.func 12), #[(.tmp 71), (.tmp 78), (.const (.int .i64 32768))], #[24, 25, 3]⟩, 29, none⟩
 (.one 0 ⟨some 67, .move (.tmp 79), 29, none⟩
 (.one 0 ⟨some 80, .extract (.tmp 67) 0, 27, none⟩
 (.one 0 ⟨some 81, .extract (.tmp 67) 1, 28, none⟩
 (.one 2 ⟨some 10, .alloc 27, 0, none⟩
 (.one 2 ⟨none, .store 27 (.tmp 10) (.tmp 80), 0, none⟩
 (.one 0 ⟨some 11, .assign (.tmp 81), 28, none⟩
 .nil))))))
 (.alt ⟨some 10, .alloc 27, 0, none⟩
 (.one 2 ⟨some 79, .call ⟨.value (.func 12), #[(.tmp 71), (.tmp 78), (.const (.int .i64 32768))], #[24, 25, 3]⟩, 29, none⟩
 (.one 0 ⟨some 67, .move (.tmp 79), 29, none⟩
 (.one 0 ⟨some 80, .extract (.tmp 67) 0, 27, none⟩
 (.one 0 ⟨some 81, .extract (.tmp 67) 1, 28, none⟩
 (.one 2 ⟨none, .store 27 (.tmp 10) (.tmp 80), 0, none⟩
 (.one 0 ⟨some 11, .assign (.tmp 81), 28, none⟩
 .nil))))))
 .stop))
 (.alt ⟨some 10, .alloc 27, 0, none⟩
 (.one 2 ⟨some 78, .buildSlice 25 1 #[(0, (.tmp 77))], 25, none⟩
 (.one 2 ⟨some 79, .call ⟨.value (.func 12), #[(.tmp 71), (.tmp 78), (.const (.int .i64 32768))], #[24, 25, 3]⟩, 29, none⟩
 (.one 0 ⟨some 67, .move (.tmp 79), 29, none⟩
 (.one 0 ⟨some 80, .extract (.tmp 67) 0, 27, none⟩
 (.one 0 ⟨some 81, .extract (.tmp 67) 1, 28, none⟩
 (.one 2 ⟨none, .store 27 (.tmp 10) (.tmp 80), 0, none⟩
 (.one 0 ⟨some 11, .assign (.tmp 81), 28, none⟩
 .nil)))))))
 .stop))
 (.alt ⟨some 10, .alloc 27, 0, none⟩
 (.one 2 ⟨some 77, .call ⟨.value (.func 23), #[(.tmp 76)], #[3]⟩, 36, none⟩
 (.one 2 ⟨some 78, .buildSlice 25 1 #[(0, (.tmp 77))], 25, none⟩
 (.one 2 ⟨some 79, .call ⟨.value (.func 12), #[(.tmp 71), (.tmp 78), (.const (.int .i64 32768))], #[24, 25, 3]⟩, 29, none⟩
 (.one 0 ⟨some 67, .move (.tmp 79), 29, none⟩
 (.one 0 ⟨some 80, .extract (.tmp 67) 0, 27, none⟩
 (.one 0 ⟨some 81, .extract (.tmp 67) 1, 28, none⟩
 (.one 2 ⟨none, .store 27 (.tmp 10) (.tmp 80), 0, none⟩
 (.one 0 ⟨some 11, .assign (.tmp 81), 28, none⟩
 .nil))))))))
 .stop)))))))))))
theorem c8draw0 {L : List Nat} {ρ : Env} {w : World} {Q : Post} (S : World → Prop) (hS : S w.drew) (h : DT Try.prog S c8D0 L ρ w.drew Q) : drawW Try.prog (drawOps 0 c8code) L ρ w Q :=
  drawW_tree [3, 8] (.one 0 0 (.one 0 1 (.one 0 2 (.one 0 4 (.one 0 5 (.one 0 6 (.one 0 7 (.one 1 3 (.one 1 8 (.alt 9 (.alt 10 (.alt 11 (.one 0 12 (.one 0 13 (.one 0 14 (.one 2 15 (.one 2 16 (.one 0 17 .nil)))))) (.alt 15 (.one 2 11 (.one 0 12 (.one 0 13 (.one 0 14 (.one 2 16 (.one 0 17 .nil)))))) .stop)) (.alt 15 (.one 2 10 (.one 2 11 (.one 0 12 (.one 0 13 (.one 0 14 (.one 2 16 (.one 0 17 .nil))))))) .stop)) (.alt 15 (.one 2 9 (.one 2 10 (.one 2 11 (.one 0 12 (.one 0 13 (.one 0 14 (.one 2 16 (.one 0 17 .nil)))))))) .stop))))))))))) c8D0 (by kernel_rfl) (by kernel_rfl) (by kernel_rfl) S hS h
set_option maxRecDepth 100000 in
theorem ent8 (a0 : Value) (w : World) (K : Value → World → Prop) (h : W Try.prog c8 [(0, a0)] w (finQ Try.prog [.tmp 2] K)) : Ret Try.prog 8 [a0] w K :=
  Ret_of_W (code := c8code) Try.func8 (by kernel_rfl) (by kernel_rfl) (of_decide_eq_true (by kernel_rfl)) h
@[go_sem] theorem go8 : goFunc Try.prog 8 = true := by kernel_rfl
/- Function 12: lin.Search -/
noncomputable def c12code : Code := match Try.f12.body with | some c => c | none => .skip
noncomputable def c12S0 (_ : Unit) : Cmd := (.ops [
 ⟨some 41, .binOp .add 3 (.tmp 34) (.const (.int .i64 1)) 3, 3, none⟩,
 ⟨some 34, .move (.tmp 41), 3, none⟩] [2, 6, 8, 9, 32, 33, 34])
noncomputable def c12S1 (_ : Unit) : Cmd := (.seq (.block 1 (.seq (.ops [
 ⟨some 36, .indexAddr 25 (.tmp 32) (.tmp 34), 0, none⟩,
 ⟨some 37, .load 36 (.tmp 36), 36, none⟩,
 ⟨some 11, .assign (.tmp 37), 36, none⟩] [2, 6, 8, 9, 11, 32, 33, 34])
 (.ops [
 ⟨some 38, .move (.tmp 8), 60, none⟩,
 ⟨some 39, .move (.tmp 11), 36, none⟩,
 ⟨some 40, .call ⟨.value (.func 31), #[(.tmp 38), (.const (.int .u32 0)), (.tmp 39)], #[60, 63, 36]⟩, 0, none⟩] [2, 6, 8, 9, 32, 33, 34]))) (sg c12S0))
noncomputable def c12L0 (_ : Unit) : Cmd := (.seq (.ops [
 ⟨some 35, .binOp .lss 3 (.tmp 34) (.tmp 33) 3, 0, none⟩] [2, 6, 8, 9, 32, 33, 34, 35])
 (.seq (.cond (.tmp 35)
  (.skip [2, 6, 8, 9, 32, 33, 34])
  (.exit 0 [2, 6, 8, 9])) (sg c12S1)))
noncomputable def c12S2 (_ : Unit) : Cmd := (.cond (.tmp 74)
  (.ops [
  ⟨some 75, .fieldAddr 27 (.tmp 9) 1, 0, none⟩,
  ⟨some 76, .load 25 (.tmp 75), 25, none⟩,
  ⟨some 77, .fieldAddr 72 (.tmp 13) 1, 0, none⟩,
  ⟨some 78, .load 36 (.tmp 77), 36, none⟩,
  ⟨some 79, .buildSlice 25 1 #[(0, (.tmp 78))], 25, none⟩,
  ⟨some 80, .call ⟨.builtin .append, #[(.tmp 76), (.tmp 79)], #[25, 25]⟩, 25, none⟩,
  ⟨some 81, .fieldAddr 27 (.tmp 9) 1, 0, none⟩,
  ⟨none, .store 25 (.tmp 81) (.tmp 80), 0, none⟩] [2, 6, 8, 9, 12, 13])
  (.skip [2, 6, 8, 9, 12, 13]))
noncomputable def c12S3 (_ : Unit) : Cmd := (.cond (.tmp 98)
  (.exit 5 [2, 6, 8, 9, 12, 13, 85, 86, 87])
  (.skip [2, 6, 8, 9, 12, 13, 14, 15, 85, 86, 87]))
noncomputable def c12S4 (_ : Unit) : Cmd := (.seq (.ops [
 ⟨some 106, .move (.tmp 17), 4, none⟩] [2, 6, 8, 9, 12, 13, 14, 16, 85, 86, 87, 106])
 (.cond (.tmp 106)
  (.ops [
  ⟨some 107, .move (.tmp 8), 60, none⟩,
  ⟨some 108, .fieldAddr 72 (.tmp 13) 0, 0, none⟩,
  ⟨some 109, .fieldAddr 70 (.tmp 108) 0, 0, none⟩,
  ⟨some 110, .load 63 (.tmp 109), 63, none⟩,
  ⟨some 111, .move (.tmp 14), 3, none⟩,
  ⟨some 112, .convert 3 76 (.tmp 111), 76, none⟩,
  ⟨some 113, .binOp .shl 63 (.const (.int .u32 1)) (.tmp 112) 76, 63, none⟩,
  ⟨some 114, .binOp .or 63 (.tmp 110) (.tmp 113) 63, 63, none⟩,
  ⟨some 115, .move (.tmp 16), 36, none⟩,
  ⟨some 116, .call ⟨.value (.func 31), #[(.tmp 107), (.tmp 114), (.tmp 115)], #[60, 63, 36]⟩, 0, none⟩] [2, 6, 8, 9, 12, 13, 85, 86, 87])
  (.skip [2, 6, 8, 9, 12, 13, 85, 86, 87])))
noncomputable def c12S5 (_ : Unit) : Cmd := (.seq (.ops [
 ⟨some 100, .fieldAddr 72 (.tmp 13) 1, 0, none⟩,
 ⟨some 101, .load 36 (.tmp 100), 36, none⟩,
 ⟨some 102, .load 58 (.tmp 15), 58, none⟩,
 ⟨some 103, .call ⟨.value (.func 33), #[(.tmp 101), (.tmp 102)], #[36, 58]⟩, 74, none⟩,
 ⟨some 99, .move (.tmp 103), 74, none⟩,
 ⟨some 104, .extract (.tmp 99) 0, 36, none⟩,
 ⟨some 105, .extract (.tmp 99) 1, 4, none⟩,
 ⟨some 16, .assign (.tmp 104), 36, none⟩,
 ⟨some 17, .assign (.tmp 105), 4, none⟩] [2, 6, 8, 9, 12, 13, 14, 16, 17, 85, 86, 87]) (sg c12S4))
noncomputable def c12S6 (_ : Unit) : Cmd := (.ops [
 ⟨some 117, .binOp .add 3 (.tmp 87) (.const (.int .i64 1)) 3, 3, none⟩,
 ⟨some 87, .move (.tmp 117), 3, none⟩] [2, 6, 8, 9, 12, 13, 85, 86, 87])
noncomputable def c12S7 (_ : Unit) : Cmd := (.seq (.block 5 (.seq (.ops [
 ⟨some 89, .move (.tmp 87), 3, none⟩,
 ⟨some 90, .indexAddr 22 (.tmp 85) (.tmp 87), 0, none⟩,
 ⟨some 91, .load 58 (.tmp 90), 58, none⟩,
 ⟨some 15, .alloc 58, 0, none⟩,
 ⟨some 14, .assign (.tmp 89), 3, none⟩,
 ⟨none, .store 58 (.tmp 15) (.tmp 91), 0, none⟩] [2, 6, 8, 9, 12, 13, 14, 15, 85, 86, 87])
 (.seq (.seq (.ops [
 ⟨some 92, .move (.tmp 8), 60, none⟩,
 ⟨some 93, .fieldAddr 72 (.tmp 13) 0, 0, none⟩,
 ⟨some 94, .fieldAddr 70 (.tmp 93) 0, 0, none⟩,
 ⟨some 95, .load 63 (.tmp 94), 63, none⟩,
 ⟨some 96, .move (.tmp 14), 3, none⟩,
 ⟨some 97, .call ⟨.value (.func 32), #[(.tmp 92), (.tmp 95), (.tmp 96)], #[60, 63, 3]⟩, 4, none⟩,
 ⟨some 98, .unOp .not 4 (.tmp 97), 4, none⟩] [2, 6, 8, 9, 12, 13, 14, 15, 85, 86, 87, 98]) (sg c12S3)) (sg c12S5)))) (sg c12S6))
noncomputable def c12L1 (_ : Unit) : Cmd := (.seq (.ops [
 ⟨some 88, .binOp .lss 3 (.tmp 87) (.tmp 86) 3, 0, none⟩] [2, 6, 8, 9, 12, 13, 85, 86, 87, 88])
 (.seq (.cond (.tmp 88)
  (.skip [2, 6, 8, 9, 12, 13, 85, 86, 87])
  (.exit 4 [2, 6, 8, 9, 12])) (sg c12S7)))
noncomputable def c12S8 (_ : Unit) : Cmd := (.seq (.ops [
 ⟨some 82, .move (.tmp 8), 60, none⟩,
 ⟨some 83, .nilCheck (.tmp 82), 0, none⟩,
 ⟨some 84, .fieldAddr 68 (.tmp 83) 0, 0, none⟩,
 ⟨some 85, .load 22 (.tmp 84), 22, none⟩,
 ⟨some 86, .call ⟨.builtin .len, #[(.tmp 85)], #[22]⟩, 3, none⟩,
 ⟨some 87, .move (.const (.int .i64 0)), 3, none⟩] [2, 6, 8, 9, 12, 13, 85, 86, 87])
 (.block 4 (.loop (sg c12L1))))
noncomputable def c12S9 (_ : Unit) : Cmd := (.seq (.ops [
 ⟨some 59, .move (.tmp 8), 60, none⟩,
 ⟨some 60, .nilCheck (.tmp 59), 0, none⟩,
 ⟨some 61, .fieldAddr 68 (.tmp 60) 4, 0, none⟩,
 ⟨some 62, .load 66 (.tmp 61), 66, none⟩,
 ⟨some 63, .move (.tmp 12), 3, none⟩,
 ⟨some 64, .indexAddr 66 (.tmp 62) (.tmp 63), 0, none⟩,
 ⟨some 65, .load 72 (.tmp 64), 72, none⟩,
 ⟨some 13, .alloc 72, 0, none⟩,
 ⟨none, .store 72 (.tmp 13) (.tmp 65), 0, none⟩] [2, 6, 8, 9, 12, 13])
 (.seq (.seq (.draw (drawOps 0 c12code) [2, 6, 8, 9, 12, 13, 74]) (sg c12S2)) (sg c12S8)))
noncomputable def c12S10 (_ : Unit) : Cmd := (.ops [
 ⟨some 49, .move (.tmp 12), 3, none⟩,
 ⟨some 50, .binOp .add 3 (.tmp 49) (.const (.int .i64 1)) 3, 3, none⟩,
 ⟨some 12, .assign (.tmp 50), 3, none⟩] [2, 6, 8, 9, 12])
noncomputable def c12S11 (_ : Unit) : Cmd := (.seq (.block 3 (.seq (.seq (.ops [
 ⟨some 51, .move (.tmp 8), 60, none⟩,
 ⟨some 52, .nilCheck (.tmp 51), 0, none⟩,
 ⟨some 53, .fieldAddr 68 (.tmp 52) 4, 0, none⟩,
 ⟨some 54, .load 66 (.tmp 53), 66, none⟩,
 ⟨some 55, .call ⟨.builtin .len, #[(.tmp 54)], #[66]⟩, 3, none⟩,
 ⟨some 56, .move (.tmp 2), 3, none⟩,
 ⟨some 57, .binOp .gtr 3 (.tmp 55) (.tmp 56) 3, 4, none⟩] [2, 6, 8, 9, 12, 57])
 (.cond (.tmp 57)
  (.seq (.ops [
  ⟨some 58, .build 27 #[], 27, none⟩,
  ⟨none, .store 27 (.tmp 6) (.tmp 58), 0, none⟩,
  ⟨some 7, .assign (.const (.int .i64 35)), 28, none⟩] [6, 7])
  .ret)
  (.skip [2, 6, 8, 9, 12]))) (sg c12S9))) (sg c12S10))
noncomputable def c12L2 (_ : Unit) : Cmd := (.seq (.seq (.ops [
 ⟨some 42, .move (.tmp 12), 3, none⟩,
 ⟨some 43, .move (.tmp 8), 60, none⟩,
 ⟨some 44, .nilCheck (.tmp 43), 0, none⟩,
 ⟨some 45, .fieldAddr 68 (.tmp 44) 4, 0, none⟩,
 ⟨some 46, .load 66 (.tmp 45), 66, none⟩,
 ⟨some 47, .call ⟨.builtin .len, #[(.tmp 46)], #[66]⟩, 3, none⟩,
 ⟨some 48, .binOp .lss 3 (.tmp 42) (.tmp 47) 3, 4, none⟩] [2, 6, 8, 9, 12, 48])
 (.cond (.tmp 48)
  (.skip [2, 6, 8, 9, 12])
  (.exit 2 [2, 6, 8, 9]))) (sg c12S11))
noncomputable def c12S12 (_ : Unit) : Cmd := (.seq (.ops [
 ⟨some 130, .move (.tmp 8), 60, none⟩,
 ⟨some 131, .nilCheck (.tmp 130), 0, none⟩,
 ⟨some 132, .fieldAddr 68 (.tmp 131) 4, 0, none⟩,
 ⟨some 133, .load 66 (.tmp 132), 66, none⟩,
 ⟨some 134, .call ⟨.builtin .len, #[(.tmp 133)], #[66]⟩, 3, none⟩,
 ⟨some 135, .fieldAddr 27 (.tmp 9) 2, 0, none⟩,
 ⟨none, .store 3 (.tmp 135) (.tmp 134), 0, none⟩] [6, 9])
 (.seq (.ops [
 ⟨some 136, .load 27 (.tmp 9), 27, none⟩,
 ⟨none, .store 27 (.tmp 6) (.tmp 136), 0, none⟩,
 ⟨some 7, .assign (.const (.int .i64 0)), 28, none⟩] [6, 7])
 .ret))
noncomputable def c12S13 (_ : Unit) : Cmd := (.seq (.ops [
 ⟨some 126, .fieldAddr 27 (.tmp 9) 1, 0, none⟩,
 ⟨some 127, .load 25 (.tmp 126), 25, none⟩,
 ⟨some 128, .call ⟨.value (.func 18), #[(.tmp 127)], #[25]⟩, 25, none⟩,
 ⟨some 129, .fieldAddr 27 (.tmp 9) 1, 0, none⟩,
 ⟨none, .store 25 (.tmp 129) (.tmp 128), 0, none⟩] [6, 8, 9]) (sg c12S12))
noncomputable def c12S14 (_ : Unit) : Cmd := (.seq (.seq (.ops [
 ⟨some 118, .move (.tmp 8), 60, none⟩,
 ⟨some 119, .nilCheck (.tmp 118), 0, none⟩,
 ⟨some 120, .fieldAddr 68 (.tmp 119) 4, 0, none⟩,
 ⟨some 121, .load 66 (.tmp 120), 66, none⟩,
 ⟨some 122, .call ⟨.builtin .len, #[(.tmp 121)], #[66]⟩, 3, none⟩,
 ⟨some 123, .move (.tmp 2), 3, none⟩,
 ⟨some 124, .binOp .gtr 3 (.tmp 122) (.tmp 123) 3, 4, none⟩] [6, 8, 9, 124])
 (.cond (.tmp 124)
  (.seq (.ops [
  ⟨some 125, .build 27 #[], 27, none⟩,
  ⟨none, .store 27 (.tmp 6) (.tmp 125), 0, none⟩,
  ⟨some 7, .assign (.const (.int .i64 35)), 28, none⟩] [6, 7])
  .ret)
  (.skip [6, 8, 9]))) (sg c12S13))
noncomputable def c12S15 (_ : Unit) : Cmd := (.seq (.seq (.ops [
 ⟨some 12, .assign (.const (.int .i64 0)), 3, none⟩] [2, 6, 8, 9, 12])
 (.block 2 (.loop (sg c12L2)))) (sg c12S14))
noncomputable def c12S16 (_ : Unit) : Cmd := (.seq (.seq (.ops [
 ⟨some 31, .fieldAddr 27 (.tmp 9) 0, 0, none⟩,
 ⟨some 32, .load 25 (.tmp 31), 25, none⟩,
 ⟨some 33, .call ⟨.builtin .len, #[(.tmp 32)], #[25]⟩, 3, none⟩,
 ⟨some 34, .move (.const (.int .i64 0)), 3, none⟩] [2, 6, 8, 9, 32, 33, 34])
 (.block 0 (.loop (sg c12L0)))) (sg c12S15))
noncomputable def c12S17 (_ : Unit) : Cmd := (.seq (.ops [
 ⟨some 28, .move (.tmp 1), 25, none⟩,
 ⟨some 29, .call ⟨.value (.func 18), #[(.tmp 28)], #[25]⟩, 25, none⟩,
 ⟨some 30, .build 27 #[(0, (.tmp 29))], 27, none⟩,
 ⟨some 9, .alloc 27, 0, none⟩,
 ⟨none, .store 27 (.tmp 9) (.tmp 30), 0, none⟩] [2, 6, 8, 9]) (sg c12S16))
noncomputable def c12S18 (_ : Unit) : Cmd := (.seq (.ops [
 ⟨some 25, .fieldAddr 24 (.tmp 3) 2, 0, none⟩,
 ⟨some 26, .load 22 (.tmp 25), 22, none⟩,
 ⟨some 27, .call ⟨.value (.func 30), #[(.tmp 26)], #[22]⟩, 60, none⟩,
 ⟨some 8, .assign (.tmp 27), 60, none⟩] [1, 2, 6, 8]) (sg c12S17))
noncomputable def c12S19 (_ : Unit) : Cmd := (.seq (.ops [
 ⟨some 23, .move (.tmp 2), 3, none⟩,
 ⟨some 24, .call ⟨.builtin .min, #[(.tmp 23), (.const (.int .i64 32768))], #[3, 3]⟩, 3, none⟩,
 ⟨some 2, .assign (.tmp 24), 3, none⟩] [1, 2, 3, 6]) (sg c12S18))
noncomputable def c12 : Cmd := (.seq (.ops [
 ⟨some 3, .box 24 (.tmp 0), 0, none⟩,
 ⟨some 6, .alloc 27, 0, none⟩,
 ⟨some 7, .assign (.const (.int .i64 0)), 28, none⟩] [1, 2, 3, 6])
 (.seq (.seq (.ops [
 ⟨some 18, .fieldAddr 24 (.tmp 3) 2, 0, none⟩,
 ⟨some 19, .load 22 (.tmp 18), 22, none⟩,
 ⟨some 20, .call ⟨.builtin .len, #[(.tmp 19)], #[22]⟩, 3, none⟩,
 ⟨some 21, .binOp .gtr 3 (.tmp 20) (.const (.int .i64 16)) 3, 4, none⟩] [1, 2, 3, 6, 21])
 (.cond (.tmp 21)
  (.seq (.ops [
  ⟨some 22, .build 27 #[], 27, none⟩,
  ⟨none, .store 27 (.tmp 6) (.tmp 22), 0, none⟩,
  ⟨some 7, .assign (.const (.int .i64 34)), 28, none⟩] [6, 7])
  .ret)
  (.skip [1, 2, 3, 6]))) (sg c12S19)))
noncomputable def c12D0 : List (Bool × Ins) := [
 (true, ⟨some 66, .move (.tmp 8), 60, none⟩),
 (true, ⟨some 67, .nilCheck (.tmp 66), 0, none⟩),
 (true, ⟨some 68, .fieldAddr 68 (.tmp 67) 2, 0, none⟩),
 (false, ⟨some 69, .load 63 (.tmp 68), 63, none⟩),
 (true, ⟨some 70, .fieldAddr 72 (.tmp 13) 0, 0, none⟩),
 (true, ⟨some 71, .fieldAddr 70 (.tmp 70) 0, 0, none⟩),
 (false, ⟨some 72, .load 63 (.tmp 71), 63, none⟩),
 (true, ⟨some 73, .binOp .andNot 63 (.tmp 69) (.tmp 72) 63, 63, none⟩),
 (true, ⟨some 74, .binOp .eql 63 (.tmp 73) (.const (.int .u32 0)) 63, 4, none⟩)]
theorem c12draw0 {L : List Nat} {ρ : Env} {w : World} {Q : Post} (h : DL Try.prog c12D0 L ρ w.drew Q) : drawW Try.prog (drawOps 0 c12code) L ρ w Q :=
  drawW_still [true, true, true, false, true, true, false, true, true] c12D0 (by kernel_rfl) (by kernel_rfl) (by kernel_rfl) h
set_option maxRecDepth 100000 in
theorem ent12 (a0 a1 a2 : Value) (w : World) (K : Value → World → Prop) (h : W Try.prog c12 [(0, a0), (1, a1), (2, a2)] w (finQ Try.prog [.cell 6 27, .tmp 7] K)) : Ret Try.prog 12 [a0, a1, a2] w K :=
  Ret_of_W (code := c12code) Try.func12 (by kernel_rfl) (by kernel_rfl) (of_decide_eq_true (by kernel_rfl)) h
@[go_sem] theorem go12 : goFunc Try.prog 12 = true := by kernel_rfl
/- Function 13: annalistref15.Same -/
noncomputable def c13code : Code := match Try.f13.body with | some c => c | none => .skip
noncomputable def c13S0 (_ : Unit) : Cmd := .ret
noncomputable def c13 : Cmd := (.seq (.ops [
 ⟨some 2, .box 27 (.tmp 0), 0, none⟩,
 ⟨some 3, .box 27 (.tmp 1), 0, none⟩,
 ⟨some 4, .assign (.const (.bool false)), 4, none⟩] [2, 3])
 (.seq (.ops [
 ⟨some 5, .fieldAddr 27 (.tmp 2) 0, 0, none⟩,
 ⟨some 6, .load 25 (.tmp 5), 25, none⟩,
 ⟨some 7, .fieldAddr 27 (.tmp 3) 0, 0, none⟩,
 ⟨some 8, .load 25 (.tmp 7), 25, none⟩,
 ⟨some 9, .call ⟨.value (.func 17), #[(.tmp 6), (.tmp 8)], #[25, 25]⟩, 4, none⟩,
 ⟨some 10, .move (.tmp 9), 4, none⟩,
 ⟨some 11, .fieldAddr 27 (.tmp 2) 1, 0, (some (10, true))⟩,
 ⟨some 12, .load 25 (.tmp 11), 25, (some (10, true))⟩,
 ⟨some 13, .fieldAddr 27 (.tmp 3) 1, 0, (some (10, true))⟩,
 ⟨some 14, .load 25 (.tmp 13), 25, (some (10, true))⟩,
 ⟨some 15, .call ⟨.value (.func 17), #[(.tmp 12), (.tmp 14)], #[25, 25]⟩, 4, (some (10, true))⟩,
 ⟨some 16, .pick (.tmp 10) (.tmp 15) (.const (.bool false)), 4, none⟩,
 ⟨some 17, .move (.tmp 16), 4, none⟩,
 ⟨some 18, .fieldAddr 27 (.tmp 2) 2, 0, (some (17, true))⟩,
 ⟨some 19, .load 3 (.tmp 18), 3, (some (17, true))⟩,
 ⟨some 20, .fieldAddr 27 (.tmp 3) 2, 0, (some (17, true))⟩,
 ⟨some 21, .load 3 (.tmp 20), 3, (some (17, true))⟩,
 ⟨some 22, .binOp .eql 3 (.tmp 19) (.tmp 21) 3, 4, (some (17, true))⟩,
 ⟨some 23, .pick (.tmp 17) (.tmp 22) (.const (.bool false)), 4, none⟩,
 ⟨some 4, .assign (.tmp 23), 4, none⟩] [4]) (sg c13S0)))
set_option maxRecDepth 100000 in
theorem ent13 (a0 a1 : Value) (w : World) (K : Value → World → Prop) (h : W Try.prog c13 [(0, a0), (1, a1)] w (finQ Try.prog [.tmp 4] K)) : Ret Try.prog 13 [a0, a1] w K :=
  Ret_of_W (code := c13code) Try.func13 (by kernel_rfl) (by kernel_rfl) (of_decide_eq_true (by kernel_rfl)) h
@[go_sem] theorem go13 : goFunc Try.prog 13 = true := by kernel_rfl
/- Function 14: annalistlaw15.awake -/
noncomputable def c14code : Code := match Try.f14.body with | some c => c | none => .skip
noncomputable def c14S0 (_ : Unit) : Cmd := .ret
noncomputable def c14S1 (_ : Unit) : Cmd := (.seq (.ops [
 ⟨some 19, .move (.tmp 2), 28, none⟩,
 ⟨some 20, .binOp .eql 28 (.tmp 19) (.const (.int .i64 0)) 28, 4, none⟩,
 ⟨some 21, .move (.tmp 20), 4, none⟩,
 ⟨some 22, .move (.tmp 4), 28, (some (21, true))⟩,
 ⟨some 23, .move (.tmp 2), 28, (some (21, true))⟩,
 ⟨some 24, .binOp .eql 28 (.tmp 22) (.tmp 23) 28, 4, (some (21, true))⟩,
 ⟨some 25, .pick (.tmp 21) (.tmp 24) (.const (.bool false)), 4, none⟩,
 ⟨some 26, .move (.tmp 25), 4, none⟩,
 ⟨some 27, .fieldAddr 27 (.tmp 1) 2, 0, (some (26, true))⟩,
 ⟨some 28, .load 3 (.tmp 27), 3, (some (26, true))⟩,
 ⟨some 29, .binOp .eql 3 (.tmp 28) (.const (.int .i64 4)) 3, 4, (some (26, true))⟩,
 ⟨some 30, .pick (.tmp 26) (.tmp 29) (.const (.bool false)), 4, none⟩,
 ⟨some 31, .move (.tmp 30), 4, none⟩,
 ⟨some 32, .fieldAddr 27 (.tmp 1) 1, 0, (some (31, true))⟩,
 ⟨some 33, .load 25 (.tmp 32), 25, (some (31, true))⟩,
 ⟨some 34, .buildSlice 36 1 #[(0, (.const (.int .i64 1)))], 36, (some (31, true))⟩,
 ⟨some 35, .buildSlice 25 1 #[(0, (.tmp 34))], 25, (some (31, true))⟩,
 ⟨some 36, .call ⟨.value (.func 17), #[(.tmp 33), (.tmp 35)], #[25, 25]⟩, 4, (some (31, true))⟩,
 ⟨some 37, .pick (.tmp 31) (.tmp 36) (.const (.bool false)), 4, none⟩,
 ⟨some 38, .move (.tmp 37), 4, none⟩,
 ⟨some 39, .fieldAddr 27 (.tmp 3) 2, 0, (some (38, true))⟩,
 ⟨some 40, .load 3 (.tmp 39), 3, (some (38, true))⟩,
 ⟨some 41, .binOp .eql 3 (.tmp 40) (.const (.int .i64 2)) 3, 4, (some (38, true))⟩,
 ⟨some 42, .pick (.tmp 38) (.tmp 41) (.const (.bool false)), 4, none⟩,
 ⟨some 43, .move (.tmp 42), 4, none⟩,
 ⟨some 44, .fieldAddr 27 (.tmp 3) 1, 0, (some (43, true))⟩,
 ⟨some 45, .load 25 (.tmp 44), 25, (some (43, true))⟩,
 ⟨some 46, .call ⟨.builtin .len, #[(.tmp 45)], #[25]⟩, 3, (some (43, true))⟩,
 ⟨some 47, .binOp .eql 3 (.tmp 46) (.const (.int .i64 0)) 3, 4, (some (43, true))⟩,
 ⟨some 48, .pick (.tmp 43) (.tmp 47) (.const (.bool false)), 4, none⟩,
 ⟨some 0, .assign (.tmp 48), 4, none⟩] [0]) (sg c14S0))
noncomputable def c14S2 (_ : Unit) : Cmd := (.seq (.ops [
 ⟨some 13, .call ⟨.value (.func 34), #[(.const (.int .i64 2))], #[3]⟩, 24, none⟩,
 ⟨some 14, .buildSlice 36 1 #[(0, (.const (.int .i64 0)))], 36, none⟩,
 ⟨some 15, .buildSlice 25 1 #[(0, (.tmp 14))], 25, none⟩,
 ⟨some 16, .call ⟨.value (.func 12), #[(.tmp 13), (.tmp 15), (.const (.int .i64 9))], #[24, 25, 3]⟩, 29, none⟩,
 ⟨some 12, .move (.tmp 16), 29, none⟩,
 ⟨some 17, .extract (.tmp 12) 0, 27, none⟩,
 ⟨some 18, .extract (.tmp 12) 1, 28, none⟩,
 ⟨some 3, .alloc 27, 0, none⟩,
 ⟨none, .store 27 (.tmp 3) (.tmp 17), 0, none⟩,
 ⟨some 4, .assign (.tmp 18), 28, none⟩] [1, 2, 3, 4]) (sg c14S1))
noncomputable def c14 : Cmd := (.seq (.ops [
 ⟨some 0, .assign (.const (.bool false)), 4, none⟩] [])
 (.seq (.ops [
 ⟨some 6, .call ⟨.value (.func 34), #[(.const (.int .i64 0))], #[3]⟩, 24, none⟩,
 ⟨some 7, .buildSlice 36 1 #[(0, (.const (.int .i64 0)))], 36, none⟩,
 ⟨some 8, .buildSlice 25 1 #[(0, (.tmp 7))], 25, none⟩,
 ⟨some 9, .call ⟨.value (.func 12), #[(.tmp 6), (.tmp 8), (.const (.int .i64 9))], #[24, 25, 3]⟩, 29, none⟩,
 ⟨some 5, .move (.tmp 9), 29, none⟩,
 ⟨some 10, .extract (.tmp 5) 0, 27, none⟩,
 ⟨some 11, .extract (.tmp 5) 1, 28, none⟩,
 ⟨some 1, .alloc 27, 0, none⟩,
 ⟨none, .store 27 (.tmp 1) (.tmp 10), 0, none⟩,
 ⟨some 2, .assign (.tmp 11), 28, none⟩] [1, 2]) (sg c14S2)))
set_option maxRecDepth 100000 in
theorem ent14 (w : World) (K : Value → World → Prop) (h : W Try.prog c14 [] w (finQ Try.prog [.tmp 0] K)) : Ret Try.prog 14 [] w K :=
  Ret_of_W (code := c14code) Try.func14 (by kernel_rfl) (by kernel_rfl) (of_decide_eq_true (by kernel_rfl)) h
@[go_sem] theorem go14 : goFunc Try.prog 14 = true := by kernel_rfl
/- Function 15: annalistlaw15.small -/
noncomputable def c15code : Code := match Try.f15.body with | some c => c | none => .skip
noncomputable def c15S0 (_ : Unit) : Cmd := .ret
noncomputable def c15 : Cmd := (.seq (.ops [
 ⟨some 3, .box 24 (.tmp 0), 0, none⟩,
 ⟨some 6, .assign (.const (.bool false)), 4, none⟩] [1, 2, 3])
 (.seq (.ops [
 ⟨some 7, .fieldAddr 24 (.tmp 3) 2, 0, none⟩,
 ⟨some 8, .load 22 (.tmp 7), 22, none⟩,
 ⟨some 9, .call ⟨.builtin .len, #[(.tmp 8)], #[22]⟩, 3, none⟩,
 ⟨some 10, .move (.tmp 2), 3, none⟩,
 ⟨some 11, .binOp .leq 3 (.tmp 9) (.tmp 10) 3, 4, none⟩,
 ⟨some 12, .move (.tmp 11), 4, none⟩,
 ⟨some 13, .load 24 (.tmp 3), 24, (some (12, true))⟩,
 ⟨some 14, .call ⟨.value (.func 35), #[(.tmp 13)], #[24]⟩, 4, (some (12, true))⟩,
 ⟨some 15, .pick (.tmp 12) (.tmp 14) (.const (.bool false)), 4, none⟩,
 ⟨some 16, .move (.tmp 15), 4, none⟩,
 ⟨some 17, .fieldAddr 24 (.tmp 3) 1, 0, (some (16, true))⟩,
 ⟨some 18, .load 3 (.tmp 17), 3, (some (16, true))⟩,
 ⟨some 19, .move (.tmp 1), 25, (some (16, true))⟩,
 ⟨some 20, .call ⟨.value (.func 36), #[(.tmp 18), (.tmp 19)], #[3, 25]⟩, 4, (some (16, true))⟩,
 ⟨some 21, .pick (.tmp 16) (.tmp 20) (.const (.bool false)), 4, none⟩,
 ⟨some 6, .assign (.tmp 21), 4, none⟩] [6]) (sg c15S0)))
set_option maxRecDepth 100000 in
theorem ent15 (a0 a1 a2 : Value) (w : World) (K : Value → World → Prop) (h : W Try.prog c15 [(0, a0), (1, a1), (2, a2)] w (finQ Try.prog [.tmp 6] K)) : Ret Try.prog 15 [a0, a1, a2] w K :=
  Ret_of_W (code := c15code) Try.func15 (by kernel_rfl) (by kernel_rfl) (of_decide_eq_true (by kernel_rfl)) h
@[go_sem] theorem go15 : goFunc Try.prog 15 = true := by kernel_rfl
/- Function 16: annalistref15.Search -/
noncomputable def c16code : Code := match Try.f16.body with | some c => c | none => .skip
noncomputable def c16S0 (_ : Unit) : Cmd := (.cond (.tmp 48)
  (.draw (drawOps 1 c16code) [3, 6, 8, 9, 10])
  (.skip [3, 6, 8, 9, 10]))
noncomputable def c16S1 (_ : Unit) : Cmd := (.ops [
 ⟨some 39, .move (.tmp 10), 3, none⟩,
 ⟨some 40, .binOp .add 3 (.tmp 39) (.const (.int .i64 1)) 3, 3, none⟩,
 ⟨some 10, .assign (.tmp 40), 3, none⟩] [3, 6, 8, 9, 10])
noncomputable def c16S2 (_ : Unit) : Cmd := (.seq (.block 1 (.seq (.draw (drawOps 0 c16code) [3, 6, 8, 9, 10, 48]) (sg c16S0))) (sg c16S1))
noncomputable def c16L0 (_ : Unit) : Cmd := (.seq (.seq (.ops [
 ⟨some 35, .move (.tmp 10), 3, none⟩,
 ⟨some 36, .move (.tmp 8), 79, none⟩,
 ⟨some 37, .call ⟨.builtin .len, #[(.tmp 36)], #[79]⟩, 3, none⟩,
 ⟨some 38, .binOp .lss 3 (.tmp 35) (.tmp 37) 3, 4, none⟩] [3, 6, 8, 9, 10, 38])
 (.cond (.tmp 38)
  (.skip [3, 6, 8, 9, 10])
  (.exit 0 [6, 9]))) (sg c16S2))
noncomputable def c16S3 (_ : Unit) : Cmd := (.seq (.ops [
 ⟨some 63, .load 27 (.tmp 9), 27, none⟩,
 ⟨none, .store 27 (.tmp 6) (.tmp 63), 0, none⟩,
 ⟨some 7, .assign (.const (.int .i64 0)), 3, none⟩] [6, 7])
 .ret)
noncomputable def c16S4 (_ : Unit) : Cmd := (.seq (.ops [
 ⟨some 59, .fieldAddr 27 (.tmp 9) 1, 0, none⟩,
 ⟨some 60, .load 25 (.tmp 59), 25, none⟩,
 ⟨some 61, .call ⟨.value (.func 19), #[(.tmp 60)], #[25]⟩, 25, none⟩,
 ⟨some 62, .fieldAddr 27 (.tmp 9) 1, 0, none⟩,
 ⟨none, .store 25 (.tmp 62) (.tmp 61), 0, none⟩] [6, 9]) (sg c16S3))
noncomputable def c16S5 (_ : Unit) : Cmd := (.seq (.seq (.ops [
 ⟨some 10, .assign (.const (.int .i64 0)), 3, none⟩] [3, 6, 8, 9, 10])
 (.block 0 (.loop (sg c16L0)))) (sg c16S4))
noncomputable def c16S6 (_ : Unit) : Cmd := (.seq (.ops [
 ⟨some 30, .move (.tmp 1), 25, none⟩,
 ⟨some 31, .call ⟨.value (.func 19), #[(.tmp 30)], #[25]⟩, 25, none⟩,
 ⟨some 32, .move (.tmp 8), 79, none⟩,
 ⟨some 33, .call ⟨.builtin .len, #[(.tmp 32)], #[79]⟩, 3, none⟩,
 ⟨some 34, .build 27 #[(0, (.tmp 31)), (2, (.tmp 33))], 27, none⟩,
 ⟨some 9, .alloc 27, 0, none⟩,
 ⟨none, .store 27 (.tmp 9) (.tmp 34), 0, none⟩] [3, 6, 8, 9]) (sg c16S5))
noncomputable def c16S7 (_ : Unit) : Cmd := (.seq (.seq (.ops [
 ⟨some 25, .move (.tmp 8), 79, none⟩,
 ⟨some 26, .call ⟨.builtin .len, #[(.tmp 25)], #[79]⟩, 3, none⟩,
 ⟨some 27, .move (.tmp 2), 3, none⟩,
 ⟨some 28, .binOp .gtr 3 (.tmp 26) (.tmp 27) 3, 4, none⟩] [1, 3, 6, 8, 28])
 (.cond (.tmp 28)
  (.seq (.ops [
  ⟨some 29, .build 27 #[], 27, none⟩,
  ⟨none, .store 27 (.tmp 6) (.tmp 29), 0, none⟩,
  ⟨some 7, .assign (.const (.int .i64 35)), 3, none⟩] [6, 7])
  .ret)
  (.skip [1, 3, 6, 8]))) (sg c16S6))
noncomputable def c16S8 (_ : Unit) : Cmd := (.seq (.ops [
 ⟨some 20, .fieldAddr 24 (.tmp 3) 2, 0, none⟩,
 ⟨some 21, .load 22 (.tmp 20), 22, none⟩,
 ⟨some 22, .move (.tmp 1), 25, none⟩,
 ⟨some 23, .move (.tmp 2), 3, none⟩,
 ⟨some 24, .call ⟨.value (.func 37), #[(.tmp 21), (.tmp 22), (.tmp 23)], #[22, 25, 3]⟩, 79, none⟩,
 ⟨some 8, .assign (.tmp 24), 79, none⟩] [1, 2, 3, 6, 8]) (sg c16S7))
noncomputable def c16S9 (_ : Unit) : Cmd := (.seq (.seq (.ops [
 ⟨some 18, .move (.tmp 2), 3, none⟩,
 ⟨some 19, .binOp .gtr 3 (.tmp 18) (.const (.int .i64 32768)) 3, 4, none⟩] [1, 2, 3, 6, 19])
 (.cond (.tmp 19)
  (.ops [
  ⟨some 2, .assign (.const (.int .i64 32768)), 3, none⟩] [1, 2, 3, 6])
  (.skip [1, 2, 3, 6]))) (sg c16S8))
noncomputable def c16S10 (_ : Unit) : Cmd := (.seq (.seq (.ops [
 ⟨some 16, .move (.tmp 2), 3, none⟩,
 ⟨some 17, .binOp .lss 3 (.tmp 16) (.const (.int .i64 0)) 3, 4, none⟩] [1, 2, 3, 6, 17])
 (.cond (.tmp 17)
  (.ops [
  ⟨some 2, .assign (.const (.int .i64 (-1))), 3, none⟩] [1, 2, 3, 6])
  (.skip [1, 2, 3, 6]))) (sg c16S9))
noncomputable def c16 : Cmd := (.seq (.ops [
 ⟨some 3, .box 24 (.tmp 0), 0, none⟩,
 ⟨some 6, .alloc 27, 0, none⟩,
 ⟨some 7, .assign (.const (.int .i64 0)), 3, none⟩] [1, 2, 3, 6])
 (.seq (.seq (.ops [
 ⟨some 11, .fieldAddr 24 (.tmp 3) 2, 0, none⟩,
 ⟨some 12, .load 22 (.tmp 11), 22, none⟩,
 ⟨some 13, .call ⟨.builtin .len, #[(.tmp 12)], #[22]⟩, 3, none⟩,
 ⟨some 14, .binOp .gtr 3 (.tmp 13) (.const (.int .i64 16)) 3, 4, none⟩] [1, 2, 3, 6, 14])
 (.cond (.tmp 14)
  (.seq (.ops [
  ⟨some 15, .build 27 #[], 27, none⟩,
  ⟨none, .store 27 (.tmp 6) (.tmp 15), 0, none⟩,
  ⟨some 7, .assign (.const (.int .i64 34)), 3, none⟩] [6, 7])
  .ret)
  (.skip [1, 2, 3, 6]))) (sg c16S10)))
noncomputable def c16D0 : List (Nat × Ins) := [
 (0, ⟨some 41, .fieldAddr 24 (.tmp 3) 2, 0, none⟩),
 (0, ⟨some 43, .move (.tmp 8), 79, none⟩),
 (0, ⟨some 44, .move (.tmp 10), 3, none⟩),
 (0, ⟨some 45, .indexAddr 79 (.tmp 43) (.tmp 44), 0, none⟩),
 (0, ⟨some 46, .fieldAddr 83 (.tmp 45) 0, 0, none⟩),
 (1, ⟨some 42, .load 22 (.tmp 41), 22, none⟩),
 (2, ⟨some 47, .load 41 (.tmp 46), 41, none⟩),
 (3, ⟨some 48, .call ⟨.value (.func 38), #[(.tmp 42), (.tmp 47)], #[22, 41]⟩, 4, none⟩)]
theorem c16draw0 {L : List Nat} {ρ : Env} {w : World} {Q : Post} (S : World → Prop) (hS : S w.drew) (h : DG Try.prog S c16D0 L ρ w.drew Q) : drawW Try.prog (drawOps 0 c16code) L ρ w Q :=
  drawW_held [1] [(0, 0), (0, 2), (0, 3), (0, 4), (0, 5), (1, 1), (2, 6), (3, 7)] c16D0 (by kernel_rfl) (by kernel_rfl) (by kernel_rfl) S hS h
noncomputable def c16D1 : List (Nat × Ins) := [
 (0, ⟨some 49, .fieldAddr 27 (.tmp 9) 1, 0, none⟩),
 (0, ⟨some 51, .move (.tmp 8), 79, none⟩),
 (0, ⟨some 52, .move (.tmp 10), 3, none⟩),
 (0, ⟨some 53, .indexAddr 79 (.tmp 51) (.tmp 52), 0, none⟩),
 (0, ⟨some 54, .fieldAddr 83 (.tmp 53) 1, 0, none⟩),
 (1, ⟨some 50, .load 25 (.tmp 49), 25, none⟩),
 (2, ⟨some 55, .load 36 (.tmp 54), 36, none⟩),
 (2, ⟨some 56, .buildSlice 25 1 #[(0, (.tmp 55))], 25, none⟩),
 (3, ⟨some 57, .call ⟨.builtin .append, #[(.tmp 50), (.tmp 56)], #[25, 25]⟩, 25, none⟩),
 (0, ⟨some 58, .fieldAddr 27 (.tmp 9) 1, 0, none⟩),
 (3, ⟨none, .store 25 (.tmp 58) (.tmp 57), 0, none⟩)]
theorem c16draw1 {L : List Nat} {ρ : Env} {w : World} {Q : Post} (S : World → Prop) (hS : S w.drew) (h : DG Try.prog S c16D1 L ρ w.drew Q) : drawW Try.prog (drawOps 1 c16code) L ρ w Q :=
  drawW_held [1] [(0, 0), (0, 2), (0, 3), (0, 4), (0, 5), (1, 1), (2, 6), (2, 7), (3, 8), (0, 9), (3, 10)] c16D1 (by kernel_rfl) (by kernel_rfl) (by kernel_rfl) S hS h
set_option maxRecDepth 100000 in
theorem ent16 (a0 a1 a2 : Value) (w : World) (K : Value → World → Prop) (h : W Try.prog c16 [(0, a0), (1, a1), (2, a2)] w (finQ Try.prog [.cell 6 27, .tmp 7] K)) : Ret Try.prog 16 [a0, a1, a2] w K :=
  Ret_of_W (code := c16code) Try.func16 (by kernel_rfl) (by kernel_rfl) (of_decide_eq_true (by kernel_rfl)) h
@[go_sem] theorem go16 : goFunc Try.prog 16 = true := by kernel_rfl
/- Function 17: annalistref15.States -/
noncomputable def c17code : Code := match Try.f17.body with | some c => c | none => .skip
noncomputable def c17S0 (_ : Unit) : Cmd := (.cond (.tmp 26)
  (.seq (.ops [
  ⟨some 4, .assign (.const (.bool false)), 4, none⟩] [4])
  .ret)
  (.skip [0, 1, 5]))
noncomputable def c17S1 (_ : Unit) : Cmd := (.ops [
 ⟨some 15, .move (.tmp 5), 3, none⟩,
 ⟨some 16, .binOp .add 3 (.tmp 15) (.const (.int .i64 1)) 3, 3, none⟩,
 ⟨some 5, .assign (.tmp 16), 3, none⟩] [0, 1, 5])
noncomputable def c17S2 (_ : Unit) : Cmd := (.seq (.block 1 (.seq (.draw (drawOps 0 c17code) [0, 1, 5, 26]) (sg c17S0))) (sg c17S1))
noncomputable def c17L0 (_ : Unit) : Cmd := (.seq (.seq (.ops [
 ⟨some 11, .move (.tmp 5), 3, none⟩,
 ⟨some 12, .move (.tmp 0), 25, none⟩,
 ⟨some 13, .call ⟨.builtin .len, #[(.tmp 12)], #[25]⟩, 3, none⟩,
 ⟨some 14, .binOp .lss 3 (.tmp 11) (.tmp 13) 3, 4, none⟩] [0, 1, 5, 14])
 (.cond (.tmp 14)
  (.skip [0, 1, 5])
  (.exit 0 []))) (sg c17S2))
noncomputable def c17S3 (_ : Unit) : Cmd := (.seq (.ops [
 ⟨some 4, .assign (.const (.bool true)), 4, none⟩] [4])
 .ret)
noncomputable def c17S4 (_ : Unit) : Cmd := (.seq (.seq (.ops [
 ⟨some 5, .assign (.const (.int .i64 0)), 3, none⟩] [0, 1, 5])
 (.block 0 (.loop (sg c17L0)))) (sg c17S3))
noncomputable def c17 : Cmd := (.seq (.ops [
 ⟨some 4, .assign (.const (.bool false)), 4, none⟩] [0, 1])
 (.seq (.seq (.ops [
 ⟨some 6, .move (.tmp 0), 25, none⟩,
 ⟨some 7, .call ⟨.builtin .len, #[(.tmp 6)], #[25]⟩, 3, none⟩,
 ⟨some 8, .move (.tmp 1), 25, none⟩,
 ⟨some 9, .call ⟨.builtin .len, #[(.tmp 8)], #[25]⟩, 3, none⟩,
 ⟨some 10, .binOp .neq 3 (.tmp 7) (.tmp 9) 3, 4, none⟩] [0, 1, 10])
 (.cond (.tmp 10)
  (.seq (.ops [
  ⟨some 4, .assign (.const (.bool false)), 4, none⟩] [4])
  .ret)
  (.skip [0, 1]))) (sg c17S4)))
noncomputable def c17D0 : List (Nat × Ins) := [
 (0, ⟨some 17, .move (.tmp 0), 25, none⟩),
 (0, ⟨some 18, .move (.tmp 5), 3, none⟩),
 (0, ⟨some 19, .indexAddr 25 (.tmp 17) (.tmp 18), 0, none⟩),
 (0, ⟨some 21, .move (.tmp 1), 25, none⟩),
 (0, ⟨some 22, .move (.tmp 5), 3, none⟩),
 (0, ⟨some 23, .indexAddr 25 (.tmp 21) (.tmp 22), 0, none⟩),
 (1, ⟨some 20, .load 36 (.tmp 19), 36, none⟩),
 (2, ⟨some 24, .load 36 (.tmp 23), 36, none⟩),
 (3, ⟨some 25, .call ⟨.value (.func 29), #[(.tmp 20), (.tmp 24)], #[36, 36]⟩, 4, none⟩),
 (0, ⟨some 26, .unOp .not 4 (.tmp 25), 4, none⟩)]
theorem c17draw0 {L : List Nat} {ρ : Env} {w : World} {Q : Post} (S : World → Prop) (hS : S w.drew) (h : DG Try.prog S c17D0 L ρ w.drew Q) : drawW Try.prog (drawOps 0 c17code) L ρ w Q :=
  drawW_held [3] [(0, 0), (0, 1), (0, 2), (0, 4), (0, 5), (0, 6), (1, 3), (2, 7), (3, 8), (0, 9)] c17D0 (by kernel_rfl) (by kernel_rfl) (by kernel_rfl) S hS h
set_option maxRecDepth 100000 in
theorem ent17 (a0 a1 : Value) (w : World) (K : Value → World → Prop) (h : W Try.prog c17 [(0, a0), (1, a1)] w (finQ Try.prog [.tmp 4] K)) : Ret Try.prog 17 [a0, a1] w K :=
  Ret_of_W (code := c17code) Try.func17 (by kernel_rfl) (by kernel_rfl) (of_decide_eq_true (by kernel_rfl)) h
@[go_sem] theorem go17 : goFunc Try.prog 17 = true := by kernel_rfl
/- Function 18: lin.Unique -/
noncomputable def c18code : Code := match Try.f18.body with | some c => c | none => .skip
noncomputable def c18S0 (_ : Unit) : Cmd := (.ops [
 ⟨some 20, .binOp .add 3 (.tmp 11) (.const (.int .i64 1)) 3, 3, none⟩,
 ⟨some 11, .move (.tmp 20), 3, none⟩] [3, 9, 10, 11])
noncomputable def c18S1 (_ : Unit) : Cmd := (.seq (.block 1 (.seq (.ops [
 ⟨some 13, .indexAddr 25 (.tmp 9) (.tmp 11), 0, none⟩,
 ⟨some 14, .load 36 (.tmp 13), 36, none⟩,
 ⟨some 5, .assign (.tmp 14), 36, none⟩] [3, 5, 9, 10, 11])
 (.ops [
 ⟨some 15, .move (.tmp 3), 25, none⟩,
 ⟨some 16, .move (.tmp 5), 36, none⟩,
 ⟨some 17, .call ⟨.value (.func 39), #[(.tmp 16)], #[36]⟩, 36, none⟩,
 ⟨some 18, .buildSlice 25 1 #[(0, (.tmp 17))], 25, none⟩,
 ⟨some 19, .call ⟨.builtin .append, #[(.tmp 15), (.tmp 18)], #[25, 25]⟩, 25, none⟩,
 ⟨some 3, .assign (.tmp 19), 25, none⟩] [3, 9, 10, 11]))) (sg c18S0))
noncomputable def c18L0 (_ : Unit) : Cmd := (.seq (.ops [
 ⟨some 12, .binOp .lss 3 (.tmp 11) (.tmp 10) 3, 0, none⟩] [3, 9, 10, 11, 12])
 (.seq (.cond (.tmp 12)
  (.skip [3, 9, 10, 11])
  (.exit 0 [3])) (sg c18S1)))
noncomputable def c18S2 (_ : Unit) : Cmd := .ret
noncomputable def c18S3 (_ : Unit) : Cmd := (.seq (.ops [
 ⟨some 23, .move (.tmp 3), 25, none⟩,
 ⟨some 24, .call ⟨.value (.func 44), #[(.tmp 23), (.func 45)], #[25, 56]⟩, 25, none⟩,
 ⟨some 2, .assign (.tmp 24), 25, none⟩] [2]) (sg c18S2))
noncomputable def c18S4 (_ : Unit) : Cmd := (.seq (.ops [
 ⟨some 21, .move (.tmp 3), 25, none⟩,
 ⟨some 22, .call ⟨.value (.func 40), #[(.tmp 21), (.func 41)], #[25, 88]⟩, 0, none⟩] [3]) (sg c18S3))
noncomputable def c18 : Cmd := (.seq (.ops [
 ⟨some 2, .assign (.const (.slice none 0 0)), 25, none⟩] [0])
 (.seq (.ops [
 ⟨some 6, .move (.tmp 0), 25, none⟩,
 ⟨some 7, .call ⟨.builtin .len, #[(.tmp 6)], #[25]⟩, 3, none⟩,
 ⟨some 8, .makeSlice 25 (.const (.int .i64 0)) (.tmp 7), 25, none⟩,
 ⟨some 3, .assign (.tmp 8), 25, none⟩] [0, 3])
 (.seq (.seq (.ops [
 ⟨some 9, .move (.tmp 0), 25, none⟩,
 ⟨some 10, .call ⟨.builtin .len, #[(.tmp 9)], #[25]⟩, 3, none⟩,
 ⟨some 11, .move (.const (.int .i64 0)), 3, none⟩] [3, 9, 10, 11])
 (.block 0 (.loop (sg c18L0)))) (sg c18S4))))
set_option maxRecDepth 100000 in
theorem ent18 (a0 : Value) (w : World) (K : Value → World → Prop) (h : W Try.prog c18 [(0, a0)] w (finQ Try.prog [.tmp 2] K)) : Ret Try.prog 18 [a0] w K :=
  Ret_of_W (code := c18code) Try.func18 (by kernel_rfl) (by kernel_rfl) (of_decide_eq_true (by kernel_rfl)) h
@[go_sem] theorem go18 : goFunc Try.prog 18 = true := by kernel_rfl
/- Function 19: annalistref15.Sorted -/
noncomputable def c19code : Code := match Try.f19.body with | some c => c | none => .skip
noncomputable def c19S0 (_ : Unit) : Cmd := (.seq (.ops [
 ⟨some 33, .move (.tmp 7), 4, none⟩,
 ⟨some 34, .move (.tmp 33), 4, none⟩,
 ⟨some 35, .move (.tmp 9), 9, (some (34, false))⟩,
 ⟨some 36, .move (.tmp 5), 9, (some (34, false))⟩,
 ⟨some 37, .binOp .eql 9 (.tmp 35) (.tmp 36) 9, 4, (some (34, false))⟩,
 ⟨some 38, .pick (.tmp 34) (.const (.bool true)) (.tmp 37), 4, none⟩,
 ⟨some 7, .assign (.tmp 38), 4, none⟩] [0, 3, 4, 5, 6, 7, 8, 9])
 (.seq (.ops [
 ⟨some 39, .move (.tmp 9), 9, none⟩,
 ⟨some 40, .move (.tmp 5), 9, none⟩,
 ⟨some 41, .binOp .lss 9 (.tmp 39) (.tmp 40) 9, 4, none⟩] [0, 3, 4, 5, 6, 7, 8, 41])
 (.cond (.tmp 41)
  (.ops [
  ⟨some 42, .move (.tmp 6), 3, none⟩,
  ⟨some 43, .binOp .add 3 (.tmp 42) (.const (.int .i64 1)) 3, 3, none⟩,
  ⟨some 6, .assign (.tmp 43), 3, none⟩] [0, 3, 4, 5, 6, 7, 8])
  (.skip [0, 3, 4, 5, 6, 7, 8]))))
noncomputable def c19S1 (_ : Unit) : Cmd := (.ops [
 ⟨some 26, .move (.tmp 8), 3, none⟩,
 ⟨some 27, .binOp .add 3 (.tmp 26) (.const (.int .i64 1)) 3, 3, none⟩,
 ⟨some 8, .assign (.tmp 27), 3, none⟩] [0, 3, 4, 5, 6, 7, 8])
noncomputable def c19S2 (_ : Unit) : Cmd := (.seq (.block 3 (.seq (.ops [
 ⟨some 28, .move (.tmp 3), 25, none⟩,
 ⟨some 29, .move (.tmp 8), 3, none⟩,
 ⟨some 30, .indexAddr 25 (.tmp 28) (.tmp 29), 0, none⟩,
 ⟨some 31, .load 36 (.tmp 30), 36, none⟩,
 ⟨some 32, .call ⟨.value (.func 47), #[(.tmp 31)], #[36]⟩, 9, none⟩,
 ⟨some 9, .assign (.tmp 32), 9, none⟩] [0, 3, 4, 5, 6, 7, 8, 9]) (sg c19S0))) (sg c19S1))
noncomputable def c19L0 (_ : Unit) : Cmd := (.seq (.seq (.ops [
 ⟨some 22, .move (.tmp 8), 3, none⟩,
 ⟨some 23, .move (.tmp 3), 25, none⟩,
 ⟨some 24, .call ⟨.builtin .len, #[(.tmp 23)], #[25]⟩, 3, none⟩,
 ⟨some 25, .binOp .lss 3 (.tmp 22) (.tmp 24) 3, 4, none⟩] [0, 3, 4, 5, 6, 7, 8, 25])
 (.cond (.tmp 25)
  (.skip [0, 3, 4, 5, 6, 7, 8])
  (.exit 2 [0, 3, 4, 6, 7]))) (sg c19S2))
noncomputable def c19S3 (_ : Unit) : Cmd := (.ops [
  ⟨some 58, .move (.tmp 10), 25, none⟩,
  ⟨some 59, .move (.tmp 3), 25, none⟩,
  ⟨some 60, .move (.tmp 6), 3, none⟩,
  ⟨some 61, .slice 25 (.tmp 59) (some (.tmp 60)) none none, 25, none⟩,
  ⟨some 62, .call ⟨.builtin .append, #[(.tmp 58), (.tmp 61)], #[25, 25]⟩, 25, none⟩,
  ⟨some 3, .assign (.tmp 62), 25, none⟩] [0, 3, 4])
noncomputable def c19S4 (_ : Unit) : Cmd := (.seq (.ops [
  ⟨some 51, .move (.tmp 10), 25, none⟩,
  ⟨some 52, .move (.tmp 0), 25, none⟩,
  ⟨some 53, .move (.tmp 4), 3, none⟩,
  ⟨some 54, .indexAddr 25 (.tmp 52) (.tmp 53), 0, none⟩,
  ⟨some 55, .load 36 (.tmp 54), 36, none⟩,
  ⟨some 56, .buildSlice 25 1 #[(0, (.tmp 55))], 25, none⟩,
  ⟨some 57, .call ⟨.builtin .append, #[(.tmp 51), (.tmp 56)], #[25, 25]⟩, 25, none⟩,
  ⟨some 10, .assign (.tmp 57), 25, none⟩] [0, 3, 4, 6, 10]) (sg c19S3))
noncomputable def c19S5 (_ : Unit) : Cmd := (.seq (.ops [
 ⟨some 44, .move (.tmp 7), 4, none⟩,
 ⟨some 45, .unOp .not 4 (.tmp 44), 4, none⟩] [0, 3, 4, 6, 45])
 (.cond (.tmp 45)
  (.seq (.ops [
  ⟨some 46, .buildSlice 25 0 #[], 25, none⟩,
  ⟨some 47, .move (.tmp 3), 25, none⟩,
  ⟨some 48, .move (.tmp 6), 3, none⟩,
  ⟨some 49, .slice 25 (.tmp 47) none (some (.tmp 48)) none, 25, none⟩,
  ⟨some 50, .call ⟨.builtin .append, #[(.tmp 46), (.tmp 49)], #[25, 25]⟩, 25, none⟩,
  ⟨some 10, .assign (.tmp 50), 25, none⟩] [0, 3, 4, 6, 10]) (sg c19S4))
  (.skip [0, 3, 4])))
noncomputable def c19S6 (_ : Unit) : Cmd := (.seq (.ops [
 ⟨some 6, .assign (.const (.int .i64 0)), 3, none⟩,
 ⟨some 7, .assign (.const (.bool false)), 4, none⟩] [0, 3, 4, 5, 6, 7])
 (.seq (.seq (.ops [
 ⟨some 8, .assign (.const (.int .i64 0)), 3, none⟩] [0, 3, 4, 5, 6, 7, 8])
 (.block 2 (.loop (sg c19L0)))) (sg c19S5)))
noncomputable def c19S7 (_ : Unit) : Cmd := (.ops [
 ⟨some 15, .move (.tmp 4), 3, none⟩,
 ⟨some 16, .binOp .add 3 (.tmp 15) (.const (.int .i64 1)) 3, 3, none⟩,
 ⟨some 4, .assign (.tmp 16), 3, none⟩] [0, 3, 4])
noncomputable def c19S8 (_ : Unit) : Cmd := (.seq (.block 1 (.seq (.ops [
 ⟨some 17, .move (.tmp 0), 25, none⟩,
 ⟨some 18, .move (.tmp 4), 3, none⟩,
 ⟨some 19, .indexAddr 25 (.tmp 17) (.tmp 18), 0, none⟩,
 ⟨some 20, .load 36 (.tmp 19), 36, none⟩,
 ⟨some 21, .call ⟨.value (.func 47), #[(.tmp 20)], #[36]⟩, 9, none⟩,
 ⟨some 5, .assign (.tmp 21), 9, none⟩] [0, 3, 4, 5]) (sg c19S6))) (sg c19S7))
noncomputable def c19L1 (_ : Unit) : Cmd := (.seq (.seq (.ops [
 ⟨some 11, .move (.tmp 4), 3, none⟩,
 ⟨some 12, .move (.tmp 0), 25, none⟩,
 ⟨some 13, .call ⟨.builtin .len, #[(.tmp 12)], #[25]⟩, 3, none⟩,
 ⟨some 14, .binOp .lss 3 (.tmp 11) (.tmp 13) 3, 4, none⟩] [0, 3, 4, 14])
 (.cond (.tmp 14)
  (.skip [0, 3, 4])
  (.exit 0 [3]))) (sg c19S8))
noncomputable def c19S9 (_ : Unit) : Cmd := (.seq (.ops [
 ⟨some 63, .move (.tmp 3), 25, none⟩,
 ⟨some 2, .assign (.tmp 63), 25, none⟩] [2])
 .ret)
noncomputable def c19 : Cmd := (.seq (.ops [
 ⟨some 2, .assign (.const (.slice none 0 0)), 25, none⟩] [0])
 (.seq (.ops [
 ⟨some 3, .assign (.const (.slice none 0 0)), 25, none⟩] [0, 3])
 (.seq (.seq (.ops [
 ⟨some 4, .assign (.const (.int .i64 0)), 3, none⟩] [0, 3, 4])
 (.block 0 (.loop (sg c19L1)))) (sg c19S9))))
set_option maxRecDepth 100000 in
theorem ent19 (a0 : Value) (w : World) (K : Value → World → Prop) (h : W Try.prog c19 [(0, a0)] w (finQ Try.prog [.tmp 2] K)) : Ret Try.prog 19 [a0] w K :=
  Ret_of_W (code := c19code) Try.func19 (by kernel_rfl) (by kernel_rfl) (of_decide_eq_true (by kernel_rfl)) h
@[go_sem] theorem go19 : goFunc Try.prog 19 = true := by kernel_rfl
/- Function 20: annalistref15.Orders -/
noncomputable def c20code : Code := match Try.f20.body with | some c => c | none => .skip
noncomputable def c20S0 (_ : Unit) : Cmd := (.cond (.tmp 14)
  (.ops [
  ⟨some 15, .move (.tmp 7), 25, none⟩,
  ⟨some 16, .move (.tmp 2), 36, none⟩,
  ⟨some 17, .buildSlice 25 1 #[(0, (.tmp 16))], 25, none⟩,
  ⟨some 18, .call ⟨.builtin .append, #[(.tmp 15), (.tmp 17)], #[25, 25]⟩, 25, none⟩,
  ⟨some 7, .assign (.tmp 18), 25, none⟩] [0, 1, 2, 7])
  (.skip [0, 1, 2, 7]))
noncomputable def c20S1 (_ : Unit) : Cmd := (.cond (.tmp 29)
  (.exit 1 [0, 1, 2, 7, 8])
  (.skip [0, 1, 2, 7, 8]))
noncomputable def c20S2 (_ : Unit) : Cmd := (.seq (.ops [
  ⟨some 43, .move (.tmp 11), 41, none⟩,
  ⟨some 44, .move (.tmp 8), 3, none⟩,
  ⟨some 45, .indexAddr 41 (.tmp 43) (.tmp 44), 0, none⟩,
  ⟨none, .store 4 (.tmp 45) (.const (.bool true)), 0, none⟩] [0, 1, 2, 7, 8, 9, 11])
  (.ops [
  ⟨some 46, .move (.tmp 7), 25, none⟩,
  ⟨some 47, .move (.tmp 0), 22, none⟩,
  ⟨some 48, .move (.tmp 11), 41, none⟩,
  ⟨some 49, .move (.tmp 9), 36, none⟩,
  ⟨some 50, .call ⟨.value (.func 20), #[(.tmp 47), (.tmp 48), (.tmp 49)], #[22, 41, 36]⟩, 25, none⟩,
  ⟨some 51, .call ⟨.builtin .append, #[(.tmp 46), (.tmp 50)], #[25, 25]⟩, 25, none⟩,
  ⟨some 7, .assign (.tmp 51), 25, none⟩] [0, 1, 2, 7, 8]))
noncomputable def c20S3 (_ : Unit) : Cmd := (.seq (.ops [
 ⟨some 39, .move (.tmp 10), 4, none⟩] [0, 1, 2, 7, 8, 9, 39])
 (.cond (.tmp 39)
  (.seq (.ops [
  ⟨some 40, .buildSlice 41 0 #[], 41, none⟩,
  ⟨some 41, .move (.tmp 1), 41, none⟩,
  ⟨some 42, .call ⟨.builtin .append, #[(.tmp 40), (.tmp 41)], #[41, 41]⟩, 41, none⟩,
  ⟨some 11, .assign (.tmp 42), 41, none⟩] [0, 1, 2, 7, 8, 9, 11]) (sg c20S2))
  (.skip [0, 1, 2, 7, 8])))
noncomputable def c20S4 (_ : Unit) : Cmd := (.seq (.ops [
 ⟨some 31, .move (.tmp 2), 36, none⟩,
 ⟨some 32, .move (.tmp 0), 22, none⟩,
 ⟨some 33, .move (.tmp 8), 3, none⟩,
 ⟨some 34, .indexAddr 22 (.tmp 32) (.tmp 33), 0, none⟩,
 ⟨some 35, .load 58 (.tmp 34), 58, none⟩,
 ⟨some 36, .call ⟨.value (.func 49), #[(.tmp 31), (.tmp 35)], #[36, 58]⟩, 74, none⟩,
 ⟨some 30, .move (.tmp 36), 74, none⟩,
 ⟨some 37, .extract (.tmp 30) 0, 36, none⟩,
 ⟨some 38, .extract (.tmp 30) 1, 4, none⟩,
 ⟨some 9, .assign (.tmp 37), 36, none⟩,
 ⟨some 10, .assign (.tmp 38), 4, none⟩] [0, 1, 2, 7, 8, 9, 10]) (sg c20S3))
noncomputable def c20S5 (_ : Unit) : Cmd := (.ops [
 ⟨some 23, .move (.tmp 8), 3, none⟩,
 ⟨some 24, .binOp .add 3 (.tmp 23) (.const (.int .i64 1)) 3, 3, none⟩,
 ⟨some 8, .assign (.tmp 24), 3, none⟩] [0, 1, 2, 7, 8])
noncomputable def c20S6 (_ : Unit) : Cmd := (.seq (.block 1 (.seq (.seq (.ops [
 ⟨some 25, .move (.tmp 0), 22, none⟩,
 ⟨some 26, .move (.tmp 1), 41, none⟩,
 ⟨some 27, .move (.tmp 8), 3, none⟩,
 ⟨some 28, .call ⟨.value (.func 48), #[(.tmp 25), (.tmp 26), (.tmp 27)], #[22, 41, 3]⟩, 4, none⟩,
 ⟨some 29, .unOp .not 4 (.tmp 28), 4, none⟩] [0, 1, 2, 7, 8, 29]) (sg c20S1)) (sg c20S4))) (sg c20S5))
noncomputable def c20L0 (_ : Unit) : Cmd := (.seq (.seq (.ops [
 ⟨some 19, .move (.tmp 8), 3, none⟩,
 ⟨some 20, .move (.tmp 0), 22, none⟩,
 ⟨some 21, .call ⟨.builtin .len, #[(.tmp 20)], #[22]⟩, 3, none⟩,
 ⟨some 22, .binOp .lss 3 (.tmp 19) (.tmp 21) 3, 4, none⟩] [0, 1, 2, 7, 8, 22])
 (.cond (.tmp 22)
  (.skip [0, 1, 2, 7, 8])
  (.exit 0 [7]))) (sg c20S6))
noncomputable def c20S7 (_ : Unit) : Cmd := (.seq (.ops [
 ⟨some 52, .move (.tmp 7), 25, none⟩,
 ⟨some 6, .assign (.tmp 52), 25, none⟩] [6])
 .ret)
noncomputable def c20S8 (_ : Unit) : Cmd := (.seq (.seq (.ops [
 ⟨some 8, .assign (.const (.int .i64 0)), 3, none⟩] [0, 1, 2, 7, 8])
 (.block 0 (.loop (sg c20L0)))) (sg c20S7))
noncomputable def c20 : Cmd := (.seq (.ops [
 ⟨some 6, .assign (.const (.slice none 0 0)), 25, none⟩] [0, 1, 2])
 (.seq (.ops [
 ⟨some 7, .assign (.const (.slice none 0 0)), 25, none⟩] [0, 1, 2, 7])
 (.seq (.seq (.ops [
 ⟨some 12, .move (.tmp 0), 22, none⟩,
 ⟨some 13, .move (.tmp 1), 41, none⟩,
 ⟨some 14, .call ⟨.value (.func 38), #[(.tmp 12), (.tmp 13)], #[22, 41]⟩, 4, none⟩] [0, 1, 2, 7, 14]) (sg c20S0)) (sg c20S8))))
set_option maxRecDepth 100000 in
theorem ent20 (a0 a1 a2 : Value) (w : World) (K : Value → World → Prop) (h : W Try.prog c20 [(0, a0), (1, a1), (2, a2)] w (finQ Try.prog [.tmp 6] K)) : Ret Try.prog 20 [a0, a1, a2] w K :=
  Ret_of_W (code := c20code) Try.func20 (by kernel_rfl) (by kernel_rfl) (of_decide_eq_true (by kernel_rfl)) h
@[go_sem] theorem go20 : goFunc Try.prog 20 = true := by kernel_rfl
/- Function 21: annalistref12.Check -/
noncomputable def c21code : Code := match Try.f21.body with | some c => c | none => .skip
noncomputable def c21S0 (_ : Unit) : Cmd := (.cond (.tmp 39)
  (.seq (.ops [
  ⟨some 2, .assign (.const (.int .i64 7)), 3, none⟩] [2])
  .ret)
  (.skip [0, 3]))
noncomputable def c21S1 (_ : Unit) : Cmd := (.seq (.draw (drawOps 0 c21code) [0, 3, 39]) (sg c21S0))
noncomputable def c21S2 (_ : Unit) : Cmd := (.seq (.seq (.ops [
 ⟨some 21, .move (.tmp 4), 3, none⟩,
 ⟨some 22, .binOp .neq 3 (.tmp 21) (.const (.int .i64 0)) 3, 4, none⟩] [0, 3, 4, 22])
 (.cond (.tmp 22)
  (.seq (.ops [
  ⟨some 23, .move (.tmp 4), 3, none⟩,
  ⟨some 2, .assign (.tmp 23), 3, none⟩] [2])
  .ret)
  (.skip [0, 3]))) (sg c21S1))
noncomputable def c21S3 (_ : Unit) : Cmd := (.ops [
 ⟨some 14, .move (.tmp 3), 3, none⟩,
 ⟨some 15, .binOp .add 3 (.tmp 14) (.const (.int .i64 1)) 3, 3, none⟩,
 ⟨some 3, .assign (.tmp 15), 3, none⟩] [0, 3])
noncomputable def c21S4 (_ : Unit) : Cmd := (.seq (.block 1 (.seq (.ops [
 ⟨some 16, .move (.tmp 0), 22, none⟩,
 ⟨some 17, .move (.tmp 3), 3, none⟩,
 ⟨some 18, .indexAddr 22 (.tmp 16) (.tmp 17), 0, none⟩,
 ⟨some 19, .load 58 (.tmp 18), 58, none⟩,
 ⟨some 20, .call ⟨.value (.func 50), #[(.tmp 19)], #[58]⟩, 3, none⟩,
 ⟨some 4, .assign (.tmp 20), 3, none⟩] [0, 3, 4]) (sg c21S2))) (sg c21S3))
noncomputable def c21L0 (_ : Unit) : Cmd := (.seq (.seq (.ops [
 ⟨some 10, .move (.tmp 3), 3, none⟩,
 ⟨some 11, .move (.tmp 0), 22, none⟩,
 ⟨some 12, .call ⟨.builtin .len, #[(.tmp 11)], #[22]⟩, 3, none⟩,
 ⟨some 13, .binOp .lss 3 (.tmp 10) (.tmp 12) 3, 4, none⟩] [0, 3, 13])
 (.cond (.tmp 13)
  (.skip [0, 3])
  (.exit 0 [0]))) (sg c21S4))
noncomputable def c21S5 (_ : Unit) : Cmd := (.seq (.ops [
 ⟨some 52, .move (.tmp 6), 3, none⟩,
 ⟨some 53, .binOp .neq 3 (.tmp 52) (.const (.int .i64 0)) 3, 4, none⟩] [0, 5, 6, 53])
 (.cond (.tmp 53)
  (.seq (.ops [
  ⟨some 54, .move (.tmp 6), 3, none⟩,
  ⟨some 2, .assign (.tmp 54), 3, none⟩] [2])
  .ret)
  (.skip [0, 5])))
noncomputable def c21S6 (_ : Unit) : Cmd := (.ops [
 ⟨some 44, .move (.tmp 5), 3, none⟩,
 ⟨some 45, .binOp .add 3 (.tmp 44) (.const (.int .i64 1)) 3, 3, none⟩,
 ⟨some 5, .assign (.tmp 45), 3, none⟩] [0, 5])
noncomputable def c21S7 (_ : Unit) : Cmd := (.seq (.block 3 (.seq (.ops [
 ⟨some 46, .move (.tmp 0), 22, none⟩,
 ⟨some 47, .move (.tmp 0), 22, none⟩,
 ⟨some 48, .move (.tmp 5), 3, none⟩,
 ⟨some 49, .indexAddr 22 (.tmp 47) (.tmp 48), 0, none⟩,
 ⟨some 50, .load 58 (.tmp 49), 58, none⟩,
 ⟨some 51, .call ⟨.value (.func 51), #[(.tmp 46), (.tmp 50)], #[22, 58]⟩, 3, none⟩,
 ⟨some 6, .assign (.tmp 51), 3, none⟩] [0, 5, 6]) (sg c21S5))) (sg c21S6))
noncomputable def c21L1 (_ : Unit) : Cmd := (.seq (.seq (.ops [
 ⟨some 40, .move (.tmp 5), 3, none⟩,
 ⟨some 41, .move (.tmp 0), 22, none⟩,
 ⟨some 42, .call ⟨.builtin .len, #[(.tmp 41)], #[22]⟩, 3, none⟩,
 ⟨some 43, .binOp .lss 3 (.tmp 40) (.tmp 42) 3, 4, none⟩] [0, 5, 43])
 (.cond (.tmp 43)
  (.skip [0, 5])
  (.exit 2 []))) (sg c21S7))
noncomputable def c21S8 (_ : Unit) : Cmd := (.seq (.ops [
 ⟨some 2, .assign (.const (.int .i64 0)), 3, none⟩] [2])
 .ret)
noncomputable def c21S9 (_ : Unit) : Cmd := (.seq (.seq (.ops [
 ⟨some 5, .assign (.const (.int .i64 0)), 3, none⟩] [0, 5])
 (.block 2 (.loop (sg c21L1)))) (sg c21S8))
noncomputable def c21S10 (_ : Unit) : Cmd := (.seq (.seq (.ops [
 ⟨some 3, .assign (.const (.int .i64 0)), 3, none⟩] [0, 3])
 (.block 0 (.loop (sg c21L0)))) (sg c21S9))
noncomputable def c21 : Cmd := (.seq (.ops [
 ⟨some 2, .assign (.const (.int .i64 0)), 3, none⟩] [0])
 (.seq (.seq (.ops [
 ⟨some 7, .move (.tmp 0), 22, none⟩,
 ⟨some 8, .call ⟨.builtin .len, #[(.tmp 7)], #[22]⟩, 3, none⟩,
 ⟨some 9, .binOp .gtr 3 (.tmp 8) (.const (.int .i64 64)) 3, 4, none⟩] [0, 9])
 (.cond (.tmp 9)
  (.seq (.ops [
  ⟨some 2, .assign (.const (.int .i64 34)), 3, none⟩] [2])
  .ret)
  (.skip [0]))) (sg c21S10)))
noncomputable def c21D0 : List (Bool × Ins) := [
 (true, ⟨some 24, .move (.tmp 3), 3, none⟩),
 (true, ⟨some 25, .binOp .gtr 3 (.tmp 24) (.const (.int .i64 0)) 3, 4, none⟩),
 (true, ⟨some 26, .move (.tmp 25), 4, none⟩),
 (true, ⟨some 27, .move (.tmp 0), 22, (some (26, true))⟩),
 (true, ⟨some 28, .move (.tmp 3), 3, (some (26, true))⟩),
 (true, ⟨some 29, .indexAddr 22 (.tmp 27) (.tmp 28), 0, (some (26, true))⟩),
 (true, ⟨some 30, .fieldAddr 58 (.tmp 29) 0, 0, (some (26, true))⟩),
 (false, ⟨some 31, .load 3 (.tmp 30), 3, (some (26, true))⟩),
 (true, ⟨some 32, .move (.tmp 0), 22, (some (26, true))⟩),
 (true, ⟨some 33, .move (.tmp 3), 3, (some (26, true))⟩),
 (true, ⟨some 34, .binOp .sub 3 (.tmp 33) (.const (.int .i64 1)) 3, 3, (some (26, true))⟩),
 (true, ⟨some 35, .indexAddr 22 (.tmp 32) (.tmp 34), 0, (some (26, true))⟩),
 (true, ⟨some 36, .fieldAddr 58 (.tmp 35) 0, 0, (some (26, true))⟩),
 (false, ⟨some 37, .load 3 (.tmp 36), 3, (some (26, true))⟩),
 (true, ⟨some 38, .binOp .leq 3 (.tmp 31) (.tmp 37) 3, 4, (some (26, true))⟩),
 (true, ⟨some 39, .pick (.tmp 26) (.tmp 38) (.const (.bool false)), 4, none⟩)]
theorem c21draw0 {L : List Nat} {ρ : Env} {w : World} {Q : Post} (h : DL Try.prog c21D0 L ρ w.drew Q) : drawW Try.prog (drawOps 0 c21code) L ρ w Q :=
  drawW_still [true, true, true, true, true, true, true, false, true, true, true, true, true, false, true, true] c21D0 (by kernel_rfl) (by kernel_rfl) (by kernel_rfl) h
set_option maxRecDepth 100000 in
theorem ent21 (a0 : Value) (w : World) (K : Value → World → Prop) (h : W Try.prog c21 [(0, a0)] w (finQ Try.prog [.tmp 2] K)) : Ret Try.prog 21 [a0] w K :=
  Ret_of_W (code := c21code) Try.func21 (by kernel_rfl) (by kernel_rfl) (of_decide_eq_true (by kernel_rfl)) h
@[go_sem] theorem go21 : goFunc Try.prog 21 = true := by kernel_rfl
/- Function 22: annalistref14.Objects -/
noncomputable def c22code : Code := match Try.f22.body with | some c => c | none => .skip
noncomputable def c22S0 (_ : Unit) : Cmd := (.ops [
 ⟨some 15, .move (.tmp 8), 3, none⟩,
 ⟨some 16, .binOp .add 3 (.tmp 15) (.const (.int .i64 1)) 3, 3, none⟩,
 ⟨some 8, .assign (.tmp 16), 3, none⟩] [0, 3, 4, 5, 6, 7, 8])
noncomputable def c22S1 (_ : Unit) : Cmd := (.seq (.block 3 (.seq (.ops [
 ⟨some 17, .move (.tmp 5), 4, none⟩,
 ⟨some 18, .unOp .not 4 (.tmp 17), 4, none⟩,
 ⟨some 19, .move (.tmp 18), 4, none⟩,
 ⟨some 20, .move (.tmp 0), 22, (some (19, false))⟩,
 ⟨some 21, .move (.tmp 8), 3, (some (19, false))⟩,
 ⟨some 22, .indexAddr 22 (.tmp 20) (.tmp 21), 0, (some (19, false))⟩,
 ⟨some 23, .fieldAddr 58 (.tmp 22) 2, 0, (some (19, false))⟩,
 ⟨some 24, .load 3 (.tmp 23), 3, (some (19, false))⟩,
 ⟨some 25, .move (.tmp 4), 3, (some (19, false))⟩,
 ⟨some 26, .binOp .gtr 3 (.tmp 24) (.tmp 25) 3, 4, (some (19, false))⟩,
 ⟨some 27, .pick (.tmp 19) (.const (.bool true)) (.tmp 26), 4, none⟩,
 ⟨some 28, .move (.tmp 27), 4, none⟩,
 ⟨some 29, .move (.tmp 7), 4, (some (28, true))⟩,
 ⟨some 30, .unOp .not 4 (.tmp 29), 4, (some (28, true))⟩,
 ⟨some 31, .move (.tmp 30), 4, (some (28, true))⟩,
 ⟨some 32, .move (.tmp 0), 22, (some (31, false))⟩,
 ⟨some 33, .move (.tmp 8), 3, (some (31, false))⟩,
 ⟨some 34, .indexAddr 22 (.tmp 32) (.tmp 33), 0, (some (31, false))⟩,
 ⟨some 35, .fieldAddr 58 (.tmp 34) 2, 0, (some (31, false))⟩,
 ⟨some 36, .load 3 (.tmp 35), 3, (some (31, false))⟩,
 ⟨some 37, .move (.tmp 6), 3, (some (31, false))⟩,
 ⟨some 38, .binOp .lss 3 (.tmp 36) (.tmp 37) 3, 4, (some (31, false))⟩,
 ⟨some 39, .pick (.tmp 31) (.const (.bool true)) (.tmp 38), 4, (some (28, true))⟩,
 ⟨some 40, .pick (.tmp 28) (.tmp 39) (.const (.bool false)), 4, none⟩] [0, 3, 4, 5, 6, 7, 8, 40])
 (.cond (.tmp 40)
  (.ops [
  ⟨some 41, .move (.tmp 0), 22, none⟩,
  ⟨some 42, .move (.tmp 8), 3, none⟩,
  ⟨some 43, .indexAddr 22 (.tmp 41) (.tmp 42), 0, none⟩,
  ⟨some 44, .fieldAddr 58 (.tmp 43) 2, 0, none⟩,
  ⟨some 45, .load 3 (.tmp 44), 3, none⟩,
  ⟨some 6, .assign (.tmp 45), 3, none⟩,
  ⟨some 7, .assign (.const (.bool true)), 4, none⟩] [0, 3, 4, 5, 6, 7, 8])
  (.skip [0, 3, 4, 5, 6, 7, 8])))) (sg c22S0))
noncomputable def c22L0 (_ : Unit) : Cmd := (.seq (.seq (.ops [
 ⟨some 11, .move (.tmp 8), 3, none⟩,
 ⟨some 12, .move (.tmp 0), 22, none⟩,
 ⟨some 13, .call ⟨.builtin .len, #[(.tmp 12)], #[22]⟩, 3, none⟩,
 ⟨some 14, .binOp .lss 3 (.tmp 11) (.tmp 13) 3, 4, none⟩] [0, 3, 4, 5, 6, 7, 8, 14])
 (.cond (.tmp 14)
  (.skip [0, 3, 4, 5, 6, 7, 8])
  (.exit 2 [0, 3, 6, 7]))) (sg c22S1))
noncomputable def c22S2 (_ : Unit) : Cmd := (.ops [
 ⟨some 53, .move (.tmp 10), 3, none⟩,
 ⟨some 54, .binOp .add 3 (.tmp 53) (.const (.int .i64 1)) 3, 3, none⟩,
 ⟨some 10, .assign (.tmp 54), 3, none⟩] [0, 3, 6, 9, 10])
noncomputable def c22S3 (_ : Unit) : Cmd := (.seq (.block 5 (.seq (.ops [
 ⟨some 55, .move (.tmp 0), 22, none⟩,
 ⟨some 56, .move (.tmp 10), 3, none⟩,
 ⟨some 57, .indexAddr 22 (.tmp 55) (.tmp 56), 0, none⟩,
 ⟨some 58, .fieldAddr 58 (.tmp 57) 2, 0, none⟩,
 ⟨some 59, .load 3 (.tmp 58), 3, none⟩,
 ⟨some 60, .move (.tmp 6), 3, none⟩,
 ⟨some 61, .binOp .eql 3 (.tmp 59) (.tmp 60) 3, 4, none⟩] [0, 3, 6, 9, 10, 61])
 (.cond (.tmp 61)
  (.ops [
  ⟨some 62, .move (.tmp 9), 22, none⟩,
  ⟨some 63, .move (.tmp 0), 22, none⟩,
  ⟨some 64, .move (.tmp 10), 3, none⟩,
  ⟨some 65, .indexAddr 22 (.tmp 63) (.tmp 64), 0, none⟩,
  ⟨some 66, .load 58 (.tmp 65), 58, none⟩,
  ⟨some 67, .buildSlice 22 1 #[(0, (.tmp 66))], 22, none⟩,
  ⟨some 68, .call ⟨.builtin .append, #[(.tmp 62), (.tmp 67)], #[22, 22]⟩, 22, none⟩,
  ⟨some 9, .assign (.tmp 68), 22, none⟩] [0, 3, 6, 9, 10])
  (.skip [0, 3, 6, 9, 10])))) (sg c22S2))
noncomputable def c22L1 (_ : Unit) : Cmd := (.seq (.seq (.ops [
 ⟨some 49, .move (.tmp 10), 3, none⟩,
 ⟨some 50, .move (.tmp 0), 22, none⟩,
 ⟨some 51, .call ⟨.builtin .len, #[(.tmp 50)], #[22]⟩, 3, none⟩,
 ⟨some 52, .binOp .lss 3 (.tmp 49) (.tmp 51) 3, 4, none⟩] [0, 3, 6, 9, 10, 52])
 (.cond (.tmp 52)
  (.skip [0, 3, 6, 9, 10])
  (.exit 4 [0, 3, 6, 9]))) (sg c22S3))
noncomputable def c22S4 (_ : Unit) : Cmd := (.ops [
 ⟨some 81, .move (.tmp 6), 3, none⟩,
 ⟨some 4, .assign (.tmp 81), 3, none⟩,
 ⟨some 5, .assign (.const (.bool true)), 4, none⟩] [0, 3, 4, 5])
noncomputable def c22S5 (_ : Unit) : Cmd := (.seq (.ops [
 ⟨some 71, .move (.tmp 3), 47, none⟩,
 ⟨some 72, .move (.tmp 6), 3, none⟩,
 ⟨some 73, .move (.tmp 9), 22, none⟩,
 ⟨some 74, .indexAddr 22 (.tmp 73) (.const (.int .i64 0)), 0, none⟩,
 ⟨some 75, .fieldAddr 58 (.tmp 74) 3, 0, none⟩,
 ⟨some 76, .load 3 (.tmp 75), 3, none⟩,
 ⟨some 77, .move (.tmp 9), 22, none⟩,
 ⟨some 78, .build 24 #[(0, (.tmp 72)), (1, (.tmp 76)), (2, (.tmp 77))], 24, none⟩,
 ⟨some 79, .buildSlice 47 1 #[(0, (.tmp 78))], 47, none⟩,
 ⟨some 80, .call ⟨.builtin .append, #[(.tmp 71), (.tmp 79)], #[47, 47]⟩, 47, none⟩,
 ⟨some 3, .assign (.tmp 80), 47, none⟩] [0, 3, 6]) (sg c22S4))
noncomputable def c22S6 (_ : Unit) : Cmd := (.seq (.ops [
 ⟨some 69, .move (.tmp 9), 22, none⟩,
 ⟨some 70, .call ⟨.value (.func 52), #[(.tmp 69)], #[22]⟩, 22, none⟩,
 ⟨some 9, .assign (.tmp 70), 22, none⟩] [0, 3, 6, 9]) (sg c22S5))
noncomputable def c22S7 (_ : Unit) : Cmd := (.seq (.ops [
 ⟨some 9, .assign (.const (.slice none 0 0)), 22, none⟩] [0, 3, 6, 9])
 (.seq (.seq (.ops [
 ⟨some 10, .assign (.const (.int .i64 0)), 3, none⟩] [0, 3, 6, 9, 10])
 (.block 4 (.loop (sg c22L1)))) (sg c22S6)))
noncomputable def c22S8 (_ : Unit) : Cmd := (.seq (.seq (.ops [
 ⟨some 46, .move (.tmp 7), 4, none⟩,
 ⟨some 47, .unOp .not 4 (.tmp 46), 4, none⟩] [0, 3, 6, 47])
 (.cond (.tmp 47)
  (.seq (.ops [
  ⟨some 48, .move (.tmp 3), 47, none⟩,
  ⟨some 2, .assign (.tmp 48), 47, none⟩] [2])
  .ret)
  (.skip [0, 3, 6]))) (sg c22S7))
noncomputable def c22L2 (_ : Unit) : Cmd := (.block 1 (.seq (.ops [
 ⟨some 6, .assign (.const (.int .i64 0)), 3, none⟩,
 ⟨some 7, .assign (.const (.bool false)), 4, none⟩] [0, 3, 4, 5, 6, 7])
 (.seq (.seq (.ops [
 ⟨some 8, .assign (.const (.int .i64 0)), 3, none⟩] [0, 3, 4, 5, 6, 7, 8])
 (.block 2 (.loop (sg c22L0)))) (sg c22S8))))
noncomputable def c22 : Cmd := (.seq (.ops [
 ⟨some 2, .assign (.const (.slice none 0 0)), 47, none⟩] [0])
 (.seq (.ops [
 ⟨some 3, .assign (.const (.slice none 0 0)), 47, none⟩] [0, 3])
 (.seq (.ops [
 ⟨some 4, .assign (.const (.int .i64 0)), 3, none⟩,
 ⟨some 5, .assign (.const (.bool false)), 4, none⟩] [0, 3, 4, 5])
 (.block 0 (.loop (sg c22L2))))))
set_option maxRecDepth 100000 in
theorem ent22 (a0 : Value) (w : World) (K : Value → World → Prop) (h : W Try.prog c22 [(0, a0)] w (finQ Try.prog [.tmp 2] K)) : Ret Try.prog 22 [a0] w K :=
  Ret_of_W (code := c22code) Try.func22 (by kernel_rfl) (by kernel_rfl) (of_decide_eq_true (by kernel_rfl)) h
@[go_sem] theorem go22 : goFunc Try.prog 22 = true := by kernel_rfl
end Go.Proofs.Ytbeoedgoikcbpaa
