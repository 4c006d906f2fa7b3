/- The functions as commands, and facts on the types: printed by program. -/
import Derived.Test.YtkofhjopeppnoaaRows
import Derived.Test.YtkofhjopeppnoaaAnn17
import Derived.KernelRfl
namespace Go.Proofs.Ytkofhjopeppnoaa
open Go Go.Ann
@[go_sem] theorem ty0tyK : tyK Try.prog 0 = .other := by kernel_rfl
@[go_sem] theorem ty0sizeT : sizeT Try.prog 0 = some 1 := by kernel_rfl
@[go_sem] theorem ty0zeroT : zeroT Try.prog 0 = some (.tuple #[]) := by kernel_rfl
@[go_sem] theorem ty0conc : Program.concrete Try.prog 0 = true := by kernel_rfl
@[go_sem] theorem ty1tyK : tyK Try.prog 1 = .other := by kernel_rfl
@[go_sem] theorem ty1isFuncT : isFuncT Try.prog 1 = true := by kernel_rfl
@[go_sem] theorem ty1sizeT : sizeT Try.prog 1 = some 1 := by kernel_rfl
@[go_sem] theorem ty1zeroT : zeroT Try.prog 1 = some .nilFunc := by kernel_rfl
@[go_sem] theorem ty1conc : Program.concrete Try.prog 1 = true := by kernel_rfl
@[go_sem] theorem ty2tyK : tyK Try.prog 2 = .int .i64 := by kernel_rfl
@[go_sem] theorem ty2sizeT : sizeT Try.prog 2 = some 1 := by kernel_rfl
@[go_sem] theorem ty2zeroT : zeroT Try.prog 2 = some (.int .i64 0) := by kernel_rfl
@[go_sem] theorem ty2conc : Program.concrete Try.prog 2 = true := by kernel_rfl
@[go_sem] theorem ty3tyK : tyK Try.prog 3 = .int .i64 := by kernel_rfl
@[go_sem] theorem ty3sizeT : sizeT Try.prog 3 = some 1 := by kernel_rfl
@[go_sem] theorem ty3zeroT : zeroT Try.prog 3 = some (.int .i64 0) := by kernel_rfl
@[go_sem] theorem ty3conc : Program.concrete Try.prog 3 = true := by kernel_rfl
@[go_sem] theorem ty4tyK : tyK Try.prog 4 = .bool := by kernel_rfl
@[go_sem] theorem ty4isBoolT : isBoolT Try.prog 4 = true := by kernel_rfl
@[go_sem] theorem ty4sizeT : sizeT Try.prog 4 = some 1 := by kernel_rfl
@[go_sem] theorem ty4zeroT : zeroT Try.prog 4 = some (.bool false) := by kernel_rfl
@[go_sem] theorem ty4conc : Program.concrete Try.prog 4 = true := by kernel_rfl
@[go_sem] theorem ty5tyK : tyK Try.prog 5 = .int .u8 := by kernel_rfl
@[go_sem] theorem ty5sizeT : sizeT Try.prog 5 = some 1 := by kernel_rfl
@[go_sem] theorem ty5zeroT : zeroT Try.prog 5 = some (.int .u8 0) := by kernel_rfl
@[go_sem] theorem ty5conc : Program.concrete Try.prog 5 = true := by kernel_rfl
@[go_sem] theorem ty6tyK : tyK Try.prog 6 = .int .u8 := by kernel_rfl
@[go_sem] theorem ty6sizeT : sizeT Try.prog 6 = some 1 := by kernel_rfl
@[go_sem] theorem ty6zeroT : zeroT Try.prog 6 = some (.int .u8 0) := by kernel_rfl
@[go_sem] theorem ty6conc : Program.concrete Try.prog 6 = true := by kernel_rfl
@[go_sem] theorem ty7tyK : tyK Try.prog 7 = .agg 4 := by kernel_rfl
@[go_sem] theorem ty7sizeT : sizeT Try.prog 7 = some 4 := by kernel_rfl
@[go_sem] theorem ty7zeroT : zeroT Try.prog 7 = some (.agg #[(.int .i64 0), (.int .i64 0), (.bool false), (.int .u8 0)]) := by kernel_rfl
@[go_sem] theorem ty7conc : Program.concrete Try.prog 7 = true := by kernel_rfl
@[go_sem] theorem ty7plc : plcT Try.prog 7 = some [(0, 1), (1, 1), (2, 1), (3, 1)] := by kernel_rfl
@[go_sem] theorem ty7flat : flatT Try.prog 7 = some [.int, .int, .bool, .int] := by kernel_rfl
@[go_sem] theorem ty7fld0 : fldI Try.prog 7 0 = some (0, 1, false) := by kernel_rfl
@[go_sem] theorem ty7fld1 : fldI Try.prog 7 1 = some (1, 1, false) := by kernel_rfl
@[go_sem] theorem ty7fld2 : fldI Try.prog 7 2 = some (2, 1, false) := by kernel_rfl
@[go_sem] theorem ty7fld3 : fldI Try.prog 7 3 = some (3, 1, false) := by kernel_rfl
@[go_sem] theorem ty8tyK : tyK Try.prog 8 = .agg 4 := by kernel_rfl
@[go_sem] theorem ty8sizeT : sizeT Try.prog 8 = some 4 := by kernel_rfl
@[go_sem] theorem ty8zeroT : zeroT Try.prog 8 = some (.agg #[(.int .i64 0), (.int .i64 0), (.bool false), (.int .u8 0)]) := by kernel_rfl
@[go_sem] theorem ty8conc : Program.concrete Try.prog 8 = true := by kernel_rfl
@[go_sem] theorem ty8plc : plcT Try.prog 8 = some [(0, 1), (1, 1), (2, 1), (3, 1)] := by kernel_rfl
@[go_sem] theorem ty8flat : flatT Try.prog 8 = some [.int, .int, .bool, .int] := by kernel_rfl
@[go_sem] theorem ty8fld0 : fldI Try.prog 8 0 = some (0, 1, false) := by kernel_rfl
@[go_sem] theorem ty8fld1 : fldI Try.prog 8 1 = some (1, 1, false) := by kernel_rfl
@[go_sem] theorem ty8fld2 : fldI Try.prog 8 2 = some (2, 1, false) := by kernel_rfl
@[go_sem] theorem ty8fld3 : fldI Try.prog 8 3 = some (3, 1, false) := by kernel_rfl
@[go_sem] theorem ty9tyK : tyK Try.prog 9 = .str := by kernel_rfl
@[go_sem] theorem ty9isStrT : isStrT Try.prog 9 = true := by kernel_rfl
@[go_sem] theorem ty9sizeT : sizeT Try.prog 9 = some 1 := by kernel_rfl
@[go_sem] theorem ty9zeroT : zeroT Try.prog 9 = some (.string (ofL [])) := by kernel_rfl
@[go_sem] theorem ty9conc : Program.concrete Try.prog 9 = true := by kernel_rfl
@[go_sem] theorem ty10tyK : tyK Try.prog 10 = .str := by kernel_rfl
@[go_sem] theorem ty10isStrT : isStrT Try.prog 10 = true := by kernel_rfl
@[go_sem] theorem ty10sizeT : sizeT Try.prog 10 = some 1 := by kernel_rfl
@[go_sem] theorem ty10zeroT : zeroT Try.prog 10 = some (.string (ofL [])) := by kernel_rfl
@[go_sem] theorem ty10conc : Program.concrete Try.prog 10 = true := by kernel_rfl
@[go_sem] theorem ty11tyK : tyK Try.prog 11 = .str := by kernel_rfl
@[go_sem] theorem ty11isStrT : isStrT Try.prog 11 = true := by kernel_rfl
@[go_sem] theorem ty11sizeT : sizeT Try.prog 11 = some 1 := by kernel_rfl
@[go_sem] theorem ty11zeroT : zeroT Try.prog 11 = some (.string (ofL [])) := by kernel_rfl
@[go_sem] theorem ty11conc : Program.concrete Try.prog 11 = true := by kernel_rfl
@[go_sem] theorem ty12tyK : tyK Try.prog 12 = .int .u64 := by kernel_rfl
@[go_sem] theorem ty12sizeT : sizeT Try.prog 12 = some 1 := by kernel_rfl
@[go_sem] theorem ty12zeroT : zeroT Try.prog 12 = some (.int .u64 0) := by kernel_rfl
@[go_sem] theorem ty12conc : Program.concrete Try.prog 12 = true := by kernel_rfl
@[go_sem] theorem ty13tyK : tyK Try.prog 13 = .agg 2 := by kernel_rfl
@[go_sem] theorem ty13sizeT : sizeT Try.prog 13 = some 2 := by kernel_rfl
@[go_sem] theorem ty13zeroT : zeroT Try.prog 13 = some (.agg #[(.string (ofL [])), (.int .u64 0)]) := by kernel_rfl
@[go_sem] theorem ty13conc : Program.concrete Try.prog 13 = true := by kernel_rfl
@[go_sem] theorem ty13plc : plcT Try.prog 13 = some [(0, 1), (1, 1)] := by kernel_rfl
@[go_sem] theorem ty13fld0 : fldI Try.prog 13 0 = some (0, 1, false) := by kernel_rfl
@[go_sem] theorem ty13fld1 : fldI Try.prog 13 1 = some (1, 1, false) := by kernel_rfl
@[go_sem] theorem ty14tyK : tyK Try.prog 14 = .agg 2 := by kernel_rfl
@[go_sem] theorem ty14sizeT : sizeT Try.prog 14 = some 2 := by kernel_rfl
@[go_sem] theorem ty14zeroT : zeroT Try.prog 14 = some (.agg #[(.string (ofL [])), (.int .u64 0)]) := by kernel_rfl
@[go_sem] theorem ty14conc : Program.concrete Try.prog 14 = true := by kernel_rfl
@[go_sem] theorem ty14plc : plcT Try.prog 14 = some [(0, 1), (1, 1)] := by kernel_rfl
@[go_sem] theorem ty14fld0 : fldI Try.prog 14 0 = some (0, 1, false) := by kernel_rfl
@[go_sem] theorem ty14fld1 : fldI Try.prog 14 1 = some (1, 1, false) := by kernel_rfl
@[go_sem] theorem ty15tyK : tyK Try.prog 15 = .ptr := by kernel_rfl
@[go_sem] theorem ty15isPtrT : isPtrT Try.prog 15 = true := by kernel_rfl
@[go_sem] theorem ty15sizeT : sizeT Try.prog 15 = some 1 := by kernel_rfl
@[go_sem] theorem ty15zeroT : zeroT Try.prog 15 = some (.pointer none) := by kernel_rfl
@[go_sem] theorem ty15conc : Program.concrete Try.prog 15 = true := by kernel_rfl
@[go_sem] theorem ty16tyK : tyK Try.prog 16 = .ptr := by kernel_rfl
@[go_sem] theorem ty16isPtrT : isPtrT Try.prog 16 = true := by kernel_rfl
@[go_sem] theorem ty16sizeT : sizeT Try.prog 16 = some 1 := by kernel_rfl
@[go_sem] theorem ty16zeroT : zeroT Try.prog 16 = some (.pointer none) := by kernel_rfl
@[go_sem] theorem ty16conc : Program.concrete Try.prog 16 = true := by kernel_rfl
@[go_sem] theorem ty17tyK : tyK Try.prog 17 = .ptr := by kernel_rfl
@[go_sem] theorem ty17isPtrT : isPtrT Try.prog 17 = true := by kernel_rfl
@[go_sem] theorem ty17sizeT : sizeT Try.prog 17 = some 1 := by kernel_rfl
@[go_sem] theorem ty17zeroT : zeroT Try.prog 17 = some (.pointer none) := by kernel_rfl
@[go_sem] theorem ty17conc : Program.concrete Try.prog 17 = true := by kernel_rfl
@[go_sem] theorem ty18tyK : tyK Try.prog 18 = .agg 1 := by kernel_rfl
@[go_sem] theorem ty18sizeT : sizeT Try.prog 18 = some 1 := by kernel_rfl
@[go_sem] theorem ty18zeroT : zeroT Try.prog 18 = some (.agg #[(.pointer none)]) := by kernel_rfl
@[go_sem] theorem ty18conc : Program.concrete Try.prog 18 = true := by kernel_rfl
@[go_sem] theorem ty18plc : plcT Try.prog 18 = some [(0, 1)] := by kernel_rfl
@[go_sem] theorem ty18fld0 : fldI Try.prog 18 0 = some (0, 1, false) := by kernel_rfl
@[go_sem] theorem ty19tyK : tyK Try.prog 19 = .agg 1 := by kernel_rfl
@[go_sem] theorem ty19sizeT : sizeT Try.prog 19 = some 1 := by kernel_rfl
@[go_sem] theorem ty19zeroT : zeroT Try.prog 19 = some (.agg #[(.pointer none)]) := by kernel_rfl
@[go_sem] theorem ty19conc : Program.concrete Try.prog 19 = true := by kernel_rfl
@[go_sem] theorem ty19plc : plcT Try.prog 19 = some [(0, 1)] := by kernel_rfl
@[go_sem] theorem ty19fld0 : fldI Try.prog 19 0 = some (0, 1, false) := by kernel_rfl
@[go_sem] theorem ty20tyK : tyK Try.prog 20 = .other := by kernel_rfl
@[go_sem] theorem ty20isIfaceT : isIfaceT Try.prog 20 = true := by kernel_rfl
@[go_sem] theorem ty20sizeT : sizeT Try.prog 20 = some 1 := by kernel_rfl
@[go_sem] theorem ty20zeroT : zeroT Try.prog 20 = some .nilIface := by kernel_rfl
@[go_sem] theorem ty21tyK : tyK Try.prog 21 = .int .i32 := by kernel_rfl
@[go_sem] theorem ty21sizeT : sizeT Try.prog 21 = some 1 := by kernel_rfl
@[go_sem] theorem ty21zeroT : zeroT Try.prog 21 = some (.int .i32 0) := by kernel_rfl
@[go_sem] theorem ty21conc : Program.concrete Try.prog 21 = true := by kernel_rfl
@[go_sem] theorem ty22tyK : tyK Try.prog 22 = .slice false 9 := by kernel_rfl
@[go_sem] theorem ty22isSliceT : isSliceT Try.prog 22 = true := by kernel_rfl
@[go_sem] theorem ty22sliI : sliI Try.prog 22 = some 1 := by kernel_rfl
@[go_sem] theorem ty22mkI : mkI Try.prog 22 = some (9, 1, 16, (.string (ofL []))) := by kernel_rfl
@[go_sem] theorem ty22sizeT : sizeT Try.prog 22 = some 1 := by kernel_rfl
@[go_sem] theorem ty22zeroT : zeroT Try.prog 22 = some (.slice none 0 0) := by kernel_rfl
@[go_sem] theorem ty22conc : Program.concrete Try.prog 22 = true := by kernel_rfl
@[go_sem] theorem ty23tyK : tyK Try.prog 23 = .agg 2 := by kernel_rfl
@[go_sem] theorem ty23sizeT : sizeT Try.prog 23 = some 2 := by kernel_rfl
@[go_sem] theorem ty23zeroT : zeroT Try.prog 23 = some (.agg #[(.int .i64 0), (.slice none 0 0)]) := by kernel_rfl
@[go_sem] theorem ty23conc : Program.concrete Try.prog 23 = true := by kernel_rfl
@[go_sem] theorem ty23plc : plcT Try.prog 23 = some [(0, 1), (1, 1)] := by kernel_rfl
@[go_sem] theorem ty23fld0 : fldI Try.prog 23 0 = some (0, 1, false) := by kernel_rfl
@[go_sem] theorem ty23fld1 : fldI Try.prog 23 1 = some (1, 1, false) := by kernel_rfl
@[go_sem] theorem ty24tyK : tyK Try.prog 24 = .agg 2 := by kernel_rfl
@[go_sem] theorem ty24sizeT : sizeT Try.prog 24 = some 2 := by kernel_rfl
@[go_sem] theorem ty24zeroT : zeroT Try.prog 24 = some (.agg #[(.int .i64 0), (.slice none 0 0)]) := by kernel_rfl
@[go_sem] theorem ty24conc : Program.concrete Try.prog 24 = true := by kernel_rfl
@[go_sem] theorem ty24plc : plcT Try.prog 24 = some [(0, 1), (1, 1)] := by kernel_rfl
@[go_sem] theorem ty24fld0 : fldI Try.prog 24 0 = some (0, 1, false) := by kernel_rfl
@[go_sem] theorem ty24fld1 : fldI Try.prog 24 1 = some (1, 1, false) := by kernel_rfl
@[go_sem] theorem ty25tyK : tyK Try.prog 25 = .other := by kernel_rfl
@[go_sem] theorem ty25sizeT : sizeT Try.prog 25 = some 1 := by kernel_rfl
@[go_sem] theorem ty25zeroT : zeroT Try.prog 25 = some (.tuple #[(.agg #[(.int .i64 0), (.slice none 0 0)]), (.bool false)]) := by kernel_rfl
@[go_sem] theorem ty25conc : Program.concrete Try.prog 25 = true := by kernel_rfl
@[go_sem] theorem ty26tyK : tyK Try.prog 26 = .other := by kernel_rfl
@[go_sem] theorem ty26isFuncT : isFuncT Try.prog 26 = true := by kernel_rfl
@[go_sem] theorem ty26sizeT : sizeT Try.prog 26 = some 1 := by kernel_rfl
@[go_sem] theorem ty26zeroT : zeroT Try.prog 26 = some .nilFunc := by kernel_rfl
@[go_sem] theorem ty26conc : Program.concrete Try.prog 26 = true := by kernel_rfl
@[go_sem] theorem ty27tyK : tyK Try.prog 27 = .other := by kernel_rfl
@[go_sem] theorem ty27isFuncT : isFuncT Try.prog 27 = true := by kernel_rfl
@[go_sem] theorem ty27sizeT : sizeT Try.prog 27 = some 1 := by kernel_rfl
@[go_sem] theorem ty27zeroT : zeroT Try.prog 27 = some .nilFunc := by kernel_rfl
@[go_sem] theorem ty27conc : Program.concrete Try.prog 27 = true := by kernel_rfl
@[go_sem] theorem ty28tyK : tyK Try.prog 28 = .other := by kernel_rfl
@[go_sem] theorem ty28sizeT : sizeT Try.prog 28 = some 1 := by kernel_rfl
@[go_sem] theorem ty28zeroT : zeroT Try.prog 28 = some (.tuple #[(.string (ofL [])), (.int .i64 0), (.bool false)]) := by kernel_rfl
@[go_sem] theorem ty28conc : Program.concrete Try.prog 28 = true := by kernel_rfl
@[go_sem] theorem ty29tyK : tyK Try.prog 29 = .other := by kernel_rfl
@[go_sem] theorem ty29isFuncT : isFuncT Try.prog 29 = true := by kernel_rfl
@[go_sem] theorem ty29sizeT : sizeT Try.prog 29 = some 1 := by kernel_rfl
@[go_sem] theorem ty29zeroT : zeroT Try.prog 29 = some .nilFunc := by kernel_rfl
@[go_sem] theorem ty29conc : Program.concrete Try.prog 29 = true := by kernel_rfl
@[go_sem] theorem ty30tyK : tyK Try.prog 30 = .other := by kernel_rfl
@[go_sem] theorem ty30sizeT : sizeT Try.prog 30 = some 1 := by kernel_rfl
@[go_sem] theorem ty30zeroT : zeroT Try.prog 30 = some (.tuple #[(.agg #[(.int .i64 0), (.slice none 0 0)]), (.int .i64 0), (.bool false)]) := by kernel_rfl
@[go_sem] theorem ty30conc : Program.concrete Try.prog 30 = true := by kernel_rfl
@[go_sem] theorem ty31tyK : tyK Try.prog 31 = .other := by kernel_rfl
@[go_sem] theorem ty31isFuncT : isFuncT Try.prog 31 = true := by kernel_rfl
@[go_sem] theorem ty31sizeT : sizeT Try.prog 31 = some 1 := by kernel_rfl
@[go_sem] theorem ty31zeroT : zeroT Try.prog 31 = some .nilFunc := by kernel_rfl
@[go_sem] theorem ty31conc : Program.concrete Try.prog 31 = true := by kernel_rfl
@[go_sem] theorem ty32tyK : tyK Try.prog 32 = .other := by kernel_rfl
@[go_sem] theorem ty32isFuncT : isFuncT Try.prog 32 = true := by kernel_rfl
@[go_sem] theorem ty32sizeT : sizeT Try.prog 32 = some 1 := by kernel_rfl
@[go_sem] theorem ty32zeroT : zeroT Try.prog 32 = some .nilFunc := by kernel_rfl
@[go_sem] theorem ty32conc : Program.concrete Try.prog 32 = true := by kernel_rfl
@[go_sem] theorem ty33tyK : tyK Try.prog 33 = .other := by kernel_rfl
@[go_sem] theorem ty33isFuncT : isFuncT Try.prog 33 = true := by kernel_rfl
@[go_sem] theorem ty33sizeT : sizeT Try.prog 33 = some 1 := by kernel_rfl
@[go_sem] theorem ty33zeroT : zeroT Try.prog 33 = some .nilFunc := by kernel_rfl
@[go_sem] theorem ty33conc : Program.concrete Try.prog 33 = true := by kernel_rfl
@[go_sem] theorem ty34tyK : tyK Try.prog 34 = .other := by kernel_rfl
@[go_sem] theorem ty34sizeT : sizeT Try.prog 34 = some 1 := by kernel_rfl
@[go_sem] theorem ty34zeroT : zeroT Try.prog 34 = some (.tuple #[(.string (ofL [])), (.bool false)]) := by kernel_rfl
@[go_sem] theorem ty34conc : Program.concrete Try.prog 34 = true := by kernel_rfl
@[go_sem] theorem ty35tyK : tyK Try.prog 35 = .other := by kernel_rfl
@[go_sem] theorem ty35isFuncT : isFuncT Try.prog 35 = true := by kernel_rfl
@[go_sem] theorem ty35sizeT : sizeT Try.prog 35 = some 1 := by kernel_rfl
@[go_sem] theorem ty35zeroT : zeroT Try.prog 35 = some .nilFunc := by kernel_rfl
@[go_sem] theorem ty35conc : Program.concrete Try.prog 35 = true := by kernel_rfl
@[go_sem] theorem ty36tyK : tyK Try.prog 36 = .other := by kernel_rfl
@[go_sem] theorem ty36isFuncT : isFuncT Try.prog 36 = true := by kernel_rfl
@[go_sem] theorem ty36sizeT : sizeT Try.prog 36 = some 1 := by kernel_rfl
@[go_sem] theorem ty36zeroT : zeroT Try.prog 36 = some .nilFunc := by kernel_rfl
@[go_sem] theorem ty36conc : Program.concrete Try.prog 36 = true := by kernel_rfl
@[go_sem] theorem ty37tyK : tyK Try.prog 37 = .other := by kernel_rfl
@[go_sem] theorem ty37isFuncT : isFuncT Try.prog 37 = true := by kernel_rfl
@[go_sem] theorem ty37sizeT : sizeT Try.prog 37 = some 1 := by kernel_rfl
@[go_sem] theorem ty37zeroT : zeroT Try.prog 37 = some .nilFunc := by kernel_rfl
@[go_sem] theorem ty37conc : Program.concrete Try.prog 37 = true := by kernel_rfl
@[go_sem] theorem ty38tyK : tyK Try.prog 38 = .other := by kernel_rfl
@[go_sem] theorem ty38isFuncT : isFuncT Try.prog 38 = true := by kernel_rfl
@[go_sem] theorem ty38sizeT : sizeT Try.prog 38 = some 1 := by kernel_rfl
@[go_sem] theorem ty38zeroT : zeroT Try.prog 38 = some .nilFunc := by kernel_rfl
@[go_sem] theorem ty38conc : Program.concrete Try.prog 38 = true := by kernel_rfl
@[go_sem] theorem ty39tyK : tyK Try.prog 39 = .other := by kernel_rfl
@[go_sem] theorem ty39isFuncT : isFuncT Try.prog 39 = true := by kernel_rfl
@[go_sem] theorem ty39sizeT : sizeT Try.prog 39 = some 1 := by kernel_rfl
@[go_sem] theorem ty39zeroT : zeroT Try.prog 39 = some .nilFunc := by kernel_rfl
@[go_sem] theorem ty39conc : Program.concrete Try.prog 39 = true := by kernel_rfl
@[go_sem] theorem ty40tyK : tyK Try.prog 40 = .other := by kernel_rfl
@[go_sem] theorem ty40isFuncT : isFuncT Try.prog 40 = true := by kernel_rfl
@[go_sem] theorem ty40sizeT : sizeT Try.prog 40 = some 1 := by kernel_rfl
@[go_sem] theorem ty40zeroT : zeroT Try.prog 40 = some .nilFunc := by kernel_rfl
@[go_sem] theorem ty40conc : Program.concrete Try.prog 40 = true := by kernel_rfl
@[go_sem] theorem ty41tyK : tyK Try.prog 41 = .other := by kernel_rfl
@[go_sem] theorem ty41isFuncT : isFuncT Try.prog 41 = true := by kernel_rfl
@[go_sem] theorem ty41sizeT : sizeT Try.prog 41 = some 1 := by kernel_rfl
@[go_sem] theorem ty41zeroT : zeroT Try.prog 41 = some .nilFunc := by kernel_rfl
@[go_sem] theorem ty41conc : Program.concrete Try.prog 41 = true := by kernel_rfl
@[go_sem] theorem ty42tyK : tyK Try.prog 42 = .other := by kernel_rfl
@[go_sem] theorem ty42isFuncT : isFuncT Try.prog 42 = true := by kernel_rfl
@[go_sem] theorem ty42sizeT : sizeT Try.prog 42 = some 1 := by kernel_rfl
@[go_sem] theorem ty42zeroT : zeroT Try.prog 42 = some .nilFunc := by kernel_rfl
@[go_sem] theorem ty42conc : Program.concrete Try.prog 42 = true := by kernel_rfl
@[go_sem] theorem ty43tyK : tyK Try.prog 43 = .other := by kernel_rfl
@[go_sem] theorem ty43isFuncT : isFuncT Try.prog 43 = true := by kernel_rfl
@[go_sem] theorem ty43sizeT : sizeT Try.prog 43 = some 1 := by kernel_rfl
@[go_sem] theorem ty43zeroT : zeroT Try.prog 43 = some .nilFunc := by kernel_rfl
@[go_sem] theorem ty43conc : Program.concrete Try.prog 43 = true := by kernel_rfl
@[go_sem] theorem ty44tyK : tyK Try.prog 44 = .slice false 47 := by kernel_rfl
@[go_sem] theorem ty44isSliceT : isSliceT Try.prog 44 = true := by kernel_rfl
@[go_sem] theorem ty44sliI : sliI Try.prog 44 = some 3 := by kernel_rfl
@[go_sem] theorem ty44mkI : mkI Try.prog 44 = some (47, 3, 32, (.agg #[(.int .i64 0), (.int .i64 0), (.string (ofL []))])) := by kernel_rfl
@[go_sem] theorem ty44sizeT : sizeT Try.prog 44 = some 1 := by kernel_rfl
@[go_sem] theorem ty44zeroT : zeroT Try.prog 44 = some (.slice none 0 0) := by kernel_rfl
@[go_sem] theorem ty44conc : Program.concrete Try.prog 44 = true := by kernel_rfl
@[go_sem] theorem ty45tyK : tyK Try.prog 45 = .other := by kernel_rfl
@[go_sem] theorem ty45isFuncT : isFuncT Try.prog 45 = true := by kernel_rfl
@[go_sem] theorem ty45sizeT : sizeT Try.prog 45 = some 1 := by kernel_rfl
@[go_sem] theorem ty45zeroT : zeroT Try.prog 45 = some .nilFunc := by kernel_rfl
@[go_sem] theorem ty45conc : Program.concrete Try.prog 45 = true := by kernel_rfl
@[go_sem] theorem ty46tyK : tyK Try.prog 46 = .agg 3 := by kernel_rfl
@[go_sem] theorem ty46sizeT : sizeT Try.prog 46 = some 3 := by kernel_rfl
@[go_sem] theorem ty46zeroT : zeroT Try.prog 46 = some (.agg #[(.int .i64 0), (.int .i64 0), (.string (ofL []))]) := by kernel_rfl
@[go_sem] theorem ty46conc : Program.concrete Try.prog 46 = true := by kernel_rfl
@[go_sem] theorem ty46plc : plcT Try.prog 46 = some [(0, 1), (1, 1), (2, 1)] := by kernel_rfl
@[go_sem] theorem ty46flat : flatT Try.prog 46 = some [.int, .int, .str] := by kernel_rfl
@[go_sem] theorem ty46fld0 : fldI Try.prog 46 0 = some (0, 1, false) := by kernel_rfl
@[go_sem] theorem ty46fld1 : fldI Try.prog 46 1 = some (1, 1, false) := by kernel_rfl
@[go_sem] theorem ty46fld2 : fldI Try.prog 46 2 = some (2, 1, false) := by kernel_rfl
@[go_sem] theorem ty47tyK : tyK Try.prog 47 = .agg 3 := by kernel_rfl
@[go_sem] theorem ty47sizeT : sizeT Try.prog 47 = some 3 := by kernel_rfl
@[go_sem] theorem ty47zeroT : zeroT Try.prog 47 = some (.agg #[(.int .i64 0), (.int .i64 0), (.string (ofL []))]) := by kernel_rfl
@[go_sem] theorem ty47conc : Program.concrete Try.prog 47 = true := by kernel_rfl
@[go_sem] theorem ty47plc : plcT Try.prog 47 = some [(0, 1), (1, 1), (2, 1)] := by kernel_rfl
@[go_sem] theorem ty47flat : flatT Try.prog 47 = some [.int, .int, .str] := by kernel_rfl
@[go_sem] theorem ty47fld0 : fldI Try.prog 47 0 = some (0, 1, false) := by kernel_rfl
@[go_sem] theorem ty47fld1 : fldI Try.prog 47 1 = some (1, 1, false) := by kernel_rfl
@[go_sem] theorem ty47fld2 : fldI Try.prog 47 2 = some (2, 1, false) := by kernel_rfl
@[go_sem] theorem ty48tyK : tyK Try.prog 48 = .other := by kernel_rfl
@[go_sem] theorem ty48isFuncT : isFuncT Try.prog 48 = true := by kernel_rfl
@[go_sem] theorem ty48sizeT : sizeT Try.prog 48 = some 1 := by kernel_rfl
@[go_sem] theorem ty48zeroT : zeroT Try.prog 48 = some .nilFunc := by kernel_rfl
@[go_sem] theorem ty48conc : Program.concrete Try.prog 48 = true := by kernel_rfl
@[go_sem] theorem ty49tyK : tyK Try.prog 49 = .other := by kernel_rfl
@[go_sem] theorem ty49isFuncT : isFuncT Try.prog 49 = true := by kernel_rfl
@[go_sem] theorem ty49sizeT : sizeT Try.prog 49 = some 1 := by kernel_rfl
@[go_sem] theorem ty49zeroT : zeroT Try.prog 49 = some .nilFunc := by kernel_rfl
@[go_sem] theorem ty49conc : Program.concrete Try.prog 49 = true := by kernel_rfl
@[go_sem] theorem ty50tyK : tyK Try.prog 50 = .other := by kernel_rfl
@[go_sem] theorem ty50isFuncT : isFuncT Try.prog 50 = true := by kernel_rfl
@[go_sem] theorem ty50sizeT : sizeT Try.prog 50 = some 1 := by kernel_rfl
@[go_sem] theorem ty50zeroT : zeroT Try.prog 50 = some .nilFunc := by kernel_rfl
@[go_sem] theorem ty50conc : Program.concrete Try.prog 50 = true := by kernel_rfl
@[go_sem] theorem ty51tyK : tyK Try.prog 51 = .other := by kernel_rfl
@[go_sem] theorem ty51isFuncT : isFuncT Try.prog 51 = true := by kernel_rfl
@[go_sem] theorem ty51sizeT : sizeT Try.prog 51 = some 1 := by kernel_rfl
@[go_sem] theorem ty51zeroT : zeroT Try.prog 51 = some .nilFunc := by kernel_rfl
@[go_sem] theorem ty51conc : Program.concrete Try.prog 51 = true := by kernel_rfl
@[go_sem] theorem ty52tyK : tyK Try.prog 52 = .other := by kernel_rfl
@[go_sem] theorem ty52isFuncT : isFuncT Try.prog 52 = true := by kernel_rfl
@[go_sem] theorem ty52sizeT : sizeT Try.prog 52 = some 1 := by kernel_rfl
@[go_sem] theorem ty52zeroT : zeroT Try.prog 52 = some .nilFunc := by kernel_rfl
@[go_sem] theorem ty52conc : Program.concrete Try.prog 52 = true := by kernel_rfl
@[go_sem] theorem ty53tyK : tyK Try.prog 53 = .other := by kernel_rfl
@[go_sem] theorem ty53isFuncT : isFuncT Try.prog 53 = true := by kernel_rfl
@[go_sem] theorem ty53sizeT : sizeT Try.prog 53 = some 1 := by kernel_rfl
@[go_sem] theorem ty53zeroT : zeroT Try.prog 53 = some .nilFunc := by kernel_rfl
@[go_sem] theorem ty53conc : Program.concrete Try.prog 53 = true := by kernel_rfl
@[go_sem] theorem ty54tyK : tyK Try.prog 54 = .slice true 5 := by kernel_rfl
@[go_sem] theorem ty54isSliceT : isSliceT Try.prog 54 = true := by kernel_rfl
@[go_sem] theorem ty54sliI : sliI Try.prog 54 = some 1 := by kernel_rfl
@[go_sem] theorem ty54mkI : mkI Try.prog 54 = some (5, 1, 1, (.int .u8 0)) := by kernel_rfl
@[go_sem] theorem ty54sizeT : sizeT Try.prog 54 = some 1 := by kernel_rfl
@[go_sem] theorem ty54zeroT : zeroT Try.prog 54 = some (.slice none 0 0) := by kernel_rfl
@[go_sem] theorem ty54conc : Program.concrete Try.prog 54 = true := by kernel_rfl
@[go_sem] theorem ty55tyK : tyK Try.prog 55 = .other := by kernel_rfl
@[go_sem] theorem ty55sizeT : sizeT Try.prog 55 = some 1 := by kernel_rfl
@[go_sem] theorem ty55zeroT : zeroT Try.prog 55 = some (.tuple #[(.int .i64 0), (.int .i64 0)]) := by kernel_rfl
@[go_sem] theorem ty55conc : Program.concrete Try.prog 55 = true := by kernel_rfl
@[go_sem] theorem ty56tyK : tyK Try.prog 56 = .other := by kernel_rfl
@[go_sem] theorem ty56isFuncT : isFuncT Try.prog 56 = true := by kernel_rfl
@[go_sem] theorem ty56sizeT : sizeT Try.prog 56 = some 1 := by kernel_rfl
@[go_sem] theorem ty56zeroT : zeroT Try.prog 56 = some .nilFunc := by kernel_rfl
@[go_sem] theorem ty56conc : Program.concrete Try.prog 56 = true := by kernel_rfl
@[go_sem] theorem ty57tyK : tyK Try.prog 57 = .other := by kernel_rfl
@[go_sem] theorem ty57isFuncT : isFuncT Try.prog 57 = true := by kernel_rfl
@[go_sem] theorem ty57sizeT : sizeT Try.prog 57 = some 1 := by kernel_rfl
@[go_sem] theorem ty57zeroT : zeroT Try.prog 57 = some .nilFunc := by kernel_rfl
@[go_sem] theorem ty57conc : Program.concrete Try.prog 57 = true := by kernel_rfl
@[go_sem] theorem ty58tyK : tyK Try.prog 58 = .other := by kernel_rfl
@[go_sem] theorem ty58isFuncT : isFuncT Try.prog 58 = true := by kernel_rfl
@[go_sem] theorem ty58sizeT : sizeT Try.prog 58 = some 1 := by kernel_rfl
@[go_sem] theorem ty58zeroT : zeroT Try.prog 58 = some .nilFunc := by kernel_rfl
@[go_sem] theorem ty58conc : Program.concrete Try.prog 58 = true := by kernel_rfl
@[go_sem] theorem ty59tyK : tyK Try.prog 59 = .slice false 4 := by kernel_rfl
@[go_sem] theorem ty59isSliceT : isSliceT Try.prog 59 = true := by kernel_rfl
@[go_sem] theorem ty59sliI : sliI Try.prog 59 = some 1 := by kernel_rfl
@[go_sem] theorem ty59mkI : mkI Try.prog 59 = some (4, 1, 1, (.bool false)) := by kernel_rfl
@[go_sem] theorem ty59sizeT : sizeT Try.prog 59 = some 1 := by kernel_rfl
@[go_sem] theorem ty59zeroT : zeroT Try.prog 59 = some (.slice none 0 0) := by kernel_rfl
@[go_sem] theorem ty59conc : Program.concrete Try.prog 59 = true := by kernel_rfl
@[go_sem] theorem ty60tyK : tyK Try.prog 60 = .other := by kernel_rfl
@[go_sem] theorem ty60isFuncT : isFuncT Try.prog 60 = true := by kernel_rfl
@[go_sem] theorem ty60sizeT : sizeT Try.prog 60 = some 1 := by kernel_rfl
@[go_sem] theorem ty60zeroT : zeroT Try.prog 60 = some .nilFunc := by kernel_rfl
@[go_sem] theorem ty60conc : Program.concrete Try.prog 60 = true := by kernel_rfl
@[go_sem] theorem ty61tyK : tyK Try.prog 61 = .other := by kernel_rfl
@[go_sem] theorem ty61isFuncT : isFuncT Try.prog 61 = true := by kernel_rfl
@[go_sem] theorem ty61sizeT : sizeT Try.prog 61 = some 1 := by kernel_rfl
@[go_sem] theorem ty61zeroT : zeroT Try.prog 61 = some .nilFunc := by kernel_rfl
@[go_sem] theorem ty61conc : Program.concrete Try.prog 61 = true := by kernel_rfl
@[go_sem] theorem ty62tyK : tyK Try.prog 62 = .other := by kernel_rfl
@[go_sem] theorem ty62isFuncT : isFuncT Try.prog 62 = true := by kernel_rfl
@[go_sem] theorem ty62sizeT : sizeT Try.prog 62 = some 1 := by kernel_rfl
@[go_sem] theorem ty62zeroT : zeroT Try.prog 62 = some .nilFunc := by kernel_rfl
@[go_sem] theorem ty62conc : Program.concrete Try.prog 62 = true := by kernel_rfl
@[go_sem] theorem ty63tyK : tyK Try.prog 63 = .other := by kernel_rfl
@[go_sem] theorem ty63isFuncT : isFuncT Try.prog 63 = true := by kernel_rfl
@[go_sem] theorem ty63sizeT : sizeT Try.prog 63 = some 1 := by kernel_rfl
@[go_sem] theorem ty63zeroT : zeroT Try.prog 63 = some .nilFunc := by kernel_rfl
@[go_sem] theorem ty63conc : Program.concrete Try.prog 63 = true := by kernel_rfl
@[go_sem] theorem ty64tyK : tyK Try.prog 64 = .other := by kernel_rfl
@[go_sem] theorem ty64isFuncT : isFuncT Try.prog 64 = true := by kernel_rfl
@[go_sem] theorem ty64sizeT : sizeT Try.prog 64 = some 1 := by kernel_rfl
@[go_sem] theorem ty64zeroT : zeroT Try.prog 64 = some .nilFunc := by kernel_rfl
@[go_sem] theorem ty64conc : Program.concrete Try.prog 64 = true := by kernel_rfl
@[go_sem] theorem ty65tyK : tyK Try.prog 65 = .agg 4 := by kernel_rfl
@[go_sem] theorem ty65sizeT : sizeT Try.prog 65 = some 4 := by kernel_rfl
@[go_sem] theorem ty65zeroT : zeroT Try.prog 65 = some (.agg #[(.pointer none), (.pointer none), (.pointer none), (.string (ofL []))]) := by kernel_rfl
@[go_sem] theorem ty65conc : Program.concrete Try.prog 65 = true := by kernel_rfl
@[go_sem] theorem ty65plc : plcT Try.prog 65 = some [(0, 1), (1, 1), (2, 1), (3, 1)] := by kernel_rfl
@[go_sem] theorem ty65fld0 : fldI Try.prog 65 0 = some (0, 1, false) := by kernel_rfl
@[go_sem] theorem ty65fld1 : fldI Try.prog 65 1 = some (1, 1, false) := by kernel_rfl
@[go_sem] theorem ty65fld2 : fldI Try.prog 65 2 = some (2, 1, false) := by kernel_rfl
@[go_sem] theorem ty65fld3 : fldI Try.prog 65 3 = some (3, 1, false) := by kernel_rfl
@[go_sem] theorem ty66tyK : tyK Try.prog 66 = .agg 4 := by kernel_rfl
@[go_sem] theorem ty66sizeT : sizeT Try.prog 66 = some 4 := by kernel_rfl
@[go_sem] theorem ty66zeroT : zeroT Try.prog 66 = some (.agg #[(.pointer none), (.pointer none), (.pointer none), (.string (ofL []))]) := by kernel_rfl
@[go_sem] theorem ty66conc : Program.concrete Try.prog 66 = true := by kernel_rfl
@[go_sem] theorem ty66plc : plcT Try.prog 66 = some [(0, 1), (1, 1), (2, 1), (3, 1)] := by kernel_rfl
@[go_sem] theorem ty66fld0 : fldI Try.prog 66 0 = some (0, 1, false) := by kernel_rfl
@[go_sem] theorem ty66fld1 : fldI Try.prog 66 1 = some (1, 1, false) := by kernel_rfl
@[go_sem] theorem ty66fld2 : fldI Try.prog 66 2 = some (2, 1, false) := by kernel_rfl
@[go_sem] theorem ty66fld3 : fldI Try.prog 66 3 = some (3, 1, false) := by kernel_rfl
@[go_sem] theorem ty67tyK : tyK Try.prog 67 = .agg 0 := by kernel_rfl
@[go_sem] theorem ty67arrI : arrI Try.prog 67 = some (0, 1, false) := by kernel_rfl
@[go_sem] theorem ty67sizeT : sizeT Try.prog 67 = some 0 := by kernel_rfl
@[go_sem] theorem ty67zeroT : zeroT Try.prog 67 = some (.agg #[]) := by kernel_rfl
@[go_sem] theorem ty67conc : Program.concrete Try.prog 67 = true := by kernel_rfl
@[go_sem] theorem ty68tyK : tyK Try.prog 68 = .agg 0 := by kernel_rfl
@[go_sem] theorem ty68sizeT : sizeT Try.prog 68 = some 0 := by kernel_rfl
@[go_sem] theorem ty68zeroT : zeroT Try.prog 68 = some (.agg #[]) := by kernel_rfl
@[go_sem] theorem ty68conc : Program.concrete Try.prog 68 = true := by kernel_rfl
@[go_sem] theorem ty68plc : plcT Try.prog 68 = some [(0, 0)] := by kernel_rfl
@[go_sem] theorem ty68fld0 : fldI Try.prog 68 0 = some (0, 0, true) := by kernel_rfl
@[go_sem] theorem ty69tyK : tyK Try.prog 69 = .agg 0 := by kernel_rfl
@[go_sem] theorem ty69sizeT : sizeT Try.prog 69 = some 0 := by kernel_rfl
@[go_sem] theorem ty69zeroT : zeroT Try.prog 69 = some (.agg #[]) := by kernel_rfl
@[go_sem] theorem ty69conc : Program.concrete Try.prog 69 = true := by kernel_rfl
@[go_sem] theorem ty69plc : plcT Try.prog 69 = some [(0, 0)] := by kernel_rfl
@[go_sem] theorem ty69fld0 : fldI Try.prog 69 0 = some (0, 0, true) := by kernel_rfl
@[go_sem] theorem ty70tyK : tyK Try.prog 70 = .int .u32 := by kernel_rfl
@[go_sem] theorem ty70sizeT : sizeT Try.prog 70 = some 1 := by kernel_rfl
@[go_sem] theorem ty70zeroT : zeroT Try.prog 70 = some (.int .u32 0) := by kernel_rfl
@[go_sem] theorem ty70conc : Program.concrete Try.prog 70 = true := by kernel_rfl
@[go_sem] theorem ty71tyK : tyK Try.prog 71 = .int .u8 := by kernel_rfl
@[go_sem] theorem ty71sizeT : sizeT Try.prog 71 = some 1 := by kernel_rfl
@[go_sem] theorem ty71zeroT : zeroT Try.prog 71 = some (.int .u8 0) := by kernel_rfl
@[go_sem] theorem ty71conc : Program.concrete Try.prog 71 = true := by kernel_rfl
@[go_sem] theorem ty72tyK : tyK Try.prog 72 = .int .u8 := by kernel_rfl
@[go_sem] theorem ty72sizeT : sizeT Try.prog 72 = some 1 := by kernel_rfl
@[go_sem] theorem ty72zeroT : zeroT Try.prog 72 = some (.int .u8 0) := by kernel_rfl
@[go_sem] theorem ty72conc : Program.concrete Try.prog 72 = true := by kernel_rfl
@[go_sem] theorem ty73tyK : tyK Try.prog 73 = .other := by kernel_rfl
@[go_sem] theorem ty73isFuncT : isFuncT Try.prog 73 = true := by kernel_rfl
@[go_sem] theorem ty73sizeT : sizeT Try.prog 73 = some 1 := by kernel_rfl
@[go_sem] theorem ty73zeroT : zeroT Try.prog 73 = some .nilFunc := by kernel_rfl
@[go_sem] theorem ty73conc : Program.concrete Try.prog 73 = true := by kernel_rfl
@[go_sem] theorem ty74tyK : tyK Try.prog 74 = .ptr := by kernel_rfl
@[go_sem] theorem ty74isPtrT : isPtrT Try.prog 74 = true := by kernel_rfl
@[go_sem] theorem ty74sizeT : sizeT Try.prog 74 = some 1 := by kernel_rfl
@[go_sem] theorem ty74zeroT : zeroT Try.prog 74 = some (.pointer none) := by kernel_rfl
@[go_sem] theorem ty74conc : Program.concrete Try.prog 74 = true := by kernel_rfl
@[go_sem] theorem ty75tyK : tyK Try.prog 75 = .int .i32 := by kernel_rfl
@[go_sem] theorem ty75sizeT : sizeT Try.prog 75 = some 1 := by kernel_rfl
@[go_sem] theorem ty75zeroT : zeroT Try.prog 75 = some (.int .i32 0) := by kernel_rfl
@[go_sem] theorem ty75conc : Program.concrete Try.prog 75 = true := by kernel_rfl
@[go_sem] theorem ty76tyK : tyK Try.prog 76 = .int .i32 := by kernel_rfl
@[go_sem] theorem ty76sizeT : sizeT Try.prog 76 = some 1 := by kernel_rfl
@[go_sem] theorem ty76zeroT : zeroT Try.prog 76 = some (.int .i32 0) := by kernel_rfl
@[go_sem] theorem ty76conc : Program.concrete Try.prog 76 = true := by kernel_rfl
@[go_sem] theorem ty77tyK : tyK Try.prog 77 = .agg 11 := by kernel_rfl
@[go_sem] theorem ty77sizeT : sizeT Try.prog 77 = some 11 := by kernel_rfl
@[go_sem] theorem ty77zeroT : zeroT Try.prog 77 = some (.agg #[(.int .u64 0), (.int .u64 0), (.int .u32 0), (.int .u8 0), (.int .u8 0), (.int .u8 0), (.int .u8 0), .nilFunc, (.pointer none), (.int .i32 0), (.int .i32 0)]) := by kernel_rfl
@[go_sem] theorem ty77conc : Program.concrete Try.prog 77 = true := by kernel_rfl
@[go_sem] theorem ty77plc : plcT Try.prog 77 = some [(0, 1), (1, 1), (2, 1), (3, 1), (4, 1), (5, 1), (6, 1), (7, 1), (8, 1), (9, 1), (10, 1)] := by kernel_rfl
@[go_sem] theorem ty77fld0 : fldI Try.prog 77 0 = some (0, 1, false) := by kernel_rfl
@[go_sem] theorem ty77fld1 : fldI Try.prog 77 1 = some (1, 1, false) := by kernel_rfl
@[go_sem] theorem ty77fld2 : fldI Try.prog 77 2 = some (2, 1, false) := by kernel_rfl
@[go_sem] theorem ty77fld3 : fldI Try.prog 77 3 = some (3, 1, false) := by kernel_rfl
@[go_sem] theorem ty77fld4 : fldI Try.prog 77 4 = some (4, 1, false) := by kernel_rfl
@[go_sem] theorem ty77fld5 : fldI Try.prog 77 5 = some (5, 1, false) := by kernel_rfl
@[go_sem] theorem ty77fld6 : fldI Try.prog 77 6 = some (6, 1, false) := by kernel_rfl
@[go_sem] theorem ty77fld7 : fldI Try.prog 77 7 = some (7, 1, false) := by kernel_rfl
@[go_sem] theorem ty77fld8 : fldI Try.prog 77 8 = some (8, 1, false) := by kernel_rfl
@[go_sem] theorem ty77fld9 : fldI Try.prog 77 9 = some (9, 1, false) := by kernel_rfl
@[go_sem] theorem ty77fld10 : fldI Try.prog 77 10 = some (10, 1, false) := by kernel_rfl
@[go_sem] theorem ty78tyK : tyK Try.prog 78 = .agg 11 := by kernel_rfl
@[go_sem] theorem ty78sizeT : sizeT Try.prog 78 = some 11 := by kernel_rfl
@[go_sem] theorem ty78zeroT : zeroT Try.prog 78 = some (.agg #[(.int .u64 0), (.int .u64 0), (.int .u32 0), (.int .u8 0), (.int .u8 0), (.int .u8 0), (.int .u8 0), .nilFunc, (.pointer none), (.int .i32 0), (.int .i32 0)]) := by kernel_rfl
@[go_sem] theorem ty78conc : Program.concrete Try.prog 78 = true := by kernel_rfl
@[go_sem] theorem ty78plc : plcT Try.prog 78 = some [(0, 1), (1, 1), (2, 1), (3, 1), (4, 1), (5, 1), (6, 1), (7, 1), (8, 1), (9, 1), (10, 1)] := by kernel_rfl
@[go_sem] theorem ty78fld0 : fldI Try.prog 78 0 = some (0, 1, false) := by kernel_rfl
@[go_sem] theorem ty78fld1 : fldI Try.prog 78 1 = some (1, 1, false) := by kernel_rfl
@[go_sem] theorem ty78fld2 : fldI Try.prog 78 2 = some (2, 1, false) := by kernel_rfl
@[go_sem] theorem ty78fld3 : fldI Try.prog 78 3 = some (3, 1, false) := by kernel_rfl
@[go_sem] theorem ty78fld4 : fldI Try.prog 78 4 = some (4, 1, false) := by kernel_rfl
@[go_sem] theorem ty78fld5 : fldI Try.prog 78 5 = some (5, 1, false) := by kernel_rfl
@[go_sem] theorem ty78fld6 : fldI Try.prog 78 6 = some (6, 1, false) := by kernel_rfl
@[go_sem] theorem ty78fld7 : fldI Try.prog 78 7 = some (7, 1, false) := by kernel_rfl
@[go_sem] theorem ty78fld8 : fldI Try.prog 78 8 = some (8, 1, false) := by kernel_rfl
@[go_sem] theorem ty78fld9 : fldI Try.prog 78 9 = some (9, 1, false) := by kernel_rfl
@[go_sem] theorem ty78fld10 : fldI Try.prog 78 10 = some (10, 1, false) := by kernel_rfl
@[go_sem] theorem ty79tyK : tyK Try.prog 79 = .other := by kernel_rfl
@[go_sem] theorem ty79sizeT : sizeT Try.prog 79 = some 1 := by kernel_rfl
@[go_sem] theorem ty79zeroT : zeroT Try.prog 79 = some (.pointer none) := by kernel_rfl
@[go_sem] theorem ty79conc : Program.concrete Try.prog 79 = true := by kernel_rfl
/- Function 3: annalistlaw24.SlotPuts -/
noncomputable def c3code : Code := match Try.f3.body with | some c => c | none => .skip
noncomputable def c3S0 (_ : Unit) : Cmd := .ret
noncomputable def c3S1 (_ : Unit) : Cmd := .ret
noncomputable def c3S2 (_ : Unit) : Cmd := .ret
noncomputable def c3S3 (_ : Unit) : Cmd := (.seq (.ops [
 ⟨some 51, .move (.tmp 7), 9, none⟩,
 ⟨some 52, .load 24 (.tmp 10), 24, none⟩,
 ⟨some 53, .call ⟨.value (.func 11), #[(.tmp 52)], #[24]⟩, 9, none⟩,
 ⟨some 54, .binOp .eql 9 (.tmp 51) (.tmp 53) 9, 4, none⟩,
 ⟨some 55, .move (.tmp 54), 4, none⟩,
 ⟨some 56, .call ⟨.value (.func 8), #[], #[]⟩, 4, (some (55, true))⟩,
 ⟨some 57, .pick (.tmp 55) (.tmp 56) (.const (.bool false)), 4, none⟩,
 ⟨some 4, .assign (.tmp 57), 4, none⟩] [4]) (sg c3S2))
noncomputable def c3S4 (_ : Unit) : Cmd := (.seq (.seq (.ops [
 ⟨some 43, .move (.tmp 12), 4, none⟩,
 ⟨some 44, .unOp .not 4 (.tmp 43), 4, none⟩] [0, 7, 10, 44])
 (.cond (.tmp 44)
  (.seq (.ops [
  ⟨some 45, .move (.tmp 7), 9, none⟩,
  ⟨some 46, .move (.tmp 0), 9, none⟩,
  ⟨some 47, .binOp .eql 9 (.tmp 45) (.tmp 46) 9, 4, none⟩,
  ⟨some 48, .move (.tmp 47), 4, none⟩,
  ⟨some 49, .call ⟨.value (.func 8), #[], #[]⟩, 4, (some (48, true))⟩,
  ⟨some 50, .pick (.tmp 48) (.tmp 49) (.const (.bool false)), 4, none⟩,
  ⟨some 4, .assign (.tmp 50), 4, none⟩] [4]) (sg c3S1))
  (.skip [7, 10]))) (sg c3S3))
noncomputable def c3S5 (_ : Unit) : Cmd := (.seq (.seq (.ops [
 ⟨some 35, .move (.tmp 9), 4, none⟩,
 ⟨some 36, .move (.tmp 12), 4, none⟩,
 ⟨some 37, .binOp .neq 4 (.tmp 35) (.tmp 36) 4, 4, none⟩,
 ⟨some 38, .move (.tmp 37), 4, none⟩,
 ⟨some 39, .move (.tmp 8), 3, (some (38, false))⟩,
 ⟨some 40, .move (.tmp 11), 3, (some (38, false))⟩,
 ⟨some 41, .binOp .neq 3 (.tmp 39) (.tmp 40) 3, 4, (some (38, false))⟩,
 ⟨some 42, .pick (.tmp 38) (.const (.bool true)) (.tmp 41), 4, none⟩] [0, 7, 10, 12, 42])
 (.cond (.tmp 42)
  (.seq (.ops [
  ⟨some 4, .assign (.const (.bool false)), 4, none⟩] [4])
  .ret)
  (.skip [0, 7, 10, 12]))) (sg c3S4))
noncomputable def c3S6 (_ : Unit) : Cmd := (.seq (.ops [
 ⟨some 29, .load 24 (.tmp 5), 24, none⟩,
 ⟨some 30, .move (.tmp 1), 9, none⟩,
 ⟨some 31, .call ⟨.value (.func 10), #[(.tmp 29), (.tmp 30)], #[24, 9]⟩, 30, none⟩,
 ⟨some 28, .move (.tmp 31), 30, none⟩,
 ⟨some 32, .extract (.tmp 28) 0, 24, none⟩,
 ⟨some 33, .extract (.tmp 28) 1, 3, none⟩,
 ⟨some 34, .extract (.tmp 28) 2, 4, none⟩,
 ⟨some 10, .alloc 24, 0, none⟩,
 ⟨none, .store 24 (.tmp 10) (.tmp 32), 0, none⟩,
 ⟨some 11, .assign (.tmp 33), 3, none⟩,
 ⟨some 12, .assign (.tmp 34), 4, none⟩] [0, 7, 8, 9, 10, 11, 12]) (sg c3S5))
noncomputable def c3S7 (_ : Unit) : Cmd := (.seq (.ops [
 ⟨some 22, .move (.tmp 0), 9, none⟩,
 ⟨some 23, .move (.tmp 1), 9, none⟩,
 ⟨some 24, .call ⟨.value (.func 9), #[(.tmp 22), (.tmp 23)], #[9, 9]⟩, 28, none⟩,
 ⟨some 21, .move (.tmp 24), 28, none⟩,
 ⟨some 25, .extract (.tmp 21) 0, 9, none⟩,
 ⟨some 26, .extract (.tmp 21) 1, 3, none⟩,
 ⟨some 27, .extract (.tmp 21) 2, 4, none⟩,
 ⟨some 7, .assign (.tmp 25), 9, none⟩,
 ⟨some 8, .assign (.tmp 26), 3, none⟩,
 ⟨some 9, .assign (.tmp 27), 4, none⟩] [0, 1, 5, 7, 8, 9]) (sg c3S6))
noncomputable def c3S8 (_ : Unit) : Cmd := (.seq (.seq (.ops [
 ⟨some 18, .move (.tmp 6), 4, none⟩,
 ⟨some 19, .unOp .not 4 (.tmp 18), 4, none⟩] [0, 1, 5, 19])
 (.cond (.tmp 19)
  (.seq (.ops [
  ⟨some 20, .call ⟨.value (.func 8), #[], #[]⟩, 4, none⟩,
  ⟨some 4, .assign (.tmp 20), 4, none⟩] [4]) (sg c3S0))
  (.skip [0, 1, 5]))) (sg c3S7))
noncomputable def c3 : Cmd := (.seq (.ops [
 ⟨some 4, .assign (.const (.bool false)), 4, none⟩] [0, 1])
 (.seq (.ops [
 ⟨some 14, .move (.tmp 0), 9, none⟩,
 ⟨some 15, .call ⟨.value (.func 7), #[(.tmp 14)], #[9]⟩, 25, none⟩,
 ⟨some 13, .move (.tmp 15), 25, none⟩,
 ⟨some 16, .extract (.tmp 13) 0, 24, none⟩,
 ⟨some 17, .extract (.tmp 13) 1, 4, none⟩,
 ⟨some 5, .alloc 24, 0, none⟩,
 ⟨none, .store 24 (.tmp 5) (.tmp 16), 0, none⟩,
 ⟨some 6, .assign (.tmp 17), 4, none⟩] [0, 1, 5, 6]) (sg c3S8)))
set_option maxRecDepth 100000 in
theorem ent3 (a0 a1 : Value) (w : World) (K : Value → World → Prop) (h : W Try.prog c3 [(0, a0), (1, a1)] w (finQ Try.prog [.tmp 4] K)) : Ret Try.prog 3 [a0, a1] w K :=
  Ret_of_W (code := c3code) Try.func3 (by kernel_rfl) (by kernel_rfl) (of_decide_eq_true (by kernel_rfl)) h
--SIMP 3 c3 c3S0 c3S1 c3S2 c3S3 c3S4 c3S5 c3S6 c3S7 c3S8 TYS 3 4 9 24 FNS 7 8 9 10 11
@[go_sem] theorem go3 : goFunc Try.prog 3 = true := by kernel_rfl
/- Function 4: annalistlaw24.SlotBack -/
noncomputable def c4code : Code := match Try.f4.body with | some c => c | none => .skip
noncomputable def c4S0 (_ : Unit) : Cmd := .ret
noncomputable def c4S1 (_ : Unit) : Cmd := .ret
noncomputable def c4S2 (_ : Unit) : Cmd := (.seq (.ops [
 ⟨some 64, .move (.tmp 12), 3, none⟩,
 ⟨some 65, .move (.tmp 8), 3, none⟩,
 ⟨some 66, .binOp .neq 3 (.tmp 64) (.tmp 65) 3, 4, none⟩,
 ⟨some 67, .move (.tmp 66), 4, none⟩,
 ⟨some 68, .move (.tmp 13), 9, (some (67, true))⟩,
 ⟨some 69, .move (.tmp 15), 9, (some (67, true))⟩,
 ⟨some 70, .binOp .neq 9 (.tmp 68) (.tmp 69) 9, 4, (some (67, true))⟩,
 ⟨some 71, .move (.tmp 70), 4, (some (67, true))⟩,
 ⟨some 72, .move (.tmp 14), 4, (some (71, false))⟩,
 ⟨some 73, .move (.tmp 16), 4, (some (71, false))⟩,
 ⟨some 74, .binOp .neq 4 (.tmp 72) (.tmp 73) 4, 4, (some (71, false))⟩,
 ⟨some 75, .pick (.tmp 71) (.const (.bool true)) (.tmp 74), 4, (some (67, true))⟩,
 ⟨some 76, .pick (.tmp 67) (.tmp 75) (.const (.bool false)), 4, none⟩] [1, 5, 7, 8, 10, 11, 12, 76])
 (.cond (.tmp 76)
  (.seq (.ops [
  ⟨some 4, .assign (.const (.bool false)), 4, none⟩] [4])
  .ret)
  (.skip [1, 5, 7, 8, 10, 11, 12])))
noncomputable def c4S3 (_ : Unit) : Cmd := (.seq (.ops [
 ⟨some 59, .load 24 (.tmp 5), 24, none⟩,
 ⟨some 60, .move (.tmp 12), 3, none⟩,
 ⟨some 61, .call ⟨.value (.func 13), #[(.tmp 59), (.tmp 60)], #[24, 3]⟩, 34, none⟩,
 ⟨some 58, .move (.tmp 61), 34, none⟩,
 ⟨some 62, .extract (.tmp 58) 0, 9, none⟩,
 ⟨some 63, .extract (.tmp 58) 1, 4, none⟩,
 ⟨some 15, .assign (.tmp 62), 9, none⟩,
 ⟨some 16, .assign (.tmp 63), 4, none⟩] [1, 5, 7, 8, 10, 11, 12, 13, 14, 15, 16]) (sg c4S2))
noncomputable def c4S4 (_ : Unit) : Cmd := (.ops [
 ⟨some 50, .move (.tmp 12), 3, none⟩,
 ⟨some 51, .binOp .add 3 (.tmp 50) (.const (.int .i64 1)) 3, 3, none⟩,
 ⟨some 12, .assign (.tmp 51), 3, none⟩] [1, 5, 7, 8, 10, 11, 12])
noncomputable def c4S5 (_ : Unit) : Cmd := (.seq (.block 1 (.seq (.ops [
 ⟨some 53, .move (.tmp 7), 9, none⟩,
 ⟨some 54, .move (.tmp 12), 3, none⟩,
 ⟨some 55, .call ⟨.value (.func 12), #[(.tmp 53), (.tmp 54)], #[9, 3]⟩, 34, none⟩,
 ⟨some 52, .move (.tmp 55), 34, none⟩,
 ⟨some 56, .extract (.tmp 52) 0, 9, none⟩,
 ⟨some 57, .extract (.tmp 52) 1, 4, none⟩,
 ⟨some 13, .assign (.tmp 56), 9, none⟩,
 ⟨some 14, .assign (.tmp 57), 4, none⟩] [1, 5, 7, 8, 10, 11, 12, 13, 14]) (sg c4S3))) (sg c4S4))
noncomputable def c4L0 (_ : Unit) : Cmd := (.seq (.seq (.ops [
 ⟨some 45, .move (.tmp 12), 3, none⟩,
 ⟨some 46, .fieldAddr 24 (.tmp 5) 1, 0, none⟩,
 ⟨some 47, .load 22 (.tmp 46), 22, none⟩,
 ⟨some 48, .call ⟨.builtin .len, #[(.tmp 47)], #[22]⟩, 3, none⟩,
 ⟨some 49, .binOp .lss 3 (.tmp 45) (.tmp 48) 3, 4, none⟩] [1, 5, 7, 8, 10, 11, 12, 49])
 (.cond (.tmp 49)
  (.skip [1, 5, 7, 8, 10, 11, 12])
  (.exit 0 [1, 5, 7, 8, 10, 11]))) (sg c4S5))
noncomputable def c4S6 (_ : Unit) : Cmd := .ret
noncomputable def c4S7 (_ : Unit) : Cmd := (.seq (.draw (drawOps 0 c4code) [4]) (sg c4S6))
noncomputable def c4S8 (_ : Unit) : Cmd := (.seq (.ops [
 ⟨some 84, .move (.tmp 17), 9, none⟩,
 ⟨some 85, .call ⟨.value (.func 7), #[(.tmp 84)], #[9]⟩, 25, none⟩,
 ⟨some 83, .move (.tmp 85), 25, none⟩,
 ⟨some 86, .extract (.tmp 83) 0, 24, none⟩,
 ⟨some 87, .extract (.tmp 83) 1, 4, none⟩,
 ⟨some 19, .alloc 24, 0, none⟩,
 ⟨none, .store 24 (.tmp 19) (.tmp 86), 0, none⟩,
 ⟨some 20, .assign (.tmp 87), 4, none⟩] [1, 5, 10, 11, 17, 18, 19, 20]) (sg c4S7))
noncomputable def c4S9 (_ : Unit) : Cmd := (.seq (.ops [
 ⟨some 78, .move (.tmp 7), 9, none⟩,
 ⟨some 79, .move (.tmp 8), 3, none⟩,
 ⟨some 80, .call ⟨.value (.func 14), #[(.tmp 78), (.tmp 79)], #[9, 3]⟩, 34, none⟩,
 ⟨some 77, .move (.tmp 80), 34, none⟩,
 ⟨some 81, .extract (.tmp 77) 0, 9, none⟩,
 ⟨some 82, .extract (.tmp 77) 1, 4, none⟩,
 ⟨some 17, .assign (.tmp 81), 9, none⟩,
 ⟨some 18, .assign (.tmp 82), 4, none⟩] [1, 5, 10, 11, 17, 18]) (sg c4S8))
noncomputable def c4S10 (_ : Unit) : Cmd := (.seq (.seq (.ops [
 ⟨some 12, .assign (.const (.int .i64 0)), 3, none⟩] [1, 5, 7, 8, 10, 11, 12])
 (.block 0 (.loop (sg c4L0)))) (sg c4S9))
noncomputable def c4S11 (_ : Unit) : Cmd := (.seq (.ops [
 ⟨some 40, .move (.tmp 7), 9, none⟩,
 ⟨some 41, .move (.tmp 8), 3, none⟩,
 ⟨some 42, .call ⟨.value (.func 12), #[(.tmp 40), (.tmp 41)], #[9, 3]⟩, 34, none⟩,
 ⟨some 39, .move (.tmp 42), 34, none⟩,
 ⟨some 43, .extract (.tmp 39) 0, 9, none⟩,
 ⟨some 44, .extract (.tmp 39) 1, 4, none⟩,
 ⟨some 10, .assign (.tmp 43), 9, none⟩,
 ⟨some 11, .assign (.tmp 44), 4, none⟩] [1, 5, 7, 8, 10, 11]) (sg c4S10))
noncomputable def c4S12 (_ : Unit) : Cmd := (.seq (.seq (.ops [
 ⟨some 36, .move (.tmp 9), 4, none⟩,
 ⟨some 37, .unOp .not 4 (.tmp 36), 4, none⟩] [1, 5, 7, 8, 37])
 (.cond (.tmp 37)
  (.seq (.ops [
  ⟨some 38, .call ⟨.value (.func 8), #[], #[]⟩, 4, none⟩,
  ⟨some 4, .assign (.tmp 38), 4, none⟩] [4]) (sg c4S1))
  (.skip [1, 5, 7, 8]))) (sg c4S11))
noncomputable def c4S13 (_ : Unit) : Cmd := (.seq (.ops [
 ⟨some 30, .move (.tmp 0), 9, none⟩,
 ⟨some 31, .move (.tmp 1), 9, none⟩,
 ⟨some 32, .call ⟨.value (.func 9), #[(.tmp 30), (.tmp 31)], #[9, 9]⟩, 28, none⟩,
 ⟨some 29, .move (.tmp 32), 28, none⟩,
 ⟨some 33, .extract (.tmp 29) 0, 9, none⟩,
 ⟨some 34, .extract (.tmp 29) 1, 3, none⟩,
 ⟨some 35, .extract (.tmp 29) 2, 4, none⟩,
 ⟨some 7, .assign (.tmp 33), 9, none⟩,
 ⟨some 8, .assign (.tmp 34), 3, none⟩,
 ⟨some 9, .assign (.tmp 35), 4, none⟩] [1, 5, 7, 8, 9]) (sg c4S12))
noncomputable def c4S14 (_ : Unit) : Cmd := (.seq (.seq (.ops [
 ⟨some 26, .move (.tmp 6), 4, none⟩,
 ⟨some 27, .unOp .not 4 (.tmp 26), 4, none⟩] [0, 1, 5, 27])
 (.cond (.tmp 27)
  (.seq (.ops [
  ⟨some 28, .call ⟨.value (.func 8), #[], #[]⟩, 4, none⟩,
  ⟨some 4, .assign (.tmp 28), 4, none⟩] [4]) (sg c4S0))
  (.skip [0, 1, 5]))) (sg c4S13))
noncomputable def c4 : Cmd := (.seq (.ops [
 ⟨some 4, .assign (.const (.bool false)), 4, none⟩] [0, 1])
 (.seq (.ops [
 ⟨some 22, .move (.tmp 0), 9, none⟩,
 ⟨some 23, .call ⟨.value (.func 7), #[(.tmp 22)], #[9]⟩, 25, none⟩,
 ⟨some 21, .move (.tmp 23), 25, none⟩,
 ⟨some 24, .extract (.tmp 21) 0, 24, none⟩,
 ⟨some 25, .extract (.tmp 21) 1, 4, none⟩,
 ⟨some 5, .alloc 24, 0, none⟩,
 ⟨none, .store 24 (.tmp 5) (.tmp 24), 0, none⟩,
 ⟨some 6, .assign (.tmp 25), 4, none⟩] [0, 1, 5, 6]) (sg c4S14)))
noncomputable def c4D0 : List (Nat × Ins) := [
 (0, ⟨some 88, .move (.tmp 11), 4, none⟩),
 (0, ⟨some 89, .move (.tmp 88), 4, none⟩),
 (0, ⟨some 90, .move (.tmp 10), 9, (some (89, true))⟩),
 (0, ⟨some 91, .move (.tmp 1), 9, (some (89, true))⟩),
 (0, ⟨some 92, .binOp .eql 9 (.tmp 90) (.tmp 91) 9, 4, (some (89, true))⟩),
 (0, ⟨some 93, .pick (.tmp 89) (.tmp 92) (.const (.bool false)), 4, none⟩),
 (0, ⟨some 94, .move (.tmp 93), 4, none⟩),
 (0, ⟨some 95, .move (.tmp 18), 4, (some (94, true))⟩),
 (0, ⟨some 96, .pick (.tmp 94) (.tmp 95) (.const (.bool false)), 4, none⟩),
 (0, ⟨some 97, .move (.tmp 96), 4, none⟩),
 (0, ⟨some 98, .move (.tmp 20), 4, (some (97, true))⟩),
 (0, ⟨some 99, .pick (.tmp 97) (.tmp 98) (.const (.bool false)), 4, none⟩),
 (0, ⟨some 100, .move (.tmp 99), 4, none⟩),
 (0, ⟨some 101, .fieldAddr 24 (.tmp 19) 1, 0, (some (100, true))⟩),
 (0, ⟨some 103, .fieldAddr 24 (.tmp 5) 1, 0, (some (100, true))⟩),
 (1, ⟨some 102, .load 22 (.tmp 101), 22, (some (100, true))⟩),
 (2, ⟨some 104, .load 22 (.tmp 103), 22, (some (100, true))⟩),
 (2, ⟨some 105, .call ⟨.value (.func 15), #[(.tmp 102), (.tmp 104)], #[22, 22]⟩, 4, (some (100, true))⟩),
 (0, ⟨some 106, .pick (.tmp 100) (.tmp 105) (.const (.bool false)), 4, none⟩),
 (0, ⟨some 107, .move (.tmp 106), 4, none⟩),
 (0, ⟨some 108, .move (.tmp 17), 9, (some (107, true))⟩),
 (1, ⟨some 110, .load 24 (.tmp 5), 24, (some (107, true))⟩),
 (2, ⟨some 109, .call ⟨.value (.func 16), #[(.tmp 108)], #[9]⟩, 3, (some (107, true))⟩),
 (2, ⟨some 111, .call ⟨.value (.func 17), #[(.tmp 110)], #[24]⟩, 3, (some (107, true))⟩),
 (0, ⟨some 112, .binOp .eql 3 (.tmp 109) (.tmp 111) 3, 4, (some (107, true))⟩),
 (0, ⟨some 113, .pick (.tmp 107) (.tmp 112) (.const (.bool false)), 4, none⟩),
 (0, ⟨some 114, .move (.tmp 113), 4, none⟩),
 (2, ⟨some 115, .call ⟨.value (.func 8), #[], #[]⟩, 4, (some (114, true))⟩),
 (0, ⟨some 116, .pick (.tmp 114) (.tmp 115) (.const (.bool false)), 4, none⟩),
 (0, ⟨some 4, .assign (.tmp 116), 4, none⟩)]
theorem c4draw0 {L : List Nat} {ρ : Env} {w : World} {Q : Post} (S : World → Prop) (hS : S w.drew) (h : DG Try.prog S c4D0 L ρ w.drew Q) : drawW Try.prog (drawOps 0 c4code) L ρ w Q :=
  drawW_held [14, 22] [(0, 0), (0, 1), (0, 2), (0, 3), (0, 4), (0, 5), (0, 6), (0, 7), (0, 8), (0, 9), (0, 10), (0, 11), (0, 12), (0, 13), (0, 15), (1, 14), (2, 16), (2, 17), (0, 18), (0, 19), (0, 20), (1, 22), (2, 21), (2, 23), (0, 24), (0, 25), (0, 26), (2, 27), (0, 28), (0, 29)] c4D0 (by kernel_rfl) (by kernel_rfl) (by kernel_rfl) S hS h
set_option maxRecDepth 100000 in
theorem ent4 (a0 a1 : Value) (w : World) (K : Value → World → Prop) (h : W Try.prog c4 [(0, a0), (1, a1)] w (finQ Try.prog [.tmp 4] K)) : Ret Try.prog 4 [a0, a1] w K :=
  Ret_of_W (code := c4code) Try.func4 (by kernel_rfl) (by kernel_rfl) (of_decide_eq_true (by kernel_rfl)) h
--SIMP 4 c4 c4S0 c4S1 c4S2 c4S3 c4S4 c4S5 c4L0 c4S6 c4S7 c4S8 c4S9 c4S10 c4S11 c4S12 c4S13 c4S14 TYS 3 4 9 22 24 FNS 7 8 9 12 13 14 15 16 17
@[go_sem] theorem go4 : goFunc Try.prog 4 = true := by kernel_rfl
/- Function 5: annalistlaw24.SlotSets -/
noncomputable def c5code : Code := match Try.f5.body with | some c => c | none => .skip
noncomputable def c5S0 (_ : Unit) : Cmd := .ret
noncomputable def c5S1 (_ : Unit) : Cmd := .ret
noncomputable def c5S2 (_ : Unit) : Cmd := (.seq (.ops [
 ⟨some 59, .move (.tmp 12), 4, none⟩,
 ⟨some 60, .move (.tmp 59), 4, none⟩,
 ⟨some 61, .move (.tmp 9), 9, (some (60, true))⟩,
 ⟨some 62, .load 24 (.tmp 11), 24, (some (60, true))⟩,
 ⟨some 63, .call ⟨.value (.func 11), #[(.tmp 62)], #[24]⟩, 9, (some (60, true))⟩,
 ⟨some 64, .binOp .eql 9 (.tmp 61) (.tmp 63) 9, 4, (some (60, true))⟩,
 ⟨some 65, .pick (.tmp 60) (.tmp 64) (.const (.bool false)), 4, none⟩,
 ⟨some 66, .move (.tmp 65), 4, none⟩,
 ⟨some 67, .move (.tmp 12), 4, (some (66, false))⟩,
 ⟨some 68, .unOp .not 4 (.tmp 67), 4, (some (66, false))⟩,
 ⟨some 69, .move (.tmp 68), 4, (some (66, false))⟩,
 ⟨some 70, .move (.tmp 9), 9, (some (69, true))⟩,
 ⟨some 71, .move (.tmp 0), 9, (some (69, true))⟩,
 ⟨some 72, .binOp .eql 9 (.tmp 70) (.tmp 71) 9, 4, (some (69, true))⟩,
 ⟨some 73, .pick (.tmp 69) (.tmp 72) (.const (.bool false)), 4, (some (66, false))⟩,
 ⟨some 74, .pick (.tmp 66) (.const (.bool true)) (.tmp 73), 4, none⟩,
 ⟨some 75, .move (.tmp 74), 4, none⟩,
 ⟨some 76, .move (.tmp 16), 4, (some (75, true))⟩,
 ⟨some 77, .move (.tmp 76), 4, (some (75, true))⟩,
 ⟨some 78, .move (.tmp 13), 9, (some (77, true))⟩,
 ⟨some 79, .load 24 (.tmp 15), 24, (some (77, true))⟩,
 ⟨some 80, .call ⟨.value (.func 11), #[(.tmp 79)], #[24]⟩, 9, (some (77, true))⟩,
 ⟨some 81, .binOp .eql 9 (.tmp 78) (.tmp 80) 9, 4, (some (77, true))⟩,
 ⟨some 82, .pick (.tmp 77) (.tmp 81) (.const (.bool false)), 4, (some (75, true))⟩,
 ⟨some 83, .move (.tmp 82), 4, (some (75, true))⟩,
 ⟨some 84, .move (.tmp 16), 4, (some (83, false))⟩,
 ⟨some 85, .unOp .not 4 (.tmp 84), 4, (some (83, false))⟩,
 ⟨some 86, .move (.tmp 85), 4, (some (83, false))⟩,
 ⟨some 87, .move (.tmp 13), 9, (some (86, true))⟩,
 ⟨some 88, .move (.tmp 0), 9, (some (86, true))⟩,
 ⟨some 89, .binOp .eql 9 (.tmp 87) (.tmp 88) 9, 4, (some (86, true))⟩,
 ⟨some 90, .pick (.tmp 86) (.tmp 89) (.const (.bool false)), 4, (some (83, false))⟩,
 ⟨some 91, .pick (.tmp 83) (.const (.bool true)) (.tmp 90), 4, (some (75, true))⟩,
 ⟨some 92, .pick (.tmp 75) (.tmp 91) (.const (.bool false)), 4, none⟩,
 ⟨some 93, .move (.tmp 92), 4, none⟩,
 ⟨some 94, .call ⟨.value (.func 8), #[], #[]⟩, 4, (some (93, true))⟩,
 ⟨some 95, .pick (.tmp 93) (.tmp 94) (.const (.bool false)), 4, none⟩,
 ⟨some 6, .assign (.tmp 95), 4, none⟩] [6]) (sg c5S1))
noncomputable def c5S3 (_ : Unit) : Cmd := (.seq (.seq (.ops [
 ⟨some 51, .move (.tmp 10), 4, none⟩,
 ⟨some 52, .move (.tmp 12), 4, none⟩,
 ⟨some 53, .binOp .neq 4 (.tmp 51) (.tmp 52) 4, 4, none⟩,
 ⟨some 54, .move (.tmp 53), 4, none⟩,
 ⟨some 55, .move (.tmp 14), 4, (some (54, false))⟩,
 ⟨some 56, .move (.tmp 16), 4, (some (54, false))⟩,
 ⟨some 57, .binOp .neq 4 (.tmp 55) (.tmp 56) 4, 4, (some (54, false))⟩,
 ⟨some 58, .pick (.tmp 54) (.const (.bool true)) (.tmp 57), 4, none⟩] [0, 9, 11, 12, 13, 15, 16, 58])
 (.cond (.tmp 58)
  (.seq (.ops [
  ⟨some 6, .assign (.const (.bool false)), 4, none⟩] [6])
  .ret)
  (.skip [0, 9, 11, 12, 13, 15, 16]))) (sg c5S2))
noncomputable def c5S4 (_ : Unit) : Cmd := (.seq (.ops [
 ⟨some 46, .load 24 (.tmp 7), 24, none⟩,
 ⟨some 47, .move (.tmp 1), 3, none⟩,
 ⟨some 48, .call ⟨.value (.func 20), #[(.tmp 46), (.tmp 47)], #[24, 3]⟩, 25, none⟩,
 ⟨some 45, .move (.tmp 48), 25, none⟩,
 ⟨some 49, .extract (.tmp 45) 0, 24, none⟩,
 ⟨some 50, .extract (.tmp 45) 1, 4, none⟩,
 ⟨some 15, .alloc 24, 0, none⟩,
 ⟨none, .store 24 (.tmp 15) (.tmp 49), 0, none⟩,
 ⟨some 16, .assign (.tmp 50), 4, none⟩] [0, 9, 10, 11, 12, 13, 14, 15, 16]) (sg c5S3))
noncomputable def c5S5 (_ : Unit) : Cmd := (.seq (.ops [
 ⟨some 40, .move (.tmp 0), 9, none⟩,
 ⟨some 41, .move (.tmp 1), 3, none⟩,
 ⟨some 42, .call ⟨.value (.func 14), #[(.tmp 40), (.tmp 41)], #[9, 3]⟩, 34, none⟩,
 ⟨some 39, .move (.tmp 42), 34, none⟩,
 ⟨some 43, .extract (.tmp 39) 0, 9, none⟩,
 ⟨some 44, .extract (.tmp 39) 1, 4, none⟩,
 ⟨some 13, .assign (.tmp 43), 9, none⟩,
 ⟨some 14, .assign (.tmp 44), 4, none⟩] [0, 1, 7, 9, 10, 11, 12, 13, 14]) (sg c5S4))
noncomputable def c5S6 (_ : Unit) : Cmd := (.seq (.ops [
 ⟨some 33, .load 24 (.tmp 7), 24, none⟩,
 ⟨some 34, .move (.tmp 1), 3, none⟩,
 ⟨some 35, .move (.tmp 2), 9, none⟩,
 ⟨some 36, .call ⟨.value (.func 19), #[(.tmp 33), (.tmp 34), (.tmp 35)], #[24, 3, 9]⟩, 25, none⟩,
 ⟨some 32, .move (.tmp 36), 25, none⟩,
 ⟨some 37, .extract (.tmp 32) 0, 24, none⟩,
 ⟨some 38, .extract (.tmp 32) 1, 4, none⟩,
 ⟨some 11, .alloc 24, 0, none⟩,
 ⟨none, .store 24 (.tmp 11) (.tmp 37), 0, none⟩,
 ⟨some 12, .assign (.tmp 38), 4, none⟩] [0, 1, 7, 9, 10, 11, 12]) (sg c5S5))
noncomputable def c5S7 (_ : Unit) : Cmd := (.seq (.ops [
 ⟨some 26, .move (.tmp 0), 9, none⟩,
 ⟨some 27, .move (.tmp 1), 3, none⟩,
 ⟨some 28, .move (.tmp 2), 9, none⟩,
 ⟨some 29, .call ⟨.value (.func 18), #[(.tmp 26), (.tmp 27), (.tmp 28)], #[9, 3, 9]⟩, 34, none⟩,
 ⟨some 25, .move (.tmp 29), 34, none⟩,
 ⟨some 30, .extract (.tmp 25) 0, 9, none⟩,
 ⟨some 31, .extract (.tmp 25) 1, 4, none⟩,
 ⟨some 9, .assign (.tmp 30), 9, none⟩,
 ⟨some 10, .assign (.tmp 31), 4, none⟩] [0, 1, 2, 7, 9, 10]) (sg c5S6))
noncomputable def c5S8 (_ : Unit) : Cmd := (.seq (.seq (.ops [
 ⟨some 22, .move (.tmp 8), 4, none⟩,
 ⟨some 23, .unOp .not 4 (.tmp 22), 4, none⟩] [0, 1, 2, 7, 23])
 (.cond (.tmp 23)
  (.seq (.ops [
  ⟨some 24, .call ⟨.value (.func 8), #[], #[]⟩, 4, none⟩,
  ⟨some 6, .assign (.tmp 24), 4, none⟩] [6]) (sg c5S0))
  (.skip [0, 1, 2, 7]))) (sg c5S7))
noncomputable def c5 : Cmd := (.seq (.ops [
 ⟨some 6, .assign (.const (.bool false)), 4, none⟩] [0, 1, 2])
 (.seq (.ops [
 ⟨some 18, .move (.tmp 0), 9, none⟩,
 ⟨some 19, .call ⟨.value (.func 7), #[(.tmp 18)], #[9]⟩, 25, none⟩,
 ⟨some 17, .move (.tmp 19), 25, none⟩,
 ⟨some 20, .extract (.tmp 17) 0, 24, none⟩,
 ⟨some 21, .extract (.tmp 17) 1, 4, none⟩,
 ⟨some 7, .alloc 24, 0, none⟩,
 ⟨none, .store 24 (.tmp 7) (.tmp 20), 0, none⟩,
 ⟨some 8, .assign (.tmp 21), 4, none⟩] [0, 1, 2, 7, 8]) (sg c5S8)))
set_option maxRecDepth 100000 in
theorem ent5 (a0 a1 a2 : Value) (w : World) (K : Value → World → Prop) (h : W Try.prog c5 [(0, a0), (1, a1), (2, a2)] w (finQ Try.prog [.tmp 6] K)) : Ret Try.prog 5 [a0, a1, a2] w K :=
  Ret_of_W (code := c5code) Try.func5 (by kernel_rfl) (by kernel_rfl) (of_decide_eq_true (by kernel_rfl)) h
--SIMP 5 c5 c5S0 c5S1 c5S2 c5S3 c5S4 c5S5 c5S6 c5S7 c5S8 TYS 4 9 24 FNS 7 8 11 14 18 19 20
@[go_sem] theorem go5 : goFunc Try.prog 5 = true := by kernel_rfl
/- Function 6: annalistlaw24.SlotPlays -/
noncomputable def c6code : Code := match Try.f6.body with | some c => c | none => .skip
noncomputable def c6S0 (_ : Unit) : Cmd := (.ops [
  ⟨some 69, .load 24 (.tmp 6), 24, none⟩,
  ⟨some 70, .fieldAddr 47 (.tmp 9) 2, 0, none⟩,
  ⟨some 71, .load 9 (.tmp 70), 9, none⟩,
  ⟨some 72, .call ⟨.value (.func 10), #[(.tmp 69), (.tmp 71)], #[24, 9]⟩, 30, none⟩,
  ⟨some 68, .move (.tmp 72), 30, none⟩,
  ⟨some 73, .extract (.tmp 68) 0, 24, none⟩,
  ⟨some 74, .extract (.tmp 68) 1, 3, none⟩,
  ⟨some 75, .extract (.tmp 68) 2, 4, none⟩,
  ⟨none, .store 24 (.tmp 6) (.tmp 73), 0, none⟩] [1, 5, 6, 8])
noncomputable def c6S1 (_ : Unit) : Cmd := (.ops [
   ⟨some 86, .load 24 (.tmp 6), 24, none⟩,
   ⟨some 87, .fieldAddr 47 (.tmp 9) 1, 0, none⟩,
   ⟨some 88, .load 3 (.tmp 87), 3, none⟩,
   ⟨some 89, .call ⟨.value (.func 20), #[(.tmp 86), (.tmp 88)], #[24, 3]⟩, 25, none⟩,
   ⟨some 85, .move (.tmp 89), 25, none⟩,
   ⟨some 90, .extract (.tmp 85) 0, 24, none⟩,
   ⟨some 91, .extract (.tmp 85) 1, 4, none⟩,
   ⟨none, .store 24 (.tmp 6) (.tmp 90), 0, none⟩] [1, 5, 6, 8])
noncomputable def c6S2 (_ : Unit) : Cmd := (.ops [
   ⟨some 50, .load 24 (.tmp 6), 24, none⟩,
   ⟨some 51, .fieldAddr 47 (.tmp 9) 1, 0, none⟩,
   ⟨some 52, .load 3 (.tmp 51), 3, none⟩,
   ⟨some 53, .fieldAddr 47 (.tmp 9) 2, 0, none⟩,
   ⟨some 54, .load 9 (.tmp 53), 9, none⟩,
   ⟨some 55, .call ⟨.value (.func 19), #[(.tmp 50), (.tmp 52), (.tmp 54)], #[24, 3, 9]⟩, 25, none⟩,
   ⟨some 49, .move (.tmp 55), 25, none⟩,
   ⟨some 56, .extract (.tmp 49) 0, 24, none⟩,
   ⟨some 57, .extract (.tmp 49) 1, 4, none⟩,
   ⟨none, .store 24 (.tmp 6) (.tmp 56), 0, none⟩] [1, 5, 6, 8])
noncomputable def c6S3 (_ : Unit) : Cmd := (.cond (.tmp 118)
  (.seq (.ops [
  ⟨some 4, .assign (.const (.bool false)), 4, none⟩] [4])
  .ret)
  (.skip [1, 5, 6, 8]))
noncomputable def c6S4 (_ : Unit) : Cmd := (.seq (.ops [
 ⟨some 97, .move (.tmp 11), 4, none⟩,
 ⟨some 98, .unOp .not 4 (.tmp 97), 4, none⟩,
 ⟨some 99, .move (.tmp 98), 4, none⟩,
 ⟨some 100, .fieldAddr 24 (.tmp 10) 1, 0, (some (99, false))⟩,
 ⟨some 101, .load 22 (.tmp 100), 22, (some (99, false))⟩,
 ⟨some 102, .fieldAddr 24 (.tmp 6) 1, 0, (some (99, false))⟩,
 ⟨some 103, .load 22 (.tmp 102), 22, (some (99, false))⟩,
 ⟨some 104, .call ⟨.value (.func 15), #[(.tmp 101), (.tmp 103)], #[22, 22]⟩, 4, (some (99, false))⟩,
 ⟨some 105, .unOp .not 4 (.tmp 104), 4, (some (99, false))⟩,
 ⟨some 106, .pick (.tmp 99) (.const (.bool true)) (.tmp 105), 4, none⟩,
 ⟨some 107, .move (.tmp 106), 4, none⟩,
 ⟨some 108, .fieldAddr 24 (.tmp 10) 0, 0, (some (107, false))⟩,
 ⟨some 109, .load 3 (.tmp 108), 3, (some (107, false))⟩,
 ⟨some 110, .fieldAddr 24 (.tmp 6) 0, 0, (some (107, false))⟩,
 ⟨some 111, .load 3 (.tmp 110), 3, (some (107, false))⟩,
 ⟨some 112, .binOp .neq 3 (.tmp 109) (.tmp 111) 3, 4, (some (107, false))⟩,
 ⟨some 113, .pick (.tmp 107) (.const (.bool true)) (.tmp 112), 4, none⟩,
 ⟨some 114, .move (.tmp 113), 4, none⟩,
 ⟨some 115, .move (.tmp 5), 9, (some (114, false))⟩,
 ⟨some 116, .call ⟨.value (.func 22), #[(.tmp 115)], #[9]⟩, 4, (some (114, false))⟩,
 ⟨some 117, .unOp .not 4 (.tmp 116), 4, (some (114, false))⟩,
 ⟨some 118, .pick (.tmp 114) (.const (.bool true)) (.tmp 117), 4, none⟩] [1, 5, 6, 8, 118]) (sg c6S3))
noncomputable def c6S5 (_ : Unit) : Cmd := (.seq (.ops [
 ⟨some 93, .move (.tmp 5), 9, none⟩,
 ⟨some 94, .call ⟨.value (.func 7), #[(.tmp 93)], #[9]⟩, 25, none⟩,
 ⟨some 92, .move (.tmp 94), 25, none⟩,
 ⟨some 95, .extract (.tmp 92) 0, 24, none⟩,
 ⟨some 96, .extract (.tmp 92) 1, 4, none⟩,
 ⟨some 10, .alloc 24, 0, none⟩,
 ⟨none, .store 24 (.tmp 10) (.tmp 95), 0, none⟩,
 ⟨some 11, .assign (.tmp 96), 4, none⟩] [1, 5, 6, 8, 10, 11]) (sg c6S4))
noncomputable def c6S6 (_ : Unit) : Cmd := (.ops [
 ⟨some 32, .move (.tmp 8), 3, none⟩,
 ⟨some 33, .binOp .add 3 (.tmp 32) (.const (.int .i64 1)) 3, 3, none⟩,
 ⟨some 8, .assign (.tmp 33), 3, none⟩] [1, 5, 6, 8])
noncomputable def c6S7 (_ : Unit) : Cmd := (.seq (.block 1 (.seq (.ops [
 ⟨some 34, .move (.tmp 1), 44, none⟩,
 ⟨some 35, .move (.tmp 8), 3, none⟩,
 ⟨some 36, .indexAddr 44 (.tmp 34) (.tmp 35), 0, none⟩,
 ⟨some 37, .load 47 (.tmp 36), 47, none⟩,
 ⟨some 9, .alloc 47, 0, none⟩,
 ⟨none, .store 47 (.tmp 9) (.tmp 37), 0, none⟩] [1, 5, 6, 8, 9])
 (.seq (.seq (.ops [
 ⟨some 38, .fieldAddr 47 (.tmp 9) 0, 0, none⟩,
 ⟨some 39, .load 3 (.tmp 38), 3, none⟩] [1, 5, 6, 8, 9, 39])
 (.block 2 (.seq (.ops [
 ⟨some 59, .binOp .eql 3 (.tmp 39) (.const (.int .i64 0)) 3, 4, none⟩,
 ⟨some 58, .assign (.tmp 59), 4, none⟩] [1, 5, 6, 8, 9, 39, 58])
 (.cond (.tmp 58)
  (.seq (.ops [
  ⟨some 61, .move (.tmp 5), 9, none⟩,
  ⟨some 62, .fieldAddr 47 (.tmp 9) 2, 0, none⟩,
  ⟨some 63, .load 9 (.tmp 62), 9, none⟩,
  ⟨some 64, .call ⟨.value (.func 9), #[(.tmp 61), (.tmp 63)], #[9, 9]⟩, 28, none⟩,
  ⟨some 60, .move (.tmp 64), 28, none⟩,
  ⟨some 65, .extract (.tmp 60) 0, 9, none⟩,
  ⟨some 66, .extract (.tmp 60) 1, 3, none⟩,
  ⟨some 67, .extract (.tmp 60) 2, 4, none⟩,
  ⟨some 5, .assign (.tmp 65), 9, none⟩] [1, 5, 6, 8, 9]) (sg c6S0))
  (.seq (.ops [
  ⟨some 77, .binOp .eql 3 (.tmp 39) (.const (.int .i64 1)) 3, 4, none⟩,
  ⟨some 76, .assign (.tmp 77), 4, none⟩] [1, 5, 6, 8, 9, 76])
  (.cond (.tmp 76)
   (.seq (.ops [
   ⟨some 79, .move (.tmp 5), 9, none⟩,
   ⟨some 80, .fieldAddr 47 (.tmp 9) 1, 0, none⟩,
   ⟨some 81, .load 3 (.tmp 80), 3, none⟩,
   ⟨some 82, .call ⟨.value (.func 14), #[(.tmp 79), (.tmp 81)], #[9, 3]⟩, 34, none⟩,
   ⟨some 78, .move (.tmp 82), 34, none⟩,
   ⟨some 83, .extract (.tmp 78) 0, 9, none⟩,
   ⟨some 84, .extract (.tmp 78) 1, 4, none⟩,
   ⟨some 5, .assign (.tmp 83), 9, none⟩] [1, 5, 6, 8, 9]) (sg c6S1))
   (.seq (.ops [
   ⟨some 41, .move (.tmp 5), 9, none⟩,
   ⟨some 42, .fieldAddr 47 (.tmp 9) 1, 0, none⟩,
   ⟨some 43, .load 3 (.tmp 42), 3, none⟩,
   ⟨some 44, .fieldAddr 47 (.tmp 9) 2, 0, none⟩,
   ⟨some 45, .load 9 (.tmp 44), 9, none⟩,
   ⟨some 46, .call ⟨.value (.func 18), #[(.tmp 41), (.tmp 43), (.tmp 45)], #[9, 3, 9]⟩, 34, none⟩,
   ⟨some 40, .move (.tmp 46), 34, none⟩,
   ⟨some 47, .extract (.tmp 40) 0, 9, none⟩,
   ⟨some 48, .extract (.tmp 40) 1, 4, none⟩,
   ⟨some 5, .assign (.tmp 47), 9, none⟩] [1, 5, 6, 8, 9]) (sg c6S2)))))))) (sg c6S5)))) (sg c6S6))
noncomputable def c6L0 (_ : Unit) : Cmd := (.seq (.seq (.ops [
 ⟨some 24, .move (.tmp 8), 3, none⟩,
 ⟨some 25, .move (.tmp 1), 44, none⟩,
 ⟨some 26, .call ⟨.builtin .len, #[(.tmp 25)], #[44]⟩, 3, none⟩,
 ⟨some 27, .binOp .lss 3 (.tmp 24) (.tmp 26) 3, 4, none⟩,
 ⟨some 28, .move (.tmp 27), 4, none⟩,
 ⟨some 29, .move (.tmp 8), 3, (some (28, true))⟩,
 ⟨some 30, .binOp .lss 3 (.tmp 29) (.const (.int .i64 60)) 3, 4, (some (28, true))⟩,
 ⟨some 31, .pick (.tmp 28) (.tmp 30) (.const (.bool false)), 4, none⟩] [1, 5, 6, 8, 31])
 (.cond (.tmp 31)
  (.skip [1, 5, 6, 8])
  (.exit 0 []))) (sg c6S7))
noncomputable def c6S8 (_ : Unit) : Cmd := .ret
noncomputable def c6S9 (_ : Unit) : Cmd := (.seq (.ops [
 ⟨some 119, .call ⟨.value (.func 8), #[], #[]⟩, 4, none⟩,
 ⟨some 4, .assign (.tmp 119), 4, none⟩] [4]) (sg c6S8))
noncomputable def c6S10 (_ : Unit) : Cmd := (.seq (.seq (.ops [
 ⟨some 8, .assign (.const (.int .i64 0)), 3, none⟩] [1, 5, 6, 8])
 (.block 0 (.loop (sg c6L0)))) (sg c6S9))
noncomputable def c6S11 (_ : Unit) : Cmd := (.seq (.seq (.ops [
 ⟨some 22, .move (.tmp 7), 4, none⟩,
 ⟨some 23, .unOp .not 4 (.tmp 22), 4, none⟩] [1, 5, 6, 23])
 (.cond (.tmp 23)
  (.seq (.ops [
  ⟨some 4, .assign (.const (.bool false)), 4, none⟩] [4])
  .ret)
  (.skip [1, 5, 6]))) (sg c6S10))
noncomputable def c6S12 (_ : Unit) : Cmd := (.seq (.ops [
 ⟨some 18, .move (.tmp 5), 9, none⟩,
 ⟨some 19, .call ⟨.value (.func 7), #[(.tmp 18)], #[9]⟩, 25, none⟩,
 ⟨some 17, .move (.tmp 19), 25, none⟩,
 ⟨some 20, .extract (.tmp 17) 0, 24, none⟩,
 ⟨some 21, .extract (.tmp 17) 1, 4, none⟩,
 ⟨some 6, .alloc 24, 0, none⟩,
 ⟨none, .store 24 (.tmp 6) (.tmp 20), 0, none⟩,
 ⟨some 7, .assign (.tmp 21), 4, none⟩] [1, 5, 6, 7]) (sg c6S11))
noncomputable def c6 : Cmd := (.seq (.ops [
 ⟨some 4, .assign (.const (.bool false)), 4, none⟩] [0, 1])
 (.seq (.ops [
 ⟨some 12, .move (.tmp 0), 5, none⟩,
 ⟨some 13, .convert 5 3 (.tmp 12), 3, none⟩,
 ⟨some 14, .binOp .rem 3 (.tmp 13) (.const (.int .i64 249)) 3, 3, none⟩,
 ⟨some 15, .binOp .add 3 (.tmp 14) (.const (.int .i64 8)) 3, 3, none⟩,
 ⟨some 16, .call ⟨.value (.func 21), #[(.tmp 15)], #[3]⟩, 9, none⟩,
 ⟨some 5, .assign (.tmp 16), 9, none⟩] [1, 5]) (sg c6S12)))
set_option maxRecDepth 100000 in
theorem ent6 (a0 a1 : Value) (w : World) (K : Value → World → Prop) (h : W Try.prog c6 [(0, a0), (1, a1)] w (finQ Try.prog [.tmp 4] K)) : Ret Try.prog 6 [a0, a1] w K :=
  Ret_of_W (code := c6code) Try.func6 (by kernel_rfl) (by kernel_rfl) (of_decide_eq_true (by kernel_rfl)) h
--SIMP 6 c6 c6S0 c6S1 c6S2 c6S3 c6S4 c6S5 c6S6 c6S7 c6L0 c6S8 c6S9 c6S10 c6S11 c6S12 TYS 3 5 9 22 24 44 47 FNS 7 8 9 10 14 15 18 19 20 21 22
@[go_sem] theorem go6 : goFunc Try.prog 6 = true := by kernel_rfl
/- Function 7: annalistref24.Read -/
noncomputable def c7code : Code := match Try.f7.body with | some c => c | none => .skip
noncomputable def c7S0 (_ : Unit) : Cmd := (.seq (.ops [
 ⟨some 99, .move (.tmp 8), 3, none⟩,
 ⟨some 100, .binOp .gtr 3 (.tmp 99) (.const (.int .i64 0)) 3, 4, none⟩,
 ⟨some 101, .move (.tmp 100), 4, none⟩,
 ⟨some 102, .move (.tmp 11), 3, (some (101, true))⟩,
 ⟨some 103, .binOp .gtr 3 (.tmp 102) (.const (.int .i64 0)) 3, 4, (some (101, true))⟩,
 ⟨some 104, .pick (.tmp 101) (.tmp 103) (.const (.bool false)), 4, none⟩,
 ⟨some 105, .move (.tmp 104), 4, none⟩,
 ⟨some 106, .move (.tmp 7), 3, (some (105, true))⟩,
 ⟨some 107, .move (.tmp 10), 3, (some (105, true))⟩,
 ⟨some 108, .move (.tmp 11), 3, (some (105, true))⟩,
 ⟨some 109, .binOp .add 3 (.tmp 107) (.tmp 108) 3, 3, (some (105, true))⟩,
 ⟨some 110, .binOp .lss 3 (.tmp 106) (.tmp 109) 3, 4, (some (105, true))⟩,
 ⟨some 111, .pick (.tmp 105) (.tmp 110) (.const (.bool false)), 4, none⟩,
 ⟨some 112, .move (.tmp 111), 4, none⟩,
 ⟨some 113, .move (.tmp 10), 3, (some (112, true))⟩,
 ⟨some 114, .move (.tmp 7), 3, (some (112, true))⟩,
 ⟨some 115, .move (.tmp 8), 3, (some (112, true))⟩,
 ⟨some 116, .binOp .add 3 (.tmp 114) (.tmp 115) 3, 3, (some (112, true))⟩,
 ⟨some 117, .binOp .lss 3 (.tmp 113) (.tmp 116) 3, 4, (some (112, true))⟩,
 ⟨some 118, .pick (.tmp 112) (.tmp 117) (.const (.bool false)), 4, none⟩] [0, 2, 4, 5, 6, 7, 8, 9, 118])
 (.cond (.tmp 118)
  (.seq (.ops [
  ⟨some 119, .build 24 #[], 24, none⟩,
  ⟨none, .store 24 (.tmp 2) (.tmp 119), 0, none⟩,
  ⟨some 3, .assign (.const (.bool false)), 4, none⟩] [2, 3])
  .ret)
  (.skip [0, 2, 4, 5, 6, 7, 8, 9])))
noncomputable def c7S1 (_ : Unit) : Cmd := (.ops [
 ⟨some 85, .move (.tmp 9), 3, none⟩,
 ⟨some 86, .binOp .add 3 (.tmp 85) (.const (.int .i64 1)) 3, 3, none⟩,
 ⟨some 9, .assign (.tmp 86), 3, none⟩] [0, 2, 4, 5, 6, 7, 8, 9])
noncomputable def c7S2 (_ : Unit) : Cmd := (.seq (.block 3 (.seq (.draw (drawOps 1 c7code) [0, 2, 4, 5, 6, 7, 8, 9, 10, 11]) (sg c7S0))) (sg c7S1))
noncomputable def c7L0 (_ : Unit) : Cmd := (.seq (.seq (.ops [
 ⟨some 82, .move (.tmp 9), 3, none⟩,
 ⟨some 83, .move (.tmp 6), 3, none⟩,
 ⟨some 84, .binOp .lss 3 (.tmp 82) (.tmp 83) 3, 4, none⟩] [0, 2, 4, 5, 6, 7, 8, 9, 84])
 (.cond (.tmp 84)
  (.skip [0, 2, 4, 5, 6, 7, 8, 9])
  (.exit 2 [0, 2, 4, 5, 6, 7, 8]))) (sg c7S2))
noncomputable def c7S3 (_ : Unit) : Cmd := (.draw (drawOps 2 c7code) [0, 2, 4, 5, 6])
noncomputable def c7S4 (_ : Unit) : Cmd := (.seq (.seq (.ops [
 ⟨some 9, .assign (.const (.int .i64 0)), 3, none⟩] [0, 2, 4, 5, 6, 7, 8, 9])
 (.block 2 (.loop (sg c7L0)))) (sg c7S3))
noncomputable def c7S5 (_ : Unit) : Cmd := (.seq (.seq (.ops [
 ⟨some 64, .move (.tmp 8), 3, none⟩,
 ⟨some 65, .binOp .gtr 3 (.tmp 64) (.const (.int .i64 0)) 3, 4, none⟩,
 ⟨some 66, .move (.tmp 65), 4, none⟩,
 ⟨some 67, .move (.tmp 7), 3, (some (66, true))⟩,
 ⟨some 68, .move (.tmp 4), 3, (some (66, true))⟩,
 ⟨some 69, .binOp .mul 3 (.const (.int .i64 2)) (.tmp 68) 3, 3, (some (66, true))⟩,
 ⟨some 70, .binOp .add 3 (.const (.int .i64 1)) (.tmp 69) 3, 3, (some (66, true))⟩,
 ⟨some 71, .binOp .lss 3 (.tmp 67) (.tmp 70) 3, 4, (some (66, true))⟩,
 ⟨some 72, .move (.tmp 71), 4, (some (66, true))⟩,
 ⟨some 73, .move (.tmp 7), 3, (some (72, false))⟩,
 ⟨some 74, .move (.tmp 8), 3, (some (72, false))⟩,
 ⟨some 75, .binOp .add 3 (.tmp 73) (.tmp 74) 3, 3, (some (72, false))⟩,
 ⟨some 76, .move (.tmp 0), 9, (some (72, false))⟩,
 ⟨some 77, .call ⟨.builtin .len, #[(.tmp 76)], #[9]⟩, 3, (some (72, false))⟩,
 ⟨some 78, .binOp .gtr 3 (.tmp 75) (.tmp 77) 3, 4, (some (72, false))⟩,
 ⟨some 79, .pick (.tmp 72) (.const (.bool true)) (.tmp 78), 4, (some (66, true))⟩,
 ⟨some 80, .pick (.tmp 66) (.tmp 79) (.const (.bool false)), 4, none⟩] [0, 2, 4, 5, 6, 7, 8, 80])
 (.cond (.tmp 80)
  (.seq (.ops [
  ⟨some 81, .build 24 #[], 24, none⟩,
  ⟨none, .store 24 (.tmp 2) (.tmp 81), 0, none⟩,
  ⟨some 3, .assign (.const (.bool false)), 4, none⟩] [2, 3])
  .ret)
  (.skip [0, 2, 4, 5, 6, 7, 8]))) (sg c7S4))
noncomputable def c7S6 (_ : Unit) : Cmd := (.seq (.seq (.ops [
 ⟨some 51, .move (.tmp 8), 3, none⟩,
 ⟨some 52, .binOp .eql 3 (.tmp 51) (.const (.int .i64 0)) 3, 4, none⟩,
 ⟨some 53, .move (.tmp 52), 4, none⟩,
 ⟨some 54, .move (.tmp 7), 3, (some (53, true))⟩,
 ⟨some 55, .binOp .gtr 3 (.tmp 54) (.const (.int .i64 0)) 3, 4, (some (53, true))⟩,
 ⟨some 56, .move (.tmp 55), 4, (some (53, true))⟩,
 ⟨some 57, .move (.tmp 6), 3, (some (56, false))⟩,
 ⟨some 58, .move (.tmp 4), 3, (some (56, false))⟩,
 ⟨some 59, .binOp .sub 3 (.tmp 58) (.const (.int .i64 1)) 3, 3, (some (56, false))⟩,
 ⟨some 60, .binOp .eql 3 (.tmp 57) (.tmp 59) 3, 4, (some (56, false))⟩,
 ⟨some 61, .pick (.tmp 56) (.const (.bool true)) (.tmp 60), 4, (some (53, true))⟩,
 ⟨some 62, .pick (.tmp 53) (.tmp 61) (.const (.bool false)), 4, none⟩] [0, 2, 4, 5, 6, 7, 8, 62])
 (.cond (.tmp 62)
  (.seq (.ops [
  ⟨some 63, .build 24 #[], 24, none⟩,
  ⟨none, .store 24 (.tmp 2) (.tmp 63), 0, none⟩,
  ⟨some 3, .assign (.const (.bool false)), 4, none⟩] [2, 3])
  .ret)
  (.skip [0, 2, 4, 5, 6, 7, 8]))) (sg c7S5))
noncomputable def c7S7 (_ : Unit) : Cmd := (.ops [
 ⟨some 37, .move (.tmp 6), 3, none⟩,
 ⟨some 38, .binOp .add 3 (.tmp 37) (.const (.int .i64 1)) 3, 3, none⟩,
 ⟨some 6, .assign (.tmp 38), 3, none⟩] [0, 2, 4, 5, 6])
noncomputable def c7S8 (_ : Unit) : Cmd := (.seq (.block 1 (.seq (.draw (drawOps 0 c7code) [0, 2, 4, 5, 6, 7, 8]) (sg c7S6))) (sg c7S7))
noncomputable def c7L1 (_ : Unit) : Cmd := (.seq (.seq (.ops [
 ⟨some 34, .move (.tmp 6), 3, none⟩,
 ⟨some 35, .move (.tmp 4), 3, none⟩,
 ⟨some 36, .binOp .lss 3 (.tmp 34) (.tmp 35) 3, 4, none⟩] [0, 2, 4, 5, 6, 36])
 (.cond (.tmp 36)
  (.skip [0, 2, 4, 5, 6])
  (.exit 0 [2, 5]))) (sg c7S8))
noncomputable def c7S9 (_ : Unit) : Cmd := (.seq (.ops [
 ⟨some 131, .load 24 (.tmp 5), 24, none⟩,
 ⟨none, .store 24 (.tmp 2) (.tmp 131), 0, none⟩,
 ⟨some 3, .assign (.const (.bool true)), 4, none⟩] [2, 3])
 .ret)
noncomputable def c7S10 (_ : Unit) : Cmd := (.seq (.ops [
 ⟨some 31, .move (.tmp 0), 9, none⟩,
 ⟨some 32, .call ⟨.builtin .len, #[(.tmp 31)], #[9]⟩, 3, none⟩,
 ⟨some 33, .build 24 #[(0, (.tmp 32))], 24, none⟩,
 ⟨some 5, .alloc 24, 0, none⟩,
 ⟨none, .store 24 (.tmp 5) (.tmp 33), 0, none⟩] [0, 2, 4, 5])
 (.seq (.seq (.ops [
 ⟨some 6, .assign (.const (.int .i64 0)), 3, none⟩] [0, 2, 4, 5, 6])
 (.block 0 (.loop (sg c7L1)))) (sg c7S9)))
noncomputable def c7S11 (_ : Unit) : Cmd := (.seq (.ops [
 ⟨some 21, .move (.tmp 0), 9, none⟩,
 ⟨some 22, .index 9 (.tmp 21) (.const (.int .i64 0)), 5, none⟩,
 ⟨some 23, .convert 5 3 (.tmp 22), 3, none⟩,
 ⟨some 4, .assign (.tmp 23), 3, none⟩] [0, 2, 4])
 (.seq (.seq (.ops [
 ⟨some 24, .move (.tmp 4), 3, none⟩,
 ⟨some 25, .binOp .mul 3 (.const (.int .i64 2)) (.tmp 24) 3, 3, none⟩,
 ⟨some 26, .binOp .add 3 (.const (.int .i64 1)) (.tmp 25) 3, 3, none⟩,
 ⟨some 27, .move (.tmp 0), 9, none⟩,
 ⟨some 28, .call ⟨.builtin .len, #[(.tmp 27)], #[9]⟩, 3, none⟩,
 ⟨some 29, .binOp .gtr 3 (.tmp 26) (.tmp 28) 3, 4, none⟩] [0, 2, 4, 29])
 (.cond (.tmp 29)
  (.seq (.ops [
  ⟨some 30, .build 24 #[], 24, none⟩,
  ⟨none, .store 24 (.tmp 2) (.tmp 30), 0, none⟩,
  ⟨some 3, .assign (.const (.bool false)), 4, none⟩] [2, 3])
  .ret)
  (.skip [0, 2, 4]))) (sg c7S10)))
noncomputable def c7 : Cmd := (.seq (.ops [
 ⟨some 2, .alloc 24, 0, none⟩,
 ⟨some 3, .assign (.const (.bool false)), 4, none⟩] [0, 2])
 (.seq (.seq (.ops [
 ⟨some 12, .move (.tmp 0), 9, none⟩,
 ⟨some 13, .call ⟨.builtin .len, #[(.tmp 12)], #[9]⟩, 3, none⟩,
 ⟨some 14, .binOp .lss 3 (.tmp 13) (.const (.int .i64 8)) 3, 4, none⟩,
 ⟨some 15, .move (.tmp 14), 4, none⟩,
 ⟨some 16, .move (.tmp 0), 9, (some (15, false))⟩,
 ⟨some 17, .call ⟨.builtin .len, #[(.tmp 16)], #[9]⟩, 3, (some (15, false))⟩,
 ⟨some 18, .binOp .gtr 3 (.tmp 17) (.const (.int .i64 256)) 3, 4, (some (15, false))⟩,
 ⟨some 19, .pick (.tmp 15) (.const (.bool true)) (.tmp 18), 4, none⟩] [0, 2, 19])
 (.cond (.tmp 19)
  (.seq (.ops [
  ⟨some 20, .build 24 #[], 24, none⟩,
  ⟨none, .store 24 (.tmp 2) (.tmp 20), 0, none⟩,
  ⟨some 3, .assign (.const (.bool false)), 4, none⟩] [2, 3])
  .ret)
  (.skip [0, 2]))) (sg c7S11)))
noncomputable def c7D0 : List (Bool × Ins) := [
 (true, ⟨some 39, .move (.tmp 0), 9, none⟩),
 (true, ⟨some 40, .move (.tmp 6), 3, none⟩),
 (true, ⟨some 41, .binOp .mul 3 (.const (.int .i64 2)) (.tmp 40) 3, 3, none⟩),
 (true, ⟨some 42, .binOp .add 3 (.const (.int .i64 1)) (.tmp 41) 3, 3, none⟩),
 (true, ⟨some 43, .index 9 (.tmp 39) (.tmp 42), 5, none⟩),
 (true, ⟨some 44, .convert 5 3 (.tmp 43), 3, none⟩),
 (true, ⟨some 45, .move (.tmp 0), 9, none⟩),
 (true, ⟨some 46, .move (.tmp 6), 3, none⟩),
 (true, ⟨some 47, .binOp .mul 3 (.const (.int .i64 2)) (.tmp 46) 3, 3, none⟩),
 (true, ⟨some 48, .binOp .add 3 (.const (.int .i64 2)) (.tmp 47) 3, 3, none⟩),
 (true, ⟨some 49, .index 9 (.tmp 45) (.tmp 48), 5, none⟩),
 (true, ⟨some 50, .convert 5 3 (.tmp 49), 3, none⟩),
 (true, ⟨some 7, .assign (.tmp 44), 3, none⟩),
 (true, ⟨some 8, .assign (.tmp 50), 3, none⟩)]
theorem c7draw0 {L : List Nat} {ρ : Env} {w : World} {Q : Post} (h : DL Try.prog c7D0 L ρ w.drew Q) : drawW Try.prog (drawOps 0 c7code) L ρ w Q :=
  drawW_by [(true, 0), (true, 1), (true, 2), (true, 3), (true, 4), (true, 5), (true, 6), (true, 7), (true, 8), (true, 9), (true, 10), (true, 11), (true, 12), (true, 13)] c7D0 (by kernel_rfl) (by kernel_rfl) (by kernel_rfl) h
noncomputable def c7D1 : List (Bool × Ins) := [
 (true, ⟨some 87, .move (.tmp 0), 9, none⟩),
 (true, ⟨some 88, .move (.tmp 9), 3, none⟩),
 (true, ⟨some 89, .binOp .mul 3 (.const (.int .i64 2)) (.tmp 88) 3, 3, none⟩),
 (true, ⟨some 90, .binOp .add 3 (.const (.int .i64 1)) (.tmp 89) 3, 3, none⟩),
 (true, ⟨some 91, .index 9 (.tmp 87) (.tmp 90), 5, none⟩),
 (true, ⟨some 92, .convert 5 3 (.tmp 91), 3, none⟩),
 (true, ⟨some 93, .move (.tmp 0), 9, none⟩),
 (true, ⟨some 94, .move (.tmp 9), 3, none⟩),
 (true, ⟨some 95, .binOp .mul 3 (.const (.int .i64 2)) (.tmp 94) 3, 3, none⟩),
 (true, ⟨some 96, .binOp .add 3 (.const (.int .i64 2)) (.tmp 95) 3, 3, none⟩),
 (true, ⟨some 97, .index 9 (.tmp 93) (.tmp 96), 5, none⟩),
 (true, ⟨some 98, .convert 5 3 (.tmp 97), 3, none⟩),
 (true, ⟨some 10, .assign (.tmp 92), 3, none⟩),
 (true, ⟨some 11, .assign (.tmp 98), 3, none⟩)]
theorem c7draw1 {L : List Nat} {ρ : Env} {w : World} {Q : Post} (h : DL Try.prog c7D1 L ρ w.drew Q) : drawW Try.prog (drawOps 1 c7code) L ρ w Q :=
  drawW_by [(true, 0), (true, 1), (true, 2), (true, 3), (true, 4), (true, 5), (true, 6), (true, 7), (true, 8), (true, 9), (true, 10), (true, 11), (true, 12), (true, 13)] c7D1 (by kernel_rfl) (by kernel_rfl) (by kernel_rfl) h
noncomputable def c7D2 : List (Nat × Ins) := [
 (0, ⟨some 120, .fieldAddr 24 (.tmp 5) 1, 0, none⟩),
 (0, ⟨some 122, .move (.tmp 0), 9, none⟩),
 (0, ⟨some 123, .move (.tmp 7), 3, none⟩),
 (0, ⟨some 124, .move (.tmp 7), 3, none⟩),
 (0, ⟨some 125, .move (.tmp 8), 3, none⟩),
 (0, ⟨some 126, .binOp .add 3 (.tmp 124) (.tmp 125) 3, 3, none⟩),
 (0, ⟨some 127, .slice 9 (.tmp 122) (some (.tmp 123)) (some (.tmp 126)) none, 9, none⟩),
 (1, ⟨some 121, .load 22 (.tmp 120), 22, none⟩),
 (2, ⟨some 128, .buildSlice 22 1 #[(0, (.tmp 127))], 22, none⟩),
 (3, ⟨some 129, .call ⟨.builtin .append, #[(.tmp 121), (.tmp 128)], #[22, 22]⟩, 22, none⟩),
 (0, ⟨some 130, .fieldAddr 24 (.tmp 5) 1, 0, none⟩),
 (3, ⟨none, .store 22 (.tmp 130) (.tmp 129), 0, none⟩)]
theorem c7draw2 {L : List Nat} {ρ : Env} {w : World} {Q : Post} (S : World → Prop) (hS : S w.drew) (h : DG Try.prog S c7D2 L ρ w.drew Q) : drawW Try.prog (drawOps 2 c7code) L ρ w Q :=
  drawW_held [1] [(0, 0), (0, 2), (0, 3), (0, 4), (0, 5), (0, 6), (0, 7), (1, 1), (2, 8), (3, 9), (0, 10), (3, 11)] c7D2 (by kernel_rfl) (by kernel_rfl) (by kernel_rfl) S hS h
set_option maxRecDepth 100000 in
theorem ent7 (a0 : Value) (w : World) (K : Value → World → Prop) (h : W Try.prog c7 [(0, a0)] w (finQ Try.prog [.cell 2 24, .tmp 3] K)) : Ret Try.prog 7 [a0] w K :=
  Ret_of_W (code := c7code) Try.func7 (by kernel_rfl) (by kernel_rfl) (of_decide_eq_true (by kernel_rfl)) h
--SIMP 7 c7 c7S0 c7S1 c7S2 c7L0 c7S3 c7S4 c7S5 c7S6 c7S7 c7S8 c7L1 c7S9 c7S10 c7S11 TYS 3 5 9 22 24 FNS 
@[go_sem] theorem go7 : goFunc Try.prog 7 = true := by kernel_rfl
/- Function 8: annalistlaw24.awake -/
noncomputable def c8code : Code := match Try.f8.body with | some c => c | none => .skip
noncomputable def c8S0 (_ : Unit) : Cmd := .ret
noncomputable def c8S1 (_ : Unit) : Cmd := (.seq (.ops [
 ⟨some 35, .move (.tmp 3), 4, none⟩,
 ⟨some 36, .move (.tmp 35), 4, none⟩,
 ⟨some 37, .move (.tmp 5), 4, (some (36, true))⟩,
 ⟨some 38, .pick (.tmp 36) (.tmp 37) (.const (.bool false)), 4, none⟩,
 ⟨some 39, .move (.tmp 38), 4, none⟩,
 ⟨some 40, .move (.tmp 7), 4, (some (39, true))⟩,
 ⟨some 41, .pick (.tmp 39) (.tmp 40) (.const (.bool false)), 4, none⟩,
 ⟨some 42, .move (.tmp 41), 4, none⟩,
 ⟨some 43, .move (.tmp 9), 4, (some (42, true))⟩,
 ⟨some 44, .pick (.tmp 42) (.tmp 43) (.const (.bool false)), 4, none⟩,
 ⟨some 45, .move (.tmp 44), 4, none⟩,
 ⟨some 46, .move (.tmp 2), 3, (some (45, true))⟩,
 ⟨some 47, .binOp .eql 3 (.tmp 46) (.const (.int .i64 0)) 3, 4, (some (45, true))⟩,
 ⟨some 48, .pick (.tmp 45) (.tmp 47) (.const (.bool false)), 4, none⟩,
 ⟨some 49, .move (.tmp 48), 4, none⟩,
 ⟨some 50, .move (.tmp 4), 3, (some (49, true))⟩,
 ⟨some 51, .binOp .eql 3 (.tmp 50) (.const (.int .i64 1)) 3, 4, (some (49, true))⟩,
 ⟨some 52, .pick (.tmp 49) (.tmp 51) (.const (.bool false)), 4, none⟩,
 ⟨some 53, .move (.tmp 52), 4, none⟩,
 ⟨some 54, .move (.tmp 6), 3, (some (53, true))⟩,
 ⟨some 55, .binOp .eql 3 (.tmp 54) (.const (.int .i64 4)) 3, 4, (some (53, true))⟩,
 ⟨some 56, .pick (.tmp 53) (.tmp 55) (.const (.bool false)), 4, none⟩,
 ⟨some 57, .move (.tmp 56), 4, none⟩,
 ⟨some 58, .move (.tmp 8), 3, (some (57, true))⟩,
 ⟨some 59, .binOp .eql 3 (.tmp 58) (.const (.int .i64 0)) 3, 4, (some (57, true))⟩,
 ⟨some 60, .pick (.tmp 57) (.tmp 59) (.const (.bool false)), 4, none⟩,
 ⟨some 61, .move (.tmp 60), 4, none⟩,
 ⟨some 62, .move (.tmp 1), 9, (some (61, true))⟩,
 ⟨some 63, .call ⟨.value (.func 23), #[(.tmp 62)], #[9]⟩, 3, (some (61, true))⟩,
 ⟨some 64, .binOp .eql 3 (.tmp 63) (.const (.int .i64 2)) 3, 4, (some (61, true))⟩,
 ⟨some 65, .pick (.tmp 61) (.tmp 64) (.const (.bool false)), 4, none⟩,
 ⟨some 0, .assign (.tmp 65), 4, none⟩] [0]) (sg c8S0))
noncomputable def c8S2 (_ : Unit) : Cmd := (.seq (.ops [
 ⟨some 30, .move (.tmp 1), 9, none⟩,
 ⟨some 31, .call ⟨.value (.func 9), #[(.tmp 30), (.const (.string (ofL [102])))], #[9, 9]⟩, 28, none⟩,
 ⟨some 29, .move (.tmp 31), 28, none⟩,
 ⟨some 32, .extract (.tmp 29) 0, 9, none⟩,
 ⟨some 33, .extract (.tmp 29) 1, 3, none⟩,
 ⟨some 34, .extract (.tmp 29) 2, 4, none⟩,
 ⟨some 1, .assign (.tmp 32), 9, none⟩,
 ⟨some 8, .assign (.tmp 33), 3, none⟩,
 ⟨some 9, .assign (.tmp 34), 4, none⟩] [1, 2, 3, 4, 5, 6, 7, 8, 9]) (sg c8S1))
noncomputable def c8S3 (_ : Unit) : Cmd := (.seq (.ops [
 ⟨some 25, .move (.tmp 1), 9, none⟩,
 ⟨some 26, .call ⟨.value (.func 14), #[(.tmp 25), (.const (.int .i64 0))], #[9, 3]⟩, 34, none⟩,
 ⟨some 24, .move (.tmp 26), 34, none⟩,
 ⟨some 27, .extract (.tmp 24) 0, 9, none⟩,
 ⟨some 28, .extract (.tmp 24) 1, 4, none⟩,
 ⟨some 1, .assign (.tmp 27), 9, none⟩,
 ⟨some 7, .assign (.tmp 28), 4, none⟩] [1, 2, 3, 4, 5, 6, 7]) (sg c8S2))
noncomputable def c8S4 (_ : Unit) : Cmd := (.seq (.ops [
 ⟨some 22, .move (.tmp 1), 9, none⟩,
 ⟨some 23, .call ⟨.value (.func 16), #[(.tmp 22)], #[9]⟩, 3, none⟩,
 ⟨some 6, .assign (.tmp 23), 3, none⟩] [1, 2, 3, 4, 5, 6]) (sg c8S3))
noncomputable def c8S5 (_ : Unit) : Cmd := (.seq (.ops [
 ⟨some 17, .move (.tmp 1), 9, none⟩,
 ⟨some 18, .call ⟨.value (.func 9), #[(.tmp 17), (.const (.string (ofL [100, 101])))], #[9, 9]⟩, 28, none⟩,
 ⟨some 16, .move (.tmp 18), 28, none⟩,
 ⟨some 19, .extract (.tmp 16) 0, 9, none⟩,
 ⟨some 20, .extract (.tmp 16) 1, 3, none⟩,
 ⟨some 21, .extract (.tmp 16) 2, 4, none⟩,
 ⟨some 1, .assign (.tmp 19), 9, none⟩,
 ⟨some 4, .assign (.tmp 20), 3, none⟩,
 ⟨some 5, .assign (.tmp 21), 4, none⟩] [1, 2, 3, 4, 5]) (sg c8S4))
noncomputable def c8 : Cmd := (.seq (.ops [
 ⟨some 0, .assign (.const (.bool false)), 4, none⟩] [])
 (.seq (.ops [
 ⟨some 11, .call ⟨.value (.func 21), #[(.const (.int .i64 16))], #[3]⟩, 9, none⟩,
 ⟨some 12, .call ⟨.value (.func 9), #[(.tmp 11), (.const (.string (ofL [97, 98, 99])))], #[9, 9]⟩, 28, none⟩,
 ⟨some 10, .move (.tmp 12), 28, none⟩,
 ⟨some 13, .extract (.tmp 10) 0, 9, none⟩,
 ⟨some 14, .extract (.tmp 10) 1, 3, none⟩,
 ⟨some 15, .extract (.tmp 10) 2, 4, none⟩,
 ⟨some 1, .assign (.tmp 13), 9, none⟩,
 ⟨some 2, .assign (.tmp 14), 3, none⟩,
 ⟨some 3, .assign (.tmp 15), 4, none⟩] [1, 2, 3]) (sg c8S5)))
set_option maxRecDepth 100000 in
theorem ent8 (w : World) (K : Value → World → Prop) (h : W Try.prog c8 [] w (finQ Try.prog [.tmp 0] K)) : Ret Try.prog 8 [] w K :=
  Ret_of_W (code := c8code) Try.func8 (by kernel_rfl) (by kernel_rfl) (of_decide_eq_true (by kernel_rfl)) h
--SIMP 8 c8 c8S0 c8S1 c8S2 c8S3 c8S4 c8S5 TYS 3 FNS 9 14 16 21 23
@[go_sem] theorem go8 : goFunc Try.prog 8 = true := by kernel_rfl
/- Function 9: slot.Put -/
noncomputable def c9code : Code := match Try.f9.body with | some c => c | none => .skip
noncomputable def c9S0 (_ : Unit) : Cmd := (.cond (.tmp 17)
  (.seq (.ops [
  ⟨some 18, .move (.tmp 0), 9, none⟩,
  ⟨some 4, .assign (.tmp 18), 9, none⟩,
  ⟨some 5, .assign (.const (.int .i64 0)), 3, none⟩,
  ⟨some 6, .assign (.const (.bool false)), 4, none⟩] [4, 5, 6])
  .ret)
  (.skip [0, 1]))
noncomputable def c9S1 (_ : Unit) : Cmd := .ret
noncomputable def c9S2 (_ : Unit) : Cmd := (.seq (.ops [
 ⟨some 30, .move (.tmp 7), 22, none⟩,
 ⟨some 31, .move (.tmp 8), 3, none⟩,
 ⟨some 32, .move (.tmp 1), 9, none⟩,
 ⟨some 33, .indexAddr 22 (.tmp 30) (.tmp 31), 0, none⟩,
 ⟨none, .store 9 (.tmp 33) (.tmp 32), 0, none⟩] [0, 7, 8])
 (.seq (.ops [
 ⟨some 34, .move (.tmp 0), 9, none⟩,
 ⟨some 35, .call ⟨.builtin .len, #[(.tmp 34)], #[9]⟩, 3, none⟩,
 ⟨some 36, .move (.tmp 7), 22, none⟩,
 ⟨some 37, .call ⟨.value (.func 26), #[(.tmp 35), (.tmp 36)], #[3, 22]⟩, 9, none⟩,
 ⟨some 38, .move (.tmp 8), 3, none⟩,
 ⟨some 4, .assign (.tmp 37), 9, none⟩,
 ⟨some 5, .assign (.tmp 38), 3, none⟩,
 ⟨some 6, .assign (.const (.bool true)), 4, none⟩] [4, 5, 6]) (sg c9S1)))
noncomputable def c9S3 (_ : Unit) : Cmd := (.seq (.seq (.ops [
 ⟨some 23, .move (.tmp 8), 3, none⟩,
 ⟨some 24, .binOp .lss 3 (.tmp 23) (.const (.int .i64 0)) 3, 4, none⟩] [0, 1, 7, 8, 24])
 (.cond (.tmp 24)
  (.seq (.ops [
  ⟨some 25, .move (.tmp 7), 22, none⟩,
  ⟨some 26, .call ⟨.builtin .len, #[(.tmp 25)], #[22]⟩, 3, none⟩,
  ⟨some 8, .assign (.tmp 26), 3, none⟩] [0, 1, 7, 8])
  (.ops [
  ⟨some 27, .move (.tmp 7), 22, none⟩,
  ⟨some 28, .buildSlice 22 1 #[(0, (.const (.string (ofL []))))], 22, none⟩,
  ⟨some 29, .call ⟨.builtin .append, #[(.tmp 27), (.tmp 28)], #[22, 22]⟩, 22, none⟩,
  ⟨some 7, .assign (.tmp 29), 22, none⟩] [0, 1, 7, 8]))
  (.skip [0, 1, 7, 8]))) (sg c9S2))
noncomputable def c9S4 (_ : Unit) : Cmd := (.seq (.ops [
 ⟨some 21, .move (.tmp 7), 22, none⟩,
 ⟨some 22, .call ⟨.value (.func 25), #[(.tmp 21), (.const (.string (ofL [])))], #[22, 9]⟩, 3, none⟩,
 ⟨some 8, .assign (.tmp 22), 3, none⟩] [0, 1, 7, 8]) (sg c9S3))
noncomputable def c9S5 (_ : Unit) : Cmd := (.seq (.ops [
 ⟨some 19, .move (.tmp 0), 9, none⟩,
 ⟨some 20, .call ⟨.value (.func 24), #[(.tmp 19)], #[9]⟩, 22, none⟩,
 ⟨some 7, .assign (.tmp 20), 22, none⟩] [0, 1, 7]) (sg c9S4))
noncomputable def c9 : Cmd := (.seq (.ops [
 ⟨some 4, .assign (.const (.string (ofL []))), 9, none⟩,
 ⟨some 5, .assign (.const (.int .i64 0)), 3, none⟩,
 ⟨some 6, .assign (.const (.bool false)), 4, none⟩] [0, 1])
 (.seq (.seq (.ops [
 ⟨some 9, .move (.tmp 1), 9, none⟩,
 ⟨some 10, .binOp .eql 9 (.tmp 9) (.const (.string (ofL []))) 9, 4, none⟩,
 ⟨some 11, .move (.tmp 10), 4, none⟩,
 ⟨some 12, .move (.tmp 1), 9, (some (11, false))⟩,
 ⟨some 13, .call ⟨.builtin .len, #[(.tmp 12)], #[9]⟩, 3, (some (11, false))⟩,
 ⟨some 14, .move (.tmp 0), 9, (some (11, false))⟩,
 ⟨some 15, .call ⟨.value (.func 16), #[(.tmp 14)], #[9]⟩, 3, (some (11, false))⟩,
 ⟨some 16, .binOp .gtr 3 (.tmp 13) (.tmp 15) 3, 4, (some (11, false))⟩,
 ⟨some 17, .pick (.tmp 11) (.const (.bool true)) (.tmp 16), 4, none⟩] [0, 1, 17]) (sg c9S0)) (sg c9S5)))
set_option maxRecDepth 100000 in
theorem ent9 (a0 a1 : Value) (w : World) (K : Value → World → Prop) (h : W Try.prog c9 [(0, a0), (1, a1)] w (finQ Try.prog [.tmp 4, .tmp 5, .tmp 6] K)) : Ret Try.prog 9 [a0, a1] w K :=
  Ret_of_W (code := c9code) Try.func9 (by kernel_rfl) (by kernel_rfl) (of_decide_eq_true (by kernel_rfl)) h
--SIMP 9 c9 c9S0 c9S1 c9S2 c9S3 c9S4 c9S5 TYS 3 9 22 FNS 16 24 25 26
@[go_sem] theorem go9 : goFunc Try.prog 9 = true := by kernel_rfl
/- Function 10: (annalistref24.Page).Put -/
noncomputable def c10code : Code := match Try.f10.body with | some c => c | none => .skip
noncomputable def c10S0 (_ : Unit) : Cmd := (.cond (.tmp 15)
  (.seq (.ops [
  ⟨some 16, .load 24 (.tmp 2), 24, none⟩,
  ⟨none, .store 24 (.tmp 4) (.tmp 16), 0, none⟩,
  ⟨some 5, .assign (.const (.int .i64 0)), 3, none⟩,
  ⟨some 6, .assign (.const (.bool false)), 4, none⟩] [4, 5, 6])
  .ret)
  (.skip [1, 2, 4]))
noncomputable def c10S1 (_ : Unit) : Cmd := .ret
noncomputable def c10S2 (_ : Unit) : Cmd := (.seq (.draw (drawOps 0 c10code) [4, 5, 6]) (sg c10S1))
noncomputable def c10 : Cmd := (.seq (.ops [
 ⟨some 2, .box 24 (.tmp 0), 0, none⟩,
 ⟨some 4, .alloc 24, 0, none⟩,
 ⟨some 5, .assign (.const (.int .i64 0)), 3, none⟩,
 ⟨some 6, .assign (.const (.bool false)), 4, none⟩] [1, 2, 4])
 (.seq (.seq (.ops [
 ⟨some 7, .move (.tmp 1), 9, none⟩,
 ⟨some 8, .binOp .eql 9 (.tmp 7) (.const (.string (ofL []))) 9, 4, none⟩,
 ⟨some 9, .move (.tmp 8), 4, none⟩,
 ⟨some 10, .move (.tmp 1), 9, (some (9, false))⟩,
 ⟨some 11, .call ⟨.builtin .len, #[(.tmp 10)], #[9]⟩, 3, (some (9, false))⟩,
 ⟨some 12, .load 24 (.tmp 2), 24, (some (9, false))⟩,
 ⟨some 13, .call ⟨.value (.func 17), #[(.tmp 12)], #[24]⟩, 3, (some (9, false))⟩,
 ⟨some 14, .binOp .gtr 3 (.tmp 11) (.tmp 13) 3, 4, (some (9, false))⟩,
 ⟨some 15, .pick (.tmp 9) (.const (.bool true)) (.tmp 14), 4, none⟩] [1, 2, 4, 15]) (sg c10S0)) (sg c10S2)))
noncomputable def c10D0 : List (Nat × Ins) := [
 (0, ⟨some 20, .move (.tmp 1), 9, none⟩),
 (1, ⟨some 17, .load 24 (.tmp 2), 24, none⟩),
 (1, ⟨some 18, .load 24 (.tmp 2), 24, none⟩),
 (1, ⟨some 22, .load 24 (.tmp 2), 24, none⟩),
 (2, ⟨some 19, .call ⟨.value (.func 28), #[(.tmp 18)], #[24]⟩, 3, none⟩),
 (2, ⟨some 21, .call ⟨.value (.func 27), #[(.tmp 17), (.tmp 19), (.tmp 20)], #[24, 3, 9]⟩, 24, none⟩),
 (2, ⟨some 23, .call ⟨.value (.func 28), #[(.tmp 22)], #[24]⟩, 3, none⟩),
 (2, ⟨none, .store 24 (.tmp 4) (.tmp 21), 0, none⟩),
 (0, ⟨some 5, .assign (.tmp 23), 3, none⟩),
 (0, ⟨some 6, .assign (.const (.bool true)), 4, none⟩)]
theorem c10draw0 {L : List Nat} {ρ : Env} {w : World} {Q : Post} (S : World → Prop) (hS : S w.drew) (h : DG Try.prog S c10D0 L ρ w.drew Q) : drawW Try.prog (drawOps 0 c10code) L ρ w Q :=
  drawW_held [0, 1, 5] [(0, 3), (1, 0), (1, 1), (1, 5), (2, 2), (2, 4), (2, 6), (2, 7), (0, 8), (0, 9)] c10D0 (by kernel_rfl) (by kernel_rfl) (by kernel_rfl) S hS h
set_option maxRecDepth 100000 in
theorem ent10 (a0 a1 : Value) (w : World) (K : Value → World → Prop) (h : W Try.prog c10 [(0, a0), (1, a1)] w (finQ Try.prog [.cell 4 24, .tmp 5, .tmp 6] K)) : Ret Try.prog 10 [a0, a1] w K :=
  Ret_of_W (code := c10code) Try.func10 (by kernel_rfl) (by kernel_rfl) (of_decide_eq_true (by kernel_rfl)) h
--SIMP 10 c10 c10S0 c10S1 c10S2 TYS 3 9 24 FNS 17 27 28
@[go_sem] theorem go10 : goFunc Try.prog 10 = true := by kernel_rfl
/- Function 11: (annalistref24.Page).Text -/
noncomputable def c11code : Code := match Try.f11.body with | some c => c | none => .skip
noncomputable def c11S0 (_ : Unit) : Cmd := (.seq (.block 3 (.ops [
 ⟨some 58, .move (.tmp 3), 54, none⟩,
 ⟨some 59, .move (.tmp 4), 3, none⟩,
 ⟨some 60, .move (.tmp 7), 3, none⟩,
 ⟨some 61, .binOp .add 3 (.tmp 59) (.tmp 60) 3, 3, none⟩,
 ⟨some 62, .move (.tmp 6), 9, none⟩,
 ⟨some 63, .move (.tmp 7), 3, none⟩,
 ⟨some 64, .index 9 (.tmp 62) (.tmp 63), 5, none⟩,
 ⟨some 65, .indexAddr 54 (.tmp 58) (.tmp 61), 0, none⟩,
 ⟨none, .store 5 (.tmp 65) (.tmp 64), 0, none⟩] [1, 3, 4, 5, 6, 7]))
 (.ops [
 ⟨some 56, .move (.tmp 7), 3, none⟩,
 ⟨some 57, .binOp .add 3 (.tmp 56) (.const (.int .i64 1)) 3, 3, none⟩,
 ⟨some 7, .assign (.tmp 57), 3, none⟩] [1, 3, 4, 5, 6, 7]))
noncomputable def c11L0 (_ : Unit) : Cmd := (.seq (.seq (.ops [
 ⟨some 52, .move (.tmp 7), 3, none⟩,
 ⟨some 53, .move (.tmp 6), 9, none⟩,
 ⟨some 54, .call ⟨.builtin .len, #[(.tmp 53)], #[9]⟩, 3, none⟩,
 ⟨some 55, .binOp .lss 3 (.tmp 52) (.tmp 54) 3, 4, none⟩] [1, 3, 4, 5, 6, 7, 55])
 (.cond (.tmp 55)
  (.skip [1, 3, 4, 5, 6, 7])
  (.exit 2 [1, 3, 4, 5]))) (sg c11S0))
noncomputable def c11S1 (_ : Unit) : Cmd := (.seq (.ops [
 ⟨some 33, .move (.tmp 4), 3, none⟩,
 ⟨some 34, .move (.tmp 6), 9, none⟩,
 ⟨some 35, .call ⟨.builtin .len, #[(.tmp 34)], #[9]⟩, 3, none⟩,
 ⟨some 36, .binOp .sub 3 (.tmp 33) (.tmp 35) 3, 3, none⟩,
 ⟨some 4, .assign (.tmp 36), 3, none⟩] [1, 3, 4, 5, 6])
 (.seq (.ops [
 ⟨some 37, .move (.tmp 3), 54, none⟩,
 ⟨some 38, .move (.tmp 5), 3, none⟩,
 ⟨some 39, .binOp .mul 3 (.const (.int .i64 2)) (.tmp 38) 3, 3, none⟩,
 ⟨some 40, .binOp .add 3 (.const (.int .i64 1)) (.tmp 39) 3, 3, none⟩,
 ⟨some 41, .move (.tmp 4), 3, none⟩,
 ⟨some 42, .convert 3 5 (.tmp 41), 5, none⟩,
 ⟨some 43, .indexAddr 54 (.tmp 37) (.tmp 40), 0, none⟩,
 ⟨none, .store 5 (.tmp 43) (.tmp 42), 0, none⟩] [1, 3, 4, 5, 6])
 (.seq (.ops [
 ⟨some 44, .move (.tmp 3), 54, none⟩,
 ⟨some 45, .move (.tmp 5), 3, none⟩,
 ⟨some 46, .binOp .mul 3 (.const (.int .i64 2)) (.tmp 45) 3, 3, none⟩,
 ⟨some 47, .binOp .add 3 (.const (.int .i64 2)) (.tmp 46) 3, 3, none⟩,
 ⟨some 48, .move (.tmp 6), 9, none⟩,
 ⟨some 49, .call ⟨.builtin .len, #[(.tmp 48)], #[9]⟩, 3, none⟩,
 ⟨some 50, .convert 3 5 (.tmp 49), 5, none⟩,
 ⟨some 51, .indexAddr 54 (.tmp 44) (.tmp 47), 0, none⟩,
 ⟨none, .store 5 (.tmp 51) (.tmp 50), 0, none⟩] [1, 3, 4, 5, 6])
 (.seq (.ops [
 ⟨some 7, .assign (.const (.int .i64 0)), 3, none⟩] [1, 3, 4, 5, 6, 7])
 (.block 2 (.loop (sg c11L0)))))))
noncomputable def c11S2 (_ : Unit) : Cmd := (.ops [
 ⟨some 24, .move (.tmp 5), 3, none⟩,
 ⟨some 25, .binOp .add 3 (.tmp 24) (.const (.int .i64 1)) 3, 3, none⟩,
 ⟨some 5, .assign (.tmp 25), 3, none⟩] [1, 3, 4, 5])
noncomputable def c11S3 (_ : Unit) : Cmd := (.seq (.block 1 (.seq (.ops [
 ⟨some 26, .fieldAddr 24 (.tmp 1) 1, 0, none⟩,
 ⟨some 27, .load 22 (.tmp 26), 22, none⟩,
 ⟨some 28, .move (.tmp 5), 3, none⟩,
 ⟨some 29, .indexAddr 22 (.tmp 27) (.tmp 28), 0, none⟩,
 ⟨some 30, .load 9 (.tmp 29), 9, none⟩,
 ⟨some 6, .assign (.tmp 30), 9, none⟩] [1, 3, 4, 5, 6])
 (.seq (.seq (.ops [
 ⟨some 31, .move (.tmp 6), 9, none⟩,
 ⟨some 32, .binOp .eql 9 (.tmp 31) (.const (.string (ofL []))) 9, 4, none⟩] [1, 3, 4, 5, 6, 32])
 (.cond (.tmp 32)
  (.exit 1 [1, 3, 4, 5])
  (.skip [1, 3, 4, 5, 6]))) (sg c11S1)))) (sg c11S2))
noncomputable def c11L1 (_ : Unit) : Cmd := (.seq (.seq (.ops [
 ⟨some 19, .move (.tmp 5), 3, none⟩,
 ⟨some 20, .fieldAddr 24 (.tmp 1) 1, 0, none⟩,
 ⟨some 21, .load 22 (.tmp 20), 22, none⟩,
 ⟨some 22, .call ⟨.builtin .len, #[(.tmp 21)], #[22]⟩, 3, none⟩,
 ⟨some 23, .binOp .lss 3 (.tmp 19) (.tmp 22) 3, 4, none⟩] [1, 3, 4, 5, 23])
 (.cond (.tmp 23)
  (.skip [1, 3, 4, 5])
  (.exit 0 [3]))) (sg c11S3))
noncomputable def c11S4 (_ : Unit) : Cmd := (.seq (.ops [
 ⟨some 66, .move (.tmp 3), 54, none⟩,
 ⟨some 67, .convert 54 9 (.tmp 66), 9, none⟩,
 ⟨some 2, .assign (.tmp 67), 9, none⟩] [2])
 .ret)
noncomputable def c11 : Cmd := (.seq (.ops [
 ⟨some 1, .box 24 (.tmp 0), 0, none⟩,
 ⟨some 2, .assign (.const (.string (ofL []))), 9, none⟩] [1])
 (.seq (.ops [
 ⟨some 8, .fieldAddr 24 (.tmp 1) 0, 0, none⟩,
 ⟨some 9, .load 3 (.tmp 8), 3, none⟩,
 ⟨some 10, .makeSlice 54 (.tmp 9) (.tmp 9), 54, none⟩,
 ⟨some 3, .assign (.tmp 10), 54, none⟩] [1, 3])
 (.seq (.ops [
 ⟨some 11, .move (.tmp 3), 54, none⟩,
 ⟨some 12, .fieldAddr 24 (.tmp 1) 1, 0, none⟩,
 ⟨some 13, .load 22 (.tmp 12), 22, none⟩,
 ⟨some 14, .call ⟨.builtin .len, #[(.tmp 13)], #[22]⟩, 3, none⟩,
 ⟨some 15, .convert 3 5 (.tmp 14), 5, none⟩,
 ⟨some 16, .indexAddr 54 (.tmp 11) (.const (.int .i64 0)), 0, none⟩,
 ⟨none, .store 5 (.tmp 16) (.tmp 15), 0, none⟩] [1, 3])
 (.seq (.ops [
 ⟨some 17, .fieldAddr 24 (.tmp 1) 0, 0, none⟩,
 ⟨some 18, .load 3 (.tmp 17), 3, none⟩,
 ⟨some 4, .assign (.tmp 18), 3, none⟩] [1, 3, 4])
 (.seq (.seq (.ops [
 ⟨some 5, .assign (.const (.int .i64 0)), 3, none⟩] [1, 3, 4, 5])
 (.block 0 (.loop (sg c11L1)))) (sg c11S4))))))
set_option maxRecDepth 100000 in
theorem ent11 (a0 : Value) (w : World) (K : Value → World → Prop) (h : W Try.prog c11 [(0, a0)] w (finQ Try.prog [.tmp 2] K)) : Ret Try.prog 11 [a0] w K :=
  Ret_of_W (code := c11code) Try.func11 (by kernel_rfl) (by kernel_rfl) (of_decide_eq_true (by kernel_rfl)) h
--SIMP 11 c11 c11S0 c11L0 c11S1 c11S2 c11S3 c11L1 c11S4 TYS 3 5 9 22 24 54 FNS 
@[go_sem] theorem go11 : goFunc Try.prog 11 = true := by kernel_rfl
/- Function 12: slot.Get -/
noncomputable def c12code : Code := match Try.f12.body with | some c => c | none => .skip
noncomputable def c12S0 (_ : Unit) : Cmd := (.cond (.tmp 15)
  (.seq (.ops [
  ⟨some 4, .assign (.const (.string (ofL []))), 9, none⟩,
  ⟨some 5, .assign (.const (.bool false)), 4, none⟩] [4, 5])
  .ret)
  (.skip [0, 1]))
noncomputable def c12S1 (_ : Unit) : Cmd := (.seq (.ops [
 ⟨some 22, .move (.tmp 0), 9, none⟩,
 ⟨some 23, .move (.tmp 6), 3, none⟩,
 ⟨some 24, .move (.tmp 6), 3, none⟩,
 ⟨some 25, .move (.tmp 7), 3, none⟩,
 ⟨some 26, .binOp .add 3 (.tmp 24) (.tmp 25) 3, 3, none⟩,
 ⟨some 27, .slice 9 (.tmp 22) (some (.tmp 23)) (some (.tmp 26)) none, 9, none⟩,
 ⟨some 28, .move (.tmp 7), 3, none⟩,
 ⟨some 29, .binOp .gtr 3 (.tmp 28) (.const (.int .i64 0)) 3, 4, none⟩,
 ⟨some 4, .assign (.tmp 27), 9, none⟩,
 ⟨some 5, .assign (.tmp 29), 4, none⟩] [4, 5])
 .ret)
noncomputable def c12S2 (_ : Unit) : Cmd := (.seq (.ops [
 ⟨some 17, .move (.tmp 0), 9, none⟩,
 ⟨some 18, .move (.tmp 1), 3, none⟩,
 ⟨some 19, .call ⟨.value (.func 30), #[(.tmp 17), (.tmp 18)], #[9, 3]⟩, 55, none⟩,
 ⟨some 16, .move (.tmp 19), 55, none⟩,
 ⟨some 20, .extract (.tmp 16) 0, 3, none⟩,
 ⟨some 21, .extract (.tmp 16) 1, 3, none⟩,
 ⟨some 6, .assign (.tmp 20), 3, none⟩,
 ⟨some 7, .assign (.tmp 21), 3, none⟩] [0, 6, 7]) (sg c12S1))
noncomputable def c12 : Cmd := (.seq (.ops [
 ⟨some 4, .assign (.const (.string (ofL []))), 9, none⟩,
 ⟨some 5, .assign (.const (.bool false)), 4, none⟩] [0, 1])
 (.seq (.seq (.ops [
 ⟨some 8, .move (.tmp 1), 3, none⟩,
 ⟨some 9, .binOp .lss 3 (.tmp 8) (.const (.int .i64 0)) 3, 4, none⟩,
 ⟨some 10, .move (.tmp 9), 4, none⟩,
 ⟨some 11, .move (.tmp 1), 3, (some (10, false))⟩,
 ⟨some 12, .move (.tmp 0), 9, (some (10, false))⟩,
 ⟨some 13, .call ⟨.value (.func 29), #[(.tmp 12)], #[9]⟩, 3, (some (10, false))⟩,
 ⟨some 14, .binOp .geq 3 (.tmp 11) (.tmp 13) 3, 4, (some (10, false))⟩,
 ⟨some 15, .pick (.tmp 10) (.const (.bool true)) (.tmp 14), 4, none⟩] [0, 1, 15]) (sg c12S0)) (sg c12S2)))
set_option maxRecDepth 100000 in
theorem ent12 (a0 a1 : Value) (w : World) (K : Value → World → Prop) (h : W Try.prog c12 [(0, a0), (1, a1)] w (finQ Try.prog [.tmp 4, .tmp 5] K)) : Ret Try.prog 12 [a0, a1] w K :=
  Ret_of_W (code := c12code) Try.func12 (by kernel_rfl) (by kernel_rfl) (of_decide_eq_true (by kernel_rfl)) h
--SIMP 12 c12 c12S0 c12S1 c12S2 TYS 3 9 FNS 29 30
@[go_sem] theorem go12 : goFunc Try.prog 12 = true := by kernel_rfl
/- Function 13: (annalistref24.Page).Get -/
noncomputable def c13code : Code := match Try.f13.body with | some c => c | none => .skip
noncomputable def c13S0 (_ : Unit) : Cmd := (.seq (.ops [
 ⟨some 23, .fieldAddr 24 (.tmp 2) 1, 0, none⟩,
 ⟨some 24, .load 22 (.tmp 23), 22, none⟩,
 ⟨some 25, .move (.tmp 1), 3, none⟩,
 ⟨some 26, .indexAddr 22 (.tmp 24) (.tmp 25), 0, none⟩,
 ⟨some 27, .load 9 (.tmp 26), 9, none⟩,
 ⟨some 4, .assign (.tmp 27), 9, none⟩,
 ⟨some 5, .assign (.const (.bool true)), 4, none⟩] [4, 5])
 .ret)
noncomputable def c13 : Cmd := (.seq (.ops [
 ⟨some 2, .box 24 (.tmp 0), 0, none⟩,
 ⟨some 4, .assign (.const (.string (ofL []))), 9, none⟩,
 ⟨some 5, .assign (.const (.bool false)), 4, none⟩] [1, 2])
 (.seq (.seq (.ops [
 ⟨some 6, .move (.tmp 1), 3, none⟩,
 ⟨some 7, .binOp .lss 3 (.tmp 6) (.const (.int .i64 0)) 3, 4, none⟩,
 ⟨some 8, .move (.tmp 7), 4, none⟩,
 ⟨some 9, .move (.tmp 1), 3, (some (8, false))⟩,
 ⟨some 10, .fieldAddr 24 (.tmp 2) 1, 0, (some (8, false))⟩,
 ⟨some 11, .load 22 (.tmp 10), 22, (some (8, false))⟩,
 ⟨some 12, .call ⟨.builtin .len, #[(.tmp 11)], #[22]⟩, 3, (some (8, false))⟩,
 ⟨some 13, .binOp .geq 3 (.tmp 9) (.tmp 12) 3, 4, (some (8, false))⟩,
 ⟨some 14, .pick (.tmp 8) (.const (.bool true)) (.tmp 13), 4, none⟩,
 ⟨some 15, .move (.tmp 14), 4, none⟩,
 ⟨some 16, .fieldAddr 24 (.tmp 2) 1, 0, (some (15, false))⟩,
 ⟨some 17, .load 22 (.tmp 16), 22, (some (15, false))⟩,
 ⟨some 18, .move (.tmp 1), 3, (some (15, false))⟩,
 ⟨some 19, .indexAddr 22 (.tmp 17) (.tmp 18), 0, (some (15, false))⟩,
 ⟨some 20, .load 9 (.tmp 19), 9, (some (15, false))⟩,
 ⟨some 21, .binOp .eql 9 (.tmp 20) (.const (.string (ofL []))) 9, 4, (some (15, false))⟩,
 ⟨some 22, .pick (.tmp 15) (.const (.bool true)) (.tmp 21), 4, none⟩] [1, 2, 22])
 (.cond (.tmp 22)
  (.seq (.ops [
  ⟨some 4, .assign (.const (.string (ofL []))), 9, none⟩,
  ⟨some 5, .assign (.const (.bool false)), 4, none⟩] [4, 5])
  .ret)
  (.skip [1, 2]))) (sg c13S0)))
set_option maxRecDepth 100000 in
theorem ent13 (a0 a1 : Value) (w : World) (K : Value → World → Prop) (h : W Try.prog c13 [(0, a0), (1, a1)] w (finQ Try.prog [.tmp 4, .tmp 5] K)) : Ret Try.prog 13 [a0, a1] w K :=
  Ret_of_W (code := c13code) Try.func13 (by kernel_rfl) (by kernel_rfl) (of_decide_eq_true (by kernel_rfl)) h
--SIMP 13 c13 c13S0 TYS 3 9 22 24 FNS 
@[go_sem] theorem go13 : goFunc Try.prog 13 = true := by kernel_rfl
/- Function 14: slot.Delete -/
noncomputable def c14code : Code := match Try.f14.body with | some c => c | none => .skip
noncomputable def c14S0 (_ : Unit) : Cmd := (.seq (.ops [
 ⟨some 15, .move (.tmp 7), 4, none⟩,
 ⟨some 16, .unOp .not 4 (.tmp 15), 4, none⟩] [0, 1, 16])
 (.cond (.tmp 16)
  (.seq (.ops [
  ⟨some 17, .move (.tmp 0), 9, none⟩,
  ⟨some 4, .assign (.tmp 17), 9, none⟩,
  ⟨some 5, .assign (.const (.bool false)), 4, none⟩] [4, 5])
  .ret)
  (.skip [0, 1])))
noncomputable def c14S1 (_ : Unit) : Cmd := .ret
noncomputable def c14S2 (_ : Unit) : Cmd := (.seq (.ops [
 ⟨some 20, .move (.tmp 8), 22, none⟩,
 ⟨some 21, .move (.tmp 1), 3, none⟩,
 ⟨some 22, .indexAddr 22 (.tmp 20) (.tmp 21), 0, none⟩,
 ⟨none, .store 9 (.tmp 22) (.const (.string (ofL []))), 0, none⟩] [0, 8])
 (.seq (.ops [
 ⟨some 23, .move (.tmp 0), 9, none⟩,
 ⟨some 24, .call ⟨.builtin .len, #[(.tmp 23)], #[9]⟩, 3, none⟩,
 ⟨some 25, .move (.tmp 8), 22, none⟩,
 ⟨some 26, .call ⟨.value (.func 26), #[(.tmp 24), (.tmp 25)], #[3, 22]⟩, 9, none⟩,
 ⟨some 4, .assign (.tmp 26), 9, none⟩,
 ⟨some 5, .assign (.const (.bool true)), 4, none⟩] [4, 5]) (sg c14S1)))
noncomputable def c14S3 (_ : Unit) : Cmd := (.seq (.ops [
 ⟨some 18, .move (.tmp 0), 9, none⟩,
 ⟨some 19, .call ⟨.value (.func 24), #[(.tmp 18)], #[9]⟩, 22, none⟩,
 ⟨some 8, .assign (.tmp 19), 22, none⟩] [0, 1, 8]) (sg c14S2))
noncomputable def c14 : Cmd := (.seq (.ops [
 ⟨some 4, .assign (.const (.string (ofL []))), 9, none⟩,
 ⟨some 5, .assign (.const (.bool false)), 4, none⟩] [0, 1])
 (.seq (.seq (.ops [
 ⟨some 10, .move (.tmp 0), 9, none⟩,
 ⟨some 11, .move (.tmp 1), 3, none⟩,
 ⟨some 12, .call ⟨.value (.func 12), #[(.tmp 10), (.tmp 11)], #[9, 3]⟩, 34, none⟩,
 ⟨some 9, .move (.tmp 12), 34, none⟩,
 ⟨some 13, .extract (.tmp 9) 0, 9, none⟩,
 ⟨some 14, .extract (.tmp 9) 1, 4, none⟩,
 ⟨some 6, .assign (.tmp 13), 9, none⟩,
 ⟨some 7, .assign (.tmp 14), 4, none⟩] [0, 1, 7]) (sg c14S0)) (sg c14S3)))
set_option maxRecDepth 100000 in
theorem ent14 (a0 a1 : Value) (w : World) (K : Value → World → Prop) (h : W Try.prog c14 [(0, a0), (1, a1)] w (finQ Try.prog [.tmp 4, .tmp 5] K)) : Ret Try.prog 14 [a0, a1] w K :=
  Ret_of_W (code := c14code) Try.func14 (by kernel_rfl) (by kernel_rfl) (of_decide_eq_true (by kernel_rfl)) h
--SIMP 14 c14 c14S0 c14S1 c14S2 c14S3 TYS 9 22 FNS 12 24 26
@[go_sem] theorem go14 : goFunc Try.prog 14 = true := by kernel_rfl
/- Function 15: annalistref03.Texts -/
noncomputable def c15code : Code := match Try.f15.body with | some c => c | none => .skip
noncomputable def c15S0 (_ : Unit) : Cmd := (.cond (.tmp 25)
  (.seq (.ops [
  ⟨some 4, .assign (.const (.bool false)), 4, none⟩] [4])
  .ret)
  (.skip [0, 1, 5]))
noncomputable def c15S1 (_ : Unit) : Cmd := (.ops [
 ⟨some 15, .move (.tmp 5), 3, none⟩,
 ⟨some 16, .binOp .add 3 (.tmp 15) (.const (.int .i64 1)) 3, 3, none⟩,
 ⟨some 5, .assign (.tmp 16), 3, none⟩] [0, 1, 5])
noncomputable def c15S2 (_ : Unit) : Cmd := (.seq (.block 1 (.seq (.draw (drawOps 0 c15code) [0, 1, 5, 25]) (sg c15S0))) (sg c15S1))
noncomputable def c15L0 (_ : Unit) : Cmd := (.seq (.seq (.ops [
 ⟨some 11, .move (.tmp 5), 3, none⟩,
 ⟨some 12, .move (.tmp 0), 22, none⟩,
 ⟨some 13, .call ⟨.builtin .len, #[(.tmp 12)], #[22]⟩, 3, none⟩,
 ⟨some 14, .binOp .lss 3 (.tmp 11) (.tmp 13) 3, 4, none⟩] [0, 1, 5, 14])
 (.cond (.tmp 14)
  (.skip [0, 1, 5])
  (.exit 0 []))) (sg c15S2))
noncomputable def c15S3 (_ : Unit) : Cmd := (.seq (.ops [
 ⟨some 4, .assign (.const (.bool true)), 4, none⟩] [4])
 .ret)
noncomputable def c15S4 (_ : Unit) : Cmd := (.seq (.seq (.ops [
 ⟨some 5, .assign (.const (.int .i64 0)), 3, none⟩] [0, 1, 5])
 (.block 0 (.loop (sg c15L0)))) (sg c15S3))
noncomputable def c15 : Cmd := (.seq (.ops [
 ⟨some 4, .assign (.const (.bool false)), 4, none⟩] [0, 1])
 (.seq (.seq (.ops [
 ⟨some 6, .move (.tmp 0), 22, none⟩,
 ⟨some 7, .call ⟨.builtin .len, #[(.tmp 6)], #[22]⟩, 3, none⟩,
 ⟨some 8, .move (.tmp 1), 22, none⟩,
 ⟨some 9, .call ⟨.builtin .len, #[(.tmp 8)], #[22]⟩, 3, none⟩,
 ⟨some 10, .binOp .neq 3 (.tmp 7) (.tmp 9) 3, 4, none⟩] [0, 1, 10])
 (.cond (.tmp 10)
  (.seq (.ops [
  ⟨some 4, .assign (.const (.bool false)), 4, none⟩] [4])
  .ret)
  (.skip [0, 1]))) (sg c15S4)))
noncomputable def c15D0 : List (Bool × Ins) := [
 (true, ⟨some 17, .move (.tmp 0), 22, none⟩),
 (true, ⟨some 18, .move (.tmp 5), 3, none⟩),
 (true, ⟨some 19, .indexAddr 22 (.tmp 17) (.tmp 18), 0, none⟩),
 (false, ⟨some 20, .load 9 (.tmp 19), 9, none⟩),
 (true, ⟨some 21, .move (.tmp 1), 22, none⟩),
 (true, ⟨some 22, .move (.tmp 5), 3, none⟩),
 (true, ⟨some 23, .indexAddr 22 (.tmp 21) (.tmp 22), 0, none⟩),
 (false, ⟨some 24, .load 9 (.tmp 23), 9, none⟩),
 (true, ⟨some 25, .binOp .neq 9 (.tmp 20) (.tmp 24) 9, 4, none⟩)]
theorem c15draw0 {L : List Nat} {ρ : Env} {w : World} {Q : Post} (h : DL Try.prog c15D0 L ρ w.drew Q) : drawW Try.prog (drawOps 0 c15code) L ρ w Q :=
  drawW_still [true, true, true, false, true, true, true, false, true] c15D0 (by kernel_rfl) (by kernel_rfl) (by kernel_rfl) h
set_option maxRecDepth 100000 in
theorem ent15 (a0 a1 : Value) (w : World) (K : Value → World → Prop) (h : W Try.prog c15 [(0, a0), (1, a1)] w (finQ Try.prog [.tmp 4] K)) : Ret Try.prog 15 [a0, a1] w K :=
  Ret_of_W (code := c15code) Try.func15 (by kernel_rfl) (by kernel_rfl) (of_decide_eq_true (by kernel_rfl)) h
--SIMP 15 c15 c15S0 c15S1 c15S2 c15L0 c15S3 c15S4 TYS 3 9 22 FNS 
@[go_sem] theorem go15 : goFunc Try.prog 15 = true := by kernel_rfl
/- Function 16: slot.Free -/
noncomputable def c16code : Code := match Try.f16.body with | some c => c | none => .skip
noncomputable def c16S0 (_ : Unit) : Cmd := (.cond (.tmp 16)
  (.ops [
  ⟨some 17, .move (.tmp 4), 3, none⟩,
  ⟨some 18, .binOp .sub 3 (.tmp 17) (.const (.int .i64 2)) 3, 3, none⟩,
  ⟨some 4, .assign (.tmp 18), 3, none⟩] [4])
  (.skip [4]))
noncomputable def c16S1 (_ : Unit) : Cmd := .ret
noncomputable def c16S2 (_ : Unit) : Cmd := (.seq (.ops [
 ⟨some 19, .move (.tmp 4), 3, none⟩,
 ⟨some 20, .call ⟨.builtin .min, #[(.tmp 19), (.const (.int .i64 255))], #[3, 3]⟩, 3, none⟩,
 ⟨some 21, .call ⟨.builtin .max, #[(.const (.int .i64 0)), (.tmp 20)], #[3, 3]⟩, 3, none⟩,
 ⟨some 2, .assign (.tmp 21), 3, none⟩] [2]) (sg c16S1))
noncomputable def c16S3 (_ : Unit) : Cmd := (.seq (.seq (.ops [
 ⟨some 14, .move (.tmp 3), 22, none⟩,
 ⟨some 15, .call ⟨.value (.func 32), #[(.tmp 14), (.const (.string (ofL [])))], #[22, 9]⟩, 4, none⟩,
 ⟨some 16, .unOp .not 4 (.tmp 15), 4, none⟩] [4, 16]) (sg c16S0)) (sg c16S2))
noncomputable def c16S4 (_ : Unit) : Cmd := (.seq (.ops [
 ⟨some 9, .move (.tmp 0), 9, none⟩,
 ⟨some 10, .call ⟨.builtin .len, #[(.tmp 9)], #[9]⟩, 3, none⟩,
 ⟨some 11, .move (.tmp 3), 22, none⟩,
 ⟨some 12, .call ⟨.value (.func 31), #[(.tmp 11)], #[22]⟩, 3, none⟩,
 ⟨some 13, .binOp .sub 3 (.tmp 10) (.tmp 12) 3, 3, none⟩,
 ⟨some 4, .assign (.tmp 13), 3, none⟩] [3, 4]) (sg c16S3))
noncomputable def c16S5 (_ : Unit) : Cmd := (.seq (.ops [
 ⟨some 7, .move (.tmp 0), 9, none⟩,
 ⟨some 8, .call ⟨.value (.func 24), #[(.tmp 7)], #[9]⟩, 22, none⟩,
 ⟨some 3, .assign (.tmp 8), 22, none⟩] [0, 3]) (sg c16S4))
noncomputable def c16 : Cmd := (.seq (.ops [
 ⟨some 2, .assign (.const (.int .i64 0)), 3, none⟩] [0])
 (.seq (.seq (.ops [
 ⟨some 5, .move (.tmp 0), 9, none⟩,
 ⟨some 6, .binOp .eql 9 (.tmp 5) (.const (.string (ofL []))) 9, 4, none⟩] [0, 6])
 (.cond (.tmp 6)
  (.seq (.ops [
  ⟨some 2, .assign (.const (.int .i64 0)), 3, none⟩] [2])
  .ret)
  (.skip [0]))) (sg c16S5)))
set_option maxRecDepth 100000 in
theorem ent16 (a0 : Value) (w : World) (K : Value → World → Prop) (h : W Try.prog c16 [(0, a0)] w (finQ Try.prog [.tmp 2] K)) : Ret Try.prog 16 [a0] w K :=
  Ret_of_W (code := c16code) Try.func16 (by kernel_rfl) (by kernel_rfl) (of_decide_eq_true (by kernel_rfl)) h
--SIMP 16 c16 c16S0 c16S1 c16S2 c16S3 c16S4 c16S5 TYS 3 9 FNS 24 31 32
@[go_sem] theorem go16 : goFunc Try.prog 16 = true := by kernel_rfl
/- Function 17: (annalistref24.Page).Free -/
noncomputable def c17code : Code := match Try.f17.body with | some c => c | none => .skip
noncomputable def c17S0 (_ : Unit) : Cmd := (.cond (.tmp 14)
  (.ops [
  ⟨some 15, .move (.tmp 3), 3, none⟩,
  ⟨some 16, .binOp .sub 3 (.tmp 15) (.const (.int .i64 2)) 3, 3, none⟩,
  ⟨some 3, .assign (.tmp 16), 3, none⟩] [3])
  (.skip [3]))
noncomputable def c17S1 (_ : Unit) : Cmd := (.seq (.ops [
 ⟨some 21, .move (.tmp 3), 3, none⟩,
 ⟨some 2, .assign (.tmp 21), 3, none⟩] [2])
 .ret)
noncomputable def c17S2 (_ : Unit) : Cmd := (.seq (.seq (.ops [
 ⟨some 19, .move (.tmp 3), 3, none⟩,
 ⟨some 20, .binOp .gtr 3 (.tmp 19) (.const (.int .i64 255)) 3, 4, none⟩] [3, 20])
 (.cond (.tmp 20)
  (.seq (.ops [
  ⟨some 2, .assign (.const (.int .i64 255)), 3, none⟩] [2])
  .ret)
  (.skip [3]))) (sg c17S1))
noncomputable def c17S3 (_ : Unit) : Cmd := (.seq (.seq (.ops [
 ⟨some 17, .move (.tmp 3), 3, none⟩,
 ⟨some 18, .binOp .lss 3 (.tmp 17) (.const (.int .i64 0)) 3, 4, none⟩] [3, 18])
 (.cond (.tmp 18)
  (.seq (.ops [
  ⟨some 2, .assign (.const (.int .i64 0)), 3, none⟩] [2])
  .ret)
  (.skip [3]))) (sg c17S2))
noncomputable def c17S4 (_ : Unit) : Cmd := (.seq (.seq (.draw (drawOps 1 c17code) [3, 14]) (sg c17S0)) (sg c17S3))
noncomputable def c17 : Cmd := (.seq (.ops [
 ⟨some 1, .box 24 (.tmp 0), 0, none⟩,
 ⟨some 2, .assign (.const (.int .i64 0)), 3, none⟩] [1])
 (.seq (.draw (drawOps 0 c17code) [1, 3]) (sg c17S4)))
noncomputable def c17D0 : List (Nat × Ins) := [
 (0, ⟨some 4, .fieldAddr 24 (.tmp 1) 0, 0, none⟩),
 (1, ⟨some 5, .load 3 (.tmp 4), 3, none⟩),
 (2, ⟨some 6, .load 24 (.tmp 1), 24, none⟩),
 (2, ⟨some 7, .call ⟨.value (.func 33), #[(.tmp 6)], #[24]⟩, 3, none⟩),
 (0, ⟨some 8, .binOp .sub 3 (.tmp 5) (.tmp 7) 3, 3, none⟩),
 (0, ⟨some 3, .assign (.tmp 8), 3, none⟩)]
theorem c17draw0 {L : List Nat} {ρ : Env} {w : World} {Q : Post} (S : World → Prop) (hS : S w.drew) (h : DG Try.prog S c17D0 L ρ w.drew Q) : drawW Try.prog (drawOps 0 c17code) L ρ w Q :=
  drawW_held [1] [(0, 0), (1, 1), (2, 2), (2, 3), (0, 4), (0, 5)] c17D0 (by kernel_rfl) (by kernel_rfl) (by kernel_rfl) S hS h
noncomputable def c17D1 : List (Nat × Ins) := [
 (0, ⟨some 11, .fieldAddr 24 (.tmp 1) 1, 0, none⟩),
 (1, ⟨some 9, .load 24 (.tmp 1), 24, none⟩),
 (1, ⟨some 12, .load 22 (.tmp 11), 22, none⟩),
 (0, ⟨some 13, .call ⟨.builtin .len, #[(.tmp 12)], #[22]⟩, 3, none⟩),
 (2, ⟨some 10, .call ⟨.value (.func 28), #[(.tmp 9)], #[24]⟩, 3, none⟩),
 (0, ⟨some 14, .binOp .eql 3 (.tmp 10) (.tmp 13) 3, 4, none⟩)]
theorem c17draw1 {L : List Nat} {ρ : Env} {w : World} {Q : Post} (S : World → Prop) (hS : S w.drew) (h : DG Try.prog S c17D1 L ρ w.drew Q) : drawW Try.prog (drawOps 1 c17code) L ρ w Q :=
  drawW_held [0, 3] [(0, 2), (1, 0), (1, 3), (0, 4), (2, 1), (0, 5)] c17D1 (by kernel_rfl) (by kernel_rfl) (by kernel_rfl) S hS h
set_option maxRecDepth 100000 in
theorem ent17 (a0 : Value) (w : World) (K : Value → World → Prop) (h : W Try.prog c17 [(0, a0)] w (finQ Try.prog [.tmp 2] K)) : Ret Try.prog 17 [a0] w K :=
  Ret_of_W (code := c17code) Try.func17 (by kernel_rfl) (by kernel_rfl) (of_decide_eq_true (by kernel_rfl)) h
--SIMP 17 c17 c17S0 c17S1 c17S2 c17S3 c17S4 TYS 3 22 24 FNS 28 33
@[go_sem] theorem go17 : goFunc Try.prog 17 = true := by kernel_rfl
/- Function 18: slot.Set -/
noncomputable def c18code : Code := match Try.f18.body with | some c => c | none => .skip
noncomputable def c18S0 (_ : Unit) : Cmd := (.cond (.tmp 41)
  (.seq (.ops [
  ⟨some 42, .move (.tmp 0), 9, none⟩,
  ⟨some 6, .assign (.tmp 42), 9, none⟩,
  ⟨some 7, .assign (.const (.bool false)), 4, none⟩] [6, 7])
  .ret)
  (.skip [0, 1, 2, 10]))
noncomputable def c18S1 (_ : Unit) : Cmd := .ret
noncomputable def c18S2 (_ : Unit) : Cmd := (.seq (.ops [
 ⟨some 43, .move (.tmp 10), 22, none⟩,
 ⟨some 44, .move (.tmp 1), 3, none⟩,
 ⟨some 45, .move (.tmp 2), 9, none⟩,
 ⟨some 46, .indexAddr 22 (.tmp 43) (.tmp 44), 0, none⟩,
 ⟨none, .store 9 (.tmp 46) (.tmp 45), 0, none⟩] [0, 10])
 (.seq (.ops [
 ⟨some 47, .move (.tmp 0), 9, none⟩,
 ⟨some 48, .call ⟨.builtin .len, #[(.tmp 47)], #[9]⟩, 3, none⟩,
 ⟨some 49, .move (.tmp 10), 22, none⟩,
 ⟨some 50, .call ⟨.value (.func 26), #[(.tmp 48), (.tmp 49)], #[3, 22]⟩, 9, none⟩,
 ⟨some 6, .assign (.tmp 50), 9, none⟩,
 ⟨some 7, .assign (.const (.bool true)), 4, none⟩] [6, 7]) (sg c18S1)))
noncomputable def c18S3 (_ : Unit) : Cmd := (.seq (.seq (.ops [
 ⟨some 31, .move (.tmp 10), 22, none⟩,
 ⟨some 32, .call ⟨.value (.func 31), #[(.tmp 31)], #[22]⟩, 3, none⟩,
 ⟨some 33, .move (.tmp 8), 9, none⟩,
 ⟨some 34, .call ⟨.builtin .len, #[(.tmp 33)], #[9]⟩, 3, none⟩,
 ⟨some 35, .binOp .sub 3 (.tmp 32) (.tmp 34) 3, 3, none⟩,
 ⟨some 36, .move (.tmp 2), 9, none⟩,
 ⟨some 37, .call ⟨.builtin .len, #[(.tmp 36)], #[9]⟩, 3, none⟩,
 ⟨some 38, .binOp .add 3 (.tmp 35) (.tmp 37) 3, 3, none⟩,
 ⟨some 39, .move (.tmp 0), 9, none⟩,
 ⟨some 40, .call ⟨.builtin .len, #[(.tmp 39)], #[9]⟩, 3, none⟩,
 ⟨some 41, .binOp .gtr 3 (.tmp 38) (.tmp 40) 3, 4, none⟩] [0, 1, 2, 10, 41]) (sg c18S0)) (sg c18S2))
noncomputable def c18S4 (_ : Unit) : Cmd := (.seq (.ops [
 ⟨some 29, .move (.tmp 0), 9, none⟩,
 ⟨some 30, .call ⟨.value (.func 24), #[(.tmp 29)], #[9]⟩, 22, none⟩,
 ⟨some 10, .assign (.tmp 30), 22, none⟩] [0, 1, 2, 8, 10]) (sg c18S3))
noncomputable def c18S5 (_ : Unit) : Cmd := (.seq (.seq (.ops [
 ⟨some 17, .move (.tmp 9), 4, none⟩,
 ⟨some 18, .unOp .not 4 (.tmp 17), 4, none⟩,
 ⟨some 19, .move (.tmp 18), 4, none⟩,
 ⟨some 20, .move (.tmp 2), 9, (some (19, false))⟩,
 ⟨some 21, .binOp .eql 9 (.tmp 20) (.const (.string (ofL []))) 9, 4, (some (19, false))⟩,
 ⟨some 22, .pick (.tmp 19) (.const (.bool true)) (.tmp 21), 4, none⟩,
 ⟨some 23, .move (.tmp 22), 4, none⟩,
 ⟨some 24, .move (.tmp 2), 9, (some (23, false))⟩,
 ⟨some 25, .call ⟨.builtin .len, #[(.tmp 24)], #[9]⟩, 3, (some (23, false))⟩,
 ⟨some 26, .binOp .gtr 3 (.tmp 25) (.const (.int .i64 255)) 3, 4, (some (23, false))⟩,
 ⟨some 27, .pick (.tmp 23) (.const (.bool true)) (.tmp 26), 4, none⟩] [0, 1, 2, 8, 27])
 (.cond (.tmp 27)
  (.seq (.ops [
  ⟨some 28, .move (.tmp 0), 9, none⟩,
  ⟨some 6, .assign (.tmp 28), 9, none⟩,
  ⟨some 7, .assign (.const (.bool false)), 4, none⟩] [6, 7])
  .ret)
  (.skip [0, 1, 2, 8]))) (sg c18S4))
noncomputable def c18 : Cmd := (.seq (.ops [
 ⟨some 6, .assign (.const (.string (ofL []))), 9, none⟩,
 ⟨some 7, .assign (.const (.bool false)), 4, none⟩] [0, 1, 2])
 (.seq (.ops [
 ⟨some 12, .move (.tmp 0), 9, none⟩,
 ⟨some 13, .move (.tmp 1), 3, none⟩,
 ⟨some 14, .call ⟨.value (.func 12), #[(.tmp 12), (.tmp 13)], #[9, 3]⟩, 34, none⟩,
 ⟨some 11, .move (.tmp 14), 34, none⟩,
 ⟨some 15, .extract (.tmp 11) 0, 9, none⟩,
 ⟨some 16, .extract (.tmp 11) 1, 4, none⟩,
 ⟨some 8, .assign (.tmp 15), 9, none⟩,
 ⟨some 9, .assign (.tmp 16), 4, none⟩] [0, 1, 2, 8, 9]) (sg c18S5)))
set_option maxRecDepth 100000 in
theorem ent18 (a0 a1 a2 : Value) (w : World) (K : Value → World → Prop) (h : W Try.prog c18 [(0, a0), (1, a1), (2, a2)] w (finQ Try.prog [.tmp 6, .tmp 7] K)) : Ret Try.prog 18 [a0, a1, a2] w K :=
  Ret_of_W (code := c18code) Try.func18 (by kernel_rfl) (by kernel_rfl) (of_decide_eq_true (by kernel_rfl)) h
--SIMP 18 c18 c18S0 c18S1 c18S2 c18S3 c18S4 c18S5 TYS 3 9 22 FNS 12 24 26 31
@[go_sem] theorem go18 : goFunc Try.prog 18 = true := by kernel_rfl
/- Function 19: (annalistref24.Page).Set -/
noncomputable def c19code : Code := match Try.f19.body with | some c => c | none => .skip
noncomputable def c19S0 (_ : Unit) : Cmd := (.cond (.tmp 39)
  (.seq (.ops [
  ⟨some 40, .load 24 (.tmp 3), 24, none⟩,
  ⟨none, .store 24 (.tmp 6) (.tmp 40), 0, none⟩,
  ⟨some 7, .assign (.const (.bool false)), 4, none⟩] [6, 7])
  .ret)
  (.skip [1, 2, 3, 6]))
noncomputable def c19S1 (_ : Unit) : Cmd := .ret
noncomputable def c19S2 (_ : Unit) : Cmd := (.seq (.ops [
 ⟨some 41, .load 24 (.tmp 3), 24, none⟩,
 ⟨some 42, .move (.tmp 1), 3, none⟩,
 ⟨some 43, .move (.tmp 2), 9, none⟩,
 ⟨some 44, .call ⟨.value (.func 27), #[(.tmp 41), (.tmp 42), (.tmp 43)], #[24, 3, 9]⟩, 24, none⟩,
 ⟨none, .store 24 (.tmp 6) (.tmp 44), 0, none⟩,
 ⟨some 7, .assign (.const (.bool true)), 4, none⟩] [6, 7]) (sg c19S1))
noncomputable def c19S3 (_ : Unit) : Cmd := (.seq (.seq (.draw (drawOps 0 c19code) [1, 2, 3, 6, 39]) (sg c19S0)) (sg c19S2))
noncomputable def c19 : Cmd := (.seq (.ops [
 ⟨some 3, .box 24 (.tmp 0), 0, none⟩,
 ⟨some 6, .alloc 24, 0, none⟩,
 ⟨some 7, .assign (.const (.bool false)), 4, none⟩] [1, 2, 3, 6])
 (.seq (.ops [
 ⟨some 11, .load 24 (.tmp 3), 24, none⟩,
 ⟨some 12, .move (.tmp 1), 3, none⟩,
 ⟨some 13, .call ⟨.value (.func 13), #[(.tmp 11), (.tmp 12)], #[24, 3]⟩, 34, none⟩,
 ⟨some 10, .move (.tmp 13), 34, none⟩,
 ⟨some 14, .extract (.tmp 10) 0, 9, none⟩,
 ⟨some 15, .extract (.tmp 10) 1, 4, none⟩,
 ⟨some 8, .assign (.tmp 14), 9, none⟩,
 ⟨some 9, .assign (.tmp 15), 4, none⟩] [1, 2, 3, 6, 8, 9]) (sg c19S3)))
noncomputable def c19D0 : List (Nat × Ins) := [
 (0, ⟨some 16, .move (.tmp 9), 4, none⟩),
 (0, ⟨some 17, .unOp .not 4 (.tmp 16), 4, none⟩),
 (0, ⟨some 18, .move (.tmp 17), 4, none⟩),
 (0, ⟨some 19, .move (.tmp 2), 9, (some (18, false))⟩),
 (0, ⟨some 20, .binOp .eql 9 (.tmp 19) (.const (.string (ofL []))) 9, 4, (some (18, false))⟩),
 (0, ⟨some 21, .pick (.tmp 18) (.const (.bool true)) (.tmp 20), 4, none⟩),
 (0, ⟨some 22, .move (.tmp 21), 4, none⟩),
 (0, ⟨some 23, .move (.tmp 2), 9, (some (22, false))⟩),
 (0, ⟨some 24, .call ⟨.builtin .len, #[(.tmp 23)], #[9]⟩, 3, (some (22, false))⟩),
 (0, ⟨some 25, .binOp .gtr 3 (.tmp 24) (.const (.int .i64 255)) 3, 4, (some (22, false))⟩),
 (0, ⟨some 26, .pick (.tmp 22) (.const (.bool true)) (.tmp 25), 4, none⟩),
 (0, ⟨some 27, .move (.tmp 26), 4, none⟩),
 (0, ⟨some 30, .move (.tmp 8), 9, (some (27, false))⟩),
 (0, ⟨some 31, .call ⟨.builtin .len, #[(.tmp 30)], #[9]⟩, 3, (some (27, false))⟩),
 (0, ⟨some 33, .move (.tmp 2), 9, (some (27, false))⟩),
 (0, ⟨some 34, .call ⟨.builtin .len, #[(.tmp 33)], #[9]⟩, 3, (some (27, false))⟩),
 (0, ⟨some 36, .fieldAddr 24 (.tmp 3) 0, 0, (some (27, false))⟩),
 (1, ⟨some 28, .load 24 (.tmp 3), 24, (some (27, false))⟩),
 (1, ⟨some 37, .load 3 (.tmp 36), 3, (some (27, false))⟩),
 (2, ⟨some 29, .call ⟨.value (.func 33), #[(.tmp 28)], #[24]⟩, 3, (some (27, false))⟩),
 (0, ⟨some 32, .binOp .sub 3 (.tmp 29) (.tmp 31) 3, 3, (some (27, false))⟩),
 (0, ⟨some 35, .binOp .add 3 (.tmp 32) (.tmp 34) 3, 3, (some (27, false))⟩),
 (0, ⟨some 38, .binOp .gtr 3 (.tmp 35) (.tmp 37) 3, 4, (some (27, false))⟩),
 (0, ⟨some 39, .pick (.tmp 27) (.const (.bool true)) (.tmp 38), 4, none⟩)]
theorem c19draw0 {L : List Nat} {ρ : Env} {w : World} {Q : Post} (S : World → Prop) (hS : S w.drew) (h : DG Try.prog S c19D0 L ρ w.drew Q) : drawW Try.prog (drawOps 0 c19code) L ρ w Q :=
  drawW_held [12, 21] [(0, 0), (0, 1), (0, 2), (0, 3), (0, 4), (0, 5), (0, 6), (0, 7), (0, 8), (0, 9), (0, 10), (0, 11), (0, 14), (0, 15), (0, 17), (0, 18), (0, 20), (1, 12), (1, 21), (2, 13), (0, 16), (0, 19), (0, 22), (0, 23)] c19D0 (by kernel_rfl) (by kernel_rfl) (by kernel_rfl) S hS h
set_option maxRecDepth 100000 in
theorem ent19 (a0 a1 a2 : Value) (w : World) (K : Value → World → Prop) (h : W Try.prog c19 [(0, a0), (1, a1), (2, a2)] w (finQ Try.prog [.cell 6 24, .tmp 7] K)) : Ret Try.prog 19 [a0, a1, a2] w K :=
  Ret_of_W (code := c19code) Try.func19 (by kernel_rfl) (by kernel_rfl) (of_decide_eq_true (by kernel_rfl)) h
--SIMP 19 c19 c19S0 c19S1 c19S2 c19S3 TYS 3 9 24 FNS 13 27 33
@[go_sem] theorem go19 : goFunc Try.prog 19 = true := by kernel_rfl
/- Function 20: (annalistref24.Page).Delete -/
noncomputable def c20code : Code := match Try.f20.body with | some c => c | none => .skip
noncomputable def c20S0 (_ : Unit) : Cmd := .ret
noncomputable def c20S1 (_ : Unit) : Cmd := (.seq (.ops [
 ⟨some 17, .load 24 (.tmp 2), 24, none⟩,
 ⟨some 18, .move (.tmp 1), 3, none⟩,
 ⟨some 19, .call ⟨.value (.func 27), #[(.tmp 17), (.tmp 18), (.const (.string (ofL [])))], #[24, 3, 9]⟩, 24, none⟩,
 ⟨none, .store 24 (.tmp 4) (.tmp 19), 0, none⟩,
 ⟨some 5, .assign (.const (.bool true)), 4, none⟩] [4, 5]) (sg c20S0))
noncomputable def c20S2 (_ : Unit) : Cmd := (.seq (.seq (.ops [
 ⟨some 14, .move (.tmp 7), 4, none⟩,
 ⟨some 15, .unOp .not 4 (.tmp 14), 4, none⟩] [1, 2, 4, 15])
 (.cond (.tmp 15)
  (.seq (.ops [
  ⟨some 16, .load 24 (.tmp 2), 24, none⟩,
  ⟨none, .store 24 (.tmp 4) (.tmp 16), 0, none⟩,
  ⟨some 5, .assign (.const (.bool false)), 4, none⟩] [4, 5])
  .ret)
  (.skip [1, 2, 4]))) (sg c20S1))
noncomputable def c20 : Cmd := (.seq (.ops [
 ⟨some 2, .box 24 (.tmp 0), 0, none⟩,
 ⟨some 4, .alloc 24, 0, none⟩,
 ⟨some 5, .assign (.const (.bool false)), 4, none⟩] [1, 2, 4])
 (.seq (.ops [
 ⟨some 9, .load 24 (.tmp 2), 24, none⟩,
 ⟨some 10, .move (.tmp 1), 3, none⟩,
 ⟨some 11, .call ⟨.value (.func 13), #[(.tmp 9), (.tmp 10)], #[24, 3]⟩, 34, none⟩,
 ⟨some 8, .move (.tmp 11), 34, none⟩,
 ⟨some 12, .extract (.tmp 8) 0, 9, none⟩,
 ⟨some 13, .extract (.tmp 8) 1, 4, none⟩,
 ⟨some 6, .assign (.tmp 12), 9, none⟩,
 ⟨some 7, .assign (.tmp 13), 4, none⟩] [1, 2, 4, 7]) (sg c20S2)))
set_option maxRecDepth 100000 in
theorem ent20 (a0 a1 : Value) (w : World) (K : Value → World → Prop) (h : W Try.prog c20 [(0, a0), (1, a1)] w (finQ Try.prog [.cell 4 24, .tmp 5] K)) : Ret Try.prog 20 [a0, a1] w K :=
  Ret_of_W (code := c20code) Try.func20 (by kernel_rfl) (by kernel_rfl) (of_decide_eq_true (by kernel_rfl)) h
--SIMP 20 c20 c20S0 c20S1 c20S2 TYS 24 FNS 13 27
@[go_sem] theorem go20 : goFunc Try.prog 20 = true := by kernel_rfl
/- Function 21: slot.New -/
noncomputable def c21code : Code := match Try.f21.body with | some c => c | none => .skip
noncomputable def c21S0 (_ : Unit) : Cmd := (.seq (.ops [
 ⟨some 9, .move (.tmp 0), 3, none⟩,
 ⟨some 10, .makeSlice 54 (.tmp 9) (.tmp 9), 54, none⟩,
 ⟨some 11, .convert 54 9 (.tmp 10), 9, none⟩,
 ⟨some 2, .assign (.tmp 11), 9, none⟩] [2])
 .ret)
noncomputable def c21 : Cmd := (.seq (.ops [
 ⟨some 2, .assign (.const (.string (ofL []))), 9, none⟩] [0])
 (.seq (.seq (.ops [
 ⟨some 3, .move (.tmp 0), 3, none⟩,
 ⟨some 4, .binOp .lss 3 (.tmp 3) (.const (.int .i64 8)) 3, 4, none⟩,
 ⟨some 5, .move (.tmp 4), 4, none⟩,
 ⟨some 6, .move (.tmp 0), 3, (some (5, false))⟩,
 ⟨some 7, .binOp .gtr 3 (.tmp 6) (.const (.int .i64 256)) 3, 4, (some (5, false))⟩,
 ⟨some 8, .pick (.tmp 5) (.const (.bool true)) (.tmp 7), 4, none⟩] [0, 8])
 (.cond (.tmp 8)
  (.seq (.ops [
  ⟨some 2, .assign (.const (.string (ofL []))), 9, none⟩] [2])
  .ret)
  (.skip [0]))) (sg c21S0)))
set_option maxRecDepth 100000 in
theorem ent21 (a0 : Value) (w : World) (K : Value → World → Prop) (h : W Try.prog c21 [(0, a0)] w (finQ Try.prog [.tmp 2] K)) : Ret Try.prog 21 [a0] w K :=
  Ret_of_W (code := c21code) Try.func21 (by kernel_rfl) (by kernel_rfl) (of_decide_eq_true (by kernel_rfl)) h
--SIMP 21 c21 c21S0 TYS 3 9 54 FNS 
@[go_sem] theorem go21 : goFunc Try.prog 21 = true := by kernel_rfl
/- Function 22: slot.Valid -/
noncomputable def c22code : Code := match Try.f22.body with | some c => c | none => .skip
noncomputable def c22S0 (_ : Unit) : Cmd := (.exit 1 [0, 3, 4, 5, 32, 33])
noncomputable def c22S1 (_ : Unit) : Cmd := (.ops [
 ⟨some 75, .move (.tmp 5), 59, none⟩,
 ⟨some 76, .move (.tmp 9), 3, none⟩,
 ⟨some 77, .indexAddr 59 (.tmp 75) (.tmp 76), 0, none⟩,
 ⟨none, .store 4 (.tmp 77) (.const (.bool true)), 0, none⟩] [0, 3, 4, 5, 7, 8, 9, 32, 33])
noncomputable def c22S2 (_ : Unit) : Cmd := (.ops [
 ⟨some 69, .move (.tmp 9), 3, none⟩,
 ⟨some 70, .binOp .add 3 (.tmp 69) (.const (.int .i64 1)) 3, 3, none⟩,
 ⟨some 9, .assign (.tmp 70), 3, none⟩] [0, 3, 4, 5, 7, 8, 9, 32, 33])
noncomputable def c22S3 (_ : Unit) : Cmd := (.seq (.block 3 (.seq (.seq (.ops [
 ⟨some 71, .move (.tmp 5), 59, none⟩,
 ⟨some 72, .move (.tmp 9), 3, none⟩,
 ⟨some 73, .indexAddr 59 (.tmp 71) (.tmp 72), 0, none⟩,
 ⟨some 74, .load 4 (.tmp 73), 4, none⟩] [0, 3, 4, 5, 7, 8, 9, 32, 33, 74])
 (.cond (.tmp 74)
  (.seq (.ops [
  ⟨some 2, .assign (.const (.bool false)), 4, none⟩] [2])
  .ret)
  (.skip [0, 3, 4, 5, 7, 8, 9, 32, 33]))) (sg c22S1))) (sg c22S2))
noncomputable def c22L0 (_ : Unit) : Cmd := (.seq (.seq (.ops [
 ⟨some 64, .move (.tmp 9), 3, none⟩,
 ⟨some 65, .move (.tmp 7), 3, none⟩,
 ⟨some 66, .move (.tmp 8), 3, none⟩,
 ⟨some 67, .binOp .add 3 (.tmp 65) (.tmp 66) 3, 3, none⟩,
 ⟨some 68, .binOp .lss 3 (.tmp 64) (.tmp 67) 3, 4, none⟩] [0, 3, 4, 5, 7, 8, 9, 32, 33, 68])
 (.cond (.tmp 68)
  (.skip [0, 3, 4, 5, 7, 8, 9, 32, 33])
  (.exit 2 [0, 3, 4, 5, 32, 33]))) (sg c22S3))
noncomputable def c22S4 (_ : Unit) : Cmd := (.seq (.ops [
 ⟨some 63, .move (.tmp 7), 3, none⟩,
 ⟨some 9, .assign (.tmp 63), 3, none⟩] [0, 3, 4, 5, 7, 8, 9, 32, 33])
 (.block 2 (.loop (sg c22L0))))
noncomputable def c22S5 (_ : Unit) : Cmd := (.seq (.seq (.ops [
 ⟨some 52, .move (.tmp 7), 3, none⟩,
 ⟨some 53, .move (.tmp 4), 3, none⟩,
 ⟨some 54, .binOp .lss 3 (.tmp 52) (.tmp 53) 3, 4, none⟩,
 ⟨some 55, .move (.tmp 54), 4, none⟩,
 ⟨some 56, .move (.tmp 7), 3, (some (55, false))⟩,
 ⟨some 57, .move (.tmp 8), 3, (some (55, false))⟩,
 ⟨some 58, .binOp .add 3 (.tmp 56) (.tmp 57) 3, 3, (some (55, false))⟩,
 ⟨some 59, .move (.tmp 0), 9, (some (55, false))⟩,
 ⟨some 60, .call ⟨.builtin .len, #[(.tmp 59)], #[9]⟩, 3, (some (55, false))⟩,
 ⟨some 61, .binOp .gtr 3 (.tmp 58) (.tmp 60) 3, 4, (some (55, false))⟩,
 ⟨some 62, .pick (.tmp 55) (.const (.bool true)) (.tmp 61), 4, none⟩] [0, 3, 4, 5, 7, 8, 32, 33, 62])
 (.cond (.tmp 62)
  (.seq (.ops [
  ⟨some 2, .assign (.const (.bool false)), 4, none⟩] [2])
  .ret)
  (.skip [0, 3, 4, 5, 7, 8, 32, 33]))) (sg c22S4))
noncomputable def c22S6 (_ : Unit) : Cmd := (.seq (.seq (.ops [
 ⟨some 42, .move (.tmp 8), 3, none⟩,
 ⟨some 43, .binOp .eql 3 (.tmp 42) (.const (.int .i64 0)) 3, 4, none⟩] [0, 3, 4, 5, 6, 7, 8, 32, 33, 43])
 (.cond (.tmp 43)
  (.seq (.seq (.ops [
  ⟨some 44, .move (.tmp 7), 3, none⟩,
  ⟨some 45, .binOp .neq 3 (.tmp 44) (.const (.int .i64 0)) 3, 4, none⟩,
  ⟨some 46, .move (.tmp 45), 4, none⟩,
  ⟨some 47, .move (.tmp 6), 3, (some (46, false))⟩,
  ⟨some 48, .move (.tmp 3), 3, (some (46, false))⟩,
  ⟨some 49, .binOp .sub 3 (.tmp 48) (.const (.int .i64 1)) 3, 3, (some (46, false))⟩,
  ⟨some 50, .binOp .eql 3 (.tmp 47) (.tmp 49) 3, 4, (some (46, false))⟩,
  ⟨some 51, .pick (.tmp 46) (.const (.bool true)) (.tmp 50), 4, none⟩] [0, 3, 4, 5, 32, 33, 51])
  (.cond (.tmp 51)
   (.seq (.ops [
   ⟨some 2, .assign (.const (.bool false)), 4, none⟩] [2])
   .ret)
   (.skip [0, 3, 4, 5, 32, 33]))) (sg c22S0))
  (.skip [0, 3, 4, 5, 7, 8, 32, 33]))) (sg c22S5))
noncomputable def c22S7 (_ : Unit) : Cmd := (.ops [
 ⟨some 78, .binOp .add 3 (.tmp 33) (.const (.int .i64 1)) 3, 3, none⟩,
 ⟨some 33, .move (.tmp 78), 3, none⟩] [0, 3, 4, 5, 32, 33])
noncomputable def c22S8 (_ : Unit) : Cmd := (.seq (.block 1 (.seq (.ops [
 ⟨some 35, .move (.tmp 33), 3, none⟩,
 ⟨some 6, .assign (.tmp 35), 3, none⟩] [0, 3, 4, 5, 6, 32, 33])
 (.seq (.ops [
 ⟨some 37, .move (.tmp 0), 9, none⟩,
 ⟨some 38, .move (.tmp 6), 3, none⟩,
 ⟨some 39, .call ⟨.value (.func 30), #[(.tmp 37), (.tmp 38)], #[9, 3]⟩, 55, none⟩,
 ⟨some 36, .move (.tmp 39), 55, none⟩,
 ⟨some 40, .extract (.tmp 36) 0, 3, none⟩,
 ⟨some 41, .extract (.tmp 36) 1, 3, none⟩,
 ⟨some 7, .assign (.tmp 40), 3, none⟩,
 ⟨some 8, .assign (.tmp 41), 3, none⟩] [0, 3, 4, 5, 6, 7, 8, 32, 33]) (sg c22S6)))) (sg c22S7))
noncomputable def c22L1 (_ : Unit) : Cmd := (.seq (.ops [
 ⟨some 34, .binOp .lss 3 (.tmp 33) (.tmp 32) 3, 4, none⟩] [0, 3, 4, 5, 32, 33, 34])
 (.seq (.cond (.tmp 34)
  (.skip [0, 3, 4, 5, 32, 33])
  (.exit 0 [])) (sg c22S8)))
noncomputable def c22S9 (_ : Unit) : Cmd := (.seq (.ops [
 ⟨some 2, .assign (.const (.bool true)), 4, none⟩] [2])
 .ret)
noncomputable def c22S10 (_ : Unit) : Cmd := (.seq (.ops [
 ⟨some 29, .move (.tmp 0), 9, none⟩,
 ⟨some 30, .call ⟨.builtin .len, #[(.tmp 29)], #[9]⟩, 3, none⟩,
 ⟨some 31, .makeSlice 59 (.tmp 30) (.tmp 30), 59, none⟩,
 ⟨some 5, .assign (.tmp 31), 59, none⟩] [0, 3, 4, 5])
 (.seq (.seq (.ops [
 ⟨some 32, .move (.tmp 3), 3, none⟩,
 ⟨some 33, .move (.const (.int .i64 0)), 3, none⟩] [0, 3, 4, 5, 32, 33])
 (.block 0 (.loop (sg c22L1)))) (sg c22S9)))
noncomputable def c22S11 (_ : Unit) : Cmd := (.seq (.ops [
 ⟨some 12, .move (.tmp 3), 3, none⟩,
 ⟨some 13, .binOp .mul 3 (.const (.int .i64 2)) (.tmp 12) 3, 3, none⟩,
 ⟨some 14, .binOp .add 3 (.const (.int .i64 1)) (.tmp 13) 3, 3, none⟩,
 ⟨some 4, .assign (.tmp 14), 3, none⟩] [0, 3, 4])
 (.seq (.seq (.ops [
 ⟨some 15, .move (.tmp 0), 9, none⟩,
 ⟨some 16, .call ⟨.builtin .len, #[(.tmp 15)], #[9]⟩, 3, none⟩,
 ⟨some 17, .binOp .lss 3 (.tmp 16) (.const (.int .i64 8)) 3, 4, none⟩,
 ⟨some 18, .move (.tmp 17), 4, none⟩,
 ⟨some 19, .move (.tmp 0), 9, (some (18, false))⟩,
 ⟨some 20, .call ⟨.builtin .len, #[(.tmp 19)], #[9]⟩, 3, (some (18, false))⟩,
 ⟨some 21, .binOp .gtr 3 (.tmp 20) (.const (.int .i64 256)) 3, 4, (some (18, false))⟩,
 ⟨some 22, .pick (.tmp 18) (.const (.bool true)) (.tmp 21), 4, none⟩,
 ⟨some 23, .move (.tmp 22), 4, none⟩,
 ⟨some 24, .move (.tmp 4), 3, (some (23, false))⟩,
 ⟨some 25, .move (.tmp 0), 9, (some (23, false))⟩,
 ⟨some 26, .call ⟨.builtin .len, #[(.tmp 25)], #[9]⟩, 3, (some (23, false))⟩,
 ⟨some 27, .binOp .gtr 3 (.tmp 24) (.tmp 26) 3, 4, (some (23, false))⟩,
 ⟨some 28, .pick (.tmp 23) (.const (.bool true)) (.tmp 27), 4, none⟩] [0, 3, 4, 28])
 (.cond (.tmp 28)
  (.seq (.ops [
  ⟨some 2, .assign (.const (.bool false)), 4, none⟩] [2])
  .ret)
  (.skip [0, 3, 4]))) (sg c22S10)))
noncomputable def c22 : Cmd := (.seq (.ops [
 ⟨some 2, .assign (.const (.bool false)), 4, none⟩] [0])
 (.seq (.ops [
 ⟨some 10, .move (.tmp 0), 9, none⟩,
 ⟨some 11, .call ⟨.value (.func 29), #[(.tmp 10)], #[9]⟩, 3, none⟩,
 ⟨some 3, .assign (.tmp 11), 3, none⟩] [0, 3]) (sg c22S11)))
set_option maxRecDepth 100000 in
theorem ent22 (a0 : Value) (w : World) (K : Value → World → Prop) (h : W Try.prog c22 [(0, a0)] w (finQ Try.prog [.tmp 2] K)) : Ret Try.prog 22 [a0] w K :=
  Ret_of_W (code := c22code) Try.func22 (by kernel_rfl) (by kernel_rfl) (of_decide_eq_true (by kernel_rfl)) h
--SIMP 22 c22 c22S0 c22S1 c22S2 c22S3 c22L0 c22S4 c22S5 c22S6 c22S7 c22S8 c22L1 c22S9 c22S10 c22S11 TYS 3 4 9 59 FNS 29 30
@[go_sem] theorem go22 : goFunc Try.prog 22 = true := by kernel_rfl
/- Function 23: slot.Count -/
noncomputable def c23code : Code := match Try.f23.body with | some c => c | none => .skip
noncomputable def c23A0 (_ : Unit) : Cmd := (.skip [3])
noncomputable def c23B0 (_ : Unit) : Cmd := (.block 1 (.ops [
 ⟨some 8, .load 3 (.tmp 3), 3, none⟩,
 ⟨some 9, .binOp .add 3 (.tmp 8) (.const (.int .i64 1)) 3, 3, none⟩,
 ⟨none, .store 3 (.tmp 3) (.tmp 9), 0, none⟩] []))
noncomputable def c23S0 (_ : Unit) : Cmd := (.block 0 (.rangeF (.tmp 5) [6, 7] (sg c23A0) (sg c23B0) [2, 3]))
noncomputable def c23S1 (_ : Unit) : Cmd := (.seq (.ops [
 ⟨some 10, .load 3 (.tmp 3), 3, none⟩,
 ⟨some 2, .assign (.tmp 10), 3, none⟩] [2])
 .ret)
noncomputable def c23 : Cmd := (.seq (.ops [
 ⟨some 2, .assign (.const (.int .i64 0)), 3, none⟩] [0, 2])
 (.seq (.ops [
 ⟨some 3, .alloc 3, 0, none⟩,
 ⟨none, .store 3 (.tmp 3) (.const (.int .i64 0)), 0, none⟩] [0, 2, 3])
 (.seq (.seq (.ops [
 ⟨some 4, .move (.tmp 0), 9, none⟩,
 ⟨some 5, .call ⟨.value (.func 34), #[(.tmp 4)], #[9]⟩, 61, none⟩] [2, 3, 5]) (sg c23S0)) (sg c23S1))))
set_option maxRecDepth 100000 in
theorem ent23 (a0 : Value) (w : World) (K : Value → World → Prop) (h : W Try.prog c23 [(0, a0)] w (finQ Try.prog [.tmp 2] K)) : Ret Try.prog 23 [a0] w K :=
  Ret_of_W (code := c23code) Try.func23 (by kernel_rfl) (by kernel_rfl) (of_decide_eq_true (by kernel_rfl)) h
--SIMP 23 c23 c23A0 c23B0 c23S0 c23S1 TYS 3 FNS 34
@[go_sem] theorem go23 : goFunc Try.prog 23 = true := by kernel_rfl
/- Function 24: slot.list -/
noncomputable def c24code : Code := match Try.f24.body with | some c => c | none => .skip
noncomputable def c24A0 (_ : Unit) : Cmd := (.seq (.ops [
 ⟨some 4, .assign (.tmp 11), 3, none⟩] [3, 4, 12])
 (.ops [
 ⟨some 5, .assign (.tmp 12), 9, none⟩] [3, 4, 5]))
noncomputable def c24B0 (_ : Unit) : Cmd := (.block 1 (.ops [
 ⟨some 13, .load 22 (.tmp 3), 22, none⟩,
 ⟨some 14, .move (.tmp 4), 3, none⟩,
 ⟨some 15, .move (.tmp 5), 9, none⟩,
 ⟨some 16, .indexAddr 22 (.tmp 13) (.tmp 14), 0, none⟩,
 ⟨none, .store 9 (.tmp 16) (.tmp 15), 0, none⟩] []))
noncomputable def c24S0 (_ : Unit) : Cmd := (.block 0 (.rangeF (.tmp 10) [11, 12] (sg c24A0) (sg c24B0) [2, 3]))
noncomputable def c24S1 (_ : Unit) : Cmd := (.seq (.ops [
 ⟨some 17, .load 22 (.tmp 3), 22, none⟩,
 ⟨some 2, .assign (.tmp 17), 22, none⟩] [2])
 .ret)
noncomputable def c24S2 (_ : Unit) : Cmd := (.seq (.seq (.ops [
 ⟨some 9, .move (.tmp 0), 9, none⟩,
 ⟨some 10, .call ⟨.value (.func 34), #[(.tmp 9)], #[9]⟩, 61, none⟩] [2, 3, 10]) (sg c24S0)) (sg c24S1))
noncomputable def c24 : Cmd := (.seq (.ops [
 ⟨some 2, .assign (.const (.slice none 0 0)), 22, none⟩] [0, 2])
 (.seq (.ops [
 ⟨some 6, .move (.tmp 0), 9, none⟩,
 ⟨some 7, .call ⟨.value (.func 29), #[(.tmp 6)], #[9]⟩, 3, none⟩,
 ⟨some 8, .makeSlice 22 (.tmp 7) (.tmp 7), 22, none⟩,
 ⟨some 3, .alloc 22, 0, none⟩,
 ⟨none, .store 22 (.tmp 3) (.tmp 8), 0, none⟩] [0, 2, 3]) (sg c24S2)))
set_option maxRecDepth 100000 in
theorem ent24 (a0 : Value) (w : World) (K : Value → World → Prop) (h : W Try.prog c24 [(0, a0)] w (finQ Try.prog [.tmp 2] K)) : Ret Try.prog 24 [a0] w K :=
  Ret_of_W (code := c24code) Try.func24 (by kernel_rfl) (by kernel_rfl) (of_decide_eq_true (by kernel_rfl)) h
--SIMP 24 c24 c24A0 c24B0 c24S0 c24S1 c24S2 TYS 9 22 FNS 29 34
@[go_sem] theorem go24 : goFunc Try.prog 24 = true := by kernel_rfl
/- Function 25: slices.Index[[]string,string] -/
noncomputable def c25code : Code := match Try.f25.body with | some c => c | none => .skip
noncomputable def c25S0 (_ : Unit) : Cmd := (.ops [
 ⟨some 18, .binOp .add 3 (.tmp 8) (.const (.int .i64 1)) 3, 3, none⟩,
 ⟨some 8, .move (.tmp 18), 3, none⟩] [0, 1, 7, 8])
noncomputable def c25S1 (_ : Unit) : Cmd := (.seq (.block 1 (.seq (.ops [
 ⟨some 10, .move (.tmp 8), 3, none⟩,
 ⟨some 5, .assign (.tmp 10), 3, none⟩] [0, 1, 5, 7, 8])
 (.seq (.ops [
 ⟨some 11, .move (.tmp 1), 9, none⟩,
 ⟨some 12, .move (.tmp 0), 22, none⟩,
 ⟨some 13, .move (.tmp 5), 3, none⟩,
 ⟨some 14, .indexAddr 22 (.tmp 12) (.tmp 13), 0, none⟩,
 ⟨some 15, .load 9 (.tmp 14), 9, none⟩,
 ⟨some 16, .binOp .eql 9 (.tmp 11) (.tmp 15) 9, 4, none⟩] [0, 1, 5, 7, 8, 16])
 (.cond (.tmp 16)
  (.seq (.ops [
  ⟨some 17, .move (.tmp 5), 3, none⟩,
  ⟨some 4, .assign (.tmp 17), 3, none⟩] [4])
  .ret)
  (.skip [0, 1, 7, 8]))))) (sg c25S0))
noncomputable def c25L0 (_ : Unit) : Cmd := (.seq (.ops [
 ⟨some 9, .binOp .lss 3 (.tmp 8) (.tmp 7) 3, 0, none⟩] [0, 1, 7, 8, 9])
 (.seq (.cond (.tmp 9)
  (.skip [0, 1, 7, 8])
  (.exit 0 [])) (sg c25S1)))
noncomputable def c25S2 (_ : Unit) : Cmd := (.seq (.ops [
 ⟨some 4, .assign (.const (.int .i64 (-1))), 3, none⟩] [4])
 .ret)
noncomputable def c25 : Cmd := (.seq (.ops [
 ⟨some 4, .assign (.const (.int .i64 0)), 3, none⟩] [0, 1])
 (.seq (.seq (.ops [
 ⟨some 6, .move (.tmp 0), 22, none⟩,
 ⟨some 7, .call ⟨.builtin .len, #[(.tmp 6)], #[22]⟩, 3, none⟩,
 ⟨some 8, .move (.const (.int .i64 0)), 3, none⟩] [0, 1, 7, 8])
 (.block 0 (.loop (sg c25L0)))) (sg c25S2)))
set_option maxRecDepth 100000 in
theorem ent25 (a0 a1 : Value) (w : World) (K : Value → World → Prop) (h : W Try.prog c25 [(0, a0), (1, a1)] w (finQ Try.prog [.tmp 4] K)) : Ret Try.prog 25 [a0, a1] w K :=
  Ret_of_W (code := c25code) Try.func25 (by kernel_rfl) (by kernel_rfl) (of_decide_eq_true (by kernel_rfl)) h
--SIMP 25 c25 c25S0 c25S1 c25L0 c25S2 TYS 3 9 22 FNS 
@[go_sem] theorem go25 : goFunc Try.prog 25 = true := by kernel_rfl
/- Function 26: slot.lay -/
noncomputable def c26code : Code := match Try.f26.body with | some c => c | none => .skip
noncomputable def c26S0 (_ : Unit) : Cmd := (.block 1 (.ops [
 ⟨some 21, .move (.tmp 1), 22, none⟩,
 ⟨some 22, .move (.tmp 1), 22, none⟩,
 ⟨some 23, .call ⟨.builtin .len, #[(.tmp 22)], #[22]⟩, 3, none⟩,
 ⟨some 24, .binOp .sub 3 (.tmp 23) (.const (.int .i64 1)) 3, 3, none⟩,
 ⟨some 25, .slice 22 (.tmp 21) none (some (.tmp 24)) none, 22, none⟩,
 ⟨some 1, .assign (.tmp 25), 22, none⟩] [0, 1]))
noncomputable def c26L0 (_ : Unit) : Cmd := (.seq (.seq (.ops [
 ⟨some 9, .move (.tmp 1), 22, none⟩,
 ⟨some 10, .call ⟨.builtin .len, #[(.tmp 9)], #[22]⟩, 3, none⟩,
 ⟨some 11, .binOp .gtr 3 (.tmp 10) (.const (.int .i64 0)) 3, 4, none⟩,
 ⟨some 12, .move (.tmp 11), 4, none⟩,
 ⟨some 13, .move (.tmp 1), 22, (some (12, true))⟩,
 ⟨some 14, .move (.tmp 1), 22, (some (12, true))⟩,
 ⟨some 15, .call ⟨.builtin .len, #[(.tmp 14)], #[22]⟩, 3, (some (12, true))⟩,
 ⟨some 16, .binOp .sub 3 (.tmp 15) (.const (.int .i64 1)) 3, 3, (some (12, true))⟩,
 ⟨some 17, .indexAddr 22 (.tmp 13) (.tmp 16), 0, (some (12, true))⟩,
 ⟨some 18, .load 9 (.tmp 17), 9, (some (12, true))⟩,
 ⟨some 19, .binOp .eql 9 (.tmp 18) (.const (.string (ofL []))) 9, 4, (some (12, true))⟩,
 ⟨some 20, .pick (.tmp 12) (.tmp 19) (.const (.bool false)), 4, none⟩] [0, 1, 20])
 (.cond (.tmp 20)
  (.skip [0, 1])
  (.exit 0 [0, 1]))) (sg c26S0))
noncomputable def c26S1 (_ : Unit) : Cmd := (.ops [
 ⟨some 52, .move (.tmp 5), 54, none⟩,
 ⟨some 53, .move (.tmp 7), 3, none⟩,
 ⟨some 54, .binOp .mul 3 (.const (.int .i64 2)) (.tmp 53) 3, 3, none⟩,
 ⟨some 55, .binOp .add 3 (.const (.int .i64 1)) (.tmp 54) 3, 3, none⟩,
 ⟨some 56, .move (.tmp 5), 54, none⟩,
 ⟨some 57, .move (.tmp 7), 3, none⟩,
 ⟨some 58, .binOp .mul 3 (.const (.int .i64 2)) (.tmp 57) 3, 3, none⟩,
 ⟨some 59, .binOp .add 3 (.const (.int .i64 1)) (.tmp 58) 3, 3, none⟩,
 ⟨some 60, .binOp .add 3 (.tmp 59) (.const (.int .i64 1)) 3, 3, none⟩,
 ⟨some 61, .move (.tmp 6), 3, none⟩,
 ⟨some 62, .convert 3 5 (.tmp 61), 5, none⟩,
 ⟨some 63, .move (.tmp 8), 9, none⟩,
 ⟨some 64, .call ⟨.builtin .len, #[(.tmp 63)], #[9]⟩, 3, none⟩,
 ⟨some 65, .convert 3 5 (.tmp 64), 5, none⟩,
 ⟨some 66, .indexAddr 54 (.tmp 52) (.tmp 55), 0, none⟩,
 ⟨none, .store 5 (.tmp 66) (.tmp 62), 0, none⟩,
 ⟨some 67, .indexAddr 54 (.tmp 56) (.tmp 60), 0, none⟩,
 ⟨none, .store 5 (.tmp 67) (.tmp 65), 0, none⟩] [5, 6, 34, 35, 36])
noncomputable def c26S2 (_ : Unit) : Cmd := (.seq (.ops [
 ⟨some 43, .move (.tmp 6), 3, none⟩,
 ⟨some 44, .move (.tmp 8), 9, none⟩,
 ⟨some 45, .call ⟨.builtin .len, #[(.tmp 44)], #[9]⟩, 3, none⟩,
 ⟨some 46, .binOp .sub 3 (.tmp 43) (.tmp 45) 3, 3, none⟩,
 ⟨some 6, .assign (.tmp 46), 3, none⟩] [5, 6, 7, 8, 34, 35, 36])
 (.seq (.ops [
 ⟨some 47, .move (.tmp 5), 54, none⟩,
 ⟨some 48, .move (.tmp 6), 3, none⟩,
 ⟨some 49, .slice 54 (.tmp 47) (some (.tmp 48)) none none, 54, none⟩,
 ⟨some 50, .move (.tmp 8), 9, none⟩,
 ⟨some 51, .call ⟨.builtin .copy, #[(.tmp 49), (.tmp 50)], #[54, 9]⟩, 3, none⟩] [5, 6, 7, 8, 34, 35, 36]) (sg c26S1)))
noncomputable def c26S3 (_ : Unit) : Cmd := (.ops [
 ⟨some 68, .binOp .add 3 (.tmp 36) (.const (.int .i64 1)) 3, 3, none⟩,
 ⟨some 36, .move (.tmp 68), 3, none⟩] [5, 6, 34, 35, 36])
noncomputable def c26S4 (_ : Unit) : Cmd := (.seq (.block 3 (.seq (.ops [
 ⟨some 38, .move (.tmp 36), 3, none⟩,
 ⟨some 39, .indexAddr 22 (.tmp 34) (.tmp 36), 0, none⟩,
 ⟨some 40, .load 9 (.tmp 39), 9, none⟩,
 ⟨some 7, .assign (.tmp 38), 3, none⟩,
 ⟨some 8, .assign (.tmp 40), 9, none⟩] [5, 6, 7, 8, 34, 35, 36])
 (.seq (.seq (.ops [
 ⟨some 41, .move (.tmp 8), 9, none⟩,
 ⟨some 42, .binOp .eql 9 (.tmp 41) (.const (.string (ofL []))) 9, 4, none⟩] [5, 6, 7, 8, 34, 35, 36, 42])
 (.cond (.tmp 42)
  (.exit 3 [5, 6, 34, 35, 36])
  (.skip [5, 6, 7, 8, 34, 35, 36]))) (sg c26S2)))) (sg c26S3))
noncomputable def c26L1 (_ : Unit) : Cmd := (.seq (.ops [
 ⟨some 37, .binOp .lss 3 (.tmp 36) (.tmp 35) 3, 0, none⟩] [5, 6, 34, 35, 36, 37])
 (.seq (.cond (.tmp 37)
  (.skip [5, 6, 34, 35, 36])
  (.exit 2 [5])) (sg c26S4)))
noncomputable def c26S5 (_ : Unit) : Cmd := (.seq (.ops [
 ⟨some 69, .move (.tmp 5), 54, none⟩,
 ⟨some 70, .convert 54 9 (.tmp 69), 9, none⟩,
 ⟨some 4, .assign (.tmp 70), 9, none⟩] [4])
 .ret)
noncomputable def c26S6 (_ : Unit) : Cmd := (.seq (.ops [
 ⟨some 26, .move (.tmp 0), 3, none⟩,
 ⟨some 27, .makeSlice 54 (.tmp 26) (.tmp 26), 54, none⟩,
 ⟨some 5, .assign (.tmp 27), 54, none⟩] [0, 1, 5])
 (.seq (.ops [
 ⟨some 28, .move (.tmp 5), 54, none⟩,
 ⟨some 29, .move (.tmp 1), 22, none⟩,
 ⟨some 30, .call ⟨.builtin .len, #[(.tmp 29)], #[22]⟩, 3, none⟩,
 ⟨some 31, .convert 3 5 (.tmp 30), 5, none⟩,
 ⟨some 32, .indexAddr 54 (.tmp 28) (.const (.int .i64 0)), 0, none⟩,
 ⟨none, .store 5 (.tmp 32) (.tmp 31), 0, none⟩] [0, 1, 5])
 (.seq (.ops [
 ⟨some 33, .move (.tmp 0), 3, none⟩,
 ⟨some 6, .assign (.tmp 33), 3, none⟩] [1, 5, 6])
 (.seq (.seq (.ops [
 ⟨some 34, .move (.tmp 1), 22, none⟩,
 ⟨some 35, .call ⟨.builtin .len, #[(.tmp 34)], #[22]⟩, 3, none⟩,
 ⟨some 36, .move (.const (.int .i64 0)), 3, none⟩] [5, 6, 34, 35, 36])
 (.block 2 (.loop (sg c26L1)))) (sg c26S5)))))
noncomputable def c26 : Cmd := (.seq (.ops [
 ⟨some 4, .assign (.const (.string (ofL []))), 9, none⟩] [0, 1])
 (.seq (.block 0 (.loop (sg c26L0))) (sg c26S6)))
set_option maxRecDepth 100000 in
theorem ent26 (a0 a1 : Value) (w : World) (K : Value → World → Prop) (h : W Try.prog c26 [(0, a0), (1, a1)] w (finQ Try.prog [.tmp 4] K)) : Ret Try.prog 26 [a0, a1] w K :=
  Ret_of_W (code := c26code) Try.func26 (by kernel_rfl) (by kernel_rfl) (of_decide_eq_true (by kernel_rfl)) h
--SIMP 26 c26 c26S0 c26L0 c26S1 c26S2 c26S3 c26S4 c26L1 c26S5 c26S6 TYS 3 5 9 22 54 FNS 
@[go_sem] theorem go26 : goFunc Try.prog 26 = true := by kernel_rfl
/- Function 27: (annalistref24.Page).with -/
noncomputable def c27code : Code := match Try.f27.body with | some c => c | none => .skip
noncomputable def c27S0 (_ : Unit) : Cmd := .ret
noncomputable def c27S1 (_ : Unit) : Cmd := (.seq (.draw (drawOps 0 c27code) [6]) (sg c27S0))
noncomputable def c27S2 (_ : Unit) : Cmd := (.seq (.seq (.ops [
 ⟨some 12, .move (.tmp 1), 3, none⟩,
 ⟨some 13, .move (.tmp 7), 22, none⟩,
 ⟨some 14, .call ⟨.builtin .len, #[(.tmp 13)], #[22]⟩, 3, none⟩,
 ⟨some 15, .binOp .eql 3 (.tmp 12) (.tmp 14) 3, 4, none⟩] [1, 2, 3, 6, 7, 15])
 (.cond (.tmp 15)
  (.ops [
  ⟨some 16, .move (.tmp 7), 22, none⟩,
  ⟨some 17, .move (.tmp 2), 9, none⟩,
  ⟨some 18, .buildSlice 22 1 #[(0, (.tmp 17))], 22, none⟩,
  ⟨some 19, .call ⟨.builtin .append, #[(.tmp 16), (.tmp 18)], #[22, 22]⟩, 22, none⟩,
  ⟨some 7, .assign (.tmp 19), 22, none⟩] [3, 6, 7])
  (.ops [
  ⟨some 20, .move (.tmp 7), 22, none⟩,
  ⟨some 21, .move (.tmp 1), 3, none⟩,
  ⟨some 22, .move (.tmp 2), 9, none⟩,
  ⟨some 23, .indexAddr 22 (.tmp 20) (.tmp 21), 0, none⟩,
  ⟨none, .store 9 (.tmp 23) (.tmp 22), 0, none⟩] [3, 6, 7]))) (sg c27S1))
noncomputable def c27 : Cmd := (.seq (.ops [
 ⟨some 3, .box 24 (.tmp 0), 0, none⟩,
 ⟨some 6, .alloc 24, 0, none⟩] [1, 2, 3, 6])
 (.seq (.ops [
 ⟨some 8, .buildSlice 22 0 #[], 22, none⟩,
 ⟨some 9, .fieldAddr 24 (.tmp 3) 1, 0, none⟩,
 ⟨some 10, .load 22 (.tmp 9), 22, none⟩,
 ⟨some 11, .call ⟨.builtin .append, #[(.tmp 8), (.tmp 10)], #[22, 22]⟩, 22, none⟩,
 ⟨some 7, .assign (.tmp 11), 22, none⟩] [1, 2, 3, 6, 7]) (sg c27S2)))
noncomputable def c27D0 : List (Nat × Ins) := [
 (0, ⟨some 24, .fieldAddr 24 (.tmp 3) 0, 0, none⟩),
 (0, ⟨some 26, .move (.tmp 7), 22, none⟩),
 (1, ⟨some 25, .load 3 (.tmp 24), 3, none⟩),
 (2, ⟨some 27, .call ⟨.value (.func 35), #[(.tmp 26)], #[22]⟩, 22, none⟩),
 (3, ⟨some 28, .build 24 #[(0, (.tmp 25)), (1, (.tmp 27))], 24, none⟩),
 (3, ⟨none, .store 24 (.tmp 6) (.tmp 28), 0, none⟩)]
theorem c27draw0 {L : List Nat} {ρ : Env} {w : World} {Q : Post} (S : World → Prop) (hS : S w.drew) (h : DG Try.prog S c27D0 L ρ w.drew Q) : drawW Try.prog (drawOps 0 c27code) L ρ w Q :=
  drawW_held [1] [(0, 0), (0, 2), (1, 1), (2, 3), (3, 4), (3, 5)] c27D0 (by kernel_rfl) (by kernel_rfl) (by kernel_rfl) S hS h
set_option maxRecDepth 100000 in
theorem ent27 (a0 a1 a2 : Value) (w : World) (K : Value → World → Prop) (h : W Try.prog c27 [(0, a0), (1, a1), (2, a2)] w (finQ Try.prog [.cell 6 24] K)) : Ret Try.prog 27 [a0, a1, a2] w K :=
  Ret_of_W (code := c27code) Try.func27 (by kernel_rfl) (by kernel_rfl) (of_decide_eq_true (by kernel_rfl)) h
--SIMP 27 c27 c27S0 c27S1 c27S2 TYS 3 9 22 24 FNS 35
@[go_sem] theorem go27 : goFunc Try.prog 27 = true := by kernel_rfl
/- Function 28: (annalistref24.Page).vacant -/
noncomputable def c28code : Code := match Try.f28.body with | some c => c | none => .skip
noncomputable def c28S0 (_ : Unit) : Cmd := (.ops [
 ⟨some 9, .move (.tmp 3), 3, none⟩,
 ⟨some 10, .binOp .add 3 (.tmp 9) (.const (.int .i64 1)) 3, 3, none⟩,
 ⟨some 3, .assign (.tmp 10), 3, none⟩] [1, 3])
noncomputable def c28S1 (_ : Unit) : Cmd := (.seq (.block 1 (.seq (.ops [
 ⟨some 11, .fieldAddr 24 (.tmp 1) 1, 0, none⟩,
 ⟨some 12, .load 22 (.tmp 11), 22, none⟩,
 ⟨some 13, .move (.tmp 3), 3, none⟩,
 ⟨some 14, .indexAddr 22 (.tmp 12) (.tmp 13), 0, none⟩,
 ⟨some 15, .load 9 (.tmp 14), 9, none⟩,
 ⟨some 16, .binOp .eql 9 (.tmp 15) (.const (.string (ofL []))) 9, 4, none⟩] [1, 3, 16])
 (.cond (.tmp 16)
  (.seq (.ops [
  ⟨some 17, .move (.tmp 3), 3, none⟩,
  ⟨some 2, .assign (.tmp 17), 3, none⟩] [2])
  .ret)
  (.skip [1, 3])))) (sg c28S0))
noncomputable def c28L0 (_ : Unit) : Cmd := (.seq (.seq (.ops [
 ⟨some 4, .move (.tmp 3), 3, none⟩,
 ⟨some 5, .fieldAddr 24 (.tmp 1) 1, 0, none⟩,
 ⟨some 6, .load 22 (.tmp 5), 22, none⟩,
 ⟨some 7, .call ⟨.builtin .len, #[(.tmp 6)], #[22]⟩, 3, none⟩,
 ⟨some 8, .binOp .lss 3 (.tmp 4) (.tmp 7) 3, 4, none⟩] [1, 3, 8])
 (.cond (.tmp 8)
  (.skip [1, 3])
  (.exit 0 [1]))) (sg c28S1))
noncomputable def c28S2 (_ : Unit) : Cmd := (.seq (.ops [
 ⟨some 18, .fieldAddr 24 (.tmp 1) 1, 0, none⟩,
 ⟨some 19, .load 22 (.tmp 18), 22, none⟩,
 ⟨some 20, .call ⟨.builtin .len, #[(.tmp 19)], #[22]⟩, 3, none⟩,
 ⟨some 2, .assign (.tmp 20), 3, none⟩] [2])
 .ret)
noncomputable def c28 : Cmd := (.seq (.ops [
 ⟨some 1, .box 24 (.tmp 0), 0, none⟩,
 ⟨some 2, .assign (.const (.int .i64 0)), 3, none⟩] [1])
 (.seq (.seq (.ops [
 ⟨some 3, .assign (.const (.int .i64 0)), 3, none⟩] [1, 3])
 (.block 0 (.loop (sg c28L0)))) (sg c28S2)))
set_option maxRecDepth 100000 in
theorem ent28 (a0 : Value) (w : World) (K : Value → World → Prop) (h : W Try.prog c28 [(0, a0)] w (finQ Try.prog [.tmp 2] K)) : Ret Try.prog 28 [a0] w K :=
  Ret_of_W (code := c28code) Try.func28 (by kernel_rfl) (by kernel_rfl) (of_decide_eq_true (by kernel_rfl)) h
--SIMP 28 c28 c28S0 c28S1 c28L0 c28S2 TYS 3 9 22 24 FNS 
@[go_sem] theorem go28 : goFunc Try.prog 28 = true := by kernel_rfl
/- Function 29: slot.places -/
noncomputable def c29code : Code := match Try.f29.body with | some c => c | none => .skip
noncomputable def c29S0 (_ : Unit) : Cmd := (.seq (.ops [
 ⟨some 5, .move (.tmp 0), 9, none⟩,
 ⟨some 6, .index 9 (.tmp 5) (.const (.int .i64 0)), 5, none⟩,
 ⟨some 7, .convert 5 3 (.tmp 6), 3, none⟩,
 ⟨some 2, .assign (.tmp 7), 3, none⟩] [2])
 .ret)
noncomputable def c29 : Cmd := (.seq (.ops [
 ⟨some 2, .assign (.const (.int .i64 0)), 3, none⟩] [0])
 (.seq (.seq (.ops [
 ⟨some 3, .move (.tmp 0), 9, none⟩,
 ⟨some 4, .binOp .eql 9 (.tmp 3) (.const (.string (ofL []))) 9, 4, none⟩] [0, 4])
 (.cond (.tmp 4)
  (.seq (.ops [
  ⟨some 2, .assign (.const (.int .i64 0)), 3, none⟩] [2])
  .ret)
  (.skip [0]))) (sg c29S0)))
set_option maxRecDepth 100000 in
theorem ent29 (a0 : Value) (w : World) (K : Value → World → Prop) (h : W Try.prog c29 [(0, a0)] w (finQ Try.prog [.tmp 2] K)) : Ret Try.prog 29 [a0] w K :=
  Ret_of_W (code := c29code) Try.func29 (by kernel_rfl) (by kernel_rfl) (of_decide_eq_true (by kernel_rfl)) h
--SIMP 29 c29 c29S0 TYS 3 5 9 FNS 
@[go_sem] theorem go29 : goFunc Try.prog 29 = true := by kernel_rfl
/- Function 30: slot.at -/
noncomputable def c30code : Code := match Try.f30.body with | some c => c | none => .skip
noncomputable def c30S0 (_ : Unit) : Cmd := .ret
noncomputable def c30 : Cmd := (.seq (.ops [
 ⟨some 4, .assign (.const (.int .i64 0)), 3, none⟩,
 ⟨some 5, .assign (.const (.int .i64 0)), 3, none⟩] [0, 1])
 (.seq (.draw (drawOps 0 c30code) [4, 5]) (sg c30S0)))
noncomputable def c30D0 : List (Bool × Ins) := [
 (true, ⟨some 6, .move (.tmp 0), 9, none⟩),
 (true, ⟨some 7, .move (.tmp 1), 3, none⟩),
 (true, ⟨some 8, .binOp .mul 3 (.const (.int .i64 2)) (.tmp 7) 3, 3, none⟩),
 (true, ⟨some 9, .binOp .add 3 (.const (.int .i64 1)) (.tmp 8) 3, 3, none⟩),
 (true, ⟨some 10, .index 9 (.tmp 6) (.tmp 9), 5, none⟩),
 (true, ⟨some 11, .convert 5 3 (.tmp 10), 3, none⟩),
 (true, ⟨some 12, .move (.tmp 0), 9, none⟩),
 (true, ⟨some 13, .move (.tmp 1), 3, none⟩),
 (true, ⟨some 14, .binOp .mul 3 (.const (.int .i64 2)) (.tmp 13) 3, 3, none⟩),
 (true, ⟨some 15, .binOp .add 3 (.const (.int .i64 1)) (.tmp 14) 3, 3, none⟩),
 (true, ⟨some 16, .binOp .add 3 (.tmp 15) (.const (.int .i64 1)) 3, 3, none⟩),
 (true, ⟨some 17, .index 9 (.tmp 12) (.tmp 16), 5, none⟩),
 (true, ⟨some 18, .convert 5 3 (.tmp 17), 3, none⟩),
 (true, ⟨some 4, .assign (.tmp 11), 3, none⟩),
 (true, ⟨some 5, .assign (.tmp 18), 3, none⟩)]
theorem c30draw0 {L : List Nat} {ρ : Env} {w : World} {Q : Post} (h : DL Try.prog c30D0 L ρ w.drew Q) : drawW Try.prog (drawOps 0 c30code) L ρ w Q :=
  drawW_by [(true, 0), (true, 1), (true, 2), (true, 3), (true, 4), (true, 5), (true, 6), (true, 7), (true, 8), (true, 9), (true, 10), (true, 11), (true, 12), (true, 13), (true, 14)] c30D0 (by kernel_rfl) (by kernel_rfl) (by kernel_rfl) h
set_option maxRecDepth 100000 in
theorem ent30 (a0 a1 : Value) (w : World) (K : Value → World → Prop) (h : W Try.prog c30 [(0, a0), (1, a1)] w (finQ Try.prog [.tmp 4, .tmp 5] K)) : Ret Try.prog 30 [a0, a1] w K :=
  Ret_of_W (code := c30code) Try.func30 (by kernel_rfl) (by kernel_rfl) (of_decide_eq_true (by kernel_rfl)) h
--SIMP 30 c30 c30S0 TYS 3 5 9 FNS 
@[go_sem] theorem go30 : goFunc Try.prog 30 = true := by kernel_rfl
/- Function 31: slot.used -/
noncomputable def c31code : Code := match Try.f31.body with | some c => c | none => .skip
noncomputable def c31S0 (_ : Unit) : Cmd := (.seq (.block 1 (.seq (.ops [
 ⟨some 14, .indexAddr 22 (.tmp 10) (.tmp 12), 0, none⟩,
 ⟨some 15, .load 9 (.tmp 14), 9, none⟩,
 ⟨some 5, .assign (.tmp 15), 9, none⟩] [3, 5, 10, 11, 12])
 (.ops [
 ⟨some 16, .move (.tmp 3), 3, none⟩,
 ⟨some 17, .move (.tmp 5), 9, none⟩,
 ⟨some 18, .call ⟨.builtin .len, #[(.tmp 17)], #[9]⟩, 3, none⟩,
 ⟨some 19, .binOp .add 3 (.tmp 16) (.tmp 18) 3, 3, none⟩,
 ⟨some 3, .assign (.tmp 19), 3, none⟩] [3, 10, 11, 12])))
 (.ops [
 ⟨some 20, .binOp .add 3 (.tmp 12) (.const (.int .i64 1)) 3, 3, none⟩,
 ⟨some 12, .move (.tmp 20), 3, none⟩] [3, 10, 11, 12]))
noncomputable def c31L0 (_ : Unit) : Cmd := (.seq (.ops [
 ⟨some 13, .binOp .lss 3 (.tmp 12) (.tmp 11) 3, 0, none⟩] [3, 10, 11, 12, 13])
 (.seq (.cond (.tmp 13)
  (.skip [3, 10, 11, 12])
  (.exit 0 [3])) (sg c31S0)))
noncomputable def c31S1 (_ : Unit) : Cmd := (.seq (.ops [
 ⟨some 21, .move (.tmp 3), 3, none⟩,
 ⟨some 2, .assign (.tmp 21), 3, none⟩] [2])
 .ret)
noncomputable def c31 : Cmd := (.seq (.ops [
 ⟨some 2, .assign (.const (.int .i64 0)), 3, none⟩] [0])
 (.seq (.ops [
 ⟨some 6, .move (.tmp 0), 22, none⟩,
 ⟨some 7, .call ⟨.builtin .len, #[(.tmp 6)], #[22]⟩, 3, none⟩,
 ⟨some 8, .binOp .mul 3 (.const (.int .i64 2)) (.tmp 7) 3, 3, none⟩,
 ⟨some 9, .binOp .add 3 (.const (.int .i64 1)) (.tmp 8) 3, 3, none⟩,
 ⟨some 3, .assign (.tmp 9), 3, none⟩] [0, 3])
 (.seq (.seq (.ops [
 ⟨some 10, .move (.tmp 0), 22, none⟩,
 ⟨some 11, .call ⟨.builtin .len, #[(.tmp 10)], #[22]⟩, 3, none⟩,
 ⟨some 12, .move (.const (.int .i64 0)), 3, none⟩] [3, 10, 11, 12])
 (.block 0 (.loop (sg c31L0)))) (sg c31S1))))
set_option maxRecDepth 100000 in
theorem ent31 (a0 : Value) (w : World) (K : Value → World → Prop) (h : W Try.prog c31 [(0, a0)] w (finQ Try.prog [.tmp 2] K)) : Ret Try.prog 31 [a0] w K :=
  Ret_of_W (code := c31code) Try.func31 (by kernel_rfl) (by kernel_rfl) (of_decide_eq_true (by kernel_rfl)) h
--SIMP 31 c31 c31S0 c31L0 c31S1 TYS 3 9 22 FNS 
@[go_sem] theorem go31 : goFunc Try.prog 31 = true := by kernel_rfl
/- Function 32: slices.Contains[[]string,string] -/
noncomputable def c32code : Code := match Try.f32.body with | some c => c | none => .skip
noncomputable def c32S0 (_ : Unit) : Cmd := .ret
noncomputable def c32 : Cmd := (.seq (.ops [
 ⟨some 4, .assign (.const (.bool false)), 4, none⟩] [0, 1])
 (.seq (.ops [
 ⟨some 5, .move (.tmp 0), 22, none⟩,
 ⟨some 6, .move (.tmp 1), 9, none⟩,
 ⟨some 7, .call ⟨.value (.func 25), #[(.tmp 5), (.tmp 6)], #[22, 9]⟩, 3, none⟩,
 ⟨some 8, .binOp .geq 3 (.tmp 7) (.const (.int .i64 0)) 3, 4, none⟩,
 ⟨some 4, .assign (.tmp 8), 4, none⟩] [4]) (sg c32S0)))
set_option maxRecDepth 100000 in
theorem ent32 (a0 a1 : Value) (w : World) (K : Value → World → Prop) (h : W Try.prog c32 [(0, a0), (1, a1)] w (finQ Try.prog [.tmp 4] K)) : Ret Try.prog 32 [a0, a1] w K :=
  Ret_of_W (code := c32code) Try.func32 (by kernel_rfl) (by kernel_rfl) (of_decide_eq_true (by kernel_rfl)) h
--SIMP 32 c32 c32S0 TYS 3 FNS 25
@[go_sem] theorem go32 : goFunc Try.prog 32 = true := by kernel_rfl
/- Function 33: (annalistref24.Page).Takes -/
noncomputable def c33code : Code := match Try.f33.body with | some c => c | none => .skip
noncomputable def c33S0 (_ : Unit) : Cmd := (.seq (.block 1 (.ops [
 ⟨some 12, .move (.tmp 3), 3, none⟩,
 ⟨some 13, .binOp .add 3 (.tmp 12) (.const (.int .i64 2)) 3, 3, none⟩,
 ⟨some 14, .fieldAddr 24 (.tmp 1) 1, 0, none⟩,
 ⟨some 15, .load 22 (.tmp 14), 22, none⟩,
 ⟨some 16, .move (.tmp 4), 3, none⟩,
 ⟨some 17, .indexAddr 22 (.tmp 15) (.tmp 16), 0, none⟩,
 ⟨some 18, .load 9 (.tmp 17), 9, none⟩,
 ⟨some 19, .call ⟨.builtin .len, #[(.tmp 18)], #[9]⟩, 3, none⟩,
 ⟨some 20, .binOp .add 3 (.tmp 13) (.tmp 19) 3, 3, none⟩,
 ⟨some 3, .assign (.tmp 20), 3, none⟩] [1, 3, 4]))
 (.ops [
 ⟨some 10, .move (.tmp 4), 3, none⟩,
 ⟨some 11, .binOp .add 3 (.tmp 10) (.const (.int .i64 1)) 3, 3, none⟩,
 ⟨some 4, .assign (.tmp 11), 3, none⟩] [1, 3, 4]))
noncomputable def c33L0 (_ : Unit) : Cmd := (.seq (.seq (.ops [
 ⟨some 5, .move (.tmp 4), 3, none⟩,
 ⟨some 6, .fieldAddr 24 (.tmp 1) 1, 0, none⟩,
 ⟨some 7, .load 22 (.tmp 6), 22, none⟩,
 ⟨some 8, .call ⟨.builtin .len, #[(.tmp 7)], #[22]⟩, 3, none⟩,
 ⟨some 9, .binOp .lss 3 (.tmp 5) (.tmp 8) 3, 4, none⟩] [1, 3, 4, 9])
 (.cond (.tmp 9)
  (.skip [1, 3, 4])
  (.exit 0 [3]))) (sg c33S0))
noncomputable def c33S1 (_ : Unit) : Cmd := (.seq (.ops [
 ⟨some 21, .move (.tmp 3), 3, none⟩,
 ⟨some 2, .assign (.tmp 21), 3, none⟩] [2])
 .ret)
noncomputable def c33 : Cmd := (.seq (.ops [
 ⟨some 1, .box 24 (.tmp 0), 0, none⟩,
 ⟨some 2, .assign (.const (.int .i64 0)), 3, none⟩] [1])
 (.seq (.ops [
 ⟨some 3, .assign (.const (.int .i64 1)), 3, none⟩] [1, 3])
 (.seq (.seq (.ops [
 ⟨some 4, .assign (.const (.int .i64 0)), 3, none⟩] [1, 3, 4])
 (.block 0 (.loop (sg c33L0)))) (sg c33S1))))
set_option maxRecDepth 100000 in
theorem ent33 (a0 : Value) (w : World) (K : Value → World → Prop) (h : W Try.prog c33 [(0, a0)] w (finQ Try.prog [.tmp 2] K)) : Ret Try.prog 33 [a0] w K :=
  Ret_of_W (code := c33code) Try.func33 (by kernel_rfl) (by kernel_rfl) (of_decide_eq_true (by kernel_rfl)) h
--SIMP 33 c33 c33S0 c33L0 c33S1 TYS 3 9 22 24 FNS 
@[go_sem] theorem go33 : goFunc Try.prog 33 = true := by kernel_rfl
/- Function 34: slot.All -/
noncomputable def c34code : Code := match Try.f34.body with | some c => c | none => .skip
noncomputable def c34 : Cmd := (.seq (.ops [
 ⟨some 1, .box 9 (.tmp 0), 0, none⟩,
 ⟨some 2, .assign (.const .nilFunc), 61, none⟩] [1])
 (.seq (.ops [
 ⟨some 3, .makeFunc (.func 36) #[] #[(.tmp 1)], 60, none⟩,
 ⟨some 2, .assign (.tmp 3), 61, none⟩] [2])
 .ret))
set_option maxRecDepth 100000 in
theorem ent34 (a0 : Value) (w : World) (K : Value → World → Prop) (h : W Try.prog c34 [(0, a0)] w (finQ Try.prog [.tmp 2] K)) : Ret Try.prog 34 [a0] w K :=
  Ret_of_W (code := c34code) Try.func34 (by kernel_rfl) (by kernel_rfl) (of_decide_eq_true (by kernel_rfl)) h
--SIMP 34 c34 TYS 9 FNS 
@[go_sem] theorem go34 : goFunc Try.prog 34 = true := by kernel_rfl
/- Function 35: annalistref24.trimmed -/
noncomputable def c35code : Code := match Try.f35.body with | some c => c | none => .skip
noncomputable def c35S0 (_ : Unit) : Cmd := (.block 1 (.ops [
 ⟨some 16, .move (.tmp 3), 3, none⟩,
 ⟨some 17, .binOp .sub 3 (.tmp 16) (.const (.int .i64 1)) 3, 3, none⟩,
 ⟨some 3, .assign (.tmp 17), 3, none⟩] [0, 3]))
noncomputable def c35L0 (_ : Unit) : Cmd := (.seq (.seq (.ops [
 ⟨some 6, .move (.tmp 3), 3, none⟩,
 ⟨some 7, .binOp .gtr 3 (.tmp 6) (.const (.int .i64 0)) 3, 4, none⟩,
 ⟨some 8, .move (.tmp 7), 4, none⟩,
 ⟨some 9, .move (.tmp 0), 22, (some (8, true))⟩,
 ⟨some 10, .move (.tmp 3), 3, (some (8, true))⟩,
 ⟨some 11, .binOp .sub 3 (.tmp 10) (.const (.int .i64 1)) 3, 3, (some (8, true))⟩,
 ⟨some 12, .indexAddr 22 (.tmp 9) (.tmp 11), 0, (some (8, true))⟩,
 ⟨some 13, .load 9 (.tmp 12), 9, (some (8, true))⟩,
 ⟨some 14, .binOp .eql 9 (.tmp 13) (.const (.string (ofL []))) 9, 4, (some (8, true))⟩,
 ⟨some 15, .pick (.tmp 8) (.tmp 14) (.const (.bool false)), 4, none⟩] [0, 3, 15])
 (.cond (.tmp 15)
  (.skip [0, 3])
  (.exit 0 [0, 3]))) (sg c35S0))
noncomputable def c35S1 (_ : Unit) : Cmd := (.seq (.ops [
 ⟨some 18, .move (.tmp 0), 22, none⟩,
 ⟨some 19, .move (.tmp 3), 3, none⟩,
 ⟨some 20, .slice 22 (.tmp 18) none (some (.tmp 19)) none, 22, none⟩,
 ⟨some 2, .assign (.tmp 20), 22, none⟩] [2])
 .ret)
noncomputable def c35 : Cmd := (.seq (.ops [
 ⟨some 2, .assign (.const (.slice none 0 0)), 22, none⟩] [0])
 (.seq (.ops [
 ⟨some 4, .move (.tmp 0), 22, none⟩,
 ⟨some 5, .call ⟨.builtin .len, #[(.tmp 4)], #[22]⟩, 3, none⟩,
 ⟨some 3, .assign (.tmp 5), 3, none⟩] [0, 3])
 (.seq (.block 0 (.loop (sg c35L0))) (sg c35S1))))
set_option maxRecDepth 100000 in
theorem ent35 (a0 : Value) (w : World) (K : Value → World → Prop) (h : W Try.prog c35 [(0, a0)] w (finQ Try.prog [.tmp 2] K)) : Ret Try.prog 35 [a0] w K :=
  Ret_of_W (code := c35code) Try.func35 (by kernel_rfl) (by kernel_rfl) (of_decide_eq_true (by kernel_rfl)) h
--SIMP 35 c35 c35S0 c35L0 c35S1 TYS 3 9 22 FNS 
@[go_sem] theorem go35 : goFunc Try.prog 35 = true := by kernel_rfl
/- Function 36: slot.All$1 -/
noncomputable def c36code : Code := match Try.f36.body with | some c => c | none => .skip
noncomputable def c36S0 (_ : Unit) : Cmd := (.cond (.tmp 24)
  .ret
  (.skip [0, 1, 7, 8]))
noncomputable def c36S1 (_ : Unit) : Cmd := (.seq (.ops [
 ⟨some 17, .move (.tmp 5), 4, none⟩,
 ⟨some 18, .move (.tmp 17), 4, none⟩,
 ⟨some 19, .move (.tmp 0), 64, (some (18, true))⟩,
 ⟨some 20, .move (.tmp 3), 3, (some (18, true))⟩,
 ⟨some 21, .move (.tmp 4), 9, (some (18, true))⟩,
 ⟨some 22, .call ⟨.value (.tmp 19), #[(.tmp 20), (.tmp 21)], #[3, 9]⟩, 4, (some (18, true))⟩,
 ⟨some 23, .unOp .not 4 (.tmp 22), 4, (some (18, true))⟩,
 ⟨some 24, .pick (.tmp 18) (.tmp 23) (.const (.bool false)), 4, none⟩] [0, 1, 7, 8, 24]) (sg c36S0))
noncomputable def c36S2 (_ : Unit) : Cmd := (.ops [
 ⟨some 25, .binOp .add 3 (.tmp 8) (.const (.int .i64 1)) 3, 3, none⟩,
 ⟨some 8, .move (.tmp 25), 3, none⟩] [0, 1, 7, 8])
noncomputable def c36S3 (_ : Unit) : Cmd := (.seq (.block 1 (.seq (.ops [
 ⟨some 10, .move (.tmp 8), 3, none⟩,
 ⟨some 3, .assign (.tmp 10), 3, none⟩] [0, 1, 3, 7, 8])
 (.seq (.ops [
 ⟨some 12, .load 9 (.tmp 1), 9, none⟩,
 ⟨some 13, .move (.tmp 3), 3, none⟩,
 ⟨some 14, .call ⟨.value (.func 12), #[(.tmp 12), (.tmp 13)], #[9, 3]⟩, 34, none⟩,
 ⟨some 11, .move (.tmp 14), 34, none⟩,
 ⟨some 15, .extract (.tmp 11) 0, 9, none⟩,
 ⟨some 16, .extract (.tmp 11) 1, 4, none⟩,
 ⟨some 4, .assign (.tmp 15), 9, none⟩,
 ⟨some 5, .assign (.tmp 16), 4, none⟩] [0, 1, 3, 4, 5, 7, 8]) (sg c36S1)))) (sg c36S2))
noncomputable def c36L0 (_ : Unit) : Cmd := (.seq (.ops [
 ⟨some 9, .binOp .lss 3 (.tmp 8) (.tmp 7) 3, 4, none⟩] [0, 1, 7, 8, 9])
 (.seq (.cond (.tmp 9)
  (.skip [0, 1, 7, 8])
  (.exit 0 [])) (sg c36S3)))
noncomputable def c36S4 (_ : Unit) : Cmd := (.block 0 (.loop (sg c36L0)))
noncomputable def c36 : Cmd := (.seq (.ops [
 ⟨some 6, .load 9 (.tmp 1), 9, none⟩,
 ⟨some 7, .call ⟨.value (.func 29), #[(.tmp 6)], #[9]⟩, 3, none⟩,
 ⟨some 8, .move (.const (.int .i64 0)), 3, none⟩] [0, 1, 7, 8]) (sg c36S4))
set_option maxRecDepth 100000 in
theorem ent36 (a0 a1 : Value) (w : World) (K : Value → World → Prop) (h : W Try.prog c36 [(0, a0), (1, a1)] w (finQ Try.prog [] K)) : Ret Try.prog 36 [a0, a1] w K :=
  Ret_of_W (code := c36code) Try.func36 (by kernel_rfl) (by kernel_rfl) (of_decide_eq_true (by kernel_rfl)) h
--SIMP 36 c36 c36S0 c36S1 c36S2 c36S3 c36L0 c36S4 TYS 3 9 FNS 12 29
@[go_sem] theorem go36 : goFunc Try.prog 36 = true := by kernel_rfl
end Go.Proofs.Ytkofhjopeppnoaa
