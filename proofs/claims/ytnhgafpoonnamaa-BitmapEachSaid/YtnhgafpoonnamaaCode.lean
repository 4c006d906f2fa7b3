/- The functions as commands, and facts on the types: printed by program. -/
import Derived.Test.YtnhgafpoonnamaaRows
import Derived.Test.YtnhgafpoonnamaaAnn14
import Derived.KernelRfl
namespace Go.Proofs.Ytnhgafpoonnamaa
open Go Go.Ann
@[go_sem] theorem ty0tyK : tyK Try.prog 0 = .other := by kernel_rfl
@[go_sem] theorem ty0sizeT : sizeT Try.prog 0 = some 1 := by kernel_rfl
@[go_sem] theorem ty0zeroT : zeroT Try.prog 0 = some (.tuple #[]) := by kernel_rfl
@[go_sem] theorem ty0conc : Program.concrete Try.prog 0 = true := by kernel_rfl
@[go_sem] theorem ty1tyK : tyK Try.prog 1 = .other := by kernel_rfl
@[go_sem] theorem ty1isFuncT : isFuncT Try.prog 1 = true := by kernel_rfl
@[go_sem] theorem ty1sizeT : sizeT Try.prog 1 = some 1 := by kernel_rfl
@[go_sem] theorem ty1zeroT : zeroT Try.prog 1 = some .nilFunc := by kernel_rfl
@[go_sem] theorem ty1conc : Program.concrete Try.prog 1 = true := by kernel_rfl
@[go_sem] theorem ty2tyK : tyK Try.prog 2 = .int .i64 := by kernel_rfl
@[go_sem] theorem ty2sizeT : sizeT Try.prog 2 = some 1 := by kernel_rfl
@[go_sem] theorem ty2zeroT : zeroT Try.prog 2 = some (.int .i64 0) := by kernel_rfl
@[go_sem] theorem ty2conc : Program.concrete Try.prog 2 = true := by kernel_rfl
@[go_sem] theorem ty3tyK : tyK Try.prog 3 = .int .i64 := by kernel_rfl
@[go_sem] theorem ty3sizeT : sizeT Try.prog 3 = some 1 := by kernel_rfl
@[go_sem] theorem ty3zeroT : zeroT Try.prog 3 = some (.int .i64 0) := by kernel_rfl
@[go_sem] theorem ty3conc : Program.concrete Try.prog 3 = true := by kernel_rfl
@[go_sem] theorem ty4tyK : tyK Try.prog 4 = .bool := by kernel_rfl
@[go_sem] theorem ty4isBoolT : isBoolT Try.prog 4 = true := by kernel_rfl
@[go_sem] theorem ty4sizeT : sizeT Try.prog 4 = some 1 := by kernel_rfl
@[go_sem] theorem ty4zeroT : zeroT Try.prog 4 = some (.bool false) := by kernel_rfl
@[go_sem] theorem ty4conc : Program.concrete Try.prog 4 = true := by kernel_rfl
@[go_sem] theorem ty5tyK : tyK Try.prog 5 = .int .u8 := by kernel_rfl
@[go_sem] theorem ty5sizeT : sizeT Try.prog 5 = some 1 := by kernel_rfl
@[go_sem] theorem ty5zeroT : zeroT Try.prog 5 = some (.int .u8 0) := by kernel_rfl
@[go_sem] theorem ty5conc : Program.concrete Try.prog 5 = true := by kernel_rfl
@[go_sem] theorem ty6tyK : tyK Try.prog 6 = .int .u8 := by kernel_rfl
@[go_sem] theorem ty6sizeT : sizeT Try.prog 6 = some 1 := by kernel_rfl
@[go_sem] theorem ty6zeroT : zeroT Try.prog 6 = some (.int .u8 0) := by kernel_rfl
@[go_sem] theorem ty6conc : Program.concrete Try.prog 6 = true := by kernel_rfl
@[go_sem] theorem ty7tyK : tyK Try.prog 7 = .agg 4 := by kernel_rfl
@[go_sem] theorem ty7sizeT : sizeT Try.prog 7 = some 4 := by kernel_rfl
@[go_sem] theorem ty7zeroT : zeroT Try.prog 7 = some (.agg #[(.int .i64 0), (.int .i64 0), (.bool false), (.int .u8 0)]) := by kernel_rfl
@[go_sem] theorem ty7conc : Program.concrete Try.prog 7 = true := by kernel_rfl
@[go_sem] theorem ty7fld0 : fldI Try.prog 7 0 = some (0, 1, false) := by kernel_rfl
@[go_sem] theorem ty7fld1 : fldI Try.prog 7 1 = some (1, 1, false) := by kernel_rfl
@[go_sem] theorem ty7fld2 : fldI Try.prog 7 2 = some (2, 1, false) := by kernel_rfl
@[go_sem] theorem ty7fld3 : fldI Try.prog 7 3 = some (3, 1, false) := by kernel_rfl
@[go_sem] theorem ty8tyK : tyK Try.prog 8 = .agg 4 := by kernel_rfl
@[go_sem] theorem ty8sizeT : sizeT Try.prog 8 = some 4 := by kernel_rfl
@[go_sem] theorem ty8zeroT : zeroT Try.prog 8 = some (.agg #[(.int .i64 0), (.int .i64 0), (.bool false), (.int .u8 0)]) := by kernel_rfl
@[go_sem] theorem ty8conc : Program.concrete Try.prog 8 = true := by kernel_rfl
@[go_sem] theorem ty8fld0 : fldI Try.prog 8 0 = some (0, 1, false) := by kernel_rfl
@[go_sem] theorem ty8fld1 : fldI Try.prog 8 1 = some (1, 1, false) := by kernel_rfl
@[go_sem] theorem ty8fld2 : fldI Try.prog 8 2 = some (2, 1, false) := by kernel_rfl
@[go_sem] theorem ty8fld3 : fldI Try.prog 8 3 = some (3, 1, false) := by kernel_rfl
@[go_sem] theorem ty9tyK : tyK Try.prog 9 = .str := by kernel_rfl
@[go_sem] theorem ty9isStrT : isStrT Try.prog 9 = true := by kernel_rfl
@[go_sem] theorem ty9sizeT : sizeT Try.prog 9 = some 1 := by kernel_rfl
@[go_sem] theorem ty9zeroT : zeroT Try.prog 9 = some (.string (ofL [])) := by kernel_rfl
@[go_sem] theorem ty9conc : Program.concrete Try.prog 9 = true := by kernel_rfl
@[go_sem] theorem ty10tyK : tyK Try.prog 10 = .str := by kernel_rfl
@[go_sem] theorem ty10isStrT : isStrT Try.prog 10 = true := by kernel_rfl
@[go_sem] theorem ty10sizeT : sizeT Try.prog 10 = some 1 := by kernel_rfl
@[go_sem] theorem ty10zeroT : zeroT Try.prog 10 = some (.string (ofL [])) := by kernel_rfl
@[go_sem] theorem ty10conc : Program.concrete Try.prog 10 = true := by kernel_rfl
@[go_sem] theorem ty11tyK : tyK Try.prog 11 = .str := by kernel_rfl
@[go_sem] theorem ty11isStrT : isStrT Try.prog 11 = true := by kernel_rfl
@[go_sem] theorem ty11sizeT : sizeT Try.prog 11 = some 1 := by kernel_rfl
@[go_sem] theorem ty11zeroT : zeroT Try.prog 11 = some (.string (ofL [])) := by kernel_rfl
@[go_sem] theorem ty11conc : Program.concrete Try.prog 11 = true := by kernel_rfl
@[go_sem] theorem ty12tyK : tyK Try.prog 12 = .int .u64 := by kernel_rfl
@[go_sem] theorem ty12sizeT : sizeT Try.prog 12 = some 1 := by kernel_rfl
@[go_sem] theorem ty12zeroT : zeroT Try.prog 12 = some (.int .u64 0) := by kernel_rfl
@[go_sem] theorem ty12conc : Program.concrete Try.prog 12 = true := by kernel_rfl
@[go_sem] theorem ty13tyK : tyK Try.prog 13 = .agg 2 := by kernel_rfl
@[go_sem] theorem ty13sizeT : sizeT Try.prog 13 = some 2 := by kernel_rfl
@[go_sem] theorem ty13zeroT : zeroT Try.prog 13 = some (.agg #[(.string (ofL [])), (.int .u64 0)]) := by kernel_rfl
@[go_sem] theorem ty13conc : Program.concrete Try.prog 13 = true := by kernel_rfl
@[go_sem] theorem ty13fld0 : fldI Try.prog 13 0 = some (0, 1, false) := by kernel_rfl
@[go_sem] theorem ty13fld1 : fldI Try.prog 13 1 = some (1, 1, false) := by kernel_rfl
@[go_sem] theorem ty14tyK : tyK Try.prog 14 = .agg 2 := by kernel_rfl
@[go_sem] theorem ty14sizeT : sizeT Try.prog 14 = some 2 := by kernel_rfl
@[go_sem] theorem ty14zeroT : zeroT Try.prog 14 = some (.agg #[(.string (ofL [])), (.int .u64 0)]) := by kernel_rfl
@[go_sem] theorem ty14conc : Program.concrete Try.prog 14 = true := by kernel_rfl
@[go_sem] theorem ty14fld0 : fldI Try.prog 14 0 = some (0, 1, false) := by kernel_rfl
@[go_sem] theorem ty14fld1 : fldI Try.prog 14 1 = some (1, 1, false) := by kernel_rfl
@[go_sem] theorem ty15tyK : tyK Try.prog 15 = .ptr := by kernel_rfl
@[go_sem] theorem ty15isPtrT : isPtrT Try.prog 15 = true := by kernel_rfl
@[go_sem] theorem ty15sizeT : sizeT Try.prog 15 = some 1 := by kernel_rfl
@[go_sem] theorem ty15zeroT : zeroT Try.prog 15 = some (.pointer none) := by kernel_rfl
@[go_sem] theorem ty15conc : Program.concrete Try.prog 15 = true := by kernel_rfl
@[go_sem] theorem ty16tyK : tyK Try.prog 16 = .ptr := by kernel_rfl
@[go_sem] theorem ty16isPtrT : isPtrT Try.prog 16 = true := by kernel_rfl
@[go_sem] theorem ty16sizeT : sizeT Try.prog 16 = some 1 := by kernel_rfl
@[go_sem] theorem ty16zeroT : zeroT Try.prog 16 = some (.pointer none) := by kernel_rfl
@[go_sem] theorem ty16conc : Program.concrete Try.prog 16 = true := by kernel_rfl
@[go_sem] theorem ty17tyK : tyK Try.prog 17 = .ptr := by kernel_rfl
@[go_sem] theorem ty17isPtrT : isPtrT Try.prog 17 = true := by kernel_rfl
@[go_sem] theorem ty17sizeT : sizeT Try.prog 17 = some 1 := by kernel_rfl
@[go_sem] theorem ty17zeroT : zeroT Try.prog 17 = some (.pointer none) := by kernel_rfl
@[go_sem] theorem ty17conc : Program.concrete Try.prog 17 = true := by kernel_rfl
@[go_sem] theorem ty18tyK : tyK Try.prog 18 = .agg 1 := by kernel_rfl
@[go_sem] theorem ty18sizeT : sizeT Try.prog 18 = some 1 := by kernel_rfl
@[go_sem] theorem ty18zeroT : zeroT Try.prog 18 = some (.agg #[(.pointer none)]) := by kernel_rfl
@[go_sem] theorem ty18conc : Program.concrete Try.prog 18 = true := by kernel_rfl
@[go_sem] theorem ty18fld0 : fldI Try.prog 18 0 = some (0, 1, false) := by kernel_rfl
@[go_sem] theorem ty19tyK : tyK Try.prog 19 = .agg 1 := by kernel_rfl
@[go_sem] theorem ty19sizeT : sizeT Try.prog 19 = some 1 := by kernel_rfl
@[go_sem] theorem ty19zeroT : zeroT Try.prog 19 = some (.agg #[(.pointer none)]) := by kernel_rfl
@[go_sem] theorem ty19conc : Program.concrete Try.prog 19 = true := by kernel_rfl
@[go_sem] theorem ty19fld0 : fldI Try.prog 19 0 = some (0, 1, false) := by kernel_rfl
@[go_sem] theorem ty20tyK : tyK Try.prog 20 = .other := by kernel_rfl
@[go_sem] theorem ty20isIfaceT : isIfaceT Try.prog 20 = true := by kernel_rfl
@[go_sem] theorem ty20sizeT : sizeT Try.prog 20 = some 1 := by kernel_rfl
@[go_sem] theorem ty20zeroT : zeroT Try.prog 20 = some .nilIface := by kernel_rfl
@[go_sem] theorem ty21tyK : tyK Try.prog 21 = .int .i32 := by kernel_rfl
@[go_sem] theorem ty21sizeT : sizeT Try.prog 21 = some 1 := by kernel_rfl
@[go_sem] theorem ty21zeroT : zeroT Try.prog 21 = some (.int .i32 0) := by kernel_rfl
@[go_sem] theorem ty21conc : Program.concrete Try.prog 21 = true := by kernel_rfl
@[go_sem] theorem ty22tyK : tyK Try.prog 22 = .other := by kernel_rfl
@[go_sem] theorem ty22sizeT : sizeT Try.prog 22 = some 1 := by kernel_rfl
@[go_sem] theorem ty22zeroT : zeroT Try.prog 22 = some (.tuple #[(.string (ofL [])), (.bool false)]) := by kernel_rfl
@[go_sem] theorem ty22conc : Program.concrete Try.prog 22 = true := by kernel_rfl
@[go_sem] theorem ty23tyK : tyK Try.prog 23 = .other := by kernel_rfl
@[go_sem] theorem ty23isFuncT : isFuncT Try.prog 23 = true := by kernel_rfl
@[go_sem] theorem ty23sizeT : sizeT Try.prog 23 = some 1 := by kernel_rfl
@[go_sem] theorem ty23zeroT : zeroT Try.prog 23 = some .nilFunc := by kernel_rfl
@[go_sem] theorem ty23conc : Program.concrete Try.prog 23 = true := by kernel_rfl
@[go_sem] theorem ty24tyK : tyK Try.prog 24 = .other := by kernel_rfl
@[go_sem] theorem ty24isFuncT : isFuncT Try.prog 24 = true := by kernel_rfl
@[go_sem] theorem ty24sizeT : sizeT Try.prog 24 = some 1 := by kernel_rfl
@[go_sem] theorem ty24zeroT : zeroT Try.prog 24 = some .nilFunc := by kernel_rfl
@[go_sem] theorem ty24conc : Program.concrete Try.prog 24 = true := by kernel_rfl
@[go_sem] theorem ty25tyK : tyK Try.prog 25 = .other := by kernel_rfl
@[go_sem] theorem ty25isFuncT : isFuncT Try.prog 25 = true := by kernel_rfl
@[go_sem] theorem ty25sizeT : sizeT Try.prog 25 = some 1 := by kernel_rfl
@[go_sem] theorem ty25zeroT : zeroT Try.prog 25 = some .nilFunc := by kernel_rfl
@[go_sem] theorem ty25conc : Program.concrete Try.prog 25 = true := by kernel_rfl
@[go_sem] theorem ty26tyK : tyK Try.prog 26 = .other := by kernel_rfl
@[go_sem] theorem ty26isFuncT : isFuncT Try.prog 26 = true := by kernel_rfl
@[go_sem] theorem ty26sizeT : sizeT Try.prog 26 = some 1 := by kernel_rfl
@[go_sem] theorem ty26zeroT : zeroT Try.prog 26 = some .nilFunc := by kernel_rfl
@[go_sem] theorem ty26conc : Program.concrete Try.prog 26 = true := by kernel_rfl
@[go_sem] theorem ty27tyK : tyK Try.prog 27 = .other := by kernel_rfl
@[go_sem] theorem ty27isFuncT : isFuncT Try.prog 27 = true := by kernel_rfl
@[go_sem] theorem ty27sizeT : sizeT Try.prog 27 = some 1 := by kernel_rfl
@[go_sem] theorem ty27zeroT : zeroT Try.prog 27 = some .nilFunc := by kernel_rfl
@[go_sem] theorem ty27conc : Program.concrete Try.prog 27 = true := by kernel_rfl
@[go_sem] theorem ty28tyK : tyK Try.prog 28 = .other := by kernel_rfl
@[go_sem] theorem ty28isFuncT : isFuncT Try.prog 28 = true := by kernel_rfl
@[go_sem] theorem ty28sizeT : sizeT Try.prog 28 = some 1 := by kernel_rfl
@[go_sem] theorem ty28zeroT : zeroT Try.prog 28 = some .nilFunc := by kernel_rfl
@[go_sem] theorem ty28conc : Program.concrete Try.prog 28 = true := by kernel_rfl
@[go_sem] theorem ty29tyK : tyK Try.prog 29 = .other := by kernel_rfl
@[go_sem] theorem ty29isFuncT : isFuncT Try.prog 29 = true := by kernel_rfl
@[go_sem] theorem ty29sizeT : sizeT Try.prog 29 = some 1 := by kernel_rfl
@[go_sem] theorem ty29zeroT : zeroT Try.prog 29 = some .nilFunc := by kernel_rfl
@[go_sem] theorem ty29conc : Program.concrete Try.prog 29 = true := by kernel_rfl
@[go_sem] theorem ty30tyK : tyK Try.prog 30 = .other := by kernel_rfl
@[go_sem] theorem ty30sizeT : sizeT Try.prog 30 = some 1 := by kernel_rfl
@[go_sem] theorem ty30zeroT : zeroT Try.prog 30 = some (.tuple #[(.int .i64 0), (.bool false)]) := by kernel_rfl
@[go_sem] theorem ty30conc : Program.concrete Try.prog 30 = true := by kernel_rfl
@[go_sem] theorem ty31tyK : tyK Try.prog 31 = .other := by kernel_rfl
@[go_sem] theorem ty31isFuncT : isFuncT Try.prog 31 = true := by kernel_rfl
@[go_sem] theorem ty31sizeT : sizeT Try.prog 31 = some 1 := by kernel_rfl
@[go_sem] theorem ty31zeroT : zeroT Try.prog 31 = some .nilFunc := by kernel_rfl
@[go_sem] theorem ty31conc : Program.concrete Try.prog 31 = true := by kernel_rfl
@[go_sem] theorem ty32tyK : tyK Try.prog 32 = .other := by kernel_rfl
@[go_sem] theorem ty32isFuncT : isFuncT Try.prog 32 = true := by kernel_rfl
@[go_sem] theorem ty32sizeT : sizeT Try.prog 32 = some 1 := by kernel_rfl
@[go_sem] theorem ty32zeroT : zeroT Try.prog 32 = some .nilFunc := by kernel_rfl
@[go_sem] theorem ty32conc : Program.concrete Try.prog 32 = true := by kernel_rfl
@[go_sem] theorem ty33tyK : tyK Try.prog 33 = .other := by kernel_rfl
@[go_sem] theorem ty33isFuncT : isFuncT Try.prog 33 = true := by kernel_rfl
@[go_sem] theorem ty33sizeT : sizeT Try.prog 33 = some 1 := by kernel_rfl
@[go_sem] theorem ty33zeroT : zeroT Try.prog 33 = some .nilFunc := by kernel_rfl
@[go_sem] theorem ty33conc : Program.concrete Try.prog 33 = true := by kernel_rfl
@[go_sem] theorem ty34tyK : tyK Try.prog 34 = .slice false 3 := by kernel_rfl
@[go_sem] theorem ty34isSliceT : isSliceT Try.prog 34 = true := by kernel_rfl
@[go_sem] theorem ty34sliI : sliI Try.prog 34 = some 1 := by kernel_rfl
@[go_sem] theorem ty34mkI : mkI Try.prog 34 = some (3, 1, 8, (.int .i64 0)) := by kernel_rfl
@[go_sem] theorem ty34sizeT : sizeT Try.prog 34 = some 1 := by kernel_rfl
@[go_sem] theorem ty34zeroT : zeroT Try.prog 34 = some (.slice none 0 0) := by kernel_rfl
@[go_sem] theorem ty34conc : Program.concrete Try.prog 34 = true := by kernel_rfl
@[go_sem] theorem ty35tyK : tyK Try.prog 35 = .other := by kernel_rfl
@[go_sem] theorem ty35isFuncT : isFuncT Try.prog 35 = true := by kernel_rfl
@[go_sem] theorem ty35sizeT : sizeT Try.prog 35 = some 1 := by kernel_rfl
@[go_sem] theorem ty35zeroT : zeroT Try.prog 35 = some .nilFunc := by kernel_rfl
@[go_sem] theorem ty35conc : Program.concrete Try.prog 35 = true := by kernel_rfl
@[go_sem] theorem ty36tyK : tyK Try.prog 36 = .other := by kernel_rfl
@[go_sem] theorem ty36isFuncT : isFuncT Try.prog 36 = true := by kernel_rfl
@[go_sem] theorem ty36sizeT : sizeT Try.prog 36 = some 1 := by kernel_rfl
@[go_sem] theorem ty36zeroT : zeroT Try.prog 36 = some .nilFunc := by kernel_rfl
@[go_sem] theorem ty36conc : Program.concrete Try.prog 36 = true := by kernel_rfl
@[go_sem] theorem ty37tyK : tyK Try.prog 37 = .other := by kernel_rfl
@[go_sem] theorem ty37isFuncT : isFuncT Try.prog 37 = true := by kernel_rfl
@[go_sem] theorem ty37sizeT : sizeT Try.prog 37 = some 1 := by kernel_rfl
@[go_sem] theorem ty37zeroT : zeroT Try.prog 37 = some .nilFunc := by kernel_rfl
@[go_sem] theorem ty37conc : Program.concrete Try.prog 37 = true := by kernel_rfl
@[go_sem] theorem ty38tyK : tyK Try.prog 38 = .slice true 5 := by kernel_rfl
@[go_sem] theorem ty38isSliceT : isSliceT Try.prog 38 = true := by kernel_rfl
@[go_sem] theorem ty38sliI : sliI Try.prog 38 = some 1 := by kernel_rfl
@[go_sem] theorem ty38mkI : mkI Try.prog 38 = some (5, 1, 1, (.int .u8 0)) := by kernel_rfl
@[go_sem] theorem ty38sizeT : sizeT Try.prog 38 = some 1 := by kernel_rfl
@[go_sem] theorem ty38zeroT : zeroT Try.prog 38 = some (.slice none 0 0) := by kernel_rfl
@[go_sem] theorem ty38conc : Program.concrete Try.prog 38 = true := by kernel_rfl
@[go_sem] theorem ty39tyK : tyK Try.prog 39 = .int .u64 := by kernel_rfl
@[go_sem] theorem ty39sizeT : sizeT Try.prog 39 = some 1 := by kernel_rfl
@[go_sem] theorem ty39zeroT : zeroT Try.prog 39 = some (.int .u64 0) := by kernel_rfl
@[go_sem] theorem ty39conc : Program.concrete Try.prog 39 = true := by kernel_rfl
@[go_sem] theorem ty40tyK : tyK Try.prog 40 = .other := by kernel_rfl
@[go_sem] theorem ty40isFuncT : isFuncT Try.prog 40 = true := by kernel_rfl
@[go_sem] theorem ty40sizeT : sizeT Try.prog 40 = some 1 := by kernel_rfl
@[go_sem] theorem ty40zeroT : zeroT Try.prog 40 = some .nilFunc := by kernel_rfl
@[go_sem] theorem ty40conc : Program.concrete Try.prog 40 = true := by kernel_rfl
@[go_sem] theorem ty41tyK : tyK Try.prog 41 = .other := by kernel_rfl
@[go_sem] theorem ty41isFuncT : isFuncT Try.prog 41 = true := by kernel_rfl
@[go_sem] theorem ty41sizeT : sizeT Try.prog 41 = some 1 := by kernel_rfl
@[go_sem] theorem ty41zeroT : zeroT Try.prog 41 = some .nilFunc := by kernel_rfl
@[go_sem] theorem ty41conc : Program.concrete Try.prog 41 = true := by kernel_rfl
@[go_sem] theorem ty42tyK : tyK Try.prog 42 = .other := by kernel_rfl
@[go_sem] theorem ty42isFuncT : isFuncT Try.prog 42 = true := by kernel_rfl
@[go_sem] theorem ty42sizeT : sizeT Try.prog 42 = some 1 := by kernel_rfl
@[go_sem] theorem ty42zeroT : zeroT Try.prog 42 = some .nilFunc := by kernel_rfl
@[go_sem] theorem ty42conc : Program.concrete Try.prog 42 = true := by kernel_rfl
@[go_sem] theorem ty43tyK : tyK Try.prog 43 = .other := by kernel_rfl
@[go_sem] theorem ty43isFuncT : isFuncT Try.prog 43 = true := by kernel_rfl
@[go_sem] theorem ty43sizeT : sizeT Try.prog 43 = some 1 := by kernel_rfl
@[go_sem] theorem ty43zeroT : zeroT Try.prog 43 = some .nilFunc := by kernel_rfl
@[go_sem] theorem ty43conc : Program.concrete Try.prog 43 = true := by kernel_rfl
@[go_sem] theorem ty44tyK : tyK Try.prog 44 = .other := by kernel_rfl
@[go_sem] theorem ty44isFuncT : isFuncT Try.prog 44 = true := by kernel_rfl
@[go_sem] theorem ty44sizeT : sizeT Try.prog 44 = some 1 := by kernel_rfl
@[go_sem] theorem ty44zeroT : zeroT Try.prog 44 = some .nilFunc := by kernel_rfl
@[go_sem] theorem ty44conc : Program.concrete Try.prog 44 = true := by kernel_rfl
@[go_sem] theorem ty45tyK : tyK Try.prog 45 = .other := by kernel_rfl
@[go_sem] theorem ty45isFuncT : isFuncT Try.prog 45 = true := by kernel_rfl
@[go_sem] theorem ty45sizeT : sizeT Try.prog 45 = some 1 := by kernel_rfl
@[go_sem] theorem ty45zeroT : zeroT Try.prog 45 = some .nilFunc := by kernel_rfl
@[go_sem] theorem ty45conc : Program.concrete Try.prog 45 = true := by kernel_rfl
@[go_sem] theorem ty46tyK : tyK Try.prog 46 = .agg 4 := by kernel_rfl
@[go_sem] theorem ty46sizeT : sizeT Try.prog 46 = some 4 := by kernel_rfl
@[go_sem] theorem ty46zeroT : zeroT Try.prog 46 = some (.agg #[(.pointer none), (.pointer none), (.pointer none), (.string (ofL []))]) := by kernel_rfl
@[go_sem] theorem ty46conc : Program.concrete Try.prog 46 = true := by kernel_rfl
@[go_sem] theorem ty46fld0 : fldI Try.prog 46 0 = some (0, 1, false) := by kernel_rfl
@[go_sem] theorem ty46fld1 : fldI Try.prog 46 1 = some (1, 1, false) := by kernel_rfl
@[go_sem] theorem ty46fld2 : fldI Try.prog 46 2 = some (2, 1, false) := by kernel_rfl
@[go_sem] theorem ty46fld3 : fldI Try.prog 46 3 = some (3, 1, false) := by kernel_rfl
@[go_sem] theorem ty47tyK : tyK Try.prog 47 = .agg 4 := by kernel_rfl
@[go_sem] theorem ty47sizeT : sizeT Try.prog 47 = some 4 := by kernel_rfl
@[go_sem] theorem ty47zeroT : zeroT Try.prog 47 = some (.agg #[(.pointer none), (.pointer none), (.pointer none), (.string (ofL []))]) := by kernel_rfl
@[go_sem] theorem ty47conc : Program.concrete Try.prog 47 = true := by kernel_rfl
@[go_sem] theorem ty47fld0 : fldI Try.prog 47 0 = some (0, 1, false) := by kernel_rfl
@[go_sem] theorem ty47fld1 : fldI Try.prog 47 1 = some (1, 1, false) := by kernel_rfl
@[go_sem] theorem ty47fld2 : fldI Try.prog 47 2 = some (2, 1, false) := by kernel_rfl
@[go_sem] theorem ty47fld3 : fldI Try.prog 47 3 = some (3, 1, false) := by kernel_rfl
@[go_sem] theorem ty48tyK : tyK Try.prog 48 = .agg 0 := by kernel_rfl
@[go_sem] theorem ty48arrI : arrI Try.prog 48 = some (0, 1, false) := by kernel_rfl
@[go_sem] theorem ty48sizeT : sizeT Try.prog 48 = some 0 := by kernel_rfl
@[go_sem] theorem ty48zeroT : zeroT Try.prog 48 = some (.agg #[]) := by kernel_rfl
@[go_sem] theorem ty48conc : Program.concrete Try.prog 48 = true := by kernel_rfl
@[go_sem] theorem ty49tyK : tyK Try.prog 49 = .agg 0 := by kernel_rfl
@[go_sem] theorem ty49sizeT : sizeT Try.prog 49 = some 0 := by kernel_rfl
@[go_sem] theorem ty49zeroT : zeroT Try.prog 49 = some (.agg #[]) := by kernel_rfl
@[go_sem] theorem ty49conc : Program.concrete Try.prog 49 = true := by kernel_rfl
@[go_sem] theorem ty49fld0 : fldI Try.prog 49 0 = some (0, 0, true) := by kernel_rfl
@[go_sem] theorem ty50tyK : tyK Try.prog 50 = .agg 0 := by kernel_rfl
@[go_sem] theorem ty50sizeT : sizeT Try.prog 50 = some 0 := by kernel_rfl
@[go_sem] theorem ty50zeroT : zeroT Try.prog 50 = some (.agg #[]) := by kernel_rfl
@[go_sem] theorem ty50conc : Program.concrete Try.prog 50 = true := by kernel_rfl
@[go_sem] theorem ty50fld0 : fldI Try.prog 50 0 = some (0, 0, true) := by kernel_rfl
@[go_sem] theorem ty51tyK : tyK Try.prog 51 = .other := by kernel_rfl
@[go_sem] theorem ty51isFuncT : isFuncT Try.prog 51 = true := by kernel_rfl
@[go_sem] theorem ty51sizeT : sizeT Try.prog 51 = some 1 := by kernel_rfl
@[go_sem] theorem ty51zeroT : zeroT Try.prog 51 = some .nilFunc := by kernel_rfl
@[go_sem] theorem ty51conc : Program.concrete Try.prog 51 = true := by kernel_rfl
@[go_sem] theorem ty52tyK : tyK Try.prog 52 = .int .u32 := by kernel_rfl
@[go_sem] theorem ty52sizeT : sizeT Try.prog 52 = some 1 := by kernel_rfl
@[go_sem] theorem ty52zeroT : zeroT Try.prog 52 = some (.int .u32 0) := by kernel_rfl
@[go_sem] theorem ty52conc : Program.concrete Try.prog 52 = true := by kernel_rfl
@[go_sem] theorem ty53tyK : tyK Try.prog 53 = .int .u8 := by kernel_rfl
@[go_sem] theorem ty53sizeT : sizeT Try.prog 53 = some 1 := by kernel_rfl
@[go_sem] theorem ty53zeroT : zeroT Try.prog 53 = some (.int .u8 0) := by kernel_rfl
@[go_sem] theorem ty53conc : Program.concrete Try.prog 53 = true := by kernel_rfl
@[go_sem] theorem ty54tyK : tyK Try.prog 54 = .int .u8 := by kernel_rfl
@[go_sem] theorem ty54sizeT : sizeT Try.prog 54 = some 1 := by kernel_rfl
@[go_sem] theorem ty54zeroT : zeroT Try.prog 54 = some (.int .u8 0) := by kernel_rfl
@[go_sem] theorem ty54conc : Program.concrete Try.prog 54 = true := by kernel_rfl
@[go_sem] theorem ty55tyK : tyK Try.prog 55 = .other := by kernel_rfl
@[go_sem] theorem ty55isFuncT : isFuncT Try.prog 55 = true := by kernel_rfl
@[go_sem] theorem ty55sizeT : sizeT Try.prog 55 = some 1 := by kernel_rfl
@[go_sem] theorem ty55zeroT : zeroT Try.prog 55 = some .nilFunc := by kernel_rfl
@[go_sem] theorem ty55conc : Program.concrete Try.prog 55 = true := by kernel_rfl
@[go_sem] theorem ty56tyK : tyK Try.prog 56 = .ptr := by kernel_rfl
@[go_sem] theorem ty56isPtrT : isPtrT Try.prog 56 = true := by kernel_rfl
@[go_sem] theorem ty56sizeT : sizeT Try.prog 56 = some 1 := by kernel_rfl
@[go_sem] theorem ty56zeroT : zeroT Try.prog 56 = some (.pointer none) := by kernel_rfl
@[go_sem] theorem ty56conc : Program.concrete Try.prog 56 = true := by kernel_rfl
@[go_sem] theorem ty57tyK : tyK Try.prog 57 = .int .i32 := by kernel_rfl
@[go_sem] theorem ty57sizeT : sizeT Try.prog 57 = some 1 := by kernel_rfl
@[go_sem] theorem ty57zeroT : zeroT Try.prog 57 = some (.int .i32 0) := by kernel_rfl
@[go_sem] theorem ty57conc : Program.concrete Try.prog 57 = true := by kernel_rfl
@[go_sem] theorem ty58tyK : tyK Try.prog 58 = .int .i32 := by kernel_rfl
@[go_sem] theorem ty58sizeT : sizeT Try.prog 58 = some 1 := by kernel_rfl
@[go_sem] theorem ty58zeroT : zeroT Try.prog 58 = some (.int .i32 0) := by kernel_rfl
@[go_sem] theorem ty58conc : Program.concrete Try.prog 58 = true := by kernel_rfl
@[go_sem] theorem ty59tyK : tyK Try.prog 59 = .agg 11 := by kernel_rfl
@[go_sem] theorem ty59sizeT : sizeT Try.prog 59 = some 11 := by kernel_rfl
@[go_sem] theorem ty59zeroT : zeroT Try.prog 59 = some (.agg #[(.int .u64 0), (.int .u64 0), (.int .u32 0), (.int .u8 0), (.int .u8 0), (.int .u8 0), (.int .u8 0), .nilFunc, (.pointer none), (.int .i32 0), (.int .i32 0)]) := by kernel_rfl
@[go_sem] theorem ty59conc : Program.concrete Try.prog 59 = true := by kernel_rfl
@[go_sem] theorem ty59fld0 : fldI Try.prog 59 0 = some (0, 1, false) := by kernel_rfl
@[go_sem] theorem ty59fld1 : fldI Try.prog 59 1 = some (1, 1, false) := by kernel_rfl
@[go_sem] theorem ty59fld2 : fldI Try.prog 59 2 = some (2, 1, false) := by kernel_rfl
@[go_sem] theorem ty59fld3 : fldI Try.prog 59 3 = some (3, 1, false) := by kernel_rfl
@[go_sem] theorem ty59fld4 : fldI Try.prog 59 4 = some (4, 1, false) := by kernel_rfl
@[go_sem] theorem ty59fld5 : fldI Try.prog 59 5 = some (5, 1, false) := by kernel_rfl
@[go_sem] theorem ty59fld6 : fldI Try.prog 59 6 = some (6, 1, false) := by kernel_rfl
@[go_sem] theorem ty59fld7 : fldI Try.prog 59 7 = some (7, 1, false) := by kernel_rfl
@[go_sem] theorem ty59fld8 : fldI Try.prog 59 8 = some (8, 1, false) := by kernel_rfl
@[go_sem] theorem ty59fld9 : fldI Try.prog 59 9 = some (9, 1, false) := by kernel_rfl
@[go_sem] theorem ty59fld10 : fldI Try.prog 59 10 = some (10, 1, false) := by kernel_rfl
@[go_sem] theorem ty60tyK : tyK Try.prog 60 = .agg 11 := by kernel_rfl
@[go_sem] theorem ty60sizeT : sizeT Try.prog 60 = some 11 := by kernel_rfl
@[go_sem] theorem ty60zeroT : zeroT Try.prog 60 = some (.agg #[(.int .u64 0), (.int .u64 0), (.int .u32 0), (.int .u8 0), (.int .u8 0), (.int .u8 0), (.int .u8 0), .nilFunc, (.pointer none), (.int .i32 0), (.int .i32 0)]) := by kernel_rfl
@[go_sem] theorem ty60conc : Program.concrete Try.prog 60 = true := by kernel_rfl
@[go_sem] theorem ty60fld0 : fldI Try.prog 60 0 = some (0, 1, false) := by kernel_rfl
@[go_sem] theorem ty60fld1 : fldI Try.prog 60 1 = some (1, 1, false) := by kernel_rfl
@[go_sem] theorem ty60fld2 : fldI Try.prog 60 2 = some (2, 1, false) := by kernel_rfl
@[go_sem] theorem ty60fld3 : fldI Try.prog 60 3 = some (3, 1, false) := by kernel_rfl
@[go_sem] theorem ty60fld4 : fldI Try.prog 60 4 = some (4, 1, false) := by kernel_rfl
@[go_sem] theorem ty60fld5 : fldI Try.prog 60 5 = some (5, 1, false) := by kernel_rfl
@[go_sem] theorem ty60fld6 : fldI Try.prog 60 6 = some (6, 1, false) := by kernel_rfl
@[go_sem] theorem ty60fld7 : fldI Try.prog 60 7 = some (7, 1, false) := by kernel_rfl
@[go_sem] theorem ty60fld8 : fldI Try.prog 60 8 = some (8, 1, false) := by kernel_rfl
@[go_sem] theorem ty60fld9 : fldI Try.prog 60 9 = some (9, 1, false) := by kernel_rfl
@[go_sem] theorem ty60fld10 : fldI Try.prog 60 10 = some (10, 1, false) := by kernel_rfl
@[go_sem] theorem ty61tyK : tyK Try.prog 61 = .other := by kernel_rfl
@[go_sem] theorem ty61sizeT : sizeT Try.prog 61 = some 1 := by kernel_rfl
@[go_sem] theorem ty61zeroT : zeroT Try.prog 61 = some (.pointer none) := by kernel_rfl
@[go_sem] theorem ty61conc : Program.concrete Try.prog 61 = true := by kernel_rfl
/- Function 3: annalistlaw05.BitmapSets -/
noncomputable def c3code : Code := match Try.f3.body with | some c => c | none => .skip
noncomputable def c3S0 : Cmd := .ret
noncomputable def c3S1 : Cmd := (.seq (.ops [
 ⟨some 25, .move (.tmp 0), 9, none⟩,
 ⟨some 26, .move (.tmp 1), 3, none⟩,
 ⟨some 27, .call ⟨.value (.func 10), #[(.tmp 25), (.tmp 26)], #[9, 3]⟩, 4, none⟩,
 ⟨some 28, .move (.tmp 0), 9, none⟩,
 ⟨some 29, .move (.tmp 1), 3, none⟩,
 ⟨some 30, .call ⟨.value (.func 11), #[(.tmp 28), (.tmp 29)], #[9, 3]⟩, 4, none⟩,
 ⟨some 31, .binOp .eql 4 (.tmp 27) (.tmp 30) 4, 4, none⟩,
 ⟨some 32, .move (.tmp 31), 4, none⟩,
 ⟨some 33, .move (.tmp 7), 9, (some (32, true))⟩,
 ⟨some 34, .move (.tmp 9), 9, (some (32, true))⟩,
 ⟨some 35, .binOp .eql 9 (.tmp 33) (.tmp 34) 9, 4, (some (32, true))⟩,
 ⟨some 36, .pick (.tmp 32) (.tmp 35) (.const (.bool false)), 4, none⟩,
 ⟨some 37, .move (.tmp 36), 4, none⟩,
 ⟨some 38, .move (.tmp 8), 4, (some (37, true))⟩,
 ⟨some 39, .move (.tmp 10), 4, (some (37, true))⟩,
 ⟨some 40, .binOp .eql 4 (.tmp 38) (.tmp 39) 4, 4, (some (37, true))⟩,
 ⟨some 41, .pick (.tmp 37) (.tmp 40) (.const (.bool false)), 4, none⟩,
 ⟨some 42, .move (.tmp 41), 4, none⟩,
 ⟨some 43, .call ⟨.value (.func 12), #[], #[]⟩, 4, (some (42, true))⟩,
 ⟨some 44, .pick (.tmp 42) (.tmp 43) (.const (.bool false)), 4, none⟩,
 ⟨some 6, .assign (.tmp 44), 4, none⟩] [6]) c3S0)
noncomputable def c3S2 : Cmd := (.seq (.ops [
 ⟨some 19, .move (.tmp 0), 9, none⟩,
 ⟨some 20, .move (.tmp 1), 3, none⟩,
 ⟨some 21, .move (.tmp 2), 4, none⟩,
 ⟨some 22, .call ⟨.value (.func 9), #[(.tmp 19), (.tmp 20), (.tmp 21)], #[9, 3, 4]⟩, 22, none⟩,
 ⟨some 18, .move (.tmp 22), 22, none⟩,
 ⟨some 23, .extract (.tmp 18) 0, 9, none⟩,
 ⟨some 24, .extract (.tmp 18) 1, 4, none⟩,
 ⟨some 9, .assign (.tmp 23), 9, none⟩,
 ⟨some 10, .assign (.tmp 24), 4, none⟩] [0, 1, 7, 8, 9, 10]) c3S1)
noncomputable def c3 : Cmd := (.seq (.ops [
 ⟨some 6, .assign (.const (.bool false)), 4, none⟩] [0, 1, 2])
 (.seq (.ops [
 ⟨some 12, .move (.tmp 0), 9, none⟩,
 ⟨some 13, .move (.tmp 1), 3, none⟩,
 ⟨some 14, .move (.tmp 2), 4, none⟩,
 ⟨some 15, .call ⟨.value (.func 8), #[(.tmp 12), (.tmp 13), (.tmp 14)], #[9, 3, 4]⟩, 22, none⟩,
 ⟨some 11, .move (.tmp 15), 22, none⟩,
 ⟨some 16, .extract (.tmp 11) 0, 9, none⟩,
 ⟨some 17, .extract (.tmp 11) 1, 4, none⟩,
 ⟨some 7, .assign (.tmp 16), 9, none⟩,
 ⟨some 8, .assign (.tmp 17), 4, none⟩] [0, 1, 2, 7, 8]) c3S2))
theorem ent3 (a0 a1 a2 : Value) (w : World) (K : Value → World → Prop) (h : W Try.prog c3 [(0, a0), (1, a1), (2, a2)] w (finQ Try.prog [.tmp 6] K)) : Ret Try.prog 3 [a0, a1, a2] w K :=
  Ret_of_W (code := c3code) Try.func3 (by kernel_rfl) (by kernel_rfl) (of_decide_eq_true (by kernel_rfl)) h
--SIMP 3 c3 c3S0 c3S1 c3S2 TYS 4 9 FNS 8 9 10 11 12
@[go_sem] theorem go3 : goFunc Try.prog 3 = true := by kernel_rfl
/- Function 4: annalistlaw05.BitmapEmpties -/
noncomputable def c4code : Code := match Try.f4.body with | some c => c | none => .skip
noncomputable def c4S0 : Cmd := .ret
noncomputable def c4S1 : Cmd := .ret
noncomputable def c4S2 : Cmd := (.seq (.ops [
 ⟨some 19, .move (.tmp 5), 9, none⟩,
 ⟨some 20, .move (.tmp 0), 3, none⟩,
 ⟨some 21, .call ⟨.value (.func 14), #[(.tmp 20)], #[3]⟩, 9, none⟩,
 ⟨some 22, .binOp .eql 9 (.tmp 19) (.tmp 21) 9, 4, none⟩,
 ⟨some 23, .move (.tmp 22), 4, none⟩,
 ⟨some 24, .move (.tmp 5), 9, (some (23, true))⟩,
 ⟨some 25, .call ⟨.value (.func 15), #[(.tmp 24)], #[9]⟩, 3, (some (23, true))⟩,
 ⟨some 26, .binOp .eql 3 (.tmp 25) (.const (.int .i64 0)) 3, 4, (some (23, true))⟩,
 ⟨some 27, .pick (.tmp 23) (.tmp 26) (.const (.bool false)), 4, none⟩,
 ⟨some 28, .move (.tmp 27), 4, none⟩,
 ⟨some 29, .move (.tmp 5), 9, (some (28, true))⟩,
 ⟨some 30, .move (.tmp 1), 3, (some (28, true))⟩,
 ⟨some 31, .call ⟨.value (.func 10), #[(.tmp 29), (.tmp 30)], #[9, 3]⟩, 4, (some (28, true))⟩,
 ⟨some 32, .unOp .not 4 (.tmp 31), 4, (some (28, true))⟩,
 ⟨some 33, .pick (.tmp 28) (.tmp 32) (.const (.bool false)), 4, none⟩,
 ⟨some 34, .move (.tmp 33), 4, none⟩,
 ⟨some 35, .move (.tmp 1), 3, (some (34, true))⟩,
 ⟨some 36, .binOp .lss 3 (.tmp 35) (.const (.int .i64 0)) 3, 4, (some (34, true))⟩,
 ⟨some 37, .move (.tmp 36), 4, (some (34, true))⟩,
 ⟨some 38, .move (.tmp 1), 3, (some (37, false))⟩,
 ⟨some 39, .move (.tmp 0), 3, (some (37, false))⟩,
 ⟨some 40, .binOp .geq 3 (.tmp 38) (.tmp 39) 3, 4, (some (37, false))⟩,
 ⟨some 41, .pick (.tmp 37) (.const (.bool true)) (.tmp 40), 4, (some (34, true))⟩,
 ⟨some 42, .move (.tmp 41), 4, (some (34, true))⟩,
 ⟨some 43, .move (.tmp 7), 4, (some (42, false))⟩,
 ⟨some 44, .pick (.tmp 42) (.const (.bool true)) (.tmp 43), 4, (some (34, true))⟩,
 ⟨some 45, .pick (.tmp 34) (.tmp 44) (.const (.bool false)), 4, none⟩,
 ⟨some 46, .move (.tmp 45), 4, none⟩,
 ⟨some 47, .call ⟨.value (.func 12), #[], #[]⟩, 4, (some (46, true))⟩,
 ⟨some 48, .pick (.tmp 46) (.tmp 47) (.const (.bool false)), 4, none⟩,
 ⟨some 4, .assign (.tmp 48), 4, none⟩] [4]) c4S1)
noncomputable def c4S3 : Cmd := (.seq (.ops [
 ⟨some 14, .move (.tmp 5), 9, none⟩,
 ⟨some 15, .move (.tmp 1), 3, none⟩,
 ⟨some 16, .call ⟨.value (.func 8), #[(.tmp 14), (.tmp 15), (.const (.bool true))], #[9, 3, 4]⟩, 22, none⟩,
 ⟨some 13, .move (.tmp 16), 22, none⟩,
 ⟨some 17, .extract (.tmp 13) 0, 9, none⟩,
 ⟨some 18, .extract (.tmp 13) 1, 4, none⟩,
 ⟨some 6, .assign (.tmp 17), 9, none⟩,
 ⟨some 7, .assign (.tmp 18), 4, none⟩] [0, 1, 5, 7]) c4S2)
noncomputable def c4S4 : Cmd := (.seq (.ops [
 ⟨some 11, .move (.tmp 0), 3, none⟩,
 ⟨some 12, .call ⟨.value (.func 13), #[(.tmp 11)], #[3]⟩, 9, none⟩,
 ⟨some 5, .assign (.tmp 12), 9, none⟩] [0, 1, 5]) c4S3)
noncomputable def c4 : Cmd := (.seq (.ops [
 ⟨some 4, .assign (.const (.bool false)), 4, none⟩] [0, 1])
 (.seq (.seq (.ops [
 ⟨some 8, .move (.tmp 0), 3, none⟩,
 ⟨some 9, .binOp .gtr 3 (.tmp 8) (.const (.int .i64 100000)) 3, 4, none⟩] [0, 1, 9])
 (.cond (.tmp 9)
  (.seq (.ops [
  ⟨some 10, .call ⟨.value (.func 12), #[], #[]⟩, 4, none⟩,
  ⟨some 4, .assign (.tmp 10), 4, none⟩] [4]) c4S0)
  (.skip [0, 1]))) c4S4))
theorem ent4 (a0 a1 : Value) (w : World) (K : Value → World → Prop) (h : W Try.prog c4 [(0, a0), (1, a1)] w (finQ Try.prog [.tmp 4] K)) : Ret Try.prog 4 [a0, a1] w K :=
  Ret_of_W (code := c4code) Try.func4 (by kernel_rfl) (by kernel_rfl) (of_decide_eq_true (by kernel_rfl)) h
--SIMP 4 c4 c4S0 c4S1 c4S2 c4S3 c4S4 TYS 3 9 FNS 8 10 12 13 14 15
@[go_sem] theorem go4 : goFunc Try.prog 4 = true := by kernel_rfl
/- Function 5: annalistlaw05.BitmapLowest -/
noncomputable def c5code : Code := match Try.f5.body with | some c => c | none => .skip
noncomputable def c5S0 : Cmd := .ret
noncomputable def c5S1 : Cmd := .ret
noncomputable def c5S2 : Cmd := (.seq (.ops [
 ⟨some 29, .move (.tmp 7), 3, none⟩,
 ⟨some 30, .move (.tmp 9), 3, none⟩,
 ⟨some 31, .binOp .eql 3 (.tmp 29) (.tmp 30) 3, 4, none⟩,
 ⟨some 32, .move (.tmp 31), 4, none⟩,
 ⟨some 33, .move (.tmp 8), 4, (some (32, true))⟩,
 ⟨some 34, .move (.tmp 10), 4, (some (32, true))⟩,
 ⟨some 35, .binOp .eql 4 (.tmp 33) (.tmp 34) 4, 4, (some (32, true))⟩,
 ⟨some 36, .pick (.tmp 32) (.tmp 35) (.const (.bool false)), 4, none⟩,
 ⟨some 37, .move (.tmp 36), 4, none⟩,
 ⟨some 38, .call ⟨.value (.func 12), #[], #[]⟩, 4, (some (37, true))⟩,
 ⟨some 39, .pick (.tmp 37) (.tmp 38) (.const (.bool false)), 4, none⟩,
 ⟨some 6, .assign (.tmp 39), 4, none⟩] [6]) c5S1)
noncomputable def c5S3 : Cmd := (.seq (.ops [
 ⟨some 23, .move (.tmp 0), 9, none⟩,
 ⟨some 24, .move (.tmp 1), 3, none⟩,
 ⟨some 25, .move (.tmp 2), 3, none⟩,
 ⟨some 26, .call ⟨.value (.func 17), #[(.tmp 23), (.tmp 24), (.tmp 25)], #[9, 3, 3]⟩, 30, none⟩,
 ⟨some 22, .move (.tmp 26), 30, none⟩,
 ⟨some 27, .extract (.tmp 22) 0, 3, none⟩,
 ⟨some 28, .extract (.tmp 22) 1, 4, none⟩,
 ⟨some 9, .assign (.tmp 27), 3, none⟩,
 ⟨some 10, .assign (.tmp 28), 4, none⟩] [7, 8, 9, 10]) c5S2)
noncomputable def c5S4 : Cmd := (.seq (.ops [
 ⟨some 16, .move (.tmp 0), 9, none⟩,
 ⟨some 17, .move (.tmp 1), 3, none⟩,
 ⟨some 18, .move (.tmp 2), 3, none⟩,
 ⟨some 19, .call ⟨.value (.func 16), #[(.tmp 16), (.tmp 17), (.tmp 18)], #[9, 3, 3]⟩, 30, none⟩,
 ⟨some 15, .move (.tmp 19), 30, none⟩,
 ⟨some 20, .extract (.tmp 15) 0, 3, none⟩,
 ⟨some 21, .extract (.tmp 15) 1, 4, none⟩,
 ⟨some 7, .assign (.tmp 20), 3, none⟩,
 ⟨some 8, .assign (.tmp 21), 4, none⟩] [0, 1, 2, 7, 8]) c5S3)
noncomputable def c5 : Cmd := (.seq (.ops [
 ⟨some 6, .assign (.const (.bool false)), 4, none⟩] [0, 1, 2])
 (.seq (.seq (.ops [
 ⟨some 11, .move (.tmp 0), 9, none⟩,
 ⟨some 12, .call ⟨.builtin .len, #[(.tmp 11)], #[9]⟩, 3, none⟩,
 ⟨some 13, .binOp .gtr 3 (.tmp 12) (.const (.int .i64 300)) 3, 4, none⟩] [0, 1, 2, 13])
 (.cond (.tmp 13)
  (.seq (.ops [
  ⟨some 14, .call ⟨.value (.func 12), #[], #[]⟩, 4, none⟩,
  ⟨some 6, .assign (.tmp 14), 4, none⟩] [6]) c5S0)
  (.skip [0, 1, 2]))) c5S4))
theorem ent5 (a0 a1 a2 : Value) (w : World) (K : Value → World → Prop) (h : W Try.prog c5 [(0, a0), (1, a1), (2, a2)] w (finQ Try.prog [.tmp 6] K)) : Ret Try.prog 5 [a0, a1, a2] w K :=
  Ret_of_W (code := c5code) Try.func5 (by kernel_rfl) (by kernel_rfl) (of_decide_eq_true (by kernel_rfl)) h
--SIMP 5 c5 c5S0 c5S1 c5S2 c5S3 c5S4 TYS 3 4 9 FNS 12 16 17
@[go_sem] theorem go5 : goFunc Try.prog 5 = true := by kernel_rfl
/- Function 6: annalistlaw05.BitmapOthers -/
noncomputable def c6code : Code := match Try.f6.body with | some c => c | none => .skip
noncomputable def c6S0 : Cmd := .ret
noncomputable def c6S1 : Cmd := .ret
noncomputable def c6S2 : Cmd := (.seq (.ops [
 ⟨some 37, .move (.tmp 9), 9, none⟩,
 ⟨some 38, .move (.tmp 1), 3, none⟩,
 ⟨some 39, .call ⟨.value (.func 10), #[(.tmp 37), (.tmp 38)], #[9, 3]⟩, 4, none⟩,
 ⟨some 40, .move (.tmp 3), 4, none⟩,
 ⟨some 41, .binOp .eql 4 (.tmp 39) (.tmp 40) 4, 4, none⟩,
 ⟨some 42, .move (.tmp 41), 4, none⟩,
 ⟨some 43, .move (.tmp 1), 3, (some (42, true))⟩,
 ⟨some 44, .move (.tmp 2), 3, (some (42, true))⟩,
 ⟨some 45, .binOp .eql 3 (.tmp 43) (.tmp 44) 3, 4, (some (42, true))⟩,
 ⟨some 46, .move (.tmp 45), 4, (some (42, true))⟩,
 ⟨some 47, .move (.tmp 9), 9, (some (46, false))⟩,
 ⟨some 48, .move (.tmp 2), 3, (some (46, false))⟩,
 ⟨some 49, .call ⟨.value (.func 10), #[(.tmp 47), (.tmp 48)], #[9, 3]⟩, 4, (some (46, false))⟩,
 ⟨some 50, .move (.tmp 0), 9, (some (46, false))⟩,
 ⟨some 51, .move (.tmp 2), 3, (some (46, false))⟩,
 ⟨some 52, .call ⟨.value (.func 10), #[(.tmp 50), (.tmp 51)], #[9, 3]⟩, 4, (some (46, false))⟩,
 ⟨some 53, .binOp .eql 4 (.tmp 49) (.tmp 52) 4, 4, (some (46, false))⟩,
 ⟨some 54, .pick (.tmp 46) (.const (.bool true)) (.tmp 53), 4, (some (42, true))⟩,
 ⟨some 55, .pick (.tmp 42) (.tmp 54) (.const (.bool false)), 4, none⟩,
 ⟨some 56, .move (.tmp 55), 4, none⟩,
 ⟨some 57, .move (.tmp 12), 4, (some (56, true))⟩,
 ⟨some 58, .pick (.tmp 56) (.tmp 57) (.const (.bool false)), 4, none⟩,
 ⟨some 59, .move (.tmp 58), 4, none⟩,
 ⟨some 60, .move (.tmp 11), 9, (some (59, true))⟩,
 ⟨some 61, .move (.tmp 0), 9, (some (59, true))⟩,
 ⟨some 62, .binOp .eql 9 (.tmp 60) (.tmp 61) 9, 4, (some (59, true))⟩,
 ⟨some 63, .pick (.tmp 59) (.tmp 62) (.const (.bool false)), 4, none⟩,
 ⟨some 64, .move (.tmp 63), 4, none⟩,
 ⟨some 65, .call ⟨.value (.func 12), #[], #[]⟩, 4, (some (64, true))⟩,
 ⟨some 66, .pick (.tmp 64) (.tmp 65) (.const (.bool false)), 4, none⟩,
 ⟨some 8, .assign (.tmp 66), 4, none⟩] [8]) c6S1)
noncomputable def c6S3 : Cmd := (.seq (.ops [
 ⟨some 29, .move (.tmp 9), 9, none⟩,
 ⟨some 30, .move (.tmp 1), 3, none⟩,
 ⟨some 31, .move (.tmp 0), 9, none⟩,
 ⟨some 32, .move (.tmp 1), 3, none⟩,
 ⟨some 33, .call ⟨.value (.func 10), #[(.tmp 31), (.tmp 32)], #[9, 3]⟩, 4, none⟩,
 ⟨some 34, .call ⟨.value (.func 8), #[(.tmp 29), (.tmp 30), (.tmp 33)], #[9, 3, 4]⟩, 22, none⟩,
 ⟨some 28, .move (.tmp 34), 22, none⟩,
 ⟨some 35, .extract (.tmp 28) 0, 9, none⟩,
 ⟨some 36, .extract (.tmp 28) 1, 4, none⟩,
 ⟨some 11, .assign (.tmp 35), 9, none⟩,
 ⟨some 12, .assign (.tmp 36), 4, none⟩] [0, 1, 2, 3, 9, 11, 12]) c6S2)
noncomputable def c6S4 : Cmd := (.seq (.seq (.ops [
 ⟨some 20, .move (.tmp 10), 4, none⟩,
 ⟨some 21, .unOp .not 4 (.tmp 20), 4, none⟩] [0, 1, 2, 3, 9, 21])
 (.cond (.tmp 21)
  (.seq (.ops [
  ⟨some 22, .move (.tmp 9), 9, none⟩,
  ⟨some 23, .move (.tmp 0), 9, none⟩,
  ⟨some 24, .binOp .eql 9 (.tmp 22) (.tmp 23) 9, 4, none⟩,
  ⟨some 25, .move (.tmp 24), 4, none⟩,
  ⟨some 26, .call ⟨.value (.func 12), #[], #[]⟩, 4, (some (25, true))⟩,
  ⟨some 27, .pick (.tmp 25) (.tmp 26) (.const (.bool false)), 4, none⟩,
  ⟨some 8, .assign (.tmp 27), 4, none⟩] [8]) c6S0)
  (.skip [0, 1, 2, 3, 9]))) c6S3)
noncomputable def c6 : Cmd := (.seq (.ops [
 ⟨some 8, .assign (.const (.bool false)), 4, none⟩] [0, 1, 2, 3])
 (.seq (.ops [
 ⟨some 14, .move (.tmp 0), 9, none⟩,
 ⟨some 15, .move (.tmp 1), 3, none⟩,
 ⟨some 16, .move (.tmp 3), 4, none⟩,
 ⟨some 17, .call ⟨.value (.func 8), #[(.tmp 14), (.tmp 15), (.tmp 16)], #[9, 3, 4]⟩, 22, none⟩,
 ⟨some 13, .move (.tmp 17), 22, none⟩,
 ⟨some 18, .extract (.tmp 13) 0, 9, none⟩,
 ⟨some 19, .extract (.tmp 13) 1, 4, none⟩,
 ⟨some 9, .assign (.tmp 18), 9, none⟩,
 ⟨some 10, .assign (.tmp 19), 4, none⟩] [0, 1, 2, 3, 9, 10]) c6S4))
theorem ent6 (a0 a1 a2 a3 : Value) (w : World) (K : Value → World → Prop) (h : W Try.prog c6 [(0, a0), (1, a1), (2, a2), (3, a3)] w (finQ Try.prog [.tmp 8] K)) : Ret Try.prog 6 [a0, a1, a2, a3] w K :=
  Ret_of_W (code := c6code) Try.func6 (by kernel_rfl) (by kernel_rfl) (of_decide_eq_true (by kernel_rfl)) h
--SIMP 6 c6 c6S0 c6S1 c6S2 c6S3 c6S4 TYS 3 4 9 FNS 8 10 12
@[go_sem] theorem go6 : goFunc Try.prog 6 = true := by kernel_rfl
/- Function 7: annalistlaw05.BitmapEach -/
noncomputable def c7code : Code := match Try.f7.body with | some c => c | none => .skip
noncomputable def c7S0 : Cmd := .ret
noncomputable def c7S1 : Cmd := (.cond (.tmp 23)
  (.seq (.ops [
  ⟨some 4, .assign (.const (.bool false)), 4, none⟩] [4])
  .ret)
  (.skip [0, 1, 5]))
noncomputable def c7S2 : Cmd := .ret
noncomputable def c7S3 : Cmd := .ret
noncomputable def c7S4 : Cmd := (.seq (.ops [
 ⟨some 42, .call ⟨.value (.func 12), #[], #[]⟩, 4, none⟩,
 ⟨some 4, .assign (.tmp 42), 4, none⟩] [4]) c7S3)
noncomputable def c7S5 : Cmd := (.seq (.seq (.ops [
 ⟨some 24, .move (.tmp 1), 3, none⟩,
 ⟨some 25, .binOp .geq 3 (.tmp 24) (.const (.int .i64 0)) 3, 4, none⟩,
 ⟨some 26, .move (.tmp 25), 4, none⟩,
 ⟨some 27, .move (.tmp 1), 3, (some (26, true))⟩,
 ⟨some 28, .move (.tmp 5), 34, (some (26, true))⟩,
 ⟨some 29, .call ⟨.builtin .len, #[(.tmp 28)], #[34]⟩, 3, (some (26, true))⟩,
 ⟨some 30, .binOp .lss 3 (.tmp 27) (.tmp 29) 3, 4, (some (26, true))⟩,
 ⟨some 31, .pick (.tmp 26) (.tmp 30) (.const (.bool false)), 4, none⟩] [0, 1, 5, 31])
 (.cond (.tmp 31)
  (.seq (.draw (drawOps 0 c7code) [4]) c7S2)
  (.skip []))) c7S4)
noncomputable def c7S6 : Cmd := (.seq (.seq (.ops [
 ⟨some 12, .move (.tmp 0), 9, none⟩,
 ⟨some 13, .call ⟨.value (.func 15), #[(.tmp 12)], #[9]⟩, 3, none⟩,
 ⟨some 14, .move (.tmp 5), 34, none⟩,
 ⟨some 15, .call ⟨.builtin .len, #[(.tmp 14)], #[34]⟩, 3, none⟩,
 ⟨some 16, .binOp .neq 3 (.tmp 13) (.tmp 15) 3, 4, none⟩,
 ⟨some 17, .move (.tmp 16), 4, none⟩,
 ⟨some 18, .move (.tmp 0), 9, (some (17, false))⟩,
 ⟨some 19, .call ⟨.value (.func 20), #[(.tmp 18), (.const (.int .i64 10000))], #[9, 3]⟩, 34, (some (17, false))⟩,
 ⟨some 20, .move (.tmp 5), 34, (some (17, false))⟩,
 ⟨some 21, .call ⟨.value (.func 19), #[(.tmp 19), (.tmp 20)], #[34, 34]⟩, 4, (some (17, false))⟩,
 ⟨some 22, .unOp .not 4 (.tmp 21), 4, (some (17, false))⟩,
 ⟨some 23, .pick (.tmp 17) (.const (.bool true)) (.tmp 22), 4, none⟩] [0, 1, 5, 23]) c7S1) c7S5)
noncomputable def c7S7 : Cmd := (.seq (.ops [
 ⟨some 10, .move (.tmp 0), 9, none⟩,
 ⟨some 11, .call ⟨.value (.func 18), #[(.tmp 10)], #[9]⟩, 34, none⟩,
 ⟨some 5, .assign (.tmp 11), 34, none⟩] [0, 1, 5]) c7S6)
noncomputable def c7 : Cmd := (.seq (.ops [
 ⟨some 4, .assign (.const (.bool false)), 4, none⟩] [0, 1])
 (.seq (.seq (.ops [
 ⟨some 6, .move (.tmp 0), 9, none⟩,
 ⟨some 7, .call ⟨.builtin .len, #[(.tmp 6)], #[9]⟩, 3, none⟩,
 ⟨some 8, .binOp .gtr 3 (.tmp 7) (.const (.int .i64 1000)) 3, 4, none⟩] [0, 1, 8])
 (.cond (.tmp 8)
  (.seq (.ops [
  ⟨some 9, .call ⟨.value (.func 12), #[], #[]⟩, 4, none⟩,
  ⟨some 4, .assign (.tmp 9), 4, none⟩] [4]) c7S0)
  (.skip [0, 1]))) c7S7))
noncomputable def c7D0 : List (Bool × Ins) := [
 (true, ⟨some 32, .move (.tmp 0), 9, none⟩),
 (true, ⟨some 33, .move (.tmp 1), 3, none⟩),
 (true, ⟨some 35, .move (.tmp 5), 34, none⟩),
 (true, ⟨some 36, .move (.tmp 1), 3, none⟩),
 (true, ⟨some 37, .slice 34 (.tmp 35) none (some (.tmp 36)) none, 34, none⟩),
 (false, ⟨some 34, .call ⟨.value (.func 20), #[(.tmp 32), (.tmp 33)], #[9, 3]⟩, 34, none⟩),
 (false, ⟨some 38, .call ⟨.value (.func 19), #[(.tmp 34), (.tmp 37)], #[34, 34]⟩, 4, none⟩),
 (true, ⟨some 39, .move (.tmp 38), 4, none⟩),
 (false, ⟨some 40, .call ⟨.value (.func 12), #[], #[]⟩, 4, (some (39, true))⟩),
 (true, ⟨some 41, .pick (.tmp 39) (.tmp 40) (.const (.bool false)), 4, none⟩),
 (true, ⟨some 4, .assign (.tmp 41), 4, none⟩)]
theorem c7draw0 {L : List Nat} {ρ : Env} {w : World} {Q : Post} (h : DL Try.prog c7D0 L ρ w.drew Q) : drawW Try.prog (drawOps 0 c7code) L ρ w Q :=
  drawW_by [(true, 0), (true, 1), (true, 3), (true, 4), (true, 5), (false, 2), (false, 6), (true, 7), (false, 8), (true, 9), (true, 10)] c7D0 (by kernel_rfl) (by kernel_rfl) (by kernel_rfl) h
theorem ent7 (a0 a1 : Value) (w : World) (K : Value → World → Prop) (h : W Try.prog c7 [(0, a0), (1, a1)] w (finQ Try.prog [.tmp 4] K)) : Ret Try.prog 7 [a0, a1] w K :=
  Ret_of_W (code := c7code) Try.func7 (by kernel_rfl) (by kernel_rfl) (of_decide_eq_true (by kernel_rfl)) h
--SIMP 7 c7 c7S0 c7S1 c7S2 c7S3 c7S4 c7S5 c7S6 c7S7 TYS 3 9 34 FNS 12 15 18 19 20
@[go_sem] theorem go7 : goFunc Try.prog 7 = true := by kernel_rfl
/- Function 8: bitmap.With -/
noncomputable def c8code : Code := match Try.f8.body with | some c => c | none => .skip
noncomputable def c8S0 : Cmd := (.seq (.ops [
 ⟨some 44, .move (.tmp 8), 38, none⟩,
 ⟨some 45, .convert 38 9 (.tmp 44), 9, none⟩,
 ⟨some 6, .assign (.tmp 45), 9, none⟩,
 ⟨some 7, .assign (.const (.bool true)), 4, none⟩] [6, 7])
 .ret)
noncomputable def c8S1 : Cmd := (.seq (.ops [
 ⟨some 19, .move (.tmp 0), 9, none⟩,
 ⟨some 20, .convert 9 38 (.tmp 19), 38, none⟩,
 ⟨some 8, .assign (.tmp 20), 38, none⟩] [1, 2, 8])
 (.seq (.seq (.ops [
 ⟨some 21, .move (.tmp 2), 4, none⟩] [1, 8, 21])
 (.cond (.tmp 21)
  (.ops [
  ⟨some 22, .move (.tmp 8), 38, none⟩,
  ⟨some 23, .move (.tmp 1), 3, none⟩,
  ⟨some 24, .binOp .quo 3 (.tmp 23) (.const (.int .i64 8)) 3, 3, none⟩,
  ⟨some 25, .indexAddr 38 (.tmp 22) (.tmp 24), 0, none⟩,
  ⟨some 26, .load 5 (.tmp 25), 5, none⟩,
  ⟨some 27, .move (.tmp 1), 3, none⟩,
  ⟨some 28, .binOp .rem 3 (.tmp 27) (.const (.int .i64 8)) 3, 3, none⟩,
  ⟨some 29, .convert 3 39 (.tmp 28), 39, none⟩,
  ⟨some 30, .binOp .shl 5 (.const (.int .u8 1)) (.tmp 29) 39, 5, none⟩,
  ⟨some 31, .binOp .or 5 (.tmp 26) (.tmp 30) 5, 5, none⟩,
  ⟨some 32, .indexAddr 38 (.tmp 22) (.tmp 24), 0, none⟩,
  ⟨none, .store 5 (.tmp 32) (.tmp 31), 0, none⟩] [8])
  (.ops [
  ⟨some 33, .move (.tmp 8), 38, none⟩,
  ⟨some 34, .move (.tmp 1), 3, none⟩,
  ⟨some 35, .binOp .quo 3 (.tmp 34) (.const (.int .i64 8)) 3, 3, none⟩,
  ⟨some 36, .indexAddr 38 (.tmp 33) (.tmp 35), 0, none⟩,
  ⟨some 37, .load 5 (.tmp 36), 5, none⟩,
  ⟨some 38, .move (.tmp 1), 3, none⟩,
  ⟨some 39, .binOp .rem 3 (.tmp 38) (.const (.int .i64 8)) 3, 3, none⟩,
  ⟨some 40, .convert 3 39 (.tmp 39), 39, none⟩,
  ⟨some 41, .binOp .shl 5 (.const (.int .u8 1)) (.tmp 40) 39, 5, none⟩,
  ⟨some 42, .binOp .andNot 5 (.tmp 37) (.tmp 41) 5, 5, none⟩,
  ⟨some 43, .indexAddr 38 (.tmp 33) (.tmp 35), 0, none⟩,
  ⟨none, .store 5 (.tmp 43) (.tmp 42), 0, none⟩] [8]))) c8S0))
noncomputable def c8 : Cmd := (.seq (.ops [
 ⟨some 6, .assign (.const (.string (ofL []))), 9, none⟩,
 ⟨some 7, .assign (.const (.bool false)), 4, none⟩] [0, 1, 2])
 (.seq (.seq (.ops [
 ⟨some 9, .move (.tmp 1), 3, none⟩,
 ⟨some 10, .binOp .lss 3 (.tmp 9) (.const (.int .i64 0)) 3, 4, none⟩,
 ⟨some 11, .move (.tmp 10), 4, none⟩,
 ⟨some 12, .move (.tmp 1), 3, (some (11, false))⟩,
 ⟨some 13, .binOp .quo 3 (.tmp 12) (.const (.int .i64 8)) 3, 3, (some (11, false))⟩,
 ⟨some 14, .move (.tmp 0), 9, (some (11, false))⟩,
 ⟨some 15, .call ⟨.builtin .len, #[(.tmp 14)], #[9]⟩, 3, (some (11, false))⟩,
 ⟨some 16, .binOp .geq 3 (.tmp 13) (.tmp 15) 3, 4, (some (11, false))⟩,
 ⟨some 17, .pick (.tmp 11) (.const (.bool true)) (.tmp 16), 4, none⟩] [0, 1, 2, 17])
 (.cond (.tmp 17)
  (.seq (.ops [
  ⟨some 18, .move (.tmp 0), 9, none⟩,
  ⟨some 6, .assign (.tmp 18), 9, none⟩,
  ⟨some 7, .assign (.const (.bool false)), 4, none⟩] [6, 7])
  .ret)
  (.skip [0, 1, 2]))) c8S1))
theorem ent8 (a0 a1 a2 : Value) (w : World) (K : Value → World → Prop) (h : W Try.prog c8 [(0, a0), (1, a1), (2, a2)] w (finQ Try.prog [.tmp 6, .tmp 7] K)) : Ret Try.prog 8 [a0, a1, a2] w K :=
  Ret_of_W (code := c8code) Try.func8 (by kernel_rfl) (by kernel_rfl) (of_decide_eq_true (by kernel_rfl)) h
--SIMP 8 c8 c8S0 c8S1 TYS 3 5 9 38 39 FNS 
@[go_sem] theorem go8 : goFunc Try.prog 8 = true := by kernel_rfl
/- Function 9: annalistref05.With -/
noncomputable def c9code : Code := match Try.f9.body with | some c => c | none => .skip
noncomputable def c9S0 : Cmd := (.seq (.block 1 (.ops [
 ⟨some 27, .move (.tmp 8), 5, none⟩,
 ⟨some 28, .binOp .mul 5 (.tmp 27) (.const (.int .u8 2)) 5, 5, none⟩,
 ⟨some 8, .assign (.tmp 28), 5, none⟩] [0, 1, 2, 8, 9]))
 (.ops [
 ⟨some 25, .move (.tmp 9), 3, none⟩,
 ⟨some 26, .binOp .add 3 (.tmp 25) (.const (.int .i64 1)) 3, 3, none⟩,
 ⟨some 9, .assign (.tmp 26), 3, none⟩] [0, 1, 2, 8, 9]))
noncomputable def c9L0 : Cmd := (.seq (.seq (.ops [
 ⟨some 21, .move (.tmp 9), 3, none⟩,
 ⟨some 22, .move (.tmp 1), 3, none⟩,
 ⟨some 23, .binOp .rem 3 (.tmp 22) (.const (.int .i64 8)) 3, 3, none⟩,
 ⟨some 24, .binOp .lss 3 (.tmp 21) (.tmp 23) 3, 4, none⟩] [0, 1, 2, 8, 9, 24])
 (.cond (.tmp 24)
  (.skip [0, 1, 2, 8, 9])
  (.exit 0 [0, 1, 2, 8]))) c9S0)
noncomputable def c9S1 : Cmd := (.cond (.tmp 49)
   (.ops [
   ⟨some 50, .move (.tmp 10), 5, none⟩,
   ⟨some 51, .move (.tmp 8), 5, none⟩,
   ⟨some 52, .binOp .add 5 (.tmp 50) (.tmp 51) 5, 5, none⟩,
   ⟨some 10, .assign (.tmp 52), 5, none⟩] [0, 1, 10])
   (.skip [0, 1, 10]))
noncomputable def c9S2 : Cmd := (.cond (.tmp 39)
  (.ops [
  ⟨some 40, .move (.tmp 10), 5, none⟩,
  ⟨some 41, .move (.tmp 8), 5, none⟩,
  ⟨some 42, .binOp .sub 5 (.tmp 40) (.tmp 41) 5, 5, none⟩,
  ⟨some 10, .assign (.tmp 42), 5, none⟩] [0, 1, 10])
  (.seq (.ops [
  ⟨some 43, .move (.tmp 0), 9, none⟩,
  ⟨some 44, .move (.tmp 1), 3, none⟩,
  ⟨some 45, .call ⟨.value (.func 11), #[(.tmp 43), (.tmp 44)], #[9, 3]⟩, 4, none⟩,
  ⟨some 46, .unOp .not 4 (.tmp 45), 4, none⟩,
  ⟨some 47, .move (.tmp 46), 4, none⟩,
  ⟨some 48, .move (.tmp 2), 4, (some (47, true))⟩,
  ⟨some 49, .pick (.tmp 47) (.tmp 48) (.const (.bool false)), 4, none⟩] [0, 1, 8, 10, 49]) c9S1))
noncomputable def c9S3 : Cmd := .ret
noncomputable def c9S4 : Cmd := (.seq (.draw (drawOps 0 c9code) [6, 7]) c9S3)
noncomputable def c9S5 : Cmd := (.seq (.ops [
 ⟨some 29, .move (.tmp 0), 9, none⟩,
 ⟨some 30, .move (.tmp 1), 3, none⟩,
 ⟨some 31, .binOp .quo 3 (.tmp 30) (.const (.int .i64 8)) 3, 3, none⟩,
 ⟨some 32, .index 9 (.tmp 29) (.tmp 31), 5, none⟩,
 ⟨some 10, .assign (.tmp 32), 5, none⟩] [0, 1, 2, 8, 10])
 (.seq (.seq (.ops [
 ⟨some 33, .move (.tmp 0), 9, none⟩,
 ⟨some 34, .move (.tmp 1), 3, none⟩,
 ⟨some 35, .call ⟨.value (.func 11), #[(.tmp 33), (.tmp 34)], #[9, 3]⟩, 4, none⟩,
 ⟨some 36, .move (.tmp 35), 4, none⟩,
 ⟨some 37, .move (.tmp 2), 4, (some (36, true))⟩,
 ⟨some 38, .unOp .not 4 (.tmp 37), 4, (some (36, true))⟩,
 ⟨some 39, .pick (.tmp 36) (.tmp 38) (.const (.bool false)), 4, none⟩] [0, 1, 2, 8, 10, 39]) c9S2) c9S4))
noncomputable def c9S6 : Cmd := (.seq (.ops [
 ⟨some 8, .assign (.const (.int .u8 1)), 5, none⟩] [0, 1, 2, 8])
 (.seq (.seq (.ops [
 ⟨some 9, .assign (.const (.int .i64 0)), 3, none⟩] [0, 1, 2, 8, 9])
 (.block 0 (.loop c9L0))) c9S5))
noncomputable def c9 : Cmd := (.seq (.ops [
 ⟨some 6, .assign (.const (.string (ofL []))), 9, none⟩,
 ⟨some 7, .assign (.const (.bool false)), 4, none⟩] [0, 1, 2])
 (.seq (.seq (.ops [
 ⟨some 11, .move (.tmp 1), 3, none⟩,
 ⟨some 12, .binOp .lss 3 (.tmp 11) (.const (.int .i64 0)) 3, 4, none⟩,
 ⟨some 13, .move (.tmp 12), 4, none⟩,
 ⟨some 14, .move (.tmp 1), 3, (some (13, false))⟩,
 ⟨some 15, .binOp .quo 3 (.tmp 14) (.const (.int .i64 8)) 3, 3, (some (13, false))⟩,
 ⟨some 16, .move (.tmp 0), 9, (some (13, false))⟩,
 ⟨some 17, .call ⟨.builtin .len, #[(.tmp 16)], #[9]⟩, 3, (some (13, false))⟩,
 ⟨some 18, .binOp .geq 3 (.tmp 15) (.tmp 17) 3, 4, (some (13, false))⟩,
 ⟨some 19, .pick (.tmp 13) (.const (.bool true)) (.tmp 18), 4, none⟩] [0, 1, 2, 19])
 (.cond (.tmp 19)
  (.seq (.ops [
  ⟨some 20, .move (.tmp 0), 9, none⟩,
  ⟨some 6, .assign (.tmp 20), 9, none⟩,
  ⟨some 7, .assign (.const (.bool false)), 4, none⟩] [6, 7])
  .ret)
  (.skip [0, 1, 2]))) c9S6))
noncomputable def c9D0 : List (Bool × Ins) := [
 (true, ⟨some 53, .move (.tmp 0), 9, none⟩),
 (true, ⟨some 54, .move (.tmp 1), 3, none⟩),
 (true, ⟨some 55, .binOp .quo 3 (.tmp 54) (.const (.int .i64 8)) 3, 3, none⟩),
 (true, ⟨some 56, .slice 9 (.tmp 53) none (some (.tmp 55)) none, 9, none⟩),
 (true, ⟨some 57, .move (.tmp 10), 5, none⟩),
 (true, ⟨some 61, .move (.tmp 0), 9, none⟩),
 (true, ⟨some 62, .move (.tmp 1), 3, none⟩),
 (true, ⟨some 63, .binOp .quo 3 (.tmp 62) (.const (.int .i64 8)) 3, 3, none⟩),
 (true, ⟨some 64, .binOp .add 3 (.tmp 63) (.const (.int .i64 1)) 3, 3, none⟩),
 (true, ⟨some 65, .slice 9 (.tmp 61) (some (.tmp 64)) none none, 9, none⟩),
 (false, ⟨some 58, .buildSlice 38 1 #[(0, (.tmp 57))], 38, none⟩),
 (false, ⟨some 59, .convert 38 9 (.tmp 58), 9, none⟩),
 (true, ⟨some 60, .binOp .add 9 (.tmp 56) (.tmp 59) 9, 9, none⟩),
 (true, ⟨some 66, .binOp .add 9 (.tmp 60) (.tmp 65) 9, 9, none⟩),
 (true, ⟨some 6, .assign (.tmp 66), 9, none⟩),
 (true, ⟨some 7, .assign (.const (.bool true)), 4, none⟩)]
theorem c9draw0 {L : List Nat} {ρ : Env} {w : World} {Q : Post} (h : DL Try.prog c9D0 L ρ w.drew Q) : drawW Try.prog (drawOps 0 c9code) L ρ w Q :=
  drawW_by [(true, 0), (true, 1), (true, 2), (true, 3), (true, 4), (true, 8), (true, 9), (true, 10), (true, 11), (true, 12), (false, 5), (false, 6), (true, 7), (true, 13), (true, 14), (true, 15)] c9D0 (by kernel_rfl) (by kernel_rfl) (by kernel_rfl) h
theorem ent9 (a0 a1 a2 : Value) (w : World) (K : Value → World → Prop) (h : W Try.prog c9 [(0, a0), (1, a1), (2, a2)] w (finQ Try.prog [.tmp 6, .tmp 7] K)) : Ret Try.prog 9 [a0, a1, a2] w K :=
  Ret_of_W (code := c9code) Try.func9 (by kernel_rfl) (by kernel_rfl) (of_decide_eq_true (by kernel_rfl)) h
--SIMP 9 c9 c9S0 c9S1 c9S2 c9S3 c9S4 c9S5 c9S6 TYS 3 5 9 38 FNS 11
@[go_sem] theorem go9 : goFunc Try.prog 9 = true := by kernel_rfl
/- Function 10: bitmap.Has -/
noncomputable def c10code : Code := match Try.f10.body with | some c => c | none => .skip
noncomputable def c10 : Cmd := (.seq (.ops [
 ⟨some 4, .assign (.const (.bool false)), 4, none⟩] [0, 1])
 (.seq (.ops [
 ⟨some 5, .move (.tmp 1), 3, none⟩,
 ⟨some 6, .binOp .geq 3 (.tmp 5) (.const (.int .i64 0)) 3, 4, none⟩,
 ⟨some 7, .move (.tmp 6), 4, none⟩,
 ⟨some 8, .move (.tmp 1), 3, (some (7, true))⟩,
 ⟨some 9, .binOp .quo 3 (.tmp 8) (.const (.int .i64 8)) 3, 3, (some (7, true))⟩,
 ⟨some 10, .move (.tmp 0), 9, (some (7, true))⟩,
 ⟨some 11, .call ⟨.builtin .len, #[(.tmp 10)], #[9]⟩, 3, (some (7, true))⟩,
 ⟨some 12, .binOp .lss 3 (.tmp 9) (.tmp 11) 3, 4, (some (7, true))⟩,
 ⟨some 13, .pick (.tmp 7) (.tmp 12) (.const (.bool false)), 4, none⟩,
 ⟨some 14, .move (.tmp 13), 4, none⟩,
 ⟨some 15, .move (.tmp 0), 9, (some (14, true))⟩,
 ⟨some 16, .move (.tmp 1), 3, (some (14, true))⟩,
 ⟨some 17, .binOp .quo 3 (.tmp 16) (.const (.int .i64 8)) 3, 3, (some (14, true))⟩,
 ⟨some 18, .index 9 (.tmp 15) (.tmp 17), 5, (some (14, true))⟩,
 ⟨some 19, .move (.tmp 1), 3, (some (14, true))⟩,
 ⟨some 20, .binOp .rem 3 (.tmp 19) (.const (.int .i64 8)) 3, 3, (some (14, true))⟩,
 ⟨some 21, .convert 3 39 (.tmp 20), 39, (some (14, true))⟩,
 ⟨some 22, .binOp .shr 5 (.tmp 18) (.tmp 21) 39, 5, (some (14, true))⟩,
 ⟨some 23, .binOp .and 5 (.tmp 22) (.const (.int .u8 1)) 5, 5, (some (14, true))⟩,
 ⟨some 24, .binOp .eql 5 (.tmp 23) (.const (.int .u8 1)) 5, 4, (some (14, true))⟩,
 ⟨some 25, .pick (.tmp 14) (.tmp 24) (.const (.bool false)), 4, none⟩,
 ⟨some 4, .assign (.tmp 25), 4, none⟩] [4])
 .ret))
theorem ent10 (a0 a1 : Value) (w : World) (K : Value → World → Prop) (h : W Try.prog c10 [(0, a0), (1, a1)] w (finQ Try.prog [.tmp 4] K)) : Ret Try.prog 10 [a0, a1] w K :=
  Ret_of_W (code := c10code) Try.func10 (by kernel_rfl) (by kernel_rfl) (of_decide_eq_true (by kernel_rfl)) h
--SIMP 10 c10 TYS 3 5 9 39 FNS 
@[go_sem] theorem go10 : goFunc Try.prog 10 = true := by kernel_rfl
/- Function 11: annalistref05.Has -/
noncomputable def c11code : Code := match Try.f11.body with | some c => c | none => .skip
noncomputable def c11S0 : Cmd := .ret
noncomputable def c11S1 : Cmd := (.seq (.ops [
 ⟨some 14, .move (.tmp 0), 9, none⟩,
 ⟨some 15, .move (.tmp 1), 3, none⟩,
 ⟨some 16, .binOp .quo 3 (.tmp 15) (.const (.int .i64 8)) 3, 3, none⟩,
 ⟨some 17, .index 9 (.tmp 14) (.tmp 16), 5, none⟩,
 ⟨some 18, .move (.tmp 1), 3, none⟩,
 ⟨some 19, .binOp .rem 3 (.tmp 18) (.const (.int .i64 8)) 3, 3, none⟩,
 ⟨some 20, .call ⟨.value (.func 21), #[(.tmp 17), (.tmp 19)], #[5, 3]⟩, 4, none⟩,
 ⟨some 4, .assign (.tmp 20), 4, none⟩] [4]) c11S0)
noncomputable def c11 : Cmd := (.seq (.ops [
 ⟨some 4, .assign (.const (.bool false)), 4, none⟩] [0, 1])
 (.seq (.seq (.ops [
 ⟨some 5, .move (.tmp 1), 3, none⟩,
 ⟨some 6, .binOp .lss 3 (.tmp 5) (.const (.int .i64 0)) 3, 4, none⟩,
 ⟨some 7, .move (.tmp 6), 4, none⟩,
 ⟨some 8, .move (.tmp 1), 3, (some (7, false))⟩,
 ⟨some 9, .binOp .quo 3 (.tmp 8) (.const (.int .i64 8)) 3, 3, (some (7, false))⟩,
 ⟨some 10, .move (.tmp 0), 9, (some (7, false))⟩,
 ⟨some 11, .call ⟨.builtin .len, #[(.tmp 10)], #[9]⟩, 3, (some (7, false))⟩,
 ⟨some 12, .binOp .geq 3 (.tmp 9) (.tmp 11) 3, 4, (some (7, false))⟩,
 ⟨some 13, .pick (.tmp 7) (.const (.bool true)) (.tmp 12), 4, none⟩] [0, 1, 13])
 (.cond (.tmp 13)
  (.seq (.ops [
  ⟨some 4, .assign (.const (.bool false)), 4, none⟩] [4])
  .ret)
  (.skip [0, 1]))) c11S1))
theorem ent11 (a0 a1 : Value) (w : World) (K : Value → World → Prop) (h : W Try.prog c11 [(0, a0), (1, a1)] w (finQ Try.prog [.tmp 4] K)) : Ret Try.prog 11 [a0, a1] w K :=
  Ret_of_W (code := c11code) Try.func11 (by kernel_rfl) (by kernel_rfl) (of_decide_eq_true (by kernel_rfl)) h
--SIMP 11 c11 c11S0 c11S1 TYS 3 9 FNS 21
@[go_sem] theorem go11 : goFunc Try.prog 11 = true := by kernel_rfl
/- Function 12: annalistlaw05.awake -/
noncomputable def c12code : Code := match Try.f12.body with | some c => c | none => .skip
noncomputable def c12S0 : Cmd := .ret
noncomputable def c12S1 : Cmd := (.seq (.ops [
 ⟨some 15, .call ⟨.value (.func 13), #[(.const (.int .i64 9))], #[3]⟩, 9, none⟩,
 ⟨some 16, .call ⟨.builtin .len, #[(.tmp 15)], #[9]⟩, 3, none⟩,
 ⟨some 17, .binOp .eql 3 (.tmp 16) (.const (.int .i64 2)) 3, 4, none⟩,
 ⟨some 18, .move (.tmp 17), 4, none⟩,
 ⟨some 19, .move (.tmp 2), 4, (some (18, true))⟩,
 ⟨some 20, .pick (.tmp 18) (.tmp 19) (.const (.bool false)), 4, none⟩,
 ⟨some 21, .move (.tmp 20), 4, none⟩,
 ⟨some 22, .move (.tmp 1), 9, (some (21, true))⟩,
 ⟨some 23, .binOp .eql 9 (.tmp 22) (.const (.string (ofL [8, 0]))) 9, 4, (some (21, true))⟩,
 ⟨some 24, .pick (.tmp 21) (.tmp 23) (.const (.bool false)), 4, none⟩,
 ⟨some 25, .move (.tmp 24), 4, none⟩,
 ⟨some 26, .move (.tmp 4), 4, (some (25, true))⟩,
 ⟨some 27, .pick (.tmp 25) (.tmp 26) (.const (.bool false)), 4, none⟩,
 ⟨some 28, .move (.tmp 27), 4, none⟩,
 ⟨some 29, .move (.tmp 3), 3, (some (28, true))⟩,
 ⟨some 30, .binOp .eql 3 (.tmp 29) (.const (.int .i64 4)) 3, 4, (some (28, true))⟩,
 ⟨some 31, .pick (.tmp 28) (.tmp 30) (.const (.bool false)), 4, none⟩,
 ⟨some 32, .move (.tmp 31), 4, none⟩,
 ⟨some 33, .move (.tmp 1), 9, (some (32, true))⟩,
 ⟨some 34, .call ⟨.value (.func 15), #[(.tmp 33)], #[9]⟩, 3, (some (32, true))⟩,
 ⟨some 35, .binOp .eql 3 (.tmp 34) (.const (.int .i64 1)) 3, 4, (some (32, true))⟩,
 ⟨some 36, .pick (.tmp 32) (.tmp 35) (.const (.bool false)), 4, none⟩,
 ⟨some 0, .assign (.tmp 36), 4, none⟩] [0]) c12S0)
noncomputable def c12S2 : Cmd := (.seq (.ops [
 ⟨some 11, .move (.tmp 1), 9, none⟩,
 ⟨some 12, .call ⟨.value (.func 16), #[(.tmp 11), (.const (.int .i64 3)), (.const (.int .i64 9))], #[9, 3, 3]⟩, 30, none⟩,
 ⟨some 10, .move (.tmp 12), 30, none⟩,
 ⟨some 13, .extract (.tmp 10) 0, 3, none⟩,
 ⟨some 14, .extract (.tmp 10) 1, 4, none⟩,
 ⟨some 3, .assign (.tmp 13), 3, none⟩,
 ⟨some 4, .assign (.tmp 14), 4, none⟩] [1, 2, 3, 4]) c12S1)
noncomputable def c12 : Cmd := (.seq (.ops [
 ⟨some 0, .assign (.const (.bool false)), 4, none⟩] [])
 (.seq (.ops [
 ⟨some 6, .call ⟨.value (.func 13), #[(.const (.int .i64 9))], #[3]⟩, 9, none⟩,
 ⟨some 7, .call ⟨.value (.func 8), #[(.tmp 6), (.const (.int .i64 3)), (.const (.bool true))], #[9, 3, 4]⟩, 22, none⟩,
 ⟨some 5, .move (.tmp 7), 22, none⟩,
 ⟨some 8, .extract (.tmp 5) 0, 9, none⟩,
 ⟨some 9, .extract (.tmp 5) 1, 4, none⟩,
 ⟨some 1, .assign (.tmp 8), 9, none⟩,
 ⟨some 2, .assign (.tmp 9), 4, none⟩] [1, 2]) c12S2))
theorem ent12 (w : World) (K : Value → World → Prop) (h : W Try.prog c12 [] w (finQ Try.prog [.tmp 0] K)) : Ret Try.prog 12 [] w K :=
  Ret_of_W (code := c12code) Try.func12 (by kernel_rfl) (by kernel_rfl) (of_decide_eq_true (by kernel_rfl)) h
--SIMP 12 c12 c12S0 c12S1 c12S2 TYS 3 9 FNS 8 13 15 16
@[go_sem] theorem go12 : goFunc Try.prog 12 = true := by kernel_rfl
/- Function 13: bitmap.Empty -/
noncomputable def c13code : Code := match Try.f13.body with | some c => c | none => .skip
noncomputable def c13S0 : Cmd := .ret
noncomputable def c13 : Cmd := (.seq (.ops [
 ⟨some 2, .assign (.const (.string (ofL []))), 9, none⟩] [0])
 (.seq (.ops [
 ⟨some 3, .move (.tmp 0), 3, none⟩,
 ⟨some 4, .binOp .quo 3 (.tmp 3) (.const (.int .i64 8)) 3, 3, none⟩,
 ⟨some 5, .move (.tmp 0), 3, none⟩,
 ⟨some 6, .binOp .rem 3 (.tmp 5) (.const (.int .i64 8)) 3, 3, none⟩,
 ⟨some 7, .call ⟨.builtin .max, #[(.const (.int .i64 0)), (.tmp 6)], #[3, 3]⟩, 3, none⟩,
 ⟨some 8, .call ⟨.builtin .min, #[(.const (.int .i64 1)), (.tmp 7)], #[3, 3]⟩, 3, none⟩,
 ⟨some 9, .binOp .add 3 (.tmp 4) (.tmp 8) 3, 3, none⟩,
 ⟨some 10, .call ⟨.builtin .max, #[(.const (.int .i64 0)), (.tmp 9)], #[3, 3]⟩, 3, none⟩,
 ⟨some 11, .makeSlice 38 (.tmp 10) (.tmp 10), 38, none⟩,
 ⟨some 12, .convert 38 9 (.tmp 11), 9, none⟩,
 ⟨some 2, .assign (.tmp 12), 9, none⟩] [2]) c13S0))
theorem ent13 (a0 : Value) (w : World) (K : Value → World → Prop) (h : W Try.prog c13 [(0, a0)] w (finQ Try.prog [.tmp 2] K)) : Ret Try.prog 13 [a0] w K :=
  Ret_of_W (code := c13code) Try.func13 (by kernel_rfl) (by kernel_rfl) (of_decide_eq_true (by kernel_rfl)) h
--SIMP 13 c13 c13S0 TYS 3 9 38 FNS 
@[go_sem] theorem go13 : goFunc Try.prog 13 = true := by kernel_rfl
/- Function 14: annalistref05.Empty -/
noncomputable def c14code : Code := match Try.f14.body with | some c => c | none => .skip
noncomputable def c14S0 : Cmd := (.block 1 (.ops [
 ⟨some 19, .move (.tmp 3), 3, none⟩,
 ⟨some 20, .binOp .add 3 (.tmp 19) (.const (.int .i64 1)) 3, 3, none⟩,
 ⟨some 3, .assign (.tmp 20), 3, none⟩] [0, 3]))
noncomputable def c14L0 : Cmd := (.seq (.seq (.ops [
 ⟨some 4, .move (.tmp 3), 3, none⟩,
 ⟨some 5, .move (.tmp 0), 3, none⟩,
 ⟨some 6, .binOp .quo 3 (.tmp 5) (.const (.int .i64 8)) 3, 3, none⟩,
 ⟨some 7, .binOp .lss 3 (.tmp 4) (.tmp 6) 3, 4, none⟩,
 ⟨some 8, .move (.tmp 7), 4, none⟩,
 ⟨some 9, .move (.tmp 3), 3, (some (8, false))⟩,
 ⟨some 10, .move (.tmp 0), 3, (some (8, false))⟩,
 ⟨some 11, .binOp .quo 3 (.tmp 10) (.const (.int .i64 8)) 3, 3, (some (8, false))⟩,
 ⟨some 12, .binOp .eql 3 (.tmp 9) (.tmp 11) 3, 4, (some (8, false))⟩,
 ⟨some 13, .move (.tmp 12), 4, (some (8, false))⟩,
 ⟨some 14, .move (.tmp 0), 3, (some (13, true))⟩,
 ⟨some 15, .binOp .rem 3 (.tmp 14) (.const (.int .i64 8)) 3, 3, (some (13, true))⟩,
 ⟨some 16, .binOp .gtr 3 (.tmp 15) (.const (.int .i64 0)) 3, 4, (some (13, true))⟩,
 ⟨some 17, .pick (.tmp 13) (.tmp 16) (.const (.bool false)), 4, (some (8, false))⟩,
 ⟨some 18, .pick (.tmp 8) (.const (.bool true)) (.tmp 17), 4, none⟩] [0, 3, 18])
 (.cond (.tmp 18)
  (.skip [0, 3])
  (.exit 0 [3]))) c14S0)
noncomputable def c14S1 : Cmd := (.seq (.ops [
 ⟨some 21, .move (.tmp 3), 3, none⟩,
 ⟨some 22, .makeSlice 38 (.tmp 21) (.tmp 21), 38, none⟩,
 ⟨some 23, .convert 38 9 (.tmp 22), 9, none⟩,
 ⟨some 2, .assign (.tmp 23), 9, none⟩] [2])
 .ret)
noncomputable def c14 : Cmd := (.seq (.ops [
 ⟨some 2, .assign (.const (.string (ofL []))), 9, none⟩] [0])
 (.seq (.ops [
 ⟨some 3, .assign (.const (.int .i64 0)), 3, none⟩] [0, 3])
 (.seq (.block 0 (.loop c14L0)) c14S1)))
theorem ent14 (a0 : Value) (w : World) (K : Value → World → Prop) (h : W Try.prog c14 [(0, a0)] w (finQ Try.prog [.tmp 2] K)) : Ret Try.prog 14 [a0] w K :=
  Ret_of_W (code := c14code) Try.func14 (by kernel_rfl) (by kernel_rfl) (of_decide_eq_true (by kernel_rfl)) h
--SIMP 14 c14 c14S0 c14S1 TYS 3 9 38 FNS 
@[go_sem] theorem go14 : goFunc Try.prog 14 = true := by kernel_rfl
/- Function 15: bitmap.Count -/
noncomputable def c15code : Code := match Try.f15.body with | some c => c | none => .skip
noncomputable def c15S0 : Cmd := (.ops [
 ⟨some 16, .binOp .add 3 (.tmp 7) (.const (.int .i64 1)) 3, 3, none⟩,
 ⟨some 7, .move (.tmp 16), 3, none⟩] [0, 3, 6, 7])
noncomputable def c15S1 : Cmd := (.seq (.block 1 (.seq (.ops [
 ⟨some 9, .move (.tmp 7), 3, none⟩,
 ⟨some 4, .assign (.tmp 9), 3, none⟩] [0, 3, 4, 6, 7])
 (.ops [
 ⟨some 10, .move (.tmp 3), 3, none⟩,
 ⟨some 11, .move (.tmp 0), 9, none⟩,
 ⟨some 12, .move (.tmp 4), 3, none⟩,
 ⟨some 13, .index 9 (.tmp 11) (.tmp 12), 5, none⟩,
 ⟨some 14, .call ⟨.value (.func 22), #[(.tmp 13)], #[5]⟩, 3, none⟩,
 ⟨some 15, .binOp .add 3 (.tmp 10) (.tmp 14) 3, 3, none⟩,
 ⟨some 3, .assign (.tmp 15), 3, none⟩] [0, 3, 6, 7]))) c15S0)
noncomputable def c15L0 : Cmd := (.seq (.ops [
 ⟨some 8, .binOp .lss 3 (.tmp 7) (.tmp 6) 3, 4, none⟩] [0, 3, 6, 7, 8])
 (.seq (.cond (.tmp 8)
  (.skip [0, 3, 6, 7])
  (.exit 0 [3])) c15S1))
noncomputable def c15S2 : Cmd := (.seq (.ops [
 ⟨some 17, .move (.tmp 3), 3, none⟩,
 ⟨some 2, .assign (.tmp 17), 3, none⟩] [2])
 .ret)
noncomputable def c15 : Cmd := (.seq (.ops [
 ⟨some 2, .assign (.const (.int .i64 0)), 3, none⟩] [0])
 (.seq (.ops [
 ⟨some 3, .assign (.const (.int .i64 0)), 3, none⟩] [0, 3])
 (.seq (.seq (.ops [
 ⟨some 5, .move (.tmp 0), 9, none⟩,
 ⟨some 6, .call ⟨.builtin .len, #[(.tmp 5)], #[9]⟩, 3, none⟩,
 ⟨some 7, .move (.const (.int .i64 0)), 3, none⟩] [0, 3, 6, 7])
 (.block 0 (.loop c15L0))) c15S2)))
theorem ent15 (a0 : Value) (w : World) (K : Value → World → Prop) (h : W Try.prog c15 [(0, a0)] w (finQ Try.prog [.tmp 2] K)) : Ret Try.prog 15 [a0] w K :=
  Ret_of_W (code := c15code) Try.func15 (by kernel_rfl) (by kernel_rfl) (of_decide_eq_true (by kernel_rfl)) h
--SIMP 15 c15 c15S0 c15S1 c15S2 TYS 3 9 FNS 22
@[go_sem] theorem go15 : goFunc Try.prog 15 = true := by kernel_rfl
/- Function 16: bitmap.Lowest -/
noncomputable def c16code : Code := match Try.f16.body with | some c => c | none => .skip
noncomputable def c16S0 : Cmd := (.cond (.tmp 38)
  (.seq (.ops [
  ⟨some 39, .move (.tmp 8), 3, none⟩,
  ⟨some 6, .assign (.tmp 39), 3, none⟩,
  ⟨some 7, .assign (.const (.bool true)), 4, none⟩] [6, 7])
  .ret)
  (.skip [0, 2, 8]))
noncomputable def c16S1 : Cmd := (.seq (.ops [
 ⟨some 35, .move (.tmp 0), 9, none⟩,
 ⟨some 36, .move (.tmp 8), 3, none⟩,
 ⟨some 37, .call ⟨.value (.func 10), #[(.tmp 35), (.tmp 36)], #[9, 3]⟩, 4, none⟩,
 ⟨some 38, .unOp .not 4 (.tmp 37), 4, none⟩] [0, 2, 8, 38]) c16S0)
noncomputable def c16S2 : Cmd := (.ops [
 ⟨some 21, .move (.tmp 8), 3, none⟩,
 ⟨some 22, .binOp .add 3 (.tmp 21) (.const (.int .i64 1)) 3, 3, none⟩,
 ⟨some 8, .assign (.tmp 22), 3, none⟩] [0, 2, 8])
noncomputable def c16S3 : Cmd := (.seq (.block 1 (.seq (.seq (.ops [
 ⟨some 23, .move (.tmp 8), 3, none⟩,
 ⟨some 24, .binOp .rem 3 (.tmp 23) (.const (.int .i64 8)) 3, 3, none⟩,
 ⟨some 25, .binOp .eql 3 (.tmp 24) (.const (.int .i64 0)) 3, 4, none⟩,
 ⟨some 26, .move (.tmp 25), 4, none⟩,
 ⟨some 27, .move (.tmp 0), 9, (some (26, true))⟩,
 ⟨some 28, .move (.tmp 8), 3, (some (26, true))⟩,
 ⟨some 29, .binOp .quo 3 (.tmp 28) (.const (.int .i64 8)) 3, 3, (some (26, true))⟩,
 ⟨some 30, .index 9 (.tmp 27) (.tmp 29), 5, (some (26, true))⟩,
 ⟨some 31, .binOp .eql 5 (.tmp 30) (.const (.int .u8 255)) 5, 4, (some (26, true))⟩,
 ⟨some 32, .pick (.tmp 26) (.tmp 31) (.const (.bool false)), 4, none⟩] [0, 2, 8, 32])
 (.cond (.tmp 32)
  (.seq (.ops [
  ⟨some 33, .move (.tmp 8), 3, none⟩,
  ⟨some 34, .binOp .add 3 (.tmp 33) (.const (.int .i64 7)) 3, 3, none⟩,
  ⟨some 8, .assign (.tmp 34), 3, none⟩] [0, 2, 8])
  (.exit 1 [0, 2, 8]))
  (.skip [0, 2, 8]))) c16S1)) c16S2)
noncomputable def c16L0 : Cmd := (.seq (.seq (.ops [
 ⟨some 11, .move (.tmp 8), 3, none⟩,
 ⟨some 12, .move (.tmp 2), 3, none⟩,
 ⟨some 13, .binOp .lss 3 (.tmp 11) (.tmp 12) 3, 4, none⟩,
 ⟨some 14, .move (.tmp 13), 4, none⟩,
 ⟨some 15, .move (.tmp 8), 3, (some (14, true))⟩,
 ⟨some 16, .binOp .quo 3 (.tmp 15) (.const (.int .i64 8)) 3, 3, (some (14, true))⟩,
 ⟨some 17, .move (.tmp 0), 9, (some (14, true))⟩,
 ⟨some 18, .call ⟨.builtin .len, #[(.tmp 17)], #[9]⟩, 3, (some (14, true))⟩,
 ⟨some 19, .binOp .lss 3 (.tmp 16) (.tmp 18) 3, 4, (some (14, true))⟩,
 ⟨some 20, .pick (.tmp 14) (.tmp 19) (.const (.bool false)), 4, none⟩] [0, 2, 8, 20])
 (.cond (.tmp 20)
  (.skip [0, 2, 8])
  (.exit 0 []))) c16S3)
noncomputable def c16S4 : Cmd := (.block 0 (.loop c16L0))
noncomputable def c16S5 : Cmd := (.seq (.ops [
 ⟨some 6, .assign (.const (.int .i64 0)), 3, none⟩,
 ⟨some 7, .assign (.const (.bool false)), 4, none⟩] [6, 7])
 .ret)
noncomputable def c16 : Cmd := (.seq (.ops [
 ⟨some 6, .assign (.const (.int .i64 0)), 3, none⟩,
 ⟨some 7, .assign (.const (.bool false)), 4, none⟩] [0, 1, 2])
 (.seq (.seq (.ops [
 ⟨some 9, .move (.tmp 1), 3, none⟩,
 ⟨some 10, .call ⟨.builtin .max, #[(.const (.int .i64 0)), (.tmp 9)], #[3, 3]⟩, 3, none⟩,
 ⟨some 8, .assign (.tmp 10), 3, none⟩] [0, 2, 8]) c16S4) c16S5))
theorem ent16 (a0 a1 a2 : Value) (w : World) (K : Value → World → Prop) (h : W Try.prog c16 [(0, a0), (1, a1), (2, a2)] w (finQ Try.prog [.tmp 6, .tmp 7] K)) : Ret Try.prog 16 [a0, a1, a2] w K :=
  Ret_of_W (code := c16code) Try.func16 (by kernel_rfl) (by kernel_rfl) (of_decide_eq_true (by kernel_rfl)) h
--SIMP 16 c16 c16S0 c16S1 c16S2 c16S3 c16S4 c16S5 TYS 3 5 9 FNS 10
@[go_sem] theorem go16 : goFunc Try.prog 16 = true := by kernel_rfl
/- Function 17: annalistref05.Lowest -/
noncomputable def c17code : Code := match Try.f17.body with | some c => c | none => .skip
noncomputable def c17S0 : Cmd := (.cond (.tmp 29)
  (.seq (.ops [
  ⟨some 30, .move (.tmp 8), 3, none⟩,
  ⟨some 6, .assign (.tmp 30), 3, none⟩,
  ⟨some 7, .assign (.const (.bool true)), 4, none⟩] [6, 7])
  .ret)
  (.skip [0, 1, 2, 8]))
noncomputable def c17S1 : Cmd := (.ops [
 ⟨some 14, .move (.tmp 8), 3, none⟩,
 ⟨some 15, .binOp .add 3 (.tmp 14) (.const (.int .i64 1)) 3, 3, none⟩,
 ⟨some 8, .assign (.tmp 15), 3, none⟩] [0, 1, 2, 8])
noncomputable def c17S2 : Cmd := (.seq (.block 1 (.seq (.ops [
 ⟨some 16, .move (.tmp 8), 3, none⟩,
 ⟨some 17, .move (.tmp 1), 3, none⟩,
 ⟨some 18, .binOp .geq 3 (.tmp 16) (.tmp 17) 3, 4, none⟩,
 ⟨some 19, .move (.tmp 18), 4, none⟩,
 ⟨some 20, .move (.tmp 8), 3, (some (19, true))⟩,
 ⟨some 21, .move (.tmp 2), 3, (some (19, true))⟩,
 ⟨some 22, .binOp .lss 3 (.tmp 20) (.tmp 21) 3, 4, (some (19, true))⟩,
 ⟨some 23, .pick (.tmp 19) (.tmp 22) (.const (.bool false)), 4, none⟩,
 ⟨some 24, .move (.tmp 23), 4, none⟩,
 ⟨some 25, .move (.tmp 0), 9, (some (24, true))⟩,
 ⟨some 26, .move (.tmp 8), 3, (some (24, true))⟩,
 ⟨some 27, .call ⟨.value (.func 11), #[(.tmp 25), (.tmp 26)], #[9, 3]⟩, 4, (some (24, true))⟩,
 ⟨some 28, .unOp .not 4 (.tmp 27), 4, (some (24, true))⟩,
 ⟨some 29, .pick (.tmp 24) (.tmp 28) (.const (.bool false)), 4, none⟩] [0, 1, 2, 8, 29]) c17S0)) c17S1)
noncomputable def c17L0 : Cmd := (.seq (.seq (.ops [
 ⟨some 9, .move (.tmp 8), 3, none⟩,
 ⟨some 10, .move (.tmp 0), 9, none⟩,
 ⟨some 11, .call ⟨.builtin .len, #[(.tmp 10)], #[9]⟩, 3, none⟩,
 ⟨some 12, .binOp .mul 3 (.const (.int .i64 8)) (.tmp 11) 3, 3, none⟩,
 ⟨some 13, .binOp .lss 3 (.tmp 9) (.tmp 12) 3, 4, none⟩] [0, 1, 2, 8, 13])
 (.cond (.tmp 13)
  (.skip [0, 1, 2, 8])
  (.exit 0 []))) c17S2)
noncomputable def c17S3 : Cmd := (.seq (.ops [
 ⟨some 6, .assign (.const (.int .i64 0)), 3, none⟩,
 ⟨some 7, .assign (.const (.bool false)), 4, none⟩] [6, 7])
 .ret)
noncomputable def c17 : Cmd := (.seq (.ops [
 ⟨some 6, .assign (.const (.int .i64 0)), 3, none⟩,
 ⟨some 7, .assign (.const (.bool false)), 4, none⟩] [0, 1, 2])
 (.seq (.seq (.ops [
 ⟨some 8, .assign (.const (.int .i64 0)), 3, none⟩] [0, 1, 2, 8])
 (.block 0 (.loop c17L0))) c17S3))
theorem ent17 (a0 a1 a2 : Value) (w : World) (K : Value → World → Prop) (h : W Try.prog c17 [(0, a0), (1, a1), (2, a2)] w (finQ Try.prog [.tmp 6, .tmp 7] K)) : Ret Try.prog 17 [a0, a1, a2] w K :=
  Ret_of_W (code := c17code) Try.func17 (by kernel_rfl) (by kernel_rfl) (of_decide_eq_true (by kernel_rfl)) h
--SIMP 17 c17 c17S0 c17S1 c17S2 c17S3 TYS 3 9 FNS 11
@[go_sem] theorem go17 : goFunc Try.prog 17 = true := by kernel_rfl
/- Function 18: annalistref05.All -/
noncomputable def c18code : Code := match Try.f18.body with | some c => c | none => .skip
noncomputable def c18S0 : Cmd := (.cond (.tmp 20)
  (.ops [
  ⟨some 21, .move (.tmp 3), 34, none⟩,
  ⟨some 22, .move (.tmp 4), 3, none⟩,
  ⟨some 23, .binOp .mul 3 (.const (.int .i64 8)) (.tmp 22) 3, 3, none⟩,
  ⟨some 24, .move (.tmp 5), 3, none⟩,
  ⟨some 25, .binOp .add 3 (.tmp 23) (.tmp 24) 3, 3, none⟩,
  ⟨some 26, .buildSlice 34 1 #[(0, (.tmp 25))], 34, none⟩,
  ⟨some 27, .call ⟨.builtin .append, #[(.tmp 21), (.tmp 26)], #[34, 34]⟩, 34, none⟩,
  ⟨some 3, .assign (.tmp 27), 34, none⟩] [0, 3, 4, 5])
  (.skip [0, 3, 4, 5]))
noncomputable def c18S1 : Cmd := (.ops [
 ⟨some 14, .move (.tmp 5), 3, none⟩,
 ⟨some 15, .binOp .add 3 (.tmp 14) (.const (.int .i64 1)) 3, 3, none⟩,
 ⟨some 5, .assign (.tmp 15), 3, none⟩] [0, 3, 4, 5])
noncomputable def c18S2 : Cmd := (.seq (.block 3 (.seq (.ops [
 ⟨some 16, .move (.tmp 0), 9, none⟩,
 ⟨some 17, .move (.tmp 4), 3, none⟩,
 ⟨some 18, .index 9 (.tmp 16) (.tmp 17), 5, none⟩,
 ⟨some 19, .move (.tmp 5), 3, none⟩,
 ⟨some 20, .call ⟨.value (.func 21), #[(.tmp 18), (.tmp 19)], #[5, 3]⟩, 4, none⟩] [0, 3, 4, 5, 20]) c18S0)) c18S1)
noncomputable def c18L0 : Cmd := (.seq (.seq (.ops [
 ⟨some 12, .move (.tmp 5), 3, none⟩,
 ⟨some 13, .binOp .lss 3 (.tmp 12) (.const (.int .i64 8)) 3, 4, none⟩] [0, 3, 4, 5, 13])
 (.cond (.tmp 13)
  (.skip [0, 3, 4, 5])
  (.exit 2 [0, 3, 4]))) c18S2)
noncomputable def c18S3 : Cmd := (.ops [
 ⟨some 10, .move (.tmp 4), 3, none⟩,
 ⟨some 11, .binOp .add 3 (.tmp 10) (.const (.int .i64 1)) 3, 3, none⟩,
 ⟨some 4, .assign (.tmp 11), 3, none⟩] [0, 3, 4])
noncomputable def c18S4 : Cmd := (.seq (.block 1 (.seq (.ops [
 ⟨some 5, .assign (.const (.int .i64 0)), 3, none⟩] [0, 3, 4, 5])
 (.block 2 (.loop c18L0)))) c18S3)
noncomputable def c18L1 : Cmd := (.seq (.seq (.ops [
 ⟨some 6, .move (.tmp 4), 3, none⟩,
 ⟨some 7, .move (.tmp 0), 9, none⟩,
 ⟨some 8, .call ⟨.builtin .len, #[(.tmp 7)], #[9]⟩, 3, none⟩,
 ⟨some 9, .binOp .lss 3 (.tmp 6) (.tmp 8) 3, 4, none⟩] [0, 3, 4, 9])
 (.cond (.tmp 9)
  (.skip [0, 3, 4])
  (.exit 0 [3]))) c18S4)
noncomputable def c18S5 : Cmd := (.seq (.ops [
 ⟨some 28, .move (.tmp 3), 34, none⟩,
 ⟨some 2, .assign (.tmp 28), 34, none⟩] [2])
 .ret)
noncomputable def c18 : Cmd := (.seq (.ops [
 ⟨some 2, .assign (.const (.slice none 0 0)), 34, none⟩] [0])
 (.seq (.ops [
 ⟨some 3, .assign (.const (.slice none 0 0)), 34, none⟩] [0, 3])
 (.seq (.seq (.ops [
 ⟨some 4, .assign (.const (.int .i64 0)), 3, none⟩] [0, 3, 4])
 (.block 0 (.loop c18L1))) c18S5)))
theorem ent18 (a0 : Value) (w : World) (K : Value → World → Prop) (h : W Try.prog c18 [(0, a0)] w (finQ Try.prog [.tmp 2] K)) : Ret Try.prog 18 [a0] w K :=
  Ret_of_W (code := c18code) Try.func18 (by kernel_rfl) (by kernel_rfl) (of_decide_eq_true (by kernel_rfl)) h
--SIMP 18 c18 c18S0 c18S1 c18S2 c18S3 c18S4 c18S5 TYS 3 9 34 FNS 21
@[go_sem] theorem go18 : goFunc Try.prog 18 = true := by kernel_rfl
/- Function 19: annalistlaw05.ints -/
noncomputable def c19code : Code := match Try.f19.body with | some c => c | none => .skip
noncomputable def c19S0 : Cmd := (.cond (.tmp 25)
  (.seq (.ops [
  ⟨some 4, .assign (.const (.bool false)), 4, none⟩] [4])
  .ret)
  (.skip [0, 1, 5]))
noncomputable def c19S1 : Cmd := (.ops [
 ⟨some 15, .move (.tmp 5), 3, none⟩,
 ⟨some 16, .binOp .add 3 (.tmp 15) (.const (.int .i64 1)) 3, 3, none⟩,
 ⟨some 5, .assign (.tmp 16), 3, none⟩] [0, 1, 5])
noncomputable def c19S2 : Cmd := (.seq (.block 1 (.seq (.draw (drawOps 0 c19code) [0, 1, 5, 25]) c19S0)) c19S1)
noncomputable def c19L0 : Cmd := (.seq (.seq (.ops [
 ⟨some 11, .move (.tmp 5), 3, none⟩,
 ⟨some 12, .move (.tmp 0), 34, none⟩,
 ⟨some 13, .call ⟨.builtin .len, #[(.tmp 12)], #[34]⟩, 3, none⟩,
 ⟨some 14, .binOp .lss 3 (.tmp 11) (.tmp 13) 3, 4, none⟩] [0, 1, 5, 14])
 (.cond (.tmp 14)
  (.skip [0, 1, 5])
  (.exit 0 []))) c19S2)
noncomputable def c19S3 : Cmd := (.seq (.ops [
 ⟨some 4, .assign (.const (.bool true)), 4, none⟩] [4])
 .ret)
noncomputable def c19S4 : Cmd := (.seq (.seq (.ops [
 ⟨some 5, .assign (.const (.int .i64 0)), 3, none⟩] [0, 1, 5])
 (.block 0 (.loop c19L0))) c19S3)
noncomputable def c19 : Cmd := (.seq (.ops [
 ⟨some 4, .assign (.const (.bool false)), 4, none⟩] [0, 1])
 (.seq (.seq (.ops [
 ⟨some 6, .move (.tmp 0), 34, none⟩,
 ⟨some 7, .call ⟨.builtin .len, #[(.tmp 6)], #[34]⟩, 3, none⟩,
 ⟨some 8, .move (.tmp 1), 34, none⟩,
 ⟨some 9, .call ⟨.builtin .len, #[(.tmp 8)], #[34]⟩, 3, none⟩,
 ⟨some 10, .binOp .neq 3 (.tmp 7) (.tmp 9) 3, 4, none⟩] [0, 1, 10])
 (.cond (.tmp 10)
  (.seq (.ops [
  ⟨some 4, .assign (.const (.bool false)), 4, none⟩] [4])
  .ret)
  (.skip [0, 1]))) c19S4))
noncomputable def c19D0 : List (Bool × Ins) := [
 (true, ⟨some 17, .move (.tmp 0), 34, none⟩),
 (true, ⟨some 18, .move (.tmp 5), 3, none⟩),
 (true, ⟨some 19, .indexAddr 34 (.tmp 17) (.tmp 18), 0, none⟩),
 (false, ⟨some 20, .load 3 (.tmp 19), 3, none⟩),
 (true, ⟨some 21, .move (.tmp 1), 34, none⟩),
 (true, ⟨some 22, .move (.tmp 5), 3, none⟩),
 (true, ⟨some 23, .indexAddr 34 (.tmp 21) (.tmp 22), 0, none⟩),
 (false, ⟨some 24, .load 3 (.tmp 23), 3, none⟩),
 (true, ⟨some 25, .binOp .neq 3 (.tmp 20) (.tmp 24) 3, 4, none⟩)]
theorem c19draw0 {L : List Nat} {ρ : Env} {w : World} {Q : Post} (h : DL Try.prog c19D0 L ρ w.drew Q) : drawW Try.prog (drawOps 0 c19code) L ρ w Q :=
  drawW_still [true, true, true, false, true, true, true, false, true] c19D0 (by kernel_rfl) (by kernel_rfl) (by kernel_rfl) h
theorem ent19 (a0 a1 : Value) (w : World) (K : Value → World → Prop) (h : W Try.prog c19 [(0, a0), (1, a1)] w (finQ Try.prog [.tmp 4] K)) : Ret Try.prog 19 [a0, a1] w K :=
  Ret_of_W (code := c19code) Try.func19 (by kernel_rfl) (by kernel_rfl) (of_decide_eq_true (by kernel_rfl)) h
--SIMP 19 c19 c19S0 c19S1 c19S2 c19S3 c19S4 TYS 3 34 FNS 
@[go_sem] theorem go19 : goFunc Try.prog 19 = true := by kernel_rfl
/- Function 20: annalistlaw05.each -/
noncomputable def c20code : Code := match Try.f20.body with | some c => c | none => .skip
noncomputable def c20S0 : Cmd := (.seq (.ops [
 ⟨some 16, .load 34 (.tmp 5), 34, none⟩,
 ⟨some 4, .assign (.tmp 16), 34, none⟩] [4])
 .ret)
noncomputable def c20S1 : Cmd := (.seq (.ops [
 ⟨some 13, .move (.tmp 6), 42, none⟩,
 ⟨some 14, .makeFunc (.func 24) #[] #[(.tmp 5), (.tmp 3)], 44, none⟩,
 ⟨some 15, .call ⟨.value (.tmp 13), #[(.tmp 14)], #[44]⟩, 0, none⟩] [5]) c20S0)
noncomputable def c20S2 : Cmd := (.seq (.seq (.ops [
 ⟨some 11, .move (.tmp 6), 42, none⟩,
 ⟨some 12, .binOp .eql 42 (.tmp 11) (.const .nilFunc) 42, 4, none⟩] [3, 5, 6, 12])
 (.cond (.tmp 12)
  (.seq (.ops [
  ⟨some 4, .assign (.const (.slice none 0 0)), 34, none⟩] [4])
  .ret)
  (.skip [3, 5, 6]))) c20S1)
noncomputable def c20S3 : Cmd := (.seq (.ops [
 ⟨some 9, .move (.tmp 0), 9, none⟩,
 ⟨some 10, .call ⟨.value (.func 23), #[(.tmp 9)], #[9]⟩, 42, none⟩,
 ⟨some 6, .assign (.tmp 10), 42, none⟩] [3, 5, 6]) c20S2)
noncomputable def c20 : Cmd := (.seq (.ops [
 ⟨some 3, .box 3 (.tmp 1), 0, none⟩,
 ⟨some 4, .assign (.const (.slice none 0 0)), 34, none⟩] [0, 3])
 (.seq (.ops [
 ⟨some 5, .alloc 34, 0, none⟩] [0, 3, 5])
 (.seq (.seq (.ops [
 ⟨some 7, .load 3 (.tmp 3), 3, none⟩,
 ⟨some 8, .binOp .leq 3 (.tmp 7) (.const (.int .i64 0)) 3, 4, none⟩] [0, 3, 5, 8])
 (.cond (.tmp 8)
  (.seq (.ops [
  ⟨some 4, .assign (.const (.slice none 0 0)), 34, none⟩] [4])
  .ret)
  (.skip [0, 3, 5]))) c20S3)))
theorem ent20 (a0 a1 : Value) (w : World) (K : Value → World → Prop) (h : W Try.prog c20 [(0, a0), (1, a1)] w (finQ Try.prog [.tmp 4] K)) : Ret Try.prog 20 [a0, a1] w K :=
  Ret_of_W (code := c20code) Try.func20 (by kernel_rfl) (by kernel_rfl) (of_decide_eq_true (by kernel_rfl)) h
--SIMP 20 c20 c20S0 c20S1 c20S2 c20S3 TYS 3 34 42 FNS 23
@[go_sem] theorem go20 : goFunc Try.prog 20 = true := by kernel_rfl
/- Function 21: annalistref05.bit -/
noncomputable def c21code : Code := match Try.f21.body with | some c => c | none => .skip
noncomputable def c21S0 : Cmd := (.seq (.block 1 (.ops [
 ⟨some 11, .move (.tmp 0), 5, none⟩,
 ⟨some 12, .binOp .quo 5 (.tmp 11) (.const (.int .u8 2)) 5, 5, none⟩,
 ⟨some 0, .assign (.tmp 12), 5, none⟩] [0, 1, 5]))
 (.ops [
 ⟨some 9, .move (.tmp 5), 3, none⟩,
 ⟨some 10, .binOp .add 3 (.tmp 9) (.const (.int .i64 1)) 3, 3, none⟩,
 ⟨some 5, .assign (.tmp 10), 3, none⟩] [0, 1, 5]))
noncomputable def c21L0 : Cmd := (.seq (.seq (.ops [
 ⟨some 6, .move (.tmp 5), 3, none⟩,
 ⟨some 7, .move (.tmp 1), 3, none⟩,
 ⟨some 8, .binOp .lss 3 (.tmp 6) (.tmp 7) 3, 4, none⟩] [0, 1, 5, 8])
 (.cond (.tmp 8)
  (.skip [0, 1, 5])
  (.exit 0 [0]))) c21S0)
noncomputable def c21S1 : Cmd := (.seq (.ops [
 ⟨some 13, .move (.tmp 0), 5, none⟩,
 ⟨some 14, .binOp .rem 5 (.tmp 13) (.const (.int .u8 2)) 5, 5, none⟩,
 ⟨some 15, .binOp .eql 5 (.tmp 14) (.const (.int .u8 1)) 5, 4, none⟩,
 ⟨some 4, .assign (.tmp 15), 4, none⟩] [4])
 .ret)
noncomputable def c21 : Cmd := (.seq (.ops [
 ⟨some 4, .assign (.const (.bool false)), 4, none⟩] [0, 1])
 (.seq (.seq (.ops [
 ⟨some 5, .assign (.const (.int .i64 0)), 3, none⟩] [0, 1, 5])
 (.block 0 (.loop c21L0))) c21S1))
theorem ent21 (a0 a1 : Value) (w : World) (K : Value → World → Prop) (h : W Try.prog c21 [(0, a0), (1, a1)] w (finQ Try.prog [.tmp 4] K)) : Ret Try.prog 21 [a0, a1] w K :=
  Ret_of_W (code := c21code) Try.func21 (by kernel_rfl) (by kernel_rfl) (of_decide_eq_true (by kernel_rfl)) h
--SIMP 21 c21 c21S0 c21S1 TYS 3 5 FNS 
@[go_sem] theorem go21 : goFunc Try.prog 21 = true := by kernel_rfl
/- Function 22: math-bits.OnesCount8 -/
noncomputable def str256x1466348926 : List UInt8 := [0, 1, 1, 2, 1, 2, 2, 3, 1, 2, 2, 3, 2, 3, 3, 4, 1, 2, 2, 3, 2, 3, 3, 4, 2, 3, 3, 4, 3, 4, 4, 5, 1, 2, 2, 3, 2, 3, 3, 4, 2, 3, 3, 4, 3, 4, 4, 5, 2, 3, 3, 4, 3, 4, 4, 5, 3, 4, 4, 5, 4, 5, 5, 6, 1, 2, 2, 3, 2, 3, 3, 4, 2, 3, 3, 4, 3, 4, 4, 5, 2, 3, 3, 4, 3, 4, 4, 5, 3, 4, 4, 5, 4, 5, 5, 6, 2, 3, 3, 4, 3, 4, 4, 5, 3, 4, 4, 5, 4, 5, 5, 6, 3, 4, 4, 5, 4, 5, 5, 6, 4, 5, 5, 6, 5, 6, 6, 7, 1, 2, 2, 3, 2, 3, 3, 4, 2, 3, 3, 4, 3, 4, 4, 5, 2, 3, 3, 4, 3, 4, 4, 5, 3, 4, 4, 5, 4, 5, 5, 6, 2, 3, 3, 4, 3, 4, 4, 5, 3, 4, 4, 5, 4, 5, 5, 6, 3, 4, 4, 5, 4, 5, 5, 6, 4, 5, 5, 6, 5, 6, 6, 7, 2, 3, 3, 4, 3, 4, 4, 5, 3, 4, 4, 5, 4, 5, 5, 6, 3, 4, 4, 5, 4, 5, 5, 6, 4, 5, 5, 6, 5, 6, 6, 7, 3, 4, 4, 5, 4, 5, 5, 6, 4, 5, 5, 6, 5, 6, 6, 7, 4, 5, 5, 6, 5, 6, 6, 7, 5, 6, 6, 7, 6, 7, 7, 8]
noncomputable def c22code : Code := match Try.f22.body with | some c => c | none => .skip
noncomputable def c22 : Cmd := (.seq (.ops [
 ⟨some 2, .assign (.const (.int .i64 0)), 3, none⟩] [0])
 (.seq (.ops [
 ⟨some 3, .move (.tmp 0), 5, none⟩,
 ⟨some 4, .index 9 (.const (.string (ofL str256x1466348926))) (.tmp 3), 5, none⟩,
 ⟨some 5, .convert 5 3 (.tmp 4), 3, none⟩,
 ⟨some 2, .assign (.tmp 5), 3, none⟩] [2])
 .ret))
theorem ent22 (a0 : Value) (w : World) (K : Value → World → Prop) (h : W Try.prog c22 [(0, a0)] w (finQ Try.prog [.tmp 2] K)) : Ret Try.prog 22 [a0] w K :=
  Ret_of_W (code := c22code) Try.func22 (by kernel_rfl) (by kernel_rfl) (of_decide_eq_true (by kernel_rfl)) h
--SIMP 22 c22 TYS 3 5 9 FNS 
@[go_sem] theorem go22 : goFunc Try.prog 22 = true := by kernel_rfl
/- Function 23: bitmap.Each -/
noncomputable def c23code : Code := match Try.f23.body with | some c => c | none => .skip
noncomputable def c23 : Cmd := (.seq (.ops [
 ⟨some 1, .box 9 (.tmp 0), 0, none⟩,
 ⟨some 2, .assign (.const .nilFunc), 42, none⟩] [1])
 (.seq (.ops [
 ⟨some 3, .makeFunc (.func 25) #[] #[(.tmp 1)], 42, none⟩,
 ⟨some 2, .assign (.tmp 3), 42, none⟩] [2])
 .ret))
theorem ent23 (a0 : Value) (w : World) (K : Value → World → Prop) (h : W Try.prog c23 [(0, a0)] w (finQ Try.prog [.tmp 2] K)) : Ret Try.prog 23 [a0] w K :=
  Ret_of_W (code := c23code) Try.func23 (by kernel_rfl) (by kernel_rfl) (of_decide_eq_true (by kernel_rfl)) h
--SIMP 23 c23 TYS 9 FNS 
@[go_sem] theorem go23 : goFunc Try.prog 23 = true := by kernel_rfl
/- Function 24: annalistlaw05.each$1 -/
noncomputable def c24code : Code := match Try.f24.body with | some c => c | none => .skip
noncomputable def c24S0 : Cmd := (.seq (.ops [
 ⟨some 9, .load 34 (.tmp 1), 34, none⟩,
 ⟨some 10, .call ⟨.builtin .len, #[(.tmp 9)], #[34]⟩, 3, none⟩,
 ⟨some 11, .load 3 (.tmp 2), 3, none⟩,
 ⟨some 12, .binOp .lss 3 (.tmp 10) (.tmp 11) 3, 4, none⟩,
 ⟨some 4, .assign (.tmp 12), 4, none⟩] [4])
 .ret)
noncomputable def c24 : Cmd := (.seq (.ops [
 ⟨some 4, .assign (.const (.bool false)), 4, none⟩] [0, 1, 2])
 (.seq (.ops [
 ⟨some 5, .load 34 (.tmp 1), 34, none⟩,
 ⟨some 6, .move (.tmp 0), 3, none⟩,
 ⟨some 7, .buildSlice 34 1 #[(0, (.tmp 6))], 34, none⟩,
 ⟨some 8, .call ⟨.builtin .append, #[(.tmp 5), (.tmp 7)], #[34, 34]⟩, 34, none⟩,
 ⟨none, .store 34 (.tmp 1) (.tmp 8), 0, none⟩] [1, 2]) c24S0))
theorem ent24 (a0 a1 a2 : Value) (w : World) (K : Value → World → Prop) (h : W Try.prog c24 [(0, a0), (1, a1), (2, a2)] w (finQ Try.prog [.tmp 4] K)) : Ret Try.prog 24 [a0, a1, a2] w K :=
  Ret_of_W (code := c24code) Try.func24 (by kernel_rfl) (by kernel_rfl) (of_decide_eq_true (by kernel_rfl)) h
--SIMP 24 c24 c24S0 TYS 3 34 FNS 
@[go_sem] theorem go24 : goFunc Try.prog 24 = true := by kernel_rfl
/- Function 25: bitmap.Each$1 -/
noncomputable def c25code : Code := match Try.f25.body with | some c => c | none => .skip
noncomputable def c25S0 : Cmd := (.cond (.tmp 26)
  .ret
  (.skip [0, 1, 3, 4, 6, 7]))
noncomputable def c25S1 : Cmd := (.ops [
 ⟨some 15, .move (.tmp 4), 5, none⟩,
 ⟨some 16, .move (.tmp 4), 5, none⟩,
 ⟨some 17, .binOp .sub 5 (.tmp 16) (.const (.int .u8 1)) 5, 5, none⟩,
 ⟨some 18, .binOp .and 5 (.tmp 15) (.tmp 17) 5, 5, none⟩,
 ⟨some 4, .assign (.tmp 18), 5, none⟩] [0, 1, 3, 4, 6, 7])
noncomputable def c25S2 : Cmd := (.seq (.block 3 (.seq (.ops [
 ⟨some 19, .move (.tmp 0), 44, none⟩,
 ⟨some 20, .move (.tmp 3), 3, none⟩,
 ⟨some 21, .binOp .mul 3 (.const (.int .i64 8)) (.tmp 20) 3, 3, none⟩,
 ⟨some 22, .move (.tmp 4), 5, none⟩,
 ⟨some 23, .call ⟨.value (.func 26), #[(.tmp 22)], #[5]⟩, 3, none⟩,
 ⟨some 24, .binOp .add 3 (.tmp 21) (.tmp 23) 3, 3, none⟩,
 ⟨some 25, .call ⟨.value (.tmp 19), #[(.tmp 24)], #[3]⟩, 4, none⟩,
 ⟨some 26, .unOp .not 4 (.tmp 25), 4, none⟩] [0, 1, 3, 4, 6, 7, 26]) c25S0)) c25S1)
noncomputable def c25L0 : Cmd := (.seq (.seq (.ops [
 ⟨some 13, .move (.tmp 4), 5, none⟩,
 ⟨some 14, .binOp .neq 5 (.tmp 13) (.const (.int .u8 0)) 5, 4, none⟩] [0, 1, 3, 4, 6, 7, 14])
 (.cond (.tmp 14)
  (.skip [0, 1, 3, 4, 6, 7])
  (.exit 2 [0, 1, 6, 7]))) c25S2)
noncomputable def c25S3 : Cmd := (.ops [
 ⟨some 27, .binOp .add 3 (.tmp 7) (.const (.int .i64 1)) 3, 3, none⟩,
 ⟨some 7, .move (.tmp 27), 3, none⟩] [0, 1, 6, 7])
noncomputable def c25S4 : Cmd := (.seq (.block 1 (.seq (.ops [
 ⟨some 9, .move (.tmp 7), 3, none⟩,
 ⟨some 3, .assign (.tmp 9), 3, none⟩] [0, 1, 3, 6, 7])
 (.seq (.ops [
 ⟨some 10, .load 9 (.tmp 1), 9, none⟩,
 ⟨some 11, .move (.tmp 3), 3, none⟩,
 ⟨some 12, .index 9 (.tmp 10) (.tmp 11), 5, none⟩,
 ⟨some 4, .assign (.tmp 12), 5, none⟩] [0, 1, 3, 4, 6, 7])
 (.block 2 (.loop c25L0))))) c25S3)
noncomputable def c25L1 : Cmd := (.seq (.ops [
 ⟨some 8, .binOp .lss 3 (.tmp 7) (.tmp 6) 3, 4, none⟩] [0, 1, 6, 7, 8])
 (.seq (.cond (.tmp 8)
  (.skip [0, 1, 6, 7])
  (.exit 0 [])) c25S4))
noncomputable def c25 : Cmd := (.seq (.ops [
 ⟨some 5, .load 9 (.tmp 1), 9, none⟩,
 ⟨some 6, .call ⟨.builtin .len, #[(.tmp 5)], #[9]⟩, 3, none⟩,
 ⟨some 7, .move (.const (.int .i64 0)), 3, none⟩] [0, 1, 6, 7])
 (.block 0 (.loop c25L1)))
theorem ent25 (a0 a1 : Value) (w : World) (K : Value → World → Prop) (h : W Try.prog c25 [(0, a0), (1, a1)] w (finQ Try.prog [] K)) : Ret Try.prog 25 [a0, a1] w K :=
  Ret_of_W (code := c25code) Try.func25 (by kernel_rfl) (by kernel_rfl) (of_decide_eq_true (by kernel_rfl)) h
--SIMP 25 c25 c25S0 c25S1 c25S2 c25S3 c25S4 TYS 3 5 9 FNS 26
@[go_sem] theorem go25 : goFunc Try.prog 25 = true := by kernel_rfl
/- Function 26: math-bits.TrailingZeros8 -/
noncomputable def str256x339595612 : List UInt8 := [8, 0, 1, 0, 2, 0, 1, 0, 3, 0, 1, 0, 2, 0, 1, 0, 4, 0, 1, 0, 2, 0, 1, 0, 3, 0, 1, 0, 2, 0, 1, 0, 5, 0, 1, 0, 2, 0, 1, 0, 3, 0, 1, 0, 2, 0, 1, 0, 4, 0, 1, 0, 2, 0, 1, 0, 3, 0, 1, 0, 2, 0, 1, 0, 6, 0, 1, 0, 2, 0, 1, 0, 3, 0, 1, 0, 2, 0, 1, 0, 4, 0, 1, 0, 2, 0, 1, 0, 3, 0, 1, 0, 2, 0, 1, 0, 5, 0, 1, 0, 2, 0, 1, 0, 3, 0, 1, 0, 2, 0, 1, 0, 4, 0, 1, 0, 2, 0, 1, 0, 3, 0, 1, 0, 2, 0, 1, 0, 7, 0, 1, 0, 2, 0, 1, 0, 3, 0, 1, 0, 2, 0, 1, 0, 4, 0, 1, 0, 2, 0, 1, 0, 3, 0, 1, 0, 2, 0, 1, 0, 5, 0, 1, 0, 2, 0, 1, 0, 3, 0, 1, 0, 2, 0, 1, 0, 4, 0, 1, 0, 2, 0, 1, 0, 3, 0, 1, 0, 2, 0, 1, 0, 6, 0, 1, 0, 2, 0, 1, 0, 3, 0, 1, 0, 2, 0, 1, 0, 4, 0, 1, 0, 2, 0, 1, 0, 3, 0, 1, 0, 2, 0, 1, 0, 5, 0, 1, 0, 2, 0, 1, 0, 3, 0, 1, 0, 2, 0, 1, 0, 4, 0, 1, 0, 2, 0, 1, 0, 3, 0, 1, 0, 2, 0, 1, 0]
noncomputable def c26code : Code := match Try.f26.body with | some c => c | none => .skip
noncomputable def c26 : Cmd := (.seq (.ops [
 ⟨some 2, .assign (.const (.int .i64 0)), 3, none⟩] [0])
 (.seq (.ops [
 ⟨some 3, .move (.tmp 0), 5, none⟩,
 ⟨some 4, .index 9 (.const (.string (ofL str256x339595612))) (.tmp 3), 5, none⟩,
 ⟨some 5, .convert 5 3 (.tmp 4), 3, none⟩,
 ⟨some 2, .assign (.tmp 5), 3, none⟩] [2])
 .ret))
theorem ent26 (a0 : Value) (w : World) (K : Value → World → Prop) (h : W Try.prog c26 [(0, a0)] w (finQ Try.prog [.tmp 2] K)) : Ret Try.prog 26 [a0] w K :=
  Ret_of_W (code := c26code) Try.func26 (by kernel_rfl) (by kernel_rfl) (of_decide_eq_true (by kernel_rfl)) h
--SIMP 26 c26 TYS 3 5 9 FNS 
@[go_sem] theorem go26 : goFunc Try.prog 26 = true := by kernel_rfl
end Go.Proofs.Ytnhgafpoonnamaa
