/- Texts put together by program. -/
import Derived.Test.YtoadmihnihfjkaaGreatQF3
set_option linter.unusedSimpArgs false
set_option linter.unusedVariables false
set_option maxRecDepth 100000
noncomputable section

namespace Go.Proofs.YtoadmihnihfjkaaGreat
open Go Go.Ann
@[go_sem] theorem go95:goFunc Tryz.prog 95=true:=by kernel_rfl
def c96code:Code:=match Tryz.f96.body with | some c=>c | none=>.skip
def c96S0(_:Unit):Cmd:=.ret
def c96S1(_:Unit):Cmd:=(.cond (.tmp 41)
 (.seq (.ops [
 ⟨some 42,.fieldAddr 52 (.tmp 3) 6,0,none⟩,
 ⟨some 43,.load 3 (.tmp 42),3,none⟩,
 ⟨some 44,.buildSlice 25 1 #[(0,(.tmp 43))],25,none⟩,
 ⟨some 4,.assign (.tmp 44),25,none⟩,
 ⟨some 5,.assign (.const (.int .i64 1)),3,none⟩,
 ⟨some 6,.assign (.const (.bool true)),4,none⟩] [4,5,6])
 .ret)
 (.skip [0]))
def c96S2(_:Unit):Cmd:=(.seq (.ops [
 ⟨some 45,.move (.tmp 0),25,none⟩,
 ⟨some 4,.assign (.tmp 45),25,none⟩,
 ⟨some 5,.assign (.const (.int .i64 0)),3,none⟩,
 ⟨some 6,.assign (.const (.bool true)),4,none⟩] [4,5,6])
 .ret)
def c96S3(_:Unit):Cmd:=(.seq (.ops [
 ⟨some 4,.assign (.const (.slice none 0 0)),25,none⟩,
 ⟨some 5,.assign (.const (.int .i64 0)),3,none⟩,
 ⟨some 6,.assign (.const (.bool false)),4,none⟩] [4,5,6])
 .ret)
def c96:Cmd:=(.seq (.ops [
 ⟨some 3,.box 52 (.tmp 1),0,none⟩,
 ⟨some 4,.assign (.const (.slice none 0 0)),25,none⟩,
 ⟨some 5,.assign (.const (.int .i64 0)),3,none⟩,
 ⟨some 6,.assign (.const (.bool false)),4,none⟩] [0,3])
 (.seq (.block 0 (.seq (.ops [
 ⟨some 8,.fieldAddr 52 (.tmp 3) 4,0,none⟩,
 ⟨some 9,.load 3 (.tmp 8),3,none⟩,
 ⟨some 10,.binOp .eql 3 (.tmp 9) (.const (.int .i64 1)) 3,4,none⟩,
 ⟨some 7,.assign (.tmp 10),4,none⟩] [0,3,7])
 (.cond (.tmp 7)
 (.seq (.draw (drawOps 0 c96code) [4,5,6]) (sg c96S0))
 (.seq (.ops [
 ⟨some 16,.fieldAddr 52 (.tmp 3) 3,0,none⟩,
 ⟨some 17,.load 3 (.tmp 16),3,none⟩,
 ⟨some 18,.binOp .eql 3 (.tmp 17) (.const (.int .i64 1)) 3,4,none⟩,
 ⟨some 19,.move (.tmp 18),4,none⟩,
 ⟨some 20,.fieldAddr 52 (.tmp 3) 4,0,(some (19,true))⟩,
 ⟨some 21,.load 3 (.tmp 20),3,(some (19,true))⟩,
 ⟨some 22,.binOp .eql 3 (.tmp 21) (.const (.int .i64 2)) 3,4,(some (19,true))⟩,
 ⟨some 23,.pick (.tmp 19) (.tmp 22) (.const (.bool false)),4,none⟩,
 ⟨some 15,.assign (.tmp 23),4,none⟩] [0,3,15])
 (.cond (.tmp 15)
 (.seq (.ops [
 ⟨some 24,.fieldAddr 52 (.tmp 3) 5,0,none⟩,
 ⟨some 25,.load 3 (.tmp 24),3,none⟩,
 ⟨some 26,.buildSlice 25 1 #[(0,(.tmp 25))],25,none⟩,
 ⟨some 4,.assign (.tmp 26),25,none⟩,
 ⟨some 5,.assign (.const (.int .i64 0)),3,none⟩,
 ⟨some 6,.assign (.const (.bool true)),4,none⟩] [4,5,6])
 .ret)
 (.seq (.ops [
 ⟨some 28,.fieldAddr 52 (.tmp 3) 3,0,none⟩,
 ⟨some 29,.load 3 (.tmp 28),3,none⟩,
 ⟨some 30,.binOp .eql 3 (.tmp 29) (.const (.int .i64 1)) 3,4,none⟩,
 ⟨some 31,.move (.tmp 30),4,none⟩,
 ⟨some 32,.fieldAddr 52 (.tmp 3) 4,0,(some (31,true))⟩,
 ⟨some 33,.load 3 (.tmp 32),3,(some (31,true))⟩,
 ⟨some 34,.binOp .eql 3 (.tmp 33) (.const (.int .i64 3)) 3,4,(some (31,true))⟩,
 ⟨some 35,.pick (.tmp 31) (.tmp 34) (.const (.bool false)),4,none⟩,
 ⟨some 27,.assign (.tmp 35),4,none⟩] [0,3,27])
 (.cond (.tmp 27)
 (.seq (.seq (.draw (drawOps 1 c96code) [0,3,41]) (sg c96S1)) (sg c96S2))
 (.seq (.ops [
 ⟨some 47,.fieldAddr 52 (.tmp 3) 3,0,none⟩,
 ⟨some 48,.load 3 (.tmp 47),3,none⟩,
 ⟨some 49,.binOp .eql 3 (.tmp 48) (.const (.int .i64 2)) 3,4,none⟩,
 ⟨some 50,.move (.tmp 49),4,none⟩,
 ⟨some 51,.fieldAddr 52 (.tmp 3) 4,0,(some (50,true))⟩,
 ⟨some 52,.load 3 (.tmp 51),3,(some (50,true))⟩,
 ⟨some 53,.binOp .eql 3 (.tmp 52) (.const (.int .i64 4)) 3,4,(some (50,true))⟩,
 ⟨some 54,.pick (.tmp 50) (.tmp 53) (.const (.bool false)),4,none⟩,
 ⟨some 46,.assign (.tmp 54),4,none⟩] [0,3,46])
 (.cond (.tmp 46)
 (.seq (.opsX [
 ⟨some 55,.move (.tmp 0),25,none⟩,
 ⟨some 56,.indexAddr 25 (.tmp 55) (.const (.int .i64 0)),0,none⟩,
 ⟨some 57,.load 3 (.tmp 56),3,none⟩,
 ⟨some 58,.binOp .add 3 (.tmp 57) (.const (.int .i64 1)) 3,3,none⟩,
 ⟨some 59,.buildSlice 25 1 #[(0,(.tmp 58))],25,none⟩,
 ⟨some 4,.assign (.tmp 59),25,none⟩,
 ⟨some 5,.assign (.const (.int .i64 0)),3,none⟩,
 ⟨some 6,.assign (.const (.bool true)),4,none⟩] [4,5,6])
 .ret)
 (.seq (.ops [
 ⟨some 61,.fieldAddr 52 (.tmp 3) 3,0,none⟩,
 ⟨some 62,.load 3 (.tmp 61),3,none⟩,
 ⟨some 63,.binOp .eql 3 (.tmp 62) (.const (.int .i64 2)) 3,4,none⟩,
 ⟨some 64,.move (.tmp 63),4,none⟩,
 ⟨some 65,.fieldAddr 52 (.tmp 3) 4,0,(some (64,true))⟩,
 ⟨some 66,.load 3 (.tmp 65),3,(some (64,true))⟩,
 ⟨some 67,.binOp .eql 3 (.tmp 66) (.const (.int .i64 5)) 3,4,(some (64,true))⟩,
 ⟨some 68,.pick (.tmp 64) (.tmp 67) (.const (.bool false)),4,none⟩,
 ⟨some 60,.assign (.tmp 68),4,none⟩] [0,60])
 (.cond (.tmp 60)
 (.seq (.opsX [
 ⟨some 69,.move (.tmp 0),25,none⟩,
 ⟨some 70,.indexAddr 25 (.tmp 69) (.const (.int .i64 0)),0,none⟩,
 ⟨some 71,.load 3 (.tmp 70),3,none⟩,
 ⟨some 72,.binOp .sub 3 (.tmp 71) (.const (.int .i64 1)) 3,3,none⟩,
 ⟨some 73,.buildSlice 25 1 #[(0,(.tmp 72))],25,none⟩,
 ⟨some 4,.assign (.tmp 73),25,none⟩,
 ⟨some 5,.assign (.const (.int .i64 0)),3,none⟩,
 ⟨some 6,.assign (.const (.bool true)),4,none⟩] [4,5,6])
 .ret)
 (.skip [])))))))))))) (sg c96S3)))
attribute [go_sem] c96 c96S0 c96S1 c96S2 c96S3
def c96D0:List (Bool × Ins):=[
 (true,⟨some 11,.move (.tmp 0),25,none⟩),
 (true,⟨some 12,.move (.tmp 0),25,none⟩),
 (true,⟨some 13,.indexAddr 25 (.tmp 12) (.const (.int .i64 0)),0,none⟩),
 (true,⟨some 4,.assign (.tmp 11),25,none⟩),
 (false,⟨some 14,.load 3 (.tmp 13),3,none⟩),
 (true,⟨some 5,.assign (.tmp 14),3,none⟩),
 (true,⟨some 6,.assign (.const (.bool true)),4,none⟩)]
theorem c96draw0{L:List Nat}{ρ:Env}{w:World}{Q:Post}(h:DL Tryz.prog c96D0 L ρ w.drew Q):drawW Tryz.prog (drawOps 0 c96code) L ρ w Q :=
 drawW_by [(true,0),(true,1),(true,2),(true,4),(false,3),(true,5),(true,6)] c96D0 (by kernel_rfl) (by kernel_rfl) (by kernel_rfl) h
def c96D1:List (Bool × Ins):=[
 (true,⟨some 36,.move (.tmp 0),25,none⟩),
 (true,⟨some 37,.indexAddr 25 (.tmp 36) (.const (.int .i64 0)),0,none⟩),
 (false,⟨some 38,.load 3 (.tmp 37),3,none⟩),
 (true,⟨some 39,.fieldAddr 52 (.tmp 3) 5,0,none⟩),
 (false,⟨some 40,.load 3 (.tmp 39),3,none⟩),
 (true,⟨some 41,.binOp .eql 3 (.tmp 38) (.tmp 40) 3,4,none⟩)]
theorem c96draw1{L:List Nat}{ρ:Env}{w:World}{Q:Post}(h:DL Tryz.prog c96D1 L ρ w.drew Q):drawW Tryz.prog (drawOps 1 c96code) L ρ w Q :=
 drawW_still [true,true,false,true,false,true] c96D1 (by kernel_rfl) (by kernel_rfl) (by kernel_rfl) h
theorem ent96(a0 a1:Value)(w:World)(K:Value→World→Prop)(h:W Tryz.prog c96 [(0,a0),(1,a1)] w (finQ Tryz.prog [.tmp 4,.tmp 5,.tmp 6] K)):Ret Tryz.prog 96 [a0,a1] w K :=
 Ret_of_W (code:=c96code) Tryz.func96 (by kernel_rfl) (by kernel_rfl) (of_decide_eq_true (by kernel_rfl)) h
@[go_sem] theorem go96:goFunc Tryz.prog 96=true:=by kernel_rfl
def c97code:Code:=match Tryz.f97.body with | some c=>c | none=>.skip
def c97S0(_:Unit):Cmd:=.ret
def c97S1(_:Unit):Cmd:=.ret
def c97S2(_:Unit):Cmd:=(.seq (.draw (drawOps 0 c97code) [4,5,6]) (sg c97S1))
def c97S3(_:Unit):Cmd:=.ret
def c97S4(_:Unit):Cmd:=(.seq (.draw (drawOps 1 c97code) [4,5,6]) (sg c97S3))
def c97S5(_:Unit):Cmd:=(.cond (.tmp 10)
 (.seq (.ops [
 ⟨some 27,.move (.tmp 0),25,none⟩,
 ⟨some 28,.fieldAddr 52 (.tmp 3) 5,0,none⟩,
 ⟨some 29,.load 3 (.tmp 28),3,none⟩,
 ⟨some 30,.buildSlice 25 1 #[(0,(.tmp 29))],25,none⟩,
 ⟨some 31,.call ⟨.builtin .append,#[(.tmp 27),(.tmp 30)],#[25,25]⟩,25,none⟩,
 ⟨some 4,.assign (.tmp 31),25,none⟩,
 ⟨some 5,.assign (.const (.int .i64 0)),3,none⟩,
 ⟨some 6,.assign (.const (.bool true)),4,none⟩] [4,5,6]) (sg c97S0))
 (.seq (.ops [
 ⟨some 33,.fieldAddr 52 (.tmp 3) 3,0,none⟩,
 ⟨some 34,.load 3 (.tmp 33),3,none⟩,
 ⟨some 35,.binOp .eql 3 (.tmp 34) (.const (.int .i64 3)) 3,4,none⟩,
 ⟨some 36,.move (.tmp 35),4,none⟩,
 ⟨some 37,.fieldAddr 52 (.tmp 3) 4,0,(some (36,true))⟩,
 ⟨some 38,.load 3 (.tmp 37),3,(some (36,true))⟩,
 ⟨some 39,.binOp .eql 3 (.tmp 38) (.const (.int .i64 7)) 3,4,(some (36,true))⟩,
 ⟨some 40,.pick (.tmp 36) (.tmp 39) (.const (.bool false)),4,none⟩,
 ⟨some 32,.assign (.tmp 40),4,none⟩] [0,3,7,32])
 (.cond (.tmp 32)
 (.seq (.seq (.ops [
 ⟨some 41,.move (.tmp 7),3,none⟩,
 ⟨some 42,.binOp .eql 3 (.tmp 41) (.const (.int .i64 0)) 3,4,none⟩] [0,42])
 (.cond (.tmp 42)
 (.seq (.ops [
 ⟨some 43,.move (.tmp 0),25,none⟩,
 ⟨some 4,.assign (.tmp 43),25,none⟩,
 ⟨some 5,.assign (.const (.int .i64 (-1))),3,none⟩,
 ⟨some 6,.assign (.const (.bool true)),4,none⟩] [4,5,6])
 .ret)
 (.skip [0]))) (sg c97S2))
 (.seq (.ops [
 ⟨some 50,.fieldAddr 52 (.tmp 3) 3,0,none⟩,
 ⟨some 51,.load 3 (.tmp 50),3,none⟩,
 ⟨some 52,.binOp .eql 3 (.tmp 51) (.const (.int .i64 4)) 3,4,none⟩,
 ⟨some 53,.move (.tmp 52),4,none⟩,
 ⟨some 54,.fieldAddr 52 (.tmp 3) 4,0,(some (53,true))⟩,
 ⟨some 55,.load 3 (.tmp 54),3,(some (53,true))⟩,
 ⟨some 56,.binOp .eql 3 (.tmp 55) (.const (.int .i64 9)) 3,4,(some (53,true))⟩,
 ⟨some 57,.pick (.tmp 53) (.tmp 56) (.const (.bool false)),4,none⟩,
 ⟨some 49,.assign (.tmp 57),4,none⟩] [0,7,49])
 (.cond (.tmp 49)
 (.seq (.seq (.ops [
 ⟨some 58,.move (.tmp 7),3,none⟩,
 ⟨some 59,.binOp .eql 3 (.tmp 58) (.const (.int .i64 0)) 3,4,none⟩] [0,7,59])
 (.cond (.tmp 59)
 (.seq (.ops [
 ⟨some 60,.move (.tmp 0),25,none⟩,
 ⟨some 4,.assign (.tmp 60),25,none⟩,
 ⟨some 5,.assign (.const (.int .i64 (-1))),3,none⟩,
 ⟨some 6,.assign (.const (.bool true)),4,none⟩] [4,5,6])
 .ret)
 (.skip [0,7]))) (sg c97S4))
 (.skip []))))))
def c97S6(_:Unit):Cmd:=(.seq (.ops [
 ⟨some 4,.assign (.const (.slice none 0 0)),25,none⟩,
 ⟨some 5,.assign (.const (.int .i64 0)),3,none⟩,
 ⟨some 6,.assign (.const (.bool false)),4,none⟩] [4,5,6])
 .ret)
def c97:Cmd:=(.seq (.ops [
 ⟨some 3,.box 52 (.tmp 1),0,none⟩,
 ⟨some 4,.assign (.const (.slice none 0 0)),25,none⟩,
 ⟨some 5,.assign (.const (.int .i64 0)),3,none⟩,
 ⟨some 6,.assign (.const (.bool false)),4,none⟩] [0,3])
 (.seq (.ops [
 ⟨some 8,.move (.tmp 0),25,none⟩,
 ⟨some 9,.call ⟨.builtin .len,#[(.tmp 8)],#[25]⟩,3,none⟩,
 ⟨some 7,.assign (.tmp 9),3,none⟩] [0,3,7])
 (.seq (.block 0 (.seq (.seq (.ops [
 ⟨some 11,.fieldAddr 52 (.tmp 3) 3,0,none⟩,
 ⟨some 12,.load 3 (.tmp 11),3,none⟩,
 ⟨some 13,.binOp .eql 3 (.tmp 12) (.const (.int .i64 3)) 3,4,none⟩,
 ⟨some 14,.move (.tmp 13),4,none⟩,
 ⟨some 15,.fieldAddr 52 (.tmp 3) 4,0,(some (14,true))⟩,
 ⟨some 16,.load 3 (.tmp 15),3,(some (14,true))⟩,
 ⟨some 17,.binOp .eql 3 (.tmp 16) (.const (.int .i64 6)) 3,4,(some (14,true))⟩,
 ⟨some 18,.pick (.tmp 14) (.tmp 17) (.const (.bool false)),4,none⟩,
 ⟨some 10,.assign (.tmp 18),4,none⟩] [0,3,7,10])
 (.cond (.tmp 10)
 (.skip [0,3,7,10])
 (.ops [
 ⟨some 19,.fieldAddr 52 (.tmp 3) 3,0,none⟩,
 ⟨some 20,.load 3 (.tmp 19),3,none⟩,
 ⟨some 21,.binOp .eql 3 (.tmp 20) (.const (.int .i64 4)) 3,4,none⟩,
 ⟨some 22,.move (.tmp 21),4,none⟩,
 ⟨some 23,.fieldAddr 52 (.tmp 3) 4,0,(some (22,true))⟩,
 ⟨some 24,.load 3 (.tmp 23),3,(some (22,true))⟩,
 ⟨some 25,.binOp .eql 3 (.tmp 24) (.const (.int .i64 8)) 3,4,(some (22,true))⟩,
 ⟨some 26,.pick (.tmp 22) (.tmp 25) (.const (.bool false)),4,none⟩,
 ⟨some 10,.assign (.tmp 26),4,none⟩] [0,3,7,10]))) (sg c97S5))) (sg c97S6))))
attribute [go_sem] c97 c97S0 c97S1 c97S2 c97S3 c97S4 c97S5 c97S6
def c97D0:List (Bool × Ins):=[
 (true,⟨some 44,.move (.tmp 0),25,none⟩),
 (true,⟨some 45,.slice 25 (.tmp 44) (some (.const (.int .i64 1))) none none,25,none⟩),
 (true,⟨some 46,.move (.tmp 0),25,none⟩),
 (true,⟨some 47,.indexAddr 25 (.tmp 46) (.const (.int .i64 0)),0,none⟩),
 (true,⟨some 4,.assign (.tmp 45),25,none⟩),
 (false,⟨some 48,.load 3 (.tmp 47),3,none⟩),
 (true,⟨some 5,.assign (.tmp 48),3,none⟩),
 (true,⟨some 6,.assign (.const (.bool true)),4,none⟩)]
theorem c97draw0{L:List Nat}{ρ:Env}{w:World}{Q:Post}(h:DL Tryz.prog c97D0 L ρ w.drew Q):drawW Tryz.prog (drawOps 0 c97code) L ρ w Q :=
 drawW_by [(true,0),(true,1),(true,2),(true,3),(true,5),(false,4),(true,6),(true,7)] c97D0 (by kernel_rfl) (by kernel_rfl) (by kernel_rfl) h
def c97D1:List (Bool × Ins):=[
 (true,⟨some 61,.move (.tmp 0),25,none⟩),
 (true,⟨some 62,.move (.tmp 7),3,none⟩),
 (true,⟨some 63,.binOp .sub 3 (.tmp 62) (.const (.int .i64 1)) 3,3,none⟩),
 (true,⟨some 64,.slice 25 (.tmp 61) none (some (.tmp 63)) none,25,none⟩),
 (true,⟨some 65,.move (.tmp 0),25,none⟩),
 (true,⟨some 66,.move (.tmp 7),3,none⟩),
 (true,⟨some 67,.binOp .sub 3 (.tmp 66) (.const (.int .i64 1)) 3,3,none⟩),
 (true,⟨some 68,.indexAddr 25 (.tmp 65) (.tmp 67),0,none⟩),
 (true,⟨some 4,.assign (.tmp 64),25,none⟩),
 (false,⟨some 69,.load 3 (.tmp 68),3,none⟩),
 (true,⟨some 5,.assign (.tmp 69),3,none⟩),
 (true,⟨some 6,.assign (.const (.bool true)),4,none⟩)]
theorem c97draw1{L:List Nat}{ρ:Env}{w:World}{Q:Post}(h:DL Tryz.prog c97D1 L ρ w.drew Q):drawW Tryz.prog (drawOps 1 c97code) L ρ w Q :=
 drawW_by [(true,0),(true,1),(true,2),(true,3),(true,4),(true,5),(true,6),(true,7),(true,9),(false,8),(true,10),(true,11)] c97D1 (by kernel_rfl) (by kernel_rfl) (by kernel_rfl) h
theorem ent97(a0 a1:Value)(w:World)(K:Value→World→Prop)(h:W Tryz.prog c97 [(0,a0),(1,a1)] w (finQ Tryz.prog [.tmp 4,.tmp 5,.tmp 6] K)):Ret Tryz.prog 97 [a0,a1] w K :=
 Ret_of_W (code:=c97code) Tryz.func97 (by kernel_rfl) (by kernel_rfl) (of_decide_eq_true (by kernel_rfl)) h
@[go_sem] theorem go97:goFunc Tryz.prog 97=true:=by kernel_rfl
def c98code:Code:=match Tryz.f98.body with | some c=>c | none=>.skip
def c98S0(_:Unit):Cmd:=.ret
def c98S1(_:Unit):Cmd:=.ret
def c98S2(_:Unit):Cmd:=.ret
def c98S3(_:Unit):Cmd:=(.cond (.tmp 16)
 (.seq (.ops [
 ⟨some 33,.move (.tmp 0),25,none⟩,
 ⟨some 34,.fieldAddr 52 (.tmp 3) 4,0,none⟩,
 ⟨some 35,.load 3 (.tmp 34),3,none⟩,
 ⟨some 36,.binOp .eql 3 (.tmp 35) (.const (.int .i64 12)) 3,4,none⟩,
 ⟨some 37,.move (.tmp 36),4,none⟩,
 ⟨some 38,.move (.tmp 8),4,(some (37,true))⟩,
 ⟨some 39,.pick (.tmp 37) (.tmp 38) (.const (.bool false)),4,none⟩,
 ⟨some 40,.call ⟨.value (.func 119),#[(.tmp 39)],#[4]⟩,3,none⟩,
 ⟨some 4,.assign (.tmp 33),25,none⟩,
 ⟨some 5,.assign (.tmp 40),3,none⟩,
 ⟨some 6,.assign (.const (.bool true)),4,none⟩] [4,5,6]) (sg c98S0))
 (.seq (.ops [
 ⟨some 42,.fieldAddr 52 (.tmp 3) 4,0,none⟩,
 ⟨some 43,.load 3 (.tmp 42),3,none⟩,
 ⟨some 44,.binOp .eql 3 (.tmp 43) (.const (.int .i64 10)) 3,4,none⟩,
 ⟨some 41,.assign (.tmp 44),4,none⟩] [0,3,7,41])
 (.cond (.tmp 41)
 (.seq (.ops [
 ⟨some 45,.move (.tmp 0),25,none⟩,
 ⟨some 46,.move (.tmp 7),3,none⟩,
 ⟨some 47,.fieldAddr 52 (.tmp 3) 5,0,none⟩,
 ⟨some 48,.load 3 (.tmp 47),3,none⟩,
 ⟨some 49,.buildSlice 25 1 #[(0,(.tmp 48))],25,none⟩,
 ⟨some 50,.call ⟨.value (.func 120),#[(.tmp 45),(.tmp 46),(.tmp 49)],#[25,3,25]⟩,25,none⟩,
 ⟨some 4,.assign (.tmp 50),25,none⟩,
 ⟨some 5,.assign (.const (.int .i64 1)),3,none⟩,
 ⟨some 6,.assign (.const (.bool true)),4,none⟩] [4,5,6]) (sg c98S1))
 (.seq (.ops [
 ⟨some 52,.fieldAddr 52 (.tmp 3) 4,0,none⟩,
 ⟨some 53,.load 3 (.tmp 52),3,none⟩,
 ⟨some 54,.binOp .eql 3 (.tmp 53) (.const (.int .i64 11)) 3,4,none⟩,
 ⟨some 51,.assign (.tmp 54),4,none⟩] [0,7,51])
 (.cond (.tmp 51)
 (.seq (.ops [
 ⟨some 55,.move (.tmp 0),25,none⟩,
 ⟨some 56,.move (.tmp 7),3,none⟩,
 ⟨some 57,.move (.tmp 7),3,none⟩,
 ⟨some 58,.binOp .add 3 (.tmp 57) (.const (.int .i64 1)) 3,3,none⟩,
 ⟨some 59,.call ⟨.value (.func 121),#[(.tmp 55),(.tmp 56),(.tmp 58)],#[25,3,3]⟩,25,none⟩,
 ⟨some 4,.assign (.tmp 59),25,none⟩,
 ⟨some 5,.assign (.const (.int .i64 1)),3,none⟩,
 ⟨some 6,.assign (.const (.bool true)),4,none⟩] [4,5,6]) (sg c98S2))
 (.skip []))))))
def c98S4(_:Unit):Cmd:=(.seq (.ops [
 ⟨some 4,.assign (.const (.slice none 0 0)),25,none⟩,
 ⟨some 5,.assign (.const (.int .i64 0)),3,none⟩,
 ⟨some 6,.assign (.const (.bool false)),4,none⟩] [4,5,6])
 .ret)
def c98S5(_:Unit):Cmd:=(.seq (.block 0 (.seq (.seq (.ops [
 ⟨some 17,.fieldAddr 52 (.tmp 3) 4,0,none⟩,
 ⟨some 18,.load 3 (.tmp 17),3,none⟩,
 ⟨some 19,.binOp .eql 3 (.tmp 18) (.const (.int .i64 12)) 3,4,none⟩,
 ⟨some 16,.assign (.tmp 19),4,none⟩] [0,3,7,8,16])
 (.cond (.tmp 16)
 (.skip [0,3,7,8,16])
 (.seq (.ops [
 ⟨some 20,.fieldAddr 52 (.tmp 3) 4,0,none⟩,
 ⟨some 21,.load 3 (.tmp 20),3,none⟩,
 ⟨some 22,.binOp .eql 3 (.tmp 21) (.const (.int .i64 10)) 3,4,none⟩,
 ⟨some 23,.move (.tmp 22),4,none⟩,
 ⟨some 24,.move (.tmp 8),4,(some (23,true))⟩,
 ⟨some 25,.pick (.tmp 23) (.tmp 24) (.const (.bool false)),4,none⟩,
 ⟨some 16,.assign (.tmp 25),4,none⟩] [0,3,7,8,16])
 (.cond (.tmp 16)
 (.skip [0,3,7,8,16])
 (.ops [
 ⟨some 26,.fieldAddr 52 (.tmp 3) 4,0,none⟩,
 ⟨some 27,.load 3 (.tmp 26),3,none⟩,
 ⟨some 28,.binOp .eql 3 (.tmp 27) (.const (.int .i64 11)) 3,4,none⟩,
 ⟨some 29,.move (.tmp 28),4,none⟩,
 ⟨some 30,.move (.tmp 8),4,(some (29,true))⟩,
 ⟨some 31,.unOp .not 4 (.tmp 30),4,(some (29,true))⟩,
 ⟨some 32,.pick (.tmp 29) (.tmp 31) (.const (.bool false)),4,none⟩,
 ⟨some 16,.assign (.tmp 32),4,none⟩] [0,3,7,8,16]))))) (sg c98S3))) (sg c98S4))
def c98:Cmd:=(.seq (.ops [
 ⟨some 3,.box 52 (.tmp 1),0,none⟩,
 ⟨some 4,.assign (.const (.slice none 0 0)),25,none⟩,
 ⟨some 5,.assign (.const (.int .i64 0)),3,none⟩,
 ⟨some 6,.assign (.const (.bool false)),4,none⟩] [0,3])
 (.seq (.ops [
 ⟨some 10,.move (.tmp 0),25,none⟩,
 ⟨some 11,.fieldAddr 52 (.tmp 3) 5,0,none⟩,
 ⟨some 12,.load 3 (.tmp 11),3,none⟩,
 ⟨some 13,.call ⟨.value (.func 118),#[(.tmp 10),(.tmp 12)],#[25,3]⟩,138,none⟩,
 ⟨some 9,.move (.tmp 13),138,none⟩,
 ⟨some 14,.extract (.tmp 9) 0,3,none⟩,
 ⟨some 15,.extract (.tmp 9) 1,4,none⟩,
 ⟨some 7,.assign (.tmp 14),3,none⟩,
 ⟨some 8,.assign (.tmp 15),4,none⟩] [0,3,7,8]) (sg c98S5)))
attribute [go_sem] c98 c98S0 c98S1 c98S2 c98S3 c98S4
theorem ent98(a0 a1:Value)(w:World)(K:Value→World→Prop)(h:W Tryz.prog c98 [(0,a0),(1,a1)] w (finQ Tryz.prog [.tmp 4,.tmp 5,.tmp 6] K)):Ret Tryz.prog 98 [a0,a1] w K :=
 Ret_of_W (code:=c98code) Tryz.func98 (by kernel_rfl) (by kernel_rfl) (of_decide_eq_true (by kernel_rfl)) h
@[go_sem] theorem go98:goFunc Tryz.prog 98=true:=by kernel_rfl
@[go_sem] theorem go99:goFunc Tryz.prog 99=true:=by kernel_rfl
def c100code:Code:=match Tryz.f100.body with | some c=>c | none=>.skip
def c100A0(_:Unit):Cmd:=(.ops [
 ⟨some 5,.assign (.tmp 7),3,none⟩] [2,5])
def c100B0(_:Unit):Cmd:=(.block 1 (.ops [
 ⟨some 8,.load 25 (.tmp 2),25,none⟩,
 ⟨some 9,.move (.tmp 5),3,none⟩,
 ⟨some 10,.buildSlice 25 1 #[(0,(.tmp 9))],25,none⟩,
 ⟨some 11,.call ⟨.builtin .append,#[(.tmp 8),(.tmp 10)],#[25,25]⟩,25,none⟩,
 ⟨none,.store 25 (.tmp 2) (.tmp 11),0,none⟩] []))
def c100S0(_:Unit):Cmd:=(.seq (.ops [
 ⟨some 12,.load 25 (.tmp 2),25,none⟩,
 ⟨some 4,.assign (.tmp 12),25,none⟩] [4])
 .ret)
def c100:Cmd:=(.seq (.ops [
 ⟨some 2,.box 25 (.tmp 0),0,none⟩,
 ⟨some 4,.assign (.const (.slice none 0 0)),25,none⟩] [1,2,4])
 (.seq (.seq (.ops [
 ⟨some 6,.move (.tmp 1),94,none⟩] [2,4,6])
 (.block 0 (.rangeF (.tmp 6) [7] (sg c100A0) (sg c100B0) [2,4]))) (sg c100S0)))
attribute [go_sem] c100 c100S0
theorem ent100(a0 a1:Value)(w:World)(K:Value→World→Prop)(h:W Tryz.prog c100 [(0,a0),(1,a1)] w (finQ Tryz.prog [.tmp 4] K)):Ret Tryz.prog 100 [a0,a1] w K :=
 Ret_of_W (code:=c100code) Tryz.func100 (by kernel_rfl) (by kernel_rfl) (of_decide_eq_true (by kernel_rfl)) h
@[go_sem] theorem go100:goFunc Tryz.prog 100=true:=by kernel_rfl
def c112code:Code:=match Tryz.f112.body with | some c=>c | none=>.skip
def c112S0(_:Unit):Cmd:=(.ops [
 ⟨some 21,.binOp .add 3 (.tmp 12) (.const (.int .i64 1)) 3,3,none⟩,
 ⟨some 12,.move (.tmp 21),3,none⟩] [3,10,11,12])
def c112S1(_:Unit):Cmd:=(.seq (.block 1 (.seq (.ops [
 ⟨some 14,.indexAddr 25 (.tmp 10) (.tmp 12),0,none⟩,
 ⟨some 15,.load 3 (.tmp 14),3,none⟩,
 ⟨some 5,.assign (.tmp 15),3,none⟩] [3,5,10,11,12])
 (.ops [
 ⟨some 16,.move (.tmp 3),9,none⟩,
 ⟨some 17,.move (.tmp 5),3,none⟩,
 ⟨some 18,.call ⟨.value (.func 137),#[(.tmp 17)],#[3]⟩,147,none⟩,
 ⟨some 19,.call ⟨.value (.func 136),#[(.tmp 18)],#[147]⟩,9,none⟩,
 ⟨some 20,.binOp .add 9 (.tmp 16) (.tmp 19) 9,9,none⟩,
 ⟨some 3,.assign (.tmp 20),9,none⟩] [3,10,11,12]))) (sg c112S0))
def c112L0(_:Unit):Cmd:=(.seq (.ops [
 ⟨some 13,.binOp .lss 3 (.tmp 12) (.tmp 11) 3,0,none⟩] [3,10,11,12,13])
 (.seq (.cond (.tmp 13)
 (.skip [3,10,11,12])
 (.exit 0 [3])) (sg c112S1)))
def c112S2(_:Unit):Cmd:=(.seq (.ops [
 ⟨some 22,.move (.tmp 3),9,none⟩,
 ⟨some 2,.assign (.tmp 22),9,none⟩] [2])
 .ret)
def c112S3(_:Unit):Cmd:=(.seq (.seq (.ops [
 ⟨some 10,.move (.tmp 0),25,none⟩,
 ⟨some 11,.call ⟨.builtin .len,#[(.tmp 10)],#[25]⟩,3,none⟩,
 ⟨some 12,.move (.const (.int .i64 0)),3,none⟩] [3,10,11,12])
 (.block 0 (.loop (sg c112L0)))) (sg c112S2))
def c112:Cmd:=(.seq (.ops [
 ⟨some 2,.assign (.const (.string (ofL []))),9,none⟩] [0])
 (.seq (.ops [
 ⟨some 6,.move (.tmp 0),25,none⟩,
 ⟨some 7,.call ⟨.builtin .len,#[(.tmp 6)],#[25]⟩,3,none⟩,
 ⟨some 8,.convert 3 147 (.tmp 7),147,none⟩,
 ⟨some 9,.call ⟨.value (.func 136),#[(.tmp 8)],#[147]⟩,9,none⟩,
 ⟨some 3,.assign (.tmp 9),9,none⟩] [0,3]) (sg c112S3)))
attribute [go_sem] c112 c112S0 c112S1 c112L0 c112S2 c112S3
theorem ent112(a0:Value)(w:World)(K:Value→World→Prop)(h:W Tryz.prog c112 [(0,a0)] w (finQ Tryz.prog [.tmp 2] K)):Ret Tryz.prog 112 [a0] w K :=
 Ret_of_W (code:=c112code) Tryz.func112 (by kernel_rfl) (by kernel_rfl) (of_decide_eq_true (by kernel_rfl)) h
@[go_sem] theorem go112:goFunc Tryz.prog 112=true:=by kernel_rfl
def c113code:Code:=match Tryz.f113.body with | some c=>c | none=>.skip
def c113S0(_:Unit):Cmd:=(.cond (.tmp 34)
 (.skip [0,1,2,3,8,9])
 (.exit 2 [0,1,2,3,8]))
def c113S1(_:Unit):Cmd:=(.ops [
 ⟨some 35,.move (.tmp 9),3,none⟩,
 ⟨some 36,.binOp .sub 3 (.tmp 35) (.const (.int .i64 1)) 3,3,none⟩,
 ⟨some 9,.assign (.tmp 36),3,none⟩] [0,1,2,3,8,9])
def c113S2(_:Unit):Cmd:=(.seq (.block 3 (.draw (drawOps 1 c113code) [0,1,2,3,8,9])) (sg c113S1))
def c113L0(_:Unit):Cmd:=(.seq (.seq (.draw (drawOps 0 c113code) [0,1,2,3,8,9,34]) (sg c113S0)) (sg c113S2))
def c113S3(_:Unit):Cmd:=(.ops [
 ⟨some 15,.move (.tmp 8),3,none⟩,
 ⟨some 16,.binOp .add 3 (.tmp 15) (.const (.int .i64 1)) 3,3,none⟩,
 ⟨some 8,.assign (.tmp 16),3,none⟩] [0,1,2,3,8])
def c113S4(_:Unit):Cmd:=(.seq (.block 1 (.seq (.ops [
 ⟨some 17,.move (.tmp 8),3,none⟩,
 ⟨some 9,.assign (.tmp 17),3,none⟩] [0,1,2,3,8,9])
 (.block 2 (.loop (sg c113L0))))) (sg c113S3))
def c113L1(_:Unit):Cmd:=(.seq (.seq (.ops [
 ⟨some 12,.move (.tmp 8),3,none⟩,
 ⟨some 13,.move (.tmp 2),3,none⟩,
 ⟨some 14,.binOp .lss 3 (.tmp 12) (.tmp 13) 3,4,none⟩] [0,1,2,3,8,14])
 (.cond (.tmp 14)
 (.skip [0,1,2,3,8])
 (.exit 0 []))) (sg c113S4))
def c113:Cmd:=(.seq (.ops [
 ⟨some 10,.move (.tmp 1),3,none⟩,
 ⟨some 11,.binOp .add 3 (.tmp 10) (.const (.int .i64 1)) 3,3,none⟩,
 ⟨some 8,.assign (.tmp 11),3,none⟩] [0,1,2,3,8])
 (.block 0 (.loop (sg c113L1))))
attribute [go_sem] c113 c113S0 c113S1 c113S4
def c113D0:List (Nat × Ins):=[
 (0,⟨some 18,.move (.tmp 9),3,none⟩),
 (0,⟨some 19,.move (.tmp 1),3,none⟩),
 (0,⟨some 20,.binOp .gtr 3 (.tmp 18) (.tmp 19) 3,4,none⟩),
 (0,⟨some 21,.move (.tmp 20),4,none⟩),
 (0,⟨some 22,.move (.tmp 3),110,(some (21,true))⟩),
 (0,⟨some 23,.move (.tmp 0),57,(some (21,true))⟩),
 (0,⟨some 24,.move (.tmp 9),3,(some (21,true))⟩),
 (0,⟨some 25,.indexAddr 57 (.tmp 23) (.tmp 24),0,(some (21,true))⟩),
 (0,⟨some 27,.move (.tmp 0),57,(some (21,true))⟩),
 (0,⟨some 28,.move (.tmp 9),3,(some (21,true))⟩),
 (0,⟨some 29,.binOp .sub 3 (.tmp 28) (.const (.int .i64 1)) 3,3,(some (21,true))⟩),
 (0,⟨some 30,.indexAddr 57 (.tmp 27) (.tmp 29),0,(some (21,true))⟩),
 (1,⟨some 26,.load 65 (.tmp 25),65,(some (21,true))⟩),
 (2,⟨some 31,.load 65 (.tmp 30),65,(some (21,true))⟩),
 (3,⟨some 32,.call ⟨.value (.tmp 22),#[(.tmp 26),(.tmp 31)],#[65,65]⟩,3,(some (21,true))⟩),
 (0,⟨some 33,.binOp .lss 3 (.tmp 32) (.const (.int .i64 0)) 3,4,(some (21,true))⟩),
 (0,⟨some 34,.pick (.tmp 21) (.tmp 33) (.const (.bool false)),4,none⟩)]
theorem c113draw0{L:List Nat}{ρ:Env}{w:World}{Q:Post}(S:World→Prop)(hS:S w.drew)(h:DG Tryz.prog S c113D0 L ρ w.drew Q):drawW Tryz.prog (drawOps 0 c113code) L ρ w Q :=
 drawW_held [8] [(0,0),(0,1),(0,2),(0,3),(0,4),(0,5),(0,6),(0,7),(0,9),(0,10),(0,11),(0,12),(1,8),(2,13),(3,14),(0,15),(0,16)] c113D0 (by kernel_rfl) (by kernel_rfl) (by kernel_rfl) S hS h
def c113D1:List (Nat × Ins):=[
 (0,⟨some 37,.move (.tmp 0),57,none⟩),
 (0,⟨some 38,.move (.tmp 9),3,none⟩),
 (0,⟨some 39,.move (.tmp 0),57,none⟩),
 (0,⟨some 40,.move (.tmp 9),3,none⟩),
 (0,⟨some 41,.binOp .sub 3 (.tmp 40) (.const (.int .i64 1)) 3,3,none⟩),
 (0,⟨some 42,.move (.tmp 0),57,none⟩),
 (0,⟨some 43,.move (.tmp 9),3,none⟩),
 (0,⟨some 44,.binOp .sub 3 (.tmp 43) (.const (.int .i64 1)) 3,3,none⟩),
 (0,⟨some 45,.indexAddr 57 (.tmp 42) (.tmp 44),0,none⟩),
 (0,⟨some 47,.move (.tmp 0),57,none⟩),
 (0,⟨some 48,.move (.tmp 9),3,none⟩),
 (0,⟨some 49,.indexAddr 57 (.tmp 47) (.tmp 48),0,none⟩),
 (1,⟨some 46,.load 65 (.tmp 45),65,none⟩),
 (2,⟨some 50,.load 65 (.tmp 49),65,none⟩),
 (0,⟨some 51,.indexAddr 57 (.tmp 37) (.tmp 38),0,none⟩),
 (3,⟨none,.store 65 (.tmp 51) (.tmp 46),0,none⟩),
 (0,⟨some 52,.indexAddr 57 (.tmp 39) (.tmp 41),0,none⟩),
 (3,⟨none,.store 65 (.tmp 52) (.tmp 50),0,none⟩)]
theorem c113draw1{L:List Nat}{ρ:Env}{w:World}{Q:Post}(S:World→Prop)(hS:S w.drew)(h:DG Tryz.prog S c113D1 L ρ w.drew Q):drawW Tryz.prog (drawOps 1 c113code) L ρ w Q :=
 drawW_held [9] [(0,0),(0,1),(0,2),(0,3),(0,4),(0,5),(0,6),(0,7),(0,8),(0,10),(0,11),(0,12),(1,9),(2,13),(0,14),(3,15),(0,16),(3,17)] c113D1 (by kernel_rfl) (by kernel_rfl) (by kernel_rfl) S hS h
theorem ent113(a0 a1 a2 a3:Value)(w:World)(K:Value→World→Prop)(h:W Tryz.prog c113 [(0,a0),(1,a1),(2,a2),(3,a3)] w (finQ Tryz.prog [] K)):Ret Tryz.prog 113 [a0,a1,a2,a3] w K :=
 Ret_of_W (code:=c113code) Tryz.func113 (by kernel_rfl) (by kernel_rfl) (of_decide_eq_true (by kernel_rfl)) h
@[go_sem] theorem go113:goFunc Tryz.prog 113=true:=by kernel_rfl
def c114code:Code:=match Tryz.f114.body with | some c=>c | none=>.skip
def c114S0(_:Unit):Cmd:=(.cond (.tmp 50)
 (.ops [
 ⟨some 51,.move (.tmp 12),3,none⟩,
 ⟨some 52,.binOp .add 3 (.tmp 51) (.const (.int .i64 1)) 3,3,none⟩,
 ⟨some 10,.assign (.tmp 52),3,none⟩] [0,1,4,10,11])
 (.ops [
 ⟨some 53,.move (.tmp 12),3,none⟩,
 ⟨some 11,.assign (.tmp 53),3,none⟩] [0,1,4,10,11]))
def c114S1(_:Unit):Cmd:=(.block 1 (.seq (.ops [
 ⟨some 34,.move (.tmp 10),3,none⟩,
 ⟨some 35,.move (.tmp 11),3,none⟩,
 ⟨some 36,.binOp .add 3 (.tmp 34) (.tmp 35) 3,3,none⟩,
 ⟨some 37,.convert 3 135 (.tmp 36),135,none⟩,
 ⟨some 38,.binOp .shr 135 (.tmp 37) (.const (.int .u64 1)) 135,135,none⟩,
 ⟨some 39,.convert 135 3 (.tmp 38),3,none⟩,
 ⟨some 12,.assign (.tmp 39),3,none⟩] [0,1,4,10,11,12])
 (.seq (.draw (drawOps 0 c114code) [0,1,4,10,11,12,50]) (sg c114S0))))
def c114L0(_:Unit):Cmd:=(.seq (.seq (.ops [
 ⟨some 31,.move (.tmp 10),3,none⟩,
 ⟨some 32,.move (.tmp 11),3,none⟩,
 ⟨some 33,.binOp .lss 3 (.tmp 31) (.tmp 32) 3,4,none⟩] [0,1,4,10,11,33])
 (.cond (.tmp 33)
 (.skip [0,1,4,10,11])
 (.exit 0 [0,1,10]))) (sg c114S1))
def c114S2(_:Unit):Cmd:=(.ops [
 ⟨some 59,.move (.tmp 13),3,none⟩,
 ⟨some 60,.binOp .add 3 (.tmp 59) (.const (.int .i64 1)) 3,3,none⟩,
 ⟨some 13,.assign (.tmp 60),3,none⟩] [0,10,13])
def c114S3(_:Unit):Cmd:=(.seq (.block 3 (.draw (drawOps 1 c114code) [0,10,13])) (sg c114S2))
def c114L1(_:Unit):Cmd:=(.seq (.seq (.ops [
 ⟨some 55,.move (.tmp 13),3,none⟩,
 ⟨some 56,.move (.tmp 10),3,none⟩,
 ⟨some 57,.binOp .sub 3 (.tmp 56) (.const (.int .i64 1)) 3,3,none⟩,
 ⟨some 58,.binOp .lss 3 (.tmp 55) (.tmp 57) 3,4,none⟩] [0,10,13,58])
 (.cond (.tmp 58)
 (.skip [0,10,13])
 (.exit 2 []))) (sg c114S3))
def c114S4(_:Unit):Cmd:=.ret
def c114S5(_:Unit):Cmd:=(.seq (.seq (.ops [
 ⟨some 54,.move (.tmp 1),3,none⟩,
 ⟨some 13,.assign (.tmp 54),3,none⟩] [0,10,13])
 (.block 2 (.loop (sg c114L1)))) (sg c114S4))
def c114S6(_:Unit):Cmd:=(.cond (.tmp 103)
 (.ops [
 ⟨some 104,.move (.tmp 16),3,none⟩,
 ⟨some 105,.binOp .add 3 (.tmp 104) (.const (.int .i64 1)) 3,3,none⟩,
 ⟨some 14,.assign (.tmp 105),3,none⟩] [0,2,4,14,15])
 (.ops [
 ⟨some 106,.move (.tmp 16),3,none⟩,
 ⟨some 15,.assign (.tmp 106),3,none⟩] [0,2,4,14,15]))
def c114S7(_:Unit):Cmd:=(.block 5 (.seq (.ops [
 ⟨some 86,.move (.tmp 14),3,none⟩,
 ⟨some 87,.move (.tmp 15),3,none⟩,
 ⟨some 88,.binOp .add 3 (.tmp 86) (.tmp 87) 3,3,none⟩,
 ⟨some 89,.convert 3 135 (.tmp 88),135,none⟩,
 ⟨some 90,.binOp .shr 135 (.tmp 89) (.const (.int .u64 1)) 135,135,none⟩,
 ⟨some 91,.convert 135 3 (.tmp 90),3,none⟩,
 ⟨some 16,.assign (.tmp 91),3,none⟩] [0,2,4,14,15,16])
 (.seq (.draw (drawOps 2 c114code) [0,2,4,14,15,16,103]) (sg c114S6))))
def c114L2(_:Unit):Cmd:=(.seq (.seq (.ops [
 ⟨some 83,.move (.tmp 14),3,none⟩,
 ⟨some 84,.move (.tmp 15),3,none⟩,
 ⟨some 85,.binOp .lss 3 (.tmp 83) (.tmp 84) 3,4,none⟩] [0,2,4,14,15,85])
 (.cond (.tmp 85)
 (.skip [0,2,4,14,15])
 (.exit 4 [0,2,14]))) (sg c114S7))
def c114S8(_:Unit):Cmd:=(.ops [
 ⟨some 111,.move (.tmp 17),3,none⟩,
 ⟨some 112,.binOp .sub 3 (.tmp 111) (.const (.int .i64 1)) 3,3,none⟩,
 ⟨some 17,.assign (.tmp 112),3,none⟩] [0,14,17])
def c114S9(_:Unit):Cmd:=(.seq (.block 7 (.draw (drawOps 3 c114code) [0,14,17])) (sg c114S8))
def c114L3(_:Unit):Cmd:=(.seq (.seq (.ops [
 ⟨some 108,.move (.tmp 17),3,none⟩,
 ⟨some 109,.move (.tmp 14),3,none⟩,
 ⟨some 110,.binOp .gtr 3 (.tmp 108) (.tmp 109) 3,4,none⟩] [0,14,17,110])
 (.cond (.tmp 110)
 (.skip [0,14,17])
 (.exit 6 []))) (sg c114S9))
def c114S10(_:Unit):Cmd:=.ret
def c114S11(_:Unit):Cmd:=(.seq (.seq (.ops [
 ⟨some 107,.move (.tmp 2),3,none⟩,
 ⟨some 17,.assign (.tmp 107),3,none⟩] [0,14,17])
 (.block 6 (.loop (sg c114L3)))) (sg c114S10))
def c114S12(_:Unit):Cmd:=(.cond (.tmp 171)
 (.ops [
 ⟨some 172,.move (.tmp 23),3,none⟩,
 ⟨some 173,.binOp .add 3 (.tmp 172) (.const (.int .i64 1)) 3,3,none⟩,
 ⟨some 20,.assign (.tmp 173),3,none⟩] [0,1,2,3,4,18,19,20,21,22])
 (.ops [
 ⟨some 174,.move (.tmp 23),3,none⟩,
 ⟨some 21,.assign (.tmp 174),3,none⟩] [0,1,2,3,4,18,19,20,21,22]))
def c114S13(_:Unit):Cmd:=(.block 9 (.seq (.ops [
 ⟨some 152,.move (.tmp 20),3,none⟩,
 ⟨some 153,.move (.tmp 21),3,none⟩,
 ⟨some 154,.binOp .add 3 (.tmp 152) (.tmp 153) 3,3,none⟩,
 ⟨some 155,.convert 3 135 (.tmp 154),135,none⟩,
 ⟨some 156,.binOp .shr 135 (.tmp 155) (.const (.int .u64 1)) 135,135,none⟩,
 ⟨some 157,.convert 135 3 (.tmp 156),3,none⟩,
 ⟨some 23,.assign (.tmp 157),3,none⟩] [0,1,2,3,4,18,19,20,21,22,23])
 (.seq (.draw (drawOps 4 c114code) [0,1,2,3,4,18,19,20,21,22,23,171]) (sg c114S12))))
def c114L4(_:Unit):Cmd:=(.seq (.seq (.ops [
 ⟨some 149,.move (.tmp 20),3,none⟩,
 ⟨some 150,.move (.tmp 21),3,none⟩,
 ⟨some 151,.binOp .lss 3 (.tmp 149) (.tmp 150) 3,4,none⟩] [0,1,2,3,4,18,19,20,21,22,151])
 (.cond (.tmp 151)
 (.skip [0,1,2,3,4,18,19,20,21,22])
 (.exit 8 [0,1,2,3,4,18,19,20]))) (sg c114S13))
def c114S14(_:Unit):Cmd:=(.seq (.ops [
 ⟨some 206,.move (.tmp 18),3,none⟩,
 ⟨some 207,.move (.tmp 24),3,none⟩,
 ⟨some 208,.binOp .lss 3 (.tmp 206) (.tmp 207) 3,4,none⟩,
 ⟨some 209,.move (.tmp 208),4,none⟩,
 ⟨some 210,.move (.tmp 24),3,(some (209,true))⟩,
 ⟨some 211,.move (.tmp 3),3,(some (209,true))⟩,
 ⟨some 212,.binOp .lss 3 (.tmp 210) (.tmp 211) 3,4,(some (209,true))⟩,
 ⟨some 213,.pick (.tmp 209) (.tmp 212) (.const (.bool false)),4,none⟩] [0,3,4,18,24,213])
 (.cond (.tmp 213)
 (.ops [
 ⟨some 214,.move (.tmp 0),57,none⟩,
 ⟨some 215,.move (.tmp 18),3,none⟩,
 ⟨some 216,.move (.tmp 24),3,none⟩,
 ⟨some 217,.move (.tmp 3),3,none⟩,
 ⟨some 218,.move (.tmp 4),110,none⟩,
 ⟨some 219,.call ⟨.value (.func 114),#[(.tmp 214),(.tmp 215),(.tmp 216),(.tmp 217),(.tmp 218)],#[57,3,3,3,110]⟩,0,none⟩] [])
 (.skip [])))
def c114S15(_:Unit):Cmd:=(.seq (.seq (.ops [
 ⟨some 192,.move (.tmp 1),3,none⟩,
 ⟨some 193,.move (.tmp 20),3,none⟩,
 ⟨some 194,.binOp .lss 3 (.tmp 192) (.tmp 193) 3,4,none⟩,
 ⟨some 195,.move (.tmp 194),4,none⟩,
 ⟨some 196,.move (.tmp 20),3,(some (195,true))⟩,
 ⟨some 197,.move (.tmp 18),3,(some (195,true))⟩,
 ⟨some 198,.binOp .lss 3 (.tmp 196) (.tmp 197) 3,4,(some (195,true))⟩,
 ⟨some 199,.pick (.tmp 195) (.tmp 198) (.const (.bool false)),4,none⟩] [0,1,3,4,18,20,24,199])
 (.cond (.tmp 199)
 (.ops [
 ⟨some 200,.move (.tmp 0),57,none⟩,
 ⟨some 201,.move (.tmp 1),3,none⟩,
 ⟨some 202,.move (.tmp 20),3,none⟩,
 ⟨some 203,.move (.tmp 18),3,none⟩,
 ⟨some 204,.move (.tmp 4),110,none⟩,
 ⟨some 205,.call ⟨.value (.func 114),#[(.tmp 200),(.tmp 201),(.tmp 202),(.tmp 203),(.tmp 204)],#[57,3,3,3,110]⟩,0,none⟩] [0,3,4,18,24])
 (.skip [0,3,4,18,24]))) (sg c114S14))
def c114S16(_:Unit):Cmd:=(.seq (.ops [
 ⟨some 175,.move (.tmp 19),3,none⟩,
 ⟨some 176,.move (.tmp 20),3,none⟩,
 ⟨some 177,.binOp .sub 3 (.tmp 175) (.tmp 176) 3,3,none⟩,
 ⟨some 24,.assign (.tmp 177),3,none⟩] [0,1,2,3,4,18,20,24])
 (.seq (.seq (.ops [
 ⟨some 178,.move (.tmp 20),3,none⟩,
 ⟨some 179,.move (.tmp 2),3,none⟩,
 ⟨some 180,.binOp .lss 3 (.tmp 178) (.tmp 179) 3,4,none⟩,
 ⟨some 181,.move (.tmp 180),4,none⟩,
 ⟨some 182,.move (.tmp 2),3,(some (181,true))⟩,
 ⟨some 183,.move (.tmp 24),3,(some (181,true))⟩,
 ⟨some 184,.binOp .lss 3 (.tmp 182) (.tmp 183) 3,4,(some (181,true))⟩,
 ⟨some 185,.pick (.tmp 181) (.tmp 184) (.const (.bool false)),4,none⟩] [0,1,2,3,4,18,20,24,185])
 (.cond (.tmp 185)
 (.ops [
 ⟨some 186,.move (.tmp 0),57,none⟩,
 ⟨some 187,.move (.tmp 20),3,none⟩,
 ⟨some 188,.move (.tmp 2),3,none⟩,
 ⟨some 189,.move (.tmp 24),3,none⟩,
 ⟨some 190,.move (.tmp 4),110,none⟩,
 ⟨some 191,.call ⟨.value (.func 138),#[(.tmp 186),(.tmp 187),(.tmp 188),(.tmp 189),(.tmp 190)],#[57,3,3,3,110]⟩,0,none⟩] [0,1,3,4,18,20,24])
 (.skip [0,1,3,4,18,20,24]))) (sg c114S15)))
def c114S17(_:Unit):Cmd:=(.seq (.ops [
 ⟨some 147,.move (.tmp 19),3,none⟩,
 ⟨some 148,.binOp .sub 3 (.tmp 147) (.const (.int .i64 1)) 3,3,none⟩,
 ⟨some 22,.assign (.tmp 148),3,none⟩] [0,1,2,3,4,18,19,20,21,22])
 (.seq (.block 8 (.loop (sg c114L4))) (sg c114S16)))
def c114S18(_:Unit):Cmd:=(.seq (.ops [
 ⟨some 129,.move (.tmp 1),3,none⟩,
 ⟨some 130,.move (.tmp 3),3,none⟩,
 ⟨some 131,.binOp .add 3 (.tmp 129) (.tmp 130) 3,3,none⟩,
 ⟨some 132,.convert 3 135 (.tmp 131),135,none⟩,
 ⟨some 133,.binOp .shr 135 (.tmp 132) (.const (.int .u64 1)) 135,135,none⟩,
 ⟨some 134,.convert 135 3 (.tmp 133),3,none⟩,
 ⟨some 18,.assign (.tmp 134),3,none⟩] [0,1,2,3,4,18])
 (.seq (.ops [
 ⟨some 135,.move (.tmp 18),3,none⟩,
 ⟨some 136,.move (.tmp 2),3,none⟩,
 ⟨some 137,.binOp .add 3 (.tmp 135) (.tmp 136) 3,3,none⟩,
 ⟨some 19,.assign (.tmp 137),3,none⟩] [0,1,2,3,4,18,19])
 (.seq (.ops [
 ⟨some 20,.assign (.const (.int .i64 0)),3,none⟩,
 ⟨some 21,.assign (.const (.int .i64 0)),3,none⟩] [0,1,2,3,4,18,19])
 (.seq (.seq (.ops [
 ⟨some 138,.move (.tmp 2),3,none⟩,
 ⟨some 139,.move (.tmp 18),3,none⟩,
 ⟨some 140,.binOp .gtr 3 (.tmp 138) (.tmp 139) 3,4,none⟩] [0,1,2,3,4,18,19,140])
 (.cond (.tmp 140)
 (.seq (.ops [
 ⟨some 141,.move (.tmp 19),3,none⟩,
 ⟨some 142,.move (.tmp 3),3,none⟩,
 ⟨some 143,.binOp .sub 3 (.tmp 141) (.tmp 142) 3,3,none⟩,
 ⟨some 20,.assign (.tmp 143),3,none⟩] [0,1,2,3,4,18,19,20])
 (.ops [
 ⟨some 144,.move (.tmp 18),3,none⟩,
 ⟨some 21,.assign (.tmp 144),3,none⟩] [0,1,2,3,4,18,19,20,21]))
 (.seq (.ops [
 ⟨some 145,.move (.tmp 1),3,none⟩,
 ⟨some 20,.assign (.tmp 145),3,none⟩] [0,1,2,3,4,18,19,20])
 (.ops [
 ⟨some 146,.move (.tmp 2),3,none⟩,
 ⟨some 21,.assign (.tmp 146),3,none⟩] [0,1,2,3,4,18,19,20,21])))) (sg c114S17)))))
def c114S19(_:Unit):Cmd:=(.seq (.seq (.ops [
 ⟨some 77,.move (.tmp 3),3,none⟩,
 ⟨some 78,.move (.tmp 2),3,none⟩,
 ⟨some 79,.binOp .sub 3 (.tmp 77) (.tmp 78) 3,3,none⟩,
 ⟨some 80,.binOp .eql 3 (.tmp 79) (.const (.int .i64 1)) 3,4,none⟩] [0,1,2,3,4,80])
 (.cond (.tmp 80)
 (.seq (.ops [
 ⟨some 81,.move (.tmp 1),3,none⟩,
 ⟨some 14,.assign (.tmp 81),3,none⟩] [0,2,4,14])
 (.seq (.ops [
 ⟨some 82,.move (.tmp 2),3,none⟩,
 ⟨some 15,.assign (.tmp 82),3,none⟩] [0,2,4,14,15])
 (.seq (.block 4 (.loop (sg c114L2))) (sg c114S11))))
 (.skip [0,1,2,3,4]))) (sg c114S18))
def c114:Cmd:=(.seq (.seq (.ops [
 ⟨some 25,.move (.tmp 2),3,none⟩,
 ⟨some 26,.move (.tmp 1),3,none⟩,
 ⟨some 27,.binOp .sub 3 (.tmp 25) (.tmp 26) 3,3,none⟩,
 ⟨some 28,.binOp .eql 3 (.tmp 27) (.const (.int .i64 1)) 3,4,none⟩] [0,1,2,3,4,28])
 (.cond (.tmp 28)
 (.seq (.ops [
 ⟨some 29,.move (.tmp 2),3,none⟩,
 ⟨some 10,.assign (.tmp 29),3,none⟩] [0,1,3,4,10])
 (.seq (.ops [
 ⟨some 30,.move (.tmp 3),3,none⟩,
 ⟨some 11,.assign (.tmp 30),3,none⟩] [0,1,4,10,11])
 (.seq (.block 0 (.loop (sg c114L0))) (sg c114S5))))
 (.skip [0,1,2,3,4]))) (sg c114S19))
attribute [go_sem] c114 c114S1 c114S2 c114S3 c114S4 c114S7 c114S8 c114S9 c114S10 c114S13
def c114D0:List (Nat × Ins):=[
 (0,⟨some 40,.move (.tmp 4),110,none⟩),
 (0,⟨some 41,.move (.tmp 0),57,none⟩),
 (0,⟨some 42,.move (.tmp 12),3,none⟩),
 (0,⟨some 43,.indexAddr 57 (.tmp 41) (.tmp 42),0,none⟩),
 (0,⟨some 45,.move (.tmp 0),57,none⟩),
 (0,⟨some 46,.move (.tmp 1),3,none⟩),
 (0,⟨some 47,.indexAddr 57 (.tmp 45) (.tmp 46),0,none⟩),
 (1,⟨some 44,.load 65 (.tmp 43),65,none⟩),
 (2,⟨some 48,.load 65 (.tmp 47),65,none⟩),
 (3,⟨some 49,.call ⟨.value (.tmp 40),#[(.tmp 44),(.tmp 48)],#[65,65]⟩,3,none⟩),
 (0,⟨some 50,.binOp .lss 3 (.tmp 49) (.const (.int .i64 0)) 3,4,none⟩)]
theorem c114draw0{L:List Nat}{ρ:Env}{w:World}{Q:Post}(S:World→Prop)(hS:S w.drew)(h:DG Tryz.prog S c114D0 L ρ w.drew Q):drawW Tryz.prog (drawOps 0 c114code) L ρ w Q :=
 drawW_held [4] [(0,0),(0,1),(0,2),(0,3),(0,5),(0,6),(0,7),(1,4),(2,8),(3,9),(0,10)] c114D0 (by kernel_rfl) (by kernel_rfl) (by kernel_rfl) S hS h
def c114D1:List (Nat × Ins):=[
 (0,⟨some 61,.move (.tmp 0),57,none⟩),
 (0,⟨some 62,.move (.tmp 13),3,none⟩),
 (0,⟨some 63,.move (.tmp 0),57,none⟩),
 (0,⟨some 64,.move (.tmp 13),3,none⟩),
 (0,⟨some 65,.binOp .add 3 (.tmp 64) (.const (.int .i64 1)) 3,3,none⟩),
 (0,⟨some 66,.move (.tmp 0),57,none⟩),
 (0,⟨some 67,.move (.tmp 13),3,none⟩),
 (0,⟨some 68,.binOp .add 3 (.tmp 67) (.const (.int .i64 1)) 3,3,none⟩),
 (0,⟨some 69,.indexAddr 57 (.tmp 66) (.tmp 68),0,none⟩),
 (0,⟨some 71,.move (.tmp 0),57,none⟩),
 (0,⟨some 72,.move (.tmp 13),3,none⟩),
 (0,⟨some 73,.indexAddr 57 (.tmp 71) (.tmp 72),0,none⟩),
 (1,⟨some 70,.load 65 (.tmp 69),65,none⟩),
 (2,⟨some 74,.load 65 (.tmp 73),65,none⟩),
 (0,⟨some 75,.indexAddr 57 (.tmp 61) (.tmp 62),0,none⟩),
 (3,⟨none,.store 65 (.tmp 75) (.tmp 70),0,none⟩),
 (0,⟨some 76,.indexAddr 57 (.tmp 63) (.tmp 65),0,none⟩),
 (3,⟨none,.store 65 (.tmp 76) (.tmp 74),0,none⟩)]
theorem c114draw1{L:List Nat}{ρ:Env}{w:World}{Q:Post}(S:World→Prop)(hS:S w.drew)(h:DG Tryz.prog S c114D1 L ρ w.drew Q):drawW Tryz.prog (drawOps 1 c114code) L ρ w Q :=
 drawW_held [9] [(0,0),(0,1),(0,2),(0,3),(0,4),(0,5),(0,6),(0,7),(0,8),(0,10),(0,11),(0,12),(1,9),(2,13),(0,14),(3,15),(0,16),(3,17)] c114D1 (by kernel_rfl) (by kernel_rfl) (by kernel_rfl) S hS h
def c114D2:List (Nat × Ins):=[
 (0,⟨some 92,.move (.tmp 4),110,none⟩),
 (0,⟨some 93,.move (.tmp 0),57,none⟩),
 (0,⟨some 94,.move (.tmp 2),3,none⟩),
 (0,⟨some 95,.indexAddr 57 (.tmp 93) (.tmp 94),0,none⟩),
 (0,⟨some 97,.move (.tmp 0),57,none⟩),
 (0,⟨some 98,.move (.tmp 16),3,none⟩),
 (0,⟨some 99,.indexAddr 57 (.tmp 97) (.tmp 98),0,none⟩),
 (1,⟨some 96,.load 65 (.tmp 95),65,none⟩),
 (2,⟨some 100,.load 65 (.tmp 99),65,none⟩),
 (3,⟨some 101,.call ⟨.value (.tmp 92),#[(.tmp 96),(.tmp 100)],#[65,65]⟩,3,none⟩),
 (0,⟨some 102,.binOp .lss 3 (.tmp 101) (.const (.int .i64 0)) 3,4,none⟩),
 (0,⟨some 103,.unOp .not 4 (.tmp 102),4,none⟩)]
theorem c114draw2{L:List Nat}{ρ:Env}{w:World}{Q:Post}(S:World→Prop)(hS:S w.drew)(h:DG Tryz.prog S c114D2 L ρ w.drew Q):drawW Tryz.prog (drawOps 2 c114code) L ρ w Q :=
 drawW_held [4] [(0,0),(0,1),(0,2),(0,3),(0,5),(0,6),(0,7),(1,4),(2,8),(3,9),(0,10),(0,11)] c114D2 (by kernel_rfl) (by kernel_rfl) (by kernel_rfl) S hS h
def c114D3:List (Nat × Ins):=[
 (0,⟨some 113,.move (.tmp 0),57,none⟩),
 (0,⟨some 114,.move (.tmp 17),3,none⟩),
 (0,⟨some 115,.move (.tmp 0),57,none⟩),
 (0,⟨some 116,.move (.tmp 17),3,none⟩),
 (0,⟨some 117,.binOp .sub 3 (.tmp 116) (.const (.int .i64 1)) 3,3,none⟩),
 (0,⟨some 118,.move (.tmp 0),57,none⟩),
 (0,⟨some 119,.move (.tmp 17),3,none⟩),
 (0,⟨some 120,.binOp .sub 3 (.tmp 119) (.const (.int .i64 1)) 3,3,none⟩),
 (0,⟨some 121,.indexAddr 57 (.tmp 118) (.tmp 120),0,none⟩),
 (0,⟨some 123,.move (.tmp 0),57,none⟩),
 (0,⟨some 124,.move (.tmp 17),3,none⟩),
 (0,⟨some 125,.indexAddr 57 (.tmp 123) (.tmp 124),0,none⟩),
 (1,⟨some 122,.load 65 (.tmp 121),65,none⟩),
 (2,⟨some 126,.load 65 (.tmp 125),65,none⟩),
 (0,⟨some 127,.indexAddr 57 (.tmp 113) (.tmp 114),0,none⟩),
 (3,⟨none,.store 65 (.tmp 127) (.tmp 122),0,none⟩),
 (0,⟨some 128,.indexAddr 57 (.tmp 115) (.tmp 117),0,none⟩),
 (3,⟨none,.store 65 (.tmp 128) (.tmp 126),0,none⟩)]
theorem c114draw3{L:List Nat}{ρ:Env}{w:World}{Q:Post}(S:World→Prop)(hS:S w.drew)(h:DG Tryz.prog S c114D3 L ρ w.drew Q):drawW Tryz.prog (drawOps 3 c114code) L ρ w Q :=
 drawW_held [9] [(0,0),(0,1),(0,2),(0,3),(0,4),(0,5),(0,6),(0,7),(0,8),(0,10),(0,11),(0,12),(1,9),(2,13),(0,14),(3,15),(0,16),(3,17)] c114D3 (by kernel_rfl) (by kernel_rfl) (by kernel_rfl) S hS h
def c114D4:List (Nat × Ins):=[
 (0,⟨some 158,.move (.tmp 4),110,none⟩),
 (0,⟨some 159,.move (.tmp 0),57,none⟩),
 (0,⟨some 160,.move (.tmp 22),3,none⟩),
 (0,⟨some 161,.move (.tmp 23),3,none⟩),
 (0,⟨some 162,.binOp .sub 3 (.tmp 160) (.tmp 161) 3,3,none⟩),
 (0,⟨some 163,.indexAddr 57 (.tmp 159) (.tmp 162),0,none⟩),
 (0,⟨some 165,.move (.tmp 0),57,none⟩),
 (0,⟨some 166,.move (.tmp 23),3,none⟩),
 (0,⟨some 167,.indexAddr 57 (.tmp 165) (.tmp 166),0,none⟩),
 (1,⟨some 164,.load 65 (.tmp 163),65,none⟩),
 (2,⟨some 168,.load 65 (.tmp 167),65,none⟩),
 (3,⟨some 169,.call ⟨.value (.tmp 158),#[(.tmp 164),(.tmp 168)],#[65,65]⟩,3,none⟩),
 (0,⟨some 170,.binOp .lss 3 (.tmp 169) (.const (.int .i64 0)) 3,4,none⟩),
 (0,⟨some 171,.unOp .not 4 (.tmp 170),4,none⟩)]
theorem c114draw4{L:List Nat}{ρ:Env}{w:World}{Q:Post}(S:World→Prop)(hS:S w.drew)(h:DG Tryz.prog S c114D4 L ρ w.drew Q):drawW Tryz.prog (drawOps 4 c114code) L ρ w Q :=
 drawW_held [6] [(0,0),(0,1),(0,2),(0,3),(0,4),(0,5),(0,7),(0,8),(0,9),(1,6),(2,10),(3,11),(0,12),(0,13)] c114D4 (by kernel_rfl) (by kernel_rfl) (by kernel_rfl) S hS h
theorem ent114(a0 a1 a2 a3 a4:Value)(w:World)(K:Value→World→Prop)(h:W Tryz.prog c114 [(0,a0),(1,a1),(2,a2),(3,a3),(4,a4)] w (finQ Tryz.prog [] K)):Ret Tryz.prog 114 [a0,a1,a2,a3,a4] w K :=
 Ret_of_W (code:=c114code) Tryz.func114 (by kernel_rfl) (by kernel_rfl) (of_decide_eq_true (by kernel_rfl)) h
@[go_sem] theorem go114:goFunc Tryz.prog 114=true:=by kernel_rfl
def c115code:Code:=match Tryz.f115.body with | some c=>c | none=>.skip
def c115S0(_:Unit):Cmd:=(.cond (.tmp 44)
 (.seq (.ops [
 ⟨some 45,.fieldAddr 52 (.tmp 3) 6,0,none⟩,
 ⟨some 46,.load 3 (.tmp 45),3,none⟩,
 ⟨some 47,.buildSlice 25 1 #[(0,(.tmp 46))],25,none⟩,
 ⟨some 48,.build 150 #[(0,(.tmp 47)),(1,(.const (.int .i64 1))),(2,(.const (.bool true)))],150,none⟩,
 ⟨none,.store 150 (.tmp 4) (.tmp 48),0,none⟩] [4])
 .ret)
 (.skip [0,3,4]))
def c115S1(_:Unit):Cmd:=(.seq (.ops [
 ⟨some 87,.build 150 #[],150,none⟩,
 ⟨none,.store 150 (.tmp 4) (.tmp 87),0,none⟩] [4])
 .ret)
def c115S2(_:Unit):Cmd:=(.seq (.seq (.ops [
 ⟨some 73,.fieldAddr 52 (.tmp 3) 3,0,none⟩,
 ⟨some 74,.load 3 (.tmp 73),3,none⟩,
 ⟨some 75,.binOp .eql 3 (.tmp 74) (.const (.int .i64 2)) 3,4,none⟩,
 ⟨some 76,.move (.tmp 75),4,none⟩,
 ⟨some 77,.fieldAddr 52 (.tmp 3) 4,0,(some (76,true))⟩,
 ⟨some 78,.load 3 (.tmp 77),3,(some (76,true))⟩,
 ⟨some 79,.binOp .eql 3 (.tmp 78) (.const (.int .i64 5)) 3,4,(some (76,true))⟩,
 ⟨some 80,.pick (.tmp 76) (.tmp 79) (.const (.bool false)),4,none⟩] [0,4,80])
 (.cond (.tmp 80)
 (.seq (.opsX [
 ⟨some 81,.move (.tmp 0),25,none⟩,
 ⟨some 82,.indexAddr 25 (.tmp 81) (.const (.int .i64 0)),0,none⟩,
 ⟨some 83,.load 3 (.tmp 82),3,none⟩,
 ⟨some 84,.binOp .sub 3 (.tmp 83) (.const (.int .i64 1)) 3,3,none⟩,
 ⟨some 85,.buildSlice 25 1 #[(0,(.tmp 84))],25,none⟩,
 ⟨some 86,.build 150 #[(0,(.tmp 85)),(1,(.const (.int .i64 0))),(2,(.const (.bool true)))],150,none⟩,
 ⟨none,.store 150 (.tmp 4) (.tmp 86),0,none⟩] [4])
 .ret)
 (.skip [4]))) (sg c115S1))
def c115S3(_:Unit):Cmd:=(.seq (.seq (.ops [
 ⟨some 59,.fieldAddr 52 (.tmp 3) 3,0,none⟩,
 ⟨some 60,.load 3 (.tmp 59),3,none⟩,
 ⟨some 61,.binOp .eql 3 (.tmp 60) (.const (.int .i64 2)) 3,4,none⟩,
 ⟨some 62,.move (.tmp 61),4,none⟩,
 ⟨some 63,.fieldAddr 52 (.tmp 3) 4,0,(some (62,true))⟩,
 ⟨some 64,.load 3 (.tmp 63),3,(some (62,true))⟩,
 ⟨some 65,.binOp .eql 3 (.tmp 64) (.const (.int .i64 4)) 3,4,(some (62,true))⟩,
 ⟨some 66,.pick (.tmp 62) (.tmp 65) (.const (.bool false)),4,none⟩] [0,3,4,66])
 (.cond (.tmp 66)
 (.seq (.opsX [
 ⟨some 67,.move (.tmp 0),25,none⟩,
 ⟨some 68,.indexAddr 25 (.tmp 67) (.const (.int .i64 0)),0,none⟩,
 ⟨some 69,.load 3 (.tmp 68),3,none⟩,
 ⟨some 70,.binOp .add 3 (.tmp 69) (.const (.int .i64 1)) 3,3,none⟩,
 ⟨some 71,.buildSlice 25 1 #[(0,(.tmp 70))],25,none⟩,
 ⟨some 72,.build 150 #[(0,(.tmp 71)),(1,(.const (.int .i64 0))),(2,(.const (.bool true)))],150,none⟩,
 ⟨none,.store 150 (.tmp 4) (.tmp 72),0,none⟩] [4])
 .ret)
 (.skip [0,3,4]))) (sg c115S2))
def c115S4(_:Unit):Cmd:=(.seq (.seq (.ops [
 ⟨some 49,.fieldAddr 52 (.tmp 3) 3,0,none⟩,
 ⟨some 50,.load 3 (.tmp 49),3,none⟩,
 ⟨some 51,.binOp .eql 3 (.tmp 50) (.const (.int .i64 1)) 3,4,none⟩,
 ⟨some 52,.move (.tmp 51),4,none⟩,
 ⟨some 53,.fieldAddr 52 (.tmp 3) 4,0,(some (52,true))⟩,
 ⟨some 54,.load 3 (.tmp 53),3,(some (52,true))⟩,
 ⟨some 55,.binOp .eql 3 (.tmp 54) (.const (.int .i64 3)) 3,4,(some (52,true))⟩,
 ⟨some 56,.pick (.tmp 52) (.tmp 55) (.const (.bool false)),4,none⟩] [0,3,4,56])
 (.cond (.tmp 56)
 (.seq (.ops [
 ⟨some 57,.move (.tmp 0),25,none⟩,
 ⟨some 58,.build 150 #[(0,(.tmp 57)),(1,(.const (.int .i64 0))),(2,(.const (.bool true)))],150,none⟩,
 ⟨none,.store 150 (.tmp 4) (.tmp 58),0,none⟩] [4])
 .ret)
 (.skip [0,3,4]))) (sg c115S3))
def c115S5(_:Unit):Cmd:=(.seq (.seq (.draw (drawOps 0 c115code) [0,3,4,44]) (sg c115S0)) (sg c115S4))
def c115S6(_:Unit):Cmd:=(.seq (.seq (.ops [
 ⟨some 17,.fieldAddr 52 (.tmp 3) 3,0,none⟩,
 ⟨some 18,.load 3 (.tmp 17),3,none⟩,
 ⟨some 19,.binOp .eql 3 (.tmp 18) (.const (.int .i64 1)) 3,4,none⟩,
 ⟨some 20,.move (.tmp 19),4,none⟩,
 ⟨some 21,.fieldAddr 52 (.tmp 3) 4,0,(some (20,true))⟩,
 ⟨some 22,.load 3 (.tmp 21),3,(some (20,true))⟩,
 ⟨some 23,.binOp .eql 3 (.tmp 22) (.const (.int .i64 2)) 3,4,(some (20,true))⟩,
 ⟨some 24,.pick (.tmp 20) (.tmp 23) (.const (.bool false)),4,none⟩] [0,3,4,24])
 (.cond (.tmp 24)
 (.seq (.ops [
 ⟨some 25,.fieldAddr 52 (.tmp 3) 5,0,none⟩,
 ⟨some 26,.load 3 (.tmp 25),3,none⟩,
 ⟨some 27,.buildSlice 25 1 #[(0,(.tmp 26))],25,none⟩,
 ⟨some 28,.build 150 #[(0,(.tmp 27)),(1,(.const (.int .i64 0))),(2,(.const (.bool true)))],150,none⟩,
 ⟨none,.store 150 (.tmp 4) (.tmp 28),0,none⟩] [4])
 .ret)
 (.skip [0,3,4]))) (sg c115S5))
def c115S7(_:Unit):Cmd:=(.seq (.seq (.ops [
 ⟨some 9,.fieldAddr 52 (.tmp 3) 4,0,none⟩,
 ⟨some 10,.load 3 (.tmp 9),3,none⟩,
 ⟨some 11,.binOp .eql 3 (.tmp 10) (.const (.int .i64 1)) 3,4,none⟩] [0,3,4,11])
 (.cond (.tmp 11)
 (.seq (.ops [
 ⟨some 12,.move (.tmp 0),25,none⟩,
 ⟨some 13,.move (.tmp 0),25,none⟩,
 ⟨some 14,.indexAddr 25 (.tmp 13) (.const (.int .i64 0)),0,none⟩,
 ⟨some 15,.load 3 (.tmp 14),3,none⟩,
 ⟨some 16,.build 150 #[(0,(.tmp 12)),(1,(.tmp 15)),(2,(.const (.bool true)))],150,none⟩,
 ⟨none,.store 150 (.tmp 4) (.tmp 16),0,none⟩] [4])
 .ret)
 (.skip [0,3,4]))) (sg c115S6))
def c115:Cmd:=(.seq (.ops [
 ⟨some 3,.box 52 (.tmp 1),0,none⟩,
 ⟨some 4,.alloc 150,0,none⟩] [0,3,4])
 (.seq (.seq (.ops [
 ⟨some 5,.move (.tmp 0),25,none⟩,
 ⟨some 6,.call ⟨.builtin .len,#[(.tmp 5)],#[25]⟩,3,none⟩,
 ⟨some 7,.binOp .neq 3 (.tmp 6) (.const (.int .i64 1)) 3,4,none⟩] [0,3,4,7])
 (.cond (.tmp 7)
 (.seq (.ops [
 ⟨some 8,.build 150 #[],150,none⟩,
 ⟨none,.store 150 (.tmp 4) (.tmp 8),0,none⟩] [4])
 .ret)
 (.skip [0,3,4]))) (sg c115S7)))
attribute [go_sem] c115 c115S0 c115S1 c115S2 c115S3 c115S4 c115S5 c115S6 c115S7
def c115D0:List (Bool × Ins):=[
 (true,⟨some 29,.fieldAddr 52 (.tmp 3) 3,0,none⟩),
 (false,⟨some 30,.load 3 (.tmp 29),3,none⟩),
 (true,⟨some 31,.binOp .eql 3 (.tmp 30) (.const (.int .i64 1)) 3,4,none⟩),
 (true,⟨some 32,.move (.tmp 31),4,none⟩),
 (true,⟨some 33,.fieldAddr 52 (.tmp 3) 4,0,(some (32,true))⟩),
 (false,⟨some 34,.load 3 (.tmp 33),3,(some (32,true))⟩),
 (true,⟨some 35,.binOp .eql 3 (.tmp 34) (.const (.int .i64 3)) 3,4,(some (32,true))⟩),
 (true,⟨some 36,.pick (.tmp 32) (.tmp 35) (.const (.bool false)),4,none⟩),
 (true,⟨some 37,.move (.tmp 36),4,none⟩),
 (true,⟨some 38,.move (.tmp 0),25,(some (37,true))⟩),
 (true,⟨some 39,.indexAddr 25 (.tmp 38) (.const (.int .i64 0)),0,(some (37,true))⟩),
 (false,⟨some 40,.load 3 (.tmp 39),3,(some (37,true))⟩),
 (true,⟨some 41,.fieldAddr 52 (.tmp 3) 5,0,(some (37,true))⟩),
 (false,⟨some 42,.load 3 (.tmp 41),3,(some (37,true))⟩),
 (true,⟨some 43,.binOp .eql 3 (.tmp 40) (.tmp 42) 3,4,(some (37,true))⟩),
 (true,⟨some 44,.pick (.tmp 37) (.tmp 43) (.const (.bool false)),4,none⟩)]
theorem c115draw0{L:List Nat}{ρ:Env}{w:World}{Q:Post}(h:DL Tryz.prog c115D0 L ρ w.drew Q):drawW Tryz.prog (drawOps 0 c115code) L ρ w Q :=
 drawW_still [true,false,true,true,true,false,true,true,true,true,true,false,true,false,true,true] c115D0 (by kernel_rfl) (by kernel_rfl) (by kernel_rfl) h
theorem ent115(a0 a1:Value)(w:World)(K:Value→World→Prop)(h:W Tryz.prog c115 [(0,a0),(1,a1)] w (finQ Tryz.prog [.cell 4 150] K)):Ret Tryz.prog 115 [a0,a1] w K :=
 Ret_of_W (code:=c115code) Tryz.func115 (by kernel_rfl) (by kernel_rfl) (of_decide_eq_true (by kernel_rfl)) h
@[go_sem] theorem go115:goFunc Tryz.prog 115=true:=by kernel_rfl
def c116code:Code:=match Tryz.f116.body with | some c=>c | none=>.skip
def c116S0(_:Unit):Cmd:=(.ops [
 ⟨some 11,.move (.tmp 6),3,none⟩,
 ⟨some 12,.binOp .add 3 (.tmp 11) (.const (.int .i64 1)) 3,3,none⟩,
 ⟨some 6,.assign (.tmp 12),3,none⟩] [0,1,5,6])
def c116S1(_:Unit):Cmd:=(.seq (.block 1 (.seq (.ops [
 ⟨some 13,.move (.tmp 0),25,none⟩,
 ⟨some 14,.move (.tmp 6),3,none⟩,
 ⟨some 15,.indexAddr 25 (.tmp 13) (.tmp 14),0,none⟩,
 ⟨some 16,.load 3 (.tmp 15),3,none⟩,
 ⟨some 17,.move (.tmp 1),3,none⟩,
 ⟨some 18,.binOp .neq 3 (.tmp 16) (.tmp 17) 3,4,none⟩] [0,1,5,6,18])
 (.cond (.tmp 18)
 (.ops [
 ⟨some 19,.move (.tmp 5),25,none⟩,
 ⟨some 20,.move (.tmp 0),25,none⟩,
 ⟨some 21,.move (.tmp 6),3,none⟩,
 ⟨some 22,.indexAddr 25 (.tmp 20) (.tmp 21),0,none⟩,
 ⟨some 23,.load 3 (.tmp 22),3,none⟩,
 ⟨some 24,.buildSlice 25 1 #[(0,(.tmp 23))],25,none⟩,
 ⟨some 25,.call ⟨.builtin .append,#[(.tmp 19),(.tmp 24)],#[25,25]⟩,25,none⟩,
 ⟨some 5,.assign (.tmp 25),25,none⟩] [0,1,5,6])
 (.skip [0,1,5,6])))) (sg c116S0))
def c116L0(_:Unit):Cmd:=(.seq (.seq (.ops [
 ⟨some 7,.move (.tmp 6),3,none⟩,
 ⟨some 8,.move (.tmp 0),25,none⟩,
 ⟨some 9,.call ⟨.builtin .len,#[(.tmp 8)],#[25]⟩,3,none⟩,
 ⟨some 10,.binOp .lss 3 (.tmp 7) (.tmp 9) 3,4,none⟩] [0,1,5,6,10])
 (.cond (.tmp 10)
 (.skip [0,1,5,6])
 (.exit 0 [5]))) (sg c116S1))
def c116S2(_:Unit):Cmd:=(.seq (.ops [
 ⟨some 26,.move (.tmp 5),25,none⟩,
 ⟨some 4,.assign (.tmp 26),25,none⟩] [4])
 .ret)
def c116:Cmd:=(.seq (.ops [
 ⟨some 4,.assign (.const (.slice none 0 0)),25,none⟩] [0,1])
 (.seq (.ops [
 ⟨some 5,.assign (.const (.slice none 0 0)),25,none⟩] [0,1,5])
 (.seq (.seq (.ops [
 ⟨some 6,.assign (.const (.int .i64 0)),3,none⟩] [0,1,5,6])
 (.block 0 (.loop (sg c116L0)))) (sg c116S2))))
attribute [go_sem] c116 c116S0 c116S1 c116L0 c116S2
theorem ent116(a0 a1:Value)(w:World)(K:Value→World→Prop)(h:W Tryz.prog c116 [(0,a0),(1,a1)] w (finQ Tryz.prog [.tmp 4] K)):Ret Tryz.prog 116 [a0,a1] w K :=
 Ret_of_W (code:=c116code) Tryz.func116 (by kernel_rfl) (by kernel_rfl) (of_decide_eq_true (by kernel_rfl)) h
@[go_sem] theorem go116:goFunc Tryz.prog 116=true:=by kernel_rfl
def c117code:Code:=match Tryz.f117.body with | some c=>c | none=>.skip
def c117S0(_:Unit):Cmd:=(.ops [
 ⟨some 6,.assign (.const (.bool true)),4,none⟩] [0,1,5,6,7])
def c117S1(_:Unit):Cmd:=(.ops [
 ⟨some 28,.move (.tmp 5),25,none⟩,
 ⟨some 29,.move (.tmp 0),25,none⟩,
 ⟨some 30,.move (.tmp 7),3,none⟩,
 ⟨some 31,.indexAddr 25 (.tmp 29) (.tmp 30),0,none⟩,
 ⟨some 32,.load 3 (.tmp 31),3,none⟩,
 ⟨some 33,.buildSlice 25 1 #[(0,(.tmp 32))],25,none⟩,
 ⟨some 34,.call ⟨.builtin .append,#[(.tmp 28),(.tmp 33)],#[25,25]⟩,25,none⟩,
 ⟨some 5,.assign (.tmp 34),25,none⟩] [0,1,5,6,7])
def c117S2(_:Unit):Cmd:=(.ops [
 ⟨some 12,.move (.tmp 7),3,none⟩,
 ⟨some 13,.binOp .add 3 (.tmp 12) (.const (.int .i64 1)) 3,3,none⟩,
 ⟨some 7,.assign (.tmp 13),3,none⟩] [0,1,5,6,7])
def c117S3(_:Unit):Cmd:=(.seq (.block 1 (.seq (.seq (.ops [
 ⟨some 14,.move (.tmp 6),4,none⟩,
 ⟨some 15,.unOp .not 4 (.tmp 14),4,none⟩,
 ⟨some 16,.move (.tmp 15),4,none⟩,
 ⟨some 17,.move (.tmp 0),25,(some (16,true))⟩,
 ⟨some 18,.move (.tmp 7),3,(some (16,true))⟩,
 ⟨some 19,.indexAddr 25 (.tmp 17) (.tmp 18),0,(some (16,true))⟩,
 ⟨some 20,.load 3 (.tmp 19),3,(some (16,true))⟩,
 ⟨some 21,.move (.tmp 1),3,(some (16,true))⟩,
 ⟨some 22,.binOp .gtr 3 (.tmp 20) (.tmp 21) 3,4,(some (16,true))⟩,
 ⟨some 23,.pick (.tmp 16) (.tmp 22) (.const (.bool false)),4,none⟩] [0,1,5,6,7,23])
 (.cond (.tmp 23)
 (.seq (.ops [
 ⟨some 24,.move (.tmp 5),25,none⟩,
 ⟨some 25,.move (.tmp 1),3,none⟩,
 ⟨some 26,.buildSlice 25 1 #[(0,(.tmp 25))],25,none⟩,
 ⟨some 27,.call ⟨.builtin .append,#[(.tmp 24),(.tmp 26)],#[25,25]⟩,25,none⟩,
 ⟨some 5,.assign (.tmp 27),25,none⟩] [0,1,5,7]) (sg c117S0))
 (.skip [0,1,5,6,7]))) (sg c117S1))) (sg c117S2))
def c117L0(_:Unit):Cmd:=(.seq (.seq (.ops [
 ⟨some 8,.move (.tmp 7),3,none⟩,
 ⟨some 9,.move (.tmp 0),25,none⟩,
 ⟨some 10,.call ⟨.builtin .len,#[(.tmp 9)],#[25]⟩,3,none⟩,
 ⟨some 11,.binOp .lss 3 (.tmp 8) (.tmp 10) 3,4,none⟩] [0,1,5,6,7,11])
 (.cond (.tmp 11)
 (.skip [0,1,5,6,7])
 (.exit 0 [1,5,6]))) (sg c117S3))
def c117S4(_:Unit):Cmd:=(.seq (.ops [
 ⟨some 41,.move (.tmp 5),25,none⟩,
 ⟨some 4,.assign (.tmp 41),25,none⟩] [4])
 .ret)
def c117S5(_:Unit):Cmd:=(.seq (.seq (.ops [
 ⟨some 35,.move (.tmp 6),4,none⟩,
 ⟨some 36,.unOp .not 4 (.tmp 35),4,none⟩] [1,5,36])
 (.cond (.tmp 36)
 (.ops [
 ⟨some 37,.move (.tmp 5),25,none⟩,
 ⟨some 38,.move (.tmp 1),3,none⟩,
 ⟨some 39,.buildSlice 25 1 #[(0,(.tmp 38))],25,none⟩,
 ⟨some 40,.call ⟨.builtin .append,#[(.tmp 37),(.tmp 39)],#[25,25]⟩,25,none⟩,
 ⟨some 5,.assign (.tmp 40),25,none⟩] [5])
 (.skip [5]))) (sg c117S4))
def c117:Cmd:=(.seq (.ops [
 ⟨some 4,.assign (.const (.slice none 0 0)),25,none⟩] [0,1])
 (.seq (.ops [
 ⟨some 5,.assign (.const (.slice none 0 0)),25,none⟩] [0,1,5])
 (.seq (.ops [
 ⟨some 6,.assign (.const (.bool false)),4,none⟩] [0,1,5,6])
 (.seq (.seq (.ops [
 ⟨some 7,.assign (.const (.int .i64 0)),3,none⟩] [0,1,5,6,7])
 (.block 0 (.loop (sg c117L0)))) (sg c117S5)))))
attribute [go_sem] c117 c117S0 c117S1 c117S2 c117S3 c117L0 c117S4
theorem ent117(a0 a1:Value)(w:World)(K:Value→World→Prop)(h:W Tryz.prog c117 [(0,a0),(1,a1)] w (finQ Tryz.prog [.tmp 4] K)):Ret Tryz.prog 117 [a0,a1] w K :=
 Ret_of_W (code:=c117code) Tryz.func117 (by kernel_rfl) (by kernel_rfl) (of_decide_eq_true (by kernel_rfl)) h
@[go_sem] theorem go117:goFunc Tryz.prog 117=true:=by kernel_rfl
def c119code:Code:=match Tryz.f119.body with | some c=>c | none=>.skip
def c119S0(_:Unit):Cmd:=(.seq (.ops [
 ⟨some 2,.assign (.const (.int .i64 0)),3,none⟩] [2])
 .ret)
def c119:Cmd:=(.seq (.ops [
 ⟨some 2,.assign (.const (.int .i64 0)),3,none⟩] [0])
 (.seq (.seq (.ops [
 ⟨some 3,.move (.tmp 0),4,none⟩] [3])
 (.cond (.tmp 3)
 (.seq (.ops [
 ⟨some 2,.assign (.const (.int .i64 1)),3,none⟩] [2])
 .ret)
 (.skip []))) (sg c119S0)))
attribute [go_sem] c119 c119S0
theorem ent119(a0:Value)(w:World)(K:Value→World→Prop)(h:W Tryz.prog c119 [(0,a0)] w (finQ Tryz.prog [.tmp 2] K)):Ret Tryz.prog 119 [a0] w K :=
 Ret_of_W (code:=c119code) Tryz.func119 (by kernel_rfl) (by kernel_rfl) (of_decide_eq_true (by kernel_rfl)) h
@[go_sem] theorem go119:goFunc Tryz.prog 119=true:=by kernel_rfl
def c136code:Code:=match Tryz.f136.body with | some c=>c | none=>.skip
def c136S0(_:Unit):Cmd:=(.ops [
 ⟨some 12,.move (.tmp 0),147,none⟩,
 ⟨some 13,.binOp .shr 147 (.tmp 12) (.const (.int .u64 7)) 135,147,none⟩,
 ⟨some 0,.assign (.tmp 13),147,none⟩] [0,3])
def c136S1(_:Unit):Cmd:=(.block 1 (.seq (.ops [
 ⟨some 6,.move (.tmp 3),120,none⟩,
 ⟨some 7,.move (.tmp 0),147,none⟩,
 ⟨some 8,.convert 147 5 (.tmp 7),5,none⟩,
 ⟨some 9,.binOp .or 5 (.tmp 8) (.const (.int .u8 128)) 5,5,none⟩,
 ⟨some 10,.buildSlice 120 1 #[(0,(.tmp 9))],120,none⟩,
 ⟨some 11,.call ⟨.builtin .append,#[(.tmp 6),(.tmp 10)],#[120,120]⟩,120,none⟩,
 ⟨some 3,.assign (.tmp 11),120,none⟩] [0,3]) (sg c136S0)))
def c136L0(_:Unit):Cmd:=(.seq (.seq (.ops [
 ⟨some 4,.move (.tmp 0),147,none⟩,
 ⟨some 5,.binOp .geq 147 (.tmp 4) (.const (.int .u64 128)) 147,4,none⟩] [0,3,5])
 (.cond (.tmp 5)
 (.skip [0,3])
 (.exit 0 [0,3]))) (sg c136S1))
def c136S2(_:Unit):Cmd:=.ret
def c136S3(_:Unit):Cmd:=(.seq (.ops [
 ⟨some 14,.move (.tmp 3),120,none⟩,
 ⟨some 15,.move (.tmp 0),147,none⟩,
 ⟨some 16,.convert 147 5 (.tmp 15),5,none⟩,
 ⟨some 17,.buildSlice 120 1 #[(0,(.tmp 16))],120,none⟩,
 ⟨some 18,.call ⟨.builtin .append,#[(.tmp 14),(.tmp 17)],#[120,120]⟩,120,none⟩,
 ⟨some 19,.convert 120 9 (.tmp 18),9,none⟩,
 ⟨some 2,.assign (.tmp 19),9,none⟩] [2]) (sg c136S2))
def c136:Cmd:=(.seq (.ops [
 ⟨some 2,.assign (.const (.string (ofL []))),9,none⟩] [0])
 (.seq (.ops [
 ⟨some 3,.assign (.const (.slice none 0 0)),120,none⟩] [0,3])
 (.seq (.block 0 (.loop (sg c136L0))) (sg c136S3))))
attribute [go_sem] c136 c136S0 c136S1 c136L0 c136S2 c136S3
theorem ent136(a0:Value)(w:World)(K:Value→World→Prop)(h:W Tryz.prog c136 [(0,a0)] w (finQ Tryz.prog [.tmp 2] K)):Ret Tryz.prog 136 [a0] w K :=
 Ret_of_W (code:=c136code) Tryz.func136 (by kernel_rfl) (by kernel_rfl) (of_decide_eq_true (by kernel_rfl)) h
@[go_sem] theorem go136:goFunc Tryz.prog 136=true:=by kernel_rfl
def c137code:Code:=match Tryz.f137.body with | some c=>c | none=>.skip
def c137:Cmd:=(.seq (.ops [
 ⟨some 2,.assign (.const (.int .u64 0)),147,none⟩] [0])
 (.seq (.ops [
 ⟨some 3,.move (.tmp 0),3,none⟩,
 ⟨some 4,.convert 3 147 (.tmp 3),147,none⟩,
 ⟨some 5,.binOp .shl 147 (.tmp 4) (.const (.int .u64 1)) 135,147,none⟩,
 ⟨some 6,.move (.tmp 0),3,none⟩,
 ⟨some 7,.binOp .shr 3 (.tmp 6) (.const (.int .u64 63)) 135,3,none⟩,
 ⟨some 8,.convert 3 147 (.tmp 7),147,none⟩,
 ⟨some 9,.binOp .xor 147 (.tmp 5) (.tmp 8) 147,147,none⟩,
 ⟨some 2,.assign (.tmp 9),147,none⟩] [2])
 .ret))
attribute [go_sem] c137
theorem ent137(a0:Value)(w:World)(K:Value→World→Prop)(h:W Tryz.prog c137 [(0,a0)] w (finQ Tryz.prog [.tmp 2] K)):Ret Tryz.prog 137 [a0] w K :=
 Ret_of_W (code:=c137code) Tryz.func137 (by kernel_rfl) (by kernel_rfl) (of_decide_eq_true (by kernel_rfl)) h
@[go_sem] theorem go137:goFunc Tryz.prog 137=true:=by kernel_rfl
def c138code:Code:=match Tryz.f138.body with | some c=>c | none=>.skip
def c138S0(_:Unit):Cmd:=(.ops [
 ⟨some 32,.move (.tmp 10),3,none⟩,
 ⟨some 33,.move (.tmp 11),3,none⟩,
 ⟨some 34,.binOp .sub 3 (.tmp 32) (.tmp 33) 3,3,none⟩,
 ⟨some 10,.assign (.tmp 34),3,none⟩] [0,2,4,10,11])
def c138S1(_:Unit):Cmd:=(.ops [
 ⟨some 47,.move (.tmp 11),3,none⟩,
 ⟨some 48,.move (.tmp 10),3,none⟩,
 ⟨some 49,.binOp .sub 3 (.tmp 47) (.tmp 48) 3,3,none⟩,
 ⟨some 11,.assign (.tmp 49),3,none⟩] [0,2,4,10,11])
def c138S2(_:Unit):Cmd:=(.block 1 (.seq (.ops [
 ⟨some 21,.move (.tmp 10),3,none⟩,
 ⟨some 22,.move (.tmp 11),3,none⟩,
 ⟨some 23,.binOp .gtr 3 (.tmp 21) (.tmp 22) 3,4,none⟩] [0,2,4,10,11,23])
 (.cond (.tmp 23)
 (.seq (.ops [
 ⟨some 24,.move (.tmp 0),57,none⟩,
 ⟨some 25,.move (.tmp 2),3,none⟩,
 ⟨some 26,.move (.tmp 10),3,none⟩,
 ⟨some 27,.binOp .sub 3 (.tmp 25) (.tmp 26) 3,3,none⟩,
 ⟨some 28,.move (.tmp 2),3,none⟩,
 ⟨some 29,.move (.tmp 11),3,none⟩,
 ⟨some 30,.move (.tmp 4),110,none⟩,
 ⟨some 31,.call ⟨.value (.func 146),#[(.tmp 24),(.tmp 27),(.tmp 28),(.tmp 29),(.tmp 30)],#[57,3,3,3,110]⟩,0,none⟩] [0,2,4,10,11]) (sg c138S0))
 (.seq (.ops [
 ⟨some 35,.move (.tmp 0),57,none⟩,
 ⟨some 36,.move (.tmp 2),3,none⟩,
 ⟨some 37,.move (.tmp 10),3,none⟩,
 ⟨some 38,.binOp .sub 3 (.tmp 36) (.tmp 37) 3,3,none⟩,
 ⟨some 39,.move (.tmp 2),3,none⟩,
 ⟨some 40,.move (.tmp 11),3,none⟩,
 ⟨some 41,.binOp .add 3 (.tmp 39) (.tmp 40) 3,3,none⟩,
 ⟨some 42,.move (.tmp 10),3,none⟩,
 ⟨some 43,.binOp .sub 3 (.tmp 41) (.tmp 42) 3,3,none⟩,
 ⟨some 44,.move (.tmp 10),3,none⟩,
 ⟨some 45,.move (.tmp 4),110,none⟩,
 ⟨some 46,.call ⟨.value (.func 146),#[(.tmp 35),(.tmp 38),(.tmp 43),(.tmp 44),(.tmp 45)],#[57,3,3,3,110]⟩,0,none⟩] [0,2,4,10,11]) (sg c138S1)))))
def c138L0(_:Unit):Cmd:=(.seq (.seq (.ops [
 ⟨some 18,.move (.tmp 10),3,none⟩,
 ⟨some 19,.move (.tmp 11),3,none⟩,
 ⟨some 20,.binOp .neq 3 (.tmp 18) (.tmp 19) 3,4,none⟩] [0,2,4,10,11,20])
 (.cond (.tmp 20)
 (.skip [0,2,4,10,11])
 (.exit 0 [0,2,4,10]))) (sg c138S2))
def c138S3(_:Unit):Cmd:=(.ops [
 ⟨some 50,.move (.tmp 0),57,none⟩,
 ⟨some 51,.move (.tmp 2),3,none⟩,
 ⟨some 52,.move (.tmp 10),3,none⟩,
 ⟨some 53,.binOp .sub 3 (.tmp 51) (.tmp 52) 3,3,none⟩,
 ⟨some 54,.move (.tmp 2),3,none⟩,
 ⟨some 55,.move (.tmp 10),3,none⟩,
 ⟨some 56,.move (.tmp 4),110,none⟩,
 ⟨some 57,.call ⟨.value (.func 146),#[(.tmp 50),(.tmp 53),(.tmp 54),(.tmp 55),(.tmp 56)],#[57,3,3,3,110]⟩,0,none⟩] [])
def c138:Cmd:=(.seq (.ops [
 ⟨some 12,.move (.tmp 2),3,none⟩,
 ⟨some 13,.move (.tmp 1),3,none⟩,
 ⟨some 14,.binOp .sub 3 (.tmp 12) (.tmp 13) 3,3,none⟩,
 ⟨some 10,.assign (.tmp 14),3,none⟩] [0,2,3,4,10])
 (.seq (.ops [
 ⟨some 15,.move (.tmp 3),3,none⟩,
 ⟨some 16,.move (.tmp 2),3,none⟩,
 ⟨some 17,.binOp .sub 3 (.tmp 15) (.tmp 16) 3,3,none⟩,
 ⟨some 11,.assign (.tmp 17),3,none⟩] [0,2,4,10,11])
 (.seq (.block 0 (.loop (sg c138L0))) (sg c138S3))))
attribute [go_sem] c138 c138S0 c138S1 c138S2
theorem ent138(a0 a1 a2 a3 a4:Value)(w:World)(K:Value→World→Prop)(h:W Tryz.prog c138 [(0,a0),(1,a1),(2,a2),(3,a3),(4,a4)] w (finQ Tryz.prog [] K)):Ret Tryz.prog 138 [a0,a1,a2,a3,a4] w K :=
 Ret_of_W (code:=c138code) Tryz.func138 (by kernel_rfl) (by kernel_rfl) (of_decide_eq_true (by kernel_rfl)) h
@[go_sem] theorem go138:goFunc Tryz.prog 138=true:=by kernel_rfl
def c146code:Code:=match Tryz.f146.body with | some c=>c | none=>.skip
def c146S0(_:Unit):Cmd:=(.ops [
 ⟨some 14,.move (.tmp 10),3,none⟩,
 ⟨some 15,.binOp .add 3 (.tmp 14) (.const (.int .i64 1)) 3,3,none⟩,
 ⟨some 10,.assign (.tmp 15),3,none⟩] [0,1,2,3,10])
def c146S1(_:Unit):Cmd:=(.seq (.block 1 (.draw (drawOps 0 c146code) [0,1,2,3,10])) (sg c146S0))
def c146L0(_:Unit):Cmd:=(.seq (.seq (.ops [
 ⟨some 11,.move (.tmp 10),3,none⟩,
 ⟨some 12,.move (.tmp 3),3,none⟩,
 ⟨some 13,.binOp .lss 3 (.tmp 11) (.tmp 12) 3,4,none⟩] [0,1,2,3,10,13])
 (.cond (.tmp 13)
 (.skip [0,1,2,3,10])
 (.exit 0 []))) (sg c146S1))
def c146:Cmd:=(.seq (.ops [
 ⟨some 10,.assign (.const (.int .i64 0)),3,none⟩] [0,1,2,3,10])
 (.block 0 (.loop (sg c146L0))))
attribute [go_sem] c146 c146S0 c146S1
def c146D0:List (Nat × Ins):=[
 (0,⟨some 16,.move (.tmp 0),57,none⟩),
 (0,⟨some 17,.move (.tmp 1),3,none⟩),
 (0,⟨some 18,.move (.tmp 10),3,none⟩),
 (0,⟨some 19,.binOp .add 3 (.tmp 17) (.tmp 18) 3,3,none⟩),
 (0,⟨some 20,.move (.tmp 0),57,none⟩),
 (0,⟨some 21,.move (.tmp 2),3,none⟩),
 (0,⟨some 22,.move (.tmp 10),3,none⟩),
 (0,⟨some 23,.binOp .add 3 (.tmp 21) (.tmp 22) 3,3,none⟩),
 (0,⟨some 24,.move (.tmp 0),57,none⟩),
 (0,⟨some 25,.move (.tmp 2),3,none⟩),
 (0,⟨some 26,.move (.tmp 10),3,none⟩),
 (0,⟨some 27,.binOp .add 3 (.tmp 25) (.tmp 26) 3,3,none⟩),
 (0,⟨some 28,.indexAddr 57 (.tmp 24) (.tmp 27),0,none⟩),
 (0,⟨some 30,.move (.tmp 0),57,none⟩),
 (0,⟨some 31,.move (.tmp 1),3,none⟩),
 (0,⟨some 32,.move (.tmp 10),3,none⟩),
 (0,⟨some 33,.binOp .add 3 (.tmp 31) (.tmp 32) 3,3,none⟩),
 (0,⟨some 34,.indexAddr 57 (.tmp 30) (.tmp 33),0,none⟩),
 (1,⟨some 29,.load 65 (.tmp 28),65,none⟩),
 (2,⟨some 35,.load 65 (.tmp 34),65,none⟩),
 (0,⟨some 36,.indexAddr 57 (.tmp 16) (.tmp 19),0,none⟩),
 (3,⟨none,.store 65 (.tmp 36) (.tmp 29),0,none⟩),
 (0,⟨some 37,.indexAddr 57 (.tmp 20) (.tmp 23),0,none⟩),
 (3,⟨none,.store 65 (.tmp 37) (.tmp 35),0,none⟩)]
theorem c146draw0{L:List Nat}{ρ:Env}{w:World}{Q:Post}(S:World→Prop)(hS:S w.drew)(h:DG Tryz.prog S c146D0 L ρ w.drew Q):drawW Tryz.prog (drawOps 0 c146code) L ρ w Q :=
 drawW_held [13] [(0,0),(0,1),(0,2),(0,3),(0,4),(0,5),(0,6),(0,7),(0,8),(0,9),(0,10),(0,11),(0,12),(0,14),(0,15),(0,16),(0,17),(0,18),(1,13),(2,19),(0,20),(3,21),(0,22),(3,23)] c146D0 (by kernel_rfl) (by kernel_rfl) (by kernel_rfl) S hS h
theorem ent146(a0 a1 a2 a3 a4:Value)(w:World)(K:Value→World→Prop)(h:W Tryz.prog c146 [(0,a0),(1,a1),(2,a2),(3,a3),(4,a4)] w (finQ Tryz.prog [] K)):Ret Tryz.prog 146 [a0,a1,a2,a3,a4] w K :=
 Ret_of_W (code:=c146code) Tryz.func146 (by kernel_rfl) (by kernel_rfl) (of_decide_eq_true (by kernel_rfl)) h
@[go_sem] theorem go146:goFunc Tryz.prog 146=true:=by kernel_rfl
def c50code:Code:=match Tryz.f50.body with | some c=>c | none=>.skip
def c50:Cmd:=(.seq (.ops [
 ⟨some 5,.move (.tmp 0),22,none⟩,
 ⟨some 6,.call ⟨.builtin .len,#[(.tmp 5)],#[22]⟩,3,none⟩,
 ⟨some 4,.assign (.tmp 6),3,none⟩] [0,1,4])
 (.ops [
 ⟨some 7,.move (.tmp 0),22,none⟩,
 ⟨some 8,.move (.tmp 4),3,none⟩,
 ⟨some 9,.move (.tmp 4),3,none⟩,
 ⟨some 10,.convert 3 135 (.tmp 9),135,none⟩,
 ⟨some 11,.call ⟨.value (.func 81),#[(.tmp 10)],#[135]⟩,3,none⟩,
 ⟨some 12,.move (.tmp 1),99,none⟩,
 ⟨some 13,.call ⟨.value (.func 80),#[(.tmp 7),(.const (.int .i64 0)),(.tmp 8),(.tmp 11),(.tmp 12)],#[22,3,3,3,99]⟩,0,none⟩] []))
attribute [go_sem] c50
theorem ent50(a0 a1:Value)(w:World)(K:Value→World→Prop)(h:W Tryz.prog c50 [(0,a0),(1,a1)] w (finQ Tryz.prog [] K)):Ret Tryz.prog 50 [a0,a1] w K :=
 Ret_of_W (code:=c50code) Tryz.func50 (by kernel_rfl) (by kernel_rfl) (of_decide_eq_true (by kernel_rfl)) h
@[go_sem] theorem go50:goFunc Tryz.prog 50=true:=by kernel_rfl
@[go_sem] theorem go81:goFunc Tryz.prog 81=true:=by kernel_rfl
@[go_sem] theorem go111:goFunc Tryz.prog 111=true:=by kernel_rfl
@[go_sem] theorem go110:goFunc Tryz.prog 110=true:=by kernel_rfl
@[go_sem] theorem go118:goFunc Tryz.prog 118=true:=by kernel_rfl
def c102code:Code:=match Tryz.f102.body with | some c=>c | none=>.skip
def c102S0(_:Unit):Cmd:=(.cond (.tmp 34)
 (.skip [0,1,2,3,8,9])
 (.exit 2 [0,1,2,3,8]))
def c102S1(_:Unit):Cmd:=(.ops [
 ⟨some 35,.move (.tmp 9),3,none⟩,
 ⟨some 36,.binOp .sub 3 (.tmp 35) (.const (.int .i64 1)) 3,3,none⟩,
 ⟨some 9,.assign (.tmp 36),3,none⟩] [0,1,2,3,8,9])
def c102S2(_:Unit):Cmd:=(.seq (.block 3 (.draw (drawOps 1 c102code) [0,1,2,3,8,9])) (sg c102S1))
def c102L0(_:Unit):Cmd:=(.seq (.seq (.draw (drawOps 0 c102code) [0,1,2,3,8,9,34]) (sg c102S0)) (sg c102S2))
def c102S3(_:Unit):Cmd:=(.ops [
 ⟨some 15,.move (.tmp 8),3,none⟩,
 ⟨some 16,.binOp .add 3 (.tmp 15) (.const (.int .i64 1)) 3,3,none⟩,
 ⟨some 8,.assign (.tmp 16),3,none⟩] [0,1,2,3,8])
def c102S4(_:Unit):Cmd:=(.seq (.block 1 (.seq (.ops [
 ⟨some 17,.move (.tmp 8),3,none⟩,
 ⟨some 9,.assign (.tmp 17),3,none⟩] [0,1,2,3,8,9])
 (.block 2 (.loop (sg c102L0))))) (sg c102S3))
def c102L1(_:Unit):Cmd:=(.seq (.seq (.ops [
 ⟨some 12,.move (.tmp 8),3,none⟩,
 ⟨some 13,.move (.tmp 2),3,none⟩,
 ⟨some 14,.binOp .lss 3 (.tmp 12) (.tmp 13) 3,4,none⟩] [0,1,2,3,8,14])
 (.cond (.tmp 14)
 (.skip [0,1,2,3,8])
 (.exit 0 []))) (sg c102S4))
def c102:Cmd:=(.seq (.ops [
 ⟨some 10,.move (.tmp 1),3,none⟩,
 ⟨some 11,.binOp .add 3 (.tmp 10) (.const (.int .i64 1)) 3,3,none⟩,
 ⟨some 8,.assign (.tmp 11),3,none⟩] [0,1,2,3,8])
 (.block 0 (.loop (sg c102L1))))
attribute [go_sem] c102 c102S0 c102S1 c102S2 c102L0 c102S3 c102S4 c102L1
theorem ent102(a0 a1 a2 a3:Value)(w:World)(K:Value→World→Prop)(h:W Tryz.prog c102 [(0,a0),(1,a1),(2,a2),(3,a3)] w (finQ Tryz.prog [] K)):Ret Tryz.prog 102 [a0,a1,a2,a3] w K :=
 Ret_of_W (code:=c102code) Tryz.func102 (by kernel_rfl) (by kernel_rfl) (of_decide_eq_true (by kernel_rfl)) h
@[go_sem] theorem go102:goFunc Tryz.prog 102=true:=by kernel_rfl
def c80code:Code:=match Tryz.f80.body with | some c=>c | none=>.skip
def c80S0(_:Unit):Cmd:=.ret
def c80S1(_:Unit):Cmd:=.ret
def c80S2(_:Unit):Cmd:=(.ops [
 ⟨some 45,.move (.tmp 3),3,none⟩,
 ⟨some 46,.binOp .sub 3 (.tmp 45) (.const (.int .i64 1)) 3,3,none⟩,
 ⟨some 3,.assign (.tmp 46),3,none⟩] [0,1,2,3,4,10,11,12])
def c80S3(_:Unit):Cmd:=(.seq (.ops [
 ⟨some 62,.move (.tmp 2),3,none⟩,
 ⟨some 63,.binOp .sub 3 (.tmp 62) (.const (.int .i64 1)) 3,3,none⟩,
 ⟨some 64,.move (.tmp 13),3,none⟩,
 ⟨some 65,.move (.tmp 1),3,none⟩,
 ⟨some 66,.binOp .sub 3 (.tmp 64) (.tmp 65) 3,3,none⟩,
 ⟨some 67,.binOp .sub 3 (.tmp 63) (.tmp 66) 3,3,none⟩,
 ⟨some 13,.assign (.tmp 67),3,none⟩] [0,1,2,3,4,10,11,12,13])
 (.ops [
 ⟨some 14,.assign (.const (.int .i64 1)),156,none⟩] [0,1,2,3,4,10,11,12,13,14]))
def c80S4(_:Unit):Cmd:=(.cond (.tmp 80)
 .ret
 (.skip [0,1,2,3,4,10,11,12,13]))
def c80S5(_:Unit):Cmd:=(.seq (.ops [
 ⟨some 104,.move (.tmp 15),3,none⟩,
 ⟨some 1,.assign (.tmp 104),3,none⟩] [0,1,2,3,4,10,11])
 (.exit 1 [0,1,2,3,4,10,11]))
def c80S6(_:Unit):Cmd:=(.cond (.tmp 97)
 (.seq (.ops [
 ⟨some 98,.move (.tmp 0),22,none⟩,
 ⟨some 99,.move (.tmp 1),3,none⟩,
 ⟨some 100,.move (.tmp 2),3,none⟩,
 ⟨some 101,.move (.tmp 13),3,none⟩,
 ⟨some 102,.move (.tmp 4),99,none⟩,
 ⟨some 103,.call ⟨.value (.func 108),#[(.tmp 98),(.tmp 99),(.tmp 100),(.tmp 101),(.tmp 102)],#[22,3,3,3,99]⟩,3,none⟩,
 ⟨some 15,.assign (.tmp 103),3,none⟩] [0,2,3,4,10,11,15]) (sg c80S5))
 (.skip [0,1,2,3,4,12,13]))
def c80S7(_:Unit):Cmd:=(.ops [
 ⟨some 135,.move (.tmp 16),3,none⟩,
 ⟨some 136,.binOp .add 3 (.tmp 135) (.const (.int .i64 1)) 3,3,none⟩,
 ⟨some 1,.assign (.tmp 136),3,none⟩] [0,1,2,3,4,10,11])
def c80S8(_:Unit):Cmd:=(.ops [
 ⟨some 147,.move (.tmp 16),3,none⟩,
 ⟨some 2,.assign (.tmp 147),3,none⟩] [0,1,2,3,4,10,11])
def c80S9(_:Unit):Cmd:=(.seq (.ops [
 ⟨some 114,.move (.tmp 17),4,none⟩,
 ⟨some 11,.assign (.tmp 114),4,none⟩] [0,1,2,3,4,11,12,16])
 (.seq (.ops [
 ⟨some 115,.move (.tmp 16),3,none⟩,
 ⟨some 116,.move (.tmp 1),3,none⟩,
 ⟨some 117,.binOp .sub 3 (.tmp 115) (.tmp 116) 3,3,none⟩,
 ⟨some 118,.move (.tmp 2),3,none⟩,
 ⟨some 119,.move (.tmp 16),3,none⟩,
 ⟨some 120,.binOp .sub 3 (.tmp 118) (.tmp 119) 3,3,none⟩,
 ⟨some 18,.assign (.tmp 117),3,none⟩,
 ⟨some 19,.assign (.tmp 120),3,none⟩] [0,1,2,3,4,11,12,16,18,19])
 (.seq (.ops [
 ⟨some 121,.move (.tmp 12),3,none⟩,
 ⟨some 122,.binOp .quo 3 (.tmp 121) (.const (.int .i64 8)) 3,3,none⟩,
 ⟨some 20,.assign (.tmp 122),3,none⟩] [0,1,2,3,4,11,16,18,19,20])
 (.seq (.ops [
 ⟨some 123,.move (.tmp 18),3,none⟩,
 ⟨some 124,.move (.tmp 19),3,none⟩,
 ⟨some 125,.binOp .lss 3 (.tmp 123) (.tmp 124) 3,4,none⟩] [0,1,2,3,4,11,16,18,19,20,125])
 (.cond (.tmp 125)
 (.seq (.ops [
 ⟨some 126,.move (.tmp 18),3,none⟩,
 ⟨some 127,.move (.tmp 20),3,none⟩,
 ⟨some 128,.binOp .geq 3 (.tmp 126) (.tmp 127) 3,4,none⟩,
 ⟨some 10,.assign (.tmp 128),4,none⟩] [0,1,2,3,4,10,11,16])
 (.seq (.ops [
 ⟨some 129,.move (.tmp 0),22,none⟩,
 ⟨some 130,.move (.tmp 1),3,none⟩,
 ⟨some 131,.move (.tmp 16),3,none⟩,
 ⟨some 132,.move (.tmp 3),3,none⟩,
 ⟨some 133,.move (.tmp 4),99,none⟩,
 ⟨some 134,.call ⟨.value (.func 80),#[(.tmp 129),(.tmp 130),(.tmp 131),(.tmp 132),(.tmp 133)],#[22,3,3,3,99]⟩,0,none⟩] [0,2,3,4,10,11,16]) (sg c80S7)))
 (.seq (.ops [
 ⟨some 137,.move (.tmp 19),3,none⟩,
 ⟨some 138,.move (.tmp 20),3,none⟩,
 ⟨some 139,.binOp .geq 3 (.tmp 137) (.tmp 138) 3,4,none⟩,
 ⟨some 10,.assign (.tmp 139),4,none⟩] [0,1,2,3,4,10,11,16])
 (.seq (.ops [
 ⟨some 140,.move (.tmp 0),22,none⟩,
 ⟨some 141,.move (.tmp 16),3,none⟩,
 ⟨some 142,.binOp .add 3 (.tmp 141) (.const (.int .i64 1)) 3,3,none⟩,
 ⟨some 143,.move (.tmp 2),3,none⟩,
 ⟨some 144,.move (.tmp 3),3,none⟩,
 ⟨some 145,.move (.tmp 4),99,none⟩,
 ⟨some 146,.call ⟨.value (.func 80),#[(.tmp 140),(.tmp 142),(.tmp 143),(.tmp 144),(.tmp 145)],#[22,3,3,3,99]⟩,0,none⟩] [0,1,3,4,10,11,16]) (sg c80S8))))))))
def c80S10(_:Unit):Cmd:=(.seq (.ops [
 ⟨some 106,.move (.tmp 0),22,none⟩,
 ⟨some 107,.move (.tmp 1),3,none⟩,
 ⟨some 108,.move (.tmp 2),3,none⟩,
 ⟨some 109,.move (.tmp 13),3,none⟩,
 ⟨some 110,.move (.tmp 4),99,none⟩,
 ⟨some 111,.call ⟨.value (.func 109),#[(.tmp 106),(.tmp 107),(.tmp 108),(.tmp 109),(.tmp 110)],#[22,3,3,3,99]⟩,138,none⟩,
 ⟨some 105,.move (.tmp 111),138,none⟩,
 ⟨some 112,.extract (.tmp 105) 0,3,none⟩,
 ⟨some 113,.extract (.tmp 105) 1,4,none⟩,
 ⟨some 16,.assign (.tmp 112),3,none⟩,
 ⟨some 17,.assign (.tmp 113),4,none⟩] [0,1,2,3,4,12,16,17]) (sg c80S9))
def c80S11(_:Unit):Cmd:=(.seq (.seq (.draw (drawOps 0 c80code) [0,1,2,3,4,10,11,12,13,97]) (sg c80S6)) (sg c80S10))
def c80S12(_:Unit):Cmd:=(.seq (.seq (.ops [
 ⟨some 68,.move (.tmp 10),4,none⟩,
 ⟨some 69,.move (.tmp 68),4,none⟩,
 ⟨some 70,.move (.tmp 11),4,(some (69,true))⟩,
 ⟨some 71,.pick (.tmp 69) (.tmp 70) (.const (.bool false)),4,none⟩,
 ⟨some 72,.move (.tmp 71),4,none⟩,
 ⟨some 73,.move (.tmp 14),156,(some (72,true))⟩,
 ⟨some 74,.binOp .eql 156 (.tmp 73) (.const (.int .i64 1)) 156,4,(some (72,true))⟩,
 ⟨some 75,.pick (.tmp 72) (.tmp 74) (.const (.bool false)),4,none⟩] [0,1,2,3,4,10,11,12,13,75])
 (.cond (.tmp 75)
 (.seq (.ops [
 ⟨some 76,.move (.tmp 0),22,none⟩,
 ⟨some 77,.move (.tmp 1),3,none⟩,
 ⟨some 78,.move (.tmp 2),3,none⟩,
 ⟨some 79,.move (.tmp 4),99,none⟩,
 ⟨some 80,.call ⟨.value (.func 107),#[(.tmp 76),(.tmp 77),(.tmp 78),(.tmp 79)],#[22,3,3,99]⟩,4,none⟩] [0,1,2,3,4,10,11,12,13,80]) (sg c80S4))
 (.skip [0,1,2,3,4,10,11,12,13]))) (sg c80S11))
def c80S13(_:Unit):Cmd:=(.seq (.seq (.ops [
 ⟨some 55,.move (.tmp 14),156,none⟩,
 ⟨some 56,.binOp .eql 156 (.tmp 55) (.const (.int .i64 2)) 156,4,none⟩] [0,1,2,3,4,10,11,12,13,14,56])
 (.cond (.tmp 56)
 (.seq (.ops [
 ⟨some 57,.move (.tmp 0),22,none⟩,
 ⟨some 58,.move (.tmp 1),3,none⟩,
 ⟨some 59,.move (.tmp 2),3,none⟩,
 ⟨some 60,.move (.tmp 4),99,none⟩,
 ⟨some 61,.call ⟨.value (.func 106),#[(.tmp 57),(.tmp 58),(.tmp 59),(.tmp 60)],#[22,3,3,99]⟩,0,none⟩] [0,1,2,3,4,10,11,12,13]) (sg c80S3))
 (.skip [0,1,2,3,4,10,11,12,13,14]))) (sg c80S12))
def c80S14(_:Unit):Cmd:=(.seq (.ops [
 ⟨some 48,.move (.tmp 0),22,none⟩,
 ⟨some 49,.move (.tmp 1),3,none⟩,
 ⟨some 50,.move (.tmp 2),3,none⟩,
 ⟨some 51,.move (.tmp 4),99,none⟩,
 ⟨some 52,.call ⟨.value (.func 105),#[(.tmp 48),(.tmp 49),(.tmp 50),(.tmp 51)],#[22,3,3,99]⟩,157,none⟩,
 ⟨some 47,.move (.tmp 52),157,none⟩,
 ⟨some 53,.extract (.tmp 47) 0,3,none⟩,
 ⟨some 54,.extract (.tmp 47) 1,156,none⟩,
 ⟨some 13,.assign (.tmp 53),3,none⟩,
 ⟨some 14,.assign (.tmp 54),156,none⟩] [0,1,2,3,4,10,11,12,13,14]) (sg c80S13))
def c80S15(_:Unit):Cmd:=(.seq (.seq (.ops [
 ⟨some 38,.move (.tmp 10),4,none⟩,
 ⟨some 39,.unOp .not 4 (.tmp 38),4,none⟩] [0,1,2,3,4,10,11,12,39])
 (.cond (.tmp 39)
 (.seq (.ops [
 ⟨some 40,.move (.tmp 0),22,none⟩,
 ⟨some 41,.move (.tmp 1),3,none⟩,
 ⟨some 42,.move (.tmp 2),3,none⟩,
 ⟨some 43,.move (.tmp 4),99,none⟩,
 ⟨some 44,.call ⟨.value (.func 104),#[(.tmp 40),(.tmp 41),(.tmp 42),(.tmp 43)],#[22,3,3,99]⟩,0,none⟩] [0,1,2,3,4,10,11,12]) (sg c80S2))
 (.skip [0,1,2,3,4,10,11,12]))) (sg c80S14))
def c80S16(_:Unit):Cmd:=(.seq (.seq (.ops [
 ⟨some 31,.move (.tmp 3),3,none⟩,
 ⟨some 32,.binOp .eql 3 (.tmp 31) (.const (.int .i64 0)) 3,4,none⟩] [0,1,2,3,4,10,11,12,32])
 (.cond (.tmp 32)
 (.seq (.ops [
 ⟨some 33,.move (.tmp 0),22,none⟩,
 ⟨some 34,.move (.tmp 1),3,none⟩,
 ⟨some 35,.move (.tmp 2),3,none⟩,
 ⟨some 36,.move (.tmp 4),99,none⟩,
 ⟨some 37,.call ⟨.value (.func 103),#[(.tmp 33),(.tmp 34),(.tmp 35),(.tmp 36)],#[22,3,3,99]⟩,0,none⟩] []) (sg c80S1))
 (.skip [0,1,2,3,4,10,11,12]))) (sg c80S15))
def c80L0(_:Unit):Cmd:=(.block 1 (.seq (.ops [
 ⟨some 21,.move (.tmp 2),3,none⟩,
 ⟨some 22,.move (.tmp 1),3,none⟩,
 ⟨some 23,.binOp .sub 3 (.tmp 21) (.tmp 22) 3,3,none⟩,
 ⟨some 12,.assign (.tmp 23),3,none⟩] [0,1,2,3,4,10,11,12])
 (.seq (.seq (.ops [
 ⟨some 24,.move (.tmp 12),3,none⟩,
 ⟨some 25,.binOp .leq 3 (.tmp 24) (.const (.int .i64 12)) 3,4,none⟩] [0,1,2,3,4,10,11,12,25])
 (.cond (.tmp 25)
 (.seq (.ops [
 ⟨some 26,.move (.tmp 0),22,none⟩,
 ⟨some 27,.move (.tmp 1),3,none⟩,
 ⟨some 28,.move (.tmp 2),3,none⟩,
 ⟨some 29,.move (.tmp 4),99,none⟩,
 ⟨some 30,.call ⟨.value (.func 102),#[(.tmp 26),(.tmp 27),(.tmp 28),(.tmp 29)],#[22,3,3,99]⟩,0,none⟩] []) (sg c80S0))
 (.skip [0,1,2,3,4,10,11,12]))) (sg c80S16))))
def c80:Cmd:=(.seq (.ops [
 ⟨some 10,.assign (.const (.bool true)),4,none⟩] [0,1,2,3,4,10])
 (.seq (.ops [
 ⟨some 11,.assign (.const (.bool true)),4,none⟩] [0,1,2,3,4,10,11])
 (.block 0 (.loop (sg c80L0)))))
attribute [go_sem] c80 c80S0 c80S1 c80S2 c80S3 c80S4 c80S5 c80S6 c80S7 c80S8 c80S9 c80S10 c80S11 c80S12 c80S13 c80S14 c80S15 c80S16 c80L0
theorem ent80(a0 a1 a2 a3 a4:Value)(w:World)(K:Value→World→Prop)(h:W Tryz.prog c80 [(0,a0),(1,a1),(2,a2),(3,a3),(4,a4)] w (finQ Tryz.prog [] K)):Ret Tryz.prog 80 [a0,a1,a2,a3,a4] w K :=
 Ret_of_W (code:=c80code) Tryz.func80 (by kernel_rfl) (by kernel_rfl) (of_decide_eq_true (by kernel_rfl)) h
@[go_sem] theorem go80:goFunc Tryz.prog 80=true:=by kernel_rfl
open Go Go.Ann Go.RowKit
def u8(n:Nat):UInt8:=UInt8.ofNat n
def varL(n:Nat):List UInt8:=if h:n<128 then [u8 n] else u8 (n % 128+128)::varL (n / 128)
termination_by n
decreasing_by omega
theorem varL_lt{n:Nat}(h:n<128):varL n=[u8 n]:=by rw [varL,dif_pos h]
theorem varL_ge{n:Nat}(h:¬ n<128):varL n=u8 (n % 128+128)::varL (n / 128):=by rw [varL,dif_neg h]
theorem varL_len{k:Nat}:∀ {n:Nat},n<128 ^ (k+1)→(varL n).length≤k+1:=by
 induction k with
 | zero=>intro n h; rw [varL_lt (by simpa using h)]; simp
 | succ k ih =>
  intro n h
  by_cases hn:n<128
  ·rw [varL_lt hn]; simp
  ·rw [varL_ge hn,List.length_cons]
   have:n / 128<128 ^ (k+1):=by
    rw [Nat.div_lt_iff_lt_mul (by decide)]
    rw [Nat.pow_succ] at h; omega
   have:=ih this
   omega
theorem varL_10{n:Nat}(h:n<18446744073709551616):(varL n).length≤10:=varL_len (k:=9) (by omega)
def byteC(b:UInt8):Value:=.int .u8 b.toNat
theorem wrap_u8(n:Nat):IntKind.u8.wrap (n:Int)=((u8 n).toNat:Int):=by
 rw [wrap_u8_mod]; unfold u8; simp
theorem or128:∀ x:Fin 256,bits BinOp.or IntKind.u8 (x.val:Int) 128=((x.val % 128+128:Nat):Int):=by decide +kernel
theorem or_u8(m:Nat):bits BinOp.or IntKind.u8 (IntKind.u8.wrap (m:Int)) 128=((u8 (m % 128+128)).toNat:Int):=by
 have h:=or128 ⟨m % 256,by omega⟩
 have e:IntKind.u8.wrap (m:Int)=((m % 256:Nat):Int):=by rw [wrap_u8_mod]; omega
 rw [e,h]
 unfold u8
 simp
 omega
theorem byte_one(b:UInt8):∀ u∈[byteC b],u.oneCell'=true:=by intro u hu; rw [List.mem_singleton] at hu; subst hu; rfl
theorem var_ok(n:Nat)(w:World)(hn:n<18446744073709551616):Ret Tryz.prog 136 [.int .u64 n] w fun u w'=>u=.string (ofL (varL n))∧Gr w w':=by
 refine ent136 _ _ _ ?_
 simp (disch:=first|omega|exact zF rfl|exact zG rfl|exact fun h=>h|(simp only[zA,zB,zC,zD,bytesW];omega)) only[go_sem]
 have s1:=(St.start (W0:=w)).nilRow 5 1
 refine W_loopU (fun x:Nat × List UInt8 × Value=>[(0,.int .u64 x.1),(3,x.2.2)]) (fun x w'=>St w w' (fun _=>False) [.row x.2.2 5 1 x.2.1.length (x.2.1.map byteC)] []∧w.drawn≤w'.drawn∧varL n=x.2.1++varL x.1∧x.1<128 ^ (10 - x.2.1.length)∧x.2.1.length≤9) (fun x=>x.1) (n,[],.slice none 0 0) rfl ⟨s1,Nat.le_refl _,rfl,by simp; omega,by simp⟩ ?_
 rintro ⟨m,pre,v⟩ w1 ⟨s1,hd,hv,hm,hp⟩
 simp only at s1 hd hv hm hp
 obtain ⟨a,c,rfl,_⟩:=own_slice (s1.row 0 rfl)
 by_cases hlt:m<128
 ·have hlt':¬ (128:Int)≤m:=by omega
  simp (disch:=first|omega|exact zF rfl|exact zG rfl|exact fun h=>h|(simp only[zA,zB,zC,zD,bytesW];omega)) only[go_sem,hlt']
  rw [wrap_u8]
  refine bsW_ones ty120mkI rfl rfl (by decide) (by decide) (byte_one _) ?_
  simp (disch:=first|omega|exact zF rfl|exact zG rfl|exact fun h=>h|(simp only[zA,zB,zC,zD,bytesW];omega)) only[go_sem]
  have hx:Rd (w1.alloc (.cells #[byteC (u8 m)] 5)) 1 (.slice (some ⟨w1.heap.size,0,none⟩) 1 1) 1 [byteC (u8 m)]:=rd_new (n:=1) (cs:=#[byteC (u8 m)]) rfl
  refine rawB_D ((s1.alloc' (.cells #[byteC (u8 m)] 5)).append 0 rfl ty120mkI rfl (by decide) hx (byte_one _) (by omega) (by omega) ?_)
  intro v6 w6 s6 c6 d6
  simp only [List.set_cons_zero] at s6
  obtain ⟨a6,c6',rfl,_⟩:=own_slice (s6.row 0 rfl)
  simp (disch:=first|omega|exact zF rfl|exact zG rfl|exact fun h=>h|(simp only[zA,zB,zC,zD,bytesW];omega)) only[go_sem]
  obtain ⟨g,rfl⟩:∃ g,a6=some ⟨g,0,none⟩:=by
   obtain ⟨_,⟨e,h0⟩ | ⟨g,cap,cur,e,_⟩⟩:=s6.row 0 rfl
   ·cases h0
   ·cases e; exact ⟨_,rfl⟩
  have hc:=(s6.row 0 rfl).cells rfl
  refine ⟨varL n,by rw [hv,varL_lt hlt]; simp,fun j b hb=>?_,rfl,s6.bel,Nat.le_trans hd d6⟩
  rw [hv,varL_lt hlt] at hb
  refine hc j _ ?_
  have:pre.map byteC++[byteC (u8 m)]=(pre++[u8 m]).map byteC:=by simp
  rw [this,List.getElem?_map,hb]
  rfl
 ·have hlt':(128:Int)≤m:=by omega
  simp (disch:=first|omega|exact zF rfl|exact zG rfl|exact fun h=>h|(simp only[zA,zB,zC,zD,bytesW];omega)) only[go_sem,hlt']
  rw [or_u8]
  refine bsW_ones ty120mkI rfl rfl (by decide) (by decide) (byte_one _) ?_
  simp (disch:=first|omega|exact zF rfl|exact zG rfl|exact fun h=>h|(simp only[zA,zB,zC,zD,bytesW];omega)) only[go_sem]
  have hx:Rd (w1.alloc (.cells #[byteC (u8 (m % 128+128))] 5)) 1 (.slice (some ⟨w1.heap.size,0,none⟩) 1 1) 1 [byteC (u8 (m % 128+128))]:=rd_new (n:=1) (cs:=#[byteC (u8 (m % 128+128))]) rfl
  refine rawB_D ((s1.alloc' (.cells #[byteC (u8 (m % 128+128))] 5)).append 0 rfl ty120mkI rfl (by decide) hx (byte_one _) (by omega) (by omega) ?_)
  intro v6 w6 s6 c6 d6
  simp only [List.set_cons_zero] at s6
  simp (disch:=first|omega|exact zF rfl|exact zG rfl|exact fun h=>h|(simp only[zA,zB,zC,zD,bytesW];omega)) only[go_sem]
  have e1:(m:Int) / 2 ^ min 7 64=((m / 128:Nat):Int):=by
   rw [show (2:Int) ^ min 7 64=128 by decide]; omega
  rw [e1]
  have e2:pre.map byteC++[byteC (u8 (m % 128+128))]=(pre++[u8 (m % 128+128)]).map byteC:=by simp
  rw [e2] at s6
  have hp2:pre.length≤8:=by
   rcases Nat.lt_or_ge 8 pre.length with h | h
   ·have:pre.length=9:=by omega
    rw [this] at hm
    omega
   ·exact h
  refine ⟨(m / 128,pre++[u8 (m % 128+128)],v6),rfl,⟨by rw [List.length_append]; exact s6,Nat.le_trans hd d6,by simp only; rw [hv,varL_ge hlt,List.append_assoc]; rfl,?_,by simp; omega⟩,by simp only; omega⟩
  simp only [List.length_append,List.length_singleton]
  rw [Nat.div_lt_iff_lt_mul (by decide),← Nat.pow_succ]
  rw [show (10 - (pre.length+1)).succ=10 - pre.length by omega]
  exact hm
def foldN(n:Int):Nat:=if 0≤n then (2 * n).toNat else (-2 * n - 1).toNat
theorem xor_zero(x:Nat)(h:x<18446744073709551616):bits .xor .u64 (x:Int) 0=x:=by
 have e:(BitVec.ofInt 64 (x:Int) ^^^ BitVec.ofInt 64 0).toNat=x:=by
  rw [BitVec.toNat_xor]
  have h2:(BitVec.ofInt 64 (x:Int)).toNat=x:=by
   rw [BitVec.ofInt_natCast,BitVec.toNat_ofNat]; exact Nat.mod_eq_of_lt (by omega)
  have h3:(BitVec.ofInt 64 0).toNat=0:=by decide
  rw [h2,h3,Nat.xor_zero]
 show IntKind.u64.wrap (((BitVec.ofInt 64 (x:Int) ^^^ BitVec.ofInt 64 0).toNat:Nat):Int)=_
 rw [e,wrap_u64_id _ (by omega) (by omega)]
theorem xor_ones(x:Nat)(h:x<18446744073709551616):bits .xor .u64 (x:Int) 18446744073709551615=((18446744073709551615 - x:Nat):Int):=by
 have e:(BitVec.ofInt 64 (x:Int) ^^^ BitVec.ofInt 64 18446744073709551615).toNat=18446744073709551615 - x:=by
  have h2:(BitVec.ofInt 64 (x:Int)).toNat=x:=by
   rw [BitVec.ofInt_natCast,BitVec.toNat_ofNat]; exact Nat.mod_eq_of_lt (by omega)
  have h3:BitVec.ofInt 64 18446744073709551615=BitVec.allOnes 64:=by decide
  rw [h3,BitVec.xor_allOnes,BitVec.toNat_not,h2]
 show IntKind.u64.wrap (((BitVec.ofInt 64 (x:Int) ^^^ BitVec.ofInt 64 18446744073709551615).toNat:Nat):Int)=_
 rw [e,wrap_u64_id _ (by omega) (by omega)]
theorem wrap_u64(n:Int):IntKind.u64.wrap n=n % 18446744073709551616:=by
 simp [IntKind.wrap,IntKind.signed,IntKind.bits]
theorem foldN_lt(n:Int)(h:I64 n):foldN n<18446744073709551616:=by
 obtain ⟨h1,h2⟩:=h
 unfold foldN; split <;> omega
theorem fold_ok(n:Int)(w:World)(h:I64 n):Ret Tryz.prog 137 [.int .i64 n] w fun u w'=>u=.int .u64 (foldN n)∧w'=w:=by
 obtain ⟨h1,h2⟩:=h
 refine ent137 _ _ _ ?_
 simp (disch:=first|omega|exact zF rfl|exact zG rfl|exact fun h=>h|(simp only[zA,zB,zC,zD,bytesW];omega)) only[go_sem]
 rw [show (2:Int) ^ min 1 64=2 by decide,show (2:Int) ^ min 63 64=9223372036854775808 by decide]
 unfold foldN
 by_cases hn:0≤n
 ·rw [if_pos hn]
  obtain ⟨m,rfl⟩:=Int.eq_ofNat_of_zero_le hn
  have e1:(m:Int) / 9223372036854775808=0:=by omega
  have e2:IntKind.u64.wrap (IntKind.u64.wrap (m:Int) * 2)=((2 * m:Nat):Int):=by rw [wrap_u64,wrap_u64]; omega
  have e3:IntKind.u64.wrap 0=0:=by decide
  rw [e1,e2,e3,xor_zero _ (by omega)]
  omega
 ·rw [if_neg hn]
  obtain ⟨m,hm⟩:∃ m:Nat,n = -(m:Int):=⟨(-n).toNat,by omega⟩
  subst hm
  have e1:-(m:Int) / 9223372036854775808 = -1:=by omega
  have e2:IntKind.u64.wrap (IntKind.u64.wrap (-(m:Int)) * 2)=((18446744073709551616 - 2 * m:Nat):Int):=by rw [wrap_u64,wrap_u64]; omega
  have e3:IntKind.u64.wrap (-1)=18446744073709551615:=by decide
  rw [e1,e2,e3,xor_ones _ (by omega)]
  omega
theorem rfold_ok(n:Int)(w:World)(h:I64 n):Ret Tryz.prog 94 [.int .i64 n] w fun u w'=>u=.int .u64 (foldN n)∧w'=w:=by
 obtain ⟨h1,h2⟩:=h
 refine ent94 _ _ _ ?_
 simp (disch:=first|omega|exact zF rfl|exact zG rfl|exact fun h=>h|(simp only[zA,zB,zC,zD,bytesW];omega)) only[go_sem]
 unfold foldN
 refine ⟨fun hn=>?_,fun hn=>⟨⟨by omega,by omega⟩,?_⟩⟩
 ·rw [if_pos hn,wrap_u64,wrap_u64]; omega
 ·rw [if_neg (by omega),wrap_u64,wrap_u64,wrap_u64]; omega
theorem rvar1{n:Nat}{w:World}{Q:Value→World→Prop}(h:Q (.slice (some ⟨w.heap.size,0,none⟩) 1 1) (w.alloc (.cells #[byteC (u8 n)] 5))):bsW Tryz.prog 120 1 [0] [.int .u8 (IntKind.u8.wrap n)] w Q:=by
 rw [wrap_u8]
 exact bsW_ones ty120mkI rfl rfl (by decide) (by decide) (byte_one _) h
theorem one_byte{w:World}{b:Nat}{x:UInt8}(h:Blk w b #[byteC x] 5):bytesAt w (some ⟨b,0,none⟩) [x]:=by
 intro i c hc
 match i,hc with
 | 0,hc =>
  simp only [List.getElem?_cons_zero,Option.some.injEq] at hc; subst hc
  exact h.cell 0
 | i+1,hc=>simp at hc
theorem rvar_ok:∀ (k n:Nat) (w:World),n<128 ^ (k+1)→n<18446744073709551616→Ret Tryz.prog 93 [.int .u64 n] w fun u w'=>u=.string (ofL (varL n))∧Below w.heap.size w w':=by
 intro k
 induction k with
 | zero =>
  intro n w h hn
  refine ent93 _ _ _ ?_
  have:(n:Int)<128:=by simp at h; omega
  simp (disch:=first|omega|exact zF rfl|exact zG rfl|exact fun h=>h|(simp only[zA,zB,zC,zD,bytesW];omega)) only[go_sem,this]
  refine rvar1 ?_
  simp (disch:=first|omega|exact zF rfl|exact zG rfl|exact fun h=>h|(simp only[zA,zB,zC,zD,bytesW];omega)) only[go_sem]
  refine ⟨[u8 n],rfl,one_byte Blk.new,?_,(Below.refl _ w).alloc (Nat.le_refl _) _⟩
  rw [varL_lt (by omega)]
 | succ k ih =>
  intro n w h hn
  refine ent93 _ _ _ ?_
  simp (disch:=first|omega|exact zF rfl|exact zG rfl|exact fun h=>h|(simp only[zA,zB,zC,zD,bytesW];omega)) only[go_sem]
  have bl:=fun x=>(Below.refl w.heap.size w).alloc (Nat.le_refl _) (.cells #[byteC x] 5)
  refine ⟨fun h=>rvar1 ?_,fun h=>?_⟩
  ·simp (disch:=first|omega|exact zF rfl|exact zG rfl|exact fun h=>h|(simp only[zA,zB,zC,zD,bytesW];omega)) only[go_sem]
   refine ⟨[u8 n],rfl,one_byte Blk.new,?_,bl _⟩
   rw [varL_lt (by omega)]
  have hd:n / 128<128 ^ (k+1):=by
   rw [Nat.div_lt_iff_lt_mul (by decide)]
   rw [Nat.pow_succ] at *; omega
  have e1:IntKind.u64.wrap ((n:Int).tdiv 128)=((n / 128:Nat):Int):=by rw [show (n:Int).tdiv 128=((n / 128:Nat):Int) from rfl,wrap_u64]; omega
  have e2:IntKind.u64.wrap ((n:Int).tmod 128+128)=((n % 128+128:Nat):Int):=by rw [show (n:Int).tmod 128=((n % 128:Nat):Int) from rfl,wrap_u64]; omega
  have hn2:varL n=u8 (n % 128+128)::varL (n / 128):=varL_ge (by omega)
  refine c93draw0 (fun _=>True) trivial ?_
  simp (disch:=first|omega|exact zF rfl|exact zG rfl|exact fun h=>h|(simp only[zA,zB,zC,zD,bytesW];omega)) only[go_sem,c93D0]
  rw [e1,e2]
  have hw:Below w.heap.size w w.drew:=(Below.refl _ w).drew
  constructor
  ·refine rvar1 ?_
   simp (disch:=first|omega|exact zF rfl|exact zG rfl|exact fun h=>h|(simp only[zA,zB,zC,zD,bytesW];omega)) only[go_sem]
   have B0:Blk (w.alloc (.cells #[byteC (u8 (n % 128+128))] 5)) w.heap.size #[byteC (u8 (n % 128+128))] 5:=Blk.new
   have hb:=bl (u8 (n % 128+128))
   have hl:=varL_10 (show n / 128<18446744073709551616 by omega)
   have hbd:=hb.drew
   constructor
   ·refine ⟨[u8 (n % 128+128)],rfl,one_byte B0.drew,Ret.mono (ih (n / 128) _ hd (by omega)) ?_⟩
    rintro _ w2 ⟨rfl,b2⟩
    simp (disch:=first|omega|exact zF rfl|exact zG rfl|exact fun h=>h|(simp only[zA,zB,zC,zD,bytesW];omega)) only[go_sem]
    exact ⟨by first | omega | (simp only [List.length_cons,List.length_nil]; omega),by first | (rw [hn2]; done) | (rw [hn2]; rfl),Below.next hbd b2⟩
   ·refine Ret.mono (ih (n / 128) _ hd (by omega)) ?_
    rintro _ w2 ⟨rfl,b2⟩
    simp (disch:=first|omega|exact zF rfl|exact zG rfl|exact fun h=>h|(simp only[zA,zB,zC,zD,bytesW];omega)) only[go_sem]
    refine ⟨[u8 (n % 128+128)],rfl,one_byte (B0.drew.below b2 B0.drew.lt),?_⟩
    exact ⟨by first | omega | (simp only [List.length_cons,List.length_nil]; omega),by first | (rw [hn2]; done) | (rw [hn2]; rfl),Below.next hbd b2⟩
  ·have hl:=varL_10 (show n / 128<18446744073709551616 by omega)
   refine Ret.mono (ih (n / 128) _ hd (by omega)) ?_
   rintro _ w2 ⟨rfl,b2⟩
   simp (disch:=first|omega|exact zF rfl|exact zG rfl|exact fun h=>h|(simp only[zA,zB,zC,zD,bytesW];omega)) only[go_sem]
   refine rvar1 ?_
   simp (disch:=first|omega|exact zF rfl|exact zG rfl|exact fun h=>h|(simp only[zA,zB,zC,zD,bytesW];omega)) only[go_sem]
   refine ⟨[u8 (n % 128+128)],rfl,one_byte Blk.new,by simp only [List.length_cons,List.length_nil]; omega,by rw [hn2,List.singleton_append],(Below.next hw b2).trans ((Below.refl _ w2).alloc (Below.next hw b2).size _)⟩
open Go Go.Ann Go.RowKit
def intE(n:Int):List Value:=[.int .i64 n]
theorem intE_len(n:Int):(intE n).length=1:=rfl
theorem intE_one(n:Int):∀ u∈intE n,u.oneCell'=true:=by intro u hu; simp only [intE,List.mem_singleton] at hu; subst hu; rfl
theorem RdS.int{w:World}{ad:Addr}{n cap:Nat}{l:List Int}(h:RdS w 1 intE (.slice (some ad) n cap) l){k:Nat}(hk:k<l.length):w.cell? (ad.add k)=some (.int .i64 l[k]) :=
 RdS.at1 (e1:=fun r=>.int .i64 r) h hk
def txt(l:List Int):List UInt8:=varL l.length++l.flatMap fun n=>varL (foldN n)
def Ok64(l:List Int):Prop:=∀ n∈l,I64 n
theorem flat_len{l:List Int}(h:Ok64 l):(l.flatMap fun n=>varL (foldN n)).length≤10 * l.length:=by
 induction l with
 | nil=>simp
 | cons n l ih =>
  have h1:=varL_10 (foldN_lt n (h n (List.mem_cons_self ..)))
  have h2:=ih fun m hm=>h m (List.mem_cons_of_mem _ hm)
  rw [List.flatMap_cons,List.length_append,List.length_cons]; omega
theorem text_ok(v:Value)(l:List Int)(w:World)(h:RdS w 1 intE v l)(h64:Ok64 l)(hl:l.length≤1000000):Ret Tryz.prog 112 [v] w fun u w'=>u=.string (ofL (txt l))∧Gr w w':=by
 obtain ⟨a,c,rfl,_⟩:=h.form
 refine ent112 _ _ _ ?_
 simp (disch:=first|omega|exact zF rfl|exact zG rfl|exact fun h=>h|(simp only[zA,zB,zC,zD,bytesW];omega)) only[go_sem]
 have e0:IntKind.u64.wrap (l.length:Int)=((l.length:Nat):Int):=by rw [wrap_u64]; omega
 rw [e0]
 refine Ret.mono (var_ok l.length w (by omega)) ?_
 rintro _ w1 ⟨rfl,g1⟩
 simp (disch:=first|omega|exact zF rfl|exact zG rfl|exact fun h=>h|(simp only[zA,zB,zC,zD,bytesW];omega)) only[go_sem]
 have h10:=varL_10 (show l.length<18446744073709551616 by omega)
 refine W_loopU (fun k:Nat=>[(3,.string (ofL (varL l.length++(l.take k).flatMap fun n=>varL (foldN n)))),(12,.int .i64 k)]) (fun k w'=>Gr w w'∧k≤l.length) (fun k=>l.length - k) 0 (by simp [ovr,lk]) ⟨g1,Nat.zero_le _⟩ ?_
 rintro k w2 ⟨g2,hk⟩
 by_cases hlt:k<l.length
 ·have hlt':(k:Int)<l.length:=by omega
  obtain ⟨p,rfl⟩:=h.ptr (by omega)
  have ek:=RdS.int (h.below g2.below (by decide)) hlt
  have hk64:I64 l[k]:=h64 _ (List.getElem_mem hlt)
  simp (disch:=first|omega|exact zF rfl|exact zG rfl|exact fun h=>h|(simp only[zA,zB,zC,zD,bytesW];omega)) only[go_sem,hlt',ek]
  refine ⟨by omega,Ret.mono (fold_ok l[k] w2 hk64) ?_⟩
  rintro _ w3 ⟨rfl,rfl⟩
  simp (disch:=first|omega|exact zF rfl|exact zG rfl|exact fun h=>h|(simp only[zA,zB,zC,zD,bytesW];omega)) only[go_sem]
  refine Ret.mono (var_ok (foldN l[k]) w3 (foldN_lt _ hk64)) ?_
  rintro _ w4 ⟨rfl,g4⟩
  simp (disch:=first|omega|exact zF rfl|exact zG rfl|exact fun h=>h|(simp only[zA,zB,zC,zD,bytesW];omega)) only[go_sem]
  have hb:=flat_len (l:=l.take k) fun n hn=>h64 n (List.mem_of_mem_take hn)
  have hv:=varL_10 (foldN_lt _ hk64)
  rw [List.length_take] at hb
  refine ⟨?_,⟨by omega,by omega⟩,k+1,?_,⟨g2.trans g4,by omega⟩,by omega⟩
  ·simp only [List.length_append]; omega
  ·rw [List.take_succ_eq_append_getElem hlt,List.flatMap_append,List.append_assoc]; simp
 ·have hlt':¬ (k:Int)<l.length:=by omega
  simp (disch:=first|omega|exact zF rfl|exact zG rfl|exact fun h=>h|(simp only[zA,zB,zC,zD,bytesW];omega)) only[go_sem,hlt']
  rw [List.take_of_length_le (by omega)]
  exact ⟨rfl,g2⟩
theorem rtext_ok(v:Value)(l:List Int)(w:World)(h:RdS w 1 intE v l)(h64:Ok64 l)(hl:l.length≤1000000):Ret Tryz.prog 71 [v] w fun u w'=>u=.string (ofL (txt l))∧Below w.heap.size w w':=by
 obtain ⟨a,c,rfl,_⟩:=h.form
 refine ent71 _ _ _ ?_
 simp (disch:=first|omega|exact zF rfl|exact zG rfl|exact fun h=>h|(simp only[zA,zB,zC,zD,bytesW];omega)) only[go_sem]
 have e0:IntKind.u64.wrap (l.length:Int)=((l.length:Nat):Int):=by rw [wrap_u64]; omega
 rw [e0]
 refine Ret.mono (rvar_ok 9 l.length w (by omega) (by omega)) ?_
 rintro _ w1 ⟨rfl,g1⟩
 simp (disch:=first|omega|exact zF rfl|exact zG rfl|exact fun h=>h|(simp only[zA,zB,zC,zD,bytesW];omega)) only[go_sem]
 have h10:=varL_10 (show l.length<18446744073709551616 by omega)
 refine W_loopU (fun k:Nat=>[(3,.string (ofL (varL l.length++(l.take k).flatMap fun n=>varL (foldN n)))),(4,.int .i64 k)]) (fun k w'=>Below w.heap.size w w'∧k≤l.length) (fun k=>l.length - k) 0 (by simp [ovr,lk]) ⟨g1,Nat.zero_le _⟩ ?_
 rintro k w2 ⟨g2,hk⟩
 by_cases hlt:k<l.length
 ·have hlt':(k:Int)<l.length:=by omega
  obtain ⟨p,rfl⟩:=h.ptr (by omega)
  have ek:=RdS.int (h.below g2 (by decide)) hlt
  have hk64:I64 l[k]:=h64 _ (List.getElem_mem hlt)
  simp (disch:=first|omega|exact zF rfl|exact zG rfl|exact fun h=>h|(simp only[zA,zB,zC,zD,bytesW];omega)) only[go_sem,hlt',ek]
  refine ⟨by omega,Ret.mono (rfold_ok l[k] w2 hk64) ?_⟩
  rintro _ w3 ⟨rfl,rfl⟩
  simp (disch:=first|omega|exact zF rfl|exact zG rfl|exact fun h=>h|(simp only[zA,zB,zC,zD,bytesW];omega)) only[go_sem]
  refine Ret.mono (rvar_ok 9 (foldN l[k]) w3 (by have:=foldN_lt _ hk64; omega) (foldN_lt _ hk64)) ?_
  rintro _ w4 ⟨rfl,g4⟩
  simp (disch:=first|omega|exact zF rfl|exact zG rfl|exact fun h=>h|(simp only[zA,zB,zC,zD,bytesW];omega)) only[go_sem]
  have hb:=flat_len (l:=l.take k) fun n hn=>h64 n (List.mem_of_mem_take hn)
  have hv:=varL_10 (foldN_lt _ hk64)
  rw [List.length_take] at hb
  refine ⟨?_,⟨by omega,by omega⟩,k+1,?_,⟨Below.next g2 g4,by omega⟩,by omega⟩
  ·simp only [List.length_append]; omega
  ·rw [List.take_succ_eq_append_getElem hlt,List.flatMap_append,List.append_assoc]; simp
 ·have hlt':¬ (k:Int)<l.length:=by omega
  simp (disch:=first|omega|exact zF rfl|exact zG rfl|exact fun h=>h|(simp only[zA,zB,zC,zD,bytesW];omega)) only[go_sem,hlt']
  rw [List.take_of_length_le (by omega)]
  exact ⟨rfl,g2⟩
open Go Go.Ann Go.RowKit
theorem varL_cut{n m:Nat}{a b:List UInt8}(hn:n<18446744073709551616)(hm:m<18446744073709551616)(h:varL n++a=varL m++b):n=m∧a=b:=by
 have key:∀ k n m:Nat,n<k→varL n++a=varL m++b→n=m∧a=b:=by
  intro k
  induction k with
  | zero=>intro n m h; omega
  | succ k ih =>
   intro n m hk h
   by_cases h1:n<128 <;> by_cases h2:m<128
   ·rw [varL_lt h1,varL_lt h2] at h
    simp only [List.cons_append,List.nil_append,List.cons.injEq] at h
    have:=congrArg UInt8.toNat h.1
    simp [u8] at this
    exact ⟨by omega,h.2⟩
   ·rw [varL_lt h1,varL_ge h2] at h
    simp only [List.cons_append,List.nil_append,List.cons.injEq] at h
    have:=congrArg UInt8.toNat h.1
    simp [u8] at this
    omega
   ·rw [varL_ge h1,varL_lt h2] at h
    simp only [List.cons_append,List.nil_append,List.cons.injEq] at h
    have:=congrArg UInt8.toNat h.1
    simp [u8] at this
    omega
   ·rw [varL_ge h1,varL_ge h2] at h
    simp only [List.cons_append,List.cons.injEq] at h
    obtain ⟨e,r⟩:=ih _ _ (by omega) h.2
    have:=congrArg UInt8.toNat h.1
    simp [u8] at this
    exact ⟨by omega,r⟩
 exact key (n+1) n m (by omega) h
theorem foldN_inj{a b:Int}(h:foldN a=foldN b):a=b:=by
 unfold foldN at h; split at h <;> split at h <;> omega
def OkS(s:List Int):Prop:=Ok64 s∧s.length≤1000000
def ltS(a b:List Int):Bool:=Op.bytesLess (txt a) (txt b)
def Uniq(l u:List (List Int)):Prop:=u.Pairwise (fun a b=>ltS a b=true)∧∀ x,x∈u↔x∈l
open Go Go.Ann Go.RowKit
theorem ints_one(l:List Int):∀ u∈l.flatMap intE,u.oneCell'=true:=by intro u hu; obtain ⟨a,_,h⟩:=List.mem_flatMap.1 hu; exact intE_one a u h
theorem iclone_ok(v:Value)(l:List Int)(w:World)(h:RdS w 1 intE v l)(hl:l.length≤1000000) :
  Ret Tryz.prog 88 [v] w fun u w'=>w'.ownsRow w.heap.size 3 1 u l.length (l.flatMap intE)∧Below w.heap.size w w':=by
 obtain ⟨a,c,rfl,_⟩:=h.form
 refine ent88 _ _ _ ?_
 simp (disch:=first|omega|exact zF rfl|exact zG rfl|exact fun h=>h|(simp only[zA,zB,zC,zD,bytesW];omega)) only[go_sem]
 have hSt:=(St.start (W0:=w)).emptyRow 3 1
 refine ⟨fun ha=>?_,fun ha=>bsW_none ty25mkI ?_⟩
 ·cases a with
  | some a=>cases ha
  | none =>
   have h0:l=[]:=by
    cases l with
    | nil=>rfl
    | cons x l=>obtain ⟨p,hp⟩:=h.ptr (by simp); cases hp
   subst h0
   exact ⟨⟨rfl,.inl ⟨rfl,rfl⟩⟩,Below.refl _ _⟩
 simp (disch:=first|omega|exact zF rfl|exact zG rfl|exact fun h=>h|(simp only[zA,zB,zC,zD,bytesW];omega)) only[go_sem]
 refine hSt.append 0 rfl ty25mkI rfl (by decide) (h.below hSt.bel (by decide)) (ints_one l) (by omega) (by omega) ?_
 intro v2 w2 s2 _
 have e2:=s2.row 0 rfl
 rw [Nat.zero_add,List.nil_append] at e2
 simp (disch:=first|omega|exact zF rfl|exact zG rfl|exact fun h=>h|(simp only[zA,zB,zC,zD,bytesW];omega)) only[go_sem]
 exact ⟨e2,s2.bel⟩
open Go Go.Ann Go.RowKit
abbrev VS:=Value × List Int
open Go Go.Proofs Go.Shelf
def layIns_ren:Go.Shelf.Ren:=⟨fun | 21=>120 | 27=>140 | 28=>141 | 35=>147 | 39=>149 | n=>n,fun | 22=>25 | 3=>3 | 4=>4 | 0=>0 | n=>n,fun | n=>n⟩
theorem layIns:Go.Proofs.Lays2.n21 Tryz.prog layIns_ren:={
  mixed:=by kernel_rfl,
  f21:=Tryz.func120.trans (congrArg some (by kernel_rfl)),
  f27:=Tryz.func140.trans (congrArg some (by kernel_rfl)),
  f28:=Tryz.func141.trans (congrArg some (by kernel_rfl)),
  f35:=Tryz.func147.trans (congrArg some (by kernel_rfl)),
  f39:=Tryz.func149.trans (congrArg some (by kernel_rfl)),
  t0:=Tryz.underlying0,
  a0:=Tryz.isAgg0,
  z0:=Tryz.sizeOf0,
  v0:=Tryz.zeroValue0,
  t3:=Tryz.underlying3,
  a3:=Tryz.isAgg3,
  z3:=Tryz.sizeOf3,
  v3:=Tryz.zeroValue3,
  t4:=Tryz.underlying4,
  a4:=Tryz.isAgg4,
  z4:=Tryz.sizeOf4,
  v4:=Tryz.zeroValue4,
  t22:=Tryz.underlying25,
  a22:=Tryz.isAgg25,
  z22:=Tryz.sizeOf25,
  v22:=Tryz.zeroValue25,
  i3:=by kernel_rfl }
def layDel_ren:Go.Shelf.Ren:=⟨fun | 23=>121 | n=>n,fun | 22=>25 | 3=>3 | 4=>4 | 0=>0 | n=>n,fun | n=>n⟩
theorem layDel:Go.Proofs.Lays2.n23 Tryz.prog layDel_ren:={
  mixed:=by kernel_rfl,
  f23:=Tryz.func121.trans (congrArg some (by kernel_rfl)),
  t0:=Tryz.underlying0,
  a0:=Tryz.isAgg0,
  z0:=Tryz.sizeOf0,
  v0:=Tryz.zeroValue0,
  t3:=Tryz.underlying3,
  a3:=Tryz.isAgg3,
  z3:=Tryz.sizeOf3,
  v3:=Tryz.zeroValue3,
  t4:=Tryz.underlying4,
  a4:=Tryz.isAgg4,
  z4:=Tryz.sizeOf4,
  v4:=Tryz.zeroValue4,
  t22:=Tryz.underlying25,
  a22:=Tryz.isAgg25,
  z22:=Tryz.sizeOf25,
  v22:=Tryz.zeroValue25,
  i3:=by kernel_rfl }
def layBin_ren:Go.Shelf.Ren:=⟨fun | 25=>118 | 31=>128 | 32=>139 | 37=>82 | n=>n,fun | 22=>25 | 3=>3 | 4=>4 | 40=>135 | 0=>0 | n=>n,fun | n=>n⟩
theorem layBin:Go.Proofs.Lays2.n25 Tryz.prog layBin_ren:={
  mixed:=by kernel_rfl,
  f25:=Tryz.func118.trans (congrArg some (by kernel_rfl)),
  f31:=Tryz.func128.trans (congrArg some (by kernel_rfl)),
  f32:=Tryz.func139.trans (congrArg some (by kernel_rfl)),
  f37:=Tryz.func82.trans (congrArg some (by kernel_rfl)),
  t0:=Tryz.underlying0,
  a0:=Tryz.isAgg0,
  z0:=Tryz.sizeOf0,
  v0:=Tryz.zeroValue0,
  t3:=Tryz.underlying3,
  a3:=Tryz.isAgg3,
  z3:=Tryz.sizeOf3,
  v3:=Tryz.zeroValue3,
  t4:=Tryz.underlying4,
  a4:=Tryz.isAgg4,
  z4:=Tryz.sizeOf4,
  v4:=Tryz.zeroValue4,
  t22:=Tryz.underlying25,
  a22:=Tryz.isAgg25,
  z22:=Tryz.sizeOf25,
  v22:=Tryz.zeroValue25,
  t40:=Tryz.underlying135,
  a40:=Tryz.isAgg135,
  z40:=Tryz.sizeOf135,
  v40:=Tryz.zeroValue135 }
def laySortOps_ren:Go.Shelf.Ren:=⟨fun | 6=>50 | 15=>81 | 14=>80 | 28=>110 | 29=>111 | 20=>102 | 21=>103 | 22=>104 | 23=>105 | 24=>106 | 25=>107 | 26=>108 | 27=>109 | 46=>131 | 47=>132 | 48=>133 | 49=>134 | 50=>135 | 57=>145 | n=>n,fun | 22=>22 | 24=>52 | 25=>99 | 3=>3 | 39=>135 | 0=>0 | 53=>163 | 55=>147 | 4=>4 | 46=>157 | 45=>156 | 50=>138 | 5=>5 | 9=>9 | 66=>177 | 70=>181 | 76=>186 | 77=>187 | n=>n,fun | n=>n⟩
theorem laySortOps:Go.Proofs.SlLaysF0.n6 Tryz.prog laySortOps_ren:={
  mixed:=by kernel_rfl,
  f6:=⟨Tryz.f50.name,by decide,Tryz.func50.trans (congrArg some (by kernel_rfl))⟩,
  f14:=⟨Tryz.f80.name,by decide,Tryz.func80.trans (congrArg some (by kernel_rfl))⟩,
  f15:=Tryz.func81.trans (congrArg some (by kernel_rfl)),
  f20:=⟨Tryz.f102.name,by decide,Tryz.func102.trans (congrArg some (by kernel_rfl))⟩,
  f21:=⟨Tryz.f103.name,by decide,Tryz.func103.trans (congrArg some (by kernel_rfl))⟩,
  f22:=⟨Tryz.f104.name,by decide,Tryz.func104.trans (congrArg some (by kernel_rfl))⟩,
  f23:=⟨Tryz.f105.name,by decide,Tryz.func105.trans (congrArg some (by kernel_rfl))⟩,
  f24:=⟨Tryz.f106.name,by decide,Tryz.func106.trans (congrArg some (by kernel_rfl))⟩,
  f25:=⟨Tryz.f107.name,by decide,Tryz.func107.trans (congrArg some (by kernel_rfl))⟩,
  f26:=⟨Tryz.f108.name,by decide,Tryz.func108.trans (congrArg some (by kernel_rfl))⟩,
  f27:=⟨Tryz.f109.name,by decide,Tryz.func109.trans (congrArg some (by kernel_rfl))⟩,
  f28:=Tryz.func110.trans (congrArg some (by kernel_rfl)),
  f29:=Tryz.func111.trans (congrArg some (by kernel_rfl)),
  f46:=⟨Tryz.f131.name,by decide,Tryz.func131.trans (congrArg some (by kernel_rfl))⟩,
  f47:=Tryz.func132.trans (congrArg some (by kernel_rfl)),
  f48:=Tryz.func133.trans (congrArg some (by kernel_rfl)),
  f49:=⟨Tryz.f134.name,by decide,Tryz.func134.trans (congrArg some (by kernel_rfl))⟩,
  f50:=⟨Tryz.f135.name,by decide,Tryz.func135.trans (congrArg some (by kernel_rfl))⟩,
  f57:=⟨Tryz.f145.name,by decide,Tryz.func145.trans (congrArg some (by kernel_rfl))⟩,
  t0:=Tryz.underlying0,
  a0:=Tryz.isAgg0,
  z0:=Tryz.sizeOf0,
  v0:=Tryz.zeroValue0,
  t3:=Tryz.underlying3,
  a3:=Tryz.isAgg3,
  z3:=Tryz.sizeOf3,
  v3:=Tryz.zeroValue3,
  t4:=Tryz.underlying4,
  a4:=Tryz.isAgg4,
  z4:=Tryz.sizeOf4,
  v4:=Tryz.zeroValue4,
  t5:=Tryz.underlying5,
  a5:=Tryz.isAgg5,
  z5:=Tryz.sizeOf5,
  v5:=Tryz.zeroValue5,
  t9:=Tryz.underlying9,
  a9:=Tryz.isAgg9,
  z9:=Tryz.sizeOf9,
  v9:=Tryz.zeroValue9,
  t22:=Tryz.underlying22,
  a22:=Tryz.isAgg22,
  z22:=Tryz.sizeOf22,
  v22:=Tryz.zeroValue22,
  t25:=Tryz.underlying99,
  a25:=Tryz.isAgg99,
  z25:=Tryz.sizeOf99,
  v25:=Tryz.zeroValue99,
  t39:=Tryz.underlying135,
  a39:=Tryz.isAgg135,
  z39:=Tryz.sizeOf135,
  v39:=Tryz.zeroValue135,
  t45:=Tryz.underlying156,
  a45:=Tryz.isAgg156,
  z45:=Tryz.sizeOf156,
  v45:=Tryz.zeroValue156,
  t46:=Tryz.underlying157,
  a46:=Tryz.isAgg157,
  z46:=Tryz.sizeOf157,
  v46:=Tryz.zeroValue157,
  t50:=Tryz.underlying138,
  a50:=Tryz.isAgg138,
  z50:=Tryz.sizeOf138,
  v50:=Tryz.zeroValue138,
  t53:=Tryz.underlying163,
  a53:=Tryz.isAgg163,
  z53:=Tryz.sizeOf163,
  v53:=Tryz.zeroValue163,
  t55:=Tryz.underlying147,
  a55:=Tryz.isAgg147,
  z55:=Tryz.sizeOf147,
  v55:=Tryz.zeroValue147,
  t66:=Tryz.underlying177,
  a66:=Tryz.isAgg177,
  z66:=Tryz.sizeOf177,
  v66:=Tryz.zeroValue177,
  t70:=Tryz.underlying181,
  a70:=Tryz.isAgg181,
  z70:=Tryz.sizeOf181,
  v70:=Tryz.zeroValue181,
  t76:=Tryz.underlying186,
  a76:=Tryz.isAgg186,
  z76:=Tryz.sizeOf186,
  v76:=Tryz.zeroValue186,
  t77:=Tryz.underlying187,
  a77:=Tryz.isAgg187,
  z77:=Tryz.sizeOf187,
  v77:=Tryz.zeroValue187 }
def laySortI_ren:Go.Shelf.Ren:=⟨fun | 189=>78 | 125=>81 | 257=>101 | 128=>110 | 129=>111 | 294=>122 | 295=>123 | 296=>124 | 297=>125 | 298=>126 | 299=>127 | 216=>128 | 300=>129 | 301=>130 | 328=>142 | 329=>132 | 330=>133 | 331=>143 | 332=>144 | 215=>82 | 343=>148 | n=>n,fun | 28=>25 | 3=>3 | 46=>135 | 0=>0 | 51=>163 | 53=>147 | 4=>4 | 183=>157 | 182=>156 | 131=>138 | 5=>5 | 9=>9 | 218=>177 | 222=>181 | 228=>186 | 229=>187 | n=>n,fun | n=>n⟩
theorem laySortI:Go.Proofs.Lays.n189 Tryz.prog laySortI_ren:={
  mixed:=by kernel_rfl,
  f125:=Tryz.func81.trans (congrArg some (by kernel_rfl)),
  f128:=Tryz.func110.trans (congrArg some (by kernel_rfl)),
  f129:=Tryz.func111.trans (congrArg some (by kernel_rfl)),
  f189:=Tryz.func78.trans (congrArg some (by kernel_rfl)),
  f215:=Tryz.func82.trans (congrArg some (by kernel_rfl)),
  f216:=Tryz.func128.trans (congrArg some (by kernel_rfl)),
  f257:=Tryz.func101.trans (congrArg some (by kernel_rfl)),
  f294:=Tryz.func122.trans (congrArg some (by kernel_rfl)),
  f295:=Tryz.func123.trans (congrArg some (by kernel_rfl)),
  f296:=Tryz.func124.trans (congrArg some (by kernel_rfl)),
  f297:=Tryz.func125.trans (congrArg some (by kernel_rfl)),
  f298:=Tryz.func126.trans (congrArg some (by kernel_rfl)),
  f299:=Tryz.func127.trans (congrArg some (by kernel_rfl)),
  f300:=Tryz.func129.trans (congrArg some (by kernel_rfl)),
  f301:=Tryz.func130.trans (congrArg some (by kernel_rfl)),
  f328:=Tryz.func142.trans (congrArg some (by kernel_rfl)),
  f329:=Tryz.func132.trans (congrArg some (by kernel_rfl)),
  f330:=Tryz.func133.trans (congrArg some (by kernel_rfl)),
  f331:=Tryz.func143.trans (congrArg some (by kernel_rfl)),
  f332:=Tryz.func144.trans (congrArg some (by kernel_rfl)),
  f343:=Tryz.func148.trans (congrArg some (by kernel_rfl)),
  t0:=Tryz.underlying0,
  a0:=Tryz.isAgg0,
  z0:=Tryz.sizeOf0,
  v0:=Tryz.zeroValue0,
  t3:=Tryz.underlying3,
  a3:=Tryz.isAgg3,
  z3:=Tryz.sizeOf3,
  v3:=Tryz.zeroValue3,
  t4:=Tryz.underlying4,
  a4:=Tryz.isAgg4,
  z4:=Tryz.sizeOf4,
  v4:=Tryz.zeroValue4,
  t5:=Tryz.underlying5,
  a5:=Tryz.isAgg5,
  z5:=Tryz.sizeOf5,
  v5:=Tryz.zeroValue5,
  t9:=Tryz.underlying9,
  a9:=Tryz.isAgg9,
  z9:=Tryz.sizeOf9,
  v9:=Tryz.zeroValue9,
  t28:=Tryz.underlying25,
  a28:=Tryz.isAgg25,
  z28:=Tryz.sizeOf25,
  v28:=Tryz.zeroValue25,
  t46:=Tryz.underlying135,
  a46:=Tryz.isAgg135,
  z46:=Tryz.sizeOf135,
  v46:=Tryz.zeroValue135,
  t51:=Tryz.underlying163,
  a51:=Tryz.isAgg163,
  z51:=Tryz.sizeOf163,
  v51:=Tryz.zeroValue163,
  t53:=Tryz.underlying147,
  a53:=Tryz.isAgg147,
  z53:=Tryz.sizeOf147,
  v53:=Tryz.zeroValue147,
  t131:=Tryz.underlying138,
  a131:=Tryz.isAgg138,
  z131:=Tryz.sizeOf138,
  v131:=Tryz.zeroValue138,
  t182:=Tryz.underlying156,
  a182:=Tryz.isAgg156,
  z182:=Tryz.sizeOf156,
  v182:=Tryz.zeroValue156,
  t183:=Tryz.underlying157,
  a183:=Tryz.isAgg157,
  z183:=Tryz.sizeOf157,
  v183:=Tryz.zeroValue157,
  t218:=Tryz.underlying177,
  a218:=Tryz.isAgg177,
  z218:=Tryz.sizeOf177,
  v218:=Tryz.zeroValue177,
  t222:=Tryz.underlying181,
  a222:=Tryz.isAgg181,
  z222:=Tryz.sizeOf181,
  v222:=Tryz.zeroValue181,
  t228:=Tryz.underlying186,
  a228:=Tryz.isAgg186,
  z228:=Tryz.sizeOf186,
  v228:=Tryz.zeroValue186,
  t229:=Tryz.underlying187,
  a229:=Tryz.isAgg187,
  z229:=Tryz.sizeOf187,
  v229:=Tryz.zeroValue187 }
open Go Go.Ann Go.RowKit Go.Shelf Go.Sort
abbrev SV(w:World)(g:Nat):Type:={ p:VS // RdS w 1 intE p.1 p.2∧OkS p.2∧p.1.ownBlock≠some g }
instance (w:World) (g:Nat):Inhabited (SV w g):=⟨⟨(.slice none 0 0,[]),RdS.nil,⟨(fun n h=>nomatch h),Nat.zero_le _⟩,(fun e=>nomatch e)⟩⟩
def SV.enc{w:World}{g:Nat}(x:SV w g):Value:=x.1.1
theorem SV.one{w:World}{g:Nat}:OneCell (SV.enc (w:=w) (g:=g)):=by
 intro x
 obtain ⟨a,c,e,_⟩:=x.2.1.form
 unfold SV.enc
 rw [e]; rfl
theorem sorted_blk{α:Type}[Inhabited α]{enc:α→Value}{w:World}{g m:Nat}{ty:TypeId}{d d':Array α}{rest:List Value}(hB:Blk w g (d.toList.map enc++rest).toArray ty)(hd:d'.size=d.size)(os:Array Obj) :
  Blk (sortWorld enc w g 0 m d' os) g (d'.toList.map enc++rest).toArray ty∧Chg (fun k=>k=g) w (sortWorld enc w g 0 m d' os):=by
 have hg:g<w.heap.size:=hB.lt
 have hh:(sortWorld enc w g 0 m d' os).heap=w.heap.modify g (onCells (putCells enc 0 d'))++os:=rfl
 have hc:putCells enc 0 d' (d.toList.map enc++rest).toArray=(d'.toList.map enc++rest).toArray:=by
  refine Array.ext_getElem? fun i=>?_
  unfold putCells
  rw [Array.getElem?_mapIdx,List.getElem?_toArray,List.getElem?_toArray]
  rcases Nat.lt_or_ge i d'.size with hi | hi
  ·rw [List.getElem?_append_left (by simp; omega),List.getElem?_append_left (by simpa using hi)]
   simp only [List.getElem?_map,Array.getElem?_toList,Array.getElem?_eq_getElem (show i<d.size by omega),Array.getElem?_eq_getElem hi,Option.map_some,Nat.zero_le,Nat.zero_add,true_and,if_pos hi,Nat.sub_zero]
   rw [getElem!_pos d' i hi]
  ·rw [List.getElem?_append_right (by simp; omega),List.getElem?_append_right (by simpa using hi)]
   simp only [List.length_map,Array.length_toList,hd]
   cases rest[i - d.size]? with
   | none=>rfl
   | some u=>simp; omega
 refine ⟨?_,rfl,rfl,rfl,?_,fun j hj hne=>?_⟩
 ·show (sortWorld enc w g 0 m d' os).heap[g]?=_
  rw [hh,Array.getElem?_append_left (by rw [Array.size_modify]; exact hg),Array.getElem?_modify,if_pos rfl,hB,Option.map_some]
  simp only [onCells,hc]
 ·rw [hh,Array.size_append,Array.size_modify]; omega
 ·rw [hh,Array.getElem?_append_left (by rw [Array.size_modify]; exact hj),Array.getElem?_modify,if_neg (fun e=>hne e.symm)]
open Go Go.Ann Go.RowKit
structure RowS(w:World)(v:Value)(D:List VS):Prop where
 row:Rd w 1 v D.length (D.map Prod.fst)
 rd:∀ p∈D,RdS w 1 intE p.1 p.2
def RowS.foot(v:Value)(D:List VS)(k:Nat):Prop:=slFoot v k∨∃ p∈D,slFoot p.1 k
theorem RowS.loc{w w':World}{v:Value}{D:List VS}(h:RowS w v D)(hk:∀ k,RowS.foot v D k→w'.heap[k]?=w.heap[k]?):RowS w' v D :=
 ⟨Rd.loc h.row fun k hf=>hk k (.inl hf),fun p hp=>RdS.loc (h.rd p hp) fun k hf=>hk k (.inr ⟨p,hp,hf⟩)⟩
theorem RowS.below{w w':World}{v:Value}{D:List VS}(h:RowS w v D)(hb:Below w.heap.size w w'):RowS w' v D :=
 ⟨Rd.below h.row hb (by decide),fun p hp=>(h.rd p hp).below hb (by decide)⟩
theorem RowS.form{w:World}{v:Value}{D:List VS}(h:RowS w v D):∃ a c,v=.slice a D.length c∧D.length≤c:=by
 obtain ⟨_,a,c,e,hc,_⟩:=h.row
 exact ⟨a,c,e,hc⟩
theorem RowS.ptr{w:World}{a:Option Addr}{n c:Nat}{D:List VS}(h:RowS w (.slice a n c) D)(h0:0<D.length):∃ p,a=some p:=by
 obtain ⟨_,a',c',e,_,hp⟩:=h.row
 cases e
 obtain ⟨p,hp,_⟩:=hp (by omega)
 exact ⟨p,hp⟩
theorem RowS.at{w:World}{p:Addr}{n c:Nat}{D:List VS}(h:RowS w (.slice (some p) n c) D){k:Nat}(hk:k<D.length):w.cell? (p.add k)=some D[k].1:=by
 obtain ⟨_,a',c',e,_,hp⟩:=h.row
 cases e
 obtain ⟨q,hq,hc⟩:=hp (by omega)
 cases hq
 exact hc k _ (by simp [hk])
open Go Go.Ann Go.RowKit
theorem offA_zero{a:Option Addr}{c sz:Nat}:offA a c 0 sz=a:=by
 unfold offA
 rw [Nat.zero_mul]
 split
 ·rfl
 ·cases a with
  | none=>rfl
  | some a=>exact congrArg some (by unfold Addr.add; rfl)
theorem rd_take{w:World}{sz n k cap:Nat}{a:Option Addr}{xs:List Value}(h:Rd w sz (.slice a n cap) n xs)(hk:k≤n):Rd w sz (.slice (offA a cap 0 sz) k cap) k (xs.take (k * sz)):=by
 rw [offA_zero]; exact h.take hk
theorem rd_drop{w:World}{sz n k cap:Nat}{a:Option Addr}{xs:List Value}(h:Rd w sz (.slice a n cap) n xs)(hk:k≤n):Rd w sz (.slice (offA a cap k sz) (n - k) (cap - k)) (n - k) (xs.drop (k * sz)):=by
 obtain ⟨h1,a',cap',he,h2,h3⟩:=h
 simp only [Value.slice.injEq,true_and] at he
 obtain ⟨rfl,rfl⟩:=he
 refine ⟨by rw [List.length_drop,h1,Nat.sub_mul],_,_,rfl,by omega,fun h=>?_⟩
 obtain ⟨ad,rfl,h4⟩:=h3 (by omega)
 refine ⟨ad.add (k * sz),by unfold offA; rw [if_neg (by omega)]; rfl,fun j u hu=>?_⟩
 rw [add_add]
 rw [List.getElem?_drop] at hu
 exact h4 _ u hu
open Go Go.Ann Go.RowKit
theorem ints_ok(va vb:Value)(a b:List Int)(w:World)(ha:RdS w 1 intE va a)(hb:RdS w 1 intE vb b)(hl:a.length≤1000000) :
  Ret Tryz.prog 16 [va,vb] w fun u w'=>u=.bool (decide (a=b))∧Below w.heap.size w w':=by
 obtain ⟨pa,ca,rfl,_⟩:=ha.form
 obtain ⟨pb,cb,rfl,_⟩:=hb.form
 refine ent16 _ _ _ _ ?_
 simp (disch:=first|omega|exact zF rfl|exact zG rfl|exact fun h=>h|(simp only[zA,zB,zC,zD,bytesW];omega)) only[go_sem]
 refine ⟨fun hne=>⟨?_,Below.refl _ _⟩,fun heq=>?_⟩
 ·rw [decide_eq_false (fun e=>hne (by rw [e]))]
 have hlen:a.length=b.length:=by omega
 refine W_loopU (fun k:Nat=>[(5,.int .i64 k)]) (fun k w'=>Below w.heap.size w w'∧k≤a.length∧a.take k=b.take k) (fun k=>a.length - k) 0 rfl ⟨Below.refl _ _,Nat.zero_le _,rfl⟩ ?_
 rintro k w2 ⟨g2,hk,he⟩
 by_cases hlt:k<a.length
 ·have hlt':(k:Int)<a.length:=by omega
  obtain ⟨p,rfl⟩:=ha.ptr (by omega)
  obtain ⟨q,rfl⟩:=hb.ptr (by omega)
  have ea:=RdS.int (ha.below g2 (by decide)) hlt
  have eb:=RdS.int (hb.below g2 (by decide)) (show k<b.length by omega)
  simp (disch:=first|omega|exact zF rfl|exact zG rfl|exact fun h=>h|(simp only[zA,zB,zC,zD,bytesW];omega)) only[go_sem,hlt']
  refine c16draw0 ?_
  simp (disch:=first|omega|exact zF rfl|exact zG rfl|exact fun h=>h|(simp only[zA,zB,zC,zD,bytesW];omega)) only[go_sem,c16D0,ea,eb]
  have gd:Below w.heap.size w w2.drew:=Below.next g2 (Below.refl _ w2).drew
  have hkb:k<b.length:=by omega
  refine ⟨⟨by omega,by omega⟩,⟨by omega,by omega⟩,fun e=>⟨?_,gd⟩,fun e=>⟨⟨by omega,by omega⟩,k+1,rfl,⟨gd,by omega,?_⟩,by omega⟩⟩
  ·rw [decide_eq_false (fun h=>e (by subst h; rfl))]
  ·rw [List.take_succ_eq_append_getElem hlt,List.take_succ_eq_append_getElem hkb,he,e]
 ·have hlt':¬ (k:Int)<a.length:=by omega
  simp (disch:=first|omega|exact zF rfl|exact zG rfl|exact fun h=>h|(simp only[zA,zB,zC,zD,bytesW];omega)) only[go_sem,hlt']
  rw [List.take_of_length_le (by omega),List.take_of_length_le (by omega)] at he
  exact ⟨by rw [decide_eq_true he],g2⟩
open Go Go.Ann Go.RowKit
structure OpT where
 ID:Int
 Proc:Int
 Object:Int
 Kind:Int
 Method:Int
 Arg:Int
 Second:Int
 Done:Bool
 Result:Int
 Invoke:Int
 Return:Int
deriving DecidableEq
def OpT.enc(a:OpT):List Value:=[.int .i64 a.ID,.int .i64 a.Proc,.int .i64 a.Object,.int .i64 a.Kind,.int .i64 a.Method,.int .i64 a.Arg,.int .i64 a.Second,.bool a.Done,.int .i64 a.Result,.int .i64 a.Invoke,.int .i64 a.Return]
def OpT.wf(a:OpT):Prop:=kOk .i64 a.ID∧kOk .i64 a.Proc∧kOk .i64 a.Object∧kOk .i64 a.Kind∧kOk .i64 a.Method∧kOk .i64 a.Arg∧kOk .i64 a.Second∧kOk .i64 a.Result∧kOk .i64 a.Invoke∧kOk .i64 a.Return
theorem OpT.len(a:OpT):a.enc.length=11:=rfl
theorem OpT.one(a:OpT):∀ u∈a.enc,u.oneCell'=true:=by intro u hu; simp only [OpT.enc,List.mem_cons,List.not_mem_nil,or_false] at hu; rcases hu with rfl | rfl | rfl | rfl | rfl | rfl | rfl | rfl | rfl | rfl | rfl <;> rfl
theorem OpT.ones(l:List OpT):∀ u∈l.flatMap OpT.enc,u.oneCell'=true:=by intro u hu; obtain ⟨a,_,h⟩:=List.mem_flatMap.1 hu; exact a.one u h
theorem OpT.at(a:OpT):a.enc[0]?=some (.int .i64 a.ID)∧a.enc[1]?=some (.int .i64 a.Proc)∧a.enc[2]?=some (.int .i64 a.Object)∧a.enc[3]?=some (.int .i64 a.Kind)∧a.enc[4]?=some (.int .i64 a.Method)∧a.enc[5]?=some (.int .i64 a.Arg)∧a.enc[6]?=some (.int .i64 a.Second)∧a.enc[7]?=some (.bool a.Done)∧a.enc[8]?=some (.int .i64 a.Result)∧a.enc[9]?=some (.int .i64 a.Invoke)∧a.enc[10]?=some (.int .i64 a.Return):=⟨rfl,rfl,rfl,rfl,rfl,rfl,rfl,rfl,rfl,rfl,rfl⟩
theorem opens_OpT:Opens Tryz.prog 52 (fun _ (a:OpT) cs=>cs=a.enc∧a.wf):=by
 intro H enc w base sp hd fuel cs x hx
 obtain ⟨hl,hf⟩:=opens_fields Tryz.underlying52 hx
 rw [show Tryz.prog.cellsOf 52=11 by kernel_rfl] at hl
 have c_0:Tryz.prog.cellsOf 4=1:=by kernel_rfl
 have c_1:Tryz.prog.cellsOf 3=1:=by kernel_rfl
 match cs,hl with
 | [v0,v1,v2,v3,v4,v5,v6,v7,v8,v9,v10],_ =>
  obtain ⟨n0,y0,g0⟩:=hf 0 _ rfl
  have h0:DataW.trod enc Tryz.prog w base sp hd n0 3 (List.take (Tryz.prog.cellsOf 3) [v0,v1,v2,v3,v4,v5,v6,v7,v8,v9,v10])=some y0:=g0
  rw [c_1] at h0
  obtain ⟨a0,e0⟩:=opens_int Tryz.underlying3 enc w base sp hd n0 [v0] y0 h0
  have r0:v0=_:=(List.cons.inj e0.1).1
  obtain ⟨n1,y1,g1⟩:=hf 1 _ rfl
  have h1:DataW.trod enc Tryz.prog w base sp hd n1 3 (List.take (Tryz.prog.cellsOf 3) [v1,v2,v3,v4,v5,v6,v7,v8,v9,v10])=some y1:=g1
  rw [c_1] at h1
  obtain ⟨a1,e1⟩:=opens_int Tryz.underlying3 enc w base sp hd n1 [v1] y1 h1
  have r1:v1=_:=(List.cons.inj e1.1).1
  obtain ⟨n2,y2,g2⟩:=hf 2 _ rfl
  have h2:DataW.trod enc Tryz.prog w base sp hd n2 3 (List.take (Tryz.prog.cellsOf 3) [v2,v3,v4,v5,v6,v7,v8,v9,v10])=some y2:=g2
  rw [c_1] at h2
  obtain ⟨a2,e2⟩:=opens_int Tryz.underlying3 enc w base sp hd n2 [v2] y2 h2
  have r2:v2=_:=(List.cons.inj e2.1).1
  obtain ⟨n3,y3,g3⟩:=hf 3 _ rfl
  have h3:DataW.trod enc Tryz.prog w base sp hd n3 3 (List.take (Tryz.prog.cellsOf 3) [v3,v4,v5,v6,v7,v8,v9,v10])=some y3:=g3
  rw [c_1] at h3
  obtain ⟨a3,e3⟩:=opens_int Tryz.underlying3 enc w base sp hd n3 [v3] y3 h3
  have r3:v3=_:=(List.cons.inj e3.1).1
  obtain ⟨n4,y4,g4⟩:=hf 4 _ rfl
  have h4:DataW.trod enc Tryz.prog w base sp hd n4 3 (List.take (Tryz.prog.cellsOf 3) [v4,v5,v6,v7,v8,v9,v10])=some y4:=g4
  rw [c_1] at h4
  obtain ⟨a4,e4⟩:=opens_int Tryz.underlying3 enc w base sp hd n4 [v4] y4 h4
  have r4:v4=_:=(List.cons.inj e4.1).1
  obtain ⟨n5,y5,g5⟩:=hf 5 _ rfl
  have h5:DataW.trod enc Tryz.prog w base sp hd n5 3 (List.take (Tryz.prog.cellsOf 3) [v5,v6,v7,v8,v9,v10])=some y5:=g5
  rw [c_1] at h5
  obtain ⟨a5,e5⟩:=opens_int Tryz.underlying3 enc w base sp hd n5 [v5] y5 h5
  have r5:v5=_:=(List.cons.inj e5.1).1
  obtain ⟨n6,y6,g6⟩:=hf 6 _ rfl
  have h6:DataW.trod enc Tryz.prog w base sp hd n6 3 (List.take (Tryz.prog.cellsOf 3) [v6,v7,v8,v9,v10])=some y6:=g6
  rw [c_1] at h6
  obtain ⟨a6,e6⟩:=opens_int Tryz.underlying3 enc w base sp hd n6 [v6] y6 h6
  have r6:v6=_:=(List.cons.inj e6.1).1
  obtain ⟨n7,y7,g7⟩:=hf 7 _ rfl
  have h7:DataW.trod enc Tryz.prog w base sp hd n7 4 (List.take (Tryz.prog.cellsOf 4) [v7,v8,v9,v10])=some y7:=g7
  rw [c_0] at h7
  obtain ⟨a7,e7⟩:=opens_bool Tryz.underlying4 enc w base sp hd n7 [v7] y7 h7
  have r7:v7=_:=(List.cons.inj e7).1
  obtain ⟨n8,y8,g8⟩:=hf 8 _ rfl
  have h8:DataW.trod enc Tryz.prog w base sp hd n8 3 (List.take (Tryz.prog.cellsOf 3) [v8,v9,v10])=some y8:=g8
  rw [c_1] at h8
  obtain ⟨a8,e8⟩:=opens_int Tryz.underlying3 enc w base sp hd n8 [v8] y8 h8
  have r8:v8=_:=(List.cons.inj e8.1).1
  obtain ⟨n9,y9,g9⟩:=hf 9 _ rfl
  have h9:DataW.trod enc Tryz.prog w base sp hd n9 3 (List.take (Tryz.prog.cellsOf 3) [v9,v10])=some y9:=g9
  rw [c_1] at h9
  obtain ⟨a9,e9⟩:=opens_int Tryz.underlying3 enc w base sp hd n9 [v9] y9 h9
  have r9:v9=_:=(List.cons.inj e9.1).1
  obtain ⟨n10,y10,g10⟩:=hf 10 _ rfl
  have h10:DataW.trod enc Tryz.prog w base sp hd n10 3 (List.take (Tryz.prog.cellsOf 3) [v10])=some y10:=g10
  rw [c_1] at h10
  obtain ⟨a10,e10⟩:=opens_int Tryz.underlying3 enc w base sp hd n10 [v10] y10 h10
  have r10:v10=_:=(List.cons.inj e10.1).1
  exact ⟨⟨a0,a1,a2,a3,a4,a5,a6,a7,a8,a9,a10⟩,by rw [r0,r1,r2,r3,r4,r5,r6,r7,r8,r9,r10]; rfl,e0.2,e1.2,e2.2,e3.2,e4.2,e5.2,e6.2,e8.2,e9.2,e10.2⟩
theorem opens_Ops:Opens Tryz.prog 22 (fun w (xs:List OpT) cs=>∃ v,cs=[v]∧RdS w 11 OpT.enc v xs∧(∀ x∈xs,x.wf)∧(xs.length:Int)≤9223372036854775807) :=
 Opens.mono (opens_slice opens_OpT Tryz.underlying22 (by kernel_rfl)) fun w xs cs ⟨v,h1,h2,h3⟩ =>
  have h:=h2.plain (enc:=OpT.enc) (ok:=OpT.wf) fun _ _ h=>h
  ⟨xs,v,h1,h.1,h.2,h3⟩
open Go Go.Ann Go.RowKit
def numP(x:Int)(o:OpT):Option (List Int × Int) :=
 if o.Method=1 then some ([x],x)
 else if o.Kind=1∧o.Method=2 then some ([o.Arg],0)
 else if o.Kind=1∧o.Method=3 then (if x=o.Arg then some ([o.Second],1) else some ([x],0))
 else if o.Kind=2∧o.Method=4 then some ([IntKind.i64.wrap (x+1)],0)
 else if o.Kind=2∧o.Method=5 then some ([IntKind.i64.wrap (x - 1)],0)
 else none
def StepR(w w':World)(v:Value)(r:Option (List Int × Int))(t:Value):Prop :=
 ∃ u a ok,t=.tuple #[u,.int .i64 a,.bool ok]∧match r with
  | none=>ok=false
  | some (s,n)=>ok=true∧a=n∧RdS w' 1 intE u s∧∀ k,slFoot u k→v.ownBlock=some k∨w.heap.size≤k
theorem int_new{w:World}{b:Nat}(x:Int)(hb:b=w.heap.size):RdS (w.alloc (.cells #[.int .i64 x] 3)) 1 intE (.slice (some ⟨b,0,none⟩) 1 1) [x]:=by
 subst hb
 exact rd_new (n:=1) (cs:=#[.int .i64 x]) rfl
theorem number_ok(v:Value)(x:Int)(o:OpT)(w:World)(h:RdS w 1 intE v [x]) :
  Ret Tryz.prog 96 [v,.agg o.enc.toArray] w fun u w'=>StepR w w' v (numP x o) u∧Below w.heap.size w w':=by
 obtain ⟨a,c,rfl,_⟩:=h.form
 obtain ⟨p,rfl⟩:=h.ptr (by simp)
 refine ent96 _ _ _ _ ?_
 have ho:=o.at
 have hw1:Below w.heap.size w (w.alloc (.cells o.enc.toArray 52)):=(Below.refl _ w).alloc (Nat.le_refl _) _
 have h1:=h.below hw1 (by decide)
 have ep:=RdS.int h1 (k:=0) (by simp)
 rw [show p.add 0=p from rfl,show ([x]:List Int)[0]=x from rfl] at ep
 have hw2:Below w.heap.size w (w.alloc (.cells o.enc.toArray 52)).drew:=hw1.drew
 have ep2:(w.alloc (.cells o.enc.toArray 52)).drew.cell? p=some (.int .i64 x):=ep
 have lp:p.block<w.heap.size:=h.blt intE_len (by decide) (by simp)
 have one:∀ (n:Int) (K:Value→World→Prop),(∀ u w',RdS w' 1 intE u [n]→(∀ k,slFoot u k→w.heap.size≤k)→Below w.heap.size w w'→K u w')→bsW Tryz.prog 25 1 [0] [.int .i64 n] (w.alloc (.cells o.enc.toArray 52)) K:=fun n K hK=>by
  refine bsW_ones ty25mkI rfl rfl (by decide) (by decide) (intE_one n) ?_
  refine hK _ _ (int_new n rfl) (fun k hk=>?_) (Below.next hw1 ((Below.refl _ _).alloc (Nat.le_refl _) _))
  have:=slFoot_own hk
  simp only [Value.ownBlock,Option.some.injEq,World.size_alloc] at this
  omega
 have no:∀ {w':World},numP x o=none→StepR w w' (.slice (some p) 1 c) (numP x o) (.tuple #[.slice none 0 0,.int .i64 0,.bool false]):=fun e=>⟨_,_,_,rfl,by rw [e]⟩
 by_cases m1:o.Method=1
 ·have e:numP x o=some ([x],x):=by unfold numP; rw [if_pos m1]
  simp (disch:=first|omega|exact zF rfl|exact zG rfl|exact fun h=>h|(simp only[zA,zB,zC,zD,bytesW];omega)) only[go_sem,ho,m1]
  refine c96draw0 ?_
  have hd2:(w.alloc (.cells o.enc.toArray 52)).drew.heap.size=w.heap.size+1:=by simp
  simp (disch:=first|omega|exact zF rfl|exact zG rfl|exact fun h=>h|(simp only[zA,zB,zC,zD,bytesW];omega)) only[go_sem,c96D0,ep,ep2]
  exact ⟨⟨_,_,_,rfl,by rw [e]; exact ⟨rfl,rfl,h.below hw2 (by decide),fun k hk=>.inl (slFoot_own hk)⟩⟩,hw2⟩
 by_cases k1:o.Kind=1
 ·by_cases m2:o.Method=2
  ·have e:numP x o=some ([o.Arg],0):=by unfold numP; rw [if_neg m1,if_pos ⟨k1,m2⟩]
   simp (disch:=first|omega|exact zF rfl|exact zG rfl|exact fun h=>h|(simp only[zA,zB,zC,zD,bytesW];omega)) only[go_sem,ho,k1,m2]
   refine one _ _ fun u w' hr hf hb=>?_
   simp (disch:=first|omega|exact zF rfl|exact zG rfl|exact fun h=>h|(simp only[zA,zB,zC,zD,bytesW];omega)) only[go_sem]
   exact ⟨⟨u,_,_,rfl,by rw [e]; exact ⟨rfl,rfl,hr,fun k hk=>.inr (hf k hk)⟩⟩,hb⟩
  by_cases m3:o.Method=3
  ·simp (disch:=first|omega|exact zF rfl|exact zG rfl|exact fun h=>h|(simp only[zA,zB,zC,zD,bytesW];omega)) only[go_sem,ho,k1,m3]
   refine c96draw1 ?_
   simp (disch:=first|omega|exact zF rfl|exact zG rfl|exact fun h=>h|(simp only[zA,zB,zC,zD,bytesW];omega)) only[go_sem,c96D1,ep,ep2,ho]
   refine ⟨fun e0=>?_,fun e0=>?_⟩
   ·have e:numP x o=some ([o.Second],1):=by unfold numP; simp [m1,k1,m2,m3,e0]
    refine bsW_ones ty25mkI rfl rfl (by decide) (by decide) (intE_one _) ?_
    simp (disch:=first|omega|exact zF rfl|exact zG rfl|exact fun h=>h|(simp only[zA,zB,zC,zD,bytesW];omega)) only[go_sem]
    have hi:=int_new (w:=w.alloc (.cells o.enc.toArray 52)) (b:=w.heap.size+1) o.Second (by simp)
    have bb:=(Below.refl (w.alloc (.cells o.enc.toArray 52)).heap.size (w.alloc (.cells o.enc.toArray 52))).alloc (Nat.le_refl _) (.cells #[.int .i64 o.Second] 3)
    refine ⟨⟨_,_,_,rfl,by
     rw [e]
     refine ⟨rfl,rfl,hi.below (Below.refl _ _).drew (by decide),fun k hk=>.inr ?_⟩
     have:=slFoot_own hk
     simp only [Value.ownBlock,Option.some.injEq] at this
     omega⟩,(Below.next hw1 bb).drew⟩
   ·have e:numP x o=some ([x],0):=by unfold numP; simp [m1,k1,m2,m3,e0]
    exact ⟨⟨_,_,_,rfl,by rw [e]; exact ⟨rfl,rfl,h.below hw2 (by decide),fun k hk=>.inl (slFoot_own hk)⟩⟩,hw2⟩
  ·have e:numP x o=none:=by unfold numP; simp [m1,k1,m2,m3]
   simp (disch:=first|omega|exact zF rfl|exact zG rfl|exact fun h=>h|(simp only[zA,zB,zC,zD,bytesW];omega)) only[go_sem,ho,k1,m1,m2,m3]
   exact ⟨no e,hw1⟩
 by_cases k2:o.Kind=2
 ·by_cases m4:o.Method=4
  ·have e:numP x o=some ([IntKind.i64.wrap (x+1)],0):=by unfold numP; simp [m4,k2]
   simp (disch:=first|omega|exact zF rfl|exact zG rfl|exact fun h=>h|(simp only[zA,zB,zC,zD,bytesW];omega)) only[go_sem,ho,k2,m4,ep]
   refine one _ _ fun u w' hr hf hb=>?_
   simp (disch:=first|omega|exact zF rfl|exact zG rfl|exact fun h=>h|(simp only[zA,zB,zC,zD,bytesW];omega)) only[go_sem]
   exact ⟨⟨u,_,_,rfl,by rw [e]; exact ⟨rfl,rfl,hr,fun k hk=>.inr (hf k hk)⟩⟩,hb⟩
  by_cases m5:o.Method=5
  ·have e:numP x o=some ([IntKind.i64.wrap (x - 1)],0):=by unfold numP; simp [m5,k2]
   simp (disch:=first|omega|exact zF rfl|exact zG rfl|exact fun h=>h|(simp only[zA,zB,zC,zD,bytesW];omega)) only[go_sem,ho,k2,m5,ep]
   refine one _ _ fun u w' hr hf hb=>?_
   simp (disch:=first|omega|exact zF rfl|exact zG rfl|exact fun h=>h|(simp only[zA,zB,zC,zD,bytesW];omega)) only[go_sem]
   exact ⟨⟨u,_,_,rfl,by rw [e]; exact ⟨rfl,rfl,hr,fun k hk=>.inr (hf k hk)⟩⟩,hb⟩
  ·have e:numP x o=none:=by unfold numP; simp [m1,k2,m4,m5]
   simp (disch:=first|omega|exact zF rfl|exact zG rfl|exact fun h=>h|(simp only[zA,zB,zC,zD,bytesW];omega)) only[go_sem,ho,k2,m1,m4,m5]
   exact ⟨no e,hw1⟩
 ·have e:numP x o=none:=by unfold numP; simp [m1,k1,k2]
  simp (disch:=first|omega|exact zF rfl|exact zG rfl|exact fun h=>h|(simp only[zA,zB,zC,zD,bytesW];omega)) only[go_sem,ho,k1,k2,m1]
  exact ⟨no e,hw1⟩
open Go Go.Ann Go.RowKit
def listP(s:List Int)(o:OpT):Option (List Int × Int) :=
 if (o.Kind=3∧o.Method=6)∨(o.Kind=4∧o.Method=8) then some (s++[o.Arg],0)
 else if o.Kind=3∧o.Method=7 then (match s with | []=>some ([],-1) | x::r=>some (r,x))
 else if o.Kind=4∧o.Method=9 then (if h:s=[] then some ([],-1) else some (s.dropLast,s.getLast h))
 else none
theorem ints_take:∀ (s:List Int) (k:Nat),(s.take k).flatMap intE=(s.flatMap intE).take k
 | [],k=>by simp
 | x::s,0=>rfl
 | x::s,k+1=>by rw [List.take_succ_cons,List.flatMap_cons,List.flatMap_cons,ints_take s k]; rfl
theorem offA_own{ad:Addr}{c lo n m k:Nat}(h:slFoot (.slice (offA (some ad) c lo 1) n m) k):ad.block=k:=by
 have:=slFoot_own h
 unfold offA at this
 split at this
 ·simpa [Value.ownBlock] using this
 ·simpa [Value.ownBlock,add_block] using this
theorem list_ok(v:Value)(s:List Int)(o:OpT)(w:World)(B:Nat)(hB:B≤w.heap.size)(h:w.ownsRow B 3 1 v s.length (s.flatMap intE))(hl:s.length≤1000000) :
  Ret Tryz.prog 97 [v,.agg o.enc.toArray] w fun u w'=>StepR w w' v (listP s o) u∧Chg (fun k=>v.ownBlock=some k) w w':=by
 obtain ⟨a,c,rfl,_⟩:=own_slice h
 refine ent97 _ _ _ _ ?_
 have ho:=o.at
 have hw1:Below w.heap.size w (w.alloc (.cells o.enc.toArray 52)):=(Below.refl _ w).alloc (Nat.le_refl _) _
 have hc1:Chg (fun k=>(Value.slice a s.length c).ownBlock=some k) w (w.alloc (.cells o.enc.toArray 52)):=Chg.of_below hw1
 have hr:RdS w 1 intE (.slice a s.length c) s:=RdS.of_own' h s rfl rfl
 have no:∀ {w':World},listP s o=none→StepR w w' (.slice a s.length c) (listP s o) (.tuple #[.slice none 0 0,.int .i64 0,.bool false]):=fun e=>⟨_,_,_,rfl,by rw [e]⟩
 have emp:s=[]→listP s o=some ([],-1)→StepR w (w.alloc (.cells o.enc.toArray 52)) (.slice a s.length c) (listP s o) (.tuple #[.slice a s.length c,.int .i64 (-1),.bool true]):=fun e e2=>⟨_,_,_,rfl,by
  rw [e2]
  have:=hr.below hw1 (by decide)
  subst e
  exact ⟨rfl,rfl,this,fun k hk=>.inl (slFoot_own hk)⟩⟩
 have app:∀ {ty:TypeId} {cs:Array Bool} {K:Value→World→Prop},(∀ u w',RdS w' 1 intE u (s++[o.Arg])→(∀ k,slFoot u k→(Value.slice a s.length c).ownBlock=some k∨w.heap.size≤k)→Chg (fun k=>(Value.slice a s.length c).ownBlock=some k) w w'→K u w') →
   rawB Tryz.prog .append #[25,25] ty cs [.slice a s.length c,.slice (some ⟨w.heap.size+1,0,none⟩) 1 1] ((w.alloc (.cells o.enc.toArray 52)).alloc (.cells #[.int .i64 o.Arg] 3)) K:=by
  intro ty cs K hK
  have bb:=(Below.refl (w.alloc (.cells o.enc.toArray 52)).heap.size (w.alloc (.cells o.enc.toArray 52))).alloc (Nat.le_refl _) (.cells #[.int .i64 o.Arg] 3)
  have hb2:=Below.next hw1 bb
  have ho2:=(Chg.of_below (S:=fun _=>False) hb2).own h fun _ _ h=>h
  have hi:=int_new (w:=w.alloc (.cells o.enc.toArray 52)) (b:=w.heap.size+1) o.Arg (by simp)
  obtain ⟨_,a',c',e,_,hp⟩:=hi
  cases e
  obtain ⟨ad,had,hcell⟩:=hp (by simp)
  cases had
  refine rawB_append (m:=1) ty25mkI rfl (by decide) ho2 (by simp [intE]) hcell (ints_one _) (by decide) (by omega) (by omega) (by have:=hb2.size; omega) ?_
  intro g cap w' hown hg hgb hgl
  have hown':w'.ownsRow B 3 1 (.slice (some ⟨g,0,none⟩) (s.length+1) cap) (s.length+1) ((s++[o.Arg]).flatMap intE):=by
   rw [List.flatMap_append]; exact hown
  refine hK _ _ (RdS.of_own' hown' (s++[o.Arg]) (by simp) rfl) (fun k hk=>?_) ((Chg.of_below hb2).trans ⟨hg.os,hg.tape,hg.output,hg.size,fun k hk hS=>hg.block k hk fun e=>hS e.symm⟩)
  have:=slFoot_own hk
  simp only [Value.ownBlock,Option.some.injEq] at this
  subst this
  rcases hgb with h | h
  ·exact .inl h
  ·right; rw [h]; simp; omega
 by_cases k3:o.Kind=3
 ·by_cases m6:o.Method=6
  ·simp (disch:=first|omega|exact zF rfl|exact zG rfl|exact fun h=>h|(simp only[zA,zB,zC,zD,bytesW];omega)) only[go_sem,ho,k3,m6]
   refine bsW_ones ty25mkI rfl rfl (by decide) (by decide) (intE_one _) ?_
   simp (disch:=first|omega|exact zF rfl|exact zG rfl|exact fun h=>h|(simp only[zA,zB,zC,zD,bytesW];omega)) only[go_sem]
   refine app fun u w' hu hf hc=>?_
   simp (disch:=first|omega|exact zF rfl|exact zG rfl|exact fun h=>h|(simp only[zA,zB,zC,zD,bytesW];omega)) only[go_sem]
   exact ⟨⟨u,_,_,rfl,by rw [show listP s o=some (s++[o.Arg],0) by unfold listP; simp [k3,m6]]; exact ⟨rfl,rfl,hu,hf⟩⟩,hc⟩
  by_cases m7:o.Method=7
  ·simp (disch:=first|omega|exact zF rfl|exact zG rfl|exact fun h=>h|(simp only[zA,zB,zC,zD,bytesW];omega)) only[go_sem,ho,k3,m7]
   refine ⟨fun h0=>⟨emp (List.eq_nil_of_length_eq_zero (by omega)) (by have:s=[]:=List.eq_nil_of_length_eq_zero (by omega); subst this; unfold listP; simp [k3,m7]),hc1⟩,fun h0=>?_⟩
   have h0':0<s.length:=by omega
   obtain ⟨ad,rfl⟩:=hr.ptr h0'
   have hr2:RdS (w.alloc (.cells o.enc.toArray 52)).drew 1 intE (.slice (some ad) s.length c) s:=hr.below hw1.drew (by decide)
   have hcd:Chg (fun k=>(Value.slice (some ad) s.length c).ownBlock=some k) w (w.alloc (.cells o.enc.toArray 52)).drew:=Chg.of_below hw1.drew
   obtain ⟨x,r,rfl⟩:∃ x r,s=x::r:=by
    cases s with
    | nil=>simp at h0'
    | cons x r=>exact ⟨x,r,rfl⟩
   have ep:=RdS.int hr2 (k:=0) h0'
   rw [show ad.add 0=ad from rfl,show (x::r)[0]=x from rfl] at ep
   refine c97draw0 ?_
   simp (disch:=first|omega|exact zF rfl|exact zG rfl|exact fun h=>h|(simp only[zA,zB,zC,zD,bytesW];omega)) only[go_sem,c97D0,ep]
   refine ⟨by omega,by omega,⟨_,_,_,rfl,?_⟩⟩
   rw [show listP (x::r) o=some (r,x) by unfold listP; simp [k3,m7]]
   refine ⟨rfl,rfl,?_,fun k hk=>.inl ?_⟩
   ·have:=rd_drop (k:=1) (show Rd _ 1 (.slice (some ad) (x::r).length c) (x::r).length ((x::r).flatMap intE) from hr2) (by simp)
    exact this
   ·rw [← offA_own hk]; rfl
  ·simp (disch:=first|omega|exact zF rfl|exact zG rfl|exact fun h=>h|(simp only[zA,zB,zC,zD,bytesW];omega)) only[go_sem,ho,k3,m6,m7]
   exact ⟨no (by unfold listP; simp [k3,m6,m7]),hc1⟩
 by_cases k4:o.Kind=4
 ·by_cases m8:o.Method=8
  ·simp (disch:=first|omega|exact zF rfl|exact zG rfl|exact fun h=>h|(simp only[zA,zB,zC,zD,bytesW];omega)) only[go_sem,ho,k4,m8]
   refine bsW_ones ty25mkI rfl rfl (by decide) (by decide) (intE_one _) ?_
   simp (disch:=first|omega|exact zF rfl|exact zG rfl|exact fun h=>h|(simp only[zA,zB,zC,zD,bytesW];omega)) only[go_sem]
   refine app fun u w' hu hf hc=>?_
   simp (disch:=first|omega|exact zF rfl|exact zG rfl|exact fun h=>h|(simp only[zA,zB,zC,zD,bytesW];omega)) only[go_sem]
   exact ⟨⟨u,_,_,rfl,by rw [show listP s o=some (s++[o.Arg],0) by unfold listP; simp [k4,m8]]; exact ⟨rfl,rfl,hu,hf⟩⟩,hc⟩
  by_cases m9:o.Method=9
  ·simp (disch:=first|omega|exact zF rfl|exact zG rfl|exact fun h=>h|(simp only[zA,zB,zC,zD,bytesW];omega)) only[go_sem,ho,k4,m9]
   refine ⟨fun h0=>⟨emp (List.eq_nil_of_length_eq_zero (by omega)) (by have:s=[]:=List.eq_nil_of_length_eq_zero (by omega); subst this; unfold listP; simp [k4,m9]),hc1⟩,fun h0=>?_⟩
   have h0':0<s.length:=by omega
   obtain ⟨ad,rfl⟩:=hr.ptr h0'
   have hr2:RdS (w.alloc (.cells o.enc.toArray 52)).drew 1 intE (.slice (some ad) s.length c) s:=hr.below hw1.drew (by decide)
   have hcd:Chg (fun k=>(Value.slice (some ad) s.length c).ownBlock=some k) w (w.alloc (.cells o.enc.toArray 52)).drew:=Chg.of_below hw1.drew
   have hne:s≠[]:=fun e=>by subst e; simp at h0'
   have ep:=RdS.int hr2 (k:=s.length - 1) (by omega)
   have ti:((s.length:Int) - 1).toNat=s.length - 1:=by omega
   refine c97draw1 ?_
   simp (disch:=first|omega|exact zF rfl|exact zG rfl|exact fun h=>h|(simp only[zA,zB,zC,zD,bytesW];omega)) only[go_sem,c97D1,ti,ep]
   have hcap:s.length≤c:=by
    obtain ⟨_,c',e,hc⟩:=hr.form
    cases e; exact hc
   refine ⟨⟨by omega,by omega⟩,⟨by omega,by omega⟩,⟨by omega,by omega⟩,⟨by omega,by omega⟩,⟨_,_,_,rfl,?_⟩⟩
   rw [show listP s o=some (s.dropLast,s.getLast hne) by unfold listP; simp [k4,m9,hne]]
   refine ⟨rfl,(List.getLast_eq_getElem hne).symm,?_,fun k hk=>.inl ?_⟩
   ·have:=rd_take (k:=s.length - 1) (show Rd _ 1 (.slice (some ad) s.length c) s.length (s.flatMap intE) from hr2) (by omega)
    have e:s.dropLast.flatMap intE=(s.flatMap intE).take ((s.length - 1) * 1):=by
     rw [Nat.mul_one,List.dropLast_eq_take]
     exact ints_take s _
    have e2:s.dropLast.length=s.length - 1:=List.length_dropLast
    unfold RdS
    rw [e,e2]
    exact this
   ·rw [← offA_own hk]; rfl
  ·simp (disch:=first|omega|exact zF rfl|exact zG rfl|exact fun h=>h|(simp only[zA,zB,zC,zD,bytesW];omega)) only[go_sem,ho,k4,m8,m9]
   exact ⟨no (by unfold listP; simp [k4,m8,m9]),hc1⟩
 ·simp (disch:=first|omega|exact zF rfl|exact zG rfl|exact fun h=>h|(simp only[zA,zB,zC,zD,bytesW];omega)) only[go_sem,ho,k3,k4]
  exact ⟨no (by unfold listP; simp [k3,k4]),hc1⟩
open Go Go.Ann Go.RowKit Go.Shelf
theorem drewN_below{w:World}(q:Nat):Below w.heap.size w (w.drewN q):=⟨rfl,rfl,rfl,Nat.le_refl _,fun _ _=>rfl⟩
theorem bsearch_ok(v:Value)(s:List Int)(x:Int)(w:World)(h:RdS w 1 intE v s)(hv:∀ a n c,v=.slice (some a) n c→n≠0→a.spot=none)(hl:s.length≤1000000)(hs:s.Pairwise (·≤·)) :
  Ret Tryz.prog 118 [v,.int .i64 x] w fun u w'=>u=.tuple #[.int .i64 (s.countP (·<x):Nat),.bool (s.contains x)]∧Below w.heap.size w w':=by
 obtain ⟨a,c,rfl,_⟩:=h.form
 rcases Nat.eq_zero_or_pos s.length with h0 | h0
 ·have e:s=[]:=List.eq_nil_of_length_eq_zero h0
  subst e
  exact (Any.slices_BinarySearch_int_empty layBin a c x w).mono fun e w' ⟨h1,h2⟩=>⟨_,h1,rfl,by rw [h2]; exact Below.refl _ _⟩
 ·obtain ⟨ad,rfl⟩:=h.ptr h0
  have hsp:=hv ad _ _ rfl (by omega)
  have had:ad=⟨ad.block,ad.off,none⟩:=by cases ad; simp only at hsp; subst hsp; rfl
  have hc:∀ j,j<s.length→w.cell? ⟨ad.block,ad.off+j,none⟩=some (.int .i64 (s.getD j 0)):=fun j hj=>by
   have:=RdS.int h hj
   rw [had,Addr.add_lit] at this
   rw [this,List.getD_eq_getElem?_getD,List.getElem?_eq_getElem hj]; rfl
  have:=Any.slices_BinarySearch_int layBin ad.block ad.off s.length c s x w (Nat.le_refl _) (by omega) hc (by rw [List.take_length]; exact hs)
  rw [List.take_length,← had] at this
  exact this.mono fun e w' ⟨h1,q,h2⟩=>⟨_,h1,rfl,by rw [h2]; exact drewN_below q⟩
open Go Go.Ann Go.RowKit Go.Shelf Go.Sort
theorem delete_ok(g cap i:Nat)(s:List Int)(rest:List Value)(w:World)(hB:Blk w g (s.map (Value.int .i64)++rest).toArray 3)(hc:s.length≤cap)(hm:cap≤9223372036854775807)(hi:i<s.length) :
  Ret Tryz.prog 121 [.slice (some ⟨g,0,none⟩) s.length cap,.int .i64 i,.int .i64 (i+1)] w fun u w' =>
   u=.slice (some ⟨g,0,none⟩) (s.length - 1) cap∧(∃ rest',Blk w' g ((s.take i++s.drop (i+1)).map (Value.int .i64)++rest').toArray 3)∧Chg (fun k=>k=g) w w':=by
 have hH:Holds (Value.int .i64) w g 0 s.toArray:=by
  intro j hj
  have hj':j<s.length:=by simpa using hj
  rw [hB.cell,hB.frozen]
  refine ⟨?_,rfl⟩
  rw [List.getElem?_toArray,Nat.zero_add,List.getElem?_append_left (by simpa using hj'),List.getElem?_map,List.getElem?_eq_getElem hj',getElem!_pos s.toArray j hj]
  rfl
 have h:=Any.slices_Delete_int layDel g 0 cap i (i+1) s w hH hc hm (by omega) (by omega)
 refine h.mono ?_
 rintro e w' ⟨rfl,q,rfl⟩
 have hsz:(s.take i++s.drop (i+1)++List.replicate (i+1 - i) 0).toArray.size=s.toArray.size:=by simp; omega
 have hb:=sorted_blk (m:=q) (d:=s.toArray) (rest:=rest) (enc:=Value.int .i64) (by simpa using hB) hsz #[]
 have e:sortWorld (Value.int .i64) w g 0 q (s.take i++s.drop (i+1)++List.replicate (i+1 - i) 0).toArray #[]=putRow (Value.int .i64) (Sort.ahead w q) g 0 (s.take i++s.drop (i+1)++List.replicate (i+1 - i) 0).toArray:=grow_empty _
 rw [e] at hb
 refine ⟨_,rfl,by rw [show i+1 - i=1 by omega],⟨(List.replicate (i+1 - i) (0:Int)).map (Value.int .i64)++rest,?_⟩,hb.2⟩
 have:=hb.1
 simp only [List.toList_toArray,List.map_append,List.append_assoc] at this ⊢
 exact this
open Go Go.Ann Go.RowKit
def StepA(w w':World)(v:Value)(r:Option (List Int × Int))(t:Value):Prop :=
 ∃ u a ok,t=.agg #[u,.int .i64 a,.bool ok]∧(∃ b n c,u=.slice b n c)∧match r with
  | none=>ok=false
  | some (s,n)=>ok=true∧a=n∧RdS w' 1 intE u s∧∀ k,slFoot u k→slFoot v k∨w.heap.size≤k
theorem rnumber_ok(v:Value)(x:Int)(o:OpT)(w:World)(h:RdS w 1 intE v [x]) :
  Ret Tryz.prog 115 [v,.agg o.enc.toArray] w fun u w'=>StepA w w' v (numP x o) u∧Below w.heap.size w w':=by
 obtain ⟨a,c,rfl,_⟩:=h.form
 obtain ⟨p,rfl⟩:=h.ptr (by simp)
 refine ent115 _ _ _ _ ?_
 have ho:=o.at
 have s2:=((St.start (W0:=w)).box o.enc.toArray 52).box #[.slice none 0 0,.int .i64 0,.bool false] 150
 rw [World.size_alloc] at s2
 have ep:=RdS.int (h.below s2.bel (by decide)) (k:=0) (by simp)
 rw [show p.add 0=p from rfl,show ([x]:List Int)[0]=x from rfl] at ep
 have lp:p.block<w.heap.size:=h.blt intE_len (by decide) (by simp)
 have r0:=s2.rules 1 rfl
 have r1:=s2.rules 0 rfl
 have s3:=s2.drew
 have r3:=s3.rules 0 rfl
 by_cases m1:o.Method=1
 ·simp (disch:=first|omega|exact zF rfl|exact zG rfl|exact fun h=>h|(simp only[zA,zB,zC,zD,bytesW];omega)) only[go_sem,ho,m1,ep,r1]
  have e:numP x o=some ([x],x):=by unfold numP; rw [if_pos m1]
  refine bdW_built (cells:=#[.slice (some p) 1 c,.int .i64 x,.bool true]) (by kernel_rfl) ?_
  simp (disch:=first|omega|exact zF rfl|exact zG rfl|exact fun h=>h|(simp only[zA,zB,zC,zD,bytesW];omega)) only[go_sem,r1]
  have s5:=s2.fill 0 rfl (cs:=#[.slice (some p) 1 c,.int .i64 x,.bool true]) rfl
  refine ⟨⟨_,_,_,rfl,⟨_,_,_,rfl⟩,?_⟩,s5.bel⟩
  rw [e]
  exact ⟨rfl,rfl,h.below s5.bel (by decide),fun k hk=>.inl hk⟩
 by_cases k1:o.Kind=1
 ·by_cases m2:o.Method=2
  ·simp (disch:=first|omega|exact zF rfl|exact zG rfl|exact fun h=>h|(simp only[zA,zB,zC,zD,bytesW];omega)) only[go_sem,ho,k1,m2]
   have e:numP x o=some ([o.Arg],0):=by unfold numP; rw [if_neg m1,if_pos ⟨k1,m2⟩]
   refine bsW_ones ty25mkI rfl rfl (by decide) (by decide) (intE_one _) ?_
   simp (disch:=first|omega|exact zF rfl|exact zG rfl|exact fun h=>h|(simp only[zA,zB,zC,zD,bytesW];omega)) only[go_sem]
   refine bdW_built (cells:=#[.slice (some ⟨w.heap.size+2,0,none⟩) 1 1,.int .i64 0,.bool true]) (by kernel_rfl) ?_
   have s4:=s2.alloc' (.cells #[.int .i64 o.Arg] 3)
   have r4:=s4.rules 0 rfl
   simp (disch:=first|omega|exact zF rfl|exact zG rfl|exact fun h=>h|(simp only[zA,zB,zC,zD,bytesW];omega)) only[go_sem,r4]
   have hn:RdS _ 1 intE (.slice (some ⟨w.heap.size+2,0,none⟩) 1 1) [o.Arg]:=(int_new (w:=(w.alloc (.cells o.enc.toArray 52)).alloc (.cells #[.slice none 0 0,.int .i64 0,.bool false] 150)) o.Arg (by simp)).chg (S:=fun k=>k=w.heap.size+1) ((Chg.refl _ _).fill (b:=w.heap.size+1) (cs:=#[.slice (some ⟨w.heap.size+2,0,none⟩) 1 1,.int .i64 0,.bool true]) fun _=>rfl) (fun q hq e=>by cases hq; simp at e)
   refine ⟨⟨_,_,_,rfl,⟨_,_,_,rfl⟩,?_⟩,(s4.fill 0 rfl (cs:=#[.slice (some ⟨w.heap.size+2,0,none⟩) 1 1,.int .i64 0,.bool true]) rfl).bel⟩
   rw [e]
   refine ⟨rfl,rfl,hn,fun k hk=>.inr ?_⟩
   have:=slFoot_own hk
   simp only [Value.ownBlock,Option.some.injEq] at this
   omega
  by_cases m3:o.Method=3
  ·simp (disch:=first|omega|exact zF rfl|exact zG rfl|exact fun h=>h|(simp only[zA,zB,zC,zD,bytesW];omega)) only[go_sem,ho,k1,m3]
   refine c115draw0 ?_
   simp (disch:=first|omega|exact zF rfl|exact zG rfl|exact fun h=>h|(simp only[zA,zB,zC,zD,bytesW];omega)) only[go_sem,c115D0,ep,ho,k1,m3]
   refine ⟨fun e0=>?_,fun e0=>?_⟩
   ·have e:numP x o=some ([o.Second],1):=by unfold numP; simp [m1,k1,m2,m3,e0]
    refine bsW_ones ty25mkI rfl rfl (by decide) (by decide) (intE_one _) ?_
    simp (disch:=first|omega|exact zF rfl|exact zG rfl|exact fun h=>h|(simp only[zA,zB,zC,zD,bytesW];omega)) only[go_sem]
    refine bdW_built (cells:=#[.slice (some ⟨w.heap.size+2,0,none⟩) 1 1,.int .i64 1,.bool true]) (by kernel_rfl) ?_
    have s4:=s3.alloc' (.cells #[.int .i64 o.Second] 3)
    have r4:=s4.rules 0 rfl
    simp (disch:=first|omega|exact zF rfl|exact zG rfl|exact fun h=>h|(simp only[zA,zB,zC,zD,bytesW];omega)) only[go_sem,r4]
    have hn:RdS _ 1 intE (.slice (some ⟨w.heap.size+2,0,none⟩) 1 1) [o.Second]:=(int_new (w:=(w.alloc (.cells o.enc.toArray 52)).alloc (.cells #[.slice none 0 0,.int .i64 0,.bool false] 150)) o.Second (by simp)).chg (S:=fun k=>k=w.heap.size+1) (((Chg.refl _ _).drew).fill (b:=w.heap.size+1) (cs:=#[.slice (some ⟨w.heap.size+2,0,none⟩) 1 1,.int .i64 1,.bool true]) fun _=>rfl) (fun q hq e=>by cases hq; simp at e)
    refine ⟨⟨_,_,_,rfl,⟨_,_,_,rfl⟩,?_⟩,(s4.fill 0 rfl (cs:=#[.slice (some ⟨w.heap.size+2,0,none⟩) 1 1,.int .i64 1,.bool true]) rfl).bel⟩
    rw [e]
    refine ⟨rfl,rfl,hn,fun k hk=>.inr ?_⟩
    have:=slFoot_own hk
    simp only [Value.ownBlock,Option.some.injEq] at this
    omega
   ·have e:numP x o=some ([x],0):=by unfold numP; simp [m1,k1,m2,m3,e0]
    refine bdW_built (cells:=#[.slice (some p) 1 c,.int .i64 0,.bool true]) (by kernel_rfl) ?_
    simp (disch:=first|omega|exact zF rfl|exact zG rfl|exact fun h=>h|(simp only[zA,zB,zC,zD,bytesW];omega)) only[go_sem,r3]
    have s5:=s3.fill 0 rfl (cs:=#[.slice (some p) 1 c,.int .i64 0,.bool true]) rfl
    refine ⟨⟨_,_,_,rfl,⟨_,_,_,rfl⟩,?_⟩,s5.bel⟩
    rw [e]
    exact ⟨rfl,rfl,h.below s5.bel (by decide),fun k hk=>.inl hk⟩
  ·simp (disch:=first|omega|exact zF rfl|exact zG rfl|exact fun h=>h|(simp only[zA,zB,zC,zD,bytesW];omega)) only[go_sem,ho,k1,m1,m2,m3]
   refine c115draw0 ?_
   simp (disch:=first|omega|exact zF rfl|exact zG rfl|exact fun h=>h|(simp only[zA,zB,zC,zD,bytesW];omega)) only[go_sem,c115D0,ep,ho,k1,m1,m2,m3]
   have e:numP x o=none:=by unfold numP; simp [k1,m1,m2,m3]
   refine bdW_built (cells:=#[.slice none 0 0,.int .i64 0,.bool false]) (by kernel_rfl) ?_
   simp (disch:=first|omega|exact zF rfl|exact zG rfl|exact fun h=>h|(simp only[zA,zB,zC,zD,bytesW];omega)) only[go_sem,r3]
   exact ⟨⟨_,_,_,rfl,⟨_,_,_,rfl⟩,by rw [e]⟩,(s3.fill 0 rfl (cs:=#[.slice none 0 0,.int .i64 0,.bool false]) rfl).bel⟩
 by_cases k2:o.Kind=2
 ·by_cases m4:o.Method=4
  ·simp (disch:=first|omega|exact zF rfl|exact zG rfl|exact fun h=>h|(simp only[zA,zB,zC,zD,bytesW];omega)) only[go_sem,ho,k2,m4]
   refine c115draw0 ?_
   simp (disch:=first|omega|exact zF rfl|exact zG rfl|exact fun h=>h|(simp only[zA,zB,zC,zD,bytesW];omega)) only[go_sem,c115D0,ep,ho,k2,m4]
   have e:numP x o=some ([IntKind.i64.wrap (x+1)],0):=by unfold numP; simp [k2,m4]
   refine bsW_ones ty25mkI rfl rfl (by decide) (by decide) (intE_one _) ?_
   simp (disch:=first|omega|exact zF rfl|exact zG rfl|exact fun h=>h|(simp only[zA,zB,zC,zD,bytesW];omega)) only[go_sem]
   refine bdW_built (cells:=#[.slice (some ⟨w.heap.size+2,0,none⟩) 1 1,.int .i64 0,.bool true]) (by kernel_rfl) ?_
   have s4:=s3.alloc' (.cells #[.int .i64 (IntKind.i64.wrap (x+1))] 3)
   have r4:=s4.rules 0 rfl
   simp (disch:=first|omega|exact zF rfl|exact zG rfl|exact fun h=>h|(simp only[zA,zB,zC,zD,bytesW];omega)) only[go_sem,r4]
   have hn:RdS _ 1 intE (.slice (some ⟨w.heap.size+2,0,none⟩) 1 1) [IntKind.i64.wrap (x+1)]:=(int_new (w:=(w.alloc (.cells o.enc.toArray 52)).alloc (.cells #[.slice none 0 0,.int .i64 0,.bool false] 150)) (IntKind.i64.wrap (x+1)) (by simp)).chg (S:=fun k=>k=w.heap.size+1) (((Chg.refl _ _).drew).fill (b:=w.heap.size+1) (cs:=#[.slice (some ⟨w.heap.size+2,0,none⟩) 1 1,.int .i64 0,.bool true]) fun _=>rfl) (fun q hq e=>by cases hq; simp at e)
   refine ⟨⟨_,_,_,rfl,⟨_,_,_,rfl⟩,?_⟩,(s4.fill 0 rfl (cs:=#[.slice (some ⟨w.heap.size+2,0,none⟩) 1 1,.int .i64 0,.bool true]) rfl).bel⟩
   rw [e]
   refine ⟨rfl,rfl,hn,fun k hk=>.inr ?_⟩
   have:=slFoot_own hk
   simp only [Value.ownBlock,Option.some.injEq] at this
   omega
  by_cases m5:o.Method=5
  ·simp (disch:=first|omega|exact zF rfl|exact zG rfl|exact fun h=>h|(simp only[zA,zB,zC,zD,bytesW];omega)) only[go_sem,ho,k2,m5]
   refine c115draw0 ?_
   simp (disch:=first|omega|exact zF rfl|exact zG rfl|exact fun h=>h|(simp only[zA,zB,zC,zD,bytesW];omega)) only[go_sem,c115D0,ep,ho,k2,m5]
   have e:numP x o=some ([IntKind.i64.wrap (x - 1)],0):=by unfold numP; simp [k2,m5]
   refine bsW_ones ty25mkI rfl rfl (by decide) (by decide) (intE_one _) ?_
   simp (disch:=first|omega|exact zF rfl|exact zG rfl|exact fun h=>h|(simp only[zA,zB,zC,zD,bytesW];omega)) only[go_sem]
   refine bdW_built (cells:=#[.slice (some ⟨w.heap.size+2,0,none⟩) 1 1,.int .i64 0,.bool true]) (by kernel_rfl) ?_
   have s4:=s3.alloc' (.cells #[.int .i64 (IntKind.i64.wrap (x - 1))] 3)
   have r4:=s4.rules 0 rfl
   simp (disch:=first|omega|exact zF rfl|exact zG rfl|exact fun h=>h|(simp only[zA,zB,zC,zD,bytesW];omega)) only[go_sem,r4]
   have hn:RdS _ 1 intE (.slice (some ⟨w.heap.size+2,0,none⟩) 1 1) [IntKind.i64.wrap (x - 1)]:=(int_new (w:=(w.alloc (.cells o.enc.toArray 52)).alloc (.cells #[.slice none 0 0,.int .i64 0,.bool false] 150)) (IntKind.i64.wrap (x - 1)) (by simp)).chg (S:=fun k=>k=w.heap.size+1) (((Chg.refl _ _).drew).fill (b:=w.heap.size+1) (cs:=#[.slice (some ⟨w.heap.size+2,0,none⟩) 1 1,.int .i64 0,.bool true]) fun _=>rfl) (fun q hq e=>by cases hq; simp at e)
   refine ⟨⟨_,_,_,rfl,⟨_,_,_,rfl⟩,?_⟩,(s4.fill 0 rfl (cs:=#[.slice (some ⟨w.heap.size+2,0,none⟩) 1 1,.int .i64 0,.bool true]) rfl).bel⟩
   rw [e]
   refine ⟨rfl,rfl,hn,fun k hk=>.inr ?_⟩
   have:=slFoot_own hk
   simp only [Value.ownBlock,Option.some.injEq] at this
   omega
  ·simp (disch:=first|omega|exact zF rfl|exact zG rfl|exact fun h=>h|(simp only[zA,zB,zC,zD,bytesW];omega)) only[go_sem,ho,k2,m1,m4,m5]
   refine c115draw0 ?_
   simp (disch:=first|omega|exact zF rfl|exact zG rfl|exact fun h=>h|(simp only[zA,zB,zC,zD,bytesW];omega)) only[go_sem,c115D0,ep,ho,k2,m1,m4,m5]
   have e:numP x o=none:=by unfold numP; simp [k2,m1,m4,m5]
   refine bdW_built (cells:=#[.slice none 0 0,.int .i64 0,.bool false]) (by kernel_rfl) ?_
   simp (disch:=first|omega|exact zF rfl|exact zG rfl|exact fun h=>h|(simp only[zA,zB,zC,zD,bytesW];omega)) only[go_sem,r3]
   exact ⟨⟨_,_,_,rfl,⟨_,_,_,rfl⟩,by rw [e]⟩,(s3.fill 0 rfl (cs:=#[.slice none 0 0,.int .i64 0,.bool false]) rfl).bel⟩
 ·simp (disch:=first|omega|exact zF rfl|exact zG rfl|exact fun h=>h|(simp only[zA,zB,zC,zD,bytesW];omega)) only[go_sem,ho,k1,k2,m1]
  have e:numP x o=none:=by unfold numP; simp [k1,k2,m1]
  refine c115draw0 ?_
  simp (disch:=first|omega|exact zF rfl|exact zG rfl|exact fun h=>h|(simp only[zA,zB,zC,zD,bytesW];omega)) only[go_sem,c115D0,ep,ho,k1,k2,m1]
  refine bdW_built (cells:=#[.slice none 0 0,.int .i64 0,.bool false]) (by kernel_rfl) ?_
  simp (disch:=first|omega|exact zF rfl|exact zG rfl|exact fun h=>h|(simp only[zA,zB,zC,zD,bytesW];omega)) only[go_sem,r3]
  exact ⟨⟨_,_,_,rfl,⟨_,_,_,rfl⟩,by rw [e]⟩,(s3.fill 0 rfl (cs:=#[.slice none 0 0,.int .i64 0,.bool false]) rfl).bel⟩
open Go Go.Ann Go.RowKit
theorem without_ok(v:Value)(s:List Int)(n:Int)(w:World)(h:RdS w 1 intE v s)(hl:s.length≤1000000) :
  Ret Tryz.prog 116 [v,.int .i64 n] w fun u w'=>w'.ownsRow w.heap.size 3 1 u (s.filter (fun x=>!decide (x=n))).length ((s.filter (fun x=>!decide (x=n))).flatMap intE)∧Below w.heap.size w w':=by
 obtain ⟨a,c,rfl,_⟩:=h.form
 refine ent116 _ _ _ _ ?_
 simp (disch:=first|omega|exact zF rfl|exact zG rfl|exact fun h=>h|(simp only[zA,zB,zC,zD,bytesW];omega)) only[go_sem]
 have s1:=(St.start (W0:=w)).nilRow 3 1
 refine W_loopU (fun x:Nat × Value=>[(5,x.2),(6,.int .i64 x.1)]) (fun x w'=>St w w' (fun _=>False) [.row x.2 3 1 ((s.take x.1).filter (fun x=>!decide (x=n))).length (((s.take x.1).filter (fun x=>!decide (x=n))).flatMap intE)] []∧x.1≤s.length) (fun x=>s.length - x.1) (0,.slice none 0 0) rfl ⟨s1,Nat.zero_le _⟩ ?_
 rintro ⟨k,u⟩ w2 ⟨s2,hk⟩
 simp only at s2 hk
 have hfl:=List.length_filter_le (fun x=>!decide (x=n)) (s.take k)
 rw [List.length_take] at hfl
 obtain ⟨au,cu,rfl,_⟩:=own_slice (s2.row 0 rfl)
 by_cases hlt:k<s.length
 ·have hlt':(k:Int)<s.length:=by omega
  obtain ⟨p,rfl⟩:=h.ptr (by omega)
  have ek:=RdS.int (h.below s2.bel (by decide)) hlt
  simp (disch:=first|omega|exact zF rfl|exact zG rfl|exact fun h=>h|(simp only[zA,zB,zC,zD,bytesW];omega)) only[go_sem,hlt',ek]
  refine ⟨by omega,fun hne=>?_,fun heq=>⟨⟨by omega,by omega⟩,(k+1,.slice au ((s.take k).filter (fun x=>!decide (x=n))).length cu),rfl,⟨?_,by simp only; omega⟩,by simp only; omega⟩⟩
  ·refine ⟨by omega,?_⟩
   refine bsW_ones ty25mkI rfl rfl (by decide) (by decide) (intE_one _) ?_
   simp (disch:=first|omega|exact zF rfl|exact zG rfl|exact fun h=>h|(simp only[zA,zB,zC,zD,bytesW];omega)) only[go_sem]
   have hx:Rd (w2.alloc (.cells #[.int .i64 s[k]] 3)) 1 (.slice (some ⟨w2.heap.size,0,none⟩) 1 1) 1 (intE s[k]):=rd_new (n:=1) (cs:=#[.int .i64 s[k]]) rfl
   refine (s2.alloc' (.cells #[.int .i64 s[k]] 3)).append 0 rfl ty25mkI rfl (by decide) hx (intE_one s[k]) (by omega) (by omega) ?_
   intro v6 w6 s6 c6
   simp only [List.set_cons_zero] at s6
   simp (disch:=first|omega|exact zF rfl|exact zG rfl|exact fun h=>h|(simp only[zA,zB,zC,zD,bytesW];omega)) only[go_sem]
   have e:(s.take (k+1)).filter (fun x=>!decide (x=n))=(s.take k).filter (fun x=>!decide (x=n))++[s[k]]:=by
    rw [List.take_succ_eq_append_getElem hlt,List.filter_append]; simp [hne]
   refine ⟨⟨by omega,by omega⟩,(k+1,v6),rfl,⟨?_,by simp only; omega⟩,by simp only; omega⟩
   simp only
   rw [e,List.length_append,List.flatMap_append]
   simpa using s6
  ·have e:(s.take (k+1)).filter (fun x=>!decide (x=n))=(s.take k).filter (fun x=>!decide (x=n)):=by
    rw [List.take_succ_eq_append_getElem hlt,List.filter_append]; simp [heq]
   simp only
   rw [e]; exact s2
 ·have hlt':¬ (k:Int)<s.length:=by omega
  simp (disch:=first|omega|exact zF rfl|exact zG rfl|exact fun h=>h|(simp only[zA,zB,zC,zD,bytesW];omega)) only[go_sem,hlt']
  have e:=s2.row 0 rfl
  rw [List.take_of_length_le (by omega)] at e ⊢
  exact ⟨e,s2.bel⟩
open Go Go.Ann Go.RowKit Go.Shelf
theorem setCells_blk{g:Nat}{e:TypeId}:∀ (vs mid pre post:List Value) (o:Nat) (w:World),Blk w g (pre++(mid++post)).toArray e→mid.length=vs.length→pre.length=o →
  Blk (w.setCells g o vs) g (pre++(vs++post)).toArray e∧Chg (fun k=>k=g) w (w.setCells g o vs)
 | [],[],pre,post,o,w,h,_,_=>⟨h,Chg.refl _ _⟩
 | [],_::_,pre,post,o,w,h,hl,_=>by simp at hl
 | _::_,[],pre,post,o,w,h,hl,_=>by simp at hl
 | v::vs,m::mid,pre,post,o,w,h,hl,ho=>by
  have h1:Blk (w.setCell ⟨g,o,none⟩ v) g ((pre++[v])++(mid++post)).toArray e:=by
   have:=h.set o v
   rw [List.setIfInBounds_toArray,List.set_append_right _ _ (by omega),ho,Nat.sub_self] at this
   simpa using this
  obtain ⟨h2,h3⟩:=setCells_blk vs mid (pre++[v]) post (o+1) _ h1 (by simpa using hl) (by simp [ho])
  refine ⟨by simpa [World.setCells] using h2,?_⟩
  simp only [World.setCells]
  exact Chg.trans ((Chg.refl (fun k=>k=g) w).setCell ⟨g,o,none⟩ v (fun _=>rfl)) h3
theorem intE_map(s:List Int):s.flatMap intE=s.map (Value.int .i64):=by
 induction s with
 | nil=>rfl
 | cons x s ih=>rw [List.flatMap_cons,ih]; rfl
theorem rd_of_blk{w:World}{g cap:Nat}{s:List Int}{rest:List Value}{t:TypeId}(hB:Blk w g (s.map (Value.int .i64)++rest).toArray t)(hc:s.length≤cap){n:Nat}(hn:n=s.length):RdS w 1 intE (.slice (some ⟨g,0,none⟩) n cap) s:=by
 subst hn
 refine ⟨by rw [intE_map]; simp,_,cap,rfl,hc,fun _=>⟨_,rfl,fun j u hu=>?_⟩⟩
 rw [intE_map] at hu
 rw [Addr.add_lit,Nat.zero_add,hB.cell,List.getElem?_toArray,List.getElem?_append_left (by have:=(List.getElem?_eq_some_iff.1 hu).1; exact this)]
 exact hu
theorem arr_app(l:List Value)(A:Array Value):l.toArray++A=(l++A.toList).toArray:=by apply Array.ext'; simp
theorem blk_new{w:World}{cs:Array Value}{t:TypeId}{l:List Value}{b:Nat}(hb:b=w.heap.size)(e:cs.toList=l):Blk (w.alloc (.cells cs t)) b l.toArray t:=by subst hb e; exact Blk.new
theorem zeroC_len(n:Nat):(Builtin.zeroCells (Value.int .i64 0).cells n).toList.length=n:=by
 simp [Builtin.zeroCells,Value.cells]
theorem ins_ok(v:Value)(s:List Int)(i:Nat)(x:Int)(b:Nat)(w:World)(B:Nat)(hB:B≤w.heap.size)(h:w.ownsRow B 3 1 v s.length (s.flatMap intE))(hx:Blk w b #[.int .i64 x] 3)(hne:v.ownBlock≠some b)(hi:i≤s.length)(hl:s.length≤1000000) :
  Ret Tryz.prog 120 [v,.int .i64 i,.slice (some ⟨b,0,none⟩) 1 1] w fun u w'=>RdS w' 1 intE u (s.take i++x::s.drop i)∧(∀ k,slFoot u k→v.ownBlock=some k∨w.heap.size≤k)∧Chg (fun k=>v.ownBlock=some k) w w':=by
 have h1v:∀ u∈[Value.int .i64 x],u.oneCell'=true:=by intro u hu; rw [List.mem_singleton] at hu; subst hu; rfl
 have hvs:∀ j u,[Value.int .i64 x][j]?=some u→w.cell? ⟨b,0+j,none⟩=some u:=fun j u hj=>by rw [Nat.zero_add,hx.cell]; simpa using hj
 have hcl:(s.map (Value.int .i64)).length=s.length:=by simp
 have h1c:∀ u∈s.map (Value.int .i64),u.oneCell'=true:=fun u hu=>by obtain ⟨y,_,rfl⟩:=List.mem_map.1 hu; rfl
 have hlen:(s.take i++x::s.drop i).length=s.length+1:=by simp; omega
 rw [intE_map] at h
 rcases h.2 with ⟨rfl,h0⟩ | ⟨g,c,cur,rfl,hg,hb,hnc,hcm,hcs,htk⟩
 ·have hs:s=[]:=List.eq_nil_of_length_eq_zero h0
  subst hs
  obtain rfl:i=0:=by simpa using hi
  have:=Any2.slices_Insert_int_end_grow layIns none 0 0 b 0 1 1 [] [.int .i64 x] w (by omega) (by omega) (by omega) (by omega) rfl rfl (fun _=>rfl) (fun a ha=>by cases ha) hvs h1v
  refine this.mono ?_
  rintro e w' ⟨rfl,rfl⟩
  refine ⟨_,rfl,rd_of_blk (s:=[x]) (rest:=(Builtin.zeroCells (Value.int .i64 0).cells (grownCap w (0+1) 0 3 - (0+1))).toList) (t:=3) ?_ (by simpa using grownCap_ge w (0+1) 0 _) rfl,fun k hk=>.inr ?_,Chg.of_below ((Below.refl _ w).drew.alloc (Nat.le_refl _) _)⟩
  ·exact blk_new rfl (by rw [arr_app]; rfl)
  ·have:=slFoot_own hk
   simp only [Value.ownBlock,Option.some.injEq] at this
   omega
 ·have hlt:g<w.heap.size:=Blk.lt hb
  have hgb:b≠g:=fun e=>hne (by rw [e]; rfl)
  simp only [Nat.mul_one] at hcs htk
  have hcur:cur=(s.map (Value.int .i64)++cur.toList.drop s.length).toArray:=by
   apply Array.ext'
   rw [List.toList_toArray,← htk,List.take_append_drop]
  obtain ⟨tl,htl⟩:∃ tl,tl=cur.toList.drop s.length:=⟨_,rfl⟩
  rw [← htl] at hcur
  have htll:tl.length=c - s.length:=by rw [htl,List.length_drop,Array.length_toList,hcs]
  have hbb:Blk w g (s.map (Value.int .i64)++tl).toArray 3:=by rw [← hcur]; exact hb
  have hmax:c≤9223372036854775807:=hcm
  have hcells:∀ j u,(s.map (Value.int .i64))[j]?=some u→w.cell? ⟨g,0+j,none⟩=some u:=fun j u hj=>by
   rw [Nat.zero_add,hbb.cell,List.getElem?_toArray,List.getElem?_append_left (List.getElem?_eq_some_iff.1 hj).1]; exact hj
  have hsome:∀ j,j<c→(w.cell? ⟨g,0+j,none⟩).isSome=true:=fun j hj=>by
   rw [Nat.zero_add,hbb.cell,List.getElem?_toArray,List.getElem?_eq_getElem (by simp; omega)]; rfl
  have hfz:∀ j,w.frozen? ⟨g,j,none⟩=false:=hbb.frozen
  have own:∀ {k n c'},slFoot (.slice (some ⟨g,0,none⟩) n c') k→(Value.slice (some ⟨g,0,none⟩) s.length c).ownBlock=some k∨w.heap.size≤k:=fun hk=>.inl (by have:=slFoot_own hk; simpa [Value.ownBlock] using this)
  have new:∀ {k n c'},slFoot (.slice (some ⟨w.heap.size,0,none⟩) n c') k→(Value.slice (some ⟨g,0,none⟩) s.length c).ownBlock=some k∨w.heap.size≤k:=fun hk=>.inr (by have:=slFoot_own hk; simp only [Value.ownBlock,Option.some.injEq] at this; omega)
  have chgo:∀ {w':World},Chg (fun k=>k=g) w w'→Chg (fun k=>(Value.slice (some ⟨g,0,none⟩) s.length c).ownBlock=some k) w w':=fun hc=>⟨hc.os,hc.tape,hc.output,hc.size,fun k hk hS=>hc.block k hk fun e=>hS (by rw [e]; rfl)⟩
  rcases Nat.lt_or_ge i s.length with hin | hin
  ·have e1:s.map (Value.int .i64)=(s.take i).map (Value.int .i64)++(s.drop i).map (Value.int .i64):=by rw [← List.map_append,List.take_append_drop]
   rcases Nat.lt_or_ge c (s.length+1) with hroom | hroom
   ·have:=Any2.slices_Insert_int_grow layIns g 0 s.length c i b 0 1 1 (s.map (Value.int .i64)) [.int .i64 x] w hin (by omega) hnc hroom (by omega) hcl rfl hcells hvs h1c h1v
    refine this.mono ?_
    rintro e w' ⟨rfl,rfl⟩
    obtain ⟨G,hG⟩:∃ G,G=grownCap w (s.length+1) c 3:=⟨_,rfl⟩
    have hGe:s.length+1≤G:=by rw [hG]; exact grownCap_ge w (s.length+1) c _
    obtain ⟨Z1,hZ1⟩:∃ Z,Z=(Builtin.zeroCells (Value.int .i64 0).cells (s.length+1 - i)).toList:=⟨_,rfl⟩
    obtain ⟨Z2,hZ2⟩:∃ Z,Z=(Builtin.zeroCells (Value.int .i64 0).cells (G - (s.length+1))).toList:=⟨_,rfl⟩
    have lz1:Z1.length=s.length+1 - i:=by rw [hZ1]; exact zeroC_len _
    obtain ⟨z,Z1',rfl⟩:∃ z Z,Z1=z::Z:=by
     cases Z1 with
     | nil=>simp at lz1; omega
     | cons z Z=>exact ⟨z,Z,rfl⟩
    have b0:Blk (w.alloc (.cells (((s.map (Value.int .i64)).take i).toArray++Builtin.zeroCells (Value.int .i64 0).cells (s.length+1 - i)++Builtin.zeroCells (Value.int .i64 0).cells (G - (s.length+1))) 3)) w.heap.size ((s.take i).map (Value.int .i64)++([z]++(Z1'++Z2))).toArray 3:=by
     refine blk_new rfl ?_
     rw [arr_app,arr_app,← hZ1,← hZ2,← List.map_take]
     simp
    have hlen1:((s.take i).map (Value.int .i64)).length=i:=by simp; omega
    obtain ⟨b1,c1⟩:=setCells_blk [Value.int .i64 x] [z] ((s.take i).map (Value.int .i64)) (Z1'++Z2) i _ b0.drew rfl hlen1
    have b1':=b1
    rw [← List.append_assoc] at b1'
    obtain ⟨b2,c2⟩:=setCells_blk ((s.drop i).map (Value.int .i64)) Z1' ((s.take i).map (Value.int .i64)++[Value.int .i64 x]) Z2 (i+1) _ b1'.drew (by simp at lz1 ⊢; omega) (by simp; omega)
    rw [← List.map_drop,show layIns_ren.t 3=3 from rfl]
    refine ⟨_,rfl,rd_of_blk (s:=s.take i++x::s.drop i) (rest:=Z2) (t:=3) (by rw [← hG]; simpa using b2) (by rw [hlen]; exact grownCap_ge w (s.length+1) c _) hlen.symm,fun k hk=>new hk,?_⟩
    rw [← hG]
    have hdr:∀ {S:Nat→Prop} {a:World},Chg S a a.drew:=fun {S a}=>(Chg.refl S a).drew
    have cc:Chg (fun k=>k=w.heap.size) (w.alloc (.cells (((s.map (Value.int .i64)).take i).toArray++Builtin.zeroCells (Value.int .i64 0).cells (s.length+1 - i)++Builtin.zeroCells (Value.int .i64 0).cells (G - (s.length+1))) 3)) _:=hdr.trans (c1.trans (hdr.trans c2))
    exact Chg.of_below (((Below.refl _ w).alloc (Nat.le_refl _) _).trans (cc.below (by simp) fun k hk e=>by omega))
   ·have hmid:∃ t0 tl',tl=t0::tl':=by
     cases tl with
     | nil=>simp at htll; omega
     | cons t0 tl'=>exact ⟨t0,tl',rfl⟩
    obtain ⟨t0,tl',rfl⟩:=hmid
    have hshA:w.shape? b=some (3,1):=by unfold World.shape?; rw [hx]; rfl
    have hshB:w.shape? g=some (3,cur.size):=by unfold World.shape?; rw [hb]
    have:=Any2.slices_Insert_int_shift layIns g 0 s.length c i b 0 1 1 (s.map (Value.int .i64)) [.int .i64 x] w hin (by omega) hroom hmax hgb hcl rfl hcells (fun j hj=>hsome j (by omega)) (fun j _=>hfz _) hvs h1c h1v _ _ _ _ hshA hshB (by omega) (hx.frozen 0) (hx.frozen 1)
    refine this.mono ?_
    rintro e w' ⟨rfl,rfl⟩
    have hdi:(s.drop i).map (Value.int .i64)=Value.int .i64 s[i]::(s.drop (i+1)).map (Value.int .i64):=by rw [List.drop_eq_getElem_cons hin]; rfl
    have b0:Blk w g (((s.take i).map (Value.int .i64)++[Value.int .i64 s[i]])++(((s.drop (i+1)).map (Value.int .i64)++[t0])++tl')).toArray 3:=by
     have:=hbb
     rw [e1,hdi] at this
     simpa using this
    obtain ⟨b1,c1⟩:=setCells_blk ((s.drop i).map (Value.int .i64)) _ _ _ (i+1) _ b0.drew (by simp; omega) (by simp; omega)
    have b1':Blk (w.drew.setCells g (i+1) ((s.drop i).map (Value.int .i64))) g ((s.take i).map (Value.int .i64)++([Value.int .i64 s[i]]++((s.drop i).map (Value.int .i64)++tl'))).toArray 3:=by simpa using b1
    obtain ⟨b2,c2⟩:=setCells_blk [Value.int .i64 x] _ _ _ i _ b1' rfl (by simp; omega)
    rw [← List.map_drop,Nat.zero_add,Nat.zero_add]
    refine ⟨_,rfl,rd_of_blk (s:=s.take i++x::s.drop i) (rest:=tl') (t:=3) (by simpa using b2) (by rw [hlen]; exact hroom) hlen.symm,fun k hk=>own hk,chgo ((Chg.refl _ w).drew.trans (c1.trans c2))⟩
  ·obtain rfl:i=s.length:=by omega
   have e2:s.take s.length++x::s.drop s.length=s++[x]:=by rw [List.take_length,List.drop_length]
   rw [e2] at hlen ⊢
   rcases Nat.lt_or_ge c (s.length+1) with hroom | hroom
   ·have:=Any2.slices_Insert_int_end_grow layIns (some ⟨g,0,none⟩) s.length c b 0 1 1 (s.map (Value.int .i64)) [.int .i64 x] w (by omega) hnc hroom (by omega) hcl rfl (fun h=>by cases h) (fun a ha j u hj=>by cases ha; rw [Addr.add_lit]; exact hcells j u hj) hvs h1v
    refine this.mono ?_
    rintro e w' ⟨rfl,rfl⟩
    refine ⟨_,rfl,rd_of_blk (s:=s++[x]) (rest:=(Builtin.zeroCells (Value.int .i64 0).cells (grownCap w (s.length+1) c 3 - (s.length+1))).toList) (t:=3) ?_ (by rw [hlen]; exact grownCap_ge w (s.length+1) c _) hlen.symm,fun k hk=>new hk,Chg.of_below ((Below.refl _ w).drew.alloc (Nat.le_refl _) _)⟩
    refine blk_new rfl ?_
    rw [arr_app,List.map_append]; rfl
   ·have hmid:∃ t0 tl',tl=t0::tl':=by
     cases tl with
     | nil=>simp at htll; omega
     | cons t0 tl'=>exact ⟨t0,tl',rfl⟩
    obtain ⟨t0,tl',rfl⟩:=hmid
    have:=Any2.slices_Insert_int_end_room layIns g 0 s.length c b 0 1 1 [.int .i64 x] w (by omega) hroom hmax rfl (fun j hj=>by have:=hsome (s.length+j) (by omega); rwa [← Nat.add_assoc] at this) (fun j _=>hfz _) hvs h1v
    refine this.mono ?_
    rintro e w' ⟨rfl,rfl⟩
    obtain ⟨b1,c1⟩:=setCells_blk [Value.int .i64 x] [t0] (s.map (Value.int .i64)) tl' s.length w hbb rfl (by simp)
    rw [Nat.zero_add]
    refine ⟨_,rfl,rd_of_blk (s:=s++[x]) (rest:=tl') (t:=3) (by rw [List.map_append]; simpa using b1) (by rw [hlen]; exact hroom) hlen.symm,fun k hk=>own hk,chgo c1⟩
open Go Go.Ann Go.RowKit Go.Shelf
def insP(s:List Int)(x:Int):List Int:=s.take (s.countP (·<x))++x::s.drop (s.countP (·<x))
def delP(s:List Int)(x:Int):List Int:=s.filter (fun y=>!decide (y=x))
def setP(s:List Int)(o:OpT):Option (List Int × Int) :=
 if o.Method=12 then some (s,if o.Arg∈s then 1 else 0)
 else if o.Method=10 then (if o.Arg∈s then some (s,0) else some (insP s o.Arg,1))
 else if o.Method=11 then (if o.Arg∈s then some (delP s o.Arg,1) else some (s,0))
 else none
theorem count_zero{x y:Int}{r:List Int}(h:∀ a∈r,y<a)(hx:x≤y):r.countP (·<x)=0:=by
 rw [List.countP_eq_zero]
 intro a ha
 have:=h a ha
 simp; omega
theorem insP_cons_lt{y x:Int}{r:List Int}(h:y<x):insP (y::r) x=y::insP r x:=by
 unfold insP
 rw [List.countP_cons_of_pos (by simpa using h)]
 rfl
theorem insP_cons_ge{y x:Int}{r:List Int}(hs:∀ a∈r,y<a)(h:x≤y):insP (y::r) x=x::y::r:=by
 unfold insP
 rw [List.countP_cons_of_neg (by simp; omega),count_zero hs h]
 rfl
theorem insP_mem{x a:Int}{s:List Int}:a∈insP s x↔a=x∨a∈s:=by
 unfold insP
 rw [List.mem_append,List.mem_cons]
 have:a∈s↔a∈s.take (s.countP (·<x))∨a∈s.drop (s.countP (·<x)):=by rw [← List.mem_append,List.take_append_drop]
 rw [this]
 constructor
 ·rintro (h | h | h)
  ·exact .inr (.inl h)
  ·exact .inl h
  ·exact .inr (.inr h)
 ·rintro (h | h | h)
  ·exact .inr (.inl h)
  ·exact .inl h
  ·exact .inr (.inr h)
theorem insP_sorted{x:Int}:∀ {s:List Int},s.Pairwise (· < ·)→x ∉ s→(insP s x).Pairwise (· < ·)
 | [],_,_=>by simp [insP]
 | y::r,hs,hx=>by
  obtain ⟨h1,h2⟩:=List.pairwise_cons.1 hs
  have hne:x≠y:=fun e=>hx (by rw [e]; exact List.mem_cons_self ..)
  rcases Int.lt_or_le y x with h | h
  ·rw [insP_cons_lt h]
   refine List.pairwise_cons.2 ⟨fun a ha=>?_,insP_sorted h2 fun hm=>hx (List.mem_cons_of_mem _ hm)⟩
   rcases insP_mem.1 ha with e | ha
   ·omega
   ·exact h1 a ha
  ·rw [insP_cons_ge h1 h]
   refine List.pairwise_cons.2 ⟨fun a ha=>?_,hs⟩
   rcases List.mem_cons.1 ha with e | ha
   ·omega
   ·have:=h1 a ha; omega
theorem delP_sorted{x:Int}{s:List Int}(hs:s.Pairwise (· < ·)):(delP s x).Pairwise (· < ·):=hs.filter _
theorem delP_cut{x:Int}:∀ {s:List Int},s.Pairwise (· < ·)→x∈s→s.countP (·<x)<s.length∧s.take (s.countP (·<x))++s.drop (s.countP (·<x)+1)=delP s x
 | y::r,hs,hx=>by
  obtain ⟨h1,h2⟩:=List.pairwise_cons.1 hs
  rcases Int.lt_or_le y x with h | h
  ·have hr:x∈r:=by
    rcases List.mem_cons.1 hx with e | e
    ·omega
    ·exact e
   obtain ⟨i1,i2⟩:=delP_cut h2 hr
   rw [List.countP_cons_of_pos (by simpa using h)]
   refine ⟨by simp; omega,?_⟩
   rw [List.take_succ_cons,List.drop_succ_cons,List.cons_append,i2]
   unfold delP
   rw [List.filter_cons_of_pos (by simp; omega)]
  ·have e:x=y:=by
    rcases List.mem_cons.1 hx with e | e
    ·exact e
    ·have:=h1 x e; omega
   subst e
   rw [List.countP_cons_of_neg (by simp),count_zero h1 (Int.le_refl _)]
   refine ⟨by simp,?_⟩
   unfold delP
   rw [List.filter_cons_of_neg (by simp),List.take_zero,List.nil_append,List.drop_succ_cons,List.drop_zero]
   exact (List.filter_eq_self.2 fun a ha=>by have:=h1 a ha; simp; omega).symm
theorem flag_ok(b:Bool)(w:World):Ret Tryz.prog 119 [.bool b] w fun u w'=>u=.int .i64 (if b=true then 1 else 0)∧w'=w:=by
 refine ent119 _ _ _ ?_
 cases b
 ·simp (disch:=first|omega|exact zF rfl|exact zG rfl|exact fun h=>h|(simp only[zA,zB,zC,zD,bytesW];omega)) only[go_sem]
 ·simp (disch:=first|omega|exact zF rfl|exact zG rfl|exact fun h=>h|(simp only[zA,zB,zC,zD,bytesW];omega)) only[go_sem]
theorem own_blk{w:World}{B n:Nat}{v:Value}{s:List Int}(h:w.ownsRow B 3 1 v n (s.flatMap intE))(h0:0<n):∃ g cap rest,v=.slice (some ⟨g,0,none⟩) n cap∧n≤cap∧cap≤9223372036854775807∧B≤g∧Blk w g (s.map (Value.int .i64)++rest).toArray 3:=by
 rcases h.2 with ⟨rfl,h1⟩ | ⟨g,c,cur,rfl,hg,hb,hnc,hcm,hcs,htk⟩
 ·omega
 ·rw [intE_map,Nat.mul_one] at htk
  refine ⟨g,c,cur.toList.drop n,rfl,hnc,hcm,hg,?_⟩
  rw [← htk,List.take_append_drop]; exact hb
theorem set_ok(v:Value)(s:List Int)(o:OpT)(w:World)(B:Nat)(hB:B≤w.heap.size)(h:w.ownsRow B 3 1 v s.length (s.flatMap intE))(hl:s.length≤1000000)(hs:s.Pairwise (· < ·)) :
  Ret Tryz.prog 98 [v,.agg o.enc.toArray] w fun u w'=>StepR w w' v (setP s o) u∧Chg (fun k=>v.ownBlock=some k) w w':=by
 obtain ⟨a,c,rfl,_⟩:=own_slice h
 refine ent98 _ _ _ _ ?_
 have ho:=o.at
 have hw1:Below w.heap.size w (w.alloc (.cells o.enc.toArray 52)):=(Below.refl _ w).alloc (Nat.le_refl _) _
 have hr:RdS w 1 intE (.slice a s.length c) s:=RdS.of_own' h s rfl rfl
 have hsp:∀ a' n c',Value.slice a s.length c=.slice (some a') n c'→n≠0→a'.spot=none:=fun a' n c' e hn=>by
  cases e
  obtain ⟨g,cap,rest,e,_⟩:=own_blk h (by omega)
  cases e; rfl
 simp (disch:=first|omega|exact zF rfl|exact zG rfl|exact fun h=>h|(simp only[zA,zB,zC,zD,bytesW];omega)) only[go_sem,ho]
 refine Ret.mono (bsearch_ok _ s o.Arg _ (hr.below hw1 (by decide)) hsp hl (hs.imp fun h=>Int.le_of_lt h)) ?_
 rintro _ w2 ⟨rfl,b2⟩
 have bb:=Below.next hw1 b2
 have cb:∀ {S:Nat→Prop},Chg S w w2:=Chg.of_below bb
 have hB2:Blk w2 w.heap.size o.enc.toArray 52:=Blk.new.below b2 Blk.new.lt
 have r2:=hB2.rules
 have same:∀ {n:Int} {b:Bool},setP s o=some (s,n)→StepR w w2 (.slice a s.length c) (setP s o) (.tuple #[.slice a s.length c,.int .i64 n,.bool true]):=fun e=>⟨_,_,_,rfl,by
  rw [e]; exact ⟨rfl,rfl,hr.below bb (by decide),fun k hk=>.inl (slFoot_own hk)⟩⟩
 have hcle:=List.countP_le_length (p:=fun y:Int=>decide (y<o.Arg)) (l:=s)
 have own2:=(cb (S:=fun _=>False)).own h fun _ _ h=>h
 by_cases m12:o.Method=12
 ·cases hin:s.contains o.Arg with
  | true =>
   have e:setP s o=some (s,1):=by unfold setP; rw [if_pos m12,if_pos (by simpa using hin)]
   simp (disch:=first|omega|exact zF rfl|exact zG rfl|exact fun h=>h|(simp only[zA,zB,zC,zD,bytesW];omega)) only[go_sem,c98S5,r2,ho,m12]
   refine Ret.mono (flag_ok _ _) ?_
   rintro _ _ ⟨rfl,rfl⟩
   simp (disch:=first|omega|exact zF rfl|exact zG rfl|exact fun h=>h|(simp only[zA,zB,zC,zD,bytesW];omega)) only[go_sem,c98S5]
   exact ⟨same (b:=true) e,cb⟩
  | false =>
   have e:setP s o=some (s,0):=by unfold setP; rw [if_pos m12,if_neg (by simpa using hin)]
   simp (disch:=first|omega|exact zF rfl|exact zG rfl|exact fun h=>h|(simp only[zA,zB,zC,zD,bytesW];omega)) only[go_sem,c98S5,r2,ho,m12]
   refine Ret.mono (flag_ok _ _) ?_
   rintro _ _ ⟨rfl,rfl⟩
   simp (disch:=first|omega|exact zF rfl|exact zG rfl|exact fun h=>h|(simp only[zA,zB,zC,zD,bytesW];omega)) only[go_sem,c98S5]
   exact ⟨same (b:=true) e,cb⟩
 by_cases m10:o.Method=10
 ·cases hin:s.contains o.Arg with
  | true =>
   have e:setP s o=some (s,0):=by unfold setP; rw [if_neg m12,if_pos m10,if_pos (by simpa using hin)]
   simp (disch:=first|omega|exact zF rfl|exact zG rfl|exact fun h=>h|(simp only[zA,zB,zC,zD,bytesW];omega)) only[go_sem,c98S5,r2,ho,m10]
   refine Ret.mono (flag_ok _ _) ?_
   rintro _ _ ⟨rfl,rfl⟩
   simp (disch:=first|omega|exact zF rfl|exact zG rfl|exact fun h=>h|(simp only[zA,zB,zC,zD,bytesW];omega)) only[go_sem,c98S5]
   exact ⟨same (b:=true) e,cb⟩
  | false =>
   have e:setP s o=some (insP s o.Arg,1):=by unfold setP; rw [if_neg m12,if_pos m10,if_neg (by simpa using hin)]
   simp (disch:=first|omega|exact zF rfl|exact zG rfl|exact fun h=>h|(simp only[zA,zB,zC,zD,bytesW];omega)) only[go_sem,c98S5,r2,ho,m10]
   refine bsW_ones ty25mkI rfl rfl (by decide) (by decide) (intE_one _) ?_
   simp (disch:=first|omega|exact zF rfl|exact zG rfl|exact fun h=>h|(simp only[zA,zB,zC,zD,bytesW];omega)) only[go_sem,c98S5]
   have b3:=(Below.refl w2.heap.size w2).alloc (Nat.le_refl _) (.cells #[.int .i64 o.Arg] 3)
   have own3:=(Chg.of_below (S:=fun _=>False) b3).own own2 fun _ _ h=>h
   have hsz:=b2.size
   have hsz1:=bb.size
   refine .inl ⟨by kernel_rfl,Ret.mono (ins_ok _ s (s.countP (·<o.Arg)) o.Arg w2.heap.size _ B (by simp; omega) own3 Blk.new (fun e=>?_) hcle hl) ?_⟩
   ·have:=World.ownsRow.lt h _ e
    omega
   rintro u w4 ⟨h4,f4,c4⟩
   simp (disch:=first|omega|exact zF rfl|exact zG rfl|exact fun h=>h|(simp only[zA,zB,zC,zD,bytesW];omega)) only[go_sem,c98S5]
   refine ⟨⟨_,_,_,rfl,?_⟩,(cb.trans (Chg.of_below b3)).trans c4⟩
   rw [e]
   refine ⟨rfl,rfl,h4,fun k hk=>(f4 k hk).imp id fun h=>?_⟩
   simp only [World.size_alloc] at h
   omega
 by_cases m11:o.Method=11
 ·cases hin:s.contains o.Arg with
  | true =>
   have hmem:o.Arg∈s:=by simpa using hin
   have e:setP s o=some (delP s o.Arg,1):=by unfold setP; rw [if_neg m12,if_neg m10,if_pos m11,if_pos hmem]
   obtain ⟨d1,d2⟩:=delP_cut hs hmem
   simp (disch:=first|omega|exact zF rfl|exact zG rfl|exact fun h=>h|(simp only[zA,zB,zC,zD,bytesW];omega)) only[go_sem,c98S5,r2,ho,m11]
   obtain ⟨g,cap,rest,e1,hnc,hcm,hg,hblk⟩:=own_blk own2 (by omega)
   cases e1
   refine ⟨⟨by omega,by omega⟩,.inl ⟨by kernel_rfl,Ret.mono (delete_ok g c (s.countP (·<o.Arg)) s rest w2 hblk hnc hcm d1) ?_⟩⟩
   rintro _ w4 ⟨rfl,⟨rest',h4⟩,c4⟩
   simp (disch:=first|omega|exact zF rfl|exact zG rfl|exact fun h=>h|(simp only[zA,zB,zC,zD,bytesW];omega)) only[go_sem,c98S5]
   rw [d2] at h4
   have hlen:s.length - 1=(delP s o.Arg).length:=by rw [← d2]; simp; omega
   refine ⟨⟨_,_,_,rfl,?_⟩,cb.trans ⟨c4.os,c4.tape,c4.output,c4.size,fun k hk hS=>c4.block k hk fun e=>hS (by rw [e]; rfl)⟩⟩
   rw [e]
   exact ⟨rfl,rfl,rd_of_blk h4 (by omega) hlen,fun k hk=>.inl (by have:=slFoot_own hk; exact this)⟩
  | false =>
   have e:setP s o=some (s,0):=by unfold setP; rw [if_neg m12,if_neg m10,if_pos m11,if_neg (by simpa using hin)]
   simp (disch:=first|omega|exact zF rfl|exact zG rfl|exact fun h=>h|(simp only[zA,zB,zC,zD,bytesW];omega)) only[go_sem,c98S5,r2,ho,m11]
   refine Ret.mono (flag_ok _ _) ?_
   rintro _ _ ⟨rfl,rfl⟩
   simp (disch:=first|omega|exact zF rfl|exact zG rfl|exact fun h=>h|(simp only[zA,zB,zC,zD,bytesW];omega)) only[go_sem,c98S5]
   exact ⟨same (b:=true) e,cb⟩
 ·have e:setP s o=none:=by unfold setP; rw [if_neg m12,if_neg m10,if_neg m11]
  cases hin:s.contains o.Arg
  all_goals
   simp (disch:=first|omega|exact zF rfl|exact zG rfl|exact fun h=>h|(simp only[zA,zB,zC,zD,bytesW];omega)) only[go_sem,c98S5,r2,ho,m10,m11,m12]
   exact ⟨⟨_,_,_,rfl,by rw [e]⟩,cb⟩
open Go Go.Ann Go.RowKit Go.Shelf
def numL(s:List Int)(o:OpT):Option (List Int × Int):=match s with | [x]=>numP x o | _=>none
theorem numL_not{s:List Int}{o:OpT}(h:∀ x,s=[x]→False):numL s o=none:=by
 unfold numL
 split
 ·exact absurd rfl (h _)
 ·rfl
def doP(s:List Int)(o:OpT):Option (List Int × Int) :=
 if o.Kind=1∨o.Kind=2 then numL s o
 else if o.Kind=3∨o.Kind=4 then listP s o
 else if o.Kind=5 then setP s o
 else if o.Kind=6 then (if o.Method=13∧s=[] then some ([o.Proc],0) else if o.Method=14∧s=[o.Proc] then some ([],0) else none)
 else none
def stepP(s:List Int)(o:OpT):Option (List Int) :=
 match doP s o with
 | some (t,n)=>if o.Done=true∧n≠o.Result then none else some t
 | none=>none
def StepF(w w':World)(r:Option (List Int × Int))(t:Value):Prop :=
 ∃ u a ok,t=.tuple #[u,.int .i64 a,.bool ok]∧match r with
  | none=>ok=false
  | some (s,n)=>ok=true∧a=n∧RdS w' 1 intE u s∧∀ k,slFoot u k→w.heap.size≤k
theorem StepR.fresh{w w2 w3:World}{v t:Value}{r:Option (List Int × Int)}(h:StepR w2 w3 v r t)(hv:∀ k,v.ownBlock=some k→w.heap.size≤k)(hs:w.heap.size≤w2.heap.size):StepF w w3 r t:=by
 obtain ⟨u,a,ok,e,hm⟩:=h
 refine ⟨u,a,ok,e,?_⟩
 cases r with
 | none=>exact hm
 | some p =>
  obtain ⟨s,n⟩:=p
  obtain ⟨h1,h2,h3,h4⟩:=hm
  exact ⟨h1,h2,h3,fun k hk=>(h4 k hk).elim (hv k) fun h=>Nat.le_trans hs h⟩
theorem do_ok(v:Value)(s:List Int)(o:OpT)(w:World)(h:RdS w 1 intE v s)(hl:s.length≤1000000)(hs:o.Kind=5→s.Pairwise (· < ·)) :
  Ret Tryz.prog 73 [v,.agg o.enc.toArray] w fun u w'=>StepF w w' (doP s o) u∧Below w.heap.size w w':=by
 refine ent73 _ _ _ _ ?_
 have ho:=o.at
 have hw1:Below w.heap.size w (w.alloc (.cells o.enc.toArray 52)):=(Below.refl _ w).alloc (Nat.le_refl _) _
 simp (disch:=first|omega|exact zF rfl|exact zG rfl|exact fun h=>h|(simp only[zA,zB,zC,zD,bytesW];omega)) only[go_sem]
 refine Ret.mono (iclone_ok v s _ (h.below hw1 (by decide)) hl) ?_
 rintro u w2 ⟨own2,b2⟩
 have bb:=Below.next hw1 b2
 have hB2:Blk w2 w.heap.size o.enc.toArray 52:=Blk.new.below b2 Blk.new.lt
 have r2:=hB2.rules
 have hl11:okSize o.enc.toArray 11=true:=rfl
 obtain ⟨a,c,rfl,hac⟩:=own_slice own2
 have rd2:RdS w2 1 intE (.slice a s.length c) s:=RdS.of_own' own2 s rfl rfl
 have lt2:∀ k,(Value.slice a s.length c).ownBlock=some k→w.heap.size≤k:=fun k hk=>by
  have:=(World.ownsRow.lt own2 k hk).1
  simp only [World.size_alloc] at this; omega
 have hsz1:w.heap.size+1≤w2.heap.size:=by have:=b2.size; simpa using this
 have chg:∀ {w':World},Chg (fun k=>(Value.slice a s.length c).ownBlock=some k) w2 w'→Below w.heap.size w w':=fun hc=>bb.trans (hc.below bb.size fun k hk e=>by have:=lt2 k e; omega)
 have bad:∀ {u:Value} {n:Int},doP s o=none→StepF w w2 (doP s o) (.tuple #[u,.int .i64 n,.bool false]):=fun e=>⟨_,_,_,rfl,by rw [e]⟩
 have number:o.Kind=1∨o.Kind=2→(∀ x,s=[x]→False)∨∃ x,s=[x]:=fun _=>by
  cases s with
  | nil=>exact .inl fun x e=>by cases e
  | cons x r=>cases r with
   | nil=>exact .inr ⟨x,rfl⟩
   | cons y r=>exact .inl fun x e=>by cases e
 have hd1:o.Kind=1∨o.Kind=2→doP s o=numL s o:=fun e=>by unfold doP; rw [if_pos e]
 by_cases k1:o.Kind=1
 ·simp (disch:=first|omega|exact zF rfl|exact zG rfl|exact fun h=>h|(simp only[zA,zB,zC,zD,bytesW];omega)) only[go_sem,c73S8,r2,ho,k1]
  rcases number (.inl k1) with hn | ⟨x,rfl⟩
  ·have hne:(s.length:Int)≠1:=fun e=>by
    obtain ⟨x,hx⟩:=List.length_eq_one_iff.1 (show s.length=1 by omega)
    exact hn x hx
   refine ⟨fun _=>⟨bad ?_,bb⟩,fun e=>absurd e hne⟩
   rw [hd1 (.inl k1),numL_not hn]
  ·refine ⟨fun e=>absurd rfl e,fun _=>?_⟩
   simp (disch:=first|omega|exact zF rfl|exact zG rfl|exact fun h=>h|(simp only[zA,zB,zC,zD,bytesW];omega)) only[go_sem,c73S8,r2]
   refine Ret.mono (number_ok _ x o w2 rd2) ?_
   rintro _ w3 ⟨h3,b3⟩
   have h3':=StepR.fresh h3 lt2 (by omega)
   obtain ⟨u3,a3,ok3,rfl,hm⟩:=h3
   simp (disch:=first|omega|exact zF rfl|exact zG rfl|exact fun h=>h|(simp only[zA,zB,zC,zD,bytesW];omega)) only[go_sem,c73S8]
   rw [hd1 (.inl k1)]
   exact ⟨h3',Below.next bb b3⟩
 by_cases k2:o.Kind=2
 ·simp (disch:=first|omega|exact zF rfl|exact zG rfl|exact fun h=>h|(simp only[zA,zB,zC,zD,bytesW];omega)) only[go_sem,c73S8,r2,ho,k2]
  rcases number (.inr k2) with hn | ⟨x,rfl⟩
  ·have hne:(s.length:Int)≠1:=fun e=>by
    obtain ⟨x,hx⟩:=List.length_eq_one_iff.1 (show s.length=1 by omega)
    exact hn x hx
   refine ⟨fun _=>⟨bad ?_,bb⟩,fun e=>absurd e hne⟩
   rw [hd1 (.inr k2),numL_not hn]
  ·refine ⟨fun e=>absurd rfl e,fun _=>?_⟩
   simp (disch:=first|omega|exact zF rfl|exact zG rfl|exact fun h=>h|(simp only[zA,zB,zC,zD,bytesW];omega)) only[go_sem,c73S8,r2]
   refine Ret.mono (number_ok _ x o w2 rd2) ?_
   rintro _ w3 ⟨h3,b3⟩
   have h3':=StepR.fresh h3 lt2 (by omega)
   obtain ⟨u3,a3,ok3,rfl,hm⟩:=h3
   simp (disch:=first|omega|exact zF rfl|exact zG rfl|exact fun h=>h|(simp only[zA,zB,zC,zD,bytesW];omega)) only[go_sem,c73S8]
   rw [hd1 (.inr k2)]
   exact ⟨h3',Below.next bb b3⟩
 have hb1:(w.alloc (.cells o.enc.toArray 52)).heap.size≤w2.heap.size:=b2.size
 by_cases k3:o.Kind=3
 ·have hd:doP s o=listP s o:=by unfold doP; rw [if_neg (by simp [k1,k2]),if_pos (.inl k3)]
  simp (disch:=first|omega|exact zF rfl|exact zG rfl|exact fun h=>h|(simp only[zA,zB,zC,zD,bytesW];omega)) only[go_sem,c73S8,r2,ho,k3]
  refine Ret.mono (list_ok _ s o w2 _ hb1 own2 hl) ?_
  rintro _ w3 ⟨h3,c3⟩
  have h3':=StepR.fresh h3 lt2 (by omega)
  obtain ⟨u3,a3,ok3,rfl,hm⟩:=h3
  simp (disch:=first|omega|exact zF rfl|exact zG rfl|exact fun h=>h|(simp only[zA,zB,zC,zD,bytesW];omega)) only[go_sem,c73S8]
  rw [hd]
  exact ⟨h3',chg c3⟩
 by_cases k4:o.Kind=4
 ·have hd:doP s o=listP s o:=by unfold doP; rw [if_neg (by simp [k1,k2]),if_pos (.inr k4)]
  simp (disch:=first|omega|exact zF rfl|exact zG rfl|exact fun h=>h|(simp only[zA,zB,zC,zD,bytesW];omega)) only[go_sem,c73S8,r2,ho,k4]
  refine Ret.mono (list_ok _ s o w2 _ hb1 own2 hl) ?_
  rintro _ w3 ⟨h3,c3⟩
  have h3':=StepR.fresh h3 lt2 (by omega)
  obtain ⟨u3,a3,ok3,rfl,hm⟩:=h3
  simp (disch:=first|omega|exact zF rfl|exact zG rfl|exact fun h=>h|(simp only[zA,zB,zC,zD,bytesW];omega)) only[go_sem,c73S8]
  rw [hd]
  exact ⟨h3',chg c3⟩
 by_cases k5:o.Kind=5
 ·have hd:doP s o=setP s o:=by unfold doP; rw [if_neg (by simp [k1,k2]),if_neg (by simp [k3,k4]),if_pos k5]
  simp (disch:=first|omega|exact zF rfl|exact zG rfl|exact fun h=>h|(simp only[zA,zB,zC,zD,bytesW];omega)) only[go_sem,c73S8,r2,ho,k5]
  refine Ret.mono (set_ok _ s o w2 _ hb1 own2 hl (hs k5)) ?_
  rintro _ w3 ⟨h3,c3⟩
  have h3':=StepR.fresh h3 lt2 (by omega)
  obtain ⟨u3,a3,ok3,rfl,hm⟩:=h3
  simp (disch:=first|omega|exact zF rfl|exact zG rfl|exact fun h=>h|(simp only[zA,zB,zC,zD,bytesW];omega)) only[go_sem,c73S8]
  rw [hd]
  exact ⟨h3',chg c3⟩
 by_cases k6:o.Kind=6
 ·have hd:doP s o=(if o.Method=13∧s=[] then some ([o.Proc],0) else if o.Method=14∧s=[o.Proc] then some ([],0) else none):=by unfold doP; rw [if_neg (by simp [k1,k2]),if_neg (by simp [k3,k4]),if_neg k5,if_pos k6]
  have rdd:=hB2.drew.rules
  have bbd:Below w.heap.size w w2.drew:=bb.drew
  have rd2d:RdS w2.drew 1 intE (.slice a s.length c) s:=rd2.below (Below.refl _ w2).drew (by decide)
  have fresh:∀ {k n c'},slFoot (.slice (some ⟨w2.heap.size,0,none⟩) n c') k→w.heap.size≤k:=fun hk=>by
   have:=slFoot_own hk
   simp only [Value.ownBlock,Option.some.injEq] at this
   omega
  have badd:∀ {u:Value} {n:Int},doP s o=none→StepF w w2.drew (doP s o) (.tuple #[u,.int .i64 n,.bool false]):=fun e=>⟨_,_,_,rfl,by rw [e]⟩
  by_cases m13:o.Method=13
  ·simp (disch:=first|omega|exact zF rfl|exact zG rfl|exact fun h=>h|(simp only[zA,zB,zC,zD,bytesW];omega)) only[go_sem,c73S8,r2,ho,k6,m13]
   refine ⟨fun h0=>?_,fun h0=>?_⟩
   ·obtain rfl:s=[]:=List.eq_nil_of_length_eq_zero (by omega)
    refine bsW_ones ty25mkI rfl rfl (by decide) (by decide) (intE_one _) ?_
    simp (disch:=first|omega|exact zF rfl|exact zG rfl|exact fun h=>h|(simp only[zA,zB,zC,zD,bytesW];omega)) only[go_sem,c73S8]
    refine ⟨⟨_,_,_,rfl,?_⟩,Below.next bb ((Below.refl _ _).alloc (Nat.le_refl _) _)⟩
    rw [hd,if_pos ⟨m13,rfl⟩]
    exact ⟨rfl,rfl,int_new o.Proc rfl,fun k hk=>fresh hk⟩
   ·refine c73draw0 ?_
    simp (disch:=first|omega|exact zF rfl|exact zG rfl|exact fun h=>h|(simp only[zA,zB,zC,zD,bytesW];omega)) only[go_sem,c73S8,c73D0,rdd,ho,m13]
    have:s≠[]:=fun e=>h0 (by rw [e]; rfl)
    exact ⟨badd (by rw [hd]; simp [this,m13]),bbd⟩
  ·simp (disch:=first|omega|exact zF rfl|exact zG rfl|exact fun h=>h|(simp only[zA,zB,zC,zD,bytesW];omega)) only[go_sem,c73S8,r2,ho,k6,m13]
   refine c73draw0 ?_
   by_cases m14:o.Method=14
   ·simp (disch:=first|omega|exact zF rfl|exact zG rfl|exact fun h=>h|(simp only[zA,zB,zC,zD,bytesW];omega)) only[go_sem,c73S8,c73D0,rdd,ho,m14]
    refine ⟨fun h1=>?_,fun h1=>?_⟩
    ·obtain ⟨x,rfl⟩:=List.length_eq_one_iff.1 (show s.length=1 by omega)
     obtain ⟨p,rfl⟩:=rd2d.ptr (by simp)
     have ep:=RdS.int rd2d (k:=0) (by simp)
     rw [show p.add 0=p from rfl,show ([x]:List Int)[0]=x from rfl] at ep
     simp (disch:=first|omega|exact zF rfl|exact zG rfl|exact fun h=>h|(simp only[zA,zB,zC,zD,bytesW];omega)) only[go_sem,c73S8,c73D0,rdd,ho,ep]
     refine ⟨fun e=>⟨⟨_,_,_,rfl,?_⟩,bbd⟩,fun e=>⟨badd ?_,bbd⟩⟩
     ·rw [hd,if_neg (by simp),if_pos ⟨m14,by rw [e]⟩]
      exact ⟨rfl,rfl,RdS.nil,fun k hk=>absurd hk slFoot_none⟩
     ·rw [hd,if_neg (by simp),if_neg (by simp [e])]
    ·have:s≠[o.Proc]:=fun e=>h1 (by rw [e]; rfl)
     exact ⟨badd (by rw [hd]; simp [m13,this]),bbd⟩
   ·simp (disch:=first|omega|exact zF rfl|exact zG rfl|exact fun h=>h|(simp only[zA,zB,zC,zD,bytesW];omega)) only[go_sem,c73S8,c73D0,rdd,ho,m14]
    exact ⟨badd (by rw [hd]; simp [m13,m14]),bbd⟩
 ·have hd:doP s o=none:=by unfold doP; rw [if_neg (by simp [k1,k2]),if_neg (by simp [k3,k4]),if_neg k5,if_neg k6]
  simp (disch:=first|omega|exact zF rfl|exact zG rfl|exact fun h=>h|(simp only[zA,zB,zC,zD,bytesW];omega)) only[go_sem,c73S8,r2,ho,k1,k2,k3,k4,k5,k6]
  exact ⟨bad hd,bb⟩
theorem step_ok(v:Value)(s:List Int)(o:OpT)(w:World)(h:RdS w 1 intE v s)(hl:s.length≤1000000)(hs:o.Kind=5→s.Pairwise (· < ·)) :
  Ret Tryz.prog 41 [v,.agg o.enc.toArray] w fun u w'=>(∃ t ok,u=.tuple #[t,.bool ok]∧match stepP s o with
   | none=>ok=false
   | some s'=>ok=true∧RdS w' 1 intE t s'∧∀ k,slFoot t k→w.heap.size≤k)∧Below w.heap.size w w':=by
 refine ent41 _ _ _ _ ?_
 have ho:=o.at
 have hw1:Below w.heap.size w (w.alloc (.cells o.enc.toArray 52)):=(Below.refl _ w).alloc (Nat.le_refl _) _
 simp (disch:=first|omega|exact zF rfl|exact zG rfl|exact fun h=>h|(simp only[zA,zB,zC,zD,bytesW];omega)) only[go_sem]
 refine Ret.mono (do_ok v s o _ (h.below hw1 (by decide)) hl hs) ?_
 rintro _ w2 ⟨⟨t,a,ok,rfl,hm⟩,b2⟩
 have bb:=Below.next hw1 b2
 have hB2:Blk w2 w.heap.size o.enc.toArray 52:=Blk.new.below b2 Blk.new.lt
 have r2:=hB2.rules
 cases hd:doP s o with
 | none =>
  rw [hd] at hm
  subst hm
  have e:stepP s o=none:=by unfold stepP; rw [hd]
  simp (disch:=first|omega|exact zF rfl|exact zG rfl|exact fun h=>h|(simp only[zA,zB,zC,zD,bytesW];omega)) only[go_sem,c41S1,r2,ho]
  exact ⟨⟨_,_,rfl,by rw [e]⟩,bb⟩
 | some p =>
  obtain ⟨s',n⟩:=p
  rw [hd] at hm
  obtain ⟨rfl,rfl,h3,f3⟩:=hm
  have f3':∀ k,slFoot t k→w.heap.size≤k:=fun k hk=>by have:=f3 k hk; simp only [World.size_alloc] at this; omega
  obtain ⟨ta,tc,rfl,_⟩:=h3.form
  cases hdn:o.Done with
  | false =>
   have e:stepP s o=some s':=by unfold stepP; rw [hd]; simp [hdn]
   simp (disch:=first|omega|exact zF rfl|exact zG rfl|exact fun h=>h|(simp only[zA,zB,zC,zD,bytesW];omega)) only[go_sem,c41S1,r2,ho,hdn]
   exact ⟨⟨_,_,rfl,by rw [e]; exact ⟨rfl,h3,f3'⟩⟩,bb⟩
  | true =>
   simp (disch:=first|omega|exact zF rfl|exact zG rfl|exact fun h=>h|(simp only[zA,zB,zC,zD,bytesW];omega)) only[go_sem,c41S1,r2,ho,hdn]
   refine ⟨fun hne=>⟨⟨_,_,rfl,?_⟩,bb⟩,fun heq=>⟨⟨_,_,rfl,?_⟩,bb⟩⟩
   ·rw [show stepP s o=none by unfold stepP; rw [hd]; simp [hdn,hne]]
   ·rw [show stepP s o=some s' by unfold stepP; rw [hd]; simp [hdn,heq]]
    exact ⟨rfl,h3,f3'⟩
open Go Go.Ann Go.RowKit
theorem insP_app{t:List Int}{y n:Int}(h:n<y):insP (t++[y]) n=insP t n++[y]:=by
 unfold insP
 have hc:=List.countP_le_length (p:=fun z:Int=>decide (z<n)) (l:=t)
 rw [List.countP_append,List.countP_singleton,if_neg (by simp; omega),Nat.add_zero,List.take_append_of_le_length hc,List.drop_append_of_le_length hc]
 simp
theorem insP_end{t:List Int}{n:Int}(h:∀ y∈t,y<n):insP t n=t++[n]:=by
 unfold insP
 rw [List.countP_eq_length.2 (fun y hy=>by simpa using h y hy),List.take_length,List.drop_length]
def withP(t:List Int)(n:Int):List Int:=if t.any (fun y=>decide (n<y)) then insP t n else t
theorem with_ok(v:Value)(s:List Int)(n:Int)(w:World)(h:RdS w 1 intE v s)(hl:s.length≤1000000)(hs:s.Pairwise (· < ·))(hn:n ∉ s) :
  Ret Tryz.prog 117 [v,.int .i64 n] w fun u w'=>w'.ownsRow w.heap.size 3 1 u (insP s n).length ((insP s n).flatMap intE)∧Below w.heap.size w w':=by
 obtain ⟨a,c,rfl,_⟩:=h.form
 refine ent117 _ _ _ _ ?_
 simp (disch:=first|omega|exact zF rfl|exact zG rfl|exact fun h=>h|(simp only[zA,zB,zC,zD,bytesW];omega)) only[go_sem]
 have s1:=(St.start (W0:=w)).nilRow 3 1
 have app:∀ {w2:World} {u:Value} {t:List Int} {x:Int} {ty:TypeId} {cs:Array Bool} {K:Value→World→Prop},St w w2 (fun _=>False) [.row u 3 1 t.length (t.flatMap intE)] []→t.length≤2000000 →
   (∀ u' w',St w w' (fun _=>False) [.row u' 3 1 (t++[x]).length ((t++[x]).flatMap intE)] []→K u' w') →
   rawB Tryz.prog .append #[25,25] ty cs [u,.slice (some ⟨w2.heap.size,0,none⟩) 1 1] (w2.alloc (.cells #[.int .i64 x] 3)) K:=by
  intro w2 u t x ty cs K s2 ht hK
  have hx:Rd (w2.alloc (.cells #[.int .i64 x] 3)) 1 (.slice (some ⟨w2.heap.size,0,none⟩) 1 1) 1 (intE x):=rd_new (n:=1) (cs:=#[.int .i64 x]) rfl
  refine (s2.alloc' (.cells #[.int .i64 x] 3)).append 0 rfl ty25mkI rfl (by decide) hx (intE_one x) (by omega) (by omega) ?_
  intro v6 w6 s6 c6
  refine hK _ _ ?_
  rw [List.length_append,List.flatMap_append]
  simpa using s6
 refine W_loopU (fun x:Nat × Value=>[(5,x.2),(6,.bool ((s.take x.1).any fun y=>decide (n<y))),(7,.int .i64 x.1)]) (fun x w'=>St w w' (fun _=>False) [.row x.2 3 1 (withP (s.take x.1) n).length ((withP (s.take x.1) n).flatMap intE)] []∧x.1≤s.length) (fun x=>s.length - x.1) (0,.slice none 0 0) rfl ⟨s1,Nat.zero_le _⟩ ?_
 rintro ⟨k,u⟩ w2 ⟨s2,hk⟩
 simp only at s2 hk
 have hwl:(withP (s.take k) n).length≤k+1:=by
  unfold withP insP; split <;> simp <;> omega
 obtain ⟨au,cu,rfl,_⟩:=own_slice (s2.row 0 rfl)
 by_cases hlt:k<s.length
 ·have hlt':(k:Int)<s.length:=by omega
  obtain ⟨p,rfl⟩:=h.ptr (by omega)
  have ek:=RdS.int (h.below s2.bel (by decide)) hlt
  have et:s.take (k+1)=s.take k++[s[k]]:=List.take_succ_eq_append_getElem hlt
  have hsk:s[k]≠n:=fun e=>hn (by rw [← e]; exact List.getElem_mem hlt)
  have gt:∀ y∈s.take k,y<s[k]:=fun y hy=>by
   obtain ⟨j,hj,rfl⟩:=List.mem_iff_getElem.1 hy
   rw [List.getElem_take]
   exact List.pairwise_iff_getElem.1 hs j k (by simp at hj; omega) hlt (by simp at hj; omega)
  have w1:(s.take k).any (fun y=>decide (n<y))=false→n<s[k]→withP (s.take (k+1)) n=withP (s.take k) n++[n]++[s[k]]:=fun h1 h2=>by
   unfold withP
   rw [h1,et,List.any_append]
   simp only [List.any_cons,h2,decide_true,Bool.true_or,Bool.or_true,if_true]
   rw [insP_app h2,insP_end fun y hy=>?_]
   ·rfl
   ·have:=List.any_eq_false.1 h1 y hy
    have hne:y≠n:=fun e=>hn (by rw [← e]; exact List.mem_of_mem_take hy)
    simp at this; omega
  have w2':(s.take k).any (fun y=>decide (n<y))=false→¬ n<s[k]→withP (s.take (k+1)) n=withP (s.take k) n++[s[k]]:=fun h1 h2=>by
   unfold withP
   rw [et,List.any_append,h1]
   simp only [List.any_cons,List.any_nil,decide_eq_false h2,Bool.or_self,Bool.false_eq_true,if_false]
  have w3:(s.take k).any (fun y=>decide (n<y))=true→withP (s.take (k+1)) n=withP (s.take k) n++[s[k]]:=fun h1=>by
   obtain ⟨y,hy,e⟩:=List.any_eq_true.1 h1
   have h2:n<s[k]:=by have:=gt y hy; simp at e; omega
   unfold withP
   rw [et,List.any_append,h1]
   simp only [Bool.true_or,if_true]
   exact insP_app h2
  simp (disch:=first|omega|exact zF rfl|exact zG rfl|exact fun h=>h|(simp only[zA,zB,zC,zD,bytesW];omega)) only[go_sem,c117S5,hlt',ek]
  have et_any:(s.take (k+1)).any (fun y=>decide (n<y))=((s.take k).any (fun y=>decide (n<y)) || decide (n<s[k])):=by
   rw [et,List.any_append]; simp
  have last:∀ {w3:World} {u3:Value},St w w3 (fun _=>False) [.row u3 3 1 (withP (s.take (k+1)) n).length ((withP (s.take (k+1)) n).flatMap intE)] []→St w w3 (fun _=>False) [.row u3 3 1 (withP (s.take (k+1)) n).length ((withP (s.take (k+1)) n).flatMap intE)] []∧k+1≤s.length:=fun h=>⟨h,by omega⟩
  refine ⟨fun h1=>⟨by omega,fun h2=>?_,fun h2=>⟨by omega,?_⟩⟩,fun h1=>⟨by omega,?_⟩⟩
  ·refine bsW_ones ty25mkI rfl rfl (by decide) (by decide) (intE_one _) ?_
   simp (disch:=first|omega|exact zF rfl|exact zG rfl|exact fun h=>h|(simp only[zA,zB,zC,zD,bytesW];omega)) only[go_sem,c117S5]
   refine app s2 (by omega) ?_
   intro v6 w6 s6
   have ek6:=RdS.int (h.below s6.bel (by decide)) hlt
   obtain ⟨a6,c6,rfl,_⟩:=own_slice (s6.row 0 rfl)
   simp (disch:=first|omega|exact zF rfl|exact zG rfl|exact fun h=>h|(simp only[zA,zB,zC,zD,bytesW];omega)) only[go_sem,c117S5,ek6]
   refine ⟨⟨by omega,by omega⟩,?_⟩
   refine bsW_ones ty25mkI rfl rfl (by decide) (by decide) (intE_one _) ?_
   simp (disch:=first|omega|exact zF rfl|exact zG rfl|exact fun h=>h|(simp only[zA,zB,zC,zD,bytesW];omega)) only[go_sem,c117S5]
   refine app s6 (by simp; omega) ?_
   intro v7 w7 s7
   simp (disch:=first|omega|exact zF rfl|exact zG rfl|exact fun h=>h|(simp only[zA,zB,zC,zD,bytesW];omega)) only[go_sem,c117S5]
   rw [← w1 h1 h2] at s7
   refine ⟨⟨by omega,by omega⟩,(k+1,v7),?_,last s7,by simp only; omega⟩
   rw [et_any,h1,decide_eq_true h2]; rfl
  ·refine bsW_ones ty25mkI rfl rfl (by decide) (by decide) (intE_one _) ?_
   simp (disch:=first|omega|exact zF rfl|exact zG rfl|exact fun h=>h|(simp only[zA,zB,zC,zD,bytesW];omega)) only[go_sem,c117S5]
   refine app s2 (by omega) ?_
   intro v6 w6 s6
   simp (disch:=first|omega|exact zF rfl|exact zG rfl|exact fun h=>h|(simp only[zA,zB,zC,zD,bytesW];omega)) only[go_sem,c117S5]
   rw [← w2' h1 (by omega)] at s6
   refine ⟨⟨by omega,by omega⟩,(k+1,v6),?_,last s6,by simp only; omega⟩
   rw [et_any,h1,decide_eq_false (by omega:¬ n<s[k])]; rfl
  ·refine bsW_ones ty25mkI rfl rfl (by decide) (by decide) (intE_one _) ?_
   simp (disch:=first|omega|exact zF rfl|exact zG rfl|exact fun h=>h|(simp only[zA,zB,zC,zD,bytesW];omega)) only[go_sem,c117S5]
   refine app s2 (by omega) ?_
   intro v6 w6 s6
   simp (disch:=first|omega|exact zF rfl|exact zG rfl|exact fun h=>h|(simp only[zA,zB,zC,zD,bytesW];omega)) only[go_sem,c117S5]
   rw [← w3 h1] at s6
   refine ⟨⟨by omega,by omega⟩,(k+1,v6),?_,last s6,by simp only; omega⟩
   rw [et_any,h1]; rfl
 ·have hlt':¬ (k:Int)<s.length:=by omega
  have hks:s.take k=s:=List.take_of_length_le (by omega)
  rw [hks] at s2 hwl ⊢
  cases hd:s.any fun y=>decide (n<y) with
  | true =>
   simp (disch:=first|omega|exact zF rfl|exact zG rfl|exact fun h=>h|(simp only[zA,zB,zC,zD,bytesW];omega)) only[go_sem,c117S5,hlt']
   have e:=s2.row 0 rfl
   rw [show withP s n=insP s n by unfold withP; rw [hd]; rfl] at e ⊢
   exact ⟨e,s2.bel⟩
  | false =>
   simp (disch:=first|omega|exact zF rfl|exact zG rfl|exact fun h=>h|(simp only[zA,zB,zC,zD,bytesW];omega)) only[go_sem,c117S5,hlt']
   have e1:withP s n=s:=by unfold withP; rw [hd]; rfl
   have e2:insP s n=s++[n]:=insP_end fun y hy=>by
    have:=List.any_eq_false.1 hd y hy
    have hne:y≠n:=fun e=>hn (by rw [← e]; exact hy)
    simp at this; omega
   rw [e1] at s2 ⊢
   refine bsW_ones ty25mkI rfl rfl (by decide) (by decide) (intE_one _) ?_
   simp (disch:=first|omega|exact zF rfl|exact zG rfl|exact fun h=>h|(simp only[zA,zB,zC,zD,bytesW];omega)) only[go_sem,c117S5]
   refine app s2 (by omega) ?_
   intro v6 w6 s6
   simp (disch:=first|omega|exact zF rfl|exact zG rfl|exact fun h=>h|(simp only[zA,zB,zC,zD,bytesW];omega)) only[go_sem,c117S5]
   rw [e2]
   exact ⟨s6.row 0 rfl,s6.bel⟩
open Go Go.Ann Go.RowKit
theorem rd_blk1{w:World}{b:Nat}{x:Int}(h:Blk w b #[.int .i64 x] 3):Rd w 1 (.slice (some ⟨b,0,none⟩) 1 1) 1 (intE x) :=
 ⟨rfl,_,1,rfl,Nat.le_refl _,fun _=>⟨_,rfl,fun j u hu=>by rw [Addr.add_lit,Nat.zero_add,h.cell]; simpa [intE] using hu⟩⟩
set_option maxHeartbeats 2000000 in
theorem rdo_ok(v:Value)(s:List Int)(o:OpT)(w:World)(h:RdS w 1 intE v s)(hl:s.length≤1000000)(hs:o.Kind=5→s.Pairwise (· < ·)) :
  Ret Tryz.prog 95 [v,.agg o.enc.toArray] w fun u w'=>StepA w w' v (doP s o) u∧Below w.heap.size w w':=by
 obtain ⟨a,c,rfl,hac⟩:=h.form
 refine ent95 _ _ _ _ ?_
 have ho:=o.at
 have s2:=((St.start (W0:=w)).box o.enc.toArray 52).box #[.slice none 0 0,.int .i64 0,.bool false] 150
 rw [World.size_alloc] at s2
 have r0:=s2.rules 1 rfl
 simp (disch:=first|omega|exact zF rfl|exact zG rfl|exact fun h=>h|(simp only[zA,zB,zC,zD,bytesW];omega)) only[go_sem,c95S11]
 refine c95draw0 ?_
 have s3:=s2.drew
 have r3:=s3.rules 1 rfl
 simp (disch:=first|omega|exact zF rfl|exact zG rfl|exact fun h=>h|(simp only[zA,zB,zC,zD,bytesW];omega)) only[go_sem,c95S11,c95D0,r0,ho]
 generalize ((w.alloc (.cells o.enc.toArray 52)).alloc (.cells #[.slice none 0 0,.int .i64 0,.bool false] 150)).drew=w2 at s3 r3 ⊢
 clear s2 r0
 have h2:=h.below s3.bel (by decide)
 have q3:=s3.rules 0 rfl
 have hsz:=s3.size
 have lt0:=(s3.low 0 rfl).2
 have res:∀ {w3:World} {z:Array Value} {u:Value} {t:List Int} {n:Int},St w w3 (fun _=>False) [.blk (w.heap.size+1) z 150,.blk w.heap.size o.enc.toArray 52] []→z.size=3→doP s o=some (t,n)→RdS w3 1 intE u t →
   (∀ k,slFoot u k→slFoot (.slice a s.length c) k∨w.heap.size≤k)→(∀ k,slFoot u k→k≠w.heap.size+1) →
   StepA w (w3.fill (w.heap.size+1) #[u,.int .i64 n,.bool true]) (.slice a s.length c) (doP s o) (.agg #[u,.int .i64 n,.bool true])∧Below w.heap.size w (w3.fill (w.heap.size+1) #[u,.int .i64 n,.bool true]):=by
  intro w3 z u t n s4 hz e hu hf hne
  refine ⟨⟨_,_,_,rfl,by obtain ⟨a,c,e,_⟩:=hu.form; exact ⟨_,_,_,e⟩,?_⟩,(s4.fill 0 rfl (cs:=#[u,.int .i64 n,.bool true]) (by rw [hz]; rfl)).bel⟩
  rw [e]
  refine ⟨rfl,rfl,RdS.loc hu fun k hk=>?_,hf⟩
  exact ((Chg.refl (fun k=>k=w.heap.size+1) w3).fill (b:=w.heap.size+1) (cs:=#[u,.int .i64 n,.bool true]) fun _=>rfl).block k (hu.footLt (by decide) hk) (hne k hk)
 have bad:∀ {w3:World} {z:Array Value},St w w3 (fun _=>False) [.blk (w.heap.size+1) z 150,.blk w.heap.size o.enc.toArray 52] []→z.size=3→doP s o=none →
   StepA w (w3.fill (w.heap.size+1) #[.slice none 0 0,.int .i64 0,.bool false]) (.slice a s.length c) (doP s o) (.agg #[.slice none 0 0,.int .i64 0,.bool false])∧Below w.heap.size w (w3.fill (w.heap.size+1) #[.slice none 0 0,.int .i64 0,.bool false]):=by
  intro w3 z s4 hz e
  exact ⟨⟨_,_,_,rfl,⟨_,_,_,rfl⟩,by rw [e]⟩,(s4.fill 0 rfl (cs:=#[.slice none 0 0,.int .i64 0,.bool false]) (by rw [hz]; rfl)).bel⟩
 have oldF:∀ {k},slFoot (.slice a s.length c) k→slFoot (.slice a s.length c) k∨w.heap.size≤k:=fun hk=>.inl hk
 have push:∀ (x y:Int),doP s o=some (s++[o.Arg],0)→drawW Tryz.prog (drawOps 1 c95code) [4]
   [(0,.slice a s.length c),(3,.pointer (some ⟨w.heap.size,0,none⟩)),(4,.pointer (some ⟨w.heap.size+1,0,none⟩)),(5,.int .i64 x),(6,.int .i64 y),(34,.bool true)] w2
   (thenQ Tryz.prog (sg c95S1) (thenQ Tryz.prog (sg c95S18) (finQ Tryz.prog [.cell 4 150] fun u w'=>StepA w w' (.slice a s.length c) (doP s o) u∧Below w.heap.size w w'))):=by
  intro x y hd
  refine c95draw1 (Chg (fun k=>k=w.heap.size+1) _) (Chg.refl _ _) ?_
  have s4:=s3.drew
  have r4:=s4.rules 1 rfl
  have t4:=St.start (W0:=w2.drew)
  have hx:Rd w2.drew 1 (.slice a s.length c) s.length (s.flatMap intE):=h2.below (Below.refl _ w2).drew (by decide)
  have h4:RdS w2.drew 1 intE (.slice a s.length c) s:=hx
  simp (disch:=first|omega|exact zF rfl|exact zG rfl|exact fun h=>h|(simp only[zA,zB,zC,zD,bytesW];omega)) only[go_sem,c95S11,c95S20,c95D1,r4,ho]
  have cel:∀ {w7:World},St w w7 (fun _=>False) [.blk (w.heap.size+1) #[.slice none 0 0,.int .i64 0,.bool false] 150,.blk w.heap.size o.enc.toArray 52] []→(∀ i,w7.cell? ⟨w.heap.size+1,i,none⟩=(#[Value.slice none 0 0,.int .i64 0,.bool false])[i]?)∧(∀ i,w7.frozen? ⟨w.heap.size+1,i,none⟩=false):=fun s7=>⟨(s7.rules 0 rfl).1,(s7.rules 0 rfl).2.1⟩
  have fin:∀ {u:Value} {w8:World},St w2.drew w8 (fun _=>False) [.row u 3 1 (s.length+1) (s.flatMap intE++intE o.Arg)] []→RdS w8 1 intE u (s++[o.Arg])∧∀ k,slFoot u k→w.heap.size+2≤k:=fun t8=>by
   refine ⟨RdS.of_own' (t8.row 0 rfl) (s++[o.Arg]) (by simp) (by rw [List.flatMap_append]; simp),fun k hk=>?_⟩
   have:=(World.ownsRow.lt (t8.row 0 rfl) k (slFoot_own hk)).1
   simp only [World.size_drew] at this
   omega
  refine ⟨?_,?_⟩
  ·refine bsW_none ty25mkI ?_
   have t5:=t4.emptyRow 3 1
   simp (disch:=first|omega|exact zF rfl|exact zG rfl|exact fun h=>h|(simp only[zA,zB,zC,zD,bytesW];omega)) only[go_sem,c95S11,c95S20]
   refine ⟨Chg.of_below t5.bel,?_,?_⟩
   ·refine t5.append 0 rfl ty25mkI rfl (by decide) (Rd.below hx (t5.bel) (by decide)) (ints_one s) (by omega) (by omega) ?_
    intro v6 w6 t6 c6
    simp only [List.set_cons_zero,List.nil_append,Nat.zero_add] at t6
    obtain ⟨a6,d6,rfl,_⟩:=own_slice (t6.row 0 rfl)
    simp (disch:=first|omega|exact zF rfl|exact zG rfl|exact fun h=>h|(simp only[zA,zB,zC,zD,bytesW];omega)) only[go_sem,c95S11,c95S20]
    refine ⟨Chg.of_below t6.bel,bsW_ones ty25mkI rfl rfl (by decide) (by decide) (intE_one _) ?_⟩
    simp (disch:=first|omega|exact zF rfl|exact zG rfl|exact fun h=>h|(simp only[zA,zB,zC,zD,bytesW];omega)) only[go_sem,c95S11,c95S20]
    have t7:=t6.alloc' (.cells #[.int .i64 o.Arg] 3)
    refine ⟨Chg.of_below t7.bel,t7.append 0 rfl ty25mkI rfl (by decide) (show Rd _ 1 (.slice (some ⟨w6.heap.size,0,none⟩) 1 1) 1 (intE o.Arg) from rd_new (n:=1) (cs:=#[.int .i64 o.Arg]) rfl) (intE_one _) (by omega) (by omega) ?_⟩
    intro v8 w8 t8 c8
    simp only [List.set_cons_zero] at t8
    obtain ⟨a8,d8,rfl,_⟩:=own_slice (t8.row 0 rfl)
    simp (disch:=first|omega|exact zF rfl|exact zG rfl|exact fun h=>h|(simp only[zA,zB,zC,zD,bytesW];omega)) only[go_sem,c95S11,c95S20]
    refine ⟨Chg.of_below t8.bel,?_⟩
    refine bdW_built (cells:=#[.slice a8 (s.length+1) d8,.int .i64 0,.bool true]) (by kernel_rfl) ?_
    have s8:=s4.call t8.bel
    have e8:=cel s8
    obtain ⟨f1,f2⟩:=fin t8
    simp (disch:=first|omega|exact zF rfl|exact zG rfl|exact fun h=>h|(simp only[zA,zB,zC,zD,bytesW];omega)) only[go_sem,c95S11,c95S20,e8]
    refine ⟨Chg.of_below t8.bel,(Chg.of_below t8.bel).fill fun _=>rfl,?_⟩
    exact res s8 rfl hd f1 (fun k hk=>.inr (by have:=f2 k hk; omega)) (fun k hk=>by have:=f2 k hk; omega)
   ·refine bsW_ones ty25mkI rfl rfl (by decide) (by decide) (intE_one _) ?_
    have t6:=t5.box #[.int .i64 o.Arg] 3
    simp (disch:=first|omega|exact zF rfl|exact zG rfl|exact fun h=>h|(simp only[zA,zB,zC,zD,bytesW];omega)) only[go_sem,c95S11,c95S20]
    refine ⟨Chg.of_below t6.bel,t6.append 1 rfl ty25mkI rfl (by decide) (Rd.below hx (t6.bel) (by decide)) (ints_one s) (by omega) (by omega) ?_⟩
    intro v6 w6 t7 c6
    simp only [List.set_cons_zero,List.set_cons_succ,List.nil_append,Nat.zero_add] at t7
    obtain ⟨a6,d6,rfl,_⟩:=own_slice (t7.row 1 rfl)
    simp (disch:=first|omega|exact zF rfl|exact zG rfl|exact fun h=>h|(simp only[zA,zB,zC,zD,bytesW];omega)) only[go_sem,c95S11,c95S20]
    have hB:Blk w6 (w2.heap.size+1) #[.int .i64 o.Arg] 3:=by have:=t7.blk 0 rfl; simpa only [World.size_alloc,World.size_drew] using this
    refine ⟨Chg.of_below t7.bel,(t7.sub (L':=[.row (.slice a6 s.length d6) 3 1 s.length (s.flatMap intE)]) (by simp)).append 0 rfl ty25mkI rfl (by decide) (rd_blk1 hB) (intE_one _) (by omega) (by omega) ?_⟩
    intro v8 w8 t8 c8
    simp only [List.set_cons_zero] at t8
    obtain ⟨a8,d8,rfl,_⟩:=own_slice (t8.row 0 rfl)
    simp (disch:=first|omega|exact zF rfl|exact zG rfl|exact fun h=>h|(simp only[zA,zB,zC,zD,bytesW];omega)) only[go_sem,c95S11,c95S20]
    refine ⟨Chg.of_below t8.bel,?_⟩
    refine bdW_built (cells:=#[.slice a8 (s.length+1) d8,.int .i64 0,.bool true]) (by kernel_rfl) ?_
    have s8:=s4.call t8.bel
    have e8:=cel s8
    obtain ⟨f1,f2⟩:=fin t8
    simp (disch:=first|omega|exact zF rfl|exact zG rfl|exact fun h=>h|(simp only[zA,zB,zC,zD,bytesW];omega)) only[go_sem,c95S11,c95S20,e8]
    refine ⟨Chg.of_below t8.bel,(Chg.of_below t8.bel).fill fun _=>rfl,?_⟩
    exact res s8 rfl hd f1 (fun k hk=>.inr (by have:=f2 k hk; omega)) (fun k hk=>by have:=f2 k hk; omega)
  ·refine bsW_ones ty25mkI rfl rfl (by decide) (by decide) (intE_one _) ?_
   have t5:=t4.box #[.int .i64 o.Arg] 3
   simp (disch:=first|omega|exact zF rfl|exact zG rfl|exact fun h=>h|(simp only[zA,zB,zC,zD,bytesW];omega)) only[go_sem,c95S11,c95S20]
   refine ⟨Chg.of_below t5.bel,?_⟩
   ·refine bsW_none ty25mkI ?_
    have t6:=t5.emptyRow 3 1
    rw [World.size_alloc,World.size_drew] at t6
    simp (disch:=first|omega|exact zF rfl|exact zG rfl|exact fun h=>h|(simp only[zA,zB,zC,zD,bytesW];omega)) only[go_sem,c95S11,c95S20]
    refine ⟨Chg.of_below t6.bel,t6.append 0 rfl ty25mkI rfl (by decide) (Rd.below hx (t6.bel) (by decide)) (ints_one s) (by omega) (by omega) ?_⟩
    intro v6 w6 t7 c6
    simp only [List.set_cons_zero,List.set_cons_succ,List.nil_append,Nat.zero_add] at t7
    obtain ⟨a6,d6,rfl,_⟩:=own_slice (t7.row 0 rfl)
    simp (disch:=first|omega|exact zF rfl|exact zG rfl|exact fun h=>h|(simp only[zA,zB,zC,zD,bytesW];omega)) only[go_sem,c95S11,c95S20]
    have hB:Blk w6 w2.heap.size #[.int .i64 o.Arg] 3:=t7.blk 1 rfl
    refine ⟨Chg.of_below t7.bel,(t7.sub (L':=[.row (.slice a6 s.length d6) 3 1 s.length (s.flatMap intE)]) (by simp)).append 0 rfl ty25mkI rfl (by decide) (show Rd w6 1 (.slice (some ⟨w2.heap.size,0,none⟩) 1 1) 1 (intE o.Arg) from rd_blk1 hB) (intE_one _) (by omega) (by omega) ?_⟩
    intro v8 w8 t8 c8
    simp only [List.set_cons_zero] at t8
    obtain ⟨a8,d8,rfl,_⟩:=own_slice (t8.row 0 rfl)
    simp (disch:=first|omega|exact zF rfl|exact zG rfl|exact fun h=>h|(simp only[zA,zB,zC,zD,bytesW];omega)) only[go_sem,c95S11,c95S20]
    refine ⟨Chg.of_below t8.bel,?_⟩
    refine bdW_built (cells:=#[.slice a8 (s.length+1) d8,.int .i64 0,.bool true]) (by kernel_rfl) ?_
    have s8:=s4.call t8.bel
    have e8:=cel s8
    obtain ⟨f1,f2⟩:=fin t8
    simp (disch:=first|omega|exact zF rfl|exact zG rfl|exact fun h=>h|(simp only[zA,zB,zC,zD,bytesW];omega)) only[go_sem,c95S11,c95S20,e8]
    refine ⟨Chg.of_below t8.bel,(Chg.of_below t8.bel).fill fun _=>rfl,?_⟩
    exact res s8 rfl hd f1 (fun k hk=>.inr (by have:=f2 k hk; omega)) (fun k hk=>by have:=f2 k hk; omega)
 have oldL:∀ {k n c'},slFoot (.slice a n c') k→n≤s.length→k≠w.heap.size+1:=fun {k n c'} hk hn e=>by
  obtain ⟨q,n',c'',e1,h0,rfl⟩:=hk
  cases e1
  have:=h.footLt (by decide) (k:=q.block) ⟨q,_,_,rfl,by omega,rfl⟩
  omega
 have ti:((s.length:Int) - 1).toNat=s.length - 1:=by omega
 have h3:RdS w2.drew 1 intE (.slice a s.length c) s:=h2.below (Below.refl _ w2).drew (by decide)
 have s4:=s3.drew
 have r4:=s4.rules 1 rfl
 have q4:=s4.rules 0 rfl
 have setc:∀ {w3:World},Below w2.heap.size w2 w3→St w w3 (fun _=>False) [.blk (w.heap.size+1) #[.slice none 0 0,.int .i64 0,.bool false] 150,.blk w.heap.size o.enc.toArray 52] []:=fun b=>s3.call b
 by_cases k12:o.Kind=1∨o.Kind=2
 ·have hd:doP s o=numL s o:=by unfold doP; rw [if_pos k12]
  have num:Ret Tryz.prog 115 [.slice a s.length c,.agg o.enc.toArray] w2 fun u w'=>(∃ u' n b,u=.agg #[u',.int .i64 n,.bool b]∧(∃ b n c,u'=.slice b n c)∧match numL s o with
    | none=>b=false
    | some (t,m)=>b=true∧n=m∧RdS w' 1 intE u' t∧∀ k,slFoot u' k→(slFoot (.slice a s.length c) k∨w.heap.size≤k)∧k≠w.heap.size+1)∧Below w2.heap.size w2 w':=by
   by_cases hx:∃ x,s=[x]
   ·obtain ⟨x,rfl⟩:=hx
    refine Ret.mono (rnumber_ok _ x o w2 h2) ?_
    rintro u w3 ⟨⟨u',n,b,rfl,ho1,hm⟩,b3⟩
    refine ⟨⟨_,_,_,rfl,ho1,?_⟩,b3⟩
    show (match numP x o with | none=>_ | some (t,m)=>_)
    cases hn:numP x o with
    | none=>rw [hn] at hm; exact hm
    | some p =>
     rw [hn] at hm
     obtain ⟨e1,e2,e3,e4⟩:=hm
     refine ⟨e1,e2,e3,fun k hk=>?_⟩
     obtain ⟨p,rfl⟩:=h.ptr (by simp)
     have hp:=h.footLt (by decide) (k:=p.block) ⟨p,_,_,rfl,by simp,rfl⟩
     rcases e4 k hk with e | e
     ·refine ⟨.inl e,?_⟩
      have e:=slFoot_own e
      simp only [Value.ownBlock,Option.some.injEq] at e
      omega
     ·exact ⟨.inr (by omega),by omega⟩
   ·have hne:(s.length:Int)≠1:=fun e=>hx (List.length_eq_one_iff.1 (by omega))
    have hn:numL s o=none:=numL_not fun x e=>hx ⟨x,e⟩
    refine ent115 _ _ _ _ ?_
    have t2:=((St.start (W0:=w2)).box o.enc.toArray 52).box #[.slice none 0 0,.int .i64 0,.bool false] 150
    rw [World.size_alloc] at t2
    simp (disch:=first|omega|exact zF rfl|exact zG rfl|exact fun h=>h|(simp only[zA,zB,zC,zD,bytesW];omega)) only[go_sem]
    refine ⟨fun _=>?_,fun e=>absurd e hne⟩
    refine bdW_built (cells:=#[.slice none 0 0,.int .i64 0,.bool false]) (by kernel_rfl) ?_
    have u2:=t2.rules 0 rfl
    simp (disch:=first|omega|exact zF rfl|exact zG rfl|exact fun h=>h|(simp only[zA,zB,zC,zD,bytesW];omega)) only[go_sem,u2]
    exact ⟨⟨_,_,_,rfl,⟨_,_,_,rfl⟩,by rw [hn]⟩,(t2.fill 0 rfl (cs:=#[.slice none 0 0,.int .i64 0,.bool false]) rfl).bel⟩
  rcases k12 with k1 | k1
  all_goals
   simp (disch:=first|omega|exact zF rfl|exact zG rfl|exact fun h=>h|(simp only[zA,zB,zC,zD,bytesW];omega)) only[go_sem,c95S11,c95S20,q3,r3,ho,k1]
   refine Ret.mono num ?_
   rintro _ w3 ⟨⟨u',n,b,rfl,⟨ua,un,uc,rfl⟩,hm⟩,b3⟩
   have s5:=setc b3
   have q5:=s5.rules 0 rfl
   simp (disch:=first|omega|exact zF rfl|exact zG rfl|exact fun h=>h|(simp only[zA,zB,zC,zD,bytesW];omega)) only[go_sem,c95S11,c95S20,q5]
   rw [hd]
   cases hn:numL s o with
   | none =>
    rw [hn] at hm
    have hm:b=false:=hm
    subst hm
    exact ⟨⟨_,_,_,rfl,⟨_,_,_,rfl⟩,rfl⟩,(s5.fill 0 rfl (cs:=#[.slice ua un uc,.int .i64 n,.bool false]) rfl).bel⟩
   | some p =>
    obtain ⟨t,m⟩:=p
    rw [hn] at hm
    obtain ⟨rfl,rfl,e3,e4⟩:=hm
    have:=res s5 rfl (hd.trans hn) e3 (fun k hk=>(e4 k hk).1) (fun k hk=>(e4 k hk).2)
    rw [hd,hn] at this
    exact this
 have k1:¬ o.Kind=1:=fun e=>k12 (.inl e)
 have k2:¬ o.Kind=2:=fun e=>k12 (.inr e)
 by_cases k3:o.Kind=3
 ·have hd:doP s o=listP s o:=by unfold doP; rw [if_neg k12,if_pos (.inl k3)]
  by_cases m6:o.Method=6
  ·simp (disch:=first|omega|exact zF rfl|exact zG rfl|exact fun h=>h|(simp only[zA,zB,zC,zD,bytesW];omega)) only[go_sem,c95S11,c95S20,q3,r3,ho,k3,m6]
   exact push _ _ (by rw [hd]; unfold listP; rw [if_pos (.inl ⟨k3,m6⟩)])
  by_cases m7:o.Method=7
  ·simp (disch:=first|omega|exact zF rfl|exact zG rfl|exact fun h=>h|(simp only[zA,zB,zC,zD,bytesW];omega)) only[go_sem,c95S11,c95S20,q3,r3,ho,k3,m7]
   refine ⟨fun h0=>?_,fun h0=>?_⟩
   ·obtain rfl:s=[]:=List.eq_nil_of_length_eq_zero (by omega)
    refine bdW_built (cells:=#[.slice none 0 0,.int .i64 (-1),.bool true]) (by kernel_rfl) ?_
    simp (disch:=first|omega|exact zF rfl|exact zG rfl|exact fun h=>h|(simp only[zA,zB,zC,zD,bytesW];omega)) only[go_sem,c95S11,c95S20,q3]
    exact res s3 rfl (by rw [hd]; unfold listP; simp [k3,m7]) RdS.nil (fun k hk=>absurd hk slFoot_none) (fun k hk=>absurd hk slFoot_none)
   ·obtain ⟨x,r,rfl⟩:∃ x r,s=x::r:=by
     cases s with
     | nil=>simp at h0
     | cons x r=>exact ⟨x,r,rfl⟩
    obtain ⟨p,rfl⟩:=h2.ptr (by simp)
    have ep:=RdS.int h3 (k:=0) (by simp)
    rw [show p.add 0=p from rfl,show (x::r)[0]=x from rfl] at ep
    refine c95draw2 ?_
    simp (disch:=first|omega|exact zF rfl|exact zG rfl|exact fun h=>h|(simp only[zA,zB,zC,zD,bytesW];omega)) only[go_sem,c95S11,c95S20,c95D2,ep]
    refine ⟨by omega,by omega,?_⟩
    refine bdW_built (cells:=#[.slice (offA (some p) c 1 1) r.length (c - 1),.int .i64 x,.bool true]) (by kernel_rfl) ?_
    simp (disch:=first|omega|exact zF rfl|exact zG rfl|exact fun h=>h|(simp only[zA,zB,zC,zD,bytesW];omega)) only[go_sem,c95S11,c95S20,c95D2,q4]
    have hr:RdS w2.drew 1 intE (.slice (offA (some p) c 1 1) r.length (c - 1)) r:=rd_drop (k:=1) (show Rd _ 1 (.slice (some p) (x::r).length c) (x::r).length ((x::r).flatMap intE) from h3) (by simp)
    have hb:∀ {k},slFoot (.slice (offA (some p) c 1 1) r.length (c - 1)) k→k=p.block:=fun hk=>(offA_own hk).symm
    have hp:=h.footLt (by decide) (k:=p.block) ⟨p,_,_,rfl,by simp,rfl⟩
    exact res s4 rfl (by rw [hd]; unfold listP; simp [k3,m7]) hr (fun k hk=>.inl ⟨p,_,_,rfl,by simp,hb hk⟩) (fun k hk=>by rw [hb hk]; omega)
  ·simp (disch:=first|omega|exact zF rfl|exact zG rfl|exact fun h=>h|(simp only[zA,zB,zC,zD,bytesW];omega)) only[go_sem,c95S11,c95S20,q3,r3,ho,k3,m6,m7]
   refine c95draw4 ?_
   simp (disch:=first|omega|exact zF rfl|exact zG rfl|exact fun h=>h|(simp only[zA,zB,zC,zD,bytesW];omega)) only[go_sem,c95S11,c95S20,c95D4,k3,m6,m7]
   refine bdW_built (cells:=#[.slice none 0 0,.int .i64 0,.bool false]) (by kernel_rfl) ?_
   simp (disch:=first|omega|exact zF rfl|exact zG rfl|exact fun h=>h|(simp only[zA,zB,zC,zD,bytesW];omega)) only[go_sem,c95S11,c95S20,q4]
   exact bad s4 rfl (by rw [hd]; unfold listP; simp [k3,m6,m7])
 by_cases k4:o.Kind=4
 ·have hd:doP s o=listP s o:=by unfold doP; rw [if_neg k12,if_pos (.inr k4)]
  by_cases m8:o.Method=8
  ·simp (disch:=first|omega|exact zF rfl|exact zG rfl|exact fun h=>h|(simp only[zA,zB,zC,zD,bytesW];omega)) only[go_sem,c95S11,c95S20,q3,r3,ho,k4,m8]
   exact push _ _ (by rw [hd]; unfold listP; rw [if_pos (.inr ⟨k4,m8⟩)])
  by_cases m9:o.Method=9
  ·simp (disch:=first|omega|exact zF rfl|exact zG rfl|exact fun h=>h|(simp only[zA,zB,zC,zD,bytesW];omega)) only[go_sem,c95S11,c95S20,q3,r3,ho,k4,m9]
   refine ⟨fun h0=>?_,fun h0=>?_⟩
   ·obtain rfl:s=[]:=List.eq_nil_of_length_eq_zero (by omega)
    refine bdW_built (cells:=#[.slice none 0 0,.int .i64 (-1),.bool true]) (by kernel_rfl) ?_
    simp (disch:=first|omega|exact zF rfl|exact zG rfl|exact fun h=>h|(simp only[zA,zB,zC,zD,bytesW];omega)) only[go_sem,c95S11,c95S20,q3]
    exact res s3 rfl (by rw [hd]; unfold listP; simp [k4,m9]) RdS.nil (fun k hk=>absurd hk slFoot_none) (fun k hk=>absurd hk slFoot_none)
   ·have hne:s≠[]:=fun e=>h0 (by rw [e]; rfl)
    have h0':0<s.length:=List.length_pos_iff.2 hne
    obtain ⟨p,rfl⟩:=h2.ptr h0'
    have ep:=RdS.int h3 (k:=s.length - 1) (by omega)
    refine c95draw3 ?_
    simp (disch:=first|omega|exact zF rfl|exact zG rfl|exact fun h=>h|(simp only[zA,zB,zC,zD,bytesW];omega)) only[go_sem,c95S11,c95S20,c95D3,ti,ep]
    refine ⟨⟨by omega,by omega⟩,⟨by omega,by omega⟩,⟨by omega,by omega⟩,⟨by omega,by omega⟩,?_⟩
    refine bdW_built (cells:=#[.slice (offA (some p) c 0 1) (s.length - 1) c,.int .i64 s[s.length - 1],.bool true]) (by kernel_rfl) ?_
    simp (disch:=first|omega|exact zF rfl|exact zG rfl|exact fun h=>h|(simp only[zA,zB,zC,zD,bytesW];omega)) only[go_sem,c95S11,c95S20,c95D3,q4]
    have hr:RdS w2.drew 1 intE (.slice (offA (some p) c 0 1) (s.length - 1) c) s.dropLast:=by
     have:=rd_take (k:=s.length - 1) (show Rd _ 1 (.slice (some p) s.length c) s.length (s.flatMap intE) from h3) (by omega)
     have e:s.dropLast.flatMap intE=(s.flatMap intE).take ((s.length - 1) * 1):=by
      rw [Nat.mul_one,List.dropLast_eq_take]
      exact ints_take s _
     have e2:s.dropLast.length=s.length - 1:=List.length_dropLast
     unfold RdS
     rw [e,e2]
     exact this
    have hb:∀ {k},slFoot (.slice (offA (some p) c 0 1) (s.length - 1) c) k→k=p.block:=fun hk=>(offA_own hk).symm
    have hp:=h.footLt (by decide) (k:=p.block) ⟨p,_,_,rfl,by omega,rfl⟩
    exact res s4 rfl (by rw [hd]; unfold listP; simp [k4,m9,hne,List.getLast_eq_getElem]) hr (fun k hk=>.inl ⟨p,_,_,rfl,by omega,hb hk⟩) (fun k hk=>by rw [hb hk]; omega)
  ·simp (disch:=first|omega|exact zF rfl|exact zG rfl|exact fun h=>h|(simp only[zA,zB,zC,zD,bytesW];omega)) only[go_sem,c95S11,c95S20,q3,r3,ho,k4,m8,m9]
   refine c95draw4 ?_
   simp (disch:=first|omega|exact zF rfl|exact zG rfl|exact fun h=>h|(simp only[zA,zB,zC,zD,bytesW];omega)) only[go_sem,c95S11,c95S20,c95D4,k4,m8,m9]
   refine bdW_built (cells:=#[.slice none 0 0,.int .i64 0,.bool false]) (by kernel_rfl) ?_
   simp (disch:=first|omega|exact zF rfl|exact zG rfl|exact fun h=>h|(simp only[zA,zB,zC,zD,bytesW];omega)) only[go_sem,c95S11,c95S20,q4]
   exact bad s4 rfl (by rw [hd]; unfold listP; simp [k4,m8,m9])
 by_cases k6:o.Kind=6
 ·have hd:doP s o=(if o.Method=13∧s=[] then some ([o.Proc],0) else if o.Method=14∧s=[o.Proc] then some ([],0) else none):=by unfold doP; rw [if_neg k12,if_neg (by simp [k3,k4]),if_neg (by omega),if_pos k6]
  simp (disch:=first|omega|exact zF rfl|exact zG rfl|exact fun h=>h|(simp only[zA,zB,zC,zD,bytesW];omega)) only[go_sem,c95S11,c95S20,q3,r3,ho,k6]
  by_cases m13:o.Method=13
  ·simp (disch:=first|omega|exact zF rfl|exact zG rfl|exact fun h=>h|(simp only[zA,zB,zC,zD,bytesW];omega)) only[go_sem,c95S11,c95S20,m13]
   refine ⟨fun h0=>?_,fun h0=>?_⟩
   ·obtain rfl:s=[]:=List.eq_nil_of_length_eq_zero (by omega)
    refine bsW_ones ty25mkI rfl rfl (by decide) (by decide) (intE_one _) ?_
    simp (disch:=first|omega|exact zF rfl|exact zG rfl|exact fun h=>h|(simp only[zA,zB,zC,zD,bytesW];omega)) only[go_sem,c95S11,c95S20]
    refine bdW_built (cells:=#[.slice (some ⟨w2.heap.size,0,none⟩) 1 1,.int .i64 0,.bool true]) (by kernel_rfl) ?_
    have s5:=s3.alloc' (.cells #[.int .i64 o.Proc] 3)
    have q5:=s5.rules 0 rfl
    simp (disch:=first|omega|exact zF rfl|exact zG rfl|exact fun h=>h|(simp only[zA,zB,zC,zD,bytesW];omega)) only[go_sem,c95S11,c95S20,q5]
    have fr:∀ {k},slFoot (.slice (some ⟨w2.heap.size,0,none⟩) 1 1) k→k=w2.heap.size:=fun hk=>by
     have:=slFoot_own hk
     simp only [Value.ownBlock,Option.some.injEq] at this
     exact this.symm
    exact res s5 rfl (by rw [hd,if_pos ⟨m13,rfl⟩]) (int_new o.Proc rfl) (fun k hk=>.inr (by rw [fr hk]; omega)) (fun k hk=>by rw [fr hk]; omega)
   ·have hne:s≠[]:=fun e=>h0 (by rw [e]; rfl)
    refine c95draw4 ?_
    simp (disch:=first|omega|exact zF rfl|exact zG rfl|exact fun h=>h|(simp only[zA,zB,zC,zD,bytesW];omega)) only[go_sem,c95S11,c95S20,c95D4,m13]
    refine bdW_built (cells:=#[.slice none 0 0,.int .i64 0,.bool false]) (by kernel_rfl) ?_
    simp (disch:=first|omega|exact zF rfl|exact zG rfl|exact fun h=>h|(simp only[zA,zB,zC,zD,bytesW];omega)) only[go_sem,c95S11,c95S20,q4]
    exact bad s4 rfl (by rw [hd,if_neg (by simp [hne]),if_neg (by simp [m13])])
  ·simp (disch:=first|omega|exact zF rfl|exact zG rfl|exact fun h=>h|(simp only[zA,zB,zC,zD,bytesW];omega)) only[go_sem,c95S11,c95S20,m13]
   refine c95draw4 ?_
   by_cases m14:o.Method=14
   ·simp (disch:=first|omega|exact zF rfl|exact zG rfl|exact fun h=>h|(simp only[zA,zB,zC,zD,bytesW];omega)) only[go_sem,c95S11,c95S20,c95D4,m14]
    refine ⟨fun h1=>?_,fun h1=>?_⟩
    ·obtain ⟨x,rfl⟩:=List.length_eq_one_iff.1 (show s.length=1 by omega)
     obtain ⟨p,rfl⟩:=h3.ptr (by simp)
     have ep:=RdS.int h3 (k:=0) (by simp)
     rw [show p.add 0=p from rfl,show ([x]:List Int)[0]=x from rfl] at ep
     simp (disch:=first|omega|exact zF rfl|exact zG rfl|exact fun h=>h|(simp only[zA,zB,zC,zD,bytesW];omega)) only[go_sem,c95S11,c95S20,c95D4,r4,ho,ep]
     refine ⟨fun e=>?_,fun e=>?_⟩
     ·refine bdW_built (cells:=#[.slice none 0 0,.int .i64 0,.bool true]) (by kernel_rfl) ?_
      simp (disch:=first|omega|exact zF rfl|exact zG rfl|exact fun h=>h|(simp only[zA,zB,zC,zD,bytesW];omega)) only[go_sem,c95S11,c95S20,q4]
      exact res s4 rfl (by rw [hd,if_neg (by simp),if_pos ⟨m14,by rw [e]⟩]) RdS.nil (fun k hk=>absurd hk slFoot_none) (fun k hk=>absurd hk slFoot_none)
     ·refine bdW_built (cells:=#[.slice none 0 0,.int .i64 0,.bool false]) (by kernel_rfl) ?_
      simp (disch:=first|omega|exact zF rfl|exact zG rfl|exact fun h=>h|(simp only[zA,zB,zC,zD,bytesW];omega)) only[go_sem,c95S11,c95S20,q4]
      exact bad s4 rfl (by rw [hd,if_neg (by simp),if_neg (by simp [e])])
    ·have hne:s≠[o.Proc]:=fun e=>h1 (by rw [e]; rfl)
     refine bdW_built (cells:=#[.slice none 0 0,.int .i64 0,.bool false]) (by kernel_rfl) ?_
     simp (disch:=first|omega|exact zF rfl|exact zG rfl|exact fun h=>h|(simp only[zA,zB,zC,zD,bytesW];omega)) only[go_sem,c95S11,c95S20,q4]
     exact bad s4 rfl (by rw [hd,if_neg (by simp [m13]),if_neg (by simp [hne])])
   ·simp (disch:=first|omega|exact zF rfl|exact zG rfl|exact fun h=>h|(simp only[zA,zB,zC,zD,bytesW];omega)) only[go_sem,c95S11,c95S20,c95D4,m14]
    refine bdW_built (cells:=#[.slice none 0 0,.int .i64 0,.bool false]) (by kernel_rfl) ?_
    simp (disch:=first|omega|exact zF rfl|exact zG rfl|exact fun h=>h|(simp only[zA,zB,zC,zD,bytesW];omega)) only[go_sem,c95S11,c95S20,q4]
    exact bad s4 rfl (by rw [hd,if_neg (by simp [m13]),if_neg (by simp [m14])])
 by_cases k5:o.Kind=5
 ·have hd:doP s o=setP s o:=by unfold doP; rw [if_neg k12,if_neg (by simp [k3,k4]),if_pos k5]
  simp (disch:=first|omega|exact zF rfl|exact zG rfl|exact fun h=>h|(simp only[zA,zB,zC,zD,bytesW];omega)) only[go_sem,c95S11,c95S20,q3,r3,ho,k5]
  refine c95draw4 ?_
  simp (disch:=first|omega|exact zF rfl|exact zG rfl|exact fun h=>h|(simp only[zA,zB,zC,zD,bytesW];omega)) only[go_sem,c95S11,c95S20,c95D4,k5,q4,r4,ho]
  have hso:=hs k5
  have tab:∀ {w3 w4:World} {n:Int},St w w4 (fun _=>False) [.blk (w.heap.size+1) #[.slice none 0 0,.int .i64 0,.bool false] 150,.blk w.heap.size o.enc.toArray 52] []→setP s o=some (s,n)→StepA w (w4.fill (w.heap.size+1) #[.slice a s.length c,.int .i64 n,.bool true]) (.slice a s.length c) (doP s o) (.agg #[.slice a s.length c,.int .i64 n,.bool true])∧Below w.heap.size w (w4.fill (w.heap.size+1) #[.slice a s.length c,.int .i64 n,.bool true]):=fun s5 e =>
   res s5 rfl (hd.trans e) (h.below s5.bel (by decide)) (fun k hk=>oldF hk) (fun k hk=>oldL hk (Nat.le_refl _))
  have hlen:(s.filter (fun x=>!decide (x=o.Arg))).length<s.length↔o.Arg∈s:=by
   rw [List.length_filter_lt_length_iff_exists]
   simp
  refine Ret.mono (without_ok _ s o.Arg w2.drew h3 hl) ?_
  rintro u w5 ⟨own5,b5⟩
  have s5:=s4.call b5
  have q5:=s5.rules 0 rfl
  have r5:=s5.rules 1 rfl
  have h5:=h.below s5.bel (by decide)
  obtain ⟨au,cu,rfl,_⟩:=own_slice own5
  simp (disch:=first|omega|exact zF rfl|exact zG rfl|exact fun h=>h|(simp only[zA,zB,zC,zD,bytesW];omega)) only[go_sem,c95S20]
  by_cases hin:o.Arg∈s
  ·have hlt:(((s.filter (fun x=>!decide (x=o.Arg))).length:Nat):Int)<s.length:=by have:=hlen.2 hin; omega
   by_cases m12:o.Method=12
   ·simp (disch:=first|omega|exact zF rfl|exact zG rfl|exact fun h=>h|(simp only[zA,zB,zC,zD,bytesW];omega)) only[go_sem,c95S11,c95S20,hlt,m12]
    refine bdW_built (cells:=#[.slice a s.length c,.int .i64 1,.bool true]) (by kernel_rfl) ?_
    simp (disch:=first|omega|exact zF rfl|exact zG rfl|exact fun h=>h|(simp only[zA,zB,zC,zD,bytesW];omega)) only[go_sem,c95S11,c95S20,q5]
    exact tab (w3:=w5) s5 (by unfold setP; rw [if_pos m12,if_pos hin])
   by_cases m10:o.Method=10
   ·simp (disch:=first|omega|exact zF rfl|exact zG rfl|exact fun h=>h|(simp only[zA,zB,zC,zD,bytesW];omega)) only[go_sem,c95S11,c95S20,hlt,m10]
    refine bdW_built (cells:=#[.slice a s.length c,.int .i64 0,.bool true]) (by kernel_rfl) ?_
    simp (disch:=first|omega|exact zF rfl|exact zG rfl|exact fun h=>h|(simp only[zA,zB,zC,zD,bytesW];omega)) only[go_sem,c95S11,c95S20,q5]
    exact tab (w3:=w5) s5 (by unfold setP; rw [if_neg m12,if_pos m10,if_pos hin])
   by_cases m11:o.Method=11
   ·simp (disch:=first|omega|exact zF rfl|exact zG rfl|exact fun h=>h|(simp only[zA,zB,zC,zD,bytesW];omega)) only[go_sem,c95S11,c95S20,hlt,m11,r5,ho]
    refine Ret.mono (without_ok _ s o.Arg w5 h5 hl) ?_
    rintro u w6 ⟨own6,b6⟩
    have s6:=s5.call b6
    have q6:=s6.rules 0 rfl
    obtain ⟨a6,c6,rfl,_⟩:=own_slice own6
    simp (disch:=first|omega|exact zF rfl|exact zG rfl|exact fun h=>h|(simp only[zA,zB,zC,zD,bytesW];omega)) only[go_sem,c95S11,c95S20]
    refine bdW_built (cells:=#[.slice a6 (s.filter (fun x=>!decide (x=o.Arg))).length c6,.int .i64 1,.bool true]) (by kernel_rfl) ?_
    simp (disch:=first|omega|exact zF rfl|exact zG rfl|exact fun h=>h|(simp only[zA,zB,zC,zD,bytesW];omega)) only[go_sem,c95S11,c95S20,q6]
    have hsz5:w.heap.size+2≤w5.heap.size:=by have:=b5.size; simp only [World.size_drew] at this; omega
    exact res s6 rfl (by rw [hd]; unfold setP; rw [if_neg m12,if_neg m10,if_pos m11,if_pos hin]) (RdS.of_own' own6 (delP s o.Arg) rfl rfl) (fun k hk=>.inr (by have:=(World.ownsRow.lt own6 k (slFoot_own hk)).1; omega)) (fun k hk=>by have:=(World.ownsRow.lt own6 k (slFoot_own hk)).1; omega)
   ·simp (disch:=first|omega|exact zF rfl|exact zG rfl|exact fun h=>h|(simp only[zA,zB,zC,zD,bytesW];omega)) only[go_sem,c95S11,c95S20,hlt,m10,m11,m12]
    refine bdW_built (cells:=#[.slice none 0 0,.int .i64 0,.bool false]) (by kernel_rfl) ?_
    simp (disch:=first|omega|exact zF rfl|exact zG rfl|exact fun h=>h|(simp only[zA,zB,zC,zD,bytesW];omega)) only[go_sem,c95S11,c95S20,q5]
    exact bad s5 rfl (by rw [hd]; unfold setP; rw [if_neg m12,if_neg m10,if_neg m11])
  ·have hlt:¬ (((s.filter (fun x=>!decide (x=o.Arg))).length:Nat):Int)<s.length:=fun e=>hin (hlen.1 (by omega))
   by_cases m12:o.Method=12
   ·simp (disch:=first|omega|exact zF rfl|exact zG rfl|exact fun h=>h|(simp only[zA,zB,zC,zD,bytesW];omega)) only[go_sem,c95S11,c95S20,hlt,m12]
    refine bdW_built (cells:=#[.slice a s.length c,.int .i64 0,.bool true]) (by kernel_rfl) ?_
    simp (disch:=first|omega|exact zF rfl|exact zG rfl|exact fun h=>h|(simp only[zA,zB,zC,zD,bytesW];omega)) only[go_sem,c95S11,c95S20,q5]
    exact tab (w3:=w5) s5 (by unfold setP; rw [if_pos m12,if_neg hin])
   by_cases m10:o.Method=10
   ·simp (disch:=first|omega|exact zF rfl|exact zG rfl|exact fun h=>h|(simp only[zA,zB,zC,zD,bytesW];omega)) only[go_sem,c95S11,c95S20,hlt,m10,r5,ho]
    refine Ret.mono (with_ok _ s o.Arg w5 h5 hl hso hin) ?_
    rintro u w6 ⟨own6,b6⟩
    have s6:=s5.call b6
    have q6:=s6.rules 0 rfl
    obtain ⟨a6,c6,rfl,_⟩:=own_slice own6
    simp (disch:=first|omega|exact zF rfl|exact zG rfl|exact fun h=>h|(simp only[zA,zB,zC,zD,bytesW];omega)) only[go_sem,c95S11,c95S20]
    refine bdW_built (cells:=#[.slice a6 (insP s o.Arg).length c6,.int .i64 1,.bool true]) (by kernel_rfl) ?_
    simp (disch:=first|omega|exact zF rfl|exact zG rfl|exact fun h=>h|(simp only[zA,zB,zC,zD,bytesW];omega)) only[go_sem,c95S11,c95S20,q6]
    have hsz5:w.heap.size+2≤w5.heap.size:=by have:=b5.size; simp only [World.size_drew] at this; omega
    exact res s6 rfl (by rw [hd]; unfold setP; rw [if_neg m12,if_pos m10,if_neg hin]) (RdS.of_own' own6 (insP s o.Arg) rfl rfl) (fun k hk=>.inr (by have:=(World.ownsRow.lt own6 k (slFoot_own hk)).1; omega)) (fun k hk=>by have:=(World.ownsRow.lt own6 k (slFoot_own hk)).1; omega)
   by_cases m11:o.Method=11
   ·simp (disch:=first|omega|exact zF rfl|exact zG rfl|exact fun h=>h|(simp only[zA,zB,zC,zD,bytesW];omega)) only[go_sem,c95S11,c95S20,hlt,m11]
    refine bdW_built (cells:=#[.slice a s.length c,.int .i64 0,.bool true]) (by kernel_rfl) ?_
    simp (disch:=first|omega|exact zF rfl|exact zG rfl|exact fun h=>h|(simp only[zA,zB,zC,zD,bytesW];omega)) only[go_sem,c95S11,c95S20,q5]
    exact tab (w3:=w5) s5 (by unfold setP; rw [if_neg m12,if_neg m10,if_pos m11,if_neg hin])
   ·simp (disch:=first|omega|exact zF rfl|exact zG rfl|exact fun h=>h|(simp only[zA,zB,zC,zD,bytesW];omega)) only[go_sem,c95S11,c95S20,hlt,m10,m11,m12]
    refine bdW_built (cells:=#[.slice none 0 0,.int .i64 0,.bool false]) (by kernel_rfl) ?_
    simp (disch:=first|omega|exact zF rfl|exact zG rfl|exact fun h=>h|(simp only[zA,zB,zC,zD,bytesW];omega)) only[go_sem,c95S11,c95S20,q5]
    exact bad s5 rfl (by rw [hd]; unfold setP; rw [if_neg m12,if_neg m10,if_neg m11])
 ·have hd:doP s o=none:=by unfold doP; rw [if_neg k12,if_neg (by simp [k3,k4]),if_neg k5,if_neg k6]
  simp (disch:=first|omega|exact zF rfl|exact zG rfl|exact fun h=>h|(simp only[zA,zB,zC,zD,bytesW];omega)) only[go_sem,c95S11,c95S20,q3,r3,ho,k1,k2,k3,k4,k5,k6]
  refine c95draw4 ?_
  simp (disch:=first|omega|exact zF rfl|exact zG rfl|exact fun h=>h|(simp only[zA,zB,zC,zD,bytesW];omega)) only[go_sem,c95S11,c95S20,c95D4,k3,k4,k5,k6]
  refine bdW_built (cells:=#[.slice none 0 0,.int .i64 0,.bool false]) (by kernel_rfl) ?_
  simp (disch:=first|omega|exact zF rfl|exact zG rfl|exact fun h=>h|(simp only[zA,zB,zC,zD,bytesW];omega)) only[go_sem,c95S11,c95S20,q4]
  exact bad s4 rfl hd
open Go Go.Ann Go.RowKit
def before(a b:OpT):Bool:=a.Done && decide (a.Return<b.Invoke)
open Go Go.Ann Go.RowKit
def maskN:List Bool→Nat
 | []=>0
 | b::l=>b.toNat+2 * maskN l
open Go Go.Ann Go.RowKit
abbrev Spot:=List Bool × List Int
def mayP(l:List OpT)(d:List Bool)(i:Nat)(o:OpT):Bool:=!(d.getD i false) && ((l.map fun p=>before p o).zip d).all (fun p=>p.2 || !p.1)
def fullP(l:List OpT)(d:List Bool):Bool:=((l.map fun o=>o.Done).zip d).all (fun p=>p.2 || !p.1)
def addP(t:List Spot)(p:Spot):List Spot:=if p∈t then t else t++[p]
def goP(l:List OpT)(p:Spot)(t:List Spot)(k:Nat):List Spot :=
 match l[k]? with
 | none=>t
 | some o=>if mayP l p.1 k o then (match stepP p.2 o with
  | some s=>addP t (p.1.set k true,s)
  | none=>t) else t
def roundK(l:List OpT)(p:Spot)(t:List Spot):Nat→List Spot
 | 0=>t
 | k+1=>goP l p (roundK l p t k) k
def bfsN(l:List OpT)(t0:List Spot):Nat→List Spot
 | 0=>t0
 | i+1=>match (bfsN l t0 i)[i]? with
  | some p=>roundK l p (bfsN l t0 i) l.length
  | none=>bfsN l t0 i
theorem addP_pre(t:List Spot)(p:Spot):t <+: addP t p:=by
 unfold addP; split
 ·exact List.prefix_rfl
 ·exact List.prefix_append _ _
theorem goP_pre(l:List OpT)(p:Spot)(t:List Spot)(k:Nat):t <+: goP l p t k:=by
 unfold goP
 split
 ·exact List.prefix_rfl
 ·split
  ·split
   ·exact addP_pre _ _
   ·exact List.prefix_rfl
  ·exact List.prefix_rfl
theorem roundK_pre(l:List OpT)(p:Spot)(t:List Spot):∀ k,t <+: roundK l p t k
 | 0=>List.prefix_rfl
 | k+1=>(roundK_pre l p t k).trans (goP_pre _ _ _ _)
theorem bfsN_step(l:List OpT)(t0:List Spot)(i:Nat):bfsN l t0 i <+: bfsN l t0 (i+1):=by
 rw [bfsN]; split
 ·exact roundK_pre _ _ _ _
 ·exact List.prefix_rfl
theorem bfsN_mono(l:List OpT)(t0:List Spot){i j:Nat}(h:i≤j):bfsN l t0 i <+: bfsN l t0 j:=by
 induction h with
 | refl=>exact List.prefix_rfl
 | step _ ih=>exact ih.trans (bfsN_step _ _ _)
theorem bfsN_closed{l:List OpT}{t0:List Spot}{i j:Nat}(h:i≤j)(hc:(bfsN l t0 i).length≤i):bfsN l t0 j=bfsN l t0 i:=by
 induction h with
 | refl=>rfl
 | step h ih =>
  rename_i m
  have hm:i≤m:=h
  rw [bfsN,ih,List.getElem?_eq_none (by omega)]
def SearchR(l:List OpT)(t0:List Spot)(b:Int):Option (List Spot)→Prop
 | none=>∃ N,b<((bfsN l t0 N).length:Int)
 | some T=>(∃ N,bfsN l t0 N=T∧T.length≤N)∧(T.length:Int)≤b
theorem SearchR.one{l:List OpT}{t0:List Spot}{b:Int}{r r':Option (List Spot)}(h:SearchR l t0 b r)(k:SearchR l t0 b r'):r=r':=by
 have key:∀ {T:List Spot},SearchR l t0 b none→SearchR l t0 b (some T)→False:=by
  rintro T ⟨N,hN⟩ ⟨⟨M,rfl,hM⟩,hb⟩
  rcases Nat.le_total N M with hle | hle
  ·have:=(bfsN_mono l t0 hle).length_le; omega
  ·rw [bfsN_closed hle hM] at hN; omega
 cases r with
 | none=>cases r' with
  | none=>rfl
  | some T=>exact (key h k).elim
 | some T=>cases r' with
  | none=>exact (key k h).elim
  | some T' =>
   obtain ⟨⟨N,h1,h2⟩,_⟩:=h
   obtain ⟨⟨M,k1,k2⟩,_⟩:=k
   subst h1 k1
   rcases Nat.le_total N M with hle | hle
   ·rw [bfsN_closed hle h2]
   ·rw [bfsN_closed hle k2]
theorem wrap_ok(n:Int):I64 (IntKind.i64.wrap n):=by
 constructor <;> simp [IntKind.wrap,IntKind.signed,IntKind.bits] <;> omega
theorem kOk_i64{n:Int}(h:kOk .i64 n):I64 n:=by
 unfold kOk Lit.wf at h
 simp [IntKind.min,IntKind.max,IntKind.signed,IntKind.bits] at h
 exact ⟨by omega,by omega⟩
theorem numP_ok{x:Int}{o:OpT}{s:List Int}{n:Int}(hw:o.wf)(hx:I64 x)(h:numP x o=some (s,n)):Ok64 s∧s.length=1:=by
 have h1:∀ y:Int,I64 y→Ok64 [y]∧[y].length=1:=fun y hy=>⟨fun z hz=>by rw [List.mem_singleton] at hz; subst hz; exact hy,rfl⟩
 obtain ⟨_,_,_,_,_,ha,hs,_⟩:=hw
 unfold numP at h
 repeat' split at h
 all_goals first | (cases h; done) | skip
 all_goals simp only [Option.some.injEq,Prod.mk.injEq] at h; obtain ⟨rfl,_⟩:=h
 ·exact h1 _ hx
 ·exact h1 _ (kOk_i64 ha)
 ·exact h1 _ (kOk_i64 hs)
 ·exact h1 _ hx
 ·exact h1 _ (wrap_ok _)
 ·exact h1 _ (wrap_ok _)
theorem listP_ok{s:List Int}{o:OpT}{t:List Int}{n:Int}(hw:o.wf)(hx:Ok64 s)(h:listP s o=some (t,n)):Ok64 t∧t.length≤s.length+1:=by
 obtain ⟨_,_,_,_,_,ha,hs,_⟩:=hw
 unfold listP at h
 repeat' split at h
 all_goals first | (cases h; done) | skip
 all_goals simp only [Option.some.injEq,Prod.mk.injEq] at h; obtain ⟨rfl,_⟩:=h
 ·refine ⟨fun z hz=>?_,by simp⟩
  rcases List.mem_append.1 hz with hz | hz
  ·exact hx z hz
  ·rw [List.mem_singleton] at hz; subst hz; exact kOk_i64 ha
 ·exact ⟨fun z hz=>(by cases hz),by simp⟩
 ·exact ⟨fun z hz=>hx z (List.mem_cons_of_mem _ hz),by simp; omega⟩
 ·exact ⟨fun z hz=>(by cases hz),by simp⟩
 ·exact ⟨fun z hz=>hx z ((List.dropLast_subset _) hz),by simp; omega⟩
theorem setP_ok{s:List Int}{o:OpT}{t:List Int}{n:Int}(hw:o.wf)(hx:Ok64 s)(hs:s.Pairwise (· < ·))(h:setP s o=some (t,n)):Ok64 t∧t.length≤s.length+1∧t.Pairwise (· < ·):=by
 obtain ⟨_,_,_,_,_,ha,_,_⟩:=hw
 unfold setP at h
 repeat' split at h
 all_goals first | (cases h; done) | skip
 all_goals simp only [Option.some.injEq,Prod.mk.injEq] at h; obtain ⟨rfl,_⟩:=h
 ·exact ⟨hx,by omega,hs⟩
 ·exact ⟨hx,by omega,hs⟩
 ·exact ⟨hx,by omega,hs⟩
 ·rename_i hni _
  refine ⟨fun z hz=>?_,by unfold insP; simp; omega,insP_sorted hs hni⟩
  rcases insP_mem.1 hz with e | hz
  ·subst e; exact kOk_i64 ha
  ·exact hx z hz
 ·exact ⟨fun z hz=>hx z ((List.mem_filter.1 hz).1),by have:=List.length_filter_le (fun y=>!decide (y=o.Arg)) s; unfold delP; omega,delP_sorted hs⟩
 ·exact ⟨hx,by omega,hs⟩
theorem stepP_ok{s:List Int}{o:OpT}{t:List Int}(hw:o.wf)(hx:Ok64 s)(hs:o.Kind=5→s.Pairwise (· < ·))(h:stepP s o=some t):Ok64 t∧t.length≤s.length+1∧(o.Kind=5→t.Pairwise (· < ·)):=by
 unfold stepP at h
 split at h
 case h_2=>cases h
 rename_i t' n hd
 have e:t'=t:=by
  split at h
  ·cases h
  ·simpa using h
 subst e
 unfold doP at hd
 split at hd
 ·rename_i hk
  have h5:o.Kind≠5:=by omega
  unfold numL at hd
  split at hd
  ·obtain ⟨h1,h2⟩:=numP_ok hw (hx _ (List.mem_singleton.2 rfl)) hd
   exact ⟨h1,by omega,fun e=>absurd e h5⟩
  ·cases hd
 split at hd
 ·rename_i hk
  have h5:o.Kind≠5:=by omega
  obtain ⟨h1,h2⟩:=listP_ok hw hx hd
  exact ⟨h1,h2,fun e=>absurd e h5⟩
 split at hd
 ·rename_i hk
  obtain ⟨h1,h2,h3⟩:=setP_ok hw hx (hs hk) hd
  exact ⟨h1,h2,fun _=>h3⟩
 split at hd
 ·rename_i hk
  have h5:o.Kind≠5:=by omega
  repeat' split at hd
  all_goals first | (cases hd; done) | skip
  all_goals simp only [Option.some.injEq,Prod.mk.injEq] at hd; obtain ⟨rfl,_⟩:=hd
  ·obtain ⟨_,hp,_⟩:=hw
   exact ⟨fun z hz=>by rw [List.mem_singleton] at hz; subst hz; exact kOk_i64 hp,by simp,fun e=>absurd e h5⟩
  ·exact ⟨fun z hz=>(by cases hz),by simp,fun e=>absurd e h5⟩
 ·cases hd
open Go Go.Ann Go.RowKit
structure Sp where
 done:List Nat
 st:List (List Int)
deriving DecidableEq
def opAt(P:List (List OpT))(d:List Nat)(k:Nat):Option OpT:=(P[k]?).bind fun p=>(d[k]?).bind fun n=>p[n]?
def mvP(P:List (List OpT))(obs:List Int)(s:Sp)(k:Nat):Option (Int × Sp):=match opAt P s.done k with
 | none=>none
 | some o=>match stepP (s.st.getD (obs.idxOf o.Object) []) o with
  | none=>none
  | some t=>some (o.ID,⟨s.done.set k (s.done.getD k 0+1),s.st.set (obs.idxOf o.Object) t⟩)
def mvsP(P:List (List OpT))(obs:List Int)(s:Sp):List (Int × Sp):=(List.range P.length).filterMap (mvP P obs s)
def endsP(P:List (List OpT))(d:List Nat):Bool:=(List.range P.length).all fun k=>((P.getD k []).drop (d.getD k 0)).all fun o=>!o.Done
def remP:List (List OpT)→List Nat→Nat
 | p::P,n::d=>(p.length - n)+remP P d
 | _,_=>0
theorem remP_set:∀ {P:List (List OpT)} {d:List Nat} {k:Nat} {o:OpT},opAt P d k=some o→remP P (d.set k (d.getD k 0+1))+1=remP P d
 | [],_,_,_,h=>by simp [opAt] at h
 | p::P,[],k,_,h=>by
  unfold opAt at h
  cases k <;> simp at h
 | p::P,n::d,0,o,h=>by
  unfold opAt at h
  simp only [List.getElem?_cons_zero,Option.bind_some] at h
  have:=(List.getElem?_eq_some_iff.1 h).choose
  simp only [List.set_cons_zero,List.getD_cons_zero,remP]
  omega
 | p::P,n::d,k+1,o,h=>by
  have:=remP_set (P:=P) (d:=d) (k:=k) (o:=o) (by unfold opAt at h ⊢; simpa using h)
  simp only [List.set_cons_succ,List.getD_cons_succ,remP]
  omega
theorem mvP_rem{P:List (List OpT)}{obs:List Int}{s:Sp}{k:Nat}{m:Int × Sp}(h:mvP P obs s k=some m):remP P m.2.done+1=remP P s.done:=by
 unfold mvP at h
 split at h
 ·cases h
 ·rename_i o ho
  split at h
  ·cases h
  ·cases h
   exact remP_set ho
theorem mv_count:∀ (P:List (List OpT)) (d:List Nat),((List.range P.length).filter fun k=>(opAt P d k).isSome).length≤remP P d
 | [],d=>by simp
 | p::P,[]=>by
  have:((List.range (p::P).length).filter fun k=>(opAt (p::P) [] k).isSome)=[]:=List.filter_eq_nil_iff.2 fun k _=>by
   unfold opAt
   cases (p::P)[k]? <;> simp
  rw [this]
  exact Nat.zero_le _
 | p::P,n::d=>by
  have ih:=mv_count P d
  rw [List.length_cons,List.range_succ_eq_map,List.filter_cons]
  have e:∀ k,opAt (p::P) (n::d) (k+1)=opAt P d k:=fun k=>by unfold opAt; simp
  have e0:opAt (p::P) (n::d) 0=p[n]?:=by unfold opAt; simp
  have e2:((List.range P.length).map Nat.succ).filter (fun k=>(opAt (p::P) (n::d) k).isSome)=((List.range P.length).filter fun k=>(opAt P d k).isSome).map Nat.succ:=by
   rw [List.filter_map]
   congr 1
  rw [e2,e0]
  simp only [remP]
  split
  ·rename_i h
   have:=(List.getElem?_eq_some_iff.1 (Option.eq_some_of_isSome h)).choose
   rw [List.length_cons,List.length_map]
   omega
  ·rw [List.length_map]
   omega
theorem filterMap_len{α β:Type}(f:α→Option β)(g:α→Bool)(h:∀ a b,f a=some b→g a=true):∀ l:List α,(l.filterMap f).length≤(l.filter g).length
 | []=>Nat.le_refl _
 | a::l=>by
  have ih:=filterMap_len f g h l
  rw [List.filterMap_cons,List.filter_cons]
  cases e:f a with
  | none =>
   simp only
   split
   ·rw [List.length_cons]; omega
   ·exact ih
  | some b =>
   simp only
   rw [if_pos (h a b e),List.length_cons,List.length_cons]
   omega
theorem mvs_len(P:List (List OpT))(obs:List Int)(s:Sp):(mvsP P obs s).length≤remP P s.done:=by
 refine Nat.le_trans (filterMap_len _ (fun k=>(opAt P s.done k).isSome) (fun k m h=>?_) _) (mv_count P s.done)
 unfold mvP at h
 split at h
 ·cases h
 ·rename_i o ho
  rw [ho]; rfl
theorem mvs_rem{P:List (List OpT)}{obs:List Int}{s:Sp}{m:Int × Sp}(h:m∈mvsP P obs s):remP P m.2.done+1=remP P s.done:=by
 obtain ⟨k,_,hk⟩:=List.mem_filterMap.1 h
 exact mvP_rem hk
def addW(L:List Sp)(s:Sp):List Sp:=if s∈L then L else L++[s]
def roundW(P:List (List OpT))(obs:List Int)(L:List Sp)(s:Sp):List Sp:=(mvsP P obs s).foldl (fun L m=>addW L m.2) L
inductive BfsR(P:List (List OpT))(obs:List Int)(most:Int):List Sp→Nat→List Sp→Prop
 | full {L:List Sp} {i:Nat} (h:most<L.length):BfsR P obs most L i L
 | last {L:List Sp} {i:Nat} (h:L.length≤i):BfsR P obs most L i L
 | go {L r:List Sp} {i:Nat} (h:i<L.length) (hm:¬ most<L.length) (k:BfsR P obs most (roundW P obs L L[i]) (i+1) r):BfsR P obs most L i r
theorem addAll:∀ (ms:List (Int × Sp)) (L:List Sp),∃ t,ms.foldl (fun L m=>addW L m.2) L=L++t∧t.length≤ms.length∧∀ x∈t,∃ m∈ms,x=m.2
 | [],L=>⟨[],by simp,by simp,fun x hx=>by cases hx⟩
 | m::ms,L=>by
  obtain ⟨t,h1,h2,h3⟩:=addAll ms (addW L m.2)
  obtain ⟨t1,h4,h5⟩:∃ t1,addW L m.2=L++t1∧t1.length≤1∧∀ x∈t1,x=m.2:=by
   unfold addW
   split
   ·exact ⟨[],by simp,by simp,fun x hx=>by cases hx⟩
   ·exact ⟨[m.2],rfl,by simp,fun x hx=>by simpa using hx⟩
  refine ⟨t1++t,?_,?_,fun x hx=>?_⟩
  ·rw [List.foldl_cons,h1,h4,List.append_assoc]
  ·rw [List.length_append,List.length_cons]; omega
  ·rcases List.mem_append.1 hx with hx | hx
   ·exact ⟨m,List.mem_cons_self,h5.2 x hx⟩
   ·obtain ⟨m',hm,e⟩:=h3 x hx
    exact ⟨m',List.mem_cons_of_mem _ hm,e⟩
theorem roundW_out(P:List (List OpT))(obs:List Int)(L:List Sp)(s:Sp):∃ t,roundW P obs L s=L++t∧t.length≤remP P s.done∧∀ x∈t,remP P x.done+1=remP P s.done:=by
 obtain ⟨t,h1,h2,h3⟩:=addAll (mvsP P obs s) L
 exact ⟨t,h1,Nat.le_trans h2 (mvs_len P obs s),fun x hx=>by
  obtain ⟨m,hm,rfl⟩:=h3 x hx
  exact mvs_rem hm⟩
def fanW:Nat→Nat
 | 0=>1
 | n+1=>1+(n+1) * fanW n
def weighW(P:List (List OpT))(L:List Sp):Nat:=(L.map fun s=>fanW (remP P s.done) - 1).sum
theorem fan_pos:∀ n,1≤fanW n
 | 0=>Nat.le_refl _
 | n+1=>by unfold fanW; omega
theorem weigh_same{P:List (List OpT)}{n:Nat}:∀ {t:List Sp},(∀ x∈t,remP P x.done=n)→t.length+weighW P t=t.length * fanW n
 | [],_=>by simp [weighW]
 | x::t,h=>by
  have ih:=weigh_same (t:=t) fun y hy=>h y (List.mem_cons_of_mem _ hy)
  have hx:=h x List.mem_cons_self
  have hf:=fan_pos n
  unfold weighW at ih ⊢
  rw [List.map_cons,List.sum_cons,List.length_cons,hx,Nat.add_mul]
  omega
theorem BfsR.bound{P:List (List OpT)}{obs:List Int}{most:Int}{L r:List Sp}{i:Nat}(h:BfsR P obs most L i r):r.length≤L.length+weighW P (L.drop i):=by
 induction h with
 | full=>omega
 | last=>omega
 | go h hm k ih =>
  rename_i L r i
  obtain ⟨t,h1,h2,h3⟩:=roundW_out P obs L L[i]
  rw [h1] at ih
  rw [List.drop_append_of_le_length (by omega),List.length_append] at ih
  rw [List.drop_eq_getElem_cons h]
  have hw:weighW P (L.drop (i+1)++t)=weighW P (L.drop (i+1))+weighW P t:=by unfold weighW; rw [List.map_append,List.sum_append]
  have hw2:weighW P (L[i]::L.drop (i+1))=(fanW (remP P L[i].done) - 1)+weighW P (L.drop (i+1)):=by unfold weighW; rw [List.map_cons,List.sum_cons]
  rw [hw] at ih
  rw [hw2]
  cases hr:remP P L[i].done with
  | zero =>
   rw [hr] at h2
   have:t=[]:=List.eq_nil_of_length_eq_zero (by omega)
   subst this
   simp only [List.length_nil,weighW,List.map_nil,List.sum_nil] at ih
   simp only [weighW] at ih ⊢
   omega
  | succ n =>
   rw [hr] at h2 h3
   have hs:=weigh_same (P:=P) (n:=n) (t:=t) fun x hx=>by have:=h3 x hx; omega
   have hm:t.length * fanW n≤(n+1) * fanW n:=Nat.mul_le_mul_right _ h2
   simp only [fanW]
   omega
theorem fan_six:fanW 6=1957:=by decide
theorem fan_mono:∀ {a b:Nat},a≤b→fanW a≤fanW b
 | a,b,h=>by
  induction b with
  | zero=>
   obtain rfl:a=0:=by omega
   exact Nat.le_refl _
  | succ b ih =>
   rcases Nat.lt_or_ge a (b+1) with h1 | h1
   ·refine Nat.le_trans (ih (by omega)) ?_
    rw [fanW]
    have:=Nat.le_mul_of_pos_left (fanW b) (show 0<b+1 by omega)
    omega
   ·obtain rfl:a=b+1:=by omega
    exact Nat.le_refl _
theorem BfsR.few{P:List (List OpT)}{obs:List Int}{most:Int}{s:Sp}{r:List Sp}(h:BfsR P obs most [s] 0 r)(hs:remP P s.done≤6):r.length≤1957:=by
 have h1:=h.bound
 have h2:=fan_mono hs
 rw [fan_six] at h2
 have:=fan_pos (remP P s.done)
 simp only [List.drop_zero,weighW,List.map_cons,List.map_nil,List.sum_cons,List.sum_nil,List.length_singleton] at h1
 omega
theorem BfsR.one{P:List (List OpT)}{obs:List Int}{most:Int}{L r r':List Sp}{i:Nat}(h:BfsR P obs most L i r)(k:BfsR P obs most L i r'):r=r':=by
 induction h with
 | full h =>
  cases k with
  | full=>rfl
  | last=>rfl
  | go _ hm=>exact absurd h hm
 | last h =>
  cases k with
  | full=>rfl
  | last=>rfl
  | go h'=>omega
 | go h hm _ ih =>
  cases k with
  | full h'=>exact absurd h' hm
  | last h'=>omega
  | go _ _ k'=>exact ih k'
open Go Go.Ann Go.RowKit
def lessP:List Int→List Int→Bool
 | [],b=>!b.isEmpty
 | _::_,[]=>false
 | x::a,y::b=>if x=y then lessP a b else decide (x<y)
theorem lessP_irr:∀ a:List Int,lessP a a=false
 | []=>rfl
 | x::a=>by rw [lessP,if_pos rfl]; exact lessP_irr a
theorem lessP_nil(b:List Int):lessP b []=false:=by cases b <;> rfl
theorem lessP_trans:∀ {a b c:List Int},lessP a b=true→lessP b c=true→lessP a c=true
 | [],b,[],h1,h2=>by rw [lessP_nil] at h2; cases h2
 | [],b,z::c,h1,h2=>rfl
 | x::a,[],c,h1,h2=>by cases h1
 | x::a,y::b,[],h1,h2=>by cases h2
 | x::a,y::b,z::c,h1,h2=>by
  rw [lessP] at h1 h2 ⊢
  by_cases e1:x=y
  ·subst e1
   rw [if_pos rfl] at h1
   by_cases e2:x=z
   ·subst e2
    rw [if_pos rfl] at h2 ⊢
    exact lessP_trans h1 h2
   ·rw [if_neg e2] at h2 ⊢
    exact h2
  ·rw [if_neg e1] at h1
   have h1':=of_decide_eq_true h1
   by_cases e2:y=z
   ·subst e2
    rw [if_neg e1]
    exact h1
   ·rw [if_neg e2] at h2
    have h2':=of_decide_eq_true h2
    rw [if_neg (by omega)]
    exact decide_eq_true (by omega)
theorem lessP_tri:∀ {a b:List Int},lessP a b=false→lessP b a=false→a=b
 | [],[],_,_=>rfl
 | [],y::b,h1,_=>by cases h1
 | x::a,[],_,h2=>by cases h2
 | x::a,y::b,h1,h2=>by
  rw [lessP] at h1 h2
  by_cases e:x=y
  ·subst e
   rw [if_pos rfl] at h1 h2
   rw [lessP_tri h1 h2]
  ·rw [if_neg e] at h1
   rw [if_neg (fun h=>e h.symm)] at h2
   have h1':=of_decide_eq_false h1
   have h2':=of_decide_eq_false h2
   omega
theorem lessP_asym{a b:List Int}(h:lessP a b=true):lessP b a=false:=by
 cases e:lessP b a
 ·rfl
 ·have:=lessP_trans h e
  rw [lessP_irr] at this
  cases this
theorem lessP_app(p:List Int){a b:List Int}:lessP (p++a) (p++b)=lessP a b:=by
 induction p with
 | nil=>rfl
 | cons x p ih=>rw [List.cons_append,List.cons_append,lessP,if_pos rfl,ih]
def lesser:Option (List Int)→Option (List Int)→Option (List Int)
 | none,b=>b
 | some a,none=>some a
 | some a,some b=>if lessP b a then some b else some a
theorem lesser_none(a:Option (List Int)):lesser a none=a:=by cases a <;> rfl
theorem lesser_assoc(a b c:Option (List Int)):lesser (lesser a b) c=lesser a (lesser b c):=by
 cases a with
 | none=>rfl
 | some a =>
  cases b with
  | none=>rfl
  | some b =>
   cases c with
   | none=>rw [lesser_none,lesser_none]
   | some c =>
    simp only [lesser]
    cases e1:lessP b a
    ·simp only [Bool.false_eq_true,if_false]
     cases e2:lessP c b
     ·simp only [Bool.false_eq_true,if_false,lesser,e1]
      cases e3:lessP c a
      ·rfl
      ·exfalso
       cases e4:lessP a b
       ·have:=lessP_tri e4 e1
        subst this
        rw [e2] at e3
        cases e3
       ·have:=lessP_trans e3 e4
        rw [e2] at this
        cases this
     ·simp only [if_true,lesser]
    ·simp only [if_true]
     cases e2:lessP c b
     ·simp only [lesser,e2,Bool.false_eq_true,if_false,e1,if_true]
     ·simp only [lesser,e2,if_true]
      rw [lessP_trans e2 e1]
      rfl
def bestM(P:List (List OpT))(obs:List Int):Nat→Sp→Option (List Int)
 | 0,s=>if endsP P s.done then some [] else none
 | n+1,s=>if endsP P s.done then some [] else ((mvsP P obs s).map fun m=>(bestM P obs n m.2).map (m.1::·)).foldl lesser none
theorem foldl_lesser:∀ (l:List (Option (List Int))) (a b:Option (List Int)),l.foldl lesser (lesser a b)=lesser a (l.foldl lesser b)
 | [],a,b=>rfl
 | x::l,a,b=>by rw [List.foldl_cons,List.foldl_cons,lesser_assoc,foldl_lesser l]
inductive PathR(P:List (List OpT))(obs:List Int):Sp→List Int→Prop
 | nil {s:Sp} (h:endsP P s.done=true):PathR P obs s []
 | cons {s:Sp} {m:Int × Sp} {ids:List Int} (h:m∈mvsP P obs s) (k:PathR P obs m.2 ids):PathR P obs s (m.1::ids)
theorem lesser_some{a b:Option (List Int)}{x:List Int}(h:lesser a b=some x):a=some x∨b=some x:=by
 cases a with
 | none=>exact .inr h
 | some a =>
  cases b with
  | none=>exact .inl h
  | some b =>
   simp only [lesser] at h
   split at h
   ·exact .inr h
   ·exact .inl h
theorem lesser_le{a b:Option (List Int)}{x:List Int}(h:lesser a b=some x):(∀ y,a=some y→lessP y x=false)∧∀ y,b=some y→lessP y x=false:=by
 cases a with
 | none =>
  have h':b=some x:=h
  subst h'
  refine ⟨fun y hy=>(by cases hy),fun y hy=>?_⟩
  cases hy
  exact lessP_irr _
 | some a =>
  cases b with
  | none =>
   cases h
   refine ⟨fun y hy=>?_,fun y hy=>(by cases hy)⟩
   cases hy
   exact lessP_irr _
  | some b =>
   simp only [lesser] at h
   split at h
   ·rename_i e
    cases h
    refine ⟨fun y hy=>?_,fun y hy=>?_⟩
    ·cases hy; exact lessP_asym e
    ·cases hy; exact lessP_irr _
   ·rename_i e
    cases h
    refine ⟨fun y hy=>?_,fun y hy=>?_⟩
    ·cases hy; exact lessP_irr _
    ·cases hy; simpa using e
theorem less_le_trans{a b c:List Int}(h:lessP b a=false)(k:lessP c b=false):lessP c a=false:=by
 cases e:lessP c a
 ·rfl
 ·cases e2:lessP a b
  ·have:=lessP_tri e2 h
   subst this
   rw [k] at e
   cases e
  ·have:=lessP_trans e e2
   rw [k] at this
   cases this
theorem fold_lesser':∀ (l:List (Option (List Int))) (b:Option (List Int)),(∀ x,l.foldl lesser b=some x→(b=some x∨some x∈l)∧(∀ y,b=some y→lessP y x=false)∧∀ y,some y∈l→lessP y x=false)∧(l.foldl lesser b=none→b=none∧∀ y,some y ∉ l)
 | [],b=>by
  refine ⟨fun x h=>⟨.inl h,fun y hy=>?_,fun y hy=>?_⟩,fun h=>⟨h,fun y hy=>?_⟩⟩
  ·have h':b=some x:=h
   rw [h'] at hy
   cases hy
   exact lessP_irr _
  ·cases hy
  ·cases hy
 | a::l,b=>by
  obtain ⟨f1,f2⟩:=fold_lesser' l (lesser b a)
  rw [List.foldl_cons]
  refine ⟨fun x h=>?_,fun h=>?_⟩
  ·obtain ⟨g1,g2,g3⟩:=f1 x h
   have key:∀ {y},b=some y∨a=some y→lessP y x=false:=fun {y} hy=>by
    cases e:lesser b a with
    | none =>
     exfalso
     cases b with
     | none =>
      have e':a=none:=e
      rcases hy with hy | hy
      ·cases hy
      ·rw [e'] at hy; cases hy
     | some b =>
      cases a with
      | none=>cases e
      | some a=>simp only [lesser] at e; split at e <;> cases e
    | some z =>
     obtain ⟨k1,k2⟩:=lesser_le e
     refine less_le_trans (g2 z e) ?_
     rcases hy with hy | hy
     ·exact k1 y hy
     ·exact k2 y hy
   refine ⟨?_,fun y hy=>key (.inl hy),fun y hy=>?_⟩
   ·rcases g1 with g1 | g1
    ·rcases lesser_some g1 with h1 | h1
     ·exact .inl h1
     ·exact .inr (by rw [h1]; exact List.mem_cons_self)
    ·exact .inr (List.mem_cons_of_mem _ g1)
   ·rcases List.mem_cons.1 hy with hy | hy
    ·exact key (.inr hy.symm)
    ·exact g3 y hy
  ·obtain ⟨g1,g2⟩:=f2 h
   have hb:b=none∧a=none:=by
    cases b with
    | none=>exact ⟨rfl,g1⟩
    | some b =>
     cases a with
     | none=>cases g1
     | some a=>simp only [lesser] at g1; split at g1 <;> cases g1
   refine ⟨hb.1,fun y hy=>?_⟩
   rcases List.mem_cons.1 hy with hy | hy
   ·rw [hb.2] at hy; cases hy
   ·exact g2 y hy
theorem fold_lesser{l:List (Option (List Int))}:(∀ x,l.foldl lesser none=some x→some x∈l∧∀ y,some y∈l→lessP y x=false)∧(l.foldl lesser none=none→∀ y,some y ∉ l):=by
 obtain ⟨f1,f2⟩:=fold_lesser' l none
 refine ⟨fun x h=>?_,fun h=>(f2 h).2⟩
 obtain ⟨g1,_,g3⟩:=f1 x h
 exact ⟨g1.resolve_left (fun h=>by cases h),g3⟩
theorem best_path{P:List (List OpT)}{obs:List Int}:∀ {n:Nat} {s:Sp},remP P s.done≤n→(∀ x,bestM P obs n s=some x→PathR P obs s x∧∀ y,PathR P obs s y→lessP y x=false)∧(bestM P obs n s=none→∀ y,¬ PathR P obs s y)
 | n,s,hn=>by
  by_cases he:endsP P s.done=true
  ·have e:bestM P obs n s=some []:=by cases n <;> rw [bestM,if_pos he]
   rw [e]
   refine ⟨fun x h=>?_,fun h=>(by cases h)⟩
   cases h
   exact ⟨.nil he,fun y _=>lessP_nil y⟩
  ·cases n with
   | zero =>
    rw [bestM,if_neg he]
    refine ⟨fun x h=>(by cases h),fun _ y h=>?_⟩
    cases h with
    | nil h=>exact he h
    | cons h k=>have:=mvs_rem h; omega
   | succ n =>
    rw [bestM,if_neg he]
    obtain ⟨f1,f2⟩:=fold_lesser (l:=(mvsP P obs s).map fun m=>(bestM P obs n m.2).map (m.1::·))
    have ih:∀ m∈mvsP P obs s,_:=fun m hm=>best_path (P:=P) (obs:=obs) (n:=n) (s:=m.2) (by have:=mvs_rem hm; omega)
    refine ⟨fun x h=>?_,fun h y hy=>?_⟩
    ·obtain ⟨g1,g2⟩:=f1 x h
     obtain ⟨m,hm,e⟩:=List.mem_map.1 g1
     obtain ⟨z,hz,rfl⟩:=Option.map_eq_some_iff.1 e
     refine ⟨.cons hm ((ih m hm).1 z hz).1,fun y hy=>?_⟩
     cases hy with
     | nil h=>exact absurd h he
     | cons hm' k =>
      rename_i m' ids
      cases e':bestM P obs n m'.2 with
      | none=>exact absurd k ((ih m' hm').2 e' ids)
      | some z' =>
       have h1:=((ih m' hm').1 z' e').2 ids k
       have h2:=g2 (m'.1::z') (List.mem_map.2 ⟨m',hm',by rw [e']; rfl⟩)
       cases e3:lessP (m'.1::ids) (m.1::z)
       ·rfl
       ·exfalso
        cases e4:lessP (m.1::z) (m'.1::z')
        ·have e5:=lessP_tri h2 e4
         rw [← e5,lessP,if_pos rfl,h1] at e3
         cases e3
        ·have e5:=lessP_trans e3 e4
         rw [lessP,if_pos rfl,h1] at e5
         cases e5
    ·cases hy with
     | nil h=>exact he h
     | cons hm' k =>
      rename_i m' ids
      cases e':bestM P obs n m'.2 with
      | none=>exact (ih m' hm').2 e' ids k
      | some z'=>exact f2 h (m'.1::z') (List.mem_map.2 ⟨m',hm',by rw [e']; rfl⟩)
open Go Go.Ann Go.RowKit
theorem best_ends{P:List (List OpT)}{obs:List Int}{n:Nat}{s:Sp}(h:endsP P s.done=true):bestM P obs n s=some []:=by cases n <;> rw [bestM,if_pos h]
theorem best_fuel{P:List (List OpT)}{obs:List Int}:∀ {n m:Nat} {s:Sp},remP P s.done≤n→remP P s.done≤m→bestM P obs n s=bestM P obs m s
 | n,m,s,hn,hm=>by
  by_cases he:endsP P s.done=true
  ·rw [best_ends he,best_ends he]
  ·have nomv:remP P s.done=0→mvsP P obs s=[]:=fun h=>List.eq_nil_of_length_eq_zero (by have:=mvs_len P obs s; omega)
   cases n with
   | zero =>
    have h0:=nomv (by omega)
    cases m with
    | zero=>rfl
    | succ m=>rw [bestM,bestM,if_neg he,if_neg he,h0]; rfl
   | succ n =>
    cases m with
    | zero=>rw [bestM,bestM,if_neg he,if_neg he,nomv (by omega)]; rfl
    | succ m =>
     rw [bestM,bestM,if_neg he,if_neg he]
     congr 1
     refine List.map_congr_left fun x hx=>?_
     have:=mvs_rem hx
     rw [best_fuel (n:=n) (m:=m) (by omega) (by omega)]
def bestS(P:List (List OpT))(obs:List Int)(s:Sp):Option (List Int):=bestM P obs (remP P s.done) s
theorem bestS_eq{P:List (List OpT)}{obs:List Int}{n:Nat}{s:Sp}(h:remP P s.done≤n):bestM P obs n s=bestS P obs s:=best_fuel h (Nat.le_refl _)
theorem bestS_ends{P:List (List OpT)}{obs:List Int}{s:Sp}(h:endsP P s.done=true):bestS P obs s=some []:=best_ends h
theorem bestS_step{P:List (List OpT)}{obs:List Int}{s:Sp}(h:¬ endsP P s.done=true):bestS P obs s=((mvsP P obs s).map fun m=>(bestS P obs m.2).map (m.1::·)).foldl lesser none:=by
 rw [← bestS_eq (Nat.le_succ (remP P s.done)),bestM,if_neg h]
 congr 1
 refine List.map_congr_left fun x hx=>?_
 have:=mvs_rem hx
 rw [bestS_eq (by omega)]
theorem good_step{P:List (List OpT)}{obs:List Int}{s:Sp}:(bestS P obs s).isSome=(endsP P s.done || (mvsP P obs s).any fun m=>(bestS P obs m.2).isSome):=by
 by_cases he:endsP P s.done=true
 ·rw [bestS_ends he,he]; rfl
 ·rw [bestS_step he]
  obtain ⟨f1,f2⟩:=fold_lesser (l:=(mvsP P obs s).map fun m=>(bestS P obs m.2).map (m.1::·))
  have he':endsP P s.done=false:=by simpa using he
  rw [he',Bool.false_or]
  cases e:((mvsP P obs s).map fun m=>(bestS P obs m.2).map (m.1::·)).foldl lesser none with
  | none =>
   refine (List.any_eq_false.2 fun m hm h=>?_).symm
   obtain ⟨z,hz⟩:=Option.isSome_iff_exists.1 h
   exact f2 e (m.1::z) (List.mem_map.2 ⟨m,hm,by rw [hz]; rfl⟩)
  | some x =>
   obtain ⟨g1,_⟩:=f1 x e
   obtain ⟨m,hm,h⟩:=List.mem_map.1 g1
   obtain ⟨z,hz,_⟩:=Option.map_eq_some_iff.1 h
   exact (List.any_eq_true.2 ⟨m,hm,by rw [hz]; rfl⟩).symm
theorem best_first{P:List (List OpT)}{obs:List Int}{s:Sp}{y:List Int}(he:¬ endsP P s.done=true)(h:bestS P obs s=some y):∃ m∈mvsP P obs s,∃ z,y=m.1::z∧bestS P obs m.2=some z∧∀ m'∈mvsP P obs s,(bestS P obs m'.2).isSome=true→m.1≤m'.1:=by
 rw [bestS_step he] at h
 obtain ⟨g1,g2⟩:=(fold_lesser (l:=(mvsP P obs s).map fun m=>(bestS P obs m.2).map (m.1::·))).1 y h
 obtain ⟨m,hm,h1⟩:=List.mem_map.1 g1
 obtain ⟨z,hz,rfl⟩:=Option.map_eq_some_iff.1 h1
 refine ⟨m,hm,z,rfl,hz,fun m' hm' hs=>?_⟩
 obtain ⟨z',hz'⟩:=Option.isSome_iff_exists.1 hs
 have:=g2 (m'.1::z') (List.mem_map.2 ⟨m',hm',by rw [hz']; rfl⟩)
 rw [lessP] at this
 by_cases e:m'.1=m.1
 ·omega
 ·rw [if_neg e] at this
  have:=of_decide_eq_false this
  omega
def leastD(P:List (List OpT))(obs:List Int):Nat→Sp→List Int→Option (List Int)→Option (List Int)
 | 0,s,ids,best=>if endsP P s.done then lesser best (some ids) else best
 | n+1,s,ids,best=>(mvsP P obs s).foldl (fun b m=>leastD P obs n m.2 (ids++[m.1]) b) (if endsP P s.done then lesser best (some ids) else best)
theorem lesser_map{f:List Int→List Int}(hf:∀ a b,lessP (f a) (f b)=lessP a b)(a b:Option (List Int)):lesser (a.map f) (b.map f)=(lesser a b).map f:=by
 cases a with
 | none=>rfl
 | some a =>
  cases b with
  | none=>rfl
  | some b =>
   simp only [Option.map_some,lesser,hf]
   split <;> rfl
theorem fold_map_lesser{f:List Int→List Int}(hf:∀ a b,lessP (f a) (f b)=lessP a b):∀ (l:List (Option (List Int))) (b:Option (List Int)),(l.map (Option.map f)).foldl lesser (b.map f)=(l.foldl lesser b).map f
 | [],b=>rfl
 | a::l,b=>by rw [List.map_cons,List.foldl_cons,List.foldl_cons,lesser_map hf,fold_map_lesser hf l]
theorem lesser_pre{best:Option (List Int)}{ids x:List Int}(h:lessP x ids=false):lesser (lesser best (some ids)) (some x)=lesser best (some ids):=by
 have:lesser (some ids) (some x)=some ids:=by simp only [lesser,h]; rfl
 rw [lesser_assoc,this]
theorem leastD_eq{P:List (List OpT)}{obs:List Int}:∀ {n:Nat} {s:Sp} {ids:List Int} {best:Option (List Int)},remP P s.done≤n→leastD P obs n s ids best=lesser best ((bestS P obs s).map (ids++·))
 | n,s,ids,best,hn=>by
  by_cases he:endsP P s.done=true
  ·rw [bestS_ends he]
   simp only [Option.map_some,List.append_nil]
   cases n with
   | zero=>rw [leastD,if_pos he]
   | succ n =>
    rw [leastD,if_pos he]
    have key:∀ l:List (Int × Sp),(∀ m∈l,m∈mvsP P obs s)→l.foldl (fun b m=>leastD P obs n m.2 (ids++[m.1]) b) (lesser best (some ids))=lesser best (some ids):=by
     intro l
     induction l with
     | nil=>exact fun _=>rfl
     | cons m l ih =>
      intro hl
      have:=mvs_rem (hl m List.mem_cons_self)
      rw [List.foldl_cons,leastD_eq (by omega)]
      have e:lesser (lesser best (some ids)) ((bestS P obs m.2).map (ids++[m.1]++·))=lesser best (some ids):=by
       cases bestS P obs m.2 with
       | none=>rw [Option.map_none,lesser_none]
       | some z =>
        refine lesser_pre ?_
        have:ids++[m.1]++z=ids++(m.1::z):=by simp
        show lessP (ids++[m.1]++z) ids=false
        rw [this]
        have e2:=lessP_app ids (a:=m.1::z) (b:=[])
        rw [List.append_nil] at e2
        rw [e2]
        rfl
      rw [e]
      exact ih fun m' h=>hl m' (List.mem_cons_of_mem _ h)
    exact key _ fun m h=>h
  ·have nomv:remP P s.done=0→mvsP P obs s=[]:=fun h=>List.eq_nil_of_length_eq_zero (by have:=mvs_len P obs s; omega)
   rw [bestS_step he]
   cases n with
   | zero=>rw [leastD,if_neg he,nomv (by omega)]; exact (lesser_none _).symm
   | succ n =>
    rw [leastD,if_neg he]
    have key:∀ (l:List (Int × Sp)) (b:Option (List Int)),(∀ m∈l,m∈mvsP P obs s)→l.foldl (fun b m=>leastD P obs n m.2 (ids++[m.1]) b) b=lesser b ((l.map fun m=>((bestS P obs m.2).map (m.1::·)).map (ids++·)).foldl lesser none):=by
     intro l
     induction l with
     | nil=>exact fun b _=>(lesser_none b).symm
     | cons m l ih =>
      intro b hl
      have:=mvs_rem (hl m List.mem_cons_self)
      rw [List.foldl_cons,leastD_eq (by omega),ih _ fun m' h=>hl m' (List.mem_cons_of_mem _ h),List.map_cons,List.foldl_cons,lesser_assoc]
      congr 1
      have e:((bestS P obs m.2).map (m.1::·)).map (ids++·)=(bestS P obs m.2).map (ids++[m.1]++·):=by
       cases bestS P obs m.2 <;> simp
      rw [e]
      exact (foldl_lesser _ _ none).symm.trans (by rw [lesser_none]; rfl)
    rw [key _ _ fun m h=>h]
    congr 1
    have:=fold_map_lesser (f:=(ids++·)) (fun a b=>lessP_app ids) ((mvsP P obs s).map fun m=>(bestS P obs m.2).map (m.1::·)) none
    rw [List.map_map] at this
    exact this
open Go Go.Ann Go.RowKit
def isOp(P:List (List OpT))(d:List Nat)(id:Int)(k:Nat):Bool:=match opAt P d k with
 | some o=>decide (o.ID=id)
 | none=>false
def kOf(P:List (List OpT))(d:List Nat)(id:Int):Option Nat:=(List.range P.length).find? (isOp P d id)
def validP(P:List (List OpT))(obs:List Int):Sp→List Int→Bool
 | s,[]=>endsP P s.done
 | s,id::r=>match kOf P s.done id with
  | none=>false
  | some k=>match mvP P obs s k with
   | none=>false
   | some m=>validP P obs m.2 r
theorem mvP_op{P:List (List OpT)}{obs:List Int}{s:Sp}{k:Nat}{m:Int × Sp}(h:mvP P obs s k=some m):∃ o,opAt P s.done k=some o∧m.1=o.ID:=by
 unfold mvP at h
 split at h
 ·cases h
 ·rename_i o ho
  split at h
  ·cases h
  ·cases h
   exact ⟨o,ho,rfl⟩
theorem opAt_lt{P:List (List OpT)}{d:List Nat}{k:Nat}{o:OpT}(h:opAt P d k=some o):k<P.length:=by
 unfold opAt at h
 cases e:P[k]? with
 | none=>rw [e] at h; cases h
 | some p=>exact (List.getElem?_eq_some_iff.1 e).choose
theorem kOf_some{P:List (List OpT)}{d:List Nat}{id:Int}{k:Nat}(h:kOf P d id=some k):∃ o,opAt P d k=some o∧o.ID=id:=by
 have:=List.find?_some h
 unfold isOp at this
 split at this
 ·rename_i o ho
  exact ⟨o,ho,by simpa using this⟩
 ·cases this
theorem kOf_of{P:List (List OpT)}{d:List Nat}{k:Nat}{o:OpT}(hd:∀ k k' o o',opAt P d k=some o→opAt P d k'=some o'→o.ID=o'.ID→k=k')(h:opAt P d k=some o):kOf P d o.ID=some k:=by
 cases e:kOf P d o.ID with
 | none =>
  have:=List.find?_eq_none.1 e k (List.mem_range.2 (opAt_lt h))
  unfold isOp at this
  rw [h] at this
  simp at this
 | some k' =>
  obtain ⟨o',h1,h2⟩:=kOf_some e
  rw [hd k' k o' o h1 h h2]
theorem validP_path{P:List (List OpT)}{obs:List Int}(hd:∀ d k k' o o',opAt P d k=some o→opAt P d k'=some o'→o.ID=o'.ID→k=k'):∀ {ids:List Int} {s:Sp},validP P obs s ids=true↔PathR P obs s ids
 | [],s=>by
  rw [validP]
  exact ⟨fun h=>.nil h,fun h=>by cases h; assumption⟩
 | id::r,s=>by
  rw [validP]
  constructor
  ·intro h
   split at h
   ·cases h
   ·rename_i k hk
    split at h
    ·cases h
    ·rename_i m hm
     obtain ⟨o,h1,h2⟩:=mvP_op hm
     obtain ⟨o',h3,h4⟩:=kOf_some hk
     rw [h1] at h3
     cases h3
     have e:id=m.1:=by rw [h2,h4]
     rw [e]
     exact .cons (List.mem_filterMap.2 ⟨k,List.mem_range.2 (opAt_lt h1),hm⟩) ((validP_path hd).1 h)
  ·intro h
   cases h with
   | cons hm k =>
    rename_i m
    obtain ⟨i,hi,hmi⟩:=List.mem_filterMap.1 hm
    obtain ⟨o,h1,h2⟩:=mvP_op hmi
    have e:=kOf_of (hd s.done) h1
    rw [h2,e]
    simp only [hmi]
    exact (validP_path hd).2 k
theorem bestS_valid{P:List (List OpT)}{obs:List Int}(hd:∀ d k k' o o',opAt P d k=some o→opAt P d k'=some o'→o.ID=o'.ID→k=k'){s:Sp}:(∀ x,bestS P obs s=some x→validP P obs s x=true∧∀ y,validP P obs s y=true→lessP y x=false)∧(bestS P obs s=none→∀ y,validP P obs s y=false):=by
 obtain ⟨h1,h2⟩:=best_path (P:=P) (obs:=obs) (n:=remP P s.done) (s:=s) (Nat.le_refl _)
 refine ⟨fun x hx=>⟨(validP_path hd).2 (h1 x hx).1,fun y hy=>(h1 x hx).2 y ((validP_path hd).1 hy)⟩,fun hx y=>?_⟩
 cases e:validP P obs s y
 ·rfl
 ·exact absurd ((validP_path hd).1 e) (h2 hx y)
open Go Go.Ann Go.RowKit
theorem txt_cut{l m:List Int}{a b:List UInt8}(hl:OkS l)(hm:OkS m)(h:txt l++a=txt m++b):l=m∧a=b:=by
 unfold txt at h
 rw [List.append_assoc,List.append_assoc] at h
 have h1:=hl.2
 have h2:=hm.2
 obtain ⟨hlen,k⟩:=varL_cut (by omega) (by omega) h
 have hl':=hl.1
 have hm':=hm.1
 clear h h1 h2 hl hm
 induction l generalizing m with
 | nil =>
  simp at hlen
  obtain rfl:=List.eq_nil_of_length_eq_zero hlen.symm
  exact ⟨rfl,k⟩
 | cons x l ih =>
  cases m with
  | nil=>simp at hlen
  | cons y m =>
   rw [List.flatMap_cons,List.flatMap_cons,List.append_assoc,List.append_assoc] at k
   obtain ⟨e,r⟩:=varL_cut (foldN_lt _ (hl' x (by simp))) (foldN_lt _ (hm' y (by simp))) k
   obtain ⟨e2,r2⟩:=ih (by simpa using hlen) r (fun n hn=>hl' n (List.mem_cons_of_mem _ hn)) fun n hn=>hm' n (List.mem_cons_of_mem _ hn)
   exact ⟨by rw [foldN_inj e,e2],r2⟩
theorem txts_inj:∀ {a b:List (List Int)},(∀ x∈a,OkS x)→(∀ x∈b,OkS x)→a.length=b.length→a.flatMap txt=b.flatMap txt→a=b
 | [],[],_,_,_,_=>rfl
 | [],_::_,_,_,h,_=>by simp at h
 | _::_,[],_,_,h,_=>by simp at h
 | x::a,y::b,ha,hb,hl,h=>by
  rw [List.flatMap_cons,List.flatMap_cons] at h
  obtain ⟨e,r⟩:=txt_cut (ha x (by simp)) (hb y (by simp)) h
  rw [e,txts_inj (fun z hz=>ha z (List.mem_cons_of_mem _ hz)) (fun z hz=>hb z (List.mem_cons_of_mem _ hz)) (by simpa using hl) r]
def spT(s:Sp):List UInt8:=s.done.map u8++s.st.flatMap txt
structure OkSp(p q:Nat)(s:Sp):Prop where
 dl:s.done.length=p
 sl:s.st.length=q
 small:∀ n∈s.done,n<256
 ok:∀ x∈s.st,OkS x
theorem u8_inj:∀ {a b:List Nat},(∀ n∈a,n<256)→(∀ n∈b,n<256)→a.map u8=b.map u8→a=b
 | [],[],_,_,_=>rfl
 | [],_::_,_,_,h=>by simp at h
 | _::_,[],_,_,h=>by simp at h
 | x::a,y::b,ha,hb,h=>by
  rw [List.map_cons,List.map_cons,List.cons.injEq] at h
  have e:=congrArg UInt8.toNat h.1
  have:=ha x (by simp)
  have:=hb y (by simp)
  simp [u8] at e
  rw [u8_inj (fun z hz=>ha z (List.mem_cons_of_mem _ hz)) (fun z hz=>hb z (List.mem_cons_of_mem _ hz)) h.2]
  congr 1
  omega
theorem spT_inj{p q:Nat}{a b:Sp}(ha:OkSp p q a)(hb:OkSp p q b)(h:spT a=spT b):a=b:=by
 unfold spT at h
 have hl:(a.done.map u8).length=(b.done.map u8).length:=by rw [List.length_map,List.length_map,ha.dl,hb.dl]
 obtain ⟨h1,h2⟩:=List.append_inj h hl
 have e1:=u8_inj ha.small hb.small h1
 have e2:=txts_inj ha.ok hb.ok (by rw [ha.sl,hb.sl]) h2
 cases a
 cases b
 simp only at e1 e2
 rw [e1,e2]
open Go Go.Ann Go.RowKit
theorem getD_set_ne{α:Type}{l:List α}{i j:Nat}{a d:α}(h:i≠j):(l.set i a).getD j d=l.getD j d:=by
 rw [List.getD_eq_getElem?_getD,List.getD_eq_getElem?_getD,List.getElem?_set_ne h]
theorem getD_set_eq{α:Type}{l:List α}{i:Nat}{a d:α}(h:i<l.length):(l.set i a).getD i d=a:=by
 rw [List.getD_eq_getElem?_getD,List.getElem?_set_self h]
 rfl
open Go Go.Ann Go.RowKit
theorem own_mono{w:World}{B B' e sz n:Nat}{v:Value}{xs:List Value}(h:w.ownsRow B e sz v n xs)(hb:B'≤B):w.ownsRow B' e sz v n xs:=by
 refine ⟨h.1,?_⟩
 rcases h.2 with h | ⟨g,c,cur,e1,hg,h2⟩
 ·exact .inl h
 ·exact .inr ⟨g,c,cur,e1,Nat.le_trans hb hg,h2⟩
def Inv.vs(D:List VS):Inv:=⟨fun w=>∀ p∈D,RdS w 1 intE p.1 p.2,fun k=>∃ p∈D,slFoot p.1 k,fun w w' h hk p hp=>RdS.loc (h p hp) fun k hf=>hk k ⟨p,hp,hf⟩⟩
abbrev PS:=Value × Nat × List Int
open Go Go.Ann Go.RowKit
abbrev VSpot:=Value × Spot
def ps(q:VSpot):PS:=(q.1,maskN q.2.1,q.2.2)
open Go Go.Ann Go.RowKit
theorem own_ptr{w:World}{B e sz n m c:Nat}{a:Option Addr}{xs:List Value}(h:w.ownsRow B e sz (.slice a n c) m xs)(h0:0<m):∃ g,a=some ⟨g,0,none⟩:=by
 rcases h.2 with ⟨_,h1⟩ | ⟨g,cap,cur,e,_⟩
 ·omega
 ·simp only [Value.slice.injEq] at e
  exact ⟨g,e.1⟩
def SearchV(w':World)(l:List OpT)(E:List (List Int))(U0:List (List Int))(r:Option (List Spot))(u:Value):Prop :=
 match r with
 | none=>u=.tuple #[.agg #[.slice none 0 0,.slice none 0 0,.int .i64 0],.int .i64 35]
 | some T=>∃ uv xv U X,u=.tuple #[.agg #[uv,xv,.int .i64 T.length],.int .i64 0]∧RowS w' uv U∧U.map Prod.snd=U0∧RowS w' xv X∧Uniq ((T.filter fun p=>fullP l p.1).map Prod.snd) (X.map Prod.snd)
theorem nodup_le{α:Type}[DecidableEq α]:∀ {u l:List α},u.Nodup→(∀ x∈u,x∈l)→u.length≤l.length
 | [],l,_,_=>by simp
 | x::u,l,hn,h=>by
  obtain ⟨h1,h2⟩:=List.nodup_cons.1 hn
  have hx:=h x (List.mem_cons_self ..)
  have:=nodup_le (l:=l.erase x) h2 fun y hy=>(List.mem_erase_of_ne (fun e=>h1 (by rw [← e]; exact hy))).2 (h y (List.mem_cons_of_mem _ hy))
  rw [List.length_erase_of_mem hx] at this
  have hp:0<l.length:=List.length_pos_of_mem hx
  rw [List.length_cons]; omega
open Go Go.Ann Go.RowKit
def strE(l:List UInt8):Value:=.string (ofL l)
theorem keyT_s:KeyT Tryz.prog 9 strE .string:=keyT_str Tryz.underlying9
theorem own_cell{w:World}{B0 e sz n m c g:Nat}{xs:List Value}(h:w.ownsRow B0 e sz (.slice (some ⟨g,0,none⟩) n c) m xs):(∀ j u,xs[j]?=some u→w.cell? ⟨g,j,none⟩=some u)∧∀ j,w.frozen? ⟨g,j,none⟩=false:=by
 rcases h.2 with ⟨e,_⟩ | ⟨g',c',cur,e,hg,hb,_,_,_,ht⟩
 ·cases e
 ·simp only [Value.slice.injEq,Option.some.injEq,Addr.mk.injEq] at e
  obtain ⟨⟨rfl,_⟩,_⟩:=e
  have hB:Blk w g cur e:=hb
  refine ⟨fun j u hu=>?_,hB.frozen⟩
  rw [hB.cell,← Array.getElem?_toList]
  rw [← ht,List.getElem?_take] at hu
  split at hu
  ·exact hu
  ·cases hu
open Go Go.Ann Go.RowKit Go.WideShapes
structure Seg where
 obj:Int
 kind:Int
 ops:List OpT
open Go Go.Ann Go.RowKit
def Tells(u:Value)(p:Prop):Prop:=∃ b,u=.bool b∧(b=true→p)
open Go Go.Ann Go.RowKit
theorem RowS.ones{w:World}{v:Value}{D:List VS}(h:RowS w v D):∀ u∈D.map Prod.fst,u.oneCell'=true:=fun u hu=>by
 obtain ⟨p,hp,rfl⟩:=List.mem_map.1 hu
 obtain ⟨a,c,e,_⟩:=(h.rd p hp).form
 rw [e]; rfl
theorem SearchV.form{w':World}{l:List OpT}{E U0:List (List Int)}{r:Option (List Spot)}{u:Value}(h:SearchV w' l E U0 r u):∃ ya yn yc xa xn xc nn ue,u=.tuple #[.agg #[.slice ya yn yc,.slice xa xn xc,.int .i64 nn],.int .i64 ue]∧(ue=if r.isSome then 0 else 35):=by
 cases r with
 | none=>exact ⟨_,_,_,_,_,_,_,_,h,rfl⟩
 | some T =>
  obtain ⟨_,_,_,_,e,g1,_,g2,_⟩:=h
  obtain ⟨_,_,rfl,_⟩:=g1.form
  obtain ⟨_,_,rfl,_⟩:=g2.form
  exact ⟨_,_,_,_,_,_,_,_,e,rfl⟩
open Go Go.Ann Go.RowKit
section
variable {α:Type} (key:α→Int)
def Ordd(l:List α):Prop:=l.Pairwise fun a b=>key a≤key b
variable {key}
theorem Ordd.app{a b:List α}(ha:Ordd key a)(hb:Ordd key b)(h:∀ x∈a,∀ y∈b,key x≤key y):Ordd key (a++b):=List.pairwise_append.2 ⟨ha,hb,h⟩
theorem Ordd.left{a b:List α}(h:Ordd key (a++b)):Ordd key a:=(List.pairwise_append.1 h).1
theorem Ordd.right{a b:List α}(h:Ordd key (a++b)):Ordd key b:=(List.pairwise_append.1 h).2.1
theorem Ordd.mid{a b:List α}(h:Ordd key (a++b)):∀ x∈a,∀ y∈b,key x≤key y:=(List.pairwise_append.1 h).2.2
theorem ends_le{a b:List α}(ha:Ordd key a)(hb:Ordd key b)(h:∀ (h1:0<a.length) (h2:0<b.length),key (a[a.length - 1]'(by omega))≤key b[0]):∀ x∈a,∀ y∈b,key x≤key y:=by
 intro x hx y hy
 obtain ⟨i,hi,rfl⟩:=List.mem_iff_getElem.1 hx
 obtain ⟨j,hj,rfl⟩:=List.mem_iff_getElem.1 hy
 have h1:key a[i]≤key (a[a.length - 1]'(by omega)):=by
  rcases Nat.lt_or_ge i (a.length - 1) with h' | h'
  ·exact List.pairwise_iff_getElem.1 ha i (a.length - 1) hi (by omega) h'
  ·obtain rfl:i=a.length - 1:=by omega
   exact Int.le_refl _
 have h2:key b[0]≤key b[j]:=by
  rcases Nat.eq_zero_or_pos j with rfl | h'
  ·exact Int.le_refl _
  ·exact List.pairwise_iff_getElem.1 hb 0 j (by omega) hj h'
 have:=h (by omega) (by omega)
 omega
theorem sym_split{U1 U2 V1 V2 W1 W2:List α}(hU:Ordd key (U1++U2))(hV:Ordd key (V1++V2))(h1:∀ x∈U1,∀ y∈V2,key x≤key y)(h2:∀ x∈V1,∀ y∈U2,key x≤key y)
  (p1:W1.Perm (U1++V1)) (s1:Ordd key W1) (p2:W2.Perm (U2++V2)) (s2:Ordd key W2):(W1++W2).Perm (U1++U2++(V1++V2))∧Ordd key (W1++W2):=by
 refine ⟨?_,s1.app s2 fun x hx y hy=>?_⟩
 ·refine (p1.append p2).trans ?_
  rw [List.append_assoc,List.append_assoc]
  refine List.Perm.append_left U1 ?_
  rw [← List.append_assoc,← List.append_assoc]
  exact List.Perm.append_right V2 List.perm_append_comm
 ·rcases List.mem_append.1 (p1.mem_iff.1 hx) with hx | hx <;> rcases List.mem_append.1 (p2.mem_iff.1 hy) with hy | hy
  ·exact hU.mid x hx y hy
  ·exact h1 x hx y hy
  ·exact h2 x hx y hy
  ·exact hV.mid x hx y hy
theorem put_in{V1 V2:List α}{u:α}(hV:Ordd key (V1++V2))(h1:∀ x∈V1,key x≤key u)(h2:∀ y∈V2,key u≤key y):(V1++u::V2).Perm (u::(V1++V2))∧Ordd key (V1++u::V2):=by
 refine ⟨List.perm_middle,Ordd.app hV.left (List.pairwise_cons.2 ⟨h2,hV.right⟩) fun x hx y hy=>?_⟩
 rcases List.mem_cons.1 hy with rfl | hy
 ·exact h1 x hx
 ·exact hV.mid x hx y hy
end
theorem BfsR.pre{P:List (List OpT)}{obs:List Int}{most:Int}{L r:List Sp}{i:Nat}(h:BfsR P obs most L i r):L <+: r:=by
 induction h with
 | full=>exact List.prefix_refl _
 | last=>exact List.prefix_refl _
 | go h hm k ih =>
  obtain ⟨t,h1,_⟩:=roundW_out P obs _ _
  rw [h1] at ih
  exact (List.prefix_append _ _).trans ih
end Go.Proofs.YtoadmihnihfjkaaGreat

namespace Go.Proofs.YtoadmihnihfjkaaGreat.Cut
open Go Go.Ann Go.RowKit
def Pure(l:List OpT):Prop:=∀ a∈l,∀ b∈l,a.ID=b.ID→a=b
def segR(w:World)(s:Seg)(c:List Value):Prop:=∃ v,c=[.int .i64 s.obj,.int .i64 s.kind,v]∧RdS w 11 OpT.enc v s.ops∧(s.ops.length:Int)≤9223372036854775806
theorem segR.below{w w':World}(hb:Below w.heap.size w w')(s:Seg)(c:List Value)(h:segR w s c):segR w' s c:=by
 obtain ⟨v,rfl,h1,h2⟩:=h
 exact ⟨v,rfl,h1.below hb (by decide),h2⟩
end Go.Proofs.YtoadmihnihfjkaaGreat.Cut

namespace Go.Proofs.YtoadmihnihfjkaaGreat.Cut
open Go Go.Ann Go.RowKit
def cmpI(a b:Int):Int:=if a<b then -1 else if b<a then 1 else 0
end Go.Proofs.YtoadmihnihfjkaaGreat.Cut

namespace Go.Proofs.YtoadmihnihfjkaaGreat.Cut
open Go Go.Ann Go.RowKit
def orI(l:List Int):Int:=(l.find? fun x=>!decide (x=0)).getD 0
def earI(a b:OpT):Int:=orI [cmpI a.Invoke b.Invoke,cmpI a.ID b.ID]
def objI(a b:OpT):Int:=orI [cmpI a.Object b.Object,earI a b]
theorem chg_da{S:Nat→Prop}{w:World}{o:Obj}:Chg S w.drew (w.alloc o).drew:=(Chg.refl S w.drew).alloc o
end Go.Proofs.YtoadmihnihfjkaaGreat.Cut

namespace Go.Proofs.YtoadmihnihfjkaaGreat.Cut
open Go Go.Ann Go.RowKit
instance:Inhabited OpT:=⟨⟨0,0,0,0,0,0,0,false,0,0,0⟩⟩
def Sorts(cf:OpT→OpT→Int)(l l':List OpT):Prop:=l'.Perm l∧l'.Pairwise fun a b=>¬ cf b a<0
end Go.Proofs.YtoadmihnihfjkaaGreat.Cut

namespace Go.Proofs.YtoadmihnihfjkaaGreat.Cut
open Go Go.Ann Go.RowKit
theorem orI2_neg(x y:Int):decide (orI [x,y]<0)=decide (x<0∨x=0∧y<0):=by
 unfold orI
 by_cases hx:x=0
 ·subst hx
  by_cases hy:y=0
  ·subst hy; simp
  ·simp [List.find?_cons,hy]
 ·simp [List.find?_cons,hx]
theorem cmpI_neg(a b:Int):(cmpI a b<0)=(a<b):=by
 unfold cmpI
 apply propext
 split
 ·omega
 ·split <;> omega
theorem cmpI_zero(a b:Int):(cmpI a b=0)=(a=b):=by
 unfold cmpI
 apply propext
 split
 ·omega
 ·split <;> omega
theorem lt_ear(a b:OpT):ltOf earI a b=decide (a.Invoke<b.Invoke∨a.Invoke=b.Invoke∧a.ID<b.ID):=by
 unfold ltOf earI
 rw [orI2_neg]
 simp only [cmpI_neg,cmpI_zero]
theorem ear_neg(a b:OpT):(earI a b<0)=(a.Invoke<b.Invoke∨a.Invoke=b.Invoke∧a.ID<b.ID):=by
 have:=lt_ear a b
 unfold ltOf at this
 exact propext (decide_eq_decide.1 this)
theorem lt_obj(a b:OpT):ltOf objI a b=decide (a.Object<b.Object∨a.Object=b.Object∧(a.Invoke<b.Invoke∨a.Invoke=b.Invoke∧a.ID<b.ID)):=by
 unfold ltOf objI
 rw [orI2_neg]
 simp only [cmpI_neg,cmpI_zero,ear_neg]
theorem obj_neg(a b:OpT):(objI a b<0)=(a.Object<b.Object∨a.Object=b.Object∧(a.Invoke<b.Invoke∨a.Invoke=b.Invoke∧a.ID<b.ID)):=by
 have:=lt_obj a b
 unfold ltOf at this
 exact propext (decide_eq_decide.1 this)
def cutStep(q:Seg→OpT→Bool)(mk:OpT→Int × Int)(acc:List Seg)(o:OpT):List Seg :=
 match acc.getLast? with
 | some s=>if q s o then acc++[⟨(mk o).1,(mk o).2,[o]⟩] else acc.dropLast++[⟨s.obj,s.kind,s.ops++[o]⟩]
 | none=>[⟨(mk o).1,(mk o).2,[o]⟩]
def segC(s:Seg)(v:Value):List Value:=[.int .i64 s.obj,.int .i64 s.kind,v]
def segCells:List Seg→List Value→List Value
 | s::l,v::vs=>segC s v++segCells l vs
 | _,_=>[]
def segInvs:List Seg→List Value→List Inv
 | s::l,v::vs=>.rd 11 OpT.enc v s.ops::segInvs l vs
 | _,_=>[]
theorem segCells_snoc:∀ (l:List Seg) (vs:List Value) (s:Seg) (v:Value),vs.length=l.length→segCells (l++[s]) (vs++[v])=segCells l vs++segC s v
 | [],[],s,v,_=>by simp [segCells]
 | a::l,b::vs,s,v,h=>by simp only [List.cons_append,segCells,List.append_assoc]; rw [segCells_snoc l vs s v (by simpa using h)]
theorem segInvs_mem:∀ (l:List Seg) (vs:List Value) (i:Nat) (s:Seg) (v:Value),l[i]?=some s→vs[i]?=some v→Inv.rd 11 OpT.enc v s.ops∈segInvs l vs
 | a::l,b::vs,0,s,v,h1,h2=>by
  simp only [List.getElem?_cons_zero,Option.some.injEq] at h1 h2; subst h1; subst h2
  exact List.mem_cons_self
 | a::l,b::vs,i+1,s,v,h1,h2=>List.mem_cons_of_mem _ (segInvs_mem l vs i s v (by simpa using h1) (by simpa using h2))
theorem segInvs_snoc:∀ (l:List Seg) (vs:List Value) (s:Seg) (v:Value),vs.length=l.length→∀ a,a∈segInvs (l++[s]) (vs++[v])↔a=Inv.rd 11 OpT.enc v s.ops∨a∈segInvs l vs
 | [],[],s,v,_,a=>by simp [segInvs]
 | x::l,b::vs,s,v,h,a=>by simp only [List.cons_append,segInvs,List.mem_cons,segInvs_snoc l vs s v (by simpa using h)]; exact ⟨fun h=>h.elim (fun h=>.inr (.inl h)) fun h=>h.elim .inl fun h=>.inr (.inr h),fun h=>h.elim (fun h=>.inr (.inl h)) fun h=>h.elim .inl fun h=>.inr (.inr h)⟩
theorem cutStep_new{q:Seg→OpT→Bool}(mk:OpT→Int × Int)(ini:List Seg){s:Seg}{o:OpT}(h:q s o=true):cutStep q mk (ini++[s]) o=ini++[s]++[⟨(mk o).1,(mk o).2,[o]⟩]:=by
 unfold cutStep
 rw [List.getLast?_concat]
 simp only [h,if_true]
theorem cutStep_old{q:Seg→OpT→Bool}(mk:OpT→Int × Int)(ini:List Seg){s:Seg}{o:OpT}(h:q s o=false):cutStep q mk (ini++[s]) o=ini++[⟨s.obj,s.kind,s.ops++[o]⟩]:=by
 unfold cutStep
 rw [List.getLast?_concat,List.dropLast_concat]
 simp only [h]
 rfl
theorem segCells_flat:∀ (l:List Seg) (vs:List Value),(List.zipWith segC l vs).flatten=segCells l vs
 | [],vs=>by cases vs <;> rfl
 | a::l,[]=>rfl
 | a::l,b::vs=>by rw [List.zipWith_cons_cons,List.flatten_cons,segCells_flat l vs]; rfl
end Go.Proofs.YtoadmihnihfjkaaGreat.Cut

end
