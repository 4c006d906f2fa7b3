/- Texts put together by program. -/
import Derived.Test.YtkmjkmjpejmlnaaGreatQG3
set_option linter.unusedSimpArgs false
set_option linter.unusedVariables false
set_option maxRecDepth 100000
noncomputable section

namespace Go.Proofs.YtkmjkmjpejmlnaaGreat
open Go Go.Ann
def c5code:Code:=match Tryz.f5.body with | some c=>c | none=>.skip
def c5S0(_:Unit):Cmd:=(.cond (.tmp 70)
 (.seq (.ops [
 ⟨some 2,.assign (.const (.bool false)),4,none⟩] [2])
 .ret)
 (.skip [1,15,16,17]))
def c5S1(_:Unit):Cmd:=(.seq (.ops [
 ⟨some 28,.move (.tmp 5),9,none⟩,
 ⟨some 29,.binOp .neq 9 (.tmp 28) (.const (.string (ofL []))) 9,4,none⟩,
 ⟨some 30,.move (.tmp 29),4,none⟩,
 ⟨some 31,.move (.tmp 6),30,(some (30,false))⟩,
 ⟨some 32,.binOp .neq 30 (.tmp 31) (.const (.int .i64 3)) 30,4,(some (30,false))⟩,
 ⟨some 33,.pick (.tmp 30) (.const (.bool true)) (.tmp 32),4,none⟩,
 ⟨some 34,.move (.tmp 33),4,none⟩,
 ⟨some 35,.move (.tmp 4),37,(some (34,false))⟩,
 ⟨some 36,.fieldAddr 40 (.tmp 1) 1,0,(some (34,false))⟩,
 ⟨some 37,.load 9 (.tmp 36),9,(some (34,false))⟩,
 ⟨some 38,.fieldAddr 40 (.tmp 1) 2,0,(some (34,false))⟩,
 ⟨some 39,.load 9 (.tmp 38),9,(some (34,false))⟩,
 ⟨some 40,.call ⟨.value (.func 18),#[(.tmp 35),(.tmp 37),(.tmp 39)],#[37,9,9]⟩,30,(some (34,false))⟩,
 ⟨some 41,.move (.tmp 6),30,(some (34,false))⟩,
 ⟨some 42,.binOp .neq 30 (.tmp 40) (.tmp 41) 30,4,(some (34,false))⟩,
 ⟨some 43,.pick (.tmp 34) (.const (.bool true)) (.tmp 42),4,none⟩,
 ⟨some 44,.move (.tmp 43),4,none⟩,
 ⟨some 45,.move (.tmp 4),37,(some (44,false))⟩,
 ⟨some 46,.fieldAddr 40 (.tmp 1) 1,0,(some (44,false))⟩,
 ⟨some 47,.load 9 (.tmp 46),9,(some (44,false))⟩,
 ⟨some 48,.call ⟨.value (.func 26),#[(.tmp 45),(.tmp 47)],#[37,9]⟩,30,(some (44,false))⟩,
 ⟨some 49,.move (.tmp 6),30,(some (44,false))⟩,
 ⟨some 50,.binOp .neq 30 (.tmp 48) (.tmp 49) 30,4,(some (44,false))⟩,
 ⟨some 51,.pick (.tmp 44) (.const (.bool true)) (.tmp 50),4,none⟩,
 ⟨some 52,.move (.tmp 51),4,none⟩,
 ⟨some 53,.move (.tmp 4),37,(some (52,false))⟩,
 ⟨some 54,.call ⟨.value (.func 27),#[(.tmp 53)],#[37]⟩,3,(some (52,false))⟩,
 ⟨some 55,.binOp .neq 3 (.tmp 54) (.const (.int .i64 0)) 3,4,(some (52,false))⟩,
 ⟨some 56,.pick (.tmp 52) (.const (.bool true)) (.tmp 55),4,none⟩,
 ⟨some 57,.move (.tmp 56),4,none⟩,
 ⟨some 58,.move (.tmp 4),37,(some (57,false))⟩,
 ⟨some 59,.call ⟨.value (.func 28),#[(.tmp 58)],#[37]⟩,46,(some (57,false))⟩,
 ⟨some 60,.call ⟨.builtin .len,#[(.tmp 59)],#[46]⟩,3,(some (57,false))⟩,
 ⟨some 61,.binOp .neq 3 (.tmp 60) (.const (.int .i64 0)) 3,4,(some (57,false))⟩,
 ⟨some 62,.pick (.tmp 57) (.const (.bool true)) (.tmp 61),4,none⟩,
 ⟨some 63,.move (.tmp 62),4,none⟩,
 ⟨some 64,.move (.tmp 4),37,(some (63,false))⟩,
 ⟨some 65,.fieldAddr 40 (.tmp 1) 1,0,(some (63,false))⟩,
 ⟨some 66,.load 9 (.tmp 65),9,(some (63,false))⟩,
 ⟨some 67,.call ⟨.value (.func 21),#[(.tmp 64),(.tmp 66),(.const (.int .i64 3))],#[37,9,3]⟩,46,(some (63,false))⟩,
 ⟨some 68,.call ⟨.builtin .len,#[(.tmp 67)],#[46]⟩,3,(some (63,false))⟩,
 ⟨some 69,.binOp .neq 3 (.tmp 68) (.const (.int .i64 0)) 3,4,(some (63,false))⟩,
 ⟨some 70,.pick (.tmp 63) (.const (.bool true)) (.tmp 69),4,none⟩] [1,15,16,17,70]) (sg c5S0))
def c5S2(_:Unit):Cmd:=(.ops [
 ⟨some 71,.binOp .add 3 (.tmp 17) (.const (.int .i64 1)) 3,3,none⟩,
 ⟨some 17,.move (.tmp 71),3,none⟩] [1,15,16,17])
def c5S3(_:Unit):Cmd:=(.seq (.block 1 (.seq (.ops [
 ⟨some 19,.indexAddr 57 (.tmp 15) (.tmp 17),0,none⟩,
 ⟨some 20,.load 37 (.tmp 19),37,none⟩,
 ⟨some 4,.assign (.tmp 20),37,none⟩] [1,4,15,16,17])
 (.seq (.ops [
 ⟨some 22,.move (.tmp 4),37,none⟩,
 ⟨some 23,.fieldAddr 40 (.tmp 1) 1,0,none⟩,
 ⟨some 24,.load 9 (.tmp 23),9,none⟩,
 ⟨some 25,.call ⟨.value (.func 25),#[(.tmp 22),(.tmp 24)],#[37,9]⟩,50,none⟩,
 ⟨some 21,.move (.tmp 25),50,none⟩,
 ⟨some 26,.extract (.tmp 21) 0,9,none⟩,
 ⟨some 27,.extract (.tmp 21) 1,30,none⟩,
 ⟨some 5,.assign (.tmp 26),9,none⟩,
 ⟨some 6,.assign (.tmp 27),30,none⟩] [1,4,5,6,15,16,17]) (sg c5S1)))) (sg c5S2))
def c5L0(_:Unit):Cmd:=(.seq (.ops [
 ⟨some 18,.binOp .lss 3 (.tmp 17) (.tmp 16) 3,0,none⟩] [1,15,16,17,18])
 (.seq (.cond (.tmp 18)
 (.skip [1,15,16,17])
 (.exit 0 [])) (sg c5S3)))
def c5S4(_:Unit):Cmd:=.ret
def c5S5(_:Unit):Cmd:=(.seq (.ops [
 ⟨some 85,.move (.tmp 7),37,none⟩,
 ⟨some 86,.binOp .eql 37 (.tmp 85) (.const (.pointer none)) 37,4,none⟩,
 ⟨some 87,.move (.tmp 86),4,none⟩,
 ⟨some 88,.move (.tmp 8),30,(some (87,true))⟩,
 ⟨some 89,.binOp .eql 30 (.tmp 88) (.const (.int .i64 3)) 30,4,(some (87,true))⟩,
 ⟨some 90,.pick (.tmp 87) (.tmp 89) (.const (.bool false)),4,none⟩,
 ⟨some 91,.move (.tmp 90),4,none⟩,
 ⟨some 92,.move (.tmp 11),37,(some (91,true))⟩,
 ⟨some 93,.binOp .eql 37 (.tmp 92) (.const (.pointer none)) 37,4,(some (91,true))⟩,
 ⟨some 94,.pick (.tmp 91) (.tmp 93) (.const (.bool false)),4,none⟩,
 ⟨some 95,.move (.tmp 94),4,none⟩,
 ⟨some 96,.move (.tmp 12),30,(some (95,true))⟩,
 ⟨some 97,.binOp .eql 30 (.tmp 96) (.const (.int .i64 1)) 30,4,(some (95,true))⟩,
 ⟨some 98,.pick (.tmp 95) (.tmp 97) (.const (.bool false)),4,none⟩,
 ⟨some 99,.move (.tmp 98),4,none⟩,
 ⟨some 100,.call ⟨.value (.func 24),#[],#[]⟩,4,(some (99,true))⟩,
 ⟨some 101,.pick (.tmp 99) (.tmp 100) (.const (.bool false)),4,none⟩,
 ⟨some 2,.assign (.tmp 101),4,none⟩] [2]) (sg c5S4))
def c5S6(_:Unit):Cmd:=(.seq (.ops [
 ⟨some 81,.move (.tmp 10),24,none⟩,
 ⟨some 82,.call ⟨.value (.func 29),#[(.tmp 81),(.const (.int .i64 16))],#[24,3]⟩,60,none⟩,
 ⟨some 80,.move (.tmp 82),60,none⟩,
 ⟨some 83,.extract (.tmp 80) 0,37,none⟩,
 ⟨some 84,.extract (.tmp 80) 1,30,none⟩,
 ⟨some 11,.assign (.tmp 83),37,none⟩,
 ⟨some 12,.assign (.tmp 84),30,none⟩] [7,8,11,12]) (sg c5S5))
def c5S7(_:Unit):Cmd:=(.seq (.ops [
 ⟨some 77,.call ⟨.value (.func 15),#[(.const (.int .i64 20))],#[3]⟩,25,none⟩,
 ⟨some 76,.move (.tmp 77),25,none⟩,
 ⟨some 78,.extract (.tmp 76) 0,23,none⟩,
 ⟨some 79,.extract (.tmp 76) 1,24,none⟩,
 ⟨some 9,.assign (.tmp 78),23,none⟩,
 ⟨some 10,.assign (.tmp 79),24,none⟩] [7,8,10]) (sg c5S6))
def c5S8(_:Unit):Cmd:=(.seq (.ops [
 ⟨some 73,.call ⟨.value (.func 29),#[(.const (.pointer none)),(.const (.int .i64 0))],#[24,3]⟩,60,none⟩,
 ⟨some 72,.move (.tmp 73),60,none⟩,
 ⟨some 74,.extract (.tmp 72) 0,37,none⟩,
 ⟨some 75,.extract (.tmp 72) 1,30,none⟩,
 ⟨some 7,.assign (.tmp 74),37,none⟩,
 ⟨some 8,.assign (.tmp 75),30,none⟩] [7,8]) (sg c5S7))
def c5:Cmd:=(.seq (.ops [
 ⟨some 1,.box 40 (.tmp 0),0,none⟩,
 ⟨some 2,.assign (.const (.bool false)),4,none⟩] [1])
 (.seq (.seq (.ops [
 ⟨some 13,.build 56 #[],56,none⟩,
 ⟨some 14,.box 56 (.tmp 13),37,none⟩,
 ⟨some 15,.buildSlice 57 2 #[(0,(.const (.pointer none))),(1,(.tmp 14))],57,none⟩,
 ⟨some 16,.call ⟨.builtin .len,#[(.tmp 15)],#[57]⟩,3,none⟩,
 ⟨some 17,.move (.const (.int .i64 0)),3,none⟩] [1,15,16,17])
 (.block 0 (.loop (sg c5L0)))) (sg c5S8)))
attribute [go_sem] c5 c5S0 c5S1 c5S2 c5S3 c5L0 c5S4 c5S5 c5S6 c5S7 c5S8
@[go_sem] theorem go5:goFunc Tryz.prog 5=true:=by kernel_rfl
def c15code:Code:=match Tryz.f15.body with | some c=>c | none=>.skip
def c15S0(_:Unit):Cmd:=(.cond (.tmp 21)
 (.seq (.ops [
 ⟨some 2,.assign (.const (.pointer none)),23,none⟩,
 ⟨some 3,.assign (.const (.pointer none)),24,none⟩] [2,3])
 .ret)
 (.skip [4]))
def c15S1(_:Unit):Cmd:=(.cond (.tmp 41)
 (.seq (.ops [
 ⟨some 2,.assign (.const (.pointer none)),23,none⟩,
 ⟨some 3,.assign (.const (.pointer none)),24,none⟩] [2,3])
 .ret)
 (.skip [4,7]))
def c15S2(_:Unit):Cmd:=(.seq (.ops [
 ⟨some 42,.move (.tmp 4),23,none⟩,
 ⟨some 43,.move (.tmp 7),24,none⟩,
 ⟨some 2,.assign (.tmp 42),23,none⟩,
 ⟨some 3,.assign (.tmp 43),24,none⟩] [2,3])
 .ret)
def c15S3(_:Unit):Cmd:=(.seq (.seq (.ops [
 ⟨some 34,.move (.tmp 5),30,none⟩,
 ⟨some 35,.binOp .neq 30 (.tmp 34) (.const (.int .i64 0)) 30,4,none⟩,
 ⟨some 36,.move (.tmp 35),4,none⟩,
 ⟨some 37,.move (.tmp 7),24,(some (36,false))⟩,
 ⟨some 38,.call ⟨.value (.func 44),#[(.tmp 37)],#[24]⟩,30,(some (36,false))⟩,
 ⟨some 39,.move (.tmp 5),30,(some (36,false))⟩,
 ⟨some 40,.binOp .neq 30 (.tmp 38) (.tmp 39) 30,4,(some (36,false))⟩,
 ⟨some 41,.pick (.tmp 36) (.const (.bool true)) (.tmp 40),4,none⟩] [4,7,41]) (sg c15S1)) (sg c15S2))
def c15S4(_:Unit):Cmd:=(.seq (.ops [
 ⟨some 30,.move (.tmp 6),88,none⟩,
 ⟨some 31,.call ⟨.value (.func 43),#[(.tmp 30)],#[88]⟩,91,none⟩,
 ⟨some 29,.move (.tmp 31),91,none⟩,
 ⟨some 32,.extract (.tmp 29) 0,24,none⟩,
 ⟨some 33,.extract (.tmp 29) 1,30,none⟩,
 ⟨some 7,.assign (.tmp 32),24,none⟩,
 ⟨some 5,.assign (.tmp 33),30,none⟩] [4,5,7]) (sg c15S3))
def c15S5(_:Unit):Cmd:=(.seq (.seq (.ops [
 ⟨some 27,.move (.tmp 5),30,none⟩,
 ⟨some 28,.binOp .neq 30 (.tmp 27) (.const (.int .i64 0)) 30,4,none⟩] [4,6,28])
 (.cond (.tmp 28)
 (.seq (.ops [
 ⟨some 2,.assign (.const (.pointer none)),23,none⟩,
 ⟨some 3,.assign (.const (.pointer none)),24,none⟩] [2,3])
 .ret)
 (.skip [4,6]))) (sg c15S4))
def c15S6(_:Unit):Cmd:=(.seq (.ops [
 ⟨some 23,.move (.tmp 4),23,none⟩,
 ⟨some 24,.call ⟨.value (.func 42),#[(.tmp 23)],#[23]⟩,89,none⟩,
 ⟨some 22,.move (.tmp 24),89,none⟩,
 ⟨some 25,.extract (.tmp 22) 0,88,none⟩,
 ⟨some 26,.extract (.tmp 22) 1,30,none⟩,
 ⟨some 6,.assign (.tmp 25),88,none⟩,
 ⟨some 5,.assign (.tmp 26),30,none⟩] [4,5,6]) (sg c15S5))
def c15S7(_:Unit):Cmd:=(.seq (.seq (.ops [
 ⟨some 14,.move (.tmp 5),30,none⟩,
 ⟨some 15,.binOp .neq 30 (.tmp 14) (.const (.int .i64 0)) 30,4,none⟩,
 ⟨some 16,.move (.tmp 15),4,none⟩,
 ⟨some 17,.move (.tmp 4),23,(some (16,false))⟩,
 ⟨some 18,.call ⟨.value (.func 41),#[(.tmp 17),(.const (.int .i64 460))],#[23,3]⟩,30,(some (16,false))⟩,
 ⟨some 19,.move (.tmp 5),30,(some (16,false))⟩,
 ⟨some 20,.binOp .neq 30 (.tmp 18) (.tmp 19) 30,4,(some (16,false))⟩,
 ⟨some 21,.pick (.tmp 16) (.const (.bool true)) (.tmp 20),4,none⟩] [4,21]) (sg c15S0)) (sg c15S6))
def c15:Cmd:=(.seq (.ops [
 ⟨some 2,.assign (.const (.pointer none)),23,none⟩,
 ⟨some 3,.assign (.const (.pointer none)),24,none⟩] [0])
 (.seq (.ops [
 ⟨some 9,.move (.tmp 0),3,none⟩,
 ⟨some 10,.binOp .add 3 (.tmp 9) (.const (.int .i64 462)) 3,3,none⟩,
 ⟨some 11,.call ⟨.value (.func 40),#[(.tmp 10)],#[3]⟩,85,none⟩,
 ⟨some 8,.move (.tmp 11),85,none⟩,
 ⟨some 12,.extract (.tmp 8) 0,23,none⟩,
 ⟨some 13,.extract (.tmp 8) 1,30,none⟩,
 ⟨some 4,.assign (.tmp 12),23,none⟩,
 ⟨some 5,.assign (.tmp 13),30,none⟩] [4,5]) (sg c15S7)))
attribute [go_sem] c15 c15S0 c15S1 c15S2 c15S3 c15S4 c15S5 c15S6 c15S7
theorem ent15(a0:Value)(w:World)(K:Value→World→Prop)(h:W Tryz.prog c15 [(0,a0)] w (finQ Tryz.prog [.tmp 2,.tmp 3] K)):Ret Tryz.prog 15 [a0] w K :=
 Ret_of_W (code:=c15code) Tryz.func15 (by kernel_rfl) (by kernel_rfl) (of_decide_eq_true (by kernel_rfl)) h
@[go_sem] theorem go15:goFunc Tryz.prog 15=true:=by kernel_rfl
def c16code:Code:=match Tryz.f16.body with | some c=>c | none=>.skip
def c16S0(_:Unit):Cmd:=(.seq (.ops [
 ⟨some 15,.move (.tmp 5),37,none⟩,
 ⟨some 4,.assign (.tmp 15),37,none⟩] [4])
 .ret)
def c16S1(_:Unit):Cmd:=(.seq (.seq (.ops [
 ⟨some 13,.move (.tmp 6),30,none⟩,
 ⟨some 14,.binOp .neq 30 (.tmp 13) (.const (.int .i64 0)) 30,4,none⟩] [5,14])
 (.cond (.tmp 14)
 (.seq (.ops [
 ⟨some 4,.assign (.const (.pointer none)),37,none⟩] [4])
 .ret)
 (.skip [5]))) (sg c16S0))
def c16:Cmd:=(.seq (.ops [
 ⟨some 4,.assign (.const (.pointer none)),37,none⟩] [0,1])
 (.seq (.ops [
 ⟨some 8,.move (.tmp 0),24,none⟩,
 ⟨some 9,.move (.tmp 1),3,none⟩,
 ⟨some 10,.call ⟨.value (.func 29),#[(.tmp 8),(.tmp 9)],#[24,3]⟩,60,none⟩,
 ⟨some 7,.move (.tmp 10),60,none⟩,
 ⟨some 11,.extract (.tmp 7) 0,37,none⟩,
 ⟨some 12,.extract (.tmp 7) 1,30,none⟩,
 ⟨some 5,.assign (.tmp 11),37,none⟩,
 ⟨some 6,.assign (.tmp 12),30,none⟩] [5,6]) (sg c16S1)))
attribute [go_sem] c16 c16S0 c16S1
theorem ent16(a0 a1:Value)(w:World)(K:Value→World→Prop)(h:W Tryz.prog c16 [(0,a0),(1,a1)] w (finQ Tryz.prog [.tmp 4] K)):Ret Tryz.prog 16 [a0,a1] w K :=
 Ret_of_W (code:=c16code) Tryz.func16 (by kernel_rfl) (by kernel_rfl) (of_decide_eq_true (by kernel_rfl)) h
@[go_sem] theorem go16:goFunc Tryz.prog 16=true:=by kernel_rfl
def c24code:Code:=match Tryz.f24.body with | some c=>c | none=>.skip
def c24S0(_:Unit):Cmd:=(.cond (.tmp 26)
 (.seq (.ops [
 ⟨some 0,.assign (.const (.bool false)),4,none⟩] [0])
 .ret)
 (.skip [3]))
def c24S1(_:Unit):Cmd:=.ret
def c24S2(_:Unit):Cmd:=(.seq (.ops [
 ⟨some 27,.move (.tmp 3),37,none⟩,
 ⟨some 28,.call ⟨.value (.func 28),#[(.tmp 27)],#[37]⟩,46,none⟩,
 ⟨some 29,.build 53 #[(0,(.const (.string (ofL [97])))),(1,(.const (.string (ofL [50]))))],53,none⟩,
 ⟨some 30,.build 53 #[(0,(.const (.string (ofL [98])))),(1,(.const (.string (ofL [51]))))],53,none⟩,
 ⟨some 31,.buildSlice 46 2 #[(0,(.tmp 29)),(1,(.tmp 30))],46,none⟩,
 ⟨some 32,.call ⟨.value (.func 74),#[(.tmp 28),(.tmp 31)],#[46,46]⟩,4,none⟩,
 ⟨some 33,.move (.tmp 32),4,none⟩,
 ⟨some 34,.move (.tmp 3),37,(some (33,true))⟩,
 ⟨some 35,.call ⟨.value (.func 21),#[(.tmp 34),(.const (.string (ofL [97,97]))),(.const (.int .i64 9))],#[37,9,3]⟩,46,(some (33,true))⟩,
 ⟨some 36,.build 53 #[(0,(.const (.string (ofL [98])))),(1,(.const (.string (ofL [51]))))],53,(some (33,true))⟩,
 ⟨some 37,.buildSlice 46 1 #[(0,(.tmp 36))],46,(some (33,true))⟩,
 ⟨some 38,.call ⟨.value (.func 74),#[(.tmp 35),(.tmp 37)],#[46,46]⟩,4,(some (33,true))⟩,
 ⟨some 39,.pick (.tmp 33) (.tmp 38) (.const (.bool false)),4,none⟩,
 ⟨some 40,.move (.tmp 39),4,none⟩,
 ⟨some 41,.move (.tmp 3),37,(some (40,true))⟩,
 ⟨some 42,.call ⟨.value (.func 27),#[(.tmp 41)],#[37]⟩,3,(some (40,true))⟩,
 ⟨some 43,.binOp .eql 3 (.tmp 42) (.const (.int .i64 2)) 3,4,(some (40,true))⟩,
 ⟨some 44,.pick (.tmp 40) (.tmp 43) (.const (.bool false)),4,none⟩,
 ⟨some 0,.assign (.tmp 44),4,none⟩] [0]) (sg c24S1))
def c24S3(_:Unit):Cmd:=(.seq (.seq (.ops [
 ⟨some 10,.move (.tmp 3),37,none⟩,
 ⟨some 11,.binOp .eql 37 (.tmp 10) (.const (.pointer none)) 37,4,none⟩,
 ⟨some 12,.move (.tmp 11),4,none⟩,
 ⟨some 13,.move (.tmp 3),37,(some (12,false))⟩,
 ⟨some 14,.call ⟨.value (.func 18),#[(.tmp 13),(.const (.string (ofL [98]))),(.const (.string (ofL [49])))],#[37,9,9]⟩,30,(some (12,false))⟩,
 ⟨some 15,.binOp .neq 30 (.tmp 14) (.const (.int .i64 0)) 30,4,(some (12,false))⟩,
 ⟨some 16,.pick (.tmp 12) (.const (.bool true)) (.tmp 15),4,none⟩,
 ⟨some 17,.move (.tmp 16),4,none⟩,
 ⟨some 18,.move (.tmp 3),37,(some (17,false))⟩,
 ⟨some 19,.call ⟨.value (.func 18),#[(.tmp 18),(.const (.string (ofL [97]))),(.const (.string (ofL [50])))],#[37,9,9]⟩,30,(some (17,false))⟩,
 ⟨some 20,.binOp .neq 30 (.tmp 19) (.const (.int .i64 0)) 30,4,(some (17,false))⟩,
 ⟨some 21,.pick (.tmp 17) (.const (.bool true)) (.tmp 20),4,none⟩,
 ⟨some 22,.move (.tmp 21),4,none⟩,
 ⟨some 23,.move (.tmp 3),37,(some (22,false))⟩,
 ⟨some 24,.call ⟨.value (.func 18),#[(.tmp 23),(.const (.string (ofL [98]))),(.const (.string (ofL [51])))],#[37,9,9]⟩,30,(some (22,false))⟩,
 ⟨some 25,.binOp .neq 30 (.tmp 24) (.const (.int .i64 0)) 30,4,(some (22,false))⟩,
 ⟨some 26,.pick (.tmp 22) (.const (.bool true)) (.tmp 25),4,none⟩] [3,26]) (sg c24S0)) (sg c24S2))
def c24S4(_:Unit):Cmd:=(.seq (.ops [
 ⟨some 8,.move (.tmp 2),24,none⟩,
 ⟨some 9,.call ⟨.value (.func 16),#[(.tmp 8),(.const (.int .i64 0))],#[24,3]⟩,37,none⟩,
 ⟨some 3,.assign (.tmp 9),37,none⟩] [3]) (sg c24S3))
def c24:Cmd:=(.seq (.ops [
 ⟨some 0,.assign (.const (.bool false)),4,none⟩] [])
 (.seq (.ops [
 ⟨some 5,.call ⟨.value (.func 15),#[(.const (.int .i64 40))],#[3]⟩,25,none⟩,
 ⟨some 4,.move (.tmp 5),25,none⟩,
 ⟨some 6,.extract (.tmp 4) 0,23,none⟩,
 ⟨some 7,.extract (.tmp 4) 1,24,none⟩,
 ⟨some 1,.assign (.tmp 6),23,none⟩,
 ⟨some 2,.assign (.tmp 7),24,none⟩] [2]) (sg c24S4)))
attribute [go_sem] c24 c24S0 c24S1 c24S2 c24S3 c24S4
theorem ent24(w:World)(K:Value→World→Prop)(h:W Tryz.prog c24 [] w (finQ Tryz.prog [.tmp 0] K)):Ret Tryz.prog 24 [] w K :=
 Ret_of_W (code:=c24code) Tryz.func24 (by kernel_rfl) (by kernel_rfl) (of_decide_eq_true (by kernel_rfl)) h
@[go_sem] theorem go24:goFunc Tryz.prog 24=true:=by kernel_rfl
def c21code:Code:=match Tryz.f21.body with | some c=>c | none=>.skip
def c21S0(_:Unit):Cmd:=(.seq (.ops [
 ⟨some 19,.load 46 (.tmp 7),46,none⟩,
 ⟨some 6,.assign (.tmp 19),46,none⟩] [6])
 .ret)
def c21S1(_:Unit):Cmd:=(.seq (.ops [
 ⟨some 16,.move (.tmp 8),129,none⟩,
 ⟨some 17,.makeFunc (.func 73) #[] #[(.tmp 7),(.tmp 5)],131,none⟩,
 ⟨some 18,.call ⟨.value (.tmp 16),#[(.tmp 17)],#[131]⟩,0,none⟩] [7]) (sg c21S0))
def c21S2(_:Unit):Cmd:=(.seq (.seq (.ops [
 ⟨some 14,.move (.tmp 8),129,none⟩,
 ⟨some 15,.binOp .eql 129 (.tmp 14) (.const .nilFunc) 129,4,none⟩] [5,7,8,15])
 (.cond (.tmp 15)
 (.seq (.ops [
 ⟨some 6,.assign (.const (.slice none 0 0)),46,none⟩] [6])
 .ret)
 (.skip [5,7,8]))) (sg c21S1))
def c21S3(_:Unit):Cmd:=(.seq (.ops [
 ⟨some 11,.move (.tmp 0),37,none⟩,
 ⟨some 12,.move (.tmp 1),9,none⟩,
 ⟨some 13,.call ⟨.value (.func 72),#[(.tmp 11),(.tmp 12)],#[37,9]⟩,129,none⟩,
 ⟨some 8,.assign (.tmp 13),129,none⟩] [5,7,8]) (sg c21S2))
def c21:Cmd:=(.seq (.ops [
 ⟨some 5,.box 3 (.tmp 2),0,none⟩,
 ⟨some 6,.assign (.const (.slice none 0 0)),46,none⟩] [0,1,5])
 (.seq (.ops [
 ⟨some 7,.alloc 46,0,none⟩] [0,1,5,7])
 (.seq (.seq (.ops [
 ⟨some 9,.load 3 (.tmp 5),3,none⟩,
 ⟨some 10,.binOp .leq 3 (.tmp 9) (.const (.int .i64 0)) 3,4,none⟩] [0,1,5,7,10])
 (.cond (.tmp 10)
 (.seq (.ops [
 ⟨some 6,.assign (.const (.slice none 0 0)),46,none⟩] [6])
 .ret)
 (.skip [0,1,5,7]))) (sg c21S3))))
attribute [go_sem] c21 c21S0 c21S1 c21S2 c21S3
theorem ent21(a0 a1 a2:Value)(w:World)(K:Value→World→Prop)(h:W Tryz.prog c21 [(0,a0),(1,a1),(2,a2)] w (finQ Tryz.prog [.tmp 6] K)):Ret Tryz.prog 21 [a0,a1,a2] w K :=
 Ret_of_W (code:=c21code) Tryz.func21 (by kernel_rfl) (by kernel_rfl) (of_decide_eq_true (by kernel_rfl)) h
@[go_sem] theorem go21:goFunc Tryz.prog 21=true:=by kernel_rfl
def c73code:Code:=match Tryz.f73.body with | some c=>c | none=>.skip
def c73S0(_:Unit):Cmd:=(.seq (.ops [
 ⟨some 13,.load 46 (.tmp 2),46,none⟩,
 ⟨some 14,.call ⟨.builtin .len,#[(.tmp 13)],#[46]⟩,3,none⟩,
 ⟨some 15,.load 3 (.tmp 3),3,none⟩,
 ⟨some 16,.binOp .lss 3 (.tmp 14) (.tmp 15) 3,4,none⟩,
 ⟨some 6,.assign (.tmp 16),4,none⟩] [6])
 .ret)
def c73:Cmd:=(.seq (.ops [
 ⟨some 6,.assign (.const (.bool false)),4,none⟩] [0,1,2,3])
 (.seq (.ops [
 ⟨some 7,.load 46 (.tmp 2),46,none⟩,
 ⟨some 8,.move (.tmp 0),9,none⟩,
 ⟨some 9,.move (.tmp 1),9,none⟩,
 ⟨some 10,.build 53 #[(0,(.tmp 8)),(1,(.tmp 9))],53,none⟩,
 ⟨some 11,.buildSlice 46 1 #[(0,(.tmp 10))],46,none⟩,
 ⟨some 12,.call ⟨.builtin .append,#[(.tmp 7),(.tmp 11)],#[46,46]⟩,46,none⟩,
 ⟨none,.store 46 (.tmp 2) (.tmp 12),0,none⟩] [2,3]) (sg c73S0)))
attribute [go_sem] c73 c73S0
theorem ent73(a0 a1 a2 a3:Value)(w:World)(K:Value→World→Prop)(h:W Tryz.prog c73 [(0,a0),(1,a1),(2,a2),(3,a3)] w (finQ Tryz.prog [.tmp 6] K)):Ret Tryz.prog 73 [a0,a1,a2,a3] w K :=
 Ret_of_W (code:=c73code) Tryz.func73 (by kernel_rfl) (by kernel_rfl) (of_decide_eq_true (by kernel_rfl)) h
@[go_sem] theorem go73:goFunc Tryz.prog 73=true:=by kernel_rfl
def c28code:Code:=match Tryz.f28.body with | some c=>c | none=>.skip
def c28S0(_:Unit):Cmd:=(.seq (.ops [
 ⟨some 12,.load 46 (.tmp 3),46,none⟩,
 ⟨some 2,.assign (.tmp 12),46,none⟩] [2])
 .ret)
def c28S1(_:Unit):Cmd:=(.seq (.ops [
 ⟨some 9,.move (.tmp 4),129,none⟩,
 ⟨some 10,.makeFunc (.func 83) #[] #[(.tmp 3)],131,none⟩,
 ⟨some 11,.call ⟨.value (.tmp 9),#[(.tmp 10)],#[131]⟩,0,none⟩] [3]) (sg c28S0))
def c28S2(_:Unit):Cmd:=(.seq (.seq (.ops [
 ⟨some 7,.move (.tmp 4),129,none⟩,
 ⟨some 8,.binOp .eql 129 (.tmp 7) (.const .nilFunc) 129,4,none⟩] [3,4,8])
 (.cond (.tmp 8)
 (.seq (.ops [
 ⟨some 2,.assign (.const (.slice none 0 0)),46,none⟩] [2])
 .ret)
 (.skip [3,4]))) (sg c28S1))
def c28:Cmd:=(.seq (.ops [
 ⟨some 2,.assign (.const (.slice none 0 0)),46,none⟩] [0])
 (.seq (.ops [
 ⟨some 3,.alloc 46,0,none⟩] [0,3])
 (.seq (.ops [
 ⟨some 5,.move (.tmp 0),37,none⟩,
 ⟨some 6,.call ⟨.value (.func 82),#[(.tmp 5)],#[37]⟩,129,none⟩,
 ⟨some 4,.assign (.tmp 6),129,none⟩] [3,4]) (sg c28S2))))
attribute [go_sem] c28 c28S0 c28S1 c28S2
theorem ent28(a0:Value)(w:World)(K:Value→World→Prop)(h:W Tryz.prog c28 [(0,a0)] w (finQ Tryz.prog [.tmp 2] K)):Ret Tryz.prog 28 [a0] w K :=
 Ret_of_W (code:=c28code) Tryz.func28 (by kernel_rfl) (by kernel_rfl) (of_decide_eq_true (by kernel_rfl)) h
@[go_sem] theorem go28:goFunc Tryz.prog 28=true:=by kernel_rfl
def c83code:Code:=match Tryz.f83.body with | some c=>c | none=>.skip
def c83S0(_:Unit):Cmd:=(.seq (.ops [
 ⟨some 12,.load 46 (.tmp 2),46,none⟩,
 ⟨some 13,.call ⟨.builtin .len,#[(.tmp 12)],#[46]⟩,3,none⟩,
 ⟨some 14,.binOp .lss 3 (.tmp 13) (.const (.int .i64 5000)) 3,4,none⟩,
 ⟨some 5,.assign (.tmp 14),4,none⟩] [5])
 .ret)
def c83:Cmd:=(.seq (.ops [
 ⟨some 5,.assign (.const (.bool false)),4,none⟩] [0,1,2])
 (.seq (.ops [
 ⟨some 6,.load 46 (.tmp 2),46,none⟩,
 ⟨some 7,.move (.tmp 0),9,none⟩,
 ⟨some 8,.move (.tmp 1),9,none⟩,
 ⟨some 9,.build 53 #[(0,(.tmp 7)),(1,(.tmp 8))],53,none⟩,
 ⟨some 10,.buildSlice 46 1 #[(0,(.tmp 9))],46,none⟩,
 ⟨some 11,.call ⟨.builtin .append,#[(.tmp 6),(.tmp 10)],#[46,46]⟩,46,none⟩,
 ⟨none,.store 46 (.tmp 2) (.tmp 11),0,none⟩] [2]) (sg c83S0)))
attribute [go_sem] c83 c83S0
theorem ent83(a0 a1 a2:Value)(w:World)(K:Value→World→Prop)(h:W Tryz.prog c83 [(0,a0),(1,a1),(2,a2)] w (finQ Tryz.prog [.tmp 5] K)):Ret Tryz.prog 83 [a0,a1,a2] w K :=
 Ret_of_W (code:=c83code) Tryz.func83 (by kernel_rfl) (by kernel_rfl) (of_decide_eq_true (by kernel_rfl)) h
@[go_sem] theorem go83:goFunc Tryz.prog 83=true:=by kernel_rfl
def c18code:Code:=match Tryz.f18.body with | some c=>c | none=>.skip
def c18S0(_:Unit):Cmd:=(.seq (.ops [
 ⟨some 45,.move (.tmp 8),30,none⟩,
 ⟨some 46,.binOp .neq 30 (.tmp 45) (.const (.int .i64 0)) 30,4,none⟩] [0,1,2,7,8,46])
 (.cond (.tmp 46)
 (.seq (.ops [
 ⟨some 47,.move (.tmp 8),30,none⟩,
 ⟨some 6,.assign (.tmp 47),30,none⟩] [6])
 .ret)
 (.skip [0,1,2,7])))
def c18S1(_:Unit):Cmd:=(.seq (.ops [
 ⟨some 56,.move (.tmp 8),30,none⟩,
 ⟨some 57,.binOp .neq 30 (.tmp 56) (.const (.int .i64 0)) 30,4,none⟩] [0,7,8,57])
 (.cond (.tmp 57)
 (.seq (.ops [
 ⟨some 58,.move (.tmp 8),30,none⟩,
 ⟨some 6,.assign (.tmp 58),30,none⟩] [6])
 .ret)
 (.skip [0,7])))
def c18S2(_:Unit):Cmd:=.ret
def c18S3(_:Unit):Cmd:=(.seq (.draw (drawOps 0 c18code) [6]) (sg c18S2))
def c18S4(_:Unit):Cmd:=(.seq (.seq (.ops [
 ⟨some 48,.move (.tmp 0),37,none⟩,
 ⟨some 49,.move (.tmp 7),3,none⟩,
 ⟨some 50,.move (.tmp 1),9,none⟩,
 ⟨some 51,.buildSlice 22 1 #[(0,(.tmp 50))],22,none⟩,
 ⟨some 52,.move (.tmp 2),9,none⟩,
 ⟨some 53,.buildSlice 22 1 #[(0,(.tmp 52))],22,none⟩,
 ⟨some 54,.build 119 #[(0,(.const (.bool true))),(1,(.tmp 51)),(2,(.tmp 53))],119,none⟩,
 ⟨some 55,.call ⟨.value (.func 65),#[(.tmp 48),(.tmp 49),(.tmp 54)],#[37,3,119]⟩,30,none⟩,
 ⟨some 8,.assign (.tmp 55),30,none⟩] [0,7,8]) (sg c18S1)) (sg c18S3))
def c18S5(_:Unit):Cmd:=(.seq (.ops [
 ⟨some 72,.move (.tmp 9),30,none⟩,
 ⟨some 73,.binOp .neq 30 (.tmp 72) (.const (.int .i64 0)) 30,4,none⟩] [0,1,2,7,9,73])
 (.cond (.tmp 73)
 (.seq (.ops [
 ⟨some 74,.move (.tmp 9),30,none⟩,
 ⟨some 6,.assign (.tmp 74),30,none⟩] [6])
 .ret)
 (.skip [0,1,2,7])))
def c18S6(_:Unit):Cmd:=(.seq (.ops [
 ⟨some 111,.move (.tmp 13),30,none⟩,
 ⟨some 112,.binOp .neq 30 (.tmp 111) (.const (.int .i64 0)) 30,4,none⟩] [0,12,13,112])
 (.cond (.tmp 112)
 (.seq (.ops [
 ⟨some 113,.move (.tmp 13),30,none⟩,
 ⟨some 6,.assign (.tmp 113),30,none⟩] [6])
 .ret)
 (.skip [0,12])))
def c18S7(_:Unit):Cmd:=.ret
def c18S8(_:Unit):Cmd:=(.seq (.draw (drawOps 1 c18code) [6]) (sg c18S7))
def c18S9(_:Unit):Cmd:=(.seq (.seq (.ops [
 ⟨some 102,.move (.tmp 0),37,none⟩,
 ⟨some 103,.move (.tmp 12),3,none⟩,
 ⟨some 104,.move (.tmp 10),9,none⟩,
 ⟨some 105,.buildSlice 22 1 #[(0,(.tmp 104))],22,none⟩,
 ⟨some 106,.move (.tmp 7),3,none⟩,
 ⟨some 107,.move (.tmp 11),3,none⟩,
 ⟨some 108,.buildSlice 48 2 #[(0,(.tmp 106)),(1,(.tmp 107))],48,none⟩,
 ⟨some 109,.build 119 #[(1,(.tmp 105)),(3,(.tmp 108))],119,none⟩,
 ⟨some 110,.call ⟨.value (.func 65),#[(.tmp 102),(.tmp 103),(.tmp 109)],#[37,3,119]⟩,30,none⟩,
 ⟨some 13,.assign (.tmp 110),30,none⟩] [0,12,13]) (sg c18S6)) (sg c18S8))
def c18S10(_:Unit):Cmd:=(.seq (.seq (.ops [
 ⟨some 99,.move (.tmp 8),30,none⟩,
 ⟨some 100,.binOp .neq 30 (.tmp 99) (.const (.int .i64 0)) 30,4,none⟩] [0,7,8,10,11,12,100])
 (.cond (.tmp 100)
 (.seq (.ops [
 ⟨some 101,.move (.tmp 8),30,none⟩,
 ⟨some 6,.assign (.tmp 101),30,none⟩] [6])
 .ret)
 (.skip [0,7,10,11,12]))) (sg c18S9))
def c18S11(_:Unit):Cmd:=(.seq (.ops [
 ⟨some 92,.move (.tmp 0),37,none⟩,
 ⟨some 93,.nilCheck (.tmp 92),0,none⟩,
 ⟨some 94,.fieldAddr 56 (.tmp 93) 0,0,none⟩,
 ⟨some 95,.load 24 (.tmp 94),24,none⟩,
 ⟨some 96,.call ⟨.value (.func 64),#[(.tmp 95)],#[24]⟩,31,none⟩,
 ⟨some 91,.move (.tmp 96),31,none⟩,
 ⟨some 97,.extract (.tmp 91) 0,3,none⟩,
 ⟨some 98,.extract (.tmp 91) 1,30,none⟩,
 ⟨some 12,.assign (.tmp 97),3,none⟩,
 ⟨some 8,.assign (.tmp 98),30,none⟩] [0,7,8,10,11,12]) (sg c18S10))
def c18S12(_:Unit):Cmd:=(.seq (.seq (.ops [
 ⟨some 84,.move (.tmp 8),30,none⟩,
 ⟨some 85,.binOp .neq 30 (.tmp 84) (.const (.int .i64 0)) 30,4,none⟩,
 ⟨some 86,.move (.tmp 85),4,none⟩,
 ⟨some 87,.move (.tmp 11),3,(some (86,false))⟩,
 ⟨some 88,.binOp .eql 3 (.tmp 87) (.const (.int .i64 0)) 3,4,(some (86,false))⟩,
 ⟨some 89,.pick (.tmp 86) (.const (.bool true)) (.tmp 88),4,none⟩] [0,7,8,10,11,89])
 (.cond (.tmp 89)
 (.seq (.ops [
 ⟨some 90,.move (.tmp 8),30,none⟩,
 ⟨some 6,.assign (.tmp 90),30,none⟩] [6])
 .ret)
 (.skip [0,7,10,11]))) (sg c18S11))
def c18S13(_:Unit):Cmd:=(.seq (.ops [
 ⟨some 76,.move (.tmp 0),37,none⟩,
 ⟨some 77,.move (.tmp 7),3,none⟩,
 ⟨some 78,.move (.tmp 1),9,none⟩,
 ⟨some 79,.move (.tmp 2),9,none⟩,
 ⟨some 80,.call ⟨.value (.func 68),#[(.tmp 76),(.tmp 77),(.const (.int .i64 32)),(.tmp 78),(.tmp 79)],#[37,3,3,9,9]⟩,121,none⟩,
 ⟨some 75,.move (.tmp 80),121,none⟩,
 ⟨some 81,.extract (.tmp 75) 0,9,none⟩,
 ⟨some 82,.extract (.tmp 75) 1,3,none⟩,
 ⟨some 83,.extract (.tmp 75) 2,30,none⟩,
 ⟨some 10,.assign (.tmp 81),9,none⟩,
 ⟨some 11,.assign (.tmp 82),3,none⟩,
 ⟨some 8,.assign (.tmp 83),30,none⟩] [0,7,8,10,11]) (sg c18S12))
def c18S14(_:Unit):Cmd:=(.seq (.seq (.ops [
 ⟨some 69,.move (.tmp 0),37,none⟩,
 ⟨some 70,.move (.tmp 7),3,none⟩,
 ⟨some 71,.call ⟨.value (.func 67),#[(.tmp 69),(.tmp 70)],#[37,3]⟩,30,none⟩,
 ⟨some 9,.assign (.tmp 71),30,none⟩] [0,1,2,7,9]) (sg c18S5)) (sg c18S13))
def c18S15(_:Unit):Cmd:=(.seq (.seq (.ops [
 ⟨some 35,.move (.tmp 7),3,none⟩,
 ⟨some 36,.binOp .eql 3 (.tmp 35) (.const (.int .i64 0)) 3,4,none⟩] [0,1,2,7,36])
 (.cond (.tmp 36)
 (.seq (.seq (.ops [
 ⟨some 38,.move (.tmp 0),37,none⟩,
 ⟨some 39,.nilCheck (.tmp 38),0,none⟩,
 ⟨some 40,.fieldAddr 56 (.tmp 39) 0,0,none⟩,
 ⟨some 41,.load 24 (.tmp 40),24,none⟩,
 ⟨some 42,.call ⟨.value (.func 64),#[(.tmp 41)],#[24]⟩,31,none⟩,
 ⟨some 37,.move (.tmp 42),31,none⟩,
 ⟨some 43,.extract (.tmp 37) 0,3,none⟩,
 ⟨some 44,.extract (.tmp 37) 1,30,none⟩,
 ⟨some 7,.assign (.tmp 43),3,none⟩,
 ⟨some 8,.assign (.tmp 44),30,none⟩] [0,1,2,7,8]) (sg c18S0)) (sg c18S4))
 (.skip [0,1,2,7]))) (sg c18S14))
def c18S16(_:Unit):Cmd:=(.seq (.block 0 (.seq (.ops [
 ⟨some 20,.move (.tmp 8),30,none⟩,
 ⟨some 21,.binOp .neq 30 (.tmp 20) (.const (.int .i64 0)) 30,4,none⟩,
 ⟨some 19,.assign (.tmp 21),4,none⟩] [0,1,2,7,8,19])
 (.cond (.tmp 19)
 (.seq (.ops [
 ⟨some 22,.move (.tmp 8),30,none⟩,
 ⟨some 6,.assign (.tmp 22),30,none⟩] [6])
 .ret)
 (.seq (.ops [
 ⟨some 24,.move (.tmp 1),9,none⟩,
 ⟨some 25,.binOp .eql 9 (.tmp 24) (.const (.string (ofL []))) 9,4,none⟩,
 ⟨some 26,.move (.tmp 25),4,none⟩,
 ⟨some 27,.move (.tmp 1),9,(some (26,false))⟩,
 ⟨some 28,.call ⟨.builtin .len,#[(.tmp 27)],#[9]⟩,3,(some (26,false))⟩,
 ⟨some 29,.binOp .gtr 3 (.tmp 28) (.const (.int .i64 32)) 3,4,(some (26,false))⟩,
 ⟨some 30,.pick (.tmp 26) (.const (.bool true)) (.tmp 29),4,none⟩,
 ⟨some 23,.assign (.tmp 30),4,none⟩] [0,1,2,7,23])
 (.cond (.tmp 23)
 (.seq (.ops [
 ⟨some 6,.assign (.const (.int .i64 22)),30,none⟩] [6])
 .ret)
 (.seq (.ops [
 ⟨some 32,.move (.tmp 2),9,none⟩,
 ⟨some 33,.call ⟨.builtin .len,#[(.tmp 32)],#[9]⟩,3,none⟩,
 ⟨some 34,.binOp .gtr 3 (.tmp 33) (.const (.int .i64 80)) 3,4,none⟩,
 ⟨some 31,.assign (.tmp 34),4,none⟩] [0,1,2,7,31])
 (.cond (.tmp 31)
 (.seq (.ops [
 ⟨some 6,.assign (.const (.int .i64 21)),30,none⟩] [6])
 .ret)
 (.skip [0,1,2,7])))))))) (sg c18S15))
def c18:Cmd:=(.seq (.ops [
 ⟨some 6,.assign (.const (.int .i64 0)),30,none⟩] [0,1,2])
 (.seq (.ops [
 ⟨some 15,.move (.tmp 0),37,none⟩,
 ⟨some 16,.call ⟨.value (.func 63),#[(.tmp 15)],#[37]⟩,31,none⟩,
 ⟨some 14,.move (.tmp 16),31,none⟩,
 ⟨some 17,.extract (.tmp 14) 0,3,none⟩,
 ⟨some 18,.extract (.tmp 14) 1,30,none⟩,
 ⟨some 7,.assign (.tmp 17),3,none⟩,
 ⟨some 8,.assign (.tmp 18),30,none⟩] [0,1,2,7,8]) (sg c18S16)))
attribute [go_sem] c18 c18S0 c18S1 c18S2 c18S5 c18S6 c18S7 c18S8 c18S9 c18S12 c18S16
def c18D0:List (Nat × Ins):=[
 (0,⟨some 59,.move (.tmp 0),37,none⟩),
 (0,⟨some 60,.nilCheck (.tmp 59),0,none⟩),
 (0,⟨some 61,.fieldAddr 56 (.tmp 60) 0,0,none⟩),
 (0,⟨some 63,.move (.tmp 0),37,none⟩),
 (0,⟨some 64,.nilCheck (.tmp 63),0,none⟩),
 (0,⟨some 65,.fieldAddr 56 (.tmp 64) 1,0,none⟩),
 (0,⟨some 67,.move (.tmp 7),3,none⟩),
 (1,⟨some 62,.load 24 (.tmp 61),24,none⟩),
 (2,⟨some 66,.load 3 (.tmp 65),3,none⟩),
 (3,⟨some 68,.call ⟨.value (.func 66),#[(.tmp 62),(.tmp 66),(.tmp 67)],#[24,3,3]⟩,30,none⟩),
 (0,⟨some 6,.assign (.tmp 68),30,none⟩)]
theorem c18draw0{L:List Nat}{ρ:Env}{w:World}{Q:Post}(S:World→Prop)(hS:S w.drew)(h:DG Tryz.prog S c18D0 L ρ w.drew Q):drawW Tryz.prog (drawOps 0 c18code) L ρ w Q :=
 drawW_held [3] [(0,0),(0,1),(0,2),(0,4),(0,5),(0,6),(0,8),(1,3),(2,7),(3,9),(0,10)] c18D0 (by kernel_rfl) (by kernel_rfl) (by kernel_rfl) S hS h
def c18D1:List (Nat × Ins):=[
 (0,⟨some 114,.move (.tmp 0),37,none⟩),
 (0,⟨some 115,.nilCheck (.tmp 114),0,none⟩),
 (0,⟨some 116,.fieldAddr 56 (.tmp 115) 0,0,none⟩),
 (0,⟨some 118,.move (.tmp 0),37,none⟩),
 (0,⟨some 119,.nilCheck (.tmp 118),0,none⟩),
 (0,⟨some 120,.fieldAddr 56 (.tmp 119) 1,0,none⟩),
 (0,⟨some 122,.move (.tmp 12),3,none⟩),
 (1,⟨some 117,.load 24 (.tmp 116),24,none⟩),
 (2,⟨some 121,.load 3 (.tmp 120),3,none⟩),
 (3,⟨some 123,.call ⟨.value (.func 66),#[(.tmp 117),(.tmp 121),(.tmp 122)],#[24,3,3]⟩,30,none⟩),
 (0,⟨some 6,.assign (.tmp 123),30,none⟩)]
theorem c18draw1{L:List Nat}{ρ:Env}{w:World}{Q:Post}(S:World→Prop)(hS:S w.drew)(h:DG Tryz.prog S c18D1 L ρ w.drew Q):drawW Tryz.prog (drawOps 1 c18code) L ρ w Q :=
 drawW_held [3] [(0,0),(0,1),(0,2),(0,4),(0,5),(0,6),(0,8),(1,3),(2,7),(3,9),(0,10)] c18D1 (by kernel_rfl) (by kernel_rfl) (by kernel_rfl) S hS h
theorem ent18(a0 a1 a2:Value)(w:World)(K:Value→World→Prop)(h:W Tryz.prog c18 [(0,a0),(1,a1),(2,a2)] w (finQ Tryz.prog [.tmp 6] K)):Ret Tryz.prog 18 [a0,a1,a2] w K :=
 Ret_of_W (code:=c18code) Tryz.func18 (by kernel_rfl) (by kernel_rfl) (of_decide_eq_true (by kernel_rfl)) h
@[go_sem] theorem go18:goFunc Tryz.prog 18=true:=by kernel_rfl
def c25code:Code:=match Tryz.f25.body with | some c=>c | none=>.skip
def c25S0(_:Unit):Cmd:=(.exit 1 [0,1,6,26])
def c25S1(_:Unit):Cmd:=(.seq (.ops [
 ⟨some 56,.fieldAddr 119 (.tmp 8) 2,0,none⟩,
 ⟨some 57,.load 22 (.tmp 56),22,none⟩,
 ⟨some 58,.move (.tmp 10),3,none⟩,
 ⟨some 59,.indexAddr 22 (.tmp 57) (.tmp 58),0,none⟩,
 ⟨some 60,.load 9 (.tmp 59),9,none⟩,
 ⟨some 4,.assign (.tmp 60),9,none⟩,
 ⟨some 5,.assign (.const (.int .i64 0)),30,none⟩] [4,5])
 .ret)
def c25S2(_:Unit):Cmd:=(.seq (.seq (.ops [
 ⟨some 54,.move (.tmp 11),4,none⟩,
 ⟨some 55,.unOp .not 4 (.tmp 54),4,none⟩] [8,10,55])
 (.cond (.tmp 55)
 (.seq (.ops [
 ⟨some 4,.assign (.const (.string (ofL []))),9,none⟩,
 ⟨some 5,.assign (.const (.int .i64 6)),30,none⟩] [4,5])
 .ret)
 (.skip [8,10]))) (sg c25S1))
def c25S3(_:Unit):Cmd:=(.seq (.ops [
 ⟨some 48,.fieldAddr 119 (.tmp 8) 1,0,none⟩,
 ⟨some 49,.load 22 (.tmp 48),22,none⟩,
 ⟨some 50,.move (.tmp 1),9,none⟩,
 ⟨some 51,.call ⟨.value (.func 77),#[(.tmp 49),(.tmp 50)],#[22,9]⟩,135,none⟩,
 ⟨some 47,.move (.tmp 51),135,none⟩,
 ⟨some 52,.extract (.tmp 47) 0,3,none⟩,
 ⟨some 53,.extract (.tmp 47) 1,4,none⟩,
 ⟨some 10,.assign (.tmp 52),3,none⟩,
 ⟨some 11,.assign (.tmp 53),4,none⟩] [8,10,11]) (sg c25S2))
def c25S4(_:Unit):Cmd:=(.seq (.seq (.ops [
 ⟨some 37,.fieldAddr 119 (.tmp 8) 0,0,none⟩,
 ⟨some 38,.load 4 (.tmp 37),4,none⟩,
 ⟨some 39,.unOp .not 4 (.tmp 38),4,none⟩] [0,1,8,26,39])
 (.cond (.tmp 39)
 (.seq (.draw (drawOps 0 c25code) [0,1,6,26]) (sg c25S0))
 (.skip [1,8]))) (sg c25S3))
def c25S5(_:Unit):Cmd:=(.seq (.seq (.ops [
 ⟨some 34,.move (.tmp 9),30,none⟩,
 ⟨some 35,.binOp .neq 30 (.tmp 34) (.const (.int .i64 0)) 30,4,none⟩] [0,1,8,9,26,35])
 (.cond (.tmp 35)
 (.seq (.ops [
 ⟨some 36,.move (.tmp 9),30,none⟩,
 ⟨some 4,.assign (.const (.string (ofL []))),9,none⟩,
 ⟨some 5,.assign (.tmp 36),30,none⟩] [4,5])
 .ret)
 (.skip [0,1,8,26]))) (sg c25S4))
def c25S6(_:Unit):Cmd:=(.ops [
 ⟨some 61,.binOp .add 3 (.tmp 26) (.const (.int .i64 1)) 3,3,none⟩,
 ⟨some 26,.move (.tmp 61),3,none⟩] [0,1,6,26])
def c25S7(_:Unit):Cmd:=(.seq (.block 1 (.seq (.ops [
 ⟨some 29,.move (.tmp 0),37,none⟩,
 ⟨some 30,.move (.tmp 6),3,none⟩,
 ⟨some 31,.call ⟨.value (.func 75),#[(.tmp 29),(.tmp 30)],#[37,3]⟩,133,none⟩,
 ⟨some 28,.move (.tmp 31),133,none⟩,
 ⟨some 32,.extract (.tmp 28) 0,119,none⟩,
 ⟨some 33,.extract (.tmp 28) 1,30,none⟩,
 ⟨some 8,.alloc 119,0,none⟩,
 ⟨none,.store 119 (.tmp 8) (.tmp 32),0,none⟩,
 ⟨some 9,.assign (.tmp 33),30,none⟩] [0,1,8,9,26]) (sg c25S5))) (sg c25S6))
def c25L0(_:Unit):Cmd:=(.seq (.ops [
 ⟨some 27,.binOp .lss 3 (.tmp 26) (.const (.int .i64 1024)) 3,4,none⟩] [0,1,6,26,27])
 (.seq (.cond (.tmp 27)
 (.skip [0,1,6,26])
 (.exit 0 [])) (sg c25S7)))
def c25S8(_:Unit):Cmd:=(.seq (.ops [
 ⟨some 4,.assign (.const (.string (ofL []))),9,none⟩,
 ⟨some 5,.assign (.const (.int .i64 14)),30,none⟩] [4,5])
 .ret)
def c25S9(_:Unit):Cmd:=(.seq (.seq (.ops [
 ⟨some 26,.move (.const (.int .i64 0)),3,none⟩] [0,1,6,26])
 (.block 0 (.loop (sg c25L0)))) (sg c25S8))
def c25S10(_:Unit):Cmd:=(.seq (.seq (.ops [
 ⟨some 23,.move (.tmp 7),30,none⟩,
 ⟨some 24,.binOp .neq 30 (.tmp 23) (.const (.int .i64 0)) 30,4,none⟩] [0,1,6,7,24])
 (.cond (.tmp 24)
 (.seq (.ops [
 ⟨some 25,.move (.tmp 7),30,none⟩,
 ⟨some 4,.assign (.const (.string (ofL []))),9,none⟩,
 ⟨some 5,.assign (.tmp 25),30,none⟩] [4,5])
 .ret)
 (.skip [0,1,6]))) (sg c25S9))
def c25S11(_:Unit):Cmd:=(.seq (.seq (.ops [
 ⟨some 17,.move (.tmp 7),30,none⟩,
 ⟨some 18,.binOp .eql 30 (.tmp 17) (.const (.int .i64 0)) 30,4,none⟩,
 ⟨some 19,.move (.tmp 18),4,none⟩,
 ⟨some 20,.move (.tmp 6),3,(some (19,true))⟩,
 ⟨some 21,.binOp .eql 3 (.tmp 20) (.const (.int .i64 0)) 3,4,(some (19,true))⟩,
 ⟨some 22,.pick (.tmp 19) (.tmp 21) (.const (.bool false)),4,none⟩] [0,1,6,7,22])
 (.cond (.tmp 22)
 (.ops [
 ⟨some 7,.assign (.const (.int .i64 6)),30,none⟩] [0,1,6,7])
 (.skip [0,1,6,7]))) (sg c25S10))
def c25:Cmd:=(.seq (.ops [
 ⟨some 4,.assign (.const (.string (ofL []))),9,none⟩,
 ⟨some 5,.assign (.const (.int .i64 0)),30,none⟩] [0,1])
 (.seq (.ops [
 ⟨some 13,.move (.tmp 0),37,none⟩,
 ⟨some 14,.call ⟨.value (.func 63),#[(.tmp 13)],#[37]⟩,31,none⟩,
 ⟨some 12,.move (.tmp 14),31,none⟩,
 ⟨some 15,.extract (.tmp 12) 0,3,none⟩,
 ⟨some 16,.extract (.tmp 12) 1,30,none⟩,
 ⟨some 6,.assign (.tmp 15),3,none⟩,
 ⟨some 7,.assign (.tmp 16),30,none⟩] [0,1,6,7]) (sg c25S11)))
attribute [go_sem] c25 c25S0 c25S1 c25S2 c25S3 c25S4 c25S7 c25S9 c25S10 c25S11
def c25D0:List (Nat × Ins):=[
 (0,⟨some 40,.fieldAddr 119 (.tmp 8) 3,0,none⟩),
 (0,⟨some 43,.move (.tmp 1),9,none⟩),
 (1,⟨some 41,.load 48 (.tmp 40),48,none⟩),
 (2,⟨some 42,.load 119 (.tmp 8),119,none⟩),
 (2,⟨some 44,.call ⟨.value (.func 76),#[(.tmp 42),(.tmp 43)],#[119,9]⟩,3,none⟩),
 (0,⟨some 45,.indexAddr 48 (.tmp 41) (.tmp 44),0,none⟩),
 (2,⟨some 46,.load 3 (.tmp 45),3,none⟩),
 (0,⟨some 6,.assign (.tmp 46),3,none⟩)]
theorem c25draw0{L:List Nat}{ρ:Env}{w:World}{Q:Post}(S:World→Prop)(hS:S w.drew)(h:DG Tryz.prog S c25D0 L ρ w.drew Q):drawW Tryz.prog (drawOps 0 c25code) L ρ w Q :=
 drawW_held [1] [(0,0),(0,3),(1,1),(2,2),(2,4),(0,5),(2,6),(0,7)] c25D0 (by kernel_rfl) (by kernel_rfl) (by kernel_rfl) S hS h
theorem ent25(a0 a1:Value)(w:World)(K:Value→World→Prop)(h:W Tryz.prog c25 [(0,a0),(1,a1)] w (finQ Tryz.prog [.tmp 4,.tmp 5] K)):Ret Tryz.prog 25 [a0,a1] w K :=
 Ret_of_W (code:=c25code) Tryz.func25 (by kernel_rfl) (by kernel_rfl) (of_decide_eq_true (by kernel_rfl)) h
@[go_sem] theorem go25:goFunc Tryz.prog 25=true:=by kernel_rfl
@[go_sem] theorem go26:goFunc Tryz.prog 26=true:=by kernel_rfl
def c27code:Code:=match Tryz.f27.body with | some c=>c | none=>.skip
def c27A0(_:Unit):Cmd:=(.skip [3])
def c27B0(_:Unit):Cmd:=(.block 1 (.opsX [
 ⟨some 8,.load 3 (.tmp 3),3,none⟩,
 ⟨some 9,.binOp .add 3 (.tmp 8) (.const (.int .i64 1)) 3,3,none⟩,
 ⟨none,.store 3 (.tmp 3) (.tmp 9),0,none⟩] []))
def c27S0(_:Unit):Cmd:=(.block 0 (.rangeF (.tmp 5) [6,7] (sg c27A0) (sg c27B0) [2,3]))
def c27S1(_:Unit):Cmd:=(.seq (.ops [
 ⟨some 10,.load 3 (.tmp 3),3,none⟩,
 ⟨some 2,.assign (.tmp 10),3,none⟩] [2])
 .ret)
def c27:Cmd:=(.seq (.ops [
 ⟨some 2,.assign (.const (.int .i64 0)),3,none⟩] [0,2])
 (.seq (.ops [
 ⟨some 3,.alloc 3,0,none⟩,
 ⟨none,.store 3 (.tmp 3) (.const (.int .i64 0)),0,none⟩] [0,2,3])
 (.seq (.seq (.ops [
 ⟨some 4,.move (.tmp 0),37,none⟩,
 ⟨some 5,.call ⟨.value (.func 82),#[(.tmp 4)],#[37]⟩,129,none⟩] [2,3,5]) (sg c27S0)) (sg c27S1))))
attribute [go_sem] c27 c27A0 c27S0 c27S1
theorem ent27(a0:Value)(w:World)(K:Value→World→Prop)(h:W Tryz.prog c27 [(0,a0)] w (finQ Tryz.prog [.tmp 2] K)):Ret Tryz.prog 27 [a0] w K :=
 Ret_of_W (code:=c27code) Tryz.func27 (by kernel_rfl) (by kernel_rfl) (of_decide_eq_true (by kernel_rfl)) h
@[go_sem] theorem go27:goFunc Tryz.prog 27=true:=by kernel_rfl
def c82code:Code:=match Tryz.f82.body with | some c=>c | none=>.skip
def c82S0(_:Unit):Cmd:=.ret
def c82:Cmd:=(.seq (.ops [
 ⟨some 2,.assign (.const .nilFunc),129,none⟩] [0])
 (.seq (.ops [
 ⟨some 3,.move (.tmp 0),37,none⟩,
 ⟨some 4,.call ⟨.value (.func 72),#[(.tmp 3),(.const (.string (ofL [])))],#[37,9]⟩,129,none⟩,
 ⟨some 2,.assign (.tmp 4),129,none⟩] [2]) (sg c82S0)))
attribute [go_sem] c82 c82S0
theorem ent82(a0:Value)(w:World)(K:Value→World→Prop)(h:W Tryz.prog c82 [(0,a0)] w (finQ Tryz.prog [.tmp 2] K)):Ret Tryz.prog 82 [a0] w K :=
 Ret_of_W (code:=c82code) Tryz.func82 (by kernel_rfl) (by kernel_rfl) (of_decide_eq_true (by kernel_rfl)) h
@[go_sem] theorem go82:goFunc Tryz.prog 82=true:=by kernel_rfl
def c72code:Code:=match Tryz.f72.body with | some c=>c | none=>.skip
def c72:Cmd:=(.seq (.ops [
 ⟨some 2,.box 37 (.tmp 0),0,none⟩,
 ⟨some 3,.box 9 (.tmp 1),0,none⟩,
 ⟨some 4,.assign (.const .nilFunc),129,none⟩] [2,3])
 (.seq (.ops [
 ⟨some 5,.makeFunc (.func 134) #[] #[(.tmp 2),(.tmp 3)],128,none⟩,
 ⟨some 4,.assign (.tmp 5),129,none⟩] [4])
 .ret))
attribute [go_sem] c72
theorem ent72(a0 a1:Value)(w:World)(K:Value→World→Prop)(h:W Tryz.prog c72 [(0,a0),(1,a1)] w (finQ Tryz.prog [.tmp 4] K)):Ret Tryz.prog 72 [a0,a1] w K :=
 Ret_of_W (code:=c72code) Tryz.func72 (by kernel_rfl) (by kernel_rfl) (of_decide_eq_true (by kernel_rfl)) h
@[go_sem] theorem go72:goFunc Tryz.prog 72=true:=by kernel_rfl
def c134code:Code:=match Tryz.f134.body with | some c=>c | none=>.skip
def c134S0(_:Unit):Cmd:=(.seq (.ops [
 ⟨some 12,.move (.tmp 5),30,none⟩,
 ⟨some 13,.binOp .eql 30 (.tmp 12) (.const (.int .i64 0)) 30,4,none⟩,
 ⟨some 14,.move (.tmp 13),4,none⟩,
 ⟨some 15,.move (.tmp 4),3,(some (14,true))⟩,
 ⟨some 16,.binOp .neq 3 (.tmp 15) (.const (.int .i64 0)) 3,4,(some (14,true))⟩,
 ⟨some 17,.pick (.tmp 14) (.tmp 16) (.const (.bool false)),4,none⟩] [0,1,2,4,17])
 (.cond (.tmp 17)
 (.seq (.ops [
 ⟨some 18,.load 37 (.tmp 1),37,none⟩,
 ⟨some 19,.load 9 (.tmp 2),9,none⟩,
 ⟨some 20,.move (.tmp 0),131,none⟩,
 ⟨some 21,.build 189 #[(0,(.tmp 18)),(1,(.tmp 19)),(2,(.tmp 20)),(3,(.const (.int .i64 1024)))],189,none⟩,
 ⟨some 22,.box 189 (.tmp 21),187,none⟩,
 ⟨some 6,.assign (.tmp 22),187,none⟩] [4,6])
 (.ops [
 ⟨some 23,.move (.tmp 6),187,none⟩,
 ⟨some 24,.move (.tmp 4),3,none⟩,
 ⟨some 25,.call ⟨.value (.func 135),#[(.tmp 23),(.tmp 24),(.const (.int .i64 32))],#[187,3,3]⟩,4,none⟩] []))
 (.skip [])))
def c134:Cmd:=(.seq (.ops [
 ⟨some 8,.load 37 (.tmp 1),37,none⟩,
 ⟨some 9,.call ⟨.value (.func 63),#[(.tmp 8)],#[37]⟩,31,none⟩,
 ⟨some 7,.move (.tmp 9),31,none⟩,
 ⟨some 10,.extract (.tmp 7) 0,3,none⟩,
 ⟨some 11,.extract (.tmp 7) 1,30,none⟩,
 ⟨some 4,.assign (.tmp 10),3,none⟩,
 ⟨some 5,.assign (.tmp 11),30,none⟩] [0,1,2,4,5]) (sg c134S0))
attribute [go_sem] c134 c134S0
theorem ent134(a0 a1 a2:Value)(w:World)(K:Value→World→Prop)(h:W Tryz.prog c134 [(0,a0),(1,a1),(2,a2)] w (finQ Tryz.prog [] K)):Ret Tryz.prog 134 [a0,a1,a2] w K :=
 Ret_of_W (code:=c134code) Tryz.func134 (by kernel_rfl) (by kernel_rfl) (of_decide_eq_true (by kernel_rfl)) h
@[go_sem] theorem go134:goFunc Tryz.prog 134=true:=by kernel_rfl
def c63code:Code:=match Tryz.f63.body with | some c=>c | none=>.skip
def c63S0(_:Unit):Cmd:=.ret
def c63S1(_:Unit):Cmd:=(.seq (.draw (drawOps 0 c63code) [2,3]) (sg c63S0))
def c63:Cmd:=(.seq (.ops [
 ⟨some 2,.assign (.const (.int .i64 0)),3,none⟩,
 ⟨some 3,.assign (.const (.int .i64 0)),30,none⟩] [0])
 (.seq (.seq (.ops [
 ⟨some 4,.move (.tmp 0),37,none⟩,
 ⟨some 5,.binOp .eql 37 (.tmp 4) (.const (.pointer none)) 37,4,none⟩,
 ⟨some 6,.move (.tmp 5),4,none⟩,
 ⟨some 7,.move (.tmp 0),37,(some (6,false))⟩,
 ⟨some 8,.nilCheck (.tmp 7),0,(some (6,false))⟩,
 ⟨some 9,.fieldAddr 56 (.tmp 8) 0,0,(some (6,false))⟩,
 ⟨some 10,.load 24 (.tmp 9),24,(some (6,false))⟩,
 ⟨some 11,.binOp .eql 24 (.tmp 10) (.const (.pointer none)) 24,4,(some (6,false))⟩,
 ⟨some 12,.pick (.tmp 6) (.const (.bool true)) (.tmp 11),4,none⟩] [0,12])
 (.cond (.tmp 12)
 (.seq (.ops [
 ⟨some 2,.assign (.const (.int .i64 0)),3,none⟩,
 ⟨some 3,.assign (.const (.int .i64 3)),30,none⟩] [2,3])
 .ret)
 (.skip [0]))) (sg c63S1)))
attribute [go_sem] c63 c63S0 c63S1
def c63D0:List (Nat × Ins):=[
 (0,⟨some 13,.move (.tmp 0),37,none⟩),
 (0,⟨some 14,.nilCheck (.tmp 13),0,none⟩),
 (0,⟨some 15,.fieldAddr 56 (.tmp 14) 0,0,none⟩),
 (0,⟨some 17,.move (.tmp 0),37,none⟩),
 (0,⟨some 18,.nilCheck (.tmp 17),0,none⟩),
 (0,⟨some 19,.fieldAddr 56 (.tmp 18) 1,0,none⟩),
 (1,⟨some 16,.load 24 (.tmp 15),24,none⟩),
 (2,⟨some 20,.load 3 (.tmp 19),3,none⟩),
 (3,⟨some 21,.call ⟨.value (.func 36),#[(.tmp 16),(.tmp 20)],#[24,3]⟩,31,none⟩),
 (0,⟨some 22,.extract (.tmp 21) 0,3,none⟩),
 (0,⟨some 23,.extract (.tmp 21) 1,30,none⟩),
 (0,⟨some 2,.assign (.tmp 22),3,none⟩),
 (0,⟨some 3,.assign (.tmp 23),30,none⟩)]
theorem c63draw0{L:List Nat}{ρ:Env}{w:World}{Q:Post}(S:World→Prop)(hS:S w.drew)(h:DG Tryz.prog S c63D0 L ρ w.drew Q):drawW Tryz.prog (drawOps 0 c63code) L ρ w Q :=
 drawW_held [3] [(0,0),(0,1),(0,2),(0,4),(0,5),(0,6),(1,3),(2,7),(3,8),(0,9),(0,10),(0,11),(0,12)] c63D0 (by kernel_rfl) (by kernel_rfl) (by kernel_rfl) S hS h
theorem ent63(a0:Value)(w:World)(K:Value→World→Prop)(h:W Tryz.prog c63 [(0,a0)] w (finQ Tryz.prog [.tmp 2,.tmp 3] K)):Ret Tryz.prog 63 [a0] w K :=
 Ret_of_W (code:=c63code) Tryz.func63 (by kernel_rfl) (by kernel_rfl) (of_decide_eq_true (by kernel_rfl)) h
@[go_sem] theorem go63:goFunc Tryz.prog 63=true:=by kernel_rfl
def c65code:Code:=match Tryz.f65.body with | some c=>c | none=>.skip
def c65S0(_:Unit):Cmd:=.ret
def c65:Cmd:=(.seq (.ops [
 ⟨some 5,.box 119 (.tmp 2),0,none⟩,
 ⟨some 6,.assign (.const (.int .i64 0)),30,none⟩] [0,1,5])
 (.seq (.draw (drawOps 0 c65code) [6]) (sg c65S0)))
attribute [go_sem] c65 c65S0
def c65D0:List (Nat × Ins):=[
 (0,⟨some 7,.move (.tmp 0),37,none⟩),
 (0,⟨some 8,.nilCheck (.tmp 7),0,none⟩),
 (0,⟨some 9,.fieldAddr 56 (.tmp 8) 0,0,none⟩),
 (0,⟨some 11,.move (.tmp 1),3,none⟩),
 (1,⟨some 10,.load 24 (.tmp 9),24,none⟩),
 (2,⟨some 12,.load 119 (.tmp 5),119,none⟩),
 (2,⟨some 13,.call ⟨.value (.func 127),#[(.tmp 12)],#[119]⟩,9,none⟩),
 (3,⟨some 14,.call ⟨.value (.func 19),#[(.tmp 10),(.tmp 11),(.tmp 13)],#[24,3,9]⟩,30,none⟩),
 (0,⟨some 6,.assign (.tmp 14),30,none⟩)]
theorem c65draw0{L:List Nat}{ρ:Env}{w:World}{Q:Post}(S:World→Prop)(hS:S w.drew)(h:DG Tryz.prog S c65D0 L ρ w.drew Q):drawW Tryz.prog (drawOps 0 c65code) L ρ w Q :=
 drawW_held [3] [(0,0),(0,1),(0,2),(0,4),(1,3),(2,5),(2,6),(3,7),(0,8)] c65D0 (by kernel_rfl) (by kernel_rfl) (by kernel_rfl) S hS h
theorem ent65(a0 a1 a2:Value)(w:World)(K:Value→World→Prop)(h:W Tryz.prog c65 [(0,a0),(1,a1),(2,a2)] w (finQ Tryz.prog [.tmp 6] K)):Ret Tryz.prog 65 [a0,a1,a2] w K :=
 Ret_of_W (code:=c65code) Tryz.func65 (by kernel_rfl) (by kernel_rfl) (of_decide_eq_true (by kernel_rfl)) h
@[go_sem] theorem go65:goFunc Tryz.prog 65=true:=by kernel_rfl
def c67code:Code:=match Tryz.f67.body with | some c=>c | none=>.skip
def c67S0(_:Unit):Cmd:=(.seq (.ops [
 ⟨some 21,.fieldAddr 119 (.tmp 6) 3,0,none⟩,
 ⟨some 22,.load 48 (.tmp 21),48,none⟩,
 ⟨some 23,.indexAddr 48 (.tmp 22) (.const (.int .i64 0)),0,none⟩,
 ⟨some 24,.load 3 (.tmp 23),3,none⟩,
 ⟨some 1,.assign (.tmp 24),3,none⟩] [0,1,5,8])
 (.ops [
 ⟨some 25,.move (.tmp 5),3,none⟩,
 ⟨some 26,.binOp .add 3 (.tmp 25) (.const (.int .i64 1)) 3,3,none⟩,
 ⟨some 5,.assign (.tmp 26),3,none⟩] [0,1,5,8]))
def c67S1(_:Unit):Cmd:=(.seq (.seq (.ops [
 ⟨some 19,.fieldAddr 119 (.tmp 6) 0,0,none⟩,
 ⟨some 20,.load 4 (.tmp 19),4,none⟩] [0,5,6,8,20])
 (.cond (.tmp 20)
 (.exit 0 [0,5])
 (.skip [0,5,6,8]))) (sg c67S0))
def c67S2(_:Unit):Cmd:=(.seq (.seq (.ops [
 ⟨some 16,.move (.tmp 7),30,none⟩,
 ⟨some 17,.binOp .neq 30 (.tmp 16) (.const (.int .i64 0)) 30,4,none⟩] [0,5,6,7,8,17])
 (.cond (.tmp 17)
 (.seq (.ops [
 ⟨some 18,.move (.tmp 7),30,none⟩,
 ⟨some 4,.assign (.tmp 18),30,none⟩] [4])
 .ret)
 (.skip [0,5,6,8]))) (sg c67S1))
def c67S3(_:Unit):Cmd:=(.ops [
 ⟨some 27,.binOp .add 3 (.tmp 8) (.const (.int .i64 1)) 3,3,none⟩,
 ⟨some 8,.move (.tmp 27),3,none⟩] [0,1,5,8])
def c67S4(_:Unit):Cmd:=(.seq (.block 1 (.seq (.ops [
 ⟨some 11,.move (.tmp 0),37,none⟩,
 ⟨some 12,.move (.tmp 1),3,none⟩,
 ⟨some 13,.call ⟨.value (.func 75),#[(.tmp 11),(.tmp 12)],#[37,3]⟩,133,none⟩,
 ⟨some 10,.move (.tmp 13),133,none⟩,
 ⟨some 14,.extract (.tmp 10) 0,119,none⟩,
 ⟨some 15,.extract (.tmp 10) 1,30,none⟩,
 ⟨some 6,.alloc 119,0,none⟩,
 ⟨none,.store 119 (.tmp 6) (.tmp 14),0,none⟩,
 ⟨some 7,.assign (.tmp 15),30,none⟩] [0,5,6,7,8]) (sg c67S2))) (sg c67S3))
def c67L0(_:Unit):Cmd:=(.seq (.ops [
 ⟨some 9,.binOp .lss 3 (.tmp 8) (.const (.int .i64 32)) 3,4,none⟩] [0,1,5,8,9])
 (.seq (.cond (.tmp 9)
 (.skip [0,1,5,8])
 (.exit 0 [0,5])) (sg c67S4)))
def c67S5(_:Unit):Cmd:=(.cond (.tmp 35)
 (.seq (.ops [
 ⟨some 4,.assign (.const (.int .i64 13)),30,none⟩] [4])
 .ret)
 (.skip []))
def c67S6(_:Unit):Cmd:=(.seq (.ops [
 ⟨some 4,.assign (.const (.int .i64 0)),30,none⟩] [4])
 .ret)
def c67S7(_:Unit):Cmd:=(.seq (.seq (.ops [
 ⟨some 28,.move (.tmp 0),37,none⟩,
 ⟨some 29,.nilCheck (.tmp 28),0,none⟩,
 ⟨some 30,.fieldAddr 56 (.tmp 29) 0,0,none⟩,
 ⟨some 31,.load 24 (.tmp 30),24,none⟩,
 ⟨some 32,.call ⟨.value (.func 12),#[(.tmp 31)],#[24]⟩,3,none⟩,
 ⟨some 33,.move (.tmp 5),3,none⟩,
 ⟨some 34,.binOp .add 3 (.tmp 33) (.const (.int .i64 1)) 3,3,none⟩,
 ⟨some 35,.binOp .lss 3 (.tmp 32) (.tmp 34) 3,4,none⟩] [35]) (sg c67S5)) (sg c67S6))
def c67:Cmd:=(.seq (.ops [
 ⟨some 4,.assign (.const (.int .i64 0)),30,none⟩] [0,1])
 (.seq (.ops [
 ⟨some 5,.assign (.const (.int .i64 1)),3,none⟩] [0,1,5])
 (.seq (.seq (.ops [
 ⟨some 8,.move (.const (.int .i64 0)),3,none⟩] [0,1,5,8])
 (.block 0 (.loop (sg c67L0)))) (sg c67S7))))
attribute [go_sem] c67 c67S0 c67S1 c67S3 c67S4 c67S5 c67S6
theorem ent67(a0 a1:Value)(w:World)(K:Value→World→Prop)(h:W Tryz.prog c67 [(0,a0),(1,a1)] w (finQ Tryz.prog [.tmp 4] K)):Ret Tryz.prog 67 [a0,a1] w K :=
 Ret_of_W (code:=c67code) Tryz.func67 (by kernel_rfl) (by kernel_rfl) (of_decide_eq_true (by kernel_rfl)) h
@[go_sem] theorem go67:goFunc Tryz.prog 67=true:=by kernel_rfl
def c68code:Code:=match Tryz.f68.body with | some c=>c | none=>.skip
def c68S0(_:Unit):Cmd:=(.ops [
 ⟨some 57,.fieldAddr 119 (.tmp 13) 2,0,none⟩,
 ⟨some 58,.load 22 (.tmp 57),22,none⟩,
 ⟨some 59,.move (.tmp 15),3,none⟩,
 ⟨some 60,.move (.tmp 4),9,none⟩,
 ⟨some 61,.buildSlice 22 1 #[(0,(.tmp 60))],22,none⟩,
 ⟨some 62,.call ⟨.value (.func 128),#[(.tmp 58),(.tmp 59),(.tmp 61)],#[22,3,22]⟩,22,none⟩,
 ⟨some 63,.fieldAddr 119 (.tmp 13) 2,0,none⟩,
 ⟨none,.store 22 (.tmp 63) (.tmp 62),0,none⟩] [0,1,13])
def c68S1(_:Unit):Cmd:=.ret
def c68S2(_:Unit):Cmd:=(.seq (.ops [
 ⟨some 64,.move (.tmp 0),37,none⟩,
 ⟨some 65,.move (.tmp 1),3,none⟩,
 ⟨some 66,.load 119 (.tmp 13),119,none⟩,
 ⟨some 67,.call ⟨.value (.func 129),#[(.tmp 64),(.tmp 65),(.tmp 66)],#[37,3,119]⟩,121,none⟩,
 ⟨some 68,.extract (.tmp 67) 0,9,none⟩,
 ⟨some 69,.extract (.tmp 67) 1,3,none⟩,
 ⟨some 70,.extract (.tmp 67) 2,30,none⟩,
 ⟨some 10,.assign (.tmp 68),9,none⟩,
 ⟨some 11,.assign (.tmp 69),3,none⟩,
 ⟨some 12,.assign (.tmp 70),30,none⟩] [10,11,12]) (sg c68S1))
def c68S3(_:Unit):Cmd:=(.seq (.seq (.ops [
 ⟨some 44,.move (.tmp 16),4,none⟩] [0,1,3,4,13,15,44])
 (.cond (.tmp 44)
 (.ops [
 ⟨some 45,.fieldAddr 119 (.tmp 13) 2,0,none⟩,
 ⟨some 46,.load 22 (.tmp 45),22,none⟩,
 ⟨some 47,.move (.tmp 15),3,none⟩,
 ⟨some 48,.move (.tmp 4),9,none⟩,
 ⟨some 49,.indexAddr 22 (.tmp 46) (.tmp 47),0,none⟩,
 ⟨none,.store 9 (.tmp 49) (.tmp 48),0,none⟩] [0,1,13])
 (.seq (.ops [
 ⟨some 50,.fieldAddr 119 (.tmp 13) 1,0,none⟩,
 ⟨some 51,.load 22 (.tmp 50),22,none⟩,
 ⟨some 52,.move (.tmp 15),3,none⟩,
 ⟨some 53,.move (.tmp 3),9,none⟩,
 ⟨some 54,.buildSlice 22 1 #[(0,(.tmp 53))],22,none⟩,
 ⟨some 55,.call ⟨.value (.func 128),#[(.tmp 51),(.tmp 52),(.tmp 54)],#[22,3,22]⟩,22,none⟩,
 ⟨some 56,.fieldAddr 119 (.tmp 13) 1,0,none⟩,
 ⟨none,.store 22 (.tmp 56) (.tmp 55),0,none⟩] [0,1,4,13,15]) (sg c68S0)))) (sg c68S2))
def c68S4(_:Unit):Cmd:=.ret
def c68S5(_:Unit):Cmd:=(.seq (.ops [
 ⟨some 111,.move (.tmp 0),37,none⟩,
 ⟨some 112,.move (.tmp 1),3,none⟩,
 ⟨some 113,.load 119 (.tmp 13),119,none⟩,
 ⟨some 114,.call ⟨.value (.func 129),#[(.tmp 111),(.tmp 112),(.tmp 113)],#[37,3,119]⟩,121,none⟩,
 ⟨some 115,.extract (.tmp 114) 0,9,none⟩,
 ⟨some 116,.extract (.tmp 114) 1,3,none⟩,
 ⟨some 117,.extract (.tmp 114) 2,30,none⟩,
 ⟨some 10,.assign (.tmp 115),9,none⟩,
 ⟨some 11,.assign (.tmp 116),3,none⟩,
 ⟨some 12,.assign (.tmp 117),30,none⟩] [10,11,12]) (sg c68S4))
def c68S6(_:Unit):Cmd:=(.seq (.ops [
 ⟨some 103,.fieldAddr 119 (.tmp 13) 3,0,none⟩,
 ⟨some 104,.load 48 (.tmp 103),48,none⟩,
 ⟨some 105,.move (.tmp 17),3,none⟩,
 ⟨some 106,.binOp .add 3 (.tmp 105) (.const (.int .i64 1)) 3,3,none⟩,
 ⟨some 107,.move (.tmp 19),3,none⟩,
 ⟨some 108,.buildSlice 48 1 #[(0,(.tmp 107))],48,none⟩,
 ⟨some 109,.call ⟨.value (.func 130),#[(.tmp 104),(.tmp 106),(.tmp 108)],#[48,3,48]⟩,48,none⟩,
 ⟨some 110,.fieldAddr 119 (.tmp 13) 3,0,none⟩,
 ⟨none,.store 48 (.tmp 110) (.tmp 109),0,none⟩] [0,1,13]) (sg c68S5))
def c68S7(_:Unit):Cmd:=(.seq (.ops [
 ⟨some 96,.fieldAddr 119 (.tmp 13) 1,0,none⟩,
 ⟨some 97,.load 22 (.tmp 96),22,none⟩,
 ⟨some 98,.move (.tmp 17),3,none⟩,
 ⟨some 99,.move (.tmp 18),9,none⟩,
 ⟨some 100,.buildSlice 22 1 #[(0,(.tmp 99))],22,none⟩,
 ⟨some 101,.call ⟨.value (.func 128),#[(.tmp 97),(.tmp 98),(.tmp 100)],#[22,3,22]⟩,22,none⟩,
 ⟨some 102,.fieldAddr 119 (.tmp 13) 1,0,none⟩,
 ⟨none,.store 22 (.tmp 102) (.tmp 101),0,none⟩] [0,1,13,17,19]) (sg c68S6))
def c68S8(_:Unit):Cmd:=(.seq (.seq (.ops [
 ⟨some 89,.move (.tmp 14),30,none⟩,
 ⟨some 90,.binOp .neq 30 (.tmp 89) (.const (.int .i64 0)) 30,4,none⟩,
 ⟨some 91,.move (.tmp 90),4,none⟩,
 ⟨some 92,.move (.tmp 19),3,(some (91,false))⟩,
 ⟨some 93,.binOp .eql 3 (.tmp 92) (.const (.int .i64 0)) 3,4,(some (91,false))⟩,
 ⟨some 94,.pick (.tmp 91) (.const (.bool true)) (.tmp 93),4,none⟩] [0,1,13,14,17,18,19,94])
 (.cond (.tmp 94)
 (.seq (.ops [
 ⟨some 95,.move (.tmp 14),30,none⟩,
 ⟨some 10,.assign (.const (.string (ofL []))),9,none⟩,
 ⟨some 11,.assign (.const (.int .i64 0)),3,none⟩,
 ⟨some 12,.assign (.tmp 95),30,none⟩] [10,11,12])
 .ret)
 (.skip [0,1,13,17,18,19]))) (sg c68S7))
def c68S9(_:Unit):Cmd:=(.seq (.ops [
 ⟨some 75,.move (.tmp 0),37,none⟩,
 ⟨some 76,.fieldAddr 119 (.tmp 13) 3,0,none⟩,
 ⟨some 77,.load 48 (.tmp 76),48,none⟩,
 ⟨some 78,.move (.tmp 17),3,none⟩,
 ⟨some 79,.indexAddr 48 (.tmp 77) (.tmp 78),0,none⟩,
 ⟨some 80,.load 3 (.tmp 79),3,none⟩,
 ⟨some 81,.move (.tmp 2),3,none⟩,
 ⟨some 82,.binOp .sub 3 (.tmp 81) (.const (.int .i64 1)) 3,3,none⟩,
 ⟨some 83,.move (.tmp 3),9,none⟩,
 ⟨some 84,.move (.tmp 4),9,none⟩,
 ⟨some 85,.call ⟨.value (.func 68),#[(.tmp 75),(.tmp 80),(.tmp 82),(.tmp 83),(.tmp 84)],#[37,3,3,9,9]⟩,121,none⟩,
 ⟨some 74,.move (.tmp 85),121,none⟩,
 ⟨some 86,.extract (.tmp 74) 0,9,none⟩,
 ⟨some 87,.extract (.tmp 74) 1,3,none⟩,
 ⟨some 88,.extract (.tmp 74) 2,30,none⟩,
 ⟨some 18,.assign (.tmp 86),9,none⟩,
 ⟨some 19,.assign (.tmp 87),3,none⟩,
 ⟨some 14,.assign (.tmp 88),30,none⟩] [0,1,13,14,17,18,19]) (sg c68S8))
def c68S10(_:Unit):Cmd:=(.seq (.ops [
 ⟨some 71,.load 119 (.tmp 13),119,none⟩,
 ⟨some 72,.move (.tmp 3),9,none⟩,
 ⟨some 73,.call ⟨.value (.func 76),#[(.tmp 71),(.tmp 72)],#[119,9]⟩,3,none⟩,
 ⟨some 17,.assign (.tmp 73),3,none⟩] [0,1,2,3,4,13,17]) (sg c68S9))
def c68S11(_:Unit):Cmd:=(.seq (.seq (.ops [
 ⟨some 35,.fieldAddr 119 (.tmp 13) 0,0,none⟩,
 ⟨some 36,.load 4 (.tmp 35),4,none⟩] [0,1,2,3,4,13,36])
 (.cond (.tmp 36)
 (.seq (.ops [
 ⟨some 38,.fieldAddr 119 (.tmp 13) 1,0,none⟩,
 ⟨some 39,.load 22 (.tmp 38),22,none⟩,
 ⟨some 40,.move (.tmp 3),9,none⟩,
 ⟨some 41,.call ⟨.value (.func 77),#[(.tmp 39),(.tmp 40)],#[22,9]⟩,135,none⟩,
 ⟨some 37,.move (.tmp 41),135,none⟩,
 ⟨some 42,.extract (.tmp 37) 0,3,none⟩,
 ⟨some 43,.extract (.tmp 37) 1,4,none⟩,
 ⟨some 15,.assign (.tmp 42),3,none⟩,
 ⟨some 16,.assign (.tmp 43),4,none⟩] [0,1,3,4,13,15,16]) (sg c68S3))
 (.skip [0,1,2,3,4,13]))) (sg c68S10))
def c68S12(_:Unit):Cmd:=(.seq (.seq (.ops [
 ⟨some 32,.move (.tmp 14),30,none⟩,
 ⟨some 33,.binOp .neq 30 (.tmp 32) (.const (.int .i64 0)) 30,4,none⟩] [0,1,2,3,4,13,14,33])
 (.cond (.tmp 33)
 (.seq (.ops [
 ⟨some 34,.move (.tmp 14),30,none⟩,
 ⟨some 10,.assign (.const (.string (ofL []))),9,none⟩,
 ⟨some 11,.assign (.const (.int .i64 0)),3,none⟩,
 ⟨some 12,.assign (.tmp 34),30,none⟩] [10,11,12])
 .ret)
 (.skip [0,1,2,3,4,13]))) (sg c68S11))
def c68S13(_:Unit):Cmd:=(.seq (.seq (.ops [
 ⟨some 26,.move (.tmp 14),30,none⟩,
 ⟨some 27,.binOp .eql 30 (.tmp 26) (.const (.int .i64 0)) 30,4,none⟩,
 ⟨some 28,.move (.tmp 27),4,none⟩,
 ⟨some 29,.move (.tmp 2),3,(some (28,true))⟩,
 ⟨some 30,.binOp .eql 3 (.tmp 29) (.const (.int .i64 0)) 3,4,(some (28,true))⟩,
 ⟨some 31,.pick (.tmp 28) (.tmp 30) (.const (.bool false)),4,none⟩] [0,1,2,3,4,13,14,31])
 (.cond (.tmp 31)
 (.ops [
 ⟨some 14,.assign (.const (.int .i64 14)),30,none⟩] [0,1,2,3,4,13,14])
 (.skip [0,1,2,3,4,13,14]))) (sg c68S12))
def c68:Cmd:=(.seq (.ops [
 ⟨some 10,.assign (.const (.string (ofL []))),9,none⟩,
 ⟨some 11,.assign (.const (.int .i64 0)),3,none⟩,
 ⟨some 12,.assign (.const (.int .i64 0)),30,none⟩] [0,1,2,3,4])
 (.seq (.ops [
 ⟨some 21,.move (.tmp 0),37,none⟩,
 ⟨some 22,.move (.tmp 1),3,none⟩,
 ⟨some 23,.call ⟨.value (.func 75),#[(.tmp 21),(.tmp 22)],#[37,3]⟩,133,none⟩,
 ⟨some 20,.move (.tmp 23),133,none⟩,
 ⟨some 24,.extract (.tmp 20) 0,119,none⟩,
 ⟨some 25,.extract (.tmp 20) 1,30,none⟩,
 ⟨some 13,.alloc 119,0,none⟩,
 ⟨none,.store 119 (.tmp 13) (.tmp 24),0,none⟩,
 ⟨some 14,.assign (.tmp 25),30,none⟩] [0,1,2,3,4,13,14]) (sg c68S13)))
attribute [go_sem] c68 c68S1 c68S4 c68S7 c68S9 c68S12
theorem ent68(a0 a1 a2 a3 a4:Value)(w:World)(K:Value→World→Prop)(h:W Tryz.prog c68 [(0,a0),(1,a1),(2,a2),(3,a3),(4,a4)] w (finQ Tryz.prog [.tmp 10,.tmp 11,.tmp 12] K)):Ret Tryz.prog 68 [a0,a1,a2,a3,a4] w K :=
 Ret_of_W (code:=c68code) Tryz.func68 (by kernel_rfl) (by kernel_rfl) (of_decide_eq_true (by kernel_rfl)) h
@[go_sem] theorem go68:goFunc Tryz.prog 68=true:=by kernel_rfl
def c129code:Code:=match Tryz.f129.body with | some c=>c | none=>.skip
def c129S0(_:Unit):Cmd:=.ret
def c129S1(_:Unit):Cmd:=(.cond (.tmp 17)
 (.seq (.ops [
 ⟨some 18,.move (.tmp 0),37,none⟩,
 ⟨some 19,.move (.tmp 1),3,none⟩,
 ⟨some 20,.load 119 (.tmp 5),119,none⟩,
 ⟨some 21,.call ⟨.value (.func 65),#[(.tmp 18),(.tmp 19),(.tmp 20)],#[37,3,119]⟩,30,none⟩,
 ⟨some 6,.assign (.const (.string (ofL []))),9,none⟩,
 ⟨some 7,.assign (.const (.int .i64 0)),3,none⟩,
 ⟨some 8,.assign (.tmp 21),30,none⟩] [6,7,8]) (sg c129S0))
 (.skip [0,1,5]))
def c129S2(_:Unit):Cmd:=(.seq (.ops [
 ⟨some 43,.move (.tmp 14),30,none⟩,
 ⟨some 44,.binOp .neq 30 (.tmp 43) (.const (.int .i64 0)) 30,4,none⟩] [0,10,11,12,14,44])
 (.cond (.tmp 44)
 (.seq (.ops [
 ⟨some 45,.move (.tmp 14),30,none⟩,
 ⟨some 6,.assign (.const (.string (ofL []))),9,none⟩,
 ⟨some 7,.assign (.const (.int .i64 0)),3,none⟩,
 ⟨some 8,.assign (.tmp 45),30,none⟩] [6,7,8])
 .ret)
 (.skip [0,10,11,12])))
def c129S3(_:Unit):Cmd:=.ret
def c129S4(_:Unit):Cmd:=(.seq (.ops [
 ⟨some 46,.move (.tmp 11),9,none⟩,
 ⟨some 47,.move (.tmp 12),3,none⟩,
 ⟨some 48,.move (.tmp 0),37,none⟩,
 ⟨some 49,.move (.tmp 12),3,none⟩,
 ⟨some 50,.load 119 (.tmp 10),119,none⟩,
 ⟨some 51,.call ⟨.value (.func 65),#[(.tmp 48),(.tmp 49),(.tmp 50)],#[37,3,119]⟩,30,none⟩,
 ⟨some 6,.assign (.tmp 46),9,none⟩,
 ⟨some 7,.assign (.tmp 47),3,none⟩,
 ⟨some 8,.assign (.tmp 51),30,none⟩] [6,7,8]) (sg c129S3))
def c129S5(_:Unit):Cmd:=(.seq (.seq (.ops [
 ⟨some 39,.move (.tmp 0),37,none⟩,
 ⟨some 40,.move (.tmp 1),3,none⟩,
 ⟨some 41,.load 119 (.tmp 9),119,none⟩,
 ⟨some 42,.call ⟨.value (.func 65),#[(.tmp 39),(.tmp 40),(.tmp 41)],#[37,3,119]⟩,30,none⟩,
 ⟨some 14,.assign (.tmp 42),30,none⟩] [0,10,11,12,14]) (sg c129S2)) (sg c129S4))
def c129S6(_:Unit):Cmd:=(.seq (.seq (.ops [
 ⟨some 36,.move (.tmp 13),30,none⟩,
 ⟨some 37,.binOp .neq 30 (.tmp 36) (.const (.int .i64 0)) 30,4,none⟩] [0,1,9,10,11,12,13,37])
 (.cond (.tmp 37)
 (.seq (.ops [
 ⟨some 38,.move (.tmp 13),30,none⟩,
 ⟨some 6,.assign (.const (.string (ofL []))),9,none⟩,
 ⟨some 7,.assign (.const (.int .i64 0)),3,none⟩,
 ⟨some 8,.assign (.tmp 38),30,none⟩] [6,7,8])
 .ret)
 (.skip [0,1,9,10,11,12]))) (sg c129S5))
def c129S7(_:Unit):Cmd:=(.seq (.ops [
 ⟨some 29,.move (.tmp 0),37,none⟩,
 ⟨some 30,.nilCheck (.tmp 29),0,none⟩,
 ⟨some 31,.fieldAddr 56 (.tmp 30) 0,0,none⟩,
 ⟨some 32,.load 24 (.tmp 31),24,none⟩,
 ⟨some 33,.call ⟨.value (.func 64),#[(.tmp 32)],#[24]⟩,31,none⟩,
 ⟨some 28,.move (.tmp 33),31,none⟩,
 ⟨some 34,.extract (.tmp 28) 0,3,none⟩,
 ⟨some 35,.extract (.tmp 28) 1,30,none⟩,
 ⟨some 12,.assign (.tmp 34),3,none⟩,
 ⟨some 13,.assign (.tmp 35),30,none⟩] [0,1,9,10,11,12,13]) (sg c129S6))
def c129S8(_:Unit):Cmd:=(.seq (.ops [
 ⟨some 23,.load 119 (.tmp 5),119,none⟩,
 ⟨some 24,.call ⟨.value (.func 166),#[(.tmp 23)],#[119]⟩,217,none⟩,
 ⟨some 22,.move (.tmp 24),217,none⟩,
 ⟨some 25,.extract (.tmp 22) 0,119,none⟩,
 ⟨some 26,.extract (.tmp 22) 1,119,none⟩,
 ⟨some 27,.extract (.tmp 22) 2,9,none⟩,
 ⟨some 9,.alloc 119,0,none⟩,
 ⟨some 10,.alloc 119,0,none⟩,
 ⟨none,.store 119 (.tmp 9) (.tmp 25),0,none⟩,
 ⟨none,.store 119 (.tmp 10) (.tmp 26),0,none⟩,
 ⟨some 11,.assign (.tmp 27),9,none⟩] [0,1,9,10,11]) (sg c129S7))
def c129:Cmd:=(.seq (.ops [
 ⟨some 5,.box 119 (.tmp 2),0,none⟩,
 ⟨some 6,.assign (.const (.string (ofL []))),9,none⟩,
 ⟨some 7,.assign (.const (.int .i64 0)),3,none⟩,
 ⟨some 8,.assign (.const (.int .i64 0)),30,none⟩] [0,1,5])
 (.seq (.seq (.ops [
 ⟨some 15,.load 119 (.tmp 5),119,none⟩,
 ⟨some 16,.call ⟨.value (.func 165),#[(.tmp 15)],#[119]⟩,3,none⟩,
 ⟨some 17,.binOp .leq 3 (.tmp 16) (.const (.int .i64 256)) 3,4,none⟩] [0,1,5,17]) (sg c129S1)) (sg c129S8)))
attribute [go_sem] c129 c129S0 c129S1 c129S2 c129S3
theorem ent129(a0 a1 a2:Value)(w:World)(K:Value→World→Prop)(h:W Tryz.prog c129 [(0,a0),(1,a1),(2,a2)] w (finQ Tryz.prog [.tmp 6,.tmp 7,.tmp 8] K)):Ret Tryz.prog 129 [a0,a1,a2] w K :=
 Ret_of_W (code:=c129code) Tryz.func129 (by kernel_rfl) (by kernel_rfl) (of_decide_eq_true (by kernel_rfl)) h
@[go_sem] theorem go129:goFunc Tryz.prog 129=true:=by kernel_rfl
def c75code:Code:=match Tryz.f75.body with | some c=>c | none=>.skip
def c75S0(_:Unit):Cmd:=.ret
def c75S1(_:Unit):Cmd:=(.seq (.ops [
 ⟨some 21,.move (.tmp 6),9,none⟩,
 ⟨some 22,.call ⟨.value (.func 136),#[(.tmp 21)],#[9]⟩,133,none⟩,
 ⟨some 23,.extract (.tmp 22) 0,119,none⟩,
 ⟨some 24,.extract (.tmp 22) 1,30,none⟩,
 ⟨none,.store 119 (.tmp 4) (.tmp 23),0,none⟩,
 ⟨some 5,.assign (.tmp 24),30,none⟩] [4,5]) (sg c75S0))
def c75S2(_:Unit):Cmd:=(.seq (.seq (.ops [
 ⟨some 17,.move (.tmp 7),30,none⟩,
 ⟨some 18,.binOp .neq 30 (.tmp 17) (.const (.int .i64 0)) 30,4,none⟩] [4,6,7,18])
 (.cond (.tmp 18)
 (.seq (.ops [
 ⟨some 19,.build 119 #[],119,none⟩,
 ⟨some 20,.move (.tmp 7),30,none⟩,
 ⟨none,.store 119 (.tmp 4) (.tmp 19),0,none⟩,
 ⟨some 5,.assign (.tmp 20),30,none⟩] [4,5])
 .ret)
 (.skip [4,6]))) (sg c75S1))
def c75:Cmd:=(.seq (.ops [
 ⟨some 4,.alloc 119,0,none⟩,
 ⟨some 5,.assign (.const (.int .i64 0)),30,none⟩] [0,1,4])
 (.seq (.ops [
 ⟨some 9,.move (.tmp 0),37,none⟩,
 ⟨some 10,.nilCheck (.tmp 9),0,none⟩,
 ⟨some 11,.fieldAddr 56 (.tmp 10) 0,0,none⟩,
 ⟨some 12,.load 24 (.tmp 11),24,none⟩,
 ⟨some 13,.move (.tmp 1),3,none⟩,
 ⟨some 14,.call ⟨.value (.func 39),#[(.tmp 12),(.tmp 13)],#[24,3]⟩,50,none⟩,
 ⟨some 8,.move (.tmp 14),50,none⟩,
 ⟨some 15,.extract (.tmp 8) 0,9,none⟩,
 ⟨some 16,.extract (.tmp 8) 1,30,none⟩,
 ⟨some 6,.assign (.tmp 15),9,none⟩,
 ⟨some 7,.assign (.tmp 16),30,none⟩] [4,6,7]) (sg c75S2)))
attribute [go_sem] c75 c75S0 c75S2
theorem ent75(a0 a1:Value)(w:World)(K:Value→World→Prop)(h:W Tryz.prog c75 [(0,a0),(1,a1)] w (finQ Tryz.prog [.cell 4 119,.tmp 5] K)):Ret Tryz.prog 75 [a0,a1] w K :=
 Ret_of_W (code:=c75code) Tryz.func75 (by kernel_rfl) (by kernel_rfl) (of_decide_eq_true (by kernel_rfl)) h
@[go_sem] theorem go75:goFunc Tryz.prog 75=true:=by kernel_rfl
def c135code:Code:=match Tryz.f135.body with | some c=>c | none=>.skip
def c135S0(_:Unit):Cmd:=(.cond (.tmp 66)
 (.seq (.ops [
 ⟨some 6,.assign (.const (.bool false)),4,none⟩] [6])
 .ret)
 (.skip [0,2,7,9]))
def c135S1(_:Unit):Cmd:=(.ops [
 ⟨some 55,.move (.tmp 9),3,none⟩,
 ⟨some 56,.binOp .add 3 (.tmp 55) (.const (.int .i64 1)) 3,3,none⟩,
 ⟨some 9,.assign (.tmp 56),3,none⟩] [0,2,7,9])
def c135S2(_:Unit):Cmd:=(.seq (.block 1 (.seq (.ops [
 ⟨some 57,.move (.tmp 0),187,none⟩,
 ⟨some 58,.fieldAddr 119 (.tmp 7) 3,0,none⟩,
 ⟨some 59,.load 48 (.tmp 58),48,none⟩,
 ⟨some 60,.move (.tmp 9),3,none⟩,
 ⟨some 61,.indexAddr 48 (.tmp 59) (.tmp 60),0,none⟩,
 ⟨some 62,.load 3 (.tmp 61),3,none⟩,
 ⟨some 63,.move (.tmp 2),3,none⟩,
 ⟨some 64,.binOp .sub 3 (.tmp 63) (.const (.int .i64 1)) 3,3,none⟩,
 ⟨some 65,.call ⟨.value (.func 135),#[(.tmp 57),(.tmp 62),(.tmp 64)],#[187,3,3]⟩,4,none⟩,
 ⟨some 66,.unOp .not 4 (.tmp 65),4,none⟩] [0,2,7,9,66]) (sg c135S0))) (sg c135S1))
def c135L0(_:Unit):Cmd:=(.seq (.seq (.ops [
 ⟨some 50,.move (.tmp 9),3,none⟩,
 ⟨some 51,.fieldAddr 119 (.tmp 7) 3,0,none⟩,
 ⟨some 52,.load 48 (.tmp 51),48,none⟩,
 ⟨some 53,.call ⟨.builtin .len,#[(.tmp 52)],#[48]⟩,3,none⟩,
 ⟨some 54,.binOp .lss 3 (.tmp 50) (.tmp 53) 3,4,none⟩] [0,2,7,9,54])
 (.cond (.tmp 54)
 (.skip [0,2,7,9])
 (.exit 0 []))) (sg c135S2))
def c135S3(_:Unit):Cmd:=(.block 0 (.loop (sg c135L0)))
def c135S4(_:Unit):Cmd:=(.seq (.ops [
 ⟨some 6,.assign (.const (.bool true)),4,none⟩] [6])
 .ret)
def c135S5(_:Unit):Cmd:=(.cond (.tmp 94)
 (.seq (.ops [
 ⟨some 6,.assign (.const (.bool false)),4,none⟩] [6])
 .ret)
 (.skip [0,7,68,69,70]))
def c135S6(_:Unit):Cmd:=(.ops [
 ⟨some 95,.binOp .add 3 (.tmp 70) (.const (.int .i64 1)) 3,3,none⟩,
 ⟨some 70,.move (.tmp 95),3,none⟩] [0,7,68,69,70])
def c135S7(_:Unit):Cmd:=(.seq (.block 3 (.seq (.ops [
 ⟨some 72,.move (.tmp 70),3,none⟩,
 ⟨some 73,.indexAddr 22 (.tmp 68) (.tmp 70),0,none⟩,
 ⟨some 74,.load 9 (.tmp 73),9,none⟩,
 ⟨some 10,.assign (.tmp 72),3,none⟩,
 ⟨some 11,.assign (.tmp 74),9,none⟩] [0,7,10,11,68,69,70])
 (.seq (.draw (drawOps 1 c135code) [0,7,68,69,70,94]) (sg c135S5)))) (sg c135S6))
def c135L1(_:Unit):Cmd:=(.seq (.ops [
 ⟨some 71,.binOp .lss 3 (.tmp 70) (.tmp 69) 3,0,none⟩] [0,7,68,69,70,71])
 (.seq (.cond (.tmp 71)
 (.skip [0,7,68,69,70])
 (.exit 2 [])) (sg c135S7)))
def c135S8(_:Unit):Cmd:=(.seq (.ops [
 ⟨some 6,.assign (.const (.bool true)),4,none⟩] [6])
 .ret)
def c135S9(_:Unit):Cmd:=(.seq (.seq (.ops [
 ⟨some 67,.fieldAddr 119 (.tmp 7) 1,0,none⟩,
 ⟨some 68,.load 22 (.tmp 67),22,none⟩,
 ⟨some 69,.call ⟨.builtin .len,#[(.tmp 68)],#[22]⟩,3,none⟩,
 ⟨some 70,.move (.const (.int .i64 0)),3,none⟩] [0,7,68,69,70])
 (.block 2 (.loop (sg c135L1)))) (sg c135S8))
def c135S10(_:Unit):Cmd:=(.seq (.seq (.ops [
 ⟨some 41,.fieldAddr 119 (.tmp 7) 0,0,none⟩,
 ⟨some 42,.load 4 (.tmp 41),4,none⟩,
 ⟨some 43,.unOp .not 4 (.tmp 42),4,none⟩] [0,2,7,43])
 (.cond (.tmp 43)
 (.seq (.seq (.draw (drawOps 0 c135code) [0,2,7,9]) (sg c135S3)) (sg c135S4))
 (.skip [0,7]))) (sg c135S9))
def c135S11(_:Unit):Cmd:=(.seq (.seq (.ops [
 ⟨some 28,.move (.tmp 8),30,none⟩,
 ⟨some 29,.binOp .neq 30 (.tmp 28) (.const (.int .i64 0)) 30,4,none⟩,
 ⟨some 30,.move (.tmp 29),4,none⟩,
 ⟨some 31,.move (.tmp 2),3,(some (30,false))⟩,
 ⟨some 32,.binOp .eql 3 (.tmp 31) (.const (.int .i64 0)) 3,4,(some (30,false))⟩,
 ⟨some 33,.pick (.tmp 30) (.const (.bool true)) (.tmp 32),4,none⟩,
 ⟨some 34,.move (.tmp 33),4,none⟩,
 ⟨some 35,.move (.tmp 0),187,(some (34,false))⟩,
 ⟨some 36,.nilCheck (.tmp 35),0,(some (34,false))⟩,
 ⟨some 37,.fieldAddr 189 (.tmp 36) 3,0,(some (34,false))⟩,
 ⟨some 38,.load 3 (.tmp 37),3,(some (34,false))⟩,
 ⟨some 39,.binOp .lss 3 (.tmp 38) (.const (.int .i64 0)) 3,4,(some (34,false))⟩,
 ⟨some 40,.pick (.tmp 34) (.const (.bool true)) (.tmp 39),4,none⟩] [0,2,7,40])
 (.cond (.tmp 40)
 (.seq (.ops [
 ⟨some 6,.assign (.const (.bool false)),4,none⟩] [6])
 .ret)
 (.skip [0,2,7]))) (sg c135S10))
def c135:Cmd:=(.seq (.ops [
 ⟨some 6,.assign (.const (.bool false)),4,none⟩] [0,1,2])
 (.seq (.ops [
 ⟨some 12,.move (.tmp 0),187,none⟩,
 ⟨some 13,.nilCheck (.tmp 12),0,none⟩,
 ⟨some 14,.fieldAddr 189 (.tmp 13) 3,0,none⟩,
 ⟨some 15,.load 3 (.tmp 14),3,none⟩,
 ⟨some 16,.binOp .sub 3 (.tmp 15) (.const (.int .i64 1)) 3,3,none⟩,
 ⟨some 17,.nilCheck (.tmp 12),0,none⟩,
 ⟨some 18,.fieldAddr 189 (.tmp 17) 3,0,none⟩,
 ⟨none,.store 3 (.tmp 18) (.tmp 16),0,none⟩] [0,1,2])
 (.seq (.ops [
 ⟨some 20,.move (.tmp 0),187,none⟩,
 ⟨some 21,.nilCheck (.tmp 20),0,none⟩,
 ⟨some 22,.fieldAddr 189 (.tmp 21) 0,0,none⟩,
 ⟨some 23,.load 37 (.tmp 22),37,none⟩,
 ⟨some 24,.move (.tmp 1),3,none⟩,
 ⟨some 25,.call ⟨.value (.func 75),#[(.tmp 23),(.tmp 24)],#[37,3]⟩,133,none⟩,
 ⟨some 19,.move (.tmp 25),133,none⟩,
 ⟨some 26,.extract (.tmp 19) 0,119,none⟩,
 ⟨some 27,.extract (.tmp 19) 1,30,none⟩,
 ⟨some 7,.alloc 119,0,none⟩,
 ⟨none,.store 119 (.tmp 7) (.tmp 26),0,none⟩,
 ⟨some 8,.assign (.tmp 27),30,none⟩] [0,2,7,8]) (sg c135S11))))
attribute [go_sem] c135 c135S0 c135S1 c135S2 c135S3 c135S4 c135S5 c135S6 c135S7 c135S8 c135S9 c135S10
def c135D0:List (Nat × Ins):=[
 (0,⟨some 45,.move (.tmp 0),187,none⟩),
 (0,⟨some 46,.nilCheck (.tmp 45),0,none⟩),
 (0,⟨some 47,.fieldAddr 189 (.tmp 46) 1,0,none⟩),
 (1,⟨some 44,.load 119 (.tmp 7),119,none⟩),
 (2,⟨some 48,.load 9 (.tmp 47),9,none⟩),
 (3,⟨some 49,.call ⟨.value (.func 76),#[(.tmp 44),(.tmp 48)],#[119,9]⟩,3,none⟩),
 (0,⟨some 9,.assign (.tmp 49),3,none⟩)]
theorem c135draw0{L:List Nat}{ρ:Env}{w:World}{Q:Post}(S:World→Prop)(hS:S w.drew)(h:DG Tryz.prog S c135D0 L ρ w.drew Q):drawW Tryz.prog (drawOps 0 c135code) L ρ w Q :=
 drawW_held [0] [(0,1),(0,2),(0,3),(1,0),(2,4),(3,5),(0,6)] c135D0 (by kernel_rfl) (by kernel_rfl) (by kernel_rfl) S hS h
def c135D1:List (Nat × Ins):=[
 (0,⟨some 75,.move (.tmp 11),9,none⟩),
 (0,⟨some 76,.move (.tmp 0),187,none⟩),
 (0,⟨some 77,.nilCheck (.tmp 76),0,none⟩),
 (0,⟨some 78,.fieldAddr 189 (.tmp 77) 1,0,none⟩),
 (2,⟨some 79,.load 9 (.tmp 78),9,none⟩),
 (0,⟨some 80,.binOp .geq 9 (.tmp 75) (.tmp 79) 9,4,none⟩),
 (0,⟨some 81,.move (.tmp 80),4,none⟩),
 (0,⟨some 82,.move (.tmp 0),187,(some (81,true))⟩),
 (0,⟨some 83,.nilCheck (.tmp 82),0,(some (81,true))⟩),
 (0,⟨some 84,.fieldAddr 189 (.tmp 83) 2,0,(some (81,true))⟩),
 (0,⟨some 86,.move (.tmp 11),9,(some (81,true))⟩),
 (0,⟨some 87,.fieldAddr 119 (.tmp 7) 2,0,(some (81,true))⟩),
 (0,⟨some 89,.move (.tmp 10),3,(some (81,true))⟩),
 (1,⟨some 85,.load 131 (.tmp 84),131,(some (81,true))⟩),
 (2,⟨some 88,.load 22 (.tmp 87),22,(some (81,true))⟩),
 (0,⟨some 90,.indexAddr 22 (.tmp 88) (.tmp 89),0,(some (81,true))⟩),
 (2,⟨some 91,.load 9 (.tmp 90),9,(some (81,true))⟩),
 (3,⟨some 92,.call ⟨.value (.tmp 85),#[(.tmp 86),(.tmp 91)],#[9,9]⟩,4,(some (81,true))⟩),
 (0,⟨some 93,.unOp .not 4 (.tmp 92),4,(some (81,true))⟩),
 (0,⟨some 94,.pick (.tmp 81) (.tmp 93) (.const (.bool false)),4,none⟩)]
theorem c135draw1Y{L:List Nat}{ρ:Env}{w:World}{Q:Post}(S:World→Prop)(hS:S w.drew)(h:DY Tryz.prog S c135D1 L ρ w.drew Q):drawW Tryz.prog (drawOps 1 c135code) L ρ w Q :=
 drawW_heldY [10] [(0,0),(0,1),(0,2),(0,3),(2,4),(0,5),(0,6),(0,7),(0,8),(0,9),(0,11),(0,12),(0,14),(1,10),(2,13),(0,15),(2,16),(3,17),(0,18),(0,19)] c135D1 (by kernel_rfl) (by kernel_rfl) (by kernel_rfl) (by kernel_rfl) S hS h
theorem ent135(a0 a1 a2:Value)(w:World)(K:Value→World→Prop)(h:W Tryz.prog c135 [(0,a0),(1,a1),(2,a2)] w (finQ Tryz.prog [.tmp 6] K)):Ret Tryz.prog 135 [a0,a1,a2] w K :=
 Ret_of_W (code:=c135code) Tryz.func135 (by kernel_rfl) (by kernel_rfl) (of_decide_eq_true (by kernel_rfl)) h
@[go_sem] theorem go135:goFunc Tryz.prog 135=true:=by kernel_rfl
def c127code:Code:=match Tryz.f127.body with | some c=>c | none=>.skip
def c127S0(_:Unit):Cmd:=(.ops [
 ⟨some 42,.fieldAddr 119 (.tmp 1) 2,0,none⟩,
 ⟨some 43,.load 22 (.tmp 42),22,none⟩,
 ⟨some 44,.move (.tmp 5),3,none⟩,
 ⟨some 45,.indexAddr 22 (.tmp 43) (.tmp 44),0,none⟩,
 ⟨some 46,.load 9 (.tmp 45),9,none⟩,
 ⟨some 47,.call ⟨.value (.func 161),#[(.tmp 3),(.tmp 46)],#[209,9]⟩,213,none⟩] [1,3,19,20,21])
def c127S1(_:Unit):Cmd:=(.seq (.ops [
 ⟨some 32,.fieldAddr 119 (.tmp 1) 0,0,none⟩,
 ⟨some 33,.load 4 (.tmp 32),4,none⟩] [1,3,5,19,20,21,33])
 (.cond (.tmp 33)
 (.seq (.ops [
 ⟨some 34,.fieldAddr 119 (.tmp 1) 2,0,none⟩,
 ⟨some 35,.load 22 (.tmp 34),22,none⟩,
 ⟨some 36,.move (.tmp 5),3,none⟩,
 ⟨some 37,.indexAddr 22 (.tmp 35) (.tmp 36),0,none⟩,
 ⟨some 38,.load 9 (.tmp 37),9,none⟩,
 ⟨some 39,.call ⟨.builtin .len,#[(.tmp 38)],#[9]⟩,3,none⟩,
 ⟨some 40,.convert 3 5 (.tmp 39),5,none⟩,
 ⟨some 41,.call ⟨.value (.func 160),#[(.tmp 3),(.tmp 40)],#[209,5]⟩,211,none⟩] [1,3,5,19,20,21]) (sg c127S0))
 (.skip [1,3,19,20,21])))
def c127S2(_:Unit):Cmd:=(.seq (.ops [
 ⟨some 30,.move (.tmp 6),9,none⟩,
 ⟨some 31,.call ⟨.value (.func 161),#[(.tmp 3),(.tmp 30)],#[209,9]⟩,213,none⟩] [1,3,5,19,20,21]) (sg c127S1))
def c127S3(_:Unit):Cmd:=(.ops [
 ⟨some 48,.binOp .add 3 (.tmp 21) (.const (.int .i64 1)) 3,3,none⟩,
 ⟨some 21,.move (.tmp 48),3,none⟩] [1,3,19,20,21])
def c127S4(_:Unit):Cmd:=(.seq (.block 1 (.seq (.ops [
 ⟨some 23,.move (.tmp 21),3,none⟩,
 ⟨some 24,.indexAddr 22 (.tmp 19) (.tmp 21),0,none⟩,
 ⟨some 25,.load 9 (.tmp 24),9,none⟩,
 ⟨some 5,.assign (.tmp 23),3,none⟩,
 ⟨some 6,.assign (.tmp 25),9,none⟩] [1,3,5,6,19,20,21])
 (.seq (.ops [
 ⟨some 26,.move (.tmp 6),9,none⟩,
 ⟨some 27,.call ⟨.builtin .len,#[(.tmp 26)],#[9]⟩,3,none⟩,
 ⟨some 28,.convert 3 5 (.tmp 27),5,none⟩,
 ⟨some 29,.call ⟨.value (.func 160),#[(.tmp 3),(.tmp 28)],#[209,5]⟩,211,none⟩] [1,3,5,6,19,20,21]) (sg c127S2)))) (sg c127S3))
def c127L0(_:Unit):Cmd:=(.seq (.ops [
 ⟨some 22,.binOp .lss 3 (.tmp 21) (.tmp 20) 3,0,none⟩] [1,3,19,20,21,22])
 (.seq (.cond (.tmp 22)
 (.skip [1,3,19,20,21])
 (.exit 0 [1,3])) (sg c127S4)))
def c127S5(_:Unit):Cmd:=(.ops [
 ⟨some 59,.move (.tmp 8),3,none⟩,
 ⟨some 60,.binOp .shr 3 (.tmp 59) (.const (.int .u64 8)) 78,3,none⟩,
 ⟨some 61,.convert 3 5 (.tmp 60),5,none⟩,
 ⟨some 62,.call ⟨.value (.func 160),#[(.tmp 3),(.tmp 61)],#[209,5]⟩,211,none⟩] [3,50,51,52])
def c127S6(_:Unit):Cmd:=(.ops [
 ⟨some 63,.binOp .add 3 (.tmp 52) (.const (.int .i64 1)) 3,3,none⟩,
 ⟨some 52,.move (.tmp 63),3,none⟩] [3,50,51,52])
def c127S7(_:Unit):Cmd:=(.seq (.block 3 (.seq (.ops [
 ⟨some 54,.indexAddr 48 (.tmp 50) (.tmp 52),0,none⟩,
 ⟨some 55,.load 3 (.tmp 54),3,none⟩,
 ⟨some 8,.assign (.tmp 55),3,none⟩] [3,8,50,51,52])
 (.seq (.ops [
 ⟨some 56,.move (.tmp 8),3,none⟩,
 ⟨some 57,.convert 3 5 (.tmp 56),5,none⟩,
 ⟨some 58,.call ⟨.value (.func 160),#[(.tmp 3),(.tmp 57)],#[209,5]⟩,211,none⟩] [3,8,50,51,52]) (sg c127S5)))) (sg c127S6))
def c127L1(_:Unit):Cmd:=(.seq (.ops [
 ⟨some 53,.binOp .lss 3 (.tmp 52) (.tmp 51) 3,0,none⟩] [3,50,51,52,53])
 (.seq (.cond (.tmp 53)
 (.skip [3,50,51,52])
 (.exit 2 [3])) (sg c127S7)))
def c127S8(_:Unit):Cmd:=.ret
def c127S9(_:Unit):Cmd:=(.seq (.ops [
 ⟨some 64,.call ⟨.value (.func 162),#[(.tmp 3)],#[209]⟩,9,none⟩,
 ⟨some 2,.assign (.tmp 64),9,none⟩] [2]) (sg c127S8))
def c127S10(_:Unit):Cmd:=(.seq (.seq (.ops [
 ⟨some 49,.fieldAddr 119 (.tmp 1) 3,0,none⟩,
 ⟨some 50,.load 48 (.tmp 49),48,none⟩,
 ⟨some 51,.call ⟨.builtin .len,#[(.tmp 50)],#[48]⟩,3,none⟩,
 ⟨some 52,.move (.const (.int .i64 0)),3,none⟩] [3,50,51,52])
 (.block 2 (.loop (sg c127L1)))) (sg c127S9))
def c127S11(_:Unit):Cmd:=(.seq (.seq (.ops [
 ⟨some 18,.fieldAddr 119 (.tmp 1) 1,0,none⟩,
 ⟨some 19,.load 22 (.tmp 18),22,none⟩,
 ⟨some 20,.call ⟨.builtin .len,#[(.tmp 19)],#[22]⟩,3,none⟩,
 ⟨some 21,.move (.const (.int .i64 0)),3,none⟩] [1,3,19,20,21])
 (.block 0 (.loop (sg c127L0)))) (sg c127S10))
def c127S12(_:Unit):Cmd:=(.seq (.ops [
 ⟨some 13,.fieldAddr 119 (.tmp 1) 1,0,none⟩,
 ⟨some 14,.load 22 (.tmp 13),22,none⟩,
 ⟨some 15,.call ⟨.builtin .len,#[(.tmp 14)],#[22]⟩,3,none⟩,
 ⟨some 16,.convert 3 5 (.tmp 15),5,none⟩,
 ⟨some 17,.call ⟨.value (.func 160),#[(.tmp 3),(.tmp 16)],#[209,5]⟩,211,none⟩] [1,3]) (sg c127S11))
def c127S13(_:Unit):Cmd:=(.seq (.ops [
 ⟨some 11,.move (.tmp 4),5,none⟩,
 ⟨some 12,.call ⟨.value (.func 160),#[(.tmp 3),(.tmp 11)],#[209,5]⟩,211,none⟩] [1,3]) (sg c127S12))
def c127:Cmd:=(.seq (.ops [
 ⟨some 1,.box 119 (.tmp 0),0,none⟩,
 ⟨some 2,.assign (.const (.string (ofL []))),9,none⟩] [1])
 (.seq (.ops [
 ⟨some 3,.alloc 209,0,none⟩] [1,3])
 (.seq (.ops [
 ⟨some 4,.assign (.const (.int .u8 2)),5,none⟩] [1,3,4])
 (.seq (.seq (.ops [
 ⟨some 9,.fieldAddr 119 (.tmp 1) 0,0,none⟩,
 ⟨some 10,.load 4 (.tmp 9),4,none⟩] [1,3,4,10])
 (.cond (.tmp 10)
 (.ops [
 ⟨some 4,.assign (.const (.int .u8 1)),5,none⟩] [1,3,4])
 (.skip [1,3,4]))) (sg c127S13)))))
attribute [go_sem] c127 c127S3 c127S4 c127S6 c127S7 c127S8 c127S9 c127S13
theorem ent127(a0:Value)(w:World)(K:Value→World→Prop)(h:W Tryz.prog c127 [(0,a0)] w (finQ Tryz.prog [.tmp 2] K)):Ret Tryz.prog 127 [a0] w K :=
 Ret_of_W (code:=c127code) Tryz.func127 (by kernel_rfl) (by kernel_rfl) (of_decide_eq_true (by kernel_rfl)) h
@[go_sem] theorem go127:goFunc Tryz.prog 127=true:=by kernel_rfl
def c165code:Code:=match Tryz.f165.body with | some c=>c | none=>.skip
def c165S0(_:Unit):Cmd:=(.seq (.block 1 (.seq (.ops [
 ⟨some 18,.indexAddr 22 (.tmp 14) (.tmp 16),0,none⟩,
 ⟨some 19,.load 9 (.tmp 18),9,none⟩,
 ⟨some 5,.assign (.tmp 19),9,none⟩] [1,3,5,14,15,16])
 (.ops [
 ⟨some 20,.move (.tmp 3),3,none⟩,
 ⟨some 21,.move (.tmp 5),9,none⟩,
 ⟨some 22,.call ⟨.builtin .len,#[(.tmp 21)],#[9]⟩,3,none⟩,
 ⟨some 23,.binOp .add 3 (.const (.int .i64 1)) (.tmp 22) 3,3,none⟩,
 ⟨some 24,.binOp .add 3 (.tmp 20) (.tmp 23) 3,3,none⟩,
 ⟨some 3,.assign (.tmp 24),3,none⟩] [1,3,14,15,16])))
 (.ops [
 ⟨some 25,.binOp .add 3 (.tmp 16) (.const (.int .i64 1)) 3,3,none⟩,
 ⟨some 16,.move (.tmp 25),3,none⟩] [1,3,14,15,16]))
def c165L0(_:Unit):Cmd:=(.seq (.ops [
 ⟨some 17,.binOp .lss 3 (.tmp 16) (.tmp 15) 3,0,none⟩] [1,3,14,15,16,17])
 (.seq (.cond (.tmp 17)
 (.skip [1,3,14,15,16])
 (.exit 0 [1,3])) (sg c165S0)))
def c165S1(_:Unit):Cmd:=(.seq (.block 3 (.seq (.ops [
 ⟨some 31,.indexAddr 22 (.tmp 27) (.tmp 29),0,none⟩,
 ⟨some 32,.load 9 (.tmp 31),9,none⟩,
 ⟨some 7,.assign (.tmp 32),9,none⟩] [3,7,27,28,29])
 (.ops [
 ⟨some 33,.move (.tmp 3),3,none⟩,
 ⟨some 34,.move (.tmp 7),9,none⟩,
 ⟨some 35,.call ⟨.builtin .len,#[(.tmp 34)],#[9]⟩,3,none⟩,
 ⟨some 36,.binOp .add 3 (.const (.int .i64 1)) (.tmp 35) 3,3,none⟩,
 ⟨some 37,.binOp .add 3 (.tmp 33) (.tmp 36) 3,3,none⟩,
 ⟨some 3,.assign (.tmp 37),3,none⟩] [3,27,28,29])))
 (.ops [
 ⟨some 38,.binOp .add 3 (.tmp 29) (.const (.int .i64 1)) 3,3,none⟩,
 ⟨some 29,.move (.tmp 38),3,none⟩] [3,27,28,29]))
def c165L1(_:Unit):Cmd:=(.seq (.ops [
 ⟨some 30,.binOp .lss 3 (.tmp 29) (.tmp 28) 3,0,none⟩] [3,27,28,29,30])
 (.seq (.cond (.tmp 30)
 (.skip [3,27,28,29])
 (.exit 2 [3])) (sg c165S1)))
def c165S2(_:Unit):Cmd:=(.seq (.ops [
 ⟨some 39,.move (.tmp 3),3,none⟩,
 ⟨some 2,.assign (.tmp 39),3,none⟩] [2])
 .ret)
def c165S3(_:Unit):Cmd:=(.seq (.seq (.ops [
 ⟨some 26,.fieldAddr 119 (.tmp 1) 2,0,none⟩,
 ⟨some 27,.load 22 (.tmp 26),22,none⟩,
 ⟨some 28,.call ⟨.builtin .len,#[(.tmp 27)],#[22]⟩,3,none⟩,
 ⟨some 29,.move (.const (.int .i64 0)),3,none⟩] [3,27,28,29])
 (.block 2 (.loop (sg c165L1)))) (sg c165S2))
def c165:Cmd:=(.seq (.ops [
 ⟨some 1,.box 119 (.tmp 0),0,none⟩,
 ⟨some 2,.assign (.const (.int .i64 0)),3,none⟩] [1])
 (.seq (.ops [
 ⟨some 8,.fieldAddr 119 (.tmp 1) 3,0,none⟩,
 ⟨some 9,.load 48 (.tmp 8),48,none⟩,
 ⟨some 10,.call ⟨.builtin .len,#[(.tmp 9)],#[48]⟩,3,none⟩,
 ⟨some 11,.binOp .mul 3 (.const (.int .i64 2)) (.tmp 10) 3,3,none⟩,
 ⟨some 12,.binOp .add 3 (.const (.int .i64 2)) (.tmp 11) 3,3,none⟩,
 ⟨some 3,.assign (.tmp 12),3,none⟩] [1,3])
 (.seq (.seq (.ops [
 ⟨some 13,.fieldAddr 119 (.tmp 1) 1,0,none⟩,
 ⟨some 14,.load 22 (.tmp 13),22,none⟩,
 ⟨some 15,.call ⟨.builtin .len,#[(.tmp 14)],#[22]⟩,3,none⟩,
 ⟨some 16,.move (.const (.int .i64 0)),3,none⟩] [1,3,14,15,16])
 (.block 0 (.loop (sg c165L0)))) (sg c165S3))))
attribute [go_sem] c165 c165S0 c165S1 c165S2
theorem ent165(a0:Value)(w:World)(K:Value→World→Prop)(h:W Tryz.prog c165 [(0,a0)] w (finQ Tryz.prog [.tmp 2] K)):Ret Tryz.prog 165 [a0] w K :=
 Ret_of_W (code:=c165code) Tryz.func165 (by kernel_rfl) (by kernel_rfl) (of_decide_eq_true (by kernel_rfl)) h
@[go_sem] theorem go165:goFunc Tryz.prog 165=true:=by kernel_rfl
def c76code:Code:=match Tryz.f76.body with | some c=>c | none=>.skip
def c76S0(_:Unit):Cmd:=(.seq (.ops [
 ⟨some 17,.move (.tmp 5),3,none⟩,
 ⟨some 4,.assign (.tmp 17),3,none⟩] [4])
 .ret)
def c76S1(_:Unit):Cmd:=(.seq (.seq (.ops [
 ⟨some 14,.move (.tmp 6),4,none⟩] [5,14])
 (.cond (.tmp 14)
 (.ops [
 ⟨some 15,.move (.tmp 5),3,none⟩,
 ⟨some 16,.binOp .add 3 (.tmp 15) (.const (.int .i64 1)) 3,3,none⟩,
 ⟨some 5,.assign (.tmp 16),3,none⟩] [5])
 (.skip [5]))) (sg c76S0))
def c76:Cmd:=(.seq (.ops [
 ⟨some 2,.box 119 (.tmp 0),0,none⟩,
 ⟨some 4,.assign (.const (.int .i64 0)),3,none⟩] [1,2])
 (.seq (.ops [
 ⟨some 8,.fieldAddr 119 (.tmp 2) 1,0,none⟩,
 ⟨some 9,.load 22 (.tmp 8),22,none⟩,
 ⟨some 10,.move (.tmp 1),9,none⟩,
 ⟨some 11,.call ⟨.value (.func 77),#[(.tmp 9),(.tmp 10)],#[22,9]⟩,135,none⟩,
 ⟨some 7,.move (.tmp 11),135,none⟩,
 ⟨some 12,.extract (.tmp 7) 0,3,none⟩,
 ⟨some 13,.extract (.tmp 7) 1,4,none⟩,
 ⟨some 5,.assign (.tmp 12),3,none⟩,
 ⟨some 6,.assign (.tmp 13),4,none⟩] [5,6]) (sg c76S1)))
attribute [go_sem] c76 c76S0 c76S1
theorem ent76(a0 a1:Value)(w:World)(K:Value→World→Prop)(h:W Tryz.prog c76 [(0,a0),(1,a1)] w (finQ Tryz.prog [.tmp 4] K)):Ret Tryz.prog 76 [a0,a1] w K :=
 Ret_of_W (code:=c76code) Tryz.func76 (by kernel_rfl) (by kernel_rfl) (of_decide_eq_true (by kernel_rfl)) h
@[go_sem] theorem go76:goFunc Tryz.prog 76=true:=by kernel_rfl
def c29code:Code:=match Tryz.f29.body with | some c=>c | none=>.skip
def c29S0(_:Unit):Cmd:=(.seq (.ops [
 ⟨some 14,.move (.tmp 7),30,none⟩,
 ⟨some 15,.binOp .neq 30 (.tmp 14) (.const (.int .i64 0)) 30,4,none⟩] [0,1,7,15])
 (.cond (.tmp 15)
 (.seq (.ops [
 ⟨some 16,.move (.tmp 7),30,none⟩,
 ⟨some 4,.assign (.const (.pointer none)),37,none⟩,
 ⟨some 5,.assign (.tmp 16),30,none⟩] [4,5])
 .ret)
 (.skip [0,1])))
def c29S1(_:Unit):Cmd:=(.seq (.ops [
 ⟨some 17,.move (.tmp 0),24,none⟩,
 ⟨some 18,.move (.tmp 1),3,none⟩,
 ⟨some 19,.build 56 #[(0,(.tmp 17)),(1,(.tmp 18))],56,none⟩,
 ⟨some 20,.box 56 (.tmp 19),37,none⟩,
 ⟨some 4,.assign (.tmp 20),37,none⟩,
 ⟨some 5,.assign (.const (.int .i64 0)),30,none⟩] [4,5])
 .ret)
def c29:Cmd:=(.seq (.ops [
 ⟨some 4,.assign (.const (.pointer none)),37,none⟩,
 ⟨some 5,.assign (.const (.int .i64 0)),30,none⟩] [0,1])
 (.seq (.seq (.ops [
 ⟨some 9,.move (.tmp 0),24,none⟩,
 ⟨some 10,.move (.tmp 1),3,none⟩,
 ⟨some 11,.call ⟨.value (.func 36),#[(.tmp 9),(.tmp 10)],#[24,3]⟩,31,none⟩,
 ⟨some 8,.move (.tmp 11),31,none⟩,
 ⟨some 12,.extract (.tmp 8) 0,3,none⟩,
 ⟨some 13,.extract (.tmp 8) 1,30,none⟩,
 ⟨some 6,.assign (.tmp 12),3,none⟩,
 ⟨some 7,.assign (.tmp 13),30,none⟩] [0,1,7]) (sg c29S0)) (sg c29S1)))
attribute [go_sem] c29 c29S0 c29S1
theorem ent29(a0 a1:Value)(w:World)(K:Value→World→Prop)(h:W Tryz.prog c29 [(0,a0),(1,a1)] w (finQ Tryz.prog [.tmp 4,.tmp 5] K)):Ret Tryz.prog 29 [a0,a1] w K :=
 Ret_of_W (code:=c29code) Tryz.func29 (by kernel_rfl) (by kernel_rfl) (of_decide_eq_true (by kernel_rfl)) h
@[go_sem] theorem go29:goFunc Tryz.prog 29=true:=by kernel_rfl
def c136code:Code:=match Tryz.f136.body with | some c=>c | none=>.skip
def c136S0(_:Unit):Cmd:=(.seq (.ops [
 ⟨some 53,.move (.tmp 8),4,none⟩] [2,4,5,6,7,8,9,33,34,53])
 (.cond (.tmp 53)
 (.ops [
 ⟨some 54,.fieldAddr 119 (.tmp 4) 2,0,none⟩,
 ⟨some 55,.load 22 (.tmp 54),22,none⟩,
 ⟨some 56,.move (.tmp 9),9,none⟩,
 ⟨some 57,.buildSlice 22 1 #[(0,(.tmp 56))],22,none⟩,
 ⟨some 58,.call ⟨.builtin .append,#[(.tmp 55),(.tmp 57)],#[22,22]⟩,22,none⟩,
 ⟨some 59,.fieldAddr 119 (.tmp 4) 2,0,none⟩,
 ⟨none,.store 22 (.tmp 59) (.tmp 58),0,none⟩] [2,4,5,6,7,8,33,34])
 (.skip [2,4,5,6,7,8,33,34])))
def c136S1(_:Unit):Cmd:=(.ops [
 ⟨some 69,.move (.tmp 7),9,none⟩,
 ⟨some 0,.assign (.tmp 69),9,none⟩] [0,2,4,5,33,34])
def c136S2(_:Unit):Cmd:=(.seq (.ops [
 ⟨some 63,.fieldAddr 119 (.tmp 4) 1,0,none⟩,
 ⟨some 64,.load 22 (.tmp 63),22,none⟩,
 ⟨some 65,.move (.tmp 6),9,none⟩,
 ⟨some 66,.buildSlice 22 1 #[(0,(.tmp 65))],22,none⟩,
 ⟨some 67,.call ⟨.builtin .append,#[(.tmp 64),(.tmp 66)],#[22,22]⟩,22,none⟩,
 ⟨some 68,.fieldAddr 119 (.tmp 4) 1,0,none⟩,
 ⟨none,.store 22 (.tmp 68) (.tmp 67),0,none⟩] [2,4,5,7,33,34]) (sg c136S1))
def c136S3(_:Unit):Cmd:=(.seq (.seq (.ops [
 ⟨some 60,.move (.tmp 8),4,none⟩,
 ⟨some 61,.unOp .not 4 (.tmp 60),4,none⟩] [2,4,5,6,7,33,34,61])
 (.cond (.tmp 61)
 (.seq (.ops [
 ⟨some 62,.build 119 #[],119,none⟩,
 ⟨none,.store 119 (.tmp 2) (.tmp 62),0,none⟩,
 ⟨some 3,.assign (.const (.int .i64 14)),30,none⟩] [2,3])
 .ret)
 (.skip [2,4,5,6,7,33,34]))) (sg c136S2))
def c136S4(_:Unit):Cmd:=(.seq (.seq (.ops [
 ⟨some 42,.move (.tmp 8),4,none⟩,
 ⟨some 43,.move (.tmp 42),4,none⟩,
 ⟨some 44,.fieldAddr 119 (.tmp 4) 0,0,(some (43,true))⟩,
 ⟨some 45,.load 4 (.tmp 44),4,(some (43,true))⟩,
 ⟨some 46,.pick (.tmp 43) (.tmp 45) (.const (.bool false)),4,none⟩] [2,4,5,6,7,8,33,34,46])
 (.cond (.tmp 46)
 (.seq (.ops [
 ⟨some 9,.assign (.const (.string (ofL []))),9,none⟩] [2,4,5,6,7,33,34])
 (.seq (.ops [
 ⟨some 48,.move (.tmp 7),9,none⟩,
 ⟨some 49,.call ⟨.value (.func 172),#[(.tmp 48)],#[9]⟩,225,none⟩,
 ⟨some 47,.move (.tmp 49),225,none⟩,
 ⟨some 50,.extract (.tmp 47) 0,9,none⟩,
 ⟨some 51,.extract (.tmp 47) 1,9,none⟩,
 ⟨some 52,.extract (.tmp 47) 2,4,none⟩,
 ⟨some 9,.assign (.tmp 50),9,none⟩,
 ⟨some 7,.assign (.tmp 51),9,none⟩,
 ⟨some 8,.assign (.tmp 52),4,none⟩] [2,4,5,6,7,8,9,33,34]) (sg c136S0)))
 (.skip [2,4,5,6,7,8,33,34]))) (sg c136S3))
def c136S5(_:Unit):Cmd:=(.ops [
 ⟨some 70,.binOp .add 3 (.tmp 34) (.const (.int .i64 1)) 3,3,none⟩,
 ⟨some 34,.move (.tmp 70),3,none⟩] [0,2,4,5,33,34])
def c136S6(_:Unit):Cmd:=(.seq (.block 1 (.seq (.ops [
 ⟨some 37,.move (.tmp 0),9,none⟩,
 ⟨some 38,.call ⟨.value (.func 172),#[(.tmp 37)],#[9]⟩,225,none⟩,
 ⟨some 36,.move (.tmp 38),225,none⟩,
 ⟨some 39,.extract (.tmp 36) 0,9,none⟩,
 ⟨some 40,.extract (.tmp 36) 1,9,none⟩,
 ⟨some 41,.extract (.tmp 36) 2,4,none⟩,
 ⟨some 6,.assign (.tmp 39),9,none⟩,
 ⟨some 7,.assign (.tmp 40),9,none⟩,
 ⟨some 8,.assign (.tmp 41),4,none⟩] [2,4,5,6,7,8,33,34]) (sg c136S4))) (sg c136S5))
def c136L0(_:Unit):Cmd:=(.seq (.ops [
 ⟨some 35,.binOp .lss 3 (.tmp 34) (.tmp 33) 3,4,none⟩] [0,2,4,5,33,34,35])
 (.seq (.cond (.tmp 35)
 (.skip [0,2,4,5,33,34])
 (.exit 0 [0,2,4,5])) (sg c136S6)))
def c136S7(_:Unit):Cmd:=(.ops [
 ⟨some 95,.move (.tmp 0),9,none⟩,
 ⟨some 96,.slice 9 (.tmp 95) (some (.const (.int .i64 2))) none none,9,none⟩,
 ⟨some 0,.assign (.tmp 96),9,none⟩] [0,2,4,75,76])
def c136S8(_:Unit):Cmd:=(.seq (.draw (drawOps 0 c136code) [0,2,4,75,76]) (sg c136S7))
def c136S9(_:Unit):Cmd:=(.ops [
 ⟨some 97,.binOp .add 3 (.tmp 76) (.const (.int .i64 1)) 3,3,none⟩,
 ⟨some 76,.move (.tmp 97),3,none⟩] [0,2,4,75,76])
def c136S10(_:Unit):Cmd:=(.seq (.block 3 (.seq (.seq (.ops [
 ⟨some 78,.move (.tmp 0),9,none⟩,
 ⟨some 79,.call ⟨.builtin .len,#[(.tmp 78)],#[9]⟩,3,none⟩,
 ⟨some 80,.binOp .lss 3 (.tmp 79) (.const (.int .i64 2)) 3,4,none⟩] [0,2,4,75,76,80])
 (.cond (.tmp 80)
 (.seq (.ops [
 ⟨some 81,.build 119 #[],119,none⟩,
 ⟨none,.store 119 (.tmp 2) (.tmp 81),0,none⟩,
 ⟨some 3,.assign (.const (.int .i64 14)),30,none⟩] [2,3])
 .ret)
 (.skip [0,2,4,75,76]))) (sg c136S8))) (sg c136S9))
def c136L1(_:Unit):Cmd:=(.seq (.ops [
 ⟨some 77,.binOp .lss 3 (.tmp 76) (.tmp 75) 3,4,none⟩] [0,2,4,75,76,77])
 (.seq (.cond (.tmp 77)
 (.skip [0,2,4,75,76])
 (.exit 2 [2,4])) (sg c136S10)))
def c136S11(_:Unit):Cmd:=(.seq (.ops [
 ⟨some 98,.load 119 (.tmp 4),119,none⟩,
 ⟨none,.store 119 (.tmp 2) (.tmp 98),0,none⟩,
 ⟨some 3,.assign (.const (.int .i64 0)),30,none⟩] [2,3])
 .ret)
def c136S12(_:Unit):Cmd:=(.seq (.seq (.ops [
 ⟨some 74,.move (.tmp 5),3,none⟩,
 ⟨some 75,.binOp .add 3 (.tmp 74) (.const (.int .i64 1)) 3,3,none⟩,
 ⟨some 76,.move (.const (.int .i64 0)),3,none⟩] [0,2,4,75,76])
 (.block 2 (.loop (sg c136L1)))) (sg c136S11))
def c136S13(_:Unit):Cmd:=(.seq (.seq (.ops [
 ⟨some 71,.fieldAddr 119 (.tmp 4) 0,0,none⟩,
 ⟨some 72,.load 4 (.tmp 71),4,none⟩] [0,2,4,5,72])
 (.cond (.tmp 72)
 (.seq (.ops [
 ⟨some 73,.load 119 (.tmp 4),119,none⟩,
 ⟨none,.store 119 (.tmp 2) (.tmp 73),0,none⟩,
 ⟨some 3,.assign (.const (.int .i64 0)),30,none⟩] [2,3])
 .ret)
 (.skip [0,2,4,5]))) (sg c136S12))
def c136S14(_:Unit):Cmd:=(.seq (.ops [
 ⟨some 24,.move (.tmp 0),9,none⟩,
 ⟨some 25,.index 9 (.tmp 24) (.const (.int .i64 0)),5,none⟩,
 ⟨some 26,.binOp .eql 5 (.tmp 25) (.const (.int .u8 1)) 5,4,none⟩,
 ⟨some 27,.build 119 #[(0,(.tmp 26))],119,none⟩,
 ⟨some 4,.alloc 119,0,none⟩,
 ⟨none,.store 119 (.tmp 4) (.tmp 27),0,none⟩] [0,2,4])
 (.seq (.ops [
 ⟨some 28,.move (.tmp 0),9,none⟩,
 ⟨some 29,.index 9 (.tmp 28) (.const (.int .i64 1)),5,none⟩,
 ⟨some 30,.convert 5 3 (.tmp 29),3,none⟩,
 ⟨some 5,.assign (.tmp 30),3,none⟩] [0,2,4,5])
 (.seq (.ops [
 ⟨some 31,.move (.tmp 0),9,none⟩,
 ⟨some 32,.slice 9 (.tmp 31) (some (.const (.int .i64 2))) none none,9,none⟩,
 ⟨some 0,.assign (.tmp 32),9,none⟩] [0,2,4,5])
 (.seq (.seq (.ops [
 ⟨some 33,.move (.tmp 5),3,none⟩,
 ⟨some 34,.move (.const (.int .i64 0)),3,none⟩] [0,2,4,5,33,34])
 (.block 0 (.loop (sg c136L0)))) (sg c136S13)))))
def c136:Cmd:=(.seq (.ops [
 ⟨some 2,.alloc 119,0,none⟩,
 ⟨some 3,.assign (.const (.int .i64 0)),30,none⟩] [0,2])
 (.seq (.seq (.ops [
 ⟨some 10,.move (.tmp 0),9,none⟩,
 ⟨some 11,.call ⟨.builtin .len,#[(.tmp 10)],#[9]⟩,3,none⟩,
 ⟨some 12,.binOp .lss 3 (.tmp 11) (.const (.int .i64 2)) 3,4,none⟩,
 ⟨some 13,.move (.tmp 12),4,none⟩,
 ⟨some 14,.move (.tmp 0),9,(some (13,false))⟩,
 ⟨some 15,.index 9 (.tmp 14) (.const (.int .i64 0)),5,(some (13,false))⟩,
 ⟨some 16,.binOp .neq 5 (.tmp 15) (.const (.int .u8 1)) 5,4,(some (13,false))⟩,
 ⟨some 17,.move (.tmp 16),4,(some (13,false))⟩,
 ⟨some 18,.move (.tmp 0),9,(some (17,true))⟩,
 ⟨some 19,.index 9 (.tmp 18) (.const (.int .i64 0)),5,(some (17,true))⟩,
 ⟨some 20,.binOp .neq 5 (.tmp 19) (.const (.int .u8 2)) 5,4,(some (17,true))⟩,
 ⟨some 21,.pick (.tmp 17) (.tmp 20) (.const (.bool false)),4,(some (13,false))⟩,
 ⟨some 22,.pick (.tmp 13) (.const (.bool true)) (.tmp 21),4,none⟩] [0,2,22])
 (.cond (.tmp 22)
 (.seq (.ops [
 ⟨some 23,.build 119 #[],119,none⟩,
 ⟨none,.store 119 (.tmp 2) (.tmp 23),0,none⟩,
 ⟨some 3,.assign (.const (.int .i64 14)),30,none⟩] [2,3])
 .ret)
 (.skip [0,2]))) (sg c136S14)))
attribute [go_sem] c136 c136S0 c136S1 c136S2 c136S5 c136S6 c136S7 c136S8 c136S9 c136S10 c136S11 c136S12
def c136D0:List (Nat × Ins):=[
 (0,⟨some 82,.fieldAddr 119 (.tmp 4) 3,0,none⟩),
 (0,⟨some 84,.move (.tmp 0),9,none⟩),
 (0,⟨some 85,.index 9 (.tmp 84) (.const (.int .i64 0)),5,none⟩),
 (0,⟨some 86,.convert 5 3 (.tmp 85),3,none⟩),
 (0,⟨some 87,.move (.tmp 0),9,none⟩),
 (0,⟨some 88,.index 9 (.tmp 87) (.const (.int .i64 1)),5,none⟩),
 (0,⟨some 89,.convert 5 3 (.tmp 88),3,none⟩),
 (0,⟨some 90,.binOp .shl 3 (.tmp 89) (.const (.int .u64 8)) 78,3,none⟩),
 (0,⟨some 91,.binOp .or 3 (.tmp 86) (.tmp 90) 3,3,none⟩),
 (1,⟨some 83,.load 48 (.tmp 82),48,none⟩),
 (2,⟨some 92,.buildSlice 48 1 #[(0,(.tmp 91))],48,none⟩),
 (3,⟨some 93,.call ⟨.builtin .append,#[(.tmp 83),(.tmp 92)],#[48,48]⟩,48,none⟩),
 (0,⟨some 94,.fieldAddr 119 (.tmp 4) 3,0,none⟩),
 (3,⟨none,.store 48 (.tmp 94) (.tmp 93),0,none⟩)]
theorem c136draw0{L:List Nat}{ρ:Env}{w:World}{Q:Post}(S:World→Prop)(hS:S w.drew)(h:DG Tryz.prog S c136D0 L ρ w.drew Q):drawW Tryz.prog (drawOps 0 c136code) L ρ w Q :=
 drawW_held [1] [(0,0),(0,2),(0,3),(0,4),(0,5),(0,6),(0,7),(0,8),(0,9),(1,1),(2,10),(3,11),(0,12),(3,13)] c136D0 (by kernel_rfl) (by kernel_rfl) (by kernel_rfl) S hS h
theorem ent136(a0:Value)(w:World)(K:Value→World→Prop)(h:W Tryz.prog c136 [(0,a0)] w (finQ Tryz.prog [.cell 2 119,.tmp 3] K)):Ret Tryz.prog 136 [a0] w K :=
 Ret_of_W (code:=c136code) Tryz.func136 (by kernel_rfl) (by kernel_rfl) (of_decide_eq_true (by kernel_rfl)) h
@[go_sem] theorem go136:goFunc Tryz.prog 136=true:=by kernel_rfl
def c172code:Code:=match Tryz.f172.body with | some c=>c | none=>.skip
def c172S0(_:Unit):Cmd:=.ret
def c172S1(_:Unit):Cmd:=(.seq (.ops [
 ⟨some 17,.move (.tmp 0),9,none⟩,
 ⟨some 18,.index 9 (.tmp 17) (.const (.int .i64 0)),5,none⟩,
 ⟨some 19,.convert 5 3 (.tmp 18),3,none⟩,
 ⟨some 20,.binOp .add 3 (.const (.int .i64 1)) (.tmp 19) 3,3,none⟩,
 ⟨some 5,.assign (.tmp 20),3,none⟩] [0,5])
 (.seq (.draw (drawOps 0 c172code) [2,3,4]) (sg c172S0)))
def c172:Cmd:=(.seq (.ops [
 ⟨some 2,.assign (.const (.string (ofL []))),9,none⟩,
 ⟨some 3,.assign (.const (.string (ofL []))),9,none⟩,
 ⟨some 4,.assign (.const (.bool false)),4,none⟩] [0])
 (.seq (.seq (.ops [
 ⟨some 6,.move (.tmp 0),9,none⟩,
 ⟨some 7,.binOp .eql 9 (.tmp 6) (.const (.string (ofL []))) 9,4,none⟩,
 ⟨some 8,.move (.tmp 7),4,none⟩,
 ⟨some 9,.move (.tmp 0),9,(some (8,false))⟩,
 ⟨some 10,.call ⟨.builtin .len,#[(.tmp 9)],#[9]⟩,3,(some (8,false))⟩,
 ⟨some 11,.move (.tmp 0),9,(some (8,false))⟩,
 ⟨some 12,.index 9 (.tmp 11) (.const (.int .i64 0)),5,(some (8,false))⟩,
 ⟨some 13,.convert 5 3 (.tmp 12),3,(some (8,false))⟩,
 ⟨some 14,.binOp .add 3 (.const (.int .i64 1)) (.tmp 13) 3,3,(some (8,false))⟩,
 ⟨some 15,.binOp .lss 3 (.tmp 10) (.tmp 14) 3,4,(some (8,false))⟩,
 ⟨some 16,.pick (.tmp 8) (.const (.bool true)) (.tmp 15),4,none⟩] [0,16])
 (.cond (.tmp 16)
 (.seq (.ops [
 ⟨some 2,.assign (.const (.string (ofL []))),9,none⟩,
 ⟨some 3,.assign (.const (.string (ofL []))),9,none⟩,
 ⟨some 4,.assign (.const (.bool false)),4,none⟩] [2,3,4])
 .ret)
 (.skip [0]))) (sg c172S1)))
attribute [go_sem] c172 c172S0 c172S1
def c172D0:List (Bool × Ins):=[
 (true,⟨some 21,.move (.tmp 0),9,none⟩),
 (true,⟨some 22,.move (.tmp 5),3,none⟩),
 (true,⟨some 23,.slice 9 (.tmp 21) (some (.const (.int .i64 1))) (some (.tmp 22)) none,9,none⟩),
 (true,⟨some 24,.move (.tmp 0),9,none⟩),
 (true,⟨some 25,.move (.tmp 5),3,none⟩),
 (true,⟨some 26,.slice 9 (.tmp 24) (some (.tmp 25)) none none,9,none⟩),
 (true,⟨some 2,.assign (.tmp 23),9,none⟩),
 (true,⟨some 3,.assign (.tmp 26),9,none⟩),
 (true,⟨some 4,.assign (.const (.bool true)),4,none⟩)]
theorem c172draw0{L:List Nat}{ρ:Env}{w:World}{Q:Post}(h:DL Tryz.prog c172D0 L ρ w.drew Q):drawW Tryz.prog (drawOps 0 c172code) L ρ w Q :=
 drawW_by [(true,0),(true,1),(true,2),(true,3),(true,4),(true,5),(true,6),(true,7),(true,8)] c172D0 (by kernel_rfl) (by kernel_rfl) (by kernel_rfl) h
theorem ent172(a0:Value)(w:World)(K:Value→World→Prop)(h:W Tryz.prog c172 [(0,a0)] w (finQ Tryz.prog [.tmp 2,.tmp 3,.tmp 4] K)):Ret Tryz.prog 172 [a0] w K :=
 Ret_of_W (code:=c172code) Tryz.func172 (by kernel_rfl) (by kernel_rfl) (of_decide_eq_true (by kernel_rfl)) h
@[go_sem] theorem go172:goFunc Tryz.prog 172=true:=by kernel_rfl
def c74code:Code:=match Tryz.f74.body with | some c=>c | none=>.skip
def c74S0(_:Unit):Cmd:=(.cond (.tmp 25)
 (.seq (.ops [
 ⟨some 4,.assign (.const (.bool false)),4,none⟩] [4])
 .ret)
 (.skip [0,1,5]))
def c74S1(_:Unit):Cmd:=(.ops [
 ⟨some 15,.move (.tmp 5),3,none⟩,
 ⟨some 16,.binOp .add 3 (.tmp 15) (.const (.int .i64 1)) 3,3,none⟩,
 ⟨some 5,.assign (.tmp 16),3,none⟩] [0,1,5])
def c74S2(_:Unit):Cmd:=(.seq (.block 1 (.seq (.draw (drawOps 0 c74code) [0,1,5,25]) (sg c74S0))) (sg c74S1))
def c74L0(_:Unit):Cmd:=(.seq (.seq (.ops [
 ⟨some 11,.move (.tmp 5),3,none⟩,
 ⟨some 12,.move (.tmp 0),46,none⟩,
 ⟨some 13,.call ⟨.builtin .len,#[(.tmp 12)],#[46]⟩,3,none⟩,
 ⟨some 14,.binOp .lss 3 (.tmp 11) (.tmp 13) 3,4,none⟩] [0,1,5,14])
 (.cond (.tmp 14)
 (.skip [0,1,5])
 (.exit 0 []))) (sg c74S2))
def c74S3(_:Unit):Cmd:=(.seq (.ops [
 ⟨some 4,.assign (.const (.bool true)),4,none⟩] [4])
 .ret)
def c74S4(_:Unit):Cmd:=(.seq (.seq (.ops [
 ⟨some 5,.assign (.const (.int .i64 0)),3,none⟩] [0,1,5])
 (.block 0 (.loop (sg c74L0)))) (sg c74S3))
def c74:Cmd:=(.seq (.ops [
 ⟨some 4,.assign (.const (.bool false)),4,none⟩] [0,1])
 (.seq (.seq (.ops [
 ⟨some 6,.move (.tmp 0),46,none⟩,
 ⟨some 7,.call ⟨.builtin .len,#[(.tmp 6)],#[46]⟩,3,none⟩,
 ⟨some 8,.move (.tmp 1),46,none⟩,
 ⟨some 9,.call ⟨.builtin .len,#[(.tmp 8)],#[46]⟩,3,none⟩,
 ⟨some 10,.binOp .neq 3 (.tmp 7) (.tmp 9) 3,4,none⟩] [0,1,10])
 (.cond (.tmp 10)
 (.seq (.ops [
 ⟨some 4,.assign (.const (.bool false)),4,none⟩] [4])
 .ret)
 (.skip [0,1]))) (sg c74S4)))
attribute [go_sem] c74 c74S0 c74S1 c74S2 c74S3 c74S4
def c74D0:List (Bool × Ins):=[
 (true,⟨some 17,.move (.tmp 0),46,none⟩),
 (true,⟨some 18,.move (.tmp 5),3,none⟩),
 (true,⟨some 19,.indexAddr 46 (.tmp 17) (.tmp 18),0,none⟩),
 (false,⟨some 20,.load 53 (.tmp 19),53,none⟩),
 (true,⟨some 21,.move (.tmp 1),46,none⟩),
 (true,⟨some 22,.move (.tmp 5),3,none⟩),
 (true,⟨some 23,.indexAddr 46 (.tmp 21) (.tmp 22),0,none⟩),
 (false,⟨some 24,.load 53 (.tmp 23),53,none⟩),
 (true,⟨some 25,.binOp .neq 53 (.tmp 20) (.tmp 24) 53,4,none⟩)]
theorem c74draw0{L:List Nat}{ρ:Env}{w:World}{Q:Post}(h:DL Tryz.prog c74D0 L ρ w.drew Q):drawW Tryz.prog (drawOps 0 c74code) L ρ w Q :=
 drawW_still [true,true,true,false,true,true,true,false,true] c74D0 (by kernel_rfl) (by kernel_rfl) (by kernel_rfl) h
theorem ent74(a0 a1:Value)(w:World)(K:Value→World→Prop)(h:W Tryz.prog c74 [(0,a0),(1,a1)] w (finQ Tryz.prog [.tmp 4] K)):Ret Tryz.prog 74 [a0,a1] w K :=
 Ret_of_W (code:=c74code) Tryz.func74 (by kernel_rfl) (by kernel_rfl) (of_decide_eq_true (by kernel_rfl)) h
@[go_sem] theorem go74:goFunc Tryz.prog 74=true:=by kernel_rfl
def c77code:Code:=match Tryz.f77.body with | some c=>c | none=>.skip
def c77S0(_:Unit):Cmd:=(.cond (.tmp 27)
 (.ops [
 ⟨some 28,.move (.tmp 9),3,none⟩,
 ⟨some 29,.binOp .add 3 (.tmp 28) (.const (.int .i64 1)) 3,3,none⟩,
 ⟨some 7,.assign (.tmp 29),3,none⟩] [0,1,6,7,8])
 (.ops [
 ⟨some 30,.move (.tmp 9),3,none⟩,
 ⟨some 8,.assign (.tmp 30),3,none⟩] [0,1,6,7,8]))
def c77S1(_:Unit):Cmd:=(.block 1 (.seq (.ops [
 ⟨some 16,.move (.tmp 7),3,none⟩,
 ⟨some 17,.move (.tmp 8),3,none⟩,
 ⟨some 18,.binOp .add 3 (.tmp 16) (.tmp 17) 3,3,none⟩,
 ⟨some 19,.convert 3 78 (.tmp 18),78,none⟩,
 ⟨some 20,.binOp .shr 78 (.tmp 19) (.const (.int .u64 1)) 78,78,none⟩,
 ⟨some 21,.convert 78 3 (.tmp 20),3,none⟩,
 ⟨some 9,.assign (.tmp 21),3,none⟩] [0,1,6,7,8,9])
 (.seq (.ops [
 ⟨some 22,.move (.tmp 0),22,none⟩,
 ⟨some 23,.move (.tmp 9),3,none⟩,
 ⟨some 24,.indexAddr 22 (.tmp 22) (.tmp 23),0,none⟩,
 ⟨some 25,.load 9 (.tmp 24),9,none⟩,
 ⟨some 26,.move (.tmp 1),9,none⟩,
 ⟨some 27,.call ⟨.value (.func 137),#[(.tmp 25),(.tmp 26)],#[9,9]⟩,4,none⟩] [0,1,6,7,8,9,27]) (sg c77S0))))
def c77L0(_:Unit):Cmd:=(.seq (.seq (.ops [
 ⟨some 13,.move (.tmp 7),3,none⟩,
 ⟨some 14,.move (.tmp 8),3,none⟩,
 ⟨some 15,.binOp .lss 3 (.tmp 13) (.tmp 14) 3,4,none⟩] [0,1,6,7,8,15])
 (.cond (.tmp 15)
 (.skip [0,1,6,7,8])
 (.exit 0 [0,1,6,7]))) (sg c77S1))
def c77S2(_:Unit):Cmd:=.ret
def c77S3(_:Unit):Cmd:=(.seq (.ops [
 ⟨some 31,.move (.tmp 7),3,none⟩,
 ⟨some 32,.move (.tmp 7),3,none⟩,
 ⟨some 33,.move (.tmp 6),3,none⟩,
 ⟨some 34,.binOp .lss 3 (.tmp 32) (.tmp 33) 3,4,none⟩,
 ⟨some 35,.move (.tmp 34),4,none⟩,
 ⟨some 36,.move (.tmp 0),22,(some (35,true))⟩,
 ⟨some 37,.move (.tmp 7),3,(some (35,true))⟩,
 ⟨some 38,.indexAddr 22 (.tmp 36) (.tmp 37),0,(some (35,true))⟩,
 ⟨some 39,.load 9 (.tmp 38),9,(some (35,true))⟩,
 ⟨some 40,.move (.tmp 1),9,(some (35,true))⟩,
 ⟨some 41,.binOp .eql 9 (.tmp 39) (.tmp 40) 9,4,(some (35,true))⟩,
 ⟨some 42,.move (.tmp 41),4,(some (35,true))⟩,
 ⟨some 43,.move (.tmp 0),22,(some (42,false))⟩,
 ⟨some 44,.move (.tmp 7),3,(some (42,false))⟩,
 ⟨some 45,.indexAddr 22 (.tmp 43) (.tmp 44),0,(some (42,false))⟩,
 ⟨some 46,.load 9 (.tmp 45),9,(some (42,false))⟩,
 ⟨some 47,.call ⟨.value (.func 138),#[(.tmp 46)],#[9]⟩,4,(some (42,false))⟩,
 ⟨some 48,.move (.tmp 47),4,(some (42,false))⟩,
 ⟨some 49,.move (.tmp 1),9,(some (48,true))⟩,
 ⟨some 50,.call ⟨.value (.func 138),#[(.tmp 49)],#[9]⟩,4,(some (48,true))⟩,
 ⟨some 51,.pick (.tmp 48) (.tmp 50) (.const (.bool false)),4,(some (42,false))⟩,
 ⟨some 52,.pick (.tmp 42) (.const (.bool true)) (.tmp 51),4,(some (35,true))⟩,
 ⟨some 53,.pick (.tmp 35) (.tmp 52) (.const (.bool false)),4,none⟩,
 ⟨some 4,.assign (.tmp 31),3,none⟩,
 ⟨some 5,.assign (.tmp 53),4,none⟩] [4,5]) (sg c77S2))
def c77:Cmd:=(.seq (.ops [
 ⟨some 4,.assign (.const (.int .i64 0)),3,none⟩,
 ⟨some 5,.assign (.const (.bool false)),4,none⟩] [0,1])
 (.seq (.ops [
 ⟨some 10,.move (.tmp 0),22,none⟩,
 ⟨some 11,.call ⟨.builtin .len,#[(.tmp 10)],#[22]⟩,3,none⟩,
 ⟨some 6,.assign (.tmp 11),3,none⟩] [0,1,6])
 (.seq (.ops [
 ⟨some 12,.move (.tmp 6),3,none⟩,
 ⟨some 7,.assign (.const (.int .i64 0)),3,none⟩,
 ⟨some 8,.assign (.tmp 12),3,none⟩] [0,1,6,7,8])
 (.seq (.block 0 (.loop (sg c77L0))) (sg c77S3)))))
attribute [go_sem] c77 c77S0 c77S1 c77S2
theorem ent77(a0 a1:Value)(w:World)(K:Value→World→Prop)(h:W Tryz.prog c77 [(0,a0),(1,a1)] w (finQ Tryz.prog [.tmp 4,.tmp 5] K)):Ret Tryz.prog 77 [a0,a1] w K :=
 Ret_of_W (code:=c77code) Tryz.func77 (by kernel_rfl) (by kernel_rfl) (of_decide_eq_true (by kernel_rfl)) h
@[go_sem] theorem go77:goFunc Tryz.prog 77=true:=by kernel_rfl
def c138code:Code:=match Tryz.f138.body with | some c=>c | none=>.skip
def c138:Cmd:=(.seq (.ops [
 ⟨some 2,.assign (.const (.bool false)),4,none⟩] [0])
 (.seq (.ops [
 ⟨some 3,.move (.tmp 0),9,none⟩,
 ⟨some 4,.move (.tmp 0),9,none⟩,
 ⟨some 5,.binOp .neq 9 (.tmp 3) (.tmp 4) 9,4,none⟩,
 ⟨some 2,.assign (.tmp 5),4,none⟩] [2])
 .ret))
attribute [go_sem] c138
theorem ent138(a0:Value)(w:World)(K:Value→World→Prop)(h:W Tryz.prog c138 [(0,a0)] w (finQ Tryz.prog [.tmp 2] K)):Ret Tryz.prog 138 [a0] w K :=
 Ret_of_W (code:=c138code) Tryz.func138 (by kernel_rfl) (by kernel_rfl) (of_decide_eq_true (by kernel_rfl)) h
@[go_sem] theorem go138:goFunc Tryz.prog 138=true:=by kernel_rfl
def c128code:Code:=match Tryz.f128.body with | some c=>c | none=>.skip
def c128S0(_:Unit):Cmd:=.ret
def c128S1(_:Unit):Cmd:=(.seq (.ops [
 ⟨some 55,.move (.tmp 9),22,none⟩,
 ⟨some 6,.assign (.tmp 55),22,none⟩] [6])
 .ret)
def c128S2(_:Unit):Cmd:=(.seq (.draw (drawOps 0 c128code) [9]) (sg c128S1))
def c128S3(_:Unit):Cmd:=(.seq (.ops [
 ⟨some 41,.move (.tmp 9),22,none⟩,
 ⟨some 42,.move (.tmp 1),3,none⟩,
 ⟨some 43,.slice 22 (.tmp 41) (some (.tmp 42)) none none,22,none⟩,
 ⟨some 44,.move (.tmp 2),22,none⟩,
 ⟨some 45,.call ⟨.builtin .copy,#[(.tmp 43),(.tmp 44)],#[22,22]⟩,3,none⟩] [0,1,7,9]) (sg c128S2))
def c128S4(_:Unit):Cmd:=(.cond (.tmp 31)
 (.seq (.ops [
 ⟨some 32,.move (.tmp 0),22,none⟩,
 ⟨some 33,.move (.tmp 1),3,none⟩,
 ⟨some 34,.slice 22 (.tmp 32) none (some (.tmp 33)) none,22,none⟩,
 ⟨some 35,.move (.tmp 8),3,none⟩,
 ⟨some 36,.move (.tmp 7),3,none⟩,
 ⟨some 37,.binOp .add 3 (.tmp 35) (.tmp 36) 3,3,none⟩,
 ⟨some 38,.move (.tmp 1),3,none⟩,
 ⟨some 39,.binOp .sub 3 (.tmp 37) (.tmp 38) 3,3,none⟩,
 ⟨some 40,.call ⟨.builtin .append,#[(.tmp 34),(.tmp 39)],#[22,3]⟩,22,none⟩,
 ⟨some 9,.assign (.tmp 40),22,none⟩] [0,1,2,7,9]) (sg c128S3))
 (.skip [0,1,2,7,8]))
def c128S5(_:Unit):Cmd:=(.seq (.ops [
 ⟨some 83,.move (.tmp 0),22,none⟩,
 ⟨some 6,.assign (.tmp 83),22,none⟩] [6])
 .ret)
def c128S6(_:Unit):Cmd:=(.seq (.ops [
 ⟨some 78,.move (.tmp 0),22,none⟩,
 ⟨some 79,.move (.tmp 1),3,none⟩,
 ⟨some 80,.slice 22 (.tmp 78) (some (.tmp 79)) none none,22,none⟩,
 ⟨some 81,.move (.tmp 2),22,none⟩,
 ⟨some 82,.call ⟨.builtin .copy,#[(.tmp 80),(.tmp 81)],#[22,22]⟩,3,none⟩] [0]) (sg c128S5))
def c128S7(_:Unit):Cmd:=(.cond (.tmp 68)
 (.seq (.draw (drawOps 1 c128code) [0,1,2]) (sg c128S6))
 (.skip [0,1,2,7,8]))
def c128S8(_:Unit):Cmd:=(.seq (.ops [
 ⟨some 94,.move (.tmp 0),22,none⟩,
 ⟨some 6,.assign (.tmp 94),22,none⟩] [6])
 .ret)
def c128S9(_:Unit):Cmd:=(.seq (.ops [
 ⟨some 89,.move (.tmp 0),22,none⟩,
 ⟨some 90,.move (.tmp 1),3,none⟩,
 ⟨some 91,.slice 22 (.tmp 89) (some (.tmp 90)) none none,22,none⟩,
 ⟨some 92,.move (.tmp 7),3,none⟩,
 ⟨some 93,.call ⟨.value (.func 164),#[(.tmp 91),(.tmp 92)],#[22,3]⟩,0,none⟩] [0]) (sg c128S8))
def c128S10(_:Unit):Cmd:=(.seq (.ops [
 ⟨some 84,.move (.tmp 0),22,none⟩,
 ⟨some 85,.move (.tmp 8),3,none⟩,
 ⟨some 86,.slice 22 (.tmp 84) (some (.tmp 85)) none none,22,none⟩,
 ⟨some 87,.move (.tmp 2),22,none⟩,
 ⟨some 88,.call ⟨.builtin .copy,#[(.tmp 86),(.tmp 87)],#[22,22]⟩,3,none⟩] [0,1,7]) (sg c128S9))
def c128S11(_:Unit):Cmd:=(.seq (.ops [
 ⟨some 56,.move (.tmp 0),22,none⟩,
 ⟨some 57,.move (.tmp 8),3,none⟩,
 ⟨some 58,.move (.tmp 7),3,none⟩,
 ⟨some 59,.binOp .add 3 (.tmp 57) (.tmp 58) 3,3,none⟩,
 ⟨some 60,.slice 22 (.tmp 56) none (some (.tmp 59)) none,22,none⟩,
 ⟨some 0,.assign (.tmp 60),22,none⟩] [0,1,2,7,8])
 (.seq (.seq (.ops [
 ⟨some 61,.move (.tmp 2),22,none⟩,
 ⟨some 62,.move (.tmp 0),22,none⟩,
 ⟨some 63,.move (.tmp 1),3,none⟩,
 ⟨some 64,.move (.tmp 7),3,none⟩,
 ⟨some 65,.binOp .add 3 (.tmp 63) (.tmp 64) 3,3,none⟩,
 ⟨some 66,.slice 22 (.tmp 62) (some (.tmp 65)) none none,22,none⟩,
 ⟨some 67,.call ⟨.value (.func 163),#[(.tmp 61),(.tmp 66)],#[22,22]⟩,4,none⟩,
 ⟨some 68,.unOp .not 4 (.tmp 67),4,none⟩] [0,1,2,7,8,68]) (sg c128S7)) (sg c128S10)))
def c128S12(_:Unit):Cmd:=(.seq (.seq (.ops [
 ⟨some 26,.move (.tmp 8),3,none⟩,
 ⟨some 27,.move (.tmp 7),3,none⟩,
 ⟨some 28,.binOp .add 3 (.tmp 26) (.tmp 27) 3,3,none⟩,
 ⟨some 29,.move (.tmp 0),22,none⟩,
 ⟨some 30,.call ⟨.builtin .cap,#[(.tmp 29)],#[22]⟩,3,none⟩,
 ⟨some 31,.binOp .gtr 3 (.tmp 28) (.tmp 30) 3,4,none⟩] [0,1,2,7,8,31]) (sg c128S4)) (sg c128S11))
def c128S13(_:Unit):Cmd:=(.seq (.ops [
 ⟨some 18,.move (.tmp 0),22,none⟩,
 ⟨some 19,.call ⟨.builtin .len,#[(.tmp 18)],#[22]⟩,3,none⟩,
 ⟨some 8,.assign (.tmp 19),3,none⟩] [0,1,2,7,8])
 (.seq (.seq (.ops [
 ⟨some 20,.move (.tmp 1),3,none⟩,
 ⟨some 21,.move (.tmp 8),3,none⟩,
 ⟨some 22,.binOp .eql 3 (.tmp 20) (.tmp 21) 3,4,none⟩] [0,1,2,7,8,22])
 (.cond (.tmp 22)
 (.seq (.ops [
 ⟨some 23,.move (.tmp 0),22,none⟩,
 ⟨some 24,.move (.tmp 2),22,none⟩,
 ⟨some 25,.call ⟨.builtin .append,#[(.tmp 23),(.tmp 24)],#[22,22]⟩,22,none⟩,
 ⟨some 6,.assign (.tmp 25),22,none⟩] [6]) (sg c128S0))
 (.skip [0,1,2,7,8]))) (sg c128S12)))
def c128:Cmd:=(.seq (.ops [
 ⟨some 6,.assign (.const (.slice none 0 0)),22,none⟩] [0,1,2])
 (.seq (.ops [
 ⟨some 10,.move (.tmp 0),22,none⟩,
 ⟨some 11,.move (.tmp 1),3,none⟩,
 ⟨some 12,.slice 22 (.tmp 10) (some (.tmp 11)) none none,22,none⟩] [0,1,2])
 (.seq (.ops [
 ⟨some 13,.move (.tmp 2),22,none⟩,
 ⟨some 14,.call ⟨.builtin .len,#[(.tmp 13)],#[22]⟩,3,none⟩,
 ⟨some 7,.assign (.tmp 14),3,none⟩] [0,1,2,7])
 (.seq (.seq (.ops [
 ⟨some 15,.move (.tmp 7),3,none⟩,
 ⟨some 16,.binOp .eql 3 (.tmp 15) (.const (.int .i64 0)) 3,4,none⟩] [0,1,2,7,16])
 (.cond (.tmp 16)
 (.seq (.ops [
 ⟨some 17,.move (.tmp 0),22,none⟩,
 ⟨some 6,.assign (.tmp 17),22,none⟩] [6])
 .ret)
 (.skip [0,1,2,7]))) (sg c128S13)))))
attribute [go_sem] c128 c128S0 c128S1 c128S2 c128S3 c128S4 c128S5 c128S6 c128S7 c128S8 c128S9 c128S10 c128S11 c128S12 c128S13
def c128D0:List (Bool × Ins):=[
 (true,⟨some 46,.move (.tmp 9),22,none⟩),
 (true,⟨some 47,.move (.tmp 1),3,none⟩),
 (true,⟨some 48,.move (.tmp 7),3,none⟩),
 (true,⟨some 49,.binOp .add 3 (.tmp 47) (.tmp 48) 3,3,none⟩),
 (true,⟨some 50,.slice 22 (.tmp 46) (some (.tmp 49)) none none,22,none⟩),
 (true,⟨some 51,.move (.tmp 0),22,none⟩),
 (true,⟨some 52,.move (.tmp 1),3,none⟩),
 (true,⟨some 53,.slice 22 (.tmp 51) (some (.tmp 52)) none none,22,none⟩),
 (false,⟨some 54,.call ⟨.builtin .copy,#[(.tmp 50),(.tmp 53)],#[22,22]⟩,3,none⟩)]
theorem c128draw0{L:List Nat}{ρ:Env}{w:World}{Q:Post}(h:DL Tryz.prog c128D0 L ρ w.drew Q):drawW Tryz.prog (drawOps 0 c128code) L ρ w Q :=
 drawW_by [(true,0),(true,1),(true,2),(true,3),(true,4),(true,5),(true,6),(true,7),(false,8)] c128D0 (by kernel_rfl) (by kernel_rfl) (by kernel_rfl) h
def c128D1:List (Bool × Ins):=[
 (true,⟨some 69,.move (.tmp 0),22,none⟩),
 (true,⟨some 70,.move (.tmp 1),3,none⟩),
 (true,⟨some 71,.move (.tmp 7),3,none⟩),
 (true,⟨some 72,.binOp .add 3 (.tmp 70) (.tmp 71) 3,3,none⟩),
 (true,⟨some 73,.slice 22 (.tmp 69) (some (.tmp 72)) none none,22,none⟩),
 (true,⟨some 74,.move (.tmp 0),22,none⟩),
 (true,⟨some 75,.move (.tmp 1),3,none⟩),
 (true,⟨some 76,.slice 22 (.tmp 74) (some (.tmp 75)) none none,22,none⟩),
 (false,⟨some 77,.call ⟨.builtin .copy,#[(.tmp 73),(.tmp 76)],#[22,22]⟩,3,none⟩)]
theorem c128draw1{L:List Nat}{ρ:Env}{w:World}{Q:Post}(h:DL Tryz.prog c128D1 L ρ w.drew Q):drawW Tryz.prog (drawOps 1 c128code) L ρ w Q :=
 drawW_by [(true,0),(true,1),(true,2),(true,3),(true,4),(true,5),(true,6),(true,7),(false,8)] c128D1 (by kernel_rfl) (by kernel_rfl) (by kernel_rfl) h
theorem ent128(a0 a1 a2:Value)(w:World)(K:Value→World→Prop)(h:W Tryz.prog c128 [(0,a0),(1,a1),(2,a2)] w (finQ Tryz.prog [.tmp 6] K)):Ret Tryz.prog 128 [a0,a1,a2] w K :=
 Ret_of_W (code:=c128code) Tryz.func128 (by kernel_rfl) (by kernel_rfl) (of_decide_eq_true (by kernel_rfl)) h
@[go_sem] theorem go128:goFunc Tryz.prog 128=true:=by kernel_rfl
def c160code:Code:=match Tryz.f160.body with | some c=>c | none=>.skip
def c160S0(_:Unit):Cmd:=(.seq (.ops [
 ⟨some 4,.assign (.const .nilIface),211,none⟩] [4])
 .ret)
def c160S1(_:Unit):Cmd:=(.seq (.ops [
 ⟨some 7,.move (.tmp 0),207,none⟩,
 ⟨some 8,.move (.tmp 0),207,none⟩,
 ⟨some 9,.nilCheck (.tmp 8),0,none⟩,
 ⟨some 10,.fieldAddr 209 (.tmp 9) 1,0,none⟩,
 ⟨some 11,.load 181 (.tmp 10),181,none⟩,
 ⟨some 12,.move (.tmp 1),5,none⟩,
 ⟨some 13,.buildSlice 181 1 #[(0,(.tmp 12))],181,none⟩,
 ⟨some 14,.call ⟨.builtin .append,#[(.tmp 11),(.tmp 13)],#[181,181]⟩,181,none⟩,
 ⟨some 15,.nilCheck (.tmp 7),0,none⟩,
 ⟨some 16,.fieldAddr 209 (.tmp 15) 1,0,none⟩,
 ⟨none,.store 181 (.tmp 16) (.tmp 14),0,none⟩] []) (sg c160S0))
def c160:Cmd:=(.seq (.ops [
 ⟨some 4,.assign (.const .nilIface),211,none⟩] [0,1])
 (.seq (.ops [
 ⟨some 5,.move (.tmp 0),207,none⟩,
 ⟨some 6,.call ⟨.value (.func 188),#[(.tmp 5)],#[207]⟩,0,none⟩] [0,1]) (sg c160S1)))
attribute [go_sem] c160 c160S0 c160S1
theorem ent160(a0 a1:Value)(w:World)(K:Value→World→Prop)(h:W Tryz.prog c160 [(0,a0),(1,a1)] w (finQ Tryz.prog [.tmp 4] K)):Ret Tryz.prog 160 [a0,a1] w K :=
 Ret_of_W (code:=c160code) Tryz.func160 (by kernel_rfl) (by kernel_rfl) (of_decide_eq_true (by kernel_rfl)) h
@[go_sem] theorem go160:goFunc Tryz.prog 160=true:=by kernel_rfl
def c137code:Code:=match Tryz.f137.body with | some c=>c | none=>.skip
def c137S0(_:Unit):Cmd:=.ret
def c137:Cmd:=(.seq (.ops [
 ⟨some 4,.assign (.const (.bool false)),4,none⟩] [0,1])
 (.seq (.ops [
 ⟨some 5,.move (.tmp 0),9,none⟩,
 ⟨some 6,.call ⟨.value (.func 173),#[(.tmp 5)],#[9]⟩,4,none⟩,
 ⟨some 7,.move (.tmp 6),4,none⟩,
 ⟨some 8,.move (.tmp 1),9,(some (7,true))⟩,
 ⟨some 9,.call ⟨.value (.func 173),#[(.tmp 8)],#[9]⟩,4,(some (7,true))⟩,
 ⟨some 10,.unOp .not 4 (.tmp 9),4,(some (7,true))⟩,
 ⟨some 11,.pick (.tmp 7) (.tmp 10) (.const (.bool false)),4,none⟩,
 ⟨some 12,.move (.tmp 11),4,none⟩,
 ⟨some 13,.move (.tmp 0),9,(some (12,false))⟩,
 ⟨some 14,.move (.tmp 1),9,(some (12,false))⟩,
 ⟨some 15,.binOp .lss 9 (.tmp 13) (.tmp 14) 9,4,(some (12,false))⟩,
 ⟨some 16,.pick (.tmp 12) (.const (.bool true)) (.tmp 15),4,none⟩,
 ⟨some 4,.assign (.tmp 16),4,none⟩] [4]) (sg c137S0)))
attribute [go_sem] c137 c137S0
theorem ent137(a0 a1:Value)(w:World)(K:Value→World→Prop)(h:W Tryz.prog c137 [(0,a0),(1,a1)] w (finQ Tryz.prog [.tmp 4] K)):Ret Tryz.prog 137 [a0,a1] w K :=
 Ret_of_W (code:=c137code) Tryz.func137 (by kernel_rfl) (by kernel_rfl) (of_decide_eq_true (by kernel_rfl)) h
@[go_sem] theorem go137:goFunc Tryz.prog 137=true:=by kernel_rfl
def c173code:Code:=match Tryz.f173.body with | some c=>c | none=>.skip
def c173:Cmd:=(.seq (.ops [
 ⟨some 2,.assign (.const (.bool false)),4,none⟩] [0])
 (.seq (.ops [
 ⟨some 3,.move (.tmp 0),9,none⟩,
 ⟨some 4,.move (.tmp 0),9,none⟩,
 ⟨some 5,.binOp .neq 9 (.tmp 3) (.tmp 4) 9,4,none⟩,
 ⟨some 2,.assign (.tmp 5),4,none⟩] [2])
 .ret))
attribute [go_sem] c173
theorem ent173(a0:Value)(w:World)(K:Value→World→Prop)(h:W Tryz.prog c173 [(0,a0)] w (finQ Tryz.prog [.tmp 2] K)):Ret Tryz.prog 173 [a0] w K :=
 Ret_of_W (code:=c173code) Tryz.func173 (by kernel_rfl) (by kernel_rfl) (of_decide_eq_true (by kernel_rfl)) h
@[go_sem] theorem go173:goFunc Tryz.prog 173=true:=by kernel_rfl
def c4code:Code:=match Tryz.f4.body with | some c=>c | none=>.skip
def c4S0(_:Unit):Cmd:=(.cond (.tmp 46)
 (.draw (drawOps 0 c4code) [0,1,6,7,8])
 (.skip [0,1,6,7,8]))
def c4S1(_:Unit):Cmd:=(.ops [
 ⟨some 31,.move (.tmp 8),3,none⟩,
 ⟨some 32,.binOp .add 3 (.tmp 31) (.const (.int .i64 1)) 3,3,none⟩,
 ⟨some 8,.assign (.tmp 32),3,none⟩] [0,1,6,7,8])
def c4S2(_:Unit):Cmd:=(.seq (.block 1 (.seq (.ops [
 ⟨some 33,.move (.tmp 0),35,none⟩,
 ⟨some 34,.move (.tmp 8),3,none⟩,
 ⟨some 35,.indexAddr 35 (.tmp 33) (.tmp 34),0,none⟩,
 ⟨some 36,.fieldAddr 40 (.tmp 35) 0,0,none⟩,
 ⟨some 37,.load 3 (.tmp 36),3,none⟩,
 ⟨some 38,.binOp .eql 3 (.tmp 37) (.const (.int .i64 0)) 3,4,none⟩,
 ⟨some 39,.move (.tmp 38),4,none⟩,
 ⟨some 40,.move (.tmp 0),35,(some (39,true))⟩,
 ⟨some 41,.move (.tmp 8),3,(some (39,true))⟩,
 ⟨some 42,.indexAddr 35 (.tmp 40) (.tmp 41),0,(some (39,true))⟩,
 ⟨some 43,.load 40 (.tmp 42),40,(some (39,true))⟩,
 ⟨some 44,.call ⟨.value (.func 17),#[(.tmp 43)],#[40]⟩,4,(some (39,true))⟩,
 ⟨some 45,.unOp .not 4 (.tmp 44),4,(some (39,true))⟩,
 ⟨some 46,.pick (.tmp 39) (.tmp 45) (.const (.bool false)),4,none⟩] [0,1,6,7,8,46]) (sg c4S0))) (sg c4S1))
def c4L0(_:Unit):Cmd:=(.seq (.seq (.ops [
 ⟨some 23,.move (.tmp 8),3,none⟩,
 ⟨some 24,.move (.tmp 0),35,none⟩,
 ⟨some 25,.call ⟨.builtin .len,#[(.tmp 24)],#[35]⟩,3,none⟩,
 ⟨some 26,.binOp .lss 3 (.tmp 23) (.tmp 25) 3,4,none⟩,
 ⟨some 27,.move (.tmp 26),4,none⟩,
 ⟨some 28,.move (.tmp 8),3,(some (27,true))⟩,
 ⟨some 29,.binOp .lss 3 (.tmp 28) (.const (.int .i64 40)) 3,4,(some (27,true))⟩,
 ⟨some 30,.pick (.tmp 27) (.tmp 29) (.const (.bool false)),4,none⟩] [0,1,6,7,8,30])
 (.cond (.tmp 30)
 (.skip [0,1,6,7,8])
 (.exit 0 [1,6,7]))) (sg c4S2))
def c4S3(_:Unit):Cmd:=(.ops [
 ⟨some 67,.move (.tmp 9),3,none⟩,
 ⟨some 68,.binOp .add 3 (.tmp 67) (.const (.int .i64 1)) 3,3,none⟩,
 ⟨some 9,.assign (.tmp 68),3,none⟩] [1,6,7,9])
def c4S4(_:Unit):Cmd:=(.seq (.block 3 (.seq (.ops [
 ⟨some 69,.move (.tmp 1),36,none⟩,
 ⟨some 70,.move (.tmp 9),3,none⟩,
 ⟨some 71,.indexAddr 36 (.tmp 69) (.tmp 70),0,none⟩,
 ⟨some 72,.fieldAddr 44 (.tmp 71) 1,0,none⟩,
 ⟨some 73,.load 9 (.tmp 72),9,none⟩,
 ⟨some 74,.call ⟨.builtin .len,#[(.tmp 73)],#[9]⟩,3,none⟩,
 ⟨some 75,.binOp .leq 3 (.tmp 74) (.const (.int .i64 2000)) 3,4,none⟩] [1,6,7,9,75])
 (.cond (.tmp 75)
 (.draw (drawOps 1 c4code) [1,6,7,9])
 (.skip [1,6,7,9])))) (sg c4S3))
def c4L1(_:Unit):Cmd:=(.seq (.seq (.ops [
 ⟨some 59,.move (.tmp 9),3,none⟩,
 ⟨some 60,.move (.tmp 1),36,none⟩,
 ⟨some 61,.call ⟨.builtin .len,#[(.tmp 60)],#[36]⟩,3,none⟩,
 ⟨some 62,.binOp .lss 3 (.tmp 59) (.tmp 61) 3,4,none⟩,
 ⟨some 63,.move (.tmp 62),4,none⟩,
 ⟨some 64,.move (.tmp 9),3,(some (63,true))⟩,
 ⟨some 65,.binOp .lss 3 (.tmp 64) (.const (.int .i64 10)) 3,4,(some (63,true))⟩,
 ⟨some 66,.pick (.tmp 63) (.tmp 65) (.const (.bool false)),4,none⟩] [1,6,7,9,66])
 (.cond (.tmp 66)
 (.skip [1,6,7,9])
 (.exit 2 [7]))) (sg c4S4))
def c4S5(_:Unit):Cmd:=.ret
def c4S6(_:Unit):Cmd:=(.cond (.tmp 169)
 (.seq (.ops [
 ⟨some 4,.assign (.const (.bool false)),4,none⟩] [4])
 .ret)
 (.skip [7,11,12]))
def c4S7(_:Unit):Cmd:=(.seq (.draw (drawOps 2 c4code) [7,11,12,169]) (sg c4S6))
def c4S8(_:Unit):Cmd:=(.ops [
 ⟨some 103,.move (.tmp 12),3,none⟩,
 ⟨some 104,.binOp .add 3 (.tmp 103) (.const (.int .i64 1)) 3,3,none⟩,
 ⟨some 12,.assign (.tmp 104),3,none⟩] [7,11,12])
def c4S9(_:Unit):Cmd:=(.seq (.block 5 (.seq (.ops [
 ⟨some 106,.move (.tmp 7),37,none⟩,
 ⟨some 107,.move (.tmp 11),46,none⟩,
 ⟨some 108,.move (.tmp 12),3,none⟩,
 ⟨some 109,.indexAddr 46 (.tmp 107) (.tmp 108),0,none⟩,
 ⟨some 110,.fieldAddr 53 (.tmp 109) 0,0,none⟩,
 ⟨some 111,.load 9 (.tmp 110),9,none⟩,
 ⟨some 112,.call ⟨.value (.func 25),#[(.tmp 106),(.tmp 111)],#[37,9]⟩,50,none⟩,
 ⟨some 105,.move (.tmp 112),50,none⟩,
 ⟨some 113,.extract (.tmp 105) 0,9,none⟩,
 ⟨some 114,.extract (.tmp 105) 1,30,none⟩,
 ⟨some 13,.assign (.tmp 113),9,none⟩,
 ⟨some 14,.assign (.tmp 114),30,none⟩] [7,11,12,13,14]) (sg c4S7))) (sg c4S8))
def c4L2(_:Unit):Cmd:=(.seq (.seq (.ops [
 ⟨some 99,.move (.tmp 12),3,none⟩,
 ⟨some 100,.move (.tmp 11),46,none⟩,
 ⟨some 101,.call ⟨.builtin .len,#[(.tmp 100)],#[46]⟩,3,none⟩,
 ⟨some 102,.binOp .lss 3 (.tmp 99) (.tmp 101) 3,4,none⟩] [7,11,12,102])
 (.cond (.tmp 102)
 (.skip [7,11,12])
 (.exit 4 []))) (sg c4S9))
def c4S10(_:Unit):Cmd:=.ret
def c4S11(_:Unit):Cmd:=(.seq (.ops [
 ⟨some 170,.call ⟨.value (.func 24),#[],#[]⟩,4,none⟩,
 ⟨some 4,.assign (.tmp 170),4,none⟩] [4]) (sg c4S10))
def c4S12(_:Unit):Cmd:=(.seq (.seq (.ops [
 ⟨some 12,.assign (.const (.int .i64 0)),3,none⟩] [7,11,12])
 (.block 4 (.loop (sg c4L2)))) (sg c4S11))
def c4S13(_:Unit):Cmd:=(.seq (.seq (.ops [
 ⟨some 96,.move (.tmp 10),4,none⟩,
 ⟨some 97,.unOp .not 4 (.tmp 96),4,none⟩] [7,11,97])
 (.cond (.tmp 97)
 (.seq (.ops [
 ⟨some 98,.call ⟨.value (.func 24),#[],#[]⟩,4,none⟩,
 ⟨some 4,.assign (.tmp 98),4,none⟩] [4]) (sg c4S5))
 (.skip [7,11]))) (sg c4S12))
def c4S14(_:Unit):Cmd:=(.seq (.ops [
 ⟨some 94,.move (.tmp 7),37,none⟩,
 ⟨some 95,.call ⟨.value (.func 23),#[(.tmp 94)],#[37]⟩,3,none⟩] [7,10,11]) (sg c4S13))
def c4S15(_:Unit):Cmd:=(.seq (.ops [
 ⟨some 92,.move (.tmp 7),37,none⟩,
 ⟨some 93,.call ⟨.value (.func 22),#[(.tmp 92)],#[37]⟩,48,none⟩] [7,10,11]) (sg c4S14))
def c4S16(_:Unit):Cmd:=(.seq (.ops [
 ⟨some 90,.move (.tmp 7),37,none⟩,
 ⟨some 91,.call ⟨.value (.func 21),#[(.tmp 90),(.const (.string (ofL []))),(.const (.int .i64 3000))],#[37,9,3]⟩,46,none⟩,
 ⟨some 11,.assign (.tmp 91),46,none⟩] [7,10,11]) (sg c4S15))
def c4S17(_:Unit):Cmd:=(.seq (.ops [
 ⟨some 88,.move (.tmp 7),37,none⟩,
 ⟨some 89,.call ⟨.value (.func 20),#[(.tmp 88)],#[37]⟩,4,none⟩,
 ⟨some 10,.assign (.tmp 89),4,none⟩] [7,10]) (sg c4S16))
def c4S18(_:Unit):Cmd:=(.seq (.seq (.ops [
 ⟨some 9,.assign (.const (.int .i64 0)),3,none⟩] [1,6,7,9])
 (.block 2 (.loop (sg c4L1)))) (sg c4S17))
def c4S19(_:Unit):Cmd:=(.seq (.seq (.ops [
 ⟨some 8,.assign (.const (.int .i64 0)),3,none⟩] [0,1,6,7,8])
 (.block 0 (.loop (sg c4L0)))) (sg c4S18))
def c4S20(_:Unit):Cmd:=(.seq (.seq (.ops [
 ⟨some 21,.move (.tmp 7),37,none⟩,
 ⟨some 22,.binOp .eql 37 (.tmp 21) (.const (.pointer none)) 37,4,none⟩] [0,1,6,7,22])
 (.cond (.tmp 22)
 (.seq (.ops [
 ⟨some 4,.assign (.const (.bool false)),4,none⟩] [4])
 .ret)
 (.skip [0,1,6,7]))) (sg c4S19))
def c4S21(_:Unit):Cmd:=(.seq (.ops [
 ⟨some 19,.move (.tmp 6),24,none⟩,
 ⟨some 20,.call ⟨.value (.func 16),#[(.tmp 19),(.const (.int .i64 0))],#[24,3]⟩,37,none⟩,
 ⟨some 7,.assign (.tmp 20),37,none⟩] [0,1,6,7]) (sg c4S20))
def c4:Cmd:=(.seq (.ops [
 ⟨some 4,.assign (.const (.bool false)),4,none⟩] [0,1])
 (.seq (.ops [
 ⟨some 16,.call ⟨.value (.func 15),#[(.const (.int .i64 60))],#[3]⟩,25,none⟩,
 ⟨some 15,.move (.tmp 16),25,none⟩,
 ⟨some 17,.extract (.tmp 15) 0,23,none⟩,
 ⟨some 18,.extract (.tmp 15) 1,24,none⟩,
 ⟨some 5,.assign (.tmp 17),23,none⟩,
 ⟨some 6,.assign (.tmp 18),24,none⟩] [0,1,6]) (sg c4S21)))
attribute [go_sem] c4 c4S0 c4S1 c4S2 c4S3 c4S4 c4S5 c4S6 c4S7 c4S8 c4S9 c4S10 c4S12 c4S13 c4S14 c4S15 c4S16 c4S20 c4S21
def c4D0:List (Nat × Ins):=[
 (0,⟨some 47,.move (.tmp 7),37,none⟩),
 (0,⟨some 48,.move (.tmp 0),35,none⟩),
 (0,⟨some 49,.move (.tmp 8),3,none⟩),
 (0,⟨some 50,.indexAddr 35 (.tmp 48) (.tmp 49),0,none⟩),
 (0,⟨some 51,.fieldAddr 40 (.tmp 50) 1,0,none⟩),
 (0,⟨some 53,.move (.tmp 0),35,none⟩),
 (0,⟨some 54,.move (.tmp 8),3,none⟩),
 (0,⟨some 55,.indexAddr 35 (.tmp 53) (.tmp 54),0,none⟩),
 (0,⟨some 56,.fieldAddr 40 (.tmp 55) 2,0,none⟩),
 (1,⟨some 52,.load 9 (.tmp 51),9,none⟩),
 (2,⟨some 57,.load 9 (.tmp 56),9,none⟩),
 (3,⟨some 58,.call ⟨.value (.func 18),#[(.tmp 47),(.tmp 52),(.tmp 57)],#[37,9,9]⟩,30,none⟩)]
theorem c4draw0{L:List Nat}{ρ:Env}{w:World}{Q:Post}(S:World→Prop)(hS:S w.drew)(h:DG Tryz.prog S c4D0 L ρ w.drew Q):drawW Tryz.prog (drawOps 0 c4code) L ρ w Q :=
 drawW_held [5] [(0,0),(0,1),(0,2),(0,3),(0,4),(0,6),(0,7),(0,8),(0,9),(1,5),(2,10),(3,11)] c4D0 (by kernel_rfl) (by kernel_rfl) (by kernel_rfl) S hS h
def c4D1:List (Nat × Ins):=[
 (0,⟨some 76,.move (.tmp 6),24,none⟩),
 (0,⟨some 77,.move (.tmp 1),36,none⟩),
 (0,⟨some 78,.move (.tmp 9),3,none⟩),
 (0,⟨some 79,.indexAddr 36 (.tmp 77) (.tmp 78),0,none⟩),
 (0,⟨some 80,.fieldAddr 44 (.tmp 79) 0,0,none⟩),
 (0,⟨some 82,.move (.tmp 1),36,none⟩),
 (0,⟨some 83,.move (.tmp 9),3,none⟩),
 (0,⟨some 84,.indexAddr 36 (.tmp 82) (.tmp 83),0,none⟩),
 (0,⟨some 85,.fieldAddr 44 (.tmp 84) 1,0,none⟩),
 (1,⟨some 81,.load 3 (.tmp 80),3,none⟩),
 (2,⟨some 86,.load 9 (.tmp 85),9,none⟩),
 (3,⟨some 87,.call ⟨.value (.func 19),#[(.tmp 76),(.tmp 81),(.tmp 86)],#[24,3,9]⟩,30,none⟩)]
theorem c4draw1{L:List Nat}{ρ:Env}{w:World}{Q:Post}(S:World→Prop)(hS:S w.drew)(h:DG Tryz.prog S c4D1 L ρ w.drew Q):drawW Tryz.prog (drawOps 1 c4code) L ρ w Q :=
 drawW_held [5] [(0,0),(0,1),(0,2),(0,3),(0,4),(0,6),(0,7),(0,8),(0,9),(1,5),(2,10),(3,11)] c4D1 (by kernel_rfl) (by kernel_rfl) (by kernel_rfl) S hS h
def c4D2:List (Bool × Ins):=[
 (true,⟨some 115,.move (.tmp 14),30,none⟩),
 (true,⟨some 116,.binOp .neq 30 (.tmp 115) (.const (.int .i64 0)) 30,4,none⟩),
 (true,⟨some 117,.move (.tmp 116),4,none⟩),
 (true,⟨some 118,.move (.tmp 13),9,(some (117,false))⟩),
 (true,⟨some 119,.move (.tmp 11),46,(some (117,false))⟩),
 (true,⟨some 120,.move (.tmp 12),3,(some (117,false))⟩),
 (true,⟨some 121,.indexAddr 46 (.tmp 119) (.tmp 120),0,(some (117,false))⟩),
 (true,⟨some 122,.fieldAddr 53 (.tmp 121) 1,0,(some (117,false))⟩),
 (false,⟨some 123,.load 9 (.tmp 122),9,(some (117,false))⟩),
 (true,⟨some 124,.binOp .neq 9 (.tmp 118) (.tmp 123) 9,4,(some (117,false))⟩),
 (true,⟨some 125,.pick (.tmp 117) (.const (.bool true)) (.tmp 124),4,none⟩),
 (true,⟨some 126,.move (.tmp 125),4,none⟩),
 (true,⟨some 127,.move (.tmp 12),3,(some (126,false))⟩),
 (true,⟨some 128,.binOp .gtr 3 (.tmp 127) (.const (.int .i64 0)) 3,4,(some (126,false))⟩),
 (true,⟨some 129,.move (.tmp 128),4,(some (126,false))⟩),
 (true,⟨some 130,.move (.tmp 11),46,(some (129,true))⟩),
 (true,⟨some 131,.move (.tmp 12),3,(some (129,true))⟩),
 (true,⟨some 132,.binOp .sub 3 (.tmp 131) (.const (.int .i64 1)) 3,3,(some (129,true))⟩),
 (true,⟨some 133,.indexAddr 46 (.tmp 130) (.tmp 132),0,(some (129,true))⟩),
 (true,⟨some 134,.fieldAddr 53 (.tmp 133) 0,0,(some (129,true))⟩),
 (false,⟨some 135,.load 9 (.tmp 134),9,(some (129,true))⟩),
 (true,⟨some 136,.move (.tmp 11),46,(some (129,true))⟩),
 (true,⟨some 137,.move (.tmp 12),3,(some (129,true))⟩),
 (true,⟨some 138,.indexAddr 46 (.tmp 136) (.tmp 137),0,(some (129,true))⟩),
 (true,⟨some 139,.fieldAddr 53 (.tmp 138) 0,0,(some (129,true))⟩),
 (false,⟨some 140,.load 9 (.tmp 139),9,(some (129,true))⟩),
 (true,⟨some 141,.binOp .geq 9 (.tmp 135) (.tmp 140) 9,4,(some (129,true))⟩),
 (true,⟨some 142,.pick (.tmp 129) (.tmp 141) (.const (.bool false)),4,(some (126,false))⟩),
 (true,⟨some 143,.pick (.tmp 126) (.const (.bool true)) (.tmp 142),4,none⟩),
 (true,⟨some 144,.move (.tmp 143),4,none⟩),
 (true,⟨some 145,.move (.tmp 11),46,(some (144,false))⟩),
 (true,⟨some 146,.move (.tmp 12),3,(some (144,false))⟩),
 (true,⟨some 147,.indexAddr 46 (.tmp 145) (.tmp 146),0,(some (144,false))⟩),
 (true,⟨some 148,.fieldAddr 53 (.tmp 147) 0,0,(some (144,false))⟩),
 (false,⟨some 149,.load 9 (.tmp 148),9,(some (144,false))⟩),
 (true,⟨some 150,.binOp .eql 9 (.tmp 149) (.const (.string (ofL []))) 9,4,(some (144,false))⟩),
 (true,⟨some 151,.pick (.tmp 144) (.const (.bool true)) (.tmp 150),4,none⟩),
 (true,⟨some 152,.move (.tmp 151),4,none⟩),
 (true,⟨some 153,.move (.tmp 11),46,(some (152,false))⟩),
 (true,⟨some 154,.move (.tmp 12),3,(some (152,false))⟩),
 (true,⟨some 155,.indexAddr 46 (.tmp 153) (.tmp 154),0,(some (152,false))⟩),
 (true,⟨some 156,.fieldAddr 53 (.tmp 155) 0,0,(some (152,false))⟩),
 (false,⟨some 157,.load 9 (.tmp 156),9,(some (152,false))⟩),
 (true,⟨some 158,.call ⟨.builtin .len,#[(.tmp 157)],#[9]⟩,3,(some (152,false))⟩),
 (true,⟨some 159,.binOp .gtr 3 (.tmp 158) (.const (.int .i64 32)) 3,4,(some (152,false))⟩),
 (true,⟨some 160,.pick (.tmp 152) (.const (.bool true)) (.tmp 159),4,none⟩),
 (true,⟨some 161,.move (.tmp 160),4,none⟩),
 (true,⟨some 162,.move (.tmp 11),46,(some (161,false))⟩),
 (true,⟨some 163,.move (.tmp 12),3,(some (161,false))⟩),
 (true,⟨some 164,.indexAddr 46 (.tmp 162) (.tmp 163),0,(some (161,false))⟩),
 (true,⟨some 165,.fieldAddr 53 (.tmp 164) 1,0,(some (161,false))⟩),
 (false,⟨some 166,.load 9 (.tmp 165),9,(some (161,false))⟩),
 (true,⟨some 167,.call ⟨.builtin .len,#[(.tmp 166)],#[9]⟩,3,(some (161,false))⟩),
 (true,⟨some 168,.binOp .gtr 3 (.tmp 167) (.const (.int .i64 80)) 3,4,(some (161,false))⟩),
 (true,⟨some 169,.pick (.tmp 161) (.const (.bool true)) (.tmp 168),4,none⟩)]
theorem c4draw2{L:List Nat}{ρ:Env}{w:World}{Q:Post}(h:DL Tryz.prog c4D2 L ρ w.drew Q):drawW Tryz.prog (drawOps 2 c4code) L ρ w Q :=
 drawW_still [true,true,true,true,true,true,true,true,false,true,true,true,true,true,true,true,true,true,true,true,false,true,true,true,true,false,true,true,true,true,true,true,true,true,false,true,true,true,true,true,true,true,false,true,true,true,true,true,true,true,true,false,true,true,true] c4D2 (by kernel_rfl) (by kernel_rfl) (by kernel_rfl) h
theorem ent4(a0 a1:Value)(w:World)(K:Value→World→Prop)(h:W Tryz.prog c4 [(0,a0),(1,a1)] w (finQ Tryz.prog [.tmp 4] K)):Ret Tryz.prog 4 [a0,a1] w K :=
 Ret_of_W (code:=c4code) Tryz.func4 (by kernel_rfl) (by kernel_rfl) (of_decide_eq_true (by kernel_rfl)) h
@[go_sem] theorem go4:goFunc Tryz.prog 4=true:=by kernel_rfl
def c17code:Code:=match Tryz.f17.body with | some c=>c | none=>.skip
def c17:Cmd:=(.seq (.ops [
 ⟨some 1,.box 40 (.tmp 0),0,none⟩,
 ⟨some 2,.assign (.const (.bool false)),4,none⟩] [1])
 (.seq (.opsX [
 ⟨some 3,.fieldAddr 40 (.tmp 1) 1,0,none⟩,
 ⟨some 4,.load 9 (.tmp 3),9,none⟩,
 ⟨some 5,.call ⟨.builtin .len,#[(.tmp 4)],#[9]⟩,3,none⟩,
 ⟨some 6,.fieldAddr 40 (.tmp 1) 2,0,none⟩,
 ⟨some 7,.load 9 (.tmp 6),9,none⟩,
 ⟨some 8,.call ⟨.builtin .len,#[(.tmp 7)],#[9]⟩,3,none⟩,
 ⟨some 9,.binOp .add 3 (.tmp 5) (.tmp 8) 3,3,none⟩,
 ⟨some 10,.binOp .gtr 3 (.tmp 9) (.const (.int .i64 2000)) 3,4,none⟩,
 ⟨some 2,.assign (.tmp 10),4,none⟩] [2])
 .ret))
attribute [go_sem] c17
theorem ent17(a0:Value)(w:World)(K:Value→World→Prop)(h:W Tryz.prog c17 [(0,a0)] w (finQ Tryz.prog [.tmp 2] K)):Ret Tryz.prog 17 [a0] w K :=
 Ret_of_W (code:=c17code) Tryz.func17 (by kernel_rfl) (by kernel_rfl) (of_decide_eq_true (by kernel_rfl)) h
@[go_sem] theorem go17:goFunc Tryz.prog 17=true:=by kernel_rfl
def c166code:Code:=match Tryz.f166.body with | some c=>c | none=>.skip
def c166S0(_:Unit):Cmd:=(.cond (.tmp 32)
 (.skip [1,2,3,5])
 (.exit 0 [1,2,3,5]))
def c166S1(_:Unit):Cmd:=(.block 1 (.ops [
 ⟨some 33,.move (.tmp 5),3,none⟩,
 ⟨some 34,.binOp .add 3 (.tmp 33) (.const (.int .i64 1)) 3,3,none⟩,
 ⟨some 5,.assign (.tmp 34),3,none⟩] [1,2,3,5]))
def c166L0(_:Unit):Cmd:=(.seq (.seq (.draw (drawOps 0 c166code) [1,2,3,5,32]) (sg c166S0)) (sg c166S1))
def c166S2(_:Unit):Cmd:=.ret
def c166S3(_:Unit):Cmd:=(.seq (.draw (drawOps 3 c166code) [2,3,4]) (sg c166S2))
def c166S4(_:Unit):Cmd:=(.seq (.draw (drawOps 2 c166code) [1,2,3,5,6,7]) (sg c166S3))
def c166S5(_:Unit):Cmd:=(.seq (.draw (drawOps 1 c166code) [1,2,3,5,6]) (sg c166S4))
def c166S6(_:Unit):Cmd:=(.cond (.tmp 81)
 (.exit 2 [1,2,3,5])
 (.skip [1,2,3,5]))
def c166S7(_:Unit):Cmd:=(.ops [
 ⟨some 69,.move (.tmp 5),3,none⟩,
 ⟨some 70,.binOp .add 3 (.tmp 69) (.const (.int .i64 1)) 3,3,none⟩,
 ⟨some 5,.assign (.tmp 70),3,none⟩] [1,2,3,5])
def c166S8(_:Unit):Cmd:=(.seq (.block 3 (.seq (.draw (drawOps 4 c166code) [1,2,3,5,81]) (sg c166S6))) (sg c166S7))
def c166L1(_:Unit):Cmd:=(.seq (.seq (.ops [
 ⟨some 63,.move (.tmp 5),3,none⟩,
 ⟨some 64,.fieldAddr 119 (.tmp 1) 1,0,none⟩,
 ⟨some 65,.load 22 (.tmp 64),22,none⟩,
 ⟨some 66,.call ⟨.builtin .len,#[(.tmp 65)],#[22]⟩,3,none⟩,
 ⟨some 67,.binOp .sub 3 (.tmp 66) (.const (.int .i64 1)) 3,3,none⟩,
 ⟨some 68,.binOp .lss 3 (.tmp 63) (.tmp 67) 3,4,none⟩] [1,2,3,5,68])
 (.cond (.tmp 68)
 (.skip [1,2,3,5])
 (.exit 2 [1,2,3,5]))) (sg c166S8))
def c166S9(_:Unit):Cmd:=(.cond (.tmp 96)
 (.skip [1,2,3,5])
 (.exit 4 [1,2,3,5]))
def c166S10(_:Unit):Cmd:=(.block 5 (.ops [
 ⟨some 97,.move (.tmp 5),3,none⟩,
 ⟨some 98,.binOp .sub 3 (.tmp 97) (.const (.int .i64 1)) 3,3,none⟩,
 ⟨some 5,.assign (.tmp 98),3,none⟩] [1,2,3,5]))
def c166L2(_:Unit):Cmd:=(.seq (.seq (.draw (drawOps 5 c166code) [1,2,3,5,96]) (sg c166S9)) (sg c166S10))
def c166S11(_:Unit):Cmd:=.ret
def c166S12(_:Unit):Cmd:=(.seq (.draw (drawOps 8 c166code) [2,3,4]) (sg c166S11))
def c166S13(_:Unit):Cmd:=(.seq (.draw (drawOps 7 c166code) [2,3,8,9]) (sg c166S12))
def c166S14(_:Unit):Cmd:=(.seq (.draw (drawOps 6 c166code) [1,2,3,5,8]) (sg c166S13))
def c166S15(_:Unit):Cmd:=(.seq (.block 4 (.loop (sg c166L2))) (sg c166S14))
def c166S16(_:Unit):Cmd:=(.seq (.seq (.ops [
 ⟨some 5,.assign (.const (.int .i64 1)),3,none⟩] [1,2,3,5])
 (.block 2 (.loop (sg c166L1)))) (sg c166S15))
def c166:Cmd:=(.seq (.ops [
 ⟨some 1,.box 119 (.tmp 0),0,none⟩,
 ⟨some 2,.alloc 119,0,none⟩,
 ⟨some 3,.alloc 119,0,none⟩,
 ⟨some 4,.assign (.const (.string (ofL []))),9,none⟩] [1,2,3])
 (.seq (.ops [
 ⟨some 5,.assign (.const (.int .i64 1)),3,none⟩] [1,2,3,5])
 (.seq (.seq (.ops [
 ⟨some 10,.fieldAddr 119 (.tmp 1) 0,0,none⟩,
 ⟨some 11,.load 4 (.tmp 10),4,none⟩,
 ⟨some 12,.unOp .not 4 (.tmp 11),4,none⟩] [1,2,3,5,12])
 (.cond (.tmp 12)
 (.seq (.block 0 (.loop (sg c166L0))) (sg c166S5))
 (.skip [1,2,3]))) (sg c166S16))))
attribute [go_sem] c166 c166S0 c166S1 c166S2 c166S6 c166S7 c166S8 c166S9 c166S10 c166S11 c166S16
def c166D0:List (Nat × Ins):=[
 (0,⟨some 13,.move (.tmp 5),3,none⟩),
 (0,⟨some 14,.fieldAddr 119 (.tmp 1) 1,0,none⟩),
 (2,⟨some 15,.load 22 (.tmp 14),22,none⟩),
 (0,⟨some 16,.call ⟨.builtin .len,#[(.tmp 15)],#[22]⟩,3,none⟩),
 (0,⟨some 17,.binOp .sub 3 (.tmp 16) (.const (.int .i64 2)) 3,3,none⟩),
 (0,⟨some 18,.binOp .lss 3 (.tmp 13) (.tmp 17) 3,4,none⟩),
 (0,⟨some 19,.move (.tmp 18),4,none⟩),
 (0,⟨some 20,.fieldAddr 119 (.tmp 1) 1,0,(some (19,true))⟩),
 (0,⟨some 22,.move (.tmp 5),3,(some (19,true))⟩),
 (0,⟨some 24,.fieldAddr 119 (.tmp 1) 3,0,(some (19,true))⟩),
 (0,⟨some 26,.move (.tmp 5),3,(some (19,true))⟩),
 (0,⟨some 27,.binOp .add 3 (.tmp 26) (.const (.int .i64 1)) 3,3,(some (19,true))⟩),
 (1,⟨some 21,.load 22 (.tmp 20),22,(some (19,true))⟩),
 (0,⟨some 23,.slice 22 (.tmp 21) none (some (.tmp 22)) none,22,(some (19,true))⟩),
 (2,⟨some 25,.load 48 (.tmp 24),48,(some (19,true))⟩),
 (0,⟨some 28,.slice 48 (.tmp 25) none (some (.tmp 27)) none,48,(some (19,true))⟩),
 (2,⟨some 29,.build 119 #[(1,(.tmp 23)),(3,(.tmp 28))],119,(some (19,true))⟩),
 (2,⟨some 30,.call ⟨.value (.func 165),#[(.tmp 29)],#[119]⟩,3,(some (19,true))⟩),
 (0,⟨some 31,.binOp .leq 3 (.tmp 30) (.const (.int .i64 128)) 3,4,(some (19,true))⟩),
 (0,⟨some 32,.pick (.tmp 19) (.tmp 31) (.const (.bool false)),4,none⟩)]
theorem c166draw0{L:List Nat}{ρ:Env}{w:World}{Q:Post}(S:World→Prop)(hS:S w.drew)(h:DG Tryz.prog S c166D0 L ρ w.drew Q):drawW Tryz.prog (drawOps 0 c166code) L ρ w Q :=
 drawW_held [8] [(0,0),(0,1),(2,2),(0,3),(0,4),(0,5),(0,6),(0,7),(0,9),(0,11),(0,13),(0,14),(1,8),(0,10),(2,12),(0,15),(2,16),(2,17),(0,18),(0,19)] c166D0 (by kernel_rfl) (by kernel_rfl) (by kernel_rfl) S hS h
def c166D1:GT:=(.one 0 ⟨some 35,.fieldAddr 119 (.tmp 1) 1,0,none⟩
 (.one 0 ⟨some 37,.move (.tmp 5),3,none⟩
 (.one 0 ⟨some 39,.fieldAddr 119 (.tmp 1) 3,0,none⟩
 (.one 0 ⟨some 41,.move (.tmp 5),3,none⟩
 (.one 0 ⟨some 42,.binOp .add 3 (.tmp 41) (.const (.int .i64 1)) 3,3,none⟩
 (.one 1 ⟨some 36,.load 22 (.tmp 35),22,none⟩
 (.one 0 ⟨some 38,.slice 22 (.tmp 36) none (some (.tmp 37)) none,22,none⟩
 (.one 1 ⟨some 40,.load 48 (.tmp 39),48,none⟩
 (.one 0 ⟨some 43,.slice 48 (.tmp 40) none (some (.tmp 42)) none,48,none⟩
 (.alt ⟨some 44,.build 119 #[(1,(.tmp 38)),(3,(.tmp 43))],119,none⟩
 (.one 2 ⟨some 6,.alloc 119,0,none⟩
 (.one 2 ⟨none,.store 119 (.tmp 6) (.tmp 44),0,none⟩
 .nil))
 (.alt ⟨some 6,.alloc 119,0,none⟩
 (.one 2 ⟨some 44,.build 119 #[(1,(.tmp 38)),(3,(.tmp 43))],119,none⟩
 (.one 2 ⟨none,.store 119 (.tmp 6) (.tmp 44),0,none⟩
 .nil))
 .stop)))))))))))
theorem c166draw1{L:List Nat}{ρ:Env}{w:World}{Q:Post}(S:World→Prop)(hS:S w.drew)(h:DT Tryz.prog S c166D1 L ρ w.drew Q):drawW Tryz.prog (drawOps 1 c166code) L ρ w Q :=
 drawW_tree [1,5] (.one 0 0 (.one 0 2 (.one 0 4 (.one 0 6 (.one 0 7 (.one 1 1 (.one 0 3 (.one 1 5 (.one 0 8 (.alt 9 (.one 2 10 (.one 2 11 .nil)) (.alt 10 (.one 2 9 (.one 2 11 .nil)) .stop))))))))))) c166D1 (by kernel_rfl) (by kernel_rfl) (by kernel_rfl) S hS h
def c166D2:GT:=(.one 0 ⟨some 45,.fieldAddr 119 (.tmp 1) 1,0,none⟩
 (.one 0 ⟨some 47,.move (.tmp 5),3,none⟩
 (.one 0 ⟨some 48,.binOp .add 3 (.tmp 47) (.const (.int .i64 1)) 3,3,none⟩
 (.one 0 ⟨some 50,.fieldAddr 119 (.tmp 1) 3,0,none⟩
 (.one 0 ⟨some 52,.move (.tmp 5),3,none⟩
 (.one 0 ⟨some 53,.binOp .add 3 (.tmp 52) (.const (.int .i64 1)) 3,3,none⟩
 (.one 1 ⟨some 46,.load 22 (.tmp 45),22,none⟩
 (.one 0 ⟨some 49,.slice 22 (.tmp 46) (some (.tmp 48)) none none,22,none⟩
 (.one 1 ⟨some 51,.load 48 (.tmp 50),48,none⟩
 (.one 0 ⟨some 54,.slice 48 (.tmp 51) (some (.tmp 53)) none none,48,none⟩
 (.alt ⟨some 55,.build 119 #[(1,(.tmp 49)),(3,(.tmp 54))],119,none⟩
 (.one 2 ⟨some 7,.alloc 119,0,none⟩
 (.one 2 ⟨none,.store 119 (.tmp 7) (.tmp 55),0,none⟩
 .nil))
 (.alt ⟨some 7,.alloc 119,0,none⟩
 (.one 2 ⟨some 55,.build 119 #[(1,(.tmp 49)),(3,(.tmp 54))],119,none⟩
 (.one 2 ⟨none,.store 119 (.tmp 7) (.tmp 55),0,none⟩
 .nil))
 .stop))))))))))))
theorem c166draw2{L:List Nat}{ρ:Env}{w:World}{Q:Post}(S:World→Prop)(hS:S w.drew)(h:DT Tryz.prog S c166D2 L ρ w.drew Q):drawW Tryz.prog (drawOps 2 c166code) L ρ w Q :=
 drawW_tree [1,6] (.one 0 0 (.one 0 2 (.one 0 3 (.one 0 5 (.one 0 7 (.one 0 8 (.one 1 1 (.one 0 4 (.one 1 6 (.one 0 9 (.alt 10 (.one 2 11 (.one 2 12 .nil)) (.alt 11 (.one 2 10 (.one 2 12 .nil)) .stop)))))))))))) c166D2 (by kernel_rfl) (by kernel_rfl) (by kernel_rfl) S hS h
def c166D3:List (Nat × Ins):=[
 (0,⟨some 58,.fieldAddr 119 (.tmp 1) 1,0,none⟩),
 (0,⟨some 60,.move (.tmp 5),3,none⟩),
 (1,⟨some 56,.load 119 (.tmp 6),119,none⟩),
 (1,⟨some 57,.load 119 (.tmp 7),119,none⟩),
 (1,⟨some 59,.load 22 (.tmp 58),22,none⟩),
 (0,⟨some 61,.indexAddr 22 (.tmp 59) (.tmp 60),0,none⟩),
 (1,⟨some 62,.load 9 (.tmp 61),9,none⟩),
 (2,⟨none,.store 119 (.tmp 2) (.tmp 56),0,none⟩),
 (2,⟨none,.store 119 (.tmp 3) (.tmp 57),0,none⟩),
 (0,⟨some 4,.assign (.tmp 62),9,none⟩)]
theorem c166draw3{L:List Nat}{ρ:Env}{w:World}{Q:Post}(S:World→Prop)(hS:S w.drew)(h:DG Tryz.prog S c166D3 L ρ w.drew Q):drawW Tryz.prog (drawOps 3 c166code) L ρ w Q :=
 drawW_held [0,1,3,6] [(0,2),(0,4),(1,0),(1,1),(1,3),(0,5),(1,6),(2,7),(2,8),(0,9)] c166D3 (by kernel_rfl) (by kernel_rfl) (by kernel_rfl) S hS h
def c166D4:List (Nat × Ins):=[
 (0,⟨some 71,.fieldAddr 119 (.tmp 1) 1,0,none⟩),
 (0,⟨some 73,.move (.tmp 5),3,none⟩),
 (0,⟨some 75,.fieldAddr 119 (.tmp 1) 2,0,none⟩),
 (0,⟨some 77,.move (.tmp 5),3,none⟩),
 (1,⟨some 72,.load 22 (.tmp 71),22,none⟩),
 (0,⟨some 74,.slice 22 (.tmp 72) none (some (.tmp 73)) none,22,none⟩),
 (2,⟨some 76,.load 22 (.tmp 75),22,none⟩),
 (0,⟨some 78,.slice 22 (.tmp 76) none (some (.tmp 77)) none,22,none⟩),
 (2,⟨some 79,.build 119 #[(0,(.const (.bool true))),(1,(.tmp 74)),(2,(.tmp 78))],119,none⟩),
 (2,⟨some 80,.call ⟨.value (.func 165),#[(.tmp 79)],#[119]⟩,3,none⟩),
 (0,⟨some 81,.binOp .gtr 3 (.tmp 80) (.const (.int .i64 128)) 3,4,none⟩)]
theorem c166draw4{L:List Nat}{ρ:Env}{w:World}{Q:Post}(S:World→Prop)(hS:S w.drew)(h:DG Tryz.prog S c166D4 L ρ w.drew Q):drawW Tryz.prog (drawOps 4 c166code) L ρ w Q :=
 drawW_held [1] [(0,0),(0,2),(0,4),(0,6),(1,1),(0,3),(2,5),(0,7),(2,8),(2,9),(0,10)] c166D4 (by kernel_rfl) (by kernel_rfl) (by kernel_rfl) S hS h
def c166D5:List (Nat × Ins):=[
 (0,⟨some 82,.move (.tmp 5),3,none⟩),
 (0,⟨some 83,.binOp .gtr 3 (.tmp 82) (.const (.int .i64 1)) 3,4,none⟩),
 (0,⟨some 84,.move (.tmp 83),4,none⟩),
 (0,⟨some 85,.fieldAddr 119 (.tmp 1) 1,0,(some (84,true))⟩),
 (0,⟨some 87,.move (.tmp 5),3,(some (84,true))⟩),
 (0,⟨some 89,.fieldAddr 119 (.tmp 1) 2,0,(some (84,true))⟩),
 (0,⟨some 91,.move (.tmp 5),3,(some (84,true))⟩),
 (1,⟨some 86,.load 22 (.tmp 85),22,(some (84,true))⟩),
 (0,⟨some 88,.slice 22 (.tmp 86) none (some (.tmp 87)) none,22,(some (84,true))⟩),
 (2,⟨some 90,.load 22 (.tmp 89),22,(some (84,true))⟩),
 (0,⟨some 92,.slice 22 (.tmp 90) none (some (.tmp 91)) none,22,(some (84,true))⟩),
 (2,⟨some 93,.build 119 #[(0,(.const (.bool true))),(1,(.tmp 88)),(2,(.tmp 92))],119,(some (84,true))⟩),
 (2,⟨some 94,.call ⟨.value (.func 165),#[(.tmp 93)],#[119]⟩,3,(some (84,true))⟩),
 (0,⟨some 95,.binOp .gtr 3 (.tmp 94) (.const (.int .i64 256)) 3,4,(some (84,true))⟩),
 (0,⟨some 96,.pick (.tmp 84) (.tmp 95) (.const (.bool false)),4,none⟩)]
theorem c166draw5{L:List Nat}{ρ:Env}{w:World}{Q:Post}(S:World→Prop)(hS:S w.drew)(h:DG Tryz.prog S c166D5 L ρ w.drew Q):drawW Tryz.prog (drawOps 5 c166code) L ρ w Q :=
 drawW_held [4] [(0,0),(0,1),(0,2),(0,3),(0,5),(0,7),(0,9),(1,4),(0,6),(2,8),(0,10),(2,11),(2,12),(0,13),(0,14)] c166D5 (by kernel_rfl) (by kernel_rfl) (by kernel_rfl) S hS h
def c166D6:GT:=(.one 0 ⟨some 99,.fieldAddr 119 (.tmp 1) 1,0,none⟩
 (.one 0 ⟨some 101,.move (.tmp 5),3,none⟩
 (.one 0 ⟨some 103,.fieldAddr 119 (.tmp 1) 2,0,none⟩
 (.one 0 ⟨some 105,.move (.tmp 5),3,none⟩
 (.one 1 ⟨some 100,.load 22 (.tmp 99),22,none⟩
 (.one 0 ⟨some 102,.slice 22 (.tmp 100) none (some (.tmp 101)) none,22,none⟩
 (.one 1 ⟨some 104,.load 22 (.tmp 103),22,none⟩
 (.one 0 ⟨some 106,.slice 22 (.tmp 104) none (some (.tmp 105)) none,22,none⟩
 (.alt ⟨some 107,.build 119 #[(0,(.const (.bool true))),(1,(.tmp 102)),(2,(.tmp 106))],119,none⟩
 (.one 2 ⟨some 8,.alloc 119,0,none⟩
 (.one 2 ⟨none,.store 119 (.tmp 8) (.tmp 107),0,none⟩
 .nil))
 (.alt ⟨some 8,.alloc 119,0,none⟩
 (.one 2 ⟨some 107,.build 119 #[(0,(.const (.bool true))),(1,(.tmp 102)),(2,(.tmp 106))],119,none⟩
 (.one 2 ⟨none,.store 119 (.tmp 8) (.tmp 107),0,none⟩
 .nil))
 .stop))))))))))
theorem c166draw6{L:List Nat}{ρ:Env}{w:World}{Q:Post}(S:World→Prop)(hS:S w.drew)(h:DT Tryz.prog S c166D6 L ρ w.drew Q):drawW Tryz.prog (drawOps 6 c166code) L ρ w Q :=
 drawW_tree [1,5] (.one 0 0 (.one 0 2 (.one 0 4 (.one 0 6 (.one 1 1 (.one 0 3 (.one 1 5 (.one 0 7 (.alt 8 (.one 2 9 (.one 2 10 .nil)) (.alt 9 (.one 2 8 (.one 2 10 .nil)) .stop)))))))))) c166D6 (by kernel_rfl) (by kernel_rfl) (by kernel_rfl) S hS h
def c166D7:GT:=(.one 0 ⟨some 108,.fieldAddr 119 (.tmp 1) 1,0,none⟩
 (.one 0 ⟨some 110,.move (.tmp 5),3,none⟩
 (.one 0 ⟨some 112,.fieldAddr 119 (.tmp 1) 2,0,none⟩
 (.one 0 ⟨some 114,.move (.tmp 5),3,none⟩
 (.one 1 ⟨some 109,.load 22 (.tmp 108),22,none⟩
 (.one 0 ⟨some 111,.slice 22 (.tmp 109) (some (.tmp 110)) none none,22,none⟩
 (.one 1 ⟨some 113,.load 22 (.tmp 112),22,none⟩
 (.one 0 ⟨some 115,.slice 22 (.tmp 113) (some (.tmp 114)) none none,22,none⟩
 (.alt ⟨some 116,.build 119 #[(0,(.const (.bool true))),(1,(.tmp 111)),(2,(.tmp 115))],119,none⟩
 (.one 2 ⟨some 9,.alloc 119,0,none⟩
 (.one 2 ⟨none,.store 119 (.tmp 9) (.tmp 116),0,none⟩
 .nil))
 (.alt ⟨some 9,.alloc 119,0,none⟩
 (.one 2 ⟨some 116,.build 119 #[(0,(.const (.bool true))),(1,(.tmp 111)),(2,(.tmp 115))],119,none⟩
 (.one 2 ⟨none,.store 119 (.tmp 9) (.tmp 116),0,none⟩
 .nil))
 .stop))))))))))
theorem c166draw7{L:List Nat}{ρ:Env}{w:World}{Q:Post}(S:World→Prop)(hS:S w.drew)(h:DT Tryz.prog S c166D7 L ρ w.drew Q):drawW Tryz.prog (drawOps 7 c166code) L ρ w Q :=
 drawW_tree [1,5] (.one 0 0 (.one 0 2 (.one 0 4 (.one 0 6 (.one 1 1 (.one 0 3 (.one 1 5 (.one 0 7 (.alt 8 (.one 2 9 (.one 2 10 .nil)) (.alt 9 (.one 2 8 (.one 2 10 .nil)) .stop)))))))))) c166D7 (by kernel_rfl) (by kernel_rfl) (by kernel_rfl) S hS h
def c166D8:List (Nat × Ins):=[
 (0,⟨some 119,.fieldAddr 119 (.tmp 9) 1,0,none⟩),
 (1,⟨some 117,.load 119 (.tmp 8),119,none⟩),
 (1,⟨some 118,.load 119 (.tmp 9),119,none⟩),
 (1,⟨some 120,.load 22 (.tmp 119),22,none⟩),
 (0,⟨some 121,.indexAddr 22 (.tmp 120) (.const (.int .i64 0)),0,none⟩),
 (1,⟨some 122,.load 9 (.tmp 121),9,none⟩),
 (2,⟨none,.store 119 (.tmp 2) (.tmp 117),0,none⟩),
 (2,⟨none,.store 119 (.tmp 3) (.tmp 118),0,none⟩),
 (0,⟨some 4,.assign (.tmp 122),9,none⟩)]
theorem c166draw8{L:List Nat}{ρ:Env}{w:World}{Q:Post}(S:World→Prop)(hS:S w.drew)(h:DG Tryz.prog S c166D8 L ρ w.drew Q):drawW Tryz.prog (drawOps 8 c166code) L ρ w Q :=
 drawW_held [0,1,3,5] [(0,2),(1,0),(1,1),(1,3),(0,4),(1,5),(2,6),(2,7),(0,8)] c166D8 (by kernel_rfl) (by kernel_rfl) (by kernel_rfl) S hS h
theorem ent166(a0:Value)(w:World)(K:Value→World→Prop)(h:W Tryz.prog c166 [(0,a0)] w (finQ Tryz.prog [.cell 2 119,.cell 3 119,.tmp 4] K)):Ret Tryz.prog 166 [a0] w K :=
 Ret_of_W (code:=c166code) Tryz.func166 (by kernel_rfl) (by kernel_rfl) (of_decide_eq_true (by kernel_rfl)) h
@[go_sem] theorem go166:goFunc Tryz.prog 166=true:=by kernel_rfl
def c130code:Code:=match Tryz.f130.body with | some c=>c | none=>.skip
def c130S0(_:Unit):Cmd:=.ret
def c130S1(_:Unit):Cmd:=(.seq (.ops [
 ⟨some 55,.move (.tmp 9),48,none⟩,
 ⟨some 6,.assign (.tmp 55),48,none⟩] [6])
 .ret)
def c130S2(_:Unit):Cmd:=(.seq (.draw (drawOps 0 c130code) [9]) (sg c130S1))
def c130S3(_:Unit):Cmd:=(.seq (.ops [
 ⟨some 41,.move (.tmp 9),48,none⟩,
 ⟨some 42,.move (.tmp 1),3,none⟩,
 ⟨some 43,.slice 48 (.tmp 41) (some (.tmp 42)) none none,48,none⟩,
 ⟨some 44,.move (.tmp 2),48,none⟩,
 ⟨some 45,.call ⟨.builtin .copy,#[(.tmp 43),(.tmp 44)],#[48,48]⟩,3,none⟩] [0,1,7,9]) (sg c130S2))
def c130S4(_:Unit):Cmd:=(.cond (.tmp 31)
 (.seq (.ops [
 ⟨some 32,.move (.tmp 0),48,none⟩,
 ⟨some 33,.move (.tmp 1),3,none⟩,
 ⟨some 34,.slice 48 (.tmp 32) none (some (.tmp 33)) none,48,none⟩,
 ⟨some 35,.move (.tmp 8),3,none⟩,
 ⟨some 36,.move (.tmp 7),3,none⟩,
 ⟨some 37,.binOp .add 3 (.tmp 35) (.tmp 36) 3,3,none⟩,
 ⟨some 38,.move (.tmp 1),3,none⟩,
 ⟨some 39,.binOp .sub 3 (.tmp 37) (.tmp 38) 3,3,none⟩,
 ⟨some 40,.call ⟨.builtin .append,#[(.tmp 34),(.tmp 39)],#[48,3]⟩,48,none⟩,
 ⟨some 9,.assign (.tmp 40),48,none⟩] [0,1,2,7,9]) (sg c130S3))
 (.skip [0,1,2,7,8]))
def c130S5(_:Unit):Cmd:=(.seq (.ops [
 ⟨some 83,.move (.tmp 0),48,none⟩,
 ⟨some 6,.assign (.tmp 83),48,none⟩] [6])
 .ret)
def c130S6(_:Unit):Cmd:=(.seq (.ops [
 ⟨some 78,.move (.tmp 0),48,none⟩,
 ⟨some 79,.move (.tmp 1),3,none⟩,
 ⟨some 80,.slice 48 (.tmp 78) (some (.tmp 79)) none none,48,none⟩,
 ⟨some 81,.move (.tmp 2),48,none⟩,
 ⟨some 82,.call ⟨.builtin .copy,#[(.tmp 80),(.tmp 81)],#[48,48]⟩,3,none⟩] [0]) (sg c130S5))
def c130S7(_:Unit):Cmd:=(.cond (.tmp 68)
 (.seq (.draw (drawOps 1 c130code) [0,1,2]) (sg c130S6))
 (.skip [0,1,2,7,8]))
def c130S8(_:Unit):Cmd:=(.seq (.ops [
 ⟨some 94,.move (.tmp 0),48,none⟩,
 ⟨some 6,.assign (.tmp 94),48,none⟩] [6])
 .ret)
def c130S9(_:Unit):Cmd:=(.seq (.ops [
 ⟨some 89,.move (.tmp 0),48,none⟩,
 ⟨some 90,.move (.tmp 1),3,none⟩,
 ⟨some 91,.slice 48 (.tmp 89) (some (.tmp 90)) none none,48,none⟩,
 ⟨some 92,.move (.tmp 7),3,none⟩,
 ⟨some 93,.call ⟨.value (.func 168),#[(.tmp 91),(.tmp 92)],#[48,3]⟩,0,none⟩] [0]) (sg c130S8))
def c130S10(_:Unit):Cmd:=(.seq (.ops [
 ⟨some 84,.move (.tmp 0),48,none⟩,
 ⟨some 85,.move (.tmp 8),3,none⟩,
 ⟨some 86,.slice 48 (.tmp 84) (some (.tmp 85)) none none,48,none⟩,
 ⟨some 87,.move (.tmp 2),48,none⟩,
 ⟨some 88,.call ⟨.builtin .copy,#[(.tmp 86),(.tmp 87)],#[48,48]⟩,3,none⟩] [0,1,7]) (sg c130S9))
def c130S11(_:Unit):Cmd:=(.seq (.ops [
 ⟨some 56,.move (.tmp 0),48,none⟩,
 ⟨some 57,.move (.tmp 8),3,none⟩,
 ⟨some 58,.move (.tmp 7),3,none⟩,
 ⟨some 59,.binOp .add 3 (.tmp 57) (.tmp 58) 3,3,none⟩,
 ⟨some 60,.slice 48 (.tmp 56) none (some (.tmp 59)) none,48,none⟩,
 ⟨some 0,.assign (.tmp 60),48,none⟩] [0,1,2,7,8])
 (.seq (.seq (.ops [
 ⟨some 61,.move (.tmp 2),48,none⟩,
 ⟨some 62,.move (.tmp 0),48,none⟩,
 ⟨some 63,.move (.tmp 1),3,none⟩,
 ⟨some 64,.move (.tmp 7),3,none⟩,
 ⟨some 65,.binOp .add 3 (.tmp 63) (.tmp 64) 3,3,none⟩,
 ⟨some 66,.slice 48 (.tmp 62) (some (.tmp 65)) none none,48,none⟩,
 ⟨some 67,.call ⟨.value (.func 167),#[(.tmp 61),(.tmp 66)],#[48,48]⟩,4,none⟩,
 ⟨some 68,.unOp .not 4 (.tmp 67),4,none⟩] [0,1,2,7,8,68]) (sg c130S7)) (sg c130S10)))
def c130S12(_:Unit):Cmd:=(.seq (.seq (.ops [
 ⟨some 26,.move (.tmp 8),3,none⟩,
 ⟨some 27,.move (.tmp 7),3,none⟩,
 ⟨some 28,.binOp .add 3 (.tmp 26) (.tmp 27) 3,3,none⟩,
 ⟨some 29,.move (.tmp 0),48,none⟩,
 ⟨some 30,.call ⟨.builtin .cap,#[(.tmp 29)],#[48]⟩,3,none⟩,
 ⟨some 31,.binOp .gtr 3 (.tmp 28) (.tmp 30) 3,4,none⟩] [0,1,2,7,8,31]) (sg c130S4)) (sg c130S11))
def c130S13(_:Unit):Cmd:=(.seq (.ops [
 ⟨some 18,.move (.tmp 0),48,none⟩,
 ⟨some 19,.call ⟨.builtin .len,#[(.tmp 18)],#[48]⟩,3,none⟩,
 ⟨some 8,.assign (.tmp 19),3,none⟩] [0,1,2,7,8])
 (.seq (.seq (.ops [
 ⟨some 20,.move (.tmp 1),3,none⟩,
 ⟨some 21,.move (.tmp 8),3,none⟩,
 ⟨some 22,.binOp .eql 3 (.tmp 20) (.tmp 21) 3,4,none⟩] [0,1,2,7,8,22])
 (.cond (.tmp 22)
 (.seq (.ops [
 ⟨some 23,.move (.tmp 0),48,none⟩,
 ⟨some 24,.move (.tmp 2),48,none⟩,
 ⟨some 25,.call ⟨.builtin .append,#[(.tmp 23),(.tmp 24)],#[48,48]⟩,48,none⟩,
 ⟨some 6,.assign (.tmp 25),48,none⟩] [6]) (sg c130S0))
 (.skip [0,1,2,7,8]))) (sg c130S12)))
def c130:Cmd:=(.seq (.ops [
 ⟨some 6,.assign (.const (.slice none 0 0)),48,none⟩] [0,1,2])
 (.seq (.ops [
 ⟨some 10,.move (.tmp 0),48,none⟩,
 ⟨some 11,.move (.tmp 1),3,none⟩,
 ⟨some 12,.slice 48 (.tmp 10) (some (.tmp 11)) none none,48,none⟩] [0,1,2])
 (.seq (.ops [
 ⟨some 13,.move (.tmp 2),48,none⟩,
 ⟨some 14,.call ⟨.builtin .len,#[(.tmp 13)],#[48]⟩,3,none⟩,
 ⟨some 7,.assign (.tmp 14),3,none⟩] [0,1,2,7])
 (.seq (.seq (.ops [
 ⟨some 15,.move (.tmp 7),3,none⟩,
 ⟨some 16,.binOp .eql 3 (.tmp 15) (.const (.int .i64 0)) 3,4,none⟩] [0,1,2,7,16])
 (.cond (.tmp 16)
 (.seq (.ops [
 ⟨some 17,.move (.tmp 0),48,none⟩,
 ⟨some 6,.assign (.tmp 17),48,none⟩] [6])
 .ret)
 (.skip [0,1,2,7]))) (sg c130S13)))))
attribute [go_sem] c130 c130S0 c130S1 c130S2 c130S3 c130S4 c130S5 c130S6 c130S7 c130S8 c130S9 c130S10 c130S11 c130S12 c130S13
def c130D0:List (Bool × Ins):=[
 (true,⟨some 46,.move (.tmp 9),48,none⟩),
 (true,⟨some 47,.move (.tmp 1),3,none⟩),
 (true,⟨some 48,.move (.tmp 7),3,none⟩),
 (true,⟨some 49,.binOp .add 3 (.tmp 47) (.tmp 48) 3,3,none⟩),
 (true,⟨some 50,.slice 48 (.tmp 46) (some (.tmp 49)) none none,48,none⟩),
 (true,⟨some 51,.move (.tmp 0),48,none⟩),
 (true,⟨some 52,.move (.tmp 1),3,none⟩),
 (true,⟨some 53,.slice 48 (.tmp 51) (some (.tmp 52)) none none,48,none⟩),
 (false,⟨some 54,.call ⟨.builtin .copy,#[(.tmp 50),(.tmp 53)],#[48,48]⟩,3,none⟩)]
theorem c130draw0{L:List Nat}{ρ:Env}{w:World}{Q:Post}(h:DL Tryz.prog c130D0 L ρ w.drew Q):drawW Tryz.prog (drawOps 0 c130code) L ρ w Q :=
 drawW_by [(true,0),(true,1),(true,2),(true,3),(true,4),(true,5),(true,6),(true,7),(false,8)] c130D0 (by kernel_rfl) (by kernel_rfl) (by kernel_rfl) h
def c130D1:List (Bool × Ins):=[
 (true,⟨some 69,.move (.tmp 0),48,none⟩),
 (true,⟨some 70,.move (.tmp 1),3,none⟩),
 (true,⟨some 71,.move (.tmp 7),3,none⟩),
 (true,⟨some 72,.binOp .add 3 (.tmp 70) (.tmp 71) 3,3,none⟩),
 (true,⟨some 73,.slice 48 (.tmp 69) (some (.tmp 72)) none none,48,none⟩),
 (true,⟨some 74,.move (.tmp 0),48,none⟩),
 (true,⟨some 75,.move (.tmp 1),3,none⟩),
 (true,⟨some 76,.slice 48 (.tmp 74) (some (.tmp 75)) none none,48,none⟩),
 (false,⟨some 77,.call ⟨.builtin .copy,#[(.tmp 73),(.tmp 76)],#[48,48]⟩,3,none⟩)]
theorem c130draw1{L:List Nat}{ρ:Env}{w:World}{Q:Post}(h:DL Tryz.prog c130D1 L ρ w.drew Q):drawW Tryz.prog (drawOps 1 c130code) L ρ w Q :=
 drawW_by [(true,0),(true,1),(true,2),(true,3),(true,4),(true,5),(true,6),(true,7),(false,8)] c130D1 (by kernel_rfl) (by kernel_rfl) (by kernel_rfl) h
theorem ent130(a0 a1 a2:Value)(w:World)(K:Value→World→Prop)(h:W Tryz.prog c130 [(0,a0),(1,a1),(2,a2)] w (finQ Tryz.prog [.tmp 6] K)):Ret Tryz.prog 130 [a0,a1,a2] w K :=
 Ret_of_W (code:=c130code) Tryz.func130 (by kernel_rfl) (by kernel_rfl) (of_decide_eq_true (by kernel_rfl)) h
@[go_sem] theorem go130:goFunc Tryz.prog 130=true:=by kernel_rfl
def c133code:Code:=match Tryz.f133.body with | some c=>c | none=>.skip
def c133S0(_:Unit):Cmd:=(.ops [
 ⟨some 104,.binOp .add 3 (.tmp 66) (.const (.int .i64 1)) 3,3,none⟩,
 ⟨some 66,.move (.tmp 104),3,none⟩] [0,2,3,4,5,12,64,65,66])
def c133S1(_:Unit):Cmd:=(.seq (.block 1 (.seq (.ops [
 ⟨some 68,.move (.tmp 66),3,none⟩,
 ⟨some 69,.indexAddr 22 (.tmp 64) (.tmp 66),0,none⟩,
 ⟨some 70,.load 9 (.tmp 69),9,none⟩,
 ⟨some 14,.assign (.tmp 68),3,none⟩,
 ⟨some 15,.assign (.tmp 70),9,none⟩] [0,2,3,4,5,12,14,15,64,65,66])
 (.seq (.ops [
 ⟨some 71,.move (.tmp 15),9,none⟩,
 ⟨some 72,.move (.tmp 3),9,none⟩,
 ⟨some 73,.binOp .lss 9 (.tmp 71) (.tmp 72) 9,4,none⟩,
 ⟨some 74,.move (.tmp 73),4,none⟩,
 ⟨some 75,.move (.tmp 5),4,(some (74,false))⟩,
 ⟨some 76,.move (.tmp 75),4,(some (74,false))⟩,
 ⟨some 77,.move (.tmp 15),9,(some (76,true))⟩,
 ⟨some 78,.move (.tmp 4),9,(some (76,true))⟩,
 ⟨some 79,.binOp .geq 9 (.tmp 77) (.tmp 78) 9,4,(some (76,true))⟩,
 ⟨some 80,.pick (.tmp 76) (.tmp 79) (.const (.bool false)),4,(some (74,false))⟩,
 ⟨some 81,.pick (.tmp 74) (.const (.bool true)) (.tmp 80),4,none⟩,
 ⟨some 82,.move (.tmp 81),4,none⟩,
 ⟨some 83,.move (.tmp 14),3,(some (82,false))⟩,
 ⟨some 84,.binOp .gtr 3 (.tmp 83) (.const (.int .i64 0)) 3,4,(some (82,false))⟩,
 ⟨some 85,.move (.tmp 84),4,(some (82,false))⟩,
 ⟨some 86,.move (.tmp 15),9,(some (85,true))⟩,
 ⟨some 87,.fieldAddr 119 (.tmp 12) 1,0,(some (85,true))⟩,
 ⟨some 88,.load 22 (.tmp 87),22,(some (85,true))⟩,
 ⟨some 89,.move (.tmp 14),3,(some (85,true))⟩,
 ⟨some 90,.binOp .sub 3 (.tmp 89) (.const (.int .i64 1)) 3,3,(some (85,true))⟩,
 ⟨some 91,.indexAddr 22 (.tmp 88) (.tmp 90),0,(some (85,true))⟩,
 ⟨some 92,.load 9 (.tmp 91),9,(some (85,true))⟩,
 ⟨some 93,.binOp .leq 9 (.tmp 86) (.tmp 92) 9,4,(some (85,true))⟩,
 ⟨some 94,.pick (.tmp 85) (.tmp 93) (.const (.bool false)),4,(some (82,false))⟩,
 ⟨some 95,.pick (.tmp 82) (.const (.bool true)) (.tmp 94),4,none⟩,
 ⟨some 96,.move (.tmp 95),4,none⟩,
 ⟨some 97,.move (.tmp 15),9,(some (96,false))⟩,
 ⟨some 98,.call ⟨.builtin .len,#[(.tmp 97)],#[9]⟩,3,(some (96,false))⟩,
 ⟨some 99,.binOp .gtr 3 (.tmp 98) (.const (.int .i64 32)) 3,4,(some (96,false))⟩,
 ⟨some 100,.pick (.tmp 96) (.const (.bool true)) (.tmp 99),4,none⟩] [0,2,3,4,5,12,64,65,66,100])
 (.cond (.tmp 100)
 (.ops [
 ⟨some 101,.move (.tmp 0),126,none⟩,
 ⟨some 102,.nilCheck (.tmp 101),0,none⟩,
 ⟨some 103,.fieldAddr 125 (.tmp 102) 6,0,none⟩,
 ⟨none,.store 4 (.tmp 103) (.const (.bool true)),0,none⟩] [0,2,3,4,5,12,64,65,66])
 (.skip [0,2,3,4,5,12,64,65,66]))))) (sg c133S0))
def c133L0(_:Unit):Cmd:=(.seq (.ops [
 ⟨some 67,.binOp .lss 3 (.tmp 66) (.tmp 65) 3,0,none⟩] [0,2,3,4,5,12,64,65,66,67])
 (.seq (.cond (.tmp 67)
 (.skip [0,2,3,4,5,12,64,65,66])
 (.exit 0 [0,2,3,4,5,12])) (sg c133S1)))
def c133S2(_:Unit):Cmd:=.ret
def c133S3(_:Unit):Cmd:=(.ops [
 ⟨some 140,.move (.tmp 0),126,none⟩,
 ⟨some 141,.move (.tmp 17),3,none⟩,
 ⟨some 142,.move (.tmp 2),3,none⟩,
 ⟨some 143,.binOp .add 3 (.tmp 142) (.const (.int .i64 1)) 3,3,none⟩,
 ⟨some 144,.move (.tmp 18),9,none⟩,
 ⟨some 145,.move (.tmp 19),9,none⟩,
 ⟨some 146,.move (.tmp 20),4,none⟩,
 ⟨some 147,.call ⟨.value (.func 133),#[(.tmp 140),(.tmp 141),(.tmp 143),(.tmp 144),(.tmp 145),(.tmp 146)],#[126,3,3,9,9,4]⟩,0,none⟩] [0,2,3,4,5,12,112,113,114])
def c133S4(_:Unit):Cmd:=(.seq (.seq (.ops [
 ⟨some 130,.move (.tmp 16),3,none⟩,
 ⟨some 131,.fieldAddr 119 (.tmp 12) 1,0,none⟩,
 ⟨some 132,.load 22 (.tmp 131),22,none⟩,
 ⟨some 133,.call ⟨.builtin .len,#[(.tmp 132)],#[22]⟩,3,none⟩,
 ⟨some 134,.binOp .lss 3 (.tmp 130) (.tmp 133) 3,4,none⟩] [0,2,3,4,5,12,16,17,18,19,20,112,113,114,134])
 (.cond (.tmp 134)
 (.ops [
 ⟨some 135,.fieldAddr 119 (.tmp 12) 1,0,none⟩,
 ⟨some 136,.load 22 (.tmp 135),22,none⟩,
 ⟨some 137,.move (.tmp 16),3,none⟩,
 ⟨some 138,.indexAddr 22 (.tmp 136) (.tmp 137),0,none⟩,
 ⟨some 139,.load 9 (.tmp 138),9,none⟩,
 ⟨some 19,.assign (.tmp 139),9,none⟩,
 ⟨some 20,.assign (.const (.bool true)),4,none⟩] [0,2,3,4,5,12,17,18,19,20,112,113,114])
 (.skip [0,2,3,4,5,12,17,18,19,20,112,113,114]))) (sg c133S3))
def c133S5(_:Unit):Cmd:=(.ops [
 ⟨some 148,.binOp .add 3 (.tmp 114) (.const (.int .i64 1)) 3,3,none⟩,
 ⟨some 114,.move (.tmp 148),3,none⟩] [0,2,3,4,5,12,112,113,114])
def c133S6(_:Unit):Cmd:=(.seq (.block 3 (.seq (.ops [
 ⟨some 116,.move (.tmp 114),3,none⟩,
 ⟨some 117,.indexAddr 48 (.tmp 112) (.tmp 114),0,none⟩,
 ⟨some 118,.load 3 (.tmp 117),3,none⟩,
 ⟨some 16,.assign (.tmp 116),3,none⟩,
 ⟨some 17,.assign (.tmp 118),3,none⟩] [0,2,3,4,5,12,16,17,112,113,114])
 (.seq (.ops [
 ⟨some 119,.move (.tmp 3),9,none⟩,
 ⟨some 120,.move (.tmp 4),9,none⟩,
 ⟨some 121,.move (.tmp 5),4,none⟩,
 ⟨some 18,.assign (.tmp 119),9,none⟩,
 ⟨some 19,.assign (.tmp 120),9,none⟩,
 ⟨some 20,.assign (.tmp 121),4,none⟩] [0,2,3,4,5,12,16,17,18,19,20,112,113,114])
 (.seq (.seq (.ops [
 ⟨some 122,.move (.tmp 16),3,none⟩,
 ⟨some 123,.binOp .gtr 3 (.tmp 122) (.const (.int .i64 0)) 3,4,none⟩] [0,2,3,4,5,12,16,17,18,19,20,112,113,114,123])
 (.cond (.tmp 123)
 (.ops [
 ⟨some 124,.fieldAddr 119 (.tmp 12) 1,0,none⟩,
 ⟨some 125,.load 22 (.tmp 124),22,none⟩,
 ⟨some 126,.move (.tmp 16),3,none⟩,
 ⟨some 127,.binOp .sub 3 (.tmp 126) (.const (.int .i64 1)) 3,3,none⟩,
 ⟨some 128,.indexAddr 22 (.tmp 125) (.tmp 127),0,none⟩,
 ⟨some 129,.load 9 (.tmp 128),9,none⟩,
 ⟨some 18,.assign (.tmp 129),9,none⟩] [0,2,3,4,5,12,16,17,18,19,20,112,113,114])
 (.skip [0,2,3,4,5,12,16,17,18,19,20,112,113,114]))) (sg c133S4))))) (sg c133S5))
def c133L1(_:Unit):Cmd:=(.seq (.ops [
 ⟨some 115,.binOp .lss 3 (.tmp 114) (.tmp 113) 3,0,none⟩] [0,2,3,4,5,12,112,113,114,115])
 (.seq (.cond (.tmp 115)
 (.skip [0,2,3,4,5,12,112,113,114])
 (.exit 2 [])) (sg c133S6)))
def c133S7(_:Unit):Cmd:=(.seq (.ops [
 ⟨some 111,.fieldAddr 119 (.tmp 12) 3,0,none⟩,
 ⟨some 112,.load 48 (.tmp 111),48,none⟩,
 ⟨some 113,.call ⟨.builtin .len,#[(.tmp 112)],#[48]⟩,3,none⟩,
 ⟨some 114,.move (.const (.int .i64 0)),3,none⟩] [0,2,3,4,5,12,112,113,114])
 (.block 2 (.loop (sg c133L1))))
def c133S8(_:Unit):Cmd:=(.seq (.seq (.ops [
 ⟨some 105,.fieldAddr 119 (.tmp 12) 0,0,none⟩,
 ⟨some 106,.load 4 (.tmp 105),4,none⟩] [0,2,3,4,5,12,106])
 (.cond (.tmp 106)
 (.seq (.ops [
 ⟨some 107,.move (.tmp 0),126,none⟩,
 ⟨some 108,.load 119 (.tmp 12),119,none⟩,
 ⟨some 109,.move (.tmp 2),3,none⟩,
 ⟨some 110,.call ⟨.value (.func 171),#[(.tmp 107),(.tmp 108),(.tmp 109)],#[126,119,3]⟩,0,none⟩] []) (sg c133S2))
 (.skip [0,2,3,4,5,12]))) (sg c133S7))
def c133S9(_:Unit):Cmd:=(.seq (.seq (.ops [
 ⟨some 63,.fieldAddr 119 (.tmp 12) 1,0,none⟩,
 ⟨some 64,.load 22 (.tmp 63),22,none⟩,
 ⟨some 65,.call ⟨.builtin .len,#[(.tmp 64)],#[22]⟩,3,none⟩,
 ⟨some 66,.move (.const (.int .i64 0)),3,none⟩] [0,2,3,4,5,12,64,65,66])
 (.block 0 (.loop (sg c133L0)))) (sg c133S8))
def c133S10(_:Unit):Cmd:=(.seq (.seq (.ops [
 ⟨some 58,.move (.tmp 13),30,none⟩,
 ⟨some 59,.binOp .neq 30 (.tmp 58) (.const (.int .i64 0)) 30,4,none⟩] [0,2,3,4,5,12,59])
 (.cond (.tmp 59)
 (.seq (.ops [
 ⟨some 60,.move (.tmp 0),126,none⟩,
 ⟨some 61,.nilCheck (.tmp 60),0,none⟩,
 ⟨some 62,.fieldAddr 125 (.tmp 61) 6,0,none⟩,
 ⟨none,.store 4 (.tmp 62) (.const (.bool true)),0,none⟩] [])
 .ret)
 (.skip [0,2,3,4,5,12]))) (sg c133S9))
def c133S11(_:Unit):Cmd:=(.seq (.ops [
 ⟨some 50,.move (.tmp 0),126,none⟩,
 ⟨some 51,.nilCheck (.tmp 50),0,none⟩,
 ⟨some 52,.fieldAddr 125 (.tmp 51) 0,0,none⟩,
 ⟨some 53,.load 37 (.tmp 52),37,none⟩,
 ⟨some 54,.move (.tmp 1),3,none⟩,
 ⟨some 55,.call ⟨.value (.func 75),#[(.tmp 53),(.tmp 54)],#[37,3]⟩,133,none⟩,
 ⟨some 49,.move (.tmp 55),133,none⟩,
 ⟨some 56,.extract (.tmp 49) 0,119,none⟩,
 ⟨some 57,.extract (.tmp 49) 1,30,none⟩,
 ⟨some 12,.alloc 119,0,none⟩,
 ⟨none,.store 119 (.tmp 12) (.tmp 56),0,none⟩,
 ⟨some 13,.assign (.tmp 57),30,none⟩] [0,2,3,4,5,12,13]) (sg c133S10))
def c133S12(_:Unit):Cmd:=(.seq (.ops [
 ⟨some 34,.move (.tmp 0),126,none⟩,
 ⟨some 35,.nilCheck (.tmp 34),0,none⟩,
 ⟨some 36,.fieldAddr 125 (.tmp 35) 2,0,none⟩,
 ⟨some 37,.load 123 (.tmp 36),123,none⟩,
 ⟨some 38,.move (.tmp 1),3,none⟩,
 ⟨none,.mapUpdate 123 (.tmp 37) (.tmp 38) (.const (.bool true)),0,none⟩] [0,1,2,3,4,5])
 (.seq (.ops [
 ⟨some 39,.move (.tmp 0),126,none⟩,
 ⟨some 40,.move (.tmp 0),126,none⟩,
 ⟨some 41,.nilCheck (.tmp 40),0,none⟩,
 ⟨some 42,.fieldAddr 125 (.tmp 41) 1,0,none⟩,
 ⟨some 43,.load 48 (.tmp 42),48,none⟩,
 ⟨some 44,.move (.tmp 1),3,none⟩,
 ⟨some 45,.buildSlice 48 1 #[(0,(.tmp 44))],48,none⟩,
 ⟨some 46,.call ⟨.builtin .append,#[(.tmp 43),(.tmp 45)],#[48,48]⟩,48,none⟩,
 ⟨some 47,.nilCheck (.tmp 39),0,none⟩,
 ⟨some 48,.fieldAddr 125 (.tmp 47) 1,0,none⟩,
 ⟨none,.store 48 (.tmp 48) (.tmp 46),0,none⟩] [0,1,2,3,4,5]) (sg c133S11)))
def c133:Cmd:=(.seq (.seq (.ops [
 ⟨some 21,.move (.tmp 0),126,none⟩,
 ⟨some 22,.nilCheck (.tmp 21),0,none⟩,
 ⟨some 23,.fieldAddr 125 (.tmp 22) 2,0,none⟩,
 ⟨some 24,.load 123 (.tmp 23),123,none⟩,
 ⟨some 25,.move (.tmp 1),3,none⟩,
 ⟨some 26,.lookup 123 (.tmp 24) (.tmp 25) false,4,none⟩,
 ⟨some 27,.move (.tmp 26),4,none⟩,
 ⟨some 28,.move (.tmp 2),3,(some (27,false))⟩,
 ⟨some 29,.binOp .gtr 3 (.tmp 28) (.const (.int .i64 32)) 3,4,(some (27,false))⟩,
 ⟨some 30,.pick (.tmp 27) (.const (.bool true)) (.tmp 29),4,none⟩] [0,1,2,3,4,5,30])
 (.cond (.tmp 30)
 (.seq (.ops [
 ⟨some 31,.move (.tmp 0),126,none⟩,
 ⟨some 32,.nilCheck (.tmp 31),0,none⟩,
 ⟨some 33,.fieldAddr 125 (.tmp 32) 6,0,none⟩,
 ⟨none,.store 4 (.tmp 33) (.const (.bool true)),0,none⟩] [])
 .ret)
 (.skip [0,1,2,3,4,5]))) (sg c133S12))
attribute [go_sem] c133 c133S0 c133S1 c133S2 c133S4 c133S5 c133S6 c133S7 c133S9
theorem ent133(a0 a1 a2 a3 a4 a5:Value)(w:World)(K:Value→World→Prop)(h:W Tryz.prog c133 [(0,a0),(1,a1),(2,a2),(3,a3),(4,a4),(5,a5)] w (finQ Tryz.prog [] K)):Ret Tryz.prog 133 [a0,a1,a2,a3,a4,a5] w K :=
 Ret_of_W (code:=c133code) Tryz.func133 (by kernel_rfl) (by kernel_rfl) (of_decide_eq_true (by kernel_rfl)) h
@[go_sem] theorem go133:goFunc Tryz.prog 133=true:=by kernel_rfl
def c171code:Code:=match Tryz.f171.body with | some c=>c | none=>.skip
def c171S0(_:Unit):Cmd:=(.ops [
 ⟨some 62,.move (.tmp 0),126,none⟩,
 ⟨some 63,.move (.tmp 0),126,none⟩,
 ⟨some 64,.move (.tmp 7),9,none⟩,
 ⟨some 65,.nilCheck (.tmp 62),0,none⟩,
 ⟨some 66,.fieldAddr 125 (.tmp 65) 4,0,none⟩,
 ⟨none,.store 9 (.tmp 66) (.tmp 64),0,none⟩,
 ⟨some 67,.nilCheck (.tmp 63),0,none⟩,
 ⟨some 68,.fieldAddr 125 (.tmp 67) 5,0,none⟩,
 ⟨none,.store 4 (.tmp 68) (.const (.bool true)),0,none⟩] [0,4,27,28,29])
def c171S1(_:Unit):Cmd:=(.ops [
 ⟨some 69,.binOp .add 3 (.tmp 29) (.const (.int .i64 1)) 3,3,none⟩,
 ⟨some 29,.move (.tmp 69),3,none⟩] [0,4,27,28,29])
def c171S2(_:Unit):Cmd:=(.seq (.block 1 (.seq (.ops [
 ⟨some 31,.move (.tmp 29),3,none⟩,
 ⟨some 32,.indexAddr 22 (.tmp 27) (.tmp 29),0,none⟩,
 ⟨some 33,.load 9 (.tmp 32),9,none⟩,
 ⟨some 6,.assign (.tmp 31),3,none⟩,
 ⟨some 7,.assign (.tmp 33),9,none⟩] [0,4,6,7,27,28,29])
 (.seq (.seq (.ops [
 ⟨some 34,.move (.tmp 0),126,none⟩,
 ⟨some 35,.nilCheck (.tmp 34),0,none⟩,
 ⟨some 36,.fieldAddr 125 (.tmp 35) 5,0,none⟩,
 ⟨some 37,.load 4 (.tmp 36),4,none⟩,
 ⟨some 38,.move (.tmp 37),4,none⟩,
 ⟨some 39,.move (.tmp 7),9,(some (38,true))⟩,
 ⟨some 40,.move (.tmp 0),126,(some (38,true))⟩,
 ⟨some 41,.nilCheck (.tmp 40),0,(some (38,true))⟩,
 ⟨some 42,.fieldAddr 125 (.tmp 41) 4,0,(some (38,true))⟩,
 ⟨some 43,.load 9 (.tmp 42),9,(some (38,true))⟩,
 ⟨some 44,.binOp .leq 9 (.tmp 39) (.tmp 43) 9,4,(some (38,true))⟩,
 ⟨some 45,.pick (.tmp 38) (.tmp 44) (.const (.bool false)),4,none⟩,
 ⟨some 46,.move (.tmp 45),4,none⟩,
 ⟨some 47,.move (.tmp 7),9,(some (46,false))⟩,
 ⟨some 48,.binOp .eql 9 (.tmp 47) (.const (.string (ofL []))) 9,4,(some (46,false))⟩,
 ⟨some 49,.pick (.tmp 46) (.const (.bool true)) (.tmp 48),4,none⟩,
 ⟨some 50,.move (.tmp 49),4,none⟩,
 ⟨some 51,.fieldAddr 119 (.tmp 4) 2,0,(some (50,false))⟩,
 ⟨some 52,.load 22 (.tmp 51),22,(some (50,false))⟩,
 ⟨some 53,.move (.tmp 6),3,(some (50,false))⟩,
 ⟨some 54,.indexAddr 22 (.tmp 52) (.tmp 53),0,(some (50,false))⟩,
 ⟨some 55,.load 9 (.tmp 54),9,(some (50,false))⟩,
 ⟨some 56,.call ⟨.builtin .len,#[(.tmp 55)],#[9]⟩,3,(some (50,false))⟩,
 ⟨some 57,.binOp .gtr 3 (.tmp 56) (.const (.int .i64 80)) 3,4,(some (50,false))⟩,
 ⟨some 58,.pick (.tmp 50) (.const (.bool true)) (.tmp 57),4,none⟩] [0,4,7,27,28,29,58])
 (.cond (.tmp 58)
 (.ops [
 ⟨some 59,.move (.tmp 0),126,none⟩,
 ⟨some 60,.nilCheck (.tmp 59),0,none⟩,
 ⟨some 61,.fieldAddr 125 (.tmp 60) 6,0,none⟩,
 ⟨none,.store 4 (.tmp 61) (.const (.bool true)),0,none⟩] [0,4,7,27,28,29])
 (.skip [0,4,7,27,28,29]))) (sg c171S0)))) (sg c171S1))
def c171L0(_:Unit):Cmd:=(.seq (.ops [
 ⟨some 30,.binOp .lss 3 (.tmp 29) (.tmp 28) 3,0,none⟩] [0,4,27,28,29,30])
 (.seq (.cond (.tmp 30)
 (.skip [0,4,27,28,29])
 (.exit 0 [])) (sg c171S2)))
def c171S3(_:Unit):Cmd:=(.seq (.ops [
 ⟨some 26,.fieldAddr 119 (.tmp 4) 1,0,none⟩,
 ⟨some 27,.load 22 (.tmp 26),22,none⟩,
 ⟨some 28,.call ⟨.builtin .len,#[(.tmp 27)],#[22]⟩,3,none⟩,
 ⟨some 29,.move (.const (.int .i64 0)),3,none⟩] [0,4,27,28,29])
 (.block 0 (.loop (sg c171L0))))
def c171S4(_:Unit):Cmd:=(.seq (.seq (.ops [
 ⟨some 17,.move (.tmp 0),126,none⟩,
 ⟨some 18,.nilCheck (.tmp 17),0,none⟩,
 ⟨some 19,.fieldAddr 125 (.tmp 18) 3,0,none⟩,
 ⟨some 20,.load 3 (.tmp 19),3,none⟩,
 ⟨some 21,.move (.tmp 2),3,none⟩,
 ⟨some 22,.binOp .neq 3 (.tmp 20) (.tmp 21) 3,4,none⟩] [0,4,22])
 (.cond (.tmp 22)
 (.ops [
 ⟨some 23,.move (.tmp 0),126,none⟩,
 ⟨some 24,.nilCheck (.tmp 23),0,none⟩,
 ⟨some 25,.fieldAddr 125 (.tmp 24) 6,0,none⟩,
 ⟨none,.store 4 (.tmp 25) (.const (.bool true)),0,none⟩] [0,4])
 (.skip [0,4]))) (sg c171S3))
def c171:Cmd:=(.seq (.ops [
 ⟨some 4,.box 119 (.tmp 1),0,none⟩] [0,2,4])
 (.seq (.seq (.ops [
 ⟨some 8,.move (.tmp 0),126,none⟩,
 ⟨some 9,.nilCheck (.tmp 8),0,none⟩,
 ⟨some 10,.fieldAddr 125 (.tmp 9) 3,0,none⟩,
 ⟨some 11,.load 3 (.tmp 10),3,none⟩,
 ⟨some 12,.binOp .eql 3 (.tmp 11) (.const (.int .i64 0)) 3,4,none⟩] [0,2,4,12])
 (.cond (.tmp 12)
 (.ops [
 ⟨some 13,.move (.tmp 0),126,none⟩,
 ⟨some 14,.move (.tmp 2),3,none⟩,
 ⟨some 15,.nilCheck (.tmp 13),0,none⟩,
 ⟨some 16,.fieldAddr 125 (.tmp 15) 3,0,none⟩,
 ⟨none,.store 3 (.tmp 16) (.tmp 14),0,none⟩] [0,2,4])
 (.skip [0,2,4]))) (sg c171S4)))
attribute [go_sem] c171 c171S1 c171S2
theorem ent171(a0 a1 a2:Value)(w:World)(K:Value→World→Prop)(h:W Tryz.prog c171 [(0,a0),(1,a1),(2,a2)] w (finQ Tryz.prog [] K)):Ret Tryz.prog 171 [a0,a1,a2] w K :=
 Ret_of_W (code:=c171code) Tryz.func171 (by kernel_rfl) (by kernel_rfl) (of_decide_eq_true (by kernel_rfl)) h
@[go_sem] theorem go171:goFunc Tryz.prog 171=true:=by kernel_rfl
def c71code:Code:=match Tryz.f71.body with | some c=>c | none=>.skip
def c71S0(_:Unit):Cmd:=(.seq (.ops [
 ⟨some 26,.move (.tmp 3),126,none⟩,
 ⟨some 2,.assign (.tmp 26),126,none⟩] [2])
 .ret)
def c71S1(_:Unit):Cmd:=(.seq (.seq (.ops [
 ⟨some 21,.move (.tmp 4),3,none⟩,
 ⟨some 22,.binOp .neq 3 (.tmp 21) (.const (.int .i64 0)) 3,4,none⟩] [3,4,22])
 (.cond (.tmp 22)
 (.ops [
 ⟨some 23,.move (.tmp 3),126,none⟩,
 ⟨some 24,.move (.tmp 4),3,none⟩,
 ⟨some 25,.call ⟨.value (.func 133),#[(.tmp 23),(.tmp 24),(.const (.int .i64 1)),(.const (.string (ofL []))),(.const (.string (ofL []))),(.const (.bool false))],#[126,3,3,9,9,4]⟩,0,none⟩] [3])
 (.skip [3]))) (sg c71S0))
def c71S2(_:Unit):Cmd:=(.seq (.seq (.ops [
 ⟨some 15,.move (.tmp 5),30,none⟩,
 ⟨some 16,.binOp .neq 30 (.tmp 15) (.const (.int .i64 0)) 30,4,none⟩] [3,4,16])
 (.cond (.tmp 16)
 (.seq (.ops [
 ⟨some 17,.move (.tmp 3),126,none⟩,
 ⟨some 18,.nilCheck (.tmp 17),0,none⟩,
 ⟨some 19,.fieldAddr 125 (.tmp 18) 6,0,none⟩,
 ⟨none,.store 4 (.tmp 19) (.const (.bool true)),0,none⟩] [3])
 (.seq (.ops [
 ⟨some 20,.move (.tmp 3),126,none⟩,
 ⟨some 2,.assign (.tmp 20),126,none⟩] [2])
 .ret))
 (.skip [3,4]))) (sg c71S1))
def c71:Cmd:=(.seq (.ops [
 ⟨some 2,.assign (.const (.pointer none)),126,none⟩] [0])
 (.seq (.ops [
 ⟨some 6,.move (.tmp 0),37,none⟩,
 ⟨some 7,.makeMap 123 none,123,none⟩,
 ⟨some 8,.build 125 #[(0,(.tmp 6)),(2,(.tmp 7))],125,none⟩,
 ⟨some 9,.box 125 (.tmp 8),126,none⟩,
 ⟨some 3,.assign (.tmp 9),126,none⟩] [0,3])
 (.seq (.ops [
 ⟨some 11,.move (.tmp 0),37,none⟩,
 ⟨some 12,.call ⟨.value (.func 63),#[(.tmp 11)],#[37]⟩,31,none⟩,
 ⟨some 10,.move (.tmp 12),31,none⟩,
 ⟨some 13,.extract (.tmp 10) 0,3,none⟩,
 ⟨some 14,.extract (.tmp 10) 1,30,none⟩,
 ⟨some 4,.assign (.tmp 13),3,none⟩,
 ⟨some 5,.assign (.tmp 14),30,none⟩] [3,4,5]) (sg c71S2))))
attribute [go_sem] c71 c71S0 c71S1 c71S2
theorem ent71(a0:Value)(w:World)(K:Value→World→Prop)(h:W Tryz.prog c71 [(0,a0)] w (finQ Tryz.prog [.tmp 2] K)):Ret Tryz.prog 71 [a0] w K :=
 Ret_of_W (code:=c71code) Tryz.func71 (by kernel_rfl) (by kernel_rfl) (of_decide_eq_true (by kernel_rfl)) h
@[go_sem] theorem go71:goFunc Tryz.prog 71=true:=by kernel_rfl
def c22code:Code:=match Tryz.f22.body with | some c=>c | none=>.skip
def c22S0(_:Unit):Cmd:=.ret
def c22:Cmd:=(.seq (.ops [
 ⟨some 2,.assign (.const (.slice none 0 0)),48,none⟩] [0])
 (.seq (.ops [
 ⟨some 3,.move (.tmp 0),37,none⟩,
 ⟨some 4,.call ⟨.value (.func 71),#[(.tmp 3)],#[37]⟩,126,none⟩,
 ⟨some 5,.nilCheck (.tmp 4),0,none⟩,
 ⟨some 6,.fieldAddr 125 (.tmp 5) 1,0,none⟩,
 ⟨some 7,.load 48 (.tmp 6),48,none⟩,
 ⟨some 2,.assign (.tmp 7),48,none⟩] [2]) (sg c22S0)))
attribute [go_sem] c22 c22S0
theorem ent22(a0:Value)(w:World)(K:Value→World→Prop)(h:W Tryz.prog c22 [(0,a0)] w (finQ Tryz.prog [.tmp 2] K)):Ret Tryz.prog 22 [a0] w K :=
 Ret_of_W (code:=c22code) Tryz.func22 (by kernel_rfl) (by kernel_rfl) (of_decide_eq_true (by kernel_rfl)) h
@[go_sem] theorem go22:goFunc Tryz.prog 22=true:=by kernel_rfl
def c20code:Code:=match Tryz.f20.body with | some c=>c | none=>.skip
def c20S0(_:Unit):Cmd:=.ret
def c20:Cmd:=(.seq (.ops [
 ⟨some 2,.assign (.const (.bool false)),4,none⟩] [0])
 (.seq (.ops [
 ⟨some 3,.move (.tmp 0),37,none⟩,
 ⟨some 4,.call ⟨.value (.func 71),#[(.tmp 3)],#[37]⟩,126,none⟩,
 ⟨some 5,.nilCheck (.tmp 4),0,none⟩,
 ⟨some 6,.fieldAddr 125 (.tmp 5) 6,0,none⟩,
 ⟨some 7,.load 4 (.tmp 6),4,none⟩,
 ⟨some 8,.unOp .not 4 (.tmp 7),4,none⟩,
 ⟨some 2,.assign (.tmp 8),4,none⟩] [2]) (sg c20S0)))
attribute [go_sem] c20 c20S0
theorem ent20(a0:Value)(w:World)(K:Value→World→Prop)(h:W Tryz.prog c20 [(0,a0)] w (finQ Tryz.prog [.tmp 2] K)):Ret Tryz.prog 20 [a0] w K :=
 Ret_of_W (code:=c20code) Tryz.func20 (by kernel_rfl) (by kernel_rfl) (of_decide_eq_true (by kernel_rfl)) h
@[go_sem] theorem go20:goFunc Tryz.prog 20=true:=by kernel_rfl
def c23code:Code:=match Tryz.f23.body with | some c=>c | none=>.skip
def c23S0(_:Unit):Cmd:=.ret
def c23:Cmd:=(.seq (.ops [
 ⟨some 2,.assign (.const (.int .i64 0)),3,none⟩] [0])
 (.seq (.ops [
 ⟨some 3,.move (.tmp 0),37,none⟩,
 ⟨some 4,.call ⟨.value (.func 71),#[(.tmp 3)],#[37]⟩,126,none⟩,
 ⟨some 5,.nilCheck (.tmp 4),0,none⟩,
 ⟨some 6,.fieldAddr 125 (.tmp 5) 3,0,none⟩,
 ⟨some 7,.load 3 (.tmp 6),3,none⟩,
 ⟨some 2,.assign (.tmp 7),3,none⟩] [2]) (sg c23S0)))
attribute [go_sem] c23 c23S0
theorem ent23(a0:Value)(w:World)(K:Value→World→Prop)(h:W Tryz.prog c23 [(0,a0)] w (finQ Tryz.prog [.tmp 2] K)):Ret Tryz.prog 23 [a0] w K :=
 Ret_of_W (code:=c23code) Tryz.func23 (by kernel_rfl) (by kernel_rfl) (of_decide_eq_true (by kernel_rfl)) h
@[go_sem] theorem go23:goFunc Tryz.prog 23=true:=by kernel_rfl
open Go Go.Ann Go.RowKit Go.WideShapes
section
variable {W0 w:World} {F:Nat→Prop} {L:List Res} {I:List Inv}
theorem begun08_ok{n:Nat}(mx:Nat)(h:St W0 w F L I)(h0:3≤n)(h1:n≤400)(h2:2≤mx) :
  Ret Tryz.prog 15 [.int .i64 n] w fun u w'=>∃ e:En,u=.tuple #[.pointer (some ⟨e.g,0,none⟩),.pointer (some ⟨e.p,0,none⟩)]∧e.hd=newHd n 460∧e.m=newDkP n 460∧e.mx=mx∧Pgr e (fmtP (List.replicate n zeroB)) W0 w' F L I:=by
 refine ent15 _ _ _ ?_
 simp (disch:=first|omega|exact zF rfl|exact zG rfl|exact fun h=>h|(simp only[zA,zB,zC,zD,bytesW];omega)) only[go_sem]
 have en:(n:Int)+462=((n+460+2:Nat):Int):=by omega
 rw [en]
 refine ⟨by constructor <;> omega,Ret.mono (new_ok h (n:=n+460+2) (by omega) (by omega)) ?_⟩
 rintro _ w2 ⟨g,vb,vl,rfl,s2⟩
 simp (disch:=first|omega|exact zF rfl|exact zG rfl|exact fun h=>h|(simp only[zA,zB,zC,zD,bytesW];omega)) only[go_sem]
 refine Ret.mono (format_ok (room:=460) s2 (by decide) (by omega) (by omega)) ?_
 rintro _ w3 ⟨rfl,vl',s3⟩
 simp (disch:=first|omega|exact zF rfl|exact zG rfl|exact fun h=>h|(simp only[zA,zB,zC,zD,bytesW];omega)) only[go_sem]
 refine Ret.mono (open0_ok (newHd n 460) s3 (fmtDk_ok (by omega) (by omega)) rfl (by simp [fmtDk]) (newest_fmt (by decide) (by omega) (by omega)) rfl) ?_
 rintro _ w4 ⟨b,mb,rfl,s4⟩
 simp (disch:=first|omega|exact zF rfl|exact zG rfl|exact fun h=>h|(simp only[zA,zB,zC,zD,bytesW];omega)) only[go_sem]
 refine Ret.mono (pnew_ok mx s4 (newSto_live (by omega) (by omega) (by omega) (by omega)) ⟨h2,fun _ h=>(by cases h)⟩) ?_
 rintro _ w5 ⟨p,c,rfl,s5⟩
 have s5:Pgr ⟨p,b,mb,g,c,vb,vl',newHd n 460,newDkP n 460,mx⟩ (pgs (newSto n 460)) W0 w5 F L I:=s5
 have ep:pgs (newSto n 460)=List.replicate n zeroB:=newSto_pgs (by omega) (by omega) (by omega) (by omega)
 obtain ⟨e,hep,heg,heh,hem,hmx,k5⟩:∃ e:En,e.p=p∧e.g=g∧e.hd=newHd n 460∧e.m=newDkP n 460∧e.mx=mx∧Pgr e (pgs (newSto n 460)) W0 w5 F L I:=⟨_,rfl,rfl,rfl,rfl,rfl,s5⟩
 rw [ep] at k5
 subst hep heg
 have h3:3≤(List.replicate n zeroB).length:=by rw [List.length_replicate]; exact h0
 generalize List.replicate n zeroB=P0 at k5 h3 ⊢
 simp (disch:=first|omega|exact zF rfl|exact zG rfl|exact fun h=>h|(simp only[zA,zB,zC,zD,bytesW];omega)) only[go_sem]
 refine Ret.mono (pformat_ok k5 h3) ?_
 rintro _ w6 ⟨rfl,s6⟩
 simp (disch:=first|omega|exact zF rfl|exact zG rfl|exact fun h=>h|(simp only[zA,zB,zC,zD,bytesW];omega)) only[go_sem]
 exact ⟨e,rfl,heh,hem,hmx,s6⟩
end
section
variable {W0 w:World} {F:Nat→Prop} {L:List Res} {I:List Inv} {e:En} {P:List (List UInt8)}
end
open Go Go.Ann Go.RowKit Go.WideShapes
def fromF(b:Nat):Value:=.func (.func 134) #[] #[.pointer (some ⟨b,0,none⟩),.pointer (some ⟨b+1,0,none⟩)]
theorem from_ok{t:Value}(k:List UInt8)(w:World)(ht:t=.pointer none∨∃ tb,t=.pointer (some ⟨tb,0,none⟩)):Ret Tryz.prog 72 [t,.string (ofL k)] w fun u w'=>u=fromF w.heap.size∧w'=(w.alloc (.cells #[t] 37)).alloc (.cells #[.string (ofL k)] 9):=by
 unfold fromF
 rcases ht with rfl | ⟨tb,rfl⟩
 ·refine ent72 _ _ _ _ ?_
  simp (disch:=first|omega|exact zF rfl|exact zG rfl|exact fun h=>h|(simp only[zA,zB,zC,zD,bytesW];omega)) only[go_sem]
 ·refine ent72 _ _ _ _ ?_
  simp (disch:=first|omega|exact zF rfl|exact zG rfl|exact fun h=>h|(simp only[zA,zB,zC,zD,bytesW];omega)) only[go_sem]
theorem tall_ok{t:Value}(w:World)(ht:t=.pointer none∨∃ tb,t=.pointer (some ⟨tb,0,none⟩)):Ret Tryz.prog 82 [t] w fun u w'=>u=fromF w.heap.size∧w'=(w.alloc (.cells #[t] 37)).alloc (.cells #[.string (ofL [])] 9):=by
 refine ent82 _ _ _ ?_
 simp (disch:=first|omega|exact zF rfl|exact zG rfl|exact fun h=>h|(simp only[zA,zB,zC,zD,bytesW];omega)) only[go_sem]
 refine Ret.mono (from_ok [] w ht) ?_
 rintro _ _ ⟨rfl,rfl⟩
 unfold fromF
 simp (disch:=first|omega|exact zF rfl|exact zG rfl|exact fun h=>h|(simp only[zA,zB,zC,zD,bytesW];omega)) only[go_sem]
section
variable {W0 w:World} {F:Nat→Prop} {L:List Res} {I:List Inv} {e:En} {P:List (List UInt8)}
abbrev trB(tb:Nat)(e:En)(i:Int):Res:=.blk tb #[.pointer (some ⟨e.p,0,none⟩),.int .i64 i] 56
theorem topened_ok{i:Int}(h:Pgr e P W0 w F L I)(h3:3≤P.length)(hi:0≤i∧i<16):Ret Tryz.prog 16 [.pointer (some ⟨e.p,0,none⟩),.int .i64 i] w fun u w'=>∃ tb,u=.pointer (some ⟨tb,0,none⟩)∧Pgr e P W0 w' F (trB tb e i::L) I:=by
 have key:Ret Tryz.prog 29 [.pointer (some ⟨e.p,0,none⟩),.int .i64 i] w fun u w'=>∃ tb,u=.tuple #[.pointer (some ⟨tb,0,none⟩),.int .i64 0]∧Pgr e P W0 w' F (trB tb e i::L) I:=by
  refine ent29 _ _ _ _ ?_
  simp (disch:=first|omega|exact zF rfl|exact zG rfl|exact fun h=>h|(simp only[zA,zB,zC,zD,bytesW];omega)) only[go_sem]
  refine Ret.mono (proot_ok i h (by omega) ⟨by omega,by omega⟩) ?_
  rw [rootN_eq hi]
  rintro _ w2 ⟨rfl,h2⟩
  simp (disch:=first|omega|exact zF rfl|exact zG rfl|exact fun h=>h|(simp only[zA,zB,zC,zD,bytesW];omega)) only[go_sem]
  refine bdW_built (cells:=#[.pointer (some ⟨e.p,0,none⟩),.int .i64 i]) (by kernel_rfl) ?_
  have s4:=h2.box #[.pointer (some ⟨e.p,0,none⟩),.int .i64 i] 56
  simp (disch:=first|omega|exact zF rfl|exact zG rfl|exact fun h=>h|(simp only[zA,zB,zC,zD,bytesW];omega)) only[go_sem]
  exact ⟨_,rfl,s4⟩
 refine ent16 _ _ _ _ ?_
 simp (disch:=first|omega|exact zF rfl|exact zG rfl|exact fun h=>h|(simp only[zA,zB,zC,zD,bytesW];omega)) only[go_sem]
 refine Ret.mono key ?_
 rintro _ w2 ⟨tb,rfl,h2⟩
 simp (disch:=first|omega|exact zF rfl|exact zG rfl|exact fun h=>h|(simp only[zA,zB,zC,zD,bytesW];omega)) only[go_sem]
 exact ⟨tb,rfl,h2⟩
theorem troot_ok{tb:Nat}(h:Pgr e P W0 w F (trB tb e 0::L) I)(h3:3≤P.length):Ret Tryz.prog 63 [.pointer (some ⟨tb,0,none⟩)] w fun u w'=>u=.tuple #[.int .i64 (rootM P 0:Nat),.int .i64 0]∧Pgr e P W0 w' F (trB tb e 0::L) I:=by
 have r:=h.rules 0 rfl
 refine ent63 _ _ _ ?_
 simp (disch:=first|omega|exact zF rfl|exact zG rfl|exact fun h=>h|(simp only[zA,zB,zC,zD,bytesW];omega)) only[go_sem,r]
 refine c63draw0 (Same (fun k=>k=tb) _) (Same.refl _ _) ?_
 have h2:=h.drew
 generalize w.drew=w2 at h2 ⊢
 have r:=h2.rules 0 rfl
 simp (disch:=first|omega|exact zF rfl|exact zG rfl|exact fun h=>h|(simp only[zA,zB,zC,zD,bytesW];omega)) only[go_sem,c63D0,r]
 refine ⟨Same.refl _ _,Ret.mono (proot_ok 0 h2 h3 ⟨by decide,by decide⟩) ?_⟩
 rw [rootN_eq (by decide)]
 rintro _ w3 ⟨rfl,h3'⟩
 simp (disch:=first|omega|exact zF rfl|exact zG rfl|exact fun h=>h|(simp only[zA,zB,zC,zD,bytesW];omega)) only[go_sem,c63D0]
 exact h3'
end
open Go Go.Ann Go.RowKit Go.WideShapes
def textP:List UInt8→Option (List UInt8 × List UInt8)
 | []=>none
 | b::s=>if s.length<b.toNat then none else some (s.take b.toNat,s.drop b.toNat)
theorem text_ok(s:List UInt8)(w:World)(hs:s.length≤1000000) :
  Ret Tryz.prog 172 [.string (ofL s)] w fun u w'=>u=(match textP s with | some x=>.tuple #[.string (ofL x.1),.string (ofL x.2),.bool true] | none=>.tuple #[.string (ofL []),.string (ofL []),.bool false])∧Below w.heap.size w w':=by
 refine ent172 _ _ _ ?_
 cases s with
 | nil =>
  simp (disch:=first|omega|exact zF rfl|exact zG rfl|exact fun h=>h|(simp only[zA,zB,zC,zD,bytesW];omega)) only[go_sem]
  exact ⟨rfl,Below.refl _ _⟩
 | cons b s =>
  have hb:bN (b::s) 0=b.toNat:=rfl
  have hbl:b.toNat<256:=b.toNat_lt
  rw [List.length_cons] at hs
  simp (disch:=first|omega|exact zF rfl|exact zG rfl|exact fun h=>h|(simp only[zA,zB,zC,zD,bytesW];omega)) only[go_sem,List.cons_ne_nil]
  rw [hb]
  refine ⟨by omega,⟨by omega,by omega⟩,⟨by omega,by omega⟩,fun hlt=>?_,fun hge=>⟨by omega,⟨by omega,by omega⟩,⟨by omega,by omega⟩,?_⟩⟩
  ·have e1:textP (b::s)=none:=by rw [textP,if_pos (by omega)]
   rw [e1]
   exact ⟨rfl,Below.refl _ _⟩
  ·have e1:textP (b::s)=some (s.take b.toNat,s.drop b.toNat):=by rw [textP,if_neg (by omega)]
   rw [e1]
   refine c172draw0 ?_
   simp (disch:=first|omega|exact zF rfl|exact zG rfl|exact fun h=>h|(simp only[zA,zB,zC,zD,bytesW];omega)) only[go_sem,c172D0]
   have e2:(1+(b.toNat:Int)).toNat=b.toNat+1:=by omega
   have e3:cutL (b::s) 1 (1+(b.toNat:Int))=s.take b.toNat:=by unfold cutL; rw [e2]; rfl
   rw [e3,e2,List.drop_succ_cons]
   exact ⟨⟨by omega,by omega⟩,⟨by omega,by omega⟩,rfl,(Below.refl _ _).drew⟩
open Go Go.Ann Go.RowKit Go.WideShapes
structure Nd where
 leaf:Bool
 keys:List (List UInt8)
 vals:List (List UInt8)
 kids:List Nat
def entsP(leaf:Bool):Nat→List UInt8→List (List UInt8)→List (List UInt8)→Option (List (List UInt8) × List (List UInt8) × List UInt8)
 | 0,s,ks,vs=>some (ks,vs,s)
 | k+1,s,ks,vs=>match textP s with
  | none=>none
  | some (x,r)=>if leaf then match textP r with
    | none=>none
    | some (v,r)=>entsP leaf k r (ks++[x]) (vs++[v])
   else entsP leaf k r (ks++[x]) vs
def kidsP:Nat→List UInt8→List Nat→Option (List Nat)
 | 0,_,cs=>some cs
 | k+1,a::b::s,cs=>kidsP k s (cs++[a.toNat+256 * b.toNat])
 | _+1,_,_=>none
def parseP:List UInt8→Option Nd
 | a::b::s=>if a≠1∧a≠2 then none else match entsP (decide (a=1)) b.toNat s [] [] with
  | none=>none
  | some (ks,vs,r)=>if a=1 then some ⟨true,ks,vs,[]⟩ else match kidsP (b.toNat+1) r [] with
   | none=>none
   | some cs=>some ⟨false,ks,vs,cs⟩
 | _=>none
theorem str_one'(x:List UInt8):∀ u∈strE x,u.oneCell'=true:=by intro u hu; rw [strE,List.mem_singleton] at hu; subst hu; rfl
theorem textP_le{s x r:List UInt8}(h:textP s=some (x,r)):r.length<s.length∧x.length≤255:=by
 cases s with
 | nil=>cases h
 | cons b s =>
  rw [textP] at h
  split at h
  ·cases h
  ·rename_i hl
   obtain ⟨rfl,rfl⟩:=Prod.mk.inj (Option.some.inj h)
   have hb:b.toNat<256:=b.toNat_lt
   rw [List.length_drop,List.length_take,List.length_cons]
   omega
section
variable {W0 w:World} {F:Nat→Prop} {L:List Res} {I:List Inv}
abbrev ndZ:Array Value:=#[.bool false,.slice none 0 0,.slice none 0 0,.slice none 0 0]
def ParsedP(W0:World)(F:Nat→Prop)(L:List Res)(I:List Inv)(x:Option Nd)(u:Value)(w':World):Prop:=match x with
 | none=>u=.tuple #[.agg ndZ,.int .i64 14]∧St W0 w' F L I
 | some nd=>∃ kv vv cv,u=.tuple #[.agg #[.bool nd.leaf,kv,vv,cv],.int .i64 0]∧St W0 w' F (.row kv 9 1 nd.keys.length (nd.keys.flatMap strE)::.row vv 9 1 nd.vals.length (nd.vals.flatMap strE)::.row cv 3 1 nd.kids.length (nd.kids.flatMap natE)::L) I
theorem or_low{a b:Nat}(ha:a<256)(hb:b<256):bits BinOp.or IntKind.i64 (a:Int) (IntKind.i64.wrap ((b:Int) * 2 ^ min 8 64))=((a+256 * b:Nat):Int):=by
 have e1:IntKind.i64.wrap ((b:Int) * 2 ^ min 8 64)=((2 ^ 8 * b:Nat):Int):=by
  simp [IntKind.wrap,IntKind.signed,IntKind.bits]
  omega
 rw [e1]
 have e2:a ||| 2 ^ 8 * b=a+256 * b:=by
  rw [Nat.or_comm,← Nat.two_pow_add_eq_or_of_lt (show a<2 ^ 8 from ha)]
  omega
 have e3:(BitVec.ofInt 64 (a:Int) ||| BitVec.ofInt 64 ((2 ^ 8 * b:Nat):Int)).toNat=a+256 * b:=by
  rw [BitVec.toNat_or,BitVec.ofInt_natCast,BitVec.ofInt_natCast,BitVec.toNat_ofNat,BitVec.toNat_ofNat,Nat.mod_eq_of_lt (by omega),Nat.mod_eq_of_lt (by omega),e2]
 show IntKind.i64.wrap (((BitVec.ofInt 64 (a:Int) ||| BitVec.ofInt 64 ((2 ^ 8 * b:Nat):Int)).toNat:Nat):Int)=_
 rw [e3]
 simp [IntKind.wrap,IntKind.signed,IntKind.bits]
 omega
theorem parse13_ok{b2 b4 cnt:Nat}{lf:Bool}{ks vl:List (List UInt8)}{rest:List UInt8}{kv vv:Value}(h:St W0 w F (.row kv 9 1 ks.length (ks.flatMap strE)::.row vv 9 1 vl.length (vl.flatMap strE)::.blk b4 #[.bool lf,kv,vv,.slice none 0 0] 119::.blk b2 ndZ 119::L) I)(hs:rest.length≤100000)(hc:cnt<256) :
  W Tryz.prog (c136S13 ()) [(0,.string (ofL rest)),(2,.pointer (some ⟨b2,0,none⟩)),(4,.pointer (some ⟨b4,0,none⟩)),(5,.int .i64 cnt)] w (finQ Tryz.prog [.cell 2 119,.tmp 3] (ParsedP W0 F L I (if lf=true then some ⟨true,ks,vl,[]⟩ else match kidsP (cnt+1) rest [] with | none=>none | some cs=>some ⟨false,ks,vl,cs⟩))):=by
 obtain ⟨ka,kc,rfl,_⟩:=own_slice (h.row 0 rfl)
 obtain ⟨va,vc,rfl,_⟩:=own_slice (h.row 1 rfl)
 have r4:=h.rules 2 rfl
 have r2:=h.rules 3 rfl
 cases lf with
 | true =>
  simp (disch:=first|omega|exact zF rfl|exact zG rfl|exact fun h=>h|(simp only[zA,zB,zC,zD,bytesW];omega)) only[go_sem,c136S3,c136S4,c136L0,c136L1,c136S13,c136S14,r4,r2]
  have h2:=((h.fill 3 (cs:=#[.bool true,.slice ka ks.length kc,.slice va vl.length vc,.slice none 0 0]) rfl rfl).nilRow 3 1).sub (L':=.row (.slice none 0 0) 3 1 0 []::.row (.slice ka ks.length kc) 9 1 ks.length (ks.flatMap strE)::.row (.slice va vl.length vc) 9 1 vl.length (vl.flatMap strE)::L) (.cons_cons _ (.cons_cons _ (.cons_cons _ (.cons _ (.cons _ (List.Sublist.refl _))))))
  have h3:=h2.perm (List.perm_middle (l₁:=[Res.row (.slice ka ks.length kc) 9 1 ks.length (ks.flatMap strE),Res.row (.slice va vl.length vc) 9 1 vl.length (vl.flatMap strE)]) (a:=Res.row (.slice none 0 0) 3 1 0 []))
  exact ⟨_,_,.slice none 0 0,rfl,h3⟩
 | false =>
  simp (disch:=first|omega|exact zF rfl|exact zG rfl|exact fun h=>h|(simp only[zA,zB,zC,zD,bytesW];omega)) only[go_sem,c136S3,c136S4,c136L0,c136S13,c136S14,r4,r2]
  refine ⟨⟨by omega,by omega⟩,?_⟩
  refine W_loopU (fun q:Nat × List UInt8 × List Nat × Value=>[(0,.string (ofL q.2.1)),(76,.int .i64 q.1)]) (fun q w'=>q.1≤cnt+1∧q.2.1.length≤100000∧q.2.2.1.length=q.1∧kidsP (cnt+1) rest []=kidsP (cnt+1 - q.1) q.2.1 q.2.2.1∧St W0 w' F (.row q.2.2.2 3 1 q.2.2.1.length (q.2.2.1.flatMap natE)::.row (.slice ka ks.length kc) 9 1 ks.length (ks.flatMap strE)::.row (.slice va vl.length vc) 9 1 vl.length (vl.flatMap strE)::.blk b4 #[.bool false,.slice ka ks.length kc,.slice va vl.length vc,q.2.2.2] 119::.blk b2 ndZ 119::L) I) (fun q=>cnt+1 - q.1) (0,rest,[],.slice none 0 0) rfl ⟨Nat.zero_le _,hs,rfl,rfl,h.nilRow 3 1⟩ ?_
  clear h r4 r2 hs
  rintro ⟨j,rest1,cs,cv⟩ w2 ⟨hj,hs,hcs,hk,h⟩
  simp only at hj hs hcs hk h
  rw [hk]
  obtain ⟨ca,cc,rfl,_⟩:=own_slice (h.row 0 rfl)
  have r4:=h.rules 3 rfl
  have r2:=h.rules 4 rfl
  by_cases hlt:j<cnt+1
  case neg =>
   have hlt':¬ (j:Int)<(cnt:Int)+1:=by omega
   obtain rfl:j=cnt+1:=by omega
   rw [Nat.sub_self,kidsP]
   simp (disch:=first|omega|exact zF rfl|exact zG rfl|exact fun h=>h|(simp only[zA,zB,zC,zD,bytesW];omega)) only[go_sem,c136S3,c136S4,c136L0,c136L1,c136S13,c136S14,c136L1,hlt',r4,r2]
   have h2:=(h.fill 4 (cs:=#[.bool false,.slice ka ks.length kc,.slice va vl.length vc,.slice ca cs.length cc]) rfl rfl).sub (L':=.row (.slice ca cs.length cc) 3 1 cs.length (cs.flatMap natE)::.row (.slice ka ks.length kc) 9 1 ks.length (ks.flatMap strE)::.row (.slice va vl.length vc) 9 1 vl.length (vl.flatMap strE)::L) (.cons_cons _ (.cons_cons _ (.cons_cons _ (.cons _ (.cons _ (List.Sublist.refl _))))))
   have h3:=h2.perm (List.perm_middle (l₁:=[Res.row (.slice ka ks.length kc) 9 1 ks.length (ks.flatMap strE),Res.row (.slice va vl.length vc) 9 1 vl.length (vl.flatMap strE)]) (a:=Res.row (.slice ca cs.length cc) 3 1 cs.length (cs.flatMap natE)))
   exact ⟨fun hc=>by omega,fun _=>⟨_,_,.slice ca cs.length cc,rfl,h3⟩⟩
  have hlt':(j:Int)<(cnt:Int)+1:=by omega
  obtain ⟨m,hm⟩:∃ m,cnt+1 - j=m+1:=⟨cnt - j,by omega⟩
  rw [hm]
  have bad:St W0 (w2.fill b2 ndZ) F L I:=(h.fill 4 rfl rfl).sub (.cons _ (.cons _ (.cons _ (.cons _ (.cons _ (List.Sublist.refl _))))))
  match rest1,hs with
  | [],_ =>
   simp (disch:=first|omega|exact zF rfl|exact zG rfl|exact fun h=>h|(simp only[zA,zB,zC,zD,bytesW];omega)) only[go_sem,c136S3,c136S4,c136L0,c136L1,c136S13,c136S14,c136L1,hlt',r2]
   refine bdW_built (cells:=ndZ) (by kernel_rfl) ?_
   simp (disch:=first|omega|exact zF rfl|exact zG rfl|exact fun h=>h|(simp only[zA,zB,zC,zD,bytesW];omega)) only[go_sem,c136S3,c136S4,c136L0,c136L1,c136S13,c136S14,r2]
   exact ⟨rfl,bad⟩
  | [x],_ =>
   simp (disch:=first|omega|exact zF rfl|exact zG rfl|exact fun h=>h|(simp only[zA,zB,zC,zD,bytesW];omega)) only[go_sem,c136S3,c136S4,c136L0,c136L1,c136S13,c136S14,c136L1,hlt',r2]
   refine bdW_built (cells:=ndZ) (by kernel_rfl) ?_
   simp (disch:=first|omega|exact zF rfl|exact zG rfl|exact fun h=>h|(simp only[zA,zB,zC,zD,bytesW];omega)) only[go_sem,c136S3,c136S4,c136L0,c136L1,c136S13,c136S14,r2]
   exact ⟨rfl,bad⟩
  | x::y::s,hs =>
   rw [List.length_cons,List.length_cons] at hs
   have e0:bN (x::y::s) 0=x.toNat:=rfl
   have e1:bN (x::y::s) 1=y.toNat:=rfl
   have e2:(x::y::s).drop 2=s:=rfl
   have hx:x.toNat<256:=x.toNat_lt
   have hy:y.toNat<256:=y.toNat_lt
   have hl2:¬ ((s.length:Int)+1+1<2):=by omega
   simp (disch:=first|omega|exact zF rfl|exact zG rfl|exact fun h=>h|(simp only[zA,zB,zC,zD,bytesW];omega)) only[go_sem,c136S3,c136S4,c136L0,c136L1,c136S13,c136S14,c136L1,hlt',hl2]
   refine c136draw0 (Same (fun k=>k=b4) _) (Same.refl _ _) ?_
   have h3:=h.drew
   generalize w2.drew=w3 at h3 ⊢
   have r4:=h3.rules 3 rfl
   have eo:=or_low hx hy
   obtain ⟨c,hc'⟩:∃ c,c=x.toNat+256 * y.toNat:=⟨_,rfl⟩
   rw [← hc'] at eo
   simp (disch:=first|omega|exact zF rfl|exact zG rfl|exact fun h=>h|(simp only[zA,zB,zC,zD,bytesW];omega)) only[go_sem,c136S3,c136S4,c136L0,c136L1,c136S13,c136S14,c136D0,r4,e0,e1,eo]
   refine ⟨by omega,⟨by omega,by omega⟩,by omega,⟨by omega,by omega⟩,?_⟩
   refine bsW_ones ty48mkI rfl rfl (by decide) (by decide) (by intro v hv; rw [List.mem_singleton] at hv; subst hv; rfl) ?_
   simp (disch:=first|omega|exact zF rfl|exact zG rfl|exact fun h=>h|(simp only[zA,zB,zC,zD,bytesW];omega)) only[go_sem,c136S3,c136S4,c136L0,c136L1,c136S13,c136S14,c136D0]
   have h4:=h3.alloc' (.cells #[.int .i64 (c:Nat)] 3)
   have same4:Same (fun k=>k=b4) w3 (w3.alloc (.cells #[.int .i64 (c:Nat)] 3)):=by
    rintro k rfl
    exact (h4.blk 3 rfl).trans (h3.blk 3 rfl).symm
   have hxr:Rd (w3.alloc (.cells #[.int .i64 (c:Nat)] 3)) 1 (.slice (some ⟨w3.heap.size,0,none⟩) 1 1) 1 (natE c):=rd_new (n:=1) (cs:=#[.int .i64 (c:Nat)]) rfl
   refine ⟨same4,h4.append 0 rfl ty48mkI rfl (by decide) hxr (nat_one c) (by omega) (by omega) ?_⟩
   intro v6 w6 s6 c6
   have same6:Same (fun k=>k=b4) w3 w6:=by
    rintro k rfl
    exact (s6.blk 3 rfl).trans (h3.blk 3 rfl).symm
   obtain ⟨v6a,v6c,rfl,_⟩:=own_slice (s6.row 0 rfl)
   have r4:=s6.rules 3 rfl
   have s7:=s6.set 3 rfl 3 (.slice v6a (cs.length+1) v6c)
   simp (disch:=first|omega|exact zF rfl|exact zG rfl|exact fun h=>h|(simp only[zA,zB,zC,zD,bytesW];omega)) only[go_sem,c136S3,c136S4,c136L0,c136L1,c136S13,c136S14,c136D0,r4,e2]
   have ec:cs.length+1=(cs++[c]).length:=by simp
   have el:cs.flatMap natE++natE c=(cs++[c]).flatMap natE:=by rw [List.flatMap_append]; simp
   rw [ec,el] at s7
   rw [ec]
   have ek:kidsP (m+1) (x::y::s) cs=kidsP m s (cs++[c]):=by rw [kidsP,hc']
   rw [ek]
   refine ⟨by omega,⟨by omega,by omega⟩,(j+1,s,cs++[c],Value.slice v6a (cs++[c]).length v6c),rfl,⟨by simp only; omega,by simp only; omega,by rw [← ec,hcs],by simp only; rw [show cnt+1 - (j+1)=m by omega],s7⟩,by simp only; omega⟩
theorem parse14_ok{b2:Nat}{a b:UInt8}{s:List UInt8}(h:St W0 w F (.blk b2 ndZ 119::L) I)(ha:a=1∨a=2)(hs:s.length≤100000) :
  W Tryz.prog (c136S14 ()) [(0,.string (ofL (a::b::s))),(2,.pointer (some ⟨b2,0,none⟩))] w (finQ Tryz.prog [.cell 2 119,.tmp 3] (ParsedP W0 F L I (parseP (a::b::s)))):=by
 have e0:bN (a::b::s) 0=a.toNat:=rfl
 have e1:bN (a::b::s) 1=b.toNat:=rfl
 have e2:(a::b::s).drop 2=s:=rfl
 have hbl:b.toNat<256:=b.toNat_lt
 simp (disch:=first|omega|exact zF rfl|exact zG rfl|exact fun h=>h|(simp only[zA,zB,zC,zD,bytesW];omega)) only[go_sem,c136S3,c136S4,c136L1,c136S14,e0,e1,e2]
 obtain ⟨lf,hlf⟩:∃ lf,lf=decide ((a.toNat:Int)=1):=⟨_,rfl⟩
 rw [← hlf]
 refine ⟨by omega,bdW_built (cells:=#[.bool lf,.slice none 0 0,.slice none 0 0,.slice none 0 0]) (by kernel_rfl) ?_⟩
 simp (disch:=first|omega|exact zF rfl|exact zG rfl|exact fun h=>h|(simp only[zA,zB,zC,zD,bytesW];omega)) only[go_sem,c136S3,c136S4,c136L1,c136S14,e0,e1,e2]
 have h4:=h.box #[.bool lf,.slice none 0 0,.slice none 0 0,.slice none 0 0] 119
 generalize w.heap.size=b4 at h4 ⊢
 generalize w.alloc (.cells #[.bool lf,.slice none 0 0,.slice none 0 0,.slice none 0 0] 119)=w4 at h4 ⊢
 have hla:lf=decide (a=1):=by
  rw [hlf]
  have n1:(a.toNat:Int)=1↔a=1:=by
   constructor
   ·intro hc; exact UInt8.toNat_inj.1 (by show a.toNat=1; omega)
   ·rintro rfl; rfl
  simp only [n1]
 have ep:parseP (a::b::s)=match entsP lf b.toNat s [] [] with
   | none=>none
   | some (ks,vs,r)=>if lf=true then some ⟨true,ks,vs,[]⟩ else match kidsP (b.toNat+1) r [] with
    | none=>none
    | some cs=>some ⟨false,ks,vs,cs⟩:=by
  rw [parseP,if_neg (fun hc=>ha.elim hc.1 hc.2),hla]
  simp only [decide_eq_true_eq]
 rw [ep]
 clear hlf hla ep e0 e1 e2 h
 refine ⟨by omega,⟨by omega,by omega⟩,by omega,?_⟩
 refine W_loopU (fun q:Nat × List UInt8 × List (List UInt8) × List (List UInt8) × Value × Value=>[(0,.string (ofL q.2.1)),(34,.int .i64 q.1)]) (fun q w'=>q.1≤b.toNat∧q.2.1.length≤100000∧q.2.2.1.length=q.1∧q.2.2.2.1.length≤q.1∧entsP lf b.toNat s [] []=entsP lf (b.toNat - q.1) q.2.1 q.2.2.1 q.2.2.2.1∧St W0 w' F (.row q.2.2.2.2.1 9 1 q.2.2.1.length (q.2.2.1.flatMap strE)::.row q.2.2.2.2.2 9 1 q.2.2.2.1.length (q.2.2.2.1.flatMap strE)::.blk b4 #[.bool lf,q.2.2.2.2.1,q.2.2.2.2.2,.slice none 0 0] 119::.blk b2 ndZ 119::L) I) (fun q=>b.toNat - q.1) (0,s,[],[],.slice none 0 0,.slice none 0 0) rfl ⟨Nat.zero_le _,hs,rfl,Nat.le_refl _,rfl,(h4.nilRow 9 1).nilRow 9 1⟩ ?_
 clear h4
 rintro ⟨j,rest,ks,vl,kv,vv⟩ w5 ⟨hj,hr,hkl,hvl,hen,h5⟩
 simp only at hj hr hkl hvl hen h5
 rw [hen]
 obtain ⟨ka,kc,rfl,_⟩:=own_slice (h5.row 0 rfl)
 obtain ⟨va,vc,rfl,_⟩:=own_slice (h5.row 1 rfl)
 by_cases hlt:j<b.toNat
 case neg =>
  have hlt':¬ (j:Int)<b.toNat:=by omega
  obtain rfl:j=b.toNat:=by omega
  rw [Nat.sub_self,entsP]
  simp (disch:=first|omega|exact zF rfl|exact zG rfl|exact fun h=>h|(simp only[zA,zB,zC,zD,bytesW];omega)) only[go_sem,c136S3,c136S4,c136L0,c136L1,c136S14,c136L0,hlt']
  exact parse13_ok h5 hr hbl
 have hlt':(j:Int)<b.toNat:=by omega
 obtain ⟨m,hm⟩:∃ m,b.toNat - j=m+1:=⟨b.toNat - j - 1,by omega⟩
 rw [hm,entsP]
 simp (disch:=first|omega|exact zF rfl|exact zG rfl|exact fun h=>h|(simp only[zA,zB,zC,zD,bytesW];omega)) only[go_sem,c136S3,c136L0,c136L1,c136S14,c136L0,hlt']
 refine Ret.mono (text_ok rest w5 (by omega)) ?_
 rintro _ w6 ⟨rfl,b6⟩
 have h6:=h5.call b6
 have r4:=h6.rules 2 rfl
 have r2:=h6.rules 3 rfl
 have bad:∀ {w':World} {kv vv:Value} {vl:List (List UInt8)},St W0 w' F (.row kv 9 1 ks.length (ks.flatMap strE)::.row vv 9 1 vl.length (vl.flatMap strE)::.blk b4 #[.bool lf,kv,vv,.slice none 0 0] 119::.blk b2 ndZ 119::L) I→St W0 (w'.fill b2 ndZ) F L I:=fun h=>(h.fill 3 rfl rfl).sub (.cons _ (.cons _ (.cons _ (.cons _ (List.Sublist.refl _)))))
 cases ht:textP rest with
 | none =>
  simp (disch:=first|omega|exact zF rfl|exact zG rfl|exact fun h=>h|(simp only[zA,zB,zC,zD,bytesW];omega)) only[go_sem,c136S3,c136S4,c136L0,c136L1,c136S14,r2]
  refine bdW_built (cells:=ndZ) (by kernel_rfl) ?_
  simp (disch:=first|omega|exact zF rfl|exact zG rfl|exact fun h=>h|(simp only[zA,zB,zC,zD,bytesW];omega)) only[go_sem,c136S3,c136S4,c136L0,c136L1,c136S14,r2]
  exact ⟨rfl,bad h6⟩
 | some x =>
  obtain ⟨x,r⟩:=x
  have hrl:=(textP_le ht).1
  -- a key more
  have fin3:∀ (Q:Post) (w7:World) (vv:Value) (vl:List (List UInt8)) (r:List UInt8),St W0 w7 F (.row (.slice ka ks.length kc) 9 1 ks.length (ks.flatMap strE)::.row vv 9 1 vl.length (vl.flatMap strE)::.blk b4 #[.bool lf,.slice ka ks.length kc,vv,.slice none 0 0] 119::.blk b2 ndZ 119::L) I →
    (∀ w8 kv,St W0 w8 F (.row kv 9 1 (ks++[x]).length ((ks++[x]).flatMap strE)::.row vv 9 1 vl.length (vl.flatMap strE)::.blk b4 #[.bool lf,kv,vv,.slice none 0 0] 119::.blk b2 ndZ 119::L) I→Q .normal [(0,.string (ofL r)),(2,.pointer (some ⟨b2,0,none⟩)),(4,.pointer (some ⟨b4,0,none⟩)),(5,.int .i64 b.toNat),(33,.int .i64 b.toNat),(34,.int .i64 j)] w8) →
    W Tryz.prog (c136S3 ()) [(2,.pointer (some ⟨b2,0,none⟩)),(4,.pointer (some ⟨b4,0,none⟩)),(5,.int .i64 b.toNat),(6,.string (ofL x)),(7,.string (ofL r)),(8,.bool true),(33,.int .i64 b.toNat),(34,.int .i64 j)] w7 Q:=by
   intro Q w7 vv vl r h7 hQ
   have r4:=h7.rules 2 rfl
   simp (disch:=first|omega|exact zF rfl|exact zG rfl|exact fun h=>h|(simp only[zA,zB,zC,zD,bytesW];omega)) only[go_sem,c136S3,c136S4,c136L0,c136L1,c136S13,c136S14,r4]
   refine bsW_ones ty22mkI rfl rfl (by decide) (by decide) (str_one' x) ?_
   simp (disch:=first|omega|exact zF rfl|exact zG rfl|exact fun h=>h|(simp only[zA,zB,zC,zD,bytesW];omega)) only[go_sem,c136S3,c136S4,c136L0,c136L1,c136S13,c136S14]
   have hxr:Rd (w7.alloc (.cells #[.string (ofL x)] 9)) 1 (.slice (some ⟨w7.heap.size,0,none⟩) 1 1) 1 (strE x):=rd_new (n:=1) (cs:=#[.string (ofL x)]) rfl
   refine (h7.alloc' (.cells #[.string (ofL x)] 9)).append 0 rfl ty22mkI rfl (by decide) hxr (str_one' x) (by omega) (by omega) ?_
   intro v8 w8 s8 c8
   obtain ⟨v8a,v8c,rfl,_⟩:=own_slice (s8.row 0 rfl)
   have r4:=s8.rules 2 rfl
   have s9:=s8.set 2 rfl 1 (.slice v8a (ks.length+1) v8c)
   simp (disch:=first|omega|exact zF rfl|exact zG rfl|exact fun h=>h|(simp only[zA,zB,zC,zD,bytesW];omega)) only[go_sem,c136S3,c136S4,c136L0,c136L1,c136S13,c136S14,r4]
   have ec:ks.length+1=(ks++[x]).length:=by simp
   have el:ks.flatMap strE++strE x=(ks++[x]).flatMap strE:=by rw [List.flatMap_append]; simp
   rw [ec,el] at s9
   rw [ec]
   exact hQ _ _ s9
  have hkx:(ks++[x]).length=j+1:=by rw [List.length_append,hkl]; rfl
  cases lf with
  | false =>
   simp (disch:=first|omega|exact zF rfl|exact zG rfl|exact fun h=>h|(simp only[zA,zB,zC,zD,bytesW];omega)) only[go_sem,c136S4,c136L0,c136L1,c136S14,r4]
   refine fin3 _ _ _ _ r h6 fun w8 kv s8=>?_
   simp (disch:=first|omega|exact zF rfl|exact zG rfl|exact fun h=>h|(simp only[zA,zB,zC,zD,bytesW];omega)) only[go_sem,c136S3,c136S4,c136L0,c136L1,c136S14]
   exact ⟨⟨by omega,by omega⟩,(j+1,r,ks++[x],vl,kv,_),rfl,⟨by simp only; omega,by simp only; omega,hkx,by simp only; omega,by simp only; rw [show b.toNat - (j+1)=m by omega],s8⟩,by simp only; omega⟩
  | true =>
   simp (disch:=first|omega|exact zF rfl|exact zG rfl|exact fun h=>h|(simp only[zA,zB,zC,zD,bytesW];omega)) only[go_sem,c136S4,c136L0,c136L1,c136S14,r4]
   refine Ret.mono (text_ok r w6 (by omega)) ?_
   rintro _ w7 ⟨rfl,b7⟩
   have h7:=h6.call b7
   have r4:=h7.rules 2 rfl
   have r2:=h7.rules 3 rfl
   cases ht2:textP r with
   | none =>
    simp (disch:=first|omega|exact zF rfl|exact zG rfl|exact fun h=>h|(simp only[zA,zB,zC,zD,bytesW];omega)) only[go_sem,c136S3,c136S4,c136L0,c136L1,c136S14,r2]
    refine bdW_built (cells:=ndZ) (by kernel_rfl) ?_
    simp (disch:=first|omega|exact zF rfl|exact zG rfl|exact fun h=>h|(simp only[zA,zB,zC,zD,bytesW];omega)) only[go_sem,c136S3,c136S4,c136L0,c136L1,c136S14,r2]
    exact ⟨rfl,bad h7⟩
   | some y =>
    obtain ⟨v,r'⟩:=y
    have hrl2:=(textP_le ht2).1
    simp (disch:=first|omega|exact zF rfl|exact zG rfl|exact fun h=>h|(simp only[zA,zB,zC,zD,bytesW];omega)) only[go_sem,c136S4,c136L0,c136L1,c136S14,r4]
    refine bsW_ones ty22mkI rfl rfl (by decide) (by decide) (str_one' v) ?_
    simp (disch:=first|omega|exact zF rfl|exact zG rfl|exact fun h=>h|(simp only[zA,zB,zC,zD,bytesW];omega)) only[go_sem,c136S4,c136L0,c136L1,c136S14]
    have hxr:Rd (w7.alloc (.cells #[.string (ofL v)] 9)) 1 (.slice (some ⟨w7.heap.size,0,none⟩) 1 1) 1 (strE v):=rd_new (n:=1) (cs:=#[.string (ofL v)]) rfl
    refine (h7.alloc' (.cells #[.string (ofL v)] 9)).append 1 rfl ty22mkI rfl (by decide) hxr (str_one' v) (by omega) (by omega) ?_
    intro v8 w8 s8 c8
    obtain ⟨v8a,v8c,rfl,_⟩:=own_slice (s8.row 1 rfl)
    have r4:=s8.rules 2 rfl
    have s9:=s8.set 2 rfl 2 (.slice v8a (vl.length+1) v8c)
    simp (disch:=first|omega|exact zF rfl|exact zG rfl|exact fun h=>h|(simp only[zA,zB,zC,zD,bytesW];omega)) only[go_sem,c136S4,c136L0,c136L1,c136S14,r4]
    have ec:vl.length+1=(vl++[v]).length:=by simp
    have el:vl.flatMap strE++strE v=(vl++[v]).flatMap strE:=by rw [List.flatMap_append]; simp
    rw [ec,el] at s9
    rw [ec]
    refine fin3 _ _ _ _ r' s9 fun w8 kv s8=>?_
    simp (disch:=first|omega|exact zF rfl|exact zG rfl|exact fun h=>h|(simp only[zA,zB,zC,zD,bytesW];omega)) only[go_sem,c136S3,c136S4,c136L0,c136L1,c136S14]
    exact ⟨⟨by omega,by omega⟩,(j+1,r',ks++[x],vl++[v],kv,_),rfl,⟨by simp only; omega,by simp only; omega,hkx,by simp only [List.length_append,List.length_singleton]; omega,by simp only; rw [show b.toNat - (j+1)=m by omega],s8⟩,by simp only; omega⟩
theorem parse_ok(s:List UInt8)(h:St W0 w F L I)(hs:s.length≤100000) :
  Ret Tryz.prog 136 [.string (ofL s)] w (ParsedP W0 F L I (parseP s)):=by
 have zero:∀ is vs K w,Tryz.prog.built 119 (zipP is vs)=some ndZ→K (Value.agg ndZ) w→bdW Tryz.prog 119 is vs w K:=fun is vs K w hb hK=>bdW_built hb hK
 refine ent136 _ _ _ ?_
 simp (disch:=first|omega|exact zF rfl|exact zG rfl|exact fun h=>h|(simp only[zA,zB,zC,zD,bytesW];omega)) only[go_sem,c136S3,c136S4,c136L0,c136L1,c136S13]
 have s2:=h.box ndZ 119
 obtain ⟨b2,hb2⟩:∃ b,b=w.heap.size:=⟨_,rfl⟩
 rw [← hb2] at s2 ⊢
 obtain ⟨w2,hw2⟩:∃ w2,w2=w.alloc (.cells ndZ 119):=⟨_,rfl⟩
 rw [← hw2] at s2 ⊢
 have r2:=s2.rules 0 rfl
 have bad:St W0 (w2.fill b2 ndZ) F L I:=(s2.fill 0 rfl rfl).sub (List.sublist_cons_self ..)
 match s,hs with
 | [],_ =>
  refine ⟨fun hc=>absurd hc (by simp),fun _=>?_⟩
  refine zero _ _ _ _ (by kernel_rfl) ?_
  simp (disch:=first|omega|exact zF rfl|exact zG rfl|exact fun h=>h|(simp only[zA,zB,zC,zD,bytesW];omega)) only[go_sem,c136S3,c136S4,c136L0,c136L1,c136S13,c136S14,r2]
  exact ⟨rfl,bad⟩
 | [a],_ =>
  refine ⟨fun hc=>absurd hc (by simp),fun _=>?_⟩
  refine zero _ _ _ _ (by kernel_rfl) ?_
  simp (disch:=first|omega|exact zF rfl|exact zG rfl|exact fun h=>h|(simp only[zA,zB,zC,zD,bytesW];omega)) only[go_sem,c136S3,c136S4,c136L0,c136L1,c136S13,c136S14,r2]
  exact ⟨rfl,bad⟩
 | a::b::s,hs =>
  rw [List.length_cons,List.length_cons] at hs
  have e0:bN (a::b::s) 0=a.toNat:=rfl
  have key:=fun ha=>parse14_ok (a:=a) (b:=b) (s:=s) s2 ha (by omega)
  rw [e0]
  have n1:(a.toNat:Int)=1↔a=1:=by
   constructor
   ·intro hc; exact UInt8.toNat_inj.1 (by show a.toNat=1; omega)
   ·rintro rfl; rfl
  have n2:(a.toNat:Int)=2↔a=2:=by
   constructor
   ·intro hc; exact UInt8.toNat_inj.1 (by show a.toNat=2; omega)
   ·rintro rfl; rfl
  have hl:(0:Int)<((a::b::s).length:Nat):=by rw [List.length_cons]; omega
  refine ⟨fun _=>⟨hl,fun h1=>⟨hl,fun h2=>?_,fun h2=>key (.inr (n2.1 h2))⟩,fun h1=>key (.inl (n1.1 h1))⟩,fun hc=>by rw [List.length_cons,List.length_cons] at hc; omega⟩
  refine zero _ _ _ _ (by kernel_rfl) ?_
  simp (disch:=first|omega|exact zF rfl|exact zG rfl|exact fun h=>h|(simp only[zA,zB,zC,zD,bytesW];omega)) only[go_sem,c136S3,c136S4,c136L0,c136L1,c136S13,c136S14,r2]
  have ep:parseP (a::b::s)=none:=by rw [parseP,if_pos ⟨fun hc=>h1 (n1.2 hc),fun hc=>h2 (n2.2 hc)⟩]
  rw [ep]
  exact ⟨rfl,bad⟩
end
open Go Go.Ann Go.RowKit Go.WideShapes
abbrev Txt:=List UInt8
abbrev Rec:=List UInt8 × List UInt8
def bsGo(l:List Txt)(key:Txt):Nat→Nat→Nat→Nat
 | 0,i,_=>i
 | f+1,i,j=>if i<j then (if Op.bytesLess (l.getD ((i+j) / 2) []) key=true then bsGo l key f ((i+j) / 2+1) j else bsGo l key f i ((i+j) / 2)) else i
def bsP(l:List Txt)(key:Txt):Nat:=bsGo l key l.length 0 l.length
theorem bsGo_fuel(l:List Txt)(key:Txt):∀ f g i j,j - i≤f→j - i≤g→bsGo l key f i j=bsGo l key g i j
 | 0,0,_,_,_,_=>rfl
 | 0,g+1,i,j,h,_=>by rw [bsGo,bsGo,if_neg (by omega)]
 | f+1,0,i,j,_,h=>by rw [bsGo,bsGo,if_neg (by omega)]
 | f+1,g+1,i,j,h1,h2=>by
  rw [bsGo,bsGo]
  split
  ·split
   ·exact bsGo_fuel l key f g _ _ (by omega) (by omega)
   ·exact bsGo_fuel l key f g _ _ (by omega) (by omega)
  ·rfl
theorem bsGo_spec(l:List Txt)(key:Txt):∀ f i j,j - i≤f→i≤j→j≤l.length→(∀ x,0<i→l[i - 1]?=some x→Op.bytesLess x key=true)→(∀ x,l[j]?=some x→Op.bytesLess x key=false) →
  bsGo l key f i j≤l.length∧(∀ x,0<bsGo l key f i j→l[bsGo l key f i j - 1]?=some x→Op.bytesLess x key=true)∧(∀ x,l[bsGo l key f i j]?=some x→Op.bytesLess x key=false)
 | 0,i,j,hf,hij,hj,h1,h2=>by
  obtain rfl:i=j:=by omega
  exact ⟨hj,h1,h2⟩
 | f+1,i,j,hf,hij,hj,h1,h2=>by
  rw [bsGo]
  split
  ·have hm:(i+j) / 2<l.length:=by omega
   have e:l.getD ((i+j) / 2) []=l[(i+j) / 2]:=by rw [List.getD_eq_getElem?_getD,List.getElem?_eq_getElem hm]; rfl
   split
   ·rename_i hb
    refine bsGo_spec l key f _ _ (by omega) (by omega) hj (fun x _ hx=>?_) h2
    rw [Nat.add_sub_cancel,List.getElem?_eq_getElem hm] at hx
    cases hx
    rw [← e]; exact hb
   ·rename_i hb
    refine bsGo_spec l key f _ _ (by omega) (by omega) (by omega) h1 fun x hx=>?_
    rw [List.getElem?_eq_getElem hm] at hx
    cases hx
    rw [← e]; exact Bool.eq_false_iff.2 hb
  ·obtain rfl:i=j:=by omega
   exact ⟨hj,h1,h2⟩
theorem bsP_spec(l:List Txt)(key:Txt):bsP l key≤l.length∧(∀ x,0<bsP l key→l[bsP l key - 1]?=some x→Op.bytesLess x key=true)∧(∀ x,l[bsP l key]?=some x→Op.bytesLess x key=false) :=
 bsGo_spec l key _ _ _ (by omega) (by omega) (by omega) (fun x h _=>absurd h (Nat.lt_irrefl 0)) fun x hx=>by simp at hx
def ndP(P:List Txt)(a:Nat):Option Nd:=if chkN P a=0 then parseP (P.getD a []) else none
def downP(n:Nd)(key:Txt):Nat:=if n.keys[bsP n.keys key]?=some key then bsP n.keys key+1 else bsP n.keys key
theorem downP_le(n:Nd)(key:Txt):downP n key≤n.keys.length:=by
 have h:=(bsP_spec n.keys key).1
 unfold downP
 split
 ·rename_i hh
  have:=(List.getElem?_eq_some_iff.1 hh).1
  omega
 ·exact h
structure NdForm(n:Nd):Prop where
 few:n.keys.length≤255
 key:∀ x∈n.keys,x.length≤255
 val:∀ x∈n.vals,x.length≤255
 kid:∀ x∈n.kids,x≤65535
 lf:n.leaf=true→n.vals.length=n.keys.length∧n.kids=[]
 nl:n.leaf=false→n.vals=[]∧n.kids.length=n.keys.length+1
theorem ents_form(leaf:Bool):∀ (k:Nat) (s:Txt) (ks vs:List Txt) (ks' vs':List Txt) (r:Txt),entsP leaf k s ks vs=some (ks',vs',r)→(∀ x∈ks,x.length≤255)→(∀ x∈vs,x.length≤255) →
  ks'.length=ks.length+k∧vs'.length=vs.length+(if leaf=true then k else 0)∧(∀ x∈ks',x.length≤255)∧(∀ x∈vs',x.length≤255)
 | 0,s,ks,vs,ks',vs',r,h,h1,h2=>by
  simp only [entsP,Option.some.injEq,Prod.mk.injEq] at h
  obtain ⟨rfl,rfl,rfl⟩:=h
  refine ⟨rfl,?_,h1,h2⟩
  split <;> rfl
 | k+1,s,ks,vs,ks',vs',r,h,h1,h2=>by
  rw [entsP] at h
  cases ht:textP s with
  | none=>rw [ht] at h; cases h
  | some x =>
   obtain ⟨x,rr⟩:=x
   rw [ht] at h
   have hx:=(textP_le ht).2
   have h1':∀ y∈ks++[x],y.length≤255:=fun y hy=>by
    rcases List.mem_append.1 hy with hy | hy
    ·exact h1 y hy
    ·rw [List.mem_singleton] at hy; subst hy; exact hx
   cases leaf with
   | true =>
    simp only [if_true] at h
    cases hv:textP rr with
    | none=>rw [hv] at h; cases h
    | some v =>
     obtain ⟨v,r2⟩:=v
     rw [hv] at h
     have hvl:=(textP_le hv).2
     obtain ⟨g1,g2,g3,g4⟩:=ents_form true k r2 _ _ _ _ _ h h1' fun y hy=>by
      rcases List.mem_append.1 hy with hy | hy
      ·exact h2 y hy
      ·rw [List.mem_singleton] at hy; subst hy; exact hvl
     rw [List.length_append,List.length_singleton] at g1 g2
     simp only [if_true] at g2 ⊢
     exact ⟨by omega,by omega,g3,g4⟩
   | false =>
    simp only [Bool.false_eq_true,if_false] at h
    obtain ⟨g1,g2,g3,g4⟩:=ents_form false k rr _ _ _ _ _ h h1' h2
    rw [List.length_append,List.length_singleton] at g1
    simp only [Bool.false_eq_true,if_false] at g2 ⊢
    exact ⟨by omega,by omega,g3,g4⟩
theorem kids_form:∀ (k:Nat) (s:Txt) (cs cs':List Nat),kidsP k s cs=some cs'→(∀ x∈cs,x≤65535)→cs'.length=cs.length+k∧∀ x∈cs',x≤65535
 | 0,s,cs,cs',h,h1=>by
  simp only [kidsP,Option.some.injEq] at h
  subst h
  exact ⟨rfl,h1⟩
 | k+1,[],cs,cs',h,h1=>by simp [kidsP] at h
 | k+1,[_],cs,cs',h,h1=>by simp [kidsP] at h
 | k+1,a::b::s,cs,cs',h,h1=>by
  rw [kidsP] at h
  have ha:a.toNat<256:=a.toNat_lt
  have hb:b.toNat<256:=b.toNat_lt
  obtain ⟨g1,g2⟩:=kids_form k s _ _ h fun y hy=>by
   rcases List.mem_append.1 hy with hy | hy
   ·exact h1 y hy
   ·rw [List.mem_singleton] at hy; subst hy; omega
  rw [List.length_append,List.length_singleton] at g1
  exact ⟨by omega,g2⟩
theorem parse_form{s:Txt}{n:Nd}(h:parseP s=some n):NdForm n:=by
 match s with
 | []=>cases h
 | [_]=>cases h
 | a::b::s =>
  rw [parseP] at h
  split at h
  ·cases h
  cases he:entsP (decide (a=1)) b.toNat s [] [] with
  | none=>rw [he] at h; cases h
  | some x =>
   obtain ⟨ks,vs,r⟩:=x
   rw [he] at h
   obtain ⟨g1,g2,g3,g4⟩:=ents_form _ _ _ _ _ _ _ _ he (fun _ h=>by cases h) (fun _ h=>by cases h)
   have hb:b.toNat<256:=b.toNat_lt
   simp only [List.length_nil,Nat.zero_add] at g1 g2
   simp only at h
   by_cases ha:a=1
   ·rw [if_pos ha,Option.some.injEq] at h
    subst h
    rw [decide_eq_true ha] at g2
    exact ⟨by simp only; omega,g3,g4,(fun _ h=>by cases h),(fun _=>⟨by simp only at g2 ⊢; rw [g2,g1]; rfl,rfl⟩),(fun h=>by cases h)⟩
   ·rw [if_neg ha] at h
    rw [decide_eq_false ha] at g2
    cases hk:kidsP (b.toNat+1) r [] with
    | none=>rw [hk] at h; cases h
    | some cs =>
     rw [hk,Option.some.injEq] at h
     subst h
     obtain ⟨k1,k2⟩:=kids_form _ _ _ _ hk (fun _ h=>by cases h)
     rw [List.length_nil,Nat.zero_add] at k1
     exact ⟨by simp only; omega,g3,g4,k2,(fun h=>by cases h),fun _=>⟨List.eq_nil_of_length_eq_zero (by rw [g2]; rfl),by simp only; omega⟩⟩
theorem ndP_form{P:List Txt}{a:Nat}{n:Nd}(h:ndP P a=some n):NdForm n∧chkN P a=0:=by
 unfold ndP at h
 split at h
 ·rename_i hc; exact ⟨parse_form h,hc⟩
 ·cases h
def recsGo{σ:Type}(f:σ→Rec→Bool × σ)(key:Txt):List Rec→σ→Bool × σ
 | [],s=>(true,s)
 | x::r,s=>if Op.bytesLess x.1 key=true then recsGo f key r s else if (f s x).1=true then recsGo f key r (f s x).2 else (false,(f s x).2)
def kidsGo{σ:Type}(g:Nat→Nat→σ→Bool × Nat × σ):List Nat→Nat→σ→Bool × Nat × σ
 | [],left,s=>(true,left,s)
 | k::ks,left,s=>if (g k left s).1=true then kidsGo g ks (g k left s).2.1 (g k left s).2.2 else (false,0,(g k left s).2.2)
def walkP{σ:Type}(P:List Txt)(f:σ→Rec→Bool × σ)(key:Txt):Nat→Nat→Nat→σ→Bool × Nat × σ
 | 0,_,_,s=>(false,0,s)
 | d+1,at',left,s=>match ndP P at' with
  | none=>(false,0,s)
  | some n=>if left=0 then (false,0,s) else if n.leaf=true then ((recsGo f key (n.keys.zip n.vals) s).1,left - 1,(recsGo f key (n.keys.zip n.vals) s).2) else kidsGo (walkP P f key d) (n.kids.drop (downP n key)) (left - 1) s
def getP(P:List Txt)(key:Txt):Nat→Nat→Option Txt
 | 0,_=>none
 | f+1,at'=>match ndP P at' with
  | none=>none
  | some n=>if n.leaf=true then (if n.keys[bsP n.keys key]?=some key then n.vals[bsP n.keys key]? else none) else getP P key f (n.kids.getD (downP n key) 0)
structure Vis where
 pages:List Nat
 depth:Nat
 last:Txt
 any:Bool
 bad:Bool
def Vis.spoil(v:Vis)(b:Bool):Vis:={ v with bad:=v.bad || b }
def keyBad(keys:List Txt)(low high:Txt)(bound:Bool)(i:Nat):Bool :=
 Op.bytesLess (keys.getD i []) low || (bound && !Op.bytesLess (keys.getD i []) high) || (decide (0<i) && !Op.bytesLess (keys.getD (i - 1) []) (keys.getD i [])) || decide (32<(keys.getD i []).length)
def leafGo:List Rec→Vis→Vis
 | [],v=>v
 | x::r,v=>leafGo r { v with bad:=v.bad || ((v.any && !Op.bytesLess v.last x.1) || decide (x.1=[]) || decide (80<x.2.length)),last:=x.1,any:=true }
def leafV(n:Nd)(deep:Nat)(v:Vis):Vis :=
 leafGo (n.keys.zip n.vals) (({ v with depth:=if v.depth=0 then deep else v.depth }:Vis).spoil (decide ((if v.depth=0 then deep else v.depth)≠deep)))
def kidsV(g:Nat→Txt→Txt→Bool→Vis→Vis)(keys:List Txt)(low high:Txt)(bound:Bool):Nat→List Nat→Vis→Vis
 | _,[],v=>v
 | i,k::ks,v=>kidsV g keys low high bound (i+1) ks (g k (if i=0 then low else keys.getD (i - 1) []) (if i<keys.length then keys.getD i [] else high) (decide (i<keys.length) || bound) v)
def visitP(P:List Txt):Nat→Nat→Txt→Txt→Bool→Vis→Vis
 | 0,_,_,_,_,v=>v.spoil true
 | g+1,at',low,high,bound,v=>if at'∈v.pages then v.spoil true else match ndP P at' with
  | none=>({ v with pages:=v.pages++[at'] }:Vis).spoil true
  | some n=>if n.leaf=true then leafV n (32 - g) (({ v with pages:=v.pages++[at'] }:Vis).spoil ((List.range n.keys.length).any (keyBad n.keys low high bound)))
   else kidsV (visitP P g) n.keys low high bound 0 n.kids (({ v with pages:=v.pages++[at'] }:Vis).spoil ((List.range n.keys.length).any (keyBad n.keys low high bound)))
open Go Go.Ann Go.RowKit Go.WideShapes
theorem cnan_ok(x:List UInt8)(w:World):Ret Tryz.prog 173 [.string (ofL x)] w fun u w'=>u=.bool false∧w'=w:=by
 refine ent173 _ _ _ ?_
 simp (disch:=first|omega|exact zF rfl|exact zG rfl|exact fun h=>h|(simp only[zA,zB,zC,zD,bytesW];omega)) only[go_sem]
theorem snan_ok(x:List UInt8)(w:World):Ret Tryz.prog 138 [.string (ofL x)] w fun u w'=>u=.bool false∧w'=w:=by
 refine ent138 _ _ _ ?_
 simp (disch:=first|omega|exact zF rfl|exact zG rfl|exact fun h=>h|(simp only[zA,zB,zC,zD,bytesW];omega)) only[go_sem]
theorem less_ok(x y:List UInt8)(w:World):Ret Tryz.prog 137 [.string (ofL x),.string (ofL y)] w fun u w'=>u=.bool (Op.bytesLess x y)∧w'=w:=by
 refine ent137 _ _ _ _ ?_
 simp (disch:=first|omega|exact zF rfl|exact zG rfl|exact fun h=>h|(simp only[zA,zB,zC,zD,bytesW];omega)) only[go_sem]
 refine Ret.mono (cnan_ok x w) ?_
 rintro _ _ ⟨rfl,rfl⟩
 simp (disch:=first|omega|exact zF rfl|exact zG rfl|exact fun h=>h|(simp only[zA,zB,zC,zD,bytesW];omega)) only[go_sem]
theorem bsearch_ok{v:Value}{l:List (List UInt8)}(key:List UInt8)(w:World)(h:RdS w 1 strE v l)(hl:l.length≤100000) :
  Ret Tryz.prog 77 [v,.string (ofL key)] w fun u w'=>∃ i:Nat,u=.tuple #[.int .i64 i,.bool (decide (l[i]?=some key))]∧i≤l.length∧(∀ x,0<i→l[i - 1]?=some x→Op.bytesLess x key=true)∧(∀ x,l[i]?=some x→Op.bytesLess x key=false)∧Below w.heap.size w w':=by
 obtain ⟨a,c,rfl,_⟩:=h.form
 refine ent77 _ _ _ _ ?_
 simp (disch:=first|omega|exact zF rfl|exact zG rfl|exact fun h=>h|(simp only[zA,zB,zC,zD,bytesW];omega)) only[go_sem]
 refine W_loopU (fun q:Nat × Nat=>[(7,.int .i64 q.1),(8,.int .i64 q.2)]) (fun q w'=>q.1≤q.2∧q.2≤l.length∧(∀ x,0<q.1→l[q.1 - 1]?=some x→Op.bytesLess x key=true)∧(∀ x,l[q.2]?=some x→Op.bytesLess x key=false)∧Below w.heap.size w w') (fun q=>q.2 - q.1) (0,l.length) rfl ⟨Nat.zero_le _,Nat.le_refl _,fun x hx _=>absurd hx (Nat.lt_irrefl 0),fun x hx=>(by simp at hx),Below.refl _ _⟩ ?_
 rintro ⟨i,j⟩ w2 ⟨hij,hj,hlo,hhi,b2⟩
 simp only at hij hj hlo hhi
 have h2:=h.below b2 (by decide)
 by_cases hlt:i<j
 case pos =>
  have hlt':(i:Int)<j:=by omega
  obtain ⟨p,rfl⟩:=h.ptr (by omega)
  obtain ⟨m,hm⟩:∃ m,m=(i+j) / 2:=⟨_,rfl⟩
  have hml:m<l.length:=by omega
  have em:=RdS.at1 (e1:=fun r=>.string (ofL r)) h2 hml
  have emid:IntKind.u64.wrap ((i:Int)+(j:Int)) / 2 ^ min 1 64=(m:Int):=by
   have e1:IntKind.u64.wrap ((i:Int)+(j:Int))=((i+j:Nat):Int):=by
    have:((i:Int)+(j:Int))=((i+j:Nat):Int):=by omega
    rw [this,wrap_u64_id _ (by omega) (by omega)]
   rw [e1,hm]
   show (((i+j:Nat):Int)) / 2=_
   omega
  have hml':(m:Int)<l.length:=by omega
  simp (disch:=first|omega|exact zF rfl|exact zG rfl|exact fun h=>h|(simp only[zA,zB,zC,zD,bytesW];omega)) only[go_sem,c77L0,c77L0,hlt',emid,em,hml']
  refine ⟨⟨by omega,by omega⟩,⟨by omega,by omega⟩,by omega,Ret.mono (less_ok l[m] key w2) ?_⟩
  rintro _ w3 ⟨rfl,rfl⟩
  cases hb:Op.bytesLess l[m] key with
  | true =>
   simp (disch:=first|omega|exact zF rfl|exact zG rfl|exact fun h=>h|(simp only[zA,zB,zC,zD,bytesW];omega)) only[go_sem,c77L0]
   refine ⟨⟨by omega,by omega⟩,(m+1,j),rfl,⟨by simp only; omega,hj,fun x _ hx=>?_,hhi,b2⟩,by simp only; omega⟩
   rw [Nat.add_sub_cancel,List.getElem?_eq_getElem hml] at hx
   cases hx
   exact hb
  | false =>
   simp (disch:=first|omega|exact zF rfl|exact zG rfl|exact fun h=>h|(simp only[zA,zB,zC,zD,bytesW];omega)) only[go_sem,c77L0]
   refine ⟨(i,m),rfl,⟨by simp only; omega,by simp only; omega,hlo,fun x hx=>?_,b2⟩,by simp only; omega⟩
   rw [List.getElem?_eq_getElem hml] at hx
   cases hx
   exact hb
 case neg =>
  have hlt':¬ (i:Int)<j:=by omega
  obtain rfl:i=j:=by omega
  simp (disch:=first|omega|exact zF rfl|exact zG rfl|exact fun h=>h|(simp only[zA,zB,zC,zD,bytesW];omega)) only[go_sem,c77L0,c77L0,hlt']
  by_cases hil:i<l.length
  case neg =>
   have hil':¬ (i:Int)<l.length:=by omega
   obtain rfl:i=l.length:=by omega
   simp (disch:=first|omega|exact zF rfl|exact zG rfl|exact fun h=>h|(simp only[zA,zB,zC,zD,bytesW];omega)) only[go_sem,c77L0,c77S3,hil']
   exact ⟨l.length,by simp,hj,hlo,hhi,b2⟩
  have hil':(i:Int)<l.length:=by omega
  obtain ⟨p,rfl⟩:=h.ptr (by omega)
  have em:=RdS.at1 (e1:=fun r=>.string (ofL r)) h2 hil
  by_cases hk:l[i]=key
  ·simp (disch:=first|omega|exact zF rfl|exact zG rfl|exact fun h=>h|(simp only[zA,zB,zC,zD,bytesW];omega)) only[go_sem,c77L0,c77S3,hil',em,hk]
   exact ⟨by omega,i,by rw [List.getElem?_eq_getElem hil,hk]; simp,hj,hlo,hhi,b2⟩
  ·simp (disch:=first|omega|exact zF rfl|exact zG rfl|exact fun h=>h|(simp only[zA,zB,zC,zD,bytesW];omega)) only[go_sem,c77L0,c77S3,hil',em,hk]
   refine ⟨by omega,by omega,Ret.mono (snan_ok l[i] w2) ?_⟩
   rintro _ _ ⟨rfl,rfl⟩
   simp (disch:=first|omega|exact zF rfl|exact zG rfl|exact fun h=>h|(simp only[zA,zB,zC,zD,bytesW];omega)) only[go_sem,c77L0,c77S3]
   exact ⟨i,by rw [List.getElem?_eq_getElem hil]; simp [hk],hj,hlo,hhi,b2⟩
open Go Go.Ann Go.RowKit Go.WideShapes
theorem gbsearch_ok{v:Value}{l:List (List UInt8)}(key:List UInt8)(w:World)(h:RdS w 1 strE v l)(hl:l.length≤100000) :
  Ret Tryz.prog 77 [v,.string (ofL key)] w fun u w'=>u=.tuple #[.int .i64 (bsP l key:Nat),.bool (decide (l[bsP l key]?=some key))]∧Below w.heap.size w w':=by
 obtain ⟨a,c,rfl,_⟩:=h.form
 refine ent77 _ _ _ _ ?_
 simp (disch:=first|omega|exact zF rfl|exact zG rfl|exact fun h=>h|(simp only[zA,zB,zC,zD,bytesW];omega)) only[go_sem]
 refine W_loopU (fun q:Nat × Nat=>[(7,.int .i64 q.1),(8,.int .i64 q.2)]) (fun q w'=>q.1≤q.2∧q.2≤l.length∧bsGo l key (q.2 - q.1) q.1 q.2=bsP l key∧Below w.heap.size w w') (fun q=>q.2 - q.1) (0,l.length) rfl ⟨Nat.zero_le _,Nat.le_refl _,rfl,Below.refl _ _⟩ ?_
 rintro ⟨i,j⟩ w2 ⟨hij,hj,hgo,b2⟩
 simp only at hij hj hgo
 have h2:=h.below b2 (by decide)
 by_cases hlt:i<j
 case pos =>
  have hlt':(i:Int)<j:=by omega
  obtain ⟨p,rfl⟩:=h.ptr (by omega)
  obtain ⟨m,hm⟩:∃ m,m=(i+j) / 2:=⟨_,rfl⟩
  have hml:m<l.length:=by omega
  have em:=RdS.at1 (e1:=fun r=>.string (ofL r)) h2 hml
  have emid:IntKind.u64.wrap ((i:Int)+(j:Int)) / 2 ^ min 1 64=(m:Int):=by
   have e1:IntKind.u64.wrap ((i:Int)+(j:Int))=((i+j:Nat):Int):=by
    have:((i:Int)+(j:Int))=((i+j:Nat):Int):=by omega
    rw [this,wrap_u64_id _ (by omega) (by omega)]
   rw [e1,hm]
   show (((i+j:Nat):Int)) / 2=_
   omega
  have hml':(m:Int)<l.length:=by omega
  obtain ⟨f,hf⟩:∃ f,j - i=f+1:=⟨j - i - 1,by omega⟩
  rw [hf,bsGo,if_pos hlt,← hm] at hgo
  have eg:l.getD m []=l[m]:=by rw [List.getD_eq_getElem?_getD,List.getElem?_eq_getElem hml]; rfl
  rw [eg] at hgo
  simp (disch:=first|omega|exact zF rfl|exact zG rfl|exact fun h=>h|(simp only[zA,zB,zC,zD,bytesW];omega)) only[go_sem,c77L0,c77L0,hlt',emid,em,hml']
  refine ⟨⟨by omega,by omega⟩,⟨by omega,by omega⟩,by omega,Ret.mono (less_ok l[m] key w2) ?_⟩
  rintro _ w3 ⟨rfl,rfl⟩
  cases hb:Op.bytesLess l[m] key with
  | true =>
   rw [if_pos hb] at hgo
   simp (disch:=first|omega|exact zF rfl|exact zG rfl|exact fun h=>h|(simp only[zA,zB,zC,zD,bytesW];omega)) only[go_sem,c77L0]
   refine ⟨⟨by omega,by omega⟩,(m+1,j),rfl,⟨by simp only; omega,hj,?_,b2⟩,by simp only; omega⟩
   rw [← hgo]
   exact bsGo_fuel l key _ _ _ _ (by simp only; omega) (by omega)
  | false =>
   rw [if_neg (by rw [hb]; decide)] at hgo
   simp (disch:=first|omega|exact zF rfl|exact zG rfl|exact fun h=>h|(simp only[zA,zB,zC,zD,bytesW];omega)) only[go_sem,c77L0]
   refine ⟨(i,m),rfl,⟨by simp only; omega,by simp only; omega,?_,b2⟩,by simp only; omega⟩
   rw [← hgo]
   exact bsGo_fuel l key _ _ _ _ (by simp only; omega) (by omega)
 case neg =>
  have hlt':¬ (i:Int)<j:=by omega
  obtain rfl:i=j:=by omega
  rw [Nat.sub_self,bsGo] at hgo
  rw [← hgo]
  simp (disch:=first|omega|exact zF rfl|exact zG rfl|exact fun h=>h|(simp only[zA,zB,zC,zD,bytesW];omega)) only[go_sem,c77L0,c77L0,hlt']
  by_cases hil:i<l.length
  case neg =>
   have hil':¬ (i:Int)<l.length:=by omega
   obtain rfl:i=l.length:=by omega
   simp (disch:=first|omega|exact zF rfl|exact zG rfl|exact fun h=>h|(simp only[zA,zB,zC,zD,bytesW];omega)) only[go_sem,c77L0,c77S3,hil']
   simp
   exact b2
  have hil':(i:Int)<l.length:=by omega
  obtain ⟨p,rfl⟩:=h.ptr (by omega)
  have em:=RdS.at1 (e1:=fun r=>.string (ofL r)) h2 hil
  by_cases hk:l[i]=key
  ·simp (disch:=first|omega|exact zF rfl|exact zG rfl|exact fun h=>h|(simp only[zA,zB,zC,zD,bytesW];omega)) only[go_sem,c77L0,c77S3,hil',em,hk]
   refine ⟨by omega,?_,b2⟩
   rw [List.getElem?_eq_getElem hil,hk]; simp
  ·simp (disch:=first|omega|exact zF rfl|exact zG rfl|exact fun h=>h|(simp only[zA,zB,zC,zD,bytesW];omega)) only[go_sem,c77L0,c77S3,hil',em,hk]
   refine ⟨by omega,by omega,Ret.mono (snan_ok l[i] w2) ?_⟩
   rintro _ _ ⟨rfl,rfl⟩
   simp (disch:=first|omega|exact zF rfl|exact zG rfl|exact fun h=>h|(simp only[zA,zB,zC,zD,bytesW];omega)) only[go_sem,c77L0,c77S3]
   refine ⟨?_,b2⟩
   rw [List.getElem?_eq_getElem hil]; simp [hk]
theorem down_ok{kv vv cv:Value}{n:Nd}(key:List UInt8)(w:World)(h:RdS w 1 strE kv n.keys)(hl:n.keys.length≤100000) :
  Ret Tryz.prog 76 [.agg #[.bool n.leaf,kv,vv,cv],.string (ofL key)] w fun u w'=>u=.int .i64 (downP n key:Nat)∧Below w.heap.size w w':=by
 obtain ⟨a,c,rfl,_⟩:=h.form
 have b1:=(Below.refl _ w).alloc (Nat.le_refl _) (.cells #[.bool n.leaf,.slice a n.keys.length c,vv,cv] 119)
 refine ent76 _ _ _ _ ?_
 simp (disch:=first|omega|exact zF rfl|exact zG rfl|exact fun h=>h|(simp only[zA,zB,zC,zD,bytesW];omega)) only[go_sem]
 generalize w.alloc (.cells #[.bool n.leaf,.slice a n.keys.length c,vv,cv] 119)=w1 at b1 ⊢
 refine Ret.mono (gbsearch_ok key w1 (h.below b1 (by decide)) hl) ?_
 rintro _ w2 ⟨rfl,b2⟩
 have b3:Below w.heap.size w w2:=Below.next b1 b2
 have hle:=(bsP_spec n.keys key).1
 unfold downP
 generalize bsP n.keys key=b at hle ⊢
 by_cases hk:n.keys[b]?=some key
 ·rw [decide_eq_true hk,if_pos hk]
  simp (disch:=first|omega|exact zF rfl|exact zG rfl|exact fun h=>h|(simp only[zA,zB,zC,zD,bytesW];omega)) only[go_sem]
  exact ⟨⟨by omega,by omega⟩,b3⟩
 ·rw [decide_eq_false hk,if_neg hk]
  simp (disch:=first|omega|exact zF rfl|exact zG rfl|exact fun h=>h|(simp only[zA,zB,zC,zD,bytesW];omega)) only[go_sem]
  exact b3
section
variable {W0 w:World} {F:Nat→Prop} {L:List Res} {I:List Inv} {e:En} {P:List (List UInt8)} {tb:Nat} {i:Int}
abbrev ndR(nd:Nd)(kv vv cv:Value):List Res:=[.row kv 9 1 nd.keys.length (nd.keys.flatMap strE),.row vv 9 1 nd.vals.length (nd.vals.flatMap strE),.row cv 3 1 nd.kids.length (nd.kids.flatMap natE)]
def LoadedP(e:En)(P:List (List UInt8))(W0:World)(F:Nat→Prop)(L:List Res)(I:List Inv)(x:Option Nd)(u:Value)(w':World):Prop:=match x with
 | none=>∃ er:Int,er≠0∧u=.tuple #[.agg ndZ,.int .i64 er]∧Pgr e P W0 w' F L I
 | some nd=>∃ kv vv cv,u=.tuple #[.agg #[.bool nd.leaf,kv,vv,cv],.int .i64 0]∧Pgr e P W0 w' F (ndR nd kv vv cv++L) I
theorem Pgr.plen(h:Pgr e P W0 w F L I)(a:Nat):(P.getD a []).length≤256:=by
 rw [List.getD_eq_getElem?_getD]
 cases hp:P[a]? with
 | none=>exact Nat.zero_le _
 | some x=>rw [Option.getD_some,h.full x (List.mem_of_getElem? hp)]; exact Nat.le_refl _
theorem gload_ok{a:Nat}(h:Pgr e P W0 w F (trB tb e i::L) I)(h3:3≤P.length)(ha:a≤4294967296) :
  Ret Tryz.prog 75 [.pointer (some ⟨tb,0,none⟩),.int .i64 a] w (LoadedP e P W0 F (trB tb e i::L) I (ndP P a)):=by
 have h2:=h.box #[.bool false,.slice none 0 0,.slice none 0 0,.slice none 0 0] 119
 have hpl:=h.plen a
 refine ent75 _ _ _ _ ?_
 simp (disch:=first|omega|exact zF rfl|exact zG rfl|exact fun h=>h|(simp only[zA,zB,zC,zD,bytesW];omega)) only[go_sem,c75S1]
 generalize w.heap.size=b at h2 ⊢
 generalize w.alloc (.cells #[.bool false,.slice none 0 0,.slice none 0 0,.slice none 0 0] 119)=w2 at h2 ⊢
 have r:=h2.rules 1 rfl
 simp (disch:=first|omega|exact zF rfl|exact zG rfl|exact fun h=>h|(simp only[zA,zB,zC,zD,bytesW];omega)) only[go_sem,c75S1,r]
 refine Ret.mono (pget_ok (a:Nat) h2 h3 ⟨by omega,by omega⟩) ?_
 unfold ndP
 by_cases hok:chkN P (a:Nat)=0
 ·have eg:getN P (a:Nat)=(P.getD a [],0):=by
   unfold getN
   rw [if_neg (by rw [hok]; exact fun h=>h rfl)]; rfl
  rw [eg,if_pos hok]
  rintro _ w3 ⟨rfl,h3'⟩
  simp (disch:=first|omega|exact zF rfl|exact zG rfl|exact fun h=>h|(simp only[zA,zB,zC,zD,bytesW];omega)) only[go_sem,c75S1]
  obtain ⟨A,st,back⟩:=h3'.lift
  refine Ret.mono (parse_ok (P.getD a []) st (by omega)) ?_
  cases hp:parseP (P.getD a []) with
  | none =>
   rintro _ w4 ⟨rfl,s4⟩
   have r4:=s4.rules 0 rfl
   simp (disch:=first|omega|exact zF rfl|exact zG rfl|exact fun h=>h|(simp only[zA,zB,zC,zD,bytesW];omega)) only[go_sem,c75S1,r4]
   exact ⟨14,by decide,rfl,back _ (trB tb e i::L) _ ((s4.fill 0 rfl rfl).sub (List.sublist_cons_self ..))⟩
  | some nd =>
   rintro _ w4 ⟨kv,vv,cv,rfl,s4⟩
   obtain ⟨ka,kc,rfl,_⟩:=own_slice (s4.row 0 rfl)
   obtain ⟨va,vc,rfl,_⟩:=own_slice (s4.row 1 rfl)
   obtain ⟨ca,cc,rfl,_⟩:=own_slice (s4.row 2 rfl)
   have r4:=s4.rules 3 rfl
   simp (disch:=first|omega|exact zF rfl|exact zG rfl|exact fun h=>h|(simp only[zA,zB,zC,zD,bytesW];omega)) only[go_sem,c75S1,r4]
   exact ⟨_,_,_,rfl,back _ (_::_::_::trB tb e i::L) _ ((s4.fill 3 (cs:=#[.bool nd.leaf,.slice ka nd.keys.length kc,.slice va nd.vals.length vc,.slice ca nd.kids.length cc]) rfl rfl).sub (.cons_cons _ (.cons_cons _ (.cons_cons _ (List.sublist_cons_self ..)))))⟩
 ·have eg:getN P (a:Nat)=([],chkN P (a:Nat)):=by
   unfold getN
   rw [if_pos hok]
  rw [eg,if_neg hok]
  rintro _ w3 ⟨rfl,h3'⟩
  simp (disch:=first|omega|exact zF rfl|exact zG rfl|exact fun h=>h|(simp only[zA,zB,zC,zD,bytesW];omega)) only[go_sem]
  refine ⟨fun _=>bdW_built (cells:=ndZ) (by kernel_rfl) ?_,fun hc=>(hok hc).elim⟩
  have r:=h3'.rules 0 rfl
  simp (disch:=first|omega|exact zF rfl|exact zG rfl|exact fun h=>h|(simp only[zA,zB,zC,zD,bytesW];omega)) only[go_sem,c75S1,r]
  obtain ⟨A,st,back⟩:=h3'.lift
  exact ⟨_,hok,rfl,back _ (trB tb e i::L) _ ((st.fill 0 rfl rfl).sub (List.sublist_cons_self ..))⟩
end
open Go Go.Ann Go.RowKit Go.WideShapes
section
variable {W0 w:World} {F:Nat→Prop} {L:List Res} {I:List Inv} {e:En} {P:List (List UInt8)} {tb n:Nat} {i:Int}
abbrev wkB(wb tb:Nat)(key:List UInt8)(fv:Value)(left:Int):Res:=.blk wb #[.pointer (some ⟨tb,0,none⟩),.string (ofL key),fv,.int .i64 left] 189
def YieldF{σ:Type}(e:En)(P:List Txt)(W0:World)(F:Nat→Prop)(I:List Inv)(R:σ→Value→List Res)(f:σ→Rec→Bool × σ)(Ok:σ→Prop)(fv:Value):Prop :=
 ∀ (Y:List Res) s v x w',Ok s→Pgr e P W0 w' F (Y++R s v) I→callW Tryz.prog fv [.string (ofL x.1),.string (ofL x.2)] w' fun u w''=>u=.bool (f s x).1∧∃ v',Pgr e P W0 w'' F (Y++R (f s x).2 v') I
def WalkE{σ:Type}(e:En)(P:List Txt)(W0:World)(F:Nat→Prop)(I:List Inv)(R:σ→Value→List Res)(Ok:σ→Prop)(wb tb:Nat)(key:Txt)(fv:Value)(i:Int)(X:List Res)(r:Bool × Nat × σ)(u:Value)(w':World):Prop :=
 ∃ (lf:Int) (v':Value),u=.bool r.1∧(r.1=true→lf=r.2.1∧r.2.1≤1024∧Ok r.2.2)∧Pgr e P W0 w' F (wkB wb tb key fv lf::trB tb e i::(X++R r.2.2 v')) I
theorem walk_ok{σ:Type}{f:σ→Rec→Bool × σ}{R:σ→Value→List Res}{Ok:σ→Prop}{fv:Value}{wb:Nat}{key:Txt}(hf:YieldF e P W0 F I R f Ok fv)(hOk:∀ s x,Ok s→(f s x).1=true→Ok (f s x).2)(h3:3≤P.length) :
  ∀ (d a left:Nat) (s:σ) (v0:Value) (X:List Res) (w:World),Pgr e P W0 w F (wkB wb tb key fv left::trB tb e i::(X++R s v0)) I→d≤32→a≤4294967296→left≤1024→Ok s →
  Ret Tryz.prog 135 [.pointer (some ⟨wb,0,none⟩),.int .i64 a,.int .i64 d] w (WalkE e P W0 F I R Ok wb tb key fv i X (walkP P f key d a left s)):=by
 intro d
 induction d with
 | zero =>
  intro a left s v0 X w h hd ha hl hs
  have r:=h.rules 0 rfl
  refine ent135 _ _ _ _ _ ?_
  simp (disch:=first|omega|exact zF rfl|exact zG rfl|exact fun h=>h|(simp only[zA,zB,zC,zD,bytesW];omega)) only[go_sem,c135L0,c135L1,r]
  have h2:=(h.set 0 rfl 3 (.int .i64 ((left:Int) - 1)))
  generalize w.setCell ⟨wb,3,none⟩ (.int .i64 ((left:Int) - 1))=w2 at h2 ⊢
  refine ⟨⟨by omega,by omega⟩,Ret.mono (gload_ok (h2.perm (List.Perm.swap _ _ _)) h3 ha) ?_⟩
  rw [walkP]
  cases hnd:ndP P a with
  | none =>
   rintro _ w3 ⟨er,her,rfl,h3'⟩
   simp (disch:=first|omega|exact zF rfl|exact zG rfl|exact fun h=>h|(simp only[zA,zB,zC,zD,bytesW];omega)) only[go_sem,c135L0,c135L1,c135S11,her]
   exact ⟨_,_,rfl,fun h=>(by cases h),((h3'.box _ _).sub (List.sublist_cons_self ..)).perm (List.Perm.swap _ _ _)⟩
  | some nd =>
   rintro _ w3 ⟨kv,vv,cv,rfl,h3'⟩
   obtain ⟨ka,kc,rfl,_⟩:=own_slice (h3'.row 0 rfl)
   obtain ⟨va,vc,rfl,_⟩:=own_slice (h3'.row 1 rfl)
   obtain ⟨ca,cc,rfl,_⟩:=own_slice (h3'.row 2 rfl)
   simp (disch:=first|omega|exact zF rfl|exact zG rfl|exact fun h=>h|(simp only[zA,zB,zC,zD,bytesW];omega)) only[go_sem,c135L0,c135L1,c135S11]
   exact ⟨_,_,rfl,fun h=>(by cases h),((h3'.box _ _).sub (L':=_::_::(X++R s v0)) (.cons _ (.cons _ (.cons _ (.cons _ (List.Sublist.refl _)))))).perm (List.Perm.swap _ _ _)⟩
 | succ d ih =>
 intro a left s v0 X w h hd ha hl hs
 have r:=h.rules 0 rfl
 refine ent135 _ _ _ _ _ ?_
 simp (disch:=first|omega|exact zF rfl|exact zG rfl|exact fun h=>h|(simp only[zA,zB,zC,zD,bytesW];omega)) only[go_sem,c135L0,c135L1,r]
 have h2:=(h.set 0 rfl 3 (.int .i64 ((left:Int) - 1)))
 generalize w.setCell ⟨wb,3,none⟩ (.int .i64 ((left:Int) - 1))=w2 at h2 ⊢
 refine ⟨⟨by omega,by omega⟩,Ret.mono (gload_ok (h2.perm (List.Perm.swap _ _ _)) h3 ha) ?_⟩
 rw [walkP]
 cases hnd:ndP P a with
 | none =>
  rintro _ w3 ⟨er,her,rfl,h3'⟩
  simp (disch:=first|omega|exact zF rfl|exact zG rfl|exact fun h=>h|(simp only[zA,zB,zC,zD,bytesW];omega)) only[go_sem,c135L0,c135L1,c135S11,her]
  exact ⟨_,_,rfl,fun h=>(by cases h),(h3'.box _ _).sub (List.sublist_cons_self ..) |>.perm (List.Perm.swap _ _ _)⟩
 | some nd =>
 rintro _ w3 ⟨kv,vv,cv,rfl,h3'⟩
 have form:=(ndP_form hnd).1
 have hkl:=form.few
 obtain ⟨ka,kc,rfl,_⟩:=own_slice (h3'.row 0 rfl)
 obtain ⟨va,vc,rfl,_⟩:=own_slice (h3'.row 1 rfl)
 obtain ⟨ca,cc,rfl,_⟩:=own_slice (h3'.row 2 rfl)
 simp (disch:=first|omega|exact zF rfl|exact zG rfl|exact fun h=>h|(simp only[zA,zB,zC,zD,bytesW];omega)) only[go_sem,c135L0,c135L1]
 have h4:=h3'.box #[.bool nd.leaf,.slice ka nd.keys.length kc,.slice va nd.vals.length vc,.slice ca nd.kids.length cc] 119
 generalize w3.heap.size=nb at h4 ⊢
 generalize w3.alloc (.cells #[.bool nd.leaf,.slice ka nd.keys.length kc,.slice va nd.vals.length vc,.slice ca nd.kids.length cc] 119)=w4 at h4 ⊢
 have r:=h4.rules 5 rfl
 have rn:=h4.rules 0 rfl
 have hd1:¬ ((d:Int)+1=0):=by omega
 by_cases hl0:left=0
 ·have hl1:(left:Int) - 1<0:=by omega
  rw [if_pos hl0]
  simp (disch:=first|omega|exact zF rfl|exact zG rfl|exact fun h=>h|(simp only[zA,zB,zC,zD,bytesW];omega)) only[go_sem,c135L0,c135L1,c135S11,r,rn,hd1,hl1]
  exact ⟨_,_,rfl,fun h=>(by cases h),(h4.sub (L':=_::_::(X++R s v0)) (.cons _ (.cons _ (.cons _ (.cons _ (List.Sublist.refl _)))))).perm (List.Perm.swap _ _ _)⟩
 have hl1:¬ ((left:Int) - 1<0):=by omega
 rw [if_neg hl0]
 have el:((left:Int) - 1)=((left - 1:Nat):Int):=by omega
 rw [el] at h4 r hl1
 obtain ⟨l1,hl1e⟩:∃ l1,l1=left - 1:=⟨_,rfl⟩
 rw [← hl1e] at h4 r hl1 ⊢
 have hl1':l1≤1024:=by omega
 clear el hl1e hl0 h2 h3' h
 cases hlf:nd.leaf with
 | true =>
  obtain ⟨hvl,_⟩:=form.lf hlf
  rw [hlf] at h4 rn
  simp (disch:=first|omega|exact zF rfl|exact zG rfl|exact fun h=>h|(simp only[zA,zB,zC,zD,bytesW];omega)) only[go_sem,c135L0,c135S11,r,rn,hd1,hl1]
  have h5:Pgr e P W0 w4 F (.blk nb #[.bool true,.slice ka nd.keys.length kc,.slice va nd.vals.length vc,.slice ca nd.kids.length cc] 119::.row (.slice ka nd.keys.length kc) 9 1 nd.keys.length (nd.keys.flatMap strE)::.row (.slice va nd.vals.length vc) 9 1 nd.vals.length (nd.vals.flatMap strE)::.row (.slice ca nd.kids.length cc) 3 1 nd.kids.length (nd.kids.flatMap natE)::trB tb e i::wkB wb tb key fv l1::(X++R s v0)) I:=h4
  obtain ⟨zl,hzl⟩:∃ zl,zl=nd.keys.zip nd.vals:=⟨_,rfl⟩
  rw [← hzl]
  have hzlen:zl.length=nd.keys.length:=by rw [hzl,List.length_zip]; omega
  refine W_loopU (fun k:Nat=>[(70,.int .i64 k)]) (fun k w'=>k≤nd.keys.length∧∃ sk vk,recsGo f key zl s=recsGo f key (zl.drop k) sk∧Ok sk∧Pgr e P W0 w' F (.blk nb #[.bool true,.slice ka nd.keys.length kc,.slice va nd.vals.length vc,.slice ca nd.kids.length cc] 119::.row (.slice ka nd.keys.length kc) 9 1 nd.keys.length (nd.keys.flatMap strE)::.row (.slice va nd.vals.length vc) 9 1 nd.vals.length (nd.vals.flatMap strE)::.row (.slice ca nd.kids.length cc) 3 1 nd.kids.length (nd.kids.flatMap natE)::trB tb e i::wkB wb tb key fv l1::(X++R sk vk)) I) (fun k=>nd.keys.length - k) 0 rfl ⟨Nat.zero_le _,s,v0,rfl,hs,h5⟩ ?_
  clear h4 h5 r rn
  rintro k w5 ⟨hk,sk,vk,hgo,hsk,h5⟩
  by_cases hlt:k<nd.keys.length
  case neg =>
   have hlt':¬ (k:Int)<nd.keys.length:=by omega
   rw [List.drop_of_length_le (by omega),recsGo] at hgo
   rw [hgo]
   simp (disch:=first|omega|exact zF rfl|exact zG rfl|exact fun h=>h|(simp only[zA,zB,zC,zD,bytesW];omega)) only[go_sem,c135L0,c135L1,c135S11,c135L1,hlt']
   exact ⟨_,_,rfl,fun _=>⟨rfl,hl1',hsk⟩,(h5.sub (L':=_::_::(X++R sk vk)) (.cons _ (.cons _ (.cons _ (.cons _ (List.Sublist.refl _)))))).perm (List.Perm.swap _ _ _)⟩
  have hlt':(k:Int)<nd.keys.length:=by omega
  have hrk:RdS w5 1 strE (.slice ka nd.keys.length kc) nd.keys:=RdS.of_own' (h5.row 1 rfl) nd.keys rfl rfl
  obtain ⟨p1,rfl⟩:=hrk.ptr (by omega)
  have ek:=RdS.at1 (e1:=fun r=>.string (ofL r)) hrk hlt
  have hdk:zl.drop k=(nd.keys[k],nd.vals[k])::zl.drop (k+1):=by
   rw [List.drop_eq_getElem_cons (by omega)]
   congr 1
   simp only [hzl,List.getElem_zip]
  rw [hdk,recsGo] at hgo
  simp (disch:=first|omega|exact zF rfl|exact zG rfl|exact fun h=>h|(simp only[zA,zB,zC,zD,bytesW];omega)) only[go_sem,c135L0,c135L1,c135S11,c135L1,hlt',ek]
  refine ⟨by omega,?_⟩
  refine c135draw1Y (Same (fun b=>b=wb) _) (Same.refl _ _) ?_
  have h6:=h5.drew
  generalize w5.drew=w6 at h6 ⊢
  have r:=h6.rules 5 rfl
  have rn:=h6.rules 0 rfl
  have hrv:RdS w6 1 strE (.slice va nd.vals.length vc) nd.vals:=RdS.of_own' (h6.row 2 rfl) nd.vals rfl rfl
  obtain ⟨p2,rfl⟩:=hrv.ptr (by omega)
  have ev:=RdS.at1 (e1:=fun r=>.string (ofL r)) hrv (k:=k) (by omega)
  have hltv:(k:Int)<nd.vals.length:=by omega
  simp (disch:=first|omega|exact zF rfl|exact zG rfl|exact fun h=>h|(simp only[zA,zB,zC,zD,bytesW];omega)) only[go_sem,c135L0,c135L1,c135S11,c135D1,r,rn,ev,hlt',hltv]
  cases hb:Op.bytesLess nd.keys[k] key with
  | true =>
   rw [if_pos hb] at hgo
   simp (disch:=first|omega|exact zF rfl|exact zG rfl|exact fun h=>h|(simp only[zA,zB,zC,zD,bytesW];omega)) only[go_sem,c135L0,c135L1,c135S11]
   exact ⟨Same.refl _ _,⟨by omega,by omega⟩,k+1,rfl,⟨hlt,sk,vk,hgo,hsk,h6⟩,by omega⟩
  | false =>
   rw [if_neg (by rw [hb]; decide)] at hgo
   simp (disch:=first|omega|exact zF rfl|exact zG rfl|exact fun h=>h|(simp only[zA,zB,zC,zD,bytesW];omega)) only[go_sem,c135L0,c135L1,c135S11]
   refine ⟨Same.refl _ _,Same.refl _ _,by omega,Same.refl _ _,callW_mono (hf (_::_::_::_::_::_::X) sk vk (nd.keys[k],nd.vals[k]) w6 hsk h6) ?_⟩
   rintro _ w7 ⟨rfl,v7,h7⟩
   have hst:=hOk sk (nd.keys[k],nd.vals[k]) hsk
   cases hc:(f sk (nd.keys[k],nd.vals[k])).1 with
   | true =>
    rw [if_pos hc] at hgo
    simp (disch:=first|omega|exact zF rfl|exact zG rfl|exact fun h=>h|(simp only[zA,zB,zC,zD,bytesW];omega)) only[go_sem,c135L0,c135L1,c135S11,c135D1]
    exact ⟨⟨by omega,by omega⟩,k+1,rfl,⟨hlt,_,v7,hgo,hst hc,h7⟩,by omega⟩
   | false =>
    rw [if_neg (by rw [hc]; decide)] at hgo
    rw [hgo]
    simp (disch:=first|omega|exact zF rfl|exact zG rfl|exact fun h=>h|(simp only[zA,zB,zC,zD,bytesW];omega)) only[go_sem,c135L0,c135L1,c135S11,c135D1]
    exact ⟨_,_,rfl,fun h=>(by cases h),(h7.sub (L':=_::_::(X++R _ v7)) (.cons _ (.cons _ (.cons _ (.cons _ (List.Sublist.refl _)))))).perm (List.Perm.swap _ _ _)⟩
 | false =>
  obtain ⟨_,hcl⟩:=form.nl hlf
  rw [hlf] at h4 rn
  simp (disch:=first|omega|exact zF rfl|exact zG rfl|exact fun h=>h|(simp only[zA,zB,zC,zD,bytesW];omega)) only[go_sem,c135L1,c135S11,r,rn,hd1,hl1]
  have h5:Pgr e P W0 w4 F (.blk nb #[.bool false,.slice ka nd.keys.length kc,.slice va nd.vals.length vc,.slice ca nd.kids.length cc] 119::.row (.slice ka nd.keys.length kc) 9 1 nd.keys.length (nd.keys.flatMap strE)::.row (.slice va nd.vals.length vc) 9 1 nd.vals.length (nd.vals.flatMap strE)::.row (.slice ca nd.kids.length cc) 3 1 nd.kids.length (nd.kids.flatMap natE)::trB tb e i::wkB wb tb key fv l1::(X++R s v0)) I:=h4
  refine c135draw0 (Same (fun b=>b=nb) _) (Same.refl _ _) ?_
  have h6:=h5.drew
  generalize w4.drew=w6 at h6 ⊢
  have r:=h6.rules 5 rfl
  have rn:=h6.rules 0 rfl
  have hrk:RdS w6 1 strE (.slice ka nd.keys.length kc) nd.keys:=RdS.of_own' (h6.row 1 rfl) nd.keys rfl rfl
  simp (disch:=first|omega|exact zF rfl|exact zG rfl|exact fun h=>h|(simp only[zA,zB,zC,zD,bytesW];omega)) only[go_sem,c135L0,c135L1,c135S11,c135D0,r,rn]
  refine ⟨Same.refl _ _,?_⟩
  rw [← hlf]
  refine Ret.mono (down_ok key w6 hrk (by omega)) ?_
  rintro _ w7 ⟨rfl,b7⟩
  have h7:=h6.below b7
  have hdn:=downP_le nd key
  obtain ⟨dn,hdne⟩:∃ dn,dn=downP nd key:=⟨_,rfl⟩
  rw [← hdne] at hdn ⊢
  simp (disch:=first|omega|exact zF rfl|exact zG rfl|exact fun h=>h|(simp only[zA,zB,zC,zD,bytesW];omega)) only[go_sem,c135L1,c135S11,c135D0]
  refine W_loopU (fun j:Nat=>[(9,.int .i64 j)]) (fun j w'=>j≤nd.kids.length∧∃ lj sj vj,kidsGo (walkP P f key d) (nd.kids.drop dn) l1 s=kidsGo (walkP P f key d) (nd.kids.drop j) lj sj∧lj≤1024∧Ok sj∧Pgr e P W0 w' F (.blk nb #[.bool false,.slice ka nd.keys.length kc,.slice va nd.vals.length vc,.slice ca nd.kids.length cc] 119::.row (.slice ka nd.keys.length kc) 9 1 nd.keys.length (nd.keys.flatMap strE)::.row (.slice va nd.vals.length vc) 9 1 nd.vals.length (nd.vals.flatMap strE)::.row (.slice ca nd.kids.length cc) 3 1 nd.kids.length (nd.kids.flatMap natE)::trB tb e i::wkB wb tb key fv lj::(X++R sj vj)) I) (fun j=>nd.kids.length - j) dn rfl ⟨by omega,l1,s,v0,rfl,hl1',hs,h7⟩ ?_
  clear h4 h5 h6 h7 r rn hrk hl1 hl1' hs
  rintro j w8 ⟨hj,lj,sj,vj,hgo,hlj,hsj,h8⟩
  have rn:=h8.rules 0 rfl
  by_cases hlt:j<nd.kids.length
  case neg =>
   have hlt':¬ (j:Int)<nd.kids.length:=by omega
   rw [List.drop_of_length_le (i:=j) (by omega),kidsGo] at hgo
   rw [hgo]
   simp (disch:=first|omega|exact zF rfl|exact zG rfl|exact fun h=>h|(simp only[zA,zB,zC,zD,bytesW];omega)) only[go_sem,c135L0,c135L1,c135S11,c135L0,rn,hlt']
   exact ⟨_,_,rfl,fun _=>⟨rfl,hlj,hsj⟩,(h8.sub (L':=_::_::(X++R sj vj)) (.cons _ (.cons _ (.cons _ (.cons _ (List.Sublist.refl _)))))).perm (List.Perm.swap _ _ _)⟩
  have hlt':(j:Int)<nd.kids.length:=by omega
  have hrc:RdS w8 1 natE (.slice ca nd.kids.length cc) nd.kids:=RdS.of_own' (h8.row 3 rfl) nd.kids rfl rfl
  obtain ⟨p1,rfl⟩:=hrc.ptr (by omega)
  have ec:=RdS.at1 (e1:=fun r:Nat=>.int .i64 r) hrc hlt
  rw [List.drop_eq_getElem_cons hlt,kidsGo] at hgo
  have ed:(d:Int)+1 - 1=d:=by omega
  simp (disch:=first|omega|exact zF rfl|exact zG rfl|exact fun h=>h|(simp only[zA,zB,zC,zD,bytesW];omega)) only[go_sem,c135L0,c135L1,c135S11,c135L0,rn,hlt',ec,ed]
  have hkb:=form.kid _ (List.getElem_mem hlt)
  have pm:∀ (A B C D E F:Res) (Z:List Res),(A::B::C::D::E::F::Z).Perm (F::E::A::B::C::D::Z):=fun A B C D E F Z =>
   (List.perm_append_comm (l₁:=[A,B,C,D]) (l₂:=[E,F])).append_right Z |>.trans (List.Perm.swap _ _ _)
  obtain ⟨Y,hY⟩:∃ Y:List Res,Y=[.blk nb #[.bool false,.slice ka nd.keys.length kc,.slice va nd.vals.length vc,.slice (some p1) nd.kids.length cc] 119,.row (.slice ka nd.keys.length kc) 9 1 nd.keys.length (nd.keys.flatMap strE),.row (.slice va nd.vals.length vc) 9 1 nd.vals.length (nd.vals.flatMap strE),.row (.slice (some p1) nd.kids.length cc) 3 1 nd.kids.length (nd.kids.flatMap natE)]:=⟨_,rfl⟩
  have pm:∀ (lf:Int) (s:σ) (v:Value),(.blk nb #[.bool false,.slice ka nd.keys.length kc,.slice va nd.vals.length vc,.slice (some p1) nd.kids.length cc] 119::.row (.slice ka nd.keys.length kc) 9 1 nd.keys.length (nd.keys.flatMap strE)::.row (.slice va nd.vals.length vc) 9 1 nd.vals.length (nd.vals.flatMap strE)::.row (.slice (some p1) nd.kids.length cc) 3 1 nd.kids.length (nd.kids.flatMap natE)::trB tb e i::wkB wb tb key fv lf::(X++R s v)).Perm (wkB wb tb key fv lf::trB tb e i::((Y++X)++R s v)):=fun lf s v=>by
   subst hY
   exact pm _ _ _ _ _ _ _
  have h8':=h8.perm (pm lj sj vj)
  refine ⟨by omega,⟨by omega,by omega⟩,Ret.mono (ih nd.kids[j] lj sj vj (Y++X) w8 h8' (by omega) (by omega) hlj hsj) ?_⟩
  rintro _ w9 ⟨lf,v9,rfl,hok9,h9⟩
  have h9:=h9.perm (pm lf _ v9).symm
  cases hc:(walkP P f key d nd.kids[j] lj sj).1 with
  | true =>
   obtain ⟨rfl,g1,g2⟩:=hok9 hc
   rw [if_pos hc] at hgo
   simp (disch:=first|omega|exact zF rfl|exact zG rfl|exact fun h=>h|(simp only[zA,zB,zC,zD,bytesW];omega)) only[go_sem,c135L0,c135L1,c135S11]
   exact ⟨⟨by omega,by omega⟩,j+1,rfl,⟨hlt,_,_,v9,hgo,g1,g2,h9⟩,by omega⟩
  | false =>
   rw [if_neg (by rw [hc]; decide)] at hgo
   rw [hgo]
   simp (disch:=first|omega|exact zF rfl|exact zG rfl|exact fun h=>h|(simp only[zA,zB,zC,zD,bytesW];omega)) only[go_sem,c135L0,c135L1,c135S11]
   exact ⟨_,_,rfl,fun h=>(by cases h),(h9.sub (L':=_::_::(X++R _ v9)) (.cons _ (.cons _ (.cons _ (.cons _ (List.Sublist.refl _)))))).perm (List.Perm.swap _ _ _)⟩
end
open Go Go.Ann Go.RowKit Go.WideShapes
theorem rootM_lt(P:List Txt)(i:Int):rootM P i<4294967296:=by
 have h:=unfixL_lt (cutL (rootB P) (4 * i) (4 * i+4))
 have hl:(cutL (rootB P) (4 * i) (4 * i+4)).length≤4:=by
  unfold cutL
  rw [List.length_drop,List.length_take]
  omega
 have:256 ^ (cutL (rootB P) (4 * i) (4 * i+4)).length≤256 ^ 4:=Nat.pow_le_pow_right (by decide) hl
 unfold rootM
 omega
def fromP{σ:Type}(P:List Txt)(f:σ→Rec→Bool × σ)(key:Txt)(s:σ):σ:=if rootM P 0=0 then s else (walkP P f key 32 (rootM P 0) 1024 s).2.2
theorem callW_func{p:Program}{fv:Value}{xs:List Value}{w:World}{K:Value→World→Prop}(h:callW p fv xs w K):∃ g fa fc,fv=.func g fa fc:=by
 unfold callW at h
 split at h
 ·exact ⟨_,_,_,rfl⟩
 ·exact ⟨_,_,_,rfl⟩
 ·exact h.elim
section
variable {W0 w:World} {F:Nat→Prop} {L:List Res} {I:List Inv} {e:En} {P:List (List UInt8)} {tb n:Nat} {i:Int}
theorem from1_ok{σ:Type}{f:σ→Rec→Bool × σ}{R:σ→Value→List Res}{Ok:σ→Prop}{fv:Value}{b:Nat}{key:Txt}{s:σ}{v0:Value}(h:Pgr e P W0 w F (.blk (b+1) #[.string (ofL key)] 9::.blk b #[.pointer (some ⟨tb,0,none⟩)] 37::trB tb e 0::R s v0) I)(h3:3≤P.length)
  (hf:YieldF e P W0 F I R f Ok fv) (hOk:∀ s x,Ok s→(f s x).1=true→Ok (f s x).2) (hs:Ok s) :
  Ret Tryz.prog 134 [fv,.pointer (some ⟨b,0,none⟩),.pointer (some ⟨b+1,0,none⟩)] w fun _ w'=>∃ v',Pgr e P W0 w' F (trB tb e 0::R (fromP P f key s) v') I:=by
 have r1:=h.rules 1 rfl
 refine ent134 _ _ _ _ _ ?_
 simp (disch:=first|omega|exact zF rfl|exact zG rfl|exact fun h=>h|(simp only[zA,zB,zC,zD,bytesW];omega)) only[go_sem,r1]
 refine Ret.mono (troot_ok (h.perm (List.perm_middle (l₁:=[_,_]))) h3) ?_
 rintro _ w2 ⟨rfl,h2⟩
 have hrl:=rootM_lt P 0
 unfold fromP
 generalize rootM P 0=rt at hrl ⊢
 have r0:=h2.rules 1 rfl
 have r1:=h2.rules 2 rfl
 by_cases hr0:rt=0
 ·have hr0':(rt:Int)=0:=by omega
  rw [if_pos hr0]
  simp (disch:=first|omega|exact zF rfl|exact zG rfl|exact fun h=>h|(simp only[zA,zB,zC,zD,bytesW];omega)) only[go_sem,r0,r1,hr0']
  exact ⟨_,h2.sub (.cons_cons _ (.cons _ (.cons _ (List.Sublist.refl _))))⟩
 have hr0':¬ (rt:Int)=0:=by omega
 rw [if_neg hr0]
 obtain ⟨g,fa,fc,rfl⟩:=callW_func (hf [trB tb e 0] s v0 ([],[]) w2 hs (h2.sub (L':=trB tb e 0::R s v0) (.cons_cons _ (.cons _ (.cons _ (List.Sublist.refl _))))))
 simp (disch:=first|omega|exact zF rfl|exact zG rfl|exact fun h=>h|(simp only[zA,zB,zC,zD,bytesW];omega)) only[go_sem,r0,r1,hr0']
 refine bdW_built (cells:=#[.pointer (some ⟨tb,0,none⟩),.string (ofL key),.func g fa fc,.int .i64 1024]) (by kernel_rfl) ?_
 simp (disch:=first|omega|exact zF rfl|exact zG rfl|exact fun h=>h|(simp only[zA,zB,zC,zD,bytesW];omega)) only[go_sem]
 have h4:=(h2.box #[.pointer (some ⟨tb,0,none⟩),.string (ofL key),.func g fa fc,.int .i64 1024] 189).sub (L':=wkB w2.heap.size tb key (.func g fa fc) 1024::trB tb e 0::R s v0) (.cons_cons _ (.cons_cons _ (.cons _ (.cons _ (List.Sublist.refl _)))))
 generalize w2.heap.size=wb at h4 ⊢
 generalize w2.alloc (.cells #[.pointer (some ⟨tb,0,none⟩),.string (ofL key),.func g fa fc,.int .i64 1024] 189)=w4 at h4 ⊢
 refine Ret.mono (walk_ok hf hOk h3 32 rt 1024 s v0 [] w4 h4 (by decide) (by omega) (by decide) hs) ?_
 rintro _ w5 ⟨lf,v5,rfl,_,h5⟩
 simp (disch:=first|omega|exact zF rfl|exact zG rfl|exact fun h=>h|(simp only[zA,zB,zC,zD,bytesW];omega)) only[go_sem]
 exact ⟨v5,h5.sub (List.sublist_cons_self ..)⟩
end
open Go Go.Ann Go.RowKit Go.WideShapes
def prE(x:List UInt8 × List UInt8):List Value:=[.string (ofL x.1),.string (ofL x.2)]
theorem prE_one(x:List UInt8 × List UInt8):∀ u∈prE x,u.oneCell'=true:=by
 intro u hu
 simp only [prE,List.mem_cons,List.not_mem_nil,or_false] at hu
 rcases hu with rfl | rfl <;> rfl
def takeF(most:Nat)(pre:List Rec)(x:Rec):Bool × List Rec:=(decide (pre.length+1<most),pre++[x])
def cntF(n:Nat)(_:Rec):Bool × Nat:=(true,n+1)
theorem take_ok{most:Nat}:∀ (s:List Rec) (x:Rec),s.length<most→(takeF most s x).1=true→(takeF most s x).2.length<most:=by
 intro s x _ h
 have:=of_decide_eq_true h
 simp only [takeF,List.length_append,List.length_singleton]
 exact this
section
variable {W0 w:World} {F:Nat→Prop} {L:List Res} {I:List Inv} {e:En} {P:List (List UInt8)} {tb n:Nat} {i:Int}
def prR(lb:Nat)(L:List Res)(pre:List (List UInt8 × List UInt8))(v:Value):List Res:=.blk lb #[v] 46::.row v 53 2 pre.length (pre.flatMap prE)::L
theorem all1_ok{lb:Nat}{pre:List (List UInt8 × List UInt8)}{v:Value}{x:List UInt8 × List UInt8}(Y:List Res)(h:Pgr e P W0 w F (Y++prR lb L pre v) I)(hp:pre.length<5000) :
  Ret Tryz.prog 83 [.string (ofL x.1),.string (ofL x.2),.pointer (some ⟨lb,0,none⟩)] w fun u w'=>u=.bool (takeF 5000 pre x).1∧∃ v',Pgr e P W0 w' F (Y++prR lb L (takeF 5000 pre x).2 v') I:=by
 have h0:Pgr e P W0 w F (.blk lb #[v] 46::.row v 53 2 pre.length (pre.flatMap prE)::(Y++L)) I:=h.perm (List.perm_middle.trans (List.perm_middle.cons _))
 have r:=h0.rules 0 rfl
 obtain ⟨va,vc,rfl,_⟩:=own_slice (h0.row 1 rfl)
 refine ent83 _ _ _ _ _ ?_
 simp (disch:=first|omega|exact zF rfl|exact zG rfl|exact fun h=>h|(simp only[zA,zB,zC,zD,bytesW];omega)) only[go_sem,r]
 refine bdW_built (cells:=(prE x).toArray) (by kernel_rfl) ?_
 simp (disch:=first|omega|exact zF rfl|exact zG rfl|exact fun h=>h|(simp only[zA,zB,zC,zD,bytesW];omega)) only[go_sem]
 refine bsW_agg (cs:=(prE x).toArray) ty46mkI rfl (by decide) (by decide) ?_
 simp (disch:=first|omega|exact zF rfl|exact zG rfl|exact fun h=>h|(simp only[zA,zB,zC,zD,bytesW];omega)) only[go_sem]
 have hx:Rd (w.alloc (.cells (prE x).toArray 53)) 2 (.slice (some ⟨w.heap.size,0,none⟩) 1 1) 1 (prE x):=rd_new (n:=1) (cs:=(prE x).toArray) rfl
 obtain ⟨A,st,back⟩:=h0.lift
 refine (st.alloc' (.cells (prE x).toArray 53)).append 1 rfl ty46mkI rfl (by decide) hx (prE_one x) (by omega) (by omega) ?_
 intro v6 w6 s6 c6
 obtain ⟨v6a,v6c,rfl,_⟩:=own_slice (s6.row 1 rfl)
 have r:=s6.rules 0 rfl
 simp (disch:=first|omega|exact zF rfl|exact zG rfl|exact fun h=>h|(simp only[zA,zB,zC,zD,bytesW];omega)) only[go_sem,r]
 have s7:=s6.set 0 rfl 0 (.slice v6a (pre.length+1) v6c)
 have ec:pre.length+1=(pre++[x]).length:=by simp
 have el:pre.flatMap prE++prE x=(pre++[x]).flatMap prE:=by rw [List.flatMap_append]; simp
 unfold takeF
 rw [ec,el] at s7
 rw [ec]
 have q7:=back _ (.blk lb #[.slice v6a (pre++[x]).length v6c] 46::.row (.slice v6a (pre++[x]).length v6c) 53 2 (pre++[x]).length ((pre++[x]).flatMap prE)::(Y++L)) _ s7
 have q8:Pgr e P W0 _ F (Y++prR lb L (pre++[x]) (.slice v6a (pre++[x]).length v6c)) I:=q7.perm ((List.perm_middle.trans (List.perm_middle.cons _)).symm)
 have e5:decide (((pre.length:Int)+1)<5000)=decide ((pre++[x]).length<5000):=by
  rw [List.length_append,List.length_singleton]
  congr 1
  simp only [eq_iff_iff]
  omega
 exact ⟨e5,_,q8⟩
theorem some1_ok{lb mb:Nat}{pre:List (List UInt8 × List UInt8)}{v:Value}{x:List UInt8 × List UInt8}{most:Nat}(Y:List Res)(h:Pgr e P W0 w F (Y++prR lb (.blk mb #[.int .i64 most] 3::L) pre v) I)(hp:pre.length<most)(hm:most≤5000) :
  Ret Tryz.prog 73 [.string (ofL x.1),.string (ofL x.2),.pointer (some ⟨lb,0,none⟩),.pointer (some ⟨mb,0,none⟩)] w fun u w'=>u=.bool (takeF most pre x).1∧∃ v',Pgr e P W0 w' F (Y++prR lb (.blk mb #[.int .i64 most] 3::L) (takeF most pre x).2 v') I:=by
 have pm:∀ pre v,(Y++prR lb (.blk mb #[.int .i64 most] 3::L) pre v).Perm (.blk lb #[v] 46::.row v 53 2 pre.length (pre.flatMap prE)::.blk mb #[.int .i64 most] 3::(Y++L)):=fun _ _=>List.perm_middle.trans ((List.perm_middle.trans (List.perm_middle.cons _)).cons _)
 have h0:=h.perm (pm _ _)
 have r:=h0.rules 0 rfl
 obtain ⟨va,vc,rfl,_⟩:=own_slice (h0.row 1 rfl)
 refine ent73 _ _ _ _ _ _ ?_
 simp (disch:=first|omega|exact zF rfl|exact zG rfl|exact fun h=>h|(simp only[zA,zB,zC,zD,bytesW];omega)) only[go_sem,r]
 refine bdW_built (cells:=(prE x).toArray) (by kernel_rfl) ?_
 simp (disch:=first|omega|exact zF rfl|exact zG rfl|exact fun h=>h|(simp only[zA,zB,zC,zD,bytesW];omega)) only[go_sem]
 refine bsW_agg (cs:=(prE x).toArray) ty46mkI rfl (by decide) (by decide) ?_
 simp (disch:=first|omega|exact zF rfl|exact zG rfl|exact fun h=>h|(simp only[zA,zB,zC,zD,bytesW];omega)) only[go_sem]
 have hx:Rd (w.alloc (.cells (prE x).toArray 53)) 2 (.slice (some ⟨w.heap.size,0,none⟩) 1 1) 1 (prE x):=rd_new (n:=1) (cs:=(prE x).toArray) rfl
 obtain ⟨A,st,back⟩:=h0.lift
 refine (st.alloc' (.cells (prE x).toArray 53)).append 1 rfl ty46mkI rfl (by decide) hx (prE_one x) (by omega) (by omega) ?_
 intro v6 w6 s6 c6
 obtain ⟨v6a,v6c,rfl,_⟩:=own_slice (s6.row 1 rfl)
 have r:=s6.rules 0 rfl
 simp (disch:=first|omega|exact zF rfl|exact zG rfl|exact fun h=>h|(simp only[zA,zB,zC,zD,bytesW];omega)) only[go_sem,r]
 have s7:=s6.set 0 rfl 0 (.slice v6a (pre.length+1) v6c)
 have ec:pre.length+1=(pre++[x]).length:=by simp
 have el:pre.flatMap prE++prE x=(pre++[x]).flatMap prE:=by rw [List.flatMap_append]; simp
 unfold takeF
 rw [ec,el] at s7
 have q7:=back _ (.blk lb #[.slice v6a (pre++[x]).length v6c] 46::.row (.slice v6a (pre++[x]).length v6c) 53 2 (pre++[x]).length ((pre++[x]).flatMap prE)::.blk mb #[.int .i64 most] 3::(Y++L)) _ s7
 have q8:=q7.perm (pm (pre++[x]) _).symm
 have rm:=q7.rules 2 rfl
 rw [ec]
 simp (disch:=first|omega|exact zF rfl|exact zG rfl|exact fun h=>h|(simp only[zA,zB,zC,zD,bytesW];omega)) only[go_sem,rm]
 have e5:decide (((pre.length:Int)+1)<most)=decide ((pre++[x]).length<most):=by
  rw [List.length_append,List.length_singleton]
  congr 1
  simp only [eq_iff_iff]
  omega
 exact ⟨e5,_,q8⟩
theorem all_ok(h:Pgr e P W0 w F (trB tb e 0::L) I)(h3:3≤P.length) :
  Ret Tryz.prog 28 [.pointer (some ⟨tb,0,none⟩)] w fun u w'=>Pgr e P W0 w' F (.row u 53 2 (fromP P (takeF 5000) [] []).length ((fromP P (takeF 5000) [] []).flatMap prE)::trB tb e 0::L) I:=by
 refine ent28 _ _ _ ?_
 simp (disch:=first|omega|exact zF rfl|exact zG rfl|exact fun h=>h|(simp only[zA,zB,zC,zD,bytesW];omega)) only[go_sem]
 have h1:=h.box #[.slice none 0 0] 46
 generalize w.heap.size=lb at h1 ⊢
 generalize w.alloc (.cells #[.slice none 0 0] 46)=w1 at h1 ⊢
 have h2:Pgr e P W0 w1 F (trB tb e 0::prR lb L [] (.slice none 0 0)) I:=by
  obtain ⟨A,st,back⟩:=h1.lift
  exact (back _ (.row (.slice none 0 0) 53 2 0 []::.blk lb #[.slice none 0 0] 46::trB tb e 0::L) _ (st.nilRow 53 2)).perm ((List.reverse_perm [Res.row (.slice none 0 0) 53 2 0 [],.blk lb #[.slice none 0 0] 46,trB tb e 0]).symm.append_right L)
 refine Ret.mono (tall_ok w1 (.inr ⟨tb,rfl⟩)) ?_
 rintro _ _ ⟨rfl,rfl⟩
 have h4:=(h2.box #[.pointer (some ⟨tb,0,none⟩)] 37).box #[.string (ofL [])] 9
 rw [World.size_alloc] at h4
 unfold fromF
 simp (disch:=first|omega|exact zF rfl|exact zG rfl|exact fun h=>h|(simp only[zA,zB,zC,zD,bytesW];omega)) only[go_sem]
 generalize (w1.alloc (.cells #[.pointer (some ⟨tb,0,none⟩)] 37)).alloc (.cells #[.string (ofL [])] 9)=w3 at h4 ⊢
 generalize w1.heap.size=b at h4 ⊢
 refine callW_go ⟨by kernel_rfl,Ret.mono (from1_ok (f:=takeF 5000) (R:=prR lb L) (Ok:=fun s=>s.length<5000) (s:=[]) (v0:=.slice none 0 0) h4 h3 ?_ take_ok (by decide)) ?_⟩
 ·intro Y pre v x w' hp h'
  exact callW_go ⟨by kernel_rfl,all1_ok Y h' hp⟩
 rintro _ w4 ⟨v4,h4⟩
 have r:=h4.rules 1 rfl
 obtain ⟨va,vc,rfl,_⟩:=own_slice (h4.row 2 rfl)
 simp (disch:=first|omega|exact zF rfl|exact zG rfl|exact fun h=>h|(simp only[zA,zB,zC,zD,bytesW];omega)) only[go_sem,r]
 exact (h4.sub (L':=[_,_]++L) (.cons_cons _ (.cons _ (.cons_cons _ (List.Sublist.refl _))))).perm (List.Perm.swap _ _ _)
theorem some_ok(key:List UInt8)(most:Nat)(h:Pgr e P W0 w F (trB tb e 0::L) I)(h3:3≤P.length)(hm:0<most∧most≤5000) :
  Ret Tryz.prog 21 [.pointer (some ⟨tb,0,none⟩),.string (ofL key),.int .i64 most] w fun u w'=>Pgr e P W0 w' F (.row u 53 2 (fromP P (takeF most) key []).length ((fromP P (takeF most) key []).flatMap prE)::trB tb e 0::L) I:=by
 refine ent21 _ _ _ _ _ ?_
 have hm1:¬ (most:Int)≤0:=by omega
 simp (disch:=first|omega|exact zF rfl|exact zG rfl|exact fun h=>h|(simp only[zA,zB,zC,zD,bytesW];omega)) only[go_sem,hm1]
 have h1:=(h.box #[.int .i64 most] 3).box #[.slice none 0 0] 46
 rw [World.size_alloc] at h1
 generalize (w.alloc (.cells #[.int .i64 most] 3)).alloc (.cells #[.slice none 0 0] 46)=w1 at h1 ⊢
 generalize w.heap.size=mb at h1 ⊢
 have h2:Pgr e P W0 w1 F (trB tb e 0::prR (mb+1) (.blk mb #[.int .i64 most] 3::L) [] (.slice none 0 0)) I:=by
  obtain ⟨A,st,back⟩:=h1.lift
  have q:=back _ (.row (.slice none 0 0) 53 2 0 []::.blk (mb+1) #[.slice none 0 0] 46::.blk mb #[.int .i64 most] 3::trB tb e 0::L) _ (st.nilRow 53 2)
  exact (q.perm (List.Perm.swap _ _ _)).perm (List.perm_middle (l₁:=[_,_,_]))
 refine Ret.mono (from_ok key w1 (.inr ⟨tb,rfl⟩)) ?_
 rintro _ _ ⟨rfl,rfl⟩
 have h4:=(h2.box #[.pointer (some ⟨tb,0,none⟩)] 37).box #[.string (ofL key)] 9
 rw [World.size_alloc] at h4
 unfold fromF
 simp (disch:=first|omega|exact zF rfl|exact zG rfl|exact fun h=>h|(simp only[zA,zB,zC,zD,bytesW];omega)) only[go_sem]
 generalize (w1.alloc (.cells #[.pointer (some ⟨tb,0,none⟩)] 37)).alloc (.cells #[.string (ofL key)] 9)=w3 at h4 ⊢
 generalize w1.heap.size=b at h4 ⊢
 refine callW_go ⟨by kernel_rfl,Ret.mono (from1_ok (f:=takeF most) (R:=prR (mb+1) (.blk mb #[.int .i64 most] 3::L)) (Ok:=fun s=>s.length<most) (s:=[]) (v0:=.slice none 0 0) h4 h3 ?_ take_ok hm.1) ?_⟩
 ·intro Y pre v x w' hp h'
  exact callW_go ⟨by kernel_rfl,some1_ok Y h' hp hm.2⟩
 rintro _ w4 ⟨v4,h4⟩
 have r:=h4.rules 1 rfl
 obtain ⟨va,vc,rfl,_⟩:=own_slice (h4.row 2 rfl)
 simp (disch:=first|omega|exact zF rfl|exact zG rfl|exact fun h=>h|(simp only[zA,zB,zC,zD,bytesW];omega)) only[go_sem,r]
 exact (h4.sub (L':=[_,_]++L) (.cons_cons _ (.cons _ (.cons_cons _ (.cons _ (List.Sublist.refl _)))))).perm (List.Perm.swap _ _ _)
end
open Go Go.Ann Go.RowKit Go.WideShapes
theorem wrap_step(a:Int):IntKind.i64.wrap (IntKind.i64.wrap a+1)=IntKind.i64.wrap (a+1):=by
 simp [IntKind.wrap,IntKind.signed,IntKind.bits]
 omega
section
variable {W0 w:World} {F:Nat→Prop} {L:List Res} {I:List Inv} {e:En} {P:List (List UInt8)} {tb n:Nat} {i:Int}
def cntS(e:En)(P:List (List UInt8))(W0:World)(F:Nat→Prop)(I:List Inv)(nb:Nat)(L:List Res)(s:Nat × List Res)(O:List Res)(w:World):Prop:=Pgr e P W0 w F (O++(s.2++.blk nb #[.int .i64 (IntKind.i64.wrap (s.1:Int))] 3::L)) I
theorem cntS_ok{nb:Nat}:RgS (cntS e P W0 F I nb L) :=
 ⟨fun {s l o Rr w} h=>Pgr.ob h 0 rfl,fun {s l o Rr w} o2 h=>Pgr.putOb h 0 rfl o2,fun {s r Rr w} h=>Pgr.sub h (List.sublist_cons_self ..),fun {s Rr w} o h=>by
  obtain ⟨A,s1,k⟩:=Pgr.lift h
  exact k _ _ _ (s1.lay o)⟩
theorem tcount_ok(h:Pgr e P W0 w F (trB tb e 0::L) I)(h3:3≤P.length) :
  Ret Tryz.prog 27 [.pointer (some ⟨tb,0,none⟩)] w fun u w'=>u=.int .i64 (IntKind.i64.wrap (fromP P cntF [] 0:Nat))∧Pgr e P W0 w' F (trB tb e 0::L) I:=by
 refine ent27 _ _ _ ?_
 simp (disch:=first|omega|exact zF rfl|exact zG rfl|exact fun h=>h|(simp only[zA,zB,zC,zD,bytesW];omega)) only[go_sem,c27B0]
 have h1:=h.box #[.int .i64 0] 3
 generalize w.heap.size=nb at h1 ⊢
 generalize w.alloc (.cells #[.int .i64 0] 3)=w1 at h1 ⊢
 refine Ret.mono (tall_ok w1 (.inr ⟨tb,rfl⟩)) ?_
 rintro _ _ ⟨rfl,rfl⟩
 have h4:=(h1.box #[.pointer (some ⟨tb,0,none⟩)] 37).box #[.string (ofL [])] 9
 rw [World.size_alloc] at h4
 unfold fromF
 simp (disch:=first|omega|exact zF rfl|exact zG rfl|exact fun h=>h|(simp only[zA,zB,zC,zD,bytesW];omega)) only[go_sem,c27B0]
 generalize (w1.alloc (.cells #[.pointer (some ⟨tb,0,none⟩)] 37)).alloc (.cells #[.string (ofL [])] 9)=w3 at h4 ⊢
 generalize w1.heap.size=b at h4 ⊢
 have e0:IntKind.i64.wrap ((0:Nat):Int)=0:=by decide
 have h5:cntS e P W0 F I nb L (0,[.blk (b+1) #[.string (ofL [])] 9,.blk b #[.pointer (some ⟨tb,0,none⟩)] 37,trB tb e 0]) [] w3:=by
  unfold cntS
  rw [e0]
  exact h4.perm ((List.perm_append_comm (l₁:=[_]) (l₂:=[_]) |>.append_right _).append_left [_,_])
 refine RangeW_free cntS_ok (fun x:Rec=>[.string (ofL x.1),.string (ofL x.2)]) (0,[.blk (b+1) #[.string (ofL [])] 9,.blk b #[.pointer (some ⟨tb,0,none⟩)] 37,trB tb e 0]) (fun _ _=>True) (fun s _ s'=>s'=(s.1+1,s.2)) (fun _ _ _=>False) (fun s=>s=(fromP P cntF [] 0,[trB tb e 0])) (fun _=>False) rfl (by kernel_rfl) h5 (fun _=>rfl) ?_ ?_ ?_ ?_
 ·intro fv l D o o' w4 hf h6
  obtain ⟨R,hR⟩:∃ R:Nat→Value→List Res,R=fun (s:Nat) (_:Value)=>Res.obj l o::Res.obj D defO::Res.blk nb #[.int .i64 (IntKind.i64.wrap (s:Int))] 3::L:=⟨_,rfl⟩
  have pm:∀ (Y:List Res) (s:Nat),([Res.obj l o,Res.obj D defO]++(Y++Res.blk nb #[.int .i64 (IntKind.i64.wrap (s:Int))] 3::L)).Perm (Y++(Res.obj l o::Res.obj D defO::Res.blk nb #[.int .i64 (IntKind.i64.wrap (s:Int))] 3::L)):=fun Y s=>by
   rw [← List.append_assoc]
   refine ((List.perm_append_comm (l₁:=[Res.obj l o,Res.obj D defO]) (l₂:=Y)).append_right _).trans ?_
   rw [List.append_assoc]
   exact List.Perm.refl _
  have h7:Pgr e P W0 w4 F (.blk (b+1) #[.string (ofL [])] 9::.blk b #[.pointer (some ⟨tb,0,none⟩)] 37::trB tb e 0::R 0 undef) I:=by
   rw [hR]
   exact Pgr.perm h6 (pm _ 0)
  refine Ret.mono (from1_ok (f:=cntF) (Ok:=fun _=>True) (fv:=fv) (key:=[]) h7 h3 ?_ (fun _ _ _ _=>trivial) trivial) ?_
  ·intro Y s v x w' _ h'
   rw [hR] at h'
   refine callW_mono (hf x (s,Y) w' trivial (Pgr.perm h' (pm Y s).symm)) ?_
   rintro u w'' (⟨rfl,s',rfl,h2⟩ | ⟨_,s',hs',_⟩)
   ·refine ⟨rfl,undef,?_⟩
    rw [hR]
    exact Pgr.perm h2 (pm Y (s+1))
   ·exact hs'.elim
  ·rintro _ w' ⟨v',h'⟩
   rw [hR] at h'
   exact .inl ⟨_,rfl,Pgr.perm h' (pm [trB tb e 0] _).symm⟩
 ·rintro x ⟨c,Y⟩ w' l D o o2 _ h'
  simp (disch:=first|omega|exact zF rfl|exact zG rfl|exact fun h=>h|(simp only[zA,zB,zC,zD,bytesW];omega)) only[go_sem]
  refine ⟨(c,Y),h',fun w2 h2=>?_⟩
  have h2:Pgr e P W0 w2 F (.obj l o2::.obj D defO::(Y++.blk nb #[.int .i64 (IntKind.i64.wrap (c:Int))] 3::L)) I:=h2
  have h8:=h2.perm (List.perm_middle (l₁:=Res.obj l o2::Res.obj D defO::Y))
  have r:=h8.rules 0 rfl
  have e1:=wrap_step (c:Int)
  simp (disch:=first|omega|exact zF rfl|exact zG rfl|exact fun h=>h|(simp only[zA,zB,zC,zD,bytesW];omega)) only[go_sem,c27B0,c27B0,r,e1]
  have h9:=(h8.set 0 rfl 0 (.int .i64 (IntKind.i64.wrap ((c:Int)+1)))).perm (List.perm_middle (l₁:=Res.obj l o2::Res.obj D defO::Y)).symm
  exact ⟨(c+1,Y),rfl,h9⟩
 ·rintro _ D w4 rfl h6
  have h6:Pgr e P W0 w4 F (.obj D defO::trB tb e 0::.blk nb #[.int .i64 (IntKind.i64.wrap ((fromP P cntF [] 0:Nat):Int))] 3::L) I:=h6
  have r:=h6.rules 2 rfl
  have hD:=h6.ob 0 rfl
  simp (disch:=first|omega|exact zF rfl|exact zG rfl|exact fun h=>h|(simp only[zA,zB,zC,zD,bytesW];omega)) only[go_sem,c27B0,r,hD]
  exact (h6.putOb 0 rfl (.deferred none)).sub (.cons _ (.cons_cons _ (.cons _ (List.Sublist.refl _))))
 ·rintro _ _ _ hf
  exact hf.elim
end
open Go Go.Ann Go.RowKit Go.WideShapes
theorem lt_irr:∀ a:List UInt8,Op.bytesLess a a=false
 | []=>rfl
 | a::x=>by simp [Op.bytesLess,lt_irr x]
theorem lt_tr:∀ {a b c:List UInt8},Op.bytesLess a b=true→Op.bytesLess b c=true→Op.bytesLess a c=true
 | [],b,c,h1,h2=>by
  cases c with
  | nil=>cases b <;> simp [Op.bytesLess] at h1 h2
  | cons=>simp [Op.bytesLess]
 | a::x,[],c,h1,h2=>by simp [Op.bytesLess] at h1
 | a::x,b::y,[],h1,h2=>by simp [Op.bytesLess] at h2
 | a::x,b::y,c::z,h1,h2=>by
  have ih:=@lt_tr x y z
  simp only [Op.bytesLess,Bool.or_eq_true,Bool.and_eq_true,decide_eq_true_eq,beq_iff_eq] at *
  rcases h1 with h1 | ⟨e1,h1⟩ <;> rcases h2 with h2 | ⟨e2,h2⟩
  ·exact .inl (UInt8.lt_trans h1 h2)
  ·subst e2; exact .inl h1
  ·subst e1; exact .inl h2
  ·subst e1 e2; exact .inr ⟨rfl,ih h1 h2⟩
theorem lt_tri:∀ {a b:List UInt8},Op.bytesLess a b=false→Op.bytesLess b a=false→a=b
 | [],[],_,_=>rfl
 | [],b::y,h1,_=>by simp [Op.bytesLess] at h1
 | a::x,[],_,h2=>by simp [Op.bytesLess] at h2
 | a::x,b::y,h1,h2=>by
  have ih:=@lt_tri x y
  simp only [Op.bytesLess,Bool.or_eq_false_iff,Bool.and_eq_false_imp,decide_eq_false_iff_not,beq_iff_eq] at h1 h2
  have e:a=b:=by
   rcases UInt8.lt_or_lt_of_ne (a:=a) (b:=b) |> fun f=>(Classical.em (a=b)).imp id f with h | h
   ·exact h
   ·rcases h with h | h
    ·exact absurd h h1.1
    ·exact absurd h h2.1
  subst e
  rw [ih (h1.2 rfl) (h2.2 rfl)]
theorem nlt_tr{a b c:List UInt8}(h:Op.bytesLess a b=false)(k:Op.bytesLess b c=false):Op.bytesLess a c=false:=by
 cases hac:Op.bytesLess a c with
 | false=>rfl
 | true =>
  cases hba:Op.bytesLess b a with
  | true=>rw [lt_tr hba hac] at k; cases k
  | false =>
   have:=lt_tri h hba
   subst this
   rw [k] at hac; cases hac
theorem lt_nil(a:Txt):Op.bytesLess a []=false:=by cases a <;> rfl
theorem le_lt{a b c:Txt}(h:Op.bytesLess b a=false)(k:Op.bytesLess b c=true):Op.bytesLess a c=true:=by
 cases hac:Op.bytesLess a c with
 | true=>rfl
 | false=>rw [nlt_tr h hac] at k; cases k
theorem lt_no{a b:Txt}(h:Op.bytesLess a b=true):Op.bytesLess b a=false:=by
 cases hba:Op.bytesLess b a with
 | false=>rfl
 | true =>
  have:=lt_tr h hba
  rw [lt_irr] at this; cases this
def recsP(P:List Txt):Nat→Nat→List Rec
 | 0,_=>[]
 | g+1,a=>match ndP P a with
  | none=>[]
  | some n=>if n.leaf=true then n.keys.zip n.vals else n.kids.flatMap (recsP P g)
def foldGo{σ:Type}(f:σ→Rec→Bool × σ):List Rec→σ→Bool × σ
 | [],s=>(true,s)
 | x::r,s=>if (f s x).1=true then foldGo f r (f s x).2 else (false,(f s x).2)
theorem recs_fold{σ:Type}(f:σ→Rec→Bool × σ):∀ (l:List Rec) (s:σ),recsGo f [] l s=foldGo f l s
 | [],_=>rfl
 | x::r,s=>by
  rw [recsGo,foldGo,lt_nil]
  simp only [recs_fold f r,Bool.false_eq_true,if_false]
theorem fold_app{σ:Type}(f:σ→Rec→Bool × σ):∀ (a b:List Rec) (s:σ),foldGo f (a++b) s=if (foldGo f a s).1=true then foldGo f b (foldGo f a s).2 else (false,(foldGo f a s).2)
 | [],b,s=>by simp [foldGo]
 | x::a,b,s=>by
  rw [List.cons_append,foldGo,foldGo]
  split
  ·exact fold_app f a b _
  ·simp
structure Gave(R:List Rec)(v v':Vis):Prop where
 fin:(R=[]∧v'.last=v.last∧v'.any=v.any)∨(v'.any=true∧∃ z∈R,v'.last=z.1∧∀ x∈R,Op.bytesLess z.1 x.1=false)
 ups:R.Pairwise fun x y=>Op.bytesLess x.1 y.1=true
 frm:v.any=true→∀ x∈R,Op.bytesLess v.last x.1=true
 fit:∀ x∈R,x.1≠[]∧x.2.length≤80
 len:v.pages.length≤v'.pages.length
theorem Gave.app{A B:List Rec}{v v1 v2:Vis}(h:Gave A v v1)(k:Gave B v1 v2):Gave (A++B) v v2:=by
 have hx:∀ x∈A,∀ y∈B,Op.bytesLess x.1 y.1=true:=fun x hx y hy=>by
  rcases h.fin with ⟨rfl,_⟩ | ⟨ha,z,hz,hl,hall⟩
  ·cases hx
  ·have:=k.frm ha y hy
   rw [hl] at this
   exact le_lt (hall x hx) this
 refine ⟨?_,List.pairwise_append.2 ⟨h.ups,k.ups,hx⟩,fun hv x hxm=>?_,fun x hxm=>?_,Nat.le_trans h.len k.len⟩
 ·rcases k.fin with ⟨rfl,h1,h2⟩ | ⟨ha,z,hz,hl,hall⟩
  ·rw [List.append_nil,h1,h2]; exact h.fin
  ·refine .inr ⟨ha,z,List.mem_append_right _ hz,hl,fun x hxm=>?_⟩
   rcases List.mem_append.1 hxm with hm | hm
   ·exact lt_no (hx x hm z hz)
   ·exact hall x hm
 ·rcases List.mem_append.1 hxm with hm | hm
  ·exact h.frm hv x hm
  ·rcases h.fin with ⟨rfl,h1,h2⟩ | ⟨ha,z,hz,hl,hall⟩
   ·have:=k.frm (h2.trans hv) x hm
    rwa [h1] at this
   ·exact lt_tr (h.frm hv z hz) (hx z hz x hm)
 ·rcases List.mem_append.1 hxm with hm | hm
  ·exact h.fit x hm
  ·exact k.fit x hm
theorem Gave.nil{v v':Vis}(h1:v'.last=v.last)(h2:v'.any=v.any)(h3:v.pages.length≤v'.pages.length):Gave [] v v' :=
 ⟨.inl ⟨rfl,h1,h2⟩,.nil,fun _ _ h=>(by cases h),fun _ h=>(by cases h),h3⟩
theorem spoil_bad{v:Vis}{b:Bool}(h:(v.spoil b).bad=false):v.bad=false∧b=false:=by
 unfold Vis.spoil at h
 exact Bool.or_eq_false_iff.1 h
theorem leafGo_gave:∀ (l:List Rec) (v:Vis),(leafGo l v).bad=false→v.bad=false∧(leafGo l v).pages=v.pages∧Gave l v (leafGo l v)
 | [],v,h=>⟨h,rfl,Gave.nil rfl rfl (Nat.le_refl _)⟩
 | x::r,v,h=>by
  rw [leafGo] at h ⊢
  obtain ⟨h1,h2,h3⟩:=leafGo_gave r _ h
  simp only [Bool.or_eq_false_iff] at h1
  obtain ⟨hb,⟨h4,h5⟩,h6⟩:=h1
  have h7:x.1≠[]:=of_decide_eq_false h5
  have h8:¬ 80<x.2.length:=of_decide_eq_false h6
  have g1:Gave [x] v { v with bad:=v.bad || ((v.any && !Op.bytesLess v.last x.1) || decide (x.1=[]) || decide (80<x.2.length)),last:=x.1,any:=true }:=by
   refine ⟨.inr ⟨rfl,x,List.mem_singleton.2 rfl,rfl,fun y hy=>?_⟩,List.pairwise_singleton _ _,fun hv y hy=>?_,fun y hy=>?_,Nat.le_refl _⟩
   ·rw [List.mem_singleton] at hy; subst hy; exact lt_irr _
   ·rw [List.mem_singleton] at hy; subst hy
    rw [hv] at h4
    simpa using h4
   ·rw [List.mem_singleton] at hy; subst hy
    exact ⟨h7,by omega⟩
  exact ⟨hb,h2,g1.app h3⟩
theorem kidsV_bad{g:Nat→Txt→Txt→Bool→Vis→Vis}(hg:∀ a b c d v,(g a b c d v).bad=false→v.bad=false)(keys:List Txt)(low high:Txt)(bound:Bool):∀ (ks:List Nat) (i:Nat) (v:Vis),(kidsV g keys low high bound i ks v).bad=false→v.bad=false
 | [],_,_,h=>h
 | k::ks,i,v,h=>by
  rw [kidsV] at h
  exact hg _ _ _ _ _ (kidsV_bad hg keys low high bound ks _ _ h)
theorem visit_bad(P:List Txt):∀ (g a:Nat) (low high:Txt) (bound:Bool) (v:Vis),(visitP P g a low high bound v).bad=false→v.bad=false
 | 0,a,low,high,bound,v,h=>by
  rw [visitP] at h
  exact (spoil_bad h).1
 | g+1,a,low,high,bound,v,h=>by
  rw [visitP] at h
  split at h
  ·exact (spoil_bad h).1
  split at h
  ·exact (spoil_bad h).1
  split at h
  ·exact (spoil_bad (spoil_bad (leafGo_gave _ _ h).1).1).1
  ·exact (spoil_bad (kidsV_bad (fun a b c d v=>visit_bad P g a b c d v) _ _ _ _ _ _ _ h)).1
structure KeysOk(keys:List Txt)(low high:Txt)(bound:Bool):Prop where
 low:∀ k∈keys,Op.bytesLess k low=false
 high:bound=true→∀ k∈keys,Op.bytesLess k high=true
 ups:keys.Pairwise fun x y=>Op.bytesLess x y=true
 fit:∀ k∈keys,k.length≤32
theorem keys_ok{keys:List Txt}{low high:Txt}{bound:Bool}(h:(List.range keys.length).any (keyBad keys low high bound)=false):KeysOk keys low high bound:=by
 have key:∀ i (hi:i<keys.length),Op.bytesLess keys[i] low=false∧(bound=true→Op.bytesLess keys[i] high=true)∧(∀ j (hj:j<keys.length),j+1=i→Op.bytesLess keys[j] keys[i]=true)∧keys[i].length≤32:=by
  intro i hi
  have h1:=List.any_eq_false.1 h i (List.mem_range.2 hi)
  have e:keys.getD i []=keys[i]:=by rw [List.getD_eq_getElem?_getD,List.getElem?_eq_getElem hi]; rfl
  simp only [keyBad,e,Bool.not_eq_true,Bool.or_eq_false_iff] at h1
  obtain ⟨⟨⟨h1,h2⟩,h3⟩,h4⟩:=h1
  refine ⟨h1,fun hb=>?_,fun j hj hji=>?_,by have:=of_decide_eq_false h4; omega⟩
  ·rw [hb] at h2
   simpa using h2
  ·subst hji
   have e2:keys.getD (j+1 - 1) []=keys[j]:=by rw [Nat.add_sub_cancel,List.getD_eq_getElem?_getD,List.getElem?_eq_getElem hj]; rfl
   rw [e2] at h3
   simpa using h3
 have mem:∀ k∈keys,∃ i,∃ hi:i<keys.length,keys[i]=k:=fun k hk=>List.mem_iff_getElem.1 hk
 refine ⟨fun k hk=>?_,fun hb k hk=>?_,?_,fun k hk=>?_⟩
 ·obtain ⟨i,hi,rfl⟩:=mem k hk; exact (key i hi).1
 ·obtain ⟨i,hi,rfl⟩:=mem k hk; exact (key i hi).2.1 hb
 ·rw [List.pairwise_iff_getElem]
  intro i j hi hj hij
  obtain ⟨d,rfl⟩:∃ d,j=i+1+d:=⟨j - i - 1,by omega⟩
  clear hij
  induction d with
  | zero=>exact (key (i+1) hj).2.2.1 i hi rfl
  | succ d ihd=>exact lt_tr (ihd (by omega)) ((key (i+1+(d+1)) hj).2.2.1 (i+1+d) (by omega) rfl)
 ·obtain ⟨i,hi,rfl⟩:=mem k hk; exact (key i hi).2.2.2
theorem KeysOk.lt{keys:List Txt}{low high:Txt}{bound:Bool}(h:KeysOk keys low high bound){i j:Nat}(hi:i<keys.length)(hj:j<keys.length)(hij:i<j):Op.bytesLess keys[i] keys[j]=true:=List.pairwise_iff_getElem.1 h.ups i j hi hj hij
theorem KeysOk.le{keys:List Txt}{low high:Txt}{bound:Bool}(h:KeysOk keys low high bound){i j:Nat}(hi:i<keys.length)(hj:j<keys.length)(hij:i≤j):Op.bytesLess keys[j] keys[i]=false:=by
 rcases Nat.lt_or_ge i j with hh | hh
 ·exact lt_no (h.lt hi hj hh)
 ·obtain rfl:i=j:=by omega
  exact lt_irr _
theorem bsP_at{keys:List Txt}{low high:Txt}{bound:Bool}(h:KeysOk keys low high bound){i:Nat}(hi:i<keys.length):bsP keys keys[i]=i:=by
 obtain ⟨h1,h2,h3⟩:=bsP_spec keys keys[i]
 generalize bsP keys keys[i]=b at h1 h2 h3
 rcases Nat.lt_trichotomy b i with hlt | rfl | hgt
 ·have:=h3 keys[b] (List.getElem?_eq_getElem (by omega))
  rw [h.lt (by omega) hi hlt] at this; cases this
 ·rfl
 ·have:=h2 keys[b - 1] (by omega) (List.getElem?_eq_getElem (by omega))
  rw [h.le hi (by omega) (by omega)] at this; cases this
theorem bsP_between{keys:List Txt}{low high k:Txt}{bound:Bool}(h:KeysOk keys low high bound){j:Nat}(hj:j≤keys.length)(h1:∀ x,0<j→keys[j - 1]?=some x→Op.bytesLess x k=true)(h2:∀ x,keys[j]?=some x→Op.bytesLess k x=true):bsP keys k=j:=by
 obtain ⟨b1,b2,b3⟩:=bsP_spec keys k
 generalize bsP keys k=b at b1 b2 b3
 rcases Nat.lt_trichotomy b j with hlt | rfl | hgt
 ·have a1:=b3 keys[b] (List.getElem?_eq_getElem (by omega))
  have a2:=h1 keys[j - 1] (by omega) (List.getElem?_eq_getElem (by omega))
  have a3:=h.le (i:=b) (j:=j - 1) (by omega) (by omega) (by omega)
  rw [le_lt a3 a2] at a1; cases a1
 ·rfl
 ·have a1:=b2 keys[b - 1] (by omega) (List.getElem?_eq_getElem (by omega))
  have a2:=h2 keys[j] (List.getElem?_eq_getElem (by omega))
  have a3:=h.le (i:=j) (j:=b - 1) (by omega) (by omega) (by omega)
  rw [nlt_tr a3 (lt_no a2)] at a1; cases a1
def loK(keys:List Txt)(low:Txt)(i:Nat):Txt:=if i=0 then low else keys.getD (i - 1) []
theorem downP_kid{n:Nd}{low high k:Txt}{bound:Bool}(h:KeysOk n.keys low high bound){j:Nat}(hj:j≤n.keys.length)(h1:Op.bytesLess k (loK n.keys low j)=false)(h2:∀ x,n.keys[j]?=some x→Op.bytesLess k x=true):downP n k=j:=by
 by_cases he:0<j∧n.keys[j - 1]?=some k
 ·obtain ⟨h0,he⟩:=he
  have hl:j - 1<n.keys.length:=by omega
  rw [List.getElem?_eq_getElem hl,Option.some.injEq] at he
  have hb:=bsP_at h hl
  rw [he] at hb
  unfold downP
  rw [hb,List.getElem?_eq_getElem hl,he,if_pos rfl]
  omega
 ·have hb:bsP n.keys k=j:=by
   refine bsP_between h hj (fun x h0 hx=>?_) h2
   have hl:j - 1<n.keys.length:=by omega
   unfold loK at h1
   rw [if_neg (by omega),List.getD_eq_getElem?_getD,hx,Option.getD_some] at h1
   cases hc:Op.bytesLess x k with
   | true=>rfl
   | false =>
    have:=lt_tri hc h1
    subst this
    exact (he ⟨h0,hx⟩).elim
  unfold downP
  rw [hb,if_neg]
  intro hc
  have:=h2 k hc
  rw [lt_irr] at this; cases this
structure Seen(P:List Txt)(g a:Nat)(low high:Txt)(bound:Bool)(v v':Vis):Prop where
 gave:Gave (recsP P g a) v v'
 low:∀ x∈recsP P g a,Op.bytesLess x.1 low=false
 high:bound=true→∀ x∈recsP P g a,Op.bytesLess x.1 high=true
 fit:∀ x∈recsP P g a,x.1.length≤32
 got:∀ x∈recsP P g a,getP P x.1 g a=some x.2
 walk:∀ {σ:Type} (f:σ→Rec→Bool × σ) (left:Nat) (s:σ),v'.pages.length - v.pages.length≤left→(walkP P f [] g a left s).1=(foldGo f (recsP P g a) s).1∧(walkP P f [] g a left s).2.2=(foldGo f (recsP P g a) s).2∧((walkP P f [] g a left s).1=true→left≤(walkP P f [] g a left s).2.1+(v'.pages.length - v.pages.length))
structure KidsSeen(P:List Txt)(g:Nat)(keys:List Txt)(low high:Txt)(bound:Bool)(i:Nat)(ks:List Nat)(v v':Vis):Prop where
 gave:Gave (ks.flatMap (recsP P g)) v v'
 kid:∀ x∈ks.flatMap (recsP P g),∃ j c,ks[j]?=some c∧Op.bytesLess x.1 (loK keys low (i+j))=false∧(∀ y,keys[i+j]?=some y→Op.bytesLess x.1 y=true)∧(bound=true→keys.length≤i+j→Op.bytesLess x.1 high=true)∧x.1.length≤32∧getP P x.1 g c=some x.2
 walk:∀ {σ:Type} (f:σ→Rec→Bool × σ) (left:Nat) (s:σ),v'.pages.length - v.pages.length≤left→(kidsGo (walkP P f [] g) ks left s).1=(foldGo f (ks.flatMap (recsP P g)) s).1∧(kidsGo (walkP P f [] g) ks left s).2.2=(foldGo f (ks.flatMap (recsP P g)) s).2∧((kidsGo (walkP P f [] g) ks left s).1=true→left≤(kidsGo (walkP P f [] g) ks left s).2.1+(v'.pages.length - v.pages.length))
theorem kids_seen{P:List Txt}{g:Nat}(ih:∀ a low high bound v,(visitP P g a low high bound v).bad=false→Seen P g a low high bound v (visitP P g a low high bound v))(keys:List Txt)(low high:Txt)(bound:Bool) :
  ∀ (ks:List Nat) (i:Nat) (v:Vis),(kidsV (visitP P g) keys low high bound i ks v).bad=false→KidsSeen P g keys low high bound i ks v (kidsV (visitP P g) keys low high bound i ks v)
 | [],i,v,h=>⟨Gave.nil rfl rfl (Nat.le_refl _),fun x hx=>(by cases hx),fun f left s _=>⟨rfl,rfl,fun _=>Nat.le_add_right _ _⟩⟩
 | k::ks,i,v,h=>by
  rw [kidsV] at h ⊢
  have hv1:=kidsV_bad (fun a b c d v=>visit_bad P g a b c d v) _ _ _ _ _ _ _ h
  have s1:=ih _ _ _ _ _ hv1
  have s2:=kids_seen ih keys low high bound ks (i+1) _ h
  generalize hV:visitP P g k _ _ _ v=v1 at h hv1 s1 s2 ⊢
  clear hV
  generalize kidsV (visitP P g) keys low high bound (i+1) ks v1=v2 at h s2 ⊢
  refine ⟨?_,fun x hx=>?_,fun f left s hl=>?_⟩
  ·rw [List.flatMap_cons]; exact s1.gave.app s2.gave
  ·rw [List.flatMap_cons] at hx
   rcases List.mem_append.1 hx with hx | hx
   ·refine ⟨0,k,rfl,s1.low x hx,fun y hy=>?_,fun hb hle=>?_,s1.fit x hx,s1.got x hx⟩
    ·have hlt:=(List.getElem?_eq_some_iff.1 hy).1
     rw [Nat.add_zero] at hlt hy
     have:=s1.high (by rw [decide_eq_true hlt]; rfl) x hx
     rw [if_pos hlt,List.getD_eq_getElem?_getD,hy] at this
     exact this
    ·rw [Nat.add_zero] at hle
     have:=s1.high (by rw [hb]; simp) x hx
     rwa [if_neg (by omega)] at this
   ·obtain ⟨j,c,h1,h2,h3,h4,h5,h6⟩:=s2.kid x hx
    refine ⟨j+1,c,by simpa using h1,?_,fun y hy=>?_,fun hb hle=>?_,h5,h6⟩
    ·rw [show i+(j+1)=i+1+j by omega]; exact h2
    ·rw [show i+(j+1)=i+1+j by omega] at hy; exact h3 y hy
    ·rw [show i+(j+1)=i+1+j by omega] at hle; exact h4 hb hle
  ·have l1:=s1.gave.len
   have l2:=s2.gave.len
   obtain ⟨w1,w2,w3⟩:=s1.walk f left s (by omega)
   rw [List.flatMap_cons,fold_app,kidsGo]
   by_cases hc:(walkP P f [] g k left s).1=true
   ·rw [if_pos hc]
    have hc':=hc
    rw [w1] at hc'
    rw [if_pos hc',← w2]
    have w3:=w3 hc
    obtain ⟨x1,x2,x3⟩:=s2.walk f (walkP P f [] g k left s).2.1 (walkP P f [] g k left s).2.2 (by omega)
    exact ⟨x1,x2,fun hh=>by have:=x3 hh; omega⟩
   ·rw [if_neg hc]
    have hc':=hc
    rw [w1] at hc'
    rw [if_neg hc']
    exact ⟨rfl,w2,fun hh=>by cases hh⟩
theorem visit_seen(P:List Txt):∀ (g a:Nat) (low high:Txt) (bound:Bool) (v:Vis),(visitP P g a low high bound v).bad=false→Seen P g a low high bound v (visitP P g a low high bound v)
 | 0,a,low,high,bound,v,h=>by
  rw [visitP] at h
  have:=(spoil_bad h).2
  cases this
 | g+1,a,low,high,bound,v,h=>by
  rw [visitP] at h ⊢
  split at h
  ·have:=(spoil_bad h).2; cases this
  rename_i hmem
  rw [if_neg hmem]
  split at h
  ·have:=(spoil_bad h).2; cases this
  rename_i n hn
  have hform:=(ndP_form hn).1
  have er:recsP P (g+1) a=if n.leaf=true then n.keys.zip n.vals else n.kids.flatMap (recsP P g):=by rw [recsP,hn]
  have eg:∀ k,getP P k (g+1) a=if n.leaf=true then (if n.keys[bsP n.keys k]?=some k then n.vals[bsP n.keys k]? else none) else getP P k g (n.kids.getD (downP n k) 0):=fun k=>by rw [getP,hn]
  have ew:∀ {σ:Type} (f:σ→Rec→Bool × σ) (left:Nat) (s:σ),walkP P f [] (g+1) a left s=if left=0 then (false,0,s) else if n.leaf=true then ((recsGo f [] (n.keys.zip n.vals) s).1,left - 1,(recsGo f [] (n.keys.zip n.vals) s).2) else kidsGo (walkP P f [] g) (n.kids.drop (downP n [])) (left - 1) s:=fun f left s=>by rw [walkP,hn]
  cases hlf:n.leaf with
  | true =>
   obtain ⟨hvl,_⟩:=hform.lf hlf
   rw [hlf,if_pos rfl] at h
   rw [if_pos rfl]
   rw [hlf,if_pos rfl] at er
   unfold leafV at h ⊢
   obtain ⟨h1,h2,h3⟩:=leafGo_gave _ _ h
   have hko:=keys_ok (spoil_bad (spoil_bad h1).1).2
   generalize leafGo _ _=v2 at h h2 h3 ⊢
   have hzip:∀ x∈n.keys.zip n.vals,∃ i,∃ hi:i<n.keys.length,∃ hi2:i<n.vals.length,x=(n.keys[i],n.vals[i]):=fun x hx=>by
    obtain ⟨i,hi,he⟩:=List.mem_iff_getElem.1 hx
    rw [List.length_zip] at hi
    exact ⟨i,by omega,by omega,by rw [← he,List.getElem_zip]⟩
   have e2:v2.pages.length=v.pages.length+1:=by rw [h2]; simp [Vis.spoil]
   have g3:Gave (n.keys.zip n.vals) v v2:=⟨h3.fin,h3.ups,h3.frm,h3.fit,by omega⟩
   refine ⟨er ▸ g3,fun x hx=>?_,fun hb x hx=>?_,fun x hx=>?_,fun x hx=>?_,fun f left s hl=>?_⟩
   ·rw [er] at hx
    obtain ⟨i,hi,hi2,rfl⟩:=hzip x hx
    exact hko.low _ (List.getElem_mem hi)
   ·rw [er] at hx
    obtain ⟨i,hi,hi2,rfl⟩:=hzip x hx
    exact hko.high hb _ (List.getElem_mem hi)
   ·rw [er] at hx
    obtain ⟨i,hi,hi2,rfl⟩:=hzip x hx
    exact hko.fit _ (List.getElem_mem hi)
   ·rw [er] at hx
    obtain ⟨i,hi,hi2,rfl⟩:=hzip x hx
    rw [eg,hlf,if_pos rfl]
    simp only
    rw [bsP_at hko hi,List.getElem?_eq_getElem hi,if_pos rfl,List.getElem?_eq_getElem hi2]
   ·rw [ew,if_neg (by omega),hlf,if_pos rfl,er,recs_fold]
    exact ⟨rfl,rfl,fun _=>by simp only; omega⟩
  | false =>
   obtain ⟨_,hkl⟩:=hform.nl hlf
   rw [hlf,if_neg (by decide)] at h
   rw [if_neg (by decide)]
   rw [hlf,if_neg (by decide)] at er
   have hb1:=kidsV_bad (fun a b c d v=>visit_bad P g a b c d v) _ _ _ _ _ _ _ h
   have hko:=keys_ok (spoil_bad hb1).2
   have ih:=visit_seen P g
   have ks:=kids_seen ih n.keys low high bound n.kids 0 _ h
   have kw:∀ {σ:Type} (f:σ→Rec→Bool × σ) (left:Nat) (s:σ),(kidsV (visitP P g) n.keys low high bound 0 n.kids (({ v with pages:=v.pages++[a] }:Vis).spoil ((List.range n.keys.length).any (keyBad n.keys low high bound)))).pages.length - (v.pages.length+1)≤left →
     (kidsGo (walkP P f [] g) (n.kids.drop (downP n [])) left s).1=(foldGo f (n.kids.flatMap (recsP P g)) s).1∧(kidsGo (walkP P f [] g) (n.kids.drop (downP n [])) left s).2.2=(foldGo f (n.kids.flatMap (recsP P g)) s).2∧((kidsGo (walkP P f [] g) (n.kids.drop (downP n [])) left s).1=true→left≤(kidsGo (walkP P f [] g) (n.kids.drop (downP n [])) left s).2.1+((kidsV (visitP P g) n.keys low high bound 0 n.kids (({ v with pages:=v.pages++[a] }:Vis).spoil ((List.range n.keys.length).any (keyBad n.keys low high bound)))).pages.length - (v.pages.length+1))):=by
    intro σ f left s hl
    have ep:(({ v with pages:=v.pages++[a] }:Vis).spoil ((List.range n.keys.length).any (keyBad n.keys low high bound))).pages.length=v.pages.length+1:=by simp [Vis.spoil]
    have hb0:bsP n.keys []=0:=by
     obtain ⟨_,h2,_⟩:=bsP_spec n.keys []
     rcases Nat.eq_zero_or_pos (bsP n.keys []) with h0 | h0
     ·exact h0
     ·have hle:=(bsP_spec n.keys []).1
      have:=h2 n.keys[bsP n.keys [] - 1] h0 (List.getElem?_eq_getElem (by omega))
      rw [lt_nil] at this; cases this
    unfold downP
    rw [hb0]
    split
    ·rename_i h0
     match hkids:n.kids,hkl with
     | k0::kr,_ =>
      rw [hkids] at h hl ks
      rw [kidsV,Nat.zero_add] at h
      have hv1:=kidsV_bad (fun a b c d v=>visit_bad P g a b c d v) _ _ _ _ _ _ _ h
      have s1:=ih _ _ _ _ _ hv1
      have s2:=kids_seen ih n.keys low high bound kr 1 _ h
      rw [kidsV,Nat.zero_add] at hl
      have hlen0:0<n.keys.length:=(List.getElem?_eq_some_iff.1 h0).1
      have e0:recsP P g k0=[]:=by
       refine List.eq_nil_iff_forall_not_mem.2 fun x hx=>?_
       have:=s1.high (by rw [decide_eq_true hlen0]; rfl) x hx
       rw [if_pos hlen0,List.getD_eq_getElem?_getD,h0,Option.getD_some,lt_nil] at this
       cases this
      have l1:=s1.gave.len
      have l2:=s2.gave.len
      rw [ep] at l1
      rw [List.flatMap_cons,e0,List.nil_append,List.drop_succ_cons,List.drop_zero,kidsV,Nat.zero_add]
      obtain ⟨x1,x2,x3⟩:=s2.walk f left s (by omega)
      exact ⟨x1,x2,fun hh=>by have:=x3 hh; omega⟩
    ·rw [List.drop_zero]
     have:=ks.walk f left s (by rw [ep]; exact hl)
     rw [ep] at this
     exact this
   generalize hv2:kidsV (visitP P g) n.keys low high bound 0 n.kids _=v2 at h ks kw ⊢
   have gv:=ks.gave
   have glen:v.pages.length+1≤v2.pages.length:=by
    have:=gv.len
    simpa [Vis.spoil] using this
   have gv':Gave (n.kids.flatMap (recsP P g)) v v2:=⟨gv.fin,gv.ups,gv.frm,gv.fit,by omega⟩
   have lo_ge:∀ j,j≤n.keys.length→Op.bytesLess (loK n.keys low j) low=false:=fun j hj=>by
    unfold loK
    split
    ·exact lt_irr _
    ·rw [List.getD_eq_getElem?_getD,List.getElem?_eq_getElem (by omega)]
     exact hko.low _ (List.getElem_mem _)
   refine ⟨er ▸ gv',fun x hx=>?_,fun hb x hx=>?_,fun x hx=>?_,fun x hx=>?_,fun f left s hl=>?_⟩
   ·rw [er] at hx
    obtain ⟨j,c,h1,h2,h3,h4,h5,h6⟩:=ks.kid x hx
    have hj:=(List.getElem?_eq_some_iff.1 h1).1
    rw [Nat.zero_add] at h2
    exact nlt_tr h2 (lo_ge j (by omega))
   ·rw [er] at hx
    obtain ⟨j,c,h1,h2,h3,h4,h5,h6⟩:=ks.kid x hx
    rw [Nat.zero_add] at h3 h4
    rcases Nat.lt_or_ge j n.keys.length with hj | hj
    ·exact lt_tr (h3 _ (List.getElem?_eq_getElem hj)) (hko.high hb _ (List.getElem_mem hj))
    ·exact h4 hb hj
   ·rw [er] at hx
    obtain ⟨j,c,h1,h2,h3,h4,h5,h6⟩:=ks.kid x hx
    exact h5
   ·rw [er] at hx
    obtain ⟨j,c,h1,h2,h3,h4,h5,h6⟩:=ks.kid x hx
    have hj:=(List.getElem?_eq_some_iff.1 h1).1
    rw [Nat.zero_add] at h2 h3
    rw [eg,hlf,if_neg (by decide),downP_kid hko (by omega) h2 h3,List.getD_eq_getElem?_getD,h1]
    exact h6
   ·rw [ew,if_neg (by omega),hlf,if_neg (by decide),er]
    obtain ⟨x1,x2,x3⟩:=kw f (left - 1) s (by omega)
    exact ⟨x1,x2,fun hh=>by have:=x3 hh; omega⟩
theorem getP_more(P:List Txt)(k v:Txt):∀ (f g a:Nat),f≤g→getP P k f a=some v→getP P k g a=some v
 | 0,_,_,_,h=>by cases h
 | f+1,0,_,hle,_=>by omega
 | f+1,g+1,a,hle,h=>by
  rw [getP] at h ⊢
  split at h
  ·cases h
  rename_i n hn
  split at h
  ·rename_i hl; rw [if_pos hl]; exact h
  ·rename_i hl; rw [if_neg hl]; exact getP_more P k v f g _ (by omega) h
end Go.Proofs.YtkmjkmjpejmlnaaGreat

end
