/- Texts put together by program. -/
import Derived.Test.YtkmjkmjpejmlnaaGreatQD3
set_option linter.unusedSimpArgs false
set_option linter.unusedVariables false
set_option maxRecDepth 100000
noncomputable section

namespace Go.Proofs.YtkmjkmjpejmlnaaGreat
open Go Go.Ann
def c141L0(_:Unit):Cmd:=(.seq (.ops [
 ⟨some 26,.next (.tmp 25) false,0,none⟩,
 ⟨some 27,.extract (.tmp 26) 0,4,none⟩] [0,4,25,27])
 (.seq (.cond (.tmp 27)
 (.skip [0,4,25])
 (.exit 0 [0,4])) (sg c141S1)))
def c141S2(_:Unit):Cmd:=(.cond (.tmp 51)
 (.seq (.ops [
 ⟨some 2,.assign (.const (.int .i64 12)),30,none⟩] [2])
 .ret)
 (.skip [0,4]))
def c141S3(_:Unit):Cmd:=(.seq (.ops [
 ⟨some 55,.move (.tmp 0),88,none⟩,
 ⟨some 56,.move (.tmp 7),30,none⟩,
 ⟨some 57,.binOp .neq 30 (.tmp 56) (.const (.int .i64 0)) 30,4,none⟩,
 ⟨some 58,.nilCheck (.tmp 55),0,none⟩,
 ⟨some 59,.fieldAddr 165 (.tmp 58) 3,0,none⟩,
 ⟨none,.store 4 (.tmp 59) (.tmp 57),0,none⟩] [7])
 (.seq (.ops [
 ⟨some 60,.move (.tmp 7),30,none⟩,
 ⟨some 2,.assign (.tmp 60),30,none⟩] [2])
 .ret))
def c141S4(_:Unit):Cmd:=(.seq (.ops [
 ⟨some 52,.move (.tmp 0),88,none⟩,
 ⟨some 53,.move (.tmp 4),36,none⟩,
 ⟨some 54,.call ⟨.value (.func 181),#[(.tmp 52),(.tmp 53)],#[88,36]⟩,30,none⟩,
 ⟨some 7,.assign (.tmp 54),30,none⟩] [0,7]) (sg c141S3))
def c141S5(_:Unit):Cmd:=(.seq (.seq (.draw (drawOps 0 c141code) [0,4,51]) (sg c141S2)) (sg c141S4))
def c141S6(_:Unit):Cmd:=(.seq (.ops [
 ⟨some 39,.move (.tmp 0),88,none⟩,
 ⟨some 40,.nilCheck (.tmp 39),0,none⟩,
 ⟨some 41,.fieldAddr 165 (.tmp 40) 2,0,none⟩,
 ⟨some 42,.load 163 (.tmp 41),163,none⟩,
 ⟨none,.call ⟨.builtin .clear,#[(.tmp 42)],#[163]⟩,0,none⟩] [0,4]) (sg c141S5))
def c141S7(_:Unit):Cmd:=(.seq (.ops [
 ⟨some 37,.move (.tmp 4),36,none⟩,
 ⟨some 38,.call ⟨.value (.func 178),#[(.tmp 37),(.func 179)],#[36,232]⟩,0,none⟩] [0,4]) (sg c141S6))
def c141S8(_:Unit):Cmd:=(.seq (.ops [
 ⟨some 4,.assign (.const (.slice none 0 0)),36,none⟩] [0,4])
 (.seq (.seq (.ops [
 ⟨some 21,.move (.tmp 0),88,none⟩,
 ⟨some 22,.nilCheck (.tmp 21),0,none⟩,
 ⟨some 23,.fieldAddr 165 (.tmp 22) 2,0,none⟩,
 ⟨some 24,.load 163 (.tmp 23),163,none⟩,
 ⟨some 25,.range 163 (.tmp 24),0,none⟩] [0,4,25])
 (.block 0 (.loop (sg c141L0)))) (sg c141S7)))
def c141:Cmd:=(.seq (.ops [
 ⟨some 2,.assign (.const (.int .i64 0)),30,none⟩] [0])
 (.seq (.seq (.ops [
 ⟨some 8,.move (.tmp 0),88,none⟩,
 ⟨some 9,.call ⟨.value (.func 159),#[(.tmp 8),(.const (.int .i64 0))],#[88,3]⟩,30,none⟩,
 ⟨some 3,.assign (.tmp 9),30,none⟩] [0,3]) (sg c141S0)) (sg c141S8)))
attribute [go_sem] c141 c141S0 c141S1 c141S2 c141S3 c141S4 c141S5 c141S8
def c141D0:List (Nat × Ins):=[
 (0,⟨some 43,.move (.tmp 4),36,none⟩),
 (0,⟨some 44,.call ⟨.builtin .len,#[(.tmp 43)],#[36]⟩,3,none⟩),
 (0,⟨some 46,.move (.tmp 0),88,none⟩),
 (0,⟨some 47,.nilCheck (.tmp 46),0,none⟩),
 (0,⟨some 48,.fieldAddr 165 (.tmp 47) 1,0,none⟩),
 (0,⟨some 49,.fieldAddr 160 (.tmp 48) 2,0,none⟩),
 (1,⟨some 50,.load 3 (.tmp 49),3,none⟩),
 (2,⟨some 45,.call ⟨.value (.func 155),#[(.tmp 44)],#[3]⟩,3,none⟩),
 (0,⟨some 51,.binOp .gtr 3 (.tmp 45) (.tmp 50) 3,4,none⟩)]
theorem c141draw0{L:List Nat}{ρ:Env}{w:World}{Q:Post}(S:World→Prop)(hS:S w.drew)(h:DG Tryz.prog S c141D0 L ρ w.drew Q):drawW Tryz.prog (drawOps 0 c141code) L ρ w Q :=
 drawW_held [7] [(0,0),(0,1),(0,3),(0,4),(0,5),(0,6),(1,7),(2,2),(0,8)] c141D0 (by kernel_rfl) (by kernel_rfl) (by kernel_rfl) S hS h
theorem ent141(a0:Value)(w:World)(K:Value→World→Prop)(h:W Tryz.prog c141 [(0,a0)] w (finQ Tryz.prog [.tmp 2] K)):Ret Tryz.prog 141 [a0] w K :=
 Ret_of_W (code:=c141code) Tryz.func141 (by kernel_rfl) (by kernel_rfl) (of_decide_eq_true (by kernel_rfl)) h
@[go_sem] theorem go141:goFunc Tryz.prog 141=true:=by kernel_rfl
@[go_sem] theorem go142:goFunc Tryz.prog 142=true:=by kernel_rfl
def c143code:Code:=match Tryz.f143.body with | some c=>c | none=>.skip
def c143S0(_:Unit):Cmd:=(.cond (.tmp 28)
 .ret
 (.skip [0,1,8,9,10]))
def c143S1(_:Unit):Cmd:=(.seq (.ops [
 ⟨some 20,.move (.tmp 6),30,none⟩,
 ⟨some 21,.binOp .neq 30 (.tmp 20) (.const (.int .i64 0)) 30,4,none⟩,
 ⟨some 22,.move (.tmp 21),4,none⟩,
 ⟨some 23,.move (.tmp 0),143,(some (22,false))⟩,
 ⟨some 24,.move (.tmp 4),3,(some (22,false))⟩,
 ⟨some 25,.move (.tmp 5),9,(some (22,false))⟩,
 ⟨some 26,.call ⟨.value (.tmp 23),#[(.tmp 24),(.tmp 25)],#[3,9]⟩,4,(some (22,false))⟩,
 ⟨some 27,.unOp .not 4 (.tmp 26),4,(some (22,false))⟩,
 ⟨some 28,.pick (.tmp 22) (.const (.bool true)) (.tmp 27),4,none⟩] [0,1,8,9,10,28]) (sg c143S0))
def c143S2(_:Unit):Cmd:=(.ops [
 ⟨some 29,.binOp .add 3 (.tmp 10) (.const (.int .i64 1)) 3,3,none⟩,
 ⟨some 10,.move (.tmp 29),3,none⟩] [0,1,8,9,10])
def c143S3(_:Unit):Cmd:=(.seq (.block 1 (.seq (.ops [
 ⟨some 12,.indexAddr 48 (.tmp 8) (.tmp 10),0,none⟩,
 ⟨some 13,.load 3 (.tmp 12),3,none⟩,
 ⟨some 4,.assign (.tmp 13),3,none⟩] [0,1,4,8,9,10])
 (.seq (.ops [
 ⟨some 15,.load 27 (.tmp 1),27,none⟩,
 ⟨some 16,.move (.tmp 4),3,none⟩,
 ⟨some 17,.call ⟨.value (.func 32),#[(.tmp 15),(.tmp 16)],#[27,3]⟩,50,none⟩,
 ⟨some 14,.move (.tmp 17),50,none⟩,
 ⟨some 18,.extract (.tmp 14) 0,9,none⟩,
 ⟨some 19,.extract (.tmp 14) 1,30,none⟩,
 ⟨some 5,.assign (.tmp 18),9,none⟩,
 ⟨some 6,.assign (.tmp 19),30,none⟩] [0,1,4,5,6,8,9,10]) (sg c143S1)))) (sg c143S2))
def c143L0(_:Unit):Cmd:=(.seq (.ops [
 ⟨some 11,.binOp .lss 3 (.tmp 10) (.tmp 9) 3,0,none⟩] [0,1,8,9,10,11])
 (.seq (.cond (.tmp 11)
 (.skip [0,1,8,9,10])
 (.exit 0 [])) (sg c143S3)))
def c143S4(_:Unit):Cmd:=(.block 0 (.loop (sg c143L0)))
def c143:Cmd:=(.seq (.ops [
 ⟨some 7,.load 27 (.tmp 1),27,none⟩,
 ⟨some 8,.call ⟨.value (.func 91),#[(.tmp 7)],#[27]⟩,48,none⟩,
 ⟨some 9,.call ⟨.builtin .len,#[(.tmp 8)],#[48]⟩,3,none⟩,
 ⟨some 10,.move (.const (.int .i64 0)),3,none⟩] [0,1,8,9,10]) (sg c143S4))
attribute [go_sem] c143 c143S0 c143S1 c143S2 c143S3 c143S4
theorem ent143(a0 a1:Value)(w:World)(K:Value→World→Prop)(h:W Tryz.prog c143 [(0,a0),(1,a1)] w (finQ Tryz.prog [] K)):Ret Tryz.prog 143 [a0,a1] w K :=
 Ret_of_W (code:=c143code) Tryz.func143 (by kernel_rfl) (by kernel_rfl) (of_decide_eq_true (by kernel_rfl)) h
@[go_sem] theorem go143:goFunc Tryz.prog 143=true:=by kernel_rfl
def c144code:Code:=match Tryz.f144.body with | some c=>c | none=>.skip
def c144S0(_:Unit):Cmd:=(.cond (.tmp 15)
 (.seq (.ops [
 ⟨some 4,.assign (.const (.string (ofL []))),9,none⟩,
 ⟨some 5,.assign (.const (.bool false)),4,none⟩] [4,5])
 .ret)
 (.skip [0,1]))
def c144S1(_:Unit):Cmd:=(.seq (.ops [
 ⟨some 22,.move (.tmp 0),9,none⟩,
 ⟨some 23,.move (.tmp 6),3,none⟩,
 ⟨some 24,.move (.tmp 6),3,none⟩,
 ⟨some 25,.move (.tmp 7),3,none⟩,
 ⟨some 26,.binOp .add 3 (.tmp 24) (.tmp 25) 3,3,none⟩,
 ⟨some 27,.slice 9 (.tmp 22) (some (.tmp 23)) (some (.tmp 26)) none,9,none⟩,
 ⟨some 28,.move (.tmp 7),3,none⟩,
 ⟨some 29,.binOp .gtr 3 (.tmp 28) (.const (.int .i64 0)) 3,4,none⟩,
 ⟨some 4,.assign (.tmp 27),9,none⟩,
 ⟨some 5,.assign (.tmp 29),4,none⟩] [4,5])
 .ret)
def c144S2(_:Unit):Cmd:=(.seq (.ops [
 ⟨some 17,.move (.tmp 0),9,none⟩,
 ⟨some 18,.move (.tmp 1),3,none⟩,
 ⟨some 19,.call ⟨.value (.func 148),#[(.tmp 17),(.tmp 18)],#[9,3]⟩,101,none⟩,
 ⟨some 16,.move (.tmp 19),101,none⟩,
 ⟨some 20,.extract (.tmp 16) 0,3,none⟩,
 ⟨some 21,.extract (.tmp 16) 1,3,none⟩,
 ⟨some 6,.assign (.tmp 20),3,none⟩,
 ⟨some 7,.assign (.tmp 21),3,none⟩] [0,6,7]) (sg c144S1))
def c144:Cmd:=(.seq (.ops [
 ⟨some 4,.assign (.const (.string (ofL []))),9,none⟩,
 ⟨some 5,.assign (.const (.bool false)),4,none⟩] [0,1])
 (.seq (.seq (.ops [
 ⟨some 8,.move (.tmp 1),3,none⟩,
 ⟨some 9,.binOp .lss 3 (.tmp 8) (.const (.int .i64 0)) 3,4,none⟩,
 ⟨some 10,.move (.tmp 9),4,none⟩,
 ⟨some 11,.move (.tmp 1),3,(some (10,false))⟩,
 ⟨some 12,.move (.tmp 0),9,(some (10,false))⟩,
 ⟨some 13,.call ⟨.value (.func 147),#[(.tmp 12)],#[9]⟩,3,(some (10,false))⟩,
 ⟨some 14,.binOp .geq 3 (.tmp 11) (.tmp 13) 3,4,(some (10,false))⟩,
 ⟨some 15,.pick (.tmp 10) (.const (.bool true)) (.tmp 14),4,none⟩] [0,1,15]) (sg c144S0)) (sg c144S2)))
attribute [go_sem] c144 c144S0 c144S1 c144S2
theorem ent144(a0 a1:Value)(w:World)(K:Value→World→Prop)(h:W Tryz.prog c144 [(0,a0),(1,a1)] w (finQ Tryz.prog [.tmp 4,.tmp 5] K)):Ret Tryz.prog 144 [a0,a1] w K :=
 Ret_of_W (code:=c144code) Tryz.func144 (by kernel_rfl) (by kernel_rfl) (of_decide_eq_true (by kernel_rfl)) h
@[go_sem] theorem go144:goFunc Tryz.prog 144=true:=by kernel_rfl
def c145code:Code:=match Tryz.f145.body with | some c=>c | none=>.skip
def c145S0(_:Unit):Cmd:=(.seq (.ops [
 ⟨some 17,.move (.tmp 0),96,none⟩,
 ⟨some 18,.nilCheck (.tmp 17),0,none⟩,
 ⟨some 19,.fieldAddr 206 (.tmp 18) 1,0,none⟩,
 ⟨some 20,.load 204 (.tmp 19),204,none⟩,
 ⟨some 21,.indexAddr 204 (.tmp 20) (.const (.int .i64 0)),0,none⟩,
 ⟨some 22,.fieldAddr 223 (.tmp 21) 1,0,none⟩,
 ⟨some 23,.load 9 (.tmp 22),9,none⟩,
 ⟨some 4,.assign (.tmp 23),9,none⟩,
 ⟨some 5,.assign (.const (.bool true)),4,none⟩] [4,5])
 .ret)
def c145S1(_:Unit):Cmd:=(.seq (.ops [
 ⟨some 14,.move (.tmp 0),96,none⟩,
 ⟨some 15,.move (.tmp 6),3,none⟩,
 ⟨some 16,.call ⟨.value (.func 183),#[(.tmp 14),(.tmp 15)],#[96,3]⟩,0,none⟩] [0]) (sg c145S0))
def c145S2(_:Unit):Cmd:=(.seq (.seq (.ops [
 ⟨some 11,.move (.tmp 6),3,none⟩,
 ⟨some 12,.binOp .lss 3 (.tmp 11) (.const (.int .i64 0)) 3,4,none⟩] [0,6,12])
 (.cond (.tmp 12)
 (.seq (.ops [
 ⟨some 7,.assign (.const (.string (ofL []))),9,none⟩] [7])
 (.seq (.ops [
 ⟨some 13,.move (.tmp 7),9,none⟩,
 ⟨some 4,.assign (.tmp 13),9,none⟩,
 ⟨some 5,.assign (.const (.bool false)),4,none⟩] [4,5])
 .ret))
 (.skip [0,6]))) (sg c145S1))
def c145:Cmd:=(.seq (.ops [
 ⟨some 4,.assign (.const (.string (ofL []))),9,none⟩,
 ⟨some 5,.assign (.const (.bool false)),4,none⟩] [0,1])
 (.seq (.ops [
 ⟨some 8,.move (.tmp 0),96,none⟩,
 ⟨some 9,.move (.tmp 1),3,none⟩,
 ⟨some 10,.call ⟨.value (.func 169),#[(.tmp 8),(.tmp 9)],#[96,3]⟩,3,none⟩,
 ⟨some 6,.assign (.tmp 10),3,none⟩] [0,6]) (sg c145S2)))
attribute [go_sem] c145 c145S0 c145S1 c145S2
theorem ent145(a0 a1:Value)(w:World)(K:Value→World→Prop)(h:W Tryz.prog c145 [(0,a0),(1,a1)] w (finQ Tryz.prog [.tmp 4,.tmp 5] K)):Ret Tryz.prog 145 [a0,a1] w K :=
 Ret_of_W (code:=c145code) Tryz.func145 (by kernel_rfl) (by kernel_rfl) (of_decide_eq_true (by kernel_rfl)) h
@[go_sem] theorem go145:goFunc Tryz.prog 145=true:=by kernel_rfl
def c146code:Code:=match Tryz.f146.body with | some c=>c | none=>.skip
def c146S0(_:Unit):Cmd:=(.seq (.ops [
 ⟨some 31,.move (.tmp 0),96,none⟩,
 ⟨some 32,.nilCheck (.tmp 31),0,none⟩,
 ⟨some 33,.fieldAddr 206 (.tmp 32) 1,0,none⟩,
 ⟨some 34,.load 204 (.tmp 33),204,none⟩,
 ⟨some 35,.move (.tmp 2),9,none⟩,
 ⟨some 36,.indexAddr 204 (.tmp 34) (.const (.int .i64 0)),0,none⟩,
 ⟨some 37,.fieldAddr 223 (.tmp 36) 1,0,none⟩,
 ⟨none,.store 9 (.tmp 37) (.tmp 35),0,none⟩] [9])
 (.seq (.ops [
 ⟨some 38,.move (.tmp 9),3,none⟩,
 ⟨some 6,.assign (.tmp 38),3,none⟩,
 ⟨some 7,.assign (.const (.bool false)),4,none⟩,
 ⟨some 8,.assign (.const (.int .i64 0)),30,none⟩] [6,7,8])
 .ret))
def c146S1(_:Unit):Cmd:=(.seq (.ops [
 ⟨some 26,.move (.tmp 10),3,none⟩,
 ⟨some 27,.binOp .geq 3 (.tmp 26) (.const (.int .i64 0)) 3,4,none⟩] [0,1,2,9,10,27])
 (.cond (.tmp 27)
 (.seq (.ops [
 ⟨some 28,.move (.tmp 0),96,none⟩,
 ⟨some 29,.move (.tmp 10),3,none⟩,
 ⟨some 30,.call ⟨.value (.func 183),#[(.tmp 28),(.tmp 29)],#[96,3]⟩,0,none⟩] [0,2,9]) (sg c146S0))
 (.skip [0,1,2,9])))
def c146S2(_:Unit):Cmd:=(.block 1 (.ops [
 ⟨some 68,.move (.tmp 12),3,none⟩,
 ⟨some 69,.binOp .sub 3 (.tmp 68) (.const (.int .i64 1)) 3,3,none⟩,
 ⟨some 12,.assign (.tmp 69),3,none⟩] [0,1,2,9,12]))
def c146L0(_:Unit):Cmd:=(.seq (.seq (.ops [
 ⟨some 55,.move (.tmp 12),3,none⟩,
 ⟨some 56,.binOp .geq 3 (.tmp 55) (.const (.int .i64 0)) 3,4,none⟩,
 ⟨some 57,.move (.tmp 56),4,none⟩,
 ⟨some 58,.move (.tmp 0),96,(some (57,true))⟩,
 ⟨some 59,.nilCheck (.tmp 58),0,(some (57,true))⟩,
 ⟨some 60,.fieldAddr 206 (.tmp 59) 1,0,(some (57,true))⟩,
 ⟨some 61,.load 204 (.tmp 60),204,(some (57,true))⟩,
 ⟨some 62,.move (.tmp 12),3,(some (57,true))⟩,
 ⟨some 63,.indexAddr 204 (.tmp 61) (.tmp 62),0,(some (57,true))⟩,
 ⟨some 64,.fieldAddr 223 (.tmp 63) 2,0,(some (57,true))⟩,
 ⟨some 65,.load 3 (.tmp 64),3,(some (57,true))⟩,
 ⟨some 66,.binOp .gtr 3 (.tmp 65) (.const (.int .i64 0)) 3,4,(some (57,true))⟩,
 ⟨some 67,.pick (.tmp 57) (.tmp 66) (.const (.bool false)),4,none⟩] [0,1,2,9,12,67])
 (.cond (.tmp 67)
 (.skip [0,1,2,9,12])
 (.exit 0 [0,1,2,9,12]))) (sg c146S2))
def c146S3(_:Unit):Cmd:=(.seq (.ops [
 ⟨some 73,.move (.tmp 0),96,none⟩,
 ⟨some 74,.nilCheck (.tmp 73),0,none⟩,
 ⟨some 75,.fieldAddr 206 (.tmp 74) 1,0,none⟩,
 ⟨some 76,.load 204 (.tmp 75),204,none⟩,
 ⟨some 77,.move (.tmp 12),3,none⟩,
 ⟨some 78,.indexAddr 204 (.tmp 76) (.tmp 77),0,none⟩,
 ⟨some 79,.fieldAddr 223 (.tmp 78) 0,0,none⟩,
 ⟨some 80,.load 3 (.tmp 79),3,none⟩,
 ⟨some 9,.assign (.tmp 80),3,none⟩,
 ⟨some 11,.assign (.const (.bool true)),4,none⟩] [0,1,2,9,11,12])
 (.ops [
 ⟨some 81,.move (.tmp 0),96,none⟩,
 ⟨some 82,.move (.tmp 0),96,none⟩,
 ⟨some 83,.nilCheck (.tmp 82),0,none⟩,
 ⟨some 84,.fieldAddr 206 (.tmp 83) 1,0,none⟩,
 ⟨some 85,.load 204 (.tmp 84),204,none⟩,
 ⟨some 86,.move (.tmp 12),3,none⟩,
 ⟨some 87,.move (.tmp 12),3,none⟩,
 ⟨some 88,.binOp .add 3 (.tmp 87) (.const (.int .i64 1)) 3,3,none⟩,
 ⟨some 89,.call ⟨.value (.func 170),#[(.tmp 85),(.tmp 86),(.tmp 88)],#[204,3,3]⟩,204,none⟩,
 ⟨some 90,.nilCheck (.tmp 81),0,none⟩,
 ⟨some 91,.fieldAddr 206 (.tmp 90) 1,0,none⟩,
 ⟨none,.store 204 (.tmp 91) (.tmp 89),0,none⟩] [0,1,2,9,11]))
def c146S4(_:Unit):Cmd:=(.seq (.seq (.ops [
 ⟨some 70,.move (.tmp 12),3,none⟩,
 ⟨some 71,.binOp .lss 3 (.tmp 70) (.const (.int .i64 0)) 3,4,none⟩] [0,1,2,9,12,71])
 (.cond (.tmp 71)
 (.seq (.ops [
 ⟨some 72,.move (.tmp 9),3,none⟩,
 ⟨some 6,.assign (.tmp 72),3,none⟩,
 ⟨some 7,.assign (.const (.bool false)),4,none⟩,
 ⟨some 8,.assign (.const (.int .i64 12)),30,none⟩] [6,7,8])
 .ret)
 (.skip [0,1,2,12]))) (sg c146S3))
def c146S5(_:Unit):Cmd:=(.cond (.tmp 48)
 (.seq (.ops [
 ⟨some 49,.move (.tmp 0),96,none⟩,
 ⟨some 50,.nilCheck (.tmp 49),0,none⟩,
 ⟨some 51,.fieldAddr 206 (.tmp 50) 1,0,none⟩,
 ⟨some 52,.load 204 (.tmp 51),204,none⟩,
 ⟨some 53,.call ⟨.builtin .len,#[(.tmp 52)],#[204]⟩,3,none⟩,
 ⟨some 54,.binOp .sub 3 (.tmp 53) (.const (.int .i64 1)) 3,3,none⟩,
 ⟨some 12,.assign (.tmp 54),3,none⟩] [0,1,2,9,12])
 (.seq (.block 0 (.loop (sg c146L0))) (sg c146S4)))
 (.skip [0,1,2,9,11]))
def c146S6(_:Unit):Cmd:=(.seq (.ops [
 ⟨some 104,.move (.tmp 9),3,none⟩,
 ⟨some 105,.move (.tmp 11),4,none⟩,
 ⟨some 6,.assign (.tmp 104),3,none⟩,
 ⟨some 7,.assign (.tmp 105),4,none⟩,
 ⟨some 8,.assign (.const (.int .i64 0)),30,none⟩] [6,7,8])
 .ret)
def c146S7(_:Unit):Cmd:=(.seq (.ops [
 ⟨some 92,.move (.tmp 0),96,none⟩,
 ⟨some 93,.move (.tmp 0),96,none⟩,
 ⟨some 94,.nilCheck (.tmp 93),0,none⟩,
 ⟨some 95,.fieldAddr 206 (.tmp 94) 1,0,none⟩,
 ⟨some 96,.load 204 (.tmp 95),204,none⟩,
 ⟨some 97,.move (.tmp 1),3,none⟩,
 ⟨some 98,.move (.tmp 2),9,none⟩,
 ⟨some 99,.build 223 #[(0,(.tmp 97)),(1,(.tmp 98))],223,none⟩,
 ⟨some 100,.buildSlice 204 1 #[(0,(.tmp 99))],204,none⟩,
 ⟨some 101,.call ⟨.value (.func 184),#[(.tmp 96),(.const (.int .i64 0)),(.tmp 100)],#[204,3,204]⟩,204,none⟩,
 ⟨some 102,.nilCheck (.tmp 92),0,none⟩,
 ⟨some 103,.fieldAddr 206 (.tmp 102) 1,0,none⟩,
 ⟨none,.store 204 (.tmp 103) (.tmp 101),0,none⟩] [9,11]) (sg c146S6))
def c146S8(_:Unit):Cmd:=(.seq (.ops [
 ⟨some 11,.assign (.const (.bool false)),4,none⟩] [0,1,2,9,11])
 (.seq (.seq (.draw (drawOps 0 c146code) [0,1,2,9,11,48]) (sg c146S5)) (sg c146S7)))
def c146S9(_:Unit):Cmd:=(.seq (.seq (.ops [
 ⟨some 23,.move (.tmp 0),96,none⟩,
 ⟨some 24,.move (.tmp 1),3,none⟩,
 ⟨some 25,.call ⟨.value (.func 169),#[(.tmp 23),(.tmp 24)],#[96,3]⟩,3,none⟩,
 ⟨some 10,.assign (.tmp 25),3,none⟩] [0,1,2,9,10]) (sg c146S1)) (sg c146S8))
def c146:Cmd:=(.seq (.ops [
 ⟨some 6,.assign (.const (.int .i64 0)),3,none⟩,
 ⟨some 7,.assign (.const (.bool false)),4,none⟩,
 ⟨some 8,.assign (.const (.int .i64 0)),30,none⟩] [0,1,2])
 (.seq (.ops [
 ⟨some 9,.assign (.const (.int .i64 0)),3,none⟩] [0,1,2,9])
 (.seq (.seq (.ops [
 ⟨some 13,.move (.tmp 0),96,none⟩,
 ⟨some 14,.binOp .eql 96 (.tmp 13) (.const (.pointer none)) 96,4,none⟩,
 ⟨some 15,.move (.tmp 14),4,none⟩,
 ⟨some 16,.move (.tmp 0),96,(some (15,false))⟩,
 ⟨some 17,.nilCheck (.tmp 16),0,(some (15,false))⟩,
 ⟨some 18,.fieldAddr 206 (.tmp 17) 0,0,(some (15,false))⟩,
 ⟨some 19,.load 3 (.tmp 18),3,(some (15,false))⟩,
 ⟨some 20,.binOp .eql 3 (.tmp 19) (.const (.int .i64 0)) 3,4,(some (15,false))⟩,
 ⟨some 21,.pick (.tmp 15) (.const (.bool true)) (.tmp 20),4,none⟩] [0,1,2,9,21])
 (.cond (.tmp 21)
 (.seq (.ops [
 ⟨some 22,.move (.tmp 9),3,none⟩,
 ⟨some 6,.assign (.tmp 22),3,none⟩,
 ⟨some 7,.assign (.const (.bool false)),4,none⟩,
 ⟨some 8,.assign (.const (.int .i64 3)),30,none⟩] [6,7,8])
 .ret)
 (.skip [0,1,2,9]))) (sg c146S9))))
attribute [go_sem] c146 c146S0 c146S1 c146S2 c146S3 c146S5 c146S6 c146S8 c146S9
def c146D0:List (Bool × Ins):=[
 (true,⟨some 39,.move (.tmp 0),96,none⟩),
 (true,⟨some 40,.nilCheck (.tmp 39),0,none⟩),
 (true,⟨some 41,.fieldAddr 206 (.tmp 40) 1,0,none⟩),
 (false,⟨some 42,.load 204 (.tmp 41),204,none⟩),
 (true,⟨some 43,.call ⟨.builtin .len,#[(.tmp 42)],#[204]⟩,3,none⟩),
 (true,⟨some 44,.move (.tmp 0),96,none⟩),
 (true,⟨some 45,.nilCheck (.tmp 44),0,none⟩),
 (true,⟨some 46,.fieldAddr 206 (.tmp 45) 0,0,none⟩),
 (false,⟨some 47,.load 3 (.tmp 46),3,none⟩),
 (true,⟨some 48,.binOp .geq 3 (.tmp 43) (.tmp 47) 3,4,none⟩)]
theorem c146draw0{L:List Nat}{ρ:Env}{w:World}{Q:Post}(h:DL Tryz.prog c146D0 L ρ w.drew Q):drawW Tryz.prog (drawOps 0 c146code) L ρ w Q :=
 drawW_still [true,true,true,false,true,true,true,true,false,true] c146D0 (by kernel_rfl) (by kernel_rfl) (by kernel_rfl) h
theorem ent146(a0 a1 a2:Value)(w:World)(K:Value→World→Prop)(h:W Tryz.prog c146 [(0,a0),(1,a1),(2,a2)] w (finQ Tryz.prog [.tmp 6,.tmp 7,.tmp 8] K)):Ret Tryz.prog 146 [a0,a1,a2] w K :=
 Ret_of_W (code:=c146code) Tryz.func146 (by kernel_rfl) (by kernel_rfl) (of_decide_eq_true (by kernel_rfl)) h
@[go_sem] theorem go146:goFunc Tryz.prog 146=true:=by kernel_rfl
def c147code:Code:=match Tryz.f147.body with | some c=>c | none=>.skip
def c147S0(_:Unit):Cmd:=(.seq (.ops [
 ⟨some 5,.move (.tmp 0),9,none⟩,
 ⟨some 6,.index 9 (.tmp 5) (.const (.int .i64 0)),5,none⟩,
 ⟨some 7,.convert 5 3 (.tmp 6),3,none⟩,
 ⟨some 2,.assign (.tmp 7),3,none⟩] [2])
 .ret)
def c147:Cmd:=(.seq (.ops [
 ⟨some 2,.assign (.const (.int .i64 0)),3,none⟩] [0])
 (.seq (.seq (.ops [
 ⟨some 3,.move (.tmp 0),9,none⟩,
 ⟨some 4,.binOp .eql 9 (.tmp 3) (.const (.string (ofL []))) 9,4,none⟩] [0,4])
 (.cond (.tmp 4)
 (.seq (.ops [
 ⟨some 2,.assign (.const (.int .i64 0)),3,none⟩] [2])
 .ret)
 (.skip [0]))) (sg c147S0)))
attribute [go_sem] c147 c147S0
theorem ent147(a0:Value)(w:World)(K:Value→World→Prop)(h:W Tryz.prog c147 [(0,a0)] w (finQ Tryz.prog [.tmp 2] K)):Ret Tryz.prog 147 [a0] w K :=
 Ret_of_W (code:=c147code) Tryz.func147 (by kernel_rfl) (by kernel_rfl) (of_decide_eq_true (by kernel_rfl)) h
@[go_sem] theorem go147:goFunc Tryz.prog 147=true:=by kernel_rfl
def c148code:Code:=match Tryz.f148.body with | some c=>c | none=>.skip
def c148S0(_:Unit):Cmd:=.ret
def c148:Cmd:=(.seq (.ops [
 ⟨some 4,.assign (.const (.int .i64 0)),3,none⟩,
 ⟨some 5,.assign (.const (.int .i64 0)),3,none⟩] [0,1])
 (.seq (.draw (drawOps 0 c148code) [4,5]) (sg c148S0)))
attribute [go_sem] c148 c148S0
def c148D0:List (Bool × Ins):=[
 (true,⟨some 6,.move (.tmp 0),9,none⟩),
 (true,⟨some 7,.move (.tmp 1),3,none⟩),
 (true,⟨some 8,.binOp .mul 3 (.const (.int .i64 2)) (.tmp 7) 3,3,none⟩),
 (true,⟨some 9,.binOp .add 3 (.const (.int .i64 1)) (.tmp 8) 3,3,none⟩),
 (true,⟨some 10,.index 9 (.tmp 6) (.tmp 9),5,none⟩),
 (true,⟨some 11,.convert 5 3 (.tmp 10),3,none⟩),
 (true,⟨some 12,.move (.tmp 0),9,none⟩),
 (true,⟨some 13,.move (.tmp 1),3,none⟩),
 (true,⟨some 14,.binOp .mul 3 (.const (.int .i64 2)) (.tmp 13) 3,3,none⟩),
 (true,⟨some 15,.binOp .add 3 (.const (.int .i64 1)) (.tmp 14) 3,3,none⟩),
 (true,⟨some 16,.binOp .add 3 (.tmp 15) (.const (.int .i64 1)) 3,3,none⟩),
 (true,⟨some 17,.index 9 (.tmp 12) (.tmp 16),5,none⟩),
 (true,⟨some 18,.convert 5 3 (.tmp 17),3,none⟩),
 (true,⟨some 4,.assign (.tmp 11),3,none⟩),
 (true,⟨some 5,.assign (.tmp 18),3,none⟩)]
theorem c148draw0{L:List Nat}{ρ:Env}{w:World}{Q:Post}(h:DL Tryz.prog c148D0 L ρ w.drew Q):drawW Tryz.prog (drawOps 0 c148code) L ρ w Q :=
 drawW_by [(true,0),(true,1),(true,2),(true,3),(true,4),(true,5),(true,6),(true,7),(true,8),(true,9),(true,10),(true,11),(true,12),(true,13),(true,14)] c148D0 (by kernel_rfl) (by kernel_rfl) (by kernel_rfl) h
theorem ent148(a0 a1:Value)(w:World)(K:Value→World→Prop)(h:W Tryz.prog c148 [(0,a0),(1,a1)] w (finQ Tryz.prog [.tmp 4,.tmp 5] K)):Ret Tryz.prog 148 [a0,a1] w K :=
 Ret_of_W (code:=c148code) Tryz.func148 (by kernel_rfl) (by kernel_rfl) (of_decide_eq_true (by kernel_rfl)) h
@[go_sem] theorem go148:goFunc Tryz.prog 148=true:=by kernel_rfl
def c149code:Code:=match Tryz.f149.body with | some c=>c | none=>.skip
def c149S0(_:Unit):Cmd:=(.cond (.tmp 24)
 .ret
 (.skip [0,1,7,8]))
def c149S1(_:Unit):Cmd:=(.seq (.ops [
 ⟨some 17,.move (.tmp 5),4,none⟩,
 ⟨some 18,.move (.tmp 17),4,none⟩,
 ⟨some 19,.move (.tmp 0),143,(some (18,true))⟩,
 ⟨some 20,.move (.tmp 3),3,(some (18,true))⟩,
 ⟨some 21,.move (.tmp 4),9,(some (18,true))⟩,
 ⟨some 22,.call ⟨.value (.tmp 19),#[(.tmp 20),(.tmp 21)],#[3,9]⟩,4,(some (18,true))⟩,
 ⟨some 23,.unOp .not 4 (.tmp 22),4,(some (18,true))⟩,
 ⟨some 24,.pick (.tmp 18) (.tmp 23) (.const (.bool false)),4,none⟩] [0,1,7,8,24]) (sg c149S0))
def c149S2(_:Unit):Cmd:=(.ops [
 ⟨some 25,.binOp .add 3 (.tmp 8) (.const (.int .i64 1)) 3,3,none⟩,
 ⟨some 8,.move (.tmp 25),3,none⟩] [0,1,7,8])
def c149S3(_:Unit):Cmd:=(.seq (.block 1 (.seq (.ops [
 ⟨some 10,.move (.tmp 8),3,none⟩,
 ⟨some 3,.assign (.tmp 10),3,none⟩] [0,1,3,7,8])
 (.seq (.ops [
 ⟨some 12,.load 9 (.tmp 1),9,none⟩,
 ⟨some 13,.move (.tmp 3),3,none⟩,
 ⟨some 14,.call ⟨.value (.func 144),#[(.tmp 12),(.tmp 13)],#[9,3]⟩,72,none⟩,
 ⟨some 11,.move (.tmp 14),72,none⟩,
 ⟨some 15,.extract (.tmp 11) 0,9,none⟩,
 ⟨some 16,.extract (.tmp 11) 1,4,none⟩,
 ⟨some 4,.assign (.tmp 15),9,none⟩,
 ⟨some 5,.assign (.tmp 16),4,none⟩] [0,1,3,4,5,7,8]) (sg c149S1)))) (sg c149S2))
def c149L0(_:Unit):Cmd:=(.seq (.ops [
 ⟨some 9,.binOp .lss 3 (.tmp 8) (.tmp 7) 3,4,none⟩] [0,1,7,8,9])
 (.seq (.cond (.tmp 9)
 (.skip [0,1,7,8])
 (.exit 0 [])) (sg c149S3)))
def c149S4(_:Unit):Cmd:=(.block 0 (.loop (sg c149L0)))
def c149:Cmd:=(.seq (.ops [
 ⟨some 6,.load 9 (.tmp 1),9,none⟩,
 ⟨some 7,.call ⟨.value (.func 147),#[(.tmp 6)],#[9]⟩,3,none⟩,
 ⟨some 8,.move (.const (.int .i64 0)),3,none⟩] [0,1,7,8]) (sg c149S4))
attribute [go_sem] c149 c149S0 c149S1 c149S2 c149S3 c149L0 c149S4
theorem ent149(a0 a1:Value)(w:World)(K:Value→World→Prop)(h:W Tryz.prog c149 [(0,a0),(1,a1)] w (finQ Tryz.prog [] K)):Ret Tryz.prog 149 [a0,a1] w K :=
 Ret_of_W (code:=c149code) Tryz.func149 (by kernel_rfl) (by kernel_rfl) (of_decide_eq_true (by kernel_rfl)) h
@[go_sem] theorem go149:goFunc Tryz.prog 149=true:=by kernel_rfl
def c150code:Code:=match Tryz.f150.body with | some c=>c | none=>.skip
def c150S0(_:Unit):Cmd:=(.seq (.ops [
 ⟨some 4,.assign (.const (.int .i64 0)),30,none⟩] [4])
 .ret)
def c150:Cmd:=(.seq (.ops [
 ⟨some 4,.assign (.const (.int .i64 0)),30,none⟩] [0,1])
 (.seq (.block 0 (.seq (.ops [
 ⟨some 6,.move (.tmp 0),23,none⟩,
 ⟨some 7,.binOp .eql 23 (.tmp 6) (.const (.pointer none)) 23,4,none⟩,
 ⟨some 8,.move (.tmp 7),4,none⟩,
 ⟨some 9,.move (.tmp 0),23,(some (8,false))⟩,
 ⟨some 10,.nilCheck (.tmp 9),0,(some (8,false))⟩,
 ⟨some 11,.fieldAddr 157 (.tmp 10) 0,0,(some (8,false))⟩,
 ⟨some 12,.load 22 (.tmp 11),22,(some (8,false))⟩,
 ⟨some 13,.binOp .eql 22 (.tmp 12) (.const (.slice none 0 0)) 22,4,(some (8,false))⟩,
 ⟨some 14,.pick (.tmp 8) (.const (.bool true)) (.tmp 13),4,none⟩,
 ⟨some 5,.assign (.tmp 14),4,none⟩] [0,1,5])
 (.cond (.tmp 5)
 (.seq (.ops [
 ⟨some 4,.assign (.const (.int .i64 3)),30,none⟩] [4])
 .ret)
 (.seq (.ops [
 ⟨some 16,.move (.tmp 0),23,none⟩,
 ⟨some 17,.nilCheck (.tmp 16),0,none⟩,
 ⟨some 18,.fieldAddr 157 (.tmp 17) 3,0,none⟩,
 ⟨some 19,.load 4 (.tmp 18),4,none⟩,
 ⟨some 15,.assign (.tmp 19),4,none⟩] [0,1,15])
 (.cond (.tmp 15)
 (.seq (.ops [
 ⟨some 4,.assign (.const (.int .i64 11)),30,none⟩] [4])
 .ret)
 (.seq (.ops [
 ⟨some 21,.move (.tmp 1),3,none⟩,
 ⟨some 22,.binOp .lss 3 (.tmp 21) (.const (.int .i64 0)) 3,4,none⟩,
 ⟨some 23,.move (.tmp 22),4,none⟩,
 ⟨some 24,.move (.tmp 1),3,(some (23,false))⟩,
 ⟨some 25,.move (.tmp 0),23,(some (23,false))⟩,
 ⟨some 26,.nilCheck (.tmp 25),0,(some (23,false))⟩,
 ⟨some 27,.fieldAddr 157 (.tmp 26) 0,0,(some (23,false))⟩,
 ⟨some 28,.load 22 (.tmp 27),22,(some (23,false))⟩,
 ⟨some 29,.call ⟨.builtin .len,#[(.tmp 28)],#[22]⟩,3,(some (23,false))⟩,
 ⟨some 30,.binOp .geq 3 (.tmp 24) (.tmp 29) 3,4,(some (23,false))⟩,
 ⟨some 31,.pick (.tmp 23) (.const (.bool true)) (.tmp 30),4,none⟩,
 ⟨some 20,.assign (.tmp 31),4,none⟩] [20])
 (.cond (.tmp 20)
 (.seq (.ops [
 ⟨some 4,.assign (.const (.int .i64 10)),30,none⟩] [4])
 .ret)
 (.skip [])))))))) (sg c150S0)))
attribute [go_sem] c150 c150S0
theorem ent150(a0 a1:Value)(w:World)(K:Value→World→Prop)(h:W Tryz.prog c150 [(0,a0),(1,a1)] w (finQ Tryz.prog [.tmp 4] K)):Ret Tryz.prog 150 [a0,a1] w K :=
 Ret_of_W (code:=c150code) Tryz.func150 (by kernel_rfl) (by kernel_rfl) (of_decide_eq_true (by kernel_rfl)) h
@[go_sem] theorem go150:goFunc Tryz.prog 150=true:=by kernel_rfl
def c151code:Code:=match Tryz.f151.body with | some c=>c | none=>.skip
def c151S0(_:Unit):Cmd:=(.seq (.ops [
 ⟨some 2,.assign (.const (.int .i64 0)),30,none⟩] [2])
 .ret)
def c151S1(_:Unit):Cmd:=(.seq (.seq (.ops [
 ⟨some 11,.move (.tmp 0),23,none⟩,
 ⟨some 12,.nilCheck (.tmp 11),0,none⟩,
 ⟨some 13,.fieldAddr 157 (.tmp 12) 2,0,none⟩,
 ⟨some 14,.load 3 (.tmp 13),3,none⟩,
 ⟨some 15,.binOp .gtr 3 (.tmp 14) (.const (.int .i64 0)) 3,4,none⟩] [0,15])
 (.cond (.tmp 15)
 (.ops [
 ⟨some 16,.move (.tmp 0),23,none⟩,
 ⟨some 17,.nilCheck (.tmp 16),0,none⟩,
 ⟨some 18,.fieldAddr 157 (.tmp 17) 2,0,none⟩,
 ⟨some 19,.load 3 (.tmp 18),3,none⟩,
 ⟨some 20,.binOp .sub 3 (.tmp 19) (.const (.int .i64 1)) 3,3,none⟩,
 ⟨some 21,.nilCheck (.tmp 16),0,none⟩,
 ⟨some 22,.fieldAddr 157 (.tmp 21) 2,0,none⟩,
 ⟨none,.store 3 (.tmp 22) (.tmp 20),0,none⟩] [])
 (.skip []))) (sg c151S0))
def c151:Cmd:=(.seq (.ops [
 ⟨some 2,.assign (.const (.int .i64 0)),30,none⟩] [0])
 (.seq (.seq (.ops [
 ⟨some 3,.move (.tmp 0),23,none⟩,
 ⟨some 4,.nilCheck (.tmp 3),0,none⟩,
 ⟨some 5,.fieldAddr 157 (.tmp 4) 2,0,none⟩,
 ⟨some 6,.load 3 (.tmp 5),3,none⟩,
 ⟨some 7,.binOp .eql 3 (.tmp 6) (.const (.int .i64 0)) 3,4,none⟩] [0,7])
 (.cond (.tmp 7)
 (.seq (.ops [
 ⟨some 8,.move (.tmp 0),23,none⟩,
 ⟨some 9,.nilCheck (.tmp 8),0,none⟩,
 ⟨some 10,.fieldAddr 157 (.tmp 9) 3,0,none⟩,
 ⟨none,.store 4 (.tmp 10) (.const (.bool true)),0,none⟩] [])
 (.seq (.ops [
 ⟨some 2,.assign (.const (.int .i64 11)),30,none⟩] [2])
 .ret))
 (.skip [0]))) (sg c151S1)))
attribute [go_sem] c151 c151S0 c151S1
theorem ent151(a0:Value)(w:World)(K:Value→World→Prop)(h:W Tryz.prog c151 [(0,a0)] w (finQ Tryz.prog [.tmp 2] K)):Ret Tryz.prog 151 [a0] w K :=
 Ret_of_W (code:=c151code) Tryz.func151 (by kernel_rfl) (by kernel_rfl) (of_decide_eq_true (by kernel_rfl)) h
@[go_sem] theorem go151:goFunc Tryz.prog 151=true:=by kernel_rfl
def c152code:Code:=match Tryz.f152.body with | some c=>c | none=>.skip
def c152S0(_:Unit):Cmd:=.ret
def c152S1(_:Unit):Cmd:=(.seq (.ops [
 ⟨some 22,.move (.tmp 3),9,none⟩,
 ⟨some 23,.move (.tmp 3),9,none⟩,
 ⟨some 24,.call ⟨.value (.func 185),#[(.tmp 23)],#[9]⟩,9,none⟩,
 ⟨some 25,.binOp .add 9 (.tmp 22) (.tmp 24) 9,9,none⟩,
 ⟨some 2,.assign (.tmp 25),9,none⟩] [2]) (sg c152S0))
def c152:Cmd:=(.seq (.ops [
 ⟨some 1,.box 160 (.tmp 0),0,none⟩,
 ⟨some 2,.assign (.const (.string (ofL []))),9,none⟩] [1])
 (.seq (.draw (drawOps 0 c152code) [3]) (sg c152S1)))
attribute [go_sem] c152 c152S0 c152S1
def c152D0:List (Nat × Ins):=[
 (0,⟨some 4,.fieldAddr 160 (.tmp 1) 0,0,none⟩),
 (0,⟨some 7,.fieldAddr 160 (.tmp 1) 1,0,none⟩),
 (0,⟨some 12,.fieldAddr 160 (.tmp 1) 2,0,none⟩),
 (0,⟨some 17,.fieldAddr 160 (.tmp 1) 3,0,none⟩),
 (1,⟨some 5,.load 147 (.tmp 4),147,none⟩),
 (1,⟨some 8,.load 3 (.tmp 7),3,none⟩),
 (0,⟨some 9,.convert 3 147 (.tmp 8),147,none⟩),
 (1,⟨some 13,.load 3 (.tmp 12),3,none⟩),
 (0,⟨some 14,.convert 3 147 (.tmp 13),147,none⟩),
 (1,⟨some 18,.load 3 (.tmp 17),3,none⟩),
 (0,⟨some 19,.convert 3 147 (.tmp 18),147,none⟩),
 (2,⟨some 6,.call ⟨.value (.func 118),#[(.tmp 5),(.const (.int .i64 8))],#[147,3]⟩,9,none⟩),
 (2,⟨some 10,.call ⟨.value (.func 118),#[(.tmp 9),(.const (.int .i64 4))],#[147,3]⟩,9,none⟩),
 (0,⟨some 11,.binOp .add 9 (.tmp 6) (.tmp 10) 9,9,none⟩),
 (2,⟨some 15,.call ⟨.value (.func 118),#[(.tmp 14),(.const (.int .i64 4))],#[147,3]⟩,9,none⟩),
 (0,⟨some 16,.binOp .add 9 (.tmp 11) (.tmp 15) 9,9,none⟩),
 (2,⟨some 20,.call ⟨.value (.func 118),#[(.tmp 19),(.const (.int .i64 4))],#[147,3]⟩,9,none⟩),
 (0,⟨some 21,.binOp .add 9 (.tmp 16) (.tmp 20) 9,9,none⟩),
 (0,⟨some 3,.assign (.tmp 21),9,none⟩)]
theorem c152draw0{L:List Nat}{ρ:Env}{w:World}{Q:Post}(S:World→Prop)(hS:S w.drew)(h:DG Tryz.prog S c152D0 L ρ w.drew Q):drawW Tryz.prog (drawOps 0 c152code) L ρ w Q :=
 drawW_held [1,4,9,14] [(0,0),(0,3),(0,8),(0,13),(1,1),(1,4),(0,5),(1,9),(0,10),(1,14),(0,15),(2,2),(2,6),(0,7),(2,11),(0,12),(2,16),(0,17),(0,18)] c152D0 (by kernel_rfl) (by kernel_rfl) (by kernel_rfl) S hS h
theorem ent152(a0:Value)(w:World)(K:Value→World→Prop)(h:W Tryz.prog c152 [(0,a0)] w (finQ Tryz.prog [.tmp 2] K)):Ret Tryz.prog 152 [a0] w K :=
 Ret_of_W (code:=c152code) Tryz.func152 (by kernel_rfl) (by kernel_rfl) (of_decide_eq_true (by kernel_rfl)) h
@[go_sem] theorem go152:goFunc Tryz.prog 152=true:=by kernel_rfl
def c153code:Code:=match Tryz.f153.body with | some c=>c | none=>.skip
def c153S0(_:Unit):Cmd:=(.ops [
 ⟨some 32,.binOp .add 3 (.tmp 19) (.const (.int .i64 1)) 3,3,none⟩,
 ⟨some 19,.move (.tmp 32),3,none⟩] [0,3,17,18,19])
def c153S1(_:Unit):Cmd:=(.seq (.block 1 (.seq (.ops [
 ⟨some 21,.indexAddr 155 (.tmp 17) (.tmp 19),0,none⟩,
 ⟨some 22,.load 199 (.tmp 21),199,none⟩,
 ⟨some 5,.alloc 199,0,none⟩,
 ⟨none,.store 199 (.tmp 5) (.tmp 22),0,none⟩] [0,3,5,17,18,19])
 (.draw (drawOps 0 c153code) [0,3,17,18,19]))) (sg c153S0))
def c153L0(_:Unit):Cmd:=(.seq (.ops [
 ⟨some 20,.binOp .lss 3 (.tmp 19) (.tmp 18) 3,0,none⟩] [0,3,17,18,19,20])
 (.seq (.cond (.tmp 20)
 (.skip [0,3,17,18,19])
 (.exit 0 [0,3])) (sg c153S1)))
def c153S2(_:Unit):Cmd:=(.ops [
 ⟨some 33,.move (.tmp 0),23,none⟩,
 ⟨some 34,.nilCheck (.tmp 33),0,none⟩,
 ⟨some 35,.fieldAddr 157 (.tmp 34) 1,0,none⟩,
 ⟨none,.store 155 (.tmp 35) (.const (.slice none 0 0)),0,none⟩] [3])
def c153S3(_:Unit):Cmd:=(.seq (.ops [
 ⟨some 36,.move (.tmp 3),30,none⟩,
 ⟨some 2,.assign (.tmp 36),30,none⟩] [2])
 .ret)
def c153S4(_:Unit):Cmd:=(.seq (.seq (.ops [
 ⟨some 12,.move (.tmp 3),30,none⟩,
 ⟨some 13,.binOp .eql 30 (.tmp 12) (.const (.int .i64 0)) 30,4,none⟩] [0,3,13])
 (.cond (.tmp 13)
 (.seq (.seq (.ops [
 ⟨some 14,.move (.tmp 0),23,none⟩,
 ⟨some 15,.nilCheck (.tmp 14),0,none⟩,
 ⟨some 16,.fieldAddr 157 (.tmp 15) 1,0,none⟩,
 ⟨some 17,.load 155 (.tmp 16),155,none⟩,
 ⟨some 18,.call ⟨.builtin .len,#[(.tmp 17)],#[155]⟩,3,none⟩,
 ⟨some 19,.move (.const (.int .i64 0)),3,none⟩] [0,3,17,18,19])
 (.block 0 (.loop (sg c153L0)))) (sg c153S2))
 (.skip [3]))) (sg c153S3))
def c153S5(_:Unit):Cmd:=(.seq (.seq (.ops [
 ⟨some 8,.move (.tmp 3),30,none⟩,
 ⟨some 9,.binOp .eql 30 (.tmp 8) (.const (.int .i64 0)) 30,4,none⟩] [0,3,9])
 (.cond (.tmp 9)
 (.ops [
 ⟨some 10,.move (.tmp 0),23,none⟩,
 ⟨some 11,.call ⟨.value (.func 151),#[(.tmp 10)],#[23]⟩,30,none⟩,
 ⟨some 3,.assign (.tmp 11),30,none⟩] [0,3])
 (.skip [0,3]))) (sg c153S4))
def c153:Cmd:=(.seq (.ops [
 ⟨some 2,.assign (.const (.int .i64 0)),30,none⟩] [0])
 (.seq (.ops [
 ⟨some 6,.move (.tmp 0),23,none⟩,
 ⟨some 7,.call ⟨.value (.func 150),#[(.tmp 6),(.const (.int .i64 0))],#[23,3]⟩,30,none⟩,
 ⟨some 3,.assign (.tmp 7),30,none⟩] [0,3]) (sg c153S5)))
attribute [go_sem] c153 c153S0 c153S1 c153S2 c153S3 c153S4 c153S5
def c153D0:List (Nat × Ins):=[
 (0,⟨some 23,.move (.tmp 0),23,none⟩),
 (0,⟨some 24,.nilCheck (.tmp 23),0,none⟩),
 (0,⟨some 25,.fieldAddr 157 (.tmp 24) 0,0,none⟩),
 (0,⟨some 27,.fieldAddr 199 (.tmp 5) 0,0,none⟩),
 (0,⟨some 29,.fieldAddr 199 (.tmp 5) 1,0,none⟩),
 (1,⟨some 26,.load 22 (.tmp 25),22,none⟩),
 (1,⟨some 28,.load 3 (.tmp 27),3,none⟩),
 (2,⟨some 30,.load 9 (.tmp 29),9,none⟩),
 (0,⟨some 31,.indexAddr 22 (.tmp 26) (.tmp 28),0,none⟩),
 (3,⟨none,.store 9 (.tmp 31) (.tmp 30),0,none⟩)]
theorem c153draw0{L:List Nat}{ρ:Env}{w:World}{Q:Post}(S:World→Prop)(hS:S w.drew)(h:DG Tryz.prog S c153D0 L ρ w.drew Q):drawW Tryz.prog (drawOps 0 c153code) L ρ w Q :=
 drawW_held [3,5] [(0,0),(0,1),(0,2),(0,4),(0,6),(1,3),(1,5),(2,7),(0,8),(3,9)] c153D0 (by kernel_rfl) (by kernel_rfl) (by kernel_rfl) S hS h
theorem ent153(a0:Value)(w:World)(K:Value→World→Prop)(h:W Tryz.prog c153 [(0,a0)] w (finQ Tryz.prog [.tmp 2] K)):Ret Tryz.prog 153 [a0] w K :=
 Ret_of_W (code:=c153code) Tryz.func153 (by kernel_rfl) (by kernel_rfl) (of_decide_eq_true (by kernel_rfl)) h
@[go_sem] theorem go153:goFunc Tryz.prog 153=true:=by kernel_rfl
def c154code:Code:=match Tryz.f154.body with | some c=>c | none=>.skip
def c154S0(_:Unit):Cmd:=(.cond (.tmp 15)
 (.seq (.ops [
 ⟨some 16,.build 160 #[],160,none⟩,
 ⟨none,.store 160 (.tmp 2) (.tmp 16),0,none⟩,
 ⟨some 3,.assign (.const (.bool false)),4,none⟩] [2,3])
 .ret)
 (.skip [1,2]))
def c154S1(_:Unit):Cmd:=.ret
def c154S2(_:Unit):Cmd:=(.seq (.ops [
 ⟨some 17,.makeFunc (.func 186) #[] #[(.tmp 1)],173,none⟩,
 ⟨some 4,.assign (.tmp 17),173,none⟩] [1,2,4])
 (.seq (.ops [
 ⟨some 18,.load 9 (.tmp 1),9,none⟩,
 ⟨some 19,.slice 9 (.tmp 18) none (some (.const (.int .i64 8))) none,9,none⟩,
 ⟨some 20,.call ⟨.value (.func 98),#[(.tmp 19)],#[9]⟩,147,none⟩,
 ⟨some 21,.move (.tmp 4),173,none⟩,
 ⟨some 22,.call ⟨.value (.tmp 21),#[(.const (.int .i64 8))],#[3]⟩,3,none⟩,
 ⟨some 23,.move (.tmp 4),173,none⟩,
 ⟨some 24,.call ⟨.value (.tmp 23),#[(.const (.int .i64 12))],#[3]⟩,3,none⟩,
 ⟨some 25,.move (.tmp 4),173,none⟩,
 ⟨some 26,.call ⟨.value (.tmp 25),#[(.const (.int .i64 16))],#[3]⟩,3,none⟩,
 ⟨some 27,.build 160 #[(0,(.tmp 20)),(1,(.tmp 22)),(2,(.tmp 24)),(3,(.tmp 26))],160,none⟩,
 ⟨none,.store 160 (.tmp 2) (.tmp 27),0,none⟩,
 ⟨some 3,.assign (.const (.bool true)),4,none⟩] [2,3]) (sg c154S1)))
def c154:Cmd:=(.seq (.ops [
 ⟨some 1,.box 9 (.tmp 0),0,none⟩,
 ⟨some 2,.alloc 160,0,none⟩,
 ⟨some 3,.assign (.const (.bool false)),4,none⟩] [1,2])
 (.seq (.seq (.draw (drawOps 0 c154code) [1,2,15]) (sg c154S0)) (sg c154S2)))
attribute [go_sem] c154 c154S0 c154S1 c154S2
def c154D0:List (Nat × Ins):=[
 (2,⟨some 5,.load 9 (.tmp 1),9,none⟩),
 (0,⟨some 6,.call ⟨.builtin .len,#[(.tmp 5)],#[9]⟩,3,none⟩),
 (0,⟨some 7,.binOp .lss 3 (.tmp 6) (.const (.int .i64 40)) 3,4,none⟩),
 (0,⟨some 8,.move (.tmp 7),4,none⟩),
 (1,⟨some 9,.load 9 (.tmp 1),9,(some (8,false))⟩),
 (0,⟨some 10,.slice 9 (.tmp 9) none (some (.const (.int .i64 20))) none,9,(some (8,false))⟩),
 (1,⟨some 12,.load 9 (.tmp 1),9,(some (8,false))⟩),
 (0,⟨some 13,.slice 9 (.tmp 12) (some (.const (.int .i64 20))) (some (.const (.int .i64 40))) none,9,(some (8,false))⟩),
 (2,⟨some 11,.call ⟨.value (.func 185),#[(.tmp 10)],#[9]⟩,9,(some (8,false))⟩),
 (0,⟨some 14,.binOp .neq 9 (.tmp 11) (.tmp 13) 9,4,(some (8,false))⟩),
 (0,⟨some 15,.pick (.tmp 8) (.const (.bool true)) (.tmp 14),4,none⟩)]
theorem c154draw0{L:List Nat}{ρ:Env}{w:World}{Q:Post}(S:World→Prop)(hS:S w.drew)(h:DG Tryz.prog S c154D0 L ρ w.drew Q):drawW Tryz.prog (drawOps 0 c154code) L ρ w Q :=
 drawW_held [4,7] [(2,0),(0,1),(0,2),(0,3),(1,4),(0,5),(1,7),(0,8),(2,6),(0,9),(0,10)] c154D0 (by kernel_rfl) (by kernel_rfl) (by kernel_rfl) S hS h
theorem ent154(a0:Value)(w:World)(K:Value→World→Prop)(h:W Tryz.prog c154 [(0,a0)] w (finQ Tryz.prog [.cell 2 160,.tmp 3] K)):Ret Tryz.prog 154 [a0] w K :=
 Ret_of_W (code:=c154code) Tryz.func154 (by kernel_rfl) (by kernel_rfl) (of_decide_eq_true (by kernel_rfl)) h
@[go_sem] theorem go154:goFunc Tryz.prog 154=true:=by kernel_rfl
def c155code:Code:=match Tryz.f155.body with | some c=>c | none=>.skip
def c155S0(_:Unit):Cmd:=.ret
def c155:Cmd:=(.seq (.ops [
 ⟨some 2,.assign (.const (.int .i64 0)),3,none⟩] [0])
 (.seq (.ops [
 ⟨some 3,.move (.tmp 0),3,none⟩,
 ⟨some 4,.call ⟨.value (.func 157),#[(.tmp 3)],#[3]⟩,3,none⟩,
 ⟨some 5,.move (.tmp 0),3,none⟩,
 ⟨some 6,.binOp .add 3 (.tmp 4) (.tmp 5) 3,3,none⟩,
 ⟨some 2,.assign (.tmp 6),3,none⟩] [2]) (sg c155S0)))
attribute [go_sem] c155 c155S0
theorem ent155(a0:Value)(w:World)(K:Value→World→Prop)(h:W Tryz.prog c155 [(0,a0)] w (finQ Tryz.prog [.tmp 2] K)):Ret Tryz.prog 155 [a0] w K :=
 Ret_of_W (code:=c155code) Tryz.func155 (by kernel_rfl) (by kernel_rfl) (of_decide_eq_true (by kernel_rfl)) h
@[go_sem] theorem go155:goFunc Tryz.prog 155=true:=by kernel_rfl
@[go_sem] theorem go156:goFunc Tryz.prog 156=true:=by kernel_rfl
def c157code:Code:=match Tryz.f157.body with | some c=>c | none=>.skip
def c157:Cmd:=(.seq (.ops [
 ⟨some 2,.assign (.const (.int .i64 0)),3,none⟩] [0])
 (.seq (.ops [
 ⟨some 3,.move (.tmp 0),3,none⟩,
 ⟨some 4,.binOp .mul 3 (.const (.int .i64 4)) (.tmp 3) 3,3,none⟩,
 ⟨some 5,.binOp .add 3 (.tmp 4) (.const (.int .i64 4)) 3,3,none⟩,
 ⟨some 6,.binOp .add 3 (.tmp 5) (.const (.int .i64 256)) 3,3,none⟩,
 ⟨some 7,.binOp .sub 3 (.tmp 6) (.const (.int .i64 1)) 3,3,none⟩,
 ⟨some 8,.binOp .quo 3 (.tmp 7) (.const (.int .i64 256)) 3,3,none⟩,
 ⟨some 2,.assign (.tmp 8),3,none⟩] [2])
 .ret))
attribute [go_sem] c157
theorem ent157(a0:Value)(w:World)(K:Value→World→Prop)(h:W Tryz.prog c157 [(0,a0)] w (finQ Tryz.prog [.tmp 2] K)):Ret Tryz.prog 157 [a0] w K :=
 Ret_of_W (code:=c157code) Tryz.func157 (by kernel_rfl) (by kernel_rfl) (of_decide_eq_true (by kernel_rfl)) h
@[go_sem] theorem go157:goFunc Tryz.prog 157=true:=by kernel_rfl
def c158code:Code:=match Tryz.f158.body with | some c=>c | none=>.skip
def c158S0(_:Unit):Cmd:=(.seq (.ops [
 ⟨some 23,.move (.tmp 6),30,none⟩,
 ⟨some 24,.binOp .neq 30 (.tmp 23) (.const (.int .i64 0)) 30,4,none⟩] [0,5,6,24])
 (.cond (.tmp 24)
 (.seq (.ops [
 ⟨some 25,.move (.tmp 6),30,none⟩,
 ⟨some 4,.assign (.tmp 25),30,none⟩] [4])
 .ret)
 (.skip [0,5])))
def c158S1(_:Unit):Cmd:=(.seq (.ops [
 ⟨some 26,.move (.tmp 0),88,none⟩,
 ⟨some 27,.load 160 (.tmp 5),160,none⟩,
 ⟨some 28,.nilCheck (.tmp 26),0,none⟩,
 ⟨some 29,.fieldAddr 165 (.tmp 28) 1,0,none⟩,
 ⟨none,.store 160 (.tmp 29) (.tmp 27),0,none⟩] [])
 (.seq (.ops [
 ⟨some 4,.assign (.const (.int .i64 0)),30,none⟩] [4])
 .ret))
def c158:Cmd:=(.seq (.ops [
 ⟨some 4,.assign (.const (.int .i64 0)),30,none⟩] [0,1])
 (.seq (.ops [
 ⟨some 7,.move (.tmp 0),88,none⟩,
 ⟨some 8,.nilCheck (.tmp 7),0,none⟩,
 ⟨some 9,.fieldAddr 165 (.tmp 8) 1,0,none⟩,
 ⟨some 10,.load 160 (.tmp 9),160,none⟩,
 ⟨some 5,.alloc 160,0,none⟩,
 ⟨none,.store 160 (.tmp 5) (.tmp 10),0,none⟩] [0,1,5])
 (.seq (.ops [
 ⟨some 11,.fieldAddr 160 (.tmp 5) 0,0,none⟩,
 ⟨some 12,.load 147 (.tmp 11),147,none⟩,
 ⟨some 13,.binOp .add 147 (.tmp 12) (.const (.int .u64 1)) 147,147,none⟩,
 ⟨some 14,.move (.tmp 1),3,none⟩,
 ⟨some 15,.fieldAddr 160 (.tmp 5) 0,0,none⟩,
 ⟨none,.store 147 (.tmp 15) (.tmp 13),0,none⟩,
 ⟨some 16,.fieldAddr 160 (.tmp 5) 1,0,none⟩,
 ⟨none,.store 3 (.tmp 16) (.tmp 14),0,none⟩] [0,5])
 (.seq (.seq (.draw (drawOps 0 c158code) [0,5,6]) (sg c158S0)) (sg c158S1)))))
attribute [go_sem] c158 c158S0 c158S1
def c158D0:List (Nat × Ins):=[
 (0,⟨some 17,.move (.tmp 0),88,none⟩),
 (0,⟨some 18,.nilCheck (.tmp 17),0,none⟩),
 (0,⟨some 19,.fieldAddr 165 (.tmp 18) 0,0,none⟩),
 (1,⟨some 20,.load 23 (.tmp 19),23,none⟩),
 (2,⟨some 21,.load 160 (.tmp 5),160,none⟩),
 (3,⟨some 22,.call ⟨.value (.func 108),#[(.tmp 20),(.tmp 21)],#[23,160]⟩,30,none⟩),
 (0,⟨some 6,.assign (.tmp 22),30,none⟩)]
theorem c158draw0{L:List Nat}{ρ:Env}{w:World}{Q:Post}(S:World→Prop)(hS:S w.drew)(h:DG Tryz.prog S c158D0 L ρ w.drew Q):drawW Tryz.prog (drawOps 0 c158code) L ρ w Q :=
 drawW_held [3] [(0,0),(0,1),(0,2),(1,3),(2,4),(3,5),(0,6)] c158D0 (by kernel_rfl) (by kernel_rfl) (by kernel_rfl) S hS h
theorem ent158(a0 a1:Value)(w:World)(K:Value→World→Prop)(h:W Tryz.prog c158 [(0,a0),(1,a1)] w (finQ Tryz.prog [.tmp 4] K)):Ret Tryz.prog 158 [a0,a1] w K :=
 Ret_of_W (code:=c158code) Tryz.func158 (by kernel_rfl) (by kernel_rfl) (of_decide_eq_true (by kernel_rfl)) h
@[go_sem] theorem go158:goFunc Tryz.prog 158=true:=by kernel_rfl
def c159code:Code:=match Tryz.f159.body with | some c=>c | none=>.skip
def c159S0(_:Unit):Cmd:=(.seq (.ops [
 ⟨some 4,.assign (.const (.int .i64 0)),30,none⟩] [4])
 .ret)
def c159:Cmd:=(.seq (.ops [
 ⟨some 4,.assign (.const (.int .i64 0)),30,none⟩] [0,1])
 (.seq (.block 0 (.seq (.ops [
 ⟨some 6,.move (.tmp 0),88,none⟩,
 ⟨some 7,.binOp .eql 88 (.tmp 6) (.const (.pointer none)) 88,4,none⟩,
 ⟨some 8,.move (.tmp 7),4,none⟩,
 ⟨some 9,.move (.tmp 0),88,(some (8,false))⟩,
 ⟨some 10,.nilCheck (.tmp 9),0,(some (8,false))⟩,
 ⟨some 11,.fieldAddr 165 (.tmp 10) 0,0,(some (8,false))⟩,
 ⟨some 12,.load 23 (.tmp 11),23,(some (8,false))⟩,
 ⟨some 13,.binOp .eql 23 (.tmp 12) (.const (.pointer none)) 23,4,(some (8,false))⟩,
 ⟨some 14,.pick (.tmp 8) (.const (.bool true)) (.tmp 13),4,none⟩,
 ⟨some 5,.assign (.tmp 14),4,none⟩] [0,1,5])
 (.cond (.tmp 5)
 (.seq (.ops [
 ⟨some 4,.assign (.const (.int .i64 3)),30,none⟩] [4])
 .ret)
 (.seq (.ops [
 ⟨some 16,.move (.tmp 0),88,none⟩,
 ⟨some 17,.nilCheck (.tmp 16),0,none⟩,
 ⟨some 18,.fieldAddr 165 (.tmp 17) 3,0,none⟩,
 ⟨some 19,.load 4 (.tmp 18),4,none⟩,
 ⟨some 15,.assign (.tmp 19),4,none⟩] [0,1,15])
 (.cond (.tmp 15)
 (.seq (.ops [
 ⟨some 4,.assign (.const (.int .i64 11)),30,none⟩] [4])
 .ret)
 (.seq (.ops [
 ⟨some 21,.move (.tmp 1),3,none⟩,
 ⟨some 22,.binOp .lss 3 (.tmp 21) (.const (.int .i64 0)) 3,4,none⟩,
 ⟨some 23,.move (.tmp 22),4,none⟩,
 ⟨some 24,.move (.tmp 1),3,(some (23,false))⟩,
 ⟨some 25,.move (.tmp 0),88,(some (23,false))⟩,
 ⟨some 26,.nilCheck (.tmp 25),0,(some (23,false))⟩,
 ⟨some 27,.fieldAddr 165 (.tmp 26) 1,0,(some (23,false))⟩,
 ⟨some 28,.fieldAddr 160 (.tmp 27) 3,0,(some (23,false))⟩,
 ⟨some 29,.load 3 (.tmp 28),3,(some (23,false))⟩,
 ⟨some 30,.binOp .geq 3 (.tmp 24) (.tmp 29) 3,4,(some (23,false))⟩,
 ⟨some 31,.pick (.tmp 23) (.const (.bool true)) (.tmp 30),4,none⟩,
 ⟨some 20,.assign (.tmp 31),4,none⟩] [20])
 (.cond (.tmp 20)
 (.seq (.ops [
 ⟨some 4,.assign (.const (.int .i64 10)),30,none⟩] [4])
 .ret)
 (.skip [])))))))) (sg c159S0)))
attribute [go_sem] c159 c159S0
theorem ent159(a0 a1:Value)(w:World)(K:Value→World→Prop)(h:W Tryz.prog c159 [(0,a0),(1,a1)] w (finQ Tryz.prog [.tmp 4] K)):Ret Tryz.prog 159 [a0,a1] w K :=
 Ret_of_W (code:=c159code) Tryz.func159 (by kernel_rfl) (by kernel_rfl) (of_decide_eq_true (by kernel_rfl)) h
@[go_sem] theorem go159:goFunc Tryz.prog 159=true:=by kernel_rfl
def c161code:Code:=match Tryz.f161.body with | some c=>c | none=>.skip
def c161S0(_:Unit):Cmd:=(.seq (.ops [
 ⟨some 17,.move (.tmp 1),9,none⟩,
 ⟨some 18,.call ⟨.builtin .len,#[(.tmp 17)],#[9]⟩,3,none⟩,
 ⟨some 4,.assign (.tmp 18),3,none⟩,
 ⟨some 5,.assign (.const .nilIface),211,none⟩] [4,5])
 .ret)
def c161S1(_:Unit):Cmd:=(.seq (.ops [
 ⟨some 8,.move (.tmp 0),207,none⟩,
 ⟨some 9,.move (.tmp 0),207,none⟩,
 ⟨some 10,.nilCheck (.tmp 9),0,none⟩,
 ⟨some 11,.fieldAddr 209 (.tmp 10) 1,0,none⟩,
 ⟨some 12,.load 181 (.tmp 11),181,none⟩,
 ⟨some 13,.move (.tmp 1),9,none⟩,
 ⟨some 14,.call ⟨.builtin .append,#[(.tmp 12),(.tmp 13)],#[181,9]⟩,181,none⟩,
 ⟨some 15,.nilCheck (.tmp 8),0,none⟩,
 ⟨some 16,.fieldAddr 209 (.tmp 15) 1,0,none⟩,
 ⟨none,.store 181 (.tmp 16) (.tmp 14),0,none⟩] [1]) (sg c161S0))
def c161:Cmd:=(.seq (.ops [
 ⟨some 4,.assign (.const (.int .i64 0)),3,none⟩,
 ⟨some 5,.assign (.const .nilIface),211,none⟩] [0,1])
 (.seq (.ops [
 ⟨some 6,.move (.tmp 0),207,none⟩,
 ⟨some 7,.call ⟨.value (.func 188),#[(.tmp 6)],#[207]⟩,0,none⟩] [0,1]) (sg c161S1)))
attribute [go_sem] c161 c161S0 c161S1
theorem ent161(a0 a1:Value)(w:World)(K:Value→World→Prop)(h:W Tryz.prog c161 [(0,a0),(1,a1)] w (finQ Tryz.prog [.tmp 4,.tmp 5] K)):Ret Tryz.prog 161 [a0,a1] w K :=
 Ret_of_W (code:=c161code) Tryz.func161 (by kernel_rfl) (by kernel_rfl) (of_decide_eq_true (by kernel_rfl)) h
@[go_sem] theorem go161:goFunc Tryz.prog 161=true:=by kernel_rfl
def c162code:Code:=match Tryz.f162.body with | some c=>c | none=>.skip
def c162S0(_:Unit):Cmd:=.ret
def c162:Cmd:=(.seq (.ops [
 ⟨some 2,.assign (.const (.string (ofL []))),9,none⟩] [0])
 (.seq (.draw (drawOps 0 c162code) [2]) (sg c162S0)))
attribute [go_sem] c162 c162S0
def c162D0:List (Nat × Ins):=[
 (0,⟨some 3,.move (.tmp 0),207,none⟩),
 (0,⟨some 4,.nilCheck (.tmp 3),0,none⟩),
 (0,⟨some 5,.fieldAddr 209 (.tmp 4) 1,0,none⟩),
 (0,⟨some 8,.move (.tmp 0),207,none⟩),
 (0,⟨some 9,.nilCheck (.tmp 8),0,none⟩),
 (0,⟨some 10,.fieldAddr 209 (.tmp 9) 1,0,none⟩),
 (1,⟨some 6,.load 181 (.tmp 5),181,none⟩),
 (1,⟨some 11,.load 181 (.tmp 10),181,none⟩),
 (0,⟨some 12,.call ⟨.builtin .len,#[(.tmp 11)],#[181]⟩,3,none⟩),
 (2,⟨some 7,.call ⟨.builtin .unsafeSliceData,#[(.tmp 6)],#[181]⟩,236,none⟩),
 (2,⟨some 13,.call ⟨.builtin .unsafeString,#[(.tmp 7),(.tmp 12)],#[236,3]⟩,9,none⟩),
 (0,⟨some 2,.assign (.tmp 13),9,none⟩)]
theorem c162draw0{L:List Nat}{ρ:Env}{w:World}{Q:Post}(S:World→Prop)(hS:S w.drew)(h:DG Tryz.prog S c162D0 L ρ w.drew Q):drawW Tryz.prog (drawOps 0 c162code) L ρ w Q :=
 drawW_held [3,8] [(0,0),(0,1),(0,2),(0,5),(0,6),(0,7),(1,3),(1,8),(0,9),(2,4),(2,10),(0,11)] c162D0 (by kernel_rfl) (by kernel_rfl) (by kernel_rfl) S hS h
theorem ent162(a0:Value)(w:World)(K:Value→World→Prop)(h:W Tryz.prog c162 [(0,a0)] w (finQ Tryz.prog [.tmp 2] K)):Ret Tryz.prog 162 [a0] w K :=
 Ret_of_W (code:=c162code) Tryz.func162 (by kernel_rfl) (by kernel_rfl) (of_decide_eq_true (by kernel_rfl)) h
@[go_sem] theorem go162:goFunc Tryz.prog 162=true:=by kernel_rfl
def c169code:Code:=match Tryz.f169.body with | some c=>c | none=>.skip
def c169S0(_:Unit):Cmd:=.ret
def c169S1(_:Unit):Cmd:=(.seq (.ops [
 ⟨some 7,.move (.tmp 0),96,none⟩,
 ⟨some 8,.nilCheck (.tmp 7),0,none⟩,
 ⟨some 9,.fieldAddr 206 (.tmp 8) 1,0,none⟩,
 ⟨some 10,.load 204 (.tmp 9),204,none⟩,
 ⟨some 11,.makeFunc (.func 192) #[] #[(.tmp 3)],238,none⟩,
 ⟨some 12,.call ⟨.value (.func 191),#[(.tmp 10),(.tmp 11)],#[204,238]⟩,3,none⟩,
 ⟨some 4,.assign (.tmp 12),3,none⟩] [4]) (sg c169S0))
def c169:Cmd:=(.seq (.ops [
 ⟨some 3,.box 3 (.tmp 1),0,none⟩,
 ⟨some 4,.assign (.const (.int .i64 0)),3,none⟩] [0,3])
 (.seq (.seq (.ops [
 ⟨some 5,.move (.tmp 0),96,none⟩,
 ⟨some 6,.binOp .eql 96 (.tmp 5) (.const (.pointer none)) 96,4,none⟩] [0,3,6])
 (.cond (.tmp 6)
 (.seq (.ops [
 ⟨some 4,.assign (.const (.int .i64 (-1))),3,none⟩] [4])
 .ret)
 (.skip [0,3]))) (sg c169S1)))
attribute [go_sem] c169 c169S0 c169S1
theorem ent169(a0 a1:Value)(w:World)(K:Value→World→Prop)(h:W Tryz.prog c169 [(0,a0),(1,a1)] w (finQ Tryz.prog [.tmp 4] K)):Ret Tryz.prog 169 [a0,a1] w K :=
 Ret_of_W (code:=c169code) Tryz.func169 (by kernel_rfl) (by kernel_rfl) (of_decide_eq_true (by kernel_rfl)) h
@[go_sem] theorem go169:goFunc Tryz.prog 169=true:=by kernel_rfl
def c170code:Code:=match Tryz.f170.body with | some c=>c | none=>.skip
def c170S0(_:Unit):Cmd:=(.seq (.ops [
 ⟨some 32,.move (.tmp 0),204,none⟩,
 ⟨some 6,.assign (.tmp 32),204,none⟩] [6])
 .ret)
def c170S1(_:Unit):Cmd:=(.seq (.ops [
 ⟨some 27,.move (.tmp 0),204,none⟩,
 ⟨some 28,.move (.tmp 0),204,none⟩,
 ⟨some 29,.call ⟨.builtin .len,#[(.tmp 28)],#[204]⟩,3,none⟩,
 ⟨some 30,.move (.tmp 7),3,none⟩,
 ⟨some 31,.slice 204 (.tmp 27) (some (.tmp 29)) (some (.tmp 30)) none,204,none⟩,
 ⟨none,.call ⟨.builtin .clear,#[(.tmp 31)],#[204]⟩,0,none⟩] [0]) (sg c170S0))
def c170S2(_:Unit):Cmd:=(.seq (.ops [
 ⟨some 18,.move (.tmp 0),204,none⟩,
 ⟨some 19,.call ⟨.builtin .len,#[(.tmp 18)],#[204]⟩,3,none⟩,
 ⟨some 7,.assign (.tmp 19),3,none⟩] [0,1,2,7])
 (.seq (.draw (drawOps 0 c170code) [0,7]) (sg c170S1)))
def c170:Cmd:=(.seq (.ops [
 ⟨some 6,.assign (.const (.slice none 0 0)),204,none⟩] [0,1,2])
 (.seq (.ops [
 ⟨some 8,.move (.tmp 0),204,none⟩,
 ⟨some 9,.move (.tmp 1),3,none⟩,
 ⟨some 10,.move (.tmp 2),3,none⟩,
 ⟨some 11,.move (.tmp 0),204,none⟩,
 ⟨some 12,.call ⟨.builtin .len,#[(.tmp 11)],#[204]⟩,3,none⟩,
 ⟨some 13,.slice 204 (.tmp 8) (some (.tmp 9)) (some (.tmp 10)) (some (.tmp 12)),204,none⟩] [0,1,2])
 (.seq (.seq (.ops [
 ⟨some 14,.move (.tmp 1),3,none⟩,
 ⟨some 15,.move (.tmp 2),3,none⟩,
 ⟨some 16,.binOp .eql 3 (.tmp 14) (.tmp 15) 3,4,none⟩] [0,1,2,16])
 (.cond (.tmp 16)
 (.seq (.ops [
 ⟨some 17,.move (.tmp 0),204,none⟩,
 ⟨some 6,.assign (.tmp 17),204,none⟩] [6])
 .ret)
 (.skip [0,1,2]))) (sg c170S2))))
attribute [go_sem] c170 c170S0 c170S1 c170S2
def c170D0:List (Bool × Ins):=[
 (true,⟨some 20,.move (.tmp 0),204,none⟩),
 (true,⟨some 21,.move (.tmp 1),3,none⟩),
 (true,⟨some 22,.slice 204 (.tmp 20) none (some (.tmp 21)) none,204,none⟩),
 (true,⟨some 23,.move (.tmp 0),204,none⟩),
 (true,⟨some 24,.move (.tmp 2),3,none⟩),
 (true,⟨some 25,.slice 204 (.tmp 23) (some (.tmp 24)) none none,204,none⟩),
 (false,⟨some 26,.call ⟨.builtin .append,#[(.tmp 22),(.tmp 25)],#[204,204]⟩,204,none⟩),
 (true,⟨some 0,.assign (.tmp 26),204,none⟩)]
theorem c170draw0{L:List Nat}{ρ:Env}{w:World}{Q:Post}(h:DL Tryz.prog c170D0 L ρ w.drew Q):drawW Tryz.prog (drawOps 0 c170code) L ρ w Q :=
 drawW_by [(true,0),(true,1),(true,2),(true,3),(true,4),(true,5),(false,6),(true,7)] c170D0 (by kernel_rfl) (by kernel_rfl) (by kernel_rfl) h
theorem ent170(a0 a1 a2:Value)(w:World)(K:Value→World→Prop)(h:W Tryz.prog c170 [(0,a0),(1,a1),(2,a2)] w (finQ Tryz.prog [.tmp 6] K)):Ret Tryz.prog 170 [a0,a1,a2] w K :=
 Ret_of_W (code:=c170code) Tryz.func170 (by kernel_rfl) (by kernel_rfl) (of_decide_eq_true (by kernel_rfl)) h
@[go_sem] theorem go170:goFunc Tryz.prog 170=true:=by kernel_rfl
def c179code:Code:=match Tryz.f179.body with | some c=>c | none=>.skip
def c179S0(_:Unit):Cmd:=.ret
def c179:Cmd:=(.seq (.ops [
 ⟨some 2,.box 44 (.tmp 0),0,none⟩,
 ⟨some 3,.box 44 (.tmp 1),0,none⟩,
 ⟨some 4,.assign (.const (.int .i64 0)),3,none⟩] [2,3])
 (.seq (.ops [
 ⟨some 5,.fieldAddr 44 (.tmp 2) 0,0,none⟩,
 ⟨some 6,.load 3 (.tmp 5),3,none⟩,
 ⟨some 7,.fieldAddr 44 (.tmp 3) 0,0,none⟩,
 ⟨some 8,.load 3 (.tmp 7),3,none⟩,
 ⟨some 9,.call ⟨.value (.func 180),#[(.tmp 6),(.tmp 8)],#[3,3]⟩,3,none⟩,
 ⟨some 4,.assign (.tmp 9),3,none⟩] [4]) (sg c179S0)))
attribute [go_sem] c179 c179S0
theorem ent179(a0 a1:Value)(w:World)(K:Value→World→Prop)(h:W Tryz.prog c179 [(0,a0),(1,a1)] w (finQ Tryz.prog [.tmp 4] K)):Ret Tryz.prog 179 [a0,a1] w K :=
 Ret_of_W (code:=c179code) Tryz.func179 (by kernel_rfl) (by kernel_rfl) (of_decide_eq_true (by kernel_rfl)) h
@[go_sem] theorem go179:goFunc Tryz.prog 179=true:=by kernel_rfl
def c180code:Code:=match Tryz.f180.body with | some c=>c | none=>.skip
def c180S0(_:Unit):Cmd:=(.seq (.ops [
 ⟨some 4,.assign (.const (.int .i64 (-1))),3,none⟩] [4])
 .ret)
def c180S1(_:Unit):Cmd:=(.seq (.ops [
 ⟨some 4,.assign (.const (.int .i64 0)),3,none⟩] [4])
 .ret)
def c180S2(_:Unit):Cmd:=(.seq (.seq (.ops [
 ⟨some 17,.move (.tmp 0),3,none⟩,
 ⟨some 18,.move (.tmp 1),3,none⟩,
 ⟨some 19,.binOp .gtr 3 (.tmp 17) (.tmp 18) 3,4,none⟩] [19])
 (.cond (.tmp 19)
 (.seq (.ops [
 ⟨some 4,.assign (.const (.int .i64 1)),3,none⟩] [4])
 .ret)
 (.skip []))) (sg c180S1))
def c180S3(_:Unit):Cmd:=(.seq (.seq (.ops [
 ⟨some 14,.move (.tmp 0),3,none⟩,
 ⟨some 15,.move (.tmp 1),3,none⟩,
 ⟨some 16,.binOp .lss 3 (.tmp 14) (.tmp 15) 3,4,none⟩] [0,1,16])
 (.cond (.tmp 16)
 (.seq (.ops [
 ⟨some 4,.assign (.const (.int .i64 (-1))),3,none⟩] [4])
 .ret)
 (.skip [0,1]))) (sg c180S2))
def c180S4(_:Unit):Cmd:=(.seq (.seq (.ops [
 ⟨some 13,.move (.tmp 6),4,none⟩] [0,1,13])
 (.cond (.tmp 13)
 (.seq (.ops [
 ⟨some 4,.assign (.const (.int .i64 1)),3,none⟩] [4])
 .ret)
 (.skip [0,1]))) (sg c180S3))
def c180S5(_:Unit):Cmd:=(.seq (.seq (.ops [
 ⟨some 11,.move (.tmp 5),4,none⟩] [0,1,6,11])
 (.cond (.tmp 11)
 (.seq (.seq (.ops [
 ⟨some 12,.move (.tmp 6),4,none⟩] [12])
 (.cond (.tmp 12)
 (.seq (.ops [
 ⟨some 4,.assign (.const (.int .i64 0)),3,none⟩] [4])
 .ret)
 (.skip []))) (sg c180S0))
 (.skip [0,1,6]))) (sg c180S4))
def c180S6(_:Unit):Cmd:=(.seq (.ops [
 ⟨some 9,.move (.tmp 1),3,none⟩,
 ⟨some 10,.call ⟨.value (.func 197),#[(.tmp 9)],#[3]⟩,4,none⟩,
 ⟨some 6,.assign (.tmp 10),4,none⟩] [0,1,5,6]) (sg c180S5))
def c180:Cmd:=(.seq (.ops [
 ⟨some 4,.assign (.const (.int .i64 0)),3,none⟩] [0,1])
 (.seq (.ops [
 ⟨some 7,.move (.tmp 0),3,none⟩,
 ⟨some 8,.call ⟨.value (.func 197),#[(.tmp 7)],#[3]⟩,4,none⟩,
 ⟨some 5,.assign (.tmp 8),4,none⟩] [0,1,5]) (sg c180S6)))
attribute [go_sem] c180 c180S0 c180S1 c180S2 c180S3 c180S4 c180S5 c180S6
theorem ent180(a0 a1:Value)(w:World)(K:Value→World→Prop)(h:W Tryz.prog c180 [(0,a0),(1,a1)] w (finQ Tryz.prog [.tmp 4] K)):Ret Tryz.prog 180 [a0,a1] w K :=
 Ret_of_W (code:=c180code) Tryz.func180 (by kernel_rfl) (by kernel_rfl) (of_decide_eq_true (by kernel_rfl)) h
@[go_sem] theorem go180:goFunc Tryz.prog 180=true:=by kernel_rfl
def c181code:Code:=match Tryz.f181.body with | some c=>c | none=>.skip
def c181S0(_:Unit):Cmd:=(.seq (.ops [
 ⟨some 35,.move (.tmp 9),30,none⟩,
 ⟨some 36,.binOp .neq 30 (.tmp 35) (.const (.int .i64 0)) 30,4,none⟩] [0,1,5,9,20,21,22,36])
 (.cond (.tmp 36)
 (.seq (.ops [
 ⟨some 37,.move (.tmp 9),30,none⟩,
 ⟨some 4,.assign (.tmp 37),30,none⟩] [4])
 .ret)
 (.skip [0,1,5,20,21,22])))
def c181S1(_:Unit):Cmd:=(.ops [
 ⟨some 38,.binOp .add 3 (.tmp 22) (.const (.int .i64 1)) 3,3,none⟩,
 ⟨some 22,.move (.tmp 38),3,none⟩] [0,1,5,20,21,22])
def c181S2(_:Unit):Cmd:=(.seq (.block 1 (.seq (.ops [
 ⟨some 24,.move (.tmp 22),3,none⟩,
 ⟨some 25,.indexAddr 22 (.tmp 20) (.tmp 22),0,none⟩,
 ⟨some 26,.load 9 (.tmp 25),9,none⟩,
 ⟨some 7,.assign (.tmp 24),3,none⟩,
 ⟨some 8,.assign (.tmp 26),9,none⟩] [0,1,5,7,8,20,21,22])
 (.seq (.ops [
 ⟨some 27,.move (.tmp 0),88,none⟩,
 ⟨some 28,.nilCheck (.tmp 27),0,none⟩,
 ⟨some 29,.fieldAddr 165 (.tmp 28) 0,0,none⟩,
 ⟨some 30,.load 23 (.tmp 29),23,none⟩,
 ⟨some 31,.move (.tmp 7),3,none⟩,
 ⟨some 32,.binOp .add 3 (.const (.int .i64 2)) (.tmp 31) 3,3,none⟩,
 ⟨some 33,.move (.tmp 8),9,none⟩,
 ⟨some 34,.call ⟨.value (.func 107),#[(.tmp 30),(.tmp 32),(.tmp 33)],#[23,3,9]⟩,30,none⟩,
 ⟨some 9,.assign (.tmp 34),30,none⟩] [0,1,5,9,20,21,22]) (sg c181S0)))) (sg c181S1))
def c181L0(_:Unit):Cmd:=(.seq (.ops [
 ⟨some 23,.binOp .lss 3 (.tmp 22) (.tmp 21) 3,0,none⟩] [0,1,5,20,21,22,23])
 (.seq (.cond (.tmp 23)
 (.skip [0,1,5,20,21,22])
 (.exit 0 [0,1,5])) (sg c181S2)))
def c181S3(_:Unit):Cmd:=(.seq (.ops [
 ⟨some 44,.move (.tmp 10),30,none⟩,
 ⟨some 45,.binOp .neq 30 (.tmp 44) (.const (.int .i64 0)) 30,4,none⟩] [0,1,5,10,45])
 (.cond (.tmp 45)
 (.seq (.ops [
 ⟨some 46,.move (.tmp 10),30,none⟩,
 ⟨some 4,.assign (.tmp 46),30,none⟩] [4])
 .ret)
 (.skip [0,1,5])))
def c181S4(_:Unit):Cmd:=(.seq (.ops [
 ⟨some 51,.move (.tmp 11),30,none⟩,
 ⟨some 52,.binOp .neq 30 (.tmp 51) (.const (.int .i64 0)) 30,4,none⟩] [0,1,11,52])
 (.cond (.tmp 52)
 (.seq (.ops [
 ⟨some 53,.move (.tmp 11),30,none⟩,
 ⟨some 4,.assign (.tmp 53),30,none⟩] [4])
 .ret)
 (.skip [0,1])))
def c181S5(_:Unit):Cmd:=.ret
def c181S6(_:Unit):Cmd:=(.seq (.ops [
 ⟨some 54,.move (.tmp 0),88,none⟩,
 ⟨some 55,.move (.tmp 1),36,none⟩,
 ⟨some 56,.call ⟨.value (.func 111),#[(.tmp 54),(.tmp 55)],#[88,36]⟩,30,none⟩,
 ⟨some 4,.assign (.tmp 56),30,none⟩] [4]) (sg c181S5))
def c181S7(_:Unit):Cmd:=(.seq (.seq (.ops [
 ⟨some 47,.move (.tmp 0),88,none⟩,
 ⟨some 48,.move (.tmp 5),22,none⟩,
 ⟨some 49,.call ⟨.builtin .len,#[(.tmp 48)],#[22]⟩,3,none⟩,
 ⟨some 50,.call ⟨.value (.func 158),#[(.tmp 47),(.tmp 49)],#[88,3]⟩,30,none⟩,
 ⟨some 11,.assign (.tmp 50),30,none⟩] [0,1,11]) (sg c181S4)) (sg c181S6))
def c181S8(_:Unit):Cmd:=(.seq (.seq (.ops [
 ⟨some 39,.move (.tmp 0),88,none⟩,
 ⟨some 40,.nilCheck (.tmp 39),0,none⟩,
 ⟨some 41,.fieldAddr 165 (.tmp 40) 0,0,none⟩,
 ⟨some 42,.load 23 (.tmp 41),23,none⟩,
 ⟨some 43,.call ⟨.value (.func 153),#[(.tmp 42)],#[23]⟩,30,none⟩,
 ⟨some 10,.assign (.tmp 43),30,none⟩] [0,1,5,10]) (sg c181S3)) (sg c181S7))
def c181S9(_:Unit):Cmd:=(.seq (.seq (.ops [
 ⟨some 20,.move (.tmp 5),22,none⟩,
 ⟨some 21,.call ⟨.builtin .len,#[(.tmp 20)],#[22]⟩,3,none⟩,
 ⟨some 22,.move (.const (.int .i64 0)),3,none⟩] [0,1,5,20,21,22])
 (.block 0 (.loop (sg c181L0)))) (sg c181S8))
def c181S10(_:Unit):Cmd:=(.seq (.seq (.ops [
 ⟨some 17,.move (.tmp 6),30,none⟩,
 ⟨some 18,.binOp .neq 30 (.tmp 17) (.const (.int .i64 0)) 30,4,none⟩] [0,1,5,6,18])
 (.cond (.tmp 18)
 (.seq (.ops [
 ⟨some 19,.move (.tmp 6),30,none⟩,
 ⟨some 4,.assign (.tmp 19),30,none⟩] [4])
 .ret)
 (.skip [0,1,5]))) (sg c181S9))
def c181:Cmd:=(.seq (.ops [
 ⟨some 4,.assign (.const (.int .i64 0)),30,none⟩] [0,1])
 (.seq (.ops [
 ⟨some 13,.move (.tmp 1),36,none⟩,
 ⟨some 14,.call ⟨.value (.func 198),#[(.tmp 13)],#[36]⟩,245,none⟩,
 ⟨some 12,.move (.tmp 14),245,none⟩,
 ⟨some 15,.extract (.tmp 12) 0,22,none⟩,
 ⟨some 16,.extract (.tmp 12) 1,30,none⟩,
 ⟨some 5,.assign (.tmp 15),22,none⟩,
 ⟨some 6,.assign (.tmp 16),30,none⟩] [0,1,5,6]) (sg c181S10)))
attribute [go_sem] c181 c181S0 c181S1 c181S2 c181S3 c181S4 c181S5 c181S6 c181S7 c181S8 c181S9 c181S10
theorem ent181(a0 a1:Value)(w:World)(K:Value→World→Prop)(h:W Tryz.prog c181 [(0,a0),(1,a1)] w (finQ Tryz.prog [.tmp 4] K)):Ret Tryz.prog 181 [a0,a1] w K :=
 Ret_of_W (code:=c181code) Tryz.func181 (by kernel_rfl) (by kernel_rfl) (of_decide_eq_true (by kernel_rfl)) h
@[go_sem] theorem go181:goFunc Tryz.prog 181=true:=by kernel_rfl
def c183code:Code:=match Tryz.f183.body with | some c=>c | none=>.skip
def c183S0(_:Unit):Cmd:=(.draw (drawOps 1 c183code) [])
def c183:Cmd:=(.seq (.ops [
 ⟨some 5,.move (.tmp 0),96,none⟩,
 ⟨some 6,.nilCheck (.tmp 5),0,none⟩,
 ⟨some 7,.fieldAddr 206 (.tmp 6) 1,0,none⟩,
 ⟨some 8,.load 204 (.tmp 7),204,none⟩,
 ⟨some 9,.move (.tmp 1),3,none⟩,
 ⟨some 10,.indexAddr 204 (.tmp 8) (.tmp 9),0,none⟩,
 ⟨some 11,.load 223 (.tmp 10),223,none⟩,
 ⟨some 4,.alloc 223,0,none⟩,
 ⟨none,.store 223 (.tmp 4) (.tmp 11),0,none⟩] [0,1,4])
 (.seq (.draw (drawOps 0 c183code) [0,4]) (sg c183S0)))
attribute [go_sem] c183
def c183D0:List (Nat × Ins):=[
 (0,⟨some 12,.move (.tmp 0),96,none⟩),
 (0,⟨some 13,.nilCheck (.tmp 12),0,none⟩),
 (0,⟨some 14,.fieldAddr 206 (.tmp 13) 1,0,none⟩),
 (0,⟨some 16,.move (.tmp 1),3,none⟩),
 (0,⟨some 17,.binOp .add 3 (.tmp 16) (.const (.int .i64 1)) 3,3,none⟩),
 (0,⟨some 19,.move (.tmp 0),96,none⟩),
 (0,⟨some 20,.nilCheck (.tmp 19),0,none⟩),
 (0,⟨some 21,.fieldAddr 206 (.tmp 20) 1,0,none⟩),
 (0,⟨some 23,.move (.tmp 1),3,none⟩),
 (1,⟨some 15,.load 204 (.tmp 14),204,none⟩),
 (0,⟨some 18,.slice 204 (.tmp 15) (some (.const (.int .i64 1))) (some (.tmp 17)) none,204,none⟩),
 (2,⟨some 22,.load 204 (.tmp 21),204,none⟩),
 (0,⟨some 24,.slice 204 (.tmp 22) none (some (.tmp 23)) none,204,none⟩),
 (2,⟨some 25,.call ⟨.builtin .copy,#[(.tmp 18),(.tmp 24)],#[204,204]⟩,3,none⟩)]
theorem c183draw0{L:List Nat}{ρ:Env}{w:World}{Q:Post}(S:World→Prop)(hS:S w.drew)(h:DG Tryz.prog S c183D0 L ρ w.drew Q):drawW Tryz.prog (drawOps 0 c183code) L ρ w Q :=
 drawW_held [3] [(0,0),(0,1),(0,2),(0,4),(0,5),(0,7),(0,8),(0,9),(0,11),(1,3),(0,6),(2,10),(0,12),(2,13)] c183D0 (by kernel_rfl) (by kernel_rfl) (by kernel_rfl) S hS h
def c183D1:List (Nat × Ins):=[
 (0,⟨some 26,.move (.tmp 0),96,none⟩),
 (0,⟨some 27,.nilCheck (.tmp 26),0,none⟩),
 (0,⟨some 28,.fieldAddr 206 (.tmp 27) 1,0,none⟩),
 (1,⟨some 29,.load 204 (.tmp 28),204,none⟩),
 (2,⟨some 30,.load 223 (.tmp 4),223,none⟩),
 (0,⟨some 31,.indexAddr 204 (.tmp 29) (.const (.int .i64 0)),0,none⟩),
 (3,⟨none,.store 223 (.tmp 31) (.tmp 30),0,none⟩)]
theorem c183draw1{L:List Nat}{ρ:Env}{w:World}{Q:Post}(S:World→Prop)(hS:S w.drew)(h:DG Tryz.prog S c183D1 L ρ w.drew Q):drawW Tryz.prog (drawOps 1 c183code) L ρ w Q :=
 drawW_held [3] [(0,0),(0,1),(0,2),(1,3),(2,4),(0,5),(3,6)] c183D1 (by kernel_rfl) (by kernel_rfl) (by kernel_rfl) S hS h
theorem ent183(a0 a1:Value)(w:World)(K:Value→World→Prop)(h:W Tryz.prog c183 [(0,a0),(1,a1)] w (finQ Tryz.prog [] K)):Ret Tryz.prog 183 [a0,a1] w K :=
 Ret_of_W (code:=c183code) Tryz.func183 (by kernel_rfl) (by kernel_rfl) (of_decide_eq_true (by kernel_rfl)) h
@[go_sem] theorem go183:goFunc Tryz.prog 183=true:=by kernel_rfl
def c184code:Code:=match Tryz.f184.body with | some c=>c | none=>.skip
def c184S0(_:Unit):Cmd:=.ret
def c184S1(_:Unit):Cmd:=(.seq (.ops [
 ⟨some 55,.move (.tmp 9),204,none⟩,
 ⟨some 6,.assign (.tmp 55),204,none⟩] [6])
 .ret)
def c184S2(_:Unit):Cmd:=(.seq (.draw (drawOps 0 c184code) [9]) (sg c184S1))
def c184S3(_:Unit):Cmd:=(.seq (.ops [
 ⟨some 41,.move (.tmp 9),204,none⟩,
 ⟨some 42,.move (.tmp 1),3,none⟩,
 ⟨some 43,.slice 204 (.tmp 41) (some (.tmp 42)) none none,204,none⟩,
 ⟨some 44,.move (.tmp 2),204,none⟩,
 ⟨some 45,.call ⟨.builtin .copy,#[(.tmp 43),(.tmp 44)],#[204,204]⟩,3,none⟩] [0,1,7,9]) (sg c184S2))
def c184S4(_:Unit):Cmd:=(.cond (.tmp 31)
 (.seq (.ops [
 ⟨some 32,.move (.tmp 0),204,none⟩,
 ⟨some 33,.move (.tmp 1),3,none⟩,
 ⟨some 34,.slice 204 (.tmp 32) none (some (.tmp 33)) none,204,none⟩,
 ⟨some 35,.move (.tmp 8),3,none⟩,
 ⟨some 36,.move (.tmp 7),3,none⟩,
 ⟨some 37,.binOp .add 3 (.tmp 35) (.tmp 36) 3,3,none⟩,
 ⟨some 38,.move (.tmp 1),3,none⟩,
 ⟨some 39,.binOp .sub 3 (.tmp 37) (.tmp 38) 3,3,none⟩,
 ⟨some 40,.call ⟨.builtin .append,#[(.tmp 34),(.tmp 39)],#[204,3]⟩,204,none⟩,
 ⟨some 9,.assign (.tmp 40),204,none⟩] [0,1,2,7,9]) (sg c184S3))
 (.skip [0,1,2,7,8]))
def c184S5(_:Unit):Cmd:=(.seq (.ops [
 ⟨some 83,.move (.tmp 0),204,none⟩,
 ⟨some 6,.assign (.tmp 83),204,none⟩] [6])
 .ret)
def c184S6(_:Unit):Cmd:=(.seq (.ops [
 ⟨some 78,.move (.tmp 0),204,none⟩,
 ⟨some 79,.move (.tmp 1),3,none⟩,
 ⟨some 80,.slice 204 (.tmp 78) (some (.tmp 79)) none none,204,none⟩,
 ⟨some 81,.move (.tmp 2),204,none⟩,
 ⟨some 82,.call ⟨.builtin .copy,#[(.tmp 80),(.tmp 81)],#[204,204]⟩,3,none⟩] [0]) (sg c184S5))
def c184S7(_:Unit):Cmd:=(.cond (.tmp 68)
 (.seq (.draw (drawOps 1 c184code) [0,1,2]) (sg c184S6))
 (.skip [0,1,2,7,8]))
def c184S8(_:Unit):Cmd:=(.seq (.ops [
 ⟨some 94,.move (.tmp 0),204,none⟩,
 ⟨some 6,.assign (.tmp 94),204,none⟩] [6])
 .ret)
def c184S9(_:Unit):Cmd:=(.seq (.ops [
 ⟨some 89,.move (.tmp 0),204,none⟩,
 ⟨some 90,.move (.tmp 1),3,none⟩,
 ⟨some 91,.slice 204 (.tmp 89) (some (.tmp 90)) none none,204,none⟩,
 ⟨some 92,.move (.tmp 7),3,none⟩,
 ⟨some 93,.call ⟨.value (.func 202),#[(.tmp 91),(.tmp 92)],#[204,3]⟩,0,none⟩] [0]) (sg c184S8))
def c184S10(_:Unit):Cmd:=(.seq (.ops [
 ⟨some 84,.move (.tmp 0),204,none⟩,
 ⟨some 85,.move (.tmp 8),3,none⟩,
 ⟨some 86,.slice 204 (.tmp 84) (some (.tmp 85)) none none,204,none⟩,
 ⟨some 87,.move (.tmp 2),204,none⟩,
 ⟨some 88,.call ⟨.builtin .copy,#[(.tmp 86),(.tmp 87)],#[204,204]⟩,3,none⟩] [0,1,7]) (sg c184S9))
def c184S11(_:Unit):Cmd:=(.seq (.ops [
 ⟨some 56,.move (.tmp 0),204,none⟩,
 ⟨some 57,.move (.tmp 8),3,none⟩,
 ⟨some 58,.move (.tmp 7),3,none⟩,
 ⟨some 59,.binOp .add 3 (.tmp 57) (.tmp 58) 3,3,none⟩,
 ⟨some 60,.slice 204 (.tmp 56) none (some (.tmp 59)) none,204,none⟩,
 ⟨some 0,.assign (.tmp 60),204,none⟩] [0,1,2,7,8])
 (.seq (.seq (.ops [
 ⟨some 61,.move (.tmp 2),204,none⟩,
 ⟨some 62,.move (.tmp 0),204,none⟩,
 ⟨some 63,.move (.tmp 1),3,none⟩,
 ⟨some 64,.move (.tmp 7),3,none⟩,
 ⟨some 65,.binOp .add 3 (.tmp 63) (.tmp 64) 3,3,none⟩,
 ⟨some 66,.slice 204 (.tmp 62) (some (.tmp 65)) none none,204,none⟩,
 ⟨some 67,.call ⟨.value (.func 201),#[(.tmp 61),(.tmp 66)],#[204,204]⟩,4,none⟩,
 ⟨some 68,.unOp .not 4 (.tmp 67),4,none⟩] [0,1,2,7,8,68]) (sg c184S7)) (sg c184S10)))
def c184S12(_:Unit):Cmd:=(.seq (.seq (.ops [
 ⟨some 26,.move (.tmp 8),3,none⟩,
 ⟨some 27,.move (.tmp 7),3,none⟩,
 ⟨some 28,.binOp .add 3 (.tmp 26) (.tmp 27) 3,3,none⟩,
 ⟨some 29,.move (.tmp 0),204,none⟩,
 ⟨some 30,.call ⟨.builtin .cap,#[(.tmp 29)],#[204]⟩,3,none⟩,
 ⟨some 31,.binOp .gtr 3 (.tmp 28) (.tmp 30) 3,4,none⟩] [0,1,2,7,8,31]) (sg c184S4)) (sg c184S11))
def c184S13(_:Unit):Cmd:=(.seq (.ops [
 ⟨some 18,.move (.tmp 0),204,none⟩,
 ⟨some 19,.call ⟨.builtin .len,#[(.tmp 18)],#[204]⟩,3,none⟩,
 ⟨some 8,.assign (.tmp 19),3,none⟩] [0,1,2,7,8])
 (.seq (.seq (.ops [
 ⟨some 20,.move (.tmp 1),3,none⟩,
 ⟨some 21,.move (.tmp 8),3,none⟩,
 ⟨some 22,.binOp .eql 3 (.tmp 20) (.tmp 21) 3,4,none⟩] [0,1,2,7,8,22])
 (.cond (.tmp 22)
 (.seq (.ops [
 ⟨some 23,.move (.tmp 0),204,none⟩,
 ⟨some 24,.move (.tmp 2),204,none⟩,
 ⟨some 25,.call ⟨.builtin .append,#[(.tmp 23),(.tmp 24)],#[204,204]⟩,204,none⟩,
 ⟨some 6,.assign (.tmp 25),204,none⟩] [6]) (sg c184S0))
 (.skip [0,1,2,7,8]))) (sg c184S12)))
def c184:Cmd:=(.seq (.ops [
 ⟨some 6,.assign (.const (.slice none 0 0)),204,none⟩] [0,1,2])
 (.seq (.ops [
 ⟨some 10,.move (.tmp 0),204,none⟩,
 ⟨some 11,.move (.tmp 1),3,none⟩,
 ⟨some 12,.slice 204 (.tmp 10) (some (.tmp 11)) none none,204,none⟩] [0,1,2])
 (.seq (.ops [
 ⟨some 13,.move (.tmp 2),204,none⟩,
 ⟨some 14,.call ⟨.builtin .len,#[(.tmp 13)],#[204]⟩,3,none⟩,
 ⟨some 7,.assign (.tmp 14),3,none⟩] [0,1,2,7])
 (.seq (.seq (.ops [
 ⟨some 15,.move (.tmp 7),3,none⟩,
 ⟨some 16,.binOp .eql 3 (.tmp 15) (.const (.int .i64 0)) 3,4,none⟩] [0,1,2,7,16])
 (.cond (.tmp 16)
 (.seq (.ops [
 ⟨some 17,.move (.tmp 0),204,none⟩,
 ⟨some 6,.assign (.tmp 17),204,none⟩] [6])
 .ret)
 (.skip [0,1,2,7]))) (sg c184S13)))))
attribute [go_sem] c184 c184S0 c184S1 c184S2 c184S3 c184S4 c184S5 c184S6 c184S7 c184S8 c184S9 c184S10 c184S11 c184S12 c184S13
def c184D0:List (Bool × Ins):=[
 (true,⟨some 46,.move (.tmp 9),204,none⟩),
 (true,⟨some 47,.move (.tmp 1),3,none⟩),
 (true,⟨some 48,.move (.tmp 7),3,none⟩),
 (true,⟨some 49,.binOp .add 3 (.tmp 47) (.tmp 48) 3,3,none⟩),
 (true,⟨some 50,.slice 204 (.tmp 46) (some (.tmp 49)) none none,204,none⟩),
 (true,⟨some 51,.move (.tmp 0),204,none⟩),
 (true,⟨some 52,.move (.tmp 1),3,none⟩),
 (true,⟨some 53,.slice 204 (.tmp 51) (some (.tmp 52)) none none,204,none⟩),
 (false,⟨some 54,.call ⟨.builtin .copy,#[(.tmp 50),(.tmp 53)],#[204,204]⟩,3,none⟩)]
theorem c184draw0{L:List Nat}{ρ:Env}{w:World}{Q:Post}(h:DL Tryz.prog c184D0 L ρ w.drew Q):drawW Tryz.prog (drawOps 0 c184code) L ρ w Q :=
 drawW_by [(true,0),(true,1),(true,2),(true,3),(true,4),(true,5),(true,6),(true,7),(false,8)] c184D0 (by kernel_rfl) (by kernel_rfl) (by kernel_rfl) h
def c184D1:List (Bool × Ins):=[
 (true,⟨some 69,.move (.tmp 0),204,none⟩),
 (true,⟨some 70,.move (.tmp 1),3,none⟩),
 (true,⟨some 71,.move (.tmp 7),3,none⟩),
 (true,⟨some 72,.binOp .add 3 (.tmp 70) (.tmp 71) 3,3,none⟩),
 (true,⟨some 73,.slice 204 (.tmp 69) (some (.tmp 72)) none none,204,none⟩),
 (true,⟨some 74,.move (.tmp 0),204,none⟩),
 (true,⟨some 75,.move (.tmp 1),3,none⟩),
 (true,⟨some 76,.slice 204 (.tmp 74) (some (.tmp 75)) none none,204,none⟩),
 (false,⟨some 77,.call ⟨.builtin .copy,#[(.tmp 73),(.tmp 76)],#[204,204]⟩,3,none⟩)]
theorem c184draw1{L:List Nat}{ρ:Env}{w:World}{Q:Post}(h:DL Tryz.prog c184D1 L ρ w.drew Q):drawW Tryz.prog (drawOps 1 c184code) L ρ w Q :=
 drawW_by [(true,0),(true,1),(true,2),(true,3),(true,4),(true,5),(true,6),(true,7),(false,8)] c184D1 (by kernel_rfl) (by kernel_rfl) (by kernel_rfl) h
theorem ent184(a0 a1 a2:Value)(w:World)(K:Value→World→Prop)(h:W Tryz.prog c184 [(0,a0),(1,a1),(2,a2)] w (finQ Tryz.prog [.tmp 6] K)):Ret Tryz.prog 184 [a0,a1,a2] w K :=
 Ret_of_W (code:=c184code) Tryz.func184 (by kernel_rfl) (by kernel_rfl) (of_decide_eq_true (by kernel_rfl)) h
@[go_sem] theorem go184:goFunc Tryz.prog 184=true:=by kernel_rfl
def c185code:Code:=match Tryz.f185.body with | some c=>c | none=>.skip
def c185S0(_:Unit):Cmd:=(.seq (.block 1 (.seq (.ops [
 ⟨some 11,.move (.tmp 9),3,none⟩,
 ⟨some 4,.assign (.tmp 11),3,none⟩] [3,4,8,9])
 (.ops [
 ⟨some 12,.move (.tmp 3),181,none⟩,
 ⟨some 13,.move (.tmp 4),3,none⟩,
 ⟨some 14,.indexAddr 181 (.tmp 12) (.tmp 13),0,none⟩,
 ⟨some 15,.load 5 (.tmp 14),5,none⟩,
 ⟨some 16,.binOp .xor 5 (.tmp 15) (.const (.int .u8 255)) 5,5,none⟩,
 ⟨some 17,.indexAddr 181 (.tmp 12) (.tmp 13),0,none⟩,
 ⟨none,.store 5 (.tmp 17) (.tmp 16),0,none⟩] [3,8,9])))
 (.ops [
 ⟨some 18,.binOp .add 3 (.tmp 9) (.const (.int .i64 1)) 3,3,none⟩,
 ⟨some 9,.move (.tmp 18),3,none⟩] [3,8,9]))
def c185L0(_:Unit):Cmd:=(.seq (.ops [
 ⟨some 10,.binOp .lss 3 (.tmp 9) (.tmp 8) 3,0,none⟩] [3,8,9,10])
 (.seq (.cond (.tmp 10)
 (.skip [3,8,9])
 (.exit 0 [3])) (sg c185S0)))
def c185S1(_:Unit):Cmd:=(.seq (.ops [
 ⟨some 19,.move (.tmp 3),181,none⟩,
 ⟨some 20,.convert 181 9 (.tmp 19),9,none⟩,
 ⟨some 2,.assign (.tmp 20),9,none⟩] [2])
 .ret)
def c185:Cmd:=(.seq (.ops [
 ⟨some 2,.assign (.const (.string (ofL []))),9,none⟩] [0])
 (.seq (.ops [
 ⟨some 5,.move (.tmp 0),9,none⟩,
 ⟨some 6,.convert 9 181 (.tmp 5),181,none⟩,
 ⟨some 3,.assign (.tmp 6),181,none⟩] [3])
 (.seq (.seq (.ops [
 ⟨some 7,.move (.tmp 3),181,none⟩,
 ⟨some 8,.call ⟨.builtin .len,#[(.tmp 7)],#[181]⟩,3,none⟩,
 ⟨some 9,.move (.const (.int .i64 0)),3,none⟩] [3,8,9])
 (.block 0 (.loop (sg c185L0)))) (sg c185S1))))
attribute [go_sem] c185 c185S0 c185S1
theorem ent185(a0:Value)(w:World)(K:Value→World→Prop)(h:W Tryz.prog c185 [(0,a0)] w (finQ Tryz.prog [.tmp 2] K)):Ret Tryz.prog 185 [a0] w K :=
 Ret_of_W (code:=c185code) Tryz.func185 (by kernel_rfl) (by kernel_rfl) (of_decide_eq_true (by kernel_rfl)) h
@[go_sem] theorem go185:goFunc Tryz.prog 185=true:=by kernel_rfl
def c186code:Code:=match Tryz.f186.body with | some c=>c | none=>.skip
def c186S0(_:Unit):Cmd:=.ret
def c186:Cmd:=(.seq (.ops [
 ⟨some 3,.assign (.const (.int .i64 0)),3,none⟩] [0,1])
 (.seq (.ops [
 ⟨some 4,.load 9 (.tmp 1),9,none⟩,
 ⟨some 5,.move (.tmp 0),3,none⟩,
 ⟨some 6,.move (.tmp 0),3,none⟩,
 ⟨some 7,.binOp .add 3 (.tmp 6) (.const (.int .i64 4)) 3,3,none⟩,
 ⟨some 8,.slice 9 (.tmp 4) (some (.tmp 5)) (some (.tmp 7)) none,9,none⟩,
 ⟨some 9,.call ⟨.value (.func 98),#[(.tmp 8)],#[9]⟩,147,none⟩,
 ⟨some 10,.convert 147 3 (.tmp 9),3,none⟩,
 ⟨some 3,.assign (.tmp 10),3,none⟩] [3]) (sg c186S0)))
attribute [go_sem] c186 c186S0
theorem ent186(a0 a1:Value)(w:World)(K:Value→World→Prop)(h:W Tryz.prog c186 [(0,a0),(1,a1)] w (finQ Tryz.prog [.tmp 3] K)):Ret Tryz.prog 186 [a0,a1] w K :=
 Ret_of_W (code:=c186code) Tryz.func186 (by kernel_rfl) (by kernel_rfl) (of_decide_eq_true (by kernel_rfl)) h
@[go_sem] theorem go186:goFunc Tryz.prog 186=true:=by kernel_rfl
def c191code:Code:=match Tryz.f191.body with | some c=>c | none=>.skip
def c191S0(_:Unit):Cmd:=(.cond (.tmp 16)
 (.seq (.ops [
 ⟨some 17,.move (.tmp 5),3,none⟩,
 ⟨some 4,.assign (.tmp 17),3,none⟩] [4])
 .ret)
 (.skip [0,1,7,8]))
def c191S1(_:Unit):Cmd:=(.ops [
 ⟨some 18,.binOp .add 3 (.tmp 8) (.const (.int .i64 1)) 3,3,none⟩,
 ⟨some 8,.move (.tmp 18),3,none⟩] [0,1,7,8])
def c191S2(_:Unit):Cmd:=(.seq (.block 1 (.seq (.ops [
 ⟨some 10,.move (.tmp 8),3,none⟩,
 ⟨some 5,.assign (.tmp 10),3,none⟩] [0,1,5,7,8])
 (.seq (.ops [
 ⟨some 11,.move (.tmp 1),238,none⟩,
 ⟨some 12,.move (.tmp 0),204,none⟩,
 ⟨some 13,.move (.tmp 5),3,none⟩,
 ⟨some 14,.indexAddr 204 (.tmp 12) (.tmp 13),0,none⟩,
 ⟨some 15,.load 223 (.tmp 14),223,none⟩,
 ⟨some 16,.call ⟨.value (.tmp 11),#[(.tmp 15)],#[223]⟩,4,none⟩] [0,1,5,7,8,16]) (sg c191S0)))) (sg c191S1))
def c191L0(_:Unit):Cmd:=(.seq (.ops [
 ⟨some 9,.binOp .lss 3 (.tmp 8) (.tmp 7) 3,0,none⟩] [0,1,7,8,9])
 (.seq (.cond (.tmp 9)
 (.skip [0,1,7,8])
 (.exit 0 [])) (sg c191S2)))
def c191S3(_:Unit):Cmd:=(.seq (.ops [
 ⟨some 4,.assign (.const (.int .i64 (-1))),3,none⟩] [4])
 .ret)
def c191:Cmd:=(.seq (.ops [
 ⟨some 4,.assign (.const (.int .i64 0)),3,none⟩] [0,1])
 (.seq (.seq (.ops [
 ⟨some 6,.move (.tmp 0),204,none⟩,
 ⟨some 7,.call ⟨.builtin .len,#[(.tmp 6)],#[204]⟩,3,none⟩,
 ⟨some 8,.move (.const (.int .i64 0)),3,none⟩] [0,1,7,8])
 (.block 0 (.loop (sg c191L0)))) (sg c191S3)))
attribute [go_sem] c191 c191S0 c191S1 c191S2 c191L0 c191S3
theorem ent191(a0 a1:Value)(w:World)(K:Value→World→Prop)(h:W Tryz.prog c191 [(0,a0),(1,a1)] w (finQ Tryz.prog [.tmp 4] K)):Ret Tryz.prog 191 [a0,a1] w K :=
 Ret_of_W (code:=c191code) Tryz.func191 (by kernel_rfl) (by kernel_rfl) (of_decide_eq_true (by kernel_rfl)) h
@[go_sem] theorem go191:goFunc Tryz.prog 191=true:=by kernel_rfl
def c192code:Code:=match Tryz.f192.body with | some c=>c | none=>.skip
def c192:Cmd:=(.seq (.ops [
 ⟨some 2,.box 223 (.tmp 0),0,none⟩,
 ⟨some 3,.assign (.const (.bool false)),4,none⟩] [1,2])
 (.seq (.ops [
 ⟨some 4,.fieldAddr 223 (.tmp 2) 0,0,none⟩,
 ⟨some 5,.load 3 (.tmp 4),3,none⟩,
 ⟨some 6,.load 3 (.tmp 1),3,none⟩,
 ⟨some 7,.binOp .eql 3 (.tmp 5) (.tmp 6) 3,4,none⟩,
 ⟨some 3,.assign (.tmp 7),4,none⟩] [3])
 .ret))
attribute [go_sem] c192
theorem ent192(a0 a1:Value)(w:World)(K:Value→World→Prop)(h:W Tryz.prog c192 [(0,a0),(1,a1)] w (finQ Tryz.prog [.tmp 3] K)):Ret Tryz.prog 192 [a0,a1] w K :=
 Ret_of_W (code:=c192code) Tryz.func192 (by kernel_rfl) (by kernel_rfl) (of_decide_eq_true (by kernel_rfl)) h
@[go_sem] theorem go192:goFunc Tryz.prog 192=true:=by kernel_rfl
def c197code:Code:=match Tryz.f197.body with | some c=>c | none=>.skip
def c197:Cmd:=(.seq (.ops [
 ⟨some 2,.assign (.const (.bool false)),4,none⟩] [0])
 (.seq (.ops [
 ⟨some 3,.move (.tmp 0),3,none⟩,
 ⟨some 4,.move (.tmp 0),3,none⟩,
 ⟨some 5,.binOp .neq 3 (.tmp 3) (.tmp 4) 3,4,none⟩,
 ⟨some 2,.assign (.tmp 5),4,none⟩] [2])
 .ret))
attribute [go_sem] c197
theorem ent197(a0:Value)(w:World)(K:Value→World→Prop)(h:W Tryz.prog c197 [(0,a0)] w (finQ Tryz.prog [.tmp 2] K)):Ret Tryz.prog 197 [a0] w K :=
 Ret_of_W (code:=c197code) Tryz.func197 (by kernel_rfl) (by kernel_rfl) (of_decide_eq_true (by kernel_rfl)) h
@[go_sem] theorem go197:goFunc Tryz.prog 197=true:=by kernel_rfl
def c198code:Code:=match Tryz.f198.body with | some c=>c | none=>.skip
def c198S0(_:Unit):Cmd:=(.ops [
 ⟨some 40,.fieldAddr 44 (.tmp 6) 0,0,none⟩,
 ⟨some 41,.load 3 (.tmp 40),3,none⟩,
 ⟨some 42,.convert 3 147 (.tmp 41),147,none⟩,
 ⟨some 43,.call ⟨.value (.func 118),#[(.tmp 42),(.const (.int .i64 4))],#[147,3]⟩,9,none⟩,
 ⟨some 44,.call ⟨.value (.func 161),#[(.tmp 4),(.tmp 43)],#[209,9]⟩,213,none⟩] [0,4,20,21,22])
def c198S1(_:Unit):Cmd:=(.ops [
 ⟨some 45,.binOp .add 3 (.tmp 22) (.const (.int .i64 1)) 3,3,none⟩,
 ⟨some 22,.move (.tmp 45),3,none⟩] [0,4,20,21,22])
def c198S2(_:Unit):Cmd:=(.seq (.block 1 (.seq (.ops [
 ⟨some 24,.indexAddr 36 (.tmp 20) (.tmp 22),0,none⟩,
 ⟨some 25,.load 44 (.tmp 24),44,none⟩,
 ⟨some 6,.alloc 44,0,none⟩,
 ⟨none,.store 44 (.tmp 6) (.tmp 25),0,none⟩] [0,4,6,20,21,22])
 (.seq (.block 2 (.seq (.ops [
 ⟨some 27,.fieldAddr 44 (.tmp 6) 0,0,none⟩,
 ⟨some 28,.load 3 (.tmp 27),3,none⟩,
 ⟨some 29,.binOp .lss 3 (.tmp 28) (.const (.int .i64 0)) 3,4,none⟩,
 ⟨some 30,.move (.tmp 29),4,none⟩,
 ⟨some 31,.fieldAddr 44 (.tmp 6) 0,0,(some (30,false))⟩,
 ⟨some 32,.load 3 (.tmp 31),3,(some (30,false))⟩,
 ⟨some 33,.binOp .geq 3 (.tmp 32) (.const (.int .i64 2048)) 3,4,(some (30,false))⟩,
 ⟨some 34,.pick (.tmp 30) (.const (.bool true)) (.tmp 33),4,none⟩,
 ⟨some 26,.assign (.tmp 34),4,none⟩] [0,4,6,20,21,22,26])
 (.cond (.tmp 26)
 (.seq (.ops [
 ⟨some 2,.assign (.const (.slice none 0 0)),22,none⟩,
 ⟨some 3,.assign (.const (.int .i64 10)),30,none⟩] [2,3])
 .ret)
 (.seq (.ops [
 ⟨some 36,.fieldAddr 44 (.tmp 6) 1,0,none⟩,
 ⟨some 37,.load 9 (.tmp 36),9,none⟩,
 ⟨some 38,.call ⟨.builtin .len,#[(.tmp 37)],#[9]⟩,3,none⟩,
 ⟨some 39,.binOp .gtr 3 (.tmp 38) (.const (.int .i64 256)) 3,4,none⟩,
 ⟨some 35,.assign (.tmp 39),4,none⟩] [0,4,6,20,21,22,35])
 (.cond (.tmp 35)
 (.seq (.ops [
 ⟨some 2,.assign (.const (.slice none 0 0)),22,none⟩,
 ⟨some 3,.assign (.const (.int .i64 21)),30,none⟩] [2,3])
 .ret)
 (.skip [0,4,6,20,21,22])))))) (sg c198S0)))) (sg c198S1))
def c198L0(_:Unit):Cmd:=(.seq (.ops [
 ⟨some 23,.binOp .lss 3 (.tmp 22) (.tmp 21) 3,0,none⟩] [0,4,20,21,22,23])
 (.seq (.cond (.tmp 23)
 (.skip [0,4,20,21,22])
 (.exit 0 [0,4])) (sg c198S2)))
def c198S3(_:Unit):Cmd:=(.ops [
 ⟨some 62,.move (.tmp 7),9,none⟩,
 ⟨some 63,.move (.tmp 9),3,none⟩,
 ⟨some 64,.slice 9 (.tmp 62) (some (.tmp 63)) none none,9,none⟩,
 ⟨some 7,.assign (.tmp 64),9,none⟩] [0,7,8,49,50])
def c198S4(_:Unit):Cmd:=(.seq (.ops [
 ⟨some 55,.move (.tmp 8),22,none⟩,
 ⟨some 56,.move (.tmp 7),9,none⟩,
 ⟨some 57,.move (.tmp 9),3,none⟩,
 ⟨some 58,.slice 9 (.tmp 56) none (some (.tmp 57)) none,9,none⟩,
 ⟨some 59,.call ⟨.value (.func 217),#[(.tmp 58)],#[9]⟩,9,none⟩,
 ⟨some 60,.buildSlice 22 1 #[(0,(.tmp 59))],22,none⟩,
 ⟨some 61,.call ⟨.builtin .append,#[(.tmp 55),(.tmp 60)],#[22,22]⟩,22,none⟩,
 ⟨some 8,.assign (.tmp 61),22,none⟩] [0,7,8,9,49,50]) (sg c198S3))
def c198S5(_:Unit):Cmd:=(.ops [
 ⟨some 65,.binOp .add 3 (.tmp 50) (.const (.int .i64 1)) 3,3,none⟩,
 ⟨some 50,.move (.tmp 65),3,none⟩] [0,7,8,49,50])
def c198S6(_:Unit):Cmd:=(.seq (.block 4 (.seq (.ops [
 ⟨some 52,.move (.tmp 7),9,none⟩,
 ⟨some 53,.call ⟨.builtin .len,#[(.tmp 52)],#[9]⟩,3,none⟩,
 ⟨some 54,.call ⟨.builtin .min,#[(.tmp 53),(.const (.int .i64 256))],#[3,3]⟩,3,none⟩,
 ⟨some 9,.assign (.tmp 54),3,none⟩] [0,7,8,9,49,50]) (sg c198S4))) (sg c198S5))
def c198L1(_:Unit):Cmd:=(.seq (.ops [
 ⟨some 51,.binOp .lss 3 (.tmp 50) (.tmp 49) 3,4,none⟩] [0,7,8,49,50,51])
 (.seq (.cond (.tmp 51)
 (.skip [0,7,8,49,50])
 (.exit 3 [0,8])) (sg c198S6)))
def c198S7(_:Unit):Cmd:=(.block 3 (.loop (sg c198L1)))
def c198S8(_:Unit):Cmd:=(.ops [
 ⟨some 78,.binOp .add 3 (.tmp 68) (.const (.int .i64 1)) 3,3,none⟩,
 ⟨some 68,.move (.tmp 78),3,none⟩] [8,66,67,68])
def c198S9(_:Unit):Cmd:=(.seq (.block 6 (.seq (.ops [
 ⟨some 70,.indexAddr 36 (.tmp 66) (.tmp 68),0,none⟩,
 ⟨some 71,.load 44 (.tmp 70),44,none⟩,
 ⟨some 11,.alloc 44,0,none⟩,
 ⟨none,.store 44 (.tmp 11) (.tmp 71),0,none⟩] [8,11,66,67,68])
 (.ops [
 ⟨some 72,.move (.tmp 8),22,none⟩,
 ⟨some 73,.fieldAddr 44 (.tmp 11) 1,0,none⟩,
 ⟨some 74,.load 9 (.tmp 73),9,none⟩,
 ⟨some 75,.call ⟨.value (.func 217),#[(.tmp 74)],#[9]⟩,9,none⟩,
 ⟨some 76,.buildSlice 22 1 #[(0,(.tmp 75))],22,none⟩,
 ⟨some 77,.call ⟨.builtin .append,#[(.tmp 72),(.tmp 76)],#[22,22]⟩,22,none⟩,
 ⟨some 8,.assign (.tmp 77),22,none⟩] [8,66,67,68]))) (sg c198S8))
def c198L2(_:Unit):Cmd:=(.seq (.ops [
 ⟨some 69,.binOp .lss 3 (.tmp 68) (.tmp 67) 3,0,none⟩] [8,66,67,68,69])
 (.seq (.cond (.tmp 69)
 (.skip [8,66,67,68])
 (.exit 5 [8])) (sg c198S9)))
def c198S10(_:Unit):Cmd:=(.seq (.ops [
 ⟨some 79,.move (.tmp 8),22,none⟩,
 ⟨some 2,.assign (.tmp 79),22,none⟩,
 ⟨some 3,.assign (.const (.int .i64 0)),30,none⟩] [2,3])
 .ret)
def c198S11(_:Unit):Cmd:=(.seq (.seq (.ops [
 ⟨some 66,.move (.tmp 0),36,none⟩,
 ⟨some 67,.call ⟨.builtin .len,#[(.tmp 66)],#[36]⟩,3,none⟩,
 ⟨some 68,.move (.const (.int .i64 0)),3,none⟩] [8,66,67,68])
 (.block 5 (.loop (sg c198L2)))) (sg c198S10))
def c198S12(_:Unit):Cmd:=(.seq (.ops [
 ⟨some 8,.assign (.const (.slice none 0 0)),22,none⟩] [0,7,8])
 (.seq (.seq (.ops [
 ⟨some 47,.move (.tmp 0),36,none⟩,
 ⟨some 48,.call ⟨.builtin .len,#[(.tmp 47)],#[36]⟩,3,none⟩,
 ⟨some 49,.call ⟨.value (.func 157),#[(.tmp 48)],#[3]⟩,3,none⟩,
 ⟨some 50,.move (.const (.int .i64 0)),3,none⟩] [0,7,8,49,50]) (sg c198S7)) (sg c198S11)))
def c198S13(_:Unit):Cmd:=(.seq (.ops [
 ⟨some 46,.call ⟨.value (.func 162),#[(.tmp 4)],#[209]⟩,9,none⟩,
 ⟨some 7,.assign (.tmp 46),9,none⟩] [0,7]) (sg c198S12))
def c198S14(_:Unit):Cmd:=(.seq (.seq (.ops [
 ⟨some 20,.move (.tmp 0),36,none⟩,
 ⟨some 21,.call ⟨.builtin .len,#[(.tmp 20)],#[36]⟩,3,none⟩,
 ⟨some 22,.move (.const (.int .i64 0)),3,none⟩] [0,4,20,21,22])
 (.block 0 (.loop (sg c198L0)))) (sg c198S13))
def c198S15(_:Unit):Cmd:=(.seq (.ops [
 ⟨some 4,.alloc 209,0,none⟩] [0,4])
 (.seq (.ops [
 ⟨some 15,.move (.tmp 0),36,none⟩,
 ⟨some 16,.call ⟨.builtin .len,#[(.tmp 15)],#[36]⟩,3,none⟩,
 ⟨some 17,.convert 3 147 (.tmp 16),147,none⟩,
 ⟨some 18,.call ⟨.value (.func 118),#[(.tmp 17),(.const (.int .i64 4))],#[147,3]⟩,9,none⟩,
 ⟨some 19,.call ⟨.value (.func 161),#[(.tmp 4),(.tmp 18)],#[209,9]⟩,213,none⟩] [0,4]) (sg c198S14)))
def c198:Cmd:=(.seq (.ops [
 ⟨some 2,.assign (.const (.slice none 0 0)),22,none⟩,
 ⟨some 3,.assign (.const (.int .i64 0)),30,none⟩] [0])
 (.seq (.seq (.ops [
 ⟨some 12,.move (.tmp 0),36,none⟩,
 ⟨some 13,.call ⟨.builtin .len,#[(.tmp 12)],#[36]⟩,3,none⟩,
 ⟨some 14,.binOp .gtr 3 (.tmp 13) (.const (.int .i64 1024)) 3,4,none⟩] [0,14])
 (.cond (.tmp 14)
 (.seq (.ops [
 ⟨some 2,.assign (.const (.slice none 0 0)),22,none⟩,
 ⟨some 3,.assign (.const (.int .i64 2)),30,none⟩] [2,3])
 .ret)
 (.skip [0]))) (sg c198S15)))
attribute [go_sem] c198 c198S0 c198S1 c198S2 c198S3 c198S4 c198S5 c198S6 c198S7 c198S8 c198S9 c198S10 c198S11 c198S12 c198S13 c198S14 c198S15
theorem ent198(a0:Value)(w:World)(K:Value→World→Prop)(h:W Tryz.prog c198 [(0,a0)] w (finQ Tryz.prog [.tmp 2,.tmp 3] K)):Ret Tryz.prog 198 [a0] w K :=
 Ret_of_W (code:=c198code) Tryz.func198 (by kernel_rfl) (by kernel_rfl) (of_decide_eq_true (by kernel_rfl)) h
@[go_sem] theorem go198:goFunc Tryz.prog 198=true:=by kernel_rfl
@[go_sem] theorem go208:goFunc Tryz.prog 208=true:=by kernel_rfl
def c217code:Code:=match Tryz.f217.body with | some c=>c | none=>.skip
def c217:Cmd:=(.seq (.ops [
 ⟨some 2,.assign (.const (.string (ofL []))),9,none⟩] [0])
 (.seq (.ops [
 ⟨some 3,.move (.tmp 0),9,none⟩,
 ⟨some 4,.move (.tmp 0),9,none⟩,
 ⟨some 5,.call ⟨.builtin .len,#[(.tmp 4)],#[9]⟩,3,none⟩,
 ⟨some 6,.binOp .sub 3 (.const (.int .i64 256)) (.tmp 5) 3,3,none⟩,
 ⟨some 7,.makeSlice 181 (.tmp 6) (.tmp 6),181,none⟩,
 ⟨some 8,.convert 181 9 (.tmp 7),9,none⟩,
 ⟨some 9,.binOp .add 9 (.tmp 3) (.tmp 8) 9,9,none⟩,
 ⟨some 2,.assign (.tmp 9),9,none⟩] [2])
 .ret))
attribute [go_sem] c217
theorem ent217(a0:Value)(w:World)(K:Value→World→Prop)(h:W Tryz.prog c217 [(0,a0)] w (finQ Tryz.prog [.tmp 2] K)):Ret Tryz.prog 217 [a0] w K :=
 Ret_of_W (code:=c217code) Tryz.func217 (by kernel_rfl) (by kernel_rfl) (of_decide_eq_true (by kernel_rfl)) h
@[go_sem] theorem go217:goFunc Tryz.prog 217=true:=by kernel_rfl
def c91code:Code:=match Tryz.f91.body with | some c=>c | none=>.skip
def c91S0(_:Unit):Cmd:=(.cond (.tmp 12)
 (.seq (.ops [
 ⟨none,.store 48 (.tmp 2) (.const (.slice none 0 0)),0,none⟩] [2])
 .ret)
 (.skip [1,2]))
def c91A0(l:Nat)(_:Unit):Cmd:=(.ops [
 ⟨some 9,.assign (.tmp 29),3,none⟩] [3,5,9])
def c91B0(l:Nat)(_:Unit):Cmd:=(.block 3 (.draw (drawOps 0 c91code) []))
def c91S1(l:Nat)(_:Unit):Cmd:=(.block 2 (.rangeN l (.tmp 28) [29,30] (sg (c91A0 l)) (sg (c91B0 l)) []))
def c91S2(l:Nat)(_:Unit):Cmd:=(.seq (.ops [
 ⟨some 27,.move (.tmp 7),9,none⟩,
 ⟨some 28,.call ⟨.value (.func 101),#[(.tmp 27)],#[9]⟩,141,none⟩] [3,5,28]) (sg (c91S1 l)))
def c91S3(l:Nat)(_:Unit):Cmd:=(.seq (.seq (.ops [
 ⟨some 24,.move (.tmp 8),30,none⟩,
 ⟨some 25,.binOp .neq 30 (.tmp 24) (.const (.int .i64 0)) 30,4,none⟩] [2,3,5,7,25])
 (.cond (.tmp 25)
 (.seq (.ops [
 ⟨some 26,.load 48 (.tmp 3),48,none⟩,
 ⟨none,.store 48 (.tmp 2) (.tmp 26),0,none⟩] [])
 .ret)
 (.skip [3,5,7]))) (sg (c91S2 l)))
def c91A1(_:Unit):Cmd:=(.ops [
 ⟨some 5,.alloc 3,0,none⟩,
 ⟨none,.store 3 (.tmp 5) (.tmp 16),0,none⟩] [1,2,3,5])
def c91B1(l:Nat)(_:Unit):Cmd:=(.block 1 (.seq (.ops [
 ⟨some 18,.load 27 (.tmp 1),27,none⟩,
 ⟨some 19,.load 3 (.tmp 5),3,none⟩,
 ⟨some 20,.call ⟨.value (.func 56),#[(.tmp 18),(.tmp 19)],#[27,3]⟩,109,none⟩,
 ⟨some 17,.move (.tmp 20),109,none⟩,
 ⟨some 21,.extract (.tmp 17) 0,3,none⟩,
 ⟨some 22,.extract (.tmp 17) 1,9,none⟩,
 ⟨some 23,.extract (.tmp 17) 2,30,none⟩,
 ⟨some 6,.assign (.tmp 21),3,none⟩,
 ⟨some 7,.assign (.tmp 22),9,none⟩,
 ⟨some 8,.assign (.tmp 23),30,none⟩] [2,3,5,7,8]) (sg (c91S3 l))))
def c91S4(_:Unit):Cmd:=(.block 0 (.rangeG (.tmp 14) [15,16] (sg c91A1) (fun l=>sg (c91B1 l)) [2,3]))
def c91S5(_:Unit):Cmd:=(.seq (.ops [
 ⟨some 39,.load 48 (.tmp 3),48,none⟩,
 ⟨none,.store 48 (.tmp 2) (.tmp 39),0,none⟩] [2])
 .ret)
def c91S6(_:Unit):Cmd:=(.seq (.ops [
 ⟨some 37,.load 48 (.tmp 3),48,none⟩,
 ⟨some 38,.call ⟨.value (.func 103),#[(.tmp 37)],#[48]⟩,0,none⟩] [2,3]) (sg c91S5))
def c91S7(_:Unit):Cmd:=(.seq (.ops [
 ⟨some 3,.alloc 48,0,none⟩] [1,2,3])
 (.seq (.seq (.ops [
 ⟨some 13,.load 27 (.tmp 1),27,none⟩,
 ⟨some 14,.call ⟨.value (.func 55),#[(.tmp 13)],#[27]⟩,107,none⟩] [1,2,3,14]) (sg c91S4)) (sg c91S6)))
def c91:Cmd:=(.seq (.ops [
 ⟨some 1,.box 27 (.tmp 0),0,none⟩,
 ⟨some 2,.alloc 48,0,none⟩] [1,2])
 (.seq (.seq (.ops [
 ⟨some 10,.load 27 (.tmp 1),27,none⟩,
 ⟨some 11,.call ⟨.value (.func 50),#[(.tmp 10)],#[27]⟩,4,none⟩,
 ⟨some 12,.unOp .not 4 (.tmp 11),4,none⟩] [1,2,12]) (sg c91S0)) (sg c91S7)))
attribute [go_sem] c91 c91S0 c91A0 c91S1 c91S2 c91S3 c91A1 c91S4 c91S5 c91S6 c91S7
def c91D0:List (Nat × Ins):=[
 (0,⟨some 33,.move (.tmp 9),3,none⟩),
 (1,⟨some 31,.load 48 (.tmp 3),48,none⟩),
 (2,⟨some 32,.load 3 (.tmp 5),3,none⟩),
 (2,⟨some 34,.call ⟨.value (.func 59),#[(.tmp 32),(.tmp 33)],#[3,3]⟩,3,none⟩),
 (2,⟨some 35,.buildSlice 48 1 #[(0,(.tmp 34))],48,none⟩),
 (3,⟨some 36,.call ⟨.builtin .append,#[(.tmp 31),(.tmp 35)],#[48,48]⟩,48,none⟩),
 (3,⟨none,.store 48 (.tmp 3) (.tmp 36),0,none⟩)]
theorem c91draw0{L:List Nat}{ρ:Env}{w:World}{Q:Post}(S:World→Prop)(hS:S w.drew)(h:DG Tryz.prog S c91D0 L ρ w.drew Q):drawW Tryz.prog (drawOps 0 c91code) L ρ w Q :=
 drawW_held [0] [(0,2),(1,0),(2,1),(2,3),(2,4),(3,5),(3,6)] c91D0 (by kernel_rfl) (by kernel_rfl) (by kernel_rfl) S hS h
theorem ent91(a0:Value)(w:World)(K:Value→World→Prop)(h:W Tryz.prog c91 [(0,a0)] w (finQ Tryz.prog [.cell 2 48] K)):Ret Tryz.prog 91 [a0] w K :=
 Ret_of_W (code:=c91code) Tryz.func91 (by kernel_rfl) (by kernel_rfl) (of_decide_eq_true (by kernel_rfl)) h
@[go_sem] theorem go91:goFunc Tryz.prog 91=true:=by kernel_rfl
@[go_sem] theorem go38:goFunc Tryz.prog 38=true:=by kernel_rfl
open Go Go.Ann Go.RowKit Go.WideShapes
def zeroB:List UInt8:=List.replicate 256 0
def filledL(l:List UInt8):List UInt8:=l++List.replicate (256 - l.length) 0
theorem filledL_length{l:List UInt8}(h:l.length≤256):(filledL l).length=256:=by
 unfold filledL; rw [List.length_append,List.length_replicate]; omega
structure Dk where
 safe:List (List UInt8)
 late:List (Int × List UInt8)
 left:Int
 gone:Bool
structure Dk.ok(m:Dk):Prop where
 safe:∀ s∈m.safe,s.length=256
 late:∀ x∈m.late,0≤x.1∧x.1<m.safe.length∧x.2.length=256
 left:I64 m.left
 some:0<m.safe.length
 few:m.safe.length≤2048
 less:m.late.length≤1048576
def strE(s:List UInt8):List Value:=[.string (ofL s)]
theorem strE_ones(l:List (List UInt8)):∀ u∈l.flatMap strE,u.oneCell'=true:=by
 intro u hu
 obtain ⟨s,_,h⟩:=List.mem_flatMap.1 hu
 rw [strE,List.mem_singleton] at h
 subst h; rfl
def pendV(x:Int × List UInt8):List Value:=[.int .i64 x.1,.string (ofL x.2)]
theorem pendV_len(x:Int × List UInt8):(pendV x).length=2:=rfl
theorem pendV_ones(l:List (Int × List UInt8)):∀ u∈l.flatMap pendV,u.oneCell'=true:=by
 intro u hu
 obtain ⟨s,_,h⟩:=List.mem_flatMap.1 hu
 simp only [pendV,List.mem_cons,List.not_mem_nil,or_false] at h
 rcases h with rfl | rfl <;> rfl
theorem strE_map(l:List (List UInt8)):l.flatMap strE=l.map fun s=>Value.string (ofL s):=by
 induction l with
 | nil=>rfl
 | cons a l ih=>rw [List.flatMap_cons,ih]; rfl
theorem strE_set(l:List (List UInt8))(j:Nat)(s:List UInt8):(l.flatMap strE).set j (.string (ofL s))=(l.set j s).flatMap strE:=by
 rw [strE_map,strE_map,List.map_set]
def DkL(g:Nat)(vb vl:Value)(m:Dk):List Res :=
 [.blk g #[vb,vl,.int .i64 m.left,.bool m.gone,.string (ofL zeroB)] 157,.row vb 9 1 m.safe.length (m.safe.flatMap strE),.row vl 199 2 m.late.length (m.late.flatMap pendV)]
theorem st_recast{W0 w:World}{F:Nat→Prop}{L L':List Res}{I:List Inv}(h:St W0 w F L I)(e:L=L'):St W0 w F L' I:=e ▸ h
theorem St.front{W0 w:World}{F:Nat→Prop}{A D L:List Res}{I:List Inv}(h:St W0 w F (A++(D++L)) I):St W0 w F (D++(A++L)) I :=
 h.perm (by rw [← List.append_assoc,← List.append_assoc]; exact List.perm_append_comm.append_right L)
section
variable {W0 w:World} {F:Nat→Prop} {L:List Res} {I:List Inv} {g:Nat} {vb vl:Value} {m:Dk}
def readyN(m:Dk)(i:Int):Int:=if m.gone=true then 11 else if 0≤i∧i<m.safe.length then 0 else 10
theorem dk_form(h:St W0 w F (DkL g vb vl m++L) I)(ok:m.ok):∃ gb cb al cl,vb=.slice (some ⟨gb,0,none⟩) m.safe.length cb∧vl=.slice al m.late.length cl∧m.late.length≤cl:=by
 obtain ⟨gb,cb,h1,_⟩:=(h.row 1 rfl).form ok.some
 obtain ⟨al,cl,h2,h3⟩:=own_slice (h.row 2 rfl)
 exact ⟨gb,cb,al,cl,h1,h2,h3⟩
theorem ready_ok(i:Int)(h:St W0 w F (DkL g vb vl m++L) I)(ok:m.ok) :
  Ret Tryz.prog 150 [.pointer (some ⟨g,0,none⟩),.int .i64 i] w fun u w'=>u=.int .i64 (readyN m i)∧w'=w:=by
 obtain ⟨gb,cb,al,cl,rfl,rfl,_⟩:=dk_form h ok
 refine ent150 _ _ _ _ ?_
 have r1:=h.rules 0 rfl
 simp (disch:=first|omega|exact zF rfl|exact zG rfl|exact fun h=>h|(simp only[zA,zB,zC,zD,bytesW];omega)) only[go_sem,r1]
 unfold readyN
 refine ⟨fun hg=>?_,fun hg=>?_⟩
 ·rw [if_pos hg]
 ·rw [if_neg (by rw [hg]; decide)]
  by_cases h0:0≤i
  ·by_cases h1:i<m.safe.length
   ·rw [if_pos ⟨h0,h1⟩]
    exact ⟨fun _=>⟨fun h=>by omega,fun _=>rfl⟩,fun h=>by omega⟩
   ·rw [if_neg (by omega)]
    exact ⟨fun _=>⟨fun _=>rfl,fun h=>by omega⟩,fun h=>by omega⟩
  ·rw [if_neg (by omega)]
   exact ⟨fun h=>by omega,fun _=>rfl⟩
def useN(m:Dk):Dk × Int:=if m.left=0 then ({ m with gone:=true },11) else if 0<m.left then ({ m with left:=m.left - 1 },0) else (m,0)
theorem useN_ok(ok:m.ok):(useN m).1.ok:=by
 unfold useN
 have hl:=ok.left
 split
 ·exact ⟨ok.safe,ok.late,ok.left,ok.some,ok.few,ok.less⟩
 ·split
  ·exact ⟨ok.safe,ok.late,⟨by have:=hl.1; simp only; omega,by have:=hl.2; simp only; omega⟩,ok.some,ok.few,ok.less⟩
  ·exact ok
theorem useN_late(m:Dk):(useN m).1.late=m.late∧(useN m).1.safe=m.safe:=by
 unfold useN; split
 ·exact ⟨rfl,rfl⟩
 ·split <;> exact ⟨rfl,rfl⟩
theorem use_ok(h:St W0 w F (DkL g vb vl m++L) I)(ok:m.ok) :
  Ret Tryz.prog 151 [.pointer (some ⟨g,0,none⟩)] w fun u w'=>u=.int .i64 (useN m).2∧St W0 w' F (DkL g vb vl (useN m).1++L) I:=by
 refine ent151 _ _ _ ?_
 have r1:=h.rules 0 rfl
 simp (disch:=first|omega|exact zF rfl|exact zG rfl|exact fun h=>h|(simp only[zA,zB,zC,zD,bytesW];omega)) only[go_sem,r1]
 unfold useN
 have hl:=ok.left
 refine ⟨fun h0=>?_,fun h0=>⟨fun h1=>?_,fun h1=>?_⟩⟩
 ·rw [if_pos h0]
  exact ⟨rfl,h.set 0 rfl 3 (.bool true)⟩
 ·rw [if_neg h0,if_pos h1]
  exact ⟨⟨by have:=hl.1; omega,by have:=hl.2; omega⟩,rfl,h.set 0 rfl 2 (.int .i64 (m.left - 1))⟩
 ·rw [if_neg h0,if_neg (by omega)]
  exact ⟨rfl,h⟩
def lastL(l:List (Int × List UInt8))(i:Int)(s:List UInt8):List UInt8:=l.foldl (fun s x=>if x.1=i then x.2 else s) s
def readN(m:Dk)(i:Int):List UInt8 × Int:=if readyN m i=0 then (lastL m.late i (m.safe.getD i.toNat []),0) else ([],readyN m i)
theorem lastL_snoc(l:List (Int × List UInt8))(x:Int × List UInt8)(i:Int)(s:List UInt8):lastL (l++[x]) i s=if x.1=i then x.2 else lastL l i s:=by
 unfold lastL; rw [List.foldl_append]; rfl
theorem readyN_in{i:Int}(hr:readyN m i=0):0≤i∧i<m.safe.length:=by
 unfold readyN at hr
 split at hr
 ·cases hr
 ·split at hr
  ·assumption
  ·cases hr
theorem read_ok(i:Int)(h:St W0 w F (DkL g vb vl m++L) I)(ok:m.ok) :
  Ret Tryz.prog 106 [.pointer (some ⟨g,0,none⟩),.int .i64 i] w fun u w'=>u=.tuple #[.string (ofL (readN m i).1),.int .i64 (readN m i).2]∧Below w.heap.size w w':=by
 refine ent106 _ _ _ _ ?_
 simp (disch:=first|omega|exact zF rfl|exact zG rfl|exact fun h=>h|(simp only[zA,zB,zC,zD,bytesW];omega)) only[go_sem,c106L0]
 refine Ret.mono (ready_ok i h ok) ?_
 rintro _ w2 ⟨rfl,e2⟩
 subst w2
 obtain ⟨gb,cb,al,cl,rfl,rfl,hcl⟩:=dk_form h ok
 have r1:=h.rules 0 rfl
 unfold readN
 by_cases hr:readyN m i=0
 case neg =>
  rw [if_neg hr]
  simp (disch:=first|omega|exact zF rfl|exact zG rfl|exact fun h=>h|(simp only[zA,zB,zC,zD,bytesW];omega)) only[go_sem,c106L0,hr]
  exact Below.refl _ _
 rw [if_pos hr]
 obtain ⟨h0,hlt⟩:=readyN_in hr
 have hS:RdS w 1 strE (.slice (some ⟨gb,0,none⟩) m.safe.length cb) m.safe:=RdS.of_own' (h.row 1 rfl) m.safe rfl rfl
 have hL:RdS w 2 pendV (.slice al m.late.length cl) m.late:=RdS.of_own' (h.row 2 rfl) m.late rfl rfl
 obtain ⟨k0,rfl⟩:=Int.eq_ofNat_of_zero_le h0
 have hk0:k0<m.safe.length:=by omega
 have eS:=RdS.at1 (e1:=fun s=>.string (ofL s)) hS hk0
 rw [Addr.add_lit,Nat.zero_add] at eS
 have e0:m.safe.getD ((k0:Int).toNat) []=m.safe[k0]:=by simp [List.getD_eq_getElem?_getD,List.getElem?_eq_getElem hk0]
 rw [e0]
 simp (disch:=first|omega|exact zF rfl|exact zG rfl|exact fun h=>h|(simp only[zA,zB,zC,zD,bytesW];omega)) only[go_sem,hr,r1,eS,hlt]
 refine ⟨by omega,?_⟩
 refine W_loopU (fun k:Nat=>[(7,.string (ofL (lastL (m.late.take k) k0 m.safe[k0]))),(28,.int .i64 k)]) (fun k w'=>k≤m.late.length∧Below w.heap.size w w') (fun k=>m.late.length - k) 0 rfl ⟨Nat.zero_le _,Below.refl _ _⟩ ?_
 rintro k w3 ⟨hk,hb⟩
 by_cases hlt2:k<m.late.length
 ·have hlt':(k:Int)<m.late.length:=by omega
  obtain ⟨p,rfl⟩:=hL.ptr (by omega)
  have eL:=(hL.below hb (by decide)).at pendV_len hlt2
  simp (disch:=first|omega|exact zF rfl|exact zG rfl|exact fun h=>h|(simp only[zA,zB,zC,zD,bytesW];omega)) only[go_sem,c106L0,c106L0,hlt',eL,pendV]
  have es:lastL (m.late.take (k+1)) k0 m.safe[k0]=if m.late[k].1=k0 then m.late[k].2 else lastL (m.late.take k) k0 m.safe[k0]:=by
   rw [List.take_succ_eq_append_getElem hlt2,lastL_snoc]
  have b':Below w.heap.size w (w3.alloc (.cells #[.int .i64 m.late[k].1,.string (ofL m.late[k].2)] 199)):=hb.alloc hb.size _
  have hless:=ok.less
  clear r1
  refine ⟨by omega,fun e=>⟨⟨by omega,by omega⟩,k+1,?_,⟨by omega,b'⟩,by omega⟩,fun e=>⟨⟨by omega,by omega⟩,k+1,?_,⟨by omega,b'⟩,by omega⟩⟩
  ·rw [es,if_pos e]; rfl
  ·rw [es,if_neg e]; rfl
 ·have hlt':¬ (k:Int)<m.late.length:=by omega
  simp (disch:=first|omega|exact zF rfl|exact zG rfl|exact fun h=>h|(simp only[zA,zB,zC,zD,bytesW];omega)) only[go_sem,c106L0,c106L0,hlt']
  rw [List.take_of_length_le (by omega)]
  exact ⟨rfl,hb⟩
def writeN(m:Dk)(i:Int)(data:List UInt8):Dk × Int :=
 if readyN m i≠0 then (m,readyN m i) else if 256<data.length then (m,21) else
 if (useN m).2=0 then ({ (useN m).1 with late:=(useN m).1.late++[(i,filledL data)] },0) else useN m
theorem writeN_ok(ok:m.ok)(hless:m.late.length<1000000)(i:Int)(data:List UInt8):(writeN m i data).1.ok:=by
 unfold writeN
 split
 ·exact ok
 ·rename_i hr
  have hr:readyN m i=0:=Decidable.not_not.1 hr
  split
  ·exact ok
  ·have hu:=useN_ok ok
   have hl:=useN_late m
   have hin:=readyN_in hr
   split
   ·refine ⟨hu.safe,fun x hx=>?_,hu.left,hu.some,hu.few,?_⟩
    ·rcases List.mem_append.1 hx with h | h
     ·exact hu.late x h
     ·rw [List.mem_singleton] at h; subst h
      rw [hl.2]
      exact ⟨hin.1,hin.2,filledL_length (by omega)⟩
    ·simp only [List.length_append,List.length_singleton,hl.1]; omega
   ·exact hu
theorem write_ok(i:Int)(data:List UInt8)(h:St W0 w F (DkL g vb vl m++L) I)(ok:m.ok)(hless:m.late.length<1000000) :
  Ret Tryz.prog 107 [.pointer (some ⟨g,0,none⟩),.int .i64 i,.string (ofL data)] w fun u w'=>u=.int .i64 (writeN m i data).2∧∃ vl',St W0 w' F (DkL g vb vl' (writeN m i data).1++L) I:=by
 refine ent107 _ _ _ _ _ ?_
 simp (disch:=first|omega|exact zF rfl|exact zG rfl|exact fun h=>h|(simp only[zA,zB,zC,zD,bytesW];omega)) only[go_sem]
 refine Ret.mono (ready_ok i h ok) ?_
 rintro _ w2 ⟨rfl,e2⟩
 subst w2
 unfold writeN
 by_cases hr:readyN m i=0
 case neg =>
  rw [if_pos hr]
  simp (disch:=first|omega|exact zF rfl|exact zG rfl|exact fun h=>h|(simp only[zA,zB,zC,zD,bytesW];omega)) only[go_sem,hr]
  exact ⟨vl,h⟩
 rw [if_neg (by omega)]
 by_cases hd:256<data.length
 ·have hd':(256:Int)<data.length:=by omega
  rw [if_pos hd]
  simp (disch:=first|omega|exact zF rfl|exact zG rfl|exact fun h=>h|(simp only[zA,zB,zC,zD,bytesW];omega)) only[go_sem,hr,hd']
  exact ⟨vl,h⟩
 have hd':¬ (256:Int)<data.length:=by omega
 rw [if_neg hd]
 simp (disch:=first|omega|exact zF rfl|exact zG rfl|exact fun h=>h|(simp only[zA,zB,zC,zD,bytesW];omega)) only[go_sem,hr,hd']
 refine Ret.mono (use_ok h ok) ?_
 rintro _ w2 ⟨rfl,h2⟩
 have ok2:=useN_ok ok
 have hl:=useN_late m
 by_cases hu:(useN m).2=0
 case neg =>
  rw [if_neg hu]
  simp (disch:=first|omega|exact zF rfl|exact zG rfl|exact fun h=>h|(simp only[zA,zB,zC,zD,bytesW];omega)) only[go_sem,hu]
  exact ⟨vl,h2⟩
 rw [if_pos hu]
 generalize (useN m).1=m1 at h2 ok2 hl ⊢
 obtain ⟨gb,cb,al,cl,rfl,rfl,hcl⟩:=dk_form h2 ok2
 have r1:=h2.rules 0 rfl
 simp (disch:=first|omega|exact zF rfl|exact zG rfl|exact fun h=>h|(simp only[zA,zB,zC,zD,bytesW];omega)) only[go_sem,hu,r1]
 refine c107draw0 (Chg (fun _=>False) _) (Chg.refl _ _) ?_
 have h3:=h2.drew
 have r3:=h3.rules 0 rfl
 have l3:=h3.low 0 rfl
 generalize w2.drew=w3 at h3 r3 l3 ⊢
 simp (disch:=first|omega|exact zF rfl|exact zG rfl|exact fun h=>h|(simp only[zA,zB,zC,zD,bytesW];omega)) only[go_sem,c107D0,r3]
 have ez:data++zeroB.drop data.length=filledL data:=by unfold zeroB filledL; rw [List.drop_replicate]
 have hz:zeroB.length=256:=List.length_replicate
 rw [ez]
 refine ⟨by rw [hz]; omega,by rw [List.length_drop,hz]; omega,?_⟩
 refine bdW_built (cells:=(pendV (i,filledL data)).toArray) (by kernel_rfl) ?_
 simp (disch:=first|omega|exact zF rfl|exact zG rfl|exact fun h=>h|(simp only[zA,zB,zC,zD,bytesW];omega)) only[go_sem]
 refine bsW_agg ty155mkI rfl (by decide) (by decide) ?_
 have hx:Rd (w3.alloc (.cells (pendV (i,filledL data)).toArray 199)) 2 (.slice (some ⟨w3.heap.size,0,none⟩) 1 1) 1 (pendV (i,filledL data)):=rd_new (n:=1) (cs:=(pendV (i,filledL data)).toArray) rfl
 simp (disch:=first|omega|exact zF rfl|exact zG rfl|exact fun h=>h|(simp only[zA,zB,zC,zD,bytesW];omega)) only[go_sem]
 have h1:∀ u∈pendV (i,filledL data),u.oneCell'=true:=by simpa using pendV_ones [(i,filledL data)]
 refine ⟨(Chg.refl _ _).alloc _,?_⟩
 refine (h3.alloc' (.cells (pendV (i,filledL data)).toArray 199)).append 2 rfl ty155mkI rfl (by decide) hx h1 (by have:=ok.less; rw [hl.1]; omega) (by have:=ok.less; rw [hl.1]; omega) ?_
 intro v6 w6 h6 c6
 obtain ⟨a6,d6,rfl,_⟩:=own_slice (h6.row 2 rfl)
 have r6:=h6.rules 0 rfl
 simp (disch:=first|omega|exact zF rfl|exact zG rfl|exact fun h=>h|(simp only[zA,zB,zC,zD,bytesW];omega)) only[go_sem,r6]
 refine ⟨.slice a6 (m1.late.length+1) d6,st_recast (h6.set 0 rfl 1 (.slice a6 (m1.late.length+1) d6)) ?_⟩
 simp only [DkL,List.length_append,List.length_singleton,List.flatMap_append,List.flatMap_cons,List.flatMap_nil,List.append_nil]
 rfl
def doneL(safe:List (List UInt8))(late:List (Int × List UInt8)):List (List UInt8):=late.foldl (fun s x=>s.set x.1.toNat x.2) safe
theorem doneL_length(safe:List (List UInt8)):∀ late,(doneL safe late).length=safe.length:=by
 intro late
 unfold doneL
 induction late generalizing safe with
 | nil=>rfl
 | cons x l ih=>rw [List.foldl_cons,ih]; simp
theorem doneL_snoc(safe:List (List UInt8))(l:List (Int × List UInt8))(x:Int × List UInt8):doneL safe (l++[x])=(doneL safe l).set x.1.toNat x.2:=by
 unfold doneL; rw [List.foldl_append]; rfl
theorem doneL_256{safe:List (List UInt8)}(h:∀ s∈safe,s.length=256):∀ {late:List (Int × List UInt8)},(∀ x∈late,x.2.length=256)→∀ s∈doneL safe late,s.length=256:=by
 intro late
 unfold doneL
 induction late generalizing safe with
 | nil=>intro _; exact h
 | cons x l ih =>
  intro hl
  rw [List.foldl_cons]
  refine ih (fun s hs=>?_) fun y hy=>hl y (List.mem_cons_of_mem _ hy)
  rcases List.mem_or_eq_of_mem_set hs with h' | rfl
  ·exact h s h'
  ·exact hl x (List.mem_cons_self ..)
def flushN(m:Dk):Dk × Int :=
 if readyN m 0≠0 then (m,readyN m 0) else if (useN m).2≠0 then useN m else ({ (useN m).1 with safe:=doneL m.safe m.late,late:=[] },0)
theorem flushN_ok(ok:m.ok):(flushN m).1.ok:=by
 unfold flushN
 split
 ·exact ok
 ·split
  ·exact useN_ok ok
  ·have hu:=useN_ok ok
   exact ⟨doneL_256 ok.safe fun x hx=>(ok.late x hx).2.2,fun _ h=>(by cases h),hu.left,by simp only [doneL_length]; exact ok.some,by simp only [doneL_length]; exact ok.few,by simp⟩
theorem flush_ok(h:St W0 w F (DkL g vb vl m++L) I)(ok:m.ok) :
  Ret Tryz.prog 153 [.pointer (some ⟨g,0,none⟩)] w fun u w'=>u=.int .i64 (flushN m).2∧∃ vl',St W0 w' F (DkL g vb vl' (flushN m).1++L) I:=by
 refine ent153 _ _ _ ?_
 simp (disch:=first|omega|exact zF rfl|exact zG rfl|exact fun h=>h|(simp only[zA,zB,zC,zD,bytesW];omega)) only[go_sem,c153L0]
 refine Ret.mono (ready_ok 0 h ok) ?_
 rintro _ w2 ⟨rfl,e2⟩
 subst w2
 unfold flushN
 by_cases hr:readyN m 0=0
 case neg =>
  rw [if_pos hr]
  simp (disch:=first|omega|exact zF rfl|exact zG rfl|exact fun h=>h|(simp only[zA,zB,zC,zD,bytesW];omega)) only[go_sem,c153L0,hr]
  exact ⟨vl,h⟩
 rw [if_neg (by omega)]
 simp (disch:=first|omega|exact zF rfl|exact zG rfl|exact fun h=>h|(simp only[zA,zB,zC,zD,bytesW];omega)) only[go_sem,c153L0,hr]
 refine Ret.mono (use_ok h ok) ?_
 rintro _ w2 ⟨rfl,h2⟩
 have ok2:=useN_ok ok
 have hl:=useN_late m
 by_cases hu:(useN m).2=0
 case neg =>
  rw [if_pos hu]
  simp (disch:=first|omega|exact zF rfl|exact zG rfl|exact fun h=>h|(simp only[zA,zB,zC,zD,bytesW];omega)) only[go_sem,c153L0,hu]
  exact ⟨vl,h2⟩
 rw [if_neg (by omega),← hl.1,← hl.2]
 generalize (useN m).1=m1 at h2 ok2 ⊢
 obtain ⟨gb,cb,al,cl,rfl,rfl,hcl⟩:=dk_form h2 ok2
 have r1:=h2.rules 0 rfl
 simp (disch:=first|omega|exact zF rfl|exact zG rfl|exact fun h=>h|(simp only[zA,zB,zC,zD,bytesW];omega)) only[go_sem,hu,r1]
 refine W_loopU (fun k:Nat=>[(19,.int .i64 k)]) (fun k w'=>St W0 w' F (DkL g (.slice (some ⟨gb,0,none⟩) m1.safe.length cb) (.slice al m1.late.length cl) { m1 with safe:=doneL m1.safe (m1.late.take k) }++L) I∧k≤m1.late.length) (fun k=>m1.late.length - k) 0 rfl ⟨h2,Nat.zero_le _⟩ ?_
 rintro k w4 ⟨h4,hk⟩
 have r4:=h4.rules 0 rfl
 have l4:=h4.low 0 rfl
 by_cases hlt:k<m1.late.length
 ·have hlt':(k:Int)<m1.late.length:=by omega
  have hL:RdS w4 2 pendV (.slice al m1.late.length cl) m1.late:=RdS.of_own' (h4.row 2 rfl) m1.late rfl rfl
  obtain ⟨p,rfl⟩:=hL.ptr (by omega)
  have eL:=hL.at pendV_len hlt
  obtain ⟨x0,x1,x2⟩:=ok2.late _ (List.getElem_mem hlt)
  obtain ⟨i0,ei⟩:=Int.eq_ofNat_of_zero_le x0
  have x1':(i0:Int)<m1.safe.length:=by omega
  simp (disch:=first|omega|exact zF rfl|exact zG rfl|exact fun h=>h|(simp only[zA,zB,zC,zD,bytesW];omega)) only[go_sem,c153L0,c153L0,hlt',eL,pendV,r4,ei]
  refine ⟨by omega,c153draw0 (Chg (fun _=>False) _) (Chg.refl _ _) ?_⟩
  have hlen:(doneL m1.safe (m1.late.take k)).length=m1.safe.length:=doneL_length ..
  have h4':=st_recast h4 (L':=[.blk g #[.slice (some ⟨gb,0,none⟩) m1.safe.length cb,.slice (some p) m1.late.length cl,.int .i64 m1.left,.bool m1.gone,.string (ofL zeroB)] 157,.row (.slice (some ⟨gb,0,none⟩) m1.safe.length cb) 9 1 m1.safe.length ((doneL m1.safe (m1.late.take k)).flatMap strE),.row (.slice (some p) m1.late.length cl) 199 2 m1.late.length (m1.late.flatMap pendV)]++L) (by simp only [DkL,hlen])
  have h5:=(h4'.box #[.int .i64 i0,.string (ofL m1.late[k].2)] 199).drew
  generalize w4.heap.size=y at h5 ⊢
  generalize (w4.alloc (.cells #[.int .i64 i0,.string (ofL m1.late[k].2)] 199)).drew=w5 at h5 ⊢
  have r5:=h5.rules 0 rfl
  have l5:=h5.low 0 rfl
  have q5:=h5.rules 1 rfl
  have m5:=h5.low 1 rfl
  clear r4 l4
  have hS:RdS w5 1 strE (.slice (some ⟨gb,0,none⟩) m1.safe.length cb) (doneL m1.safe (m1.late.take k)):=RdS.of_own' (h5.row 2 rfl) _ hlen.symm rfl
  simp (disch:=first|omega|exact zF rfl|exact zG rfl|exact fun h=>h|(simp only[zA,zB,zC,zD,bytesW];omega)) only[go_sem,c153L0,c153D0,r5,q5,x1']
  have eS:=RdS.at1 (e1:=fun s=>.string (ofL s)) hS (k:=i0) (by rw [hlen]; omega)
  rw [Addr.add_lit,Nat.zero_add] at eS
  have hfz:=(h5.row 2 rfl).frozenAt i0
  have h6:=(h5.put 2 rfl i0 (.string (ofL m1.late[k].2))).sub (List.sublist_cons_self _ _)
  have e1:doneL m1.safe (m1.late.take (k+1))=(doneL m1.safe (m1.late.take k)).set i0 m1.late[k].2:=by
   rw [List.take_succ_eq_append_getElem hlt,doneL_snoc,ei]; rfl
  have hless:=ok2.less
  refine ⟨by omega,⟨_,eS⟩,hfz,⟨by omega,by omega⟩,k+1,rfl,⟨st_recast h6 ?_,by omega⟩,by omega⟩
  simp only [DkL,e1,List.length_set,hlen]
  rw [← strE_set]
  rfl
 ·have hlt':¬ (k:Int)<m1.late.length:=by omega
  simp (disch:=first|omega|exact zF rfl|exact zG rfl|exact fun h=>h|(simp only[zA,zB,zC,zD,bytesW];omega)) only[go_sem,c153L0,c153L0,hlt',r4]
  refine ⟨.slice none 0 0,?_⟩
  have h5:=h4.set 0 rfl 1 (.slice none 0 0)
  rw [List.take_of_length_le (by omega)] at h5
  have h6:=h5.sub (L':=[.blk g #[.slice (some ⟨gb,0,none⟩) m1.safe.length cb,.slice none 0 0,.int .i64 m1.left,.bool m1.gone,.string (ofL zeroB)] 157,.row (.slice (some ⟨gb,0,none⟩) m1.safe.length cb) 9 1 (doneL m1.safe m1.late).length ((doneL m1.safe m1.late).flatMap strE)]++L) (by
   refine List.Sublist.cons_cons _ (List.Sublist.cons_cons _ ?_)
   exact List.sublist_cons_self _ _)
  exact St.front (A:=[.row (.slice none 0 0) 199 2 0 []]) (D:=[.blk g #[.slice (some ⟨gb,0,none⟩) m1.safe.length cb,.slice none 0 0,.int .i64 m1.left,.bool m1.gone,.string (ofL zeroB)] 157,.row (.slice (some ⟨gb,0,none⟩) m1.safe.length cb) 9 1 (doneL m1.safe m1.late).length ((doneL m1.safe m1.late).flatMap strE)]) (L:=L) (h6.nilRow 199 2)
end
open Go Go.Ann Go.RowKit Go.WideShapes
theorem zeros_ok(w:World) :
  Ret Tryz.prog 104 [] w fun v w'=>v=.string (ofL zeroB)∧Below w.heap.size w w':=by
 refine ent104 _ _ ?_
 simp only[go_sem,loadK_int,loadK_bool,loadK_str,loadK_slice,loadK_ptr,loadK_map,loadK_agg,loadK_other,heldW]
 refine msW_one ty181mkI rfl (by omega) (by omega) (by omega) (by omega) ?_
 simp only[go_sem,loadK_int,loadK_bool,loadK_str,loadK_slice,loadK_ptr,loadK_map,loadK_agg,loadK_other,heldW]
 exact ⟨zeroB,List.length_replicate,bytesAt_new w 256 _,rfl,(Below.refl _ _).alloc (Nat.le_refl _) _⟩
def newDk(n:Nat):Dk:={ safe:=List.replicate n zeroB,late:=[],left:=-1,gone:=false }
theorem newDk_ok{n:Nat}(h0:0<n)(h1:n≤2048):(newDk n).ok :=
 ⟨fun s hs=>by rw [List.eq_of_mem_replicate hs]; exact List.length_replicate,fun _ h=>(by cases h),⟨by simp [newDk],by simp [newDk]⟩,by simp [newDk]; omega,by simp [newDk]; omega,by simp [newDk]⟩
section
variable {W0 w:World} {F:Nat→Prop} {L:List Res} {I:List Inv}
theorem new_ok{n:Nat}(h:St W0 w F L I)(h0:0<n)(h1:n≤2048) :
  Ret Tryz.prog 40 [.int .i64 n] w fun u w'=>∃ g vb vl,u=.tuple #[.pointer (some ⟨g,0,none⟩),.int .i64 0]∧St W0 w' F (DkL g vb vl (newDk n)++L) I:=by
 have h0':¬ (n:Int)<1:=by omega
 have h1':¬ (2048:Int)<n:=by omega
 refine ent40 _ _ _ ?_
 simp (disch:=first|omega|exact zF rfl|exact zG rfl|exact fun h=>h|(simp only[zA,zB,zC,zD,bytesW];omega)) only[go_sem,h0',h1']
 refine Ret.mono (zeros_ok w) ?_
 rintro _ w2 ⟨rfl,b2⟩
 have s2:=h.call b2
 simp (disch:=first|omega|exact zF rfl|exact zG rfl|exact fun h=>h|(simp only[zA,zB,zC,zD,bytesW];omega)) only[go_sem]
 refine bdW_built (cells:=#[.slice none 0 0,.slice none 0 0,.int .i64 (-1),.bool false,.string (ofL zeroB)]) (by kernel_rfl) ?_
 have s3:=(s2.box #[.slice none 0 0,.slice none 0 0,.int .i64 (-1),.bool false,.string (ofL zeroB)] 157)
 simp (disch:=first|omega|exact zF rfl|exact zG rfl|exact fun h=>h|(simp only[zA,zB,zC,zD,bytesW];omega)) only[go_sem]
 generalize w2.heap.size=g at s3 ⊢
 generalize w2.alloc (.cells #[.slice none 0 0,.slice none 0 0,.int .i64 (-1),.bool false,.string (ofL zeroB)] 157)=w3 at s3 ⊢
 have s3:St W0 w3 F (DkL g (.slice none 0 0) (.slice none 0 0) (newDk 0)++L) I :=
  St.front (A:=[.row (.slice none 0 0) 9 1 0 [],.row (.slice none 0 0) 199 2 0 []]) (D:=[.blk g #[.slice none 0 0,.slice none 0 0,.int .i64 (-1),.bool false,.string (ofL zeroB)] 157]) (L:=L) ((s3.nilRow 199 2).nilRow 9 1)
 refine W_loopU (fun q:Nat × Value=>[(15,.int .i64 q.1)]) (fun q w'=>St W0 w' F (DkL g q.2 (.slice none 0 0) (newDk q.1)++L) I∧q.1≤n) (fun q=>n - q.1) (0,.slice none 0 0) rfl ⟨s3,Nat.zero_le _⟩ ?_
 clear s3 s2 b2
 rintro ⟨k,v⟩ w4 ⟨s4,hk⟩
 simp only at s4 hk
 by_cases hlt:k<n
 ·have hlt':(k:Int)<n:=by omega
  simp (disch:=first|omega|exact zF rfl|exact zG rfl|exact fun h=>h|(simp only[zA,zB,zC,zD,bytesW];omega)) only[go_sem,c40L0,c40L0,hlt']
  refine c40draw0 (Chg (fun _=>False) _) (Chg.refl _ _) ?_
  have s5:=s4.drew
  have r5:=s5.rules 0 rfl
  have l5:=s5.low 0 rfl
  obtain ⟨va,vc,rfl,_⟩:=own_slice (s5.row 1 rfl)
  generalize w4.drew=w5 at s5 r5 l5 ⊢
  simp (disch:=first|omega|exact zF rfl|exact zG rfl|exact fun h=>h|(simp only[zA,zB,zC,zD,bytesW];omega)) only[go_sem,c40L0,c40D0,r5]
  have ones:∀ u∈strE zeroB,u.oneCell'=true:=by simpa using strE_ones [zeroB]
  refine bsW_ones ty22mkI rfl rfl (by decide) (by decide) ones ?_
  have hx:Rd (w5.alloc (.cells (strE zeroB).toArray 9)) 1 (.slice (some ⟨w5.heap.size,0,none⟩) 1 1) 1 (strE zeroB):=rd_new (n:=1) (cs:=(strE zeroB).toArray) rfl
  simp (disch:=first|omega|exact zF rfl|exact zG rfl|exact fun h=>h|(simp only[zA,zB,zC,zD,bytesW];omega)) only[go_sem,c40L0]
  refine ⟨(Chg.refl _ _).alloc _,?_⟩
  have hlk:(newDk k).safe.length=k:=List.length_replicate
  refine (s5.alloc' (.cells (strE zeroB).toArray 9)).append 1 rfl ty22mkI rfl (by decide) hx ones (by omega) (by omega) ?_
  intro v6 w6 h6 c6
  obtain ⟨a6,d6,rfl,_⟩:=own_slice (h6.row 1 rfl)
  have r6:=h6.rules 0 rfl
  simp (disch:=first|omega|exact zF rfl|exact zG rfl|exact fun h=>h|(simp only[zA,zB,zC,zD,bytesW];omega)) only[go_sem,c40L0,r6]
  refine ⟨⟨by omega,by omega⟩,(k+1,.slice a6 ((newDk k).safe.length+1) d6),rfl,⟨st_recast (h6.set 0 rfl 0 (.slice a6 ((newDk k).safe.length+1) d6)) ?_,by simp only; omega⟩,by simp only; omega⟩
  have e:(newDk (k+1)).safe=(newDk k).safe++[zeroB]:=List.replicate_succ'
  simp only [DkL,e,List.length_append,List.length_singleton,List.flatMap_append,List.flatMap_cons,List.flatMap_nil,List.append_nil]
  rfl
 ·have hlt':¬ (k:Int)<n:=by omega
  obtain rfl:k=n:=by omega
  simp (disch:=first|omega|exact zF rfl|exact zG rfl|exact fun h=>h|(simp only[zA,zB,zC,zD,bytesW];omega)) only[go_sem,c40L0,c40L0,hlt']
  exact ⟨g,v,_,rfl,s4⟩
theorem len_ok{g:Nat}{vb vl:Value}{m:Dk}(h:St W0 w F (DkL g vb vl m++L) I)(ok:m.ok) :
  Ret Tryz.prog 105 [.pointer (some ⟨g,0,none⟩)] w fun u w'=>u=.int .i64 m.safe.length∧w'=w:=by
 obtain ⟨gb,cb,al,cl,rfl,rfl,_⟩:=dk_form h ok
 refine ent105 _ _ _ ?_
 have r1:=h.rules 0 rfl
 simp (disch:=first|omega|exact zF rfl|exact zG rfl|exact fun h=>h|(simp only[zA,zB,zC,zD,bytesW];omega)) only[go_sem,r1]
end
open Go Go.Ann Go.RowKit
def bitOf(c:Int)(k:Nat):Bool:=decide (c / 2 ^ k % 2=1)
def hasL(l:List UInt8)(i:Int):Bool:=decide (0≤i) && decide (i<8 * l.length) && bitOf (bN l (i / 8)) (i % 8).toNat
theorem and_one_u8(x:Int)(h0:0≤x)(h1:x≤255):bits BinOp.and IntKind.u8 x 1=x % 2:=by
 obtain ⟨n,rfl⟩:=Int.eq_ofNat_of_zero_le h0
 have:∀ m:Fin 256,bits BinOp.and IntKind.u8 ((m.val:Nat):Int) 1=(m.val:Int) % 2:=by decide +kernel
 exact this ⟨n,by omega⟩
theorem div_pow_bd(c:Int)(k:Nat)(hc0:0≤c)(hc:c≤255):0≤c / 2 ^ k∧c / 2 ^ k≤255:=by
 have h1:(0:Int)<2 ^ k:=Int.pow_pos (by decide)
 refine ⟨Int.ediv_nonneg hc0 (Int.le_of_lt h1),?_⟩
 exact Int.le_trans (Int.ediv_le_self _ hc0) hc
theorem has_ok(l:List UInt8)(i:Int)(w:World)(hi:I64 i) :
  Ret Tryz.prog 49 [.string (ofL l),.int .i64 i] w fun v w'=>v=.bool (hasL l i)∧w'=w:=by
 refine ent49 _ _ _ _ ?_
 simp only[go_sem,loadK_int,loadK_bool,loadK_str,loadK_slice,loadK_ptr,loadK_map,loadK_agg,loadK_other,heldW]
 refine ⟨fun h0=>?_,fun h0=>?_⟩
 ·rw [Int.tdiv_eq_ediv_of_nonneg h0,Int.tmod_eq_emod_of_nonneg h0]
  refine ⟨hi,fun h1=>⟨hi,⟨by omega,h1⟩,?_⟩,fun h1=>?_⟩
  ·have b:=bN_bd l (i / 8)
   rw [wrap_u64_id _ (by omega) (by omega),show min (i % 8).toNat 8=(i % 8).toNat by omega]
   have b':=div_pow_bd _ (i % 8).toNat b.1 b.2
   rw [and_one_u8 _ b'.1 b'.2]
   have e1:decide (0≤i)=true:=by simpa using h0
   have e2:decide (i<8 * (l.length:Int))=true:=by simp; omega
   simp [hasL,e1,e2,bitOf]
  ·have e2:decide (i<8 * (l.length:Int))=false:=by simp; omega
   simp [hasL,e2]
 ·have e2:decide (0≤i)=false:=by simp; omega
  simp [hasL,e2]
def setBit(c:Int)(k:Nat)(b:Bool):Int:=if b then (if bitOf c k then c else c+2 ^ k) else (if bitOf c k then c - 2 ^ k else c)
theorem setBit_or(c:Int)(k:Nat)(h0:0≤c)(h1:c≤255)(hk:k<8):bits .or .u8 c (IntKind.u8.wrap (1 * 2 ^ k))=setBit c k true:=by
 obtain ⟨n,rfl⟩:=Int.eq_ofNat_of_zero_le h0
 have:∀ (m:Fin 256) (k:Fin 8),bits .or .u8 ((m.val:Nat):Int) (IntKind.u8.wrap (1 * 2 ^ k.val))=setBit (m.val:Int) k.val true:=by decide +kernel
 exact this ⟨n,by omega⟩ ⟨k,hk⟩
theorem setBit_andNot(c:Int)(k:Nat)(h0:0≤c)(h1:c≤255)(hk:k<8):bits .andNot .u8 c (IntKind.u8.wrap (1 * 2 ^ k))=setBit c k false:=by
 obtain ⟨n,rfl⟩:=Int.eq_ofNat_of_zero_le h0
 have:∀ (m:Fin 256) (k:Fin 8),bits .andNot .u8 ((m.val:Nat):Int) (IntKind.u8.wrap (1 * 2 ^ k.val))=setBit (m.val:Int) k.val false:=by decide +kernel
 exact this ⟨n,by omega⟩ ⟨k,hk⟩
theorem setBit_bd(c:Int)(k:Nat)(b:Bool)(h0:0≤c)(h1:c≤255)(hk:k<8):0≤setBit c k b∧setBit c k b≤255:=by
 obtain ⟨n,rfl⟩:=Int.eq_ofNat_of_zero_le h0
 have:∀ (m:Fin 256) (k:Fin 8) (b:Bool),0≤setBit (m.val:Int) k.val b∧setBit (m.val:Int) k.val b≤255:=by decide +kernel
 exact this ⟨n,by omega⟩ ⟨k,hk⟩ b
def withL(l:List UInt8)(i:Int)(b:Bool):List UInt8 :=
 if 0≤i∧i<8 * l.length then l.set (i / 8).toNat (UInt8.ofNat (setBit (bN l (i / 8)) (i % 8).toNat b).toNat) else l
def fitsL(l:List UInt8)(i:Int):Bool:=decide (0≤i∧i<8 * l.length)
theorem with_ok(l:List UInt8)(i:Int)(b:Bool)(w:World)(hi:I64 i) :
  Ret Tryz.prog 115 [.string (ofL l),.int .i64 i,.bool b] w fun v w'=>v=.tuple #[.string (ofL (withL l i b)),.bool (fitsL l i)]∧Below w.heap.size w w':=by
 refine ent115 _ _ _ _ _ ?_
 simp only[go_sem,loadK_int,loadK_bool,loadK_str,loadK_slice,loadK_ptr,loadK_map,loadK_agg,loadK_other,heldW]
 refine ⟨fun h0=>?_,fun h0=>?_⟩
 ·rw [Int.tdiv_eq_ediv_of_nonneg h0,Int.tmod_eq_emod_of_nonneg h0]
  refine ⟨hi,fun h1=>?_,fun h1 c hc=>?_⟩
  ·have h2:¬ (0≤i∧i<8 * (l.length:Int)):=by omega
   rw [withL,fitsL,if_neg h2,decide_eq_false h2]
   exact ⟨rfl,Below.refl _ _⟩
  ·have h2:(0≤i∧i<8 * (l.length:Int)):=by omega
   have h3:0≤i / 8:=by omega
   have hlt:(i / 8).toNat<l.length:=by omega
   have hg:=List.getElem?_eq_getElem hlt
   have hcell:=cell_bytesW w l c 5 _ _ hg
   have hfr:=frozen_bytesW w l c 5 (i / 8).toNat (by omega)
   have hbn:bN l (i / 8)=(l[(i / 8).toNat].toNat:Int):=by
    rw [← bN_get l _ _ hg,Int.toNat_of_nonneg h3]
   have bd:=bN_bd l (i / 8)
   have e5:min (i % 8).toNat 8=(i % 8).toNat:=by omega
   rw [hcell,hfr,wrap_u64_id _ (show 0≤i % 8 by omega) (by omega),e5,← hbn]
   have hat:=bytesAt_bytesW w l c 5
   have key:∀ bb,bytesAt ((bytesW w l c 5).setCell ⟨w.heap.size,(i / 8).toNat,none⟩ (.int .u8 (setBit (bN l (i / 8)) (i % 8).toNat bb))) (some ⟨w.heap.size,0,none⟩) (withL l i bb):=by
    intro bb
    have bd2:=setBit_bd (bN l (i / 8)) (i % 8).toNat bb bd.1 bd.2 (by omega)
    have:=bytesAt_set hat bd2.1 bd2.2 hlt
    rw [Nat.zero_add] at this
    rw [withL,if_pos h2]
    exact this
   have hlen:∀ bb,(withL l i bb).length=l.length:=fun bb=>by rw [withL,if_pos h2,List.length_set]
   refine ⟨fun hb=>?_,fun hb=>?_⟩ <;> subst hb
   ·refine ⟨hi,⟨h3,h1⟩,_,rfl,⟨h3,h1⟩,⟨_,rfl⟩,rfl,withL l i true,hlen true,?_,?_,(below_bytesW _ _ _ _).setCell (Nat.le_refl _) _⟩
    ·rw [setBit_or _ _ bd.1 bd.2 (by omega)]; exact key true
    ·rw [fitsL,decide_eq_true h2]
   ·refine ⟨hi,⟨h3,h1⟩,_,rfl,⟨h3,h1⟩,⟨_,rfl⟩,rfl,withL l i false,hlen false,?_,?_,(below_bytesW _ _ _ _).setCell (Nat.le_refl _) _⟩
    ·rw [setBit_andNot _ _ bd.1 bd.2 (by omega)]; exact key false
    ·rw [fitsL,decide_eq_true h2]
 ·have h2:¬ (0≤i∧i<8 * (l.length:Int)):=by omega
  rw [withL,fitsL,if_neg h2,decide_eq_false h2]
  exact ⟨rfl,Below.refl _ _⟩
def emptyL(n:Int):List UInt8:=List.replicate ((n+7) / 8).toNat 0
theorem bytesAt_zeros(w:World)(n:Nat)(e:Nat):bytesAt (w.alloc (.cells (zerosA (.int .u8 0) n) e)) (some ⟨w.heap.size,0,none⟩) (List.replicate n 0):=by
 intro i b h
 simp only [Addr.add_lit,Nat.zero_add]
 obtain ⟨hi,hb⟩:=List.getElem?_eq_some_iff.1 h
 simp only [List.length_replicate] at hi
 simp only [List.getElem_replicate] at hb
 subst hb
 rw [World.cell?_alloc_at _ _ _ _ rfl]
 simp [zerosA,hi]
theorem empty_ok(n:Int)(w:World)(hi:I64 n)(hn:n≤100000000) :
  Ret Tryz.prog 114 [.int .i64 n] w fun v w'=>v=.string (ofL (emptyL n))∧Below w.heap.size w w':=by
 have hk:max 0 (n.tdiv 8+min 1 (max 0 (n.tmod 8)))=max 0 ((n+7) / 8):=by
  rcases Int.le_total 0 n with h | h
  ·rw [Int.tdiv_eq_ediv_of_nonneg h,Int.tmod_eq_emod_of_nonneg h]; omega
  ·have h1:n.tdiv 8≤0:=by
    have h2:n.tdiv 8 = -((-n) / 8):=by
     rw [← Int.tdiv_eq_ediv_of_nonneg (by omega),Int.neg_tdiv,Int.neg_neg]
    omega
   have h2:n.tmod 8≤0:=by
    have h2:n.tmod 8 = -((-n) % 8):=by
     rw [← Int.tmod_eq_emod_of_nonneg (by omega),Int.neg_tmod,Int.neg_neg]
    omega
   omega
 have hd:I64 (n.tdiv 8):=tdiv_i64 n 8 (by decide) (by decide) hi
 refine ent114 _ _ _ ?_
 simp only[go_sem,loadK_int,loadK_bool,loadK_str,loadK_slice,loadK_ptr,loadK_map,loadK_agg,loadK_other,heldW]
 refine ⟨hi,?_,?_⟩
 ·obtain ⟨h1,h2⟩:=hd
  have h3:n.tdiv 8≤100000000:=by
   rcases Int.le_total 0 n with h | h
   ·rw [Int.tdiv_eq_ediv_of_nonneg h]; omega
   ·have h2:n.tdiv 8 = -((-n) / 8):=by
     rw [← Int.tdiv_eq_ediv_of_nonneg (by omega),Int.neg_tdiv,Int.neg_neg]
    omega
  exact ⟨by omega,by omega⟩
 ·rw [hk]
  refine msW_one ty181mkI rfl (by omega) (by omega) (by omega) (by omega) ?_
  simp only[go_sem,loadK_int,loadK_bool,loadK_str,loadK_slice,loadK_ptr,loadK_map,loadK_agg,loadK_other,heldW]
  have hb:=bytesAt_zeros w (max 0 ((n+7) / 8)).toNat 5
  have e:List.replicate (max 0 ((n+7) / 8)).toNat (0:UInt8)=emptyL n:=by unfold emptyL; congr 1; omega
  rw [e] at hb
  exact ⟨emptyL n,by unfold emptyL; rw [List.length_replicate]; omega,hb,rfl,(Below.refl _ _).alloc (Nat.le_refl _) _⟩
def IsLow(l:List UInt8)(a b v:Int)(ok:Bool):Prop :=
 (ok=true∧a≤v∧0≤v∧v<b∧v<8 * l.length∧hasL l v=false∧∀ j,a≤j→0≤j→j<v→hasL l j=true) ∨
 (ok=false∧v=0∧∀ j,a≤j→0≤j→j<b→j<8 * l.length→hasL l j=true)
theorem IsLow.same{l:List UInt8}{a b v v':Int}{ok ok':Bool}(h:IsLow l a b v ok)(h':IsLow l a b v' ok'):v=v'∧ok=ok':=by
 rcases h with ⟨rfl,h1,h2,h3,h4,h5,h6⟩ | ⟨rfl,rfl,h6⟩ <;> rcases h' with ⟨rfl,g1,g2,g3,g4,g5,g6⟩ | ⟨rfl,rfl,g6⟩
 ·refine ⟨?_,rfl⟩
  rcases Int.lt_trichotomy v v' with h | h | h
  ·have:=g6 v h1 h2 h; rw [h5] at this; cases this
  ·exact h
  ·have:=h6 v' g1 g2 h; rw [g5] at this; cases this
 ·have:=g6 v h1 h2 h3 h4; rw [h5] at this; cases this
 ·have:=h6 v' g1 g2 g3 g4; rw [g5] at this; cases this
 ·exact ⟨rfl,rfl⟩
theorem hasL_255(l:List UInt8)(i:Int)(h0:0≤i)(h1:i<8 * l.length)(hb:bN l (i / 8)=255):hasL l i=true:=by
 have e1:decide (0≤i)=true:=by simpa using h0
 have e2:decide (i<8 * (l.length:Int))=true:=by simpa using h1
 have:∀ k:Fin 8,bitOf 255 k.val=true:=by decide
 have:=this ⟨(i % 8).toNat,by omega⟩
 simp [hasL,e1,e2,hb,this]
theorem lowest_ok(l:List UInt8)(a b:Int)(w:World)(ha:I64 a)(hb:I64 b)(hl:(l.length:Int)≤140737488355328) :
  Ret Tryz.prog 126 [.string (ofL l),.int .i64 a,.int .i64 b] w fun v w'=>∃ n ok,v=.tuple #[.int .i64 n,.bool ok]∧IsLow l a b n ok∧w'=w:=by
 obtain ⟨b1,b2⟩:=hb
 obtain ⟨a1,a2⟩:=ha
 refine ent126 _ _ _ _ _ ?_
 simp only[go_sem,loadK_int,loadK_bool,loadK_str,loadK_slice,loadK_ptr,loadK_map,loadK_agg,loadK_other,heldW]
 refine W_loop (fun i:Int=>[(0,.string (ofL l)),(2,.int .i64 b),(8,.int .i64 i)]) (fun i w'=>max 0 a≤i∧i≤9223372036854775807∧(∀ j,a≤j→0≤j→j<i→j<b→j<8 * l.length→hasL l j=true)∧w'=w)
  (fun i=>(9223372036854775807 - i).toNat) (max 0 a) (by rfl) ⟨by omega,by omega,fun j h1 h2 h3=>by omega,rfl⟩ ?_
 rintro i w' ⟨hi0,hi1,hall,rfl⟩
 have hii:I64 i:=⟨by omega,by omega⟩
 have i0:0≤i:=by omega
 have none:(i<b→(l.length:Int)≤i / 8)→∃ n ok,Value.tuple #[.int .i64 0,.bool false]=.tuple #[.int .i64 n,.bool ok]∧IsLow l a b n ok:=by
  intro h
  refine ⟨0,false,rfl,.inr ⟨rfl,rfl,fun j h1 h2 h3 h4=>?_⟩⟩
  rcases Int.lt_or_le j i with h5 | h5
  ·exact hall j h1 h2 h5 h3 h4
  ·have:=h (by omega); omega
 have next:∀ d:Int,1≤d→d≤8→i<b→i / 8<l.length→(∀ j,i≤j→j<i+d→j<8 * l.length→hasL l j=true) →
   ∃ s',[(0,Value.string (ofL l)),(2,Value.int .i64 b),(8,Value.int .i64 (i+d))]=[(0,Value.string (ofL l)),(2,Value.int .i64 b),(8,Value.int .i64 s')] ∧
    (max 0 a≤s'∧s'≤9223372036854775807∧(∀ j,a≤j→0≤j→j<s'→j<b→j<8 * l.length→hasL l j=true))∧(9223372036854775807 - s').toNat<(9223372036854775807 - i).toNat:=by
  intro d d1 d8 h1 h2 h3
  refine ⟨i+d,rfl,⟨by omega,by omega,fun j g1 g2 g3 g4 g5=>?_⟩,by omega⟩
  rcases Int.lt_or_le j i with h5 | h5
  ·exact hall j g1 g2 h5 g4 g5
  ·exact h3 j h5 g3 g5
 have done:i<b→i / 8<l.length→hasL l i=false→∃ n ok,Value.tuple #[.int .i64 i,.bool true]=.tuple #[.int .i64 n,.bool ok]∧IsLow l a b n ok:=by
  intro h1 h2 h3
  exact ⟨i,true,rfl,.inl ⟨rfl,by omega,i0,h1,by omega,h3,fun j g1 g2 g3=>hall j g1 g2 g3 (by omega) (by omega)⟩⟩
 simp only[go_sem,loadK_int,loadK_bool,loadK_str,loadK_slice,loadK_ptr,loadK_map,loadK_agg,loadK_other,heldW]
 rw [Int.tdiv_eq_ediv_of_nonneg i0,Int.tmod_eq_emod_of_nonneg i0]
 refine ⟨fun h1=>⟨hii,fun h2=>⟨fun h3=>⟨hii,⟨by omega,h2⟩,fun h4=>⟨⟨by omega,by omega⟩,⟨by omega,by omega⟩,?_⟩,fun h4=>?_⟩,fun h3=>?_⟩,fun h2=>?_⟩,fun h1=>?_⟩
 ·have:=next 8 (by omega) (by omega) h1 h2 (fun j g1 g2 g3=>hasL_255 l j (by omega) g3 (by rw [show j / 8=i / 8 by omega]; exact h4))
  rw [show i+7+1=i+8 by omega]
  exact this
 ·refine (has_ok l i _ hii).mono ?_
  rintro _ _ ⟨rfl,rfl⟩
  simp only[go_sem,loadK_int,loadK_bool,loadK_str,loadK_slice,loadK_ptr,loadK_map,loadK_agg,loadK_other,heldW]
  refine ⟨fun h5=>done h1 h2 h5,fun h5=>⟨⟨by omega,by omega⟩,next 1 (by omega) (by omega) h1 h2 (fun j g1 g2 g3=>by rw [show j=i by omega]; exact h5)⟩⟩
 ·refine (has_ok l i _ hii).mono ?_
  rintro _ _ ⟨rfl,rfl⟩
  simp only[go_sem,loadK_int,loadK_bool,loadK_str,loadK_slice,loadK_ptr,loadK_map,loadK_agg,loadK_other,heldW]
  refine ⟨fun h5=>done h1 h2 h5,fun h5=>⟨⟨by omega,by omega⟩,next 1 (by omega) (by omega) h1 h2 (fun j g1 g2 g3=>by rw [show j=i by omega]; exact h5)⟩⟩
 ·exact none (fun _=>h2)
 ·exact none (fun h=>by omega)
def popN(c:Int):Nat:=((List.range 8).filter (bitOf c)).length
def countL(l:List UInt8):Nat:=(l.map fun b=>popN b.toNat).sum
theorem popN_le(c:Int):popN c≤8:=by
 unfold popN
 exact Nat.le_trans (List.length_filter_le _ _) (by simp)
theorem countL_le:∀ l:List UInt8,countL l≤8 * l.length
 | []=>by simp [countL]
 | b::l=>by
  have:=countL_le l
  have h:=popN_le b.toNat
  simp only [countL,List.map_cons,List.sum_cons,List.length_cons] at *
  omega
theorem countL_take(l:List UInt8)(k:Nat)(h:k<l.length):countL (l.take (k+1))=countL (l.take k)+popN (bN l k):=by
 rw [List.take_succ_eq_append_getElem h]
 have:bN l k=(l[k].toNat:Int):=bN_get l k _ (List.getElem?_eq_getElem h)
 rw [this]
 unfold countL
 rw [List.map_append,List.sum_append]
 simp
theorem ones_ok(c:Int)(w:World)(h0:0≤c)(h1:c≤255) :
  Ret Tryz.prog 116 [.int .u8 c] w fun v w'=>v=.int .i64 (popN c)∧w'=w:=by
 refine ent116 _ _ _ ?_
 simp only[go_sem,loadK_int,loadK_bool,loadK_str,loadK_slice,loadK_ptr,loadK_map,loadK_agg,loadK_other,heldW]
 have len:str256x1466348926.length=256:=by decide +kernel
 have all:∀ m:Fin 256,bN str256x1466348926 (m.val:Int)=(popN (m.val:Int):Int):=by decide +kernel
 have e:bN str256x1466348926 c=popN c:=by
  have:=all ⟨c.toNat,by omega⟩
  rwa [show ((c.toNat:Nat):Int)=c by omega] at this
 have:=popN_le c
 refine ⟨⟨h0,by omega⟩,?_,?_⟩
 ·rw [e]; constructor <;> omega
 ·rw [e]
theorem count_ok(l:List UInt8)(w:World)(hl:(l.length:Int)≤140737488355328) :
  Ret Tryz.prog 48 [.string (ofL l)] w fun v w'=>v=.int .i64 (countL l)∧w'=w:=by
 refine ent48 _ _ _ ?_
 simp only[go_sem,loadK_int,loadK_bool,loadK_str,loadK_slice,loadK_ptr,loadK_map,loadK_agg,loadK_other,heldW]
 refine W_loop (fun k:Nat=>[(0,Value.string (ofL l)),(3,.int .i64 (countL (l.take k))),(6,.int .i64 l.length),(7,.int .i64 (k:Int))])
  (fun k w'=>k≤l.length∧w'=w) (fun k=>l.length - k) 0 (by rfl) ⟨Nat.zero_le _,rfl⟩ ?_
 rintro k w' ⟨hk,rfl⟩
 simp only[go_sem,loadK_int,loadK_bool,loadK_str,loadK_slice,loadK_ptr,loadK_map,loadK_agg,loadK_other,heldW]
 refine ⟨fun h=>⟨⟨by omega,h⟩,?_⟩,fun h=>?_⟩
 ·have bd:=bN_bd l k
  have h':k<l.length:=by omega
  have ct:=countL_take l k h'
  have c1:=countL_le (l.take (k+1))
  have c2:=countL_le (l.take k)
  have l1:(l.take (k+1)).length=k+1:=by rw [List.length_take]; omega
  have l2:(l.take k).length=k:=by rw [List.length_take]; omega
  rw [l1] at c1
  rw [l2] at c2
  refine (ones_ok _ _ bd.1 bd.2).mono ?_
  rintro _ w3 ⟨rfl,rfl⟩
  simp only[go_sem,loadK_int,loadK_bool,loadK_str,loadK_slice,loadK_ptr,loadK_map,loadK_agg,loadK_other,heldW]
  refine ⟨by constructor <;> omega,by constructor <;> omega,k+1,?_,by omega,by omega⟩
  rw [ct]; simp
 ·rw [List.take_of_length_le (by omega)]
theorem set_bits:∀ (c:Fin 256) (k j:Fin 8) (b:Bool),bitOf ((UInt8.ofNat (setBit (c.val:Int) k.val b).toNat).toNat:Int) j.val=if j=k then b else bitOf c.val j.val:=by decide +kernel
theorem bN_set(l:List UInt8)(j:Int)(u:UInt8)(h0:0≤j)(h:j<l.length)(k:Int)(hk:0≤k):bN (l.set j.toNat u) k=if k=j then (u.toNat:Int) else bN l k:=by
 by_cases e:k=j
 ·subst e
  rw [if_pos rfl]
  have:=bN_get (l.set k.toNat u) k.toNat u (by rw [List.getElem?_set_self (by omega)])
  rwa [show ((k.toNat:Nat):Int)=k by omega] at this
 ·rw [if_neg e]
  unfold bN
  rw [List.getD_eq_getElem?_getD,List.getD_eq_getElem?_getD,List.getElem?_set_ne (by omega)]
theorem hasL_in(l:List UInt8)(i:Int)(h:0≤i∧i<8 * l.length):hasL l i=bitOf (bN l (i / 8)) (i % 8).toNat:=by
 simp [hasL,h.1,h.2]
theorem withL_length(l:List UInt8)(i:Int)(b:Bool):(withL l i b).length=l.length:=by
 unfold withL; split <;> simp
theorem withL_has(l:List UInt8)(i:Int)(b:Bool)(h:fitsL l i=true)(k:Int):hasL (withL l i b) k=if k=i then b else hasL l k:=by
 have h':=of_decide_eq_true h
 by_cases hk:0≤k∧k<8 * l.length
 ·rw [hasL_in _ k (by rw [withL_length]; exact hk),hasL_in l k hk]
  unfold withL
  rw [if_pos h',bN_set _ _ _ (by omega) (by omega) _ (by omega)]
  have bd:=bN_bd l (i / 8)
  by_cases e:k / 8=i / 8
  ·rw [if_pos e]
   have:=set_bits ⟨(bN l (i / 8)).toNat,by omega⟩ ⟨(i % 8).toNat,by omega⟩ ⟨(k % 8).toNat,by omega⟩ b
   rw [show ((bN l (i / 8)).toNat:Int)=bN l (i / 8) by omega] at this
   rw [this,e]
   by_cases e2:k=i
   ·subst e2; simp
   ·rw [if_neg e2,if_neg (by intro h; have:=congrArg Fin.val h; simp only at this; omega)]
  ·rw [if_neg e,if_neg (by rintro rfl; exact e rfl)]
 ·have hn:∀ m:List UInt8,m.length=l.length→hasL m k=false:=by
   intro m hm
   unfold hasL
   rw [hm]
   rw [← Bool.decide_and,decide_eq_false hk]; rfl
  rw [hn l rfl,hn _ (withL_length l i b),if_neg (by rintro rfl; exact hk h')]
open Go Go.Ann Go.RowKit Go.WideShapes
def u8(n:Nat):UInt8:=UInt8.ofNat n
def byteC(b:UInt8):Value:=.int .u8 b.toNat
theorem byte_one(b:UInt8):∀ u∈[byteC b],u.oneCell'=true:=by intro u hu; rw [List.mem_singleton] at hu; subst hu; rfl
theorem wrap_u8(n:Nat):IntKind.u8.wrap (n:Int)=((u8 n).toNat:Int):=by
 rw [wrap_u8_mod]; unfold u8; simp
def fixL(n k:Nat):List UInt8:=(List.range k).map fun i=>u8 (n / 256 ^ i)
theorem fixL_len(n k:Nat):(fixL n k).length=k:=by unfold fixL; simp
theorem fixL_succ(n k:Nat):fixL n (k+1)=fixL n k++[u8 (n / 256 ^ k)]:=by unfold fixL; rw [List.range_succ,List.map_append]; rfl
def unfixL:List UInt8→Nat
 | []=>0
 | b::l=>b.toNat+256 * unfixL l
theorem unfixL_snoc(b:UInt8):∀ l:List UInt8,unfixL (l++[b])=unfixL l+b.toNat * 256 ^ l.length
 | []=>by simp [unfixL]
 | a::l=>by
  rw [List.cons_append,unfixL,unfixL,unfixL_snoc b l,List.length_cons,Nat.pow_succ,Nat.mul_add,← Nat.add_assoc,Nat.mul_comm (256 ^ l.length) 256,Nat.mul_left_comm]
theorem unfixL_lt:∀ l:List UInt8,unfixL l<256 ^ l.length
 | []=>by decide
 | b::l=>by
  have h1:=unfixL_lt l
  have h2:=b.toNat_lt
  rw [unfixL,List.length_cons,Nat.pow_succ]
  omega
theorem unfixL_fixL(n:Nat):∀ k,unfixL (fixL n k)=n % 256 ^ k
 | 0=>by simp [fixL,unfixL,Nat.mod_one]
 | k+1=>by
  rw [fixL_succ,unfixL_snoc,unfixL_fixL n k,fixL_len,Nat.pow_succ]
  have e:(u8 (n / 256 ^ k)).toNat=n / 256 ^ k % 256:=by unfold u8; simp
  rw [e,Nat.mod_mul,Nat.mul_comm (256 ^ k)]
theorem pow256(k:Nat):(256:Nat) ^ k=2 ^ (8 * k):=by rw [show (256:Nat)=2 ^ 8 from rfl,← Nat.pow_mul]
theorem or_next{a b i:Nat}(ha:a<2 ^ i)(hb:b<256)(hi:i≤56):bits .or .u64 (a:Int) (IntKind.u64.wrap ((b:Int) * 2 ^ i))=((a+b * 2 ^ i:Nat):Int):=by
 have h56:2 ^ i≤2 ^ 56:=Nat.pow_le_pow_right (by decide) hi
 have hb2:b * 2 ^ i≤255 * 2 ^ 56:=Nat.mul_le_mul (by omega) h56
 have e0:IntKind.u64.wrap ((b:Int) * 2 ^ i)=((b * 2 ^ i:Nat):Int):=by
  have:((b:Int) * 2 ^ i)=((b * 2 ^ i:Nat):Int):=by push_cast; rfl
  rw [this,wrap_u64_id _ (by omega) (by omega)]
 rw [e0]
 have e:(BitVec.ofInt 64 (a:Int) ||| BitVec.ofInt 64 ((b * 2 ^ i:Nat):Int)).toNat=a+b * 2 ^ i:=by
  rw [BitVec.toNat_or,BitVec.ofInt_natCast,BitVec.ofInt_natCast,BitVec.toNat_ofNat,BitVec.toNat_ofNat,Nat.mod_eq_of_lt (by omega),Nat.mod_eq_of_lt (by omega),Nat.or_comm]
  have:=Nat.shiftLeft_add_eq_or_of_lt ha b
  rw [Nat.shiftLeft_eq] at this
  rw [← this]; omega
 show IntKind.u64.wrap (((BitVec.ofInt 64 (a:Int) ||| BitVec.ofInt 64 ((b * 2 ^ i:Nat):Int)).toNat:Nat):Int)=_
 rw [e,wrap_u64_id _ (by omega) (by omega)]
theorem row_bytes{w:World}{B e n c:Nat}{a:Option Addr}{l:List UInt8}(h:w.ownsRow B e 1 (.slice a n c) n (l.map byteC)):bytesAt w a l:=by
 rcases h.2 with ⟨e,h0⟩ | ⟨g,cap,cur,e,_⟩
 ·have hl:=h.1
  rw [List.length_map] at hl
  have hn:l=[]:=List.eq_nil_of_length_eq_zero (by omega)
  simp only [Value.slice.injEq] at e
  obtain ⟨rfl,_,_⟩:=e
  exact hn
 ·simp only [Value.slice.injEq] at e
  obtain ⟨rfl,_,rfl⟩:=e
  intro j b hb
  refine h.cells rfl j _ ?_
  rw [List.getElem?_map,hb]; rfl
theorem fixed_ok(n k:Nat)(w:World)(hn:n<18446744073709551616)(hk:k≤8):Ret Tryz.prog 118 [.int .u64 n,.int .i64 k] w fun u w'=>u=.string (ofL (fixL n k))∧Below w.heap.size w w':=by
 refine ent118 _ _ _ _ ?_
 simp (disch:=first|omega|exact zF rfl|exact zG rfl|exact fun h=>h|(simp only[zA,zB,zC,zD,bytesW];omega)) only[go_sem]
 refine msW_one ty181mkI rfl (by omega) (by omega) (by omega) (by omega) ?_
 have s1:St w (w.alloc (.cells (zerosA (.int .u8 0) 8) 5)) (fun _=>False) [.row (.slice (some ⟨w.heap.size,0,none⟩) 0 8) 5 1 0 []] [] :=
  St.start.add ((Below.refl _ w).alloc (Nat.le_refl _) _) _ (World.ownsRow_made _ _ 8 (Nat.le_refl _) (by decide) (by rfl)) fun k hk=>by simp only [Res.own,Value.ownBlock,Option.some.injEq] at hk; omega
 have e8:max 0 (min (k:Int) 8)=k:=by omega
 simp (disch:=first|omega|exact zF rfl|exact zG rfl|exact fun h=>h|(simp only[zA,zB,zC,zD,bytesW];omega)) only[go_sem,e8]
 refine W_loopU (fun q:Nat × Value=>[(5,q.2),(11,.int .i64 q.1)]) (fun q w'=>St w w' (fun _=>False) [.row q.2 5 1 q.1 ((fixL n q.1).map byteC)] []∧q.1≤k) (fun q=>k - q.1) (0,.slice (some ⟨w.heap.size,0,none⟩) 0 8) rfl ⟨s1,Nat.zero_le _⟩ ?_
 clear s1
 rintro ⟨j,v⟩ w1 ⟨s1,hj⟩
 simp only at s1 hj
 obtain ⟨a,c,rfl,_⟩:=own_slice (s1.row 0 rfl)
 by_cases hlt:j<k
 ·have hlt':(j:Int)<k:=by omega
  simp (disch:=first|omega|exact zF rfl|exact zG rfl|exact fun h=>h|(simp only[zA,zB,zC,zD,bytesW];omega)) only[go_sem,c118L0,c118L0,hlt']
  have e1:IntKind.u8.wrap ((n:Int) / 2 ^ min (IntKind.u64.wrap (8 * (j:Int))).toNat 64)=((u8 (n / 256 ^ j)).toNat:Int):=by
   rw [wrap_u64_id _ (by omega) (by omega)]
   have e2:min (8 * (j:Int)).toNat 64=8 * j:=by omega
   rw [e2,← wrap_u8,pow256]
   congr 1
  rw [e1]
  refine ⟨⟨by omega,by omega⟩,bsW_ones ty181mkI rfl rfl (by decide) (by decide) (byte_one (u8 (n / 256 ^ j))) ?_⟩
  simp (disch:=first|omega|exact zF rfl|exact zG rfl|exact fun h=>h|(simp only[zA,zB,zC,zD,bytesW];omega)) only[go_sem,c118L0]
  have hx:Rd (w1.alloc (.cells #[byteC (u8 (n / 256 ^ j))] 5)) 1 (.slice (some ⟨w1.heap.size,0,none⟩) 1 1) 1 [byteC (u8 (n / 256 ^ j))]:=rd_new (n:=1) (cs:=#[byteC (u8 (n / 256 ^ j))]) rfl
  refine (s1.alloc' (.cells #[byteC (u8 (n / 256 ^ j))] 5)).append 0 rfl ty181mkI rfl (by decide) hx (byte_one _) (by omega) (by omega) ?_
  intro v6 w6 s6 c6
  simp only [List.set_cons_zero] at s6
  simp (disch:=first|omega|exact zF rfl|exact zG rfl|exact fun h=>h|(simp only[zA,zB,zC,zD,bytesW];omega)) only[go_sem,c118L0]
  refine ⟨⟨by omega,by omega⟩,(j+1,v6),rfl,⟨st_recast s6 ?_,by simp only; omega⟩,by simp only; omega⟩
  simp only [fixL_succ,List.map_append,List.map_cons,List.map_nil]
 ·have hlt':¬ (j:Int)<k:=by omega
  obtain rfl:j=k:=by omega
  simp (disch:=first|omega|exact zF rfl|exact zG rfl|exact fun h=>h|(simp only[zA,zB,zC,zD,bytesW];omega)) only[go_sem,c118L0,c118L0,hlt']
  refine ⟨fixL n j,fixL_len n j,?_,rfl,s1.bel⟩
  exact row_bytes (s1.row 0 rfl)
theorem unfixed_ok(l:List UInt8)(w:World)(hl:l.length≤8):Ret Tryz.prog 98 [.string (ofL l)] w fun u w'=>u=.int .u64 (unfixL l)∧w'=w:=by
 refine ent98 _ _ _ ?_
 have e8:min (l.length:Int) 8=l.length:=by omega
 simp (disch:=first|omega|exact zF rfl|exact zG rfl|exact fun h=>h|(simp only[zA,zB,zC,zD,bytesW];omega)) only[go_sem,e8]
 refine W_loopU (fun j:Nat=>[(3,.int .u64 (unfixL (l.take j))),(8,.int .i64 j)]) (fun j w'=>w'=w∧j≤l.length) (fun j=>l.length - j) 0 rfl ⟨rfl,Nat.zero_le _⟩ ?_
 rintro j w1 ⟨e1,hj⟩
 subst w1
 by_cases hlt:j<l.length
 ·have hlt':(j:Int)<l.length:=by omega
  simp (disch:=first|omega|exact zF rfl|exact zG rfl|exact fun h=>h|(simp only[zA,zB,zC,zD,bytesW];omega)) only[go_sem,c98L0,c98L0,hlt']
  have hb:bN l (j:Int)=((l[j].toNat:Nat):Int):=(bN_get l j _ (List.getElem?_eq_getElem hlt))
  have e2:min (8 * (j:Int)).toNat 64=8 * j:=by omega
  have hlt2:=unfixL_lt (l.take j)
  rw [List.length_take,Nat.min_eq_left (by omega),pow256] at hlt2
  have hbl:=l[j].toNat_lt
  rw [hb,wrap_u64_id _ (show 0≤((l[j].toNat:Nat):Int) by omega) (by omega),wrap_u64_id (8 * (j:Int)) (by omega) (by omega),e2,or_next hlt2 (by omega) (by omega)]
  refine ⟨by omega,⟨by omega,by omega⟩,⟨by omega,by omega⟩,j+1,?_,by omega,by omega⟩
  rw [List.take_succ_eq_append_getElem hlt,unfixL_snoc,List.length_take,Nat.min_eq_left (by omega),pow256]
  rfl
 ·have hlt':¬ (j:Int)<l.length:=by omega
  simp (disch:=first|omega|exact zF rfl|exact zG rfl|exact fun h=>h|(simp only[zA,zB,zC,zD,bytesW];omega)) only[go_sem,c98L0,c98L0,hlt']
  rw [List.take_of_length_le (by omega)]
def notB(b:UInt8):UInt8:=255 - b
def notL(l:List UInt8):List UInt8:=l.map notB
theorem notL_len(l:List UInt8):(notL l).length=l.length:=by unfold notL; simp
theorem xor255:∀ x:Fin 256,bits BinOp.xor IntKind.u8 (x.val:Int) 255=((255 - x.val:Nat):Int):=by decide +kernel
theorem xor_u8(b:UInt8):bits BinOp.xor IntKind.u8 ((b.toNat:Nat):Int) 255=(((notB b).toNat:Nat):Int):=by
 have h:=xor255 ⟨b.toNat,b.toNat_lt⟩
 rw [h]
 unfold notB
 have:=b.toNat_lt
 rw [UInt8.toNat_sub_of_le _ _ (by rw [UInt8.le_iff_toNat_le]; show b.toNat≤255; omega)]
 rfl
theorem not_ok(l:List UInt8)(w:World)(hl:(l.length:Int)≤1000000):Ret Tryz.prog 185 [.string (ofL l)] w fun u w'=>u=.string (ofL (notL l))∧Below w.heap.size w w':=by
 refine ent185 _ _ _ ?_
 simp (disch:=first|omega|exact zF rfl|exact zG rfl|exact fun h=>h|(simp only[zA,zB,zC,zD,bytesW];omega)) only[go_sem]
 intro c hc
 have hf0:∀ i,i<l.length→(bytesW w l c 5).frozen? ⟨w.heap.size,i,none⟩=false:=fun i hi=>frozen_bytesW w l c 5 i (by omega)
 refine W_loopU (fun j:Nat=>[(9,.int .i64 j)]) (fun j w'=>j≤l.length∧bytesAt w' (some ⟨w.heap.size,0,none⟩) (notL (l.take j)++l.drop j)∧(∀ i,i<l.length→w'.frozen? ⟨w.heap.size,i,none⟩=false)∧Below w.heap.size w w') (fun j=>l.length - j) 0 rfl ⟨Nat.zero_le _,bytesAt_bytesW w l c 5,hf0,below_bytesW w l c 5⟩ ?_
 rintro j w1 ⟨hj,ha,hf,hb⟩
 by_cases hlt:j<l.length
 ·have hlt':(j:Int)<l.length:=by omega
  have e1:(notL (l.take j)++l.drop j)[j]?=some l[j]:=by
   rw [List.getElem?_append_right (by rw [notL_len,List.length_take]; omega),notL_len,List.length_take,Nat.min_eq_left (by omega),Nat.sub_self,List.getElem?_drop,Nat.add_zero,List.getElem?_eq_getElem hlt]
  have ec:=ha j _ e1
  rw [Addr.add_lit,Nat.zero_add] at ec
  have ef:=hf j hlt
  simp (disch:=first|omega|exact zF rfl|exact zG rfl|exact fun h=>h|(simp only[zA,zB,zC,zD,bytesW];omega)) only[go_sem,c185L0,c185L0,hlt',ec,ef]
  rw [xor_u8]
  have hs:=bytesAt_set ha (j:=j) (n:=(((notB l[j]).toNat:Nat):Int)) (by omega) (by have:=(notB l[j]).toNat_lt; omega) (by rw [List.length_append,notL_len,List.length_take,List.length_drop]; omega)
  rw [Nat.zero_add] at hs
  refine ⟨by omega,by omega,⟨by omega,by omega⟩,j+1,rfl,⟨by omega,?_,hf,hb.setCell (Nat.le_refl _) _⟩,by omega⟩
  have e2:(notL (l.take j)++l.drop j).set j (UInt8.ofNat (((notB l[j]).toNat:Nat):Int).toNat)=notL (l.take (j+1))++l.drop (j+1):=by
   rw [List.set_append_right _ _ (by rw [notL_len,List.length_take]; omega),notL_len,List.length_take,Nat.min_eq_left (by omega),Nat.sub_self,List.drop_eq_getElem_cons hlt,List.set_cons_zero,List.take_succ_eq_append_getElem hlt]
   unfold notL
   rw [List.map_append,List.append_assoc]
   simp
  rw [e2] at hs
  exact hs
 ·have hlt':¬ (j:Int)<l.length:=by omega
  obtain rfl:j=l.length:=by omega
  simp (disch:=first|omega|exact zF rfl|exact zG rfl|exact fun h=>h|(simp only[zA,zB,zC,zD,bytesW];omega)) only[go_sem,c185L0,c185L0,hlt']
  rw [List.take_length,List.drop_length,List.append_nil] at ha
  exact ⟨notL l,notL_len l,ha,rfl,hb⟩
open Go Go.Ann Go.RowKit Go.WideShapes
structure Hd where
 seq:Nat
 used:Nat
 room:Nat
 pages:Nat
deriving DecidableEq
structure Hd.ok(h:Hd):Prop where
 seq:h.seq<18446744073709551616
 used:h.used<4294967296
 room:h.room<4294967296
 pages:h.pages<4294967296
def Hd.enc(h:Hd):List Value:=[.int .u64 h.seq,.int .i64 h.used,.int .i64 h.room,.int .i64 h.pages]
theorem Hd.len(h:Hd):h.enc.length=4:=rfl
theorem Hd.one(h:Hd):∀ u∈h.enc,u.oneCell'=true:=by
 intro u hu
 simp only [Hd.enc,List.mem_cons,List.not_mem_nil,or_false] at hu
 rcases hu with rfl | rfl | rfl | rfl <;> rfl
def head0(h:Hd):List UInt8:=fixL h.seq 8++fixL h.used 4++fixL h.room 4++fixL h.pages 4
def headL(h:Hd):List UInt8:=head0 h++notL (head0 h)
theorem head0_len(h:Hd):(head0 h).length=20:=by unfold head0; simp only [List.length_append,fixL_len]
theorem headL_len(h:Hd):(headL h).length=40:=by unfold headL; rw [List.length_append,notL_len,head0_len]
def hd0:Hd:=⟨0,0,0,0⟩
def readHd(b:List UInt8):Option Hd :=
 if b.length<40 then none else if notL (b.take 20)=cutL b 20 40 then some ⟨unfixL (b.take 8),unfixL (cutL b 8 12),unfixL (cutL b 12 16),unfixL (cutL b 16 20)⟩ else none
theorem writeHead_ok(h:Hd)(ok:h.ok)(w:World):Ret Tryz.prog 152 [.agg h.enc.toArray] w fun u w'=>u=.string (ofL (headL h))∧Below w.heap.size w w':=by
 refine ent152 _ _ _ ?_
 have s1:=(St.start (W0:=w)).box h.enc.toArray 160
 have r1:=s1.rules 0 rfl
 simp (disch:=first|omega|exact zF rfl|exact zG rfl|exact fun h=>h|(simp only[zA,zB,zC,zD,bytesW];omega)) only[go_sem]
 generalize hb:w.heap.size=b at s1 r1 ⊢
 generalize w.alloc (.cells h.enc.toArray 160)=w1 at s1 r1 ⊢
 refine c152draw0 (Chg (fun _=>False) _) (Chg.refl _ _) ?_
 have s2:=s1.drew
 have r2:=s2.rules 0 rfl
 have l2:=s2.low 0 rfl
 generalize w1.drew=w2 at s2 r2 l2 ⊢
 obtain ⟨o1,o2,o3,o4⟩:=ok
 simp (disch:=first|omega|exact zF rfl|exact zG rfl|exact fun h=>h|(simp only[zA,zB,zC,zD,bytesW];omega)) only[go_sem,c152D0,r2,Hd.enc]
 rw [wrap_u64_id (h.used:Int) (by omega) (by omega),wrap_u64_id (h.room:Int) (by omega) (by omega),wrap_u64_id (h.pages:Int) (by omega) (by omega)]
 refine Ret.mono (fixed_ok h.seq 8 w2 o1 (by omega)) ?_
 rintro _ w3 ⟨rfl,b3⟩
 simp (disch:=first|omega|exact zF rfl|exact zG rfl|exact fun h=>h|(simp only[zA,zB,zC,zD,bytesW];omega)) only[go_sem]
 refine ⟨Chg.of_below b3,Ret.mono (fixed_ok h.used 4 w3 (by omega) (by omega)) ?_⟩
 rintro _ w4 ⟨rfl,b4⟩
 have b4:=Below.next b3 b4
 simp (disch:=first|omega|exact zF rfl|exact zG rfl|exact fun h=>h|(simp only[zA,zB,zC,zD,bytesW];omega)) only[go_sem]
 refine ⟨Chg.of_below b4,by simp only [fixL_len]; omega,Ret.mono (fixed_ok h.room 4 w4 (by omega) (by omega)) ?_⟩
 rintro _ w5 ⟨rfl,b5⟩
 have b5:=Below.next b4 b5
 simp (disch:=first|omega|exact zF rfl|exact zG rfl|exact fun h=>h|(simp only[zA,zB,zC,zD,bytesW];omega)) only[go_sem]
 refine ⟨Chg.of_below b5,by simp only [List.length_append,fixL_len]; omega,Ret.mono (fixed_ok h.pages 4 w5 (by omega) (by omega)) ?_⟩
 rintro _ w6 ⟨rfl,b6⟩
 have b6:=Below.next b5 b6
 simp (disch:=first|omega|exact zF rfl|exact zG rfl|exact fun h=>h|(simp only[zA,zB,zC,zD,bytesW];omega)) only[go_sem]
 refine ⟨Chg.of_below b6,by simp only [List.length_append,fixL_len]; omega,Ret.mono (not_ok (head0 h) w6 (by rw [head0_len]; omega)) ?_⟩
 rintro _ w7 ⟨rfl,b7⟩
 have hl:=head0_len h
 simp (disch:=first|omega|exact zF rfl|exact zG rfl|exact fun h=>h|(simp only[zA,zB,zC,zD,bytesW];omega)) only[go_sem]
 refine ⟨?_,rfl,?_⟩
 ·rw [notL_len,hl]
  show ((head0 h).length:Int)+(20:Nat)≤_
  rw [hl]; omega
 ·rw [← hb]
  exact (s2.call (Below.next b6 b7)).bel
theorem readAt_ok(b:List UInt8)(y:Nat)(i j:Nat)(w:World)(hy:w.cell? ⟨y,0,none⟩=some (.string (ofL b)))(hj:j=i+4)(hi:j≤b.length)(hb:b.length≤1000) :
  Ret Tryz.prog 186 [.int .i64 i,.pointer (some ⟨y,0,none⟩)] w fun u w'=>u=.int .i64 (unfixL (cutL b i j))∧w'=w:=by
 refine ent186 _ _ _ _ ?_
 simp (disch:=first|omega|exact zF rfl|exact zG rfl|exact fun h=>h|(simp only[zA,zB,zC,zD,bytesW];omega)) only[go_sem,hy]
 subst hj
 have hc:(cutL b (i:Int) ((i:Int)+4)).length=4:=by
  unfold cutL; rw [List.length_drop,List.length_take]; omega
 refine ⟨⟨by omega,by omega⟩,⟨by omega,by omega,by omega⟩,Ret.mono (unfixed_ok _ w (by rw [hc]; omega)) ?_⟩
 rintro _ w2 ⟨rfl,e2⟩
 subst w2
 have hlt:=unfixL_lt (cutL b (i:Int) ((i:Int)+4))
 rw [hc] at hlt
 have hlt:unfixL (cutL b (i:Int) ((i:Int)+4))<4294967296:=hlt
 simp (disch:=first|omega|exact zF rfl|exact zG rfl|exact fun h=>h|(simp only[zA,zB,zC,zD,bytesW];omega)) only[go_sem]
 constructor <;> omega
theorem readHead_ok(b:List UInt8)(hb:b.length≤1000)(w:World):Ret Tryz.prog 154 [.string (ofL b)] w fun u w'=>u=.tuple #[.agg ((readHd b).getD hd0).enc.toArray,.bool (readHd b).isSome]∧Below w.heap.size w w':=by
 refine ent154 _ _ _ ?_
 have s1:=((St.start (W0:=w)).box #[.string (ofL b)] 9).box #[.int .u64 0,.int .i64 0,.int .i64 0,.int .i64 0] 160
 simp (disch:=first|omega|exact zF rfl|exact zG rfl|exact fun h=>h|(simp only[zA,zB,zC,zD,bytesW];omega)) only[go_sem]
 rw [World.size_alloc] at s1
 generalize hw:w.heap.size=y at s1 ⊢
 refine c154draw0 (Chg (fun _=>False) _) (Chg.refl _ _) ?_
 have s2:=s1.drew
 have r2:=s2.rules 1 rfl
 have l2:=s2.low 1 rfl
 generalize hw2:((w.alloc (.cells #[.string (ofL b)] 9)).alloc (.cells #[.int .u64 0,.int .i64 0,.int .i64 0,.int .i64 0] 160)).drew=w2 at s2 r2 l2 ⊢
 by_cases h40:b.length<40
 ·have h40':(b.length:Int)<40:=by omega
  have e0:readHd b=none:=by unfold readHd; rw [if_pos h40]
  have q2:=s2.rules 0 rfl
  simp (disch:=first|omega|exact zF rfl|exact zG rfl|exact fun h=>h|(simp only[zA,zB,zC,zD,bytesW];omega)) only[go_sem,c154D0,r2,h40',q2]
  refine bdW_built (cells:=#[.int .u64 0,.int .i64 0,.int .i64 0,.int .i64 0]) (by kernel_rfl) ?_
  simp (disch:=first|omega|exact zF rfl|exact zG rfl|exact fun h=>h|(simp only[zA,zB,zC,zD,bytesW];omega)) only[go_sem,q2]
  rw [e0]
  exact ⟨rfl,hw ▸ (s2.fill 0 rfl (cs:=#[.int .u64 0,.int .i64 0,.int .i64 0,.int .i64 0]) rfl).bel⟩
 ·have h40':¬ (b.length:Int)<40:=by omega
  simp (disch:=first|omega|exact zF rfl|exact zG rfl|exact fun h=>h|(simp only[zA,zB,zC,zD,bytesW];omega)) only[go_sem,c154D0,r2,h40']
  refine ⟨by omega,by omega,Ret.mono (not_ok (b.take 20) w2 (by rw [List.length_take]; omega)) ?_⟩
  rintro _ w3 ⟨rfl,b3⟩
  have s3:=s2.call b3
  have r3:=s3.rules 1 rfl
  have q3:=s3.rules 0 rfl
  by_cases hn:notL (b.take 20)=cutL b 20 40
  ·have e0:readHd b=some ⟨unfixL (b.take 8),unfixL (cutL b 8 12),unfixL (cutL b 12 16),unfixL (cutL b 16 20)⟩:=by unfold readHd; rw [if_neg h40,if_pos hn]
   rw [e0]
   simp (disch:=first|omega|exact zF rfl|exact zG rfl|exact fun h=>h|(simp only[zA,zB,zC,zD,bytesW];omega)) only[go_sem,c154D0,hn,r3]
   have l8:(b.take 8).length=8:=by rw [List.length_take]; omega
   have h8:=unfixL_lt (b.take 8)
   rw [l8] at h8
   have h8:unfixL (b.take 8)<18446744073709551616:=h8
   refine ⟨Chg.of_below b3,by omega,Ret.mono (unfixed_ok (b.take 8) w3 (by omega)) ?_⟩
   rintro _ w4 ⟨rfl,e4⟩
   subst w4
   have hy:w3.cell? ⟨y,0,none⟩=some (.string (ofL b)):=(s3.blk 1 rfl).cell 0
   simp (disch:=first|omega|exact zF rfl|exact zG rfl|exact fun h=>h|(simp only[zA,zB,zC,zD,bytesW];omega)) only[go_sem]
   refine callW_go ⟨by kernel_rfl,Ret.mono (readAt_ok b y 8 12 w3 hy rfl (by omega) hb) ?_⟩
   rintro _ w4 ⟨rfl,e4⟩
   subst w4
   simp (disch:=first|omega|exact zF rfl|exact zG rfl|exact fun h=>h|(simp only[zA,zB,zC,zD,bytesW];omega)) only[go_sem]
   refine callW_go ⟨by kernel_rfl,Ret.mono (readAt_ok b y 12 16 w3 hy rfl (by omega) hb) ?_⟩
   rintro _ w4 ⟨rfl,e4⟩
   subst w4
   simp (disch:=first|omega|exact zF rfl|exact zG rfl|exact fun h=>h|(simp only[zA,zB,zC,zD,bytesW];omega)) only[go_sem]
   refine callW_go ⟨by kernel_rfl,Ret.mono (readAt_ok b y 16 20 w3 hy rfl (by omega) hb) ?_⟩
   rintro _ w4 ⟨rfl,e4⟩
   subst w4
   simp (disch:=first|omega|exact zF rfl|exact zG rfl|exact fun h=>h|(simp only[zA,zB,zC,zD,bytesW];omega)) only[go_sem]
   refine bdW_built (cells:=(Hd.mk (unfixL (b.take 8)) (unfixL (cutL b 8 12)) (unfixL (cutL b 12 16)) (unfixL (cutL b 16 20))).enc.toArray) (by kernel_rfl) ?_
   simp (disch:=first|omega|exact zF rfl|exact zG rfl|exact fun h=>h|(simp only[zA,zB,zC,zD,bytesW];omega)) only[go_sem,q3,Hd.enc]
   exact ⟨rfl,hw ▸ (s3.fill 0 rfl (cs:=(Hd.mk (unfixL (b.take 8)) (unfixL (cutL b 8 12)) (unfixL (cutL b 12 16)) (unfixL (cutL b 16 20))).enc.toArray) rfl).bel⟩
  ·have e0:readHd b=none:=by unfold readHd; rw [if_neg h40,if_neg hn]
   rw [e0]
   simp (disch:=first|omega|exact zF rfl|exact zG rfl|exact fun h=>h|(simp only[zA,zB,zC,zD,bytesW];omega)) only[go_sem,c154D0,hn,r3]
   refine ⟨Chg.of_below b3,bdW_built (cells:=#[.int .u64 0,.int .i64 0,.int .i64 0,.int .i64 0]) (by kernel_rfl) ?_⟩
   simp (disch:=first|omega|exact zF rfl|exact zG rfl|exact fun h=>h|(simp only[zA,zB,zC,zD,bytesW];omega)) only[go_sem,q3]
   exact ⟨rfl,hw ▸ (s3.fill 0 rfl (cs:=#[.int .u64 0,.int .i64 0,.int .i64 0,.int .i64 0]) rfl).bel⟩
open Go Go.Ann Go.RowKit Go.WideShapes
def intK(n:Int):Value:=.int .i64 n
def strK(l:List UInt8):Value:=.string (ofL l)
structure Sto where
 hd:Hd
 dirty:List (Int × List UInt8 × Nat)
 clock:Nat
 dead:Bool
 disk:Dk
def StoH(b mb g:Nat)(s:Sto):List Res :=
 [.blk b #[.pointer (some ⟨g,0,none⟩),.int .u64 s.hd.seq,.int .i64 s.hd.used,.int .i64 s.hd.room,.int .i64 s.hd.pages,.map (some mb),.bool s.dead] 165,.obj mb (mapG intK strK s.dirty s.clock)]
def StoL(b mb g:Nat)(vb vl:Value)(s:Sto):List Res:=StoH b mb g s++DkL g vb vl s.disk
theorem sto_disk{W0 w:World}{F:Nat→Prop}{L:List Res}{I:List Inv}{b mb g:Nat}{vb vl:Value}{s:Sto}(h:St W0 w F (StoL b mb g vb vl s++L) I):St W0 w F (DkL g vb vl s.disk++(StoH b mb g s++L)) I :=
 St.front (A:=StoH b mb g s) (D:=DkL g vb vl s.disk) (L:=L) (by rw [← List.append_assoc]; exact h)
theorem disk_sto{W0 w:World}{F:Nat→Prop}{L:List Res}{I:List Inv}{b mb g:Nat}{vb vl:Value}{s:Sto}{m:Dk}(h:St W0 w F (DkL g vb vl m++(StoH b mb g s++L)) I):St W0 w F (StoL b mb g vb vl { s with disk:=m }++L) I:=by
 have h':=St.front h
 rw [← List.append_assoc] at h'
 exact h'
structure Sto.ok(s:Sto):Prop where
 hd:s.hd.ok
 disk:s.disk.ok
 room:1≤s.hd.room
 pages:1≤s.hd.pages
 few:s.hd.pages≤1024
 fit:2+s.hd.room+s.hd.pages≤s.disk.safe.length
 keys:∀ x∈s.dirty,0≤x.1∧x.1<s.hd.pages∧x.2.1.length=256
 nd:(s.dirty.map Prod.fst).Nodup
 born:(s.dirty.map fun x=>x.2.2).Nodup
 clock:∀ x∈s.dirty,x.2.2<s.clock
theorem keyT_n:KeyT Tryz.prog 3 intK (.int .i64):=keyT_int Tryz.underlying3
section
variable {W0 w:World} {F:Nat→Prop} {L:List Res} {I:List Inv} {b mb g:Nat} {vb vl:Value} {s:Sto}
def stReady(s:Sto)(i:Int):Int:=if s.dead=true then 11 else if 0≤i∧i<s.hd.pages then 0 else 10
theorem sready_ok(i:Int)(h:St W0 w F (StoL b mb g vb vl s++L) I) :
  Ret Tryz.prog 159 [.pointer (some ⟨b,0,none⟩),.int .i64 i] w fun u w'=>u=.int .i64 (stReady s i)∧w'=w:=by
 refine ent159 _ _ _ _ ?_
 have r1:=h.rules 0 rfl
 simp (disch:=first|omega|exact zF rfl|exact zG rfl|exact fun h=>h|(simp only[zA,zB,zC,zD,bytesW];omega)) only[go_sem,r1]
 unfold stReady
 refine ⟨fun hg=>?_,fun hg=>?_⟩
 ·rw [if_pos hg]
 ·rw [if_neg (by rw [hg]; decide)]
  by_cases h0:0≤i
  ·by_cases h1:i<s.hd.pages
   ·rw [if_pos ⟨h0,h1⟩]
    exact ⟨fun _=>⟨fun h=>by omega,fun _=>rfl⟩,fun h=>by omega⟩
   ·rw [if_neg (by omega)]
    exact ⟨fun _=>⟨fun _=>rfl,fun h=>by omega⟩,fun h=>by omega⟩
  ·rw [if_neg (by omega)]
   exact ⟨fun h=>by omega,fun _=>rfl⟩
theorem stReady_in{i:Int}(h:stReady s i=0):0≤i∧i<s.hd.pages∧s.dead=false:=by
 unfold stReady at h
 split at h
 ·cases h
 ·rename_i hd
  split at h
  ·rename_i h2
   exact ⟨h2.1,h2.2,by simpa using hd⟩
  ·cases h
theorem slen_ok(h:St W0 w F (StoL b mb g vb vl s++L) I) :
  Ret Tryz.prog 47 [.pointer (some ⟨b,0,none⟩)] w fun u w'=>u=.int .i64 s.hd.pages∧w'=w:=by
 refine ent47 _ _ _ ?_
 have r1:=h.rules 0 rfl
 simp (disch:=first|omega|exact zF rfl|exact zG rfl|exact fun h=>h|(simp only[zA,zB,zC,zD,bytesW];omega)) only[go_sem,r1]
def homeN(s:Sto)(i:Int):Int:=2+s.hd.room+i
def stRead(s:Sto)(i:Int):Sto × List UInt8 × Int :=
 if stReady s i≠0 then (s,[],stReady s i) else
 match getM i s.dirty with
 | some x=>(s,x,0)
 | none=>(if (readN s.disk (homeN s i)).2=0 then s else { s with dead:=true },readN s.disk (homeN s i))
theorem sread_ok(i:Int)(h:St W0 w F (StoL b mb g vb vl s++L) I)(ok:s.ok) :
  Ret Tryz.prog 112 [.pointer (some ⟨b,0,none⟩),.int .i64 i] w fun u w'=>u=.tuple #[.string (ofL (stRead s i).2.1),.int .i64 (stRead s i).2.2]∧St W0 w' F (StoL b mb g vb vl (stRead s i).1++L) I:=by
 refine ent112 _ _ _ _ ?_
 simp (disch:=first|omega|exact zF rfl|exact zG rfl|exact fun h=>h|(simp only[zA,zB,zC,zD,bytesW];omega)) only[go_sem]
 refine Ret.mono (sready_ok i h) ?_
 rintro _ w2 ⟨rfl,e2⟩
 subst w2
 unfold stRead
 by_cases hr:stReady s i=0
 case neg =>
  rw [if_pos hr]
  simp (disch:=first|omega|exact zF rfl|exact zG rfl|exact fun h=>h|(simp only[zA,zB,zC,zD,bytesW];omega)) only[go_sem,hr]
  exact h
 rw [if_neg (by omega)]
 have r1:=h.rules 0 rfl
 simp (disch:=first|omega|exact zF rfl|exact zG rfl|exact fun h=>h|(simp only[zA,zB,zC,zD,bytesW];omega)) only[go_sem,hr,r1]
 refine luG_map (ek:=intK) (ev:=strK) keyT_n Tryz.underlying163 (h.obj 1 rfl) i (by rfl) ?_
 cases hg:getM i s.dirty with
 | some x =>
  simp (disch:=first|omega|exact zF rfl|exact zG rfl|exact fun h=>h|(simp only[zA,zB,zC,zD,bytesW];omega)) only[go_sem,luG]
  exact ⟨rfl,h⟩
 | none =>
  simp (disch:=first|omega|exact zF rfl|exact zG rfl|exact fun h=>h|(simp only[zA,zB,zC,zD,bytesW];omega)) only[go_sem,luG]
  refine c112draw0 (Chg (fun _=>False) _) (Chg.refl _ _) ?_
  have h2:=h.drew
  have r2:=h2.rules 0 rfl
  have l2:=h2.low 0 rfl
  generalize w.drew=w2 at h2 r2 l2 ⊢
  have hin:=stReady_in hr
  have hp:=ok.few
  have hf:=ok.fit
  have hs:=ok.disk.few
  simp (disch:=first|omega|exact zF rfl|exact zG rfl|exact fun h=>h|(simp only[zA,zB,zC,zD,bytesW];omega)) only[go_sem,c112D0,r2]
  refine ⟨by constructor <;> omega,by constructor <;> omega,Ret.mono (read_ok (2+(s.hd.room:Int)+i) (sto_disk h2) ok.disk) ?_⟩
  rintro _ w3 ⟨rfl,b3⟩
  have h3:=h2.call b3
  have r3:=h3.rules 0 rfl
  rw [show (2+(s.hd.room:Int)+i)=homeN s i from rfl]
  by_cases he:(readN s.disk (homeN s i)).2=0
  ·rw [if_pos he]
   simp (disch:=first|omega|exact zF rfl|exact zG rfl|exact fun h=>h|(simp only[zA,zB,zC,zD,bytesW];omega)) only[go_sem,he]
   exact h3
  ·rw [if_neg he]
   simp (disch:=first|omega|exact zF rfl|exact zG rfl|exact fun h=>h|(simp only[zA,zB,zC,zD,bytesW];omega)) only[go_sem,he,r3]
   exact h3.set 0 rfl 6 (.bool true)
def stWrite(s:Sto)(i:Int)(data:List UInt8):Sto × Int :=
 if stReady s i≠0 then (s,stReady s i) else if 256<data.length then (s,21) else
 ({ s with dirty:=setM i (filledL data) s.clock s.dirty,clock:=if (getM i s.dirty).isSome then s.clock else s.clock+1 },0)
theorem swrite_ok(i:Int)(data:List UInt8)(h:St W0 w F (StoL b mb g vb vl s++L) I) :
  Ret Tryz.prog 132 [.pointer (some ⟨b,0,none⟩),.int .i64 i,.string (ofL data)] w fun u w'=>u=.int .i64 (stWrite s i data).2∧St W0 w' F (StoL b mb g vb vl (stWrite s i data).1++L) I:=by
 refine ent132 _ _ _ _ _ ?_
 simp (disch:=first|omega|exact zF rfl|exact zG rfl|exact fun h=>h|(simp only[zA,zB,zC,zD,bytesW];omega)) only[go_sem]
 refine Ret.mono (sready_ok i h) ?_
 rintro _ w2 ⟨rfl,e2⟩
 subst w2
 unfold stWrite
 by_cases hr:stReady s i=0
 case neg =>
  rw [if_pos hr]
  simp (disch:=first|omega|exact zF rfl|exact zG rfl|exact fun h=>h|(simp only[zA,zB,zC,zD,bytesW];omega)) only[go_sem,hr]
  exact h
 rw [if_neg (by omega)]
 by_cases hd:256<data.length
 ·have hd':(256:Int)<data.length:=by omega
  rw [if_pos hd]
  simp (disch:=first|omega|exact zF rfl|exact zG rfl|exact fun h=>h|(simp only[zA,zB,zC,zD,bytesW];omega)) only[go_sem,hr,hd']
  exact h
 have hd':¬ (256:Int)<data.length:=by omega
 rw [if_neg hd]
 simp (disch:=first|omega|exact zF rfl|exact zG rfl|exact fun h=>h|(simp only[zA,zB,zC,zD,bytesW];omega)) only[go_sem,hr,hd']
 refine c132draw0 (Chg (fun _=>False) _) (Chg.refl _ _) ?_
 have h2:=h.drew
 have r2:=h2.rules 0 rfl
 have l2:=h2.low 0 rfl
 generalize w.drew=w2 at h2 r2 l2 ⊢
 simp (disch:=first|omega|exact zF rfl|exact zG rfl|exact fun h=>h|(simp only[zA,zB,zC,zD,bytesW];omega)) only[go_sem,c132D0,r2]
 refine ⟨by constructor <;> omega,msW_one ty181mkI rfl (by omega) (by omega) (by omega) (by omega) ?_⟩
 have e:((256:Int) - (data.length:Int)).toNat=256 - data.length:=by omega
 rw [e]
 have h3:=h2.alloc' (.cells (zerosA (.int .u8 0) (256 - data.length)) 5)
 have hat:bytesAt (w2.alloc (.cells (zerosA (.int .u8 0) (256 - data.length)) 5)) (some ⟨w2.heap.size,0,none⟩) (List.replicate (256 - data.length) 0):=bytesAt_zeros w2 (256 - data.length) _
 have ch:Chg (fun _=>False) w2 (w2.alloc (.cells (zerosA (.int .u8 0) (256 - data.length)) 5)):=(Chg.refl _ _).alloc _
 generalize w2.alloc (.cells (zerosA (.int .u8 0) (256 - data.length)) 5)=w3 at h3 hat ch ⊢
 simp (disch:=first|omega|exact zF rfl|exact zG rfl|exact fun h=>h|(simp only[zA,zB,zC,zD,bytesW];omega)) only[go_sem]
 refine ⟨ch,_,List.length_replicate,hat,ch,by rw [List.length_replicate]; omega,?_⟩
 refine muG_map (ek:=intK) (ev:=strK) keyT_n Tryz.underlying163 (fun a=>by simp [Instr.sameBits,intK]) (h3.obj 1 rfl) i (filledL data) ?_
 simp (disch:=first|omega|exact zF rfl|exact zG rfl|exact fun h=>h|(simp only[zA,zB,zC,zD,bytesW];omega)) only[go_sem]
 exact h3.putObj 1 rfl (mapG intK strK (setM i (filledL data) s.clock s.dirty) (if (getM i s.dirty).isSome then s.clock else s.clock+1))
end
open Go Go.Ann Go.RowKit Go.WideShapes
section
variable {W0 w:World} {F:Nat→Prop} {L:List Res} {I:List Inv} {g:Nat} {vb vl:Value} {m:Dk}
theorem emod2(n:Nat):((n:Int).tmod 2)=((n % 2:Nat):Int):=rfl
def putN(m:Dk)(h:Hd):Dk × Int:=if (writeN m (h.seq % 2:Nat) (headL h)).2≠0 then writeN m (h.seq % 2:Nat) (headL h) else flushN (writeN m (h.seq % 2:Nat) (headL h)).1
theorem put_ok(hd:Hd)(hh:hd.ok)(h:St W0 w F (DkL g vb vl m++L) I)(ok:m.ok)(hless:m.late.length<1000000) :
  Ret Tryz.prog 108 [.pointer (some ⟨g,0,none⟩),.agg hd.enc.toArray] w fun u w'=>u=.int .i64 (putN m hd).2∧∃ vl',St W0 w' F (DkL g vb vl' (putN m hd).1++L) I:=by
 refine ent108 _ _ _ _ ?_
 have s1:=h.box hd.enc.toArray 160
 simp (disch:=first|omega|exact zF rfl|exact zG rfl|exact fun h=>h|(simp only[zA,zB,zC,zD,bytesW];omega)) only[go_sem]
 generalize w.heap.size=y at s1 ⊢
 generalize w.alloc (.cells hd.enc.toArray 160)=w1 at s1 ⊢
 refine c108draw0 (Same (fun k=>k=y) _) (Same.refl _ _) ?_
 have s2:=s1.drew
 have r2:=s2.rules 0 rfl
 have l2:=s2.low 0 rfl
 generalize w1.drew=w2 at s2 r2 l2 ⊢
 have hseq:=hh.seq
 simp (disch:=first|omega|exact zF rfl|exact zG rfl|exact fun h=>h|(simp only[zA,zB,zC,zD,bytesW];omega)) only[go_sem,c108D0,r2,Hd.enc,emod2]
 refine ⟨by constructor <;> omega,Same.refl _ _,Ret.mono (writeHead_ok hd hh w2) ?_⟩
 rintro _ w3 ⟨rfl,b3⟩
 have s3:=s2.call b3
 have same:∀ w',Blk w' y hd.enc.toArray 160→Same (fun k=>k=y) w2 w':=fun w' hb k hk=>by subst hk; exact hb.trans (s2.blk 0 rfl).symm
 simp (disch:=first|omega|exact zF rfl|exact zG rfl|exact fun h=>h|(simp only[zA,zB,zC,zD,bytesW];omega)) only[go_sem]
 refine ⟨same _ (s3.blk 0 rfl),Ret.mono (write_ok ((hd.seq % 2:Nat):Int) (headL hd) (St.front (A:=[_]) (D:=DkL g vb vl m) (L:=L) s3) ok hless) ?_⟩
 rintro _ w4 ⟨rfl,vl',s4⟩
 have ok4:=writeN_ok ok hless ((hd.seq % 2:Nat):Int) (headL hd)
 have s4':=St.front (A:=DkL g vb vl' _) (D:=[.blk y hd.enc.toArray 160]) (L:=L) s4
 have sm:=same _ (s4'.blk 0 rfl)
 have s4:=s4'.sub (List.sublist_cons_self _ _)
 unfold putN
 by_cases he:(writeN m ((hd.seq % 2:Nat):Int) (headL hd)).2=0
 case neg =>
  rw [if_pos he]
  simp (disch:=first|omega|exact zF rfl|exact zG rfl|exact fun h=>h|(simp only[zA,zB,zC,zD,bytesW];omega)) only[go_sem,he]
  exact ⟨sm,vl',s4⟩
 rw [if_neg (by omega)]
 simp (disch:=first|omega|exact zF rfl|exact zG rfl|exact fun h=>h|(simp only[zA,zB,zC,zD,bytesW];omega)) only[go_sem,he]
 refine ⟨sm,Ret.mono (flush_ok s4 ok4) ?_⟩
 rintro _ w5 ⟨rfl,vl2,s5⟩
 simp (disch:=first|omega|exact zF rfl|exact zG rfl|exact fun h=>h|(simp only[zA,zB,zC,zD,bytesW];omega)) only[go_sem]
 exact ⟨vl2,s5⟩
def blkN(m:Dk)(i:Nat):List UInt8:=lastL m.late i (m.safe.getD i [])
def fitsH(m:Dk)(h:Hd):Bool:=decide (1≤h.room∧1≤h.pages∧h.pages≤1024∧h.used≤h.room∧h.room≤m.safe.length∧2+h.room+h.pages≤m.safe.length)
def candH(m:Dk)(i:Nat)(seq:Nat):Option Hd:=match readHd (blkN m i) with
 | some h=>if fitsH m h=true∧seq<h.seq∧h.seq % 2=i then some h else none
 | none=>none
def bestN(m:Dk):Nat→Option Hd
 | 0=>none
 | i+1=>match candH m i ((bestN m i).getD hd0).seq with
  | some h=>some h
  | none=>bestN m i
def newestH(m:Dk):Option Hd:=bestN m 2
theorem lastL_256{l:List (Int × List UInt8)}{i:Int}{s:List UInt8}(h:s.length=256)(hl:∀ x∈l,x.2.length=256):(lastL l i s).length=256:=by
 unfold lastL
 induction l generalizing s with
 | nil=>exact h
 | cons x l ih =>
  rw [List.foldl_cons]
  refine ih ?_ fun y hy=>hl y (List.mem_cons_of_mem _ hy)
  split
  ·exact hl x (List.mem_cons_self ..)
  ·exact h
theorem newest_ok(h:St W0 w F (DkL g vb vl m++L) I)(ok:m.ok)(hg:m.gone=false)(h2:2≤m.safe.length) :
  Ret Tryz.prog 109 [.pointer (some ⟨g,0,none⟩)] w fun u w'=>(match newestH m with
   | some hd=>u=.tuple #[.agg hd.enc.toArray,.int .i64 0]
   | none=>u=.tuple #[.agg hd0.enc.toArray,.int .i64 14])∧Below w.heap.size w w':=by
 refine ent109 _ _ _ ?_
 have s1:=((St.start (W0:=w)).box #[.int .u64 0,.int .i64 0,.int .i64 0,.int .i64 0] 160).box #[.int .u64 0,.int .i64 0,.int .i64 0,.int .i64 0] 160
 simp (disch:=first|omega|exact zF rfl|exact zG rfl|exact fun h=>h|(simp only[zA,zB,zC,zD,bytesW];omega)) only[go_sem]
 rw [World.size_alloc] at s1
 have hsz:=h.size
 generalize hy:w.heap.size=y at s1 ⊢
 generalize ((w.alloc (.cells #[.int .u64 0,.int .i64 0,.int .i64 0,.int .i64 0] 160)).alloc (.cells #[.int .u64 0,.int .i64 0,.int .i64 0,.int .i64 0] 160))=w1 at s1 ⊢
 refine W_loopU (fun k:Nat=>[(5,.bool (bestN m k).isSome),(12,.int .i64 k)]) (fun k w'=>k≤2∧St w w' (fun _=>False) [.blk (y+1) ((bestN m k).getD hd0).enc.toArray 160,.blk y hd0.enc.toArray 160] []) (fun k=>2 - k) 0 rfl ⟨by omega,s1⟩ ?_
 rintro k w2 ⟨hk,s2⟩
 by_cases hlt:k<2
 ·have hlt':(k:Int)<2:=by omega
  simp (disch:=first|omega|exact zF rfl|exact zG rfl|exact fun h=>h|(simp only[zA,zB,zC,zD,bytesW];omega)) only[go_sem,c109L0,c109L0,hlt']
  refine Ret.mono (read_ok (k:Int) (h.below s2.bel (by omega)) ok) ?_
  rintro _ w3 ⟨rfl,b3⟩
  have s3:=s2.call b3
  have er:readN m (k:Int)=(blkN m k,0):=by
   have e0:readyN m (k:Int)=0:=by
    unfold readyN
    rw [if_neg (by rw [hg]; decide),if_pos (by omega)]
   unfold readN
   rw [if_pos e0]
   rfl
  rw [er]
  simp (disch:=first|omega|exact zF rfl|exact zG rfl|exact fun h=>h|(simp only[zA,zB,zC,zD,bytesW];omega)) only[go_sem,c109L0]
  have hbl:(blkN m k).length≤1000:=by
   unfold blkN
   have h1:(m.safe.getD k []).length=256:=by
    rw [List.getD_eq_getElem?_getD,List.getElem?_eq_getElem (by omega)]
    exact ok.safe _ (List.getElem_mem _)
   have:=lastL_256 (i:=(k:Int)) h1 (fun x hx=>(ok.late x hx).2.2)
   omega
  refine Ret.mono (readHead_ok (blkN m k) hbl w3) ?_
  rintro _ w4 ⟨rfl,b4⟩
  have s4:=s3.call b4
  simp (disch:=first|omega|exact zF rfl|exact zG rfl|exact fun h=>h|(simp only[zA,zB,zC,zD,bytesW];omega)) only[go_sem,c109L0]
  generalize hrd:readHd (blkN m k)=rd
  generalize hq:rd.getD hd0=q
  have s5:=s4.box q.enc.toArray 160
  simp (disch:=first|omega|exact zF rfl|exact zG rfl|exact fun h=>h|(simp only[zA,zB,zC,zD,bytesW];omega)) only[go_sem,c109L0,Hd.enc]
  have hz:y+1<w4.heap.size:=(s4.low 0 rfl).2
  generalize w4.heap.size=z at s5 hz ⊢
  refine c109draw0 (Chg (fun _=>False) _) (Chg.refl _ _) ?_
  have s6:=s5.drew
  have s6:St w ((w4.alloc (.cells #[.int .u64 q.seq,.int .i64 q.used,.int .i64 q.room,.int .i64 q.pages] 160)).drew) (fun _=>False) [.blk z #[.int .u64 q.seq,.int .i64 q.used,.int .i64 q.room,.int .i64 q.pages] 160,.blk (y+1) #[.int .u64 ((bestN m k).getD hd0).seq,.int .i64 ((bestN m k).getD hd0).used,.int .i64 ((bestN m k).getD hd0).room,.int .i64 ((bestN m k).getD hd0).pages] 160,.blk y hd0.enc.toArray 160] []:=s6
  generalize (w4.alloc (.cells #[.int .u64 q.seq,.int .i64 q.used,.int .i64 q.room,.int .i64 q.pages] 160)).drew=w6 at s6 ⊢
  have r6:=s6.rules 0 rfl
  have q6:=s6.rules 1 rfl
  have l6:=s6.low 0 rfl
  have stay:bestN m (k+1)=bestN m k→∀ w',Below w6.heap.size w6 w'→k+1≤2∧St w w' (fun _=>False) [.blk (y+1) #[.int .u64 ((bestN m (k+1)).getD hd0).seq,.int .i64 ((bestN m (k+1)).getD hd0).used,.int .i64 ((bestN m (k+1)).getD hd0).room,.int .i64 ((bestN m (k+1)).getD hd0).pages] 160,.blk y #[.int .u64 hd0.seq,.int .i64 hd0.used,.int .i64 hd0.room,.int .i64 hd0.pages] 160] []:=fun e w' hb=>by
   rw [e]; exact ⟨by omega,(s6.call hb).sub (List.sublist_cons_self _ _)⟩
  cases rd with
  | none =>
   obtain rfl:q=hd0:=hq.symm
   have e1:bestN m (k+1)=bestN m k:=by
    have:∀ n,candH m k n=none:=fun n=>by unfold candH; rw [hrd]
    simp only [bestN,this]
   have c1:¬ (1:Int)≤(hd0.room:Nat):=by decide
   simp (disch:=first|omega|exact zF rfl|exact zG rfl|exact fun h=>h|(simp only[zA,zB,zC,zD,bytesW];omega)) only[go_sem,c109L0,c109D0,r6,q6,c1]
   exact ⟨fun h=>absurd h (by decide),fun _=>⟨⟨by omega,by omega⟩,k+1,by rw [e1]; rfl,stay e1 _ (Below.refl _ _),by omega⟩⟩
  | some hd =>
   obtain rfl:q=hd:=hq.symm
   have e1:fitsH m q=false→bestN m (k+1)=bestN m k:=fun hf=>by
    have:∀ n,candH m k n=none:=fun n=>by unfold candH; rw [hrd]; simp only [hf]; rfl
    simp only [bestN,this]
   have hfits:∀ b:Bool,(b=true↔(1≤q.room∧1≤q.pages∧q.pages≤1024∧q.used≤q.room∧q.room≤m.safe.length∧2+q.room+q.pages≤m.safe.length))→fitsH m q=b:=fun b hb=>by
    unfold fitsH; rw [Bool.eq_iff_iff,decide_eq_true_eq]; exact hb.symm
   have hb6:=h.below s6.bel (by omega)
   have hfew:=ok.few
   by_cases c1:1≤q.room
   case neg =>
    have d1:¬ (1:Int)≤q.room:=by omega
    have e2:=e1 (hfits false (by simp only [Bool.false_eq_true,false_iff]; omega))
    simp (disch:=first|omega|exact zF rfl|exact zG rfl|exact fun h=>h|(simp only[zA,zB,zC,zD,bytesW];omega)) only[go_sem,c109L0,c109D0,r6,q6,d1]
    exact ⟨fun _=>⟨⟨by omega,by omega⟩,k+1,by rw [e2]; rfl,stay e2 _ (Below.refl _ _),by omega⟩,fun _=>⟨⟨by omega,by omega⟩,k+1,by rw [e2]; rfl,stay e2 _ (Below.refl _ _),by omega⟩⟩
   have d1:(1:Int)≤q.room:=by omega
   by_cases c2:1≤q.pages
   case neg =>
    have d2:¬ (1:Int)≤q.pages:=by omega
    have e2:=e1 (hfits false (by simp only [Bool.false_eq_true,false_iff]; omega))
    simp (disch:=first|omega|exact zF rfl|exact zG rfl|exact fun h=>h|(simp only[zA,zB,zC,zD,bytesW];omega)) only[go_sem,c109L0,c109D0,r6,q6,d1,d2]
    exact ⟨fun _=>⟨⟨by omega,by omega⟩,k+1,by rw [e2]; rfl,stay e2 _ (Below.refl _ _),by omega⟩,fun _=>⟨⟨by omega,by omega⟩,k+1,by rw [e2]; rfl,stay e2 _ (Below.refl _ _),by omega⟩⟩
   have d2:(1:Int)≤q.pages:=by omega
   by_cases c3:q.pages≤1024
   case neg =>
    have d3:¬ (q.pages:Int)≤1024:=by omega
    have e2:=e1 (hfits false (by simp only [Bool.false_eq_true,false_iff]; omega))
    simp (disch:=first|omega|exact zF rfl|exact zG rfl|exact fun h=>h|(simp only[zA,zB,zC,zD,bytesW];omega)) only[go_sem,c109L0,c109D0,r6,q6,d1,d2,d3]
    exact ⟨fun _=>⟨⟨by omega,by omega⟩,k+1,by rw [e2]; rfl,stay e2 _ (Below.refl _ _),by omega⟩,fun _=>⟨⟨by omega,by omega⟩,k+1,by rw [e2]; rfl,stay e2 _ (Below.refl _ _),by omega⟩⟩
   have d3:(q.pages:Int)≤1024:=by omega
   by_cases c4:q.used≤q.room
   case neg =>
    have d4:¬ (q.used:Int)≤q.room:=by omega
    have e2:=e1 (hfits false (by simp only [Bool.false_eq_true,false_iff]; omega))
    simp (disch:=first|omega|exact zF rfl|exact zG rfl|exact fun h=>h|(simp only[zA,zB,zC,zD,bytesW];omega)) only[go_sem,c109L0,c109D0,r6,q6,d1,d2,d3,d4]
    exact ⟨fun _=>⟨⟨by omega,by omega⟩,k+1,by rw [e2]; rfl,stay e2 _ (Below.refl _ _),by omega⟩,fun _=>⟨⟨by omega,by omega⟩,k+1,by rw [e2]; rfl,stay e2 _ (Below.refl _ _),by omega⟩⟩
   have d4:(q.used:Int)≤q.room:=by omega
   by_cases c5:q.room≤m.safe.length
   case neg =>
    have d5:¬ (q.room:Int)≤m.safe.length:=by omega
    have e2:=e1 (hfits false (by simp only [Bool.false_eq_true,false_iff]; omega))
    simp (disch:=first|omega|exact zF rfl|exact zG rfl|exact fun h=>h|(simp only[zA,zB,zC,zD,bytesW];omega)) only[go_sem,c109L0,c109D0,r6,q6,d1,d2,d3,d4,d5]
    refine Ret.mono (len_ok hb6 ok) ?_
    rintro _ w7 ⟨rfl,e7⟩
    subst w7
    simp (disch:=first|omega|exact zF rfl|exact zG rfl|exact fun h=>h|(simp only[zA,zB,zC,zD,bytesW];omega)) only[go_sem,c109L0,c109D0,r6,q6,d1,d2,d3,d4,d5]
    exact ⟨fun _=>⟨⟨by omega,by omega⟩,k+1,by rw [e2]; rfl,stay e2 _ (Below.refl _ _),by omega⟩,fun _=>⟨⟨by omega,by omega⟩,k+1,by rw [e2]; rfl,stay e2 _ (Below.refl _ _),by omega⟩⟩
   have d5:(q.room:Int)≤m.safe.length:=by omega
   by_cases c6:2+q.room+q.pages≤m.safe.length
   case neg =>
    have d6:¬ 2+(q.room:Int)+q.pages≤m.safe.length:=by omega
    have e2:=e1 (hfits false (by simp only [Bool.false_eq_true,false_iff]; omega))
    simp (disch:=first|omega|exact zF rfl|exact zG rfl|exact fun h=>h|(simp only[zA,zB,zC,zD,bytesW];omega)) only[go_sem,c109L0,c109D0,r6,q6,d1,d2,d3,d4,d5,d6]
    refine Ret.mono (len_ok hb6 ok) ?_
    rintro _ w7 ⟨rfl,e7⟩
    subst w7
    simp (disch:=first|omega|exact zF rfl|exact zG rfl|exact fun h=>h|(simp only[zA,zB,zC,zD,bytesW];omega)) only[go_sem,c109L0,c109D0,r6,q6,d1,d2,d3,d4,d5,d6]
    refine ⟨⟨by omega,by omega⟩,⟨by omega,by omega⟩,Ret.mono (len_ok hb6 ok) ?_⟩
    rintro _ w7 ⟨rfl,e7⟩
    subst w7
    simp (disch:=first|omega|exact zF rfl|exact zG rfl|exact fun h=>h|(simp only[zA,zB,zC,zD,bytesW];omega)) only[go_sem,c109L0,c109D0,r6,q6,d1,d2,d3,d4,d5,d6]
    exact ⟨fun _=>⟨⟨by omega,by omega⟩,k+1,by rw [e2]; rfl,stay e2 _ (Below.refl _ _),by omega⟩,fun _=>⟨⟨by omega,by omega⟩,k+1,by rw [e2]; rfl,stay e2 _ (Below.refl _ _),by omega⟩⟩
   have d6:2+(q.room:Int)+q.pages≤m.safe.length:=by omega
   simp (disch:=first|omega|exact zF rfl|exact zG rfl|exact fun h=>h|(simp only[zA,zB,zC,zD,bytesW];omega)) only[go_sem,c109L0,c109D0,r6,q6,d1,d2,d3,d4,d5,d6]
   refine Ret.mono (len_ok hb6 ok) ?_
   rintro _ w7 ⟨rfl,e7⟩
   subst w7
   simp (disch:=first|omega|exact zF rfl|exact zG rfl|exact fun h=>h|(simp only[zA,zB,zC,zD,bytesW];omega)) only[go_sem,c109L0,c109D0,r6,q6,d1,d2,d3,d4,d5,d6]
   refine ⟨⟨by omega,by omega⟩,⟨by omega,by omega⟩,Ret.mono (len_ok hb6 ok) ?_⟩
   rintro _ w7 ⟨rfl,e7⟩
   subst w7
   simp (disch:=first|omega|exact zF rfl|exact zG rfl|exact fun h=>h|(simp only[zA,zB,zC,zD,bytesW];omega)) only[go_sem,c109L0,c109D0,r6,q6,d1,d2,d3,d4,d5,d6]
   have hf:fitsH m q=true:=hfits true (by simp only [true_iff]; omega)
   have eC:candH m k ((bestN m k).getD hd0).seq=if fitsH m q=true∧((bestN m k).getD hd0).seq<q.seq∧q.seq % 2=k then some q else none:=by unfold candH; rw [hrd]
   refine ⟨fun _=>⟨fun h1=>⟨by rw [emod2]; constructor <;> omega,fun h2=>?_,fun h2=>?_⟩,fun h1=>?_⟩,fun h=>absurd h (by simp)⟩
   ·rw [emod2] at h2
    have e2:bestN m (k+1)=some q:=by
     simp only [bestN]
     rw [eC,if_pos ⟨hf,by omega,by omega⟩]
    refine ⟨⟨by omega,by omega⟩,k+1,by rw [e2]; rfl,⟨by omega,?_⟩,by omega⟩
    rw [e2]
    exact ((s6.fill 1 rfl (cs:=#[.int .u64 q.seq,.int .i64 q.used,.int .i64 q.room,.int .i64 q.pages]) rfl)).sub (List.sublist_cons_self _ _)
   ·rw [emod2] at h2
    have e2:bestN m (k+1)=bestN m k:=by
     simp only [bestN]
     rw [eC,if_neg (fun hh=>h2 (by rw [hh.2.2]))]
    exact ⟨⟨by omega,by omega⟩,k+1,by rw [e2]; rfl,stay e2 _ (Below.refl _ _),by omega⟩
   ·have e2:bestN m (k+1)=bestN m k:=by
     simp only [bestN]
     rw [eC,if_neg (fun hh=>by have:=hh.2.1; omega)]
    exact ⟨⟨by omega,by omega⟩,k+1,by rw [e2]; rfl,stay e2 _ (Below.refl _ _),by omega⟩
 ·have hlt':¬ (k:Int)<2:=by omega
  obtain rfl:k=2:=by omega
  have r2:=s2.rules 0 rfl
  have q2:=s2.rules 1 rfl
  have e0:newestH m=bestN m 2:=rfl
  rw [e0]
  cases hb2:bestN m 2 with
  | none =>
   rw [hb2] at r2 s2
   simp (disch:=first|omega|exact zF rfl|exact zG rfl|exact fun h=>h|(simp only[zA,zB,zC,zD,bytesW];omega)) only[go_sem,c109L0,c109L0,hlt',r2,q2,Hd.enc]
   exact ⟨fun _=>by subst hy; exact (s2.fill 1 rfl (cs:=hd0.enc.toArray) rfl).bel,fun h=>absurd h (by decide)⟩
  | some hd =>
   rw [hb2] at r2 s2
   simp (disch:=first|omega|exact zF rfl|exact zG rfl|exact fun h=>h|(simp only[zA,zB,zC,zD,bytesW];omega)) only[go_sem,c109L0,c109L0,hlt',r2,q2,Hd.enc]
   exact ⟨fun h=>absurd h (by simp),fun _=>by subst hy; exact (s2.fill 1 rfl (cs:=hd.enc.toArray) rfl).bel⟩
end
open Go Go.Ann Go.RowKit Go.WideShapes
def headN(n room:Nat):Hd:=⟨2,0,room,min (n - 2 - room) 1024⟩
def fmtDk(n:Nat)(h:Hd):Dk:={ safe:=((List.replicate n zeroB).set 1 (filledL [])).set 0 (filledL (headL h)),late:=[],left:=-1,gone:=false }
theorem writeN_new{n:Nat}{l:List (Int × List UInt8)}{i:Int}{d:List UInt8}(h0:0≤i)(h1:i<n)(hd:d.length≤256):writeN { newDk n with late:=l } i d=({ newDk n with late:=l++[(i,filledL d)] },0):=by
 have e1:readyN { newDk n with late:=l } i=0:=by
  unfold readyN
  rw [if_neg (by simp [newDk]),if_pos (by simp [newDk]; omega)]
 have e2:useN { newDk n with late:=l }=({ newDk n with late:=l },0):=by
  unfold useN
  rw [if_neg (by simp [newDk]),if_neg (by simp [newDk])]
 unfold writeN
 rw [if_neg (by rw [e1]; decide),if_neg (by omega),e2,if_pos rfl]
theorem flushN_new{n:Nat}{l:List (Int × List UInt8)}(h0:0<n):flushN { newDk n with late:=l }=({ newDk n with safe:=doneL (newDk n).safe l,late:=[] },0):=by
 have e1:readyN { newDk n with late:=l } 0=0:=by
  unfold readyN
  rw [if_neg (by simp [newDk]),if_pos (by simp [newDk]; omega)]
 have e2:useN { newDk n with late:=l }=({ newDk n with late:=l },0):=by
  unfold useN
  rw [if_neg (by simp [newDk]),if_neg (by simp [newDk])]
 unfold flushN
 rw [if_neg (by rw [e1]; decide),e2,if_neg (by simp)]
theorem fmt_eq{n:Nat}{h:Hd}(h2:2≤n)(hs:h.seq=2):putN (writeN (newDk n) 1 []).1 h=(fmtDk n h,0):=by
 have e1:writeN (newDk n) 1 []=({ newDk n with late:=[(1,filledL [])] },0):=writeN_new (l:=[]) (by decide) (by omega) (by decide)
 rw [e1]
 unfold putN
 rw [hs]
 have e2:=writeN_new (n:=n) (l:=[(1,filledL [])]) (i:=((2 % 2:Nat):Int)) (d:=headL h) (by decide) (by omega) (by rw [headL_len]; decide)
 rw [e2,if_neg (by simp),flushN_new (by omega)]
 rfl
theorem cutL_app{a b:List UInt8}{i j:Nat}(h:j≤a.length):cutL (a++b) i j=cutL a i j:=by
 unfold cutL
 rw [List.take_append_of_le_length (by omega)]
theorem notL_notL(l:List UInt8):notL (notL l)=l:=by
 unfold notL
 rw [List.map_map]
 have:(notB ∘ notB)=id:=by
  funext b
  show notB (notB b)=b
  unfold notB
  rw [← UInt8.toNat_inj,UInt8.toNat_sub_of_le _ _ (by rw [UInt8.le_iff_toNat_le,UInt8.toNat_sub_of_le _ _ (by rw [UInt8.le_iff_toNat_le]; have:=b.toNat_lt; show b.toNat≤255; omega)]; show 255 - b.toNat≤255; omega),UInt8.toNat_sub_of_le _ _ (by rw [UInt8.le_iff_toNat_le]; have:=b.toNat_lt; show b.toNat≤255; omega)]
  have:=b.toNat_lt
  show 255 - (255 - b.toNat)=b.toNat
  omega
 rw [this,List.map_id]
theorem readHd_headL{h:Hd}(ok:h.ok)(r:List UInt8):readHd (headL h++r)=some h:=by
 have hl:=head0_len h
 have hL:=headL_len h
 have e20:(headL h++r).take 20=head0 h:=by
  rw [List.take_append_of_le_length (by omega)]
  unfold headL
  rw [List.take_append_of_le_length (by omega),List.take_of_length_le (by omega)]
 have c2:cutL (headL h++r) 20 40=notL (head0 h):=by
  rw [show cutL (headL h++r) 20 40=cutL (headL h++r) ((20:Nat):Int) ((40:Nat):Int) from rfl,cutL_app (by omega)]
  unfold cutL headL
  rw [List.take_of_length_le (by rw [List.length_append,notL_len,hl]; decide)]
  show (head0 h++notL (head0 h)).drop 20=_
  rw [List.drop_append_of_le_length (by omega),List.drop_of_length_le (by omega),List.nil_append]
 have f8:=fixL_len h.seq 8
 have f4:=fixL_len h.used 4
 have g4:=fixL_len h.room 4
 have k4:=fixL_len h.pages 4
 have e8:(headL h++r).take 8=fixL h.seq 8:=by
  have:(headL h++r).take 8=((headL h++r).take 20).take 8:=by rw [List.take_take]; rfl
  rw [this,e20]
  unfold head0
  rw [List.append_assoc,List.append_assoc,List.take_append_of_le_length (by omega),List.take_of_length_le (by omega)]
 have cut:∀ i j:Nat,j≤20→cutL (headL h++r) i j=cutL (head0 h) i j:=fun i j hj=>by
  rw [cutL_app (by omega)]
  unfold headL
  exact cutL_app (by omega)
 have a1:cutL (head0 h) (8:Nat) (12:Nat)=fixL h.used 4:=by
  unfold cutL head0
  show List.drop 8 (List.take 12 _)=_
  rw [List.append_assoc,List.append_assoc,List.take_append,List.take_of_length_le (by omega),f8,List.drop_append_of_le_length (by omega),List.drop_of_length_le (by omega),List.nil_append,List.take_append_of_le_length (by omega),List.take_of_length_le (by omega)]
 have a2:cutL (head0 h) (12:Nat) (16:Nat)=fixL h.room 4:=by
  unfold cutL head0
  show List.drop 12 (List.take 16 _)=_
  rw [List.take_append_of_le_length (by simp only [List.length_append,f8,f4,g4]; omega),List.take_of_length_le (by simp only [List.length_append,f8,f4,g4]; omega),List.drop_append,List.drop_of_length_le (by simp only [List.length_append,f8,f4]; omega),List.nil_append]
  simp only [List.length_append,f8,f4]
  rfl
 have a3:cutL (head0 h) (16:Nat) (20:Nat)=fixL h.pages 4:=by
  unfold cutL
  show List.drop 16 (List.take 20 _)=_
  rw [List.take_of_length_le (by omega)]
  unfold head0
  rw [List.drop_append,List.drop_of_length_le (by simp only [List.length_append,f8,f4,g4]; omega),List.nil_append]
  simp only [List.length_append,f8,f4,g4]
  rfl
 unfold readHd
 rw [if_neg (by rw [List.length_append,hL]; omega),e20,c2,if_pos rfl,e8]
 rw [show cutL (headL h++r) 8 12=_ from (cut 8 12 (by decide)).trans a1,show cutL (headL h++r) 12 16=_ from (cut 12 16 (by decide)).trans a2,show cutL (headL h++r) 16 20=_ from (cut 16 20 (by decide)).trans a3]
 simp only [unfixL_fixL]
 rw [Nat.mod_eq_of_lt ok.seq,Nat.mod_eq_of_lt ok.used,Nat.mod_eq_of_lt ok.room,Nat.mod_eq_of_lt ok.pages]
theorem readHd_zero:readHd (filledL [])=none:=by
 unfold readHd
 rw [if_neg (by decide),if_neg (by decide)]
theorem newest_fmt{n room:Nat}(h1:1≤room)(h2:room+3≤n)(h3:n≤2048):newestH (fmtDk n (headN n room))=some (headN n room):=by
 have hh:(headN n room).ok:=⟨by show 2<_; omega,by show 0<_; omega,by show room<_; omega,by show min (n - 2 - room) 1024<_; omega⟩
 have b0:blkN (fmtDk n (headN n room)) 0=filledL (headL (headN n room)):=by
  unfold blkN fmtDk
  simp only [lastL,List.foldl_nil]
  rw [List.getD_eq_getElem?_getD,List.getElem?_set_self (by simp; omega)]; rfl
 have b1:blkN (fmtDk n (headN n room)) 1=filledL []:=by
  unfold blkN fmtDk
  simp only [lastL,List.foldl_nil]
  rw [List.getD_eq_getElem?_getD,List.getElem?_set_ne (by decide),List.getElem?_set_self (by simp; omega)]; rfl
 have hl:(fmtDk n (headN n room)).safe.length=n:=by simp [fmtDk]
 have c0:candH (fmtDk n (headN n room)) 0 0=some (headN n room):=by
  unfold candH
  rw [b0]
  unfold filledL
  rw [readHd_headL hh]
  have hf:fitsH (fmtDk n (headN n room)) (headN n room)=true:=by
   unfold fitsH
   rw [decide_eq_true_eq,hl]
   simp only [headN]
   omega
  show (if fitsH _ _=true∧0<(headN n room).seq∧(headN n room).seq % 2=0 then some (headN n room) else none)=_
  rw [if_pos ⟨hf,by simp [headN],by simp [headN]⟩]
 have c1:∀ k,candH (fmtDk n (headN n room)) 1 k=none:=fun k=>by
  unfold candH
  rw [b1,readHd_zero]
 unfold newestH
 simp only [bestN,Option.getD_none]
 rw [show hd0.seq=0 from rfl,c0]
 simp only [c1]
section
variable {W0 w:World} {F:Nat→Prop} {L:List Res} {I:List Inv} {g:Nat} {vb vl:Value} {m:Dk}
theorem format_ok{n room:Nat}(h:St W0 w F (DkL g vb vl (newDk n)++L) I)(h1:1≤room)(h2:room+3≤n)(h3:n≤2048) :
  Ret Tryz.prog 41 [.pointer (some ⟨g,0,none⟩),.int .i64 room] w fun u w'=>u=.int .i64 0∧∃ vl',St W0 w' F (DkL g vb vl' (fmtDk n (headN n room))++L) I:=by
 have ok:=newDk_ok (n:=n) (by omega) h3
 have hln:(newDk n).safe.length=n:=List.length_replicate
 refine ent41 _ _ _ _ ?_
 simp (disch:=first|omega|exact zF rfl|exact zG rfl|exact fun h=>h|(simp only[zA,zB,zC,zD,bytesW];omega)) only[go_sem]
 refine Ret.mono (len_ok h ok) ?_
 rintro _ w2 ⟨rfl,e2⟩
 subst w2
 simp (disch:=first|omega|exact zF rfl|exact zG rfl|exact fun h=>h|(simp only[zA,zB,zC,zD,bytesW];omega)) only[go_sem]
 refine Ret.mono (read_ok 0 h ok) ?_
 rintro _ w2 ⟨rfl,b2⟩
 have er:(readN (newDk n) 0).2=0:=by
  have e1:readyN (newDk n) 0=0:=by
   unfold readyN
   rw [if_neg (by simp [newDk]),if_pos (by simp [newDk]; omega)]
  unfold readN; rw [if_pos e1]
 have s2:=h.call b2
 rw [hln]
 have c1:¬ (room:Int)<1:=by omega
 have c2:¬ (n:Int)<room:=by omega
 have c3:¬ (n:Int) - 2 - room<1:=by omega
 simp (disch:=first|omega|exact zF rfl|exact zG rfl|exact fun h=>h|(simp only[zA,zB,zC,zD,bytesW];omega)) only[go_sem,er,c1,c2,c3]
 refine ⟨by constructor <;> omega,by constructor <;> omega,Ret.mono (write_ok 1 [] s2 ok (by simp [newDk])) ?_⟩
 rintro _ w3 ⟨rfl,vl',s3⟩
 have ok3:=writeN_ok ok (by simp [newDk]) 1 []
 have e1:writeN (newDk n) 1 []=({ newDk n with late:=[(1,filledL [])] },0):=writeN_new (l:=[]) (by decide) (by omega) (by decide)
 have e1':(writeN (newDk n) 1 []).2=0:=by rw [e1]
 simp (disch:=first|omega|exact zF rfl|exact zG rfl|exact fun h=>h|(simp only[zA,zB,zC,zD,bytesW];omega)) only[go_sem,e1']
 have hh:(headN n room).ok:=⟨by show 2<_; omega,by show 0<_; omega,by show room<_; omega,by show min (n - 2 - room) 1024<_; omega⟩
 have e2:min ((n:Int) - 2 - room) 1024=((min (n - 2 - room) 1024:Nat):Int):=by omega
 rw [e2]
 refine ⟨by constructor <;> omega,by constructor <;> omega,bdW_built (cells:=(headN n room).enc.toArray) (by kernel_rfl) ?_⟩
 simp (disch:=first|omega|exact zF rfl|exact zG rfl|exact fun h=>h|(simp only[zA,zB,zC,zD,bytesW];omega)) only[go_sem]
 refine Ret.mono (put_ok (headN n room) hh s3 ok3 (by rw [e1]; simp)) ?_
 rintro _ w4 ⟨rfl,vl2,s4⟩
 rw [fmt_eq (by omega) rfl] at s4 ⊢
 simp (disch:=first|omega|exact zF rfl|exact zG rfl|exact fun h=>h|(simp only[zA,zB,zC,zD,bytesW];omega)) only[go_sem]
 exact ⟨vl2,s4⟩
theorem open0_ok(hd:Hd)(h:St W0 w F (DkL g vb vl m++L) I)(ok:m.ok)(hg:m.gone=false)(h2:2≤m.safe.length)(hn:newestH m=some hd)(hu:hd.used=0) :
  Ret Tryz.prog 42 [.pointer (some ⟨g,0,none⟩)] w fun u w'=>∃ b mb,u=.tuple #[.pointer (some ⟨b,0,none⟩),.int .i64 0]∧St W0 w' F (StoL b mb g vb vl ⟨hd,[],0,false,m⟩++L) I:=by
 refine ent42 _ _ _ ?_
 simp (disch:=first|omega|exact zF rfl|exact zG rfl|exact fun h=>h|(simp only[zA,zB,zC,zD,bytesW];omega)) only[go_sem]
 refine Ret.mono (newest_ok h ok hg h2) ?_
 rintro u w2 ⟨hu2,b2⟩
 rw [hn] at hu2
 obtain rfl:u=_:=hu2
 have s2:=h.call b2
 simp (disch:=first|omega|exact zF rfl|exact zG rfl|exact fun h=>h|(simp only[zA,zB,zC,zD,bytesW];omega)) only[go_sem,Hd.enc]
 have s3:=s2.box #[.int .u64 hd.seq,.int .i64 hd.used,.int .i64 hd.room,.int .i64 hd.pages] 160
 have r3:=s3.rules 0 rfl
 refine mmG (ek:=intK) (ev:=strK) ?_
 have s4:=s3.lay (mapG intK strK [] 0)
 rw [World.size_alloc] at s4
 have hzl:=s4.low 1 rfl
 simp (disch:=first|omega|exact zF rfl|exact zG rfl|exact fun h=>h|(simp only[zA,zB,zC,zD,bytesW];omega)) only[go_sem,r3]
 generalize (w2.alloc (.cells #[.int .u64 hd.seq,.int .i64 hd.used,.int .i64 hd.room,.int .i64 hd.pages] 160))=w3 at s3 s4 ⊢
 generalize w3.alloc (mapG intK strK [] 0)=w4 at s4 hzl ⊢
 generalize w2.heap.size=z at s4 hzl ⊢
 generalize hmb:z+1=mb at s4 ⊢
 refine bdW_built (cells:=#[.pointer (some ⟨g,0,none⟩),.int .u64 hd.seq,.int .i64 hd.used,.int .i64 hd.room,.int .i64 hd.pages,.map (some mb),.bool false]) (by kernel_rfl) ?_
 have s5:=s4.box #[.pointer (some ⟨g,0,none⟩),.int .u64 hd.seq,.int .i64 hd.used,.int .i64 hd.room,.int .i64 hd.pages,.map (some mb),.bool false] 165
 have r5:=s5.rules 2 rfl
 have hu':¬ (0:Int)<hd.used:=by omega
 simp (disch:=first|omega|exact zF rfl|exact zG rfl|exact fun h=>h|(simp only[zA,zB,zC,zD,bytesW];omega)) only[go_sem,r5,hu']
 generalize w4.heap.size=b at s5 ⊢
 refine ⟨b,mb,rfl,?_⟩
 exact s5.sub (List.Sublist.cons_cons _ (List.Sublist.cons_cons _ (List.sublist_cons_self _ _)))
end
open Go Go.Ann Go.RowKit Go.WideShapes
abbrev It:=Int × List UInt8
def itE(x:It):List Value:=[.int .i64 x.1,.string (ofL x.2),.int .i64 0]
theorem itE_len(x:It):(itE x).length=3:=rfl
theorem itE_one(x:It):∀ u∈itE x,u.oneCell'=true:=by
 intro u hu
 simp only [itE,List.mem_cons,List.not_mem_nil,or_false] at hu
 rcases hu with rfl | rfl | rfl <;> rfl
theorem itE_ones(l:List It):∀ u∈l.flatMap itE,u.oneCell'=true:=by
 intro u hu
 obtain ⟨s,_,h⟩:=List.mem_flatMap.1 hu
 exact itE_one s u h
theorem flat_len(l:List It):(l.flatMap itE).length=l.length * 3:=by
 induction l with
 | nil=>rfl
 | cons a l ih=>rw [List.flatMap_cons,List.length_append,ih,itE_len,List.length_cons]; omega
theorem flat_take(l:List It)(k:Nat):(l.flatMap itE).take (k * 3)=(l.take k).flatMap itE:=by
 induction l generalizing k with
 | nil=>simp
 | cons a l ih =>
  cases k with
  | zero=>simp
  | succ k =>
   rw [List.flatMap_cons,List.take_succ_cons,List.flatMap_cons,← ih,List.take_append,itE_len,List.take_of_length_le (by rw [itE_len]; omega),show (k+1) * 3 - 3=k * 3 by omega]
theorem flat_drop(l:List It)(k:Nat):(l.flatMap itE).drop (k * 3)=(l.drop k).flatMap itE:=by
 induction l generalizing k with
 | nil=>simp
 | cons a l ih =>
  cases k with
  | zero=>simp
  | succ k =>
   rw [List.flatMap_cons,List.drop_succ_cons,← ih,List.drop_append,itE_len,List.drop_of_length_le (by rw [itE_len]; omega),List.nil_append,show (k+1) * 3 - 3=k * 3 by omega]
theorem flat_get{l:List It}{i j:Nat}(hi:i<l.length)(hj:j<3):(l.flatMap itE)[i * 3+j]?=(itE l[i])[j]?:=by
 rw [← List.getElem?_drop,flat_drop,List.drop_eq_getElem_cons hi,List.flatMap_cons,List.getElem?_append_left (by rw [itE_len]; exact hj)]
theorem item_at{w:World}{B e g cap:Nat}{l:List It}{i:Nat}(h:w.ownsRow B e 3 (.slice (some ⟨g,0,none⟩) l.length cap) l.length (l.flatMap itE))(hi:i<l.length) :
  w.cell? ⟨g,i * 3,none⟩=some (.int .i64 l[i].1)∧w.cell? ⟨g,i * 3+1,none⟩=some (.string (ofL l[i].2))∧w.cell? ⟨g,i * 3+2,none⟩=some (.int .i64 0):=by
 refine ⟨?_,?_,?_⟩
 ·have:=h.cellAt (i * 3) (by omega); rw [this]; exact flat_get (j:=0) hi (by decide)
 ·have:=h.cellAt (i * 3+1) (by omega); rw [this]; exact flat_get (j:=1) hi (by decide)
 ·have:=h.cellAt (i * 3+2) (by omega); rw [this]; exact flat_get (j:=2) hi (by decide)
def CaL(c:Nat)(rv:Value)(l:List It):List Res:=[.blk c #[.int .i64 64,rv] 206,.row rv 223 3 l.length (l.flatMap itE)]
def findK(k:Int)(l:List It):Option Nat:=l.findIdx? fun x=>decide (x.1=k)
def placeI(k:Int)(l:List It):Int:=match findK k l with | some i=>i | none => -1
section
variable {W0 w:World} {F:Nat→Prop} {L:List Res} {I:List Inv} {c:Nat} {rv:Value} {l:List It}
theorem place1_ok(k:Int)(x:It)(b:Nat)(w:World)(hb:Blk w b #[.int .i64 k] 3) :
  Ret Tryz.prog 192 [.agg (itE x).toArray,.pointer (some ⟨b,0,none⟩)] w fun u w'=>u=.bool (decide (x.1=k))∧Below w.heap.size w w':=by
 refine ent192 _ _ _ _ ?_
 have hr:=hb.rules
 have hlt:=hb.lt
 simp (disch:=first|omega|exact zF rfl|exact zG rfl|exact fun h=>h|(simp only[zA,zB,zC,zD,bytesW];omega)) only[go_sem,hr,itE]
 (repeat' (first | with_reducible exact Below.refl _ _ | with_reducible assumption | (with_reducible refine Below.drew ?_) | (with_reducible refine Below.alloc ?_ ?_ _) | (with_reducible refine Below.setCell ?_ ?_ _) | (with_reducible refine Below.fill ?_ ?_) | (with_reducible refine Below.via (by assumption) ?_ ?_) | omega | (simp only [World.size_alloc,World.size_drew,World.size_setCell,size_fill,bytesW]; omega)))
theorem index_ok(k:Int)(v:Value)(b:Nat)(hb:Blk w b #[.int .i64 k] 3)(h:RdS w 3 itE v l)(hl:l.length≤1000000) :
  Ret Tryz.prog 191 [v,.func (.func 192) #[] #[.pointer (some ⟨b,0,none⟩)]] w fun u w'=>u=.int .i64 (placeI k l)∧Below w.heap.size w w':=by
 obtain ⟨a,c,rfl,_⟩:=h.form
 refine ent191 _ _ _ _ ?_
 simp (disch:=first|omega|exact zF rfl|exact zG rfl|exact fun h=>h|(simp only[zA,zB,zC,zD,bytesW];omega)) only[go_sem]
 refine W_loopU (fun j:Nat=>[(8,.int .i64 j)]) (fun j w'=>Below w.heap.size w w'∧j≤l.length∧∀ i,(h:i<l.length)→i<j→¬ l[i].1=k) (fun j=>l.length - j) 0 rfl ⟨Below.refl _ _,Nat.zero_le _,fun j _ h=>by omega⟩ ?_
 rintro j w1 ⟨hw,hj,he⟩
 by_cases hlt:j<l.length
 ·obtain ⟨q,rfl⟩:=h.ptr (by omega)
  have ck:=(h.below hw (by decide)).at itE_len hlt
  have hlt':(j:Int)<l.length:=by omega
  simp (disch:=first|omega|exact zF rfl|exact zG rfl|exact fun h=>h|(simp only[zA,zB,zC,zD,bytesW];omega)) only[go_sem,hlt',ck,itE_len]
  refine ⟨by omega,callW_go ⟨by kernel_rfl,Ret.mono (place1_ok k l[j] b w1 (hb.below hw hb.lt)) ?_⟩⟩
  rintro _ w2 ⟨rfl,b2⟩
  have hwt:=hw.trans (b2.mono hw.size)
  by_cases hp:l[j].1=k
  ·simp (disch:=first|omega|exact zF rfl|exact zG rfl|exact fun h=>h|(simp only[zA,zB,zC,zD,bytesW];omega)) only[go_sem,hp]
   have e:placeI k l=j:=by
    unfold placeI findK
    rw [List.findIdx?_eq_some_iff_getElem.2 ⟨hlt,by simp [hp],fun i hi=>by simp [he i (by omega) hi]⟩]
   exact ⟨by rw [e],hwt⟩
  ·simp (disch:=first|omega|exact zF rfl|exact zG rfl|exact fun h=>h|(simp only[zA,zB,zC,zD,bytesW];omega)) only[go_sem,hp]
   refine ⟨⟨by omega,by omega⟩,j+1,rfl,⟨hwt,by omega,fun i h1 h2=>?_⟩,by omega⟩
   rcases Nat.lt_or_ge i j with h' | h'
   ·exact he i h1 h'
   ·obtain rfl:i=j:=by omega
    exact hp
 ·have hlt':¬ (j:Int)<l.length:=by omega
  simp (disch:=first|omega|exact zF rfl|exact zG rfl|exact fun h=>h|(simp only[zA,zB,zC,zD,bytesW];omega)) only[go_sem,hlt']
  have e:placeI k l = -1:=by
   unfold placeI findK
   rw [List.findIdx?_eq_none_iff.2 fun x hx=>by obtain ⟨i,hi,rfl⟩:=List.mem_iff_getElem.1 hx; simp [he i hi (by omega)]]
  exact ⟨by rw [e],hw⟩
theorem place_ok(k:Int)(h:St W0 w F (CaL c rv l++L) I)(hl:l.length≤1000000) :
  Ret Tryz.prog 169 [.pointer (some ⟨c,0,none⟩),.int .i64 k] w fun u w'=>u=.int .i64 (placeI k l)∧Below w.heap.size w w':=by
 refine ent169 _ _ _ _ ?_
 obtain ⟨a,cc,rfl,_⟩:=own_slice (h.row 1 rfl)
 have s1:=h.box #[.int .i64 k] 3
 have r1:=s1.rules 1 rfl
 have t1:=(St.start (W0:=w)).box #[.int .i64 k] 3
 simp (disch:=first|omega|exact zF rfl|exact zG rfl|exact fun h=>h|(simp only[zA,zB,zC,zD,bytesW];omega)) only[go_sem,r1]
 refine Ret.mono (index_ok k _ _ (s1.blk 0 rfl) (RdS.of_own' (s1.row 2 rfl) l rfl rfl) hl) ?_
 rintro _ w2 ⟨rfl,b2⟩
 simp (disch:=first|omega|exact zF rfl|exact zG rfl|exact fun h=>h|(simp only[zA,zB,zC,zD,bytesW];omega)) only[go_sem]
 exact (t1.call b2).bel
theorem front_ok{i:Nat}(h:St W0 w F (CaL c rv l++L) I)(hi:i<l.length)(hl:l.length≤1000000) :
  Ret Tryz.prog 183 [.pointer (some ⟨c,0,none⟩),.int .i64 i] w fun u w'=>St W0 w' F (CaL c rv (l[i]::l.eraseIdx i)++L) I:=by
 refine ent183 _ _ _ _ ?_
 obtain ⟨g,cap,rfl,hg⟩:=(h.row 1 rfl).form (by omega)
 have r1:=h.rules 0 rfl
 obtain ⟨k0,k1,k2⟩:=item_at (h.row 1 rfl) hi
 have hi':(i:Int)<l.length:=by omega
 have s1:=h.box #[.int .i64 l[i].1,.string (ofL l[i].2),.int .i64 0] 223
 simp (disch:=first|omega|exact zF rfl|exact zG rfl|exact fun h=>h|(simp only[zA,zB,zC,zD,bytesW];omega)) only[go_sem,c183S0,r1,k0,k1,k2,hi']
 generalize w.heap.size=y at s1 ⊢
 generalize w.alloc (.cells #[.int .i64 l[i].1,.string (ofL l[i].2),.int .i64 0] 223)=w1 at s1 ⊢
 refine ⟨by omega,c183draw0 (Same (fun k=>k=c) _) (Same.refl _ _) ?_⟩
 have s2:=s1.drew
 have r2:=s2.rules 1 rfl
 have l2:=s2.low 1 rfl
 generalize w1.drew=w2 at s2 r2 l2 ⊢
 simp (disch:=first|omega|exact zF rfl|exact zG rfl|exact fun h=>h|(simp only[zA,zB,zC,zD,bytesW];omega)) only[go_sem,c183S0,c183D0,r2]
 have hcp:∀ w',(∃ xs,xs.length=3∧St W0 w' F ([.blk y #[.int .i64 l[i].1,.string (ofL l[i].2),.int .i64 0] 223,.blk c #[.int .i64 64,.slice (some ⟨g,0,none⟩) l.length cap] 206,.row (.slice (some ⟨g,0,none⟩) l.length cap) 223 3 l.length (xs++(l.eraseIdx i).flatMap itE)]++L) I) →
   W Tryz.prog (c183S0 ()) [(0,.pointer (some ⟨c,0,none⟩)),(4,.pointer (some ⟨y,0,none⟩))] w' (finQ Tryz.prog [] fun u w'=>St W0 w' F (CaL c (.slice (some ⟨g,0,none⟩) l.length cap) (l[i]::l.eraseIdx i)++L) I):=by
  rintro w3 ⟨xs,hx,s3⟩
  simp (disch:=first|omega|exact zF rfl|exact zG rfl|exact fun h=>h|(simp only[zA,zB,zC,zD,bytesW];omega)) only[go_sem,c183S0]
  refine c183draw1 (Chg (fun _=>False) _) (Chg.refl _ _) ?_
  have s4:=s3.drew
  have r4:=s4.rules 1 rfl
  have l4:=s4.low 1 rfl
  have q4:=s4.rules 0 rfl
  generalize w3.drew=w4 at s4 r4 l4 q4 ⊢
  simp (disch:=first|omega|exact zF rfl|exact zG rfl|exact fun h=>h|(simp only[zA,zB,zC,zD,bytesW];omega)) only[go_sem,c183S0,c183D1,r4,q4]
  obtain ⟨x0,x1,x2,rfl⟩:∃ x0 x1 x2,xs=[x0,x1,x2]:=by
   match xs,hx with
   | [a,b,c],_=>exact ⟨a,b,c,rfl⟩
  have hr:=s4.row 2 rfl
  have hc:∀ j,j<3→w4.cell? ⟨g,j,none⟩=([x0,x1,x2]++(l.eraseIdx i).flatMap itE)[j]?:=fun j hj=>hr.cellAt j (by omega)
  refine ⟨by omega,⟨⟨x0,hc 0 (by decide)⟩,hr.frozenAt 0,⟨x1,hc 1 (by decide)⟩,hr.frozenAt 1,⟨x2,hc 2 (by decide)⟩,hr.frozenAt 2⟩,?_⟩
  have s5:=((s4.put 2 rfl 0 (.int .i64 l[i].1)).put 2 rfl 1 (.string (ofL l[i].2))).put 2 rfl 2 (.int .i64 0)
  refine st_recast (s5.sub (List.sublist_cons_self _ _)) ?_
  have e:(l[i]::l.eraseIdx i).length=l.length:=by rw [List.length_cons,List.length_eraseIdx,if_pos hi]; omega
  simp only [CaL,e]
  rfl
 have hle:l.length≤cap:=by
  obtain ⟨_,cap',e,hc⟩:=own_slice (h.row 1 rfl)
  cases e; exact hc
 have e0:offA (some ⟨g,0,none⟩) cap 0 3=some ⟨g,0 * 3,none⟩:=by unfold offA; split <;> rfl
 have ek:(((i:Int)+1).toNat - 1)=i:=by omega
 rw [e0,ek]
 obtain ⟨o,ho1,ho2,ho3⟩:∃ o:Nat,o+i≤l.length∧offA (some ⟨g,0,none⟩) cap 1 3=some ⟨g,o * 3,none⟩∧(o=1∨i=0∧o=0):=by
  by_cases hc:cap=1
  ·exact ⟨0,by omega,by unfold offA; rw [if_pos hc],.inr ⟨by omega,rfl⟩⟩
  ·exact ⟨1,by omega,by unfold offA; rw [if_neg hc]; rfl,.inl rfl⟩
 rw [ho2]
 refine ⟨by constructor <;> omega,⟨by omega,by omega⟩,Same.refl _ _,⟨by omega,by omega⟩,?_⟩
 refine s2.copy (i:=2) (o:=o) (m:=0) (k:=i) rfl ty204mkI ho1 (by omega) (itE_ones l) (Nat.min_self i) ?_
 intro w3 s3
 have sm:Same (fun k=>k=c) w2 w3:=fun k hk=>by subst hk; exact (s3.blk 1 rfl).trans (s2.blk 1 rfl).symm
 simp (disch:=first|omega|exact zF rfl|exact zG rfl|exact fun h=>h|(simp only[zA,zB,zC,zD,bytesW];omega)) only[go_sem]
 refine ⟨sm,hcp w3 ⟨itE (l[0]'(by omega)),rfl,st_recast s3 ?_⟩⟩
 have e1:(l.flatMap itE).take (o * 3)++((l.flatMap itE).drop (0 * 3)).take (i * 3)++(l.flatMap itE).drop ((o+i) * 3)=itE (l[0]'(by omega))++(l.eraseIdx i).flatMap itE:=by
  rw [flat_take,flat_drop,flat_take,flat_drop,List.drop_zero,List.eraseIdx_eq_take_drop_succ,List.flatMap_append]
  have h0:0<l.length:=by omega
  rcases ho3 with rfl | ⟨rfl,rfl⟩
  ·have:l.take 1=[l[0]'h0]:=by
    have:=List.take_succ_eq_append_getElem h0
    simpa using this
   rw [this,List.flatMap_cons,List.flatMap_nil,List.append_nil,List.append_assoc,show 1+i=i+1 by omega]
  ·have:l.drop (0+0)=l[0]'h0::l.drop (0+1):=List.drop_eq_getElem_cons h0
   rw [this,List.flatMap_cons]
   simp
 simp only [List.set_cons_succ,List.set_cons_zero,List.cons_append,CaL,e1]
end
open Go Go.Ann Go.RowKit Go.WideShapes
theorem slice3W{P:Program}{t e sz bytes:Nat}{z:Value}{x lo hi mx:Operand}{ty:TypeId}{ρ:Env}{w:World}{K:Value→World→Prop}{a:Option Addr}{n c i j m:Nat}(hm:mkI P t=some (e,sz,bytes,z))(hx:ev ρ x=some (.slice a n c))(h1:ev ρ lo=some (.int .i64 i))(h2:ev ρ hi=some (.int .i64 j))(h3:ev ρ mx=some (.int .i64 m))(hij:i≤j)(hjm:j≤m)(hmc:m≤c)(hc:c≤9223372036854775807)
  (hK:∀ v,K v w):opW P (.slice t x (some lo) (some hi) (some mx)) ty ρ w K:=by
 show rawW _ _ _ _ _ _
 intro f hf
 obtain ⟨inf,hu,hi',_,hsi,_⟩:=mkI_some hm
 refine ⟨.slice (if m=i then a else a.map (·.add (i * P.cellsOf e))) (j - i) (m - i),w,?_,hK _⟩
 have b1:(0:Int)≤(m:Int)∧(m:Int)≤c:=by omega
 have b2:(0:Int)≤(j:Int)∧(j:Int)≤m:=by omega
 have b3:(0:Int)≤(i:Int)∧(i:Int)≤j:=by omega
 have hrun:(Instr.sliceAt t (.slice a n c) (some (.int .i64 i)) (some (.int .i64 j)) (some (.int .i64 m))).run P w=.ok (.slice (if m=i then a else a.map (·.add (i * P.cellsOf e))) (j - i) (m - i)) w:=by
  rw [run_sliceAt_slice w _ _ _ _ _ (by simp [Program.elem,hu])]
  simp only [Instr.slice,Sem.run_bind,run_underlying hu,Result.andThen,Instr.sliceBounds,Sem.run_pure,Option.isSome,if_true,run_sizeOf w hi',run_bound w b1.1 b1.2,Int.toNat_natCast,run_bound w b2.1 b2.2,run_bound w b3.1 b3.2]
 simp [execOp,rawOp,Option.map_some,hf _ _ hx,hf _ _ h1,hf _ _ h2,hf _ _ h3,hrun]
theorem overL_low{xs vs:List Value}{o k:Nat}(hk:k≤o)(ho:o≤xs.length):(overL xs o vs).take k=xs.take k:=by
 unfold overL
 rw [List.append_assoc,List.take_append_of_le_length (by rw [List.length_take]; omega),List.take_take,Nat.min_eq_left hk]
section
variable {W0 w:World} {F:Nat→Prop} {L:List Res} {I:List Inv} {rv:Value} {l:List It}
theorem delete_ok{i:Nat}(h:St W0 w F (.row rv 223 3 l.length (l.flatMap itE)::L) I)(hi:i<l.length)(hl:l.length≤1000000) :
  Ret Tryz.prog 170 [rv,.int .i64 i,.int .i64 ((i:Int)+1)] w fun u w'=>St W0 w' F (.row u 223 3 (l.eraseIdx i).length ((l.eraseIdx i).flatMap itE)::L) I:=by
 have hr:=h.row 0 rfl
 rcases hr.2 with ⟨_,h0⟩ | ⟨g,cap,cur,rfl,hb,hg,hnc,hcm,hcs,htake⟩
 ·omega
 refine ent170 _ _ _ _ _ ?_
 simp (disch:=first|omega|exact zF rfl|exact zG rfl|exact fun h=>h|(simp only[zA,zB,zC,zD,bytesW];omega)) only[go_sem]
 refine slice3W (a:=some ⟨g,0,none⟩) (n:=l.length) (c:=cap) (i:=i) (j:=i+1) (m:=l.length) ty204mkI rfl rfl rfl rfl (by omega) (by omega) hnc (by simp only [maxLen] at hcm; omega) ?_
 intro v
 have hne:¬ (i:Int)=(i:Int)+1:=by omega
 simp (disch:=first|omega|exact zF rfl|exact zG rfl|exact fun h=>h|(simp only[zA,zB,zC,zD,bytesW];omega)) only[go_sem,hne]
 refine c170draw0 ?_
 have h2:=h.drew
 simp (disch:=first|omega|exact zF rfl|exact zG rfl|exact fun h=>h|(simp only[zA,zB,zC,zD,bytesW];omega)) only[go_sem,c170D0]
 have hlen:=flat_len l
 have hclen:cur.toList.length=cap * 3:=by rw [Array.length_toList,hcs]
 have e0:offA (some ⟨g,0,none⟩) cap 0 3=some ⟨g,0,none⟩:=by unfold offA; split <;> rfl
 have e1:((i:Int)+1).toNat=i+1:=by omega
 rw [e0,e1]
 have hsrc:Rd w.drew 3 (.slice (offA (some ⟨g,0,none⟩) cap (i+1) 3) (l.length - (i+1)) (cap - (i+1))) (l.length - (i+1)) ((l.drop (i+1)).flatMap itE):=by
  refine ⟨by rw [flat_len,List.length_drop],_,_,rfl,by omega,fun hn=>?_⟩
  have hc:¬ cap=i+1:=by omega
  refine ⟨⟨g,(i+1) * 3,none⟩,by unfold offA; rw [if_neg hc]; simp [Addr.add_lit],fun j u hu=>?_⟩
  have hj:j<(l.length - (i+1)) * 3:=by
   have:=(List.getElem?_eq_some_iff.1 hu).1
   rwa [flat_len,List.length_drop] at this
  rw [Addr.add_lit]
  show w.cell? _=_
  rw [(h.row 0 rfl).cellAt _ (by omega),← List.getElem?_drop,flat_drop,hu]
 refine ⟨⟨by omega,by omega⟩,⟨by omega,by omega⟩,appendB (sz:=3) ty204mkI (show Blk w.drew g cur _ from hg) (by omega) (by omega) hsrc (itE_ones _) ?_⟩
 intro w3 b3 c3
 have hyl:((l.drop (i+1)).flatMap itE).length=(l.length - (i+1)) * 3:=by rw [flat_len,List.length_drop]
 have e2:i+(l.length - (i+1))=l.length - 1:=by omega
 rw [e2]
 have hl3:(overL cur.toList (i * 3) ((l.drop (i+1)).flatMap itE)).length=cap * 3:=by rw [overL_length (by rw [hyl,hclen]; omega),hclen]
 simp (disch:=first|omega|exact zF rfl|exact zG rfl|exact fun h=>h|(simp only[zA,zB,zC,zD,bytesW];omega)) only[go_sem]
 have e3:offA (some ⟨g,0,none⟩) cap (l.length - 1) 3=some ⟨g,(l.length - 1) * 3,none⟩:=by
  unfold offA; rw [if_neg (by omega)]; simp [Addr.add_lit]
 rw [e3]
 refine ⟨⟨by omega,by omega,by omega⟩,clearB (sz:=3) ty204mkI rfl (itE_ones [(0,[])]) b3 (by rw [List.size_toArray,hl3]; omega) ?_⟩
 intro w5 zs hzl b5 c5
 simp (disch:=first|omega|exact zF rfl|exact zG rfl|exact fun h=>h|(simp only[zA,zB,zC,zD,bytesW];omega)) only[go_sem]
 have hzl:zs.length=3:=by rw [hzl]; omega
 simp only [List.toList_toArray] at b5
 have hl5:(overL (overL cur.toList (i * 3) ((l.drop (i+1)).flatMap itE)) ((l.length - 1) * 3) zs).length=cap * 3:=by rw [overL_length (by rw [hzl,hl3]; omega),hl3]
 have hn':(l.eraseIdx i).length=l.length - 1:=by rw [List.length_eraseIdx,if_pos hi]
 have ht:(overL (overL cur.toList (i * 3) ((l.drop (i+1)).flatMap itE)) ((l.length - 1) * 3) zs).take ((l.length - 1) * 3)=(l.eraseIdx i).flatMap itE:=by
  have t1:=overL_low (vs:=zs) (show (l.length - 1) * 3≤(l.length - 1) * 3 from Nat.le_refl _) (show (l.length - 1) * 3≤(overL cur.toList (i * 3) ((l.drop (i+1)).flatMap itE)).length by rw [hl3]; omega)
  rw [t1,overL_take (by rw [hyl]; omega) (by rw [hclen]; omega)]
  have t2:cur.toList.take (i * 3)=(l.take i).flatMap itE:=by
   rw [← flat_take,← htake,List.take_take,Nat.min_eq_left (by omega)]
  rw [t2,List.eraseIdx_eq_take_drop_succ,List.flatMap_append]
 have hc:Chg (fun k=>(Res.row (.slice (some ⟨g,0,none⟩) l.length cap) 223 3 l.length (l.flatMap itE)).own=some k) w w5 :=
  (((Chg.refl (fun k=>k=g) w).drew.trans c3).trans c5).mono fun k _ hk=>by subst hk; rfl
 refine h.upd 0 rfl hc _ ⟨?_,.inr ⟨g,cap,_,by rw [hn'],hb,b5,by omega,hcm,?_,?_⟩⟩ fun k hk=>.inl hk
 ·rw [flat_len]
 ·rw [List.size_toArray,hl5]
 ·rw [hn']; exact ht
theorem capB{P:Program}{t e sz bytes ty:Nat}{z:Value}{cs:Array Bool}{w:World}{K:Value→World→Prop}{a:Option Addr}{n c:Nat}(hm:mkI P t=some (e,sz,bytes,z))(hK:K (.int .i64 c) w):biW P .cap #[t] ty cs [.slice a n c] w K:=by
 show rawB _ _ _ _ _ _ _ _
 obtain ⟨i,hu,_,_,_,_⟩:=mkI_some hm
 refine ⟨_,w,?_,hK⟩
 simp [builtin,Builtin.cap_,goInt,run_underlying hu]
theorem overL_head{ys xs:List Value}{k:Nat}(h:xs.length≤k):(overL ys 0 xs).take k=xs++(ys.take k).drop xs.length:=by
 unfold overL
 rw [List.take_zero,List.nil_append,Nat.zero_add,List.take_append,List.take_of_length_le h,List.drop_take]
@[go_sem] theorem goOverlaps:goFunc Tryz.prog 201=false:=by kernel_rfl
theorem insert_ok{x:It}{vb:Nat}(h:St W0 w F (.row rv 223 3 l.length (l.flatMap itE)::.blk vb (itE x).toArray 223::L) I)(hl:l.length≤1000000) :
  Ret Tryz.prog 184 [rv,.int .i64 0,.slice (some ⟨vb,0,none⟩) 1 1] w fun u w'=>St W0 w' F (.row u 223 3 (l.length+1) ((x::l).flatMap itE)::.blk vb (itE x).toArray 223::L) I:=by
 have hr:=h.row 0 rfl
 have hv:=h.blk 1 rfl
 obtain ⟨a,cap,rfl,hnc⟩:=own_slice hr
 have hx:Rd w 3 (.slice (some ⟨vb,0,none⟩) 1 1) 1 (itE x):=by
  refine ⟨rfl,_,_,rfl,Nat.le_refl _,fun _=>⟨_,rfl,fun j u hu=>?_⟩⟩
  rw [Addr.add_lit,Nat.zero_add,hv.cell,List.getElem?_toArray]
  exact hu
 refine ent184 _ _ _ _ _ ?_
 by_cases hn:l.length=0
 ·have hl0:l=[]:=List.eq_nil_of_length_eq_zero hn
  subst hl0
  simp (disch:=first|omega|exact zF rfl|exact zG rfl|exact fun h=>h|(simp only[zA,zB,zC,zD,bytesW];omega)) only[go_sem]
  refine h.append 0 rfl ty204mkI rfl (by decide) hx (itE_one x) (by simp) (by simp) ?_
  intro v2 w2 s2 _
  simp (disch:=first|omega|exact zF rfl|exact zG rfl|exact fun h=>h|(simp only[zA,zB,zC,zD,bytesW];omega)) only[go_sem]
  exact s2
 have hn':¬ (0:Int)=l.length:=by omega
 rcases hr.2 with ⟨_,h0⟩ | ⟨g,cap',cur,hv',hb,hg,hnc',hcm,hcs,htake⟩
 ·omega
 simp only [Value.slice.injEq,true_and] at hv'
 obtain ⟨rfl,rfl⟩:=hv'
 have hclen:cur.toList.length=cap * 3:=by rw [Array.length_toList,hcs]
 have hcells:∀ j u,(l.flatMap itE)[j]?=some u→w.cell? ((⟨g,0,none⟩:Addr).add j)=some u:=fun j u hu=>by
  have hj:j<l.length * 3:=by
   have:=(List.getElem?_eq_some_iff.1 hu).1
   rwa [flat_len] at this
  rw [Addr.add_lit,Nat.zero_add,hr.cellAt _ hj,hu]
 have hvcells:∀ j u,(itE x)[j]?=some u→w.cell? ((⟨vb,0,none⟩:Addr).add j)=some u:=fun j u hu=>by
  rw [Addr.add_lit,Nat.zero_add,hv.cell,List.getElem?_toArray]; exact hu
 have hgv:g≠vb:=fun e=>h.ne 0 1 rfl rfl (by decide) (k:=g) rfl (by rw [e]; rfl)
 have e0:offA (some ⟨g,0,none⟩) cap 0 3=some ⟨g,0,none⟩:=by unfold offA; split <;> rfl
 have hfl:=flat_len l
 by_cases hc:cap<l.length+1
 ·have hc':(cap:Int)<l.length+1:=by omega
  simp (disch:=first|omega|exact zF rfl|exact zG rfl|exact fun h=>h|(simp only[zA,zB,zC,zD,bytesW];omega)) only[go_sem,hn',hc']
  refine ⟨by omega,⟨by omega,by omega⟩,capB ty204mkI ?_⟩
  simp (disch:=first|omega|exact zF rfl|exact zG rfl|exact fun h=>h|(simp only[zA,zB,zC,zD,bytesW];omega)) only[go_sem,hc']
  rw [e0,show ((l.length:Int)+1 - 0)=((l.length+1:Nat):Int) by omega]
  refine ⟨by omega,⟨by omega,by omega⟩,⟨by omega,by omega⟩,growB ty204mkI Tryz.underlying3 rfl (by decide) (by omega) hc (by omega) (by omega) ?_⟩
  intro G Z hG1 hG2 hZ
  have b1:Below w.heap.size w (w.drew.alloc (.cells Z 223)):=((Below.refl _ w).drew).alloc (Nat.le_refl _) _
  have B1:Blk (w.drew.alloc (.cells Z 223)) w.heap.size Z 223:=Blk.new (w:=w.drew)
  have hlt:=hr.lt g rfl
  have hltv:=hv.lt
  generalize w.drew.alloc (.cells Z 223)=w1 at b1 B1 ⊢
  generalize hy:w.heap.size=y at b1 B1 hlt hltv ⊢
  simp (disch:=first|omega|exact zF rfl|exact zG rfl|exact fun h=>h|(simp only[zA,zB,zC,zD,bytesW];omega)) only[go_sem]
  have e1:offA (some ⟨y,0,none⟩) G 0 3=some ⟨y,0,none⟩:=by unfold offA; split <;> rfl
  have hZl:Z.toList.length=G * 3:=by rw [Array.length_toList,hZ]
  have old1:∀ p:Addr,p.block<y→w1.cell? p=w.cell? p:=fun p hp=>World.cell?_of_block (b1.block _ hp)
  rw [e1]
  refine ⟨by omega,copyB (sz:=3) (k:=1) (ys:=itE x) ty204mkI B1 (by omega) rfl (fun j u hu=>by rw [old1 _ (by rw [add_block]; exact hltv)]; exact hvcells j u hu) (itE_one x) (by rw [hZ,itE_len]; omega) ?_⟩
  intro w2 B2 c2
  have b2:Below y w w2:=b1.trans (c2.below (hy ▸ b1.size) fun k hk e=>by omega)
  simp (disch:=first|omega|exact zF rfl|exact zG rfl|exact fun h=>h|(simp only[zA,zB,zC,zD,bytesW];omega)) only[go_sem]
  refine c184draw0 ?_
  have b3:Below y w w2.drew:=b2.drew
  have B3:Blk w2.drew y (overL Z.toList 0 (itE x)).toArray 223:=B2
  have old3:∀ p:Addr,p.block<y→w2.drew.cell? p=w.cell? p:=fun p hp=>World.cell?_of_block (b3.block _ hp)
  generalize w2.drew=w3 at b3 B3 old3 ⊢
  have e3:offA (some ⟨y,0,none⟩) G 1 3=some ⟨y,3,none⟩:=by unfold offA; rw [if_neg (by omega)]; rfl
  have hl3:(overL Z.toList 0 (itE x)).length=G * 3:=by rw [overL_length (by rw [hZl,itE_len]; omega),hZl]
  simp (disch:=first|omega|exact zF rfl|exact zG rfl|exact fun h=>h|(simp only[zA,zB,zC,zD,bytesW];omega)) only[go_sem,c184D0]
  rw [e3,e0]
  refine ⟨⟨by omega,by omega⟩,by omega,by omega,copyB (sz:=3) (k:=l.length) (ys:=l.flatMap itE) ty204mkI B3 (by rw [Nat.sub_zero]; exact Nat.min_self _) hfl (fun j u hu=>by rw [old3 _ (by rw [add_block]; exact hlt.2)]; exact hcells j u hu) (itE_ones l) (by rw [List.size_toArray,hl3,hfl]; omega) ?_⟩
  intro w5 B5 c5
  simp only [List.toList_toArray] at B5
  have b5:Below w.heap.size w w5:=by
   rw [hy]
   exact b3.trans (c5.below (hy ▸ b3.size) fun k hk e=>by omega)
  simp (disch:=first|omega|exact zF rfl|exact zG rfl|exact fun h=>h|(simp only[zA,zB,zC,zD,bytesW];omega)) only[go_sem]
  have hl5:(overL (overL Z.toList 0 (itE x)) 3 (l.flatMap itE)).length=G * 3:=by rw [overL_length (by rw [hl3,hfl]; omega),hl3]
  have ht:(overL (overL Z.toList 0 (itE x)) 3 (l.flatMap itE)).take ((l.length+1) * 3)=(x::l).flatMap itE:=by
   rw [overL_take (by rw [hfl]; omega) (by rw [hl3]; omega),overL_take (by rw [itE_len]) (by omega),List.take_zero,List.nil_append,List.flatMap_cons]
  have hnew:(Res.row (.slice (some ⟨y,0,none⟩) (l.length+1) G) 223 3 (l.length+1) ((x::l).flatMap itE)).ok w5 W0.heap.size :=
   ⟨by rw [flat_len,List.length_cons],.inr ⟨y,G,_,rfl,by rw [← hy]; exact h.size,B5,hG1,hG2,by rw [List.size_toArray,hl5],ht⟩⟩
  have s5:=h.add b5 _ hnew fun k hk=>by
   simp only [Res.own,Value.ownBlock,Option.some.injEq] at hk; omega
  exact s5.sub (List.Sublist.cons_cons _ (List.sublist_cons_self _ _))
 ·have hc':¬ (cap:Int)<l.length+1:=by omega
  simp (disch:=first|omega|exact zF rfl|exact zG rfl|exact fun h=>h|(simp only[zA,zB,zC,zD,bytesW];omega)) only[go_sem,hn',hc']
  refine ⟨by omega,⟨by omega,by omega⟩,capB ty204mkI ?_⟩
  simp (disch:=first|omega|exact zF rfl|exact zG rfl|exact fun h=>h|(simp only[zA,zB,zC,zD,bytesW];omega)) only[go_sem,hc']
  have e1:offA (some ⟨g,0,none⟩) cap 1 3=some ⟨g,3,none⟩:=by unfold offA; rw [if_neg (by omega)]; rfl
  rw [e0,e1]
  refine ⟨⟨by omega,by omega⟩,⟨by omega,by omega⟩,⟨by omega,by omega⟩,by omega,overlapsW (t:=204) (tR:=4) Tryz.func201 (by kernel_rfl) (by kernel_rfl) (by kernel_rfl) (by kernel_rfl) ty204mkI (fun e=>hgv e.symm) hv hg (by omega) ?_⟩
  simp (disch:=first|omega|exact zF rfl|exact zG rfl|exact fun h=>h|(simp only[zA,zB,zC,zD,bytesW];omega)) only[go_sem]
  refine c184draw1 ?_
  have h2:=h.drew
  have hg2:Blk w.drew g cur 223:=hg
  have hc2:∀ j u,(l.flatMap itE)[j]?=some u→w.drew.cell? ((⟨g,0,none⟩:Addr).add j)=some u:=hcells
  have e2:((l.length:Int)+1).toNat=l.length+1:=by omega
  simp (disch:=first|omega|exact zF rfl|exact zG rfl|exact fun h=>h|(simp only[zA,zB,zC,zD,bytesW];omega)) only[go_sem,c184D1]
  rw [e2,e0,e1]
  refine ⟨by constructor <;> omega,by omega,by omega,copyB (sz:=3) (k:=l.length) (ys:=l.flatMap itE) ty204mkI hg2 (by omega) hfl hc2 (itE_ones l) (by rw [hfl]; omega) ?_⟩
  intro w3 B3 c3
  have hl3:(overL cur.toList 3 (l.flatMap itE)).length=cap * 3:=by rw [overL_length (by rw [hclen,hfl]; omega),hclen]
  have hvc3:∀ j u,(itE x)[j]?=some u→w3.cell? ((⟨vb,0,none⟩:Addr).add j)=some u:=fun j u hu=>by
   have:w3.cell? ((⟨vb,0,none⟩:Addr).add j)=w.cell? ((⟨vb,0,none⟩:Addr).add j):=World.cell?_of_block (by rw [add_block]; exact c3.block vb hv.lt (fun e=>hgv e.symm))
   rw [this]; exact hvcells j u hu
  simp (disch:=first|omega|exact zF rfl|exact zG rfl|exact fun h=>h|(simp only[zA,zB,zC,zD,bytesW];omega)) only[go_sem]
  rw [e0]
  refine ⟨by omega,copyB (sz:=3) (k:=1) (ys:=itE x) ty204mkI B3 (by omega) rfl hvc3 (itE_one x) (by rw [List.size_toArray,hl3,itE_len]; omega) ?_⟩
  intro w5 B5 c5
  simp only [List.toList_toArray] at B5
  simp (disch:=first|omega|exact zF rfl|exact zG rfl|exact fun h=>h|(simp only[zA,zB,zC,zD,bytesW];omega)) only[go_sem]
  have hl5:(overL (overL cur.toList 3 (l.flatMap itE)) 0 (itE x)).length=cap * 3:=by rw [overL_length (by rw [hl3,itE_len]; omega),hl3]
  have ht:(overL (overL cur.toList 3 (l.flatMap itE)) 0 (itE x)).take ((l.length+1) * 3)=(x::l).flatMap itE:=by
   rw [overL_head (by rw [itE_len]; omega),overL_take (by rw [hfl]; omega) (by rw [hclen]; omega),itE_len,List.drop_append,List.drop_of_length_le (by rw [List.length_take]; omega),List.nil_append,List.length_take,Nat.min_eq_left (by omega),Nat.sub_self,List.drop_zero,List.flatMap_cons]
  have hc:Chg (fun k=>(Res.row (.slice (some ⟨g,0,none⟩) l.length cap) 223 3 l.length (l.flatMap itE)).own=some k) w w5 :=
   (((Chg.refl (fun k=>k=g) w).drew.trans c3).trans c5).mono fun k _ hk=>by subst hk; rfl
  exact h.upd 0 rfl hc (.row (.slice (some ⟨g,0,none⟩) (l.length+1) cap) 223 3 (l.length+1) ((x::l).flatMap itE)) ⟨by rw [flat_len,List.length_cons],.inr ⟨g,cap,_,rfl,hb,B5,by omega,hcm,by rw [List.size_toArray,hl5],ht⟩⟩ fun k hk=>.inl hk
end
open Go Go.Ann Go.RowKit Go.WideShapes
section
variable {W0 w:World} {F:Nat→Prop} {L:List Res} {I:List Inv} {c:Nat} {rv:Value} {l:List It}
theorem place_some{k:Int}{i:Nat}(h:findK k l=some i):placeI k l=i∧∃ hi:i<l.length,l[i].1=k:=by
 unfold placeI; rw [h]
 unfold findK at h
 obtain ⟨h1,h2,_⟩:=List.findIdx?_eq_some_iff_getElem.1 h
 exact ⟨rfl,h1,by simpa using h2⟩
theorem place_none{k:Int}(h:findK k l=none):placeI k l = -1:=by unfold placeI; rw [h]
theorem cnew_ok(h:St W0 w F L I) :
  Ret Tryz.prog 113 [.int .i64 64] w fun u w'=>∃ c,u=.tuple #[.pointer (some ⟨c,0,none⟩),.int .i64 0]∧St W0 w' F (CaL c (.slice none 0 0) []++L) I:=by
 refine ent113 _ _ _ ?_
 simp (disch:=first|omega|exact zF rfl|exact zG rfl|exact fun h=>h|(simp only[zA,zB,zC,zD,bytesW];omega)) only[go_sem]
 refine bdW_built (cells:=#[.int .i64 64,.slice none 0 0]) (by kernel_rfl) ?_
 have s1:=(h.box #[.int .i64 64,.slice none 0 0] 206).nilRow 223 3
 simp (disch:=first|omega|exact zF rfl|exact zG rfl|exact fun h=>h|(simp only[zA,zB,zC,zD,bytesW];omega)) only[go_sem]
 exact ⟨_,rfl,St.front (A:=[.row (.slice none 0 0) 223 3 0 []]) (D:=[_]) (L:=L) s1⟩
def getC(k:Int)(l:List It):List UInt8 × Bool × List It:=match findK k l with
 | some i=>((l.getD i (0,[])).2,true,l.getD i (0,[])::l.eraseIdx i)
 | none=>([],false,l)
theorem cget_ok(k:Int)(h:St W0 w F (CaL c rv l++L) I)(hl:l.length≤1000000) :
  Ret Tryz.prog 145 [.pointer (some ⟨c,0,none⟩),.int .i64 k] w fun u w'=>u=.tuple #[.string (ofL (getC k l).1),.bool (getC k l).2.1]∧St W0 w' F (CaL c rv (getC k l).2.2++L) I:=by
 refine ent145 _ _ _ _ ?_
 simp (disch:=first|omega|exact zF rfl|exact zG rfl|exact fun h=>h|(simp only[zA,zB,zC,zD,bytesW];omega)) only[go_sem]
 refine Ret.mono (place_ok k h hl) ?_
 rintro _ w2 ⟨rfl,b2⟩
 have s2:=h.call b2
 unfold getC
 cases hf:findK k l with
 | none =>
  rw [place_none hf]
  simp (disch:=first|omega|exact zF rfl|exact zG rfl|exact fun h=>h|(simp only[zA,zB,zC,zD,bytesW];omega)) only[go_sem]
  exact s2
 | some i =>
  obtain ⟨e1,hi,e2⟩:=place_some hf
  rw [e1]
  have hi':¬ (i:Int)<0:=by omega
  simp (disch:=first|omega|exact zF rfl|exact zG rfl|exact fun h=>h|(simp only[zA,zB,zC,zD,bytesW];omega)) only[go_sem,hi']
  refine Ret.mono (front_ok s2 hi hl) ?_
  rintro u w3 s3
  have eg:l.getD i (0,[])=l[i]:=by rw [List.getD_eq_getElem?_getD,List.getElem?_eq_getElem hi]; rfl
  simp only [eg]
  have hlen:(l[i]::l.eraseIdx i).length=l.length:=by rw [List.length_cons,List.length_eraseIdx,if_pos hi]; omega
  obtain ⟨g,cap,rfl,_⟩:=(s3.row 1 rfl).form (by rw [hlen]; omega)
  obtain ⟨k0,k1,k2⟩:=item_at (i:=0) (s3.row 1 rfl) (by rw [hlen]; omega)
  have r3:=s3.rules 0 rfl
  have h0:(0:Int)<(l[i]::l.eraseIdx i).length:=by rw [hlen]; omega
  have k1':w3.cell? ⟨g,1,none⟩=some (.string (ofL l[i].2)):=k1
  simp (disch:=first|omega|exact zF rfl|exact zG rfl|exact fun h=>h|(simp only[zA,zB,zC,zD,bytesW];omega)) only[go_sem,r3,h0,k1']
  exact ⟨by omega,s3⟩
def cutC(l:List It):List It:=if l.length<64 then l else l.eraseIdx (l.length - 1)
theorem cutC_sub(l:List It):(cutC l).Sublist l:=by
 unfold cutC
 split
 ·exact List.Sublist.refl _
 ·exact List.eraseIdx_sublist _ _
theorem cutC_len{l:List It}(h:l.length≤64):(cutC l).length≤63:=by
 unfold cutC
 split
 ·omega
 ·rw [List.length_eraseIdx]
  split <;> omega
theorem cput_ok{k:Int}{v:List UInt8}(h:St W0 w F (CaL c rv l++L) I)(hf:findK k l=none)(hl:l.length≤64) :
  Ret Tryz.prog 146 [.pointer (some ⟨c,0,none⟩),.int .i64 k,.string (ofL v)] w fun u w'=>∃ rv',St W0 w' F (CaL c rv' ((k,v)::cutC l)++L) I:=by
 refine ent146 _ _ _ _ _ ?_
 have r1:=h.rules 0 rfl
 simp (disch:=first|omega|exact zF rfl|exact zG rfl|exact fun h=>h|(simp only[zA,zB,zC,zD,bytesW];omega)) only[go_sem,c146L0,c146S4,c146S7,r1]
 refine Ret.mono (place_ok k h (by omega)) ?_
 rintro _ w2 ⟨rfl,b2⟩
 rw [place_none hf]
 have s2:=h.call b2
 have r2:=s2.rules 0 rfl
 simp (disch:=first|omega|exact zF rfl|exact zG rfl|exact fun h=>h|(simp only[zA,zB,zC,zD,bytesW];omega)) only[go_sem,c146L0,c146S4,c146S7,r2]
 refine c146draw0 ?_
 have s3:=s2.drew
 have r3:=s3.rules 0 rfl
 obtain ⟨a,cap,rfl,_⟩:=own_slice (s3.row 1 rfl)
 have key:∀ (w3:World) (a:Option Addr) (cap:Nat) (l:List It) (x9 x11:Value),l.length≤63→St W0 w3 F (CaL c (.slice a l.length cap) l++L) I→W Tryz.prog (sg c146S7) [(0,.pointer (some ⟨c,0,none⟩)),(1,.int .i64 k),(2,.string (ofL v)),(9,x9),(11,x11)] w3 (finQ Tryz.prog [.tmp 6,.tmp 7,.tmp 8] fun u w'=>∃ rv',St W0 w' F (CaL c rv' ((k,v)::l)++L) I):=by
  intro w3 a cap l x9 x11 hl s3
  have r3:=s3.rules 0 rfl
  simp (disch:=first|omega|exact zF rfl|exact zG rfl|exact fun h=>h|(simp only[zA,zB,zC,zD,bytesW];omega)) only[go_sem,c146L0,c146S4,c146S7,r3]
  refine bdW_built (cells:=(itE (k,v)).toArray) (by kernel_rfl) ?_
  simp (disch:=first|omega|exact zF rfl|exact zG rfl|exact fun h=>h|(simp only[zA,zB,zC,zD,bytesW];omega)) only[go_sem,c146L0,c146S4,c146S7]
  refine bsW_agg ty204mkI rfl (by decide) (by decide) ?_
  have s4:=s3.box (itE (k,v)).toArray 223
  simp (disch:=first|omega|exact zF rfl|exact zG rfl|exact fun h=>h|(simp only[zA,zB,zC,zD,bytesW];omega)) only[go_sem,c146L0,c146S4,c146S7]
  generalize w3.heap.size=y at s4 ⊢
  generalize w3.alloc (.cells (itE (k,v)).toArray 223)=w4 at s4 ⊢
  have s5:St W0 w4 F (.row (.slice a l.length cap) 223 3 l.length (l.flatMap itE)::.blk y (itE (k,v)).toArray 223::.blk c #[.int .i64 64,.slice a l.length cap] 206::L) I :=
   St.front (A:=[_,_]) (D:=[_]) (L:=L) s4
  refine Ret.mono (insert_ok s5 (by omega)) ?_
  rintro u w6 s6
  have s8:St W0 w6 F ([.blk c #[.int .i64 64,.slice a l.length cap] 206,.row u 223 3 (l.length+1) (((k,v)::l).flatMap itE)]++L) I:=by
   have:=s6.sub (L':=.row u 223 3 (l.length+1) (((k,v)::l).flatMap itE)::.blk c #[.int .i64 64,.slice a l.length cap] 206::L) (List.Sublist.cons_cons _ (List.sublist_cons_self _ _))
   exact St.front (A:=[_]) (D:=[_]) (L:=L) this
  obtain ⟨a8,cap8,rfl,_⟩:=own_slice (s8.row 1 rfl)
  have r8:=s8.rules 0 rfl
  simp (disch:=first|omega|exact zF rfl|exact zG rfl|exact fun h=>h|(simp only[zA,zB,zC,zD,bytesW];omega)) only[go_sem,c146L0,c146S4,c146S7,r8]
  exact ⟨_,s8.set 0 rfl 1 (.slice a8 (l.length+1) cap8)⟩
 by_cases h63:l.length<64
 ·have h64:¬ (64:Int)≤l.length:=by omega
  have ec:cutC l=l:=by unfold cutC; rw [if_pos h63]
  rw [ec]
  generalize w2.drew=w3 at s3 r3 ⊢
  simp (disch:=first|omega|exact zF rfl|exact zG rfl|exact fun h=>h|(simp only[zA,zB,zC,zD,bytesW];omega)) only[go_sem,c146L0,c146S4,c146D0,r3,h64]
  exact key _ _ _ _ _ _ (by omega) s3
 have h64:(64:Int)≤l.length:=by omega
 have ec:cutC l=l.eraseIdx (l.length - 1):=by unfold cutC; rw [if_neg h63]
 generalize w2.drew=w3 at s3 r3 ⊢
 simp (disch:=first|omega|exact zF rfl|exact zG rfl|exact fun h=>h|(simp only[zA,zB,zC,zD,bytesW];omega)) only[go_sem,c146D0,r3,h64]
 have hil:l.length - 1<l.length:=by omega
 have e63:(l.length:Int) - 1=((l.length - 1:Nat):Int):=by omega
 rw [e63]
 refine ⟨by constructor <;> omega,?_⟩
 refine W_loopU (fun _:Unit=>[]) (fun _ w'=>w'=w3) (fun _=>0) () rfl rfl ?_
 rintro _ _ rfl
 obtain ⟨g,cp,hg,_⟩:=(s3.row 1 rfl).form (by omega)
 cases hg
 obtain ⟨k0,k1,k2⟩:=item_at (i:=l.length - 1) (s3.row 1 rfl) hil
 rename_i w3
 have h0:(0:Int)≤((l.length - 1:Nat):Int):=by omega
 have h1:¬ ((l.length - 1:Nat):Int)<0:=by omega
 have h2:((l.length - 1:Nat):Int)<l.length:=by omega
 simp (disch:=first|omega|exact zF rfl|exact zG rfl|exact fun h=>h|(simp only[zA,zB,zC,zD,bytesW];omega)) only[go_sem,c146L0,c146S4,c146L0,r3,k0,k2,h0,h1,h2]
 refine ⟨by constructor <;> omega,Ret.mono (delete_ok (i:=l.length - 1) (St.front (A:=[_]) (D:=[_]) (L:=L) s3) hil (by omega)) ?_⟩
 rintro u w4 s4
 have s5:=St.front (A:=[_]) (D:=[.blk c #[.int .i64 64,.slice (some ⟨g,0,none⟩) l.length cap] 206]) (L:=L) s4
 obtain ⟨a5,cap5,rfl,_⟩:=own_slice (s5.row 1 rfl)
 have r5:=s5.rules 0 rfl
 have s6:=s5.set 0 rfl 1 (.slice a5 (l.eraseIdx (l.length - 1)).length cap5)
 simp (disch:=first|omega|exact zF rfl|exact zG rfl|exact fun h=>h|(simp only[zA,zB,zC,zD,bytesW];omega)) only[go_sem,c146L0,c146S4,r5]
 rw [ec]
 have hl63:=cutC_len hl
 rw [ec] at hl63
 exact key _ _ _ _ _ _ hl63 s6
def dropK(k:Int)(l:List It):List It:=match findK k l with | some i=>l.eraseIdx i | none=>l
theorem cdrop_ok(k:Int)(h:St W0 w F (CaL c rv l++L) I)(hl:l.length≤1000000) :
  Ret Tryz.prog 131 [.pointer (some ⟨c,0,none⟩),.int .i64 k] w fun u w'=>∃ rv',St W0 w' F (CaL c rv' (dropK k l)++L) I:=by
 unfold dropK
 refine ent131 _ _ _ _ ?_
 simp (disch:=first|omega|exact zF rfl|exact zG rfl|exact fun h=>h|(simp only[zA,zB,zC,zD,bytesW];omega)) only[go_sem]
 refine Ret.mono (place_ok k h hl) ?_
 rintro _ w2 ⟨rfl,b2⟩
 have s2:=h.call b2
 have r2:=s2.rules 0 rfl
 cases hf:findK k l with
 | none =>
  rw [place_none hf]
  simp (disch:=first|omega|exact zF rfl|exact zG rfl|exact fun h=>h|(simp only[zA,zB,zC,zD,bytesW];omega)) only[go_sem]
  exact ⟨rv,s2⟩
 | some i =>
  obtain ⟨e1,hi,e2⟩:=place_some hf
  rw [e1]
  have hi':(0:Int)≤(i:Int):=by omega
  obtain ⟨a,cap,rfl,_⟩:=own_slice (s2.row 1 rfl)
  simp (disch:=first|omega|exact zF rfl|exact zG rfl|exact fun h=>h|(simp only[zA,zB,zC,zD,bytesW];omega)) only[go_sem,hi',r2]
  refine ⟨by constructor <;> omega,Ret.mono (delete_ok (St.front (A:=[_]) (D:=[_]) (L:=L) s2) hi hl) ?_⟩
  rintro u w3 s3
  have s4:=St.front (A:=[_]) (D:=[.blk c #[.int .i64 64,.slice a l.length cap] 206]) (L:=L) s3
  obtain ⟨a4,cap4,rfl,_⟩:=own_slice (s4.row 1 rfl)
  have r4:=s4.rules 0 rfl
  simp (disch:=first|omega|exact zF rfl|exact zG rfl|exact fun h=>h|(simp only[zA,zB,zC,zD,bytesW];omega)) only[go_sem,r4]
  exact ⟨_,s4.set 0 rfl 1 (.slice a4 (l.eraseIdx i).length cap4)⟩
end
open Go Go.Ann Go.RowKit Go.WideShapes
def nowP(s:Sto)(i:Int):List UInt8:=(stRead s i).2.1
def pgs(s:Sto):List (List UInt8):=(List.range s.hd.pages).map fun i:Nat=>nowP s i
theorem pgs_len(s:Sto):(pgs s).length=s.hd.pages:=by unfold pgs; simp
theorem pgs_get{s:Sto}{i:Nat}(h:i<(pgs s).length):(pgs s)[i]=nowP s i:=by simp [pgs]
structure Live(s:Sto)(l:List It):Prop where
 ok:s.ok
 dead:s.dead=false
 gone:s.disk.gone=false
 few:s.hd.pages≤500
 room:l.length≤64
 nd:(l.map Prod.fst).Nodup
 kept:∀ x∈l,0≤x.1∧x.1<s.hd.pages∧x.2=nowP s x.1
theorem getM_set{κ ν:Type}[DecidableEq κ](a b:κ)(v:ν)(c:Nat):∀ l:List (κ × ν × Nat),getM b (setM a v c l)=if b=a then some v else getM b l
 | []=>by simp only [setM,getM]
 | x::l=>by
  simp only [setM]
  by_cases h:a=x.1
  ·rw [if_pos h]
   simp only [getM]
   by_cases h2:b=x.1
   ·rw [if_pos h2,if_pos (h2.trans h.symm)]
   ·rw [if_neg h2,if_neg h2,if_neg (fun e=>h2 (e.trans h))]
  ·rw [if_neg h]
   simp only [getM]
   by_cases h2:b=x.1
   ·rw [if_pos h2,if_pos h2,if_neg (fun e=>h (e.symm.trans h2))]
   ·rw [if_neg h2,if_neg h2,getM_set a b v c l]
theorem setM_mem{κ ν:Type}[DecidableEq κ]{a:κ}{v:ν}{c:Nat}:∀ {l:List (κ × ν × Nat)} {x:κ × ν × Nat},x∈setM a v c l→(x=(a,v,c)∧getM a l=none)∨(∃ y∈l,x.1=y.1∧x.2.2=y.2.2∧(x=y∨x=(y.1,v,y.2.2)∧a=y.1))
 | [],x,h=>by simp only [setM,List.mem_singleton] at h; exact .inl ⟨h,rfl⟩
 | y::l,x,h=>by
  simp only [setM] at h
  split at h
  ·rename_i e
   rcases List.mem_cons.1 h with rfl | h
   ·exact .inr ⟨y,List.mem_cons_self ..,rfl,rfl,.inr ⟨rfl,e⟩⟩
   ·exact .inr ⟨x,List.mem_cons_of_mem _ h,rfl,rfl,.inl rfl⟩
  ·rename_i hne
   rcases List.mem_cons.1 h with rfl | h
   ·exact .inr ⟨x,List.mem_cons_self ..,rfl,rfl,.inl rfl⟩
   ·rcases setM_mem h with ⟨h,hn⟩ | ⟨z,hz,h⟩
    ·exact .inl ⟨h,by simp only [getM]; rw [if_neg hne]; exact hn⟩
    ·exact .inr ⟨z,List.mem_cons_of_mem _ hz,h⟩
theorem setM_keys{κ ν:Type}[DecidableEq κ]{a:κ}{v:ν}{c:Nat}:∀ {l:List (κ × ν × Nat)},(setM a v c l).map Prod.fst=if (getM a l).isSome then l.map Prod.fst else l.map Prod.fst++[a]
 | []=>rfl
 | x::l=>by
  simp only [setM,getM]
  split
  ·simp
  ·simp only [List.map_cons,setM_keys (l:=l)]
   split <;> simp
theorem setM_born{κ ν:Type}[DecidableEq κ]{a:κ}{v:ν}{c:Nat}:∀ {l:List (κ × ν × Nat)},(setM a v c l).map (fun x=>x.2.2)=if (getM a l).isSome then l.map (fun x=>x.2.2) else l.map (fun x=>x.2.2)++[c]
 | []=>rfl
 | x::l=>by
  simp only [setM,getM]
  split
  ·simp
  ·simp only [List.map_cons,setM_born (l:=l)]
   split <;> simp
theorem getM_none{κ ν:Type}[DecidableEq κ]{a:κ}:∀ {l:List (κ × ν × Nat)},getM a l=none→a ∉ l.map Prod.fst
 | [],_=>by simp
 | x::l,h=>by
  simp only [getM] at h
  split at h
  ·cases h
  ·rename_i hne
   simp only [List.map_cons,List.mem_cons,not_or]
   exact ⟨hne,getM_none h⟩
section
variable {s:Sto}
theorem stReady_ok{i:Int}(hd:s.dead=false)(h0:0≤i)(h1:i<s.hd.pages):stReady s i=0:=by
 unfold stReady
 rw [if_neg (by rw [hd]; decide),if_pos ⟨h0,h1⟩]
theorem home_ready{i:Int}(ok:s.ok)(hg:s.disk.gone=false)(h0:0≤i)(h1:i<s.hd.pages):readyN s.disk (homeN s i)=0:=by
 have:=ok.fit
 unfold readyN homeN
 rw [if_neg (by rw [hg]; decide),if_pos (by omega)]
theorem nowP_eq{i:Int}(ok:s.ok)(hd:s.dead=false)(hg:s.disk.gone=false)(h0:0≤i)(h1:i<s.hd.pages) :
  stRead s i=(s,nowP s i,0)∧nowP s i=(getM i s.dirty).getD (lastL s.disk.late (homeN s i) (s.disk.safe.getD (homeN s i).toNat [])):=by
 have e1:=stReady_ok hd h0 h1
 have e2:=home_ready ok hg h0 h1
 have e3:readN s.disk (homeN s i)=(lastL s.disk.late (homeN s i) (s.disk.safe.getD (homeN s i).toNat []),0):=by unfold readN; rw [if_pos e2]
 unfold nowP stRead
 rw [if_neg (by omega)]
 cases hm:getM i s.dirty with
 | some x=>exact ⟨rfl,rfl⟩
 | none=>simp only [e3]; exact ⟨rfl,rfl⟩
theorem nowP_len{i:Int}(ok:s.ok)(hd:s.dead=false)(hg:s.disk.gone=false)(h0:0≤i)(h1:i<s.hd.pages):(nowP s i).length=256:=by
 rw [(nowP_eq ok hd hg h0 h1).2]
 cases hm:getM i s.dirty with
 | some x =>
  have:∃ b,(i,x,b)∈s.dirty:=by
   revert hm
   generalize s.dirty=l
   induction l with
   | nil=>intro h; cases h
   | cons y l ih =>
    intro h
    simp only [getM] at h
    split at h
    ·rename_i e
     simp only [Option.some.injEq] at h
     exact ⟨y.2.2,by rw [e,← h]; exact List.mem_cons_self ..⟩
    ·obtain ⟨b,hb⟩:=ih h
     exact ⟨b,List.mem_cons_of_mem _ hb⟩
  obtain ⟨b,hb⟩:=this
  exact (ok.keys _ hb).2.2
 | none =>
  refine lastL_256 ?_ fun x hx=>(ok.disk.late x hx).2.2
  have:=ok.fit
  have hh:homeN s i=2+s.hd.room+i:=rfl
  rw [List.getD_eq_getElem?_getD,List.getElem?_eq_getElem (by omega)]
  exact ok.disk.safe _ (List.getElem_mem _)
theorem stWrite_in{i:Int}{d:List UInt8}(ok:s.ok)(hd:s.dead=false)(hg:s.disk.gone=false)(h0:0≤i)(h1:i<s.hd.pages)(hl:d.length≤256) :
  (stWrite s i d).2=0∧(stWrite s i d).1.ok∧(stWrite s i d).1.dead=false∧(stWrite s i d).1.disk=s.disk∧(stWrite s i d).1.hd=s.hd∧∀ j:Int,0≤j→j<s.hd.pages→nowP (stWrite s i d).1 j=if j=i then filledL d else nowP s j:=by
 have e1:=stReady_ok hd h0 h1
 have e:stWrite s i d=({ s with dirty:=setM i (filledL d) s.clock s.dirty,clock:=if (getM i s.dirty).isSome then s.clock else s.clock+1 },0):=by
  unfold stWrite
  rw [if_neg (by omega),if_neg (by omega)]
 have ok':(stWrite s i d).1.ok:=by
  rw [e]
  refine ⟨ok.hd,ok.disk,ok.room,ok.pages,ok.few,ok.fit,fun x hx=>?_,?_,?_,fun x hx=>?_⟩
  ·rcases setM_mem hx with ⟨rfl,_⟩ | ⟨y,hy,h2,h3,rfl | ⟨h4,h5⟩⟩
   ·exact ⟨h0,h1,filledL_length hl⟩
   ·exact ok.keys _ hy
   ·rw [h4]; exact ⟨(ok.keys _ hy).1,(ok.keys _ hy).2.1,filledL_length hl⟩
  ·show ((setM i (filledL d) s.clock s.dirty).map Prod.fst).Nodup
   rw [setM_keys]
   split
   ·exact ok.nd
   ·rename_i hn
    rw [List.nodup_append]
    refine ⟨ok.nd,List.pairwise_singleton _ _,fun a ha b hb=>?_⟩
    rw [List.mem_singleton] at hb
    subst hb
    have:=getM_none (a:=b) (l:=s.dirty) (by simpa using hn)
    exact fun e=>this (e ▸ ha)
  ·show ((setM i (filledL d) s.clock s.dirty).map fun x=>x.2.2).Nodup
   rw [setM_born]
   split
   ·exact ok.born
   ·rw [List.nodup_append]
    refine ⟨ok.born,List.pairwise_singleton _ _,fun a ha b hb=>?_⟩
    rw [List.mem_singleton] at hb
    subst hb
    obtain ⟨x,hx,rfl⟩:=List.mem_map.1 ha
    have:=ok.clock x hx
    omega
  ·show x.2.2<if (getM i s.dirty).isSome then s.clock else s.clock+1
   rcases setM_mem hx with ⟨rfl,hn⟩ | ⟨y,hy,_,h3,_⟩
   ·rw [hn]
    exact Nat.lt_succ_self _
   ·have:=ok.clock y hy
    rw [h3]
    split <;> omega
 refine ⟨by rw [e],ok',by rw [e]; exact hd,by rw [e],by rw [e],fun j hj0 hj1=>?_⟩
 have g1:=(nowP_eq ok hd hg hj0 hj1).2
 have g2:=(nowP_eq (s:=(stWrite s i d).1) ok' (by rw [e]; exact hd) (by rw [e]; exact hg) hj0 (by rw [e]; exact hj1)).2
 rw [g2,g1,e]
 show (getM j (setM i (filledL d) s.clock s.dirty)).getD _=_
 rw [getM_set]
 split
 ·rfl
 ·rfl
end
structure En where
 p:Nat
 b:Nat
 mb:Nat
 g:Nat
 c:Nat
 vb:Value
 vl:Value
 hd:Hd
 m:Dk
 mx:Nat
def PgL(e:En)(rv:Value)(l:List It)(s:Sto):List Res :=
 [.blk e.p #[.pointer (some ⟨e.b,0,none⟩),.pointer (some ⟨e.c,0,none⟩)] 98]++(StoL e.b e.mb e.g e.vb e.vl s++CaL e.c rv l)
theorem St.mid{W0 w:World}{F:Nat→Prop}{A B C L:List Res}{I:List Inv}(h:St W0 w F (A++(B++C)++L) I):St W0 w F (B++((A++C)++L)) I :=
 h.perm (by
  have:=(List.perm_append_comm (l₁:=B) (l₂:=A)).append_right (C++L)
  simpa only [List.append_assoc] using this)
theorem St.unmid{W0 w:World}{F:Nat→Prop}{A B C L:List Res}{I:List Inv}(h:St W0 w F (B++((A++C)++L)) I):St W0 w F (A++(B++C)++L) I :=
 h.perm (by
  have:=(List.perm_append_comm (l₁:=A) (l₂:=B)).append_right (C++L)
  simpa only [List.append_assoc] using this)
theorem St.last{W0 w:World}{F:Nat→Prop}{A B C L:List Res}{I:List Inv}(h:St W0 w F (A++(B++C)++L) I):St W0 w F (C++((A++B)++L)) I :=
 h.perm (by
  have:=(List.perm_append_comm (l₁:=C) (l₂:=A++B)).append_right L
  simpa only [List.append_assoc] using this)
theorem St.unlast{W0 w:World}{F:Nat→Prop}{A B C L:List Res}{I:List Inv}(h:St W0 w F (C++((A++B)++L)) I):St W0 w F (A++(B++C)++L) I :=
 h.perm (by
  have:=(List.perm_append_comm (l₁:=A++B) (l₂:=C)).append_right L
  simpa only [List.append_assoc] using this)
def LowD(s:Sto)(mx:Nat):Prop:=2≤mx∧∀ x∈s.dirty,x.1<mx
theorem stWrite_low{s:Sto}{i:Int}{d:List UInt8}{mx:Nat}(h:LowD s mx)(hi:i<mx):LowD (stWrite s i d).1 mx:=by
 unfold stWrite
 split
 ·exact h
 ·split
  ·exact h
  ·refine ⟨h.1,fun x hx=>?_⟩
   rcases setM_mem hx with ⟨rfl,_⟩ | ⟨y,hy,h2,_,_⟩
   ·exact hi
   ·rw [h2]; exact h.2 y hy
def Pgr(e:En)(P:List (List UInt8))(W0 w:World)(F:Nat→Prop)(L:List Res)(I:List Inv):Prop :=
 ∃ rv l s,St W0 w F (PgL e rv l s++L) I∧Live s l∧s.hd=e.hd∧s.disk=e.m∧LowD s e.mx∧pgs s=P
theorem nodup_few:∀ (n:Nat) (l:List Int),l.Nodup→(∀ x∈l,0≤x∧x<n)→l.length≤n
 | 0,l,_,h=>by
  cases l with
  | nil=>exact Nat.le_refl _
  | cons x l=>have:=h x (List.mem_cons_self ..); omega
 | n+1,l,hn,h=>by
  by_cases hm:(n:Int)∈l
  ·have h1:=nodup_few n (l.erase n) (hn.erase _) fun x hx=>by
    have h2:=h x (List.mem_of_mem_erase hx)
    have h3:x≠(n:Int):=fun e=>by subst e; exact (List.Nodup.not_mem_erase hn) hx
    omega
   rw [List.length_erase_of_mem hm] at h1
   have:0<l.length:=List.length_pos_of_mem hm
   omega
  ·have h1:=nodup_few n l hn fun x hx=>by
    have h2:=h x hx
    have h3:x≠(n:Int):=fun e=>hm (e ▸ hx)
    omega
   omega
theorem Live.len{s:Sto}{l:List It}(h:Live s l):l.length≤s.hd.pages:=by
 have:=nodup_few s.hd.pages (l.map Prod.fst) h.nd fun x hx=>by
  obtain ⟨y,hy,rfl⟩:=List.mem_map.1 hx
  exact ⟨(h.kept y hy).1,(h.kept y hy).2.1⟩
 rwa [List.length_map] at this
theorem get_erase_perm{α:Type}:∀ {l:List α} {i:Nat} (hi:i<l.length),(l[i]::l.eraseIdx i).Perm l
 | a::l,0,_=>List.Perm.refl _
 | a::l,i+1,hi=>by
  have:=get_erase_perm (l:=l) (i:=i) (by simpa using hi)
  simp only [List.getElem_cons_succ,List.eraseIdx_cons_succ]
  exact (List.Perm.swap _ _ _).trans (this.cons a)
theorem Live.front{s:Sto}{l:List It}{i:Nat}(h:Live s l)(hi:i<l.length):Live s (l[i]::l.eraseIdx i) :=
 ⟨h.ok,h.dead,h.gone,h.few,by rw [(get_erase_perm hi).length_eq]; exact h.room,((get_erase_perm hi).map Prod.fst).nodup_iff.2 h.nd,fun x hx=>h.kept x ((get_erase_perm hi).subset hx)⟩
theorem Live.erase{s:Sto}{l:List It}(h:Live s l)(i:Nat):Live s (l.eraseIdx i) :=
 ⟨h.ok,h.dead,h.gone,h.few,Nat.le_trans (List.eraseIdx_sublist l i).length_le h.room,h.nd.sublist ((List.eraseIdx_sublist l i).map _),fun x hx=>h.kept x ((List.eraseIdx_sublist l i).subset hx)⟩
theorem findK_none{k:Int}{l:List It}(h:findK k l=none):∀ x∈l,x.1≠k:=by
 unfold findK at h
 rw [List.findIdx?_eq_none_iff] at h
 intro x hx
 simpa using h x hx
theorem pgs_now{s:Sto}{P:List (List UInt8)}(e:pgs s=P){i:Int}(h0:0≤i)(h1:i<P.length):nowP s i=P.getD i.toNat []∧i<s.hd.pages:=by
 subst e
 have hl:=pgs_len s
 refine ⟨?_,by omega⟩
 rw [List.getD_eq_getElem?_getD,List.getElem?_eq_getElem (by omega),Option.getD_some,pgs_get]
 congr 1; omega
theorem pgs_eq{s:Sto}{P:List (List UInt8)}(hl:P.length=s.hd.pages)(h:∀ i:Nat,i<P.length→nowP s i=P.getD i []):pgs s=P:=by
 refine List.ext_getElem (by rw [pgs_len,hl]) fun i h1 h2=>?_
 rw [pgs_get,h i h2,List.getD_eq_getElem?_getD,List.getElem?_eq_getElem h2]; rfl
section
variable {W0 w:World} {F:Nat→Prop} {L:List Res} {I:List Inv} {e:En} {P:List (List UInt8)}
theorem Pgr.below(h:Pgr e P W0 w F L I){w':World}(hb:Below w.heap.size w w'):Pgr e P W0 w' F L I:=by
 obtain ⟨rv,l,s,h1,h2⟩:=h
 exact ⟨rv,l,s,h1.call hb,h2⟩
theorem Pgr.drew(h:Pgr e P W0 w F L I):Pgr e P W0 w.drew F L I:=by
 obtain ⟨rv,l,s,h1,h2⟩:=h
 exact ⟨rv,l,s,h1.drew,h2⟩
theorem Pgr.len(h:Pgr e P W0 w F L I):P.length=e.hd.pages∧P.length≤500:=by
 obtain ⟨rv,l,s,h1,h2,h3,h4,h0,h5⟩:=h
 have:=h2.few
 rw [← h5,pgs_len,h3]
 rw [h3] at this
 exact ⟨rfl,this⟩
theorem Pgr.full(h:Pgr e P W0 w F L I):∀ x∈P,x.length=256:=by
 obtain ⟨rv,l,s,h1,h2,h3,h4,h0,h5⟩:=h
 subst h5
 intro x hx
 obtain ⟨i,hi,rfl⟩:=List.mem_map.1 hx
 rw [List.mem_range] at hi
 exact nowP_len h2.ok h2.dead h2.gone (by omega) (by omega)
theorem pread_ok(i:Int)(h:Pgr e P W0 w F L I)(h0:0≤i)(h1:i<P.length) :
  Ret Tryz.prog 97 [.pointer (some ⟨e.p,0,none⟩),.int .i64 i] w fun u w'=>u=.tuple #[.string (ofL (P.getD i.toNat [])),.int .i64 0]∧Pgr e P W0 w' F L I:=by
 obtain ⟨rv,l,s,hs,hv,e1,e2,e0,e3⟩:=h
 obtain ⟨en,hlt⟩:=pgs_now e3 h0 h1
 have hll:=hv.len
 have hfw:=hv.few
 have r1:=hs.rules 0 rfl
 refine ent97 _ _ _ _ ?_
 simp (disch:=first|omega|exact zF rfl|exact zG rfl|exact fun h=>h|(simp only[zA,zB,zC,zD,bytesW];omega)) only[go_sem,r1]
 refine Ret.mono (cget_ok i (St.last hs) (by omega)) ?_
 rintro _ w2 ⟨rfl,s2⟩
 cases hf:findK i l with
 | some j =>
  obtain ⟨_,hj,hk⟩:=place_some hf
  have eg:l.getD j (0,[])=l[j]:=by rw [List.getD_eq_getElem?_getD,List.getElem?_eq_getElem hj]; rfl
  have ec:getC i l=(l[j].2,true,l[j]::l.eraseIdx j):=by unfold getC; rw [hf]; simp only [eg]
  rw [ec] at s2 ⊢
  simp (disch:=first|omega|exact zF rfl|exact zG rfl|exact fun h=>h|(simp only[zA,zB,zC,zD,bytesW];omega)) only[go_sem]
  refine ⟨?_,rv,_,s,St.unlast s2,hv.front hj,e1,e2,e0,e3⟩
  rw [(hv.kept l[j] (List.getElem_mem hj)).2.2,hk,en]
 | none =>
  have ec:getC i l=([],false,l):=by unfold getC; rw [hf]
  rw [ec] at s2 ⊢
  have s2':=St.unlast s2
  have r2:=s2'.rules 0 rfl
  simp (disch:=first|omega|exact zF rfl|exact zG rfl|exact fun h=>h|(simp only[zA,zB,zC,zD,bytesW];omega)) only[go_sem,r2]
  refine Ret.mono (sread_ok i (St.mid s2') hv.ok) ?_
  rintro _ w3 ⟨rfl,s3⟩
  have hq:=(nowP_eq hv.ok hv.dead hv.gone h0 hlt).1
  rw [hq] at s3 ⊢
  have s3':=St.unmid s3
  have r3:=s3'.rules 0 rfl
  have hnk:=findK_none hf
  simp (disch:=first|omega|exact zF rfl|exact zG rfl|exact fun h=>h|(simp only[zA,zB,zC,zD,bytesW];omega)) only[go_sem,r3]
  refine Ret.mono (cput_ok (v:=nowP s i) (St.last s3') hf hv.room) ?_
  rintro u w4 ⟨rv',s4⟩
  simp (disch:=first|omega|exact zF rfl|exact zG rfl|exact fun h=>h|(simp only[zA,zB,zC,zD,bytesW];omega)) only[go_sem]
  have hsub:=cutC_sub l
  refine ⟨by rw [en],rv',_,s,St.unlast s4,⟨hv.ok,hv.dead,hv.gone,hv.few,by have:=cutC_len hv.room; rw [List.length_cons]; show (cutC l).length+1≤64; omega,?_,?_⟩,e1,e2,e0,e3⟩
  ·rw [List.map_cons,List.nodup_cons]
   refine ⟨fun hm=>?_,hv.nd.sublist (hsub.map _)⟩
   obtain ⟨y,hy,he⟩:=List.mem_map.1 hm
   exact hnk y (hsub.subset hy) he
  ·intro x hx
   rcases List.mem_cons.1 hx with rfl | hx
   ·exact ⟨h0,hlt,rfl⟩
   ·exact hv.kept x (hsub.subset hx)
theorem Pgr.two(h:Pgr e P W0 w F L I):2≤e.mx:=by
 obtain ⟨rv,l,s,h1,h2,h3,h4,h0,h5⟩:=h
 exact h0.1
theorem pwrite_ok(i:Int)(d:List UInt8)(h:Pgr e P W0 w F L I)(h0:0≤i)(h1:i<P.length)(hm:i<e.mx) :
  Ret Tryz.prog 70 [.pointer (some ⟨e.p,0,none⟩),.int .i64 i,.string (ofL d)] w fun u w'=>u=.int .i64 (if 256<d.length then 21 else 0)∧Pgr e (if 256<d.length then P else P.set i.toNat (filledL d)) W0 w' F L I:=by
 obtain ⟨rv,l,s,hs,hv,e1,e2,e0,e3⟩:=h
 obtain ⟨en,hlt⟩:=pgs_now e3 h0 h1
 have hll:=hv.len
 have hfw:=hv.few
 have r1:=hs.rules 0 rfl
 refine ent70 _ _ _ _ _ ?_
 simp (disch:=first|omega|exact zF rfl|exact zG rfl|exact fun h=>h|(simp only[zA,zB,zC,zD,bytesW];omega)) only[go_sem,r1]
 refine Ret.mono (cdrop_ok i (St.last hs) (by omega)) ?_
 rintro u w2 ⟨rv',s2⟩
 have hv2:∃ l',dropK i l=l'∧Live s l'∧∀ x∈l',x.1≠i:=by
  refine ⟨_,rfl,?_⟩
  unfold dropK
  cases hf:findK i l with
  | none=>exact ⟨hv,findK_none hf⟩
  | some j =>
   obtain ⟨_,hj,hk⟩:=place_some hf
   refine ⟨hv.erase j,fun x hx he=>?_⟩
   have hn:=((get_erase_perm hj).map Prod.fst).nodup_iff.2 hv.nd
   rw [List.map_cons,List.nodup_cons] at hn
   exact hn.1 (by rw [hk,← he]; exact List.mem_map_of_mem hx)
 obtain ⟨l',el,hv2,hne⟩:=hv2
 rw [el] at s2
 have s2':=St.unlast s2
 have r2:=s2'.rules 0 rfl
 simp (disch:=first|omega|exact zF rfl|exact zG rfl|exact fun h=>h|(simp only[zA,zB,zC,zD,bytesW];omega)) only[go_sem,r2]
 refine Ret.mono (swrite_ok i d (St.mid s2')) ?_
 rintro _ w3 ⟨rfl,s3⟩
 have s3':=St.unmid s3
 simp (disch:=first|omega|exact zF rfl|exact zG rfl|exact fun h=>h|(simp only[zA,zB,zC,zD,bytesW];omega)) only[go_sem]
 by_cases hd:256<d.length
 ·have ew:stWrite s i d=(s,21):=by
   unfold stWrite
   rw [if_neg (by rw [stReady_ok hv.dead h0 hlt]; decide),if_pos hd]
  rw [ew] at s3' ⊢
  rw [if_pos hd,if_pos hd]
  exact ⟨rfl,rv',l',s,s3',hv2,e1,e2,e0,e3⟩
 ·obtain ⟨w1,w2,w3,w4,w5,w6⟩:=stWrite_in hv.ok hv.dead hv.gone h0 hlt (d:=d) (by omega)
  rw [w1,if_neg hd,if_neg hd]
  refine ⟨rfl,rv',l',_,s3',⟨w2,w3,by rw [w4]; exact hv.gone,by rw [w5]; exact hv.few,hv2.room,hv2.nd,fun x hx=>?_⟩,w5.trans e1,w4.trans e2,stWrite_low e0 hm,?_⟩
  ·obtain ⟨k0,k1,k2⟩:=hv2.kept x hx
   refine ⟨k0,by rw [w5]; exact k1,?_⟩
   rw [w6 _ k0 k1,if_neg (hne x hx)]
   exact k2
  ·have hpl:P.length=s.hd.pages:=by rw [← e3,pgs_len]
   refine pgs_eq (by rw [w5,List.length_set,hpl]) fun j hj=>?_
   rw [List.length_set] at hj
   rw [w6 j (by omega) (by omega)]
   have:=(pgs_now e3 (i:=(j:Int)) (by omega) (by omega)).1
   by_cases he:(j:Int)=i
   ·rw [if_pos he]
    subst he
    rw [List.getD_eq_getElem?_getD,Int.toNat_natCast,List.getElem?_set_self hj]; rfl
   ·rw [if_neg he,this,List.getD_eq_getElem?_getD,List.getD_eq_getElem?_getD,List.getElem?_set_ne (by omega),Int.toNat_natCast]
end
open Go Go.Ann Go.RowKit Go.WideShapes
def usedP(P:List (List UInt8)):List UInt8:=P.getD 0 []
def chkN(P:List (List UInt8))(i:Int):Int:=if 2≤i∧i<P.length∧hasL (usedP P) i=true then 0 else 6
def markP(P:List (List UInt8))(i:Int)(b:Bool):List (List UInt8):=P.set 0 (filledL (withL (usedP P) i b))
def emptyP(P:List (List UInt8))(i:Int):List (List UInt8):=P.set i.toNat (filledL [])
def cntN(U:List UInt8)(m:Nat):Nat:=((List.range m).filter fun j:Nat=>hasL U j).length
theorem cntN_succ(U:List UInt8)(m:Nat):cntN U (m+1)=cntN U m+if hasL U m=true then 1 else 0:=by
 unfold cntN
 rw [List.range_succ,List.filter_append,List.length_append]
 congr 1
 by_cases h:hasL U m=true
 ·rw [if_pos h]; simp only [List.filter_cons,List.filter_nil,h]; rfl
 ·rw [if_neg h]; simp only [List.filter_cons,List.filter_nil,h]; rfl
theorem cntN_le(U:List UInt8)(m:Nat):cntN U m≤m:=by
 unfold cntN
 exact Nat.le_trans (List.length_filter_le _ _) (by simp)
theorem cnt8(U:List UInt8):∀ k,k≤U.length→cntN U (8 * k)=countL (U.take k)
 | 0,_=>by simp [cntN,countL]
 | k+1,h=>by
  rw [countL_take U k (by omega),← cnt8 U k (by omega)]
  unfold cntN popN
  rw [show 8 * (k+1)=8 * k+8 by omega,List.range_add,List.filter_append,List.length_append,List.filter_map,List.length_map]
  congr 2
  refine List.filter_congr fun r hr=>?_
  rw [List.mem_range] at hr
  have hl:=hasL_in U ((8 * k+r:Nat):Int) (by omega)
  rw [Function.comp_apply,hl]
  congr 1
  ·congr 1; omega
  ·omega
def roomN(P:List (List UInt8)):Nat:=P.length - cntN (usedP P) P.length
def lowP(P:List (List UInt8)):Option Nat:=(List.range P.length).find? fun i:Nat=>decide (2≤i) && !hasL (usedP P) i
theorem low_same{P:List (List UInt8)}{v:Int}{ok:Bool}(hu:(usedP P).length=256)(hp:P.length≤500)(h:IsLow (usedP P) 2 P.length v ok) :
  (lowP P=none∧ok=false)∨(∃ k:Nat,lowP P=some k∧v=k∧ok=true∧2≤k∧k<P.length):=by
 rcases h with ⟨rfl,h1,h2,h3,h4,h5,h6⟩ | ⟨rfl,rfl,h6⟩
 ·refine .inr ⟨v.toNat,?_,by omega,rfl,by omega,by omega⟩
  unfold lowP
  rw [List.find?_range_eq_some]
  refine ⟨?_,?_,?_⟩
  ·rw [show ((v.toNat:Nat):Int)=v by omega,h5]; simp; omega
  ·rw [List.mem_range]; omega
  ·intro j hj
   by_cases h2j:2≤j
   ·rw [h6 j (by omega) (by omega) (by omega)]; simp
   ·simp [h2j]
 ·refine .inl ⟨?_,rfl⟩
  unfold lowP
  rw [List.find?_eq_none]
  intro j hj
  rw [List.mem_range] at hj
  by_cases h2j:2≤j
  ·rw [h6 j (by omega) (by omega) (by omega) (by omega)]; simp
  ·simp [h2j]
section
variable {W0 w:World} {F:Nat→Prop} {L:List Res} {I:List Inv} {e:En} {P:List (List UInt8)}
theorem Pgr.blk(h:Pgr e P W0 w F L I):Blk w e.p #[.pointer (some ⟨e.b,0,none⟩),.pointer (some ⟨e.c,0,none⟩)] 98:=by
 obtain ⟨rv,l,s,hs,_⟩:=h
 exact hs.blk 0 rfl
theorem pslen_ok(h:Pgr e P W0 w F L I) :
  Ret Tryz.prog 47 [.pointer (some ⟨e.b,0,none⟩)] w fun u w'=>u=.int .i64 P.length∧w'=w:=by
 obtain ⟨rv,l,s,hs,hv,e1,e2,e0,e3⟩:=h
 refine Ret.mono (slen_ok (St.mid hs)) ?_
 rintro _ w2 ⟨rfl,e⟩
 exact ⟨by rw [← e3,pgs_len],e⟩
theorem made_ok(h:Pgr e P W0 w F L I) :
  Ret Tryz.prog 96 [.pointer (some ⟨e.p,0,none⟩)] w fun u w'=>u=.bool true∧w'=w:=by
 have r1:=h.blk.rules
 refine ent96 _ _ _ ?_
 simp (disch:=first|omega|exact zF rfl|exact zG rfl|exact fun h=>h|(simp only[zA,zB,zC,zD,bytesW];omega)) only[go_sem,r1]
theorem used_ok(h:Pgr e P W0 w F L I)(h3:3≤P.length) :
  Ret Tryz.prog 46 [.pointer (some ⟨e.p,0,none⟩)] w fun u w'=>u=.tuple #[.string (ofL (usedP P)),.int .i64 0]∧Pgr e P W0 w' F L I:=by
 refine ent46 _ _ _ ?_
 simp (disch:=first|omega|exact zF rfl|exact zG rfl|exact fun h=>h|(simp only[zA,zB,zC,zD,bytesW];omega)) only[go_sem]
 refine Ret.mono (made_ok h) ?_
 rintro _ w2 ⟨rfl,e2⟩
 subst w2
 simp (disch:=first|omega|exact zF rfl|exact zG rfl|exact fun h=>h|(simp only[zA,zB,zC,zD,bytesW];omega)) only[go_sem]
 refine Ret.mono (pread_ok 0 h (by decide) (by omega)) ?_
 rintro _ w2 ⟨rfl,h2⟩
 simp (disch:=first|omega|exact zF rfl|exact zG rfl|exact fun h=>h|(simp only[zA,zB,zC,zD,bytesW];omega)) only[go_sem]
 first | exact h2 | exact ⟨rfl,h2⟩
theorem Pgr.used256(h:Pgr e P W0 w F L I)(h3:3≤P.length):(usedP P).length=256:=by
 refine h.full _ ?_
 unfold usedP
 rw [List.getD_eq_getElem?_getD,List.getElem?_eq_getElem (by omega)]
 exact List.getElem_mem _
theorem check_ok(i:Int)(h:Pgr e P W0 w F L I)(h3:3≤P.length)(hi:I64 i) :
  Ret Tryz.prog 69 [.pointer (some ⟨e.p,0,none⟩),.int .i64 i] w fun u w'=>u=.int .i64 (chkN P i)∧Pgr e P W0 w' F L I:=by
 refine ent69 _ _ _ _ ?_
 simp (disch:=first|omega|exact zF rfl|exact zG rfl|exact fun h=>h|(simp only[zA,zB,zC,zD,bytesW];omega)) only[go_sem]
 refine Ret.mono (used_ok h h3) ?_
 rintro _ w2 ⟨rfl,h2⟩
 simp (disch:=first|omega|exact zF rfl|exact zG rfl|exact fun h=>h|(simp only[zA,zB,zC,zD,bytesW];omega)) only[go_sem]
 by_cases c1:2≤i
 case neg =>
  have c1':i<2:=by omega
  have e:chkN P i=6:=by unfold chkN; rw [if_neg (fun hc=>c1 hc.1)]
  rw [e]
  simp (disch:=first|omega|exact zF rfl|exact zG rfl|exact fun h=>h|(simp only[zA,zB,zC,zD,bytesW];omega)) only[go_sem,c1,c1']
  exact h2
 have c1':¬ i<2:=by omega
 have r2:=h2.blk.rules
 simp (disch:=first|omega|exact zF rfl|exact zG rfl|exact fun h=>h|(simp only[zA,zB,zC,zD,bytesW];omega)) only[go_sem,c1,c1',r2]
 refine Ret.mono (pslen_ok h2) ?_
 rintro _ w3 ⟨rfl,e3⟩
 subst w3
 by_cases c2:i<P.length
 case neg =>
  have c2':(P.length:Int)≤i:=by omega
  have e:chkN P i=6:=by unfold chkN; rw [if_neg (fun hc=>c2 hc.2.1)]
  rw [e]
  simp (disch:=first|omega|exact zF rfl|exact zG rfl|exact fun h=>h|(simp only[zA,zB,zC,zD,bytesW];omega)) only[go_sem,c2,c2']
  exact h2
 have c2':¬ (P.length:Int)≤i:=by omega
 simp (disch:=first|omega|exact zF rfl|exact zG rfl|exact fun h=>h|(simp only[zA,zB,zC,zD,bytesW];omega)) only[go_sem,c2,c2']
 refine Ret.mono (has_ok _ i _ hi) ?_
 rintro _ w4 ⟨rfl,e4⟩
 subst w4
 cases hh:hasL (usedP P) i with
 | true =>
  have e:chkN P i=0:=by unfold chkN; rw [if_pos ⟨c1,c2,hh⟩]
  rw [e]
  simp (disch:=first|omega|exact zF rfl|exact zG rfl|exact fun h=>h|(simp only[zA,zB,zC,zD,bytesW];omega)) only[go_sem]
  exact h2
 | false =>
  have e:chkN P i=6:=by unfold chkN; rw [if_neg (fun hc=>by rw [hh] at hc; cases hc.2.2)]
  rw [e]
  simp (disch:=first|omega|exact zF rfl|exact zG rfl|exact fun h=>h|(simp only[zA,zB,zC,zD,bytesW];omega)) only[go_sem]
  exact h2
def allocN(P:List (List UInt8)):List (List UInt8) × Int × Int:=match lowP P with
 | some k=>(emptyP (markP P k true) k,k,0)
 | none=>(P,0,13)
theorem filled256{l:List UInt8}(h:l.length=256):filledL l=l:=by unfold filledL; rw [h]; simp
theorem palloc_ok(h:Pgr e P W0 w F L I)(h3:3≤P.length)(hcap:∀ k:Nat,lowP P=some k→k<e.mx) :
  Ret Tryz.prog 64 [.pointer (some ⟨e.p,0,none⟩)] w fun u w'=>u=.tuple #[.int .i64 (allocN P).2.1,.int .i64 (allocN P).2.2]∧Pgr e (allocN P).1 W0 w' F L I:=by
 have h64:=h.len.2
 have hu:=h.used256 h3
 refine ent64 _ _ _ ?_
 simp (disch:=first|omega|exact zF rfl|exact zG rfl|exact fun h=>h|(simp only[zA,zB,zC,zD,bytesW];omega)) only[go_sem]
 refine Ret.mono (used_ok h h3) ?_
 rintro _ w2 ⟨rfl,h2⟩
 have r2:=h2.blk.rules
 simp (disch:=first|omega|exact zF rfl|exact zG rfl|exact fun h=>h|(simp only[zA,zB,zC,zD,bytesW];omega)) only[go_sem,r2]
 refine Ret.mono (pslen_ok h2) ?_
 rintro _ w3 ⟨rfl,e3⟩
 subst w3
 simp (disch:=first|omega|exact zF rfl|exact zG rfl|exact fun h=>h|(simp only[zA,zB,zC,zD,bytesW];omega)) only[go_sem]
 refine Ret.mono (lowest_ok (usedP P) 2 P.length w2 ⟨by omega,by omega⟩ ⟨by omega,by omega⟩ (by rw [hu]; decide)) ?_
 rintro _ w4 ⟨v,ok,rfl,hlow,e4⟩
 subst w4
 unfold allocN
 rcases low_same hu h64 hlow with ⟨hn,rfl⟩ | ⟨k,hk,rfl,rfl,h2k,hlk⟩
 ·rw [hn]
  simp (disch:=first|omega|exact zF rfl|exact zG rfl|exact fun h=>h|(simp only[zA,zB,zC,zD,bytesW];omega)) only[go_sem]
  first | exact h2 | exact ⟨rfl,h2⟩
 ·rw [hk]
  simp (disch:=first|omega|exact zF rfl|exact zG rfl|exact fun h=>h|(simp only[zA,zB,zC,zD,bytesW];omega)) only[go_sem]
  refine Ret.mono (with_ok (usedP P) k true w2 ⟨by omega,by omega⟩) ?_
  rintro _ w5 ⟨rfl,b5⟩
  have h5:=h2.below b5
  simp (disch:=first|omega|exact zF rfl|exact zG rfl|exact fun h=>h|(simp only[zA,zB,zC,zD,bytesW];omega)) only[go_sem]
  refine Ret.mono (pwrite_ok 0 _ h5 (by decide) (by omega) (by have:=h5.two; omega)) ?_
  rintro _ w6 ⟨rfl,h6⟩
  rw [if_neg (by rw [withL_length,hu]; decide)] at h6 ⊢
  simp (disch:=first|omega|exact zF rfl|exact zG rfl|exact fun h=>h|(simp only[zA,zB,zC,zD,bytesW];omega)) only[go_sem]
  refine Ret.mono (pwrite_ok k [] h6 (by omega) (by rw [List.length_set]; omega) (by have:=hcap k hk; omega)) ?_
  rintro _ w7 ⟨rfl,h7⟩
  simp (disch:=first|omega|exact zF rfl|exact zG rfl|exact fun h=>h|(simp only[zA,zB,zC,zD,bytesW];omega)) only[go_sem]
  first | exact h7 | exact ⟨rfl,h7⟩
def freeN(P:List (List UInt8))(i:Int):List (List UInt8) × Int:=if chkN P i≠0 then (P,chkN P i) else (markP P i false,0)
theorem pfree_ok(i:Int)(h:Pgr e P W0 w F L I)(h3:3≤P.length)(hi:I64 i) :
  Ret Tryz.prog 81 [.pointer (some ⟨e.p,0,none⟩),.int .i64 i] w fun u w'=>u=.int .i64 (freeN P i).2∧Pgr e (freeN P i).1 W0 w' F L I:=by
 have hu:=h.used256 h3
 refine ent81 _ _ _ _ ?_
 simp (disch:=first|omega|exact zF rfl|exact zG rfl|exact fun h=>h|(simp only[zA,zB,zC,zD,bytesW];omega)) only[go_sem]
 refine Ret.mono (check_ok i h h3 hi) ?_
 rintro _ w2 ⟨rfl,h2⟩
 unfold freeN
 by_cases hc:chkN P i=0
 case neg =>
  rw [if_pos hc]
  simp (disch:=first|omega|exact zF rfl|exact zG rfl|exact fun h=>h|(simp only[zA,zB,zC,zD,bytesW];omega)) only[go_sem,hc]
  first | exact h2 | exact ⟨rfl,h2⟩
 rw [if_neg (by omega)]
 simp (disch:=first|omega|exact zF rfl|exact zG rfl|exact fun h=>h|(simp only[zA,zB,zC,zD,bytesW];omega)) only[go_sem,hc]
 refine Ret.mono (used_ok h2 h3) ?_
 rintro _ w3 ⟨rfl,h3'⟩
 simp (disch:=first|omega|exact zF rfl|exact zG rfl|exact fun h=>h|(simp only[zA,zB,zC,zD,bytesW];omega)) only[go_sem]
 refine Ret.mono (with_ok (usedP P) i false w3 hi) ?_
 rintro _ w5 ⟨rfl,b5⟩
 have h5:=h3'.below b5
 simp (disch:=first|omega|exact zF rfl|exact zG rfl|exact fun h=>h|(simp only[zA,zB,zC,zD,bytesW];omega)) only[go_sem]
 refine Ret.mono (pwrite_ok 0 _ h5 (by decide) (by omega) (by have:=h5.two; omega)) ?_
 rintro _ w6 ⟨rfl,h6⟩
 rw [if_neg (by rw [withL_length,hu]; decide)] at h6 ⊢
 simp (disch:=first|omega|exact zF rfl|exact zG rfl|exact fun h=>h|(simp only[zA,zB,zC,zD,bytesW];omega)) only[go_sem]
 first | exact h6 | exact ⟨rfl,h6⟩
def getN(P:List (List UInt8))(i:Int):List UInt8 × Int:=if chkN P i≠0 then ([],chkN P i) else (P.getD i.toNat [],0)
theorem chk_in{P:List (List UInt8)}{i:Int}(h:chkN P i=0):2≤i∧i<P.length:=by
 unfold chkN at h
 split at h
 ·rename_i hh; exact ⟨hh.1,hh.2.1⟩
 ·cases h
theorem pget_ok(i:Int)(h:Pgr e P W0 w F L I)(h3:3≤P.length)(hi:I64 i) :
  Ret Tryz.prog 39 [.pointer (some ⟨e.p,0,none⟩),.int .i64 i] w fun u w'=>u=.tuple #[.string (ofL (getN P i).1),.int .i64 (getN P i).2]∧Pgr e P W0 w' F L I:=by
 refine ent39 _ _ _ _ ?_
 simp (disch:=first|omega|exact zF rfl|exact zG rfl|exact fun h=>h|(simp only[zA,zB,zC,zD,bytesW];omega)) only[go_sem]
 refine Ret.mono (check_ok i h h3 hi) ?_
 rintro _ w2 ⟨rfl,h2⟩
 unfold getN
 by_cases hc:chkN P i=0
 case neg =>
  rw [if_pos hc]
  simp (disch:=first|omega|exact zF rfl|exact zG rfl|exact fun h=>h|(simp only[zA,zB,zC,zD,bytesW];omega)) only[go_sem,hc]
  first | exact h2 | exact ⟨rfl,h2⟩
 obtain ⟨c1,c2⟩:=chk_in hc
 rw [if_neg (by omega)]
 simp (disch:=first|omega|exact zF rfl|exact zG rfl|exact fun h=>h|(simp only[zA,zB,zC,zD,bytesW];omega)) only[go_sem,hc]
 refine Ret.mono (pread_ok i h2 (by omega) c2) ?_
 rintro _ w3 ⟨rfl,h3'⟩
 simp (disch:=first|omega|exact zF rfl|exact zG rfl|exact fun h=>h|(simp only[zA,zB,zC,zD,bytesW];omega)) only[go_sem]
 first | exact h3' | exact ⟨rfl,h3'⟩
def setPN(P:List (List UInt8))(i:Int)(d:List UInt8):List (List UInt8) × Int:=if chkN P i≠0 then (P,chkN P i) else if 256<d.length then (P,21) else (P.set i.toNat (filledL d),0)
theorem pset_ok(i:Int)(d:List UInt8)(h:Pgr e P W0 w F L I)(h3:3≤P.length)(hi:I64 i)(hm:chkN P i=0→i<e.mx) :
  Ret Tryz.prog 19 [.pointer (some ⟨e.p,0,none⟩),.int .i64 i,.string (ofL d)] w fun u w'=>u=.int .i64 (setPN P i d).2∧Pgr e (setPN P i d).1 W0 w' F L I:=by
 refine ent19 _ _ _ _ _ ?_
 simp (disch:=first|omega|exact zF rfl|exact zG rfl|exact fun h=>h|(simp only[zA,zB,zC,zD,bytesW];omega)) only[go_sem]
 refine Ret.mono (check_ok i h h3 hi) ?_
 rintro _ w2 ⟨rfl,h2⟩
 unfold setPN
 by_cases hc:chkN P i=0
 case neg =>
  rw [if_pos hc]
  simp (disch:=first|omega|exact zF rfl|exact zG rfl|exact fun h=>h|(simp only[zA,zB,zC,zD,bytesW];omega)) only[go_sem,hc]
  first | exact h2 | exact ⟨rfl,h2⟩
 obtain ⟨c1,c2⟩:=chk_in hc
 rw [if_neg (by omega)]
 simp (disch:=first|omega|exact zF rfl|exact zG rfl|exact fun h=>h|(simp only[zA,zB,zC,zD,bytesW];omega)) only[go_sem,hc]
 refine Ret.mono (pwrite_ok i d h2 (by omega) c2 (hm hc)) ?_
 rintro _ w3 ⟨rfl,h3'⟩
 simp (disch:=first|omega|exact zF rfl|exact zG rfl|exact fun h=>h|(simp only[zA,zB,zC,zD,bytesW];omega)) only[go_sem]
 by_cases hd:256<d.length
 ·rw [if_pos hd] at h3'
  rw [if_pos hd,if_pos hd]
  first | exact h3' | exact ⟨rfl,h3'⟩
 ·rw [if_neg hd] at h3'
  rw [if_neg hd,if_neg hd]
  first | exact h3' | exact ⟨rfl,h3'⟩
def rootB(P:List (List UInt8)):List UInt8:=P.getD 1 []
def rootN(P:List (List UInt8))(i:Int):Int × Int:=if 0≤i∧i<16 then (unfixL (cutL (rootB P) (4 * i) (4 * i+4)),0) else (0,1)
theorem Pgr.root256(h:Pgr e P W0 w F L I)(h3:3≤P.length):(rootB P).length=256:=by
 refine h.full _ ?_
 unfold rootB
 rw [List.getD_eq_getElem?_getD,List.getElem?_eq_getElem (by omega)]
 exact List.getElem_mem _
theorem proot_ok(i:Int)(h:Pgr e P W0 w F L I)(h3:3≤P.length)(hi:I64 i) :
  Ret Tryz.prog 36 [.pointer (some ⟨e.p,0,none⟩),.int .i64 i] w fun u w'=>u=.tuple #[.int .i64 (rootN P i).1,.int .i64 (rootN P i).2]∧Pgr e P W0 w' F L I:=by
 have hr:=h.root256 h3
 refine ent36 _ _ _ _ ?_
 simp (disch:=first|omega|exact zF rfl|exact zG rfl|exact fun h=>h|(simp only[zA,zB,zC,zD,bytesW];omega)) only[go_sem]
 refine Ret.mono (made_ok h) ?_
 rintro _ w2 ⟨rfl,e2⟩
 subst w2
 unfold rootN
 by_cases c:0≤i∧i<16
 case neg =>
  rw [if_neg c]
  by_cases c1:i<0
  ·simp (disch:=first|omega|exact zF rfl|exact zG rfl|exact fun h=>h|(simp only[zA,zB,zC,zD,bytesW];omega)) only[go_sem,c1]
   first | exact h | exact ⟨rfl,h⟩
  ·have c2:(16:Int)≤i:=by omega
   simp (disch:=first|omega|exact zF rfl|exact zG rfl|exact fun h=>h|(simp only[zA,zB,zC,zD,bytesW];omega)) only[go_sem,c1,c2]
   first | exact h | exact ⟨rfl,h⟩
 rw [if_pos c]
 have c1:¬ i<0:=by omega
 have c2:¬ (16:Int)≤i:=by omega
 simp (disch:=first|omega|exact zF rfl|exact zG rfl|exact fun h=>h|(simp only[zA,zB,zC,zD,bytesW];omega)) only[go_sem,c1,c2]
 refine Ret.mono (pread_ok 1 h (by decide) (by omega)) ?_
 rintro _ w2 ⟨rfl,h2⟩
 have e1:P.getD (1:Int).toNat []=rootB P:=rfl
 rw [e1]
 simp (disch:=first|omega|exact zF rfl|exact zG rfl|exact fun h=>h|(simp only[zA,zB,zC,zD,bytesW];omega)) only[go_sem]
 have hc:(cutL (rootB P) (4 * i) (4 * i+4)).length=4:=by
  unfold cutL; rw [List.length_drop,List.length_take,hr]; omega
 refine ⟨⟨by omega,by omega⟩,⟨by omega,by omega⟩,⟨by omega,by omega⟩,⟨by omega,by omega,by omega⟩,Ret.mono (unfixed_ok _ w2 (by rw [hc]; omega)) ?_⟩
 rintro _ w3 ⟨rfl,e3⟩
 subst w3
 have hlt:=unfixL_lt (cutL (rootB P) (4 * i) (4 * i+4))
 rw [hc] at hlt
 have hlt:unfixL (cutL (rootB P) (4 * i) (4 * i+4))<4294967296:=hlt
 simp (disch:=first|omega|exact zF rfl|exact zG rfl|exact fun h=>h|(simp only[zA,zB,zC,zD,bytesW];omega)) only[go_sem]
 refine ⟨by constructor <;> omega,?_⟩
 exact h2
def setRootN(P:List (List UInt8))(i at':Int):List (List UInt8) × Int :=
 if (rootN P i).2≠0 then (P,(rootN P i).2) else if at'≠0∧chkN P at'≠0 then (P,chkN P at') else
 (P.set 1 (filledL ((rootB P).take (4 * i).toNat++fixL at'.toNat 4++(rootB P).drop (4 * i+4).toNat)),0)
theorem psetRoot_ok(i j:Int)(h:Pgr e P W0 w F L I)(h3:3≤P.length)(hi:I64 i)(hj:I64 j) :
  Ret Tryz.prog 66 [.pointer (some ⟨e.p,0,none⟩),.int .i64 i,.int .i64 j] w fun u w'=>u=.int .i64 (setRootN P i j).2∧Pgr e (setRootN P i j).1 W0 w' F L I:=by
 have hr:=h.root256 h3
 refine ent66 _ _ _ _ _ ?_
 simp (disch:=first|omega|exact zF rfl|exact zG rfl|exact fun h=>h|(simp only[zA,zB,zC,zD,bytesW];omega)) only[go_sem,c66S5]
 refine Ret.mono (proot_ok i h h3 hi) ?_
 rintro _ w2 ⟨rfl,h2⟩
 unfold setRootN
 by_cases hc:(rootN P i).2=0
 case neg =>
  rw [if_pos hc]
  simp (disch:=first|omega|exact zF rfl|exact zG rfl|exact fun h=>h|(simp only[zA,zB,zC,zD,bytesW];omega)) only[go_sem,c66S5,hc]
  first | exact h2 | exact ⟨rfl,h2⟩
 have hin:0≤i∧i<16:=by
  unfold rootN at hc
  split at hc
  ·assumption
  ·cases hc
 rw [if_neg (by omega)]
 have fin:∀ w',Pgr e P W0 w' F L I→W Tryz.prog (c66S5 ()) [(0,.pointer (some ⟨e.p,0,none⟩)),(1,.int .i64 i),(2,.int .i64 j)] w' (finQ Tryz.prog [.tmp 6] fun u w''=>u=.int .i64 0∧Pgr e (P.set 1 (filledL ((rootB P).take (4 * i).toNat++fixL (IntKind.u64.wrap j).toNat 4++(rootB P).drop (4 * i+4).toNat))) W0 w'' F L I):=by
  intro w' h'
  simp (disch:=first|omega|exact zF rfl|exact zG rfl|exact fun h=>h|(simp only[zA,zB,zC,zD,bytesW];omega)) only[go_sem,c66S5]
  refine Ret.mono (pread_ok 1 h' (by decide) (by omega)) ?_
  rintro _ w4 ⟨rfl,h4⟩
  have e1:P.getD (1:Int).toNat []=rootB P:=rfl
  rw [e1]
  simp (disch:=first|omega|exact zF rfl|exact zG rfl|exact fun h=>h|(simp only[zA,zB,zC,zD,bytesW];omega)) only[go_sem,c66S5]
  refine c66draw0 ?_
  have h5:=h4.drew
  generalize w4.drew=w5 at h5 ⊢
  have hwj:0≤IntKind.u64.wrap j∧IntKind.u64.wrap j<18446744073709551616:=by rw [wrap_u64_mod]; omega
  obtain ⟨n,hn⟩:=Int.eq_ofNat_of_zero_le hwj.1
  rw [hn] at hwj ⊢
  simp (disch:=first|omega|exact zF rfl|exact zG rfl|exact fun h=>h|(simp only[zA,zB,zC,zD,bytesW];omega)) only[go_sem,c66S5,c66D0,hn]
  refine ⟨⟨by omega,by omega⟩,⟨by omega,by omega⟩,⟨by omega,by omega⟩,⟨by omega,by omega⟩,⟨by omega,by omega⟩,Ret.mono (fixed_ok n 4 w5 (by omega) (by omega)) ?_⟩
  rintro _ w6 ⟨rfl,b6⟩
  have h6:=h5.below b6
  simp (disch:=first|omega|exact zF rfl|exact zG rfl|exact fun h=>h|(simp only[zA,zB,zC,zD,bytesW];omega)) only[go_sem,c66S5]
  have lf:(fixL n 4).length=4:=fixL_len n 4
  refine ⟨?_,?_,Ret.mono (pwrite_ok 1 _ h6 (by decide) (by omega) (by have:=h6.two; omega)) ?_⟩
  ·rw [lf,List.length_take]; omega
  ·rw [List.length_append,lf,List.length_take,List.length_drop]; omega
  rintro _ w7 ⟨rfl,h7⟩
  rw [if_neg (by rw [List.length_append,List.length_append,lf,List.length_take,List.length_drop]; omega)] at h7 ⊢
  simp (disch:=first|omega|exact zF rfl|exact zG rfl|exact fun h=>h|(simp only[zA,zB,zC,zD,bytesW];omega)) only[go_sem,c66S5]
  first | exact h7 | exact ⟨rfl,h7⟩
 by_cases h0:j=0
 ·subst h0
  rw [if_neg (by simp)]
  simp (disch:=first|omega|exact zF rfl|exact zG rfl|exact fun h=>h|(simp only[zA,zB,zC,zD,bytesW];omega)) only[go_sem,hc]
  exact fin w2 h2
 ·simp (disch:=first|omega|exact zF rfl|exact zG rfl|exact fun h=>h|(simp only[zA,zB,zC,zD,bytesW];omega)) only[go_sem,hc,h0]
  refine Ret.mono (check_ok j h2 h3 hj) ?_
  rintro _ w3 ⟨rfl,h3'⟩
  by_cases hk:chkN P j=0
  ·have hin2:=chk_in hk
   rw [if_neg (fun hh=>hh hk)]
   simp (disch:=first|omega|exact zF rfl|exact zG rfl|exact fun h=>h|(simp only[zA,zB,zC,zD,bytesW];omega)) only[go_sem,hk]
   have:=fin w3 h3'
   rw [wrap_u64_id j (by omega) (by have:=h.len; omega)] at this
   exact this
  ·rw [if_pos hk]
   simp (disch:=first|omega|exact zF rfl|exact zG rfl|exact fun h=>h|(simp only[zA,zB,zC,zD,bytesW];omega)) only[go_sem,hk]
   first | exact h3' | exact ⟨rfl,h3'⟩
theorem proom_ok(h:Pgr e P W0 w F L I)(h3:3≤P.length) :
  Ret Tryz.prog 12 [.pointer (some ⟨e.p,0,none⟩)] w fun u w'=>u=.int .i64 (roomN P)∧Pgr e P W0 w' F L I:=by
 have hu:=h.used256 h3
 have h64:=h.len.2
 refine ent12 _ _ _ ?_
 simp (disch:=first|omega|exact zF rfl|exact zG rfl|exact fun h=>h|(simp only[zA,zB,zC,zD,bytesW];omega)) only[go_sem]
 refine Ret.mono (used_ok h h3) ?_
 rintro _ w2 ⟨rfl,h2⟩
 have r2:=h2.blk.rules
 simp (disch:=first|omega|exact zF rfl|exact zG rfl|exact fun h=>h|(simp only[zA,zB,zC,zD,bytesW];omega)) only[go_sem,r2]
 refine Ret.mono (pslen_ok h2) ?_
 rintro _ w3 ⟨rfl,e3⟩
 subst w3
 simp (disch:=first|omega|exact zF rfl|exact zG rfl|exact fun h=>h|(simp only[zA,zB,zC,zD,bytesW];omega)) only[go_sem]
 obtain ⟨k,hk⟩:∃ k:Nat,k=P.length / 8:=⟨_,rfl⟩
 have ek:(P.length:Int).tdiv 8=k:=by rw [Int.tdiv_eq_ediv_of_nonneg (by omega)]; omega
 rw [ek]
 have et:((usedP P).take (k:Int).toNat)=(usedP P).take k:=by rw [Int.toNat_natCast]
 have c8:=cnt8 (usedP P) k (by omega)
 have cl:=cntN_le (usedP P) (8 * k)
 rw [Int.toNat_natCast]
 refine ⟨by constructor <;> omega,by omega,Ret.mono (count_ok _ w2 (by rw [List.length_take,hu]; omega)) ?_⟩
 rintro _ w4 ⟨rfl,e4⟩
 subst w4
 rw [← c8]
 simp (disch:=first|omega|exact zF rfl|exact zG rfl|exact fun h=>h|(simp only[zA,zB,zC,zD,bytesW];omega)) only[go_sem,ek]
 refine ⟨by constructor <;> omega,by constructor <;> omega,by constructor <;> omega,?_⟩
 refine W_loopU (fun m:Nat=>[(6,.int .i64 (P.length - cntN (usedP P) m:Int)),(7,.int .i64 m)]) (fun m w'=>8 * k≤m∧m≤P.length∧w'=w2) (fun m=>P.length - m) (8 * k) (by rw [show ((8 * k:Nat):Int)=(k:Int) * 8 by omega]; rfl) ⟨Nat.le_refl _,by omega,rfl⟩ ?_
 rintro m w5 ⟨hm0,hm,e5⟩
 subst w5
 have cm:=cntN_le (usedP P) m
 have cs:=cntN_succ (usedP P) m
 by_cases hlt:m<P.length
 ·have hlt':(m:Int)<P.length:=by omega
  simp (disch:=first|omega|exact zF rfl|exact zG rfl|exact fun h=>h|(simp only[zA,zB,zC,zD,bytesW];omega)) only[go_sem,c12L0,c12L0,hlt']
  refine Ret.mono (has_ok _ m w2 ⟨by omega,by omega⟩) ?_
  rintro _ w6 ⟨rfl,e6⟩
  subst w6
  cases hh:hasL (usedP P) m with
  | true =>
   rw [if_pos hh] at cs
   simp (disch:=first|omega|exact zF rfl|exact zG rfl|exact fun h=>h|(simp only[zA,zB,zC,zD,bytesW];omega)) only[go_sem,c12L0]
   exact ⟨by constructor <;> omega,by constructor <;> omega,m+1,by simp; omega,⟨by omega,by omega⟩,by omega⟩
  | false =>
   rw [if_neg (by rw [hh]; decide)] at cs
   simp (disch:=first|omega|exact zF rfl|exact zG rfl|exact fun h=>h|(simp only[zA,zB,zC,zD,bytesW];omega)) only[go_sem,c12L0]
   exact ⟨by constructor <;> omega,m+1,by simp; omega,⟨by omega,by omega⟩,by omega⟩
 ·have hlt':¬ (m:Int)<P.length:=by omega
  obtain rfl:m=P.length:=by omega
  simp (disch:=first|omega|exact zF rfl|exact zG rfl|exact fun h=>h|(simp only[zA,zB,zC,zD,bytesW];omega)) only[go_sem,c12L0,c12L0,hlt']
  refine ⟨?_,h2⟩
  unfold roomN
  have:=cntN_le (usedP P) P.length
  omega
def fmtU:List UInt8:=withL (withL (emptyL 2048) 0 true) 1 true
def fmtP(P:List (List UInt8)):List (List UInt8):=(P.set 0 (filledL fmtU)).set 1 (filledL [])
theorem pformat_ok(h:Pgr e P W0 w F L I)(h3:3≤P.length) :
  Ret Tryz.prog 44 [.pointer (some ⟨e.p,0,none⟩)] w fun u w'=>u=.int .i64 0∧Pgr e (fmtP P) W0 w' F L I:=by
 refine ent44 _ _ _ ?_
 simp (disch:=first|omega|exact zF rfl|exact zG rfl|exact fun h=>h|(simp only[zA,zB,zC,zD,bytesW];omega)) only[go_sem]
 refine Ret.mono (made_ok h) ?_
 rintro _ w2 ⟨rfl,e2⟩
 subst w2
 have r2:=h.blk.rules
 simp (disch:=first|omega|exact zF rfl|exact zG rfl|exact fun h=>h|(simp only[zA,zB,zC,zD,bytesW];omega)) only[go_sem,r2]
 refine Ret.mono (pslen_ok h) ?_
 rintro _ w2 ⟨rfl,e2⟩
 subst w2
 have hle:¬ (P.length:Int)≤2:=by omega
 simp (disch:=first|omega|exact zF rfl|exact zG rfl|exact fun h=>h|(simp only[zA,zB,zC,zD,bytesW];omega)) only[go_sem,hle]
 refine Ret.mono (empty_ok 2048 w ⟨by decide,by decide⟩ (by decide)) ?_
 rintro _ w2 ⟨rfl,b2⟩
 have h2:=h.below b2
 simp (disch:=first|omega|exact zF rfl|exact zG rfl|exact fun h=>h|(simp only[zA,zB,zC,zD,bytesW];omega)) only[go_sem]
 refine W_loopU (fun k:Nat=>[(3,.string (ofL (if k=0 then emptyL 2048 else if k=1 then withL (emptyL 2048) 0 true else fmtU))),(16,.int .i64 k)]) (fun k w'=>k≤2∧Pgr e P W0 w' F L I) (fun k=>2 - k) 0 rfl ⟨by omega,h2⟩ ?_
 rintro k w3 ⟨hk,h3'⟩
 by_cases hlt:k<2
 ·have hlt':(k:Int)<2:=by omega
  simp (disch:=first|omega|exact zF rfl|exact zG rfl|exact fun h=>h|(simp only[zA,zB,zC,zD,bytesW];omega)) only[go_sem,c44L0,c44L0,hlt']
  refine Ret.mono (with_ok _ k true w3 ⟨by omega,by omega⟩) ?_
  rintro _ w4 ⟨rfl,b4⟩
  simp (disch:=first|omega|exact zF rfl|exact zG rfl|exact fun h=>h|(simp only[zA,zB,zC,zD,bytesW];omega)) only[go_sem,c44L0]
  refine ⟨by constructor <;> omega,k+1,?_,⟨by omega,h3'.below b4⟩,by omega⟩
  have:k=0∨k=1:=by omega
  rcases this with rfl | rfl <;> rfl
 ·have hlt':¬ (k:Int)<2:=by omega
  obtain rfl:k=2:=by omega
  simp (disch:=first|omega|exact zF rfl|exact zG rfl|exact fun h=>h|(simp only[zA,zB,zC,zD,bytesW];omega)) only[go_sem,c44L0,c44L0,hlt']
  have hfl:¬ 256<fmtU.length:=by unfold fmtU; rw [withL_length,withL_length]; decide
  refine Ret.mono (pwrite_ok 0 fmtU h3' (by decide) (by omega) (by have:=h3'.two; omega)) ?_
  rintro _ w4 ⟨rfl,h4⟩
  rw [if_neg hfl] at h4 ⊢
  simp (disch:=first|omega|exact zF rfl|exact zG rfl|exact fun h=>h|(simp only[zA,zB,zC,zD,bytesW];omega)) only[go_sem,c44L0]
  refine Ret.mono (pwrite_ok 1 [] h4 (by decide) (by rw [List.length_set]; omega) (by have:=h4.two; omega)) ?_
  rintro _ w5 ⟨rfl,h5⟩
  simp (disch:=first|omega|exact zF rfl|exact zG rfl|exact fun h=>h|(simp only[zA,zB,zC,zD,bytesW];omega)) only[go_sem,c44L0]
  first | exact h5 | exact ⟨rfl,h5⟩
end
open Go Go.Ann Go.RowKit Go.WideShapes
def newHd(n j:Nat):Hd:=headN (n+j+2) j
def newDkP(n j:Nat):Dk:=fmtDk (n+j+2) (newHd n j)
def newSto(n j:Nat):Sto:=⟨newHd n j,[],0,false,newDkP n j⟩
theorem fmtDk_ok{n:Nat}{h:Hd}(h0:2≤n)(h1:n≤2048):(fmtDk n h).ok:=by
 have hl:=headL_len h
 refine ⟨fun s hs=>?_,fun _ h=>(by cases h),⟨by simp [fmtDk],by simp [fmtDk]⟩,by simp [fmtDk]; omega,by simp [fmtDk]; omega,by simp [fmtDk]⟩
 unfold fmtDk at hs
 rcases List.mem_or_eq_of_mem_set hs with hs | rfl
 ·rcases List.mem_or_eq_of_mem_set hs with hs | rfl
  ·rw [List.eq_of_mem_replicate hs]; exact List.length_replicate
  ·exact filledL_length (by decide)
 ·exact filledL_length (by omega)
theorem newHd_pages{n j:Nat}(h:n≤1024):(newHd n j).pages=n:=by unfold newHd headN; simp only; omega
theorem newSto_ok{n j:Nat}(h0:1≤n)(h1:n≤500)(j0:2≤j)(j1:j≤500):(newSto n j).ok:=by
 have hp:=newHd_pages (n:=n) (j:=j) (by omega)
 refine ⟨⟨by simp [newSto,newHd,headN] <;> omega,by simp [newSto,newHd,headN] <;> omega,by simp [newSto,newHd,headN] <;> omega,by simp only [newSto,hp]; omega⟩,fmtDk_ok (by omega) (by omega),by simp [newSto,newHd,headN] <;> omega,by simp only [newSto,hp]; omega,by simp only [newSto,hp]; omega,?_,fun _ h=>(by cases h),List.Pairwise.nil,List.Pairwise.nil,fun _ h=>(by cases h)⟩
 simp only [newSto,hp,newDkP,fmtDk,List.length_set,List.length_replicate]
 simp only [newHd,headN]
 omega
theorem newSto_live{n j:Nat}(h0:1≤n)(h1:n≤500)(j0:2≤j)(j1:j≤500):Live (newSto n j) [] :=
 ⟨newSto_ok h0 h1 j0 j1,rfl,rfl,by simp only [newSto,newHd_pages (show n≤1024 by omega)]; exact h1,by simp,List.Pairwise.nil,fun _ h=>(by cases h)⟩
theorem newSto_pgs{n j:Nat}(h0:1≤n)(h1:n≤500)(j0:2≤j)(j1:j≤500):pgs (newSto n j)=List.replicate n zeroB:=by
 have hv:=newSto_live h0 h1 j0 j1
 have hp:=newHd_pages (n:=n) (j:=j) (by omega)
 refine pgs_eq (by rw [List.length_replicate]; exact hp.symm) fun i hi=>?_
 rw [List.length_replicate] at hi
 rw [(nowP_eq hv.ok hv.dead hv.gone (by omega) (by show (i:Int)<(newHd n j).pages; omega)).2]
 show (none:Option (List UInt8)).getD (lastL [] _ ((fmtDk (n+j+2) (newHd n j)).safe.getD (homeN (newSto n j) i).toNat []))=_
 have e:(homeN (newSto n j) i).toNat=j+2+i:=by
  unfold homeN
  show (2+((j:Nat):Int)+i).toNat=_
  omega
 rw [e]
 simp only [Option.getD_none,lastL,List.foldl_nil,fmtDk]
 rw [List.getD_eq_getElem?_getD,List.getD_eq_getElem?_getD,List.getElem?_set_ne (by omega),List.getElem?_set_ne (by omega),List.getElem?_replicate,List.getElem?_replicate,if_pos (by omega),if_pos hi]
section
variable {W0 w:World} {F:Nat→Prop} {L:List Res} {I:List Inv}
theorem pnew_ok{b mb g:Nat}{vb vl:Value}{s:Sto}(mx:Nat)(h:St W0 w F (StoL b mb g vb vl s++L) I)(hv:Live s [])(hlow:LowD s mx) :
  Ret Tryz.prog 43 [.pointer (some ⟨b,0,none⟩)] w fun u w'=>∃ p c,u=.tuple #[.pointer (some ⟨p,0,none⟩),.int .i64 0]∧Pgr ⟨p,b,mb,g,c,vb,vl,s.hd,s.disk,mx⟩ (pgs s) W0 w' F L I:=by
 refine ent43 _ _ _ ?_
 simp (disch:=first|omega|exact zF rfl|exact zG rfl|exact fun h=>h|(simp only[zA,zB,zC,zD,bytesW];omega)) only[go_sem]
 have hpg:=hv.ok.pages
 refine Ret.mono (sread_ok 0 h hv.ok) ?_
 rintro _ w2 ⟨rfl,s2⟩
 rw [(nowP_eq hv.ok hv.dead hv.gone (by omega) (by omega)).1] at s2 ⊢
 simp (disch:=first|omega|exact zF rfl|exact zG rfl|exact fun h=>h|(simp only[zA,zB,zC,zD,bytesW];omega)) only[go_sem]
 refine Ret.mono (cnew_ok s2) ?_
 rintro _ w3 ⟨c,rfl,s3⟩
 simp (disch:=first|omega|exact zF rfl|exact zG rfl|exact fun h=>h|(simp only[zA,zB,zC,zD,bytesW];omega)) only[go_sem]
 refine bdW_built (cells:=#[.pointer (some ⟨b,0,none⟩),.pointer (some ⟨c,0,none⟩)]) (by kernel_rfl) ?_
 have s4:=s3.box #[.pointer (some ⟨b,0,none⟩),.pointer (some ⟨c,0,none⟩)] 98
 simp (disch:=first|omega|exact zF rfl|exact zG rfl|exact fun h=>h|(simp only[zA,zB,zC,zD,bytesW];omega)) only[go_sem]
 refine ⟨_,c,rfl,.slice none 0 0,[],s,?_,hv,rfl,rfl,hlow,rfl⟩
 generalize w3.heap.size=p at s4 ⊢
 refine s4.perm ?_
 unfold PgL
 have:=(List.perm_append_comm (l₁:=StoL b mb g vb vl s) (l₂:=CaL c (.slice none 0 0) [])).append_right L
 simp only [List.append_assoc,List.cons_append,List.nil_append] at this ⊢
 exact this.cons _
theorem begun25_ok{n:Nat}(mx:Nat)(h:St W0 w F L I)(h0:3≤n)(h1:n≤400)(h2:2≤mx) :
  Ret Tryz.prog 10 [.int .i64 n] w fun u w'=>∃ e:En,u=.tuple #[.pointer (some ⟨e.g,0,none⟩),.pointer (some ⟨e.p,0,none⟩)]∧e.hd=newHd n 400∧e.m=newDkP n 400∧e.mx=mx∧Pgr e (fmtP (List.replicate n zeroB)) W0 w' F L I:=by
 refine ent10 _ _ _ ?_
 simp (disch:=first|omega|exact zF rfl|exact zG rfl|exact fun h=>h|(simp only[zA,zB,zC,zD,bytesW];omega)) only[go_sem]
 have en:(n:Int)+402=((n+400+2:Nat):Int):=by omega
 rw [en]
 refine ⟨by constructor <;> omega,Ret.mono (new_ok h (n:=n+400+2) (by omega) (by omega)) ?_⟩
 rintro _ w2 ⟨g,vb,vl,rfl,s2⟩
 simp (disch:=first|omega|exact zF rfl|exact zG rfl|exact fun h=>h|(simp only[zA,zB,zC,zD,bytesW];omega)) only[go_sem]
 refine Ret.mono (format_ok (room:=400) s2 (by decide) (by omega) (by omega)) ?_
 rintro _ w3 ⟨rfl,vl',s3⟩
 simp (disch:=first|omega|exact zF rfl|exact zG rfl|exact fun h=>h|(simp only[zA,zB,zC,zD,bytesW];omega)) only[go_sem]
 refine Ret.mono (open0_ok (newHd n 400) s3 (fmtDk_ok (by omega) (by omega)) rfl (by simp [fmtDk]) (newest_fmt (by decide) (by omega) (by omega)) rfl) ?_
 rintro _ w4 ⟨b,mb,rfl,s4⟩
 simp (disch:=first|omega|exact zF rfl|exact zG rfl|exact fun h=>h|(simp only[zA,zB,zC,zD,bytesW];omega)) only[go_sem]
 refine Ret.mono (pnew_ok mx s4 (newSto_live (by omega) (by omega) (by omega) (by omega)) ⟨h2,fun _ h=>(by cases h)⟩) ?_
 rintro _ w5 ⟨p,c,rfl,s5⟩
 have s5:Pgr ⟨p,b,mb,g,c,vb,vl',newHd n 400,newDkP n 400,mx⟩ (pgs (newSto n 400)) W0 w5 F L I:=s5
 have ep:pgs (newSto n 400)=List.replicate n zeroB:=newSto_pgs (by omega) (by omega) (by omega) (by omega)
 obtain ⟨e,hep,heg,heh,hem,hmx,k5⟩:∃ e:En,e.p=p∧e.g=g∧e.hd=newHd n 400∧e.m=newDkP n 400∧e.mx=mx∧Pgr e (pgs (newSto n 400)) W0 w5 F L I:=⟨_,rfl,rfl,rfl,rfl,rfl,s5⟩
 rw [ep] at k5
 subst hep heg
 have h3:3≤(List.replicate n zeroB).length:=by rw [List.length_replicate]; exact h0
 generalize List.replicate n zeroB=P0 at k5 h3 ⊢
 simp (disch:=first|omega|exact zF rfl|exact zG rfl|exact fun h=>h|(simp only[zA,zB,zC,zD,bytesW];omega)) only[go_sem]
 refine Ret.mono (pformat_ok k5 h3) ?_
 rintro _ w6 ⟨rfl,s6⟩
 simp (disch:=first|omega|exact zF rfl|exact zG rfl|exact fun h=>h|(simp only[zA,zB,zC,zD,bytesW];omega)) only[go_sem]
 exact ⟨e,rfl,heh,hem,hmx,s6⟩
end
structure Given(n:Nat)(P:List (List UInt8))(G:Nat→Bool):Prop where
 len:P.length=n
 u:(usedP P).length=256
 has:∀ j:Nat,j<n→hasL (usedP P) j=G j
theorem usedP_set0{P:List (List UInt8)}{l:List UInt8}(h:0<P.length):usedP (P.set 0 l)=l:=by
 unfold usedP
 rw [List.getD_eq_getElem?_getD,List.getElem?_set_self h]; rfl
theorem usedP_set{P:List (List UInt8)}{l:List UInt8}{i:Nat}(h:i≠0):usedP (P.set i l)=usedP P:=by
 unfold usedP
 rw [List.getD_eq_getElem?_getD,List.getD_eq_getElem?_getD,List.getElem?_set_ne h]
theorem Given.mark{n:Nat}{P:List (List UInt8)}{G:Nat→Bool}(h:Given n P G)(hn:n≤2048){i:Nat}(hi:i<n)(b:Bool):Given n (markP P i b) (fun j=>if j=i then b else G j):=by
 have h0:0<P.length:=by rw [h.len]; omega
 have hl:(withL (usedP P) i b).length=256:=by rw [withL_length,h.u]
 have e:usedP (markP P i b)=withL (usedP P) i b:=by unfold markP; rw [usedP_set0 h0,filled256 hl]
 refine ⟨by unfold markP; rw [List.length_set,h.len],by rw [e,hl],fun j hj=>?_⟩
 rw [e,withL_has _ _ _ (by unfold fitsL; rw [decide_eq_true_eq,h.u]; omega)]
 by_cases hji:j=i
 ·rw [if_pos (by omega),if_pos hji]
 ·rw [if_neg (by omega),if_neg hji]; exact h.has j hj
theorem Given.set{n:Nat}{P:List (List UInt8)}{G:Nat→Bool}(h:Given n P G){i:Nat}(hi:i≠0)(l:List UInt8):Given n (P.set i l) G :=
 ⟨by rw [List.length_set,h.len],by rw [usedP_set hi]; exact h.u,fun j hj=>by rw [usedP_set hi]; exact h.has j hj⟩
theorem Given.ext{n:Nat}{P:List (List UInt8)}{G G':Nat→Bool}(h:Given n P G)(e:∀ j,j<n→G j=G' j):Given n P G':=⟨h.len,h.u,fun j hj=>(h.has j hj).trans (e j hj)⟩
theorem Given.alloc{n:Nat}{P:List (List UInt8)}{G:Nat→Bool}(h:Given n P G)(hn:n≤2048){k:Nat}(h2:2≤k)(hk:k<n)(hg:G k=false)(hall:∀ j,2≤j→j<k→G j=true) :
  allocN P=(emptyP (markP P k true) k,(k:Int),0)∧lowP P=some k∧Given n (emptyP (markP P k true) k) (fun j=>if j=k then true else G j):=by
 have e:lowP P=some k:=by
  unfold lowP
  rw [List.find?_range_eq_some,h.len]
  refine ⟨by rw [h.has k hk,hg]; simp; omega,by rw [List.mem_range]; exact hk,fun j hj=>?_⟩
  by_cases h2j:2≤j
  ·rw [h.has j (by omega),hall j h2j hj]; simp
  ·simp [h2j]
 refine ⟨by unfold allocN; rw [e],e,?_⟩
 have:=(h.mark hn hk true).set (i:=k) (by omega) (filledL [])
 unfold emptyP
 rw [Int.toNat_natCast]
 exact this
theorem Given.chk{n:Nat}{P:List (List UInt8)}{G:Nat→Bool}(h:Given n P G){i:Nat}(h2:2≤i)(hi:i<n):chkN P i=if G i=true then 0 else 6:=by
 unfold chkN
 rw [h.len,h.has i hi]
 by_cases hg:G i=true
 ·rw [if_pos ⟨by omega,by omega,hg⟩,if_pos hg]
 ·rw [if_neg (fun hh=>hg hh.2.2),if_neg hg]
theorem Given.room{n:Nat}{P:List (List UInt8)}{G:Nat→Bool}(h:Given n P G):roomN P=n - ((List.range n).filter G).length:=by
 unfold roomN cntN
 rw [h.len]
 congr 2
 exact List.filter_congr fun j hj=>h.has j (List.mem_range.1 hj)
theorem fmtU_has:∀ j:Fin 512,hasL fmtU j.val=decide (j.val<2):=by decide +kernel
theorem fmtU_len:fmtU.length=256:=by unfold fmtU; rw [withL_length,withL_length]; decide
theorem fmt_given{n:Nat}{P:List (List UInt8)}(hl:P.length=n)(h3:3≤n)(h64:n≤500):Given n (fmtP P) (fun j=>decide (j<2)):=by
 have e:usedP (fmtP P)=fmtU:=by
  unfold fmtP
  rw [usedP_set (by decide),usedP_set0 (by omega),filled256 fmtU_len]
 refine ⟨by unfold fmtP; rw [List.length_set,List.length_set,hl],by rw [e]; exact fmtU_len,fun j hj=>?_⟩
 rw [e]
 exact fmtU_has ⟨j,by omega⟩
open Go Go.Ann Go.RowKit Go.WideShapes
theorem Pgr.lift{e:En}{P:List (List UInt8)}{W0 w:World}{F:Nat→Prop}{L:List Res}{I:List Inv}(h:Pgr e P W0 w F L I):∃ A,St W0 w F (L++A) I∧∀ w' L' I',St W0 w' F (L'++A) I'→Pgr e P W0 w' F L' I':=by
 obtain ⟨rv,l,s,hs,h2⟩:=h
 refine ⟨PgL e rv l s,hs.perm List.perm_append_comm,fun w' L' I' h'=>⟨rv,l,s,h'.perm List.perm_append_comm,h2⟩⟩
theorem lenG{P:Program}{κ ν:Type}{ek:κ→Value}{ev:ν→Value}{w:World}{K:Value→World→Prop}{m t e ty r c:Nat}{cs:Array Bool}{l:List (κ × ν × Nat)}(hm:P.underlying m=some (.map t e))(hr:w.heap[r]?=some (mapG ek ev l c))(hK:K (.int .i64 l.length) w):rawB P .len #[m] ty cs [.map (some r)] w K:=by
 refine ⟨_,w,?_,hK⟩
 have hg:(getObj r).run P w=.ok (.map (l.map (entG ek ev)).toArray c) w:=run_getObj_map w r _ _ hr
 simp [builtin,Builtin.len_,Sem.run_bind,run_underlying hm,hg,Result.andThen_ok,goInt]
end Go.Proofs.YtkmjkmjpejmlnaaGreat

end
