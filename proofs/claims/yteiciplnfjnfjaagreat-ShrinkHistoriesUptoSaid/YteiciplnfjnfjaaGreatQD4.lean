/- Texts put together by program. -/
import Derived.Test.YteiciplnfjnfjaaGreatQD3
set_option linter.unusedSimpArgs false
set_option linter.unusedVariables false
set_option maxRecDepth 100000
noncomputable section

namespace Go.Proofs.YteiciplnfjnfjaaGreat
open Go Go.Ann
theorem ent77(a0:Value)(w:World)(K:Value→World→Prop)(h:W Tryz.prog c77 [(0,a0)] w (finQ Tryz.prog [.tmp 2] K)):Ret Tryz.prog 77 [a0] w K :=
 Ret_of_W (code:=c77code) Tryz.func77 (by kernel_rfl) (by kernel_rfl) (of_decide_eq_true (by kernel_rfl)) h
@[go_sem] theorem go77:goFunc Tryz.prog 77=true:=by kernel_rfl
def c78code:Code:=match Tryz.f78.body with | some c=>c | none=>.skip
def c78S0(_:Unit):Cmd:=.ret
def c78:Cmd:=(.seq (.ops [
 ⟨some 3,.box 92 (.tmp 0),0,none⟩,
 ⟨some 4,.assign (.const (.bool false)),4,none⟩] [1,2,3])
 (.seq (.ops [
 ⟨some 5,.load 22 (.tmp 1),22,none⟩,
 ⟨some 6,.makeFunc (.func 80) #[] #[(.tmp 2),(.tmp 3)],92,none⟩,
 ⟨some 7,.call ⟨.value (.func 79),#[(.tmp 5),(.tmp 6)],#[22,92]⟩,4,none⟩,
 ⟨some 4,.assign (.tmp 7),4,none⟩] [4]) (sg c78S0)))
attribute [go_sem] c78 c78S0
theorem ent78(a0 a1 a2:Value)(w:World)(K:Value→World→Prop)(h:W Tryz.prog c78 [(0,a0),(1,a1),(2,a2)] w (finQ Tryz.prog [.tmp 4] K)):Ret Tryz.prog 78 [a0,a1,a2] w K :=
 Ret_of_W (code:=c78code) Tryz.func78 (by kernel_rfl) (by kernel_rfl) (of_decide_eq_true (by kernel_rfl)) h
@[go_sem] theorem go78:goFunc Tryz.prog 78=true:=by kernel_rfl
def c79code:Code:=match Tryz.f79.body with | some c=>c | none=>.skip
def c79S0(_:Unit):Cmd:=.ret
def c79:Cmd:=(.seq (.ops [
 ⟨some 4,.assign (.const (.bool false)),4,none⟩] [0,1])
 (.seq (.ops [
 ⟨some 5,.move (.tmp 0),22,none⟩,
 ⟨some 6,.move (.tmp 1),92,none⟩,
 ⟨some 7,.call ⟨.value (.func 74),#[(.tmp 5),(.tmp 6)],#[22,92]⟩,3,none⟩,
 ⟨some 8,.binOp .geq 3 (.tmp 7) (.const (.int .i64 0)) 3,4,none⟩,
 ⟨some 4,.assign (.tmp 8),4,none⟩] [4]) (sg c79S0)))
attribute [go_sem] c79 c79S0
theorem ent79(a0 a1:Value)(w:World)(K:Value→World→Prop)(h:W Tryz.prog c79 [(0,a0),(1,a1)] w (finQ Tryz.prog [.tmp 4] K)):Ret Tryz.prog 79 [a0,a1] w K :=
 Ret_of_W (code:=c79code) Tryz.func79 (by kernel_rfl) (by kernel_rfl) (of_decide_eq_true (by kernel_rfl)) h
@[go_sem] theorem go79:goFunc Tryz.prog 79=true:=by kernel_rfl
def c80code:Code:=match Tryz.f80.body with | some c=>c | none=>.skip
def c80S0(_:Unit):Cmd:=.ret
def c80:Cmd:=(.seq (.ops [
 ⟨some 3,.box 38 (.tmp 0),0,none⟩,
 ⟨some 4,.assign (.const (.bool false)),4,none⟩] [1,2,3])
 (.seq (.ops [
 ⟨some 5,.fieldAddr 38 (.tmp 3) 0,0,none⟩,
 ⟨some 6,.load 3 (.tmp 5),3,none⟩,
 ⟨some 7,.fieldAddr 38 (.tmp 1) 0,0,none⟩,
 ⟨some 8,.load 3 (.tmp 7),3,none⟩,
 ⟨some 9,.binOp .neq 3 (.tmp 6) (.tmp 8) 3,4,none⟩,
 ⟨some 10,.move (.tmp 9),4,none⟩,
 ⟨some 11,.load 92 (.tmp 2),92,(some (10,true))⟩,
 ⟨some 12,.load 38 (.tmp 3),38,(some (10,true))⟩,
 ⟨some 13,.call ⟨.value (.tmp 11),#[(.tmp 12)],#[38]⟩,4,(some (10,true))⟩,
 ⟨some 14,.pick (.tmp 10) (.tmp 13) (.const (.bool false)),4,none⟩,
 ⟨some 4,.assign (.tmp 14),4,none⟩] [4]) (sg c80S0)))
attribute [go_sem] c80 c80S0
theorem ent80(a0 a1 a2:Value)(w:World)(K:Value→World→Prop)(h:W Tryz.prog c80 [(0,a0),(1,a1),(2,a2)] w (finQ Tryz.prog [.tmp 4] K)):Ret Tryz.prog 80 [a0,a1,a2] w K :=
 Ret_of_W (code:=c80code) Tryz.func80 (by kernel_rfl) (by kernel_rfl) (of_decide_eq_true (by kernel_rfl)) h
@[go_sem] theorem go80:goFunc Tryz.prog 80=true:=by kernel_rfl
def c81code:Code:=match Tryz.f81.body with | some c=>c | none=>.skip
def c81:Cmd:=(.seq (.ops [
 ⟨some 2,.box 38 (.tmp 0),0,none⟩,
 ⟨some 3,.assign (.const (.bool false)),4,none⟩] [1,2])
 (.seq (.ops [
 ⟨some 4,.fieldAddr 38 (.tmp 2) 2,0,none⟩,
 ⟨some 5,.load 3 (.tmp 4),3,none⟩,
 ⟨some 6,.fieldAddr 38 (.tmp 1) 2,0,none⟩,
 ⟨some 7,.load 3 (.tmp 6),3,none⟩,
 ⟨some 8,.binOp .eql 3 (.tmp 5) (.tmp 7) 3,4,none⟩,
 ⟨some 9,.move (.tmp 8),4,none⟩,
 ⟨some 10,.fieldAddr 38 (.tmp 2) 3,0,(some (9,true))⟩,
 ⟨some 11,.load 3 (.tmp 10),3,(some (9,true))⟩,
 ⟨some 12,.fieldAddr 38 (.tmp 1) 3,0,(some (9,true))⟩,
 ⟨some 13,.load 3 (.tmp 12),3,(some (9,true))⟩,
 ⟨some 14,.binOp .neq 3 (.tmp 11) (.tmp 13) 3,4,(some (9,true))⟩,
 ⟨some 15,.pick (.tmp 9) (.tmp 14) (.const (.bool false)),4,none⟩,
 ⟨some 3,.assign (.tmp 15),4,none⟩] [3])
 .ret))
attribute [go_sem] c81
theorem ent81(a0 a1:Value)(w:World)(K:Value→World→Prop)(h:W Tryz.prog c81 [(0,a0),(1,a1)] w (finQ Tryz.prog [.tmp 3] K)):Ret Tryz.prog 81 [a0,a1] w K :=
 Ret_of_W (code:=c81code) Tryz.func81 (by kernel_rfl) (by kernel_rfl) (of_decide_eq_true (by kernel_rfl)) h
@[go_sem] theorem go81:goFunc Tryz.prog 81=true:=by kernel_rfl
def c82code:Code:=match Tryz.f82.body with | some c=>c | none=>.skip
def c82S0(_:Unit):Cmd:=.ret
def c82:Cmd:=(.seq (.ops [
 ⟨some 2,.box 38 (.tmp 0),0,none⟩,
 ⟨some 3,.assign (.const (.bool false)),4,none⟩] [1,2])
 (.seq (.ops [
 ⟨some 4,.fieldAddr 38 (.tmp 2) 1,0,none⟩,
 ⟨some 5,.load 3 (.tmp 4),3,none⟩,
 ⟨some 6,.fieldAddr 38 (.tmp 1) 1,0,none⟩,
 ⟨some 7,.load 3 (.tmp 6),3,none⟩,
 ⟨some 8,.binOp .eql 3 (.tmp 5) (.tmp 7) 3,4,none⟩,
 ⟨some 9,.move (.tmp 8),4,none⟩,
 ⟨some 10,.load 38 (.tmp 2),38,(some (9,true))⟩,
 ⟨some 11,.load 38 (.tmp 1),38,(some (9,true))⟩,
 ⟨some 12,.call ⟨.value (.func 83),#[(.tmp 10),(.tmp 11)],#[38,38]⟩,4,(some (9,true))⟩,
 ⟨some 13,.pick (.tmp 9) (.tmp 12) (.const (.bool false)),4,none⟩,
 ⟨some 3,.assign (.tmp 13),4,none⟩] [3]) (sg c82S0)))
attribute [go_sem] c82 c82S0
theorem ent82(a0 a1:Value)(w:World)(K:Value→World→Prop)(h:W Tryz.prog c82 [(0,a0),(1,a1)] w (finQ Tryz.prog [.tmp 3] K)):Ret Tryz.prog 82 [a0,a1] w K :=
 Ret_of_W (code:=c82code) Tryz.func82 (by kernel_rfl) (by kernel_rfl) (of_decide_eq_true (by kernel_rfl)) h
@[go_sem] theorem go82:goFunc Tryz.prog 82=true:=by kernel_rfl
def c83code:Code:=match Tryz.f83.body with | some c=>c | none=>.skip
def c83S0(_:Unit):Cmd:=.ret
def c83:Cmd:=(.seq (.ops [
 ⟨some 2,.box 38 (.tmp 0),0,none⟩,
 ⟨some 3,.box 38 (.tmp 1),0,none⟩,
 ⟨some 4,.assign (.const (.bool false)),4,none⟩] [2,3])
 (.seq (.ops [
 ⟨some 5,.load 38 (.tmp 2),38,none⟩,
 ⟨some 6,.load 38 (.tmp 3),38,none⟩,
 ⟨some 7,.call ⟨.value (.func 88),#[(.tmp 5),(.tmp 6)],#[38,38]⟩,4,none⟩,
 ⟨some 8,.unOp .not 4 (.tmp 7),4,none⟩,
 ⟨some 9,.move (.tmp 8),4,none⟩,
 ⟨some 10,.load 38 (.tmp 3),38,(some (9,true))⟩,
 ⟨some 11,.load 38 (.tmp 2),38,(some (9,true))⟩,
 ⟨some 12,.call ⟨.value (.func 88),#[(.tmp 10),(.tmp 11)],#[38,38]⟩,4,(some (9,true))⟩,
 ⟨some 13,.unOp .not 4 (.tmp 12),4,(some (9,true))⟩,
 ⟨some 14,.pick (.tmp 9) (.tmp 13) (.const (.bool false)),4,none⟩,
 ⟨some 4,.assign (.tmp 14),4,none⟩] [4]) (sg c83S0)))
attribute [go_sem] c83 c83S0
theorem ent83(a0 a1:Value)(w:World)(K:Value→World→Prop)(h:W Tryz.prog c83 [(0,a0),(1,a1)] w (finQ Tryz.prog [.tmp 4] K)):Ret Tryz.prog 83 [a0,a1] w K :=
 Ret_of_W (code:=c83code) Tryz.func83 (by kernel_rfl) (by kernel_rfl) (of_decide_eq_true (by kernel_rfl)) h
@[go_sem] theorem go83:goFunc Tryz.prog 83=true:=by kernel_rfl
def c84code:Code:=match Tryz.f84.body with | some c=>c | none=>.skip
def c84:Cmd:=(.seq (.ops [
 ⟨some 6,.assign (.const (.bool false)),4,none⟩] [0,1,2])
 (.seq (.ops [
 ⟨some 7,.move (.tmp 0),3,none⟩,
 ⟨some 8,.move (.tmp 1),3,none⟩,
 ⟨some 9,.binOp .geq 3 (.tmp 7) (.tmp 8) 3,4,none⟩,
 ⟨some 10,.move (.tmp 9),4,none⟩,
 ⟨some 11,.move (.tmp 0),3,(some (10,true))⟩,
 ⟨some 12,.move (.tmp 2),3,(some (10,true))⟩,
 ⟨some 13,.binOp .leq 3 (.tmp 11) (.tmp 12) 3,4,(some (10,true))⟩,
 ⟨some 14,.pick (.tmp 10) (.tmp 13) (.const (.bool false)),4,none⟩,
 ⟨some 6,.assign (.tmp 14),4,none⟩] [6])
 .ret))
attribute [go_sem] c84
theorem ent84(a0 a1 a2:Value)(w:World)(K:Value→World→Prop)(h:W Tryz.prog c84 [(0,a0),(1,a1),(2,a2)] w (finQ Tryz.prog [.tmp 6] K)):Ret Tryz.prog 84 [a0,a1,a2] w K :=
 Ret_of_W (code:=c84code) Tryz.func84 (by kernel_rfl) (by kernel_rfl) (of_decide_eq_true (by kernel_rfl)) h
@[go_sem] theorem go84:goFunc Tryz.prog 84=true:=by kernel_rfl
def c85code:Code:=match Tryz.f85.body with | some c=>c | none=>.skip
def c85S0(_:Unit):Cmd:=(.ops [
 ⟨some 13,.move (.tmp 7),3,none⟩,
 ⟨some 14,.binOp .add 3 (.tmp 13) (.const (.int .i64 1)) 3,3,none⟩,
 ⟨some 7,.assign (.tmp 14),3,none⟩] [0,1,4,6,7])
def c85S1(_:Unit):Cmd:=(.seq (.block 1 (.seq (.ops [
 ⟨some 15,.move (.tmp 6),164,none⟩,
 ⟨some 16,.move (.tmp 7),3,none⟩,
 ⟨some 17,.indexAddr 164 (.tmp 15) (.tmp 16),0,none⟩,
 ⟨some 18,.fieldAddr 134 (.tmp 17) 0,0,none⟩,
 ⟨some 19,.load 3 (.tmp 18),3,none⟩,
 ⟨some 20,.move (.tmp 0),3,none⟩,
 ⟨some 21,.binOp .eql 3 (.tmp 19) (.tmp 20) 3,4,none⟩,
 ⟨some 22,.move (.tmp 21),4,none⟩,
 ⟨some 23,.move (.tmp 6),164,(some (22,true))⟩,
 ⟨some 24,.move (.tmp 7),3,(some (22,true))⟩,
 ⟨some 25,.indexAddr 164 (.tmp 23) (.tmp 24),0,(some (22,true))⟩,
 ⟨some 26,.fieldAddr 134 (.tmp 25) 1,0,(some (22,true))⟩,
 ⟨some 27,.load 3 (.tmp 26),3,(some (22,true))⟩,
 ⟨some 28,.move (.tmp 1),3,(some (22,true))⟩,
 ⟨some 29,.binOp .eql 3 (.tmp 27) (.tmp 28) 3,4,(some (22,true))⟩,
 ⟨some 30,.pick (.tmp 22) (.tmp 29) (.const (.bool false)),4,none⟩] [0,1,4,6,7,30])
 (.cond (.tmp 30)
 (.seq (.ops [
 ⟨some 31,.move (.tmp 6),164,none⟩,
 ⟨some 32,.move (.tmp 7),3,none⟩,
 ⟨some 33,.indexAddr 164 (.tmp 31) (.tmp 32),0,none⟩,
 ⟨some 34,.load 134 (.tmp 33),134,none⟩,
 ⟨none,.store 134 (.tmp 4) (.tmp 34),0,none⟩,
 ⟨some 5,.assign (.const (.bool true)),4,none⟩] [4,5])
 .ret)
 (.skip [0,1,4,6,7])))) (sg c85S0))
def c85L0(_:Unit):Cmd:=(.seq (.seq (.ops [
 ⟨some 9,.move (.tmp 7),3,none⟩,
 ⟨some 10,.move (.tmp 6),164,none⟩,
 ⟨some 11,.call ⟨.builtin .len,#[(.tmp 10)],#[164]⟩,3,none⟩,
 ⟨some 12,.binOp .lss 3 (.tmp 9) (.tmp 11) 3,4,none⟩] [0,1,4,6,7,12])
 (.cond (.tmp 12)
 (.skip [0,1,4,6,7])
 (.exit 0 [4]))) (sg c85S1))
def c85S2(_:Unit):Cmd:=(.seq (.ops [
 ⟨some 35,.build 134 #[],134,none⟩,
 ⟨none,.store 134 (.tmp 4) (.tmp 35),0,none⟩,
 ⟨some 5,.assign (.const (.bool false)),4,none⟩] [4,5])
 .ret)
def c85S3(_:Unit):Cmd:=(.seq (.seq (.ops [
 ⟨some 7,.assign (.const (.int .i64 0)),3,none⟩] [0,1,4,6,7])
 (.block 0 (.loop (sg c85L0)))) (sg c85S2))
def c85:Cmd:=(.seq (.ops [
 ⟨some 4,.alloc 134,0,none⟩,
 ⟨some 5,.assign (.const (.bool false)),4,none⟩] [0,1,4])
 (.seq (.ops [
 ⟨some 8,.call ⟨.value (.func 122),#[],#[]⟩,164,none⟩,
 ⟨some 6,.assign (.tmp 8),164,none⟩] [0,1,4,6]) (sg c85S3)))
attribute [go_sem] c85 c85S0 c85S1 c85L0 c85S2 c85S3
theorem ent85(a0 a1:Value)(w:World)(K:Value→World→Prop)(h:W Tryz.prog c85 [(0,a0),(1,a1)] w (finQ Tryz.prog [.cell 4 134,.tmp 5] K)):Ret Tryz.prog 85 [a0,a1] w K :=
 Ret_of_W (code:=c85code) Tryz.func85 (by kernel_rfl) (by kernel_rfl) (of_decide_eq_true (by kernel_rfl)) h
@[go_sem] theorem go85:goFunc Tryz.prog 85=true:=by kernel_rfl
def c86code:Code:=match Tryz.f86.body with | some c=>c | none=>.skip
def c86S0(_:Unit):Cmd:=.ret
def c86S1(_:Unit):Cmd:=.ret
def c86S2(_:Unit):Cmd:=.ret
def c86S3(_:Unit):Cmd:=(.seq (.ops [
 ⟨some 25,.move (.tmp 0),3,none⟩,
 ⟨some 26,.call ⟨.value (.func 84),#[(.tmp 25),(.const (.int .i64 (-1))),(.const (.int .i64 1073741824))],#[3,3,3]⟩,4,none⟩,
 ⟨some 4,.assign (.tmp 26),4,none⟩] [4]) (sg c86S2))
def c86S4(_:Unit):Cmd:=(.seq (.seq (.ops [
 ⟨some 21,.move (.tmp 1),3,none⟩,
 ⟨some 22,.binOp .eql 3 (.tmp 21) (.const (.int .i64 3)) 3,4,none⟩] [0,22])
 (.cond (.tmp 22)
 (.seq (.ops [
 ⟨some 23,.move (.tmp 0),3,none⟩,
 ⟨some 24,.call ⟨.value (.func 84),#[(.tmp 23),(.const (.int .i64 (-1073741824))),(.const (.int .i64 1073741824))],#[3,3,3]⟩,4,none⟩,
 ⟨some 4,.assign (.tmp 24),4,none⟩] [4]) (sg c86S1))
 (.skip [0]))) (sg c86S3))
def c86S5(_:Unit):Cmd:=(.seq (.seq (.ops [
 ⟨some 17,.move (.tmp 1),3,none⟩,
 ⟨some 18,.binOp .eql 3 (.tmp 17) (.const (.int .i64 2)) 3,4,none⟩] [0,1,18])
 (.cond (.tmp 18)
 (.seq (.ops [
 ⟨some 19,.move (.tmp 0),3,none⟩,
 ⟨some 20,.call ⟨.value (.func 84),#[(.tmp 19),(.const (.int .i64 0)),(.const (.int .i64 1073741824))],#[3,3,3]⟩,4,none⟩,
 ⟨some 4,.assign (.tmp 20),4,none⟩] [4]) (sg c86S0))
 (.skip [0,1]))) (sg c86S4))
def c86S6(_:Unit):Cmd:=(.seq (.seq (.ops [
 ⟨some 9,.move (.tmp 1),3,none⟩,
 ⟨some 10,.binOp .eql 3 (.tmp 9) (.const (.int .i64 1)) 3,4,none⟩] [0,1,10])
 (.cond (.tmp 10)
 (.seq (.ops [
 ⟨some 11,.move (.tmp 0),3,none⟩,
 ⟨some 12,.binOp .eql 3 (.tmp 11) (.const (.int .i64 0)) 3,4,none⟩,
 ⟨some 13,.move (.tmp 12),4,none⟩,
 ⟨some 14,.move (.tmp 0),3,(some (13,false))⟩,
 ⟨some 15,.binOp .eql 3 (.tmp 14) (.const (.int .i64 1)) 3,4,(some (13,false))⟩,
 ⟨some 16,.pick (.tmp 13) (.const (.bool true)) (.tmp 15),4,none⟩,
 ⟨some 4,.assign (.tmp 16),4,none⟩] [4])
 .ret)
 (.skip [0,1]))) (sg c86S5))
def c86:Cmd:=(.seq (.ops [
 ⟨some 4,.assign (.const (.bool false)),4,none⟩] [0,1])
 (.seq (.seq (.ops [
 ⟨some 5,.move (.tmp 1),3,none⟩,
 ⟨some 6,.binOp .eql 3 (.tmp 5) (.const (.int .i64 0)) 3,4,none⟩] [0,1,6])
 (.cond (.tmp 6)
 (.seq (.ops [
 ⟨some 7,.move (.tmp 0),3,none⟩,
 ⟨some 8,.binOp .eql 3 (.tmp 7) (.const (.int .i64 0)) 3,4,none⟩,
 ⟨some 4,.assign (.tmp 8),4,none⟩] [4])
 .ret)
 (.skip [0,1]))) (sg c86S6)))
attribute [go_sem] c86 c86S0 c86S1 c86S2 c86S3 c86S4 c86S5 c86S6
theorem ent86(a0 a1:Value)(w:World)(K:Value→World→Prop)(h:W Tryz.prog c86 [(0,a0),(1,a1)] w (finQ Tryz.prog [.tmp 4] K)):Ret Tryz.prog 86 [a0,a1] w K :=
 Ret_of_W (code:=c86code) Tryz.func86 (by kernel_rfl) (by kernel_rfl) (of_decide_eq_true (by kernel_rfl)) h
@[go_sem] theorem go86:goFunc Tryz.prog 86=true:=by kernel_rfl
def c87code:Code:=match Tryz.f87.body with | some c=>c | none=>.skip
def c87S0(_:Unit):Cmd:=.ret
def c87:Cmd:=(.seq (.ops [
 ⟨some 2,.box 38 (.tmp 0),0,none⟩,
 ⟨some 3,.assign (.const (.bool false)),4,none⟩] [1,2])
 (.seq (.ops [
 ⟨some 4,.load 38 (.tmp 2),38,none⟩,
 ⟨some 5,.load 38 (.tmp 1),38,none⟩,
 ⟨some 6,.call ⟨.value (.func 88),#[(.tmp 4),(.tmp 5)],#[38,38]⟩,4,none⟩,
 ⟨some 7,.unOp .not 4 (.tmp 6),4,none⟩,
 ⟨some 3,.assign (.tmp 7),4,none⟩] [3]) (sg c87S0)))
attribute [go_sem] c87 c87S0
theorem ent87(a0 a1:Value)(w:World)(K:Value→World→Prop)(h:W Tryz.prog c87 [(0,a0),(1,a1)] w (finQ Tryz.prog [.tmp 3] K)):Ret Tryz.prog 87 [a0,a1] w K :=
 Ret_of_W (code:=c87code) Tryz.func87 (by kernel_rfl) (by kernel_rfl) (of_decide_eq_true (by kernel_rfl)) h
@[go_sem] theorem go87:goFunc Tryz.prog 87=true:=by kernel_rfl
def c88code:Code:=match Tryz.f88.body with | some c=>c | none=>.skip
def c88:Cmd:=(.seq (.ops [
 ⟨some 2,.box 38 (.tmp 0),0,none⟩,
 ⟨some 3,.box 38 (.tmp 1),0,none⟩,
 ⟨some 4,.assign (.const (.bool false)),4,none⟩] [2,3])
 (.seq (.ops [
 ⟨some 5,.fieldAddr 38 (.tmp 2) 7,0,none⟩,
 ⟨some 6,.load 4 (.tmp 5),4,none⟩,
 ⟨some 7,.move (.tmp 6),4,none⟩,
 ⟨some 8,.fieldAddr 38 (.tmp 2) 10,0,(some (7,true))⟩,
 ⟨some 9,.load 3 (.tmp 8),3,(some (7,true))⟩,
 ⟨some 10,.fieldAddr 38 (.tmp 3) 9,0,(some (7,true))⟩,
 ⟨some 11,.load 3 (.tmp 10),3,(some (7,true))⟩,
 ⟨some 12,.binOp .lss 3 (.tmp 9) (.tmp 11) 3,4,(some (7,true))⟩,
 ⟨some 13,.pick (.tmp 7) (.tmp 12) (.const (.bool false)),4,none⟩,
 ⟨some 4,.assign (.tmp 13),4,none⟩] [4])
 .ret))
attribute [go_sem] c88
theorem ent88(a0 a1:Value)(w:World)(K:Value→World→Prop)(h:W Tryz.prog c88 [(0,a0),(1,a1)] w (finQ Tryz.prog [.tmp 4] K)):Ret Tryz.prog 88 [a0,a1] w K :=
 Ret_of_W (code:=c88code) Tryz.func88 (by kernel_rfl) (by kernel_rfl) (of_decide_eq_true (by kernel_rfl)) h
@[go_sem] theorem go88:goFunc Tryz.prog 88=true:=by kernel_rfl
def c89code:Code:=match Tryz.f89.body with | some c=>c | none=>.skip
def c89S0(_:Unit):Cmd:=.ret
def c89S1(_:Unit):Cmd:=(.seq (.ops [
 ⟨some 5,.buildSlice 66 0 #[],66,none⟩,
 ⟨some 6,.move (.tmp 0),66,none⟩,
 ⟨some 7,.call ⟨.builtin .append,#[(.tmp 5),(.tmp 6)],#[66,66]⟩,66,none⟩,
 ⟨some 2,.assign (.tmp 7),66,none⟩] [2]) (sg c89S0))
def c89:Cmd:=(.seq (.ops [
 ⟨some 2,.assign (.const (.slice none 0 0)),66,none⟩] [0])
 (.seq (.seq (.ops [
 ⟨some 3,.move (.tmp 0),66,none⟩,
 ⟨some 4,.binOp .eql 66 (.tmp 3) (.const (.slice none 0 0)) 66,4,none⟩] [0,4])
 (.cond (.tmp 4)
 (.seq (.ops [
 ⟨some 2,.assign (.const (.slice none 0 0)),66,none⟩] [2])
 .ret)
 (.skip [0]))) (sg c89S1)))
attribute [go_sem] c89 c89S0 c89S1
theorem ent89(a0:Value)(w:World)(K:Value→World→Prop)(h:W Tryz.prog c89 [(0,a0)] w (finQ Tryz.prog [.tmp 2] K)):Ret Tryz.prog 89 [a0] w K :=
 Ret_of_W (code:=c89code) Tryz.func89 (by kernel_rfl) (by kernel_rfl) (of_decide_eq_true (by kernel_rfl)) h
@[go_sem] theorem go89:goFunc Tryz.prog 89=true:=by kernel_rfl
def c91code:Code:=match Tryz.f91.body with | some c=>c | none=>.skip
def c91S0(_:Unit):Cmd:=.ret
def c91:Cmd:=(.seq (.ops [
 ⟨some 4,.assign (.const (.int .i64 0)),3,none⟩] [0,1])
 (.seq (.ops [
 ⟨some 5,.move (.tmp 0),66,none⟩,
 ⟨some 6,.call ⟨.value (.func 93),#[(.tmp 5)],#[66]⟩,9,none⟩,
 ⟨some 7,.move (.tmp 1),66,none⟩,
 ⟨some 8,.call ⟨.value (.func 93),#[(.tmp 7)],#[66]⟩,9,none⟩,
 ⟨some 9,.call ⟨.value (.func 92),#[(.tmp 6),(.tmp 8)],#[9,9]⟩,3,none⟩,
 ⟨some 4,.assign (.tmp 9),3,none⟩] [4]) (sg c91S0)))
attribute [go_sem] c91 c91S0
theorem ent91(a0 a1:Value)(w:World)(K:Value→World→Prop)(h:W Tryz.prog c91 [(0,a0),(1,a1)] w (finQ Tryz.prog [.tmp 4] K)):Ret Tryz.prog 91 [a0,a1] w K :=
 Ret_of_W (code:=c91code) Tryz.func91 (by kernel_rfl) (by kernel_rfl) (of_decide_eq_true (by kernel_rfl)) h
@[go_sem] theorem go91:goFunc Tryz.prog 91=true:=by kernel_rfl
def c92code:Code:=match Tryz.f92.body with | some c=>c | none=>.skip
def c92S0(_:Unit):Cmd:=.ret
def c92:Cmd:=(.seq (.ops [
 ⟨some 4,.assign (.const (.int .i64 0)),3,none⟩] [0,1])
 (.seq (.ops [
 ⟨some 5,.move (.tmp 0),9,none⟩,
 ⟨some 6,.move (.tmp 1),9,none⟩,
 ⟨some 7,.call ⟨.value (.func 124),#[(.tmp 5),(.tmp 6)],#[9,9]⟩,3,none⟩,
 ⟨some 4,.assign (.tmp 7),3,none⟩] [4]) (sg c92S0)))
attribute [go_sem] c92 c92S0
theorem ent92(a0 a1:Value)(w:World)(K:Value→World→Prop)(h:W Tryz.prog c92 [(0,a0),(1,a1)] w (finQ Tryz.prog [.tmp 4] K)):Ret Tryz.prog 92 [a0,a1] w K :=
 Ret_of_W (code:=c92code) Tryz.func92 (by kernel_rfl) (by kernel_rfl) (of_decide_eq_true (by kernel_rfl)) h
@[go_sem] theorem go92:goFunc Tryz.prog 92=true:=by kernel_rfl
def c93code:Code:=match Tryz.f93.body with | some c=>c | none=>.skip
def c93S0(_:Unit):Cmd:=(.ops [
 ⟨some 21,.binOp .add 3 (.tmp 12) (.const (.int .i64 1)) 3,3,none⟩,
 ⟨some 12,.move (.tmp 21),3,none⟩] [3,10,11,12])
def c93S1(_:Unit):Cmd:=(.seq (.block 1 (.seq (.ops [
 ⟨some 14,.indexAddr 66 (.tmp 10) (.tmp 12),0,none⟩,
 ⟨some 15,.load 3 (.tmp 14),3,none⟩,
 ⟨some 5,.assign (.tmp 15),3,none⟩] [3,5,10,11,12])
 (.ops [
 ⟨some 16,.move (.tmp 3),9,none⟩,
 ⟨some 17,.move (.tmp 5),3,none⟩,
 ⟨some 18,.call ⟨.value (.func 126),#[(.tmp 17)],#[3]⟩,155,none⟩,
 ⟨some 19,.call ⟨.value (.func 125),#[(.tmp 18)],#[155]⟩,9,none⟩,
 ⟨some 20,.binOp .add 9 (.tmp 16) (.tmp 19) 9,9,none⟩,
 ⟨some 3,.assign (.tmp 20),9,none⟩] [3,10,11,12]))) (sg c93S0))
def c93L0(_:Unit):Cmd:=(.seq (.ops [
 ⟨some 13,.binOp .lss 3 (.tmp 12) (.tmp 11) 3,0,none⟩] [3,10,11,12,13])
 (.seq (.cond (.tmp 13)
 (.skip [3,10,11,12])
 (.exit 0 [3])) (sg c93S1)))
def c93S2(_:Unit):Cmd:=(.seq (.ops [
 ⟨some 22,.move (.tmp 3),9,none⟩,
 ⟨some 2,.assign (.tmp 22),9,none⟩] [2])
 .ret)
def c93S3(_:Unit):Cmd:=(.seq (.seq (.ops [
 ⟨some 10,.move (.tmp 0),66,none⟩,
 ⟨some 11,.call ⟨.builtin .len,#[(.tmp 10)],#[66]⟩,3,none⟩,
 ⟨some 12,.move (.const (.int .i64 0)),3,none⟩] [3,10,11,12])
 (.block 0 (.loop (sg c93L0)))) (sg c93S2))
def c93:Cmd:=(.seq (.ops [
 ⟨some 2,.assign (.const (.string (ofL []))),9,none⟩] [0])
 (.seq (.ops [
 ⟨some 6,.move (.tmp 0),66,none⟩,
 ⟨some 7,.call ⟨.builtin .len,#[(.tmp 6)],#[66]⟩,3,none⟩,
 ⟨some 8,.convert 3 155 (.tmp 7),155,none⟩,
 ⟨some 9,.call ⟨.value (.func 125),#[(.tmp 8)],#[155]⟩,9,none⟩,
 ⟨some 3,.assign (.tmp 9),9,none⟩] [0,3]) (sg c93S3)))
attribute [go_sem] c93 c93S0 c93S1 c93L0 c93S2 c93S3
theorem ent93(a0:Value)(w:World)(K:Value→World→Prop)(h:W Tryz.prog c93 [(0,a0)] w (finQ Tryz.prog [.tmp 2] K)):Ret Tryz.prog 93 [a0] w K :=
 Ret_of_W (code:=c93code) Tryz.func93 (by kernel_rfl) (by kernel_rfl) (of_decide_eq_true (by kernel_rfl)) h
@[go_sem] theorem go93:goFunc Tryz.prog 93=true:=by kernel_rfl
def c94code:Code:=match Tryz.f94.body with | some c=>c | none=>.skip
def c94S0(_:Unit):Cmd:=(.cond (.tmp 49)
 (.seq (.ops [
 ⟨some 50,.move (.tmp 0),74,none⟩,
 ⟨some 51,.move (.tmp 5),3,none⟩,
 ⟨some 52,.move (.tmp 6),74,none⟩,
 ⟨some 53,.move (.tmp 7),3,none⟩,
 ⟨some 54,.indexAddr 74 (.tmp 52) (.tmp 53),0,none⟩,
 ⟨some 55,.load 66 (.tmp 54),66,none⟩,
 ⟨some 56,.indexAddr 74 (.tmp 50) (.tmp 51),0,none⟩,
 ⟨none,.store 66 (.tmp 56) (.tmp 55),0,none⟩] [0,1,5,6,7])
 (.ops [
 ⟨some 57,.move (.tmp 5),3,none⟩,
 ⟨some 58,.binOp .add 3 (.tmp 57) (.const (.int .i64 1)) 3,3,none⟩,
 ⟨some 5,.assign (.tmp 58),3,none⟩] [0,1,5,6,7]))
 (.skip [0,1,5,6,7]))
def c94S1(_:Unit):Cmd:=(.ops [
 ⟨some 36,.move (.tmp 7),3,none⟩,
 ⟨some 37,.binOp .add 3 (.tmp 36) (.const (.int .i64 1)) 3,3,none⟩,
 ⟨some 7,.assign (.tmp 37),3,none⟩] [0,1,5,6,7])
def c94S2(_:Unit):Cmd:=(.seq (.block 3 (.seq (.draw (drawOps 1 c94code) [0,1,5,6,7,49]) (sg c94S0))) (sg c94S1))
def c94L0(_:Unit):Cmd:=(.seq (.seq (.ops [
 ⟨some 32,.move (.tmp 7),3,none⟩,
 ⟨some 33,.move (.tmp 6),74,none⟩,
 ⟨some 34,.call ⟨.builtin .len,#[(.tmp 33)],#[74]⟩,3,none⟩,
 ⟨some 35,.binOp .lss 3 (.tmp 32) (.tmp 34) 3,4,none⟩] [0,1,5,6,7,35])
 (.cond (.tmp 35)
 (.skip [0,1,5,6,7])
 (.exit 2 [0,5]))) (sg c94S2))
def c94S3(_:Unit):Cmd:=(.seq (.ops [
 ⟨some 62,.move (.tmp 0),74,none⟩,
 ⟨some 63,.move (.tmp 5),3,none⟩,
 ⟨some 64,.slice 74 (.tmp 62) none (some (.tmp 63)) none,74,none⟩,
 ⟨some 4,.assign (.tmp 64),74,none⟩] [4])
 .ret)
def c94S4(_:Unit):Cmd:=(.seq (.ops [
 ⟨some 59,.move (.tmp 0),74,none⟩,
 ⟨some 60,.move (.tmp 5),3,none⟩,
 ⟨some 61,.slice 74 (.tmp 59) (some (.tmp 60)) none none,74,none⟩,
 ⟨none,.call ⟨.builtin .clear,#[(.tmp 61)],#[74]⟩,0,none⟩] [0,5]) (sg c94S3))
def c94S5(_:Unit):Cmd:=(.cond (.tmp 28)
 (.seq (.ops [
 ⟨some 29,.move (.tmp 0),74,none⟩,
 ⟨some 30,.move (.tmp 5),3,none⟩,
 ⟨some 31,.slice 74 (.tmp 29) (some (.tmp 30)) none none,74,none⟩,
 ⟨some 6,.assign (.tmp 31),74,none⟩] [0,1,5,6])
 (.seq (.seq (.ops [
 ⟨some 7,.assign (.const (.int .i64 1)),3,none⟩] [0,1,5,6,7])
 (.block 2 (.loop (sg c94L0)))) (sg c94S4)))
 (.skip [0,1,5]))
def c94S6(_:Unit):Cmd:=(.ops [
 ⟨some 16,.move (.tmp 5),3,none⟩,
 ⟨some 17,.binOp .add 3 (.tmp 16) (.const (.int .i64 1)) 3,3,none⟩,
 ⟨some 5,.assign (.tmp 17),3,none⟩] [0,1,5])
def c94S7(_:Unit):Cmd:=(.seq (.block 1 (.seq (.draw (drawOps 0 c94code) [0,1,5,28]) (sg c94S5))) (sg c94S6))
def c94L1(_:Unit):Cmd:=(.seq (.seq (.ops [
 ⟨some 12,.move (.tmp 5),3,none⟩,
 ⟨some 13,.move (.tmp 0),74,none⟩,
 ⟨some 14,.call ⟨.builtin .len,#[(.tmp 13)],#[74]⟩,3,none⟩,
 ⟨some 15,.binOp .lss 3 (.tmp 12) (.tmp 14) 3,4,none⟩] [0,1,5,15])
 (.cond (.tmp 15)
 (.skip [0,1,5])
 (.exit 0 [0]))) (sg c94S7))
def c94S8(_:Unit):Cmd:=(.seq (.ops [
 ⟨some 65,.move (.tmp 0),74,none⟩,
 ⟨some 4,.assign (.tmp 65),74,none⟩] [4])
 .ret)
def c94S9(_:Unit):Cmd:=(.seq (.seq (.ops [
 ⟨some 5,.assign (.const (.int .i64 1)),3,none⟩] [0,1,5])
 (.block 0 (.loop (sg c94L1)))) (sg c94S8))
def c94:Cmd:=(.seq (.ops [
 ⟨some 4,.assign (.const (.slice none 0 0)),74,none⟩] [0,1])
 (.seq (.seq (.ops [
 ⟨some 8,.move (.tmp 0),74,none⟩,
 ⟨some 9,.call ⟨.builtin .len,#[(.tmp 8)],#[74]⟩,3,none⟩,
 ⟨some 10,.binOp .lss 3 (.tmp 9) (.const (.int .i64 2)) 3,4,none⟩] [0,1,10])
 (.cond (.tmp 10)
 (.seq (.ops [
 ⟨some 11,.move (.tmp 0),74,none⟩,
 ⟨some 4,.assign (.tmp 11),74,none⟩] [4])
 .ret)
 (.skip [0,1]))) (sg c94S9)))
attribute [go_sem] c94 c94S0 c94S1 c94S2 c94L0 c94S3 c94S4 c94S5 c94S6 c94S7 c94L1 c94S8 c94S9
def c94D0:List (Nat × Ins):=[
 (0,⟨some 18,.move (.tmp 1),142,none⟩),
 (0,⟨some 19,.move (.tmp 0),74,none⟩),
 (0,⟨some 20,.move (.tmp 5),3,none⟩),
 (0,⟨some 21,.indexAddr 74 (.tmp 19) (.tmp 20),0,none⟩),
 (0,⟨some 23,.move (.tmp 0),74,none⟩),
 (0,⟨some 24,.move (.tmp 5),3,none⟩),
 (0,⟨some 25,.binOp .sub 3 (.tmp 24) (.const (.int .i64 1)) 3,3,none⟩),
 (0,⟨some 26,.indexAddr 74 (.tmp 23) (.tmp 25),0,none⟩),
 (1,⟨some 22,.load 66 (.tmp 21),66,none⟩),
 (2,⟨some 27,.load 66 (.tmp 26),66,none⟩),
 (3,⟨some 28,.call ⟨.value (.tmp 18),#[(.tmp 22),(.tmp 27)],#[66,66]⟩,4,none⟩)]
theorem c94draw0{L:List Nat}{ρ:Env}{w:World}{Q:Post}(S:World→Prop)(hS:S w.drew)(h:DG Tryz.prog S c94D0 L ρ w.drew Q):drawW Tryz.prog (drawOps 0 c94code) L ρ w Q :=
 drawW_held [4] [(0,0),(0,1),(0,2),(0,3),(0,5),(0,6),(0,7),(0,8),(1,4),(2,9),(3,10)] c94D0 (by kernel_rfl) (by kernel_rfl) (by kernel_rfl) S hS h
def c94D1:List (Nat × Ins):=[
 (0,⟨some 38,.move (.tmp 1),142,none⟩),
 (0,⟨some 39,.move (.tmp 6),74,none⟩),
 (0,⟨some 40,.move (.tmp 7),3,none⟩),
 (0,⟨some 41,.indexAddr 74 (.tmp 39) (.tmp 40),0,none⟩),
 (0,⟨some 43,.move (.tmp 6),74,none⟩),
 (0,⟨some 44,.move (.tmp 7),3,none⟩),
 (0,⟨some 45,.binOp .sub 3 (.tmp 44) (.const (.int .i64 1)) 3,3,none⟩),
 (0,⟨some 46,.indexAddr 74 (.tmp 43) (.tmp 45),0,none⟩),
 (1,⟨some 42,.load 66 (.tmp 41),66,none⟩),
 (2,⟨some 47,.load 66 (.tmp 46),66,none⟩),
 (3,⟨some 48,.call ⟨.value (.tmp 38),#[(.tmp 42),(.tmp 47)],#[66,66]⟩,4,none⟩),
 (0,⟨some 49,.unOp .not 4 (.tmp 48),4,none⟩)]
theorem c94draw1{L:List Nat}{ρ:Env}{w:World}{Q:Post}(S:World→Prop)(hS:S w.drew)(h:DG Tryz.prog S c94D1 L ρ w.drew Q):drawW Tryz.prog (drawOps 1 c94code) L ρ w Q :=
 drawW_held [4] [(0,0),(0,1),(0,2),(0,3),(0,5),(0,6),(0,7),(0,8),(1,4),(2,9),(3,10),(0,11)] c94D1 (by kernel_rfl) (by kernel_rfl) (by kernel_rfl) S hS h
theorem ent94(a0 a1:Value)(w:World)(K:Value→World→Prop)(h:W Tryz.prog c94 [(0,a0),(1,a1)] w (finQ Tryz.prog [.tmp 4] K)):Ret Tryz.prog 94 [a0,a1] w K :=
 Ret_of_W (code:=c94code) Tryz.func94 (by kernel_rfl) (by kernel_rfl) (of_decide_eq_true (by kernel_rfl)) h
@[go_sem] theorem go94:goFunc Tryz.prog 94=true:=by kernel_rfl
def c95code:Code:=match Tryz.f95.body with | some c=>c | none=>.skip
def c95S0(_:Unit):Cmd:=.ret
def c95:Cmd:=(.seq (.ops [
 ⟨some 4,.assign (.const (.bool false)),4,none⟩] [0,1])
 (.seq (.ops [
 ⟨some 5,.move (.tmp 0),66,none⟩,
 ⟨some 6,.move (.tmp 1),66,none⟩,
 ⟨some 7,.call ⟨.value (.func 96),#[(.tmp 5),(.tmp 6)],#[66,66]⟩,4,none⟩,
 ⟨some 4,.assign (.tmp 7),4,none⟩] [4]) (sg c95S0)))
attribute [go_sem] c95 c95S0
theorem ent95(a0 a1:Value)(w:World)(K:Value→World→Prop)(h:W Tryz.prog c95 [(0,a0),(1,a1)] w (finQ Tryz.prog [.tmp 4] K)):Ret Tryz.prog 95 [a0,a1] w K :=
 Ret_of_W (code:=c95code) Tryz.func95 (by kernel_rfl) (by kernel_rfl) (of_decide_eq_true (by kernel_rfl)) h
@[go_sem] theorem go95:goFunc Tryz.prog 95=true:=by kernel_rfl
def c96code:Code:=match Tryz.f96.body with | some c=>c | none=>.skip
def c96S0(_:Unit):Cmd:=(.cond (.tmp 24)
 (.seq (.ops [
 ⟨some 4,.assign (.const (.bool false)),4,none⟩] [4])
 .ret)
 (.skip [0,1,12,13]))
def c96S1(_:Unit):Cmd:=(.ops [
 ⟨some 25,.binOp .add 3 (.tmp 13) (.const (.int .i64 1)) 3,3,none⟩,
 ⟨some 13,.move (.tmp 25),3,none⟩] [0,1,12,13])
def c96S2(_:Unit):Cmd:=(.seq (.block 1 (.seq (.ops [
 ⟨some 15,.move (.tmp 13),3,none⟩,
 ⟨some 5,.assign (.tmp 15),3,none⟩] [0,1,5,12,13])
 (.seq (.draw (drawOps 0 c96code) [0,1,12,13,24]) (sg c96S0)))) (sg c96S1))
def c96L0(_:Unit):Cmd:=(.seq (.ops [
 ⟨some 14,.binOp .lss 3 (.tmp 13) (.tmp 12) 3,0,none⟩] [0,1,12,13,14])
 (.seq (.cond (.tmp 14)
 (.skip [0,1,12,13])
 (.exit 0 [])) (sg c96S2)))
def c96S3(_:Unit):Cmd:=(.seq (.ops [
 ⟨some 4,.assign (.const (.bool true)),4,none⟩] [4])
 .ret)
def c96S4(_:Unit):Cmd:=(.seq (.seq (.ops [
 ⟨some 11,.move (.tmp 0),66,none⟩,
 ⟨some 12,.call ⟨.builtin .len,#[(.tmp 11)],#[66]⟩,3,none⟩,
 ⟨some 13,.move (.const (.int .i64 0)),3,none⟩] [0,1,12,13])
 (.block 0 (.loop (sg c96L0)))) (sg c96S3))
def c96:Cmd:=(.seq (.ops [
 ⟨some 4,.assign (.const (.bool false)),4,none⟩] [0,1])
 (.seq (.seq (.ops [
 ⟨some 6,.move (.tmp 0),66,none⟩,
 ⟨some 7,.call ⟨.builtin .len,#[(.tmp 6)],#[66]⟩,3,none⟩,
 ⟨some 8,.move (.tmp 1),66,none⟩,
 ⟨some 9,.call ⟨.builtin .len,#[(.tmp 8)],#[66]⟩,3,none⟩,
 ⟨some 10,.binOp .neq 3 (.tmp 7) (.tmp 9) 3,4,none⟩] [0,1,10])
 (.cond (.tmp 10)
 (.seq (.ops [
 ⟨some 4,.assign (.const (.bool false)),4,none⟩] [4])
 .ret)
 (.skip [0,1]))) (sg c96S4)))
attribute [go_sem] c96 c96S0 c96S1 c96S2 c96L0 c96S3 c96S4
def c96D0:List (Bool × Ins):=[
 (true,⟨some 16,.move (.tmp 0),66,none⟩),
 (true,⟨some 17,.move (.tmp 5),3,none⟩),
 (true,⟨some 18,.indexAddr 66 (.tmp 16) (.tmp 17),0,none⟩),
 (false,⟨some 19,.load 3 (.tmp 18),3,none⟩),
 (true,⟨some 20,.move (.tmp 1),66,none⟩),
 (true,⟨some 21,.move (.tmp 5),3,none⟩),
 (true,⟨some 22,.indexAddr 66 (.tmp 20) (.tmp 21),0,none⟩),
 (false,⟨some 23,.load 3 (.tmp 22),3,none⟩),
 (true,⟨some 24,.binOp .neq 3 (.tmp 19) (.tmp 23) 3,4,none⟩)]
theorem c96draw0{L:List Nat}{ρ:Env}{w:World}{Q:Post}(h:DL Tryz.prog c96D0 L ρ w.drew Q):drawW Tryz.prog (drawOps 0 c96code) L ρ w Q :=
 drawW_still [true,true,true,false,true,true,true,false,true] c96D0 (by kernel_rfl) (by kernel_rfl) (by kernel_rfl) h
theorem ent96(a0 a1:Value)(w:World)(K:Value→World→Prop)(h:W Tryz.prog c96 [(0,a0),(1,a1)] w (finQ Tryz.prog [.tmp 4] K)):Ret Tryz.prog 96 [a0,a1] w K :=
 Ret_of_W (code:=c96code) Tryz.func96 (by kernel_rfl) (by kernel_rfl) (of_decide_eq_true (by kernel_rfl)) h
@[go_sem] theorem go96:goFunc Tryz.prog 96=true:=by kernel_rfl
def c97code:Code:=match Tryz.f97.body with | some c=>c | none=>.skip
def c97S0(_:Unit):Cmd:=.ret
def c97S1(_:Unit):Cmd:=(.seq (.ops [
 ⟨some 18,.move (.tmp 7),66,none⟩,
 ⟨some 19,.load 38 (.tmp 3),38,none⟩,
 ⟨some 20,.call ⟨.value (.func 127),#[(.tmp 18),(.tmp 19)],#[66,38]⟩,143,none⟩,
 ⟨some 21,.extract (.tmp 20) 0,66,none⟩,
 ⟨some 22,.extract (.tmp 20) 1,3,none⟩,
 ⟨some 23,.extract (.tmp 20) 2,4,none⟩,
 ⟨some 4,.assign (.tmp 21),66,none⟩,
 ⟨some 5,.assign (.tmp 22),3,none⟩,
 ⟨some 6,.assign (.tmp 23),4,none⟩] [4,5,6]) (sg c97S0))
def c97S2(_:Unit):Cmd:=.ret
def c97S3(_:Unit):Cmd:=.ret
def c97S4(_:Unit):Cmd:=(.cond (.tmp 55)
 (.seq (.ops [
 ⟨some 4,.assign (.const (.slice none 0 0)),66,none⟩,
 ⟨some 5,.assign (.const (.int .i64 0)),3,none⟩,
 ⟨some 6,.assign (.const (.bool true)),4,none⟩] [4,5,6])
 .ret)
 (.skip []))
def c97S5(_:Unit):Cmd:=(.cond (.tmp 24)
 (.seq (.ops [
 ⟨some 27,.move (.tmp 7),66,none⟩,
 ⟨some 28,.load 38 (.tmp 3),38,none⟩,
 ⟨some 29,.call ⟨.value (.func 128),#[(.tmp 27),(.tmp 28)],#[66,38]⟩,143,none⟩,
 ⟨some 30,.extract (.tmp 29) 0,66,none⟩,
 ⟨some 31,.extract (.tmp 29) 1,3,none⟩,
 ⟨some 32,.extract (.tmp 29) 2,4,none⟩,
 ⟨some 4,.assign (.tmp 30),66,none⟩,
 ⟨some 5,.assign (.tmp 31),3,none⟩,
 ⟨some 6,.assign (.tmp 32),4,none⟩] [4,5,6]) (sg c97S2))
 (.seq (.ops [
 ⟨some 34,.binOp .eql 3 (.tmp 11) (.const (.int .i64 5)) 3,4,none⟩,
 ⟨some 33,.assign (.tmp 34),4,none⟩] [3,7,11,33])
 (.cond (.tmp 33)
 (.seq (.ops [
 ⟨some 35,.move (.tmp 7),66,none⟩,
 ⟨some 36,.load 38 (.tmp 3),38,none⟩,
 ⟨some 37,.call ⟨.value (.func 129),#[(.tmp 35),(.tmp 36)],#[66,38]⟩,143,none⟩,
 ⟨some 38,.extract (.tmp 37) 0,66,none⟩,
 ⟨some 39,.extract (.tmp 37) 1,3,none⟩,
 ⟨some 40,.extract (.tmp 37) 2,4,none⟩,
 ⟨some 4,.assign (.tmp 38),66,none⟩,
 ⟨some 5,.assign (.tmp 39),3,none⟩,
 ⟨some 6,.assign (.tmp 40),4,none⟩] [4,5,6]) (sg c97S3))
 (.seq (.ops [
 ⟨some 42,.binOp .eql 3 (.tmp 11) (.const (.int .i64 6)) 3,4,none⟩,
 ⟨some 41,.assign (.tmp 42),4,none⟩] [3,7,41])
 (.cond (.tmp 41)
 (.block 1 (.seq (.ops [
 ⟨some 44,.fieldAddr 38 (.tmp 3) 4,0,none⟩,
 ⟨some 45,.load 3 (.tmp 44),3,none⟩,
 ⟨some 46,.binOp .eql 3 (.tmp 45) (.const (.int .i64 13)) 3,4,none⟩,
 ⟨some 47,.move (.tmp 46),4,none⟩,
 ⟨some 48,.move (.tmp 7),66,(some (47,true))⟩,
 ⟨some 49,.call ⟨.builtin .len,#[(.tmp 48)],#[66]⟩,3,(some (47,true))⟩,
 ⟨some 50,.binOp .eql 3 (.tmp 49) (.const (.int .i64 0)) 3,4,(some (47,true))⟩,
 ⟨some 51,.pick (.tmp 47) (.tmp 50) (.const (.bool false)),4,none⟩,
 ⟨some 43,.assign (.tmp 51),4,none⟩] [3,7,43])
 (.cond (.tmp 43)
 (.seq (.ops [
 ⟨some 52,.fieldAddr 38 (.tmp 3) 1,0,none⟩,
 ⟨some 53,.load 3 (.tmp 52),3,none⟩,
 ⟨some 54,.buildSlice 66 1 #[(0,(.tmp 53))],66,none⟩,
 ⟨some 4,.assign (.tmp 54),66,none⟩,
 ⟨some 5,.assign (.const (.int .i64 0)),3,none⟩,
 ⟨some 6,.assign (.const (.bool true)),4,none⟩] [4,5,6])
 .ret)
 (.seq (.draw (drawOps 0 c97code) [55]) (sg c97S4)))))
 (.skip []))))))
def c97S6(_:Unit):Cmd:=(.cond (.tmp 12)
 (.seq (.seq (.ops [
 ⟨some 15,.move (.tmp 7),66,none⟩,
 ⟨some 16,.call ⟨.builtin .len,#[(.tmp 15)],#[66]⟩,3,none⟩,
 ⟨some 17,.binOp .neq 3 (.tmp 16) (.const (.int .i64 1)) 3,4,none⟩] [3,7,17])
 (.cond (.tmp 17)
 (.seq (.ops [
 ⟨some 4,.assign (.const (.slice none 0 0)),66,none⟩,
 ⟨some 5,.assign (.const (.int .i64 0)),3,none⟩,
 ⟨some 6,.assign (.const (.bool false)),4,none⟩] [4,5,6])
 .ret)
 (.skip [3,7]))) (sg c97S1))
 (.seq (.seq (.ops [
 ⟨some 25,.binOp .eql 3 (.tmp 11) (.const (.int .i64 3)) 3,4,none⟩,
 ⟨some 24,.assign (.tmp 25),4,none⟩] [3,7,11,24])
 (.cond (.tmp 24)
 (.skip [3,7,11,24])
 (.ops [
 ⟨some 26,.binOp .eql 3 (.tmp 11) (.const (.int .i64 4)) 3,4,none⟩,
 ⟨some 24,.assign (.tmp 26),4,none⟩] [3,7,11,24]))) (sg c97S5)))
def c97S7(_:Unit):Cmd:=(.seq (.ops [
 ⟨some 4,.assign (.const (.slice none 0 0)),66,none⟩,
 ⟨some 5,.assign (.const (.int .i64 0)),3,none⟩,
 ⟨some 6,.assign (.const (.bool false)),4,none⟩] [4,5,6])
 .ret)
def c97S8(_:Unit):Cmd:=(.seq (.seq (.ops [
 ⟨some 10,.fieldAddr 38 (.tmp 3) 3,0,none⟩,
 ⟨some 11,.load 3 (.tmp 10),3,none⟩] [3,7,11])
 (.block 0 (.seq (.seq (.ops [
 ⟨some 13,.binOp .eql 3 (.tmp 11) (.const (.int .i64 1)) 3,4,none⟩,
 ⟨some 12,.assign (.tmp 13),4,none⟩] [3,7,11,12])
 (.cond (.tmp 12)
 (.skip [3,7,11,12])
 (.ops [
 ⟨some 14,.binOp .eql 3 (.tmp 11) (.const (.int .i64 2)) 3,4,none⟩,
 ⟨some 12,.assign (.tmp 14),4,none⟩] [3,7,11,12]))) (sg c97S6)))) (sg c97S7))
def c97:Cmd:=(.seq (.ops [
 ⟨some 3,.box 38 (.tmp 1),0,none⟩,
 ⟨some 4,.assign (.const (.slice none 0 0)),66,none⟩,
 ⟨some 5,.assign (.const (.int .i64 0)),3,none⟩,
 ⟨some 6,.assign (.const (.bool false)),4,none⟩] [0,3])
 (.seq (.ops [
 ⟨some 8,.move (.tmp 0),66,none⟩,
 ⟨some 9,.call ⟨.value (.func 89),#[(.tmp 8)],#[66]⟩,66,none⟩,
 ⟨some 7,.assign (.tmp 9),66,none⟩] [3,7]) (sg c97S8)))
attribute [go_sem] c97 c97S0 c97S1 c97S2 c97S3 c97S4 c97S5 c97S6 c97S7
def c97D0:List (Bool × Ins):=[
 (true,⟨some 56,.fieldAddr 38 (.tmp 3) 4,0,none⟩),
 (false,⟨some 57,.load 3 (.tmp 56),3,none⟩),
 (true,⟨some 58,.binOp .eql 3 (.tmp 57) (.const (.int .i64 14)) 3,4,none⟩),
 (true,⟨some 59,.move (.tmp 58),4,none⟩),
 (true,⟨some 60,.move (.tmp 7),66,(some (59,true))⟩),
 (true,⟨some 61,.call ⟨.builtin .len,#[(.tmp 60)],#[66]⟩,3,(some (59,true))⟩),
 (true,⟨some 62,.binOp .eql 3 (.tmp 61) (.const (.int .i64 1)) 3,4,(some (59,true))⟩),
 (true,⟨some 63,.pick (.tmp 59) (.tmp 62) (.const (.bool false)),4,none⟩),
 (true,⟨some 64,.move (.tmp 63),4,none⟩),
 (true,⟨some 65,.move (.tmp 7),66,(some (64,true))⟩),
 (true,⟨some 66,.indexAddr 66 (.tmp 65) (.const (.int .i64 0)),0,(some (64,true))⟩),
 (false,⟨some 67,.load 3 (.tmp 66),3,(some (64,true))⟩),
 (true,⟨some 68,.fieldAddr 38 (.tmp 3) 1,0,(some (64,true))⟩),
 (false,⟨some 69,.load 3 (.tmp 68),3,(some (64,true))⟩),
 (true,⟨some 70,.binOp .eql 3 (.tmp 67) (.tmp 69) 3,4,(some (64,true))⟩),
 (true,⟨some 71,.pick (.tmp 64) (.tmp 70) (.const (.bool false)),4,none⟩),
 (true,⟨some 55,.assign (.tmp 71),4,none⟩)]
theorem c97draw0{L:List Nat}{ρ:Env}{w:World}{Q:Post}(h:DL Tryz.prog c97D0 L ρ w.drew Q):drawW Tryz.prog (drawOps 0 c97code) L ρ w Q :=
 drawW_still [true,false,true,true,true,true,true,true,true,true,true,false,true,false,true,true,true] c97D0 (by kernel_rfl) (by kernel_rfl) (by kernel_rfl) h
theorem ent97(a0 a1:Value)(w:World)(K:Value→World→Prop)(h:W Tryz.prog c97 [(0,a0),(1,a1)] w (finQ Tryz.prog [.tmp 4,.tmp 5,.tmp 6] K)):Ret Tryz.prog 97 [a0,a1] w K :=
 Ret_of_W (code:=c97code) Tryz.func97 (by kernel_rfl) (by kernel_rfl) (of_decide_eq_true (by kernel_rfl)) h
@[go_sem] theorem go97:goFunc Tryz.prog 97=true:=by kernel_rfl
def c98code:Code:=match Tryz.f98.body with | some c=>c | none=>.skip
def c98S0(_:Unit):Cmd:=(.cond (.tmp 34)
 (.skip [0,1,2,3,8,9])
 (.exit 2 [0,1,2,3,8]))
def c98S1(_:Unit):Cmd:=(.ops [
 ⟨some 35,.move (.tmp 9),3,none⟩,
 ⟨some 36,.binOp .sub 3 (.tmp 35) (.const (.int .i64 1)) 3,3,none⟩,
 ⟨some 9,.assign (.tmp 36),3,none⟩] [0,1,2,3,8,9])
def c98S2(_:Unit):Cmd:=(.seq (.block 3 (.draw (drawOps 1 c98code) [0,1,2,3,8,9])) (sg c98S1))
def c98L0(_:Unit):Cmd:=(.seq (.seq (.draw (drawOps 0 c98code) [0,1,2,3,8,9,34]) (sg c98S0)) (sg c98S2))
def c98S3(_:Unit):Cmd:=(.ops [
 ⟨some 15,.move (.tmp 8),3,none⟩,
 ⟨some 16,.binOp .add 3 (.tmp 15) (.const (.int .i64 1)) 3,3,none⟩,
 ⟨some 8,.assign (.tmp 16),3,none⟩] [0,1,2,3,8])
def c98S4(_:Unit):Cmd:=(.seq (.block 1 (.seq (.ops [
 ⟨some 17,.move (.tmp 8),3,none⟩,
 ⟨some 9,.assign (.tmp 17),3,none⟩] [0,1,2,3,8,9])
 (.block 2 (.loop (sg c98L0))))) (sg c98S3))
def c98L1(_:Unit):Cmd:=(.seq (.seq (.ops [
 ⟨some 12,.move (.tmp 8),3,none⟩,
 ⟨some 13,.move (.tmp 2),3,none⟩,
 ⟨some 14,.binOp .lss 3 (.tmp 12) (.tmp 13) 3,4,none⟩] [0,1,2,3,8,14])
 (.cond (.tmp 14)
 (.skip [0,1,2,3,8])
 (.exit 0 []))) (sg c98S4))
def c98:Cmd:=(.seq (.ops [
 ⟨some 10,.move (.tmp 1),3,none⟩,
 ⟨some 11,.binOp .add 3 (.tmp 10) (.const (.int .i64 1)) 3,3,none⟩,
 ⟨some 8,.assign (.tmp 11),3,none⟩] [0,1,2,3,8])
 (.block 0 (.loop (sg c98L1))))
attribute [go_sem] c98 c98S0 c98S1 c98S2 c98L0 c98S3 c98S4 c98L1
theorem ent98(a0 a1 a2 a3:Value)(w:World)(K:Value→World→Prop)(h:W Tryz.prog c98 [(0,a0),(1,a1),(2,a2),(3,a3)] w (finQ Tryz.prog [] K)):Ret Tryz.prog 98 [a0,a1,a2,a3] w K :=
 Ret_of_W (code:=c98code) Tryz.func98 (by kernel_rfl) (by kernel_rfl) (of_decide_eq_true (by kernel_rfl)) h
@[go_sem] theorem go98:goFunc Tryz.prog 98=true:=by kernel_rfl
def c108code:Code:=match Tryz.f108.body with | some c=>c | none=>.skip
def c108S0(_:Unit):Cmd:=(.ops [
 ⟨some 10,.move (.tmp 4),3,none⟩,
 ⟨some 11,.binOp .add 3 (.tmp 10) (.const (.int .i64 1)) 3,3,none⟩,
 ⟨some 4,.assign (.tmp 11),3,none⟩] [1,3,4])
def c108S1(_:Unit):Cmd:=(.seq (.block 1 (.seq (.ops [
 ⟨some 12,.fieldAddr 127 (.tmp 1) 0,0,none⟩,
 ⟨some 13,.load 125 (.tmp 12),125,none⟩,
 ⟨some 14,.move (.tmp 4),3,none⟩,
 ⟨some 15,.indexAddr 125 (.tmp 13) (.tmp 14),0,none⟩,
 ⟨some 16,.load 4 (.tmp 15),4,none⟩] [1,3,4,16])
 (.cond (.tmp 16)
 (.ops [
 ⟨some 17,.move (.tmp 3),9,none⟩,
 ⟨some 18,.binOp .add 9 (.tmp 17) (.const (.string (ofL [49]))) 9,9,none⟩,
 ⟨some 3,.assign (.tmp 18),9,none⟩] [1,3,4])
 (.ops [
 ⟨some 19,.move (.tmp 3),9,none⟩,
 ⟨some 20,.binOp .add 9 (.tmp 19) (.const (.string (ofL [48]))) 9,9,none⟩,
 ⟨some 3,.assign (.tmp 20),9,none⟩] [1,3,4])))) (sg c108S0))
def c108L0(_:Unit):Cmd:=(.seq (.seq (.ops [
 ⟨some 5,.move (.tmp 4),3,none⟩,
 ⟨some 6,.fieldAddr 127 (.tmp 1) 0,0,none⟩,
 ⟨some 7,.load 125 (.tmp 6),125,none⟩,
 ⟨some 8,.call ⟨.builtin .len,#[(.tmp 7)],#[125]⟩,3,none⟩,
 ⟨some 9,.binOp .lss 3 (.tmp 5) (.tmp 8) 3,4,none⟩] [1,3,4,9])
 (.cond (.tmp 9)
 (.skip [1,3,4])
 (.exit 0 [1,3]))) (sg c108S1))
def c108S2(_:Unit):Cmd:=.ret
def c108S3(_:Unit):Cmd:=(.seq (.ops [
 ⟨some 21,.move (.tmp 3),9,none⟩,
 ⟨some 22,.fieldAddr 127 (.tmp 1) 1,0,none⟩,
 ⟨some 23,.load 66 (.tmp 22),66,none⟩,
 ⟨some 24,.call ⟨.value (.func 111),#[(.tmp 23)],#[66]⟩,9,none⟩,
 ⟨some 25,.binOp .add 9 (.tmp 21) (.tmp 24) 9,9,none⟩,
 ⟨some 2,.assign (.tmp 25),9,none⟩] [2]) (sg c108S2))
def c108:Cmd:=(.seq (.ops [
 ⟨some 1,.box 127 (.tmp 0),0,none⟩,
 ⟨some 2,.assign (.const (.string (ofL []))),9,none⟩] [1])
 (.seq (.ops [
 ⟨some 3,.assign (.const (.string (ofL []))),9,none⟩] [1,3])
 (.seq (.seq (.ops [
 ⟨some 4,.assign (.const (.int .i64 0)),3,none⟩] [1,3,4])
 (.block 0 (.loop (sg c108L0)))) (sg c108S3))))
attribute [go_sem] c108 c108S0 c108S1 c108L0 c108S2
theorem ent108(a0:Value)(w:World)(K:Value→World→Prop)(h:W Tryz.prog c108 [(0,a0)] w (finQ Tryz.prog [.tmp 2] K)):Ret Tryz.prog 108 [a0] w K :=
 Ret_of_W (code:=c108code) Tryz.func108 (by kernel_rfl) (by kernel_rfl) (of_decide_eq_true (by kernel_rfl)) h
@[go_sem] theorem go108:goFunc Tryz.prog 108=true:=by kernel_rfl
def c109code:Code:=match Tryz.f109.body with | some c=>c | none=>.skip
def c109S0(_:Unit):Cmd:=(.cond (.tmp 33)
 (.seq (.ops [
 ⟨some 6,.assign (.const (.bool false)),4,none⟩] [6])
 .ret)
 (.skip [0,1,2,7]))
def c109S1(_:Unit):Cmd:=(.ops [
 ⟨some 16,.move (.tmp 7),3,none⟩,
 ⟨some 17,.binOp .add 3 (.tmp 16) (.const (.int .i64 1)) 3,3,none⟩,
 ⟨some 7,.assign (.tmp 17),3,none⟩] [0,1,2,7])
def c109S2(_:Unit):Cmd:=(.seq (.block 1 (.seq (.draw (drawOps 0 c109code) [0,1,2,7,33]) (sg c109S0))) (sg c109S1))
def c109L0(_:Unit):Cmd:=(.seq (.seq (.ops [
 ⟨some 12,.move (.tmp 7),3,none⟩,
 ⟨some 13,.move (.tmp 0),22,none⟩,
 ⟨some 14,.call ⟨.builtin .len,#[(.tmp 13)],#[22]⟩,3,none⟩,
 ⟨some 15,.binOp .lss 3 (.tmp 12) (.tmp 14) 3,4,none⟩] [0,1,2,7,15])
 (.cond (.tmp 15)
 (.skip [0,1,2,7])
 (.exit 0 []))) (sg c109S2))
def c109S3(_:Unit):Cmd:=(.seq (.ops [
 ⟨some 6,.assign (.const (.bool true)),4,none⟩] [6])
 .ret)
def c109S4(_:Unit):Cmd:=(.seq (.seq (.ops [
 ⟨some 7,.assign (.const (.int .i64 0)),3,none⟩] [0,1,2,7])
 (.block 0 (.loop (sg c109L0)))) (sg c109S3))
def c109:Cmd:=(.seq (.ops [
 ⟨some 6,.assign (.const (.bool false)),4,none⟩] [0,1,2])
 (.seq (.seq (.ops [
 ⟨some 8,.move (.tmp 1),125,none⟩,
 ⟨some 9,.move (.tmp 2),3,none⟩,
 ⟨some 10,.indexAddr 125 (.tmp 8) (.tmp 9),0,none⟩,
 ⟨some 11,.load 4 (.tmp 10),4,none⟩] [0,1,2,11])
 (.cond (.tmp 11)
 (.seq (.ops [
 ⟨some 6,.assign (.const (.bool false)),4,none⟩] [6])
 .ret)
 (.skip [0,1,2]))) (sg c109S4)))
attribute [go_sem] c109 c109S0 c109S1 c109S2 c109L0 c109S3
def c109D0:List (Nat × Ins):=[
 (0,⟨some 18,.move (.tmp 1),125,none⟩),
 (0,⟨some 19,.move (.tmp 7),3,none⟩),
 (0,⟨some 20,.indexAddr 125 (.tmp 18) (.tmp 19),0,none⟩),
 (2,⟨some 21,.load 4 (.tmp 20),4,none⟩),
 (0,⟨some 22,.unOp .not 4 (.tmp 21),4,none⟩),
 (0,⟨some 23,.move (.tmp 22),4,none⟩),
 (0,⟨some 24,.move (.tmp 0),22,(some (23,true))⟩),
 (0,⟨some 25,.move (.tmp 7),3,(some (23,true))⟩),
 (0,⟨some 26,.indexAddr 22 (.tmp 24) (.tmp 25),0,(some (23,true))⟩),
 (0,⟨some 28,.move (.tmp 0),22,(some (23,true))⟩),
 (0,⟨some 29,.move (.tmp 2),3,(some (23,true))⟩),
 (0,⟨some 30,.indexAddr 22 (.tmp 28) (.tmp 29),0,(some (23,true))⟩),
 (1,⟨some 27,.load 38 (.tmp 26),38,(some (23,true))⟩),
 (2,⟨some 31,.load 38 (.tmp 30),38,(some (23,true))⟩),
 (3,⟨some 32,.call ⟨.value (.func 69),#[(.tmp 27),(.tmp 31)],#[38,38]⟩,4,(some (23,true))⟩),
 (0,⟨some 33,.pick (.tmp 23) (.tmp 32) (.const (.bool false)),4,none⟩)]
theorem c109draw0{L:List Nat}{ρ:Env}{w:World}{Q:Post}(S:World→Prop)(hS:S w.drew)(h:DG Tryz.prog S c109D0 L ρ w.drew Q):drawW Tryz.prog (drawOps 0 c109code) L ρ w Q :=
 drawW_held [9] [(0,0),(0,1),(0,2),(2,3),(0,4),(0,5),(0,6),(0,7),(0,8),(0,10),(0,11),(0,12),(1,9),(2,13),(3,14),(0,15)] c109D0 (by kernel_rfl) (by kernel_rfl) (by kernel_rfl) S hS h
theorem ent109(a0 a1 a2:Value)(w:World)(K:Value→World→Prop)(h:W Tryz.prog c109 [(0,a0),(1,a1),(2,a2)] w (finQ Tryz.prog [.tmp 6] K)):Ret Tryz.prog 109 [a0,a1,a2] w K :=
 Ret_of_W (code:=c109code) Tryz.func109 (by kernel_rfl) (by kernel_rfl) (of_decide_eq_true (by kernel_rfl)) h
@[go_sem] theorem go109:goFunc Tryz.prog 109=true:=by kernel_rfl
def c110code:Code:=match Tryz.f110.body with | some c=>c | none=>.skip
def c110S0(_:Unit):Cmd:=(.seq (.ops [
 ⟨some 24,.fieldAddr 176 (.tmp 6) 0,0,none⟩,
 ⟨some 25,.load 66 (.tmp 24),66,none⟩,
 ⟨some 4,.assign (.tmp 25),66,none⟩,
 ⟨some 5,.assign (.const (.bool true)),4,none⟩] [4,5])
 .ret)
def c110S1(_:Unit):Cmd:=(.seq (.seq (.ops [
 ⟨some 10,.fieldAddr 176 (.tmp 6) 2,0,none⟩,
 ⟨some 11,.load 4 (.tmp 10),4,none⟩,
 ⟨some 12,.unOp .not 4 (.tmp 11),4,none⟩,
 ⟨some 13,.move (.tmp 12),4,none⟩,
 ⟨some 14,.fieldAddr 38 (.tmp 3) 7,0,(some (13,false))⟩,
 ⟨some 15,.load 4 (.tmp 14),4,(some (13,false))⟩,
 ⟨some 16,.move (.tmp 15),4,(some (13,false))⟩,
 ⟨some 17,.fieldAddr 176 (.tmp 6) 1,0,(some (16,true))⟩,
 ⟨some 18,.load 3 (.tmp 17),3,(some (16,true))⟩,
 ⟨some 19,.fieldAddr 38 (.tmp 3) 8,0,(some (16,true))⟩,
 ⟨some 20,.load 3 (.tmp 19),3,(some (16,true))⟩,
 ⟨some 21,.binOp .neq 3 (.tmp 18) (.tmp 20) 3,4,(some (16,true))⟩,
 ⟨some 22,.pick (.tmp 16) (.tmp 21) (.const (.bool false)),4,(some (13,false))⟩,
 ⟨some 23,.pick (.tmp 13) (.const (.bool true)) (.tmp 22),4,none⟩] [6,23])
 (.cond (.tmp 23)
 (.seq (.ops [
 ⟨some 4,.assign (.const (.slice none 0 0)),66,none⟩,
 ⟨some 5,.assign (.const (.bool false)),4,none⟩] [4,5])
 .ret)
 (.skip [6]))) (sg c110S0))
def c110:Cmd:=(.seq (.ops [
 ⟨some 3,.box 38 (.tmp 1),0,none⟩,
 ⟨some 4,.assign (.const (.slice none 0 0)),66,none⟩,
 ⟨some 5,.assign (.const (.bool false)),4,none⟩] [0,3])
 (.seq (.ops [
 ⟨some 7,.move (.tmp 0),66,none⟩,
 ⟨some 8,.load 38 (.tmp 3),38,none⟩,
 ⟨some 9,.call ⟨.value (.func 135),#[(.tmp 7),(.tmp 8)],#[66,38]⟩,176,none⟩,
 ⟨some 6,.alloc 176,0,none⟩,
 ⟨none,.store 176 (.tmp 6) (.tmp 9),0,none⟩] [3,6]) (sg c110S1)))
attribute [go_sem] c110 c110S0
theorem ent110(a0 a1:Value)(w:World)(K:Value→World→Prop)(h:W Tryz.prog c110 [(0,a0),(1,a1)] w (finQ Tryz.prog [.tmp 4,.tmp 5] K)):Ret Tryz.prog 110 [a0,a1] w K :=
 Ret_of_W (code:=c110code) Tryz.func110 (by kernel_rfl) (by kernel_rfl) (of_decide_eq_true (by kernel_rfl)) h
@[go_sem] theorem go110:goFunc Tryz.prog 110=true:=by kernel_rfl
def c111code:Code:=match Tryz.f111.body with | some c=>c | none=>.skip
def c111S0(_:Unit):Cmd:=(.ops [
 ⟨some 13,.move (.tmp 4),3,none⟩,
 ⟨some 14,.binOp .add 3 (.tmp 13) (.const (.int .i64 1)) 3,3,none⟩,
 ⟨some 4,.assign (.tmp 14),3,none⟩] [0,3,4])
def c111S1(_:Unit):Cmd:=(.seq (.block 1 (.ops [
 ⟨some 15,.move (.tmp 3),9,none⟩,
 ⟨some 16,.move (.tmp 0),66,none⟩,
 ⟨some 17,.move (.tmp 4),3,none⟩,
 ⟨some 18,.indexAddr 66 (.tmp 16) (.tmp 17),0,none⟩,
 ⟨some 19,.load 3 (.tmp 18),3,none⟩,
 ⟨some 20,.call ⟨.value (.func 137),#[(.tmp 19)],#[3]⟩,155,none⟩,
 ⟨some 21,.call ⟨.value (.func 136),#[(.tmp 20)],#[155]⟩,9,none⟩,
 ⟨some 22,.binOp .add 9 (.tmp 15) (.tmp 21) 9,9,none⟩,
 ⟨some 3,.assign (.tmp 22),9,none⟩] [0,3,4])) (sg c111S0))
def c111L0(_:Unit):Cmd:=(.seq (.seq (.ops [
 ⟨some 9,.move (.tmp 4),3,none⟩,
 ⟨some 10,.move (.tmp 0),66,none⟩,
 ⟨some 11,.call ⟨.builtin .len,#[(.tmp 10)],#[66]⟩,3,none⟩,
 ⟨some 12,.binOp .lss 3 (.tmp 9) (.tmp 11) 3,4,none⟩] [0,3,4,12])
 (.cond (.tmp 12)
 (.skip [0,3,4])
 (.exit 0 [3]))) (sg c111S1))
def c111S2(_:Unit):Cmd:=(.seq (.ops [
 ⟨some 23,.move (.tmp 3),9,none⟩,
 ⟨some 2,.assign (.tmp 23),9,none⟩] [2])
 .ret)
def c111S3(_:Unit):Cmd:=(.seq (.seq (.ops [
 ⟨some 4,.assign (.const (.int .i64 0)),3,none⟩] [0,3,4])
 (.block 0 (.loop (sg c111L0)))) (sg c111S2))
def c111:Cmd:=(.seq (.ops [
 ⟨some 2,.assign (.const (.string (ofL []))),9,none⟩] [0])
 (.seq (.ops [
 ⟨some 5,.move (.tmp 0),66,none⟩,
 ⟨some 6,.call ⟨.builtin .len,#[(.tmp 5)],#[66]⟩,3,none⟩,
 ⟨some 7,.convert 3 155 (.tmp 6),155,none⟩,
 ⟨some 8,.call ⟨.value (.func 136),#[(.tmp 7)],#[155]⟩,9,none⟩,
 ⟨some 3,.assign (.tmp 8),9,none⟩] [0,3]) (sg c111S3)))
attribute [go_sem] c111 c111S0 c111S1 c111L0 c111S2 c111S3
theorem ent111(a0:Value)(w:World)(K:Value→World→Prop)(h:W Tryz.prog c111 [(0,a0)] w (finQ Tryz.prog [.tmp 2] K)):Ret Tryz.prog 111 [a0] w K :=
 Ret_of_W (code:=c111code) Tryz.func111 (by kernel_rfl) (by kernel_rfl) (of_decide_eq_true (by kernel_rfl)) h
@[go_sem] theorem go111:goFunc Tryz.prog 111=true:=by kernel_rfl
def c121code:Code:=match Tryz.f121.body with | some c=>c | none=>.skip
def c121:Cmd:=(.seq (.ops [
 ⟨some 2,.assign (.const (.bool false)),4,none⟩] [0])
 (.seq (.ops [
 ⟨some 3,.move (.tmp 0),3,none⟩,
 ⟨some 4,.binOp .geq 3 (.tmp 3) (.const (.int .i64 0)) 3,4,none⟩,
 ⟨some 5,.move (.tmp 4),4,none⟩,
 ⟨some 6,.move (.tmp 0),3,(some (5,true))⟩,
 ⟨some 7,.binOp .leq 3 (.tmp 6) (.const (.int .i64 1073741824)) 3,4,(some (5,true))⟩,
 ⟨some 8,.pick (.tmp 5) (.tmp 7) (.const (.bool false)),4,none⟩,
 ⟨some 2,.assign (.tmp 8),4,none⟩] [2])
 .ret))
attribute [go_sem] c121
theorem ent121(a0:Value)(w:World)(K:Value→World→Prop)(h:W Tryz.prog c121 [(0,a0)] w (finQ Tryz.prog [.tmp 2] K)):Ret Tryz.prog 121 [a0] w K :=
 Ret_of_W (code:=c121code) Tryz.func121 (by kernel_rfl) (by kernel_rfl) (of_decide_eq_true (by kernel_rfl)) h
@[go_sem] theorem go121:goFunc Tryz.prog 121=true:=by kernel_rfl
def c122code:Code:=match Tryz.f122.body with | some c=>c | none=>.skip
def c122:Cmd:=(.seq (.ops [
 ⟨some 0,.assign (.const (.slice none 0 0)),164,none⟩] [])
 (.seq (.ops [
 ⟨some 1,.build 134 #[(0,(.const (.int .i64 1))),(1,(.const (.int .i64 1))),(2,(.const (.int .i64 0))),(3,(.const (.int .i64 2)))],134,none⟩,
 ⟨some 2,.build 134 #[(0,(.const (.int .i64 1))),(1,(.const (.int .i64 2))),(2,(.const (.int .i64 1))),(3,(.const (.int .i64 0)))],134,none⟩,
 ⟨some 3,.build 134 #[(0,(.const (.int .i64 1))),(1,(.const (.int .i64 3))),(2,(.const (.int .i64 2))),(3,(.const (.int .i64 1)))],134,none⟩,
 ⟨some 4,.build 134 #[(0,(.const (.int .i64 2))),(1,(.const (.int .i64 1))),(2,(.const (.int .i64 0))),(3,(.const (.int .i64 3)))],134,none⟩,
 ⟨some 5,.build 134 #[(0,(.const (.int .i64 2))),(1,(.const (.int .i64 4))),(2,(.const (.int .i64 0))),(3,(.const (.int .i64 0)))],134,none⟩,
 ⟨some 6,.build 134 #[(0,(.const (.int .i64 2))),(1,(.const (.int .i64 5))),(2,(.const (.int .i64 0))),(3,(.const (.int .i64 0)))],134,none⟩,
 ⟨some 7,.build 134 #[(0,(.const (.int .i64 3))),(1,(.const (.int .i64 6))),(2,(.const (.int .i64 1))),(3,(.const (.int .i64 0)))],134,none⟩,
 ⟨some 8,.build 134 #[(0,(.const (.int .i64 3))),(1,(.const (.int .i64 7))),(2,(.const (.int .i64 0))),(3,(.const (.int .i64 4)))],134,none⟩,
 ⟨some 9,.build 134 #[(0,(.const (.int .i64 4))),(1,(.const (.int .i64 8))),(2,(.const (.int .i64 1))),(3,(.const (.int .i64 0)))],134,none⟩,
 ⟨some 10,.build 134 #[(0,(.const (.int .i64 4))),(1,(.const (.int .i64 9))),(2,(.const (.int .i64 0))),(3,(.const (.int .i64 4)))],134,none⟩,
 ⟨some 11,.build 134 #[(0,(.const (.int .i64 5))),(1,(.const (.int .i64 10))),(2,(.const (.int .i64 1))),(3,(.const (.int .i64 1)))],134,none⟩,
 ⟨some 12,.build 134 #[(0,(.const (.int .i64 5))),(1,(.const (.int .i64 11))),(2,(.const (.int .i64 1))),(3,(.const (.int .i64 1)))],134,none⟩,
 ⟨some 13,.build 134 #[(0,(.const (.int .i64 5))),(1,(.const (.int .i64 12))),(2,(.const (.int .i64 1))),(3,(.const (.int .i64 1)))],134,none⟩,
 ⟨some 14,.build 134 #[(0,(.const (.int .i64 6))),(1,(.const (.int .i64 13))),(2,(.const (.int .i64 0))),(3,(.const (.int .i64 0)))],134,none⟩,
 ⟨some 15,.build 134 #[(0,(.const (.int .i64 6))),(1,(.const (.int .i64 14))),(2,(.const (.int .i64 0))),(3,(.const (.int .i64 0)))],134,none⟩,
 ⟨some 16,.buildSlice 164 15 #[(0,(.tmp 1)),(1,(.tmp 2)),(2,(.tmp 3)),(3,(.tmp 4)),(4,(.tmp 5)),(5,(.tmp 6)),(6,(.tmp 7)),(7,(.tmp 8)),(8,(.tmp 9)),(9,(.tmp 10)),(10,(.tmp 11)),(11,(.tmp 12)),(12,(.tmp 13)),(13,(.tmp 14)),(14,(.tmp 15))],164,none⟩,
 ⟨some 0,.assign (.tmp 16),164,none⟩] [0])
 .ret))
attribute [go_sem] c122
theorem ent122(w:World)(K:Value→World→Prop)(h:W Tryz.prog c122 [] w (finQ Tryz.prog [.tmp 0] K)):Ret Tryz.prog 122 [] w K :=
 Ret_of_W (code:=c122code) Tryz.func122 (by kernel_rfl) (by kernel_rfl) (of_decide_eq_true (by kernel_rfl)) h
@[go_sem] theorem go122:goFunc Tryz.prog 122=true:=by kernel_rfl
def c125code:Code:=match Tryz.f125.body with | some c=>c | none=>.skip
def c125S0(_:Unit):Cmd:=(.ops [
 ⟨some 12,.move (.tmp 0),155,none⟩,
 ⟨some 13,.binOp .shr 155 (.tmp 12) (.const (.int .u64 7)) 116,155,none⟩,
 ⟨some 0,.assign (.tmp 13),155,none⟩] [0,3])
def c125S1(_:Unit):Cmd:=(.block 1 (.seq (.ops [
 ⟨some 6,.move (.tmp 3),185,none⟩,
 ⟨some 7,.move (.tmp 0),155,none⟩,
 ⟨some 8,.convert 155 5 (.tmp 7),5,none⟩,
 ⟨some 9,.binOp .or 5 (.tmp 8) (.const (.int .u8 128)) 5,5,none⟩,
 ⟨some 10,.buildSlice 185 1 #[(0,(.tmp 9))],185,none⟩,
 ⟨some 11,.call ⟨.builtin .append,#[(.tmp 6),(.tmp 10)],#[185,185]⟩,185,none⟩,
 ⟨some 3,.assign (.tmp 11),185,none⟩] [0,3]) (sg c125S0)))
def c125L0(_:Unit):Cmd:=(.seq (.seq (.ops [
 ⟨some 4,.move (.tmp 0),155,none⟩,
 ⟨some 5,.binOp .geq 155 (.tmp 4) (.const (.int .u64 128)) 155,4,none⟩] [0,3,5])
 (.cond (.tmp 5)
 (.skip [0,3])
 (.exit 0 [0,3]))) (sg c125S1))
def c125S2(_:Unit):Cmd:=.ret
def c125S3(_:Unit):Cmd:=(.seq (.ops [
 ⟨some 14,.move (.tmp 3),185,none⟩,
 ⟨some 15,.move (.tmp 0),155,none⟩,
 ⟨some 16,.convert 155 5 (.tmp 15),5,none⟩,
 ⟨some 17,.buildSlice 185 1 #[(0,(.tmp 16))],185,none⟩,
 ⟨some 18,.call ⟨.builtin .append,#[(.tmp 14),(.tmp 17)],#[185,185]⟩,185,none⟩,
 ⟨some 19,.convert 185 9 (.tmp 18),9,none⟩,
 ⟨some 2,.assign (.tmp 19),9,none⟩] [2]) (sg c125S2))
def c125:Cmd:=(.seq (.ops [
 ⟨some 2,.assign (.const (.string (ofL []))),9,none⟩] [0])
 (.seq (.ops [
 ⟨some 3,.assign (.const (.slice none 0 0)),185,none⟩] [0,3])
 (.seq (.block 0 (.loop (sg c125L0))) (sg c125S3))))
attribute [go_sem] c125 c125S0 c125S1 c125L0 c125S2 c125S3
theorem ent125(a0:Value)(w:World)(K:Value→World→Prop)(h:W Tryz.prog c125 [(0,a0)] w (finQ Tryz.prog [.tmp 2] K)):Ret Tryz.prog 125 [a0] w K :=
 Ret_of_W (code:=c125code) Tryz.func125 (by kernel_rfl) (by kernel_rfl) (of_decide_eq_true (by kernel_rfl)) h
@[go_sem] theorem go125:goFunc Tryz.prog 125=true:=by kernel_rfl
def c126code:Code:=match Tryz.f126.body with | some c=>c | none=>.skip
def c126:Cmd:=(.seq (.ops [
 ⟨some 2,.assign (.const (.int .u64 0)),155,none⟩] [0])
 (.seq (.ops [
 ⟨some 3,.move (.tmp 0),3,none⟩,
 ⟨some 4,.convert 3 155 (.tmp 3),155,none⟩,
 ⟨some 5,.binOp .shl 155 (.tmp 4) (.const (.int .u64 1)) 116,155,none⟩,
 ⟨some 6,.move (.tmp 0),3,none⟩,
 ⟨some 7,.binOp .shr 3 (.tmp 6) (.const (.int .u64 63)) 116,3,none⟩,
 ⟨some 8,.convert 3 155 (.tmp 7),155,none⟩,
 ⟨some 9,.binOp .xor 155 (.tmp 5) (.tmp 8) 155,155,none⟩,
 ⟨some 2,.assign (.tmp 9),155,none⟩] [2])
 .ret))
attribute [go_sem] c126
theorem ent126(a0:Value)(w:World)(K:Value→World→Prop)(h:W Tryz.prog c126 [(0,a0)] w (finQ Tryz.prog [.tmp 2] K)):Ret Tryz.prog 126 [a0] w K :=
 Ret_of_W (code:=c126code) Tryz.func126 (by kernel_rfl) (by kernel_rfl) (of_decide_eq_true (by kernel_rfl)) h
@[go_sem] theorem go126:goFunc Tryz.prog 126=true:=by kernel_rfl
def c127code:Code:=match Tryz.f127.body with | some c=>c | none=>.skip
def c127S0(_:Unit):Cmd:=.ret
def c127S1(_:Unit):Cmd:=(.cond (.tmp 41)
 (.seq (.ops [
 ⟨some 42,.fieldAddr 38 (.tmp 3) 6,0,none⟩,
 ⟨some 43,.load 3 (.tmp 42),3,none⟩,
 ⟨some 44,.buildSlice 66 1 #[(0,(.tmp 43))],66,none⟩,
 ⟨some 4,.assign (.tmp 44),66,none⟩,
 ⟨some 5,.assign (.const (.int .i64 1)),3,none⟩,
 ⟨some 6,.assign (.const (.bool true)),4,none⟩] [4,5,6])
 .ret)
 (.skip [0]))
def c127S2(_:Unit):Cmd:=(.seq (.ops [
 ⟨some 45,.move (.tmp 0),66,none⟩,
 ⟨some 4,.assign (.tmp 45),66,none⟩,
 ⟨some 5,.assign (.const (.int .i64 0)),3,none⟩,
 ⟨some 6,.assign (.const (.bool true)),4,none⟩] [4,5,6])
 .ret)
def c127S3(_:Unit):Cmd:=(.seq (.ops [
 ⟨some 4,.assign (.const (.slice none 0 0)),66,none⟩,
 ⟨some 5,.assign (.const (.int .i64 0)),3,none⟩,
 ⟨some 6,.assign (.const (.bool false)),4,none⟩] [4,5,6])
 .ret)
def c127:Cmd:=(.seq (.ops [
 ⟨some 3,.box 38 (.tmp 1),0,none⟩,
 ⟨some 4,.assign (.const (.slice none 0 0)),66,none⟩,
 ⟨some 5,.assign (.const (.int .i64 0)),3,none⟩,
 ⟨some 6,.assign (.const (.bool false)),4,none⟩] [0,3])
 (.seq (.block 0 (.seq (.ops [
 ⟨some 8,.fieldAddr 38 (.tmp 3) 4,0,none⟩,
 ⟨some 9,.load 3 (.tmp 8),3,none⟩,
 ⟨some 10,.binOp .eql 3 (.tmp 9) (.const (.int .i64 1)) 3,4,none⟩,
 ⟨some 7,.assign (.tmp 10),4,none⟩] [0,3,7])
 (.cond (.tmp 7)
 (.seq (.draw (drawOps 0 c127code) [4,5,6]) (sg c127S0))
 (.seq (.ops [
 ⟨some 16,.fieldAddr 38 (.tmp 3) 3,0,none⟩,
 ⟨some 17,.load 3 (.tmp 16),3,none⟩,
 ⟨some 18,.binOp .eql 3 (.tmp 17) (.const (.int .i64 1)) 3,4,none⟩,
 ⟨some 19,.move (.tmp 18),4,none⟩,
 ⟨some 20,.fieldAddr 38 (.tmp 3) 4,0,(some (19,true))⟩,
 ⟨some 21,.load 3 (.tmp 20),3,(some (19,true))⟩,
 ⟨some 22,.binOp .eql 3 (.tmp 21) (.const (.int .i64 2)) 3,4,(some (19,true))⟩,
 ⟨some 23,.pick (.tmp 19) (.tmp 22) (.const (.bool false)),4,none⟩,
 ⟨some 15,.assign (.tmp 23),4,none⟩] [0,3,15])
 (.cond (.tmp 15)
 (.seq (.ops [
 ⟨some 24,.fieldAddr 38 (.tmp 3) 5,0,none⟩,
 ⟨some 25,.load 3 (.tmp 24),3,none⟩,
 ⟨some 26,.buildSlice 66 1 #[(0,(.tmp 25))],66,none⟩,
 ⟨some 4,.assign (.tmp 26),66,none⟩,
 ⟨some 5,.assign (.const (.int .i64 0)),3,none⟩,
 ⟨some 6,.assign (.const (.bool true)),4,none⟩] [4,5,6])
 .ret)
 (.seq (.ops [
 ⟨some 28,.fieldAddr 38 (.tmp 3) 3,0,none⟩,
 ⟨some 29,.load 3 (.tmp 28),3,none⟩,
 ⟨some 30,.binOp .eql 3 (.tmp 29) (.const (.int .i64 1)) 3,4,none⟩,
 ⟨some 31,.move (.tmp 30),4,none⟩,
 ⟨some 32,.fieldAddr 38 (.tmp 3) 4,0,(some (31,true))⟩,
 ⟨some 33,.load 3 (.tmp 32),3,(some (31,true))⟩,
 ⟨some 34,.binOp .eql 3 (.tmp 33) (.const (.int .i64 3)) 3,4,(some (31,true))⟩,
 ⟨some 35,.pick (.tmp 31) (.tmp 34) (.const (.bool false)),4,none⟩,
 ⟨some 27,.assign (.tmp 35),4,none⟩] [0,3,27])
 (.cond (.tmp 27)
 (.seq (.seq (.draw (drawOps 1 c127code) [0,3,41]) (sg c127S1)) (sg c127S2))
 (.seq (.ops [
 ⟨some 47,.fieldAddr 38 (.tmp 3) 3,0,none⟩,
 ⟨some 48,.load 3 (.tmp 47),3,none⟩,
 ⟨some 49,.binOp .eql 3 (.tmp 48) (.const (.int .i64 2)) 3,4,none⟩,
 ⟨some 50,.move (.tmp 49),4,none⟩,
 ⟨some 51,.fieldAddr 38 (.tmp 3) 4,0,(some (50,true))⟩,
 ⟨some 52,.load 3 (.tmp 51),3,(some (50,true))⟩,
 ⟨some 53,.binOp .eql 3 (.tmp 52) (.const (.int .i64 4)) 3,4,(some (50,true))⟩,
 ⟨some 54,.pick (.tmp 50) (.tmp 53) (.const (.bool false)),4,none⟩,
 ⟨some 46,.assign (.tmp 54),4,none⟩] [0,3,46])
 (.cond (.tmp 46)
 (.seq (.opsX [
 ⟨some 55,.move (.tmp 0),66,none⟩,
 ⟨some 56,.indexAddr 66 (.tmp 55) (.const (.int .i64 0)),0,none⟩,
 ⟨some 57,.load 3 (.tmp 56),3,none⟩,
 ⟨some 58,.binOp .add 3 (.tmp 57) (.const (.int .i64 1)) 3,3,none⟩,
 ⟨some 59,.buildSlice 66 1 #[(0,(.tmp 58))],66,none⟩,
 ⟨some 4,.assign (.tmp 59),66,none⟩,
 ⟨some 5,.assign (.const (.int .i64 0)),3,none⟩,
 ⟨some 6,.assign (.const (.bool true)),4,none⟩] [4,5,6])
 .ret)
 (.seq (.ops [
 ⟨some 61,.fieldAddr 38 (.tmp 3) 3,0,none⟩,
 ⟨some 62,.load 3 (.tmp 61),3,none⟩,
 ⟨some 63,.binOp .eql 3 (.tmp 62) (.const (.int .i64 2)) 3,4,none⟩,
 ⟨some 64,.move (.tmp 63),4,none⟩,
 ⟨some 65,.fieldAddr 38 (.tmp 3) 4,0,(some (64,true))⟩,
 ⟨some 66,.load 3 (.tmp 65),3,(some (64,true))⟩,
 ⟨some 67,.binOp .eql 3 (.tmp 66) (.const (.int .i64 5)) 3,4,(some (64,true))⟩,
 ⟨some 68,.pick (.tmp 64) (.tmp 67) (.const (.bool false)),4,none⟩,
 ⟨some 60,.assign (.tmp 68),4,none⟩] [0,60])
 (.cond (.tmp 60)
 (.seq (.opsX [
 ⟨some 69,.move (.tmp 0),66,none⟩,
 ⟨some 70,.indexAddr 66 (.tmp 69) (.const (.int .i64 0)),0,none⟩,
 ⟨some 71,.load 3 (.tmp 70),3,none⟩,
 ⟨some 72,.binOp .sub 3 (.tmp 71) (.const (.int .i64 1)) 3,3,none⟩,
 ⟨some 73,.buildSlice 66 1 #[(0,(.tmp 72))],66,none⟩,
 ⟨some 4,.assign (.tmp 73),66,none⟩,
 ⟨some 5,.assign (.const (.int .i64 0)),3,none⟩,
 ⟨some 6,.assign (.const (.bool true)),4,none⟩] [4,5,6])
 .ret)
 (.skip [])))))))))))) (sg c127S3)))
attribute [go_sem] c127 c127S0 c127S1 c127S2 c127S3
def c127D0:List (Bool × Ins):=[
 (true,⟨some 11,.move (.tmp 0),66,none⟩),
 (true,⟨some 12,.move (.tmp 0),66,none⟩),
 (true,⟨some 13,.indexAddr 66 (.tmp 12) (.const (.int .i64 0)),0,none⟩),
 (true,⟨some 4,.assign (.tmp 11),66,none⟩),
 (false,⟨some 14,.load 3 (.tmp 13),3,none⟩),
 (true,⟨some 5,.assign (.tmp 14),3,none⟩),
 (true,⟨some 6,.assign (.const (.bool true)),4,none⟩)]
theorem c127draw0{L:List Nat}{ρ:Env}{w:World}{Q:Post}(h:DL Tryz.prog c127D0 L ρ w.drew Q):drawW Tryz.prog (drawOps 0 c127code) L ρ w Q :=
 drawW_by [(true,0),(true,1),(true,2),(true,4),(false,3),(true,5),(true,6)] c127D0 (by kernel_rfl) (by kernel_rfl) (by kernel_rfl) h
def c127D1:List (Bool × Ins):=[
 (true,⟨some 36,.move (.tmp 0),66,none⟩),
 (true,⟨some 37,.indexAddr 66 (.tmp 36) (.const (.int .i64 0)),0,none⟩),
 (false,⟨some 38,.load 3 (.tmp 37),3,none⟩),
 (true,⟨some 39,.fieldAddr 38 (.tmp 3) 5,0,none⟩),
 (false,⟨some 40,.load 3 (.tmp 39),3,none⟩),
 (true,⟨some 41,.binOp .eql 3 (.tmp 38) (.tmp 40) 3,4,none⟩)]
theorem c127draw1{L:List Nat}{ρ:Env}{w:World}{Q:Post}(h:DL Tryz.prog c127D1 L ρ w.drew Q):drawW Tryz.prog (drawOps 1 c127code) L ρ w Q :=
 drawW_still [true,true,false,true,false,true] c127D1 (by kernel_rfl) (by kernel_rfl) (by kernel_rfl) h
theorem ent127(a0 a1:Value)(w:World)(K:Value→World→Prop)(h:W Tryz.prog c127 [(0,a0),(1,a1)] w (finQ Tryz.prog [.tmp 4,.tmp 5,.tmp 6] K)):Ret Tryz.prog 127 [a0,a1] w K :=
 Ret_of_W (code:=c127code) Tryz.func127 (by kernel_rfl) (by kernel_rfl) (of_decide_eq_true (by kernel_rfl)) h
@[go_sem] theorem go127:goFunc Tryz.prog 127=true:=by kernel_rfl
def c128code:Code:=match Tryz.f128.body with | some c=>c | none=>.skip
def c128S0(_:Unit):Cmd:=.ret
def c128S1(_:Unit):Cmd:=.ret
def c128S2(_:Unit):Cmd:=(.seq (.draw (drawOps 0 c128code) [4,5,6]) (sg c128S1))
def c128S3(_:Unit):Cmd:=.ret
def c128S4(_:Unit):Cmd:=(.seq (.draw (drawOps 1 c128code) [4,5,6]) (sg c128S3))
def c128S5(_:Unit):Cmd:=(.cond (.tmp 10)
 (.seq (.ops [
 ⟨some 27,.move (.tmp 0),66,none⟩,
 ⟨some 28,.fieldAddr 38 (.tmp 3) 5,0,none⟩,
 ⟨some 29,.load 3 (.tmp 28),3,none⟩,
 ⟨some 30,.buildSlice 66 1 #[(0,(.tmp 29))],66,none⟩,
 ⟨some 31,.call ⟨.builtin .append,#[(.tmp 27),(.tmp 30)],#[66,66]⟩,66,none⟩,
 ⟨some 4,.assign (.tmp 31),66,none⟩,
 ⟨some 5,.assign (.const (.int .i64 0)),3,none⟩,
 ⟨some 6,.assign (.const (.bool true)),4,none⟩] [4,5,6]) (sg c128S0))
 (.seq (.ops [
 ⟨some 33,.fieldAddr 38 (.tmp 3) 3,0,none⟩,
 ⟨some 34,.load 3 (.tmp 33),3,none⟩,
 ⟨some 35,.binOp .eql 3 (.tmp 34) (.const (.int .i64 3)) 3,4,none⟩,
 ⟨some 36,.move (.tmp 35),4,none⟩,
 ⟨some 37,.fieldAddr 38 (.tmp 3) 4,0,(some (36,true))⟩,
 ⟨some 38,.load 3 (.tmp 37),3,(some (36,true))⟩,
 ⟨some 39,.binOp .eql 3 (.tmp 38) (.const (.int .i64 7)) 3,4,(some (36,true))⟩,
 ⟨some 40,.pick (.tmp 36) (.tmp 39) (.const (.bool false)),4,none⟩,
 ⟨some 32,.assign (.tmp 40),4,none⟩] [0,3,7,32])
 (.cond (.tmp 32)
 (.seq (.seq (.ops [
 ⟨some 41,.move (.tmp 7),3,none⟩,
 ⟨some 42,.binOp .eql 3 (.tmp 41) (.const (.int .i64 0)) 3,4,none⟩] [0,42])
 (.cond (.tmp 42)
 (.seq (.ops [
 ⟨some 43,.move (.tmp 0),66,none⟩,
 ⟨some 4,.assign (.tmp 43),66,none⟩,
 ⟨some 5,.assign (.const (.int .i64 (-1))),3,none⟩,
 ⟨some 6,.assign (.const (.bool true)),4,none⟩] [4,5,6])
 .ret)
 (.skip [0]))) (sg c128S2))
 (.seq (.ops [
 ⟨some 50,.fieldAddr 38 (.tmp 3) 3,0,none⟩,
 ⟨some 51,.load 3 (.tmp 50),3,none⟩,
 ⟨some 52,.binOp .eql 3 (.tmp 51) (.const (.int .i64 4)) 3,4,none⟩,
 ⟨some 53,.move (.tmp 52),4,none⟩,
 ⟨some 54,.fieldAddr 38 (.tmp 3) 4,0,(some (53,true))⟩,
 ⟨some 55,.load 3 (.tmp 54),3,(some (53,true))⟩,
 ⟨some 56,.binOp .eql 3 (.tmp 55) (.const (.int .i64 9)) 3,4,(some (53,true))⟩,
 ⟨some 57,.pick (.tmp 53) (.tmp 56) (.const (.bool false)),4,none⟩,
 ⟨some 49,.assign (.tmp 57),4,none⟩] [0,7,49])
 (.cond (.tmp 49)
 (.seq (.seq (.ops [
 ⟨some 58,.move (.tmp 7),3,none⟩,
 ⟨some 59,.binOp .eql 3 (.tmp 58) (.const (.int .i64 0)) 3,4,none⟩] [0,7,59])
 (.cond (.tmp 59)
 (.seq (.ops [
 ⟨some 60,.move (.tmp 0),66,none⟩,
 ⟨some 4,.assign (.tmp 60),66,none⟩,
 ⟨some 5,.assign (.const (.int .i64 (-1))),3,none⟩,
 ⟨some 6,.assign (.const (.bool true)),4,none⟩] [4,5,6])
 .ret)
 (.skip [0,7]))) (sg c128S4))
 (.skip []))))))
def c128S6(_:Unit):Cmd:=(.seq (.ops [
 ⟨some 4,.assign (.const (.slice none 0 0)),66,none⟩,
 ⟨some 5,.assign (.const (.int .i64 0)),3,none⟩,
 ⟨some 6,.assign (.const (.bool false)),4,none⟩] [4,5,6])
 .ret)
def c128:Cmd:=(.seq (.ops [
 ⟨some 3,.box 38 (.tmp 1),0,none⟩,
 ⟨some 4,.assign (.const (.slice none 0 0)),66,none⟩,
 ⟨some 5,.assign (.const (.int .i64 0)),3,none⟩,
 ⟨some 6,.assign (.const (.bool false)),4,none⟩] [0,3])
 (.seq (.ops [
 ⟨some 8,.move (.tmp 0),66,none⟩,
 ⟨some 9,.call ⟨.builtin .len,#[(.tmp 8)],#[66]⟩,3,none⟩,
 ⟨some 7,.assign (.tmp 9),3,none⟩] [0,3,7])
 (.seq (.block 0 (.seq (.seq (.ops [
 ⟨some 11,.fieldAddr 38 (.tmp 3) 3,0,none⟩,
 ⟨some 12,.load 3 (.tmp 11),3,none⟩,
 ⟨some 13,.binOp .eql 3 (.tmp 12) (.const (.int .i64 3)) 3,4,none⟩,
 ⟨some 14,.move (.tmp 13),4,none⟩,
 ⟨some 15,.fieldAddr 38 (.tmp 3) 4,0,(some (14,true))⟩,
 ⟨some 16,.load 3 (.tmp 15),3,(some (14,true))⟩,
 ⟨some 17,.binOp .eql 3 (.tmp 16) (.const (.int .i64 6)) 3,4,(some (14,true))⟩,
 ⟨some 18,.pick (.tmp 14) (.tmp 17) (.const (.bool false)),4,none⟩,
 ⟨some 10,.assign (.tmp 18),4,none⟩] [0,3,7,10])
 (.cond (.tmp 10)
 (.skip [0,3,7,10])
 (.ops [
 ⟨some 19,.fieldAddr 38 (.tmp 3) 3,0,none⟩,
 ⟨some 20,.load 3 (.tmp 19),3,none⟩,
 ⟨some 21,.binOp .eql 3 (.tmp 20) (.const (.int .i64 4)) 3,4,none⟩,
 ⟨some 22,.move (.tmp 21),4,none⟩,
 ⟨some 23,.fieldAddr 38 (.tmp 3) 4,0,(some (22,true))⟩,
 ⟨some 24,.load 3 (.tmp 23),3,(some (22,true))⟩,
 ⟨some 25,.binOp .eql 3 (.tmp 24) (.const (.int .i64 8)) 3,4,(some (22,true))⟩,
 ⟨some 26,.pick (.tmp 22) (.tmp 25) (.const (.bool false)),4,none⟩,
 ⟨some 10,.assign (.tmp 26),4,none⟩] [0,3,7,10]))) (sg c128S5))) (sg c128S6))))
attribute [go_sem] c128 c128S0 c128S1 c128S2 c128S3 c128S4 c128S5 c128S6
def c128D0:List (Bool × Ins):=[
 (true,⟨some 44,.move (.tmp 0),66,none⟩),
 (true,⟨some 45,.slice 66 (.tmp 44) (some (.const (.int .i64 1))) none none,66,none⟩),
 (true,⟨some 46,.move (.tmp 0),66,none⟩),
 (true,⟨some 47,.indexAddr 66 (.tmp 46) (.const (.int .i64 0)),0,none⟩),
 (true,⟨some 4,.assign (.tmp 45),66,none⟩),
 (false,⟨some 48,.load 3 (.tmp 47),3,none⟩),
 (true,⟨some 5,.assign (.tmp 48),3,none⟩),
 (true,⟨some 6,.assign (.const (.bool true)),4,none⟩)]
theorem c128draw0{L:List Nat}{ρ:Env}{w:World}{Q:Post}(h:DL Tryz.prog c128D0 L ρ w.drew Q):drawW Tryz.prog (drawOps 0 c128code) L ρ w Q :=
 drawW_by [(true,0),(true,1),(true,2),(true,3),(true,5),(false,4),(true,6),(true,7)] c128D0 (by kernel_rfl) (by kernel_rfl) (by kernel_rfl) h
def c128D1:List (Bool × Ins):=[
 (true,⟨some 61,.move (.tmp 0),66,none⟩),
 (true,⟨some 62,.move (.tmp 7),3,none⟩),
 (true,⟨some 63,.binOp .sub 3 (.tmp 62) (.const (.int .i64 1)) 3,3,none⟩),
 (true,⟨some 64,.slice 66 (.tmp 61) none (some (.tmp 63)) none,66,none⟩),
 (true,⟨some 65,.move (.tmp 0),66,none⟩),
 (true,⟨some 66,.move (.tmp 7),3,none⟩),
 (true,⟨some 67,.binOp .sub 3 (.tmp 66) (.const (.int .i64 1)) 3,3,none⟩),
 (true,⟨some 68,.indexAddr 66 (.tmp 65) (.tmp 67),0,none⟩),
 (true,⟨some 4,.assign (.tmp 64),66,none⟩),
 (false,⟨some 69,.load 3 (.tmp 68),3,none⟩),
 (true,⟨some 5,.assign (.tmp 69),3,none⟩),
 (true,⟨some 6,.assign (.const (.bool true)),4,none⟩)]
theorem c128draw1{L:List Nat}{ρ:Env}{w:World}{Q:Post}(h:DL Tryz.prog c128D1 L ρ w.drew Q):drawW Tryz.prog (drawOps 1 c128code) L ρ w Q :=
 drawW_by [(true,0),(true,1),(true,2),(true,3),(true,4),(true,5),(true,6),(true,7),(true,9),(false,8),(true,10),(true,11)] c128D1 (by kernel_rfl) (by kernel_rfl) (by kernel_rfl) h
theorem ent128(a0 a1:Value)(w:World)(K:Value→World→Prop)(h:W Tryz.prog c128 [(0,a0),(1,a1)] w (finQ Tryz.prog [.tmp 4,.tmp 5,.tmp 6] K)):Ret Tryz.prog 128 [a0,a1] w K :=
 Ret_of_W (code:=c128code) Tryz.func128 (by kernel_rfl) (by kernel_rfl) (of_decide_eq_true (by kernel_rfl)) h
@[go_sem] theorem go128:goFunc Tryz.prog 128=true:=by kernel_rfl
def c129code:Code:=match Tryz.f129.body with | some c=>c | none=>.skip
def c129S0(_:Unit):Cmd:=.ret
def c129S1(_:Unit):Cmd:=.ret
def c129S2(_:Unit):Cmd:=.ret
def c129S3(_:Unit):Cmd:=(.cond (.tmp 16)
 (.seq (.ops [
 ⟨some 33,.move (.tmp 0),66,none⟩,
 ⟨some 34,.fieldAddr 38 (.tmp 3) 4,0,none⟩,
 ⟨some 35,.load 3 (.tmp 34),3,none⟩,
 ⟨some 36,.binOp .eql 3 (.tmp 35) (.const (.int .i64 12)) 3,4,none⟩,
 ⟨some 37,.move (.tmp 36),4,none⟩,
 ⟨some 38,.move (.tmp 8),4,(some (37,true))⟩,
 ⟨some 39,.pick (.tmp 37) (.tmp 38) (.const (.bool false)),4,none⟩,
 ⟨some 40,.call ⟨.value (.func 151),#[(.tmp 39)],#[4]⟩,3,none⟩,
 ⟨some 4,.assign (.tmp 33),66,none⟩,
 ⟨some 5,.assign (.tmp 40),3,none⟩,
 ⟨some 6,.assign (.const (.bool true)),4,none⟩] [4,5,6]) (sg c129S0))
 (.seq (.ops [
 ⟨some 42,.fieldAddr 38 (.tmp 3) 4,0,none⟩,
 ⟨some 43,.load 3 (.tmp 42),3,none⟩,
 ⟨some 44,.binOp .eql 3 (.tmp 43) (.const (.int .i64 10)) 3,4,none⟩,
 ⟨some 41,.assign (.tmp 44),4,none⟩] [0,3,7,41])
 (.cond (.tmp 41)
 (.seq (.ops [
 ⟨some 45,.move (.tmp 0),66,none⟩,
 ⟨some 46,.move (.tmp 7),3,none⟩,
 ⟨some 47,.fieldAddr 38 (.tmp 3) 5,0,none⟩,
 ⟨some 48,.load 3 (.tmp 47),3,none⟩,
 ⟨some 49,.buildSlice 66 1 #[(0,(.tmp 48))],66,none⟩,
 ⟨some 50,.call ⟨.value (.func 152),#[(.tmp 45),(.tmp 46),(.tmp 49)],#[66,3,66]⟩,66,none⟩,
 ⟨some 4,.assign (.tmp 50),66,none⟩,
 ⟨some 5,.assign (.const (.int .i64 1)),3,none⟩,
 ⟨some 6,.assign (.const (.bool true)),4,none⟩] [4,5,6]) (sg c129S1))
 (.seq (.ops [
 ⟨some 52,.fieldAddr 38 (.tmp 3) 4,0,none⟩,
 ⟨some 53,.load 3 (.tmp 52),3,none⟩,
 ⟨some 54,.binOp .eql 3 (.tmp 53) (.const (.int .i64 11)) 3,4,none⟩,
 ⟨some 51,.assign (.tmp 54),4,none⟩] [0,7,51])
 (.cond (.tmp 51)
 (.seq (.ops [
 ⟨some 55,.move (.tmp 0),66,none⟩,
 ⟨some 56,.move (.tmp 7),3,none⟩,
 ⟨some 57,.move (.tmp 7),3,none⟩,
 ⟨some 58,.binOp .add 3 (.tmp 57) (.const (.int .i64 1)) 3,3,none⟩,
 ⟨some 59,.call ⟨.value (.func 153),#[(.tmp 55),(.tmp 56),(.tmp 58)],#[66,3,3]⟩,66,none⟩,
 ⟨some 4,.assign (.tmp 59),66,none⟩,
 ⟨some 5,.assign (.const (.int .i64 1)),3,none⟩,
 ⟨some 6,.assign (.const (.bool true)),4,none⟩] [4,5,6]) (sg c129S2))
 (.skip []))))))
def c129S4(_:Unit):Cmd:=(.seq (.ops [
 ⟨some 4,.assign (.const (.slice none 0 0)),66,none⟩,
 ⟨some 5,.assign (.const (.int .i64 0)),3,none⟩,
 ⟨some 6,.assign (.const (.bool false)),4,none⟩] [4,5,6])
 .ret)
def c129S5(_:Unit):Cmd:=(.seq (.block 0 (.seq (.seq (.ops [
 ⟨some 17,.fieldAddr 38 (.tmp 3) 4,0,none⟩,
 ⟨some 18,.load 3 (.tmp 17),3,none⟩,
 ⟨some 19,.binOp .eql 3 (.tmp 18) (.const (.int .i64 12)) 3,4,none⟩,
 ⟨some 16,.assign (.tmp 19),4,none⟩] [0,3,7,8,16])
 (.cond (.tmp 16)
 (.skip [0,3,7,8,16])
 (.seq (.ops [
 ⟨some 20,.fieldAddr 38 (.tmp 3) 4,0,none⟩,
 ⟨some 21,.load 3 (.tmp 20),3,none⟩,
 ⟨some 22,.binOp .eql 3 (.tmp 21) (.const (.int .i64 10)) 3,4,none⟩,
 ⟨some 23,.move (.tmp 22),4,none⟩,
 ⟨some 24,.move (.tmp 8),4,(some (23,true))⟩,
 ⟨some 25,.pick (.tmp 23) (.tmp 24) (.const (.bool false)),4,none⟩,
 ⟨some 16,.assign (.tmp 25),4,none⟩] [0,3,7,8,16])
 (.cond (.tmp 16)
 (.skip [0,3,7,8,16])
 (.ops [
 ⟨some 26,.fieldAddr 38 (.tmp 3) 4,0,none⟩,
 ⟨some 27,.load 3 (.tmp 26),3,none⟩,
 ⟨some 28,.binOp .eql 3 (.tmp 27) (.const (.int .i64 11)) 3,4,none⟩,
 ⟨some 29,.move (.tmp 28),4,none⟩,
 ⟨some 30,.move (.tmp 8),4,(some (29,true))⟩,
 ⟨some 31,.unOp .not 4 (.tmp 30),4,(some (29,true))⟩,
 ⟨some 32,.pick (.tmp 29) (.tmp 31) (.const (.bool false)),4,none⟩,
 ⟨some 16,.assign (.tmp 32),4,none⟩] [0,3,7,8,16]))))) (sg c129S3))) (sg c129S4))
def c129:Cmd:=(.seq (.ops [
 ⟨some 3,.box 38 (.tmp 1),0,none⟩,
 ⟨some 4,.assign (.const (.slice none 0 0)),66,none⟩,
 ⟨some 5,.assign (.const (.int .i64 0)),3,none⟩,
 ⟨some 6,.assign (.const (.bool false)),4,none⟩] [0,3])
 (.seq (.ops [
 ⟨some 10,.move (.tmp 0),66,none⟩,
 ⟨some 11,.fieldAddr 38 (.tmp 3) 5,0,none⟩,
 ⟨some 12,.load 3 (.tmp 11),3,none⟩,
 ⟨some 13,.call ⟨.value (.func 150),#[(.tmp 10),(.tmp 12)],#[66,3]⟩,151,none⟩,
 ⟨some 9,.move (.tmp 13),151,none⟩,
 ⟨some 14,.extract (.tmp 9) 0,3,none⟩,
 ⟨some 15,.extract (.tmp 9) 1,4,none⟩,
 ⟨some 7,.assign (.tmp 14),3,none⟩,
 ⟨some 8,.assign (.tmp 15),4,none⟩] [0,3,7,8]) (sg c129S5)))
attribute [go_sem] c129 c129S0 c129S1 c129S2 c129S3 c129S4
theorem ent129(a0 a1:Value)(w:World)(K:Value→World→Prop)(h:W Tryz.prog c129 [(0,a0),(1,a1)] w (finQ Tryz.prog [.tmp 4,.tmp 5,.tmp 6] K)):Ret Tryz.prog 129 [a0,a1] w K :=
 Ret_of_W (code:=c129code) Tryz.func129 (by kernel_rfl) (by kernel_rfl) (of_decide_eq_true (by kernel_rfl)) h
@[go_sem] theorem go129:goFunc Tryz.prog 129=true:=by kernel_rfl
def c135code:Code:=match Tryz.f135.body with | some c=>c | none=>.skip
def c135S0(_:Unit):Cmd:=.ret
def c135S1(_:Unit):Cmd:=.ret
def c135S2(_:Unit):Cmd:=.ret
def c135S3(_:Unit):Cmd:=.ret
def c135S4(_:Unit):Cmd:=(.cond (.tmp 126)
 (.seq (.ops [
 ⟨some 127,.build 176 #[(0,(.const (.slice none 0 0))),(1,(.const (.int .i64 0))),(2,(.const (.bool true)))],176,none⟩,
 ⟨none,.store 176 (.tmp 4) (.tmp 127),0,none⟩] [4])
 .ret)
 (.skip [0,3,4,5,6]))
def c135S5(_:Unit):Cmd:=.ret
def c135S6(_:Unit):Cmd:=.ret
def c135S7(_:Unit):Cmd:=(.seq (.ops [
 ⟨some 179,.build 176 #[],176,none⟩,
 ⟨none,.store 176 (.tmp 4) (.tmp 179),0,none⟩] [4])
 .ret)
def c135S8(_:Unit):Cmd:=(.seq (.seq (.ops [
 ⟨some 172,.move (.tmp 6),3,none⟩,
 ⟨some 173,.binOp .eql 3 (.tmp 172) (.const (.int .i64 11)) 3,4,none⟩] [0,3,4,173])
 (.cond (.tmp 173)
 (.seq (.ops [
 ⟨some 174,.move (.tmp 0),66,none⟩,
 ⟨some 175,.fieldAddr 38 (.tmp 3) 5,0,none⟩,
 ⟨some 176,.load 3 (.tmp 175),3,none⟩,
 ⟨some 177,.call ⟨.value (.func 156),#[(.tmp 174),(.tmp 176)],#[66,3]⟩,66,none⟩,
 ⟨some 178,.build 176 #[(0,(.tmp 177)),(1,(.const (.int .i64 1))),(2,(.const (.bool true)))],176,none⟩,
 ⟨none,.store 176 (.tmp 4) (.tmp 178),0,none⟩] [4]) (sg c135S6))
 (.skip [4]))) (sg c135S7))
def c135S9(_:Unit):Cmd:=(.seq (.seq (.ops [
 ⟨some 165,.move (.tmp 6),3,none⟩,
 ⟨some 166,.binOp .eql 3 (.tmp 165) (.const (.int .i64 10)) 3,4,none⟩] [0,3,4,6,166])
 (.cond (.tmp 166)
 (.seq (.ops [
 ⟨some 167,.move (.tmp 0),66,none⟩,
 ⟨some 168,.fieldAddr 38 (.tmp 3) 5,0,none⟩,
 ⟨some 169,.load 3 (.tmp 168),3,none⟩,
 ⟨some 170,.call ⟨.value (.func 157),#[(.tmp 167),(.tmp 169)],#[66,3]⟩,66,none⟩,
 ⟨some 171,.build 176 #[(0,(.tmp 170)),(1,(.const (.int .i64 1))),(2,(.const (.bool true)))],176,none⟩,
 ⟨none,.store 176 (.tmp 4) (.tmp 171),0,none⟩] [4]) (sg c135S5))
 (.skip [0,3,4,6]))) (sg c135S8))
def c135S10(_:Unit):Cmd:=(.seq (.seq (.ops [
 ⟨some 146,.move (.tmp 6),3,none⟩,
 ⟨some 147,.binOp .eql 3 (.tmp 146) (.const (.int .i64 12)) 3,4,none⟩,
 ⟨some 148,.move (.tmp 147),4,none⟩,
 ⟨some 149,.move (.tmp 6),3,(some (148,false))⟩,
 ⟨some 150,.binOp .eql 3 (.tmp 149) (.const (.int .i64 10)) 3,4,(some (148,false))⟩,
 ⟨some 151,.move (.tmp 150),4,(some (148,false))⟩,
 ⟨some 152,.move (.tmp 7),4,(some (151,true))⟩,
 ⟨some 153,.pick (.tmp 151) (.tmp 152) (.const (.bool false)),4,(some (148,false))⟩,
 ⟨some 154,.pick (.tmp 148) (.const (.bool true)) (.tmp 153),4,none⟩,
 ⟨some 155,.move (.tmp 154),4,none⟩,
 ⟨some 156,.move (.tmp 6),3,(some (155,false))⟩,
 ⟨some 157,.binOp .eql 3 (.tmp 156) (.const (.int .i64 11)) 3,4,(some (155,false))⟩,
 ⟨some 158,.move (.tmp 157),4,(some (155,false))⟩,
 ⟨some 159,.move (.tmp 7),4,(some (158,true))⟩,
 ⟨some 160,.unOp .not 4 (.tmp 159),4,(some (158,true))⟩,
 ⟨some 161,.pick (.tmp 158) (.tmp 160) (.const (.bool false)),4,(some (155,false))⟩,
 ⟨some 162,.pick (.tmp 155) (.const (.bool true)) (.tmp 161),4,none⟩] [0,3,4,6,162])
 (.cond (.tmp 162)
 (.seq (.ops [
 ⟨some 163,.move (.tmp 0),66,none⟩,
 ⟨some 164,.build 176 #[(0,(.tmp 163)),(1,(.const (.int .i64 0))),(2,(.const (.bool true)))],176,none⟩,
 ⟨none,.store 176 (.tmp 4) (.tmp 164),0,none⟩] [4])
 .ret)
 (.skip [0,3,4,6]))) (sg c135S9))
def c135S11(_:Unit):Cmd:=(.seq (.seq (.ops [
 ⟨some 139,.move (.tmp 6),3,none⟩,
 ⟨some 140,.binOp .eql 3 (.tmp 139) (.const (.int .i64 12)) 3,4,none⟩,
 ⟨some 141,.move (.tmp 140),4,none⟩,
 ⟨some 142,.move (.tmp 7),4,(some (141,true))⟩,
 ⟨some 143,.pick (.tmp 141) (.tmp 142) (.const (.bool false)),4,none⟩] [0,3,4,6,7,143])
 (.cond (.tmp 143)
 (.seq (.ops [
 ⟨some 144,.move (.tmp 0),66,none⟩,
 ⟨some 145,.build 176 #[(0,(.tmp 144)),(1,(.const (.int .i64 1))),(2,(.const (.bool true)))],176,none⟩,
 ⟨none,.store 176 (.tmp 4) (.tmp 145),0,none⟩] [4])
 .ret)
 (.skip [0,3,4,6,7]))) (sg c135S10))
def c135S12(_:Unit):Cmd:=(.seq (.ops [
 ⟨some 131,.move (.tmp 0),66,none⟩,
 ⟨some 132,.fieldAddr 38 (.tmp 3) 5,0,none⟩,
 ⟨some 133,.load 3 (.tmp 132),3,none⟩,
 ⟨some 134,.call ⟨.value (.func 156),#[(.tmp 131),(.tmp 133)],#[66,3]⟩,66,none⟩,
 ⟨some 135,.call ⟨.builtin .len,#[(.tmp 134)],#[66]⟩,3,none⟩,
 ⟨some 136,.move (.tmp 0),66,none⟩,
 ⟨some 137,.call ⟨.builtin .len,#[(.tmp 136)],#[66]⟩,3,none⟩,
 ⟨some 138,.binOp .lss 3 (.tmp 135) (.tmp 137) 3,4,none⟩,
 ⟨some 7,.assign (.tmp 138),4,none⟩] [0,3,4,6,7]) (sg c135S11))
def c135S13(_:Unit):Cmd:=(.seq (.seq (.ops [
 ⟨some 128,.move (.tmp 5),3,none⟩,
 ⟨some 129,.binOp .neq 3 (.tmp 128) (.const (.int .i64 5)) 3,4,none⟩] [0,3,4,6,129])
 (.cond (.tmp 129)
 (.seq (.ops [
 ⟨some 130,.build 176 #[],176,none⟩,
 ⟨none,.store 176 (.tmp 4) (.tmp 130),0,none⟩] [4])
 .ret)
 (.skip [0,3,4,6]))) (sg c135S12))
def c135S14(_:Unit):Cmd:=(.seq (.seq (.draw (drawOps 4 c135code) [0,3,4,5,6,126]) (sg c135S4)) (sg c135S13))
def c135S15(_:Unit):Cmd:=(.seq (.seq (.ops [
 ⟨some 93,.move (.tmp 5),3,none⟩,
 ⟨some 94,.binOp .eql 3 (.tmp 93) (.const (.int .i64 6)) 3,4,none⟩,
 ⟨some 95,.move (.tmp 94),4,none⟩,
 ⟨some 96,.move (.tmp 6),3,(some (95,true))⟩,
 ⟨some 97,.binOp .eql 3 (.tmp 96) (.const (.int .i64 13)) 3,4,(some (95,true))⟩,
 ⟨some 98,.pick (.tmp 95) (.tmp 97) (.const (.bool false)),4,none⟩,
 ⟨some 99,.move (.tmp 98),4,none⟩,
 ⟨some 100,.move (.tmp 0),66,(some (99,true))⟩,
 ⟨some 101,.call ⟨.builtin .len,#[(.tmp 100)],#[66]⟩,3,(some (99,true))⟩,
 ⟨some 102,.binOp .eql 3 (.tmp 101) (.const (.int .i64 0)) 3,4,(some (99,true))⟩,
 ⟨some 103,.pick (.tmp 99) (.tmp 102) (.const (.bool false)),4,none⟩] [0,3,4,5,6,103])
 (.cond (.tmp 103)
 (.seq (.ops [
 ⟨some 104,.fieldAddr 38 (.tmp 3) 1,0,none⟩,
 ⟨some 105,.load 3 (.tmp 104),3,none⟩,
 ⟨some 106,.buildSlice 66 1 #[(0,(.tmp 105))],66,none⟩,
 ⟨some 107,.build 176 #[(0,(.tmp 106)),(1,(.const (.int .i64 0))),(2,(.const (.bool true)))],176,none⟩,
 ⟨none,.store 176 (.tmp 4) (.tmp 107),0,none⟩] [4])
 .ret)
 (.skip [0,3,4,5,6]))) (sg c135S14))
def c135S16(_:Unit):Cmd:=(.seq (.seq (.ops [
 ⟨some 75,.move (.tmp 5),3,none⟩,
 ⟨some 76,.binOp .eql 3 (.tmp 75) (.const (.int .i64 4)) 3,4,none⟩,
 ⟨some 77,.move (.tmp 76),4,none⟩,
 ⟨some 78,.move (.tmp 6),3,(some (77,true))⟩,
 ⟨some 79,.binOp .eql 3 (.tmp 78) (.const (.int .i64 9)) 3,4,(some (77,true))⟩,
 ⟨some 80,.pick (.tmp 77) (.tmp 79) (.const (.bool false)),4,none⟩] [0,3,4,5,6,80])
 (.cond (.tmp 80)
 (.seq (.draw (drawOps 3 c135code) [4]) (sg c135S3))
 (.skip [0,3,4,5,6]))) (sg c135S15))
def c135S17(_:Unit):Cmd:=(.seq (.seq (.ops [
 ⟨some 63,.move (.tmp 5),3,none⟩,
 ⟨some 64,.binOp .eql 3 (.tmp 63) (.const (.int .i64 3)) 3,4,none⟩,
 ⟨some 65,.move (.tmp 64),4,none⟩,
 ⟨some 66,.move (.tmp 6),3,(some (65,true))⟩,
 ⟨some 67,.binOp .eql 3 (.tmp 66) (.const (.int .i64 7)) 3,4,(some (65,true))⟩,
 ⟨some 68,.pick (.tmp 65) (.tmp 67) (.const (.bool false)),4,none⟩] [0,3,4,5,6,68])
 (.cond (.tmp 68)
 (.seq (.draw (drawOps 2 c135code) [4]) (sg c135S2))
 (.skip [0,3,4,5,6]))) (sg c135S16))
def c135S18(_:Unit):Cmd:=(.seq (.seq (.ops [
 ⟨some 43,.move (.tmp 5),3,none⟩,
 ⟨some 44,.binOp .eql 3 (.tmp 43) (.const (.int .i64 3)) 3,4,none⟩,
 ⟨some 45,.move (.tmp 44),4,none⟩,
 ⟨some 46,.move (.tmp 6),3,(some (45,true))⟩,
 ⟨some 47,.binOp .eql 3 (.tmp 46) (.const (.int .i64 7)) 3,4,(some (45,true))⟩,
 ⟨some 48,.pick (.tmp 45) (.tmp 47) (.const (.bool false)),4,none⟩,
 ⟨some 49,.move (.tmp 48),4,none⟩,
 ⟨some 50,.move (.tmp 5),3,(some (49,false))⟩,
 ⟨some 51,.binOp .eql 3 (.tmp 50) (.const (.int .i64 4)) 3,4,(some (49,false))⟩,
 ⟨some 52,.move (.tmp 51),4,(some (49,false))⟩,
 ⟨some 53,.move (.tmp 6),3,(some (52,true))⟩,
 ⟨some 54,.binOp .eql 3 (.tmp 53) (.const (.int .i64 9)) 3,4,(some (52,true))⟩,
 ⟨some 55,.pick (.tmp 52) (.tmp 54) (.const (.bool false)),4,(some (49,false))⟩,
 ⟨some 56,.pick (.tmp 49) (.const (.bool true)) (.tmp 55),4,none⟩,
 ⟨some 57,.move (.tmp 56),4,none⟩,
 ⟨some 58,.move (.tmp 0),66,(some (57,true))⟩,
 ⟨some 59,.call ⟨.builtin .len,#[(.tmp 58)],#[66]⟩,3,(some (57,true))⟩,
 ⟨some 60,.binOp .eql 3 (.tmp 59) (.const (.int .i64 0)) 3,4,(some (57,true))⟩,
 ⟨some 61,.pick (.tmp 57) (.tmp 60) (.const (.bool false)),4,none⟩] [0,3,4,5,6,61])
 (.cond (.tmp 61)
 (.seq (.ops [
 ⟨some 62,.build 176 #[(0,(.const (.slice none 0 0))),(1,(.const (.int .i64 (-1)))),(2,(.const (.bool true)))],176,none⟩,
 ⟨none,.store 176 (.tmp 4) (.tmp 62),0,none⟩] [4])
 .ret)
 (.skip [0,3,4,5,6]))) (sg c135S17))
def c135S19(_:Unit):Cmd:=(.seq (.seq (.ops [
 ⟨some 21,.move (.tmp 5),3,none⟩,
 ⟨some 22,.binOp .eql 3 (.tmp 21) (.const (.int .i64 3)) 3,4,none⟩,
 ⟨some 23,.move (.tmp 22),4,none⟩,
 ⟨some 24,.move (.tmp 6),3,(some (23,true))⟩,
 ⟨some 25,.binOp .eql 3 (.tmp 24) (.const (.int .i64 6)) 3,4,(some (23,true))⟩,
 ⟨some 26,.pick (.tmp 23) (.tmp 25) (.const (.bool false)),4,none⟩,
 ⟨some 27,.move (.tmp 26),4,none⟩,
 ⟨some 28,.move (.tmp 5),3,(some (27,false))⟩,
 ⟨some 29,.binOp .eql 3 (.tmp 28) (.const (.int .i64 4)) 3,4,(some (27,false))⟩,
 ⟨some 30,.move (.tmp 29),4,(some (27,false))⟩,
 ⟨some 31,.move (.tmp 6),3,(some (30,true))⟩,
 ⟨some 32,.binOp .eql 3 (.tmp 31) (.const (.int .i64 8)) 3,4,(some (30,true))⟩,
 ⟨some 33,.pick (.tmp 30) (.tmp 32) (.const (.bool false)),4,(some (27,false))⟩,
 ⟨some 34,.pick (.tmp 27) (.const (.bool true)) (.tmp 33),4,none⟩] [0,3,4,5,6,34])
 (.cond (.tmp 34)
 (.seq (.draw (drawOps 1 c135code) [4]) (sg c135S1))
 (.skip [0,3,4,5,6]))) (sg c135S18))
def c135S20(_:Unit):Cmd:=(.seq (.seq (.ops [
 ⟨some 12,.move (.tmp 5),3,none⟩,
 ⟨some 13,.binOp .eql 3 (.tmp 12) (.const (.int .i64 1)) 3,4,none⟩,
 ⟨some 14,.move (.tmp 13),4,none⟩,
 ⟨some 15,.move (.tmp 5),3,(some (14,false))⟩,
 ⟨some 16,.binOp .eql 3 (.tmp 15) (.const (.int .i64 2)) 3,4,(some (14,false))⟩,
 ⟨some 17,.pick (.tmp 14) (.const (.bool true)) (.tmp 16),4,none⟩] [0,3,4,5,6,17])
 (.cond (.tmp 17)
 (.seq (.ops [
 ⟨some 18,.move (.tmp 0),66,none⟩,
 ⟨some 19,.load 38 (.tmp 3),38,none⟩,
 ⟨some 20,.call ⟨.value (.func 155),#[(.tmp 18),(.tmp 19)],#[66,38]⟩,176,none⟩,
 ⟨none,.store 176 (.tmp 4) (.tmp 20),0,none⟩] [4]) (sg c135S0))
 (.skip [0,3,4,5,6]))) (sg c135S19))
def c135:Cmd:=(.seq (.ops [
 ⟨some 3,.box 38 (.tmp 1),0,none⟩,
 ⟨some 4,.alloc 176,0,none⟩] [0,3,4])
 (.seq (.draw (drawOps 0 c135code) [0,3,4,5,6]) (sg c135S20)))
attribute [go_sem] c135 c135S0 c135S1 c135S2 c135S3 c135S4 c135S5 c135S6 c135S7 c135S8 c135S9 c135S10 c135S12 c135S13 c135S14 c135S15 c135S16 c135S17 c135S18 c135S19
def c135D0:List (Bool × Ins):=[
 (true,⟨some 8,.fieldAddr 38 (.tmp 3) 3,0,none⟩),
 (false,⟨some 9,.load 3 (.tmp 8),3,none⟩),
 (true,⟨some 10,.fieldAddr 38 (.tmp 3) 4,0,none⟩),
 (false,⟨some 11,.load 3 (.tmp 10),3,none⟩),
 (true,⟨some 5,.assign (.tmp 9),3,none⟩),
 (true,⟨some 6,.assign (.tmp 11),3,none⟩)]
theorem c135draw0{L:List Nat}{ρ:Env}{w:World}{Q:Post}(h:DL Tryz.prog c135D0 L ρ w.drew Q):drawW Tryz.prog (drawOps 0 c135code) L ρ w Q :=
 drawW_still [true,false,true,false,true,true] c135D0 (by kernel_rfl) (by kernel_rfl) (by kernel_rfl) h
def c135D1:GT:=(.one 0 ⟨some 36,.move (.tmp 0),66,none⟩
 (.one 0 ⟨some 38,.fieldAddr 38 (.tmp 3) 5,0,none⟩
 (.one 1 ⟨some 39,.load 3 (.tmp 38),3,none⟩
 (.alt ⟨some 35,.buildSlice 66 0 #[],66,none⟩
 (.alt ⟨some 37,.call ⟨.builtin .append,#[(.tmp 35),(.tmp 36)],#[66,66]⟩,66,none⟩
 (.one 2 ⟨some 40,.buildSlice 66 1 #[(0,(.tmp 39))],66,none⟩
 (.one 2 ⟨some 41,.call ⟨.builtin .append,#[(.tmp 37),(.tmp 40)],#[66,66]⟩,66,none⟩
 (.one 2 ⟨some 42,.build 176 #[(0,(.tmp 41)),(1,(.const (.int .i64 0))),(2,(.const (.bool true)))],176,none⟩
 (.one 2 ⟨none,.store 176 (.tmp 4) (.tmp 42),0,none⟩
 .nil))))
 (.alt ⟨some 40,.buildSlice 66 1 #[(0,(.tmp 39))],66,none⟩
 (.one 2 ⟨some 37,.call ⟨.builtin .append,#[(.tmp 35),(.tmp 36)],#[66,66]⟩,66,none⟩
 (.one 2 ⟨some 41,.call ⟨.builtin .append,#[(.tmp 37),(.tmp 40)],#[66,66]⟩,66,none⟩
 (.one 2 ⟨some 42,.build 176 #[(0,(.tmp 41)),(1,(.const (.int .i64 0))),(2,(.const (.bool true)))],176,none⟩
 (.one 2 ⟨none,.store 176 (.tmp 4) (.tmp 42),0,none⟩
 .nil))))
 .stop))
 (.alt ⟨some 40,.buildSlice 66 1 #[(0,(.tmp 39))],66,none⟩
 (.one 2 ⟨some 35,.buildSlice 66 0 #[],66,none⟩
 (.one 2 ⟨some 37,.call ⟨.builtin .append,#[(.tmp 35),(.tmp 36)],#[66,66]⟩,66,none⟩
 (.one 2 ⟨some 41,.call ⟨.builtin .append,#[(.tmp 37),(.tmp 40)],#[66,66]⟩,66,none⟩
 (.one 2 ⟨some 42,.build 176 #[(0,(.tmp 41)),(1,(.const (.int .i64 0))),(2,(.const (.bool true)))],176,none⟩
 (.one 2 ⟨none,.store 176 (.tmp 4) (.tmp 42),0,none⟩
 .nil)))))
 .stop)))))
theorem c135draw1{L:List Nat}{ρ:Env}{w:World}{Q:Post}(S:World→Prop)(hS:S w.drew)(h:DT Tryz.prog S c135D1 L ρ w.drew Q):drawW Tryz.prog (drawOps 1 c135code) L ρ w Q :=
 drawW_tree [4] (.one 0 1 (.one 0 3 (.one 1 4 (.alt 0 (.alt 2 (.one 2 5 (.one 2 6 (.one 2 7 (.one 2 8 .nil)))) (.alt 5 (.one 2 2 (.one 2 6 (.one 2 7 (.one 2 8 .nil)))) .stop)) (.alt 5 (.one 2 0 (.one 2 2 (.one 2 6 (.one 2 7 (.one 2 8 .nil))))) .stop))))) c135D1 (by kernel_rfl) (by kernel_rfl) (by kernel_rfl) S hS h
def c135D2:List (Bool × Ins):=[
 (true,⟨some 69,.move (.tmp 0),66,none⟩),
 (true,⟨some 70,.slice 66 (.tmp 69) (some (.const (.int .i64 1))) none none,66,none⟩),
 (true,⟨some 71,.move (.tmp 0),66,none⟩),
 (true,⟨some 72,.indexAddr 66 (.tmp 71) (.const (.int .i64 0)),0,none⟩),
 (false,⟨some 73,.load 3 (.tmp 72),3,none⟩),
 (false,⟨some 74,.build 176 #[(0,(.tmp 70)),(1,(.tmp 73)),(2,(.const (.bool true)))],176,none⟩),
 (false,⟨none,.store 176 (.tmp 4) (.tmp 74),0,none⟩)]
theorem c135draw2{L:List Nat}{ρ:Env}{w:World}{Q:Post}(h:DL Tryz.prog c135D2 L ρ w.drew Q):drawW Tryz.prog (drawOps 2 c135code) L ρ w Q :=
 drawW_by [(true,0),(true,1),(true,2),(true,3),(false,4),(false,5),(false,6)] c135D2 (by kernel_rfl) (by kernel_rfl) (by kernel_rfl) h
def c135D3:List (Bool × Ins):=[
 (true,⟨some 81,.move (.tmp 0),66,none⟩),
 (true,⟨some 82,.move (.tmp 0),66,none⟩),
 (true,⟨some 83,.call ⟨.builtin .len,#[(.tmp 82)],#[66]⟩,3,none⟩),
 (true,⟨some 84,.binOp .sub 3 (.tmp 83) (.const (.int .i64 1)) 3,3,none⟩),
 (true,⟨some 85,.slice 66 (.tmp 81) none (some (.tmp 84)) none,66,none⟩),
 (true,⟨some 86,.move (.tmp 0),66,none⟩),
 (true,⟨some 87,.move (.tmp 0),66,none⟩),
 (true,⟨some 88,.call ⟨.builtin .len,#[(.tmp 87)],#[66]⟩,3,none⟩),
 (true,⟨some 89,.binOp .sub 3 (.tmp 88) (.const (.int .i64 1)) 3,3,none⟩),
 (true,⟨some 90,.indexAddr 66 (.tmp 86) (.tmp 89),0,none⟩),
 (false,⟨some 91,.load 3 (.tmp 90),3,none⟩),
 (false,⟨some 92,.build 176 #[(0,(.tmp 85)),(1,(.tmp 91)),(2,(.const (.bool true)))],176,none⟩),
 (false,⟨none,.store 176 (.tmp 4) (.tmp 92),0,none⟩)]
theorem c135draw3{L:List Nat}{ρ:Env}{w:World}{Q:Post}(h:DL Tryz.prog c135D3 L ρ w.drew Q):drawW Tryz.prog (drawOps 3 c135code) L ρ w Q :=
 drawW_by [(true,0),(true,1),(true,2),(true,3),(true,4),(true,5),(true,6),(true,7),(true,8),(true,9),(false,10),(false,11),(false,12)] c135D3 (by kernel_rfl) (by kernel_rfl) (by kernel_rfl) h
def c135D4:List (Bool × Ins):=[
 (true,⟨some 108,.move (.tmp 5),3,none⟩),
 (true,⟨some 109,.binOp .eql 3 (.tmp 108) (.const (.int .i64 6)) 3,4,none⟩),
 (true,⟨some 110,.move (.tmp 109),4,none⟩),
 (true,⟨some 111,.move (.tmp 6),3,(some (110,true))⟩),
 (true,⟨some 112,.binOp .eql 3 (.tmp 111) (.const (.int .i64 14)) 3,4,(some (110,true))⟩),
 (true,⟨some 113,.pick (.tmp 110) (.tmp 112) (.const (.bool false)),4,none⟩),
 (true,⟨some 114,.move (.tmp 113),4,none⟩),
 (true,⟨some 115,.move (.tmp 0),66,(some (114,true))⟩),
 (true,⟨some 116,.call ⟨.builtin .len,#[(.tmp 115)],#[66]⟩,3,(some (114,true))⟩),
 (true,⟨some 117,.binOp .eql 3 (.tmp 116) (.const (.int .i64 1)) 3,4,(some (114,true))⟩),
 (true,⟨some 118,.pick (.tmp 114) (.tmp 117) (.const (.bool false)),4,none⟩),
 (true,⟨some 119,.move (.tmp 118),4,none⟩),
 (true,⟨some 120,.move (.tmp 0),66,(some (119,true))⟩),
 (true,⟨some 121,.indexAddr 66 (.tmp 120) (.const (.int .i64 0)),0,(some (119,true))⟩),
 (false,⟨some 122,.load 3 (.tmp 121),3,(some (119,true))⟩),
 (true,⟨some 123,.fieldAddr 38 (.tmp 3) 1,0,(some (119,true))⟩),
 (false,⟨some 124,.load 3 (.tmp 123),3,(some (119,true))⟩),
 (true,⟨some 125,.binOp .eql 3 (.tmp 122) (.tmp 124) 3,4,(some (119,true))⟩),
 (true,⟨some 126,.pick (.tmp 119) (.tmp 125) (.const (.bool false)),4,none⟩)]
theorem c135draw4{L:List Nat}{ρ:Env}{w:World}{Q:Post}(h:DL Tryz.prog c135D4 L ρ w.drew Q):drawW Tryz.prog (drawOps 4 c135code) L ρ w Q :=
 drawW_still [true,true,true,true,true,true,true,true,true,true,true,true,true,true,false,true,false,true,true] c135D4 (by kernel_rfl) (by kernel_rfl) (by kernel_rfl) h
theorem ent135(a0 a1:Value)(w:World)(K:Value→World→Prop)(h:W Tryz.prog c135 [(0,a0),(1,a1)] w (finQ Tryz.prog [.cell 4 176] K)):Ret Tryz.prog 135 [a0,a1] w K :=
 Ret_of_W (code:=c135code) Tryz.func135 (by kernel_rfl) (by kernel_rfl) (of_decide_eq_true (by kernel_rfl)) h
@[go_sem] theorem go135:goFunc Tryz.prog 135=true:=by kernel_rfl
def c136code:Code:=match Tryz.f136.body with | some c=>c | none=>.skip
def c136S0(_:Unit):Cmd:=.ret
def c136S1(_:Unit):Cmd:=(.seq (.draw (drawOps 0 c136code) [2]) (sg c136S0))
def c136:Cmd:=(.seq (.ops [
 ⟨some 2,.assign (.const (.string (ofL []))),9,none⟩] [0])
 (.seq (.seq (.ops [
 ⟨some 3,.move (.tmp 0),155,none⟩,
 ⟨some 4,.binOp .lss 155 (.tmp 3) (.const (.int .u64 128)) 155,4,none⟩] [0,4])
 (.cond (.tmp 4)
 (.seq (.ops [
 ⟨some 5,.move (.tmp 0),155,none⟩,
 ⟨some 6,.convert 155 5 (.tmp 5),5,none⟩,
 ⟨some 7,.buildSlice 185 1 #[(0,(.tmp 6))],185,none⟩,
 ⟨some 8,.convert 185 9 (.tmp 7),9,none⟩,
 ⟨some 2,.assign (.tmp 8),9,none⟩] [2])
 .ret)
 (.skip [0]))) (sg c136S1)))
attribute [go_sem] c136 c136S0 c136S1
def c136D0:GT:=(.one 0 ⟨some 9,.move (.tmp 0),155,none⟩
 (.one 0 ⟨some 10,.binOp .rem 155 (.tmp 9) (.const (.int .u64 128)) 155,155,none⟩
 (.one 0 ⟨some 11,.binOp .add 155 (.tmp 10) (.const (.int .u64 128)) 155,155,none⟩
 (.one 0 ⟨some 12,.convert 155 5 (.tmp 11),5,none⟩
 (.one 0 ⟨some 15,.move (.tmp 0),155,none⟩
 (.one 0 ⟨some 16,.binOp .quo 155 (.tmp 15) (.const (.int .u64 128)) 155,155,none⟩
 (.alt ⟨some 13,.buildSlice 185 1 #[(0,(.tmp 12))],185,none⟩
 (.alt ⟨some 14,.convert 185 9 (.tmp 13),9,none⟩
 (.one 2 ⟨some 17,.call ⟨.value (.func 136),#[(.tmp 16)],#[155]⟩,9,none⟩
 (.one 0 ⟨some 18,.binOp .add 9 (.tmp 14) (.tmp 17) 9,9,none⟩
 (.one 0 ⟨some 2,.assign (.tmp 18),9,none⟩
 .nil)))
 (.alt ⟨some 17,.call ⟨.value (.func 136),#[(.tmp 16)],#[155]⟩,9,none⟩
 (.one 2 ⟨some 14,.convert 185 9 (.tmp 13),9,none⟩
 (.one 0 ⟨some 18,.binOp .add 9 (.tmp 14) (.tmp 17) 9,9,none⟩
 (.one 0 ⟨some 2,.assign (.tmp 18),9,none⟩
 .nil)))
 .stop))
 (.alt ⟨some 17,.call ⟨.value (.func 136),#[(.tmp 16)],#[155]⟩,9,none⟩
 (.one 2 ⟨some 13,.buildSlice 185 1 #[(0,(.tmp 12))],185,none⟩
 (.one 2 ⟨some 14,.convert 185 9 (.tmp 13),9,none⟩
 (.one 0 ⟨some 18,.binOp .add 9 (.tmp 14) (.tmp 17) 9,9,none⟩
 (.one 0 ⟨some 2,.assign (.tmp 18),9,none⟩
 .nil))))
 .stop))))))))
theorem c136draw0{L:List Nat}{ρ:Env}{w:World}{Q:Post}(S:World→Prop)(hS:S w.drew)(h:DT Tryz.prog S c136D0 L ρ w.drew Q):drawW Tryz.prog (drawOps 0 c136code) L ρ w Q :=
 drawW_tree [] (.one 0 0 (.one 0 1 (.one 0 2 (.one 0 3 (.one 0 6 (.one 0 7 (.alt 4 (.alt 5 (.one 2 8 (.one 0 9 (.one 0 10 .nil))) (.alt 8 (.one 2 5 (.one 0 9 (.one 0 10 .nil))) .stop)) (.alt 8 (.one 2 4 (.one 2 5 (.one 0 9 (.one 0 10 .nil)))) .stop)))))))) c136D0 (by kernel_rfl) (by kernel_rfl) (by kernel_rfl) S hS h
theorem ent136(a0:Value)(w:World)(K:Value→World→Prop)(h:W Tryz.prog c136 [(0,a0)] w (finQ Tryz.prog [.tmp 2] K)):Ret Tryz.prog 136 [a0] w K :=
 Ret_of_W (code:=c136code) Tryz.func136 (by kernel_rfl) (by kernel_rfl) (of_decide_eq_true (by kernel_rfl)) h
@[go_sem] theorem go136:goFunc Tryz.prog 136=true:=by kernel_rfl
def c137code:Code:=match Tryz.f137.body with | some c=>c | none=>.skip
def c137S0(_:Unit):Cmd:=(.seq (.ops [
 ⟨some 8,.move (.tmp 0),3,none⟩,
 ⟨some 9,.binOp .sub 3 (.const (.int .i64 (-1))) (.tmp 8) 3,3,none⟩,
 ⟨some 10,.convert 3 155 (.tmp 9),155,none⟩,
 ⟨some 11,.binOp .mul 155 (.const (.int .u64 2)) (.tmp 10) 155,155,none⟩,
 ⟨some 12,.binOp .add 155 (.tmp 11) (.const (.int .u64 1)) 155,155,none⟩,
 ⟨some 2,.assign (.tmp 12),155,none⟩] [2])
 .ret)
def c137:Cmd:=(.seq (.ops [
 ⟨some 2,.assign (.const (.int .u64 0)),155,none⟩] [0])
 (.seq (.seq (.ops [
 ⟨some 3,.move (.tmp 0),3,none⟩,
 ⟨some 4,.binOp .geq 3 (.tmp 3) (.const (.int .i64 0)) 3,4,none⟩] [0,4])
 (.cond (.tmp 4)
 (.seq (.ops [
 ⟨some 5,.move (.tmp 0),3,none⟩,
 ⟨some 6,.convert 3 155 (.tmp 5),155,none⟩,
 ⟨some 7,.binOp .mul 155 (.const (.int .u64 2)) (.tmp 6) 155,155,none⟩,
 ⟨some 2,.assign (.tmp 7),155,none⟩] [2])
 .ret)
 (.skip [0]))) (sg c137S0)))
attribute [go_sem] c137 c137S0
theorem ent137(a0:Value)(w:World)(K:Value→World→Prop)(h:W Tryz.prog c137 [(0,a0)] w (finQ Tryz.prog [.tmp 2] K)):Ret Tryz.prog 137 [a0] w K :=
 Ret_of_W (code:=c137code) Tryz.func137 (by kernel_rfl) (by kernel_rfl) (of_decide_eq_true (by kernel_rfl)) h
@[go_sem] theorem go137:goFunc Tryz.prog 137=true:=by kernel_rfl
@[go_sem] theorem go150:goFunc Tryz.prog 150=true:=by kernel_rfl
def c151code:Code:=match Tryz.f151.body with | some c=>c | none=>.skip
def c151S0(_:Unit):Cmd:=(.seq (.ops [
 ⟨some 2,.assign (.const (.int .i64 0)),3,none⟩] [2])
 .ret)
def c151:Cmd:=(.seq (.ops [
 ⟨some 2,.assign (.const (.int .i64 0)),3,none⟩] [0])
 (.seq (.seq (.ops [
 ⟨some 3,.move (.tmp 0),4,none⟩] [3])
 (.cond (.tmp 3)
 (.seq (.ops [
 ⟨some 2,.assign (.const (.int .i64 1)),3,none⟩] [2])
 .ret)
 (.skip []))) (sg c151S0)))
attribute [go_sem] c151 c151S0
theorem ent151(a0:Value)(w:World)(K:Value→World→Prop)(h:W Tryz.prog c151 [(0,a0)] w (finQ Tryz.prog [.tmp 2] K)):Ret Tryz.prog 151 [a0] w K :=
 Ret_of_W (code:=c151code) Tryz.func151 (by kernel_rfl) (by kernel_rfl) (of_decide_eq_true (by kernel_rfl)) h
@[go_sem] theorem go151:goFunc Tryz.prog 151=true:=by kernel_rfl
def c155code:Code:=match Tryz.f155.body with | some c=>c | none=>.skip
def c155S0(_:Unit):Cmd:=(.cond (.tmp 44)
 (.seq (.ops [
 ⟨some 45,.fieldAddr 38 (.tmp 3) 6,0,none⟩,
 ⟨some 46,.load 3 (.tmp 45),3,none⟩,
 ⟨some 47,.buildSlice 66 1 #[(0,(.tmp 46))],66,none⟩,
 ⟨some 48,.build 176 #[(0,(.tmp 47)),(1,(.const (.int .i64 1))),(2,(.const (.bool true)))],176,none⟩,
 ⟨none,.store 176 (.tmp 4) (.tmp 48),0,none⟩] [4])
 .ret)
 (.skip [0,3,4]))
def c155S1(_:Unit):Cmd:=(.seq (.ops [
 ⟨some 87,.build 176 #[],176,none⟩,
 ⟨none,.store 176 (.tmp 4) (.tmp 87),0,none⟩] [4])
 .ret)
def c155S2(_:Unit):Cmd:=(.seq (.seq (.ops [
 ⟨some 73,.fieldAddr 38 (.tmp 3) 3,0,none⟩,
 ⟨some 74,.load 3 (.tmp 73),3,none⟩,
 ⟨some 75,.binOp .eql 3 (.tmp 74) (.const (.int .i64 2)) 3,4,none⟩,
 ⟨some 76,.move (.tmp 75),4,none⟩,
 ⟨some 77,.fieldAddr 38 (.tmp 3) 4,0,(some (76,true))⟩,
 ⟨some 78,.load 3 (.tmp 77),3,(some (76,true))⟩,
 ⟨some 79,.binOp .eql 3 (.tmp 78) (.const (.int .i64 5)) 3,4,(some (76,true))⟩,
 ⟨some 80,.pick (.tmp 76) (.tmp 79) (.const (.bool false)),4,none⟩] [0,4,80])
 (.cond (.tmp 80)
 (.seq (.opsX [
 ⟨some 81,.move (.tmp 0),66,none⟩,
 ⟨some 82,.indexAddr 66 (.tmp 81) (.const (.int .i64 0)),0,none⟩,
 ⟨some 83,.load 3 (.tmp 82),3,none⟩,
 ⟨some 84,.binOp .sub 3 (.tmp 83) (.const (.int .i64 1)) 3,3,none⟩,
 ⟨some 85,.buildSlice 66 1 #[(0,(.tmp 84))],66,none⟩,
 ⟨some 86,.build 176 #[(0,(.tmp 85)),(1,(.const (.int .i64 0))),(2,(.const (.bool true)))],176,none⟩,
 ⟨none,.store 176 (.tmp 4) (.tmp 86),0,none⟩] [4])
 .ret)
 (.skip [4]))) (sg c155S1))
def c155S3(_:Unit):Cmd:=(.seq (.seq (.ops [
 ⟨some 59,.fieldAddr 38 (.tmp 3) 3,0,none⟩,
 ⟨some 60,.load 3 (.tmp 59),3,none⟩,
 ⟨some 61,.binOp .eql 3 (.tmp 60) (.const (.int .i64 2)) 3,4,none⟩,
 ⟨some 62,.move (.tmp 61),4,none⟩,
 ⟨some 63,.fieldAddr 38 (.tmp 3) 4,0,(some (62,true))⟩,
 ⟨some 64,.load 3 (.tmp 63),3,(some (62,true))⟩,
 ⟨some 65,.binOp .eql 3 (.tmp 64) (.const (.int .i64 4)) 3,4,(some (62,true))⟩,
 ⟨some 66,.pick (.tmp 62) (.tmp 65) (.const (.bool false)),4,none⟩] [0,3,4,66])
 (.cond (.tmp 66)
 (.seq (.opsX [
 ⟨some 67,.move (.tmp 0),66,none⟩,
 ⟨some 68,.indexAddr 66 (.tmp 67) (.const (.int .i64 0)),0,none⟩,
 ⟨some 69,.load 3 (.tmp 68),3,none⟩,
 ⟨some 70,.binOp .add 3 (.tmp 69) (.const (.int .i64 1)) 3,3,none⟩,
 ⟨some 71,.buildSlice 66 1 #[(0,(.tmp 70))],66,none⟩,
 ⟨some 72,.build 176 #[(0,(.tmp 71)),(1,(.const (.int .i64 0))),(2,(.const (.bool true)))],176,none⟩,
 ⟨none,.store 176 (.tmp 4) (.tmp 72),0,none⟩] [4])
 .ret)
 (.skip [0,3,4]))) (sg c155S2))
def c155S4(_:Unit):Cmd:=(.seq (.seq (.ops [
 ⟨some 49,.fieldAddr 38 (.tmp 3) 3,0,none⟩,
 ⟨some 50,.load 3 (.tmp 49),3,none⟩,
 ⟨some 51,.binOp .eql 3 (.tmp 50) (.const (.int .i64 1)) 3,4,none⟩,
 ⟨some 52,.move (.tmp 51),4,none⟩,
 ⟨some 53,.fieldAddr 38 (.tmp 3) 4,0,(some (52,true))⟩,
 ⟨some 54,.load 3 (.tmp 53),3,(some (52,true))⟩,
 ⟨some 55,.binOp .eql 3 (.tmp 54) (.const (.int .i64 3)) 3,4,(some (52,true))⟩,
 ⟨some 56,.pick (.tmp 52) (.tmp 55) (.const (.bool false)),4,none⟩] [0,3,4,56])
 (.cond (.tmp 56)
 (.seq (.ops [
 ⟨some 57,.move (.tmp 0),66,none⟩,
 ⟨some 58,.build 176 #[(0,(.tmp 57)),(1,(.const (.int .i64 0))),(2,(.const (.bool true)))],176,none⟩,
 ⟨none,.store 176 (.tmp 4) (.tmp 58),0,none⟩] [4])
 .ret)
 (.skip [0,3,4]))) (sg c155S3))
def c155S5(_:Unit):Cmd:=(.seq (.seq (.draw (drawOps 0 c155code) [0,3,4,44]) (sg c155S0)) (sg c155S4))
def c155S6(_:Unit):Cmd:=(.seq (.seq (.ops [
 ⟨some 17,.fieldAddr 38 (.tmp 3) 3,0,none⟩,
 ⟨some 18,.load 3 (.tmp 17),3,none⟩,
 ⟨some 19,.binOp .eql 3 (.tmp 18) (.const (.int .i64 1)) 3,4,none⟩,
 ⟨some 20,.move (.tmp 19),4,none⟩,
 ⟨some 21,.fieldAddr 38 (.tmp 3) 4,0,(some (20,true))⟩,
 ⟨some 22,.load 3 (.tmp 21),3,(some (20,true))⟩,
 ⟨some 23,.binOp .eql 3 (.tmp 22) (.const (.int .i64 2)) 3,4,(some (20,true))⟩,
 ⟨some 24,.pick (.tmp 20) (.tmp 23) (.const (.bool false)),4,none⟩] [0,3,4,24])
 (.cond (.tmp 24)
 (.seq (.ops [
 ⟨some 25,.fieldAddr 38 (.tmp 3) 5,0,none⟩,
 ⟨some 26,.load 3 (.tmp 25),3,none⟩,
 ⟨some 27,.buildSlice 66 1 #[(0,(.tmp 26))],66,none⟩,
 ⟨some 28,.build 176 #[(0,(.tmp 27)),(1,(.const (.int .i64 0))),(2,(.const (.bool true)))],176,none⟩,
 ⟨none,.store 176 (.tmp 4) (.tmp 28),0,none⟩] [4])
 .ret)
 (.skip [0,3,4]))) (sg c155S5))
def c155S7(_:Unit):Cmd:=(.seq (.seq (.ops [
 ⟨some 9,.fieldAddr 38 (.tmp 3) 4,0,none⟩,
 ⟨some 10,.load 3 (.tmp 9),3,none⟩,
 ⟨some 11,.binOp .eql 3 (.tmp 10) (.const (.int .i64 1)) 3,4,none⟩] [0,3,4,11])
 (.cond (.tmp 11)
 (.seq (.ops [
 ⟨some 12,.move (.tmp 0),66,none⟩,
 ⟨some 13,.move (.tmp 0),66,none⟩,
 ⟨some 14,.indexAddr 66 (.tmp 13) (.const (.int .i64 0)),0,none⟩,
 ⟨some 15,.load 3 (.tmp 14),3,none⟩,
 ⟨some 16,.build 176 #[(0,(.tmp 12)),(1,(.tmp 15)),(2,(.const (.bool true)))],176,none⟩,
 ⟨none,.store 176 (.tmp 4) (.tmp 16),0,none⟩] [4])
 .ret)
 (.skip [0,3,4]))) (sg c155S6))
def c155:Cmd:=(.seq (.ops [
 ⟨some 3,.box 38 (.tmp 1),0,none⟩,
 ⟨some 4,.alloc 176,0,none⟩] [0,3,4])
 (.seq (.seq (.ops [
 ⟨some 5,.move (.tmp 0),66,none⟩,
 ⟨some 6,.call ⟨.builtin .len,#[(.tmp 5)],#[66]⟩,3,none⟩,
 ⟨some 7,.binOp .neq 3 (.tmp 6) (.const (.int .i64 1)) 3,4,none⟩] [0,3,4,7])
 (.cond (.tmp 7)
 (.seq (.ops [
 ⟨some 8,.build 176 #[],176,none⟩,
 ⟨none,.store 176 (.tmp 4) (.tmp 8),0,none⟩] [4])
 .ret)
 (.skip [0,3,4]))) (sg c155S7)))
attribute [go_sem] c155 c155S0 c155S1 c155S2 c155S3 c155S4 c155S5 c155S6 c155S7
def c155D0:List (Bool × Ins):=[
 (true,⟨some 29,.fieldAddr 38 (.tmp 3) 3,0,none⟩),
 (false,⟨some 30,.load 3 (.tmp 29),3,none⟩),
 (true,⟨some 31,.binOp .eql 3 (.tmp 30) (.const (.int .i64 1)) 3,4,none⟩),
 (true,⟨some 32,.move (.tmp 31),4,none⟩),
 (true,⟨some 33,.fieldAddr 38 (.tmp 3) 4,0,(some (32,true))⟩),
 (false,⟨some 34,.load 3 (.tmp 33),3,(some (32,true))⟩),
 (true,⟨some 35,.binOp .eql 3 (.tmp 34) (.const (.int .i64 3)) 3,4,(some (32,true))⟩),
 (true,⟨some 36,.pick (.tmp 32) (.tmp 35) (.const (.bool false)),4,none⟩),
 (true,⟨some 37,.move (.tmp 36),4,none⟩),
 (true,⟨some 38,.move (.tmp 0),66,(some (37,true))⟩),
 (true,⟨some 39,.indexAddr 66 (.tmp 38) (.const (.int .i64 0)),0,(some (37,true))⟩),
 (false,⟨some 40,.load 3 (.tmp 39),3,(some (37,true))⟩),
 (true,⟨some 41,.fieldAddr 38 (.tmp 3) 5,0,(some (37,true))⟩),
 (false,⟨some 42,.load 3 (.tmp 41),3,(some (37,true))⟩),
 (true,⟨some 43,.binOp .eql 3 (.tmp 40) (.tmp 42) 3,4,(some (37,true))⟩),
 (true,⟨some 44,.pick (.tmp 37) (.tmp 43) (.const (.bool false)),4,none⟩)]
theorem c155draw0{L:List Nat}{ρ:Env}{w:World}{Q:Post}(h:DL Tryz.prog c155D0 L ρ w.drew Q):drawW Tryz.prog (drawOps 0 c155code) L ρ w Q :=
 drawW_still [true,false,true,true,true,false,true,true,true,true,true,false,true,false,true,true] c155D0 (by kernel_rfl) (by kernel_rfl) (by kernel_rfl) h
theorem ent155(a0 a1:Value)(w:World)(K:Value→World→Prop)(h:W Tryz.prog c155 [(0,a0),(1,a1)] w (finQ Tryz.prog [.cell 4 176] K)):Ret Tryz.prog 155 [a0,a1] w K :=
 Ret_of_W (code:=c155code) Tryz.func155 (by kernel_rfl) (by kernel_rfl) (of_decide_eq_true (by kernel_rfl)) h
@[go_sem] theorem go155:goFunc Tryz.prog 155=true:=by kernel_rfl
def c156code:Code:=match Tryz.f156.body with | some c=>c | none=>.skip
def c156S0(_:Unit):Cmd:=(.ops [
 ⟨some 11,.move (.tmp 6),3,none⟩,
 ⟨some 12,.binOp .add 3 (.tmp 11) (.const (.int .i64 1)) 3,3,none⟩,
 ⟨some 6,.assign (.tmp 12),3,none⟩] [0,1,5,6])
def c156S1(_:Unit):Cmd:=(.seq (.block 1 (.seq (.ops [
 ⟨some 13,.move (.tmp 0),66,none⟩,
 ⟨some 14,.move (.tmp 6),3,none⟩,
 ⟨some 15,.indexAddr 66 (.tmp 13) (.tmp 14),0,none⟩,
 ⟨some 16,.load 3 (.tmp 15),3,none⟩,
 ⟨some 17,.move (.tmp 1),3,none⟩,
 ⟨some 18,.binOp .neq 3 (.tmp 16) (.tmp 17) 3,4,none⟩] [0,1,5,6,18])
 (.cond (.tmp 18)
 (.ops [
 ⟨some 19,.move (.tmp 5),66,none⟩,
 ⟨some 20,.move (.tmp 0),66,none⟩,
 ⟨some 21,.move (.tmp 6),3,none⟩,
 ⟨some 22,.indexAddr 66 (.tmp 20) (.tmp 21),0,none⟩,
 ⟨some 23,.load 3 (.tmp 22),3,none⟩,
 ⟨some 24,.buildSlice 66 1 #[(0,(.tmp 23))],66,none⟩,
 ⟨some 25,.call ⟨.builtin .append,#[(.tmp 19),(.tmp 24)],#[66,66]⟩,66,none⟩,
 ⟨some 5,.assign (.tmp 25),66,none⟩] [0,1,5,6])
 (.skip [0,1,5,6])))) (sg c156S0))
def c156L0(_:Unit):Cmd:=(.seq (.seq (.ops [
 ⟨some 7,.move (.tmp 6),3,none⟩,
 ⟨some 8,.move (.tmp 0),66,none⟩,
 ⟨some 9,.call ⟨.builtin .len,#[(.tmp 8)],#[66]⟩,3,none⟩,
 ⟨some 10,.binOp .lss 3 (.tmp 7) (.tmp 9) 3,4,none⟩] [0,1,5,6,10])
 (.cond (.tmp 10)
 (.skip [0,1,5,6])
 (.exit 0 [5]))) (sg c156S1))
def c156S2(_:Unit):Cmd:=(.seq (.ops [
 ⟨some 26,.move (.tmp 5),66,none⟩,
 ⟨some 4,.assign (.tmp 26),66,none⟩] [4])
 .ret)
def c156:Cmd:=(.seq (.ops [
 ⟨some 4,.assign (.const (.slice none 0 0)),66,none⟩] [0,1])
 (.seq (.ops [
 ⟨some 5,.assign (.const (.slice none 0 0)),66,none⟩] [0,1,5])
 (.seq (.seq (.ops [
 ⟨some 6,.assign (.const (.int .i64 0)),3,none⟩] [0,1,5,6])
 (.block 0 (.loop (sg c156L0)))) (sg c156S2))))
attribute [go_sem] c156 c156S0 c156S1 c156L0 c156S2
theorem ent156(a0 a1:Value)(w:World)(K:Value→World→Prop)(h:W Tryz.prog c156 [(0,a0),(1,a1)] w (finQ Tryz.prog [.tmp 4] K)):Ret Tryz.prog 156 [a0,a1] w K :=
 Ret_of_W (code:=c156code) Tryz.func156 (by kernel_rfl) (by kernel_rfl) (of_decide_eq_true (by kernel_rfl)) h
@[go_sem] theorem go156:goFunc Tryz.prog 156=true:=by kernel_rfl
def c157code:Code:=match Tryz.f157.body with | some c=>c | none=>.skip
def c157S0(_:Unit):Cmd:=(.ops [
 ⟨some 6,.assign (.const (.bool true)),4,none⟩] [0,1,5,6,7])
def c157S1(_:Unit):Cmd:=(.ops [
 ⟨some 28,.move (.tmp 5),66,none⟩,
 ⟨some 29,.move (.tmp 0),66,none⟩,
 ⟨some 30,.move (.tmp 7),3,none⟩,
 ⟨some 31,.indexAddr 66 (.tmp 29) (.tmp 30),0,none⟩,
 ⟨some 32,.load 3 (.tmp 31),3,none⟩,
 ⟨some 33,.buildSlice 66 1 #[(0,(.tmp 32))],66,none⟩,
 ⟨some 34,.call ⟨.builtin .append,#[(.tmp 28),(.tmp 33)],#[66,66]⟩,66,none⟩,
 ⟨some 5,.assign (.tmp 34),66,none⟩] [0,1,5,6,7])
def c157S2(_:Unit):Cmd:=(.ops [
 ⟨some 12,.move (.tmp 7),3,none⟩,
 ⟨some 13,.binOp .add 3 (.tmp 12) (.const (.int .i64 1)) 3,3,none⟩,
 ⟨some 7,.assign (.tmp 13),3,none⟩] [0,1,5,6,7])
def c157S3(_:Unit):Cmd:=(.seq (.block 1 (.seq (.seq (.ops [
 ⟨some 14,.move (.tmp 6),4,none⟩,
 ⟨some 15,.unOp .not 4 (.tmp 14),4,none⟩,
 ⟨some 16,.move (.tmp 15),4,none⟩,
 ⟨some 17,.move (.tmp 0),66,(some (16,true))⟩,
 ⟨some 18,.move (.tmp 7),3,(some (16,true))⟩,
 ⟨some 19,.indexAddr 66 (.tmp 17) (.tmp 18),0,(some (16,true))⟩,
 ⟨some 20,.load 3 (.tmp 19),3,(some (16,true))⟩,
 ⟨some 21,.move (.tmp 1),3,(some (16,true))⟩,
 ⟨some 22,.binOp .gtr 3 (.tmp 20) (.tmp 21) 3,4,(some (16,true))⟩,
 ⟨some 23,.pick (.tmp 16) (.tmp 22) (.const (.bool false)),4,none⟩] [0,1,5,6,7,23])
 (.cond (.tmp 23)
 (.seq (.ops [
 ⟨some 24,.move (.tmp 5),66,none⟩,
 ⟨some 25,.move (.tmp 1),3,none⟩,
 ⟨some 26,.buildSlice 66 1 #[(0,(.tmp 25))],66,none⟩,
 ⟨some 27,.call ⟨.builtin .append,#[(.tmp 24),(.tmp 26)],#[66,66]⟩,66,none⟩,
 ⟨some 5,.assign (.tmp 27),66,none⟩] [0,1,5,7]) (sg c157S0))
 (.skip [0,1,5,6,7]))) (sg c157S1))) (sg c157S2))
def c157L0(_:Unit):Cmd:=(.seq (.seq (.ops [
 ⟨some 8,.move (.tmp 7),3,none⟩,
 ⟨some 9,.move (.tmp 0),66,none⟩,
 ⟨some 10,.call ⟨.builtin .len,#[(.tmp 9)],#[66]⟩,3,none⟩,
 ⟨some 11,.binOp .lss 3 (.tmp 8) (.tmp 10) 3,4,none⟩] [0,1,5,6,7,11])
 (.cond (.tmp 11)
 (.skip [0,1,5,6,7])
 (.exit 0 [1,5,6]))) (sg c157S3))
def c157S4(_:Unit):Cmd:=(.seq (.ops [
 ⟨some 41,.move (.tmp 5),66,none⟩,
 ⟨some 4,.assign (.tmp 41),66,none⟩] [4])
 .ret)
def c157S5(_:Unit):Cmd:=(.seq (.seq (.ops [
 ⟨some 35,.move (.tmp 6),4,none⟩,
 ⟨some 36,.unOp .not 4 (.tmp 35),4,none⟩] [1,5,36])
 (.cond (.tmp 36)
 (.ops [
 ⟨some 37,.move (.tmp 5),66,none⟩,
 ⟨some 38,.move (.tmp 1),3,none⟩,
 ⟨some 39,.buildSlice 66 1 #[(0,(.tmp 38))],66,none⟩,
 ⟨some 40,.call ⟨.builtin .append,#[(.tmp 37),(.tmp 39)],#[66,66]⟩,66,none⟩,
 ⟨some 5,.assign (.tmp 40),66,none⟩] [5])
 (.skip [5]))) (sg c157S4))
def c157:Cmd:=(.seq (.ops [
 ⟨some 4,.assign (.const (.slice none 0 0)),66,none⟩] [0,1])
 (.seq (.ops [
 ⟨some 5,.assign (.const (.slice none 0 0)),66,none⟩] [0,1,5])
 (.seq (.ops [
 ⟨some 6,.assign (.const (.bool false)),4,none⟩] [0,1,5,6])
 (.seq (.seq (.ops [
 ⟨some 7,.assign (.const (.int .i64 0)),3,none⟩] [0,1,5,6,7])
 (.block 0 (.loop (sg c157L0)))) (sg c157S5)))))
attribute [go_sem] c157 c157S0 c157S1 c157S2 c157S3 c157L0 c157S4
theorem ent157(a0 a1:Value)(w:World)(K:Value→World→Prop)(h:W Tryz.prog c157 [(0,a0),(1,a1)] w (finQ Tryz.prog [.tmp 4] K)):Ret Tryz.prog 157 [a0,a1] w K :=
 Ret_of_W (code:=c157code) Tryz.func157 (by kernel_rfl) (by kernel_rfl) (of_decide_eq_true (by kernel_rfl)) h
@[go_sem] theorem go157:goFunc Tryz.prog 157=true:=by kernel_rfl
open Go Go.Ann Go.RowKit
def u8(n:Nat):UInt8:=UInt8.ofNat n
def varL(n:Nat):List UInt8:=if h:n<128 then [u8 n] else u8 (n % 128+128)::varL (n / 128)
termination_by n
decreasing_by omega
theorem varL_lt{n:Nat}(h:n<128):varL n=[u8 n]:=by rw [varL,dif_pos h]
theorem varL_ge{n:Nat}(h:¬ n<128):varL n=u8 (n % 128+128)::varL (n / 128):=by rw [varL,dif_neg h]
theorem varL_len{k:Nat}:∀ {n:Nat},n<128 ^ (k+1)→(varL n).length≤k+1:=by
 induction k with
 | zero=>intro n h; rw [varL_lt (by simpa using h)]; simp
 | succ k ih =>
  intro n h
  by_cases hn:n<128
  ·rw [varL_lt hn]; simp
  ·rw [varL_ge hn,List.length_cons]
   have:n / 128<128 ^ (k+1):=by
    rw [Nat.div_lt_iff_lt_mul (by decide)]
    rw [Nat.pow_succ] at h; omega
   have:=ih this
   omega
theorem varL_10{n:Nat}(h:n<18446744073709551616):(varL n).length≤10:=varL_len (k:=9) (by omega)
def byteC(b:UInt8):Value:=.int .u8 b.toNat
theorem wrap_u8(n:Nat):IntKind.u8.wrap (n:Int)=((u8 n).toNat:Int):=by
 rw [wrap_u8_mod]; unfold u8; simp
theorem or128:∀ x:Fin 256,bits BinOp.or IntKind.u8 (x.val:Int) 128=((x.val % 128+128:Nat):Int):=by decide +kernel
theorem or_u8(m:Nat):bits BinOp.or IntKind.u8 (IntKind.u8.wrap (m:Int)) 128=((u8 (m % 128+128)).toNat:Int):=by
 have h:=or128 ⟨m % 256,by omega⟩
 have e:IntKind.u8.wrap (m:Int)=((m % 256:Nat):Int):=by rw [wrap_u8_mod]; omega
 rw [e,h]
 unfold u8
 simp
 omega
theorem byte_one(b:UInt8):∀ u∈[byteC b],u.oneCell'=true:=by intro u hu; rw [List.mem_singleton] at hu; subst hu; rfl
theorem var_ok(n:Nat)(w:World)(hn:n<18446744073709551616):Ret Tryz.prog 125 [.int .u64 n] w fun u w'=>u=.string (ofL (varL n))∧Gr w w':=by
 refine ent125 _ _ _ ?_
 simp (disch:=first|omega|exact zF rfl|exact zG rfl|exact id|(simp only[zA,zB,zC,zD,bytesW];omega)) only[go_sem]
 have s1:=(St.start (W0:=w)).nilRow 5 1
 refine W_loopU (fun x:Nat × List UInt8 × Value=>[(0,.int .u64 x.1),(3,x.2.2)]) (fun x w'=>St w w' (fun _=>False) [.row x.2.2 5 1 x.2.1.length (x.2.1.map byteC)] []∧w.drawn≤w'.drawn∧varL n=x.2.1++varL x.1∧x.1<128 ^ (10 - x.2.1.length)∧x.2.1.length≤9) (fun x=>x.1) (n,[],.slice none 0 0) rfl ⟨s1,Nat.le_refl _,rfl,by simp; omega,by simp⟩ ?_
 rintro ⟨m,pre,v⟩ w1 ⟨s1,hd,hv,hm,hp⟩
 simp only at s1 hd hv hm hp
 obtain ⟨a,c,rfl,_⟩:=own_slice (s1.row 0 rfl)
 by_cases hlt:m<128
 ·have hlt':¬ (128:Int)≤m:=by omega
  simp (disch:=first|omega|exact zF rfl|exact zG rfl|exact id|(simp only[zA,zB,zC,zD,bytesW];omega)) only[go_sem,hlt']
  rw [wrap_u8]
  refine bsW_ones ty185mkI rfl rfl (by decide) (by decide) (byte_one _) ?_
  simp (disch:=first|omega|exact zF rfl|exact zG rfl|exact id|(simp only[zA,zB,zC,zD,bytesW];omega)) only[go_sem]
  have hx:Rd (w1.alloc (.cells #[byteC (u8 m)] 5)) 1 (.slice (some ⟨w1.heap.size,0,none⟩) 1 1) 1 [byteC (u8 m)]:=rd_new (n:=1) (cs:=#[byteC (u8 m)]) rfl
  refine rawB_D ((s1.alloc' (.cells #[byteC (u8 m)] 5)).append 0 rfl ty185mkI rfl (by decide) hx (byte_one _) (by omega) (by omega) ?_)
  intro v6 w6 s6 c6 d6
  simp only [List.set_cons_zero] at s6
  obtain ⟨a6,c6',rfl,_⟩:=own_slice (s6.row 0 rfl)
  simp (disch:=first|omega|exact zF rfl|exact zG rfl|exact id|(simp only[zA,zB,zC,zD,bytesW];omega)) only[go_sem]
  obtain ⟨g,rfl⟩:∃ g,a6=some ⟨g,0,none⟩:=by
   obtain ⟨_,⟨e,h0⟩ | ⟨g,cap,cur,e,_⟩⟩:=s6.row 0 rfl
   ·cases h0
   ·cases e; exact ⟨_,rfl⟩
  have hc:=(s6.row 0 rfl).cells rfl
  refine ⟨varL n,by rw [hv,varL_lt hlt]; simp,fun j b hb=>?_,rfl,s6.bel,Nat.le_trans hd d6⟩
  rw [hv,varL_lt hlt] at hb
  refine hc j _ ?_
  have:pre.map byteC++[byteC (u8 m)]=(pre++[u8 m]).map byteC:=by simp
  rw [this,List.getElem?_map,hb]
  rfl
 ·have hlt':(128:Int)≤m:=by omega
  simp (disch:=first|omega|exact zF rfl|exact zG rfl|exact id|(simp only[zA,zB,zC,zD,bytesW];omega)) only[go_sem,hlt']
  rw [or_u8]
  refine bsW_ones ty185mkI rfl rfl (by decide) (by decide) (byte_one _) ?_
  simp (disch:=first|omega|exact zF rfl|exact zG rfl|exact id|(simp only[zA,zB,zC,zD,bytesW];omega)) only[go_sem]
  have hx:Rd (w1.alloc (.cells #[byteC (u8 (m % 128+128))] 5)) 1 (.slice (some ⟨w1.heap.size,0,none⟩) 1 1) 1 [byteC (u8 (m % 128+128))]:=rd_new (n:=1) (cs:=#[byteC (u8 (m % 128+128))]) rfl
  refine rawB_D ((s1.alloc' (.cells #[byteC (u8 (m % 128+128))] 5)).append 0 rfl ty185mkI rfl (by decide) hx (byte_one _) (by omega) (by omega) ?_)
  intro v6 w6 s6 c6 d6
  simp only [List.set_cons_zero] at s6
  simp (disch:=first|omega|exact zF rfl|exact zG rfl|exact id|(simp only[zA,zB,zC,zD,bytesW];omega)) only[go_sem]
  have e1:(m:Int) / 2 ^ min 7 64=((m / 128:Nat):Int):=by
   rw [show (2:Int) ^ min 7 64=128 by decide]; omega
  rw [e1]
  have e2:pre.map byteC++[byteC (u8 (m % 128+128))]=(pre++[u8 (m % 128+128)]).map byteC:=by simp
  rw [e2] at s6
  have hp2:pre.length≤8:=by
   rcases Nat.lt_or_ge 8 pre.length with h | h
   ·have:pre.length=9:=by omega
    rw [this] at hm
    omega
   ·exact h
  refine ⟨(m / 128,pre++[u8 (m % 128+128)],v6),rfl,⟨by rw [List.length_append]; exact s6,Nat.le_trans hd d6,by simp only; rw [hv,varL_ge hlt,List.append_assoc]; rfl,?_,by simp; omega⟩,by simp only; omega⟩
  simp only [List.length_append,List.length_singleton]
  rw [Nat.div_lt_iff_lt_mul (by decide),← Nat.pow_succ]
  rw [show (10 - (pre.length+1)).succ=10 - pre.length by omega]
  exact hm
def foldN(n:Int):Nat:=if 0≤n then (2 * n).toNat else (-2 * n - 1).toNat
theorem xor_zero(x:Nat)(h:x<18446744073709551616):bits .xor .u64 (x:Int) 0=x:=by
 have e:(BitVec.ofInt 64 (x:Int) ^^^ BitVec.ofInt 64 0).toNat=x:=by
  rw [BitVec.toNat_xor]
  have h2:(BitVec.ofInt 64 (x:Int)).toNat=x:=by
   rw [BitVec.ofInt_natCast,BitVec.toNat_ofNat]; exact Nat.mod_eq_of_lt (by omega)
  have h3:(BitVec.ofInt 64 0).toNat=0:=by decide
  rw [h2,h3,Nat.xor_zero]
 show IntKind.u64.wrap (((BitVec.ofInt 64 (x:Int) ^^^ BitVec.ofInt 64 0).toNat:Nat):Int)=_
 rw [e,wrap_u64_id _ (by omega) (by omega)]
theorem xor_ones(x:Nat)(h:x<18446744073709551616):bits .xor .u64 (x:Int) 18446744073709551615=((18446744073709551615 - x:Nat):Int):=by
 have e:(BitVec.ofInt 64 (x:Int) ^^^ BitVec.ofInt 64 18446744073709551615).toNat=18446744073709551615 - x:=by
  have h2:(BitVec.ofInt 64 (x:Int)).toNat=x:=by
   rw [BitVec.ofInt_natCast,BitVec.toNat_ofNat]; exact Nat.mod_eq_of_lt (by omega)
  have h3:BitVec.ofInt 64 18446744073709551615=BitVec.allOnes 64:=by decide
  rw [h3,BitVec.xor_allOnes,BitVec.toNat_not,h2]
 show IntKind.u64.wrap (((BitVec.ofInt 64 (x:Int) ^^^ BitVec.ofInt 64 18446744073709551615).toNat:Nat):Int)=_
 rw [e,wrap_u64_id _ (by omega) (by omega)]
theorem wrap_u64(n:Int):IntKind.u64.wrap n=n % 18446744073709551616:=by
 simp [IntKind.wrap,IntKind.signed,IntKind.bits]
theorem foldN_lt(n:Int)(h:I64 n):foldN n<18446744073709551616:=by
 obtain ⟨h1,h2⟩:=h
 unfold foldN; split <;> omega
theorem fold_ok(n:Int)(w:World)(h:I64 n):Ret Tryz.prog 126 [.int .i64 n] w fun u w'=>u=.int .u64 (foldN n)∧w'=w:=by
 obtain ⟨h1,h2⟩:=h
 refine ent126 _ _ _ ?_
 simp (disch:=first|omega|exact zF rfl|exact zG rfl|exact id|(simp only[zA,zB,zC,zD,bytesW];omega)) only[go_sem]
 rw [show (2:Int) ^ min 1 64=2 by decide,show (2:Int) ^ min 63 64=9223372036854775808 by decide]
 unfold foldN
 by_cases hn:0≤n
 ·rw [if_pos hn]
  obtain ⟨m,rfl⟩:=Int.eq_ofNat_of_zero_le hn
  have e1:(m:Int) / 9223372036854775808=0:=by omega
  have e2:IntKind.u64.wrap (IntKind.u64.wrap (m:Int) * 2)=((2 * m:Nat):Int):=by rw [wrap_u64,wrap_u64]; omega
  have e3:IntKind.u64.wrap 0=0:=by decide
  rw [e1,e2,e3,xor_zero _ (by omega)]
  omega
 ·rw [if_neg hn]
  obtain ⟨m,hm⟩:∃ m:Nat,n = -(m:Int):=⟨(-n).toNat,by omega⟩
  subst hm
  have e1:-(m:Int) / 9223372036854775808 = -1:=by omega
  have e2:IntKind.u64.wrap (IntKind.u64.wrap (-(m:Int)) * 2)=((18446744073709551616 - 2 * m:Nat):Int):=by rw [wrap_u64,wrap_u64]; omega
  have e3:IntKind.u64.wrap (-1)=18446744073709551615:=by decide
  rw [e1,e2,e3,xor_ones _ (by omega)]
  omega
theorem rfold_ok(n:Int)(w:World)(h:I64 n):Ret Tryz.prog 137 [.int .i64 n] w fun u w'=>u=.int .u64 (foldN n)∧w'=w:=by
 obtain ⟨h1,h2⟩:=h
 refine ent137 _ _ _ ?_
 simp (disch:=first|omega|exact zF rfl|exact zG rfl|exact id|(simp only[zA,zB,zC,zD,bytesW];omega)) only[go_sem]
 unfold foldN
 refine ⟨fun hn=>?_,fun hn=>⟨⟨by omega,by omega⟩,?_⟩⟩
 ·rw [if_pos hn,wrap_u64,wrap_u64]; omega
 ·rw [if_neg (by omega),wrap_u64,wrap_u64,wrap_u64]; omega
theorem rvar1{n:Nat}{w:World}{Q:Value→World→Prop}(h:Q (.slice (some ⟨w.heap.size,0,none⟩) 1 1) (w.alloc (.cells #[byteC (u8 n)] 5))):bsW Tryz.prog 185 1 [0] [.int .u8 (IntKind.u8.wrap n)] w Q:=by
 rw [wrap_u8]
 exact bsW_ones ty185mkI rfl rfl (by decide) (by decide) (byte_one _) h
theorem one_byte{w:World}{b:Nat}{x:UInt8}(h:Blk w b #[byteC x] 5):bytesAt w (some ⟨b,0,none⟩) [x]:=by
 intro i c hc
 match i,hc with
 | 0,hc =>
  simp only [List.getElem?_cons_zero,Option.some.injEq] at hc; subst hc
  exact h.cell 0
 | i+1,hc=>simp at hc
theorem rvar_ok:∀ (k n:Nat) (w:World),n<128 ^ (k+1)→n<18446744073709551616→Ret Tryz.prog 136 [.int .u64 n] w fun u w'=>u=.string (ofL (varL n))∧Below w.heap.size w w':=by
 intro k
 induction k with
 | zero =>
  intro n w h hn
  refine ent136 _ _ _ ?_
  have:(n:Int)<128:=by simp at h; omega
  simp (disch:=first|omega|exact zF rfl|exact zG rfl|exact id|(simp only[zA,zB,zC,zD,bytesW];omega)) only[go_sem,this]
  refine rvar1 ?_
  simp (disch:=first|omega|exact zF rfl|exact zG rfl|exact id|(simp only[zA,zB,zC,zD,bytesW];omega)) only[go_sem]
  refine ⟨[u8 n],rfl,one_byte Blk.new,?_,(Below.refl _ w).alloc (Nat.le_refl _) _⟩
  rw [varL_lt (by omega)]
 | succ k ih =>
  intro n w h hn
  refine ent136 _ _ _ ?_
  simp (disch:=first|omega|exact zF rfl|exact zG rfl|exact id|(simp only[zA,zB,zC,zD,bytesW];omega)) only[go_sem]
  have bl:=fun x=>(Below.refl w.heap.size w).alloc (Nat.le_refl _) (.cells #[byteC x] 5)
  refine ⟨fun h=>rvar1 ?_,fun h=>?_⟩
  ·simp (disch:=first|omega|exact zF rfl|exact zG rfl|exact id|(simp only[zA,zB,zC,zD,bytesW];omega)) only[go_sem]
   refine ⟨[u8 n],rfl,one_byte Blk.new,?_,bl _⟩
   rw [varL_lt (by omega)]
  have hd:n / 128<128 ^ (k+1):=by
   rw [Nat.div_lt_iff_lt_mul (by decide)]
   rw [Nat.pow_succ] at *; omega
  have e1:IntKind.u64.wrap ((n:Int).tdiv 128)=((n / 128:Nat):Int):=by rw [show (n:Int).tdiv 128=((n / 128:Nat):Int) from rfl,wrap_u64]; omega
  have e2:IntKind.u64.wrap ((n:Int).tmod 128+128)=((n % 128+128:Nat):Int):=by rw [show (n:Int).tmod 128=((n % 128:Nat):Int) from rfl,wrap_u64]; omega
  have hn2:varL n=u8 (n % 128+128)::varL (n / 128):=varL_ge (by omega)
  refine c136draw0 (fun _=>True) trivial ?_
  simp (disch:=first|omega|exact zF rfl|exact zG rfl|exact id|(simp only[zA,zB,zC,zD,bytesW];omega)) only[go_sem,c136D0]
  rw [e1,e2]
  have hw:Below w.heap.size w w.drew:=(Below.refl _ w).drew
  constructor
  ·refine rvar1 ?_
   simp (disch:=first|omega|exact zF rfl|exact zG rfl|exact id|(simp only[zA,zB,zC,zD,bytesW];omega)) only[go_sem]
   have B0:Blk (w.alloc (.cells #[byteC (u8 (n % 128+128))] 5)) w.heap.size #[byteC (u8 (n % 128+128))] 5:=Blk.new
   have hb:=bl (u8 (n % 128+128))
   have hl:=varL_10 (show n / 128<18446744073709551616 by omega)
   have hbd:=hb.drew
   constructor
   ·refine ⟨[u8 (n % 128+128)],rfl,one_byte B0.drew,Ret.mono (ih (n / 128) _ hd (by omega)) ?_⟩
    rintro _ w2 ⟨rfl,b2⟩
    simp (disch:=first|omega|exact zF rfl|exact zG rfl|exact id|(simp only[zA,zB,zC,zD,bytesW];omega)) only[go_sem]
    exact ⟨by first | omega | (simp only [List.length_cons,List.length_nil]; omega),by first | (rw [hn2]; done) | (rw [hn2]; rfl),Below.next hbd b2⟩
   ·refine Ret.mono (ih (n / 128) _ hd (by omega)) ?_
    rintro _ w2 ⟨rfl,b2⟩
    simp (disch:=first|omega|exact zF rfl|exact zG rfl|exact id|(simp only[zA,zB,zC,zD,bytesW];omega)) only[go_sem]
    refine ⟨[u8 (n % 128+128)],rfl,one_byte (B0.drew.below b2 B0.drew.lt),?_⟩
    exact ⟨by first | omega | (simp only [List.length_cons,List.length_nil]; omega),by first | (rw [hn2]; done) | (rw [hn2]; rfl),Below.next hbd b2⟩
  ·have hl:=varL_10 (show n / 128<18446744073709551616 by omega)
   refine Ret.mono (ih (n / 128) _ hd (by omega)) ?_
   rintro _ w2 ⟨rfl,b2⟩
   simp (disch:=first|omega|exact zF rfl|exact zG rfl|exact id|(simp only[zA,zB,zC,zD,bytesW];omega)) only[go_sem]
   refine rvar1 ?_
   simp (disch:=first|omega|exact zF rfl|exact zG rfl|exact id|(simp only[zA,zB,zC,zD,bytesW];omega)) only[go_sem]
   refine ⟨[u8 (n % 128+128)],rfl,one_byte Blk.new,by simp only [List.length_cons,List.length_nil]; omega,by rw [hn2,List.singleton_append],(Below.next hw b2).trans ((Below.refl _ w2).alloc (Below.next hw b2).size _)⟩
open Go Go.Ann Go.RowKit
def intE(n:Int):List Value:=[.int .i64 n]
theorem intE_len(n:Int):(intE n).length=1:=rfl
theorem intE_one(n:Int):∀ u∈intE n,u.oneCell'=true:=by intro u hu; simp only [intE,List.mem_singleton] at hu; subst hu; rfl
theorem RdS.int{w:World}{ad:Addr}{n cap:Nat}{l:List Int}(h:RdS w 1 intE (.slice (some ad) n cap) l){k:Nat}(hk:k<l.length):w.cell? (ad.add k)=some (.int .i64 l[k]) :=
 RdS.at1 (e1:=fun r=>.int .i64 r) h hk
def txt(l:List Int):List UInt8:=varL l.length++l.flatMap fun n=>varL (foldN n)
def Ok64(l:List Int):Prop:=∀ n∈l,I64 n
theorem flat_len{l:List Int}(h:Ok64 l):(l.flatMap fun n=>varL (foldN n)).length≤10 * l.length:=by
 induction l with
 | nil=>simp
 | cons n l ih =>
  have h1:=varL_10 (foldN_lt n (h n (List.mem_cons_self ..)))
  have h2:=ih fun m hm=>h m (List.mem_cons_of_mem _ hm)
  rw [List.flatMap_cons,List.length_append,List.length_cons]; omega
theorem text_ok(v:Value)(l:List Int)(w:World)(h:RdS w 1 intE v l)(h64:Ok64 l)(hl:l.length≤1000000):Ret Tryz.prog 93 [v] w fun u w'=>u=.string (ofL (txt l))∧Gr w w':=by
 obtain ⟨a,c,rfl,_⟩:=h.form
 refine ent93 _ _ _ ?_
 simp (disch:=first|omega|exact zF rfl|exact zG rfl|exact id|(simp only[zA,zB,zC,zD,bytesW];omega)) only[go_sem]
 have e0:IntKind.u64.wrap (l.length:Int)=((l.length:Nat):Int):=by rw [wrap_u64]; omega
 rw [e0]
 refine Ret.mono (var_ok l.length w (by omega)) ?_
 rintro _ w1 ⟨rfl,g1⟩
 simp (disch:=first|omega|exact zF rfl|exact zG rfl|exact id|(simp only[zA,zB,zC,zD,bytesW];omega)) only[go_sem]
 have h10:=varL_10 (show l.length<18446744073709551616 by omega)
 refine W_loopU (fun k:Nat=>[(3,.string (ofL (varL l.length++(l.take k).flatMap fun n=>varL (foldN n)))),(12,.int .i64 k)]) (fun k w'=>Gr w w'∧k≤l.length) (fun k=>l.length - k) 0 (by simp [ovr,lk]) ⟨g1,Nat.zero_le _⟩ ?_
 rintro k w2 ⟨g2,hk⟩
 by_cases hlt:k<l.length
 ·have hlt':(k:Int)<l.length:=by omega
  obtain ⟨p,rfl⟩:=h.ptr (by omega)
  have ek:=RdS.int (h.below g2.below (by decide)) hlt
  have hk64:I64 l[k]:=h64 _ (List.getElem_mem hlt)
  simp (disch:=first|omega|exact zF rfl|exact zG rfl|exact id|(simp only[zA,zB,zC,zD,bytesW];omega)) only[go_sem,hlt',ek]
  refine ⟨by omega,Ret.mono (fold_ok l[k] w2 hk64) ?_⟩
  rintro _ w3 ⟨rfl,rfl⟩
  simp (disch:=first|omega|exact zF rfl|exact zG rfl|exact id|(simp only[zA,zB,zC,zD,bytesW];omega)) only[go_sem]
  refine Ret.mono (var_ok (foldN l[k]) w3 (foldN_lt _ hk64)) ?_
  rintro _ w4 ⟨rfl,g4⟩
  simp (disch:=first|omega|exact zF rfl|exact zG rfl|exact id|(simp only[zA,zB,zC,zD,bytesW];omega)) only[go_sem]
  have hb:=flat_len (l:=l.take k) fun n hn=>h64 n (List.mem_of_mem_take hn)
  have hv:=varL_10 (foldN_lt _ hk64)
  rw [List.length_take] at hb
  refine ⟨?_,⟨by omega,by omega⟩,k+1,?_,⟨g2.trans g4,by omega⟩,by omega⟩
  ·simp only [List.length_append]; omega
  ·rw [List.take_succ_eq_append_getElem hlt,List.flatMap_append,List.append_assoc]; simp
 ·have hlt':¬ (k:Int)<l.length:=by omega
  simp (disch:=first|omega|exact zF rfl|exact zG rfl|exact id|(simp only[zA,zB,zC,zD,bytesW];omega)) only[go_sem,hlt']
  rw [List.take_of_length_le (by omega)]
  exact ⟨rfl,g2⟩
theorem rtext_ok(v:Value)(l:List Int)(w:World)(h:RdS w 1 intE v l)(h64:Ok64 l)(hl:l.length≤1000000):Ret Tryz.prog 111 [v] w fun u w'=>u=.string (ofL (txt l))∧Below w.heap.size w w':=by
 obtain ⟨a,c,rfl,_⟩:=h.form
 refine ent111 _ _ _ ?_
 simp (disch:=first|omega|exact zF rfl|exact zG rfl|exact id|(simp only[zA,zB,zC,zD,bytesW];omega)) only[go_sem]
 have e0:IntKind.u64.wrap (l.length:Int)=((l.length:Nat):Int):=by rw [wrap_u64]; omega
 rw [e0]
 refine Ret.mono (rvar_ok 9 l.length w (by omega) (by omega)) ?_
 rintro _ w1 ⟨rfl,g1⟩
 simp (disch:=first|omega|exact zF rfl|exact zG rfl|exact id|(simp only[zA,zB,zC,zD,bytesW];omega)) only[go_sem]
 have h10:=varL_10 (show l.length<18446744073709551616 by omega)
 refine W_loopU (fun k:Nat=>[(3,.string (ofL (varL l.length++(l.take k).flatMap fun n=>varL (foldN n)))),(4,.int .i64 k)]) (fun k w'=>Below w.heap.size w w'∧k≤l.length) (fun k=>l.length - k) 0 (by simp [ovr,lk]) ⟨g1,Nat.zero_le _⟩ ?_
 rintro k w2 ⟨g2,hk⟩
 by_cases hlt:k<l.length
 ·have hlt':(k:Int)<l.length:=by omega
  obtain ⟨p,rfl⟩:=h.ptr (by omega)
  have ek:=RdS.int (h.below g2 (by decide)) hlt
  have hk64:I64 l[k]:=h64 _ (List.getElem_mem hlt)
  simp (disch:=first|omega|exact zF rfl|exact zG rfl|exact id|(simp only[zA,zB,zC,zD,bytesW];omega)) only[go_sem,hlt',ek]
  refine ⟨by omega,Ret.mono (rfold_ok l[k] w2 hk64) ?_⟩
  rintro _ w3 ⟨rfl,rfl⟩
  simp (disch:=first|omega|exact zF rfl|exact zG rfl|exact id|(simp only[zA,zB,zC,zD,bytesW];omega)) only[go_sem]
  refine Ret.mono (rvar_ok 9 (foldN l[k]) w3 (by have:=foldN_lt _ hk64; omega) (foldN_lt _ hk64)) ?_
  rintro _ w4 ⟨rfl,g4⟩
  simp (disch:=first|omega|exact zF rfl|exact zG rfl|exact id|(simp only[zA,zB,zC,zD,bytesW];omega)) only[go_sem]
  have hb:=flat_len (l:=l.take k) fun n hn=>h64 n (List.mem_of_mem_take hn)
  have hv:=varL_10 (foldN_lt _ hk64)
  rw [List.length_take] at hb
  refine ⟨?_,⟨by omega,by omega⟩,k+1,?_,⟨Below.next g2 g4,by omega⟩,by omega⟩
  ·simp only [List.length_append]; omega
  ·rw [List.take_succ_eq_append_getElem hlt,List.flatMap_append,List.append_assoc]; simp
 ·have hlt':¬ (k:Int)<l.length:=by omega
  simp (disch:=first|omega|exact zF rfl|exact zG rfl|exact id|(simp only[zA,zB,zC,zD,bytesW];omega)) only[go_sem,hlt']
  rw [List.take_of_length_le (by omega)]
  exact ⟨rfl,g2⟩
open Go Go.Ann Go.RowKit
theorem ltB_irr:∀ a:List UInt8,Op.bytesLess a a=false
 | []=>rfl
 | a::x=>by simp [Op.bytesLess,ltB_irr x]
theorem ltB_trans:∀ {a b c:List UInt8},Op.bytesLess a b=true→Op.bytesLess b c=true→Op.bytesLess a c=true
 | [],b,c,h1,h2=>by
  cases c with
  | nil=>cases b <;> simp [Op.bytesLess] at h1 h2
  | cons=>simp [Op.bytesLess]
 | a::x,[],c,h1,h2=>by simp [Op.bytesLess] at h1
 | a::x,b::y,[],h1,h2=>by simp [Op.bytesLess] at h2
 | a::x,b::y,c::z,h1,h2=>by
  have ih:=@ltB_trans x y z
  simp only [Op.bytesLess,Bool.or_eq_true,Bool.and_eq_true,decide_eq_true_eq,beq_iff_eq] at *
  rcases h1 with h1 | ⟨e1,h1⟩ <;> rcases h2 with h2 | ⟨e2,h2⟩
  ·exact .inl (UInt8.lt_trans h1 h2)
  ·subst e2; exact .inl h1
  ·subst e1; exact .inl h2
  ·subst e1 e2; exact .inr ⟨rfl,ih h1 h2⟩
theorem ltB_tri:∀ {a b:List UInt8},Op.bytesLess a b=false→Op.bytesLess b a=false→a=b
 | [],[],_,_=>rfl
 | [],b::y,h1,_=>by simp [Op.bytesLess] at h1
 | a::x,[],_,h2=>by simp [Op.bytesLess] at h2
 | a::x,b::y,h1,h2=>by
  have ih:=@ltB_tri x y
  simp only [Op.bytesLess,Bool.or_eq_false_iff,Bool.and_eq_false_imp,decide_eq_false_iff_not,beq_iff_eq] at h1 h2
  have e:a=b:=by
   rcases UInt8.lt_or_lt_of_ne (a:=a) (b:=b) |> fun f=>(Classical.em (a=b)).imp id f with h | h
   ·exact h
   ·rcases h with h | h
    ·exact absurd h h1.1
    ·exact absurd h h2.1
  subst e
  rw [ih (h1.2 rfl) (h2.2 rfl)]
theorem cmpB_lt:∀ a b:List UInt8,decide (Lib.compareBytes a b<0)=Op.bytesLess a b
 | [],[]=>rfl
 | [],b::y=>rfl
 | a::x,[]=>rfl
 | a::x,b::y=>by
  have ih:=cmpB_lt x y
  simp only [Lib.compareBytes,Op.bytesLess]
  by_cases h1:a<b
  ·simp [h1]
  ·by_cases h2:b<a
   ·have:a≠b:=fun e=>by subst e; exact h1 h2
    simp [h1,h2,this]
   ·have e:a=b:=by
     rcases (Classical.em (a=b)).imp id (UInt8.lt_or_lt_of_ne (a:=a) (b:=b)) with h | h | h
     ·exact h
     ·exact absurd h h1
     ·exact absurd h h2
    subst e
    simp only [h1,if_false,beq_self_eq_true,Bool.true_and,decide_false,Bool.false_or]
    exact ih
theorem varL_cut{n m:Nat}{a b:List UInt8}(hn:n<18446744073709551616)(hm:m<18446744073709551616)(h:varL n++a=varL m++b):n=m∧a=b:=by
 have key:∀ k n m:Nat,n<k→varL n++a=varL m++b→n=m∧a=b:=by
  intro k
  induction k with
  | zero=>intro n m h; omega
  | succ k ih =>
   intro n m hk h
   by_cases h1:n<128 <;> by_cases h2:m<128
   ·rw [varL_lt h1,varL_lt h2] at h
    simp only [List.cons_append,List.nil_append,List.cons.injEq] at h
    have:=congrArg UInt8.toNat h.1
    simp [u8] at this
    exact ⟨by omega,h.2⟩
   ·rw [varL_lt h1,varL_ge h2] at h
    simp only [List.cons_append,List.nil_append,List.cons.injEq] at h
    have:=congrArg UInt8.toNat h.1
    simp [u8] at this
    omega
   ·rw [varL_ge h1,varL_lt h2] at h
    simp only [List.cons_append,List.nil_append,List.cons.injEq] at h
    have:=congrArg UInt8.toNat h.1
    simp [u8] at this
    omega
   ·rw [varL_ge h1,varL_ge h2] at h
    simp only [List.cons_append,List.cons.injEq] at h
    obtain ⟨e,r⟩:=ih _ _ (by omega) h.2
    have:=congrArg UInt8.toNat h.1
    simp [u8] at this
    exact ⟨by omega,r⟩
 exact key (n+1) n m (by omega) h
theorem foldN_inj{a b:Int}(h:foldN a=foldN b):a=b:=by
 unfold foldN at h; split at h <;> split at h <;> omega
theorem txt_inj{l m:List Int}(hl:Ok64 l)(hm:Ok64 m)(h1:l.length<18446744073709551616)(h2:m.length<18446744073709551616)(h:txt l=txt m):l=m:=by
 obtain ⟨hlen,k⟩:=varL_cut h1 h2 h
 clear h h1 h2
 induction l generalizing m with
 | nil=>simp at hlen; exact (List.eq_nil_of_length_eq_zero hlen.symm).symm
 | cons a l ih =>
  cases m with
  | nil=>simp at hlen
  | cons b m =>
   rw [List.flatMap_cons,List.flatMap_cons] at k
   obtain ⟨e,r⟩:=varL_cut (foldN_lt _ (hl a (by simp))) (foldN_lt _ (hm b (by simp))) k
   have hl':Ok64 l:=fun n hn=>hl n (List.mem_cons_of_mem _ hn)
   have hm':Ok64 m:=fun n hn=>hm n (List.mem_cons_of_mem _ hn)
   rw [foldN_inj e,ih hl' hm' (by simpa using hlen) r]
def OkS(s:List Int):Prop:=Ok64 s∧s.length≤1000000
theorem OkS.inj{a b:List Int}(ha:OkS a)(hb:OkS b)(h:txt a=txt b):a=b:=by
 have:=ha.2; have:=hb.2
 exact txt_inj ha.1 hb.1 (by omega) (by omega) h
def ltS(a b:List Int):Bool:=Op.bytesLess (txt a) (txt b)
def Uniq(l u:List (List Int)):Prop:=u.Pairwise (fun a b=>ltS a b=true)∧∀ x,x∈u↔x∈l
theorem uniq_one{u v:List (List Int)}(hu:u.Pairwise (fun a b=>ltS a b=true))(hv:v.Pairwise (fun a b=>ltS a b=true))(h:∀ x,x∈u↔x∈v):u=v:=by
 induction u generalizing v with
 | nil =>
  cases v with
  | nil=>rfl
  | cons b v=>exact absurd ((h b).2 (by simp)) (by simp)
 | cons a u ih =>
  cases v with
  | nil=>exact absurd ((h a).1 (by simp)) (by simp)
  | cons b v =>
   rw [List.pairwise_cons] at hu hv
   have e:a=b:=by
    rcases List.mem_cons.1 ((h a).1 (by simp)) with e | e
    ·exact e
    ·rcases List.mem_cons.1 ((h b).2 (by simp)) with f | f
     ·exact f.symm
     ·have h1:=hv.1 a e
      have h2:=hu.1 b f
      have:=ltB_trans h1 h2
      rw [show Op.bytesLess (txt b) (txt b)=false from ltB_irr _] at this; cases this
   subst e
   rw [ih hu.2 hv.2 fun x=>?_]
   have hx:=h x
   simp only [List.mem_cons] at hx
   have n1:x∈u→x≠a:=fun hm e=>by subst e; have:=hu.1 x hm; rw [show ltS x x=false from ltB_irr _] at this; cases this
   have n2:x∈v→x≠a:=fun hm e=>by subst e; have:=hv.1 x hm; rw [show ltS x x=false from ltB_irr _] at this; cases this
   exact ⟨fun hm=>(hx.1 (.inr hm)).resolve_left (n1 hm),fun hm=>(hx.2 (.inr hm)).resolve_left (n2 hm)⟩
theorem Uniq.one{l u v:List (List Int)}(h:Uniq l u)(k:Uniq l v):u=v:=uniq_one h.1 k.1 fun x=>(h.2 x).trans (k.2 x).symm
open Go Go.Ann Go.RowKit
theorem ints_one(l:List Int):∀ u∈l.flatMap intE,u.oneCell'=true:=by intro u hu; obtain ⟨a,_,h⟩:=List.mem_flatMap.1 hu; exact intE_one a u h
theorem iclone_ok(v:Value)(l:List Int)(w:World)(h:RdS w 1 intE v l)(hl:l.length≤1000000) :
  Ret Tryz.prog 89 [v] w fun u w'=>w'.ownsRow w.heap.size 3 1 u l.length (l.flatMap intE)∧Below w.heap.size w w':=by
 obtain ⟨a,c,rfl,_⟩:=h.form
 refine ent89 _ _ _ ?_
 simp (disch:=first|omega|exact zF rfl|exact zG rfl|exact id|(simp only[zA,zB,zC,zD,bytesW];omega)) only[go_sem]
 have hSt:=(St.start (W0:=w)).emptyRow 3 1
 refine ⟨fun ha=>?_,fun ha=>bsW_none ty66mkI ?_⟩
 ·cases a with
  | some a=>cases ha
  | none =>
   have h0:l=[]:=by
    cases l with
    | nil=>rfl
    | cons x l=>obtain ⟨p,hp⟩:=h.ptr (by simp); cases hp
   subst h0
   exact ⟨⟨rfl,.inl ⟨rfl,rfl⟩⟩,Below.refl _ _⟩
 simp (disch:=first|omega|exact zF rfl|exact zG rfl|exact id|(simp only[zA,zB,zC,zD,bytesW];omega)) only[go_sem]
 refine hSt.append 0 rfl ty66mkI rfl (by decide) (h.below hSt.bel (by decide)) (ints_one l) (by omega) (by omega) ?_
 intro v2 w2 s2 _
 have e2:=s2.row 0 rfl
 rw [Nat.zero_add,List.nil_append] at e2
 simp (disch:=first|omega|exact zF rfl|exact zG rfl|exact id|(simp only[zA,zB,zC,zD,bytesW];omega)) only[go_sem]
 exact ⟨e2,s2.bel⟩
theorem equal_ok(va vb:Value)(a b:List Int)(w:World)(ha:RdS w 1 intE va a)(hb:RdS w 1 intE vb b)(hl:a.length≤1000000) :
  Ret Tryz.prog 96 [va,vb] w fun u w'=>u=.bool (decide (a=b))∧Gr w w':=by
 obtain ⟨pa,ca,rfl,_⟩:=ha.form
 obtain ⟨pb,cb,rfl,_⟩:=hb.form
 refine ent96 _ _ _ _ ?_
 simp (disch:=first|omega|exact zF rfl|exact zG rfl|exact id|(simp only[zA,zB,zC,zD,bytesW];omega)) only[go_sem]
 refine ⟨fun hne=>⟨?_,Gr.refl _⟩,fun heq=>?_⟩
 ·rw [decide_eq_false (fun e=>hne (by rw [e]))]
 have hlen:a.length=b.length:=by omega
 refine W_loopU (fun k:Nat=>[(13,.int .i64 k)]) (fun k w'=>Gr w w'∧k≤a.length∧a.take k=b.take k) (fun k=>a.length - k) 0 rfl ⟨Gr.refl _,Nat.zero_le _,rfl⟩ ?_
 rintro k w2 ⟨g2,hk,he⟩
 by_cases hlt:k<a.length
 ·have hlt':(k:Int)<a.length:=by omega
  obtain ⟨p,rfl⟩:=ha.ptr (by omega)
  obtain ⟨q,rfl⟩:=hb.ptr (by omega)
  have ea:=RdS.int (ha.below (Below.next g2.below (Below.refl _ w2).drew) (by decide)) hlt
  have eb:=RdS.int (hb.below (Below.next g2.below (Below.refl _ w2).drew) (by decide)) (show k<b.length by omega)
  have ea2:=RdS.int (ha.below g2.below (by decide)) hlt
  have eb2:=RdS.int (hb.below g2.below (by decide)) (show k<b.length by omega)
  simp (disch:=first|omega|exact zF rfl|exact zG rfl|exact id|(simp only[zA,zB,zC,zD,bytesW];omega)) only[go_sem,hlt']
  refine c96draw0 ?_
  simp (disch:=first|omega|exact zF rfl|exact zG rfl|exact id|(simp only[zA,zB,zC,zD,bytesW];omega)) only[go_sem,c96D0,ea,eb,ea2,eb2]
  have gd:Gr w w2.drew:=⟨Below.next g2.below (Below.refl _ w2).drew,Nat.le_succ_of_le g2.2⟩
  have hkb:k<b.length:=by omega
  refine ⟨⟨by omega,by omega⟩,⟨by omega,by omega⟩,fun e=>⟨?_,gd⟩,fun e=>⟨⟨by omega,by omega⟩,k+1,rfl,⟨gd,by omega,?_⟩,by omega⟩⟩
  ·rw [decide_eq_false (fun h=>e (by subst h; rfl))]
  ·rw [List.take_succ_eq_append_getElem hlt,List.take_succ_eq_append_getElem hkb,he,e]
 ·have hlt':¬ (k:Int)<a.length:=by omega
  simp (disch:=first|omega|exact zF rfl|exact zG rfl|exact id|(simp only[zA,zB,zC,zD,bytesW];omega)) only[go_sem,hlt']
  rw [List.take_of_length_le (by omega),List.take_of_length_le (by omega)] at he
  exact ⟨by rw [decide_eq_true he],g2⟩
theorem unique2_ok(va vb:Value)(a b:List Int)(w:World)(ha:RdS w 1 intE va a)(hb:RdS w 1 intE vb b)(hl:a.length≤1000000) :
  Ret Tryz.prog 95 [va,vb] w fun u w'=>u=.bool (decide (a=b))∧Gr w w':=by
 refine ent95 _ _ _ _ ?_
 simp (disch:=first|omega|exact zF rfl|exact zG rfl|exact id|(simp only[zA,zB,zC,zD,bytesW];omega)) only[go_sem]
 refine Ret.mono (equal_ok va vb a b w ha hb hl) ?_
 rintro _ w2 ⟨rfl,g2⟩
 simp (disch:=first|omega|exact zF rfl|exact zG rfl|exact id|(simp only[zA,zB,zC,zD,bytesW];omega)) only[go_sem]
 exact g2
open Go Go.Ann Go.RowKit
abbrev VS:=Value × List Int
def ded(ps:List VS):Nat→List VS
 | 0=>[]
 | k+1=>match ps[k]? with
  | some x=>if k≠0∧(ps[k - 1]?).map Prod.snd=some x.2 then ded ps k else ded ps k++[x]
  | none=>ded ps k
theorem ded_le(ps:List VS):∀ k,(ded ps k).length≤k
 | 0=>Nat.le_refl _
 | k+1=>by
  have:=ded_le ps k
  rw [ded]; split
  ·split
   ·omega
   ·simp; omega
  ·omega
theorem ded_same{ps:List VS}{k:Nat}(h:k+1<ps.length)(e:ps[k+1].2=ps[k].2):ded ps (k+2)=ded ps (k+1):=by
 rw [ded,List.getElem?_eq_getElem h]
 simp only [Nat.add_sub_cancel,List.getElem?_eq_getElem (show k<ps.length by omega),Option.map_some,e]
 rw [if_pos ⟨by omega,trivial⟩]
theorem ded_new{ps:List VS}{k:Nat}(h:k+1<ps.length)(e:ps[k+1].2≠ps[k].2):ded ps (k+2)=ded ps (k+1)++[ps[k+1]]:=by
 rw [ded,List.getElem?_eq_getElem h]
 simp only [Nat.add_sub_cancel,List.getElem?_eq_getElem (show k<ps.length by omega),Option.map_some]
 rw [if_neg (fun hh=>e (Option.some.inj hh.2).symm)]
structure Sts(w:World)(g:Nat)(ps:List VS):Prop where
 rd:∀ p∈ps,RdS w 1 intE p.1 p.2
 ok:∀ p∈ps,OkS p.2
 ap:∀ p∈ps,p.1.ownBlock≠some g
theorem Sts.chg{w w':World}{g:Nat}{ps:List VS}(h:Sts w g ps)(hc:Chg (fun k=>k=g) w w'):Sts w' g ps:=by
 refine ⟨fun p hp=>?_,h.ok,h.ap⟩
 have hr:=h.rd p hp
 obtain ⟨a,c,e,_⟩:=hr.form
 have ha:=h.ap p hp
 rw [e] at hr ha ⊢
 refine hr.chg hc fun ad e1 e2=>ha ?_
 subst e1; simp only [Value.ownBlock]; rw [e2]
theorem fst_at{ps:List VS}{rest:List Value}{k:Nat}(h:k<ps.length):(ps.map Prod.fst++rest)[k]?=some ps[k].1:=by
 rw [List.getElem?_append_left (by simpa using h)]; simp [h]
theorem setCells_tail{g o:Nat}{xs:List Value}{e:TypeId}:∀ (vs:List Value) (k:Nat) (w:World) (ys:List Value),Blk w g (xs++ys).toArray e→xs.length≤o+k →
  ∃ ys',Blk (setCellsW w ⟨g,o,none⟩ k vs) g (xs++ys').toArray e∧Chg (fun k=>k=g) w (setCellsW w ⟨g,o,none⟩ k vs)
 | [],k,w,ys,hB,_=>⟨ys,hB,Chg.refl _ _⟩
 | v::vs,k,w,ys,hB,hk=>by
  have ha:((⟨g,o,none⟩:Addr).add k)=⟨g,o+k,none⟩:=Addr.add_lit ..
  have h1:Blk (w.setCell ⟨g,o+k,none⟩ v) g (xs++ys.set (o+k - xs.length) v).toArray e:=by
   have:=hB.set (o+k) v
   rw [List.setIfInBounds_toArray,List.set_append_right _ _ hk] at this
   exact this
  obtain ⟨ys',h2,h3⟩:=setCells_tail (o:=o) vs (k+1) _ _ h1 (by omega)
  refine ⟨ys',?_,?_⟩
  ·simp only [setCellsW,ha]; exact h2
  ·simp only [setCellsW,ha]
   exact Chg.trans ((Chg.refl (fun k=>k=g) w).setCell ⟨g,o+k,none⟩ v (fun _=>rfl)) h3
theorem clear_blk{P:Program}{w:World}{g i n c bytes:Nat}{t e ty:TypeId}{z:Value}{cs:Array Bool}{xs ys:List Value}{K:Value→World→Prop}(hm:mkI P t=some (e,1,bytes,z))(hz:z.cells=#[z])(h1:z.oneCell'=true)
  (hB:Blk w g (xs++ys).toArray e) (hi:xs.length=i) (hn:n≤ys.length) (hK:∀ w' ys',Blk w' g (xs++ys').toArray e→Chg (fun k=>k=g) w w'→K (.tuple #[]) w') :
  rawB P .clear #[t] ty cs [.slice (some ⟨g,i,none⟩) n c] w K:=by
 obtain ⟨ii,hu,hinfo,hzz,hsi,hby⟩:=mkI_some hm
 rcases Nat.eq_zero_or_pos n with h0 | h0
 ·subst h0
  refine ⟨_,w,?_,hK w ys hB (Chg.refl _ _)⟩
  simp [builtin,Builtin.clear_,run_underlying hu]
 ·have hst:=run_storeCells_W (P:=P) (List.replicate n z) 0 w ⟨g,i,none⟩ (by intro u hu; rw [List.mem_replicate] at hu; rw [hu.2]; exact h1) (fun j hj=>by
   rw [List.length_replicate] at hj
   rw [Nat.zero_add,Addr.add_lit,hB.cell,hB.frozen]
   refine ⟨⟨ys[j]'(by omega),?_⟩,rfl⟩
   rw [List.getElem?_toArray,List.getElem?_append_right (by omega),hi,Nat.add_sub_cancel_left]
   exact List.getElem?_eq_getElem (by omega))
  obtain ⟨ys',h2,h3⟩:=setCells_tail (List.replicate n z) 0 w ys hB (o:=i) (by omega)
  refine ⟨_,_,?_,hK _ ys' h2 h3⟩
  have hzc:(Builtin.zeroCells z.cells n).toList=List.replicate n z:=by
   rw [hz]
   unfold Builtin.zeroCells
   refine List.eq_replicate_iff.2 ⟨by simp,fun b hb=>?_⟩
   rw [Array.toList_map] at hb
   obtain ⟨q,_,rfl⟩:=List.mem_map.1 hb
   simp [Nat.mod_one]
  obtain ⟨m,rfl⟩:∃ m,n=m+1:=⟨n - 1,by omega⟩
  simp [builtin,Builtin.clear_,run_underlying hu,zeroValue,typeInfo,hinfo,hzz,hzc,hst]
  done
theorem compact_ok(g n cap:Nat)(ps:List VS)(rest:List Value)(w:World)(hB:Blk w g (ps.map Prod.fst++rest).toArray 66)(hS:Sts w g ps)(hn:ps.length=n)(hl:n≤1000000)(hcap:n≤cap) :
  Ret Tryz.prog 94 [.slice (some ⟨g,0,none⟩) n cap,.func (.func 95) #[] #[]] w fun u w' =>
   u=.slice (some ⟨g,0,none⟩) (ded ps n).length cap∧(∃ rest',Blk w' g ((ded ps n).map Prod.fst++rest').toArray 66)∧Chg (fun k=>k=g) w w':=by
 subst hn
 refine ent94 _ _ _ _ ?_
 simp (disch:=first|omega|exact zF rfl|exact zG rfl|exact id|(simp only[zA,zB,zC,zD,bytesW];omega)) only[go_sem]
 refine ⟨fun h2=>?_,fun h2=>?_⟩
 ·have e1:ded ps ps.length=ps:=by
   match ps,h2 with
   | [],_=>rfl
   | [x],_=>rfl
   | x::y::l,h2=>simp at h2; omega
  exact ⟨by rw [e1],rest,by rw [e1]; exact hB⟩
 ·refine W_loopU (fun k:Nat=>[(5,.int .i64 k)]) (fun k w'=>Chg (fun k=>k=g) w w'∧Blk w' g (ps.map Prod.fst++rest).toArray 66∧1≤k∧k≤ps.length∧ded ps k=ps.take k) (fun k=>ps.length - k) 1 rfl ⟨Chg.refl _ _,hB,Nat.le_refl _,by omega,?_⟩ ?_
  ·obtain ⟨x,l,rfl⟩:∃ x l,ps=x::l:=by
    cases ps with
    | nil=>simp at h2
    | cons x l=>exact ⟨x,l,rfl⟩
   rfl
  rintro k w2 ⟨c2,B2,h1,hk,hd⟩
  have S2:=hS.chg c2
  by_cases hlt:k<ps.length
  ·have hlt':(k:Int)<ps.length:=by omega
   simp (disch:=first|omega|exact zF rfl|exact zG rfl|exact id|(simp only[zA,zB,zC,zD,bytesW];omega)) only[go_sem,hlt']
   refine c94draw0 (Chg (fun _=>False) _) (Chg.refl _ _) ?_
   have r2:=B2.rules
   have l2:=B2.lt
   obtain ⟨j,rfl⟩:∃ j,k=j+1:=⟨k - 1,by omega⟩
   have t1:((j:Int)+1).toNat=j+1:=by omega
   have t0:((j:Int)+1 - 1).toNat=j:=by omega
   have f1:=fst_at (rest:=rest) hlt
   have f0:=fst_at (rest:=rest) (show j<ps.length by omega)
   simp (disch:=first|omega|exact zF rfl|exact zG rfl|exact id|(simp only[zA,zB,zC,zD,bytesW];omega)) only[go_sem,c94D0,r2,t1,t0,f1,f0]
   have hr1:=S2.rd _ (List.getElem_mem hlt)
   have hr0:=S2.rd _ (List.getElem_mem (show j<ps.length by omega))
   have ho1:=S2.ok _ (List.getElem_mem hlt)
   obtain ⟨a1,c1,e1,_⟩:=hr1.form
   obtain ⟨a0,c0,e0,_⟩:=hr0.form
   rw [e1] at hr1
   rw [e0] at hr0
   rw [e1,e0]
   have bd:Below w2.heap.size w2 w2.drew:=(Below.refl _ w2).drew
   simp (disch:=first|omega|exact zF rfl|exact zG rfl|exact id|(simp only[zA,zB,zC,zD,bytesW];omega)) only[go_sem]
   refine ⟨⟨by omega,by omega⟩,⟨by omega,by omega⟩,⟨by omega,by omega⟩,?_⟩
   refine Ret.mono (unique2_ok _ _ _ _ _ (hr1.below bd (by decide)) (hr0.below bd (by decide)) ho1.2) ?_
   rintro _ w3 ⟨rfl,g3⟩
   have c23:Chg (fun k=>k=g) w w3:=c2.trans (Chg.of_below (Below.next bd g3.below))
   have B3:=B2.below (Below.next bd g3.below) B2.lt
   simp (disch:=first|omega|exact zF rfl|exact zG rfl|exact id|(simp only[zA,zB,zC,zD,bytesW];omega)) only[go_sem,c94D0]
   refine ⟨fun es=>⟨by omega,?_⟩,fun es=>⟨⟨by omega,by omega⟩,j+2,rfl,⟨c23,B3,by omega,by omega,?_⟩,by omega⟩⟩
   ·refine W_loopU (fun x:Nat × Nat=>[(5,.int .i64 x.1),(7,.int .i64 x.2)]) (fun x w'=>Chg (fun k=>k=g) w w'∧(∃ rest',Blk w' g ((ded ps (j+1+x.2)).map Prod.fst++((ps.drop x.1).map Prod.fst++rest')).toArray 66)∧x.1=(ded ps (j+1+x.2)).length∧1≤x.2∧j+1+x.2≤ps.length∧x.1≤j+x.2) (fun x=>ps.length - x.2) (j+1,1) ?_ ?_ ?_
    ·simp only [ovr,lk]; simp
    ·refine ⟨c23,⟨rest.drop 0,?_⟩,?_,Nat.le_refl _,by simp only; omega,by simp only; omega⟩
     ·simp only [List.drop_zero]
      rw [show j+1+1=j+2 from rfl,ded_same hlt es,hd,← List.append_assoc,← List.map_append,List.take_append_drop]
      exact B3
     ·simp only
      rw [show j+1+1=j+2 from rfl,ded_same hlt es,hd,List.length_take]; omega
    rintro ⟨i,k⟩ w4 ⟨c4,⟨rest4,B4⟩,hi,hk1,hk2,hik⟩
    simp only at c4 B4 hi hk1 hk2 hik
    have S4:=hS.chg c4
    have tj:((j:Int)+1).toNat=j+1:=by omega
    by_cases hlk:j+1+k<ps.length
    ·simp (disch:=first|omega|exact zF rfl|exact zG rfl|exact id|(simp only[zA,zB,zC,zD,bytesW];omega)) only[go_sem,tj]
     refine ⟨fun _=>?_,fun h=>by omega⟩
     have hoff:offA (some ⟨g,0,none⟩) cap (j+1) 1=some ⟨g,j+1,none⟩:=by
      unfold offA; rw [if_neg (by omega)]
      simp only [Option.map_some,Nat.mul_one]
      rw [Addr.add_lit,Nat.zero_add]
     rw [hoff]
     refine c94draw1 (Chg (fun _=>False) _) (Chg.refl _ _) ?_
     have r4:=B4.rules
     have l4:=B4.lt
     obtain ⟨m,rfl⟩:∃ m,k=m+1:=⟨k - 1,by omega⟩
     have t1:((m:Int)+1).toNat=m+1:=by omega
     have t0:((m:Int)+1 - 1).toNat=m:=by omega
     have cell:∀ q,i≤q→(hq:q<ps.length)→((ded ps (j+1+(m+1))).map Prod.fst++((ps.drop i).map Prod.fst++rest4))[q]?=some ps[q].1:=by
      intro q h1 hq
      rw [List.getElem?_append_right (by rw [List.length_map]; omega),List.length_map,← hi,List.getElem?_append_left (by simp; omega),List.getElem?_map,List.getElem?_drop,Nat.add_sub_cancel' h1,List.getElem?_eq_getElem hq]
      rfl
     have f1:=cell (j+1+(m+1)) (by omega) hlk
     have f0:=cell (j+1+m) (by omega) (by omega)
     simp (disch:=first|omega|exact zF rfl|exact zG rfl|exact id|(simp only[zA,zB,zC,zD,bytesW];omega)) only[go_sem,c94D1,r4,t1,t0,f1,f0]
     have hr1:=S4.rd _ (List.getElem_mem hlk)
     have hr0:=S4.rd _ (List.getElem_mem (show j+1+m<ps.length by omega))
     have ho1:=S4.ok _ (List.getElem_mem hlk)
     have hb1:=S4.ap _ (List.getElem_mem hlk)
     obtain ⟨a1,c1,e1,_⟩:=hr1.form
     obtain ⟨a0,c0,e0,_⟩:=hr0.form
     have hx:=e1
     rw [e1] at hr1
     rw [e0] at hr0
     rw [e1,e0]
     have bd:Below w4.heap.size w4 w4.drew:=(Below.refl _ w4).drew
     simp (disch:=first|omega|exact zF rfl|exact zG rfl|exact id|(simp only[zA,zB,zC,zD,bytesW];omega)) only[go_sem]
     refine ⟨⟨by omega,by omega⟩,⟨by omega,by omega⟩,⟨by omega,by omega⟩,?_⟩
     refine Ret.mono (unique2_ok _ _ _ _ _ (hr1.below bd (by decide)) (hr0.below bd (by decide)) ho1.2) ?_
     rintro _ w5 ⟨rfl,g5⟩
     have c45:Chg (fun k=>k=g) w w5:=c4.trans (Chg.of_below (Below.next bd g5.below))
     have B5:=B4.below (Below.next bd g5.below) B4.lt
     have r5:=B5.rules
     simp (disch:=first|omega|exact zF rfl|exact zG rfl|exact id|(simp only[zA,zB,zC,zD,bytesW];omega)) only[go_sem,c94D1,r5,t1,t0,f1,f0]
     refine ⟨fun ne=>⟨⟨by omega,by omega⟩,?_⟩,fun eq=>⟨⟨by omega,by omega⟩,(i,m+2),rfl,⟨c45,⟨rest4,?_⟩,?_,by simp only; omega,by simp only; omega,by simp only; omega⟩,by simp only; omega⟩⟩
     ·rw [hx]
      simp (disch:=first|omega|exact zF rfl|exact zG rfl|exact id|(simp only[zA,zB,zC,zD,bytesW];omega)) only[go_sem,r5]
      have d2:ded ps (j+1+(m+2))=ded ps (j+1+(m+1))++[ps[j+1+(m+1)]]:=ded_new (k:=j+1+m) hlk ne
      have hil:i<ps.length:=by omega
      refine ⟨⟨by omega,by omega⟩,⟨ps[i].1,?_⟩,⟨by omega,by omega⟩,⟨by omega,by omega⟩,(i+1,m+2),rfl,⟨?_,⟨rest4,?_⟩,?_,by simp only; omega,by simp only; omega,by simp only; omega⟩,by simp only; omega⟩
      ·exact cell i (Nat.le_refl _) hil
      ·exact c45.trans ((Chg.refl (fun k=>k=g) w5).setCell ⟨g,i,none⟩ _ fun _=>rfl)
      ·have:=B5.set i (.slice a1 ps[j+1+(m+1)].2.length c1)
       rw [List.setIfInBounds_toArray,List.set_append_right _ _ (by rw [List.length_map]; omega),List.length_map,← hi,Nat.sub_self,List.drop_eq_getElem_cons hil,List.map_cons,List.cons_append,List.set_cons_zero,← hx] at this
       simp only
       rw [d2,List.map_append,List.append_assoc]
       rw [hx] at this
       simp only [List.map_cons,List.map_nil,List.cons_append,List.nil_append]
       rw [hx]
       exact this
      ·simp only
       rw [d2,List.length_append,← hi]; rfl
     ·simp only
      have d2:ded ps (j+1+(m+2))=ded ps (j+1+(m+1)):=ded_same (k:=j+1+m) hlk eq
      rw [d2]
      exact B5
     ·simp only
      have d2:ded ps (j+1+(m+2))=ded ps (j+1+(m+1)):=ded_same (k:=j+1+m) hlk eq
      rw [d2]
      exact hi
    ·simp (disch:=first|omega|exact zF rfl|exact zG rfl|exact id|(simp only[zA,zB,zC,zD,bytesW];omega)) only[go_sem,tj]
     refine ⟨fun h=>by omega,fun _=>⟨⟨by omega,by omega⟩,?_⟩⟩
     have hoff:offA (some ⟨g,0,none⟩) cap i 1=some ⟨g,i,none⟩:=by
      unfold offA; rw [if_neg (by omega)]
      simp only [Option.map_some,Nat.mul_one]
      rw [Addr.add_lit,Nat.zero_add]
     rw [hoff]
     have hik2:j+1+k=ps.length:=by omega
     rw [hik2] at B4 hi
     refine clear_blk (xs:=(ded ps ps.length).map Prod.fst) (ys:=(ps.drop i).map Prod.fst++rest4) ty74mkI rfl rfl B4 (by rw [List.length_map]; exact hi.symm) (by rw [List.length_append,List.length_map,List.length_drop]; omega) ?_
     intro w5 ys' B5 c5
     simp (disch:=first|omega|exact zF rfl|exact zG rfl|exact id|(simp only[zA,zB,zC,zD,bytesW];omega)) only[go_sem]
     refine ⟨⟨by omega,by omega⟩,?_,⟨ys',B5⟩,c4.trans c5⟩
     rw [← hi]
     unfold offA
     split <;> rfl
   ·rw [ded_new hlt es,hd,List.take_succ_eq_append_getElem hlt]
  ·have hlt':¬ (k:Int)<ps.length:=by omega
   simp (disch:=first|omega|exact zF rfl|exact zG rfl|exact id|(simp only[zA,zB,zC,zD,bytesW];omega)) only[go_sem,hlt']
   have e1:ded ps ps.length=ps:=by
    have:k=ps.length:=by omega
    subst this; rw [hd,List.take_length]
   exact ⟨by rw [e1],⟨rest,by rw [e1]; exact B2⟩,c2⟩
open Go Go.Proofs Go.Shelf
def layIns_ren:Go.Shelf.Ren:=⟨fun | 21=>152 | 27=>163 | 28=>164 | 35=>166 | 39=>167 | n=>n,fun | 22=>66 | 3=>3 | 4=>4 | 0=>0 | n=>n,fun | n=>n⟩
theorem layIns:Go.Proofs.Lays2.n21 Tryz.prog layIns_ren:={
  mixed:=by kernel_rfl,
  f21:=Tryz.func152.trans (congrArg some (by kernel_rfl)),
  f27:=Tryz.func163.trans (congrArg some (by kernel_rfl)),
  f28:=Tryz.func164.trans (congrArg some (by kernel_rfl)),
  f35:=Tryz.func166.trans (congrArg some (by kernel_rfl)),
  f39:=Tryz.func167.trans (congrArg some (by kernel_rfl)),
  t0:=Tryz.underlying0,
  a0:=Tryz.isAgg0,
  z0:=Tryz.sizeOf0,
  v0:=Tryz.zeroValue0,
  t3:=Tryz.underlying3,
  a3:=Tryz.isAgg3,
  z3:=Tryz.sizeOf3,
  v3:=Tryz.zeroValue3,
  t4:=Tryz.underlying4,
  a4:=Tryz.isAgg4,
  z4:=Tryz.sizeOf4,
  v4:=Tryz.zeroValue4,
  t22:=Tryz.underlying66,
  a22:=Tryz.isAgg66,
  z22:=Tryz.sizeOf66,
  v22:=Tryz.zeroValue66,
  i3:=by kernel_rfl }
def layDel_ren:Go.Shelf.Ren:=⟨fun | 23=>153 | n=>n,fun | 22=>66 | 3=>3 | 4=>4 | 0=>0 | n=>n,fun | n=>n⟩
theorem layDel:Go.Proofs.Lays2.n23 Tryz.prog layDel_ren:={
  mixed:=by kernel_rfl,
  f23:=Tryz.func153.trans (congrArg some (by kernel_rfl)),
  t0:=Tryz.underlying0,
  a0:=Tryz.isAgg0,
  z0:=Tryz.sizeOf0,
  v0:=Tryz.zeroValue0,
  t3:=Tryz.underlying3,
  a3:=Tryz.isAgg3,
  z3:=Tryz.sizeOf3,
  v3:=Tryz.zeroValue3,
  t4:=Tryz.underlying4,
  a4:=Tryz.isAgg4,
  z4:=Tryz.sizeOf4,
  v4:=Tryz.zeroValue4,
  t22:=Tryz.underlying66,
  a22:=Tryz.isAgg66,
  z22:=Tryz.sizeOf66,
  v22:=Tryz.zeroValue66,
  i3:=by kernel_rfl }
def layBin_ren:Go.Shelf.Ren:=⟨fun | 25=>150 | 31=>118 | 32=>162 | 37=>68 | n=>n,fun | 22=>66 | 3=>3 | 4=>4 | 40=>116 | 0=>0 | n=>n,fun | n=>n⟩
theorem layBin:Go.Proofs.Lays2.n25 Tryz.prog layBin_ren:={
  mixed:=by kernel_rfl,
  f25:=Tryz.func150.trans (congrArg some (by kernel_rfl)),
  f31:=Tryz.func118.trans (congrArg some (by kernel_rfl)),
  f32:=Tryz.func162.trans (congrArg some (by kernel_rfl)),
  f37:=Tryz.func68.trans (congrArg some (by kernel_rfl)),
  t0:=Tryz.underlying0,
  a0:=Tryz.isAgg0,
  z0:=Tryz.sizeOf0,
  v0:=Tryz.zeroValue0,
  t3:=Tryz.underlying3,
  a3:=Tryz.isAgg3,
  z3:=Tryz.sizeOf3,
  v3:=Tryz.zeroValue3,
  t4:=Tryz.underlying4,
  a4:=Tryz.isAgg4,
  z4:=Tryz.sizeOf4,
  v4:=Tryz.zeroValue4,
  t22:=Tryz.underlying66,
  a22:=Tryz.isAgg66,
  z22:=Tryz.sizeOf66,
  v22:=Tryz.zeroValue66,
  t40:=Tryz.underlying116,
  a40:=Tryz.isAgg116,
  z40:=Tryz.sizeOf116,
  v40:=Tryz.zeroValue116 }
def laySortS_ren:Go.Shelf.Ren:=⟨fun | 6=>90 | 15=>67 | 14=>123 | 28=>106 | 29=>107 | 20=>141 | 21=>142 | 22=>143 | 23=>144 | 24=>145 | 25=>146 | 26=>147 | 27=>148 | 46=>159 | 47=>131 | 48=>132 | 49=>160 | 50=>161 | 57=>165 | n=>n,fun | 22=>74 | 24=>66 | 25=>140 | 3=>3 | 39=>116 | 0=>0 | 53=>103 | 55=>155 | 4=>4 | 46=>147 | 45=>146 | 50=>151 | 5=>5 | 9=>9 | 66=>169 | 70=>173 | 76=>190 | 77=>191 | n=>n,fun | n=>n⟩
theorem laySortS:Go.Proofs.SlLaysF.n6 Tryz.prog laySortS_ren:={
  mixed:=by kernel_rfl,
  f6:=⟨Tryz.f90.name,by decide,Tryz.func90.trans (congrArg some (by kernel_rfl))⟩,
  f14:=⟨Tryz.f123.name,by decide,Tryz.func123.trans (congrArg some (by kernel_rfl))⟩,
  f15:=Tryz.func67.trans (congrArg some (by kernel_rfl)),
  f20:=⟨Tryz.f141.name,by decide,Tryz.func141.trans (congrArg some (by kernel_rfl))⟩,
  f21:=⟨Tryz.f142.name,by decide,Tryz.func142.trans (congrArg some (by kernel_rfl))⟩,
  f22:=⟨Tryz.f143.name,by decide,Tryz.func143.trans (congrArg some (by kernel_rfl))⟩,
  f23:=⟨Tryz.f144.name,by decide,Tryz.func144.trans (congrArg some (by kernel_rfl))⟩,
  f24:=⟨Tryz.f145.name,by decide,Tryz.func145.trans (congrArg some (by kernel_rfl))⟩,
  f25:=⟨Tryz.f146.name,by decide,Tryz.func146.trans (congrArg some (by kernel_rfl))⟩,
  f26:=⟨Tryz.f147.name,by decide,Tryz.func147.trans (congrArg some (by kernel_rfl))⟩,
  f27:=⟨Tryz.f148.name,by decide,Tryz.func148.trans (congrArg some (by kernel_rfl))⟩,
  f28:=Tryz.func106.trans (congrArg some (by kernel_rfl)),
  f29:=Tryz.func107.trans (congrArg some (by kernel_rfl)),
  f46:=⟨Tryz.f159.name,by decide,Tryz.func159.trans (congrArg some (by kernel_rfl))⟩,
  f47:=Tryz.func131.trans (congrArg some (by kernel_rfl)),
  f48:=Tryz.func132.trans (congrArg some (by kernel_rfl)),
  f49:=⟨Tryz.f160.name,by decide,Tryz.func160.trans (congrArg some (by kernel_rfl))⟩,
  f50:=⟨Tryz.f161.name,by decide,Tryz.func161.trans (congrArg some (by kernel_rfl))⟩,
  f57:=⟨Tryz.f165.name,by decide,Tryz.func165.trans (congrArg some (by kernel_rfl))⟩,
  t0:=Tryz.underlying0,
  a0:=Tryz.isAgg0,
  z0:=Tryz.sizeOf0,
  v0:=Tryz.zeroValue0,
  t3:=Tryz.underlying3,
  a3:=Tryz.isAgg3,
  z3:=Tryz.sizeOf3,
  v3:=Tryz.zeroValue3,
  t4:=Tryz.underlying4,
  a4:=Tryz.isAgg4,
  z4:=Tryz.sizeOf4,
  v4:=Tryz.zeroValue4,
  t5:=Tryz.underlying5,
  a5:=Tryz.isAgg5,
  z5:=Tryz.sizeOf5,
  v5:=Tryz.zeroValue5,
  t9:=Tryz.underlying9,
  a9:=Tryz.isAgg9,
  z9:=Tryz.sizeOf9,
  v9:=Tryz.zeroValue9,
  t22:=Tryz.underlying74,
  a22:=Tryz.isAgg74,
  z22:=Tryz.sizeOf74,
  v22:=Tryz.zeroValue74,
  a24:=Tryz.isAgg66,
  z24:=Tryz.sizeOf66,
  t25:=Tryz.underlying140,
  a25:=Tryz.isAgg140,
  z25:=Tryz.sizeOf140,
  v25:=Tryz.zeroValue140,
  t39:=Tryz.underlying116,
  a39:=Tryz.isAgg116,
  z39:=Tryz.sizeOf116,
  v39:=Tryz.zeroValue116,
  t45:=Tryz.underlying146,
  a45:=Tryz.isAgg146,
  z45:=Tryz.sizeOf146,
  v45:=Tryz.zeroValue146,
  t46:=Tryz.underlying147,
  a46:=Tryz.isAgg147,
  z46:=Tryz.sizeOf147,
  v46:=Tryz.zeroValue147,
  t50:=Tryz.underlying151,
  a50:=Tryz.isAgg151,
  z50:=Tryz.sizeOf151,
  v50:=Tryz.zeroValue151,
  t53:=Tryz.underlying103,
  a53:=Tryz.isAgg103,
  z53:=Tryz.sizeOf103,
  v53:=Tryz.zeroValue103,
  t55:=Tryz.underlying155,
  a55:=Tryz.isAgg155,
  z55:=Tryz.sizeOf155,
  v55:=Tryz.zeroValue155,
  t66:=Tryz.underlying169,
  a66:=Tryz.isAgg169,
  z66:=Tryz.sizeOf169,
  v66:=Tryz.zeroValue169,
  t70:=Tryz.underlying173,
  a70:=Tryz.isAgg173,
  z70:=Tryz.sizeOf173,
  v70:=Tryz.zeroValue173,
  t76:=Tryz.underlying190,
  a76:=Tryz.isAgg190,
  z76:=Tryz.sizeOf190,
  v76:=Tryz.zeroValue190,
  t77:=Tryz.underlying191,
  a77:=Tryz.isAgg191,
  z77:=Tryz.sizeOf191,
  v77:=Tryz.zeroValue191 }
def laySortOps_ren:Go.Shelf.Ren:=⟨fun | 6=>41 | 15=>67 | 14=>66 | 28=>106 | 29=>107 | 20=>98 | 21=>99 | 22=>100 | 23=>101 | 24=>102 | 25=>103 | 26=>104 | 27=>105 | 46=>130 | 47=>131 | 48=>132 | 49=>133 | 50=>134 | 57=>154 | n=>n,fun | 22=>22 | 24=>38 | 25=>85 | 3=>3 | 39=>116 | 0=>0 | 53=>103 | 55=>155 | 4=>4 | 46=>147 | 45=>146 | 50=>151 | 5=>5 | 9=>9 | 66=>169 | 70=>173 | 76=>190 | 77=>191 | n=>n,fun | n=>n⟩
theorem laySortOps:Go.Proofs.SlLaysF0.n6 Tryz.prog laySortOps_ren:={
  mixed:=by kernel_rfl,
  f6:=⟨Tryz.f41.name,by decide,Tryz.func41.trans (congrArg some (by kernel_rfl))⟩,
  f14:=⟨Tryz.f66.name,by decide,Tryz.func66.trans (congrArg some (by kernel_rfl))⟩,
  f15:=Tryz.func67.trans (congrArg some (by kernel_rfl)),
  f20:=⟨Tryz.f98.name,by decide,Tryz.func98.trans (congrArg some (by kernel_rfl))⟩,
  f21:=⟨Tryz.f99.name,by decide,Tryz.func99.trans (congrArg some (by kernel_rfl))⟩,
  f22:=⟨Tryz.f100.name,by decide,Tryz.func100.trans (congrArg some (by kernel_rfl))⟩,
  f23:=⟨Tryz.f101.name,by decide,Tryz.func101.trans (congrArg some (by kernel_rfl))⟩,
  f24:=⟨Tryz.f102.name,by decide,Tryz.func102.trans (congrArg some (by kernel_rfl))⟩,
  f25:=⟨Tryz.f103.name,by decide,Tryz.func103.trans (congrArg some (by kernel_rfl))⟩,
  f26:=⟨Tryz.f104.name,by decide,Tryz.func104.trans (congrArg some (by kernel_rfl))⟩,
  f27:=⟨Tryz.f105.name,by decide,Tryz.func105.trans (congrArg some (by kernel_rfl))⟩,
  f28:=Tryz.func106.trans (congrArg some (by kernel_rfl)),
  f29:=Tryz.func107.trans (congrArg some (by kernel_rfl)),
  f46:=⟨Tryz.f130.name,by decide,Tryz.func130.trans (congrArg some (by kernel_rfl))⟩,
  f47:=Tryz.func131.trans (congrArg some (by kernel_rfl)),
  f48:=Tryz.func132.trans (congrArg some (by kernel_rfl)),
  f49:=⟨Tryz.f133.name,by decide,Tryz.func133.trans (congrArg some (by kernel_rfl))⟩,
  f50:=⟨Tryz.f134.name,by decide,Tryz.func134.trans (congrArg some (by kernel_rfl))⟩,
  f57:=⟨Tryz.f154.name,by decide,Tryz.func154.trans (congrArg some (by kernel_rfl))⟩,
  t0:=Tryz.underlying0,
  a0:=Tryz.isAgg0,
  z0:=Tryz.sizeOf0,
  v0:=Tryz.zeroValue0,
  t3:=Tryz.underlying3,
  a3:=Tryz.isAgg3,
  z3:=Tryz.sizeOf3,
  v3:=Tryz.zeroValue3,
  t4:=Tryz.underlying4,
  a4:=Tryz.isAgg4,
  z4:=Tryz.sizeOf4,
  v4:=Tryz.zeroValue4,
  t5:=Tryz.underlying5,
  a5:=Tryz.isAgg5,
  z5:=Tryz.sizeOf5,
  v5:=Tryz.zeroValue5,
  t9:=Tryz.underlying9,
  a9:=Tryz.isAgg9,
  z9:=Tryz.sizeOf9,
  v9:=Tryz.zeroValue9,
  t22:=Tryz.underlying22,
  a22:=Tryz.isAgg22,
  z22:=Tryz.sizeOf22,
  v22:=Tryz.zeroValue22,
  t25:=Tryz.underlying85,
  a25:=Tryz.isAgg85,
  z25:=Tryz.sizeOf85,
  v25:=Tryz.zeroValue85,
  t39:=Tryz.underlying116,
  a39:=Tryz.isAgg116,
  z39:=Tryz.sizeOf116,
  v39:=Tryz.zeroValue116,
  t45:=Tryz.underlying146,
  a45:=Tryz.isAgg146,
  z45:=Tryz.sizeOf146,
  v45:=Tryz.zeroValue146,
  t46:=Tryz.underlying147,
  a46:=Tryz.isAgg147,
  z46:=Tryz.sizeOf147,
  v46:=Tryz.zeroValue147,
  t50:=Tryz.underlying151,
  a50:=Tryz.isAgg151,
  z50:=Tryz.sizeOf151,
  v50:=Tryz.zeroValue151,
  t53:=Tryz.underlying103,
  a53:=Tryz.isAgg103,
  z53:=Tryz.sizeOf103,
  v53:=Tryz.zeroValue103,
  t55:=Tryz.underlying155,
  a55:=Tryz.isAgg155,
  z55:=Tryz.sizeOf155,
  v55:=Tryz.zeroValue155,
  t66:=Tryz.underlying169,
  a66:=Tryz.isAgg169,
  z66:=Tryz.sizeOf169,
  v66:=Tryz.zeroValue169,
  t70:=Tryz.underlying173,
  a70:=Tryz.isAgg173,
  z70:=Tryz.sizeOf173,
  v70:=Tryz.zeroValue173,
  t76:=Tryz.underlying190,
  a76:=Tryz.isAgg190,
  z76:=Tryz.sizeOf190,
  v76:=Tryz.zeroValue190,
  t77:=Tryz.underlying191,
  a77:=Tryz.isAgg191,
  z77:=Tryz.sizeOf191,
  v77:=Tryz.zeroValue191 }
def laySortI_ren:Go.Shelf.Ren:=⟨fun | 189=>48 | 125=>67 | 257=>73 | 128=>106 | 129=>107 | 294=>112 | 295=>113 | 296=>114 | 297=>115 | 298=>116 | 299=>117 | 216=>118 | 300=>119 | 301=>120 | 328=>138 | 329=>131 | 330=>132 | 331=>139 | 332=>140 | 215=>68 | 343=>158 | n=>n,fun | 28=>66 | 3=>3 | 46=>116 | 0=>0 | 51=>103 | 53=>155 | 4=>4 | 183=>147 | 182=>146 | 131=>151 | 5=>5 | 9=>9 | 218=>169 | 222=>173 | 228=>190 | 229=>191 | n=>n,fun | n=>n⟩
theorem laySortI:Go.Proofs.Lays.n189 Tryz.prog laySortI_ren:={
  mixed:=by kernel_rfl,
  f125:=Tryz.func67.trans (congrArg some (by kernel_rfl)),
  f128:=Tryz.func106.trans (congrArg some (by kernel_rfl)),
  f129:=Tryz.func107.trans (congrArg some (by kernel_rfl)),
  f189:=Tryz.func48.trans (congrArg some (by kernel_rfl)),
  f215:=Tryz.func68.trans (congrArg some (by kernel_rfl)),
  f216:=Tryz.func118.trans (congrArg some (by kernel_rfl)),
  f257:=Tryz.func73.trans (congrArg some (by kernel_rfl)),
  f294:=Tryz.func112.trans (congrArg some (by kernel_rfl)),
  f295:=Tryz.func113.trans (congrArg some (by kernel_rfl)),
  f296:=Tryz.func114.trans (congrArg some (by kernel_rfl)),
  f297:=Tryz.func115.trans (congrArg some (by kernel_rfl)),
  f298:=Tryz.func116.trans (congrArg some (by kernel_rfl)),
  f299:=Tryz.func117.trans (congrArg some (by kernel_rfl)),
  f300:=Tryz.func119.trans (congrArg some (by kernel_rfl)),
  f301:=Tryz.func120.trans (congrArg some (by kernel_rfl)),
  f328:=Tryz.func138.trans (congrArg some (by kernel_rfl)),
  f329:=Tryz.func131.trans (congrArg some (by kernel_rfl)),
  f330:=Tryz.func132.trans (congrArg some (by kernel_rfl)),
  f331:=Tryz.func139.trans (congrArg some (by kernel_rfl)),
  f332:=Tryz.func140.trans (congrArg some (by kernel_rfl)),
  f343:=Tryz.func158.trans (congrArg some (by kernel_rfl)),
  t0:=Tryz.underlying0,
  a0:=Tryz.isAgg0,
  z0:=Tryz.sizeOf0,
  v0:=Tryz.zeroValue0,
  t3:=Tryz.underlying3,
  a3:=Tryz.isAgg3,
  z3:=Tryz.sizeOf3,
  v3:=Tryz.zeroValue3,
  t4:=Tryz.underlying4,
  a4:=Tryz.isAgg4,
  z4:=Tryz.sizeOf4,
  v4:=Tryz.zeroValue4,
  t5:=Tryz.underlying5,
  a5:=Tryz.isAgg5,
  z5:=Tryz.sizeOf5,
  v5:=Tryz.zeroValue5,
  t9:=Tryz.underlying9,
  a9:=Tryz.isAgg9,
  z9:=Tryz.sizeOf9,
  v9:=Tryz.zeroValue9,
  t28:=Tryz.underlying66,
  a28:=Tryz.isAgg66,
  z28:=Tryz.sizeOf66,
  v28:=Tryz.zeroValue66,
  t46:=Tryz.underlying116,
  a46:=Tryz.isAgg116,
  z46:=Tryz.sizeOf116,
  v46:=Tryz.zeroValue116,
  t51:=Tryz.underlying103,
  a51:=Tryz.isAgg103,
  z51:=Tryz.sizeOf103,
  v51:=Tryz.zeroValue103,
  t53:=Tryz.underlying155,
  a53:=Tryz.isAgg155,
  z53:=Tryz.sizeOf155,
  v53:=Tryz.zeroValue155,
  t131:=Tryz.underlying151,
  a131:=Tryz.isAgg151,
  z131:=Tryz.sizeOf151,
  v131:=Tryz.zeroValue151,
  t182:=Tryz.underlying146,
  a182:=Tryz.isAgg146,
  z182:=Tryz.sizeOf146,
  v182:=Tryz.zeroValue146,
  t183:=Tryz.underlying147,
  a183:=Tryz.isAgg147,
  z183:=Tryz.sizeOf147,
  v183:=Tryz.zeroValue147,
  t218:=Tryz.underlying169,
  a218:=Tryz.isAgg169,
  z218:=Tryz.sizeOf169,
  v218:=Tryz.zeroValue169,
  t222:=Tryz.underlying173,
  a222:=Tryz.isAgg173,
  z222:=Tryz.sizeOf173,
  v222:=Tryz.zeroValue173,
  t228:=Tryz.underlying190,
  a228:=Tryz.isAgg190,
  z228:=Tryz.sizeOf190,
  v228:=Tryz.zeroValue190,
  t229:=Tryz.underlying191,
  a229:=Tryz.isAgg191,
  z229:=Tryz.sizeOf191,
  v229:=Tryz.zeroValue191 }
def layCmpI_ren:Go.Shelf.Ren:=⟨fun | 20=>49 | n=>n,fun | 22=>66 | 3=>3 | 4=>4 | 0=>0 | n=>n,fun | n=>n⟩
theorem layCmpI:Go.Proofs.Lays2.n20 Tryz.prog layCmpI_ren:={
  mixed:=by kernel_rfl,
  f20:=Tryz.func49.trans (congrArg some (by kernel_rfl)),
  t0:=Tryz.underlying0,
  a0:=Tryz.isAgg0,
  z0:=Tryz.sizeOf0,
  v0:=Tryz.zeroValue0,
  t3:=Tryz.underlying3,
  a3:=Tryz.isAgg3,
  z3:=Tryz.sizeOf3,
  v3:=Tryz.zeroValue3,
  t4:=Tryz.underlying4,
  a4:=Tryz.isAgg4,
  z4:=Tryz.sizeOf4,
  v4:=Tryz.zeroValue4,
  t22:=Tryz.underlying66,
  a22:=Tryz.isAgg66,
  z22:=Tryz.sizeOf66,
  v22:=Tryz.zeroValue66,
  i3:=by kernel_rfl }
open Go Go.Ann Go.RowKit Go.Shelf
def layCmp_ren:Go.Shelf.Ren:=⟨fun | 213=>124 | 265=>149 | n=>n,fun | 3=>3 | 9=>9 | n=>n,fun n=>n⟩
theorem layCmp:Lays.n213 Tryz.prog layCmp_ren:={
  mixed:=by kernel_rfl,
  f213:=Tryz.func124.trans (congrArg some (by kernel_rfl)),
  f265:=Tryz.func149.trans (congrArg some (by kernel_rfl)),
  t3:=Tryz.underlying3,a3:=Tryz.isAgg3,z3:=Tryz.sizeOf3,v3:=Tryz.zeroValue3,
  t9:=Tryz.underlying9,a9:=Tryz.isAgg9,z9:=Tryz.sizeOf9,v9:=Tryz.zeroValue9 }
theorem cmps_ok(a b:List UInt8)(w:World):Ret Tryz.prog 92 [.string (ofL a),.string (ofL b)] w fun u w'=>u=.int .i64 (Lib.compareBytes a b)∧w'=w:=by
 refine ent92 _ _ _ _ ?_
 simp (disch:=first|omega|exact zF rfl|exact zG rfl|exact id|(simp only[zA,zB,zC,zD,bytesW];omega)) only[go_sem]
 have h:=Any.bytealg_CompareString layCmp (ofL a) (ofL b) w
 have h':Ret Tryz.prog 124 [.string (ofL a),.string (ofL b)] w fun u w'=>u=.int .i64 (Lib.compareBytes a b)∧w'=w:=h.mono fun e w' ⟨h1,h2⟩=>⟨_,h1,rfl,h2⟩
 refine .inl ⟨by kernel_rfl,Ret.mono h' ?_⟩
 rintro _ _ ⟨rfl,rfl⟩
 simp (disch:=first|omega|exact zF rfl|exact zG rfl|exact id|(simp only[zA,zB,zC,zD,bytesW];omega)) only[go_sem]
def cmpT(a b:List Int):Int:=Lib.compareBytes (txt a) (txt b)
theorem unique1_ok(va vb:Value)(a b:List Int)(w:World)(ha:RdS w 1 intE va a)(hb:RdS w 1 intE vb b)(oa:OkS a)(ob:OkS b) :
  Ret Tryz.prog 91 [va,vb] w fun u w'=>u=.int .i64 (cmpT a b)∧Gr w w':=by
 refine ent91 _ _ _ _ ?_
 simp (disch:=first|omega|exact zF rfl|exact zG rfl|exact id|(simp only[zA,zB,zC,zD,bytesW];omega)) only[go_sem]
 refine Ret.mono (text_ok va a w ha oa.1 oa.2) ?_
 rintro _ w1 ⟨rfl,g1⟩
 simp (disch:=first|omega|exact zF rfl|exact zG rfl|exact id|(simp only[zA,zB,zC,zD,bytesW];omega)) only[go_sem]
 refine Ret.mono (text_ok vb b w1 (hb.below g1.below (by decide)) ob.1 ob.2) ?_
 rintro _ w2 ⟨rfl,g2⟩
 simp (disch:=first|omega|exact zF rfl|exact zG rfl|exact id|(simp only[zA,zB,zC,zD,bytesW];omega)) only[go_sem]
 refine Ret.mono (cmps_ok _ _ _) ?_
 rintro _ _ ⟨rfl,rfl⟩
 simp (disch:=first|omega|exact zF rfl|exact zG rfl|exact id|(simp only[zA,zB,zC,zD,bytesW];omega)) only[go_sem]
 exact ⟨rfl,g1.trans g2⟩
open Go Go.Ann Go.RowKit Go.Shelf Go.Sort
theorem gr_exact{w w':World}(h:Gr w w'):∃ q os,w'=grow (w.drewN q) os:=by
 obtain ⟨b,hd⟩:=h
 refine ⟨w'.drawn - w.drawn,w'.heap.extract w.heap.size w'.heap.size,?_⟩
 have hh:w'.heap=w.heap++w'.heap.extract w.heap.size w'.heap.size:=by
  refine Array.ext_getElem? fun i=>?_
  rcases Nat.lt_or_ge i w.heap.size with hi | hi
  ·rw [b.block i hi,Array.getElem?_append_left hi]
  ·rw [Array.getElem?_append_right hi,Array.getElem?_extract]
   split
   ·rw [Nat.add_sub_cancel' hi]
   ·exact Array.getElem?_eq_none (by omega)
 have e:(w.drewN (w'.drawn - w.drawn))={ w with drawn:=w'.drawn }:=by
  unfold World.drewN
  rw [Nat.add_sub_cancel' hd]
 rw [e]
 unfold grow
 obtain ⟨h1,h2,h3,h4,h5⟩:=w'
 have e1:h2=w.tape:=b.tape
 have e2:h4=w.os:=b.os
 have e3:h5=w.output:=b.output
 subst e1 e2 e3
 exact congrArg (fun h=>World.mk h w.tape h3 w.os w.output) hh
theorem cmpT_lt(a b:List Int):decide (cmpT a b<0)=ltS a b:=cmpB_lt _ _
theorem ltS_irr(a:List Int):ltS a a=false:=ltB_irr _
theorem ltS_trans{a b c:List Int}(h:ltS a b=true)(k:ltS b c=true):ltS a c=true:=ltB_trans h k
theorem ltB_ntrans{a b c:List UInt8}(h:Op.bytesLess a b=false)(k:Op.bytesLess b c=false):Op.bytesLess a c=false:=by
 cases hac:Op.bytesLess a c with
 | false=>rfl
 | true =>
  cases hba:Op.bytesLess b a with
  | true=>rw [ltB_trans hba hac] at k; cases k
  | false =>
   have:=ltB_tri h hba
   subst this
   rw [k] at hac; cases hac
abbrev SV(w:World)(g:Nat):Type:={ p:VS // RdS w 1 intE p.1 p.2∧OkS p.2∧p.1.ownBlock≠some g }
instance (w:World) (g:Nat):Inhabited (SV w g):=⟨⟨(.slice none 0 0,[]),RdS.nil,⟨(fun n h=>nomatch h),Nat.zero_le _⟩,(fun e=>nomatch e)⟩⟩
def SV.enc{w:World}{g:Nat}(x:SV w g):Value:=x.1.1
def SV.cmp{w:World}{g:Nat}(x y:SV w g):Int:=cmpT x.1.2 y.1.2
theorem SV.one{w:World}{g:Nat}:OneCell (SV.enc (w:=w) (g:=g)):=by
 intro x
 obtain ⟨a,c,e,_⟩:=x.2.1.form
 unfold SV.enc
 rw [e]; rfl
theorem SV.swo{w:World}{g:Nat}:SWO (ltOf (SV.cmp (w:=w) (g:=g))):=by
 have e:∀ x y:SV w g,ltOf SV.cmp x y=ltS x.1.2 y.1.2:=fun x y=>cmpT_lt _ _
 exact ⟨fun x=>by rw [e]; exact ltS_irr _,fun x y z h k=>by rw [e] at *; exact ltS_trans h k,fun x y z h k=>by rw [e] at *; exact ltB_ntrans h k⟩
theorem sorted_blk{α:Type}[Inhabited α]{enc:α→Value}{w:World}{g m:Nat}{ty:TypeId}{d d':Array α}{rest:List Value}(hB:Blk w g (d.toList.map enc++rest).toArray ty)(hd:d'.size=d.size)(os:Array Obj) :
  Blk (sortWorld enc w g 0 m d' os) g (d'.toList.map enc++rest).toArray ty∧Chg (fun k=>k=g) w (sortWorld enc w g 0 m d' os):=by
 have hg:g<w.heap.size:=hB.lt
 have hh:(sortWorld enc w g 0 m d' os).heap=w.heap.modify g (onCells (putCells enc 0 d'))++os:=rfl
 have hc:putCells enc 0 d' (d.toList.map enc++rest).toArray=(d'.toList.map enc++rest).toArray:=by
  refine Array.ext_getElem? fun i=>?_
  unfold putCells
  rw [Array.getElem?_mapIdx,List.getElem?_toArray,List.getElem?_toArray]
  rcases Nat.lt_or_ge i d'.size with hi | hi
  ·rw [List.getElem?_append_left (by simp; omega),List.getElem?_append_left (by simpa using hi)]
   simp only [List.getElem?_map,Array.getElem?_toList,Array.getElem?_eq_getElem (show i<d.size by omega),Array.getElem?_eq_getElem hi,Option.map_some,Nat.zero_le,Nat.zero_add,true_and,if_pos hi,Nat.sub_zero]
   rw [getElem!_pos d' i hi]
  ·rw [List.getElem?_append_right (by simp; omega),List.getElem?_append_right (by simpa using hi)]
   simp only [List.length_map,Array.length_toList,hd]
   cases rest[i - d.size]? with
   | none=>rfl
   | some u=>simp; omega
 refine ⟨?_,rfl,rfl,rfl,?_,fun j hj hne=>?_⟩
 ·show (sortWorld enc w g 0 m d' os).heap[g]?=_
  rw [hh,Array.getElem?_append_left (by rw [Array.size_modify]; exact hg),Array.getElem?_modify,if_pos rfl,hB,Option.map_some]
  simp only [onCells,hc]
 ·rw [hh,Array.size_append,Array.size_modify]; omega
 ·rw [hh,Array.getElem?_append_left (by rw [Array.size_modify]; exact hj),Array.getElem?_modify,if_neg (fun e=>hne e.symm)]
theorem sv_all{w:World}{g:Nat}:∀ ps:List VS,Sts w g ps→∃ l:List (SV w g),l.map (fun x=>x.1)=ps
 | [],_=>⟨[],rfl⟩
 | p::ps,h=>by
  obtain ⟨l,e⟩:=sv_all ps ⟨fun q hq=>h.rd q (List.mem_cons_of_mem _ hq),fun q hq=>h.ok q (List.mem_cons_of_mem _ hq),fun q hq=>h.ap q (List.mem_cons_of_mem _ hq)⟩
  exact ⟨⟨p,h.rd p (List.mem_cons_self ..),h.ok p (List.mem_cons_self ..),h.ap p (List.mem_cons_self ..)⟩::l,by rw [List.map_cons,e]⟩
theorem sorts_ok(g n cap:Nat)(ps:List VS)(rest:List Value)(w:World)(hB:Blk w g (ps.map Prod.fst++rest).toArray 66)(hS:Sts w g ps)(hn:ps.length=n)(hl:n≤1000000) :
  Ret Tryz.prog 90 [.slice (some ⟨g,0,none⟩) n cap,.func (.func 91) #[] #[]] w fun _ w' =>
   ∃ ps':List VS,ps'.Perm ps∧ps'.Pairwise (fun a b=>ltS b.2 a.2=false)∧Blk w' g (ps'.map Prod.fst++rest).toArray 66∧Chg (fun k=>k=g) w w':=by
 subst hn
 obtain ⟨d,hd⟩:∃ d:Array (SV w g),d.toList.map (fun x=>x.1)=ps:=by
  obtain ⟨l,e⟩:=sv_all ps hS
  exact ⟨l.toArray,e⟩
 have hsz:d.size=ps.length:=by rw [← hd]; simp
 have he:∀ d:Array (SV w g),d.toList.map SV.enc=(d.toList.map (fun x=>x.1)).map Prod.fst:=fun d=>by rw [List.map_map]; rfl
 have hB':Blk w g (d.toList.map SV.enc++rest).toArray 66:=by rw [he,hd]; exact hB
 have hH:Holds SV.enc w g 0 d:=by
  intro j hj
  rw [hB'.cell,hB'.frozen]
  refine ⟨?_,rfl⟩
  rw [List.getElem?_toArray,Nat.zero_add,List.getElem?_append_left (by simpa using hj),List.getElem?_map,Array.getElem?_toList,Array.getElem?_eq_getElem hj,getElem!_pos d j hj]
  rfl
 have hcl:CmpLays1 Tryz.prog 91 #[] SV.enc SV.cmp g 0 d.size w:=fun m os dk hdk x y=>by
  have hc:=(sorted_blk (m:=m) hB' hdk os).2
  have rd:∀ x:SV w g,RdS (sortWorld SV.enc w g 0 m dk os) 1 intE x.1.1 x.1.2:=fun x=>by
   have hr:=x.2.1
   have ha:=x.2.2.2
   obtain ⟨a,c,e,_⟩:=hr.form
   rw [e] at hr ha ⊢
   refine hr.chg hc fun ad e1 e2=>ha ?_
   subst e1; simp only [Value.ownBlock]; rw [e2]
  have e:=unique1_ok x.1.1 y.1.1 x.1.2 y.1.2 (sortWorld SV.enc w g 0 m dk os) (rd x) (rd y) x.2.2.1 y.2.2.1
  unfold Ret at e
  rw [Array.append_empty]
  exact e.mono fun e w' ⟨u,h1,h2,h3⟩=>⟨by rw [h1,h2]; rfl,gr_exact h3⟩
 have hs:=Any.slices_SortFunc laySortS SV.enc SV.one SV.cmp SV.swo 91 #[] g 0 cap d w (enters_of Tryz.func91 (by kernel_rfl) rfl) hcl hH hB.lt (by omega)
 rw [← hsz]
 refine hs.mono ?_
 rintro e w' ⟨rfl,d',n,os,hp,hs,rfl⟩
 have hsz':d'.size=d.size:=hp.1
 obtain ⟨o1,o2⟩:=sorted_blk (m:=n) hB' hsz' os
 refine ⟨_,rfl,d'.toList.map (fun x=>x.1),?_,?_,by rw [he] at o1; exact o1,o2⟩
 ·have:=hp.2.2
  rw [Array.extract_eq_self_of_le (by omega),Array.extract_eq_self_of_le (by omega)] at this
  rw [← hd]
  exact this.map _
 ·rw [List.pairwise_map,List.pairwise_iff_getElem]
  intro i j hi hj hij
  have:=hs i j (Nat.zero_le _) hij (by simpa [hsz'] using hj)
  rw [getElem!_pos d' i (by simpa using hi),getElem!_pos d' j (by simpa using hj)] at this
  have e2:ltOf SV.cmp d'[j] d'[i]=ltS d'[j].1.2 d'[i].1.2:=cmpT_lt _ _
  rw [e2] at this
  simpa using this
open Go Go.Ann Go.RowKit
structure RowS(w:World)(v:Value)(D:List VS):Prop where
 row:Rd w 1 v D.length (D.map Prod.fst)
 rd:∀ p∈D,RdS w 1 intE p.1 p.2
def RowS.foot(v:Value)(D:List VS)(k:Nat):Prop:=slFoot v k∨∃ p∈D,slFoot p.1 k
theorem RowS.loc{w w':World}{v:Value}{D:List VS}(h:RowS w v D)(hk:∀ k,RowS.foot v D k→w'.heap[k]?=w.heap[k]?):RowS w' v D :=
 ⟨Rd.loc h.row fun k hf=>hk k (.inl hf),fun p hp=>RdS.loc (h.rd p hp) fun k hf=>hk k (.inr ⟨p,hp,hf⟩)⟩
theorem RowS.below{w w':World}{v:Value}{D:List VS}(h:RowS w v D)(hb:Below w.heap.size w w'):RowS w' v D :=
 ⟨Rd.below h.row hb (by decide),fun p hp=>(h.rd p hp).below hb (by decide)⟩
def Inv.rows(v:Value)(D:List VS):Inv:=⟨fun w=>RowS w v D,RowS.foot v D,fun _ _ h hk=>h.loc hk⟩
theorem RowS.form{w:World}{v:Value}{D:List VS}(h:RowS w v D):∃ a c,v=.slice a D.length c∧D.length≤c:=by
 obtain ⟨_,a,c,e,hc,_⟩:=h.row
 exact ⟨a,c,e,hc⟩
theorem RowS.ptr{w:World}{a:Option Addr}{n c:Nat}{D:List VS}(h:RowS w (.slice a n c) D)(h0:0<D.length):∃ p,a=some p:=by
 obtain ⟨_,a',c',e,_,hp⟩:=h.row
 cases e
 obtain ⟨p,hp,_⟩:=hp (by omega)
 exact ⟨p,hp⟩
theorem RowS.at{w:World}{p:Addr}{n c:Nat}{D:List VS}(h:RowS w (.slice (some p) n c) D){k:Nat}(hk:k<D.length):w.cell? (p.add k)=some D[k].1:=by
 obtain ⟨_,a',c',e,_,hp⟩:=h.row
 cases e
 obtain ⟨q,hq,hc⟩:=hp (by omega)
 cases hq
 exact hc k _ (by simp [hk])
def Inv.sts(D:List VS):Inv:=⟨fun w=>∀ p∈D,RdS w 1 intE p.1 p.2,fun k=>∃ p∈D,p.1.ownBlock=some k,fun w w' h hk p hp=>RdS.loc (h p hp) fun k hf=>hk k ⟨p,hp,slFoot_own hf⟩⟩
theorem row_of_blk{w:World}{g cap:Nat}{D:List VS}{rest:List Value}{t:TypeId}(hB:Blk w g (D.map Prod.fst++rest).toArray t)(hc:D.length≤cap):Rd w 1 (.slice (some ⟨g,0,none⟩) D.length cap) D.length (D.map Prod.fst):=by
 refine ⟨by simp,_,cap,rfl,hc,fun _=>⟨_,rfl,fun j u hu=>?_⟩⟩
 rw [Addr.add_lit,Nat.zero_add,hB.cell,List.getElem?_toArray,List.getElem?_append_left (by have:=(List.getElem?_eq_some_iff.1 hu).1; exact this)]
 exact hu
theorem sts_join{W0 w:World}{F:Nat→Prop}{L:List Res}{x:VS}{E:List VS}(h:St W0 w F L [Inv.sts [x],Inv.sts E]):St W0 w F L [Inv.sts (E++[x])]:=by
 have h1:=h.inv _ (List.mem_cons_self ..)
 have h2:=h.inv (Inv.sts E) (List.mem_cons_of_mem _ (List.mem_cons_self ..))
 refine (h.inv_sub (I':=[]) (fun a ha=>by cases ha)).keep (Inv.sts (E++[x])) (fun p hp=>?_) fun k hk=>?_
 ·rcases List.mem_append.1 hp with hp | hp
  ·exact h2.1 p hp
  ·exact h1.1 p hp
 ·obtain ⟨p,hp,hk⟩:=hk
  rcases List.mem_append.1 hp with hp | hp
  ·exact h2.2 k ⟨p,hp,hk⟩
  ·exact h1.2 k ⟨p,hp,hk⟩
theorem ded_mem{ps:List VS}:∀ {k:Nat} {x:VS},x∈ded ps k→x∈ps
 | 0,x,h=>by cases h
 | k+1,x,h=>by
  rw [ded] at h
  split at h
  ·rename_i y hy
   split at h
   ·exact ded_mem h
   ·rcases List.mem_append.1 h with h | h
    ·exact ded_mem h
    ·rw [List.mem_singleton] at h; subst h; exact List.mem_of_getElem? hy
  ·exact ded_mem h
theorem ded_uniq{ps:List VS}(hs:ps.Pairwise (fun a b=>ltS b.2 a.2=false))(ho:∀ p∈ps,OkS p.2):∀ k,k≤ps.length →
  ((ded ps k).map Prod.snd).Pairwise (fun a b=>ltS a b=true)∧(∀ s,s∈(ded ps k).map Prod.snd↔s∈(ps.take k).map Prod.snd)∧∀ j,(hj:j<ps.length)→j+1=k→∀ s∈(ded ps k).map Prod.snd,s=ps[j].2∨ltS s ps[j].2=true
 | 0,_=>⟨List.Pairwise.nil,fun s=>Iff.rfl,fun j hj h=>by omega⟩
 | 1,h1=>by
  have e:ded ps 1=[ps[0]]:=by rw [ded,List.getElem?_eq_getElem (show 0<ps.length by omega)]; rfl
  have e2:ps.take 1=[ps[0]]:=by rw [List.take_succ_eq_append_getElem (show 0<ps.length by omega)]; rfl
  rw [e,e2]
  refine ⟨by simp,fun s=>Iff.rfl,fun j hj h s hs=>?_⟩
  obtain rfl:j=0:=by omega
  simp only [List.map_cons,List.map_nil,List.mem_singleton] at hs
  exact .inl hs
 | k+2,hk=>by
  obtain ⟨i1,i2,i3⟩:=ded_uniq hs ho (k+1) (by omega)
  have hk1:k+1<ps.length:=by omega
  have hk0:k<ps.length:=by omega
  have hle:=List.pairwise_iff_getElem.1 hs k (k+1) hk0 hk1 (by omega)
  rw [List.take_succ_eq_append_getElem hk1,List.map_append]
  by_cases e:ps[k+1].2=ps[k].2
  ·rw [ded_same hk1 e]
   refine ⟨i1,fun s=>?_,fun j hj h s hs=>?_⟩
   ·rw [i2 s,List.mem_append]
    refine ⟨.inl,fun h=>h.elim id fun h=>?_⟩
    simp only [List.map_cons,List.map_nil,List.mem_singleton] at h
    rw [h,e]
    exact List.mem_map.2 ⟨ps[k],List.mem_take_iff_getElem.2 ⟨k,by omega,rfl⟩,rfl⟩
   ·obtain rfl:j=k+1:=by omega
    rw [e]
    exact i3 k hk0 rfl s hs
  ·rw [ded_new hk1 e,List.map_append]
   have hlt:ltS ps[k].2 ps[k+1].2=true:=by
    cases hh:ltS ps[k].2 ps[k+1].2 with
    | true=>rfl
    | false=>exact absurd ((ho _ (List.getElem_mem hk1)).inj (ho _ (List.getElem_mem hk0)) (ltB_tri hle hh)) e
   have hall:∀ s∈(ded ps (k+1)).map Prod.snd,ltS s ps[k+1].2=true:=fun s hs=>by
    rcases i3 k hk0 rfl s hs with h | h
    ·rw [h]; exact hlt
    ·exact ltS_trans h hlt
   refine ⟨List.pairwise_append.2 ⟨i1,by simp,fun s hs t ht=>?_⟩,fun s=>?_,fun j hj h s hs=>?_⟩
   ·simp only [List.map_cons,List.map_nil,List.mem_singleton] at ht
    rw [ht]; exact hall s hs
   ·rw [List.mem_append,List.mem_append,i2 s]
   ·obtain rfl:j=k+1:=by omega
    rcases List.mem_append.1 hs with h | h
    ·exact .inr (hall s h)
    ·simp only [List.map_cons,List.map_nil,List.mem_singleton] at h
     exact .inl h
theorem unique_ok(v:Value)(D:List VS)(w:World)(h:RowS w v D)(hok:∀ p∈D,OkS p.2)(hl:D.length≤100000) :
  Ret Tryz.prog 61 [v] w fun u w'=>(∃ U:List VS,Uniq (D.map Prod.snd) (U.map Prod.snd)∧RowS w' u U∧(∀ k,RowS.foot u U k→w.heap.size≤k∧k<w'.heap.size))∧Below w.heap.size w w':=by
 obtain ⟨a,c,rfl,_⟩:=h.form
 refine ent61 _ _ _ ?_
 simp (disch:=first|omega|exact zF rfl|exact zG rfl|exact id|(simp only[zA,zB,zC,zD,bytesW];omega)) only[go_sem]
 refine msW_one ty74mkI rfl (by omega) (by omega) (by omega) (by omega) ?_
 simp (disch:=first|omega|exact zF rfl|exact zG rfl|exact id|(simp only[zA,zB,zC,zD,bytesW];omega)) only[go_sem]
 have hz:Blk (w.alloc (.cells (zerosA (.slice none 0 0) D.length) 66)) w.heap.size (zerosA (.slice none 0 0) D.length) 66:=Blk.new
 have ho:=hz.own (n:=0) (cap:=D.length) (size:=1) (xs:=[]) (base:=w.heap.size) (Nat.le_refl _) (Nat.zero_le _) (by have:maxLen=9223372036854775807:=(by decide); omega) (by simp [zerosA]) (by simp)
 have s1:=(St.start (W0:=w)).add ((Below.refl _ w).alloc (Nat.le_refl _) (.cells (zerosA (.slice none 0 0) D.length) 66)) (.row (.slice (some ⟨w.heap.size,0,none⟩) 0 D.length) 66 1 0 []) ho fun k hk=>(ho.lt k hk).1
 have s2:=s1.keep (Inv.sts []) (fun p hp=>by cases hp) (fun k hk=>by obtain ⟨p,hp,_⟩:=hk; cases hp)
 refine W_loopU (fun x:List VS × Value=>[(3,x.2),(11,.int .i64 x.1.length)]) (fun x w'=>St w w' (fun _=>False) [.row x.2 66 1 x.1.length (x.1.map Prod.fst)] [Inv.sts x.1]∧x.1.length≤D.length∧x.1.map Prod.snd=(D.take x.1.length).map Prod.snd∧(∀ p∈x.1,∀ k,p.1.ownBlock=some k→w.heap.size≤k)∧∃ g c,x.2=.slice (some ⟨g,0,none⟩) x.1.length c) (fun x=>D.length - x.1.length) ([],.slice (some ⟨w.heap.size,0,none⟩) 0 D.length) rfl ⟨s2,Nat.zero_le _,rfl,(fun p hp=>by cases hp),_,_,rfl⟩ ?_
 rintro ⟨E,u⟩ w3 ⟨s3,hE,hsn,hlow,g,cg,hu⟩
 simp only at s3 hE hsn hlow hu
 subst hu
 have h3:=h.below s3.bel
 by_cases hlt:E.length<D.length
 ·have hlt':(E.length:Int)<D.length:=by omega
  obtain ⟨p,rfl⟩:=h.ptr (by omega)
  have ek:=h3.at hlt
  have hrk:=h3.rd _ (List.getElem_mem hlt)
  have hok':=hok _ (List.getElem_mem hlt)
  obtain ⟨ak,ck,e1,_⟩:=hrk.form
  have ek':=ek
  rw [e1] at ek
  simp (disch:=first|omega|exact zF rfl|exact zG rfl|exact id|(simp only[zA,zB,zC,zD,bytesW];omega)) only[go_sem,hlt',ek]
  refine ⟨by omega,Ret.mono (iclone_ok _ D[E.length].2 w3 (by rw [← e1]; exact hrk) hok'.2) ?_⟩
  rintro uv w4 ⟨o4,b4⟩
  obtain ⟨a4,c4,rfl,_⟩:=own_slice o4
  have s4:=s3.call b4
  simp (disch:=first|omega|exact zF rfl|exact zG rfl|exact id|(simp only[zA,zB,zC,zD,bytesW];omega)) only[go_sem]
  refine bsW_ones ty74mkI rfl rfl (by decide) (by decide) (by intro v hv; rw [List.mem_singleton] at hv; subst hv; rfl) ?_
  simp (disch:=first|omega|exact zF rfl|exact zG rfl|exact id|(simp only[zA,zB,zC,zD,bytesW];omega)) only[go_sem]
  have s5:=(s3.made b4 (Inv.sts [(.slice a4 D[E.length].2.length c4,D[E.length].2)]) (fun p hp=>by rw [List.mem_singleton] at hp; subst hp; exact RdS.of_own' o4 _ rfl rfl) (fun k hk=>by
   obtain ⟨p,hp,hk⟩:=hk
   rw [List.mem_singleton] at hp; subst hp
   exact o4.lt k hk)).alloc' (.cells #[.slice a4 D[E.length].2.length c4] 66)
  have hx:Rd (w4.alloc (.cells #[.slice a4 D[E.length].2.length c4] 66)) 1 (.slice (some ⟨w4.heap.size,0,none⟩) 1 1) 1 [.slice a4 D[E.length].2.length c4]:=rd_new (n:=1) (cs:=#[.slice a4 D[E.length].2.length c4]) rfl
  refine s5.append 0 rfl ty74mkI rfl (by decide) hx (by intro v hv; rw [List.mem_singleton] at hv; subst hv; rfl) (by omega) (by omega) ?_
  intro v6 w6 s6 c6
  simp only [List.set_cons_zero] at s6
  have hlo4:∀ k,(Value.slice a4 D[E.length].2.length c4).ownBlock=some k→w3.heap.size≤k:=fun k hk=>(o4.lt k hk).1
  have hsz:=s3.size
  obtain ⟨g6,c6',rfl⟩:∃ g c,v6=.slice (some ⟨g,0,none⟩) (E.length+1) c:=by
   obtain ⟨_,⟨_,h0⟩ | ⟨g,cap,cur,e,_⟩⟩:=s6.row 0 rfl
   ·omega
   ·exact ⟨g,cap,e⟩
  have e6:E.map Prod.fst++[Value.slice a4 D[E.length].2.length c4]=(E++[(Value.slice a4 D[E.length].2.length c4,D[E.length].2)]).map Prod.fst:=by simp
  have l6:E.length+1=(E++[(Value.slice a4 D[E.length].2.length c4,D[E.length].2)]).length:=by simp
  rw [e6] at s6
  simp (disch:=first|omega|exact zF rfl|exact zG rfl|exact id|(simp only[zA,zB,zC,zD,bytesW];omega)) only[go_sem]
  refine ⟨⟨by omega,by omega⟩,(E++[(.slice a4 D[E.length].2.length c4,D[E.length].2)],.slice (some ⟨g6,0,none⟩) (E.length+1) c6'),by simp,⟨?_,by simp; omega,?_,?_,g6,c6',by simp⟩,by simp; omega⟩
  ·simp only
   rw [← l6]
   exact sts_join s6
  ·simp only
   rw [← l6,List.take_succ_eq_append_getElem hlt,List.map_append,List.map_append,hsn]; rfl
  ·intro p hp k hk
   rcases List.mem_append.1 hp with hp | hp
   ·exact hlow p hp k hk
   ·rw [List.mem_singleton] at hp; subst hp
    have:=hlo4 k hk
    omega
 ·have hlt':¬ (E.length:Int)<D.length:=by omega
  simp (disch:=first|omega|exact zF rfl|exact zG rfl|exact id|(simp only[zA,zB,zC,zD,bytesW];omega)) only[go_sem,hlt']
  have hlen:E.length=D.length:=by omega
  have hsn':E.map Prod.snd=D.map Prod.snd:=by rw [hsn,hlen,List.take_length]
  have hokE:∀ p∈E,OkS p.2:=fun p hp=>by
   have:p.2∈D.map Prod.snd:=by rw [← hsn']; exact List.mem_map.2 ⟨p,hp,rfl⟩
   obtain ⟨q,hq,e⟩:=List.mem_map.1 this
   rw [← e]; exact hok q hq
  have hinv:=s3.inv _ (List.mem_cons_self ..)
  have hrow:=s3.row 0 rfl
  have hg0:=hrow.lt g rfl
  obtain ⟨rest,B3⟩:∃ rest,Blk w3 g (E.map Prod.fst++rest).toArray 66:=by
   obtain ⟨_,⟨e,_⟩ | ⟨g',cap,cur,e,_,hb,_,_,_,ht⟩⟩:=hrow
   ·cases e
   ·cases e
    refine ⟨cur.toList.drop E.length,?_⟩
    rw [Nat.mul_one] at ht
    rw [← ht,List.take_append_drop]
    exact hb
  have S3:Sts w3 g E:=⟨hinv.1,hokE,fun p hp e=>(hinv.2 g ⟨p,hp,e⟩).2.2 _ (List.mem_cons_self ..) rfl⟩
  refine .inl ⟨by kernel_rfl,Ret.mono (sorts_ok g E.length cg E rest w3 B3 S3 rfl (by omega)) ?_⟩
  rintro _ w4 ⟨ps,hperm,hsort,B4,c4⟩
  have hpl:=hperm.length_eq
  have S4:Sts w4 g ps:=by
   have:=S3.chg c4
   exact ⟨fun p hp=>this.rd p (hperm.mem_iff.1 hp),fun p hp=>this.ok p (hperm.mem_iff.1 hp),fun p hp=>this.ap p (hperm.mem_iff.1 hp)⟩
  have hcg:E.length≤cg:=by
   obtain ⟨_,⟨e,_⟩ | ⟨g',cap,cur,e,_,_,hc,_⟩⟩:=hrow
   ·cases e
   ·cases e; exact hc
  simp (disch:=first|omega|exact zF rfl|exact zG rfl|exact id|(simp only[zA,zB,zC,zD,bytesW];omega)) only[go_sem]
  refine Ret.mono (compact_ok g E.length cg ps rest w4 B4 S4 hpl (by omega) hcg) ?_
  rintro _ w5 ⟨rfl,⟨rest5,B5⟩,c5⟩
  have S5:=S4.chg c5
  simp (disch:=first|omega|exact zF rfl|exact zG rfl|exact id|(simp only[zA,zB,zC,zD,bytesW];omega)) only[go_sem]
  obtain ⟨u1,u2,_⟩:=ded_uniq hsort S4.ok ps.length (Nat.le_refl _)
  rw [List.take_length] at u2
  rw [hpl] at u1 u2
  have hdl:=ded_le ps E.length
  refine ⟨⟨ded ps E.length,⟨u1,fun s=>?_⟩,⟨row_of_blk B5 (by omega),fun p hp=>S5.rd p (ded_mem hp)⟩,fun k hk=>?_⟩,?_⟩
  ·rw [u2 s,← hsn']
   exact (hperm.map _).mem_iff
  ·have hk5:k=g∨∃ p∈ps,slFoot p.1 k:=by
    rcases hk with hk | ⟨p,hp,hk⟩
    ·have:=slFoot_own hk
     simp only [Value.ownBlock,Option.some.injEq] at this
     exact .inl this.symm
    ·exact .inr ⟨p,ded_mem hp,hk⟩
   rcases hk5 with rfl | ⟨p,hp,hk⟩
   ·exact ⟨hg0.1,B5.lt⟩
   ·exact ⟨hlow p (hperm.mem_iff.1 hp) k (slFoot_own hk),(S5.rd p hp).footLt (by decide) hk⟩
  ·have hg1:∀ k,k<w.heap.size→¬ k=g:=fun k hk e=>by have:=hg0.1; omega
   exact (s3.bel.trans (c4.below s3.size hg1)).trans (c5.below (Nat.le_trans s3.size c4.size) hg1)
open Go Go.Ann Go.RowKit
theorem offA_zero{a:Option Addr}{c sz:Nat}:offA a c 0 sz=a:=by
 unfold offA
 rw [Nat.zero_mul]
 split
 ·rfl
 ·cases a with
  | none=>rfl
  | some a=>exact congrArg some (by unfold Addr.add; rfl)
theorem rd_take{w:World}{sz n k cap:Nat}{a:Option Addr}{xs:List Value}(h:Rd w sz (.slice a n cap) n xs)(hk:k≤n):Rd w sz (.slice (offA a cap 0 sz) k cap) k (xs.take (k * sz)):=by
 rw [offA_zero]; exact h.take hk
theorem rd_drop{w:World}{sz n k cap:Nat}{a:Option Addr}{xs:List Value}(h:Rd w sz (.slice a n cap) n xs)(hk:k≤n):Rd w sz (.slice (offA a cap k sz) (n - k) (cap - k)) (n - k) (xs.drop (k * sz)):=by
 obtain ⟨h1,a',cap',he,h2,h3⟩:=h
 simp only [Value.slice.injEq,true_and] at he
 obtain ⟨rfl,rfl⟩:=he
 refine ⟨by rw [List.length_drop,h1,Nat.sub_mul],_,_,rfl,by omega,fun h=>?_⟩
 obtain ⟨ad,rfl,h4⟩:=h3 (by omega)
 refine ⟨ad.add (k * sz),by unfold offA; rw [if_neg (by omega)]; rfl,fun j u hu=>?_⟩
 rw [add_add]
 rw [List.getElem?_drop] at hu
 exact h4 _ u hu
theorem count_cut{x:List Int}:∀ {U:List VS},(U.map Prod.snd).Pairwise (fun a b=>ltS a b=true)→(∀ y∈U.take (U.countP fun y=>ltS y.2 x),ltS y.2 x=true)∧(∀ y∈U.drop (U.countP fun y=>ltS y.2 x),ltS y.2 x=false)
 | [],_=>⟨(fun y h=>nomatch h),(fun y h=>nomatch h)⟩
 | a::U,h=>by
  rw [List.map_cons,List.pairwise_cons] at h
  obtain ⟨i1,i2⟩:=count_cut (x:=x) h.2
  cases ha:ltS a.2 x with
  | true =>
   rw [List.countP_cons_of_pos (by exact ha)]
   refine ⟨fun y hy=>?_,fun y hy=>i2 y (by simpa using hy)⟩
   rw [List.take_succ_cons] at hy
   rcases List.mem_cons.1 hy with rfl | hy
   ·exact ha
   ·exact i1 y hy
  | false =>
   have hn:∀ y∈U,ltS y.2 x=false:=fun y hy=>by
    cases hh:ltS y.2 x with
    | false=>rfl
    | true =>
     have:=ltS_trans (h.1 y.2 (List.mem_map.2 ⟨y,hy,rfl⟩)) hh
     rw [ha] at this; cases this
   have h0:(a::U).countP (fun y=>ltS y.2 x)=0:=by
    rw [List.countP_eq_zero]
    intro y hy
    rcases List.mem_cons.1 hy with rfl | hy
    ·rw [ha]; simp
    ·rw [hn y hy]; simp
   rw [h0]
   refine ⟨(fun y hy=>nomatch hy),fun y hy=>?_⟩
   rw [List.drop_zero] at hy
   rcases List.mem_cons.1 hy with rfl | hy
   ·exact ha
   ·exact hn y hy
theorem ins_sorted{U:List VS}{x:VS}(h:(U.map Prod.snd).Pairwise (fun a b=>ltS a b=true))(ho:∀ p∈U,OkS p.2)(hx:OkS x.2)(hne:∀ p∈U,p.2≠x.2) :
  ((U.take (U.countP fun y=>ltS y.2 x.2)++[x]++U.drop (U.countP fun y=>ltS y.2 x.2)).map Prod.snd).Pairwise (fun a b=>ltS a b=true):=by
 obtain ⟨c1,c2⟩:=count_cut (x:=x.2) h
 generalize (U.countP fun y=>ltS y.2 x.2)=n at c1 c2 ⊢
 have h2:=h
 rw [← List.take_append_drop n U,List.map_append,List.pairwise_append] at h2
 have c3:∀ y∈U.drop n,ltS x.2 y.2=true:=fun y hy=>by
  have hm:=List.mem_of_mem_drop hy
  cases hh:ltS x.2 y.2 with
  | true=>rfl
  | false=>exact absurd ((ho y hm).inj hx (ltB_tri (c2 y hy) hh)) (hne y hm)
 rw [List.map_append,List.map_append,List.pairwise_append,List.pairwise_append]
 refine ⟨⟨h2.1,by simp,fun a ha b hb=>?_⟩,h2.2.1,fun a ha b hb=>?_⟩
 ·obtain ⟨p,hp,rfl⟩:=List.mem_map.1 ha
  simp only [List.map_cons,List.map_nil,List.mem_singleton] at hb
  rw [hb]; exact c1 p hp
 ·obtain ⟨q,hq,rfl⟩:=List.mem_map.1 hb
  rcases List.mem_append.1 ha with ha | ha
  ·exact h2.2.2 a ha q.2 (List.mem_map.2 ⟨q,hq,rfl⟩)
  ·simp only [List.map_cons,List.map_nil,List.mem_singleton] at ha
   rw [ha]; exact c3 q hq
theorem sorted_ok(v:Value)(D:List VS)(w:World)(h:RowS w v D)(hok:∀ p∈D,OkS p.2)(hl:D.length≤100000) :
  Ret Tryz.prog 71 [v] w fun u w'=>(∃ U:List VS,Uniq (D.map Prod.snd) (U.map Prod.snd)∧(∀ p∈U,p∈D)∧w'.ownsRow w.heap.size 66 1 u U.length (U.map Prod.fst))∧Below w.heap.size w w':=by
 obtain ⟨a,c,rfl,_⟩:=h.form
 refine ent71 _ _ _ ?_
 simp (disch:=first|omega|exact zF rfl|exact zG rfl|exact id|(simp only[zA,zB,zC,zD,bytesW];omega)) only[go_sem,c71S5]
 have s1:=(St.start (W0:=w)).nilRow 66 1
 refine W_loopU (fun x:Nat × List VS × Value=>[(3,x.2.2),(4,.int .i64 x.1)]) (fun x w'=>St w w' (fun _=>False) [.row x.2.2 66 1 x.2.1.length (x.2.1.map Prod.fst)] []∧x.1≤D.length∧Uniq ((D.take x.1).map Prod.snd) (x.2.1.map Prod.snd)∧(∀ p∈x.2.1,p∈D)∧x.2.1.length≤x.1) (fun x=>D.length - x.1) (0,[],.slice none 0 0) rfl ⟨s1,Nat.zero_le _,⟨List.Pairwise.nil,fun s=>Iff.rfl⟩,(fun p hp=>by cases hp),Nat.le_refl _⟩ ?_
 rintro ⟨i,U,u⟩ w3 ⟨s3,hi,hu,hm,hle⟩
 simp only at s3 hi hu hm hle
 obtain ⟨au,cu,rfl,_⟩:=own_slice (s3.row 0 rfl)
 have h3:=h.below s3.bel
 by_cases hlt:i<D.length
 ·have hlt':(i:Int)<D.length:=by omega
  obtain ⟨p,rfl⟩:=h.ptr (by omega)
  have ek:=h3.at hlt
  have hrk:=h3.rd _ (List.getElem_mem hlt)
  have hok':=hok _ (List.getElem_mem hlt)
  obtain ⟨ak,ck,e1,_⟩:=hrk.form
  rw [e1] at ek
  simp (disch:=first|omega|exact zF rfl|exact zG rfl|exact id|(simp only[zA,zB,zC,zD,bytesW];omega)) only[go_sem,c71S5,hlt',ek]
  refine ⟨by omega,Ret.mono (rtext_ok _ D[i].2 w3 (by rw [← e1]; exact hrk) hok'.1 hok'.2) ?_⟩
  rintro _ w4 ⟨rfl,b4⟩
  have s4:=s3.call b4
  simp (disch:=first|omega|exact zF rfl|exact zG rfl|exact id|(simp only[zA,zB,zC,zD,bytesW];omega)) only[go_sem]
  refine W_loopU (fun x:Nat=>[(6,.int .i64 ((U.take x).countP fun y=>ltS y.2 D[i].2)),(7,.bool ((U.take x).any fun y=>decide (y.2=D[i].2))),(8,.int .i64 x)]) (fun x w'=>Below w4.heap.size w4 w'∧x≤U.length) (fun x=>U.length - x) 0 rfl ⟨Below.refl _ _,Nat.zero_le _⟩ ?_
  rintro k w5 ⟨b5,hk⟩
  have s5:=s4.call b5
  have h5:=h.below s5.bel
  by_cases hku:k<U.length
  ·have hku':(k:Int)<U.length:=by omega
   obtain ⟨g,rfl⟩:∃ g,au=some ⟨g,0,none⟩:=by
    obtain ⟨_,⟨_,h0⟩ | ⟨g,cap,cur,e,_⟩⟩:=s5.row 0 rfl
    ·omega
    ·cases e; exact ⟨g,rfl⟩
   have eu:=(s5.row 0 rfl).cells rfl k U[k].1 (by simp [hku])
   rw [Addr.add_lit,Nat.zero_add] at eu
   have hpu:=hm _ (List.getElem_mem hku)
   have hru:=h5.rd _ hpu
   have hou:=hok _ hpu
   obtain ⟨a6,c6,e6,_⟩:=hru.form
   rw [e6] at eu
   simp (disch:=first|omega|exact zF rfl|exact zG rfl|exact id|(simp only[zA,zB,zC,zD,bytesW];omega)) only[go_sem,c71S5,hku',eu]
   refine ⟨by omega,Ret.mono (rtext_ok _ U[k].2 w5 (by rw [← e6]; exact hru) hou.1 hou.2) ?_⟩
   rintro _ w6 ⟨rfl,b6⟩
   simp (disch:=first|omega|exact zF rfl|exact zG rfl|exact id|(simp only[zA,zB,zC,zD,bytesW];omega)) only[go_sem,c71S5]
   have hcle:=List.countP_le_length (p:=fun y:VS=>ltS y.2 D[i].2) (l:=U.take k)
   rw [List.length_take] at hcle
   have hct:Op.bytesLess (txt U[k].2) (txt D[i].2)=true→(U.take (k+1)).countP (fun y=>ltS y.2 D[i].2)=(U.take k).countP (fun y=>ltS y.2 D[i].2)+1:=fun hb=>by
    rw [List.take_succ_eq_append_getElem hku,List.countP_append,List.countP_singleton,if_pos (show ltS U[k].2 D[i].2=true from hb)]
   have hcf:Op.bytesLess (txt U[k].2) (txt D[i].2)=false→(U.take (k+1)).countP (fun y=>ltS y.2 D[i].2)=(U.take k).countP (fun y=>ltS y.2 D[i].2):=fun hb=>by
    rw [List.take_succ_eq_append_getElem hku,List.countP_append,List.countP_singleton,if_neg (by rw [show ltS U[k].2 D[i].2=false from hb]; simp),Nat.add_zero]
   have htx:decide (txt U[k].2=txt D[i].2)=decide (U[k].2=D[i].2):=by
    by_cases e:U[k].2=D[i].2
    ·rw [decide_eq_true e,decide_eq_true (congrArg txt e)]
    ·rw [decide_eq_false e,decide_eq_false (fun h=>e (hou.inj hok' h))]
   have haf:((U.take k).any fun y=>decide (y.2=D[i].2))=false→((U.take (k+1)).any fun y=>decide (y.2=D[i].2))=decide (txt U[k].2=txt D[i].2):=fun e=>by
    rw [List.take_succ_eq_append_getElem hku,List.any_append,e,htx]; simp
   have hat:((U.take k).any fun y=>decide (y.2=D[i].2))=true→((U.take (k+1)).any fun y=>decide (y.2=D[i].2))=true:=fun e=>by
    rw [List.take_succ_eq_append_getElem hku,List.any_append,e]; rfl
   have bb:=Below.next b5 b6
   refine ⟨fun hA=>⟨fun hb=>⟨⟨by omega,by omega⟩,⟨by omega,by omega⟩,k+1,?_,⟨bb,by omega⟩,by omega⟩,fun hb=>⟨⟨by omega,by omega⟩,k+1,?_,⟨bb,by omega⟩,by omega⟩⟩,fun hA=>⟨fun hb=>⟨⟨by omega,by omega⟩,⟨by omega,by omega⟩,k+1,?_,⟨bb,by omega⟩,by omega⟩,fun hb=>⟨⟨by omega,by omega⟩,k+1,?_,⟨bb,by omega⟩,by omega⟩⟩⟩
   ·rw [hct hb,haf hA]; rfl
   ·rw [hcf hb,haf hA]; rfl
   ·rw [hct hb,hat hA]; rfl
   ·rw [hcf hb,hat hA]; rfl
  ·have hku':¬ (k:Int)<U.length:=by omega
   simp (disch:=first|omega|exact zF rfl|exact zG rfl|exact id|(simp only[zA,zB,zC,zD,bytesW];omega)) only[go_sem,hku']
   have hkU:k=U.length:=by omega
   subst hkU
   rw [List.take_length]
   cases hsame:U.any fun y=>decide (y.2=D[i].2) with
   | true =>
    simp (disch:=first|omega|exact zF rfl|exact zG rfl|exact id|(simp only[zA,zB,zC,zD,bytesW];omega)) only[go_sem,c71S5]
    obtain ⟨q,hq,e⟩:=List.any_eq_true.1 hsame
    have e:=of_decide_eq_true e
    refine ⟨⟨by omega,by omega⟩,(i+1,U,.slice au U.length cu),rfl,⟨s5,by simp only; omega,⟨hu.1,fun s=>?_⟩,hm,by simp only; omega⟩,by simp only; omega⟩
    simp only
    rw [List.take_succ_eq_append_getElem hlt,List.map_append,List.mem_append,← hu.2 s]
    refine ⟨.inl,fun h=>h.elim id fun h=>?_⟩
    simp only [List.map_cons,List.map_nil,List.mem_singleton] at h
    rw [h,← e]
    exact List.mem_map.2 ⟨q,hq,rfl⟩
   | false =>
    have hne:∀ p∈U,p.2≠D[i].2:=fun p hp e=>by
     have:=List.any_eq_false.1 hsame p hp
     exact this (decide_eq_true e)
    simp (disch:=first|omega|exact zF rfl|exact zG rfl|exact id|(simp only[zA,zB,zC,zD,bytesW];omega)) only[go_sem,c71S5]
    have hn:=List.countP_le_length (p:=fun y:VS=>ltS y.2 D[i].2) (l:=U)
    obtain ⟨n,hnn⟩:∃ n,n=U.countP fun y=>ltS y.2 D[i].2:=⟨_,rfl⟩
    rw [← hnn] at hn
    rw [← hnn]
    refine bsW_none ty74mkI ?_
    have s6:=s5.emptyRow 66 1
    have hcu:U.length≤cu:=by
     obtain ⟨_,⟨e,h0⟩ | ⟨g,cap,cur,e,_,_,hc,_⟩⟩:=s5.row 0 rfl
     ·omega
     ·cases e; exact hc
    simp (disch:=first|omega|exact zF rfl|exact zG rfl|exact id|(simp only[zA,zB,zC,zD,bytesW];omega)) only[go_sem,c71S5]
    have ones:∀ (L:List VS),(∀ q∈L,q∈D)→∀ u∈L.map Prod.fst,u.oneCell'=true:=fun L hL u hu=>by
     obtain ⟨q,hq,rfl⟩:=List.mem_map.1 hu
     obtain ⟨a,c,e,_⟩:=(h.rd q (hL q hq)).form
     rw [e]; rfl
    refine ⟨⟨by omega,by omega⟩,s6.append 0 rfl ty74mkI rfl (by decide) (rd_take (Rd.of_own (s6.row 1 rfl)) hn) (by rw [Nat.mul_one,← List.map_take]; exact ones _ fun q hq=>hm q (List.mem_of_mem_take hq)) (by omega) (by omega) ?_⟩
    intro v7 w7 s7 c7
    simp only [List.set_cons_zero,List.nil_append,Nat.zero_add,Nat.mul_one,← List.map_take] at s7
    obtain ⟨a7,c7',rfl,_⟩:=own_slice (s7.row 0 rfl)
    have h7:=h.below s7.bel
    have ek7:=h7.at hlt
    rw [e1] at ek7
    simp (disch:=first|omega|exact zF rfl|exact zG rfl|exact id|(simp only[zA,zB,zC,zD,bytesW];omega)) only[go_sem,c71S5,ek7]
    refine ⟨⟨by omega,by omega⟩,?_⟩
    refine bsW_ones ty74mkI rfl rfl (by decide) (by decide) (by intro v hv; rw [List.mem_singleton] at hv; subst hv; rfl) ?_
    simp (disch:=first|omega|exact zF rfl|exact zG rfl|exact id|(simp only[zA,zB,zC,zD,bytesW];omega)) only[go_sem,c71S5]
    have s8:=s7.alloc' (.cells #[.slice ak D[i].2.length ck] 66)
    have hx:Rd (w7.alloc (.cells #[.slice ak D[i].2.length ck] 66)) 1 (.slice (some ⟨w7.heap.size,0,none⟩) 1 1) 1 [.slice ak D[i].2.length ck]:=rd_new (n:=1) (cs:=#[.slice ak D[i].2.length ck]) rfl
    refine s8.append 0 rfl ty74mkI rfl (by decide) hx (by intro v hv; rw [List.mem_singleton] at hv; subst hv; rfl) (by omega) (by omega) ?_
    intro v9 w9 s9 c9
    simp only [List.set_cons_zero] at s9
    obtain ⟨a9,c9',rfl,_⟩:=own_slice (s9.row 0 rfl)
    simp (disch:=first|omega|exact zF rfl|exact zG rfl|exact id|(simp only[zA,zB,zC,zD,bytesW];omega)) only[go_sem,c71S5]
    refine ⟨⟨by omega,by omega⟩,s9.append 0 rfl ty74mkI rfl (by decide) (rd_drop (Rd.of_own (s9.row 1 rfl)) hn) (by rw [Nat.mul_one,← List.map_drop]; exact ones _ fun q hq=>hm q (List.mem_of_mem_drop hq)) (by omega) (by omega) ?_⟩
    intro v10 w10 s10 c10
    simp only [List.set_cons_zero,Nat.mul_one,← List.map_drop] at s10
    simp (disch:=first|omega|exact zF rfl|exact zG rfl|exact id|(simp only[zA,zB,zC,zD,bytesW];omega)) only[go_sem,c71S5]
    have lU:n+1+(U.length - n)=(U.take n++[D[i]]++U.drop n).length:=by simp; omega
    have eU':List.map Prod.fst (U.take n)++[Value.slice ak D[i].2.length ck]++List.map Prod.fst (U.drop n)=(U.take n++[D[i]]++U.drop n).map Prod.fst:=by
     rw [List.map_append,List.map_append,List.map_cons,List.map_nil,e1]
    rw [eU',lU] at s10
    refine ⟨⟨by omega,by omega⟩,(i+1,U.take n++[D[i]]++U.drop n,v10),rfl,⟨s10.sub (by simp),by simp only; omega,⟨?_,fun s=>?_⟩,fun q hq=>?_,?_⟩,by simp only; omega⟩
    ·simp only
     rw [hnn]
     exact ins_sorted hu.1 (fun q hq=>hok q (hm q hq)) hok' hne
    ·simp only
     have this:s∈U.map Prod.snd↔s∈(U.take n).map Prod.snd∨s∈(U.drop n).map Prod.snd:=by
      have e:U.map Prod.snd=(U.take n).map Prod.snd++(U.drop n).map Prod.snd:=by rw [← List.map_append,List.take_append_drop]
      rw [e,List.mem_append]
     rw [List.take_succ_eq_append_getElem hlt]
     simp only [List.map_append (l₁:=U.take n++[D[i]]),List.map_append (l₁:=U.take n),List.map_append (l₁:=D.take i),List.mem_append]
     rw [← hu.2 s,this]
     constructor
     ·rintro ((h | h) | h)
      ·exact .inl (.inl h)
      ·exact .inr h
      ·exact .inl (.inr h)
     ·rintro ((h | h) | h)
      ·exact .inl (.inl h)
      ·exact .inr h
      ·exact .inl (.inr h)
    ·simp only at hq
     rcases List.mem_append.1 hq with hq | hq
     ·rcases List.mem_append.1 hq with hq | hq
      ·exact hm q (List.mem_of_mem_take hq)
      ·rw [List.mem_singleton] at hq; subst hq; exact List.getElem_mem hlt
     ·exact hm q (List.mem_of_mem_drop hq)
    ·simp only
     rw [← lU]; omega
 ·have hlt':¬ (i:Int)<D.length:=by omega
  simp (disch:=first|omega|exact zF rfl|exact zG rfl|exact id|(simp only[zA,zB,zC,zD,bytesW];omega)) only[go_sem,c71S5,hlt']
  rw [List.take_of_length_le (by omega)] at hu
  exact ⟨⟨U,hu,hm,s3.row 0 rfl⟩,s3.bel⟩
open Go Go.Ann Go.RowKit
structure OpT where
 ID:Int
 Proc:Int
 Object:Int
 Kind:Int
 Method:Int
 Arg:Int
 Second:Int
 Done:Bool
 Result:Int
 Invoke:Int
 Return:Int
deriving DecidableEq
def OpT.enc(a:OpT):List Value:=[.int .i64 a.ID,.int .i64 a.Proc,.int .i64 a.Object,.int .i64 a.Kind,.int .i64 a.Method,.int .i64 a.Arg,.int .i64 a.Second,.bool a.Done,.int .i64 a.Result,.int .i64 a.Invoke,.int .i64 a.Return]
def OpT.wf(a:OpT):Prop:=kOk .i64 a.ID∧kOk .i64 a.Proc∧kOk .i64 a.Object∧kOk .i64 a.Kind∧kOk .i64 a.Method∧kOk .i64 a.Arg∧kOk .i64 a.Second∧kOk .i64 a.Result∧kOk .i64 a.Invoke∧kOk .i64 a.Return
theorem OpT.len(a:OpT):a.enc.length=11:=rfl
theorem OpT.one(a:OpT):∀ u∈a.enc,u.oneCell'=true:=by intro u hu; simp only [OpT.enc,List.mem_cons,List.not_mem_nil,or_false] at hu; rcases hu with rfl | rfl | rfl | rfl | rfl | rfl | rfl | rfl | rfl | rfl | rfl <;> rfl
theorem OpT.ones(l:List OpT):∀ u∈l.flatMap OpT.enc,u.oneCell'=true:=by intro u hu; obtain ⟨a,_,h⟩:=List.mem_flatMap.1 hu; exact a.one u h
theorem OpT.at(a:OpT):a.enc[0]?=some (.int .i64 a.ID)∧a.enc[1]?=some (.int .i64 a.Proc)∧a.enc[2]?=some (.int .i64 a.Object)∧a.enc[3]?=some (.int .i64 a.Kind)∧a.enc[4]?=some (.int .i64 a.Method)∧a.enc[5]?=some (.int .i64 a.Arg)∧a.enc[6]?=some (.int .i64 a.Second)∧a.enc[7]?=some (.bool a.Done)∧a.enc[8]?=some (.int .i64 a.Result)∧a.enc[9]?=some (.int .i64 a.Invoke)∧a.enc[10]?=some (.int .i64 a.Return):=⟨rfl,rfl,rfl,rfl,rfl,rfl,rfl,rfl,rfl,rfl,rfl⟩
theorem OpT.eqs(a b:OpT):aggEq [.int,.int,.int,.int,.int,.int,.int,.bool,.int,.int,.int] a.enc b.enc=some (decide (a=b)):=by
 have h:(a=b)=(a.ID=b.ID∧a.Proc=b.Proc∧a.Object=b.Object∧a.Kind=b.Kind∧a.Method=b.Method∧a.Arg=b.Arg∧a.Second=b.Second∧a.Done=b.Done∧a.Result=b.Result∧a.Invoke=b.Invoke∧a.Return=b.Return):=by cases a; cases b; simp
 simp only [aggEq,OpT.enc,vEq,andO,if_true,toL_ofL,Option.some.injEq]
 rw [Bool.eq_iff_iff,decide_eq_true_eq,h]
 simp [Bool.and_eq_true,and_assoc]
theorem opens_OpT:Opens Tryz.prog 38 (fun _ (a:OpT) cs=>cs=a.enc∧a.wf):=by
 intro H enc w base sp hd fuel cs x hx
 obtain ⟨hl,hf⟩:=opens_fields Tryz.underlying38 hx
 rw [show Tryz.prog.cellsOf 38=11 by kernel_rfl] at hl
 have c_0:Tryz.prog.cellsOf 4=1:=by kernel_rfl
 have c_1:Tryz.prog.cellsOf 3=1:=by kernel_rfl
 match cs,hl with
 | [v0,v1,v2,v3,v4,v5,v6,v7,v8,v9,v10],_ =>
  obtain ⟨n0,y0,g0⟩:=hf 0 _ rfl
  have h0:DataW.trod enc Tryz.prog w base sp hd n0 3 (List.take (Tryz.prog.cellsOf 3) [v0,v1,v2,v3,v4,v5,v6,v7,v8,v9,v10])=some y0:=g0
  rw [c_1] at h0
  obtain ⟨a0,e0⟩:=opens_int Tryz.underlying3 enc w base sp hd n0 [v0] y0 h0
  have r0:v0=_:=(List.cons.inj e0.1).1
  obtain ⟨n1,y1,g1⟩:=hf 1 _ rfl
  have h1:DataW.trod enc Tryz.prog w base sp hd n1 3 (List.take (Tryz.prog.cellsOf 3) [v1,v2,v3,v4,v5,v6,v7,v8,v9,v10])=some y1:=g1
  rw [c_1] at h1
  obtain ⟨a1,e1⟩:=opens_int Tryz.underlying3 enc w base sp hd n1 [v1] y1 h1
  have r1:v1=_:=(List.cons.inj e1.1).1
  obtain ⟨n2,y2,g2⟩:=hf 2 _ rfl
  have h2:DataW.trod enc Tryz.prog w base sp hd n2 3 (List.take (Tryz.prog.cellsOf 3) [v2,v3,v4,v5,v6,v7,v8,v9,v10])=some y2:=g2
  rw [c_1] at h2
  obtain ⟨a2,e2⟩:=opens_int Tryz.underlying3 enc w base sp hd n2 [v2] y2 h2
  have r2:v2=_:=(List.cons.inj e2.1).1
  obtain ⟨n3,y3,g3⟩:=hf 3 _ rfl
  have h3:DataW.trod enc Tryz.prog w base sp hd n3 3 (List.take (Tryz.prog.cellsOf 3) [v3,v4,v5,v6,v7,v8,v9,v10])=some y3:=g3
  rw [c_1] at h3
  obtain ⟨a3,e3⟩:=opens_int Tryz.underlying3 enc w base sp hd n3 [v3] y3 h3
  have r3:v3=_:=(List.cons.inj e3.1).1
  obtain ⟨n4,y4,g4⟩:=hf 4 _ rfl
  have h4:DataW.trod enc Tryz.prog w base sp hd n4 3 (List.take (Tryz.prog.cellsOf 3) [v4,v5,v6,v7,v8,v9,v10])=some y4:=g4
  rw [c_1] at h4
  obtain ⟨a4,e4⟩:=opens_int Tryz.underlying3 enc w base sp hd n4 [v4] y4 h4
  have r4:v4=_:=(List.cons.inj e4.1).1
  obtain ⟨n5,y5,g5⟩:=hf 5 _ rfl
  have h5:DataW.trod enc Tryz.prog w base sp hd n5 3 (List.take (Tryz.prog.cellsOf 3) [v5,v6,v7,v8,v9,v10])=some y5:=g5
  rw [c_1] at h5
  obtain ⟨a5,e5⟩:=opens_int Tryz.underlying3 enc w base sp hd n5 [v5] y5 h5
  have r5:v5=_:=(List.cons.inj e5.1).1
  obtain ⟨n6,y6,g6⟩:=hf 6 _ rfl
  have h6:DataW.trod enc Tryz.prog w base sp hd n6 3 (List.take (Tryz.prog.cellsOf 3) [v6,v7,v8,v9,v10])=some y6:=g6
  rw [c_1] at h6
  obtain ⟨a6,e6⟩:=opens_int Tryz.underlying3 enc w base sp hd n6 [v6] y6 h6
  have r6:v6=_:=(List.cons.inj e6.1).1
  obtain ⟨n7,y7,g7⟩:=hf 7 _ rfl
  have h7:DataW.trod enc Tryz.prog w base sp hd n7 4 (List.take (Tryz.prog.cellsOf 4) [v7,v8,v9,v10])=some y7:=g7
  rw [c_0] at h7
  obtain ⟨a7,e7⟩:=opens_bool Tryz.underlying4 enc w base sp hd n7 [v7] y7 h7
  have r7:v7=_:=(List.cons.inj e7).1
  obtain ⟨n8,y8,g8⟩:=hf 8 _ rfl
  have h8:DataW.trod enc Tryz.prog w base sp hd n8 3 (List.take (Tryz.prog.cellsOf 3) [v8,v9,v10])=some y8:=g8
  rw [c_1] at h8
  obtain ⟨a8,e8⟩:=opens_int Tryz.underlying3 enc w base sp hd n8 [v8] y8 h8
  have r8:v8=_:=(List.cons.inj e8.1).1
  obtain ⟨n9,y9,g9⟩:=hf 9 _ rfl
  have h9:DataW.trod enc Tryz.prog w base sp hd n9 3 (List.take (Tryz.prog.cellsOf 3) [v9,v10])=some y9:=g9
  rw [c_1] at h9
  obtain ⟨a9,e9⟩:=opens_int Tryz.underlying3 enc w base sp hd n9 [v9] y9 h9
  have r9:v9=_:=(List.cons.inj e9.1).1
  obtain ⟨n10,y10,g10⟩:=hf 10 _ rfl
  have h10:DataW.trod enc Tryz.prog w base sp hd n10 3 (List.take (Tryz.prog.cellsOf 3) [v10])=some y10:=g10
  rw [c_1] at h10
  obtain ⟨a10,e10⟩:=opens_int Tryz.underlying3 enc w base sp hd n10 [v10] y10 h10
  have r10:v10=_:=(List.cons.inj e10.1).1
  exact ⟨⟨a0,a1,a2,a3,a4,a5,a6,a7,a8,a9,a10⟩,by rw [r0,r1,r2,r3,r4,r5,r6,r7,r8,r9,r10]; rfl,e0.2,e1.2,e2.2,e3.2,e4.2,e5.2,e6.2,e8.2,e9.2,e10.2⟩
theorem opens_Ops:Opens Tryz.prog 22 (fun w (xs:List OpT) cs=>∃ v,cs=[v]∧RdS w 11 OpT.enc v xs∧(∀ x∈xs,x.wf)∧(xs.length:Int)≤9223372036854775807) :=
 Opens.mono (opens_slice opens_OpT Tryz.underlying22 (by kernel_rfl)) fun w xs cs ⟨v,h1,h2,h3⟩ =>
  have h:=h2.plain (enc:=OpT.enc) (ok:=OpT.wf) fun _ _ h=>h
  ⟨xs,v,h1,h.1,h.2,h3⟩
open Go Go.Ann Go.RowKit
def numP(x:Int)(o:OpT):Option (List Int × Int) :=
 if o.Method=1 then some ([x],x)
 else if o.Kind=1∧o.Method=2 then some ([o.Arg],0)
 else if o.Kind=1∧o.Method=3 then (if x=o.Arg then some ([o.Second],1) else some ([x],0))
 else if o.Kind=2∧o.Method=4 then some ([IntKind.i64.wrap (x+1)],0)
 else if o.Kind=2∧o.Method=5 then some ([IntKind.i64.wrap (x - 1)],0)
 else none
def StepR(w w':World)(v:Value)(r:Option (List Int × Int))(t:Value):Prop :=
 ∃ u a ok,t=.tuple #[u,.int .i64 a,.bool ok]∧match r with
  | none=>ok=false
  | some (s,n)=>ok=true∧a=n∧RdS w' 1 intE u s∧∀ k,slFoot u k→v.ownBlock=some k∨w.heap.size≤k
theorem int_new{w:World}{b:Nat}(x:Int)(hb:b=w.heap.size):RdS (w.alloc (.cells #[.int .i64 x] 3)) 1 intE (.slice (some ⟨b,0,none⟩) 1 1) [x]:=by
 subst hb
 exact rd_new (n:=1) (cs:=#[.int .i64 x]) rfl
theorem number_ok(v:Value)(x:Int)(o:OpT)(w:World)(h:RdS w 1 intE v [x]) :
  Ret Tryz.prog 127 [v,.agg o.enc.toArray] w fun u w'=>StepR w w' v (numP x o) u∧Below w.heap.size w w':=by
 obtain ⟨a,c,rfl,_⟩:=h.form
 obtain ⟨p,rfl⟩:=h.ptr (by simp)
 refine ent127 _ _ _ _ ?_
 have ho:=o.at
 have hw1:Below w.heap.size w (w.alloc (.cells o.enc.toArray 38)):=(Below.refl _ w).alloc (Nat.le_refl _) _
 have h1:=h.below hw1 (by decide)
 have ep:=RdS.int h1 (k:=0) (by simp)
 rw [show p.add 0=p from rfl,show ([x]:List Int)[0]=x from rfl] at ep
 have hw2:Below w.heap.size w (w.alloc (.cells o.enc.toArray 38)).drew:=hw1.drew
 have ep2:(w.alloc (.cells o.enc.toArray 38)).drew.cell? p=some (.int .i64 x):=ep
 have lp:p.block<w.heap.size:=h.blt intE_len (by decide) (by simp)
 have one:∀ (n:Int) (K:Value→World→Prop),(∀ u w',RdS w' 1 intE u [n]→(∀ k,slFoot u k→w.heap.size≤k)→Below w.heap.size w w'→K u w')→bsW Tryz.prog 66 1 [0] [.int .i64 n] (w.alloc (.cells o.enc.toArray 38)) K:=fun n K hK=>by
  refine bsW_ones ty66mkI rfl rfl (by decide) (by decide) (intE_one n) ?_
  refine hK _ _ (int_new n rfl) (fun k hk=>?_) (Below.next hw1 ((Below.refl _ _).alloc (Nat.le_refl _) _))
  have:=slFoot_own hk
  simp only [Value.ownBlock,Option.some.injEq,World.size_alloc] at this
  omega
 have no:∀ {w':World},numP x o=none→StepR w w' (.slice (some p) 1 c) (numP x o) (.tuple #[.slice none 0 0,.int .i64 0,.bool false]):=fun e=>⟨_,_,_,rfl,by rw [e]⟩
 by_cases m1:o.Method=1
 ·have e:numP x o=some ([x],x):=by unfold numP; rw [if_pos m1]
  simp (disch:=first|omega|exact zF rfl|exact zG rfl|exact id|(simp only[zA,zB,zC,zD,bytesW];omega)) only[go_sem,ho,m1]
  refine c127draw0 ?_
  have hd2:(w.alloc (.cells o.enc.toArray 38)).drew.heap.size=w.heap.size+1:=by simp
  simp (disch:=first|omega|exact zF rfl|exact zG rfl|exact id|(simp only[zA,zB,zC,zD,bytesW];omega)) only[go_sem,c127D0,ep,ep2]
  exact ⟨⟨_,_,_,rfl,by rw [e]; exact ⟨rfl,rfl,h.below hw2 (by decide),fun k hk=>.inl (slFoot_own hk)⟩⟩,hw2⟩
 by_cases k1:o.Kind=1
 ·by_cases m2:o.Method=2
  ·have e:numP x o=some ([o.Arg],0):=by unfold numP; rw [if_neg m1,if_pos ⟨k1,m2⟩]
   simp (disch:=first|omega|exact zF rfl|exact zG rfl|exact id|(simp only[zA,zB,zC,zD,bytesW];omega)) only[go_sem,ho,k1,m2]
   refine one _ _ fun u w' hr hf hb=>?_
   simp (disch:=first|omega|exact zF rfl|exact zG rfl|exact id|(simp only[zA,zB,zC,zD,bytesW];omega)) only[go_sem]
   exact ⟨⟨u,_,_,rfl,by rw [e]; exact ⟨rfl,rfl,hr,fun k hk=>.inr (hf k hk)⟩⟩,hb⟩
  by_cases m3:o.Method=3
  ·simp (disch:=first|omega|exact zF rfl|exact zG rfl|exact id|(simp only[zA,zB,zC,zD,bytesW];omega)) only[go_sem,ho,k1,m3]
   refine c127draw1 ?_
   simp (disch:=first|omega|exact zF rfl|exact zG rfl|exact id|(simp only[zA,zB,zC,zD,bytesW];omega)) only[go_sem,c127D1,ep,ep2,ho]
   refine ⟨fun e0=>?_,fun e0=>?_⟩
   ·have e:numP x o=some ([o.Second],1):=by unfold numP; simp [m1,k1,m2,m3,e0]
    refine bsW_ones ty66mkI rfl rfl (by decide) (by decide) (intE_one _) ?_
    simp (disch:=first|omega|exact zF rfl|exact zG rfl|exact id|(simp only[zA,zB,zC,zD,bytesW];omega)) only[go_sem]
    have hi:=int_new (w:=w.alloc (.cells o.enc.toArray 38)) (b:=w.heap.size+1) o.Second (by simp)
    have bb:=(Below.refl (w.alloc (.cells o.enc.toArray 38)).heap.size (w.alloc (.cells o.enc.toArray 38))).alloc (Nat.le_refl _) (.cells #[.int .i64 o.Second] 3)
    refine ⟨⟨_,_,_,rfl,by
     rw [e]
     refine ⟨rfl,rfl,hi.below (Below.refl _ _).drew (by decide),fun k hk=>.inr ?_⟩
     have:=slFoot_own hk
     simp only [Value.ownBlock,Option.some.injEq] at this
     omega⟩,(Below.next hw1 bb).drew⟩
   ·have e:numP x o=some ([x],0):=by unfold numP; simp [m1,k1,m2,m3,e0]
    exact ⟨⟨_,_,_,rfl,by rw [e]; exact ⟨rfl,rfl,h.below hw2 (by decide),fun k hk=>.inl (slFoot_own hk)⟩⟩,hw2⟩
  ·have e:numP x o=none:=by unfold numP; simp [m1,k1,m2,m3]
   simp (disch:=first|omega|exact zF rfl|exact zG rfl|exact id|(simp only[zA,zB,zC,zD,bytesW];omega)) only[go_sem,ho,k1,m1,m2,m3]
   exact ⟨no e,hw1⟩
 by_cases k2:o.Kind=2
 ·by_cases m4:o.Method=4
  ·have e:numP x o=some ([IntKind.i64.wrap (x+1)],0):=by unfold numP; simp [m4,k2]
   simp (disch:=first|omega|exact zF rfl|exact zG rfl|exact id|(simp only[zA,zB,zC,zD,bytesW];omega)) only[go_sem,ho,k2,m4,ep]
   refine one _ _ fun u w' hr hf hb=>?_
   simp (disch:=first|omega|exact zF rfl|exact zG rfl|exact id|(simp only[zA,zB,zC,zD,bytesW];omega)) only[go_sem]
   exact ⟨⟨u,_,_,rfl,by rw [e]; exact ⟨rfl,rfl,hr,fun k hk=>.inr (hf k hk)⟩⟩,hb⟩
  by_cases m5:o.Method=5
  ·have e:numP x o=some ([IntKind.i64.wrap (x - 1)],0):=by unfold numP; simp [m5,k2]
   simp (disch:=first|omega|exact zF rfl|exact zG rfl|exact id|(simp only[zA,zB,zC,zD,bytesW];omega)) only[go_sem,ho,k2,m5,ep]
   refine one _ _ fun u w' hr hf hb=>?_
   simp (disch:=first|omega|exact zF rfl|exact zG rfl|exact id|(simp only[zA,zB,zC,zD,bytesW];omega)) only[go_sem]
   exact ⟨⟨u,_,_,rfl,by rw [e]; exact ⟨rfl,rfl,hr,fun k hk=>.inr (hf k hk)⟩⟩,hb⟩
  ·have e:numP x o=none:=by unfold numP; simp [m1,k2,m4,m5]
   simp (disch:=first|omega|exact zF rfl|exact zG rfl|exact id|(simp only[zA,zB,zC,zD,bytesW];omega)) only[go_sem,ho,k2,m1,m4,m5]
   exact ⟨no e,hw1⟩
 ·have e:numP x o=none:=by unfold numP; simp [m1,k1,k2]
  simp (disch:=first|omega|exact zF rfl|exact zG rfl|exact id|(simp only[zA,zB,zC,zD,bytesW];omega)) only[go_sem,ho,k1,k2,m1]
  exact ⟨no e,hw1⟩
open Go Go.Ann Go.RowKit
def listP(s:List Int)(o:OpT):Option (List Int × Int) :=
 if (o.Kind=3∧o.Method=6)∨(o.Kind=4∧o.Method=8) then some (s++[o.Arg],0)
 else if o.Kind=3∧o.Method=7 then (match s with | []=>some ([],-1) | x::r=>some (r,x))
 else if o.Kind=4∧o.Method=9 then (if h:s=[] then some ([],-1) else some (s.dropLast,s.getLast h))
 else none
theorem ints_take:∀ (s:List Int) (k:Nat),(s.take k).flatMap intE=(s.flatMap intE).take k
 | [],k=>by simp
 | x::s,0=>rfl
 | x::s,k+1=>by rw [List.take_succ_cons,List.flatMap_cons,List.flatMap_cons,ints_take s k]; rfl
theorem offA_own{ad:Addr}{c lo n m k:Nat}(h:slFoot (.slice (offA (some ad) c lo 1) n m) k):ad.block=k:=by
 have:=slFoot_own h
 unfold offA at this
 split at this
 ·simpa [Value.ownBlock] using this
 ·simpa [Value.ownBlock,add_block] using this
theorem list_ok(v:Value)(s:List Int)(o:OpT)(w:World)(B:Nat)(hB:B≤w.heap.size)(h:w.ownsRow B 3 1 v s.length (s.flatMap intE))(hl:s.length≤1000000) :
  Ret Tryz.prog 128 [v,.agg o.enc.toArray] w fun u w'=>StepR w w' v (listP s o) u∧Chg (fun k=>v.ownBlock=some k) w w':=by
 obtain ⟨a,c,rfl,_⟩:=own_slice h
 refine ent128 _ _ _ _ ?_
 have ho:=o.at
 have hw1:Below w.heap.size w (w.alloc (.cells o.enc.toArray 38)):=(Below.refl _ w).alloc (Nat.le_refl _) _
 have hc1:Chg (fun k=>(Value.slice a s.length c).ownBlock=some k) w (w.alloc (.cells o.enc.toArray 38)):=Chg.of_below hw1
 have hr:RdS w 1 intE (.slice a s.length c) s:=RdS.of_own' h s rfl rfl
 have no:∀ {w':World},listP s o=none→StepR w w' (.slice a s.length c) (listP s o) (.tuple #[.slice none 0 0,.int .i64 0,.bool false]):=fun e=>⟨_,_,_,rfl,by rw [e]⟩
 have emp:s=[]→listP s o=some ([],-1)→StepR w (w.alloc (.cells o.enc.toArray 38)) (.slice a s.length c) (listP s o) (.tuple #[.slice a s.length c,.int .i64 (-1),.bool true]):=fun e e2=>⟨_,_,_,rfl,by
  rw [e2]
  have:=hr.below hw1 (by decide)
  subst e
  exact ⟨rfl,rfl,this,fun k hk=>.inl (slFoot_own hk)⟩⟩
 have app:∀ {ty:TypeId} {cs:Array Bool} {K:Value→World→Prop},(∀ u w',RdS w' 1 intE u (s++[o.Arg])→(∀ k,slFoot u k→(Value.slice a s.length c).ownBlock=some k∨w.heap.size≤k)→Chg (fun k=>(Value.slice a s.length c).ownBlock=some k) w w'→K u w') →
   rawB Tryz.prog .append #[66,66] ty cs [.slice a s.length c,.slice (some ⟨w.heap.size+1,0,none⟩) 1 1] ((w.alloc (.cells o.enc.toArray 38)).alloc (.cells #[.int .i64 o.Arg] 3)) K:=by
  intro ty cs K hK
  have bb:=(Below.refl (w.alloc (.cells o.enc.toArray 38)).heap.size (w.alloc (.cells o.enc.toArray 38))).alloc (Nat.le_refl _) (.cells #[.int .i64 o.Arg] 3)
  have hb2:=Below.next hw1 bb
  have ho2:=(Chg.of_below (S:=fun _=>False) hb2).own h fun _ _ h=>h
  have hi:=int_new (w:=w.alloc (.cells o.enc.toArray 38)) (b:=w.heap.size+1) o.Arg (by simp)
  obtain ⟨_,a',c',e,_,hp⟩:=hi
  cases e
  obtain ⟨ad,had,hcell⟩:=hp (by simp)
  cases had
  refine rawB_append (m:=1) ty66mkI rfl (by decide) ho2 (by simp [intE]) hcell (ints_one _) (by decide) (by omega) (by omega) (by have:=hb2.size; omega) ?_
  intro g cap w' hown hg hgb hgl
  have hown':w'.ownsRow B 3 1 (.slice (some ⟨g,0,none⟩) (s.length+1) cap) (s.length+1) ((s++[o.Arg]).flatMap intE):=by
   rw [List.flatMap_append]; exact hown
  refine hK _ _ (RdS.of_own' hown' (s++[o.Arg]) (by simp) rfl) (fun k hk=>?_) ((Chg.of_below hb2).trans ⟨hg.os,hg.tape,hg.output,hg.size,fun k hk hS=>hg.block k hk fun e=>hS e.symm⟩)
  have:=slFoot_own hk
  simp only [Value.ownBlock,Option.some.injEq] at this
  subst this
  rcases hgb with h | h
  ·exact .inl h
  ·right; rw [h]; simp; omega
 by_cases k3:o.Kind=3
 ·by_cases m6:o.Method=6
  ·simp (disch:=first|omega|exact zF rfl|exact zG rfl|exact id|(simp only[zA,zB,zC,zD,bytesW];omega)) only[go_sem,ho,k3,m6]
   refine bsW_ones ty66mkI rfl rfl (by decide) (by decide) (intE_one _) ?_
   simp (disch:=first|omega|exact zF rfl|exact zG rfl|exact id|(simp only[zA,zB,zC,zD,bytesW];omega)) only[go_sem]
   refine app fun u w' hu hf hc=>?_
   simp (disch:=first|omega|exact zF rfl|exact zG rfl|exact id|(simp only[zA,zB,zC,zD,bytesW];omega)) only[go_sem]
   exact ⟨⟨u,_,_,rfl,by rw [show listP s o=some (s++[o.Arg],0) by unfold listP; simp [k3,m6]]; exact ⟨rfl,rfl,hu,hf⟩⟩,hc⟩
  by_cases m7:o.Method=7
  ·simp (disch:=first|omega|exact zF rfl|exact zG rfl|exact id|(simp only[zA,zB,zC,zD,bytesW];omega)) only[go_sem,ho,k3,m7]
   refine ⟨fun h0=>⟨emp (List.eq_nil_of_length_eq_zero (by omega)) (by have:s=[]:=List.eq_nil_of_length_eq_zero (by omega); subst this; unfold listP; simp [k3,m7]),hc1⟩,fun h0=>?_⟩
   have h0':0<s.length:=by omega
   obtain ⟨ad,rfl⟩:=hr.ptr h0'
   have hr2:RdS (w.alloc (.cells o.enc.toArray 38)).drew 1 intE (.slice (some ad) s.length c) s:=hr.below hw1.drew (by decide)
   have hcd:Chg (fun k=>(Value.slice (some ad) s.length c).ownBlock=some k) w (w.alloc (.cells o.enc.toArray 38)).drew:=Chg.of_below hw1.drew
   obtain ⟨x,r,rfl⟩:∃ x r,s=x::r:=by
    cases s with
    | nil=>simp at h0'
    | cons x r=>exact ⟨x,r,rfl⟩
   have ep:=RdS.int hr2 (k:=0) h0'
   rw [show ad.add 0=ad from rfl,show (x::r)[0]=x from rfl] at ep
   refine c128draw0 ?_
   simp (disch:=first|omega|exact zF rfl|exact zG rfl|exact id|(simp only[zA,zB,zC,zD,bytesW];omega)) only[go_sem,c128D0,ep]
   refine ⟨by omega,by omega,⟨_,_,_,rfl,?_⟩⟩
   rw [show listP (x::r) o=some (r,x) by unfold listP; simp [k3,m7]]
   refine ⟨rfl,rfl,?_,fun k hk=>.inl ?_⟩
   ·have:=rd_drop (k:=1) (show Rd _ 1 (.slice (some ad) (x::r).length c) (x::r).length ((x::r).flatMap intE) from hr2) (by simp)
    exact this
   ·rw [← offA_own hk]; rfl
  ·simp (disch:=first|omega|exact zF rfl|exact zG rfl|exact id|(simp only[zA,zB,zC,zD,bytesW];omega)) only[go_sem,ho,k3,m6,m7]
   exact ⟨no (by unfold listP; simp [k3,m6,m7]),hc1⟩
 by_cases k4:o.Kind=4
 ·by_cases m8:o.Method=8
  ·simp (disch:=first|omega|exact zF rfl|exact zG rfl|exact id|(simp only[zA,zB,zC,zD,bytesW];omega)) only[go_sem,ho,k4,m8]
   refine bsW_ones ty66mkI rfl rfl (by decide) (by decide) (intE_one _) ?_
   simp (disch:=first|omega|exact zF rfl|exact zG rfl|exact id|(simp only[zA,zB,zC,zD,bytesW];omega)) only[go_sem]
   refine app fun u w' hu hf hc=>?_
   simp (disch:=first|omega|exact zF rfl|exact zG rfl|exact id|(simp only[zA,zB,zC,zD,bytesW];omega)) only[go_sem]
   exact ⟨⟨u,_,_,rfl,by rw [show listP s o=some (s++[o.Arg],0) by unfold listP; simp [k4,m8]]; exact ⟨rfl,rfl,hu,hf⟩⟩,hc⟩
  by_cases m9:o.Method=9
  ·simp (disch:=first|omega|exact zF rfl|exact zG rfl|exact id|(simp only[zA,zB,zC,zD,bytesW];omega)) only[go_sem,ho,k4,m9]
   refine ⟨fun h0=>⟨emp (List.eq_nil_of_length_eq_zero (by omega)) (by have:s=[]:=List.eq_nil_of_length_eq_zero (by omega); subst this; unfold listP; simp [k4,m9]),hc1⟩,fun h0=>?_⟩
   have h0':0<s.length:=by omega
   obtain ⟨ad,rfl⟩:=hr.ptr h0'
   have hr2:RdS (w.alloc (.cells o.enc.toArray 38)).drew 1 intE (.slice (some ad) s.length c) s:=hr.below hw1.drew (by decide)
   have hcd:Chg (fun k=>(Value.slice (some ad) s.length c).ownBlock=some k) w (w.alloc (.cells o.enc.toArray 38)).drew:=Chg.of_below hw1.drew
   have hne:s≠[]:=fun e=>by subst e; simp at h0'
   have ep:=RdS.int hr2 (k:=s.length - 1) (by omega)
   have ti:((s.length:Int) - 1).toNat=s.length - 1:=by omega
   refine c128draw1 ?_
   simp (disch:=first|omega|exact zF rfl|exact zG rfl|exact id|(simp only[zA,zB,zC,zD,bytesW];omega)) only[go_sem,c128D1,ti,ep]
   have hcap:s.length≤c:=by
    obtain ⟨_,c',e,hc⟩:=hr.form
    cases e; exact hc
   refine ⟨⟨by omega,by omega⟩,⟨by omega,by omega⟩,⟨by omega,by omega⟩,⟨by omega,by omega⟩,⟨_,_,_,rfl,?_⟩⟩
   rw [show listP s o=some (s.dropLast,s.getLast hne) by unfold listP; simp [k4,m9,hne]]
   refine ⟨rfl,(List.getLast_eq_getElem hne).symm,?_,fun k hk=>.inl ?_⟩
   ·have:=rd_take (k:=s.length - 1) (show Rd _ 1 (.slice (some ad) s.length c) s.length (s.flatMap intE) from hr2) (by omega)
    have e:s.dropLast.flatMap intE=(s.flatMap intE).take ((s.length - 1) * 1):=by
     rw [Nat.mul_one,List.dropLast_eq_take]
     exact ints_take s _
    have e2:s.dropLast.length=s.length - 1:=List.length_dropLast
    unfold RdS
    rw [e,e2]
    exact this
   ·rw [← offA_own hk]; rfl
  ·simp (disch:=first|omega|exact zF rfl|exact zG rfl|exact id|(simp only[zA,zB,zC,zD,bytesW];omega)) only[go_sem,ho,k4,m8,m9]
   exact ⟨no (by unfold listP; simp [k4,m8,m9]),hc1⟩
 ·simp (disch:=first|omega|exact zF rfl|exact zG rfl|exact id|(simp only[zA,zB,zC,zD,bytesW];omega)) only[go_sem,ho,k3,k4]
  exact ⟨no (by unfold listP; simp [k3,k4]),hc1⟩
open Go Go.Ann Go.RowKit Go.Shelf
theorem drewN_below{w:World}(q:Nat):Below w.heap.size w (w.drewN q):=⟨rfl,rfl,rfl,Nat.le_refl _,fun _ _=>rfl⟩
theorem bsearch_ok(v:Value)(s:List Int)(x:Int)(w:World)(h:RdS w 1 intE v s)(hv:∀ a n c,v=.slice (some a) n c→n≠0→a.spot=none)(hl:s.length≤1000000)(hs:s.Pairwise (·≤·)) :
  Ret Tryz.prog 150 [v,.int .i64 x] w fun u w'=>u=.tuple #[.int .i64 (s.countP (·<x):Nat),.bool (s.contains x)]∧Below w.heap.size w w':=by
 obtain ⟨a,c,rfl,_⟩:=h.form
 rcases Nat.eq_zero_or_pos s.length with h0 | h0
 ·have e:s=[]:=List.eq_nil_of_length_eq_zero h0
  subst e
  exact (Any.slices_BinarySearch_int_empty layBin a c x w).mono fun e w' ⟨h1,h2⟩=>⟨_,h1,rfl,by rw [h2]; exact Below.refl _ _⟩
 ·obtain ⟨ad,rfl⟩:=h.ptr h0
  have hsp:=hv ad _ _ rfl (by omega)
  have had:ad=⟨ad.block,ad.off,none⟩:=by cases ad; simp only at hsp; subst hsp; rfl
  have hc:∀ j,j<s.length→w.cell? ⟨ad.block,ad.off+j,none⟩=some (.int .i64 (s.getD j 0)):=fun j hj=>by
   have:=RdS.int h hj
   rw [had,Addr.add_lit] at this
   rw [this,List.getD_eq_getElem?_getD,List.getElem?_eq_getElem hj]; rfl
  have:=Any.slices_BinarySearch_int layBin ad.block ad.off s.length c s x w (Nat.le_refl _) (by omega) hc (by rw [List.take_length]; exact hs)
  rw [List.take_length,← had] at this
  exact this.mono fun e w' ⟨h1,q,h2⟩=>⟨_,h1,rfl,by rw [h2]; exact drewN_below q⟩
open Go Go.Ann Go.RowKit Go.Shelf Go.Sort
theorem delete_ok(g cap i:Nat)(s:List Int)(rest:List Value)(w:World)(hB:Blk w g (s.map (Value.int .i64)++rest).toArray 3)(hc:s.length≤cap)(hm:cap≤9223372036854775807)(hi:i<s.length) :
  Ret Tryz.prog 153 [.slice (some ⟨g,0,none⟩) s.length cap,.int .i64 i,.int .i64 (i+1)] w fun u w' =>
   u=.slice (some ⟨g,0,none⟩) (s.length - 1) cap∧(∃ rest',Blk w' g ((s.take i++s.drop (i+1)).map (Value.int .i64)++rest').toArray 3)∧Chg (fun k=>k=g) w w':=by
 have hH:Holds (Value.int .i64) w g 0 s.toArray:=by
  intro j hj
  have hj':j<s.length:=by simpa using hj
  rw [hB.cell,hB.frozen]
  refine ⟨?_,rfl⟩
  rw [List.getElem?_toArray,Nat.zero_add,List.getElem?_append_left (by simpa using hj'),List.getElem?_map,List.getElem?_eq_getElem hj',getElem!_pos s.toArray j hj]
  rfl
 have h:=Any.slices_Delete_int layDel g 0 cap i (i+1) s w hH hc hm (by omega) (by omega)
 refine h.mono ?_
 rintro e w' ⟨rfl,q,rfl⟩
 have hsz:(s.take i++s.drop (i+1)++List.replicate (i+1 - i) 0).toArray.size=s.toArray.size:=by simp; omega
 have hb:=sorted_blk (m:=q) (d:=s.toArray) (rest:=rest) (enc:=Value.int .i64) (by simpa using hB) hsz #[]
 have e:sortWorld (Value.int .i64) w g 0 q (s.take i++s.drop (i+1)++List.replicate (i+1 - i) 0).toArray #[]=putRow (Value.int .i64) (Sort.ahead w q) g 0 (s.take i++s.drop (i+1)++List.replicate (i+1 - i) 0).toArray:=grow_empty _
 rw [e] at hb
 refine ⟨_,rfl,by rw [show i+1 - i=1 by omega],⟨(List.replicate (i+1 - i) (0:Int)).map (Value.int .i64)++rest,?_⟩,hb.2⟩
 have:=hb.1
 simp only [List.toList_toArray,List.map_append,List.append_assoc] at this ⊢
 exact this
open Go Go.Ann Go.RowKit
def StepA(w w':World)(v:Value)(r:Option (List Int × Int))(t:Value):Prop :=
 ∃ u a ok,t=.agg #[u,.int .i64 a,.bool ok]∧(∃ b n c,u=.slice b n c)∧match r with
  | none=>ok=false
  | some (s,n)=>ok=true∧a=n∧RdS w' 1 intE u s∧∀ k,slFoot u k→slFoot v k∨w.heap.size≤k
theorem rnumber_ok(v:Value)(x:Int)(o:OpT)(w:World)(h:RdS w 1 intE v [x]) :
  Ret Tryz.prog 155 [v,.agg o.enc.toArray] w fun u w'=>StepA w w' v (numP x o) u∧Below w.heap.size w w':=by
 obtain ⟨a,c,rfl,_⟩:=h.form
 obtain ⟨p,rfl⟩:=h.ptr (by simp)
 refine ent155 _ _ _ _ ?_
 have ho:=o.at
 have s2:=((St.start (W0:=w)).box o.enc.toArray 38).box #[.slice none 0 0,.int .i64 0,.bool false] 176
 rw [World.size_alloc] at s2
 have ep:=RdS.int (h.below s2.bel (by decide)) (k:=0) (by simp)
 rw [show p.add 0=p from rfl,show ([x]:List Int)[0]=x from rfl] at ep
 have lp:p.block<w.heap.size:=h.blt intE_len (by decide) (by simp)
 have r0:=s2.rules 1 rfl
 have r1:=s2.rules 0 rfl
 have s3:=s2.drew
 have r3:=s3.rules 0 rfl
 by_cases m1:o.Method=1
 ·simp (disch:=first|omega|exact zF rfl|exact zG rfl|exact id|(simp only[zA,zB,zC,zD,bytesW];omega)) only[go_sem,ho,m1,ep,r1]
  have e:numP x o=some ([x],x):=by unfold numP; rw [if_pos m1]
  refine bdW_built (cells:=#[.slice (some p) 1 c,.int .i64 x,.bool true]) (by kernel_rfl) ?_
  simp (disch:=first|omega|exact zF rfl|exact zG rfl|exact id|(simp only[zA,zB,zC,zD,bytesW];omega)) only[go_sem,r1]
  have s5:=s2.fill 0 rfl (cs:=#[.slice (some p) 1 c,.int .i64 x,.bool true]) rfl
  refine ⟨⟨_,_,_,rfl,⟨_,_,_,rfl⟩,?_⟩,s5.bel⟩
  rw [e]
  exact ⟨rfl,rfl,h.below s5.bel (by decide),fun k hk=>.inl hk⟩
 by_cases k1:o.Kind=1
 ·by_cases m2:o.Method=2
  ·simp (disch:=first|omega|exact zF rfl|exact zG rfl|exact id|(simp only[zA,zB,zC,zD,bytesW];omega)) only[go_sem,ho,k1,m2]
   have e:numP x o=some ([o.Arg],0):=by unfold numP; rw [if_neg m1,if_pos ⟨k1,m2⟩]
   refine bsW_ones ty66mkI rfl rfl (by decide) (by decide) (intE_one _) ?_
   simp (disch:=first|omega|exact zF rfl|exact zG rfl|exact id|(simp only[zA,zB,zC,zD,bytesW];omega)) only[go_sem]
   refine bdW_built (cells:=#[.slice (some ⟨w.heap.size+2,0,none⟩) 1 1,.int .i64 0,.bool true]) (by kernel_rfl) ?_
   have s4:=s2.alloc' (.cells #[.int .i64 o.Arg] 3)
   have r4:=s4.rules 0 rfl
   simp (disch:=first|omega|exact zF rfl|exact zG rfl|exact id|(simp only[zA,zB,zC,zD,bytesW];omega)) only[go_sem,r4]
   have hn:RdS _ 1 intE (.slice (some ⟨w.heap.size+2,0,none⟩) 1 1) [o.Arg]:=(int_new (w:=(w.alloc (.cells o.enc.toArray 38)).alloc (.cells #[.slice none 0 0,.int .i64 0,.bool false] 176)) o.Arg (by simp)).chg (S:=fun k=>k=w.heap.size+1) ((Chg.refl _ _).fill (b:=w.heap.size+1) (cs:=#[.slice (some ⟨w.heap.size+2,0,none⟩) 1 1,.int .i64 0,.bool true]) fun _=>rfl) (fun q hq e=>by cases hq; simp at e)
   refine ⟨⟨_,_,_,rfl,⟨_,_,_,rfl⟩,?_⟩,(s4.fill 0 rfl (cs:=#[.slice (some ⟨w.heap.size+2,0,none⟩) 1 1,.int .i64 0,.bool true]) rfl).bel⟩
   rw [e]
   refine ⟨rfl,rfl,hn,fun k hk=>.inr ?_⟩
   have:=slFoot_own hk
   simp only [Value.ownBlock,Option.some.injEq] at this
   omega
  by_cases m3:o.Method=3
  ·simp (disch:=first|omega|exact zF rfl|exact zG rfl|exact id|(simp only[zA,zB,zC,zD,bytesW];omega)) only[go_sem,ho,k1,m3]
   refine c155draw0 ?_
   simp (disch:=first|omega|exact zF rfl|exact zG rfl|exact id|(simp only[zA,zB,zC,zD,bytesW];omega)) only[go_sem,c155D0,ep,ho,k1,m3]
   refine ⟨fun e0=>?_,fun e0=>?_⟩
   ·have e:numP x o=some ([o.Second],1):=by unfold numP; simp [m1,k1,m2,m3,e0]
    refine bsW_ones ty66mkI rfl rfl (by decide) (by decide) (intE_one _) ?_
    simp (disch:=first|omega|exact zF rfl|exact zG rfl|exact id|(simp only[zA,zB,zC,zD,bytesW];omega)) only[go_sem]
    refine bdW_built (cells:=#[.slice (some ⟨w.heap.size+2,0,none⟩) 1 1,.int .i64 1,.bool true]) (by kernel_rfl) ?_
    have s4:=s3.alloc' (.cells #[.int .i64 o.Second] 3)
    have r4:=s4.rules 0 rfl
    simp (disch:=first|omega|exact zF rfl|exact zG rfl|exact id|(simp only[zA,zB,zC,zD,bytesW];omega)) only[go_sem,r4]
    have hn:RdS _ 1 intE (.slice (some ⟨w.heap.size+2,0,none⟩) 1 1) [o.Second]:=(int_new (w:=(w.alloc (.cells o.enc.toArray 38)).alloc (.cells #[.slice none 0 0,.int .i64 0,.bool false] 176)) o.Second (by simp)).chg (S:=fun k=>k=w.heap.size+1) (((Chg.refl _ _).drew).fill (b:=w.heap.size+1) (cs:=#[.slice (some ⟨w.heap.size+2,0,none⟩) 1 1,.int .i64 1,.bool true]) fun _=>rfl) (fun q hq e=>by cases hq; simp at e)
    refine ⟨⟨_,_,_,rfl,⟨_,_,_,rfl⟩,?_⟩,(s4.fill 0 rfl (cs:=#[.slice (some ⟨w.heap.size+2,0,none⟩) 1 1,.int .i64 1,.bool true]) rfl).bel⟩
    rw [e]
    refine ⟨rfl,rfl,hn,fun k hk=>.inr ?_⟩
    have:=slFoot_own hk
    simp only [Value.ownBlock,Option.some.injEq] at this
    omega
   ·have e:numP x o=some ([x],0):=by unfold numP; simp [m1,k1,m2,m3,e0]
    refine bdW_built (cells:=#[.slice (some p) 1 c,.int .i64 0,.bool true]) (by kernel_rfl) ?_
    simp (disch:=first|omega|exact zF rfl|exact zG rfl|exact id|(simp only[zA,zB,zC,zD,bytesW];omega)) only[go_sem,r3]
    have s5:=s3.fill 0 rfl (cs:=#[.slice (some p) 1 c,.int .i64 0,.bool true]) rfl
    refine ⟨⟨_,_,_,rfl,⟨_,_,_,rfl⟩,?_⟩,s5.bel⟩
    rw [e]
    exact ⟨rfl,rfl,h.below s5.bel (by decide),fun k hk=>.inl hk⟩
  ·simp (disch:=first|omega|exact zF rfl|exact zG rfl|exact id|(simp only[zA,zB,zC,zD,bytesW];omega)) only[go_sem,ho,k1,m1,m2,m3]
   refine c155draw0 ?_
   simp (disch:=first|omega|exact zF rfl|exact zG rfl|exact id|(simp only[zA,zB,zC,zD,bytesW];omega)) only[go_sem,c155D0,ep,ho,k1,m1,m2,m3]
   have e:numP x o=none:=by unfold numP; simp [k1,m1,m2,m3]
   refine bdW_built (cells:=#[.slice none 0 0,.int .i64 0,.bool false]) (by kernel_rfl) ?_
   simp (disch:=first|omega|exact zF rfl|exact zG rfl|exact id|(simp only[zA,zB,zC,zD,bytesW];omega)) only[go_sem,r3]
   exact ⟨⟨_,_,_,rfl,⟨_,_,_,rfl⟩,by rw [e]⟩,(s3.fill 0 rfl (cs:=#[.slice none 0 0,.int .i64 0,.bool false]) rfl).bel⟩
 by_cases k2:o.Kind=2
 ·by_cases m4:o.Method=4
  ·simp (disch:=first|omega|exact zF rfl|exact zG rfl|exact id|(simp only[zA,zB,zC,zD,bytesW];omega)) only[go_sem,ho,k2,m4]
   refine c155draw0 ?_
   simp (disch:=first|omega|exact zF rfl|exact zG rfl|exact id|(simp only[zA,zB,zC,zD,bytesW];omega)) only[go_sem,c155D0,ep,ho,k2,m4]
   have e:numP x o=some ([IntKind.i64.wrap (x+1)],0):=by unfold numP; simp [k2,m4]
   refine bsW_ones ty66mkI rfl rfl (by decide) (by decide) (intE_one _) ?_
   simp (disch:=first|omega|exact zF rfl|exact zG rfl|exact id|(simp only[zA,zB,zC,zD,bytesW];omega)) only[go_sem]
   refine bdW_built (cells:=#[.slice (some ⟨w.heap.size+2,0,none⟩) 1 1,.int .i64 0,.bool true]) (by kernel_rfl) ?_
   have s4:=s3.alloc' (.cells #[.int .i64 (IntKind.i64.wrap (x+1))] 3)
   have r4:=s4.rules 0 rfl
   simp (disch:=first|omega|exact zF rfl|exact zG rfl|exact id|(simp only[zA,zB,zC,zD,bytesW];omega)) only[go_sem,r4]
   have hn:RdS _ 1 intE (.slice (some ⟨w.heap.size+2,0,none⟩) 1 1) [IntKind.i64.wrap (x+1)]:=(int_new (w:=(w.alloc (.cells o.enc.toArray 38)).alloc (.cells #[.slice none 0 0,.int .i64 0,.bool false] 176)) (IntKind.i64.wrap (x+1)) (by simp)).chg (S:=fun k=>k=w.heap.size+1) (((Chg.refl _ _).drew).fill (b:=w.heap.size+1) (cs:=#[.slice (some ⟨w.heap.size+2,0,none⟩) 1 1,.int .i64 0,.bool true]) fun _=>rfl) (fun q hq e=>by cases hq; simp at e)
   refine ⟨⟨_,_,_,rfl,⟨_,_,_,rfl⟩,?_⟩,(s4.fill 0 rfl (cs:=#[.slice (some ⟨w.heap.size+2,0,none⟩) 1 1,.int .i64 0,.bool true]) rfl).bel⟩
   rw [e]
   refine ⟨rfl,rfl,hn,fun k hk=>.inr ?_⟩
   have:=slFoot_own hk
   simp only [Value.ownBlock,Option.some.injEq] at this
   omega
  by_cases m5:o.Method=5
  ·simp (disch:=first|omega|exact zF rfl|exact zG rfl|exact id|(simp only[zA,zB,zC,zD,bytesW];omega)) only[go_sem,ho,k2,m5]
   refine c155draw0 ?_
   simp (disch:=first|omega|exact zF rfl|exact zG rfl|exact id|(simp only[zA,zB,zC,zD,bytesW];omega)) only[go_sem,c155D0,ep,ho,k2,m5]
   have e:numP x o=some ([IntKind.i64.wrap (x - 1)],0):=by unfold numP; simp [k2,m5]
   refine bsW_ones ty66mkI rfl rfl (by decide) (by decide) (intE_one _) ?_
   simp (disch:=first|omega|exact zF rfl|exact zG rfl|exact id|(simp only[zA,zB,zC,zD,bytesW];omega)) only[go_sem]
   refine bdW_built (cells:=#[.slice (some ⟨w.heap.size+2,0,none⟩) 1 1,.int .i64 0,.bool true]) (by kernel_rfl) ?_
   have s4:=s3.alloc' (.cells #[.int .i64 (IntKind.i64.wrap (x - 1))] 3)
   have r4:=s4.rules 0 rfl
   simp (disch:=first|omega|exact zF rfl|exact zG rfl|exact id|(simp only[zA,zB,zC,zD,bytesW];omega)) only[go_sem,r4]
   have hn:RdS _ 1 intE (.slice (some ⟨w.heap.size+2,0,none⟩) 1 1) [IntKind.i64.wrap (x - 1)]:=(int_new (w:=(w.alloc (.cells o.enc.toArray 38)).alloc (.cells #[.slice none 0 0,.int .i64 0,.bool false] 176)) (IntKind.i64.wrap (x - 1)) (by simp)).chg (S:=fun k=>k=w.heap.size+1) (((Chg.refl _ _).drew).fill (b:=w.heap.size+1) (cs:=#[.slice (some ⟨w.heap.size+2,0,none⟩) 1 1,.int .i64 0,.bool true]) fun _=>rfl) (fun q hq e=>by cases hq; simp at e)
   refine ⟨⟨_,_,_,rfl,⟨_,_,_,rfl⟩,?_⟩,(s4.fill 0 rfl (cs:=#[.slice (some ⟨w.heap.size+2,0,none⟩) 1 1,.int .i64 0,.bool true]) rfl).bel⟩
   rw [e]
   refine ⟨rfl,rfl,hn,fun k hk=>.inr ?_⟩
   have:=slFoot_own hk
   simp only [Value.ownBlock,Option.some.injEq] at this
   omega
  ·simp (disch:=first|omega|exact zF rfl|exact zG rfl|exact id|(simp only[zA,zB,zC,zD,bytesW];omega)) only[go_sem,ho,k2,m1,m4,m5]
   refine c155draw0 ?_
   simp (disch:=first|omega|exact zF rfl|exact zG rfl|exact id|(simp only[zA,zB,zC,zD,bytesW];omega)) only[go_sem,c155D0,ep,ho,k2,m1,m4,m5]
   have e:numP x o=none:=by unfold numP; simp [k2,m1,m4,m5]
   refine bdW_built (cells:=#[.slice none 0 0,.int .i64 0,.bool false]) (by kernel_rfl) ?_
   simp (disch:=first|omega|exact zF rfl|exact zG rfl|exact id|(simp only[zA,zB,zC,zD,bytesW];omega)) only[go_sem,r3]
   exact ⟨⟨_,_,_,rfl,⟨_,_,_,rfl⟩,by rw [e]⟩,(s3.fill 0 rfl (cs:=#[.slice none 0 0,.int .i64 0,.bool false]) rfl).bel⟩
 ·simp (disch:=first|omega|exact zF rfl|exact zG rfl|exact id|(simp only[zA,zB,zC,zD,bytesW];omega)) only[go_sem,ho,k1,k2,m1]
  have e:numP x o=none:=by unfold numP; simp [k1,k2,m1]
  refine c155draw0 ?_
  simp (disch:=first|omega|exact zF rfl|exact zG rfl|exact id|(simp only[zA,zB,zC,zD,bytesW];omega)) only[go_sem,c155D0,ep,ho,k1,k2,m1]
  refine bdW_built (cells:=#[.slice none 0 0,.int .i64 0,.bool false]) (by kernel_rfl) ?_
  simp (disch:=first|omega|exact zF rfl|exact zG rfl|exact id|(simp only[zA,zB,zC,zD,bytesW];omega)) only[go_sem,r3]
  exact ⟨⟨_,_,_,rfl,⟨_,_,_,rfl⟩,by rw [e]⟩,(s3.fill 0 rfl (cs:=#[.slice none 0 0,.int .i64 0,.bool false]) rfl).bel⟩
open Go Go.Ann Go.RowKit
theorem without_ok(v:Value)(s:List Int)(n:Int)(w:World)(h:RdS w 1 intE v s)(hl:s.length≤1000000) :
  Ret Tryz.prog 156 [v,.int .i64 n] w fun u w'=>w'.ownsRow w.heap.size 3 1 u (s.filter (fun x=>!decide (x=n))).length ((s.filter (fun x=>!decide (x=n))).flatMap intE)∧Below w.heap.size w w':=by
 obtain ⟨a,c,rfl,_⟩:=h.form
 refine ent156 _ _ _ _ ?_
 simp (disch:=first|omega|exact zF rfl|exact zG rfl|exact id|(simp only[zA,zB,zC,zD,bytesW];omega)) only[go_sem]
 have s1:=(St.start (W0:=w)).nilRow 3 1
 refine W_loopU (fun x:Nat × Value=>[(5,x.2),(6,.int .i64 x.1)]) (fun x w'=>St w w' (fun _=>False) [.row x.2 3 1 ((s.take x.1).filter (fun x=>!decide (x=n))).length (((s.take x.1).filter (fun x=>!decide (x=n))).flatMap intE)] []∧x.1≤s.length) (fun x=>s.length - x.1) (0,.slice none 0 0) rfl ⟨s1,Nat.zero_le _⟩ ?_
 rintro ⟨k,u⟩ w2 ⟨s2,hk⟩
 simp only at s2 hk
 have hfl:=List.length_filter_le (fun x=>!decide (x=n)) (s.take k)
 rw [List.length_take] at hfl
 obtain ⟨au,cu,rfl,_⟩:=own_slice (s2.row 0 rfl)
 by_cases hlt:k<s.length
 ·have hlt':(k:Int)<s.length:=by omega
  obtain ⟨p,rfl⟩:=h.ptr (by omega)
  have ek:=RdS.int (h.below s2.bel (by decide)) hlt
  simp (disch:=first|omega|exact zF rfl|exact zG rfl|exact id|(simp only[zA,zB,zC,zD,bytesW];omega)) only[go_sem,hlt',ek]
  refine ⟨by omega,fun hne=>?_,fun heq=>⟨⟨by omega,by omega⟩,(k+1,.slice au ((s.take k).filter (fun x=>!decide (x=n))).length cu),rfl,⟨?_,by simp only; omega⟩,by simp only; omega⟩⟩
  ·refine ⟨by omega,?_⟩
   refine bsW_ones ty66mkI rfl rfl (by decide) (by decide) (intE_one _) ?_
   simp (disch:=first|omega|exact zF rfl|exact zG rfl|exact id|(simp only[zA,zB,zC,zD,bytesW];omega)) only[go_sem]
   have hx:Rd (w2.alloc (.cells #[.int .i64 s[k]] 3)) 1 (.slice (some ⟨w2.heap.size,0,none⟩) 1 1) 1 (intE s[k]):=rd_new (n:=1) (cs:=#[.int .i64 s[k]]) rfl
   refine (s2.alloc' (.cells #[.int .i64 s[k]] 3)).append 0 rfl ty66mkI rfl (by decide) hx (intE_one s[k]) (by omega) (by omega) ?_
   intro v6 w6 s6 c6
   simp only [List.set_cons_zero] at s6
   simp (disch:=first|omega|exact zF rfl|exact zG rfl|exact id|(simp only[zA,zB,zC,zD,bytesW];omega)) only[go_sem]
   have e:(s.take (k+1)).filter (fun x=>!decide (x=n))=(s.take k).filter (fun x=>!decide (x=n))++[s[k]]:=by
    rw [List.take_succ_eq_append_getElem hlt,List.filter_append]; simp [hne]
   refine ⟨⟨by omega,by omega⟩,(k+1,v6),rfl,⟨?_,by simp only; omega⟩,by simp only; omega⟩
   simp only
   rw [e,List.length_append,List.flatMap_append]
   simpa using s6
  ·have e:(s.take (k+1)).filter (fun x=>!decide (x=n))=(s.take k).filter (fun x=>!decide (x=n)):=by
    rw [List.take_succ_eq_append_getElem hlt,List.filter_append]; simp [heq]
   simp only
   rw [e]; exact s2
 ·have hlt':¬ (k:Int)<s.length:=by omega
  simp (disch:=first|omega|exact zF rfl|exact zG rfl|exact id|(simp only[zA,zB,zC,zD,bytesW];omega)) only[go_sem,hlt']
  have e:=s2.row 0 rfl
  rw [List.take_of_length_le (by omega)] at e ⊢
  exact ⟨e,s2.bel⟩
open Go Go.Ann Go.RowKit Go.Shelf
theorem setCells_blk{g:Nat}{e:TypeId}:∀ (vs mid pre post:List Value) (o:Nat) (w:World),Blk w g (pre++(mid++post)).toArray e→mid.length=vs.length→pre.length=o →
  Blk (w.setCells g o vs) g (pre++(vs++post)).toArray e∧Chg (fun k=>k=g) w (w.setCells g o vs)
 | [],[],pre,post,o,w,h,_,_=>⟨h,Chg.refl _ _⟩
 | [],_::_,pre,post,o,w,h,hl,_=>by simp at hl
 | _::_,[],pre,post,o,w,h,hl,_=>by simp at hl
 | v::vs,m::mid,pre,post,o,w,h,hl,ho=>by
  have h1:Blk (w.setCell ⟨g,o,none⟩ v) g ((pre++[v])++(mid++post)).toArray e:=by
   have:=h.set o v
   rw [List.setIfInBounds_toArray,List.set_append_right _ _ (by omega),ho,Nat.sub_self] at this
   simpa using this
  obtain ⟨h2,h3⟩:=setCells_blk vs mid (pre++[v]) post (o+1) _ h1 (by simpa using hl) (by simp [ho])
  refine ⟨by simpa [World.setCells] using h2,?_⟩
  simp only [World.setCells]
  exact Chg.trans ((Chg.refl (fun k=>k=g) w).setCell ⟨g,o,none⟩ v (fun _=>rfl)) h3
theorem intE_map(s:List Int):s.flatMap intE=s.map (Value.int .i64):=by
 induction s with
 | nil=>rfl
 | cons x s ih=>rw [List.flatMap_cons,ih]; rfl
theorem rd_of_blk{w:World}{g cap:Nat}{s:List Int}{rest:List Value}{t:TypeId}(hB:Blk w g (s.map (Value.int .i64)++rest).toArray t)(hc:s.length≤cap){n:Nat}(hn:n=s.length):RdS w 1 intE (.slice (some ⟨g,0,none⟩) n cap) s:=by
 subst hn
 refine ⟨by rw [intE_map]; simp,_,cap,rfl,hc,fun _=>⟨_,rfl,fun j u hu=>?_⟩⟩
 rw [intE_map] at hu
 rw [Addr.add_lit,Nat.zero_add,hB.cell,List.getElem?_toArray,List.getElem?_append_left (by have:=(List.getElem?_eq_some_iff.1 hu).1; exact this)]
 exact hu
theorem arr_app(l:List Value)(A:Array Value):l.toArray++A=(l++A.toList).toArray:=by apply Array.ext'; simp
theorem blk_new{w:World}{cs:Array Value}{t:TypeId}{l:List Value}{b:Nat}(hb:b=w.heap.size)(e:cs.toList=l):Blk (w.alloc (.cells cs t)) b l.toArray t:=by subst hb e; exact Blk.new
theorem zeroC_len(n:Nat):(Builtin.zeroCells (Value.int .i64 0).cells n).toList.length=n:=by
 simp [Builtin.zeroCells,Value.cells]
theorem ins_ok(v:Value)(s:List Int)(i:Nat)(x:Int)(b:Nat)(w:World)(B:Nat)(hB:B≤w.heap.size)(h:w.ownsRow B 3 1 v s.length (s.flatMap intE))(hx:Blk w b #[.int .i64 x] 3)(hne:v.ownBlock≠some b)(hi:i≤s.length)(hl:s.length≤1000000) :
  Ret Tryz.prog 152 [v,.int .i64 i,.slice (some ⟨b,0,none⟩) 1 1] w fun u w'=>RdS w' 1 intE u (s.take i++x::s.drop i)∧(∀ k,slFoot u k→v.ownBlock=some k∨w.heap.size≤k)∧Chg (fun k=>v.ownBlock=some k) w w':=by
 have h1v:∀ u∈[Value.int .i64 x],u.oneCell'=true:=by intro u hu; rw [List.mem_singleton] at hu; subst hu; rfl
 have hvs:∀ j u,[Value.int .i64 x][j]?=some u→w.cell? ⟨b,0+j,none⟩=some u:=fun j u hj=>by rw [Nat.zero_add,hx.cell]; simpa using hj
 have hcl:(s.map (Value.int .i64)).length=s.length:=by simp
 have h1c:∀ u∈s.map (Value.int .i64),u.oneCell'=true:=fun u hu=>by obtain ⟨y,_,rfl⟩:=List.mem_map.1 hu; rfl
 have hlen:(s.take i++x::s.drop i).length=s.length+1:=by simp; omega
 rw [intE_map] at h
 rcases h.2 with ⟨rfl,h0⟩ | ⟨g,c,cur,rfl,hg,hb,hnc,hcm,hcs,htk⟩
 ·have hs:s=[]:=List.eq_nil_of_length_eq_zero h0
  subst hs
  obtain rfl:i=0:=by simpa using hi
  have:=Any2.slices_Insert_int_end_grow layIns none 0 0 b 0 1 1 [] [.int .i64 x] w (by omega) (by omega) (by omega) (by omega) rfl rfl (fun _=>rfl) (fun a ha=>by cases ha) hvs h1v
  refine this.mono ?_
  rintro e w' ⟨rfl,rfl⟩
  refine ⟨_,rfl,rd_of_blk (s:=[x]) (rest:=(Builtin.zeroCells (Value.int .i64 0).cells (grownCap w (0+1) 0 3 - (0+1))).toList) (t:=3) ?_ (by simpa using grownCap_ge w (0+1) 0 _) rfl,fun k hk=>.inr ?_,Chg.of_below ((Below.refl _ w).drew.alloc (Nat.le_refl _) _)⟩
  ·exact blk_new rfl (by rw [arr_app]; rfl)
  ·have:=slFoot_own hk
   simp only [Value.ownBlock,Option.some.injEq] at this
   omega
 ·have hlt:g<w.heap.size:=Blk.lt hb
  have hgb:b≠g:=fun e=>hne (by rw [e]; rfl)
  simp only [Nat.mul_one] at hcs htk
  have hcur:cur=(s.map (Value.int .i64)++cur.toList.drop s.length).toArray:=by
   apply Array.ext'
   rw [List.toList_toArray,← htk,List.take_append_drop]
  obtain ⟨tl,htl⟩:∃ tl,tl=cur.toList.drop s.length:=⟨_,rfl⟩
  rw [← htl] at hcur
  have htll:tl.length=c - s.length:=by rw [htl,List.length_drop,Array.length_toList,hcs]
  have hbb:Blk w g (s.map (Value.int .i64)++tl).toArray 3:=by rw [← hcur]; exact hb
  have hmax:c≤9223372036854775807:=hcm
  have hcells:∀ j u,(s.map (Value.int .i64))[j]?=some u→w.cell? ⟨g,0+j,none⟩=some u:=fun j u hj=>by
   rw [Nat.zero_add,hbb.cell,List.getElem?_toArray,List.getElem?_append_left (List.getElem?_eq_some_iff.1 hj).1]; exact hj
  have hsome:∀ j,j<c→(w.cell? ⟨g,0+j,none⟩).isSome=true:=fun j hj=>by
   rw [Nat.zero_add,hbb.cell,List.getElem?_toArray,List.getElem?_eq_getElem (by simp; omega)]; rfl
  have hfz:∀ j,w.frozen? ⟨g,j,none⟩=false:=hbb.frozen
  have own:∀ {k n c'},slFoot (.slice (some ⟨g,0,none⟩) n c') k→(Value.slice (some ⟨g,0,none⟩) s.length c).ownBlock=some k∨w.heap.size≤k:=fun hk=>.inl (by have:=slFoot_own hk; simpa [Value.ownBlock] using this)
  have new:∀ {k n c'},slFoot (.slice (some ⟨w.heap.size,0,none⟩) n c') k→(Value.slice (some ⟨g,0,none⟩) s.length c).ownBlock=some k∨w.heap.size≤k:=fun hk=>.inr (by have:=slFoot_own hk; simp only [Value.ownBlock,Option.some.injEq] at this; omega)
  have chgo:∀ {w':World},Chg (fun k=>k=g) w w'→Chg (fun k=>(Value.slice (some ⟨g,0,none⟩) s.length c).ownBlock=some k) w w':=fun hc=>⟨hc.os,hc.tape,hc.output,hc.size,fun k hk hS=>hc.block k hk fun e=>hS (by rw [e]; rfl)⟩
  rcases Nat.lt_or_ge i s.length with hin | hin
  ·have e1:s.map (Value.int .i64)=(s.take i).map (Value.int .i64)++(s.drop i).map (Value.int .i64):=by rw [← List.map_append,List.take_append_drop]
   rcases Nat.lt_or_ge c (s.length+1) with hroom | hroom
   ·have:=Any2.slices_Insert_int_grow layIns g 0 s.length c i b 0 1 1 (s.map (Value.int .i64)) [.int .i64 x] w hin (by omega) hnc hroom (by omega) hcl rfl hcells hvs h1c h1v
    refine this.mono ?_
    rintro e w' ⟨rfl,rfl⟩
    obtain ⟨G,hG⟩:∃ G,G=grownCap w (s.length+1) c 3:=⟨_,rfl⟩
    have hGe:s.length+1≤G:=by rw [hG]; exact grownCap_ge w (s.length+1) c _
    obtain ⟨Z1,hZ1⟩:∃ Z,Z=(Builtin.zeroCells (Value.int .i64 0).cells (s.length+1 - i)).toList:=⟨_,rfl⟩
    obtain ⟨Z2,hZ2⟩:∃ Z,Z=(Builtin.zeroCells (Value.int .i64 0).cells (G - (s.length+1))).toList:=⟨_,rfl⟩
    have lz1:Z1.length=s.length+1 - i:=by rw [hZ1]; exact zeroC_len _
    obtain ⟨z,Z1',rfl⟩:∃ z Z,Z1=z::Z:=by
     cases Z1 with
     | nil=>simp at lz1; omega
     | cons z Z=>exact ⟨z,Z,rfl⟩
    have b0:Blk (w.alloc (.cells (((s.map (Value.int .i64)).take i).toArray++Builtin.zeroCells (Value.int .i64 0).cells (s.length+1 - i)++Builtin.zeroCells (Value.int .i64 0).cells (G - (s.length+1))) 3)) w.heap.size ((s.take i).map (Value.int .i64)++([z]++(Z1'++Z2))).toArray 3:=by
     refine blk_new rfl ?_
     rw [arr_app,arr_app,← hZ1,← hZ2,← List.map_take]
     simp
    have hlen1:((s.take i).map (Value.int .i64)).length=i:=by simp; omega
    obtain ⟨b1,c1⟩:=setCells_blk [Value.int .i64 x] [z] ((s.take i).map (Value.int .i64)) (Z1'++Z2) i _ b0.drew rfl hlen1
    have b1':=b1
    rw [← List.append_assoc] at b1'
    obtain ⟨b2,c2⟩:=setCells_blk ((s.drop i).map (Value.int .i64)) Z1' ((s.take i).map (Value.int .i64)++[Value.int .i64 x]) Z2 (i+1) _ b1'.drew (by simp at lz1 ⊢; omega) (by simp; omega)
    rw [← List.map_drop,show layIns_ren.t 3=3 from rfl]
    refine ⟨_,rfl,rd_of_blk (s:=s.take i++x::s.drop i) (rest:=Z2) (t:=3) (by rw [← hG]; simpa using b2) (by rw [hlen]; exact grownCap_ge w (s.length+1) c _) hlen.symm,fun k hk=>new hk,?_⟩
    rw [← hG]
    have hdr:∀ {S:Nat→Prop} {a:World},Chg S a a.drew:=fun {S a}=>(Chg.refl S a).drew
    have cc:Chg (fun k=>k=w.heap.size) (w.alloc (.cells (((s.map (Value.int .i64)).take i).toArray++Builtin.zeroCells (Value.int .i64 0).cells (s.length+1 - i)++Builtin.zeroCells (Value.int .i64 0).cells (G - (s.length+1))) 3)) _:=hdr.trans (c1.trans (hdr.trans c2))
    exact Chg.of_below (((Below.refl _ w).alloc (Nat.le_refl _) _).trans (cc.below (by simp) fun k hk e=>by omega))
   ·have hmid:∃ t0 tl',tl=t0::tl':=by
     cases tl with
     | nil=>simp at htll; omega
     | cons t0 tl'=>exact ⟨t0,tl',rfl⟩
    obtain ⟨t0,tl',rfl⟩:=hmid
    have hshA:w.shape? b=some (3,1):=by unfold World.shape?; rw [hx]; rfl
    have hshB:w.shape? g=some (3,cur.size):=by unfold World.shape?; rw [hb]
    have:=Any2.slices_Insert_int_shift layIns g 0 s.length c i b 0 1 1 (s.map (Value.int .i64)) [.int .i64 x] w hin (by omega) hroom hmax hgb hcl rfl hcells (fun j hj=>hsome j (by omega)) (fun j _=>hfz _) hvs h1c h1v _ _ _ _ hshA hshB (by omega) (hx.frozen 0) (hx.frozen 1)
    refine this.mono ?_
    rintro e w' ⟨rfl,rfl⟩
    have hdi:(s.drop i).map (Value.int .i64)=Value.int .i64 s[i]::(s.drop (i+1)).map (Value.int .i64):=by rw [List.drop_eq_getElem_cons hin]; rfl
    have b0:Blk w g (((s.take i).map (Value.int .i64)++[Value.int .i64 s[i]])++(((s.drop (i+1)).map (Value.int .i64)++[t0])++tl')).toArray 3:=by
     have:=hbb
     rw [e1,hdi] at this
     simpa using this
    obtain ⟨b1,c1⟩:=setCells_blk ((s.drop i).map (Value.int .i64)) _ _ _ (i+1) _ b0.drew (by simp; omega) (by simp; omega)
    have b1':Blk (w.drew.setCells g (i+1) ((s.drop i).map (Value.int .i64))) g ((s.take i).map (Value.int .i64)++([Value.int .i64 s[i]]++((s.drop i).map (Value.int .i64)++tl'))).toArray 3:=by simpa using b1
    obtain ⟨b2,c2⟩:=setCells_blk [Value.int .i64 x] _ _ _ i _ b1' rfl (by simp; omega)
    rw [← List.map_drop,Nat.zero_add,Nat.zero_add]
    refine ⟨_,rfl,rd_of_blk (s:=s.take i++x::s.drop i) (rest:=tl') (t:=3) (by simpa using b2) (by rw [hlen]; exact hroom) hlen.symm,fun k hk=>own hk,chgo ((Chg.refl _ w).drew.trans (c1.trans c2))⟩
  ·obtain rfl:i=s.length:=by omega
   have e2:s.take s.length++x::s.drop s.length=s++[x]:=by rw [List.take_length,List.drop_length]
   rw [e2] at hlen ⊢
   rcases Nat.lt_or_ge c (s.length+1) with hroom | hroom
   ·have:=Any2.slices_Insert_int_end_grow layIns (some ⟨g,0,none⟩) s.length c b 0 1 1 (s.map (Value.int .i64)) [.int .i64 x] w (by omega) hnc hroom (by omega) hcl rfl (fun h=>by cases h) (fun a ha j u hj=>by cases ha; rw [Addr.add_lit]; exact hcells j u hj) hvs h1v
    refine this.mono ?_
    rintro e w' ⟨rfl,rfl⟩
    refine ⟨_,rfl,rd_of_blk (s:=s++[x]) (rest:=(Builtin.zeroCells (Value.int .i64 0).cells (grownCap w (s.length+1) c 3 - (s.length+1))).toList) (t:=3) ?_ (by rw [hlen]; exact grownCap_ge w (s.length+1) c _) hlen.symm,fun k hk=>new hk,Chg.of_below ((Below.refl _ w).drew.alloc (Nat.le_refl _) _)⟩
    refine blk_new rfl ?_
    rw [arr_app,List.map_append]; rfl
   ·have hmid:∃ t0 tl',tl=t0::tl':=by
     cases tl with
     | nil=>simp at htll; omega
     | cons t0 tl'=>exact ⟨t0,tl',rfl⟩
    obtain ⟨t0,tl',rfl⟩:=hmid
    have:=Any2.slices_Insert_int_end_room layIns g 0 s.length c b 0 1 1 [.int .i64 x] w (by omega) hroom hmax rfl (fun j hj=>by have:=hsome (s.length+j) (by omega); rwa [← Nat.add_assoc] at this) (fun j _=>hfz _) hvs h1v
    refine this.mono ?_
    rintro e w' ⟨rfl,rfl⟩
    obtain ⟨b1,c1⟩:=setCells_blk [Value.int .i64 x] [t0] (s.map (Value.int .i64)) tl' s.length w hbb rfl (by simp)
    rw [Nat.zero_add]
    refine ⟨_,rfl,rd_of_blk (s:=s++[x]) (rest:=tl') (t:=3) (by rw [List.map_append]; simpa using b1) (by rw [hlen]; exact hroom) hlen.symm,fun k hk=>own hk,chgo c1⟩
open Go Go.Ann Go.RowKit Go.Shelf
def insP(s:List Int)(x:Int):List Int:=s.take (s.countP (·<x))++x::s.drop (s.countP (·<x))
def delP(s:List Int)(x:Int):List Int:=s.filter (fun y=>!decide (y=x))
def setP(s:List Int)(o:OpT):Option (List Int × Int) :=
 if o.Method=12 then some (s,if o.Arg∈s then 1 else 0)
 else if o.Method=10 then (if o.Arg∈s then some (s,0) else some (insP s o.Arg,1))
 else if o.Method=11 then (if o.Arg∈s then some (delP s o.Arg,1) else some (s,0))
 else none
theorem count_zero{x y:Int}{r:List Int}(h:∀ a∈r,y<a)(hx:x≤y):r.countP (·<x)=0:=by
 rw [List.countP_eq_zero]
 intro a ha
 have:=h a ha
 simp; omega
theorem insP_cons_lt{y x:Int}{r:List Int}(h:y<x):insP (y::r) x=y::insP r x:=by
 unfold insP
 rw [List.countP_cons_of_pos (by simpa using h)]
 rfl
theorem insP_cons_ge{y x:Int}{r:List Int}(hs:∀ a∈r,y<a)(h:x≤y):insP (y::r) x=x::y::r:=by
 unfold insP
 rw [List.countP_cons_of_neg (by simp; omega),count_zero hs h]
 rfl
theorem insP_mem{x a:Int}{s:List Int}:a∈insP s x↔a=x∨a∈s:=by
 unfold insP
 rw [List.mem_append,List.mem_cons]
 have:a∈s↔a∈s.take (s.countP (·<x))∨a∈s.drop (s.countP (·<x)):=by rw [← List.mem_append,List.take_append_drop]
 rw [this]
 constructor
 ·rintro (h | h | h)
  ·exact .inr (.inl h)
  ·exact .inl h
  ·exact .inr (.inr h)
 ·rintro (h | h | h)
  ·exact .inr (.inl h)
  ·exact .inl h
  ·exact .inr (.inr h)
theorem insP_sorted{x:Int}:∀ {s:List Int},s.Pairwise (· < ·)→x ∉ s→(insP s x).Pairwise (· < ·)
 | [],_,_=>by simp [insP]
 | y::r,hs,hx=>by
  obtain ⟨h1,h2⟩:=List.pairwise_cons.1 hs
  have hne:x≠y:=fun e=>hx (by rw [e]; exact List.mem_cons_self ..)
  rcases Int.lt_or_le y x with h | h
  ·rw [insP_cons_lt h]
   refine List.pairwise_cons.2 ⟨fun a ha=>?_,insP_sorted h2 fun hm=>hx (List.mem_cons_of_mem _ hm)⟩
   rcases insP_mem.1 ha with e | ha
   ·omega
   ·exact h1 a ha
  ·rw [insP_cons_ge h1 h]
   refine List.pairwise_cons.2 ⟨fun a ha=>?_,hs⟩
   rcases List.mem_cons.1 ha with e | ha
   ·omega
   ·have:=h1 a ha; omega
theorem delP_sorted{x:Int}{s:List Int}(hs:s.Pairwise (· < ·)):(delP s x).Pairwise (· < ·):=hs.filter _
theorem delP_cut{x:Int}:∀ {s:List Int},s.Pairwise (· < ·)→x∈s→s.countP (·<x)<s.length∧s.take (s.countP (·<x))++s.drop (s.countP (·<x)+1)=delP s x
 | y::r,hs,hx=>by
  obtain ⟨h1,h2⟩:=List.pairwise_cons.1 hs
  rcases Int.lt_or_le y x with h | h
  ·have hr:x∈r:=by
    rcases List.mem_cons.1 hx with e | e
    ·omega
    ·exact e
   obtain ⟨i1,i2⟩:=delP_cut h2 hr
   rw [List.countP_cons_of_pos (by simpa using h)]
   refine ⟨by simp; omega,?_⟩
   rw [List.take_succ_cons,List.drop_succ_cons,List.cons_append,i2]
   unfold delP
   rw [List.filter_cons_of_pos (by simp; omega)]
  ·have e:x=y:=by
    rcases List.mem_cons.1 hx with e | e
    ·exact e
    ·have:=h1 x e; omega
   subst e
   rw [List.countP_cons_of_neg (by simp),count_zero h1 (Int.le_refl _)]
   refine ⟨by simp,?_⟩
   unfold delP
   rw [List.filter_cons_of_neg (by simp),List.take_zero,List.nil_append,List.drop_succ_cons,List.drop_zero]
   exact (List.filter_eq_self.2 fun a ha=>by have:=h1 a ha; simp; omega).symm
theorem flag_ok(b:Bool)(w:World):Ret Tryz.prog 151 [.bool b] w fun u w'=>u=.int .i64 (if b=true then 1 else 0)∧w'=w:=by
 refine ent151 _ _ _ ?_
 cases b
 ·simp (disch:=first|omega|exact zF rfl|exact zG rfl|exact id|(simp only[zA,zB,zC,zD,bytesW];omega)) only[go_sem]
 ·simp (disch:=first|omega|exact zF rfl|exact zG rfl|exact id|(simp only[zA,zB,zC,zD,bytesW];omega)) only[go_sem]
theorem own_blk{w:World}{B n:Nat}{v:Value}{s:List Int}(h:w.ownsRow B 3 1 v n (s.flatMap intE))(h0:0<n):∃ g cap rest,v=.slice (some ⟨g,0,none⟩) n cap∧n≤cap∧cap≤9223372036854775807∧B≤g∧Blk w g (s.map (Value.int .i64)++rest).toArray 3:=by
 rcases h.2 with ⟨rfl,h1⟩ | ⟨g,c,cur,rfl,hg,hb,hnc,hcm,hcs,htk⟩
 ·omega
 ·rw [intE_map,Nat.mul_one] at htk
  refine ⟨g,c,cur.toList.drop n,rfl,hnc,hcm,hg,?_⟩
  rw [← htk,List.take_append_drop]; exact hb
theorem set_ok(v:Value)(s:List Int)(o:OpT)(w:World)(B:Nat)(hB:B≤w.heap.size)(h:w.ownsRow B 3 1 v s.length (s.flatMap intE))(hl:s.length≤1000000)(hs:s.Pairwise (· < ·)) :
  Ret Tryz.prog 129 [v,.agg o.enc.toArray] w fun u w'=>StepR w w' v (setP s o) u∧Chg (fun k=>v.ownBlock=some k) w w':=by
 obtain ⟨a,c,rfl,_⟩:=own_slice h
 refine ent129 _ _ _ _ ?_
 have ho:=o.at
 have hw1:Below w.heap.size w (w.alloc (.cells o.enc.toArray 38)):=(Below.refl _ w).alloc (Nat.le_refl _) _
 have hr:RdS w 1 intE (.slice a s.length c) s:=RdS.of_own' h s rfl rfl
 have hsp:∀ a' n c',Value.slice a s.length c=.slice (some a') n c'→n≠0→a'.spot=none:=fun a' n c' e hn=>by
  cases e
  obtain ⟨g,cap,rest,e,_⟩:=own_blk h (by omega)
  cases e; rfl
 simp (disch:=first|omega|exact zF rfl|exact zG rfl|exact id|(simp only[zA,zB,zC,zD,bytesW];omega)) only[go_sem,ho]
 refine Ret.mono (bsearch_ok _ s o.Arg _ (hr.below hw1 (by decide)) hsp hl (hs.imp fun h=>Int.le_of_lt h)) ?_
 rintro _ w2 ⟨rfl,b2⟩
 have bb:=Below.next hw1 b2
 have cb:∀ {S:Nat→Prop},Chg S w w2:=Chg.of_below bb
 have hB2:Blk w2 w.heap.size o.enc.toArray 38:=Blk.new.below b2 Blk.new.lt
 have r2:=hB2.rules
 have same:∀ {n:Int} {b:Bool},setP s o=some (s,n)→StepR w w2 (.slice a s.length c) (setP s o) (.tuple #[.slice a s.length c,.int .i64 n,.bool true]):=fun e=>⟨_,_,_,rfl,by
  rw [e]; exact ⟨rfl,rfl,hr.below bb (by decide),fun k hk=>.inl (slFoot_own hk)⟩⟩
 have hcle:=List.countP_le_length (p:=fun y:Int=>decide (y<o.Arg)) (l:=s)
 have own2:=(cb (S:=fun _=>False)).own h fun _ _ h=>h
 by_cases m12:o.Method=12
 ·cases hin:s.contains o.Arg with
  | true =>
   have e:setP s o=some (s,1):=by unfold setP; rw [if_pos m12,if_pos (by simpa using hin)]
   simp (disch:=first|omega|exact zF rfl|exact zG rfl|exact id|(simp only[zA,zB,zC,zD,bytesW];omega)) only[go_sem,c129S5,r2,ho,m12]
   refine Ret.mono (flag_ok _ _) ?_
   rintro _ _ ⟨rfl,rfl⟩
   simp (disch:=first|omega|exact zF rfl|exact zG rfl|exact id|(simp only[zA,zB,zC,zD,bytesW];omega)) only[go_sem,c129S5]
   exact ⟨same (b:=true) e,cb⟩
  | false =>
   have e:setP s o=some (s,0):=by unfold setP; rw [if_pos m12,if_neg (by simpa using hin)]
   simp (disch:=first|omega|exact zF rfl|exact zG rfl|exact id|(simp only[zA,zB,zC,zD,bytesW];omega)) only[go_sem,c129S5,r2,ho,m12]
   refine Ret.mono (flag_ok _ _) ?_
   rintro _ _ ⟨rfl,rfl⟩
   simp (disch:=first|omega|exact zF rfl|exact zG rfl|exact id|(simp only[zA,zB,zC,zD,bytesW];omega)) only[go_sem,c129S5]
   exact ⟨same (b:=true) e,cb⟩
 by_cases m10:o.Method=10
 ·cases hin:s.contains o.Arg with
  | true =>
   have e:setP s o=some (s,0):=by unfold setP; rw [if_neg m12,if_pos m10,if_pos (by simpa using hin)]
   simp (disch:=first|omega|exact zF rfl|exact zG rfl|exact id|(simp only[zA,zB,zC,zD,bytesW];omega)) only[go_sem,c129S5,r2,ho,m10]
   refine Ret.mono (flag_ok _ _) ?_
   rintro _ _ ⟨rfl,rfl⟩
   simp (disch:=first|omega|exact zF rfl|exact zG rfl|exact id|(simp only[zA,zB,zC,zD,bytesW];omega)) only[go_sem,c129S5]
   exact ⟨same (b:=true) e,cb⟩
  | false =>
   have e:setP s o=some (insP s o.Arg,1):=by unfold setP; rw [if_neg m12,if_pos m10,if_neg (by simpa using hin)]
   simp (disch:=first|omega|exact zF rfl|exact zG rfl|exact id|(simp only[zA,zB,zC,zD,bytesW];omega)) only[go_sem,c129S5,r2,ho,m10]
   refine bsW_ones ty66mkI rfl rfl (by decide) (by decide) (intE_one _) ?_
   simp (disch:=first|omega|exact zF rfl|exact zG rfl|exact id|(simp only[zA,zB,zC,zD,bytesW];omega)) only[go_sem,c129S5]
   have b3:=(Below.refl w2.heap.size w2).alloc (Nat.le_refl _) (.cells #[.int .i64 o.Arg] 3)
   have own3:=(Chg.of_below (S:=fun _=>False) b3).own own2 fun _ _ h=>h
   have hsz:=b2.size
   have hsz1:=bb.size
   refine .inl ⟨by kernel_rfl,Ret.mono (ins_ok _ s (s.countP (·<o.Arg)) o.Arg w2.heap.size _ B (by simp; omega) own3 Blk.new (fun e=>?_) hcle hl) ?_⟩
   ·have:=World.ownsRow.lt h _ e
    omega
   rintro u w4 ⟨h4,f4,c4⟩
   simp (disch:=first|omega|exact zF rfl|exact zG rfl|exact id|(simp only[zA,zB,zC,zD,bytesW];omega)) only[go_sem,c129S5]
   refine ⟨⟨_,_,_,rfl,?_⟩,(cb.trans (Chg.of_below b3)).trans c4⟩
   rw [e]
   refine ⟨rfl,rfl,h4,fun k hk=>(f4 k hk).imp id fun h=>?_⟩
   simp only [World.size_alloc] at h
   omega
 by_cases m11:o.Method=11
 ·cases hin:s.contains o.Arg with
  | true =>
   have hmem:o.Arg∈s:=by simpa using hin
   have e:setP s o=some (delP s o.Arg,1):=by unfold setP; rw [if_neg m12,if_neg m10,if_pos m11,if_pos hmem]
   obtain ⟨d1,d2⟩:=delP_cut hs hmem
   simp (disch:=first|omega|exact zF rfl|exact zG rfl|exact id|(simp only[zA,zB,zC,zD,bytesW];omega)) only[go_sem,c129S5,r2,ho,m11]
   obtain ⟨g,cap,rest,e1,hnc,hcm,hg,hblk⟩:=own_blk own2 (by omega)
   cases e1
   refine ⟨⟨by omega,by omega⟩,.inl ⟨by kernel_rfl,Ret.mono (delete_ok g c (s.countP (·<o.Arg)) s rest w2 hblk hnc hcm d1) ?_⟩⟩
   rintro _ w4 ⟨rfl,⟨rest',h4⟩,c4⟩
   simp (disch:=first|omega|exact zF rfl|exact zG rfl|exact id|(simp only[zA,zB,zC,zD,bytesW];omega)) only[go_sem,c129S5]
   rw [d2] at h4
   have hlen:s.length - 1=(delP s o.Arg).length:=by rw [← d2]; simp; omega
   refine ⟨⟨_,_,_,rfl,?_⟩,cb.trans ⟨c4.os,c4.tape,c4.output,c4.size,fun k hk hS=>c4.block k hk fun e=>hS (by rw [e]; rfl)⟩⟩
   rw [e]
   exact ⟨rfl,rfl,rd_of_blk h4 (by omega) hlen,fun k hk=>.inl (by have:=slFoot_own hk; exact this)⟩
  | false =>
   have e:setP s o=some (s,0):=by unfold setP; rw [if_neg m12,if_neg m10,if_pos m11,if_neg (by simpa using hin)]
   simp (disch:=first|omega|exact zF rfl|exact zG rfl|exact id|(simp only[zA,zB,zC,zD,bytesW];omega)) only[go_sem,c129S5,r2,ho,m11]
   refine Ret.mono (flag_ok _ _) ?_
   rintro _ _ ⟨rfl,rfl⟩
   simp (disch:=first|omega|exact zF rfl|exact zG rfl|exact id|(simp only[zA,zB,zC,zD,bytesW];omega)) only[go_sem,c129S5]
   exact ⟨same (b:=true) e,cb⟩
 ·have e:setP s o=none:=by unfold setP; rw [if_neg m12,if_neg m10,if_neg m11]
  cases hin:s.contains o.Arg
  all_goals
   simp (disch:=first|omega|exact zF rfl|exact zG rfl|exact id|(simp only[zA,zB,zC,zD,bytesW];omega)) only[go_sem,c129S5,r2,ho,m10,m11,m12]
   exact ⟨⟨_,_,_,rfl,by rw [e]⟩,cb⟩
open Go Go.Ann Go.RowKit Go.Shelf
def numL(s:List Int)(o:OpT):Option (List Int × Int):=match s with | [x]=>numP x o | _=>none
theorem numL_not{s:List Int}{o:OpT}(h:∀ x,s=[x]→False):numL s o=none:=by
 unfold numL
 split
 ·exact absurd rfl (h _)
 ·rfl
def doP(s:List Int)(o:OpT):Option (List Int × Int) :=
 if o.Kind=1∨o.Kind=2 then numL s o
 else if o.Kind=3∨o.Kind=4 then listP s o
 else if o.Kind=5 then setP s o
 else if o.Kind=6 then (if o.Method=13∧s=[] then some ([o.Proc],0) else if o.Method=14∧s=[o.Proc] then some ([],0) else none)
 else none
def stepP(s:List Int)(o:OpT):Option (List Int) :=
 match doP s o with
 | some (t,n)=>if o.Done=true∧n≠o.Result then none else some t
 | none=>none
def StepF(w w':World)(r:Option (List Int × Int))(t:Value):Prop :=
 ∃ u a ok,t=.tuple #[u,.int .i64 a,.bool ok]∧match r with
  | none=>ok=false
  | some (s,n)=>ok=true∧a=n∧RdS w' 1 intE u s∧∀ k,slFoot u k→w.heap.size≤k
theorem StepR.fresh{w w2 w3:World}{v t:Value}{r:Option (List Int × Int)}(h:StepR w2 w3 v r t)(hv:∀ k,v.ownBlock=some k→w.heap.size≤k)(hs:w.heap.size≤w2.heap.size):StepF w w3 r t:=by
 obtain ⟨u,a,ok,e,hm⟩:=h
 refine ⟨u,a,ok,e,?_⟩
 cases r with
 | none=>exact hm
 | some p =>
  obtain ⟨s,n⟩:=p
  obtain ⟨h1,h2,h3,h4⟩:=hm
  exact ⟨h1,h2,h3,fun k hk=>(h4 k hk).elim (hv k) fun h=>Nat.le_trans hs h⟩
theorem do_ok(v:Value)(s:List Int)(o:OpT)(w:World)(h:RdS w 1 intE v s)(hl:s.length≤1000000)(hs:o.Kind=5→s.Pairwise (· < ·)) :
  Ret Tryz.prog 97 [v,.agg o.enc.toArray] w fun u w'=>StepF w w' (doP s o) u∧Below w.heap.size w w':=by
 refine ent97 _ _ _ _ ?_
 have ho:=o.at
 have hw1:Below w.heap.size w (w.alloc (.cells o.enc.toArray 38)):=(Below.refl _ w).alloc (Nat.le_refl _) _
 simp (disch:=first|omega|exact zF rfl|exact zG rfl|exact id|(simp only[zA,zB,zC,zD,bytesW];omega)) only[go_sem]
 refine Ret.mono (iclone_ok v s _ (h.below hw1 (by decide)) hl) ?_
 rintro u w2 ⟨own2,b2⟩
 have bb:=Below.next hw1 b2
 have hB2:Blk w2 w.heap.size o.enc.toArray 38:=Blk.new.below b2 Blk.new.lt
 have r2:=hB2.rules
 have hl11:okSize o.enc.toArray 11=true:=rfl
 obtain ⟨a,c,rfl,hac⟩:=own_slice own2
 have rd2:RdS w2 1 intE (.slice a s.length c) s:=RdS.of_own' own2 s rfl rfl
 have lt2:∀ k,(Value.slice a s.length c).ownBlock=some k→w.heap.size≤k:=fun k hk=>by
  have:=(World.ownsRow.lt own2 k hk).1
  simp only [World.size_alloc] at this; omega
 have hsz1:w.heap.size+1≤w2.heap.size:=by have:=b2.size; simpa using this
 have chg:∀ {w':World},Chg (fun k=>(Value.slice a s.length c).ownBlock=some k) w2 w'→Below w.heap.size w w':=fun hc=>bb.trans (hc.below bb.size fun k hk e=>by have:=lt2 k e; omega)
 have bad:∀ {u:Value} {n:Int},doP s o=none→StepF w w2 (doP s o) (.tuple #[u,.int .i64 n,.bool false]):=fun e=>⟨_,_,_,rfl,by rw [e]⟩
 have number:o.Kind=1∨o.Kind=2→(∀ x,s=[x]→False)∨∃ x,s=[x]:=fun _=>by
  cases s with
  | nil=>exact .inl fun x e=>by cases e
  | cons x r=>cases r with
   | nil=>exact .inr ⟨x,rfl⟩
   | cons y r=>exact .inl fun x e=>by cases e
 have hd1:o.Kind=1∨o.Kind=2→doP s o=numL s o:=fun e=>by unfold doP; rw [if_pos e]
 by_cases k1:o.Kind=1
 ·simp (disch:=first|omega|exact zF rfl|exact zG rfl|exact id|(simp only[zA,zB,zC,zD,bytesW];omega)) only[go_sem,c97S8,r2,ho,k1]
  rcases number (.inl k1) with hn | ⟨x,rfl⟩
  ·have hne:(s.length:Int)≠1:=fun e=>by
    obtain ⟨x,hx⟩:=List.length_eq_one_iff.1 (show s.length=1 by omega)
    exact hn x hx
   refine ⟨fun _=>⟨bad ?_,bb⟩,fun e=>absurd e hne⟩
   rw [hd1 (.inl k1),numL_not hn]
  ·refine ⟨fun e=>absurd rfl e,fun _=>?_⟩
   simp (disch:=first|omega|exact zF rfl|exact zG rfl|exact id|(simp only[zA,zB,zC,zD,bytesW];omega)) only[go_sem,c97S8,r2]
   refine Ret.mono (number_ok _ x o w2 rd2) ?_
   rintro _ w3 ⟨h3,b3⟩
   have h3':=StepR.fresh h3 lt2 (by omega)
   obtain ⟨u3,a3,ok3,rfl,hm⟩:=h3
   simp (disch:=first|omega|exact zF rfl|exact zG rfl|exact id|(simp only[zA,zB,zC,zD,bytesW];omega)) only[go_sem,c97S8]
   rw [hd1 (.inl k1)]
   exact ⟨h3',Below.next bb b3⟩
 by_cases k2:o.Kind=2
 ·simp (disch:=first|omega|exact zF rfl|exact zG rfl|exact id|(simp only[zA,zB,zC,zD,bytesW];omega)) only[go_sem,c97S8,r2,ho,k2]
  rcases number (.inr k2) with hn | ⟨x,rfl⟩
  ·have hne:(s.length:Int)≠1:=fun e=>by
    obtain ⟨x,hx⟩:=List.length_eq_one_iff.1 (show s.length=1 by omega)
    exact hn x hx
   refine ⟨fun _=>⟨bad ?_,bb⟩,fun e=>absurd e hne⟩
   rw [hd1 (.inr k2),numL_not hn]
  ·refine ⟨fun e=>absurd rfl e,fun _=>?_⟩
   simp (disch:=first|omega|exact zF rfl|exact zG rfl|exact id|(simp only[zA,zB,zC,zD,bytesW];omega)) only[go_sem,c97S8,r2]
   refine Ret.mono (number_ok _ x o w2 rd2) ?_
   rintro _ w3 ⟨h3,b3⟩
   have h3':=StepR.fresh h3 lt2 (by omega)
   obtain ⟨u3,a3,ok3,rfl,hm⟩:=h3
   simp (disch:=first|omega|exact zF rfl|exact zG rfl|exact id|(simp only[zA,zB,zC,zD,bytesW];omega)) only[go_sem,c97S8]
   rw [hd1 (.inr k2)]
   exact ⟨h3',Below.next bb b3⟩
 have hb1:(w.alloc (.cells o.enc.toArray 38)).heap.size≤w2.heap.size:=b2.size
 by_cases k3:o.Kind=3
 ·have hd:doP s o=listP s o:=by unfold doP; rw [if_neg (by simp [k1,k2]),if_pos (.inl k3)]
  simp (disch:=first|omega|exact zF rfl|exact zG rfl|exact id|(simp only[zA,zB,zC,zD,bytesW];omega)) only[go_sem,c97S8,r2,ho,k3]
  refine Ret.mono (list_ok _ s o w2 _ hb1 own2 hl) ?_
  rintro _ w3 ⟨h3,c3⟩
  have h3':=StepR.fresh h3 lt2 (by omega)
  obtain ⟨u3,a3,ok3,rfl,hm⟩:=h3
  simp (disch:=first|omega|exact zF rfl|exact zG rfl|exact id|(simp only[zA,zB,zC,zD,bytesW];omega)) only[go_sem,c97S8]
  rw [hd]
  exact ⟨h3',chg c3⟩
 by_cases k4:o.Kind=4
 ·have hd:doP s o=listP s o:=by unfold doP; rw [if_neg (by simp [k1,k2]),if_pos (.inr k4)]
  simp (disch:=first|omega|exact zF rfl|exact zG rfl|exact id|(simp only[zA,zB,zC,zD,bytesW];omega)) only[go_sem,c97S8,r2,ho,k4]
  refine Ret.mono (list_ok _ s o w2 _ hb1 own2 hl) ?_
  rintro _ w3 ⟨h3,c3⟩
  have h3':=StepR.fresh h3 lt2 (by omega)
  obtain ⟨u3,a3,ok3,rfl,hm⟩:=h3
  simp (disch:=first|omega|exact zF rfl|exact zG rfl|exact id|(simp only[zA,zB,zC,zD,bytesW];omega)) only[go_sem,c97S8]
  rw [hd]
  exact ⟨h3',chg c3⟩
 by_cases k5:o.Kind=5
 ·have hd:doP s o=setP s o:=by unfold doP; rw [if_neg (by simp [k1,k2]),if_neg (by simp [k3,k4]),if_pos k5]
  simp (disch:=first|omega|exact zF rfl|exact zG rfl|exact id|(simp only[zA,zB,zC,zD,bytesW];omega)) only[go_sem,c97S8,r2,ho,k5]
  refine Ret.mono (set_ok _ s o w2 _ hb1 own2 hl (hs k5)) ?_
  rintro _ w3 ⟨h3,c3⟩
  have h3':=StepR.fresh h3 lt2 (by omega)
  obtain ⟨u3,a3,ok3,rfl,hm⟩:=h3
  simp (disch:=first|omega|exact zF rfl|exact zG rfl|exact id|(simp only[zA,zB,zC,zD,bytesW];omega)) only[go_sem,c97S8]
  rw [hd]
  exact ⟨h3',chg c3⟩
 by_cases k6:o.Kind=6
 ·have hd:doP s o=(if o.Method=13∧s=[] then some ([o.Proc],0) else if o.Method=14∧s=[o.Proc] then some ([],0) else none):=by unfold doP; rw [if_neg (by simp [k1,k2]),if_neg (by simp [k3,k4]),if_neg k5,if_pos k6]
  have rdd:=hB2.drew.rules
  have bbd:Below w.heap.size w w2.drew:=bb.drew
  have rd2d:RdS w2.drew 1 intE (.slice a s.length c) s:=rd2.below (Below.refl _ w2).drew (by decide)
  have fresh:∀ {k n c'},slFoot (.slice (some ⟨w2.heap.size,0,none⟩) n c') k→w.heap.size≤k:=fun hk=>by
   have:=slFoot_own hk
   simp only [Value.ownBlock,Option.some.injEq] at this
   omega
  have badd:∀ {u:Value} {n:Int},doP s o=none→StepF w w2.drew (doP s o) (.tuple #[u,.int .i64 n,.bool false]):=fun e=>⟨_,_,_,rfl,by rw [e]⟩
  by_cases m13:o.Method=13
  ·simp (disch:=first|omega|exact zF rfl|exact zG rfl|exact id|(simp only[zA,zB,zC,zD,bytesW];omega)) only[go_sem,c97S8,r2,ho,k6,m13]
   refine ⟨fun h0=>?_,fun h0=>?_⟩
   ·obtain rfl:s=[]:=List.eq_nil_of_length_eq_zero (by omega)
    refine bsW_ones ty66mkI rfl rfl (by decide) (by decide) (intE_one _) ?_
    simp (disch:=first|omega|exact zF rfl|exact zG rfl|exact id|(simp only[zA,zB,zC,zD,bytesW];omega)) only[go_sem,c97S8]
    refine ⟨⟨_,_,_,rfl,?_⟩,Below.next bb ((Below.refl _ _).alloc (Nat.le_refl _) _)⟩
    rw [hd,if_pos ⟨m13,rfl⟩]
    exact ⟨rfl,rfl,int_new o.Proc rfl,fun k hk=>fresh hk⟩
   ·refine c97draw0 ?_
    simp (disch:=first|omega|exact zF rfl|exact zG rfl|exact id|(simp only[zA,zB,zC,zD,bytesW];omega)) only[go_sem,c97S8,c97D0,rdd,ho,m13]
    have:s≠[]:=fun e=>h0 (by rw [e]; rfl)
    exact ⟨badd (by rw [hd]; simp [this,m13]),bbd⟩
  ·simp (disch:=first|omega|exact zF rfl|exact zG rfl|exact id|(simp only[zA,zB,zC,zD,bytesW];omega)) only[go_sem,c97S8,r2,ho,k6,m13]
   refine c97draw0 ?_
   by_cases m14:o.Method=14
   ·simp (disch:=first|omega|exact zF rfl|exact zG rfl|exact id|(simp only[zA,zB,zC,zD,bytesW];omega)) only[go_sem,c97S8,c97D0,rdd,ho,m14]
    refine ⟨fun h1=>?_,fun h1=>?_⟩
    ·obtain ⟨x,rfl⟩:=List.length_eq_one_iff.1 (show s.length=1 by omega)
     obtain ⟨p,rfl⟩:=rd2d.ptr (by simp)
     have ep:=RdS.int rd2d (k:=0) (by simp)
     rw [show p.add 0=p from rfl,show ([x]:List Int)[0]=x from rfl] at ep
     simp (disch:=first|omega|exact zF rfl|exact zG rfl|exact id|(simp only[zA,zB,zC,zD,bytesW];omega)) only[go_sem,c97S8,c97D0,rdd,ho,ep]
     refine ⟨fun e=>⟨⟨_,_,_,rfl,?_⟩,bbd⟩,fun e=>⟨badd ?_,bbd⟩⟩
     ·rw [hd,if_neg (by simp),if_pos ⟨m14,by rw [e]⟩]
      exact ⟨rfl,rfl,RdS.nil,fun k hk=>absurd hk slFoot_none⟩
     ·rw [hd,if_neg (by simp),if_neg (by simp [e])]
    ·have:s≠[o.Proc]:=fun e=>h1 (by rw [e]; rfl)
     exact ⟨badd (by rw [hd]; simp [m13,this]),bbd⟩
   ·simp (disch:=first|omega|exact zF rfl|exact zG rfl|exact id|(simp only[zA,zB,zC,zD,bytesW];omega)) only[go_sem,c97S8,c97D0,rdd,ho,m14]
    exact ⟨badd (by rw [hd]; simp [m13,m14]),bbd⟩
 ·have hd:doP s o=none:=by unfold doP; rw [if_neg (by simp [k1,k2]),if_neg (by simp [k3,k4]),if_neg k5,if_neg k6]
  simp (disch:=first|omega|exact zF rfl|exact zG rfl|exact id|(simp only[zA,zB,zC,zD,bytesW];omega)) only[go_sem,c97S8,r2,ho,k1,k2,k3,k4,k5,k6]
  exact ⟨bad hd,bb⟩
theorem step_ok(v:Value)(s:List Int)(o:OpT)(w:World)(h:RdS w 1 intE v s)(hl:s.length≤1000000)(hs:o.Kind=5→s.Pairwise (· < ·)) :
  Ret Tryz.prog 64 [v,.agg o.enc.toArray] w fun u w'=>(∃ t ok,u=.tuple #[t,.bool ok]∧match stepP s o with
   | none=>ok=false
   | some s'=>ok=true∧RdS w' 1 intE t s'∧∀ k,slFoot t k→w.heap.size≤k)∧Below w.heap.size w w':=by
 refine ent64 _ _ _ _ ?_
 have ho:=o.at
 have hw1:Below w.heap.size w (w.alloc (.cells o.enc.toArray 38)):=(Below.refl _ w).alloc (Nat.le_refl _) _
 simp (disch:=first|omega|exact zF rfl|exact zG rfl|exact id|(simp only[zA,zB,zC,zD,bytesW];omega)) only[go_sem]
 refine Ret.mono (do_ok v s o _ (h.below hw1 (by decide)) hl hs) ?_
 rintro _ w2 ⟨⟨t,a,ok,rfl,hm⟩,b2⟩
 have bb:=Below.next hw1 b2
 have hB2:Blk w2 w.heap.size o.enc.toArray 38:=Blk.new.below b2 Blk.new.lt
 have r2:=hB2.rules
 cases hd:doP s o with
 | none =>
  rw [hd] at hm
  subst hm
  have e:stepP s o=none:=by unfold stepP; rw [hd]
  simp (disch:=first|omega|exact zF rfl|exact zG rfl|exact id|(simp only[zA,zB,zC,zD,bytesW];omega)) only[go_sem,c64S1,r2,ho]
  exact ⟨⟨_,_,rfl,by rw [e]⟩,bb⟩
 | some p =>
  obtain ⟨s',n⟩:=p
  rw [hd] at hm
  obtain ⟨rfl,rfl,h3,f3⟩:=hm
  have f3':∀ k,slFoot t k→w.heap.size≤k:=fun k hk=>by have:=f3 k hk; simp only [World.size_alloc] at this; omega
  obtain ⟨ta,tc,rfl,_⟩:=h3.form
  cases hdn:o.Done with
  | false =>
   have e:stepP s o=some s':=by unfold stepP; rw [hd]; simp [hdn]
   simp (disch:=first|omega|exact zF rfl|exact zG rfl|exact id|(simp only[zA,zB,zC,zD,bytesW];omega)) only[go_sem,c64S1,r2,ho,hdn]
   exact ⟨⟨_,_,rfl,by rw [e]; exact ⟨rfl,h3,f3'⟩⟩,bb⟩
  | true =>
   simp (disch:=first|omega|exact zF rfl|exact zG rfl|exact id|(simp only[zA,zB,zC,zD,bytesW];omega)) only[go_sem,c64S1,r2,ho,hdn]
   refine ⟨fun hne=>⟨⟨_,_,rfl,?_⟩,bb⟩,fun heq=>⟨⟨_,_,rfl,?_⟩,bb⟩⟩
   ·rw [show stepP s o=none by unfold stepP; rw [hd]; simp [hdn,hne]]
   ·rw [show stepP s o=some s' by unfold stepP; rw [hd]; simp [hdn,heq]]
    exact ⟨rfl,h3,f3'⟩
open Go Go.Ann Go.RowKit
theorem insP_app{t:List Int}{y n:Int}(h:n<y):insP (t++[y]) n=insP t n++[y]:=by
 unfold insP
 have hc:=List.countP_le_length (p:=fun z:Int=>decide (z<n)) (l:=t)
 rw [List.countP_append,List.countP_singleton,if_neg (by simp; omega),Nat.add_zero,List.take_append_of_le_length hc,List.drop_append_of_le_length hc]
 simp
theorem insP_end{t:List Int}{n:Int}(h:∀ y∈t,y<n):insP t n=t++[n]:=by
 unfold insP
 rw [List.countP_eq_length.2 (fun y hy=>by simpa using h y hy),List.take_length,List.drop_length]
def withP(t:List Int)(n:Int):List Int:=if t.any (fun y=>decide (n<y)) then insP t n else t
theorem with_ok(v:Value)(s:List Int)(n:Int)(w:World)(h:RdS w 1 intE v s)(hl:s.length≤1000000)(hs:s.Pairwise (· < ·))(hn:n ∉ s) :
  Ret Tryz.prog 157 [v,.int .i64 n] w fun u w'=>w'.ownsRow w.heap.size 3 1 u (insP s n).length ((insP s n).flatMap intE)∧Below w.heap.size w w':=by
 obtain ⟨a,c,rfl,_⟩:=h.form
 refine ent157 _ _ _ _ ?_
 simp (disch:=first|omega|exact zF rfl|exact zG rfl|exact id|(simp only[zA,zB,zC,zD,bytesW];omega)) only[go_sem]
 have s1:=(St.start (W0:=w)).nilRow 3 1
 have app:∀ {w2:World} {u:Value} {t:List Int} {x:Int} {ty:TypeId} {cs:Array Bool} {K:Value→World→Prop},St w w2 (fun _=>False) [.row u 3 1 t.length (t.flatMap intE)] []→t.length≤2000000 →
   (∀ u' w',St w w' (fun _=>False) [.row u' 3 1 (t++[x]).length ((t++[x]).flatMap intE)] []→K u' w') →
   rawB Tryz.prog .append #[66,66] ty cs [u,.slice (some ⟨w2.heap.size,0,none⟩) 1 1] (w2.alloc (.cells #[.int .i64 x] 3)) K:=by
  intro w2 u t x ty cs K s2 ht hK
  have hx:Rd (w2.alloc (.cells #[.int .i64 x] 3)) 1 (.slice (some ⟨w2.heap.size,0,none⟩) 1 1) 1 (intE x):=rd_new (n:=1) (cs:=#[.int .i64 x]) rfl
  refine (s2.alloc' (.cells #[.int .i64 x] 3)).append 0 rfl ty66mkI rfl (by decide) hx (intE_one x) (by omega) (by omega) ?_
  intro v6 w6 s6 c6
  refine hK _ _ ?_
  rw [List.length_append,List.flatMap_append]
  simpa using s6
 refine W_loopU (fun x:Nat × Value=>[(5,x.2),(6,.bool ((s.take x.1).any fun y=>decide (n<y))),(7,.int .i64 x.1)]) (fun x w'=>St w w' (fun _=>False) [.row x.2 3 1 (withP (s.take x.1) n).length ((withP (s.take x.1) n).flatMap intE)] []∧x.1≤s.length) (fun x=>s.length - x.1) (0,.slice none 0 0) rfl ⟨s1,Nat.zero_le _⟩ ?_
 rintro ⟨k,u⟩ w2 ⟨s2,hk⟩
 simp only at s2 hk
 have hwl:(withP (s.take k) n).length≤k+1:=by
  unfold withP insP; split <;> simp <;> omega
 obtain ⟨au,cu,rfl,_⟩:=own_slice (s2.row 0 rfl)
 by_cases hlt:k<s.length
 ·have hlt':(k:Int)<s.length:=by omega
  obtain ⟨p,rfl⟩:=h.ptr (by omega)
  have ek:=RdS.int (h.below s2.bel (by decide)) hlt
  have et:s.take (k+1)=s.take k++[s[k]]:=List.take_succ_eq_append_getElem hlt
  have hsk:s[k]≠n:=fun e=>hn (by rw [← e]; exact List.getElem_mem hlt)
  have gt:∀ y∈s.take k,y<s[k]:=fun y hy=>by
   obtain ⟨j,hj,rfl⟩:=List.mem_iff_getElem.1 hy
   rw [List.getElem_take]
   exact List.pairwise_iff_getElem.1 hs j k (by simp at hj; omega) hlt (by simp at hj; omega)
  have w1:(s.take k).any (fun y=>decide (n<y))=false→n<s[k]→withP (s.take (k+1)) n=withP (s.take k) n++[n]++[s[k]]:=fun h1 h2=>by
   unfold withP
   rw [h1,et,List.any_append]
   simp only [List.any_cons,h2,decide_true,Bool.true_or,Bool.or_true,if_true]
   rw [insP_app h2,insP_end fun y hy=>?_]
   ·rfl
   ·have:=List.any_eq_false.1 h1 y hy
    have hne:y≠n:=fun e=>hn (by rw [← e]; exact List.mem_of_mem_take hy)
    simp at this; omega
  have w2':(s.take k).any (fun y=>decide (n<y))=false→¬ n<s[k]→withP (s.take (k+1)) n=withP (s.take k) n++[s[k]]:=fun h1 h2=>by
   unfold withP
   rw [et,List.any_append,h1]
   simp only [List.any_cons,List.any_nil,decide_eq_false h2,Bool.or_self,Bool.false_eq_true,if_false]
  have w3:(s.take k).any (fun y=>decide (n<y))=true→withP (s.take (k+1)) n=withP (s.take k) n++[s[k]]:=fun h1=>by
   obtain ⟨y,hy,e⟩:=List.any_eq_true.1 h1
   have h2:n<s[k]:=by have:=gt y hy; simp at e; omega
   unfold withP
   rw [et,List.any_append,h1]
   simp only [Bool.true_or,if_true]
   exact insP_app h2
  simp (disch:=first|omega|exact zF rfl|exact zG rfl|exact id|(simp only[zA,zB,zC,zD,bytesW];omega)) only[go_sem,c157S5,hlt',ek]
  have et_any:(s.take (k+1)).any (fun y=>decide (n<y))=((s.take k).any (fun y=>decide (n<y)) || decide (n<s[k])):=by
   rw [et,List.any_append]; simp
  have last:∀ {w3:World} {u3:Value},St w w3 (fun _=>False) [.row u3 3 1 (withP (s.take (k+1)) n).length ((withP (s.take (k+1)) n).flatMap intE)] []→St w w3 (fun _=>False) [.row u3 3 1 (withP (s.take (k+1)) n).length ((withP (s.take (k+1)) n).flatMap intE)] []∧k+1≤s.length:=fun h=>⟨h,by omega⟩
  refine ⟨fun h1=>⟨by omega,fun h2=>?_,fun h2=>⟨by omega,?_⟩⟩,fun h1=>⟨by omega,?_⟩⟩
  ·refine bsW_ones ty66mkI rfl rfl (by decide) (by decide) (intE_one _) ?_
   simp (disch:=first|omega|exact zF rfl|exact zG rfl|exact id|(simp only[zA,zB,zC,zD,bytesW];omega)) only[go_sem,c157S5]
   refine app s2 (by omega) ?_
   intro v6 w6 s6
   have ek6:=RdS.int (h.below s6.bel (by decide)) hlt
   obtain ⟨a6,c6,rfl,_⟩:=own_slice (s6.row 0 rfl)
   simp (disch:=first|omega|exact zF rfl|exact zG rfl|exact id|(simp only[zA,zB,zC,zD,bytesW];omega)) only[go_sem,c157S5,ek6]
   refine ⟨⟨by omega,by omega⟩,?_⟩
   refine bsW_ones ty66mkI rfl rfl (by decide) (by decide) (intE_one _) ?_
   simp (disch:=first|omega|exact zF rfl|exact zG rfl|exact id|(simp only[zA,zB,zC,zD,bytesW];omega)) only[go_sem,c157S5]
   refine app s6 (by simp; omega) ?_
   intro v7 w7 s7
   simp (disch:=first|omega|exact zF rfl|exact zG rfl|exact id|(simp only[zA,zB,zC,zD,bytesW];omega)) only[go_sem,c157S5]
   rw [← w1 h1 h2] at s7
   refine ⟨⟨by omega,by omega⟩,(k+1,v7),?_,last s7,by simp only; omega⟩
   rw [et_any,h1,decide_eq_true h2]; rfl
  ·refine bsW_ones ty66mkI rfl rfl (by decide) (by decide) (intE_one _) ?_
   simp (disch:=first|omega|exact zF rfl|exact zG rfl|exact id|(simp only[zA,zB,zC,zD,bytesW];omega)) only[go_sem,c157S5]
   refine app s2 (by omega) ?_
   intro v6 w6 s6
   simp (disch:=first|omega|exact zF rfl|exact zG rfl|exact id|(simp only[zA,zB,zC,zD,bytesW];omega)) only[go_sem,c157S5]
   rw [← w2' h1 (by omega)] at s6
   refine ⟨⟨by omega,by omega⟩,(k+1,v6),?_,last s6,by simp only; omega⟩
   rw [et_any,h1,decide_eq_false (by omega:¬ n<s[k])]; rfl
  ·refine bsW_ones ty66mkI rfl rfl (by decide) (by decide) (intE_one _) ?_
   simp (disch:=first|omega|exact zF rfl|exact zG rfl|exact id|(simp only[zA,zB,zC,zD,bytesW];omega)) only[go_sem,c157S5]
   refine app s2 (by omega) ?_
   intro v6 w6 s6
   simp (disch:=first|omega|exact zF rfl|exact zG rfl|exact id|(simp only[zA,zB,zC,zD,bytesW];omega)) only[go_sem,c157S5]
   rw [← w3 h1] at s6
   refine ⟨⟨by omega,by omega⟩,(k+1,v6),?_,last s6,by simp only; omega⟩
   rw [et_any,h1]; rfl
 ·have hlt':¬ (k:Int)<s.length:=by omega
  have hks:s.take k=s:=List.take_of_length_le (by omega)
  rw [hks] at s2 hwl ⊢
  cases hd:s.any fun y=>decide (n<y) with
  | true =>
   simp (disch:=first|omega|exact zF rfl|exact zG rfl|exact id|(simp only[zA,zB,zC,zD,bytesW];omega)) only[go_sem,c157S5,hlt']
   have e:=s2.row 0 rfl
   rw [show withP s n=insP s n by unfold withP; rw [hd]; rfl] at e ⊢
   exact ⟨e,s2.bel⟩
  | false =>
   simp (disch:=first|omega|exact zF rfl|exact zG rfl|exact id|(simp only[zA,zB,zC,zD,bytesW];omega)) only[go_sem,c157S5,hlt']
   have e1:withP s n=s:=by unfold withP; rw [hd]; rfl
   have e2:insP s n=s++[n]:=insP_end fun y hy=>by
    have:=List.any_eq_false.1 hd y hy
    have hne:y≠n:=fun e=>hn (by rw [← e]; exact hy)
    simp at this; omega
   rw [e1] at s2 ⊢
   refine bsW_ones ty66mkI rfl rfl (by decide) (by decide) (intE_one _) ?_
   simp (disch:=first|omega|exact zF rfl|exact zG rfl|exact id|(simp only[zA,zB,zC,zD,bytesW];omega)) only[go_sem,c157S5]
   refine app s2 (by omega) ?_
   intro v6 w6 s6
   simp (disch:=first|omega|exact zF rfl|exact zG rfl|exact id|(simp only[zA,zB,zC,zD,bytesW];omega)) only[go_sem,c157S5]
   rw [e2]
   exact ⟨s6.row 0 rfl,s6.bel⟩
end Go.Proofs.YteiciplnfjnfjaaGreat

end
