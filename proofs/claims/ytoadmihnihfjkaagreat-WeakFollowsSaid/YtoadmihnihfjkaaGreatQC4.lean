/- Texts put together by program. -/
import Derived.Test.YtoadmihnihfjkaaGreatQC3
set_option linter.unusedSimpArgs false
set_option linter.unusedVariables false
set_option maxRecDepth 100000
noncomputable section

namespace Go.Proofs.YtoadmihnihfjkaaGreat
open Go Go.Ann
def c90L1(_:Unit):Cmd:=(.seq (.seq (.ops [
 zmv 33 8 3,
 zmv 34 1 3,
 ⟨some 35,.binOp .leq 3 (.tmp 33) (.tmp 34) 3,4,none⟩] [0,1,2,6,7,8,35])
 (.cond (.tmp 35)
 (.skip [0,1,2,6,7,8])
 (.exit 4 [0,1,2,6,7]))) (sg c90S3))
def c90S4(_:Unit):Cmd:=(.ops [
 zmv 61 6 3,
 ⟨some 62,.binOp .mul 3 (.tmp 61) (.const (.int .i64 2)) 3,3,none⟩,
 zas 6 62 3] [0,1,2,6])
def c90S5(_:Unit):Cmd:=(.seq (.seq (.ops [
 zmv 49 7 3,
 zmv 50 6 3,
 ⟨some 51,.binOp .add 3 (.tmp 49) (.tmp 50) 3,3,none⟩,
 zas 9 51 3] [0,1,2,6,7,9])
 (.seq (.ops [
 zmv 52 9 3,
 zmv 53 1 3,
 ⟨some 54,.binOp .lss 3 (.tmp 52) (.tmp 53) 3,4,none⟩] [0,1,2,6,7,9,54])
 (.cond (.tmp 54)
 (.ops [
 zmv 55 0 57,
 zmv 56 7 3,
 zmv 57 9 3,
 zmv 58 1 3,
 zmv 59 2 110,
 ⟨some 60,.call ⟨.value (.func 114),#[(.tmp 55),(.tmp 56),(.tmp 57),(.tmp 58),(.tmp 59)],#[57,3,3,3,110]⟩,0,none⟩] [0,1,2,6])
 (.skip [0,1,2,6])))) (sg c90S4))
def c90S6(_:Unit):Cmd:=(.block 3 (.seq (.ops [
 zmv 31 6 3,
 ⟨some 32,.binOp .mul 3 (.const (.int .i64 2)) (.tmp 31) 3,3,none⟩,
 ⟨some 7,.assign (.const (.int .i64 0)),3,none⟩,
 zas 8 32 3] [0,1,2,6,7,8])
 (.seq (.block 4 (.loop (sg c90L1))) (sg c90S5))))
def c90L2(_:Unit):Cmd:=(.seq (.seq (.ops [
 zmv 28 6 3,
 zmv 29 1 3,
 ⟨some 30,.binOp .lss 3 (.tmp 28) (.tmp 29) 3,4,none⟩] [0,1,2,6,30])
 (.cond (.tmp 30)
 (.skip [0,1,2,6])
 (.exit 2 []))) (sg c90S6))
def c90S7(_:Unit):Cmd:=(.block 2 (.loop (sg c90L2)))
def c90S8(_:Unit):Cmd:=(.seq (.ops [
 zmv 23 0 57,
 zmv 24 7 3,
 zmv 25 1 3,
 zmv 26 2 110,
 ⟨some 27,.call ⟨.value (.func 113),#[(.tmp 23),(.tmp 24),(.tmp 25),(.tmp 26)],#[57,3,3,110]⟩,0,none⟩] [0,1,2,6]) (sg c90S7))
def c90:Cmd:=(.seq (.ops [
 ⟨some 6,.assign (.const (.int .i64 20)),3,none⟩] [0,1,2,6])
 (.seq (.ops [
 zmv 10 6 3,
 ⟨some 7,.assign (.const (.int .i64 0)),3,none⟩,
 zas 8 10 3] [0,1,2,6,7,8])
 (.seq (.block 0 (.loop (sg c90L0))) (sg c90S8))))
attribute [go_sem] c90 c90S0 c90S1 c90S3
theorem ent90(a0 a1 a2:Value)(w:World)(K:Value→World→Prop)(h:W Tryz.prog c90 [(0,a0),(1,a1),(2,a2)] w (finQ Tryz.prog [] K)):Ret Tryz.prog 90 [a0,a1,a2] w K :=
 Ret_of_W (code:=c90code) Tryz.func90 (by kernel_rfl) (by kernel_rfl) (of_decide_eq_true (by kernel_rfl)) h
@[go_sem] theorem go90:goFunc Tryz.prog 90=true:=by kernel_rfl
def c91code:Code:=match Tryz.f91.body with | some c=>c | none=>.skip
def c91S0(_:Unit):Cmd:=(.cond (.tmp 16)
 (.seq (.ops [
 zmv 17 5 3,
 zas 4 17 3] [4])
 .ret)
 (.skip [0,1,7,8]))
def c91S1(_:Unit):Cmd:=(.ops [
 ⟨some 18,.binOp .add 3 (.tmp 8) (.const (.int .i64 1)) 3,3,none⟩,
 zmv 8 18 3] [0,1,7,8])
def c91S2(_:Unit):Cmd:=(.seq (.block 1 (.seq (.ops [
 zmv 10 8 3,
 zas 5 10 3] [0,1,5,7,8])
 (.seq (.ops [
 zmv 11 1 114,
 zmv 12 0 62,
 zmv 13 5 3,
 zix 14 62 12 13,
 zld 15 113 14 113,
 ⟨some 16,.call ⟨.value (.tmp 11),#[(.tmp 15)],#[113]⟩,4,none⟩] [0,1,5,7,8,16]) (sg c91S0)))) (sg c91S1))
def c91L0(_:Unit):Cmd:=(.seq (.ops [
 ⟨some 9,.binOp .lss 3 (.tmp 8) (.tmp 7) 3,0,none⟩] [0,1,7,8,9])
 (.seq (.cond (.tmp 9)
 (.skip [0,1,7,8])
 (.exit 0 [])) (sg c91S2)))
def c91S3(_:Unit):Cmd:=(.seq (.ops [
 ⟨some 4,.assign (.const (.int .i64 (-1))),3,none⟩] [4])
 .ret)
def c91:Cmd:=(.seq (.ops [
 ⟨some 4,.assign (.const (.int .i64 0)),3,none⟩] [0,1])
 (.seq (.seq (.ops [
 zmv 6 0 62,
 ⟨some 7,.call ⟨.builtin .len,#[(.tmp 6)],#[62]⟩,3,none⟩,
 ⟨some 8,.move (.const (.int .i64 0)),3,none⟩] [0,1,7,8])
 (.block 0 (.loop (sg c91L0)))) (sg c91S3)))
attribute [go_sem] c91 c91S0 c91S1 c91S2 c91L0 c91S3
theorem ent91(a0 a1:Value)(w:World)(K:Value→World→Prop)(h:W Tryz.prog c91 [(0,a0),(1,a1)] w (finQ Tryz.prog [.tmp 4] K)):Ret Tryz.prog 91 [a0,a1] w K :=
 Ret_of_W (code:=c91code) Tryz.func91 (by kernel_rfl) (by kernel_rfl) (of_decide_eq_true (by kernel_rfl)) h
@[go_sem] theorem go91:goFunc Tryz.prog 91=true:=by kernel_rfl
def c92code:Code:=match Tryz.f92.body with | some c=>c | none=>.skip
def c92:Cmd:=(.seq (.ops [
 ⟨some 0,.assign (.const (.slice none 0 0)),144,none⟩] [])
 (.seq (.ops [
 ⟨some 1,.build 117 #[(0,(.const (.int .i64 1))),(1,(.const (.int .i64 1))),(2,(.const (.int .i64 0))),(3,(.const (.int .i64 2)))],117,none⟩,
 ⟨some 2,.build 117 #[(0,(.const (.int .i64 1))),(1,(.const (.int .i64 2))),(2,(.const (.int .i64 1))),(3,(.const (.int .i64 0)))],117,none⟩,
 ⟨some 3,.build 117 #[(0,(.const (.int .i64 1))),(1,(.const (.int .i64 3))),(2,(.const (.int .i64 2))),(3,(.const (.int .i64 1)))],117,none⟩,
 ⟨some 4,.build 117 #[(0,(.const (.int .i64 2))),(1,(.const (.int .i64 1))),(2,(.const (.int .i64 0))),(3,(.const (.int .i64 3)))],117,none⟩,
 ⟨some 5,.build 117 #[(0,(.const (.int .i64 2))),(1,(.const (.int .i64 4))),(2,(.const (.int .i64 0))),(3,(.const (.int .i64 0)))],117,none⟩,
 ⟨some 6,.build 117 #[(0,(.const (.int .i64 2))),(1,(.const (.int .i64 5))),(2,(.const (.int .i64 0))),(3,(.const (.int .i64 0)))],117,none⟩,
 ⟨some 7,.build 117 #[(0,(.const (.int .i64 3))),(1,(.const (.int .i64 6))),(2,(.const (.int .i64 1))),(3,(.const (.int .i64 0)))],117,none⟩,
 ⟨some 8,.build 117 #[(0,(.const (.int .i64 3))),(1,(.const (.int .i64 7))),(2,(.const (.int .i64 0))),(3,(.const (.int .i64 4)))],117,none⟩,
 ⟨some 9,.build 117 #[(0,(.const (.int .i64 4))),(1,(.const (.int .i64 8))),(2,(.const (.int .i64 1))),(3,(.const (.int .i64 0)))],117,none⟩,
 ⟨some 10,.build 117 #[(0,(.const (.int .i64 4))),(1,(.const (.int .i64 9))),(2,(.const (.int .i64 0))),(3,(.const (.int .i64 4)))],117,none⟩,
 ⟨some 11,.build 117 #[(0,(.const (.int .i64 5))),(1,(.const (.int .i64 10))),(2,(.const (.int .i64 1))),(3,(.const (.int .i64 1)))],117,none⟩,
 ⟨some 12,.build 117 #[(0,(.const (.int .i64 5))),(1,(.const (.int .i64 11))),(2,(.const (.int .i64 1))),(3,(.const (.int .i64 1)))],117,none⟩,
 ⟨some 13,.build 117 #[(0,(.const (.int .i64 5))),(1,(.const (.int .i64 12))),(2,(.const (.int .i64 1))),(3,(.const (.int .i64 1)))],117,none⟩,
 ⟨some 14,.build 117 #[(0,(.const (.int .i64 6))),(1,(.const (.int .i64 13))),(2,(.const (.int .i64 0))),(3,(.const (.int .i64 0)))],117,none⟩,
 ⟨some 15,.build 117 #[(0,(.const (.int .i64 6))),(1,(.const (.int .i64 14))),(2,(.const (.int .i64 0))),(3,(.const (.int .i64 0)))],117,none⟩,
 ⟨some 16,.buildSlice 144 15 #[(0,(.tmp 1)),(1,(.tmp 2)),(2,(.tmp 3)),(3,(.tmp 4)),(4,(.tmp 5)),(5,(.tmp 6)),(6,(.tmp 7)),(7,(.tmp 8)),(8,(.tmp 9)),(9,(.tmp 10)),(10,(.tmp 11)),(11,(.tmp 12)),(12,(.tmp 13)),(13,(.tmp 14)),(14,(.tmp 15))],144,none⟩,
 zas 0 16 144] [0])
 .ret))
attribute [go_sem] c92
theorem ent92(w:World)(K:Value→World→Prop)(h:W Tryz.prog c92 [] w (finQ Tryz.prog [.tmp 0] K)):Ret Tryz.prog 92 [] w K :=
 Ret_of_W (code:=c92code) Tryz.func92 (by kernel_rfl) (by kernel_rfl) (of_decide_eq_true (by kernel_rfl)) h
@[go_sem] theorem go92:goFunc Tryz.prog 92=true:=by kernel_rfl
def c93code:Code:=match Tryz.f93.body with | some c=>c | none=>.skip
def c93S0(_:Unit):Cmd:=.ret
def c93S1(_:Unit):Cmd:=(.seq (.draw (drawOps 0 c93code) [2]) (sg c93S0))
def c93:Cmd:=(.seq (.ops [
 ⟨some 2,.assign (.const (.string (ofL []))),9,none⟩] [0])
 (.seq (.seq (.ops [
 zmv 3 0 147,
 ⟨some 4,.binOp .lss 147 (.tmp 3) (.const (.int .u64 128)) 147,4,none⟩] [0,4])
 (.cond (.tmp 4)
 (.seq (.ops [
 zmv 5 0 147,
 ⟨some 6,.convert 147 5 (.tmp 5),5,none⟩,
 ⟨some 7,.buildSlice 120 1 #[(0,(.tmp 6))],120,none⟩,
 ⟨some 8,.convert 120 9 (.tmp 7),9,none⟩,
 zas 2 8 9] [2])
 .ret)
 (.skip [0]))) (sg c93S1)))
attribute [go_sem] c93 c93S0 c93S1
def c93D0:GT:=(.one 0 (zmv 9 0 147)
 (.one 0 ⟨some 10,.binOp .rem 147 (.tmp 9) (.const (.int .u64 128)) 147,147,none⟩
 (.one 0 ⟨some 11,.binOp .add 147 (.tmp 10) (.const (.int .u64 128)) 147,147,none⟩
 (.one 0 ⟨some 12,.convert 147 5 (.tmp 11),5,none⟩
 (.one 0 (zmv 15 0 147)
 (.one 0 ⟨some 16,.binOp .quo 147 (.tmp 15) (.const (.int .u64 128)) 147,147,none⟩
 (.alt ⟨some 13,.buildSlice 120 1 #[(0,(.tmp 12))],120,none⟩
 (.alt ⟨some 14,.convert 120 9 (.tmp 13),9,none⟩
 (.one 2 ⟨some 17,.call ⟨.value (.func 93),#[(.tmp 16)],#[147]⟩,9,none⟩
 (.one 0 ⟨some 18,.binOp .add 9 (.tmp 14) (.tmp 17) 9,9,none⟩
 (.one 0 (zas 2 18 9)
 .nil)))
 (.alt ⟨some 17,.call ⟨.value (.func 93),#[(.tmp 16)],#[147]⟩,9,none⟩
 (.one 2 ⟨some 14,.convert 120 9 (.tmp 13),9,none⟩
 (.one 0 ⟨some 18,.binOp .add 9 (.tmp 14) (.tmp 17) 9,9,none⟩
 (.one 0 (zas 2 18 9)
 .nil)))
 .stop))
 (.alt ⟨some 17,.call ⟨.value (.func 93),#[(.tmp 16)],#[147]⟩,9,none⟩
 (.one 2 ⟨some 13,.buildSlice 120 1 #[(0,(.tmp 12))],120,none⟩
 (.one 2 ⟨some 14,.convert 120 9 (.tmp 13),9,none⟩
 (.one 0 ⟨some 18,.binOp .add 9 (.tmp 14) (.tmp 17) 9,9,none⟩
 (.one 0 (zas 2 18 9)
 .nil))))
 .stop))))))))
theorem c93draw0{L:List Nat}{ρ:Env}{w:World}{Q:Post}(S:World→Prop)(hS:S w.drew)(h:DT Tryz.prog S c93D0 L ρ w.drew Q):drawW Tryz.prog (drawOps 0 c93code) L ρ w Q :=
 drawW_tree [] (.one 0 0 (.one 0 1 (.one 0 2 (.one 0 3 (.one 0 6 (.one 0 7 (.alt 4 (.alt 5 (.one 2 8 (.one 0 9 (.one 0 10 .nil))) (.alt 8 (.one 2 5 (.one 0 9 (.one 0 10 .nil))) .stop)) (.alt 8 (.one 2 4 (.one 2 5 (.one 0 9 (.one 0 10 .nil)))) .stop)))))))) c93D0 (by kernel_rfl) (by kernel_rfl) (by kernel_rfl) S hS h
theorem ent93(a0:Value)(w:World)(K:Value→World→Prop)(h:W Tryz.prog c93 [(0,a0)] w (finQ Tryz.prog [.tmp 2] K)):Ret Tryz.prog 93 [a0] w K :=
 Ret_of_W (code:=c93code) Tryz.func93 (by kernel_rfl) (by kernel_rfl) (of_decide_eq_true (by kernel_rfl)) h
@[go_sem] theorem go93:goFunc Tryz.prog 93=true:=by kernel_rfl
def c94code:Code:=match Tryz.f94.body with | some c=>c | none=>.skip
def c94S0(_:Unit):Cmd:=(.seq (.ops [
 zmv 8 0 3,
 ⟨some 9,.binOp .sub 3 (.const (.int .i64 (-1))) (.tmp 8) 3,3,none⟩,
 ⟨some 10,.convert 3 147 (.tmp 9),147,none⟩,
 ⟨some 11,.binOp .mul 147 (.const (.int .u64 2)) (.tmp 10) 147,147,none⟩,
 ⟨some 12,.binOp .add 147 (.tmp 11) (.const (.int .u64 1)) 147,147,none⟩,
 zas 2 12 147] [2])
 .ret)
def c94:Cmd:=(.seq (.ops [
 ⟨some 2,.assign (.const (.int .u64 0)),147,none⟩] [0])
 (.seq (.seq (.ops [
 zmv 3 0 3,
 ⟨some 4,.binOp .geq 3 (.tmp 3) (.const (.int .i64 0)) 3,4,none⟩] [0,4])
 (.cond (.tmp 4)
 (.seq (.ops [
 zmv 5 0 3,
 ⟨some 6,.convert 3 147 (.tmp 5),147,none⟩,
 ⟨some 7,.binOp .mul 147 (.const (.int .u64 2)) (.tmp 6) 147,147,none⟩,
 zas 2 7 147] [2])
 .ret)
 (.skip [0]))) (sg c94S0)))
attribute [go_sem] c94 c94S0
theorem ent94(a0:Value)(w:World)(K:Value→World→Prop)(h:W Tryz.prog c94 [(0,a0)] w (finQ Tryz.prog [.tmp 2] K)):Ret Tryz.prog 94 [a0] w K :=
 Ret_of_W (code:=c94code) Tryz.func94 (by kernel_rfl) (by kernel_rfl) (of_decide_eq_true (by kernel_rfl)) h
@[go_sem] theorem go94:goFunc Tryz.prog 94=true:=by kernel_rfl
def c95code:Code:=match Tryz.f95.body with | some c=>c | none=>.skip
def c95S0(_:Unit):Cmd:=.ret
def c95S1(_:Unit):Cmd:=.ret
def c95S2(_:Unit):Cmd:=.ret
def c95S3(_:Unit):Cmd:=.ret
def c95S4(_:Unit):Cmd:=(.cond (.tmp 126)
 (.seq (.ops [
 ⟨some 127,.build 150 #[(0,(.const (.slice none 0 0))),(1,(.const (.int .i64 0))),(2,(.const (.bool true)))],150,none⟩,
 ⟨none,.store 150 (.tmp 4) (.tmp 127),0,none⟩] [4])
 .ret)
 (.skip [0,3,4,5,6]))
def c95S5(_:Unit):Cmd:=.ret
def c95S6(_:Unit):Cmd:=.ret
def c95S7(_:Unit):Cmd:=(.seq (.ops [
 ⟨some 179,.build 150 #[],150,none⟩,
 ⟨none,.store 150 (.tmp 4) (.tmp 179),0,none⟩] [4])
 .ret)
def c95S8(_:Unit):Cmd:=(.seq (.seq (.ops [
 zmv 172 6 3,
 ⟨some 173,.binOp .eql 3 (.tmp 172) (.const (.int .i64 11)) 3,4,none⟩] [0,3,4,173])
 (.cond (.tmp 173)
 (.seq (.ops [
 zmv 174 0 25,
 zfa 175 52 3 5,
 zld 176 3 175 3,
 ⟨some 177,.call ⟨.value (.func 116),#[(.tmp 174),(.tmp 176)],#[25,3]⟩,25,none⟩,
 ⟨some 178,.build 150 #[(0,(.tmp 177)),(1,(.const (.int .i64 1))),(2,(.const (.bool true)))],150,none⟩,
 ⟨none,.store 150 (.tmp 4) (.tmp 178),0,none⟩] [4]) (sg c95S6))
 (.skip [4]))) (sg c95S7))
def c95S9(_:Unit):Cmd:=(.seq (.seq (.ops [
 zmv 165 6 3,
 ⟨some 166,.binOp .eql 3 (.tmp 165) (.const (.int .i64 10)) 3,4,none⟩] [0,3,4,6,166])
 (.cond (.tmp 166)
 (.seq (.ops [
 zmv 167 0 25,
 zfa 168 52 3 5,
 zld 169 3 168 3,
 ⟨some 170,.call ⟨.value (.func 117),#[(.tmp 167),(.tmp 169)],#[25,3]⟩,25,none⟩,
 ⟨some 171,.build 150 #[(0,(.tmp 170)),(1,(.const (.int .i64 1))),(2,(.const (.bool true)))],150,none⟩,
 ⟨none,.store 150 (.tmp 4) (.tmp 171),0,none⟩] [4]) (sg c95S5))
 (.skip [0,3,4,6]))) (sg c95S8))
def c95S10(_:Unit):Cmd:=(.seq (.seq (.ops [
 zmv 146 6 3,
 ⟨some 147,.binOp .eql 3 (.tmp 146) (.const (.int .i64 12)) 3,4,none⟩,
 zmv 148 147 4,
 zmg 149 6 3 148 false,
 ⟨some 150,.binOp .eql 3 (.tmp 149) (.const (.int .i64 10)) 3,4,(some (148,false))⟩,
 zmg 151 150 4 148 false,
 zmg 152 7 4 151 true,
 ⟨some 153,.pick (.tmp 151) (.tmp 152) (.const (.bool false)),4,(some (148,false))⟩,
 ⟨some 154,.pick (.tmp 148) (.const (.bool true)) (.tmp 153),4,none⟩,
 zmv 155 154 4,
 zmg 156 6 3 155 false,
 ⟨some 157,.binOp .eql 3 (.tmp 156) (.const (.int .i64 11)) 3,4,(some (155,false))⟩,
 zmg 158 157 4 155 false,
 zmg 159 7 4 158 true,
 ⟨some 160,.unOp .not 4 (.tmp 159),4,(some (158,true))⟩,
 ⟨some 161,.pick (.tmp 158) (.tmp 160) (.const (.bool false)),4,(some (155,false))⟩,
 ⟨some 162,.pick (.tmp 155) (.const (.bool true)) (.tmp 161),4,none⟩] [0,3,4,6,162])
 (.cond (.tmp 162)
 (.seq (.ops [
 zmv 163 0 25,
 ⟨some 164,.build 150 #[(0,(.tmp 163)),(1,(.const (.int .i64 0))),(2,(.const (.bool true)))],150,none⟩,
 ⟨none,.store 150 (.tmp 4) (.tmp 164),0,none⟩] [4])
 .ret)
 (.skip [0,3,4,6]))) (sg c95S9))
def c95S11(_:Unit):Cmd:=(.seq (.seq (.ops [
 zmv 139 6 3,
 ⟨some 140,.binOp .eql 3 (.tmp 139) (.const (.int .i64 12)) 3,4,none⟩,
 zmv 141 140 4,
 zmg 142 7 4 141 true,
 ⟨some 143,.pick (.tmp 141) (.tmp 142) (.const (.bool false)),4,none⟩] [0,3,4,6,7,143])
 (.cond (.tmp 143)
 (.seq (.ops [
 zmv 144 0 25,
 ⟨some 145,.build 150 #[(0,(.tmp 144)),(1,(.const (.int .i64 1))),(2,(.const (.bool true)))],150,none⟩,
 ⟨none,.store 150 (.tmp 4) (.tmp 145),0,none⟩] [4])
 .ret)
 (.skip [0,3,4,6,7]))) (sg c95S10))
def c95S12(_:Unit):Cmd:=(.seq (.ops [
 zmv 131 0 25,
 zfa 132 52 3 5,
 zld 133 3 132 3,
 ⟨some 134,.call ⟨.value (.func 116),#[(.tmp 131),(.tmp 133)],#[25,3]⟩,25,none⟩,
 ⟨some 135,.call ⟨.builtin .len,#[(.tmp 134)],#[25]⟩,3,none⟩,
 zmv 136 0 25,
 ⟨some 137,.call ⟨.builtin .len,#[(.tmp 136)],#[25]⟩,3,none⟩,
 ⟨some 138,.binOp .lss 3 (.tmp 135) (.tmp 137) 3,4,none⟩,
 zas 7 138 4] [0,3,4,6,7]) (sg c95S11))
def c95S13(_:Unit):Cmd:=(.seq (.seq (.ops [
 zmv 128 5 3,
 ⟨some 129,.binOp .neq 3 (.tmp 128) (.const (.int .i64 5)) 3,4,none⟩] [0,3,4,6,129])
 (.cond (.tmp 129)
 (.seq (.ops [
 ⟨some 130,.build 150 #[],150,none⟩,
 ⟨none,.store 150 (.tmp 4) (.tmp 130),0,none⟩] [4])
 .ret)
 (.skip [0,3,4,6]))) (sg c95S12))
def c95S14(_:Unit):Cmd:=(.seq (.seq (.draw (drawOps 4 c95code) [0,3,4,5,6,126]) (sg c95S4)) (sg c95S13))
def c95S15(_:Unit):Cmd:=(.seq (.seq (.ops [
 zmv 93 5 3,
 ⟨some 94,.binOp .eql 3 (.tmp 93) (.const (.int .i64 6)) 3,4,none⟩,
 zmv 95 94 4,
 zmg 96 6 3 95 true,
 ⟨some 97,.binOp .eql 3 (.tmp 96) (.const (.int .i64 13)) 3,4,(some (95,true))⟩,
 ⟨some 98,.pick (.tmp 95) (.tmp 97) (.const (.bool false)),4,none⟩,
 zmv 99 98 4,
 zmg 100 0 25 99 true,
 ⟨some 101,.call ⟨.builtin .len,#[(.tmp 100)],#[25]⟩,3,(some (99,true))⟩,
 ⟨some 102,.binOp .eql 3 (.tmp 101) (.const (.int .i64 0)) 3,4,(some (99,true))⟩,
 ⟨some 103,.pick (.tmp 99) (.tmp 102) (.const (.bool false)),4,none⟩] [0,3,4,5,6,103])
 (.cond (.tmp 103)
 (.seq (.ops [
 zfa 104 52 3 1,
 zld 105 3 104 3,
 ⟨some 106,.buildSlice 25 1 #[(0,(.tmp 105))],25,none⟩,
 ⟨some 107,.build 150 #[(0,(.tmp 106)),(1,(.const (.int .i64 0))),(2,(.const (.bool true)))],150,none⟩,
 ⟨none,.store 150 (.tmp 4) (.tmp 107),0,none⟩] [4])
 .ret)
 (.skip [0,3,4,5,6]))) (sg c95S14))
def c95S16(_:Unit):Cmd:=(.seq (.seq (.ops [
 zmv 75 5 3,
 ⟨some 76,.binOp .eql 3 (.tmp 75) (.const (.int .i64 4)) 3,4,none⟩,
 zmv 77 76 4,
 zmg 78 6 3 77 true,
 ⟨some 79,.binOp .eql 3 (.tmp 78) (.const (.int .i64 9)) 3,4,(some (77,true))⟩,
 ⟨some 80,.pick (.tmp 77) (.tmp 79) (.const (.bool false)),4,none⟩] [0,3,4,5,6,80])
 (.cond (.tmp 80)
 (.seq (.draw (drawOps 3 c95code) [4]) (sg c95S3))
 (.skip [0,3,4,5,6]))) (sg c95S15))
def c95S17(_:Unit):Cmd:=(.seq (.seq (.ops [
 zmv 63 5 3,
 ⟨some 64,.binOp .eql 3 (.tmp 63) (.const (.int .i64 3)) 3,4,none⟩,
 zmv 65 64 4,
 zmg 66 6 3 65 true,
 ⟨some 67,.binOp .eql 3 (.tmp 66) (.const (.int .i64 7)) 3,4,(some (65,true))⟩,
 ⟨some 68,.pick (.tmp 65) (.tmp 67) (.const (.bool false)),4,none⟩] [0,3,4,5,6,68])
 (.cond (.tmp 68)
 (.seq (.draw (drawOps 2 c95code) [4]) (sg c95S2))
 (.skip [0,3,4,5,6]))) (sg c95S16))
def c95S18(_:Unit):Cmd:=(.seq (.seq (.ops [
 zmv 43 5 3,
 ⟨some 44,.binOp .eql 3 (.tmp 43) (.const (.int .i64 3)) 3,4,none⟩,
 zmv 45 44 4,
 zmg 46 6 3 45 true,
 ⟨some 47,.binOp .eql 3 (.tmp 46) (.const (.int .i64 7)) 3,4,(some (45,true))⟩,
 ⟨some 48,.pick (.tmp 45) (.tmp 47) (.const (.bool false)),4,none⟩,
 zmv 49 48 4,
 zmg 50 5 3 49 false,
 ⟨some 51,.binOp .eql 3 (.tmp 50) (.const (.int .i64 4)) 3,4,(some (49,false))⟩,
 zmg 52 51 4 49 false,
 zmg 53 6 3 52 true,
 ⟨some 54,.binOp .eql 3 (.tmp 53) (.const (.int .i64 9)) 3,4,(some (52,true))⟩,
 ⟨some 55,.pick (.tmp 52) (.tmp 54) (.const (.bool false)),4,(some (49,false))⟩,
 ⟨some 56,.pick (.tmp 49) (.const (.bool true)) (.tmp 55),4,none⟩,
 zmv 57 56 4,
 zmg 58 0 25 57 true,
 ⟨some 59,.call ⟨.builtin .len,#[(.tmp 58)],#[25]⟩,3,(some (57,true))⟩,
 ⟨some 60,.binOp .eql 3 (.tmp 59) (.const (.int .i64 0)) 3,4,(some (57,true))⟩,
 ⟨some 61,.pick (.tmp 57) (.tmp 60) (.const (.bool false)),4,none⟩] [0,3,4,5,6,61])
 (.cond (.tmp 61)
 (.seq (.ops [
 ⟨some 62,.build 150 #[(0,(.const (.slice none 0 0))),(1,(.const (.int .i64 (-1)))),(2,(.const (.bool true)))],150,none⟩,
 ⟨none,.store 150 (.tmp 4) (.tmp 62),0,none⟩] [4])
 .ret)
 (.skip [0,3,4,5,6]))) (sg c95S17))
def c95S19(_:Unit):Cmd:=(.seq (.seq (.ops [
 zmv 21 5 3,
 ⟨some 22,.binOp .eql 3 (.tmp 21) (.const (.int .i64 3)) 3,4,none⟩,
 zmv 23 22 4,
 zmg 24 6 3 23 true,
 ⟨some 25,.binOp .eql 3 (.tmp 24) (.const (.int .i64 6)) 3,4,(some (23,true))⟩,
 ⟨some 26,.pick (.tmp 23) (.tmp 25) (.const (.bool false)),4,none⟩,
 zmv 27 26 4,
 zmg 28 5 3 27 false,
 ⟨some 29,.binOp .eql 3 (.tmp 28) (.const (.int .i64 4)) 3,4,(some (27,false))⟩,
 zmg 30 29 4 27 false,
 zmg 31 6 3 30 true,
 ⟨some 32,.binOp .eql 3 (.tmp 31) (.const (.int .i64 8)) 3,4,(some (30,true))⟩,
 ⟨some 33,.pick (.tmp 30) (.tmp 32) (.const (.bool false)),4,(some (27,false))⟩,
 ⟨some 34,.pick (.tmp 27) (.const (.bool true)) (.tmp 33),4,none⟩] [0,3,4,5,6,34])
 (.cond (.tmp 34)
 (.seq (.draw (drawOps 1 c95code) [4]) (sg c95S1))
 (.skip [0,3,4,5,6]))) (sg c95S18))
def c95S20(_:Unit):Cmd:=(.seq (.seq (.ops [
 zmv 12 5 3,
 ⟨some 13,.binOp .eql 3 (.tmp 12) (.const (.int .i64 1)) 3,4,none⟩,
 zmv 14 13 4,
 zmg 15 5 3 14 false,
 ⟨some 16,.binOp .eql 3 (.tmp 15) (.const (.int .i64 2)) 3,4,(some (14,false))⟩,
 ⟨some 17,.pick (.tmp 14) (.const (.bool true)) (.tmp 16),4,none⟩] [0,3,4,5,6,17])
 (.cond (.tmp 17)
 (.seq (.ops [
 zmv 18 0 25,
 zld 19 52 3 52,
 ⟨some 20,.call ⟨.value (.func 115),#[(.tmp 18),(.tmp 19)],#[25,52]⟩,150,none⟩,
 ⟨none,.store 150 (.tmp 4) (.tmp 20),0,none⟩] [4]) (sg c95S0))
 (.skip [0,3,4,5,6]))) (sg c95S19))
def c95:Cmd:=(.seq (.ops [
 ⟨some 3,.box 52 (.tmp 1),0,none⟩,
 ⟨some 4,.alloc 150,0,none⟩] [0,3,4])
 (.seq (.draw (drawOps 0 c95code) [0,3,4,5,6]) (sg c95S20)))
attribute [go_sem] c95 c95S0 c95S1 c95S2 c95S3 c95S4 c95S5 c95S6 c95S7 c95S8 c95S9 c95S10 c95S12 c95S13 c95S14 c95S15 c95S16 c95S17 c95S18 c95S19
def c95D0:List (Bool × Ins):=[
 (true,zfa 8 52 3 3),
 (false,zld 9 3 8 3),
 (true,zfa 10 52 3 4),
 (false,zld 11 3 10 3),
 (true,zas 5 9 3),
 (true,zas 6 11 3)]
theorem c95draw0{L:List Nat}{ρ:Env}{w:World}{Q:Post}(h:DL Tryz.prog c95D0 L ρ w.drew Q):drawW Tryz.prog (drawOps 0 c95code) L ρ w Q :=
 drawW_still [true,false,true,false,true,true] c95D0 (by kernel_rfl) (by kernel_rfl) (by kernel_rfl) h
def c95D1:GT:=(.one 0 (zmv 36 0 25)
 (.one 0 (zfa 38 52 3 5)
 (.one 1 (zld 39 3 38 3)
 (.alt ⟨some 35,.buildSlice 25 0 #[],25,none⟩
 (.alt ⟨some 37,.call ⟨.builtin .append,#[(.tmp 35),(.tmp 36)],#[25,25]⟩,25,none⟩
 (.one 2 ⟨some 40,.buildSlice 25 1 #[(0,(.tmp 39))],25,none⟩
 (.one 2 ⟨some 41,.call ⟨.builtin .append,#[(.tmp 37),(.tmp 40)],#[25,25]⟩,25,none⟩
 (.one 2 ⟨some 42,.build 150 #[(0,(.tmp 41)),(1,(.const (.int .i64 0))),(2,(.const (.bool true)))],150,none⟩
 (.one 2 ⟨none,.store 150 (.tmp 4) (.tmp 42),0,none⟩
 .nil))))
 (.alt ⟨some 40,.buildSlice 25 1 #[(0,(.tmp 39))],25,none⟩
 (.one 2 ⟨some 37,.call ⟨.builtin .append,#[(.tmp 35),(.tmp 36)],#[25,25]⟩,25,none⟩
 (.one 2 ⟨some 41,.call ⟨.builtin .append,#[(.tmp 37),(.tmp 40)],#[25,25]⟩,25,none⟩
 (.one 2 ⟨some 42,.build 150 #[(0,(.tmp 41)),(1,(.const (.int .i64 0))),(2,(.const (.bool true)))],150,none⟩
 (.one 2 ⟨none,.store 150 (.tmp 4) (.tmp 42),0,none⟩
 .nil))))
 .stop))
 (.alt ⟨some 40,.buildSlice 25 1 #[(0,(.tmp 39))],25,none⟩
 (.one 2 ⟨some 35,.buildSlice 25 0 #[],25,none⟩
 (.one 2 ⟨some 37,.call ⟨.builtin .append,#[(.tmp 35),(.tmp 36)],#[25,25]⟩,25,none⟩
 (.one 2 ⟨some 41,.call ⟨.builtin .append,#[(.tmp 37),(.tmp 40)],#[25,25]⟩,25,none⟩
 (.one 2 ⟨some 42,.build 150 #[(0,(.tmp 41)),(1,(.const (.int .i64 0))),(2,(.const (.bool true)))],150,none⟩
 (.one 2 ⟨none,.store 150 (.tmp 4) (.tmp 42),0,none⟩
 .nil)))))
 .stop)))))
theorem c95draw1{L:List Nat}{ρ:Env}{w:World}{Q:Post}(S:World→Prop)(hS:S w.drew)(h:DT Tryz.prog S c95D1 L ρ w.drew Q):drawW Tryz.prog (drawOps 1 c95code) L ρ w Q :=
 drawW_tree [4] (.one 0 1 (.one 0 3 (.one 1 4 (.alt 0 (.alt 2 (.one 2 5 (.one 2 6 (.one 2 7 (.one 2 8 .nil)))) (.alt 5 (.one 2 2 (.one 2 6 (.one 2 7 (.one 2 8 .nil)))) .stop)) (.alt 5 (.one 2 0 (.one 2 2 (.one 2 6 (.one 2 7 (.one 2 8 .nil))))) .stop))))) c95D1 (by kernel_rfl) (by kernel_rfl) (by kernel_rfl) S hS h
def c95D2:List (Bool × Ins):=[
 (true,zmv 69 0 25),
 (true,⟨some 70,.slice 25 (.tmp 69) (some (.const (.int .i64 1))) none none,25,none⟩),
 (true,zmv 71 0 25),
 (true,⟨some 72,.indexAddr 25 (.tmp 71) (.const (.int .i64 0)),0,none⟩),
 (false,zld 73 3 72 3),
 (false,⟨some 74,.build 150 #[(0,(.tmp 70)),(1,(.tmp 73)),(2,(.const (.bool true)))],150,none⟩),
 (false,⟨none,.store 150 (.tmp 4) (.tmp 74),0,none⟩)]
theorem c95draw2{L:List Nat}{ρ:Env}{w:World}{Q:Post}(h:DL Tryz.prog c95D2 L ρ w.drew Q):drawW Tryz.prog (drawOps 2 c95code) L ρ w Q :=
 drawW_by [(true,0),(true,1),(true,2),(true,3),(false,4),(false,5),(false,6)] c95D2 (by kernel_rfl) (by kernel_rfl) (by kernel_rfl) h
def c95D3:List (Bool × Ins):=[
 (true,zmv 81 0 25),
 (true,zmv 82 0 25),
 (true,⟨some 83,.call ⟨.builtin .len,#[(.tmp 82)],#[25]⟩,3,none⟩),
 (true,⟨some 84,.binOp .sub 3 (.tmp 83) (.const (.int .i64 1)) 3,3,none⟩),
 (true,⟨some 85,.slice 25 (.tmp 81) none (some (.tmp 84)) none,25,none⟩),
 (true,zmv 86 0 25),
 (true,zmv 87 0 25),
 (true,⟨some 88,.call ⟨.builtin .len,#[(.tmp 87)],#[25]⟩,3,none⟩),
 (true,⟨some 89,.binOp .sub 3 (.tmp 88) (.const (.int .i64 1)) 3,3,none⟩),
 (true,zix 90 25 86 89),
 (false,zld 91 3 90 3),
 (false,⟨some 92,.build 150 #[(0,(.tmp 85)),(1,(.tmp 91)),(2,(.const (.bool true)))],150,none⟩),
 (false,⟨none,.store 150 (.tmp 4) (.tmp 92),0,none⟩)]
theorem c95draw3{L:List Nat}{ρ:Env}{w:World}{Q:Post}(h:DL Tryz.prog c95D3 L ρ w.drew Q):drawW Tryz.prog (drawOps 3 c95code) L ρ w Q :=
 drawW_by [(true,0),(true,1),(true,2),(true,3),(true,4),(true,5),(true,6),(true,7),(true,8),(true,9),(false,10),(false,11),(false,12)] c95D3 (by kernel_rfl) (by kernel_rfl) (by kernel_rfl) h
def c95D4:List (Bool × Ins):=[
 (true,zmv 108 5 3),
 (true,⟨some 109,.binOp .eql 3 (.tmp 108) (.const (.int .i64 6)) 3,4,none⟩),
 (true,zmv 110 109 4),
 (true,zmg 111 6 3 110 true),
 (true,⟨some 112,.binOp .eql 3 (.tmp 111) (.const (.int .i64 14)) 3,4,(some (110,true))⟩),
 (true,⟨some 113,.pick (.tmp 110) (.tmp 112) (.const (.bool false)),4,none⟩),
 (true,zmv 114 113 4),
 (true,zmg 115 0 25 114 true),
 (true,⟨some 116,.call ⟨.builtin .len,#[(.tmp 115)],#[25]⟩,3,(some (114,true))⟩),
 (true,⟨some 117,.binOp .eql 3 (.tmp 116) (.const (.int .i64 1)) 3,4,(some (114,true))⟩),
 (true,⟨some 118,.pick (.tmp 114) (.tmp 117) (.const (.bool false)),4,none⟩),
 (true,zmv 119 118 4),
 (true,zmg 120 0 25 119 true),
 (true,⟨some 121,.indexAddr 25 (.tmp 120) (.const (.int .i64 0)),0,(some (119,true))⟩),
 (false,⟨some 122,.load 3 (.tmp 121),3,(some (119,true))⟩),
 (true,⟨some 123,.fieldAddr 52 (.tmp 3) 1,0,(some (119,true))⟩),
 (false,⟨some 124,.load 3 (.tmp 123),3,(some (119,true))⟩),
 (true,⟨some 125,.binOp .eql 3 (.tmp 122) (.tmp 124) 3,4,(some (119,true))⟩),
 (true,⟨some 126,.pick (.tmp 119) (.tmp 125) (.const (.bool false)),4,none⟩)]
theorem c95draw4{L:List Nat}{ρ:Env}{w:World}{Q:Post}(h:DL Tryz.prog c95D4 L ρ w.drew Q):drawW Tryz.prog (drawOps 4 c95code) L ρ w Q :=
 drawW_still [true,true,true,true,true,true,true,true,true,true,true,true,true,true,false,true,false,true,true] c95D4 (by kernel_rfl) (by kernel_rfl) (by kernel_rfl) h
theorem ent95(a0 a1:Value)(w:World)(K:Value→World→Prop)(h:W Tryz.prog c95 [(0,a0),(1,a1)] w (finQ Tryz.prog [.cell 4 150] K)):Ret Tryz.prog 95 [a0,a1] w K :=
 Ret_of_W (code:=c95code) Tryz.func95 (by kernel_rfl) (by kernel_rfl) (of_decide_eq_true (by kernel_rfl)) h
@[go_sem] theorem go95:goFunc Tryz.prog 95=true:=by kernel_rfl
def c96code:Code:=match Tryz.f96.body with | some c=>c | none=>.skip
def c96S0(_:Unit):Cmd:=.ret
def c96S1(_:Unit):Cmd:=(.cond (.tmp 41)
 (.seq (.ops [
 zfa 42 52 3 6,
 zld 43 3 42 3,
 ⟨some 44,.buildSlice 25 1 #[(0,(.tmp 43))],25,none⟩,
 zas 4 44 25,
 ⟨some 5,.assign (.const (.int .i64 1)),3,none⟩,
 ⟨some 6,.assign (.const (.bool true)),4,none⟩] [4,5,6])
 .ret)
 (.skip [0]))
def c96S2(_:Unit):Cmd:=(.seq (.ops [
 zmv 45 0 25,
 zas 4 45 25,
 ⟨some 5,.assign (.const (.int .i64 0)),3,none⟩,
 ⟨some 6,.assign (.const (.bool true)),4,none⟩] [4,5,6])
 .ret)
def c96S3(_:Unit):Cmd:=(.seq (.ops [
 ⟨some 4,.assign (.const (.slice none 0 0)),25,none⟩,
 ⟨some 5,.assign (.const (.int .i64 0)),3,none⟩,
 ⟨some 6,.assign (.const (.bool false)),4,none⟩] [4,5,6])
 .ret)
def c96:Cmd:=(.seq (.ops [
 ⟨some 3,.box 52 (.tmp 1),0,none⟩,
 ⟨some 4,.assign (.const (.slice none 0 0)),25,none⟩,
 ⟨some 5,.assign (.const (.int .i64 0)),3,none⟩,
 ⟨some 6,.assign (.const (.bool false)),4,none⟩] [0,3])
 (.seq (.block 0 (.seq (.ops [
 zfa 8 52 3 4,
 zld 9 3 8 3,
 ⟨some 10,.binOp .eql 3 (.tmp 9) (.const (.int .i64 1)) 3,4,none⟩,
 zas 7 10 4] [0,3,7])
 (.cond (.tmp 7)
 (.seq (.draw (drawOps 0 c96code) [4,5,6]) (sg c96S0))
 (.seq (.ops [
 zfa 16 52 3 3,
 zld 17 3 16 3,
 ⟨some 18,.binOp .eql 3 (.tmp 17) (.const (.int .i64 1)) 3,4,none⟩,
 zmv 19 18 4,
 ⟨some 20,.fieldAddr 52 (.tmp 3) 4,0,(some (19,true))⟩,
 ⟨some 21,.load 3 (.tmp 20),3,(some (19,true))⟩,
 ⟨some 22,.binOp .eql 3 (.tmp 21) (.const (.int .i64 2)) 3,4,(some (19,true))⟩,
 ⟨some 23,.pick (.tmp 19) (.tmp 22) (.const (.bool false)),4,none⟩,
 zas 15 23 4] [0,3,15])
 (.cond (.tmp 15)
 (.seq (.ops [
 zfa 24 52 3 5,
 zld 25 3 24 3,
 ⟨some 26,.buildSlice 25 1 #[(0,(.tmp 25))],25,none⟩,
 zas 4 26 25,
 ⟨some 5,.assign (.const (.int .i64 0)),3,none⟩,
 ⟨some 6,.assign (.const (.bool true)),4,none⟩] [4,5,6])
 .ret)
 (.seq (.ops [
 zfa 28 52 3 3,
 zld 29 3 28 3,
 ⟨some 30,.binOp .eql 3 (.tmp 29) (.const (.int .i64 1)) 3,4,none⟩,
 zmv 31 30 4,
 ⟨some 32,.fieldAddr 52 (.tmp 3) 4,0,(some (31,true))⟩,
 ⟨some 33,.load 3 (.tmp 32),3,(some (31,true))⟩,
 ⟨some 34,.binOp .eql 3 (.tmp 33) (.const (.int .i64 3)) 3,4,(some (31,true))⟩,
 ⟨some 35,.pick (.tmp 31) (.tmp 34) (.const (.bool false)),4,none⟩,
 zas 27 35 4] [0,3,27])
 (.cond (.tmp 27)
 (.seq (.seq (.draw (drawOps 1 c96code) [0,3,41]) (sg c96S1)) (sg c96S2))
 (.seq (.ops [
 zfa 47 52 3 3,
 zld 48 3 47 3,
 ⟨some 49,.binOp .eql 3 (.tmp 48) (.const (.int .i64 2)) 3,4,none⟩,
 zmv 50 49 4,
 ⟨some 51,.fieldAddr 52 (.tmp 3) 4,0,(some (50,true))⟩,
 ⟨some 52,.load 3 (.tmp 51),3,(some (50,true))⟩,
 ⟨some 53,.binOp .eql 3 (.tmp 52) (.const (.int .i64 4)) 3,4,(some (50,true))⟩,
 ⟨some 54,.pick (.tmp 50) (.tmp 53) (.const (.bool false)),4,none⟩,
 zas 46 54 4] [0,3,46])
 (.cond (.tmp 46)
 (.seq (.opsX [
 zmv 55 0 25,
 ⟨some 56,.indexAddr 25 (.tmp 55) (.const (.int .i64 0)),0,none⟩,
 zld 57 3 56 3,
 ⟨some 58,.binOp .add 3 (.tmp 57) (.const (.int .i64 1)) 3,3,none⟩,
 ⟨some 59,.buildSlice 25 1 #[(0,(.tmp 58))],25,none⟩,
 zas 4 59 25,
 ⟨some 5,.assign (.const (.int .i64 0)),3,none⟩,
 ⟨some 6,.assign (.const (.bool true)),4,none⟩] [4,5,6])
 .ret)
 (.seq (.ops [
 zfa 61 52 3 3,
 zld 62 3 61 3,
 ⟨some 63,.binOp .eql 3 (.tmp 62) (.const (.int .i64 2)) 3,4,none⟩,
 zmv 64 63 4,
 ⟨some 65,.fieldAddr 52 (.tmp 3) 4,0,(some (64,true))⟩,
 ⟨some 66,.load 3 (.tmp 65),3,(some (64,true))⟩,
 ⟨some 67,.binOp .eql 3 (.tmp 66) (.const (.int .i64 5)) 3,4,(some (64,true))⟩,
 ⟨some 68,.pick (.tmp 64) (.tmp 67) (.const (.bool false)),4,none⟩,
 zas 60 68 4] [0,60])
 (.cond (.tmp 60)
 (.seq (.opsX [
 zmv 69 0 25,
 ⟨some 70,.indexAddr 25 (.tmp 69) (.const (.int .i64 0)),0,none⟩,
 zld 71 3 70 3,
 ⟨some 72,.binOp .sub 3 (.tmp 71) (.const (.int .i64 1)) 3,3,none⟩,
 ⟨some 73,.buildSlice 25 1 #[(0,(.tmp 72))],25,none⟩,
 zas 4 73 25,
 ⟨some 5,.assign (.const (.int .i64 0)),3,none⟩,
 ⟨some 6,.assign (.const (.bool true)),4,none⟩] [4,5,6])
 .ret)
 (.skip [])))))))))))) (sg c96S3)))
attribute [go_sem] c96 c96S0 c96S1 c96S2 c96S3
def c96D0:List (Bool × Ins):=[
 (true,zmv 11 0 25),
 (true,zmv 12 0 25),
 (true,⟨some 13,.indexAddr 25 (.tmp 12) (.const (.int .i64 0)),0,none⟩),
 (true,zas 4 11 25),
 (false,zld 14 3 13 3),
 (true,zas 5 14 3),
 (true,⟨some 6,.assign (.const (.bool true)),4,none⟩)]
theorem c96draw0{L:List Nat}{ρ:Env}{w:World}{Q:Post}(h:DL Tryz.prog c96D0 L ρ w.drew Q):drawW Tryz.prog (drawOps 0 c96code) L ρ w Q :=
 drawW_by [(true,0),(true,1),(true,2),(true,4),(false,3),(true,5),(true,6)] c96D0 (by kernel_rfl) (by kernel_rfl) (by kernel_rfl) h
def c96D1:List (Bool × Ins):=[
 (true,zmv 36 0 25),
 (true,⟨some 37,.indexAddr 25 (.tmp 36) (.const (.int .i64 0)),0,none⟩),
 (false,zld 38 3 37 3),
 (true,zfa 39 52 3 5),
 (false,zld 40 3 39 3),
 (true,⟨some 41,.binOp .eql 3 (.tmp 38) (.tmp 40) 3,4,none⟩)]
theorem c96draw1{L:List Nat}{ρ:Env}{w:World}{Q:Post}(h:DL Tryz.prog c96D1 L ρ w.drew Q):drawW Tryz.prog (drawOps 1 c96code) L ρ w Q :=
 drawW_still [true,true,false,true,false,true] c96D1 (by kernel_rfl) (by kernel_rfl) (by kernel_rfl) h
theorem ent96(a0 a1:Value)(w:World)(K:Value→World→Prop)(h:W Tryz.prog c96 [(0,a0),(1,a1)] w (finQ Tryz.prog [.tmp 4,.tmp 5,.tmp 6] K)):Ret Tryz.prog 96 [a0,a1] w K :=
 Ret_of_W (code:=c96code) Tryz.func96 (by kernel_rfl) (by kernel_rfl) (of_decide_eq_true (by kernel_rfl)) h
@[go_sem] theorem go96:goFunc Tryz.prog 96=true:=by kernel_rfl
def c97code:Code:=match Tryz.f97.body with | some c=>c | none=>.skip
def c97S0(_:Unit):Cmd:=.ret
def c97S1(_:Unit):Cmd:=.ret
def c97S2(_:Unit):Cmd:=(.seq (.draw (drawOps 0 c97code) [4,5,6]) (sg c97S1))
def c97S3(_:Unit):Cmd:=.ret
def c97S4(_:Unit):Cmd:=(.seq (.draw (drawOps 1 c97code) [4,5,6]) (sg c97S3))
def c97S5(_:Unit):Cmd:=(.cond (.tmp 10)
 (.seq (.ops [
 zmv 27 0 25,
 zfa 28 52 3 5,
 zld 29 3 28 3,
 ⟨some 30,.buildSlice 25 1 #[(0,(.tmp 29))],25,none⟩,
 ⟨some 31,.call ⟨.builtin .append,#[(.tmp 27),(.tmp 30)],#[25,25]⟩,25,none⟩,
 zas 4 31 25,
 ⟨some 5,.assign (.const (.int .i64 0)),3,none⟩,
 ⟨some 6,.assign (.const (.bool true)),4,none⟩] [4,5,6]) (sg c97S0))
 (.seq (.ops [
 zfa 33 52 3 3,
 zld 34 3 33 3,
 ⟨some 35,.binOp .eql 3 (.tmp 34) (.const (.int .i64 3)) 3,4,none⟩,
 zmv 36 35 4,
 ⟨some 37,.fieldAddr 52 (.tmp 3) 4,0,(some (36,true))⟩,
 ⟨some 38,.load 3 (.tmp 37),3,(some (36,true))⟩,
 ⟨some 39,.binOp .eql 3 (.tmp 38) (.const (.int .i64 7)) 3,4,(some (36,true))⟩,
 ⟨some 40,.pick (.tmp 36) (.tmp 39) (.const (.bool false)),4,none⟩,
 zas 32 40 4] [0,3,7,32])
 (.cond (.tmp 32)
 (.seq (.seq (.ops [
 zmv 41 7 3,
 ⟨some 42,.binOp .eql 3 (.tmp 41) (.const (.int .i64 0)) 3,4,none⟩] [0,42])
 (.cond (.tmp 42)
 (.seq (.ops [
 zmv 43 0 25,
 zas 4 43 25,
 ⟨some 5,.assign (.const (.int .i64 (-1))),3,none⟩,
 ⟨some 6,.assign (.const (.bool true)),4,none⟩] [4,5,6])
 .ret)
 (.skip [0]))) (sg c97S2))
 (.seq (.ops [
 zfa 50 52 3 3,
 zld 51 3 50 3,
 ⟨some 52,.binOp .eql 3 (.tmp 51) (.const (.int .i64 4)) 3,4,none⟩,
 zmv 53 52 4,
 ⟨some 54,.fieldAddr 52 (.tmp 3) 4,0,(some (53,true))⟩,
 ⟨some 55,.load 3 (.tmp 54),3,(some (53,true))⟩,
 ⟨some 56,.binOp .eql 3 (.tmp 55) (.const (.int .i64 9)) 3,4,(some (53,true))⟩,
 ⟨some 57,.pick (.tmp 53) (.tmp 56) (.const (.bool false)),4,none⟩,
 zas 49 57 4] [0,7,49])
 (.cond (.tmp 49)
 (.seq (.seq (.ops [
 zmv 58 7 3,
 ⟨some 59,.binOp .eql 3 (.tmp 58) (.const (.int .i64 0)) 3,4,none⟩] [0,7,59])
 (.cond (.tmp 59)
 (.seq (.ops [
 zmv 60 0 25,
 zas 4 60 25,
 ⟨some 5,.assign (.const (.int .i64 (-1))),3,none⟩,
 ⟨some 6,.assign (.const (.bool true)),4,none⟩] [4,5,6])
 .ret)
 (.skip [0,7]))) (sg c97S4))
 (.skip []))))))
def c97S6(_:Unit):Cmd:=(.seq (.ops [
 ⟨some 4,.assign (.const (.slice none 0 0)),25,none⟩,
 ⟨some 5,.assign (.const (.int .i64 0)),3,none⟩,
 ⟨some 6,.assign (.const (.bool false)),4,none⟩] [4,5,6])
 .ret)
def c97:Cmd:=(.seq (.ops [
 ⟨some 3,.box 52 (.tmp 1),0,none⟩,
 ⟨some 4,.assign (.const (.slice none 0 0)),25,none⟩,
 ⟨some 5,.assign (.const (.int .i64 0)),3,none⟩,
 ⟨some 6,.assign (.const (.bool false)),4,none⟩] [0,3])
 (.seq (.ops [
 zmv 8 0 25,
 ⟨some 9,.call ⟨.builtin .len,#[(.tmp 8)],#[25]⟩,3,none⟩,
 zas 7 9 3] [0,3,7])
 (.seq (.block 0 (.seq (.seq (.ops [
 zfa 11 52 3 3,
 zld 12 3 11 3,
 ⟨some 13,.binOp .eql 3 (.tmp 12) (.const (.int .i64 3)) 3,4,none⟩,
 zmv 14 13 4,
 ⟨some 15,.fieldAddr 52 (.tmp 3) 4,0,(some (14,true))⟩,
 ⟨some 16,.load 3 (.tmp 15),3,(some (14,true))⟩,
 ⟨some 17,.binOp .eql 3 (.tmp 16) (.const (.int .i64 6)) 3,4,(some (14,true))⟩,
 ⟨some 18,.pick (.tmp 14) (.tmp 17) (.const (.bool false)),4,none⟩,
 zas 10 18 4] [0,3,7,10])
 (.cond (.tmp 10)
 (.skip [0,3,7,10])
 (.ops [
 zfa 19 52 3 3,
 zld 20 3 19 3,
 ⟨some 21,.binOp .eql 3 (.tmp 20) (.const (.int .i64 4)) 3,4,none⟩,
 zmv 22 21 4,
 ⟨some 23,.fieldAddr 52 (.tmp 3) 4,0,(some (22,true))⟩,
 ⟨some 24,.load 3 (.tmp 23),3,(some (22,true))⟩,
 ⟨some 25,.binOp .eql 3 (.tmp 24) (.const (.int .i64 8)) 3,4,(some (22,true))⟩,
 ⟨some 26,.pick (.tmp 22) (.tmp 25) (.const (.bool false)),4,none⟩,
 zas 10 26 4] [0,3,7,10]))) (sg c97S5))) (sg c97S6))))
attribute [go_sem] c97 c97S0 c97S1 c97S2 c97S3 c97S4 c97S5 c97S6
def c97D0:List (Bool × Ins):=[
 (true,zmv 44 0 25),
 (true,⟨some 45,.slice 25 (.tmp 44) (some (.const (.int .i64 1))) none none,25,none⟩),
 (true,zmv 46 0 25),
 (true,⟨some 47,.indexAddr 25 (.tmp 46) (.const (.int .i64 0)),0,none⟩),
 (true,zas 4 45 25),
 (false,zld 48 3 47 3),
 (true,zas 5 48 3),
 (true,⟨some 6,.assign (.const (.bool true)),4,none⟩)]
theorem c97draw0{L:List Nat}{ρ:Env}{w:World}{Q:Post}(h:DL Tryz.prog c97D0 L ρ w.drew Q):drawW Tryz.prog (drawOps 0 c97code) L ρ w Q :=
 drawW_by [(true,0),(true,1),(true,2),(true,3),(true,5),(false,4),(true,6),(true,7)] c97D0 (by kernel_rfl) (by kernel_rfl) (by kernel_rfl) h
def c97D1:List (Bool × Ins):=[
 (true,zmv 61 0 25),
 (true,zmv 62 7 3),
 (true,⟨some 63,.binOp .sub 3 (.tmp 62) (.const (.int .i64 1)) 3,3,none⟩),
 (true,⟨some 64,.slice 25 (.tmp 61) none (some (.tmp 63)) none,25,none⟩),
 (true,zmv 65 0 25),
 (true,zmv 66 7 3),
 (true,⟨some 67,.binOp .sub 3 (.tmp 66) (.const (.int .i64 1)) 3,3,none⟩),
 (true,zix 68 25 65 67),
 (true,zas 4 64 25),
 (false,zld 69 3 68 3),
 (true,zas 5 69 3),
 (true,⟨some 6,.assign (.const (.bool true)),4,none⟩)]
theorem c97draw1{L:List Nat}{ρ:Env}{w:World}{Q:Post}(h:DL Tryz.prog c97D1 L ρ w.drew Q):drawW Tryz.prog (drawOps 1 c97code) L ρ w Q :=
 drawW_by [(true,0),(true,1),(true,2),(true,3),(true,4),(true,5),(true,6),(true,7),(true,9),(false,8),(true,10),(true,11)] c97D1 (by kernel_rfl) (by kernel_rfl) (by kernel_rfl) h
theorem ent97(a0 a1:Value)(w:World)(K:Value→World→Prop)(h:W Tryz.prog c97 [(0,a0),(1,a1)] w (finQ Tryz.prog [.tmp 4,.tmp 5,.tmp 6] K)):Ret Tryz.prog 97 [a0,a1] w K :=
 Ret_of_W (code:=c97code) Tryz.func97 (by kernel_rfl) (by kernel_rfl) (of_decide_eq_true (by kernel_rfl)) h
@[go_sem] theorem go97:goFunc Tryz.prog 97=true:=by kernel_rfl
def c98code:Code:=match Tryz.f98.body with | some c=>c | none=>.skip
def c98S0(_:Unit):Cmd:=.ret
def c98S1(_:Unit):Cmd:=.ret
def c98S2(_:Unit):Cmd:=.ret
def c98S3(_:Unit):Cmd:=(.cond (.tmp 16)
 (.seq (.ops [
 zmv 33 0 25,
 zfa 34 52 3 4,
 zld 35 3 34 3,
 ⟨some 36,.binOp .eql 3 (.tmp 35) (.const (.int .i64 12)) 3,4,none⟩,
 zmv 37 36 4,
 zmg 38 8 4 37 true,
 ⟨some 39,.pick (.tmp 37) (.tmp 38) (.const (.bool false)),4,none⟩,
 ⟨some 40,.call ⟨.value (.func 119),#[(.tmp 39)],#[4]⟩,3,none⟩,
 zas 4 33 25,
 zas 5 40 3,
 ⟨some 6,.assign (.const (.bool true)),4,none⟩] [4,5,6]) (sg c98S0))
 (.seq (.ops [
 zfa 42 52 3 4,
 zld 43 3 42 3,
 ⟨some 44,.binOp .eql 3 (.tmp 43) (.const (.int .i64 10)) 3,4,none⟩,
 zas 41 44 4] [0,3,7,41])
 (.cond (.tmp 41)
 (.seq (.ops [
 zmv 45 0 25,
 zmv 46 7 3,
 zfa 47 52 3 5,
 zld 48 3 47 3,
 ⟨some 49,.buildSlice 25 1 #[(0,(.tmp 48))],25,none⟩,
 ⟨some 50,.call ⟨.value (.func 120),#[(.tmp 45),(.tmp 46),(.tmp 49)],#[25,3,25]⟩,25,none⟩,
 zas 4 50 25,
 ⟨some 5,.assign (.const (.int .i64 1)),3,none⟩,
 ⟨some 6,.assign (.const (.bool true)),4,none⟩] [4,5,6]) (sg c98S1))
 (.seq (.ops [
 zfa 52 52 3 4,
 zld 53 3 52 3,
 ⟨some 54,.binOp .eql 3 (.tmp 53) (.const (.int .i64 11)) 3,4,none⟩,
 zas 51 54 4] [0,7,51])
 (.cond (.tmp 51)
 (.seq (.ops [
 zmv 55 0 25,
 zmv 56 7 3,
 zmv 57 7 3,
 ⟨some 58,.binOp .add 3 (.tmp 57) (.const (.int .i64 1)) 3,3,none⟩,
 ⟨some 59,.call ⟨.value (.func 121),#[(.tmp 55),(.tmp 56),(.tmp 58)],#[25,3,3]⟩,25,none⟩,
 zas 4 59 25,
 ⟨some 5,.assign (.const (.int .i64 1)),3,none⟩,
 ⟨some 6,.assign (.const (.bool true)),4,none⟩] [4,5,6]) (sg c98S2))
 (.skip []))))))
def c98S4(_:Unit):Cmd:=(.seq (.ops [
 ⟨some 4,.assign (.const (.slice none 0 0)),25,none⟩,
 ⟨some 5,.assign (.const (.int .i64 0)),3,none⟩,
 ⟨some 6,.assign (.const (.bool false)),4,none⟩] [4,5,6])
 .ret)
def c98S5(_:Unit):Cmd:=(.seq (.block 0 (.seq (.seq (.ops [
 zfa 17 52 3 4,
 zld 18 3 17 3,
 ⟨some 19,.binOp .eql 3 (.tmp 18) (.const (.int .i64 12)) 3,4,none⟩,
 zas 16 19 4] [0,3,7,8,16])
 (.cond (.tmp 16)
 (.skip [0,3,7,8,16])
 (.seq (.ops [
 zfa 20 52 3 4,
 zld 21 3 20 3,
 ⟨some 22,.binOp .eql 3 (.tmp 21) (.const (.int .i64 10)) 3,4,none⟩,
 zmv 23 22 4,
 zmg 24 8 4 23 true,
 ⟨some 25,.pick (.tmp 23) (.tmp 24) (.const (.bool false)),4,none⟩,
 zas 16 25 4] [0,3,7,8,16])
 (.cond (.tmp 16)
 (.skip [0,3,7,8,16])
 (.ops [
 zfa 26 52 3 4,
 zld 27 3 26 3,
 ⟨some 28,.binOp .eql 3 (.tmp 27) (.const (.int .i64 11)) 3,4,none⟩,
 zmv 29 28 4,
 zmg 30 8 4 29 true,
 ⟨some 31,.unOp .not 4 (.tmp 30),4,(some (29,true))⟩,
 ⟨some 32,.pick (.tmp 29) (.tmp 31) (.const (.bool false)),4,none⟩,
 zas 16 32 4] [0,3,7,8,16]))))) (sg c98S3))) (sg c98S4))
def c98:Cmd:=(.seq (.ops [
 ⟨some 3,.box 52 (.tmp 1),0,none⟩,
 ⟨some 4,.assign (.const (.slice none 0 0)),25,none⟩,
 ⟨some 5,.assign (.const (.int .i64 0)),3,none⟩,
 ⟨some 6,.assign (.const (.bool false)),4,none⟩] [0,3])
 (.seq (.ops [
 zmv 10 0 25,
 zfa 11 52 3 5,
 zld 12 3 11 3,
 ⟨some 13,.call ⟨.value (.func 118),#[(.tmp 10),(.tmp 12)],#[25,3]⟩,138,none⟩,
 zmv 9 13 138,
 ⟨some 14,.extract (.tmp 9) 0,3,none⟩,
 ⟨some 15,.extract (.tmp 9) 1,4,none⟩,
 zas 7 14 3,
 zas 8 15 4] [0,3,7,8]) (sg c98S5)))
attribute [go_sem] c98 c98S0 c98S1 c98S2 c98S3 c98S4
theorem ent98(a0 a1:Value)(w:World)(K:Value→World→Prop)(h:W Tryz.prog c98 [(0,a0),(1,a1)] w (finQ Tryz.prog [.tmp 4,.tmp 5,.tmp 6] K)):Ret Tryz.prog 98 [a0,a1] w K :=
 Ret_of_W (code:=c98code) Tryz.func98 (by kernel_rfl) (by kernel_rfl) (of_decide_eq_true (by kernel_rfl)) h
@[go_sem] theorem go98:goFunc Tryz.prog 98=true:=by kernel_rfl
def c99code:Code:=match Tryz.f99.body with | some c=>c | none=>.skip
def c99:Cmd:=(.seq (.ops [
 ⟨some 2,.box 52 (.tmp 0),0,none⟩,
 ⟨some 3,.box 52 (.tmp 1),0,none⟩,
 ⟨some 4,.assign (.const (.bool false)),4,none⟩] [2,3])
 (.seq (.ops [
 zfa 5 52 2 7,
 zld 6 4 5 4,
 zmv 7 6 4,
 ⟨some 8,.fieldAddr 52 (.tmp 2) 10,0,(some (7,true))⟩,
 ⟨some 9,.load 3 (.tmp 8),3,(some (7,true))⟩,
 ⟨some 10,.fieldAddr 52 (.tmp 3) 9,0,(some (7,true))⟩,
 ⟨some 11,.load 3 (.tmp 10),3,(some (7,true))⟩,
 ⟨some 12,.binOp .lss 3 (.tmp 9) (.tmp 11) 3,4,(some (7,true))⟩,
 ⟨some 13,.pick (.tmp 7) (.tmp 12) (.const (.bool false)),4,none⟩,
 zas 4 13 4] [4])
 .ret))
attribute [go_sem] c99
theorem ent99(a0 a1:Value)(w:World)(K:Value→World→Prop)(h:W Tryz.prog c99 [(0,a0),(1,a1)] w (finQ Tryz.prog [.tmp 4] K)):Ret Tryz.prog 99 [a0,a1] w K :=
 Ret_of_W (code:=c99code) Tryz.func99 (by kernel_rfl) (by kernel_rfl) (of_decide_eq_true (by kernel_rfl)) h
@[go_sem] theorem go99:goFunc Tryz.prog 99=true:=by kernel_rfl
def c100code:Code:=match Tryz.f100.body with | some c=>c | none=>.skip
def c100A0(_:Unit):Cmd:=(.ops [
 zas 5 7 3] [2,5])
def c100B0(_:Unit):Cmd:=(.block 1 (.ops [
 zld 8 25 2 25,
 zmv 9 5 3,
 ⟨some 10,.buildSlice 25 1 #[(0,(.tmp 9))],25,none⟩,
 ⟨some 11,.call ⟨.builtin .append,#[(.tmp 8),(.tmp 10)],#[25,25]⟩,25,none⟩,
 ⟨none,.store 25 (.tmp 2) (.tmp 11),0,none⟩] []))
def c100S0(_:Unit):Cmd:=(.seq (.ops [
 zld 12 25 2 25,
 zas 4 12 25] [4])
 .ret)
def c100:Cmd:=(.seq (.ops [
 ⟨some 2,.box 25 (.tmp 0),0,none⟩,
 ⟨some 4,.assign (.const (.slice none 0 0)),25,none⟩] [1,2,4])
 (.seq (.seq (.ops [
 zmv 6 1 94] [2,4,6])
 (.block 0 (.rangeF (.tmp 6) [7] (sg c100A0) (sg c100B0) [2,4]))) (sg c100S0)))
attribute [go_sem] c100 c100S0
theorem ent100(a0 a1:Value)(w:World)(K:Value→World→Prop)(h:W Tryz.prog c100 [(0,a0),(1,a1)] w (finQ Tryz.prog [.tmp 4] K)):Ret Tryz.prog 100 [a0,a1] w K :=
 Ret_of_W (code:=c100code) Tryz.func100 (by kernel_rfl) (by kernel_rfl) (of_decide_eq_true (by kernel_rfl)) h
@[go_sem] theorem go100:goFunc Tryz.prog 100=true:=by kernel_rfl
def c112code:Code:=match Tryz.f112.body with | some c=>c | none=>.skip
def c112S0(_:Unit):Cmd:=(.ops [
 ⟨some 21,.binOp .add 3 (.tmp 12) (.const (.int .i64 1)) 3,3,none⟩,
 zmv 12 21 3] [3,10,11,12])
def c112S1(_:Unit):Cmd:=(.seq (.block 1 (.seq (.ops [
 zix 14 25 10 12,
 zld 15 3 14 3,
 zas 5 15 3] [3,5,10,11,12])
 (.ops [
 zmv 16 3 9,
 zmv 17 5 3,
 ⟨some 18,.call ⟨.value (.func 137),#[(.tmp 17)],#[3]⟩,147,none⟩,
 ⟨some 19,.call ⟨.value (.func 136),#[(.tmp 18)],#[147]⟩,9,none⟩,
 ⟨some 20,.binOp .add 9 (.tmp 16) (.tmp 19) 9,9,none⟩,
 zas 3 20 9] [3,10,11,12]))) (sg c112S0))
def c112L0(_:Unit):Cmd:=(.seq (.ops [
 ⟨some 13,.binOp .lss 3 (.tmp 12) (.tmp 11) 3,0,none⟩] [3,10,11,12,13])
 (.seq (.cond (.tmp 13)
 (.skip [3,10,11,12])
 (.exit 0 [3])) (sg c112S1)))
def c112S2(_:Unit):Cmd:=(.seq (.ops [
 zmv 22 3 9,
 zas 2 22 9] [2])
 .ret)
def c112S3(_:Unit):Cmd:=(.seq (.seq (.ops [
 zmv 10 0 25,
 ⟨some 11,.call ⟨.builtin .len,#[(.tmp 10)],#[25]⟩,3,none⟩,
 ⟨some 12,.move (.const (.int .i64 0)),3,none⟩] [3,10,11,12])
 (.block 0 (.loop (sg c112L0)))) (sg c112S2))
def c112:Cmd:=(.seq (.ops [
 ⟨some 2,.assign (.const (.string (ofL []))),9,none⟩] [0])
 (.seq (.ops [
 zmv 6 0 25,
 ⟨some 7,.call ⟨.builtin .len,#[(.tmp 6)],#[25]⟩,3,none⟩,
 ⟨some 8,.convert 3 147 (.tmp 7),147,none⟩,
 ⟨some 9,.call ⟨.value (.func 136),#[(.tmp 8)],#[147]⟩,9,none⟩,
 zas 3 9 9] [0,3]) (sg c112S3)))
attribute [go_sem] c112 c112S0 c112S1 c112L0 c112S2 c112S3
theorem ent112(a0:Value)(w:World)(K:Value→World→Prop)(h:W Tryz.prog c112 [(0,a0)] w (finQ Tryz.prog [.tmp 2] K)):Ret Tryz.prog 112 [a0] w K :=
 Ret_of_W (code:=c112code) Tryz.func112 (by kernel_rfl) (by kernel_rfl) (of_decide_eq_true (by kernel_rfl)) h
@[go_sem] theorem go112:goFunc Tryz.prog 112=true:=by kernel_rfl
def c113code:Code:=match Tryz.f113.body with | some c=>c | none=>.skip
def c113S0(_:Unit):Cmd:=(.cond (.tmp 34)
 (.skip [0,1,2,3,8,9])
 (.exit 2 [0,1,2,3,8]))
def c113S1(_:Unit):Cmd:=(.ops [
 zmv 35 9 3,
 ⟨some 36,.binOp .sub 3 (.tmp 35) (.const (.int .i64 1)) 3,3,none⟩,
 zas 9 36 3] [0,1,2,3,8,9])
def c113S2(_:Unit):Cmd:=(.seq (.block 3 (.draw (drawOps 1 c113code) [0,1,2,3,8,9])) (sg c113S1))
def c113L0(_:Unit):Cmd:=(.seq (.seq (.draw (drawOps 0 c113code) [0,1,2,3,8,9,34]) (sg c113S0)) (sg c113S2))
def c113S3(_:Unit):Cmd:=(.ops [
 zmv 15 8 3,
 ⟨some 16,.binOp .add 3 (.tmp 15) (.const (.int .i64 1)) 3,3,none⟩,
 zas 8 16 3] [0,1,2,3,8])
def c113S4(_:Unit):Cmd:=(.seq (.block 1 (.seq (.ops [
 zmv 17 8 3,
 zas 9 17 3] [0,1,2,3,8,9])
 (.block 2 (.loop (sg c113L0))))) (sg c113S3))
def c113L1(_:Unit):Cmd:=(.seq (.seq (.ops [
 zmv 12 8 3,
 zmv 13 2 3,
 ⟨some 14,.binOp .lss 3 (.tmp 12) (.tmp 13) 3,4,none⟩] [0,1,2,3,8,14])
 (.cond (.tmp 14)
 (.skip [0,1,2,3,8])
 (.exit 0 []))) (sg c113S4))
def c113:Cmd:=(.seq (.ops [
 zmv 10 1 3,
 ⟨some 11,.binOp .add 3 (.tmp 10) (.const (.int .i64 1)) 3,3,none⟩,
 zas 8 11 3] [0,1,2,3,8])
 (.block 0 (.loop (sg c113L1))))
attribute [go_sem] c113 c113S0 c113S1 c113S4
def c113D0:List (Nat × Ins):=[
 (0,zmv 18 9 3),
 (0,zmv 19 1 3),
 (0,⟨some 20,.binOp .gtr 3 (.tmp 18) (.tmp 19) 3,4,none⟩),
 (0,zmv 21 20 4),
 (0,zmg 22 3 110 21 true),
 (0,zmg 23 0 57 21 true),
 (0,zmg 24 9 3 21 true),
 (0,⟨some 25,.indexAddr 57 (.tmp 23) (.tmp 24),0,(some (21,true))⟩),
 (0,zmg 27 0 57 21 true),
 (0,zmg 28 9 3 21 true),
 (0,⟨some 29,.binOp .sub 3 (.tmp 28) (.const (.int .i64 1)) 3,3,(some (21,true))⟩),
 (0,⟨some 30,.indexAddr 57 (.tmp 27) (.tmp 29),0,(some (21,true))⟩),
 (1,⟨some 26,.load 65 (.tmp 25),65,(some (21,true))⟩),
 (2,⟨some 31,.load 65 (.tmp 30),65,(some (21,true))⟩),
 (3,⟨some 32,.call ⟨.value (.tmp 22),#[(.tmp 26),(.tmp 31)],#[65,65]⟩,3,(some (21,true))⟩),
 (0,⟨some 33,.binOp .lss 3 (.tmp 32) (.const (.int .i64 0)) 3,4,(some (21,true))⟩),
 (0,⟨some 34,.pick (.tmp 21) (.tmp 33) (.const (.bool false)),4,none⟩)]
theorem c113draw0{L:List Nat}{ρ:Env}{w:World}{Q:Post}(S:World→Prop)(hS:S w.drew)(h:DG Tryz.prog S c113D0 L ρ w.drew Q):drawW Tryz.prog (drawOps 0 c113code) L ρ w Q :=
 drawW_held [8] [(0,0),(0,1),(0,2),(0,3),(0,4),(0,5),(0,6),(0,7),(0,9),(0,10),(0,11),(0,12),(1,8),(2,13),(3,14),(0,15),(0,16)] c113D0 (by kernel_rfl) (by kernel_rfl) (by kernel_rfl) S hS h
def c113D1:List (Nat × Ins):=[
 (0,zmv 37 0 57),
 (0,zmv 38 9 3),
 (0,zmv 39 0 57),
 (0,zmv 40 9 3),
 (0,⟨some 41,.binOp .sub 3 (.tmp 40) (.const (.int .i64 1)) 3,3,none⟩),
 (0,zmv 42 0 57),
 (0,zmv 43 9 3),
 (0,⟨some 44,.binOp .sub 3 (.tmp 43) (.const (.int .i64 1)) 3,3,none⟩),
 (0,zix 45 57 42 44),
 (0,zmv 47 0 57),
 (0,zmv 48 9 3),
 (0,zix 49 57 47 48),
 (1,zld 46 65 45 65),
 (2,zld 50 65 49 65),
 (0,zix 51 57 37 38),
 (3,⟨none,.store 65 (.tmp 51) (.tmp 46),0,none⟩),
 (0,zix 52 57 39 41),
 (3,⟨none,.store 65 (.tmp 52) (.tmp 50),0,none⟩)]
theorem c113draw1{L:List Nat}{ρ:Env}{w:World}{Q:Post}(S:World→Prop)(hS:S w.drew)(h:DG Tryz.prog S c113D1 L ρ w.drew Q):drawW Tryz.prog (drawOps 1 c113code) L ρ w Q :=
 drawW_held [9] [(0,0),(0,1),(0,2),(0,3),(0,4),(0,5),(0,6),(0,7),(0,8),(0,10),(0,11),(0,12),(1,9),(2,13),(0,14),(3,15),(0,16),(3,17)] c113D1 (by kernel_rfl) (by kernel_rfl) (by kernel_rfl) S hS h
theorem ent113(a0 a1 a2 a3:Value)(w:World)(K:Value→World→Prop)(h:W Tryz.prog c113 [(0,a0),(1,a1),(2,a2),(3,a3)] w (finQ Tryz.prog [] K)):Ret Tryz.prog 113 [a0,a1,a2,a3] w K :=
 Ret_of_W (code:=c113code) Tryz.func113 (by kernel_rfl) (by kernel_rfl) (of_decide_eq_true (by kernel_rfl)) h
@[go_sem] theorem go113:goFunc Tryz.prog 113=true:=by kernel_rfl
def c114code:Code:=match Tryz.f114.body with | some c=>c | none=>.skip
def c114S0(_:Unit):Cmd:=(.cond (.tmp 50)
 (.ops [
 zmv 51 12 3,
 ⟨some 52,.binOp .add 3 (.tmp 51) (.const (.int .i64 1)) 3,3,none⟩,
 zas 10 52 3] [0,1,4,10,11])
 (.ops [
 zmv 53 12 3,
 zas 11 53 3] [0,1,4,10,11]))
def c114S1(_:Unit):Cmd:=(.block 1 (.seq (.ops [
 zmv 34 10 3,
 zmv 35 11 3,
 ⟨some 36,.binOp .add 3 (.tmp 34) (.tmp 35) 3,3,none⟩,
 ⟨some 37,.convert 3 135 (.tmp 36),135,none⟩,
 ⟨some 38,.binOp .shr 135 (.tmp 37) (.const (.int .u64 1)) 135,135,none⟩,
 ⟨some 39,.convert 135 3 (.tmp 38),3,none⟩,
 zas 12 39 3] [0,1,4,10,11,12])
 (.seq (.draw (drawOps 0 c114code) [0,1,4,10,11,12,50]) (sg c114S0))))
def c114L0(_:Unit):Cmd:=(.seq (.seq (.ops [
 zmv 31 10 3,
 zmv 32 11 3,
 ⟨some 33,.binOp .lss 3 (.tmp 31) (.tmp 32) 3,4,none⟩] [0,1,4,10,11,33])
 (.cond (.tmp 33)
 (.skip [0,1,4,10,11])
 (.exit 0 [0,1,10]))) (sg c114S1))
def c114S2(_:Unit):Cmd:=(.ops [
 zmv 59 13 3,
 ⟨some 60,.binOp .add 3 (.tmp 59) (.const (.int .i64 1)) 3,3,none⟩,
 zas 13 60 3] [0,10,13])
def c114S3(_:Unit):Cmd:=(.seq (.block 3 (.draw (drawOps 1 c114code) [0,10,13])) (sg c114S2))
def c114L1(_:Unit):Cmd:=(.seq (.seq (.ops [
 zmv 55 13 3,
 zmv 56 10 3,
 ⟨some 57,.binOp .sub 3 (.tmp 56) (.const (.int .i64 1)) 3,3,none⟩,
 ⟨some 58,.binOp .lss 3 (.tmp 55) (.tmp 57) 3,4,none⟩] [0,10,13,58])
 (.cond (.tmp 58)
 (.skip [0,10,13])
 (.exit 2 []))) (sg c114S3))
def c114S4(_:Unit):Cmd:=.ret
def c114S5(_:Unit):Cmd:=(.seq (.seq (.ops [
 zmv 54 1 3,
 zas 13 54 3] [0,10,13])
 (.block 2 (.loop (sg c114L1)))) (sg c114S4))
def c114S6(_:Unit):Cmd:=(.cond (.tmp 103)
 (.ops [
 zmv 104 16 3,
 ⟨some 105,.binOp .add 3 (.tmp 104) (.const (.int .i64 1)) 3,3,none⟩,
 zas 14 105 3] [0,2,4,14,15])
 (.ops [
 zmv 106 16 3,
 zas 15 106 3] [0,2,4,14,15]))
def c114S7(_:Unit):Cmd:=(.block 5 (.seq (.ops [
 zmv 86 14 3,
 zmv 87 15 3,
 ⟨some 88,.binOp .add 3 (.tmp 86) (.tmp 87) 3,3,none⟩,
 ⟨some 89,.convert 3 135 (.tmp 88),135,none⟩,
 ⟨some 90,.binOp .shr 135 (.tmp 89) (.const (.int .u64 1)) 135,135,none⟩,
 ⟨some 91,.convert 135 3 (.tmp 90),3,none⟩,
 zas 16 91 3] [0,2,4,14,15,16])
 (.seq (.draw (drawOps 2 c114code) [0,2,4,14,15,16,103]) (sg c114S6))))
def c114L2(_:Unit):Cmd:=(.seq (.seq (.ops [
 zmv 83 14 3,
 zmv 84 15 3,
 ⟨some 85,.binOp .lss 3 (.tmp 83) (.tmp 84) 3,4,none⟩] [0,2,4,14,15,85])
 (.cond (.tmp 85)
 (.skip [0,2,4,14,15])
 (.exit 4 [0,2,14]))) (sg c114S7))
def c114S8(_:Unit):Cmd:=(.ops [
 zmv 111 17 3,
 ⟨some 112,.binOp .sub 3 (.tmp 111) (.const (.int .i64 1)) 3,3,none⟩,
 zas 17 112 3] [0,14,17])
def c114S9(_:Unit):Cmd:=(.seq (.block 7 (.draw (drawOps 3 c114code) [0,14,17])) (sg c114S8))
def c114L3(_:Unit):Cmd:=(.seq (.seq (.ops [
 zmv 108 17 3,
 zmv 109 14 3,
 ⟨some 110,.binOp .gtr 3 (.tmp 108) (.tmp 109) 3,4,none⟩] [0,14,17,110])
 (.cond (.tmp 110)
 (.skip [0,14,17])
 (.exit 6 []))) (sg c114S9))
def c114S10(_:Unit):Cmd:=.ret
def c114S11(_:Unit):Cmd:=(.seq (.seq (.ops [
 zmv 107 2 3,
 zas 17 107 3] [0,14,17])
 (.block 6 (.loop (sg c114L3)))) (sg c114S10))
def c114S12(_:Unit):Cmd:=(.cond (.tmp 171)
 (.ops [
 zmv 172 23 3,
 ⟨some 173,.binOp .add 3 (.tmp 172) (.const (.int .i64 1)) 3,3,none⟩,
 zas 20 173 3] [0,1,2,3,4,18,19,20,21,22])
 (.ops [
 zmv 174 23 3,
 zas 21 174 3] [0,1,2,3,4,18,19,20,21,22]))
def c114S13(_:Unit):Cmd:=(.block 9 (.seq (.ops [
 zmv 152 20 3,
 zmv 153 21 3,
 ⟨some 154,.binOp .add 3 (.tmp 152) (.tmp 153) 3,3,none⟩,
 ⟨some 155,.convert 3 135 (.tmp 154),135,none⟩,
 ⟨some 156,.binOp .shr 135 (.tmp 155) (.const (.int .u64 1)) 135,135,none⟩,
 ⟨some 157,.convert 135 3 (.tmp 156),3,none⟩,
 zas 23 157 3] [0,1,2,3,4,18,19,20,21,22,23])
 (.seq (.draw (drawOps 4 c114code) [0,1,2,3,4,18,19,20,21,22,23,171]) (sg c114S12))))
def c114L4(_:Unit):Cmd:=(.seq (.seq (.ops [
 zmv 149 20 3,
 zmv 150 21 3,
 ⟨some 151,.binOp .lss 3 (.tmp 149) (.tmp 150) 3,4,none⟩] [0,1,2,3,4,18,19,20,21,22,151])
 (.cond (.tmp 151)
 (.skip [0,1,2,3,4,18,19,20,21,22])
 (.exit 8 [0,1,2,3,4,18,19,20]))) (sg c114S13))
def c114S14(_:Unit):Cmd:=(.seq (.ops [
 zmv 206 18 3,
 zmv 207 24 3,
 ⟨some 208,.binOp .lss 3 (.tmp 206) (.tmp 207) 3,4,none⟩,
 zmv 209 208 4,
 zmg 210 24 3 209 true,
 zmg 211 3 3 209 true,
 ⟨some 212,.binOp .lss 3 (.tmp 210) (.tmp 211) 3,4,(some (209,true))⟩,
 ⟨some 213,.pick (.tmp 209) (.tmp 212) (.const (.bool false)),4,none⟩] [0,3,4,18,24,213])
 (.cond (.tmp 213)
 (.ops [
 zmv 214 0 57,
 zmv 215 18 3,
 zmv 216 24 3,
 zmv 217 3 3,
 zmv 218 4 110,
 ⟨some 219,.call ⟨.value (.func 114),#[(.tmp 214),(.tmp 215),(.tmp 216),(.tmp 217),(.tmp 218)],#[57,3,3,3,110]⟩,0,none⟩] [])
 (.skip [])))
def c114S15(_:Unit):Cmd:=(.seq (.seq (.ops [
 zmv 192 1 3,
 zmv 193 20 3,
 ⟨some 194,.binOp .lss 3 (.tmp 192) (.tmp 193) 3,4,none⟩,
 zmv 195 194 4,
 zmg 196 20 3 195 true,
 zmg 197 18 3 195 true,
 ⟨some 198,.binOp .lss 3 (.tmp 196) (.tmp 197) 3,4,(some (195,true))⟩,
 ⟨some 199,.pick (.tmp 195) (.tmp 198) (.const (.bool false)),4,none⟩] [0,1,3,4,18,20,24,199])
 (.cond (.tmp 199)
 (.ops [
 zmv 200 0 57,
 zmv 201 1 3,
 zmv 202 20 3,
 zmv 203 18 3,
 zmv 204 4 110,
 ⟨some 205,.call ⟨.value (.func 114),#[(.tmp 200),(.tmp 201),(.tmp 202),(.tmp 203),(.tmp 204)],#[57,3,3,3,110]⟩,0,none⟩] [0,3,4,18,24])
 (.skip [0,3,4,18,24]))) (sg c114S14))
def c114S16(_:Unit):Cmd:=(.seq (.ops [
 zmv 175 19 3,
 zmv 176 20 3,
 ⟨some 177,.binOp .sub 3 (.tmp 175) (.tmp 176) 3,3,none⟩,
 zas 24 177 3] [0,1,2,3,4,18,20,24])
 (.seq (.seq (.ops [
 zmv 178 20 3,
 zmv 179 2 3,
 ⟨some 180,.binOp .lss 3 (.tmp 178) (.tmp 179) 3,4,none⟩,
 zmv 181 180 4,
 zmg 182 2 3 181 true,
 zmg 183 24 3 181 true,
 ⟨some 184,.binOp .lss 3 (.tmp 182) (.tmp 183) 3,4,(some (181,true))⟩,
 ⟨some 185,.pick (.tmp 181) (.tmp 184) (.const (.bool false)),4,none⟩] [0,1,2,3,4,18,20,24,185])
 (.cond (.tmp 185)
 (.ops [
 zmv 186 0 57,
 zmv 187 20 3,
 zmv 188 2 3,
 zmv 189 24 3,
 zmv 190 4 110,
 ⟨some 191,.call ⟨.value (.func 138),#[(.tmp 186),(.tmp 187),(.tmp 188),(.tmp 189),(.tmp 190)],#[57,3,3,3,110]⟩,0,none⟩] [0,1,3,4,18,20,24])
 (.skip [0,1,3,4,18,20,24]))) (sg c114S15)))
def c114S17(_:Unit):Cmd:=(.seq (.ops [
 zmv 147 19 3,
 ⟨some 148,.binOp .sub 3 (.tmp 147) (.const (.int .i64 1)) 3,3,none⟩,
 zas 22 148 3] [0,1,2,3,4,18,19,20,21,22])
 (.seq (.block 8 (.loop (sg c114L4))) (sg c114S16)))
def c114S18(_:Unit):Cmd:=(.seq (.ops [
 zmv 129 1 3,
 zmv 130 3 3,
 ⟨some 131,.binOp .add 3 (.tmp 129) (.tmp 130) 3,3,none⟩,
 ⟨some 132,.convert 3 135 (.tmp 131),135,none⟩,
 ⟨some 133,.binOp .shr 135 (.tmp 132) (.const (.int .u64 1)) 135,135,none⟩,
 ⟨some 134,.convert 135 3 (.tmp 133),3,none⟩,
 zas 18 134 3] [0,1,2,3,4,18])
 (.seq (.ops [
 zmv 135 18 3,
 zmv 136 2 3,
 ⟨some 137,.binOp .add 3 (.tmp 135) (.tmp 136) 3,3,none⟩,
 zas 19 137 3] [0,1,2,3,4,18,19])
 (.seq (.ops [
 ⟨some 20,.assign (.const (.int .i64 0)),3,none⟩,
 ⟨some 21,.assign (.const (.int .i64 0)),3,none⟩] [0,1,2,3,4,18,19])
 (.seq (.seq (.ops [
 zmv 138 2 3,
 zmv 139 18 3,
 ⟨some 140,.binOp .gtr 3 (.tmp 138) (.tmp 139) 3,4,none⟩] [0,1,2,3,4,18,19,140])
 (.cond (.tmp 140)
 (.seq (.ops [
 zmv 141 19 3,
 zmv 142 3 3,
 ⟨some 143,.binOp .sub 3 (.tmp 141) (.tmp 142) 3,3,none⟩,
 zas 20 143 3] [0,1,2,3,4,18,19,20])
 (.ops [
 zmv 144 18 3,
 zas 21 144 3] [0,1,2,3,4,18,19,20,21]))
 (.seq (.ops [
 zmv 145 1 3,
 zas 20 145 3] [0,1,2,3,4,18,19,20])
 (.ops [
 zmv 146 2 3,
 zas 21 146 3] [0,1,2,3,4,18,19,20,21])))) (sg c114S17)))))
def c114S19(_:Unit):Cmd:=(.seq (.seq (.ops [
 zmv 77 3 3,
 zmv 78 2 3,
 ⟨some 79,.binOp .sub 3 (.tmp 77) (.tmp 78) 3,3,none⟩,
 ⟨some 80,.binOp .eql 3 (.tmp 79) (.const (.int .i64 1)) 3,4,none⟩] [0,1,2,3,4,80])
 (.cond (.tmp 80)
 (.seq (.ops [
 zmv 81 1 3,
 zas 14 81 3] [0,2,4,14])
 (.seq (.ops [
 zmv 82 2 3,
 zas 15 82 3] [0,2,4,14,15])
 (.seq (.block 4 (.loop (sg c114L2))) (sg c114S11))))
 (.skip [0,1,2,3,4]))) (sg c114S18))
def c114:Cmd:=(.seq (.seq (.ops [
 zmv 25 2 3,
 zmv 26 1 3,
 ⟨some 27,.binOp .sub 3 (.tmp 25) (.tmp 26) 3,3,none⟩,
 ⟨some 28,.binOp .eql 3 (.tmp 27) (.const (.int .i64 1)) 3,4,none⟩] [0,1,2,3,4,28])
 (.cond (.tmp 28)
 (.seq (.ops [
 zmv 29 2 3,
 zas 10 29 3] [0,1,3,4,10])
 (.seq (.ops [
 zmv 30 3 3,
 zas 11 30 3] [0,1,4,10,11])
 (.seq (.block 0 (.loop (sg c114L0))) (sg c114S5))))
 (.skip [0,1,2,3,4]))) (sg c114S19))
attribute [go_sem] c114 c114S1 c114S2 c114S3 c114S4 c114S7 c114S8 c114S9 c114S10 c114S13
def c114D0:List (Nat × Ins):=[
 (0,zmv 40 4 110),
 (0,zmv 41 0 57),
 (0,zmv 42 12 3),
 (0,zix 43 57 41 42),
 (0,zmv 45 0 57),
 (0,zmv 46 1 3),
 (0,zix 47 57 45 46),
 (1,zld 44 65 43 65),
 (2,zld 48 65 47 65),
 (3,⟨some 49,.call ⟨.value (.tmp 40),#[(.tmp 44),(.tmp 48)],#[65,65]⟩,3,none⟩),
 (0,⟨some 50,.binOp .lss 3 (.tmp 49) (.const (.int .i64 0)) 3,4,none⟩)]
theorem c114draw0{L:List Nat}{ρ:Env}{w:World}{Q:Post}(S:World→Prop)(hS:S w.drew)(h:DG Tryz.prog S c114D0 L ρ w.drew Q):drawW Tryz.prog (drawOps 0 c114code) L ρ w Q :=
 drawW_held [4] [(0,0),(0,1),(0,2),(0,3),(0,5),(0,6),(0,7),(1,4),(2,8),(3,9),(0,10)] c114D0 (by kernel_rfl) (by kernel_rfl) (by kernel_rfl) S hS h
def c114D1:List (Nat × Ins):=[
 (0,zmv 61 0 57),
 (0,zmv 62 13 3),
 (0,zmv 63 0 57),
 (0,zmv 64 13 3),
 (0,⟨some 65,.binOp .add 3 (.tmp 64) (.const (.int .i64 1)) 3,3,none⟩),
 (0,zmv 66 0 57),
 (0,zmv 67 13 3),
 (0,⟨some 68,.binOp .add 3 (.tmp 67) (.const (.int .i64 1)) 3,3,none⟩),
 (0,zix 69 57 66 68),
 (0,zmv 71 0 57),
 (0,zmv 72 13 3),
 (0,zix 73 57 71 72),
 (1,zld 70 65 69 65),
 (2,zld 74 65 73 65),
 (0,zix 75 57 61 62),
 (3,⟨none,.store 65 (.tmp 75) (.tmp 70),0,none⟩),
 (0,zix 76 57 63 65),
 (3,⟨none,.store 65 (.tmp 76) (.tmp 74),0,none⟩)]
theorem c114draw1{L:List Nat}{ρ:Env}{w:World}{Q:Post}(S:World→Prop)(hS:S w.drew)(h:DG Tryz.prog S c114D1 L ρ w.drew Q):drawW Tryz.prog (drawOps 1 c114code) L ρ w Q :=
 drawW_held [9] [(0,0),(0,1),(0,2),(0,3),(0,4),(0,5),(0,6),(0,7),(0,8),(0,10),(0,11),(0,12),(1,9),(2,13),(0,14),(3,15),(0,16),(3,17)] c114D1 (by kernel_rfl) (by kernel_rfl) (by kernel_rfl) S hS h
def c114D2:List (Nat × Ins):=[
 (0,zmv 92 4 110),
 (0,zmv 93 0 57),
 (0,zmv 94 2 3),
 (0,zix 95 57 93 94),
 (0,zmv 97 0 57),
 (0,zmv 98 16 3),
 (0,zix 99 57 97 98),
 (1,zld 96 65 95 65),
 (2,zld 100 65 99 65),
 (3,⟨some 101,.call ⟨.value (.tmp 92),#[(.tmp 96),(.tmp 100)],#[65,65]⟩,3,none⟩),
 (0,⟨some 102,.binOp .lss 3 (.tmp 101) (.const (.int .i64 0)) 3,4,none⟩),
 (0,⟨some 103,.unOp .not 4 (.tmp 102),4,none⟩)]
theorem c114draw2{L:List Nat}{ρ:Env}{w:World}{Q:Post}(S:World→Prop)(hS:S w.drew)(h:DG Tryz.prog S c114D2 L ρ w.drew Q):drawW Tryz.prog (drawOps 2 c114code) L ρ w Q :=
 drawW_held [4] [(0,0),(0,1),(0,2),(0,3),(0,5),(0,6),(0,7),(1,4),(2,8),(3,9),(0,10),(0,11)] c114D2 (by kernel_rfl) (by kernel_rfl) (by kernel_rfl) S hS h
def c114D3:List (Nat × Ins):=[
 (0,zmv 113 0 57),
 (0,zmv 114 17 3),
 (0,zmv 115 0 57),
 (0,zmv 116 17 3),
 (0,⟨some 117,.binOp .sub 3 (.tmp 116) (.const (.int .i64 1)) 3,3,none⟩),
 (0,zmv 118 0 57),
 (0,zmv 119 17 3),
 (0,⟨some 120,.binOp .sub 3 (.tmp 119) (.const (.int .i64 1)) 3,3,none⟩),
 (0,zix 121 57 118 120),
 (0,zmv 123 0 57),
 (0,zmv 124 17 3),
 (0,zix 125 57 123 124),
 (1,zld 122 65 121 65),
 (2,zld 126 65 125 65),
 (0,zix 127 57 113 114),
 (3,⟨none,.store 65 (.tmp 127) (.tmp 122),0,none⟩),
 (0,zix 128 57 115 117),
 (3,⟨none,.store 65 (.tmp 128) (.tmp 126),0,none⟩)]
theorem c114draw3{L:List Nat}{ρ:Env}{w:World}{Q:Post}(S:World→Prop)(hS:S w.drew)(h:DG Tryz.prog S c114D3 L ρ w.drew Q):drawW Tryz.prog (drawOps 3 c114code) L ρ w Q :=
 drawW_held [9] [(0,0),(0,1),(0,2),(0,3),(0,4),(0,5),(0,6),(0,7),(0,8),(0,10),(0,11),(0,12),(1,9),(2,13),(0,14),(3,15),(0,16),(3,17)] c114D3 (by kernel_rfl) (by kernel_rfl) (by kernel_rfl) S hS h
def c114D4:List (Nat × Ins):=[
 (0,zmv 158 4 110),
 (0,zmv 159 0 57),
 (0,zmv 160 22 3),
 (0,zmv 161 23 3),
 (0,⟨some 162,.binOp .sub 3 (.tmp 160) (.tmp 161) 3,3,none⟩),
 (0,zix 163 57 159 162),
 (0,zmv 165 0 57),
 (0,zmv 166 23 3),
 (0,zix 167 57 165 166),
 (1,zld 164 65 163 65),
 (2,zld 168 65 167 65),
 (3,⟨some 169,.call ⟨.value (.tmp 158),#[(.tmp 164),(.tmp 168)],#[65,65]⟩,3,none⟩),
 (0,⟨some 170,.binOp .lss 3 (.tmp 169) (.const (.int .i64 0)) 3,4,none⟩),
 (0,⟨some 171,.unOp .not 4 (.tmp 170),4,none⟩)]
theorem c114draw4{L:List Nat}{ρ:Env}{w:World}{Q:Post}(S:World→Prop)(hS:S w.drew)(h:DG Tryz.prog S c114D4 L ρ w.drew Q):drawW Tryz.prog (drawOps 4 c114code) L ρ w Q :=
 drawW_held [6] [(0,0),(0,1),(0,2),(0,3),(0,4),(0,5),(0,7),(0,8),(0,9),(1,6),(2,10),(3,11),(0,12),(0,13)] c114D4 (by kernel_rfl) (by kernel_rfl) (by kernel_rfl) S hS h
theorem ent114(a0 a1 a2 a3 a4:Value)(w:World)(K:Value→World→Prop)(h:W Tryz.prog c114 [(0,a0),(1,a1),(2,a2),(3,a3),(4,a4)] w (finQ Tryz.prog [] K)):Ret Tryz.prog 114 [a0,a1,a2,a3,a4] w K :=
 Ret_of_W (code:=c114code) Tryz.func114 (by kernel_rfl) (by kernel_rfl) (of_decide_eq_true (by kernel_rfl)) h
@[go_sem] theorem go114:goFunc Tryz.prog 114=true:=by kernel_rfl
def c115code:Code:=match Tryz.f115.body with | some c=>c | none=>.skip
def c115S0(_:Unit):Cmd:=(.cond (.tmp 44)
 (.seq (.ops [
 zfa 45 52 3 6,
 zld 46 3 45 3,
 ⟨some 47,.buildSlice 25 1 #[(0,(.tmp 46))],25,none⟩,
 ⟨some 48,.build 150 #[(0,(.tmp 47)),(1,(.const (.int .i64 1))),(2,(.const (.bool true)))],150,none⟩,
 ⟨none,.store 150 (.tmp 4) (.tmp 48),0,none⟩] [4])
 .ret)
 (.skip [0,3,4]))
def c115S1(_:Unit):Cmd:=(.seq (.ops [
 ⟨some 87,.build 150 #[],150,none⟩,
 ⟨none,.store 150 (.tmp 4) (.tmp 87),0,none⟩] [4])
 .ret)
def c115S2(_:Unit):Cmd:=(.seq (.seq (.ops [
 zfa 73 52 3 3,
 zld 74 3 73 3,
 ⟨some 75,.binOp .eql 3 (.tmp 74) (.const (.int .i64 2)) 3,4,none⟩,
 zmv 76 75 4,
 ⟨some 77,.fieldAddr 52 (.tmp 3) 4,0,(some (76,true))⟩,
 ⟨some 78,.load 3 (.tmp 77),3,(some (76,true))⟩,
 ⟨some 79,.binOp .eql 3 (.tmp 78) (.const (.int .i64 5)) 3,4,(some (76,true))⟩,
 ⟨some 80,.pick (.tmp 76) (.tmp 79) (.const (.bool false)),4,none⟩] [0,4,80])
 (.cond (.tmp 80)
 (.seq (.opsX [
 zmv 81 0 25,
 ⟨some 82,.indexAddr 25 (.tmp 81) (.const (.int .i64 0)),0,none⟩,
 zld 83 3 82 3,
 ⟨some 84,.binOp .sub 3 (.tmp 83) (.const (.int .i64 1)) 3,3,none⟩,
 ⟨some 85,.buildSlice 25 1 #[(0,(.tmp 84))],25,none⟩,
 ⟨some 86,.build 150 #[(0,(.tmp 85)),(1,(.const (.int .i64 0))),(2,(.const (.bool true)))],150,none⟩,
 ⟨none,.store 150 (.tmp 4) (.tmp 86),0,none⟩] [4])
 .ret)
 (.skip [4]))) (sg c115S1))
def c115S3(_:Unit):Cmd:=(.seq (.seq (.ops [
 zfa 59 52 3 3,
 zld 60 3 59 3,
 ⟨some 61,.binOp .eql 3 (.tmp 60) (.const (.int .i64 2)) 3,4,none⟩,
 zmv 62 61 4,
 ⟨some 63,.fieldAddr 52 (.tmp 3) 4,0,(some (62,true))⟩,
 ⟨some 64,.load 3 (.tmp 63),3,(some (62,true))⟩,
 ⟨some 65,.binOp .eql 3 (.tmp 64) (.const (.int .i64 4)) 3,4,(some (62,true))⟩,
 ⟨some 66,.pick (.tmp 62) (.tmp 65) (.const (.bool false)),4,none⟩] [0,3,4,66])
 (.cond (.tmp 66)
 (.seq (.opsX [
 zmv 67 0 25,
 ⟨some 68,.indexAddr 25 (.tmp 67) (.const (.int .i64 0)),0,none⟩,
 zld 69 3 68 3,
 ⟨some 70,.binOp .add 3 (.tmp 69) (.const (.int .i64 1)) 3,3,none⟩,
 ⟨some 71,.buildSlice 25 1 #[(0,(.tmp 70))],25,none⟩,
 ⟨some 72,.build 150 #[(0,(.tmp 71)),(1,(.const (.int .i64 0))),(2,(.const (.bool true)))],150,none⟩,
 ⟨none,.store 150 (.tmp 4) (.tmp 72),0,none⟩] [4])
 .ret)
 (.skip [0,3,4]))) (sg c115S2))
def c115S4(_:Unit):Cmd:=(.seq (.seq (.ops [
 zfa 49 52 3 3,
 zld 50 3 49 3,
 ⟨some 51,.binOp .eql 3 (.tmp 50) (.const (.int .i64 1)) 3,4,none⟩,
 zmv 52 51 4,
 ⟨some 53,.fieldAddr 52 (.tmp 3) 4,0,(some (52,true))⟩,
 ⟨some 54,.load 3 (.tmp 53),3,(some (52,true))⟩,
 ⟨some 55,.binOp .eql 3 (.tmp 54) (.const (.int .i64 3)) 3,4,(some (52,true))⟩,
 ⟨some 56,.pick (.tmp 52) (.tmp 55) (.const (.bool false)),4,none⟩] [0,3,4,56])
 (.cond (.tmp 56)
 (.seq (.ops [
 zmv 57 0 25,
 ⟨some 58,.build 150 #[(0,(.tmp 57)),(1,(.const (.int .i64 0))),(2,(.const (.bool true)))],150,none⟩,
 ⟨none,.store 150 (.tmp 4) (.tmp 58),0,none⟩] [4])
 .ret)
 (.skip [0,3,4]))) (sg c115S3))
def c115S5(_:Unit):Cmd:=(.seq (.seq (.draw (drawOps 0 c115code) [0,3,4,44]) (sg c115S0)) (sg c115S4))
def c115S6(_:Unit):Cmd:=(.seq (.seq (.ops [
 zfa 17 52 3 3,
 zld 18 3 17 3,
 ⟨some 19,.binOp .eql 3 (.tmp 18) (.const (.int .i64 1)) 3,4,none⟩,
 zmv 20 19 4,
 ⟨some 21,.fieldAddr 52 (.tmp 3) 4,0,(some (20,true))⟩,
 ⟨some 22,.load 3 (.tmp 21),3,(some (20,true))⟩,
 ⟨some 23,.binOp .eql 3 (.tmp 22) (.const (.int .i64 2)) 3,4,(some (20,true))⟩,
 ⟨some 24,.pick (.tmp 20) (.tmp 23) (.const (.bool false)),4,none⟩] [0,3,4,24])
 (.cond (.tmp 24)
 (.seq (.ops [
 zfa 25 52 3 5,
 zld 26 3 25 3,
 ⟨some 27,.buildSlice 25 1 #[(0,(.tmp 26))],25,none⟩,
 ⟨some 28,.build 150 #[(0,(.tmp 27)),(1,(.const (.int .i64 0))),(2,(.const (.bool true)))],150,none⟩,
 ⟨none,.store 150 (.tmp 4) (.tmp 28),0,none⟩] [4])
 .ret)
 (.skip [0,3,4]))) (sg c115S5))
def c115S7(_:Unit):Cmd:=(.seq (.seq (.ops [
 zfa 9 52 3 4,
 zld 10 3 9 3,
 ⟨some 11,.binOp .eql 3 (.tmp 10) (.const (.int .i64 1)) 3,4,none⟩] [0,3,4,11])
 (.cond (.tmp 11)
 (.seq (.ops [
 zmv 12 0 25,
 zmv 13 0 25,
 ⟨some 14,.indexAddr 25 (.tmp 13) (.const (.int .i64 0)),0,none⟩,
 zld 15 3 14 3,
 ⟨some 16,.build 150 #[(0,(.tmp 12)),(1,(.tmp 15)),(2,(.const (.bool true)))],150,none⟩,
 ⟨none,.store 150 (.tmp 4) (.tmp 16),0,none⟩] [4])
 .ret)
 (.skip [0,3,4]))) (sg c115S6))
def c115:Cmd:=(.seq (.ops [
 ⟨some 3,.box 52 (.tmp 1),0,none⟩,
 ⟨some 4,.alloc 150,0,none⟩] [0,3,4])
 (.seq (.seq (.ops [
 zmv 5 0 25,
 ⟨some 6,.call ⟨.builtin .len,#[(.tmp 5)],#[25]⟩,3,none⟩,
 ⟨some 7,.binOp .neq 3 (.tmp 6) (.const (.int .i64 1)) 3,4,none⟩] [0,3,4,7])
 (.cond (.tmp 7)
 (.seq (.ops [
 ⟨some 8,.build 150 #[],150,none⟩,
 ⟨none,.store 150 (.tmp 4) (.tmp 8),0,none⟩] [4])
 .ret)
 (.skip [0,3,4]))) (sg c115S7)))
attribute [go_sem] c115 c115S0 c115S1 c115S2 c115S3 c115S4 c115S5 c115S6 c115S7
def c115D0:List (Bool × Ins):=[
 (true,zfa 29 52 3 3),
 (false,zld 30 3 29 3),
 (true,⟨some 31,.binOp .eql 3 (.tmp 30) (.const (.int .i64 1)) 3,4,none⟩),
 (true,zmv 32 31 4),
 (true,⟨some 33,.fieldAddr 52 (.tmp 3) 4,0,(some (32,true))⟩),
 (false,⟨some 34,.load 3 (.tmp 33),3,(some (32,true))⟩),
 (true,⟨some 35,.binOp .eql 3 (.tmp 34) (.const (.int .i64 3)) 3,4,(some (32,true))⟩),
 (true,⟨some 36,.pick (.tmp 32) (.tmp 35) (.const (.bool false)),4,none⟩),
 (true,zmv 37 36 4),
 (true,zmg 38 0 25 37 true),
 (true,⟨some 39,.indexAddr 25 (.tmp 38) (.const (.int .i64 0)),0,(some (37,true))⟩),
 (false,⟨some 40,.load 3 (.tmp 39),3,(some (37,true))⟩),
 (true,⟨some 41,.fieldAddr 52 (.tmp 3) 5,0,(some (37,true))⟩),
 (false,⟨some 42,.load 3 (.tmp 41),3,(some (37,true))⟩),
 (true,⟨some 43,.binOp .eql 3 (.tmp 40) (.tmp 42) 3,4,(some (37,true))⟩),
 (true,⟨some 44,.pick (.tmp 37) (.tmp 43) (.const (.bool false)),4,none⟩)]
theorem c115draw0{L:List Nat}{ρ:Env}{w:World}{Q:Post}(h:DL Tryz.prog c115D0 L ρ w.drew Q):drawW Tryz.prog (drawOps 0 c115code) L ρ w Q :=
 drawW_still [true,false,true,true,true,false,true,true,true,true,true,false,true,false,true,true] c115D0 (by kernel_rfl) (by kernel_rfl) (by kernel_rfl) h
theorem ent115(a0 a1:Value)(w:World)(K:Value→World→Prop)(h:W Tryz.prog c115 [(0,a0),(1,a1)] w (finQ Tryz.prog [.cell 4 150] K)):Ret Tryz.prog 115 [a0,a1] w K :=
 Ret_of_W (code:=c115code) Tryz.func115 (by kernel_rfl) (by kernel_rfl) (of_decide_eq_true (by kernel_rfl)) h
@[go_sem] theorem go115:goFunc Tryz.prog 115=true:=by kernel_rfl
def c116code:Code:=match Tryz.f116.body with | some c=>c | none=>.skip
def c116S0(_:Unit):Cmd:=(.ops [
 zmv 11 6 3,
 ⟨some 12,.binOp .add 3 (.tmp 11) (.const (.int .i64 1)) 3,3,none⟩,
 zas 6 12 3] [0,1,5,6])
def c116S1(_:Unit):Cmd:=(.seq (.block 1 (.seq (.ops [
 zmv 13 0 25,
 zmv 14 6 3,
 zix 15 25 13 14,
 zld 16 3 15 3,
 zmv 17 1 3,
 ⟨some 18,.binOp .neq 3 (.tmp 16) (.tmp 17) 3,4,none⟩] [0,1,5,6,18])
 (.cond (.tmp 18)
 (.ops [
 zmv 19 5 25,
 zmv 20 0 25,
 zmv 21 6 3,
 zix 22 25 20 21,
 zld 23 3 22 3,
 ⟨some 24,.buildSlice 25 1 #[(0,(.tmp 23))],25,none⟩,
 ⟨some 25,.call ⟨.builtin .append,#[(.tmp 19),(.tmp 24)],#[25,25]⟩,25,none⟩,
 zas 5 25 25] [0,1,5,6])
 (.skip [0,1,5,6])))) (sg c116S0))
def c116L0(_:Unit):Cmd:=(.seq (.seq (.ops [
 zmv 7 6 3,
 zmv 8 0 25,
 ⟨some 9,.call ⟨.builtin .len,#[(.tmp 8)],#[25]⟩,3,none⟩,
 ⟨some 10,.binOp .lss 3 (.tmp 7) (.tmp 9) 3,4,none⟩] [0,1,5,6,10])
 (.cond (.tmp 10)
 (.skip [0,1,5,6])
 (.exit 0 [5]))) (sg c116S1))
def c116S2(_:Unit):Cmd:=(.seq (.ops [
 zmv 26 5 25,
 zas 4 26 25] [4])
 .ret)
def c116:Cmd:=(.seq (.ops [
 ⟨some 4,.assign (.const (.slice none 0 0)),25,none⟩] [0,1])
 (.seq (.ops [
 ⟨some 5,.assign (.const (.slice none 0 0)),25,none⟩] [0,1,5])
 (.seq (.seq (.ops [
 ⟨some 6,.assign (.const (.int .i64 0)),3,none⟩] [0,1,5,6])
 (.block 0 (.loop (sg c116L0)))) (sg c116S2))))
attribute [go_sem] c116 c116S0 c116S1 c116L0 c116S2
theorem ent116(a0 a1:Value)(w:World)(K:Value→World→Prop)(h:W Tryz.prog c116 [(0,a0),(1,a1)] w (finQ Tryz.prog [.tmp 4] K)):Ret Tryz.prog 116 [a0,a1] w K :=
 Ret_of_W (code:=c116code) Tryz.func116 (by kernel_rfl) (by kernel_rfl) (of_decide_eq_true (by kernel_rfl)) h
@[go_sem] theorem go116:goFunc Tryz.prog 116=true:=by kernel_rfl
def c117code:Code:=match Tryz.f117.body with | some c=>c | none=>.skip
def c117S0(_:Unit):Cmd:=(.ops [
 ⟨some 6,.assign (.const (.bool true)),4,none⟩] [0,1,5,6,7])
def c117S1(_:Unit):Cmd:=(.ops [
 zmv 28 5 25,
 zmv 29 0 25,
 zmv 30 7 3,
 zix 31 25 29 30,
 zld 32 3 31 3,
 ⟨some 33,.buildSlice 25 1 #[(0,(.tmp 32))],25,none⟩,
 ⟨some 34,.call ⟨.builtin .append,#[(.tmp 28),(.tmp 33)],#[25,25]⟩,25,none⟩,
 zas 5 34 25] [0,1,5,6,7])
def c117S2(_:Unit):Cmd:=(.ops [
 zmv 12 7 3,
 ⟨some 13,.binOp .add 3 (.tmp 12) (.const (.int .i64 1)) 3,3,none⟩,
 zas 7 13 3] [0,1,5,6,7])
def c117S3(_:Unit):Cmd:=(.seq (.block 1 (.seq (.seq (.ops [
 zmv 14 6 4,
 ⟨some 15,.unOp .not 4 (.tmp 14),4,none⟩,
 zmv 16 15 4,
 zmg 17 0 25 16 true,
 zmg 18 7 3 16 true,
 ⟨some 19,.indexAddr 25 (.tmp 17) (.tmp 18),0,(some (16,true))⟩,
 ⟨some 20,.load 3 (.tmp 19),3,(some (16,true))⟩,
 zmg 21 1 3 16 true,
 ⟨some 22,.binOp .gtr 3 (.tmp 20) (.tmp 21) 3,4,(some (16,true))⟩,
 ⟨some 23,.pick (.tmp 16) (.tmp 22) (.const (.bool false)),4,none⟩] [0,1,5,6,7,23])
 (.cond (.tmp 23)
 (.seq (.ops [
 zmv 24 5 25,
 zmv 25 1 3,
 ⟨some 26,.buildSlice 25 1 #[(0,(.tmp 25))],25,none⟩,
 ⟨some 27,.call ⟨.builtin .append,#[(.tmp 24),(.tmp 26)],#[25,25]⟩,25,none⟩,
 zas 5 27 25] [0,1,5,7]) (sg c117S0))
 (.skip [0,1,5,6,7]))) (sg c117S1))) (sg c117S2))
def c117L0(_:Unit):Cmd:=(.seq (.seq (.ops [
 zmv 8 7 3,
 zmv 9 0 25,
 ⟨some 10,.call ⟨.builtin .len,#[(.tmp 9)],#[25]⟩,3,none⟩,
 ⟨some 11,.binOp .lss 3 (.tmp 8) (.tmp 10) 3,4,none⟩] [0,1,5,6,7,11])
 (.cond (.tmp 11)
 (.skip [0,1,5,6,7])
 (.exit 0 [1,5,6]))) (sg c117S3))
def c117S4(_:Unit):Cmd:=(.seq (.ops [
 zmv 41 5 25,
 zas 4 41 25] [4])
 .ret)
def c117S5(_:Unit):Cmd:=(.seq (.seq (.ops [
 zmv 35 6 4,
 ⟨some 36,.unOp .not 4 (.tmp 35),4,none⟩] [1,5,36])
 (.cond (.tmp 36)
 (.ops [
 zmv 37 5 25,
 zmv 38 1 3,
 ⟨some 39,.buildSlice 25 1 #[(0,(.tmp 38))],25,none⟩,
 ⟨some 40,.call ⟨.builtin .append,#[(.tmp 37),(.tmp 39)],#[25,25]⟩,25,none⟩,
 zas 5 40 25] [5])
 (.skip [5]))) (sg c117S4))
def c117:Cmd:=(.seq (.ops [
 ⟨some 4,.assign (.const (.slice none 0 0)),25,none⟩] [0,1])
 (.seq (.ops [
 ⟨some 5,.assign (.const (.slice none 0 0)),25,none⟩] [0,1,5])
 (.seq (.ops [
 ⟨some 6,.assign (.const (.bool false)),4,none⟩] [0,1,5,6])
 (.seq (.seq (.ops [
 ⟨some 7,.assign (.const (.int .i64 0)),3,none⟩] [0,1,5,6,7])
 (.block 0 (.loop (sg c117L0)))) (sg c117S5)))))
attribute [go_sem] c117 c117S0 c117S1 c117S2 c117S3 c117L0 c117S4
theorem ent117(a0 a1:Value)(w:World)(K:Value→World→Prop)(h:W Tryz.prog c117 [(0,a0),(1,a1)] w (finQ Tryz.prog [.tmp 4] K)):Ret Tryz.prog 117 [a0,a1] w K :=
 Ret_of_W (code:=c117code) Tryz.func117 (by kernel_rfl) (by kernel_rfl) (of_decide_eq_true (by kernel_rfl)) h
@[go_sem] theorem go117:goFunc Tryz.prog 117=true:=by kernel_rfl
def c119code:Code:=match Tryz.f119.body with | some c=>c | none=>.skip
def c119S0(_:Unit):Cmd:=(.seq (.ops [
 ⟨some 2,.assign (.const (.int .i64 0)),3,none⟩] [2])
 .ret)
def c119:Cmd:=(.seq (.ops [
 ⟨some 2,.assign (.const (.int .i64 0)),3,none⟩] [0])
 (.seq (.seq (.ops [
 zmv 3 0 4] [3])
 (.cond (.tmp 3)
 (.seq (.ops [
 ⟨some 2,.assign (.const (.int .i64 1)),3,none⟩] [2])
 .ret)
 (.skip []))) (sg c119S0)))
attribute [go_sem] c119 c119S0
theorem ent119(a0:Value)(w:World)(K:Value→World→Prop)(h:W Tryz.prog c119 [(0,a0)] w (finQ Tryz.prog [.tmp 2] K)):Ret Tryz.prog 119 [a0] w K :=
 Ret_of_W (code:=c119code) Tryz.func119 (by kernel_rfl) (by kernel_rfl) (of_decide_eq_true (by kernel_rfl)) h
@[go_sem] theorem go119:goFunc Tryz.prog 119=true:=by kernel_rfl
def c136code:Code:=match Tryz.f136.body with | some c=>c | none=>.skip
def c136S0(_:Unit):Cmd:=(.ops [
 zmv 12 0 147,
 ⟨some 13,.binOp .shr 147 (.tmp 12) (.const (.int .u64 7)) 135,147,none⟩,
 zas 0 13 147] [0,3])
def c136S1(_:Unit):Cmd:=(.block 1 (.seq (.ops [
 zmv 6 3 120,
 zmv 7 0 147,
 ⟨some 8,.convert 147 5 (.tmp 7),5,none⟩,
 ⟨some 9,.binOp .or 5 (.tmp 8) (.const (.int .u8 128)) 5,5,none⟩,
 ⟨some 10,.buildSlice 120 1 #[(0,(.tmp 9))],120,none⟩,
 ⟨some 11,.call ⟨.builtin .append,#[(.tmp 6),(.tmp 10)],#[120,120]⟩,120,none⟩,
 zas 3 11 120] [0,3]) (sg c136S0)))
def c136L0(_:Unit):Cmd:=(.seq (.seq (.ops [
 zmv 4 0 147,
 ⟨some 5,.binOp .geq 147 (.tmp 4) (.const (.int .u64 128)) 147,4,none⟩] [0,3,5])
 (.cond (.tmp 5)
 (.skip [0,3])
 (.exit 0 [0,3]))) (sg c136S1))
def c136S2(_:Unit):Cmd:=.ret
def c136S3(_:Unit):Cmd:=(.seq (.ops [
 zmv 14 3 120,
 zmv 15 0 147,
 ⟨some 16,.convert 147 5 (.tmp 15),5,none⟩,
 ⟨some 17,.buildSlice 120 1 #[(0,(.tmp 16))],120,none⟩,
 ⟨some 18,.call ⟨.builtin .append,#[(.tmp 14),(.tmp 17)],#[120,120]⟩,120,none⟩,
 ⟨some 19,.convert 120 9 (.tmp 18),9,none⟩,
 zas 2 19 9] [2]) (sg c136S2))
def c136:Cmd:=(.seq (.ops [
 ⟨some 2,.assign (.const (.string (ofL []))),9,none⟩] [0])
 (.seq (.ops [
 ⟨some 3,.assign (.const (.slice none 0 0)),120,none⟩] [0,3])
 (.seq (.block 0 (.loop (sg c136L0))) (sg c136S3))))
attribute [go_sem] c136 c136S0 c136S1 c136L0 c136S2 c136S3
theorem ent136(a0:Value)(w:World)(K:Value→World→Prop)(h:W Tryz.prog c136 [(0,a0)] w (finQ Tryz.prog [.tmp 2] K)):Ret Tryz.prog 136 [a0] w K :=
 Ret_of_W (code:=c136code) Tryz.func136 (by kernel_rfl) (by kernel_rfl) (of_decide_eq_true (by kernel_rfl)) h
@[go_sem] theorem go136:goFunc Tryz.prog 136=true:=by kernel_rfl
def c137code:Code:=match Tryz.f137.body with | some c=>c | none=>.skip
def c137:Cmd:=(.seq (.ops [
 ⟨some 2,.assign (.const (.int .u64 0)),147,none⟩] [0])
 (.seq (.ops [
 zmv 3 0 3,
 ⟨some 4,.convert 3 147 (.tmp 3),147,none⟩,
 ⟨some 5,.binOp .shl 147 (.tmp 4) (.const (.int .u64 1)) 135,147,none⟩,
 zmv 6 0 3,
 ⟨some 7,.binOp .shr 3 (.tmp 6) (.const (.int .u64 63)) 135,3,none⟩,
 ⟨some 8,.convert 3 147 (.tmp 7),147,none⟩,
 ⟨some 9,.binOp .xor 147 (.tmp 5) (.tmp 8) 147,147,none⟩,
 zas 2 9 147] [2])
 .ret))
attribute [go_sem] c137
theorem ent137(a0:Value)(w:World)(K:Value→World→Prop)(h:W Tryz.prog c137 [(0,a0)] w (finQ Tryz.prog [.tmp 2] K)):Ret Tryz.prog 137 [a0] w K :=
 Ret_of_W (code:=c137code) Tryz.func137 (by kernel_rfl) (by kernel_rfl) (of_decide_eq_true (by kernel_rfl)) h
@[go_sem] theorem go137:goFunc Tryz.prog 137=true:=by kernel_rfl
def c138code:Code:=match Tryz.f138.body with | some c=>c | none=>.skip
def c138S0(_:Unit):Cmd:=(.ops [
 zmv 32 10 3,
 zmv 33 11 3,
 ⟨some 34,.binOp .sub 3 (.tmp 32) (.tmp 33) 3,3,none⟩,
 zas 10 34 3] [0,2,4,10,11])
def c138S1(_:Unit):Cmd:=(.ops [
 zmv 47 11 3,
 zmv 48 10 3,
 ⟨some 49,.binOp .sub 3 (.tmp 47) (.tmp 48) 3,3,none⟩,
 zas 11 49 3] [0,2,4,10,11])
def c138S2(_:Unit):Cmd:=(.block 1 (.seq (.ops [
 zmv 21 10 3,
 zmv 22 11 3,
 ⟨some 23,.binOp .gtr 3 (.tmp 21) (.tmp 22) 3,4,none⟩] [0,2,4,10,11,23])
 (.cond (.tmp 23)
 (.seq (.ops [
 zmv 24 0 57,
 zmv 25 2 3,
 zmv 26 10 3,
 ⟨some 27,.binOp .sub 3 (.tmp 25) (.tmp 26) 3,3,none⟩,
 zmv 28 2 3,
 zmv 29 11 3,
 zmv 30 4 110,
 ⟨some 31,.call ⟨.value (.func 146),#[(.tmp 24),(.tmp 27),(.tmp 28),(.tmp 29),(.tmp 30)],#[57,3,3,3,110]⟩,0,none⟩] [0,2,4,10,11]) (sg c138S0))
 (.seq (.ops [
 zmv 35 0 57,
 zmv 36 2 3,
 zmv 37 10 3,
 ⟨some 38,.binOp .sub 3 (.tmp 36) (.tmp 37) 3,3,none⟩,
 zmv 39 2 3,
 zmv 40 11 3,
 ⟨some 41,.binOp .add 3 (.tmp 39) (.tmp 40) 3,3,none⟩,
 zmv 42 10 3,
 ⟨some 43,.binOp .sub 3 (.tmp 41) (.tmp 42) 3,3,none⟩,
 zmv 44 10 3,
 zmv 45 4 110,
 ⟨some 46,.call ⟨.value (.func 146),#[(.tmp 35),(.tmp 38),(.tmp 43),(.tmp 44),(.tmp 45)],#[57,3,3,3,110]⟩,0,none⟩] [0,2,4,10,11]) (sg c138S1)))))
def c138L0(_:Unit):Cmd:=(.seq (.seq (.ops [
 zmv 18 10 3,
 zmv 19 11 3,
 ⟨some 20,.binOp .neq 3 (.tmp 18) (.tmp 19) 3,4,none⟩] [0,2,4,10,11,20])
 (.cond (.tmp 20)
 (.skip [0,2,4,10,11])
 (.exit 0 [0,2,4,10]))) (sg c138S2))
def c138S3(_:Unit):Cmd:=(.ops [
 zmv 50 0 57,
 zmv 51 2 3,
 zmv 52 10 3,
 ⟨some 53,.binOp .sub 3 (.tmp 51) (.tmp 52) 3,3,none⟩,
 zmv 54 2 3,
 zmv 55 10 3,
 zmv 56 4 110,
 ⟨some 57,.call ⟨.value (.func 146),#[(.tmp 50),(.tmp 53),(.tmp 54),(.tmp 55),(.tmp 56)],#[57,3,3,3,110]⟩,0,none⟩] [])
def c138:Cmd:=(.seq (.ops [
 zmv 12 2 3,
 zmv 13 1 3,
 ⟨some 14,.binOp .sub 3 (.tmp 12) (.tmp 13) 3,3,none⟩,
 zas 10 14 3] [0,2,3,4,10])
 (.seq (.ops [
 zmv 15 3 3,
 zmv 16 2 3,
 ⟨some 17,.binOp .sub 3 (.tmp 15) (.tmp 16) 3,3,none⟩,
 zas 11 17 3] [0,2,4,10,11])
 (.seq (.block 0 (.loop (sg c138L0))) (sg c138S3))))
attribute [go_sem] c138 c138S0 c138S1 c138S2
theorem ent138(a0 a1 a2 a3 a4:Value)(w:World)(K:Value→World→Prop)(h:W Tryz.prog c138 [(0,a0),(1,a1),(2,a2),(3,a3),(4,a4)] w (finQ Tryz.prog [] K)):Ret Tryz.prog 138 [a0,a1,a2,a3,a4] w K :=
 Ret_of_W (code:=c138code) Tryz.func138 (by kernel_rfl) (by kernel_rfl) (of_decide_eq_true (by kernel_rfl)) h
@[go_sem] theorem go138:goFunc Tryz.prog 138=true:=by kernel_rfl
def c146code:Code:=match Tryz.f146.body with | some c=>c | none=>.skip
def c146S0(_:Unit):Cmd:=(.ops [
 zmv 14 10 3,
 ⟨some 15,.binOp .add 3 (.tmp 14) (.const (.int .i64 1)) 3,3,none⟩,
 zas 10 15 3] [0,1,2,3,10])
def c146S1(_:Unit):Cmd:=(.seq (.block 1 (.draw (drawOps 0 c146code) [0,1,2,3,10])) (sg c146S0))
def c146L0(_:Unit):Cmd:=(.seq (.seq (.ops [
 zmv 11 10 3,
 zmv 12 3 3,
 ⟨some 13,.binOp .lss 3 (.tmp 11) (.tmp 12) 3,4,none⟩] [0,1,2,3,10,13])
 (.cond (.tmp 13)
 (.skip [0,1,2,3,10])
 (.exit 0 []))) (sg c146S1))
def c146:Cmd:=(.seq (.ops [
 ⟨some 10,.assign (.const (.int .i64 0)),3,none⟩] [0,1,2,3,10])
 (.block 0 (.loop (sg c146L0))))
attribute [go_sem] c146 c146S0 c146S1
def c146D0:List (Nat × Ins):=[
 (0,zmv 16 0 57),
 (0,zmv 17 1 3),
 (0,zmv 18 10 3),
 (0,⟨some 19,.binOp .add 3 (.tmp 17) (.tmp 18) 3,3,none⟩),
 (0,zmv 20 0 57),
 (0,zmv 21 2 3),
 (0,zmv 22 10 3),
 (0,⟨some 23,.binOp .add 3 (.tmp 21) (.tmp 22) 3,3,none⟩),
 (0,zmv 24 0 57),
 (0,zmv 25 2 3),
 (0,zmv 26 10 3),
 (0,⟨some 27,.binOp .add 3 (.tmp 25) (.tmp 26) 3,3,none⟩),
 (0,zix 28 57 24 27),
 (0,zmv 30 0 57),
 (0,zmv 31 1 3),
 (0,zmv 32 10 3),
 (0,⟨some 33,.binOp .add 3 (.tmp 31) (.tmp 32) 3,3,none⟩),
 (0,zix 34 57 30 33),
 (1,zld 29 65 28 65),
 (2,zld 35 65 34 65),
 (0,zix 36 57 16 19),
 (3,⟨none,.store 65 (.tmp 36) (.tmp 29),0,none⟩),
 (0,zix 37 57 20 23),
 (3,⟨none,.store 65 (.tmp 37) (.tmp 35),0,none⟩)]
theorem c146draw0{L:List Nat}{ρ:Env}{w:World}{Q:Post}(S:World→Prop)(hS:S w.drew)(h:DG Tryz.prog S c146D0 L ρ w.drew Q):drawW Tryz.prog (drawOps 0 c146code) L ρ w Q :=
 drawW_held [13] [(0,0),(0,1),(0,2),(0,3),(0,4),(0,5),(0,6),(0,7),(0,8),(0,9),(0,10),(0,11),(0,12),(0,14),(0,15),(0,16),(0,17),(0,18),(1,13),(2,19),(0,20),(3,21),(0,22),(3,23)] c146D0 (by kernel_rfl) (by kernel_rfl) (by kernel_rfl) S hS h
theorem ent146(a0 a1 a2 a3 a4:Value)(w:World)(K:Value→World→Prop)(h:W Tryz.prog c146 [(0,a0),(1,a1),(2,a2),(3,a3),(4,a4)] w (finQ Tryz.prog [] K)):Ret Tryz.prog 146 [a0,a1,a2,a3,a4] w K :=
 Ret_of_W (code:=c146code) Tryz.func146 (by kernel_rfl) (by kernel_rfl) (of_decide_eq_true (by kernel_rfl)) h
@[go_sem] theorem go146:goFunc Tryz.prog 146=true:=by kernel_rfl
def c50code:Code:=match Tryz.f50.body with | some c=>c | none=>.skip
def c50:Cmd:=(.seq (.ops [
 zmv 5 0 22,
 ⟨some 6,.call ⟨.builtin .len,#[(.tmp 5)],#[22]⟩,3,none⟩,
 zas 4 6 3] [0,1,4])
 (.ops [
 zmv 7 0 22,
 zmv 8 4 3,
 zmv 9 4 3,
 ⟨some 10,.convert 3 135 (.tmp 9),135,none⟩,
 ⟨some 11,.call ⟨.value (.func 81),#[(.tmp 10)],#[135]⟩,3,none⟩,
 zmv 12 1 99,
 ⟨some 13,.call ⟨.value (.func 80),#[(.tmp 7),(.const (.int .i64 0)),(.tmp 8),(.tmp 11),(.tmp 12)],#[22,3,3,3,99]⟩,0,none⟩] []))
attribute [go_sem] c50
theorem ent50(a0 a1:Value)(w:World)(K:Value→World→Prop)(h:W Tryz.prog c50 [(0,a0),(1,a1)] w (finQ Tryz.prog [] K)):Ret Tryz.prog 50 [a0,a1] w K :=
 Ret_of_W (code:=c50code) Tryz.func50 (by kernel_rfl) (by kernel_rfl) (of_decide_eq_true (by kernel_rfl)) h
@[go_sem] theorem go50:goFunc Tryz.prog 50=true:=by kernel_rfl
@[go_sem] theorem go81:goFunc Tryz.prog 81=true:=by kernel_rfl
@[go_sem] theorem go111:goFunc Tryz.prog 111=true:=by kernel_rfl
@[go_sem] theorem go110:goFunc Tryz.prog 110=true:=by kernel_rfl
@[go_sem] theorem go118:goFunc Tryz.prog 118=true:=by kernel_rfl
def c102code:Code:=match Tryz.f102.body with | some c=>c | none=>.skip
def c102S0(_:Unit):Cmd:=(.cond (.tmp 34)
 (.skip [0,1,2,3,8,9])
 (.exit 2 [0,1,2,3,8]))
def c102S1(_:Unit):Cmd:=(.ops [
 zmv 35 9 3,
 ⟨some 36,.binOp .sub 3 (.tmp 35) (.const (.int .i64 1)) 3,3,none⟩,
 zas 9 36 3] [0,1,2,3,8,9])
def c102S2(_:Unit):Cmd:=(.seq (.block 3 (.draw (drawOps 1 c102code) [0,1,2,3,8,9])) (sg c102S1))
def c102L0(_:Unit):Cmd:=(.seq (.seq (.draw (drawOps 0 c102code) [0,1,2,3,8,9,34]) (sg c102S0)) (sg c102S2))
def c102S3(_:Unit):Cmd:=(.ops [
 zmv 15 8 3,
 ⟨some 16,.binOp .add 3 (.tmp 15) (.const (.int .i64 1)) 3,3,none⟩,
 zas 8 16 3] [0,1,2,3,8])
def c102S4(_:Unit):Cmd:=(.seq (.block 1 (.seq (.ops [
 zmv 17 8 3,
 zas 9 17 3] [0,1,2,3,8,9])
 (.block 2 (.loop (sg c102L0))))) (sg c102S3))
def c102L1(_:Unit):Cmd:=(.seq (.seq (.ops [
 zmv 12 8 3,
 zmv 13 2 3,
 ⟨some 14,.binOp .lss 3 (.tmp 12) (.tmp 13) 3,4,none⟩] [0,1,2,3,8,14])
 (.cond (.tmp 14)
 (.skip [0,1,2,3,8])
 (.exit 0 []))) (sg c102S4))
def c102:Cmd:=(.seq (.ops [
 zmv 10 1 3,
 ⟨some 11,.binOp .add 3 (.tmp 10) (.const (.int .i64 1)) 3,3,none⟩,
 zas 8 11 3] [0,1,2,3,8])
 (.block 0 (.loop (sg c102L1))))
attribute [go_sem] c102 c102S0 c102S1 c102S2 c102L0 c102S3 c102S4 c102L1
theorem ent102(a0 a1 a2 a3:Value)(w:World)(K:Value→World→Prop)(h:W Tryz.prog c102 [(0,a0),(1,a1),(2,a2),(3,a3)] w (finQ Tryz.prog [] K)):Ret Tryz.prog 102 [a0,a1,a2,a3] w K :=
 Ret_of_W (code:=c102code) Tryz.func102 (by kernel_rfl) (by kernel_rfl) (of_decide_eq_true (by kernel_rfl)) h
@[go_sem] theorem go102:goFunc Tryz.prog 102=true:=by kernel_rfl
def c80code:Code:=match Tryz.f80.body with | some c=>c | none=>.skip
def c80S0(_:Unit):Cmd:=.ret
def c80S1(_:Unit):Cmd:=.ret
def c80S2(_:Unit):Cmd:=(.ops [
 zmv 45 3 3,
 ⟨some 46,.binOp .sub 3 (.tmp 45) (.const (.int .i64 1)) 3,3,none⟩,
 zas 3 46 3] [0,1,2,3,4,10,11,12])
def c80S3(_:Unit):Cmd:=(.seq (.ops [
 zmv 62 2 3,
 ⟨some 63,.binOp .sub 3 (.tmp 62) (.const (.int .i64 1)) 3,3,none⟩,
 zmv 64 13 3,
 zmv 65 1 3,
 ⟨some 66,.binOp .sub 3 (.tmp 64) (.tmp 65) 3,3,none⟩,
 ⟨some 67,.binOp .sub 3 (.tmp 63) (.tmp 66) 3,3,none⟩,
 zas 13 67 3] [0,1,2,3,4,10,11,12,13])
 (.ops [
 ⟨some 14,.assign (.const (.int .i64 1)),156,none⟩] [0,1,2,3,4,10,11,12,13,14]))
def c80S4(_:Unit):Cmd:=(.cond (.tmp 80)
 .ret
 (.skip [0,1,2,3,4,10,11,12,13]))
def c80S5(_:Unit):Cmd:=(.seq (.ops [
 zmv 104 15 3,
 zas 1 104 3] [0,1,2,3,4,10,11])
 (.exit 1 [0,1,2,3,4,10,11]))
def c80S6(_:Unit):Cmd:=(.cond (.tmp 97)
 (.seq (.ops [
 zmv 98 0 22,
 zmv 99 1 3,
 zmv 100 2 3,
 zmv 101 13 3,
 zmv 102 4 99,
 ⟨some 103,.call ⟨.value (.func 108),#[(.tmp 98),(.tmp 99),(.tmp 100),(.tmp 101),(.tmp 102)],#[22,3,3,3,99]⟩,3,none⟩,
 zas 15 103 3] [0,2,3,4,10,11,15]) (sg c80S5))
 (.skip [0,1,2,3,4,12,13]))
def c80S7(_:Unit):Cmd:=(.ops [
 zmv 135 16 3,
 ⟨some 136,.binOp .add 3 (.tmp 135) (.const (.int .i64 1)) 3,3,none⟩,
 zas 1 136 3] [0,1,2,3,4,10,11])
def c80S8(_:Unit):Cmd:=(.ops [
 zmv 147 16 3,
 zas 2 147 3] [0,1,2,3,4,10,11])
def c80S9(_:Unit):Cmd:=(.seq (.ops [
 zmv 114 17 4,
 zas 11 114 4] [0,1,2,3,4,11,12,16])
 (.seq (.ops [
 zmv 115 16 3,
 zmv 116 1 3,
 ⟨some 117,.binOp .sub 3 (.tmp 115) (.tmp 116) 3,3,none⟩,
 zmv 118 2 3,
 zmv 119 16 3,
 ⟨some 120,.binOp .sub 3 (.tmp 118) (.tmp 119) 3,3,none⟩,
 zas 18 117 3,
 zas 19 120 3] [0,1,2,3,4,11,12,16,18,19])
 (.seq (.ops [
 zmv 121 12 3,
 ⟨some 122,.binOp .quo 3 (.tmp 121) (.const (.int .i64 8)) 3,3,none⟩,
 zas 20 122 3] [0,1,2,3,4,11,16,18,19,20])
 (.seq (.ops [
 zmv 123 18 3,
 zmv 124 19 3,
 ⟨some 125,.binOp .lss 3 (.tmp 123) (.tmp 124) 3,4,none⟩] [0,1,2,3,4,11,16,18,19,20,125])
 (.cond (.tmp 125)
 (.seq (.ops [
 zmv 126 18 3,
 zmv 127 20 3,
 ⟨some 128,.binOp .geq 3 (.tmp 126) (.tmp 127) 3,4,none⟩,
 zas 10 128 4] [0,1,2,3,4,10,11,16])
 (.seq (.ops [
 zmv 129 0 22,
 zmv 130 1 3,
 zmv 131 16 3,
 zmv 132 3 3,
 zmv 133 4 99,
 ⟨some 134,.call ⟨.value (.func 80),#[(.tmp 129),(.tmp 130),(.tmp 131),(.tmp 132),(.tmp 133)],#[22,3,3,3,99]⟩,0,none⟩] [0,2,3,4,10,11,16]) (sg c80S7)))
 (.seq (.ops [
 zmv 137 19 3,
 zmv 138 20 3,
 ⟨some 139,.binOp .geq 3 (.tmp 137) (.tmp 138) 3,4,none⟩,
 zas 10 139 4] [0,1,2,3,4,10,11,16])
 (.seq (.ops [
 zmv 140 0 22,
 zmv 141 16 3,
 ⟨some 142,.binOp .add 3 (.tmp 141) (.const (.int .i64 1)) 3,3,none⟩,
 zmv 143 2 3,
 zmv 144 3 3,
 zmv 145 4 99,
 ⟨some 146,.call ⟨.value (.func 80),#[(.tmp 140),(.tmp 142),(.tmp 143),(.tmp 144),(.tmp 145)],#[22,3,3,3,99]⟩,0,none⟩] [0,1,3,4,10,11,16]) (sg c80S8))))))))
def c80S10(_:Unit):Cmd:=(.seq (.ops [
 zmv 106 0 22,
 zmv 107 1 3,
 zmv 108 2 3,
 zmv 109 13 3,
 zmv 110 4 99,
 ⟨some 111,.call ⟨.value (.func 109),#[(.tmp 106),(.tmp 107),(.tmp 108),(.tmp 109),(.tmp 110)],#[22,3,3,3,99]⟩,138,none⟩,
 zmv 105 111 138,
 ⟨some 112,.extract (.tmp 105) 0,3,none⟩,
 ⟨some 113,.extract (.tmp 105) 1,4,none⟩,
 zas 16 112 3,
 zas 17 113 4] [0,1,2,3,4,12,16,17]) (sg c80S9))
def c80S11(_:Unit):Cmd:=(.seq (.seq (.draw (drawOps 0 c80code) [0,1,2,3,4,10,11,12,13,97]) (sg c80S6)) (sg c80S10))
def c80S12(_:Unit):Cmd:=(.seq (.seq (.ops [
 zmv 68 10 4,
 zmv 69 68 4,
 zmg 70 11 4 69 true,
 ⟨some 71,.pick (.tmp 69) (.tmp 70) (.const (.bool false)),4,none⟩,
 zmv 72 71 4,
 zmg 73 14 156 72 true,
 ⟨some 74,.binOp .eql 156 (.tmp 73) (.const (.int .i64 1)) 156,4,(some (72,true))⟩,
 ⟨some 75,.pick (.tmp 72) (.tmp 74) (.const (.bool false)),4,none⟩] [0,1,2,3,4,10,11,12,13,75])
 (.cond (.tmp 75)
 (.seq (.ops [
 zmv 76 0 22,
 zmv 77 1 3,
 zmv 78 2 3,
 zmv 79 4 99,
 ⟨some 80,.call ⟨.value (.func 107),#[(.tmp 76),(.tmp 77),(.tmp 78),(.tmp 79)],#[22,3,3,99]⟩,4,none⟩] [0,1,2,3,4,10,11,12,13,80]) (sg c80S4))
 (.skip [0,1,2,3,4,10,11,12,13]))) (sg c80S11))
def c80S13(_:Unit):Cmd:=(.seq (.seq (.ops [
 zmv 55 14 156,
 ⟨some 56,.binOp .eql 156 (.tmp 55) (.const (.int .i64 2)) 156,4,none⟩] [0,1,2,3,4,10,11,12,13,14,56])
 (.cond (.tmp 56)
 (.seq (.ops [
 zmv 57 0 22,
 zmv 58 1 3,
 zmv 59 2 3,
 zmv 60 4 99,
 ⟨some 61,.call ⟨.value (.func 106),#[(.tmp 57),(.tmp 58),(.tmp 59),(.tmp 60)],#[22,3,3,99]⟩,0,none⟩] [0,1,2,3,4,10,11,12,13]) (sg c80S3))
 (.skip [0,1,2,3,4,10,11,12,13,14]))) (sg c80S12))
def c80S14(_:Unit):Cmd:=(.seq (.ops [
 zmv 48 0 22,
 zmv 49 1 3,
 zmv 50 2 3,
 zmv 51 4 99,
 ⟨some 52,.call ⟨.value (.func 105),#[(.tmp 48),(.tmp 49),(.tmp 50),(.tmp 51)],#[22,3,3,99]⟩,157,none⟩,
 zmv 47 52 157,
 ⟨some 53,.extract (.tmp 47) 0,3,none⟩,
 ⟨some 54,.extract (.tmp 47) 1,156,none⟩,
 zas 13 53 3,
 zas 14 54 156] [0,1,2,3,4,10,11,12,13,14]) (sg c80S13))
def c80S15(_:Unit):Cmd:=(.seq (.seq (.ops [
 zmv 38 10 4,
 ⟨some 39,.unOp .not 4 (.tmp 38),4,none⟩] [0,1,2,3,4,10,11,12,39])
 (.cond (.tmp 39)
 (.seq (.ops [
 zmv 40 0 22,
 zmv 41 1 3,
 zmv 42 2 3,
 zmv 43 4 99,
 ⟨some 44,.call ⟨.value (.func 104),#[(.tmp 40),(.tmp 41),(.tmp 42),(.tmp 43)],#[22,3,3,99]⟩,0,none⟩] [0,1,2,3,4,10,11,12]) (sg c80S2))
 (.skip [0,1,2,3,4,10,11,12]))) (sg c80S14))
def c80S16(_:Unit):Cmd:=(.seq (.seq (.ops [
 zmv 31 3 3,
 ⟨some 32,.binOp .eql 3 (.tmp 31) (.const (.int .i64 0)) 3,4,none⟩] [0,1,2,3,4,10,11,12,32])
 (.cond (.tmp 32)
 (.seq (.ops [
 zmv 33 0 22,
 zmv 34 1 3,
 zmv 35 2 3,
 zmv 36 4 99,
 ⟨some 37,.call ⟨.value (.func 103),#[(.tmp 33),(.tmp 34),(.tmp 35),(.tmp 36)],#[22,3,3,99]⟩,0,none⟩] []) (sg c80S1))
 (.skip [0,1,2,3,4,10,11,12]))) (sg c80S15))
def c80L0(_:Unit):Cmd:=(.block 1 (.seq (.ops [
 zmv 21 2 3,
 zmv 22 1 3,
 ⟨some 23,.binOp .sub 3 (.tmp 21) (.tmp 22) 3,3,none⟩,
 zas 12 23 3] [0,1,2,3,4,10,11,12])
 (.seq (.seq (.ops [
 zmv 24 12 3,
 ⟨some 25,.binOp .leq 3 (.tmp 24) (.const (.int .i64 12)) 3,4,none⟩] [0,1,2,3,4,10,11,12,25])
 (.cond (.tmp 25)
 (.seq (.ops [
 zmv 26 0 22,
 zmv 27 1 3,
 zmv 28 2 3,
 zmv 29 4 99,
 ⟨some 30,.call ⟨.value (.func 102),#[(.tmp 26),(.tmp 27),(.tmp 28),(.tmp 29)],#[22,3,3,99]⟩,0,none⟩] []) (sg c80S0))
 (.skip [0,1,2,3,4,10,11,12]))) (sg c80S16))))
def c80:Cmd:=(.seq (.ops [
 ⟨some 10,.assign (.const (.bool true)),4,none⟩] [0,1,2,3,4,10])
 (.seq (.ops [
 ⟨some 11,.assign (.const (.bool true)),4,none⟩] [0,1,2,3,4,10,11])
 (.block 0 (.loop (sg c80L0)))))
attribute [go_sem] c80 c80S0 c80S1 c80S2 c80S3 c80S4 c80S5 c80S6 c80S7 c80S8 c80S9 c80S10 c80S11 c80S12 c80S13 c80S14 c80S15 c80S16 c80L0
theorem ent80(a0 a1 a2 a3 a4:Value)(w:World)(K:Value→World→Prop)(h:W Tryz.prog c80 [(0,a0),(1,a1),(2,a2),(3,a3),(4,a4)] w (finQ Tryz.prog [] K)):Ret Tryz.prog 80 [a0,a1,a2,a3,a4] w K :=
 Ret_of_W (code:=c80code) Tryz.func80 (by kernel_rfl) (by kernel_rfl) (of_decide_eq_true (by kernel_rfl)) h
@[go_sem] theorem go80:goFunc Tryz.prog 80=true:=by kernel_rfl
open Go Go.Ann Go.RowKit
def u8(n:Nat):UInt8:=UInt8.ofNat n
def varL(n:Nat):List UInt8:=if h:n<128 then [u8 n] else u8 (n % 128+128)::varL (n / 128)
termination_by n
decreasing_by omega
theorem varL_lt{n:Nat}(h:n<128):varL n=[u8 n]:=by rw [varL,dif_pos h]
theorem varL_ge{n:Nat}(h:¬ n<128):varL n=u8 (n % 128+128)::varL (n / 128):=by rw [varL,dif_neg h]
theorem varL_len{k:Nat}:∀ {n:Nat},n<128 ^ (k+1)→(varL n).length≤k+1:=by
 induction k with
 | zero=>intro n h; rw [varL_lt (by simpa using h)]; simp
 | succ k ih =>
  intro n h
  by_cases hn:n<128
  ·rw [varL_lt hn]; simp
  ·rw [varL_ge hn,List.length_cons]
   have:n / 128<128 ^ (k+1):=by
    rw [Nat.div_lt_iff_lt_mul (by decide)]
    rw [Nat.pow_succ] at h; omega
   have:=ih this
   omega
theorem varL_10{n:Nat}(h:n<18446744073709551616):(varL n).length≤10:=varL_len (k:=9) (by omega)
def byteC(b:UInt8):Value:=.int .u8 b.toNat
theorem wrap_u8(n:Nat):IntKind.u8.wrap (n:Int)=((u8 n).toNat:Int):=by
 rw [wrap_u8_mod]; unfold u8; simp
theorem or128:∀ x:Fin 256,bits BinOp.or IntKind.u8 (x.val:Int) 128=((x.val % 128+128:Nat):Int):=by decide +kernel
theorem or_u8(m:Nat):bits BinOp.or IntKind.u8 (IntKind.u8.wrap (m:Int)) 128=((u8 (m % 128+128)).toNat:Int):=by
 have h:=or128 ⟨m % 256,by omega⟩
 have e:IntKind.u8.wrap (m:Int)=((m % 256:Nat):Int):=by rw [wrap_u8_mod]; omega
 rw [e,h]
 unfold u8
 simp
 omega
theorem byte_one(b:UInt8):∀ u∈[byteC b],u.oneCell'=true:=by intro u hu; rw [List.mem_singleton] at hu; subst hu; rfl
theorem var_ok(n:Nat)(w:World)(hn:n<18446744073709551616):Ret Tryz.prog 136 [.int .u64 n] w fun u w'=>u=.string (ofL (varL n))∧Gr w w':=by
 refine ent136 _ _ _ ?_
 simp (disch:=first|omega|exact zF rfl|exact zG rfl|exact fun h=>h|(simp only[zA,zB,zC,zD,bytesW];omega)) only[go_sem]
 have s1:=(St.start (W0:=w)).nilRow 5 1
 refine W_loopU (fun x:Nat × List UInt8 × Value=>[(0,.int .u64 x.1),(3,x.2.2)]) (fun x w'=>St w w' (fun _=>False) [.row x.2.2 5 1 x.2.1.length (x.2.1.map byteC)] []∧w.drawn≤w'.drawn∧varL n=x.2.1++varL x.1∧x.1<128 ^ (10 - x.2.1.length)∧x.2.1.length≤9) (fun x=>x.1) (n,[],.slice none 0 0) rfl ⟨s1,Nat.le_refl _,rfl,by simp; omega,by simp⟩ ?_
 rintro ⟨m,pre,v⟩ w1 ⟨s1,hd,hv,hm,hp⟩
 simp only at s1 hd hv hm hp
 obtain ⟨a,c,rfl,_⟩:=own_slice (s1.row 0 rfl)
 by_cases hlt:m<128
 ·have hlt':¬ (128:Int)≤m:=by omega
  simp (disch:=first|omega|exact zF rfl|exact zG rfl|exact fun h=>h|(simp only[zA,zB,zC,zD,bytesW];omega)) only[go_sem,hlt']
  rw [wrap_u8]
  refine bsW_ones ty120mkI rfl rfl (by decide) (by decide) (byte_one _) ?_
  simp (disch:=first|omega|exact zF rfl|exact zG rfl|exact fun h=>h|(simp only[zA,zB,zC,zD,bytesW];omega)) only[go_sem]
  have hx:Rd (w1.alloc (.cells #[byteC (u8 m)] 5)) 1 (.slice (some ⟨w1.heap.size,0,none⟩) 1 1) 1 [byteC (u8 m)]:=rd_new (n:=1) (cs:=#[byteC (u8 m)]) rfl
  refine rawB_D ((s1.alloc' (.cells #[byteC (u8 m)] 5)).append 0 rfl ty120mkI rfl (by decide) hx (byte_one _) (by omega) (by omega) ?_)
  intro v6 w6 s6 c6 d6
  simp only [List.set_cons_zero] at s6
  obtain ⟨a6,c6',rfl,_⟩:=own_slice (s6.row 0 rfl)
  simp (disch:=first|omega|exact zF rfl|exact zG rfl|exact fun h=>h|(simp only[zA,zB,zC,zD,bytesW];omega)) only[go_sem]
  obtain ⟨g,rfl⟩:∃ g,a6=some ⟨g,0,none⟩:=by
   obtain ⟨_,⟨e,h0⟩ | ⟨g,cap,cur,e,_⟩⟩:=s6.row 0 rfl
   ·cases h0
   ·cases e; exact ⟨_,rfl⟩
  have hc:=(s6.row 0 rfl).cells rfl
  refine ⟨varL n,by rw [hv,varL_lt hlt]; simp,fun j b hb=>?_,rfl,s6.bel,Nat.le_trans hd d6⟩
  rw [hv,varL_lt hlt] at hb
  refine hc j _ ?_
  have:pre.map byteC++[byteC (u8 m)]=(pre++[u8 m]).map byteC:=by simp
  rw [this,List.getElem?_map,hb]
  rfl
 ·have hlt':(128:Int)≤m:=by omega
  simp (disch:=first|omega|exact zF rfl|exact zG rfl|exact fun h=>h|(simp only[zA,zB,zC,zD,bytesW];omega)) only[go_sem,hlt']
  rw [or_u8]
  refine bsW_ones ty120mkI rfl rfl (by decide) (by decide) (byte_one _) ?_
  simp (disch:=first|omega|exact zF rfl|exact zG rfl|exact fun h=>h|(simp only[zA,zB,zC,zD,bytesW];omega)) only[go_sem]
  have hx:Rd (w1.alloc (.cells #[byteC (u8 (m % 128+128))] 5)) 1 (.slice (some ⟨w1.heap.size,0,none⟩) 1 1) 1 [byteC (u8 (m % 128+128))]:=rd_new (n:=1) (cs:=#[byteC (u8 (m % 128+128))]) rfl
  refine rawB_D ((s1.alloc' (.cells #[byteC (u8 (m % 128+128))] 5)).append 0 rfl ty120mkI rfl (by decide) hx (byte_one _) (by omega) (by omega) ?_)
  intro v6 w6 s6 c6 d6
  simp only [List.set_cons_zero] at s6
  simp (disch:=first|omega|exact zF rfl|exact zG rfl|exact fun h=>h|(simp only[zA,zB,zC,zD,bytesW];omega)) only[go_sem]
  have e1:(m:Int) / 2 ^ min 7 64=((m / 128:Nat):Int):=by
   rw [show (2:Int) ^ min 7 64=128 by decide]; omega
  rw [e1]
  have e2:pre.map byteC++[byteC (u8 (m % 128+128))]=(pre++[u8 (m % 128+128)]).map byteC:=by simp
  rw [e2] at s6
  have hp2:pre.length≤8:=by
   rcases Nat.lt_or_ge 8 pre.length with h | h
   ·have:pre.length=9:=by omega
    rw [this] at hm
    omega
   ·exact h
  refine ⟨(m / 128,pre++[u8 (m % 128+128)],v6),rfl,⟨by rw [List.length_append]; exact s6,Nat.le_trans hd d6,by simp only; rw [hv,varL_ge hlt,List.append_assoc]; rfl,?_,by simp; omega⟩,by simp only; omega⟩
  simp only [List.length_append,List.length_singleton]
  rw [Nat.div_lt_iff_lt_mul (by decide),← Nat.pow_succ]
  rw [show (10 - (pre.length+1)).succ=10 - pre.length by omega]
  exact hm
def foldN(n:Int):Nat:=if 0≤n then (2 * n).toNat else (-2 * n - 1).toNat
theorem xor_zero(x:Nat)(h:x<18446744073709551616):bits .xor .u64 (x:Int) 0=x:=by
 have e:(BitVec.ofInt 64 (x:Int) ^^^ BitVec.ofInt 64 0).toNat=x:=by
  rw [BitVec.toNat_xor]
  have h2:(BitVec.ofInt 64 (x:Int)).toNat=x:=by
   rw [BitVec.ofInt_natCast,BitVec.toNat_ofNat]; exact Nat.mod_eq_of_lt (by omega)
  have h3:(BitVec.ofInt 64 0).toNat=0:=by decide
  rw [h2,h3,Nat.xor_zero]
 show IntKind.u64.wrap (((BitVec.ofInt 64 (x:Int) ^^^ BitVec.ofInt 64 0).toNat:Nat):Int)=_
 rw [e,wrap_u64_id _ (by omega) (by omega)]
theorem xor_ones(x:Nat)(h:x<18446744073709551616):bits .xor .u64 (x:Int) 18446744073709551615=((18446744073709551615 - x:Nat):Int):=by
 have e:(BitVec.ofInt 64 (x:Int) ^^^ BitVec.ofInt 64 18446744073709551615).toNat=18446744073709551615 - x:=by
  have h2:(BitVec.ofInt 64 (x:Int)).toNat=x:=by
   rw [BitVec.ofInt_natCast,BitVec.toNat_ofNat]; exact Nat.mod_eq_of_lt (by omega)
  have h3:BitVec.ofInt 64 18446744073709551615=BitVec.allOnes 64:=by decide
  rw [h3,BitVec.xor_allOnes,BitVec.toNat_not,h2]
 show IntKind.u64.wrap (((BitVec.ofInt 64 (x:Int) ^^^ BitVec.ofInt 64 18446744073709551615).toNat:Nat):Int)=_
 rw [e,wrap_u64_id _ (by omega) (by omega)]
theorem wrap_u64(n:Int):IntKind.u64.wrap n=n % 18446744073709551616:=by
 simp [IntKind.wrap,IntKind.signed,IntKind.bits]
theorem foldN_lt(n:Int)(h:I64 n):foldN n<18446744073709551616:=by
 obtain ⟨h1,h2⟩:=h
 unfold foldN; split <;> omega
theorem fold_ok(n:Int)(w:World)(h:I64 n):Ret Tryz.prog 137 [.int .i64 n] w fun u w'=>u=.int .u64 (foldN n)∧w'=w:=by
 obtain ⟨h1,h2⟩:=h
 refine ent137 _ _ _ ?_
 simp (disch:=first|omega|exact zF rfl|exact zG rfl|exact fun h=>h|(simp only[zA,zB,zC,zD,bytesW];omega)) only[go_sem]
 rw [show (2:Int) ^ min 1 64=2 by decide,show (2:Int) ^ min 63 64=9223372036854775808 by decide]
 unfold foldN
 by_cases hn:0≤n
 ·rw [if_pos hn]
  obtain ⟨m,rfl⟩:=Int.eq_ofNat_of_zero_le hn
  have e1:(m:Int) / 9223372036854775808=0:=by omega
  have e2:IntKind.u64.wrap (IntKind.u64.wrap (m:Int) * 2)=((2 * m:Nat):Int):=by rw [wrap_u64,wrap_u64]; omega
  have e3:IntKind.u64.wrap 0=0:=by decide
  rw [e1,e2,e3,xor_zero _ (by omega)]
  omega
 ·rw [if_neg hn]
  obtain ⟨m,hm⟩:∃ m:Nat,n = -(m:Int):=⟨(-n).toNat,by omega⟩
  subst hm
  have e1:-(m:Int) / 9223372036854775808 = -1:=by omega
  have e2:IntKind.u64.wrap (IntKind.u64.wrap (-(m:Int)) * 2)=((18446744073709551616 - 2 * m:Nat):Int):=by rw [wrap_u64,wrap_u64]; omega
  have e3:IntKind.u64.wrap (-1)=18446744073709551615:=by decide
  rw [e1,e2,e3,xor_ones _ (by omega)]
  omega
theorem rfold_ok(n:Int)(w:World)(h:I64 n):Ret Tryz.prog 94 [.int .i64 n] w fun u w'=>u=.int .u64 (foldN n)∧w'=w:=by
 obtain ⟨h1,h2⟩:=h
 refine ent94 _ _ _ ?_
 simp (disch:=first|omega|exact zF rfl|exact zG rfl|exact fun h=>h|(simp only[zA,zB,zC,zD,bytesW];omega)) only[go_sem]
 unfold foldN
 refine ⟨fun hn=>?_,fun hn=>⟨⟨by omega,by omega⟩,?_⟩⟩
 ·rw [if_pos hn,wrap_u64,wrap_u64]; omega
 ·rw [if_neg (by omega),wrap_u64,wrap_u64,wrap_u64]; omega
theorem rvar1{n:Nat}{w:World}{Q:Value→World→Prop}(h:Q (.slice (some ⟨w.heap.size,0,none⟩) 1 1) (w.alloc (.cells #[byteC (u8 n)] 5))):bsW Tryz.prog 120 1 [0] [.int .u8 (IntKind.u8.wrap n)] w Q:=by
 rw [wrap_u8]
 exact bsW_ones ty120mkI rfl rfl (by decide) (by decide) (byte_one _) h
theorem one_byte{w:World}{b:Nat}{x:UInt8}(h:Blk w b #[byteC x] 5):bytesAt w (some ⟨b,0,none⟩) [x]:=by
 intro i c hc
 match i,hc with
 | 0,hc =>
  simp only [List.getElem?_cons_zero,Option.some.injEq] at hc; subst hc
  exact h.cell 0
 | i+1,hc=>simp at hc
theorem rvar_ok:∀ (k n:Nat) (w:World),n<128 ^ (k+1)→n<18446744073709551616→Ret Tryz.prog 93 [.int .u64 n] w fun u w'=>u=.string (ofL (varL n))∧Below w.heap.size w w':=by
 intro k
 induction k with
 | zero =>
  intro n w h hn
  refine ent93 _ _ _ ?_
  have:(n:Int)<128:=by simp at h; omega
  simp (disch:=first|omega|exact zF rfl|exact zG rfl|exact fun h=>h|(simp only[zA,zB,zC,zD,bytesW];omega)) only[go_sem,this]
  refine rvar1 ?_
  simp (disch:=first|omega|exact zF rfl|exact zG rfl|exact fun h=>h|(simp only[zA,zB,zC,zD,bytesW];omega)) only[go_sem]
  refine ⟨[u8 n],rfl,one_byte Blk.new,?_,(Below.refl _ w).alloc (Nat.le_refl _) _⟩
  rw [varL_lt (by omega)]
 | succ k ih =>
  intro n w h hn
  refine ent93 _ _ _ ?_
  simp (disch:=first|omega|exact zF rfl|exact zG rfl|exact fun h=>h|(simp only[zA,zB,zC,zD,bytesW];omega)) only[go_sem]
  have bl:=fun x=>(Below.refl w.heap.size w).alloc (Nat.le_refl _) (.cells #[byteC x] 5)
  refine ⟨fun h=>rvar1 ?_,fun h=>?_⟩
  ·simp (disch:=first|omega|exact zF rfl|exact zG rfl|exact fun h=>h|(simp only[zA,zB,zC,zD,bytesW];omega)) only[go_sem]
   refine ⟨[u8 n],rfl,one_byte Blk.new,?_,bl _⟩
   rw [varL_lt (by omega)]
  have hd:n / 128<128 ^ (k+1):=by
   rw [Nat.div_lt_iff_lt_mul (by decide)]
   rw [Nat.pow_succ] at *; omega
  have e1:IntKind.u64.wrap ((n:Int).tdiv 128)=((n / 128:Nat):Int):=by rw [show (n:Int).tdiv 128=((n / 128:Nat):Int) from rfl,wrap_u64]; omega
  have e2:IntKind.u64.wrap ((n:Int).tmod 128+128)=((n % 128+128:Nat):Int):=by rw [show (n:Int).tmod 128=((n % 128:Nat):Int) from rfl,wrap_u64]; omega
  have hn2:varL n=u8 (n % 128+128)::varL (n / 128):=varL_ge (by omega)
  refine c93draw0 (fun _=>True) trivial ?_
  simp (disch:=first|omega|exact zF rfl|exact zG rfl|exact fun h=>h|(simp only[zA,zB,zC,zD,bytesW];omega)) only[go_sem,c93D0]
  rw [e1,e2]
  have hw:Below w.heap.size w w.drew:=(Below.refl _ w).drew
  constructor
  ·refine rvar1 ?_
   simp (disch:=first|omega|exact zF rfl|exact zG rfl|exact fun h=>h|(simp only[zA,zB,zC,zD,bytesW];omega)) only[go_sem]
   have B0:Blk (w.alloc (.cells #[byteC (u8 (n % 128+128))] 5)) w.heap.size #[byteC (u8 (n % 128+128))] 5:=Blk.new
   have hb:=bl (u8 (n % 128+128))
   have hl:=varL_10 (show n / 128<18446744073709551616 by omega)
   have hbd:=hb.drew
   constructor
   ·refine ⟨[u8 (n % 128+128)],rfl,one_byte B0.drew,Ret.mono (ih (n / 128) _ hd (by omega)) ?_⟩
    rintro _ w2 ⟨rfl,b2⟩
    simp (disch:=first|omega|exact zF rfl|exact zG rfl|exact fun h=>h|(simp only[zA,zB,zC,zD,bytesW];omega)) only[go_sem]
    exact ⟨by first | omega | (simp only [List.length_cons,List.length_nil]; omega),by first | (rw [hn2]; done) | (rw [hn2]; rfl),Below.next hbd b2⟩
   ·refine Ret.mono (ih (n / 128) _ hd (by omega)) ?_
    rintro _ w2 ⟨rfl,b2⟩
    simp (disch:=first|omega|exact zF rfl|exact zG rfl|exact fun h=>h|(simp only[zA,zB,zC,zD,bytesW];omega)) only[go_sem]
    refine ⟨[u8 (n % 128+128)],rfl,one_byte (B0.drew.below b2 B0.drew.lt),?_⟩
    exact ⟨by first | omega | (simp only [List.length_cons,List.length_nil]; omega),by first | (rw [hn2]; done) | (rw [hn2]; rfl),Below.next hbd b2⟩
  ·have hl:=varL_10 (show n / 128<18446744073709551616 by omega)
   refine Ret.mono (ih (n / 128) _ hd (by omega)) ?_
   rintro _ w2 ⟨rfl,b2⟩
   simp (disch:=first|omega|exact zF rfl|exact zG rfl|exact fun h=>h|(simp only[zA,zB,zC,zD,bytesW];omega)) only[go_sem]
   refine rvar1 ?_
   simp (disch:=first|omega|exact zF rfl|exact zG rfl|exact fun h=>h|(simp only[zA,zB,zC,zD,bytesW];omega)) only[go_sem]
   refine ⟨[u8 (n % 128+128)],rfl,one_byte Blk.new,by simp only [List.length_cons,List.length_nil]; omega,by rw [hn2,List.singleton_append],(Below.next hw b2).trans ((Below.refl _ w2).alloc (Below.next hw b2).size _)⟩
open Go Go.Ann Go.RowKit
def intE(n:Int):List Value:=[.int .i64 n]
theorem intE_len(n:Int):(intE n).length=1:=rfl
theorem intE_one(n:Int):∀ u∈intE n,u.oneCell'=true:=by intro u hu; simp only [intE,List.mem_singleton] at hu; subst hu; rfl
theorem RdS.int{w:World}{ad:Addr}{n cap:Nat}{l:List Int}(h:RdS w 1 intE (.slice (some ad) n cap) l){k:Nat}(hk:k<l.length):w.cell? (ad.add k)=some (.int .i64 l[k]) :=
 RdS.at1 (e1:=fun r=>.int .i64 r) h hk
def txt(l:List Int):List UInt8:=varL l.length++l.flatMap fun n=>varL (foldN n)
def Ok64(l:List Int):Prop:=∀ n∈l,I64 n
theorem flat_len{l:List Int}(h:Ok64 l):(l.flatMap fun n=>varL (foldN n)).length≤10 * l.length:=by
 induction l with
 | nil=>simp
 | cons n l ih =>
  have h1:=varL_10 (foldN_lt n (h n (List.mem_cons_self ..)))
  have h2:=ih fun m hm=>h m (List.mem_cons_of_mem _ hm)
  rw [List.flatMap_cons,List.length_append,List.length_cons]; omega
theorem text_ok(v:Value)(l:List Int)(w:World)(h:RdS w 1 intE v l)(h64:Ok64 l)(hl:l.length≤1000000):Ret Tryz.prog 112 [v] w fun u w'=>u=.string (ofL (txt l))∧Gr w w':=by
 obtain ⟨a,c,rfl,_⟩:=h.form
 refine ent112 _ _ _ ?_
 simp (disch:=first|omega|exact zF rfl|exact zG rfl|exact fun h=>h|(simp only[zA,zB,zC,zD,bytesW];omega)) only[go_sem]
 have e0:IntKind.u64.wrap (l.length:Int)=((l.length:Nat):Int):=by rw [wrap_u64]; omega
 rw [e0]
 refine Ret.mono (var_ok l.length w (by omega)) ?_
 rintro _ w1 ⟨rfl,g1⟩
 simp (disch:=first|omega|exact zF rfl|exact zG rfl|exact fun h=>h|(simp only[zA,zB,zC,zD,bytesW];omega)) only[go_sem]
 have h10:=varL_10 (show l.length<18446744073709551616 by omega)
 refine W_loopU (fun k:Nat=>[(3,.string (ofL (varL l.length++(l.take k).flatMap fun n=>varL (foldN n)))),(12,.int .i64 k)]) (fun k w'=>Gr w w'∧k≤l.length) (fun k=>l.length - k) 0 (by simp [ovr,lk]) ⟨g1,Nat.zero_le _⟩ ?_
 rintro k w2 ⟨g2,hk⟩
 by_cases hlt:k<l.length
 ·have hlt':(k:Int)<l.length:=by omega
  obtain ⟨p,rfl⟩:=h.ptr (by omega)
  have ek:=RdS.int (h.below g2.below (by decide)) hlt
  have hk64:I64 l[k]:=h64 _ (List.getElem_mem hlt)
  simp (disch:=first|omega|exact zF rfl|exact zG rfl|exact fun h=>h|(simp only[zA,zB,zC,zD,bytesW];omega)) only[go_sem,hlt',ek]
  refine ⟨by omega,Ret.mono (fold_ok l[k] w2 hk64) ?_⟩
  rintro _ w3 ⟨rfl,rfl⟩
  simp (disch:=first|omega|exact zF rfl|exact zG rfl|exact fun h=>h|(simp only[zA,zB,zC,zD,bytesW];omega)) only[go_sem]
  refine Ret.mono (var_ok (foldN l[k]) w3 (foldN_lt _ hk64)) ?_
  rintro _ w4 ⟨rfl,g4⟩
  simp (disch:=first|omega|exact zF rfl|exact zG rfl|exact fun h=>h|(simp only[zA,zB,zC,zD,bytesW];omega)) only[go_sem]
  have hb:=flat_len (l:=l.take k) fun n hn=>h64 n (List.mem_of_mem_take hn)
  have hv:=varL_10 (foldN_lt _ hk64)
  rw [List.length_take] at hb
  refine ⟨?_,⟨by omega,by omega⟩,k+1,?_,⟨g2.trans g4,by omega⟩,by omega⟩
  ·simp only [List.length_append]; omega
  ·rw [List.take_succ_eq_append_getElem hlt,List.flatMap_append,List.append_assoc]; simp
 ·have hlt':¬ (k:Int)<l.length:=by omega
  simp (disch:=first|omega|exact zF rfl|exact zG rfl|exact fun h=>h|(simp only[zA,zB,zC,zD,bytesW];omega)) only[go_sem,hlt']
  rw [List.take_of_length_le (by omega)]
  exact ⟨rfl,g2⟩
theorem rtext_ok(v:Value)(l:List Int)(w:World)(h:RdS w 1 intE v l)(h64:Ok64 l)(hl:l.length≤1000000):Ret Tryz.prog 71 [v] w fun u w'=>u=.string (ofL (txt l))∧Below w.heap.size w w':=by
 obtain ⟨a,c,rfl,_⟩:=h.form
 refine ent71 _ _ _ ?_
 simp (disch:=first|omega|exact zF rfl|exact zG rfl|exact fun h=>h|(simp only[zA,zB,zC,zD,bytesW];omega)) only[go_sem]
 have e0:IntKind.u64.wrap (l.length:Int)=((l.length:Nat):Int):=by rw [wrap_u64]; omega
 rw [e0]
 refine Ret.mono (rvar_ok 9 l.length w (by omega) (by omega)) ?_
 rintro _ w1 ⟨rfl,g1⟩
 simp (disch:=first|omega|exact zF rfl|exact zG rfl|exact fun h=>h|(simp only[zA,zB,zC,zD,bytesW];omega)) only[go_sem]
 have h10:=varL_10 (show l.length<18446744073709551616 by omega)
 refine W_loopU (fun k:Nat=>[(3,.string (ofL (varL l.length++(l.take k).flatMap fun n=>varL (foldN n)))),(4,.int .i64 k)]) (fun k w'=>Below w.heap.size w w'∧k≤l.length) (fun k=>l.length - k) 0 (by simp [ovr,lk]) ⟨g1,Nat.zero_le _⟩ ?_
 rintro k w2 ⟨g2,hk⟩
 by_cases hlt:k<l.length
 ·have hlt':(k:Int)<l.length:=by omega
  obtain ⟨p,rfl⟩:=h.ptr (by omega)
  have ek:=RdS.int (h.below g2 (by decide)) hlt
  have hk64:I64 l[k]:=h64 _ (List.getElem_mem hlt)
  simp (disch:=first|omega|exact zF rfl|exact zG rfl|exact fun h=>h|(simp only[zA,zB,zC,zD,bytesW];omega)) only[go_sem,hlt',ek]
  refine ⟨by omega,Ret.mono (rfold_ok l[k] w2 hk64) ?_⟩
  rintro _ w3 ⟨rfl,rfl⟩
  simp (disch:=first|omega|exact zF rfl|exact zG rfl|exact fun h=>h|(simp only[zA,zB,zC,zD,bytesW];omega)) only[go_sem]
  refine Ret.mono (rvar_ok 9 (foldN l[k]) w3 (by have:=foldN_lt _ hk64; omega) (foldN_lt _ hk64)) ?_
  rintro _ w4 ⟨rfl,g4⟩
  simp (disch:=first|omega|exact zF rfl|exact zG rfl|exact fun h=>h|(simp only[zA,zB,zC,zD,bytesW];omega)) only[go_sem]
  have hb:=flat_len (l:=l.take k) fun n hn=>h64 n (List.mem_of_mem_take hn)
  have hv:=varL_10 (foldN_lt _ hk64)
  rw [List.length_take] at hb
  refine ⟨?_,⟨by omega,by omega⟩,k+1,?_,⟨Below.next g2 g4,by omega⟩,by omega⟩
  ·simp only [List.length_append]; omega
  ·rw [List.take_succ_eq_append_getElem hlt,List.flatMap_append,List.append_assoc]; simp
 ·have hlt':¬ (k:Int)<l.length:=by omega
  simp (disch:=first|omega|exact zF rfl|exact zG rfl|exact fun h=>h|(simp only[zA,zB,zC,zD,bytesW];omega)) only[go_sem,hlt']
  rw [List.take_of_length_le (by omega)]
  exact ⟨rfl,g2⟩
open Go Go.Ann Go.RowKit
theorem ltB_irr:∀ a:List UInt8,Op.bytesLess a a=false
 | []=>rfl
 | a::x=>by simp [Op.bytesLess,ltB_irr x]
theorem ltB_trans:∀ {a b c:List UInt8},Op.bytesLess a b=true→Op.bytesLess b c=true→Op.bytesLess a c=true
 | [],b,c,h1,h2=>by
  cases c with
  | nil=>cases b <;> simp [Op.bytesLess] at h1 h2
  | cons=>simp [Op.bytesLess]
 | a::x,[],c,h1,h2=>by simp [Op.bytesLess] at h1
 | a::x,b::y,[],h1,h2=>by simp [Op.bytesLess] at h2
 | a::x,b::y,c::z,h1,h2=>by
  have ih:=@ltB_trans x y z
  simp only [Op.bytesLess,Bool.or_eq_true,Bool.and_eq_true,decide_eq_true_eq,beq_iff_eq] at *
  rcases h1 with h1 | ⟨e1,h1⟩ <;> rcases h2 with h2 | ⟨e2,h2⟩
  ·exact .inl (UInt8.lt_trans h1 h2)
  ·subst e2; exact .inl h1
  ·subst e1; exact .inl h2
  ·subst e1 e2; exact .inr ⟨rfl,ih h1 h2⟩
theorem ltB_tri:∀ {a b:List UInt8},Op.bytesLess a b=false→Op.bytesLess b a=false→a=b
 | [],[],_,_=>rfl
 | [],b::y,h1,_=>by simp [Op.bytesLess] at h1
 | a::x,[],_,h2=>by simp [Op.bytesLess] at h2
 | a::x,b::y,h1,h2=>by
  have ih:=@ltB_tri x y
  simp only [Op.bytesLess,Bool.or_eq_false_iff,Bool.and_eq_false_imp,decide_eq_false_iff_not,beq_iff_eq] at h1 h2
  have e:a=b:=by
   rcases UInt8.lt_or_lt_of_ne (a:=a) (b:=b) |> fun f=>(Classical.em (a=b)).imp id f with h | h
   ·exact h
   ·rcases h with h | h
    ·exact absurd h h1.1
    ·exact absurd h h2.1
  subst e
  rw [ih (h1.2 rfl) (h2.2 rfl)]
theorem varL_cut{n m:Nat}{a b:List UInt8}(hn:n<18446744073709551616)(hm:m<18446744073709551616)(h:varL n++a=varL m++b):n=m∧a=b:=by
 have key:∀ k n m:Nat,n<k→varL n++a=varL m++b→n=m∧a=b:=by
  intro k
  induction k with
  | zero=>intro n m h; omega
  | succ k ih =>
   intro n m hk h
   by_cases h1:n<128 <;> by_cases h2:m<128
   ·rw [varL_lt h1,varL_lt h2] at h
    simp only [List.cons_append,List.nil_append,List.cons.injEq] at h
    have:=congrArg UInt8.toNat h.1
    simp [u8] at this
    exact ⟨by omega,h.2⟩
   ·rw [varL_lt h1,varL_ge h2] at h
    simp only [List.cons_append,List.nil_append,List.cons.injEq] at h
    have:=congrArg UInt8.toNat h.1
    simp [u8] at this
    omega
   ·rw [varL_ge h1,varL_lt h2] at h
    simp only [List.cons_append,List.nil_append,List.cons.injEq] at h
    have:=congrArg UInt8.toNat h.1
    simp [u8] at this
    omega
   ·rw [varL_ge h1,varL_ge h2] at h
    simp only [List.cons_append,List.cons.injEq] at h
    obtain ⟨e,r⟩:=ih _ _ (by omega) h.2
    have:=congrArg UInt8.toNat h.1
    simp [u8] at this
    exact ⟨by omega,r⟩
 exact key (n+1) n m (by omega) h
theorem foldN_inj{a b:Int}(h:foldN a=foldN b):a=b:=by
 unfold foldN at h; split at h <;> split at h <;> omega
theorem txt_inj{l m:List Int}(hl:Ok64 l)(hm:Ok64 m)(h1:l.length<18446744073709551616)(h2:m.length<18446744073709551616)(h:txt l=txt m):l=m:=by
 obtain ⟨hlen,k⟩:=varL_cut h1 h2 h
 clear h h1 h2
 induction l generalizing m with
 | nil=>simp at hlen; exact (List.eq_nil_of_length_eq_zero hlen.symm).symm
 | cons a l ih =>
  cases m with
  | nil=>simp at hlen
  | cons b m =>
   rw [List.flatMap_cons,List.flatMap_cons] at k
   obtain ⟨e,r⟩:=varL_cut (foldN_lt _ (hl a (by simp))) (foldN_lt _ (hm b (by simp))) k
   have hl':Ok64 l:=fun n hn=>hl n (List.mem_cons_of_mem _ hn)
   have hm':Ok64 m:=fun n hn=>hm n (List.mem_cons_of_mem _ hn)
   rw [foldN_inj e,ih hl' hm' (by simpa using hlen) r]
def OkS(s:List Int):Prop:=Ok64 s∧s.length≤1000000
theorem OkS.inj{a b:List Int}(ha:OkS a)(hb:OkS b)(h:txt a=txt b):a=b:=by
 have:=ha.2; have:=hb.2
 exact txt_inj ha.1 hb.1 (by omega) (by omega) h
def ltS(a b:List Int):Bool:=Op.bytesLess (txt a) (txt b)
def Uniq(l u:List (List Int)):Prop:=u.Pairwise (fun a b=>ltS a b=true)∧∀ x,x∈u↔x∈l
theorem uniq_one{u v:List (List Int)}(hu:u.Pairwise (fun a b=>ltS a b=true))(hv:v.Pairwise (fun a b=>ltS a b=true))(h:∀ x,x∈u↔x∈v):u=v:=by
 induction u generalizing v with
 | nil =>
  cases v with
  | nil=>rfl
  | cons b v=>exact absurd ((h b).2 (by simp)) (by simp)
 | cons a u ih =>
  cases v with
  | nil=>exact absurd ((h a).1 (by simp)) (by simp)
  | cons b v =>
   rw [List.pairwise_cons] at hu hv
   have e:a=b:=by
    rcases List.mem_cons.1 ((h a).1 (by simp)) with e | e
    ·exact e
    ·rcases List.mem_cons.1 ((h b).2 (by simp)) with f | f
     ·exact f.symm
     ·have h1:=hv.1 a e
      have h2:=hu.1 b f
      have:=ltB_trans h1 h2
      rw [show Op.bytesLess (txt b) (txt b)=false from ltB_irr _] at this; cases this
   subst e
   rw [ih hu.2 hv.2 fun x=>?_]
   have hx:=h x
   simp only [List.mem_cons] at hx
   have n1:x∈u→x≠a:=fun hm e=>by subst e; have:=hu.1 x hm; rw [show ltS x x=false from ltB_irr _] at this; cases this
   have n2:x∈v→x≠a:=fun hm e=>by subst e; have:=hv.1 x hm; rw [show ltS x x=false from ltB_irr _] at this; cases this
   exact ⟨fun hm=>(hx.1 (.inr hm)).resolve_left (n1 hm),fun hm=>(hx.2 (.inr hm)).resolve_left (n2 hm)⟩
theorem Uniq.one{l u v:List (List Int)}(h:Uniq l u)(k:Uniq l v):u=v:=uniq_one h.1 k.1 fun x=>(h.2 x).trans (k.2 x).symm
open Go Go.Ann Go.RowKit
theorem ints_one(l:List Int):∀ u∈l.flatMap intE,u.oneCell'=true:=by intro u hu; obtain ⟨a,_,h⟩:=List.mem_flatMap.1 hu; exact intE_one a u h
theorem iclone_ok(v:Value)(l:List Int)(w:World)(h:RdS w 1 intE v l)(hl:l.length≤1000000) :
  Ret Tryz.prog 88 [v] w fun u w'=>w'.ownsRow w.heap.size 3 1 u l.length (l.flatMap intE)∧Below w.heap.size w w':=by
 obtain ⟨a,c,rfl,_⟩:=h.form
 refine ent88 _ _ _ ?_
 simp (disch:=first|omega|exact zF rfl|exact zG rfl|exact fun h=>h|(simp only[zA,zB,zC,zD,bytesW];omega)) only[go_sem]
 have hSt:=(St.start (W0:=w)).emptyRow 3 1
 refine ⟨fun ha=>?_,fun ha=>bsW_none ty25mkI ?_⟩
 ·cases a with
  | some a=>cases ha
  | none =>
   have h0:l=[]:=by
    cases l with
    | nil=>rfl
    | cons x l=>obtain ⟨p,hp⟩:=h.ptr (by simp); cases hp
   subst h0
   exact ⟨⟨rfl,.inl ⟨rfl,rfl⟩⟩,Below.refl _ _⟩
 simp (disch:=first|omega|exact zF rfl|exact zG rfl|exact fun h=>h|(simp only[zA,zB,zC,zD,bytesW];omega)) only[go_sem]
 refine hSt.append 0 rfl ty25mkI rfl (by decide) (h.below hSt.bel (by decide)) (ints_one l) (by omega) (by omega) ?_
 intro v2 w2 s2 _
 have e2:=s2.row 0 rfl
 rw [Nat.zero_add,List.nil_append] at e2
 simp (disch:=first|omega|exact zF rfl|exact zG rfl|exact fun h=>h|(simp only[zA,zB,zC,zD,bytesW];omega)) only[go_sem]
 exact ⟨e2,s2.bel⟩
open Go Go.Ann Go.RowKit
abbrev VS:=Value × List Int
open Go Go.Proofs Go.Shelf
def layIns_ren:Go.Shelf.Ren:=⟨fun | 21=>120 | 27=>140 | 28=>141 | 35=>147 | 39=>149 | n=>n,fun | 22=>25 | 3=>3 | 4=>4 | 0=>0 | n=>n,fun | n=>n⟩
theorem layIns:Go.Proofs.Lays2.n21 Tryz.prog layIns_ren:={
  mixed:=by kernel_rfl,
  f21:=Tryz.func120.trans (congrArg some (by kernel_rfl)),
  f27:=Tryz.func140.trans (congrArg some (by kernel_rfl)),
  f28:=Tryz.func141.trans (congrArg some (by kernel_rfl)),
  f35:=Tryz.func147.trans (congrArg some (by kernel_rfl)),
  f39:=Tryz.func149.trans (congrArg some (by kernel_rfl)),
  t0:=Tryz.underlying0,
  a0:=Tryz.isAgg0,
  z0:=Tryz.sizeOf0,
  v0:=Tryz.zeroValue0,
  t3:=Tryz.underlying3,
  a3:=Tryz.isAgg3,
  z3:=Tryz.sizeOf3,
  v3:=Tryz.zeroValue3,
  t4:=Tryz.underlying4,
  a4:=Tryz.isAgg4,
  z4:=Tryz.sizeOf4,
  v4:=Tryz.zeroValue4,
  t22:=Tryz.underlying25,
  a22:=Tryz.isAgg25,
  z22:=Tryz.sizeOf25,
  v22:=Tryz.zeroValue25,
  i3:=by kernel_rfl }
def layDel_ren:Go.Shelf.Ren:=⟨fun | 23=>121 | n=>n,fun | 22=>25 | 3=>3 | 4=>4 | 0=>0 | n=>n,fun | n=>n⟩
theorem layDel:Go.Proofs.Lays2.n23 Tryz.prog layDel_ren:={
  mixed:=by kernel_rfl,
  f23:=Tryz.func121.trans (congrArg some (by kernel_rfl)),
  t0:=Tryz.underlying0,
  a0:=Tryz.isAgg0,
  z0:=Tryz.sizeOf0,
  v0:=Tryz.zeroValue0,
  t3:=Tryz.underlying3,
  a3:=Tryz.isAgg3,
  z3:=Tryz.sizeOf3,
  v3:=Tryz.zeroValue3,
  t4:=Tryz.underlying4,
  a4:=Tryz.isAgg4,
  z4:=Tryz.sizeOf4,
  v4:=Tryz.zeroValue4,
  t22:=Tryz.underlying25,
  a22:=Tryz.isAgg25,
  z22:=Tryz.sizeOf25,
  v22:=Tryz.zeroValue25,
  i3:=by kernel_rfl }
def layBin_ren:Go.Shelf.Ren:=⟨fun | 25=>118 | 31=>128 | 32=>139 | 37=>82 | n=>n,fun | 22=>25 | 3=>3 | 4=>4 | 40=>135 | 0=>0 | n=>n,fun | n=>n⟩
theorem layBin:Go.Proofs.Lays2.n25 Tryz.prog layBin_ren:={
  mixed:=by kernel_rfl,
  f25:=Tryz.func118.trans (congrArg some (by kernel_rfl)),
  f31:=Tryz.func128.trans (congrArg some (by kernel_rfl)),
  f32:=Tryz.func139.trans (congrArg some (by kernel_rfl)),
  f37:=Tryz.func82.trans (congrArg some (by kernel_rfl)),
  t0:=Tryz.underlying0,
  a0:=Tryz.isAgg0,
  z0:=Tryz.sizeOf0,
  v0:=Tryz.zeroValue0,
  t3:=Tryz.underlying3,
  a3:=Tryz.isAgg3,
  z3:=Tryz.sizeOf3,
  v3:=Tryz.zeroValue3,
  t4:=Tryz.underlying4,
  a4:=Tryz.isAgg4,
  z4:=Tryz.sizeOf4,
  v4:=Tryz.zeroValue4,
  t22:=Tryz.underlying25,
  a22:=Tryz.isAgg25,
  z22:=Tryz.sizeOf25,
  v22:=Tryz.zeroValue25,
  t40:=Tryz.underlying135,
  a40:=Tryz.isAgg135,
  z40:=Tryz.sizeOf135,
  v40:=Tryz.zeroValue135 }
def laySortOps_ren:Go.Shelf.Ren:=⟨fun | 6=>50 | 15=>81 | 14=>80 | 28=>110 | 29=>111 | 20=>102 | 21=>103 | 22=>104 | 23=>105 | 24=>106 | 25=>107 | 26=>108 | 27=>109 | 46=>131 | 47=>132 | 48=>133 | 49=>134 | 50=>135 | 57=>145 | n=>n,fun | 22=>22 | 24=>52 | 25=>99 | 3=>3 | 39=>135 | 0=>0 | 53=>163 | 55=>147 | 4=>4 | 46=>157 | 45=>156 | 50=>138 | 5=>5 | 9=>9 | 66=>177 | 70=>181 | 76=>186 | 77=>187 | n=>n,fun | n=>n⟩
theorem laySortOps:Go.Proofs.SlLaysF0.n6 Tryz.prog laySortOps_ren:={
  mixed:=by kernel_rfl,
  f6:=⟨Tryz.f50.name,by decide,Tryz.func50.trans (congrArg some (by kernel_rfl))⟩,
  f14:=⟨Tryz.f80.name,by decide,Tryz.func80.trans (congrArg some (by kernel_rfl))⟩,
  f15:=Tryz.func81.trans (congrArg some (by kernel_rfl)),
  f20:=⟨Tryz.f102.name,by decide,Tryz.func102.trans (congrArg some (by kernel_rfl))⟩,
  f21:=⟨Tryz.f103.name,by decide,Tryz.func103.trans (congrArg some (by kernel_rfl))⟩,
  f22:=⟨Tryz.f104.name,by decide,Tryz.func104.trans (congrArg some (by kernel_rfl))⟩,
  f23:=⟨Tryz.f105.name,by decide,Tryz.func105.trans (congrArg some (by kernel_rfl))⟩,
  f24:=⟨Tryz.f106.name,by decide,Tryz.func106.trans (congrArg some (by kernel_rfl))⟩,
  f25:=⟨Tryz.f107.name,by decide,Tryz.func107.trans (congrArg some (by kernel_rfl))⟩,
  f26:=⟨Tryz.f108.name,by decide,Tryz.func108.trans (congrArg some (by kernel_rfl))⟩,
  f27:=⟨Tryz.f109.name,by decide,Tryz.func109.trans (congrArg some (by kernel_rfl))⟩,
  f28:=Tryz.func110.trans (congrArg some (by kernel_rfl)),
  f29:=Tryz.func111.trans (congrArg some (by kernel_rfl)),
  f46:=⟨Tryz.f131.name,by decide,Tryz.func131.trans (congrArg some (by kernel_rfl))⟩,
  f47:=Tryz.func132.trans (congrArg some (by kernel_rfl)),
  f48:=Tryz.func133.trans (congrArg some (by kernel_rfl)),
  f49:=⟨Tryz.f134.name,by decide,Tryz.func134.trans (congrArg some (by kernel_rfl))⟩,
  f50:=⟨Tryz.f135.name,by decide,Tryz.func135.trans (congrArg some (by kernel_rfl))⟩,
  f57:=⟨Tryz.f145.name,by decide,Tryz.func145.trans (congrArg some (by kernel_rfl))⟩,
  t0:=Tryz.underlying0,
  a0:=Tryz.isAgg0,
  z0:=Tryz.sizeOf0,
  v0:=Tryz.zeroValue0,
  t3:=Tryz.underlying3,
  a3:=Tryz.isAgg3,
  z3:=Tryz.sizeOf3,
  v3:=Tryz.zeroValue3,
  t4:=Tryz.underlying4,
  a4:=Tryz.isAgg4,
  z4:=Tryz.sizeOf4,
  v4:=Tryz.zeroValue4,
  t5:=Tryz.underlying5,
  a5:=Tryz.isAgg5,
  z5:=Tryz.sizeOf5,
  v5:=Tryz.zeroValue5,
  t9:=Tryz.underlying9,
  a9:=Tryz.isAgg9,
  z9:=Tryz.sizeOf9,
  v9:=Tryz.zeroValue9,
  t22:=Tryz.underlying22,
  a22:=Tryz.isAgg22,
  z22:=Tryz.sizeOf22,
  v22:=Tryz.zeroValue22,
  t25:=Tryz.underlying99,
  a25:=Tryz.isAgg99,
  z25:=Tryz.sizeOf99,
  v25:=Tryz.zeroValue99,
  t39:=Tryz.underlying135,
  a39:=Tryz.isAgg135,
  z39:=Tryz.sizeOf135,
  v39:=Tryz.zeroValue135,
  t45:=Tryz.underlying156,
  a45:=Tryz.isAgg156,
  z45:=Tryz.sizeOf156,
  v45:=Tryz.zeroValue156,
  t46:=Tryz.underlying157,
  a46:=Tryz.isAgg157,
  z46:=Tryz.sizeOf157,
  v46:=Tryz.zeroValue157,
  t50:=Tryz.underlying138,
  a50:=Tryz.isAgg138,
  z50:=Tryz.sizeOf138,
  v50:=Tryz.zeroValue138,
  t53:=Tryz.underlying163,
  a53:=Tryz.isAgg163,
  z53:=Tryz.sizeOf163,
  v53:=Tryz.zeroValue163,
  t55:=Tryz.underlying147,
  a55:=Tryz.isAgg147,
  z55:=Tryz.sizeOf147,
  v55:=Tryz.zeroValue147,
  t66:=Tryz.underlying177,
  a66:=Tryz.isAgg177,
  z66:=Tryz.sizeOf177,
  v66:=Tryz.zeroValue177,
  t70:=Tryz.underlying181,
  a70:=Tryz.isAgg181,
  z70:=Tryz.sizeOf181,
  v70:=Tryz.zeroValue181,
  t76:=Tryz.underlying186,
  a76:=Tryz.isAgg186,
  z76:=Tryz.sizeOf186,
  v76:=Tryz.zeroValue186,
  t77:=Tryz.underlying187,
  a77:=Tryz.isAgg187,
  z77:=Tryz.sizeOf187,
  v77:=Tryz.zeroValue187 }
def laySortI_ren:Go.Shelf.Ren:=⟨fun | 189=>78 | 125=>81 | 257=>101 | 128=>110 | 129=>111 | 294=>122 | 295=>123 | 296=>124 | 297=>125 | 298=>126 | 299=>127 | 216=>128 | 300=>129 | 301=>130 | 328=>142 | 329=>132 | 330=>133 | 331=>143 | 332=>144 | 215=>82 | 343=>148 | n=>n,fun | 28=>25 | 3=>3 | 46=>135 | 0=>0 | 51=>163 | 53=>147 | 4=>4 | 183=>157 | 182=>156 | 131=>138 | 5=>5 | 9=>9 | 218=>177 | 222=>181 | 228=>186 | 229=>187 | n=>n,fun | n=>n⟩
theorem laySortI:Go.Proofs.Lays.n189 Tryz.prog laySortI_ren:={
  mixed:=by kernel_rfl,
  f125:=Tryz.func81.trans (congrArg some (by kernel_rfl)),
  f128:=Tryz.func110.trans (congrArg some (by kernel_rfl)),
  f129:=Tryz.func111.trans (congrArg some (by kernel_rfl)),
  f189:=Tryz.func78.trans (congrArg some (by kernel_rfl)),
  f215:=Tryz.func82.trans (congrArg some (by kernel_rfl)),
  f216:=Tryz.func128.trans (congrArg some (by kernel_rfl)),
  f257:=Tryz.func101.trans (congrArg some (by kernel_rfl)),
  f294:=Tryz.func122.trans (congrArg some (by kernel_rfl)),
  f295:=Tryz.func123.trans (congrArg some (by kernel_rfl)),
  f296:=Tryz.func124.trans (congrArg some (by kernel_rfl)),
  f297:=Tryz.func125.trans (congrArg some (by kernel_rfl)),
  f298:=Tryz.func126.trans (congrArg some (by kernel_rfl)),
  f299:=Tryz.func127.trans (congrArg some (by kernel_rfl)),
  f300:=Tryz.func129.trans (congrArg some (by kernel_rfl)),
  f301:=Tryz.func130.trans (congrArg some (by kernel_rfl)),
  f328:=Tryz.func142.trans (congrArg some (by kernel_rfl)),
  f329:=Tryz.func132.trans (congrArg some (by kernel_rfl)),
  f330:=Tryz.func133.trans (congrArg some (by kernel_rfl)),
  f331:=Tryz.func143.trans (congrArg some (by kernel_rfl)),
  f332:=Tryz.func144.trans (congrArg some (by kernel_rfl)),
  f343:=Tryz.func148.trans (congrArg some (by kernel_rfl)),
  t0:=Tryz.underlying0,
  a0:=Tryz.isAgg0,
  z0:=Tryz.sizeOf0,
  v0:=Tryz.zeroValue0,
  t3:=Tryz.underlying3,
  a3:=Tryz.isAgg3,
  z3:=Tryz.sizeOf3,
  v3:=Tryz.zeroValue3,
  t4:=Tryz.underlying4,
  a4:=Tryz.isAgg4,
  z4:=Tryz.sizeOf4,
  v4:=Tryz.zeroValue4,
  t5:=Tryz.underlying5,
  a5:=Tryz.isAgg5,
  z5:=Tryz.sizeOf5,
  v5:=Tryz.zeroValue5,
  t9:=Tryz.underlying9,
  a9:=Tryz.isAgg9,
  z9:=Tryz.sizeOf9,
  v9:=Tryz.zeroValue9,
  t28:=Tryz.underlying25,
  a28:=Tryz.isAgg25,
  z28:=Tryz.sizeOf25,
  v28:=Tryz.zeroValue25,
  t46:=Tryz.underlying135,
  a46:=Tryz.isAgg135,
  z46:=Tryz.sizeOf135,
  v46:=Tryz.zeroValue135,
  t51:=Tryz.underlying163,
  a51:=Tryz.isAgg163,
  z51:=Tryz.sizeOf163,
  v51:=Tryz.zeroValue163,
  t53:=Tryz.underlying147,
  a53:=Tryz.isAgg147,
  z53:=Tryz.sizeOf147,
  v53:=Tryz.zeroValue147,
  t131:=Tryz.underlying138,
  a131:=Tryz.isAgg138,
  z131:=Tryz.sizeOf138,
  v131:=Tryz.zeroValue138,
  t182:=Tryz.underlying156,
  a182:=Tryz.isAgg156,
  z182:=Tryz.sizeOf156,
  v182:=Tryz.zeroValue156,
  t183:=Tryz.underlying157,
  a183:=Tryz.isAgg157,
  z183:=Tryz.sizeOf157,
  v183:=Tryz.zeroValue157,
  t218:=Tryz.underlying177,
  a218:=Tryz.isAgg177,
  z218:=Tryz.sizeOf177,
  v218:=Tryz.zeroValue177,
  t222:=Tryz.underlying181,
  a222:=Tryz.isAgg181,
  z222:=Tryz.sizeOf181,
  v222:=Tryz.zeroValue181,
  t228:=Tryz.underlying186,
  a228:=Tryz.isAgg186,
  z228:=Tryz.sizeOf186,
  v228:=Tryz.zeroValue186,
  t229:=Tryz.underlying187,
  a229:=Tryz.isAgg187,
  z229:=Tryz.sizeOf187,
  v229:=Tryz.zeroValue187 }
open Go Go.Ann Go.RowKit Go.Shelf Go.Sort
theorem ltS_irr(a:List Int):ltS a a=false:=ltB_irr _
theorem ltS_trans{a b c:List Int}(h:ltS a b=true)(k:ltS b c=true):ltS a c=true:=ltB_trans h k
abbrev SV(w:World)(g:Nat):Type:={ p:VS // RdS w 1 intE p.1 p.2∧OkS p.2∧p.1.ownBlock≠some g }
instance (w:World) (g:Nat):Inhabited (SV w g):=⟨⟨(.slice none 0 0,[]),RdS.nil,⟨(fun n h=>nomatch h),Nat.zero_le _⟩,(fun e=>nomatch e)⟩⟩
def SV.enc{w:World}{g:Nat}(x:SV w g):Value:=x.1.1
theorem SV.one{w:World}{g:Nat}:OneCell (SV.enc (w:=w) (g:=g)):=by
 intro x
 obtain ⟨a,c,e,_⟩:=x.2.1.form
 unfold SV.enc
 rw [e]; rfl
theorem sorted_blk{α:Type}[Inhabited α]{enc:α→Value}{w:World}{g m:Nat}{ty:TypeId}{d d':Array α}{rest:List Value}(hB:Blk w g (d.toList.map enc++rest).toArray ty)(hd:d'.size=d.size)(os:Array Obj) :
  Blk (sortWorld enc w g 0 m d' os) g (d'.toList.map enc++rest).toArray ty∧Chg (fun k=>k=g) w (sortWorld enc w g 0 m d' os):=by
 have hg:g<w.heap.size:=hB.lt
 have hh:(sortWorld enc w g 0 m d' os).heap=w.heap.modify g (onCells (putCells enc 0 d'))++os:=rfl
 have hc:putCells enc 0 d' (d.toList.map enc++rest).toArray=(d'.toList.map enc++rest).toArray:=by
  refine Array.ext_getElem? fun i=>?_
  unfold putCells
  rw [Array.getElem?_mapIdx,List.getElem?_toArray,List.getElem?_toArray]
  rcases Nat.lt_or_ge i d'.size with hi | hi
  ·rw [List.getElem?_append_left (by simp; omega),List.getElem?_append_left (by simpa using hi)]
   simp only [List.getElem?_map,Array.getElem?_toList,Array.getElem?_eq_getElem (show i<d.size by omega),Array.getElem?_eq_getElem hi,Option.map_some,Nat.zero_le,Nat.zero_add,true_and,if_pos hi,Nat.sub_zero]
   rw [getElem!_pos d' i hi]
  ·rw [List.getElem?_append_right (by simp; omega),List.getElem?_append_right (by simpa using hi)]
   simp only [List.length_map,Array.length_toList,hd]
   cases rest[i - d.size]? with
   | none=>rfl
   | some u=>simp; omega
 refine ⟨?_,rfl,rfl,rfl,?_,fun j hj hne=>?_⟩
 ·show (sortWorld enc w g 0 m d' os).heap[g]?=_
  rw [hh,Array.getElem?_append_left (by rw [Array.size_modify]; exact hg),Array.getElem?_modify,if_pos rfl,hB,Option.map_some]
  simp only [onCells,hc]
 ·rw [hh,Array.size_append,Array.size_modify]; omega
 ·rw [hh,Array.getElem?_append_left (by rw [Array.size_modify]; exact hj),Array.getElem?_modify,if_neg (fun e=>hne e.symm)]
open Go Go.Ann Go.RowKit
structure RowS(w:World)(v:Value)(D:List VS):Prop where
 row:Rd w 1 v D.length (D.map Prod.fst)
 rd:∀ p∈D,RdS w 1 intE p.1 p.2
def RowS.foot(v:Value)(D:List VS)(k:Nat):Prop:=slFoot v k∨∃ p∈D,slFoot p.1 k
theorem RowS.loc{w w':World}{v:Value}{D:List VS}(h:RowS w v D)(hk:∀ k,RowS.foot v D k→w'.heap[k]?=w.heap[k]?):RowS w' v D :=
 ⟨Rd.loc h.row fun k hf=>hk k (.inl hf),fun p hp=>RdS.loc (h.rd p hp) fun k hf=>hk k (.inr ⟨p,hp,hf⟩)⟩
theorem RowS.below{w w':World}{v:Value}{D:List VS}(h:RowS w v D)(hb:Below w.heap.size w w'):RowS w' v D :=
 ⟨Rd.below h.row hb (by decide),fun p hp=>(h.rd p hp).below hb (by decide)⟩
theorem RowS.form{w:World}{v:Value}{D:List VS}(h:RowS w v D):∃ a c,v=.slice a D.length c∧D.length≤c:=by
 obtain ⟨_,a,c,e,hc,_⟩:=h.row
 exact ⟨a,c,e,hc⟩
theorem RowS.ptr{w:World}{a:Option Addr}{n c:Nat}{D:List VS}(h:RowS w (.slice a n c) D)(h0:0<D.length):∃ p,a=some p:=by
 obtain ⟨_,a',c',e,_,hp⟩:=h.row
 cases e
 obtain ⟨p,hp,_⟩:=hp (by omega)
 exact ⟨p,hp⟩
theorem RowS.at{w:World}{p:Addr}{n c:Nat}{D:List VS}(h:RowS w (.slice (some p) n c) D){k:Nat}(hk:k<D.length):w.cell? (p.add k)=some D[k].1:=by
 obtain ⟨_,a',c',e,_,hp⟩:=h.row
 cases e
 obtain ⟨q,hq,hc⟩:=hp (by omega)
 cases hq
 exact hc k _ (by simp [hk])
open Go Go.Ann Go.RowKit
theorem offA_zero{a:Option Addr}{c sz:Nat}:offA a c 0 sz=a:=by
 unfold offA
 rw [Nat.zero_mul]
 split
 ·rfl
 ·cases a with
  | none=>rfl
  | some a=>exact congrArg some (by unfold Addr.add; rfl)
theorem rd_take{w:World}{sz n k cap:Nat}{a:Option Addr}{xs:List Value}(h:Rd w sz (.slice a n cap) n xs)(hk:k≤n):Rd w sz (.slice (offA a cap 0 sz) k cap) k (xs.take (k * sz)):=by
 rw [offA_zero]; exact h.take hk
theorem rd_drop{w:World}{sz n k cap:Nat}{a:Option Addr}{xs:List Value}(h:Rd w sz (.slice a n cap) n xs)(hk:k≤n):Rd w sz (.slice (offA a cap k sz) (n - k) (cap - k)) (n - k) (xs.drop (k * sz)):=by
 obtain ⟨h1,a',cap',he,h2,h3⟩:=h
 simp only [Value.slice.injEq,true_and] at he
 obtain ⟨rfl,rfl⟩:=he
 refine ⟨by rw [List.length_drop,h1,Nat.sub_mul],_,_,rfl,by omega,fun h=>?_⟩
 obtain ⟨ad,rfl,h4⟩:=h3 (by omega)
 refine ⟨ad.add (k * sz),by unfold offA; rw [if_neg (by omega)]; rfl,fun j u hu=>?_⟩
 rw [add_add]
 rw [List.getElem?_drop] at hu
 exact h4 _ u hu
theorem count_cut{x:List Int}:∀ {U:List VS},(U.map Prod.snd).Pairwise (fun a b=>ltS a b=true)→(∀ y∈U.take (U.countP fun y=>ltS y.2 x),ltS y.2 x=true)∧(∀ y∈U.drop (U.countP fun y=>ltS y.2 x),ltS y.2 x=false)
 | [],_=>⟨(fun y h=>nomatch h),(fun y h=>nomatch h)⟩
 | a::U,h=>by
  rw [List.map_cons,List.pairwise_cons] at h
  obtain ⟨i1,i2⟩:=count_cut (x:=x) h.2
  cases ha:ltS a.2 x with
  | true =>
   rw [List.countP_cons_of_pos (by exact ha)]
   refine ⟨fun y hy=>?_,fun y hy=>i2 y (by simpa using hy)⟩
   rw [List.take_succ_cons] at hy
   rcases List.mem_cons.1 hy with rfl | hy
   ·exact ha
   ·exact i1 y hy
  | false =>
   have hn:∀ y∈U,ltS y.2 x=false:=fun y hy=>by
    cases hh:ltS y.2 x with
    | false=>rfl
    | true =>
     have:=ltS_trans (h.1 y.2 (List.mem_map.2 ⟨y,hy,rfl⟩)) hh
     rw [ha] at this; cases this
   have h0:(a::U).countP (fun y=>ltS y.2 x)=0:=by
    rw [List.countP_eq_zero]
    intro y hy
    rcases List.mem_cons.1 hy with rfl | hy
    ·rw [ha]; simp
    ·rw [hn y hy]; simp
   rw [h0]
   refine ⟨(fun y hy=>nomatch hy),fun y hy=>?_⟩
   rw [List.drop_zero] at hy
   rcases List.mem_cons.1 hy with rfl | hy
   ·exact ha
   ·exact hn y hy
theorem ins_sorted{U:List VS}{x:VS}(h:(U.map Prod.snd).Pairwise (fun a b=>ltS a b=true))(ho:∀ p∈U,OkS p.2)(hx:OkS x.2)(hne:∀ p∈U,p.2≠x.2) :
  ((U.take (U.countP fun y=>ltS y.2 x.2)++[x]++U.drop (U.countP fun y=>ltS y.2 x.2)).map Prod.snd).Pairwise (fun a b=>ltS a b=true):=by
 obtain ⟨c1,c2⟩:=count_cut (x:=x.2) h
 generalize (U.countP fun y=>ltS y.2 x.2)=n at c1 c2 ⊢
 have h2:=h
 rw [← List.take_append_drop n U,List.map_append,List.pairwise_append] at h2
 have c3:∀ y∈U.drop n,ltS x.2 y.2=true:=fun y hy=>by
  have hm:=List.mem_of_mem_drop hy
  cases hh:ltS x.2 y.2 with
  | true=>rfl
  | false=>exact absurd ((ho y hm).inj hx (ltB_tri (c2 y hy) hh)) (hne y hm)
 rw [List.map_append,List.map_append,List.pairwise_append,List.pairwise_append]
 refine ⟨⟨h2.1,by simp,fun a ha b hb=>?_⟩,h2.2.1,fun a ha b hb=>?_⟩
 ·obtain ⟨p,hp,rfl⟩:=List.mem_map.1 ha
  simp only [List.map_cons,List.map_nil,List.mem_singleton] at hb
  rw [hb]; exact c1 p hp
 ·obtain ⟨q,hq,rfl⟩:=List.mem_map.1 hb
  rcases List.mem_append.1 ha with ha | ha
  ·exact h2.2.2 a ha q.2 (List.mem_map.2 ⟨q,hq,rfl⟩)
  ·simp only [List.map_cons,List.map_nil,List.mem_singleton] at ha
   rw [ha]; exact c3 q hq
theorem sorted_ok(v:Value)(D:List VS)(w:World)(h:RowS w v D)(hok:∀ p∈D,OkS p.2)(hl:D.length≤100000) :
  Ret Tryz.prog 46 [v] w fun u w'=>(∃ U:List VS,Uniq (D.map Prod.snd) (U.map Prod.snd)∧(∀ p∈U,p∈D)∧w'.ownsRow w.heap.size 25 1 u U.length (U.map Prod.fst))∧Below w.heap.size w w':=by
 obtain ⟨a,c,rfl,_⟩:=h.form
 refine ent46 _ _ _ ?_
 simp (disch:=first|omega|exact zF rfl|exact zG rfl|exact fun h=>h|(simp only[zA,zB,zC,zD,bytesW];omega)) only[go_sem,c46S5]
 have s1:=(St.start (W0:=w)).nilRow 25 1
 refine W_loopU (fun x:Nat × List VS × Value=>[(3,x.2.2),(4,.int .i64 x.1)]) (fun x w'=>St w w' (fun _=>False) [.row x.2.2 25 1 x.2.1.length (x.2.1.map Prod.fst)] []∧x.1≤D.length∧Uniq ((D.take x.1).map Prod.snd) (x.2.1.map Prod.snd)∧(∀ p∈x.2.1,p∈D)∧x.2.1.length≤x.1) (fun x=>D.length - x.1) (0,[],.slice none 0 0) rfl ⟨s1,Nat.zero_le _,⟨List.Pairwise.nil,fun s=>Iff.rfl⟩,(fun p hp=>by cases hp),Nat.le_refl _⟩ ?_
 rintro ⟨i,U,u⟩ w3 ⟨s3,hi,hu,hm,hle⟩
 simp only at s3 hi hu hm hle
 obtain ⟨au,cu,rfl,_⟩:=own_slice (s3.row 0 rfl)
 have h3:=h.below s3.bel
 by_cases hlt:i<D.length
 ·have hlt':(i:Int)<D.length:=by omega
  obtain ⟨p,rfl⟩:=h.ptr (by omega)
  have ek:=h3.at hlt
  have hrk:=h3.rd _ (List.getElem_mem hlt)
  have hok':=hok _ (List.getElem_mem hlt)
  obtain ⟨ak,ck,e1,_⟩:=hrk.form
  rw [e1] at ek
  simp (disch:=first|omega|exact zF rfl|exact zG rfl|exact fun h=>h|(simp only[zA,zB,zC,zD,bytesW];omega)) only[go_sem,c46S5,hlt',ek]
  refine ⟨by omega,Ret.mono (rtext_ok _ D[i].2 w3 (by rw [← e1]; exact hrk) hok'.1 hok'.2) ?_⟩
  rintro _ w4 ⟨rfl,b4⟩
  have s4:=s3.call b4
  simp (disch:=first|omega|exact zF rfl|exact zG rfl|exact fun h=>h|(simp only[zA,zB,zC,zD,bytesW];omega)) only[go_sem]
  refine W_loopU (fun x:Nat=>[(6,.int .i64 ((U.take x).countP fun y=>ltS y.2 D[i].2)),(7,.bool ((U.take x).any fun y=>decide (y.2=D[i].2))),(8,.int .i64 x)]) (fun x w'=>Below w4.heap.size w4 w'∧x≤U.length) (fun x=>U.length - x) 0 rfl ⟨Below.refl _ _,Nat.zero_le _⟩ ?_
  rintro k w5 ⟨b5,hk⟩
  have s5:=s4.call b5
  have h5:=h.below s5.bel
  by_cases hku:k<U.length
  ·have hku':(k:Int)<U.length:=by omega
   obtain ⟨g,rfl⟩:∃ g,au=some ⟨g,0,none⟩:=by
    obtain ⟨_,⟨_,h0⟩ | ⟨g,cap,cur,e,_⟩⟩:=s5.row 0 rfl
    ·omega
    ·cases e; exact ⟨g,rfl⟩
   have eu:=(s5.row 0 rfl).cells rfl k U[k].1 (by simp [hku])
   rw [Addr.add_lit,Nat.zero_add] at eu
   have hpu:=hm _ (List.getElem_mem hku)
   have hru:=h5.rd _ hpu
   have hou:=hok _ hpu
   obtain ⟨a6,c6,e6,_⟩:=hru.form
   rw [e6] at eu
   simp (disch:=first|omega|exact zF rfl|exact zG rfl|exact fun h=>h|(simp only[zA,zB,zC,zD,bytesW];omega)) only[go_sem,c46S5,hku',eu]
   refine ⟨by omega,Ret.mono (rtext_ok _ U[k].2 w5 (by rw [← e6]; exact hru) hou.1 hou.2) ?_⟩
   rintro _ w6 ⟨rfl,b6⟩
   simp (disch:=first|omega|exact zF rfl|exact zG rfl|exact fun h=>h|(simp only[zA,zB,zC,zD,bytesW];omega)) only[go_sem,c46S5]
   have hcle:=List.countP_le_length (p:=fun y:VS=>ltS y.2 D[i].2) (l:=U.take k)
   rw [List.length_take] at hcle
   have hct:Op.bytesLess (txt U[k].2) (txt D[i].2)=true→(U.take (k+1)).countP (fun y=>ltS y.2 D[i].2)=(U.take k).countP (fun y=>ltS y.2 D[i].2)+1:=fun hb=>by
    rw [List.take_succ_eq_append_getElem hku,List.countP_append,List.countP_singleton,if_pos (show ltS U[k].2 D[i].2=true from hb)]
   have hcf:Op.bytesLess (txt U[k].2) (txt D[i].2)=false→(U.take (k+1)).countP (fun y=>ltS y.2 D[i].2)=(U.take k).countP (fun y=>ltS y.2 D[i].2):=fun hb=>by
    rw [List.take_succ_eq_append_getElem hku,List.countP_append,List.countP_singleton,if_neg (by rw [show ltS U[k].2 D[i].2=false from hb]; simp),Nat.add_zero]
   have htx:decide (txt U[k].2=txt D[i].2)=decide (U[k].2=D[i].2):=by
    by_cases e:U[k].2=D[i].2
    ·rw [decide_eq_true e,decide_eq_true (congrArg txt e)]
    ·rw [decide_eq_false e,decide_eq_false (fun h=>e (hou.inj hok' h))]
   have haf:((U.take k).any fun y=>decide (y.2=D[i].2))=false→((U.take (k+1)).any fun y=>decide (y.2=D[i].2))=decide (txt U[k].2=txt D[i].2):=fun e=>by
    rw [List.take_succ_eq_append_getElem hku,List.any_append,e,htx]; simp
   have hat:((U.take k).any fun y=>decide (y.2=D[i].2))=true→((U.take (k+1)).any fun y=>decide (y.2=D[i].2))=true:=fun e=>by
    rw [List.take_succ_eq_append_getElem hku,List.any_append,e]; rfl
   have bb:=Below.next b5 b6
   refine ⟨fun hA=>⟨fun hb=>⟨⟨by omega,by omega⟩,⟨by omega,by omega⟩,k+1,?_,⟨bb,by omega⟩,by omega⟩,fun hb=>⟨⟨by omega,by omega⟩,k+1,?_,⟨bb,by omega⟩,by omega⟩⟩,fun hA=>⟨fun hb=>⟨⟨by omega,by omega⟩,⟨by omega,by omega⟩,k+1,?_,⟨bb,by omega⟩,by omega⟩,fun hb=>⟨⟨by omega,by omega⟩,k+1,?_,⟨bb,by omega⟩,by omega⟩⟩⟩
   ·rw [hct hb,haf hA]; rfl
   ·rw [hcf hb,haf hA]; rfl
   ·rw [hct hb,hat hA]; rfl
   ·rw [hcf hb,hat hA]; rfl
  ·have hku':¬ (k:Int)<U.length:=by omega
   simp (disch:=first|omega|exact zF rfl|exact zG rfl|exact fun h=>h|(simp only[zA,zB,zC,zD,bytesW];omega)) only[go_sem,hku']
   have hkU:k=U.length:=by omega
   subst hkU
   rw [List.take_length]
   cases hsame:U.any fun y=>decide (y.2=D[i].2) with
   | true =>
    simp (disch:=first|omega|exact zF rfl|exact zG rfl|exact fun h=>h|(simp only[zA,zB,zC,zD,bytesW];omega)) only[go_sem,c46S5]
    obtain ⟨q,hq,e⟩:=List.any_eq_true.1 hsame
    have e:=of_decide_eq_true e
    refine ⟨⟨by omega,by omega⟩,(i+1,U,.slice au U.length cu),rfl,⟨s5,by simp only; omega,⟨hu.1,fun s=>?_⟩,hm,by simp only; omega⟩,by simp only; omega⟩
    simp only
    rw [List.take_succ_eq_append_getElem hlt,List.map_append,List.mem_append,← hu.2 s]
    refine ⟨.inl,fun h=>h.elim id fun h=>?_⟩
    simp only [List.map_cons,List.map_nil,List.mem_singleton] at h
    rw [h,← e]
    exact List.mem_map.2 ⟨q,hq,rfl⟩
   | false =>
    have hne:∀ p∈U,p.2≠D[i].2:=fun p hp e=>by
     have:=List.any_eq_false.1 hsame p hp
     exact this (decide_eq_true e)
    simp (disch:=first|omega|exact zF rfl|exact zG rfl|exact fun h=>h|(simp only[zA,zB,zC,zD,bytesW];omega)) only[go_sem,c46S5]
    have hn:=List.countP_le_length (p:=fun y:VS=>ltS y.2 D[i].2) (l:=U)
    obtain ⟨n,hnn⟩:∃ n,n=U.countP fun y=>ltS y.2 D[i].2:=⟨_,rfl⟩
    rw [← hnn] at hn
    rw [← hnn]
    refine bsW_none ty41mkI ?_
    have s6:=s5.emptyRow 25 1
    have hcu:U.length≤cu:=by
     obtain ⟨_,⟨e,h0⟩ | ⟨g,cap,cur,e,_,_,hc,_⟩⟩:=s5.row 0 rfl
     ·omega
     ·cases e; exact hc
    simp (disch:=first|omega|exact zF rfl|exact zG rfl|exact fun h=>h|(simp only[zA,zB,zC,zD,bytesW];omega)) only[go_sem,c46S5]
    have ones:∀ (L:List VS),(∀ q∈L,q∈D)→∀ u∈L.map Prod.fst,u.oneCell'=true:=fun L hL u hu=>by
     obtain ⟨q,hq,rfl⟩:=List.mem_map.1 hu
     obtain ⟨a,c,e,_⟩:=(h.rd q (hL q hq)).form
     rw [e]; rfl
    refine ⟨⟨by omega,by omega⟩,s6.append 0 rfl ty41mkI rfl (by decide) (rd_take (Rd.of_own (s6.row 1 rfl)) hn) (by rw [Nat.mul_one,← List.map_take]; exact ones _ fun q hq=>hm q (List.mem_of_mem_take hq)) (by omega) (by omega) ?_⟩
    intro v7 w7 s7 c7
    simp only [List.set_cons_zero,List.nil_append,Nat.zero_add,Nat.mul_one,← List.map_take] at s7
    obtain ⟨a7,c7',rfl,_⟩:=own_slice (s7.row 0 rfl)
    have h7:=h.below s7.bel
    have ek7:=h7.at hlt
    rw [e1] at ek7
    simp (disch:=first|omega|exact zF rfl|exact zG rfl|exact fun h=>h|(simp only[zA,zB,zC,zD,bytesW];omega)) only[go_sem,c46S5,ek7]
    refine ⟨⟨by omega,by omega⟩,?_⟩
    refine bsW_ones ty41mkI rfl rfl (by decide) (by decide) (by intro v hv; rw [List.mem_singleton] at hv; subst hv; rfl) ?_
    simp (disch:=first|omega|exact zF rfl|exact zG rfl|exact fun h=>h|(simp only[zA,zB,zC,zD,bytesW];omega)) only[go_sem,c46S5]
    have s8:=s7.alloc' (.cells #[.slice ak D[i].2.length ck] 25)
    have hx:Rd (w7.alloc (.cells #[.slice ak D[i].2.length ck] 25)) 1 (.slice (some ⟨w7.heap.size,0,none⟩) 1 1) 1 [.slice ak D[i].2.length ck]:=rd_new (n:=1) (cs:=#[.slice ak D[i].2.length ck]) rfl
    refine s8.append 0 rfl ty41mkI rfl (by decide) hx (by intro v hv; rw [List.mem_singleton] at hv; subst hv; rfl) (by omega) (by omega) ?_
    intro v9 w9 s9 c9
    simp only [List.set_cons_zero] at s9
    obtain ⟨a9,c9',rfl,_⟩:=own_slice (s9.row 0 rfl)
    simp (disch:=first|omega|exact zF rfl|exact zG rfl|exact fun h=>h|(simp only[zA,zB,zC,zD,bytesW];omega)) only[go_sem,c46S5]
    refine ⟨⟨by omega,by omega⟩,s9.append 0 rfl ty41mkI rfl (by decide) (rd_drop (Rd.of_own (s9.row 1 rfl)) hn) (by rw [Nat.mul_one,← List.map_drop]; exact ones _ fun q hq=>hm q (List.mem_of_mem_drop hq)) (by omega) (by omega) ?_⟩
    intro v10 w10 s10 c10
    simp only [List.set_cons_zero,Nat.mul_one,← List.map_drop] at s10
    simp (disch:=first|omega|exact zF rfl|exact zG rfl|exact fun h=>h|(simp only[zA,zB,zC,zD,bytesW];omega)) only[go_sem,c46S5]
    have lU:n+1+(U.length - n)=(U.take n++[D[i]]++U.drop n).length:=by simp; omega
    have eU':List.map Prod.fst (U.take n)++[Value.slice ak D[i].2.length ck]++List.map Prod.fst (U.drop n)=(U.take n++[D[i]]++U.drop n).map Prod.fst:=by
     rw [List.map_append,List.map_append,List.map_cons,List.map_nil,e1]
    rw [eU',lU] at s10
    refine ⟨⟨by omega,by omega⟩,(i+1,U.take n++[D[i]]++U.drop n,v10),rfl,⟨s10.sub (by simp),by simp only; omega,⟨?_,fun s=>?_⟩,fun q hq=>?_,?_⟩,by simp only; omega⟩
    ·simp only
     rw [hnn]
     exact ins_sorted hu.1 (fun q hq=>hok q (hm q hq)) hok' hne
    ·simp only
     have this:s∈U.map Prod.snd↔s∈(U.take n).map Prod.snd∨s∈(U.drop n).map Prod.snd:=by
      have e:U.map Prod.snd=(U.take n).map Prod.snd++(U.drop n).map Prod.snd:=by rw [← List.map_append,List.take_append_drop]
      rw [e,List.mem_append]
     rw [List.take_succ_eq_append_getElem hlt]
     simp only [List.map_append (l₁:=U.take n++[D[i]]),List.map_append (l₁:=U.take n),List.map_append (l₁:=D.take i),List.mem_append]
     rw [← hu.2 s,this]
     constructor
     ·rintro ((h | h) | h)
      ·exact .inl (.inl h)
      ·exact .inr h
      ·exact .inl (.inr h)
     ·rintro ((h | h) | h)
      ·exact .inl (.inl h)
      ·exact .inr h
      ·exact .inl (.inr h)
    ·simp only at hq
     rcases List.mem_append.1 hq with hq | hq
     ·rcases List.mem_append.1 hq with hq | hq
      ·exact hm q (List.mem_of_mem_take hq)
      ·rw [List.mem_singleton] at hq; subst hq; exact List.getElem_mem hlt
     ·exact hm q (List.mem_of_mem_drop hq)
    ·simp only
     rw [← lU]; omega
 ·have hlt':¬ (i:Int)<D.length:=by omega
  simp (disch:=first|omega|exact zF rfl|exact zG rfl|exact fun h=>h|(simp only[zA,zB,zC,zD,bytesW];omega)) only[go_sem,c46S5,hlt']
  rw [List.take_of_length_le (by omega)] at hu
  exact ⟨⟨U,hu,hm,s3.row 0 rfl⟩,s3.bel⟩
open Go Go.Ann Go.RowKit
theorem ints_ok(va vb:Value)(a b:List Int)(w:World)(ha:RdS w 1 intE va a)(hb:RdS w 1 intE vb b)(hl:a.length≤1000000) :
  Ret Tryz.prog 16 [va,vb] w fun u w'=>u=.bool (decide (a=b))∧Below w.heap.size w w':=by
 obtain ⟨pa,ca,rfl,_⟩:=ha.form
 obtain ⟨pb,cb,rfl,_⟩:=hb.form
 refine ent16 _ _ _ _ ?_
 simp (disch:=first|omega|exact zF rfl|exact zG rfl|exact fun h=>h|(simp only[zA,zB,zC,zD,bytesW];omega)) only[go_sem]
 refine ⟨fun hne=>⟨?_,Below.refl _ _⟩,fun heq=>?_⟩
 ·rw [decide_eq_false (fun e=>hne (by rw [e]))]
 have hlen:a.length=b.length:=by omega
 refine W_loopU (fun k:Nat=>[(5,.int .i64 k)]) (fun k w'=>Below w.heap.size w w'∧k≤a.length∧a.take k=b.take k) (fun k=>a.length - k) 0 rfl ⟨Below.refl _ _,Nat.zero_le _,rfl⟩ ?_
 rintro k w2 ⟨g2,hk,he⟩
 by_cases hlt:k<a.length
 ·have hlt':(k:Int)<a.length:=by omega
  obtain ⟨p,rfl⟩:=ha.ptr (by omega)
  obtain ⟨q,rfl⟩:=hb.ptr (by omega)
  have ea:=RdS.int (ha.below g2 (by decide)) hlt
  have eb:=RdS.int (hb.below g2 (by decide)) (show k<b.length by omega)
  simp (disch:=first|omega|exact zF rfl|exact zG rfl|exact fun h=>h|(simp only[zA,zB,zC,zD,bytesW];omega)) only[go_sem,hlt']
  refine c16draw0 ?_
  simp (disch:=first|omega|exact zF rfl|exact zG rfl|exact fun h=>h|(simp only[zA,zB,zC,zD,bytesW];omega)) only[go_sem,c16D0,ea,eb]
  have gd:Below w.heap.size w w2.drew:=Below.next g2 (Below.refl _ w2).drew
  have hkb:k<b.length:=by omega
  refine ⟨⟨by omega,by omega⟩,⟨by omega,by omega⟩,fun e=>⟨?_,gd⟩,fun e=>⟨⟨by omega,by omega⟩,k+1,rfl,⟨gd,by omega,?_⟩,by omega⟩⟩
  ·rw [decide_eq_false (fun h=>e (by subst h; rfl))]
  ·rw [List.take_succ_eq_append_getElem hlt,List.take_succ_eq_append_getElem hkb,he,e]
 ·have hlt':¬ (k:Int)<a.length:=by omega
  simp (disch:=first|omega|exact zF rfl|exact zG rfl|exact fun h=>h|(simp only[zA,zB,zC,zD,bytesW];omega)) only[go_sem,hlt']
  rw [List.take_of_length_le (by omega),List.take_of_length_le (by omega)] at he
  exact ⟨by rw [decide_eq_true he],g2⟩
open Go Go.Ann Go.RowKit
structure OpT where
 ID:Int
 Proc:Int
 Object:Int
 Kind:Int
 Method:Int
 Arg:Int
 Second:Int
 Done:Bool
 Result:Int
 Invoke:Int
 Return:Int
deriving DecidableEq
def OpT.enc(a:OpT):List Value:=[.int .i64 a.ID,.int .i64 a.Proc,.int .i64 a.Object,.int .i64 a.Kind,.int .i64 a.Method,.int .i64 a.Arg,.int .i64 a.Second,.bool a.Done,.int .i64 a.Result,.int .i64 a.Invoke,.int .i64 a.Return]
def OpT.wf(a:OpT):Prop:=kOk .i64 a.ID∧kOk .i64 a.Proc∧kOk .i64 a.Object∧kOk .i64 a.Kind∧kOk .i64 a.Method∧kOk .i64 a.Arg∧kOk .i64 a.Second∧kOk .i64 a.Result∧kOk .i64 a.Invoke∧kOk .i64 a.Return
theorem OpT.len(a:OpT):a.enc.length=11:=rfl
theorem OpT.one(a:OpT):∀ u∈a.enc,u.oneCell'=true:=by intro u hu; simp only [OpT.enc,List.mem_cons,List.not_mem_nil,or_false] at hu; rcases hu with rfl | rfl | rfl | rfl | rfl | rfl | rfl | rfl | rfl | rfl | rfl <;> rfl
theorem OpT.ones(l:List OpT):∀ u∈l.flatMap OpT.enc,u.oneCell'=true:=by intro u hu; obtain ⟨a,_,h⟩:=List.mem_flatMap.1 hu; exact a.one u h
theorem OpT.at(a:OpT):a.enc[0]?=some (.int .i64 a.ID)∧a.enc[1]?=some (.int .i64 a.Proc)∧a.enc[2]?=some (.int .i64 a.Object)∧a.enc[3]?=some (.int .i64 a.Kind)∧a.enc[4]?=some (.int .i64 a.Method)∧a.enc[5]?=some (.int .i64 a.Arg)∧a.enc[6]?=some (.int .i64 a.Second)∧a.enc[7]?=some (.bool a.Done)∧a.enc[8]?=some (.int .i64 a.Result)∧a.enc[9]?=some (.int .i64 a.Invoke)∧a.enc[10]?=some (.int .i64 a.Return):=⟨rfl,rfl,rfl,rfl,rfl,rfl,rfl,rfl,rfl,rfl,rfl⟩
theorem opens_OpT:Opens Tryz.prog 52 (fun _ (a:OpT) cs=>cs=a.enc∧a.wf):=by
 intro H enc w base sp hd fuel cs x hx
 obtain ⟨hl,hf⟩:=opens_fields Tryz.underlying52 hx
 rw [show Tryz.prog.cellsOf 52=11 by kernel_rfl] at hl
 have c_0:Tryz.prog.cellsOf 4=1:=by kernel_rfl
 have c_1:Tryz.prog.cellsOf 3=1:=by kernel_rfl
 match cs,hl with
 | [v0,v1,v2,v3,v4,v5,v6,v7,v8,v9,v10],_ =>
  obtain ⟨n0,y0,g0⟩:=hf 0 _ rfl
  have h0:DataW.trod enc Tryz.prog w base sp hd n0 3 (List.take (Tryz.prog.cellsOf 3) [v0,v1,v2,v3,v4,v5,v6,v7,v8,v9,v10])=some y0:=g0
  rw [c_1] at h0
  obtain ⟨a0,e0⟩:=opens_int Tryz.underlying3 enc w base sp hd n0 [v0] y0 h0
  have r0:v0=_:=(List.cons.inj e0.1).1
  obtain ⟨n1,y1,g1⟩:=hf 1 _ rfl
  have h1:DataW.trod enc Tryz.prog w base sp hd n1 3 (List.take (Tryz.prog.cellsOf 3) [v1,v2,v3,v4,v5,v6,v7,v8,v9,v10])=some y1:=g1
  rw [c_1] at h1
  obtain ⟨a1,e1⟩:=opens_int Tryz.underlying3 enc w base sp hd n1 [v1] y1 h1
  have r1:v1=_:=(List.cons.inj e1.1).1
  obtain ⟨n2,y2,g2⟩:=hf 2 _ rfl
  have h2:DataW.trod enc Tryz.prog w base sp hd n2 3 (List.take (Tryz.prog.cellsOf 3) [v2,v3,v4,v5,v6,v7,v8,v9,v10])=some y2:=g2
  rw [c_1] at h2
  obtain ⟨a2,e2⟩:=opens_int Tryz.underlying3 enc w base sp hd n2 [v2] y2 h2
  have r2:v2=_:=(List.cons.inj e2.1).1
  obtain ⟨n3,y3,g3⟩:=hf 3 _ rfl
  have h3:DataW.trod enc Tryz.prog w base sp hd n3 3 (List.take (Tryz.prog.cellsOf 3) [v3,v4,v5,v6,v7,v8,v9,v10])=some y3:=g3
  rw [c_1] at h3
  obtain ⟨a3,e3⟩:=opens_int Tryz.underlying3 enc w base sp hd n3 [v3] y3 h3
  have r3:v3=_:=(List.cons.inj e3.1).1
  obtain ⟨n4,y4,g4⟩:=hf 4 _ rfl
  have h4:DataW.trod enc Tryz.prog w base sp hd n4 3 (List.take (Tryz.prog.cellsOf 3) [v4,v5,v6,v7,v8,v9,v10])=some y4:=g4
  rw [c_1] at h4
  obtain ⟨a4,e4⟩:=opens_int Tryz.underlying3 enc w base sp hd n4 [v4] y4 h4
  have r4:v4=_:=(List.cons.inj e4.1).1
  obtain ⟨n5,y5,g5⟩:=hf 5 _ rfl
  have h5:DataW.trod enc Tryz.prog w base sp hd n5 3 (List.take (Tryz.prog.cellsOf 3) [v5,v6,v7,v8,v9,v10])=some y5:=g5
  rw [c_1] at h5
  obtain ⟨a5,e5⟩:=opens_int Tryz.underlying3 enc w base sp hd n5 [v5] y5 h5
  have r5:v5=_:=(List.cons.inj e5.1).1
  obtain ⟨n6,y6,g6⟩:=hf 6 _ rfl
  have h6:DataW.trod enc Tryz.prog w base sp hd n6 3 (List.take (Tryz.prog.cellsOf 3) [v6,v7,v8,v9,v10])=some y6:=g6
  rw [c_1] at h6
  obtain ⟨a6,e6⟩:=opens_int Tryz.underlying3 enc w base sp hd n6 [v6] y6 h6
  have r6:v6=_:=(List.cons.inj e6.1).1
  obtain ⟨n7,y7,g7⟩:=hf 7 _ rfl
  have h7:DataW.trod enc Tryz.prog w base sp hd n7 4 (List.take (Tryz.prog.cellsOf 4) [v7,v8,v9,v10])=some y7:=g7
  rw [c_0] at h7
  obtain ⟨a7,e7⟩:=opens_bool Tryz.underlying4 enc w base sp hd n7 [v7] y7 h7
  have r7:v7=_:=(List.cons.inj e7).1
  obtain ⟨n8,y8,g8⟩:=hf 8 _ rfl
  have h8:DataW.trod enc Tryz.prog w base sp hd n8 3 (List.take (Tryz.prog.cellsOf 3) [v8,v9,v10])=some y8:=g8
  rw [c_1] at h8
  obtain ⟨a8,e8⟩:=opens_int Tryz.underlying3 enc w base sp hd n8 [v8] y8 h8
  have r8:v8=_:=(List.cons.inj e8.1).1
  obtain ⟨n9,y9,g9⟩:=hf 9 _ rfl
  have h9:DataW.trod enc Tryz.prog w base sp hd n9 3 (List.take (Tryz.prog.cellsOf 3) [v9,v10])=some y9:=g9
  rw [c_1] at h9
  obtain ⟨a9,e9⟩:=opens_int Tryz.underlying3 enc w base sp hd n9 [v9] y9 h9
  have r9:v9=_:=(List.cons.inj e9.1).1
  obtain ⟨n10,y10,g10⟩:=hf 10 _ rfl
  have h10:DataW.trod enc Tryz.prog w base sp hd n10 3 (List.take (Tryz.prog.cellsOf 3) [v10])=some y10:=g10
  rw [c_1] at h10
  obtain ⟨a10,e10⟩:=opens_int Tryz.underlying3 enc w base sp hd n10 [v10] y10 h10
  have r10:v10=_:=(List.cons.inj e10.1).1
  exact ⟨⟨a0,a1,a2,a3,a4,a5,a6,a7,a8,a9,a10⟩,by rw [r0,r1,r2,r3,r4,r5,r6,r7,r8,r9,r10]; rfl,e0.2,e1.2,e2.2,e3.2,e4.2,e5.2,e6.2,e8.2,e9.2,e10.2⟩
theorem opens_Ops:Opens Tryz.prog 22 (fun w (xs:List OpT) cs=>∃ v,cs=[v]∧RdS w 11 OpT.enc v xs∧(∀ x∈xs,x.wf)∧(xs.length:Int)≤9223372036854775807) :=
 Opens.mono (opens_slice opens_OpT Tryz.underlying22 (by kernel_rfl)) fun w xs cs ⟨v,h1,h2,h3⟩ =>
  have h:=h2.plain (enc:=OpT.enc) (ok:=OpT.wf) fun _ _ h=>h
  ⟨xs,v,h1,h.1,h.2,h3⟩
open Go Go.Ann Go.RowKit
def numP(x:Int)(o:OpT):Option (List Int × Int) :=
 if o.Method=1 then some ([x],x)
 else if o.Kind=1∧o.Method=2 then some ([o.Arg],0)
 else if o.Kind=1∧o.Method=3 then (if x=o.Arg then some ([o.Second],1) else some ([x],0))
 else if o.Kind=2∧o.Method=4 then some ([IntKind.i64.wrap (x+1)],0)
 else if o.Kind=2∧o.Method=5 then some ([IntKind.i64.wrap (x - 1)],0)
 else none
def StepR(w w':World)(v:Value)(r:Option (List Int × Int))(t:Value):Prop :=
 ∃ u a ok,t=.tuple #[u,.int .i64 a,.bool ok]∧match r with
  | none=>ok=false
  | some (s,n)=>ok=true∧a=n∧RdS w' 1 intE u s∧∀ k,slFoot u k→v.ownBlock=some k∨w.heap.size≤k
theorem int_new{w:World}{b:Nat}(x:Int)(hb:b=w.heap.size):RdS (w.alloc (.cells #[.int .i64 x] 3)) 1 intE (.slice (some ⟨b,0,none⟩) 1 1) [x]:=by
 subst hb
 exact rd_new (n:=1) (cs:=#[.int .i64 x]) rfl
theorem number_ok(v:Value)(x:Int)(o:OpT)(w:World)(h:RdS w 1 intE v [x]) :
  Ret Tryz.prog 96 [v,.agg o.enc.toArray] w fun u w'=>StepR w w' v (numP x o) u∧Below w.heap.size w w':=by
 obtain ⟨a,c,rfl,_⟩:=h.form
 obtain ⟨p,rfl⟩:=h.ptr (by simp)
 refine ent96 _ _ _ _ ?_
 have ho:=o.at
 have hw1:Below w.heap.size w (w.alloc (.cells o.enc.toArray 52)):=(Below.refl _ w).alloc (Nat.le_refl _) _
 have h1:=h.below hw1 (by decide)
 have ep:=RdS.int h1 (k:=0) (by simp)
 rw [show p.add 0=p from rfl,show ([x]:List Int)[0]=x from rfl] at ep
 have hw2:Below w.heap.size w (w.alloc (.cells o.enc.toArray 52)).drew:=hw1.drew
 have ep2:(w.alloc (.cells o.enc.toArray 52)).drew.cell? p=some (.int .i64 x):=ep
 have lp:p.block<w.heap.size:=h.blt intE_len (by decide) (by simp)
 have one:∀ (n:Int) (K:Value→World→Prop),(∀ u w',RdS w' 1 intE u [n]→(∀ k,slFoot u k→w.heap.size≤k)→Below w.heap.size w w'→K u w')→bsW Tryz.prog 25 1 [0] [.int .i64 n] (w.alloc (.cells o.enc.toArray 52)) K:=fun n K hK=>by
  refine bsW_ones ty25mkI rfl rfl (by decide) (by decide) (intE_one n) ?_
  refine hK _ _ (int_new n rfl) (fun k hk=>?_) (Below.next hw1 ((Below.refl _ _).alloc (Nat.le_refl _) _))
  have:=slFoot_own hk
  simp only [Value.ownBlock,Option.some.injEq,World.size_alloc] at this
  omega
 have no:∀ {w':World},numP x o=none→StepR w w' (.slice (some p) 1 c) (numP x o) (.tuple #[.slice none 0 0,.int .i64 0,.bool false]):=fun e=>⟨_,_,_,rfl,by rw [e]⟩
 by_cases m1:o.Method=1
 ·have e:numP x o=some ([x],x):=by unfold numP; rw [if_pos m1]
  simp (disch:=first|omega|exact zF rfl|exact zG rfl|exact fun h=>h|(simp only[zA,zB,zC,zD,bytesW];omega)) only[go_sem,ho,m1]
  refine c96draw0 ?_
  have hd2:(w.alloc (.cells o.enc.toArray 52)).drew.heap.size=w.heap.size+1:=by simp
  simp (disch:=first|omega|exact zF rfl|exact zG rfl|exact fun h=>h|(simp only[zA,zB,zC,zD,bytesW];omega)) only[go_sem,c96D0,ep,ep2]
  exact ⟨⟨_,_,_,rfl,by rw [e]; exact ⟨rfl,rfl,h.below hw2 (by decide),fun k hk=>.inl (slFoot_own hk)⟩⟩,hw2⟩
 by_cases k1:o.Kind=1
 ·by_cases m2:o.Method=2
  ·have e:numP x o=some ([o.Arg],0):=by unfold numP; rw [if_neg m1,if_pos ⟨k1,m2⟩]
   simp (disch:=first|omega|exact zF rfl|exact zG rfl|exact fun h=>h|(simp only[zA,zB,zC,zD,bytesW];omega)) only[go_sem,ho,k1,m2]
   refine one _ _ fun u w' hr hf hb=>?_
   simp (disch:=first|omega|exact zF rfl|exact zG rfl|exact fun h=>h|(simp only[zA,zB,zC,zD,bytesW];omega)) only[go_sem]
   exact ⟨⟨u,_,_,rfl,by rw [e]; exact ⟨rfl,rfl,hr,fun k hk=>.inr (hf k hk)⟩⟩,hb⟩
  by_cases m3:o.Method=3
  ·simp (disch:=first|omega|exact zF rfl|exact zG rfl|exact fun h=>h|(simp only[zA,zB,zC,zD,bytesW];omega)) only[go_sem,ho,k1,m3]
   refine c96draw1 ?_
   simp (disch:=first|omega|exact zF rfl|exact zG rfl|exact fun h=>h|(simp only[zA,zB,zC,zD,bytesW];omega)) only[go_sem,c96D1,ep,ep2,ho]
   refine ⟨fun e0=>?_,fun e0=>?_⟩
   ·have e:numP x o=some ([o.Second],1):=by unfold numP; simp [m1,k1,m2,m3,e0]
    refine bsW_ones ty25mkI rfl rfl (by decide) (by decide) (intE_one _) ?_
    simp (disch:=first|omega|exact zF rfl|exact zG rfl|exact fun h=>h|(simp only[zA,zB,zC,zD,bytesW];omega)) only[go_sem]
    have hi:=int_new (w:=w.alloc (.cells o.enc.toArray 52)) (b:=w.heap.size+1) o.Second (by simp)
    have bb:=(Below.refl (w.alloc (.cells o.enc.toArray 52)).heap.size (w.alloc (.cells o.enc.toArray 52))).alloc (Nat.le_refl _) (.cells #[.int .i64 o.Second] 3)
    refine ⟨⟨_,_,_,rfl,by
     rw [e]
     refine ⟨rfl,rfl,hi.below (Below.refl _ _).drew (by decide),fun k hk=>.inr ?_⟩
     have:=slFoot_own hk
     simp only [Value.ownBlock,Option.some.injEq] at this
     omega⟩,(Below.next hw1 bb).drew⟩
   ·have e:numP x o=some ([x],0):=by unfold numP; simp [m1,k1,m2,m3,e0]
    exact ⟨⟨_,_,_,rfl,by rw [e]; exact ⟨rfl,rfl,h.below hw2 (by decide),fun k hk=>.inl (slFoot_own hk)⟩⟩,hw2⟩
  ·have e:numP x o=none:=by unfold numP; simp [m1,k1,m2,m3]
   simp (disch:=first|omega|exact zF rfl|exact zG rfl|exact fun h=>h|(simp only[zA,zB,zC,zD,bytesW];omega)) only[go_sem,ho,k1,m1,m2,m3]
   exact ⟨no e,hw1⟩
 by_cases k2:o.Kind=2
 ·by_cases m4:o.Method=4
  ·have e:numP x o=some ([IntKind.i64.wrap (x+1)],0):=by unfold numP; simp [m4,k2]
   simp (disch:=first|omega|exact zF rfl|exact zG rfl|exact fun h=>h|(simp only[zA,zB,zC,zD,bytesW];omega)) only[go_sem,ho,k2,m4,ep]
   refine one _ _ fun u w' hr hf hb=>?_
   simp (disch:=first|omega|exact zF rfl|exact zG rfl|exact fun h=>h|(simp only[zA,zB,zC,zD,bytesW];omega)) only[go_sem]
   exact ⟨⟨u,_,_,rfl,by rw [e]; exact ⟨rfl,rfl,hr,fun k hk=>.inr (hf k hk)⟩⟩,hb⟩
  by_cases m5:o.Method=5
  ·have e:numP x o=some ([IntKind.i64.wrap (x - 1)],0):=by unfold numP; simp [m5,k2]
   simp (disch:=first|omega|exact zF rfl|exact zG rfl|exact fun h=>h|(simp only[zA,zB,zC,zD,bytesW];omega)) only[go_sem,ho,k2,m5,ep]
   refine one _ _ fun u w' hr hf hb=>?_
   simp (disch:=first|omega|exact zF rfl|exact zG rfl|exact fun h=>h|(simp only[zA,zB,zC,zD,bytesW];omega)) only[go_sem]
   exact ⟨⟨u,_,_,rfl,by rw [e]; exact ⟨rfl,rfl,hr,fun k hk=>.inr (hf k hk)⟩⟩,hb⟩
  ·have e:numP x o=none:=by unfold numP; simp [m1,k2,m4,m5]
   simp (disch:=first|omega|exact zF rfl|exact zG rfl|exact fun h=>h|(simp only[zA,zB,zC,zD,bytesW];omega)) only[go_sem,ho,k2,m1,m4,m5]
   exact ⟨no e,hw1⟩
 ·have e:numP x o=none:=by unfold numP; simp [m1,k1,k2]
  simp (disch:=first|omega|exact zF rfl|exact zG rfl|exact fun h=>h|(simp only[zA,zB,zC,zD,bytesW];omega)) only[go_sem,ho,k1,k2,m1]
  exact ⟨no e,hw1⟩
open Go Go.Ann Go.RowKit
def listP(s:List Int)(o:OpT):Option (List Int × Int) :=
 if (o.Kind=3∧o.Method=6)∨(o.Kind=4∧o.Method=8) then some (s++[o.Arg],0)
 else if o.Kind=3∧o.Method=7 then (match s with | []=>some ([],-1) | x::r=>some (r,x))
 else if o.Kind=4∧o.Method=9 then (if h:s=[] then some ([],-1) else some (s.dropLast,s.getLast h))
 else none
theorem ints_take:∀ (s:List Int) (k:Nat),(s.take k).flatMap intE=(s.flatMap intE).take k
 | [],k=>by simp
 | x::s,0=>rfl
 | x::s,k+1=>by rw [List.take_succ_cons,List.flatMap_cons,List.flatMap_cons,ints_take s k]; rfl
theorem offA_own{ad:Addr}{c lo n m k:Nat}(h:slFoot (.slice (offA (some ad) c lo 1) n m) k):ad.block=k:=by
 have:=slFoot_own h
 unfold offA at this
 split at this
 ·simpa [Value.ownBlock] using this
 ·simpa [Value.ownBlock,add_block] using this
theorem list_ok(v:Value)(s:List Int)(o:OpT)(w:World)(B:Nat)(hB:B≤w.heap.size)(h:w.ownsRow B 3 1 v s.length (s.flatMap intE))(hl:s.length≤1000000) :
  Ret Tryz.prog 97 [v,.agg o.enc.toArray] w fun u w'=>StepR w w' v (listP s o) u∧Chg (fun k=>v.ownBlock=some k) w w':=by
 obtain ⟨a,c,rfl,_⟩:=own_slice h
 refine ent97 _ _ _ _ ?_
 have ho:=o.at
 have hw1:Below w.heap.size w (w.alloc (.cells o.enc.toArray 52)):=(Below.refl _ w).alloc (Nat.le_refl _) _
 have hc1:Chg (fun k=>(Value.slice a s.length c).ownBlock=some k) w (w.alloc (.cells o.enc.toArray 52)):=Chg.of_below hw1
 have hr:RdS w 1 intE (.slice a s.length c) s:=RdS.of_own' h s rfl rfl
 have no:∀ {w':World},listP s o=none→StepR w w' (.slice a s.length c) (listP s o) (.tuple #[.slice none 0 0,.int .i64 0,.bool false]):=fun e=>⟨_,_,_,rfl,by rw [e]⟩
 have emp:s=[]→listP s o=some ([],-1)→StepR w (w.alloc (.cells o.enc.toArray 52)) (.slice a s.length c) (listP s o) (.tuple #[.slice a s.length c,.int .i64 (-1),.bool true]):=fun e e2=>⟨_,_,_,rfl,by
  rw [e2]
  have:=hr.below hw1 (by decide)
  subst e
  exact ⟨rfl,rfl,this,fun k hk=>.inl (slFoot_own hk)⟩⟩
 have app:∀ {ty:TypeId} {cs:Array Bool} {K:Value→World→Prop},(∀ u w',RdS w' 1 intE u (s++[o.Arg])→(∀ k,slFoot u k→(Value.slice a s.length c).ownBlock=some k∨w.heap.size≤k)→Chg (fun k=>(Value.slice a s.length c).ownBlock=some k) w w'→K u w') →
   rawB Tryz.prog .append #[25,25] ty cs [.slice a s.length c,.slice (some ⟨w.heap.size+1,0,none⟩) 1 1] ((w.alloc (.cells o.enc.toArray 52)).alloc (.cells #[.int .i64 o.Arg] 3)) K:=by
  intro ty cs K hK
  have bb:=(Below.refl (w.alloc (.cells o.enc.toArray 52)).heap.size (w.alloc (.cells o.enc.toArray 52))).alloc (Nat.le_refl _) (.cells #[.int .i64 o.Arg] 3)
  have hb2:=Below.next hw1 bb
  have ho2:=(Chg.of_below (S:=fun _=>False) hb2).own h fun _ _ h=>h
  have hi:=int_new (w:=w.alloc (.cells o.enc.toArray 52)) (b:=w.heap.size+1) o.Arg (by simp)
  obtain ⟨_,a',c',e,_,hp⟩:=hi
  cases e
  obtain ⟨ad,had,hcell⟩:=hp (by simp)
  cases had
  refine rawB_append (m:=1) ty25mkI rfl (by decide) ho2 (by simp [intE]) hcell (ints_one _) (by decide) (by omega) (by omega) (by have:=hb2.size; omega) ?_
  intro g cap w' hown hg hgb hgl
  have hown':w'.ownsRow B 3 1 (.slice (some ⟨g,0,none⟩) (s.length+1) cap) (s.length+1) ((s++[o.Arg]).flatMap intE):=by
   rw [List.flatMap_append]; exact hown
  refine hK _ _ (RdS.of_own' hown' (s++[o.Arg]) (by simp) rfl) (fun k hk=>?_) ((Chg.of_below hb2).trans ⟨hg.os,hg.tape,hg.output,hg.size,fun k hk hS=>hg.block k hk fun e=>hS e.symm⟩)
  have:=slFoot_own hk
  simp only [Value.ownBlock,Option.some.injEq] at this
  subst this
  rcases hgb with h | h
  ·exact .inl h
  ·right; rw [h]; simp; omega
 by_cases k3:o.Kind=3
 ·by_cases m6:o.Method=6
  ·simp (disch:=first|omega|exact zF rfl|exact zG rfl|exact fun h=>h|(simp only[zA,zB,zC,zD,bytesW];omega)) only[go_sem,ho,k3,m6]
   refine bsW_ones ty25mkI rfl rfl (by decide) (by decide) (intE_one _) ?_
   simp (disch:=first|omega|exact zF rfl|exact zG rfl|exact fun h=>h|(simp only[zA,zB,zC,zD,bytesW];omega)) only[go_sem]
   refine app fun u w' hu hf hc=>?_
   simp (disch:=first|omega|exact zF rfl|exact zG rfl|exact fun h=>h|(simp only[zA,zB,zC,zD,bytesW];omega)) only[go_sem]
   exact ⟨⟨u,_,_,rfl,by rw [show listP s o=some (s++[o.Arg],0) by unfold listP; simp [k3,m6]]; exact ⟨rfl,rfl,hu,hf⟩⟩,hc⟩
  by_cases m7:o.Method=7
  ·simp (disch:=first|omega|exact zF rfl|exact zG rfl|exact fun h=>h|(simp only[zA,zB,zC,zD,bytesW];omega)) only[go_sem,ho,k3,m7]
   refine ⟨fun h0=>⟨emp (List.eq_nil_of_length_eq_zero (by omega)) (by have:s=[]:=List.eq_nil_of_length_eq_zero (by omega); subst this; unfold listP; simp [k3,m7]),hc1⟩,fun h0=>?_⟩
   have h0':0<s.length:=by omega
   obtain ⟨ad,rfl⟩:=hr.ptr h0'
   have hr2:RdS (w.alloc (.cells o.enc.toArray 52)).drew 1 intE (.slice (some ad) s.length c) s:=hr.below hw1.drew (by decide)
   have hcd:Chg (fun k=>(Value.slice (some ad) s.length c).ownBlock=some k) w (w.alloc (.cells o.enc.toArray 52)).drew:=Chg.of_below hw1.drew
   obtain ⟨x,r,rfl⟩:∃ x r,s=x::r:=by
    cases s with
    | nil=>simp at h0'
    | cons x r=>exact ⟨x,r,rfl⟩
   have ep:=RdS.int hr2 (k:=0) h0'
   rw [show ad.add 0=ad from rfl,show (x::r)[0]=x from rfl] at ep
   refine c97draw0 ?_
   simp (disch:=first|omega|exact zF rfl|exact zG rfl|exact fun h=>h|(simp only[zA,zB,zC,zD,bytesW];omega)) only[go_sem,c97D0,ep]
   refine ⟨by omega,by omega,⟨_,_,_,rfl,?_⟩⟩
   rw [show listP (x::r) o=some (r,x) by unfold listP; simp [k3,m7]]
   refine ⟨rfl,rfl,?_,fun k hk=>.inl ?_⟩
   ·have:=rd_drop (k:=1) (show Rd _ 1 (.slice (some ad) (x::r).length c) (x::r).length ((x::r).flatMap intE) from hr2) (by simp)
    exact this
   ·rw [← offA_own hk]; rfl
  ·simp (disch:=first|omega|exact zF rfl|exact zG rfl|exact fun h=>h|(simp only[zA,zB,zC,zD,bytesW];omega)) only[go_sem,ho,k3,m6,m7]
   exact ⟨no (by unfold listP; simp [k3,m6,m7]),hc1⟩
 by_cases k4:o.Kind=4
 ·by_cases m8:o.Method=8
  ·simp (disch:=first|omega|exact zF rfl|exact zG rfl|exact fun h=>h|(simp only[zA,zB,zC,zD,bytesW];omega)) only[go_sem,ho,k4,m8]
   refine bsW_ones ty25mkI rfl rfl (by decide) (by decide) (intE_one _) ?_
   simp (disch:=first|omega|exact zF rfl|exact zG rfl|exact fun h=>h|(simp only[zA,zB,zC,zD,bytesW];omega)) only[go_sem]
   refine app fun u w' hu hf hc=>?_
   simp (disch:=first|omega|exact zF rfl|exact zG rfl|exact fun h=>h|(simp only[zA,zB,zC,zD,bytesW];omega)) only[go_sem]
   exact ⟨⟨u,_,_,rfl,by rw [show listP s o=some (s++[o.Arg],0) by unfold listP; simp [k4,m8]]; exact ⟨rfl,rfl,hu,hf⟩⟩,hc⟩
  by_cases m9:o.Method=9
  ·simp (disch:=first|omega|exact zF rfl|exact zG rfl|exact fun h=>h|(simp only[zA,zB,zC,zD,bytesW];omega)) only[go_sem,ho,k4,m9]
   refine ⟨fun h0=>⟨emp (List.eq_nil_of_length_eq_zero (by omega)) (by have:s=[]:=List.eq_nil_of_length_eq_zero (by omega); subst this; unfold listP; simp [k4,m9]),hc1⟩,fun h0=>?_⟩
   have h0':0<s.length:=by omega
   obtain ⟨ad,rfl⟩:=hr.ptr h0'
   have hr2:RdS (w.alloc (.cells o.enc.toArray 52)).drew 1 intE (.slice (some ad) s.length c) s:=hr.below hw1.drew (by decide)
   have hcd:Chg (fun k=>(Value.slice (some ad) s.length c).ownBlock=some k) w (w.alloc (.cells o.enc.toArray 52)).drew:=Chg.of_below hw1.drew
   have hne:s≠[]:=fun e=>by subst e; simp at h0'
   have ep:=RdS.int hr2 (k:=s.length - 1) (by omega)
   have ti:((s.length:Int) - 1).toNat=s.length - 1:=by omega
   refine c97draw1 ?_
   simp (disch:=first|omega|exact zF rfl|exact zG rfl|exact fun h=>h|(simp only[zA,zB,zC,zD,bytesW];omega)) only[go_sem,c97D1,ti,ep]
   have hcap:s.length≤c:=by
    obtain ⟨_,c',e,hc⟩:=hr.form
    cases e; exact hc
   refine ⟨⟨by omega,by omega⟩,⟨by omega,by omega⟩,⟨by omega,by omega⟩,⟨by omega,by omega⟩,⟨_,_,_,rfl,?_⟩⟩
   rw [show listP s o=some (s.dropLast,s.getLast hne) by unfold listP; simp [k4,m9,hne]]
   refine ⟨rfl,(List.getLast_eq_getElem hne).symm,?_,fun k hk=>.inl ?_⟩
   ·have:=rd_take (k:=s.length - 1) (show Rd _ 1 (.slice (some ad) s.length c) s.length (s.flatMap intE) from hr2) (by omega)
    have e:s.dropLast.flatMap intE=(s.flatMap intE).take ((s.length - 1) * 1):=by
     rw [Nat.mul_one,List.dropLast_eq_take]
     exact ints_take s _
    have e2:s.dropLast.length=s.length - 1:=List.length_dropLast
    unfold RdS
    rw [e,e2]
    exact this
   ·rw [← offA_own hk]; rfl
  ·simp (disch:=first|omega|exact zF rfl|exact zG rfl|exact fun h=>h|(simp only[zA,zB,zC,zD,bytesW];omega)) only[go_sem,ho,k4,m8,m9]
   exact ⟨no (by unfold listP; simp [k4,m8,m9]),hc1⟩
 ·simp (disch:=first|omega|exact zF rfl|exact zG rfl|exact fun h=>h|(simp only[zA,zB,zC,zD,bytesW];omega)) only[go_sem,ho,k3,k4]
  exact ⟨no (by unfold listP; simp [k3,k4]),hc1⟩
open Go Go.Ann Go.RowKit Go.Shelf
theorem drewN_below{w:World}(q:Nat):Below w.heap.size w (w.drewN q):=⟨rfl,rfl,rfl,Nat.le_refl _,fun _ _=>rfl⟩
theorem bsearch_ok(v:Value)(s:List Int)(x:Int)(w:World)(h:RdS w 1 intE v s)(hv:∀ a n c,v=.slice (some a) n c→n≠0→a.spot=none)(hl:s.length≤1000000)(hs:s.Pairwise (·≤·)) :
  Ret Tryz.prog 118 [v,.int .i64 x] w fun u w'=>u=.tuple #[.int .i64 (s.countP (·<x):Nat),.bool (s.contains x)]∧Below w.heap.size w w':=by
 obtain ⟨a,c,rfl,_⟩:=h.form
 rcases Nat.eq_zero_or_pos s.length with h0 | h0
 ·have e:s=[]:=List.eq_nil_of_length_eq_zero h0
  subst e
  exact (Any.slices_BinarySearch_int_empty layBin a c x w).mono fun e w' ⟨h1,h2⟩=>⟨_,h1,rfl,by rw [h2]; exact Below.refl _ _⟩
 ·obtain ⟨ad,rfl⟩:=h.ptr h0
  have hsp:=hv ad _ _ rfl (by omega)
  have had:ad=⟨ad.block,ad.off,none⟩:=by cases ad; simp only at hsp; subst hsp; rfl
  have hc:∀ j,j<s.length→w.cell? ⟨ad.block,ad.off+j,none⟩=some (.int .i64 (s.getD j 0)):=fun j hj=>by
   have:=RdS.int h hj
   rw [had,Addr.add_lit] at this
   rw [this,List.getD_eq_getElem?_getD,List.getElem?_eq_getElem hj]; rfl
  have:=Any.slices_BinarySearch_int layBin ad.block ad.off s.length c s x w (Nat.le_refl _) (by omega) hc (by rw [List.take_length]; exact hs)
  rw [List.take_length,← had] at this
  exact this.mono fun e w' ⟨h1,q,h2⟩=>⟨_,h1,rfl,by rw [h2]; exact drewN_below q⟩
open Go Go.Ann Go.RowKit Go.Shelf Go.Sort
theorem delete_ok(g cap i:Nat)(s:List Int)(rest:List Value)(w:World)(hB:Blk w g (s.map (Value.int .i64)++rest).toArray 3)(hc:s.length≤cap)(hm:cap≤9223372036854775807)(hi:i<s.length) :
  Ret Tryz.prog 121 [.slice (some ⟨g,0,none⟩) s.length cap,.int .i64 i,.int .i64 (i+1)] w fun u w' =>
   u=.slice (some ⟨g,0,none⟩) (s.length - 1) cap∧(∃ rest',Blk w' g ((s.take i++s.drop (i+1)).map (Value.int .i64)++rest').toArray 3)∧Chg (fun k=>k=g) w w':=by
 have hH:Holds (Value.int .i64) w g 0 s.toArray:=by
  intro j hj
  have hj':j<s.length:=by simpa using hj
  rw [hB.cell,hB.frozen]
  refine ⟨?_,rfl⟩
  rw [List.getElem?_toArray,Nat.zero_add,List.getElem?_append_left (by simpa using hj'),List.getElem?_map,List.getElem?_eq_getElem hj',getElem!_pos s.toArray j hj]
  rfl
 have h:=Any.slices_Delete_int layDel g 0 cap i (i+1) s w hH hc hm (by omega) (by omega)
 refine h.mono ?_
 rintro e w' ⟨rfl,q,rfl⟩
 have hsz:(s.take i++s.drop (i+1)++List.replicate (i+1 - i) 0).toArray.size=s.toArray.size:=by simp; omega
 have hb:=sorted_blk (m:=q) (d:=s.toArray) (rest:=rest) (enc:=Value.int .i64) (by simpa using hB) hsz #[]
 have e:sortWorld (Value.int .i64) w g 0 q (s.take i++s.drop (i+1)++List.replicate (i+1 - i) 0).toArray #[]=putRow (Value.int .i64) (Sort.ahead w q) g 0 (s.take i++s.drop (i+1)++List.replicate (i+1 - i) 0).toArray:=grow_empty _
 rw [e] at hb
 refine ⟨_,rfl,by rw [show i+1 - i=1 by omega],⟨(List.replicate (i+1 - i) (0:Int)).map (Value.int .i64)++rest,?_⟩,hb.2⟩
 have:=hb.1
 simp only [List.toList_toArray,List.map_append,List.append_assoc] at this ⊢
 exact this
open Go Go.Ann Go.RowKit
def StepA(w w':World)(v:Value)(r:Option (List Int × Int))(t:Value):Prop :=
 ∃ u a ok,t=.agg #[u,.int .i64 a,.bool ok]∧(∃ b n c,u=.slice b n c)∧match r with
  | none=>ok=false
  | some (s,n)=>ok=true∧a=n∧RdS w' 1 intE u s∧∀ k,slFoot u k→slFoot v k∨w.heap.size≤k
theorem rnumber_ok(v:Value)(x:Int)(o:OpT)(w:World)(h:RdS w 1 intE v [x]) :
  Ret Tryz.prog 115 [v,.agg o.enc.toArray] w fun u w'=>StepA w w' v (numP x o) u∧Below w.heap.size w w':=by
 obtain ⟨a,c,rfl,_⟩:=h.form
 obtain ⟨p,rfl⟩:=h.ptr (by simp)
 refine ent115 _ _ _ _ ?_
 have ho:=o.at
 have s2:=((St.start (W0:=w)).box o.enc.toArray 52).box #[.slice none 0 0,.int .i64 0,.bool false] 150
 rw [World.size_alloc] at s2
 have ep:=RdS.int (h.below s2.bel (by decide)) (k:=0) (by simp)
 rw [show p.add 0=p from rfl,show ([x]:List Int)[0]=x from rfl] at ep
 have lp:p.block<w.heap.size:=h.blt intE_len (by decide) (by simp)
 have r0:=s2.rules 1 rfl
 have r1:=s2.rules 0 rfl
 have s3:=s2.drew
 have r3:=s3.rules 0 rfl
 by_cases m1:o.Method=1
 ·simp (disch:=first|omega|exact zF rfl|exact zG rfl|exact fun h=>h|(simp only[zA,zB,zC,zD,bytesW];omega)) only[go_sem,ho,m1,ep,r1]
  have e:numP x o=some ([x],x):=by unfold numP; rw [if_pos m1]
  refine bdW_built (cells:=#[.slice (some p) 1 c,.int .i64 x,.bool true]) (by kernel_rfl) ?_
  simp (disch:=first|omega|exact zF rfl|exact zG rfl|exact fun h=>h|(simp only[zA,zB,zC,zD,bytesW];omega)) only[go_sem,r1]
  have s5:=s2.fill 0 rfl (cs:=#[.slice (some p) 1 c,.int .i64 x,.bool true]) rfl
  refine ⟨⟨_,_,_,rfl,⟨_,_,_,rfl⟩,?_⟩,s5.bel⟩
  rw [e]
  exact ⟨rfl,rfl,h.below s5.bel (by decide),fun k hk=>.inl hk⟩
 by_cases k1:o.Kind=1
 ·by_cases m2:o.Method=2
  ·simp (disch:=first|omega|exact zF rfl|exact zG rfl|exact fun h=>h|(simp only[zA,zB,zC,zD,bytesW];omega)) only[go_sem,ho,k1,m2]
   have e:numP x o=some ([o.Arg],0):=by unfold numP; rw [if_neg m1,if_pos ⟨k1,m2⟩]
   refine bsW_ones ty25mkI rfl rfl (by decide) (by decide) (intE_one _) ?_
   simp (disch:=first|omega|exact zF rfl|exact zG rfl|exact fun h=>h|(simp only[zA,zB,zC,zD,bytesW];omega)) only[go_sem]
   refine bdW_built (cells:=#[.slice (some ⟨w.heap.size+2,0,none⟩) 1 1,.int .i64 0,.bool true]) (by kernel_rfl) ?_
   have s4:=s2.alloc' (.cells #[.int .i64 o.Arg] 3)
   have r4:=s4.rules 0 rfl
   simp (disch:=first|omega|exact zF rfl|exact zG rfl|exact fun h=>h|(simp only[zA,zB,zC,zD,bytesW];omega)) only[go_sem,r4]
   have hn:RdS _ 1 intE (.slice (some ⟨w.heap.size+2,0,none⟩) 1 1) [o.Arg]:=(int_new (w:=(w.alloc (.cells o.enc.toArray 52)).alloc (.cells #[.slice none 0 0,.int .i64 0,.bool false] 150)) o.Arg (by simp)).chg (S:=fun k=>k=w.heap.size+1) ((Chg.refl _ _).fill (b:=w.heap.size+1) (cs:=#[.slice (some ⟨w.heap.size+2,0,none⟩) 1 1,.int .i64 0,.bool true]) fun _=>rfl) (fun q hq e=>by cases hq; simp at e)
   refine ⟨⟨_,_,_,rfl,⟨_,_,_,rfl⟩,?_⟩,(s4.fill 0 rfl (cs:=#[.slice (some ⟨w.heap.size+2,0,none⟩) 1 1,.int .i64 0,.bool true]) rfl).bel⟩
   rw [e]
   refine ⟨rfl,rfl,hn,fun k hk=>.inr ?_⟩
   have:=slFoot_own hk
   simp only [Value.ownBlock,Option.some.injEq] at this
   omega
  by_cases m3:o.Method=3
  ·simp (disch:=first|omega|exact zF rfl|exact zG rfl|exact fun h=>h|(simp only[zA,zB,zC,zD,bytesW];omega)) only[go_sem,ho,k1,m3]
   refine c115draw0 ?_
   simp (disch:=first|omega|exact zF rfl|exact zG rfl|exact fun h=>h|(simp only[zA,zB,zC,zD,bytesW];omega)) only[go_sem,c115D0,ep,ho,k1,m3]
   refine ⟨fun e0=>?_,fun e0=>?_⟩
   ·have e:numP x o=some ([o.Second],1):=by unfold numP; simp [m1,k1,m2,m3,e0]
    refine bsW_ones ty25mkI rfl rfl (by decide) (by decide) (intE_one _) ?_
    simp (disch:=first|omega|exact zF rfl|exact zG rfl|exact fun h=>h|(simp only[zA,zB,zC,zD,bytesW];omega)) only[go_sem]
    refine bdW_built (cells:=#[.slice (some ⟨w.heap.size+2,0,none⟩) 1 1,.int .i64 1,.bool true]) (by kernel_rfl) ?_
    have s4:=s3.alloc' (.cells #[.int .i64 o.Second] 3)
    have r4:=s4.rules 0 rfl
    simp (disch:=first|omega|exact zF rfl|exact zG rfl|exact fun h=>h|(simp only[zA,zB,zC,zD,bytesW];omega)) only[go_sem,r4]
    have hn:RdS _ 1 intE (.slice (some ⟨w.heap.size+2,0,none⟩) 1 1) [o.Second]:=(int_new (w:=(w.alloc (.cells o.enc.toArray 52)).alloc (.cells #[.slice none 0 0,.int .i64 0,.bool false] 150)) o.Second (by simp)).chg (S:=fun k=>k=w.heap.size+1) (((Chg.refl _ _).drew).fill (b:=w.heap.size+1) (cs:=#[.slice (some ⟨w.heap.size+2,0,none⟩) 1 1,.int .i64 1,.bool true]) fun _=>rfl) (fun q hq e=>by cases hq; simp at e)
    refine ⟨⟨_,_,_,rfl,⟨_,_,_,rfl⟩,?_⟩,(s4.fill 0 rfl (cs:=#[.slice (some ⟨w.heap.size+2,0,none⟩) 1 1,.int .i64 1,.bool true]) rfl).bel⟩
    rw [e]
    refine ⟨rfl,rfl,hn,fun k hk=>.inr ?_⟩
    have:=slFoot_own hk
    simp only [Value.ownBlock,Option.some.injEq] at this
    omega
   ·have e:numP x o=some ([x],0):=by unfold numP; simp [m1,k1,m2,m3,e0]
    refine bdW_built (cells:=#[.slice (some p) 1 c,.int .i64 0,.bool true]) (by kernel_rfl) ?_
    simp (disch:=first|omega|exact zF rfl|exact zG rfl|exact fun h=>h|(simp only[zA,zB,zC,zD,bytesW];omega)) only[go_sem,r3]
    have s5:=s3.fill 0 rfl (cs:=#[.slice (some p) 1 c,.int .i64 0,.bool true]) rfl
    refine ⟨⟨_,_,_,rfl,⟨_,_,_,rfl⟩,?_⟩,s5.bel⟩
    rw [e]
    exact ⟨rfl,rfl,h.below s5.bel (by decide),fun k hk=>.inl hk⟩
  ·simp (disch:=first|omega|exact zF rfl|exact zG rfl|exact fun h=>h|(simp only[zA,zB,zC,zD,bytesW];omega)) only[go_sem,ho,k1,m1,m2,m3]
   refine c115draw0 ?_
   simp (disch:=first|omega|exact zF rfl|exact zG rfl|exact fun h=>h|(simp only[zA,zB,zC,zD,bytesW];omega)) only[go_sem,c115D0,ep,ho,k1,m1,m2,m3]
   have e:numP x o=none:=by unfold numP; simp [k1,m1,m2,m3]
   refine bdW_built (cells:=#[.slice none 0 0,.int .i64 0,.bool false]) (by kernel_rfl) ?_
   simp (disch:=first|omega|exact zF rfl|exact zG rfl|exact fun h=>h|(simp only[zA,zB,zC,zD,bytesW];omega)) only[go_sem,r3]
   exact ⟨⟨_,_,_,rfl,⟨_,_,_,rfl⟩,by rw [e]⟩,(s3.fill 0 rfl (cs:=#[.slice none 0 0,.int .i64 0,.bool false]) rfl).bel⟩
 by_cases k2:o.Kind=2
 ·by_cases m4:o.Method=4
  ·simp (disch:=first|omega|exact zF rfl|exact zG rfl|exact fun h=>h|(simp only[zA,zB,zC,zD,bytesW];omega)) only[go_sem,ho,k2,m4]
   refine c115draw0 ?_
   simp (disch:=first|omega|exact zF rfl|exact zG rfl|exact fun h=>h|(simp only[zA,zB,zC,zD,bytesW];omega)) only[go_sem,c115D0,ep,ho,k2,m4]
   have e:numP x o=some ([IntKind.i64.wrap (x+1)],0):=by unfold numP; simp [k2,m4]
   refine bsW_ones ty25mkI rfl rfl (by decide) (by decide) (intE_one _) ?_
   simp (disch:=first|omega|exact zF rfl|exact zG rfl|exact fun h=>h|(simp only[zA,zB,zC,zD,bytesW];omega)) only[go_sem]
   refine bdW_built (cells:=#[.slice (some ⟨w.heap.size+2,0,none⟩) 1 1,.int .i64 0,.bool true]) (by kernel_rfl) ?_
   have s4:=s3.alloc' (.cells #[.int .i64 (IntKind.i64.wrap (x+1))] 3)
   have r4:=s4.rules 0 rfl
   simp (disch:=first|omega|exact zF rfl|exact zG rfl|exact fun h=>h|(simp only[zA,zB,zC,zD,bytesW];omega)) only[go_sem,r4]
   have hn:RdS _ 1 intE (.slice (some ⟨w.heap.size+2,0,none⟩) 1 1) [IntKind.i64.wrap (x+1)]:=(int_new (w:=(w.alloc (.cells o.enc.toArray 52)).alloc (.cells #[.slice none 0 0,.int .i64 0,.bool false] 150)) (IntKind.i64.wrap (x+1)) (by simp)).chg (S:=fun k=>k=w.heap.size+1) (((Chg.refl _ _).drew).fill (b:=w.heap.size+1) (cs:=#[.slice (some ⟨w.heap.size+2,0,none⟩) 1 1,.int .i64 0,.bool true]) fun _=>rfl) (fun q hq e=>by cases hq; simp at e)
   refine ⟨⟨_,_,_,rfl,⟨_,_,_,rfl⟩,?_⟩,(s4.fill 0 rfl (cs:=#[.slice (some ⟨w.heap.size+2,0,none⟩) 1 1,.int .i64 0,.bool true]) rfl).bel⟩
   rw [e]
   refine ⟨rfl,rfl,hn,fun k hk=>.inr ?_⟩
   have:=slFoot_own hk
   simp only [Value.ownBlock,Option.some.injEq] at this
   omega
  by_cases m5:o.Method=5
  ·simp (disch:=first|omega|exact zF rfl|exact zG rfl|exact fun h=>h|(simp only[zA,zB,zC,zD,bytesW];omega)) only[go_sem,ho,k2,m5]
   refine c115draw0 ?_
   simp (disch:=first|omega|exact zF rfl|exact zG rfl|exact fun h=>h|(simp only[zA,zB,zC,zD,bytesW];omega)) only[go_sem,c115D0,ep,ho,k2,m5]
   have e:numP x o=some ([IntKind.i64.wrap (x - 1)],0):=by unfold numP; simp [k2,m5]
   refine bsW_ones ty25mkI rfl rfl (by decide) (by decide) (intE_one _) ?_
   simp (disch:=first|omega|exact zF rfl|exact zG rfl|exact fun h=>h|(simp only[zA,zB,zC,zD,bytesW];omega)) only[go_sem]
   refine bdW_built (cells:=#[.slice (some ⟨w.heap.size+2,0,none⟩) 1 1,.int .i64 0,.bool true]) (by kernel_rfl) ?_
   have s4:=s3.alloc' (.cells #[.int .i64 (IntKind.i64.wrap (x - 1))] 3)
   have r4:=s4.rules 0 rfl
   simp (disch:=first|omega|exact zF rfl|exact zG rfl|exact fun h=>h|(simp only[zA,zB,zC,zD,bytesW];omega)) only[go_sem,r4]
   have hn:RdS _ 1 intE (.slice (some ⟨w.heap.size+2,0,none⟩) 1 1) [IntKind.i64.wrap (x - 1)]:=(int_new (w:=(w.alloc (.cells o.enc.toArray 52)).alloc (.cells #[.slice none 0 0,.int .i64 0,.bool false] 150)) (IntKind.i64.wrap (x - 1)) (by simp)).chg (S:=fun k=>k=w.heap.size+1) (((Chg.refl _ _).drew).fill (b:=w.heap.size+1) (cs:=#[.slice (some ⟨w.heap.size+2,0,none⟩) 1 1,.int .i64 0,.bool true]) fun _=>rfl) (fun q hq e=>by cases hq; simp at e)
   refine ⟨⟨_,_,_,rfl,⟨_,_,_,rfl⟩,?_⟩,(s4.fill 0 rfl (cs:=#[.slice (some ⟨w.heap.size+2,0,none⟩) 1 1,.int .i64 0,.bool true]) rfl).bel⟩
   rw [e]
   refine ⟨rfl,rfl,hn,fun k hk=>.inr ?_⟩
   have:=slFoot_own hk
   simp only [Value.ownBlock,Option.some.injEq] at this
   omega
  ·simp (disch:=first|omega|exact zF rfl|exact zG rfl|exact fun h=>h|(simp only[zA,zB,zC,zD,bytesW];omega)) only[go_sem,ho,k2,m1,m4,m5]
   refine c115draw0 ?_
   simp (disch:=first|omega|exact zF rfl|exact zG rfl|exact fun h=>h|(simp only[zA,zB,zC,zD,bytesW];omega)) only[go_sem,c115D0,ep,ho,k2,m1,m4,m5]
   have e:numP x o=none:=by unfold numP; simp [k2,m1,m4,m5]
   refine bdW_built (cells:=#[.slice none 0 0,.int .i64 0,.bool false]) (by kernel_rfl) ?_
   simp (disch:=first|omega|exact zF rfl|exact zG rfl|exact fun h=>h|(simp only[zA,zB,zC,zD,bytesW];omega)) only[go_sem,r3]
   exact ⟨⟨_,_,_,rfl,⟨_,_,_,rfl⟩,by rw [e]⟩,(s3.fill 0 rfl (cs:=#[.slice none 0 0,.int .i64 0,.bool false]) rfl).bel⟩
 ·simp (disch:=first|omega|exact zF rfl|exact zG rfl|exact fun h=>h|(simp only[zA,zB,zC,zD,bytesW];omega)) only[go_sem,ho,k1,k2,m1]
  have e:numP x o=none:=by unfold numP; simp [k1,k2,m1]
  refine c115draw0 ?_
  simp (disch:=first|omega|exact zF rfl|exact zG rfl|exact fun h=>h|(simp only[zA,zB,zC,zD,bytesW];omega)) only[go_sem,c115D0,ep,ho,k1,k2,m1]
  refine bdW_built (cells:=#[.slice none 0 0,.int .i64 0,.bool false]) (by kernel_rfl) ?_
  simp (disch:=first|omega|exact zF rfl|exact zG rfl|exact fun h=>h|(simp only[zA,zB,zC,zD,bytesW];omega)) only[go_sem,r3]
  exact ⟨⟨_,_,_,rfl,⟨_,_,_,rfl⟩,by rw [e]⟩,(s3.fill 0 rfl (cs:=#[.slice none 0 0,.int .i64 0,.bool false]) rfl).bel⟩
open Go Go.Ann Go.RowKit
theorem without_ok(v:Value)(s:List Int)(n:Int)(w:World)(h:RdS w 1 intE v s)(hl:s.length≤1000000) :
  Ret Tryz.prog 116 [v,.int .i64 n] w fun u w'=>w'.ownsRow w.heap.size 3 1 u (s.filter (fun x=>!decide (x=n))).length ((s.filter (fun x=>!decide (x=n))).flatMap intE)∧Below w.heap.size w w':=by
 obtain ⟨a,c,rfl,_⟩:=h.form
 refine ent116 _ _ _ _ ?_
 simp (disch:=first|omega|exact zF rfl|exact zG rfl|exact fun h=>h|(simp only[zA,zB,zC,zD,bytesW];omega)) only[go_sem]
 have s1:=(St.start (W0:=w)).nilRow 3 1
 refine W_loopU (fun x:Nat × Value=>[(5,x.2),(6,.int .i64 x.1)]) (fun x w'=>St w w' (fun _=>False) [.row x.2 3 1 ((s.take x.1).filter (fun x=>!decide (x=n))).length (((s.take x.1).filter (fun x=>!decide (x=n))).flatMap intE)] []∧x.1≤s.length) (fun x=>s.length - x.1) (0,.slice none 0 0) rfl ⟨s1,Nat.zero_le _⟩ ?_
 rintro ⟨k,u⟩ w2 ⟨s2,hk⟩
 simp only at s2 hk
 have hfl:=List.length_filter_le (fun x=>!decide (x=n)) (s.take k)
 rw [List.length_take] at hfl
 obtain ⟨au,cu,rfl,_⟩:=own_slice (s2.row 0 rfl)
 by_cases hlt:k<s.length
 ·have hlt':(k:Int)<s.length:=by omega
  obtain ⟨p,rfl⟩:=h.ptr (by omega)
  have ek:=RdS.int (h.below s2.bel (by decide)) hlt
  simp (disch:=first|omega|exact zF rfl|exact zG rfl|exact fun h=>h|(simp only[zA,zB,zC,zD,bytesW];omega)) only[go_sem,hlt',ek]
  refine ⟨by omega,fun hne=>?_,fun heq=>⟨⟨by omega,by omega⟩,(k+1,.slice au ((s.take k).filter (fun x=>!decide (x=n))).length cu),rfl,⟨?_,by simp only; omega⟩,by simp only; omega⟩⟩
  ·refine ⟨by omega,?_⟩
   refine bsW_ones ty25mkI rfl rfl (by decide) (by decide) (intE_one _) ?_
   simp (disch:=first|omega|exact zF rfl|exact zG rfl|exact fun h=>h|(simp only[zA,zB,zC,zD,bytesW];omega)) only[go_sem]
   have hx:Rd (w2.alloc (.cells #[.int .i64 s[k]] 3)) 1 (.slice (some ⟨w2.heap.size,0,none⟩) 1 1) 1 (intE s[k]):=rd_new (n:=1) (cs:=#[.int .i64 s[k]]) rfl
   refine (s2.alloc' (.cells #[.int .i64 s[k]] 3)).append 0 rfl ty25mkI rfl (by decide) hx (intE_one s[k]) (by omega) (by omega) ?_
   intro v6 w6 s6 c6
   simp only [List.set_cons_zero] at s6
   simp (disch:=first|omega|exact zF rfl|exact zG rfl|exact fun h=>h|(simp only[zA,zB,zC,zD,bytesW];omega)) only[go_sem]
   have e:(s.take (k+1)).filter (fun x=>!decide (x=n))=(s.take k).filter (fun x=>!decide (x=n))++[s[k]]:=by
    rw [List.take_succ_eq_append_getElem hlt,List.filter_append]; simp [hne]
   refine ⟨⟨by omega,by omega⟩,(k+1,v6),rfl,⟨?_,by simp only; omega⟩,by simp only; omega⟩
   simp only
   rw [e,List.length_append,List.flatMap_append]
   simpa using s6
  ·have e:(s.take (k+1)).filter (fun x=>!decide (x=n))=(s.take k).filter (fun x=>!decide (x=n)):=by
    rw [List.take_succ_eq_append_getElem hlt,List.filter_append]; simp [heq]
   simp only
   rw [e]; exact s2
 ·have hlt':¬ (k:Int)<s.length:=by omega
  simp (disch:=first|omega|exact zF rfl|exact zG rfl|exact fun h=>h|(simp only[zA,zB,zC,zD,bytesW];omega)) only[go_sem,hlt']
  have e:=s2.row 0 rfl
  rw [List.take_of_length_le (by omega)] at e ⊢
  exact ⟨e,s2.bel⟩
open Go Go.Ann Go.RowKit Go.Shelf
theorem setCells_blk{g:Nat}{e:TypeId}:∀ (vs mid pre post:List Value) (o:Nat) (w:World),Blk w g (pre++(mid++post)).toArray e→mid.length=vs.length→pre.length=o →
  Blk (w.setCells g o vs) g (pre++(vs++post)).toArray e∧Chg (fun k=>k=g) w (w.setCells g o vs)
 | [],[],pre,post,o,w,h,_,_=>⟨h,Chg.refl _ _⟩
 | [],_::_,pre,post,o,w,h,hl,_=>by simp at hl
 | _::_,[],pre,post,o,w,h,hl,_=>by simp at hl
 | v::vs,m::mid,pre,post,o,w,h,hl,ho=>by
  have h1:Blk (w.setCell ⟨g,o,none⟩ v) g ((pre++[v])++(mid++post)).toArray e:=by
   have:=h.set o v
   rw [List.setIfInBounds_toArray,List.set_append_right _ _ (by omega),ho,Nat.sub_self] at this
   simpa using this
  obtain ⟨h2,h3⟩:=setCells_blk vs mid (pre++[v]) post (o+1) _ h1 (by simpa using hl) (by simp [ho])
  refine ⟨by simpa [World.setCells] using h2,?_⟩
  simp only [World.setCells]
  exact Chg.trans ((Chg.refl (fun k=>k=g) w).setCell ⟨g,o,none⟩ v (fun _=>rfl)) h3
theorem intE_map(s:List Int):s.flatMap intE=s.map (Value.int .i64):=by
 induction s with
 | nil=>rfl
 | cons x s ih=>rw [List.flatMap_cons,ih]; rfl
theorem rd_of_blk{w:World}{g cap:Nat}{s:List Int}{rest:List Value}{t:TypeId}(hB:Blk w g (s.map (Value.int .i64)++rest).toArray t)(hc:s.length≤cap){n:Nat}(hn:n=s.length):RdS w 1 intE (.slice (some ⟨g,0,none⟩) n cap) s:=by
 subst hn
 refine ⟨by rw [intE_map]; simp,_,cap,rfl,hc,fun _=>⟨_,rfl,fun j u hu=>?_⟩⟩
 rw [intE_map] at hu
 rw [Addr.add_lit,Nat.zero_add,hB.cell,List.getElem?_toArray,List.getElem?_append_left (by have:=(List.getElem?_eq_some_iff.1 hu).1; exact this)]
 exact hu
theorem arr_app(l:List Value)(A:Array Value):l.toArray++A=(l++A.toList).toArray:=by apply Array.ext'; simp
theorem blk_new{w:World}{cs:Array Value}{t:TypeId}{l:List Value}{b:Nat}(hb:b=w.heap.size)(e:cs.toList=l):Blk (w.alloc (.cells cs t)) b l.toArray t:=by subst hb e; exact Blk.new
theorem zeroC_len(n:Nat):(Builtin.zeroCells (Value.int .i64 0).cells n).toList.length=n:=by
 simp [Builtin.zeroCells,Value.cells]
theorem ins_ok(v:Value)(s:List Int)(i:Nat)(x:Int)(b:Nat)(w:World)(B:Nat)(hB:B≤w.heap.size)(h:w.ownsRow B 3 1 v s.length (s.flatMap intE))(hx:Blk w b #[.int .i64 x] 3)(hne:v.ownBlock≠some b)(hi:i≤s.length)(hl:s.length≤1000000) :
  Ret Tryz.prog 120 [v,.int .i64 i,.slice (some ⟨b,0,none⟩) 1 1] w fun u w'=>RdS w' 1 intE u (s.take i++x::s.drop i)∧(∀ k,slFoot u k→v.ownBlock=some k∨w.heap.size≤k)∧Chg (fun k=>v.ownBlock=some k) w w':=by
 have h1v:∀ u∈[Value.int .i64 x],u.oneCell'=true:=by intro u hu; rw [List.mem_singleton] at hu; subst hu; rfl
 have hvs:∀ j u,[Value.int .i64 x][j]?=some u→w.cell? ⟨b,0+j,none⟩=some u:=fun j u hj=>by rw [Nat.zero_add,hx.cell]; simpa using hj
 have hcl:(s.map (Value.int .i64)).length=s.length:=by simp
 have h1c:∀ u∈s.map (Value.int .i64),u.oneCell'=true:=fun u hu=>by obtain ⟨y,_,rfl⟩:=List.mem_map.1 hu; rfl
 have hlen:(s.take i++x::s.drop i).length=s.length+1:=by simp; omega
 rw [intE_map] at h
 rcases h.2 with ⟨rfl,h0⟩ | ⟨g,c,cur,rfl,hg,hb,hnc,hcm,hcs,htk⟩
 ·have hs:s=[]:=List.eq_nil_of_length_eq_zero h0
  subst hs
  obtain rfl:i=0:=by simpa using hi
  have:=Any2.slices_Insert_int_end_grow layIns none 0 0 b 0 1 1 [] [.int .i64 x] w (by omega) (by omega) (by omega) (by omega) rfl rfl (fun _=>rfl) (fun a ha=>by cases ha) hvs h1v
  refine this.mono ?_
  rintro e w' ⟨rfl,rfl⟩
  refine ⟨_,rfl,rd_of_blk (s:=[x]) (rest:=(Builtin.zeroCells (Value.int .i64 0).cells (grownCap w (0+1) 0 3 - (0+1))).toList) (t:=3) ?_ (by simpa using grownCap_ge w (0+1) 0 _) rfl,fun k hk=>.inr ?_,Chg.of_below ((Below.refl _ w).drew.alloc (Nat.le_refl _) _)⟩
  ·exact blk_new rfl (by rw [arr_app]; rfl)
  ·have:=slFoot_own hk
   simp only [Value.ownBlock,Option.some.injEq] at this
   omega
 ·have hlt:g<w.heap.size:=Blk.lt hb
  have hgb:b≠g:=fun e=>hne (by rw [e]; rfl)
  simp only [Nat.mul_one] at hcs htk
  have hcur:cur=(s.map (Value.int .i64)++cur.toList.drop s.length).toArray:=by
   apply Array.ext'
   rw [List.toList_toArray,← htk,List.take_append_drop]
  obtain ⟨tl,htl⟩:∃ tl,tl=cur.toList.drop s.length:=⟨_,rfl⟩
  rw [← htl] at hcur
  have htll:tl.length=c - s.length:=by rw [htl,List.length_drop,Array.length_toList,hcs]
  have hbb:Blk w g (s.map (Value.int .i64)++tl).toArray 3:=by rw [← hcur]; exact hb
  have hmax:c≤9223372036854775807:=hcm
  have hcells:∀ j u,(s.map (Value.int .i64))[j]?=some u→w.cell? ⟨g,0+j,none⟩=some u:=fun j u hj=>by
   rw [Nat.zero_add,hbb.cell,List.getElem?_toArray,List.getElem?_append_left (List.getElem?_eq_some_iff.1 hj).1]; exact hj
  have hsome:∀ j,j<c→(w.cell? ⟨g,0+j,none⟩).isSome=true:=fun j hj=>by
   rw [Nat.zero_add,hbb.cell,List.getElem?_toArray,List.getElem?_eq_getElem (by simp; omega)]; rfl
  have hfz:∀ j,w.frozen? ⟨g,j,none⟩=false:=hbb.frozen
  have own:∀ {k n c'},slFoot (.slice (some ⟨g,0,none⟩) n c') k→(Value.slice (some ⟨g,0,none⟩) s.length c).ownBlock=some k∨w.heap.size≤k:=fun hk=>.inl (by have:=slFoot_own hk; simpa [Value.ownBlock] using this)
  have new:∀ {k n c'},slFoot (.slice (some ⟨w.heap.size,0,none⟩) n c') k→(Value.slice (some ⟨g,0,none⟩) s.length c).ownBlock=some k∨w.heap.size≤k:=fun hk=>.inr (by have:=slFoot_own hk; simp only [Value.ownBlock,Option.some.injEq] at this; omega)
  have chgo:∀ {w':World},Chg (fun k=>k=g) w w'→Chg (fun k=>(Value.slice (some ⟨g,0,none⟩) s.length c).ownBlock=some k) w w':=fun hc=>⟨hc.os,hc.tape,hc.output,hc.size,fun k hk hS=>hc.block k hk fun e=>hS (by rw [e]; rfl)⟩
  rcases Nat.lt_or_ge i s.length with hin | hin
  ·have e1:s.map (Value.int .i64)=(s.take i).map (Value.int .i64)++(s.drop i).map (Value.int .i64):=by rw [← List.map_append,List.take_append_drop]
   rcases Nat.lt_or_ge c (s.length+1) with hroom | hroom
   ·have:=Any2.slices_Insert_int_grow layIns g 0 s.length c i b 0 1 1 (s.map (Value.int .i64)) [.int .i64 x] w hin (by omega) hnc hroom (by omega) hcl rfl hcells hvs h1c h1v
    refine this.mono ?_
    rintro e w' ⟨rfl,rfl⟩
    obtain ⟨G,hG⟩:∃ G,G=grownCap w (s.length+1) c 3:=⟨_,rfl⟩
    have hGe:s.length+1≤G:=by rw [hG]; exact grownCap_ge w (s.length+1) c _
    obtain ⟨Z1,hZ1⟩:∃ Z,Z=(Builtin.zeroCells (Value.int .i64 0).cells (s.length+1 - i)).toList:=⟨_,rfl⟩
    obtain ⟨Z2,hZ2⟩:∃ Z,Z=(Builtin.zeroCells (Value.int .i64 0).cells (G - (s.length+1))).toList:=⟨_,rfl⟩
    have lz1:Z1.length=s.length+1 - i:=by rw [hZ1]; exact zeroC_len _
    obtain ⟨z,Z1',rfl⟩:∃ z Z,Z1=z::Z:=by
     cases Z1 with
     | nil=>simp at lz1; omega
     | cons z Z=>exact ⟨z,Z,rfl⟩
    have b0:Blk (w.alloc (.cells (((s.map (Value.int .i64)).take i).toArray++Builtin.zeroCells (Value.int .i64 0).cells (s.length+1 - i)++Builtin.zeroCells (Value.int .i64 0).cells (G - (s.length+1))) 3)) w.heap.size ((s.take i).map (Value.int .i64)++([z]++(Z1'++Z2))).toArray 3:=by
     refine blk_new rfl ?_
     rw [arr_app,arr_app,← hZ1,← hZ2,← List.map_take]
     simp
    have hlen1:((s.take i).map (Value.int .i64)).length=i:=by simp; omega
    obtain ⟨b1,c1⟩:=setCells_blk [Value.int .i64 x] [z] ((s.take i).map (Value.int .i64)) (Z1'++Z2) i _ b0.drew rfl hlen1
    have b1':=b1
    rw [← List.append_assoc] at b1'
    obtain ⟨b2,c2⟩:=setCells_blk ((s.drop i).map (Value.int .i64)) Z1' ((s.take i).map (Value.int .i64)++[Value.int .i64 x]) Z2 (i+1) _ b1'.drew (by simp at lz1 ⊢; omega) (by simp; omega)
    rw [← List.map_drop,show layIns_ren.t 3=3 from rfl]
    refine ⟨_,rfl,rd_of_blk (s:=s.take i++x::s.drop i) (rest:=Z2) (t:=3) (by rw [← hG]; simpa using b2) (by rw [hlen]; exact grownCap_ge w (s.length+1) c _) hlen.symm,fun k hk=>new hk,?_⟩
    rw [← hG]
    have hdr:∀ {S:Nat→Prop} {a:World},Chg S a a.drew:=fun {S a}=>(Chg.refl S a).drew
    have cc:Chg (fun k=>k=w.heap.size) (w.alloc (.cells (((s.map (Value.int .i64)).take i).toArray++Builtin.zeroCells (Value.int .i64 0).cells (s.length+1 - i)++Builtin.zeroCells (Value.int .i64 0).cells (G - (s.length+1))) 3)) _:=hdr.trans (c1.trans (hdr.trans c2))
    exact Chg.of_below (((Below.refl _ w).alloc (Nat.le_refl _) _).trans (cc.below (by simp) fun k hk e=>by omega))
   ·have hmid:∃ t0 tl',tl=t0::tl':=by
     cases tl with
     | nil=>simp at htll; omega
     | cons t0 tl'=>exact ⟨t0,tl',rfl⟩
    obtain ⟨t0,tl',rfl⟩:=hmid
    have hshA:w.shape? b=some (3,1):=by unfold World.shape?; rw [hx]; rfl
    have hshB:w.shape? g=some (3,cur.size):=by unfold World.shape?; rw [hb]
    have:=Any2.slices_Insert_int_shift layIns g 0 s.length c i b 0 1 1 (s.map (Value.int .i64)) [.int .i64 x] w hin (by omega) hroom hmax hgb hcl rfl hcells (fun j hj=>hsome j (by omega)) (fun j _=>hfz _) hvs h1c h1v _ _ _ _ hshA hshB (by omega) (hx.frozen 0) (hx.frozen 1)
    refine this.mono ?_
    rintro e w' ⟨rfl,rfl⟩
    have hdi:(s.drop i).map (Value.int .i64)=Value.int .i64 s[i]::(s.drop (i+1)).map (Value.int .i64):=by rw [List.drop_eq_getElem_cons hin]; rfl
    have b0:Blk w g (((s.take i).map (Value.int .i64)++[Value.int .i64 s[i]])++(((s.drop (i+1)).map (Value.int .i64)++[t0])++tl')).toArray 3:=by
     have:=hbb
     rw [e1,hdi] at this
     simpa using this
    obtain ⟨b1,c1⟩:=setCells_blk ((s.drop i).map (Value.int .i64)) _ _ _ (i+1) _ b0.drew (by simp; omega) (by simp; omega)
    have b1':Blk (w.drew.setCells g (i+1) ((s.drop i).map (Value.int .i64))) g ((s.take i).map (Value.int .i64)++([Value.int .i64 s[i]]++((s.drop i).map (Value.int .i64)++tl'))).toArray 3:=by simpa using b1
    obtain ⟨b2,c2⟩:=setCells_blk [Value.int .i64 x] _ _ _ i _ b1' rfl (by simp; omega)
    rw [← List.map_drop,Nat.zero_add,Nat.zero_add]
    refine ⟨_,rfl,rd_of_blk (s:=s.take i++x::s.drop i) (rest:=tl') (t:=3) (by simpa using b2) (by rw [hlen]; exact hroom) hlen.symm,fun k hk=>own hk,chgo ((Chg.refl _ w).drew.trans (c1.trans c2))⟩
  ·obtain rfl:i=s.length:=by omega
   have e2:s.take s.length++x::s.drop s.length=s++[x]:=by rw [List.take_length,List.drop_length]
   rw [e2] at hlen ⊢
   rcases Nat.lt_or_ge c (s.length+1) with hroom | hroom
   ·have:=Any2.slices_Insert_int_end_grow layIns (some ⟨g,0,none⟩) s.length c b 0 1 1 (s.map (Value.int .i64)) [.int .i64 x] w (by omega) hnc hroom (by omega) hcl rfl (fun h=>by cases h) (fun a ha j u hj=>by cases ha; rw [Addr.add_lit]; exact hcells j u hj) hvs h1v
    refine this.mono ?_
    rintro e w' ⟨rfl,rfl⟩
    refine ⟨_,rfl,rd_of_blk (s:=s++[x]) (rest:=(Builtin.zeroCells (Value.int .i64 0).cells (grownCap w (s.length+1) c 3 - (s.length+1))).toList) (t:=3) ?_ (by rw [hlen]; exact grownCap_ge w (s.length+1) c _) hlen.symm,fun k hk=>new hk,Chg.of_below ((Below.refl _ w).drew.alloc (Nat.le_refl _) _)⟩
    refine blk_new rfl ?_
    rw [arr_app,List.map_append]; rfl
   ·have hmid:∃ t0 tl',tl=t0::tl':=by
     cases tl with
     | nil=>simp at htll; omega
     | cons t0 tl'=>exact ⟨t0,tl',rfl⟩
    obtain ⟨t0,tl',rfl⟩:=hmid
    have:=Any2.slices_Insert_int_end_room layIns g 0 s.length c b 0 1 1 [.int .i64 x] w (by omega) hroom hmax rfl (fun j hj=>by have:=hsome (s.length+j) (by omega); rwa [← Nat.add_assoc] at this) (fun j _=>hfz _) hvs h1v
    refine this.mono ?_
    rintro e w' ⟨rfl,rfl⟩
    obtain ⟨b1,c1⟩:=setCells_blk [Value.int .i64 x] [t0] (s.map (Value.int .i64)) tl' s.length w hbb rfl (by simp)
    rw [Nat.zero_add]
    refine ⟨_,rfl,rd_of_blk (s:=s++[x]) (rest:=tl') (t:=3) (by rw [List.map_append]; simpa using b1) (by rw [hlen]; exact hroom) hlen.symm,fun k hk=>own hk,chgo c1⟩
open Go Go.Ann Go.RowKit Go.Shelf
def insP(s:List Int)(x:Int):List Int:=s.take (s.countP (·<x))++x::s.drop (s.countP (·<x))
def delP(s:List Int)(x:Int):List Int:=s.filter (fun y=>!decide (y=x))
def setP(s:List Int)(o:OpT):Option (List Int × Int) :=
 if o.Method=12 then some (s,if o.Arg∈s then 1 else 0)
 else if o.Method=10 then (if o.Arg∈s then some (s,0) else some (insP s o.Arg,1))
 else if o.Method=11 then (if o.Arg∈s then some (delP s o.Arg,1) else some (s,0))
 else none
theorem count_zero{x y:Int}{r:List Int}(h:∀ a∈r,y<a)(hx:x≤y):r.countP (·<x)=0:=by
 rw [List.countP_eq_zero]
 intro a ha
 have:=h a ha
 simp; omega
theorem insP_cons_lt{y x:Int}{r:List Int}(h:y<x):insP (y::r) x=y::insP r x:=by
 unfold insP
 rw [List.countP_cons_of_pos (by simpa using h)]
 rfl
theorem insP_cons_ge{y x:Int}{r:List Int}(hs:∀ a∈r,y<a)(h:x≤y):insP (y::r) x=x::y::r:=by
 unfold insP
 rw [List.countP_cons_of_neg (by simp; omega),count_zero hs h]
 rfl
theorem insP_mem{x a:Int}{s:List Int}:a∈insP s x↔a=x∨a∈s:=by
 unfold insP
 rw [List.mem_append,List.mem_cons]
 have:a∈s↔a∈s.take (s.countP (·<x))∨a∈s.drop (s.countP (·<x)):=by rw [← List.mem_append,List.take_append_drop]
 rw [this]
 constructor
 ·rintro (h | h | h)
  ·exact .inr (.inl h)
  ·exact .inl h
  ·exact .inr (.inr h)
 ·rintro (h | h | h)
  ·exact .inr (.inl h)
  ·exact .inl h
  ·exact .inr (.inr h)
theorem insP_sorted{x:Int}:∀ {s:List Int},s.Pairwise (· < ·)→x ∉ s→(insP s x).Pairwise (· < ·)
 | [],_,_=>by simp [insP]
 | y::r,hs,hx=>by
  obtain ⟨h1,h2⟩:=List.pairwise_cons.1 hs
  have hne:x≠y:=fun e=>hx (by rw [e]; exact List.mem_cons_self ..)
  rcases Int.lt_or_le y x with h | h
  ·rw [insP_cons_lt h]
   refine List.pairwise_cons.2 ⟨fun a ha=>?_,insP_sorted h2 fun hm=>hx (List.mem_cons_of_mem _ hm)⟩
   rcases insP_mem.1 ha with e | ha
   ·omega
   ·exact h1 a ha
  ·rw [insP_cons_ge h1 h]
   refine List.pairwise_cons.2 ⟨fun a ha=>?_,hs⟩
   rcases List.mem_cons.1 ha with e | ha
   ·omega
   ·have:=h1 a ha; omega
theorem delP_sorted{x:Int}{s:List Int}(hs:s.Pairwise (· < ·)):(delP s x).Pairwise (· < ·):=hs.filter _
theorem delP_cut{x:Int}:∀ {s:List Int},s.Pairwise (· < ·)→x∈s→s.countP (·<x)<s.length∧s.take (s.countP (·<x))++s.drop (s.countP (·<x)+1)=delP s x
 | y::r,hs,hx=>by
  obtain ⟨h1,h2⟩:=List.pairwise_cons.1 hs
  rcases Int.lt_or_le y x with h | h
  ·have hr:x∈r:=by
    rcases List.mem_cons.1 hx with e | e
    ·omega
    ·exact e
   obtain ⟨i1,i2⟩:=delP_cut h2 hr
   rw [List.countP_cons_of_pos (by simpa using h)]
   refine ⟨by simp; omega,?_⟩
   rw [List.take_succ_cons,List.drop_succ_cons,List.cons_append,i2]
   unfold delP
   rw [List.filter_cons_of_pos (by simp; omega)]
  ·have e:x=y:=by
    rcases List.mem_cons.1 hx with e | e
    ·exact e
    ·have:=h1 x e; omega
   subst e
   rw [List.countP_cons_of_neg (by simp),count_zero h1 (Int.le_refl _)]
   refine ⟨by simp,?_⟩
   unfold delP
   rw [List.filter_cons_of_neg (by simp),List.take_zero,List.nil_append,List.drop_succ_cons,List.drop_zero]
   exact (List.filter_eq_self.2 fun a ha=>by have:=h1 a ha; simp; omega).symm
theorem flag_ok(b:Bool)(w:World):Ret Tryz.prog 119 [.bool b] w fun u w'=>u=.int .i64 (if b=true then 1 else 0)∧w'=w:=by
 refine ent119 _ _ _ ?_
 cases b
 ·simp (disch:=first|omega|exact zF rfl|exact zG rfl|exact fun h=>h|(simp only[zA,zB,zC,zD,bytesW];omega)) only[go_sem]
 ·simp (disch:=first|omega|exact zF rfl|exact zG rfl|exact fun h=>h|(simp only[zA,zB,zC,zD,bytesW];omega)) only[go_sem]
theorem own_blk{w:World}{B n:Nat}{v:Value}{s:List Int}(h:w.ownsRow B 3 1 v n (s.flatMap intE))(h0:0<n):∃ g cap rest,v=.slice (some ⟨g,0,none⟩) n cap∧n≤cap∧cap≤9223372036854775807∧B≤g∧Blk w g (s.map (Value.int .i64)++rest).toArray 3:=by
 rcases h.2 with ⟨rfl,h1⟩ | ⟨g,c,cur,rfl,hg,hb,hnc,hcm,hcs,htk⟩
 ·omega
 ·rw [intE_map,Nat.mul_one] at htk
  refine ⟨g,c,cur.toList.drop n,rfl,hnc,hcm,hg,?_⟩
  rw [← htk,List.take_append_drop]; exact hb
theorem set_ok(v:Value)(s:List Int)(o:OpT)(w:World)(B:Nat)(hB:B≤w.heap.size)(h:w.ownsRow B 3 1 v s.length (s.flatMap intE))(hl:s.length≤1000000)(hs:s.Pairwise (· < ·)) :
  Ret Tryz.prog 98 [v,.agg o.enc.toArray] w fun u w'=>StepR w w' v (setP s o) u∧Chg (fun k=>v.ownBlock=some k) w w':=by
 obtain ⟨a,c,rfl,_⟩:=own_slice h
 refine ent98 _ _ _ _ ?_
 have ho:=o.at
 have hw1:Below w.heap.size w (w.alloc (.cells o.enc.toArray 52)):=(Below.refl _ w).alloc (Nat.le_refl _) _
 have hr:RdS w 1 intE (.slice a s.length c) s:=RdS.of_own' h s rfl rfl
 have hsp:∀ a' n c',Value.slice a s.length c=.slice (some a') n c'→n≠0→a'.spot=none:=fun a' n c' e hn=>by
  cases e
  obtain ⟨g,cap,rest,e,_⟩:=own_blk h (by omega)
  cases e; rfl
 simp (disch:=first|omega|exact zF rfl|exact zG rfl|exact fun h=>h|(simp only[zA,zB,zC,zD,bytesW];omega)) only[go_sem,ho]
 refine Ret.mono (bsearch_ok _ s o.Arg _ (hr.below hw1 (by decide)) hsp hl (hs.imp fun h=>Int.le_of_lt h)) ?_
 rintro _ w2 ⟨rfl,b2⟩
 have bb:=Below.next hw1 b2
 have cb:∀ {S:Nat→Prop},Chg S w w2:=Chg.of_below bb
 have hB2:Blk w2 w.heap.size o.enc.toArray 52:=Blk.new.below b2 Blk.new.lt
 have r2:=hB2.rules
 have same:∀ {n:Int} {b:Bool},setP s o=some (s,n)→StepR w w2 (.slice a s.length c) (setP s o) (.tuple #[.slice a s.length c,.int .i64 n,.bool true]):=fun e=>⟨_,_,_,rfl,by
  rw [e]; exact ⟨rfl,rfl,hr.below bb (by decide),fun k hk=>.inl (slFoot_own hk)⟩⟩
 have hcle:=List.countP_le_length (p:=fun y:Int=>decide (y<o.Arg)) (l:=s)
 have own2:=(cb (S:=fun _=>False)).own h fun _ _ h=>h
 by_cases m12:o.Method=12
 ·cases hin:s.contains o.Arg with
  | true =>
   have e:setP s o=some (s,1):=by unfold setP; rw [if_pos m12,if_pos (by simpa using hin)]
   simp (disch:=first|omega|exact zF rfl|exact zG rfl|exact fun h=>h|(simp only[zA,zB,zC,zD,bytesW];omega)) only[go_sem,c98S5,r2,ho,m12]
   refine Ret.mono (flag_ok _ _) ?_
   rintro _ _ ⟨rfl,rfl⟩
   simp (disch:=first|omega|exact zF rfl|exact zG rfl|exact fun h=>h|(simp only[zA,zB,zC,zD,bytesW];omega)) only[go_sem,c98S5]
   exact ⟨same (b:=true) e,cb⟩
  | false =>
   have e:setP s o=some (s,0):=by unfold setP; rw [if_pos m12,if_neg (by simpa using hin)]
   simp (disch:=first|omega|exact zF rfl|exact zG rfl|exact fun h=>h|(simp only[zA,zB,zC,zD,bytesW];omega)) only[go_sem,c98S5,r2,ho,m12]
   refine Ret.mono (flag_ok _ _) ?_
   rintro _ _ ⟨rfl,rfl⟩
   simp (disch:=first|omega|exact zF rfl|exact zG rfl|exact fun h=>h|(simp only[zA,zB,zC,zD,bytesW];omega)) only[go_sem,c98S5]
   exact ⟨same (b:=true) e,cb⟩
 by_cases m10:o.Method=10
 ·cases hin:s.contains o.Arg with
  | true =>
   have e:setP s o=some (s,0):=by unfold setP; rw [if_neg m12,if_pos m10,if_pos (by simpa using hin)]
   simp (disch:=first|omega|exact zF rfl|exact zG rfl|exact fun h=>h|(simp only[zA,zB,zC,zD,bytesW];omega)) only[go_sem,c98S5,r2,ho,m10]
   refine Ret.mono (flag_ok _ _) ?_
   rintro _ _ ⟨rfl,rfl⟩
   simp (disch:=first|omega|exact zF rfl|exact zG rfl|exact fun h=>h|(simp only[zA,zB,zC,zD,bytesW];omega)) only[go_sem,c98S5]
   exact ⟨same (b:=true) e,cb⟩
  | false =>
   have e:setP s o=some (insP s o.Arg,1):=by unfold setP; rw [if_neg m12,if_pos m10,if_neg (by simpa using hin)]
   simp (disch:=first|omega|exact zF rfl|exact zG rfl|exact fun h=>h|(simp only[zA,zB,zC,zD,bytesW];omega)) only[go_sem,c98S5,r2,ho,m10]
   refine bsW_ones ty25mkI rfl rfl (by decide) (by decide) (intE_one _) ?_
   simp (disch:=first|omega|exact zF rfl|exact zG rfl|exact fun h=>h|(simp only[zA,zB,zC,zD,bytesW];omega)) only[go_sem,c98S5]
   have b3:=(Below.refl w2.heap.size w2).alloc (Nat.le_refl _) (.cells #[.int .i64 o.Arg] 3)
   have own3:=(Chg.of_below (S:=fun _=>False) b3).own own2 fun _ _ h=>h
   have hsz:=b2.size
   have hsz1:=bb.size
   refine .inl ⟨by kernel_rfl,Ret.mono (ins_ok _ s (s.countP (·<o.Arg)) o.Arg w2.heap.size _ B (by simp; omega) own3 Blk.new (fun e=>?_) hcle hl) ?_⟩
   ·have:=World.ownsRow.lt h _ e
    omega
   rintro u w4 ⟨h4,f4,c4⟩
   simp (disch:=first|omega|exact zF rfl|exact zG rfl|exact fun h=>h|(simp only[zA,zB,zC,zD,bytesW];omega)) only[go_sem,c98S5]
   refine ⟨⟨_,_,_,rfl,?_⟩,(cb.trans (Chg.of_below b3)).trans c4⟩
   rw [e]
   refine ⟨rfl,rfl,h4,fun k hk=>(f4 k hk).imp id fun h=>?_⟩
   simp only [World.size_alloc] at h
   omega
 by_cases m11:o.Method=11
 ·cases hin:s.contains o.Arg with
  | true =>
   have hmem:o.Arg∈s:=by simpa using hin
   have e:setP s o=some (delP s o.Arg,1):=by unfold setP; rw [if_neg m12,if_neg m10,if_pos m11,if_pos hmem]
   obtain ⟨d1,d2⟩:=delP_cut hs hmem
   simp (disch:=first|omega|exact zF rfl|exact zG rfl|exact fun h=>h|(simp only[zA,zB,zC,zD,bytesW];omega)) only[go_sem,c98S5,r2,ho,m11]
   obtain ⟨g,cap,rest,e1,hnc,hcm,hg,hblk⟩:=own_blk own2 (by omega)
   cases e1
   refine ⟨⟨by omega,by omega⟩,.inl ⟨by kernel_rfl,Ret.mono (delete_ok g c (s.countP (·<o.Arg)) s rest w2 hblk hnc hcm d1) ?_⟩⟩
   rintro _ w4 ⟨rfl,⟨rest',h4⟩,c4⟩
   simp (disch:=first|omega|exact zF rfl|exact zG rfl|exact fun h=>h|(simp only[zA,zB,zC,zD,bytesW];omega)) only[go_sem,c98S5]
   rw [d2] at h4
   have hlen:s.length - 1=(delP s o.Arg).length:=by rw [← d2]; simp; omega
   refine ⟨⟨_,_,_,rfl,?_⟩,cb.trans ⟨c4.os,c4.tape,c4.output,c4.size,fun k hk hS=>c4.block k hk fun e=>hS (by rw [e]; rfl)⟩⟩
   rw [e]
   exact ⟨rfl,rfl,rd_of_blk h4 (by omega) hlen,fun k hk=>.inl (by have:=slFoot_own hk; exact this)⟩
  | false =>
   have e:setP s o=some (s,0):=by unfold setP; rw [if_neg m12,if_neg m10,if_pos m11,if_neg (by simpa using hin)]
   simp (disch:=first|omega|exact zF rfl|exact zG rfl|exact fun h=>h|(simp only[zA,zB,zC,zD,bytesW];omega)) only[go_sem,c98S5,r2,ho,m11]
   refine Ret.mono (flag_ok _ _) ?_
   rintro _ _ ⟨rfl,rfl⟩
   simp (disch:=first|omega|exact zF rfl|exact zG rfl|exact fun h=>h|(simp only[zA,zB,zC,zD,bytesW];omega)) only[go_sem,c98S5]
   exact ⟨same (b:=true) e,cb⟩
 ·have e:setP s o=none:=by unfold setP; rw [if_neg m12,if_neg m10,if_neg m11]
  cases hin:s.contains o.Arg
  all_goals
   simp (disch:=first|omega|exact zF rfl|exact zG rfl|exact fun h=>h|(simp only[zA,zB,zC,zD,bytesW];omega)) only[go_sem,c98S5,r2,ho,m10,m11,m12]
   exact ⟨⟨_,_,_,rfl,by rw [e]⟩,cb⟩
open Go Go.Ann Go.RowKit Go.Shelf
def numL(s:List Int)(o:OpT):Option (List Int × Int):=match s with | [x]=>numP x o | _=>none
theorem numL_not{s:List Int}{o:OpT}(h:∀ x,s=[x]→False):numL s o=none:=by
 unfold numL
 split
 ·exact absurd rfl (h _)
 ·rfl
def doP(s:List Int)(o:OpT):Option (List Int × Int) :=
 if o.Kind=1∨o.Kind=2 then numL s o
 else if o.Kind=3∨o.Kind=4 then listP s o
 else if o.Kind=5 then setP s o
 else if o.Kind=6 then (if o.Method=13∧s=[] then some ([o.Proc],0) else if o.Method=14∧s=[o.Proc] then some ([],0) else none)
 else none
def stepP(s:List Int)(o:OpT):Option (List Int) :=
 match doP s o with
 | some (t,n)=>if o.Done=true∧n≠o.Result then none else some t
 | none=>none
def StepF(w w':World)(r:Option (List Int × Int))(t:Value):Prop :=
 ∃ u a ok,t=.tuple #[u,.int .i64 a,.bool ok]∧match r with
  | none=>ok=false
  | some (s,n)=>ok=true∧a=n∧RdS w' 1 intE u s∧∀ k,slFoot u k→w.heap.size≤k
theorem StepR.fresh{w w2 w3:World}{v t:Value}{r:Option (List Int × Int)}(h:StepR w2 w3 v r t)(hv:∀ k,v.ownBlock=some k→w.heap.size≤k)(hs:w.heap.size≤w2.heap.size):StepF w w3 r t:=by
 obtain ⟨u,a,ok,e,hm⟩:=h
 refine ⟨u,a,ok,e,?_⟩
 cases r with
 | none=>exact hm
 | some p =>
  obtain ⟨s,n⟩:=p
  obtain ⟨h1,h2,h3,h4⟩:=hm
  exact ⟨h1,h2,h3,fun k hk=>(h4 k hk).elim (hv k) fun h=>Nat.le_trans hs h⟩
theorem do_ok(v:Value)(s:List Int)(o:OpT)(w:World)(h:RdS w 1 intE v s)(hl:s.length≤1000000)(hs:o.Kind=5→s.Pairwise (· < ·)) :
  Ret Tryz.prog 73 [v,.agg o.enc.toArray] w fun u w'=>StepF w w' (doP s o) u∧Below w.heap.size w w':=by
 refine ent73 _ _ _ _ ?_
 have ho:=o.at
 have hw1:Below w.heap.size w (w.alloc (.cells o.enc.toArray 52)):=(Below.refl _ w).alloc (Nat.le_refl _) _
 simp (disch:=first|omega|exact zF rfl|exact zG rfl|exact fun h=>h|(simp only[zA,zB,zC,zD,bytesW];omega)) only[go_sem]
 refine Ret.mono (iclone_ok v s _ (h.below hw1 (by decide)) hl) ?_
 rintro u w2 ⟨own2,b2⟩
 have bb:=Below.next hw1 b2
 have hB2:Blk w2 w.heap.size o.enc.toArray 52:=Blk.new.below b2 Blk.new.lt
 have r2:=hB2.rules
 have hl11:okSize o.enc.toArray 11=true:=rfl
 obtain ⟨a,c,rfl,hac⟩:=own_slice own2
 have rd2:RdS w2 1 intE (.slice a s.length c) s:=RdS.of_own' own2 s rfl rfl
 have lt2:∀ k,(Value.slice a s.length c).ownBlock=some k→w.heap.size≤k:=fun k hk=>by
  have:=(World.ownsRow.lt own2 k hk).1
  simp only [World.size_alloc] at this; omega
 have hsz1:w.heap.size+1≤w2.heap.size:=by have:=b2.size; simpa using this
 have chg:∀ {w':World},Chg (fun k=>(Value.slice a s.length c).ownBlock=some k) w2 w'→Below w.heap.size w w':=fun hc=>bb.trans (hc.below bb.size fun k hk e=>by have:=lt2 k e; omega)
 have bad:∀ {u:Value} {n:Int},doP s o=none→StepF w w2 (doP s o) (.tuple #[u,.int .i64 n,.bool false]):=fun e=>⟨_,_,_,rfl,by rw [e]⟩
 have number:o.Kind=1∨o.Kind=2→(∀ x,s=[x]→False)∨∃ x,s=[x]:=fun _=>by
  cases s with
  | nil=>exact .inl fun x e=>by cases e
  | cons x r=>cases r with
   | nil=>exact .inr ⟨x,rfl⟩
   | cons y r=>exact .inl fun x e=>by cases e
 have hd1:o.Kind=1∨o.Kind=2→doP s o=numL s o:=fun e=>by unfold doP; rw [if_pos e]
 by_cases k1:o.Kind=1
 ·simp (disch:=first|omega|exact zF rfl|exact zG rfl|exact fun h=>h|(simp only[zA,zB,zC,zD,bytesW];omega)) only[go_sem,c73S8,r2,ho,k1]
  rcases number (.inl k1) with hn | ⟨x,rfl⟩
  ·have hne:(s.length:Int)≠1:=fun e=>by
    obtain ⟨x,hx⟩:=List.length_eq_one_iff.1 (show s.length=1 by omega)
    exact hn x hx
   refine ⟨fun _=>⟨bad ?_,bb⟩,fun e=>absurd e hne⟩
   rw [hd1 (.inl k1),numL_not hn]
  ·refine ⟨fun e=>absurd rfl e,fun _=>?_⟩
   simp (disch:=first|omega|exact zF rfl|exact zG rfl|exact fun h=>h|(simp only[zA,zB,zC,zD,bytesW];omega)) only[go_sem,c73S8,r2]
   refine Ret.mono (number_ok _ x o w2 rd2) ?_
   rintro _ w3 ⟨h3,b3⟩
   have h3':=StepR.fresh h3 lt2 (by omega)
   obtain ⟨u3,a3,ok3,rfl,hm⟩:=h3
   simp (disch:=first|omega|exact zF rfl|exact zG rfl|exact fun h=>h|(simp only[zA,zB,zC,zD,bytesW];omega)) only[go_sem,c73S8]
   rw [hd1 (.inl k1)]
   exact ⟨h3',Below.next bb b3⟩
 by_cases k2:o.Kind=2
 ·simp (disch:=first|omega|exact zF rfl|exact zG rfl|exact fun h=>h|(simp only[zA,zB,zC,zD,bytesW];omega)) only[go_sem,c73S8,r2,ho,k2]
  rcases number (.inr k2) with hn | ⟨x,rfl⟩
  ·have hne:(s.length:Int)≠1:=fun e=>by
    obtain ⟨x,hx⟩:=List.length_eq_one_iff.1 (show s.length=1 by omega)
    exact hn x hx
   refine ⟨fun _=>⟨bad ?_,bb⟩,fun e=>absurd e hne⟩
   rw [hd1 (.inr k2),numL_not hn]
  ·refine ⟨fun e=>absurd rfl e,fun _=>?_⟩
   simp (disch:=first|omega|exact zF rfl|exact zG rfl|exact fun h=>h|(simp only[zA,zB,zC,zD,bytesW];omega)) only[go_sem,c73S8,r2]
   refine Ret.mono (number_ok _ x o w2 rd2) ?_
   rintro _ w3 ⟨h3,b3⟩
   have h3':=StepR.fresh h3 lt2 (by omega)
   obtain ⟨u3,a3,ok3,rfl,hm⟩:=h3
   simp (disch:=first|omega|exact zF rfl|exact zG rfl|exact fun h=>h|(simp only[zA,zB,zC,zD,bytesW];omega)) only[go_sem,c73S8]
   rw [hd1 (.inr k2)]
   exact ⟨h3',Below.next bb b3⟩
 have hb1:(w.alloc (.cells o.enc.toArray 52)).heap.size≤w2.heap.size:=b2.size
 by_cases k3:o.Kind=3
 ·have hd:doP s o=listP s o:=by unfold doP; rw [if_neg (by simp [k1,k2]),if_pos (.inl k3)]
  simp (disch:=first|omega|exact zF rfl|exact zG rfl|exact fun h=>h|(simp only[zA,zB,zC,zD,bytesW];omega)) only[go_sem,c73S8,r2,ho,k3]
  refine Ret.mono (list_ok _ s o w2 _ hb1 own2 hl) ?_
  rintro _ w3 ⟨h3,c3⟩
  have h3':=StepR.fresh h3 lt2 (by omega)
  obtain ⟨u3,a3,ok3,rfl,hm⟩:=h3
  simp (disch:=first|omega|exact zF rfl|exact zG rfl|exact fun h=>h|(simp only[zA,zB,zC,zD,bytesW];omega)) only[go_sem,c73S8]
  rw [hd]
  exact ⟨h3',chg c3⟩
 by_cases k4:o.Kind=4
 ·have hd:doP s o=listP s o:=by unfold doP; rw [if_neg (by simp [k1,k2]),if_pos (.inr k4)]
  simp (disch:=first|omega|exact zF rfl|exact zG rfl|exact fun h=>h|(simp only[zA,zB,zC,zD,bytesW];omega)) only[go_sem,c73S8,r2,ho,k4]
  refine Ret.mono (list_ok _ s o w2 _ hb1 own2 hl) ?_
  rintro _ w3 ⟨h3,c3⟩
  have h3':=StepR.fresh h3 lt2 (by omega)
  obtain ⟨u3,a3,ok3,rfl,hm⟩:=h3
  simp (disch:=first|omega|exact zF rfl|exact zG rfl|exact fun h=>h|(simp only[zA,zB,zC,zD,bytesW];omega)) only[go_sem,c73S8]
  rw [hd]
  exact ⟨h3',chg c3⟩
 by_cases k5:o.Kind=5
 ·have hd:doP s o=setP s o:=by unfold doP; rw [if_neg (by simp [k1,k2]),if_neg (by simp [k3,k4]),if_pos k5]
  simp (disch:=first|omega|exact zF rfl|exact zG rfl|exact fun h=>h|(simp only[zA,zB,zC,zD,bytesW];omega)) only[go_sem,c73S8,r2,ho,k5]
  refine Ret.mono (set_ok _ s o w2 _ hb1 own2 hl (hs k5)) ?_
  rintro _ w3 ⟨h3,c3⟩
  have h3':=StepR.fresh h3 lt2 (by omega)
  obtain ⟨u3,a3,ok3,rfl,hm⟩:=h3
  simp (disch:=first|omega|exact zF rfl|exact zG rfl|exact fun h=>h|(simp only[zA,zB,zC,zD,bytesW];omega)) only[go_sem,c73S8]
  rw [hd]
  exact ⟨h3',chg c3⟩
 by_cases k6:o.Kind=6
 ·have hd:doP s o=(if o.Method=13∧s=[] then some ([o.Proc],0) else if o.Method=14∧s=[o.Proc] then some ([],0) else none):=by unfold doP; rw [if_neg (by simp [k1,k2]),if_neg (by simp [k3,k4]),if_neg k5,if_pos k6]
  have rdd:=hB2.drew.rules
  have bbd:Below w.heap.size w w2.drew:=bb.drew
  have rd2d:RdS w2.drew 1 intE (.slice a s.length c) s:=rd2.below (Below.refl _ w2).drew (by decide)
  have fresh:∀ {k n c'},slFoot (.slice (some ⟨w2.heap.size,0,none⟩) n c') k→w.heap.size≤k:=fun hk=>by
   have:=slFoot_own hk
   simp only [Value.ownBlock,Option.some.injEq] at this
   omega
  have badd:∀ {u:Value} {n:Int},doP s o=none→StepF w w2.drew (doP s o) (.tuple #[u,.int .i64 n,.bool false]):=fun e=>⟨_,_,_,rfl,by rw [e]⟩
  by_cases m13:o.Method=13
  ·simp (disch:=first|omega|exact zF rfl|exact zG rfl|exact fun h=>h|(simp only[zA,zB,zC,zD,bytesW];omega)) only[go_sem,c73S8,r2,ho,k6,m13]
   refine ⟨fun h0=>?_,fun h0=>?_⟩
   ·obtain rfl:s=[]:=List.eq_nil_of_length_eq_zero (by omega)
    refine bsW_ones ty25mkI rfl rfl (by decide) (by decide) (intE_one _) ?_
    simp (disch:=first|omega|exact zF rfl|exact zG rfl|exact fun h=>h|(simp only[zA,zB,zC,zD,bytesW];omega)) only[go_sem,c73S8]
    refine ⟨⟨_,_,_,rfl,?_⟩,Below.next bb ((Below.refl _ _).alloc (Nat.le_refl _) _)⟩
    rw [hd,if_pos ⟨m13,rfl⟩]
    exact ⟨rfl,rfl,int_new o.Proc rfl,fun k hk=>fresh hk⟩
   ·refine c73draw0 ?_
    simp (disch:=first|omega|exact zF rfl|exact zG rfl|exact fun h=>h|(simp only[zA,zB,zC,zD,bytesW];omega)) only[go_sem,c73S8,c73D0,rdd,ho,m13]
    have:s≠[]:=fun e=>h0 (by rw [e]; rfl)
    exact ⟨badd (by rw [hd]; simp [this,m13]),bbd⟩
  ·simp (disch:=first|omega|exact zF rfl|exact zG rfl|exact fun h=>h|(simp only[zA,zB,zC,zD,bytesW];omega)) only[go_sem,c73S8,r2,ho,k6,m13]
   refine c73draw0 ?_
   by_cases m14:o.Method=14
   ·simp (disch:=first|omega|exact zF rfl|exact zG rfl|exact fun h=>h|(simp only[zA,zB,zC,zD,bytesW];omega)) only[go_sem,c73S8,c73D0,rdd,ho,m14]
    refine ⟨fun h1=>?_,fun h1=>?_⟩
    ·obtain ⟨x,rfl⟩:=List.length_eq_one_iff.1 (show s.length=1 by omega)
     obtain ⟨p,rfl⟩:=rd2d.ptr (by simp)
     have ep:=RdS.int rd2d (k:=0) (by simp)
     rw [show p.add 0=p from rfl,show ([x]:List Int)[0]=x from rfl] at ep
     simp (disch:=first|omega|exact zF rfl|exact zG rfl|exact fun h=>h|(simp only[zA,zB,zC,zD,bytesW];omega)) only[go_sem,c73S8,c73D0,rdd,ho,ep]
     refine ⟨fun e=>⟨⟨_,_,_,rfl,?_⟩,bbd⟩,fun e=>⟨badd ?_,bbd⟩⟩
     ·rw [hd,if_neg (by simp),if_pos ⟨m14,by rw [e]⟩]
      exact ⟨rfl,rfl,RdS.nil,fun k hk=>absurd hk slFoot_none⟩
     ·rw [hd,if_neg (by simp),if_neg (by simp [e])]
    ·have:s≠[o.Proc]:=fun e=>h1 (by rw [e]; rfl)
     exact ⟨badd (by rw [hd]; simp [m13,this]),bbd⟩
   ·simp (disch:=first|omega|exact zF rfl|exact zG rfl|exact fun h=>h|(simp only[zA,zB,zC,zD,bytesW];omega)) only[go_sem,c73S8,c73D0,rdd,ho,m14]
    exact ⟨badd (by rw [hd]; simp [m13,m14]),bbd⟩
 ·have hd:doP s o=none:=by unfold doP; rw [if_neg (by simp [k1,k2]),if_neg (by simp [k3,k4]),if_neg k5,if_neg k6]
  simp (disch:=first|omega|exact zF rfl|exact zG rfl|exact fun h=>h|(simp only[zA,zB,zC,zD,bytesW];omega)) only[go_sem,c73S8,r2,ho,k1,k2,k3,k4,k5,k6]
  exact ⟨bad hd,bb⟩
theorem step_ok(v:Value)(s:List Int)(o:OpT)(w:World)(h:RdS w 1 intE v s)(hl:s.length≤1000000)(hs:o.Kind=5→s.Pairwise (· < ·)) :
  Ret Tryz.prog 41 [v,.agg o.enc.toArray] w fun u w'=>(∃ t ok,u=.tuple #[t,.bool ok]∧match stepP s o with
   | none=>ok=false
   | some s'=>ok=true∧RdS w' 1 intE t s'∧∀ k,slFoot t k→w.heap.size≤k)∧Below w.heap.size w w':=by
 refine ent41 _ _ _ _ ?_
 have ho:=o.at
 have hw1:Below w.heap.size w (w.alloc (.cells o.enc.toArray 52)):=(Below.refl _ w).alloc (Nat.le_refl _) _
 simp (disch:=first|omega|exact zF rfl|exact zG rfl|exact fun h=>h|(simp only[zA,zB,zC,zD,bytesW];omega)) only[go_sem]
 refine Ret.mono (do_ok v s o _ (h.below hw1 (by decide)) hl hs) ?_
 rintro _ w2 ⟨⟨t,a,ok,rfl,hm⟩,b2⟩
 have bb:=Below.next hw1 b2
 have hB2:Blk w2 w.heap.size o.enc.toArray 52:=Blk.new.below b2 Blk.new.lt
 have r2:=hB2.rules
 cases hd:doP s o with
 | none =>
  rw [hd] at hm
  subst hm
  have e:stepP s o=none:=by unfold stepP; rw [hd]
  simp (disch:=first|omega|exact zF rfl|exact zG rfl|exact fun h=>h|(simp only[zA,zB,zC,zD,bytesW];omega)) only[go_sem,c41S1,r2,ho]
  exact ⟨⟨_,_,rfl,by rw [e]⟩,bb⟩
 | some p =>
  obtain ⟨s',n⟩:=p
  rw [hd] at hm
  obtain ⟨rfl,rfl,h3,f3⟩:=hm
  have f3':∀ k,slFoot t k→w.heap.size≤k:=fun k hk=>by have:=f3 k hk; simp only [World.size_alloc] at this; omega
  obtain ⟨ta,tc,rfl,_⟩:=h3.form
  cases hdn:o.Done with
  | false =>
   have e:stepP s o=some s':=by unfold stepP; rw [hd]; simp [hdn]
   simp (disch:=first|omega|exact zF rfl|exact zG rfl|exact fun h=>h|(simp only[zA,zB,zC,zD,bytesW];omega)) only[go_sem,c41S1,r2,ho,hdn]
   exact ⟨⟨_,_,rfl,by rw [e]; exact ⟨rfl,h3,f3'⟩⟩,bb⟩
  | true =>
   simp (disch:=first|omega|exact zF rfl|exact zG rfl|exact fun h=>h|(simp only[zA,zB,zC,zD,bytesW];omega)) only[go_sem,c41S1,r2,ho,hdn]
   refine ⟨fun hne=>⟨⟨_,_,rfl,?_⟩,bb⟩,fun heq=>⟨⟨_,_,rfl,?_⟩,bb⟩⟩
   ·rw [show stepP s o=none by unfold stepP; rw [hd]; simp [hdn,hne]]
   ·rw [show stepP s o=some s' by unfold stepP; rw [hd]; simp [hdn,heq]]
    exact ⟨rfl,h3,f3'⟩
open Go Go.Ann Go.RowKit
theorem insP_app{t:List Int}{y n:Int}(h:n<y):insP (t++[y]) n=insP t n++[y]:=by
 unfold insP
 have hc:=List.countP_le_length (p:=fun z:Int=>decide (z<n)) (l:=t)
 rw [List.countP_append,List.countP_singleton,if_neg (by simp; omega),Nat.add_zero,List.take_append_of_le_length hc,List.drop_append_of_le_length hc]
 simp
theorem insP_end{t:List Int}{n:Int}(h:∀ y∈t,y<n):insP t n=t++[n]:=by
 unfold insP
 rw [List.countP_eq_length.2 (fun y hy=>by simpa using h y hy),List.take_length,List.drop_length]
def withP(t:List Int)(n:Int):List Int:=if t.any (fun y=>decide (n<y)) then insP t n else t
theorem with_ok(v:Value)(s:List Int)(n:Int)(w:World)(h:RdS w 1 intE v s)(hl:s.length≤1000000)(hs:s.Pairwise (· < ·))(hn:n ∉ s) :
  Ret Tryz.prog 117 [v,.int .i64 n] w fun u w'=>w'.ownsRow w.heap.size 3 1 u (insP s n).length ((insP s n).flatMap intE)∧Below w.heap.size w w':=by
 obtain ⟨a,c,rfl,_⟩:=h.form
 refine ent117 _ _ _ _ ?_
 simp (disch:=first|omega|exact zF rfl|exact zG rfl|exact fun h=>h|(simp only[zA,zB,zC,zD,bytesW];omega)) only[go_sem]
 have s1:=(St.start (W0:=w)).nilRow 3 1
 have app:∀ {w2:World} {u:Value} {t:List Int} {x:Int} {ty:TypeId} {cs:Array Bool} {K:Value→World→Prop},St w w2 (fun _=>False) [.row u 3 1 t.length (t.flatMap intE)] []→t.length≤2000000 →
   (∀ u' w',St w w' (fun _=>False) [.row u' 3 1 (t++[x]).length ((t++[x]).flatMap intE)] []→K u' w') →
   rawB Tryz.prog .append #[25,25] ty cs [u,.slice (some ⟨w2.heap.size,0,none⟩) 1 1] (w2.alloc (.cells #[.int .i64 x] 3)) K:=by
  intro w2 u t x ty cs K s2 ht hK
  have hx:Rd (w2.alloc (.cells #[.int .i64 x] 3)) 1 (.slice (some ⟨w2.heap.size,0,none⟩) 1 1) 1 (intE x):=rd_new (n:=1) (cs:=#[.int .i64 x]) rfl
  refine (s2.alloc' (.cells #[.int .i64 x] 3)).append 0 rfl ty25mkI rfl (by decide) hx (intE_one x) (by omega) (by omega) ?_
  intro v6 w6 s6 c6
  refine hK _ _ ?_
  rw [List.length_append,List.flatMap_append]
  simpa using s6
 refine W_loopU (fun x:Nat × Value=>[(5,x.2),(6,.bool ((s.take x.1).any fun y=>decide (n<y))),(7,.int .i64 x.1)]) (fun x w'=>St w w' (fun _=>False) [.row x.2 3 1 (withP (s.take x.1) n).length ((withP (s.take x.1) n).flatMap intE)] []∧x.1≤s.length) (fun x=>s.length - x.1) (0,.slice none 0 0) rfl ⟨s1,Nat.zero_le _⟩ ?_
 rintro ⟨k,u⟩ w2 ⟨s2,hk⟩
 simp only at s2 hk
 have hwl:(withP (s.take k) n).length≤k+1:=by
  unfold withP insP; split <;> simp <;> omega
 obtain ⟨au,cu,rfl,_⟩:=own_slice (s2.row 0 rfl)
 by_cases hlt:k<s.length
 ·have hlt':(k:Int)<s.length:=by omega
  obtain ⟨p,rfl⟩:=h.ptr (by omega)
  have ek:=RdS.int (h.below s2.bel (by decide)) hlt
  have et:s.take (k+1)=s.take k++[s[k]]:=List.take_succ_eq_append_getElem hlt
  have hsk:s[k]≠n:=fun e=>hn (by rw [← e]; exact List.getElem_mem hlt)
  have gt:∀ y∈s.take k,y<s[k]:=fun y hy=>by
   obtain ⟨j,hj,rfl⟩:=List.mem_iff_getElem.1 hy
   rw [List.getElem_take]
   exact List.pairwise_iff_getElem.1 hs j k (by simp at hj; omega) hlt (by simp at hj; omega)
  have w1:(s.take k).any (fun y=>decide (n<y))=false→n<s[k]→withP (s.take (k+1)) n=withP (s.take k) n++[n]++[s[k]]:=fun h1 h2=>by
   unfold withP
   rw [h1,et,List.any_append]
   simp only [List.any_cons,h2,decide_true,Bool.true_or,Bool.or_true,if_true]
   rw [insP_app h2,insP_end fun y hy=>?_]
   ·rfl
   ·have:=List.any_eq_false.1 h1 y hy
    have hne:y≠n:=fun e=>hn (by rw [← e]; exact List.mem_of_mem_take hy)
    simp at this; omega
  have w2':(s.take k).any (fun y=>decide (n<y))=false→¬ n<s[k]→withP (s.take (k+1)) n=withP (s.take k) n++[s[k]]:=fun h1 h2=>by
   unfold withP
   rw [et,List.any_append,h1]
   simp only [List.any_cons,List.any_nil,decide_eq_false h2,Bool.or_self,Bool.false_eq_true,if_false]
  have w3:(s.take k).any (fun y=>decide (n<y))=true→withP (s.take (k+1)) n=withP (s.take k) n++[s[k]]:=fun h1=>by
   obtain ⟨y,hy,e⟩:=List.any_eq_true.1 h1
   have h2:n<s[k]:=by have:=gt y hy; simp at e; omega
   unfold withP
   rw [et,List.any_append,h1]
   simp only [Bool.true_or,if_true]
   exact insP_app h2
  simp (disch:=first|omega|exact zF rfl|exact zG rfl|exact fun h=>h|(simp only[zA,zB,zC,zD,bytesW];omega)) only[go_sem,c117S5,hlt',ek]
  have et_any:(s.take (k+1)).any (fun y=>decide (n<y))=((s.take k).any (fun y=>decide (n<y)) || decide (n<s[k])):=by
   rw [et,List.any_append]; simp
  have last:∀ {w3:World} {u3:Value},St w w3 (fun _=>False) [.row u3 3 1 (withP (s.take (k+1)) n).length ((withP (s.take (k+1)) n).flatMap intE)] []→St w w3 (fun _=>False) [.row u3 3 1 (withP (s.take (k+1)) n).length ((withP (s.take (k+1)) n).flatMap intE)] []∧k+1≤s.length:=fun h=>⟨h,by omega⟩
  refine ⟨fun h1=>⟨by omega,fun h2=>?_,fun h2=>⟨by omega,?_⟩⟩,fun h1=>⟨by omega,?_⟩⟩
  ·refine bsW_ones ty25mkI rfl rfl (by decide) (by decide) (intE_one _) ?_
   simp (disch:=first|omega|exact zF rfl|exact zG rfl|exact fun h=>h|(simp only[zA,zB,zC,zD,bytesW];omega)) only[go_sem,c117S5]
   refine app s2 (by omega) ?_
   intro v6 w6 s6
   have ek6:=RdS.int (h.below s6.bel (by decide)) hlt
   obtain ⟨a6,c6,rfl,_⟩:=own_slice (s6.row 0 rfl)
   simp (disch:=first|omega|exact zF rfl|exact zG rfl|exact fun h=>h|(simp only[zA,zB,zC,zD,bytesW];omega)) only[go_sem,c117S5,ek6]
   refine ⟨⟨by omega,by omega⟩,?_⟩
   refine bsW_ones ty25mkI rfl rfl (by decide) (by decide) (intE_one _) ?_
   simp (disch:=first|omega|exact zF rfl|exact zG rfl|exact fun h=>h|(simp only[zA,zB,zC,zD,bytesW];omega)) only[go_sem,c117S5]
   refine app s6 (by simp; omega) ?_
   intro v7 w7 s7
   simp (disch:=first|omega|exact zF rfl|exact zG rfl|exact fun h=>h|(simp only[zA,zB,zC,zD,bytesW];omega)) only[go_sem,c117S5]
   rw [← w1 h1 h2] at s7
   refine ⟨⟨by omega,by omega⟩,(k+1,v7),?_,last s7,by simp only; omega⟩
   rw [et_any,h1,decide_eq_true h2]; rfl
  ·refine bsW_ones ty25mkI rfl rfl (by decide) (by decide) (intE_one _) ?_
   simp (disch:=first|omega|exact zF rfl|exact zG rfl|exact fun h=>h|(simp only[zA,zB,zC,zD,bytesW];omega)) only[go_sem,c117S5]
   refine app s2 (by omega) ?_
   intro v6 w6 s6
   simp (disch:=first|omega|exact zF rfl|exact zG rfl|exact fun h=>h|(simp only[zA,zB,zC,zD,bytesW];omega)) only[go_sem,c117S5]
   rw [← w2' h1 (by omega)] at s6
   refine ⟨⟨by omega,by omega⟩,(k+1,v6),?_,last s6,by simp only; omega⟩
   rw [et_any,h1,decide_eq_false (by omega:¬ n<s[k])]; rfl
  ·refine bsW_ones ty25mkI rfl rfl (by decide) (by decide) (intE_one _) ?_
   simp (disch:=first|omega|exact zF rfl|exact zG rfl|exact fun h=>h|(simp only[zA,zB,zC,zD,bytesW];omega)) only[go_sem,c117S5]
   refine app s2 (by omega) ?_
   intro v6 w6 s6
   simp (disch:=first|omega|exact zF rfl|exact zG rfl|exact fun h=>h|(simp only[zA,zB,zC,zD,bytesW];omega)) only[go_sem,c117S5]
   rw [← w3 h1] at s6
   refine ⟨⟨by omega,by omega⟩,(k+1,v6),?_,last s6,by simp only; omega⟩
   rw [et_any,h1]; rfl
 ·have hlt':¬ (k:Int)<s.length:=by omega
  have hks:s.take k=s:=List.take_of_length_le (by omega)
  rw [hks] at s2 hwl ⊢
  cases hd:s.any fun y=>decide (n<y) with
  | true =>
   simp (disch:=first|omega|exact zF rfl|exact zG rfl|exact fun h=>h|(simp only[zA,zB,zC,zD,bytesW];omega)) only[go_sem,c117S5,hlt']
   have e:=s2.row 0 rfl
   rw [show withP s n=insP s n by unfold withP; rw [hd]; rfl] at e ⊢
   exact ⟨e,s2.bel⟩
  | false =>
   simp (disch:=first|omega|exact zF rfl|exact zG rfl|exact fun h=>h|(simp only[zA,zB,zC,zD,bytesW];omega)) only[go_sem,c117S5,hlt']
   have e1:withP s n=s:=by unfold withP; rw [hd]; rfl
   have e2:insP s n=s++[n]:=insP_end fun y hy=>by
    have:=List.any_eq_false.1 hd y hy
    have hne:y≠n:=fun e=>hn (by rw [← e]; exact hy)
    simp at this; omega
   rw [e1] at s2 ⊢
   refine bsW_ones ty25mkI rfl rfl (by decide) (by decide) (intE_one _) ?_
   simp (disch:=first|omega|exact zF rfl|exact zG rfl|exact fun h=>h|(simp only[zA,zB,zC,zD,bytesW];omega)) only[go_sem,c117S5]
   refine app s2 (by omega) ?_
   intro v6 w6 s6
   simp (disch:=first|omega|exact zF rfl|exact zG rfl|exact fun h=>h|(simp only[zA,zB,zC,zD,bytesW];omega)) only[go_sem,c117S5]
   rw [e2]
   exact ⟨s6.row 0 rfl,s6.bel⟩
open Go Go.Ann Go.RowKit
theorem rd_blk1{w:World}{b:Nat}{x:Int}(h:Blk w b #[.int .i64 x] 3):Rd w 1 (.slice (some ⟨b,0,none⟩) 1 1) 1 (intE x) :=
 ⟨rfl,_,1,rfl,Nat.le_refl _,fun _=>⟨_,rfl,fun j u hu=>by rw [Addr.add_lit,Nat.zero_add,h.cell]; simpa [intE] using hu⟩⟩
set_option maxHeartbeats 2000000 in
theorem rdo_ok(v:Value)(s:List Int)(o:OpT)(w:World)(h:RdS w 1 intE v s)(hl:s.length≤1000000)(hs:o.Kind=5→s.Pairwise (· < ·)) :
  Ret Tryz.prog 95 [v,.agg o.enc.toArray] w fun u w'=>StepA w w' v (doP s o) u∧Below w.heap.size w w':=by
 obtain ⟨a,c,rfl,hac⟩:=h.form
 refine ent95 _ _ _ _ ?_
 have ho:=o.at
 have s2:=((St.start (W0:=w)).box o.enc.toArray 52).box #[.slice none 0 0,.int .i64 0,.bool false] 150
 rw [World.size_alloc] at s2
 have r0:=s2.rules 1 rfl
 simp (disch:=first|omega|exact zF rfl|exact zG rfl|exact fun h=>h|(simp only[zA,zB,zC,zD,bytesW];omega)) only[go_sem,c95S11]
 refine c95draw0 ?_
 have s3:=s2.drew
 have r3:=s3.rules 1 rfl
 simp (disch:=first|omega|exact zF rfl|exact zG rfl|exact fun h=>h|(simp only[zA,zB,zC,zD,bytesW];omega)) only[go_sem,c95S11,c95D0,r0,ho]
 generalize ((w.alloc (.cells o.enc.toArray 52)).alloc (.cells #[.slice none 0 0,.int .i64 0,.bool false] 150)).drew=w2 at s3 r3 ⊢
 clear s2 r0
 have h2:=h.below s3.bel (by decide)
 have q3:=s3.rules 0 rfl
 have hsz:=s3.size
 have lt0:=(s3.low 0 rfl).2
 have res:∀ {w3:World} {z:Array Value} {u:Value} {t:List Int} {n:Int},St w w3 (fun _=>False) [.blk (w.heap.size+1) z 150,.blk w.heap.size o.enc.toArray 52] []→z.size=3→doP s o=some (t,n)→RdS w3 1 intE u t →
   (∀ k,slFoot u k→slFoot (.slice a s.length c) k∨w.heap.size≤k)→(∀ k,slFoot u k→k≠w.heap.size+1) →
   StepA w (w3.fill (w.heap.size+1) #[u,.int .i64 n,.bool true]) (.slice a s.length c) (doP s o) (.agg #[u,.int .i64 n,.bool true])∧Below w.heap.size w (w3.fill (w.heap.size+1) #[u,.int .i64 n,.bool true]):=by
  intro w3 z u t n s4 hz e hu hf hne
  refine ⟨⟨_,_,_,rfl,by obtain ⟨a,c,e,_⟩:=hu.form; exact ⟨_,_,_,e⟩,?_⟩,(s4.fill 0 rfl (cs:=#[u,.int .i64 n,.bool true]) (by rw [hz]; rfl)).bel⟩
  rw [e]
  refine ⟨rfl,rfl,RdS.loc hu fun k hk=>?_,hf⟩
  exact ((Chg.refl (fun k=>k=w.heap.size+1) w3).fill (b:=w.heap.size+1) (cs:=#[u,.int .i64 n,.bool true]) fun _=>rfl).block k (hu.footLt (by decide) hk) (hne k hk)
 have bad:∀ {w3:World} {z:Array Value},St w w3 (fun _=>False) [.blk (w.heap.size+1) z 150,.blk w.heap.size o.enc.toArray 52] []→z.size=3→doP s o=none →
   StepA w (w3.fill (w.heap.size+1) #[.slice none 0 0,.int .i64 0,.bool false]) (.slice a s.length c) (doP s o) (.agg #[.slice none 0 0,.int .i64 0,.bool false])∧Below w.heap.size w (w3.fill (w.heap.size+1) #[.slice none 0 0,.int .i64 0,.bool false]):=by
  intro w3 z s4 hz e
  exact ⟨⟨_,_,_,rfl,⟨_,_,_,rfl⟩,by rw [e]⟩,(s4.fill 0 rfl (cs:=#[.slice none 0 0,.int .i64 0,.bool false]) (by rw [hz]; rfl)).bel⟩
 have oldF:∀ {k},slFoot (.slice a s.length c) k→slFoot (.slice a s.length c) k∨w.heap.size≤k:=fun hk=>.inl hk
 have push:∀ (x y:Int),doP s o=some (s++[o.Arg],0)→drawW Tryz.prog (drawOps 1 c95code) [4]
   [(0,.slice a s.length c),(3,.pointer (some ⟨w.heap.size,0,none⟩)),(4,.pointer (some ⟨w.heap.size+1,0,none⟩)),(5,.int .i64 x),(6,.int .i64 y),(34,.bool true)] w2
   (thenQ Tryz.prog (sg c95S1) (thenQ Tryz.prog (sg c95S18) (finQ Tryz.prog [.cell 4 150] fun u w'=>StepA w w' (.slice a s.length c) (doP s o) u∧Below w.heap.size w w'))):=by
  intro x y hd
  refine c95draw1 (Chg (fun k=>k=w.heap.size+1) _) (Chg.refl _ _) ?_
  have s4:=s3.drew
  have r4:=s4.rules 1 rfl
  have t4:=St.start (W0:=w2.drew)
  have hx:Rd w2.drew 1 (.slice a s.length c) s.length (s.flatMap intE):=h2.below (Below.refl _ w2).drew (by decide)
  have h4:RdS w2.drew 1 intE (.slice a s.length c) s:=hx
  simp (disch:=first|omega|exact zF rfl|exact zG rfl|exact fun h=>h|(simp only[zA,zB,zC,zD,bytesW];omega)) only[go_sem,c95S11,c95S20,c95D1,r4,ho]
  have cel:∀ {w7:World},St w w7 (fun _=>False) [.blk (w.heap.size+1) #[.slice none 0 0,.int .i64 0,.bool false] 150,.blk w.heap.size o.enc.toArray 52] []→(∀ i,w7.cell? ⟨w.heap.size+1,i,none⟩=(#[Value.slice none 0 0,.int .i64 0,.bool false])[i]?)∧(∀ i,w7.frozen? ⟨w.heap.size+1,i,none⟩=false):=fun s7=>⟨(s7.rules 0 rfl).1,(s7.rules 0 rfl).2.1⟩
  have fin:∀ {u:Value} {w8:World},St w2.drew w8 (fun _=>False) [.row u 3 1 (s.length+1) (s.flatMap intE++intE o.Arg)] []→RdS w8 1 intE u (s++[o.Arg])∧∀ k,slFoot u k→w.heap.size+2≤k:=fun t8=>by
   refine ⟨RdS.of_own' (t8.row 0 rfl) (s++[o.Arg]) (by simp) (by rw [List.flatMap_append]; simp),fun k hk=>?_⟩
   have:=(World.ownsRow.lt (t8.row 0 rfl) k (slFoot_own hk)).1
   simp only [World.size_drew] at this
   omega
  refine ⟨?_,?_⟩
  ·refine bsW_none ty25mkI ?_
   have t5:=t4.emptyRow 3 1
   simp (disch:=first|omega|exact zF rfl|exact zG rfl|exact fun h=>h|(simp only[zA,zB,zC,zD,bytesW];omega)) only[go_sem,c95S11,c95S20]
   refine ⟨Chg.of_below t5.bel,?_,?_⟩
   ·refine t5.append 0 rfl ty25mkI rfl (by decide) (Rd.below hx (t5.bel) (by decide)) (ints_one s) (by omega) (by omega) ?_
    intro v6 w6 t6 c6
    simp only [List.set_cons_zero,List.nil_append,Nat.zero_add] at t6
    obtain ⟨a6,d6,rfl,_⟩:=own_slice (t6.row 0 rfl)
    simp (disch:=first|omega|exact zF rfl|exact zG rfl|exact fun h=>h|(simp only[zA,zB,zC,zD,bytesW];omega)) only[go_sem,c95S11,c95S20]
    refine ⟨Chg.of_below t6.bel,bsW_ones ty25mkI rfl rfl (by decide) (by decide) (intE_one _) ?_⟩
    simp (disch:=first|omega|exact zF rfl|exact zG rfl|exact fun h=>h|(simp only[zA,zB,zC,zD,bytesW];omega)) only[go_sem,c95S11,c95S20]
    have t7:=t6.alloc' (.cells #[.int .i64 o.Arg] 3)
    refine ⟨Chg.of_below t7.bel,t7.append 0 rfl ty25mkI rfl (by decide) (show Rd _ 1 (.slice (some ⟨w6.heap.size,0,none⟩) 1 1) 1 (intE o.Arg) from rd_new (n:=1) (cs:=#[.int .i64 o.Arg]) rfl) (intE_one _) (by omega) (by omega) ?_⟩
    intro v8 w8 t8 c8
    simp only [List.set_cons_zero] at t8
    obtain ⟨a8,d8,rfl,_⟩:=own_slice (t8.row 0 rfl)
    simp (disch:=first|omega|exact zF rfl|exact zG rfl|exact fun h=>h|(simp only[zA,zB,zC,zD,bytesW];omega)) only[go_sem,c95S11,c95S20]
    refine ⟨Chg.of_below t8.bel,?_⟩
    refine bdW_built (cells:=#[.slice a8 (s.length+1) d8,.int .i64 0,.bool true]) (by kernel_rfl) ?_
    have s8:=s4.call t8.bel
    have e8:=cel s8
    obtain ⟨f1,f2⟩:=fin t8
    simp (disch:=first|omega|exact zF rfl|exact zG rfl|exact fun h=>h|(simp only[zA,zB,zC,zD,bytesW];omega)) only[go_sem,c95S11,c95S20,e8]
    refine ⟨Chg.of_below t8.bel,(Chg.of_below t8.bel).fill fun _=>rfl,?_⟩
    exact res s8 rfl hd f1 (fun k hk=>.inr (by have:=f2 k hk; omega)) (fun k hk=>by have:=f2 k hk; omega)
   ·refine bsW_ones ty25mkI rfl rfl (by decide) (by decide) (intE_one _) ?_
    have t6:=t5.box #[.int .i64 o.Arg] 3
    simp (disch:=first|omega|exact zF rfl|exact zG rfl|exact fun h=>h|(simp only[zA,zB,zC,zD,bytesW];omega)) only[go_sem,c95S11,c95S20]
    refine ⟨Chg.of_below t6.bel,t6.append 1 rfl ty25mkI rfl (by decide) (Rd.below hx (t6.bel) (by decide)) (ints_one s) (by omega) (by omega) ?_⟩
    intro v6 w6 t7 c6
    simp only [List.set_cons_zero,List.set_cons_succ,List.nil_append,Nat.zero_add] at t7
    obtain ⟨a6,d6,rfl,_⟩:=own_slice (t7.row 1 rfl)
    simp (disch:=first|omega|exact zF rfl|exact zG rfl|exact fun h=>h|(simp only[zA,zB,zC,zD,bytesW];omega)) only[go_sem,c95S11,c95S20]
    have hB:Blk w6 (w2.heap.size+1) #[.int .i64 o.Arg] 3:=by have:=t7.blk 0 rfl; simpa only [World.size_alloc,World.size_drew] using this
    refine ⟨Chg.of_below t7.bel,(t7.sub (L':=[.row (.slice a6 s.length d6) 3 1 s.length (s.flatMap intE)]) (by simp)).append 0 rfl ty25mkI rfl (by decide) (rd_blk1 hB) (intE_one _) (by omega) (by omega) ?_⟩
    intro v8 w8 t8 c8
    simp only [List.set_cons_zero] at t8
    obtain ⟨a8,d8,rfl,_⟩:=own_slice (t8.row 0 rfl)
    simp (disch:=first|omega|exact zF rfl|exact zG rfl|exact fun h=>h|(simp only[zA,zB,zC,zD,bytesW];omega)) only[go_sem,c95S11,c95S20]
    refine ⟨Chg.of_below t8.bel,?_⟩
    refine bdW_built (cells:=#[.slice a8 (s.length+1) d8,.int .i64 0,.bool true]) (by kernel_rfl) ?_
    have s8:=s4.call t8.bel
    have e8:=cel s8
    obtain ⟨f1,f2⟩:=fin t8
    simp (disch:=first|omega|exact zF rfl|exact zG rfl|exact fun h=>h|(simp only[zA,zB,zC,zD,bytesW];omega)) only[go_sem,c95S11,c95S20,e8]
    refine ⟨Chg.of_below t8.bel,(Chg.of_below t8.bel).fill fun _=>rfl,?_⟩
    exact res s8 rfl hd f1 (fun k hk=>.inr (by have:=f2 k hk; omega)) (fun k hk=>by have:=f2 k hk; omega)
  ·refine bsW_ones ty25mkI rfl rfl (by decide) (by decide) (intE_one _) ?_
   have t5:=t4.box #[.int .i64 o.Arg] 3
   simp (disch:=first|omega|exact zF rfl|exact zG rfl|exact fun h=>h|(simp only[zA,zB,zC,zD,bytesW];omega)) only[go_sem,c95S11,c95S20]
   refine ⟨Chg.of_below t5.bel,?_⟩
   ·refine bsW_none ty25mkI ?_
    have t6:=t5.emptyRow 3 1
    rw [World.size_alloc,World.size_drew] at t6
    simp (disch:=first|omega|exact zF rfl|exact zG rfl|exact fun h=>h|(simp only[zA,zB,zC,zD,bytesW];omega)) only[go_sem,c95S11,c95S20]
    refine ⟨Chg.of_below t6.bel,t6.append 0 rfl ty25mkI rfl (by decide) (Rd.below hx (t6.bel) (by decide)) (ints_one s) (by omega) (by omega) ?_⟩
    intro v6 w6 t7 c6
    simp only [List.set_cons_zero,List.set_cons_succ,List.nil_append,Nat.zero_add] at t7
    obtain ⟨a6,d6,rfl,_⟩:=own_slice (t7.row 0 rfl)
    simp (disch:=first|omega|exact zF rfl|exact zG rfl|exact fun h=>h|(simp only[zA,zB,zC,zD,bytesW];omega)) only[go_sem,c95S11,c95S20]
    have hB:Blk w6 w2.heap.size #[.int .i64 o.Arg] 3:=t7.blk 1 rfl
    refine ⟨Chg.of_below t7.bel,(t7.sub (L':=[.row (.slice a6 s.length d6) 3 1 s.length (s.flatMap intE)]) (by simp)).append 0 rfl ty25mkI rfl (by decide) (show Rd w6 1 (.slice (some ⟨w2.heap.size,0,none⟩) 1 1) 1 (intE o.Arg) from rd_blk1 hB) (intE_one _) (by omega) (by omega) ?_⟩
    intro v8 w8 t8 c8
    simp only [List.set_cons_zero] at t8
    obtain ⟨a8,d8,rfl,_⟩:=own_slice (t8.row 0 rfl)
    simp (disch:=first|omega|exact zF rfl|exact zG rfl|exact fun h=>h|(simp only[zA,zB,zC,zD,bytesW];omega)) only[go_sem,c95S11,c95S20]
    refine ⟨Chg.of_below t8.bel,?_⟩
    refine bdW_built (cells:=#[.slice a8 (s.length+1) d8,.int .i64 0,.bool true]) (by kernel_rfl) ?_
    have s8:=s4.call t8.bel
    have e8:=cel s8
    obtain ⟨f1,f2⟩:=fin t8
    simp (disch:=first|omega|exact zF rfl|exact zG rfl|exact fun h=>h|(simp only[zA,zB,zC,zD,bytesW];omega)) only[go_sem,c95S11,c95S20,e8]
    refine ⟨Chg.of_below t8.bel,(Chg.of_below t8.bel).fill fun _=>rfl,?_⟩
    exact res s8 rfl hd f1 (fun k hk=>.inr (by have:=f2 k hk; omega)) (fun k hk=>by have:=f2 k hk; omega)
 have oldL:∀ {k n c'},slFoot (.slice a n c') k→n≤s.length→k≠w.heap.size+1:=fun {k n c'} hk hn e=>by
  obtain ⟨q,n',c'',e1,h0,rfl⟩:=hk
  cases e1
  have:=h.footLt (by decide) (k:=q.block) ⟨q,_,_,rfl,by omega,rfl⟩
  omega
 have ti:((s.length:Int) - 1).toNat=s.length - 1:=by omega
 have h3:RdS w2.drew 1 intE (.slice a s.length c) s:=h2.below (Below.refl _ w2).drew (by decide)
 have s4:=s3.drew
 have r4:=s4.rules 1 rfl
 have q4:=s4.rules 0 rfl
 have setc:∀ {w3:World},Below w2.heap.size w2 w3→St w w3 (fun _=>False) [.blk (w.heap.size+1) #[.slice none 0 0,.int .i64 0,.bool false] 150,.blk w.heap.size o.enc.toArray 52] []:=fun b=>s3.call b
 by_cases k12:o.Kind=1∨o.Kind=2
 ·have hd:doP s o=numL s o:=by unfold doP; rw [if_pos k12]
  have num:Ret Tryz.prog 115 [.slice a s.length c,.agg o.enc.toArray] w2 fun u w'=>(∃ u' n b,u=.agg #[u',.int .i64 n,.bool b]∧(∃ b n c,u'=.slice b n c)∧match numL s o with
    | none=>b=false
    | some (t,m)=>b=true∧n=m∧RdS w' 1 intE u' t∧∀ k,slFoot u' k→(slFoot (.slice a s.length c) k∨w.heap.size≤k)∧k≠w.heap.size+1)∧Below w2.heap.size w2 w':=by
   by_cases hx:∃ x,s=[x]
   ·obtain ⟨x,rfl⟩:=hx
    refine Ret.mono (rnumber_ok _ x o w2 h2) ?_
    rintro u w3 ⟨⟨u',n,b,rfl,ho1,hm⟩,b3⟩
    refine ⟨⟨_,_,_,rfl,ho1,?_⟩,b3⟩
    show (match numP x o with | none=>_ | some (t,m)=>_)
    cases hn:numP x o with
    | none=>rw [hn] at hm; exact hm
    | some p =>
     rw [hn] at hm
     obtain ⟨e1,e2,e3,e4⟩:=hm
     refine ⟨e1,e2,e3,fun k hk=>?_⟩
     obtain ⟨p,rfl⟩:=h.ptr (by simp)
     have hp:=h.footLt (by decide) (k:=p.block) ⟨p,_,_,rfl,by simp,rfl⟩
     rcases e4 k hk with e | e
     ·refine ⟨.inl e,?_⟩
      have e:=slFoot_own e
      simp only [Value.ownBlock,Option.some.injEq] at e
      omega
     ·exact ⟨.inr (by omega),by omega⟩
   ·have hne:(s.length:Int)≠1:=fun e=>hx (List.length_eq_one_iff.1 (by omega))
    have hn:numL s o=none:=numL_not fun x e=>hx ⟨x,e⟩
    refine ent115 _ _ _ _ ?_
    have t2:=((St.start (W0:=w2)).box o.enc.toArray 52).box #[.slice none 0 0,.int .i64 0,.bool false] 150
    rw [World.size_alloc] at t2
    simp (disch:=first|omega|exact zF rfl|exact zG rfl|exact fun h=>h|(simp only[zA,zB,zC,zD,bytesW];omega)) only[go_sem]
    refine ⟨fun _=>?_,fun e=>absurd e hne⟩
    refine bdW_built (cells:=#[.slice none 0 0,.int .i64 0,.bool false]) (by kernel_rfl) ?_
    have u2:=t2.rules 0 rfl
    simp (disch:=first|omega|exact zF rfl|exact zG rfl|exact fun h=>h|(simp only[zA,zB,zC,zD,bytesW];omega)) only[go_sem,u2]
    exact ⟨⟨_,_,_,rfl,⟨_,_,_,rfl⟩,by rw [hn]⟩,(t2.fill 0 rfl (cs:=#[.slice none 0 0,.int .i64 0,.bool false]) rfl).bel⟩
  rcases k12 with k1 | k1
  all_goals
   simp (disch:=first|omega|exact zF rfl|exact zG rfl|exact fun h=>h|(simp only[zA,zB,zC,zD,bytesW];omega)) only[go_sem,c95S11,c95S20,q3,r3,ho,k1]
   refine Ret.mono num ?_
   rintro _ w3 ⟨⟨u',n,b,rfl,⟨ua,un,uc,rfl⟩,hm⟩,b3⟩
   have s5:=setc b3
   have q5:=s5.rules 0 rfl
   simp (disch:=first|omega|exact zF rfl|exact zG rfl|exact fun h=>h|(simp only[zA,zB,zC,zD,bytesW];omega)) only[go_sem,c95S11,c95S20,q5]
   rw [hd]
   cases hn:numL s o with
   | none =>
    rw [hn] at hm
    have hm:b=false:=hm
    subst hm
    exact ⟨⟨_,_,_,rfl,⟨_,_,_,rfl⟩,rfl⟩,(s5.fill 0 rfl (cs:=#[.slice ua un uc,.int .i64 n,.bool false]) rfl).bel⟩
   | some p =>
    obtain ⟨t,m⟩:=p
    rw [hn] at hm
    obtain ⟨rfl,rfl,e3,e4⟩:=hm
    have:=res s5 rfl (hd.trans hn) e3 (fun k hk=>(e4 k hk).1) (fun k hk=>(e4 k hk).2)
    rw [hd,hn] at this
    exact this
 have k1:¬ o.Kind=1:=fun e=>k12 (.inl e)
 have k2:¬ o.Kind=2:=fun e=>k12 (.inr e)
 by_cases k3:o.Kind=3
 ·have hd:doP s o=listP s o:=by unfold doP; rw [if_neg k12,if_pos (.inl k3)]
  by_cases m6:o.Method=6
  ·simp (disch:=first|omega|exact zF rfl|exact zG rfl|exact fun h=>h|(simp only[zA,zB,zC,zD,bytesW];omega)) only[go_sem,c95S11,c95S20,q3,r3,ho,k3,m6]
   exact push _ _ (by rw [hd]; unfold listP; rw [if_pos (.inl ⟨k3,m6⟩)])
  by_cases m7:o.Method=7
  ·simp (disch:=first|omega|exact zF rfl|exact zG rfl|exact fun h=>h|(simp only[zA,zB,zC,zD,bytesW];omega)) only[go_sem,c95S11,c95S20,q3,r3,ho,k3,m7]
   refine ⟨fun h0=>?_,fun h0=>?_⟩
   ·obtain rfl:s=[]:=List.eq_nil_of_length_eq_zero (by omega)
    refine bdW_built (cells:=#[.slice none 0 0,.int .i64 (-1),.bool true]) (by kernel_rfl) ?_
    simp (disch:=first|omega|exact zF rfl|exact zG rfl|exact fun h=>h|(simp only[zA,zB,zC,zD,bytesW];omega)) only[go_sem,c95S11,c95S20,q3]
    exact res s3 rfl (by rw [hd]; unfold listP; simp [k3,m7]) RdS.nil (fun k hk=>absurd hk slFoot_none) (fun k hk=>absurd hk slFoot_none)
   ·obtain ⟨x,r,rfl⟩:∃ x r,s=x::r:=by
     cases s with
     | nil=>simp at h0
     | cons x r=>exact ⟨x,r,rfl⟩
    obtain ⟨p,rfl⟩:=h2.ptr (by simp)
    have ep:=RdS.int h3 (k:=0) (by simp)
    rw [show p.add 0=p from rfl,show (x::r)[0]=x from rfl] at ep
    refine c95draw2 ?_
    simp (disch:=first|omega|exact zF rfl|exact zG rfl|exact fun h=>h|(simp only[zA,zB,zC,zD,bytesW];omega)) only[go_sem,c95S11,c95S20,c95D2,ep]
    refine ⟨by omega,by omega,?_⟩
    refine bdW_built (cells:=#[.slice (offA (some p) c 1 1) r.length (c - 1),.int .i64 x,.bool true]) (by kernel_rfl) ?_
    simp (disch:=first|omega|exact zF rfl|exact zG rfl|exact fun h=>h|(simp only[zA,zB,zC,zD,bytesW];omega)) only[go_sem,c95S11,c95S20,c95D2,q4]
    have hr:RdS w2.drew 1 intE (.slice (offA (some p) c 1 1) r.length (c - 1)) r:=rd_drop (k:=1) (show Rd _ 1 (.slice (some p) (x::r).length c) (x::r).length ((x::r).flatMap intE) from h3) (by simp)
    have hb:∀ {k},slFoot (.slice (offA (some p) c 1 1) r.length (c - 1)) k→k=p.block:=fun hk=>(offA_own hk).symm
    have hp:=h.footLt (by decide) (k:=p.block) ⟨p,_,_,rfl,by simp,rfl⟩
    exact res s4 rfl (by rw [hd]; unfold listP; simp [k3,m7]) hr (fun k hk=>.inl ⟨p,_,_,rfl,by simp,hb hk⟩) (fun k hk=>by rw [hb hk]; omega)
  ·simp (disch:=first|omega|exact zF rfl|exact zG rfl|exact fun h=>h|(simp only[zA,zB,zC,zD,bytesW];omega)) only[go_sem,c95S11,c95S20,q3,r3,ho,k3,m6,m7]
   refine c95draw4 ?_
   simp (disch:=first|omega|exact zF rfl|exact zG rfl|exact fun h=>h|(simp only[zA,zB,zC,zD,bytesW];omega)) only[go_sem,c95S11,c95S20,c95D4,k3,m6,m7]
   refine bdW_built (cells:=#[.slice none 0 0,.int .i64 0,.bool false]) (by kernel_rfl) ?_
   simp (disch:=first|omega|exact zF rfl|exact zG rfl|exact fun h=>h|(simp only[zA,zB,zC,zD,bytesW];omega)) only[go_sem,c95S11,c95S20,q4]
   exact bad s4 rfl (by rw [hd]; unfold listP; simp [k3,m6,m7])
 by_cases k4:o.Kind=4
 ·have hd:doP s o=listP s o:=by unfold doP; rw [if_neg k12,if_pos (.inr k4)]
  by_cases m8:o.Method=8
  ·simp (disch:=first|omega|exact zF rfl|exact zG rfl|exact fun h=>h|(simp only[zA,zB,zC,zD,bytesW];omega)) only[go_sem,c95S11,c95S20,q3,r3,ho,k4,m8]
   exact push _ _ (by rw [hd]; unfold listP; rw [if_pos (.inr ⟨k4,m8⟩)])
  by_cases m9:o.Method=9
  ·simp (disch:=first|omega|exact zF rfl|exact zG rfl|exact fun h=>h|(simp only[zA,zB,zC,zD,bytesW];omega)) only[go_sem,c95S11,c95S20,q3,r3,ho,k4,m9]
   refine ⟨fun h0=>?_,fun h0=>?_⟩
   ·obtain rfl:s=[]:=List.eq_nil_of_length_eq_zero (by omega)
    refine bdW_built (cells:=#[.slice none 0 0,.int .i64 (-1),.bool true]) (by kernel_rfl) ?_
    simp (disch:=first|omega|exact zF rfl|exact zG rfl|exact fun h=>h|(simp only[zA,zB,zC,zD,bytesW];omega)) only[go_sem,c95S11,c95S20,q3]
    exact res s3 rfl (by rw [hd]; unfold listP; simp [k4,m9]) RdS.nil (fun k hk=>absurd hk slFoot_none) (fun k hk=>absurd hk slFoot_none)
   ·have hne:s≠[]:=fun e=>h0 (by rw [e]; rfl)
    have h0':0<s.length:=List.length_pos_iff.2 hne
    obtain ⟨p,rfl⟩:=h2.ptr h0'
    have ep:=RdS.int h3 (k:=s.length - 1) (by omega)
    refine c95draw3 ?_
    simp (disch:=first|omega|exact zF rfl|exact zG rfl|exact fun h=>h|(simp only[zA,zB,zC,zD,bytesW];omega)) only[go_sem,c95S11,c95S20,c95D3,ti,ep]
    refine ⟨⟨by omega,by omega⟩,⟨by omega,by omega⟩,⟨by omega,by omega⟩,⟨by omega,by omega⟩,?_⟩
    refine bdW_built (cells:=#[.slice (offA (some p) c 0 1) (s.length - 1) c,.int .i64 s[s.length - 1],.bool true]) (by kernel_rfl) ?_
    simp (disch:=first|omega|exact zF rfl|exact zG rfl|exact fun h=>h|(simp only[zA,zB,zC,zD,bytesW];omega)) only[go_sem,c95S11,c95S20,c95D3,q4]
    have hr:RdS w2.drew 1 intE (.slice (offA (some p) c 0 1) (s.length - 1) c) s.dropLast:=by
     have:=rd_take (k:=s.length - 1) (show Rd _ 1 (.slice (some p) s.length c) s.length (s.flatMap intE) from h3) (by omega)
     have e:s.dropLast.flatMap intE=(s.flatMap intE).take ((s.length - 1) * 1):=by
      rw [Nat.mul_one,List.dropLast_eq_take]
      exact ints_take s _
     have e2:s.dropLast.length=s.length - 1:=List.length_dropLast
     unfold RdS
     rw [e,e2]
     exact this
    have hb:∀ {k},slFoot (.slice (offA (some p) c 0 1) (s.length - 1) c) k→k=p.block:=fun hk=>(offA_own hk).symm
    have hp:=h.footLt (by decide) (k:=p.block) ⟨p,_,_,rfl,by omega,rfl⟩
    exact res s4 rfl (by rw [hd]; unfold listP; simp [k4,m9,hne,List.getLast_eq_getElem]) hr (fun k hk=>.inl ⟨p,_,_,rfl,by omega,hb hk⟩) (fun k hk=>by rw [hb hk]; omega)
  ·simp (disch:=first|omega|exact zF rfl|exact zG rfl|exact fun h=>h|(simp only[zA,zB,zC,zD,bytesW];omega)) only[go_sem,c95S11,c95S20,q3,r3,ho,k4,m8,m9]
   refine c95draw4 ?_
   simp (disch:=first|omega|exact zF rfl|exact zG rfl|exact fun h=>h|(simp only[zA,zB,zC,zD,bytesW];omega)) only[go_sem,c95S11,c95S20,c95D4,k4,m8,m9]
   refine bdW_built (cells:=#[.slice none 0 0,.int .i64 0,.bool false]) (by kernel_rfl) ?_
   simp (disch:=first|omega|exact zF rfl|exact zG rfl|exact fun h=>h|(simp only[zA,zB,zC,zD,bytesW];omega)) only[go_sem,c95S11,c95S20,q4]
   exact bad s4 rfl (by rw [hd]; unfold listP; simp [k4,m8,m9])
 by_cases k6:o.Kind=6
 ·have hd:doP s o=(if o.Method=13∧s=[] then some ([o.Proc],0) else if o.Method=14∧s=[o.Proc] then some ([],0) else none):=by unfold doP; rw [if_neg k12,if_neg (by simp [k3,k4]),if_neg (by omega),if_pos k6]
  simp (disch:=first|omega|exact zF rfl|exact zG rfl|exact fun h=>h|(simp only[zA,zB,zC,zD,bytesW];omega)) only[go_sem,c95S11,c95S20,q3,r3,ho,k6]
  by_cases m13:o.Method=13
  ·simp (disch:=first|omega|exact zF rfl|exact zG rfl|exact fun h=>h|(simp only[zA,zB,zC,zD,bytesW];omega)) only[go_sem,c95S11,c95S20,m13]
   refine ⟨fun h0=>?_,fun h0=>?_⟩
   ·obtain rfl:s=[]:=List.eq_nil_of_length_eq_zero (by omega)
    refine bsW_ones ty25mkI rfl rfl (by decide) (by decide) (intE_one _) ?_
    simp (disch:=first|omega|exact zF rfl|exact zG rfl|exact fun h=>h|(simp only[zA,zB,zC,zD,bytesW];omega)) only[go_sem,c95S11,c95S20]
    refine bdW_built (cells:=#[.slice (some ⟨w2.heap.size,0,none⟩) 1 1,.int .i64 0,.bool true]) (by kernel_rfl) ?_
    have s5:=s3.alloc' (.cells #[.int .i64 o.Proc] 3)
    have q5:=s5.rules 0 rfl
    simp (disch:=first|omega|exact zF rfl|exact zG rfl|exact fun h=>h|(simp only[zA,zB,zC,zD,bytesW];omega)) only[go_sem,c95S11,c95S20,q5]
    have fr:∀ {k},slFoot (.slice (some ⟨w2.heap.size,0,none⟩) 1 1) k→k=w2.heap.size:=fun hk=>by
     have:=slFoot_own hk
     simp only [Value.ownBlock,Option.some.injEq] at this
     exact this.symm
    exact res s5 rfl (by rw [hd,if_pos ⟨m13,rfl⟩]) (int_new o.Proc rfl) (fun k hk=>.inr (by rw [fr hk]; omega)) (fun k hk=>by rw [fr hk]; omega)
   ·have hne:s≠[]:=fun e=>h0 (by rw [e]; rfl)
    refine c95draw4 ?_
    simp (disch:=first|omega|exact zF rfl|exact zG rfl|exact fun h=>h|(simp only[zA,zB,zC,zD,bytesW];omega)) only[go_sem,c95S11,c95S20,c95D4,m13]
    refine bdW_built (cells:=#[.slice none 0 0,.int .i64 0,.bool false]) (by kernel_rfl) ?_
    simp (disch:=first|omega|exact zF rfl|exact zG rfl|exact fun h=>h|(simp only[zA,zB,zC,zD,bytesW];omega)) only[go_sem,c95S11,c95S20,q4]
    exact bad s4 rfl (by rw [hd,if_neg (by simp [hne]),if_neg (by simp [m13])])
  ·simp (disch:=first|omega|exact zF rfl|exact zG rfl|exact fun h=>h|(simp only[zA,zB,zC,zD,bytesW];omega)) only[go_sem,c95S11,c95S20,m13]
   refine c95draw4 ?_
   by_cases m14:o.Method=14
   ·simp (disch:=first|omega|exact zF rfl|exact zG rfl|exact fun h=>h|(simp only[zA,zB,zC,zD,bytesW];omega)) only[go_sem,c95S11,c95S20,c95D4,m14]
    refine ⟨fun h1=>?_,fun h1=>?_⟩
    ·obtain ⟨x,rfl⟩:=List.length_eq_one_iff.1 (show s.length=1 by omega)
     obtain ⟨p,rfl⟩:=h3.ptr (by simp)
     have ep:=RdS.int h3 (k:=0) (by simp)
     rw [show p.add 0=p from rfl,show ([x]:List Int)[0]=x from rfl] at ep
     simp (disch:=first|omega|exact zF rfl|exact zG rfl|exact fun h=>h|(simp only[zA,zB,zC,zD,bytesW];omega)) only[go_sem,c95S11,c95S20,c95D4,r4,ho,ep]
     refine ⟨fun e=>?_,fun e=>?_⟩
     ·refine bdW_built (cells:=#[.slice none 0 0,.int .i64 0,.bool true]) (by kernel_rfl) ?_
      simp (disch:=first|omega|exact zF rfl|exact zG rfl|exact fun h=>h|(simp only[zA,zB,zC,zD,bytesW];omega)) only[go_sem,c95S11,c95S20,q4]
      exact res s4 rfl (by rw [hd,if_neg (by simp),if_pos ⟨m14,by rw [e]⟩]) RdS.nil (fun k hk=>absurd hk slFoot_none) (fun k hk=>absurd hk slFoot_none)
     ·refine bdW_built (cells:=#[.slice none 0 0,.int .i64 0,.bool false]) (by kernel_rfl) ?_
      simp (disch:=first|omega|exact zF rfl|exact zG rfl|exact fun h=>h|(simp only[zA,zB,zC,zD,bytesW];omega)) only[go_sem,c95S11,c95S20,q4]
      exact bad s4 rfl (by rw [hd,if_neg (by simp),if_neg (by simp [e])])
    ·have hne:s≠[o.Proc]:=fun e=>h1 (by rw [e]; rfl)
     refine bdW_built (cells:=#[.slice none 0 0,.int .i64 0,.bool false]) (by kernel_rfl) ?_
     simp (disch:=first|omega|exact zF rfl|exact zG rfl|exact fun h=>h|(simp only[zA,zB,zC,zD,bytesW];omega)) only[go_sem,c95S11,c95S20,q4]
     exact bad s4 rfl (by rw [hd,if_neg (by simp [m13]),if_neg (by simp [hne])])
   ·simp (disch:=first|omega|exact zF rfl|exact zG rfl|exact fun h=>h|(simp only[zA,zB,zC,zD,bytesW];omega)) only[go_sem,c95S11,c95S20,c95D4,m14]
    refine bdW_built (cells:=#[.slice none 0 0,.int .i64 0,.bool false]) (by kernel_rfl) ?_
    simp (disch:=first|omega|exact zF rfl|exact zG rfl|exact fun h=>h|(simp only[zA,zB,zC,zD,bytesW];omega)) only[go_sem,c95S11,c95S20,q4]
    exact bad s4 rfl (by rw [hd,if_neg (by simp [m13]),if_neg (by simp [m14])])
 by_cases k5:o.Kind=5
 ·have hd:doP s o=setP s o:=by unfold doP; rw [if_neg k12,if_neg (by simp [k3,k4]),if_pos k5]
  simp (disch:=first|omega|exact zF rfl|exact zG rfl|exact fun h=>h|(simp only[zA,zB,zC,zD,bytesW];omega)) only[go_sem,c95S11,c95S20,q3,r3,ho,k5]
  refine c95draw4 ?_
  simp (disch:=first|omega|exact zF rfl|exact zG rfl|exact fun h=>h|(simp only[zA,zB,zC,zD,bytesW];omega)) only[go_sem,c95S11,c95S20,c95D4,k5,q4,r4,ho]
  have hso:=hs k5
  have tab:∀ {w3 w4:World} {n:Int},St w w4 (fun _=>False) [.blk (w.heap.size+1) #[.slice none 0 0,.int .i64 0,.bool false] 150,.blk w.heap.size o.enc.toArray 52] []→setP s o=some (s,n)→StepA w (w4.fill (w.heap.size+1) #[.slice a s.length c,.int .i64 n,.bool true]) (.slice a s.length c) (doP s o) (.agg #[.slice a s.length c,.int .i64 n,.bool true])∧Below w.heap.size w (w4.fill (w.heap.size+1) #[.slice a s.length c,.int .i64 n,.bool true]):=fun s5 e =>
   res s5 rfl (hd.trans e) (h.below s5.bel (by decide)) (fun k hk=>oldF hk) (fun k hk=>oldL hk (Nat.le_refl _))
  have hlen:(s.filter (fun x=>!decide (x=o.Arg))).length<s.length↔o.Arg∈s:=by
   rw [List.length_filter_lt_length_iff_exists]
   simp
  refine Ret.mono (without_ok _ s o.Arg w2.drew h3 hl) ?_
  rintro u w5 ⟨own5,b5⟩
  have s5:=s4.call b5
  have q5:=s5.rules 0 rfl
  have r5:=s5.rules 1 rfl
  have h5:=h.below s5.bel (by decide)
  obtain ⟨au,cu,rfl,_⟩:=own_slice own5
  simp (disch:=first|omega|exact zF rfl|exact zG rfl|exact fun h=>h|(simp only[zA,zB,zC,zD,bytesW];omega)) only[go_sem,c95S20]
  by_cases hin:o.Arg∈s
  ·have hlt:(((s.filter (fun x=>!decide (x=o.Arg))).length:Nat):Int)<s.length:=by have:=hlen.2 hin; omega
   by_cases m12:o.Method=12
   ·simp (disch:=first|omega|exact zF rfl|exact zG rfl|exact fun h=>h|(simp only[zA,zB,zC,zD,bytesW];omega)) only[go_sem,c95S11,c95S20,hlt,m12]
    refine bdW_built (cells:=#[.slice a s.length c,.int .i64 1,.bool true]) (by kernel_rfl) ?_
    simp (disch:=first|omega|exact zF rfl|exact zG rfl|exact fun h=>h|(simp only[zA,zB,zC,zD,bytesW];omega)) only[go_sem,c95S11,c95S20,q5]
    exact tab (w3:=w5) s5 (by unfold setP; rw [if_pos m12,if_pos hin])
   by_cases m10:o.Method=10
   ·simp (disch:=first|omega|exact zF rfl|exact zG rfl|exact fun h=>h|(simp only[zA,zB,zC,zD,bytesW];omega)) only[go_sem,c95S11,c95S20,hlt,m10]
    refine bdW_built (cells:=#[.slice a s.length c,.int .i64 0,.bool true]) (by kernel_rfl) ?_
    simp (disch:=first|omega|exact zF rfl|exact zG rfl|exact fun h=>h|(simp only[zA,zB,zC,zD,bytesW];omega)) only[go_sem,c95S11,c95S20,q5]
    exact tab (w3:=w5) s5 (by unfold setP; rw [if_neg m12,if_pos m10,if_pos hin])
   by_cases m11:o.Method=11
   ·simp (disch:=first|omega|exact zF rfl|exact zG rfl|exact fun h=>h|(simp only[zA,zB,zC,zD,bytesW];omega)) only[go_sem,c95S11,c95S20,hlt,m11,r5,ho]
    refine Ret.mono (without_ok _ s o.Arg w5 h5 hl) ?_
    rintro u w6 ⟨own6,b6⟩
    have s6:=s5.call b6
    have q6:=s6.rules 0 rfl
    obtain ⟨a6,c6,rfl,_⟩:=own_slice own6
    simp (disch:=first|omega|exact zF rfl|exact zG rfl|exact fun h=>h|(simp only[zA,zB,zC,zD,bytesW];omega)) only[go_sem,c95S11,c95S20]
    refine bdW_built (cells:=#[.slice a6 (s.filter (fun x=>!decide (x=o.Arg))).length c6,.int .i64 1,.bool true]) (by kernel_rfl) ?_
    simp (disch:=first|omega|exact zF rfl|exact zG rfl|exact fun h=>h|(simp only[zA,zB,zC,zD,bytesW];omega)) only[go_sem,c95S11,c95S20,q6]
    have hsz5:w.heap.size+2≤w5.heap.size:=by have:=b5.size; simp only [World.size_drew] at this; omega
    exact res s6 rfl (by rw [hd]; unfold setP; rw [if_neg m12,if_neg m10,if_pos m11,if_pos hin]) (RdS.of_own' own6 (delP s o.Arg) rfl rfl) (fun k hk=>.inr (by have:=(World.ownsRow.lt own6 k (slFoot_own hk)).1; omega)) (fun k hk=>by have:=(World.ownsRow.lt own6 k (slFoot_own hk)).1; omega)
   ·simp (disch:=first|omega|exact zF rfl|exact zG rfl|exact fun h=>h|(simp only[zA,zB,zC,zD,bytesW];omega)) only[go_sem,c95S11,c95S20,hlt,m10,m11,m12]
    refine bdW_built (cells:=#[.slice none 0 0,.int .i64 0,.bool false]) (by kernel_rfl) ?_
    simp (disch:=first|omega|exact zF rfl|exact zG rfl|exact fun h=>h|(simp only[zA,zB,zC,zD,bytesW];omega)) only[go_sem,c95S11,c95S20,q5]
    exact bad s5 rfl (by rw [hd]; unfold setP; rw [if_neg m12,if_neg m10,if_neg m11])
  ·have hlt:¬ (((s.filter (fun x=>!decide (x=o.Arg))).length:Nat):Int)<s.length:=fun e=>hin (hlen.1 (by omega))
   by_cases m12:o.Method=12
   ·simp (disch:=first|omega|exact zF rfl|exact zG rfl|exact fun h=>h|(simp only[zA,zB,zC,zD,bytesW];omega)) only[go_sem,c95S11,c95S20,hlt,m12]
    refine bdW_built (cells:=#[.slice a s.length c,.int .i64 0,.bool true]) (by kernel_rfl) ?_
    simp (disch:=first|omega|exact zF rfl|exact zG rfl|exact fun h=>h|(simp only[zA,zB,zC,zD,bytesW];omega)) only[go_sem,c95S11,c95S20,q5]
    exact tab (w3:=w5) s5 (by unfold setP; rw [if_pos m12,if_neg hin])
   by_cases m10:o.Method=10
   ·simp (disch:=first|omega|exact zF rfl|exact zG rfl|exact fun h=>h|(simp only[zA,zB,zC,zD,bytesW];omega)) only[go_sem,c95S11,c95S20,hlt,m10,r5,ho]
    refine Ret.mono (with_ok _ s o.Arg w5 h5 hl hso hin) ?_
    rintro u w6 ⟨own6,b6⟩
    have s6:=s5.call b6
    have q6:=s6.rules 0 rfl
    obtain ⟨a6,c6,rfl,_⟩:=own_slice own6
    simp (disch:=first|omega|exact zF rfl|exact zG rfl|exact fun h=>h|(simp only[zA,zB,zC,zD,bytesW];omega)) only[go_sem,c95S11,c95S20]
    refine bdW_built (cells:=#[.slice a6 (insP s o.Arg).length c6,.int .i64 1,.bool true]) (by kernel_rfl) ?_
    simp (disch:=first|omega|exact zF rfl|exact zG rfl|exact fun h=>h|(simp only[zA,zB,zC,zD,bytesW];omega)) only[go_sem,c95S11,c95S20,q6]
    have hsz5:w.heap.size+2≤w5.heap.size:=by have:=b5.size; simp only [World.size_drew] at this; omega
    exact res s6 rfl (by rw [hd]; unfold setP; rw [if_neg m12,if_pos m10,if_neg hin]) (RdS.of_own' own6 (insP s o.Arg) rfl rfl) (fun k hk=>.inr (by have:=(World.ownsRow.lt own6 k (slFoot_own hk)).1; omega)) (fun k hk=>by have:=(World.ownsRow.lt own6 k (slFoot_own hk)).1; omega)
   by_cases m11:o.Method=11
   ·simp (disch:=first|omega|exact zF rfl|exact zG rfl|exact fun h=>h|(simp only[zA,zB,zC,zD,bytesW];omega)) only[go_sem,c95S11,c95S20,hlt,m11]
    refine bdW_built (cells:=#[.slice a s.length c,.int .i64 0,.bool true]) (by kernel_rfl) ?_
    simp (disch:=first|omega|exact zF rfl|exact zG rfl|exact fun h=>h|(simp only[zA,zB,zC,zD,bytesW];omega)) only[go_sem,c95S11,c95S20,q5]
    exact tab (w3:=w5) s5 (by unfold setP; rw [if_neg m12,if_neg m10,if_pos m11,if_neg hin])
   ·simp (disch:=first|omega|exact zF rfl|exact zG rfl|exact fun h=>h|(simp only[zA,zB,zC,zD,bytesW];omega)) only[go_sem,c95S11,c95S20,hlt,m10,m11,m12]
    refine bdW_built (cells:=#[.slice none 0 0,.int .i64 0,.bool false]) (by kernel_rfl) ?_
    simp (disch:=first|omega|exact zF rfl|exact zG rfl|exact fun h=>h|(simp only[zA,zB,zC,zD,bytesW];omega)) only[go_sem,c95S11,c95S20,q5]
    exact bad s5 rfl (by rw [hd]; unfold setP; rw [if_neg m12,if_neg m10,if_neg m11])
 ·have hd:doP s o=none:=by unfold doP; rw [if_neg k12,if_neg (by simp [k3,k4]),if_neg k5,if_neg k6]
  simp (disch:=first|omega|exact zF rfl|exact zG rfl|exact fun h=>h|(simp only[zA,zB,zC,zD,bytesW];omega)) only[go_sem,c95S11,c95S20,q3,r3,ho,k1,k2,k3,k4,k5,k6]
  refine c95draw4 ?_
  simp (disch:=first|omega|exact zF rfl|exact zG rfl|exact fun h=>h|(simp only[zA,zB,zC,zD,bytesW];omega)) only[go_sem,c95S11,c95S20,c95D4,k3,k4,k5,k6]
  refine bdW_built (cells:=#[.slice none 0 0,.int .i64 0,.bool false]) (by kernel_rfl) ?_
  simp (disch:=first|omega|exact zF rfl|exact zG rfl|exact fun h=>h|(simp only[zA,zB,zC,zD,bytesW];omega)) only[go_sem,c95S11,c95S20,q4]
  exact bad s4 rfl hd
open Go Go.Ann Go.RowKit
def before(a b:OpT):Bool:=a.Done && decide (a.Return<b.Invoke)
theorem rbefore_ok(a b:OpT)(w:World):Ret Tryz.prog 99 [.agg a.enc.toArray,.agg b.enc.toArray] w fun v w'=>v=.bool (before a b)∧Below w.heap.size w w':=by
 refine ent99 _ _ _ _ ?_
 have ha:=a.at; have hb:=b.at
 simp (disch:=first|omega|exact zF rfl|exact zG rfl|exact fun h=>h|(simp only[zA,zB,zC,zD,bytesW];omega)) only[go_sem,ha,hb]
 unfold before
 refine ⟨fun h=>?_,fun h=>?_⟩
 ·rw [h]; exact ⟨by simp,by (repeat' (first | with_reducible exact Below.refl _ _ | with_reducible assumption | (with_reducible refine Below.drew ?_) | (with_reducible refine Below.alloc ?_ ?_ _) | (with_reducible refine Below.setCell ?_ ?_ _) | (with_reducible refine Below.fill ?_ ?_) | (with_reducible refine Below.via (by assumption) ?_ ?_) | omega | (simp only [World.size_alloc,World.size_drew,World.size_setCell,size_fill,bytesW]; omega)))⟩
 ·rw [h]; exact ⟨by simp,by (repeat' (first | with_reducible exact Below.refl _ _ | with_reducible assumption | (with_reducible refine Below.drew ?_) | (with_reducible refine Below.alloc ?_ ?_ _) | (with_reducible refine Below.setCell ?_ ?_ _) | (with_reducible refine Below.fill ?_ ?_) | (with_reducible refine Below.via (by assumption) ?_ ?_) | omega | (simp only [World.size_alloc,World.size_drew,World.size_setCell,size_fill,bytesW]; omega)))⟩
open Go Go.Ann Go.RowKit
theorem rstep_ok(v:Value)(s:List Int)(o:OpT)(w:World)(h:RdS w 1 intE v s)(hl:s.length≤1000000)(hs:o.Kind=5→s.Pairwise (· < ·)) :
  Ret Tryz.prog 72 [v,.agg o.enc.toArray] w fun u w'=>(∃ t ok,u=.tuple #[t,.bool ok]∧match stepP s o with
   | none=>ok=false
   | some s'=>ok=true∧RdS w' 1 intE t s'∧∀ k,slFoot t k→slFoot v k∨w.heap.size≤k)∧Below w.heap.size w w':=by
 refine ent72 _ _ _ _ ?_
 have ho:=o.at
 have hw1:Below w.heap.size w (w.alloc (.cells o.enc.toArray 52)):=(Below.refl _ w).alloc (Nat.le_refl _) _
 simp (disch:=first|omega|exact zF rfl|exact zG rfl|exact fun h=>h|(simp only[zA,zB,zC,zD,bytesW];omega)) only[go_sem]
 refine Ret.mono (rdo_ok v s o _ (h.below hw1 (by decide)) hl hs) ?_
 rintro _ w2 ⟨⟨t,a,ok,rfl,⟨ta,tn,tc,rfl⟩,hm⟩,b2⟩
 have bb:=Below.next hw1 b2
 have hB2:Blk w2 w.heap.size o.enc.toArray 52:=Blk.new.below b2 Blk.new.lt
 have s2:=((((St.start (W0:=w)).box o.enc.toArray 52).call b2)).box #[.slice ta tn tc,.int .i64 a,.bool ok] 150
 have r2:=s2.rules 1 rfl
 have q2:=s2.rules 0 rfl
 have lt2:w.heap.size<w2.heap.size:=hB2.lt
 simp (disch:=first|omega|exact zF rfl|exact zG rfl|exact fun h=>h|(simp only[zA,zB,zC,zD,bytesW];omega)) only[go_sem,q2]
 cases hd:doP s o with
 | none =>
  rw [hd] at hm
  have hm:ok=false:=hm
  subst hm
  have e:stepP s o=none:=by unfold stepP; rw [hd]
  simp (disch:=first|omega|exact zF rfl|exact zG rfl|exact fun h=>h|(simp only[zA,zB,zC,zD,bytesW];omega)) only[go_sem,c72S1,r2,q2,ho]
  exact ⟨⟨_,_,rfl,by rw [e]⟩,s2.bel⟩
 | some p =>
  obtain ⟨s',n⟩:=p
  rw [hd] at hm
  obtain ⟨rfl,rfl,h3,f3⟩:=hm
  have f3':∀ k,slFoot (.slice ta tn tc) k→slFoot v k∨w.heap.size≤k:=fun k hk=>(f3 k hk).imp id fun h=>Nat.le_trans (by simp) h
  have h4:=h3.below ((Below.refl _ w2).alloc (Nat.le_refl _) (.cells #[.slice ta tn tc,.int .i64 a,.bool true] 150)) (by decide)
  cases hdn:o.Done with
  | false =>
   have e:stepP s o=some s':=by unfold stepP; rw [hd]; simp [hdn]
   simp (disch:=first|omega|exact zF rfl|exact zG rfl|exact fun h=>h|(simp only[zA,zB,zC,zD,bytesW];omega)) only[go_sem,c72S1,r2,q2,ho,hdn]
   exact ⟨⟨_,_,rfl,by rw [e]; exact ⟨rfl,h4,f3'⟩⟩,s2.bel⟩
  | true =>
   simp (disch:=first|omega|exact zF rfl|exact zG rfl|exact fun h=>h|(simp only[zA,zB,zC,zD,bytesW];omega)) only[go_sem,c72S1,r2,q2,ho,hdn]
   refine ⟨fun hne=>⟨⟨_,_,rfl,?_⟩,s2.bel⟩,fun heq=>⟨⟨_,_,rfl,?_⟩,s2.bel⟩⟩
   ·rw [show stepP s o=none by unfold stepP; rw [hd]; simp [hdn,hne]]
   ·rw [show stepP s o=some s' by unfold stepP; rw [hd]; simp [hdn,heq]]
    exact ⟨rfl,h4,f3'⟩
open Go Go.Ann Go.RowKit
def maskN:List Bool→Nat
 | []=>0
 | b::l=>b.toNat+2 * maskN l
end Go.Proofs.YtoadmihnihfjkaaGreat

end
