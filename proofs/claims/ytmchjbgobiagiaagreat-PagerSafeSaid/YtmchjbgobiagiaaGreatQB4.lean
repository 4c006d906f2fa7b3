/- Texts put together by program. -/
import Derived.Test.YtmchjbgobiagiaaGreatQB3
namespace Go.Proofs.YtmchjbgobiagiaaGreat
open Go Go.Ann
noncomputable def c20S7 (_ : Unit) : Cmd := (.seq (.ops [
      ⟨some 126, .move (.tmp 0), 24, none⟩,
      ⟨some 127, .fieldAddr 23 (.tmp 5) 1, 0, none⟩,
      ⟨some 128, .load 3 (.tmp 127), 3, none⟩,
      ⟨some 129, .call ⟨.value (.func 7), #[(.tmp 126), (.tmp 128)], #[24, 3]⟩, 31, none⟩,
      ⟨some 125, .move (.tmp 129), 31, none⟩,
      ⟨some 130, .extract (.tmp 125) 0, 3, none⟩,
      ⟨some 131, .extract (.tmp 125) 1, 30, none⟩,
      ⟨some 19, .assign (.tmp 130), 3, none⟩,
      ⟨some 20, .assign (.tmp 131), 30, none⟩] [17, 18, 19, 20]) (sg c20S6))
noncomputable def c20S8 (_ : Unit) : Cmd := (.ops [
       ⟨some 153, .move (.tmp 0), 24, none⟩,
       ⟨some 154, .fieldAddr 23 (.tmp 5) 1, 0, none⟩,
       ⟨some 155, .load 3 (.tmp 154), 3, none⟩,
       ⟨some 156, .fieldAddr 23 (.tmp 5) 2, 0, none⟩,
       ⟨some 157, .load 3 (.tmp 156), 3, none⟩,
       ⟨some 158, .call ⟨.value (.func 11), #[(.tmp 153), (.tmp 155), (.tmp 157)], #[24, 3, 3]⟩, 30, none⟩,
       ⟨some 8, .assign (.tmp 158), 30, none⟩] [1, 7, 8, 9])
noncomputable def c20S9 (_ : Unit) : Cmd := (.ops [
         ⟨some 33, .move (.tmp 0), 24, none⟩,
         ⟨some 34, .call ⟨.value (.func 14), #[(.tmp 33)], #[24]⟩, 30, none⟩,
         ⟨some 8, .assign (.tmp 34), 30, none⟩] [1, 7, 8, 9])
noncomputable def c20S10 (_ : Unit) : Cmd := (.seq (.ops [
 ⟨some 177, .move (.tmp 1), 56, none⟩,
 ⟨some 178, .load 51 (.tmp 9), 51, none⟩,
 ⟨some 179, .nilCheck (.tmp 177), 0, none⟩,
 ⟨none, .store 51 (.tmp 179) (.tmp 178), 0, none⟩] [7, 8])
 (.seq (.ops [
 ⟨some 180, .move (.tmp 8), 30, none⟩,
 ⟨some 181, .move (.tmp 7), 3, none⟩,
 ⟨some 182, .binOp .eql 3 (.tmp 180) (.tmp 181) 3, 4, none⟩,
 ⟨some 6, .assign (.tmp 182), 4, none⟩] [6])
 .ret))
noncomputable def c20 : Cmd := (.seq (.ops [
 ⟨some 5, .box 23 (.tmp 2), 0, none⟩,
 ⟨some 6, .assign (.const (.bool false)), 4, none⟩] [0, 1, 5])
 (.seq (.ops [
 ⟨some 7, .assign (.const (.int .i64 0)), 3, none⟩,
 ⟨some 8, .assign (.const (.int .i64 0)), 30, none⟩] [0, 1, 5, 7, 8])
 (.seq (.ops [
 ⟨some 21, .move (.tmp 1), 56, none⟩,
 ⟨some 22, .nilCheck (.tmp 21), 0, none⟩,
 ⟨some 23, .load 51 (.tmp 22), 51, none⟩,
 ⟨some 9, .alloc 51, 0, none⟩,
 ⟨none, .store 51 (.tmp 9) (.tmp 23), 0, none⟩] [0, 1, 5, 7, 8, 9])
 (.seq (.seq (.ops [
 ⟨some 24, .fieldAddr 23 (.tmp 5) 0, 0, none⟩,
 ⟨some 25, .load 3 (.tmp 24), 3, none⟩] [0, 1, 5, 7, 8, 9, 25])
 (.block 0 (.seq (.ops [
 ⟨some 36, .binOp .eql 3 (.tmp 25) (.const (.int .i64 0)) 3, 4, none⟩,
 ⟨some 35, .assign (.tmp 36), 4, none⟩] [0, 1, 5, 7, 8, 9, 25, 35])
 (.cond (.tmp 35)
  (.seq (.ops [
  ⟨some 10, .assign (.const (.int .i64 0)), 3, none⟩] [0, 1, 9])
  (.seq (.ops [
  ⟨some 38, .move (.tmp 1), 56, none⟩,
  ⟨some 39, .nilCheck (.tmp 38), 0, none⟩,
  ⟨some 40, .load 51 (.tmp 39), 51, none⟩,
  ⟨some 41, .call ⟨.value (.func 46), #[(.tmp 40)], #[56]⟩, 80, none⟩,
  ⟨some 37, .move (.tmp 41), 80, none⟩,
  ⟨some 42, .extract (.tmp 37) 0, 51, none⟩,
  ⟨some 43, .extract (.tmp 37) 1, 3, none⟩,
  ⟨some 44, .extract (.tmp 37) 2, 3, none⟩,
  ⟨none, .store 51 (.tmp 9) (.tmp 42), 0, none⟩,
  ⟨some 10, .assign (.tmp 43), 3, none⟩,
  ⟨some 7, .assign (.tmp 44), 3, none⟩] [0, 1, 7, 9, 10]) (sg c20S1)))
  (.seq (.ops [
  ⟨some 55, .binOp .eql 3 (.tmp 25) (.const (.int .i64 1)) 3, 4, none⟩,
  ⟨some 54, .assign (.tmp 55), 4, none⟩] [0, 1, 5, 7, 8, 9, 25, 54])
  (.cond (.tmp 54)
   (.seq (.draw (drawOps 0 c20code) [0, 1, 5, 7, 9]) (sg c20S2))
   (.seq (.ops [
   ⟨some 70, .binOp .eql 3 (.tmp 25) (.const (.int .i64 2)) 3, 4, none⟩,
   ⟨some 69, .assign (.tmp 70), 4, none⟩] [0, 1, 5, 7, 8, 9, 25, 69])
   (.cond (.tmp 69)
    (.seq (.draw (drawOps 1 c20code) [0, 5, 13, 14]) (sg c20S4))
    (.seq (.ops [
    ⟨some 96, .binOp .eql 3 (.tmp 25) (.const (.int .i64 3)) 3, 4, none⟩,
    ⟨some 95, .assign (.tmp 96), 4, none⟩] [0, 1, 5, 7, 8, 9, 25, 95])
    (.cond (.tmp 95)
     (.seq (.draw (drawOps 2 c20code) [0, 1, 5, 7, 9]) (sg c20S5))
     (.seq (.ops [
     ⟨some 115, .binOp .eql 3 (.tmp 25) (.const (.int .i64 4)) 3, 4, none⟩,
     ⟨some 114, .assign (.tmp 115), 4, none⟩] [0, 1, 5, 7, 8, 9, 25, 114])
     (.cond (.tmp 114)
      (.seq (.draw (drawOps 3 c20code) [0, 5, 17, 18]) (sg c20S7))
      (.seq (.ops [
      ⟨some 141, .binOp .eql 3 (.tmp 25) (.const (.int .i64 5)) 3, 4, none⟩,
      ⟨some 140, .assign (.tmp 141), 4, none⟩] [0, 1, 5, 7, 8, 9, 25, 140])
      (.cond (.tmp 140)
       (.seq (.draw (drawOps 4 c20code) [0, 1, 5, 7, 9]) (sg c20S8))
       (.seq (.ops [
       ⟨some 160, .binOp .eql 3 (.tmp 25) (.const (.int .i64 6)) 3, 4, none⟩,
       ⟨some 159, .assign (.tmp 160), 4, none⟩] [0, 1, 7, 8, 9, 25, 159])
       (.cond (.tmp 159)
        (.seq (.ops [
        ⟨some 161, .move (.tmp 1), 56, none⟩,
        ⟨some 162, .nilCheck (.tmp 161), 0, none⟩,
        ⟨some 163, .fieldAddr 51 (.tmp 162) 0, 0, none⟩,
        ⟨some 164, .load 49 (.tmp 163), 49, none⟩,
        ⟨some 165, .fieldAddr 51 (.tmp 9) 1, 0, none⟩,
        ⟨none, .store 49 (.tmp 165) (.tmp 164), 0, none⟩] [0, 1, 7, 9])
        (.ops [
        ⟨some 166, .move (.tmp 0), 24, none⟩,
        ⟨some 167, .call ⟨.value (.func 13), #[(.tmp 166)], #[24]⟩, 30, none⟩,
        ⟨some 8, .assign (.tmp 167), 30, none⟩] [1, 7, 8, 9]))
        (.seq (.ops [
        ⟨some 169, .binOp .eql 3 (.tmp 25) (.const (.int .i64 7)) 3, 4, none⟩,
        ⟨some 168, .assign (.tmp 169), 4, none⟩] [0, 1, 7, 8, 9, 168])
        (.cond (.tmp 168)
         (.seq (.ops [
         ⟨some 170, .move (.tmp 1), 56, none⟩,
         ⟨some 171, .nilCheck (.tmp 170), 0, none⟩,
         ⟨some 172, .fieldAddr 51 (.tmp 171) 1, 0, none⟩,
         ⟨some 173, .load 49 (.tmp 172), 49, none⟩,
         ⟨some 174, .fieldAddr 51 (.tmp 9) 0, 0, none⟩,
         ⟨none, .store 49 (.tmp 174) (.tmp 173), 0, none⟩] [0, 1, 7, 8, 9])
         (.ops [
         ⟨some 175, .move (.tmp 0), 24, none⟩,
         ⟨some 176, .call ⟨.value (.func 8), #[(.tmp 175)], #[24]⟩, 0, none⟩] [1, 7, 8, 9]))
         (.seq (.ops [
         ⟨some 27, .move (.tmp 1), 56, none⟩,
         ⟨some 28, .nilCheck (.tmp 27), 0, none⟩,
         ⟨some 29, .load 51 (.tmp 28), 51, none⟩,
         ⟨some 30, .call ⟨.value (.func 19), #[(.tmp 29)], #[56]⟩, 52, none⟩,
         ⟨some 26, .move (.tmp 30), 52, none⟩,
         ⟨some 31, .extract (.tmp 26) 0, 51, none⟩,
         ⟨some 32, .extract (.tmp 26) 1, 3, none⟩,
         ⟨none, .store 51 (.tmp 9) (.tmp 31), 0, none⟩,
         ⟨some 7, .assign (.tmp 32), 3, none⟩] [0, 1, 7, 9]) (sg c20S9)))))))))))))))))))) (sg c20S10)))))
noncomputable def c20D0 : List (Nat × Ins) := [
 (0, ⟨some 57, .move (.tmp 1), 56, none⟩),
 (0, ⟨some 58, .nilCheck (.tmp 57), 0, none⟩),
 (0, ⟨some 60, .fieldAddr 23 (.tmp 5) 1, 0, none⟩),
 (1, ⟨some 59, .load 51 (.tmp 58), 51, none⟩),
 (2, ⟨some 61, .load 3 (.tmp 60), 3, none⟩),
 (3, ⟨some 62, .call ⟨.value (.func 47), #[(.tmp 59), (.tmp 61)], #[56, 3]⟩, 52, none⟩),
 (0, ⟨some 56, .move (.tmp 62), 52, none⟩),
 (0, ⟨some 63, .extract (.tmp 56) 0, 51, none⟩),
 (0, ⟨some 64, .extract (.tmp 56) 1, 3, none⟩),
 (3, ⟨none, .store 51 (.tmp 9) (.tmp 63), 0, none⟩),
 (0, ⟨some 7, .assign (.tmp 64), 3, none⟩)]
theorem c20draw0 {L : List Nat} {ρ : Env} {w : World} {Q : Post} (S : World → Prop) (hS : S w.drew) (h : DG Tryz.prog S c20D0 L ρ w.drew Q) : drawW Tryz.prog (drawOps 0 c20code) L ρ w Q :=
  drawW_held [2] [(0, 0), (0, 1), (0, 3), (1, 2), (2, 4), (3, 5), (0, 6), (0, 7), (0, 8), (3, 9), (0, 10)] c20D0 (by kernel_rfl) (by kernel_rfl) (by kernel_rfl) S hS h
noncomputable def c20D1 : List (Nat × Ins) := [
 (0, ⟨some 72, .move (.tmp 1), 56, none⟩),
 (0, ⟨some 73, .nilCheck (.tmp 72), 0, none⟩),
 (0, ⟨some 75, .fieldAddr 23 (.tmp 5) 1, 0, none⟩),
 (1, ⟨some 74, .load 51 (.tmp 73), 51, none⟩),
 (2, ⟨some 76, .load 3 (.tmp 75), 3, none⟩),
 (3, ⟨some 77, .call ⟨.value (.func 48), #[(.tmp 74), (.tmp 76)], #[56, 3]⟩, 83, none⟩),
 (0, ⟨some 71, .move (.tmp 77), 83, none⟩),
 (0, ⟨some 78, .extract (.tmp 71) 0, 9, none⟩),
 (0, ⟨some 79, .extract (.tmp 71) 1, 3, none⟩),
 (0, ⟨some 13, .assign (.tmp 78), 9, none⟩),
 (0, ⟨some 14, .assign (.tmp 79), 3, none⟩)]
theorem c20draw1 {L : List Nat} {ρ : Env} {w : World} {Q : Post} (S : World → Prop) (hS : S w.drew) (h : DG Tryz.prog S c20D1 L ρ w.drew Q) : drawW Tryz.prog (drawOps 1 c20code) L ρ w Q :=
  drawW_held [2] [(0, 0), (0, 1), (0, 3), (1, 2), (2, 4), (3, 5), (0, 6), (0, 7), (0, 8), (0, 9), (0, 10)] c20D1 (by kernel_rfl) (by kernel_rfl) (by kernel_rfl) S hS h
noncomputable def c20D2 : List (Nat × Ins) := [
 (0, ⟨some 98, .move (.tmp 1), 56, none⟩),
 (0, ⟨some 99, .nilCheck (.tmp 98), 0, none⟩),
 (0, ⟨some 101, .fieldAddr 23 (.tmp 5) 1, 0, none⟩),
 (0, ⟨some 103, .fieldAddr 23 (.tmp 5) 3, 0, none⟩),
 (1, ⟨some 100, .load 51 (.tmp 99), 51, none⟩),
 (1, ⟨some 102, .load 3 (.tmp 101), 3, none⟩),
 (2, ⟨some 104, .load 9 (.tmp 103), 9, none⟩),
 (3, ⟨some 105, .call ⟨.value (.func 49), #[(.tmp 100), (.tmp 102), (.tmp 104)], #[56, 3, 9]⟩, 52, none⟩),
 (0, ⟨some 97, .move (.tmp 105), 52, none⟩),
 (0, ⟨some 106, .extract (.tmp 97) 0, 51, none⟩),
 (0, ⟨some 107, .extract (.tmp 97) 1, 3, none⟩),
 (3, ⟨none, .store 51 (.tmp 9) (.tmp 106), 0, none⟩),
 (0, ⟨some 7, .assign (.tmp 107), 3, none⟩)]
theorem c20draw2 {L : List Nat} {ρ : Env} {w : World} {Q : Post} (S : World → Prop) (hS : S w.drew) (h : DG Tryz.prog S c20D2 L ρ w.drew Q) : drawW Tryz.prog (drawOps 2 c20code) L ρ w Q :=
  drawW_held [2, 4] [(0, 0), (0, 1), (0, 3), (0, 5), (1, 2), (1, 4), (2, 6), (3, 7), (0, 8), (0, 9), (0, 10), (3, 11), (0, 12)] c20D2 (by kernel_rfl) (by kernel_rfl) (by kernel_rfl) S hS h
noncomputable def c20D3 : List (Nat × Ins) := [
 (0, ⟨some 117, .move (.tmp 1), 56, none⟩),
 (0, ⟨some 118, .nilCheck (.tmp 117), 0, none⟩),
 (0, ⟨some 120, .fieldAddr 23 (.tmp 5) 1, 0, none⟩),
 (1, ⟨some 119, .load 51 (.tmp 118), 51, none⟩),
 (2, ⟨some 121, .load 3 (.tmp 120), 3, none⟩),
 (3, ⟨some 122, .call ⟨.value (.func 50), #[(.tmp 119), (.tmp 121)], #[56, 3]⟩, 86, none⟩),
 (0, ⟨some 116, .move (.tmp 122), 86, none⟩),
 (0, ⟨some 123, .extract (.tmp 116) 0, 3, none⟩),
 (0, ⟨some 124, .extract (.tmp 116) 1, 3, none⟩),
 (0, ⟨some 17, .assign (.tmp 123), 3, none⟩),
 (0, ⟨some 18, .assign (.tmp 124), 3, none⟩)]
theorem c20draw3 {L : List Nat} {ρ : Env} {w : World} {Q : Post} (S : World → Prop) (hS : S w.drew) (h : DG Tryz.prog S c20D3 L ρ w.drew Q) : drawW Tryz.prog (drawOps 3 c20code) L ρ w Q :=
  drawW_held [2] [(0, 0), (0, 1), (0, 3), (1, 2), (2, 4), (3, 5), (0, 6), (0, 7), (0, 8), (0, 9), (0, 10)] c20D3 (by kernel_rfl) (by kernel_rfl) (by kernel_rfl) S hS h
noncomputable def c20D4 : List (Nat × Ins) := [
 (0, ⟨some 143, .move (.tmp 1), 56, none⟩),
 (0, ⟨some 144, .nilCheck (.tmp 143), 0, none⟩),
 (0, ⟨some 146, .fieldAddr 23 (.tmp 5) 1, 0, none⟩),
 (0, ⟨some 148, .fieldAddr 23 (.tmp 5) 2, 0, none⟩),
 (1, ⟨some 145, .load 51 (.tmp 144), 51, none⟩),
 (1, ⟨some 147, .load 3 (.tmp 146), 3, none⟩),
 (2, ⟨some 149, .load 3 (.tmp 148), 3, none⟩),
 (3, ⟨some 150, .call ⟨.value (.func 51), #[(.tmp 145), (.tmp 147), (.tmp 149)], #[56, 3, 3]⟩, 52, none⟩),
 (0, ⟨some 142, .move (.tmp 150), 52, none⟩),
 (0, ⟨some 151, .extract (.tmp 142) 0, 51, none⟩),
 (0, ⟨some 152, .extract (.tmp 142) 1, 3, none⟩),
 (3, ⟨none, .store 51 (.tmp 9) (.tmp 151), 0, none⟩),
 (0, ⟨some 7, .assign (.tmp 152), 3, none⟩)]
theorem c20draw4 {L : List Nat} {ρ : Env} {w : World} {Q : Post} (S : World → Prop) (hS : S w.drew) (h : DG Tryz.prog S c20D4 L ρ w.drew Q) : drawW Tryz.prog (drawOps 4 c20code) L ρ w Q :=
  drawW_held [2, 4] [(0, 0), (0, 1), (0, 3), (0, 5), (1, 2), (1, 4), (2, 6), (3, 7), (0, 8), (0, 9), (0, 10), (3, 11), (0, 12)] c20D4 (by kernel_rfl) (by kernel_rfl) (by kernel_rfl) S hS h
set_option maxRecDepth 100000 in
theorem ent20 (a0 a1 a2 : Value) (w : World) (K : Value → World → Prop) (h : W Tryz.prog c20 [(0, a0), (1, a1), (2, a2)] w (finQ Tryz.prog [.tmp 6] K)) : Ret Tryz.prog 20 [a0, a1, a2] w K :=
  Ret_of_W (code := c20code) Tryz.func20 (by kernel_rfl) (by kernel_rfl) (of_decide_eq_true (by kernel_rfl)) h
@[go_sem] theorem go20 : goFunc Tryz.prog 20 = true := by kernel_rfl
noncomputable def c25code : Code := match Tryz.f25.body with | some c => c | none => .skip
noncomputable def c25S0 (_ : Unit) : Cmd := (.cond (.tmp 25)
  (.seq (.ops [
  ⟨some 4, .assign (.const (.bool false)), 4, none⟩] [4])
  .ret)
  (.skip [0, 1, 5]))
noncomputable def c25S1 (_ : Unit) : Cmd := (.ops [
 ⟨some 15, .move (.tmp 5), 3, none⟩,
 ⟨some 16, .binOp .add 3 (.tmp 15) (.const (.int .i64 1)) 3, 3, none⟩,
 ⟨some 5, .assign (.tmp 16), 3, none⟩] [0, 1, 5])
noncomputable def c25S2 (_ : Unit) : Cmd := (.seq (.block 1 (.seq (.draw (drawOps 0 c25code) [0, 1, 5, 25]) (sg c25S0))) (sg c25S1))
noncomputable def c25L0 (_ : Unit) : Cmd := (.seq (.seq (.ops [
 ⟨some 11, .move (.tmp 5), 3, none⟩,
 ⟨some 12, .move (.tmp 0), 49, none⟩,
 ⟨some 13, .call ⟨.builtin .len, #[(.tmp 12)], #[49]⟩, 3, none⟩,
 ⟨some 14, .binOp .lss 3 (.tmp 11) (.tmp 13) 3, 4, none⟩] [0, 1, 5, 14])
 (.cond (.tmp 14)
  (.skip [0, 1, 5])
  (.exit 0 []))) (sg c25S2))
noncomputable def c25S3 (_ : Unit) : Cmd := (.seq (.ops [
 ⟨some 4, .assign (.const (.bool true)), 4, none⟩] [4])
 .ret)
noncomputable def c25S4 (_ : Unit) : Cmd := (.seq (.seq (.ops [
 ⟨some 5, .assign (.const (.int .i64 0)), 3, none⟩] [0, 1, 5])
 (.block 0 (.loop (sg c25L0)))) (sg c25S3))
noncomputable def c25 : Cmd := (.seq (.ops [
 ⟨some 4, .assign (.const (.bool false)), 4, none⟩] [0, 1])
 (.seq (.seq (.ops [
 ⟨some 6, .move (.tmp 0), 49, none⟩,
 ⟨some 7, .call ⟨.builtin .len, #[(.tmp 6)], #[49]⟩, 3, none⟩,
 ⟨some 8, .move (.tmp 1), 49, none⟩,
 ⟨some 9, .call ⟨.builtin .len, #[(.tmp 8)], #[49]⟩, 3, none⟩,
 ⟨some 10, .binOp .neq 3 (.tmp 7) (.tmp 9) 3, 4, none⟩] [0, 1, 10])
 (.cond (.tmp 10)
  (.seq (.ops [
  ⟨some 4, .assign (.const (.bool false)), 4, none⟩] [4])
  .ret)
  (.skip [0, 1]))) (sg c25S4)))
noncomputable def c25D0 : List (Bool × Ins) := [
 (true, ⟨some 17, .move (.tmp 0), 49, none⟩),
 (true, ⟨some 18, .move (.tmp 5), 3, none⟩),
 (true, ⟨some 19, .indexAddr 49 (.tmp 17) (.tmp 18), 0, none⟩),
 (false, ⟨some 20, .load 9 (.tmp 19), 9, none⟩),
 (true, ⟨some 21, .move (.tmp 1), 49, none⟩),
 (true, ⟨some 22, .move (.tmp 5), 3, none⟩),
 (true, ⟨some 23, .indexAddr 49 (.tmp 21) (.tmp 22), 0, none⟩),
 (false, ⟨some 24, .load 9 (.tmp 23), 9, none⟩),
 (true, ⟨some 25, .binOp .neq 9 (.tmp 20) (.tmp 24) 9, 4, none⟩)]
theorem c25draw0 {L : List Nat} {ρ : Env} {w : World} {Q : Post} (h : DL Tryz.prog c25D0 L ρ w.drew Q) : drawW Tryz.prog (drawOps 0 c25code) L ρ w Q :=
  drawW_still [true, true, true, false, true, true, true, false, true] c25D0 (by kernel_rfl) (by kernel_rfl) (by kernel_rfl) h
set_option maxRecDepth 100000 in
theorem ent25 (a0 a1 : Value) (w : World) (K : Value → World → Prop) (h : W Tryz.prog c25 [(0, a0), (1, a1)] w (finQ Tryz.prog [.tmp 4] K)) : Ret Tryz.prog 25 [a0, a1] w K :=
  Ret_of_W (code := c25code) Tryz.func25 (by kernel_rfl) (by kernel_rfl) (of_decide_eq_true (by kernel_rfl)) h
@[go_sem] theorem go25 : goFunc Tryz.prog 25 = true := by kernel_rfl
@[go_sem] theorem go35 : goFunc Tryz.prog 35 = true := by kernel_rfl
noncomputable def c45code : Code := match Tryz.f45.body with | some c => c | none => .skip
noncomputable def c45S0 (_ : Unit) : Cmd := (.seq (.ops [
 ⟨some 18, .load 51 (.tmp 3), 51, none⟩,
 ⟨none, .store 51 (.tmp 6) (.tmp 18), 0, none⟩] [6])
 .ret)
noncomputable def c45S1 (_ : Unit) : Cmd := (.seq (.draw (drawOps 0 c45code) [3, 6]) (sg c45S0))
noncomputable def c45 : Cmd := (.seq (.ops [
 ⟨some 3, .box 51 (.tmp 0), 0, none⟩,
 ⟨some 6, .alloc 51, 0, none⟩] [1, 2, 3, 6])
 (.seq (.ops [
 ⟨some 7, .buildSlice 49 0 #[], 49, none⟩,
 ⟨some 8, .fieldAddr 51 (.tmp 3) 0, 0, none⟩,
 ⟨some 9, .load 49 (.tmp 8), 49, none⟩,
 ⟨some 10, .call ⟨.builtin .append, #[(.tmp 7), (.tmp 9)], #[49, 49]⟩, 49, none⟩,
 ⟨some 11, .fieldAddr 51 (.tmp 3) 0, 0, none⟩,
 ⟨none, .store 49 (.tmp 11) (.tmp 10), 0, none⟩] [1, 2, 3, 6]) (sg c45S1)))
noncomputable def c45D0 : List (Nat × Ins) := [
 (0, ⟨some 12, .fieldAddr 51 (.tmp 3) 0, 0, none⟩),
 (0, ⟨some 14, .move (.tmp 1), 3, none⟩),
 (0, ⟨some 15, .move (.tmp 2), 9, none⟩),
 (1, ⟨some 13, .load 49 (.tmp 12), 49, none⟩),
 (2, ⟨some 16, .call ⟨.value (.func 44), #[(.tmp 15)], #[9]⟩, 9, none⟩),
 (0, ⟨some 17, .indexAddr 49 (.tmp 13) (.tmp 14), 0, none⟩),
 (3, ⟨none, .store 9 (.tmp 17) (.tmp 16), 0, none⟩)]
theorem c45draw0 {L : List Nat} {ρ : Env} {w : World} {Q : Post} (S : World → Prop) (hS : S w.drew) (h : DG Tryz.prog S c45D0 L ρ w.drew Q) : drawW Tryz.prog (drawOps 0 c45code) L ρ w Q :=
  drawW_held [1] [(0, 0), (0, 2), (0, 3), (1, 1), (2, 4), (0, 5), (3, 6)] c45D0 (by kernel_rfl) (by kernel_rfl) (by kernel_rfl) S hS h
set_option maxRecDepth 100000 in
theorem ent45 (a0 a1 a2 : Value) (w : World) (K : Value → World → Prop) (h : W Tryz.prog c45 [(0, a0), (1, a1), (2, a2)] w (finQ Tryz.prog [.cell 6 51] K)) : Ret Tryz.prog 45 [a0, a1, a2] w K :=
  Ret_of_W (code := c45code) Tryz.func45 (by kernel_rfl) (by kernel_rfl) (of_decide_eq_true (by kernel_rfl)) h
@[go_sem] theorem go45 : goFunc Tryz.prog 45 = true := by kernel_rfl
noncomputable def c46code : Code := match Tryz.f46.body with | some c => c | none => .skip
noncomputable def c46S0 (_ : Unit) : Cmd := .ret
noncomputable def c46S1 (_ : Unit) : Cmd := (.cond (.tmp 19)
  (.seq (.ops [
  ⟨some 20, .load 51 (.tmp 1), 51, none⟩,
  ⟨some 21, .move (.tmp 5), 3, none⟩,
  ⟨some 22, .call ⟨.value (.func 73), #[(.tmp 20), (.tmp 21), (.const (.bool true))], #[51, 3, 4]⟩, 51, none⟩,
  ⟨some 23, .move (.tmp 5), 3, none⟩,
  ⟨some 24, .call ⟨.value (.func 45), #[(.tmp 22), (.tmp 23), (.const (.string (ofL [])))], #[51, 3, 9]⟩, 51, none⟩,
  ⟨some 25, .move (.tmp 5), 3, none⟩,
  ⟨none, .store 51 (.tmp 2) (.tmp 24), 0, none⟩,
  ⟨some 3, .assign (.tmp 25), 3, none⟩,
  ⟨some 4, .assign (.const (.int .i64 0)), 3, none⟩] [2, 3, 4]) (sg c46S0))
  (.skip [1, 2, 5]))
noncomputable def c46S2 (_ : Unit) : Cmd := (.ops [
 ⟨some 11, .move (.tmp 5), 3, none⟩,
 ⟨some 12, .binOp .add 3 (.tmp 11) (.const (.int .i64 1)) 3, 3, none⟩,
 ⟨some 5, .assign (.tmp 12), 3, none⟩] [1, 2, 5])
noncomputable def c46S3 (_ : Unit) : Cmd := (.seq (.block 1 (.seq (.ops [
 ⟨some 13, .fieldAddr 51 (.tmp 1) 0, 0, none⟩,
 ⟨some 14, .load 49 (.tmp 13), 49, none⟩,
 ⟨some 15, .indexAddr 49 (.tmp 14) (.const (.int .i64 0)), 0, none⟩,
 ⟨some 16, .load 9 (.tmp 15), 9, none⟩,
 ⟨some 17, .move (.tmp 5), 3, none⟩,
 ⟨some 18, .call ⟨.value (.func 72), #[(.tmp 16), (.tmp 17)], #[9, 3]⟩, 4, none⟩,
 ⟨some 19, .unOp .not 4 (.tmp 18), 4, none⟩] [1, 2, 5, 19]) (sg c46S1))) (sg c46S2))
noncomputable def c46L0 (_ : Unit) : Cmd := (.seq (.seq (.ops [
 ⟨some 6, .move (.tmp 5), 3, none⟩,
 ⟨some 7, .fieldAddr 51 (.tmp 1) 0, 0, none⟩,
 ⟨some 8, .load 49 (.tmp 7), 49, none⟩,
 ⟨some 9, .call ⟨.builtin .len, #[(.tmp 8)], #[49]⟩, 3, none⟩,
 ⟨some 10, .binOp .lss 3 (.tmp 6) (.tmp 9) 3, 4, none⟩] [1, 2, 5, 10])
 (.cond (.tmp 10)
  (.skip [1, 2, 5])
  (.exit 0 [1, 2]))) (sg c46S3))
noncomputable def c46S4 (_ : Unit) : Cmd := (.seq (.ops [
 ⟨some 26, .load 51 (.tmp 1), 51, none⟩,
 ⟨none, .store 51 (.tmp 2) (.tmp 26), 0, none⟩,
 ⟨some 3, .assign (.const (.int .i64 0)), 3, none⟩,
 ⟨some 4, .assign (.const (.int .i64 13)), 3, none⟩] [2, 3, 4])
 .ret)
noncomputable def c46 : Cmd := (.seq (.ops [
 ⟨some 1, .box 51 (.tmp 0), 0, none⟩,
 ⟨some 2, .alloc 51, 0, none⟩,
 ⟨some 3, .assign (.const (.int .i64 0)), 3, none⟩,
 ⟨some 4, .assign (.const (.int .i64 0)), 3, none⟩] [1, 2])
 (.seq (.seq (.ops [
 ⟨some 5, .assign (.const (.int .i64 2)), 3, none⟩] [1, 2, 5])
 (.block 0 (.loop (sg c46L0)))) (sg c46S4)))
set_option maxRecDepth 100000 in
theorem ent46 (a0 : Value) (w : World) (K : Value → World → Prop) (h : W Tryz.prog c46 [(0, a0)] w (finQ Tryz.prog [.cell 2 51, .tmp 3, .tmp 4] K)) : Ret Tryz.prog 46 [a0] w K :=
  Ret_of_W (code := c46code) Tryz.func46 (by kernel_rfl) (by kernel_rfl) (of_decide_eq_true (by kernel_rfl)) h
@[go_sem] theorem go46 : goFunc Tryz.prog 46 = true := by kernel_rfl
noncomputable def c47code : Code := match Tryz.f47.body with | some c => c | none => .skip
noncomputable def c47S0 (_ : Unit) : Cmd := (.cond (.tmp 9)
  (.seq (.ops [
  ⟨some 10, .load 51 (.tmp 2), 51, none⟩,
  ⟨none, .store 51 (.tmp 4) (.tmp 10), 0, none⟩,
  ⟨some 5, .assign (.const (.int .i64 6)), 3, none⟩] [4, 5])
  .ret)
  (.skip [1, 2, 4]))
noncomputable def c47S1 (_ : Unit) : Cmd := .ret
noncomputable def c47S2 (_ : Unit) : Cmd := (.seq (.ops [
 ⟨some 11, .load 51 (.tmp 2), 51, none⟩,
 ⟨some 12, .move (.tmp 1), 3, none⟩,
 ⟨some 13, .call ⟨.value (.func 73), #[(.tmp 11), (.tmp 12), (.const (.bool false))], #[51, 3, 4]⟩, 51, none⟩,
 ⟨none, .store 51 (.tmp 4) (.tmp 13), 0, none⟩,
 ⟨some 5, .assign (.const (.int .i64 0)), 3, none⟩] [4, 5]) (sg c47S1))
noncomputable def c47 : Cmd := (.seq (.ops [
 ⟨some 2, .box 51 (.tmp 0), 0, none⟩,
 ⟨some 4, .alloc 51, 0, none⟩,
 ⟨some 5, .assign (.const (.int .i64 0)), 3, none⟩] [1, 2, 4])
 (.seq (.seq (.ops [
 ⟨some 6, .load 51 (.tmp 2), 51, none⟩,
 ⟨some 7, .move (.tmp 1), 3, none⟩,
 ⟨some 8, .call ⟨.value (.func 74), #[(.tmp 6), (.tmp 7)], #[51, 3]⟩, 4, none⟩,
 ⟨some 9, .unOp .not 4 (.tmp 8), 4, none⟩] [1, 2, 4, 9]) (sg c47S0)) (sg c47S2)))
set_option maxRecDepth 100000 in
theorem ent47 (a0 a1 : Value) (w : World) (K : Value → World → Prop) (h : W Tryz.prog c47 [(0, a0), (1, a1)] w (finQ Tryz.prog [.cell 4 51, .tmp 5] K)) : Ret Tryz.prog 47 [a0, a1] w K :=
  Ret_of_W (code := c47code) Tryz.func47 (by kernel_rfl) (by kernel_rfl) (of_decide_eq_true (by kernel_rfl)) h
@[go_sem] theorem go47 : goFunc Tryz.prog 47 = true := by kernel_rfl
noncomputable def c48code : Code := match Tryz.f48.body with | some c => c | none => .skip
noncomputable def c48S0 (_ : Unit) : Cmd := (.cond (.tmp 9)
  (.seq (.ops [
  ⟨some 4, .assign (.const (.string (ofL []))), 9, none⟩,
  ⟨some 5, .assign (.const (.int .i64 6)), 3, none⟩] [4, 5])
  .ret)
  (.skip [1, 2]))
noncomputable def c48S1 (_ : Unit) : Cmd := (.seq (.ops [
 ⟨some 10, .fieldAddr 51 (.tmp 2) 0, 0, none⟩,
 ⟨some 11, .load 49 (.tmp 10), 49, none⟩,
 ⟨some 12, .move (.tmp 1), 3, none⟩,
 ⟨some 13, .indexAddr 49 (.tmp 11) (.tmp 12), 0, none⟩,
 ⟨some 14, .load 9 (.tmp 13), 9, none⟩,
 ⟨some 4, .assign (.tmp 14), 9, none⟩,
 ⟨some 5, .assign (.const (.int .i64 0)), 3, none⟩] [4, 5])
 .ret)
noncomputable def c48 : Cmd := (.seq (.ops [
 ⟨some 2, .box 51 (.tmp 0), 0, none⟩,
 ⟨some 4, .assign (.const (.string (ofL []))), 9, none⟩,
 ⟨some 5, .assign (.const (.int .i64 0)), 3, none⟩] [1, 2])
 (.seq (.seq (.ops [
 ⟨some 6, .load 51 (.tmp 2), 51, none⟩,
 ⟨some 7, .move (.tmp 1), 3, none⟩,
 ⟨some 8, .call ⟨.value (.func 74), #[(.tmp 6), (.tmp 7)], #[51, 3]⟩, 4, none⟩,
 ⟨some 9, .unOp .not 4 (.tmp 8), 4, none⟩] [1, 2, 9]) (sg c48S0)) (sg c48S1)))
set_option maxRecDepth 100000 in
theorem ent48 (a0 a1 : Value) (w : World) (K : Value → World → Prop) (h : W Tryz.prog c48 [(0, a0), (1, a1)] w (finQ Tryz.prog [.tmp 4, .tmp 5] K)) : Ret Tryz.prog 48 [a0, a1] w K :=
  Ret_of_W (code := c48code) Tryz.func48 (by kernel_rfl) (by kernel_rfl) (of_decide_eq_true (by kernel_rfl)) h
@[go_sem] theorem go48 : goFunc Tryz.prog 48 = true := by kernel_rfl
noncomputable def c49code : Code := match Tryz.f49.body with | some c => c | none => .skip
noncomputable def c49S0 (_ : Unit) : Cmd := (.cond (.tmp 11)
  (.seq (.ops [
  ⟨some 12, .load 51 (.tmp 3), 51, none⟩,
  ⟨none, .store 51 (.tmp 6) (.tmp 12), 0, none⟩,
  ⟨some 7, .assign (.const (.int .i64 6)), 3, none⟩] [6, 7])
  .ret)
  (.skip [1, 2, 3, 6]))
noncomputable def c49S1 (_ : Unit) : Cmd := .ret
noncomputable def c49S2 (_ : Unit) : Cmd := (.seq (.ops [
 ⟨some 17, .load 51 (.tmp 3), 51, none⟩,
 ⟨some 18, .move (.tmp 1), 3, none⟩,
 ⟨some 19, .move (.tmp 2), 9, none⟩,
 ⟨some 20, .call ⟨.value (.func 45), #[(.tmp 17), (.tmp 18), (.tmp 19)], #[51, 3, 9]⟩, 51, none⟩,
 ⟨none, .store 51 (.tmp 6) (.tmp 20), 0, none⟩,
 ⟨some 7, .assign (.const (.int .i64 0)), 3, none⟩] [6, 7]) (sg c49S1))
noncomputable def c49S3 (_ : Unit) : Cmd := (.seq (.seq (.ops [
 ⟨some 13, .move (.tmp 2), 9, none⟩,
 ⟨some 14, .call ⟨.builtin .len, #[(.tmp 13)], #[9]⟩, 3, none⟩,
 ⟨some 15, .binOp .gtr 3 (.tmp 14) (.const (.int .i64 256)) 3, 4, none⟩] [1, 2, 3, 6, 15])
 (.cond (.tmp 15)
  (.seq (.ops [
  ⟨some 16, .load 51 (.tmp 3), 51, none⟩,
  ⟨none, .store 51 (.tmp 6) (.tmp 16), 0, none⟩,
  ⟨some 7, .assign (.const (.int .i64 21)), 3, none⟩] [6, 7])
  .ret)
  (.skip [1, 2, 3, 6]))) (sg c49S2))
noncomputable def c49 : Cmd := (.seq (.ops [
 ⟨some 3, .box 51 (.tmp 0), 0, none⟩,
 ⟨some 6, .alloc 51, 0, none⟩,
 ⟨some 7, .assign (.const (.int .i64 0)), 3, none⟩] [1, 2, 3, 6])
 (.seq (.seq (.ops [
 ⟨some 8, .load 51 (.tmp 3), 51, none⟩,
 ⟨some 9, .move (.tmp 1), 3, none⟩,
 ⟨some 10, .call ⟨.value (.func 74), #[(.tmp 8), (.tmp 9)], #[51, 3]⟩, 4, none⟩,
 ⟨some 11, .unOp .not 4 (.tmp 10), 4, none⟩] [1, 2, 3, 6, 11]) (sg c49S0)) (sg c49S3)))
set_option maxRecDepth 100000 in
theorem ent49 (a0 a1 a2 : Value) (w : World) (K : Value → World → Prop) (h : W Tryz.prog c49 [(0, a0), (1, a1), (2, a2)] w (finQ Tryz.prog [.cell 6 51, .tmp 7] K)) : Ret Tryz.prog 49 [a0, a1, a2] w K :=
  Ret_of_W (code := c49code) Tryz.func49 (by kernel_rfl) (by kernel_rfl) (of_decide_eq_true (by kernel_rfl)) h
@[go_sem] theorem go49 : goFunc Tryz.prog 49 = true := by kernel_rfl
noncomputable def c50code : Code := match Tryz.f50.body with | some c => c | none => .skip
noncomputable def c50S0 (_ : Unit) : Cmd := .ret
noncomputable def c50S1 (_ : Unit) : Cmd := (.seq (.ops [
 ⟨some 16, .fieldAddr 51 (.tmp 2) 0, 0, none⟩,
 ⟨some 17, .load 49 (.tmp 16), 49, none⟩,
 ⟨some 18, .indexAddr 49 (.tmp 17) (.const (.int .i64 1)), 0, none⟩,
 ⟨some 19, .load 9 (.tmp 18), 9, none⟩,
 ⟨some 20, .move (.tmp 1), 3, none⟩,
 ⟨some 21, .binOp .mul 3 (.const (.int .i64 4)) (.tmp 20) 3, 3, none⟩,
 ⟨some 22, .move (.tmp 1), 3, none⟩,
 ⟨some 23, .binOp .mul 3 (.const (.int .i64 4)) (.tmp 22) 3, 3, none⟩,
 ⟨some 24, .binOp .add 3 (.tmp 23) (.const (.int .i64 4)) 3, 3, none⟩,
 ⟨some 25, .slice 9 (.tmp 19) (some (.tmp 21)) (some (.tmp 24)) none, 9, none⟩,
 ⟨some 26, .call ⟨.value (.func 75), #[(.tmp 25)], #[9]⟩, 58, none⟩,
 ⟨some 27, .convert 58 3 (.tmp 26), 3, none⟩,
 ⟨some 4, .assign (.tmp 27), 3, none⟩,
 ⟨some 5, .assign (.const (.int .i64 0)), 3, none⟩] [4, 5]) (sg c50S0))
noncomputable def c50S2 (_ : Unit) : Cmd := (.seq (.seq (.ops [
 ⟨some 12, .fieldAddr 51 (.tmp 2) 0, 0, none⟩,
 ⟨some 13, .load 49 (.tmp 12), 49, none⟩,
 ⟨some 14, .call ⟨.builtin .len, #[(.tmp 13)], #[49]⟩, 3, none⟩,
 ⟨some 15, .binOp .lss 3 (.tmp 14) (.const (.int .i64 2)) 3, 4, none⟩] [1, 2, 15])
 (.cond (.tmp 15)
  (.seq (.ops [
  ⟨some 4, .assign (.const (.int .i64 0)), 3, none⟩,
  ⟨some 5, .assign (.const (.int .i64 10)), 3, none⟩] [4, 5])
  .ret)
  (.skip [1, 2]))) (sg c50S1))
noncomputable def c50 : Cmd := (.seq (.ops [
 ⟨some 2, .box 51 (.tmp 0), 0, none⟩,
 ⟨some 4, .assign (.const (.int .i64 0)), 3, none⟩,
 ⟨some 5, .assign (.const (.int .i64 0)), 3, none⟩] [1, 2])
 (.seq (.seq (.ops [
 ⟨some 6, .move (.tmp 1), 3, none⟩,
 ⟨some 7, .binOp .lss 3 (.tmp 6) (.const (.int .i64 0)) 3, 4, none⟩,
 ⟨some 8, .move (.tmp 7), 4, none⟩,
 ⟨some 9, .move (.tmp 1), 3, (some (8, false))⟩,
 ⟨some 10, .binOp .geq 3 (.tmp 9) (.const (.int .i64 16)) 3, 4, (some (8, false))⟩,
 ⟨some 11, .pick (.tmp 8) (.const (.bool true)) (.tmp 10), 4, none⟩] [1, 2, 11])
 (.cond (.tmp 11)
  (.seq (.ops [
  ⟨some 4, .assign (.const (.int .i64 0)), 3, none⟩,
  ⟨some 5, .assign (.const (.int .i64 1)), 3, none⟩] [4, 5])
  .ret)
  (.skip [1, 2]))) (sg c50S2)))
set_option maxRecDepth 100000 in
theorem ent50 (a0 a1 : Value) (w : World) (K : Value → World → Prop) (h : W Tryz.prog c50 [(0, a0), (1, a1)] w (finQ Tryz.prog [.tmp 4, .tmp 5] K)) : Ret Tryz.prog 50 [a0, a1] w K :=
  Ret_of_W (code := c50code) Tryz.func50 (by kernel_rfl) (by kernel_rfl) (of_decide_eq_true (by kernel_rfl)) h
@[go_sem] theorem go50 : goFunc Tryz.prog 50 = true := by kernel_rfl
noncomputable def c51code : Code := match Tryz.f51.body with | some c => c | none => .skip
noncomputable def c51S0 (_ : Unit) : Cmd := (.cond (.tmp 28)
  (.seq (.ops [
  ⟨some 29, .load 51 (.tmp 3), 51, none⟩,
  ⟨none, .store 51 (.tmp 6) (.tmp 29), 0, none⟩,
  ⟨some 7, .assign (.const (.int .i64 6)), 3, none⟩] [6, 7])
  .ret)
  (.skip [1, 2, 3, 6]))
noncomputable def c51S1 (_ : Unit) : Cmd := .ret
noncomputable def c51S2 (_ : Unit) : Cmd := (.seq (.ops [
 ⟨some 30, .fieldAddr 51 (.tmp 3) 0, 0, none⟩,
 ⟨some 31, .load 49 (.tmp 30), 49, none⟩,
 ⟨some 32, .indexAddr 49 (.tmp 31) (.const (.int .i64 1)), 0, none⟩,
 ⟨some 33, .load 9 (.tmp 32), 9, none⟩,
 ⟨some 10, .assign (.tmp 33), 9, none⟩] [1, 2, 3, 6, 10])
 (.seq (.draw (drawOps 0 c51code) [6, 7]) (sg c51S1)))
noncomputable def c51S3 (_ : Unit) : Cmd := (.seq (.seq (.ops [
 ⟨some 21, .move (.tmp 2), 3, none⟩,
 ⟨some 22, .binOp .neq 3 (.tmp 21) (.const (.int .i64 0)) 3, 4, none⟩,
 ⟨some 23, .move (.tmp 22), 4, none⟩,
 ⟨some 24, .load 51 (.tmp 3), 51, (some (23, true))⟩,
 ⟨some 25, .move (.tmp 2), 3, (some (23, true))⟩,
 ⟨some 26, .call ⟨.value (.func 74), #[(.tmp 24), (.tmp 25)], #[51, 3]⟩, 4, (some (23, true))⟩,
 ⟨some 27, .unOp .not 4 (.tmp 26), 4, (some (23, true))⟩,
 ⟨some 28, .pick (.tmp 23) (.tmp 27) (.const (.bool false)), 4, none⟩] [1, 2, 3, 6, 28]) (sg c51S0)) (sg c51S2))
noncomputable def c51S4 (_ : Unit) : Cmd := (.seq (.seq (.ops [
 ⟨some 17, .move (.tmp 9), 3, none⟩,
 ⟨some 18, .binOp .neq 3 (.tmp 17) (.const (.int .i64 0)) 3, 4, none⟩] [1, 2, 3, 6, 9, 18])
 (.cond (.tmp 18)
  (.seq (.ops [
  ⟨some 19, .load 51 (.tmp 3), 51, none⟩,
  ⟨some 20, .move (.tmp 9), 3, none⟩,
  ⟨none, .store 51 (.tmp 6) (.tmp 19), 0, none⟩,
  ⟨some 7, .assign (.tmp 20), 3, none⟩] [6, 7])
  .ret)
  (.skip [1, 2, 3, 6]))) (sg c51S3))
noncomputable def c51 : Cmd := (.seq (.ops [
 ⟨some 3, .box 51 (.tmp 0), 0, none⟩,
 ⟨some 6, .alloc 51, 0, none⟩,
 ⟨some 7, .assign (.const (.int .i64 0)), 3, none⟩] [1, 2, 3, 6])
 (.seq (.ops [
 ⟨some 12, .load 51 (.tmp 3), 51, none⟩,
 ⟨some 13, .move (.tmp 1), 3, none⟩,
 ⟨some 14, .call ⟨.value (.func 50), #[(.tmp 12), (.tmp 13)], #[51, 3]⟩, 86, none⟩,
 ⟨some 11, .move (.tmp 14), 86, none⟩,
 ⟨some 15, .extract (.tmp 11) 0, 3, none⟩,
 ⟨some 16, .extract (.tmp 11) 1, 3, none⟩,
 ⟨some 8, .assign (.tmp 15), 3, none⟩,
 ⟨some 9, .assign (.tmp 16), 3, none⟩] [1, 2, 3, 6, 9]) (sg c51S4)))
noncomputable def c51D0 : List (Nat × Ins) := [
 (0, ⟨some 35, .move (.tmp 10), 9, none⟩),
 (0, ⟨some 36, .move (.tmp 1), 3, none⟩),
 (0, ⟨some 37, .binOp .mul 3 (.const (.int .i64 4)) (.tmp 36) 3, 3, none⟩),
 (0, ⟨some 38, .slice 9 (.tmp 35) none (some (.tmp 37)) none, 9, none⟩),
 (0, ⟨some 39, .move (.tmp 2), 3, none⟩),
 (0, ⟨some 40, .convert 3 58 (.tmp 39), 58, none⟩),
 (0, ⟨some 43, .move (.tmp 10), 9, none⟩),
 (0, ⟨some 44, .move (.tmp 1), 3, none⟩),
 (0, ⟨some 45, .binOp .mul 3 (.const (.int .i64 4)) (.tmp 44) 3, 3, none⟩),
 (0, ⟨some 46, .binOp .add 3 (.tmp 45) (.const (.int .i64 4)) 3, 3, none⟩),
 (0, ⟨some 47, .slice 9 (.tmp 43) (some (.tmp 46)) none none, 9, none⟩),
 (1, ⟨some 34, .load 51 (.tmp 3), 51, none⟩),
 (2, ⟨some 41, .call ⟨.value (.func 76), #[(.tmp 40), (.const (.int .i64 4))], #[58, 3]⟩, 9, none⟩),
 (0, ⟨some 42, .binOp .add 9 (.tmp 38) (.tmp 41) 9, 9, none⟩),
 (0, ⟨some 48, .binOp .add 9 (.tmp 42) (.tmp 47) 9, 9, none⟩),
 (3, ⟨some 49, .call ⟨.value (.func 45), #[(.tmp 34), (.const (.int .i64 1)), (.tmp 48)], #[51, 3, 9]⟩, 51, none⟩),
 (3, ⟨none, .store 51 (.tmp 6) (.tmp 49), 0, none⟩),
 (0, ⟨some 7, .assign (.const (.int .i64 0)), 3, none⟩)]
theorem c51draw0 {L : List Nat} {ρ : Env} {w : World} {Q : Post} (S : World → Prop) (hS : S w.drew) (h : DG Tryz.prog S c51D0 L ρ w.drew Q) : drawW Tryz.prog (drawOps 0 c51code) L ρ w Q :=
  drawW_held [0] [(0, 1), (0, 2), (0, 3), (0, 4), (0, 5), (0, 6), (0, 9), (0, 10), (0, 11), (0, 12), (0, 13), (1, 0), (2, 7), (0, 8), (0, 14), (3, 15), (3, 16), (0, 17)] c51D0 (by kernel_rfl) (by kernel_rfl) (by kernel_rfl) S hS h
set_option maxRecDepth 100000 in
theorem ent51 (a0 a1 a2 : Value) (w : World) (K : Value → World → Prop) (h : W Tryz.prog c51 [(0, a0), (1, a1), (2, a2)] w (finQ Tryz.prog [.cell 6 51, .tmp 7] K)) : Ret Tryz.prog 51 [a0, a1, a2] w K :=
  Ret_of_W (code := c51code) Tryz.func51 (by kernel_rfl) (by kernel_rfl) (of_decide_eq_true (by kernel_rfl)) h
@[go_sem] theorem go51 : goFunc Tryz.prog 51 = true := by kernel_rfl
noncomputable def c72code : Code := match Tryz.f72.body with | some c => c | none => .skip
noncomputable def c72S0 (_ : Unit) : Cmd := .ret
noncomputable def c72S1 (_ : Unit) : Cmd := (.seq (.ops [
 ⟨some 14, .move (.tmp 0), 9, none⟩,
 ⟨some 15, .move (.tmp 1), 3, none⟩,
 ⟨some 16, .binOp .quo 3 (.tmp 15) (.const (.int .i64 8)) 3, 3, none⟩,
 ⟨some 17, .index 9 (.tmp 14) (.tmp 16), 5, none⟩,
 ⟨some 18, .move (.tmp 1), 3, none⟩,
 ⟨some 19, .binOp .rem 3 (.tmp 18) (.const (.int .i64 8)) 3, 3, none⟩,
 ⟨some 20, .call ⟨.value (.func 95), #[(.tmp 17), (.tmp 19)], #[5, 3]⟩, 4, none⟩,
 ⟨some 4, .assign (.tmp 20), 4, none⟩] [4]) (sg c72S0))
noncomputable def c72 : Cmd := (.seq (.ops [
 ⟨some 4, .assign (.const (.bool false)), 4, none⟩] [0, 1])
 (.seq (.seq (.ops [
 ⟨some 5, .move (.tmp 1), 3, none⟩,
 ⟨some 6, .binOp .lss 3 (.tmp 5) (.const (.int .i64 0)) 3, 4, none⟩,
 ⟨some 7, .move (.tmp 6), 4, none⟩,
 ⟨some 8, .move (.tmp 1), 3, (some (7, false))⟩,
 ⟨some 9, .binOp .quo 3 (.tmp 8) (.const (.int .i64 8)) 3, 3, (some (7, false))⟩,
 ⟨some 10, .move (.tmp 0), 9, (some (7, false))⟩,
 ⟨some 11, .call ⟨.builtin .len, #[(.tmp 10)], #[9]⟩, 3, (some (7, false))⟩,
 ⟨some 12, .binOp .geq 3 (.tmp 9) (.tmp 11) 3, 4, (some (7, false))⟩,
 ⟨some 13, .pick (.tmp 7) (.const (.bool true)) (.tmp 12), 4, none⟩] [0, 1, 13])
 (.cond (.tmp 13)
  (.seq (.ops [
  ⟨some 4, .assign (.const (.bool false)), 4, none⟩] [4])
  .ret)
  (.skip [0, 1]))) (sg c72S1)))
set_option maxRecDepth 100000 in
theorem ent72 (a0 a1 : Value) (w : World) (K : Value → World → Prop) (h : W Tryz.prog c72 [(0, a0), (1, a1)] w (finQ Tryz.prog [.tmp 4] K)) : Ret Tryz.prog 72 [a0, a1] w K :=
  Ret_of_W (code := c72code) Tryz.func72 (by kernel_rfl) (by kernel_rfl) (of_decide_eq_true (by kernel_rfl)) h
@[go_sem] theorem go72 : goFunc Tryz.prog 72 = true := by kernel_rfl
noncomputable def c73code : Code := match Tryz.f73.body with | some c => c | none => .skip
noncomputable def c73S0 (_ : Unit) : Cmd := .ret
noncomputable def c73S1 (_ : Unit) : Cmd := (.seq (.ops [
 ⟨some 19, .load 51 (.tmp 3), 51, none⟩,
 ⟨some 20, .move (.tmp 7), 9, none⟩,
 ⟨some 21, .call ⟨.value (.func 45), #[(.tmp 19), (.const (.int .i64 0)), (.tmp 20)], #[51, 3, 9]⟩, 51, none⟩,
 ⟨none, .store 51 (.tmp 6) (.tmp 21), 0, none⟩] [6]) (sg c73S0))
noncomputable def c73 : Cmd := (.seq (.ops [
 ⟨some 3, .box 51 (.tmp 0), 0, none⟩,
 ⟨some 6, .alloc 51, 0, none⟩] [1, 2, 3, 6])
 (.seq (.ops [
 ⟨some 10, .fieldAddr 51 (.tmp 3) 0, 0, none⟩,
 ⟨some 11, .load 49 (.tmp 10), 49, none⟩,
 ⟨some 12, .indexAddr 49 (.tmp 11) (.const (.int .i64 0)), 0, none⟩,
 ⟨some 13, .load 9 (.tmp 12), 9, none⟩,
 ⟨some 14, .move (.tmp 1), 3, none⟩,
 ⟨some 15, .move (.tmp 2), 4, none⟩,
 ⟨some 16, .call ⟨.value (.func 96), #[(.tmp 13), (.tmp 14), (.tmp 15)], #[9, 3, 4]⟩, 66, none⟩,
 ⟨some 9, .move (.tmp 16), 66, none⟩,
 ⟨some 17, .extract (.tmp 9) 0, 9, none⟩,
 ⟨some 18, .extract (.tmp 9) 1, 4, none⟩,
 ⟨some 7, .assign (.tmp 17), 9, none⟩,
 ⟨some 8, .assign (.tmp 18), 4, none⟩] [3, 6, 7]) (sg c73S1)))
set_option maxRecDepth 100000 in
theorem ent73 (a0 a1 a2 : Value) (w : World) (K : Value → World → Prop) (h : W Tryz.prog c73 [(0, a0), (1, a1), (2, a2)] w (finQ Tryz.prog [.cell 6 51] K)) : Ret Tryz.prog 73 [a0, a1, a2] w K :=
  Ret_of_W (code := c73code) Tryz.func73 (by kernel_rfl) (by kernel_rfl) (of_decide_eq_true (by kernel_rfl)) h
@[go_sem] theorem go73 : goFunc Tryz.prog 73 = true := by kernel_rfl
noncomputable def c74code : Code := match Tryz.f74.body with | some c => c | none => .skip
noncomputable def c74S0 (_ : Unit) : Cmd := .ret
noncomputable def c74 : Cmd := (.seq (.ops [
 ⟨some 2, .box 51 (.tmp 0), 0, none⟩,
 ⟨some 4, .assign (.const (.bool false)), 4, none⟩] [1, 2])
 (.seq (.ops [
 ⟨some 5, .move (.tmp 1), 3, none⟩,
 ⟨some 6, .binOp .geq 3 (.tmp 5) (.const (.int .i64 2)) 3, 4, none⟩,
 ⟨some 7, .move (.tmp 6), 4, none⟩,
 ⟨some 8, .move (.tmp 1), 3, (some (7, true))⟩,
 ⟨some 9, .fieldAddr 51 (.tmp 2) 0, 0, (some (7, true))⟩,
 ⟨some 10, .load 49 (.tmp 9), 49, (some (7, true))⟩,
 ⟨some 11, .call ⟨.builtin .len, #[(.tmp 10)], #[49]⟩, 3, (some (7, true))⟩,
 ⟨some 12, .binOp .lss 3 (.tmp 8) (.tmp 11) 3, 4, (some (7, true))⟩,
 ⟨some 13, .pick (.tmp 7) (.tmp 12) (.const (.bool false)), 4, none⟩,
 ⟨some 14, .move (.tmp 13), 4, none⟩,
 ⟨some 15, .fieldAddr 51 (.tmp 2) 0, 0, (some (14, true))⟩,
 ⟨some 16, .load 49 (.tmp 15), 49, (some (14, true))⟩,
 ⟨some 17, .indexAddr 49 (.tmp 16) (.const (.int .i64 0)), 0, (some (14, true))⟩,
 ⟨some 18, .load 9 (.tmp 17), 9, (some (14, true))⟩,
 ⟨some 19, .move (.tmp 1), 3, (some (14, true))⟩,
 ⟨some 20, .call ⟨.value (.func 72), #[(.tmp 18), (.tmp 19)], #[9, 3]⟩, 4, (some (14, true))⟩,
 ⟨some 21, .pick (.tmp 14) (.tmp 20) (.const (.bool false)), 4, none⟩,
 ⟨some 4, .assign (.tmp 21), 4, none⟩] [4]) (sg c74S0)))
set_option maxRecDepth 100000 in
theorem ent74 (a0 a1 : Value) (w : World) (K : Value → World → Prop) (h : W Tryz.prog c74 [(0, a0), (1, a1)] w (finQ Tryz.prog [.tmp 4] K)) : Ret Tryz.prog 74 [a0, a1] w K :=
  Ret_of_W (code := c74code) Tryz.func74 (by kernel_rfl) (by kernel_rfl) (of_decide_eq_true (by kernel_rfl)) h
@[go_sem] theorem go74 : goFunc Tryz.prog 74 = true := by kernel_rfl
noncomputable def c75code : Code := match Tryz.f75.body with | some c => c | none => .skip
noncomputable def c75S0 (_ : Unit) : Cmd := (.seq (.block 1 (.seq (.ops [
 ⟨some 16, .move (.tmp 3), 58, none⟩,
 ⟨some 17, .move (.tmp 0), 9, none⟩,
 ⟨some 18, .move (.tmp 5), 3, none⟩,
 ⟨some 19, .index 9 (.tmp 17) (.tmp 18), 5, none⟩,
 ⟨some 20, .convert 5 58 (.tmp 19), 58, none⟩,
 ⟨some 21, .move (.tmp 4), 58, none⟩,
 ⟨some 22, .binOp .mul 58 (.tmp 20) (.tmp 21) 58, 58, none⟩,
 ⟨some 23, .binOp .add 58 (.tmp 16) (.tmp 22) 58, 58, none⟩,
 ⟨some 3, .assign (.tmp 23), 58, none⟩] [0, 3, 4, 5])
 (.ops [
 ⟨some 24, .move (.tmp 4), 58, none⟩,
 ⟨some 25, .binOp .mul 58 (.tmp 24) (.const (.int .u64 256)) 58, 58, none⟩,
 ⟨some 4, .assign (.tmp 25), 58, none⟩] [0, 3, 4, 5])))
 (.ops [
 ⟨some 14, .move (.tmp 5), 3, none⟩,
 ⟨some 15, .binOp .add 3 (.tmp 14) (.const (.int .i64 1)) 3, 3, none⟩,
 ⟨some 5, .assign (.tmp 15), 3, none⟩] [0, 3, 4, 5]))
noncomputable def c75L0 (_ : Unit) : Cmd := (.seq (.seq (.ops [
 ⟨some 6, .move (.tmp 5), 3, none⟩,
 ⟨some 7, .move (.tmp 0), 9, none⟩,
 ⟨some 8, .call ⟨.builtin .len, #[(.tmp 7)], #[9]⟩, 3, none⟩,
 ⟨some 9, .binOp .lss 3 (.tmp 6) (.tmp 8) 3, 4, none⟩,
 ⟨some 10, .move (.tmp 9), 4, none⟩,
 ⟨some 11, .move (.tmp 5), 3, (some (10, true))⟩,
 ⟨some 12, .binOp .lss 3 (.tmp 11) (.const (.int .i64 8)) 3, 4, (some (10, true))⟩,
 ⟨some 13, .pick (.tmp 10) (.tmp 12) (.const (.bool false)), 4, none⟩] [0, 3, 4, 5, 13])
 (.cond (.tmp 13)
  (.skip [0, 3, 4, 5])
  (.exit 0 [3]))) (sg c75S0))
noncomputable def c75S1 (_ : Unit) : Cmd := (.seq (.ops [
 ⟨some 26, .move (.tmp 3), 58, none⟩,
 ⟨some 2, .assign (.tmp 26), 58, none⟩] [2])
 .ret)
noncomputable def c75 : Cmd := (.seq (.ops [
 ⟨some 2, .assign (.const (.int .u64 0)), 58, none⟩] [0])
 (.seq (.ops [
 ⟨some 3, .assign (.const (.int .u64 0)), 58, none⟩,
 ⟨some 4, .assign (.const (.int .u64 1)), 58, none⟩] [0, 3, 4])
 (.seq (.seq (.ops [
 ⟨some 5, .assign (.const (.int .i64 0)), 3, none⟩] [0, 3, 4, 5])
 (.block 0 (.loop (sg c75L0)))) (sg c75S1))))
set_option maxRecDepth 100000 in
theorem ent75 (a0 : Value) (w : World) (K : Value → World → Prop) (h : W Tryz.prog c75 [(0, a0)] w (finQ Tryz.prog [.tmp 2] K)) : Ret Tryz.prog 75 [a0] w K :=
  Ret_of_W (code := c75code) Tryz.func75 (by kernel_rfl) (by kernel_rfl) (of_decide_eq_true (by kernel_rfl)) h
@[go_sem] theorem go75 : goFunc Tryz.prog 75 = true := by kernel_rfl
noncomputable def c76code : Code := match Tryz.f76.body with | some c => c | none => .skip
noncomputable def c76S0 (_ : Unit) : Cmd := (.seq (.block 1 (.seq (.ops [
 ⟨some 16, .move (.tmp 5), 9, none⟩,
 ⟨some 17, .move (.tmp 0), 58, none⟩,
 ⟨some 18, .binOp .rem 58 (.tmp 17) (.const (.int .u64 256)) 58, 58, none⟩,
 ⟨some 19, .convert 58 5 (.tmp 18), 5, none⟩,
 ⟨some 20, .buildSlice 106 1 #[(0, (.tmp 19))], 106, none⟩,
 ⟨some 21, .convert 106 9 (.tmp 20), 9, none⟩,
 ⟨some 22, .binOp .add 9 (.tmp 16) (.tmp 21) 9, 9, none⟩,
 ⟨some 5, .assign (.tmp 22), 9, none⟩] [0, 1, 5, 6])
 (.ops [
 ⟨some 23, .move (.tmp 0), 58, none⟩,
 ⟨some 24, .binOp .quo 58 (.tmp 23) (.const (.int .u64 256)) 58, 58, none⟩,
 ⟨some 0, .assign (.tmp 24), 58, none⟩] [0, 1, 5, 6])))
 (.ops [
 ⟨some 14, .move (.tmp 6), 3, none⟩,
 ⟨some 15, .binOp .add 3 (.tmp 14) (.const (.int .i64 1)) 3, 3, none⟩,
 ⟨some 6, .assign (.tmp 15), 3, none⟩] [0, 1, 5, 6]))
noncomputable def c76L0 (_ : Unit) : Cmd := (.seq (.seq (.ops [
 ⟨some 7, .move (.tmp 6), 3, none⟩,
 ⟨some 8, .move (.tmp 1), 3, none⟩,
 ⟨some 9, .binOp .lss 3 (.tmp 7) (.tmp 8) 3, 4, none⟩,
 ⟨some 10, .move (.tmp 9), 4, none⟩,
 ⟨some 11, .move (.tmp 6), 3, (some (10, true))⟩,
 ⟨some 12, .binOp .lss 3 (.tmp 11) (.const (.int .i64 8)) 3, 4, (some (10, true))⟩,
 ⟨some 13, .pick (.tmp 10) (.tmp 12) (.const (.bool false)), 4, none⟩] [0, 1, 5, 6, 13])
 (.cond (.tmp 13)
  (.skip [0, 1, 5, 6])
  (.exit 0 [5]))) (sg c76S0))
noncomputable def c76S1 (_ : Unit) : Cmd := (.seq (.ops [
 ⟨some 25, .move (.tmp 5), 9, none⟩,
 ⟨some 4, .assign (.tmp 25), 9, none⟩] [4])
 .ret)
noncomputable def c76 : Cmd := (.seq (.ops [
 ⟨some 4, .assign (.const (.string (ofL []))), 9, none⟩] [0, 1])
 (.seq (.ops [
 ⟨some 5, .assign (.const (.string (ofL []))), 9, none⟩] [0, 1, 5])
 (.seq (.seq (.ops [
 ⟨some 6, .assign (.const (.int .i64 0)), 3, none⟩] [0, 1, 5, 6])
 (.block 0 (.loop (sg c76L0)))) (sg c76S1))))
set_option maxRecDepth 100000 in
theorem ent76 (a0 a1 : Value) (w : World) (K : Value → World → Prop) (h : W Tryz.prog c76 [(0, a0), (1, a1)] w (finQ Tryz.prog [.tmp 4] K)) : Ret Tryz.prog 76 [a0, a1] w K :=
  Ret_of_W (code := c76code) Tryz.func76 (by kernel_rfl) (by kernel_rfl) (of_decide_eq_true (by kernel_rfl)) h
@[go_sem] theorem go76 : goFunc Tryz.prog 76 = true := by kernel_rfl
noncomputable def c95code : Code := match Tryz.f95.body with | some c => c | none => .skip
noncomputable def c95S0 (_ : Unit) : Cmd := (.seq (.block 1 (.ops [
 ⟨some 11, .move (.tmp 0), 5, none⟩,
 ⟨some 12, .binOp .quo 5 (.tmp 11) (.const (.int .u8 2)) 5, 5, none⟩,
 ⟨some 0, .assign (.tmp 12), 5, none⟩] [0, 1, 5]))
 (.ops [
 ⟨some 9, .move (.tmp 5), 3, none⟩,
 ⟨some 10, .binOp .add 3 (.tmp 9) (.const (.int .i64 1)) 3, 3, none⟩,
 ⟨some 5, .assign (.tmp 10), 3, none⟩] [0, 1, 5]))
noncomputable def c95L0 (_ : Unit) : Cmd := (.seq (.seq (.ops [
 ⟨some 6, .move (.tmp 5), 3, none⟩,
 ⟨some 7, .move (.tmp 1), 3, none⟩,
 ⟨some 8, .binOp .lss 3 (.tmp 6) (.tmp 7) 3, 4, none⟩] [0, 1, 5, 8])
 (.cond (.tmp 8)
  (.skip [0, 1, 5])
  (.exit 0 [0]))) (sg c95S0))
noncomputable def c95S1 (_ : Unit) : Cmd := (.seq (.ops [
 ⟨some 13, .move (.tmp 0), 5, none⟩,
 ⟨some 14, .binOp .rem 5 (.tmp 13) (.const (.int .u8 2)) 5, 5, none⟩,
 ⟨some 15, .binOp .eql 5 (.tmp 14) (.const (.int .u8 1)) 5, 4, none⟩,
 ⟨some 4, .assign (.tmp 15), 4, none⟩] [4])
 .ret)
noncomputable def c95 : Cmd := (.seq (.ops [
 ⟨some 4, .assign (.const (.bool false)), 4, none⟩] [0, 1])
 (.seq (.seq (.ops [
 ⟨some 5, .assign (.const (.int .i64 0)), 3, none⟩] [0, 1, 5])
 (.block 0 (.loop (sg c95L0)))) (sg c95S1)))
set_option maxRecDepth 100000 in
theorem ent95 (a0 a1 : Value) (w : World) (K : Value → World → Prop) (h : W Tryz.prog c95 [(0, a0), (1, a1)] w (finQ Tryz.prog [.tmp 4] K)) : Ret Tryz.prog 95 [a0, a1] w K :=
  Ret_of_W (code := c95code) Tryz.func95 (by kernel_rfl) (by kernel_rfl) (of_decide_eq_true (by kernel_rfl)) h
@[go_sem] theorem go95 : goFunc Tryz.prog 95 = true := by kernel_rfl
noncomputable def c96code : Code := match Tryz.f96.body with | some c => c | none => .skip
noncomputable def c96S0 (_ : Unit) : Cmd := (.seq (.block 1 (.ops [
 ⟨some 27, .move (.tmp 8), 5, none⟩,
 ⟨some 28, .binOp .mul 5 (.tmp 27) (.const (.int .u8 2)) 5, 5, none⟩,
 ⟨some 8, .assign (.tmp 28), 5, none⟩] [0, 1, 2, 8, 9]))
 (.ops [
 ⟨some 25, .move (.tmp 9), 3, none⟩,
 ⟨some 26, .binOp .add 3 (.tmp 25) (.const (.int .i64 1)) 3, 3, none⟩,
 ⟨some 9, .assign (.tmp 26), 3, none⟩] [0, 1, 2, 8, 9]))
noncomputable def c96L0 (_ : Unit) : Cmd := (.seq (.seq (.ops [
 ⟨some 21, .move (.tmp 9), 3, none⟩,
 ⟨some 22, .move (.tmp 1), 3, none⟩,
 ⟨some 23, .binOp .rem 3 (.tmp 22) (.const (.int .i64 8)) 3, 3, none⟩,
 ⟨some 24, .binOp .lss 3 (.tmp 21) (.tmp 23) 3, 4, none⟩] [0, 1, 2, 8, 9, 24])
 (.cond (.tmp 24)
  (.skip [0, 1, 2, 8, 9])
  (.exit 0 [0, 1, 2, 8]))) (sg c96S0))
noncomputable def c96S1 (_ : Unit) : Cmd := (.cond (.tmp 49)
   (.ops [
   ⟨some 50, .move (.tmp 10), 5, none⟩,
   ⟨some 51, .move (.tmp 8), 5, none⟩,
   ⟨some 52, .binOp .add 5 (.tmp 50) (.tmp 51) 5, 5, none⟩,
   ⟨some 10, .assign (.tmp 52), 5, none⟩] [0, 1, 10])
   (.skip [0, 1, 10]))
noncomputable def c96S2 (_ : Unit) : Cmd := (.cond (.tmp 39)
  (.ops [
  ⟨some 40, .move (.tmp 10), 5, none⟩,
  ⟨some 41, .move (.tmp 8), 5, none⟩,
  ⟨some 42, .binOp .sub 5 (.tmp 40) (.tmp 41) 5, 5, none⟩,
  ⟨some 10, .assign (.tmp 42), 5, none⟩] [0, 1, 10])
  (.seq (.ops [
  ⟨some 43, .move (.tmp 0), 9, none⟩,
  ⟨some 44, .move (.tmp 1), 3, none⟩,
  ⟨some 45, .call ⟨.value (.func 72), #[(.tmp 43), (.tmp 44)], #[9, 3]⟩, 4, none⟩,
  ⟨some 46, .unOp .not 4 (.tmp 45), 4, none⟩,
  ⟨some 47, .move (.tmp 46), 4, none⟩,
  ⟨some 48, .move (.tmp 2), 4, (some (47, true))⟩,
  ⟨some 49, .pick (.tmp 47) (.tmp 48) (.const (.bool false)), 4, none⟩] [0, 1, 8, 10, 49]) (sg c96S1)))
noncomputable def c96S3 (_ : Unit) : Cmd := .ret
noncomputable def c96S4 (_ : Unit) : Cmd := (.seq (.draw (drawOps 0 c96code) [6, 7]) (sg c96S3))
noncomputable def c96S5 (_ : Unit) : Cmd := (.seq (.ops [
 ⟨some 29, .move (.tmp 0), 9, none⟩,
 ⟨some 30, .move (.tmp 1), 3, none⟩,
 ⟨some 31, .binOp .quo 3 (.tmp 30) (.const (.int .i64 8)) 3, 3, none⟩,
 ⟨some 32, .index 9 (.tmp 29) (.tmp 31), 5, none⟩,
 ⟨some 10, .assign (.tmp 32), 5, none⟩] [0, 1, 2, 8, 10])
 (.seq (.seq (.ops [
 ⟨some 33, .move (.tmp 0), 9, none⟩,
 ⟨some 34, .move (.tmp 1), 3, none⟩,
 ⟨some 35, .call ⟨.value (.func 72), #[(.tmp 33), (.tmp 34)], #[9, 3]⟩, 4, none⟩,
 ⟨some 36, .move (.tmp 35), 4, none⟩,
 ⟨some 37, .move (.tmp 2), 4, (some (36, true))⟩,
 ⟨some 38, .unOp .not 4 (.tmp 37), 4, (some (36, true))⟩,
 ⟨some 39, .pick (.tmp 36) (.tmp 38) (.const (.bool false)), 4, none⟩] [0, 1, 2, 8, 10, 39]) (sg c96S2)) (sg c96S4)))
noncomputable def c96S6 (_ : Unit) : Cmd := (.seq (.ops [
 ⟨some 8, .assign (.const (.int .u8 1)), 5, none⟩] [0, 1, 2, 8])
 (.seq (.seq (.ops [
 ⟨some 9, .assign (.const (.int .i64 0)), 3, none⟩] [0, 1, 2, 8, 9])
 (.block 0 (.loop (sg c96L0)))) (sg c96S5)))
noncomputable def c96 : Cmd := (.seq (.ops [
 ⟨some 6, .assign (.const (.string (ofL []))), 9, none⟩,
 ⟨some 7, .assign (.const (.bool false)), 4, none⟩] [0, 1, 2])
 (.seq (.seq (.ops [
 ⟨some 11, .move (.tmp 1), 3, none⟩,
 ⟨some 12, .binOp .lss 3 (.tmp 11) (.const (.int .i64 0)) 3, 4, none⟩,
 ⟨some 13, .move (.tmp 12), 4, none⟩,
 ⟨some 14, .move (.tmp 1), 3, (some (13, false))⟩,
 ⟨some 15, .binOp .quo 3 (.tmp 14) (.const (.int .i64 8)) 3, 3, (some (13, false))⟩,
 ⟨some 16, .move (.tmp 0), 9, (some (13, false))⟩,
 ⟨some 17, .call ⟨.builtin .len, #[(.tmp 16)], #[9]⟩, 3, (some (13, false))⟩,
 ⟨some 18, .binOp .geq 3 (.tmp 15) (.tmp 17) 3, 4, (some (13, false))⟩,
 ⟨some 19, .pick (.tmp 13) (.const (.bool true)) (.tmp 18), 4, none⟩] [0, 1, 2, 19])
 (.cond (.tmp 19)
  (.seq (.ops [
  ⟨some 20, .move (.tmp 0), 9, none⟩,
  ⟨some 6, .assign (.tmp 20), 9, none⟩,
  ⟨some 7, .assign (.const (.bool false)), 4, none⟩] [6, 7])
  .ret)
  (.skip [0, 1, 2]))) (sg c96S6)))
noncomputable def c96D0 : List (Bool × Ins) := [
 (true, ⟨some 53, .move (.tmp 0), 9, none⟩),
 (true, ⟨some 54, .move (.tmp 1), 3, none⟩),
 (true, ⟨some 55, .binOp .quo 3 (.tmp 54) (.const (.int .i64 8)) 3, 3, none⟩),
 (true, ⟨some 56, .slice 9 (.tmp 53) none (some (.tmp 55)) none, 9, none⟩),
 (true, ⟨some 57, .move (.tmp 10), 5, none⟩),
 (true, ⟨some 61, .move (.tmp 0), 9, none⟩),
 (true, ⟨some 62, .move (.tmp 1), 3, none⟩),
 (true, ⟨some 63, .binOp .quo 3 (.tmp 62) (.const (.int .i64 8)) 3, 3, none⟩),
 (true, ⟨some 64, .binOp .add 3 (.tmp 63) (.const (.int .i64 1)) 3, 3, none⟩),
 (true, ⟨some 65, .slice 9 (.tmp 61) (some (.tmp 64)) none none, 9, none⟩),
 (false, ⟨some 58, .buildSlice 106 1 #[(0, (.tmp 57))], 106, none⟩),
 (false, ⟨some 59, .convert 106 9 (.tmp 58), 9, none⟩),
 (true, ⟨some 60, .binOp .add 9 (.tmp 56) (.tmp 59) 9, 9, none⟩),
 (true, ⟨some 66, .binOp .add 9 (.tmp 60) (.tmp 65) 9, 9, none⟩),
 (true, ⟨some 6, .assign (.tmp 66), 9, none⟩),
 (true, ⟨some 7, .assign (.const (.bool true)), 4, none⟩)]
theorem c96draw0 {L : List Nat} {ρ : Env} {w : World} {Q : Post} (h : DL Tryz.prog c96D0 L ρ w.drew Q) : drawW Tryz.prog (drawOps 0 c96code) L ρ w Q :=
  drawW_by [(true, 0), (true, 1), (true, 2), (true, 3), (true, 4), (true, 8), (true, 9), (true, 10), (true, 11), (true, 12), (false, 5), (false, 6), (true, 7), (true, 13), (true, 14), (true, 15)] c96D0 (by kernel_rfl) (by kernel_rfl) (by kernel_rfl) h
set_option maxRecDepth 100000 in
theorem ent96 (a0 a1 a2 : Value) (w : World) (K : Value → World → Prop) (h : W Tryz.prog c96 [(0, a0), (1, a1), (2, a2)] w (finQ Tryz.prog [.tmp 6, .tmp 7] K)) : Ret Tryz.prog 96 [a0, a1, a2] w K :=
  Ret_of_W (code := c96code) Tryz.func96 (by kernel_rfl) (by kernel_rfl) (of_decide_eq_true (by kernel_rfl)) h
@[go_sem] theorem go96 : goFunc Tryz.prog 96 = true := by kernel_rfl
end Go.Proofs.YtmchjbgobiagiaaGreat


namespace Go.Proofs.YtmchjbgobiagiaaGreat
set_option linter.unusedSimpArgs false
set_option linter.unusedVariables false
set_option maxRecDepth 100000
open Go Go.Ann Go.RowKit Go.WideShapes
def zeroB : List UInt8 := List.replicate 256 0
def filledL (l : List UInt8) : List UInt8 := l ++ List.replicate (256 - l.length) 0
theorem filledL_length {l : List UInt8} (h : l.length ≤ 256) : (filledL l).length = 256 := by
  unfold filledL; rw [List.length_append, List.length_replicate]; omega
structure Dk where
  safe : List (List UInt8)
  late : List (Int × List UInt8)
  left : Int
  gone : Bool
structure Dk.ok (m : Dk) : Prop where
  safe : ∀ s ∈ m.safe, s.length = 256
  late : ∀ x ∈ m.late, 0 ≤ x.1 ∧ x.1 < m.safe.length ∧ x.2.length = 256
  left : I64 m.left
  some : 0 < m.safe.length
  few : m.safe.length ≤ 2048
  less : m.late.length ≤ 1048576
def strE (s : List UInt8) : List Value := [.string (ofL s)]
theorem strE_ones (l : List (List UInt8)) : ∀ u ∈ l.flatMap strE, u.oneCell' = true := by
  intro u hu
  obtain ⟨s, _, h⟩ := List.mem_flatMap.1 hu
  rw [strE, List.mem_singleton] at h
  subst h; rfl
def pendV (x : Int × List UInt8) : List Value := [.int .i64 x.1, .string (ofL x.2)]
theorem pendV_len (x : Int × List UInt8) : (pendV x).length = 2 := rfl
theorem pendV_ones (l : List (Int × List UInt8)) : ∀ u ∈ l.flatMap pendV, u.oneCell' = true := by
  intro u hu
  obtain ⟨s, _, h⟩ := List.mem_flatMap.1 hu
  simp only [pendV, List.mem_cons, List.not_mem_nil, or_false] at h
  rcases h with rfl | rfl <;> rfl
theorem strE_map (l : List (List UInt8)) : l.flatMap strE = l.map fun s => Value.string (ofL s) := by
  induction l with
  | nil => rfl
  | cons a l ih => rw [List.flatMap_cons, ih]; rfl
theorem strE_set (l : List (List UInt8)) (j : Nat) (s : List UInt8) : (l.flatMap strE).set j (.string (ofL s)) = (l.set j s).flatMap strE := by
  rw [strE_map, strE_map, List.map_set]
def DkL (g : Nat) (vb vl : Value) (m : Dk) : List Res :=
  [.blk g #[vb, vl, .int .i64 m.left, .bool m.gone, .string (ofL zeroB)] 91, .row vb 9 1 m.safe.length (m.safe.flatMap strE), .row vl 93 2 m.late.length (m.late.flatMap pendV)]
theorem st_recast {W0 w : World} {F : Nat → Prop} {L L' : List Res} {I : List Inv} (h : St W0 w F L I) (e : L = L') : St W0 w F L' I := e ▸ h
theorem St.front {W0 w : World} {F : Nat → Prop} {A D L : List Res} {I : List Inv} (h : St W0 w F (A ++ (D ++ L)) I) : St W0 w F (D ++ (A ++ L)) I :=
  h.perm (by rw [← List.append_assoc, ← List.append_assoc]; exact List.perm_append_comm.append_right L)
section
variable {W0 w : World} {F : Nat → Prop} {L : List Res} {I : List Inv} {g : Nat} {vb vl : Value} {m : Dk}
def readyN (m : Dk) (i : Int) : Int := if m.gone = true then 11 else if 0 ≤ i ∧ i < m.safe.length then 0 else 10
theorem dk_form (h : St W0 w F (DkL g vb vl m ++ L) I) (ok : m.ok) : ∃ gb cb al cl, vb = .slice (some ⟨gb, 0, none⟩) m.safe.length cb ∧ vl = .slice al m.late.length cl ∧ m.late.length ≤ cl := by
  obtain ⟨gb, cb, h1, _⟩ := (h.row 1 rfl).form ok.some
  obtain ⟨al, cl, h2, h3⟩ := own_slice (h.row 2 rfl)
  exact ⟨gb, cb, al, cl, h1, h2, h3⟩
theorem ready_ok (i : Int) (h : St W0 w F (DkL g vb vl m ++ L) I) (ok : m.ok) :
    Ret Tryz.prog 78 [.pointer (some ⟨g, 0, none⟩), .int .i64 i] w fun u w' => u = .int .i64 (readyN m i) ∧ w' = w := by
  obtain ⟨gb, cb, al, cl, rfl, rfl, _⟩ := dk_form h ok
  refine ent78 _ _ _ _ ?_
  have r1 := h.rules 0 rfl
  simp (disch := first | omega | exact okFill_t rfl | exact okSize_t rfl | exact fun h => h | (simp only [World.size_alloc, World.size_drew, World.size_setCell, size_fill, bytesW]; omega)) only [go_sem, c78, c78S0, r1]
  unfold readyN
  refine ⟨fun hg => ?_, fun hg => ?_⟩
  · rw [if_pos hg]
  · rw [if_neg (by rw [hg]; decide)]
    by_cases h0 : 0 ≤ i
    · by_cases h1 : i < m.safe.length
      · rw [if_pos ⟨h0, h1⟩]
        exact ⟨fun _ => ⟨fun h => by omega, fun _ => rfl⟩, fun h => by omega⟩
      · rw [if_neg (by omega)]
        exact ⟨fun _ => ⟨fun _ => rfl, fun h => by omega⟩, fun h => by omega⟩
    · rw [if_neg (by omega)]
      exact ⟨fun h => by omega, fun _ => rfl⟩
def useN (m : Dk) : Dk × Int := if m.left = 0 then ({ m with gone := true }, 11) else if 0 < m.left then ({ m with left := m.left - 1 }, 0) else (m, 0)
theorem useN_ok (ok : m.ok) : (useN m).1.ok := by
  unfold useN
  have hl := ok.left
  split
  · exact ⟨ok.safe, ok.late, ok.left, ok.some, ok.few, ok.less⟩
  · split
    · exact ⟨ok.safe, ok.late, ⟨by have := hl.1; simp only; omega, by have := hl.2; simp only; omega⟩, ok.some, ok.few, ok.less⟩
    · exact ok
theorem useN_late (m : Dk) : (useN m).1.late = m.late ∧ (useN m).1.safe = m.safe := by
  unfold useN; split
  · exact ⟨rfl, rfl⟩
  · split <;> exact ⟨rfl, rfl⟩
theorem use_ok (h : St W0 w F (DkL g vb vl m ++ L) I) (ok : m.ok) :
    Ret Tryz.prog 93 [.pointer (some ⟨g, 0, none⟩)] w fun u w' => u = .int .i64 (useN m).2 ∧ St W0 w' F (DkL g vb vl (useN m).1 ++ L) I := by
  refine ent93 _ _ _ ?_
  have r1 := h.rules 0 rfl
  simp (disch := first | omega | exact okFill_t rfl | exact okSize_t rfl | exact fun h => h | (simp only [World.size_alloc, World.size_drew, World.size_setCell, size_fill, bytesW]; omega)) only [go_sem, c93, c93S0, c93S1, r1]
  unfold useN
  have hl := ok.left
  refine ⟨fun h0 => ?_, fun h0 => ⟨fun h1 => ?_, fun h1 => ?_⟩⟩
  · rw [if_pos h0]
    exact ⟨rfl, h.set 0 rfl 3 (.bool true)⟩
  · rw [if_neg h0, if_pos h1]
    exact ⟨⟨by have := hl.1; omega, by have := hl.2; omega⟩, rfl, h.set 0 rfl 2 (.int .i64 (m.left - 1))⟩
  · rw [if_neg h0, if_neg (by omega)]
    exact ⟨rfl, h⟩
def lastL (l : List (Int × List UInt8)) (i : Int) (s : List UInt8) : List UInt8 := l.foldl (fun s x => if x.1 = i then x.2 else s) s
def readN (m : Dk) (i : Int) : List UInt8 × Int := if readyN m i = 0 then (lastL m.late i (m.safe.getD i.toNat []), 0) else ([], readyN m i)
theorem lastL_snoc (l : List (Int × List UInt8)) (x : Int × List UInt8) (i : Int) (s : List UInt8) : lastL (l ++ [x]) i s = if x.1 = i then x.2 else lastL l i s := by
  unfold lastL; rw [List.foldl_append]; rfl
theorem readyN_in {i : Int} (hr : readyN m i = 0) : 0 ≤ i ∧ i < m.safe.length := by
  unfold readyN at hr
  split at hr
  · cases hr
  · split at hr
    · assumption
    · cases hr
theorem read_ok (i : Int) (h : St W0 w F (DkL g vb vl m ++ L) I) (ok : m.ok) :
    Ret Tryz.prog 53 [.pointer (some ⟨g, 0, none⟩), .int .i64 i] w fun u w' => u = .tuple #[.string (ofL (readN m i).1), .int .i64 (readN m i).2] ∧ Below w.heap.size w w' := by
  refine ent53 _ _ _ _ ?_
  simp (disch := first | omega | exact okFill_t rfl | exact okSize_t rfl | exact fun h => h | (simp only [World.size_alloc, World.size_drew, World.size_setCell, size_fill, bytesW]; omega)) only [go_sem, c53, c53S0, c53S1, c53S2, c53L0, c53S3, c53S4]
  refine Ret.mono (ready_ok i h ok) ?_
  rintro _ w2 ⟨rfl, e2⟩
  subst w2
  obtain ⟨gb, cb, al, cl, rfl, rfl, hcl⟩ := dk_form h ok
  have r1 := h.rules 0 rfl
  unfold readN
  by_cases hr : readyN m i = 0
  case neg =>
    rw [if_neg hr]
    simp (disch := first | omega | exact okFill_t rfl | exact okSize_t rfl | exact fun h => h | (simp only [World.size_alloc, World.size_drew, World.size_setCell, size_fill, bytesW]; omega)) only [go_sem, c53, c53S0, c53S1, c53S2, c53L0, c53S3, c53S4, hr]
    exact Below.refl _ _
  rw [if_pos hr]
  obtain ⟨h0, hlt⟩ := readyN_in hr
  have hS : RdS w 1 strE (.slice (some ⟨gb, 0, none⟩) m.safe.length cb) m.safe := RdS.of_own' (h.row 1 rfl) m.safe rfl rfl
  have hL : RdS w 2 pendV (.slice al m.late.length cl) m.late := RdS.of_own' (h.row 2 rfl) m.late rfl rfl
  obtain ⟨k0, rfl⟩ := Int.eq_ofNat_of_zero_le h0
  have hk0 : k0 < m.safe.length := by omega
  have eS := RdS.at1 (e1 := fun s => .string (ofL s)) hS hk0
  rw [Addr.add_lit, Nat.zero_add] at eS
  have e0 : m.safe.getD ((k0 : Int).toNat) [] = m.safe[k0] := by simp [List.getD_eq_getElem?_getD, List.getElem?_eq_getElem hk0]
  rw [e0]
  simp (disch := first | omega | exact okFill_t rfl | exact okSize_t rfl | exact fun h => h | (simp only [World.size_alloc, World.size_drew, World.size_setCell, size_fill, bytesW]; omega)) only [go_sem, c53, c53S0, c53S1, c53S2, c53S3, c53S4, hr, r1, eS, hlt]
  refine ⟨by omega, ?_⟩
  refine W_loopU (fun k : Nat => [(7, .string (ofL (lastL (m.late.take k) k0 m.safe[k0]))), (28, .int .i64 k)]) (fun k w' => k ≤ m.late.length ∧ Below w.heap.size w w') (fun k => m.late.length - k) 0 rfl ⟨Nat.zero_le _, Below.refl _ _⟩ ?_
  rintro k w3 ⟨hk, hb⟩
  by_cases hlt2 : k < m.late.length
  · have hlt' : (k : Int) < m.late.length := by omega
    obtain ⟨p, rfl⟩ := hL.ptr (by omega)
    have eL := (hL.below hb (by decide)).at pendV_len hlt2
    simp (disch := first | omega | exact okFill_t rfl | exact okSize_t rfl | exact fun h => h | (simp only [World.size_alloc, World.size_drew, World.size_setCell, size_fill, bytesW]; omega)) only [go_sem, c53, c53S0, c53S1, c53S2, c53L0, c53S3, c53S4, c53L0, hlt', eL, pendV]
    have es : lastL (m.late.take (k + 1)) k0 m.safe[k0] = if m.late[k].1 = k0 then m.late[k].2 else lastL (m.late.take k) k0 m.safe[k0] := by
      rw [List.take_succ_eq_append_getElem hlt2, lastL_snoc]
    have b' : Below w.heap.size w (w3.alloc (.cells #[.int .i64 m.late[k].1, .string (ofL m.late[k].2)] 93)) := hb.alloc hb.size _
    have hless := ok.less
    clear r1
    refine ⟨by omega, fun e => ⟨⟨by omega, by omega⟩, k + 1, ?_, ⟨by omega, b'⟩, by omega⟩, fun e => ⟨⟨by omega, by omega⟩, k + 1, ?_, ⟨by omega, b'⟩, by omega⟩⟩
    · rw [es, if_pos e]; rfl
    · rw [es, if_neg e]; rfl
  · have hlt' : ¬ (k : Int) < m.late.length := by omega
    simp (disch := first | omega | exact okFill_t rfl | exact okSize_t rfl | exact fun h => h | (simp only [World.size_alloc, World.size_drew, World.size_setCell, size_fill, bytesW]; omega)) only [go_sem, c53, c53S0, c53S1, c53S2, c53L0, c53S3, c53S4, c53L0, hlt']
    rw [List.take_of_length_le (by omega)]
    exact ⟨rfl, hb⟩
def writeN (m : Dk) (i : Int) (data : List UInt8) : Dk × Int :=
  if readyN m i ≠ 0 then (m, readyN m i) else if 256 < data.length then (m, 21) else
  if (useN m).2 = 0 then ({ (useN m).1 with late := (useN m).1.late ++ [(i, filledL data)] }, 0) else useN m
theorem writeN_ok (ok : m.ok) (hless : m.late.length < 1000000) (i : Int) (data : List UInt8) : (writeN m i data).1.ok := by
  unfold writeN
  split
  · exact ok
  · rename_i hr
    have hr : readyN m i = 0 := Decidable.not_not.1 hr
    split
    · exact ok
    · have hu := useN_ok ok
      have hl := useN_late m
      have hin := readyN_in hr
      split
      · refine ⟨hu.safe, fun x hx => ?_, hu.left, hu.some, hu.few, ?_⟩
        · rcases List.mem_append.1 hx with h | h
          · exact hu.late x h
          · rw [List.mem_singleton] at h; subst h
            rw [hl.2]
            exact ⟨hin.1, hin.2, filledL_length (by omega)⟩
        · simp only [List.length_append, List.length_singleton, hl.1]; omega
      · exact hu
theorem write_ok (i : Int) (data : List UInt8) (h : St W0 w F (DkL g vb vl m ++ L) I) (ok : m.ok) (hless : m.late.length < 1000000) :
    Ret Tryz.prog 70 [.pointer (some ⟨g, 0, none⟩), .int .i64 i, .string (ofL data)] w fun u w' => u = .int .i64 (writeN m i data).2 ∧ ∃ vl', St W0 w' F (DkL g vb vl' (writeN m i data).1 ++ L) I := by
  refine ent70 _ _ _ _ _ ?_
  simp (disch := first | omega | exact okFill_t rfl | exact okSize_t rfl | exact fun h => h | (simp only [World.size_alloc, World.size_drew, World.size_setCell, size_fill, bytesW]; omega)) only [go_sem, c70, c70S0, c70S1, c70S2, c70S3]
  refine Ret.mono (ready_ok i h ok) ?_
  rintro _ w2 ⟨rfl, e2⟩
  subst w2
  unfold writeN
  by_cases hr : readyN m i = 0
  case neg =>
    rw [if_pos hr]
    simp (disch := first | omega | exact okFill_t rfl | exact okSize_t rfl | exact fun h => h | (simp only [World.size_alloc, World.size_drew, World.size_setCell, size_fill, bytesW]; omega)) only [go_sem, c70, c70S0, c70S1, c70S2, c70S3, hr]
    exact ⟨vl, h⟩
  rw [if_neg (by omega)]
  by_cases hd : 256 < data.length
  · have hd' : (256 : Int) < data.length := by omega
    rw [if_pos hd]
    simp (disch := first | omega | exact okFill_t rfl | exact okSize_t rfl | exact fun h => h | (simp only [World.size_alloc, World.size_drew, World.size_setCell, size_fill, bytesW]; omega)) only [go_sem, c70, c70S0, c70S1, c70S2, c70S3, hr, hd']
    exact ⟨vl, h⟩
  have hd' : ¬ (256 : Int) < data.length := by omega
  rw [if_neg hd]
  simp (disch := first | omega | exact okFill_t rfl | exact okSize_t rfl | exact fun h => h | (simp only [World.size_alloc, World.size_drew, World.size_setCell, size_fill, bytesW]; omega)) only [go_sem, c70, c70S0, c70S1, c70S2, c70S3, hr, hd']
  refine Ret.mono (use_ok h ok) ?_
  rintro _ w2 ⟨rfl, h2⟩
  have ok2 := useN_ok ok
  have hl := useN_late m
  by_cases hu : (useN m).2 = 0
  case neg =>
    rw [if_neg hu]
    simp (disch := first | omega | exact okFill_t rfl | exact okSize_t rfl | exact fun h => h | (simp only [World.size_alloc, World.size_drew, World.size_setCell, size_fill, bytesW]; omega)) only [go_sem, c70, c70S0, c70S1, c70S2, c70S3, hu]
    exact ⟨vl, h2⟩
  rw [if_pos hu]
  generalize (useN m).1 = m1 at h2 ok2 hl ⊢
  obtain ⟨gb, cb, al, cl, rfl, rfl, hcl⟩ := dk_form h2 ok2
  have r1 := h2.rules 0 rfl
  simp (disch := first | omega | exact okFill_t rfl | exact okSize_t rfl | exact fun h => h | (simp only [World.size_alloc, World.size_drew, World.size_setCell, size_fill, bytesW]; omega)) only [go_sem, c70, c70S0, c70S1, c70S2, c70S3, hu, r1]
  refine c70draw0 (Chg (fun _ => False) _) (Chg.refl _ _) ?_
  have h3 := h2.drew
  have r3 := h3.rules 0 rfl
  have l3 := h3.low 0 rfl
  generalize w2.drew = w3 at h3 r3 l3 ⊢
  simp (disch := first | omega | exact okFill_t rfl | exact okSize_t rfl | exact fun h => h | (simp only [World.size_alloc, World.size_drew, World.size_setCell, size_fill, bytesW]; omega)) only [go_sem, c70, c70S0, c70S1, c70S2, c70S3, c70D0, r3]
  have ez : data ++ zeroB.drop data.length = filledL data := by unfold zeroB filledL; rw [List.drop_replicate]
  have hz : zeroB.length = 256 := List.length_replicate
  rw [ez]
  refine ⟨by rw [hz]; omega, by rw [List.length_drop, hz]; omega, ?_⟩
  refine bdW_built (cells := (pendV (i, filledL data)).toArray) (by kernel_rfl) ?_
  simp (disch := first | omega | exact okFill_t rfl | exact okSize_t rfl | exact fun h => h | (simp only [World.size_alloc, World.size_drew, World.size_setCell, size_fill, bytesW]; omega)) only [go_sem, c70, c70S0, c70S1, c70S2, c70S3]
  refine bsW_agg ty89mkI rfl (by decide) (by decide) ?_
  have hx : Rd (w3.alloc (.cells (pendV (i, filledL data)).toArray 93)) 2 (.slice (some ⟨w3.heap.size, 0, none⟩) 1 1) 1 (pendV (i, filledL data)) := rd_new (n := 1) (cs := (pendV (i, filledL data)).toArray) rfl
  simp (disch := first | omega | exact okFill_t rfl | exact okSize_t rfl | exact fun h => h | (simp only [World.size_alloc, World.size_drew, World.size_setCell, size_fill, bytesW]; omega)) only [go_sem, c70, c70S0, c70S1, c70S2, c70S3]
  have h1 : ∀ u ∈ pendV (i, filledL data), u.oneCell' = true := by simpa using pendV_ones [(i, filledL data)]
  refine ⟨(Chg.refl _ _).alloc _, ?_⟩
  refine (h3.alloc' (.cells (pendV (i, filledL data)).toArray 93)).append 2 rfl ty89mkI rfl (by decide) hx h1 (by have := ok.less; rw [hl.1]; omega) (by have := ok.less; rw [hl.1]; omega) ?_
  intro v6 w6 h6 c6
  obtain ⟨a6, d6, rfl, _⟩ := own_slice (h6.row 2 rfl)
  have r6 := h6.rules 0 rfl
  simp (disch := first | omega | exact okFill_t rfl | exact okSize_t rfl | exact fun h => h | (simp only [World.size_alloc, World.size_drew, World.size_setCell, size_fill, bytesW]; omega)) only [go_sem, c70, c70S0, c70S1, c70S2, c70S3, r6]
  refine ⟨.slice a6 (m1.late.length + 1) d6, st_recast (h6.set 0 rfl 1 (.slice a6 (m1.late.length + 1) d6)) ?_⟩
  simp only [DkL, List.length_append, List.length_singleton, List.flatMap_append, List.flatMap_cons, List.flatMap_nil, List.append_nil]
  rfl
def doneL (safe : List (List UInt8)) (late : List (Int × List UInt8)) : List (List UInt8) := late.foldl (fun s x => s.set x.1.toNat x.2) safe
theorem doneL_length (safe : List (List UInt8)) : ∀ late, (doneL safe late).length = safe.length := by
  intro late
  unfold doneL
  induction late generalizing safe with
  | nil => rfl
  | cons x l ih => rw [List.foldl_cons, ih]; simp
theorem doneL_snoc (safe : List (List UInt8)) (l : List (Int × List UInt8)) (x : Int × List UInt8) : doneL safe (l ++ [x]) = (doneL safe l).set x.1.toNat x.2 := by
  unfold doneL; rw [List.foldl_append]; rfl
theorem doneL_256 {safe : List (List UInt8)} (h : ∀ s ∈ safe, s.length = 256) : ∀ {late : List (Int × List UInt8)}, (∀ x ∈ late, x.2.length = 256) → ∀ s ∈ doneL safe late, s.length = 256 := by
  intro late
  unfold doneL
  induction late generalizing safe with
  | nil => intro _; exact h
  | cons x l ih =>
    intro hl
    rw [List.foldl_cons]
    refine ih (fun s hs => ?_) fun y hy => hl y (List.mem_cons_of_mem _ hy)
    rcases List.mem_or_eq_of_mem_set hs with h' | rfl
    · exact h s h'
    · exact hl x (List.mem_cons_self ..)
def flushN (m : Dk) : Dk × Int :=
  if readyN m 0 ≠ 0 then (m, readyN m 0) else if (useN m).2 ≠ 0 then useN m else ({ (useN m).1 with safe := doneL m.safe m.late, late := [] }, 0)
theorem flushN_ok (ok : m.ok) : (flushN m).1.ok := by
  unfold flushN
  split
  · exact ok
  · split
    · exact useN_ok ok
    · have hu := useN_ok ok
      exact ⟨doneL_256 ok.safe fun x hx => (ok.late x hx).2.2, fun _ h => (by cases h), hu.left, by simp only [doneL_length]; exact ok.some, by simp only [doneL_length]; exact ok.few, by simp⟩
theorem flush_ok (h : St W0 w F (DkL g vb vl m ++ L) I) (ok : m.ok) :
    Ret Tryz.prog 81 [.pointer (some ⟨g, 0, none⟩)] w fun u w' => u = .int .i64 (flushN m).2 ∧ ∃ vl', St W0 w' F (DkL g vb vl' (flushN m).1 ++ L) I := by
  refine ent81 _ _ _ ?_
  simp (disch := first | omega | exact okFill_t rfl | exact okSize_t rfl | exact fun h => h | (simp only [World.size_alloc, World.size_drew, World.size_setCell, size_fill, bytesW]; omega)) only [go_sem, c81, c81S0, c81S1, c81L0, c81S2, c81S3, c81S4, c81S5]
  refine Ret.mono (ready_ok 0 h ok) ?_
  rintro _ w2 ⟨rfl, e2⟩
  subst w2
  unfold flushN
  by_cases hr : readyN m 0 = 0
  case neg =>
    rw [if_pos hr]
    simp (disch := first | omega | exact okFill_t rfl | exact okSize_t rfl | exact fun h => h | (simp only [World.size_alloc, World.size_drew, World.size_setCell, size_fill, bytesW]; omega)) only [go_sem, c81, c81S0, c81S1, c81L0, c81S2, c81S3, c81S4, c81S5, hr]
    exact ⟨vl, h⟩
  rw [if_neg (by omega)]
  simp (disch := first | omega | exact okFill_t rfl | exact okSize_t rfl | exact fun h => h | (simp only [World.size_alloc, World.size_drew, World.size_setCell, size_fill, bytesW]; omega)) only [go_sem, c81, c81S0, c81S1, c81L0, c81S2, c81S3, c81S4, c81S5, hr]
  refine Ret.mono (use_ok h ok) ?_
  rintro _ w2 ⟨rfl, h2⟩
  have ok2 := useN_ok ok
  have hl := useN_late m
  by_cases hu : (useN m).2 = 0
  case neg =>
    rw [if_pos hu]
    simp (disch := first | omega | exact okFill_t rfl | exact okSize_t rfl | exact fun h => h | (simp only [World.size_alloc, World.size_drew, World.size_setCell, size_fill, bytesW]; omega)) only [go_sem, c81, c81S0, c81S1, c81L0, c81S2, c81S3, c81S4, c81S5, hu]
    exact ⟨vl, h2⟩
  rw [if_neg (by omega), ← hl.1, ← hl.2]
  generalize (useN m).1 = m1 at h2 ok2 ⊢
  obtain ⟨gb, cb, al, cl, rfl, rfl, hcl⟩ := dk_form h2 ok2
  have r1 := h2.rules 0 rfl
  simp (disch := first | omega | exact okFill_t rfl | exact okSize_t rfl | exact fun h => h | (simp only [World.size_alloc, World.size_drew, World.size_setCell, size_fill, bytesW]; omega)) only [go_sem, c81, c81S0, c81S1, c81S2, c81S3, c81S4, c81S5, hu, r1]
  refine W_loopU (fun k : Nat => [(19, .int .i64 k)]) (fun k w' => St W0 w' F (DkL g (.slice (some ⟨gb, 0, none⟩) m1.safe.length cb) (.slice al m1.late.length cl) { m1 with safe := doneL m1.safe (m1.late.take k) } ++ L) I ∧ k ≤ m1.late.length) (fun k => m1.late.length - k) 0 rfl ⟨h2, Nat.zero_le _⟩ ?_
  rintro k w4 ⟨h4, hk⟩
  have r4 := h4.rules 0 rfl
  have l4 := h4.low 0 rfl
  by_cases hlt : k < m1.late.length
  · have hlt' : (k : Int) < m1.late.length := by omega
    have hL : RdS w4 2 pendV (.slice al m1.late.length cl) m1.late := RdS.of_own' (h4.row 2 rfl) m1.late rfl rfl
    obtain ⟨p, rfl⟩ := hL.ptr (by omega)
    have eL := hL.at pendV_len hlt
    obtain ⟨x0, x1, x2⟩ := ok2.late _ (List.getElem_mem hlt)
    obtain ⟨i0, ei⟩ := Int.eq_ofNat_of_zero_le x0
    have x1' : (i0 : Int) < m1.safe.length := by omega
    simp (disch := first | omega | exact okFill_t rfl | exact okSize_t rfl | exact fun h => h | (simp only [World.size_alloc, World.size_drew, World.size_setCell, size_fill, bytesW]; omega)) only [go_sem, c81, c81S0, c81S1, c81L0, c81S2, c81S3, c81S4, c81S5, c81L0, hlt', eL, pendV, r4, ei]
    refine ⟨by omega, c81draw0 (Chg (fun _ => False) _) (Chg.refl _ _) ?_⟩
    have hlen : (doneL m1.safe (m1.late.take k)).length = m1.safe.length := doneL_length ..
    have h4' := st_recast h4 (L' := [.blk g #[.slice (some ⟨gb, 0, none⟩) m1.safe.length cb, .slice (some p) m1.late.length cl, .int .i64 m1.left, .bool m1.gone, .string (ofL zeroB)] 91, .row (.slice (some ⟨gb, 0, none⟩) m1.safe.length cb) 9 1 m1.safe.length ((doneL m1.safe (m1.late.take k)).flatMap strE), .row (.slice (some p) m1.late.length cl) 93 2 m1.late.length (m1.late.flatMap pendV)] ++ L) (by simp only [DkL, hlen])
    have h5 := (h4'.box #[.int .i64 i0, .string (ofL m1.late[k].2)] 93).drew
    generalize w4.heap.size = y at h5 ⊢
    generalize (w4.alloc (.cells #[.int .i64 i0, .string (ofL m1.late[k].2)] 93)).drew = w5 at h5 ⊢
    have r5 := h5.rules 0 rfl
    have l5 := h5.low 0 rfl
    have q5 := h5.rules 1 rfl
    have m5 := h5.low 1 rfl
    clear r4 l4
    have hS : RdS w5 1 strE (.slice (some ⟨gb, 0, none⟩) m1.safe.length cb) (doneL m1.safe (m1.late.take k)) := RdS.of_own' (h5.row 2 rfl) _ hlen.symm rfl
    simp (disch := first | omega | exact okFill_t rfl | exact okSize_t rfl | exact fun h => h | (simp only [World.size_alloc, World.size_drew, World.size_setCell, size_fill, bytesW]; omega)) only [go_sem, c81, c81S0, c81S1, c81L0, c81S2, c81S3, c81S4, c81S5, c81D0, r5, q5, x1']
    have eS := RdS.at1 (e1 := fun s => .string (ofL s)) hS (k := i0) (by rw [hlen]; omega)
    rw [Addr.add_lit, Nat.zero_add] at eS
    have hfz := (h5.row 2 rfl).frozenAt i0
    have h6 := (h5.put 2 rfl i0 (.string (ofL m1.late[k].2))).sub (List.sublist_cons_self _ _)
    have e1 : doneL m1.safe (m1.late.take (k + 1)) = (doneL m1.safe (m1.late.take k)).set i0 m1.late[k].2 := by
      rw [List.take_succ_eq_append_getElem hlt, doneL_snoc, ei]; rfl
    have hless := ok2.less
    refine ⟨by omega, ⟨_, eS⟩, hfz, ⟨by omega, by omega⟩, k + 1, rfl, ⟨st_recast h6 ?_, by omega⟩, by omega⟩
    simp only [DkL, e1, List.length_set, hlen]
    rw [← strE_set]
    rfl
  · have hlt' : ¬ (k : Int) < m1.late.length := by omega
    simp (disch := first | omega | exact okFill_t rfl | exact okSize_t rfl | exact fun h => h | (simp only [World.size_alloc, World.size_drew, World.size_setCell, size_fill, bytesW]; omega)) only [go_sem, c81, c81S0, c81S1, c81L0, c81S2, c81S3, c81S4, c81S5, c81L0, hlt', r4]
    refine ⟨.slice none 0 0, ?_⟩
    have h5 := h4.set 0 rfl 1 (.slice none 0 0)
    rw [List.take_of_length_le (by omega)] at h5
    have h6 := h5.sub (L' := [.blk g #[.slice (some ⟨gb, 0, none⟩) m1.safe.length cb, .slice none 0 0, .int .i64 m1.left, .bool m1.gone, .string (ofL zeroB)] 91, .row (.slice (some ⟨gb, 0, none⟩) m1.safe.length cb) 9 1 (doneL m1.safe m1.late).length ((doneL m1.safe m1.late).flatMap strE)] ++ L) (by
      refine List.Sublist.cons_cons _ (List.Sublist.cons_cons _ ?_)
      exact List.sublist_cons_self _ _)
    exact St.front (A := [.row (.slice none 0 0) 93 2 0 []]) (D := [.blk g #[.slice (some ⟨gb, 0, none⟩) m1.safe.length cb, .slice none 0 0, .int .i64 m1.left, .bool m1.gone, .string (ofL zeroB)] 91, .row (.slice (some ⟨gb, 0, none⟩) m1.safe.length cb) 9 1 (doneL m1.safe m1.late).length ((doneL m1.safe m1.late).flatMap strE)]) (L := L) (h6.nilRow 93 2)
end
end Go.Proofs.YtmchjbgobiagiaaGreat

namespace Go.Proofs.YtmchjbgobiagiaaGreat
set_option linter.unusedSimpArgs false
set_option linter.unusedVariables false
set_option maxRecDepth 100000
open Go Go.Ann Go.RowKit Go.WideShapes
theorem zeros_ok (w : World) :
    Ret Tryz.prog 68 [] w fun v w' => v = .string (ofL zeroB) ∧ Below w.heap.size w w' := by
  refine ent68 _ _ ?_
  simp only [go_sem, c68, loadK_int, loadK_bool, loadK_str, loadK_slice, loadK_ptr, loadK_map, loadK_agg, loadK_other, heldW]
  refine msW_one ty106mkI rfl (by omega) (by omega) (by omega) (by omega) ?_
  simp only [go_sem, c68, loadK_int, loadK_bool, loadK_str, loadK_slice, loadK_ptr, loadK_map, loadK_agg, loadK_other, heldW]
  exact ⟨zeroB, List.length_replicate, bytesAt_new w 256 _, rfl, (Below.refl _ _).alloc (Nat.le_refl _) _⟩
theorem filled_ok (l : List UInt8) (w : World) (h : l.length ≤ 256) :
    Ret Tryz.prog 44 [.string (ofL l)] w fun v w' => v = .string (ofL (filledL l)) ∧ Below w.heap.size w w' := by
  refine ent44 _ _ _ ?_
  simp only [go_sem, c44, loadK_int, loadK_bool, loadK_str, loadK_slice, loadK_ptr, loadK_map, loadK_agg, loadK_other, heldW]
  refine ⟨⟨by omega, by omega⟩, ?_⟩
  refine msW_one ty106mkI rfl (by omega) (by omega) (by omega) (by omega) ?_
  simp only [go_sem, c44, loadK_int, loadK_bool, loadK_str, loadK_slice, loadK_ptr, loadK_map, loadK_agg, loadK_other, heldW]
  have e : ((256 : Int) - (l.length : Int)).toNat = 256 - l.length := by omega
  rw [e]
  exact ⟨_, List.length_replicate, bytesAt_new w (256 - l.length) _, by rw [List.length_replicate]; omega, rfl, (Below.refl _ _).alloc (Nat.le_refl _) _⟩
def newDk (n : Nat) : Dk := { safe := List.replicate n zeroB, late := [], left := -1, gone := false }
theorem newDk_ok {n : Nat} (h0 : 0 < n) (h1 : n ≤ 2048) : (newDk n).ok :=
  ⟨fun s hs => by rw [List.eq_of_mem_replicate hs]; exact List.length_replicate, fun _ h => (by cases h), ⟨by simp [newDk], by simp [newDk]⟩, by simp [newDk]; omega, by simp [newDk]; omega, by simp [newDk]⟩
section
variable {W0 w : World} {F : Nat → Prop} {L : List Res} {I : List Inv}
theorem new_ok {n : Nat} (h : St W0 w F L I) (h0 : 0 < n) (h1 : n ≤ 2048) :
    Ret Tryz.prog 42 [.int .i64 n] w fun u w' => ∃ g vb vl, u = .tuple #[.pointer (some ⟨g, 0, none⟩), .int .i64 0] ∧ St W0 w' F (DkL g vb vl (newDk n) ++ L) I := by
  have h0' : ¬ (n : Int) < 1 := by omega
  have h1' : ¬ (2048 : Int) < n := by omega
  refine ent42 _ _ _ ?_
  simp (disch := first | omega | exact okFill_t rfl | exact okSize_t rfl | exact fun h => h | (simp only [World.size_alloc, World.size_drew, World.size_setCell, size_fill, bytesW]; omega)) only [go_sem, c42, c42S0, c42S1, c42S2, c42S3, c42S4, h0', h1']
  refine Ret.mono (zeros_ok w) ?_
  rintro _ w2 ⟨rfl, b2⟩
  have s2 := h.call b2
  simp (disch := first | omega | exact okFill_t rfl | exact okSize_t rfl | exact fun h => h | (simp only [World.size_alloc, World.size_drew, World.size_setCell, size_fill, bytesW]; omega)) only [go_sem, c42, c42S0, c42S1, c42S2, c42S3, c42S4]
  refine bdW_built (cells := #[.slice none 0 0, .slice none 0 0, .int .i64 (-1), .bool false, .string (ofL zeroB)]) (by kernel_rfl) ?_
  have s3 := (s2.box #[.slice none 0 0, .slice none 0 0, .int .i64 (-1), .bool false, .string (ofL zeroB)] 91)
  simp (disch := first | omega | exact okFill_t rfl | exact okSize_t rfl | exact fun h => h | (simp only [World.size_alloc, World.size_drew, World.size_setCell, size_fill, bytesW]; omega)) only [go_sem, c42, c42S0, c42S1, c42S2, c42S3, c42S4]
  generalize w2.heap.size = g at s3 ⊢
  generalize w2.alloc (.cells #[.slice none 0 0, .slice none 0 0, .int .i64 (-1), .bool false, .string (ofL zeroB)] 91) = w3 at s3 ⊢
  have s3 : St W0 w3 F (DkL g (.slice none 0 0) (.slice none 0 0) (newDk 0) ++ L) I :=
    St.front (A := [.row (.slice none 0 0) 9 1 0 [], .row (.slice none 0 0) 93 2 0 []]) (D := [.blk g #[.slice none 0 0, .slice none 0 0, .int .i64 (-1), .bool false, .string (ofL zeroB)] 91]) (L := L) ((s3.nilRow 93 2).nilRow 9 1)
  refine W_loopU (fun q : Nat × Value => [(15, .int .i64 q.1)]) (fun q w' => St W0 w' F (DkL g q.2 (.slice none 0 0) (newDk q.1) ++ L) I ∧ q.1 ≤ n) (fun q => n - q.1) (0, .slice none 0 0) rfl ⟨s3, Nat.zero_le _⟩ ?_
  clear s3 s2 b2
  rintro ⟨k, v⟩ w4 ⟨s4, hk⟩
  simp only at s4 hk
  by_cases hlt : k < n
  · have hlt' : (k : Int) < n := by omega
    simp (disch := first | omega | exact okFill_t rfl | exact okSize_t rfl | exact fun h => h | (simp only [World.size_alloc, World.size_drew, World.size_setCell, size_fill, bytesW]; omega)) only [go_sem, c42, c42S0, c42S1, c42L0, c42S2, c42S3, c42S4, c42L0, hlt']
    refine c42draw0 (Chg (fun _ => False) _) (Chg.refl _ _) ?_
    have s5 := s4.drew
    have r5 := s5.rules 0 rfl
    have l5 := s5.low 0 rfl
    obtain ⟨va, vc, rfl, _⟩ := own_slice (s5.row 1 rfl)
    generalize w4.drew = w5 at s5 r5 l5 ⊢
    simp (disch := first | omega | exact okFill_t rfl | exact okSize_t rfl | exact fun h => h | (simp only [World.size_alloc, World.size_drew, World.size_setCell, size_fill, bytesW]; omega)) only [go_sem, c42, c42S0, c42S1, c42L0, c42S2, c42S3, c42S4, c42D0, r5]
    have ones : ∀ u ∈ strE zeroB, u.oneCell' = true := by simpa using strE_ones [zeroB]
    refine bsW_ones ty49mkI rfl rfl (by decide) (by decide) ones ?_
    have hx : Rd (w5.alloc (.cells (strE zeroB).toArray 9)) 1 (.slice (some ⟨w5.heap.size, 0, none⟩) 1 1) 1 (strE zeroB) := rd_new (n := 1) (cs := (strE zeroB).toArray) rfl
    simp (disch := first | omega | exact okFill_t rfl | exact okSize_t rfl | exact fun h => h | (simp only [World.size_alloc, World.size_drew, World.size_setCell, size_fill, bytesW]; omega)) only [go_sem, c42, c42S0, c42S1, c42L0, c42S2, c42S3, c42S4]
    refine ⟨(Chg.refl _ _).alloc _, ?_⟩
    have hlk : (newDk k).safe.length = k := List.length_replicate
    refine (s5.alloc' (.cells (strE zeroB).toArray 9)).append 1 rfl ty49mkI rfl (by decide) hx ones (by omega) (by omega) ?_
    intro v6 w6 h6 c6
    obtain ⟨a6, d6, rfl, _⟩ := own_slice (h6.row 1 rfl)
    have r6 := h6.rules 0 rfl
    simp (disch := first | omega | exact okFill_t rfl | exact okSize_t rfl | exact fun h => h | (simp only [World.size_alloc, World.size_drew, World.size_setCell, size_fill, bytesW]; omega)) only [go_sem, c42, c42S0, c42S1, c42L0, c42S2, c42S3, c42S4, r6]
    refine ⟨⟨by omega, by omega⟩, (k + 1, .slice a6 ((newDk k).safe.length + 1) d6), rfl, ⟨st_recast (h6.set 0 rfl 0 (.slice a6 ((newDk k).safe.length + 1) d6)) ?_, by simp only; omega⟩, by simp only; omega⟩
    have e : (newDk (k + 1)).safe = (newDk k).safe ++ [zeroB] := List.replicate_succ'
    simp only [DkL, e, List.length_append, List.length_singleton, List.flatMap_append, List.flatMap_cons, List.flatMap_nil, List.append_nil]
    rfl
  · have hlt' : ¬ (k : Int) < n := by omega
    obtain rfl : k = n := by omega
    simp (disch := first | omega | exact okFill_t rfl | exact okSize_t rfl | exact fun h => h | (simp only [World.size_alloc, World.size_drew, World.size_setCell, size_fill, bytesW]; omega)) only [go_sem, c42, c42S0, c42S1, c42L0, c42S2, c42S3, c42S4, c42L0, hlt']
    exact ⟨g, v, _, rfl, s4⟩
theorem len_ok {g : Nat} {vb vl : Value} {m : Dk} (h : St W0 w F (DkL g vb vl m ++ L) I) (ok : m.ok) :
    Ret Tryz.prog 69 [.pointer (some ⟨g, 0, none⟩)] w fun u w' => u = .int .i64 m.safe.length ∧ w' = w := by
  obtain ⟨gb, cb, al, cl, rfl, rfl, _⟩ := dk_form h ok
  refine ent69 _ _ _ ?_
  have r1 := h.rules 0 rfl
  simp (disch := first | omega | exact okFill_t rfl | exact okSize_t rfl | exact fun h => h | (simp only [World.size_alloc, World.size_drew, World.size_setCell, size_fill, bytesW]; omega)) only [go_sem, c69, c69S0, r1]
end
end Go.Proofs.YtmchjbgobiagiaaGreat

namespace Go.Proofs.YtmchjbgobiagiaaGreat
set_option linter.unusedSimpArgs false
set_option linter.unusedVariables false
set_option maxRecDepth 100000
open Go Go.Ann Go.RowKit
def bitOf (c : Int) (k : Nat) : Bool := decide (c / 2 ^ k % 2 = 1)
def hasL (l : List UInt8) (i : Int) : Bool := decide (0 ≤ i) && decide (i < 8 * l.length) && bitOf (bN l (i / 8)) (i % 8).toNat
theorem and_one_u8 (x : Int) (h0 : 0 ≤ x) (h1 : x ≤ 255) : bits BinOp.and IntKind.u8 x 1 = x % 2 := by
  obtain ⟨n, rfl⟩ := Int.eq_ofNat_of_zero_le h0
  have : ∀ m : Fin 256, bits BinOp.and IntKind.u8 ((m.val : Nat) : Int) 1 = (m.val : Int) % 2 := by decide +kernel
  exact this ⟨n, by omega⟩
theorem div_pow_succ (c : Int) (k : Nat) : c / 2 ^ k / 2 = c / 2 ^ (k + 1) := by
  rw [Int.pow_succ, Int.ediv_ediv_of_nonneg (Int.pow_nonneg (by decide))]
theorem div_pow_bd (c : Int) (k : Nat) (hc0 : 0 ≤ c) (hc : c ≤ 255) : 0 ≤ c / 2 ^ k ∧ c / 2 ^ k ≤ 255 := by
  have h1 : (0:Int) < 2 ^ k := Int.pow_pos (by decide)
  refine ⟨Int.ediv_nonneg hc0 (Int.le_of_lt h1), ?_⟩
  exact Int.le_trans (Int.ediv_le_self _ hc0) hc
theorem has_ok (l : List UInt8) (i : Int) (w : World) (hi : I64 i) :
    Ret Tryz.prog 38 [.string (ofL l), .int .i64 i] w fun v w' => v = .bool (hasL l i) ∧ w' = w := by
  refine ent38 _ _ _ _ ?_
  simp only [go_sem, c38, loadK_int, loadK_bool, loadK_str, loadK_slice, loadK_ptr, loadK_map, loadK_agg, loadK_other, heldW]
  refine ⟨fun h0 => ?_, fun h0 => ?_⟩
  · rw [Int.tdiv_eq_ediv_of_nonneg h0, Int.tmod_eq_emod_of_nonneg h0]
    refine ⟨hi, fun h1 => ⟨hi, ⟨by omega, h1⟩, ?_⟩, fun h1 => ?_⟩
    · have b := bN_bd l (i / 8)
      rw [wrap_u64_id _ (by omega) (by omega), show min (i % 8).toNat 8 = (i % 8).toNat by omega]
      have b' := div_pow_bd _ (i % 8).toNat b.1 b.2
      rw [and_one_u8 _ b'.1 b'.2]
      have e1 : decide (0 ≤ i) = true := by simpa using h0
      have e2 : decide (i < 8 * (l.length : Int)) = true := by simp; omega
      simp [hasL, e1, e2, bitOf]
    · have e2 : decide (i < 8 * (l.length : Int)) = false := by simp; omega
      simp [hasL, e2]
  · have e2 : decide (0 ≤ i) = false := by simp; omega
    simp [hasL, e2]
def setBit (c : Int) (k : Nat) (b : Bool) : Int := if b then (if bitOf c k then c else c + 2 ^ k) else (if bitOf c k then c - 2 ^ k else c)
theorem setBit_or (c : Int) (k : Nat) (h0 : 0 ≤ c) (h1 : c ≤ 255) (hk : k < 8) : bits .or .u8 c (IntKind.u8.wrap (1 * 2 ^ k)) = setBit c k true := by
  obtain ⟨n, rfl⟩ := Int.eq_ofNat_of_zero_le h0
  have : ∀ (m : Fin 256) (k : Fin 8), bits .or .u8 ((m.val : Nat) : Int) (IntKind.u8.wrap (1 * 2 ^ k.val)) = setBit (m.val : Int) k.val true := by decide +kernel
  exact this ⟨n, by omega⟩ ⟨k, hk⟩
theorem setBit_andNot (c : Int) (k : Nat) (h0 : 0 ≤ c) (h1 : c ≤ 255) (hk : k < 8) : bits .andNot .u8 c (IntKind.u8.wrap (1 * 2 ^ k)) = setBit c k false := by
  obtain ⟨n, rfl⟩ := Int.eq_ofNat_of_zero_le h0
  have : ∀ (m : Fin 256) (k : Fin 8), bits .andNot .u8 ((m.val : Nat) : Int) (IntKind.u8.wrap (1 * 2 ^ k.val)) = setBit (m.val : Int) k.val false := by decide +kernel
  exact this ⟨n, by omega⟩ ⟨k, hk⟩
theorem setBit_bd (c : Int) (k : Nat) (b : Bool) (h0 : 0 ≤ c) (h1 : c ≤ 255) (hk : k < 8) : 0 ≤ setBit c k b ∧ setBit c k b ≤ 255 := by
  obtain ⟨n, rfl⟩ := Int.eq_ofNat_of_zero_le h0
  have : ∀ (m : Fin 256) (k : Fin 8) (b : Bool), 0 ≤ setBit (m.val : Int) k.val b ∧ setBit (m.val : Int) k.val b ≤ 255 := by decide +kernel
  exact this ⟨n, by omega⟩ ⟨k, hk⟩ b
def withL (l : List UInt8) (i : Int) (b : Bool) : List UInt8 :=
  if 0 ≤ i ∧ i < 8 * l.length then l.set (i / 8).toNat (UInt8.ofNat (setBit (bN l (i / 8)) (i % 8).toNat b).toNat) else l
def fitsL (l : List UInt8) (i : Int) : Bool := decide (0 ≤ i ∧ i < 8 * l.length)
theorem with_ok (l : List UInt8) (i : Int) (b : Bool) (w : World) (hi : I64 i) :
    Ret Tryz.prog 28 [.string (ofL l), .int .i64 i, .bool b] w fun v w' => v = .tuple #[.string (ofL (withL l i b)), .bool (fitsL l i)] ∧ Below w.heap.size w w' := by
  refine ent28 _ _ _ _ _ ?_
  simp only [go_sem, c28, c28S0, c28S1, loadK_int, loadK_bool, loadK_str, loadK_slice, loadK_ptr, loadK_map, loadK_agg, loadK_other, heldW]
  refine ⟨fun h0 => ?_, fun h0 => ?_⟩
  · rw [Int.tdiv_eq_ediv_of_nonneg h0, Int.tmod_eq_emod_of_nonneg h0]
    refine ⟨hi, fun h1 => ?_, fun h1 c hc => ?_⟩
    · have h2 : ¬ (0 ≤ i ∧ i < 8 * (l.length : Int)) := by omega
      rw [withL, fitsL, if_neg h2, decide_eq_false h2]
      exact ⟨rfl, Below.refl _ _⟩
    · have h2 : (0 ≤ i ∧ i < 8 * (l.length : Int)) := by omega
      have h3 : 0 ≤ i / 8 := by omega
      have hlt : (i / 8).toNat < l.length := by omega
      have hg := List.getElem?_eq_getElem hlt
      have hcell := cell_bytesW w l c 5 _ _ hg
      have hfr := frozen_bytesW w l c 5 (i / 8).toNat (by omega)
      have hbn : bN l (i / 8) = (l[(i / 8).toNat].toNat : Int) := by
        rw [← bN_get l _ _ hg, Int.toNat_of_nonneg h3]
      have bd := bN_bd l (i / 8)
      have e5 : min (i % 8).toNat 8 = (i % 8).toNat := by omega
      rw [hcell, hfr, wrap_u64_id _ (show 0 ≤ i % 8 by omega) (by omega), e5, ← hbn]
      have hat := bytesAt_bytesW w l c 5
      have key : ∀ bb, bytesAt ((bytesW w l c 5).setCell ⟨w.heap.size, (i / 8).toNat, none⟩ (.int .u8 (setBit (bN l (i / 8)) (i % 8).toNat bb))) (some ⟨w.heap.size, 0, none⟩) (withL l i bb) := by
        intro bb
        have bd2 := setBit_bd (bN l (i / 8)) (i % 8).toNat bb bd.1 bd.2 (by omega)
        have := bytesAt_set hat bd2.1 bd2.2 hlt
        rw [Nat.zero_add] at this
        rw [withL, if_pos h2]
        exact this
      have hlen : ∀ bb, (withL l i bb).length = l.length := fun bb => by rw [withL, if_pos h2, List.length_set]
      refine ⟨fun hb => ?_, fun hb => ?_⟩ <;> subst hb
      · refine ⟨hi, ⟨h3, h1⟩, _, rfl, ⟨h3, h1⟩, ⟨_, rfl⟩, rfl, withL l i true, hlen true, ?_, ?_, (below_bytesW _ _ _ _).setCell (Nat.le_refl _) _⟩
        · rw [setBit_or _ _ bd.1 bd.2 (by omega)]; exact key true
        · rw [fitsL, decide_eq_true h2]
      · refine ⟨hi, ⟨h3, h1⟩, _, rfl, ⟨h3, h1⟩, ⟨_, rfl⟩, rfl, withL l i false, hlen false, ?_, ?_, (below_bytesW _ _ _ _).setCell (Nat.le_refl _) _⟩
        · rw [setBit_andNot _ _ bd.1 bd.2 (by omega)]; exact key false
        · rw [fitsL, decide_eq_true h2]
  · have h2 : ¬ (0 ≤ i ∧ i < 8 * (l.length : Int)) := by omega
    rw [withL, fitsL, if_neg h2, decide_eq_false h2]
    exact ⟨rfl, Below.refl _ _⟩
def emptyL (n : Int) : List UInt8 := List.replicate ((n + 7) / 8).toNat 0
theorem bytesAt_zeros (w : World) (n : Nat) (e : Nat) : bytesAt (w.alloc (.cells (zerosA (.int .u8 0) n) e)) (some ⟨w.heap.size, 0, none⟩) (List.replicate n 0) := by
  intro i b h
  simp only [Addr.add_lit, Nat.zero_add]
  obtain ⟨hi, hb⟩ := List.getElem?_eq_some_iff.1 h
  simp only [List.length_replicate] at hi
  simp only [List.getElem_replicate] at hb
  subst hb
  rw [World.cell?_alloc_at _ _ _ _ rfl]
  simp [zerosA, hi]
theorem empty_ok (n : Int) (w : World) (hi : I64 n) (hn : n ≤ 100000000) :
    Ret Tryz.prog 40 [.int .i64 n] w fun v w' => v = .string (ofL (emptyL n)) ∧ Below w.heap.size w w' := by
  have hk : max 0 (n.tdiv 8 + min 1 (max 0 (n.tmod 8))) = max 0 ((n + 7) / 8) := by
    rcases Int.le_total 0 n with h | h
    · rw [Int.tdiv_eq_ediv_of_nonneg h, Int.tmod_eq_emod_of_nonneg h]; omega
    · have h1 : n.tdiv 8 ≤ 0 := by
        have h2 : n.tdiv 8 = -((-n) / 8) := by
          rw [← Int.tdiv_eq_ediv_of_nonneg (by omega), Int.neg_tdiv, Int.neg_neg]
        omega
      have h2 : n.tmod 8 ≤ 0 := by
        have h2 : n.tmod 8 = -((-n) % 8) := by
          rw [← Int.tmod_eq_emod_of_nonneg (by omega), Int.neg_tmod, Int.neg_neg]
        omega
      omega
  have hd : I64 (n.tdiv 8) := tdiv_i64 n 8 (by decide) (by decide) hi
  refine ent40 _ _ _ ?_
  simp only [go_sem, c40, c40S0, loadK_int, loadK_bool, loadK_str, loadK_slice, loadK_ptr, loadK_map, loadK_agg, loadK_other, heldW]
  refine ⟨hi, ?_, ?_⟩
  · obtain ⟨h1, h2⟩ := hd
    have h3 : n.tdiv 8 ≤ 100000000 := by
      rcases Int.le_total 0 n with h | h
      · rw [Int.tdiv_eq_ediv_of_nonneg h]; omega
      · have h2 : n.tdiv 8 = -((-n) / 8) := by
          rw [← Int.tdiv_eq_ediv_of_nonneg (by omega), Int.neg_tdiv, Int.neg_neg]
        omega
    exact ⟨by omega, by omega⟩
  · rw [hk]
    refine msW_one ty106mkI rfl (by omega) (by omega) (by omega) (by omega) ?_
    simp only [go_sem, c40, c40S0, loadK_int, loadK_bool, loadK_str, loadK_slice, loadK_ptr, loadK_map, loadK_agg, loadK_other, heldW]
    have hb := bytesAt_zeros w (max 0 ((n + 7) / 8)).toNat 5
    have e : List.replicate (max 0 ((n + 7) / 8)).toNat (0 : UInt8) = emptyL n := by unfold emptyL; congr 1; omega
    rw [e] at hb
    exact ⟨emptyL n, by unfold emptyL; rw [List.length_replicate]; omega, hb, rfl, (Below.refl _ _).alloc (Nat.le_refl _) _⟩
def IsLow (l : List UInt8) (a b v : Int) (ok : Bool) : Prop :=
  (ok = true ∧ a ≤ v ∧ 0 ≤ v ∧ v < b ∧ v < 8 * l.length ∧ hasL l v = false ∧ ∀ j, a ≤ j → 0 ≤ j → j < v → hasL l j = true) ∨
  (ok = false ∧ v = 0 ∧ ∀ j, a ≤ j → 0 ≤ j → j < b → j < 8 * l.length → hasL l j = true)
theorem hasL_255 (l : List UInt8) (i : Int) (h0 : 0 ≤ i) (h1 : i < 8 * l.length) (hb : bN l (i / 8) = 255) : hasL l i = true := by
  have e1 : decide (0 ≤ i) = true := by simpa using h0
  have e2 : decide (i < 8 * (l.length : Int)) = true := by simpa using h1
  have : ∀ k : Fin 8, bitOf 255 k.val = true := by decide
  have := this ⟨(i % 8).toNat, by omega⟩
  simp [hasL, e1, e2, hb, this]
theorem lowest_ok (l : List UInt8) (a b : Int) (w : World) (ha : I64 a) (hb : I64 b) (hl : (l.length : Int) ≤ 140737488355328) :
    Ret Tryz.prog 27 [.string (ofL l), .int .i64 a, .int .i64 b] w fun v w' => ∃ n ok, v = .tuple #[.int .i64 n, .bool ok] ∧ IsLow l a b n ok ∧ w' = w := by
  obtain ⟨b1, b2⟩ := hb
  obtain ⟨a1, a2⟩ := ha
  refine ent27 _ _ _ _ _ ?_
  simp only [go_sem, c27, c27S0, c27S1, c27S2, c27S3, c27L0, c27S4, c27S5, loadK_int, loadK_bool, loadK_str, loadK_slice, loadK_ptr, loadK_map, loadK_agg, loadK_other, heldW]
  refine W_loop (fun i : Int => [(0, .string (ofL l)), (2, .int .i64 b), (8, .int .i64 i)]) (fun i w' => max 0 a ≤ i ∧ i ≤ 9223372036854775807 ∧ (∀ j, a ≤ j → 0 ≤ j → j < i → j < b → j < 8 * l.length → hasL l j = true) ∧ w' = w)
    (fun i => (9223372036854775807 - i).toNat) (max 0 a) (by rfl) ⟨by omega, by omega, fun j h1 h2 h3 => by omega, rfl⟩ ?_
  rintro i w' ⟨hi0, hi1, hall, rfl⟩
  have hii : I64 i := ⟨by omega, by omega⟩
  have i0 : 0 ≤ i := by omega
  have none : (i < b → (l.length : Int) ≤ i / 8) → ∃ n ok, Value.tuple #[.int .i64 0, .bool false] = .tuple #[.int .i64 n, .bool ok] ∧ IsLow l a b n ok := by
    intro h
    refine ⟨0, false, rfl, .inr ⟨rfl, rfl, fun j h1 h2 h3 h4 => ?_⟩⟩
    rcases Int.lt_or_le j i with h5 | h5
    · exact hall j h1 h2 h5 h3 h4
    · have := h (by omega); omega
  have next : ∀ d : Int, 1 ≤ d → d ≤ 8 → i < b → i / 8 < l.length → (∀ j, i ≤ j → j < i + d → j < 8 * l.length → hasL l j = true) →
      ∃ s', [(0, Value.string (ofL l)), (2, Value.int .i64 b), (8, Value.int .i64 (i + d))] = [(0, Value.string (ofL l)), (2, Value.int .i64 b), (8, Value.int .i64 s')] ∧
        (max 0 a ≤ s' ∧ s' ≤ 9223372036854775807 ∧ (∀ j, a ≤ j → 0 ≤ j → j < s' → j < b → j < 8 * l.length → hasL l j = true)) ∧ (9223372036854775807 - s').toNat < (9223372036854775807 - i).toNat := by
    intro d d1 d8 h1 h2 h3
    refine ⟨i + d, rfl, ⟨by omega, by omega, fun j g1 g2 g3 g4 g5 => ?_⟩, by omega⟩
    rcases Int.lt_or_le j i with h5 | h5
    · exact hall j g1 g2 h5 g4 g5
    · exact h3 j h5 g3 g5
  have done : i < b → i / 8 < l.length → hasL l i = false → ∃ n ok, Value.tuple #[.int .i64 i, .bool true] = .tuple #[.int .i64 n, .bool ok] ∧ IsLow l a b n ok := by
    intro h1 h2 h3
    exact ⟨i, true, rfl, .inl ⟨rfl, by omega, i0, h1, by omega, h3, fun j g1 g2 g3 => hall j g1 g2 g3 (by omega) (by omega)⟩⟩
  simp only [go_sem, c27, c27S0, c27S1, c27S2, c27S3, c27L0, c27S4, c27S5, c27L0, loadK_int, loadK_bool, loadK_str, loadK_slice, loadK_ptr, loadK_map, loadK_agg, loadK_other, heldW]
  rw [Int.tdiv_eq_ediv_of_nonneg i0, Int.tmod_eq_emod_of_nonneg i0]
  refine ⟨fun h1 => ⟨hii, fun h2 => ⟨fun h3 => ⟨hii, ⟨by omega, h2⟩, fun h4 => ⟨⟨by omega, by omega⟩, ⟨by omega, by omega⟩, ?_⟩, fun h4 => ?_⟩, fun h3 => ?_⟩, fun h2 => ?_⟩, fun h1 => ?_⟩
  · have := next 8 (by omega) (by omega) h1 h2 (fun j g1 g2 g3 => hasL_255 l j (by omega) g3 (by rw [show j / 8 = i / 8 by omega]; exact h4))
    rw [show i + 7 + 1 = i + 8 by omega]
    exact this
  · refine (has_ok l i _ hii).mono ?_
    rintro _ _ ⟨rfl, rfl⟩
    simp only [go_sem, c27, c27S0, c27S1, c27S2, c27S3, c27L0, c27S4, c27S5, loadK_int, loadK_bool, loadK_str, loadK_slice, loadK_ptr, loadK_map, loadK_agg, loadK_other, heldW]
    refine ⟨fun h5 => done h1 h2 h5, fun h5 => ⟨⟨by omega, by omega⟩, next 1 (by omega) (by omega) h1 h2 (fun j g1 g2 g3 => by rw [show j = i by omega]; exact h5)⟩⟩
  · refine (has_ok l i _ hii).mono ?_
    rintro _ _ ⟨rfl, rfl⟩
    simp only [go_sem, c27, c27S0, c27S1, c27S2, c27S3, c27L0, c27S4, c27S5, loadK_int, loadK_bool, loadK_str, loadK_slice, loadK_ptr, loadK_map, loadK_agg, loadK_other, heldW]
    refine ⟨fun h5 => done h1 h2 h5, fun h5 => ⟨⟨by omega, by omega⟩, next 1 (by omega) (by omega) h1 h2 (fun j g1 g2 g3 => by rw [show j = i by omega]; exact h5)⟩⟩
  · exact none (fun _ => h2)
  · exact none (fun h => by omega)
def popN (c : Int) : Nat := ((List.range 8).filter (bitOf c)).length
def countL (l : List UInt8) : Nat := (l.map fun b => popN b.toNat).sum
theorem popN_le (c : Int) : popN c ≤ 8 := by
  unfold popN
  exact Nat.le_trans (List.length_filter_le _ _) (by simp)
theorem countL_le : ∀ l : List UInt8, countL l ≤ 8 * l.length
  | [] => by simp [countL]
  | b :: l => by
    have := countL_le l
    have h := popN_le b.toNat
    simp only [countL, List.map_cons, List.sum_cons, List.length_cons] at *
    omega
theorem countL_take (l : List UInt8) (k : Nat) (h : k < l.length) : countL (l.take (k + 1)) = countL (l.take k) + popN (bN l k) := by
  rw [List.take_succ_eq_append_getElem h]
  have : bN l k = (l[k].toNat : Int) := bN_get l k _ (List.getElem?_eq_getElem h)
  rw [this]
  unfold countL
  rw [List.map_append, List.sum_append]
  simp
theorem ones_ok (c : Int) (w : World) (h0 : 0 ≤ c) (h1 : c ≤ 255) :
    Ret Tryz.prog 62 [.int .u8 c] w fun v w' => v = .int .i64 (popN c) ∧ w' = w := by
  refine ent62 _ _ _ ?_
  simp only [go_sem, c62, loadK_int, loadK_bool, loadK_str, loadK_slice, loadK_ptr, loadK_map, loadK_agg, loadK_other, heldW]
  have len : str256x1466348926.length = 256 := by decide +kernel
  have all : ∀ m : Fin 256, bN str256x1466348926 (m.val : Int) = (popN (m.val : Int) : Int) := by decide +kernel
  have e : bN str256x1466348926 c = popN c := by
    have := all ⟨c.toNat, by omega⟩
    rwa [show ((c.toNat : Nat) : Int) = c by omega] at this
  have := popN_le c
  refine ⟨⟨h0, by omega⟩, ?_, ?_⟩
  · rw [e]; constructor <;> omega
  · rw [e]
theorem count_ok (l : List UInt8) (w : World) (hl : (l.length : Int) ≤ 140737488355328) :
    Ret Tryz.prog 37 [.string (ofL l)] w fun v w' => v = .int .i64 (countL l) ∧ w' = w := by
  refine ent37 _ _ _ ?_
  simp only [go_sem, c37, c37S0, c37S1, c37L0, c37S2, loadK_int, loadK_bool, loadK_str, loadK_slice, loadK_ptr, loadK_map, loadK_agg, loadK_other, heldW]
  refine W_loop (fun k : Nat => [(0, Value.string (ofL l)), (3, .int .i64 (countL (l.take k))), (6, .int .i64 l.length), (7, .int .i64 (k : Int))])
    (fun k w' => k ≤ l.length ∧ w' = w) (fun k => l.length - k) 0 (by rfl) ⟨Nat.zero_le _, rfl⟩ ?_
  rintro k w' ⟨hk, rfl⟩
  simp only [go_sem, c37, c37S0, c37S1, c37L0, c37S2, c37L0, loadK_int, loadK_bool, loadK_str, loadK_slice, loadK_ptr, loadK_map, loadK_agg, loadK_other, heldW]
  refine ⟨fun h => ⟨⟨by omega, h⟩, ?_⟩, fun h => ?_⟩
  · have bd := bN_bd l k
    have h' : k < l.length := by omega
    have ct := countL_take l k h'
    have c1 := countL_le (l.take (k + 1))
    have c2 := countL_le (l.take k)
    have l1 : (l.take (k + 1)).length = k + 1 := by rw [List.length_take]; omega
    have l2 : (l.take k).length = k := by rw [List.length_take]; omega
    rw [l1] at c1
    rw [l2] at c2
    refine (ones_ok _ _ bd.1 bd.2).mono ?_
    rintro _ w3 ⟨rfl, rfl⟩
    simp only [go_sem, c37, c37S0, c37S1, c37L0, c37S2, loadK_int, loadK_bool, loadK_str, loadK_slice, loadK_ptr, loadK_map, loadK_agg, loadK_other, heldW]
    refine ⟨by constructor <;> omega, by constructor <;> omega, k + 1, ?_, by omega, by omega⟩
    rw [ct]; simp
  · rw [List.take_of_length_le (by omega)]
theorem set_bits : ∀ (c : Fin 256) (k j : Fin 8) (b : Bool), bitOf ((UInt8.ofNat (setBit (c.val : Int) k.val b).toNat).toNat : Int) j.val = if j = k then b else bitOf c.val j.val := by decide +kernel
theorem bN_set (l : List UInt8) (j : Int) (u : UInt8) (h0 : 0 ≤ j) (h : j < l.length) (k : Int) (hk : 0 ≤ k) : bN (l.set j.toNat u) k = if k = j then (u.toNat : Int) else bN l k := by
  by_cases e : k = j
  · subst e
    rw [if_pos rfl]
    have := bN_get (l.set k.toNat u) k.toNat u (by rw [List.getElem?_set_self (by omega)])
    rwa [show ((k.toNat : Nat) : Int) = k by omega] at this
  · rw [if_neg e]
    unfold bN
    rw [List.getD_eq_getElem?_getD, List.getD_eq_getElem?_getD, List.getElem?_set_ne (by omega)]
theorem hasL_in (l : List UInt8) (i : Int) (h : 0 ≤ i ∧ i < 8 * l.length) : hasL l i = bitOf (bN l (i / 8)) (i % 8).toNat := by
  simp [hasL, h.1, h.2]
theorem withL_length (l : List UInt8) (i : Int) (b : Bool) : (withL l i b).length = l.length := by
  unfold withL; split <;> simp
theorem withL_has (l : List UInt8) (i : Int) (b : Bool) (h : fitsL l i = true) (k : Int) : hasL (withL l i b) k = if k = i then b else hasL l k := by
  have h' := of_decide_eq_true h
  by_cases hk : 0 ≤ k ∧ k < 8 * l.length
  · rw [hasL_in _ k (by rw [withL_length]; exact hk), hasL_in l k hk]
    unfold withL
    rw [if_pos h', bN_set _ _ _ (by omega) (by omega) _ (by omega)]
    have bd := bN_bd l (i / 8)
    by_cases e : k / 8 = i / 8
    · rw [if_pos e]
      have := set_bits ⟨(bN l (i / 8)).toNat, by omega⟩ ⟨(i % 8).toNat, by omega⟩ ⟨(k % 8).toNat, by omega⟩ b
      rw [show ((bN l (i / 8)).toNat : Int) = bN l (i / 8) by omega] at this
      rw [this, e]
      by_cases e2 : k = i
      · subst e2; simp
      · rw [if_neg e2, if_neg (by intro h; have := congrArg Fin.val h; simp only at this; omega)]
    · rw [if_neg e, if_neg (by rintro rfl; exact e rfl)]
  · have hn : ∀ m : List UInt8, m.length = l.length → hasL m k = false := by
      intro m hm
      unfold hasL
      rw [hm]
      rw [← Bool.decide_and, decide_eq_false hk]; rfl
    rw [hn l rfl, hn _ (withL_length l i b), if_neg (by rintro rfl; exact hk h')]
end Go.Proofs.YtmchjbgobiagiaaGreat

namespace Go.Proofs.YtmchjbgobiagiaaGreat
set_option linter.unusedSimpArgs false
set_option linter.unusedVariables false
set_option maxRecDepth 100000
open Go Go.Ann Go.RowKit Go.WideShapes
def u8 (n : Nat) : UInt8 := UInt8.ofNat n
def byteC (b : UInt8) : Value := .int .u8 b.toNat
theorem byte_one (b : UInt8) : ∀ u ∈ [byteC b], u.oneCell' = true := by intro u hu; rw [List.mem_singleton] at hu; subst hu; rfl
theorem wrap_u8 (n : Nat) : IntKind.u8.wrap (n : Int) = ((u8 n).toNat : Int) := by
  rw [wrap_u8_mod]; unfold u8; simp
def fixL (n k : Nat) : List UInt8 := (List.range k).map fun i => u8 (n / 256 ^ i)
theorem fixL_len (n k : Nat) : (fixL n k).length = k := by unfold fixL; simp
theorem fixL_succ (n k : Nat) : fixL n (k + 1) = fixL n k ++ [u8 (n / 256 ^ k)] := by unfold fixL; rw [List.range_succ, List.map_append]; rfl
def unfixL : List UInt8 → Nat
  | [] => 0
  | b :: l => b.toNat + 256 * unfixL l
theorem unfixL_snoc (b : UInt8) : ∀ l : List UInt8, unfixL (l ++ [b]) = unfixL l + b.toNat * 256 ^ l.length
  | [] => by simp [unfixL]
  | a :: l => by
    rw [List.cons_append, unfixL, unfixL, unfixL_snoc b l, List.length_cons, Nat.pow_succ, Nat.mul_add, ← Nat.add_assoc, Nat.mul_comm (256 ^ l.length) 256, Nat.mul_left_comm]
theorem unfixL_lt : ∀ l : List UInt8, unfixL l < 256 ^ l.length
  | [] => by decide
  | b :: l => by
    have h1 := unfixL_lt l
    have h2 := b.toNat_lt
    rw [unfixL, List.length_cons, Nat.pow_succ]
    omega
theorem unfixL_fixL (n : Nat) : ∀ k, unfixL (fixL n k) = n % 256 ^ k
  | 0 => by simp [fixL, unfixL, Nat.mod_one]
  | k + 1 => by
    rw [fixL_succ, unfixL_snoc, unfixL_fixL n k, fixL_len, Nat.pow_succ]
    have e : (u8 (n / 256 ^ k)).toNat = n / 256 ^ k % 256 := by unfold u8; simp
    rw [e, Nat.mod_mul, Nat.mul_comm (256 ^ k)]
theorem pow256 (k : Nat) : (256 : Nat) ^ k = 2 ^ (8 * k) := by rw [show (256 : Nat) = 2 ^ 8 from rfl, ← Nat.pow_mul]
theorem or_next {a b i : Nat} (ha : a < 2 ^ i) (hb : b < 256) (hi : i ≤ 56) : bits .or .u64 (a : Int) (IntKind.u64.wrap ((b : Int) * 2 ^ i)) = ((a + b * 2 ^ i : Nat) : Int) := by
  have h56 : 2 ^ i ≤ 2 ^ 56 := Nat.pow_le_pow_right (by decide) hi
  have hb2 : b * 2 ^ i ≤ 255 * 2 ^ 56 := Nat.mul_le_mul (by omega) h56
  have e0 : IntKind.u64.wrap ((b : Int) * 2 ^ i) = ((b * 2 ^ i : Nat) : Int) := by
    have : ((b : Int) * 2 ^ i) = ((b * 2 ^ i : Nat) : Int) := by push_cast; rfl
    rw [this, wrap_u64_id _ (by omega) (by omega)]
  rw [e0]
  have e : (BitVec.ofInt 64 (a : Int) ||| BitVec.ofInt 64 ((b * 2 ^ i : Nat) : Int)).toNat = a + b * 2 ^ i := by
    rw [BitVec.toNat_or, BitVec.ofInt_natCast, BitVec.ofInt_natCast, BitVec.toNat_ofNat, BitVec.toNat_ofNat, Nat.mod_eq_of_lt (by omega), Nat.mod_eq_of_lt (by omega), Nat.or_comm]
    have := Nat.shiftLeft_add_eq_or_of_lt ha b
    rw [Nat.shiftLeft_eq] at this
    rw [← this]; omega
  show IntKind.u64.wrap (((BitVec.ofInt 64 (a : Int) ||| BitVec.ofInt 64 ((b * 2 ^ i : Nat) : Int)).toNat : Nat) : Int) = _
  rw [e, wrap_u64_id _ (by omega) (by omega)]
theorem row_bytes {w : World} {B e n c : Nat} {a : Option Addr} {l : List UInt8} (h : w.ownsRow B e 1 (.slice a n c) n (l.map byteC)) : bytesAt w a l := by
  rcases h.2 with ⟨e, h0⟩ | ⟨g, cap, cur, e, _⟩
  · have hl := h.1
    rw [List.length_map] at hl
    have hn : l = [] := List.eq_nil_of_length_eq_zero (by omega)
    simp only [Value.slice.injEq] at e
    obtain ⟨rfl, _, _⟩ := e
    exact hn
  · simp only [Value.slice.injEq] at e
    obtain ⟨rfl, _, rfl⟩ := e
    intro j b hb
    refine h.cells rfl j _ ?_
    rw [List.getElem?_map, hb]; rfl
theorem fixed_ok (n k : Nat) (w : World) (hn : n < 18446744073709551616) (hk : k ≤ 8) : Ret Tryz.prog 36 [.int .u64 n, .int .i64 k] w fun u w' => u = .string (ofL (fixL n k)) ∧ Below w.heap.size w w' := by
  refine ent36 _ _ _ _ ?_
  simp (disch := first | omega | exact okFill_t rfl | exact okSize_t rfl | exact fun h => h | (simp only [World.size_alloc, World.size_drew, World.size_setCell, size_fill, bytesW]; omega)) only [go_sem, c36, c36S0, c36S1, c36S2, c36S3]
  refine msW_one ty106mkI rfl (by omega) (by omega) (by omega) (by omega) ?_
  have s1 : St w (w.alloc (.cells (zerosA (.int .u8 0) 8) 5)) (fun _ => False) [.row (.slice (some ⟨w.heap.size, 0, none⟩) 0 8) 5 1 0 []] [] :=
    St.start.add ((Below.refl _ w).alloc (Nat.le_refl _) _) _ (World.ownsRow_made _ _ 8 (Nat.le_refl _) (by decide) (by rfl)) fun k hk => by simp only [Res.own, Value.ownBlock, Option.some.injEq] at hk; omega
  have e8 : max 0 (min (k : Int) 8) = k := by omega
  simp (disch := first | omega | exact okFill_t rfl | exact okSize_t rfl | exact fun h => h | (simp only [World.size_alloc, World.size_drew, World.size_setCell, size_fill, bytesW]; omega)) only [go_sem, c36, c36S0, c36S1, c36S2, c36S3, e8]
  refine W_loopU (fun q : Nat × Value => [(5, q.2), (11, .int .i64 q.1)]) (fun q w' => St w w' (fun _ => False) [.row q.2 5 1 q.1 ((fixL n q.1).map byteC)] [] ∧ q.1 ≤ k) (fun q => k - q.1) (0, .slice (some ⟨w.heap.size, 0, none⟩) 0 8) rfl ⟨s1, Nat.zero_le _⟩ ?_
  clear s1
  rintro ⟨j, v⟩ w1 ⟨s1, hj⟩
  simp only at s1 hj
  obtain ⟨a, c, rfl, _⟩ := own_slice (s1.row 0 rfl)
  by_cases hlt : j < k
  · have hlt' : (j : Int) < k := by omega
    simp (disch := first | omega | exact okFill_t rfl | exact okSize_t rfl | exact fun h => h | (simp only [World.size_alloc, World.size_drew, World.size_setCell, size_fill, bytesW]; omega)) only [go_sem, c36, c36S0, c36S1, c36L0, c36S2, c36S3, c36L0, hlt']
    have e1 : IntKind.u8.wrap ((n : Int) / 2 ^ min (IntKind.u64.wrap (8 * (j : Int))).toNat 64) = ((u8 (n / 256 ^ j)).toNat : Int) := by
      rw [wrap_u64_id _ (by omega) (by omega)]
      have e2 : min (8 * (j : Int)).toNat 64 = 8 * j := by omega
      rw [e2, ← wrap_u8, pow256]
      congr 1
    rw [e1]
    refine ⟨⟨by omega, by omega⟩, bsW_ones ty106mkI rfl rfl (by decide) (by decide) (byte_one (u8 (n / 256 ^ j))) ?_⟩
    simp (disch := first | omega | exact okFill_t rfl | exact okSize_t rfl | exact fun h => h | (simp only [World.size_alloc, World.size_drew, World.size_setCell, size_fill, bytesW]; omega)) only [go_sem, c36, c36S0, c36S1, c36L0, c36S2, c36S3]
    have hx : Rd (w1.alloc (.cells #[byteC (u8 (n / 256 ^ j))] 5)) 1 (.slice (some ⟨w1.heap.size, 0, none⟩) 1 1) 1 [byteC (u8 (n / 256 ^ j))] := rd_new (n := 1) (cs := #[byteC (u8 (n / 256 ^ j))]) rfl
    refine (s1.alloc' (.cells #[byteC (u8 (n / 256 ^ j))] 5)).append 0 rfl ty106mkI rfl (by decide) hx (byte_one _) (by omega) (by omega) ?_
    intro v6 w6 s6 c6
    simp only [List.set_cons_zero] at s6
    simp (disch := first | omega | exact okFill_t rfl | exact okSize_t rfl | exact fun h => h | (simp only [World.size_alloc, World.size_drew, World.size_setCell, size_fill, bytesW]; omega)) only [go_sem, c36, c36S0, c36S1, c36L0, c36S2, c36S3]
    refine ⟨⟨by omega, by omega⟩, (j + 1, v6), rfl, ⟨st_recast s6 ?_, by simp only; omega⟩, by simp only; omega⟩
    simp only [fixL_succ, List.map_append, List.map_cons, List.map_nil]
  · have hlt' : ¬ (j : Int) < k := by omega
    obtain rfl : j = k := by omega
    simp (disch := first | omega | exact okFill_t rfl | exact okSize_t rfl | exact fun h => h | (simp only [World.size_alloc, World.size_drew, World.size_setCell, size_fill, bytesW]; omega)) only [go_sem, c36, c36S0, c36S1, c36L0, c36S2, c36S3, c36L0, hlt']
    refine ⟨fixL n j, fixL_len n j, ?_, rfl, s1.bel⟩
    exact row_bytes (s1.row 0 rfl)
theorem unfixed_ok (l : List UInt8) (w : World) (hl : l.length ≤ 8) : Ret Tryz.prog 33 [.string (ofL l)] w fun u w' => u = .int .u64 (unfixL l) ∧ w' = w := by
  refine ent33 _ _ _ ?_
  have e8 : min (l.length : Int) 8 = l.length := by omega
  simp (disch := first | omega | exact okFill_t rfl | exact okSize_t rfl | exact fun h => h | (simp only [World.size_alloc, World.size_drew, World.size_setCell, size_fill, bytesW]; omega)) only [go_sem, c33, c33S0, c33S1, c33S2, e8]
  refine W_loopU (fun j : Nat => [(3, .int .u64 (unfixL (l.take j))), (8, .int .i64 j)]) (fun j w' => w' = w ∧ j ≤ l.length) (fun j => l.length - j) 0 rfl ⟨rfl, Nat.zero_le _⟩ ?_
  rintro j w1 ⟨e1, hj⟩
  subst w1
  by_cases hlt : j < l.length
  · have hlt' : (j : Int) < l.length := by omega
    simp (disch := first | omega | exact okFill_t rfl | exact okSize_t rfl | exact fun h => h | (simp only [World.size_alloc, World.size_drew, World.size_setCell, size_fill, bytesW]; omega)) only [go_sem, c33, c33S0, c33L0, c33S1, c33S2, c33L0, hlt']
    have hb : bN l (j : Int) = ((l[j].toNat : Nat) : Int) := (bN_get l j _ (List.getElem?_eq_getElem hlt))
    have e2 : min (8 * (j : Int)).toNat 64 = 8 * j := by omega
    have hlt2 := unfixL_lt (l.take j)
    rw [List.length_take, Nat.min_eq_left (by omega), pow256] at hlt2
    have hbl := l[j].toNat_lt
    rw [hb, wrap_u64_id _ (show 0 ≤ ((l[j].toNat : Nat) : Int) by omega) (by omega), wrap_u64_id (8 * (j : Int)) (by omega) (by omega), e2, or_next hlt2 (by omega) (by omega)]
    refine ⟨by omega, ⟨by omega, by omega⟩, ⟨by omega, by omega⟩, j + 1, ?_, by omega, by omega⟩
    rw [List.take_succ_eq_append_getElem hlt, unfixL_snoc, List.length_take, Nat.min_eq_left (by omega), pow256]
    rfl
  · have hlt' : ¬ (j : Int) < l.length := by omega
    simp (disch := first | omega | exact okFill_t rfl | exact okSize_t rfl | exact fun h => h | (simp only [World.size_alloc, World.size_drew, World.size_setCell, size_fill, bytesW]; omega)) only [go_sem, c33, c33S0, c33L0, c33S1, c33S2, c33L0, hlt']
    rw [List.take_of_length_le (by omega)]
def notB (b : UInt8) : UInt8 := 255 - b
def notL (l : List UInt8) : List UInt8 := l.map notB
theorem notL_len (l : List UInt8) : (notL l).length = l.length := by unfold notL; simp
theorem xor255 : ∀ x : Fin 256, bits BinOp.xor IntKind.u8 (x.val : Int) 255 = ((255 - x.val : Nat) : Int) := by decide +kernel
theorem xor_u8 (b : UInt8) : bits BinOp.xor IntKind.u8 ((b.toNat : Nat) : Int) 255 = (((notB b).toNat : Nat) : Int) := by
  have h := xor255 ⟨b.toNat, b.toNat_lt⟩
  rw [h]
  unfold notB
  have := b.toNat_lt
  rw [UInt8.toNat_sub_of_le _ _ (by rw [UInt8.le_iff_toNat_le]; show b.toNat ≤ 255; omega)]
  rfl
theorem not_ok (l : List UInt8) (w : World) (hl : (l.length : Int) ≤ 1000000) : Ret Tryz.prog 97 [.string (ofL l)] w fun u w' => u = .string (ofL (notL l)) ∧ Below w.heap.size w w' := by
  refine ent97 _ _ _ ?_
  simp (disch := first | omega | exact okFill_t rfl | exact okSize_t rfl | exact fun h => h | (simp only [World.size_alloc, World.size_drew, World.size_setCell, size_fill, bytesW]; omega)) only [go_sem, c97, c97S0, c97S1]
  intro c hc
  have hf0 : ∀ i, i < l.length → (bytesW w l c 5).frozen? ⟨w.heap.size, i, none⟩ = false := fun i hi => frozen_bytesW w l c 5 i (by omega)
  refine W_loopU (fun j : Nat => [(9, .int .i64 j)]) (fun j w' => j ≤ l.length ∧ bytesAt w' (some ⟨w.heap.size, 0, none⟩) (notL (l.take j) ++ l.drop j) ∧ (∀ i, i < l.length → w'.frozen? ⟨w.heap.size, i, none⟩ = false) ∧ Below w.heap.size w w') (fun j => l.length - j) 0 rfl ⟨Nat.zero_le _, bytesAt_bytesW w l c 5, hf0, below_bytesW w l c 5⟩ ?_
  rintro j w1 ⟨hj, ha, hf, hb⟩
  by_cases hlt : j < l.length
  · have hlt' : (j : Int) < l.length := by omega
    have e1 : (notL (l.take j) ++ l.drop j)[j]? = some l[j] := by
      rw [List.getElem?_append_right (by rw [notL_len, List.length_take]; omega), notL_len, List.length_take, Nat.min_eq_left (by omega), Nat.sub_self, List.getElem?_drop, Nat.add_zero, List.getElem?_eq_getElem hlt]
    have ec := ha j _ e1
    rw [Addr.add_lit, Nat.zero_add] at ec
    have ef := hf j hlt
    simp (disch := first | omega | exact okFill_t rfl | exact okSize_t rfl | exact fun h => h | (simp only [World.size_alloc, World.size_drew, World.size_setCell, size_fill, bytesW]; omega)) only [go_sem, c97, c97S0, c97L0, c97S1, c97L0, hlt', ec, ef]
    rw [xor_u8]
    have hs := bytesAt_set ha (j := j) (n := (((notB l[j]).toNat : Nat) : Int)) (by omega) (by have := (notB l[j]).toNat_lt; omega) (by rw [List.length_append, notL_len, List.length_take, List.length_drop]; omega)
    rw [Nat.zero_add] at hs
    refine ⟨by omega, by omega, ⟨by omega, by omega⟩, j + 1, rfl, ⟨by omega, ?_, hf, hb.setCell (Nat.le_refl _) _⟩, by omega⟩
    have e2 : (notL (l.take j) ++ l.drop j).set j (UInt8.ofNat (((notB l[j]).toNat : Nat) : Int).toNat) = notL (l.take (j + 1)) ++ l.drop (j + 1) := by
      rw [List.set_append_right _ _ (by rw [notL_len, List.length_take]; omega), notL_len, List.length_take, Nat.min_eq_left (by omega), Nat.sub_self, List.drop_eq_getElem_cons hlt, List.set_cons_zero, List.take_succ_eq_append_getElem hlt]
      unfold notL
      rw [List.map_append, List.append_assoc]
      simp
    rw [e2] at hs
    exact hs
  · have hlt' : ¬ (j : Int) < l.length := by omega
    obtain rfl : j = l.length := by omega
    simp (disch := first | omega | exact okFill_t rfl | exact okSize_t rfl | exact fun h => h | (simp only [World.size_alloc, World.size_drew, World.size_setCell, size_fill, bytesW]; omega)) only [go_sem, c97, c97S0, c97L0, c97S1, c97L0, hlt']
    rw [List.take_length, List.drop_length, List.append_nil] at ha
    exact ⟨notL l, notL_len l, ha, rfl, hb⟩
end Go.Proofs.YtmchjbgobiagiaaGreat

namespace Go.Proofs.YtmchjbgobiagiaaGreat
set_option linter.unusedSimpArgs false
set_option linter.unusedVariables false
set_option maxRecDepth 100000
open Go Go.Ann Go.RowKit Go.WideShapes
structure Hd where
  seq : Nat
  used : Nat
  room : Nat
  pages : Nat
deriving DecidableEq
structure Hd.ok (h : Hd) : Prop where
  seq : h.seq < 18446744073709551616
  used : h.used < 4294967296
  room : h.room < 4294967296
  pages : h.pages < 4294967296
def Hd.enc (h : Hd) : List Value := [.int .u64 h.seq, .int .i64 h.used, .int .i64 h.room, .int .i64 h.pages]
theorem Hd.len (h : Hd) : h.enc.length = 4 := rfl
theorem Hd.one (h : Hd) : ∀ u ∈ h.enc, u.oneCell' = true := by
  intro u hu
  simp only [Hd.enc, List.mem_cons, List.not_mem_nil, or_false] at hu
  rcases hu with rfl | rfl | rfl | rfl <;> rfl
def head0 (h : Hd) : List UInt8 := fixL h.seq 8 ++ fixL h.used 4 ++ fixL h.room 4 ++ fixL h.pages 4
def headL (h : Hd) : List UInt8 := head0 h ++ notL (head0 h)
theorem head0_len (h : Hd) : (head0 h).length = 20 := by unfold head0; simp only [List.length_append, fixL_len]
theorem headL_len (h : Hd) : (headL h).length = 40 := by unfold headL; rw [List.length_append, notL_len, head0_len]
def hd0 : Hd := ⟨0, 0, 0, 0⟩
def readHd (b : List UInt8) : Option Hd :=
  if b.length < 40 then none else if notL (b.take 20) = cutL b 20 40 then some ⟨unfixL (b.take 8), unfixL (cutL b 8 12), unfixL (cutL b 12 16), unfixL (cutL b 16 20)⟩ else none
theorem writeHead_ok (h : Hd) (ok : h.ok) (w : World) : Ret Tryz.prog 94 [.agg h.enc.toArray] w fun u w' => u = .string (ofL (headL h)) ∧ Below w.heap.size w w' := by
  refine ent94 _ _ _ ?_
  have s1 := (St.start (W0 := w)).box h.enc.toArray 96
  have r1 := s1.rules 0 rfl
  simp (disch := first | omega | exact okFill_t rfl | exact okSize_t rfl | exact fun h => h | (simp only [World.size_alloc, World.size_drew, World.size_setCell, size_fill, bytesW]; omega)) only [go_sem, c94, c94S0, c94S1]
  generalize hb : w.heap.size = b at s1 r1 ⊢
  generalize w.alloc (.cells h.enc.toArray 96) = w1 at s1 r1 ⊢
  refine c94draw0 (Chg (fun _ => False) _) (Chg.refl _ _) ?_
  have s2 := s1.drew
  have r2 := s2.rules 0 rfl
  have l2 := s2.low 0 rfl
  generalize w1.drew = w2 at s2 r2 l2 ⊢
  obtain ⟨o1, o2, o3, o4⟩ := ok
  simp (disch := first | omega | exact okFill_t rfl | exact okSize_t rfl | exact fun h => h | (simp only [World.size_alloc, World.size_drew, World.size_setCell, size_fill, bytesW]; omega)) only [go_sem, c94, c94S0, c94S1, c94D0, r2, Hd.enc]
  rw [wrap_u64_id (h.used : Int) (by omega) (by omega), wrap_u64_id (h.room : Int) (by omega) (by omega), wrap_u64_id (h.pages : Int) (by omega) (by omega)]
  refine Ret.mono (fixed_ok h.seq 8 w2 o1 (by omega)) ?_
  rintro _ w3 ⟨rfl, b3⟩
  simp (disch := first | omega | exact okFill_t rfl | exact okSize_t rfl | exact fun h => h | (simp only [World.size_alloc, World.size_drew, World.size_setCell, size_fill, bytesW]; omega)) only [go_sem, c94, c94S0, c94S1]
  refine ⟨Chg.of_below b3, Ret.mono (fixed_ok h.used 4 w3 (by omega) (by omega)) ?_⟩
  rintro _ w4 ⟨rfl, b4⟩
  have b4 := Below.next b3 b4
  simp (disch := first | omega | exact okFill_t rfl | exact okSize_t rfl | exact fun h => h | (simp only [World.size_alloc, World.size_drew, World.size_setCell, size_fill, bytesW]; omega)) only [go_sem, c94, c94S0, c94S1]
  refine ⟨Chg.of_below b4, by simp only [fixL_len]; omega, Ret.mono (fixed_ok h.room 4 w4 (by omega) (by omega)) ?_⟩
  rintro _ w5 ⟨rfl, b5⟩
  have b5 := Below.next b4 b5
  simp (disch := first | omega | exact okFill_t rfl | exact okSize_t rfl | exact fun h => h | (simp only [World.size_alloc, World.size_drew, World.size_setCell, size_fill, bytesW]; omega)) only [go_sem, c94, c94S0, c94S1]
  refine ⟨Chg.of_below b5, by simp only [List.length_append, fixL_len]; omega, Ret.mono (fixed_ok h.pages 4 w5 (by omega) (by omega)) ?_⟩
  rintro _ w6 ⟨rfl, b6⟩
  have b6 := Below.next b5 b6
  simp (disch := first | omega | exact okFill_t rfl | exact okSize_t rfl | exact fun h => h | (simp only [World.size_alloc, World.size_drew, World.size_setCell, size_fill, bytesW]; omega)) only [go_sem, c94, c94S0, c94S1]
  refine ⟨Chg.of_below b6, by simp only [List.length_append, fixL_len]; omega, Ret.mono (not_ok (head0 h) w6 (by rw [head0_len]; omega)) ?_⟩
  rintro _ w7 ⟨rfl, b7⟩
  have hl := head0_len h
  simp (disch := first | omega | exact okFill_t rfl | exact okSize_t rfl | exact fun h => h | (simp only [World.size_alloc, World.size_drew, World.size_setCell, size_fill, bytesW]; omega)) only [go_sem, c94, c94S0, c94S1]
  refine ⟨?_, rfl, ?_⟩
  · rw [notL_len, hl]
    show ((head0 h).length : Int) + (20 : Nat) ≤ _
    rw [hl]; omega
  · rw [← hb]
    exact (s2.call (Below.next b6 b7)).bel
theorem readAt_ok (b : List UInt8) (y : Nat) (i j : Nat) (w : World) (hy : w.cell? ⟨y, 0, none⟩ = some (.string (ofL b))) (hj : j = i + 4) (hi : j ≤ b.length) (hb : b.length ≤ 1000) :
    Ret Tryz.prog 98 [.int .i64 i, .pointer (some ⟨y, 0, none⟩)] w fun u w' => u = .int .i64 (unfixL (cutL b i j)) ∧ w' = w := by
  refine ent98 _ _ _ _ ?_
  simp (disch := first | omega | exact okFill_t rfl | exact okSize_t rfl | exact fun h => h | (simp only [World.size_alloc, World.size_drew, World.size_setCell, size_fill, bytesW]; omega)) only [go_sem, c98, c98S0, hy]
  subst hj
  have hc : (cutL b (i : Int) ((i : Int) + 4)).length = 4 := by
    unfold cutL; rw [List.length_drop, List.length_take]; omega
  refine ⟨⟨by omega, by omega⟩, ⟨by omega, by omega, by omega⟩, Ret.mono (unfixed_ok _ w (by rw [hc]; omega)) ?_⟩
  rintro _ w2 ⟨rfl, e2⟩
  subst w2
  have hlt := unfixL_lt (cutL b (i : Int) ((i : Int) + 4))
  rw [hc] at hlt
  have hlt : unfixL (cutL b (i : Int) ((i : Int) + 4)) < 4294967296 := hlt
  simp (disch := first | omega | exact okFill_t rfl | exact okSize_t rfl | exact fun h => h | (simp only [World.size_alloc, World.size_drew, World.size_setCell, size_fill, bytesW]; omega)) only [go_sem, c98, c98S0]
  constructor <;> omega
theorem readHead_ok (b : List UInt8) (hb : b.length ≤ 1000) (w : World) : Ret Tryz.prog 77 [.string (ofL b)] w fun u w' => u = .tuple #[.agg ((readHd b).getD hd0).enc.toArray, .bool (readHd b).isSome] ∧ Below w.heap.size w w' := by
  refine ent77 _ _ _ ?_
  have s1 := ((St.start (W0 := w)).box #[.string (ofL b)] 9).box #[.int .u64 0, .int .i64 0, .int .i64 0, .int .i64 0] 96
  simp (disch := first | omega | exact okFill_t rfl | exact okSize_t rfl | exact fun h => h | (simp only [World.size_alloc, World.size_drew, World.size_setCell, size_fill, bytesW]; omega)) only [go_sem, c77, c77S0, c77S1, c77S2]
  rw [World.size_alloc] at s1
  generalize hw : w.heap.size = y at s1 ⊢
  refine c77draw0 (Chg (fun _ => False) _) (Chg.refl _ _) ?_
  have s2 := s1.drew
  have r2 := s2.rules 1 rfl
  have l2 := s2.low 1 rfl
  generalize hw2 : ((w.alloc (.cells #[.string (ofL b)] 9)).alloc (.cells #[.int .u64 0, .int .i64 0, .int .i64 0, .int .i64 0] 96)).drew = w2 at s2 r2 l2 ⊢
  by_cases h40 : b.length < 40
  · have h40' : (b.length : Int) < 40 := by omega
    have e0 : readHd b = none := by unfold readHd; rw [if_pos h40]
    have q2 := s2.rules 0 rfl
    simp (disch := first | omega | exact okFill_t rfl | exact okSize_t rfl | exact fun h => h | (simp only [World.size_alloc, World.size_drew, World.size_setCell, size_fill, bytesW]; omega)) only [go_sem, c77, c77S0, c77S1, c77S2, c77D0, r2, h40', q2]
    refine bdW_built (cells := #[.int .u64 0, .int .i64 0, .int .i64 0, .int .i64 0]) (by kernel_rfl) ?_
    simp (disch := first | omega | exact okFill_t rfl | exact okSize_t rfl | exact fun h => h | (simp only [World.size_alloc, World.size_drew, World.size_setCell, size_fill, bytesW]; omega)) only [go_sem, c77, c77S0, c77S1, c77S2, q2]
    rw [e0]
    exact ⟨rfl, hw ▸ (s2.fill 0 rfl (cs := #[.int .u64 0, .int .i64 0, .int .i64 0, .int .i64 0]) rfl).bel⟩
  · have h40' : ¬ (b.length : Int) < 40 := by omega
    simp (disch := first | omega | exact okFill_t rfl | exact okSize_t rfl | exact fun h => h | (simp only [World.size_alloc, World.size_drew, World.size_setCell, size_fill, bytesW]; omega)) only [go_sem, c77, c77S0, c77S1, c77S2, c77D0, r2, h40']
    refine ⟨by omega, by omega, Ret.mono (not_ok (b.take 20) w2 (by rw [List.length_take]; omega)) ?_⟩
    rintro _ w3 ⟨rfl, b3⟩
    have s3 := s2.call b3
    have r3 := s3.rules 1 rfl
    have q3 := s3.rules 0 rfl
    by_cases hn : notL (b.take 20) = cutL b 20 40
    · have e0 : readHd b = some ⟨unfixL (b.take 8), unfixL (cutL b 8 12), unfixL (cutL b 12 16), unfixL (cutL b 16 20)⟩ := by unfold readHd; rw [if_neg h40, if_pos hn]
      rw [e0]
      simp (disch := first | omega | exact okFill_t rfl | exact okSize_t rfl | exact fun h => h | (simp only [World.size_alloc, World.size_drew, World.size_setCell, size_fill, bytesW]; omega)) only [go_sem, c77, c77S0, c77S1, c77S2, c77D0, hn, r3]
      have l8 : (b.take 8).length = 8 := by rw [List.length_take]; omega
      have h8 := unfixL_lt (b.take 8)
      rw [l8] at h8
      have h8 : unfixL (b.take 8) < 18446744073709551616 := h8
      refine ⟨Chg.of_below b3, by omega, Ret.mono (unfixed_ok (b.take 8) w3 (by omega)) ?_⟩
      rintro _ w4 ⟨rfl, e4⟩
      subst w4
      have hy : w3.cell? ⟨y, 0, none⟩ = some (.string (ofL b)) := (s3.blk 1 rfl).cell 0
      simp (disch := first | omega | exact okFill_t rfl | exact okSize_t rfl | exact fun h => h | (simp only [World.size_alloc, World.size_drew, World.size_setCell, size_fill, bytesW]; omega)) only [go_sem, c77, c77S0, c77S1, c77S2]
      refine callW_go ⟨by kernel_rfl, Ret.mono (readAt_ok b y 8 12 w3 hy rfl (by omega) hb) ?_⟩
      rintro _ w4 ⟨rfl, e4⟩
      subst w4
      simp (disch := first | omega | exact okFill_t rfl | exact okSize_t rfl | exact fun h => h | (simp only [World.size_alloc, World.size_drew, World.size_setCell, size_fill, bytesW]; omega)) only [go_sem, c77, c77S0, c77S1, c77S2]
      refine callW_go ⟨by kernel_rfl, Ret.mono (readAt_ok b y 12 16 w3 hy rfl (by omega) hb) ?_⟩
      rintro _ w4 ⟨rfl, e4⟩
      subst w4
      simp (disch := first | omega | exact okFill_t rfl | exact okSize_t rfl | exact fun h => h | (simp only [World.size_alloc, World.size_drew, World.size_setCell, size_fill, bytesW]; omega)) only [go_sem, c77, c77S0, c77S1, c77S2]
      refine callW_go ⟨by kernel_rfl, Ret.mono (readAt_ok b y 16 20 w3 hy rfl (by omega) hb) ?_⟩
      rintro _ w4 ⟨rfl, e4⟩
      subst w4
      simp (disch := first | omega | exact okFill_t rfl | exact okSize_t rfl | exact fun h => h | (simp only [World.size_alloc, World.size_drew, World.size_setCell, size_fill, bytesW]; omega)) only [go_sem, c77, c77S0, c77S1, c77S2]
      refine bdW_built (cells := (Hd.mk (unfixL (b.take 8)) (unfixL (cutL b 8 12)) (unfixL (cutL b 12 16)) (unfixL (cutL b 16 20))).enc.toArray) (by kernel_rfl) ?_
      simp (disch := first | omega | exact okFill_t rfl | exact okSize_t rfl | exact fun h => h | (simp only [World.size_alloc, World.size_drew, World.size_setCell, size_fill, bytesW]; omega)) only [go_sem, c77, c77S0, c77S1, c77S2, q3, Hd.enc]
      exact ⟨rfl, hw ▸ (s3.fill 0 rfl (cs := (Hd.mk (unfixL (b.take 8)) (unfixL (cutL b 8 12)) (unfixL (cutL b 12 16)) (unfixL (cutL b 16 20))).enc.toArray) rfl).bel⟩
    · have e0 : readHd b = none := by unfold readHd; rw [if_neg h40, if_neg hn]
      rw [e0]
      simp (disch := first | omega | exact okFill_t rfl | exact okSize_t rfl | exact fun h => h | (simp only [World.size_alloc, World.size_drew, World.size_setCell, size_fill, bytesW]; omega)) only [go_sem, c77, c77S0, c77S1, c77S2, c77D0, hn, r3]
      refine ⟨Chg.of_below b3, bdW_built (cells := #[.int .u64 0, .int .i64 0, .int .i64 0, .int .i64 0]) (by kernel_rfl) ?_⟩
      simp (disch := first | omega | exact okFill_t rfl | exact okSize_t rfl | exact fun h => h | (simp only [World.size_alloc, World.size_drew, World.size_setCell, size_fill, bytesW]; omega)) only [go_sem, c77, c77S0, c77S1, c77S2, q3]
      exact ⟨rfl, hw ▸ (s3.fill 0 rfl (cs := #[.int .u64 0, .int .i64 0, .int .i64 0, .int .i64 0]) rfl).bel⟩
end Go.Proofs.YtmchjbgobiagiaaGreat

namespace Go.Proofs.YtmchjbgobiagiaaGreat
set_option linter.unusedSimpArgs false
set_option linter.unusedVariables false
set_option maxRecDepth 100000
open Go Go.Ann Go.RowKit Go.WideShapes
def intK (n : Int) : Value := .int .i64 n
def strK (l : List UInt8) : Value := .string (ofL l)
structure Sto where
  hd : Hd
  dirty : List (Int × List UInt8 × Nat)
  clock : Nat
  dead : Bool
  disk : Dk
def StoH (b mb g : Nat) (s : Sto) : List Res :=
  [.blk b #[.pointer (some ⟨g, 0, none⟩), .int .u64 s.hd.seq, .int .i64 s.hd.used, .int .i64 s.hd.room, .int .i64 s.hd.pages, .map (some mb), .bool s.dead] 101, .obj mb (mapG intK strK s.dirty s.clock)]
def StoL (b mb g : Nat) (vb vl : Value) (s : Sto) : List Res := StoH b mb g s ++ DkL g vb vl s.disk
theorem sto_disk {W0 w : World} {F : Nat → Prop} {L : List Res} {I : List Inv} {b mb g : Nat} {vb vl : Value} {s : Sto} (h : St W0 w F (StoL b mb g vb vl s ++ L) I) : St W0 w F (DkL g vb vl s.disk ++ (StoH b mb g s ++ L)) I :=
  St.front (A := StoH b mb g s) (D := DkL g vb vl s.disk) (L := L) (by rw [← List.append_assoc]; exact h)
theorem disk_sto {W0 w : World} {F : Nat → Prop} {L : List Res} {I : List Inv} {b mb g : Nat} {vb vl : Value} {s : Sto} {m : Dk} (h : St W0 w F (DkL g vb vl m ++ (StoH b mb g s ++ L)) I) : St W0 w F (StoL b mb g vb vl { s with disk := m } ++ L) I := by
  have h' := St.front h
  rw [← List.append_assoc] at h'
  exact h'
structure Sto.ok (s : Sto) : Prop where
  hd : s.hd.ok
  disk : s.disk.ok
  room : 1 ≤ s.hd.room
  pages : 1 ≤ s.hd.pages
  few : s.hd.pages ≤ 1024
  fit : 2 + s.hd.room + s.hd.pages ≤ s.disk.safe.length
  keys : ∀ x ∈ s.dirty, 0 ≤ x.1 ∧ x.1 < s.hd.pages ∧ x.2.1.length = 256
  nd : (s.dirty.map Prod.fst).Nodup
  born : (s.dirty.map fun x => x.2.2).Nodup
  clock : ∀ x ∈ s.dirty, x.2.2 < s.clock
theorem keyT_n : KeyT Tryz.prog 3 intK (.int .i64) := keyT_int Tryz.underlying3
section
variable {W0 w : World} {F : Nat → Prop} {L : List Res} {I : List Inv} {b mb g : Nat} {vb vl : Value} {s : Sto}
def stReady (s : Sto) (i : Int) : Int := if s.dead = true then 11 else if 0 ≤ i ∧ i < s.hd.pages then 0 else 10
theorem sready_ok (i : Int) (h : St W0 w F (StoL b mb g vb vl s ++ L) I) :
    Ret Tryz.prog 56 [.pointer (some ⟨b, 0, none⟩), .int .i64 i] w fun u w' => u = .int .i64 (stReady s i) ∧ w' = w := by
  refine ent56 _ _ _ _ ?_
  have r1 := h.rules 0 rfl
  simp (disch := first | omega | exact okFill_t rfl | exact okSize_t rfl | exact fun h => h | (simp only [World.size_alloc, World.size_drew, World.size_setCell, size_fill, bytesW]; omega)) only [go_sem, c56, c56S0, r1]
  unfold stReady
  refine ⟨fun hg => ?_, fun hg => ?_⟩
  · rw [if_pos hg]
  · rw [if_neg (by rw [hg]; decide)]
    by_cases h0 : 0 ≤ i
    · by_cases h1 : i < s.hd.pages
      · rw [if_pos ⟨h0, h1⟩]
        exact ⟨fun _ => ⟨fun h => by omega, fun _ => rfl⟩, fun h => by omega⟩
      · rw [if_neg (by omega)]
        exact ⟨fun _ => ⟨fun _ => rfl, fun h => by omega⟩, fun h => by omega⟩
    · rw [if_neg (by omega)]
      exact ⟨fun h => by omega, fun _ => rfl⟩
theorem stReady_in {i : Int} (h : stReady s i = 0) : 0 ≤ i ∧ i < s.hd.pages ∧ s.dead = false := by
  unfold stReady at h
  split at h
  · cases h
  · rename_i hd
    split at h
    · rename_i h2
      exact ⟨h2.1, h2.2, by simpa using hd⟩
    · cases h
theorem slen_ok (h : St W0 w F (StoL b mb g vb vl s ++ L) I) :
    Ret Tryz.prog 23 [.pointer (some ⟨b, 0, none⟩)] w fun u w' => u = .int .i64 s.hd.pages ∧ w' = w := by
  refine ent23 _ _ _ ?_
  have r1 := h.rules 0 rfl
  simp (disch := first | omega | exact okFill_t rfl | exact okSize_t rfl | exact fun h => h | (simp only [World.size_alloc, World.size_drew, World.size_setCell, size_fill, bytesW]; omega)) only [go_sem, c23, c23S0, r1]
def homeN (s : Sto) (i : Int) : Int := 2 + s.hd.room + i
def stRead (s : Sto) (i : Int) : Sto × List UInt8 × Int :=
  if stReady s i ≠ 0 then (s, [], stReady s i) else
  match getM i s.dirty with
  | some x => (s, x, 0)
  | none => (if (readN s.disk (homeN s i)).2 = 0 then s else { s with dead := true }, readN s.disk (homeN s i))
theorem sread_ok (i : Int) (h : St W0 w F (StoL b mb g vb vl s ++ L) I) (ok : s.ok) :
    Ret Tryz.prog 24 [.pointer (some ⟨b, 0, none⟩), .int .i64 i] w fun u w' => u = .tuple #[.string (ofL (stRead s i).2.1), .int .i64 (stRead s i).2.2] ∧ St W0 w' F (StoL b mb g vb vl (stRead s i).1 ++ L) I := by
  refine ent24 _ _ _ _ ?_
  simp (disch := first | omega | exact okFill_t rfl | exact okSize_t rfl | exact fun h => h | (simp only [World.size_alloc, World.size_drew, World.size_setCell, size_fill, bytesW]; omega)) only [go_sem, c24, c24S0, c24S1, c24S2, c24S3, c24S4]
  refine Ret.mono (sready_ok i h) ?_
  rintro _ w2 ⟨rfl, e2⟩
  subst w2
  unfold stRead
  by_cases hr : stReady s i = 0
  case neg =>
    rw [if_pos hr]
    simp (disch := first | omega | exact okFill_t rfl | exact okSize_t rfl | exact fun h => h | (simp only [World.size_alloc, World.size_drew, World.size_setCell, size_fill, bytesW]; omega)) only [go_sem, c24, c24S0, c24S1, c24S2, c24S3, c24S4, hr]
    exact h
  rw [if_neg (by omega)]
  have r1 := h.rules 0 rfl
  simp (disch := first | omega | exact okFill_t rfl | exact okSize_t rfl | exact fun h => h | (simp only [World.size_alloc, World.size_drew, World.size_setCell, size_fill, bytesW]; omega)) only [go_sem, c24, c24S0, c24S1, c24S2, c24S3, c24S4, hr, r1]
  refine luG_map (ek := intK) (ev := strK) keyT_n Tryz.underlying99 (h.obj 1 rfl) i (by rfl) ?_
  cases hg : getM i s.dirty with
  | some x =>
    simp (disch := first | omega | exact okFill_t rfl | exact okSize_t rfl | exact fun h => h | (simp only [World.size_alloc, World.size_drew, World.size_setCell, size_fill, bytesW]; omega)) only [go_sem, c24, c24S0, c24S1, c24S2, c24S3, c24S4, luG]
    exact ⟨rfl, h⟩
  | none =>
    simp (disch := first | omega | exact okFill_t rfl | exact okSize_t rfl | exact fun h => h | (simp only [World.size_alloc, World.size_drew, World.size_setCell, size_fill, bytesW]; omega)) only [go_sem, c24, c24S0, c24S1, c24S2, c24S3, c24S4, luG]
    refine c24draw0 (Chg (fun _ => False) _) (Chg.refl _ _) ?_
    have h2 := h.drew
    have r2 := h2.rules 0 rfl
    have l2 := h2.low 0 rfl
    generalize w.drew = w2 at h2 r2 l2 ⊢
    have hin := stReady_in hr
    have hp := ok.few
    have hf := ok.fit
    have hs := ok.disk.few
    simp (disch := first | omega | exact okFill_t rfl | exact okSize_t rfl | exact fun h => h | (simp only [World.size_alloc, World.size_drew, World.size_setCell, size_fill, bytesW]; omega)) only [go_sem, c24, c24S0, c24S1, c24S2, c24S3, c24S4, c24D0, r2]
    refine ⟨by constructor <;> omega, by constructor <;> omega, Ret.mono (read_ok (2 + (s.hd.room : Int) + i) (sto_disk h2) ok.disk) ?_⟩
    rintro _ w3 ⟨rfl, b3⟩
    have h3 := h2.call b3
    have r3 := h3.rules 0 rfl
    rw [show (2 + (s.hd.room : Int) + i) = homeN s i from rfl]
    by_cases he : (readN s.disk (homeN s i)).2 = 0
    · rw [if_pos he]
      simp (disch := first | omega | exact okFill_t rfl | exact okSize_t rfl | exact fun h => h | (simp only [World.size_alloc, World.size_drew, World.size_setCell, size_fill, bytesW]; omega)) only [go_sem, c24, c24S0, c24S1, c24S2, c24S3, c24S4, he]
      exact h3
    · rw [if_neg he]
      simp (disch := first | omega | exact okFill_t rfl | exact okSize_t rfl | exact fun h => h | (simp only [World.size_alloc, World.size_drew, World.size_setCell, size_fill, bytesW]; omega)) only [go_sem, c24, c24S0, c24S1, c24S2, c24S3, c24S4, he, r3]
      exact h3.set 0 rfl 6 (.bool true)
def stWrite (s : Sto) (i : Int) (data : List UInt8) : Sto × Int :=
  if stReady s i ≠ 0 then (s, stReady s i) else if 256 < data.length then (s, 21) else
  ({ s with dirty := setM i (filledL data) s.clock s.dirty, clock := if (getM i s.dirty).isSome then s.clock else s.clock + 1 }, 0)
theorem swrite_ok (i : Int) (data : List UInt8) (h : St W0 w F (StoL b mb g vb vl s ++ L) I) :
    Ret Tryz.prog 58 [.pointer (some ⟨b, 0, none⟩), .int .i64 i, .string (ofL data)] w fun u w' => u = .int .i64 (stWrite s i data).2 ∧ St W0 w' F (StoL b mb g vb vl (stWrite s i data).1 ++ L) I := by
  refine ent58 _ _ _ _ _ ?_
  simp (disch := first | omega | exact okFill_t rfl | exact okSize_t rfl | exact fun h => h | (simp only [World.size_alloc, World.size_drew, World.size_setCell, size_fill, bytesW]; omega)) only [go_sem, c58, c58S0, c58S1, c58S2, c58S3]
  refine Ret.mono (sready_ok i h) ?_
  rintro _ w2 ⟨rfl, e2⟩
  subst w2
  unfold stWrite
  by_cases hr : stReady s i = 0
  case neg =>
    rw [if_pos hr]
    simp (disch := first | omega | exact okFill_t rfl | exact okSize_t rfl | exact fun h => h | (simp only [World.size_alloc, World.size_drew, World.size_setCell, size_fill, bytesW]; omega)) only [go_sem, c58, c58S0, c58S1, c58S2, c58S3, hr]
    exact h
  rw [if_neg (by omega)]
  by_cases hd : 256 < data.length
  · have hd' : (256 : Int) < data.length := by omega
    rw [if_pos hd]
    simp (disch := first | omega | exact okFill_t rfl | exact okSize_t rfl | exact fun h => h | (simp only [World.size_alloc, World.size_drew, World.size_setCell, size_fill, bytesW]; omega)) only [go_sem, c58, c58S0, c58S1, c58S2, c58S3, hr, hd']
    exact h
  have hd' : ¬ (256 : Int) < data.length := by omega
  rw [if_neg hd]
  simp (disch := first | omega | exact okFill_t rfl | exact okSize_t rfl | exact fun h => h | (simp only [World.size_alloc, World.size_drew, World.size_setCell, size_fill, bytesW]; omega)) only [go_sem, c58, c58S0, c58S1, c58S2, c58S3, hr, hd']
  refine c58draw0 (Chg (fun _ => False) _) (Chg.refl _ _) ?_
  have h2 := h.drew
  have r2 := h2.rules 0 rfl
  have l2 := h2.low 0 rfl
  generalize w.drew = w2 at h2 r2 l2 ⊢
  simp (disch := first | omega | exact okFill_t rfl | exact okSize_t rfl | exact fun h => h | (simp only [World.size_alloc, World.size_drew, World.size_setCell, size_fill, bytesW]; omega)) only [go_sem, c58, c58S0, c58S1, c58S2, c58S3, c58D0, r2]
  refine ⟨by constructor <;> omega, msW_one ty106mkI rfl (by omega) (by omega) (by omega) (by omega) ?_⟩
  have e : ((256 : Int) - (data.length : Int)).toNat = 256 - data.length := by omega
  rw [e]
  have h3 := h2.alloc' (.cells (zerosA (.int .u8 0) (256 - data.length)) 5)
  have hat : bytesAt (w2.alloc (.cells (zerosA (.int .u8 0) (256 - data.length)) 5)) (some ⟨w2.heap.size, 0, none⟩) (List.replicate (256 - data.length) 0) := bytesAt_zeros w2 (256 - data.length) _
  have ch : Chg (fun _ => False) w2 (w2.alloc (.cells (zerosA (.int .u8 0) (256 - data.length)) 5)) := (Chg.refl _ _).alloc _
  generalize w2.alloc (.cells (zerosA (.int .u8 0) (256 - data.length)) 5) = w3 at h3 hat ch ⊢
  simp (disch := first | omega | exact okFill_t rfl | exact okSize_t rfl | exact fun h => h | (simp only [World.size_alloc, World.size_drew, World.size_setCell, size_fill, bytesW]; omega)) only [go_sem, c58, c58S0, c58S1, c58S2, c58S3]
  refine ⟨ch, _, List.length_replicate, hat, ch, by rw [List.length_replicate]; omega, ?_⟩
  refine muG_map (ek := intK) (ev := strK) keyT_n Tryz.underlying99 (fun a => by simp [Instr.sameBits, intK]) (h3.obj 1 rfl) i (filledL data) ?_
  simp (disch := first | omega | exact okFill_t rfl | exact okSize_t rfl | exact fun h => h | (simp only [World.size_alloc, World.size_drew, World.size_setCell, size_fill, bytesW]; omega)) only [go_sem, c58, c58S0, c58S1, c58S2, c58S3]
  exact h3.putObj 1 rfl (mapG intK strK (setM i (filledL data) s.clock s.dirty) (if (getM i s.dirty).isSome then s.clock else s.clock + 1))
end
end Go.Proofs.YtmchjbgobiagiaaGreat

namespace Go.Proofs.YtmchjbgobiagiaaGreat
set_option linter.unusedSimpArgs false
set_option linter.unusedVariables false
set_option maxRecDepth 100000
open Go Go.Ann Go.RowKit Go.WideShapes
section
variable {W0 w : World} {F : Nat → Prop} {L : List Res} {I : List Inv} {g : Nat} {vb vl : Value} {m : Dk}
theorem emod2 (n : Nat) : ((n : Int).tmod 2) = ((n % 2 : Nat) : Int) := rfl
def putN (m : Dk) (h : Hd) : Dk × Int := if (writeN m (h.seq % 2 : Nat) (headL h)).2 ≠ 0 then writeN m (h.seq % 2 : Nat) (headL h) else flushN (writeN m (h.seq % 2 : Nat) (headL h)).1
theorem put_ok (hd : Hd) (hh : hd.ok) (h : St W0 w F (DkL g vb vl m ++ L) I) (ok : m.ok) (hless : m.late.length < 1000000) :
    Ret Tryz.prog 71 [.pointer (some ⟨g, 0, none⟩), .agg hd.enc.toArray] w fun u w' => u = .int .i64 (putN m hd).2 ∧ ∃ vl', St W0 w' F (DkL g vb vl' (putN m hd).1 ++ L) I := by
  refine ent71 _ _ _ _ ?_
  have s1 := h.box hd.enc.toArray 96
  simp (disch := first | omega | exact okFill_t rfl | exact okSize_t rfl | exact fun h => h | (simp only [World.size_alloc, World.size_drew, World.size_setCell, size_fill, bytesW]; omega)) only [go_sem, c71, c71S0, c71S1, c71S2]
  generalize w.heap.size = y at s1 ⊢
  generalize w.alloc (.cells hd.enc.toArray 96) = w1 at s1 ⊢
  refine c71draw0 (Same (fun k => k = y) _) (Same.refl _ _) ?_
  have s2 := s1.drew
  have r2 := s2.rules 0 rfl
  have l2 := s2.low 0 rfl
  generalize w1.drew = w2 at s2 r2 l2 ⊢
  have hseq := hh.seq
  simp (disch := first | omega | exact okFill_t rfl | exact okSize_t rfl | exact fun h => h | (simp only [World.size_alloc, World.size_drew, World.size_setCell, size_fill, bytesW]; omega)) only [go_sem, c71, c71S0, c71S1, c71S2, c71D0, r2, Hd.enc, emod2]
  refine ⟨by constructor <;> omega, Same.refl _ _, Ret.mono (writeHead_ok hd hh w2) ?_⟩
  rintro _ w3 ⟨rfl, b3⟩
  have s3 := s2.call b3
  have same : ∀ w', Blk w' y hd.enc.toArray 96 → Same (fun k => k = y) w2 w' := fun w' hb k hk => by subst hk; exact hb.trans (s2.blk 0 rfl).symm
  simp (disch := first | omega | exact okFill_t rfl | exact okSize_t rfl | exact fun h => h | (simp only [World.size_alloc, World.size_drew, World.size_setCell, size_fill, bytesW]; omega)) only [go_sem, c71, c71S0, c71S1, c71S2]
  refine ⟨same _ (s3.blk 0 rfl), Ret.mono (write_ok ((hd.seq % 2 : Nat) : Int) (headL hd) (St.front (A := [_]) (D := DkL g vb vl m) (L := L) s3) ok hless) ?_⟩
  rintro _ w4 ⟨rfl, vl', s4⟩
  have ok4 := writeN_ok ok hless ((hd.seq % 2 : Nat) : Int) (headL hd)
  have s4' := St.front (A := DkL g vb vl' _) (D := [.blk y hd.enc.toArray 96]) (L := L) s4
  have sm := same _ (s4'.blk 0 rfl)
  have s4 := s4'.sub (List.sublist_cons_self _ _)
  unfold putN
  by_cases he : (writeN m ((hd.seq % 2 : Nat) : Int) (headL hd)).2 = 0
  case neg =>
    rw [if_pos he]
    simp (disch := first | omega | exact okFill_t rfl | exact okSize_t rfl | exact fun h => h | (simp only [World.size_alloc, World.size_drew, World.size_setCell, size_fill, bytesW]; omega)) only [go_sem, c71, c71S0, c71S1, c71S2, he]
    exact ⟨sm, vl', s4⟩
  rw [if_neg (by omega)]
  simp (disch := first | omega | exact okFill_t rfl | exact okSize_t rfl | exact fun h => h | (simp only [World.size_alloc, World.size_drew, World.size_setCell, size_fill, bytesW]; omega)) only [go_sem, c71, c71S0, c71S1, c71S2, he]
  refine ⟨sm, Ret.mono (flush_ok s4 ok4) ?_⟩
  rintro _ w5 ⟨rfl, vl2, s5⟩
  simp (disch := first | omega | exact okFill_t rfl | exact okSize_t rfl | exact fun h => h | (simp only [World.size_alloc, World.size_drew, World.size_setCell, size_fill, bytesW]; omega)) only [go_sem, c71, c71S0, c71S1, c71S2]
  exact ⟨vl2, s5⟩
def blkN (m : Dk) (i : Nat) : List UInt8 := lastL m.late i (m.safe.getD i [])
def fitsH (m : Dk) (h : Hd) : Bool := decide (1 ≤ h.room ∧ 1 ≤ h.pages ∧ h.pages ≤ 1024 ∧ h.used ≤ h.room ∧ h.room ≤ m.safe.length ∧ 2 + h.room + h.pages ≤ m.safe.length)
def candH (m : Dk) (i : Nat) (seq : Nat) : Option Hd := match readHd (blkN m i) with
  | some h => if fitsH m h = true ∧ seq < h.seq ∧ h.seq % 2 = i then some h else none
  | none => none
def bestN (m : Dk) : Nat → Option Hd
  | 0 => none
  | i + 1 => match candH m i ((bestN m i).getD hd0).seq with
    | some h => some h
    | none => bestN m i
def newestH (m : Dk) : Option Hd := bestN m 2
theorem lastL_256 {l : List (Int × List UInt8)} {i : Int} {s : List UInt8} (h : s.length = 256) (hl : ∀ x ∈ l, x.2.length = 256) : (lastL l i s).length = 256 := by
  unfold lastL
  induction l generalizing s with
  | nil => exact h
  | cons x l ih =>
    rw [List.foldl_cons]
    refine ih ?_ fun y hy => hl y (List.mem_cons_of_mem _ hy)
    split
    · exact hl x (List.mem_cons_self ..)
    · exact h
theorem newest_ok (h : St W0 w F (DkL g vb vl m ++ L) I) (ok : m.ok) (hg : m.gone = false) (h2 : 2 ≤ m.safe.length) :
    Ret Tryz.prog 52 [.pointer (some ⟨g, 0, none⟩)] w fun u w' => (match newestH m with
      | some hd => u = .tuple #[.agg hd.enc.toArray, .int .i64 0]
      | none => u = .tuple #[.agg hd0.enc.toArray, .int .i64 14]) ∧ Below w.heap.size w w' := by
  refine ent52 _ _ _ ?_
  have s1 := ((St.start (W0 := w)).box #[.int .u64 0, .int .i64 0, .int .i64 0, .int .i64 0] 96).box #[.int .u64 0, .int .i64 0, .int .i64 0, .int .i64 0] 96
  simp (disch := first | omega | exact okFill_t rfl | exact okSize_t rfl | exact fun h => h | (simp only [World.size_alloc, World.size_drew, World.size_setCell, size_fill, bytesW]; omega)) only [go_sem, c52, c52S0, c52S1, c52S2, c52S3, c52S4, c52S5, c52S6, c52S7, c52S8]
  rw [World.size_alloc] at s1
  have hsz := h.size
  generalize hy : w.heap.size = y at s1 ⊢
  generalize ((w.alloc (.cells #[.int .u64 0, .int .i64 0, .int .i64 0, .int .i64 0] 96)).alloc (.cells #[.int .u64 0, .int .i64 0, .int .i64 0, .int .i64 0] 96)) = w1 at s1 ⊢
  refine W_loopU (fun k : Nat => [(5, .bool (bestN m k).isSome), (12, .int .i64 k)]) (fun k w' => k ≤ 2 ∧ St w w' (fun _ => False) [.blk (y + 1) ((bestN m k).getD hd0).enc.toArray 96, .blk y hd0.enc.toArray 96] []) (fun k => 2 - k) 0 rfl ⟨by omega, s1⟩ ?_
  rintro k w2 ⟨hk, s2⟩
  by_cases hlt : k < 2
  · have hlt' : (k : Int) < 2 := by omega
    simp (disch := first | omega | exact okFill_t rfl | exact okSize_t rfl | exact fun h => h | (simp only [World.size_alloc, World.size_drew, World.size_setCell, size_fill, bytesW]; omega)) only [go_sem, c52, c52S0, c52S1, c52S2, c52S3, c52S4, c52S5, c52S6, c52L0, c52S7, c52S8, c52L0, hlt']
    refine Ret.mono (read_ok (k : Int) (h.below s2.bel (by omega)) ok) ?_
    rintro _ w3 ⟨rfl, b3⟩
    have s3 := s2.call b3
    have er : readN m (k : Int) = (blkN m k, 0) := by
      have e0 : readyN m (k : Int) = 0 := by
        unfold readyN
        rw [if_neg (by rw [hg]; decide), if_pos (by omega)]
      unfold readN
      rw [if_pos e0]
      rfl
    rw [er]
    simp (disch := first | omega | exact okFill_t rfl | exact okSize_t rfl | exact fun h => h | (simp only [World.size_alloc, World.size_drew, World.size_setCell, size_fill, bytesW]; omega)) only [go_sem, c52, c52S0, c52S1, c52S2, c52S3, c52S4, c52S5, c52S6, c52L0, c52S7, c52S8]
    have hbl : (blkN m k).length ≤ 1000 := by
      unfold blkN
      have h1 : (m.safe.getD k []).length = 256 := by
        rw [List.getD_eq_getElem?_getD, List.getElem?_eq_getElem (by omega)]
        exact ok.safe _ (List.getElem_mem _)
      have := lastL_256 (i := (k : Int)) h1 (fun x hx => (ok.late x hx).2.2)
      omega
    refine Ret.mono (readHead_ok (blkN m k) hbl w3) ?_
    rintro _ w4 ⟨rfl, b4⟩
    have s4 := s3.call b4
    simp (disch := first | omega | exact okFill_t rfl | exact okSize_t rfl | exact fun h => h | (simp only [World.size_alloc, World.size_drew, World.size_setCell, size_fill, bytesW]; omega)) only [go_sem, c52, c52S0, c52S1, c52S2, c52S3, c52S4, c52S5, c52S6, c52L0, c52S7, c52S8]
    generalize hrd : readHd (blkN m k) = rd
    generalize hq : rd.getD hd0 = q
    have s5 := s4.box q.enc.toArray 96
    simp (disch := first | omega | exact okFill_t rfl | exact okSize_t rfl | exact fun h => h | (simp only [World.size_alloc, World.size_drew, World.size_setCell, size_fill, bytesW]; omega)) only [go_sem, c52, c52S0, c52S1, c52S2, c52S3, c52S4, c52S5, c52S6, c52L0, c52S7, c52S8, Hd.enc]
    have hz : y + 1 < w4.heap.size := (s4.low 0 rfl).2
    generalize w4.heap.size = z at s5 hz ⊢
    refine c52draw0 (Chg (fun _ => False) _) (Chg.refl _ _) ?_
    have s6 := s5.drew
    have s6 : St w ((w4.alloc (.cells #[.int .u64 q.seq, .int .i64 q.used, .int .i64 q.room, .int .i64 q.pages] 96)).drew) (fun _ => False) [.blk z #[.int .u64 q.seq, .int .i64 q.used, .int .i64 q.room, .int .i64 q.pages] 96, .blk (y + 1) #[.int .u64 ((bestN m k).getD hd0).seq, .int .i64 ((bestN m k).getD hd0).used, .int .i64 ((bestN m k).getD hd0).room, .int .i64 ((bestN m k).getD hd0).pages] 96, .blk y hd0.enc.toArray 96] [] := s6
    generalize (w4.alloc (.cells #[.int .u64 q.seq, .int .i64 q.used, .int .i64 q.room, .int .i64 q.pages] 96)).drew = w6 at s6 ⊢
    have r6 := s6.rules 0 rfl
    have q6 := s6.rules 1 rfl
    have l6 := s6.low 0 rfl
    have stay : bestN m (k + 1) = bestN m k → ∀ w', Below w6.heap.size w6 w' → k + 1 ≤ 2 ∧ St w w' (fun _ => False) [.blk (y + 1) #[.int .u64 ((bestN m (k + 1)).getD hd0).seq, .int .i64 ((bestN m (k + 1)).getD hd0).used, .int .i64 ((bestN m (k + 1)).getD hd0).room, .int .i64 ((bestN m (k + 1)).getD hd0).pages] 96, .blk y #[.int .u64 hd0.seq, .int .i64 hd0.used, .int .i64 hd0.room, .int .i64 hd0.pages] 96] [] := fun e w' hb => by
      rw [e]; exact ⟨by omega, (s6.call hb).sub (List.sublist_cons_self _ _)⟩
    cases rd with
    | none =>
      obtain rfl : q = hd0 := hq.symm
      have e1 : bestN m (k + 1) = bestN m k := by
        have : ∀ n, candH m k n = none := fun n => by unfold candH; rw [hrd]
        simp only [bestN, this]
      have c1 : ¬ (1 : Int) ≤ (hd0.room : Nat) := by decide
      simp (disch := first | omega | exact okFill_t rfl | exact okSize_t rfl | exact fun h => h | (simp only [World.size_alloc, World.size_drew, World.size_setCell, size_fill, bytesW]; omega)) only [go_sem, c52, c52S0, c52S1, c52S2, c52S3, c52S4, c52S5, c52S6, c52L0, c52S7, c52S8, c52D0, r6, q6, c1]
      exact ⟨fun h => absurd h (by decide), fun _ => ⟨⟨by omega, by omega⟩, k + 1, by rw [e1]; rfl, stay e1 _ (Below.refl _ _), by omega⟩⟩
    | some hd =>
      obtain rfl : q = hd := hq.symm
      have e1 : fitsH m q = false → bestN m (k + 1) = bestN m k := fun hf => by
        have : ∀ n, candH m k n = none := fun n => by unfold candH; rw [hrd]; simp only [hf]; rfl
        simp only [bestN, this]
      have hfits : ∀ b : Bool, (b = true ↔ (1 ≤ q.room ∧ 1 ≤ q.pages ∧ q.pages ≤ 1024 ∧ q.used ≤ q.room ∧ q.room ≤ m.safe.length ∧ 2 + q.room + q.pages ≤ m.safe.length)) → fitsH m q = b := fun b hb => by
        unfold fitsH; rw [Bool.eq_iff_iff, decide_eq_true_eq]; exact hb.symm
      have hb6 := h.below s6.bel (by omega)
      have hfew := ok.few
      by_cases c1 : 1 ≤ q.room
      case neg =>
        have d1 : ¬ (1 : Int) ≤ q.room := by omega
        have e2 := e1 (hfits false (by simp only [Bool.false_eq_true, false_iff]; omega))
        simp (disch := first | omega | exact okFill_t rfl | exact okSize_t rfl | exact fun h => h | (simp only [World.size_alloc, World.size_drew, World.size_setCell, size_fill, bytesW]; omega)) only [go_sem, c52, c52S0, c52S1, c52S2, c52S3, c52S4, c52S5, c52S6, c52L0, c52S7, c52S8, c52D0, r6, q6, d1]
        exact ⟨fun _ => ⟨⟨by omega, by omega⟩, k + 1, by rw [e2]; rfl, stay e2 _ (Below.refl _ _), by omega⟩, fun _ => ⟨⟨by omega, by omega⟩, k + 1, by rw [e2]; rfl, stay e2 _ (Below.refl _ _), by omega⟩⟩
      have d1 : (1 : Int) ≤ q.room := by omega
      by_cases c2 : 1 ≤ q.pages
      case neg =>
        have d2 : ¬ (1 : Int) ≤ q.pages := by omega
        have e2 := e1 (hfits false (by simp only [Bool.false_eq_true, false_iff]; omega))
        simp (disch := first | omega | exact okFill_t rfl | exact okSize_t rfl | exact fun h => h | (simp only [World.size_alloc, World.size_drew, World.size_setCell, size_fill, bytesW]; omega)) only [go_sem, c52, c52S0, c52S1, c52S2, c52S3, c52S4, c52S5, c52S6, c52L0, c52S7, c52S8, c52D0, r6, q6, d1, d2]
        exact ⟨fun _ => ⟨⟨by omega, by omega⟩, k + 1, by rw [e2]; rfl, stay e2 _ (Below.refl _ _), by omega⟩, fun _ => ⟨⟨by omega, by omega⟩, k + 1, by rw [e2]; rfl, stay e2 _ (Below.refl _ _), by omega⟩⟩
      have d2 : (1 : Int) ≤ q.pages := by omega
      by_cases c3 : q.pages ≤ 1024
      case neg =>
        have d3 : ¬ (q.pages : Int) ≤ 1024 := by omega
        have e2 := e1 (hfits false (by simp only [Bool.false_eq_true, false_iff]; omega))
        simp (disch := first | omega | exact okFill_t rfl | exact okSize_t rfl | exact fun h => h | (simp only [World.size_alloc, World.size_drew, World.size_setCell, size_fill, bytesW]; omega)) only [go_sem, c52, c52S0, c52S1, c52S2, c52S3, c52S4, c52S5, c52S6, c52L0, c52S7, c52S8, c52D0, r6, q6, d1, d2, d3]
        exact ⟨fun _ => ⟨⟨by omega, by omega⟩, k + 1, by rw [e2]; rfl, stay e2 _ (Below.refl _ _), by omega⟩, fun _ => ⟨⟨by omega, by omega⟩, k + 1, by rw [e2]; rfl, stay e2 _ (Below.refl _ _), by omega⟩⟩
      have d3 : (q.pages : Int) ≤ 1024 := by omega
      by_cases c4 : q.used ≤ q.room
      case neg =>
        have d4 : ¬ (q.used : Int) ≤ q.room := by omega
        have e2 := e1 (hfits false (by simp only [Bool.false_eq_true, false_iff]; omega))
        simp (disch := first | omega | exact okFill_t rfl | exact okSize_t rfl | exact fun h => h | (simp only [World.size_alloc, World.size_drew, World.size_setCell, size_fill, bytesW]; omega)) only [go_sem, c52, c52S0, c52S1, c52S2, c52S3, c52S4, c52S5, c52S6, c52L0, c52S7, c52S8, c52D0, r6, q6, d1, d2, d3, d4]
        exact ⟨fun _ => ⟨⟨by omega, by omega⟩, k + 1, by rw [e2]; rfl, stay e2 _ (Below.refl _ _), by omega⟩, fun _ => ⟨⟨by omega, by omega⟩, k + 1, by rw [e2]; rfl, stay e2 _ (Below.refl _ _), by omega⟩⟩
      have d4 : (q.used : Int) ≤ q.room := by omega
      by_cases c5 : q.room ≤ m.safe.length
      case neg =>
        have d5 : ¬ (q.room : Int) ≤ m.safe.length := by omega
        have e2 := e1 (hfits false (by simp only [Bool.false_eq_true, false_iff]; omega))
        simp (disch := first | omega | exact okFill_t rfl | exact okSize_t rfl | exact fun h => h | (simp only [World.size_alloc, World.size_drew, World.size_setCell, size_fill, bytesW]; omega)) only [go_sem, c52, c52S0, c52S1, c52S2, c52S3, c52S4, c52S5, c52S6, c52L0, c52S7, c52S8, c52D0, r6, q6, d1, d2, d3, d4, d5]
        refine Ret.mono (len_ok hb6 ok) ?_
        rintro _ w7 ⟨rfl, e7⟩
        subst w7
        simp (disch := first | omega | exact okFill_t rfl | exact okSize_t rfl | exact fun h => h | (simp only [World.size_alloc, World.size_drew, World.size_setCell, size_fill, bytesW]; omega)) only [go_sem, c52, c52S0, c52S1, c52S2, c52S3, c52S4, c52S5, c52S6, c52L0, c52S7, c52S8, c52D0, r6, q6, d1, d2, d3, d4, d5]
        exact ⟨fun _ => ⟨⟨by omega, by omega⟩, k + 1, by rw [e2]; rfl, stay e2 _ (Below.refl _ _), by omega⟩, fun _ => ⟨⟨by omega, by omega⟩, k + 1, by rw [e2]; rfl, stay e2 _ (Below.refl _ _), by omega⟩⟩
      have d5 : (q.room : Int) ≤ m.safe.length := by omega
      by_cases c6 : 2 + q.room + q.pages ≤ m.safe.length
      case neg =>
        have d6 : ¬ 2 + (q.room : Int) + q.pages ≤ m.safe.length := by omega
        have e2 := e1 (hfits false (by simp only [Bool.false_eq_true, false_iff]; omega))
        simp (disch := first | omega | exact okFill_t rfl | exact okSize_t rfl | exact fun h => h | (simp only [World.size_alloc, World.size_drew, World.size_setCell, size_fill, bytesW]; omega)) only [go_sem, c52, c52S0, c52S1, c52S2, c52S3, c52S4, c52S5, c52S6, c52L0, c52S7, c52S8, c52D0, r6, q6, d1, d2, d3, d4, d5, d6]
        refine Ret.mono (len_ok hb6 ok) ?_
        rintro _ w7 ⟨rfl, e7⟩
        subst w7
        simp (disch := first | omega | exact okFill_t rfl | exact okSize_t rfl | exact fun h => h | (simp only [World.size_alloc, World.size_drew, World.size_setCell, size_fill, bytesW]; omega)) only [go_sem, c52, c52S0, c52S1, c52S2, c52S3, c52S4, c52S5, c52S6, c52L0, c52S7, c52S8, c52D0, r6, q6, d1, d2, d3, d4, d5, d6]
        refine ⟨⟨by omega, by omega⟩, ⟨by omega, by omega⟩, Ret.mono (len_ok hb6 ok) ?_⟩
        rintro _ w7 ⟨rfl, e7⟩
        subst w7
        simp (disch := first | omega | exact okFill_t rfl | exact okSize_t rfl | exact fun h => h | (simp only [World.size_alloc, World.size_drew, World.size_setCell, size_fill, bytesW]; omega)) only [go_sem, c52, c52S0, c52S1, c52S2, c52S3, c52S4, c52S5, c52S6, c52L0, c52S7, c52S8, c52D0, r6, q6, d1, d2, d3, d4, d5, d6]
        exact ⟨fun _ => ⟨⟨by omega, by omega⟩, k + 1, by rw [e2]; rfl, stay e2 _ (Below.refl _ _), by omega⟩, fun _ => ⟨⟨by omega, by omega⟩, k + 1, by rw [e2]; rfl, stay e2 _ (Below.refl _ _), by omega⟩⟩
      have d6 : 2 + (q.room : Int) + q.pages ≤ m.safe.length := by omega
      simp (disch := first | omega | exact okFill_t rfl | exact okSize_t rfl | exact fun h => h | (simp only [World.size_alloc, World.size_drew, World.size_setCell, size_fill, bytesW]; omega)) only [go_sem, c52, c52S0, c52S1, c52S2, c52S3, c52S4, c52S5, c52S6, c52L0, c52S7, c52S8, c52D0, r6, q6, d1, d2, d3, d4, d5, d6]
      refine Ret.mono (len_ok hb6 ok) ?_
      rintro _ w7 ⟨rfl, e7⟩
      subst w7
      simp (disch := first | omega | exact okFill_t rfl | exact okSize_t rfl | exact fun h => h | (simp only [World.size_alloc, World.size_drew, World.size_setCell, size_fill, bytesW]; omega)) only [go_sem, c52, c52S0, c52S1, c52S2, c52S3, c52S4, c52S5, c52S6, c52L0, c52S7, c52S8, c52D0, r6, q6, d1, d2, d3, d4, d5, d6]
      refine ⟨⟨by omega, by omega⟩, ⟨by omega, by omega⟩, Ret.mono (len_ok hb6 ok) ?_⟩
      rintro _ w7 ⟨rfl, e7⟩
      subst w7
      simp (disch := first | omega | exact okFill_t rfl | exact okSize_t rfl | exact fun h => h | (simp only [World.size_alloc, World.size_drew, World.size_setCell, size_fill, bytesW]; omega)) only [go_sem, c52, c52S0, c52S1, c52S2, c52S3, c52S4, c52S5, c52S6, c52L0, c52S7, c52S8, c52D0, r6, q6, d1, d2, d3, d4, d5, d6]
      have hf : fitsH m q = true := hfits true (by simp only [true_iff]; omega)
      have eC : candH m k ((bestN m k).getD hd0).seq = if fitsH m q = true ∧ ((bestN m k).getD hd0).seq < q.seq ∧ q.seq % 2 = k then some q else none := by unfold candH; rw [hrd]
      refine ⟨fun _ => ⟨fun h1 => ⟨by rw [emod2]; constructor <;> omega, fun h2 => ?_, fun h2 => ?_⟩, fun h1 => ?_⟩, fun h => absurd h (by simp)⟩
      · rw [emod2] at h2
        have e2 : bestN m (k + 1) = some q := by
          simp only [bestN]
          rw [eC, if_pos ⟨hf, by omega, by omega⟩]
        refine ⟨⟨by omega, by omega⟩, k + 1, by rw [e2]; rfl, ⟨by omega, ?_⟩, by omega⟩
        rw [e2]
        exact ((s6.fill 1 rfl (cs := #[.int .u64 q.seq, .int .i64 q.used, .int .i64 q.room, .int .i64 q.pages]) rfl)).sub (List.sublist_cons_self _ _)
      · rw [emod2] at h2
        have e2 : bestN m (k + 1) = bestN m k := by
          simp only [bestN]
          rw [eC, if_neg (fun hh => h2 (by rw [hh.2.2]))]
        exact ⟨⟨by omega, by omega⟩, k + 1, by rw [e2]; rfl, stay e2 _ (Below.refl _ _), by omega⟩
      · have e2 : bestN m (k + 1) = bestN m k := by
          simp only [bestN]
          rw [eC, if_neg (fun hh => by have := hh.2.1; omega)]
        exact ⟨⟨by omega, by omega⟩, k + 1, by rw [e2]; rfl, stay e2 _ (Below.refl _ _), by omega⟩
  · have hlt' : ¬ (k : Int) < 2 := by omega
    obtain rfl : k = 2 := by omega
    have r2 := s2.rules 0 rfl
    have q2 := s2.rules 1 rfl
    have e0 : newestH m = bestN m 2 := rfl
    rw [e0]
    cases hb2 : bestN m 2 with
    | none =>
      rw [hb2] at r2 s2
      simp (disch := first | omega | exact okFill_t rfl | exact okSize_t rfl | exact fun h => h | (simp only [World.size_alloc, World.size_drew, World.size_setCell, size_fill, bytesW]; omega)) only [go_sem, c52, c52S0, c52S1, c52S2, c52S3, c52S4, c52S5, c52S6, c52L0, c52S7, c52S8, c52L0, hlt', r2, q2, Hd.enc]
      exact ⟨fun _ => by subst hy; exact (s2.fill 1 rfl (cs := hd0.enc.toArray) rfl).bel, fun h => absurd h (by decide)⟩
    | some hd =>
      rw [hb2] at r2 s2
      simp (disch := first | omega | exact okFill_t rfl | exact okSize_t rfl | exact fun h => h | (simp only [World.size_alloc, World.size_drew, World.size_setCell, size_fill, bytesW]; omega)) only [go_sem, c52, c52S0, c52S1, c52S2, c52S3, c52S4, c52S5, c52S6, c52L0, c52S7, c52S8, c52L0, hlt', r2, q2, Hd.enc]
      exact ⟨fun h => absurd h (by simp), fun _ => by subst hy; exact (s2.fill 1 rfl (cs := hd.enc.toArray) rfl).bel⟩
end
end Go.Proofs.YtmchjbgobiagiaaGreat

namespace Go.Proofs.YtmchjbgobiagiaaGreat
set_option linter.unusedSimpArgs false
set_option linter.unusedVariables false
set_option maxRecDepth 100000
open Go Go.Ann Go.RowKit Go.WideShapes
def headN (n room : Nat) : Hd := ⟨2, 0, room, min (n - 2 - room) 1024⟩
def fmtDk (n : Nat) (h : Hd) : Dk := { safe := ((List.replicate n zeroB).set 1 (filledL [])).set 0 (filledL (headL h)), late := [], left := -1, gone := false }
theorem writeN_new {n : Nat} {l : List (Int × List UInt8)} {i : Int} {d : List UInt8} (h0 : 0 ≤ i) (h1 : i < n) (hd : d.length ≤ 256) : writeN { newDk n with late := l } i d = ({ newDk n with late := l ++ [(i, filledL d)] }, 0) := by
  have e1 : readyN { newDk n with late := l } i = 0 := by
    unfold readyN
    rw [if_neg (by simp [newDk]), if_pos (by simp [newDk]; omega)]
  have e2 : useN { newDk n with late := l } = ({ newDk n with late := l }, 0) := by
    unfold useN
    rw [if_neg (by simp [newDk]), if_neg (by simp [newDk])]
  unfold writeN
  rw [if_neg (by rw [e1]; decide), if_neg (by omega), e2, if_pos rfl]
theorem flushN_new {n : Nat} {l : List (Int × List UInt8)} (h0 : 0 < n) : flushN { newDk n with late := l } = ({ newDk n with safe := doneL (newDk n).safe l, late := [] }, 0) := by
  have e1 : readyN { newDk n with late := l } 0 = 0 := by
    unfold readyN
    rw [if_neg (by simp [newDk]), if_pos (by simp [newDk]; omega)]
  have e2 : useN { newDk n with late := l } = ({ newDk n with late := l }, 0) := by
    unfold useN
    rw [if_neg (by simp [newDk]), if_neg (by simp [newDk])]
  unfold flushN
  rw [if_neg (by rw [e1]; decide), e2, if_neg (by simp)]
theorem fmt_eq {n : Nat} {h : Hd} (h2 : 2 ≤ n) (hs : h.seq = 2) : putN (writeN (newDk n) 1 []).1 h = (fmtDk n h, 0) := by
  have e1 : writeN (newDk n) 1 [] = ({ newDk n with late := [(1, filledL [])] }, 0) := writeN_new (l := []) (by decide) (by omega) (by decide)
  rw [e1]
  unfold putN
  rw [hs]
  have e2 := writeN_new (n := n) (l := [(1, filledL [])]) (i := ((2 % 2 : Nat) : Int)) (d := headL h) (by decide) (by omega) (by rw [headL_len]; decide)
  rw [e2, if_neg (by simp), flushN_new (by omega)]
  rfl
theorem cutL_app {a b : List UInt8} {i j : Nat} (h : j ≤ a.length) : cutL (a ++ b) i j = cutL a i j := by
  unfold cutL
  rw [List.take_append_of_le_length (by omega)]
theorem notL_notL (l : List UInt8) : notL (notL l) = l := by
  unfold notL
  rw [List.map_map]
  have : (notB ∘ notB) = id := by
    funext b
    show notB (notB b) = b
    unfold notB
    rw [← UInt8.toNat_inj, UInt8.toNat_sub_of_le _ _ (by rw [UInt8.le_iff_toNat_le, UInt8.toNat_sub_of_le _ _ (by rw [UInt8.le_iff_toNat_le]; have := b.toNat_lt; show b.toNat ≤ 255; omega)]; show 255 - b.toNat ≤ 255; omega), UInt8.toNat_sub_of_le _ _ (by rw [UInt8.le_iff_toNat_le]; have := b.toNat_lt; show b.toNat ≤ 255; omega)]
    have := b.toNat_lt
    show 255 - (255 - b.toNat) = b.toNat
    omega
  rw [this, List.map_id]
theorem readHd_headL {h : Hd} (ok : h.ok) (r : List UInt8) : readHd (headL h ++ r) = some h := by
  have hl := head0_len h
  have hL := headL_len h
  have e20 : (headL h ++ r).take 20 = head0 h := by
    rw [List.take_append_of_le_length (by omega)]
    unfold headL
    rw [List.take_append_of_le_length (by omega), List.take_of_length_le (by omega)]
  have c2 : cutL (headL h ++ r) 20 40 = notL (head0 h) := by
    rw [show cutL (headL h ++ r) 20 40 = cutL (headL h ++ r) ((20 : Nat) : Int) ((40 : Nat) : Int) from rfl, cutL_app (by omega)]
    unfold cutL headL
    rw [List.take_of_length_le (by rw [List.length_append, notL_len, hl]; decide)]
    show (head0 h ++ notL (head0 h)).drop 20 = _
    rw [List.drop_append_of_le_length (by omega), List.drop_of_length_le (by omega), List.nil_append]
  have f8 := fixL_len h.seq 8
  have f4 := fixL_len h.used 4
  have g4 := fixL_len h.room 4
  have k4 := fixL_len h.pages 4
  have e8 : (headL h ++ r).take 8 = fixL h.seq 8 := by
    have : (headL h ++ r).take 8 = ((headL h ++ r).take 20).take 8 := by rw [List.take_take]; rfl
    rw [this, e20]
    unfold head0
    rw [List.append_assoc, List.append_assoc, List.take_append_of_le_length (by omega), List.take_of_length_le (by omega)]
  have cut : ∀ i j : Nat, j ≤ 20 → cutL (headL h ++ r) i j = cutL (head0 h) i j := fun i j hj => by
    rw [cutL_app (by omega)]
    unfold headL
    exact cutL_app (by omega)
  have a1 : cutL (head0 h) (8 : Nat) (12 : Nat) = fixL h.used 4 := by
    unfold cutL head0
    show List.drop 8 (List.take 12 _) = _
    rw [List.append_assoc, List.append_assoc, List.take_append, List.take_of_length_le (by omega), f8, List.drop_append_of_le_length (by omega), List.drop_of_length_le (by omega), List.nil_append, List.take_append_of_le_length (by omega), List.take_of_length_le (by omega)]
  have a2 : cutL (head0 h) (12 : Nat) (16 : Nat) = fixL h.room 4 := by
    unfold cutL head0
    show List.drop 12 (List.take 16 _) = _
    rw [List.take_append_of_le_length (by simp only [List.length_append, f8, f4, g4]; omega), List.take_of_length_le (by simp only [List.length_append, f8, f4, g4]; omega), List.drop_append, List.drop_of_length_le (by simp only [List.length_append, f8, f4]; omega), List.nil_append]
    simp only [List.length_append, f8, f4]
    rfl
  have a3 : cutL (head0 h) (16 : Nat) (20 : Nat) = fixL h.pages 4 := by
    unfold cutL
    show List.drop 16 (List.take 20 _) = _
    rw [List.take_of_length_le (by omega)]
    unfold head0
    rw [List.drop_append, List.drop_of_length_le (by simp only [List.length_append, f8, f4, g4]; omega), List.nil_append]
    simp only [List.length_append, f8, f4, g4]
    rfl
  unfold readHd
  rw [if_neg (by rw [List.length_append, hL]; omega), e20, c2, if_pos rfl, e8]
  rw [show cutL (headL h ++ r) 8 12 = _ from (cut 8 12 (by decide)).trans a1, show cutL (headL h ++ r) 12 16 = _ from (cut 12 16 (by decide)).trans a2, show cutL (headL h ++ r) 16 20 = _ from (cut 16 20 (by decide)).trans a3]
  simp only [unfixL_fixL]
  rw [Nat.mod_eq_of_lt ok.seq, Nat.mod_eq_of_lt ok.used, Nat.mod_eq_of_lt ok.room, Nat.mod_eq_of_lt ok.pages]
theorem readHd_zero : readHd (filledL []) = none := by
  unfold readHd
  rw [if_neg (by decide), if_neg (by decide)]
theorem newest_fmt {n room : Nat} (h1 : 1 ≤ room) (h2 : room + 3 ≤ n) (h3 : n ≤ 2048) : newestH (fmtDk n (headN n room)) = some (headN n room) := by
  have hh : (headN n room).ok := ⟨by show 2 < _; omega, by show 0 < _; omega, by show room < _; omega, by show min (n - 2 - room) 1024 < _; omega⟩
  have b0 : blkN (fmtDk n (headN n room)) 0 = filledL (headL (headN n room)) := by
    unfold blkN fmtDk
    simp only [lastL, List.foldl_nil]
    rw [List.getD_eq_getElem?_getD, List.getElem?_set_self (by simp; omega)]; rfl
  have b1 : blkN (fmtDk n (headN n room)) 1 = filledL [] := by
    unfold blkN fmtDk
    simp only [lastL, List.foldl_nil]
    rw [List.getD_eq_getElem?_getD, List.getElem?_set_ne (by decide), List.getElem?_set_self (by simp; omega)]; rfl
  have hl : (fmtDk n (headN n room)).safe.length = n := by simp [fmtDk]
  have c0 : candH (fmtDk n (headN n room)) 0 0 = some (headN n room) := by
    unfold candH
    rw [b0]
    unfold filledL
    rw [readHd_headL hh]
    have hf : fitsH (fmtDk n (headN n room)) (headN n room) = true := by
      unfold fitsH
      rw [decide_eq_true_eq, hl]
      simp only [headN]
      omega
    show (if fitsH _ _ = true ∧ 0 < (headN n room).seq ∧ (headN n room).seq % 2 = 0 then some (headN n room) else none) = _
    rw [if_pos ⟨hf, by simp [headN], by simp [headN]⟩]
  have c1 : ∀ k, candH (fmtDk n (headN n room)) 1 k = none := fun k => by
    unfold candH
    rw [b1, readHd_zero]
  unfold newestH
  simp only [bestN, Option.getD_none]
  rw [show hd0.seq = 0 from rfl, c0]
  simp only [c1]
section
variable {W0 w : World} {F : Nat → Prop} {L : List Res} {I : List Inv} {g : Nat} {vb vl : Value} {m : Dk}
theorem format_ok {n room : Nat} (h : St W0 w F (DkL g vb vl (newDk n) ++ L) I) (h1 : 1 ≤ room) (h2 : room + 3 ≤ n) (h3 : n ≤ 2048) :
    Ret Tryz.prog 43 [.pointer (some ⟨g, 0, none⟩), .int .i64 room] w fun u w' => u = .int .i64 0 ∧ ∃ vl', St W0 w' F (DkL g vb vl' (fmtDk n (headN n room)) ++ L) I := by
  have ok := newDk_ok (n := n) (by omega) h3
  have hln : (newDk n).safe.length = n := List.length_replicate
  refine ent43 _ _ _ _ ?_
  simp (disch := first | omega | exact okFill_t rfl | exact okSize_t rfl | exact fun h => h | (simp only [World.size_alloc, World.size_drew, World.size_setCell, size_fill, bytesW]; omega)) only [go_sem, c43, c43S0, c43S1, c43S2, c43S3, c43S4, c43S5, c43S6]
  refine Ret.mono (len_ok h ok) ?_
  rintro _ w2 ⟨rfl, e2⟩
  subst w2
  simp (disch := first | omega | exact okFill_t rfl | exact okSize_t rfl | exact fun h => h | (simp only [World.size_alloc, World.size_drew, World.size_setCell, size_fill, bytesW]; omega)) only [go_sem, c43, c43S0, c43S1, c43S2, c43S3, c43S4, c43S5, c43S6]
  refine Ret.mono (read_ok 0 h ok) ?_
  rintro _ w2 ⟨rfl, b2⟩
  have er : (readN (newDk n) 0).2 = 0 := by
    have e1 : readyN (newDk n) 0 = 0 := by
      unfold readyN
      rw [if_neg (by simp [newDk]), if_pos (by simp [newDk]; omega)]
    unfold readN; rw [if_pos e1]
  have s2 := h.call b2
  rw [hln]
  have c1 : ¬ (room : Int) < 1 := by omega
  have c2 : ¬ (n : Int) < room := by omega
  have c3 : ¬ (n : Int) - 2 - room < 1 := by omega
  simp (disch := first | omega | exact okFill_t rfl | exact okSize_t rfl | exact fun h => h | (simp only [World.size_alloc, World.size_drew, World.size_setCell, size_fill, bytesW]; omega)) only [go_sem, c43, c43S0, c43S1, c43S2, c43S3, c43S4, c43S5, c43S6, er, c1, c2, c3]
  refine ⟨by constructor <;> omega, by constructor <;> omega, Ret.mono (write_ok 1 [] s2 ok (by simp [newDk])) ?_⟩
  rintro _ w3 ⟨rfl, vl', s3⟩
  have ok3 := writeN_ok ok (by simp [newDk]) 1 []
  have e1 : writeN (newDk n) 1 [] = ({ newDk n with late := [(1, filledL [])] }, 0) := writeN_new (l := []) (by decide) (by omega) (by decide)
  have e1' : (writeN (newDk n) 1 []).2 = 0 := by rw [e1]
  simp (disch := first | omega | exact okFill_t rfl | exact okSize_t rfl | exact fun h => h | (simp only [World.size_alloc, World.size_drew, World.size_setCell, size_fill, bytesW]; omega)) only [go_sem, c43, c43S0, c43S1, c43S2, c43S3, c43S4, c43S5, c43S6, e1']
  have hh : (headN n room).ok := ⟨by show 2 < _; omega, by show 0 < _; omega, by show room < _; omega, by show min (n - 2 - room) 1024 < _; omega⟩
  have e2 : min ((n : Int) - 2 - room) 1024 = ((min (n - 2 - room) 1024 : Nat) : Int) := by omega
  rw [e2]
  refine ⟨by constructor <;> omega, by constructor <;> omega, bdW_built (cells := (headN n room).enc.toArray) (by kernel_rfl) ?_⟩
  simp (disch := first | omega | exact okFill_t rfl | exact okSize_t rfl | exact fun h => h | (simp only [World.size_alloc, World.size_drew, World.size_setCell, size_fill, bytesW]; omega)) only [go_sem, c43, c43S0, c43S1, c43S2, c43S3, c43S4, c43S5, c43S6]
  refine Ret.mono (put_ok (headN n room) hh s3 ok3 (by rw [e1]; simp)) ?_
  rintro _ w4 ⟨rfl, vl2, s4⟩
  rw [fmt_eq (by omega) rfl] at s4 ⊢
  simp (disch := first | omega | exact okFill_t rfl | exact okSize_t rfl | exact fun h => h | (simp only [World.size_alloc, World.size_drew, World.size_setCell, size_fill, bytesW]; omega)) only [go_sem, c43, c43S0, c43S1, c43S2, c43S3, c43S4, c43S5, c43S6]
  exact ⟨vl2, s4⟩
theorem open0_ok (hd : Hd) (h : St W0 w F (DkL g vb vl m ++ L) I) (ok : m.ok) (hg : m.gone = false) (h2 : 2 ≤ m.safe.length) (hn : newestH m = some hd) (hu : hd.used = 0) :
    Ret Tryz.prog 22 [.pointer (some ⟨g, 0, none⟩)] w fun u w' => ∃ b mb, u = .tuple #[.pointer (some ⟨b, 0, none⟩), .int .i64 0] ∧ St W0 w' F (StoL b mb g vb vl ⟨hd, [], 0, false, m⟩ ++ L) I := by
  refine ent22 _ _ _ ?_
  simp (disch := first | omega | exact okFill_t rfl | exact okSize_t rfl | exact fun h => h | (simp only [World.size_alloc, World.size_drew, World.size_setCell, size_fill, bytesW]; omega)) only [go_sem, c22, c22S0, c22S1, c22S2, c22S3, c22L0, c22S4, c22S5, c22S6, c22S7, c22S8, c22S9, c22S10]
  refine Ret.mono (newest_ok h ok hg h2) ?_
  rintro u w2 ⟨hu2, b2⟩
  rw [hn] at hu2
  obtain rfl : u = _ := hu2
  have s2 := h.call b2
  simp (disch := first | omega | exact okFill_t rfl | exact okSize_t rfl | exact fun h => h | (simp only [World.size_alloc, World.size_drew, World.size_setCell, size_fill, bytesW]; omega)) only [go_sem, c22, c22S0, c22S1, c22S2, c22S3, c22L0, c22S4, c22S5, c22S6, c22S7, c22S8, c22S9, c22S10, Hd.enc]
  have s3 := s2.box #[.int .u64 hd.seq, .int .i64 hd.used, .int .i64 hd.room, .int .i64 hd.pages] 96
  have r3 := s3.rules 0 rfl
  refine mmG (ek := intK) (ev := strK) ?_
  have s4 := s3.lay (mapG intK strK [] 0)
  rw [World.size_alloc] at s4
  have hzl := s4.low 1 rfl
  simp (disch := first | omega | exact okFill_t rfl | exact okSize_t rfl | exact fun h => h | (simp only [World.size_alloc, World.size_drew, World.size_setCell, size_fill, bytesW]; omega)) only [go_sem, c22, c22S0, c22S1, c22S2, c22S3, c22L0, c22S4, c22S5, c22S6, c22S7, c22S8, c22S9, c22S10, r3]
  generalize (w2.alloc (.cells #[.int .u64 hd.seq, .int .i64 hd.used, .int .i64 hd.room, .int .i64 hd.pages] 96)) = w3 at s3 s4 ⊢
  generalize w3.alloc (mapG intK strK [] 0) = w4 at s4 hzl ⊢
  generalize w2.heap.size = z at s4 hzl ⊢
  generalize hmb : z + 1 = mb at s4 ⊢
  refine bdW_built (cells := #[.pointer (some ⟨g, 0, none⟩), .int .u64 hd.seq, .int .i64 hd.used, .int .i64 hd.room, .int .i64 hd.pages, .map (some mb), .bool false]) (by kernel_rfl) ?_
  have s5 := s4.box #[.pointer (some ⟨g, 0, none⟩), .int .u64 hd.seq, .int .i64 hd.used, .int .i64 hd.room, .int .i64 hd.pages, .map (some mb), .bool false] 101
  have r5 := s5.rules 2 rfl
  have hu' : ¬ (0 : Int) < hd.used := by omega
  simp (disch := first | omega | exact okFill_t rfl | exact okSize_t rfl | exact fun h => h | (simp only [World.size_alloc, World.size_drew, World.size_setCell, size_fill, bytesW]; omega)) only [go_sem, c22, c22S0, c22S1, c22S2, c22S3, c22L0, c22S4, c22S5, c22S6, c22S7, c22S8, c22S9, c22S10, r5, hu']
  generalize w4.heap.size = b at s5 ⊢
  refine ⟨b, mb, rfl, ?_⟩
  exact s5.sub (List.Sublist.cons_cons _ (List.Sublist.cons_cons _ (List.sublist_cons_self _ _)))
end
end Go.Proofs.YtmchjbgobiagiaaGreat

namespace Go.Proofs.YtmchjbgobiagiaaGreat
set_option linter.unusedSimpArgs false
set_option linter.unusedVariables false
set_option maxRecDepth 100000
open Go Go.Ann Go.RowKit Go.WideShapes
abbrev It := Int × List UInt8
def itE (x : It) : List Value := [.int .i64 x.1, .string (ofL x.2), .int .i64 0]
theorem itE_len (x : It) : (itE x).length = 3 := rfl
theorem itE_one (x : It) : ∀ u ∈ itE x, u.oneCell' = true := by
  intro u hu
  simp only [itE, List.mem_cons, List.not_mem_nil, or_false] at hu
  rcases hu with rfl | rfl | rfl <;> rfl
theorem itE_ones (l : List It) : ∀ u ∈ l.flatMap itE, u.oneCell' = true := by
  intro u hu
  obtain ⟨s, _, h⟩ := List.mem_flatMap.1 hu
  exact itE_one s u h
theorem flat_len (l : List It) : (l.flatMap itE).length = l.length * 3 := by
  induction l with
  | nil => rfl
  | cons a l ih => rw [List.flatMap_cons, List.length_append, ih, itE_len, List.length_cons]; omega
theorem flat_take (l : List It) (k : Nat) : (l.flatMap itE).take (k * 3) = (l.take k).flatMap itE := by
  induction l generalizing k with
  | nil => simp
  | cons a l ih =>
    cases k with
    | zero => simp
    | succ k =>
      rw [List.flatMap_cons, List.take_succ_cons, List.flatMap_cons, ← ih, List.take_append, itE_len, List.take_of_length_le (by rw [itE_len]; omega), show (k + 1) * 3 - 3 = k * 3 by omega]
theorem flat_drop (l : List It) (k : Nat) : (l.flatMap itE).drop (k * 3) = (l.drop k).flatMap itE := by
  induction l generalizing k with
  | nil => simp
  | cons a l ih =>
    cases k with
    | zero => simp
    | succ k =>
      rw [List.flatMap_cons, List.drop_succ_cons, ← ih, List.drop_append, itE_len, List.drop_of_length_le (by rw [itE_len]; omega), List.nil_append, show (k + 1) * 3 - 3 = k * 3 by omega]
theorem flat_get {l : List It} {i j : Nat} (hi : i < l.length) (hj : j < 3) : (l.flatMap itE)[i * 3 + j]? = (itE l[i])[j]? := by
  rw [← List.getElem?_drop, flat_drop, List.drop_eq_getElem_cons hi, List.flatMap_cons, List.getElem?_append_left (by rw [itE_len]; exact hj)]
theorem item_at {w : World} {B e g cap : Nat} {l : List It} {i : Nat} (h : w.ownsRow B e 3 (.slice (some ⟨g, 0, none⟩) l.length cap) l.length (l.flatMap itE)) (hi : i < l.length) :
    w.cell? ⟨g, i * 3, none⟩ = some (.int .i64 l[i].1) ∧ w.cell? ⟨g, i * 3 + 1, none⟩ = some (.string (ofL l[i].2)) ∧ w.cell? ⟨g, i * 3 + 2, none⟩ = some (.int .i64 0) := by
  refine ⟨?_, ?_, ?_⟩
  · have := h.cellAt (i * 3) (by omega); rw [this]; exact flat_get (j := 0) hi (by decide)
  · have := h.cellAt (i * 3 + 1) (by omega); rw [this]; exact flat_get (j := 1) hi (by decide)
  · have := h.cellAt (i * 3 + 2) (by omega); rw [this]; exact flat_get (j := 2) hi (by decide)
def CaL (c : Nat) (rv : Value) (l : List It) : List Res := [.blk c #[.int .i64 64, rv] 123, .row rv 132 3 l.length (l.flatMap itE)]
def findK (k : Int) (l : List It) : Option Nat := l.findIdx? fun x => decide (x.1 = k)
def placeI (k : Int) (l : List It) : Int := match findK k l with | some i => i | none => -1
section
variable {W0 w : World} {F : Nat → Prop} {L : List Res} {I : List Inv} {c : Nat} {rv : Value} {l : List It}
theorem place1_ok (k : Int) (x : It) (b : Nat) (w : World) (hb : Blk w b #[.int .i64 k] 3) :
    Ret Tryz.prog 103 [.agg (itE x).toArray, .pointer (some ⟨b, 0, none⟩)] w fun u w' => u = .bool (decide (x.1 = k)) ∧ Below w.heap.size w w' := by
  refine ent103 _ _ _ _ ?_
  have hr := hb.rules
  have hlt := hb.lt
  simp (disch := first | omega | exact okFill_t rfl | exact okSize_t rfl | exact fun h => h | (simp only [World.size_alloc, World.size_drew, World.size_setCell, size_fill, bytesW]; omega)) only [go_sem, c103, hr, itE]
  (repeat' (first | with_reducible exact Below.refl _ _ | with_reducible assumption | (with_reducible refine Below.drew ?_) | (with_reducible refine Below.alloc ?_ ?_ _) | (with_reducible refine Below.setCell ?_ ?_ _) | (with_reducible refine Below.fill ?_ ?_) | (with_reducible refine Below.via (by assumption) ?_ ?_) | omega | (simp only [World.size_alloc, World.size_drew, World.size_setCell, size_fill, bytesW]; omega)))
theorem index_ok (k : Int) (v : Value) (b : Nat) (hb : Blk w b #[.int .i64 k] 3) (h : RdS w 3 itE v l) (hl : l.length ≤ 1000000) :
    Ret Tryz.prog 102 [v, .func (.func 103) #[] #[.pointer (some ⟨b, 0, none⟩)]] w fun u w' => u = .int .i64 (placeI k l) ∧ Below w.heap.size w w' := by
  obtain ⟨a, c, rfl, _⟩ := h.form
  refine ent102 _ _ _ _ ?_
  simp (disch := first | omega | exact okFill_t rfl | exact okSize_t rfl | exact fun h => h | (simp only [World.size_alloc, World.size_drew, World.size_setCell, size_fill, bytesW]; omega)) only [go_sem, c102, c102S0, c102S1, c102S2, c102L0, c102S3]
  refine W_loopU (fun j : Nat => [(8, .int .i64 j)]) (fun j w' => Below w.heap.size w w' ∧ j ≤ l.length ∧ ∀ i, (h : i < l.length) → i < j → ¬ l[i].1 = k) (fun j => l.length - j) 0 rfl ⟨Below.refl _ _, Nat.zero_le _, fun j _ h => by omega⟩ ?_
  rintro j w1 ⟨hw, hj, he⟩
  by_cases hlt : j < l.length
  · obtain ⟨q, rfl⟩ := h.ptr (by omega)
    have ck := (h.below hw (by decide)).at itE_len hlt
    have hlt' : (j : Int) < l.length := by omega
    simp (disch := first | omega | exact okFill_t rfl | exact okSize_t rfl | exact fun h => h | (simp only [World.size_alloc, World.size_drew, World.size_setCell, size_fill, bytesW]; omega)) only [go_sem, c102, c102S0, c102S1, c102S2, c102L0, c102S3, c102L0, hlt', ck, itE_len]
    refine ⟨by omega, callW_go ⟨by kernel_rfl, Ret.mono (place1_ok k l[j] b w1 (hb.below hw hb.lt)) ?_⟩⟩
    rintro _ w2 ⟨rfl, b2⟩
    have hwt := hw.trans (b2.mono hw.size)
    by_cases hp : l[j].1 = k
    · simp (disch := first | omega | exact okFill_t rfl | exact okSize_t rfl | exact fun h => h | (simp only [World.size_alloc, World.size_drew, World.size_setCell, size_fill, bytesW]; omega)) only [go_sem, c102, c102S0, c102S1, c102S2, c102L0, c102S3, hp]
      have e : placeI k l = j := by
        unfold placeI findK
        rw [List.findIdx?_eq_some_iff_getElem.2 ⟨hlt, by simp [hp], fun i hi => by simp [he i (by omega) hi]⟩]
      exact ⟨by rw [e], hwt⟩
    · simp (disch := first | omega | exact okFill_t rfl | exact okSize_t rfl | exact fun h => h | (simp only [World.size_alloc, World.size_drew, World.size_setCell, size_fill, bytesW]; omega)) only [go_sem, c102, c102S0, c102S1, c102S2, c102L0, c102S3, hp]
      refine ⟨⟨by omega, by omega⟩, j + 1, rfl, ⟨hwt, by omega, fun i h1 h2 => ?_⟩, by omega⟩
      rcases Nat.lt_or_ge i j with h' | h'
      · exact he i h1 h'
      · obtain rfl : i = j := by omega
        exact hp
  · have hlt' : ¬ (j : Int) < l.length := by omega
    simp (disch := first | omega | exact okFill_t rfl | exact okSize_t rfl | exact fun h => h | (simp only [World.size_alloc, World.size_drew, World.size_setCell, size_fill, bytesW]; omega)) only [go_sem, c102, c102S0, c102S1, c102S2, c102L0, c102S3, c102L0, hlt']
    have e : placeI k l = -1 := by
      unfold placeI findK
      rw [List.findIdx?_eq_none_iff.2 fun x hx => by obtain ⟨i, hi, rfl⟩ := List.mem_iff_getElem.1 hx; simp [he i hi (by omega)]]
    exact ⟨by rw [e], hw⟩
theorem place_ok (k : Int) (h : St W0 w F (CaL c rv l ++ L) I) (hl : l.length ≤ 1000000) :
    Ret Tryz.prog 83 [.pointer (some ⟨c, 0, none⟩), .int .i64 k] w fun u w' => u = .int .i64 (placeI k l) ∧ Below w.heap.size w w' := by
  refine ent83 _ _ _ _ ?_
  obtain ⟨a, cc, rfl, _⟩ := own_slice (h.row 1 rfl)
  have s1 := h.box #[.int .i64 k] 3
  have r1 := s1.rules 1 rfl
  have t1 := (St.start (W0 := w)).box #[.int .i64 k] 3
  simp (disch := first | omega | exact okFill_t rfl | exact okSize_t rfl | exact fun h => h | (simp only [World.size_alloc, World.size_drew, World.size_setCell, size_fill, bytesW]; omega)) only [go_sem, c83, c83S0, c83S1, r1]
  refine Ret.mono (index_ok k _ _ (s1.blk 0 rfl) (RdS.of_own' (s1.row 2 rfl) l rfl rfl) hl) ?_
  rintro _ w2 ⟨rfl, b2⟩
  simp (disch := first | omega | exact okFill_t rfl | exact okSize_t rfl | exact fun h => h | (simp only [World.size_alloc, World.size_drew, World.size_setCell, size_fill, bytesW]; omega)) only [go_sem, c83, c83S0, c83S1]
  exact (t1.call b2).bel
theorem front_ok {i : Nat} (h : St W0 w F (CaL c rv l ++ L) I) (hi : i < l.length) (hl : l.length ≤ 1000000) :
    Ret Tryz.prog 85 [.pointer (some ⟨c, 0, none⟩), .int .i64 i] w fun u w' => St W0 w' F (CaL c rv (l[i] :: l.eraseIdx i) ++ L) I := by
  refine ent85 _ _ _ _ ?_
  obtain ⟨g, cap, rfl, hg⟩ := (h.row 1 rfl).form (by omega)
  have r1 := h.rules 0 rfl
  obtain ⟨k0, k1, k2⟩ := item_at (h.row 1 rfl) hi
  have hi' : (i : Int) < l.length := by omega
  have s1 := h.box #[.int .i64 l[i].1, .string (ofL l[i].2), .int .i64 0] 132
  simp (disch := first | omega | exact okFill_t rfl | exact okSize_t rfl | exact fun h => h | (simp only [World.size_alloc, World.size_drew, World.size_setCell, size_fill, bytesW]; omega)) only [go_sem, c85, c85S0, r1, k0, k1, k2, hi']
  generalize w.heap.size = y at s1 ⊢
  generalize w.alloc (.cells #[.int .i64 l[i].1, .string (ofL l[i].2), .int .i64 0] 132) = w1 at s1 ⊢
  refine ⟨by omega, c85draw0 (Same (fun k => k = c) _) (Same.refl _ _) ?_⟩
  have s2 := s1.drew
  have r2 := s2.rules 1 rfl
  have l2 := s2.low 1 rfl
  generalize w1.drew = w2 at s2 r2 l2 ⊢
  simp (disch := first | omega | exact okFill_t rfl | exact okSize_t rfl | exact fun h => h | (simp only [World.size_alloc, World.size_drew, World.size_setCell, size_fill, bytesW]; omega)) only [go_sem, c85, c85S0, c85D0, r2]
  have hcp : ∀ w', (∃ xs, xs.length = 3 ∧ St W0 w' F ([.blk y #[.int .i64 l[i].1, .string (ofL l[i].2), .int .i64 0] 132, .blk c #[.int .i64 64, .slice (some ⟨g, 0, none⟩) l.length cap] 123, .row (.slice (some ⟨g, 0, none⟩) l.length cap) 132 3 l.length (xs ++ (l.eraseIdx i).flatMap itE)] ++ L) I) →
      W Tryz.prog (c85S0 ()) [(0, .pointer (some ⟨c, 0, none⟩)), (4, .pointer (some ⟨y, 0, none⟩))] w' (finQ Tryz.prog [] fun u w' => St W0 w' F (CaL c (.slice (some ⟨g, 0, none⟩) l.length cap) (l[i] :: l.eraseIdx i) ++ L) I) := by
    rintro w3 ⟨xs, hx, s3⟩
    simp (disch := first | omega | exact okFill_t rfl | exact okSize_t rfl | exact fun h => h | (simp only [World.size_alloc, World.size_drew, World.size_setCell, size_fill, bytesW]; omega)) only [go_sem, c85, c85S0]
    refine c85draw1 (Chg (fun _ => False) _) (Chg.refl _ _) ?_
    have s4 := s3.drew
    have r4 := s4.rules 1 rfl
    have l4 := s4.low 1 rfl
    have q4 := s4.rules 0 rfl
    generalize w3.drew = w4 at s4 r4 l4 q4 ⊢
    simp (disch := first | omega | exact okFill_t rfl | exact okSize_t rfl | exact fun h => h | (simp only [World.size_alloc, World.size_drew, World.size_setCell, size_fill, bytesW]; omega)) only [go_sem, c85, c85S0, c85D1, r4, q4]
    obtain ⟨x0, x1, x2, rfl⟩ : ∃ x0 x1 x2, xs = [x0, x1, x2] := by
      match xs, hx with
      | [a, b, c], _ => exact ⟨a, b, c, rfl⟩
    have hr := s4.row 2 rfl
    have hc : ∀ j, j < 3 → w4.cell? ⟨g, j, none⟩ = ([x0, x1, x2] ++ (l.eraseIdx i).flatMap itE)[j]? := fun j hj => hr.cellAt j (by omega)
    refine ⟨by omega, ⟨⟨x0, hc 0 (by decide)⟩, hr.frozenAt 0, ⟨x1, hc 1 (by decide)⟩, hr.frozenAt 1, ⟨x2, hc 2 (by decide)⟩, hr.frozenAt 2⟩, ?_⟩
    have s5 := ((s4.put 2 rfl 0 (.int .i64 l[i].1)).put 2 rfl 1 (.string (ofL l[i].2))).put 2 rfl 2 (.int .i64 0)
    refine st_recast (s5.sub (List.sublist_cons_self _ _)) ?_
    have e : (l[i] :: l.eraseIdx i).length = l.length := by rw [List.length_cons, List.length_eraseIdx, if_pos hi]; omega
    simp only [CaL, e]
    rfl
  have hle : l.length ≤ cap := by
    obtain ⟨_, cap', e, hc⟩ := own_slice (h.row 1 rfl)
    cases e; exact hc
  have e0 : offA (some ⟨g, 0, none⟩) cap 0 3 = some ⟨g, 0 * 3, none⟩ := by unfold offA; split <;> rfl
  have ek : (((i : Int) + 1).toNat - 1) = i := by omega
  rw [e0, ek]
  obtain ⟨o, ho1, ho2, ho3⟩ : ∃ o : Nat, o + i ≤ l.length ∧ offA (some ⟨g, 0, none⟩) cap 1 3 = some ⟨g, o * 3, none⟩ ∧ (o = 1 ∨ i = 0 ∧ o = 0) := by
    by_cases hc : cap = 1
    · exact ⟨0, by omega, by unfold offA; rw [if_pos hc], .inr ⟨by omega, rfl⟩⟩
    · exact ⟨1, by omega, by unfold offA; rw [if_neg hc]; rfl, .inl rfl⟩
  rw [ho2]
  refine ⟨by constructor <;> omega, ⟨by omega, by omega⟩, Same.refl _ _, ⟨by omega, by omega⟩, ?_⟩
  refine s2.copy (i := 2) (o := o) (m := 0) (k := i) rfl ty121mkI ho1 (by omega) (itE_ones l) (Nat.min_self i) ?_
  intro w3 s3
  have sm : Same (fun k => k = c) w2 w3 := fun k hk => by subst hk; exact (s3.blk 1 rfl).trans (s2.blk 1 rfl).symm
  simp (disch := first | omega | exact okFill_t rfl | exact okSize_t rfl | exact fun h => h | (simp only [World.size_alloc, World.size_drew, World.size_setCell, size_fill, bytesW]; omega)) only [go_sem, c85]
  refine ⟨sm, hcp w3 ⟨itE (l[0]'(by omega)), rfl, st_recast s3 ?_⟩⟩
  have e1 : (l.flatMap itE).take (o * 3) ++ ((l.flatMap itE).drop (0 * 3)).take (i * 3) ++ (l.flatMap itE).drop ((o + i) * 3) = itE (l[0]'(by omega)) ++ (l.eraseIdx i).flatMap itE := by
    rw [flat_take, flat_drop, flat_take, flat_drop, List.drop_zero, List.eraseIdx_eq_take_drop_succ, List.flatMap_append]
    have h0 : 0 < l.length := by omega
    rcases ho3 with rfl | ⟨rfl, rfl⟩
    · have : l.take 1 = [l[0]'h0] := by
        have := List.take_succ_eq_append_getElem h0
        simpa using this
      rw [this, List.flatMap_cons, List.flatMap_nil, List.append_nil, List.append_assoc, show 1 + i = i + 1 by omega]
    · have : l.drop (0 + 0) = l[0]'h0 :: l.drop (0 + 1) := List.drop_eq_getElem_cons h0
      rw [this, List.flatMap_cons]
      simp
  simp only [List.set_cons_succ, List.set_cons_zero, List.cons_append, CaL, e1]
end
end Go.Proofs.YtmchjbgobiagiaaGreat

namespace Go.Proofs.YtmchjbgobiagiaaGreat
set_option linter.unusedSimpArgs false
set_option linter.unusedVariables false
set_option maxRecDepth 100000
open Go Go.Ann Go.RowKit Go.WideShapes
theorem slice3W {P : Program} {t e sz bytes : Nat} {z : Value} {x lo hi mx : Operand} {ty : TypeId} {ρ : Env} {w : World} {K : Value → World → Prop} {a : Option Addr} {n c i j m : Nat} (hm : mkI P t = some (e, sz, bytes, z)) (hx : ev ρ x = some (.slice a n c)) (h1 : ev ρ lo = some (.int .i64 i)) (h2 : ev ρ hi = some (.int .i64 j)) (h3 : ev ρ mx = some (.int .i64 m)) (hij : i ≤ j) (hjm : j ≤ m) (hmc : m ≤ c) (hc : c ≤ 9223372036854775807)
    (hK : ∀ v, K v w) : opW P (.slice t x (some lo) (some hi) (some mx)) ty ρ w K := by
  show rawW _ _ _ _ _ _
  intro f hf
  obtain ⟨inf, hu, hi', _, hsi, _⟩ := mkI_some hm
  refine ⟨.slice (if m = i then a else a.map (·.add (i * P.cellsOf e))) (j - i) (m - i), w, ?_, hK _⟩
  have b1 : (0 : Int) ≤ (m : Int) ∧ (m : Int) ≤ c := by omega
  have b2 : (0 : Int) ≤ (j : Int) ∧ (j : Int) ≤ m := by omega
  have b3 : (0 : Int) ≤ (i : Int) ∧ (i : Int) ≤ j := by omega
  have hrun : (Instr.sliceAt t (.slice a n c) (some (.int .i64 i)) (some (.int .i64 j)) (some (.int .i64 m))).run P w = .ok (.slice (if m = i then a else a.map (·.add (i * P.cellsOf e))) (j - i) (m - i)) w := by
    rw [run_sliceAt_slice w _ _ _ _ _ (by simp [Program.elem, hu])]
    simp only [Instr.slice, Sem.run_bind, run_underlying hu, Result.andThen, Instr.sliceBounds, Sem.run_pure, Option.isSome, if_true, run_sizeOf w hi', run_bound w b1.1 b1.2, Int.toNat_natCast, run_bound w b2.1 b2.2, run_bound w b3.1 b3.2]
  simp [execOp, rawOp, Option.map_some, hf _ _ hx, hf _ _ h1, hf _ _ h2, hf _ _ h3, hrun]
theorem overL_low {xs vs : List Value} {o k : Nat} (hk : k ≤ o) (ho : o ≤ xs.length) : (overL xs o vs).take k = xs.take k := by
  unfold overL
  rw [List.append_assoc, List.take_append_of_le_length (by rw [List.length_take]; omega), List.take_take, Nat.min_eq_left hk]
section
variable {W0 w : World} {F : Nat → Prop} {L : List Res} {I : List Inv} {rv : Value} {l : List It}
theorem delete_ok {i : Nat} (h : St W0 w F (.row rv 132 3 l.length (l.flatMap itE) :: L) I) (hi : i < l.length) (hl : l.length ≤ 1000000) :
    Ret Tryz.prog 84 [rv, .int .i64 i, .int .i64 ((i : Int) + 1)] w fun u w' => St W0 w' F (.row u 132 3 (l.eraseIdx i).length ((l.eraseIdx i).flatMap itE) :: L) I := by
  have hr := h.row 0 rfl
  rcases hr.2 with ⟨_, h0⟩ | ⟨g, cap, cur, rfl, hb, hg, hnc, hcm, hcs, htake⟩
  · omega
  refine ent84 _ _ _ _ _ ?_
  simp (disch := first | omega | exact okFill_t rfl | exact okSize_t rfl | exact fun h => h | (simp only [World.size_alloc, World.size_drew, World.size_setCell, size_fill, bytesW]; omega)) only [go_sem, c84, c84S0, c84S1, c84S2]
  refine slice3W (a := some ⟨g, 0, none⟩) (n := l.length) (c := cap) (i := i) (j := i + 1) (m := l.length) ty121mkI rfl rfl rfl rfl (by omega) (by omega) hnc (by simp only [maxLen] at hcm; omega) ?_
  intro v
  have hne : ¬ (i : Int) = (i : Int) + 1 := by omega
  simp (disch := first | omega | exact okFill_t rfl | exact okSize_t rfl | exact fun h => h | (simp only [World.size_alloc, World.size_drew, World.size_setCell, size_fill, bytesW]; omega)) only [go_sem, c84, c84S0, c84S1, c84S2, hne]
  refine c84draw0 ?_
  have h2 := h.drew
  simp (disch := first | omega | exact okFill_t rfl | exact okSize_t rfl | exact fun h => h | (simp only [World.size_alloc, World.size_drew, World.size_setCell, size_fill, bytesW]; omega)) only [go_sem, c84, c84S0, c84S1, c84S2, c84D0]
  have hlen := flat_len l
  have hclen : cur.toList.length = cap * 3 := by rw [Array.length_toList, hcs]
  have e0 : offA (some ⟨g, 0, none⟩) cap 0 3 = some ⟨g, 0, none⟩ := by unfold offA; split <;> rfl
  have e1 : ((i : Int) + 1).toNat = i + 1 := by omega
  rw [e0, e1]
  have hsrc : Rd w.drew 3 (.slice (offA (some ⟨g, 0, none⟩) cap (i + 1) 3) (l.length - (i + 1)) (cap - (i + 1))) (l.length - (i + 1)) ((l.drop (i + 1)).flatMap itE) := by
    refine ⟨by rw [flat_len, List.length_drop], _, _, rfl, by omega, fun hn => ?_⟩
    have hc : ¬ cap = i + 1 := by omega
    refine ⟨⟨g, (i + 1) * 3, none⟩, by unfold offA; rw [if_neg hc]; simp [Addr.add_lit], fun j u hu => ?_⟩
    have hj : j < (l.length - (i + 1)) * 3 := by
      have := (List.getElem?_eq_some_iff.1 hu).1
      rwa [flat_len, List.length_drop] at this
    rw [Addr.add_lit]
    show w.cell? _ = _
    rw [(h.row 0 rfl).cellAt _ (by omega), ← List.getElem?_drop, flat_drop, hu]
  refine ⟨⟨by omega, by omega⟩, ⟨by omega, by omega⟩, appendB (sz := 3) ty121mkI (show Blk w.drew g cur _ from hg) (by omega) (by omega) hsrc (itE_ones _) ?_⟩
  intro w3 b3 c3
  have hyl : ((l.drop (i + 1)).flatMap itE).length = (l.length - (i + 1)) * 3 := by rw [flat_len, List.length_drop]
  have e2 : i + (l.length - (i + 1)) = l.length - 1 := by omega
  rw [e2]
  have hl3 : (overL cur.toList (i * 3) ((l.drop (i + 1)).flatMap itE)).length = cap * 3 := by rw [overL_length (by rw [hyl, hclen]; omega), hclen]
  simp (disch := first | omega | exact okFill_t rfl | exact okSize_t rfl | exact fun h => h | (simp only [World.size_alloc, World.size_drew, World.size_setCell, size_fill, bytesW]; omega)) only [go_sem, c84, c84S0, c84S1, c84S2]
  have e3 : offA (some ⟨g, 0, none⟩) cap (l.length - 1) 3 = some ⟨g, (l.length - 1) * 3, none⟩ := by
    unfold offA; rw [if_neg (by omega)]; simp [Addr.add_lit]
  rw [e3]
  refine ⟨⟨by omega, by omega, by omega⟩, clearB (sz := 3) ty121mkI rfl (itE_ones [(0, [])]) b3 (by rw [List.size_toArray, hl3]; omega) ?_⟩
  intro w5 zs hzl b5 c5
  simp (disch := first | omega | exact okFill_t rfl | exact okSize_t rfl | exact fun h => h | (simp only [World.size_alloc, World.size_drew, World.size_setCell, size_fill, bytesW]; omega)) only [go_sem, c84, c84S0, c84S1, c84S2]
  have hzl : zs.length = 3 := by rw [hzl]; omega
  simp only [List.toList_toArray] at b5
  have hl5 : (overL (overL cur.toList (i * 3) ((l.drop (i + 1)).flatMap itE)) ((l.length - 1) * 3) zs).length = cap * 3 := by rw [overL_length (by rw [hzl, hl3]; omega), hl3]
  have hn' : (l.eraseIdx i).length = l.length - 1 := by rw [List.length_eraseIdx, if_pos hi]
  have ht : (overL (overL cur.toList (i * 3) ((l.drop (i + 1)).flatMap itE)) ((l.length - 1) * 3) zs).take ((l.length - 1) * 3) = (l.eraseIdx i).flatMap itE := by
    have t1 := overL_low (vs := zs) (show (l.length - 1) * 3 ≤ (l.length - 1) * 3 from Nat.le_refl _) (show (l.length - 1) * 3 ≤ (overL cur.toList (i * 3) ((l.drop (i + 1)).flatMap itE)).length by rw [hl3]; omega)
    rw [t1, overL_take (by rw [hyl]; omega) (by rw [hclen]; omega)]
    have t2 : cur.toList.take (i * 3) = (l.take i).flatMap itE := by
      rw [← flat_take, ← htake, List.take_take, Nat.min_eq_left (by omega)]
    rw [t2, List.eraseIdx_eq_take_drop_succ, List.flatMap_append]
  have hc : Chg (fun k => (Res.row (.slice (some ⟨g, 0, none⟩) l.length cap) 132 3 l.length (l.flatMap itE)).own = some k) w w5 :=
    (((Chg.refl (fun k => k = g) w).drew.trans c3).trans c5).mono fun k _ hk => by subst hk; rfl
  refine h.upd 0 rfl hc _ ⟨?_, .inr ⟨g, cap, _, by rw [hn'], hb, b5, by omega, hcm, ?_, ?_⟩⟩ fun k hk => .inl hk
  · rw [flat_len]
  · rw [List.size_toArray, hl5]
  · rw [hn']; exact ht
theorem capB {P : Program} {t e sz bytes ty : Nat} {z : Value} {cs : Array Bool} {w : World} {K : Value → World → Prop} {a : Option Addr} {n c : Nat} (hm : mkI P t = some (e, sz, bytes, z)) (hK : K (.int .i64 c) w) : biW P .cap #[t] ty cs [.slice a n c] w K := by
  show rawB _ _ _ _ _ _ _ _
  obtain ⟨i, hu, _, _, _, _⟩ := mkI_some hm
  refine ⟨_, w, ?_, hK⟩
  simp [builtin, Builtin.cap_, goInt, run_underlying hu]
theorem overL_head {ys xs : List Value} {k : Nat} (h : xs.length ≤ k) : (overL ys 0 xs).take k = xs ++ (ys.take k).drop xs.length := by
  unfold overL
  rw [List.take_zero, List.nil_append, Nat.zero_add, List.take_append, List.take_of_length_le h, List.drop_take]
@[go_sem] theorem goOverlaps : goFunc Tryz.prog 104 = false := by kernel_rfl
theorem insert_ok {x : It} {vb : Nat} (h : St W0 w F (.row rv 132 3 l.length (l.flatMap itE) :: .blk vb (itE x).toArray 132 :: L) I) (hl : l.length ≤ 1000000) :
    Ret Tryz.prog 86 [rv, .int .i64 0, .slice (some ⟨vb, 0, none⟩) 1 1] w fun u w' => St W0 w' F (.row u 132 3 (l.length + 1) ((x :: l).flatMap itE) :: .blk vb (itE x).toArray 132 :: L) I := by
  have hr := h.row 0 rfl
  have hv := h.blk 1 rfl
  obtain ⟨a, cap, rfl, hnc⟩ := own_slice hr
  have hx : Rd w 3 (.slice (some ⟨vb, 0, none⟩) 1 1) 1 (itE x) := by
    refine ⟨rfl, _, _, rfl, Nat.le_refl _, fun _ => ⟨_, rfl, fun j u hu => ?_⟩⟩
    rw [Addr.add_lit, Nat.zero_add, hv.cell, List.getElem?_toArray]
    exact hu
  refine ent86 _ _ _ _ _ ?_
  by_cases hn : l.length = 0
  · have hl0 : l = [] := List.eq_nil_of_length_eq_zero hn
    subst hl0
    simp (disch := first | omega | exact okFill_t rfl | exact okSize_t rfl | exact fun h => h | (simp only [World.size_alloc, World.size_drew, World.size_setCell, size_fill, bytesW]; omega)) only [go_sem, c86, c86S0, c86S1, c86S2, c86S3, c86S4, c86S5, c86S6, c86S7, c86S8, c86S9, c86S10, c86S11, c86S12, c86S13]
    refine h.append 0 rfl ty121mkI rfl (by decide) hx (itE_one x) (by simp) (by simp) ?_
    intro v2 w2 s2 _
    simp (disch := first | omega | exact okFill_t rfl | exact okSize_t rfl | exact fun h => h | (simp only [World.size_alloc, World.size_drew, World.size_setCell, size_fill, bytesW]; omega)) only [go_sem, c86, c86S0, c86S1, c86S2, c86S3, c86S4, c86S5, c86S6, c86S7, c86S8, c86S9, c86S10, c86S11, c86S12, c86S13]
    exact s2
  have hn' : ¬ (0 : Int) = l.length := by omega
  rcases hr.2 with ⟨_, h0⟩ | ⟨g, cap', cur, hv', hb, hg, hnc', hcm, hcs, htake⟩
  · omega
  simp only [Value.slice.injEq, true_and] at hv'
  obtain ⟨rfl, rfl⟩ := hv'
  have hclen : cur.toList.length = cap * 3 := by rw [Array.length_toList, hcs]
  have hcells : ∀ j u, (l.flatMap itE)[j]? = some u → w.cell? ((⟨g, 0, none⟩ : Addr).add j) = some u := fun j u hu => by
    have hj : j < l.length * 3 := by
      have := (List.getElem?_eq_some_iff.1 hu).1
      rwa [flat_len] at this
    rw [Addr.add_lit, Nat.zero_add, hr.cellAt _ hj, hu]
  have hvcells : ∀ j u, (itE x)[j]? = some u → w.cell? ((⟨vb, 0, none⟩ : Addr).add j) = some u := fun j u hu => by
    rw [Addr.add_lit, Nat.zero_add, hv.cell, List.getElem?_toArray]; exact hu
  have hgv : g ≠ vb := fun e => h.ne 0 1 rfl rfl (by decide) (k := g) rfl (by rw [e]; rfl)
  have e0 : offA (some ⟨g, 0, none⟩) cap 0 3 = some ⟨g, 0, none⟩ := by unfold offA; split <;> rfl
  have hfl := flat_len l
  by_cases hc : cap < l.length + 1
  · have hc' : (cap : Int) < l.length + 1 := by omega
    simp (disch := first | omega | exact okFill_t rfl | exact okSize_t rfl | exact fun h => h | (simp only [World.size_alloc, World.size_drew, World.size_setCell, size_fill, bytesW]; omega)) only [go_sem, c86, c86S0, c86S1, c86S2, c86S3, c86S4, c86S5, c86S6, c86S7, c86S8, c86S9, c86S10, c86S11, c86S12, c86S13, hn', hc']
    refine ⟨by omega, ⟨by omega, by omega⟩, capB ty121mkI ?_⟩
    simp (disch := first | omega | exact okFill_t rfl | exact okSize_t rfl | exact fun h => h | (simp only [World.size_alloc, World.size_drew, World.size_setCell, size_fill, bytesW]; omega)) only [go_sem, c86, c86S0, c86S1, c86S2, c86S3, c86S4, c86S5, c86S6, c86S7, c86S8, c86S9, c86S10, c86S11, c86S12, c86S13, hc']
    rw [e0, show ((l.length : Int) + 1 - 0) = ((l.length + 1 : Nat) : Int) by omega]
    refine ⟨by omega, ⟨by omega, by omega⟩, ⟨by omega, by omega⟩, growB ty121mkI Tryz.underlying3 rfl (by decide) (by omega) hc (by omega) (by omega) ?_⟩
    intro G Z hG1 hG2 hZ
    have b1 : Below w.heap.size w (w.drew.alloc (.cells Z 132)) := ((Below.refl _ w).drew).alloc (Nat.le_refl _) _
    have B1 : Blk (w.drew.alloc (.cells Z 132)) w.heap.size Z 132 := Blk.new (w := w.drew)
    have hlt := hr.lt g rfl
    have hltv := hv.lt
    generalize w.drew.alloc (.cells Z 132) = w1 at b1 B1 ⊢
    generalize hy : w.heap.size = y at b1 B1 hlt hltv ⊢
    simp (disch := first | omega | exact okFill_t rfl | exact okSize_t rfl | exact fun h => h | (simp only [World.size_alloc, World.size_drew, World.size_setCell, size_fill, bytesW]; omega)) only [go_sem, c86, c86S0, c86S1, c86S2, c86S3, c86S4, c86S5, c86S6, c86S7, c86S8, c86S9, c86S10, c86S11, c86S12, c86S13]
    have e1 : offA (some ⟨y, 0, none⟩) G 0 3 = some ⟨y, 0, none⟩ := by unfold offA; split <;> rfl
    have hZl : Z.toList.length = G * 3 := by rw [Array.length_toList, hZ]
    have old1 : ∀ p : Addr, p.block < y → w1.cell? p = w.cell? p := fun p hp => World.cell?_of_block (b1.block _ hp)
    rw [e1]
    refine ⟨by omega, copyB (sz := 3) (k := 1) (ys := itE x) ty121mkI B1 (by omega) rfl (fun j u hu => by rw [old1 _ (by rw [add_block]; exact hltv)]; exact hvcells j u hu) (itE_one x) (by rw [hZ, itE_len]; omega) ?_⟩
    intro w2 B2 c2
    have b2 : Below y w w2 := b1.trans (c2.below (hy ▸ b1.size) fun k hk e => by omega)
    simp (disch := first | omega | exact okFill_t rfl | exact okSize_t rfl | exact fun h => h | (simp only [World.size_alloc, World.size_drew, World.size_setCell, size_fill, bytesW]; omega)) only [go_sem, c86, c86S0, c86S1, c86S2, c86S3, c86S4, c86S5, c86S6, c86S7, c86S8, c86S9, c86S10, c86S11, c86S12, c86S13]
    refine c86draw0 ?_
    have b3 : Below y w w2.drew := b2.drew
    have B3 : Blk w2.drew y (overL Z.toList 0 (itE x)).toArray 132 := B2
    have old3 : ∀ p : Addr, p.block < y → w2.drew.cell? p = w.cell? p := fun p hp => World.cell?_of_block (b3.block _ hp)
    generalize w2.drew = w3 at b3 B3 old3 ⊢
    have e3 : offA (some ⟨y, 0, none⟩) G 1 3 = some ⟨y, 3, none⟩ := by unfold offA; rw [if_neg (by omega)]; rfl
    have hl3 : (overL Z.toList 0 (itE x)).length = G * 3 := by rw [overL_length (by rw [hZl, itE_len]; omega), hZl]
    simp (disch := first | omega | exact okFill_t rfl | exact okSize_t rfl | exact fun h => h | (simp only [World.size_alloc, World.size_drew, World.size_setCell, size_fill, bytesW]; omega)) only [go_sem, c86, c86S0, c86S1, c86S2, c86S3, c86S4, c86S5, c86S6, c86S7, c86S8, c86S9, c86S10, c86S11, c86S12, c86S13, c86D0]
    rw [e3, e0]
    refine ⟨⟨by omega, by omega⟩, by omega, by omega, copyB (sz := 3) (k := l.length) (ys := l.flatMap itE) ty121mkI B3 (by rw [Nat.sub_zero]; exact Nat.min_self _) hfl (fun j u hu => by rw [old3 _ (by rw [add_block]; exact hlt.2)]; exact hcells j u hu) (itE_ones l) (by rw [List.size_toArray, hl3, hfl]; omega) ?_⟩
    intro w5 B5 c5
    simp only [List.toList_toArray] at B5
    have b5 : Below w.heap.size w w5 := by
      rw [hy]
      exact b3.trans (c5.below (hy ▸ b3.size) fun k hk e => by omega)
    simp (disch := first | omega | exact okFill_t rfl | exact okSize_t rfl | exact fun h => h | (simp only [World.size_alloc, World.size_drew, World.size_setCell, size_fill, bytesW]; omega)) only [go_sem, c86, c86S0, c86S1, c86S2, c86S3, c86S4, c86S5, c86S6, c86S7, c86S8, c86S9, c86S10, c86S11, c86S12, c86S13]
    have hl5 : (overL (overL Z.toList 0 (itE x)) 3 (l.flatMap itE)).length = G * 3 := by rw [overL_length (by rw [hl3, hfl]; omega), hl3]
    have ht : (overL (overL Z.toList 0 (itE x)) 3 (l.flatMap itE)).take ((l.length + 1) * 3) = (x :: l).flatMap itE := by
      rw [overL_take (by rw [hfl]; omega) (by rw [hl3]; omega), overL_take (by rw [itE_len]) (by omega), List.take_zero, List.nil_append, List.flatMap_cons]
    have hnew : (Res.row (.slice (some ⟨y, 0, none⟩) (l.length + 1) G) 132 3 (l.length + 1) ((x :: l).flatMap itE)).ok w5 W0.heap.size :=
      ⟨by rw [flat_len, List.length_cons], .inr ⟨y, G, _, rfl, by rw [← hy]; exact h.size, B5, hG1, hG2, by rw [List.size_toArray, hl5], ht⟩⟩
    have s5 := h.add b5 _ hnew fun k hk => by
      simp only [Res.own, Value.ownBlock, Option.some.injEq] at hk; omega
    exact s5.sub (List.Sublist.cons_cons _ (List.sublist_cons_self _ _))
  · have hc' : ¬ (cap : Int) < l.length + 1 := by omega
    simp (disch := first | omega | exact okFill_t rfl | exact okSize_t rfl | exact fun h => h | (simp only [World.size_alloc, World.size_drew, World.size_setCell, size_fill, bytesW]; omega)) only [go_sem, c86, c86S0, c86S1, c86S2, c86S3, c86S4, c86S5, c86S6, c86S7, c86S8, c86S9, c86S10, c86S11, c86S12, c86S13, hn', hc']
    refine ⟨by omega, ⟨by omega, by omega⟩, capB ty121mkI ?_⟩
    simp (disch := first | omega | exact okFill_t rfl | exact okSize_t rfl | exact fun h => h | (simp only [World.size_alloc, World.size_drew, World.size_setCell, size_fill, bytesW]; omega)) only [go_sem, c86, c86S0, c86S1, c86S2, c86S3, c86S4, c86S5, c86S6, c86S7, c86S8, c86S9, c86S10, c86S11, c86S12, c86S13, hc']
    have e1 : offA (some ⟨g, 0, none⟩) cap 1 3 = some ⟨g, 3, none⟩ := by unfold offA; rw [if_neg (by omega)]; rfl
    rw [e0, e1]
    refine ⟨⟨by omega, by omega⟩, ⟨by omega, by omega⟩, ⟨by omega, by omega⟩, by omega, overlapsW (t := 121) (tR := 4) Tryz.func104 (by kernel_rfl) (by kernel_rfl) (by kernel_rfl) (by kernel_rfl) ty121mkI (fun e => hgv e.symm) hv hg (by omega) ?_⟩
    simp (disch := first | omega | exact okFill_t rfl | exact okSize_t rfl | exact fun h => h | (simp only [World.size_alloc, World.size_drew, World.size_setCell, size_fill, bytesW]; omega)) only [go_sem, c86, c86S0, c86S1, c86S2, c86S3, c86S4, c86S5, c86S6, c86S7, c86S8, c86S9, c86S10, c86S11, c86S12, c86S13]
    refine c86draw1 ?_
    have h2 := h.drew
    have hg2 : Blk w.drew g cur 132 := hg
    have hc2 : ∀ j u, (l.flatMap itE)[j]? = some u → w.drew.cell? ((⟨g, 0, none⟩ : Addr).add j) = some u := hcells
    have e2 : ((l.length : Int) + 1).toNat = l.length + 1 := by omega
    simp (disch := first | omega | exact okFill_t rfl | exact okSize_t rfl | exact fun h => h | (simp only [World.size_alloc, World.size_drew, World.size_setCell, size_fill, bytesW]; omega)) only [go_sem, c86, c86S0, c86S1, c86S2, c86S3, c86S4, c86S5, c86S6, c86S7, c86S8, c86S9, c86S10, c86S11, c86S12, c86S13, c86D1]
    rw [e2, e0, e1]
    refine ⟨by constructor <;> omega, by omega, by omega, copyB (sz := 3) (k := l.length) (ys := l.flatMap itE) ty121mkI hg2 (by omega) hfl hc2 (itE_ones l) (by rw [hfl]; omega) ?_⟩
    intro w3 B3 c3
    have hl3 : (overL cur.toList 3 (l.flatMap itE)).length = cap * 3 := by rw [overL_length (by rw [hclen, hfl]; omega), hclen]
    have hvc3 : ∀ j u, (itE x)[j]? = some u → w3.cell? ((⟨vb, 0, none⟩ : Addr).add j) = some u := fun j u hu => by
      have : w3.cell? ((⟨vb, 0, none⟩ : Addr).add j) = w.cell? ((⟨vb, 0, none⟩ : Addr).add j) := World.cell?_of_block (by rw [add_block]; exact c3.block vb hv.lt (fun e => hgv e.symm))
      rw [this]; exact hvcells j u hu
    simp (disch := first | omega | exact okFill_t rfl | exact okSize_t rfl | exact fun h => h | (simp only [World.size_alloc, World.size_drew, World.size_setCell, size_fill, bytesW]; omega)) only [go_sem, c86, c86S0, c86S1, c86S2, c86S3, c86S4, c86S5, c86S6, c86S7, c86S8, c86S9, c86S10, c86S11, c86S12, c86S13]
    rw [e0]
    refine ⟨by omega, copyB (sz := 3) (k := 1) (ys := itE x) ty121mkI B3 (by omega) rfl hvc3 (itE_one x) (by rw [List.size_toArray, hl3, itE_len]; omega) ?_⟩
    intro w5 B5 c5
    simp only [List.toList_toArray] at B5
    simp (disch := first | omega | exact okFill_t rfl | exact okSize_t rfl | exact fun h => h | (simp only [World.size_alloc, World.size_drew, World.size_setCell, size_fill, bytesW]; omega)) only [go_sem, c86, c86S0, c86S1, c86S2, c86S3, c86S4, c86S5, c86S6, c86S7, c86S8, c86S9, c86S10, c86S11, c86S12, c86S13]
    have hl5 : (overL (overL cur.toList 3 (l.flatMap itE)) 0 (itE x)).length = cap * 3 := by rw [overL_length (by rw [hl3, itE_len]; omega), hl3]
    have ht : (overL (overL cur.toList 3 (l.flatMap itE)) 0 (itE x)).take ((l.length + 1) * 3) = (x :: l).flatMap itE := by
      rw [overL_head (by rw [itE_len]; omega), overL_take (by rw [hfl]; omega) (by rw [hclen]; omega), itE_len, List.drop_append, List.drop_of_length_le (by rw [List.length_take]; omega), List.nil_append, List.length_take, Nat.min_eq_left (by omega), Nat.sub_self, List.drop_zero, List.flatMap_cons]
    have hc : Chg (fun k => (Res.row (.slice (some ⟨g, 0, none⟩) l.length cap) 132 3 l.length (l.flatMap itE)).own = some k) w w5 :=
      (((Chg.refl (fun k => k = g) w).drew.trans c3).trans c5).mono fun k _ hk => by subst hk; rfl
    exact h.upd 0 rfl hc (.row (.slice (some ⟨g, 0, none⟩) (l.length + 1) cap) 132 3 (l.length + 1) ((x :: l).flatMap itE)) ⟨by rw [flat_len, List.length_cons], .inr ⟨g, cap, _, rfl, hb, B5, by omega, hcm, by rw [List.size_toArray, hl5], ht⟩⟩ fun k hk => .inl hk
end
end Go.Proofs.YtmchjbgobiagiaaGreat

namespace Go.Proofs.YtmchjbgobiagiaaGreat
set_option linter.unusedSimpArgs false
set_option linter.unusedVariables false
set_option maxRecDepth 100000
open Go Go.Ann Go.RowKit Go.WideShapes
section
variable {W0 w : World} {F : Nat → Prop} {L : List Res} {I : List Inv} {c : Nat} {rv : Value} {l : List It}
theorem place_some {k : Int} {i : Nat} (h : findK k l = some i) : placeI k l = i ∧ ∃ hi : i < l.length, l[i].1 = k := by
  unfold placeI; rw [h]
  unfold findK at h
  obtain ⟨h1, h2, _⟩ := List.findIdx?_eq_some_iff_getElem.1 h
  exact ⟨rfl, h1, by simpa using h2⟩
theorem place_none {k : Int} (h : findK k l = none) : placeI k l = -1 := by unfold placeI; rw [h]
theorem cnew_ok (h : St W0 w F L I) :
    Ret Tryz.prog 41 [.int .i64 64] w fun u w' => ∃ c, u = .tuple #[.pointer (some ⟨c, 0, none⟩), .int .i64 0] ∧ St W0 w' F (CaL c (.slice none 0 0) [] ++ L) I := by
  refine ent41 _ _ _ ?_
  simp (disch := first | omega | exact okFill_t rfl | exact okSize_t rfl | exact fun h => h | (simp only [World.size_alloc, World.size_drew, World.size_setCell, size_fill, bytesW]; omega)) only [go_sem, c41, c41S0]
  refine bdW_built (cells := #[.int .i64 64, .slice none 0 0]) (by kernel_rfl) ?_
  have s1 := (h.box #[.int .i64 64, .slice none 0 0] 123).nilRow 132 3
  simp (disch := first | omega | exact okFill_t rfl | exact okSize_t rfl | exact fun h => h | (simp only [World.size_alloc, World.size_drew, World.size_setCell, size_fill, bytesW]; omega)) only [go_sem, c41, c41S0]
  exact ⟨_, rfl, St.front (A := [.row (.slice none 0 0) 132 3 0 []]) (D := [_]) (L := L) s1⟩
def getC (k : Int) (l : List It) : List UInt8 × Bool × List It := match findK k l with
  | some i => ((l.getD i (0, [])).2, true, l.getD i (0, []) :: l.eraseIdx i)
  | none => ([], false, l)
theorem cget_ok (k : Int) (h : St W0 w F (CaL c rv l ++ L) I) (hl : l.length ≤ 1000000) :
    Ret Tryz.prog 59 [.pointer (some ⟨c, 0, none⟩), .int .i64 k] w fun u w' => u = .tuple #[.string (ofL (getC k l).1), .bool (getC k l).2.1] ∧ St W0 w' F (CaL c rv (getC k l).2.2 ++ L) I := by
  refine ent59 _ _ _ _ ?_
  simp (disch := first | omega | exact okFill_t rfl | exact okSize_t rfl | exact fun h => h | (simp only [World.size_alloc, World.size_drew, World.size_setCell, size_fill, bytesW]; omega)) only [go_sem, c59, c59S0, c59S1, c59S2]
  refine Ret.mono (place_ok k h hl) ?_
  rintro _ w2 ⟨rfl, b2⟩
  have s2 := h.call b2
  unfold getC
  cases hf : findK k l with
  | none =>
    rw [place_none hf]
    simp (disch := first | omega | exact okFill_t rfl | exact okSize_t rfl | exact fun h => h | (simp only [World.size_alloc, World.size_drew, World.size_setCell, size_fill, bytesW]; omega)) only [go_sem, c59, c59S0, c59S1, c59S2]
    exact s2
  | some i =>
    obtain ⟨e1, hi, e2⟩ := place_some hf
    rw [e1]
    have hi' : ¬ (i : Int) < 0 := by omega
    simp (disch := first | omega | exact okFill_t rfl | exact okSize_t rfl | exact fun h => h | (simp only [World.size_alloc, World.size_drew, World.size_setCell, size_fill, bytesW]; omega)) only [go_sem, c59, c59S0, c59S1, c59S2, hi']
    refine Ret.mono (front_ok s2 hi hl) ?_
    rintro u w3 s3
    have eg : l.getD i (0, []) = l[i] := by rw [List.getD_eq_getElem?_getD, List.getElem?_eq_getElem hi]; rfl
    simp only [eg]
    have hlen : (l[i] :: l.eraseIdx i).length = l.length := by rw [List.length_cons, List.length_eraseIdx, if_pos hi]; omega
    obtain ⟨g, cap, rfl, _⟩ := (s3.row 1 rfl).form (by rw [hlen]; omega)
    obtain ⟨k0, k1, k2⟩ := item_at (i := 0) (s3.row 1 rfl) (by rw [hlen]; omega)
    have r3 := s3.rules 0 rfl
    have h0 : (0 : Int) < (l[i] :: l.eraseIdx i).length := by rw [hlen]; omega
    have k1' : w3.cell? ⟨g, 1, none⟩ = some (.string (ofL l[i].2)) := k1
    simp (disch := first | omega | exact okFill_t rfl | exact okSize_t rfl | exact fun h => h | (simp only [World.size_alloc, World.size_drew, World.size_setCell, size_fill, bytesW]; omega)) only [go_sem, c59, c59S0, c59S1, c59S2, r3, h0, k1']
    exact ⟨by omega, s3⟩
theorem cput_ok {k : Int} {v : List UInt8} (h : St W0 w F (CaL c rv l ++ L) I) (hf : findK k l = none) (hl : l.length < 64) :
    Ret Tryz.prog 60 [.pointer (some ⟨c, 0, none⟩), .int .i64 k, .string (ofL v)] w fun u w' => ∃ rv', St W0 w' F (CaL c rv' ((k, v) :: l) ++ L) I := by
  refine ent60 _ _ _ _ _ ?_
  have r1 := h.rules 0 rfl
  simp (disch := first | omega | exact okFill_t rfl | exact okSize_t rfl | exact fun h => h | (simp only [World.size_alloc, World.size_drew, World.size_setCell, size_fill, bytesW]; omega)) only [go_sem, c60, c60S0, c60S1, c60S2, c60L0, c60S3, c60S4, c60S5, c60S6, c60S7, c60S8, c60S9, r1]
  refine Ret.mono (place_ok k h (by omega)) ?_
  rintro _ w2 ⟨rfl, b2⟩
  rw [place_none hf]
  have s2 := h.call b2
  have r2 := s2.rules 0 rfl
  simp (disch := first | omega | exact okFill_t rfl | exact okSize_t rfl | exact fun h => h | (simp only [World.size_alloc, World.size_drew, World.size_setCell, size_fill, bytesW]; omega)) only [go_sem, c60, c60S0, c60S1, c60S2, c60L0, c60S3, c60S4, c60S5, c60S6, c60S7, c60S8, c60S9, r2]
  refine c60draw0 ?_
  have s3 := s2.drew
  have r3 := s3.rules 0 rfl
  obtain ⟨a, cap, rfl, _⟩ := own_slice (s3.row 1 rfl)
  have h64 : ¬ (64 : Int) ≤ l.length := by omega
  generalize w2.drew = w3 at s3 r3 ⊢
  simp (disch := first | omega | exact okFill_t rfl | exact okSize_t rfl | exact fun h => h | (simp only [World.size_alloc, World.size_drew, World.size_setCell, size_fill, bytesW]; omega)) only [go_sem, c60, c60S0, c60S1, c60S2, c60L0, c60S3, c60S4, c60S5, c60S6, c60S7, c60S8, c60S9, c60D0, r3, h64]
  refine bdW_built (cells := (itE (k, v)).toArray) (by kernel_rfl) ?_
  simp (disch := first | omega | exact okFill_t rfl | exact okSize_t rfl | exact fun h => h | (simp only [World.size_alloc, World.size_drew, World.size_setCell, size_fill, bytesW]; omega)) only [go_sem, c60, c60S0, c60S1, c60S2, c60L0, c60S3, c60S4, c60S5, c60S6, c60S7, c60S8, c60S9]
  refine bsW_agg ty121mkI rfl (by decide) (by decide) ?_
  have s4 := s3.box (itE (k, v)).toArray 132
  simp (disch := first | omega | exact okFill_t rfl | exact okSize_t rfl | exact fun h => h | (simp only [World.size_alloc, World.size_drew, World.size_setCell, size_fill, bytesW]; omega)) only [go_sem, c60, c60S0, c60S1, c60S2, c60L0, c60S3, c60S4, c60S5, c60S6, c60S7, c60S8, c60S9]
  generalize w3.heap.size = y at s4 ⊢
  generalize w3.alloc (.cells (itE (k, v)).toArray 132) = w4 at s4 ⊢
  have s5 : St W0 w4 F (.row (.slice a l.length cap) 132 3 l.length (l.flatMap itE) :: .blk y (itE (k, v)).toArray 132 :: .blk c #[.int .i64 64, .slice a l.length cap] 123 :: L) I :=
    St.front (A := [_, _]) (D := [_]) (L := L) s4
  refine Ret.mono (insert_ok s5 (by omega)) ?_
  rintro u w6 s6
  have s8 : St W0 w6 F ([.blk c #[.int .i64 64, .slice a l.length cap] 123, .row u 132 3 (l.length + 1) (((k, v) :: l).flatMap itE)] ++ L) I := by
    have := s6.sub (L' := .row u 132 3 (l.length + 1) (((k, v) :: l).flatMap itE) :: .blk c #[.int .i64 64, .slice a l.length cap] 123 :: L) (List.Sublist.cons_cons _ (List.sublist_cons_self _ _))
    exact St.front (A := [_]) (D := [_]) (L := L) this
  obtain ⟨a8, cap8, rfl, _⟩ := own_slice (s8.row 1 rfl)
  have r8 := s8.rules 0 rfl
  simp (disch := first | omega | exact okFill_t rfl | exact okSize_t rfl | exact fun h => h | (simp only [World.size_alloc, World.size_drew, World.size_setCell, size_fill, bytesW]; omega)) only [go_sem, c60, c60S0, c60S1, c60S2, c60L0, c60S3, c60S4, c60S5, c60S6, c60S7, c60S8, c60S9, r8]
  exact ⟨_, s8.set 0 rfl 1 (.slice a8 (l.length + 1) cap8)⟩
def dropK (k : Int) (l : List It) : List It := match findK k l with | some i => l.eraseIdx i | none => l
theorem cdrop_ok (k : Int) (h : St W0 w F (CaL c rv l ++ L) I) (hl : l.length ≤ 1000000) :
    Ret Tryz.prog 57 [.pointer (some ⟨c, 0, none⟩), .int .i64 k] w fun u w' => ∃ rv', St W0 w' F (CaL c rv' (dropK k l) ++ L) I := by
  unfold dropK
  refine ent57 _ _ _ _ ?_
  simp (disch := first | omega | exact okFill_t rfl | exact okSize_t rfl | exact fun h => h | (simp only [World.size_alloc, World.size_drew, World.size_setCell, size_fill, bytesW]; omega)) only [go_sem, c57, c57S0, c57S1]
  refine Ret.mono (place_ok k h hl) ?_
  rintro _ w2 ⟨rfl, b2⟩
  have s2 := h.call b2
  have r2 := s2.rules 0 rfl
  cases hf : findK k l with
  | none =>
    rw [place_none hf]
    simp (disch := first | omega | exact okFill_t rfl | exact okSize_t rfl | exact fun h => h | (simp only [World.size_alloc, World.size_drew, World.size_setCell, size_fill, bytesW]; omega)) only [go_sem, c57, c57S0, c57S1]
    exact ⟨rv, s2⟩
  | some i =>
    obtain ⟨e1, hi, e2⟩ := place_some hf
    rw [e1]
    have hi' : (0 : Int) ≤ (i : Int) := by omega
    obtain ⟨a, cap, rfl, _⟩ := own_slice (s2.row 1 rfl)
    simp (disch := first | omega | exact okFill_t rfl | exact okSize_t rfl | exact fun h => h | (simp only [World.size_alloc, World.size_drew, World.size_setCell, size_fill, bytesW]; omega)) only [go_sem, c57, c57S0, c57S1, hi', r2]
    refine ⟨by constructor <;> omega, Ret.mono (delete_ok (St.front (A := [_]) (D := [_]) (L := L) s2) hi hl) ?_⟩
    rintro u w3 s3
    have s4 := St.front (A := [_]) (D := [.blk c #[.int .i64 64, .slice a l.length cap] 123]) (L := L) s3
    obtain ⟨a4, cap4, rfl, _⟩ := own_slice (s4.row 1 rfl)
    have r4 := s4.rules 0 rfl
    simp (disch := first | omega | exact okFill_t rfl | exact okSize_t rfl | exact fun h => h | (simp only [World.size_alloc, World.size_drew, World.size_setCell, size_fill, bytesW]; omega)) only [go_sem, c57, c57S0, c57S1, r4]
    exact ⟨_, s4.set 0 rfl 1 (.slice a4 (l.eraseIdx i).length cap4)⟩
end
end Go.Proofs.YtmchjbgobiagiaaGreat

namespace Go.Proofs.YtmchjbgobiagiaaGreat
set_option linter.unusedSimpArgs false
set_option linter.unusedVariables false
set_option maxRecDepth 100000
open Go Go.Ann Go.RowKit Go.WideShapes
def nowP (s : Sto) (i : Int) : List UInt8 := (stRead s i).2.1
def pgs (s : Sto) : List (List UInt8) := (List.range s.hd.pages).map fun i : Nat => nowP s i
theorem pgs_len (s : Sto) : (pgs s).length = s.hd.pages := by unfold pgs; simp
theorem pgs_get {s : Sto} {i : Nat} (h : i < (pgs s).length) : (pgs s)[i] = nowP s i := by simp [pgs]
structure Live (s : Sto) (l : List It) : Prop where
  ok : s.ok
  dead : s.dead = false
  gone : s.disk.gone = false
  few : s.hd.pages ≤ 64
  nd : (l.map Prod.fst).Nodup
  kept : ∀ x ∈ l, 0 ≤ x.1 ∧ x.1 < s.hd.pages ∧ x.2 = nowP s x.1
theorem getM_set {κ ν : Type} [DecidableEq κ] (a b : κ) (v : ν) (c : Nat) : ∀ l : List (κ × ν × Nat), getM b (setM a v c l) = if b = a then some v else getM b l
  | [] => by simp only [setM, getM]
  | x :: l => by
    simp only [setM]
    by_cases h : a = x.1
    · rw [if_pos h]
      simp only [getM]
      by_cases h2 : b = x.1
      · rw [if_pos h2, if_pos (h2.trans h.symm)]
      · rw [if_neg h2, if_neg h2, if_neg (fun e => h2 (e.trans h))]
    · rw [if_neg h]
      simp only [getM]
      by_cases h2 : b = x.1
      · rw [if_pos h2, if_pos h2, if_neg (fun e => h (e.symm.trans h2))]
      · rw [if_neg h2, if_neg h2, getM_set a b v c l]
theorem setM_mem {κ ν : Type} [DecidableEq κ] {a : κ} {v : ν} {c : Nat} : ∀ {l : List (κ × ν × Nat)} {x : κ × ν × Nat}, x ∈ setM a v c l → (x = (a, v, c) ∧ getM a l = none) ∨ (∃ y ∈ l, x.1 = y.1 ∧ x.2.2 = y.2.2 ∧ (x = y ∨ x = (y.1, v, y.2.2) ∧ a = y.1))
  | [], x, h => by simp only [setM, List.mem_singleton] at h; exact .inl ⟨h, rfl⟩
  | y :: l, x, h => by
    simp only [setM] at h
    split at h
    · rename_i e
      rcases List.mem_cons.1 h with rfl | h
      · exact .inr ⟨y, List.mem_cons_self .., rfl, rfl, .inr ⟨rfl, e⟩⟩
      · exact .inr ⟨x, List.mem_cons_of_mem _ h, rfl, rfl, .inl rfl⟩
    · rename_i hne
      rcases List.mem_cons.1 h with rfl | h
      · exact .inr ⟨x, List.mem_cons_self .., rfl, rfl, .inl rfl⟩
      · rcases setM_mem h with ⟨h, hn⟩ | ⟨z, hz, h⟩
        · exact .inl ⟨h, by simp only [getM]; rw [if_neg hne]; exact hn⟩
        · exact .inr ⟨z, List.mem_cons_of_mem _ hz, h⟩
theorem setM_keys {κ ν : Type} [DecidableEq κ] {a : κ} {v : ν} {c : Nat} : ∀ {l : List (κ × ν × Nat)}, (setM a v c l).map Prod.fst = if (getM a l).isSome then l.map Prod.fst else l.map Prod.fst ++ [a]
  | [] => rfl
  | x :: l => by
    simp only [setM, getM]
    split
    · simp
    · simp only [List.map_cons, setM_keys (l := l)]
      split <;> simp
theorem setM_born {κ ν : Type} [DecidableEq κ] {a : κ} {v : ν} {c : Nat} : ∀ {l : List (κ × ν × Nat)}, (setM a v c l).map (fun x => x.2.2) = if (getM a l).isSome then l.map (fun x => x.2.2) else l.map (fun x => x.2.2) ++ [c]
  | [] => rfl
  | x :: l => by
    simp only [setM, getM]
    split
    · simp
    · simp only [List.map_cons, setM_born (l := l)]
      split <;> simp
theorem getM_none {κ ν : Type} [DecidableEq κ] {a : κ} : ∀ {l : List (κ × ν × Nat)}, getM a l = none → a ∉ l.map Prod.fst
  | [], _ => by simp
  | x :: l, h => by
    simp only [getM] at h
    split at h
    · cases h
    · rename_i hne
      simp only [List.map_cons, List.mem_cons, not_or]
      exact ⟨hne, getM_none h⟩
section
variable {s : Sto}
theorem stReady_ok {i : Int} (hd : s.dead = false) (h0 : 0 ≤ i) (h1 : i < s.hd.pages) : stReady s i = 0 := by
  unfold stReady
  rw [if_neg (by rw [hd]; decide), if_pos ⟨h0, h1⟩]
theorem home_ready {i : Int} (ok : s.ok) (hg : s.disk.gone = false) (h0 : 0 ≤ i) (h1 : i < s.hd.pages) : readyN s.disk (homeN s i) = 0 := by
  have := ok.fit
  unfold readyN homeN
  rw [if_neg (by rw [hg]; decide), if_pos (by omega)]
theorem nowP_eq {i : Int} (ok : s.ok) (hd : s.dead = false) (hg : s.disk.gone = false) (h0 : 0 ≤ i) (h1 : i < s.hd.pages) :
    stRead s i = (s, nowP s i, 0) ∧ nowP s i = (getM i s.dirty).getD (lastL s.disk.late (homeN s i) (s.disk.safe.getD (homeN s i).toNat [])) := by
  have e1 := stReady_ok hd h0 h1
  have e2 := home_ready ok hg h0 h1
  have e3 : readN s.disk (homeN s i) = (lastL s.disk.late (homeN s i) (s.disk.safe.getD (homeN s i).toNat []), 0) := by unfold readN; rw [if_pos e2]
  unfold nowP stRead
  rw [if_neg (by omega)]
  cases hm : getM i s.dirty with
  | some x => exact ⟨rfl, rfl⟩
  | none => simp only [e3]; exact ⟨rfl, rfl⟩
theorem nowP_len {i : Int} (ok : s.ok) (hd : s.dead = false) (hg : s.disk.gone = false) (h0 : 0 ≤ i) (h1 : i < s.hd.pages) : (nowP s i).length = 256 := by
  rw [(nowP_eq ok hd hg h0 h1).2]
  cases hm : getM i s.dirty with
  | some x =>
    have : ∃ b, (i, x, b) ∈ s.dirty := by
      revert hm
      generalize s.dirty = l
      induction l with
      | nil => intro h; cases h
      | cons y l ih =>
        intro h
        simp only [getM] at h
        split at h
        · rename_i e
          simp only [Option.some.injEq] at h
          exact ⟨y.2.2, by rw [e, ← h]; exact List.mem_cons_self ..⟩
        · obtain ⟨b, hb⟩ := ih h
          exact ⟨b, List.mem_cons_of_mem _ hb⟩
    obtain ⟨b, hb⟩ := this
    exact (ok.keys _ hb).2.2
  | none =>
    refine lastL_256 ?_ fun x hx => (ok.disk.late x hx).2.2
    have := ok.fit
    have hh : homeN s i = 2 + s.hd.room + i := rfl
    rw [List.getD_eq_getElem?_getD, List.getElem?_eq_getElem (by omega)]
    exact ok.disk.safe _ (List.getElem_mem _)
theorem stWrite_in {i : Int} {d : List UInt8} (ok : s.ok) (hd : s.dead = false) (hg : s.disk.gone = false) (h0 : 0 ≤ i) (h1 : i < s.hd.pages) (hl : d.length ≤ 256) :
    (stWrite s i d).2 = 0 ∧ (stWrite s i d).1.ok ∧ (stWrite s i d).1.dead = false ∧ (stWrite s i d).1.disk = s.disk ∧ (stWrite s i d).1.hd = s.hd ∧ ∀ j : Int, 0 ≤ j → j < s.hd.pages → nowP (stWrite s i d).1 j = if j = i then filledL d else nowP s j := by
  have e1 := stReady_ok hd h0 h1
  have e : stWrite s i d = ({ s with dirty := setM i (filledL d) s.clock s.dirty, clock := if (getM i s.dirty).isSome then s.clock else s.clock + 1 }, 0) := by
    unfold stWrite
    rw [if_neg (by omega), if_neg (by omega)]
  have ok' : (stWrite s i d).1.ok := by
    rw [e]
    refine ⟨ok.hd, ok.disk, ok.room, ok.pages, ok.few, ok.fit, fun x hx => ?_, ?_, ?_, fun x hx => ?_⟩
    · rcases setM_mem hx with ⟨rfl, _⟩ | ⟨y, hy, h2, h3, rfl | ⟨h4, h5⟩⟩
      · exact ⟨h0, h1, filledL_length hl⟩
      · exact ok.keys _ hy
      · rw [h4]; exact ⟨(ok.keys _ hy).1, (ok.keys _ hy).2.1, filledL_length hl⟩
    · show ((setM i (filledL d) s.clock s.dirty).map Prod.fst).Nodup
      rw [setM_keys]
      split
      · exact ok.nd
      · rename_i hn
        rw [List.nodup_append]
        refine ⟨ok.nd, List.pairwise_singleton _ _, fun a ha b hb => ?_⟩
        rw [List.mem_singleton] at hb
        subst hb
        have := getM_none (a := b) (l := s.dirty) (by simpa using hn)
        exact fun e => this (e ▸ ha)
    · show ((setM i (filledL d) s.clock s.dirty).map fun x => x.2.2).Nodup
      rw [setM_born]
      split
      · exact ok.born
      · rw [List.nodup_append]
        refine ⟨ok.born, List.pairwise_singleton _ _, fun a ha b hb => ?_⟩
        rw [List.mem_singleton] at hb
        subst hb
        obtain ⟨x, hx, rfl⟩ := List.mem_map.1 ha
        have := ok.clock x hx
        omega
    · show x.2.2 < if (getM i s.dirty).isSome then s.clock else s.clock + 1
      rcases setM_mem hx with ⟨rfl, hn⟩ | ⟨y, hy, _, h3, _⟩
      · rw [hn]
        exact Nat.lt_succ_self _
      · have := ok.clock y hy
        rw [h3]
        split <;> omega
  refine ⟨by rw [e], ok', by rw [e]; exact hd, by rw [e], by rw [e], fun j hj0 hj1 => ?_⟩
  have g1 := (nowP_eq ok hd hg hj0 hj1).2
  have g2 := (nowP_eq (s := (stWrite s i d).1) ok' (by rw [e]; exact hd) (by rw [e]; exact hg) hj0 (by rw [e]; exact hj1)).2
  rw [g2, g1, e]
  show (getM j (setM i (filledL d) s.clock s.dirty)).getD _ = _
  rw [getM_set]
  split
  · rfl
  · rfl
end
structure En where
  p : Nat
  b : Nat
  mb : Nat
  g : Nat
  c : Nat
  vb : Value
  vl : Value
  hd : Hd
  m : Dk
def PgL (e : En) (rv : Value) (l : List It) (s : Sto) : List Res :=
  [.blk e.p #[.pointer (some ⟨e.b, 0, none⟩), .pointer (some ⟨e.c, 0, none⟩)] 28] ++ (StoL e.b e.mb e.g e.vb e.vl s ++ CaL e.c rv l)
theorem St.mid {W0 w : World} {F : Nat → Prop} {A B C L : List Res} {I : List Inv} (h : St W0 w F (A ++ (B ++ C) ++ L) I) : St W0 w F (B ++ ((A ++ C) ++ L)) I :=
  h.perm (by
    have := (List.perm_append_comm (l₁ := B) (l₂ := A)).append_right (C ++ L)
    simpa only [List.append_assoc] using this)
theorem St.unmid {W0 w : World} {F : Nat → Prop} {A B C L : List Res} {I : List Inv} (h : St W0 w F (B ++ ((A ++ C) ++ L)) I) : St W0 w F (A ++ (B ++ C) ++ L) I :=
  h.perm (by
    have := (List.perm_append_comm (l₁ := A) (l₂ := B)).append_right (C ++ L)
    simpa only [List.append_assoc] using this)
theorem St.last {W0 w : World} {F : Nat → Prop} {A B C L : List Res} {I : List Inv} (h : St W0 w F (A ++ (B ++ C) ++ L) I) : St W0 w F (C ++ ((A ++ B) ++ L)) I :=
  h.perm (by
    have := (List.perm_append_comm (l₁ := C) (l₂ := A ++ B)).append_right L
    simpa only [List.append_assoc] using this)
theorem St.unlast {W0 w : World} {F : Nat → Prop} {A B C L : List Res} {I : List Inv} (h : St W0 w F (C ++ ((A ++ B) ++ L)) I) : St W0 w F (A ++ (B ++ C) ++ L) I :=
  h.perm (by
    have := (List.perm_append_comm (l₁ := A ++ B) (l₂ := C)).append_right L
    simpa only [List.append_assoc] using this)
def Pgr (e : En) (P : List (List UInt8)) (W0 w : World) (F : Nat → Prop) (L : List Res) (I : List Inv) : Prop :=
  ∃ rv l s, St W0 w F (PgL e rv l s ++ L) I ∧ Live s l ∧ s.hd = e.hd ∧ s.disk = e.m ∧ pgs s = P
theorem nodup_few : ∀ (n : Nat) (l : List Int), l.Nodup → (∀ x ∈ l, 0 ≤ x ∧ x < n) → l.length ≤ n
  | 0, l, _, h => by
    cases l with
    | nil => exact Nat.le_refl _
    | cons x l => have := h x (List.mem_cons_self ..); omega
  | n + 1, l, hn, h => by
    by_cases hm : (n : Int) ∈ l
    · have h1 := nodup_few n (l.erase n) (hn.erase _) fun x hx => by
        have h2 := h x (List.mem_of_mem_erase hx)
        have h3 : x ≠ (n : Int) := fun e => by subst e; exact (List.Nodup.not_mem_erase hn) hx
        omega
      rw [List.length_erase_of_mem hm] at h1
      have : 0 < l.length := List.length_pos_of_mem hm
      omega
    · have h1 := nodup_few n l hn fun x hx => by
        have h2 := h x hx
        have h3 : x ≠ (n : Int) := fun e => hm (e ▸ hx)
        omega
      omega
theorem Live.len {s : Sto} {l : List It} (h : Live s l) : l.length ≤ s.hd.pages := by
  have := nodup_few s.hd.pages (l.map Prod.fst) h.nd fun x hx => by
    obtain ⟨y, hy, rfl⟩ := List.mem_map.1 hx
    exact ⟨(h.kept y hy).1, (h.kept y hy).2.1⟩
  rwa [List.length_map] at this
theorem get_erase_perm {α : Type} : ∀ {l : List α} {i : Nat} (hi : i < l.length), (l[i] :: l.eraseIdx i).Perm l
  | a :: l, 0, _ => List.Perm.refl _
  | a :: l, i + 1, hi => by
    have := get_erase_perm (l := l) (i := i) (by simpa using hi)
    simp only [List.getElem_cons_succ, List.eraseIdx_cons_succ]
    exact (List.Perm.swap _ _ _).trans (this.cons a)
theorem Live.front {s : Sto} {l : List It} {i : Nat} (h : Live s l) (hi : i < l.length) : Live s (l[i] :: l.eraseIdx i) :=
  ⟨h.ok, h.dead, h.gone, h.few, ((get_erase_perm hi).map Prod.fst).nodup_iff.2 h.nd, fun x hx => h.kept x ((get_erase_perm hi).subset hx)⟩
theorem Live.erase {s : Sto} {l : List It} (h : Live s l) (i : Nat) : Live s (l.eraseIdx i) :=
  ⟨h.ok, h.dead, h.gone, h.few, h.nd.sublist ((List.eraseIdx_sublist l i).map _), fun x hx => h.kept x ((List.eraseIdx_sublist l i).subset hx)⟩
theorem findK_none {k : Int} {l : List It} (h : findK k l = none) : ∀ x ∈ l, x.1 ≠ k := by
  unfold findK at h
  rw [List.findIdx?_eq_none_iff] at h
  intro x hx
  simpa using h x hx
theorem pgs_now {s : Sto} {P : List (List UInt8)} (e : pgs s = P) {i : Int} (h0 : 0 ≤ i) (h1 : i < P.length) : nowP s i = P.getD i.toNat [] ∧ i < s.hd.pages := by
  subst e
  have hl := pgs_len s
  refine ⟨?_, by omega⟩
  rw [List.getD_eq_getElem?_getD, List.getElem?_eq_getElem (by omega), Option.getD_some, pgs_get]
  congr 1; omega
theorem pgs_eq {s : Sto} {P : List (List UInt8)} (hl : P.length = s.hd.pages) (h : ∀ i : Nat, i < P.length → nowP s i = P.getD i []) : pgs s = P := by
  refine List.ext_getElem (by rw [pgs_len, hl]) fun i h1 h2 => ?_
  rw [pgs_get, h i h2, List.getD_eq_getElem?_getD, List.getElem?_eq_getElem h2]; rfl
section
variable {W0 w : World} {F : Nat → Prop} {L : List Res} {I : List Inv} {e : En} {P : List (List UInt8)}
theorem Pgr.below (h : Pgr e P W0 w F L I) {w' : World} (hb : Below w.heap.size w w') : Pgr e P W0 w' F L I := by
  obtain ⟨rv, l, s, h1, h2⟩ := h
  exact ⟨rv, l, s, h1.call hb, h2⟩
theorem Pgr.drew (h : Pgr e P W0 w F L I) : Pgr e P W0 w.drew F L I := by
  obtain ⟨rv, l, s, h1, h2⟩ := h
  exact ⟨rv, l, s, h1.drew, h2⟩
theorem Pgr.len (h : Pgr e P W0 w F L I) : P.length = e.hd.pages ∧ P.length ≤ 64 := by
  obtain ⟨rv, l, s, h1, h2, h3, h4, h5⟩ := h
  have := h2.few
  rw [← h5, pgs_len, h3]
  rw [h3] at this
  exact ⟨rfl, this⟩
theorem Pgr.full (h : Pgr e P W0 w F L I) : ∀ x ∈ P, x.length = 256 := by
  obtain ⟨rv, l, s, h1, h2, h3, h4, h5⟩ := h
  subst h5
  intro x hx
  obtain ⟨i, hi, rfl⟩ := List.mem_map.1 hx
  rw [List.mem_range] at hi
  exact nowP_len h2.ok h2.dead h2.gone (by omega) (by omega)
theorem pread_ok (i : Int) (h : Pgr e P W0 w F L I) (h0 : 0 ≤ i) (h1 : i < P.length) :
    Ret Tryz.prog 31 [.pointer (some ⟨e.p, 0, none⟩), .int .i64 i] w fun u w' => u = .tuple #[.string (ofL (P.getD i.toNat [])), .int .i64 0] ∧ Pgr e P W0 w' F L I := by
  obtain ⟨rv, l, s, hs, hv, e1, e2, e3⟩ := h
  obtain ⟨en, hlt⟩ := pgs_now e3 h0 h1
  have hll := hv.len
  have hfw := hv.few
  have r1 := hs.rules 0 rfl
  refine ent31 _ _ _ _ ?_
  simp (disch := first | omega | exact okFill_t rfl | exact okSize_t rfl | exact fun h => h | (simp only [World.size_alloc, World.size_drew, World.size_setCell, size_fill, bytesW]; omega)) only [go_sem, c31, c31S0, c31S1, c31S2, c31S3, r1]
  refine Ret.mono (cget_ok i (St.last hs) (by omega)) ?_
  rintro _ w2 ⟨rfl, s2⟩
  cases hf : findK i l with
  | some j =>
    obtain ⟨_, hj, hk⟩ := place_some hf
    have eg : l.getD j (0, []) = l[j] := by rw [List.getD_eq_getElem?_getD, List.getElem?_eq_getElem hj]; rfl
    have ec : getC i l = (l[j].2, true, l[j] :: l.eraseIdx j) := by unfold getC; rw [hf]; simp only [eg]
    rw [ec] at s2 ⊢
    simp (disch := first | omega | exact okFill_t rfl | exact okSize_t rfl | exact fun h => h | (simp only [World.size_alloc, World.size_drew, World.size_setCell, size_fill, bytesW]; omega)) only [go_sem, c31, c31S0, c31S1, c31S2, c31S3]
    refine ⟨?_, rv, _, s, St.unlast s2, hv.front hj, e1, e2, e3⟩
    rw [(hv.kept l[j] (List.getElem_mem hj)).2.2, hk, en]
  | none =>
    have ec : getC i l = ([], false, l) := by unfold getC; rw [hf]
    rw [ec] at s2 ⊢
    have s2' := St.unlast s2
    have r2 := s2'.rules 0 rfl
    simp (disch := first | omega | exact okFill_t rfl | exact okSize_t rfl | exact fun h => h | (simp only [World.size_alloc, World.size_drew, World.size_setCell, size_fill, bytesW]; omega)) only [go_sem, c31, c31S0, c31S1, c31S2, c31S3, r2]
    refine Ret.mono (sread_ok i (St.mid s2') hv.ok) ?_
    rintro _ w3 ⟨rfl, s3⟩
    have hq := (nowP_eq hv.ok hv.dead hv.gone h0 hlt).1
    rw [hq] at s3 ⊢
    have s3' := St.unmid s3
    have r3 := s3'.rules 0 rfl
    have hnk := findK_none hf
    have hl64 : l.length < 64 := by
      have := nodup_few s.hd.pages (i :: l.map Prod.fst) (List.nodup_cons.2 ⟨fun hm => by
        obtain ⟨y, hy, he⟩ := List.mem_map.1 hm
        exact hnk y hy he, hv.nd⟩) fun x hx => by
        rcases List.mem_cons.1 hx with rfl | hx
        · exact ⟨h0, hlt⟩
        · obtain ⟨y, hy, rfl⟩ := List.mem_map.1 hx
          exact ⟨(hv.kept y hy).1, (hv.kept y hy).2.1⟩
      rw [List.length_cons, List.length_map] at this
      omega
    simp (disch := first | omega | exact okFill_t rfl | exact okSize_t rfl | exact fun h => h | (simp only [World.size_alloc, World.size_drew, World.size_setCell, size_fill, bytesW]; omega)) only [go_sem, c31, c31S0, c31S1, c31S2, c31S3, r3]
    refine Ret.mono (cput_ok (v := nowP s i) (St.last s3') hf hl64) ?_
    rintro u w4 ⟨rv', s4⟩
    simp (disch := first | omega | exact okFill_t rfl | exact okSize_t rfl | exact fun h => h | (simp only [World.size_alloc, World.size_drew, World.size_setCell, size_fill, bytesW]; omega)) only [go_sem, c31, c31S0, c31S1, c31S2, c31S3]
    refine ⟨by rw [en], rv', _, s, St.unlast s4, ⟨hv.ok, hv.dead, hv.gone, hv.few, ?_, ?_⟩, e1, e2, e3⟩
    · rw [List.map_cons, List.nodup_cons]
      refine ⟨fun hm => ?_, hv.nd⟩
      obtain ⟨y, hy, he⟩ := List.mem_map.1 hm
      exact hnk y hy he
    · intro x hx
      rcases List.mem_cons.1 hx with rfl | hx
      · exact ⟨h0, hlt, rfl⟩
      · exact hv.kept x hx
theorem pwrite_ok (i : Int) (d : List UInt8) (h : Pgr e P W0 w F L I) (h0 : 0 ≤ i) (h1 : i < P.length) :
    Ret Tryz.prog 29 [.pointer (some ⟨e.p, 0, none⟩), .int .i64 i, .string (ofL d)] w fun u w' => u = .int .i64 (if 256 < d.length then 21 else 0) ∧ Pgr e (if 256 < d.length then P else P.set i.toNat (filledL d)) W0 w' F L I := by
  obtain ⟨rv, l, s, hs, hv, e1, e2, e3⟩ := h
  obtain ⟨en, hlt⟩ := pgs_now e3 h0 h1
  have hll := hv.len
  have hfw := hv.few
  have r1 := hs.rules 0 rfl
  refine ent29 _ _ _ _ _ ?_
  simp (disch := first | omega | exact okFill_t rfl | exact okSize_t rfl | exact fun h => h | (simp only [World.size_alloc, World.size_drew, World.size_setCell, size_fill, bytesW]; omega)) only [go_sem, c29, c29S0, c29S1, r1]
  refine Ret.mono (cdrop_ok i (St.last hs) (by omega)) ?_
  rintro u w2 ⟨rv', s2⟩
  have hv2 : ∃ l', dropK i l = l' ∧ Live s l' ∧ ∀ x ∈ l', x.1 ≠ i := by
    refine ⟨_, rfl, ?_⟩
    unfold dropK
    cases hf : findK i l with
    | none => exact ⟨hv, findK_none hf⟩
    | some j =>
      obtain ⟨_, hj, hk⟩ := place_some hf
      refine ⟨hv.erase j, fun x hx he => ?_⟩
      have hn := ((get_erase_perm hj).map Prod.fst).nodup_iff.2 hv.nd
      rw [List.map_cons, List.nodup_cons] at hn
      exact hn.1 (by rw [hk, ← he]; exact List.mem_map_of_mem hx)
  obtain ⟨l', el, hv2, hne⟩ := hv2
  rw [el] at s2
  have s2' := St.unlast s2
  have r2 := s2'.rules 0 rfl
  simp (disch := first | omega | exact okFill_t rfl | exact okSize_t rfl | exact fun h => h | (simp only [World.size_alloc, World.size_drew, World.size_setCell, size_fill, bytesW]; omega)) only [go_sem, c29, c29S0, c29S1, r2]
  refine Ret.mono (swrite_ok i d (St.mid s2')) ?_
  rintro _ w3 ⟨rfl, s3⟩
  have s3' := St.unmid s3
  simp (disch := first | omega | exact okFill_t rfl | exact okSize_t rfl | exact fun h => h | (simp only [World.size_alloc, World.size_drew, World.size_setCell, size_fill, bytesW]; omega)) only [go_sem, c29, c29S0, c29S1]
  by_cases hd : 256 < d.length
  · have ew : stWrite s i d = (s, 21) := by
      unfold stWrite
      rw [if_neg (by rw [stReady_ok hv.dead h0 hlt]; decide), if_pos hd]
    rw [ew] at s3' ⊢
    rw [if_pos hd, if_pos hd]
    exact ⟨rfl, rv', l', s, s3', hv2, e1, e2, e3⟩
  · obtain ⟨w1, w2, w3, w4, w5, w6⟩ := stWrite_in hv.ok hv.dead hv.gone h0 hlt (d := d) (by omega)
    rw [w1, if_neg hd, if_neg hd]
    refine ⟨rfl, rv', l', _, s3', ⟨w2, w3, by rw [w4]; exact hv.gone, by rw [w5]; exact hv.few, hv2.nd, fun x hx => ?_⟩, w5.trans e1, w4.trans e2, ?_⟩
    · obtain ⟨k0, k1, k2⟩ := hv2.kept x hx
      refine ⟨k0, by rw [w5]; exact k1, ?_⟩
      rw [w6 _ k0 k1, if_neg (hne x hx)]
      exact k2
    · have hpl : P.length = s.hd.pages := by rw [← e3, pgs_len]
      refine pgs_eq (by rw [w5, List.length_set, hpl]) fun j hj => ?_
      rw [List.length_set] at hj
      rw [w6 j (by omega) (by omega)]
      have := (pgs_now e3 (i := (j : Int)) (by omega) (by omega)).1
      by_cases he : (j : Int) = i
      · rw [if_pos he]
        subst he
        rw [List.getD_eq_getElem?_getD, Int.toNat_natCast, List.getElem?_set_self hj]; rfl
      · rw [if_neg he, this, List.getD_eq_getElem?_getD, List.getD_eq_getElem?_getD, List.getElem?_set_ne (by omega), Int.toNat_natCast]
end
end Go.Proofs.YtmchjbgobiagiaaGreat

namespace Go.Proofs.YtmchjbgobiagiaaGreat
set_option linter.unusedSimpArgs false
set_option linter.unusedVariables false
set_option maxRecDepth 100000
open Go Go.Ann Go.RowKit Go.WideShapes
def usedP (P : List (List UInt8)) : List UInt8 := P.getD 0 []
def chkN (P : List (List UInt8)) (i : Int) : Int := if 2 ≤ i ∧ i < P.length ∧ hasL (usedP P) i = true then 0 else 6
def markP (P : List (List UInt8)) (i : Int) (b : Bool) : List (List UInt8) := P.set 0 (filledL (withL (usedP P) i b))
def emptyP (P : List (List UInt8)) (i : Int) : List (List UInt8) := P.set i.toNat (filledL [])
def cntN (U : List UInt8) (m : Nat) : Nat := ((List.range m).filter fun j : Nat => hasL U j).length
theorem cntN_succ (U : List UInt8) (m : Nat) : cntN U (m + 1) = cntN U m + if hasL U m = true then 1 else 0 := by
  unfold cntN
  rw [List.range_succ, List.filter_append, List.length_append]
  congr 1
  by_cases h : hasL U m = true
  · rw [if_pos h]; simp only [List.filter_cons, List.filter_nil, h]; rfl
  · rw [if_neg h]; simp only [List.filter_cons, List.filter_nil, h]; rfl
theorem cntN_le (U : List UInt8) (m : Nat) : cntN U m ≤ m := by
  unfold cntN
  exact Nat.le_trans (List.length_filter_le _ _) (by simp)
theorem cnt8 (U : List UInt8) : ∀ k, k ≤ U.length → cntN U (8 * k) = countL (U.take k)
  | 0, _ => by simp [cntN, countL]
  | k + 1, h => by
    rw [countL_take U k (by omega), ← cnt8 U k (by omega)]
    unfold cntN popN
    rw [show 8 * (k + 1) = 8 * k + 8 by omega, List.range_add, List.filter_append, List.length_append, List.filter_map, List.length_map]
    congr 2
    refine List.filter_congr fun r hr => ?_
    rw [List.mem_range] at hr
    have hl := hasL_in U ((8 * k + r : Nat) : Int) (by omega)
    rw [Function.comp_apply, hl]
    congr 1
    · congr 1; omega
    · omega
def roomN (P : List (List UInt8)) : Nat := P.length - cntN (usedP P) P.length
def lowP (P : List (List UInt8)) : Option Nat := (List.range P.length).find? fun i : Nat => decide (2 ≤ i) && !hasL (usedP P) i
theorem low_same {P : List (List UInt8)} {v : Int} {ok : Bool} (hu : (usedP P).length = 256) (hp : P.length ≤ 64) (h : IsLow (usedP P) 2 P.length v ok) :
    (lowP P = none ∧ ok = false) ∨ (∃ k : Nat, lowP P = some k ∧ v = k ∧ ok = true ∧ 2 ≤ k ∧ k < P.length) := by
  rcases h with ⟨rfl, h1, h2, h3, h4, h5, h6⟩ | ⟨rfl, rfl, h6⟩
  · refine .inr ⟨v.toNat, ?_, by omega, rfl, by omega, by omega⟩
    unfold lowP
    rw [List.find?_range_eq_some]
    refine ⟨?_, ?_, ?_⟩
    · rw [show ((v.toNat : Nat) : Int) = v by omega, h5]; simp; omega
    · rw [List.mem_range]; omega
    · intro j hj
      by_cases h2j : 2 ≤ j
      · rw [h6 j (by omega) (by omega) (by omega)]; simp
      · simp [h2j]
  · refine .inl ⟨?_, rfl⟩
    unfold lowP
    rw [List.find?_eq_none]
    intro j hj
    rw [List.mem_range] at hj
    by_cases h2j : 2 ≤ j
    · rw [h6 j (by omega) (by omega) (by omega) (by omega)]; simp
    · simp [h2j]
section
variable {W0 w : World} {F : Nat → Prop} {L : List Res} {I : List Inv} {e : En} {P : List (List UInt8)}
theorem Pgr.blk (h : Pgr e P W0 w F L I) : Blk w e.p #[.pointer (some ⟨e.b, 0, none⟩), .pointer (some ⟨e.c, 0, none⟩)] 28 := by
  obtain ⟨rv, l, s, hs, _⟩ := h
  exact hs.blk 0 rfl
theorem pslen_ok (h : Pgr e P W0 w F L I) :
    Ret Tryz.prog 23 [.pointer (some ⟨e.b, 0, none⟩)] w fun u w' => u = .int .i64 P.length ∧ w' = w := by
  obtain ⟨rv, l, s, hs, hv, e1, e2, e3⟩ := h
  refine Ret.mono (slen_ok (St.mid hs)) ?_
  rintro _ w2 ⟨rfl, e⟩
  exact ⟨by rw [← e3, pgs_len], e⟩
theorem made_ok (h : Pgr e P W0 w F L I) :
    Ret Tryz.prog 32 [.pointer (some ⟨e.p, 0, none⟩)] w fun u w' => u = .bool true ∧ w' = w := by
  have r1 := h.blk.rules
  refine ent32 _ _ _ ?_
  simp (disch := first | omega | exact okFill_t rfl | exact okSize_t rfl | exact fun h => h | (simp only [World.size_alloc, World.size_drew, World.size_setCell, size_fill, bytesW]; omega)) only [go_sem, c32, r1]
theorem used_ok (h : Pgr e P W0 w F L I) (h3 : 3 ≤ P.length) :
    Ret Tryz.prog 26 [.pointer (some ⟨e.p, 0, none⟩)] w fun u w' => u = .tuple #[.string (ofL (usedP P)), .int .i64 0] ∧ Pgr e P W0 w' F L I := by
  refine ent26 _ _ _ ?_
  simp (disch := first | omega | exact okFill_t rfl | exact okSize_t rfl | exact fun h => h | (simp only [World.size_alloc, World.size_drew, World.size_setCell, size_fill, bytesW]; omega)) only [go_sem, c26, c26S0, c26S1, c26S2]
  refine Ret.mono (made_ok h) ?_
  rintro _ w2 ⟨rfl, e2⟩
  subst w2
  simp (disch := first | omega | exact okFill_t rfl | exact okSize_t rfl | exact fun h => h | (simp only [World.size_alloc, World.size_drew, World.size_setCell, size_fill, bytesW]; omega)) only [go_sem, c26, c26S0, c26S1, c26S2]
  refine Ret.mono (pread_ok 0 h (by decide) (by omega)) ?_
  rintro _ w2 ⟨rfl, h2⟩
  simp (disch := first | omega | exact okFill_t rfl | exact okSize_t rfl | exact fun h => h | (simp only [World.size_alloc, World.size_drew, World.size_setCell, size_fill, bytesW]; omega)) only [go_sem, c26, c26S0, c26S1, c26S2]
  first | exact h2 | exact ⟨rfl, h2⟩
theorem Pgr.used256 (h : Pgr e P W0 w F L I) (h3 : 3 ≤ P.length) : (usedP P).length = 256 := by
  refine h.full _ ?_
  unfold usedP
  rw [List.getD_eq_getElem?_getD, List.getElem?_eq_getElem (by omega)]
  exact List.getElem_mem _
theorem check_ok (i : Int) (h : Pgr e P W0 w F L I) (h3 : 3 ≤ P.length) (hi : I64 i) :
    Ret Tryz.prog 30 [.pointer (some ⟨e.p, 0, none⟩), .int .i64 i] w fun u w' => u = .int .i64 (chkN P i) ∧ Pgr e P W0 w' F L I := by
  refine ent30 _ _ _ _ ?_
  simp (disch := first | omega | exact okFill_t rfl | exact okSize_t rfl | exact fun h => h | (simp only [World.size_alloc, World.size_drew, World.size_setCell, size_fill, bytesW]; omega)) only [go_sem, c30, c30S0, c30S1, c30S2]
  refine Ret.mono (used_ok h h3) ?_
  rintro _ w2 ⟨rfl, h2⟩
  simp (disch := first | omega | exact okFill_t rfl | exact okSize_t rfl | exact fun h => h | (simp only [World.size_alloc, World.size_drew, World.size_setCell, size_fill, bytesW]; omega)) only [go_sem, c30, c30S0, c30S1, c30S2]
  by_cases c1 : 2 ≤ i
  case neg =>
    have c1' : i < 2 := by omega
    have e : chkN P i = 6 := by unfold chkN; rw [if_neg (fun hc => c1 hc.1)]
    rw [e]
    simp (disch := first | omega | exact okFill_t rfl | exact okSize_t rfl | exact fun h => h | (simp only [World.size_alloc, World.size_drew, World.size_setCell, size_fill, bytesW]; omega)) only [go_sem, c30, c30S0, c30S1, c30S2, c1, c1']
    exact h2
  have c1' : ¬ i < 2 := by omega
  have r2 := h2.blk.rules
  simp (disch := first | omega | exact okFill_t rfl | exact okSize_t rfl | exact fun h => h | (simp only [World.size_alloc, World.size_drew, World.size_setCell, size_fill, bytesW]; omega)) only [go_sem, c30, c30S0, c30S1, c30S2, c1, c1', r2]
  refine Ret.mono (pslen_ok h2) ?_
  rintro _ w3 ⟨rfl, e3⟩
  subst w3
  by_cases c2 : i < P.length
  case neg =>
    have c2' : (P.length : Int) ≤ i := by omega
    have e : chkN P i = 6 := by unfold chkN; rw [if_neg (fun hc => c2 hc.2.1)]
    rw [e]
    simp (disch := first | omega | exact okFill_t rfl | exact okSize_t rfl | exact fun h => h | (simp only [World.size_alloc, World.size_drew, World.size_setCell, size_fill, bytesW]; omega)) only [go_sem, c30, c30S0, c30S1, c30S2, c2, c2']
    exact h2
  have c2' : ¬ (P.length : Int) ≤ i := by omega
  simp (disch := first | omega | exact okFill_t rfl | exact okSize_t rfl | exact fun h => h | (simp only [World.size_alloc, World.size_drew, World.size_setCell, size_fill, bytesW]; omega)) only [go_sem, c30, c30S0, c30S1, c30S2, c2, c2']
  refine Ret.mono (has_ok _ i _ hi) ?_
  rintro _ w4 ⟨rfl, e4⟩
  subst w4
  cases hh : hasL (usedP P) i with
  | true =>
    have e : chkN P i = 0 := by unfold chkN; rw [if_pos ⟨c1, c2, hh⟩]
    rw [e]
    simp (disch := first | omega | exact okFill_t rfl | exact okSize_t rfl | exact fun h => h | (simp only [World.size_alloc, World.size_drew, World.size_setCell, size_fill, bytesW]; omega)) only [go_sem, c30, c30S0, c30S1, c30S2]
    exact h2
  | false =>
    have e : chkN P i = 6 := by unfold chkN; rw [if_neg (fun hc => by rw [hh] at hc; cases hc.2.2)]
    rw [e]
    simp (disch := first | omega | exact okFill_t rfl | exact okSize_t rfl | exact fun h => h | (simp only [World.size_alloc, World.size_drew, World.size_setCell, size_fill, bytesW]; omega)) only [go_sem, c30, c30S0, c30S1, c30S2]
    exact h2
def allocN (P : List (List UInt8)) : List (List UInt8) × Int × Int := match lowP P with
  | some k => (emptyP (markP P k true) k, k, 0)
  | none => (P, 0, 13)
theorem filled256 {l : List UInt8} (h : l.length = 256) : filledL l = l := by unfold filledL; rw [h]; simp
theorem palloc_ok (h : Pgr e P W0 w F L I) (h3 : 3 ≤ P.length) :
    Ret Tryz.prog 5 [.pointer (some ⟨e.p, 0, none⟩)] w fun u w' => u = .tuple #[.int .i64 (allocN P).2.1, .int .i64 (allocN P).2.2] ∧ Pgr e (allocN P).1 W0 w' F L I := by
  have h64 := h.len.2
  have hu := h.used256 h3
  refine ent5 _ _ _ ?_
  simp (disch := first | omega | exact okFill_t rfl | exact okSize_t rfl | exact fun h => h | (simp only [World.size_alloc, World.size_drew, World.size_setCell, size_fill, bytesW]; omega)) only [go_sem, c5, c5S0, c5S1, c5S2, c5S3, c5S4, c5S5, c5S6, c5S7]
  refine Ret.mono (used_ok h h3) ?_
  rintro _ w2 ⟨rfl, h2⟩
  have r2 := h2.blk.rules
  simp (disch := first | omega | exact okFill_t rfl | exact okSize_t rfl | exact fun h => h | (simp only [World.size_alloc, World.size_drew, World.size_setCell, size_fill, bytesW]; omega)) only [go_sem, c5, c5S0, c5S1, c5S2, c5S3, c5S4, c5S5, c5S6, c5S7, r2]
  refine Ret.mono (pslen_ok h2) ?_
  rintro _ w3 ⟨rfl, e3⟩
  subst w3
  simp (disch := first | omega | exact okFill_t rfl | exact okSize_t rfl | exact fun h => h | (simp only [World.size_alloc, World.size_drew, World.size_setCell, size_fill, bytesW]; omega)) only [go_sem, c5, c5S0, c5S1, c5S2, c5S3, c5S4, c5S5, c5S6, c5S7]
  refine Ret.mono (lowest_ok (usedP P) 2 P.length w2 ⟨by omega, by omega⟩ ⟨by omega, by omega⟩ (by rw [hu]; decide)) ?_
  rintro _ w4 ⟨v, ok, rfl, hlow, e4⟩
  subst w4
  unfold allocN
  rcases low_same hu h64 hlow with ⟨hn, rfl⟩ | ⟨k, hk, rfl, rfl, h2k, hlk⟩
  · rw [hn]
    simp (disch := first | omega | exact okFill_t rfl | exact okSize_t rfl | exact fun h => h | (simp only [World.size_alloc, World.size_drew, World.size_setCell, size_fill, bytesW]; omega)) only [go_sem, c5, c5S0, c5S1, c5S2, c5S3, c5S4, c5S5, c5S6, c5S7]
    first | exact h2 | exact ⟨rfl, h2⟩
  · rw [hk]
    simp (disch := first | omega | exact okFill_t rfl | exact okSize_t rfl | exact fun h => h | (simp only [World.size_alloc, World.size_drew, World.size_setCell, size_fill, bytesW]; omega)) only [go_sem, c5, c5S0, c5S1, c5S2, c5S3, c5S4, c5S5, c5S6, c5S7]
    refine Ret.mono (with_ok (usedP P) k true w2 ⟨by omega, by omega⟩) ?_
    rintro _ w5 ⟨rfl, b5⟩
    have h5 := h2.below b5
    simp (disch := first | omega | exact okFill_t rfl | exact okSize_t rfl | exact fun h => h | (simp only [World.size_alloc, World.size_drew, World.size_setCell, size_fill, bytesW]; omega)) only [go_sem, c5, c5S0, c5S1, c5S2, c5S3, c5S4, c5S5, c5S6, c5S7]
    refine Ret.mono (pwrite_ok 0 _ h5 (by decide) (by omega)) ?_
    rintro _ w6 ⟨rfl, h6⟩
    rw [if_neg (by rw [withL_length, hu]; decide)] at h6 ⊢
    simp (disch := first | omega | exact okFill_t rfl | exact okSize_t rfl | exact fun h => h | (simp only [World.size_alloc, World.size_drew, World.size_setCell, size_fill, bytesW]; omega)) only [go_sem, c5, c5S0, c5S1, c5S2, c5S3, c5S4, c5S5, c5S6, c5S7]
    refine Ret.mono (pwrite_ok k [] h6 (by omega) (by rw [List.length_set]; omega)) ?_
    rintro _ w7 ⟨rfl, h7⟩
    simp (disch := first | omega | exact okFill_t rfl | exact okSize_t rfl | exact fun h => h | (simp only [World.size_alloc, World.size_drew, World.size_setCell, size_fill, bytesW]; omega)) only [go_sem, c5, c5S0, c5S1, c5S2, c5S3, c5S4, c5S5, c5S6, c5S7]
    first | exact h7 | exact ⟨rfl, h7⟩
def freeN (P : List (List UInt8)) (i : Int) : List (List UInt8) × Int := if chkN P i ≠ 0 then (P, chkN P i) else (markP P i false, 0)
theorem pfree_ok (i : Int) (h : Pgr e P W0 w F L I) (h3 : 3 ≤ P.length) (hi : I64 i) :
    Ret Tryz.prog 9 [.pointer (some ⟨e.p, 0, none⟩), .int .i64 i] w fun u w' => u = .int .i64 (freeN P i).2 ∧ Pgr e (freeN P i).1 W0 w' F L I := by
  have hu := h.used256 h3
  refine ent9 _ _ _ _ ?_
  simp (disch := first | omega | exact okFill_t rfl | exact okSize_t rfl | exact fun h => h | (simp only [World.size_alloc, World.size_drew, World.size_setCell, size_fill, bytesW]; omega)) only [go_sem, c9, c9S0, c9S1, c9S2, c9S3, c9S4]
  refine Ret.mono (check_ok i h h3 hi) ?_
  rintro _ w2 ⟨rfl, h2⟩
  unfold freeN
  by_cases hc : chkN P i = 0
  case neg =>
    rw [if_pos hc]
    simp (disch := first | omega | exact okFill_t rfl | exact okSize_t rfl | exact fun h => h | (simp only [World.size_alloc, World.size_drew, World.size_setCell, size_fill, bytesW]; omega)) only [go_sem, c9, c9S0, c9S1, c9S2, c9S3, c9S4, hc]
    first | exact h2 | exact ⟨rfl, h2⟩
  rw [if_neg (by omega)]
  simp (disch := first | omega | exact okFill_t rfl | exact okSize_t rfl | exact fun h => h | (simp only [World.size_alloc, World.size_drew, World.size_setCell, size_fill, bytesW]; omega)) only [go_sem, c9, c9S0, c9S1, c9S2, c9S3, c9S4, hc]
  refine Ret.mono (used_ok h2 h3) ?_
  rintro _ w3 ⟨rfl, h3'⟩
  simp (disch := first | omega | exact okFill_t rfl | exact okSize_t rfl | exact fun h => h | (simp only [World.size_alloc, World.size_drew, World.size_setCell, size_fill, bytesW]; omega)) only [go_sem, c9, c9S0, c9S1, c9S2, c9S3, c9S4]
  refine Ret.mono (with_ok (usedP P) i false w3 hi) ?_
  rintro _ w5 ⟨rfl, b5⟩
  have h5 := h3'.below b5
  simp (disch := first | omega | exact okFill_t rfl | exact okSize_t rfl | exact fun h => h | (simp only [World.size_alloc, World.size_drew, World.size_setCell, size_fill, bytesW]; omega)) only [go_sem, c9, c9S0, c9S1, c9S2, c9S3, c9S4]
  refine Ret.mono (pwrite_ok 0 _ h5 (by decide) (by omega)) ?_
  rintro _ w6 ⟨rfl, h6⟩
  rw [if_neg (by rw [withL_length, hu]; decide)] at h6 ⊢
  simp (disch := first | omega | exact okFill_t rfl | exact okSize_t rfl | exact fun h => h | (simp only [World.size_alloc, World.size_drew, World.size_setCell, size_fill, bytesW]; omega)) only [go_sem, c9, c9S0, c9S1, c9S2, c9S3, c9S4]
  first | exact h6 | exact ⟨rfl, h6⟩
def getN (P : List (List UInt8)) (i : Int) : List UInt8 × Int := if chkN P i ≠ 0 then ([], chkN P i) else (P.getD i.toNat [], 0)
theorem chk_in {P : List (List UInt8)} {i : Int} (h : chkN P i = 0) : 2 ≤ i ∧ i < P.length := by
  unfold chkN at h
  split at h
  · rename_i hh; exact ⟨hh.1, hh.2.1⟩
  · cases h
theorem pget_ok (i : Int) (h : Pgr e P W0 w F L I) (h3 : 3 ≤ P.length) (hi : I64 i) :
    Ret Tryz.prog 6 [.pointer (some ⟨e.p, 0, none⟩), .int .i64 i] w fun u w' => u = .tuple #[.string (ofL (getN P i).1), .int .i64 (getN P i).2] ∧ Pgr e P W0 w' F L I := by
  refine ent6 _ _ _ _ ?_
  simp (disch := first | omega | exact okFill_t rfl | exact okSize_t rfl | exact fun h => h | (simp only [World.size_alloc, World.size_drew, World.size_setCell, size_fill, bytesW]; omega)) only [go_sem, c6, c6S0, c6S1, c6S2]
  refine Ret.mono (check_ok i h h3 hi) ?_
  rintro _ w2 ⟨rfl, h2⟩
  unfold getN
  by_cases hc : chkN P i = 0
  case neg =>
    rw [if_pos hc]
    simp (disch := first | omega | exact okFill_t rfl | exact okSize_t rfl | exact fun h => h | (simp only [World.size_alloc, World.size_drew, World.size_setCell, size_fill, bytesW]; omega)) only [go_sem, c6, c6S0, c6S1, c6S2, hc]
    first | exact h2 | exact ⟨rfl, h2⟩
  obtain ⟨c1, c2⟩ := chk_in hc
  rw [if_neg (by omega)]
  simp (disch := first | omega | exact okFill_t rfl | exact okSize_t rfl | exact fun h => h | (simp only [World.size_alloc, World.size_drew, World.size_setCell, size_fill, bytesW]; omega)) only [go_sem, c6, c6S0, c6S1, c6S2, hc]
  refine Ret.mono (pread_ok i h2 (by omega) c2) ?_
  rintro _ w3 ⟨rfl, h3'⟩
  simp (disch := first | omega | exact okFill_t rfl | exact okSize_t rfl | exact fun h => h | (simp only [World.size_alloc, World.size_drew, World.size_setCell, size_fill, bytesW]; omega)) only [go_sem, c6, c6S0, c6S1, c6S2]
  first | exact h3' | exact ⟨rfl, h3'⟩
def setPN (P : List (List UInt8)) (i : Int) (d : List UInt8) : List (List UInt8) × Int := if chkN P i ≠ 0 then (P, chkN P i) else if 256 < d.length then (P, 21) else (P.set i.toNat (filledL d), 0)
theorem pset_ok (i : Int) (d : List UInt8) (h : Pgr e P W0 w F L I) (h3 : 3 ≤ P.length) (hi : I64 i) :
    Ret Tryz.prog 10 [.pointer (some ⟨e.p, 0, none⟩), .int .i64 i, .string (ofL d)] w fun u w' => u = .int .i64 (setPN P i d).2 ∧ Pgr e (setPN P i d).1 W0 w' F L I := by
  refine ent10 _ _ _ _ _ ?_
  simp (disch := first | omega | exact okFill_t rfl | exact okSize_t rfl | exact fun h => h | (simp only [World.size_alloc, World.size_drew, World.size_setCell, size_fill, bytesW]; omega)) only [go_sem, c10, c10S0, c10S1, c10S2]
  refine Ret.mono (check_ok i h h3 hi) ?_
  rintro _ w2 ⟨rfl, h2⟩
  unfold setPN
  by_cases hc : chkN P i = 0
  case neg =>
    rw [if_pos hc]
    simp (disch := first | omega | exact okFill_t rfl | exact okSize_t rfl | exact fun h => h | (simp only [World.size_alloc, World.size_drew, World.size_setCell, size_fill, bytesW]; omega)) only [go_sem, c10, c10S0, c10S1, c10S2, hc]
    first | exact h2 | exact ⟨rfl, h2⟩
  obtain ⟨c1, c2⟩ := chk_in hc
  rw [if_neg (by omega)]
  simp (disch := first | omega | exact okFill_t rfl | exact okSize_t rfl | exact fun h => h | (simp only [World.size_alloc, World.size_drew, World.size_setCell, size_fill, bytesW]; omega)) only [go_sem, c10, c10S0, c10S1, c10S2, hc]
  refine Ret.mono (pwrite_ok i d h2 (by omega) c2) ?_
  rintro _ w3 ⟨rfl, h3'⟩
  simp (disch := first | omega | exact okFill_t rfl | exact okSize_t rfl | exact fun h => h | (simp only [World.size_alloc, World.size_drew, World.size_setCell, size_fill, bytesW]; omega)) only [go_sem, c10, c10S0, c10S1, c10S2]
  by_cases hd : 256 < d.length
  · rw [if_pos hd] at h3'
    rw [if_pos hd, if_pos hd]
    first | exact h3' | exact ⟨rfl, h3'⟩
  · rw [if_neg hd] at h3'
    rw [if_neg hd, if_neg hd]
    first | exact h3' | exact ⟨rfl, h3'⟩
def rootB (P : List (List UInt8)) : List UInt8 := P.getD 1 []
def rootN (P : List (List UInt8)) (i : Int) : Int × Int := if 0 ≤ i ∧ i < 16 then (unfixL (cutL (rootB P) (4 * i) (4 * i + 4)), 0) else (0, 1)
theorem Pgr.root256 (h : Pgr e P W0 w F L I) (h3 : 3 ≤ P.length) : (rootB P).length = 256 := by
  refine h.full _ ?_
  unfold rootB
  rw [List.getD_eq_getElem?_getD, List.getElem?_eq_getElem (by omega)]
  exact List.getElem_mem _
theorem proot_ok (i : Int) (h : Pgr e P W0 w F L I) (h3 : 3 ≤ P.length) (hi : I64 i) :
    Ret Tryz.prog 7 [.pointer (some ⟨e.p, 0, none⟩), .int .i64 i] w fun u w' => u = .tuple #[.int .i64 (rootN P i).1, .int .i64 (rootN P i).2] ∧ Pgr e P W0 w' F L I := by
  have hr := h.root256 h3
  refine ent7 _ _ _ _ ?_
  simp (disch := first | omega | exact okFill_t rfl | exact okSize_t rfl | exact fun h => h | (simp only [World.size_alloc, World.size_drew, World.size_setCell, size_fill, bytesW]; omega)) only [go_sem, c7, c7S0, c7S1, c7S2, c7S3, c7S4, c7S5]
  refine Ret.mono (made_ok h) ?_
  rintro _ w2 ⟨rfl, e2⟩
  subst w2
  unfold rootN
  by_cases c : 0 ≤ i ∧ i < 16
  case neg =>
    rw [if_neg c]
    by_cases c1 : i < 0
    · simp (disch := first | omega | exact okFill_t rfl | exact okSize_t rfl | exact fun h => h | (simp only [World.size_alloc, World.size_drew, World.size_setCell, size_fill, bytesW]; omega)) only [go_sem, c7, c7S0, c7S1, c7S2, c7S3, c7S4, c7S5, c1]
      first | exact h | exact ⟨rfl, h⟩
    · have c2 : (16 : Int) ≤ i := by omega
      simp (disch := first | omega | exact okFill_t rfl | exact okSize_t rfl | exact fun h => h | (simp only [World.size_alloc, World.size_drew, World.size_setCell, size_fill, bytesW]; omega)) only [go_sem, c7, c7S0, c7S1, c7S2, c7S3, c7S4, c7S5, c1, c2]
      first | exact h | exact ⟨rfl, h⟩
  rw [if_pos c]
  have c1 : ¬ i < 0 := by omega
  have c2 : ¬ (16 : Int) ≤ i := by omega
  simp (disch := first | omega | exact okFill_t rfl | exact okSize_t rfl | exact fun h => h | (simp only [World.size_alloc, World.size_drew, World.size_setCell, size_fill, bytesW]; omega)) only [go_sem, c7, c7S0, c7S1, c7S2, c7S3, c7S4, c7S5, c1, c2]
  refine Ret.mono (pread_ok 1 h (by decide) (by omega)) ?_
  rintro _ w2 ⟨rfl, h2⟩
  have e1 : P.getD (1 : Int).toNat [] = rootB P := rfl
  rw [e1]
  simp (disch := first | omega | exact okFill_t rfl | exact okSize_t rfl | exact fun h => h | (simp only [World.size_alloc, World.size_drew, World.size_setCell, size_fill, bytesW]; omega)) only [go_sem, c7, c7S0, c7S1, c7S2, c7S3, c7S4, c7S5]
  have hc : (cutL (rootB P) (4 * i) (4 * i + 4)).length = 4 := by
    unfold cutL; rw [List.length_drop, List.length_take, hr]; omega
  refine ⟨⟨by omega, by omega⟩, ⟨by omega, by omega⟩, ⟨by omega, by omega⟩, ⟨by omega, by omega, by omega⟩, Ret.mono (unfixed_ok _ w2 (by rw [hc]; omega)) ?_⟩
  rintro _ w3 ⟨rfl, e3⟩
  subst w3
  have hlt := unfixL_lt (cutL (rootB P) (4 * i) (4 * i + 4))
  rw [hc] at hlt
  have hlt : unfixL (cutL (rootB P) (4 * i) (4 * i + 4)) < 4294967296 := hlt
  simp (disch := first | omega | exact okFill_t rfl | exact okSize_t rfl | exact fun h => h | (simp only [World.size_alloc, World.size_drew, World.size_setCell, size_fill, bytesW]; omega)) only [go_sem, c7, c7S0, c7S1, c7S2, c7S3, c7S4, c7S5]
  refine ⟨by constructor <;> omega, ?_⟩
  exact h2
def setRootN (P : List (List UInt8)) (i at' : Int) : List (List UInt8) × Int :=
  if (rootN P i).2 ≠ 0 then (P, (rootN P i).2) else if at' ≠ 0 ∧ chkN P at' ≠ 0 then (P, chkN P at') else
  (P.set 1 (filledL ((rootB P).take (4 * i).toNat ++ fixL at'.toNat 4 ++ (rootB P).drop (4 * i + 4).toNat)), 0)
theorem psetRoot_ok (i j : Int) (h : Pgr e P W0 w F L I) (h3 : 3 ≤ P.length) (hi : I64 i) (hj : I64 j) :
    Ret Tryz.prog 11 [.pointer (some ⟨e.p, 0, none⟩), .int .i64 i, .int .i64 j] w fun u w' => u = .int .i64 (setRootN P i j).2 ∧ Pgr e (setRootN P i j).1 W0 w' F L I := by
  have hr := h.root256 h3
  refine ent11 _ _ _ _ _ ?_
  simp (disch := first | omega | exact okFill_t rfl | exact okSize_t rfl | exact fun h => h | (simp only [World.size_alloc, World.size_drew, World.size_setCell, size_fill, bytesW]; omega)) only [go_sem, c11, c11S0, c11S1, c11S2, c11S3, c11S4, c11S5, c11S6]
  refine Ret.mono (proot_ok i h h3 hi) ?_
  rintro _ w2 ⟨rfl, h2⟩
  unfold setRootN
  by_cases hc : (rootN P i).2 = 0
  case neg =>
    rw [if_pos hc]
    simp (disch := first | omega | exact okFill_t rfl | exact okSize_t rfl | exact fun h => h | (simp only [World.size_alloc, World.size_drew, World.size_setCell, size_fill, bytesW]; omega)) only [go_sem, c11, c11S0, c11S1, c11S2, c11S3, c11S4, c11S5, c11S6, hc]
    first | exact h2 | exact ⟨rfl, h2⟩
  have hin : 0 ≤ i ∧ i < 16 := by
    unfold rootN at hc
    split at hc
    · assumption
    · cases hc
  rw [if_neg (by omega)]
  have fin : ∀ w', Pgr e P W0 w' F L I → W Tryz.prog (c11S5 ()) [(0, .pointer (some ⟨e.p, 0, none⟩)), (1, .int .i64 i), (2, .int .i64 j)] w' (finQ Tryz.prog [.tmp 6] fun u w'' => u = .int .i64 0 ∧ Pgr e (P.set 1 (filledL ((rootB P).take (4 * i).toNat ++ fixL (IntKind.u64.wrap j).toNat 4 ++ (rootB P).drop (4 * i + 4).toNat))) W0 w'' F L I) := by
    intro w' h'
    simp (disch := first | omega | exact okFill_t rfl | exact okSize_t rfl | exact fun h => h | (simp only [World.size_alloc, World.size_drew, World.size_setCell, size_fill, bytesW]; omega)) only [go_sem, c11, c11S0, c11S1, c11S2, c11S3, c11S4, c11S5, c11S6]
    refine Ret.mono (pread_ok 1 h' (by decide) (by omega)) ?_
    rintro _ w4 ⟨rfl, h4⟩
    have e1 : P.getD (1 : Int).toNat [] = rootB P := rfl
    rw [e1]
    simp (disch := first | omega | exact okFill_t rfl | exact okSize_t rfl | exact fun h => h | (simp only [World.size_alloc, World.size_drew, World.size_setCell, size_fill, bytesW]; omega)) only [go_sem, c11, c11S0, c11S1, c11S2, c11S3, c11S4, c11S5, c11S6]
    refine c11draw0 ?_
    have h5 := h4.drew
    generalize w4.drew = w5 at h5 ⊢
    have hwj : 0 ≤ IntKind.u64.wrap j ∧ IntKind.u64.wrap j < 18446744073709551616 := by rw [wrap_u64_mod]; omega
    obtain ⟨n, hn⟩ := Int.eq_ofNat_of_zero_le hwj.1
    rw [hn] at hwj ⊢
    simp (disch := first | omega | exact okFill_t rfl | exact okSize_t rfl | exact fun h => h | (simp only [World.size_alloc, World.size_drew, World.size_setCell, size_fill, bytesW]; omega)) only [go_sem, c11, c11S0, c11S1, c11S2, c11S3, c11S4, c11S5, c11S6, c11D0, hn]
    refine ⟨⟨by omega, by omega⟩, ⟨by omega, by omega⟩, ⟨by omega, by omega⟩, ⟨by omega, by omega⟩, ⟨by omega, by omega⟩, Ret.mono (fixed_ok n 4 w5 (by omega) (by omega)) ?_⟩
    rintro _ w6 ⟨rfl, b6⟩
    have h6 := h5.below b6
    simp (disch := first | omega | exact okFill_t rfl | exact okSize_t rfl | exact fun h => h | (simp only [World.size_alloc, World.size_drew, World.size_setCell, size_fill, bytesW]; omega)) only [go_sem, c11, c11S0, c11S1, c11S2, c11S3, c11S4, c11S5, c11S6]
    have lf : (fixL n 4).length = 4 := fixL_len n 4
    refine ⟨?_, ?_, Ret.mono (pwrite_ok 1 _ h6 (by decide) (by omega)) ?_⟩
    · rw [lf, List.length_take]; omega
    · rw [List.length_append, lf, List.length_take, List.length_drop]; omega
    rintro _ w7 ⟨rfl, h7⟩
    rw [if_neg (by rw [List.length_append, List.length_append, lf, List.length_take, List.length_drop]; omega)] at h7 ⊢
    simp (disch := first | omega | exact okFill_t rfl | exact okSize_t rfl | exact fun h => h | (simp only [World.size_alloc, World.size_drew, World.size_setCell, size_fill, bytesW]; omega)) only [go_sem, c11, c11S0, c11S1, c11S2, c11S3, c11S4, c11S5, c11S6]
    first | exact h7 | exact ⟨rfl, h7⟩
  by_cases h0 : j = 0
  · subst h0
    rw [if_neg (by simp)]
    simp (disch := first | omega | exact okFill_t rfl | exact okSize_t rfl | exact fun h => h | (simp only [World.size_alloc, World.size_drew, World.size_setCell, size_fill, bytesW]; omega)) only [go_sem, c11, c11S0, c11S1, c11S2, c11S3, c11S4, c11S6, hc]
    exact fin w2 h2
  · simp (disch := first | omega | exact okFill_t rfl | exact okSize_t rfl | exact fun h => h | (simp only [World.size_alloc, World.size_drew, World.size_setCell, size_fill, bytesW]; omega)) only [go_sem, c11, c11S0, c11S1, c11S2, c11S3, c11S4, c11S6, hc, h0]
    refine Ret.mono (check_ok j h2 h3 hj) ?_
    rintro _ w3 ⟨rfl, h3'⟩
    by_cases hk : chkN P j = 0
    · have hin2 := chk_in hk
      rw [if_neg (fun hh => hh hk)]
      simp (disch := first | omega | exact okFill_t rfl | exact okSize_t rfl | exact fun h => h | (simp only [World.size_alloc, World.size_drew, World.size_setCell, size_fill, bytesW]; omega)) only [go_sem, c11, c11S0, c11S1, c11S2, c11S3, c11S4, c11S6, hk]
      have := fin w3 h3'
      rw [wrap_u64_id j (by omega) (by have := h.len; omega)] at this
      exact this
    · rw [if_pos hk]
      simp (disch := first | omega | exact okFill_t rfl | exact okSize_t rfl | exact fun h => h | (simp only [World.size_alloc, World.size_drew, World.size_setCell, size_fill, bytesW]; omega)) only [go_sem, c11, c11S0, c11S1, c11S2, c11S3, c11S4, c11S6, hk]
      first | exact h3' | exact ⟨rfl, h3'⟩
theorem proom_ok (h : Pgr e P W0 w F L I) (h3 : 3 ≤ P.length) :
    Ret Tryz.prog 12 [.pointer (some ⟨e.p, 0, none⟩)] w fun u w' => u = .int .i64 (roomN P) ∧ Pgr e P W0 w' F L I := by
  have hu := h.used256 h3
  have h64 := h.len.2
  refine ent12 _ _ _ ?_
  simp (disch := first | omega | exact okFill_t rfl | exact okSize_t rfl | exact fun h => h | (simp only [World.size_alloc, World.size_drew, World.size_setCell, size_fill, bytesW]; omega)) only [go_sem, c12, c12S0, c12S1, c12S2, c12S3, c12S4, c12S5, c12S6, c12S7]
  refine Ret.mono (used_ok h h3) ?_
  rintro _ w2 ⟨rfl, h2⟩
  have r2 := h2.blk.rules
  simp (disch := first | omega | exact okFill_t rfl | exact okSize_t rfl | exact fun h => h | (simp only [World.size_alloc, World.size_drew, World.size_setCell, size_fill, bytesW]; omega)) only [go_sem, c12, c12S0, c12S1, c12S2, c12S3, c12S4, c12S5, c12S6, c12S7, r2]
  refine Ret.mono (pslen_ok h2) ?_
  rintro _ w3 ⟨rfl, e3⟩
  subst w3
  simp (disch := first | omega | exact okFill_t rfl | exact okSize_t rfl | exact fun h => h | (simp only [World.size_alloc, World.size_drew, World.size_setCell, size_fill, bytesW]; omega)) only [go_sem, c12, c12S0, c12S1, c12S2, c12S3, c12S4, c12S5, c12S6, c12S7]
  obtain ⟨k, hk⟩ : ∃ k : Nat, k = P.length / 8 := ⟨_, rfl⟩
  have ek : (P.length : Int).tdiv 8 = k := by rw [Int.tdiv_eq_ediv_of_nonneg (by omega)]; omega
  rw [ek]
  have et : ((usedP P).take (k : Int).toNat) = (usedP P).take k := by rw [Int.toNat_natCast]
  have c8 := cnt8 (usedP P) k (by omega)
  have cl := cntN_le (usedP P) (8 * k)
  rw [Int.toNat_natCast]
  refine ⟨by constructor <;> omega, by omega, Ret.mono (count_ok _ w2 (by rw [List.length_take, hu]; omega)) ?_⟩
  rintro _ w4 ⟨rfl, e4⟩
  subst w4
  rw [← c8]
  simp (disch := first | omega | exact okFill_t rfl | exact okSize_t rfl | exact fun h => h | (simp only [World.size_alloc, World.size_drew, World.size_setCell, size_fill, bytesW]; omega)) only [go_sem, c12, c12S0, c12S1, c12S2, c12S3, c12S4, c12S5, c12S6, c12S7, ek]
  refine ⟨by constructor <;> omega, by constructor <;> omega, by constructor <;> omega, ?_⟩
  refine W_loopU (fun m : Nat => [(6, .int .i64 (P.length - cntN (usedP P) m : Int)), (7, .int .i64 m)]) (fun m w' => 8 * k ≤ m ∧ m ≤ P.length ∧ w' = w2) (fun m => P.length - m) (8 * k) (by rw [show ((8 * k : Nat) : Int) = (k : Int) * 8 by omega]; rfl) ⟨Nat.le_refl _, by omega, rfl⟩ ?_
  rintro m w5 ⟨hm0, hm, e5⟩
  subst w5
  have cm := cntN_le (usedP P) m
  have cs := cntN_succ (usedP P) m
  by_cases hlt : m < P.length
  · have hlt' : (m : Int) < P.length := by omega
    simp (disch := first | omega | exact okFill_t rfl | exact okSize_t rfl | exact fun h => h | (simp only [World.size_alloc, World.size_drew, World.size_setCell, size_fill, bytesW]; omega)) only [go_sem, c12, c12S0, c12S1, c12S2, c12L0, c12S3, c12S4, c12S5, c12S6, c12S7, c12L0, hlt']
    refine Ret.mono (has_ok _ m w2 ⟨by omega, by omega⟩) ?_
    rintro _ w6 ⟨rfl, e6⟩
    subst w6
    cases hh : hasL (usedP P) m with
    | true =>
      rw [if_pos hh] at cs
      simp (disch := first | omega | exact okFill_t rfl | exact okSize_t rfl | exact fun h => h | (simp only [World.size_alloc, World.size_drew, World.size_setCell, size_fill, bytesW]; omega)) only [go_sem, c12, c12S0, c12S1, c12S2, c12L0, c12S3, c12S4, c12S5, c12S6, c12S7]
      exact ⟨by constructor <;> omega, by constructor <;> omega, m + 1, by simp; omega, ⟨by omega, by omega⟩, by omega⟩
    | false =>
      rw [if_neg (by rw [hh]; decide)] at cs
      simp (disch := first | omega | exact okFill_t rfl | exact okSize_t rfl | exact fun h => h | (simp only [World.size_alloc, World.size_drew, World.size_setCell, size_fill, bytesW]; omega)) only [go_sem, c12, c12S0, c12S1, c12S2, c12L0, c12S3, c12S4, c12S5, c12S6, c12S7]
      exact ⟨by constructor <;> omega, m + 1, by simp; omega, ⟨by omega, by omega⟩, by omega⟩
  · have hlt' : ¬ (m : Int) < P.length := by omega
    obtain rfl : m = P.length := by omega
    simp (disch := first | omega | exact okFill_t rfl | exact okSize_t rfl | exact fun h => h | (simp only [World.size_alloc, World.size_drew, World.size_setCell, size_fill, bytesW]; omega)) only [go_sem, c12, c12S0, c12S1, c12S2, c12L0, c12S3, c12S4, c12S5, c12S6, c12S7, c12L0, hlt']
    refine ⟨?_, h2⟩
    unfold roomN
    have := cntN_le (usedP P) P.length
    omega
def fmtU : List UInt8 := withL (withL (emptyL 2048) 0 true) 1 true
def fmtP (P : List (List UInt8)) : List (List UInt8) := (P.set 0 (filledL fmtU)).set 1 (filledL [])
theorem pformat_ok (h : Pgr e P W0 w F L I) (h3 : 3 ≤ P.length) :
    Ret Tryz.prog 14 [.pointer (some ⟨e.p, 0, none⟩)] w fun u w' => u = .int .i64 0 ∧ Pgr e (fmtP P) W0 w' F L I := by
  refine ent14 _ _ _ ?_
  simp (disch := first | omega | exact okFill_t rfl | exact okSize_t rfl | exact fun h => h | (simp only [World.size_alloc, World.size_drew, World.size_setCell, size_fill, bytesW]; omega)) only [go_sem, c14, c14S0, c14S1, c14S2, c14S3, c14S4, c14S5, c14S6, c14S7, c14S8, c14S9, c14S10]
  refine Ret.mono (made_ok h) ?_
  rintro _ w2 ⟨rfl, e2⟩
  subst w2
  have r2 := h.blk.rules
  simp (disch := first | omega | exact okFill_t rfl | exact okSize_t rfl | exact fun h => h | (simp only [World.size_alloc, World.size_drew, World.size_setCell, size_fill, bytesW]; omega)) only [go_sem, c14, c14S0, c14S1, c14S2, c14S3, c14S4, c14S5, c14S6, c14S7, c14S8, c14S9, c14S10, r2]
  refine Ret.mono (pslen_ok h) ?_
  rintro _ w2 ⟨rfl, e2⟩
  subst w2
  have hle : ¬ (P.length : Int) ≤ 2 := by omega
  simp (disch := first | omega | exact okFill_t rfl | exact okSize_t rfl | exact fun h => h | (simp only [World.size_alloc, World.size_drew, World.size_setCell, size_fill, bytesW]; omega)) only [go_sem, c14, c14S0, c14S1, c14S2, c14S3, c14S4, c14S5, c14S6, c14S7, c14S8, c14S9, c14S10, hle]
  refine Ret.mono (empty_ok 2048 w ⟨by decide, by decide⟩ (by decide)) ?_
  rintro _ w2 ⟨rfl, b2⟩
  have h2 := h.below b2
  simp (disch := first | omega | exact okFill_t rfl | exact okSize_t rfl | exact fun h => h | (simp only [World.size_alloc, World.size_drew, World.size_setCell, size_fill, bytesW]; omega)) only [go_sem, c14, c14S0, c14S1, c14S2, c14S3, c14S4, c14S5, c14S6, c14S7, c14S8, c14S9, c14S10]
  refine W_loopU (fun k : Nat => [(3, .string (ofL (if k = 0 then emptyL 2048 else if k = 1 then withL (emptyL 2048) 0 true else fmtU))), (16, .int .i64 k)]) (fun k w' => k ≤ 2 ∧ Pgr e P W0 w' F L I) (fun k => 2 - k) 0 rfl ⟨by omega, h2⟩ ?_
  rintro k w3 ⟨hk, h3'⟩
  by_cases hlt : k < 2
  · have hlt' : (k : Int) < 2 := by omega
    simp (disch := first | omega | exact okFill_t rfl | exact okSize_t rfl | exact fun h => h | (simp only [World.size_alloc, World.size_drew, World.size_setCell, size_fill, bytesW]; omega)) only [go_sem, c14, c14S0, c14S1, c14S2, c14S3, c14L0, c14S4, c14S5, c14S6, c14S7, c14S8, c14S9, c14S10, c14L0, hlt']
    refine Ret.mono (with_ok _ k true w3 ⟨by omega, by omega⟩) ?_
    rintro _ w4 ⟨rfl, b4⟩
    simp (disch := first | omega | exact okFill_t rfl | exact okSize_t rfl | exact fun h => h | (simp only [World.size_alloc, World.size_drew, World.size_setCell, size_fill, bytesW]; omega)) only [go_sem, c14, c14S0, c14S1, c14S2, c14S3, c14L0, c14S4, c14S5, c14S6, c14S7, c14S8, c14S9, c14S10]
    refine ⟨by constructor <;> omega, k + 1, ?_, ⟨by omega, h3'.below b4⟩, by omega⟩
    have : k = 0 ∨ k = 1 := by omega
    rcases this with rfl | rfl <;> rfl
  · have hlt' : ¬ (k : Int) < 2 := by omega
    obtain rfl : k = 2 := by omega
    simp (disch := first | omega | exact okFill_t rfl | exact okSize_t rfl | exact fun h => h | (simp only [World.size_alloc, World.size_drew, World.size_setCell, size_fill, bytesW]; omega)) only [go_sem, c14, c14S0, c14S1, c14S2, c14S3, c14L0, c14S4, c14S5, c14S6, c14S7, c14S8, c14S9, c14S10, c14L0, hlt']
    have hfl : ¬ 256 < fmtU.length := by unfold fmtU; rw [withL_length, withL_length]; decide
    refine Ret.mono (pwrite_ok 0 fmtU h3' (by decide) (by omega)) ?_
    rintro _ w4 ⟨rfl, h4⟩
    rw [if_neg hfl] at h4 ⊢
    simp (disch := first | omega | exact okFill_t rfl | exact okSize_t rfl | exact fun h => h | (simp only [World.size_alloc, World.size_drew, World.size_setCell, size_fill, bytesW]; omega)) only [go_sem, c14, c14S0, c14S1, c14S2, c14S3, c14L0, c14S4, c14S5, c14S6, c14S7, c14S8, c14S9, c14S10]
    refine Ret.mono (pwrite_ok 1 [] h4 (by decide) (by rw [List.length_set]; omega)) ?_
    rintro _ w5 ⟨rfl, h5⟩
    simp (disch := first | omega | exact okFill_t rfl | exact okSize_t rfl | exact fun h => h | (simp only [World.size_alloc, World.size_drew, World.size_setCell, size_fill, bytesW]; omega)) only [go_sem, c14, c14S0, c14S1, c14S2, c14S3, c14L0, c14S4, c14S5, c14S6, c14S7, c14S8, c14S9, c14S10]
    first | exact h5 | exact ⟨rfl, h5⟩
end
end Go.Proofs.YtmchjbgobiagiaaGreat

namespace Go.Proofs.YtmchjbgobiagiaaGreat
set_option linter.unusedSimpArgs false
set_option linter.unusedVariables false
set_option maxRecDepth 100000
open Go Go.Ann Go.RowKit Go.WideShapes
def newHd (n : Nat) : Hd := headN (n + 52) 50
def newDkP (n : Nat) : Dk := fmtDk (n + 52) (newHd n)
def newSto (n : Nat) : Sto := ⟨newHd n, [], 0, false, newDkP n⟩
theorem fmtDk_ok {n : Nat} {h : Hd} (h0 : 2 ≤ n) (h1 : n ≤ 2048) : (fmtDk n h).ok := by
  have hl := headL_len h
  refine ⟨fun s hs => ?_, fun _ h => (by cases h), ⟨by simp [fmtDk], by simp [fmtDk]⟩, by simp [fmtDk]; omega, by simp [fmtDk]; omega, by simp [fmtDk]⟩
  unfold fmtDk at hs
  rcases List.mem_or_eq_of_mem_set hs with hs | rfl
  · rcases List.mem_or_eq_of_mem_set hs with hs | rfl
    · rw [List.eq_of_mem_replicate hs]; exact List.length_replicate
    · exact filledL_length (by decide)
  · exact filledL_length (by omega)
theorem newHd_pages {n : Nat} (h : n ≤ 1024) : (newHd n).pages = n := by unfold newHd headN; simp only; omega
theorem newSto_ok {n : Nat} (h0 : 1 ≤ n) (h1 : n ≤ 64) : (newSto n).ok := by
  have hp := newHd_pages (n := n) (by omega)
  refine ⟨⟨by simp [newSto, newHd, headN], by simp [newSto, newHd, headN], by simp [newSto, newHd, headN], by simp only [newSto, hp]; omega⟩, fmtDk_ok (by omega) (by omega), by simp [newSto, newHd, headN], by simp only [newSto, hp]; omega, by simp only [newSto, hp]; omega, ?_, fun _ h => (by cases h), List.Pairwise.nil, List.Pairwise.nil, fun _ h => (by cases h)⟩
  simp only [newSto, hp, newDkP, fmtDk, List.length_set, List.length_replicate]
  simp only [newHd, headN]
  omega
theorem newSto_live {n : Nat} (h0 : 1 ≤ n) (h1 : n ≤ 64) : Live (newSto n) [] :=
  ⟨newSto_ok h0 h1, rfl, rfl, by simp only [newSto, newHd_pages (show n ≤ 1024 by omega)]; exact h1, List.Pairwise.nil, fun _ h => (by cases h)⟩
theorem newSto_pgs {n : Nat} (h0 : 1 ≤ n) (h1 : n ≤ 64) : pgs (newSto n) = List.replicate n zeroB := by
  have hv := newSto_live h0 h1
  have hp := newHd_pages (n := n) (by omega)
  refine pgs_eq (by rw [List.length_replicate]; exact hp.symm) fun i hi => ?_
  rw [List.length_replicate] at hi
  rw [(nowP_eq hv.ok hv.dead hv.gone (by omega) (by show (i : Int) < (newHd n).pages; omega)).2]
  show (none : Option (List UInt8)).getD (lastL [] _ ((fmtDk (n + 52) (newHd n)).safe.getD (homeN (newSto n) i).toNat [])) = _
  have e : (homeN (newSto n) i).toNat = 52 + i := by
    unfold homeN
    show (2 + ((50 : Nat) : Int) + i).toNat = _
    omega
  rw [e]
  simp only [Option.getD_none, lastL, List.foldl_nil, fmtDk]
  rw [List.getD_eq_getElem?_getD, List.getD_eq_getElem?_getD, List.getElem?_set_ne (by omega), List.getElem?_set_ne (by omega), List.getElem?_replicate, List.getElem?_replicate, if_pos (by omega), if_pos hi]
section
variable {W0 w : World} {F : Nat → Prop} {L : List Res} {I : List Inv}
theorem pnew_ok {b mb g : Nat} {vb vl : Value} {s : Sto} (h : St W0 w F (StoL b mb g vb vl s ++ L) I) (hv : Live s []) :
    Ret Tryz.prog 15 [.pointer (some ⟨b, 0, none⟩)] w fun u w' => ∃ p c, u = .tuple #[.pointer (some ⟨p, 0, none⟩), .int .i64 0] ∧ Pgr ⟨p, b, mb, g, c, vb, vl, s.hd, s.disk⟩ (pgs s) W0 w' F L I := by
  refine ent15 _ _ _ ?_
  simp (disch := first | omega | exact okFill_t rfl | exact okSize_t rfl | exact fun h => h | (simp only [World.size_alloc, World.size_drew, World.size_setCell, size_fill, bytesW]; omega)) only [go_sem, c15, c15S0, c15S1, c15S2]
  have hpg := hv.ok.pages
  refine Ret.mono (sread_ok 0 h hv.ok) ?_
  rintro _ w2 ⟨rfl, s2⟩
  rw [(nowP_eq hv.ok hv.dead hv.gone (by omega) (by omega)).1] at s2 ⊢
  simp (disch := first | omega | exact okFill_t rfl | exact okSize_t rfl | exact fun h => h | (simp only [World.size_alloc, World.size_drew, World.size_setCell, size_fill, bytesW]; omega)) only [go_sem, c15, c15S0, c15S1, c15S2]
  refine Ret.mono (cnew_ok s2) ?_
  rintro _ w3 ⟨c, rfl, s3⟩
  simp (disch := first | omega | exact okFill_t rfl | exact okSize_t rfl | exact fun h => h | (simp only [World.size_alloc, World.size_drew, World.size_setCell, size_fill, bytesW]; omega)) only [go_sem, c15, c15S0, c15S1, c15S2]
  refine bdW_built (cells := #[.pointer (some ⟨b, 0, none⟩), .pointer (some ⟨c, 0, none⟩)]) (by kernel_rfl) ?_
  have s4 := s3.box #[.pointer (some ⟨b, 0, none⟩), .pointer (some ⟨c, 0, none⟩)] 28
  simp (disch := first | omega | exact okFill_t rfl | exact okSize_t rfl | exact fun h => h | (simp only [World.size_alloc, World.size_drew, World.size_setCell, size_fill, bytesW]; omega)) only [go_sem, c15, c15S0, c15S1, c15S2]
  refine ⟨_, c, rfl, .slice none 0 0, [], s, ?_, hv, rfl, rfl, rfl⟩
  generalize w3.heap.size = p at s4 ⊢
  refine s4.perm ?_
  unfold PgL
  have := (List.perm_append_comm (l₁ := StoL b mb g vb vl s) (l₂ := CaL c (.slice none 0 0) [])).append_right L
  simp only [List.append_assoc, List.cons_append, List.nil_append] at this ⊢
  exact this.cons _
theorem begun_ok {n : Nat} (h : St W0 w F L I) (h0 : 1 ≤ n) (h1 : n ≤ 64) :
    Ret Tryz.prog 17 [.int .i64 n] w fun u w' => ∃ e : En, u = .tuple #[.pointer (some ⟨e.g, 0, none⟩), .pointer (some ⟨e.b, 0, none⟩), .pointer (some ⟨e.p, 0, none⟩)] ∧ e.hd = newHd n ∧ e.m = newDkP n ∧ Pgr e (List.replicate n zeroB) W0 w' F L I := by
  refine ent17 _ _ _ ?_
  simp (disch := first | omega | exact okFill_t rfl | exact okSize_t rfl | exact fun h => h | (simp only [World.size_alloc, World.size_drew, World.size_setCell, size_fill, bytesW]; omega)) only [go_sem, c17, c17S0, c17S1, c17S2, c17S3, c17S4, c17S5, c17S6]
  have en : (n : Int) + 52 = ((n + 52 : Nat) : Int) := by omega
  rw [en]
  refine ⟨by constructor <;> omega, Ret.mono (new_ok h (n := n + 52) (by omega) (by omega)) ?_⟩
  rintro _ w2 ⟨g, vb, vl, rfl, s2⟩
  simp (disch := first | omega | exact okFill_t rfl | exact okSize_t rfl | exact fun h => h | (simp only [World.size_alloc, World.size_drew, World.size_setCell, size_fill, bytesW]; omega)) only [go_sem, c17, c17S0, c17S1, c17S2, c17S3, c17S4, c17S5, c17S6]
  refine Ret.mono (format_ok (room := 50) s2 (by decide) (by omega) (by omega)) ?_
  rintro _ w3 ⟨rfl, vl', s3⟩
  simp (disch := first | omega | exact okFill_t rfl | exact okSize_t rfl | exact fun h => h | (simp only [World.size_alloc, World.size_drew, World.size_setCell, size_fill, bytesW]; omega)) only [go_sem, c17, c17S0, c17S1, c17S2, c17S3, c17S4, c17S5, c17S6]
  refine Ret.mono (open0_ok (newHd n) s3 (fmtDk_ok (by omega) (by omega)) rfl (by simp [fmtDk]) (newest_fmt (by decide) (by omega) (by omega)) rfl) ?_
  rintro _ w4 ⟨b, mb, rfl, s4⟩
  simp (disch := first | omega | exact okFill_t rfl | exact okSize_t rfl | exact fun h => h | (simp only [World.size_alloc, World.size_drew, World.size_setCell, size_fill, bytesW]; omega)) only [go_sem, c17, c17S0, c17S1, c17S2, c17S3, c17S4, c17S5, c17S6]
  refine Ret.mono (pnew_ok s4 (newSto_live h0 h1)) ?_
  rintro _ w5 ⟨p, c, rfl, s5⟩
  simp (disch := first | omega | exact okFill_t rfl | exact okSize_t rfl | exact fun h => h | (simp only [World.size_alloc, World.size_drew, World.size_setCell, size_fill, bytesW]; omega)) only [go_sem, c17, c17S0, c17S1, c17S2, c17S3, c17S4, c17S5, c17S6]
  refine ⟨⟨p, b, mb, g, c, vb, vl', newHd n, newDkP n⟩, ?_⟩
  refine ⟨rfl, rfl, rfl, ?_⟩
  rw [← newSto_pgs h0 h1]
  exact s5
end
structure Given (n : Nat) (P : List (List UInt8)) (G : Nat → Bool) : Prop where
  len : P.length = n
  u : (usedP P).length = 256
  has : ∀ j : Nat, j < n → hasL (usedP P) j = G j
theorem usedP_set0 {P : List (List UInt8)} {l : List UInt8} (h : 0 < P.length) : usedP (P.set 0 l) = l := by
  unfold usedP
  rw [List.getD_eq_getElem?_getD, List.getElem?_set_self h]; rfl
theorem usedP_set {P : List (List UInt8)} {l : List UInt8} {i : Nat} (h : i ≠ 0) : usedP (P.set i l) = usedP P := by
  unfold usedP
  rw [List.getD_eq_getElem?_getD, List.getD_eq_getElem?_getD, List.getElem?_set_ne h]
theorem Given.mark {n : Nat} {P : List (List UInt8)} {G : Nat → Bool} (h : Given n P G) (hn : n ≤ 2048) {i : Nat} (hi : i < n) (b : Bool) : Given n (markP P i b) (fun j => if j = i then b else G j) := by
  have h0 : 0 < P.length := by rw [h.len]; omega
  have hl : (withL (usedP P) i b).length = 256 := by rw [withL_length, h.u]
  have e : usedP (markP P i b) = withL (usedP P) i b := by unfold markP; rw [usedP_set0 h0, filled256 hl]
  refine ⟨by unfold markP; rw [List.length_set, h.len], by rw [e, hl], fun j hj => ?_⟩
  rw [e, withL_has _ _ _ (by unfold fitsL; rw [decide_eq_true_eq, h.u]; omega)]
  by_cases hji : j = i
  · rw [if_pos (by omega), if_pos hji]
  · rw [if_neg (by omega), if_neg hji]; exact h.has j hj
theorem Given.set {n : Nat} {P : List (List UInt8)} {G : Nat → Bool} (h : Given n P G) {i : Nat} (hi : i ≠ 0) (l : List UInt8) : Given n (P.set i l) G :=
  ⟨by rw [List.length_set, h.len], by rw [usedP_set hi]; exact h.u, fun j hj => by rw [usedP_set hi]; exact h.has j hj⟩
theorem Given.alloc {n : Nat} {P : List (List UInt8)} {G : Nat → Bool} (h : Given n P G) (hn : n ≤ 2048) {k : Nat} (h2 : 2 ≤ k) (hk : k < n) (hg : G k = false) (hall : ∀ j, 2 ≤ j → j < k → G j = true) :
    allocN P = (emptyP (markP P k true) k, (k : Int), 0) ∧ Given n (emptyP (markP P k true) k) (fun j => if j = k then true else G j) := by
  have e : lowP P = some k := by
    unfold lowP
    rw [List.find?_range_eq_some, h.len]
    refine ⟨by rw [h.has k hk, hg]; simp; omega, by rw [List.mem_range]; exact hk, fun j hj => ?_⟩
    by_cases h2j : 2 ≤ j
    · rw [h.has j (by omega), hall j h2j hj]; simp
    · simp [h2j]
  refine ⟨by unfold allocN; rw [e], ?_⟩
  have := (h.mark hn hk true).set (i := k) (by omega) (filledL [])
  unfold emptyP
  rw [Int.toNat_natCast]
  exact this
theorem Given.chk {n : Nat} {P : List (List UInt8)} {G : Nat → Bool} (h : Given n P G) {i : Nat} (h2 : 2 ≤ i) (hi : i < n) : chkN P i = if G i = true then 0 else 6 := by
  unfold chkN
  rw [h.len, h.has i hi]
  by_cases hg : G i = true
  · rw [if_pos ⟨by omega, by omega, hg⟩, if_pos hg]
  · rw [if_neg (fun hh => hg hh.2.2), if_neg hg]
theorem Given.room {n : Nat} {P : List (List UInt8)} {G : Nat → Bool} (h : Given n P G) : roomN P = n - ((List.range n).filter G).length := by
  unfold roomN cntN
  rw [h.len]
  congr 2
  exact List.filter_congr fun j hj => h.has j (List.mem_range.1 hj)
theorem fmtU_has : ∀ j : Fin 64, hasL fmtU j.val = decide (j.val < 2) := by decide +kernel
theorem fmtU_len : fmtU.length = 256 := by unfold fmtU; rw [withL_length, withL_length]; decide
theorem fmt_given {n : Nat} {P : List (List UInt8)} (hl : P.length = n) (h3 : 3 ≤ n) (h64 : n ≤ 64) : Given n (fmtP P) (fun j => decide (j < 2)) := by
  have e : usedP (fmtP P) = fmtU := by
    unfold fmtP
    rw [usedP_set (by decide), usedP_set0 (by omega), filled256 fmtU_len]
  refine ⟨by unfold fmtP; rw [List.length_set, List.length_set, hl], by rw [e]; exact fmtU_len, fun j hj => ?_⟩
  rw [e]
  exact fmtU_has ⟨j, by omega⟩
end Go.Proofs.YtmchjbgobiagiaaGreat
