/- The functions as commands, and facts on the types: printed by program. -/
import Derived.Test.YtbeoedgoikcbpaaCod1
import Derived.KernelRfl
namespace Go.Proofs.Ytbeoedgoikcbpaa
open Go Go.Ann
/- Function 23: annalistref11.First -/
noncomputable def c23code : Code := match Try.f23.body with | some c => c | none => .skip
noncomputable def c23S0 (_ : Unit) : Cmd := (.seq (.ops [
 ⟨some 2, .assign (.const (.slice none 0 0)), 36, none⟩] [2])
 .ret)
noncomputable def c23 : Cmd := (.seq (.ops [
 ⟨some 2, .assign (.const (.slice none 0 0)), 36, none⟩] [0])
 (.seq (.seq (.ops [
 ⟨some 3, .move (.tmp 0), 3, none⟩,
 ⟨some 4, .binOp .eql 3 (.tmp 3) (.const (.int .i64 1)) 3, 4, none⟩,
 ⟨some 5, .move (.tmp 4), 4, none⟩,
 ⟨some 6, .move (.tmp 0), 3, (some (5, false))⟩,
 ⟨some 7, .binOp .eql 3 (.tmp 6) (.const (.int .i64 2)) 3, 4, (some (5, false))⟩,
 ⟨some 8, .pick (.tmp 5) (.const (.bool true)) (.tmp 7), 4, none⟩] [8])
 (.cond (.tmp 8)
  (.seq (.ops [
  ⟨some 9, .buildSlice 36 1 #[(0, (.const (.int .i64 0)))], 36, none⟩,
  ⟨some 2, .assign (.tmp 9), 36, none⟩] [2])
  .ret)
  (.skip []))) (sg c23S0)))
set_option maxRecDepth 100000 in
theorem ent23 (a0 : Value) (w : World) (K : Value → World → Prop) (h : W Try.prog c23 [(0, a0)] w (finQ Try.prog [.tmp 2] K)) : Ret Try.prog 23 [a0] w K :=
  Ret_of_W (code := c23code) Try.func23 (by kernel_rfl) (by kernel_rfl) (of_decide_eq_true (by kernel_rfl)) h
@[go_sem] theorem go23 : goFunc Try.prog 23 = true := by kernel_rfl
/- Function 24: annalistref14.Segments -/
noncomputable def c24code : Code := match Try.f24.body with | some c => c | none => .skip
noncomputable def c24S0 (_ : Unit) : Cmd := (.ops [
 ⟨some 29, .move (.tmp 8), 3, none⟩,
 ⟨some 30, .binOp .add 3 (.tmp 29) (.const (.int .i64 1)) 3, 3, none⟩,
 ⟨some 8, .assign (.tmp 30), 3, none⟩] [1, 3, 4, 5, 6, 7, 8])
noncomputable def c24S1 (_ : Unit) : Cmd := (.seq (.block 3 (.draw (drawOps 0 c24code) [1, 3, 4, 5, 6, 7, 8])) (sg c24S0))
noncomputable def c24L0 (_ : Unit) : Cmd := (.seq (.seq (.ops [
 ⟨some 23, .move (.tmp 8), 3, none⟩,
 ⟨some 24, .move (.tmp 6), 3, none⟩,
 ⟨some 25, .binOp .lss 3 (.tmp 23) (.tmp 24) 3, 4, none⟩,
 ⟨some 26, .move (.tmp 25), 4, none⟩,
 ⟨some 27, .move (.tmp 7), 4, (some (26, true))⟩,
 ⟨some 28, .pick (.tmp 26) (.tmp 27) (.const (.bool false)), 4, none⟩] [1, 3, 4, 5, 6, 7, 8, 28])
 (.cond (.tmp 28)
  (.skip [1, 3, 4, 5, 6, 8])
  (.exit 2 [1, 3, 4, 5, 6, 7]))) (sg c24S1))
noncomputable def c24S2 (_ : Unit) : Cmd := (.ops [
  ⟨some 59, .move (.tmp 6), 3, none⟩,
  ⟨some 5, .assign (.tmp 59), 3, none⟩] [1, 3, 4, 5, 6])
noncomputable def c24S3 (_ : Unit) : Cmd := (.seq (.ops [
 ⟨some 40, .move (.tmp 7), 4, none⟩,
 ⟨some 41, .move (.tmp 40), 4, none⟩,
 ⟨some 42, .move (.tmp 6), 3, (some (41, false))⟩,
 ⟨some 43, .move (.tmp 3), 22, (some (41, false))⟩,
 ⟨some 44, .call ⟨.builtin .len, #[(.tmp 43)], #[22]⟩, 3, (some (41, false))⟩,
 ⟨some 45, .binOp .eql 3 (.tmp 42) (.tmp 44) 3, 4, (some (41, false))⟩,
 ⟨some 46, .pick (.tmp 41) (.const (.bool true)) (.tmp 45), 4, none⟩] [1, 3, 4, 5, 6, 46])
 (.cond (.tmp 46)
  (.seq (.draw (drawOps 1 c24code) [1, 3, 4, 6]) (sg c24S2))
  (.skip [1, 3, 4, 5, 6])))
noncomputable def c24S4 (_ : Unit) : Cmd := (.ops [
 ⟨some 16, .move (.tmp 6), 3, none⟩,
 ⟨some 17, .binOp .add 3 (.tmp 16) (.const (.int .i64 1)) 3, 3, none⟩,
 ⟨some 6, .assign (.tmp 17), 3, none⟩] [1, 3, 4, 5, 6])
noncomputable def c24S5 (_ : Unit) : Cmd := (.seq (.block 1 (.seq (.ops [
 ⟨some 18, .move (.tmp 6), 3, none⟩,
 ⟨some 19, .move (.tmp 3), 22, none⟩,
 ⟨some 20, .call ⟨.builtin .len, #[(.tmp 19)], #[22]⟩, 3, none⟩,
 ⟨some 21, .binOp .lss 3 (.tmp 18) (.tmp 20) 3, 4, none⟩,
 ⟨some 7, .assign (.tmp 21), 4, none⟩] [1, 3, 4, 5, 6, 7])
 (.seq (.seq (.ops [
 ⟨some 22, .move (.tmp 5), 3, none⟩,
 ⟨some 8, .assign (.tmp 22), 3, none⟩] [1, 3, 4, 5, 6, 7, 8])
 (.block 2 (.loop (sg c24L0)))) (sg c24S3)))) (sg c24S4))
noncomputable def c24L1 (_ : Unit) : Cmd := (.seq (.seq (.ops [
 ⟨some 12, .move (.tmp 6), 3, none⟩,
 ⟨some 13, .move (.tmp 3), 22, none⟩,
 ⟨some 14, .call ⟨.builtin .len, #[(.tmp 13)], #[22]⟩, 3, none⟩,
 ⟨some 15, .binOp .leq 3 (.tmp 12) (.tmp 14) 3, 4, none⟩] [1, 3, 4, 5, 6, 15])
 (.cond (.tmp 15)
  (.skip [1, 3, 4, 5, 6])
  (.exit 0 [4]))) (sg c24S5))
noncomputable def c24S6 (_ : Unit) : Cmd := (.seq (.ops [
 ⟨some 60, .move (.tmp 4), 47, none⟩,
 ⟨some 2, .assign (.tmp 60), 47, none⟩] [2])
 .ret)
noncomputable def c24S7 (_ : Unit) : Cmd := (.seq (.ops [
 ⟨some 4, .assign (.const (.slice none 0 0)), 47, none⟩] [1, 3, 4])
 (.seq (.ops [
 ⟨some 5, .assign (.const (.int .i64 0)), 3, none⟩] [1, 3, 4, 5])
 (.seq (.seq (.ops [
 ⟨some 6, .assign (.const (.int .i64 1)), 3, none⟩] [1, 3, 4, 5, 6])
 (.block 0 (.loop (sg c24L1)))) (sg c24S6))))
noncomputable def c24 : Cmd := (.seq (.ops [
 ⟨some 1, .box 24 (.tmp 0), 0, none⟩,
 ⟨some 2, .assign (.const (.slice none 0 0)), 47, none⟩] [1])
 (.seq (.ops [
 ⟨some 9, .fieldAddr 24 (.tmp 1) 2, 0, none⟩,
 ⟨some 10, .load 22 (.tmp 9), 22, none⟩,
 ⟨some 11, .call ⟨.value (.func 52), #[(.tmp 10)], #[22]⟩, 22, none⟩,
 ⟨some 3, .assign (.tmp 11), 22, none⟩] [1, 3]) (sg c24S7)))
noncomputable def c24D0 : List (Nat × Ins) := [
 (0, ⟨some 31, .move (.tmp 3), 22, none⟩),
 (0, ⟨some 32, .move (.tmp 8), 3, none⟩),
 (0, ⟨some 33, .indexAddr 22 (.tmp 31) (.tmp 32), 0, none⟩),
 (0, ⟨some 35, .move (.tmp 3), 22, none⟩),
 (0, ⟨some 36, .move (.tmp 6), 3, none⟩),
 (0, ⟨some 37, .indexAddr 22 (.tmp 35) (.tmp 36), 0, none⟩),
 (1, ⟨some 34, .load 58 (.tmp 33), 58, none⟩),
 (2, ⟨some 38, .load 58 (.tmp 37), 58, none⟩),
 (3, ⟨some 39, .call ⟨.value (.func 53), #[(.tmp 34), (.tmp 38)], #[58, 58]⟩, 4, none⟩),
 (0, ⟨some 7, .assign (.tmp 39), 4, none⟩)]
theorem c24draw0 {L : List Nat} {ρ : Env} {w : World} {Q : Post} (S : World → Prop) (hS : S w.drew) (h : DG Try.prog S c24D0 L ρ w.drew Q) : drawW Try.prog (drawOps 0 c24code) L ρ w Q :=
  drawW_held [3] [(0, 0), (0, 1), (0, 2), (0, 4), (0, 5), (0, 6), (1, 3), (2, 7), (3, 8), (0, 9)] c24D0 (by kernel_rfl) (by kernel_rfl) (by kernel_rfl) S hS h
noncomputable def c24D1 : List (Nat × Ins) := [
 (0, ⟨some 47, .move (.tmp 4), 47, none⟩),
 (0, ⟨some 48, .fieldAddr 24 (.tmp 1) 0, 0, none⟩),
 (0, ⟨some 50, .fieldAddr 24 (.tmp 1) 1, 0, none⟩),
 (0, ⟨some 52, .move (.tmp 3), 22, none⟩),
 (0, ⟨some 53, .move (.tmp 5), 3, none⟩),
 (0, ⟨some 54, .move (.tmp 6), 3, none⟩),
 (0, ⟨some 55, .slice 22 (.tmp 52) (some (.tmp 53)) (some (.tmp 54)) none, 22, none⟩),
 (1, ⟨some 49, .load 3 (.tmp 48), 3, none⟩),
 (2, ⟨some 51, .load 3 (.tmp 50), 3, none⟩),
 (3, ⟨some 56, .build 24 #[(0, (.tmp 49)), (1, (.tmp 51)), (2, (.tmp 55))], 24, none⟩),
 (2, ⟨some 57, .buildSlice 47 1 #[(0, (.tmp 56))], 47, none⟩),
 (2, ⟨some 58, .call ⟨.builtin .append, #[(.tmp 47), (.tmp 57)], #[47, 47]⟩, 47, none⟩),
 (0, ⟨some 4, .assign (.tmp 58), 47, none⟩)]
theorem c24draw1 {L : List Nat} {ρ : Env} {w : World} {Q : Post} (S : World → Prop) (hS : S w.drew) (h : DG Try.prog S c24D1 L ρ w.drew Q) : drawW Try.prog (drawOps 1 c24code) L ρ w Q :=
  drawW_held [2] [(0, 0), (0, 1), (0, 3), (0, 5), (0, 6), (0, 7), (0, 8), (1, 2), (2, 4), (3, 9), (2, 10), (2, 11), (0, 12)] c24D1 (by kernel_rfl) (by kernel_rfl) (by kernel_rfl) S hS h
set_option maxRecDepth 100000 in
theorem ent24 (a0 : Value) (w : World) (K : Value → World → Prop) (h : W Try.prog c24 [(0, a0)] w (finQ Try.prog [.tmp 2] K)) : Ret Try.prog 24 [a0] w K :=
  Ret_of_W (code := c24code) Try.func24 (by kernel_rfl) (by kernel_rfl) (of_decide_eq_true (by kernel_rfl)) h
@[go_sem] theorem go24 : goFunc Try.prog 24 = true := by kernel_rfl
/- Function 29: annalistref11.Ints -/
noncomputable def c29code : Code := match Try.f29.body with | some c => c | none => .skip
noncomputable def c29S0 (_ : Unit) : Cmd := (.cond (.tmp 25)
  (.seq (.ops [
  ⟨some 4, .assign (.const (.bool false)), 4, none⟩] [4])
  .ret)
  (.skip [0, 1, 5]))
noncomputable def c29S1 (_ : Unit) : Cmd := (.ops [
 ⟨some 15, .move (.tmp 5), 3, none⟩,
 ⟨some 16, .binOp .add 3 (.tmp 15) (.const (.int .i64 1)) 3, 3, none⟩,
 ⟨some 5, .assign (.tmp 16), 3, none⟩] [0, 1, 5])
noncomputable def c29S2 (_ : Unit) : Cmd := (.seq (.block 1 (.seq (.draw (drawOps 0 c29code) [0, 1, 5, 25]) (sg c29S0))) (sg c29S1))
noncomputable def c29L0 (_ : Unit) : Cmd := (.seq (.seq (.ops [
 ⟨some 11, .move (.tmp 5), 3, none⟩,
 ⟨some 12, .move (.tmp 0), 36, none⟩,
 ⟨some 13, .call ⟨.builtin .len, #[(.tmp 12)], #[36]⟩, 3, none⟩,
 ⟨some 14, .binOp .lss 3 (.tmp 11) (.tmp 13) 3, 4, none⟩] [0, 1, 5, 14])
 (.cond (.tmp 14)
  (.skip [0, 1, 5])
  (.exit 0 []))) (sg c29S2))
noncomputable def c29S3 (_ : Unit) : Cmd := (.seq (.ops [
 ⟨some 4, .assign (.const (.bool true)), 4, none⟩] [4])
 .ret)
noncomputable def c29S4 (_ : Unit) : Cmd := (.seq (.seq (.ops [
 ⟨some 5, .assign (.const (.int .i64 0)), 3, none⟩] [0, 1, 5])
 (.block 0 (.loop (sg c29L0)))) (sg c29S3))
noncomputable def c29 : Cmd := (.seq (.ops [
 ⟨some 4, .assign (.const (.bool false)), 4, none⟩] [0, 1])
 (.seq (.seq (.ops [
 ⟨some 6, .move (.tmp 0), 36, none⟩,
 ⟨some 7, .call ⟨.builtin .len, #[(.tmp 6)], #[36]⟩, 3, none⟩,
 ⟨some 8, .move (.tmp 1), 36, none⟩,
 ⟨some 9, .call ⟨.builtin .len, #[(.tmp 8)], #[36]⟩, 3, none⟩,
 ⟨some 10, .binOp .neq 3 (.tmp 7) (.tmp 9) 3, 4, none⟩] [0, 1, 10])
 (.cond (.tmp 10)
  (.seq (.ops [
  ⟨some 4, .assign (.const (.bool false)), 4, none⟩] [4])
  .ret)
  (.skip [0, 1]))) (sg c29S4)))
noncomputable def c29D0 : List (Bool × Ins) := [
 (true, ⟨some 17, .move (.tmp 0), 36, none⟩),
 (true, ⟨some 18, .move (.tmp 5), 3, none⟩),
 (true, ⟨some 19, .indexAddr 36 (.tmp 17) (.tmp 18), 0, none⟩),
 (false, ⟨some 20, .load 3 (.tmp 19), 3, none⟩),
 (true, ⟨some 21, .move (.tmp 1), 36, none⟩),
 (true, ⟨some 22, .move (.tmp 5), 3, none⟩),
 (true, ⟨some 23, .indexAddr 36 (.tmp 21) (.tmp 22), 0, none⟩),
 (false, ⟨some 24, .load 3 (.tmp 23), 3, none⟩),
 (true, ⟨some 25, .binOp .neq 3 (.tmp 20) (.tmp 24) 3, 4, none⟩)]
theorem c29draw0 {L : List Nat} {ρ : Env} {w : World} {Q : Post} (h : DL Try.prog c29D0 L ρ w.drew Q) : drawW Try.prog (drawOps 0 c29code) L ρ w Q :=
  drawW_still [true, true, true, false, true, true, true, false, true] c29D0 (by kernel_rfl) (by kernel_rfl) (by kernel_rfl) h
set_option maxRecDepth 100000 in
theorem ent29 (a0 a1 : Value) (w : World) (K : Value → World → Prop) (h : W Try.prog c29 [(0, a0), (1, a1)] w (finQ Try.prog [.tmp 4] K)) : Ret Try.prog 29 [a0, a1] w K :=
  Ret_of_W (code := c29code) Try.func29 (by kernel_rfl) (by kernel_rfl) (of_decide_eq_true (by kernel_rfl)) h
@[go_sem] theorem go29 : goFunc Try.prog 29 = true := by kernel_rfl
/- Function 30: lin.begin -/
noncomputable def c30code : Code := match Try.f30.body with | some c => c | none => .skip
noncomputable def c30S0 (_ : Unit) : Cmd := (.cond (.tmp 43)
  (.ops [
  ⟨some 44, .move (.tmp 3), 60, none⟩,
  ⟨some 45, .nilCheck (.tmp 44), 0, none⟩,
  ⟨some 46, .fieldAddr 68 (.tmp 45) 1, 0, none⟩,
  ⟨some 47, .load 64 (.tmp 46), 64, none⟩,
  ⟨some 48, .move (.tmp 4), 3, none⟩,
  ⟨some 49, .indexAddr 64 (.tmp 47) (.tmp 48), 0, none⟩,
  ⟨some 50, .load 63 (.tmp 49), 63, none⟩,
  ⟨some 51, .move (.tmp 6), 3, none⟩,
  ⟨some 52, .convert 3 76 (.tmp 51), 76, none⟩,
  ⟨some 53, .binOp .shl 63 (.const (.int .u32 1)) (.tmp 52) 76, 63, none⟩,
  ⟨some 54, .binOp .or 63 (.tmp 50) (.tmp 53) 63, 63, none⟩,
  ⟨some 55, .indexAddr 64 (.tmp 47) (.tmp 48), 0, none⟩,
  ⟨none, .store 63 (.tmp 55) (.tmp 54), 0, none⟩] [0, 3, 4, 5, 15, 16, 17, 34, 35, 36])
  (.skip [0, 3, 4, 5, 15, 16, 17, 34, 35, 36]))
noncomputable def c30S1 (_ : Unit) : Cmd := (.ops [
 ⟨some 56, .binOp .add 3 (.tmp 36) (.const (.int .i64 1)) 3, 3, none⟩,
 ⟨some 36, .move (.tmp 56), 3, none⟩] [0, 3, 4, 5, 15, 16, 17, 34, 35, 36])
noncomputable def c30S2 (_ : Unit) : Cmd := (.seq (.block 3 (.seq (.ops [
 ⟨some 38, .move (.tmp 36), 3, none⟩,
 ⟨some 39, .indexAddr 22 (.tmp 34) (.tmp 36), 0, none⟩,
 ⟨some 40, .load 58 (.tmp 39), 58, none⟩,
 ⟨some 7, .alloc 58, 0, none⟩,
 ⟨some 6, .assign (.tmp 38), 3, none⟩,
 ⟨none, .store 58 (.tmp 7) (.tmp 40), 0, none⟩] [0, 3, 4, 5, 6, 7, 15, 16, 17, 34, 35, 36])
 (.seq (.ops [
 ⟨some 41, .load 58 (.tmp 7), 58, none⟩,
 ⟨some 42, .load 58 (.tmp 5), 58, none⟩,
 ⟨some 43, .call ⟨.value (.func 65), #[(.tmp 41), (.tmp 42)], #[58, 58]⟩, 4, none⟩] [0, 3, 4, 5, 6, 15, 16, 17, 34, 35, 36, 43]) (sg c30S0)))) (sg c30S1))
noncomputable def c30L0 (_ : Unit) : Cmd := (.seq (.ops [
 ⟨some 37, .binOp .lss 3 (.tmp 36) (.tmp 35) 3, 0, none⟩] [0, 3, 4, 5, 15, 16, 17, 34, 35, 36, 37])
 (.seq (.cond (.tmp 37)
  (.skip [0, 3, 4, 5, 15, 16, 17, 34, 35, 36])
  (.exit 2 [0, 3, 15, 16, 17])) (sg c30S2)))
noncomputable def c30S3 (_ : Unit) : Cmd := (.seq (.ops [
 ⟨some 34, .move (.tmp 0), 22, none⟩,
 ⟨some 35, .call ⟨.builtin .len, #[(.tmp 34)], #[22]⟩, 3, none⟩,
 ⟨some 36, .move (.const (.int .i64 0)), 3, none⟩] [0, 3, 4, 5, 15, 16, 17, 34, 35, 36])
 (.block 2 (.loop (sg c30L0))))
noncomputable def c30S4 (_ : Unit) : Cmd := (.ops [
 ⟨some 57, .binOp .add 3 (.tmp 17) (.const (.int .i64 1)) 3, 3, none⟩,
 ⟨some 17, .move (.tmp 57), 3, none⟩] [0, 3, 15, 16, 17])
noncomputable def c30S5 (_ : Unit) : Cmd := (.seq (.block 1 (.seq (.ops [
 ⟨some 19, .move (.tmp 17), 3, none⟩,
 ⟨some 20, .indexAddr 22 (.tmp 15) (.tmp 17), 0, none⟩,
 ⟨some 21, .load 58 (.tmp 20), 58, none⟩,
 ⟨some 5, .alloc 58, 0, none⟩,
 ⟨some 4, .assign (.tmp 19), 3, none⟩,
 ⟨none, .store 58 (.tmp 5) (.tmp 21), 0, none⟩] [0, 3, 4, 5, 15, 16, 17])
 (.seq (.seq (.ops [
 ⟨some 22, .fieldAddr 58 (.tmp 5) 7, 0, none⟩,
 ⟨some 23, .load 4 (.tmp 22), 4, none⟩] [0, 3, 4, 5, 15, 16, 17, 23])
 (.cond (.tmp 23)
  (.ops [
  ⟨some 24, .move (.tmp 3), 60, none⟩,
  ⟨some 25, .nilCheck (.tmp 24), 0, none⟩,
  ⟨some 26, .fieldAddr 68 (.tmp 25) 2, 0, none⟩,
  ⟨some 27, .load 63 (.tmp 26), 63, none⟩,
  ⟨some 28, .move (.tmp 4), 3, none⟩,
  ⟨some 29, .convert 3 76 (.tmp 28), 76, none⟩,
  ⟨some 30, .binOp .shl 63 (.const (.int .u32 1)) (.tmp 29) 76, 63, none⟩,
  ⟨some 31, .binOp .or 63 (.tmp 27) (.tmp 30) 63, 63, none⟩,
  ⟨some 32, .nilCheck (.tmp 24), 0, none⟩,
  ⟨some 33, .fieldAddr 68 (.tmp 32) 2, 0, none⟩,
  ⟨none, .store 63 (.tmp 33) (.tmp 31), 0, none⟩] [0, 3, 4, 5, 15, 16, 17])
  (.skip [0, 3, 4, 5, 15, 16, 17]))) (sg c30S3)))) (sg c30S4))
noncomputable def c30L1 (_ : Unit) : Cmd := (.seq (.ops [
 ⟨some 18, .binOp .lss 3 (.tmp 17) (.tmp 16) 3, 0, none⟩] [0, 3, 15, 16, 17, 18])
 (.seq (.cond (.tmp 18)
  (.skip [0, 3, 15, 16, 17])
  (.exit 0 [3])) (sg c30S5)))
noncomputable def c30S6 (_ : Unit) : Cmd := (.seq (.ops [
 ⟨some 58, .move (.tmp 3), 60, none⟩,
 ⟨some 2, .assign (.tmp 58), 60, none⟩] [2])
 .ret)
noncomputable def c30 : Cmd := (.seq (.ops [
 ⟨some 2, .assign (.const (.pointer none)), 60, none⟩] [0])
 (.seq (.ops [
 ⟨some 8, .move (.tmp 0), 22, none⟩,
 ⟨some 9, .move (.tmp 0), 22, none⟩,
 ⟨some 10, .call ⟨.builtin .len, #[(.tmp 9)], #[22]⟩, 3, none⟩,
 ⟨some 11, .makeSlice 64 (.tmp 10) (.tmp 10), 64, none⟩,
 ⟨some 12, .makeMap 65 none, 65, none⟩,
 ⟨some 13, .build 68 #[(0, (.tmp 8)), (1, (.tmp 11)), (3, (.tmp 12))], 68, none⟩,
 ⟨some 14, .box 68 (.tmp 13), 60, none⟩,
 ⟨some 3, .assign (.tmp 14), 60, none⟩] [0, 3])
 (.seq (.seq (.ops [
 ⟨some 15, .move (.tmp 0), 22, none⟩,
 ⟨some 16, .call ⟨.builtin .len, #[(.tmp 15)], #[22]⟩, 3, none⟩,
 ⟨some 17, .move (.const (.int .i64 0)), 3, none⟩] [0, 3, 15, 16, 17])
 (.block 0 (.loop (sg c30L1)))) (sg c30S6))))
set_option maxRecDepth 100000 in
theorem ent30 (a0 : Value) (w : World) (K : Value → World → Prop) (h : W Try.prog c30 [(0, a0)] w (finQ Try.prog [.tmp 2] K)) : Ret Try.prog 30 [a0] w K :=
  Ret_of_W (code := c30code) Try.func30 (by kernel_rfl) (by kernel_rfl) (of_decide_eq_true (by kernel_rfl)) h
@[go_sem] theorem go30 : goFunc Try.prog 30 = true := by kernel_rfl
/- Function 31: (*lin.search).add -/
noncomputable def c31code : Code := match Try.f31.body with | some c => c | none => .skip
noncomputable def c31S0 (_ : Unit) : Cmd := (.draw (drawOps 2 c31code) [])
noncomputable def c31S1 (_ : Unit) : Cmd := (.cond (.tmp 20)
  (.seq (.draw (drawOps 1 c31code) [0, 6]) (sg c31S0))
  (.skip []))
noncomputable def c31S2 (_ : Unit) : Cmd := (.seq (.draw (drawOps 0 c31code) [0, 6, 20]) (sg c31S1))
noncomputable def c31 : Cmd := (.seq (.ops [
 ⟨some 7, .move (.tmp 1), 63, none⟩,
 ⟨some 8, .move (.tmp 2), 36, none⟩,
 ⟨some 9, .call ⟨.value (.func 43), #[(.tmp 8)], #[36]⟩, 9, none⟩,
 ⟨some 10, .build 70 #[(0, (.tmp 7)), (1, (.tmp 9))], 70, none⟩,
 ⟨some 11, .move (.tmp 2), 36, none⟩,
 ⟨some 12, .build 72 #[(0, (.tmp 10)), (1, (.tmp 11))], 72, none⟩,
 ⟨some 6, .alloc 72, 0, none⟩,
 ⟨none, .store 72 (.tmp 6) (.tmp 12), 0, none⟩] [0, 6]) (sg c31S2))
noncomputable def c31D0 : List (Nat × Ins) := [
 (0, ⟨some 13, .move (.tmp 0), 60, none⟩),
 (0, ⟨some 14, .nilCheck (.tmp 13), 0, none⟩),
 (0, ⟨some 15, .fieldAddr 68 (.tmp 14) 3, 0, none⟩),
 (0, ⟨some 17, .fieldAddr 72 (.tmp 6) 0, 0, none⟩),
 (1, ⟨some 16, .load 65 (.tmp 15), 65, none⟩),
 (2, ⟨some 18, .load 70 (.tmp 17), 70, none⟩),
 (3, ⟨some 19, .lookup 65 (.tmp 16) (.tmp 18) false, 4, none⟩),
 (0, ⟨some 20, .unOp .not 4 (.tmp 19), 4, none⟩)]
theorem c31draw0 {L : List Nat} {ρ : Env} {w : World} {Q : Post} (S : World → Prop) (hS : S w.drew) (h : DG Try.prog S c31D0 L ρ w.drew Q) : drawW Try.prog (drawOps 0 c31code) L ρ w Q :=
  drawW_held [3] [(0, 0), (0, 1), (0, 2), (0, 4), (1, 3), (2, 5), (3, 6), (0, 7)] c31D0 (by kernel_rfl) (by kernel_rfl) (by kernel_rfl) S hS h
noncomputable def c31D1 : List (Nat × Ins) := [
 (0, ⟨some 21, .move (.tmp 0), 60, none⟩),
 (0, ⟨some 22, .nilCheck (.tmp 21), 0, none⟩),
 (0, ⟨some 23, .fieldAddr 68 (.tmp 22) 3, 0, none⟩),
 (0, ⟨some 25, .fieldAddr 72 (.tmp 6) 0, 0, none⟩),
 (1, ⟨some 24, .load 65 (.tmp 23), 65, none⟩),
 (2, ⟨some 26, .load 70 (.tmp 25), 70, none⟩),
 (3, ⟨none, .mapUpdate 65 (.tmp 24) (.tmp 26) (.const (.bool true)), 0, none⟩)]
theorem c31draw1 {L : List Nat} {ρ : Env} {w : World} {Q : Post} (S : World → Prop) (hS : S w.drew) (h : DG Try.prog S c31D1 L ρ w.drew Q) : drawW Try.prog (drawOps 1 c31code) L ρ w Q :=
  drawW_held [3] [(0, 0), (0, 1), (0, 2), (0, 4), (1, 3), (2, 5), (3, 6)] c31D1 (by kernel_rfl) (by kernel_rfl) (by kernel_rfl) S hS h
noncomputable def c31D2 : List (Nat × Ins) := [
 (0, ⟨some 27, .move (.tmp 0), 60, none⟩),
 (0, ⟨some 28, .move (.tmp 0), 60, none⟩),
 (0, ⟨some 29, .nilCheck (.tmp 28), 0, none⟩),
 (0, ⟨some 30, .fieldAddr 68 (.tmp 29) 4, 0, none⟩),
 (1, ⟨some 31, .load 66 (.tmp 30), 66, none⟩),
 (2, ⟨some 32, .load 72 (.tmp 6), 72, none⟩),
 (2, ⟨some 33, .buildSlice 66 1 #[(0, (.tmp 32))], 66, none⟩),
 (3, ⟨some 34, .call ⟨.builtin .append, #[(.tmp 31), (.tmp 33)], #[66, 66]⟩, 66, none⟩),
 (0, ⟨some 35, .nilCheck (.tmp 27), 0, none⟩),
 (0, ⟨some 36, .fieldAddr 68 (.tmp 35) 4, 0, none⟩),
 (3, ⟨none, .store 66 (.tmp 36) (.tmp 34), 0, none⟩)]
theorem c31draw2 {L : List Nat} {ρ : Env} {w : World} {Q : Post} (S : World → Prop) (hS : S w.drew) (h : DG Try.prog S c31D2 L ρ w.drew Q) : drawW Try.prog (drawOps 2 c31code) L ρ w Q :=
  drawW_held [4] [(0, 0), (0, 1), (0, 2), (0, 3), (1, 4), (2, 5), (2, 6), (3, 7), (0, 8), (0, 9), (3, 10)] c31D2 (by kernel_rfl) (by kernel_rfl) (by kernel_rfl) S hS h
set_option maxRecDepth 100000 in
theorem ent31 (a0 a1 a2 : Value) (w : World) (K : Value → World → Prop) (h : W Try.prog c31 [(0, a0), (1, a1), (2, a2)] w (finQ Try.prog [] K)) : Ret Try.prog 31 [a0, a1, a2] w K :=
  Ret_of_W (code := c31code) Try.func31 (by kernel_rfl) (by kernel_rfl) (of_decide_eq_true (by kernel_rfl)) h
@[go_sem] theorem go31 : goFunc Try.prog 31 = true := by kernel_rfl
/- Function 32: (*lin.search).may -/
noncomputable def c32code : Code := match Try.f32.body with | some c => c | none => .skip
noncomputable def c32 : Cmd := (.seq (.ops [
 ⟨some 6, .assign (.const (.bool false)), 4, none⟩] [0, 1, 2])
 (.seq (.ops [
 ⟨some 7, .move (.tmp 1), 63, none⟩,
 ⟨some 8, .move (.tmp 2), 3, none⟩,
 ⟨some 9, .convert 3 76 (.tmp 8), 76, none⟩,
 ⟨some 10, .binOp .shr 63 (.tmp 7) (.tmp 9) 76, 63, none⟩,
 ⟨some 11, .binOp .and 63 (.tmp 10) (.const (.int .u32 1)) 63, 63, none⟩,
 ⟨some 12, .binOp .eql 63 (.tmp 11) (.const (.int .u32 0)) 63, 4, none⟩,
 ⟨some 13, .move (.tmp 12), 4, none⟩,
 ⟨some 14, .move (.tmp 0), 60, (some (13, true))⟩,
 ⟨some 15, .nilCheck (.tmp 14), 0, (some (13, true))⟩,
 ⟨some 16, .fieldAddr 68 (.tmp 15) 1, 0, (some (13, true))⟩,
 ⟨some 17, .load 64 (.tmp 16), 64, (some (13, true))⟩,
 ⟨some 18, .move (.tmp 2), 3, (some (13, true))⟩,
 ⟨some 19, .indexAddr 64 (.tmp 17) (.tmp 18), 0, (some (13, true))⟩,
 ⟨some 20, .load 63 (.tmp 19), 63, (some (13, true))⟩,
 ⟨some 21, .move (.tmp 1), 63, (some (13, true))⟩,
 ⟨some 22, .binOp .andNot 63 (.tmp 20) (.tmp 21) 63, 63, (some (13, true))⟩,
 ⟨some 23, .binOp .eql 63 (.tmp 22) (.const (.int .u32 0)) 63, 4, (some (13, true))⟩,
 ⟨some 24, .pick (.tmp 13) (.tmp 23) (.const (.bool false)), 4, none⟩,
 ⟨some 6, .assign (.tmp 24), 4, none⟩] [6])
 .ret))
set_option maxRecDepth 100000 in
theorem ent32 (a0 a1 a2 : Value) (w : World) (K : Value → World → Prop) (h : W Try.prog c32 [(0, a0), (1, a1), (2, a2)] w (finQ Try.prog [.tmp 6] K)) : Ret Try.prog 32 [a0, a1, a2] w K :=
  Ret_of_W (code := c32code) Try.func32 (by kernel_rfl) (by kernel_rfl) (of_decide_eq_true (by kernel_rfl)) h
@[go_sem] theorem go32 : goFunc Try.prog 32 = true := by kernel_rfl
/- Function 33: model.Step -/
noncomputable def c33code : Code := match Try.f33.body with | some c => c | none => .skip
noncomputable def c33S0 (_ : Unit) : Cmd := (.seq (.ops [
 ⟨some 28, .move (.tmp 6), 36, none⟩,
 ⟨some 4, .assign (.tmp 28), 36, none⟩,
 ⟨some 5, .assign (.const (.bool true)), 4, none⟩] [4, 5])
 .ret)
noncomputable def c33S1 (_ : Unit) : Cmd := (.seq (.seq (.ops [
 ⟨some 16, .move (.tmp 8), 4, none⟩,
 ⟨some 17, .unOp .not 4 (.tmp 16), 4, none⟩,
 ⟨some 18, .move (.tmp 17), 4, none⟩,
 ⟨some 19, .fieldAddr 58 (.tmp 3) 7, 0, (some (18, false))⟩,
 ⟨some 20, .load 4 (.tmp 19), 4, (some (18, false))⟩,
 ⟨some 21, .move (.tmp 20), 4, (some (18, false))⟩,
 ⟨some 22, .move (.tmp 7), 3, (some (21, true))⟩,
 ⟨some 23, .fieldAddr 58 (.tmp 3) 8, 0, (some (21, true))⟩,
 ⟨some 24, .load 3 (.tmp 23), 3, (some (21, true))⟩,
 ⟨some 25, .binOp .neq 3 (.tmp 22) (.tmp 24) 3, 4, (some (21, true))⟩,
 ⟨some 26, .pick (.tmp 21) (.tmp 25) (.const (.bool false)), 4, (some (18, false))⟩,
 ⟨some 27, .pick (.tmp 18) (.const (.bool true)) (.tmp 26), 4, none⟩] [6, 27])
 (.cond (.tmp 27)
  (.seq (.ops [
  ⟨some 4, .assign (.const (.slice none 0 0)), 36, none⟩,
  ⟨some 5, .assign (.const (.bool false)), 4, none⟩] [4, 5])
  .ret)
  (.skip [6]))) (sg c33S0))
noncomputable def c33 : Cmd := (.seq (.ops [
 ⟨some 3, .box 58 (.tmp 1), 0, none⟩,
 ⟨some 4, .assign (.const (.slice none 0 0)), 36, none⟩,
 ⟨some 5, .assign (.const (.bool false)), 4, none⟩] [0, 3])
 (.seq (.ops [
 ⟨some 10, .move (.tmp 0), 36, none⟩,
 ⟨some 11, .load 58 (.tmp 3), 58, none⟩,
 ⟨some 12, .call ⟨.value (.func 66), #[(.tmp 10), (.tmp 11)], #[36, 58]⟩, 106, none⟩,
 ⟨some 9, .move (.tmp 12), 106, none⟩,
 ⟨some 13, .extract (.tmp 9) 0, 36, none⟩,
 ⟨some 14, .extract (.tmp 9) 1, 3, none⟩,
 ⟨some 15, .extract (.tmp 9) 2, 4, none⟩,
 ⟨some 6, .assign (.tmp 13), 36, none⟩,
 ⟨some 7, .assign (.tmp 14), 3, none⟩,
 ⟨some 8, .assign (.tmp 15), 4, none⟩] [3, 6, 7, 8]) (sg c33S1)))
set_option maxRecDepth 100000 in
theorem ent33 (a0 a1 : Value) (w : World) (K : Value → World → Prop) (h : W Try.prog c33 [(0, a0), (1, a1)] w (finQ Try.prog [.tmp 4, .tmp 5] K)) : Ret Try.prog 33 [a0, a1] w K :=
  Ret_of_W (code := c33code) Try.func33 (by kernel_rfl) (by kernel_rfl) (of_decide_eq_true (by kernel_rfl)) h
@[go_sem] theorem go33 : goFunc Try.prog 33 = true := by kernel_rfl
/- Function 34: annalistlaw15.pair -/
noncomputable def c34code : Code := match Try.f34.body with | some c => c | none => .skip
noncomputable def c34 : Cmd := (.seq (.ops [
 ⟨some 2, .alloc 24, 0, none⟩] [0, 2])
 (.seq (.ops [
 ⟨some 3, .build 58 #[(0, (.const (.int .i64 1))), (3, (.const (.int .i64 1))), (4, (.const (.int .i64 2))), (5, (.const (.int .i64 1))), (7, (.const (.bool true))), (10, (.const (.int .i64 9)))], 58, none⟩,
 ⟨some 4, .move (.tmp 0), 3, none⟩,
 ⟨some 5, .build 58 #[(0, (.const (.int .i64 2))), (3, (.const (.int .i64 1))), (4, (.const (.int .i64 1))), (7, (.const (.bool true))), (8, (.tmp 4)), (9, (.const (.int .i64 1))), (10, (.const (.int .i64 8)))], 58, none⟩,
 ⟨some 6, .buildSlice 22 2 #[(0, (.tmp 3)), (1, (.tmp 5))], 22, none⟩,
 ⟨some 7, .build 24 #[(1, (.const (.int .i64 1))), (2, (.tmp 6))], 24, none⟩,
 ⟨none, .store 24 (.tmp 2) (.tmp 7), 0, none⟩] [2])
 .ret))
set_option maxRecDepth 100000 in
theorem ent34 (a0 : Value) (w : World) (K : Value → World → Prop) (h : W Try.prog c34 [(0, a0)] w (finQ Try.prog [.cell 2 24] K)) : Ret Try.prog 34 [a0] w K :=
  Ret_of_W (code := c34code) Try.func34 (by kernel_rfl) (by kernel_rfl) (of_decide_eq_true (by kernel_rfl)) h
@[go_sem] theorem go34 : goFunc Try.prog 34 = true := by kernel_rfl
/- Function 35: annalistref15.Alike -/
noncomputable def c35code : Code := match Try.f35.body with | some c => c | none => .skip
noncomputable def c35S0 (_ : Unit) : Cmd := (.cond (.tmp 19)
  (.seq (.ops [
  ⟨some 2, .assign (.const (.bool false)), 4, none⟩] [2])
  .ret)
  (.skip [1, 3]))
noncomputable def c35S1 (_ : Unit) : Cmd := (.ops [
 ⟨some 9, .move (.tmp 3), 3, none⟩,
 ⟨some 10, .binOp .add 3 (.tmp 9) (.const (.int .i64 1)) 3, 3, none⟩,
 ⟨some 3, .assign (.tmp 10), 3, none⟩] [1, 3])
noncomputable def c35S2 (_ : Unit) : Cmd := (.seq (.block 1 (.seq (.draw (drawOps 0 c35code) [1, 3, 19]) (sg c35S0))) (sg c35S1))
noncomputable def c35L0 (_ : Unit) : Cmd := (.seq (.seq (.ops [
 ⟨some 4, .move (.tmp 3), 3, none⟩,
 ⟨some 5, .fieldAddr 24 (.tmp 1) 2, 0, none⟩,
 ⟨some 6, .load 22 (.tmp 5), 22, none⟩,
 ⟨some 7, .call ⟨.builtin .len, #[(.tmp 6)], #[22]⟩, 3, none⟩,
 ⟨some 8, .binOp .lss 3 (.tmp 4) (.tmp 7) 3, 4, none⟩] [1, 3, 8])
 (.cond (.tmp 8)
  (.skip [1, 3])
  (.exit 0 []))) (sg c35S2))
noncomputable def c35S3 (_ : Unit) : Cmd := (.seq (.ops [
 ⟨some 2, .assign (.const (.bool true)), 4, none⟩] [2])
 .ret)
noncomputable def c35 : Cmd := (.seq (.ops [
 ⟨some 1, .box 24 (.tmp 0), 0, none⟩,
 ⟨some 2, .assign (.const (.bool false)), 4, none⟩] [1])
 (.seq (.seq (.ops [
 ⟨some 3, .assign (.const (.int .i64 0)), 3, none⟩] [1, 3])
 (.block 0 (.loop (sg c35L0)))) (sg c35S3)))
noncomputable def c35D0 : List (Bool × Ins) := [
 (true, ⟨some 11, .fieldAddr 24 (.tmp 1) 2, 0, none⟩),
 (false, ⟨some 12, .load 22 (.tmp 11), 22, none⟩),
 (true, ⟨some 13, .move (.tmp 3), 3, none⟩),
 (true, ⟨some 14, .indexAddr 22 (.tmp 12) (.tmp 13), 0, none⟩),
 (true, ⟨some 15, .fieldAddr 58 (.tmp 14) 3, 0, none⟩),
 (false, ⟨some 16, .load 3 (.tmp 15), 3, none⟩),
 (true, ⟨some 17, .fieldAddr 24 (.tmp 1) 1, 0, none⟩),
 (false, ⟨some 18, .load 3 (.tmp 17), 3, none⟩),
 (true, ⟨some 19, .binOp .neq 3 (.tmp 16) (.tmp 18) 3, 4, none⟩)]
theorem c35draw0 {L : List Nat} {ρ : Env} {w : World} {Q : Post} (h : DL Try.prog c35D0 L ρ w.drew Q) : drawW Try.prog (drawOps 0 c35code) L ρ w Q :=
  drawW_still [true, false, true, true, true, false, true, false, true] c35D0 (by kernel_rfl) (by kernel_rfl) (by kernel_rfl) h
set_option maxRecDepth 100000 in
theorem ent35 (a0 : Value) (w : World) (K : Value → World → Prop) (h : W Try.prog c35 [(0, a0)] w (finQ Try.prog [.tmp 2] K)) : Ret Try.prog 35 [a0] w K :=
  Ret_of_W (code := c35code) Try.func35 (by kernel_rfl) (by kernel_rfl) (of_decide_eq_true (by kernel_rfl)) h
@[go_sem] theorem go35 : goFunc Try.prog 35 = true := by kernel_rfl
/- Function 36: annalistref15.Short -/
noncomputable def c36code : Code := match Try.f36.body with | some c => c | none => .skip
noncomputable def c36S0 (_ : Unit) : Cmd := (.cond (.tmp 33)
  (.seq (.ops [
  ⟨some 4, .assign (.const (.bool false)), 4, none⟩] [4])
  .ret)
  (.skip [0, 1, 5, 6]))
noncomputable def c36S1 (_ : Unit) : Cmd := (.ops [
 ⟨some 15, .move (.tmp 6), 3, none⟩,
 ⟨some 16, .binOp .add 3 (.tmp 15) (.const (.int .i64 1)) 3, 3, none⟩,
 ⟨some 6, .assign (.tmp 16), 3, none⟩] [0, 1, 5, 6])
noncomputable def c36S2 (_ : Unit) : Cmd := (.seq (.block 1 (.seq (.ops [
 ⟨some 17, .move (.tmp 5), 3, none⟩,
 ⟨some 18, .move (.tmp 1), 25, none⟩,
 ⟨some 19, .move (.tmp 6), 3, none⟩,
 ⟨some 20, .indexAddr 25 (.tmp 18) (.tmp 19), 0, none⟩,
 ⟨some 21, .load 36 (.tmp 20), 36, none⟩,
 ⟨some 22, .call ⟨.builtin .len, #[(.tmp 21)], #[36]⟩, 3, none⟩,
 ⟨some 23, .binOp .add 3 (.tmp 17) (.tmp 22) 3, 3, none⟩,
 ⟨some 5, .assign (.tmp 23), 3, none⟩] [0, 1, 5, 6])
 (.seq (.ops [
 ⟨some 24, .move (.tmp 0), 3, none⟩,
 ⟨some 25, .binOp .eql 3 (.tmp 24) (.const (.int .i64 5)) 3, 4, none⟩,
 ⟨some 26, .move (.tmp 25), 4, none⟩,
 ⟨some 27, .move (.tmp 1), 25, (some (26, true))⟩,
 ⟨some 28, .move (.tmp 6), 3, (some (26, true))⟩,
 ⟨some 29, .indexAddr 25 (.tmp 27) (.tmp 28), 0, (some (26, true))⟩,
 ⟨some 30, .load 36 (.tmp 29), 36, (some (26, true))⟩,
 ⟨some 31, .call ⟨.value (.func 67), #[(.tmp 30)], #[36]⟩, 4, (some (26, true))⟩,
 ⟨some 32, .unOp .not 4 (.tmp 31), 4, (some (26, true))⟩,
 ⟨some 33, .pick (.tmp 26) (.tmp 32) (.const (.bool false)), 4, none⟩] [0, 1, 5, 6, 33]) (sg c36S0)))) (sg c36S1))
noncomputable def c36L0 (_ : Unit) : Cmd := (.seq (.seq (.ops [
 ⟨some 7, .move (.tmp 6), 3, none⟩,
 ⟨some 8, .move (.tmp 1), 25, none⟩,
 ⟨some 9, .call ⟨.builtin .len, #[(.tmp 8)], #[25]⟩, 3, none⟩,
 ⟨some 10, .binOp .lss 3 (.tmp 7) (.tmp 9) 3, 4, none⟩,
 ⟨some 11, .move (.tmp 10), 4, none⟩,
 ⟨some 12, .move (.tmp 6), 3, (some (11, true))⟩,
 ⟨some 13, .binOp .leq 3 (.tmp 12) (.const (.int .i64 20)) 3, 4, (some (11, true))⟩,
 ⟨some 14, .pick (.tmp 11) (.tmp 13) (.const (.bool false)), 4, none⟩] [0, 1, 5, 6, 14])
 (.cond (.tmp 14)
  (.skip [0, 1, 5, 6])
  (.exit 0 [1, 5]))) (sg c36S2))
noncomputable def c36S3 (_ : Unit) : Cmd := (.seq (.ops [
 ⟨some 34, .move (.tmp 1), 25, none⟩,
 ⟨some 35, .call ⟨.builtin .len, #[(.tmp 34)], #[25]⟩, 3, none⟩,
 ⟨some 36, .binOp .leq 3 (.tmp 35) (.const (.int .i64 20)) 3, 4, none⟩,
 ⟨some 37, .move (.tmp 36), 4, none⟩,
 ⟨some 38, .move (.tmp 5), 3, (some (37, true))⟩,
 ⟨some 39, .binOp .leq 3 (.tmp 38) (.const (.int .i64 200)) 3, 4, (some (37, true))⟩,
 ⟨some 40, .pick (.tmp 37) (.tmp 39) (.const (.bool false)), 4, none⟩,
 ⟨some 4, .assign (.tmp 40), 4, none⟩] [4])
 .ret)
noncomputable def c36 : Cmd := (.seq (.ops [
 ⟨some 4, .assign (.const (.bool false)), 4, none⟩] [0, 1])
 (.seq (.ops [
 ⟨some 5, .assign (.const (.int .i64 0)), 3, none⟩] [0, 1, 5])
 (.seq (.seq (.ops [
 ⟨some 6, .assign (.const (.int .i64 0)), 3, none⟩] [0, 1, 5, 6])
 (.block 0 (.loop (sg c36L0)))) (sg c36S3))))
set_option maxRecDepth 100000 in
theorem ent36 (a0 a1 : Value) (w : World) (K : Value → World → Prop) (h : W Try.prog c36 [(0, a0), (1, a1)] w (finQ Try.prog [.tmp 4] K)) : Ret Try.prog 36 [a0, a1] w K :=
  Ret_of_W (code := c36code) Try.func36 (by kernel_rfl) (by kernel_rfl) (of_decide_eq_true (by kernel_rfl)) h
@[go_sem] theorem go36 : goFunc Try.prog 36 = true := by kernel_rfl
/- Function 37: annalistref15.Spots -/
noncomputable def c37code : Code := match Try.f37.body with | some c => c | none => .skip
noncomputable def c37S0 (_ : Unit) : Cmd := (.ops [
 ⟨some 43, .move (.tmp 7), 79, none⟩,
 ⟨some 44, .load 83 (.tmp 11), 83, none⟩,
 ⟨some 45, .buildSlice 79 1 #[(0, (.tmp 44))], 79, none⟩,
 ⟨some 46, .call ⟨.builtin .append, #[(.tmp 43), (.tmp 45)], #[79, 79]⟩, 79, none⟩,
 ⟨some 7, .assign (.tmp 46), 79, none⟩] [0, 2, 7, 8, 9, 10])
noncomputable def c37S1 (_ : Unit) : Cmd := (.seq (.ops [
 ⟨some 40, .move (.tmp 8), 109, none⟩,
 ⟨some 41, .load 83 (.tmp 11), 83, none⟩,
 ⟨some 42, .call ⟨.value (.func 68), #[(.tmp 41)], #[83]⟩, 9, none⟩,
 ⟨none, .mapUpdate 109 (.tmp 40) (.tmp 42) (.const (.bool true)), 0, none⟩] [0, 2, 7, 8, 9, 10, 11]) (sg c37S0))
noncomputable def c37S2 (_ : Unit) : Cmd := (.ops [
 ⟨some 30, .move (.tmp 10), 3, none⟩,
 ⟨some 31, .binOp .add 3 (.tmp 30) (.const (.int .i64 1)) 3, 3, none⟩,
 ⟨some 10, .assign (.tmp 31), 3, none⟩] [0, 2, 7, 8, 9, 10])
noncomputable def c37S3 (_ : Unit) : Cmd := (.seq (.block 1 (.seq (.draw (drawOps 0 c37code) [0, 2, 7, 8, 9, 10, 11]) (sg c37S1))) (sg c37S2))
noncomputable def c37L0 (_ : Unit) : Cmd := (.seq (.seq (.ops [
 ⟨some 20, .move (.tmp 10), 3, none⟩,
 ⟨some 21, .move (.tmp 9), 25, none⟩,
 ⟨some 22, .call ⟨.builtin .len, #[(.tmp 21)], #[25]⟩, 3, none⟩,
 ⟨some 23, .binOp .lss 3 (.tmp 20) (.tmp 22) 3, 4, none⟩,
 ⟨some 24, .move (.tmp 23), 4, none⟩,
 ⟨some 25, .move (.tmp 7), 79, (some (24, true))⟩,
 ⟨some 26, .call ⟨.builtin .len, #[(.tmp 25)], #[79]⟩, 3, (some (24, true))⟩,
 ⟨some 27, .move (.tmp 2), 3, (some (24, true))⟩,
 ⟨some 28, .binOp .leq 3 (.tmp 26) (.tmp 27) 3, 4, (some (24, true))⟩,
 ⟨some 29, .pick (.tmp 24) (.tmp 28) (.const (.bool false)), 4, none⟩] [0, 2, 7, 8, 9, 10, 29])
 (.cond (.tmp 29)
  (.skip [0, 2, 7, 8, 9, 10])
  (.exit 0 [0, 2, 7, 8]))) (sg c37S3))
noncomputable def c37S4 (_ : Unit) : Cmd := (.cond (.tmp 73)
  (.exit 5 [0, 2, 7, 8, 12, 13])
  (.skip [0, 2, 7, 8, 12, 13]))
noncomputable def c37S5 (_ : Unit) : Cmd := (.ops [
  ⟨some 110, .move (.tmp 7), 79, none⟩,
  ⟨some 111, .load 83 (.tmp 16), 83, none⟩,
  ⟨some 112, .buildSlice 79 1 #[(0, (.tmp 111))], 79, none⟩,
  ⟨some 113, .call ⟨.builtin .append, #[(.tmp 110), (.tmp 112)], #[79, 79]⟩, 79, none⟩,
  ⟨some 7, .assign (.tmp 113), 79, none⟩] [0, 2, 7, 8, 12, 13])
noncomputable def c37S6 (_ : Unit) : Cmd := (.cond (.tmp 106)
  (.seq (.ops [
  ⟨some 107, .move (.tmp 8), 109, none⟩,
  ⟨some 108, .load 83 (.tmp 16), 83, none⟩,
  ⟨some 109, .call ⟨.value (.func 68), #[(.tmp 108)], #[83]⟩, 9, none⟩,
  ⟨none, .mapUpdate 109 (.tmp 107) (.tmp 109) (.const (.bool true)), 0, none⟩] [0, 2, 7, 8, 12, 13, 16]) (sg c37S5))
  (.skip [0, 2, 7, 8, 12, 13]))
noncomputable def c37S7 (_ : Unit) : Cmd := (.seq (.ops [
 ⟨some 98, .fieldAddr 83 (.tmp 16) 0, 0, none⟩,
 ⟨some 99, .load 41 (.tmp 98), 41, none⟩,
 ⟨some 100, .move (.tmp 13), 3, none⟩,
 ⟨some 101, .indexAddr 41 (.tmp 99) (.tmp 100), 0, none⟩,
 ⟨none, .store 4 (.tmp 101) (.const (.bool true)), 0, none⟩] [0, 2, 7, 8, 12, 13, 16])
 (.seq (.ops [
 ⟨some 102, .move (.tmp 8), 109, none⟩,
 ⟨some 103, .load 83 (.tmp 16), 83, none⟩,
 ⟨some 104, .call ⟨.value (.func 68), #[(.tmp 103)], #[83]⟩, 9, none⟩,
 ⟨some 105, .lookup 109 (.tmp 102) (.tmp 104) false, 4, none⟩,
 ⟨some 106, .unOp .not 4 (.tmp 105), 4, none⟩] [0, 2, 7, 8, 12, 13, 16, 106]) (sg c37S6)))
noncomputable def c37S8 (_ : Unit) : Cmd := (.seq (.ops [
 ⟨some 89, .buildSlice 41 0 #[], 41, none⟩,
 ⟨some 90, .move (.tmp 7), 79, none⟩,
 ⟨some 91, .move (.tmp 12), 3, none⟩,
 ⟨some 92, .indexAddr 79 (.tmp 90) (.tmp 91), 0, none⟩,
 ⟨some 93, .fieldAddr 83 (.tmp 92) 0, 0, none⟩,
 ⟨some 94, .load 41 (.tmp 93), 41, none⟩,
 ⟨some 95, .call ⟨.builtin .append, #[(.tmp 89), (.tmp 94)], #[41, 41]⟩, 41, none⟩,
 ⟨some 96, .move (.tmp 14), 36, none⟩,
 ⟨some 97, .build 83 #[(0, (.tmp 95)), (1, (.tmp 96))], 83, none⟩,
 ⟨some 16, .alloc 83, 0, none⟩,
 ⟨none, .store 83 (.tmp 16) (.tmp 97), 0, none⟩] [0, 2, 7, 8, 12, 13, 16]) (sg c37S7))
noncomputable def c37S9 (_ : Unit) : Cmd := (.seq (.seq (.ops [
 ⟨some 87, .move (.tmp 15), 4, none⟩,
 ⟨some 88, .unOp .not 4 (.tmp 87), 4, none⟩] [0, 2, 7, 8, 12, 13, 14, 88])
 (.cond (.tmp 88)
  (.exit 5 [0, 2, 7, 8, 12, 13])
  (.skip [0, 2, 7, 8, 12, 13, 14]))) (sg c37S8))
noncomputable def c37S10 (_ : Unit) : Cmd := (.seq (.draw (drawOps 1 c37code) [0, 2, 7, 8, 12, 13, 14, 15]) (sg c37S9))
noncomputable def c37S11 (_ : Unit) : Cmd := (.ops [
 ⟨some 63, .move (.tmp 13), 3, none⟩,
 ⟨some 64, .binOp .add 3 (.tmp 63) (.const (.int .i64 1)) 3, 3, none⟩,
 ⟨some 13, .assign (.tmp 64), 3, none⟩] [0, 2, 7, 8, 12, 13])
noncomputable def c37S12 (_ : Unit) : Cmd := (.seq (.block 5 (.seq (.seq (.ops [
 ⟨some 65, .move (.tmp 0), 22, none⟩,
 ⟨some 66, .move (.tmp 7), 79, none⟩,
 ⟨some 67, .move (.tmp 12), 3, none⟩,
 ⟨some 68, .indexAddr 79 (.tmp 66) (.tmp 67), 0, none⟩,
 ⟨some 69, .fieldAddr 83 (.tmp 68) 0, 0, none⟩,
 ⟨some 70, .load 41 (.tmp 69), 41, none⟩,
 ⟨some 71, .move (.tmp 13), 3, none⟩,
 ⟨some 72, .call ⟨.value (.func 48), #[(.tmp 65), (.tmp 70), (.tmp 71)], #[22, 41, 3]⟩, 4, none⟩,
 ⟨some 73, .unOp .not 4 (.tmp 72), 4, none⟩] [0, 2, 7, 8, 12, 13, 73]) (sg c37S4)) (sg c37S10))) (sg c37S11))
noncomputable def c37L1 (_ : Unit) : Cmd := (.seq (.seq (.ops [
 ⟨some 59, .move (.tmp 13), 3, none⟩,
 ⟨some 60, .move (.tmp 0), 22, none⟩,
 ⟨some 61, .call ⟨.builtin .len, #[(.tmp 60)], #[22]⟩, 3, none⟩,
 ⟨some 62, .binOp .lss 3 (.tmp 59) (.tmp 61) 3, 4, none⟩] [0, 2, 7, 8, 12, 13, 62])
 (.cond (.tmp 62)
  (.skip [0, 2, 7, 8, 12, 13])
  (.exit 4 [0, 2, 7, 8, 12]))) (sg c37S12))
noncomputable def c37S13 (_ : Unit) : Cmd := (.ops [
 ⟨some 57, .move (.tmp 12), 3, none⟩,
 ⟨some 58, .binOp .add 3 (.tmp 57) (.const (.int .i64 1)) 3, 3, none⟩,
 ⟨some 12, .assign (.tmp 58), 3, none⟩] [0, 2, 7, 8, 12])
noncomputable def c37S14 (_ : Unit) : Cmd := (.seq (.block 3 (.seq (.ops [
 ⟨some 13, .assign (.const (.int .i64 0)), 3, none⟩] [0, 2, 7, 8, 12, 13])
 (.block 4 (.loop (sg c37L1))))) (sg c37S13))
noncomputable def c37L2 (_ : Unit) : Cmd := (.seq (.seq (.ops [
 ⟨some 47, .move (.tmp 12), 3, none⟩,
 ⟨some 48, .move (.tmp 7), 79, none⟩,
 ⟨some 49, .call ⟨.builtin .len, #[(.tmp 48)], #[79]⟩, 3, none⟩,
 ⟨some 50, .binOp .lss 3 (.tmp 47) (.tmp 49) 3, 4, none⟩,
 ⟨some 51, .move (.tmp 50), 4, none⟩,
 ⟨some 52, .move (.tmp 7), 79, (some (51, true))⟩,
 ⟨some 53, .call ⟨.builtin .len, #[(.tmp 52)], #[79]⟩, 3, (some (51, true))⟩,
 ⟨some 54, .move (.tmp 2), 3, (some (51, true))⟩,
 ⟨some 55, .binOp .leq 3 (.tmp 53) (.tmp 54) 3, 4, (some (51, true))⟩,
 ⟨some 56, .pick (.tmp 51) (.tmp 55) (.const (.bool false)), 4, none⟩] [0, 2, 7, 8, 12, 56])
 (.cond (.tmp 56)
  (.skip [0, 2, 7, 8, 12])
  (.exit 2 [7]))) (sg c37S14))
noncomputable def c37S15 (_ : Unit) : Cmd := (.seq (.ops [
 ⟨some 114, .move (.tmp 7), 79, none⟩,
 ⟨some 6, .assign (.tmp 114), 79, none⟩] [6])
 .ret)
noncomputable def c37S16 (_ : Unit) : Cmd := (.seq (.seq (.ops [
 ⟨some 12, .assign (.const (.int .i64 0)), 3, none⟩] [0, 2, 7, 8, 12])
 (.block 2 (.loop (sg c37L2)))) (sg c37S15))
noncomputable def c37S17 (_ : Unit) : Cmd := (.seq (.seq (.ops [
 ⟨some 10, .assign (.const (.int .i64 0)), 3, none⟩] [0, 2, 7, 8, 9, 10])
 (.block 0 (.loop (sg c37L0)))) (sg c37S16))
noncomputable def c37 : Cmd := (.seq (.ops [
 ⟨some 6, .assign (.const (.slice none 0 0)), 79, none⟩] [0, 1, 2])
 (.seq (.ops [
 ⟨some 7, .assign (.const (.slice none 0 0)), 79, none⟩] [0, 1, 2, 7])
 (.seq (.ops [
 ⟨some 17, .makeMap 109 none, 109, none⟩,
 ⟨some 8, .assign (.tmp 17), 109, none⟩] [0, 1, 2, 7, 8])
 (.seq (.ops [
 ⟨some 18, .move (.tmp 1), 25, none⟩,
 ⟨some 19, .call ⟨.value (.func 19), #[(.tmp 18)], #[25]⟩, 25, none⟩,
 ⟨some 9, .assign (.tmp 19), 25, none⟩] [0, 2, 7, 8, 9]) (sg c37S17)))))
/- TREE function 37 draw 0: several may come: [2, 6, 8] after [0, 1, 3, 4, 5] -/
noncomputable def c37D0 : GT := (.one 0 ⟨some 32, .move (.tmp 0), 22, none⟩
 (.one 0 ⟨some 33, .call ⟨.builtin .len, #[(.tmp 32)], #[22]⟩, 3, none⟩
 (.one 0 ⟨some 35, .move (.tmp 9), 25, none⟩
 (.one 0 ⟨some 36, .move (.tmp 10), 3, none⟩
 (.one 0 ⟨some 37, .indexAddr 25 (.tmp 35) (.tmp 36), 0, none⟩
 (.one 1 ⟨some 38, .load 36 (.tmp 37), 36, none⟩
 (.alt ⟨some 34, .makeSlice 41 (.tmp 33) (.tmp 33), 41, none⟩
 (.alt ⟨some 39, .build 83 #[(0, (.tmp 34)), (1, (.tmp 38))], 83, none⟩
 (.one 2 ⟨some 11, .alloc 83, 0, none⟩
 (.one 2 ⟨none, .store 83 (.tmp 11) (.tmp 39), 0, none⟩
 .nil))
 (.alt ⟨some 11, .alloc 83, 0, none⟩
 (.one 2 ⟨some 39, .build 83 #[(0, (.tmp 34)), (1, (.tmp 38))], 83, none⟩
 (.one 2 ⟨none, .store 83 (.tmp 11) (.tmp 39), 0, none⟩
 .nil))
 .stop))
 (.alt ⟨some 11, .alloc 83, 0, none⟩
 (.one 2 ⟨some 34, .makeSlice 41 (.tmp 33) (.tmp 33), 41, none⟩
 (.one 2 ⟨some 39, .build 83 #[(0, (.tmp 34)), (1, (.tmp 38))], 83, none⟩
 (.one 2 ⟨none, .store 83 (.tmp 11) (.tmp 39), 0, none⟩
 .nil)))
 .stop))))))))
theorem c37draw0 {L : List Nat} {ρ : Env} {w : World} {Q : Post} (S : World → Prop) (hS : S w.drew) (h : DT Try.prog S c37D0 L ρ w.drew Q) : drawW Try.prog (drawOps 0 c37code) L ρ w Q :=
  drawW_tree [6] (.one 0 0 (.one 0 1 (.one 0 3 (.one 0 4 (.one 0 5 (.one 1 6 (.alt 2 (.alt 7 (.one 2 8 (.one 2 9 .nil)) (.alt 8 (.one 2 7 (.one 2 9 .nil)) .stop)) (.alt 8 (.one 2 2 (.one 2 7 (.one 2 9 .nil))) .stop)))))))) c37D0 (by kernel_rfl) (by kernel_rfl) (by kernel_rfl) S hS h
noncomputable def c37D1 : List (Nat × Ins) := [
 (0, ⟨some 75, .move (.tmp 7), 79, none⟩),
 (0, ⟨some 76, .move (.tmp 12), 3, none⟩),
 (0, ⟨some 77, .indexAddr 79 (.tmp 75) (.tmp 76), 0, none⟩),
 (0, ⟨some 78, .fieldAddr 83 (.tmp 77) 1, 0, none⟩),
 (0, ⟨some 80, .move (.tmp 0), 22, none⟩),
 (0, ⟨some 81, .move (.tmp 13), 3, none⟩),
 (0, ⟨some 82, .indexAddr 22 (.tmp 80) (.tmp 81), 0, none⟩),
 (1, ⟨some 79, .load 36 (.tmp 78), 36, none⟩),
 (2, ⟨some 83, .load 58 (.tmp 82), 58, none⟩),
 (3, ⟨some 84, .call ⟨.value (.func 49), #[(.tmp 79), (.tmp 83)], #[36, 58]⟩, 74, none⟩),
 (0, ⟨some 74, .move (.tmp 84), 74, none⟩),
 (0, ⟨some 85, .extract (.tmp 74) 0, 36, none⟩),
 (0, ⟨some 86, .extract (.tmp 74) 1, 4, none⟩),
 (0, ⟨some 14, .assign (.tmp 85), 36, none⟩),
 (0, ⟨some 15, .assign (.tmp 86), 4, none⟩)]
theorem c37draw1 {L : List Nat} {ρ : Env} {w : World} {Q : Post} (S : World → Prop) (hS : S w.drew) (h : DG Try.prog S c37D1 L ρ w.drew Q) : drawW Try.prog (drawOps 1 c37code) L ρ w Q :=
  drawW_held [4] [(0, 0), (0, 1), (0, 2), (0, 3), (0, 5), (0, 6), (0, 7), (1, 4), (2, 8), (3, 9), (0, 10), (0, 11), (0, 12), (0, 13), (0, 14)] c37D1 (by kernel_rfl) (by kernel_rfl) (by kernel_rfl) S hS h
set_option maxRecDepth 100000 in
theorem ent37 (a0 a1 a2 : Value) (w : World) (K : Value → World → Prop) (h : W Try.prog c37 [(0, a0), (1, a1), (2, a2)] w (finQ Try.prog [.tmp 6] K)) : Ret Try.prog 37 [a0, a1, a2] w K :=
  Ret_of_W (code := c37code) Try.func37 (by kernel_rfl) (by kernel_rfl) (of_decide_eq_true (by kernel_rfl)) h
@[go_sem] theorem go37 : goFunc Try.prog 37 = true := by kernel_rfl
/- Function 38: annalistref15.full -/
noncomputable def c38code : Code := match Try.f38.body with | some c => c | none => .skip
noncomputable def c38S0 (_ : Unit) : Cmd := (.ops [
 ⟨some 10, .move (.tmp 5), 3, none⟩,
 ⟨some 11, .binOp .add 3 (.tmp 10) (.const (.int .i64 1)) 3, 3, none⟩,
 ⟨some 5, .assign (.tmp 11), 3, none⟩] [0, 1, 5])
noncomputable def c38S1 (_ : Unit) : Cmd := (.seq (.block 1 (.seq (.ops [
 ⟨some 12, .move (.tmp 0), 22, none⟩,
 ⟨some 13, .move (.tmp 5), 3, none⟩,
 ⟨some 14, .indexAddr 22 (.tmp 12) (.tmp 13), 0, none⟩,
 ⟨some 15, .fieldAddr 58 (.tmp 14) 7, 0, none⟩,
 ⟨some 16, .load 4 (.tmp 15), 4, none⟩,
 ⟨some 17, .move (.tmp 16), 4, none⟩,
 ⟨some 18, .move (.tmp 1), 41, (some (17, true))⟩,
 ⟨some 19, .move (.tmp 5), 3, (some (17, true))⟩,
 ⟨some 20, .indexAddr 41 (.tmp 18) (.tmp 19), 0, (some (17, true))⟩,
 ⟨some 21, .load 4 (.tmp 20), 4, (some (17, true))⟩,
 ⟨some 22, .unOp .not 4 (.tmp 21), 4, (some (17, true))⟩,
 ⟨some 23, .pick (.tmp 17) (.tmp 22) (.const (.bool false)), 4, none⟩] [0, 1, 5, 23])
 (.cond (.tmp 23)
  (.seq (.ops [
  ⟨some 4, .assign (.const (.bool false)), 4, none⟩] [4])
  .ret)
  (.skip [0, 1, 5])))) (sg c38S0))
noncomputable def c38L0 (_ : Unit) : Cmd := (.seq (.seq (.ops [
 ⟨some 6, .move (.tmp 5), 3, none⟩,
 ⟨some 7, .move (.tmp 0), 22, none⟩,
 ⟨some 8, .call ⟨.builtin .len, #[(.tmp 7)], #[22]⟩, 3, none⟩,
 ⟨some 9, .binOp .lss 3 (.tmp 6) (.tmp 8) 3, 4, none⟩] [0, 1, 5, 9])
 (.cond (.tmp 9)
  (.skip [0, 1, 5])
  (.exit 0 []))) (sg c38S1))
noncomputable def c38S2 (_ : Unit) : Cmd := (.seq (.ops [
 ⟨some 4, .assign (.const (.bool true)), 4, none⟩] [4])
 .ret)
noncomputable def c38 : Cmd := (.seq (.ops [
 ⟨some 4, .assign (.const (.bool false)), 4, none⟩] [0, 1])
 (.seq (.seq (.ops [
 ⟨some 5, .assign (.const (.int .i64 0)), 3, none⟩] [0, 1, 5])
 (.block 0 (.loop (sg c38L0)))) (sg c38S2)))
set_option maxRecDepth 100000 in
theorem ent38 (a0 a1 : Value) (w : World) (K : Value → World → Prop) (h : W Try.prog c38 [(0, a0), (1, a1)] w (finQ Try.prog [.tmp 4] K)) : Ret Try.prog 38 [a0, a1] w K :=
  Ret_of_W (code := c38code) Try.func38 (by kernel_rfl) (by kernel_rfl) (of_decide_eq_true (by kernel_rfl)) h
@[go_sem] theorem go38 : goFunc Try.prog 38 = true := by kernel_rfl
/- Function 39: slices.Clone[[]int,int] -/
noncomputable def c39code : Code := match Try.f39.body with | some c => c | none => .skip
noncomputable def c39S0 (_ : Unit) : Cmd := .ret
noncomputable def c39S1 (_ : Unit) : Cmd := (.seq (.ops [
 ⟨some 5, .buildSlice 36 0 #[], 36, none⟩,
 ⟨some 6, .move (.tmp 0), 36, none⟩,
 ⟨some 7, .call ⟨.builtin .append, #[(.tmp 5), (.tmp 6)], #[36, 36]⟩, 36, none⟩,
 ⟨some 2, .assign (.tmp 7), 36, none⟩] [2]) (sg c39S0))
noncomputable def c39 : Cmd := (.seq (.ops [
 ⟨some 2, .assign (.const (.slice none 0 0)), 36, none⟩] [0])
 (.seq (.seq (.ops [
 ⟨some 3, .move (.tmp 0), 36, none⟩,
 ⟨some 4, .binOp .eql 36 (.tmp 3) (.const (.slice none 0 0)) 36, 4, none⟩] [0, 4])
 (.cond (.tmp 4)
  (.seq (.ops [
  ⟨some 2, .assign (.const (.slice none 0 0)), 36, none⟩] [2])
  .ret)
  (.skip [0]))) (sg c39S1)))
set_option maxRecDepth 100000 in
theorem ent39 (a0 : Value) (w : World) (K : Value → World → Prop) (h : W Try.prog c39 [(0, a0)] w (finQ Try.prog [.tmp 2] K)) : Ret Try.prog 39 [a0] w K :=
  Ret_of_W (code := c39code) Try.func39 (by kernel_rfl) (by kernel_rfl) (of_decide_eq_true (by kernel_rfl)) h
@[go_sem] theorem go39 : goFunc Try.prog 39 = true := by kernel_rfl
/- Function 41: lin.Unique$1 -/
noncomputable def c41code : Code := match Try.f41.body with | some c => c | none => .skip
noncomputable def c41S0 (_ : Unit) : Cmd := .ret
noncomputable def c41 : Cmd := (.seq (.ops [
 ⟨some 4, .assign (.const (.int .i64 0)), 3, none⟩] [0, 1])
 (.seq (.ops [
 ⟨some 5, .move (.tmp 0), 36, none⟩,
 ⟨some 6, .call ⟨.value (.func 43), #[(.tmp 5)], #[36]⟩, 9, none⟩,
 ⟨some 7, .move (.tmp 1), 36, none⟩,
 ⟨some 8, .call ⟨.value (.func 43), #[(.tmp 7)], #[36]⟩, 9, none⟩,
 ⟨some 9, .call ⟨.value (.func 42), #[(.tmp 6), (.tmp 8)], #[9, 9]⟩, 3, none⟩,
 ⟨some 4, .assign (.tmp 9), 3, none⟩] [4]) (sg c41S0)))
set_option maxRecDepth 100000 in
theorem ent41 (a0 a1 : Value) (w : World) (K : Value → World → Prop) (h : W Try.prog c41 [(0, a0), (1, a1)] w (finQ Try.prog [.tmp 4] K)) : Ret Try.prog 41 [a0, a1] w K :=
  Ret_of_W (code := c41code) Try.func41 (by kernel_rfl) (by kernel_rfl) (of_decide_eq_true (by kernel_rfl)) h
@[go_sem] theorem go41 : goFunc Try.prog 41 = true := by kernel_rfl
/- Function 42: strings.Compare -/
noncomputable def c42code : Code := match Try.f42.body with | some c => c | none => .skip
noncomputable def c42S0 (_ : Unit) : Cmd := .ret
noncomputable def c42 : Cmd := (.seq (.ops [
 ⟨some 4, .assign (.const (.int .i64 0)), 3, none⟩] [0, 1])
 (.seq (.ops [
 ⟨some 5, .move (.tmp 0), 9, none⟩,
 ⟨some 6, .move (.tmp 1), 9, none⟩,
 ⟨some 7, .call ⟨.value (.func 71), #[(.tmp 5), (.tmp 6)], #[9, 9]⟩, 3, none⟩,
 ⟨some 4, .assign (.tmp 7), 3, none⟩] [4]) (sg c42S0)))
set_option maxRecDepth 100000 in
theorem ent42 (a0 a1 : Value) (w : World) (K : Value → World → Prop) (h : W Try.prog c42 [(0, a0), (1, a1)] w (finQ Try.prog [.tmp 4] K)) : Ret Try.prog 42 [a0, a1] w K :=
  Ret_of_W (code := c42code) Try.func42 (by kernel_rfl) (by kernel_rfl) (of_decide_eq_true (by kernel_rfl)) h
@[go_sem] theorem go42 : goFunc Try.prog 42 = true := by kernel_rfl
/- Function 43: model.Text -/
noncomputable def c43code : Code := match Try.f43.body with | some c => c | none => .skip
noncomputable def c43S0 (_ : Unit) : Cmd := (.ops [
 ⟨some 21, .binOp .add 3 (.tmp 12) (.const (.int .i64 1)) 3, 3, none⟩,
 ⟨some 12, .move (.tmp 21), 3, none⟩] [3, 10, 11, 12])
noncomputable def c43S1 (_ : Unit) : Cmd := (.seq (.block 1 (.seq (.ops [
 ⟨some 14, .indexAddr 36 (.tmp 10) (.tmp 12), 0, none⟩,
 ⟨some 15, .load 3 (.tmp 14), 3, none⟩,
 ⟨some 5, .assign (.tmp 15), 3, none⟩] [3, 5, 10, 11, 12])
 (.ops [
 ⟨some 16, .move (.tmp 3), 9, none⟩,
 ⟨some 17, .move (.tmp 5), 3, none⟩,
 ⟨some 18, .call ⟨.value (.func 73), #[(.tmp 17)], #[3]⟩, 114, none⟩,
 ⟨some 19, .call ⟨.value (.func 72), #[(.tmp 18)], #[114]⟩, 9, none⟩,
 ⟨some 20, .binOp .add 9 (.tmp 16) (.tmp 19) 9, 9, none⟩,
 ⟨some 3, .assign (.tmp 20), 9, none⟩] [3, 10, 11, 12]))) (sg c43S0))
noncomputable def c43L0 (_ : Unit) : Cmd := (.seq (.ops [
 ⟨some 13, .binOp .lss 3 (.tmp 12) (.tmp 11) 3, 0, none⟩] [3, 10, 11, 12, 13])
 (.seq (.cond (.tmp 13)
  (.skip [3, 10, 11, 12])
  (.exit 0 [3])) (sg c43S1)))
noncomputable def c43S2 (_ : Unit) : Cmd := (.seq (.ops [
 ⟨some 22, .move (.tmp 3), 9, none⟩,
 ⟨some 2, .assign (.tmp 22), 9, none⟩] [2])
 .ret)
noncomputable def c43S3 (_ : Unit) : Cmd := (.seq (.seq (.ops [
 ⟨some 10, .move (.tmp 0), 36, none⟩,
 ⟨some 11, .call ⟨.builtin .len, #[(.tmp 10)], #[36]⟩, 3, none⟩,
 ⟨some 12, .move (.const (.int .i64 0)), 3, none⟩] [3, 10, 11, 12])
 (.block 0 (.loop (sg c43L0)))) (sg c43S2))
noncomputable def c43 : Cmd := (.seq (.ops [
 ⟨some 2, .assign (.const (.string (ofL []))), 9, none⟩] [0])
 (.seq (.ops [
 ⟨some 6, .move (.tmp 0), 36, none⟩,
 ⟨some 7, .call ⟨.builtin .len, #[(.tmp 6)], #[36]⟩, 3, none⟩,
 ⟨some 8, .convert 3 114 (.tmp 7), 114, none⟩,
 ⟨some 9, .call ⟨.value (.func 72), #[(.tmp 8)], #[114]⟩, 9, none⟩,
 ⟨some 3, .assign (.tmp 9), 9, none⟩] [0, 3]) (sg c43S3)))
set_option maxRecDepth 100000 in
theorem ent43 (a0 : Value) (w : World) (K : Value → World → Prop) (h : W Try.prog c43 [(0, a0)] w (finQ Try.prog [.tmp 2] K)) : Ret Try.prog 43 [a0] w K :=
  Ret_of_W (code := c43code) Try.func43 (by kernel_rfl) (by kernel_rfl) (of_decide_eq_true (by kernel_rfl)) h
@[go_sem] theorem go43 : goFunc Try.prog 43 = true := by kernel_rfl
/- Function 44: slices.CompactFunc[[][]int,[]int] -/
noncomputable def c44code : Code := match Try.f44.body with | some c => c | none => .skip
noncomputable def c44S0 (_ : Unit) : Cmd := (.cond (.tmp 49)
  (.seq (.ops [
  ⟨some 50, .move (.tmp 0), 25, none⟩,
  ⟨some 51, .move (.tmp 5), 3, none⟩,
  ⟨some 52, .move (.tmp 6), 25, none⟩,
  ⟨some 53, .move (.tmp 7), 3, none⟩,
  ⟨some 54, .indexAddr 25 (.tmp 52) (.tmp 53), 0, none⟩,
  ⟨some 55, .load 36 (.tmp 54), 36, none⟩,
  ⟨some 56, .indexAddr 25 (.tmp 50) (.tmp 51), 0, none⟩,
  ⟨none, .store 36 (.tmp 56) (.tmp 55), 0, none⟩] [0, 1, 5, 6, 7])
  (.ops [
  ⟨some 57, .move (.tmp 5), 3, none⟩,
  ⟨some 58, .binOp .add 3 (.tmp 57) (.const (.int .i64 1)) 3, 3, none⟩,
  ⟨some 5, .assign (.tmp 58), 3, none⟩] [0, 1, 5, 6, 7]))
  (.skip [0, 1, 5, 6, 7]))
noncomputable def c44S1 (_ : Unit) : Cmd := (.ops [
 ⟨some 36, .move (.tmp 7), 3, none⟩,
 ⟨some 37, .binOp .add 3 (.tmp 36) (.const (.int .i64 1)) 3, 3, none⟩,
 ⟨some 7, .assign (.tmp 37), 3, none⟩] [0, 1, 5, 6, 7])
noncomputable def c44S2 (_ : Unit) : Cmd := (.seq (.block 3 (.seq (.draw (drawOps 1 c44code) [0, 1, 5, 6, 7, 49]) (sg c44S0))) (sg c44S1))
noncomputable def c44L0 (_ : Unit) : Cmd := (.seq (.seq (.ops [
 ⟨some 32, .move (.tmp 7), 3, none⟩,
 ⟨some 33, .move (.tmp 6), 25, none⟩,
 ⟨some 34, .call ⟨.builtin .len, #[(.tmp 33)], #[25]⟩, 3, none⟩,
 ⟨some 35, .binOp .lss 3 (.tmp 32) (.tmp 34) 3, 4, none⟩] [0, 1, 5, 6, 7, 35])
 (.cond (.tmp 35)
  (.skip [0, 1, 5, 6, 7])
  (.exit 2 [0, 5]))) (sg c44S2))
noncomputable def c44S3 (_ : Unit) : Cmd := (.seq (.ops [
  ⟨some 62, .move (.tmp 0), 25, none⟩,
  ⟨some 63, .move (.tmp 5), 3, none⟩,
  ⟨some 64, .slice 25 (.tmp 62) none (some (.tmp 63)) none, 25, none⟩,
  ⟨some 4, .assign (.tmp 64), 25, none⟩] [4])
  .ret)
noncomputable def c44S4 (_ : Unit) : Cmd := (.seq (.ops [
  ⟨some 59, .move (.tmp 0), 25, none⟩,
  ⟨some 60, .move (.tmp 5), 3, none⟩,
  ⟨some 61, .slice 25 (.tmp 59) (some (.tmp 60)) none none, 25, none⟩,
  ⟨none, .call ⟨.builtin .clear, #[(.tmp 61)], #[25]⟩, 0, none⟩] [0, 5]) (sg c44S3))
noncomputable def c44S5 (_ : Unit) : Cmd := (.cond (.tmp 28)
  (.seq (.ops [
  ⟨some 29, .move (.tmp 0), 25, none⟩,
  ⟨some 30, .move (.tmp 5), 3, none⟩,
  ⟨some 31, .slice 25 (.tmp 29) (some (.tmp 30)) none none, 25, none⟩,
  ⟨some 6, .assign (.tmp 31), 25, none⟩] [0, 1, 5, 6])
  (.seq (.seq (.ops [
  ⟨some 7, .assign (.const (.int .i64 1)), 3, none⟩] [0, 1, 5, 6, 7])
  (.block 2 (.loop (sg c44L0)))) (sg c44S4)))
  (.skip [0, 1, 5]))
noncomputable def c44S6 (_ : Unit) : Cmd := (.ops [
 ⟨some 16, .move (.tmp 5), 3, none⟩,
 ⟨some 17, .binOp .add 3 (.tmp 16) (.const (.int .i64 1)) 3, 3, none⟩,
 ⟨some 5, .assign (.tmp 17), 3, none⟩] [0, 1, 5])
noncomputable def c44S7 (_ : Unit) : Cmd := (.seq (.block 1 (.seq (.draw (drawOps 0 c44code) [0, 1, 5, 28]) (sg c44S5))) (sg c44S6))
noncomputable def c44L1 (_ : Unit) : Cmd := (.seq (.seq (.ops [
 ⟨some 12, .move (.tmp 5), 3, none⟩,
 ⟨some 13, .move (.tmp 0), 25, none⟩,
 ⟨some 14, .call ⟨.builtin .len, #[(.tmp 13)], #[25]⟩, 3, none⟩,
 ⟨some 15, .binOp .lss 3 (.tmp 12) (.tmp 14) 3, 4, none⟩] [0, 1, 5, 15])
 (.cond (.tmp 15)
  (.skip [0, 1, 5])
  (.exit 0 [0]))) (sg c44S7))
noncomputable def c44S8 (_ : Unit) : Cmd := (.seq (.ops [
 ⟨some 65, .move (.tmp 0), 25, none⟩,
 ⟨some 4, .assign (.tmp 65), 25, none⟩] [4])
 .ret)
noncomputable def c44S9 (_ : Unit) : Cmd := (.seq (.seq (.ops [
 ⟨some 5, .assign (.const (.int .i64 1)), 3, none⟩] [0, 1, 5])
 (.block 0 (.loop (sg c44L1)))) (sg c44S8))
noncomputable def c44 : Cmd := (.seq (.ops [
 ⟨some 4, .assign (.const (.slice none 0 0)), 25, none⟩] [0, 1])
 (.seq (.seq (.ops [
 ⟨some 8, .move (.tmp 0), 25, none⟩,
 ⟨some 9, .call ⟨.builtin .len, #[(.tmp 8)], #[25]⟩, 3, none⟩,
 ⟨some 10, .binOp .lss 3 (.tmp 9) (.const (.int .i64 2)) 3, 4, none⟩] [0, 1, 10])
 (.cond (.tmp 10)
  (.seq (.ops [
  ⟨some 11, .move (.tmp 0), 25, none⟩,
  ⟨some 4, .assign (.tmp 11), 25, none⟩] [4])
  .ret)
  (.skip [0, 1]))) (sg c44S9)))
noncomputable def c44D0 : List (Nat × Ins) := [
 (0, ⟨some 18, .move (.tmp 1), 56, none⟩),
 (0, ⟨some 19, .move (.tmp 0), 25, none⟩),
 (0, ⟨some 20, .move (.tmp 5), 3, none⟩),
 (0, ⟨some 21, .indexAddr 25 (.tmp 19) (.tmp 20), 0, none⟩),
 (0, ⟨some 23, .move (.tmp 0), 25, none⟩),
 (0, ⟨some 24, .move (.tmp 5), 3, none⟩),
 (0, ⟨some 25, .binOp .sub 3 (.tmp 24) (.const (.int .i64 1)) 3, 3, none⟩),
 (0, ⟨some 26, .indexAddr 25 (.tmp 23) (.tmp 25), 0, none⟩),
 (1, ⟨some 22, .load 36 (.tmp 21), 36, none⟩),
 (2, ⟨some 27, .load 36 (.tmp 26), 36, none⟩),
 (3, ⟨some 28, .call ⟨.value (.tmp 18), #[(.tmp 22), (.tmp 27)], #[36, 36]⟩, 4, none⟩)]
theorem c44draw0 {L : List Nat} {ρ : Env} {w : World} {Q : Post} (S : World → Prop) (hS : S w.drew) (h : DG Try.prog S c44D0 L ρ w.drew Q) : drawW Try.prog (drawOps 0 c44code) L ρ w Q :=
  drawW_held [4] [(0, 0), (0, 1), (0, 2), (0, 3), (0, 5), (0, 6), (0, 7), (0, 8), (1, 4), (2, 9), (3, 10)] c44D0 (by kernel_rfl) (by kernel_rfl) (by kernel_rfl) S hS h
noncomputable def c44D1 : List (Nat × Ins) := [
 (0, ⟨some 38, .move (.tmp 1), 56, none⟩),
 (0, ⟨some 39, .move (.tmp 6), 25, none⟩),
 (0, ⟨some 40, .move (.tmp 7), 3, none⟩),
 (0, ⟨some 41, .indexAddr 25 (.tmp 39) (.tmp 40), 0, none⟩),
 (0, ⟨some 43, .move (.tmp 6), 25, none⟩),
 (0, ⟨some 44, .move (.tmp 7), 3, none⟩),
 (0, ⟨some 45, .binOp .sub 3 (.tmp 44) (.const (.int .i64 1)) 3, 3, none⟩),
 (0, ⟨some 46, .indexAddr 25 (.tmp 43) (.tmp 45), 0, none⟩),
 (1, ⟨some 42, .load 36 (.tmp 41), 36, none⟩),
 (2, ⟨some 47, .load 36 (.tmp 46), 36, none⟩),
 (3, ⟨some 48, .call ⟨.value (.tmp 38), #[(.tmp 42), (.tmp 47)], #[36, 36]⟩, 4, none⟩),
 (0, ⟨some 49, .unOp .not 4 (.tmp 48), 4, none⟩)]
theorem c44draw1 {L : List Nat} {ρ : Env} {w : World} {Q : Post} (S : World → Prop) (hS : S w.drew) (h : DG Try.prog S c44D1 L ρ w.drew Q) : drawW Try.prog (drawOps 1 c44code) L ρ w Q :=
  drawW_held [4] [(0, 0), (0, 1), (0, 2), (0, 3), (0, 5), (0, 6), (0, 7), (0, 8), (1, 4), (2, 9), (3, 10), (0, 11)] c44D1 (by kernel_rfl) (by kernel_rfl) (by kernel_rfl) S hS h
set_option maxRecDepth 100000 in
theorem ent44 (a0 a1 : Value) (w : World) (K : Value → World → Prop) (h : W Try.prog c44 [(0, a0), (1, a1)] w (finQ Try.prog [.tmp 4] K)) : Ret Try.prog 44 [a0, a1] w K :=
  Ret_of_W (code := c44code) Try.func44 (by kernel_rfl) (by kernel_rfl) (of_decide_eq_true (by kernel_rfl)) h
@[go_sem] theorem go44 : goFunc Try.prog 44 = true := by kernel_rfl
/- Function 45: lin.Unique$2 -/
noncomputable def c45code : Code := match Try.f45.body with | some c => c | none => .skip
noncomputable def c45S0 (_ : Unit) : Cmd := .ret
noncomputable def c45 : Cmd := (.seq (.ops [
 ⟨some 4, .assign (.const (.bool false)), 4, none⟩] [0, 1])
 (.seq (.ops [
 ⟨some 5, .move (.tmp 0), 36, none⟩,
 ⟨some 6, .move (.tmp 1), 36, none⟩,
 ⟨some 7, .call ⟨.value (.func 46), #[(.tmp 5), (.tmp 6)], #[36, 36]⟩, 4, none⟩,
 ⟨some 4, .assign (.tmp 7), 4, none⟩] [4]) (sg c45S0)))
set_option maxRecDepth 100000 in
theorem ent45 (a0 a1 : Value) (w : World) (K : Value → World → Prop) (h : W Try.prog c45 [(0, a0), (1, a1)] w (finQ Try.prog [.tmp 4] K)) : Ret Try.prog 45 [a0, a1] w K :=
  Ret_of_W (code := c45code) Try.func45 (by kernel_rfl) (by kernel_rfl) (of_decide_eq_true (by kernel_rfl)) h
@[go_sem] theorem go45 : goFunc Try.prog 45 = true := by kernel_rfl
/- Function 46: slices.Equal[[]int,int] -/
noncomputable def c46code : Code := match Try.f46.body with | some c => c | none => .skip
noncomputable def c46S0 (_ : Unit) : Cmd := (.cond (.tmp 24)
  (.seq (.ops [
  ⟨some 4, .assign (.const (.bool false)), 4, none⟩] [4])
  .ret)
  (.skip [0, 1, 12, 13]))
noncomputable def c46S1 (_ : Unit) : Cmd := (.ops [
 ⟨some 25, .binOp .add 3 (.tmp 13) (.const (.int .i64 1)) 3, 3, none⟩,
 ⟨some 13, .move (.tmp 25), 3, none⟩] [0, 1, 12, 13])
noncomputable def c46S2 (_ : Unit) : Cmd := (.seq (.block 1 (.seq (.ops [
 ⟨some 15, .move (.tmp 13), 3, none⟩,
 ⟨some 5, .assign (.tmp 15), 3, none⟩] [0, 1, 5, 12, 13])
 (.seq (.draw (drawOps 0 c46code) [0, 1, 12, 13, 24]) (sg c46S0)))) (sg c46S1))
noncomputable def c46L0 (_ : Unit) : Cmd := (.seq (.ops [
 ⟨some 14, .binOp .lss 3 (.tmp 13) (.tmp 12) 3, 0, none⟩] [0, 1, 12, 13, 14])
 (.seq (.cond (.tmp 14)
  (.skip [0, 1, 12, 13])
  (.exit 0 [])) (sg c46S2)))
noncomputable def c46S3 (_ : Unit) : Cmd := (.seq (.ops [
 ⟨some 4, .assign (.const (.bool true)), 4, none⟩] [4])
 .ret)
noncomputable def c46S4 (_ : Unit) : Cmd := (.seq (.seq (.ops [
 ⟨some 11, .move (.tmp 0), 36, none⟩,
 ⟨some 12, .call ⟨.builtin .len, #[(.tmp 11)], #[36]⟩, 3, none⟩,
 ⟨some 13, .move (.const (.int .i64 0)), 3, none⟩] [0, 1, 12, 13])
 (.block 0 (.loop (sg c46L0)))) (sg c46S3))
noncomputable def c46 : Cmd := (.seq (.ops [
 ⟨some 4, .assign (.const (.bool false)), 4, none⟩] [0, 1])
 (.seq (.seq (.ops [
 ⟨some 6, .move (.tmp 0), 36, none⟩,
 ⟨some 7, .call ⟨.builtin .len, #[(.tmp 6)], #[36]⟩, 3, none⟩,
 ⟨some 8, .move (.tmp 1), 36, none⟩,
 ⟨some 9, .call ⟨.builtin .len, #[(.tmp 8)], #[36]⟩, 3, none⟩,
 ⟨some 10, .binOp .neq 3 (.tmp 7) (.tmp 9) 3, 4, none⟩] [0, 1, 10])
 (.cond (.tmp 10)
  (.seq (.ops [
  ⟨some 4, .assign (.const (.bool false)), 4, none⟩] [4])
  .ret)
  (.skip [0, 1]))) (sg c46S4)))
noncomputable def c46D0 : List (Bool × Ins) := [
 (true, ⟨some 16, .move (.tmp 0), 36, none⟩),
 (true, ⟨some 17, .move (.tmp 5), 3, none⟩),
 (true, ⟨some 18, .indexAddr 36 (.tmp 16) (.tmp 17), 0, none⟩),
 (false, ⟨some 19, .load 3 (.tmp 18), 3, none⟩),
 (true, ⟨some 20, .move (.tmp 1), 36, none⟩),
 (true, ⟨some 21, .move (.tmp 5), 3, none⟩),
 (true, ⟨some 22, .indexAddr 36 (.tmp 20) (.tmp 21), 0, none⟩),
 (false, ⟨some 23, .load 3 (.tmp 22), 3, none⟩),
 (true, ⟨some 24, .binOp .neq 3 (.tmp 19) (.tmp 23) 3, 4, none⟩)]
theorem c46draw0 {L : List Nat} {ρ : Env} {w : World} {Q : Post} (h : DL Try.prog c46D0 L ρ w.drew Q) : drawW Try.prog (drawOps 0 c46code) L ρ w Q :=
  drawW_still [true, true, true, false, true, true, true, false, true] c46D0 (by kernel_rfl) (by kernel_rfl) (by kernel_rfl) h
set_option maxRecDepth 100000 in
theorem ent46 (a0 a1 : Value) (w : World) (K : Value → World → Prop) (h : W Try.prog c46 [(0, a0), (1, a1)] w (finQ Try.prog [.tmp 4] K)) : Ret Try.prog 46 [a0, a1] w K :=
  Ret_of_W (code := c46code) Try.func46 (by kernel_rfl) (by kernel_rfl) (of_decide_eq_true (by kernel_rfl)) h
@[go_sem] theorem go46 : goFunc Try.prog 46 = true := by kernel_rfl
/- Function 47: annalistref11.Text -/
noncomputable def c47code : Code := match Try.f47.body with | some c => c | none => .skip
noncomputable def c47S0 (_ : Unit) : Cmd := (.ops [
 ⟨some 13, .move (.tmp 4), 3, none⟩,
 ⟨some 14, .binOp .add 3 (.tmp 13) (.const (.int .i64 1)) 3, 3, none⟩,
 ⟨some 4, .assign (.tmp 14), 3, none⟩] [0, 3, 4])
noncomputable def c47S1 (_ : Unit) : Cmd := (.seq (.block 1 (.ops [
 ⟨some 15, .move (.tmp 3), 9, none⟩,
 ⟨some 16, .move (.tmp 0), 36, none⟩,
 ⟨some 17, .move (.tmp 4), 3, none⟩,
 ⟨some 18, .indexAddr 36 (.tmp 16) (.tmp 17), 0, none⟩,
 ⟨some 19, .load 3 (.tmp 18), 3, none⟩,
 ⟨some 20, .call ⟨.value (.func 75), #[(.tmp 19)], #[3]⟩, 114, none⟩,
 ⟨some 21, .call ⟨.value (.func 74), #[(.tmp 20)], #[114]⟩, 9, none⟩,
 ⟨some 22, .binOp .add 9 (.tmp 15) (.tmp 21) 9, 9, none⟩,
 ⟨some 3, .assign (.tmp 22), 9, none⟩] [0, 3, 4])) (sg c47S0))
noncomputable def c47L0 (_ : Unit) : Cmd := (.seq (.seq (.ops [
 ⟨some 9, .move (.tmp 4), 3, none⟩,
 ⟨some 10, .move (.tmp 0), 36, none⟩,
 ⟨some 11, .call ⟨.builtin .len, #[(.tmp 10)], #[36]⟩, 3, none⟩,
 ⟨some 12, .binOp .lss 3 (.tmp 9) (.tmp 11) 3, 4, none⟩] [0, 3, 4, 12])
 (.cond (.tmp 12)
  (.skip [0, 3, 4])
  (.exit 0 [3]))) (sg c47S1))
noncomputable def c47S2 (_ : Unit) : Cmd := (.seq (.ops [
 ⟨some 23, .move (.tmp 3), 9, none⟩,
 ⟨some 2, .assign (.tmp 23), 9, none⟩] [2])
 .ret)
noncomputable def c47S3 (_ : Unit) : Cmd := (.seq (.seq (.ops [
 ⟨some 4, .assign (.const (.int .i64 0)), 3, none⟩] [0, 3, 4])
 (.block 0 (.loop (sg c47L0)))) (sg c47S2))
noncomputable def c47 : Cmd := (.seq (.ops [
 ⟨some 2, .assign (.const (.string (ofL []))), 9, none⟩] [0])
 (.seq (.ops [
 ⟨some 5, .move (.tmp 0), 36, none⟩,
 ⟨some 6, .call ⟨.builtin .len, #[(.tmp 5)], #[36]⟩, 3, none⟩,
 ⟨some 7, .convert 3 114 (.tmp 6), 114, none⟩,
 ⟨some 8, .call ⟨.value (.func 74), #[(.tmp 7)], #[114]⟩, 9, none⟩,
 ⟨some 3, .assign (.tmp 8), 9, none⟩] [0, 3]) (sg c47S3)))
set_option maxRecDepth 100000 in
theorem ent47 (a0 : Value) (w : World) (K : Value → World → Prop) (h : W Try.prog c47 [(0, a0)] w (finQ Try.prog [.tmp 2] K)) : Ret Try.prog 47 [a0] w K :=
  Ret_of_W (code := c47code) Try.func47 (by kernel_rfl) (by kernel_rfl) (of_decide_eq_true (by kernel_rfl)) h
@[go_sem] theorem go47 : goFunc Try.prog 47 = true := by kernel_rfl
/- Function 48: annalistref15.may -/
noncomputable def c48code : Code := match Try.f48.body with | some c => c | none => .skip
noncomputable def c48S0 (_ : Unit) : Cmd := (.cond (.tmp 33)
  (.seq (.ops [
  ⟨some 6, .assign (.const (.bool false)), 4, none⟩] [6])
  .ret)
  (.skip [0, 1, 2, 7]))
noncomputable def c48S1 (_ : Unit) : Cmd := (.ops [
 ⟨some 16, .move (.tmp 7), 3, none⟩,
 ⟨some 17, .binOp .add 3 (.tmp 16) (.const (.int .i64 1)) 3, 3, none⟩,
 ⟨some 7, .assign (.tmp 17), 3, none⟩] [0, 1, 2, 7])
noncomputable def c48S2 (_ : Unit) : Cmd := (.seq (.block 1 (.seq (.draw (drawOps 0 c48code) [0, 1, 2, 7, 33]) (sg c48S0))) (sg c48S1))
noncomputable def c48L0 (_ : Unit) : Cmd := (.seq (.seq (.ops [
 ⟨some 12, .move (.tmp 7), 3, none⟩,
 ⟨some 13, .move (.tmp 0), 22, none⟩,
 ⟨some 14, .call ⟨.builtin .len, #[(.tmp 13)], #[22]⟩, 3, none⟩,
 ⟨some 15, .binOp .lss 3 (.tmp 12) (.tmp 14) 3, 4, none⟩] [0, 1, 2, 7, 15])
 (.cond (.tmp 15)
  (.skip [0, 1, 2, 7])
  (.exit 0 []))) (sg c48S2))
noncomputable def c48S3 (_ : Unit) : Cmd := (.seq (.ops [
 ⟨some 6, .assign (.const (.bool true)), 4, none⟩] [6])
 .ret)
noncomputable def c48S4 (_ : Unit) : Cmd := (.seq (.seq (.ops [
 ⟨some 7, .assign (.const (.int .i64 0)), 3, none⟩] [0, 1, 2, 7])
 (.block 0 (.loop (sg c48L0)))) (sg c48S3))
noncomputable def c48 : Cmd := (.seq (.ops [
 ⟨some 6, .assign (.const (.bool false)), 4, none⟩] [0, 1, 2])
 (.seq (.seq (.ops [
 ⟨some 8, .move (.tmp 1), 41, none⟩,
 ⟨some 9, .move (.tmp 2), 3, none⟩,
 ⟨some 10, .indexAddr 41 (.tmp 8) (.tmp 9), 0, none⟩,
 ⟨some 11, .load 4 (.tmp 10), 4, none⟩] [0, 1, 2, 11])
 (.cond (.tmp 11)
  (.seq (.ops [
  ⟨some 6, .assign (.const (.bool false)), 4, none⟩] [6])
  .ret)
  (.skip [0, 1, 2]))) (sg c48S4)))
noncomputable def c48D0 : List (Nat × Ins) := [
 (0, ⟨some 18, .move (.tmp 1), 41, none⟩),
 (0, ⟨some 19, .move (.tmp 7), 3, none⟩),
 (0, ⟨some 20, .indexAddr 41 (.tmp 18) (.tmp 19), 0, none⟩),
 (2, ⟨some 21, .load 4 (.tmp 20), 4, none⟩),
 (0, ⟨some 22, .unOp .not 4 (.tmp 21), 4, none⟩),
 (0, ⟨some 23, .move (.tmp 22), 4, none⟩),
 (0, ⟨some 24, .move (.tmp 0), 22, (some (23, true))⟩),
 (0, ⟨some 25, .move (.tmp 7), 3, (some (23, true))⟩),
 (0, ⟨some 26, .indexAddr 22 (.tmp 24) (.tmp 25), 0, (some (23, true))⟩),
 (0, ⟨some 28, .move (.tmp 0), 22, (some (23, true))⟩),
 (0, ⟨some 29, .move (.tmp 2), 3, (some (23, true))⟩),
 (0, ⟨some 30, .indexAddr 22 (.tmp 28) (.tmp 29), 0, (some (23, true))⟩),
 (1, ⟨some 27, .load 58 (.tmp 26), 58, (some (23, true))⟩),
 (2, ⟨some 31, .load 58 (.tmp 30), 58, (some (23, true))⟩),
 (3, ⟨some 32, .call ⟨.value (.func 53), #[(.tmp 27), (.tmp 31)], #[58, 58]⟩, 4, (some (23, true))⟩),
 (0, ⟨some 33, .pick (.tmp 23) (.tmp 32) (.const (.bool false)), 4, none⟩)]
theorem c48draw0 {L : List Nat} {ρ : Env} {w : World} {Q : Post} (S : World → Prop) (hS : S w.drew) (h : DG Try.prog S c48D0 L ρ w.drew Q) : drawW Try.prog (drawOps 0 c48code) L ρ w Q :=
  drawW_held [9] [(0, 0), (0, 1), (0, 2), (2, 3), (0, 4), (0, 5), (0, 6), (0, 7), (0, 8), (0, 10), (0, 11), (0, 12), (1, 9), (2, 13), (3, 14), (0, 15)] c48D0 (by kernel_rfl) (by kernel_rfl) (by kernel_rfl) S hS h
set_option maxRecDepth 100000 in
theorem ent48 (a0 a1 a2 : Value) (w : World) (K : Value → World → Prop) (h : W Try.prog c48 [(0, a0), (1, a1), (2, a2)] w (finQ Try.prog [.tmp 6] K)) : Ret Try.prog 48 [a0, a1, a2] w K :=
  Ret_of_W (code := c48code) Try.func48 (by kernel_rfl) (by kernel_rfl) (of_decide_eq_true (by kernel_rfl)) h
@[go_sem] theorem go48 : goFunc Try.prog 48 = true := by kernel_rfl
/- Function 49: annalistref11.Step -/
noncomputable def c49code : Code := match Try.f49.body with | some c => c | none => .skip
noncomputable def c49S0 (_ : Unit) : Cmd := (.seq (.ops [
 ⟨some 24, .fieldAddr 117 (.tmp 6) 0, 0, none⟩,
 ⟨some 25, .load 36 (.tmp 24), 36, none⟩,
 ⟨some 4, .assign (.tmp 25), 36, none⟩,
 ⟨some 5, .assign (.const (.bool true)), 4, none⟩] [4, 5])
 .ret)
noncomputable def c49S1 (_ : Unit) : Cmd := (.seq (.seq (.ops [
 ⟨some 10, .fieldAddr 117 (.tmp 6) 2, 0, none⟩,
 ⟨some 11, .load 4 (.tmp 10), 4, none⟩,
 ⟨some 12, .unOp .not 4 (.tmp 11), 4, none⟩,
 ⟨some 13, .move (.tmp 12), 4, none⟩,
 ⟨some 14, .fieldAddr 58 (.tmp 3) 7, 0, (some (13, false))⟩,
 ⟨some 15, .load 4 (.tmp 14), 4, (some (13, false))⟩,
 ⟨some 16, .move (.tmp 15), 4, (some (13, false))⟩,
 ⟨some 17, .fieldAddr 117 (.tmp 6) 1, 0, (some (16, true))⟩,
 ⟨some 18, .load 3 (.tmp 17), 3, (some (16, true))⟩,
 ⟨some 19, .fieldAddr 58 (.tmp 3) 8, 0, (some (16, true))⟩,
 ⟨some 20, .load 3 (.tmp 19), 3, (some (16, true))⟩,
 ⟨some 21, .binOp .neq 3 (.tmp 18) (.tmp 20) 3, 4, (some (16, true))⟩,
 ⟨some 22, .pick (.tmp 16) (.tmp 21) (.const (.bool false)), 4, (some (13, false))⟩,
 ⟨some 23, .pick (.tmp 13) (.const (.bool true)) (.tmp 22), 4, none⟩] [6, 23])
 (.cond (.tmp 23)
  (.seq (.ops [
  ⟨some 4, .assign (.const (.slice none 0 0)), 36, none⟩,
  ⟨some 5, .assign (.const (.bool false)), 4, none⟩] [4, 5])
  .ret)
  (.skip [6]))) (sg c49S0))
noncomputable def c49 : Cmd := (.seq (.ops [
 ⟨some 3, .box 58 (.tmp 1), 0, none⟩,
 ⟨some 4, .assign (.const (.slice none 0 0)), 36, none⟩,
 ⟨some 5, .assign (.const (.bool false)), 4, none⟩] [0, 3])
 (.seq (.ops [
 ⟨some 7, .move (.tmp 0), 36, none⟩,
 ⟨some 8, .load 58 (.tmp 3), 58, none⟩,
 ⟨some 9, .call ⟨.value (.func 76), #[(.tmp 7), (.tmp 8)], #[36, 58]⟩, 117, none⟩,
 ⟨some 6, .alloc 117, 0, none⟩,
 ⟨none, .store 117 (.tmp 6) (.tmp 9), 0, none⟩] [3, 6]) (sg c49S1)))
set_option maxRecDepth 100000 in
theorem ent49 (a0 a1 : Value) (w : World) (K : Value → World → Prop) (h : W Try.prog c49 [(0, a0), (1, a1)] w (finQ Try.prog [.tmp 4, .tmp 5] K)) : Ret Try.prog 49 [a0, a1] w K :=
  Ret_of_W (code := c49code) Try.func49 (by kernel_rfl) (by kernel_rfl) (of_decide_eq_true (by kernel_rfl)) h
@[go_sem] theorem go49 : goFunc Try.prog 49 = true := by kernel_rfl
/- Function 50: annalistref10.Check -/
noncomputable def c50code : Code := match Try.f50.body with | some c => c | none => .skip
noncomputable def c50S0 (_ : Unit) : Cmd := (.cond (.tmp 22)
  (.seq (.ops [
  ⟨some 2, .assign (.const (.int .i64 30)), 3, none⟩] [2])
  .ret)
  (.skip [1]))
noncomputable def c50S1 (_ : Unit) : Cmd := (.cond (.tmp 50)
  (.seq (.ops [
  ⟨some 2, .assign (.const (.int .i64 33)), 3, none⟩] [2])
  .ret)
  (.skip [1, 3]))
noncomputable def c50S2 (_ : Unit) : Cmd := (.cond (.tmp 70)
  (.seq (.ops [
  ⟨some 2, .assign (.const (.int .i64 33)), 3, none⟩] [2])
  .ret)
  (.skip [1]))
noncomputable def c50S3 (_ : Unit) : Cmd := (.cond (.tmp 84)
  (.seq (.ops [
  ⟨some 2, .assign (.const (.int .i64 31)), 3, none⟩] [2])
  .ret)
  (.skip [1]))
noncomputable def c50S4 (_ : Unit) : Cmd := (.seq (.ops [
 ⟨some 2, .assign (.const (.int .i64 0)), 3, none⟩] [2])
 .ret)
noncomputable def c50S5 (_ : Unit) : Cmd := (.seq (.seq (.ops [
 ⟨some 85, .fieldAddr 58 (.tmp 1) 7, 0, none⟩,
 ⟨some 86, .load 4 (.tmp 85), 4, none⟩,
 ⟨some 87, .move (.tmp 86), 4, none⟩,
 ⟨some 88, .fieldAddr 58 (.tmp 1) 10, 0, (some (87, true))⟩,
 ⟨some 89, .load 3 (.tmp 88), 3, (some (87, true))⟩,
 ⟨some 90, .fieldAddr 58 (.tmp 1) 9, 0, (some (87, true))⟩,
 ⟨some 91, .load 3 (.tmp 90), 3, (some (87, true))⟩,
 ⟨some 92, .binOp .leq 3 (.tmp 89) (.tmp 91) 3, 4, (some (87, true))⟩,
 ⟨some 93, .move (.tmp 92), 4, (some (87, true))⟩,
 ⟨some 94, .fieldAddr 58 (.tmp 1) 10, 0, (some (93, false))⟩,
 ⟨some 95, .load 3 (.tmp 94), 3, (some (93, false))⟩,
 ⟨some 96, .binOp .gtr 3 (.tmp 95) (.const (.int .i64 1099511627776)) 3, 4, (some (93, false))⟩,
 ⟨some 97, .pick (.tmp 93) (.const (.bool true)) (.tmp 96), 4, (some (87, true))⟩,
 ⟨some 98, .pick (.tmp 87) (.tmp 97) (.const (.bool false)), 4, none⟩] [98])
 (.cond (.tmp 98)
  (.seq (.ops [
  ⟨some 2, .assign (.const (.int .i64 31)), 3, none⟩] [2])
  .ret)
  (.skip []))) (sg c50S4))
noncomputable def c50S6 (_ : Unit) : Cmd := (.seq (.seq (.ops [
 ⟨some 71, .fieldAddr 58 (.tmp 1) 9, 0, none⟩,
 ⟨some 72, .load 3 (.tmp 71), 3, none⟩,
 ⟨some 73, .call ⟨.value (.func 77), #[(.tmp 72), (.const (.int .i64 0)), (.const (.int .i64 1099511627776))], #[3, 3, 3]⟩, 4, none⟩,
 ⟨some 74, .unOp .not 4 (.tmp 73), 4, none⟩,
 ⟨some 75, .move (.tmp 74), 4, none⟩,
 ⟨some 76, .fieldAddr 58 (.tmp 1) 7, 0, (some (75, false))⟩,
 ⟨some 77, .load 4 (.tmp 76), 4, (some (75, false))⟩,
 ⟨some 78, .unOp .not 4 (.tmp 77), 4, (some (75, false))⟩,
 ⟨some 79, .move (.tmp 78), 4, (some (75, false))⟩,
 ⟨some 80, .fieldAddr 58 (.tmp 1) 10, 0, (some (79, true))⟩,
 ⟨some 81, .load 3 (.tmp 80), 3, (some (79, true))⟩,
 ⟨some 82, .binOp .neq 3 (.tmp 81) (.const (.int .i64 0)) 3, 4, (some (79, true))⟩,
 ⟨some 83, .pick (.tmp 79) (.tmp 82) (.const (.bool false)), 4, (some (75, false))⟩,
 ⟨some 84, .pick (.tmp 75) (.const (.bool true)) (.tmp 83), 4, none⟩] [1, 84]) (sg c50S3)) (sg c50S5))
noncomputable def c50S7 (_ : Unit) : Cmd := (.seq (.seq (.ops [
 ⟨some 51, .fieldAddr 58 (.tmp 1) 7, 0, none⟩,
 ⟨some 52, .load 4 (.tmp 51), 4, none⟩,
 ⟨some 53, .move (.tmp 52), 4, none⟩,
 ⟨some 54, .fieldAddr 58 (.tmp 1) 8, 0, (some (53, true))⟩,
 ⟨some 55, .load 3 (.tmp 54), 3, (some (53, true))⟩,
 ⟨some 56, .fieldAddr 121 (.tmp 3) 3, 0, (some (53, true))⟩,
 ⟨some 57, .load 3 (.tmp 56), 3, (some (53, true))⟩,
 ⟨some 58, .call ⟨.value (.func 79), #[(.tmp 55), (.tmp 57)], #[3, 3]⟩, 4, (some (53, true))⟩,
 ⟨some 59, .unOp .not 4 (.tmp 58), 4, (some (53, true))⟩,
 ⟨some 60, .pick (.tmp 53) (.tmp 59) (.const (.bool false)), 4, none⟩,
 ⟨some 61, .move (.tmp 60), 4, none⟩,
 ⟨some 62, .fieldAddr 58 (.tmp 1) 7, 0, (some (61, false))⟩,
 ⟨some 63, .load 4 (.tmp 62), 4, (some (61, false))⟩,
 ⟨some 64, .unOp .not 4 (.tmp 63), 4, (some (61, false))⟩,
 ⟨some 65, .move (.tmp 64), 4, (some (61, false))⟩,
 ⟨some 66, .fieldAddr 58 (.tmp 1) 8, 0, (some (65, true))⟩,
 ⟨some 67, .load 3 (.tmp 66), 3, (some (65, true))⟩,
 ⟨some 68, .binOp .neq 3 (.tmp 67) (.const (.int .i64 0)) 3, 4, (some (65, true))⟩,
 ⟨some 69, .pick (.tmp 65) (.tmp 68) (.const (.bool false)), 4, (some (61, false))⟩,
 ⟨some 70, .pick (.tmp 61) (.const (.bool true)) (.tmp 69), 4, none⟩] [1, 70]) (sg c50S2)) (sg c50S6))
noncomputable def c50S8 (_ : Unit) : Cmd := (.seq (.seq (.ops [
 ⟨some 39, .fieldAddr 58 (.tmp 1) 5, 0, none⟩,
 ⟨some 40, .load 3 (.tmp 39), 3, none⟩,
 ⟨some 41, .move (.tmp 5), 3, none⟩,
 ⟨some 42, .call ⟨.value (.func 77), #[(.tmp 40), (.const (.int .i64 0)), (.tmp 41)], #[3, 3, 3]⟩, 4, none⟩,
 ⟨some 43, .unOp .not 4 (.tmp 42), 4, none⟩,
 ⟨some 44, .move (.tmp 43), 4, none⟩,
 ⟨some 45, .fieldAddr 58 (.tmp 1) 6, 0, (some (44, false))⟩,
 ⟨some 46, .load 3 (.tmp 45), 3, (some (44, false))⟩,
 ⟨some 47, .move (.tmp 6), 3, (some (44, false))⟩,
 ⟨some 48, .call ⟨.value (.func 77), #[(.tmp 46), (.const (.int .i64 0)), (.tmp 47)], #[3, 3, 3]⟩, 4, (some (44, false))⟩,
 ⟨some 49, .unOp .not 4 (.tmp 48), 4, (some (44, false))⟩,
 ⟨some 50, .pick (.tmp 44) (.const (.bool true)) (.tmp 49), 4, none⟩] [1, 3, 50]) (sg c50S1)) (sg c50S7))
noncomputable def c50S9 (_ : Unit) : Cmd := (.seq (.seq (.ops [
 ⟨some 36, .fieldAddr 121 (.tmp 3) 2, 0, none⟩,
 ⟨some 37, .load 3 (.tmp 36), 3, none⟩,
 ⟨some 38, .binOp .geq 3 (.tmp 37) (.const (.int .i64 2)) 3, 4, none⟩] [1, 3, 5, 6, 38])
 (.cond (.tmp 38)
  (.ops [
  ⟨some 6, .assign (.const (.int .i64 1073741824)), 3, none⟩] [1, 3, 5, 6])
  (.skip [1, 3, 5, 6]))) (sg c50S8))
noncomputable def c50S10 (_ : Unit) : Cmd := (.seq (.ops [
 ⟨some 5, .assign (.const (.int .i64 0)), 3, none⟩,
 ⟨some 6, .assign (.const (.int .i64 0)), 3, none⟩] [1, 3, 5, 6])
 (.seq (.seq (.ops [
 ⟨some 33, .fieldAddr 121 (.tmp 3) 2, 0, none⟩,
 ⟨some 34, .load 3 (.tmp 33), 3, none⟩,
 ⟨some 35, .binOp .geq 3 (.tmp 34) (.const (.int .i64 1)) 3, 4, none⟩] [1, 3, 5, 6, 35])
 (.cond (.tmp 35)
  (.ops [
  ⟨some 5, .assign (.const (.int .i64 1073741824)), 3, none⟩] [1, 3, 5, 6])
  (.skip [1, 3, 5, 6]))) (sg c50S9)))
noncomputable def c50S11 (_ : Unit) : Cmd := (.seq (.seq (.ops [
 ⟨some 31, .move (.tmp 4), 4, none⟩,
 ⟨some 32, .unOp .not 4 (.tmp 31), 4, none⟩] [1, 3, 32])
 (.cond (.tmp 32)
  (.seq (.ops [
  ⟨some 2, .assign (.const (.int .i64 33)), 3, none⟩] [2])
  .ret)
  (.skip [1, 3]))) (sg c50S10))
noncomputable def c50S12 (_ : Unit) : Cmd := (.seq (.ops [
 ⟨some 24, .fieldAddr 58 (.tmp 1) 3, 0, none⟩,
 ⟨some 25, .load 3 (.tmp 24), 3, none⟩,
 ⟨some 26, .fieldAddr 58 (.tmp 1) 4, 0, none⟩,
 ⟨some 27, .load 3 (.tmp 26), 3, none⟩,
 ⟨some 28, .call ⟨.value (.func 78), #[(.tmp 25), (.tmp 27)], #[3, 3]⟩, 122, none⟩,
 ⟨some 23, .move (.tmp 28), 122, none⟩,
 ⟨some 29, .extract (.tmp 23) 0, 121, none⟩,
 ⟨some 30, .extract (.tmp 23) 1, 4, none⟩,
 ⟨some 3, .alloc 121, 0, none⟩,
 ⟨none, .store 121 (.tmp 3) (.tmp 29), 0, none⟩,
 ⟨some 4, .assign (.tmp 30), 4, none⟩] [1, 3, 4]) (sg c50S11))
noncomputable def c50 : Cmd := (.seq (.ops [
 ⟨some 1, .box 58 (.tmp 0), 0, none⟩,
 ⟨some 2, .assign (.const (.int .i64 0)), 3, none⟩] [1])
 (.seq (.seq (.ops [
 ⟨some 7, .fieldAddr 58 (.tmp 1) 0, 0, none⟩,
 ⟨some 8, .load 3 (.tmp 7), 3, none⟩,
 ⟨some 9, .call ⟨.value (.func 77), #[(.tmp 8), (.const (.int .i64 1)), (.const (.int .i64 1073741824))], #[3, 3, 3]⟩, 4, none⟩,
 ⟨some 10, .unOp .not 4 (.tmp 9), 4, none⟩,
 ⟨some 11, .move (.tmp 10), 4, none⟩,
 ⟨some 12, .fieldAddr 58 (.tmp 1) 1, 0, (some (11, false))⟩,
 ⟨some 13, .load 3 (.tmp 12), 3, (some (11, false))⟩,
 ⟨some 14, .call ⟨.value (.func 77), #[(.tmp 13), (.const (.int .i64 0)), (.const (.int .i64 1023))], #[3, 3, 3]⟩, 4, (some (11, false))⟩,
 ⟨some 15, .unOp .not 4 (.tmp 14), 4, (some (11, false))⟩,
 ⟨some 16, .pick (.tmp 11) (.const (.bool true)) (.tmp 15), 4, none⟩,
 ⟨some 17, .move (.tmp 16), 4, none⟩,
 ⟨some 18, .fieldAddr 58 (.tmp 1) 2, 0, (some (17, false))⟩,
 ⟨some 19, .load 3 (.tmp 18), 3, (some (17, false))⟩,
 ⟨some 20, .call ⟨.value (.func 77), #[(.tmp 19), (.const (.int .i64 0)), (.const (.int .i64 1023))], #[3, 3, 3]⟩, 4, (some (17, false))⟩,
 ⟨some 21, .unOp .not 4 (.tmp 20), 4, (some (17, false))⟩,
 ⟨some 22, .pick (.tmp 17) (.const (.bool true)) (.tmp 21), 4, none⟩] [1, 22]) (sg c50S0)) (sg c50S12)))
set_option maxRecDepth 100000 in
theorem ent50 (a0 : Value) (w : World) (K : Value → World → Prop) (h : W Try.prog c50 [(0, a0)] w (finQ Try.prog [.tmp 2] K)) : Ret Try.prog 50 [a0] w K :=
  Ret_of_W (code := c50code) Try.func50 (by kernel_rfl) (by kernel_rfl) (of_decide_eq_true (by kernel_rfl)) h
@[go_sem] theorem go50 : goFunc Try.prog 50 = true := by kernel_rfl
/- Function 51: annalistref12.beside -/
noncomputable def c51code : Code := match Try.f51.body with | some c => c | none => .skip
noncomputable def c51S0 (_ : Unit) : Cmd := (.cond (.tmp 40)
  (.seq (.ops [
  ⟨some 4, .assign (.const (.int .i64 33)), 3, none⟩] [4])
  .ret)
  (.skip [0, 3, 5]))
noncomputable def c51S1 (_ : Unit) : Cmd := (.ops [
 ⟨some 11, .move (.tmp 5), 3, none⟩,
 ⟨some 12, .binOp .add 3 (.tmp 11) (.const (.int .i64 1)) 3, 3, none⟩,
 ⟨some 5, .assign (.tmp 12), 3, none⟩] [0, 3, 5])
noncomputable def c51S2 (_ : Unit) : Cmd := (.seq (.block 1 (.seq (.draw (drawOps 0 c51code) [0, 3, 5, 40]) (sg c51S0))) (sg c51S1))
noncomputable def c51L0 (_ : Unit) : Cmd := (.seq (.seq (.ops [
 ⟨some 7, .move (.tmp 5), 3, none⟩,
 ⟨some 8, .move (.tmp 0), 22, none⟩,
 ⟨some 9, .call ⟨.builtin .len, #[(.tmp 8)], #[22]⟩, 3, none⟩,
 ⟨some 10, .binOp .lss 3 (.tmp 7) (.tmp 9) 3, 4, none⟩] [0, 3, 5, 10])
 (.cond (.tmp 10)
  (.skip [0, 3, 5])
  (.exit 0 [0, 3]))) (sg c51S2))
noncomputable def c51S3 (_ : Unit) : Cmd := (.cond (.tmp 82)
  (.seq (.ops [
  ⟨some 4, .assign (.const (.int .i64 32)), 3, none⟩] [4])
  .ret)
  (.skip [0, 3, 6]))
noncomputable def c51S4 (_ : Unit) : Cmd := (.ops [
 ⟨some 45, .move (.tmp 6), 3, none⟩,
 ⟨some 46, .binOp .add 3 (.tmp 45) (.const (.int .i64 1)) 3, 3, none⟩,
 ⟨some 6, .assign (.tmp 46), 3, none⟩] [0, 3, 6])
noncomputable def c51S5 (_ : Unit) : Cmd := (.seq (.block 3 (.seq (.draw (drawOps 1 c51code) [0, 3, 6, 82]) (sg c51S3))) (sg c51S4))
noncomputable def c51L1 (_ : Unit) : Cmd := (.seq (.seq (.ops [
 ⟨some 41, .move (.tmp 6), 3, none⟩,
 ⟨some 42, .move (.tmp 0), 22, none⟩,
 ⟨some 43, .call ⟨.builtin .len, #[(.tmp 42)], #[22]⟩, 3, none⟩,
 ⟨some 44, .binOp .lss 3 (.tmp 41) (.tmp 43) 3, 4, none⟩] [0, 3, 6, 44])
 (.cond (.tmp 44)
  (.skip [0, 3, 6])
  (.exit 2 []))) (sg c51S5))
noncomputable def c51S6 (_ : Unit) : Cmd := (.seq (.ops [
 ⟨some 4, .assign (.const (.int .i64 0)), 3, none⟩] [4])
 .ret)
noncomputable def c51S7 (_ : Unit) : Cmd := (.seq (.seq (.ops [
 ⟨some 6, .assign (.const (.int .i64 0)), 3, none⟩] [0, 3, 6])
 (.block 2 (.loop (sg c51L1)))) (sg c51S6))
noncomputable def c51 : Cmd := (.seq (.ops [
 ⟨some 3, .box 58 (.tmp 1), 0, none⟩,
 ⟨some 4, .assign (.const (.int .i64 0)), 3, none⟩] [0, 3])
 (.seq (.seq (.ops [
 ⟨some 5, .assign (.const (.int .i64 0)), 3, none⟩] [0, 3, 5])
 (.block 0 (.loop (sg c51L0)))) (sg c51S7)))
noncomputable def c51D0 : List (Bool × Ins) := [
 (true, ⟨some 13, .move (.tmp 0), 22, none⟩),
 (true, ⟨some 14, .move (.tmp 5), 3, none⟩),
 (true, ⟨some 15, .indexAddr 22 (.tmp 13) (.tmp 14), 0, none⟩),
 (true, ⟨some 16, .fieldAddr 58 (.tmp 15) 0, 0, none⟩),
 (false, ⟨some 17, .load 3 (.tmp 16), 3, none⟩),
 (true, ⟨some 18, .fieldAddr 58 (.tmp 3) 0, 0, none⟩),
 (false, ⟨some 19, .load 3 (.tmp 18), 3, none⟩),
 (true, ⟨some 20, .binOp .neq 3 (.tmp 17) (.tmp 19) 3, 4, none⟩),
 (true, ⟨some 21, .move (.tmp 20), 4, none⟩),
 (true, ⟨some 22, .move (.tmp 0), 22, (some (21, true))⟩),
 (true, ⟨some 23, .move (.tmp 5), 3, (some (21, true))⟩),
 (true, ⟨some 24, .indexAddr 22 (.tmp 22) (.tmp 23), 0, (some (21, true))⟩),
 (true, ⟨some 25, .fieldAddr 58 (.tmp 24) 2, 0, (some (21, true))⟩),
 (false, ⟨some 26, .load 3 (.tmp 25), 3, (some (21, true))⟩),
 (true, ⟨some 27, .fieldAddr 58 (.tmp 3) 2, 0, (some (21, true))⟩),
 (false, ⟨some 28, .load 3 (.tmp 27), 3, (some (21, true))⟩),
 (true, ⟨some 29, .binOp .eql 3 (.tmp 26) (.tmp 28) 3, 4, (some (21, true))⟩),
 (true, ⟨some 30, .pick (.tmp 21) (.tmp 29) (.const (.bool false)), 4, none⟩),
 (true, ⟨some 31, .move (.tmp 30), 4, none⟩),
 (true, ⟨some 32, .move (.tmp 0), 22, (some (31, true))⟩),
 (true, ⟨some 33, .move (.tmp 5), 3, (some (31, true))⟩),
 (true, ⟨some 34, .indexAddr 22 (.tmp 32) (.tmp 33), 0, (some (31, true))⟩),
 (true, ⟨some 35, .fieldAddr 58 (.tmp 34) 3, 0, (some (31, true))⟩),
 (false, ⟨some 36, .load 3 (.tmp 35), 3, (some (31, true))⟩),
 (true, ⟨some 37, .fieldAddr 58 (.tmp 3) 3, 0, (some (31, true))⟩),
 (false, ⟨some 38, .load 3 (.tmp 37), 3, (some (31, true))⟩),
 (true, ⟨some 39, .binOp .neq 3 (.tmp 36) (.tmp 38) 3, 4, (some (31, true))⟩),
 (true, ⟨some 40, .pick (.tmp 31) (.tmp 39) (.const (.bool false)), 4, none⟩)]
theorem c51draw0 {L : List Nat} {ρ : Env} {w : World} {Q : Post} (h : DL Try.prog c51D0 L ρ w.drew Q) : drawW Try.prog (drawOps 0 c51code) L ρ w Q :=
  drawW_still [true, true, true, true, false, true, false, true, true, true, true, true, true, false, true, false, true, true, true, true, true, true, true, false, true, false, true, true] c51D0 (by kernel_rfl) (by kernel_rfl) (by kernel_rfl) h
noncomputable def c51D1 : List (Nat × Ins) := [
 (0, ⟨some 47, .move (.tmp 0), 22, none⟩),
 (0, ⟨some 48, .move (.tmp 6), 3, none⟩),
 (0, ⟨some 49, .indexAddr 22 (.tmp 47) (.tmp 48), 0, none⟩),
 (0, ⟨some 50, .fieldAddr 58 (.tmp 49) 0, 0, none⟩),
 (0, ⟨some 52, .fieldAddr 58 (.tmp 3) 0, 0, none⟩),
 (1, ⟨some 51, .load 3 (.tmp 50), 3, none⟩),
 (2, ⟨some 53, .load 3 (.tmp 52), 3, none⟩),
 (0, ⟨some 54, .binOp .neq 3 (.tmp 51) (.tmp 53) 3, 4, none⟩),
 (0, ⟨some 55, .move (.tmp 54), 4, none⟩),
 (0, ⟨some 56, .move (.tmp 0), 22, (some (55, true))⟩),
 (0, ⟨some 57, .move (.tmp 6), 3, (some (55, true))⟩),
 (0, ⟨some 58, .indexAddr 22 (.tmp 56) (.tmp 57), 0, (some (55, true))⟩),
 (0, ⟨some 59, .fieldAddr 58 (.tmp 58) 1, 0, (some (55, true))⟩),
 (0, ⟨some 61, .fieldAddr 58 (.tmp 3) 1, 0, (some (55, true))⟩),
 (1, ⟨some 60, .load 3 (.tmp 59), 3, (some (55, true))⟩),
 (2, ⟨some 62, .load 3 (.tmp 61), 3, (some (55, true))⟩),
 (0, ⟨some 63, .binOp .eql 3 (.tmp 60) (.tmp 62) 3, 4, (some (55, true))⟩),
 (0, ⟨some 64, .pick (.tmp 55) (.tmp 63) (.const (.bool false)), 4, none⟩),
 (0, ⟨some 65, .move (.tmp 64), 4, none⟩),
 (0, ⟨some 66, .move (.tmp 0), 22, (some (65, true))⟩),
 (0, ⟨some 67, .move (.tmp 6), 3, (some (65, true))⟩),
 (0, ⟨some 68, .indexAddr 22 (.tmp 66) (.tmp 67), 0, (some (65, true))⟩),
 (1, ⟨some 69, .load 58 (.tmp 68), 58, (some (65, true))⟩),
 (2, ⟨some 70, .load 58 (.tmp 3), 58, (some (65, true))⟩),
 (2, ⟨some 71, .call ⟨.value (.func 53), #[(.tmp 69), (.tmp 70)], #[58, 58]⟩, 4, (some (65, true))⟩),
 (0, ⟨some 72, .unOp .not 4 (.tmp 71), 4, (some (65, true))⟩),
 (0, ⟨some 73, .pick (.tmp 65) (.tmp 72) (.const (.bool false)), 4, none⟩),
 (0, ⟨some 74, .move (.tmp 73), 4, none⟩),
 (0, ⟨some 76, .move (.tmp 0), 22, (some (74, true))⟩),
 (0, ⟨some 77, .move (.tmp 6), 3, (some (74, true))⟩),
 (0, ⟨some 78, .indexAddr 22 (.tmp 76) (.tmp 77), 0, (some (74, true))⟩),
 (1, ⟨some 75, .load 58 (.tmp 3), 58, (some (74, true))⟩),
 (2, ⟨some 79, .load 58 (.tmp 78), 58, (some (74, true))⟩),
 (2, ⟨some 80, .call ⟨.value (.func 53), #[(.tmp 75), (.tmp 79)], #[58, 58]⟩, 4, (some (74, true))⟩),
 (0, ⟨some 81, .unOp .not 4 (.tmp 80), 4, (some (74, true))⟩),
 (0, ⟨some 82, .pick (.tmp 74) (.tmp 81) (.const (.bool false)), 4, none⟩)]
theorem c51draw1 {L : List Nat} {ρ : Env} {w : World} {Q : Post} (S : World → Prop) (hS : S w.drew) (h : DG Try.prog S c51D1 L ρ w.drew Q) : drawW Try.prog (drawOps 1 c51code) L ρ w Q :=
  drawW_held [4, 13, 22, 28] [(0, 0), (0, 1), (0, 2), (0, 3), (0, 5), (1, 4), (2, 6), (0, 7), (0, 8), (0, 9), (0, 10), (0, 11), (0, 12), (0, 14), (1, 13), (2, 15), (0, 16), (0, 17), (0, 18), (0, 19), (0, 20), (0, 21), (1, 22), (2, 23), (2, 24), (0, 25), (0, 26), (0, 27), (0, 29), (0, 30), (0, 31), (1, 28), (2, 32), (2, 33), (0, 34), (0, 35)] c51D1 (by kernel_rfl) (by kernel_rfl) (by kernel_rfl) S hS h
set_option maxRecDepth 100000 in
theorem ent51 (a0 a1 : Value) (w : World) (K : Value → World → Prop) (h : W Try.prog c51 [(0, a0), (1, a1)] w (finQ Try.prog [.tmp 4] K)) : Ret Try.prog 51 [a0, a1] w K :=
  Ret_of_W (code := c51code) Try.func51 (by kernel_rfl) (by kernel_rfl) (of_decide_eq_true (by kernel_rfl)) h
@[go_sem] theorem go51 : goFunc Try.prog 51 = true := by kernel_rfl
/- Function 52: annalistref14.Sorted -/
noncomputable def c52code : Code := match Try.f52.body with | some c => c | none => .skip
noncomputable def c52S0 (_ : Unit) : Cmd := (.cond (.tmp 55)
  (.skip [0, 3, 4, 5])
  (.exit 2 [0, 3, 4, 5]))
noncomputable def c52S1 (_ : Unit) : Cmd := (.block 3 (.ops [
 ⟨some 56, .move (.tmp 5), 3, none⟩,
 ⟨some 57, .binOp .add 3 (.tmp 56) (.const (.int .i64 1)) 3, 3, none⟩,
 ⟨some 5, .assign (.tmp 57), 3, none⟩] [0, 3, 4, 5]))
noncomputable def c52L0 (_ : Unit) : Cmd := (.seq (.seq (.draw (drawOps 0 c52code) [0, 3, 4, 5, 55]) (sg c52S0)) (sg c52S1))
noncomputable def c52S2 (_ : Unit) : Cmd := (.ops [
 ⟨some 70, .move (.tmp 6), 22, none⟩,
 ⟨some 71, .move (.tmp 3), 22, none⟩,
 ⟨some 72, .move (.tmp 5), 3, none⟩,
 ⟨some 73, .slice 22 (.tmp 71) (some (.tmp 72)) none none, 22, none⟩,
 ⟨some 74, .call ⟨.builtin .append, #[(.tmp 70), (.tmp 73)], #[22, 22]⟩, 22, none⟩,
 ⟨some 3, .assign (.tmp 74), 22, none⟩] [0, 3, 4])
noncomputable def c52S3 (_ : Unit) : Cmd := (.seq (.ops [
 ⟨some 63, .move (.tmp 6), 22, none⟩,
 ⟨some 64, .move (.tmp 0), 22, none⟩,
 ⟨some 65, .move (.tmp 4), 3, none⟩,
 ⟨some 66, .indexAddr 22 (.tmp 64) (.tmp 65), 0, none⟩,
 ⟨some 67, .load 58 (.tmp 66), 58, none⟩,
 ⟨some 68, .buildSlice 22 1 #[(0, (.tmp 67))], 22, none⟩,
 ⟨some 69, .call ⟨.builtin .append, #[(.tmp 63), (.tmp 68)], #[22, 22]⟩, 22, none⟩,
 ⟨some 6, .assign (.tmp 69), 22, none⟩] [0, 3, 4, 5, 6]) (sg c52S2))
noncomputable def c52S4 (_ : Unit) : Cmd := (.seq (.ops [
 ⟨some 58, .buildSlice 22 0 #[], 22, none⟩,
 ⟨some 59, .move (.tmp 3), 22, none⟩,
 ⟨some 60, .move (.tmp 5), 3, none⟩,
 ⟨some 61, .slice 22 (.tmp 59) none (some (.tmp 60)) none, 22, none⟩,
 ⟨some 62, .call ⟨.builtin .append, #[(.tmp 58), (.tmp 61)], #[22, 22]⟩, 22, none⟩,
 ⟨some 6, .assign (.tmp 62), 22, none⟩] [0, 3, 4, 5, 6]) (sg c52S3))
noncomputable def c52S5 (_ : Unit) : Cmd := (.ops [
 ⟨some 11, .move (.tmp 4), 3, none⟩,
 ⟨some 12, .binOp .add 3 (.tmp 11) (.const (.int .i64 1)) 3, 3, none⟩,
 ⟨some 4, .assign (.tmp 12), 3, none⟩] [0, 3, 4])
noncomputable def c52S6 (_ : Unit) : Cmd := (.seq (.block 1 (.seq (.ops [
 ⟨some 5, .assign (.const (.int .i64 0)), 3, none⟩] [0, 3, 4, 5])
 (.seq (.block 2 (.loop (sg c52L0))) (sg c52S4)))) (sg c52S5))
noncomputable def c52L1 (_ : Unit) : Cmd := (.seq (.seq (.ops [
 ⟨some 7, .move (.tmp 4), 3, none⟩,
 ⟨some 8, .move (.tmp 0), 22, none⟩,
 ⟨some 9, .call ⟨.builtin .len, #[(.tmp 8)], #[22]⟩, 3, none⟩,
 ⟨some 10, .binOp .lss 3 (.tmp 7) (.tmp 9) 3, 4, none⟩] [0, 3, 4, 10])
 (.cond (.tmp 10)
  (.skip [0, 3, 4])
  (.exit 0 [3]))) (sg c52S6))
noncomputable def c52S7 (_ : Unit) : Cmd := (.seq (.ops [
 ⟨some 75, .move (.tmp 3), 22, none⟩,
 ⟨some 2, .assign (.tmp 75), 22, none⟩] [2])
 .ret)
noncomputable def c52 : Cmd := (.seq (.ops [
 ⟨some 2, .assign (.const (.slice none 0 0)), 22, none⟩] [0])
 (.seq (.ops [
 ⟨some 3, .assign (.const (.slice none 0 0)), 22, none⟩] [0, 3])
 (.seq (.seq (.ops [
 ⟨some 4, .assign (.const (.int .i64 0)), 3, none⟩] [0, 3, 4])
 (.block 0 (.loop (sg c52L1)))) (sg c52S7))))
noncomputable def c52D0 : List (Bool × Ins) := [
 (true, ⟨some 13, .move (.tmp 5), 3, none⟩),
 (true, ⟨some 14, .move (.tmp 3), 22, none⟩),
 (true, ⟨some 15, .call ⟨.builtin .len, #[(.tmp 14)], #[22]⟩, 3, none⟩),
 (true, ⟨some 16, .binOp .lss 3 (.tmp 13) (.tmp 15) 3, 4, none⟩),
 (true, ⟨some 17, .move (.tmp 16), 4, none⟩),
 (true, ⟨some 18, .move (.tmp 3), 22, (some (17, true))⟩),
 (true, ⟨some 19, .move (.tmp 5), 3, (some (17, true))⟩),
 (true, ⟨some 20, .indexAddr 22 (.tmp 18) (.tmp 19), 0, (some (17, true))⟩),
 (true, ⟨some 21, .fieldAddr 58 (.tmp 20) 9, 0, (some (17, true))⟩),
 (false, ⟨some 22, .load 3 (.tmp 21), 3, (some (17, true))⟩),
 (true, ⟨some 23, .move (.tmp 0), 22, (some (17, true))⟩),
 (true, ⟨some 24, .move (.tmp 4), 3, (some (17, true))⟩),
 (true, ⟨some 25, .indexAddr 22 (.tmp 23) (.tmp 24), 0, (some (17, true))⟩),
 (true, ⟨some 26, .fieldAddr 58 (.tmp 25) 9, 0, (some (17, true))⟩),
 (false, ⟨some 27, .load 3 (.tmp 26), 3, (some (17, true))⟩),
 (true, ⟨some 28, .binOp .lss 3 (.tmp 22) (.tmp 27) 3, 4, (some (17, true))⟩),
 (true, ⟨some 29, .move (.tmp 28), 4, (some (17, true))⟩),
 (true, ⟨some 30, .move (.tmp 3), 22, (some (29, false))⟩),
 (true, ⟨some 31, .move (.tmp 5), 3, (some (29, false))⟩),
 (true, ⟨some 32, .indexAddr 22 (.tmp 30) (.tmp 31), 0, (some (29, false))⟩),
 (true, ⟨some 33, .fieldAddr 58 (.tmp 32) 9, 0, (some (29, false))⟩),
 (false, ⟨some 34, .load 3 (.tmp 33), 3, (some (29, false))⟩),
 (true, ⟨some 35, .move (.tmp 0), 22, (some (29, false))⟩),
 (true, ⟨some 36, .move (.tmp 4), 3, (some (29, false))⟩),
 (true, ⟨some 37, .indexAddr 22 (.tmp 35) (.tmp 36), 0, (some (29, false))⟩),
 (true, ⟨some 38, .fieldAddr 58 (.tmp 37) 9, 0, (some (29, false))⟩),
 (false, ⟨some 39, .load 3 (.tmp 38), 3, (some (29, false))⟩),
 (true, ⟨some 40, .binOp .eql 3 (.tmp 34) (.tmp 39) 3, 4, (some (29, false))⟩),
 (true, ⟨some 41, .move (.tmp 40), 4, (some (29, false))⟩),
 (true, ⟨some 42, .move (.tmp 3), 22, (some (41, true))⟩),
 (true, ⟨some 43, .move (.tmp 5), 3, (some (41, true))⟩),
 (true, ⟨some 44, .indexAddr 22 (.tmp 42) (.tmp 43), 0, (some (41, true))⟩),
 (true, ⟨some 45, .fieldAddr 58 (.tmp 44) 0, 0, (some (41, true))⟩),
 (false, ⟨some 46, .load 3 (.tmp 45), 3, (some (41, true))⟩),
 (true, ⟨some 47, .move (.tmp 0), 22, (some (41, true))⟩),
 (true, ⟨some 48, .move (.tmp 4), 3, (some (41, true))⟩),
 (true, ⟨some 49, .indexAddr 22 (.tmp 47) (.tmp 48), 0, (some (41, true))⟩),
 (true, ⟨some 50, .fieldAddr 58 (.tmp 49) 0, 0, (some (41, true))⟩),
 (false, ⟨some 51, .load 3 (.tmp 50), 3, (some (41, true))⟩),
 (true, ⟨some 52, .binOp .leq 3 (.tmp 46) (.tmp 51) 3, 4, (some (41, true))⟩),
 (true, ⟨some 53, .pick (.tmp 41) (.tmp 52) (.const (.bool false)), 4, (some (29, false))⟩),
 (true, ⟨some 54, .pick (.tmp 29) (.const (.bool true)) (.tmp 53), 4, (some (17, true))⟩),
 (true, ⟨some 55, .pick (.tmp 17) (.tmp 54) (.const (.bool false)), 4, none⟩)]
theorem c52draw0 {L : List Nat} {ρ : Env} {w : World} {Q : Post} (h : DL Try.prog c52D0 L ρ w.drew Q) : drawW Try.prog (drawOps 0 c52code) L ρ w Q :=
  drawW_still [true, true, true, true, true, true, true, true, true, false, true, true, true, true, false, true, true, true, true, true, true, false, true, true, true, true, false, true, true, true, true, true, true, false, true, true, true, true, false, true, true, true, true] c52D0 (by kernel_rfl) (by kernel_rfl) (by kernel_rfl) h
set_option maxRecDepth 100000 in
theorem ent52 (a0 : Value) (w : World) (K : Value → World → Prop) (h : W Try.prog c52 [(0, a0)] w (finQ Try.prog [.tmp 2] K)) : Ret Try.prog 52 [a0] w K :=
  Ret_of_W (code := c52code) Try.func52 (by kernel_rfl) (by kernel_rfl) (of_decide_eq_true (by kernel_rfl)) h
@[go_sem] theorem go52 : goFunc Try.prog 52 = true := by kernel_rfl
/- Function 53: annalistref10.Before -/
noncomputable def c53code : Code := match Try.f53.body with | some c => c | none => .skip
noncomputable def c53 : Cmd := (.seq (.ops [
 ⟨some 2, .box 58 (.tmp 0), 0, none⟩,
 ⟨some 3, .box 58 (.tmp 1), 0, none⟩,
 ⟨some 4, .assign (.const (.bool false)), 4, none⟩] [2, 3])
 (.seq (.ops [
 ⟨some 5, .fieldAddr 58 (.tmp 2) 7, 0, none⟩,
 ⟨some 6, .load 4 (.tmp 5), 4, none⟩,
 ⟨some 7, .move (.tmp 6), 4, none⟩,
 ⟨some 8, .fieldAddr 58 (.tmp 2) 10, 0, (some (7, true))⟩,
 ⟨some 9, .load 3 (.tmp 8), 3, (some (7, true))⟩,
 ⟨some 10, .fieldAddr 58 (.tmp 3) 9, 0, (some (7, true))⟩,
 ⟨some 11, .load 3 (.tmp 10), 3, (some (7, true))⟩,
 ⟨some 12, .binOp .lss 3 (.tmp 9) (.tmp 11) 3, 4, (some (7, true))⟩,
 ⟨some 13, .pick (.tmp 7) (.tmp 12) (.const (.bool false)), 4, none⟩,
 ⟨some 4, .assign (.tmp 13), 4, none⟩] [4])
 .ret))
set_option maxRecDepth 100000 in
theorem ent53 (a0 a1 : Value) (w : World) (K : Value → World → Prop) (h : W Try.prog c53 [(0, a0), (1, a1)] w (finQ Try.prog [.tmp 4] K)) : Ret Try.prog 53 [a0, a1] w K :=
  Ret_of_W (code := c53code) Try.func53 (by kernel_rfl) (by kernel_rfl) (of_decide_eq_true (by kernel_rfl)) h
@[go_sem] theorem go53 : goFunc Try.prog 53 = true := by kernel_rfl
/- Function 65: op.Before -/
noncomputable def c65code : Code := match Try.f65.body with | some c => c | none => .skip
noncomputable def c65 : Cmd := (.seq (.ops [
 ⟨some 2, .box 58 (.tmp 0), 0, none⟩,
 ⟨some 3, .box 58 (.tmp 1), 0, none⟩,
 ⟨some 4, .assign (.const (.bool false)), 4, none⟩] [2, 3])
 (.seq (.ops [
 ⟨some 5, .fieldAddr 58 (.tmp 2) 7, 0, none⟩,
 ⟨some 6, .load 4 (.tmp 5), 4, none⟩,
 ⟨some 7, .move (.tmp 6), 4, none⟩,
 ⟨some 8, .fieldAddr 58 (.tmp 2) 10, 0, (some (7, true))⟩,
 ⟨some 9, .load 3 (.tmp 8), 3, (some (7, true))⟩,
 ⟨some 10, .fieldAddr 58 (.tmp 3) 9, 0, (some (7, true))⟩,
 ⟨some 11, .load 3 (.tmp 10), 3, (some (7, true))⟩,
 ⟨some 12, .binOp .lss 3 (.tmp 9) (.tmp 11) 3, 4, (some (7, true))⟩,
 ⟨some 13, .pick (.tmp 7) (.tmp 12) (.const (.bool false)), 4, none⟩,
 ⟨some 4, .assign (.tmp 13), 4, none⟩] [4])
 .ret))
set_option maxRecDepth 100000 in
theorem ent65 (a0 a1 : Value) (w : World) (K : Value → World → Prop) (h : W Try.prog c65 [(0, a0), (1, a1)] w (finQ Try.prog [.tmp 4] K)) : Ret Try.prog 65 [a0, a1] w K :=
  Ret_of_W (code := c65code) Try.func65 (by kernel_rfl) (by kernel_rfl) (of_decide_eq_true (by kernel_rfl)) h
@[go_sem] theorem go65 : goFunc Try.prog 65 = true := by kernel_rfl
/- Function 66: model.Do -/
noncomputable def c66code : Code := match Try.f66.body with | some c => c | none => .skip
noncomputable def c66S0 (_ : Unit) : Cmd := .ret
noncomputable def c66S1 (_ : Unit) : Cmd := (.seq (.ops [
  ⟨some 18, .move (.tmp 7), 36, none⟩,
  ⟨some 19, .load 58 (.tmp 3), 58, none⟩,
  ⟨some 20, .call ⟨.value (.func 92), #[(.tmp 18), (.tmp 19)], #[36, 58]⟩, 106, none⟩,
  ⟨some 21, .extract (.tmp 20) 0, 36, none⟩,
  ⟨some 22, .extract (.tmp 20) 1, 3, none⟩,
  ⟨some 23, .extract (.tmp 20) 2, 4, none⟩,
  ⟨some 4, .assign (.tmp 21), 36, none⟩,
  ⟨some 5, .assign (.tmp 22), 3, none⟩,
  ⟨some 6, .assign (.tmp 23), 4, none⟩] [4, 5, 6]) (sg c66S0))
noncomputable def c66S2 (_ : Unit) : Cmd := .ret
noncomputable def c66S3 (_ : Unit) : Cmd := .ret
noncomputable def c66S4 (_ : Unit) : Cmd := (.cond (.tmp 55)
       (.seq (.ops [
       ⟨some 4, .assign (.const (.slice none 0 0)), 36, none⟩,
       ⟨some 5, .assign (.const (.int .i64 0)), 3, none⟩,
       ⟨some 6, .assign (.const (.bool true)), 4, none⟩] [4, 5, 6])
       .ret)
       (.skip []))
noncomputable def c66S5 (_ : Unit) : Cmd := (.cond (.tmp 24)
   (.seq (.ops [
   ⟨some 27, .move (.tmp 7), 36, none⟩,
   ⟨some 28, .load 58 (.tmp 3), 58, none⟩,
   ⟨some 29, .call ⟨.value (.func 93), #[(.tmp 27), (.tmp 28)], #[36, 58]⟩, 106, none⟩,
   ⟨some 30, .extract (.tmp 29) 0, 36, none⟩,
   ⟨some 31, .extract (.tmp 29) 1, 3, none⟩,
   ⟨some 32, .extract (.tmp 29) 2, 4, none⟩,
   ⟨some 4, .assign (.tmp 30), 36, none⟩,
   ⟨some 5, .assign (.tmp 31), 3, none⟩,
   ⟨some 6, .assign (.tmp 32), 4, none⟩] [4, 5, 6]) (sg c66S2))
   (.seq (.ops [
   ⟨some 34, .binOp .eql 3 (.tmp 11) (.const (.int .i64 5)) 3, 4, none⟩,
   ⟨some 33, .assign (.tmp 34), 4, none⟩] [3, 7, 11, 33])
   (.cond (.tmp 33)
    (.seq (.ops [
    ⟨some 35, .move (.tmp 7), 36, none⟩,
    ⟨some 36, .load 58 (.tmp 3), 58, none⟩,
    ⟨some 37, .call ⟨.value (.func 94), #[(.tmp 35), (.tmp 36)], #[36, 58]⟩, 106, none⟩,
    ⟨some 38, .extract (.tmp 37) 0, 36, none⟩,
    ⟨some 39, .extract (.tmp 37) 1, 3, none⟩,
    ⟨some 40, .extract (.tmp 37) 2, 4, none⟩,
    ⟨some 4, .assign (.tmp 38), 36, none⟩,
    ⟨some 5, .assign (.tmp 39), 3, none⟩,
    ⟨some 6, .assign (.tmp 40), 4, none⟩] [4, 5, 6]) (sg c66S3))
    (.seq (.ops [
    ⟨some 42, .binOp .eql 3 (.tmp 11) (.const (.int .i64 6)) 3, 4, none⟩,
    ⟨some 41, .assign (.tmp 42), 4, none⟩] [3, 7, 41])
    (.cond (.tmp 41)
     (.block 1 (.seq (.ops [
     ⟨some 44, .fieldAddr 58 (.tmp 3) 4, 0, none⟩,
     ⟨some 45, .load 3 (.tmp 44), 3, none⟩,
     ⟨some 46, .binOp .eql 3 (.tmp 45) (.const (.int .i64 13)) 3, 4, none⟩,
     ⟨some 47, .move (.tmp 46), 4, none⟩,
     ⟨some 48, .move (.tmp 7), 36, (some (47, true))⟩,
     ⟨some 49, .call ⟨.builtin .len, #[(.tmp 48)], #[36]⟩, 3, (some (47, true))⟩,
     ⟨some 50, .binOp .eql 3 (.tmp 49) (.const (.int .i64 0)) 3, 4, (some (47, true))⟩,
     ⟨some 51, .pick (.tmp 47) (.tmp 50) (.const (.bool false)), 4, none⟩,
     ⟨some 43, .assign (.tmp 51), 4, none⟩] [3, 7, 43])
     (.cond (.tmp 43)
      (.seq (.ops [
      ⟨some 52, .fieldAddr 58 (.tmp 3) 1, 0, none⟩,
      ⟨some 53, .load 3 (.tmp 52), 3, none⟩,
      ⟨some 54, .buildSlice 36 1 #[(0, (.tmp 53))], 36, none⟩,
      ⟨some 4, .assign (.tmp 54), 36, none⟩,
      ⟨some 5, .assign (.const (.int .i64 0)), 3, none⟩,
      ⟨some 6, .assign (.const (.bool true)), 4, none⟩] [4, 5, 6])
      .ret)
      (.seq (.draw (drawOps 0 c66code) [55]) (sg c66S4)))))
     (.skip []))))))
noncomputable def c66S6 (_ : Unit) : Cmd := (.cond (.tmp 12)
  (.seq (.seq (.ops [
  ⟨some 15, .move (.tmp 7), 36, none⟩,
  ⟨some 16, .call ⟨.builtin .len, #[(.tmp 15)], #[36]⟩, 3, none⟩,
  ⟨some 17, .binOp .neq 3 (.tmp 16) (.const (.int .i64 1)) 3, 4, none⟩] [3, 7, 17])
  (.cond (.tmp 17)
   (.seq (.ops [
   ⟨some 4, .assign (.const (.slice none 0 0)), 36, none⟩,
   ⟨some 5, .assign (.const (.int .i64 0)), 3, none⟩,
   ⟨some 6, .assign (.const (.bool false)), 4, none⟩] [4, 5, 6])
   .ret)
   (.skip [3, 7]))) (sg c66S1))
  (.seq (.seq (.ops [
  ⟨some 25, .binOp .eql 3 (.tmp 11) (.const (.int .i64 3)) 3, 4, none⟩,
  ⟨some 24, .assign (.tmp 25), 4, none⟩] [3, 7, 11, 24])
  (.cond (.tmp 24)
   (.skip [3, 7, 11, 24])
   (.ops [
   ⟨some 26, .binOp .eql 3 (.tmp 11) (.const (.int .i64 4)) 3, 4, none⟩,
   ⟨some 24, .assign (.tmp 26), 4, none⟩] [3, 7, 11, 24]))) (sg c66S5)))
noncomputable def c66S7 (_ : Unit) : Cmd := (.seq (.ops [
 ⟨some 4, .assign (.const (.slice none 0 0)), 36, none⟩,
 ⟨some 5, .assign (.const (.int .i64 0)), 3, none⟩,
 ⟨some 6, .assign (.const (.bool false)), 4, none⟩] [4, 5, 6])
 .ret)
noncomputable def c66S8 (_ : Unit) : Cmd := (.seq (.seq (.ops [
 ⟨some 10, .fieldAddr 58 (.tmp 3) 3, 0, none⟩,
 ⟨some 11, .load 3 (.tmp 10), 3, none⟩] [3, 7, 11])
 (.block 0 (.seq (.seq (.ops [
 ⟨some 13, .binOp .eql 3 (.tmp 11) (.const (.int .i64 1)) 3, 4, none⟩,
 ⟨some 12, .assign (.tmp 13), 4, none⟩] [3, 7, 11, 12])
 (.cond (.tmp 12)
  (.skip [3, 7, 11, 12])
  (.ops [
  ⟨some 14, .binOp .eql 3 (.tmp 11) (.const (.int .i64 2)) 3, 4, none⟩,
  ⟨some 12, .assign (.tmp 14), 4, none⟩] [3, 7, 11, 12]))) (sg c66S6)))) (sg c66S7))
noncomputable def c66 : Cmd := (.seq (.ops [
 ⟨some 3, .box 58 (.tmp 1), 0, none⟩,
 ⟨some 4, .assign (.const (.slice none 0 0)), 36, none⟩,
 ⟨some 5, .assign (.const (.int .i64 0)), 3, none⟩,
 ⟨some 6, .assign (.const (.bool false)), 4, none⟩] [0, 3])
 (.seq (.ops [
 ⟨some 8, .move (.tmp 0), 36, none⟩,
 ⟨some 9, .call ⟨.value (.func 39), #[(.tmp 8)], #[36]⟩, 36, none⟩,
 ⟨some 7, .assign (.tmp 9), 36, none⟩] [3, 7]) (sg c66S8)))
noncomputable def c66D0 : List (Bool × Ins) := [
 (true, ⟨some 56, .fieldAddr 58 (.tmp 3) 4, 0, none⟩),
 (false, ⟨some 57, .load 3 (.tmp 56), 3, none⟩),
 (true, ⟨some 58, .binOp .eql 3 (.tmp 57) (.const (.int .i64 14)) 3, 4, none⟩),
 (true, ⟨some 59, .move (.tmp 58), 4, none⟩),
 (true, ⟨some 60, .move (.tmp 7), 36, (some (59, true))⟩),
 (true, ⟨some 61, .call ⟨.builtin .len, #[(.tmp 60)], #[36]⟩, 3, (some (59, true))⟩),
 (true, ⟨some 62, .binOp .eql 3 (.tmp 61) (.const (.int .i64 1)) 3, 4, (some (59, true))⟩),
 (true, ⟨some 63, .pick (.tmp 59) (.tmp 62) (.const (.bool false)), 4, none⟩),
 (true, ⟨some 64, .move (.tmp 63), 4, none⟩),
 (true, ⟨some 65, .move (.tmp 7), 36, (some (64, true))⟩),
 (true, ⟨some 66, .indexAddr 36 (.tmp 65) (.const (.int .i64 0)), 0, (some (64, true))⟩),
 (false, ⟨some 67, .load 3 (.tmp 66), 3, (some (64, true))⟩),
 (true, ⟨some 68, .fieldAddr 58 (.tmp 3) 1, 0, (some (64, true))⟩),
 (false, ⟨some 69, .load 3 (.tmp 68), 3, (some (64, true))⟩),
 (true, ⟨some 70, .binOp .eql 3 (.tmp 67) (.tmp 69) 3, 4, (some (64, true))⟩),
 (true, ⟨some 71, .pick (.tmp 64) (.tmp 70) (.const (.bool false)), 4, none⟩),
 (true, ⟨some 55, .assign (.tmp 71), 4, none⟩)]
theorem c66draw0 {L : List Nat} {ρ : Env} {w : World} {Q : Post} (h : DL Try.prog c66D0 L ρ w.drew Q) : drawW Try.prog (drawOps 0 c66code) L ρ w Q :=
  drawW_still [true, false, true, true, true, true, true, true, true, true, true, false, true, false, true, true, true] c66D0 (by kernel_rfl) (by kernel_rfl) (by kernel_rfl) h
set_option maxRecDepth 100000 in
theorem ent66 (a0 a1 : Value) (w : World) (K : Value → World → Prop) (h : W Try.prog c66 [(0, a0), (1, a1)] w (finQ Try.prog [.tmp 4, .tmp 5, .tmp 6] K)) : Ret Try.prog 66 [a0, a1] w K :=
  Ret_of_W (code := c66code) Try.func66 (by kernel_rfl) (by kernel_rfl) (of_decide_eq_true (by kernel_rfl)) h
@[go_sem] theorem go66 : goFunc Try.prog 66 = true := by kernel_rfl
/- Function 67: annalistref11.Rising -/
noncomputable def c67code : Code := match Try.f67.body with | some c => c | none => .skip
noncomputable def c67S0 (_ : Unit) : Cmd := (.cond (.tmp 19)
  (.seq (.ops [
  ⟨some 2, .assign (.const (.bool false)), 4, none⟩] [2])
  .ret)
  (.skip [0, 3]))
noncomputable def c67S1 (_ : Unit) : Cmd := (.ops [
 ⟨some 8, .move (.tmp 3), 3, none⟩,
 ⟨some 9, .binOp .add 3 (.tmp 8) (.const (.int .i64 1)) 3, 3, none⟩,
 ⟨some 3, .assign (.tmp 9), 3, none⟩] [0, 3])
noncomputable def c67S2 (_ : Unit) : Cmd := (.seq (.block 1 (.seq (.draw (drawOps 0 c67code) [0, 3, 19]) (sg c67S0))) (sg c67S1))
noncomputable def c67L0 (_ : Unit) : Cmd := (.seq (.seq (.ops [
 ⟨some 4, .move (.tmp 3), 3, none⟩,
 ⟨some 5, .move (.tmp 0), 36, none⟩,
 ⟨some 6, .call ⟨.builtin .len, #[(.tmp 5)], #[36]⟩, 3, none⟩,
 ⟨some 7, .binOp .lss 3 (.tmp 4) (.tmp 6) 3, 4, none⟩] [0, 3, 7])
 (.cond (.tmp 7)
  (.skip [0, 3])
  (.exit 0 []))) (sg c67S2))
noncomputable def c67S3 (_ : Unit) : Cmd := (.seq (.ops [
 ⟨some 2, .assign (.const (.bool true)), 4, none⟩] [2])
 .ret)
noncomputable def c67 : Cmd := (.seq (.ops [
 ⟨some 2, .assign (.const (.bool false)), 4, none⟩] [0])
 (.seq (.seq (.ops [
 ⟨some 3, .assign (.const (.int .i64 1)), 3, none⟩] [0, 3])
 (.block 0 (.loop (sg c67L0)))) (sg c67S3)))
noncomputable def c67D0 : List (Bool × Ins) := [
 (true, ⟨some 10, .move (.tmp 0), 36, none⟩),
 (true, ⟨some 11, .move (.tmp 3), 3, none⟩),
 (true, ⟨some 12, .binOp .sub 3 (.tmp 11) (.const (.int .i64 1)) 3, 3, none⟩),
 (true, ⟨some 13, .indexAddr 36 (.tmp 10) (.tmp 12), 0, none⟩),
 (false, ⟨some 14, .load 3 (.tmp 13), 3, none⟩),
 (true, ⟨some 15, .move (.tmp 0), 36, none⟩),
 (true, ⟨some 16, .move (.tmp 3), 3, none⟩),
 (true, ⟨some 17, .indexAddr 36 (.tmp 15) (.tmp 16), 0, none⟩),
 (false, ⟨some 18, .load 3 (.tmp 17), 3, none⟩),
 (true, ⟨some 19, .binOp .geq 3 (.tmp 14) (.tmp 18) 3, 4, none⟩)]
theorem c67draw0 {L : List Nat} {ρ : Env} {w : World} {Q : Post} (h : DL Try.prog c67D0 L ρ w.drew Q) : drawW Try.prog (drawOps 0 c67code) L ρ w Q :=
  drawW_still [true, true, true, true, false, true, true, true, false, true] c67D0 (by kernel_rfl) (by kernel_rfl) (by kernel_rfl) h
set_option maxRecDepth 100000 in
theorem ent67 (a0 : Value) (w : World) (K : Value → World → Prop) (h : W Try.prog c67 [(0, a0)] w (finQ Try.prog [.tmp 2] K)) : Ret Try.prog 67 [a0] w K :=
  Ret_of_W (code := c67code) Try.func67 (by kernel_rfl) (by kernel_rfl) (of_decide_eq_true (by kernel_rfl)) h
@[go_sem] theorem go67 : goFunc Try.prog 67 = true := by kernel_rfl
/- Function 68: annalistref15.key -/
noncomputable def c68code : Code := match Try.f68.body with | some c => c | none => .skip
noncomputable def c68S0 (_ : Unit) : Cmd := (.ops [
 ⟨some 10, .move (.tmp 4), 3, none⟩,
 ⟨some 11, .binOp .add 3 (.tmp 10) (.const (.int .i64 1)) 3, 3, none⟩,
 ⟨some 4, .assign (.tmp 11), 3, none⟩] [1, 3, 4])
noncomputable def c68S1 (_ : Unit) : Cmd := (.seq (.block 1 (.seq (.ops [
 ⟨some 12, .fieldAddr 83 (.tmp 1) 0, 0, none⟩,
 ⟨some 13, .load 41 (.tmp 12), 41, none⟩,
 ⟨some 14, .move (.tmp 4), 3, none⟩,
 ⟨some 15, .indexAddr 41 (.tmp 13) (.tmp 14), 0, none⟩,
 ⟨some 16, .load 4 (.tmp 15), 4, none⟩] [1, 3, 4, 16])
 (.cond (.tmp 16)
  (.ops [
  ⟨some 17, .move (.tmp 3), 9, none⟩,
  ⟨some 18, .binOp .add 9 (.tmp 17) (.const (.string (ofL [49]))) 9, 9, none⟩,
  ⟨some 3, .assign (.tmp 18), 9, none⟩] [1, 3, 4])
  (.ops [
  ⟨some 19, .move (.tmp 3), 9, none⟩,
  ⟨some 20, .binOp .add 9 (.tmp 19) (.const (.string (ofL [48]))) 9, 9, none⟩,
  ⟨some 3, .assign (.tmp 20), 9, none⟩] [1, 3, 4])))) (sg c68S0))
noncomputable def c68L0 (_ : Unit) : Cmd := (.seq (.seq (.ops [
 ⟨some 5, .move (.tmp 4), 3, none⟩,
 ⟨some 6, .fieldAddr 83 (.tmp 1) 0, 0, none⟩,
 ⟨some 7, .load 41 (.tmp 6), 41, none⟩,
 ⟨some 8, .call ⟨.builtin .len, #[(.tmp 7)], #[41]⟩, 3, none⟩,
 ⟨some 9, .binOp .lss 3 (.tmp 5) (.tmp 8) 3, 4, none⟩] [1, 3, 4, 9])
 (.cond (.tmp 9)
  (.skip [1, 3, 4])
  (.exit 0 [1, 3]))) (sg c68S1))
noncomputable def c68S2 (_ : Unit) : Cmd := .ret
noncomputable def c68S3 (_ : Unit) : Cmd := (.seq (.ops [
 ⟨some 21, .move (.tmp 3), 9, none⟩,
 ⟨some 22, .fieldAddr 83 (.tmp 1) 1, 0, none⟩,
 ⟨some 23, .load 36 (.tmp 22), 36, none⟩,
 ⟨some 24, .call ⟨.value (.func 47), #[(.tmp 23)], #[36]⟩, 9, none⟩,
 ⟨some 25, .binOp .add 9 (.tmp 21) (.tmp 24) 9, 9, none⟩,
 ⟨some 2, .assign (.tmp 25), 9, none⟩] [2]) (sg c68S2))
noncomputable def c68 : Cmd := (.seq (.ops [
 ⟨some 1, .box 83 (.tmp 0), 0, none⟩,
 ⟨some 2, .assign (.const (.string (ofL []))), 9, none⟩] [1])
 (.seq (.ops [
 ⟨some 3, .assign (.const (.string (ofL []))), 9, none⟩] [1, 3])
 (.seq (.seq (.ops [
 ⟨some 4, .assign (.const (.int .i64 0)), 3, none⟩] [1, 3, 4])
 (.block 0 (.loop (sg c68L0)))) (sg c68S3))))
set_option maxRecDepth 100000 in
theorem ent68 (a0 : Value) (w : World) (K : Value → World → Prop) (h : W Try.prog c68 [(0, a0)] w (finQ Try.prog [.tmp 2] K)) : Ret Try.prog 68 [a0] w K :=
  Ret_of_W (code := c68code) Try.func68 (by kernel_rfl) (by kernel_rfl) (of_decide_eq_true (by kernel_rfl)) h
@[go_sem] theorem go68 : goFunc Try.prog 68 = true := by kernel_rfl
/- Function 72: bits.Var -/
noncomputable def c72code : Code := match Try.f72.body with | some c => c | none => .skip
noncomputable def c72S0 (_ : Unit) : Cmd := (.ops [
 ⟨some 12, .move (.tmp 0), 114, none⟩,
 ⟨some 13, .binOp .shr 114 (.tmp 12) (.const (.int .u64 7)) 76, 114, none⟩,
 ⟨some 0, .assign (.tmp 13), 114, none⟩] [0, 3])
noncomputable def c72S1 (_ : Unit) : Cmd := (.block 1 (.seq (.ops [
 ⟨some 6, .move (.tmp 3), 146, none⟩,
 ⟨some 7, .move (.tmp 0), 114, none⟩,
 ⟨some 8, .convert 114 5 (.tmp 7), 5, none⟩,
 ⟨some 9, .binOp .or 5 (.tmp 8) (.const (.int .u8 128)) 5, 5, none⟩,
 ⟨some 10, .buildSlice 146 1 #[(0, (.tmp 9))], 146, none⟩,
 ⟨some 11, .call ⟨.builtin .append, #[(.tmp 6), (.tmp 10)], #[146, 146]⟩, 146, none⟩,
 ⟨some 3, .assign (.tmp 11), 146, none⟩] [0, 3]) (sg c72S0)))
noncomputable def c72L0 (_ : Unit) : Cmd := (.seq (.seq (.ops [
 ⟨some 4, .move (.tmp 0), 114, none⟩,
 ⟨some 5, .binOp .geq 114 (.tmp 4) (.const (.int .u64 128)) 114, 4, none⟩] [0, 3, 5])
 (.cond (.tmp 5)
  (.skip [0, 3])
  (.exit 0 [0, 3]))) (sg c72S1))
noncomputable def c72S2 (_ : Unit) : Cmd := .ret
noncomputable def c72S3 (_ : Unit) : Cmd := (.seq (.ops [
 ⟨some 14, .move (.tmp 3), 146, none⟩,
 ⟨some 15, .move (.tmp 0), 114, none⟩,
 ⟨some 16, .convert 114 5 (.tmp 15), 5, none⟩,
 ⟨some 17, .buildSlice 146 1 #[(0, (.tmp 16))], 146, none⟩,
 ⟨some 18, .call ⟨.builtin .append, #[(.tmp 14), (.tmp 17)], #[146, 146]⟩, 146, none⟩,
 ⟨some 19, .convert 146 9 (.tmp 18), 9, none⟩,
 ⟨some 2, .assign (.tmp 19), 9, none⟩] [2]) (sg c72S2))
noncomputable def c72 : Cmd := (.seq (.ops [
 ⟨some 2, .assign (.const (.string (ofL []))), 9, none⟩] [0])
 (.seq (.ops [
 ⟨some 3, .assign (.const (.slice none 0 0)), 146, none⟩] [0, 3])
 (.seq (.block 0 (.loop (sg c72L0))) (sg c72S3))))
set_option maxRecDepth 100000 in
theorem ent72 (a0 : Value) (w : World) (K : Value → World → Prop) (h : W Try.prog c72 [(0, a0)] w (finQ Try.prog [.tmp 2] K)) : Ret Try.prog 72 [a0] w K :=
  Ret_of_W (code := c72code) Try.func72 (by kernel_rfl) (by kernel_rfl) (of_decide_eq_true (by kernel_rfl)) h
@[go_sem] theorem go72 : goFunc Try.prog 72 = true := by kernel_rfl
/- Function 73: bits.Fold -/
noncomputable def c73code : Code := match Try.f73.body with | some c => c | none => .skip
noncomputable def c73 : Cmd := (.seq (.ops [
 ⟨some 2, .assign (.const (.int .u64 0)), 114, none⟩] [0])
 (.seq (.ops [
 ⟨some 3, .move (.tmp 0), 3, none⟩,
 ⟨some 4, .convert 3 114 (.tmp 3), 114, none⟩,
 ⟨some 5, .binOp .shl 114 (.tmp 4) (.const (.int .u64 1)) 76, 114, none⟩,
 ⟨some 6, .move (.tmp 0), 3, none⟩,
 ⟨some 7, .binOp .shr 3 (.tmp 6) (.const (.int .u64 63)) 76, 3, none⟩,
 ⟨some 8, .convert 3 114 (.tmp 7), 114, none⟩,
 ⟨some 9, .binOp .xor 114 (.tmp 5) (.tmp 8) 114, 114, none⟩,
 ⟨some 2, .assign (.tmp 9), 114, none⟩] [2])
 .ret))
set_option maxRecDepth 100000 in
theorem ent73 (a0 : Value) (w : World) (K : Value → World → Prop) (h : W Try.prog c73 [(0, a0)] w (finQ Try.prog [.tmp 2] K)) : Ret Try.prog 73 [a0] w K :=
  Ret_of_W (code := c73code) Try.func73 (by kernel_rfl) (by kernel_rfl) (of_decide_eq_true (by kernel_rfl)) h
@[go_sem] theorem go73 : goFunc Try.prog 73 = true := by kernel_rfl
/- Function 74: annalistref01.Var -/
noncomputable def c74code : Code := match Try.f74.body with | some c => c | none => .skip
noncomputable def c74S0 (_ : Unit) : Cmd := .ret
noncomputable def c74S1 (_ : Unit) : Cmd := (.seq (.draw (drawOps 0 c74code) [2]) (sg c74S0))
noncomputable def c74 : Cmd := (.seq (.ops [
 ⟨some 2, .assign (.const (.string (ofL []))), 9, none⟩] [0])
 (.seq (.seq (.ops [
 ⟨some 3, .move (.tmp 0), 114, none⟩,
 ⟨some 4, .binOp .lss 114 (.tmp 3) (.const (.int .u64 128)) 114, 4, none⟩] [0, 4])
 (.cond (.tmp 4)
  (.seq (.ops [
  ⟨some 5, .move (.tmp 0), 114, none⟩,
  ⟨some 6, .convert 114 5 (.tmp 5), 5, none⟩,
  ⟨some 7, .buildSlice 146 1 #[(0, (.tmp 6))], 146, none⟩,
  ⟨some 8, .convert 146 9 (.tmp 7), 9, none⟩,
  ⟨some 2, .assign (.tmp 8), 9, none⟩] [2])
  .ret)
  (.skip [0]))) (sg c74S1)))
/- TREE function 74 draw 0: several may come: [4, 8] after [0, 1, 2, 3, 6, 7] -/
noncomputable def c74D0 : GT := (.one 0 ⟨some 9, .move (.tmp 0), 114, none⟩
 (.one 0 ⟨some 10, .binOp .rem 114 (.tmp 9) (.const (.int .u64 128)) 114, 114, none⟩
 (.one 0 ⟨some 11, .binOp .add 114 (.tmp 10) (.const (.int .u64 128)) 114, 114, none⟩
 (.one 0 ⟨some 12, .convert 114 5 (.tmp 11), 5, none⟩
 (.one 0 ⟨some 15, .move (.tmp 0), 114, none⟩
 (.one 0 ⟨some 16, .binOp .quo 114 (.tmp 15) (.const (.int .u64 128)) 114, 114, none⟩
 (.alt ⟨some 13, .buildSlice 146 1 #[(0, (.tmp 12))], 146, none⟩
 (.alt ⟨some 14, .convert 146 9 (.tmp 13), 9, none⟩
 (.one 2 ⟨some 17, .call ⟨.value (.func 74), #[(.tmp 16)], #[114]⟩, 9, none⟩
 (.one 0 ⟨some 18, .binOp .add 9 (.tmp 14) (.tmp 17) 9, 9, none⟩
 (.one 0 ⟨some 2, .assign (.tmp 18), 9, none⟩
 .nil)))
 (.alt ⟨some 17, .call ⟨.value (.func 74), #[(.tmp 16)], #[114]⟩, 9, none⟩
 (.one 2 ⟨some 14, .convert 146 9 (.tmp 13), 9, none⟩
 (.one 0 ⟨some 18, .binOp .add 9 (.tmp 14) (.tmp 17) 9, 9, none⟩
 (.one 0 ⟨some 2, .assign (.tmp 18), 9, none⟩
 .nil)))
 .stop))
 (.alt ⟨some 17, .call ⟨.value (.func 74), #[(.tmp 16)], #[114]⟩, 9, none⟩
 (.one 2 ⟨some 13, .buildSlice 146 1 #[(0, (.tmp 12))], 146, none⟩
 (.one 2 ⟨some 14, .convert 146 9 (.tmp 13), 9, none⟩
 (.one 0 ⟨some 18, .binOp .add 9 (.tmp 14) (.tmp 17) 9, 9, none⟩
 (.one 0 ⟨some 2, .assign (.tmp 18), 9, none⟩
 .nil))))
 .stop))))))))
theorem c74draw0 {L : List Nat} {ρ : Env} {w : World} {Q : Post} (S : World → Prop) (hS : S w.drew) (h : DT Try.prog S c74D0 L ρ w.drew Q) : drawW Try.prog (drawOps 0 c74code) L ρ w Q :=
  drawW_tree [] (.one 0 0 (.one 0 1 (.one 0 2 (.one 0 3 (.one 0 6 (.one 0 7 (.alt 4 (.alt 5 (.one 2 8 (.one 0 9 (.one 0 10 .nil))) (.alt 8 (.one 2 5 (.one 0 9 (.one 0 10 .nil))) .stop)) (.alt 8 (.one 2 4 (.one 2 5 (.one 0 9 (.one 0 10 .nil)))) .stop)))))))) c74D0 (by kernel_rfl) (by kernel_rfl) (by kernel_rfl) S hS h
set_option maxRecDepth 100000 in
theorem ent74 (a0 : Value) (w : World) (K : Value → World → Prop) (h : W Try.prog c74 [(0, a0)] w (finQ Try.prog [.tmp 2] K)) : Ret Try.prog 74 [a0] w K :=
  Ret_of_W (code := c74code) Try.func74 (by kernel_rfl) (by kernel_rfl) (of_decide_eq_true (by kernel_rfl)) h
@[go_sem] theorem go74 : goFunc Try.prog 74 = true := by kernel_rfl
/- Function 75: annalistref01.Fold -/
noncomputable def c75code : Code := match Try.f75.body with | some c => c | none => .skip
noncomputable def c75S0 (_ : Unit) : Cmd := (.seq (.ops [
 ⟨some 8, .move (.tmp 0), 3, none⟩,
 ⟨some 9, .binOp .sub 3 (.const (.int .i64 (-1))) (.tmp 8) 3, 3, none⟩,
 ⟨some 10, .convert 3 114 (.tmp 9), 114, none⟩,
 ⟨some 11, .binOp .mul 114 (.const (.int .u64 2)) (.tmp 10) 114, 114, none⟩,
 ⟨some 12, .binOp .add 114 (.tmp 11) (.const (.int .u64 1)) 114, 114, none⟩,
 ⟨some 2, .assign (.tmp 12), 114, none⟩] [2])
 .ret)
noncomputable def c75 : Cmd := (.seq (.ops [
 ⟨some 2, .assign (.const (.int .u64 0)), 114, none⟩] [0])
 (.seq (.seq (.ops [
 ⟨some 3, .move (.tmp 0), 3, none⟩,
 ⟨some 4, .binOp .geq 3 (.tmp 3) (.const (.int .i64 0)) 3, 4, none⟩] [0, 4])
 (.cond (.tmp 4)
  (.seq (.ops [
  ⟨some 5, .move (.tmp 0), 3, none⟩,
  ⟨some 6, .convert 3 114 (.tmp 5), 114, none⟩,
  ⟨some 7, .binOp .mul 114 (.const (.int .u64 2)) (.tmp 6) 114, 114, none⟩,
  ⟨some 2, .assign (.tmp 7), 114, none⟩] [2])
  .ret)
  (.skip [0]))) (sg c75S0)))
set_option maxRecDepth 100000 in
theorem ent75 (a0 : Value) (w : World) (K : Value → World → Prop) (h : W Try.prog c75 [(0, a0)] w (finQ Try.prog [.tmp 2] K)) : Ret Try.prog 75 [a0] w K :=
  Ret_of_W (code := c75code) Try.func75 (by kernel_rfl) (by kernel_rfl) (of_decide_eq_true (by kernel_rfl)) h
@[go_sem] theorem go75 : goFunc Try.prog 75 = true := by kernel_rfl
/- Function 76: annalistref11.Do -/
noncomputable def c76code : Code := match Try.f76.body with | some c => c | none => .skip
noncomputable def c76S0 (_ : Unit) : Cmd := .ret
noncomputable def c76S1 (_ : Unit) : Cmd := .ret
noncomputable def c76S2 (_ : Unit) : Cmd := .ret
noncomputable def c76S3 (_ : Unit) : Cmd := .ret
noncomputable def c76S4 (_ : Unit) : Cmd := (.cond (.tmp 126)
  (.seq (.ops [
  ⟨some 127, .build 117 #[(0, (.const (.slice none 0 0))), (1, (.const (.int .i64 0))), (2, (.const (.bool true)))], 117, none⟩,
  ⟨none, .store 117 (.tmp 4) (.tmp 127), 0, none⟩] [4])
  .ret)
  (.skip [0, 3, 4, 5, 6]))
noncomputable def c76S5 (_ : Unit) : Cmd := .ret
noncomputable def c76S6 (_ : Unit) : Cmd := .ret
noncomputable def c76S7 (_ : Unit) : Cmd := (.seq (.ops [
 ⟨some 179, .build 117 #[], 117, none⟩,
 ⟨none, .store 117 (.tmp 4) (.tmp 179), 0, none⟩] [4])
 .ret)
noncomputable def c76S8 (_ : Unit) : Cmd := (.seq (.seq (.ops [
 ⟨some 172, .move (.tmp 6), 3, none⟩,
 ⟨some 173, .binOp .eql 3 (.tmp 172) (.const (.int .i64 11)) 3, 4, none⟩] [0, 3, 4, 173])
 (.cond (.tmp 173)
  (.seq (.ops [
  ⟨some 174, .move (.tmp 0), 36, none⟩,
  ⟨some 175, .fieldAddr 58 (.tmp 3) 5, 0, none⟩,
  ⟨some 176, .load 3 (.tmp 175), 3, none⟩,
  ⟨some 177, .call ⟨.value (.func 107), #[(.tmp 174), (.tmp 176)], #[36, 3]⟩, 36, none⟩,
  ⟨some 178, .build 117 #[(0, (.tmp 177)), (1, (.const (.int .i64 1))), (2, (.const (.bool true)))], 117, none⟩,
  ⟨none, .store 117 (.tmp 4) (.tmp 178), 0, none⟩] [4]) (sg c76S6))
  (.skip [4]))) (sg c76S7))
noncomputable def c76S9 (_ : Unit) : Cmd := (.seq (.seq (.ops [
 ⟨some 165, .move (.tmp 6), 3, none⟩,
 ⟨some 166, .binOp .eql 3 (.tmp 165) (.const (.int .i64 10)) 3, 4, none⟩] [0, 3, 4, 6, 166])
 (.cond (.tmp 166)
  (.seq (.ops [
  ⟨some 167, .move (.tmp 0), 36, none⟩,
  ⟨some 168, .fieldAddr 58 (.tmp 3) 5, 0, none⟩,
  ⟨some 169, .load 3 (.tmp 168), 3, none⟩,
  ⟨some 170, .call ⟨.value (.func 108), #[(.tmp 167), (.tmp 169)], #[36, 3]⟩, 36, none⟩,
  ⟨some 171, .build 117 #[(0, (.tmp 170)), (1, (.const (.int .i64 1))), (2, (.const (.bool true)))], 117, none⟩,
  ⟨none, .store 117 (.tmp 4) (.tmp 171), 0, none⟩] [4]) (sg c76S5))
  (.skip [0, 3, 4, 6]))) (sg c76S8))
noncomputable def c76S10 (_ : Unit) : Cmd := (.seq (.seq (.ops [
 ⟨some 146, .move (.tmp 6), 3, none⟩,
 ⟨some 147, .binOp .eql 3 (.tmp 146) (.const (.int .i64 12)) 3, 4, none⟩,
 ⟨some 148, .move (.tmp 147), 4, none⟩,
 ⟨some 149, .move (.tmp 6), 3, (some (148, false))⟩,
 ⟨some 150, .binOp .eql 3 (.tmp 149) (.const (.int .i64 10)) 3, 4, (some (148, false))⟩,
 ⟨some 151, .move (.tmp 150), 4, (some (148, false))⟩,
 ⟨some 152, .move (.tmp 7), 4, (some (151, true))⟩,
 ⟨some 153, .pick (.tmp 151) (.tmp 152) (.const (.bool false)), 4, (some (148, false))⟩,
 ⟨some 154, .pick (.tmp 148) (.const (.bool true)) (.tmp 153), 4, none⟩,
 ⟨some 155, .move (.tmp 154), 4, none⟩,
 ⟨some 156, .move (.tmp 6), 3, (some (155, false))⟩,
 ⟨some 157, .binOp .eql 3 (.tmp 156) (.const (.int .i64 11)) 3, 4, (some (155, false))⟩,
 ⟨some 158, .move (.tmp 157), 4, (some (155, false))⟩,
 ⟨some 159, .move (.tmp 7), 4, (some (158, true))⟩,
 ⟨some 160, .unOp .not 4 (.tmp 159), 4, (some (158, true))⟩,
 ⟨some 161, .pick (.tmp 158) (.tmp 160) (.const (.bool false)), 4, (some (155, false))⟩,
 ⟨some 162, .pick (.tmp 155) (.const (.bool true)) (.tmp 161), 4, none⟩] [0, 3, 4, 6, 162])
 (.cond (.tmp 162)
  (.seq (.ops [
  ⟨some 163, .move (.tmp 0), 36, none⟩,
  ⟨some 164, .build 117 #[(0, (.tmp 163)), (1, (.const (.int .i64 0))), (2, (.const (.bool true)))], 117, none⟩,
  ⟨none, .store 117 (.tmp 4) (.tmp 164), 0, none⟩] [4])
  .ret)
  (.skip [0, 3, 4, 6]))) (sg c76S9))
noncomputable def c76S11 (_ : Unit) : Cmd := (.seq (.seq (.ops [
 ⟨some 139, .move (.tmp 6), 3, none⟩,
 ⟨some 140, .binOp .eql 3 (.tmp 139) (.const (.int .i64 12)) 3, 4, none⟩,
 ⟨some 141, .move (.tmp 140), 4, none⟩,
 ⟨some 142, .move (.tmp 7), 4, (some (141, true))⟩,
 ⟨some 143, .pick (.tmp 141) (.tmp 142) (.const (.bool false)), 4, none⟩] [0, 3, 4, 6, 7, 143])
 (.cond (.tmp 143)
  (.seq (.ops [
  ⟨some 144, .move (.tmp 0), 36, none⟩,
  ⟨some 145, .build 117 #[(0, (.tmp 144)), (1, (.const (.int .i64 1))), (2, (.const (.bool true)))], 117, none⟩,
  ⟨none, .store 117 (.tmp 4) (.tmp 145), 0, none⟩] [4])
  .ret)
  (.skip [0, 3, 4, 6, 7]))) (sg c76S10))
noncomputable def c76S12 (_ : Unit) : Cmd := (.seq (.ops [
 ⟨some 131, .move (.tmp 0), 36, none⟩,
 ⟨some 132, .fieldAddr 58 (.tmp 3) 5, 0, none⟩,
 ⟨some 133, .load 3 (.tmp 132), 3, none⟩,
 ⟨some 134, .call ⟨.value (.func 107), #[(.tmp 131), (.tmp 133)], #[36, 3]⟩, 36, none⟩,
 ⟨some 135, .call ⟨.builtin .len, #[(.tmp 134)], #[36]⟩, 3, none⟩,
 ⟨some 136, .move (.tmp 0), 36, none⟩,
 ⟨some 137, .call ⟨.builtin .len, #[(.tmp 136)], #[36]⟩, 3, none⟩,
 ⟨some 138, .binOp .lss 3 (.tmp 135) (.tmp 137) 3, 4, none⟩,
 ⟨some 7, .assign (.tmp 138), 4, none⟩] [0, 3, 4, 6, 7]) (sg c76S11))
noncomputable def c76S13 (_ : Unit) : Cmd := (.seq (.seq (.ops [
 ⟨some 128, .move (.tmp 5), 3, none⟩,
 ⟨some 129, .binOp .neq 3 (.tmp 128) (.const (.int .i64 5)) 3, 4, none⟩] [0, 3, 4, 6, 129])
 (.cond (.tmp 129)
  (.seq (.ops [
  ⟨some 130, .build 117 #[], 117, none⟩,
  ⟨none, .store 117 (.tmp 4) (.tmp 130), 0, none⟩] [4])
  .ret)
  (.skip [0, 3, 4, 6]))) (sg c76S12))
noncomputable def c76S14 (_ : Unit) : Cmd := (.seq (.seq (.draw (drawOps 4 c76code) [0, 3, 4, 5, 6, 126]) (sg c76S4)) (sg c76S13))
noncomputable def c76S15 (_ : Unit) : Cmd := (.seq (.seq (.ops [
 ⟨some 93, .move (.tmp 5), 3, none⟩,
 ⟨some 94, .binOp .eql 3 (.tmp 93) (.const (.int .i64 6)) 3, 4, none⟩,
 ⟨some 95, .move (.tmp 94), 4, none⟩,
 ⟨some 96, .move (.tmp 6), 3, (some (95, true))⟩,
 ⟨some 97, .binOp .eql 3 (.tmp 96) (.const (.int .i64 13)) 3, 4, (some (95, true))⟩,
 ⟨some 98, .pick (.tmp 95) (.tmp 97) (.const (.bool false)), 4, none⟩,
 ⟨some 99, .move (.tmp 98), 4, none⟩,
 ⟨some 100, .move (.tmp 0), 36, (some (99, true))⟩,
 ⟨some 101, .call ⟨.builtin .len, #[(.tmp 100)], #[36]⟩, 3, (some (99, true))⟩,
 ⟨some 102, .binOp .eql 3 (.tmp 101) (.const (.int .i64 0)) 3, 4, (some (99, true))⟩,
 ⟨some 103, .pick (.tmp 99) (.tmp 102) (.const (.bool false)), 4, none⟩] [0, 3, 4, 5, 6, 103])
 (.cond (.tmp 103)
  (.seq (.ops [
  ⟨some 104, .fieldAddr 58 (.tmp 3) 1, 0, none⟩,
  ⟨some 105, .load 3 (.tmp 104), 3, none⟩,
  ⟨some 106, .buildSlice 36 1 #[(0, (.tmp 105))], 36, none⟩,
  ⟨some 107, .build 117 #[(0, (.tmp 106)), (1, (.const (.int .i64 0))), (2, (.const (.bool true)))], 117, none⟩,
  ⟨none, .store 117 (.tmp 4) (.tmp 107), 0, none⟩] [4])
  .ret)
  (.skip [0, 3, 4, 5, 6]))) (sg c76S14))
noncomputable def c76S16 (_ : Unit) : Cmd := (.seq (.seq (.ops [
 ⟨some 75, .move (.tmp 5), 3, none⟩,
 ⟨some 76, .binOp .eql 3 (.tmp 75) (.const (.int .i64 4)) 3, 4, none⟩,
 ⟨some 77, .move (.tmp 76), 4, none⟩,
 ⟨some 78, .move (.tmp 6), 3, (some (77, true))⟩,
 ⟨some 79, .binOp .eql 3 (.tmp 78) (.const (.int .i64 9)) 3, 4, (some (77, true))⟩,
 ⟨some 80, .pick (.tmp 77) (.tmp 79) (.const (.bool false)), 4, none⟩] [0, 3, 4, 5, 6, 80])
 (.cond (.tmp 80)
  (.seq (.draw (drawOps 3 c76code) [4]) (sg c76S3))
  (.skip [0, 3, 4, 5, 6]))) (sg c76S15))
noncomputable def c76S17 (_ : Unit) : Cmd := (.seq (.seq (.ops [
 ⟨some 63, .move (.tmp 5), 3, none⟩,
 ⟨some 64, .binOp .eql 3 (.tmp 63) (.const (.int .i64 3)) 3, 4, none⟩,
 ⟨some 65, .move (.tmp 64), 4, none⟩,
 ⟨some 66, .move (.tmp 6), 3, (some (65, true))⟩,
 ⟨some 67, .binOp .eql 3 (.tmp 66) (.const (.int .i64 7)) 3, 4, (some (65, true))⟩,
 ⟨some 68, .pick (.tmp 65) (.tmp 67) (.const (.bool false)), 4, none⟩] [0, 3, 4, 5, 6, 68])
 (.cond (.tmp 68)
  (.seq (.draw (drawOps 2 c76code) [4]) (sg c76S2))
  (.skip [0, 3, 4, 5, 6]))) (sg c76S16))
noncomputable def c76S18 (_ : Unit) : Cmd := (.seq (.seq (.ops [
 ⟨some 43, .move (.tmp 5), 3, none⟩,
 ⟨some 44, .binOp .eql 3 (.tmp 43) (.const (.int .i64 3)) 3, 4, none⟩,
 ⟨some 45, .move (.tmp 44), 4, none⟩,
 ⟨some 46, .move (.tmp 6), 3, (some (45, true))⟩,
 ⟨some 47, .binOp .eql 3 (.tmp 46) (.const (.int .i64 7)) 3, 4, (some (45, true))⟩,
 ⟨some 48, .pick (.tmp 45) (.tmp 47) (.const (.bool false)), 4, none⟩,
 ⟨some 49, .move (.tmp 48), 4, none⟩,
 ⟨some 50, .move (.tmp 5), 3, (some (49, false))⟩,
 ⟨some 51, .binOp .eql 3 (.tmp 50) (.const (.int .i64 4)) 3, 4, (some (49, false))⟩,
 ⟨some 52, .move (.tmp 51), 4, (some (49, false))⟩,
 ⟨some 53, .move (.tmp 6), 3, (some (52, true))⟩,
 ⟨some 54, .binOp .eql 3 (.tmp 53) (.const (.int .i64 9)) 3, 4, (some (52, true))⟩,
 ⟨some 55, .pick (.tmp 52) (.tmp 54) (.const (.bool false)), 4, (some (49, false))⟩,
 ⟨some 56, .pick (.tmp 49) (.const (.bool true)) (.tmp 55), 4, none⟩,
 ⟨some 57, .move (.tmp 56), 4, none⟩,
 ⟨some 58, .move (.tmp 0), 36, (some (57, true))⟩,
 ⟨some 59, .call ⟨.builtin .len, #[(.tmp 58)], #[36]⟩, 3, (some (57, true))⟩,
 ⟨some 60, .binOp .eql 3 (.tmp 59) (.const (.int .i64 0)) 3, 4, (some (57, true))⟩,
 ⟨some 61, .pick (.tmp 57) (.tmp 60) (.const (.bool false)), 4, none⟩] [0, 3, 4, 5, 6, 61])
 (.cond (.tmp 61)
  (.seq (.ops [
  ⟨some 62, .build 117 #[(0, (.const (.slice none 0 0))), (1, (.const (.int .i64 (-1)))), (2, (.const (.bool true)))], 117, none⟩,
  ⟨none, .store 117 (.tmp 4) (.tmp 62), 0, none⟩] [4])
  .ret)
  (.skip [0, 3, 4, 5, 6]))) (sg c76S17))
noncomputable def c76S19 (_ : Unit) : Cmd := (.seq (.seq (.ops [
 ⟨some 21, .move (.tmp 5), 3, none⟩,
 ⟨some 22, .binOp .eql 3 (.tmp 21) (.const (.int .i64 3)) 3, 4, none⟩,
 ⟨some 23, .move (.tmp 22), 4, none⟩,
 ⟨some 24, .move (.tmp 6), 3, (some (23, true))⟩,
 ⟨some 25, .binOp .eql 3 (.tmp 24) (.const (.int .i64 6)) 3, 4, (some (23, true))⟩,
 ⟨some 26, .pick (.tmp 23) (.tmp 25) (.const (.bool false)), 4, none⟩,
 ⟨some 27, .move (.tmp 26), 4, none⟩,
 ⟨some 28, .move (.tmp 5), 3, (some (27, false))⟩,
 ⟨some 29, .binOp .eql 3 (.tmp 28) (.const (.int .i64 4)) 3, 4, (some (27, false))⟩,
 ⟨some 30, .move (.tmp 29), 4, (some (27, false))⟩,
 ⟨some 31, .move (.tmp 6), 3, (some (30, true))⟩,
 ⟨some 32, .binOp .eql 3 (.tmp 31) (.const (.int .i64 8)) 3, 4, (some (30, true))⟩,
 ⟨some 33, .pick (.tmp 30) (.tmp 32) (.const (.bool false)), 4, (some (27, false))⟩,
 ⟨some 34, .pick (.tmp 27) (.const (.bool true)) (.tmp 33), 4, none⟩] [0, 3, 4, 5, 6, 34])
 (.cond (.tmp 34)
  (.seq (.draw (drawOps 1 c76code) [4]) (sg c76S1))
  (.skip [0, 3, 4, 5, 6]))) (sg c76S18))
noncomputable def c76S20 (_ : Unit) : Cmd := (.seq (.seq (.ops [
 ⟨some 12, .move (.tmp 5), 3, none⟩,
 ⟨some 13, .binOp .eql 3 (.tmp 12) (.const (.int .i64 1)) 3, 4, none⟩,
 ⟨some 14, .move (.tmp 13), 4, none⟩,
 ⟨some 15, .move (.tmp 5), 3, (some (14, false))⟩,
 ⟨some 16, .binOp .eql 3 (.tmp 15) (.const (.int .i64 2)) 3, 4, (some (14, false))⟩,
 ⟨some 17, .pick (.tmp 14) (.const (.bool true)) (.tmp 16), 4, none⟩] [0, 3, 4, 5, 6, 17])
 (.cond (.tmp 17)
  (.seq (.ops [
  ⟨some 18, .move (.tmp 0), 36, none⟩,
  ⟨some 19, .load 58 (.tmp 3), 58, none⟩,
  ⟨some 20, .call ⟨.value (.func 106), #[(.tmp 18), (.tmp 19)], #[36, 58]⟩, 117, none⟩,
  ⟨none, .store 117 (.tmp 4) (.tmp 20), 0, none⟩] [4]) (sg c76S0))
  (.skip [0, 3, 4, 5, 6]))) (sg c76S19))
noncomputable def c76 : Cmd := (.seq (.ops [
 ⟨some 3, .box 58 (.tmp 1), 0, none⟩,
 ⟨some 4, .alloc 117, 0, none⟩] [0, 3, 4])
 (.seq (.draw (drawOps 0 c76code) [0, 3, 4, 5, 6]) (sg c76S20)))
noncomputable def c76D0 : List (Bool × Ins) := [
 (true, ⟨some 8, .fieldAddr 58 (.tmp 3) 3, 0, none⟩),
 (false, ⟨some 9, .load 3 (.tmp 8), 3, none⟩),
 (true, ⟨some 10, .fieldAddr 58 (.tmp 3) 4, 0, none⟩),
 (false, ⟨some 11, .load 3 (.tmp 10), 3, none⟩),
 (true, ⟨some 5, .assign (.tmp 9), 3, none⟩),
 (true, ⟨some 6, .assign (.tmp 11), 3, none⟩)]
theorem c76draw0 {L : List Nat} {ρ : Env} {w : World} {Q : Post} (h : DL Try.prog c76D0 L ρ w.drew Q) : drawW Try.prog (drawOps 0 c76code) L ρ w Q :=
  drawW_still [true, false, true, false, true, true] c76D0 (by kernel_rfl) (by kernel_rfl) (by kernel_rfl) h
/- TREE function 76 draw 1: several may come: [0, 4] after [1, 3] -/
noncomputable def c76D1 : GT := (.one 0 ⟨some 36, .move (.tmp 0), 36, none⟩
 (.one 0 ⟨some 38, .fieldAddr 58 (.tmp 3) 5, 0, none⟩
 (.one 1 ⟨some 39, .load 3 (.tmp 38), 3, none⟩
 (.alt ⟨some 35, .buildSlice 36 0 #[], 36, none⟩
 (.alt ⟨some 37, .call ⟨.builtin .append, #[(.tmp 35), (.tmp 36)], #[36, 36]⟩, 36, none⟩
 (.one 2 ⟨some 40, .buildSlice 36 1 #[(0, (.tmp 39))], 36, none⟩
 (.one 2 ⟨some 41, .call ⟨.builtin .append, #[(.tmp 37), (.tmp 40)], #[36, 36]⟩, 36, none⟩
 (.one 2 ⟨some 42, .build 117 #[(0, (.tmp 41)), (1, (.const (.int .i64 0))), (2, (.const (.bool true)))], 117, none⟩
 (.one 2 ⟨none, .store 117 (.tmp 4) (.tmp 42), 0, none⟩
 .nil))))
 (.alt ⟨some 40, .buildSlice 36 1 #[(0, (.tmp 39))], 36, none⟩
 (.one 2 ⟨some 37, .call ⟨.builtin .append, #[(.tmp 35), (.tmp 36)], #[36, 36]⟩, 36, none⟩
 (.one 2 ⟨some 41, .call ⟨.builtin .append, #[(.tmp 37), (.tmp 40)], #[36, 36]⟩, 36, none⟩
 (.one 2 ⟨some 42, .build 117 #[(0, (.tmp 41)), (1, (.const (.int .i64 0))), (2, (.const (.bool true)))], 117, none⟩
 (.one 2 ⟨none, .store 117 (.tmp 4) (.tmp 42), 0, none⟩
 .nil))))
 .stop))
 (.alt ⟨some 40, .buildSlice 36 1 #[(0, (.tmp 39))], 36, none⟩
 (.one 2 ⟨some 35, .buildSlice 36 0 #[], 36, none⟩
 (.one 2 ⟨some 37, .call ⟨.builtin .append, #[(.tmp 35), (.tmp 36)], #[36, 36]⟩, 36, none⟩
 (.one 2 ⟨some 41, .call ⟨.builtin .append, #[(.tmp 37), (.tmp 40)], #[36, 36]⟩, 36, none⟩
 (.one 2 ⟨some 42, .build 117 #[(0, (.tmp 41)), (1, (.const (.int .i64 0))), (2, (.const (.bool true)))], 117, none⟩
 (.one 2 ⟨none, .store 117 (.tmp 4) (.tmp 42), 0, none⟩
 .nil)))))
 .stop)))))
theorem c76draw1 {L : List Nat} {ρ : Env} {w : World} {Q : Post} (S : World → Prop) (hS : S w.drew) (h : DT Try.prog S c76D1 L ρ w.drew Q) : drawW Try.prog (drawOps 1 c76code) L ρ w Q :=
  drawW_tree [4] (.one 0 1 (.one 0 3 (.one 1 4 (.alt 0 (.alt 2 (.one 2 5 (.one 2 6 (.one 2 7 (.one 2 8 .nil)))) (.alt 5 (.one 2 2 (.one 2 6 (.one 2 7 (.one 2 8 .nil)))) .stop)) (.alt 5 (.one 2 0 (.one 2 2 (.one 2 6 (.one 2 7 (.one 2 8 .nil))))) .stop))))) c76D1 (by kernel_rfl) (by kernel_rfl) (by kernel_rfl) S hS h
noncomputable def c76D2 : List (Bool × Ins) := [
 (true, ⟨some 69, .move (.tmp 0), 36, none⟩),
 (true, ⟨some 70, .slice 36 (.tmp 69) (some (.const (.int .i64 1))) none none, 36, none⟩),
 (true, ⟨some 71, .move (.tmp 0), 36, none⟩),
 (true, ⟨some 72, .indexAddr 36 (.tmp 71) (.const (.int .i64 0)), 0, none⟩),
 (false, ⟨some 73, .load 3 (.tmp 72), 3, none⟩),
 (false, ⟨some 74, .build 117 #[(0, (.tmp 70)), (1, (.tmp 73)), (2, (.const (.bool true)))], 117, none⟩),
 (false, ⟨none, .store 117 (.tmp 4) (.tmp 74), 0, none⟩)]
theorem c76draw2 {L : List Nat} {ρ : Env} {w : World} {Q : Post} (h : DL Try.prog c76D2 L ρ w.drew Q) : drawW Try.prog (drawOps 2 c76code) L ρ w Q :=
  drawW_by [(true, 0), (true, 1), (true, 2), (true, 3), (false, 4), (false, 5), (false, 6)] c76D2 (by kernel_rfl) (by kernel_rfl) (by kernel_rfl) h
noncomputable def c76D3 : List (Bool × Ins) := [
 (true, ⟨some 81, .move (.tmp 0), 36, none⟩),
 (true, ⟨some 82, .move (.tmp 0), 36, none⟩),
 (true, ⟨some 83, .call ⟨.builtin .len, #[(.tmp 82)], #[36]⟩, 3, none⟩),
 (true, ⟨some 84, .binOp .sub 3 (.tmp 83) (.const (.int .i64 1)) 3, 3, none⟩),
 (true, ⟨some 85, .slice 36 (.tmp 81) none (some (.tmp 84)) none, 36, none⟩),
 (true, ⟨some 86, .move (.tmp 0), 36, none⟩),
 (true, ⟨some 87, .move (.tmp 0), 36, none⟩),
 (true, ⟨some 88, .call ⟨.builtin .len, #[(.tmp 87)], #[36]⟩, 3, none⟩),
 (true, ⟨some 89, .binOp .sub 3 (.tmp 88) (.const (.int .i64 1)) 3, 3, none⟩),
 (true, ⟨some 90, .indexAddr 36 (.tmp 86) (.tmp 89), 0, none⟩),
 (false, ⟨some 91, .load 3 (.tmp 90), 3, none⟩),
 (false, ⟨some 92, .build 117 #[(0, (.tmp 85)), (1, (.tmp 91)), (2, (.const (.bool true)))], 117, none⟩),
 (false, ⟨none, .store 117 (.tmp 4) (.tmp 92), 0, none⟩)]
theorem c76draw3 {L : List Nat} {ρ : Env} {w : World} {Q : Post} (h : DL Try.prog c76D3 L ρ w.drew Q) : drawW Try.prog (drawOps 3 c76code) L ρ w Q :=
  drawW_by [(true, 0), (true, 1), (true, 2), (true, 3), (true, 4), (true, 5), (true, 6), (true, 7), (true, 8), (true, 9), (false, 10), (false, 11), (false, 12)] c76D3 (by kernel_rfl) (by kernel_rfl) (by kernel_rfl) h
noncomputable def c76D4 : List (Bool × Ins) := [
 (true, ⟨some 108, .move (.tmp 5), 3, none⟩),
 (true, ⟨some 109, .binOp .eql 3 (.tmp 108) (.const (.int .i64 6)) 3, 4, none⟩),
 (true, ⟨some 110, .move (.tmp 109), 4, none⟩),
 (true, ⟨some 111, .move (.tmp 6), 3, (some (110, true))⟩),
 (true, ⟨some 112, .binOp .eql 3 (.tmp 111) (.const (.int .i64 14)) 3, 4, (some (110, true))⟩),
 (true, ⟨some 113, .pick (.tmp 110) (.tmp 112) (.const (.bool false)), 4, none⟩),
 (true, ⟨some 114, .move (.tmp 113), 4, none⟩),
 (true, ⟨some 115, .move (.tmp 0), 36, (some (114, true))⟩),
 (true, ⟨some 116, .call ⟨.builtin .len, #[(.tmp 115)], #[36]⟩, 3, (some (114, true))⟩),
 (true, ⟨some 117, .binOp .eql 3 (.tmp 116) (.const (.int .i64 1)) 3, 4, (some (114, true))⟩),
 (true, ⟨some 118, .pick (.tmp 114) (.tmp 117) (.const (.bool false)), 4, none⟩),
 (true, ⟨some 119, .move (.tmp 118), 4, none⟩),
 (true, ⟨some 120, .move (.tmp 0), 36, (some (119, true))⟩),
 (true, ⟨some 121, .indexAddr 36 (.tmp 120) (.const (.int .i64 0)), 0, (some (119, true))⟩),
 (false, ⟨some 122, .load 3 (.tmp 121), 3, (some (119, true))⟩),
 (true, ⟨some 123, .fieldAddr 58 (.tmp 3) 1, 0, (some (119, true))⟩),
 (false, ⟨some 124, .load 3 (.tmp 123), 3, (some (119, true))⟩),
 (true, ⟨some 125, .binOp .eql 3 (.tmp 122) (.tmp 124) 3, 4, (some (119, true))⟩),
 (true, ⟨some 126, .pick (.tmp 119) (.tmp 125) (.const (.bool false)), 4, none⟩)]
theorem c76draw4 {L : List Nat} {ρ : Env} {w : World} {Q : Post} (h : DL Try.prog c76D4 L ρ w.drew Q) : drawW Try.prog (drawOps 4 c76code) L ρ w Q :=
  drawW_still [true, true, true, true, true, true, true, true, true, true, true, true, true, true, false, true, false, true, true] c76D4 (by kernel_rfl) (by kernel_rfl) (by kernel_rfl) h
set_option maxRecDepth 100000 in
theorem ent76 (a0 a1 : Value) (w : World) (K : Value → World → Prop) (h : W Try.prog c76 [(0, a0), (1, a1)] w (finQ Try.prog [.cell 4 117] K)) : Ret Try.prog 76 [a0, a1] w K :=
  Ret_of_W (code := c76code) Try.func76 (by kernel_rfl) (by kernel_rfl) (of_decide_eq_true (by kernel_rfl)) h
@[go_sem] theorem go76 : goFunc Try.prog 76 = true := by kernel_rfl
/- Function 77: annalistref10.between -/
noncomputable def c77code : Code := match Try.f77.body with | some c => c | none => .skip
noncomputable def c77 : Cmd := (.seq (.ops [
 ⟨some 6, .assign (.const (.bool false)), 4, none⟩] [0, 1, 2])
 (.seq (.ops [
 ⟨some 7, .move (.tmp 0), 3, none⟩,
 ⟨some 8, .move (.tmp 1), 3, none⟩,
 ⟨some 9, .binOp .geq 3 (.tmp 7) (.tmp 8) 3, 4, none⟩,
 ⟨some 10, .move (.tmp 9), 4, none⟩,
 ⟨some 11, .move (.tmp 0), 3, (some (10, true))⟩,
 ⟨some 12, .move (.tmp 2), 3, (some (10, true))⟩,
 ⟨some 13, .binOp .leq 3 (.tmp 11) (.tmp 12) 3, 4, (some (10, true))⟩,
 ⟨some 14, .pick (.tmp 10) (.tmp 13) (.const (.bool false)), 4, none⟩,
 ⟨some 6, .assign (.tmp 14), 4, none⟩] [6])
 .ret))
set_option maxRecDepth 100000 in
theorem ent77 (a0 a1 a2 : Value) (w : World) (K : Value → World → Prop) (h : W Try.prog c77 [(0, a0), (1, a1), (2, a2)] w (finQ Try.prog [.tmp 6] K)) : Ret Try.prog 77 [a0, a1, a2] w K :=
  Ret_of_W (code := c77code) Try.func77 (by kernel_rfl) (by kernel_rfl) (of_decide_eq_true (by kernel_rfl)) h
@[go_sem] theorem go77 : goFunc Try.prog 77 = true := by kernel_rfl
/- Function 78: annalistref10.Find -/
noncomputable def c78code : Code := match Try.f78.body with | some c => c | none => .skip
noncomputable def c78S0 (_ : Unit) : Cmd := (.ops [
 ⟨some 13, .move (.tmp 7), 3, none⟩,
 ⟨some 14, .binOp .add 3 (.tmp 13) (.const (.int .i64 1)) 3, 3, none⟩,
 ⟨some 7, .assign (.tmp 14), 3, none⟩] [0, 1, 4, 6, 7])
noncomputable def c78S1 (_ : Unit) : Cmd := (.seq (.block 1 (.seq (.ops [
 ⟨some 15, .move (.tmp 6), 148, none⟩,
 ⟨some 16, .move (.tmp 7), 3, none⟩,
 ⟨some 17, .indexAddr 148 (.tmp 15) (.tmp 16), 0, none⟩,
 ⟨some 18, .fieldAddr 121 (.tmp 17) 0, 0, none⟩,
 ⟨some 19, .load 3 (.tmp 18), 3, none⟩,
 ⟨some 20, .move (.tmp 0), 3, none⟩,
 ⟨some 21, .binOp .eql 3 (.tmp 19) (.tmp 20) 3, 4, none⟩,
 ⟨some 22, .move (.tmp 21), 4, none⟩,
 ⟨some 23, .move (.tmp 6), 148, (some (22, true))⟩,
 ⟨some 24, .move (.tmp 7), 3, (some (22, true))⟩,
 ⟨some 25, .indexAddr 148 (.tmp 23) (.tmp 24), 0, (some (22, true))⟩,
 ⟨some 26, .fieldAddr 121 (.tmp 25) 1, 0, (some (22, true))⟩,
 ⟨some 27, .load 3 (.tmp 26), 3, (some (22, true))⟩,
 ⟨some 28, .move (.tmp 1), 3, (some (22, true))⟩,
 ⟨some 29, .binOp .eql 3 (.tmp 27) (.tmp 28) 3, 4, (some (22, true))⟩,
 ⟨some 30, .pick (.tmp 22) (.tmp 29) (.const (.bool false)), 4, none⟩] [0, 1, 4, 6, 7, 30])
 (.cond (.tmp 30)
  (.seq (.ops [
  ⟨some 31, .move (.tmp 6), 148, none⟩,
  ⟨some 32, .move (.tmp 7), 3, none⟩,
  ⟨some 33, .indexAddr 148 (.tmp 31) (.tmp 32), 0, none⟩,
  ⟨some 34, .load 121 (.tmp 33), 121, none⟩,
  ⟨none, .store 121 (.tmp 4) (.tmp 34), 0, none⟩,
  ⟨some 5, .assign (.const (.bool true)), 4, none⟩] [4, 5])
  .ret)
  (.skip [0, 1, 4, 6, 7])))) (sg c78S0))
noncomputable def c78L0 (_ : Unit) : Cmd := (.seq (.seq (.ops [
 ⟨some 9, .move (.tmp 7), 3, none⟩,
 ⟨some 10, .move (.tmp 6), 148, none⟩,
 ⟨some 11, .call ⟨.builtin .len, #[(.tmp 10)], #[148]⟩, 3, none⟩,
 ⟨some 12, .binOp .lss 3 (.tmp 9) (.tmp 11) 3, 4, none⟩] [0, 1, 4, 6, 7, 12])
 (.cond (.tmp 12)
  (.skip [0, 1, 4, 6, 7])
  (.exit 0 [4]))) (sg c78S1))
noncomputable def c78S2 (_ : Unit) : Cmd := (.seq (.ops [
 ⟨some 35, .build 121 #[], 121, none⟩,
 ⟨none, .store 121 (.tmp 4) (.tmp 35), 0, none⟩,
 ⟨some 5, .assign (.const (.bool false)), 4, none⟩] [4, 5])
 .ret)
noncomputable def c78S3 (_ : Unit) : Cmd := (.seq (.seq (.ops [
 ⟨some 7, .assign (.const (.int .i64 0)), 3, none⟩] [0, 1, 4, 6, 7])
 (.block 0 (.loop (sg c78L0)))) (sg c78S2))
noncomputable def c78 : Cmd := (.seq (.ops [
 ⟨some 4, .alloc 121, 0, none⟩,
 ⟨some 5, .assign (.const (.bool false)), 4, none⟩] [0, 1, 4])
 (.seq (.ops [
 ⟨some 8, .call ⟨.value (.func 109), #[], #[]⟩, 148, none⟩,
 ⟨some 6, .assign (.tmp 8), 148, none⟩] [0, 1, 4, 6]) (sg c78S3)))
set_option maxRecDepth 100000 in
theorem ent78 (a0 a1 : Value) (w : World) (K : Value → World → Prop) (h : W Try.prog c78 [(0, a0), (1, a1)] w (finQ Try.prog [.cell 4 121, .tmp 5] K)) : Ret Try.prog 78 [a0, a1] w K :=
  Ret_of_W (code := c78code) Try.func78 (by kernel_rfl) (by kernel_rfl) (of_decide_eq_true (by kernel_rfl)) h
@[go_sem] theorem go78 : goFunc Try.prog 78 = true := by kernel_rfl
/- Function 79: annalistref10.answer -/
noncomputable def c79code : Code := match Try.f79.body with | some c => c | none => .skip
noncomputable def c79S0 (_ : Unit) : Cmd := .ret
noncomputable def c79S1 (_ : Unit) : Cmd := .ret
noncomputable def c79S2 (_ : Unit) : Cmd := .ret
noncomputable def c79S3 (_ : Unit) : Cmd := (.seq (.ops [
 ⟨some 25, .move (.tmp 0), 3, none⟩,
 ⟨some 26, .call ⟨.value (.func 77), #[(.tmp 25), (.const (.int .i64 (-1))), (.const (.int .i64 1073741824))], #[3, 3, 3]⟩, 4, none⟩,
 ⟨some 4, .assign (.tmp 26), 4, none⟩] [4]) (sg c79S2))
noncomputable def c79S4 (_ : Unit) : Cmd := (.seq (.seq (.ops [
 ⟨some 21, .move (.tmp 1), 3, none⟩,
 ⟨some 22, .binOp .eql 3 (.tmp 21) (.const (.int .i64 3)) 3, 4, none⟩] [0, 22])
 (.cond (.tmp 22)
  (.seq (.ops [
  ⟨some 23, .move (.tmp 0), 3, none⟩,
  ⟨some 24, .call ⟨.value (.func 77), #[(.tmp 23), (.const (.int .i64 (-1073741824))), (.const (.int .i64 1073741824))], #[3, 3, 3]⟩, 4, none⟩,
  ⟨some 4, .assign (.tmp 24), 4, none⟩] [4]) (sg c79S1))
  (.skip [0]))) (sg c79S3))
noncomputable def c79S5 (_ : Unit) : Cmd := (.seq (.seq (.ops [
 ⟨some 17, .move (.tmp 1), 3, none⟩,
 ⟨some 18, .binOp .eql 3 (.tmp 17) (.const (.int .i64 2)) 3, 4, none⟩] [0, 1, 18])
 (.cond (.tmp 18)
  (.seq (.ops [
  ⟨some 19, .move (.tmp 0), 3, none⟩,
  ⟨some 20, .call ⟨.value (.func 77), #[(.tmp 19), (.const (.int .i64 0)), (.const (.int .i64 1073741824))], #[3, 3, 3]⟩, 4, none⟩,
  ⟨some 4, .assign (.tmp 20), 4, none⟩] [4]) (sg c79S0))
  (.skip [0, 1]))) (sg c79S4))
noncomputable def c79S6 (_ : Unit) : Cmd := (.seq (.seq (.ops [
 ⟨some 9, .move (.tmp 1), 3, none⟩,
 ⟨some 10, .binOp .eql 3 (.tmp 9) (.const (.int .i64 1)) 3, 4, none⟩] [0, 1, 10])
 (.cond (.tmp 10)
  (.seq (.ops [
  ⟨some 11, .move (.tmp 0), 3, none⟩,
  ⟨some 12, .binOp .eql 3 (.tmp 11) (.const (.int .i64 0)) 3, 4, none⟩,
  ⟨some 13, .move (.tmp 12), 4, none⟩,
  ⟨some 14, .move (.tmp 0), 3, (some (13, false))⟩,
  ⟨some 15, .binOp .eql 3 (.tmp 14) (.const (.int .i64 1)) 3, 4, (some (13, false))⟩,
  ⟨some 16, .pick (.tmp 13) (.const (.bool true)) (.tmp 15), 4, none⟩,
  ⟨some 4, .assign (.tmp 16), 4, none⟩] [4])
  .ret)
  (.skip [0, 1]))) (sg c79S5))
noncomputable def c79 : Cmd := (.seq (.ops [
 ⟨some 4, .assign (.const (.bool false)), 4, none⟩] [0, 1])
 (.seq (.seq (.ops [
 ⟨some 5, .move (.tmp 1), 3, none⟩,
 ⟨some 6, .binOp .eql 3 (.tmp 5) (.const (.int .i64 0)) 3, 4, none⟩] [0, 1, 6])
 (.cond (.tmp 6)
  (.seq (.ops [
  ⟨some 7, .move (.tmp 0), 3, none⟩,
  ⟨some 8, .binOp .eql 3 (.tmp 7) (.const (.int .i64 0)) 3, 4, none⟩,
  ⟨some 4, .assign (.tmp 8), 4, none⟩] [4])
  .ret)
  (.skip [0, 1]))) (sg c79S6)))
set_option maxRecDepth 100000 in
theorem ent79 (a0 a1 : Value) (w : World) (K : Value → World → Prop) (h : W Try.prog c79 [(0, a0), (1, a1)] w (finQ Try.prog [.tmp 4] K)) : Ret Try.prog 79 [a0, a1] w K :=
  Ret_of_W (code := c79code) Try.func79 (by kernel_rfl) (by kernel_rfl) (of_decide_eq_true (by kernel_rfl)) h
@[go_sem] theorem go79 : goFunc Try.prog 79 = true := by kernel_rfl
/- Function 92: model.number -/
noncomputable def c92code : Code := match Try.f92.body with | some c => c | none => .skip
noncomputable def c92S0 (_ : Unit) : Cmd := .ret
noncomputable def c92S1 (_ : Unit) : Cmd := (.cond (.tmp 41)
     (.seq (.ops [
     ⟨some 42, .fieldAddr 58 (.tmp 3) 6, 0, none⟩,
     ⟨some 43, .load 3 (.tmp 42), 3, none⟩,
     ⟨some 44, .buildSlice 36 1 #[(0, (.tmp 43))], 36, none⟩,
     ⟨some 4, .assign (.tmp 44), 36, none⟩,
     ⟨some 5, .assign (.const (.int .i64 1)), 3, none⟩,
     ⟨some 6, .assign (.const (.bool true)), 4, none⟩] [4, 5, 6])
     .ret)
     (.skip [0]))
noncomputable def c92S2 (_ : Unit) : Cmd := (.seq (.ops [
    ⟨some 45, .move (.tmp 0), 36, none⟩,
    ⟨some 4, .assign (.tmp 45), 36, none⟩,
    ⟨some 5, .assign (.const (.int .i64 0)), 3, none⟩,
    ⟨some 6, .assign (.const (.bool true)), 4, none⟩] [4, 5, 6])
    .ret)
noncomputable def c92S3 (_ : Unit) : Cmd := (.seq (.ops [
 ⟨some 4, .assign (.const (.slice none 0 0)), 36, none⟩,
 ⟨some 5, .assign (.const (.int .i64 0)), 3, none⟩,
 ⟨some 6, .assign (.const (.bool false)), 4, none⟩] [4, 5, 6])
 .ret)
noncomputable def c92 : Cmd := (.seq (.ops [
 ⟨some 3, .box 58 (.tmp 1), 0, none⟩,
 ⟨some 4, .assign (.const (.slice none 0 0)), 36, none⟩,
 ⟨some 5, .assign (.const (.int .i64 0)), 3, none⟩,
 ⟨some 6, .assign (.const (.bool false)), 4, none⟩] [0, 3])
 (.seq (.block 0 (.seq (.ops [
 ⟨some 8, .fieldAddr 58 (.tmp 3) 4, 0, none⟩,
 ⟨some 9, .load 3 (.tmp 8), 3, none⟩,
 ⟨some 10, .binOp .eql 3 (.tmp 9) (.const (.int .i64 1)) 3, 4, none⟩,
 ⟨some 7, .assign (.tmp 10), 4, none⟩] [0, 3, 7])
 (.cond (.tmp 7)
  (.seq (.draw (drawOps 0 c92code) [4, 5, 6]) (sg c92S0))
  (.seq (.ops [
  ⟨some 16, .fieldAddr 58 (.tmp 3) 3, 0, none⟩,
  ⟨some 17, .load 3 (.tmp 16), 3, none⟩,
  ⟨some 18, .binOp .eql 3 (.tmp 17) (.const (.int .i64 1)) 3, 4, none⟩,
  ⟨some 19, .move (.tmp 18), 4, none⟩,
  ⟨some 20, .fieldAddr 58 (.tmp 3) 4, 0, (some (19, true))⟩,
  ⟨some 21, .load 3 (.tmp 20), 3, (some (19, true))⟩,
  ⟨some 22, .binOp .eql 3 (.tmp 21) (.const (.int .i64 2)) 3, 4, (some (19, true))⟩,
  ⟨some 23, .pick (.tmp 19) (.tmp 22) (.const (.bool false)), 4, none⟩,
  ⟨some 15, .assign (.tmp 23), 4, none⟩] [0, 3, 15])
  (.cond (.tmp 15)
   (.seq (.ops [
   ⟨some 24, .fieldAddr 58 (.tmp 3) 5, 0, none⟩,
   ⟨some 25, .load 3 (.tmp 24), 3, none⟩,
   ⟨some 26, .buildSlice 36 1 #[(0, (.tmp 25))], 36, none⟩,
   ⟨some 4, .assign (.tmp 26), 36, none⟩,
   ⟨some 5, .assign (.const (.int .i64 0)), 3, none⟩,
   ⟨some 6, .assign (.const (.bool true)), 4, none⟩] [4, 5, 6])
   .ret)
   (.seq (.ops [
   ⟨some 28, .fieldAddr 58 (.tmp 3) 3, 0, none⟩,
   ⟨some 29, .load 3 (.tmp 28), 3, none⟩,
   ⟨some 30, .binOp .eql 3 (.tmp 29) (.const (.int .i64 1)) 3, 4, none⟩,
   ⟨some 31, .move (.tmp 30), 4, none⟩,
   ⟨some 32, .fieldAddr 58 (.tmp 3) 4, 0, (some (31, true))⟩,
   ⟨some 33, .load 3 (.tmp 32), 3, (some (31, true))⟩,
   ⟨some 34, .binOp .eql 3 (.tmp 33) (.const (.int .i64 3)) 3, 4, (some (31, true))⟩,
   ⟨some 35, .pick (.tmp 31) (.tmp 34) (.const (.bool false)), 4, none⟩,
   ⟨some 27, .assign (.tmp 35), 4, none⟩] [0, 3, 27])
   (.cond (.tmp 27)
    (.seq (.seq (.draw (drawOps 1 c92code) [0, 3, 41]) (sg c92S1)) (sg c92S2))
    (.seq (.ops [
    ⟨some 47, .fieldAddr 58 (.tmp 3) 3, 0, none⟩,
    ⟨some 48, .load 3 (.tmp 47), 3, none⟩,
    ⟨some 49, .binOp .eql 3 (.tmp 48) (.const (.int .i64 2)) 3, 4, none⟩,
    ⟨some 50, .move (.tmp 49), 4, none⟩,
    ⟨some 51, .fieldAddr 58 (.tmp 3) 4, 0, (some (50, true))⟩,
    ⟨some 52, .load 3 (.tmp 51), 3, (some (50, true))⟩,
    ⟨some 53, .binOp .eql 3 (.tmp 52) (.const (.int .i64 4)) 3, 4, (some (50, true))⟩,
    ⟨some 54, .pick (.tmp 50) (.tmp 53) (.const (.bool false)), 4, none⟩,
    ⟨some 46, .assign (.tmp 54), 4, none⟩] [0, 3, 46])
    (.cond (.tmp 46)
     (.seq (.opsX [
     ⟨some 55, .move (.tmp 0), 36, none⟩,
     ⟨some 56, .indexAddr 36 (.tmp 55) (.const (.int .i64 0)), 0, none⟩,
     ⟨some 57, .load 3 (.tmp 56), 3, none⟩,
     ⟨some 58, .binOp .add 3 (.tmp 57) (.const (.int .i64 1)) 3, 3, none⟩,
     ⟨some 59, .buildSlice 36 1 #[(0, (.tmp 58))], 36, none⟩,
     ⟨some 4, .assign (.tmp 59), 36, none⟩,
     ⟨some 5, .assign (.const (.int .i64 0)), 3, none⟩,
     ⟨some 6, .assign (.const (.bool true)), 4, none⟩] [4, 5, 6])
     .ret)
     (.seq (.ops [
     ⟨some 61, .fieldAddr 58 (.tmp 3) 3, 0, none⟩,
     ⟨some 62, .load 3 (.tmp 61), 3, none⟩,
     ⟨some 63, .binOp .eql 3 (.tmp 62) (.const (.int .i64 2)) 3, 4, none⟩,
     ⟨some 64, .move (.tmp 63), 4, none⟩,
     ⟨some 65, .fieldAddr 58 (.tmp 3) 4, 0, (some (64, true))⟩,
     ⟨some 66, .load 3 (.tmp 65), 3, (some (64, true))⟩,
     ⟨some 67, .binOp .eql 3 (.tmp 66) (.const (.int .i64 5)) 3, 4, (some (64, true))⟩,
     ⟨some 68, .pick (.tmp 64) (.tmp 67) (.const (.bool false)), 4, none⟩,
     ⟨some 60, .assign (.tmp 68), 4, none⟩] [0, 60])
     (.cond (.tmp 60)
      (.seq (.opsX [
      ⟨some 69, .move (.tmp 0), 36, none⟩,
      ⟨some 70, .indexAddr 36 (.tmp 69) (.const (.int .i64 0)), 0, none⟩,
      ⟨some 71, .load 3 (.tmp 70), 3, none⟩,
      ⟨some 72, .binOp .sub 3 (.tmp 71) (.const (.int .i64 1)) 3, 3, none⟩,
      ⟨some 73, .buildSlice 36 1 #[(0, (.tmp 72))], 36, none⟩,
      ⟨some 4, .assign (.tmp 73), 36, none⟩,
      ⟨some 5, .assign (.const (.int .i64 0)), 3, none⟩,
      ⟨some 6, .assign (.const (.bool true)), 4, none⟩] [4, 5, 6])
      .ret)
      (.skip [])))))))))))) (sg c92S3)))
noncomputable def c92D0 : List (Bool × Ins) := [
 (true, ⟨some 11, .move (.tmp 0), 36, none⟩),
 (true, ⟨some 12, .move (.tmp 0), 36, none⟩),
 (true, ⟨some 13, .indexAddr 36 (.tmp 12) (.const (.int .i64 0)), 0, none⟩),
 (true, ⟨some 4, .assign (.tmp 11), 36, none⟩),
 (false, ⟨some 14, .load 3 (.tmp 13), 3, none⟩),
 (true, ⟨some 5, .assign (.tmp 14), 3, none⟩),
 (true, ⟨some 6, .assign (.const (.bool true)), 4, none⟩)]
theorem c92draw0 {L : List Nat} {ρ : Env} {w : World} {Q : Post} (h : DL Try.prog c92D0 L ρ w.drew Q) : drawW Try.prog (drawOps 0 c92code) L ρ w Q :=
  drawW_by [(true, 0), (true, 1), (true, 2), (true, 4), (false, 3), (true, 5), (true, 6)] c92D0 (by kernel_rfl) (by kernel_rfl) (by kernel_rfl) h
noncomputable def c92D1 : List (Bool × Ins) := [
 (true, ⟨some 36, .move (.tmp 0), 36, none⟩),
 (true, ⟨some 37, .indexAddr 36 (.tmp 36) (.const (.int .i64 0)), 0, none⟩),
 (false, ⟨some 38, .load 3 (.tmp 37), 3, none⟩),
 (true, ⟨some 39, .fieldAddr 58 (.tmp 3) 5, 0, none⟩),
 (false, ⟨some 40, .load 3 (.tmp 39), 3, none⟩),
 (true, ⟨some 41, .binOp .eql 3 (.tmp 38) (.tmp 40) 3, 4, none⟩)]
theorem c92draw1 {L : List Nat} {ρ : Env} {w : World} {Q : Post} (h : DL Try.prog c92D1 L ρ w.drew Q) : drawW Try.prog (drawOps 1 c92code) L ρ w Q :=
  drawW_still [true, true, false, true, false, true] c92D1 (by kernel_rfl) (by kernel_rfl) (by kernel_rfl) h
set_option maxRecDepth 100000 in
theorem ent92 (a0 a1 : Value) (w : World) (K : Value → World → Prop) (h : W Try.prog c92 [(0, a0), (1, a1)] w (finQ Try.prog [.tmp 4, .tmp 5, .tmp 6] K)) : Ret Try.prog 92 [a0, a1] w K :=
  Ret_of_W (code := c92code) Try.func92 (by kernel_rfl) (by kernel_rfl) (of_decide_eq_true (by kernel_rfl)) h
@[go_sem] theorem go92 : goFunc Try.prog 92 = true := by kernel_rfl
/- Function 93: model.list -/
noncomputable def c93code : Code := match Try.f93.body with | some c => c | none => .skip
noncomputable def c93S0 (_ : Unit) : Cmd := .ret
noncomputable def c93S1 (_ : Unit) : Cmd := .ret
noncomputable def c93S2 (_ : Unit) : Cmd := (.seq (.draw (drawOps 0 c93code) [4, 5, 6]) (sg c93S1))
noncomputable def c93S3 (_ : Unit) : Cmd := .ret
noncomputable def c93S4 (_ : Unit) : Cmd := (.seq (.draw (drawOps 1 c93code) [4, 5, 6]) (sg c93S3))
noncomputable def c93S5 (_ : Unit) : Cmd := (.cond (.tmp 10)
  (.seq (.ops [
  ⟨some 27, .move (.tmp 0), 36, none⟩,
  ⟨some 28, .fieldAddr 58 (.tmp 3) 5, 0, none⟩,
  ⟨some 29, .load 3 (.tmp 28), 3, none⟩,
  ⟨some 30, .buildSlice 36 1 #[(0, (.tmp 29))], 36, none⟩,
  ⟨some 31, .call ⟨.builtin .append, #[(.tmp 27), (.tmp 30)], #[36, 36]⟩, 36, none⟩,
  ⟨some 4, .assign (.tmp 31), 36, none⟩,
  ⟨some 5, .assign (.const (.int .i64 0)), 3, none⟩,
  ⟨some 6, .assign (.const (.bool true)), 4, none⟩] [4, 5, 6]) (sg c93S0))
  (.seq (.ops [
  ⟨some 33, .fieldAddr 58 (.tmp 3) 3, 0, none⟩,
  ⟨some 34, .load 3 (.tmp 33), 3, none⟩,
  ⟨some 35, .binOp .eql 3 (.tmp 34) (.const (.int .i64 3)) 3, 4, none⟩,
  ⟨some 36, .move (.tmp 35), 4, none⟩,
  ⟨some 37, .fieldAddr 58 (.tmp 3) 4, 0, (some (36, true))⟩,
  ⟨some 38, .load 3 (.tmp 37), 3, (some (36, true))⟩,
  ⟨some 39, .binOp .eql 3 (.tmp 38) (.const (.int .i64 7)) 3, 4, (some (36, true))⟩,
  ⟨some 40, .pick (.tmp 36) (.tmp 39) (.const (.bool false)), 4, none⟩,
  ⟨some 32, .assign (.tmp 40), 4, none⟩] [0, 3, 7, 32])
  (.cond (.tmp 32)
   (.seq (.seq (.ops [
   ⟨some 41, .move (.tmp 7), 3, none⟩,
   ⟨some 42, .binOp .eql 3 (.tmp 41) (.const (.int .i64 0)) 3, 4, none⟩] [0, 42])
   (.cond (.tmp 42)
    (.seq (.ops [
    ⟨some 43, .move (.tmp 0), 36, none⟩,
    ⟨some 4, .assign (.tmp 43), 36, none⟩,
    ⟨some 5, .assign (.const (.int .i64 (-1))), 3, none⟩,
    ⟨some 6, .assign (.const (.bool true)), 4, none⟩] [4, 5, 6])
    .ret)
    (.skip [0]))) (sg c93S2))
   (.seq (.ops [
   ⟨some 50, .fieldAddr 58 (.tmp 3) 3, 0, none⟩,
   ⟨some 51, .load 3 (.tmp 50), 3, none⟩,
   ⟨some 52, .binOp .eql 3 (.tmp 51) (.const (.int .i64 4)) 3, 4, none⟩,
   ⟨some 53, .move (.tmp 52), 4, none⟩,
   ⟨some 54, .fieldAddr 58 (.tmp 3) 4, 0, (some (53, true))⟩,
   ⟨some 55, .load 3 (.tmp 54), 3, (some (53, true))⟩,
   ⟨some 56, .binOp .eql 3 (.tmp 55) (.const (.int .i64 9)) 3, 4, (some (53, true))⟩,
   ⟨some 57, .pick (.tmp 53) (.tmp 56) (.const (.bool false)), 4, none⟩,
   ⟨some 49, .assign (.tmp 57), 4, none⟩] [0, 7, 49])
   (.cond (.tmp 49)
    (.seq (.seq (.ops [
    ⟨some 58, .move (.tmp 7), 3, none⟩,
    ⟨some 59, .binOp .eql 3 (.tmp 58) (.const (.int .i64 0)) 3, 4, none⟩] [0, 7, 59])
    (.cond (.tmp 59)
     (.seq (.ops [
     ⟨some 60, .move (.tmp 0), 36, none⟩,
     ⟨some 4, .assign (.tmp 60), 36, none⟩,
     ⟨some 5, .assign (.const (.int .i64 (-1))), 3, none⟩,
     ⟨some 6, .assign (.const (.bool true)), 4, none⟩] [4, 5, 6])
     .ret)
     (.skip [0, 7]))) (sg c93S4))
    (.skip []))))))
noncomputable def c93S6 (_ : Unit) : Cmd := (.seq (.ops [
 ⟨some 4, .assign (.const (.slice none 0 0)), 36, none⟩,
 ⟨some 5, .assign (.const (.int .i64 0)), 3, none⟩,
 ⟨some 6, .assign (.const (.bool false)), 4, none⟩] [4, 5, 6])
 .ret)
noncomputable def c93 : Cmd := (.seq (.ops [
 ⟨some 3, .box 58 (.tmp 1), 0, none⟩,
 ⟨some 4, .assign (.const (.slice none 0 0)), 36, none⟩,
 ⟨some 5, .assign (.const (.int .i64 0)), 3, none⟩,
 ⟨some 6, .assign (.const (.bool false)), 4, none⟩] [0, 3])
 (.seq (.ops [
 ⟨some 8, .move (.tmp 0), 36, none⟩,
 ⟨some 9, .call ⟨.builtin .len, #[(.tmp 8)], #[36]⟩, 3, none⟩,
 ⟨some 7, .assign (.tmp 9), 3, none⟩] [0, 3, 7])
 (.seq (.block 0 (.seq (.seq (.ops [
 ⟨some 11, .fieldAddr 58 (.tmp 3) 3, 0, none⟩,
 ⟨some 12, .load 3 (.tmp 11), 3, none⟩,
 ⟨some 13, .binOp .eql 3 (.tmp 12) (.const (.int .i64 3)) 3, 4, none⟩,
 ⟨some 14, .move (.tmp 13), 4, none⟩,
 ⟨some 15, .fieldAddr 58 (.tmp 3) 4, 0, (some (14, true))⟩,
 ⟨some 16, .load 3 (.tmp 15), 3, (some (14, true))⟩,
 ⟨some 17, .binOp .eql 3 (.tmp 16) (.const (.int .i64 6)) 3, 4, (some (14, true))⟩,
 ⟨some 18, .pick (.tmp 14) (.tmp 17) (.const (.bool false)), 4, none⟩,
 ⟨some 10, .assign (.tmp 18), 4, none⟩] [0, 3, 7, 10])
 (.cond (.tmp 10)
  (.skip [0, 3, 7, 10])
  (.ops [
  ⟨some 19, .fieldAddr 58 (.tmp 3) 3, 0, none⟩,
  ⟨some 20, .load 3 (.tmp 19), 3, none⟩,
  ⟨some 21, .binOp .eql 3 (.tmp 20) (.const (.int .i64 4)) 3, 4, none⟩,
  ⟨some 22, .move (.tmp 21), 4, none⟩,
  ⟨some 23, .fieldAddr 58 (.tmp 3) 4, 0, (some (22, true))⟩,
  ⟨some 24, .load 3 (.tmp 23), 3, (some (22, true))⟩,
  ⟨some 25, .binOp .eql 3 (.tmp 24) (.const (.int .i64 8)) 3, 4, (some (22, true))⟩,
  ⟨some 26, .pick (.tmp 22) (.tmp 25) (.const (.bool false)), 4, none⟩,
  ⟨some 10, .assign (.tmp 26), 4, none⟩] [0, 3, 7, 10]))) (sg c93S5))) (sg c93S6))))
noncomputable def c93D0 : List (Bool × Ins) := [
 (true, ⟨some 44, .move (.tmp 0), 36, none⟩),
 (true, ⟨some 45, .slice 36 (.tmp 44) (some (.const (.int .i64 1))) none none, 36, none⟩),
 (true, ⟨some 46, .move (.tmp 0), 36, none⟩),
 (true, ⟨some 47, .indexAddr 36 (.tmp 46) (.const (.int .i64 0)), 0, none⟩),
 (true, ⟨some 4, .assign (.tmp 45), 36, none⟩),
 (false, ⟨some 48, .load 3 (.tmp 47), 3, none⟩),
 (true, ⟨some 5, .assign (.tmp 48), 3, none⟩),
 (true, ⟨some 6, .assign (.const (.bool true)), 4, none⟩)]
theorem c93draw0 {L : List Nat} {ρ : Env} {w : World} {Q : Post} (h : DL Try.prog c93D0 L ρ w.drew Q) : drawW Try.prog (drawOps 0 c93code) L ρ w Q :=
  drawW_by [(true, 0), (true, 1), (true, 2), (true, 3), (true, 5), (false, 4), (true, 6), (true, 7)] c93D0 (by kernel_rfl) (by kernel_rfl) (by kernel_rfl) h
noncomputable def c93D1 : List (Bool × Ins) := [
 (true, ⟨some 61, .move (.tmp 0), 36, none⟩),
 (true, ⟨some 62, .move (.tmp 7), 3, none⟩),
 (true, ⟨some 63, .binOp .sub 3 (.tmp 62) (.const (.int .i64 1)) 3, 3, none⟩),
 (true, ⟨some 64, .slice 36 (.tmp 61) none (some (.tmp 63)) none, 36, none⟩),
 (true, ⟨some 65, .move (.tmp 0), 36, none⟩),
 (true, ⟨some 66, .move (.tmp 7), 3, none⟩),
 (true, ⟨some 67, .binOp .sub 3 (.tmp 66) (.const (.int .i64 1)) 3, 3, none⟩),
 (true, ⟨some 68, .indexAddr 36 (.tmp 65) (.tmp 67), 0, none⟩),
 (true, ⟨some 4, .assign (.tmp 64), 36, none⟩),
 (false, ⟨some 69, .load 3 (.tmp 68), 3, none⟩),
 (true, ⟨some 5, .assign (.tmp 69), 3, none⟩),
 (true, ⟨some 6, .assign (.const (.bool true)), 4, none⟩)]
theorem c93draw1 {L : List Nat} {ρ : Env} {w : World} {Q : Post} (h : DL Try.prog c93D1 L ρ w.drew Q) : drawW Try.prog (drawOps 1 c93code) L ρ w Q :=
  drawW_by [(true, 0), (true, 1), (true, 2), (true, 3), (true, 4), (true, 5), (true, 6), (true, 7), (true, 9), (false, 8), (true, 10), (true, 11)] c93D1 (by kernel_rfl) (by kernel_rfl) (by kernel_rfl) h
set_option maxRecDepth 100000 in
theorem ent93 (a0 a1 : Value) (w : World) (K : Value → World → Prop) (h : W Try.prog c93 [(0, a0), (1, a1)] w (finQ Try.prog [.tmp 4, .tmp 5, .tmp 6] K)) : Ret Try.prog 93 [a0, a1] w K :=
  Ret_of_W (code := c93code) Try.func93 (by kernel_rfl) (by kernel_rfl) (of_decide_eq_true (by kernel_rfl)) h
@[go_sem] theorem go93 : goFunc Try.prog 93 = true := by kernel_rfl
/- Function 94: model.set -/
noncomputable def c94code : Code := match Try.f94.body with | some c => c | none => .skip
noncomputable def c94S0 (_ : Unit) : Cmd := .ret
noncomputable def c94S1 (_ : Unit) : Cmd := .ret
noncomputable def c94S2 (_ : Unit) : Cmd := .ret
noncomputable def c94S3 (_ : Unit) : Cmd := (.cond (.tmp 16)
  (.seq (.ops [
  ⟨some 33, .move (.tmp 0), 36, none⟩,
  ⟨some 34, .fieldAddr 58 (.tmp 3) 4, 0, none⟩,
  ⟨some 35, .load 3 (.tmp 34), 3, none⟩,
  ⟨some 36, .binOp .eql 3 (.tmp 35) (.const (.int .i64 12)) 3, 4, none⟩,
  ⟨some 37, .move (.tmp 36), 4, none⟩,
  ⟨some 38, .move (.tmp 8), 4, (some (37, true))⟩,
  ⟨some 39, .pick (.tmp 37) (.tmp 38) (.const (.bool false)), 4, none⟩,
  ⟨some 40, .call ⟨.value (.func 122), #[(.tmp 39)], #[4]⟩, 3, none⟩,
  ⟨some 4, .assign (.tmp 33), 36, none⟩,
  ⟨some 5, .assign (.tmp 40), 3, none⟩,
  ⟨some 6, .assign (.const (.bool true)), 4, none⟩] [4, 5, 6]) (sg c94S0))
  (.seq (.ops [
  ⟨some 42, .fieldAddr 58 (.tmp 3) 4, 0, none⟩,
  ⟨some 43, .load 3 (.tmp 42), 3, none⟩,
  ⟨some 44, .binOp .eql 3 (.tmp 43) (.const (.int .i64 10)) 3, 4, none⟩,
  ⟨some 41, .assign (.tmp 44), 4, none⟩] [0, 3, 7, 41])
  (.cond (.tmp 41)
   (.seq (.ops [
   ⟨some 45, .move (.tmp 0), 36, none⟩,
   ⟨some 46, .move (.tmp 7), 3, none⟩,
   ⟨some 47, .fieldAddr 58 (.tmp 3) 5, 0, none⟩,
   ⟨some 48, .load 3 (.tmp 47), 3, none⟩,
   ⟨some 49, .buildSlice 36 1 #[(0, (.tmp 48))], 36, none⟩,
   ⟨some 50, .call ⟨.value (.func 123), #[(.tmp 45), (.tmp 46), (.tmp 49)], #[36, 3, 36]⟩, 36, none⟩,
   ⟨some 4, .assign (.tmp 50), 36, none⟩,
   ⟨some 5, .assign (.const (.int .i64 1)), 3, none⟩,
   ⟨some 6, .assign (.const (.bool true)), 4, none⟩] [4, 5, 6]) (sg c94S1))
   (.seq (.ops [
   ⟨some 52, .fieldAddr 58 (.tmp 3) 4, 0, none⟩,
   ⟨some 53, .load 3 (.tmp 52), 3, none⟩,
   ⟨some 54, .binOp .eql 3 (.tmp 53) (.const (.int .i64 11)) 3, 4, none⟩,
   ⟨some 51, .assign (.tmp 54), 4, none⟩] [0, 7, 51])
   (.cond (.tmp 51)
    (.seq (.ops [
    ⟨some 55, .move (.tmp 0), 36, none⟩,
    ⟨some 56, .move (.tmp 7), 3, none⟩,
    ⟨some 57, .move (.tmp 7), 3, none⟩,
    ⟨some 58, .binOp .add 3 (.tmp 57) (.const (.int .i64 1)) 3, 3, none⟩,
    ⟨some 59, .call ⟨.value (.func 124), #[(.tmp 55), (.tmp 56), (.tmp 58)], #[36, 3, 3]⟩, 36, none⟩,
    ⟨some 4, .assign (.tmp 59), 36, none⟩,
    ⟨some 5, .assign (.const (.int .i64 1)), 3, none⟩,
    ⟨some 6, .assign (.const (.bool true)), 4, none⟩] [4, 5, 6]) (sg c94S2))
    (.skip []))))))
noncomputable def c94S4 (_ : Unit) : Cmd := (.seq (.ops [
 ⟨some 4, .assign (.const (.slice none 0 0)), 36, none⟩,
 ⟨some 5, .assign (.const (.int .i64 0)), 3, none⟩,
 ⟨some 6, .assign (.const (.bool false)), 4, none⟩] [4, 5, 6])
 .ret)
noncomputable def c94S5 (_ : Unit) : Cmd := (.seq (.block 0 (.seq (.seq (.ops [
 ⟨some 17, .fieldAddr 58 (.tmp 3) 4, 0, none⟩,
 ⟨some 18, .load 3 (.tmp 17), 3, none⟩,
 ⟨some 19, .binOp .eql 3 (.tmp 18) (.const (.int .i64 12)) 3, 4, none⟩,
 ⟨some 16, .assign (.tmp 19), 4, none⟩] [0, 3, 7, 8, 16])
 (.cond (.tmp 16)
  (.skip [0, 3, 7, 8, 16])
  (.seq (.ops [
  ⟨some 20, .fieldAddr 58 (.tmp 3) 4, 0, none⟩,
  ⟨some 21, .load 3 (.tmp 20), 3, none⟩,
  ⟨some 22, .binOp .eql 3 (.tmp 21) (.const (.int .i64 10)) 3, 4, none⟩,
  ⟨some 23, .move (.tmp 22), 4, none⟩,
  ⟨some 24, .move (.tmp 8), 4, (some (23, true))⟩,
  ⟨some 25, .pick (.tmp 23) (.tmp 24) (.const (.bool false)), 4, none⟩,
  ⟨some 16, .assign (.tmp 25), 4, none⟩] [0, 3, 7, 8, 16])
  (.cond (.tmp 16)
   (.skip [0, 3, 7, 8, 16])
   (.ops [
   ⟨some 26, .fieldAddr 58 (.tmp 3) 4, 0, none⟩,
   ⟨some 27, .load 3 (.tmp 26), 3, none⟩,
   ⟨some 28, .binOp .eql 3 (.tmp 27) (.const (.int .i64 11)) 3, 4, none⟩,
   ⟨some 29, .move (.tmp 28), 4, none⟩,
   ⟨some 30, .move (.tmp 8), 4, (some (29, true))⟩,
   ⟨some 31, .unOp .not 4 (.tmp 30), 4, (some (29, true))⟩,
   ⟨some 32, .pick (.tmp 29) (.tmp 31) (.const (.bool false)), 4, none⟩,
   ⟨some 16, .assign (.tmp 32), 4, none⟩] [0, 3, 7, 8, 16]))))) (sg c94S3))) (sg c94S4))
noncomputable def c94 : Cmd := (.seq (.ops [
 ⟨some 3, .box 58 (.tmp 1), 0, none⟩,
 ⟨some 4, .assign (.const (.slice none 0 0)), 36, none⟩,
 ⟨some 5, .assign (.const (.int .i64 0)), 3, none⟩,
 ⟨some 6, .assign (.const (.bool false)), 4, none⟩] [0, 3])
 (.seq (.ops [
 ⟨some 10, .move (.tmp 0), 36, none⟩,
 ⟨some 11, .fieldAddr 58 (.tmp 3) 5, 0, none⟩,
 ⟨some 12, .load 3 (.tmp 11), 3, none⟩,
 ⟨some 13, .call ⟨.value (.func 121), #[(.tmp 10), (.tmp 12)], #[36, 3]⟩, 142, none⟩,
 ⟨some 9, .move (.tmp 13), 142, none⟩,
 ⟨some 14, .extract (.tmp 9) 0, 3, none⟩,
 ⟨some 15, .extract (.tmp 9) 1, 4, none⟩,
 ⟨some 7, .assign (.tmp 14), 3, none⟩,
 ⟨some 8, .assign (.tmp 15), 4, none⟩] [0, 3, 7, 8]) (sg c94S5)))
set_option maxRecDepth 100000 in
theorem ent94 (a0 a1 : Value) (w : World) (K : Value → World → Prop) (h : W Try.prog c94 [(0, a0), (1, a1)] w (finQ Try.prog [.tmp 4, .tmp 5, .tmp 6] K)) : Ret Try.prog 94 [a0, a1] w K :=
  Ret_of_W (code := c94code) Try.func94 (by kernel_rfl) (by kernel_rfl) (of_decide_eq_true (by kernel_rfl)) h
@[go_sem] theorem go94 : goFunc Try.prog 94 = true := by kernel_rfl
/- Function 106: annalistref11.number -/
noncomputable def c106code : Code := match Try.f106.body with | some c => c | none => .skip
noncomputable def c106S0 (_ : Unit) : Cmd := (.cond (.tmp 44)
  (.seq (.ops [
  ⟨some 45, .fieldAddr 58 (.tmp 3) 6, 0, none⟩,
  ⟨some 46, .load 3 (.tmp 45), 3, none⟩,
  ⟨some 47, .buildSlice 36 1 #[(0, (.tmp 46))], 36, none⟩,
  ⟨some 48, .build 117 #[(0, (.tmp 47)), (1, (.const (.int .i64 1))), (2, (.const (.bool true)))], 117, none⟩,
  ⟨none, .store 117 (.tmp 4) (.tmp 48), 0, none⟩] [4])
  .ret)
  (.skip [0, 3, 4]))
noncomputable def c106S1 (_ : Unit) : Cmd := (.seq (.ops [
 ⟨some 87, .build 117 #[], 117, none⟩,
 ⟨none, .store 117 (.tmp 4) (.tmp 87), 0, none⟩] [4])
 .ret)
noncomputable def c106S2 (_ : Unit) : Cmd := (.seq (.seq (.ops [
 ⟨some 73, .fieldAddr 58 (.tmp 3) 3, 0, none⟩,
 ⟨some 74, .load 3 (.tmp 73), 3, none⟩,
 ⟨some 75, .binOp .eql 3 (.tmp 74) (.const (.int .i64 2)) 3, 4, none⟩,
 ⟨some 76, .move (.tmp 75), 4, none⟩,
 ⟨some 77, .fieldAddr 58 (.tmp 3) 4, 0, (some (76, true))⟩,
 ⟨some 78, .load 3 (.tmp 77), 3, (some (76, true))⟩,
 ⟨some 79, .binOp .eql 3 (.tmp 78) (.const (.int .i64 5)) 3, 4, (some (76, true))⟩,
 ⟨some 80, .pick (.tmp 76) (.tmp 79) (.const (.bool false)), 4, none⟩] [0, 4, 80])
 (.cond (.tmp 80)
  (.seq (.opsX [
  ⟨some 81, .move (.tmp 0), 36, none⟩,
  ⟨some 82, .indexAddr 36 (.tmp 81) (.const (.int .i64 0)), 0, none⟩,
  ⟨some 83, .load 3 (.tmp 82), 3, none⟩,
  ⟨some 84, .binOp .sub 3 (.tmp 83) (.const (.int .i64 1)) 3, 3, none⟩,
  ⟨some 85, .buildSlice 36 1 #[(0, (.tmp 84))], 36, none⟩,
  ⟨some 86, .build 117 #[(0, (.tmp 85)), (1, (.const (.int .i64 0))), (2, (.const (.bool true)))], 117, none⟩,
  ⟨none, .store 117 (.tmp 4) (.tmp 86), 0, none⟩] [4])
  .ret)
  (.skip [4]))) (sg c106S1))
noncomputable def c106S3 (_ : Unit) : Cmd := (.seq (.seq (.ops [
 ⟨some 59, .fieldAddr 58 (.tmp 3) 3, 0, none⟩,
 ⟨some 60, .load 3 (.tmp 59), 3, none⟩,
 ⟨some 61, .binOp .eql 3 (.tmp 60) (.const (.int .i64 2)) 3, 4, none⟩,
 ⟨some 62, .move (.tmp 61), 4, none⟩,
 ⟨some 63, .fieldAddr 58 (.tmp 3) 4, 0, (some (62, true))⟩,
 ⟨some 64, .load 3 (.tmp 63), 3, (some (62, true))⟩,
 ⟨some 65, .binOp .eql 3 (.tmp 64) (.const (.int .i64 4)) 3, 4, (some (62, true))⟩,
 ⟨some 66, .pick (.tmp 62) (.tmp 65) (.const (.bool false)), 4, none⟩] [0, 3, 4, 66])
 (.cond (.tmp 66)
  (.seq (.opsX [
  ⟨some 67, .move (.tmp 0), 36, none⟩,
  ⟨some 68, .indexAddr 36 (.tmp 67) (.const (.int .i64 0)), 0, none⟩,
  ⟨some 69, .load 3 (.tmp 68), 3, none⟩,
  ⟨some 70, .binOp .add 3 (.tmp 69) (.const (.int .i64 1)) 3, 3, none⟩,
  ⟨some 71, .buildSlice 36 1 #[(0, (.tmp 70))], 36, none⟩,
  ⟨some 72, .build 117 #[(0, (.tmp 71)), (1, (.const (.int .i64 0))), (2, (.const (.bool true)))], 117, none⟩,
  ⟨none, .store 117 (.tmp 4) (.tmp 72), 0, none⟩] [4])
  .ret)
  (.skip [0, 3, 4]))) (sg c106S2))
noncomputable def c106S4 (_ : Unit) : Cmd := (.seq (.seq (.ops [
 ⟨some 49, .fieldAddr 58 (.tmp 3) 3, 0, none⟩,
 ⟨some 50, .load 3 (.tmp 49), 3, none⟩,
 ⟨some 51, .binOp .eql 3 (.tmp 50) (.const (.int .i64 1)) 3, 4, none⟩,
 ⟨some 52, .move (.tmp 51), 4, none⟩,
 ⟨some 53, .fieldAddr 58 (.tmp 3) 4, 0, (some (52, true))⟩,
 ⟨some 54, .load 3 (.tmp 53), 3, (some (52, true))⟩,
 ⟨some 55, .binOp .eql 3 (.tmp 54) (.const (.int .i64 3)) 3, 4, (some (52, true))⟩,
 ⟨some 56, .pick (.tmp 52) (.tmp 55) (.const (.bool false)), 4, none⟩] [0, 3, 4, 56])
 (.cond (.tmp 56)
  (.seq (.ops [
  ⟨some 57, .move (.tmp 0), 36, none⟩,
  ⟨some 58, .build 117 #[(0, (.tmp 57)), (1, (.const (.int .i64 0))), (2, (.const (.bool true)))], 117, none⟩,
  ⟨none, .store 117 (.tmp 4) (.tmp 58), 0, none⟩] [4])
  .ret)
  (.skip [0, 3, 4]))) (sg c106S3))
noncomputable def c106S5 (_ : Unit) : Cmd := (.seq (.seq (.draw (drawOps 0 c106code) [0, 3, 4, 44]) (sg c106S0)) (sg c106S4))
noncomputable def c106S6 (_ : Unit) : Cmd := (.seq (.seq (.ops [
 ⟨some 17, .fieldAddr 58 (.tmp 3) 3, 0, none⟩,
 ⟨some 18, .load 3 (.tmp 17), 3, none⟩,
 ⟨some 19, .binOp .eql 3 (.tmp 18) (.const (.int .i64 1)) 3, 4, none⟩,
 ⟨some 20, .move (.tmp 19), 4, none⟩,
 ⟨some 21, .fieldAddr 58 (.tmp 3) 4, 0, (some (20, true))⟩,
 ⟨some 22, .load 3 (.tmp 21), 3, (some (20, true))⟩,
 ⟨some 23, .binOp .eql 3 (.tmp 22) (.const (.int .i64 2)) 3, 4, (some (20, true))⟩,
 ⟨some 24, .pick (.tmp 20) (.tmp 23) (.const (.bool false)), 4, none⟩] [0, 3, 4, 24])
 (.cond (.tmp 24)
  (.seq (.ops [
  ⟨some 25, .fieldAddr 58 (.tmp 3) 5, 0, none⟩,
  ⟨some 26, .load 3 (.tmp 25), 3, none⟩,
  ⟨some 27, .buildSlice 36 1 #[(0, (.tmp 26))], 36, none⟩,
  ⟨some 28, .build 117 #[(0, (.tmp 27)), (1, (.const (.int .i64 0))), (2, (.const (.bool true)))], 117, none⟩,
  ⟨none, .store 117 (.tmp 4) (.tmp 28), 0, none⟩] [4])
  .ret)
  (.skip [0, 3, 4]))) (sg c106S5))
noncomputable def c106S7 (_ : Unit) : Cmd := (.seq (.seq (.ops [
 ⟨some 9, .fieldAddr 58 (.tmp 3) 4, 0, none⟩,
 ⟨some 10, .load 3 (.tmp 9), 3, none⟩,
 ⟨some 11, .binOp .eql 3 (.tmp 10) (.const (.int .i64 1)) 3, 4, none⟩] [0, 3, 4, 11])
 (.cond (.tmp 11)
  (.seq (.ops [
  ⟨some 12, .move (.tmp 0), 36, none⟩,
  ⟨some 13, .move (.tmp 0), 36, none⟩,
  ⟨some 14, .indexAddr 36 (.tmp 13) (.const (.int .i64 0)), 0, none⟩,
  ⟨some 15, .load 3 (.tmp 14), 3, none⟩,
  ⟨some 16, .build 117 #[(0, (.tmp 12)), (1, (.tmp 15)), (2, (.const (.bool true)))], 117, none⟩,
  ⟨none, .store 117 (.tmp 4) (.tmp 16), 0, none⟩] [4])
  .ret)
  (.skip [0, 3, 4]))) (sg c106S6))
noncomputable def c106 : Cmd := (.seq (.ops [
 ⟨some 3, .box 58 (.tmp 1), 0, none⟩,
 ⟨some 4, .alloc 117, 0, none⟩] [0, 3, 4])
 (.seq (.seq (.ops [
 ⟨some 5, .move (.tmp 0), 36, none⟩,
 ⟨some 6, .call ⟨.builtin .len, #[(.tmp 5)], #[36]⟩, 3, none⟩,
 ⟨some 7, .binOp .neq 3 (.tmp 6) (.const (.int .i64 1)) 3, 4, none⟩] [0, 3, 4, 7])
 (.cond (.tmp 7)
  (.seq (.ops [
  ⟨some 8, .build 117 #[], 117, none⟩,
  ⟨none, .store 117 (.tmp 4) (.tmp 8), 0, none⟩] [4])
  .ret)
  (.skip [0, 3, 4]))) (sg c106S7)))
noncomputable def c106D0 : List (Bool × Ins) := [
 (true, ⟨some 29, .fieldAddr 58 (.tmp 3) 3, 0, none⟩),
 (false, ⟨some 30, .load 3 (.tmp 29), 3, none⟩),
 (true, ⟨some 31, .binOp .eql 3 (.tmp 30) (.const (.int .i64 1)) 3, 4, none⟩),
 (true, ⟨some 32, .move (.tmp 31), 4, none⟩),
 (true, ⟨some 33, .fieldAddr 58 (.tmp 3) 4, 0, (some (32, true))⟩),
 (false, ⟨some 34, .load 3 (.tmp 33), 3, (some (32, true))⟩),
 (true, ⟨some 35, .binOp .eql 3 (.tmp 34) (.const (.int .i64 3)) 3, 4, (some (32, true))⟩),
 (true, ⟨some 36, .pick (.tmp 32) (.tmp 35) (.const (.bool false)), 4, none⟩),
 (true, ⟨some 37, .move (.tmp 36), 4, none⟩),
 (true, ⟨some 38, .move (.tmp 0), 36, (some (37, true))⟩),
 (true, ⟨some 39, .indexAddr 36 (.tmp 38) (.const (.int .i64 0)), 0, (some (37, true))⟩),
 (false, ⟨some 40, .load 3 (.tmp 39), 3, (some (37, true))⟩),
 (true, ⟨some 41, .fieldAddr 58 (.tmp 3) 5, 0, (some (37, true))⟩),
 (false, ⟨some 42, .load 3 (.tmp 41), 3, (some (37, true))⟩),
 (true, ⟨some 43, .binOp .eql 3 (.tmp 40) (.tmp 42) 3, 4, (some (37, true))⟩),
 (true, ⟨some 44, .pick (.tmp 37) (.tmp 43) (.const (.bool false)), 4, none⟩)]
theorem c106draw0 {L : List Nat} {ρ : Env} {w : World} {Q : Post} (h : DL Try.prog c106D0 L ρ w.drew Q) : drawW Try.prog (drawOps 0 c106code) L ρ w Q :=
  drawW_still [true, false, true, true, true, false, true, true, true, true, true, false, true, false, true, true] c106D0 (by kernel_rfl) (by kernel_rfl) (by kernel_rfl) h
set_option maxRecDepth 100000 in
theorem ent106 (a0 a1 : Value) (w : World) (K : Value → World → Prop) (h : W Try.prog c106 [(0, a0), (1, a1)] w (finQ Try.prog [.cell 4 117] K)) : Ret Try.prog 106 [a0, a1] w K :=
  Ret_of_W (code := c106code) Try.func106 (by kernel_rfl) (by kernel_rfl) (of_decide_eq_true (by kernel_rfl)) h
@[go_sem] theorem go106 : goFunc Try.prog 106 = true := by kernel_rfl
/- Function 107: annalistref11.without -/
noncomputable def c107code : Code := match Try.f107.body with | some c => c | none => .skip
noncomputable def c107S0 (_ : Unit) : Cmd := (.ops [
 ⟨some 11, .move (.tmp 6), 3, none⟩,
 ⟨some 12, .binOp .add 3 (.tmp 11) (.const (.int .i64 1)) 3, 3, none⟩,
 ⟨some 6, .assign (.tmp 12), 3, none⟩] [0, 1, 5, 6])
noncomputable def c107S1 (_ : Unit) : Cmd := (.seq (.block 1 (.seq (.ops [
 ⟨some 13, .move (.tmp 0), 36, none⟩,
 ⟨some 14, .move (.tmp 6), 3, none⟩,
 ⟨some 15, .indexAddr 36 (.tmp 13) (.tmp 14), 0, none⟩,
 ⟨some 16, .load 3 (.tmp 15), 3, none⟩,
 ⟨some 17, .move (.tmp 1), 3, none⟩,
 ⟨some 18, .binOp .neq 3 (.tmp 16) (.tmp 17) 3, 4, none⟩] [0, 1, 5, 6, 18])
 (.cond (.tmp 18)
  (.ops [
  ⟨some 19, .move (.tmp 5), 36, none⟩,
  ⟨some 20, .move (.tmp 0), 36, none⟩,
  ⟨some 21, .move (.tmp 6), 3, none⟩,
  ⟨some 22, .indexAddr 36 (.tmp 20) (.tmp 21), 0, none⟩,
  ⟨some 23, .load 3 (.tmp 22), 3, none⟩,
  ⟨some 24, .buildSlice 36 1 #[(0, (.tmp 23))], 36, none⟩,
  ⟨some 25, .call ⟨.builtin .append, #[(.tmp 19), (.tmp 24)], #[36, 36]⟩, 36, none⟩,
  ⟨some 5, .assign (.tmp 25), 36, none⟩] [0, 1, 5, 6])
  (.skip [0, 1, 5, 6])))) (sg c107S0))
noncomputable def c107L0 (_ : Unit) : Cmd := (.seq (.seq (.ops [
 ⟨some 7, .move (.tmp 6), 3, none⟩,
 ⟨some 8, .move (.tmp 0), 36, none⟩,
 ⟨some 9, .call ⟨.builtin .len, #[(.tmp 8)], #[36]⟩, 3, none⟩,
 ⟨some 10, .binOp .lss 3 (.tmp 7) (.tmp 9) 3, 4, none⟩] [0, 1, 5, 6, 10])
 (.cond (.tmp 10)
  (.skip [0, 1, 5, 6])
  (.exit 0 [5]))) (sg c107S1))
noncomputable def c107S2 (_ : Unit) : Cmd := (.seq (.ops [
 ⟨some 26, .move (.tmp 5), 36, none⟩,
 ⟨some 4, .assign (.tmp 26), 36, none⟩] [4])
 .ret)
noncomputable def c107 : Cmd := (.seq (.ops [
 ⟨some 4, .assign (.const (.slice none 0 0)), 36, none⟩] [0, 1])
 (.seq (.ops [
 ⟨some 5, .assign (.const (.slice none 0 0)), 36, none⟩] [0, 1, 5])
 (.seq (.seq (.ops [
 ⟨some 6, .assign (.const (.int .i64 0)), 3, none⟩] [0, 1, 5, 6])
 (.block 0 (.loop (sg c107L0)))) (sg c107S2))))
set_option maxRecDepth 100000 in
theorem ent107 (a0 a1 : Value) (w : World) (K : Value → World → Prop) (h : W Try.prog c107 [(0, a0), (1, a1)] w (finQ Try.prog [.tmp 4] K)) : Ret Try.prog 107 [a0, a1] w K :=
  Ret_of_W (code := c107code) Try.func107 (by kernel_rfl) (by kernel_rfl) (of_decide_eq_true (by kernel_rfl)) h
@[go_sem] theorem go107 : goFunc Try.prog 107 = true := by kernel_rfl
/- Function 108: annalistref11.with -/
noncomputable def c108code : Code := match Try.f108.body with | some c => c | none => .skip
noncomputable def c108S0 (_ : Unit) : Cmd := (.ops [
  ⟨some 6, .assign (.const (.bool true)), 4, none⟩] [0, 1, 5, 6, 7])
noncomputable def c108S1 (_ : Unit) : Cmd := (.ops [
 ⟨some 28, .move (.tmp 5), 36, none⟩,
 ⟨some 29, .move (.tmp 0), 36, none⟩,
 ⟨some 30, .move (.tmp 7), 3, none⟩,
 ⟨some 31, .indexAddr 36 (.tmp 29) (.tmp 30), 0, none⟩,
 ⟨some 32, .load 3 (.tmp 31), 3, none⟩,
 ⟨some 33, .buildSlice 36 1 #[(0, (.tmp 32))], 36, none⟩,
 ⟨some 34, .call ⟨.builtin .append, #[(.tmp 28), (.tmp 33)], #[36, 36]⟩, 36, none⟩,
 ⟨some 5, .assign (.tmp 34), 36, none⟩] [0, 1, 5, 6, 7])
noncomputable def c108S2 (_ : Unit) : Cmd := (.ops [
 ⟨some 12, .move (.tmp 7), 3, none⟩,
 ⟨some 13, .binOp .add 3 (.tmp 12) (.const (.int .i64 1)) 3, 3, none⟩,
 ⟨some 7, .assign (.tmp 13), 3, none⟩] [0, 1, 5, 6, 7])
noncomputable def c108S3 (_ : Unit) : Cmd := (.seq (.block 1 (.seq (.seq (.ops [
 ⟨some 14, .move (.tmp 6), 4, none⟩,
 ⟨some 15, .unOp .not 4 (.tmp 14), 4, none⟩,
 ⟨some 16, .move (.tmp 15), 4, none⟩,
 ⟨some 17, .move (.tmp 0), 36, (some (16, true))⟩,
 ⟨some 18, .move (.tmp 7), 3, (some (16, true))⟩,
 ⟨some 19, .indexAddr 36 (.tmp 17) (.tmp 18), 0, (some (16, true))⟩,
 ⟨some 20, .load 3 (.tmp 19), 3, (some (16, true))⟩,
 ⟨some 21, .move (.tmp 1), 3, (some (16, true))⟩,
 ⟨some 22, .binOp .gtr 3 (.tmp 20) (.tmp 21) 3, 4, (some (16, true))⟩,
 ⟨some 23, .pick (.tmp 16) (.tmp 22) (.const (.bool false)), 4, none⟩] [0, 1, 5, 6, 7, 23])
 (.cond (.tmp 23)
  (.seq (.ops [
  ⟨some 24, .move (.tmp 5), 36, none⟩,
  ⟨some 25, .move (.tmp 1), 3, none⟩,
  ⟨some 26, .buildSlice 36 1 #[(0, (.tmp 25))], 36, none⟩,
  ⟨some 27, .call ⟨.builtin .append, #[(.tmp 24), (.tmp 26)], #[36, 36]⟩, 36, none⟩,
  ⟨some 5, .assign (.tmp 27), 36, none⟩] [0, 1, 5, 7]) (sg c108S0))
  (.skip [0, 1, 5, 6, 7]))) (sg c108S1))) (sg c108S2))
noncomputable def c108L0 (_ : Unit) : Cmd := (.seq (.seq (.ops [
 ⟨some 8, .move (.tmp 7), 3, none⟩,
 ⟨some 9, .move (.tmp 0), 36, none⟩,
 ⟨some 10, .call ⟨.builtin .len, #[(.tmp 9)], #[36]⟩, 3, none⟩,
 ⟨some 11, .binOp .lss 3 (.tmp 8) (.tmp 10) 3, 4, none⟩] [0, 1, 5, 6, 7, 11])
 (.cond (.tmp 11)
  (.skip [0, 1, 5, 6, 7])
  (.exit 0 [1, 5, 6]))) (sg c108S3))
noncomputable def c108S4 (_ : Unit) : Cmd := (.seq (.ops [
 ⟨some 41, .move (.tmp 5), 36, none⟩,
 ⟨some 4, .assign (.tmp 41), 36, none⟩] [4])
 .ret)
noncomputable def c108S5 (_ : Unit) : Cmd := (.seq (.seq (.ops [
 ⟨some 35, .move (.tmp 6), 4, none⟩,
 ⟨some 36, .unOp .not 4 (.tmp 35), 4, none⟩] [1, 5, 36])
 (.cond (.tmp 36)
  (.ops [
  ⟨some 37, .move (.tmp 5), 36, none⟩,
  ⟨some 38, .move (.tmp 1), 3, none⟩,
  ⟨some 39, .buildSlice 36 1 #[(0, (.tmp 38))], 36, none⟩,
  ⟨some 40, .call ⟨.builtin .append, #[(.tmp 37), (.tmp 39)], #[36, 36]⟩, 36, none⟩,
  ⟨some 5, .assign (.tmp 40), 36, none⟩] [5])
  (.skip [5]))) (sg c108S4))
noncomputable def c108 : Cmd := (.seq (.ops [
 ⟨some 4, .assign (.const (.slice none 0 0)), 36, none⟩] [0, 1])
 (.seq (.ops [
 ⟨some 5, .assign (.const (.slice none 0 0)), 36, none⟩] [0, 1, 5])
 (.seq (.ops [
 ⟨some 6, .assign (.const (.bool false)), 4, none⟩] [0, 1, 5, 6])
 (.seq (.seq (.ops [
 ⟨some 7, .assign (.const (.int .i64 0)), 3, none⟩] [0, 1, 5, 6, 7])
 (.block 0 (.loop (sg c108L0)))) (sg c108S5)))))
set_option maxRecDepth 100000 in
theorem ent108 (a0 a1 : Value) (w : World) (K : Value → World → Prop) (h : W Try.prog c108 [(0, a0), (1, a1)] w (finQ Try.prog [.tmp 4] K)) : Ret Try.prog 108 [a0, a1] w K :=
  Ret_of_W (code := c108code) Try.func108 (by kernel_rfl) (by kernel_rfl) (of_decide_eq_true (by kernel_rfl)) h
@[go_sem] theorem go108 : goFunc Try.prog 108 = true := by kernel_rfl
/- Function 109: annalistref10.Rows -/
noncomputable def c109code : Code := match Try.f109.body with | some c => c | none => .skip
noncomputable def c109 : Cmd := (.seq (.ops [
 ⟨some 0, .assign (.const (.slice none 0 0)), 148, none⟩] [])
 (.seq (.ops [
 ⟨some 1, .build 121 #[(0, (.const (.int .i64 1))), (1, (.const (.int .i64 1))), (2, (.const (.int .i64 0))), (3, (.const (.int .i64 2)))], 121, none⟩,
 ⟨some 2, .build 121 #[(0, (.const (.int .i64 1))), (1, (.const (.int .i64 2))), (2, (.const (.int .i64 1))), (3, (.const (.int .i64 0)))], 121, none⟩,
 ⟨some 3, .build 121 #[(0, (.const (.int .i64 1))), (1, (.const (.int .i64 3))), (2, (.const (.int .i64 2))), (3, (.const (.int .i64 1)))], 121, none⟩,
 ⟨some 4, .build 121 #[(0, (.const (.int .i64 2))), (1, (.const (.int .i64 1))), (2, (.const (.int .i64 0))), (3, (.const (.int .i64 3)))], 121, none⟩,
 ⟨some 5, .build 121 #[(0, (.const (.int .i64 2))), (1, (.const (.int .i64 4))), (2, (.const (.int .i64 0))), (3, (.const (.int .i64 0)))], 121, none⟩,
 ⟨some 6, .build 121 #[(0, (.const (.int .i64 2))), (1, (.const (.int .i64 5))), (2, (.const (.int .i64 0))), (3, (.const (.int .i64 0)))], 121, none⟩,
 ⟨some 7, .build 121 #[(0, (.const (.int .i64 3))), (1, (.const (.int .i64 6))), (2, (.const (.int .i64 1))), (3, (.const (.int .i64 0)))], 121, none⟩,
 ⟨some 8, .build 121 #[(0, (.const (.int .i64 3))), (1, (.const (.int .i64 7))), (2, (.const (.int .i64 0))), (3, (.const (.int .i64 4)))], 121, none⟩,
 ⟨some 9, .build 121 #[(0, (.const (.int .i64 4))), (1, (.const (.int .i64 8))), (2, (.const (.int .i64 1))), (3, (.const (.int .i64 0)))], 121, none⟩,
 ⟨some 10, .build 121 #[(0, (.const (.int .i64 4))), (1, (.const (.int .i64 9))), (2, (.const (.int .i64 0))), (3, (.const (.int .i64 4)))], 121, none⟩,
 ⟨some 11, .build 121 #[(0, (.const (.int .i64 5))), (1, (.const (.int .i64 10))), (2, (.const (.int .i64 1))), (3, (.const (.int .i64 1)))], 121, none⟩,
 ⟨some 12, .build 121 #[(0, (.const (.int .i64 5))), (1, (.const (.int .i64 11))), (2, (.const (.int .i64 1))), (3, (.const (.int .i64 1)))], 121, none⟩,
 ⟨some 13, .build 121 #[(0, (.const (.int .i64 5))), (1, (.const (.int .i64 12))), (2, (.const (.int .i64 1))), (3, (.const (.int .i64 1)))], 121, none⟩,
 ⟨some 14, .build 121 #[(0, (.const (.int .i64 6))), (1, (.const (.int .i64 13))), (2, (.const (.int .i64 0))), (3, (.const (.int .i64 0)))], 121, none⟩,
 ⟨some 15, .build 121 #[(0, (.const (.int .i64 6))), (1, (.const (.int .i64 14))), (2, (.const (.int .i64 0))), (3, (.const (.int .i64 0)))], 121, none⟩,
 ⟨some 16, .buildSlice 148 15 #[(0, (.tmp 1)), (1, (.tmp 2)), (2, (.tmp 3)), (3, (.tmp 4)), (4, (.tmp 5)), (5, (.tmp 6)), (6, (.tmp 7)), (7, (.tmp 8)), (8, (.tmp 9)), (9, (.tmp 10)), (10, (.tmp 11)), (11, (.tmp 12)), (12, (.tmp 13)), (13, (.tmp 14)), (14, (.tmp 15))], 148, none⟩,
 ⟨some 0, .assign (.tmp 16), 148, none⟩] [0])
 .ret))
set_option maxRecDepth 100000 in
theorem ent109 (w : World) (K : Value → World → Prop) (h : W Try.prog c109 [] w (finQ Try.prog [.tmp 0] K)) : Ret Try.prog 109 [] w K :=
  Ret_of_W (code := c109code) Try.func109 (by kernel_rfl) (by kernel_rfl) (of_decide_eq_true (by kernel_rfl)) h
@[go_sem] theorem go109 : goFunc Try.prog 109 = true := by kernel_rfl
/- Function 122: model.flag -/
noncomputable def c122code : Code := match Try.f122.body with | some c => c | none => .skip
noncomputable def c122S0 (_ : Unit) : Cmd := (.seq (.ops [
 ⟨some 2, .assign (.const (.int .i64 0)), 3, none⟩] [2])
 .ret)
noncomputable def c122 : Cmd := (.seq (.ops [
 ⟨some 2, .assign (.const (.int .i64 0)), 3, none⟩] [0])
 (.seq (.seq (.ops [
 ⟨some 3, .move (.tmp 0), 4, none⟩] [3])
 (.cond (.tmp 3)
  (.seq (.ops [
  ⟨some 2, .assign (.const (.int .i64 1)), 3, none⟩] [2])
  .ret)
  (.skip []))) (sg c122S0)))
set_option maxRecDepth 100000 in
theorem ent122 (a0 : Value) (w : World) (K : Value → World → Prop) (h : W Try.prog c122 [(0, a0)] w (finQ Try.prog [.tmp 2] K)) : Ret Try.prog 122 [a0] w K :=
  Ret_of_W (code := c122code) Try.func122 (by kernel_rfl) (by kernel_rfl) (of_decide_eq_true (by kernel_rfl)) h
@[go_sem] theorem go122 : goFunc Try.prog 122 = true := by kernel_rfl
end Go.Proofs.Ytbeoedgoikcbpaa
