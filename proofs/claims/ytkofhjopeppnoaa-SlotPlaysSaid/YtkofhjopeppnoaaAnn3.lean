/- An engine for walks. Part 3: that the plain operations do as is said. -/
import Derived.Test.YtkofhjopeppnoaaAnn2
namespace Go.Ann
set_option linter.unusedVariables false
set_option linter.unusedSimpArgs false
open Go

theorem wrap_i64 (n : Int) (h : I64 n) : IntKind.i64.wrap n = n := by
  obtain ⟨h1, h2⟩ := h
  simp [IntKind.wrap, IntKind.bits, IntKind.signed]
  omega

theorem tdiv_i64 (a b : Int) (hb : b ≠ 0) (hb1 : b ≠ -1) (h : I64 a) : I64 (a.tdiv b) := by
  obtain ⟨h1, h2⟩ := h
  by_cases h1' : b = 1
  · subst h1'; rw [Int.tdiv_one]; exact ⟨h1, h2⟩
  · have h3 : (a.tdiv b).natAbs ≤ a.natAbs / 2 := by
      rw [Int.natAbs_tdiv]; exact Nat.div_le_div_left (by omega) (by decide)
    exact ⟨by omega, by omega⟩

section
variable {P : Program} (w : World)

theorem intV_sound {op : BinOp} {k : IntKind} {a b : Int} {ob : Prop} {v : Value} {t : TypeId} (h : intV op k a b = some (ob, v)) (hob : ob) :
    (binOp op t (.int k a) (.int k b)).run P w = .ok v w := by
  cases op <;> simp only [intV] at h
  case add =>
    simp only [binOp_add, Op.intArith]
    split at h <;> simp only [Option.some.injEq, Prod.mk.injEq] at h <;> obtain ⟨rfl, rfl⟩ := h
    · subst_vars; rw [wrap_i64 _ hob]; rfl
    · rfl
  case sub =>
    simp only [binOp_sub, Op.intArith]
    split at h <;> simp only [Option.some.injEq, Prod.mk.injEq] at h <;> obtain ⟨rfl, rfl⟩ := h
    · subst_vars; rw [wrap_i64 _ hob]; rfl
    · rfl
  case mul =>
    simp only [binOp_mul, Op.intArith]
    split at h <;> simp only [Option.some.injEq, Prod.mk.injEq] at h <;> obtain ⟨rfl, rfl⟩ := h
    · subst_vars; rw [wrap_i64 _ hob]; rfl
    · rfl
  case quo =>
    simp only [binOp_quo, Op.intDiv]
    split at h <;> simp only [Option.some.injEq, Prod.mk.injEq] at h <;> obtain ⟨rfl, rfl⟩ := h
    · subst_vars; rw [if_neg hob.1, wrap_i64 _ (tdiv_i64 a b hob.1 hob.2.1 hob.2.2)]; rfl
    · rw [if_neg hob]; rfl
  case rem =>
    simp only [binOp_rem, Op.intDiv]
    simp only [Option.some.injEq, Prod.mk.injEq] at h; obtain ⟨rfl, rfl⟩ := h
    rw [if_neg hob]; rfl
  case and => simp only [Option.some.injEq, Prod.mk.injEq] at h; obtain ⟨rfl, rfl⟩ := h; simp only [binOp_and, intBits_and]; rfl
  case or => simp only [Option.some.injEq, Prod.mk.injEq] at h; obtain ⟨rfl, rfl⟩ := h; simp only [binOp_or, intBits_or]; rfl
  case xor => simp only [Option.some.injEq, Prod.mk.injEq] at h; obtain ⟨rfl, rfl⟩ := h; simp only [binOp_xor, intBits_xor]; rfl
  case andNot => simp only [Option.some.injEq, Prod.mk.injEq] at h; obtain ⟨rfl, rfl⟩ := h; simp only [binOp_andNot, intBits_andNot]; rfl
  case eql =>
    simp only [Option.some.injEq, Prod.mk.injEq] at h; obtain ⟨rfl, rfl⟩ := h; simp only [binOp_eql]
    have : (a == b) = decide (a = b) := by rw [Bool.eq_iff_iff]; simp
    rw [this]; rfl
  case neq =>
    simp only [Option.some.injEq, Prod.mk.injEq] at h; obtain ⟨rfl, rfl⟩ := h; simp only [binOp_neq]
    have : (a != b) = decide (a ≠ b) := by rw [Bool.eq_iff_iff]; simp
    rw [this]; rfl
  case lss => simp only [Option.some.injEq, Prod.mk.injEq] at h; obtain ⟨rfl, rfl⟩ := h; simp only [binOp_lss]; rfl
  case leq => simp only [Option.some.injEq, Prod.mk.injEq] at h; obtain ⟨rfl, rfl⟩ := h; simp only [binOp_leq]; rfl
  case gtr => simp only [Option.some.injEq, Prod.mk.injEq] at h; obtain ⟨rfl, rfl⟩ := h; simp only [binOp_gtr]; rfl
  case geq => simp only [Option.some.injEq, Prod.mk.injEq] at h; obtain ⟨rfl, rfl⟩ := h; simp only [binOp_geq]; rfl
  all_goals cases h

theorem strV_sound {op : BinOp} {a b : ByteArray} {ob : Prop} {v : Value} {t : TypeId} (h : strV op (toL a) (toL b) = some (ob, v)) (hob : ob) :
    (binOp op t (.string a) (.string b)).run P w = .ok v w := by
  have he : (a.toList == b.toList) = decide (toL a = toL b) := by
    rw [ByteArray.toList_eq, ByteArray.toList_eq, Bool.eq_iff_iff]; simp [toL]
  have ha : a.toList = toL a := ByteArray.toList_eq a
  have hb : b.toList = toL b := ByteArray.toList_eq b
  cases op <;> simp only [strV] at h
  case add =>
    simp only [Option.some.injEq, Prod.mk.injEq] at h; obtain ⟨rfl, rfl⟩ := h
    simp only [binOp_string_add]
    rw [← size_toL, ← size_toL] at hob
    rw [run_string_add_sum w a b (by omega)]
    congr 2
  all_goals first | (cases h; done) | skip
  all_goals simp only [Option.some.injEq, Prod.mk.injEq] at h; obtain ⟨rfl, rfl⟩ := h
  case eql => simp only [binOp_string_eql, he]; rfl
  case neq => simp only [binOp_string_neq, he]; simp [Sem.run_pure]
  case lss => simp only [binOp_string_lss, ha, hb]; rfl
  case leq => simp only [binOp_string_leq, he]; simp only [ha, hb]; rfl
  case gtr => simp only [binOp_string_gtr, he]; simp only [ha, hb]; rfl
  case geq => simp only [binOp_string_geq, ha, hb]; rfl

theorem ty_of {t : TypeId} {p : TypeDesc → Bool} (h : isTy P t p = true) : ∃ d, P.underlying t = some d ∧ p d = true := by
  unfold isTy at h
  split at h
  · exact ⟨_, by assumption, h⟩
  · cases h

theorem run_beh {x y : Value} {t : TypeId} {b : Bool} (he : ∀ d, (Op.equalIn (d + 1) t x y).run P w = .ok b w)
    (h1 : binOp .eql t x y = (do pure (.bool (← Op.equal t x y)))) (h2 : binOp .neq t x y = (do pure (.bool (!(← Op.equal t x y))))) :
    (binOp .eql t x y).run P w = .ok (.bool b) w ∧ (binOp .neq t x y).run P w = .ok (.bool (!b)) w := by
  have he' : (Op.equal t x y).run P w = .ok b w := he 9999
  rw [h1, h2]
  simp only [Sem.run_bind, he', Result.andThen]
  exact ⟨rfl, rfl⟩

theorem eqV_sound {x y : Value} {ob : Prop} {v : Value} {t : TypeId} (h : eqV P t x y = some (ob, v)) :
    ∃ b, ob = True ∧ v = .bool b ∧ (binOp .eql t x y).run P w = .ok (.bool b) w ∧ (binOp .neq t x y).run P w = .ok (.bool (!b)) w ∧ ∀ op ox oy, eqGuard op t ox oy x y = pure () := by
  unfold eqV at h
  split at h <;> try (cases h; done)
  all_goals
    split at h <;> try (cases h; done)
    rename_i hty
    simp only [Option.some.injEq, Prod.mk.injEq] at h
    obtain ⟨rfl, rfl⟩ := h
    obtain ⟨d, hd, hp⟩ := ty_of hty
    cases d <;> simp at hp
    refine ⟨_, rfl, rfl, ?_⟩
    rw [← and_assoc]
    refine ⟨run_beh w ?_ rfl rfl, fun op ox oy => ?_⟩
    rotate_left
    · cases op <;> rfl
    intro dd
    rw [Op.equalIn]
    simp only [Sem.run_bind, run_underlying hd, Result.andThen]
  all_goals first
    | rfl
    | (rename_i p _; cases p <;> rfl)
    | (rename_i r _ _; cases r <;> rfl)
    | (rename_i r _ _ _; cases r <;> rfl)
    | skip
end
end Go.Ann
