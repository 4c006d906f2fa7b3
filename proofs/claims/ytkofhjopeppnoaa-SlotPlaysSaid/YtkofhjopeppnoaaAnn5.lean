/- An engine for walks. Part 5: slices of things, built-ins, conversions; what any operation asks. -/
import Derived.Test.YtkofhjopeppnoaaAnn4
namespace Go.Ann
set_option linter.unusedVariables false
set_option linter.unusedSimpArgs false
open Go
section
variable {P : Program} (w : World)

theorem run_bound {k : IntKind} {i : Int} {y : Nat} {code : BoundsCode} (h0 : 0 ≤ i) (h1 : i ≤ y) : (Instr.sliceBound (.int k i) y code).run P w = .ok i.toNat w := by
  simp only [Instr.sliceBound, asIntOf, Sem.run_bind, Sem.run_pure, Result.andThen, h0, h1, and_self, if_true]

theorem sliceStrV_sound {t : TypeId} {s : ByteArray} {lo hi : Option Value} {ob : Prop} {v : Value} (hu : P.underlying t = some .string) (h : sliceStrV (toL s) lo hi = some (ob, v)) (hob : ob) :
    (Instr.slice t (.string s) lo hi none).run P w = .ok v w := by
  have hx : ∀ a b : Nat, toL (s.extract a b) = ((toL s).take b).drop a := by
    intro a b
    simp [toL, ByteArray.data_extract, List.extract_eq_take_drop, List.drop_take]
  unfold sliceStrV at h
  split at h <;> simp only [Option.some.injEq, Prod.mk.injEq, reduceCtorEq] at h
  all_goals obtain ⟨rfl, rfl⟩ := h
  · simp only [Instr.slice, Sem.run_bind, run_underlying hu, Result.andThen, Instr.sliceBounds, Sem.run_pure, Option.isSome, Bool.false_eq_true, if_false]
    refine congrArg (fun x => Result.ok (Value.string x) w) (toL_inj ?_)
    rw [hx, toL_ofL, size_toL]; simp
  · rename_i k i
    rw [← size_toL] at hob
    simp only [Instr.slice, Sem.run_bind, run_underlying hu, Result.andThen, Instr.sliceBounds, Sem.run_pure, Option.isSome, Bool.false_eq_true, if_false, run_bound w hob.1 hob.2]
    refine congrArg (fun x => Result.ok (Value.string x) w) (toL_inj ?_)
    rw [hx, toL_ofL, size_toL]; simp
  · rename_i k j
    rw [← size_toL] at hob
    simp only [Instr.slice, Sem.run_bind, run_underlying hu, Result.andThen, Instr.sliceBounds, Sem.run_pure, Option.isSome, Bool.false_eq_true, if_false, run_bound w hob.1 hob.2]
    refine congrArg (fun x => Result.ok (Value.string x) w) (toL_inj ?_)
    rw [hx, toL_ofL]; simp
  · rename_i k i k' j
    rw [← size_toL] at hob
    have h1 : i ≤ (j.toNat : Int) := by omega
    simp only [Instr.slice, Sem.run_bind, run_underlying hu, Result.andThen, Instr.sliceBounds, Sem.run_pure, Option.isSome, Bool.false_eq_true, if_false, run_bound w (show 0 ≤ j by omega) hob.2.2, run_bound w hob.1 h1]
    refine congrArg (fun x => Result.ok (Value.string x) w) (toL_inj ?_)
    rw [hx, toL_ofL]; rfl

theorem sliceSlV_sound {t : TypeId} {e : TypeId} {i : TypeInfo} {a : Option Addr} {n c : Nat} {lo hi : Option Value} {ob : Prop} {v : Value} (hu : P.underlying t = some (.slice e)) (hi' : P.info? e = some i) (h : sliceSlV i.size a n c lo hi = some (ob, v)) (hob : ob) :
    (Instr.slice t (.slice a n c) lo hi none).run P w = .ok v w := by
  unfold sliceSlV at h
  split at h <;> simp only [Option.some.injEq, Prod.mk.injEq, reduceCtorEq] at h
  all_goals obtain ⟨rfl, rfl⟩ := h
  · simp only [Instr.slice, Sem.run_bind, run_underlying hu, Result.andThen, Instr.sliceBounds, Sem.run_pure, Option.isSome, Bool.false_eq_true, if_false, run_sizeOf w hi', Nat.sub_zero]; rfl
  · simp only [Instr.slice, Sem.run_bind, run_underlying hu, Result.andThen, Instr.sliceBounds, Sem.run_pure, Option.isSome, Bool.false_eq_true, if_false, run_sizeOf w hi', run_bound w hob.1 hob.2]; rfl
  · simp only [Instr.slice, Sem.run_bind, run_underlying hu, Result.andThen, Instr.sliceBounds, Sem.run_pure, Option.isSome, Bool.false_eq_true, if_false, run_sizeOf w hi', run_bound w hob.1 hob.2, Nat.sub_zero]; rfl
  · rename_i k i' k' j
    have h1 : i' ≤ (j.toNat : Int) := by omega
    simp only [Instr.slice, Sem.run_bind, run_underlying hu, Result.andThen, Instr.sliceBounds, Sem.run_pure, Option.isSome, Bool.false_eq_true, if_false, run_sizeOf w hi', run_bound w (show 0 ≤ j by omega) hob.2.2, run_bound w hob.1 h1]; rfl

theorem sliceV_sound {t : TypeId} {x : Value} {lo hi : Option Value} {ob : Prop} {v : Value} (h : sliceV P t (some x) (some lo) (some hi) = some (ob, v)) (hob : ob) : (Instr.sliceAt t x lo hi none).run P w = .ok v w := by
  unfold sliceV at h
  split at h
  · rename_i h1 h2 h3
    simp only [Option.some.injEq] at h1 h2 h3; subst h1 h2 h3
    split at h
    · rename_i hs
      rw [run_sliceAt_string w _ _ _ _ _ (isStrT_some hs)]
      exact sliceStrV_sound w (isStrT_some hs) h hob
    · cases h
  · rename_i h1 h2 h3
    simp only [Option.some.injEq] at h1 h2 h3; subst h1 h2 h3
    split at h
    · rename_i size hs
      obtain ⟨e, i, hu, hi, rfl⟩ := sliI_some hs
      rw [run_sliceAt_slice w _ _ _ _ _ (by simp [Program.elem, hu])]
      exact sliceSlV_sound w hu hi h hob
    · cases h
  · cases h

theorem extractV_sound {k : Nat} {x : Value} {ob : Prop} {v : Value} (h : extractV k x = some (ob, v)) : (Instr.extract x k).run P w = .ok v w := by
  unfold extractV at h
  split at h
  · obtain ⟨rfl, hv⟩ := toPV_some h
    simp only [Instr.extract, hv]; rfl
  · cases h

theorem ifaceV_sound {t : TypeId} {x : Value} {ob : Prop} {v : Value} (h : ifaceV P t x = some (ob, v)) : (Instr.makeInterface t x).run P w = .ok v w := by
  unfold ifaceV at h
  split at h
  · rename_i hc
    simp only [Option.some.injEq, Prod.mk.injEq] at h; obtain ⟨rfl, rfl⟩ := h
    exact run_makeInterface w t x hc
  · cases h

theorem max_int (x y : Int) : (if y > x then y else x) = max x y := by split <;> omega
theorem min_int (x y : Int) : (if y < x then y else x) = min x y := by split <;> omega

theorem biV_sound {b : Builtin} {ats : List TypeId} {ty : TypeId} {cs : Array Bool} {xs : List Value} {ob : Prop} {v : Value} (h : biV P b ats xs = some (ob, v)) (_hob : ob) :
    (builtin b ats.toArray ty cs xs.toArray).run P w = .ok (.value v) w := by
  unfold biV at h
  split at h
  · split at h
    · split at h
      · rename_i hs
        simp only [Option.some.injEq, Prod.mk.injEq] at h; obtain ⟨rfl, rfl⟩ := h
        rw [← size_toL]
        simp only [builtin, Sem.run_bind, run_len_string w _ _ _ (isStrT_some hs), Result.andThen]; rfl
      · cases h
    · cases h
  · split at h
    · split at h
      · rename_i hs
        simp only [Option.some.injEq, Prod.mk.injEq] at h; obtain ⟨rfl, rfl⟩ := h
        obtain ⟨e, he⟩ := isSliceT_some hs
        rename_i t
        have he' : P.underlying t = some (.slice (P.elem t)) := by simp [Program.elem, he]
        simp only [builtin, Sem.run_bind, run_len_slice w _ _ _ _ _ he', Result.andThen]; rfl
      · cases h
    · cases h
  · simp only [Option.some.injEq, Prod.mk.injEq] at h; obtain ⟨rfl, rfl⟩ := h
    simp only [builtin, Sem.run_bind, run_min_int2, Result.andThen, min_int]; rfl
  · simp only [Option.some.injEq, Prod.mk.injEq] at h; obtain ⟨rfl, rfl⟩ := h
    simp only [builtin, Sem.run_bind, run_max_int2, Result.andThen, max_int]; rfl
  · simp only [Option.some.injEq, Prod.mk.injEq] at h; obtain ⟨rfl, rfl⟩ := h
    simp only [builtin, Sem.run_bind, run_min_int3, Result.andThen, min_int]; rfl
  · simp only [Option.some.injEq, Prod.mk.injEq] at h; obtain ⟨rfl, rfl⟩ := h
    simp only [builtin, Sem.run_bind, run_max_int3, Result.andThen, max_int]; rfl
  · cases h
end
end Go.Ann
