/- An engine for walks. Part 4: that the plain operations do as is said, on. -/
import Derived.Test.YtlaflmkgfafhpaaAnn3
namespace Go.Ann
open Go
section
variable {P : Program} (w : World)

theorem binV_sound {op : BinOp} {x y : Value} {ob : Prop} {v : Value} {t : TypeId} (h : binV P op t x y = some (ob, v)) (hob : ob) (ox oy : Operand) :
    (do eqGuard op t ox oy x y; binOp op t x y : Sem Value).run P w = .ok v w := by
  have key : eqGuard op t ox oy x y = pure () → (binOp op t x y).run P w = .ok v w → (do eqGuard op t ox oy x y; binOp op t x y : Sem Value).run P w = .ok v w := by
    intro h1 h2
    rw [h1]; simpa using h2
  unfold binV at h
  split at h
  · refine key (eqGuard_at_int ..) ?_
    split at h
    · simp only [Option.some.injEq, Prod.mk.injEq] at h; obtain ⟨rfl, rfl⟩ := h
      rw [binOp_shl, shift_shl_any _ _ _ _ hob]; rfl
    · simp only [Option.some.injEq, Prod.mk.injEq] at h; obtain ⟨rfl, rfl⟩ := h
      rw [binOp_shr, shift_shr_any _ _ _ _ hob]; rfl
    · split at h
      · rename_i hk; subst hk; exact intV_sound w h hob
      · cases h
  · exact key (eqGuard_at_string ..) (strV_sound w h hob)
  · split at h
    · obtain ⟨b, rfl, rfl, h1, h2, h3⟩ := eqV_sound w h
      exact key (h3 _ _ _) h1
    · cases he : eqV P t x y with
      | none => rw [he] at h; cases h
      | some p =>
        obtain ⟨ob', v'⟩ := p
        obtain ⟨b, rfl, rfl, h1, h2, h3⟩ := eqV_sound w he
        rw [he] at h
        simp only [notV, Option.some.injEq, Prod.mk.injEq] at h
        obtain ⟨rfl, rfl⟩ := h
        exact key (h3 _ _ _) h2
    · cases h

theorem unV_sound {op : UnOp} {x : Value} {ob : Prop} {v : Value} (h : unV op x = some (ob, v)) (hob : ob) : (Op.unary op x).run P w = .ok v w := by
  unfold unV at h
  split at h
  · split at h <;> simp only [Option.some.injEq, Prod.mk.injEq] at h <;> obtain ⟨rfl, rfl⟩ := h
    · subst_vars; simp only [Op.unary, Op.intArith]; rw [wrap_i64 _ hob]; rfl
    · rfl
  · simp only [Option.some.injEq, Prod.mk.injEq] at h; obtain ⟨rfl, rfl⟩ := h
    simp only [Op.unary, intBits_xor]; rfl
  · simp only [Option.some.injEq, Prod.mk.injEq] at h; obtain ⟨rfl, rfl⟩ := h; rfl
  · cases h

theorem run_sizeOf {t : TypeId} {i : TypeInfo} (h : P.info? t = some i) : (Go.sizeOf t).run P w = .ok i.size w := by
  simp [Go.sizeOf, typeInfo, h]
theorem run_isAgg {t : TypeId} {d : TypeDesc} (h : P.underlying t = some d) : (isAgg t).run P w = .ok (isAggT P t) w := by
  simp only [isAgg, Sem.run_bind, run_underlying h, Result.andThen, isAggT, isTy, h]
  cases d <;> rfl
theorem run_part {t : TypeId} {d : TypeDesc} {i : TypeInfo} (h : P.underlying t = some d) (hi : P.info? t = some i) {cs : Array Value} {off : Nat} {v : Value}
    (hv : partV off i.size (isAggT P t) cs = some v) : (part t cs off).run P w = .ok v w := by
  simp only [part, Sem.run_bind, run_isAgg w h, Result.andThen]
  unfold partV at hv
  split at hv
  · rename_i ha
    simp only [Option.some.injEq] at hv; subst hv
    simp only [ha, if_true, Sem.run_bind, run_sizeOf w hi, Result.andThen]; rfl
  · rename_i ha
    simp only [ha, Bool.false_eq_true, if_false, hv]; rfl

theorem toPV_some {o : Option Value} {ob : Prop} {v : Value} (h : toPV o = some (ob, v)) : ob = True ∧ o = some v := by
  cases o with
  | none => cases h
  | some u => simp only [toPV, Option.some.injEq, Prod.mk.injEq] at h; exact ⟨h.1.symm, by rw [h.2]⟩

theorem fldI_some {t : TypeId} {f off size : Nat} {agg : Bool} (h : fldI P t f = some (off, size, agg)) :
    ∃ fields fd i d, P.underlying t = some (.struct fields) ∧ fields[f]? = some fd ∧ P.info? fd.type = some i ∧ P.underlying fd.type = some d ∧ off = fd.offset ∧ size = i.size ∧ agg = isAggT P fd.type := by
  unfold fldI at h
  split at h
  · rename_i fields hu
    split at h
    · rename_i fd hf
      split at h
      · rename_i i d hi hd
        simp only [Option.some.injEq, Prod.mk.injEq] at h
        exact ⟨fields, fd, i, d, hu, hf, hi, hd, h.1.symm, h.2.1.symm, h.2.2.symm⟩
      · cases h
    · cases h
  · cases h

theorem fieldV_sound {t : TypeId} {f : Nat} {x : Value} {ob : Prop} {v : Value} (h : fieldV P t f x = some (ob, v)) : (Instr.field t x f).run P w = .ok v w := by
  unfold fieldV at h
  split at h
  · rename_i cs off size agg hf
    obtain ⟨rfl, hv⟩ := toPV_some h
    obtain ⟨fields, fd, i, d, hu, hfd, hi, hd, rfl, rfl, rfl⟩ := fldI_some hf
    simp only [Instr.field, Sem.run_bind, run_underlying hu, Result.andThen, hfd, asAgg, Sem.run_pure, run_part w hd hi hv]
  · cases h

theorem fieldAddrV_sound {t : TypeId} {f : Nat} {x : Value} {ob : Prop} {v : Value} (h : fieldAddrV P t f x = some (ob, v)) : (Instr.fieldAt t x f).run P w = .ok v w := by
  unfold fieldAddrV at h
  split at h
  · rename_i a off size agg hf
    simp only [Option.some.injEq, Prod.mk.injEq] at h; obtain ⟨rfl, rfl⟩ := h
    obtain ⟨fields, fd, i, d, hu, hfd, hi, hd, rfl, hs, rfl⟩ := fldI_some hf
    have : i.size ≠ 0 := by omega
    simp only [Instr.fieldAt, Sem.run_bind, run_underlying hu, Result.andThen, hfd, Instr.sureAddr, Sem.run_pure, fieldPlace, run_sizeOf w hi, this, if_false]
  · cases h

theorem arrI_some {t : TypeId} {n size : Nat} {agg : Bool} (h : arrI P t = some (n, size, agg)) :
    ∃ e i d, P.underlying t = some (.array n e) ∧ P.info? e = some i ∧ P.underlying e = some d ∧ size = i.size ∧ agg = isAggT P e := by
  unfold arrI at h
  split at h
  · rename_i n' e hu
    split at h
    · rename_i i d hi hd
      simp only [Option.some.injEq, Prod.mk.injEq] at h
      exact ⟨e, i, d, by rw [hu, h.1], hi, hd, h.2.1.symm, h.2.2.symm⟩
    · cases h
  · cases h
theorem sliI_some {t : TypeId} {size : Nat} (h : sliI P t = some size) : ∃ e i, P.underlying t = some (.slice e) ∧ P.info? e = some i ∧ size = i.size := by
  unfold sliI at h
  split at h
  · rename_i e hu
    split at h
    · rename_i i hi
      simp only [Option.some.injEq] at h
      exact ⟨e, i, hu, hi, h.symm⟩
    · cases h
  · cases h
theorem isStrT_some {t : TypeId} (h : isStrT P t = true) : P.underlying t = some .string := by
  obtain ⟨d, hd, hp⟩ := ty_of h
  cases d <;> simp at hp
  exact hd
theorem isSliceT_some {t : TypeId} (h : isSliceT P t = true) : ∃ e, P.underlying t = some (.slice e) := by
  obtain ⟨d, hd, hp⟩ := ty_of h
  cases d <;> simp at hp
  exact ⟨_, hd⟩

theorem indexV_sound {t : TypeId} {x i : Value} {ob : Prop} {v : Value} (h : indexV P t x i = some (ob, v)) (hob : ob) : (Instr.index t x i).run P w = .ok v w := by
  unfold indexV at h
  split at h
  · rename_i s k j
    split at h
    · rename_i hs
      simp only [Option.some.injEq, Prod.mk.injEq] at h; obtain ⟨rfl, rfl⟩ := h
      rw [← size_toL] at hob
      rw [run_index_string w t s k j (isStrT_some hs), dif_pos hob]
      congr 2
      have hlt : j.toNat < s.size := by omega
      have : (toL s).getD j.toNat 0 = s[j.toNat] := by
        rw [List.getD_eq_getElem?_getD]
        show (s.data.toList)[j.toNat]?.getD 0 = _
        rw [Array.getElem?_toList, Array.getElem?_eq_getElem (by simpa using hlt)]; rfl
      unfold bN; rw [this]
    · cases h
  · rename_i cs k j
    split at h
    · rename_i n size agg ha
      split at h
      · rename_i hj
        obtain ⟨rfl, hv⟩ := toPV_some h
        obtain ⟨e, i, d, hu, hi, hd, rfl, rfl⟩ := arrI_some ha
        have : (0 : Int) ≤ Int.ofNat j ∧ Int.ofNat j < n := ⟨Int.natCast_nonneg _, by simpa using hj⟩
        simp only [Instr.index, asIntOf, Sem.run_bind, Sem.run_pure, Result.andThen, run_underlying hu, this, and_self, if_true, run_sizeOf w hi]
        exact run_part w hd hi hv
      · cases h
    · cases h
  · cases h

theorem indexAddrV_sound {t : TypeId} {x i : Value} {ob : Prop} {v : Value} (h : indexAddrV P t x i = some (ob, v)) (hob : ob) : (Instr.indexAt t x i).run P w = .ok v w := by
  unfold indexAddrV at h
  split at h
  · split at h
    · rename_i size hs
      simp only [Option.some.injEq, Prod.mk.injEq] at h; obtain ⟨rfl, rfl⟩ := h
      obtain ⟨e, i, hu, hi, rfl⟩ := sliI_some hs
      have he : P.elem t = e := by simp [Program.elem, hu]
      rw [run_indexAt_slice w _ _ _ _ _ _ (by rw [he]; exact hu), if_pos hob, he, run_sizeOf w hi]; rfl
    · cases h
  · split at h
    · rename_i n size agg hs
      simp only [Option.some.injEq, Prod.mk.injEq] at h; obtain ⟨rfl, rfl⟩ := h
      obtain ⟨e, i, d, hu, hi, hd, rfl, rfl⟩ := arrI_some hs
      simp only [Instr.indexAt, asIntOf, Sem.run_bind, Sem.run_pure, Result.andThen, run_underlying hu, Instr.sureAddr, hob, and_self, if_true, run_sizeOf w hi]
    · cases h
  · cases h
end
end Go.Ann
