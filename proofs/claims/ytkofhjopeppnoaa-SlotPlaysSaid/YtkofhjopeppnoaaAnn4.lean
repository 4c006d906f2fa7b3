/- An engine for walks. Part 4: that the plain operations do as is said, on. -/
import Derived.Test.YtkofhjopeppnoaaAnn3
import Derived.Laws.StructEq
namespace Go.Ann
set_option linter.unusedVariables false
set_option linter.unusedSimpArgs false
open Go
section
variable {P : Program} (w : World)

theorem run_isAgg0 {t : TypeId} {d : TypeDesc} (h : P.underlying t = some d) : (isAgg t).run P w = .ok (isAggT P t) w := by
  simp only [isAgg, Sem.run_bind, run_underlying h, Result.andThen, isAggT, isTy, h]
  cases d <;> rfl
theorem kindF_some {t : TypeId} {k : FK} (h : kindF P t = some k) : ∃ d, P.underlying t = some d ∧ isAggT P t = false ∧ (match k, d with | .int, .int _ => True | .bool, .bool => True | .str, .string => True | _, _ => False) := by
  unfold kindF at h
  split at h
  all_goals first | cases h; done | skip
  all_goals rename_i hu; simp only [Option.some.injEq] at h; subst h; exact ⟨_, hu, by simp [isAggT, isTy, hu], trivial⟩
theorem eqF_run (d : Nat) (xs ys : Array Value) : ∀ (fs : List Field) (ks : List FK) (i : Nat) (b : Bool), flatF P i fs = some ks → aggEq ks (xs.toList.drop i) (ys.toList.drop i) = some b → (Op.eqFields (d + 1) xs ys fs).run P w = .ok b w
  | [], ks, i, b, h1, h2 => by
    simp only [flatF, Option.some.injEq] at h1; subst h1
    simp only [aggEq, Option.some.injEq] at h2; subst h2
    rfl
  | f :: r, ks, i, b, h1, h2 => by
    simp only [flatF] at h1
    split at h1
    case isFalse => cases h1
    rename_i hf
    split at h1
    case h_2 => cases h1
    rename_i k ks' hk hks
    simp only [Option.some.injEq] at h1; subst h1
    have hx : ∀ (zs : Array Value), zs.toList.drop i = [] ∨ ∃ z, zs[i]? = some z ∧ zs.toList.drop i = z :: zs.toList.drop (i + 1) := by
      intro zs
      rcases Nat.lt_or_ge i zs.size with hi | hi
      · exact .inr ⟨zs[i], by simp [hi], by rw [List.drop_eq_getElem_cons (by simpa using hi)]; simp⟩
      · exact .inl (List.drop_of_length_le (by simpa using hi))
    rcases hx xs with e | ⟨x, hx1, hx2⟩
    · rw [e] at h2; simp [aggEq] at h2
    rcases hx ys with e | ⟨y, hy1, hy2⟩
    · rw [e, hx2] at h2; simp [aggEq] at h2
    rw [hx2, hy2] at h2
    simp only [aggEq] at h2
    obtain ⟨dd, hd, hag, hm⟩ := kindF_some hk
    have hp : ∀ (zs : Array Value) (z : Value), zs[i]? = some z → (part f.type zs f.offset).run P w = .ok z w := by
      intro zs z hz
      rw [hf.1]
      simp only [part, Sem.run_bind, run_isAgg0 w hd, Result.andThen, hag, Bool.false_eq_true, if_false, hz, Sem.run_pure]
    cases hv : vEq k x y with
    | none => rw [hv] at h2; simp [andO] at h2
    | some c =>
      rw [hv] at h2
      cases hr : aggEq ks' (xs.toList.drop (i + 1)) (ys.toList.drop (i + 1)) with
      | none => rw [hr] at h2; simp [andO] at h2
      | some c' =>
        rw [hr] at h2
        simp only [andO, Option.some.injEq] at h2; subst h2
        have he : (Op.equalIn (d + 1) f.type x y).run P w = .ok c w := by
          unfold vEq at hv
          split at hv
          · split at hv
            · rename_i ek; subst ek
              simp only [Option.some.injEq] at hv; subst hv
              cases dd <;> simp at hm
              rw [run_equalIn_int w d f.type _ _ _ _ hd]
              congr 1
            · cases hv
          · simp only [Option.some.injEq] at hv; subst hv
            cases dd <;> simp at hm
            exact run_equalIn_bool' w d f.type _ _ hd
          · simp only [Option.some.injEq] at hv; subst hv
            cases dd <;> simp at hm
            rw [run_equalIn_string w d f.type _ _ hd]
            congr 1
            rw [ByteArray.toList_eq, ByteArray.toList_eq, Bool.eq_iff_iff]; simp [toL]
          · cases hv
        rw [Op.eqFields, if_pos hf.2]
        simp only [Sem.run_bind, hp xs x hx1, hp ys y hy1, Result.andThen_ok, he]
        cases c
        · simp [Sem.run_pure]
        · simp only [Bool.not_true, Bool.false_eq_true, if_false, Bool.true_and]
          exact eqF_run d xs ys r ks' (i + 1) c' hks hr
theorem agV_sound {op : BinOp} {xs ys : Array Value} {ob : Prop} {v : Value} {t : TypeId} (h : agV P op (flatT P t) xs.toList ys.toList = some (ob, v)) (ox oy : Operand) :
    (do eqGuard op t ox oy (.agg xs) (.agg ys); binOp op t (.agg xs) (.agg ys) : Sem Value).run P w = .ok v w := by
  unfold agV at h
  have key : ∀ ks b, flatT P t = some ks → aggEq ks xs.toList ys.toList = some b → (Op.equalIn 10000 t (.agg xs) (.agg ys)).run P w = .ok b w ∧ P.eqGuardType P.depth t = false := by
    intro ks b hk ha
    unfold flatT at hk
    split at hk
    case isFalse => cases hk
    rename_i hg
    split at hk
    · rename_i fs hu
      have hfo : P.fieldsOf t = fs := by simp [Program.fieldsOf, hu]
      refine ⟨?_, hg.2⟩
      rw [run_equalIn_struct w 9999 t xs ys (by rw [hfo]; exact hu) hg.1, hfo]
      exact eqF_run w 9998 xs ys fs.toList ks 0 b hk (by simpa using ha)
    · cases hk
  split at h
  · rename_i ks hk
    unfold agPV at h
    split at h
    · rename_i b hb
      simp only [Option.some.injEq, Prod.mk.injEq] at h; obtain ⟨rfl, rfl⟩ := h
      obtain ⟨h1, h2⟩ := key ks b hk hb
      simp only [Sem.run_bind, run_eqGuard_agg w _ t ox oy xs ys h2, Result.andThen_ok]
      rw [run_eql_struct, h1]; rfl
    · cases h
  · rename_i ks hk
    unfold agPV at h
    split at h
    · rename_i b hb
      simp only [Option.some.injEq, Prod.mk.injEq] at h; obtain ⟨rfl, rfl⟩ := h
      obtain ⟨h1, h2⟩ := key ks b hk hb
      simp only [Sem.run_bind, run_eqGuard_agg w _ t ox oy xs ys h2, Result.andThen_ok]
      rw [run_neq_struct, h1]; rfl
    · cases h
  · cases h
theorem binV_sound {op : BinOp} {x y : Value} {ob : Prop} {v : Value} {t : TypeId} (h : binV P op t x y = some (ob, v)) (hob : ob) (ox oy : Operand) :
    (do eqGuard op t ox oy x y; binOp op t x y : Sem Value).run P w = .ok v w := by
  have key : eqGuard op t ox oy x y = pure () → (binOp op t x y).run P w = .ok v w → (do eqGuard op t ox oy x y; binOp op t x y : Sem Value).run P w = .ok v w := by
    intro h1 h2
    rw [h1]; simpa using h2
  unfold binV at h
  split at h
  · refine key (eqGuard_at_int ..) ?_
    split at h
    · simp only [Option.some.injEq, Prod.mk.injEq] at h; obtain ⟨rfl, rfl⟩ := h
      rw [binOp_shl, shift_shl_any _ _ _ _ hob]; rfl
    · simp only [Option.some.injEq, Prod.mk.injEq] at h; obtain ⟨rfl, rfl⟩ := h
      rw [binOp_shr, shift_shr_any _ _ _ _ hob]; rfl
    · split at h
      · rename_i hk; subst hk; exact intV_sound w h hob
      · cases h
  · exact key (eqGuard_at_string ..) (strV_sound w h hob)
  · exact agV_sound w h ox oy
  · split at h
    · obtain ⟨b, rfl, rfl, h1, h2, h3⟩ := eqV_sound w h
      exact key (h3 _ _ _) h1
    · cases he : eqV P t x y with
      | none => rw [he] at h; cases h
      | some p =>
        obtain ⟨ob', v'⟩ := p
        obtain ⟨b, rfl, rfl, h1, h2, h3⟩ := eqV_sound w he
        rw [he] at h
        simp only [notV, Option.some.injEq, Prod.mk.injEq] at h
        obtain ⟨rfl, rfl⟩ := h
        exact key (h3 _ _ _) h2
    · cases h

theorem unV_sound {op : UnOp} {x : Value} {ob : Prop} {v : Value} (h : unV op x = some (ob, v)) (hob : ob) : (Op.unary op x).run P w = .ok v w := by
  unfold unV at h
  split at h
  · split at h <;> simp only [Option.some.injEq, Prod.mk.injEq] at h <;> obtain ⟨rfl, rfl⟩ := h
    · subst_vars; simp only [Op.unary, Op.intArith]; rw [wrap_i64 _ hob]; rfl
    · rfl
  · simp only [Option.some.injEq, Prod.mk.injEq] at h; obtain ⟨rfl, rfl⟩ := h
    simp only [Op.unary, intBits_xor]; rfl
  · simp only [Option.some.injEq, Prod.mk.injEq] at h; obtain ⟨rfl, rfl⟩ := h; rfl
  · cases h

theorem run_sizeOf {t : TypeId} {i : TypeInfo} (h : P.info? t = some i) : (Go.sizeOf t).run P w = .ok i.size w := by
  simp [Go.sizeOf, typeInfo, h]
theorem run_isAgg {t : TypeId} {d : TypeDesc} (h : P.underlying t = some d) : (isAgg t).run P w = .ok (isAggT P t) w := by
  simp only [isAgg, Sem.run_bind, run_underlying h, Result.andThen, isAggT, isTy, h]
  cases d <;> rfl
theorem run_part {t : TypeId} {d : TypeDesc} {i : TypeInfo} (h : P.underlying t = some d) (hi : P.info? t = some i) {cs : Array Value} {off : Nat} {v : Value}
    (hv : partV off i.size (isAggT P t) cs = some v) : (part t cs off).run P w = .ok v w := by
  simp only [part, Sem.run_bind, run_isAgg w h, Result.andThen]
  unfold partV at hv
  split at hv
  · rename_i ha
    simp only [Option.some.injEq] at hv; subst hv
    simp only [ha, if_true, Sem.run_bind, run_sizeOf w hi, Result.andThen]; rfl
  · rename_i ha
    simp only [ha, Bool.false_eq_true, if_false, hv]; rfl

theorem toPV_some {o : Option Value} {ob : Prop} {v : Value} (h : toPV o = some (ob, v)) : ob = True ∧ o = some v := by
  cases o with
  | none => cases h
  | some u => simp only [toPV, Option.some.injEq, Prod.mk.injEq] at h; exact ⟨h.1.symm, by rw [h.2]⟩

theorem fldI_some {t : TypeId} {f off size : Nat} {agg : Bool} (h : fldI P t f = some (off, size, agg)) :
    ∃ fields fd i d, P.underlying t = some (.struct fields) ∧ fields[f]? = some fd ∧ P.info? fd.type = some i ∧ P.underlying fd.type = some d ∧ off = fd.offset ∧ size = i.size ∧ agg = isAggT P fd.type := by
  unfold fldI at h
  split at h
  · rename_i fields hu
    split at h
    · rename_i fd hf
      split at h
      · rename_i i d hi hd
        simp only [Option.some.injEq, Prod.mk.injEq] at h
        exact ⟨fields, fd, i, d, hu, hf, hi, hd, h.1.symm, h.2.1.symm, h.2.2.symm⟩
      · cases h
    · cases h
  · cases h

theorem fieldV_sound {t : TypeId} {f : Nat} {x : Value} {ob : Prop} {v : Value} (h : fieldV P t f x = some (ob, v)) : (Instr.field t x f).run P w = .ok v w := by
  unfold fieldV at h
  split at h
  · rename_i cs off size agg hf
    obtain ⟨rfl, hv⟩ := toPV_some h
    obtain ⟨fields, fd, i, d, hu, hfd, hi, hd, rfl, rfl, rfl⟩ := fldI_some hf
    simp only [Instr.field, Sem.run_bind, run_underlying hu, Result.andThen, hfd, asAgg, Sem.run_pure, run_part w hd hi hv]
  · cases h

theorem fieldAddrV_sound {t : TypeId} {f : Nat} {x : Value} {ob : Prop} {v : Value} (h : fieldAddrV P t f x = some (ob, v)) : (Instr.fieldAt t x f).run P w = .ok v w := by
  unfold fieldAddrV at h
  split at h
  · rename_i a off size agg hf
    simp only [Option.some.injEq, Prod.mk.injEq] at h; obtain ⟨rfl, rfl⟩ := h
    obtain ⟨fields, fd, i, d, hu, hfd, hi, hd, rfl, hs, rfl⟩ := fldI_some hf
    have : i.size ≠ 0 := by omega
    simp only [Instr.fieldAt, Sem.run_bind, run_underlying hu, Result.andThen, hfd, Instr.sureAddr, Sem.run_pure, fieldPlace, run_sizeOf w hi, this, if_false]
  · cases h

theorem arrI_some {t : TypeId} {n size : Nat} {agg : Bool} (h : arrI P t = some (n, size, agg)) :
    ∃ e i d, P.underlying t = some (.array n e) ∧ P.info? e = some i ∧ P.underlying e = some d ∧ size = i.size ∧ agg = isAggT P e := by
  unfold arrI at h
  split at h
  · rename_i n' e hu
    split at h
    · rename_i i d hi hd
      simp only [Option.some.injEq, Prod.mk.injEq] at h
      exact ⟨e, i, d, by rw [hu, h.1], hi, hd, h.2.1.symm, h.2.2.symm⟩
    · cases h
  · cases h
theorem sliI_some {t : TypeId} {size : Nat} (h : sliI P t = some size) : ∃ e i, P.underlying t = some (.slice e) ∧ P.info? e = some i ∧ size = i.size := by
  unfold sliI at h
  split at h
  · rename_i e hu
    split at h
    · rename_i i hi
      simp only [Option.some.injEq] at h
      exact ⟨e, i, hu, hi, h.symm⟩
    · cases h
  · cases h
theorem isStrT_some {t : TypeId} (h : isStrT P t = true) : P.underlying t = some .string := by
  obtain ⟨d, hd, hp⟩ := ty_of h
  cases d <;> simp at hp
  exact hd
theorem isSliceT_some {t : TypeId} (h : isSliceT P t = true) : ∃ e, P.underlying t = some (.slice e) := by
  obtain ⟨d, hd, hp⟩ := ty_of h
  cases d <;> simp at hp
  exact ⟨_, hd⟩

theorem indexV_sound {t : TypeId} {x i : Value} {ob : Prop} {v : Value} (h : indexV P t x i = some (ob, v)) (hob : ob) : (Instr.index t x i).run P w = .ok v w := by
  unfold indexV at h
  split at h
  · rename_i s k j
    split at h
    · rename_i hs
      simp only [Option.some.injEq, Prod.mk.injEq] at h; obtain ⟨rfl, rfl⟩ := h
      rw [← size_toL] at hob
      rw [run_index_string w t s k j (isStrT_some hs), dif_pos hob]
      congr 2
      have hlt : j.toNat < s.size := by omega
      have : (toL s).getD j.toNat 0 = s[j.toNat] := by
        rw [List.getD_eq_getElem?_getD]
        show (s.data.toList)[j.toNat]?.getD 0 = _
        rw [Array.getElem?_toList, Array.getElem?_eq_getElem (by simpa using hlt)]; rfl
      unfold bN; rw [this]
    · cases h
  · rename_i cs k j
    split at h
    · rename_i n size agg ha
      split at h
      · rename_i hj
        obtain ⟨rfl, hv⟩ := toPV_some h
        obtain ⟨e, i, d, hu, hi, hd, rfl, rfl⟩ := arrI_some ha
        have : (0 : Int) ≤ Int.ofNat j ∧ Int.ofNat j < n := ⟨Int.natCast_nonneg _, by simpa using hj⟩
        simp only [Instr.index, asIntOf, Sem.run_bind, Sem.run_pure, Result.andThen, run_underlying hu, this, and_self, if_true, run_sizeOf w hi]
        exact run_part w hd hi hv
      · cases h
    · cases h
  · cases h

theorem indexAddrV_sound {t : TypeId} {x i : Value} {ob : Prop} {v : Value} (h : indexAddrV P t x i = some (ob, v)) (hob : ob) : (Instr.indexAt t x i).run P w = .ok v w := by
  unfold indexAddrV at h
  split at h
  · split at h
    · rename_i size hs
      simp only [Option.some.injEq, Prod.mk.injEq] at h; obtain ⟨rfl, rfl⟩ := h
      obtain ⟨e, i, hu, hi, rfl⟩ := sliI_some hs
      have he : P.elem t = e := by simp [Program.elem, hu]
      rw [run_indexAt_slice w _ _ _ _ _ _ (by rw [he]; exact hu), if_pos hob, he, run_sizeOf w hi]; rfl
    · cases h
  · split at h
    · rename_i n size agg hs
      simp only [Option.some.injEq, Prod.mk.injEq] at h; obtain ⟨rfl, rfl⟩ := h
      obtain ⟨e, i, d, hu, hi, hd, rfl, rfl⟩ := arrI_some hs
      simp only [Instr.indexAt, asIntOf, Sem.run_bind, Sem.run_pure, Result.andThen, run_underlying hu, Instr.sureAddr, hob, and_self, if_true, run_sizeOf w hi]
    · cases h
  · cases h
end
end Go.Ann
