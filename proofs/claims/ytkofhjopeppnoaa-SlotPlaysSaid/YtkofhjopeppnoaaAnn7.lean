/- An engine for walks. Part 7: that what is to be shown of an operation suffices. -/
import Derived.Test.YtkofhjopeppnoaaAnn6
namespace Go.Ann
set_option linter.unusedVariables false
set_option linter.unusedSimpArgs false
open Go
section
variable {P : Program} {w : World} {K : Value → World → Prop}

def Done (P : Program) (s : Sem Next) (w : World) (K : Value → World → Prop) : Prop :=
  (∃ v w', s.run P w = .ok (.value v) w' ∧ K v w') ∨ (∃ w', s.run P w = .ok .skip w' ∧ K undef w') ∨
  (∃ f args w', s.run P w = .ok (.enter f args) w' ∧ Calls P f args w' (fun e w'' => ∃ v, e = .returned v ∧ K v w''))

/-- .. or a round of a range over a function. -/
def DoneY (P : Program) (s : Sem Next) (w : World) (K : Value → World → Prop) : Prop :=
  Done P s w K ∨ ∃ l f tmps assign body w', s.run P w = .ok (.round l f tmps assign body) w' ∧ RoundIn Fence.wide 0 P l f tmps assign body w' fun e w'' => ∃ v, e = .returned v ∧ K v w''
theorem Done.val {s : Sem Value} {v : Value} {w' : World} (h : s.run P w = .ok v w') (hk : K v w') : Done P (do pure (.value (← s))) w K := by
  refine .inl ⟨v, w', ?_, hk⟩
  simp only [Sem.run_bind, h, Result.andThen]; rfl
theorem Done.now {v : Value} (hk : K v w) : Done P (pure (.value v)) w K := .inl ⟨v, w, rfl, hk⟩

theorem pvW_out {pv : PV} (h : pvW pv w K) : ∃ ob v, pv = some (ob, v) ∧ ob ∧ K v w := by
  unfold pvW at h
  split at h
  · exact ⟨_, _, rfl, h.1, h.2⟩
  · exact h.elim
theorem un1_out {f : Value → PV} {o : Option Value} {ob : Prop} {v : Value} (h : un1 f o = some (ob, v)) : ∃ x, o = some x ∧ f x = some (ob, v) := by
  cases o with
  | none => cases h
  | some x => exact ⟨x, rfl, h⟩
theorem bin2_out {f : Value → Value → PV} {o o' : Option Value} {ob : Prop} {v : Value} (h : bin2 f o o' = some (ob, v)) : ∃ x y, o = some x ∧ o' = some y ∧ f x y = some (ob, v) := by
  cases o with
  | none => cases h
  | some x => cases o' with
    | none => cases h
    | some y => exact ⟨x, y, rfl, rfl, h⟩
theorem mvW_out {o : Option Value} (h : mvW o w K) : ∃ v, o = some v ∧ K v w := by
  unfold mvW at h
  split at h
  · exact ⟨_, rfl, h⟩
  · exact h.elim
theorem un1W_out {f : Value → Prop} {o : Option Value} (h : un1W f o) : ∃ v, o = some v ∧ f v := by
  cases o with
  | none => exact h.elim
  | some v => exact ⟨v, rfl, h⟩
theorem ls1W_out {f : List Value → Prop} {o : Option (List Value)} (h : ls1W f o) : ∃ v, o = some v ∧ f v := by
  cases o with
  | none => exact h.elim
  | some v => exact ⟨v, rfl, h⟩
theorem ptrW_out {f : Addr → Prop} {o : Option Value} (h : ptrW f o) : ∃ p, o = some (.pointer (some p)) ∧ f p := by
  unfold ptrW at h
  split at h
  · exact ⟨_, rfl, h⟩
  · exact h.elim

theorem evs_map {ρ : Env} {a : Operand → Value} (ha : ∀ x v, ev ρ x = some v → a x = v) : ∀ {xs : List Operand} {vs : List Value}, evs ρ xs = some vs → xs.map a = vs
  | [], vs, h => by simp only [evs, Option.some.injEq] at h; subst h; rfl
  | x :: r, vs, h => by
    simp only [evs] at h
    split at h
    · rename_i v us hv hus
      simp only [Option.some.injEq] at h; subst h
      rw [List.map_cons, ha _ _ hv, evs_map ha hus]
    · cases h
theorem evs_map' {ρ : Env} {a : Operand → Value} (ha : ∀ x v, ev ρ x = some v → a x = v) {xs : Array Operand} {vs : List Value} (h : evs ρ xs.toList = some vs) : xs.map a = vs.toArray := by
  have := evs_map ha h
  rw [← Array.toList_map] at this
  rw [← this]

theorem run_loadVar_cells {t : TypeId} {p : Addr} {cs : List Value} {d : TypeDesc} (hu : P.underlying t = some d) (ha : isAggT P t = true) (hs : sizeT P t = some cs.length) (hc : cellsAt w p cs) :
    (loadVar t p).run P w = .ok (.agg cs.toArray) w := by
  unfold sizeT at hs
  split at hs
  · rename_i i hi
    simp only [Option.some.injEq] at hs
    simp only [loadVar, Sem.run_bind, run_isAgg w hu, Result.andThen, ha, if_true, run_sizeOf w hi, hs, run_loadCells_list w p cs hc]; rfl
  · cases hs

theorem run_loadVar_one {t : TypeId} {p : Addr} {v : Value} {d : TypeDesc} (hu : P.underlying t = some d) (ha : isAggT P t = false) (hc : w.cell? p = some v) :
    (loadVar t p).run P w = .ok v w := by
  simp only [loadVar, Sem.run_bind, run_isAgg w hu, Result.andThen, ha, Bool.false_eq_true, if_false, run_load, hc]

theorem tyK_int {t : TypeId} {k : IntKind} (h : tyK P t = .int k) : P.underlying t = some (.int k) := by
  unfold tyK at h
  split at h <;> try (cases h; done)
  · cases h; assumption
  all_goals (split at h <;> cases h)
theorem tyK_str {t : TypeId} (h : tyK P t = .str) : P.underlying t = some .string := by
  unfold tyK at h
  split at h <;> try (cases h; done)
  · assumption
  all_goals (split at h <;> cases h)
theorem tyK_slice {t e : TypeId} {b : Bool} (h : tyK P t = .slice b e) : P.underlying t = some (.slice e) ∧ isU8 P e = b := by
  unfold tyK at h
  split at h <;> try (cases h; done)
  · cases h; exact ⟨by assumption, rfl⟩
  all_goals (split at h <;> cases h)
theorem tyK_agg {t : TypeId} {n : Nat} (h : tyK P t = .agg n) : (∃ d, P.underlying t = some d) ∧ isAggT P t = true ∧ sizeT P t = some n := by
  unfold tyK at h
  split at h <;> try (cases h; done)
  all_goals
    rename_i hu
    split at h
    · cases h; rename_i hn; exact ⟨⟨_, hu⟩, by simp [isAggT, isTy, hu], hn⟩
    · cases h
theorem tyK_one {t : TypeId} (h1 : ∀ n, tyK P t ≠ .agg n) (h2 : tyK P t ≠ .none) : (∃ d, P.underlying t = some d) ∧ isAggT P t = false := by
  unfold tyK at h1 h2
  cases hu : P.underlying t with
  | none => rw [hu] at h2; exact (h2 rfl).elim
  | some d =>
    refine ⟨⟨d, rfl⟩, ?_⟩
    rw [hu] at h1 h2
    cases d <;> simp [isAggT, isTy, hu]
    all_goals
      simp only at h1 h2
      split at h1
      · exact h1 _ rfl
      · rename_i hs; rw [hs] at h2; exact h2 rfl

theorem loadW_out {t : TypeId} {p : Addr} (h : loadW P t p w K) : ∃ v, (loadVar t p).run P w = .ok v w ∧ K v w := by
  unfold loadW at h
  have one : (∀ n, tyK P t ≠ .agg n) → tyK P t ≠ .none → ∀ v, w.cell? p = some v → K v w → ∃ v, (loadVar t p).run P w = .ok v w ∧ K v w := by
    intro h1 h2 v hv hk
    obtain ⟨⟨d, hd⟩, ha⟩ := tyK_one h1 h2
    exact ⟨v, run_loadVar_one hd ha hv, hk⟩
  cases hk : tyK P t with
  | none => rw [hk] at h; exact h.elim
  | agg n =>
    rw [hk] at h
    obtain ⟨cs, h1, h2, h3⟩ := h
    obtain ⟨⟨d, hd⟩, ha, hn⟩ := tyK_agg hk
    exact ⟨_, run_loadVar_cells hd ha (by rw [hn, h2]) h1, h3⟩
  | slice b e =>
    rw [hk] at h
    obtain ⟨_, _, _, h1, h2⟩ := h
    exact one (by rw [hk]; intro n hn; cases hn) (by rw [hk]; intro hn; cases hn) _ h1 h2
  | _ =>
    rw [hk] at h
    obtain ⟨_, h1, h2⟩ := h
    exact one (by rw [hk]; intro n hn; cases hn) (by rw [hk]; intro hn; cases hn) _ h1 h2

theorem cell_setCell_some {w : World} {p q : Addr} {x v : Value} (h : w.cell? q = some v) : ∃ v', (w.setCell p x).cell? q = some v' := by
  by_cases e : p = q
  · subst e; exact ⟨x, World.cell?_setCell_same w p x h⟩
  · exact ⟨v, (World.cell?_setCell_other w p q x e).trans h⟩

theorem run_storeCells_W : ∀ (vs : List Value) (i : Nat) (w : World) (p : Addr), (∀ u ∈ vs, u.oneCell' = true) →
    (∀ j, j < vs.length → (∃ old, w.cell? (p.add (i + j)) = some old) ∧ w.frozen? (p.add (i + j)) = false) →
    (storeCells p vs i).run P w = .ok () (setCellsW w p i vs)
  | [], i, w, p, _, _ => rfl
  | v :: r, i, w, p, h1, h2 => by
    obtain ⟨⟨old, ho⟩, hf⟩ := h2 0 (by simp)
    simp only [Nat.add_zero] at ho hf
    have hst : (store (p.add i) v).run P w = .ok () (w.setCell (p.add i) v) := by
      rw [run_store P w _ v .plain (h1 v (by simp))]
      simp [ho, hf]
    simp only [storeCells, Sem.run_bind, hst, Result.andThen, setCellsW]
    refine run_storeCells_W r (i + 1) _ p (fun u hu => h1 u (by simp [hu])) fun j hj => ?_
    have := h2 (j + 1) (by simp; omega)
    rw [show i + 1 + j = i + (j + 1) by omega]
    refine ⟨?_, ?_⟩
    · obtain ⟨⟨old', ho'⟩, _⟩ := this
      obtain ⟨v', hv'⟩ := cell_setCell_some (w := w) (p := p.add i) (x := v) (q := p.add (i + (j + 1))) (v := old') ho'
      exact ⟨_, hv'⟩
    · rw [World.frozen?_setCell]; exact this.2

theorem storeW_out {t : TypeId} {p : Addr} {v : Value} (h : storeW P t p v w K) : ∃ w', (Instr.storeAt t (.pointer (some p)) v).run P w = .ok () w' ∧ K undef w' := by
  obtain ⟨h1, h2, h3, h4⟩ := h
  refine ⟨_, ?_, h4⟩
  unfold sizeT at h1
  split at h1
  · rename_i i hi
    simp only [Option.some.injEq] at h1
    simp only [Instr.storeAt, Instr.sureAddr, Sem.run_bind, Sem.run_pure, Result.andThen, storeVar, run_sizeOf w hi, h1, ne_eq, not_true, if_false]
    exact run_storeCells_W _ 0 w p h2 (fun j hj => by rw [Nat.zero_add]; exact h3 j (by simpa using hj))
  · cases h1

theorem isU8_some {t : TypeId} (h : isU8 P t = true) : P.underlying t = some (.int .u8) := by
  obtain ⟨d, hd, hp⟩ := ty_of h
  cases d with
  | int k => cases k <;> first | exact hd | cases hp
  | _ => cases hp

theorem run_mark_new (w : World) (C : Array Value) (e : TypeId) : (markStringish ⟨w.heap.size, 0, none⟩).run P (w.alloc (.cells C e)) = .ok () (w.alloc (.cells C e (C.size, C.size + 1))) := by
  have hsh : (w.alloc (.cells C e)).shape? w.heap.size = some (e, C.size) := by
    have : (w.alloc (.cells C e)).heap[w.heap.size]? = some (.cells C e) := by
      show (w.heap.push (.cells C e))[w.heap.size]? = _
      simp
    unfold World.shape?
    rw [this]
  have hfr : ∀ (k : Nat), (w.alloc (.cells C e)).freeze ⟨w.heap.size, k, none⟩ 1 = w.alloc (.cells C e (k, k + 1)) := fun k => by
    have hm : ∀ (a : Array Obj) (x : Obj) (f : Obj → Obj), (a.push x).modify a.size f = a.push (f x) := by
      intro a x f
      apply Array.ext
      · simp
      · intro i h1 h2
        simp only [Array.getElem_modify, Array.getElem_push]
        by_cases h : a.size = i
        · subst h
          simp
        · have hi : i < a.size := by simp at h1; omega
          simp [h, hi]
    unfold World.freeze
    rw [if_neg (by decide)]
    show ({ w.alloc (.cells C e) with heap := (w.heap.push (.cells C e)).modify w.heap.size _ } : World) = _
    rw [hm]
    rfl
  simp only [markStringish, Sem.run_bind, run_shape, hsh, Result.andThen, run_freeze]
  exact congrArg _ (hfr _)

theorem run_convert_bytes {s d e : TypeId} {b : ByteArray} (hs : P.underlying s = some .string) (hd : P.underlying d = some (.slice e)) (he : P.underlying e = some (.int .u8)) :
    ∃ c, (toL b).length ≤ c ∧ (convert s d (.string b)).run P w = .ok (.slice (some ⟨w.heap.size, 0, none⟩) (toL b).length c) (bytesW w (toL b) c e) := by
  refine ⟨grownCap w b.size 0 e, by rw [← size_toL]; exact grownCap_ge w _ _ _, ?_⟩
  have hge := grownCap_ge w b.size 0 e
  have hrow : b.data.map (fun b => Value.int .u8 b.toNat) ++ Array.replicate (grownCap w b.size 0 e - b.size) (.int .u8 0) = byteRow (toL b) (grownCap w b.size 0 e) := by
    unfold byteRow
    rw [← size_toL]
    congr 1
    apply Array.toList_inj.1
    simp [toL]
  have hsz : (byteRow (toL b) (grownCap w b.size 0 e)).size = grownCap w b.size 0 e := by
    rw [← hrow]; simp only [Array.size_append, Array.size_map, Array.size_replicate]
    have : b.data.size = b.size := rfl
    omega
  have hq : (Question.appendCap b.size 0 e).forced = false := rfl
  have hmk := run_mark_new (P := P) w.drew (byteRow (toL b) (grownCap w b.size 0 e)) e
  rw [hsz] at hmk
  rw [← size_toL]
  simp only [convert, Sem.run_bind, run_underlying hs, run_underlying hd, run_underlying he, Result.andThen, Conv.stringToBytes, run_choose_drew, hq, Bool.false_eq_true, if_false]
  rw [show (Question.appendCap b.size 0 e).cut (w.tape w.drawn (.appendCap b.size 0 e)) = grownCap w b.size 0 e from rfl, hrow]
  simp only [newRow, Sem.run_bind, run_newObj_alloc, Result.andThen, Sem.run_pure]
  simp only [World.size_drew] at hmk ⊢
  rw [hmk]
  rfl

theorem convW_out {s d : TypeId} {x : Value} (h : convW P s d x w K) : ∃ v w', (convert s d x).run P w = .ok v w' ∧ K v w' := by
  unfold convW at h
  generalize hs : tyK P s = ks at h
  generalize hd : tyK P d = kd at h
  unfold convK at h
  split at h
  · have hs' := tyK_int hs
    have hd' := tyK_int hd
    rename_i k' n
    have hk : P.intKind d = .i64 := by simp [Program.intKind, hd']
    have hr := run_convert_int w s d k' n (by rw [hs']; rfl) (by rw [hk]; exact hd')
    rw [hk, wrap_i64 _ h.1] at hr
    exact ⟨_, _, hr, h.2⟩
  · have hs' := tyK_int hs
    have hd' := tyK_int hd
    rename_i k k' n _
    have hk : P.intKind d = k := by simp [Program.intKind, hd']
    have hr := run_convert_int w s d k' n (by rw [hs']; rfl) (by rw [hk]; exact hd')
    rw [hk] at hr
    exact ⟨_, _, hr, h⟩
  · refine ⟨_, _, ?_, h⟩
    simp only [convert, Sem.run_bind, run_underlying (tyK_str hs), run_underlying (tyK_str hd), Result.andThen]; rfl
  · obtain ⟨hu, h8⟩ := tyK_slice hd
    rename_i e b
    obtain ⟨c, hc, hr⟩ := run_convert_bytes (w := w) (b := b) (tyK_str hs) hu (isU8_some h8)
    exact ⟨_, _, hr, h c hc⟩
  · obtain ⟨hu, h8⟩ := tyK_slice hs
    rename_i e a n c
    obtain ⟨l, hl, hb, hk⟩ := h
    refine ⟨_, _, ?_, hk⟩
    rw [run_convert_bytes_string w s d e a n c hu (isU8_some h8) (tyK_str hd)]
    cases a with
    | none =>
      simp only [bytesAt] at hb; subst hb
      rfl
    | some a =>
      have hld : (loadCells a n).run P w = .ok ((l.map fun b => (b.toNat : Int)).map (Value.int .u8)).toArray w := by
        subst hl
        have := run_loadCells_list (P := P) w a ((l.map fun b => (b.toNat : Int)).map (Value.int .u8)) (fun j v hj => by
          simp only [List.getElem?_map, Option.map_eq_some_iff] at hj
          obtain ⟨u, ⟨b, hb1, rfl⟩, rfl⟩ := hj
          exact hb j b hb1)
        simpa using this
      rw [run_bytesToString w a n c _ hld, foldl_push_bytes]
      refine congrArg (fun x => Result.ok (Value.string x) w) (toL_inj ?_)
      simp [toL, ofL, ByteArray.empty, ByteArray.emptyWithCapacity, Function.comp_def]
      rfl
  · exact h.elim
end
end Go.Ann
